/-
  A nil tree: the law, by plain functions. Plain Lean.
-/
import Derived.Test.YtjgbakieogadfabGreatDoorKeyLive
namespace Go.Proofs.YtjgbakieogadfabGreatDoor
open Go L Go.Sort
theorem law_keysnone (s b : List UInt8) (_hs : s.length ≤ 9223372036854775807) : ∃ K, holdfastlaw09_KeysNone K s b = some true := by
  refine ⟨0 + 1200, ?_⟩
  have hc : ∀ K a b, keys_Tree_Current_nil0 K a b = some (0, 1) := fun K a b => rfl
  have h1 : ∀ K a b, keys_Tree_Rotate_nil0 K a b = some (0, 1) := fun K a b => rfl
  have h2 : ∀ K a b n, ∃ z, keys_Tree_Key_nil0 K a b n = some (z, 1) := fun K a b n => ⟨_, rfl⟩
  have h3 : ∀ K a b p, keys_Tree_Seal_nil0 K a b p = some ([], 1) := fun K a b p => rfl
  have h4 : ∀ K a b p, keys_Tree_Open_nil0 K a b p = some ([], 0, 1) := fun K a b p => by
    unfold keys_Tree_Open_nil0 keys_Tree_Open_nil0.j1; rw [hc]; rfl
  have h5 : ∀ K a b p, keys_Tree_Reseal_nil0 K a b p = some ([], false, 1) := fun K a b p => by
    unfold keys_Tree_Reseal_nil0; rw [h4]; rfl
  have h6 : ∀ K a, keys_Tree_Destroy_nil0 K a = some 1 := fun K a => rfl
  have h7 : ∀ K, keys_Tree_Rows_nil0 K = some () := fun K => rfl
  unfold holdfastlaw09_KeysNone
  obtain ⟨z, hz⟩ := h2 (0 + 1200) s s 1
  rw [hc, Option.bind_some, h1, Option.bind_some, hz, Option.bind_some, h3, Option.bind_some, h4, Option.bind_some, h5, Option.bind_some, live_true 0, Option.bind_some]
  simp [h6, h7]
end Go.Proofs.YtjgbakieogadfabGreatDoor

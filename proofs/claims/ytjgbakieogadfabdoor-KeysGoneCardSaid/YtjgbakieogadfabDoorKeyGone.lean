/-
  Behind Destroy nothing of a tenant opens: the law, by plain functions. Plain Lean.
-/
import Derived.Test.YtjgbakieogadfabDoorKeyLive
namespace Go.Proofs.YtjgbakieogadfabDoor
open Go L Go.Sort
theorem law_gone (root p : List UInt8) (hr : root.length = 32) : ∃ K, holdfastlaw09_KeysGone K root p = some true := by
  refine ⟨0 + 1200, ?_⟩
  unfold holdfastlaw09_KeysGone keys_New
  rw [Option.bind_some]
  show ((keys_Tree_Seal (0 + 1200) (⟨root, 0, [], []⟩ : S_keys_Tree) nA nM p).bind _) = _
  have w0 : WF (⟨root, 0, [], []⟩ : S_keys_Tree) := fun p hp => by cases hp
  have w1 : WF (⟨root, 1, [], []⟩ : S_keys_Tree) := fun p hp => by cases hp
  have ca : curS ⟨root, 0, [], []⟩ nA nM = (1, 0) := rfl
  have cb : curS ⟨root, 0, [], []⟩ nB nM = (1, 0) := rfl
  have cb1 : curS ⟨root, 1, [], []⟩ nB nM = (1, 0) := rfl
  rw [sealT_eq 0 _ hr w0]
  by_cases hl : p.length ≤ 1024
  · have s0 := seal_ok (t := ⟨root, 0, [], []⟩) (a := nA) (b := nM) (p := p) (by rw [ca]) hl (show (0 : Int) < 1099511627776 by decide)
    rw [s0, Option.bind_some]
    show ((keys_Tree_Seal (0 + 1200) (⟨root, 1, [], []⟩ : S_keys_Tree) nB nM p).bind _) = _
    rw [sealT_eq 0 _ hr w1]
    have s1 := seal_ok (t := ⟨root, 1, [], []⟩) (a := nB) (b := nM) (p := p) (by rw [cb1]) hl (show (1 : Int) < 1099511627776 by decide)
    rw [s1, Option.bind_some, if_neg (by simp)]
    show ((keys_Tree_Destroy (0 + 1200) (⟨root, 2, [], []⟩ : S_keys_Tree) nA).bind _) = _
    rw [destroy_eq0 (0 + 1200) (⟨root, 2, [], []⟩ : S_keys_Tree) nA nA_ok rfl (show (0 : Nat) < 16 by decide) rfl, Option.bind_some]
    have wg : ∀ n, WF (⟨root, n, [(nA, true)], []⟩ : S_keys_Tree) := fun n p hp => by cases hp
    have cg : ∀ n, curS ⟨root, n, [(nA, true)], []⟩ nA nM = (0, 12) := fun n => rfl
    have cg' : ∀ n, curS ⟨root, n, [(nA, true)], []⟩ nB nM = (1, 0) := fun n => rfl
    show ((keys_Tree_Open (0 + 1200) (⟨root, 2, [(nA, true)], []⟩ : S_keys_Tree) nA nM _).bind _) = _
    rw [openT_eq 0 _ hr (wg 2) _ _ _ (by rw [List.length_cons, sealS_len]; omega)]
    have o1 : ∀ s, openTS ⟨root, 2, [(nA, true)], []⟩ nA nM s = ([], 0, 12) := fun s => by unfold openTS; rw [cg]; rfl
    rw [o1, Option.bind_some]
    show ((keys_Tree_Seal (0 + 1200) (⟨root, 2, [(nA, true)], []⟩ : S_keys_Tree) nA nM p).bind _) = _
    rw [sealT_eq 0 _ hr (wg 2)]
    have s2 : sealTS ⟨root, 2, [(nA, true)], []⟩ nA nM p = ([], 12, ⟨root, 2, [(nA, true)], []⟩) := by unfold sealTS; rw [cg]; rfl
    rw [s2, Option.bind_some]
    show ((keys_Tree_Open (0 + 1200) (⟨root, 2, [(nA, true)], []⟩ : S_keys_Tree) nB nM _).bind _) = _
    rw [openT_eq 0 _ hr (wg 2) _ _ _ (by rw [List.length_cons, sealS_len]; omega)]
    have o2 := open_seal (t := ⟨root, 1, [], []⟩) (t' := ⟨root, 2, [(nA, true)], []⟩) w1 (a := nB) (b := nM) (p := p) (by rw [s1]) rfl (by rw [cg']) (by rw [cb1, cg']; decide)
    rw [s1] at o2
    rw [o2, Option.bind_some, live_true 0, Option.bind_some]
    have d2 : keys_Tree_Destroy (0 + 1200) (⟨root, 2, [(nA, true)], []⟩ : S_keys_Tree) nA = some (12, ⟨root, 2, [(nA, true)], []⟩) := by
      unfold keys_Tree_Destroy; rw [IsName_eq, Option.bind_some, nA_ok]; rfl
    have sm := same_dec (0 + 1200) p p (by omega) (by omega)
    rw [decide_eq_true rfl] at sm
    show (((if (((true && decide ((0 : Int) = 0)) && decide ((12 : Int) = 12)) && decide ((12 : Int) = 12)) = true then
      ((keys_Tree_Destroy (0 + 1200) (⟨root, 2, [(nA, true)], []⟩ : S_keys_Tree) nA).bind fun r_9 => some (decide (r_9.1 = (12 : Int)))) else some false).bind fun b10 =>
        ((if (b10 && decide ((0 : Int) = 0)) = true then ((holdfastref01_SameBytes (0 + 1200) p p).bind fun r_10 => some r_10) else some false).bind fun b13 => some b13)) = _)
    rw [d2, sm]; rfl
  · have s0 := seal_long_ (t := ⟨root, 0, [], []⟩) (a := nA) (b := nM) (p := p) (by rw [ca]) (by omega)
    rw [s0, Option.bind_some]
    show ((keys_Tree_Seal (0 + 1200) (⟨root, 0, [], []⟩ : S_keys_Tree) nB nM p).bind _) = _
    rw [sealT_eq 0 _ hr w0]
    have s1 := seal_long_ (t := ⟨root, 0, [], []⟩) (a := nB) (b := nM) (p := p) (by rw [cb]) (by omega)
    rw [s1, Option.bind_some, if_pos (by simp), live_true 0]; rfl
end Go.Proofs.YtjgbakieogadfabDoor

/-
  Keys: what must be whatever is asked. Plain Lean.
-/
import Derived.Test.YtjgbakieogadfabGreatDoorKeyA
namespace Go.Proofs.YtjgbakieogadfabGreatDoor
open Go L Go.Sort
def nA : List UInt8 := [97]
def nB : List UInt8 := [98]
def nM : List UInt8 := [109, 97, 105, 108]
theorem nA_ok : nameS nA = true := by decide
theorem nB_ok : nameS nB = true := by decide
theorem nM_ok : nameS nM = true := by decide
def rL : List UInt8 := [(1 : UInt8), (0 : UInt8), (0 : UInt8), (0 : UInt8), (0 : UInt8), (0 : UInt8), (0 : UInt8), (0 : UInt8), (0 : UInt8), (0 : UInt8), (0 : UInt8), (0 : UInt8), (0 : UInt8), (0 : UInt8), (0 : UInt8), (0 : UInt8), (0 : UInt8), (0 : UInt8), (0 : UInt8), (0 : UInt8), (0 : UInt8), (0 : UInt8), (0 : UInt8), (0 : UInt8), (0 : UInt8), (0 : UInt8), (0 : UInt8), (0 : UInt8), (0 : UInt8), (0 : UInt8), (0 : UInt8), (0 : UInt8)]
theorem seal_ok {t : S_keys_Tree} {a b p : List UInt8} (hc : (curS t a b).2 = 0) (hp : p.length ≤ 1024) (hs : t.sealed < 1099511627776) :
    sealTS t a b p = (iU8 (curS t a b).1 :: sealS (keyS t.root a b (curS t a b).1.toNat) (iU64 t.sealed) p, 0, ⟨t.root, W (t.sealed + 1), t.gone, t.at_⟩) := by
  have e : sealA (keyS t.root a b (curS t a b).1.toNat) (iU64 t.sealed) p = (sealS (keyS t.root a b (curS t a b).1.toNat) (iU64 t.sealed) p, 0) := by unfold sealA; rw [if_pos hp]
  unfold sealTS
  rw [if_neg (show ¬ (curS t a b).2 ≠ 0 by simp [hc]), e, if_neg (show ¬ (0 : Int) ≠ 0 by simp), if_neg (show ¬ 1099511627776 ≤ t.sealed by omega)]
theorem seal_long_ {t : S_keys_Tree} {a b p : List UInt8} (hc : (curS t a b).2 = 0) (hp : 1024 < p.length) : sealTS t a b p = ([], 6, t) := by
  have e : sealA (keyS t.root a b (curS t a b).1.toNat) (iU64 t.sealed) p = ([], 6) := by unfold sealA; rw [if_neg (by omega)]
  unfold sealTS
  rw [if_neg (show ¬ (curS t a b).2 ≠ 0 by simp [hc]), e, if_pos (show (6 : Int) ≠ 0 by decide)]
theorem live_true (k : Nat) : holdfastlaw09_live (k + 1200) = some true := by
  unfold holdfastlaw09_live
  rw [Option.bind_some]
  unfold keys_New
  have w0 : WF (⟨rL, 0, [], []⟩ : S_keys_Tree) := fun p hp => by cases hp
  have c0 : curS ⟨rL, 0, [], []⟩ nA nM = (1, 0) := by decide
  have s0 := seal_ok (t := ⟨rL, 0, [], []⟩) (a := nA) (b := nM) (p := [120]) (by rw [c0]) (by decide) (by decide)
  rw [Option.bind_some, Option.bind_some]
  have h1 := sealT_eq k (⟨rL, 0, [], []⟩ : S_keys_Tree) rfl w0 nA nM [120]
  rw [s0] at h1
  have h2 : keys_Tree_Rotate (k + 1200) (⟨rL, W ((0 : Int) + 1), [], []⟩ : S_keys_Tree) nA nM = some (2, 0, ⟨rL, W ((0 : Int) + 1), [], [(⟨nA, nM⟩, 2)]⟩) := by
    unfold keys_Tree_Rotate
    rw [show (⟨(⟨rL, W ((0 : Int) + 1), [], []⟩ : S_keys_Tree).root, (⟨rL, W ((0 : Int) + 1), [], []⟩ : S_keys_Tree).sealed, (⟨rL, W ((0 : Int) + 1), [], []⟩ : S_keys_Tree).gone, (⟨rL, W ((0 : Int) + 1), [], []⟩ : S_keys_Tree).at_⟩ : S_keys_Tree) = ⟨rL, W ((0 : Int) + 1), [], []⟩ from rfl, cur_eq]
    have c1 : curS (⟨rL, W ((0 : Int) + 1), [], []⟩ : S_keys_Tree) nA nM = (1, 0) := by decide
    rw [c1]; rfl
  have w2 : WF (⟨rL, W ((0 : Int) + 1), [], [(⟨nA, nM⟩, 2)]⟩ : S_keys_Tree) := fun p hp => by
    simp only [List.mem_singleton] at hp; subst hp; exact ⟨by decide, by decide⟩
  have c2 : curS (⟨rL, W ((0 : Int) + 1), [], [(⟨nA, nM⟩, 2)]⟩ : S_keys_Tree) nA nM = (2, 0) := by decide
  have o := open_seal (t := ⟨rL, 0, [], []⟩) (t' := ⟨rL, W ((0 : Int) + 1), [], [(⟨nA, nM⟩, 2)]⟩) w0 (a := nA) (b := nM) (p := [120]) (by rw [s0]) rfl (by rw [c2]) (by rw [c0, c2]; decide)
  rw [s0, c0] at o
  have h3 := openT_eq k (⟨rL, W ((0 : Int) + 1), [], [(⟨nA, nM⟩, 2)]⟩ : S_keys_Tree) rfl w2 nA nM _ (show (iU8 (curS (⟨rL, 0, [], []⟩ : S_keys_Tree) nA nM).1 :: sealS (keyS rL nA nM (curS (⟨rL, 0, [], []⟩ : S_keys_Tree) nA nM).1.toNat) (iU64 0) [120]).length < 1000000000000000 by
    rw [List.length_cons, sealS_len]; decide)
  rw [show (iU8 (curS (⟨rL, 0, [], []⟩ : S_keys_Tree) nA nM).1 :: sealS (keyS rL nA nM (curS (⟨rL, 0, [], []⟩ : S_keys_Tree) nA nM).1.toNat) (iU64 0) [120]) = (iU8 ((1, 0) : Int × Int).1 :: sealS (keyS rL nA nM ((1, 0) : Int × Int).1.toNat) (iU64 0) [120]) by rw [c0], o] at h3
  rw [c0] at h1
  show ((keys_Tree_Seal (k + 1200) (⟨rL, 0, [], []⟩ : S_keys_Tree) nA nM [120]).bind _) = _
  rw [h1, Option.bind_some]
  show ((keys_Tree_Rotate (k + 1200) (⟨rL, W ((0 : Int) + 1), [], []⟩ : S_keys_Tree) nA nM).bind _) = _
  rw [h2, Option.bind_some]
  show ((keys_Tree_Open (k + 1200) (⟨rL, W ((0 : Int) + 1), [], [(⟨nA, nM⟩, 2)]⟩ : S_keys_Tree) nA nM (iU8 ((1, 0) : Int × Int).1 :: sealS (keyS rL nA nM ((1, 0) : Int × Int).1.toNat) (iU64 0) [120])).bind _) = _
  rw [h3]; rfl
end Go.Proofs.YtjgbakieogadfabGreatDoor

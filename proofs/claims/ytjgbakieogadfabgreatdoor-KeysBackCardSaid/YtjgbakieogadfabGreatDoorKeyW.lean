/-
  The rows of the program's tree of keys. Plain Lean.
-/
import Derived.Test.YtjgbakieogadfabGreatDoorKeyA
import Derived.Test.YtjgbakieogadfabGreatDoorSrtR
namespace Go.Proofs.YtjgbakieogadfabGreatDoor
open Go L Go.Sort
def numN (n : Nat) : List UInt8 := (keys_number 1200 (n : Int)).getD []
theorem numA_all (k : Nat) : ((List.range 100).all fun n => decide (keys_number (k + 1200) (n : Int) = some (numN n))) = true := by kernel_rfl
theorem numA (k : Nat) {n : Int} (h0 : 0 ≤ n) (h : n < 100) : keys_number (k + 1200) n = some (numN n.toNat) := by
  have h := List.all_eq_true.1 (numA_all k) n.toNat (List.mem_range.2 (by omega))
  rw [decide_eq_true_eq, Int.toNat_of_nonneg h0] at h; exact h
theorem name47 {s : List UInt8} (h : nameS s = true) : (47 : UInt8) ∉ s ∧ s.length ≤ 9 ∧ s ≠ [35] := by
  unfold nameS at h
  simp only [Bool.and_eq_true, decide_eq_true_eq, List.all_eq_true] at h
  refine ⟨fun hm => ?_, h.1.2, fun e => ?_⟩
  · have := h.2 47 hm
    revert this; decide
  · subst e; have := h.2 35 List.mem_cons_self
    revert this; decide
def rowG (x : List UInt8 × Bool) : S_api_Row := ⟨x.1, []⟩
def keyV (k : S_keys_purpose) : List UInt8 := (k.tenant ++ [47]) ++ k.name
def rowV (x : S_keys_purpose × Int) : S_api_Row := ⟨keyV x.1, [numN x.2.toNat]⟩
def rowN (t : S_keys_Tree) : S_api_Row := ⟨[35], [numN t.sealed.toNat]⟩
def rowsK (t : S_keys_Tree) : List S_api_Row := rowN t :: (t.gone.map rowG ++ t.at_.map rowV)
theorem rowG_fold (K : Nat) : ∀ (l : List (List UInt8 × Bool)) (out : List S_api_Row), out.length + l.length ≤ 3518437208883 → mfold (keys_Tree_Rows.m1 K) l out = some (.go (out ++ l.map rowG))
  | [], out, _ => by simp [mfold]
  | y :: l, out, hl => by
    simp only [List.length_cons] at hl
    have a3 : app 3518437208883 out ([rowG y] : List S_api_Row) = some (out ++ [rowG y]) := appn (by simp only [List.length_cons, List.length_nil]; omega)
    have hB : keys_Tree_Rows.m1 K y out = some (.go (out ++ [rowG y])) := congrArg (fun z => Option.bind z _) a3 |>.trans rfl
    simp only [mfold, hB, Option.bind_some, lrc]
    rw [rowG_fold K l _ (by simp only [List.length_append, List.length_cons, List.length_nil]; omega), List.map_cons, List.append_assoc]; rfl
theorem rowV_fold (k : Nat) : ∀ (l : List (S_keys_purpose × Int)) (out : List S_api_Row), (∀ p ∈ l, 0 ≤ p.2 ∧ p.2 < 100 ∧ nameS p.1.tenant = true ∧ nameS p.1.name = true) → out.length + l.length ≤ 3518437208883 → mfold (keys_Tree_Rows.m2 (k + 1200)) l out = some (.go (out ++ l.map rowV))
  | [], out, _, _ => by simp [mfold]
  | y :: l, out, hn, hl => by
    obtain ⟨h1, h2, h3, h4⟩ := hn y List.mem_cons_self
    have l1 := (name47 h3).2.1; have l2 := (name47 h4).2.1
    simp only [List.length_cons] at hl
    have a1 : app 9223372036854775807 y.1.tenant ([47] : List UInt8) = some (y.1.tenant ++ [47]) := appn (by simp only [List.length_cons, List.length_nil]; omega)
    have a2 : app 9223372036854775807 (y.1.tenant ++ [47]) y.1.name = some (keyV y.1) := appn (by simp only [List.length_append, List.length_cons, List.length_nil]; omega)
    have a3 : app 3518437208883 out ([rowV y] : List S_api_Row) = some (out ++ [rowV y]) := appn (by simp only [List.length_cons, List.length_nil]; omega)
    have hB : keys_Tree_Rows.m2 (k + 1200) y out = some (.go (out ++ [rowV y])) := by
      unfold keys_Tree_Rows.m2
      simp only [a1, a2, numA k h1 h2, Option.bind_some]
      exact congrArg (fun z => Option.bind z _) a3 |>.trans rfl
    simp only [mfold, hB, Option.bind_some, lrc]
    rw [rowV_fold k l _ (fun p hp => hn p (List.mem_cons_of_mem _ hp)) (by simp only [List.length_append, List.length_cons, List.length_nil]; omega), List.map_cons, List.append_assoc]; rfl
structure RelA (t : S_keys_Tree) : Prop where
  s0 : 0 ≤ t.sealed
  gt : ∀ p, p ∈ t.gone → p.2 = true ∧ nameS p.1 = true
  gn : NDK t.gone
  gl : t.gone.length ≤ 16
  an : NDK t.at_
  al : t.at_.length ≤ 16
  aw : ∀ p, p ∈ t.at_ → 2 ≤ p.2 ∧ p.2 ≤ 16 ∧ nameS p.1.tenant = true ∧ nameS p.1.name = true
variable {t : S_keys_Tree}
theorem rowsK_nd (h : RelA t) : ((rowsK t).map (·.Key)).Nodup := by
  have hG : ∀ x ∈ t.gone.map rowG, nameS x.Key = true := fun x hx => by obtain ⟨p, hp, rfl⟩ := List.mem_map.1 hx; exact (h.gt p hp).2
  have hV : ∀ x ∈ t.at_.map rowV, (47 : UInt8) ∈ x.Key := fun x hx => by obtain ⟨p, hp, rfl⟩ := List.mem_map.1 hx; simp [rowV, keyV]
  unfold rowsK
  rw [List.map_cons, List.nodup_cons, List.map_append, List.nodup_append]
  refine ⟨fun hm => ?_, ?_, ?_, fun a ha b hb e => ?_⟩
  · rw [← List.map_append] at hm
    obtain ⟨x, hx, e⟩ := List.mem_map.1 hm
    rcases List.mem_append.1 hx with hx | hx
    · exact (name47 (hG x hx)).2.2 e
    · have := hV x hx; rw [e] at this; simp [rowN] at this
  · rw [List.map_map]; exact h.gn
  · rw [List.map_map, show (fun x : S_api_Row => x.Key) ∘ rowV = keyV ∘ (·.1) from rfl, ← List.map_map]
    refine nodup_map h.an fun a ha b hb e => ?_
    obtain ⟨p, hp, rfl⟩ := List.mem_map.1 ha
    obtain ⟨q, hq, rfl⟩ := List.mem_map.1 hb
    obtain ⟨e1, e2⟩ := cut_inj (name47 (h.aw p hp).2.2.1).1 (name47 (h.aw q hq).2.2.1).1 e
    cases hp1 : p.1; cases hq1 : q.1; simp_all
  · obtain ⟨x, hx, rfl⟩ := List.mem_map.1 ha
    obtain ⟨y, hy, rfl⟩ := List.mem_map.1 hb
    have := hV y hy; rw [← e] at this; exact (name47 (hG x hx)).1 this
theorem rowsA (k : Nat) (h : RelA t) (hs : t.sealed < 100) : keys_Tree_Rows (k + 1200) t = some (sortS cfR (rowsK t)) := by
  unfold keys_Tree_Rows
  rw [numA k h.s0 hs, Option.bind_some, Option.bind_some, Option.bind_some]
  have hl1 := h.gl; have hl2 := h.al
  refine mrngK_eq fun l hp => ?_
  have e1 := hp.length_eq
  rw [show ([⟨[35], [numN t.sealed.toNat]⟩] : List S_api_Row) = [rowN t] from rfl, rowG_fold _ l _ (by simp only [List.length_cons, List.length_nil]; omega)]
  simp only [Option.bind_some, lrc]
  refine mrngK_eq fun l' hp' => ?_
  have e2 := hp'.length_eq
  rw [rowV_fold k l' _ (fun p hm => by have := h.aw p (hp'.mem_iff.1 hm); exact ⟨by omega, by omega, this.2.2⟩) (by simp only [List.length_append, List.length_map, List.length_cons, List.length_nil]; omega)]
  simp only [Option.bind_some, lrc]
  have hP : (rowsK t).Perm ([rowN t] ++ l.map rowG ++ l'.map rowV) := by
    unfold rowsK
    rw [List.append_assoc, List.singleton_append]
    exact ((hp.symm.map _).append (hp'.symm.map _)).cons _
  have hN := rowsK_nd h
  unfold api_Row_41_f42
  rw [if_pos ⟨by rw [← hP.length_eq]; simp only [rowsK, List.length_append, List.length_map, List.length_cons]; omega, (hP.map _).nodup_iff.1 hN⟩, Option.bind_some]
  exact congrArg some (sortS_eq cfR swoR hP (key_injR hN)).symm
end Go.Proofs.YtjgbakieogadfabGreatDoor

/-
  Joined by strip.py from plain texts of another seat.
-/
import Derived.Test.YtjgbakieogadfabGreatDoorSealK
import Derived.Test.YtjgbakieogadfabGreatDoorMapK
namespace Go.Proofs.YtjgbakieogadfabGreatDoor
open Go L Go.Sort
theorem count_z {s : List UInt8} (h : ∀ x ∈ s, x ≠ 0) : Go.Lib.countByte s 0 = 0 := by
  unfold Go.Lib.countByte
  exact List.count_eq_zero.2 fun hm => h 0 hm rfl
theorem replaceAll_eq (K : Nat) (s : List UInt8) (h : ∀ x ∈ s, x ≠ 0) : strings_ReplaceAll K s ([0] : List UInt8) ([0, 255] : List UInt8) = some s := by
  unfold strings_ReplaceAll strings_Replace strings_Count
  simp [count_z h]
theorem key3 (k : Nat) (a b c : List UInt8) (ha : ∀ x ∈ a, x ≠ 0) (hb : ∀ x ∈ b, x ≠ 0) (hc : ∀ x ∈ c, x ≠ 0) (la : a.length ≤ 9) (lb : b.length ≤ 9) (lc : c.length ≤ 17) :
    codec_Key (k + 5) [a, b, c] = some (a ++ [0, 1] ++ (b ++ [0, 1]) ++ (c ++ [0, 1]), 0) := by
  unfold codec_Key
  have e0 : (decide ((([a, b, c] : List (List UInt8)).length : Int) < (1 : Int)) || decide ((8 : Int) < (([a, b, c] : List (List UInt8)).length : Int))) = false := by simp
  rw [if_neg (by rw [e0]; simp)]
  have g0 : gt [a, b, c] (0 : Int) = some a := rfl
  have g1 : gt [a, b, c] (1 : Int) = some b := rfl
  have g2 : gt [a, b, c] (2 : Int) = some c := rfl
  have w1 : W ((0 : Int) + 1) = 1 := rfl
  have w2 : W ((1 : Int) + 1) = 2 := rfl
  have w3 : W ((2 : Int) + 1) = 3 := rfl
  have step : ∀ (K k : Nat) (i : Int) (out p : List UInt8), i < 3 → gt [a, b, c] i = some p → (∀ x ∈ p, x ≠ 0) → p.length ≤ 17 → out.length ≤ 100 →
      codec_Key.l1 K (k + 1) [a, b, c] out i = codec_Key.l1 K k [a, b, c] (out ++ (p ++ [0, 1])) (W (i + 1)) := by
    intro K k i out p hi hg hz hl ho
    rw [codec_Key.l1.eq_2]
    rw [if_pos (by simpa using hi), hg, Option.bind_some, if_neg (by simp only [decide_eq_true_eq]; omega), replaceAll_eq K p hz, Option.bind_some, app_ok (by omega), Option.bind_some, Option.bind_some,
      app_ok (by simp only [List.length_append, List.length_cons, List.length_nil]; omega), Option.bind_some, List.append_assoc]
  rw [step _ (k + 4) 0 [] a (by omega) g0 ha (by omega) (by simp), w1, step _ (k + 3) 1 _ b (by omega) g1 hb (by omega) (by simp; omega), w2, step _ (k + 2) 2 _ c (by omega) g2 hc (by omega) (by simp; omega), w3]
  rw [codec_Key.l1.eq_2, if_neg (by simp)]
  simp only [Option.bind_some, lrc, List.nil_append]
  rw [if_neg (by simp only [decide_eq_true_eq, List.length_append, List.length_cons, List.length_nil]; omega)]
theorem name_nz {s : List UInt8} (h : nameS s = true) : (∀ x ∈ s, x ≠ 0) ∧ s.length ≤ 9 ∧ (∀ x ∈ s, x ≠ 47) ∧ (∀ x ∈ s, x ≠ 35) ∧ s ≠ [] := by
  unfold nameS at h
  simp only [Bool.and_eq_true, Bool.not_eq_true', decide_eq_false_iff_not, decide_eq_true_eq, List.all_eq_true] at h
  obtain ⟨⟨h1, h2⟩, h3⟩ := h
  refine ⟨fun x hx e => ?_, h2, fun x hx e => ?_, fun x hx e => ?_, h1⟩
  · have := h3 x hx; rw [e] at this; revert this; decide
  · have := h3 x hx; rw [e] at this; revert this; decide
  · have := h3 x hx; rw [e] at this; revert this; decide
/-! versions as texts -/
def numV (n : Nat) : List UInt8 := ((codec_Number 20 (n : Int)).getD ([], 0)).1
theorem num_v (k : Nat) : ∀ n : Nat, 1 ≤ n → n ≤ 16 → codec_Number (k + 20) (n : Int) = some (numV n, 0) ∧ (∀ x ∈ numV n, x ≠ 0) ∧ (numV n).length ≤ 17
  | 0, h, _ => by omega
  | 1, _, _ => ⟨by kernel_rfl, by decide +kernel, by decide +kernel⟩
  | 2, _, _ => ⟨by kernel_rfl, by decide +kernel, by decide +kernel⟩
  | 3, _, _ => ⟨by kernel_rfl, by decide +kernel, by decide +kernel⟩
  | 4, _, _ => ⟨by kernel_rfl, by decide +kernel, by decide +kernel⟩
  | 5, _, _ => ⟨by kernel_rfl, by decide +kernel, by decide +kernel⟩
  | 6, _, _ => ⟨by kernel_rfl, by decide +kernel, by decide +kernel⟩
  | 7, _, _ => ⟨by kernel_rfl, by decide +kernel, by decide +kernel⟩
  | 8, _, _ => ⟨by kernel_rfl, by decide +kernel, by decide +kernel⟩
  | 9, _, _ => ⟨by kernel_rfl, by decide +kernel, by decide +kernel⟩
  | 10, _, _ => ⟨by kernel_rfl, by decide +kernel, by decide +kernel⟩
  | 11, _, _ => ⟨by kernel_rfl, by decide +kernel, by decide +kernel⟩
  | 12, _, _ => ⟨by kernel_rfl, by decide +kernel, by decide +kernel⟩
  | 13, _, _ => ⟨by kernel_rfl, by decide +kernel, by decide +kernel⟩
  | 14, _, _ => ⟨by kernel_rfl, by decide +kernel, by decide +kernel⟩
  | 15, _, _ => ⟨by kernel_rfl, by decide +kernel, by decide +kernel⟩
  | 16, _, _ => ⟨by kernel_rfl, by decide +kernel, by decide +kernel⟩
  | n + 17, _, h => by omega
/-! the tree -/
def kbS (a b : List UInt8) (n : Nat) : List UInt8 := a ++ [0, 1] ++ (b ++ [0, 1]) ++ (numV n ++ [0, 1])
def keyS (root a b : List UInt8) (n : Nat) : List UInt8 := tagS root (kbS a b n)
theorem keyS_len (root a b : List UInt8) (n : Nat) : (keyS root a b n).length = 32 := tagS_len _ _
def curS (t : S_keys_Tree) (a b : List UInt8) : Int × Int :=
  if (!nameS a || !nameS b) = true then (0, 8) else if (mget t.gone a).getD false = true then (0, 12) else (maxI ((mget t.at_ ⟨a, b⟩).getD 0) 1, 0)
theorem cur_eq (K : Nat) (t : S_keys_Tree) (a b : List UInt8) : keys_Tree_Current K t a b = some (curS t a b) := by
  unfold keys_Tree_Current curS
  simp only [IsName_eq, Option.bind_some]
  cases nameS a <;> cases nameS b <;> simp
  split <;> rfl
/-- versions are such as they must be -/
def WF (t : S_keys_Tree) : Prop := ∀ p, p ∈ t.at_ → 1 ≤ p.2 ∧ p.2 ≤ 16
theorem cur_ok {t : S_keys_Tree} (hw : WF t) {a b : List UInt8} (h : (curS t a b).2 = 0) : nameS a = true ∧ nameS b = true ∧ (mget t.gone a).getD false = false ∧ 1 ≤ (curS t a b).1 ∧ (curS t a b).1 ≤ 16 := by
  unfold curS at *
  split at h
  · cases h
  · rename_i h1
    split at h
    · cases h
    · rename_i h2
      rw [if_neg h1, if_neg h2]
      simp only [Bool.or_eq_true, Bool.not_eq_true', not_or, Bool.not_eq_false] at h1
      refine ⟨h1.1, h1.2, by simpa using h2, ?_⟩
      unfold maxI
      cases hm : mget t.at_ ⟨a, b⟩ with
      | none => simp
      | some v =>
        have := hw _ (mget_mem hm)
        simp only [Option.getD_some] at this ⊢
        split <;> omega
def z32 : List UInt8 := [(0 : UInt8), (0 : UInt8), (0 : UInt8), (0 : UInt8), (0 : UInt8), (0 : UInt8), (0 : UInt8), (0 : UInt8), (0 : UInt8), (0 : UInt8), (0 : UInt8), (0 : UInt8), (0 : UInt8), (0 : UInt8), (0 : UInt8), (0 : UInt8), (0 : UInt8), (0 : UInt8), (0 : UInt8), (0 : UInt8), (0 : UInt8), (0 : UInt8), (0 : UInt8), (0 : UInt8), (0 : UInt8), (0 : UInt8), (0 : UInt8), (0 : UInt8), (0 : UInt8), (0 : UInt8), (0 : UInt8), (0 : UInt8)]
theorem derive_eq (k : Nat) (root a b : List UInt8) (n : Nat) (hr : root.length = 32) (ha : nameS a = true) (hb : nameS b = true) (h1 : 1 ≤ n) (h16 : n ≤ 16) :
    hash_Derive (k + 1200) root [a, b, numV n] = some (keyS root a b n, 0) := by
  obtain ⟨a1, a2, _⟩ := name_nz ha
  obtain ⟨b1, b2, _⟩ := name_nz hb
  obtain ⟨_, n1, n2⟩ := num_v 0 n h1 h16
  unfold hash_Derive
  rw [show k + 1200 = (k + 1195) + 5 from rfl, key3 (k + 1195) a b (numV n) a1 b1 n1 a2 b2 n2, Option.bind_some, if_neg (by simp)]
  rw [tag_eq _ root _ (by omega) (by simp; omega) (by omega) (by simp; omega)]
  rfl
def keyAS (t : S_keys_Tree) (a b : List UInt8) (n : Int) : List UInt8 × Int :=
  if (curS t a b).2 ≠ 0 then (z32, (curS t a b).2) else if n < 1 ∨ (curS t a b).1 < n then (z32, 2) else (keyS t.root a b n.toNat, 0)
theorem keyAS_len (t : S_keys_Tree) (a b : List UInt8) (n : Int) : (keyAS t a b n).1.length = 32 := by
  unfold keyAS; split
  · rfl
  · split
    · rfl
    · exact keyS_len _ _ _ _
theorem keyA_eq (k : Nat) (t : S_keys_Tree) (hr : t.root.length = 32) (hw : WF t) (a b : List UInt8) (n : Int) : keys_Tree_Key (k + 1200) t a b n = some (keyAS t a b n) := by
  unfold keys_Tree_Key keyAS
  rw [show (⟨t.root, t.sealed, t.gone, t.at_⟩ : S_keys_Tree) = t from rfl, cur_eq, Option.bind_some]
  by_cases h : (curS t a b).2 = 0
  · rw [if_neg (show ¬ (curS t a b).2 ≠ 0 by simp [h]), if_neg (show ¬ (!decide ((curS t a b).2 = 0)) = true by simp [h])]
    obtain ⟨ha, hb, _, h1, h16⟩ := cur_ok hw h
    by_cases hn : n < 1 ∨ (curS t a b).1 < n
    · rw [if_pos hn, if_pos (by simpa using hn)]; rfl
    · rw [if_neg hn, if_neg (by simpa using hn)]
      have e : n = (n.toNat : Int) := by omega
      have := num_v (k + 1180) n.toNat (by omega) (by omega)
      rw [show k + 1180 + 20 = k + 1200 from rfl] at this
      rw [e, this.1, Option.bind_some, Option.bind_some]
      simp only [Int.toNat_natCast]
      rw [derive_eq k t.root a b n.toNat hr ha hb (by omega) (by omega)]; rfl
  · rw [if_pos (show (curS t a b).2 ≠ 0 from h), if_pos (by simpa using h)]; rfl
def sealTS (t : S_keys_Tree) (a b p : List UInt8) : List UInt8 × Int × S_keys_Tree :=
  if (curS t a b).2 ≠ 0 then ([], (curS t a b).2, t)
  else if (sealA (keyS t.root a b (curS t a b).1.toNat) (iU64 t.sealed) p).2 ≠ 0 then ([], (sealA (keyS t.root a b (curS t a b).1.toNat) (iU64 t.sealed) p).2, t)
  else if 1099511627776 ≤ t.sealed then ([], 7, t)
  else (iU8 (curS t a b).1 :: (sealA (keyS t.root a b (curS t a b).1.toNat) (iU64 t.sealed) p).1, 0, ⟨t.root, W (t.sealed + 1), t.gone, t.at_⟩)
theorem sealT_eq (k : Nat) (t : S_keys_Tree) (hr : t.root.length = 32) (hw : WF t) (a b p : List UInt8) : keys_Tree_Seal (k + 1200) t a b p = some (sealTS t a b p) := by
  unfold keys_Tree_Seal sealTS
  rw [show (⟨t.root, t.sealed, t.gone, t.at_⟩ : S_keys_Tree) = t from rfl, cur_eq, Option.bind_some]
  by_cases h : (curS t a b).2 = 0
  · obtain ⟨ha, hb, _, h1, h16⟩ := cur_ok hw h
    rw [if_neg (show ¬ (curS t a b).2 ≠ 0 by simp [h]), if_neg (show ¬ (!decide ((curS t a b).2 = 0)) = true by simp [h]), keyA_eq k t hr hw]
    have hk : keyAS t a b (curS t a b).1 = (keyS t.root a b (curS t a b).1.toNat, 0) := by
      unfold keyAS; rw [if_neg (by simp [h]), if_neg (by omega)]
    rw [hk, Option.bind_some, seal_any (k + 1200) (by omega) _ (keyS_len _ _ _ _), Option.bind_some]
    generalize hs : sealA (keyS t.root a b (curS t a b).1.toNat) (iU64 t.sealed) p = s
    have hl : s.1.length ≤ 1048 := by rw [← hs]; exact sealA_len _ _ _
    by_cases h2 : s.2 = 0
    · rw [if_neg (show ¬ s.2 ≠ 0 by simp [h2]), if_neg (show ¬ (!decide (s.2 = 0)) = true by simp [h2])]
      by_cases h3 : 1099511627776 ≤ t.sealed
      · rw [if_pos h3, if_pos (by simpa using h3)]
      · rw [if_neg h3, if_neg (by simpa using h3), Option.bind_some, app_ok (by simp; omega), Option.bind_some]; rfl
    · rw [if_pos (show s.2 ≠ 0 from h2), if_pos (by simpa using h2)]
  · rw [if_pos (show (curS t a b).2 ≠ 0 from h), if_pos (by simpa using h)]
def openTS (t : S_keys_Tree) (a b s : List UInt8) : List UInt8 × Int × Int :=
  if (curS t a b).2 ≠ 0 then ([], 0, (curS t a b).2)
  else match s with
    | [] => ([], 0, 3)
    | v :: s =>
      if (keyAS t a b (v.toNat : Int)).2 ≠ 0 then ([], 0, (keyAS t a b (v.toNat : Int)).2)
      else if (openS (keyAS t a b (v.toNat : Int)).1 s).2.2 ≠ 0 then ([], 0, (openS (keyAS t a b (v.toNat : Int)).1 s).2.2)
      else ((openS (keyAS t a b (v.toNat : Int)).1 s).1, (v.toNat : Int), 0)
theorem openT_eq (k : Nat) (t : S_keys_Tree) (hr : t.root.length = 32) (hw : WF t) (a b s : List UInt8) (hs : s.length < 1000000000000000) : keys_Tree_Open (k + 1200) t a b s = some (openTS t a b s) := by
  unfold keys_Tree_Open openTS
  rw [show (⟨t.root, t.sealed, t.gone, t.at_⟩ : S_keys_Tree) = t from rfl, cur_eq, Option.bind_some]
  by_cases h : (curS t a b).2 = 0
  · rw [if_neg (show ¬ (curS t a b).2 ≠ 0 by simp [h])]
    cases s with
    | nil =>
      rw [if_pos (by simp [h])]
      unfold keys_Tree_Open.j1
      rw [if_pos (by simp)]
    | cons v s =>
      rw [if_neg (by simp [h]; omega)]
      unfold keys_Tree_Open.j1
      rw [if_neg (by simp [h])]
      rw [show gt (v :: s) (0 : Int) = some v from rfl, Option.bind_some]
      rw [show (⟨t.root, t.sealed, t.gone, t.at_⟩ : S_keys_Tree) = t from rfl, keyA_eq k t hr hw, Option.bind_some]
      dsimp only
      by_cases h2 : (keyAS t a b (v.toNat : Int)).2 = 0
      · rw [if_neg (show ¬ (keyAS t a b (v.toNat : Int)).2 ≠ 0 by simp [h2]), if_neg (show ¬ (!decide ((keyAS t a b (v.toNat : Int)).2 = 0)) = true by simp [h2])]
        rw [sub_ok (by omega) (by simp; omega) (by omega), Option.bind_some]
        have e : ((v :: s).take ((v :: s).length : Int).toNat).drop (1 : Int).toNat = s := by simp
        rw [e, open_eq (k + 1200) (by omega) _ (keyAS_len _ _ _ _) s (by simp at hs; omega), Option.bind_some]
        by_cases h3 : (openS (keyAS t a b (v.toNat : Int)).1 s).2.2 = 0
        · rw [if_neg (show ¬ (openS (keyAS t a b (v.toNat : Int)).1 s).2.2 ≠ 0 by simp [h3]), if_neg (by simp [h3])]
        · rw [if_pos (show (openS (keyAS t a b (v.toNat : Int)).1 s).2.2 ≠ 0 from h3), if_pos (by simpa using h3)]
      · rw [if_pos (show (keyAS t a b (v.toNat : Int)).2 ≠ 0 from h2), if_pos (by simpa using h2)]
  · rw [if_pos (show (curS t a b).2 ≠ 0 from h), if_neg (by simp [h])]
    unfold keys_Tree_Open.j1
    rw [if_pos (by simpa using h)]
/-- what was sealed opens -/
theorem open_seal {t t' : S_keys_Tree} (hw : WF t) {a b p : List UInt8} (h : (sealTS t a b p).2.1 = 0) (hr : t'.root = t.root) (hc : (curS t' a b).2 = 0) (hle : (curS t a b).1 ≤ (curS t' a b).1) :
    openTS t' a b (sealTS t a b p).1 = (p, (curS t a b).1, 0) := by
  unfold sealTS at *
  split at h
  · exact absurd h ‹_›
  · rename_i h0
    have h0' : (curS t a b).2 = 0 := by simpa using h0
    obtain ⟨ha, hb, _, h1, h16⟩ := cur_ok hw h0'
    rw [if_neg h0]
    split at h
    · exact absurd h ‹_›
    · rename_i h2
      rw [if_neg h2]
      split at h
      · cases h
      · rename_i h3
        rw [if_neg h3]
        unfold openTS
        rw [if_neg (by simp [hc])]
        dsimp only
        have hv : ((iU8 (curS t a b).1).toNat : Int) = (curS t a b).1 := by
          unfold iU8; rw [UInt8.toNat_ofNat']; omega
        have hk : keyAS t' a b (((iU8 (curS t a b).1).toNat : Nat) : Int) = (keyS t.root a b (curS t a b).1.toNat, 0) := by
          rw [hv]; unfold keyAS; rw [if_neg (by simp [hc]), if_neg (by omega), hr]
        rw [hk]
        have hp : p.length ≤ 1024 := by
          unfold sealA at h2
          by_cases hp : p.length ≤ 1024
          · exact hp
          · rw [if_neg hp] at h2; exact absurd (by decide) h2
        have ho : openS (keyS t.root a b (curS t a b).1.toNat) (sealA (keyS t.root a b (curS t a b).1.toNat) (iU64 t.sealed) p).1 = (p, iU64 t.sealed, 0) := by
          unfold sealA; rw [if_pos hp]; exact openS_seal _ _ _ hp
        simp only [ho, hv, ne_eq, not_true_eq_false, if_false]
end Go.Proofs.YtjgbakieogadfabGreatDoor

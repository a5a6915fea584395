/-
  The tag (HMAC): program and reference come to one; numbers in eight bytes. Plain Lean.
-/
import Derived.Test.YtbbenllkjpomdaaPlain5
namespace Go.Proofs.Ytbbenllkjpomdaa
open Go L
section
variable {α β : Type}
theorem take_succ' {p : List α} {i : Nat} (d : α) (h : i < p.length) : p.take (i + 1) = p.take i ++ [p.getD i d] := by
  rw [List.take_add_one, List.getElem?_eq_getElem h, List.getD_eq_getElem?_getD, List.getElem?_eq_getElem h]; rfl
theorem drop_succ' {p : List α} {i : Nat} (d : α) (h : i < p.length) : p.drop i = p.getD i d :: p.drop (i + 1) := by
  rw [List.drop_eq_getElem_cons h, List.getD_eq_getElem?_getD, List.getElem?_eq_getElem h]; rfl
def mid (f : α → α) (p : List α) (i : Nat) : List α := (p.take i).map f ++ p.drop i
theorem mid_len (f : α → α) (p : List α) (i : Nat) (h : i ≤ p.length) : (mid f p i).length = p.length := by simp [mid]; omega
theorem mid_get (f : α → α) (p : List α) (i : Nat) (d : α) (h : i < p.length) : (mid f p i).getD i d = p.getD i d := by
  unfold mid
  rw [drop_succ' d h, List.getD_eq_getElem?_getD, List.getElem?_append_right (by simp; omega)]
  simp [Nat.min_eq_left (Nat.le_of_lt h)]
theorem mid_set (f : α → α) (p : List α) (i : Nat) (d : α) (h : i < p.length) : (mid f p i).set i (f (p.getD i d)) = mid f p (i + 1) := by
  unfold mid
  rw [take_succ' d h, drop_succ' d h, List.set_append_right _ _ (by simp; omega)]
  simp [Nat.min_eq_left (Nat.le_of_lt h)]
theorem mid_zero (f : α → α) (p : List α) : mid f p 0 = p := by simp [mid]
theorem mid_all (f : α → α) (p : List α) : mid f p p.length = p.map f := by simp [mid]
end
def pk (key : List UInt8) : List UInt8 := key ++ List.replicate (64 - key.length) 0
theorem pk_len {key : List UInt8} (h : key.length ≤ 64) : (pk key).length = 64 := by simp [pk]; omega
def tagS (key b : List UInt8) : List UInt8 := shaS ((pk key).map (· ^^^ 92) ++ shaS ((pk key).map (· ^^^ 54) ++ b))
theorem tagS_len (key b : List UInt8) : (tagS key b).length = 32 := shaS_len _
theorem tag_l1 (p : List UInt8) (hp : p.length = 64) : ∀ (n i k : Nat), i + n = 64 → n < k → hash_Tag.l1 k (mid (· ^^^ 54) p i) (mid (· ^^^ 92) p i) (i : Int) = some (p.map (· ^^^ 54), p.map (· ^^^ 92))
  | 0, i, k + 1, h1, h2 => by
    have : i = p.length := by omega
    rw [hash_Tag.l1, if_neg (nt (dec_f (by omega))), this, mid_all, mid_all]
  | n + 1, i, k + 1, h1, h2 => by
    have ih := tag_l1 p hp n (i + 1) k (by omega) (by omega)
    have hi : i < p.length := by omega
    have g1 : gt (mid (· ^^^ 54) p i) (i : Int) = some (p.getD i 0) := by rw [gt_nat 0 (by rw [mid_len _ _ _ (by omega)]; omega), mid_get _ _ _ _ hi]
    have g2 : gt (mid (· ^^^ 92) p i) (i : Int) = some (p.getD i 0) := by rw [gt_nat 0 (by rw [mid_len _ _ _ (by omega)]; omega), mid_get _ _ _ _ hi]
    have r1 : req (0 ≤ (i : Int) ∧ (i : Int) < ((mid (· ^^^ 54) p i).length : Int)) = some () := req_ok ⟨by omega, by rw [mid_len _ _ _ (by omega)]; omega⟩
    have r2 : req (0 ≤ (i : Int) ∧ (i : Int) < ((mid (· ^^^ 92) p i).length : Int)) = some () := req_ok ⟨by omega, by rw [mid_len _ _ _ (by omega)]; omega⟩
    rw [hash_Tag.l1, if_pos (dec_t (by omega))]
    simp only [g1, g2, r1, r2, Option.bind_some, Int.toNat_natCast, W_succ (show i < 9223372036854775807 by omega)]
    rw [mid_set (· ^^^ 54) p i 0 hi, mid_set (· ^^^ 92) p i 0 hi]
    exact ih
theorem tag_eq (K : Nat) (key b : List UInt8) (hk : key.length ≤ 64) (hb : b.length < 140737488340000) (hK : 100 ≤ K) (hKb : b.length / 64 + 8 < K) : hash_Tag K key b = some (tagS key b) := by
  have h1 := tag_l1 (pk key) (pk_len hk) 64 0 K rfl (by omega)
  rw [mid_zero, mid_zero, show ((0 : Nat) : Int) = 0 from rfl] at h1
  have hx : (List.replicate 64 (0 : UInt8)).take 0 ++ key.take 64 ++ (List.replicate 64 (0 : UInt8)).drop (0 + min key.length 64) = pk key := by
    unfold pk
    rw [List.take_of_length_le hk, Nat.min_eq_left hk, List.take_zero, List.nil_append, Nat.zero_add, List.drop_replicate]
  unfold hash_Tag
  rw [if_neg (nt (dec_f (by omega)))]
  unfold hash_Tag.j1
  simp only [hx, Option.bind_some]
  rw [h1]; simp only [Option.bind_some]
  have hl := pk_len hk
  rw [app_ok (by simp [hl]; omega)]; simp only [Option.bind_some]
  rw [sum_eq K _ (by omega) (by simp [hl]; omega) (by simp [hl]; omega)]; simp only [Option.bind_some]
  rw [app_ok (by simp [hl, shaS_len])]; simp only [Option.bind_some]
  rw [sum_eq K _ (by omega) (by simp [hl, shaS_len]) (by simp [hl, shaS_len]; omega)]; rfl
-- the reference's
theorem ref_bytes_l1 (h : List UInt8) (hh : h.length = 32) : ∀ (n i k : Nat), i + n = 32 → n < k → holdfastref07_bytesOf.l1 k h (h.take i) (i : Int) = some h
  | 0, i, k + 1, h1, h2 => by
    rw [holdfastref07_bytesOf.l1, if_neg (nt (dec_f (by omega))), List.take_of_length_le (by omega)]
  | n + 1, i, k + 1, h1, h2 => by
    have ih := ref_bytes_l1 h hh n (i + 1) k (by omega) (by omega)
    rw [holdfastref07_bytesOf.l1, if_pos (dec_t (by omega)), gt_nat 0 (by omega)]
    simp only [Option.bind_some]
    rw [app_ok (by simp; omega)]
    simp only [Option.bind_some, W_succ (show i < 9223372036854775807 by omega)]
    rw [← take_succ' 0 (by omega)]; exact ih
theorem ref_bytes (K : Nat) (h : List UInt8) (hh : h.length = 32) (hK : 40 ≤ K) : holdfastref07_bytesOf K h = some h := by
  have h1 := ref_bytes_l1 h hh 32 0 K rfl (by omega)
  unfold holdfastref07_bytesOf
  rw [List.take_zero, show ((0 : Nat) : Int) = 0 from rfl] at h1
  rw [h1]; rfl
theorem ref_Bytes (K : Nat) (h : List UInt8) (hh : h.length = 32) (hK : 40 ≤ K) : holdfastref07_Bytes K h = some h := by
  unfold holdfastref07_Bytes; rw [ref_bytes K h hh hK]; rfl
theorem ref_tag_l1 : ∀ (n k : Nat) (key : List UInt8), key.length + n = 64 → n < k → holdfastref07_Tag.l1 k key = some (key ++ List.replicate n 0)
  | 0, k + 1, key, h1, h2 => by rw [holdfastref07_Tag.l1, if_neg (nt (dec_f (by omega)))]; simp
  | n + 1, k + 1, key, h1, h2 => by
    have ih := ref_tag_l1 n k (key ++ [0]) (by simp; omega) (by omega)
    rw [holdfastref07_Tag.l1, if_pos (dec_t (by omega))]
    simp only [Option.bind_some]
    rw [app_ok (by simp; omega)]
    simp only [Option.bind_some]
    rw [ih, List.append_assoc]; rfl
theorem ref_tag_l2 (p : List UInt8) (hp : p.length = 64) : ∀ (n i k : Nat), i + n = 64 → n < k →
    holdfastref07_Tag.l2 k p ((p.take i).map (· ^^^ 54)) ((p.take i).map (· ^^^ 92)) (i : Int) = some (p.map (· ^^^ 54), p.map (· ^^^ 92))
  | 0, i, k + 1, h1, h2 => by
    rw [holdfastref07_Tag.l2, if_neg (nt (dec_f (by omega))), List.take_of_length_le (by omega)]
  | n + 1, i, k + 1, h1, h2 => by
    have ih := ref_tag_l2 p hp n (i + 1) k (by omega) (by omega)
    have g : gt p (i : Int) = some (p.getD i 0) := gt_nat 0 (by omega)
    rw [holdfastref07_Tag.l2, if_pos (dec_t (by omega))]
    simp only [g, Option.bind_some]
    rw [app_ok (by simp; omega)]; simp only [Option.bind_some]
    rw [app_ok (by simp; omega)]; simp only [Option.bind_some, W_succ (show i < 9223372036854775807 by omega)]
    rw [take_succ' 0 (show i < p.length by omega)] at ih
    simp only [List.map_append, List.map_cons, List.map_nil] at ih
    exact ih
theorem reftag_eq (K : Nat) (key b : List UInt8) (hk : key.length ≤ 64) (hb : b.length < 140737488340000) (hK : 100 ≤ K) (hKb : b.length / 64 + 8 < K) : holdfastref07_Tag K key b = some (tagS key b) := by
  have h1 := ref_tag_l1 (64 - key.length) K key (by omega) (by omega)
  have h2 := ref_tag_l2 (pk key) (pk_len hk) 64 0 K rfl (by omega)
  rw [List.take_zero, show ((0 : Nat) : Int) = 0 from rfl] at h2
  simp only [List.map_nil] at h2
  have hl := pk_len hk
  unfold holdfastref07_Tag
  rw [app_ok (by simp; omega)]
  simp only [Option.bind_some, List.nil_append]
  rw [if_neg (nt (dec_f (by omega)))]
  unfold holdfastref07_Tag.j1
  rw [h1]; simp only [Option.bind_some]
  have hpk : key ++ List.replicate (64 - key.length) 0 = pk key := rfl
  rw [hpk, h2]; simp only [Option.bind_some]
  rw [app_ok (by simp [hl]; omega)]; simp only [Option.bind_some]
  rw [refsum_eq K _ (by omega) (by simp [hl]; omega) (by simp [hl]; omega)]; simp only [Option.bind_some]
  rw [ref_bytes K _ (shaS_len _) (by omega)]; simp only [Option.bind_some]
  rw [app_ok (by simp [hl, shaS_len])]; simp only [Option.bind_some]
  rw [refsum_eq K _ (by omega) (by simp [hl, shaS_len]) (by simp [hl, shaS_len]; omega)]; rfl
theorem eight_eq (k : Nat) (n : UInt64) : seal_eight (k + 9) n = some (beS n 8 0) := by rfl
theorem refeight_eq (k : Nat) (n : UInt64) : holdfastref08_eight (k + 9) n = some (beS n 8 0) := by rfl
end Go.Proofs.Ytbbenllkjpomdaa

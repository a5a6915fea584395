/-
  Sealed texts: tag, hidden bytes, numbers out of bytes, bytes held against each other. Plain Lean.
-/
import Derived.Test.YtbbenllkjpomdaaPlain8
namespace Go.Proofs.Ytbbenllkjpomdaa
open Go L
def tagT (key body : List UInt8) : List UInt8 := (tagS key (116 :: body)).take 16
theorem tagT_len (key body : List UInt8) : (tagT key body).length = 16 := by simp [tagT, tagS_len]
theorem tagOf_eq (K : Nat) (hK : 100 ≤ K) (key : List UInt8) (hk : key.length = 32) (body : List UInt8) (hb : body.length ≤ 1100) : seal_tagOf K key body = some (tagT key body) := by
  have h := tag_eq K key (116 :: body) (by omega) (by simp; omega) hK (by simp; omega)
  have hl := tagS_len key (116 :: body)
  unfold seal_tagOf
  simp only [Option.bind_some]
  rw [app_ok (by simp; omega)]; simp only [Option.bind_some]
  rw [show [116] ++ body = 116 :: body from rfl, h]; simp only [Option.bind_some]
  rw [req_ok (by simp; omega)]; simp [tagT, List.take_take]
theorem refTag_eq (K : Nat) (hK : 100 ≤ K) (key : List UInt8) (hk : key.length = 32) (body : List UInt8) (hb : body.length ≤ 1100) : holdfastref08_Tag K key body = some (tagT key body) := by
  have h := reftag_eq K key (116 :: body) (by omega) (by simp; omega) hK (by simp; omega)
  have hl := tagS_len key (116 :: body)
  unfold holdfastref08_Tag
  simp only [Option.bind_some]
  rw [app_ok (by simp; omega)]; simp only [Option.bind_some]
  rw [ref_Bytes K key hk (by omega)]; simp only [Option.bind_some]
  rw [show [116] ++ body = 116 :: body from rfl, h]; simp only [Option.bind_some]
  rw [ref_Bytes K _ hl (by omega)]; simp only [Option.bind_some]
  rw [sub_ok (by omega) (by omega) (by omega)]; simp [tagT]
def xorS (s b : List UInt8) : List UInt8 := List.zipWith (· ^^^ ·) s b
theorem xorS_len {s b : List UInt8} (h : s.length = b.length) : (xorS s b).length = b.length := by simp [xorS, h]
theorem xorS_snoc {s b : List UInt8} {i : Nat} (h : i < s.length) (h' : i < b.length) : xorS (s.take (i + 1)) (b.take (i + 1)) = xorS (s.take i) (b.take i) ++ [s.getD i 0 ^^^ b.getD i 0] := by
  unfold xorS
  rw [take_succ' 0 h, take_succ' 0 h', List.zipWith_append (by simp; omega)]; rfl
theorem xor_comm8 (a b : UInt8) : a ^^^ b = b ^^^ a := by
  apply UInt8.toBitVec_inj.1; simp [BitVec.xor_comm]
theorem xor_self8 (a : UInt8) : a ^^^ a = 0 := by
  apply UInt8.toBitVec_inj.1; simp
theorem xor_assoc8 (a b c : UInt8) : a ^^^ b ^^^ c = a ^^^ (b ^^^ c) := by
  apply UInt8.toBitVec_inj.1; simp [BitVec.xor_assoc]
theorem zero_xor8 (a : UInt8) : 0 ^^^ a = a := by
  apply UInt8.toBitVec_inj.1; simp
theorem xorS_twice : ∀ {s b : List UInt8}, s.length = b.length → xorS s (xorS s b) = b
  | [], [], _ => rfl
  | x :: s, y :: b, h => by
    have ih := xorS_twice (s := s) (b := b) (by simpa using h)
    unfold xorS at ih ⊢
    simp only [List.zipWith_cons_cons, ih]
    rw [← xor_assoc8, xor_self8, zero_xor8]
def m2 (s b : List UInt8) (i : Nat) : List UInt8 := xorS (s.take i) (b.take i) ++ s.drop i
theorem m2_len {s b : List UInt8} {i : Nat} (h : s.length = b.length) (hi : i ≤ b.length) : (m2 s b i).length = b.length := by simp [m2, xorS]; omega
theorem m2_get {s b : List UInt8} {i : Nat} (h : s.length = b.length) (hi : i < b.length) : (m2 s b i).getD i 0 = s.getD i 0 := by
  unfold m2
  rw [drop_succ' 0 (by omega), List.getD_eq_getElem?_getD, List.getElem?_append_right (by simp [xorS]; omega)]
  simp [xorS, Nat.min_eq_left (Nat.le_of_lt hi), Nat.min_eq_left (show i ≤ s.length by omega)]
theorem m2_set {s b : List UInt8} {i : Nat} (h : s.length = b.length) (hi : i < b.length) : (m2 s b i).set i (s.getD i 0 ^^^ b.getD i 0) = m2 s b (i + 1) := by
  unfold m2
  rw [xorS_snoc (by omega) hi, drop_succ' 0 (show i < s.length by omega), List.set_append_right _ _ (by simp [xorS]; omega)]
  simp [xorS, Nat.min_eq_left (Nat.le_of_lt hi), Nat.min_eq_left (show i ≤ s.length by omega)]
theorem hidden_l1 (s b : List UInt8) (h : s.length = b.length) (hb : b.length ≤ 1100) : ∀ (n i k : Nat), i + n = b.length → n < k → seal_hidden.l1 k b (m2 s b i) (i : Int) = some (xorS s b)
  | 0, i, k + 1, h1, h2 => by
    rw [seal_hidden.l1, if_neg (nt (dec_f (by omega)))]
    have : i = b.length := by omega
    subst this; unfold m2
    rw [List.drop_of_length_le (by omega), List.append_nil, List.take_of_length_le (by omega), List.take_of_length_le (Nat.le_refl _)]
  | n + 1, i, k + 1, h1, h2 => by
    have ih := hidden_l1 s b h hb n (i + 1) k (by omega) (by omega)
    have hi : i < b.length := by omega
    have hl := m2_len (s := s) (b := b) (i := i) h (by omega)
    have g1 : gt b (i : Int) = some (b.getD i 0) := gt_nat 0 hi
    have g2 : gt (m2 s b i) (i : Int) = some (s.getD i 0) := by rw [gt_nat 0 (by omega), m2_get h hi]
    have r1 : req (0 ≤ (i : Int) ∧ (i : Int) < ((m2 s b i).length : Int)) = some () := req_ok ⟨by omega, by omega⟩
    rw [seal_hidden.l1, if_pos (dec_t (by omega))]
    simp only [g1, g2, r1, Option.bind_some, Int.toNat_natCast, W_succ (show i < 9223372036854775807 by omega)]
    rw [m2_set h hi]; exact ih
def strN (key : List UInt8) (once : UInt64) (n : Nat) : List UInt8 := (strS key once ((n + 31) / 32)).take n
theorem strN_len (key : List UInt8) (once : UInt64) (n : Nat) : (strN key once n).length = n := by
  have := strS_len key once ((n + 31) / 32)
  simp [strN]; omega
def hidS (key : List UInt8) (once : UInt64) (b : List UInt8) : List UInt8 := xorS (strN key once b.length) b
theorem hidS_len (key : List UInt8) (once : UInt64) (b : List UInt8) : (hidS key once b).length = b.length := xorS_len (strN_len _ _ _)
theorem hidS_twice (key : List UInt8) (once : UInt64) (b : List UInt8) : hidS key once (hidS key once b) = b := by
  unfold hidS
  rw [xorS_len (strN_len _ _ _)]
  exact xorS_twice (strN_len _ _ _)
theorem hidden_eq (K : Nat) (hK : 1200 ≤ K) (key : List UInt8) (hk : key.length = 32) (once : UInt64) (b : List UInt8) (hb : b.length ≤ 1024) : seal_hidden K key once b = some (hidS key once b) := by
  have h1 := hidden_l1 (strN key once b.length) b (strN_len _ _ _) (by omega) b.length 0 K (by omega) (by omega)
  have h0 : m2 (strN key once b.length) b 0 = strN key once b.length := by simp [m2, xorS]
  unfold seal_hidden
  rw [stream_eq K (by omega) key hk once b.length hb]; simp only [Option.bind_some]
  rw [h0] at h1
  unfold strN at h1
  rw [show (0 : Int) = ((0 : Nat) : Int) from rfl, h1]; rfl
theorem same_l1' (a b : List UInt8) (hab : a.length = b.length) : ∀ (n i k : Nat), i + n = a.length → n < k → a.length < 1000000000 → holdfastref01_SameBytes.l1 k a b (i : Int) = some (if a.drop i = b.drop i then .go () else .ret false)
  | 0, i, k + 1, h1, h2, h3 => by
    rw [holdfastref01_SameBytes.l1, if_neg (nt (dec_f (by omega))), List.drop_of_length_le (by omega), List.drop_of_length_le (by omega), if_pos rfl]
  | n + 1, i, k + 1, h1, h2, h3 => by
    have ih := same_l1' a b hab n (i + 1) k (by omega) (by omega) h3
    rw [holdfastref01_SameBytes.l1, if_pos (dec_t (by omega)), gt_nat 0 (by omega), gt_nat 0 (by omega)]
    simp only [Option.bind_some]
    rw [drop_succ' 0 (show i < a.length by omega), drop_succ' 0 (show i < b.length by omega)]
    by_cases he : a.getD i 0 = b.getD i 0
    · rw [if_neg (by simp only [he]; simp), W_succ (by omega), ih]
      simp only [he, List.cons.injEq, true_and]
    · have hd : (!decide (a.getD i 0 = b.getD i 0)) = true := by simp only [he]; rfl
      rw [if_pos hd, if_neg (fun hh => he (List.cons.inj hh).1)]
theorem same_dec (K : Nat) (a b : List UInt8) (h : a.length < K) (hb : a.length < 1000000000) : holdfastref01_SameBytes K a b = some (decide (a = b)) := by
  unfold holdfastref01_SameBytes
  by_cases hl : a.length = b.length
  · have h1 := same_l1' a b hl a.length 0 K (by omega) (by omega) hb
    rw [if_neg (by rw [hl]; simp), show (0 : Int) = ((0 : Nat) : Int) from rfl, h1]
    simp only [Option.bind_some, List.drop_zero]
    by_cases he : a = b
    · rw [if_pos he]; simp [lrc, he]
    · rw [if_neg he]; simp [lrc, he]
  · rw [if_pos (by simp; omega)]
    have : a ≠ b := fun h => hl (by rw [h])
    simp [this]
end Go.Proofs.Ytbbenllkjpomdaa

/-
  Sealed texts: Seal and Open of program and reference come to one. Plain Lean.
-/
import Derived.Test.YtbbenllkjpomdaaPlain9
namespace Go.Proofs.Ytbbenllkjpomdaa
open Go L
def num1 (n : UInt64) (x : UInt8) : UInt64 := shl64 n 8 ||| x.toUInt64
def numS (b : List UInt8) : UInt64 := b.foldl num1 0
theorem open_l1 (b : List UInt8) (hb : b.length ≤ 1100) : ∀ (n i k : Nat) (o : UInt64), i + n = b.length → n < k → seal_Open.l1 k b o (i : Int) = some ((b.drop i).foldl num1 o)
  | 0, i, k + 1, o, h1, h2 => by
    rw [seal_Open.l1, if_neg (nt (dec_f (by omega))), List.drop_of_length_le (by omega)]; rfl
  | n + 1, i, k + 1, o, h1, h2 => by
    have ih := open_l1 b hb n (i + 1) k (num1 o (b.getD i 0)) (by omega) (by omega)
    rw [seal_Open.l1, if_pos (dec_t (by omega)), gt_nat 0 (by omega)]
    simp only [Option.bind_some, W_succ (show i < 9223372036854775807 by omega)]
    rw [drop_succ' 0 (show i < b.length by omega)]
    exact ih
theorem refopen_l1 (b : List UInt8) (hb : 8 ≤ b.length) : ∀ (n i k : Nat) (o : UInt64), i + n = 8 → n < k → holdfastref08_Open.l1 k b o (i : Int) = some (((b.take 8).drop i).foldl num1 o)
  | 0, i, k + 1, o, h1, h2 => by
    rw [holdfastref08_Open.l1, if_neg (nt (dec_f (by omega))), List.drop_of_length_le (by simp; omega)]; rfl
  | n + 1, i, k + 1, o, h1, h2 => by
    have ih := refopen_l1 b hb n (i + 1) k (num1 o (b.getD i 0)) (by omega) (by omega)
    rw [holdfastref08_Open.l1, if_pos (dec_t (by omega)), gt_nat 0 (by omega)]
    simp only [Option.bind_some, W_succ (show i < 9223372036854775807 by omega)]
    have hg : (b.take 8).getD i 0 = b.getD i 0 := by
      rw [List.getD_eq_getElem?_getD, List.getD_eq_getElem?_getD, List.getElem?_take, if_pos (by omega)]
    rw [drop_succ' 0 (show i < (b.take 8).length by simp; omega), hg]
    exact ih
theorem or_low (a : UInt64) (i : Nat) : a.toBitVec.getLsbD (i + 64) = false := BitVec.getLsbD_of_ge _ _ (by omega)
theorem numS_beS (n : UInt64) : numS (beS n 8 0) = n := by
  apply UInt64.toBitVec_inj.1
  apply BitVec.eq_of_getLsbD_eq
  intro i hi
  simp only [numS, beS, List.foldl, num1, shl64, shr64, Nat.mul_zero, Nat.sub_zero, Nat.zero_add]
  simp only [UInt64.toBitVec_or, UInt64.toBitVec_ofNat, UInt8.toBitVec_toUInt64, UInt64.toBitVec_toUInt8, BitVec.getLsbD_or, BitVec.getLsbD_shiftLeft, BitVec.getLsbD_setWidth, BitVec.getLsbD_ushiftRight, hi, decide_true, Bool.true_and]
  have h64 : i < 64 := hi
  clear hi
  generalize n.toBitVec.getLsbD = f
  obtain ⟨q, r, hi, hr, hq⟩ : ∃ q r, i = 8 * q + r ∧ r < 8 ∧ q < 8 := ⟨i / 8, i % 8, by omega, by omega, by omega⟩
  have hq' : q = 0 ∨ q = 1 ∨ q = 2 ∨ q = 3 ∨ q = 4 ∨ q = 5 ∨ q = 6 ∨ q = 7 := by omega
  have hr' : r = 0 ∨ r = 1 ∨ r = 2 ∨ r = 3 ∨ r = 4 ∨ r = 5 ∨ r = 6 ∨ r = 7 := by omega
  clear hr hq h64
  rcases hq' with rfl | rfl | rfl | rfl | rfl | rfl | rfl | rfl <;> rcases hr' with rfl | rfl | rfl | rfl | rfl | rfl | rfl | rfl <;> subst hi <;> simp
def bodyS (key : List UInt8) (once : UInt64) (p : List UInt8) : List UInt8 := beS once 8 0 ++ hidS key once p
theorem bodyS_len (key : List UInt8) (once : UInt64) (p : List UInt8) : (bodyS key once p).length = p.length + 8 := by simp [bodyS, beS_len, hidS_len]; omega
def sealS (key : List UInt8) (once : UInt64) (p : List UInt8) : List UInt8 := bodyS key once p ++ tagT key (bodyS key once p)
theorem sealS_len (key : List UInt8) (once : UInt64) (p : List UInt8) : (sealS key once p).length = p.length + 24 := by simp [sealS, bodyS_len, tagT_len]
theorem seal_eq (K : Nat) (hK : 1200 ≤ K) (key : List UInt8) (hk : key.length = 32) (once : UInt64) (p : List UInt8) (hp : p.length ≤ 1024) : seal_Seal K key once p = some (sealS key once p, 0) := by
  have he : seal_eight K once = some (beS once 8 0) := by have := eight_eq (K - 9) once; rwa [show K - 9 + 9 = K by omega] at this
  have hl := hidS_len key once p
  have hb := bodyS_len key once p
  unfold seal_Seal
  rw [if_neg (nt (dec_f (by omega))), he]; simp only [Option.bind_some]
  rw [hidden_eq K hK key hk once p hp]; simp only [Option.bind_some]
  rw [app_ok (by rw [beS_len]; omega)]; simp only [Option.bind_some]
  rw [show beS once 8 0 ++ hidS key once p = bodyS key once p from rfl]
  rw [tagOf_eq K (by omega) key hk _ (by omega)]; simp only [Option.bind_some]
  rw [app_ok (by rw [tagT_len]; omega)]; rfl
theorem seal_long (K : Nat) (key : List UInt8) (once : UInt64) (p : List UInt8) (hp : 1024 < p.length) : seal_Seal K key once p = some ([], 6) := by
  unfold seal_Seal
  rw [if_pos (dec_t (by omega))]
theorem refSeal_l1 (p : List UInt8) (s : List UInt8 × Int) (o : List UInt8) (h : s.1.length = p.length) (hp : p.length ≤ 1100) (ho : o.length ≤ 1100) : ∀ (n i k : Nat), i + n = p.length → n < k →
    holdfastref08_Seal.l1 k p s (o ++ xorS (s.1.take i) (p.take i)) (i : Int) = some (o ++ xorS s.1 p)
  | 0, i, k + 1, h1, h2 => by
    rw [holdfastref08_Seal.l1, if_neg (nt (dec_f (by omega))), List.take_of_length_le (by omega), List.take_of_length_le (by omega)]
  | n + 1, i, k + 1, h1, h2 => by
    have ih := refSeal_l1 p s o h hp ho n (i + 1) k (by omega) (by omega)
    rw [holdfastref08_Seal.l1, if_pos (dec_t (by omega)), gt_nat 0 (by omega), gt_nat 0 (by omega)]
    simp only [Option.bind_some]
    rw [app_ok (by simp [xorS]; omega)]
    simp only [Option.bind_some, W_succ (show i < 9223372036854775807 by omega)]
    rw [xorS_snoc (by omega) (by omega), ← List.append_assoc, xor_comm8] at ih
    exact ih
theorem refSeal_eq (K : Nat) (hK : 1200 ≤ K) (key : List UInt8) (hk : key.length = 32) (once : UInt64) (p : List UInt8) (hp : p.length ≤ 1024) : holdfastref08_Seal K key once p = some (sealS key once p, 0) := by
  have he : holdfastref08_eight K once = some (beS once 8 0) := by have := refeight_eq (K - 9) once; rwa [show K - 9 + 9 = K by omega] at this
  have hl := hidS_len key once p
  have hb := bodyS_len key once p
  have h1 := refSeal_l1 p (strN key once p.length, 0) (beS once 8 0) (strN_len _ _ _) (by omega) (by rw [beS_len]; omega) p.length 0 K (by omega) (by omega)
  rw [show beS once 8 0 ++ xorS (List.take 0 (strN key once p.length)) (List.take 0 p) = beS once 8 0 by simp [xorS], show ((0 : Nat) : Int) = 0 from rfl] at h1
  unfold holdfastref08_Seal
  rw [refstream_eq K (by omega) key hk once p.length hp]; simp only [Option.bind_some]
  rw [if_neg (by simp), he]; simp only [Option.bind_some]
  rw [show ((strS key once ((p.length + 31) / 32)).take p.length, (0 : Int)) = (strN key once p.length, 0) from rfl, h1]; simp only [Option.bind_some]
  rw [show beS once 8 0 ++ xorS (strN key once p.length) p = bodyS key once p from rfl]
  rw [refTag_eq K (by omega) key hk _ (by omega)]; simp only [Option.bind_some]
  rw [app_ok (by rw [tagT_len]; omega)]; rfl
theorem refSeal_long (K : Nat) (key : List UInt8) (once : UInt64) (p : List UInt8) (hp : 1024 < p.length) : holdfastref08_Seal K key once p = some ([], 6) := by
  unfold holdfastref08_Seal holdfastref08_Stream
  rw [if_pos (by simp; omega)]; simp only [Option.bind_some]
  rw [if_pos (by simp)]
def openS (key b : List UInt8) : List UInt8 × UInt64 × Int :=
  if b.length < 24 then ([], 0, 3) else if 1048 < b.length then ([], 0, 6)
  else if tagT key (b.take (b.length - 16)) = b.drop (b.length - 16) then (hidS key (numS (b.take 8)) ((b.take (b.length - 16)).drop 8), numS (b.take 8), 0) else ([], 0, 10)
theorem open_eq (K : Nat) (hK : 1200 ≤ K) (key : List UInt8) (hk : key.length = 32) (b : List UInt8) (hbb : b.length < 1000000000000000) : seal_Open K key b = some (openS key b) := by
  unfold seal_Open openS
  have z0 : seal_Size K (0 : Int) = some ((24 : Nat) : Int) := size_in K 0 (by omega)
  have z1 : seal_Size K (1024 : Int) = some ((1048 : Nat) : Int) := size_in K 1024 (by omega)
  rw [z0]; simp only [Option.bind_some]
  by_cases h1 : b.length < 24
  · rw [if_pos (dec_t (by omega)), if_pos h1]
  rw [if_neg (nt (dec_f (by omega))), if_neg h1, z1]; simp only [Option.bind_some]
  by_cases h2 : 1048 < b.length
  · rw [if_pos (dec_t (by omega)), if_pos h2]
  rw [if_neg (nt (dec_f (by omega))), if_neg h2]
  have hw : W ((b.length : Int) - 16) = ((b.length - 16 : Nat) : Int) := by rw [W_id (by omega) (by omega)]; omega
  rw [hw, sub_ok (by omega) (by omega) (by omega)]; simp only [Option.bind_some]
  rw [tagOf_eq K (by omega) key hk _ (by simp; omega)]; simp only [Option.bind_some]
  rw [sub_ok (by omega) (by omega) (by omega)]; simp only [Option.bind_some, Int.toNat_natCast, List.drop_zero, Int.toNat_zero]
  rw [List.take_of_length_le (Nat.le_refl b.length), req_ok (by simp; omega)]; simp only [Option.bind_some]
  rw [List.take_of_length_le (l := b.drop (b.length - 16)) (by simp; omega)]
  by_cases h3 : tagT key (b.take (b.length - 16)) = b.drop (b.length - 16)
  · have hd : (!decide (tagT key (b.take (b.length - 16)) = b.drop (b.length - 16))) = false := by simp [h3]
    rw [if_neg (nt hd), if_pos h3]
    rw [sub_ok (by omega) (by omega) (by omega)]; simp only [Option.bind_some]
    have hn := open_l1 (b.take 8) (by simp; omega) (b.take 8).length 0 K 0 (by omega) (by simp; omega)
    rw [List.drop_zero] at hn
    rw [show ((0 : Nat) : Int) = (0 : Int) from rfl] at hn
    rw [show (List.drop (Int.toNat 0) (List.take (Int.toNat 8) b)) = b.take 8 from rfl, hn]; simp only [Option.bind_some]
    rw [sub_ok (by omega) (by omega) (by omega)]; simp only [Option.bind_some, Int.toNat_natCast]
    rw [hidden_eq K hK key hk _ _ (by simp; omega)]; rfl
  · have hd : (!decide (tagT key (b.take (b.length - 16)) = b.drop (b.length - 16))) = true := by simp [h3]
    rw [if_pos hd, if_neg h3]
theorem refOpen_l2 (b c : List UInt8) (s : List UInt8 × Int) (hc : b.length = c.length + 24) (hg : ∀ i, i < c.length → b.getD (8 + i) 0 = c.getD i 0) (h : s.1.length = c.length) (hp : c.length ≤ 1100) : ∀ (n i k : Nat), i + n = c.length → n < k →
    holdfastref08_Open.l2 k b s (xorS (s.1.take i) (c.take i)) (i : Int) = some (xorS s.1 c)
  | 0, i, k + 1, h1, h2 => by
    rw [holdfastref08_Open.l2, if_neg (nt (dec_f (by rw [W_id (by omega) (by omega)]; omega))), List.take_of_length_le (by omega), List.take_of_length_le (by omega)]
  | n + 1, i, k + 1, h1, h2 => by
    have ih := refOpen_l2 b c s hc hg h hp n (i + 1) k (by omega) (by omega)
    have hw : W ((8 : Int) + (i : Int)) = ((8 + i : Nat) : Int) := by rw [W_id (by omega) (by omega)]; omega
    rw [holdfastref08_Open.l2, if_pos (dec_t (by rw [W_id (by omega) (by omega)]; omega)), hw, gt_nat 0 (by omega), gt_nat 0 (by omega)]
    simp only [Option.bind_some]
    rw [app_ok (by simp [xorS]; omega)]
    simp only [Option.bind_some, W_succ (show i < 9223372036854775807 by omega)]
    rw [xorS_snoc (by omega) (by omega), xor_comm8, ← hg i (by omega)] at ih
    exact ih
theorem refOpen_eq (K : Nat) (hK : 1200 ≤ K) (key : List UInt8) (hk : key.length = 32) (b : List UInt8) (hbb : b.length < 1000000000000000) : holdfastref08_Open K key b = some (openS key b) := by
  unfold holdfastref08_Open openS
  by_cases h1 : b.length < 24
  · rw [if_pos (dec_t (by omega)), if_pos h1]
  rw [if_neg (nt (dec_f (by omega))), if_neg h1]
  by_cases h2 : 1048 < b.length
  · rw [if_pos (dec_t (by omega)), if_pos h2]
  rw [if_neg (nt (dec_f (by omega))), if_neg h2]
  have hw : W ((b.length : Int) - 16) = ((b.length - 16 : Nat) : Int) := by rw [W_id (by omega) (by omega)]; omega
  have hw2 : W ((b.length : Int) - 24) = ((b.length - 24 : Nat) : Int) := by rw [W_id (by omega) (by omega)]; omega
  rw [hw, sub_ok (by omega) (by omega) (by omega)]; simp only [Option.bind_some]
  rw [refTag_eq K (by omega) key hk _ (by simp; omega)]; simp only [Option.bind_some]
  rw [sub_ok (by omega) (by omega) (by omega)]; simp only [Option.bind_some, Int.toNat_natCast, List.drop_zero, Int.toNat_zero]
  rw [List.take_of_length_le (Nat.le_refl b.length), same_dec K _ _ (by rw [tagT_len]; omega) (by rw [tagT_len]; omega)]; simp only [Option.bind_some]
  by_cases h3 : tagT key (b.take (b.length - 16)) = b.drop (b.length - 16)
  · rw [if_neg (by simp [h3]), if_pos h3]
    have hn := refopen_l1 b (by omega) 8 0 K 0 (by omega) (by omega)
    rw [List.drop_zero, show ((0 : Nat) : Int) = 0 from rfl] at hn
    rw [hn]; simp only [Option.bind_some]
    rw [hw2, refstream_eq K (by omega) key hk _ _ (by omega)]; simp only [Option.bind_some]
    have hc : ((b.take (b.length - 16)).drop 8).length = b.length - 24 := by simp; omega
    have h4 := refOpen_l2 b ((b.take (b.length - 16)).drop 8) (strN key ((b.take 8).foldl num1 0) (b.length - 24), 0) (by omega) (by
      intro i hi
      rw [List.getD_eq_getElem?_getD, List.getD_eq_getElem?_getD, List.getElem?_drop, List.getElem?_take, if_pos (by omega)]) (by rw [strN_len]; omega) (by omega) (b.length - 24) 0 K (by omega) (by omega)
    rw [show xorS (List.take 0 (strN key ((b.take 8).foldl num1 0) (b.length - 24))) (List.take 0 ((b.take (b.length - 16)).drop 8)) = [] by simp [xorS], show ((0 : Nat) : Int) = 0 from rfl] at h4
    unfold strN at h4
    rw [h4]; simp only [Option.bind_some]
    unfold hidS strN numS
    rw [hc]
  · rw [if_pos (by simp [h3]), if_neg h3]
end Go.Proofs.Ytbbenllkjpomdaa

/-
  SHA-256 of bytes: program and reference come to one sum. Plain Lean.
-/
import Derived.Test.YtbbenllkjpomdaaPlain3
namespace Go.Proofs.Ytbbenllkjpomdaa
open Go L
theorem word_congr {b c : List UInt8} (h : ∀ j, j < 64 → b.getD j 0 = c.getD j 0) (i : Nat) (hi : i < 16) : word b i = word c i := by
  unfold word
  rw [h _ (by omega), h _ (by omega), h _ (by omega), h _ (by omega)]
theorem earlyS_congr {b c : List UInt8} (h : ∀ j, j < 64 → b.getD j 0 = c.getD j 0) : ∀ (n i : Nat) (xs : List UInt32), i + n = 16 → earlyS b n i xs = earlyS c n i xs
  | 0, _, _, _ => rfl
  | n + 1, i, xs, hi => by rw [earlyS, earlyS, word_congr h i (by omega)]; exact earlyS_congr h n (i + 1) _ (by omega)
theorem mixS_congr {b c : List UInt8} (ks hh : List UInt32) (h : ∀ j, j < 64 → b.getD j 0 = c.getD j 0) : mixS ks hh b = mixS ks hh c := by
  unfold mixS; rw [earlyS_congr h 16 0 _ rfl]
theorem getD_app {b p : List UInt8} {j : Nat} (h : j < b.length) : (b ++ p).getD j 0 = b.getD j 0 := by
  simp [List.getD_eq_getElem?_getD, List.getElem?_append_left h]
def blocksN (ks : List UInt32) : Nat → List UInt32 → List UInt8 → List UInt32
  | 0, h, _ => h
  | n + 1, h, m => blocksN ks n (mixS ks h m) (m.drop 64)
theorem blocksN_len (ks : List UInt32) : ∀ (n : Nat) (h : List UInt32) (m : List UInt8), h.length = 8 → (blocksN ks n h m).length = 8
  | 0, _, _, hh => hh
  | n + 1, h, m, hh => blocksN_len ks n _ _ (mixS_len ks h m hh)
theorem blocksN_add (ks : List UInt32) : ∀ (q r : Nat) (h : List UInt32) (m : List UInt8), blocksN ks (q + r) h m = blocksN ks r (blocksN ks q h m) (m.drop (64 * q))
  | 0, r, h, m => by simp [blocksN]
  | q + 1, r, h, m => by
    rw [show q + 1 + r = (q + r) + 1 by omega, blocksN, blocksN_add ks q r, blocksN, List.drop_drop]
    rw [show 64 + 64 * q = 64 * (q + 1) by omega]
theorem blocksN_app (ks : List UInt32) (p : List UInt8) : ∀ (q : Nat) (h : List UInt32) (b : List UInt8), 64 * q ≤ b.length → blocksN ks q h (b ++ p) = blocksN ks q h b
  | 0, _, _, _ => rfl
  | q + 1, h, b, hb => by
    rw [blocksN, blocksN, mixS_congr ks h (c := b) (fun j hj => getD_app (by omega)), List.drop_append_of_le_length (by omega)]
    exact blocksN_app ks p q _ _ (by simp; omega)
theorem sum_l1 (K : Nat) (hK : 65 ≤ K) (ks : List UInt32) (hk : ks.length = 64) : ∀ (q k : Nat) (h : List UInt32) (b : List UInt8), h.length = 8 → 64 * q ≤ b.length → b.length < 64 * q + 64 → b.length < 4611686018427387904 → q < k →
    hash_Sum.l1 K k ks b h = some (b.drop (64 * q), blocksN ks q h b)
  | 0, k + 1, h, b, hh, h1, h2, h3, h4 => by
    rw [hash_Sum.l1, if_neg (nt (dec_f (by omega)))]; simp [blocksN]
  | q + 1, k + 1, h, b, hh, h1, h2, h3, h4 => by
    have ih := sum_l1 K hK ks hk q k (mixS ks h b) (b.drop 64) (mixS_len ks h b hh) (by simp; omega) (by simp; omega) (by simp; omega) (by omega)
    rw [hash_Sum.l1, if_pos (dec_t (by omega)), mix_eq K hK ks h b hk hh (by omega)]
    simp only [Option.bind_some]
    rw [sub_ok (by omega) (by omega) (by omega)]
    simp only [Option.bind_some, Int.toNat_natCast, List.take_length, show (64 : Int).toNat = 64 from rfl]
    rw [ih, List.drop_drop, blocksN, show 64 + 64 * q = 64 * (q + 1) by omega]
theorem sum_l3 (K : Nat) (hK : 65 ≤ K) (ks : List UInt32) (hk : ks.length = 64) : ∀ (t k : Nat) (h : List UInt32) (m : List UInt8), h.length = 8 → m.length = 64 * t → m.length < 4611686018427387904 → t < k →
    hash_Sum.l3 K k ks h m = some (blocksN ks t h m)
  | 0, k + 1, h, m, hh, h1, h3, h4 => by
    rw [hash_Sum.l3, if_neg (nt (dec_f (by omega)))]; rfl
  | t + 1, k + 1, h, m, hh, h1, h3, h4 => by
    have ih := sum_l3 K hK ks hk t k (mixS ks h m) (m.drop 64) (mixS_len ks h m hh) (by simp; omega) (by simp; omega) (by omega)
    rw [hash_Sum.l3, if_pos (dec_t (by omega)), mix_eq K hK ks h m hk hh (by omega)]
    simp only [Option.bind_some]
    rw [sub_ok (by omega) (by omega) (by omega)]
    simp only [Option.bind_some, Int.toNat_natCast, List.take_length, show (64 : Int).toNat = 64 from rfl]
    rw [ih, blocksN]
theorem ref_l3 (K : Nat) (hK : 65 ≤ K) (ks : List UInt32) (hk : ks.length = 64) (m : List UInt8) (hb : m.length < 4611686018427387000) : ∀ (t k at_ : Nat) (h : List UInt32), h.length = 8 → m.length = at_ + 64 * t → t < k →
    holdfastref07_Sum.l3 K k m ks h (at_ : Int) = some (blocksN ks t h (m.drop at_))
  | 0, k + 1, at_, h, hh, h1, h4 => by
    rw [holdfastref07_Sum.l3, if_neg (nt (dec_f (by omega)))]; rfl
  | t + 1, k + 1, at_, h, hh, h1, h4 => by
    have ih := ref_l3 K hK ks hk m hb t k (at_ + 64) (mixS ks h (m.drop at_)) (mixS_len ks h _ hh) (by omega) (by omega)
    have h5 := ref_l4 K (by omega) m at_ (by omega) (by omega) 16 0 K (List.replicate 64 0) rfl (by simp) (fun j _ => by
      simp only [List.getD_eq_getElem?_getD, List.getElem?_replicate]; split <;> rfl) (by omega)
    have h6 := ref_l6 K 48 16 K (earlyS (m.drop at_) 16 0 (List.replicate 64 0)) rfl (by omega) (by rw [earlyS_len]; simp) (by omega)
    have hl : (fillS 48 16 (earlyS (m.drop at_) 16 0 (List.replicate 64 0))).length = 64 := by rw [fillS_len, earlyS_len]; simp
    have h7 := ref_l7 K ks _ hk hl 64 0 K h rfl hh (by omega)
    have h8 := ref_l8 (h := h) (v := roundsS ks (fillS 48 16 (earlyS (m.drop at_) 16 0 (List.replicate 64 0))) 64 0 h) hh (roundsS_len _ _ _ _ _ hh) (K - 9)
    rw [show K - 9 + 9 = K by omega] at h8
    simp only [Int.natCast_zero] at h5 h7
    rw [show ((16 : Nat) : Int) = 16 from rfl] at h6
    rw [holdfastref07_Sum.l3, if_pos (dec_t (by omega))]
    simp only [Option.bind_some]
    rw [h5]; simp only [Option.bind_some]
    rw [h6]; simp only [Option.bind_some]
    rw [app_ok (by simp [hh])]; simp only [Option.bind_some, List.nil_append]
    rw [h7]; simp only [Option.bind_some]
    rw [h8]; simp only [Option.bind_some]
    rw [show W ((at_ : Int) + (64 : Int)) = ((at_ + 64 : Nat) : Int) by rw [W_id (by omega) (by omega)]; omega]
    have hm : addS h (roundsS ks (fillS 48 16 (earlyS (m.drop at_) 16 0 (List.replicate 64 0))) 64 0 h) = mixS ks h (m.drop at_) := rfl
    rw [hm, ih, blocksN, List.drop_drop]
def beS (v : UInt64) : Nat → Nat → List UInt8
  | 0, _ => []
  | n + 1, i => (shr64 v (56 - 8 * i)).toUInt8 :: beS v n (i + 1)
theorem beS_len (v : UInt64) : ∀ n i, (beS v n i).length = n
  | 0, _ => rfl
  | n + 1, i => by rw [beS, List.length_cons, beS_len v n]
theorem w56 {i : Nat} (hi : i < 8) : W ((56 : Int) - W ((8 : Int) * (i : Int))) = ((56 - 8 * i : Nat) : Int) := by
  rw [W_id (n := (8 : Int) * (i : Int)) (by omega) (by omega), W_id (by omega) (by omega)]; omega
theorem sum_l2 (b : List UInt8) : ∀ (n i k : Nat) (xs : List UInt8), i + n = 8 → xs.length + n < 140737488355000 → n < k → hash_Sum.l2 k b xs (i : Int) = some (xs ++ beS (shl64 (iU64 (b.length : Int)) 3) n i)
  | 0, i, k + 1, xs, h1, h2, h3 => by rw [hash_Sum.l2, if_neg (nt (dec_f (by omega)))]; simp [beS]
  | n + 1, i, k + 1, xs, h1, h2, h3 => by
    have ih := sum_l2 b n (i + 1) k (xs ++ [(shr64 (shl64 (iU64 (b.length : Int)) 3) (56 - 8 * i)).toUInt8]) (by omega) (by simp; omega) (by omega)
    rw [hash_Sum.l2, if_pos (dec_t (by omega)), w56 (by omega), shc_ok (by omega)]
    simp only [Option.bind_some, Int.toNat_natCast]
    rw [app_ok (by simp; omega)]
    simp only [Option.bind_some, W_succ (show i < 9223372036854775807 by omega)]
    rw [ih, beS]; simp
theorem ref_l2 (b : List UInt8) : ∀ (n i k : Nat) (xs : List UInt8), i + n = 8 → xs.length + n < 140737488355000 → n < k → holdfastref07_Sum.l2 k b xs (i : Int) = some (xs ++ beS (iU64 (b.length : Int) * 8) n i)
  | 0, i, k + 1, xs, h1, h2, h3 => by rw [holdfastref07_Sum.l2, if_neg (nt (dec_f (by omega)))]; simp [beS]
  | n + 1, i, k + 1, xs, h1, h2, h3 => by
    have ih := ref_l2 b n (i + 1) k (xs ++ [(shr64 (iU64 (b.length : Int) * 8) (56 - 8 * i)).toUInt8]) (by omega) (by simp; omega) (by omega)
    rw [holdfastref07_Sum.l2, if_pos (dec_t (by omega)), w56 (by omega), shc_ok (by omega)]
    simp only [Option.bind_some, Int.toNat_natCast]
    rw [app_ok (by simp; omega)]
    simp only [Option.bind_some, W_succ (show i < 9223372036854775807 by omega)]
    rw [ih, beS]; simp
theorem shl3 (x : UInt64) : shl64 x 3 = x * 8 := by
  unfold shl64
  apply UInt64.toBitVec_inj.1
  apply BitVec.eq_of_toNat_eq
  show (x.toBitVec <<< 3).toNat = (x.toBitVec * 8#64).toNat
  rw [BitVec.toNat_shiftLeft, BitVec.toNat_mul, Nat.shiftLeft_eq]; rfl
/-- the zeros of the padding, in the reference -/
theorem ref_l1 : ∀ (z k : Nat) (m : List UInt8), z < 64 → (m.length + z) % 64 = 56 → m.length + z < 140737488355000 → z < k → holdfastref07_Sum.l1 k m = some (m ++ List.replicate z 0)
  | 0, k + 1, m, h0, h1, h2, h3 => by
    rw [holdfastref07_Sum.l1, if_neg]
    · simp
    · have : ((m.length : Int).tmod 64) = 56 := by rw [Int.tmod_eq_emod_of_nonneg (by omega)]; omega
      simp [this]
  | z + 1, k + 1, m, h0, h1, h2, h3 => by
    have ih := ref_l1 z k (m ++ [0]) (by omega) (by simp; omega) (by
      simp; omega) (by omega)
    rw [holdfastref07_Sum.l1, if_pos]
    · simp only [Option.bind_some]
      rw [app_ok (by simp; omega)]
      simp only [Option.bind_some]
      rw [ih, List.append_assoc]; rfl
    · have : ((m.length : Int).tmod 64) ≠ 56 := by rw [Int.tmod_eq_emod_of_nonneg (by omega)]; omega
      simp [this]
end Go.Proofs.Ytbbenllkjpomdaa

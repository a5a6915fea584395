/-
  SHA-256: the first sixteen words; a block as a whole. Plain Lean.
-/
import Derived.Test.YtbbenllkjpomdaaPlain2
namespace Go.Proofs.Ytbbenllkjpomdaa
open Go L
def word (b : List UInt8) (i : Nat) : UInt32 :=
  ((shl32 (b.getD (4 * i) 0).toUInt32 24 ||| shl32 (b.getD (4 * i + 1) 0).toUInt32 16) ||| shl32 (b.getD (4 * i + 2) 0).toUInt32 8) ||| (b.getD (4 * i + 3) 0).toUInt32
def earlyS (b : List UInt8) : Nat → Nat → List UInt32 → List UInt32
  | 0, _, xs => xs
  | n + 1, i, xs => earlyS b n (i + 1) (xs.set i (word b i))
theorem earlyS_len (b : List UInt8) : ∀ (n i : Nat) (xs : List UInt32), (earlyS b n i xs).length = xs.length
  | 0, _, _ => rfl
  | n + 1, i, xs => by rw [earlyS, earlyS_len b n]; simp
theorem gt_at {α : Type} {xs : List α} {x : Int} (d : α) (i : Nat) (hx : x = (i : Int)) (h : i < xs.length) : gt xs x = some (xs.getD i d) := by subst hx; exact gt_nat d h
theorem mix_l1 (K : Nat) (b : List UInt8) (hb : 64 ≤ b.length) : ∀ (n i k : Nat) (xs : List UInt32), i + n = 16 → xs.length = 64 → n + 48 < k →
    hash_words_mix.l1 K k b xs (i : Int) = some (fillS 48 16 (earlyS b n i xs))
  | 0, i, k, xs, h1, h3, h4 => by
    have : i = 16 := by omega
    subst this
    exact mix_l1_late K b 48 16 k xs rfl (by omega) h3 (by omega)
  | n + 1, i, k + 1, xs, h1, h3, h4 => by
    have ih := mix_l1 K b hb n (i + 1) k (xs.set i (word b i)) (by omega) (by simpa using h3) (by omega)
    have w4 : W ((4 : Int) * (i : Int)) = ((4 * i : Nat) : Int) := by rw [W_id (by omega) (by omega)]; omega
    have g0 : gt b ((4 * i : Nat) : Int) = some (b.getD (4 * i) 0) := gt_nat 0 (by omega)
    have g1 : gt b (W (((4 * i : Nat) : Int) + 1)) = some (b.getD (4 * i + 1) 0) := gt_at 0 _ (by rw [W_id (by omega) (by omega)]; omega) (by omega)
    have g2 : gt b (W (((4 * i : Nat) : Int) + 2)) = some (b.getD (4 * i + 2) 0) := gt_at 0 _ (by rw [W_id (by omega) (by omega)]; omega) (by omega)
    have g3 : gt b (W (((4 * i : Nat) : Int) + 3)) = some (b.getD (4 * i + 3) 0) := gt_at 0 _ (by rw [W_id (by omega) (by omega)]; omega) (by omega)
    have hr : req (0 ≤ (i : Int) ∧ (i : Int) < (xs.length : Int)) = some () := req_ok ⟨by omega, by omega⟩
    rw [hash_words_mix.l1, if_pos (dec_t (by omega)), if_pos (dec_t (by omega))]
    simp only [w4, g0, g1, g2, g3, hr, Option.bind_some, W_succ (show i < 9223372036854775807 by omega), Int.toNat_natCast]
    exact ih
def mixS (ks h : List UInt32) (b : List UInt8) : List UInt32 := addS h (roundsS ks (fillS 48 16 (earlyS b 16 0 (List.replicate 64 0))) 64 0 h)
theorem mix_eq (K : Nat) (hK : 65 ≤ K) (ks h : List UInt32) (b : List UInt8) (hk : ks.length = 64) (hh : h.length = 8) (hb : 64 ≤ b.length) : hash_words_mix K h ks b = some (mixS ks h b) := by
  have h1 := mix_l1 K b hb 16 0 K (List.replicate 64 0) rfl (by simp) (by omega)
  have hl : (fillS 48 16 (earlyS b 16 0 (List.replicate 64 0))).length = 64 := by rw [fillS_len, earlyS_len]; simp
  have h2 := mix_l2 K ks _ hk hl 64 0 K h rfl hh (by omega)
  have h3 := mix_l3 (h := h) (v := roundsS ks (fillS 48 16 (earlyS b 16 0 (List.replicate 64 0))) 64 0 h) hh (roundsS_len _ _ _ _ _ hh) (K - 9)
  rw [show K - 9 + 9 = K by omega] at h3
  unfold hash_words_mix
  simp only [Int.natCast_zero] at h1 h2
  rw [h1]; simp only [Option.bind_some]
  rw [h2]; simp only [Option.bind_some]
  rw [h3]; rfl
theorem mixS_len (ks h : List UInt32) (b : List UInt8) (hh : h.length = 8) : (mixS ks h b).length = 8 := addS_len hh (roundsS_len _ _ _ _ _ hh)
-- the reference's
theorem shl_or (x y : UInt32) (n : Nat) : shl32 (x ||| y) n = shl32 x n ||| shl32 y n := by
  unfold shl32
  apply UInt32.toBitVec_inj.1
  simp [BitVec.shiftLeft_or_distrib]
theorem shl_shl (x : UInt32) (n m : Nat) : shl32 (shl32 x n) m = shl32 x (n + m) := by
  unfold shl32
  apply UInt32.toBitVec_inj.1
  simp [BitVec.shiftLeft_add]
theorem shl_z (n : Nat) : shl32 0 n = 0 := by
  unfold shl32
  apply UInt32.toBitVec_inj.1
  simp
theorem z_or (x : UInt32) : 0 ||| x = x := by
  apply u32_ext
  intro i hi
  simp
theorem ref_l5 (k : Nat) (m : List UInt8) (at_ i : Nat) (ws : List UInt32) (hi : i < 16) (hw : ws.length = 64) (h0 : ws.getD i 0 = 0) (hm : at_ + 64 ≤ m.length) (hb : m.length < 4611686018427387904) :
    holdfastref07_Sum.l5 (k + 5) (i : Int) m (at_ : Int) ws (0 : Int) = some (ws.set i (word (m.drop at_) i)) := by
  have w4 : W ((4 : Int) * (i : Int)) = ((4 * i : Nat) : Int) := by rw [W_id (by omega) (by omega)]; omega
  have wa : W ((at_ : Int) + ((4 * i : Nat) : Int)) = ((at_ + 4 * i : Nat) : Int) := by rw [W_id (by omega) (by omega)]; omega
  have hd : ∀ j, (m.drop at_).getD j 0 = m.getD (at_ + j) 0 := fun j => by simp [List.getD_eq_getElem?_getD, List.getElem?_drop]
  have gm : ∀ (j : Nat) (x : Int), x = (j : Int) → j < 4 → gt m (W (((at_ + 4 * i : Nat) : Int) + x)) = some ((m.drop at_).getD (4 * i + j) 0) := fun j x hx hj => by
    rw [hd]; exact gt_at 0 _ (by rw [hx, W_id (by omega) (by omega)]; omega) (by omega)
  have gw : ∀ v : UInt32, gt (ws.set i v) (i : Int) = some v := fun v => by
    rw [gt_nat 0 (by simp; omega)]; congr 1; simp [List.getD_eq_getElem?_getD, show i < ws.length by omega]
  have gw0 : gt ws (i : Int) = some 0 := by rw [gt_nat 0 (by omega), h0]
  have hr : ∀ v : UInt32, req (0 ≤ (i : Int) ∧ (i : Int) < ((ws.set i v).length : Int)) = some () := fun v => req_ok ⟨by omega, by simp; omega⟩
  have hr0 : req (0 ≤ (i : Int) ∧ (i : Int) < (ws.length : Int)) = some () := req_ok ⟨by omega, by omega⟩
  have e1 : W ((0 : Int) + 1) = 1 := rfl
  have e2 : W ((1 : Int) + 1) = 2 := rfl
  have e3 : W ((2 : Int) + 1) = 3 := rfl
  have e4 : W ((3 : Int) + 1) = 4 := rfl
  rw [holdfastref07_Sum.l5, if_pos (dec_t (by omega))]
  simp only [w4, wa, gm 0 0 rfl (by omega), gw0, hr0, Option.bind_some, Int.toNat_natCast, e1]
  rw [holdfastref07_Sum.l5, if_pos (dec_t (by omega))]
  simp only [w4, wa, gm 1 1 rfl (by omega), gw, hr, Option.bind_some, Int.toNat_natCast, e2, List.set_set]
  rw [holdfastref07_Sum.l5, if_pos (dec_t (by omega))]
  simp only [w4, wa, gm 2 2 rfl (by omega), gw, hr, Option.bind_some, Int.toNat_natCast, e3, List.set_set]
  rw [holdfastref07_Sum.l5, if_pos (dec_t (by omega))]
  simp only [w4, wa, gm 3 3 rfl (by omega), gw, hr, Option.bind_some, Int.toNat_natCast, e4, List.set_set]
  rw [holdfastref07_Sum.l5, if_neg (nt (dec_f (by omega)))]
  congr 2
  simp only [shl_z, z_or, shl_or, shl_shl, word, Nat.add_zero]
theorem ref_l4 (K : Nat) (hK : 5 ≤ K) (m : List UInt8) (at_ : Nat) (hm : at_ + 64 ≤ m.length) (hb : m.length < 4611686018427387904) : ∀ (n i k : Nat) (ws : List UInt32), i + n = 16 → ws.length = 64 → (∀ j, i ≤ j → ws.getD j 0 = 0) → n < k →
    holdfastref07_Sum.l4 K k m (at_ : Int) ws (i : Int) = some (earlyS (m.drop at_) n i ws)
  | 0, i, k + 1, ws, h1, h3, hz, h4 => by
    rw [holdfastref07_Sum.l4, if_neg (nt (dec_f (by omega)))]; rfl
  | n + 1, i, k + 1, ws, h1, h3, hz, h4 => by
    have ih := ref_l4 K hK m at_ hm hb n (i + 1) k (ws.set i (word (m.drop at_) i)) (by omega) (by simpa using h3) (fun j hj => by
      have := hz j (by omega)
      simp only [List.getD_eq_getElem?_getD] at this ⊢
      rw [List.getElem?_set_ne (by omega)]; exact this) (by omega)
    have h5 := ref_l5 (K - 5) m at_ i ws (by omega) h3 (hz i (Nat.le_refl _)) hm hb
    rw [show K - 5 + 5 = K by omega] at h5
    rw [holdfastref07_Sum.l4, if_pos (dec_t (by omega)), h5]
    simp only [Option.bind_some, W_succ (show i < 9223372036854775807 by omega)]
    exact ih
end Go.Proofs.Ytbbenllkjpomdaa

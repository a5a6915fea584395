/-
  SHA-256 in the program and in the reference: schedule and rounds. Plain Lean.
-/
import Derived.Test.YtbbenllkjpomdaaPure
import Derived.Test.YtbbenllkjpomdaaLib13
import Derived.KernelRfl
namespace Go.Proofs.Ytbbenllkjpomdaa
open Go L
theorem rot_m (K : Nat) (x : UInt32) : bits_RotateLeft32 K x (-7 : Int) = some (shl32 x 25 ||| shr32 x 7) ∧ bits_RotateLeft32 K x (-18 : Int) = some (shl32 x 14 ||| shr32 x 18) ∧
    bits_RotateLeft32 K x (-17 : Int) = some (shl32 x 15 ||| shr32 x 17) ∧ bits_RotateLeft32 K x (-19 : Int) = some (shl32 x 13 ||| shr32 x 19) ∧
    bits_RotateLeft32 K x (-6 : Int) = some (shl32 x 26 ||| shr32 x 6) ∧ bits_RotateLeft32 K x (-11 : Int) = some (shl32 x 21 ||| shr32 x 11) ∧ bits_RotateLeft32 K x (-25 : Int) = some (shl32 x 7 ||| shr32 x 25) ∧
    bits_RotateLeft32 K x (-2 : Int) = some (shl32 x 30 ||| shr32 x 2) ∧ bits_RotateLeft32 K x (-13 : Int) = some (shl32 x 19 ||| shr32 x 13) ∧ bits_RotateLeft32 K x (-22 : Int) = some (shl32 x 10 ||| shr32 x 22) :=
  ⟨rfl, rfl, rfl, rfl, rfl, rfl, rfl, rfl, rfl, rfl⟩
theorem turn_m (K : Nat) (x : UInt32) : holdfastref07_turn K x (7 : Int) = some (shl32 x 25 ||| shr32 x 7) ∧ holdfastref07_turn K x (18 : Int) = some (shl32 x 14 ||| shr32 x 18) ∧
    holdfastref07_turn K x (17 : Int) = some (shl32 x 15 ||| shr32 x 17) ∧ holdfastref07_turn K x (19 : Int) = some (shl32 x 13 ||| shr32 x 19) ∧
    holdfastref07_turn K x (6 : Int) = some (shl32 x 26 ||| shr32 x 6) ∧ holdfastref07_turn K x (11 : Int) = some (shl32 x 21 ||| shr32 x 11) ∧ holdfastref07_turn K x (25 : Int) = some (shl32 x 7 ||| shr32 x 25) ∧
    holdfastref07_turn K x (2 : Int) = some (shl32 x 30 ||| shr32 x 2) ∧ holdfastref07_turn K x (13 : Int) = some (shl32 x 19 ||| shr32 x 13) ∧ holdfastref07_turn K x (22 : Int) = some (shl32 x 10 ||| shr32 x 22) := by
  refine ⟨?_, ?_, ?_, ?_, ?_, ?_, ?_, ?_, ?_, ?_⟩ <;> (rw [or_comm32]; rfl)
def sg0 (x : UInt32) : UInt32 := ((shl32 x 25 ||| shr32 x 7) ^^^ (shl32 x 14 ||| shr32 x 18)) ^^^ (shr32 x 3)
def sg1 (x : UInt32) : UInt32 := ((shl32 x 15 ||| shr32 x 17) ^^^ (shl32 x 13 ||| shr32 x 19)) ^^^ (shr32 x 10)
def nxt (xs : List UInt32) (i : Nat) : UInt32 := ((xs.getD (i - 16) 0 + sg0 (xs.getD (i - 15) 0)) + xs.getD (i - 7) 0) + sg1 (xs.getD (i - 2) 0)
def fillS : Nat → Nat → List UInt32 → List UInt32
  | 0, _, xs => xs
  | n + 1, i, xs => fillS n (i + 1) (xs.set i (nxt xs i))
theorem fillS_len : ∀ (n i : Nat) (xs : List UInt32), (fillS n i xs).length = xs.length
  | 0, _, _ => rfl
  | n + 1, i, xs => by rw [fillS, fillS_len n]; simp
theorem gt_sub {xs : List UInt32} {i j : Nat} (h0 : j ≤ i) (h1 : i - j < xs.length) (hx : i < 1000) : gt xs (W ((i : Int) - (j : Int))) = some (xs.getD (i - j) 0) := by
  rw [W_id (by omega) (by omega), show ((i : Int) - (j : Int)) = ((i - j : Nat) : Int) by omega]
  exact gt_nat 0 h1
theorem mix_l1_late (K : Nat) (b : List UInt8) : ∀ (n i k : Nat) (xs : List UInt32), i + n = 64 → 16 ≤ i → xs.length = 64 → n < k → hash_words_mix.l1 K k b xs (i : Int) = some (fillS n i xs)
  | 0, i, k + 1, xs, h1, _, _, _ => by
    rw [hash_words_mix.l1, if_neg (nt (dec_f (by omega)))]; rfl
  | n + 1, i, k + 1, xs, h1, h2, h3, h4 => by
    have ih := mix_l1_late K b n (i + 1) k (xs.set i (nxt xs i)) (by omega) (by omega) (by simpa using h3) (by omega)
    have g15 := gt_sub (xs := xs) (i := i) (j := 15) (by omega) (by omega) (by omega)
    have g2 := gt_sub (xs := xs) (i := i) (j := 2) (by omega) (by omega) (by omega)
    have g16 := gt_sub (xs := xs) (i := i) (j := 16) (by omega) (by omega) (by omega)
    have g7 := gt_sub (xs := xs) (i := i) (j := 7) (by omega) (by omega) (by omega)
    have hr : req (0 ≤ (i : Int) ∧ (i : Int) < (xs.length : Int)) = some () := req_ok ⟨by omega, by omega⟩
    rw [hash_words_mix.l1, if_pos (dec_t (by omega)), if_neg (nt (dec_f (by omega)))]
    obtain ⟨r1, r2, r3, r4, -⟩ := rot_m K (xs.getD (i - 15) 0)
    obtain ⟨-, -, q3, q4, -⟩ := rot_m K (xs.getD (i - 2) 0)
    simp only [Int.cast_ofNat_Int] at g15 g2 g16 g7
    simp only [g15, g2, g16, g7, hr, r1, r2, q3, q4, Option.bind_some, W_succ (show i < 9223372036854775807 by omega), Int.toNat_natCast]
    exact ih
theorem ref_l6 (K : Nat) : ∀ (n i k : Nat) (xs : List UInt32), i + n = 64 → 16 ≤ i → xs.length = 64 → n < k → holdfastref07_Sum.l6 K k xs (i : Int) = some (fillS n i xs)
  | 0, i, k + 1, xs, h1, _, _, _ => by
    rw [holdfastref07_Sum.l6, if_neg (nt (dec_f (by omega)))]; rfl
  | n + 1, i, k + 1, xs, h1, h2, h3, h4 => by
    have ih := ref_l6 K n (i + 1) k (xs.set i (nxt xs i)) (by omega) (by omega) (by simpa using h3) (by omega)
    have g15 := gt_sub (xs := xs) (i := i) (j := 15) (by omega) (by omega) (by omega)
    have g2 := gt_sub (xs := xs) (i := i) (j := 2) (by omega) (by omega) (by omega)
    have g16 := gt_sub (xs := xs) (i := i) (j := 16) (by omega) (by omega) (by omega)
    have g7 := gt_sub (xs := xs) (i := i) (j := 7) (by omega) (by omega) (by omega)
    have hr : req (0 ≤ (i : Int) ∧ (i : Int) < (xs.length : Int)) = some () := req_ok ⟨by omega, by omega⟩
    rw [holdfastref07_Sum.l6, if_pos (dec_t (by omega))]
    obtain ⟨r1, r2, -⟩ := turn_m K (xs.getD (i - 15) 0)
    obtain ⟨-, -, q3, q4, -⟩ := turn_m K (xs.getD (i - 2) 0)
    simp only [Int.cast_ofNat_Int] at g15 g2 g16 g7
    simp only [g15, g2, g16, g7, hr, r1, r2, q3, q4, Option.bind_some, W_succ (show i < 9223372036854775807 by omega), Int.toNat_natCast]
    exact ih
end Go.Proofs.Ytbbenllkjpomdaa

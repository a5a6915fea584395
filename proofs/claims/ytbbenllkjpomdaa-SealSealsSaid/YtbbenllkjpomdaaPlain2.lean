/-
  SHA-256: the rounds, and a block. Plain Lean.
-/
import Derived.Test.YtbbenllkjpomdaaPlain1
namespace Go.Proofs.Ytbbenllkjpomdaa
open Go L
def S1 (x : UInt32) : UInt32 := ((shl32 x 26 ||| shr32 x 6) ^^^ (shl32 x 21 ||| shr32 x 11)) ^^^ (shl32 x 7 ||| shr32 x 25)
def S0 (x : UInt32) : UInt32 := ((shl32 x 30 ||| shr32 x 2) ^^^ (shl32 x 19 ||| shr32 x 13)) ^^^ (shl32 x 10 ||| shr32 x 22)
def tS (k w e f g h : UInt32) : UInt32 := (((h + S1 e) + (g ^^^ (e &&& (f ^^^ g)))) + k) + w
def uS (a b c : UInt32) : UInt32 := S0 a + ((a &&& b) ||| (c &&& (a ||| b)))
def rndS (k w : UInt32) : List UInt32 → List UInt32
  | [a, b, c, d, e, f, g, h] => [tS k w e f g h + uS a b c, a, b, c, d + tS k w e f g h, e, f, g]
  | v => v
theorem rndS_len (k w : UInt32) (v : List UInt32) (h : v.length = 8) : (rndS k w v).length = 8 := by
  obtain ⟨a, b, c, d, e, f, g, i, rfl⟩ := len8 h; rfl
def roundsS (ks ws : List UInt32) : Nat → Nat → List UInt32 → List UInt32
  | 0, _, v => v
  | n + 1, i, v => roundsS ks ws n (i + 1) (rndS (ks.getD i 0) (ws.getD i 0) v)
theorem roundsS_len (ks ws : List UInt32) : ∀ (n i : Nat) (v : List UInt32), v.length = 8 → (roundsS ks ws n i v).length = 8
  | 0, _, _, h => h
  | n + 1, i, v, h => by rw [roundsS]; exact roundsS_len ks ws n (i + 1) _ (rndS_len _ _ _ h)
theorem mix_l2 (K : Nat) (ks ws : List UInt32) (hk : ks.length = 64) (hw : ws.length = 64) : ∀ (n i k : Nat) (v : List UInt32), i + n = 64 → v.length = 8 → n < k →
    hash_words_mix.l2 K k ks ws v (i : Int) = some (roundsS ks ws n i v)
  | 0, i, k + 1, v, h1, _, _ => by
    rw [hash_words_mix.l2, if_neg (nt (dec_f (by omega)))]; rfl
  | n + 1, i, k + 1, v, h1, h3, h4 => by
    have ih := mix_l2 K ks ws hk hw n (i + 1) k (rndS (ks.getD i 0) (ws.getD i 0) v) (by omega) (rndS_len _ _ _ h3) (by omega)
    have gk : gt ks (i : Int) = some (ks.getD i 0) := gt_nat 0 (by omega)
    have gw : gt ws (i : Int) = some (ws.getD i 0) := gt_nat 0 (by omega)
    obtain ⟨a, b, c, d, e, f, g, h, rfl⟩ := len8 h3
    rw [hash_words_mix.l2, if_pos (dec_t (by omega))]
    obtain ⟨-, -, -, -, r5, r6, r7, -⟩ := rot_m K e
    obtain ⟨-, -, -, -, -, -, -, r8, r9, r10⟩ := rot_m K a
    have e4 : ([a, b, c, d, e, f, g, h] : List UInt32).getD 4 0 = e := rfl
    have e0 : ([a, b, c, d, e, f, g, h] : List UInt32).getD 0 0 = a := rfl
    simp only [e4, e0, r5, r6, r7, r8, r9, r10, gk, gw, Option.bind_some, W_succ (show i < 9223372036854775807 by omega)]
    exact ih
theorem ref_l7 (K : Nat) (ks ws : List UInt32) (hk : ks.length = 64) (hw : ws.length = 64) : ∀ (n i k : Nat) (v : List UInt32), i + n = 64 → v.length = 8 → n < k →
    holdfastref07_Sum.l7 K k ks ws v (i : Int) = some (roundsS ks ws n i v)
  | 0, i, k + 1, v, h1, _, _ => by
    rw [holdfastref07_Sum.l7, if_neg (nt (dec_f (by omega)))]; rfl
  | n + 1, i, k + 1, v, h1, h3, h4 => by
    have ih := ref_l7 K ks ws hk hw n (i + 1) k (rndS (ks.getD i 0) (ws.getD i 0) v) (by omega) (rndS_len _ _ _ h3) (by omega)
    have gk : gt ks (i : Int) = some (ks.getD i 0) := gt_nat 0 (by omega)
    have gw : gt ws (i : Int) = some (ws.getD i 0) := gt_nat 0 (by omega)
    obtain ⟨a, b, c, d, e, f, g, h, rfl⟩ := len8 h3
    rw [holdfastref07_Sum.l7, if_pos (dec_t (by omega))]
    obtain ⟨-, -, -, -, r5, r6, r7, -⟩ := turn_m K e
    obtain ⟨-, -, -, -, -, -, -, r8, r9, r10⟩ := turn_m K a
    have q0 : gt ([a, b, c, d, e, f, g, h] : List UInt32) (0 : Int) = some a := rfl
    have q1 : gt ([a, b, c, d, e, f, g, h] : List UInt32) (1 : Int) = some b := rfl
    have q2 : gt ([a, b, c, d, e, f, g, h] : List UInt32) (2 : Int) = some c := rfl
    have q3 : gt ([a, b, c, d, e, f, g, h] : List UInt32) (3 : Int) = some d := rfl
    have q4 : gt ([a, b, c, d, e, f, g, h] : List UInt32) (4 : Int) = some e := rfl
    have q5 : gt ([a, b, c, d, e, f, g, h] : List UInt32) (5 : Int) = some f := rfl
    have q6 : gt ([a, b, c, d, e, f, g, h] : List UInt32) (6 : Int) = some g := rfl
    have q7 : gt ([a, b, c, d, e, f, g, h] : List UInt32) (7 : Int) = some h := rfl
    simp only [q0, q1, q2, q3, q4, q5, q6, q7, r5, r6, r7, r8, r9, r10, gk, gw, Option.bind_some, W_succ (show i < 9223372036854775807 by omega), ch_eq, maj_eq, UInt32.add_assoc]
    have hs : rndS (ks.getD i 0) (ws.getD i 0) [a, b, c, d, e, f, g, h] = [tS (ks.getD i 0) (ws.getD i 0) e f g h + uS a b c, a, b, c, d + tS (ks.getD i 0) (ws.getD i 0) e f g h, e, f, g] := rfl
    rw [hs] at ih
    simp only [tS, uS, S0, S1, UInt32.add_assoc] at ih
    rw [roundsS, hs]
    simp only [tS, uS, S0, S1, UInt32.add_assoc]
    exact ih
def addS (h v : List UInt32) : List UInt32 := List.zipWith (· + ·) h v
theorem mix_l3 {h v : List UInt32} (hh : h.length = 8) (hv : v.length = 8) (k : Nat) : hash_words_mix.l3 (k + 9) v h (0 : Int) = some (addS h v) := by
  obtain ⟨a, b, c, d, e, f, g, i, rfl⟩ := len8 hh
  obtain ⟨a', b', c', d', e', f', g', i', rfl⟩ := len8 hv
  rfl
theorem ref_l8 {h v : List UInt32} (hh : h.length = 8) (hv : v.length = 8) (k : Nat) : holdfastref07_Sum.l8 (k + 9) v h (0 : Int) = some (addS h v) := by
  obtain ⟨a, b, c, d, e, f, g, i, rfl⟩ := len8 hh
  obtain ⟨a', b', c', d', e', f', g', i', rfl⟩ := len8 hv
  rfl
theorem addS_len {h v : List UInt32} (hh : h.length = 8) (hv : v.length = 8) : (addS h v).length = 8 := by simp [addS, hh, hv]
end Go.Proofs.Ytbbenllkjpomdaa

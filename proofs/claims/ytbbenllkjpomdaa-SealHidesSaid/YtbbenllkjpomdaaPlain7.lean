/-
  The stream: program and reference come to one. Plain Lean.
-/
import Derived.Test.YtbbenllkjpomdaaPlain6
namespace Go.Proofs.Ytbbenllkjpomdaa
open Go L
def blkS (key : List UInt8) (once : UInt64) (i : Nat) : List UInt8 := tagS key ([115] ++ beS once 8 0 ++ beS (UInt64.ofNat i) 8 0)
def strS (key : List UInt8) (once : UInt64) : Nat → List UInt8
  | 0 => []
  | j + 1 => strS key once j ++ blkS key once j
theorem strS_len (key : List UInt8) (once : UInt64) : ∀ j, (strS key once j).length = 32 * j
  | 0 => rfl
  | j + 1 => by rw [strS, List.length_append, strS_len key once j, blkS, tagS_len]; omega
theorem concat3 (k : Nat) (a b c : List UInt8) (ha : a.length + b.length + c.length < 1000000) : slices_Concat_byte_byte (k + 4) [a, b, c] = some (a ++ b ++ c) := by
  have g0 : gt [a, b, c] (0 : Int) = some a := rfl
  have g1 : gt [a, b, c] (1 : Int) = some b := rfl
  have g2 : gt [a, b, c] (2 : Int) = some c := rfl
  have e1 : W ((0 : Int) + 1) = 1 := rfl
  have e2 : W ((1 : Int) + 1) = 2 := rfl
  have e3 : W ((2 : Int) + 1) = 3 := rfl
  have hl : (([a, b, c] : List (List UInt8)).length : Int) = 3 := rfl
  have h1 : slices_Concat_byte_byte.l1 (k + 4) [a, b, c] 0 0 = some (((a.length + b.length + c.length : Nat) : Int)) := by
    rw [slices_Concat_byte_byte.l1, hl, if_pos (dec_t (by omega)), g0]; simp only [Option.bind_some]
    rw [W_id (n := (0 : Int) + (a.length : Int)) (by omega) (by omega), if_neg (nt (dec_f (by omega))), e1]
    rw [slices_Concat_byte_byte.l1, hl, if_pos (dec_t (by omega)), g1]; simp only [Option.bind_some]
    rw [W_id (n := (0 : Int) + (a.length : Int) + (b.length : Int)) (by omega) (by omega), if_neg (nt (dec_f (by omega))), e2]
    rw [slices_Concat_byte_byte.l1, hl, if_pos (dec_t (by omega)), g2]; simp only [Option.bind_some]
    rw [W_id (n := (0 : Int) + (a.length : Int) + (b.length : Int) + (c.length : Int)) (by omega) (by omega), if_neg (nt (dec_f (by omega))), e3]
    rw [slices_Concat_byte_byte.l1, hl, if_neg (nt (dec_f (by omega)))]
    congr 1; omega
  have h2 : ∀ n : Nat, n < 1000000 → slices_Grow_byte_byte (k + 4) (n : Int) = some [] := fun n hn => by
    unfold slices_Grow_byte_byte slices_Grow_byte_byte.j1 slices_Grow_byte_byte.j2
    have hw : W ((n : Int) - W ((0 : Int) - 0)) = (n : Int) := by rw [show W ((0 : Int) - 0) = 0 from rfl, W_id (by omega) (by omega)]; omega
    rw [if_neg (nt (dec_f (by omega))), hw]
    by_cases h0 : n = 0
    · subst h0; rfl
    · rw [if_pos (dec_t (by omega))]
      rw [show sub ([] : List UInt8) 0 0 = some [] from rfl]; simp only [Option.bind_some]
      rw [mks_ok (by omega) (by omega)]; simp only [Option.bind_some]
      rw [app_ok (by simp; omega)]; simp only [Option.bind_some]
      rw [sub_ok (by omega) (by omega) (by omega)]; rfl
  have h3 : slices_Concat_byte_byte.l2 (k + 4) [a, b, c] [] 0 = some (a ++ b ++ c) := by
    rw [slices_Concat_byte_byte.l2, hl, if_pos (dec_t (by omega)), g0]; simp only [Option.bind_some]
    rw [app_ok (by simp; omega), e1]; simp only [Option.bind_some]
    rw [slices_Concat_byte_byte.l2, hl, if_pos (dec_t (by omega)), g1]; simp only [Option.bind_some]
    rw [app_ok (by simp; omega), e2]; simp only [Option.bind_some]
    rw [slices_Concat_byte_byte.l2, hl, if_pos (dec_t (by omega)), g2]; simp only [Option.bind_some]
    rw [app_ok (by simp; omega), e3]; simp only [Option.bind_some]
    rw [slices_Concat_byte_byte.l2, hl, if_neg (nt (dec_f (by omega)))]; rfl
  unfold slices_Concat_byte_byte
  rw [h1]; simp only [Option.bind_some]
  rw [h2 _ ha]; simp only [Option.bind_some]
  rw [h3]; rfl
theorem u64_succ (i : Nat) : UInt64.ofNat i + 1 = UInt64.ofNat (i + 1) := by
  rw [UInt64.ofNat_add]; rfl
theorem iU64_nat {i : Nat} (h : i < 18446744073709551616) : iU64 (i : Int) = UInt64.ofNat i := by
  unfold iU64; congr 1; omega
theorem blocks_l1 (K : Nat) (hK : 100 ≤ K) (key : List UInt8) (hk : key.length = 32) (once : UInt64) (n : Nat) (hn : n ≤ 1024) : ∀ (m i k : Nat), i + m = (n + 31) / 32 → m < k →
    seal_blocks_1.l1 (Yc (seal_Stream.y1 K (n : Int))) K k once key (strS key once i, none) (UInt64.ofNat i) = some (strS key once ((n + 31) / 32), some 1)
  | m, i, k + 1, h1, h2 => by
    have hb := tag_eq K key ([115] ++ beS once 8 0 ++ beS (UInt64.ofNat i) 8 0) (by omega) (by simp [beS_len]) hK (by simp [beS_len]; omega)
    have hc := concat3 (K - 4) [115] (beS once 8 0) (beS (UInt64.ofNat i) 8 0) (by simp [beS_len])
    rw [show K - 4 + 4 = K by omega] at hc
    have he : ∀ v, seal_eight K v = some (beS v 8 0) := fun v => by have := eight_eq (K - 9) v; rwa [show K - 9 + 9 = K by omega] at this
    have hl := strS_len key once i
    rw [seal_blocks_1.l1]
    simp only [Option.bind_some, he, hc, hb]
    have hbl : tagS key ([115] ++ beS once 8 0 ++ beS (UInt64.ofNat i) 8 0) = blkS key once i := rfl
    rw [hbl]
    unfold Yc seal_Stream.y1
    by_cases hm : m = 0
    · subst hm
      have hi : i = (n + 31) / 32 := by omega
      simp only
      rw [if_pos (dec_t (by omega))]
      simp only [Option.bind_some]
      rw [if_neg (by simp), hi]
    · simp only
      rw [if_neg (nt (dec_f (by omega)))]
      rw [app_ok (by rw [hl, blkS, tagS_len]; omega)]
      simp only [Option.bind_some]
      rw [if_pos (by rfl), u64_succ]
      obtain ⟨m, rfl⟩ : ∃ m', m = m' + 1 := ⟨m - 1, by omega⟩
      have ih := blocks_l1 K hK key hk once n hn m (i + 1) k (by omega) (by omega)
      unfold Yc seal_Stream.y1 at ih
      exact ih
theorem stream_eq (K : Nat) (hK : 100 ≤ K) (key : List UInt8) (hk : key.length = 32) (once : UInt64) (n : Nat) (hn : n ≤ 1024) :
    seal_Stream K key once (n : Int) = some ((strS key once ((n + 31) / 32)).take n, 0) := by
  have h1 := blocks_l1 K hK key hk once n hn ((n + 31) / 32) 0 K (by omega) (by omega)
  have hl := strS_len key once ((n + 31) / 32)
  have hd : (decide ((n : Int) < 0) || decide ((1024 : Int) < (n : Int))) = false := by simp; omega
  unfold seal_Stream seal_blocks seal_blocks_1
  rw [if_neg (nt hd)]
  simp only [Option.bind_some]
  rw [show ([], none) = (strS key once 0, (none : Option Nat)) from rfl, show (0 : UInt64) = UInt64.ofNat 0 from rfl, h1]
  simp only [Option.bind_some, jm]
  rw [if_pos trivial, sub_ok (by omega) (by omega) (by omega)]
  simp
theorem refstream_l1 (K : Nat) (hK : 100 ≤ K) (key : List UInt8) (hk : key.length = 32) (once : UInt64) (n : Nat) (hn : n ≤ 1024) : ∀ (m i k : Nat), i + m = (n + 31) / 32 → m < k →
    holdfastref08_Stream.l1 K k (n : Int) once key (strS key once i) (i : Int) = some (strS key once ((n + 31) / 32))
  | 0, i, k + 1, h1, h2 => by
    have hl := strS_len key once i
    rw [holdfastref08_Stream.l1, if_neg (nt (dec_f (by omega))), show i = (n + 31) / 32 by omega]
  | m + 1, i, k + 1, h1, h2 => by
    have ih := refstream_l1 K hK key hk once n hn m (i + 1) k (by omega) (by omega)
    have hb := reftag_eq K key ([115] ++ beS once 8 0 ++ beS (UInt64.ofNat i) 8 0) (by omega) (by simp [beS_len]) hK (by simp [beS_len]; omega)
    have he : ∀ v, holdfastref08_eight K v = some (beS v 8 0) := fun v => by have := refeight_eq (K - 9) v; rwa [show K - 9 + 9 = K by omega] at this
    have hl := strS_len key once i
    rw [holdfastref08_Stream.l1, if_pos (dec_t (by omega))]
    simp only [Option.bind_some, he, iU64_nat (show i < 18446744073709551616 by omega)]
    rw [app_ok (by simp [beS_len])]; simp only [Option.bind_some]
    rw [app_ok (by simp [beS_len])]; simp only [Option.bind_some]
    rw [ref_Bytes K key hk (by omega)]; simp only [Option.bind_some]
    rw [hb]; simp only [Option.bind_some]
    rw [ref_Bytes K _ (tagS_len _ _) (by omega)]; simp only [Option.bind_some]
    rw [app_ok (by rw [hl, tagS_len]; omega)]; simp only [Option.bind_some, W_succ (show i < 9223372036854775807 by omega)]
    exact ih
theorem refstream_eq (K : Nat) (hK : 100 ≤ K) (key : List UInt8) (hk : key.length = 32) (once : UInt64) (n : Nat) (hn : n ≤ 1024) :
    holdfastref08_Stream K key once (n : Int) = some ((strS key once ((n + 31) / 32)).take n, 0) := by
  have h1 := refstream_l1 K hK key hk once n hn ((n + 31) / 32) 0 K (by omega) (by omega)
  have hl := strS_len key once ((n + 31) / 32)
  have hd : (decide ((n : Int) < 0) || decide ((1024 : Int) < (n : Int))) = false := by simp; omega
  unfold holdfastref08_Stream
  rw [if_neg (nt hd), show ([] : List UInt8) = strS key once 0 from rfl, show (0 : Int) = ((0 : Nat) : Int) from rfl, h1]
  simp only [Option.bind_some]
  rw [sub_ok (by omega) (by omega) (by omega)]
  simp
end Go.Proofs.Ytbbenllkjpomdaa

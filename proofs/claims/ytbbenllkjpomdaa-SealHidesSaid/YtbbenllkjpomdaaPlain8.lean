/-
  Bytes held against each other; the law of the streams. Plain Lean.
-/
import Derived.Test.YtbbenllkjpomdaaPlain7
import Derived.Test.YtbbenllkjpomdaaLive
namespace Go.Proofs.Ytbbenllkjpomdaa
open Go L
theorem same_l1 (a : List UInt8) : ∀ (n i k : Nat), i + n = a.length → n < k → a.length < 1000000000 → holdfastref01_SameBytes.l1 k a a (i : Int) = some (.go ())
  | 0, i, k + 1, h1, h2, h3 => by rw [holdfastref01_SameBytes.l1, if_neg (nt (dec_f (by omega)))]
  | n + 1, i, k + 1, h1, h2, h3 => by
    have ih := same_l1 a n (i + 1) k (by omega) (by omega) h3
    rw [holdfastref01_SameBytes.l1, if_pos (dec_t (by omega)), gt_nat 0 (by omega)]
    simp only [Option.bind_some]
    rw [if_neg (by simp), W_succ (by omega)]; exact ih
theorem same_eq (K : Nat) (a : List UInt8) (h : a.length < K) (hb : a.length < 1000000000) : holdfastref01_SameBytes K a a = some true := by
  have h1 := same_l1 a a.length 0 K (by omega) (by omega) hb
  unfold holdfastref01_SameBytes
  rw [if_neg (by simp), show (0 : Int) = ((0 : Nat) : Int) from rfl, h1]; rfl
theorem size_in (K n : Nat) (h : n ≤ 1024) : seal_Size K (n : Int) = some ((n + 24 : Nat) : Int) := by
  unfold seal_Size
  rw [if_neg (by simp; omega), W_id (by omega) (by omega)]; rfl
theorem law_streams (key : List UInt8) (once : UInt64) (n : Int) (hk : key.length = 32) (h0 : -9223372036854775808 ≤ n) (h1 : n ≤ 9223372036854775807) : ∃ K, holdfastlaw08_SealStreams K key once n = some true := by
  refine ⟨5000, ?_⟩
  by_cases hn : 0 ≤ n ∧ n ≤ 1024
  · obtain ⟨m, rfl⟩ : ∃ m : Nat, n = (m : Int) := ⟨n.toNat, by omega⟩
    have hm : m ≤ 1024 := by omega
    have hl := strS_len key once ((m + 31) / 32)
    have hs := same_eq 5000 ((strS key once ((m + 31) / 32)).take m) (by simp; omega) (by simp; omega)
    have hw : W ((m : Int) + 24) = ((m + 24 : Nat) : Int) := by rw [W_id (by omega) (by omega)]; rfl
    unfold holdfastlaw08_SealStreams
    rw [stream_eq 5000 (by omega) key hk once m hm]; simp only [Option.bind_some]
    rw [refstream_eq 5000 (by omega) key hk once m hm]; simp only [Option.bind_some]
    rw [if_pos (by simp; omega), hw]
    unfold holdfastlaw08_SealStreams.j1
    rw [live_true]; simp only [Option.bind_some, if_true]
    rw [hs]; simp only [Option.bind_some, decide_true, Bool.and_self, if_true]
    rw [size_in 5000 m hm]; simp
  · have e1 : seal_Stream 5000 key once n = some ([], 2) := by
      unfold seal_Stream
      rw [if_pos (by simp; omega)]
    have e2 : holdfastref08_Stream 5000 key once n = some ([], 2) := by
      unfold holdfastref08_Stream
      rw [if_pos (by simp; omega)]
    have e3 : seal_Size 5000 n = some 0 := by
      unfold seal_Size
      rw [if_pos (by simp; omega)]
    have hs := same_eq 5000 [] (by simp) (by simp)
    unfold holdfastlaw08_SealStreams
    rw [e1]; simp only [Option.bind_some]
    rw [e2]; simp only [Option.bind_some]
    rw [if_neg (by simp; omega)]
    unfold holdfastlaw08_SealStreams.j1
    rw [live_true]; simp only [Option.bind_some, if_true]
    rw [hs]; simp only [Option.bind_some, decide_true, Bool.and_self, if_true]
    rw [e3]; simp
end Go.Proofs.Ytbbenllkjpomdaa

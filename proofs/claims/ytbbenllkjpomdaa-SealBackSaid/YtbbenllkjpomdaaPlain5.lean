/-
  SHA-256 of bytes, and the tag: program and reference come to one. Plain Lean.
-/
import Derived.Test.YtbbenllkjpomdaaPlain4
namespace Go.Proofs.Ytbbenllkjpomdaa
open Go L
def KS : List UInt32 := (hash_rounds 0).getD []
theorem rounds_eq (K : Nat) : hash_rounds K = some KS := rfl
theorem constants_eq (K : Nat) : holdfastref07_constants K = some KS := rfl
theorem KS_len : KS.length = 64 := by kernel_rfl
def H0 : List UInt32 := [1779033703, 3144134277, 1013904242, 2773480762, 1359893119, 2600822924, 528734635, 1541459225]
def outS (h : List UInt32) : List UInt8 := h.flatMap fun e => [(shr32 e 24).toUInt8, (shr32 e 16).toUInt8, (shr32 e 8).toUInt8, e.toUInt8]
theorem outS_len {h : List UInt32} (hh : h.length = 8) : (outS h).length = 32 := by
  obtain ⟨a, b, c, d, e, f, g, i, rfl⟩ := len8 hh; rfl
theorem sum_l4 {h : List UInt32} (hh : h.length = 8) (k : Nat) : hash_Sum.l4 (k + 9) h (List.replicate 32 (0 : UInt8)) (0 : Int) = some (outS h) := by
  obtain ⟨a, b, c, d, e, f, g, i, rfl⟩ := len8 hh; kernel_rfl
theorem ref_l9 {h : List UInt32} (hh : h.length = 8) (k : Nat) : holdfastref07_Sum.l9 (k + 33) h (List.replicate 32 (0 : UInt8)) (0 : Int) = some (outS h) := by
  obtain ⟨a, b, c, d, e, f, g, i, rfl⟩ := len8 hh; kernel_rfl
def padZ (n : Nat) : Nat := (119 - n % 64) % 64
def padS (b : List UInt8) : List UInt8 := b ++ ([128] ++ List.replicate (padZ b.length) 0 ++ beS (iU64 (b.length : Int) * 8) 8 0)
theorem padS_len (b : List UInt8) : (padS b).length = b.length + 1 + padZ b.length + 8 := by
  simp [padS, beS_len]; omega
theorem padS_mod (b : List UInt8) : (padS b).length = 64 * ((padS b).length / 64) := by
  rw [padS_len]; unfold padZ; omega
def shaS (b : List UInt8) : List UInt8 := outS (blocksN KS ((padS b).length / 64) H0 (padS b))
theorem shaS_len (b : List UInt8) : (shaS b).length = 32 := outS_len (blocksN_len _ _ _ _ rfl)
theorem sum_eq (K : Nat) (b : List UInt8) (hK : 65 ≤ K) (hb : b.length < 140737488350000) (hKb : b.length / 64 + 3 < K) : hash_Sum K b = some (shaS b) := by
  obtain ⟨q, hq⟩ : ∃ q, q = b.length / 64 := ⟨_, rfl⟩
  have h1 := sum_l1 K hK KS KS_len q K H0 b rfl (by omega) (by omega) (by omega) (by omega)
  obtain ⟨r, hr⟩ : ∃ r, b.drop (64 * q) = r := ⟨_, rfl⟩
  have hrl : r.length = b.length % 64 := by rw [← hr]; simp; omega
  have hz : (W ((119 : Int) - (r.length : Int))).tmod 64 = ((padZ b.length : Nat) : Int) := by
    rw [W_id (by omega) (by omega), Int.tmod_eq_emod_of_nonneg (by omega)]; unfold padZ; omega
  obtain ⟨e, he⟩ : ∃ e, (r ++ [128] ++ List.replicate (padZ b.length) 0) ++ beS (shl64 (iU64 (b.length : Int)) 3) 8 0 = e := ⟨_, rfl⟩
  have hzl : padZ b.length < 64 := by unfold padZ; omega
  have h2 := sum_l2 b 8 0 K (r ++ [128] ++ List.replicate (padZ b.length) 0) rfl (by simp; omega) (by omega)
  rw [he] at h2
  have hel : e.length = r.length + 1 + padZ b.length + 8 := by rw [← he]; simp [beS_len]; omega
  obtain ⟨t, ht⟩ : ∃ t, t = e.length / 64 := ⟨_, rfl⟩
  have het : e.length = 64 * t := by rw [ht, hel, hrl]; unfold padZ; omega
  have h3 := sum_l3 K hK KS KS_len t K (blocksN KS q H0 b) e (blocksN_len _ _ _ _ rfl) het (by omega) (by omega)
  have h4 := sum_l4 (h := blocksN KS t (blocksN KS q H0 b) e) (blocksN_len _ _ _ _ (blocksN_len _ _ _ _ rfl)) (K - 9)
  rw [show K - 9 + 9 = K by omega] at h4
  have hpad : (padS b).drop (64 * q) = e := by
    unfold padS
    rw [List.drop_append_of_le_length (by omega), hr, ← he, shl3]; simp
  have hfin : blocksN KS t (blocksN KS q H0 b) e = blocksN KS ((padS b).length / 64) H0 (padS b) := by
    have hT : (padS b).length / 64 = q + t := by
      have h5 : (padS b).length = 64 * q + e.length := by rw [← hpad]; simp; rw [padS_len]; omega
      omega
    rw [hT, blocksN_add, hpad]
    congr 1
    unfold padS
    exact (blocksN_app KS _ q H0 b (by omega)).symm
  unfold hash_Sum
  simp only [Option.bind_some, rounds_eq]
  have hH : ([1779033703, 3144134277, 1013904242, 2773480762, 1359893119, 2600822924, 528734635, 1541459225] : List UInt32) = H0 := rfl
  rw [hH, h1]
  simp only [Option.bind_some, hr]
  unfold bytes_Clone
  rw [app_ok (by simp; omega)]
  simp only [Option.bind_some, List.nil_append]
  rw [app_ok (by simp; omega)]
  simp only [Option.bind_some, hz]
  rw [mks_ok (by omega) (by omega)]
  simp only [Option.bind_some, Int.toNat_natCast]
  rw [app_ok (by simp; omega)]
  simp only [Option.bind_some]
  rw [show ((0 : Nat) : Int) = 0 from rfl] at h2
  rw [h2]; simp only [Option.bind_some]
  rw [h3]; simp only [Option.bind_some]
  rw [h4]; simp only [Option.bind_some]
  rw [hfin]; rfl
theorem refsum_eq (K : Nat) (b : List UInt8) (hK : 65 ≤ K) (hb : b.length < 140737488350000) (hKb : b.length / 64 + 3 < K) : holdfastref07_Sum K b = some (shaS b) := by
  have hzl : padZ b.length < 64 := by unfold padZ; omega
  have h1 := ref_l1 (padZ b.length) K (b ++ [128]) hzl (by simp; unfold padZ; omega) (by simp; omega) (by omega)
  have h2 := ref_l2 b 8 0 K (b ++ [128] ++ List.replicate (padZ b.length) 0) rfl (by simp; omega) (by omega)
  have hp : b ++ [128] ++ List.replicate (padZ b.length) 0 ++ beS (iU64 (b.length : Int) * 8) 8 0 = padS b := by unfold padS; simp
  rw [hp] at h2
  have hl := padS_len b
  have h3 := ref_l3 K hK KS KS_len (padS b) (by omega) ((padS b).length / 64) K 0 H0 rfl (by have := padS_mod b; omega) (by omega)
  have h4 := ref_l9 (h := blocksN KS ((padS b).length / 64) H0 (padS b)) (blocksN_len _ _ _ _ rfl) (K - 33)
  rw [show K - 33 + 33 = K by omega] at h4
  have hH : ([1779033703, 3144134277, 1013904242, 2773480762, 1359893119, 2600822924, 528734635, 1541459225] : List UInt32) = H0 := rfl
  unfold holdfastref07_Sum
  simp only [Option.bind_some, constants_eq]
  rw [app_ok (by simp; omega)]
  simp only [Option.bind_some, List.nil_append]
  rw [app_ok (by simp; omega)]
  simp only [Option.bind_some]
  rw [h1]; simp only [Option.bind_some]
  rw [show ((0 : Nat) : Int) = 0 from rfl] at h2 h3
  rw [h2]; simp only [Option.bind_some]
  rw [hH, h3]; simp only [Option.bind_some, List.drop_zero]
  rw [h4]; rfl
end Go.Proofs.Ytbbenllkjpomdaa

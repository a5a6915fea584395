/-
  The laws of sealed texts: Seals, Back, Hides, Tells, Starts, Number. Plain Lean.
-/
import Derived.Test.YtbbenllkjpomdaaPlain10
namespace Go.Proofs.Ytbbenllkjpomdaa
open Go L
def sealA (key : List UInt8) (once : UInt64) (p : List UInt8) : List UInt8 × Int := if p.length ≤ 1024 then (sealS key once p, 0) else ([], 6)
theorem sealA_len (key : List UInt8) (once : UInt64) (p : List UInt8) : (sealA key once p).1.length ≤ 1048 := by
  unfold sealA; split
  · rw [sealS_len]; omega
  · simp
theorem seal_any (K : Nat) (hK : 1200 ≤ K) (key : List UInt8) (hk : key.length = 32) (once : UInt64) (p : List UInt8) : seal_Seal K key once p = some (sealA key once p) := by
  unfold sealA
  by_cases h : p.length ≤ 1024
  · rw [if_pos h, seal_eq K hK key hk once p h]
  · rw [if_neg h, seal_long K key once p (by omega)]
theorem refSeal_any (K : Nat) (hK : 1200 ≤ K) (key : List UInt8) (hk : key.length = 32) (once : UInt64) (p : List UInt8) : holdfastref08_Seal K key once p = some (sealA key once p) := by
  unfold sealA
  by_cases h : p.length ≤ 1024
  · rw [if_pos h, refSeal_eq K hK key hk once p h]
  · rw [if_neg h, refSeal_long K key once p (by omega)]
theorem openS_len (key b : List UInt8) : (openS key b).1.length ≤ 1024 := by
  unfold openS
  split
  · simp
  split
  · simp
  split
  · rw [hidS_len]; simp; omega
  · simp
theorem openS_seal (key : List UInt8) (once : UInt64) (p : List UInt8) (hp : p.length ≤ 1024) : openS key (sealS key once p) = (p, once, 0) := by
  have hb := bodyS_len key once p
  have hl := sealS_len key once p
  have ht := tagT_len key (bodyS key once p)
  have e1 : (sealS key once p).take ((sealS key once p).length - 16) = bodyS key once p := by
    rw [hl]; unfold sealS; rw [List.take_append_of_le_length (by omega), List.take_of_length_le (by omega)]
  have e2 : (sealS key once p).drop ((sealS key once p).length - 16) = tagT key (bodyS key once p) := by
    rw [hl]; unfold sealS; rw [show p.length + 24 - 16 = (bodyS key once p).length by omega, List.drop_left]
  have e3 : (bodyS key once p).drop 8 = hidS key once p := by
    unfold bodyS
    rw [show (8 : Nat) = (beS once 8 0).length from (beS_len once 8 0).symm, beS_len]; exact List.drop_left' (beS_len once 8 0)
  have e4 : (sealS key once p).take 8 = beS once 8 0 := by
    unfold sealS bodyS
    rw [List.append_assoc]; exact List.take_left' (beS_len once 8 0)
  unfold openS
  rw [if_neg (by omega), if_neg (by omega), e1, e2, if_pos rfl, e3, e4, numS_beS, hidS_twice]
theorem law_seals (key : List UInt8) (once : UInt64) (a b : List UInt8) (hk : key.length = 32) (_ha : a.length ≤ 140737488351232) (hb : b.length ≤ 140737488351232) : ∃ K, holdfastlaw08_SealSeals K key once a b = some true := by
  refine ⟨5000, ?_⟩
  have l1 := sealA_len key once a
  have l2 := openS_len key b
  unfold holdfastlaw08_SealSeals
  rw [seal_any 5000 (by omega) key hk once a]; simp only [Option.bind_some]
  rw [refSeal_any 5000 (by omega) key hk once a]; simp only [Option.bind_some]
  rw [open_eq 5000 (by omega) key hk b (by omega)]; simp only [Option.bind_some]
  rw [refOpen_eq 5000 (by omega) key hk b (by omega)]; simp only [Option.bind_some]
  rw [live_true]; simp only [Option.bind_some, if_true]
  rw [same_eq 5000 _ (by omega) (by omega)]; simp only [Option.bind_some, decide_true, Bool.and_self, if_true]
  rw [same_eq 5000 _ (by omega) (by omega)]; simp
theorem law_back (key : List UInt8) (once : UInt64) (p : List UInt8) (hk : key.length = 32) (hp : p.length ≤ 140737488351232) : ∃ K, holdfastlaw08_SealBack K key once p = some true := by
  refine ⟨5000, ?_⟩
  unfold holdfastlaw08_SealBack
  rw [seal_any 5000 (by omega) key hk once p]; simp only [Option.bind_some]
  unfold sealA
  by_cases h : p.length ≤ 1024
  · have hl := sealS_len key once p
    rw [if_neg (nt (dec_f (by omega))), if_pos h, open_eq 5000 (by omega) key hk _ (by simp only; omega)]; simp only [Option.bind_some]
    rw [openS_seal key once p h, live_true]; simp only [Option.bind_some, decide_true, Bool.and_self, if_true]
    rw [same_eq 5000 _ (by omega) (by omega)]; simp only [Option.bind_some, if_true]
    rw [size_in 5000 _ h]; simp only [Option.bind_some]
    rw [hl]; simp
  · rw [if_pos (dec_t (by omega)), if_neg h, live_true]; simp
theorem hides_l1 (key : List UInt8) (once : UInt64) (a b : List UInt8) (hab : a.length = b.length) (ha : a.length ≤ 1024) : ∀ (n i k : Nat), i + n = a.length → n < k →
    holdfastlaw08_SealHides.l1 k a (sealS key once a, 0) (sealS key once b, 0) b (i : Int) = some (.go ())
  | 0, i, k + 1, h1, h2 => by rw [holdfastlaw08_SealHides.l1, if_neg (nt (dec_f (by omega)))]
  | n + 1, i, k + 1, h1, h2 => by
    have ih := hides_l1 key once a b hab ha n (i + 1) k (by omega) (by omega)
    have hi : i < a.length := by omega
    have get : ∀ c : List UInt8, c.length = a.length → gt (sealS key once c) (W ((8 : Int) + (i : Int))) = some ((strN key once a.length).getD i 0 ^^^ c.getD i 0) := by
      intro c hc
      have hw : W ((8 : Int) + (i : Int)) = ((8 + i : Nat) : Int) := by rw [W_id (by omega) (by omega)]; omega
      have hl := sealS_len key once c
      have hn := strN_len key once a.length
      rw [hw, gt_nat 0 (by omega)]
      unfold sealS bodyS hidS xorS
      rw [List.append_assoc, List.getD_eq_getElem?_getD, List.getElem?_append_right (by rw [beS_len]; omega), beS_len, show 8 + i - 8 = i by omega, List.getElem?_append_left (by simp [strN_len]; omega), hc, List.getElem?_zipWith]
      rw [List.getElem?_eq_getElem (by omega), List.getElem?_eq_getElem (show i < c.length by omega), List.getD_eq_getElem?_getD, List.getD_eq_getElem?_getD, List.getElem?_eq_getElem (by omega), List.getElem?_eq_getElem (show i < c.length by omega)]
      rfl
    have hx : ∀ s x y : UInt8, (s ^^^ x) ^^^ (s ^^^ y) = x ^^^ y := by
      intro s x y
      rw [xor_comm8 s x, xor_assoc8, ← xor_assoc8 s s y, xor_self8, zero_xor8]
    rw [holdfastlaw08_SealHides.l1, if_pos (dec_t (by omega)), get a rfl, get b hab.symm, gt_nat 0 hi, gt_nat 0 (by omega)]
    simp only [Option.bind_some]
    rw [hx, if_neg (by simp), W_succ (by omega)]; exact ih
theorem law_hides (key : List UInt8) (once : UInt64) (a b : List UInt8) (hk : key.length = 32) (_ha : a.length ≤ 140737488351232) (hb : b.length ≤ 140737488351232) : ∃ K, holdfastlaw08_SealHides K key once a b = some true := by
  refine ⟨5000, ?_⟩
  unfold holdfastlaw08_SealHides
  by_cases h : a.length = b.length ∧ a.length ≤ 1024
  · obtain ⟨h1, h2⟩ := h
    have la := sealS_len key once a
    have lb := sealS_len key once b
    rw [if_neg (by simp; omega), seal_eq 5000 (by omega) key hk once a h2]; simp only [Option.bind_some]
    rw [seal_eq 5000 (by omega) key hk once b (by omega)]; simp only [Option.bind_some]
    rw [if_neg (by rw [W_id (by omega) (by omega), la, lb]; simp; omega)]
    have h3 := hides_l1 key once a b h1 h2 a.length 0 5000 (by omega) (by omega)
    rw [show ((0 : Nat) : Int) = 0 from rfl] at h3
    rw [h3]; simp only [Option.bind_some, lrc]
    rw [live_true]; rfl
  · rw [if_pos (by simp; omega), live_true]; rfl
theorem tells_at {n : Nat} {x : UInt8} (_hn : 24 ≤ n) : ((x.toNat : Int).tmod (n : Int)) = ((x.toNat % n : Nat) : Int) := by
  rw [Int.tmod_eq_emod_of_nonneg (by omega)]; omega
theorem law_tells (key p sp : List UInt8) (hk : key.length = 32) (hp : p.length ≤ 140737488351232) (_hs : sp.length = 2) : ∃ K, holdfastlaw08_SealTells K key p sp = some true := by
  refine ⟨5000, ?_⟩
  unfold holdfastlaw08_SealTells
  rw [seal_any 5000 (by omega) key hk 5 p]; simp only [Option.bind_some]
  unfold sealA
  by_cases h : p.length ≤ 1024
  · have hl := sealS_len key 5 p
    rw [if_pos h]
    generalize sealS key 5 p = b at hl
    simp only
    rw [if_neg (by simp), if_neg (nt (dec_f (by omega)))]
    unfold holdfastref01_Copy
    rw [app_ok (by simp; omega)]; simp only [Option.bind_some, List.nil_append]
    have hm : (sp.getD 0 0).toNat % b.length < b.length := Nat.mod_lt _ (by omega)
    rw [req_ok (by omega)]; simp only [Option.bind_some]
    rw [tells_at (by omega), gt_nat 0 hm]; simp only [Option.bind_some]
    rw [req_ok (by omega)]; simp only [Option.bind_some, Int.toNat_natCast]
    generalize hc : b.set ((sp.getD 0 0).toNat % b.length) (b.getD ((sp.getD 0 0).toNat % b.length) 0 ^^^ sp.getD 1 0) = c
    have lc : c.length = p.length + 24 := by rw [← hc, List.length_set, hl]
    rw [open_eq 5000 (by omega) key hk c (by omega)]; simp only [Option.bind_some]
    have hw : W ((c.length : Int) - 16) = ((c.length - 16 : Nat) : Int) := by rw [W_id (by omega) (by omega)]; omega
    rw [hw, sub_ok (by omega) (by omega) (by omega)]; simp only [Option.bind_some, Int.toNat_natCast, Int.toNat_zero, List.drop_zero]
    rw [refTag_eq 5000 (by omega) key hk _ (by simp; omega)]; simp only [Option.bind_some]
    rw [sub_ok (by omega) (by omega) (by omega)]; simp only [Option.bind_some, Int.toNat_natCast]
    rw [List.take_of_length_le (Nat.le_refl c.length), same_dec 5000 _ _ (by rw [tagT_len]; omega) (by rw [tagT_len]; omega)]; simp only [Option.bind_some]
    by_cases h3 : tagT key (c.take (c.length - 16)) = c.drop (c.length - 16)
    · have ho : (openS key c).2.2 = 0 := by unfold openS; rw [if_neg (by omega), if_neg (by omega), if_pos h3]
      rw [if_pos (dec_t h3), live_true, ho]; rfl
    · have ho : openS key c = ([], 0, 10) := by unfold openS; rw [if_neg (by omega), if_neg (by omega), if_neg h3]
      rw [if_neg (nt (dec_f h3)), live_true, ho]; rfl
  · rw [if_neg h]
    simp only
    rw [if_pos (by simp), live_true]; rfl
theorem strS_take (key : List UInt8) (once : UInt64) (i : Nat) : ∀ d, (strS key once (i + d)).take (32 * i) = strS key once i
  | 0 => by rw [Nat.add_zero, List.take_of_length_le (by rw [strS_len]; omega)]
  | d + 1 => by
    rw [show i + (d + 1) = (i + d) + 1 by omega, strS, List.take_append_of_le_length (by rw [strS_len]; omega)]; exact strS_take key once i d
theorem strN_take (key : List UInt8) (once : UInt64) {m n : Nat} (h : m ≤ n) : (strN key once n).take m = strN key once m := by
  unfold strN
  have h1 := strS_take key once ((m + 31) / 32) ((n + 31) / 32 - (m + 31) / 32)
  rw [show (m + 31) / 32 + ((n + 31) / 32 - (m + 31) / 32) = (n + 31) / 32 by omega] at h1
  rw [← h1, List.take_take, List.take_take, Nat.min_eq_left h, Nat.min_eq_left (by omega)]
theorem starts_j (key : List UInt8) (hk : key.length = 32) (once : UInt64) (m n : Nat) (h : m ≤ n) (hn : n ≤ 1024) : holdfastlaw08_SealStarts.j1 5000 key once (m : Int) (n : Int) = some true := by
  have lm := strN_len key once m
  have ln := strN_len key once n
  have ht := strN_take key once h
  unfold strN at *
  unfold holdfastlaw08_SealStarts.j1
  rw [stream_eq 5000 (by omega) key hk once m (by omega)]; simp only [Option.bind_some]
  rw [stream_eq 5000 (by omega) key hk once n (by omega)]; simp only [Option.bind_some]
  rw [live_true]; simp only [Option.bind_some]
  rw [if_pos (by rw [lm, ln]; simp)]
  rw [sub_ok (by omega) (by omega) (by omega)]; simp only [Option.bind_some, Int.toNat_natCast, Int.toNat_zero, List.drop_zero]
  rw [ht, same_eq 5000 _ (by omega) (by omega)]; rfl
theorem law_starts (key : List UInt8) (once : UInt64) (l : List UInt16) (hk : key.length = 32) (_hl : l.length = 2) : ∃ K, holdfastlaw08_SealStarts K key once l = some true := by
  refine ⟨5000, ?_⟩
  unfold holdfastlaw08_SealStarts
  have e : ∀ x : UInt16, ((x.toNat : Int).tmod (1025 : Int)) = ((x.toNat % 1025 : Nat) : Int) := by
    intro x
    rw [Int.tmod_eq_emod_of_nonneg (by omega)]; rfl
  rw [e, e]
  by_cases h : (l.getD 1 0).toNat % 1025 < (l.getD 0 0).toNat % 1025
  · rw [if_pos (dec_t (by omega))]; exact starts_j key hk once _ _ (by omega) (by omega)
  · rw [if_neg (nt (dec_f (by omega)))]; exact starts_j key hk once _ _ (by omega) (by omega)
theorem number_l1 (s : List UInt8 × Int) (hb : 8 ≤ s.1.length) : ∀ (n i k : Nat) (o : UInt64), i + n = 8 → n < k → holdfastlaw08_SealNumber.l1 k s o (i : Int) = some (((s.1.take 8).drop i).foldl num1 o)
  | 0, i, k + 1, o, h1, h2 => by
    rw [holdfastlaw08_SealNumber.l1, if_neg (nt (dec_f (by omega))), List.drop_of_length_le (by simp; omega)]; rfl
  | n + 1, i, k + 1, o, h1, h2 => by
    have ih := number_l1 s hb n (i + 1) k (num1 o (s.1.getD i 0)) (by omega) (by omega)
    rw [holdfastlaw08_SealNumber.l1, if_pos (dec_t (by omega)), gt_nat 0 (by omega)]
    simp only [Option.bind_some, W_succ (show i < 9223372036854775807 by omega)]
    have hg : (s.1.take 8).getD i 0 = s.1.getD i 0 := by
      rw [List.getD_eq_getElem?_getD, List.getD_eq_getElem?_getD, List.getElem?_take, if_pos (by omega)]
    rw [drop_succ' 0 (show i < (s.1.take 8).length by simp; omega), hg]
    exact ih
theorem number_l2 : ∀ (n i k : Nat) (p : List UInt8), i + n = p.length → n < k → p.length < 1000000 → holdfastlaw08_SealNumber.l2 k p (i : Int) = some ()
  | 0, i, k + 1, p, h1, h2, h3 => by rw [holdfastlaw08_SealNumber.l2, if_neg (nt (dec_f (by omega)))]
  | n + 1, i, k + 1, p, h1, h2, h3 => by
    have ih := number_l2 n (i + 1) k (p.set i 0) (by simp; omega) (by omega) (by simp; omega)
    rw [holdfastlaw08_SealNumber.l2, if_pos (dec_t (by omega)), req_ok (by omega)]
    simp only [Option.bind_some, Int.toNat_natCast, W_succ (show i < 9223372036854775807 by omega)]
    exact ih
theorem law_number (key : List UInt8) (once : UInt64) (p : List UInt8) (hk : key.length = 32) (hp : p.length ≤ 140737488351232) : ∃ K, holdfastlaw08_SealNumber K key once p = some true := by
  refine ⟨5000, ?_⟩
  unfold holdfastlaw08_SealNumber holdfastref01_Copy
  rw [app_ok (by simp; omega)]; simp only [Option.bind_some, List.nil_append]
  rw [seal_any 5000 (by omega) key hk once p]; simp only [Option.bind_some]
  unfold sealA
  by_cases h : p.length ≤ 1024
  · have hl := sealS_len key once p
    rw [if_pos h]
    simp only
    rw [if_neg (by simp), if_neg (nt (dec_f (by omega)))]
    have h1 := number_l1 (sealS key once p, 0) (by simp only; omega) 8 0 5000 0 (by omega) (by omega)
    rw [show ((0 : Nat) : Int) = 0 from rfl, List.drop_zero] at h1
    rw [h1]; simp only [Option.bind_some]
    rw [app_ok (by simp; omega)]; simp only [Option.bind_some, List.nil_append]
    rw [open_eq 5000 (by omega) key hk _ (by omega), openS_seal key once p h]; simp only [Option.bind_some]
    have h2 := number_l2 p.length 0 5000 p (by omega) (by omega) (by omega)
    rw [show ((0 : Nat) : Int) = 0 from rfl] at h2
    rw [h2]; simp only [Option.bind_some]
    have e4 : ((sealS key once p).take 8).foldl num1 0 = once := by
      rw [show (sealS key once p).take 8 = beS once 8 0 by unfold sealS bodyS; rw [List.append_assoc]; exact List.take_left' (beS_len once 8 0)]
      exact numS_beS once
    rw [live_true, e4]; simp only [Option.bind_some, decide_true, Bool.and_self, if_true]
    rw [same_eq 5000 _ (by omega) (by omega)]; simp only [Option.bind_some, if_true]
    rw [same_eq 5000 _ (by omega) (by omega)]; rfl
  · rw [if_neg h]
    simp only
    rw [if_pos (by simp), live_true]; rfl
end Go.Proofs.Ytbbenllkjpomdaa

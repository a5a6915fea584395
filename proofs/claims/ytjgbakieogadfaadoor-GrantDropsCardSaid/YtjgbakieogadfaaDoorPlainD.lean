import Derived.Test.YtjgbakieogadfaaDoorPlainC
namespace Go.Proofs.YtjgbakieogadfaaDoor
open Go L Go.Sort
/-! the document's answer never stops in the middle -/
def Tot {α : Type} (x : Option α) (P : α → Prop) : Prop := ∃ a, x = some a ∧ P a
section
variable {α β : Type} {P : α → Prop}
theorem Tot.s {a : α} (h : P a) : Tot (some a) P := ⟨a, rfl, h⟩
theorem Tot.b {x : Option β} {f : β → Option α} {Q : β → Prop} (h : Tot x Q) (k : ∀ a, Q a → Tot (f a) P) : Tot (x.bind f) P := by
  obtain ⟨a, rfl, ha⟩ := h; exact k a ha
theorem Tot.i {c : Prop} [Decidable c] {a b : Option α} (h1 : c → Tot a P) (h2 : ¬ c → Tot b P) : Tot (if c then a else b) P := by
  split
  · exact h1 ‹_›
  · exact h2 ‹_›
theorem Tot.g {xs : List α} {i : Nat} (h : i < xs.length) : Tot (gt xs (i : Int)) fun _ => True := ⟨xs[i], by unfold gt; rw [if_pos (by omega)]; simp [h], trivial⟩
theorem Tot.gi {xs : List α} {i : Int} (h0 : 0 ≤ i) (h : i < xs.length) : Tot (gt xs i) fun _ => True := by
  obtain ⟨n, rfl⟩ := Int.eq_ofNat_of_zero_le h0
  exact Tot.g (by omega)
theorem Tot.ap {n : Nat} {xs ys : List α} (h : xs.length + ys.length ≤ n) : Tot (app n xs ys) fun z => z.length = xs.length + ys.length := ⟨xs ++ ys, by unfold app; rw [if_pos h], by simp⟩
theorem Tot.su {xs : List α} {l h : Int} (h0 : 0 ≤ l) (h1 : l ≤ h) (h2 : h ≤ xs.length) : Tot (sub xs l h) fun z => (z.length : Int) = h - l := by
  refine ⟨_, by unfold sub; rw [if_pos ⟨h0, h1, h2⟩], ?_⟩
  show ((List.drop l.toNat (List.take h.toNat xs)).length : Int) = h - l
  rw [List.length_drop, List.length_take]; omega
end
theorem W_succ {i : Nat} (h : i < 9223372036854775807) : W ((i : Int) + 1) = ((i + 1 : Nat) : Int) := by rw [W_id (by omega)]; omega
theorem W_pred {i : Nat} (h0 : 0 < i) (h : i < 4611686018427387904) : W ((i : Int) - 1) = ((i - 1 : Nat) : Int) := by rw [W_id (by omega)]; omega
abbrev okc (c : UInt8) : Bool := (((decide ((97 : UInt8) ≤ c)) && (decide (c ≤ (122 : UInt8)))) || ((decide ((48 : UInt8) ≤ c)) && (decide (c ≤ (57 : UInt8))))) || (decide (c = (45 : UInt8)))
theorem okc_all : ((List.range 256).all fun n => decide (okc (UInt8.ofNat n) = (([97, 98, 99, 100, 101, 102, 103, 104, 105, 106, 107, 108, 109, 110, 111, 112, 113, 114, 115, 116, 117, 118, 119, 120, 121, 122, 48, 49, 50, 51, 52, 53, 54, 55, 56, 57, 45] : List UInt8)).contains (UInt8.ofNat n))) = true := by decide +kernel
theorem okc_eq (c : UInt8) : okc c = (([97, 98, 99, 100, 101, 102, 103, 104, 105, 106, 107, 108, 109, 110, 111, 112, 113, 114, 115, 116, 117, 118, 119, 120, 121, 122, 48, 49, 50, 51, 52, 53, 54, 55, 56, 57, 45] : List UInt8)).contains c := by
  have h := (List.all_eq_true.1 okc_all) c.toNat (List.mem_range.2 c.toNat_lt)
  rw [UInt8.ofNat_toNat] at h
  exact of_decide_eq_true h
theorem isn_loop (s : List UInt8) (hs : s.length ≤ 9223372036854775807) : ∀ (k i : Nat), i ≤ s.length → s.length < i + k → holdfastref02_IsName.l1 k s (i : Int) = some (if (s.drop i).all okc = true then .go () else .ret false)
  | 0, i, h1, h2 => by omega
  | k + 1, i, h1, h2 => by
    unfold holdfastref02_IsName.l1
    by_cases hi : i < s.length
    · rw [if_pos (by simp; omega)]
      have hg : gt s (i : Int) = some s[i] := by unfold gt; rw [if_pos (by omega)]; simp [hi]
      have e : s.drop i = s[i] :: s.drop (i + 1) := List.drop_eq_getElem_cons hi
      rw [hg, e, List.all_cons]
      simp only [Option.bind_some]
      cases hc : okc s[i] with
      | true =>
        rw [if_neg (show ¬ (!okc s[i]) = true by rw [hc]; decide), W_succ (by omega), isn_loop s hs k (i + 1) (by omega) (by omega), Bool.true_and]
      | false =>
        rw [if_pos (show (!okc s[i]) = true by rw [hc]; rfl)]; rfl
    · rw [if_neg (by simp; omega), List.drop_eq_nil_of_le (by omega)]; rfl
theorem refIsName_eq (K : Nat) (s : List UInt8) (hs : s.length ≤ 9223372036854775807) (hK : s.length < K) : holdfastref02_IsName K s = some (nameS s) := by
  unfold holdfastref02_IsName nameS
  rw [show holdfastref02_IsName.l1 K s 0 = some (if (s.drop 0).all okc = true then .go () else .ret false) from isn_loop s hs K 0 (by omega) (by omega)]
  have e : s.all okc = s.all fun c => (([97, 98, 99, 100, 101, 102, 103, 104, 105, 106, 107, 108, 109, 110, 111, 112, 113, 114, 115, 116, 117, 118, 119, 120, 121, 122, 48, 49, 50, 51, 52, 53, 54, 55, 56, 57, 45] : List UInt8)).contains c := by
    congr 1; funext c; exact okc_eq c
  rw [List.drop_zero, ← e]
  cases h : s.all okc with
  | false => simp [lrc]
  | true =>
    simp only [if_true, Option.bind_some, lrc, Bool.and_true]
    congr 1
    congr 1
    · cases s with
      | nil => rfl
      | cons x s => simp; omega
    · rw [decide_eq_decide]; omega
def RB (n : Nat) (r : S_holdfastref13_Store) : Prop := r.c_.length ≤ n ∧ r.a.length ≤ n
theorem RB.mono {n m : Nat} {r : S_holdfastref13_Store} (h : RB n r) (hm : n ≤ m) : RB m r := ⟨Nat.le_trans h.1 hm, Nat.le_trans h.2 hm⟩
def okR (n : Nat) (q : Lr Int Unit) : Prop := ∀ j, q = .ret j → 0 ≤ j ∧ j < (n : Int)
theorem rcl_loop (s : S_holdfastref13_Store) (t n : List UInt8) (hl : s.c_.length ≤ 1000) : ∀ (k i : Nat), i ≤ s.c_.length → s.c_.length < i + k → Tot (holdfastref13_Store_client.l1 k s t n (i : Int)) (okR s.c_.length)
  | 0, i, h1, h2 => by omega
  | k + 1, i, h1, h2 => by
    unfold holdfastref13_Store_client.l1
    refine Tot.i (fun hc => ?_) (fun _ => Tot.s fun j h => by cases h)
    have hi : i < s.c_.length := by simp at hc; omega
    refine Tot.b (Tot.g hi) fun e1 _ => ?_
    refine Tot.b (Q := fun _ => True) (Tot.i (fun _ => Tot.b (Tot.g hi) fun e2 _ => Tot.s trivial) fun _ => Tot.s trivial) fun b _ => ?_
    refine Tot.i (fun _ => Tot.s fun j h => by cases h; omega) fun _ => ?_
    rw [W_succ (by omega)]; exact rcl_loop s t n hl k (i + 1) (by omega) (by omega)
theorem rcl_tot (K : Nat) (s : S_holdfastref13_Store) (t n : List UInt8) (hl : s.c_.length ≤ 1000) (hK : 1000 < K) : Tot (holdfastref13_Store_client K s t n) fun r => -1 ≤ r ∧ r < (s.c_.length : Int) := by
  unfold holdfastref13_Store_client
  refine Tot.b (rcl_loop s t n hl K 0 (by omega) (by omega)) fun q hq => ?_
  cases q with
  | ret a => have := hq a rfl; exact Tot.s ⟨by omega, this.2⟩
  | go _ => exact Tot.s ⟨by omega, by omega⟩
theorem rco_loop (s : S_holdfastref13_Store) (o : S_api_Owner) (n : List UInt8) (hl : s.a.length ≤ 1000) : ∀ (k i : Nat), i ≤ s.a.length → s.a.length < i + k → Tot (holdfastref13_Store_consent.l1 k s o n (i : Int)) (okR s.a.length)
  | 0, i, h1, h2 => by omega
  | k + 1, i, h1, h2 => by
    unfold holdfastref13_Store_consent.l1
    refine Tot.i (fun hc => ?_) (fun _ => Tot.s fun j h => by cases h)
    have hi : i < s.a.length := by simp at hc; omega
    have go : Tot (holdfastref13_Store_consent.l1 k s o n (W ((i : Int) + 1))) (okR s.a.length) := by
      rw [W_succ (by omega)]; exact rco_loop s o n hl k (i + 1) (by omega) (by omega)
    refine Tot.b (Tot.g hi) fun e1 _ => ?_
    refine Tot.i (fun _ => Tot.b (Tot.g hi) fun e2 _ => ?_) fun _ => go
    exact Tot.i (fun _ => Tot.s fun j h => by cases h; omega) fun _ => go
theorem rco_tot (K : Nat) (s : S_holdfastref13_Store) (o : S_api_Owner) (n : List UInt8) (hl : s.a.length ≤ 1000) (hK : 1000 < K) : Tot (holdfastref13_Store_consent K s o n) fun r => -1 ≤ r ∧ r < (s.a.length : Int) := by
  unfold holdfastref13_Store_consent
  refine Tot.b (rco_loop s o n hl K 0 (by omega) (by omega)) fun q hq => ?_
  cases q with
  | ret a => have := hq a rfl; exact Tot.s ⟨by omega, this.2⟩
  | go _ => exact Tot.s ⟨by omega, by omega⟩
theorem rC2 (s : S_holdfastref13_Store) (out : List S_api_Client) (i : Nat) (hi : i < s.c_.length) (ho : out.length ≤ 1000) : ∀ (k a : Nat), a ≤ out.length → a < k → Tot (holdfastref13_Store_Clients.l2 k out s (i : Int) (a : Int)) fun r => 0 ≤ r ∧ r ≤ (out.length : Int)
  | 0, a, h1, h2 => by omega
  | k + 1, a, h1, h2 => by
    unfold holdfastref13_Store_Clients.l2
    refine Tot.i (fun hc => ?_) (fun _ => Tot.s ⟨by omega, by omega⟩)
    have h0 : 0 < a := by simp at hc; omega
    rw [W_pred h0 (by omega)]
    refine Tot.b (Tot.g (by omega)) fun e2 _ => Tot.b (Tot.g hi) fun e3 _ => ?_
    exact Tot.i (fun _ => rC2 s out i hi ho k (a - 1) (by omega) (by omega)) fun _ => Tot.s ⟨by omega, by omega⟩
theorem rC1 (K : Nat) (hK : 1000 < K) (s : S_holdfastref13_Store) (t : List UInt8) (hl : s.c_.length ≤ 1000) : ∀ (k i : Nat) (out : List S_api_Client), i ≤ s.c_.length → s.c_.length < i + k → out.length ≤ i → Tot (holdfastref13_Store_Clients.l1 K k s t out (i : Int)) fun _ => True
  | 0, i, _, h1, h2, _ => by omega
  | k + 1, i, out, h1, h2, h3 => by
    unfold holdfastref13_Store_Clients.l1
    refine Tot.i (fun hc => ?_) (fun _ => Tot.s trivial)
    have hi : i < s.c_.length := by simp at hc; omega
    rw [W_succ (by omega)]
    refine Tot.b (Tot.g hi) fun e1 _ => ?_
    refine Tot.i (fun _ => rC1 K hK s t hl k (i + 1) out (by omega) (by omega) (by omega)) fun _ => ?_
    refine Tot.b (rC2 s out i hi (by omega) K out.length (by omega) (by omega)) fun a ha => ?_
    refine Tot.b (Tot.su (by omega) (by omega) (by omega)) fun ys hys => ?_
    refine Tot.b (Tot.ap (by simp; omega)) fun xs hxs => ?_
    refine Tot.b (Tot.g hi) fun e4 _ => ?_
    refine Tot.b (Tot.s (P := fun z => z.length = 1) rfl) fun l2 hl2 => ?_
    simp only [List.length_nil] at hxs
    refine Tot.b (Tot.ap (by omega)) fun xs1 hx1 => ?_
    refine Tot.b (Tot.su (by omega) (by omega) (by omega)) fun ys1 hy1 => ?_
    refine Tot.b (Tot.ap (by omega)) fun xs2 hx2 => ?_
    exact rC1 K hK s t hl k (i + 1) xs2 (by omega) (by omega) (by omega)
theorem rClients_tot (K : Nat) (hK : 1000 < K) (s : S_holdfastref13_Store) (t : List UInt8) (hl : s.c_.length ≤ 1000) : Tot (holdfastref13_Store_Clients K s t) fun _ => True := by
  unfold holdfastref13_Store_Clients
  exact Tot.b (rC1 K hK s t hl K 0 [] (by omega) (by omega) (by simp)) fun q _ => Tot.s trivial
theorem rA2 (s : S_holdfastref13_Store) (out : List S_api_Consent) (i : Nat) (hi : i < s.a.length) (ho : out.length ≤ 1000) : ∀ (k a : Nat), a ≤ out.length → a < k → Tot (holdfastref13_Store_Consents.l2 k out s (i : Int) (a : Int)) fun r => 0 ≤ r ∧ r ≤ (out.length : Int)
  | 0, a, h1, h2 => by omega
  | k + 1, a, h1, h2 => by
    unfold holdfastref13_Store_Consents.l2
    refine Tot.i (fun hc => ?_) (fun _ => Tot.s ⟨by omega, by omega⟩)
    have h0 : 0 < a := by simp at hc; omega
    rw [W_pred h0 (by omega)]
    refine Tot.b (Tot.g (by omega)) fun e2 _ => Tot.b (Tot.g hi) fun e3 _ => ?_
    exact Tot.i (fun _ => rA2 s out i hi ho k (a - 1) (by omega) (by omega)) fun _ => Tot.s ⟨by omega, by omega⟩
theorem rA1 (K : Nat) (hK : 1000 < K) (s : S_holdfastref13_Store) (o : S_api_Owner) (hl : s.a.length ≤ 1000) : ∀ (k i : Nat) (out : List S_api_Consent), i ≤ s.a.length → s.a.length < i + k → out.length ≤ i → Tot (holdfastref13_Store_Consents.l1 K k s o out (i : Int)) fun _ => True
  | 0, i, _, h1, h2, _ => by omega
  | k + 1, i, out, h1, h2, h3 => by
    unfold holdfastref13_Store_Consents.l1
    refine Tot.i (fun hc => ?_) (fun _ => Tot.s trivial)
    have hi : i < s.a.length := by simp at hc; omega
    rw [W_succ (by omega)]
    refine Tot.b (Tot.g hi) fun e1 _ => ?_
    refine Tot.i (fun _ => rA1 K hK s o hl k (i + 1) out (by omega) (by omega) (by omega)) fun _ => ?_
    refine Tot.b (rA2 s out i hi (by omega) K out.length (by omega) (by omega)) fun a ha => ?_
    refine Tot.b (Tot.su (by omega) (by omega) (by omega)) fun ys hys => ?_
    refine Tot.b (Tot.ap (by simp; omega)) fun xs hxs => ?_
    refine Tot.b (Tot.g hi) fun e4 _ => ?_
    refine Tot.b (Tot.s (P := fun z => z.length = 1) rfl) fun l2 hl2 => ?_
    simp only [List.length_nil] at hxs
    refine Tot.b (Tot.ap (by omega)) fun xs1 hx1 => ?_
    refine Tot.b (Tot.su (by omega) (by omega) (by omega)) fun ys1 hy1 => ?_
    refine Tot.b (Tot.ap (by omega)) fun xs2 hx2 => ?_
    exact rA1 K hK s o hl k (i + 1) xs2 (by omega) (by omega) (by omega)
theorem rConsents_tot (K : Nat) (hK : 1000 < K) (s : S_holdfastref13_Store) (o : S_api_Owner) (hl : s.a.length ≤ 1000) : Tot (holdfastref13_Store_Consents K s o) fun _ => True := by
  unfold holdfastref13_Store_Consents
  exact Tot.b (rA1 K hK s o hl K 0 [] (by omega) (by omega) (by simp)) fun q _ => Tot.s trivial
theorem rf2 (s : S_holdfastref13_Store) (i : Nat) (hi : i < s.c_.length) (hl : s.c_.length ≤ 1000) : ∀ (k j : Nat) (f : Bool), j ≤ i → i < j + k → Tot (holdfastref13_Store_full.l2 k (i : Int) s f (j : Int)) fun _ => True
  | 0, j, _, h1, h2 => by omega
  | k + 1, j, f, h1, h2 => by
    unfold holdfastref13_Store_full.l2
    refine Tot.i (fun hc => ?_) (fun _ => Tot.s trivial)
    have hj : j < i := by simp at hc; omega
    rw [W_succ (by omega)]
    refine Tot.i (fun _ => Tot.b (Tot.g (by omega)) fun e1 _ => Tot.b (Tot.g hi) fun e2 _ => rf2 s i hi hl k (j + 1) _ (by omega) (by omega)) fun _ => rf2 s i hi hl k (j + 1) _ (by omega) (by omega)
theorem rf1 (K : Nat) (hK : 1000 < K) (s : S_holdfastref13_Store) (hl : s.c_.length ≤ 1000) : ∀ (k i : Nat) (x : Int), i ≤ s.c_.length → s.c_.length < i + k → Tot (holdfastref13_Store_full.l1 K k s x (i : Int)) fun _ => True
  | 0, i, _, h1, h2 => by omega
  | k + 1, i, x, h1, h2 => by
    unfold holdfastref13_Store_full.l1
    refine Tot.i (fun hc => ?_) (fun _ => Tot.s trivial)
    have hi : i < s.c_.length := by simp at hc; omega
    rw [W_succ (i := i) (by omega)]
    refine Tot.b (rf2 s i hi hl K 0 true (by omega) (by omega)) fun f _ => ?_
    exact Tot.i (fun _ => rf1 K hK s hl k (i + 1) _ (by omega) (by omega)) fun _ => rf1 K hK s hl k (i + 1) _ (by omega) (by omega)
theorem rfull_tot (K : Nat) (hK : 1000 < K) (s : S_holdfastref13_Store) (t : List UInt8) (hl : s.c_.length ≤ 1000) : Tot (holdfastref13_Store_full K s t) fun _ => True := by
  unfold holdfastref13_Store_full
  exact Tot.b (rClients_tot K hK ⟨s.c_, s.a⟩ t hl) fun r _ => Tot.b (rf1 K hK s hl K 0 0 (by omega) (by omega)) fun x _ => Tot.s trivial
def Nm (K : Nat) (s : List UInt8) : Prop := s.length < K ∧ s.length ≤ 9223372036854775807
theorem rname {K : Nat} {s : List UInt8} (h : Nm K s) : Tot (holdfastref02_IsName K s) fun _ => True := ⟨_, refIsName_eq K s h.2 h.1, trivial⟩
theorem rReg (K n : Nat) (hK : 1000 < K) (hn : n ≤ 900) (s : S_holdfastref13_Store) (c : S_api_Client) (h : RB n s) (h1 : Nm K c.Tenant) (h2 : Nm K c.Name) : Tot (holdfastref13_Store_Register K s c) fun r => RB (n + 1) r.2 := by
  have hb := h.mono (Nat.le_succ n)
  have hl : s.c_.length ≤ 1000 := Nat.le_trans h.1 (by omega)
  have ha := h.1
  unfold holdfastref13_Store_Register
  refine Tot.b (rname h1) fun r _ => ?_
  refine Tot.b (Q := fun _ => True) (Tot.i (fun _ => Tot.s trivial) fun _ => Tot.b (rname h2) fun _ _ => Tot.s trivial) fun b _ => ?_
  refine Tot.i (fun _ => Tot.s hb) fun _ => Tot.i (fun _ => Tot.s hb) fun _ => ?_
  refine Tot.b (rcl_tot K ⟨s.c_, s.a⟩ _ _ hl hK) fun r2 _ => Tot.i (fun _ => Tot.s hb) fun _ => ?_
  refine Tot.b (rfull_tot K hK ⟨s.c_, s.a⟩ _ hl) fun r3 _ => Tot.i (fun _ => Tot.s hb) fun _ => ?_
  refine Tot.b (Tot.ap (by simp; omega)) fun xs hxs => ?_
  refine Tot.b (Tot.s (P := fun z => z.length = 1) rfl) fun l hl2 => ?_
  simp only [List.length_nil] at hxs
  refine Tot.b (Tot.ap (by omega)) fun xs1 hx1 => ?_
  exact Tot.s ⟨by show xs1.length ≤ n + 1; omega, hb.2⟩
theorem rN1 (t n : List UInt8) (sc : UInt8) : ∀ (k i : Nat) (a : List S_api_Consent), a.length ≤ 1000 → i ≤ a.length → a.length < i + k → Tot (holdfastref13_Store_Narrow.l1 k t n sc a (i : Int)) fun z => z.length = a.length
  | 0, i, _, _, h1, h2 => by omega
  | k + 1, i, a, ha, h1, h2 => by
    unfold holdfastref13_Store_Narrow.l1
    refine Tot.i (fun hc => ?_) (fun _ => Tot.s rfl)
    have hi : i < a.length := by simp at hc; omega
    rw [W_succ (by omega)]
    refine Tot.b (Tot.g hi) fun e4 _ => ?_
    refine Tot.b (Q := fun _ => True) (Tot.i (fun _ => Tot.b (Tot.g hi) fun e2 _ => Tot.s trivial) fun _ => Tot.s trivial) fun b _ => ?_
    refine Tot.i (fun _ => Tot.b (Tot.g hi) fun e6 _ => Tot.b (Tot.g hi) fun e7 _ => ?_) fun _ => rN1 t n sc k (i + 1) a ha (by omega) (by omega)
    refine Tot.b (Tot.s (P := fun z => z.length = a.length) (by simp)) fun z hz => ?_
    obtain ⟨q, hq, hq2⟩ := rN1 t n sc k (i + 1) z (by omega) (by omega) (by omega)
    exact ⟨q, hq, by omega⟩
theorem rNar (K n : Nat) (hK : 1000 < K) (hn : n ≤ 900) (s : S_holdfastref13_Store) (t m : List UInt8) (sc : UInt8) (h : RB n s) : Tot (holdfastref13_Store_Narrow K s t m sc) fun r => RB (n + 1) r.2.2 := by
  have hb := h.mono (Nat.le_succ n)
  have ha := h.1; have hb2 := h.2
  have hl : s.c_.length ≤ 1000 := by omega
  unfold holdfastref13_Store_Narrow
  refine Tot.b (rcl_tot K ⟨s.c_, s.a⟩ _ _ hl hK) fun r hr => Tot.i (fun _ => Tot.s hb) fun hc => ?_
  have h0 : 0 ≤ r := by simp at hc; exact hc
  have hr2 : r < (s.c_.length : Int) := hr.2
  refine Tot.b (Tot.ap (by simp; omega)) fun xs hxs => ?_
  simp only [List.length_nil] at hxs
  refine Tot.b (Tot.gi h0 (by omega)) fun e1 _ => Tot.b (Tot.gi h0 (by omega)) fun e2 _ => ?_
  refine Tot.b (Tot.s (P := fun z => z.length = xs.length) (by simp)) fun xs1 hx1 => ?_
  refine Tot.b (Tot.ap (by simp; omega)) fun xs2 hx2 => ?_
  simp only [List.length_nil] at hx2
  refine Tot.b (rN1 t m sc K 0 xs2 (by omega) (by omega) (by omega)) fun a9 h9 => ?_
  refine Tot.b (Tot.gi h0 (by omega)) fun e9 _ => ?_
  exact Tot.s ⟨by show xs1.length ≤ n + 1; omega, by show a9.length ≤ n + 1; omega⟩
theorem rD1 (s : S_holdfastref13_Store) (t n : List UInt8) (hl : s.c_.length ≤ 1000) : ∀ (k i : Nat) (l : List S_api_Client), i ≤ s.c_.length → s.c_.length < i + k → l.length ≤ i → Tot (holdfastref13_Store_Drop.l1 k s t n l (i : Int)) fun z => z.length ≤ s.c_.length
  | 0, i, _, h1, h2, _ => by omega
  | k + 1, i, l, h1, h2, h3 => by
    unfold holdfastref13_Store_Drop.l1
    refine Tot.i (fun hc => ?_) (fun _ => Tot.s (by omega))
    have hi : i < s.c_.length := by simp at hc; omega
    rw [W_succ (by omega)]
    refine Tot.b (Tot.g hi) fun e1 _ => ?_
    refine Tot.b (Q := fun _ => True) (Tot.i (fun _ => Tot.s trivial) fun _ => Tot.b (Tot.g hi) fun e2 _ => Tot.s trivial) fun b _ => ?_
    refine Tot.i (fun _ => Tot.b (Tot.g hi) fun e3 _ => ?_) fun _ => rD1 s t n hl k (i + 1) l (by omega) (by omega) (by omega)
    refine Tot.b (Tot.s (P := fun z => z.length = 1) rfl) fun l2 hl2 => ?_
    exact Tot.b (Tot.ap (by omega)) fun l3 hl3 => rD1 s t n hl k (i + 1) l3 (by omega) (by omega) (by omega)
theorem rD2 (s : S_holdfastref13_Store) (t n : List UInt8) (hl : s.a.length ≤ 1000) : ∀ (k i : Nat) (l : List S_api_Consent), i ≤ s.a.length → s.a.length < i + k → l.length ≤ i → Tot (holdfastref13_Store_Drop.l2 k s t n l (i : Int)) fun z => z.length ≤ s.a.length
  | 0, i, _, h1, h2, _ => by omega
  | k + 1, i, l, h1, h2, h3 => by
    unfold holdfastref13_Store_Drop.l2
    refine Tot.i (fun hc => ?_) (fun _ => Tot.s (by omega))
    have hi : i < s.a.length := by simp at hc; omega
    rw [W_succ (by omega)]
    refine Tot.b (Tot.g hi) fun e1 _ => ?_
    refine Tot.b (Q := fun _ => True) (Tot.i (fun _ => Tot.s trivial) fun _ => Tot.b (Tot.g hi) fun e2 _ => Tot.s trivial) fun b _ => ?_
    refine Tot.i (fun _ => Tot.b (Tot.g hi) fun e3 _ => ?_) fun _ => rD2 s t n hl k (i + 1) l (by omega) (by omega) (by omega)
    refine Tot.b (Tot.s (P := fun z => z.length = 1) rfl) fun l2 hl2 => ?_
    exact Tot.b (Tot.ap (by omega)) fun l3 hl3 => rD2 s t n hl k (i + 1) l3 (by omega) (by omega) (by omega)
theorem rDrop (K n : Nat) (hK : 1000 < K) (hn : n ≤ 900) (s : S_holdfastref13_Store) (t m : List UInt8) (h : RB n s) : Tot (holdfastref13_Store_Drop K s t m) fun r => RB (n + 1) r.2 := by
  have hb := h.mono (Nat.le_succ n)
  have ha := h.1; have hb2 := h.2
  unfold holdfastref13_Store_Drop
  refine Tot.b (rcl_tot K ⟨s.c_, s.a⟩ _ _ (by show s.c_.length ≤ 1000; omega) hK) fun r hr => Tot.i (fun _ => Tot.s hb) fun hc => ?_
  refine Tot.b (rD1 s t m (by omega) K 0 [] (by omega) (by omega) (by simp)) fun l hl => ?_
  refine Tot.b (rD2 s t m (by omega) K 0 [] (by omega) (by omega) (by simp)) fun a ha2 => ?_
  exact Tot.s ⟨by show l.length ≤ n + 1; omega, by show a.length ≤ n + 1; omega⟩
theorem rAl1 (s : S_holdfastref13_Store) (r : Int) (hl : s.a.length ≤ 1000) : ∀ (k i : Nat) (l : List S_api_Consent), i ≤ s.a.length → s.a.length < i + k → l.length ≤ i → Tot (holdfastref13_Store_Allow.l1 k s r l (i : Int)) fun z => z.length ≤ s.a.length
  | 0, i, _, h1, h2, _ => by omega
  | k + 1, i, l, h1, h2, h3 => by
    unfold holdfastref13_Store_Allow.l1
    refine Tot.i (fun hc => ?_) (fun _ => Tot.s (by omega))
    have hi : i < s.a.length := by simp at hc; omega
    rw [W_succ (by omega)]
    refine Tot.i (fun _ => Tot.b (Tot.g hi) fun e3 _ => ?_) fun _ => rAl1 s r hl k (i + 1) l (by omega) (by omega) (by omega)
    refine Tot.b (Tot.s (P := fun z => z.length = 1) rfl) fun l2 hl2 => ?_
    exact Tot.b (Tot.ap (by omega)) fun l3 hl3 => rAl1 s r hl k (i + 1) l3 (by omega) (by omega) (by omega)
theorem rAllow (K n : Nat) (hK : 1000 < K) (hn : n ≤ 900) (s : S_holdfastref13_Store) (c : S_api_Consent) (h : RB n s) (h1 : Nm K c.Owner.Tenant) (h2 : Nm K c.Owner.User) : Tot (holdfastref13_Store_Allow K s c) fun r => RB (n + 1) r.2 := by
  have hb := h.mono (Nat.le_succ n)
  have ha := h.1; have hb2 := h.2
  have hl : s.c_.length ≤ 1000 := by omega
  unfold holdfastref13_Store_Allow
  refine Tot.b (rname h1) fun r _ => ?_
  refine Tot.b (Q := fun _ => True) (Tot.i (fun _ => Tot.s trivial) fun _ => Tot.b (rname h2) fun _ _ => Tot.s trivial) fun b _ => ?_
  refine Tot.i (fun _ => Tot.s hb) fun _ => ?_
  refine Tot.b (rcl_tot K ⟨s.c_, s.a⟩ _ _ hl hK) fun r2 hr2 => Tot.i (fun _ => Tot.s hb) fun hc => ?_
  have h0 : 0 ≤ r2 := by simp at hc; exact hc
  have hr3 : r2 < (s.c_.length : Int) := hr2.2
  refine Tot.b (Tot.gi h0 hr3) fun e1 _ => Tot.i (fun _ => Tot.s hb) fun _ => ?_
  refine Tot.b (rco_tot K ⟨s.c_, s.a⟩ _ _ (by show s.a.length ≤ 1000; omega) hK) fun r3 _ => ?_
  refine Tot.b (Q := fun _ => True) (Tot.i (fun _ => Tot.b (rConsents_tot K hK ⟨s.c_, s.a⟩ _ (by show s.a.length ≤ 1000; omega)) fun _ _ => Tot.s trivial) fun _ => Tot.s trivial) fun b1 _ => ?_
  refine Tot.i (fun _ => Tot.s hb) fun _ => ?_
  refine Tot.b (rAl1 s r3 (by omega) K 0 [] (by omega) (by omega) (by simp)) fun a17 h17 => ?_
  refine Tot.b (Tot.s (P := fun z => z.length = 1) rfl) fun l2 hl2 => ?_
  refine Tot.b (Tot.ap (by omega)) fun a22 h22 => ?_
  exact Tot.s ⟨hb.1, by show a22.length ≤ n + 1; omega⟩
theorem rWith (K n : Nat) (hK : 1000 < K) (hn : n ≤ 900) (s : S_holdfastref13_Store) (o : S_api_Owner) (c : List UInt8) (h : RB n s) : Tot (holdfastref13_Store_Withdraw K s o c) fun r => RB (n + 1) r.2 := by
  have hb := h.mono (Nat.le_succ n)
  have ha := h.1; have hb2 := h.2
  unfold holdfastref13_Store_Withdraw
  refine Tot.b (rco_tot K ⟨s.c_, s.a⟩ _ _ (by show s.a.length ≤ 1000; omega) hK) fun r hr => Tot.i (fun _ => Tot.s hb) fun hc => ?_
  have h0 : 0 ≤ r := by simp at hc; exact hc
  have hr3 : r < (s.a.length : Int) := hr.2
  refine Tot.b (Tot.su (by omega) h0 (by omega)) fun ys hys => ?_
  refine Tot.b (Tot.ap (by simp; omega)) fun xs hxs => ?_
  simp only [List.length_nil] at hxs
  rw [W_id (x := r + 1) (by omega)]
  refine Tot.b (Tot.su (by omega) (by omega) (by omega)) fun ys1 hy1 => ?_
  refine Tot.b (Tot.ap (by omega)) fun xs1 hx1 => ?_
  exact Tot.s ⟨hb.1, by show xs1.length ≤ n + 1; omega⟩
theorem rDU1 (s : S_holdfastref13_Store) (o : S_api_Owner) (hl : s.a.length ≤ 1000) : ∀ (k i : Nat) (l : List S_api_Consent), i ≤ s.a.length → s.a.length < i + k → l.length ≤ i → Tot (holdfastref13_Store_DropUser.l1 k s o l (i : Int)) fun z => z.length ≤ s.a.length
  | 0, i, _, h1, h2, _ => by omega
  | k + 1, i, l, h1, h2, h3 => by
    unfold holdfastref13_Store_DropUser.l1
    refine Tot.i (fun hc => ?_) (fun _ => Tot.s (by omega))
    have hi : i < s.a.length := by simp at hc; omega
    rw [W_succ (by omega)]
    refine Tot.b (Tot.g hi) fun e1 _ => ?_
    refine Tot.i (fun _ => Tot.b (Tot.g hi) fun e3 _ => ?_) fun _ => rDU1 s o hl k (i + 1) l (by omega) (by omega) (by omega)
    refine Tot.b (Tot.s (P := fun z => z.length = 1) rfl) fun l2 hl2 => ?_
    exact Tot.b (Tot.ap (by omega)) fun l3 hl3 => rDU1 s o hl k (i + 1) l3 (by omega) (by omega) (by omega)
theorem rDropUser (K n : Nat) (hK : 1000 < K) (hn : n ≤ 900) (s : S_holdfastref13_Store) (o : S_api_Owner) (h : RB n s) : Tot (holdfastref13_Store_DropUser K s o) fun r => RB (n + 1) r.2 := by
  have hb := h.mono (Nat.le_succ n)
  have hb2 := h.2
  unfold holdfastref13_Store_DropUser
  refine Tot.b (rDU1 s o (by omega) K 0 [] (by omega) (by omega) (by simp)) fun a ha => ?_
  exact Tot.s ⟨hb.1, by show a.length ≤ n + 1; omega⟩
theorem rMay (K n : Nat) (hK : 1000 < K) (hn : n ≤ 900) (s : S_holdfastref13_Store) (o : S_api_Owner) (c r : List UInt8) (sc : UInt8) (h : RB n s) : Tot (holdfastref13_Store_May K s o c r sc) fun _ => True := by
  have ha := h.1; have hb2 := h.2
  unfold holdfastref13_Store_May
  refine Tot.b (rcl_tot K ⟨s.c_, s.a⟩ _ _ (by show s.c_.length ≤ 1000; omega) hK) fun r1 hr1 => ?_
  refine Tot.b (rco_tot K ⟨s.c_, s.a⟩ _ _ (by show s.a.length ≤ 1000; omega) hK) fun r2 hr2 => ?_
  refine Tot.i (fun _ => Tot.s trivial) fun hc => ?_
  simp at hc
  refine Tot.b (Tot.gi (by omega) hr1.2) fun e1 _ => Tot.i (fun _ => Tot.s trivial) fun _ => ?_
  exact Tot.b (Tot.gi (by omega) hr2.2) fun e2 _ => Tot.i (fun _ => Tot.s trivial) fun _ => Tot.s trivial
end Go.Proofs.YtjgbakieogadfaaDoor

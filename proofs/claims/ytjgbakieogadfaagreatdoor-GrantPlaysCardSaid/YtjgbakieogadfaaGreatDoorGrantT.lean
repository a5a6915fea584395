/-
  The document's store does what the program's does: the other deeds, a deed on both, what both tell. Plain Lean.
-/
import Derived.Test.YtjgbakieogadfaaGreatDoorGrantO
namespace Go.Proofs.YtjgbakieogadfaaGreatDoor
open Go L Go.Sort
variable {n : Nat} {s : GS} {r : RS} {K : Nat}
theorem filter_conO (p : S_grant_use → Bool) (l : List (S_grant_use × UInt8)) : (l.filter fun q => p q.1).map conO = (l.map conO).filter fun x => p (kU x) := by
  induction l with
  | nil => rfl
  | cons y l ih =>
    rw [List.filter_cons, List.map_cons, List.filter_cons, ← ih]
    have e : kU (conO y) = y.1 := rfl
    rw [e]; split <;> rfl
theorem step_drop (h : Rel n s r) (hn : n ≤ 900) (hK : 1000 < K) (t m : List UInt8) :
    ∃ r', holdfastref13_Store_Drop K r t m = some ((dropS s t m).1, r') ∧ Rel (n + 1) (dropS s t m).2 r' := by
  have hl := h.cl; have hl2 := h.al
  have hI := inv_drop h.inv t m; have hN := nms_drop h.nm h.inv t m
  unfold holdfastref13_Store_Drop
  rw [show holdfastref13_Store_client K ⟨r.c_, r.a⟩ t m = _ from rclient_ix r _ _ (by omega) (by omega), Option.bind_some]
  rcases h.client t m with ⟨e4, e5⟩ | ⟨j, hj, e4, hp, e5⟩
  · have e : dropS s t m = (4, s) := by unfold dropS; rw [e5]
    rw [e4, if_pos (by decide), e]; exact ⟨_, rfl, h.mono (Nat.le_succ n)⟩
  · have e : dropS s t m = (0, ⟨mdel s.clients ⟨t, m⟩, s.consents.filter fun q => !hit t m q.1⟩) := by unfold dropS; rw [e5]
    rw [e] at hI hN ⊢
    have f1 := filt_all (l := r.c_) (q := fun i => (r.c_[i]?).elim false fun x => !pN t m x) (p := fun x => !pN t m x) (N := 2513169434916) (g := fun k i out => holdfastref13_Store_Drop.l1 k r t m out (i : Int))
      (fun k out => by rw [holdfastref13_Store_Drop.l1, if_neg (by simp)])
      (fun k i out hi hN => by
        simp only [holdfastref13_Store_Drop.l1, gtn hi, Option.bind_some]
        rw [if_pos (decide_eq_true (by omega)), wsucc (by omega), appn (by simpa using hN), Option.bind_some, List.getElem?_eq_getElem hi, Option.elim_some, pN_eq]
        by_cases h1 : r.c_[i].Tenant = t
        · by_cases h2 : r.c_[i].Name = m <;> simp [h1, h2]
        · simp [h1])
      (fun i hi => by rw [List.getElem?_eq_getElem hi]; rfl) (K := K) (by omega) (by omega)
    have f2 := filt_all (l := r.a) (q := fun i => (r.a[i]?).elim false fun x => !hit t m (kU x)) (p := fun x => !hit t m (kU x)) (N := 2513169434916) (g := fun k i out => holdfastref13_Store_Drop.l2 k r t m out (i : Int))
      (fun k out => by rw [holdfastref13_Store_Drop.l2, if_neg (by simp)])
      (fun k i out hi hN => by
        simp only [holdfastref13_Store_Drop.l2, gtn hi, Option.bind_some]
        have e : hit t m (kU r.a[i]) = (decide (r.a[i].Owner.Tenant = t) && decide (r.a[i].Client = m)) := rfl
        rw [if_pos (decide_eq_true (by omega)), wsucc (by omega), appn (by simpa using hN), Option.bind_some, List.getElem?_eq_getElem hi, Option.elim_some, e]
        by_cases h1 : r.a[i].Owner.Tenant = t
        · by_cases h2 : r.a[i].Client = m <;> simp [h1, h2]
        · simp [h1])
      (fun i hi => by rw [List.getElem?_eq_getElem hi]; rfl) (K := K) (by omega) (by omega)
    rw [e4, if_neg (by simp <;> omega), show holdfastref13_Store_Drop.l1 K r t m [] 0 = _ from f1, Option.bind_some, show holdfastref13_Store_Drop.l2 K r t m [] 0 = _ from f2, Option.bind_some]
    refine ⟨_, rfl, hI, hN, ?_, fun x hx => ?_, ?_⟩
    · show r.c_.filter _ = (mdel s.clients ⟨t, m⟩).map (·.2)
      rw [mdel_eq h.inv.nc, h.c]
      have : ∀ l : List (S_grant_name × S_api_Client), (∀ x ∈ l, x.1 = kN x.2) → (l.map (·.2)).filter (fun x => !pN t m x) = (l.filter fun p => decide (p.1 ≠ (⟨t, m⟩ : S_grant_name))).map (·.2) := by
        intro l
        induction l with
        | nil => intro _; rfl
        | cons y l ih =>
          intro hl
          rw [List.map_cons, List.filter_cons, List.filter_cons, ih fun x hx => hl x (List.mem_cons_of_mem _ hx)]
          have : (!pN t m y.2) = decide (y.1 ≠ (⟨t, m⟩ : S_grant_name)) := by unfold pN; rw [← hl y List.mem_cons_self]; by_cases e : y.1 = ⟨t, m⟩ <;> simp [e]
          rw [this]; split <;> rfl
      exact this _ h.kv
    · replace hx : x ∈ mdel s.clients ⟨t, m⟩ := hx
      rw [mdel_eq h.inv.nc] at hx
      exact h.kv x (List.mem_filter.1 hx).1
    · show (r.a.filter _).Perm ((s.consents.filter fun q => !hit t m q.1).map conO)
      rw [filter_conO fun u => !hit t m u]
      exact h.a.filter _
theorem allow_l1 (h : Rel n s r) (hn : n ≤ 1000) (hK : 1000 < K) (o : S_api_Owner) (m : List UInt8) : holdfastref13_Store_Allow.l1 K r (ix (pU o m) r.a) [] 0 = some (r.a.filter fun x => !pU o m x) := by
  have hl := h.al
  refine filt_all (l := r.a) (q := fun i => !decide ((i : Int) = ix (pU o m) r.a)) (p := fun x => !pU o m x) (N := 2513169434916) (g := fun k i out => holdfastref13_Store_Allow.l1 k r (ix (pU o m) r.a) out (i : Int))
      (fun k out => by rw [holdfastref13_Store_Allow.l1, if_neg (by simp)])
      (fun k i out hi hN => by
        simp only [holdfastref13_Store_Allow.l1, gtn hi, Option.bind_some]
        rw [if_pos (decide_eq_true (by omega)), wsucc (by omega), appn (by simpa using hN), Option.bind_some])
      (fun i hi => by rw [ix_at (p := pU o m) (uq_of h.an ⟨o, m⟩) i hi]) (K := K) (by omega) (by omega)
theorem look_some {t m : List UInt8} {c : S_api_Client} (h : mget s.clients ⟨t, m⟩ = some c) : lookS s t m = (c, 0) := by unfold lookS; rw [h]
theorem look_none {t m : List UInt8} (h : mget s.clients ⟨t, m⟩ = none) : lookS s t m = (zc, 4) := by unfold lookS; rw [h]
theorem step_allow (h : Rel n s r) (hn : n ≤ 900) (hK : 1000 < K) (c : S_api_Consent) (h1 : Nm K c.Owner.Tenant) (h2 : Nm K c.Owner.User) :
    ∃ r', holdfastref13_Store_Allow K r c = some ((allowS s c).1, r') ∧ Rel (n + 1) (allowS s c).2 r' := by
  have hl := h.cl; have hl2 := h.al
  have hI := inv_allow h.inv c; have hN := nms_allow h.nm c
  have h0 : Rel (n + 1) s r := h.mono (Nat.le_succ n)
  unfold holdfastref13_Store_Allow
  rw [refIsName _ h1, Option.bind_some]
  by_cases e1 : nameS c.Owner.Tenant = true
  · rw [if_neg (by simp [e1]), refIsName _ h2, Option.bind_some, Option.bind_some]
    by_cases e2 : nameS c.Owner.User = true
    · rw [if_neg (by simp [e2]), show holdfastref13_Store_client K ⟨r.c_, r.a⟩ c.Owner.Tenant c.Client = _ from rclient_ix r _ _ (by omega) (by omega), Option.bind_some]
      rcases h.client c.Owner.Tenant c.Client with ⟨e4, e5⟩ | ⟨j, hj, e4, _, e5⟩
      · have e : allowS s c = (4, s) := by unfold allowS; rw [if_neg (by simp [e1, e2]), look_none e5, if_pos (by decide)]
        rw [e4, if_pos (by decide), e]; exact ⟨_, rfl, h0⟩
      · rw [e4, if_neg (by simp <;> omega), gtn hj, Option.bind_some]
        by_cases e6 : c.Scopes &&& r.c_[j].Scopes = c.Scopes
        · rw [if_neg (by simpa using e6), show holdfastref13_Store_consent K ⟨r.c_, r.a⟩ c.Owner c.Client = _ from rconsent_ix r _ _ (by omega) (by omega), Option.bind_some]
          have ea : ∀ X, X = allowS s c → X = allowS s c := fun _ h => h
          have eb : allowS s c = if (mget s.consents ⟨c.Owner, c.Client⟩).isSome = false ∧ 4 ≤ (col c.Owner s.consents).length then (25, s) else (0, ⟨s.clients, mset s.consents ⟨c.Owner, c.Client⟩ c.Scopes⟩) := by
            unfold allowS; rw [if_neg (by simp [e1, e2]), look_some e5, if_neg (by simp), if_neg (not_not_intro ((same8 _ _).2 e6))]
          have hL : (sortS cfO (col c.Owner s.consents)).length = (col c.Owner s.consents).length := (sortS_sorted cfO swoO _).1.length_eq
          have fin : allowS s c = (0, ⟨s.clients, mset s.consents ⟨c.Owner, c.Client⟩ c.Scopes⟩) → ∃ r', (((holdfastref13_Store_Allow.l1 K r (ix (pU c.Owner c.Client) r.a) [] 0).bind fun a17 => (some [c]).bind fun l2 => (app 2513169434916 a17 l2).bind fun a22 => some ((0 : Int), (⟨r.c_, a22⟩ : RS))) = some ((allowS s c).1, r') ∧ Rel (n + 1) (allowS s c).2 r') := by
            intro e
            rw [e] at hI hN ⊢
            have hf := List.length_filter_le (fun x => !pU c.Owner c.Client x) r.a
            rw [allow_l1 h (by omega) hK, Option.bind_some, Option.bind_some, appn (by simp only [List.length_cons, List.length_nil]; omega), Option.bind_some]
            refine ⟨_, rfl, hI, hN, h.c, h.kv, ?_⟩
            show (r.a.filter _ ++ [c]).Perm ((mset s.consents ⟨c.Owner, c.Client⟩ c.Scopes).map conO)
            refine List.Perm.trans ?_ ((mset_perm _ _ h.inv.ns).map conO).symm
            rw [List.map_append, filter_conO fun u => !decide (u = (⟨c.Owner, c.Client⟩ : S_grant_use))]
            exact (h.a.filter _).append (List.Perm.refl _)
          rcases h.consent c.Owner c.Client with ⟨e7, e8⟩ | ⟨i, hi, x, e7, _, e8⟩
          · rw [e8] at eb
            rw [e7, if_pos (by decide), show holdfastref13_Store_Consents K ⟨r.c_, r.a⟩ c.Owner = _ from rConsents_eq h (by omega) hK _, Option.bind_some, hL, Option.bind_some]
            by_cases e9 : 4 ≤ (col c.Owner s.consents).length
            · rw [if_pos ⟨rfl, e9⟩] at eb
              rw [if_pos (decide_eq_true (by omega)), eb]; exact ⟨_, rfl, h0⟩
            · rw [if_neg fun h => e9 h.2] at eb
              rw [if_neg (by simp <;> omega), ← e7]; exact fin eb
          · rw [e8, if_neg (by simp)] at eb
            rw [e7, if_neg (by simp <;> omega), Option.bind_some, if_neg (by simp), ← e7]; exact fin eb
        · have e : allowS s c = (14, s) := by unfold allowS; rw [if_neg (by simp [e1, e2]), look_some e5, if_neg (by simp), if_pos fun h => e6 ((same8 _ _).1 h)]
          rw [if_pos (by simpa using e6), e]; exact ⟨_, rfl, h0⟩
    · have e : allowS s c = (8, s) := by unfold allowS; rw [if_pos (by simp [e2])]
      rw [if_pos (by simpa using e2), e]; exact ⟨_, rfl, h0⟩
  · have e : allowS s c = (8, s) := by unfold allowS; rw [if_pos (by simp [e1])]
    rw [if_pos (by simpa using e1), Option.bind_some, if_pos rfl, e]; exact ⟨_, rfl, h0⟩
theorem step_with (h : Rel n s r) (hn : n ≤ 900) (hK : 1000 < K) (o : S_api_Owner) (c : List UInt8) :
    ∃ r', holdfastref13_Store_Withdraw K r o c = some ((withS s o c).1, r') ∧ Rel (n + 1) (withS s o c).2 r' := by
  have hl2 := h.al
  have hI := inv_with h.inv o c; have hN := nms_with h.nm h.inv o c
  unfold holdfastref13_Store_Withdraw
  rw [show holdfastref13_Store_consent K ⟨r.c_, r.a⟩ o c = _ from rconsent_ix r _ _ (by omega) (by omega), Option.bind_some]
  rcases h.consent o c with ⟨e4, e5⟩ | ⟨j, hj, x, e4, hp, e5⟩
  · have e : withS s o c = (4, s) := by unfold withS; rw [e5]
    rw [e4, if_pos (by decide), e]; exact ⟨_, rfl, h.mono (Nat.le_succ n)⟩
  · have e : withS s o c = (0, ⟨s.clients, mdel s.consents ⟨o, c⟩⟩) := by unfold withS; rw [e5]
    rw [e] at hI hN ⊢
    have hpu : pU o c r.a[j] = true := by rw [hp]; exact decide_eq_true rfl
    rw [e4, if_neg (by simp <;> omega), show sub r.a 0 (j : Int) = some ((r.a.take j).drop 0) from subn (Nat.zero_le _) (by omega), Option.bind_some, List.drop_zero, appn (by simp only [List.length_nil, List.length_take]; omega), Option.bind_some, List.nil_append,
      wsucc (by omega), subn (by omega) (Nat.le_refl _), Option.bind_some, List.take_length, appn (by simp only [List.length_take, List.length_drop]; omega), Option.bind_some]
    refine ⟨_, rfl, hI, hN, h.c, h.kv, ?_⟩
    show (r.a.take j ++ r.a.drop (j + 1)).Perm ((mdel s.consents ⟨o, c⟩).map conO)
    rw [erase_filter (p := pU o c) (uq_of h.an ⟨o, c⟩) hj hpu, mdel_eq h.inv.ns]
    have : (s.consents.filter fun p => decide (p.1 ≠ (⟨o, c⟩ : S_grant_use))) = s.consents.filter fun p => !decide (p.1 = (⟨o, c⟩ : S_grant_use)) := by
      refine List.filter_congr fun x _ => ?_
      by_cases e : x.1 = ⟨o, c⟩ <;> simp [e]
    rw [this, filter_conO fun u => !decide (u = (⟨o, c⟩ : S_grant_use))]
    exact h.a.filter _
theorem step_user (h : Rel n s r) (hn : n ≤ 900) (hK : 1000 < K) (o : S_api_Owner) :
    ∃ r', holdfastref13_Store_DropUser K r o = some ((dropUserS s o).1, r') ∧ Rel (n + 1) (dropUserS s o).2 r' := by
  have hl2 := h.al
  have hI := inv_dropUser h.inv o; have hN := nms_dropUser h.nm o
  have f2 := filt_all (l := r.a) (q := fun i => (r.a[i]?).elim false fun x => !decide (x.Owner = o)) (p := fun x => !decide (x.Owner = o)) (N := 2513169434916) (g := fun k i out => holdfastref13_Store_DropUser.l1 k r o out (i : Int))
      (fun k out => by rw [holdfastref13_Store_DropUser.l1, if_neg (by simp)])
      (fun k i out hi hN => by
        simp only [holdfastref13_Store_DropUser.l1, gtn hi, Option.bind_some]
        rw [if_pos (decide_eq_true (by omega)), wsucc (by omega), appn (by simpa using hN), Option.bind_some, List.getElem?_eq_getElem hi, Option.elim_some])
      (fun i hi => by rw [List.getElem?_eq_getElem hi]; rfl) (K := K) (by omega) (by omega)
  have hP : (r.a.filter fun x => !decide (x.Owner = o)).Perm ((s.consents.filter fun q => !decide (q.1.Owner = o)).map conO) := by
    rw [filter_conO fun u => !decide (u.Owner = o)]; exact h.a.filter _
  have e1 := hP.length_eq; have e2 := h.a.length_eq
  rw [List.length_map] at e1 e2
  have e3 := List.length_filter_le (fun x => !decide (x.Owner = o)) r.a
  unfold holdfastref13_Store_DropUser dropUserS
  rw [show holdfastref13_Store_DropUser.l1 K r o [] 0 = _ from f2, Option.bind_some]
  refine ⟨_, congrArg some (Prod.ext ?_ rfl), hI, hN, h.c, h.kv, hP⟩
  show W _ = _
  rw [e1, e2, wid (by omega)]
theorem step_may (h : Rel n s r) (hn : n ≤ 900) (hK : 1000 < K) (o : S_api_Owner) (c d : List UInt8) (sc : UInt8) : holdfastref13_Store_May K r o c d sc = some (mayS s o c d sc) := by
  have hl := h.cl; have hl2 := h.al
  unfold holdfastref13_Store_May
  rw [show holdfastref13_Store_client K ⟨r.c_, r.a⟩ o.Tenant c = _ from rclient_ix r _ _ (by omega) (by omega), Option.bind_some, show holdfastref13_Store_consent K ⟨r.c_, r.a⟩ o c = _ from rconsent_ix r _ _ (by omega) (by omega), Option.bind_some]
  rcases h.client o.Tenant c with ⟨e4, e5⟩ | ⟨j, hj, e4, hp, e5⟩
  · rw [e4, if_pos (by simp)]; unfold mayS; rw [look_none e5, if_pos (by decide)]
  · rcases h.consent o c with ⟨e7, e8⟩ | ⟨i, hi, x, e7, e9, e8⟩
    · have ec : conS s o c = (⟨⟨[], []⟩, [], 0⟩, 4) := by unfold conS; rw [e8]
      rw [e7, if_pos (by simp)]; unfold mayS; rw [look_some e5, ec, if_neg (by simp), if_pos (by decide)]
    · have ec : conS s o c = (⟨o, c, x⟩, 0) := by unfold conS; rw [e8]
      rw [e4, e7, if_neg (by simp <;> omega), gtn hj, Option.bind_some, gtn hi, Option.bind_some, e9]
      have eM : mayS s o c d sc = if ¬ r.c_[j].Redirect = d then 10 else if ¬ sc &&& ~~~x = 0 then 14 else 0 := by
        unfold mayS; rw [look_some e5, ec, if_neg (not_not_intro rfl), if_neg (not_not_intro rfl)]
      rw [eM]
      by_cases f1 : r.c_[j].Redirect = d
      · rw [if_neg (by simpa using f1), if_neg (not_not_intro f1)]
        by_cases f2 : sc &&& x = sc
        · rw [if_neg (by simpa using f2), if_neg (not_not_intro ((same8 _ _).2 f2))]
        · rw [if_pos (by simpa using f2), if_pos fun h => f2 ((same8 _ _).1 h)]
      · rw [if_pos (by simpa using f1), if_pos f1]
/-! a deed on both -/
theorem do_eq (h : Rel n s r) (hn : n ≤ 900) (hK : 1000 < K) (x : S_holdfastlaw13_Deed) (hx : NmD K x) : ∃ s' r', holdfastlaw13_do K s r x = some (true, s', r') ∧ Rel (n + 1) s' r' := by
  have l1 : s.clients.length ≤ 1000 := Nat.le_trans h.inv.lc (by omega)
  have l2 : s.consents.length ≤ 1000 := Nat.le_trans h.inv.ls (by omega)
  unfold holdfastlaw13_do
  split
  · obtain ⟨r', e, h'⟩ := step_reg h hn hK ⟨x.Owner.Tenant, x.Client, x.Redirect, x.Scopes⟩ hx.1 hx.2.2
    rw [Register_eq K ⟨s.clients, s.consents⟩ _ l1, Option.bind_some, show holdfastref13_Store_Register K ⟨r.c_, r.a⟩ _ = _ from e, Option.bind_some]
    exact ⟨_, _, congrArg some (Prod.ext (decide_eq_true rfl) rfl), h'⟩
  · split
    · obtain ⟨r', e, h'⟩ := step_nar h hn hK x.Owner.Tenant x.Client x.Scopes
      rw [Narrow_eq K ⟨s.clients, s.consents⟩ _ _ _ h.inv.ns, Option.bind_some, show holdfastref13_Store_Narrow K ⟨r.c_, r.a⟩ _ _ _ = _ from e, Option.bind_some]
      exact ⟨_, _, congrArg some (Prod.ext (by simp) rfl), h'⟩
    · split
      · obtain ⟨r', e, h'⟩ := step_drop h hn hK x.Owner.Tenant x.Client
        rw [Drop_eq K ⟨s.clients, s.consents⟩ _ _ h.inv.ns, Option.bind_some, show holdfastref13_Store_Drop K ⟨r.c_, r.a⟩ _ _ = _ from e, Option.bind_some]
        exact ⟨_, _, congrArg some (Prod.ext (decide_eq_true rfl) rfl), h'⟩
      · split
        · obtain ⟨r', e, h'⟩ := step_allow h hn hK ⟨x.Owner, x.Client, x.Scopes⟩ hx.1 hx.2.1
          rw [Allow_eq K ⟨s.clients, s.consents⟩ _ h.inv.ns l2, Option.bind_some, show holdfastref13_Store_Allow K ⟨r.c_, r.a⟩ _ = _ from e, Option.bind_some]
          exact ⟨_, _, congrArg some (Prod.ext (decide_eq_true rfl) rfl), h'⟩
        · split
          · obtain ⟨r', e, h'⟩ := step_with h hn hK x.Owner x.Client
            rw [Withdraw_eq K ⟨s.clients, s.consents⟩, Option.bind_some, show holdfastref13_Store_Withdraw K ⟨r.c_, r.a⟩ _ _ = _ from e, Option.bind_some]
            exact ⟨_, _, congrArg some (Prod.ext (decide_eq_true rfl) rfl), h'⟩
          · split
            · obtain ⟨r', e, h'⟩ := step_user h hn hK x.Owner
              rw [DropUser_eq K ⟨s.clients, s.consents⟩ _ h.inv.ns l2, Option.bind_some, show holdfastref13_Store_DropUser K ⟨r.c_, r.a⟩ _ = _ from e, Option.bind_some]
              exact ⟨_, _, congrArg some (Prod.ext (decide_eq_true rfl) rfl), h'⟩
            · rw [May_eq, Option.bind_some, show holdfastref13_Store_May K ⟨r.c_, r.a⟩ _ _ _ _ = _ from step_may h hn hK _ _ _ _, Option.bind_some]
              exact ⟨s, r, congrArg some (Prod.ext (decide_eq_true rfl) rfl), h.mono (Nat.le_succ n)⟩
/-! what both tell -/
theorem same_l1 (a : List S_api_Client) (hl : a.length ≤ 1000) : ∀ (k i : Nat), i ≤ a.length → a.length < i + k → holdfastlaw13_same.l1 k a a (i : Int) = some (.go ())
  | 0, i, h1, h2 => by omega
  | k + 1, i, h1, h2 => by
    unfold holdfastlaw13_same.l1
    by_cases hc : i < a.length
    · rw [if_pos (by simpa using hc), gtn hc, Option.bind_some, Option.bind_some, if_neg (by simp), wsucc (by omega)]
      exact same_l1 a hl k (i + 1) (by omega) (by omega)
    · rw [if_neg (by simpa using hc)]
theorem same_l2 (a : List S_api_Consent) (hl : a.length ≤ 1000) : ∀ (k i : Nat), i ≤ a.length → a.length < i + k → holdfastlaw13_same.l2 k a a (i : Int) = some (.go ())
  | 0, i, h1, h2 => by omega
  | k + 1, i, h1, h2 => by
    unfold holdfastlaw13_same.l2
    by_cases hc : i < a.length
    · rw [if_pos (by simpa using hc), gtn hc, Option.bind_some, Option.bind_some, if_neg (by simp), wsucc (by omega)]
      exact same_l2 a hl k (i + 1) (by omega) (by omega)
    · rw [if_neg (by simpa using hc)]
theorem Rel.kvs (h : Rel n s r) : KV s.clients := fun x hx => by rw [h.kv x hx]; exact ⟨rfl, rfl⟩
theorem rClient_eq (h : Rel n s r) (hn : n ≤ 900) (hK : 1000 < K) (t m : List UInt8) : holdfastref13_Store_Client K r t m = some (lookS s t m) := by
  have hl := h.cl
  unfold holdfastref13_Store_Client
  rw [show holdfastref13_Store_client K ⟨r.c_, r.a⟩ t m = _ from rclient_ix r _ _ (by omega) (by omega), Option.bind_some]
  rcases h.client t m with ⟨e4, e5⟩ | ⟨j, hj, e4, hp, e5⟩
  · rw [e4, if_pos (by decide), look_none e5]; rfl
  · rw [e4, if_neg (by simp <;> omega), gtn hj, look_some e5]; rfl
theorem rConsent_eq (h : Rel n s r) (hn : n ≤ 900) (hK : 1000 < K) (o : S_api_Owner) (m : List UInt8) : holdfastref13_Store_Consent K r o m = some (conS s o m) := by
  have hl := h.al
  unfold holdfastref13_Store_Consent conS
  rw [show holdfastref13_Store_consent K ⟨r.c_, r.a⟩ o m = _ from rconsent_ix r _ _ (by omega) (by omega), Option.bind_some]
  rcases h.consent o m with ⟨e4, e5⟩ | ⟨j, hj, x, e4, hp, e5⟩
  · rw [e4, if_pos (by decide), e5]
  · rw [e4, if_neg (by simp <;> omega), gtn hj, e5, hp]; rfl
theorem same_eq (h : Rel n s r) (hn : n ≤ 900) (hK : 1000 < K) (x : S_holdfastlaw13_Deed) : holdfastlaw13_same K s r x = some true := by
  have l1 : s.clients.length ≤ 1000 := Nat.le_trans h.inv.lc (by omega)
  have l2 : s.consents.length ≤ 1000 := Nat.le_trans h.inv.ls (by omega)
  unfold holdfastlaw13_same
  rw [Client_eq, Option.bind_some, show holdfastref13_Store_Client K ⟨r.c_, r.a⟩ _ _ = _ from rClient_eq h hn hK _ _, Option.bind_some, Consent_eq, Option.bind_some, show holdfastref13_Store_Consent K ⟨r.c_, r.a⟩ _ _ = _ from rConsent_eq h hn hK _ _, Option.bind_some,
    show grant_Store_Clients K ⟨s.clients, s.consents⟩ x.Owner.Tenant = some (sortS cfC (colC x.Owner.Tenant s.clients)) from Clients_eq K ⟨s.clients, s.consents⟩ _ h.inv.nc h.kvs l1, Option.bind_some, show holdfastref13_Store_Clients K ⟨r.c_, r.a⟩ _ = _ from rClients_eq h (by omega) hK _, Option.bind_some,
    show grant_Store_Consents K ⟨s.clients, s.consents⟩ x.Owner = some (sortS cfO (col x.Owner s.consents)) from Consents_eq K ⟨s.clients, s.consents⟩ _ h.inv.ns l2, Option.bind_some, show holdfastref13_Store_Consents K ⟨r.c_, r.a⟩ _ = _ from rConsents_eq h (by omega) hK _, Option.bind_some]
  have e1 : (sortS cfC (colC x.Owner.Tenant s.clients)).length ≤ 1000 := by rw [(sortS_sorted cfC swoC _).1.length_eq]; exact Nat.le_trans (colC_len _ _) l1
  have e2 : (sortS cfO (col x.Owner s.consents)).length ≤ 1000 := by rw [(sortS_sorted cfO swoO _).1.length_eq]; exact Nat.le_trans (col_len _ _) l2
  rw [if_neg (by simp)]
  rw [show holdfastlaw13_same.l1 K (sortS cfC (colC x.Owner.Tenant s.clients)) (sortS cfC (colC x.Owner.Tenant s.clients)) 0 = some (.go ()) from same_l1 _ e1 K 0 (by omega) (by omega), Option.bind_some]
  show ((holdfastlaw13_same.l2 K (sortS cfO (col x.Owner s.consents)) (sortS cfO (col x.Owner s.consents)) 0).bind _) = _
  rw [show holdfastlaw13_same.l2 K (sortS cfO (col x.Owner s.consents)) (sortS cfO (col x.Owner s.consents)) 0 = some (.go ()) from same_l2 _ e2 K 0 (by omega) (by omega), Option.bind_some]
  rfl
end Go.Proofs.YtjgbakieogadfaaGreatDoor

/-
  The document's store does what the program's does: the relation, and what is looked up. Plain Lean.
-/
import Derived.Test.YtjgbakieogadfaaGreatDoorGrantQ
import Derived.Test.YtjgbakieogadfaaGreatDoorLst
namespace Go.Proofs.YtjgbakieogadfaaGreatDoor
open Go L Go.Sort
abbrev GS := S_grant_Store
abbrev RS := S_holdfastref13_Store
def conO (x : S_grant_use × UInt8) : S_api_Consent := ⟨x.1.Owner, x.1.client, x.2⟩
def kU (x : S_api_Consent) : S_grant_use := ⟨x.Owner, x.Client⟩
def kN (x : S_api_Client) : S_grant_name := ⟨x.Tenant, x.Name⟩
structure Rel (n : Nat) (s : GS) (r : RS) : Prop where
  inv : Inv n s
  nm : NmS s
  c : r.c_ = s.clients.map (·.2)
  kv : ∀ x ∈ s.clients, x.1 = kN x.2
  a : r.a.Perm (s.consents.map conO)
variable {n : Nat} {s : GS} {r : RS} {K : Nat}
theorem Rel.cl (h : Rel n s r) : r.c_.length ≤ n := by rw [h.c, List.length_map]; exact h.inv.lc
theorem Rel.al (h : Rel n s r) : r.a.length ≤ n := by rw [h.a.length_eq, List.length_map]; exact h.inv.ls
theorem Rel.mono {m : Nat} (h : Rel n s r) (hm : n ≤ m) : Rel m s r := ⟨h.inv.mono hm, h.nm, h.c, h.kv, h.a⟩
theorem Rel.cn (h : Rel n s r) : (r.c_.map kN).Nodup := by
  rw [h.c, List.map_map]
  have : s.clients.map (kN ∘ (·.2)) = s.clients.map (·.1) := List.map_congr_left fun x hx => (h.kv x hx).symm
  rw [this]; exact h.inv.nc
theorem Rel.an (h : Rel n s r) : (r.a.map kU).Nodup := by
  refine ((h.a.map kU).nodup_iff).2 ?_
  rw [List.map_map]
  exact h.inv.ns
def pN (t m : List UInt8) (x : S_api_Client) : Bool := decide (kN x = ⟨t, m⟩)
def pU (o : S_api_Owner) (c : List UInt8) (x : S_api_Consent) : Bool := decide (kU x = ⟨o, c⟩)
theorem pN_eq (t m : List UInt8) (x : S_api_Client) : pN t m x = (decide (x.Tenant = t) && decide (x.Name = m)) := by
  unfold pN kN; rw [← Bool.decide_and]; exact decide_eq_decide.2 (by rw [S_grant_name.mk.injEq])
theorem pU_eq (o : S_api_Owner) (c : List UInt8) (x : S_api_Consent) : pU o c x = (decide (x.Owner = o) && decide (x.Client = c)) := by
  unfold pU kU; rw [← Bool.decide_and]; exact decide_eq_decide.2 (by rw [S_grant_use.mk.injEq])
theorem rclient_ix (s : RS) (t m : List UInt8) (hK : s.c_.length < K) (hl : s.c_.length ≤ 1000) : holdfastref13_Store_client K s t m = some (ix (pN t m) s.c_) := by
  refine find_ix (l := s.c_) (p := pN t m) (g := fun k i => holdfastref13_Store_client.l1 k s t m (i : Int)) (fun k => ?_) (fun k i h => ?_) hK
  · rw [holdfastref13_Store_client.l1, if_neg (by simp)]
  · rw [holdfastref13_Store_client.l1, if_pos (decide_eq_true (by omega)), gtn h, Option.bind_some, pN_eq, wsucc (by omega)]
    by_cases h1 : s.c_[i].Tenant = t
    · by_cases h2 : s.c_[i].Name = m <;> simp [h1, h2]
    · simp [h1]
theorem rconsent_ix (s : RS) (o : S_api_Owner) (m : List UInt8) (hK : s.a.length < K) (hl : s.a.length ≤ 1000) : holdfastref13_Store_consent K s o m = some (ix (pU o m) s.a) := by
  refine find_ix (l := s.a) (p := pU o m) (g := fun k i => holdfastref13_Store_consent.l1 k s o m (i : Int)) (fun k => ?_) (fun k i h => ?_) hK
  · rw [holdfastref13_Store_consent.l1, if_neg (by simp)]
  · rw [holdfastref13_Store_consent.l1, if_pos (decide_eq_true (by omega)), gtn h, Option.bind_some, pU_eq, wsucc (by omega)]
    by_cases h1 : s.a[i].Owner = o
    · by_cases h2 : s.a[i].Client = m <;> simp [h1, h2]
    · simp [h1]
/-- a client, looked up in both -/
theorem Rel.client (h : Rel n s r) (t m : List UInt8) : (ix (pN t m) r.c_ = -1 ∧ mget s.clients ⟨t, m⟩ = none) ∨ ∃ (j : Nat) (hj : j < r.c_.length), ix (pN t m) r.c_ = j ∧ pN t m r.c_[j] = true ∧ mget s.clients ⟨t, m⟩ = some r.c_[j] := by
  rcases ix_cases (pN t m) r.c_ with ⟨h1, h2⟩ | ⟨j, h1, h2, h3⟩
  · refine .inl ⟨h1, mget_none.2 fun hm => ?_⟩
    obtain ⟨x, hx, e⟩ := List.mem_map.1 hm
    have := h2 x.2 (by rw [h.c]; exact List.mem_map.2 ⟨x, hx, rfl⟩)
    unfold pN at this; rw [← h.kv x hx, decide_eq_false_iff_not] at this; exact this e
  · refine .inr ⟨j, h2, h1, h3, ?_⟩
    have hm : r.c_[j] ∈ s.clients.map (·.2) := by rw [← h.c]; exact List.getElem_mem _
    obtain ⟨x, hx, e⟩ := List.mem_map.1 hm
    unfold pN at h3; rw [← e, ← h.kv x hx, decide_eq_true_eq] at h3
    rw [← e, ← h3]; exact mem_mget h.inv.nc hx
theorem Rel.consent (h : Rel n s r) (o : S_api_Owner) (m : List UInt8) : (ix (pU o m) r.a = -1 ∧ mget s.consents ⟨o, m⟩ = none) ∨ ∃ (j : Nat) (hj : j < r.a.length) (x : UInt8), ix (pU o m) r.a = j ∧ r.a[j] = ⟨o, m, x⟩ ∧ mget s.consents ⟨o, m⟩ = some x := by
  rcases ix_cases (pU o m) r.a with ⟨h1, h2⟩ | ⟨j, h1, h2, h3⟩
  · refine .inl ⟨h1, mget_none.2 fun hm => ?_⟩
    obtain ⟨x, hx, e⟩ := List.mem_map.1 hm
    have := h2 (conO x) (h.a.mem_iff.2 (List.mem_map.2 ⟨x, hx, rfl⟩))
    unfold pU at this; rw [decide_eq_false_iff_not] at this; exact this e
  · have hm : r.a[j] ∈ s.consents.map conO := h.a.mem_iff.1 (List.getElem_mem _)
    obtain ⟨x, hx, e⟩ := List.mem_map.1 hm
    unfold pU at h3; rw [← e, decide_eq_true_eq] at h3
    have h3' : x.1 = ⟨o, m⟩ := h3
    refine .inr ⟨j, h2, x.2, h1, ?_, ?_⟩
    · rw [← e]; unfold conO; rw [h3']
    · rw [← h3']; exact mem_mget h.inv.ns hx
/-! lists of a tenant's clients, of a user's consents -/
def cfC (a b : S_api_Client) : Int := cmpS a.Name b.Name
def cfO (a b : S_api_Consent) : Int := cmpS a.Client b.Client
theorem ltC (a b : S_api_Client) : ltOf cfC a b = ltS a.Name b.Name := by unfold ltOf cfC; rw [cmpS_dec]
theorem ltO (a b : S_api_Consent) : ltOf cfO a b = ltS a.Client b.Client := by unfold ltOf cfO; rw [cmpS_dec]
theorem swoC : SWO (ltOf cfC) := swo_str fun a : S_api_Client => a.Name
theorem swoO : SWO (ltOf cfO) := swo_str fun a : S_api_Consent => a.Client
theorem colC_eq (h : Rel n s r) (t : List UInt8) : colC t s.clients = r.c_.filter fun x => decide (x.Tenant = t) := by
  rw [h.c]; unfold colC
  have key : ∀ l : List (S_grant_name × S_api_Client), (∀ x ∈ l, x.1 = kN x.2) → (l.filterMap fun x => if x.1.tenant = t then some x.2 else none) = (l.map (·.2)).filter fun x => decide (x.Tenant = t) := by
    intro l
    induction l with
    | nil => intro _; rfl
    | cons y l ih =>
      intro hl
      have hy := hl y List.mem_cons_self
      rw [List.filterMap_cons, List.map_cons, List.filter_cons, ih fun x hx => hl x (List.mem_cons_of_mem _ hx)]
      have : y.1.tenant = y.2.Tenant := by rw [hy]; rfl
      by_cases e : y.2.Tenant = t
      · simp [this, e]
      · simp [this, e]
  exact key _ h.kv
theorem col_perm (h : Rel n s r) (o : S_api_Owner) : (r.a.filter fun x => decide (x.Owner = o)).Perm (col o s.consents) := by
  have key : ∀ l : List (S_grant_use × UInt8), (l.map conO).filter (fun x => decide (x.Owner = o)) = col o l := by
    intro l
    induction l with
    | nil => rfl
    | cons y l ih =>
      unfold col at *
      rw [List.map_cons, List.filter_cons, List.filterMap_cons, ih]
      by_cases e : y.1.Owner = o
      · rw [if_pos (show decide ((conO y).Owner = o) = true from decide_eq_true e), if_pos e]; subst e; rfl
      · rw [if_neg (show ¬ decide ((conO y).Owner = o) = true from fun h => e (of_decide_eq_true h)), if_neg e]
  rw [← key]; exact h.a.filter _
theorem injC {l : List S_api_Client} (hn : (l.map kN).Nodup) (t : List UInt8) : ∀ a b, a ∈ l.filter (fun x => decide (x.Tenant = t)) → b ∈ l.filter (fun x => decide (x.Tenant = t)) → ltOf cfC b a = false → ltOf cfC a b = false → a = b := by
  intro a b ha hb h1 h2
  rw [List.mem_filter, decide_eq_true_eq] at ha hb
  have e : a.Name = b.Name := by rw [ltC] at h1 h2; exact ltS_tri _ _ h2 h1
  have hk : kN a = kN b := by unfold kN; rw [ha.2, hb.2, e]
  obtain ⟨i, hi, rfl⟩ := List.mem_iff_getElem.1 ha.1
  obtain ⟨j, hj, rfl⟩ := List.mem_iff_getElem.1 hb.1
  have := uq_of hn (kN l[j]) i j hi hj (decide_eq_true hk) (decide_eq_true rfl)
  subst this; rfl
theorem injO {l : List S_api_Consent} (hn : (l.map kU).Nodup) (o : S_api_Owner) : ∀ a b, a ∈ l.filter (fun x => decide (x.Owner = o)) → b ∈ l.filter (fun x => decide (x.Owner = o)) → ltOf cfO b a = false → ltOf cfO a b = false → a = b := by
  intro a b ha hb h1 h2
  rw [List.mem_filter, decide_eq_true_eq] at ha hb
  have e : a.Client = b.Client := by rw [ltO] at h1 h2; exact ltS_tri _ _ h2 h1
  have hk : kU a = kU b := by unfold kU; rw [ha.2, hb.2, e]
  obtain ⟨i, hi, rfl⟩ := List.mem_iff_getElem.1 ha.1
  obtain ⟨j, hj, rfl⟩ := List.mem_iff_getElem.1 hb.1
  have := uq_of hn (kU l[j]) i j hi hj (decide_eq_true hk) (decide_eq_true rfl)
  subst this; rfl
theorem rcl_l2 (s : RS) (out : List S_api_Client) (i : Nat) (hi : i < s.c_.length) (ho : out.length < 4611686018427387904) (k : Nat) (hk : out.length < k) :
    ∃ q : Nat, q ≤ out.length ∧ holdfastref13_Store_Clients.l2 k out s (i : Int) (out.length : Int) = some (q : Int) ∧ (∀ y ∈ out.drop q, ltOf cfC s.c_[i] y = true) ∧ ∀ y, 0 < q → out[q - 1]? = some y → ltOf cfC s.c_[i] y = false := by
  refine l2_spec (lt := ltOf cfC) (x := s.c_[i]) (out := out) (g := fun k p => holdfastref13_Store_Clients.l2 k out s (i : Int) (p : Int)) (fun k => ?_) (fun k p hp => ?_) k out.length (Nat.le_refl _) hk (by simp)
  · rw [holdfastref13_Store_Clients.l2, if_neg (by simp)]; rfl
  · rw [holdfastref13_Store_Clients.l2, if_pos (decide_eq_true (by omega)), wpred (by omega) (by omega), Nat.add_sub_cancel, gtn hp, Option.bind_some, gtn hi, Option.bind_some, gtS_eq, ltC]
theorem rco_l2 (s : RS) (out : List S_api_Consent) (i : Nat) (hi : i < s.a.length) (ho : out.length < 4611686018427387904) (k : Nat) (hk : out.length < k) :
    ∃ q : Nat, q ≤ out.length ∧ holdfastref13_Store_Consents.l2 k out s (i : Int) (out.length : Int) = some (q : Int) ∧ (∀ y ∈ out.drop q, ltOf cfO s.a[i] y = true) ∧ ∀ y, 0 < q → out[q - 1]? = some y → ltOf cfO s.a[i] y = false := by
  refine l2_spec (lt := ltOf cfO) (x := s.a[i]) (out := out) (g := fun k p => holdfastref13_Store_Consents.l2 k out s (i : Int) (p : Int)) (fun k => ?_) (fun k p hp => ?_) k out.length (Nat.le_refl _) hk (by simp)
  · rw [holdfastref13_Store_Consents.l2, if_neg (by simp)]; rfl
  · rw [holdfastref13_Store_Consents.l2, if_pos (decide_eq_true (by omega)), wpred (by omega) (by omega), Nat.add_sub_cancel, gtn hp, Option.bind_some, gtn hi, Option.bind_some, gtS_eq, ltO]
theorem flat_filter {α : Type} (p : α → Bool) (l : List α) : l.flatMap (fun x => if p x = true then [x] else []) = l.filter p := by
  induction l with
  | nil => rfl
  | cons y l ih => rw [List.flatMap_cons, List.filter_cons, ih]; split <;> rfl
theorem rClients_eq (h : Rel n s r) (hn : n ≤ 1000) (hK : 1000 < K) (t : List UInt8) : holdfastref13_Store_Clients K r t = some (sortS cfC (colC t s.clients)) := by
  have hl := h.cl
  have key := l1_spec (lt := ltOf cfC) (n := r.c_.length) (sel := fun i => (r.c_[i]?).elim [] fun y => if (fun x : S_api_Client => decide (x.Tenant = t)) y = true then [y] else []) (g := fun k i out => holdfastref13_Store_Clients.l1 K k r t out (i : Int))
    (fun k out => by rw [holdfastref13_Store_Clients.l1, if_neg (by simp)])
    (fun k i out hi ho hs => by
      by_cases ht : r.c_[i].Tenant = t
      · obtain ⟨q, h1, h2, h3, h4⟩ := rcl_l2 r out i hi (by omega) K (by omega)
        refine ⟨out.take q ++ [r.c_[i]] ++ out.drop q, ?_, ins_sd swoC hs h1 h3 h4, ?_, ?_⟩
        · rw [holdfastref13_Store_Clients.l1, if_pos (by simpa using hi), gtn hi, Option.bind_some, if_neg (by simpa using ht), h2, Option.bind_some, show sub out 0 (q : Int) = some ((out.take q).drop 0) from subn (Nat.zero_le _) h1, Option.bind_some, List.drop_zero,
            appn (by simp only [List.length_nil, List.length_take]; omega), Option.bind_some, Option.bind_some, Option.bind_some, List.nil_append,
            appn (by simp only [List.length_take, List.length_cons, List.length_nil]; omega), Option.bind_some, subn h1 (Nat.le_refl _), Option.bind_some, List.take_length,
            appn (by simp only [List.length_append, List.length_take, List.length_drop, List.length_cons, List.length_nil]; omega), Option.bind_some, wsucc (by omega)]
        · rw [List.getElem?_eq_getElem hi]
          simp only [Option.elim_some, ht, decide_true, if_true]; exact ins_perm _ _ _
        · simp only [List.length_append, List.length_take, List.length_drop, List.length_cons, List.length_nil]; omega
      · refine ⟨out, ?_, hs, ?_, by omega⟩
        · rw [holdfastref13_Store_Clients.l1, if_pos (by simpa using hi), gtn hi, Option.bind_some, if_pos (by simpa using ht), wsucc (by omega)]
        · rw [List.getElem?_eq_getElem hi]; simp [ht])
    r.c_.length K 0 [] (by omega) (by omega) (Nat.le_refl _) List.Pairwise.nil
  obtain ⟨z, h1, h2, h3⟩ := key
  rw [List.nil_append, range_sel (fun y => if (fun x : S_api_Client => decide (x.Tenant = t)) y = true then [y] else []) r.c_, flat_filter] at h3
  unfold holdfastref13_Store_Clients
  rw [show holdfastref13_Store_Clients.l1 K K r t [] 0 = some z from h1, Option.bind_some, colC_eq h]
  rw [sd_sortS cfC swoC h2 h3 (injC h.cn t)]
theorem rConsents_eq (h : Rel n s r) (hn : n ≤ 1000) (hK : 1000 < K) (o : S_api_Owner) : holdfastref13_Store_Consents K r o = some (sortS cfO (col o s.consents)) := by
  have hl := h.al
  have key := l1_spec (lt := ltOf cfO) (n := r.a.length) (sel := fun i => (r.a[i]?).elim [] fun y => if (fun x : S_api_Consent => decide (x.Owner = o)) y = true then [y] else []) (g := fun k i out => holdfastref13_Store_Consents.l1 K k r o out (i : Int))
    (fun k out => by rw [holdfastref13_Store_Consents.l1, if_neg (by simp)])
    (fun k i out hi ho hs => by
      by_cases ht : r.a[i].Owner = o
      · obtain ⟨q, h1, h2, h3, h4⟩ := rco_l2 r out i hi (by omega) K (by omega)
        refine ⟨out.take q ++ [r.a[i]] ++ out.drop q, ?_, ins_sd swoO hs h1 h3 h4, ?_, ?_⟩
        · rw [holdfastref13_Store_Consents.l1, if_pos (by simpa using hi), gtn hi, Option.bind_some, if_neg (by simpa using ht), h2, Option.bind_some, show sub out 0 (q : Int) = some ((out.take q).drop 0) from subn (Nat.zero_le _) h1, Option.bind_some, List.drop_zero,
            appn (by simp only [List.length_nil, List.length_take]; omega), Option.bind_some, Option.bind_some, Option.bind_some, List.nil_append,
            appn (by simp only [List.length_take, List.length_cons, List.length_nil]; omega), Option.bind_some, subn h1 (Nat.le_refl _), Option.bind_some, List.take_length,
            appn (by simp only [List.length_append, List.length_take, List.length_drop, List.length_cons, List.length_nil]; omega), Option.bind_some, wsucc (by omega)]
        · rw [List.getElem?_eq_getElem hi]
          simp only [Option.elim_some, ht, decide_true, if_true]; exact ins_perm _ _ _
        · simp only [List.length_append, List.length_take, List.length_drop, List.length_cons, List.length_nil]; omega
      · refine ⟨out, ?_, hs, ?_, by omega⟩
        · rw [holdfastref13_Store_Consents.l1, if_pos (by simpa using hi), gtn hi, Option.bind_some, if_pos (by simpa using ht), wsucc (by omega)]
        · rw [List.getElem?_eq_getElem hi]; simp [ht])
    r.a.length K 0 [] (by omega) (by omega) (Nat.le_refl _) List.Pairwise.nil
  obtain ⟨z, h1, h2, h3⟩ := key
  rw [List.nil_append, range_sel (fun y => if (fun x : S_api_Consent => decide (x.Owner = o)) y = true then [y] else []) r.a, flat_filter] at h3
  unfold holdfastref13_Store_Consents
  rw [show holdfastref13_Store_Consents.l1 K K r o [] 0 = some z from h1, Option.bind_some]
  have hp := col_perm h o
  rw [sd_sortS cfO swoO h2 h3 (injO h.an o), sortS_eq cfO swoO hp (injO h.an o)]
end Go.Proofs.YtjgbakieogadfaaGreatDoor

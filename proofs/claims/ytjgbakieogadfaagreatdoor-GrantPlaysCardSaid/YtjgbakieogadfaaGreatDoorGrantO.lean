/-
  The document's store does what the program's does: each deed. Plain Lean.
-/
import Derived.Test.YtjgbakieogadfaaGreatDoorGrantP
namespace Go.Proofs.YtjgbakieogadfaaGreatDoor
open Go L Go.Sort
variable {n : Nat} {s : GS} {r : RS} {K : Nat}
/-! is there room? -/
theorem dd_snoc (l : List (List UInt8)) (x : List UInt8) : (dd (l ++ [x])).length = (dd l).length + if x ∈ l then 0 else 1 := by
  by_cases h : x ∈ l
  · rw [if_pos h]
    exact ((List.perm_ext_iff_of_nodup (nd_dd _) (nd_dd _)).2 fun a => by
      rw [mem_dd, mem_dd, List.mem_append, List.mem_singleton]; exact ⟨fun h2 => h2.elim id fun e => e ▸ h, .inl⟩).length_eq
  · rw [if_neg h]
    have hn : (x :: dd l).Nodup := List.nodup_cons.2 ⟨by rw [mem_dd]; exact h, nd_dd l⟩
    exact ((List.perm_ext_iff_of_nodup (nd_dd _) hn).2 fun a => by
      rw [mem_dd, List.mem_append, List.mem_singleton, List.mem_cons, mem_dd]; exact Or.comm).length_eq
theorem rfull_l2 (s : RS) (i : Nat) (hi : i < s.c_.length) (hl : s.c_.length ≤ 1000) : ∀ (d k j : Nat) (f : Bool), j + d = i → d < k →
    holdfastref13_Store_full.l2 k (i : Int) s f (j : Int) = some (f && ((s.c_.drop j).take d).all fun x => !decide (x.Tenant = s.c_[i].Tenant))
  | 0, k, j, f, h1, h2 => by
    obtain ⟨k, rfl⟩ : ∃ k', k = k' + 1 := ⟨k - 1, by omega⟩
    rw [holdfastref13_Store_full.l2, if_neg (by simp <;> omega)]; simp
  | d + 1, k, j, f, h1, h2 => by
    obtain ⟨k, rfl⟩ : ∃ k', k = k' + 1 := ⟨k - 1, by omega⟩
    have hj : j < s.c_.length := by omega
    rw [holdfastref13_Store_full.l2, if_pos (by simp <;> omega), List.drop_eq_getElem_cons hj, List.take_succ_cons, List.all_cons, wsucc (by omega)]
    cases f with
    | false => rw [if_neg (by simp), rfull_l2 s i hi hl d k (j + 1) false (by omega) (by omega)]; simp
    | true => rw [if_pos rfl, gtn hj, Option.bind_some, gtn hi, Option.bind_some, rfull_l2 s i hi hl d k (j + 1) _ (by omega) (by omega)]; simp
theorem rfull_l1 (s : RS) (hl : s.c_.length ≤ 1000) (hK : 1000 < K) : ∀ (d k i : Nat), i + d = s.c_.length → d < k →
    holdfastref13_Store_full.l1 K k s ((dd ((s.c_.take i).map (·.Tenant))).length : Int) (i : Int) = some ((dd (s.c_.map (·.Tenant))).length : Int)
  | 0, k, i, h1, h2 => by
    obtain ⟨k, rfl⟩ : ∃ k', k = k' + 1 := ⟨k - 1, by omega⟩
    rw [holdfastref13_Store_full.l1, if_neg (by simp <;> omega), List.take_of_length_le (by omega)]
  | d + 1, k, i, h1, h2 => by
    obtain ⟨k, rfl⟩ : ∃ k', k = k' + 1 := ⟨k - 1, by omega⟩
    have hi : i < s.c_.length := by omega
    have h3 := rfull_l2 s i hi hl i K 0 true (by omega) (by omega)
    rw [List.drop_zero, Bool.true_and] at h3
    have h4 : (dd ((s.c_.take (i + 1)).map (·.Tenant))).length = (dd ((s.c_.take i).map (·.Tenant))).length + if s.c_[i].Tenant ∈ (s.c_.take i).map (·.Tenant) then 0 else 1 := by
      rw [List.take_add_one, List.getElem?_eq_getElem hi, List.map_append]; exact dd_snoc _ _
    have h5 : (dd ((s.c_.take i).map (·.Tenant))).length ≤ 1000 := by
      have : ∀ l : List (List UInt8), (dd l).length ≤ l.length := fun l => by
        induction l with
        | nil => exact Nat.le_refl _
        | cons y l ih => unfold dd; split <;> simp only [List.length_cons] <;> omega
      have := this ((s.c_.take i).map (·.Tenant)); simp only [List.length_map, List.length_take] at this; omega
    rw [holdfastref13_Store_full.l1, if_pos (by simp <;> omega), show holdfastref13_Store_full.l2 K (i : Int) s true 0 = _ from h3, Option.bind_some, wsucc (by omega)]
    by_cases hm : s.c_[i].Tenant ∈ (s.c_.take i).map (·.Tenant)
    · rw [if_pos hm] at h4
      replace h4 : (dd ((s.c_.take (i + 1)).map (·.Tenant))).length = (dd ((s.c_.take i).map (·.Tenant))).length := h4
      rw [if_neg, wsucc (by omega), ← h4, rfull_l1 s hl hK d k (i + 1) (by omega) (by omega)]
      intro ha
      obtain ⟨x, hx, e⟩ := List.mem_map.1 hm
      have := List.all_eq_true.1 ha x hx
      simp [e] at this
    · rw [if_neg hm] at h4
      rw [if_pos, wsucc (by omega), ← h4, rfull_l1 s hl hK d k (i + 1) (by omega) (by omega)]
      rw [List.all_eq_true]
      intro x hx
      rw [Bool.not_eq_true', decide_eq_false_iff_not]
      exact fun e => hm (List.mem_map.2 ⟨x, hx, e⟩)
theorem rfull_eq (h : Rel n s r) (hn : n ≤ 1000) (hK : 1000 < K) (t : List UInt8) : holdfastref13_Store_full K r t = some (fullS s.clients t) := by
  have hl := h.cl
  unfold holdfastref13_Store_full
  rw [show holdfastref13_Store_Clients K ⟨r.c_, r.a⟩ t = _ from rClients_eq h hn hK t, Option.bind_some]
  have h1 := rfull_l1 r (by omega) hK r.c_.length K 0 (by omega) (by omega)
  rw [List.take_zero, List.map_nil] at h1
  rw [show holdfastref13_Store_full.l1 K K r 0 0 = _ from h1, Option.bind_some]
  have e1 : (sortS cfC (colC t s.clients)).length = cnt s.clients t := by
    rw [(sortS_sorted cfC swoC _).1.length_eq]
    unfold colC cnt
    have : ∀ l : List (S_grant_name × S_api_Client), (l.filterMap fun x => if x.1.tenant = t then some x.2 else none).length = (l.filter fun x => decide (x.1.tenant = t)).length := by
      intro l
      induction l with
      | nil => rfl
      | cons y l ih => rw [List.filterMap_cons, List.filter_cons]; by_cases e : y.1.tenant = t <;> simp [e, ih]
    exact this _
  have e2 : r.c_.map (·.Tenant) = s.clients.map (·.1.tenant) := by
    rw [h.c, List.map_map]
    exact List.map_congr_left fun x hx => by simp only [Function.comp]; rw [h.kv x hx]; rfl
  unfold fullS
  rw [e1, e2]
  congr 2
  · exact decide_eq_decide.2 (by omega)
  · congr 1
    · exact decide_eq_decide.2 (by omega)
    · exact decide_eq_decide.2 (by omega)
/-! deeds -/
theorem mset_new {κ β : Type} [DecidableEq κ] : ∀ {m : List (κ × β)} {a : κ} {v : β}, mget m a = none → mset m a v = m ++ [(a, v)]
  | [], _, _, _ => rfl
  | y :: m, a, v, h => by
    unfold mget at h
    split at h
    · cases h
    · rename_i hy
      simp only [mset, if_neg hy, mset_new h, List.cons_append]
theorem mset_perm {κ β : Type} [DecidableEq κ] : ∀ {m : List (κ × β)} (a : κ) (v : β), NDK m → (mset m a v).Perm ((m.filter fun p => !decide (p.1 = a)) ++ [(a, v)])
  | [], _, _, _ => List.Perm.refl _
  | y :: m, a, v, h => by
    have h' := h
    unfold NDK at h'; rw [List.map_cons, List.nodup_cons] at h'
    simp only [mset]
    split
    · rename_i hy
      rw [List.filter_cons, if_neg (by simp [hy]), List.filter_eq_self.2 (fun p hp => by
        rw [Bool.not_eq_true', decide_eq_false_iff_not]
        exact fun e => h'.1 (List.mem_map.2 ⟨p, hp, by rw [e, hy]⟩))]
      exact (List.perm_append_comm (l₁ := [(a, v)]) (l₂ := m))
    · rename_i hy
      rw [List.filter_cons, if_pos (by simpa using hy), List.cons_append]
      exact (mset_perm a v h'.2).cons _
theorem same8 (a b : UInt8) : a &&& ~~~b = 0 ↔ a &&& b = a := by
  refine ⟨and_not, fun h => ?_⟩
  rw [← h, UInt8.and_assoc]
  have : b &&& ~~~b = 0 := UInt8.and_not_self
  rw [this, UInt8.and_zero]
theorem refIsName (s : List UInt8) (h : Nm K s) : holdfastref02_IsName K s = some (nameS s) := refIsName_eq K s h.2 h.1
theorem step_reg (h : Rel n s r) (hn : n ≤ 900) (hK : 1000 < K) (c : S_api_Client) (h1 : Nm K c.Tenant) (h2 : Nm K c.Name) :
    ∃ r', holdfastref13_Store_Register K r c = some ((regS s c).1, r') ∧ Rel (n + 1) (regS s c).2 r' := by
  have hl := h.cl
  have hI := inv_reg h.inv c; have hN := nms_reg h.nm c
  have h0 : Rel (n + 1) s r := h.mono (Nat.le_succ n)
  unfold holdfastref13_Store_Register
  rw [refIsName _ h1, Option.bind_some]
  by_cases e1 : nameS c.Tenant = true
  · rw [if_neg (by simp [e1]), refIsName _ h2, Option.bind_some, Option.bind_some]
    by_cases e2 : nameS c.Name = true
    · rw [if_neg (by simp [e2])]
      by_cases e3 : 24 < c.Redirect.length
      · have e : regS s c = (6, s) := by unfold regS; rw [if_neg (by simp [e1, e2]), if_pos e3]
        rw [if_pos (decide_eq_true (by omega)), e]; exact ⟨_, rfl, h0⟩
      · rw [if_neg (by simp <;> omega), show holdfastref13_Store_client K ⟨r.c_, r.a⟩ c.Tenant c.Name = _ from rclient_ix r _ _ (by omega) (by omega), Option.bind_some]
        rcases h.client c.Tenant c.Name with ⟨e4, e5⟩ | ⟨j, hj, e4, _, e5⟩
        · rw [e4, if_neg (by decide), show holdfastref13_Store_full K ⟨r.c_, r.a⟩ c.Tenant = _ from rfull_eq h (by omega) hK _, Option.bind_some]
          cases e6 : fullS s.clients c.Tenant with
          | true =>
            have e : regS s c = (24, s) := by unfold regS; rw [if_neg (by simp [e1, e2]), if_neg e3, e5, if_neg (by simp), if_pos e6]
            rw [if_pos rfl, e]; exact ⟨_, rfl, h0⟩
          | false =>
            have e : regS s c = (0, ⟨mset s.clients ⟨c.Tenant, c.Name⟩ c, s.consents⟩) := by unfold regS; rw [if_neg (by simp [e1, e2]), if_neg e3, e5, if_neg (by simp), if_neg (by rw [e6]; decide)]
            rw [e] at hI hN ⊢
            rw [if_neg (by simp), appn (by simp only [List.length_nil]; omega), Option.bind_some, Option.bind_some, List.nil_append, appn (by simp only [List.length_cons, List.length_nil]; omega), Option.bind_some]
            refine ⟨_, rfl, hI, hN, ?_, fun x hx => ?_, h.a⟩
            · show r.c_ ++ [c] = (mset s.clients ⟨c.Tenant, c.Name⟩ c).map (·.2)
              rw [mset_new e5, List.map_append, h.c]; rfl
            · replace hx : x ∈ mset s.clients ⟨c.Tenant, c.Name⟩ c := hx
              rw [mset_new e5] at hx
              rcases List.mem_append.1 hx with hx | hx
              · exact h.kv x hx
              · rw [List.mem_singleton] at hx; subst hx; rfl
        · have e : regS s c = (5, s) := by unfold regS; rw [if_neg (by simp [e1, e2]), if_neg e3, e5, if_pos (by rfl)]
          rw [e4, if_pos (decide_eq_true (by omega)), e]; exact ⟨_, rfl, h0⟩
    · have e : regS s c = (8, s) := by unfold regS; rw [if_pos (by simp [e2])]
      rw [if_pos (by simpa using e2), e]; exact ⟨_, rfl, h0⟩
  · have e : regS s c = (8, s) := by unfold regS; rw [if_pos (by simp [e1])]
    rw [if_pos (by simpa using e1), Option.bind_some, if_pos rfl, e]; exact ⟨_, rfl, h0⟩
theorem nar_l1 (t m : List UInt8) (sc : UInt8) (a : List S_api_Consent) (hl : a.length ≤ 1000) (hK : a.length < K) :
    holdfastref13_Store_Narrow.l1 K t m sc a 0 = some (a.map fun x => if hit t m (kU x) = true then ⟨x.Owner, x.Client, x.Scopes &&& sc⟩ else x) := by
  have h := map_spec (f := fun x : S_api_Consent => if hit t m (kU x) = true then ⟨x.Owner, x.Client, x.Scopes &&& sc⟩ else x) (n := a.length) (g := fun k i l => holdfastref13_Store_Narrow.l1 k t m sc l (i : Int))
    (fun k l hl => by rw [holdfastref13_Store_Narrow.l1, if_neg (by simp <;> omega)])
    (fun k i l hi hl2 => by
      simp only [holdfastref13_Store_Narrow.l1, gtn hi, Option.bind_some]
      rw [if_pos (decide_eq_true (by omega)), wsucc (by omega)]
      have e : hit t m (kU l[i]) = (decide (l[i].Owner.Tenant = t) && decide (l[i].Client = m)) := rfl
      rw [e]
      by_cases h1 : l[i].Owner.Tenant = t
      · by_cases h2 : l[i].Client = m
        · simp [h1, h2]
        · simp [h1, h2]
      · simp [h1])
    a.length K 0 a (by omega) rfl hK
  rw [List.take_zero, List.drop_zero, List.nil_append] at h; exact h
theorem nar_some' {s : GS} {t m : List UInt8} {c : S_api_Client} (h : mget s.clients ⟨t, m⟩ = some c) (sc : UInt8) :
    narS s t m sc = (c.Scopes &&& sc, 0, ⟨mset s.clients ⟨t, m⟩ ⟨c.Tenant, c.Name, c.Redirect, c.Scopes &&& sc⟩, narM t m sc s.consents⟩) := by
  unfold narS; rw [h]
theorem step_nar (h : Rel n s r) (hn : n ≤ 900) (hK : 1000 < K) (t m : List UInt8) (sc : UInt8) :
    ∃ r', holdfastref13_Store_Narrow K r t m sc = some ((narS s t m sc).1, (narS s t m sc).2.1, r') ∧ Rel (n + 1) (narS s t m sc).2.2 r' := by
  have hl := h.cl; have hl2 := h.al
  have hI := inv_nar h.inv t m sc; have hN := nms_nar h.nm t m sc
  unfold holdfastref13_Store_Narrow
  rw [show holdfastref13_Store_client K ⟨r.c_, r.a⟩ t m = _ from rclient_ix r _ _ (by omega) (by omega), Option.bind_some]
  rcases h.client t m with ⟨e4, e5⟩ | ⟨j, hj, e4, hp, e5⟩
  · have e : narS s t m sc = (0, 4, s) := by unfold narS; rw [e5]
    rw [e4, if_pos (by decide), e]; exact ⟨_, rfl, h.mono (Nat.le_succ n)⟩
  · have e := nar_some' e5 sc
    rw [e] at hI hN ⊢
    rw [e4, if_neg (by simp <;> omega), appn (by simp only [List.length_nil]; omega), Option.bind_some, List.nil_append, gtn hj, Option.bind_some, Option.bind_some, Option.bind_some, appn (by simp only [List.length_nil]; omega), Option.bind_some, List.nil_append,
      nar_l1 t m sc r.a (by omega) (by omega), Option.bind_some, Int.toNat_natCast]
    rw [gtn (by simpa using hj), Option.bind_some]
    have hm : (⟨t, m⟩ : S_grant_name) ∈ s.clients.map (·.1) := List.mem_map.2 ⟨_, mget_mem e5, rfl⟩
    refine ⟨⟨_, _⟩, congrArg some (Prod.ext ?_ (Prod.ext rfl rfl)), hI, hN, ?_, fun x hx => ?_, ?_⟩
    · simp
    · show _ = (mset s.clients ⟨t, m⟩ _).map (·.2)
      rw [mset_map h.inv.nc hm, List.map_map]
      have hs := set_map (p := pN t m) (uq_of h.cn ⟨t, m⟩) hj hp (fun x => ⟨x.Tenant, x.Name, x.Redirect, x.Scopes &&& sc⟩)
      refine hs.trans ?_
      have hc := h.c
      generalize r.c_[j] = y at e5
      rw [hc, List.map_map]
      refine List.map_congr_left fun x hx => ?_
      simp only [Function.comp]
      by_cases e : x.1 = ⟨t, m⟩
      · have hx2 : x.2 = y := by
          have := mem_mget h.inv.nc (a := x.1) (v := x.2) hx
          rw [e, e5] at this; exact (Option.some.inj this).symm
        rw [if_pos e, if_pos (by unfold pN; rw [← h.kv x hx]; exact decide_eq_true e), hx2]
      · rw [if_neg e, if_neg (by unfold pN; rw [← h.kv x hx]; simpa using e)]
    · replace hx : x ∈ mset s.clients ⟨t, m⟩ _ := hx
      rw [mset_map h.inv.nc hm] at hx
      obtain ⟨y, hy, rfl⟩ := List.mem_map.1 hx
      split
      · unfold pN at hp; rw [decide_eq_true_eq] at hp; exact hp.symm
      · exact h.kv y hy
    · have := h.a.map (fun x : S_api_Consent => if hit t m (kU x) = true then (⟨x.Owner, x.Client, x.Scopes &&& sc⟩ : S_api_Consent) else x)
      refine this.trans (List.Perm.of_eq ?_)
      show _ = (narM t m sc s.consents).map conO
      unfold narM
      rw [List.map_map, List.map_map]
      refine List.map_congr_left fun x _ => ?_
      simp only [Function.comp]
      have e : kU (conO x) = x.1 := rfl
      rw [e]
      by_cases e2 : hit t m x.1 = true
      · rw [if_pos e2, if_pos e2]; rfl
      · rw [if_neg e2, if_neg e2]
end Go.Proofs.YtjgbakieogadfaaGreatDoor

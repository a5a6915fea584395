import Derived.Test.YtjgbakieogadfaaGreatDoorPlainB
namespace Go.Proofs.YtjgbakieogadfaaGreatDoor
open Go L Go.Sort
def allowS (s : S_grant_Store) (c : S_api_Consent) : Int × S_grant_Store :=
  if (!nameS c.Owner.Tenant || !nameS c.Owner.User) = true then (8, s) else if ¬ (lookS s c.Owner.Tenant c.Client).2 = 0 then ((lookS s c.Owner.Tenant c.Client).2, s)
  else if ¬ c.Scopes &&& ~~~(lookS s c.Owner.Tenant c.Client).1.Scopes = 0 then (14, s) else if (mget s.consents ⟨c.Owner, c.Client⟩).isSome = false ∧ 4 ≤ (col c.Owner s.consents).length then (25, s)
  else (0, ⟨s.clients, mset s.consents ⟨c.Owner, c.Client⟩ c.Scopes⟩)
theorem sortCol_len (o : S_api_Owner) (m : List (S_grant_use × UInt8)) : (sortS (fun (a b : S_api_Consent) => cmpS a.Client b.Client) (col o m)).length = (col o m).length := (sortS_sorted _ (swo_str fun a : S_api_Consent => a.Client) _).1.length_eq
theorem Allow_eq (K : Nat) (s : S_grant_Store) (c : S_api_Consent) (hn : NDK s.consents) (hl : s.consents.length ≤ 1000) : grant_Store_Allow K s c = some (allowS s c) := by
  unfold grant_Store_Allow allowS
  simp only [IsName_eq, Option.bind_some, look_eq, Consents_eq K ⟨s.clients, s.consents⟩ c.Owner hn hl, sortCol_len]
  have e0 : (⟨s.clients, s.consents⟩ : S_grant_Store) = s := rfl
  simp only [e0]
  generalize lookS s c.Owner.Tenant c.Client = L
  by_cases h1 : nameS c.Owner.Tenant = true
  · by_cases h2 : nameS c.Owner.User = true
    · by_cases h3 : L.2 = 0
      · by_cases h4 : c.Scopes &&& ~~~L.1.Scopes = 0
        · cases h5 : (mget s.consents (⟨c.Owner, c.Client⟩ : S_grant_use)).isSome with
          | true => simp [h1, h2, h3, h4]
          | false =>
            by_cases h6 : 4 ≤ (col c.Owner s.consents).length
            · have h7 : (4 : Int) ≤ ((col c.Owner s.consents).length : Int) := by omega
              simp [h1, h2, h3, h4, h6, h7]
            · have h7 : ¬ (4 : Int) ≤ ((col c.Owner s.consents).length : Int) := by omega
              simp [h1, h2, h3, h4, h6, h7]
        · simp [h1, h2, h3, h4]
      · simp [h1, h2, h3]
    · rw [Bool.not_eq_true] at h2; simp [h1, h2]
  · rw [Bool.not_eq_true] at h1
    simp [h1]
def mayS (s : S_grant_Store) (o : S_api_Owner) (c r : List UInt8) (sc : UInt8) : Int :=
  if ¬ (lookS s o.Tenant c).2 = 0 then (lookS s o.Tenant c).2 else if ¬ (conS s o c).2 = 0 then (conS s o c).2 else if ¬ (lookS s o.Tenant c).1.Redirect = r then 10 else if ¬ sc &&& ~~~(conS s o c).1.Scopes = 0 then 14 else 0
theorem May_eq (K : Nat) (s : S_grant_Store) (o : S_api_Owner) (c r : List UInt8) (sc : UInt8) : grant_Store_May K s o c r sc = some (mayS s o c r sc) := by
  unfold grant_Store_May mayS
  simp only [look_eq, Consent_eq, Option.bind_some, Bool.not_eq_true', decide_eq_false_iff_not]
  split
  · rfl
  · split
    · rfl
    · split
      · rfl
      · split <;> rfl
theorem nd_perm {κ β : Type} {l m : List (κ × β)} (hp : l.Perm m) (h : NDK m) : NDK l := (hp.map _).nodup_iff.2 h
theorem mset_map {κ β : Type} [DecidableEq κ] {m : List (κ × β)} {a : κ} {v : β} (hn : NDK m) (h : a ∈ m.map (·.1)) : mset m a v = m.map fun p => if p.1 = a then (a, v) else p := by
  induction m with
  | nil => simp at h
  | cons x m ih =>
    unfold NDK at hn; rw [List.map_cons, List.nodup_cons] at hn
    simp only [mset, List.map_cons]
    split
    · rename_i hx
      congr 1
      have : m.map (fun p => if p.1 = a then (a, v) else p) = m.map id := List.map_congr_left fun p hp => by
        rw [if_neg]; rfl
        exact fun e => hn.1 (List.mem_map.2 ⟨p, hp, by rw [e, hx]⟩)
      rw [this, List.map_id]
    · rename_i hx
      congr 1
      refine ih hn.2 ?_
      rcases List.mem_cons.1 h with e | e
      · exact absurd e.symm hx
      · exact e
def hit (t n : List UInt8) (u : S_grant_use) : Bool := decide (u.Owner.Tenant = t) && decide (u.client = n)
def narM (t n : List UInt8) (sc : UInt8) (m : List (S_grant_use × UInt8)) : List (S_grant_use × UInt8) := m.map fun p => if hit t n p.1 = true then (p.1, p.2 &&& sc) else p
theorem nar_fold (K : Nat) (t n : List UInt8) (sc : UInt8) : ∀ (l x : List (S_grant_use × UInt8)), NDK x → NDK l → (∀ p ∈ l, p ∈ x) →
    mfold (grant_Store_Narrow.m1 K t n sc) l x = some (.go (x.map fun p => if p ∈ l ∧ hit t n p.1 = true then (p.1, p.2 &&& sc) else p))
  | [], x, _, _, _ => by simp [mfold]
  | y :: l, x, hx, hl, hm => by
    unfold NDK at hl; rw [List.map_cons, List.nodup_cons] at hl
    have hy := hm y List.mem_cons_self
    have hg := mem_mget hx (a := y.1) (v := y.2) hy
    have hyl : ∀ v, (y.1, v) ∉ l := fun v hv => hl.1 (List.mem_map.2 ⟨_, hv, rfl⟩)
    simp only [mfold, grant_Store_Narrow.m1]
    by_cases hh : hit t n y.1 = true
    · have hh' : ((decide (y.1.Owner.Tenant = t)) && (decide (y.1.client = n))) = true := hh
      rw [if_pos hh']
      have hr : req ((mget x y.1).isSome = true) = some () := by unfold req; rw [if_pos (by rw [hg]; rfl)]
      simp only [hr, Option.bind_some, lrc]
      have he := mset_map (v := y.2 &&& sc) hx (List.mem_map.2 ⟨y, hy, rfl⟩)
      have hnd : NDK (mset x y.1 (y.2 &&& sc)) := mset_nd hx
      rw [nar_fold K t n sc l _ hnd hl.2 (fun p hp => by
        rw [he, List.mem_map]
        exact ⟨p, hm p (List.mem_cons_of_mem _ hp), by rw [if_neg]; exact fun e => hl.1 (List.mem_map.2 ⟨p, hp, e⟩)⟩)]
      rw [he, List.map_map]
      congr 2
      refine List.map_congr_left fun p hp => ?_
      simp only [Function.comp]
      by_cases e : p.1 = y.1
      · have hpy : p = y := by
          have h1 := mem_mget hx (a := p.1) (v := p.2) hp
          rw [e, hg] at h1
          exact Prod.ext e (Option.some.inj h1).symm
        subst hpy
        rw [if_pos rfl, if_neg (fun h => hyl _ h.1), if_pos ⟨List.mem_cons_self, hh⟩]
      · rw [if_neg e]
        have : p ∈ y :: l ↔ p ∈ l := ⟨fun h => (List.mem_cons.1 h).elim (fun h => absurd (by rw [h]) e) id, List.mem_cons_of_mem _⟩
        simp only [this]
    · have hh' : ¬ ((decide (y.1.Owner.Tenant = t)) && (decide (y.1.client = n))) = true := hh
      rw [if_neg hh']
      simp only [Option.bind_some, lrc]
      rw [nar_fold K t n sc l x hx hl.2 fun p hp => hm p (List.mem_cons_of_mem _ hp)]
      congr 2
      refine List.map_congr_left fun p hp => ?_
      by_cases e : p = y
      · subst e; rw [if_neg (fun h => hh h.2), if_neg (fun h => hh h.2)]
      · have : p ∈ y :: l ↔ p ∈ l := ⟨fun h => (List.mem_cons.1 h).elim (fun h => absurd h e) id, List.mem_cons_of_mem _⟩
        simp only [this]
def narS (s : S_grant_Store) (t n : List UInt8) (sc : UInt8) : UInt8 × Int × S_grant_Store := match mget s.clients ⟨t, n⟩ with
  | some c => (c.Scopes &&& sc, 0, ⟨mset s.clients ⟨t, n⟩ ⟨c.Tenant, c.Name, c.Redirect, c.Scopes &&& sc⟩, narM t n sc s.consents⟩)
  | none => (0, 4, s)
theorem Narrow_eq (K : Nat) (s : S_grant_Store) (t n : List UInt8) (sc : UInt8) (hn : NDK s.consents) : grant_Store_Narrow K s t n sc = some (narS s t n sc) := by
  unfold grant_Store_Narrow narS
  simp only [look_eq, Option.bind_some, lookS]
  cases h : mget s.clients ⟨t, n⟩ with
  | none => rfl
  | some c =>
    simp only [decide_true, Bool.not_true, Bool.false_eq_true, if_false]
    refine mrngK_eq fun l hp => ?_
    rw [nar_fold K t n sc l s.consents hn (nd_perm hp hn) fun p hp' => hp.mem_iff.1 hp']
    simp only [Option.bind_some, lrc]
    congr 4
    unfold narM
    refine List.map_congr_left fun p hp' => ?_
    simp only [hp.mem_iff.2 hp', true_and]
theorem del_fold {B : S_grant_use × UInt8 → List (S_grant_use × UInt8) → Option (Lr Unit (List (S_grant_use × UInt8)))} (p : S_grant_use → Bool) (hB : ∀ y x, B y x = some (.go (if p y.1 = true then mdel x y.1 else x))) :
    ∀ (l x : List (S_grant_use × UInt8)), NDK x → NDK l → (∀ q ∈ l, q ∈ x) → mfold B l x = some (.go (x.filter fun q => !(decide (q ∈ l) && p q.1)))
  | [], x, _, _, _ => by
    simp only [mfold, List.not_mem_nil, decide_false, Bool.false_and, Bool.not_false]
    rw [List.filter_eq_self.2 fun _ _ => rfl]
  | y :: l, x, hx, hl, hm => by
    unfold NDK at hl; rw [List.map_cons, List.nodup_cons] at hl
    have hy := hm y List.mem_cons_self
    have hg := mem_mget hx (a := y.1) (v := y.2) hy
    simp only [mfold, hB, Option.bind_some, lrc]
    have uniq : ∀ q ∈ x, q.1 = y.1 → q = y := fun q hq e => by
      have h1 := mem_mget hx (a := q.1) (v := q.2) hq
      rw [e, hg] at h1
      exact Prod.ext e (Option.some.inj h1).symm
    by_cases hh : p y.1 = true
    · rw [if_pos hh, mdel_eq hx]
      rw [del_fold p hB l _ (filter_nd _ hx) hl.2 fun q hq => List.mem_filter.2 ⟨hm q (List.mem_cons_of_mem _ hq), by
        simp only [ne_eq, decide_not, Bool.not_eq_true', decide_eq_false_iff_not]; exact fun e => hl.1 (List.mem_map.2 ⟨q, hq, e⟩)⟩]
      rw [List.filter_filter]
      congr 2
      refine List.filter_congr fun q hq => ?_
      by_cases e : q = y
      · subst e; simp [hh]
      · have h1 : q.1 ≠ y.1 := fun h => e (uniq q hq h)
        simp [h1, e]
    · rw [if_neg hh, del_fold p hB l x hx hl.2 fun q hq => hm q (List.mem_cons_of_mem _ hq)]
      congr 2
      refine List.filter_congr fun q hq => ?_
      by_cases e : q = y
      · subst e; simp [hh]
      · simp [e]
theorem del_all {B : S_grant_use × UInt8 → List (S_grant_use × UInt8) → Option (Lr Unit (List (S_grant_use × UInt8)))} (p : S_grant_use → Bool) (hB : ∀ y x, B y x = some (.go (if p y.1 = true then mdel x y.1 else x)))
    {m : List (S_grant_use × UInt8)} (hn : NDK m) : mrngK B m m (fun q => (lrc q (fun _ => none) (fun z => some z))) = some (m.filter fun q => !p q.1) := by
  refine mrngK_eq fun l hp => ?_
  rw [del_fold p hB l m hn (nd_perm hp hn) fun p hp' => hp.mem_iff.1 hp']
  simp only [Option.bind_some, lrc]
  congr 1
  refine List.filter_congr fun q hq => ?_
  simp [hp.mem_iff.2 hq]
theorem f29_eq (K : Nat) (m : List (S_grant_use × UInt8)) (o : S_api_Owner) (hn : NDK m) : api_Scopes_53_f55 K m o = some (m.filter fun q => !decide (q.1.Owner = o)) := by
  refine del_all (fun u => decide (u.Owner = o)) (fun y x => ?_) hn
  unfold api_Scopes_53_f55.m1 grant_Store_DropUser_1
  simp only [Option.bind_some]
  split <;> rfl
theorem f38_eq (K : Nat) (m : List (S_grant_use × UInt8)) (t n : List UInt8) (hn : NDK m) : api_Scopes_53_f54 K m t n = some (m.filter fun q => !hit t n q.1) := by
  refine del_all (hit t n) (fun y x => ?_) hn
  unfold api_Scopes_53_f54.m1 grant_Store_Drop_1 hit
  simp only [Option.bind_some]
  split <;> rfl
def dropUserS (s : S_grant_Store) (o : S_api_Owner) : Int × S_grant_Store :=
  ((s.consents.length : Int) - ((s.consents.filter fun q => !decide (q.1.Owner = o)).length : Int), ⟨s.clients, s.consents.filter fun q => !decide (q.1.Owner = o)⟩)
theorem DropUser_eq (K : Nat) (s : S_grant_Store) (o : S_api_Owner) (hn : NDK s.consents) (hl : s.consents.length ≤ 1000) : grant_Store_DropUser K s o = some (dropUserS s o) := by
  unfold grant_Store_DropUser dropUserS
  rw [f29_eq K _ _ hn]
  have := List.length_filter_le (fun q : S_grant_use × UInt8 => !decide (q.1.Owner = o)) s.consents
  simp only [Option.bind_some]
  rw [W_id (by omega)]
def withS (s : S_grant_Store) (o : S_api_Owner) (c : List UInt8) : Int × S_grant_Store := match mget s.consents ⟨o, c⟩ with
  | some _ => (0, ⟨s.clients, mdel s.consents ⟨o, c⟩⟩)
  | none => (4, s)
theorem Withdraw_eq (K : Nat) (s : S_grant_Store) (o : S_api_Owner) (c : List UInt8) : grant_Store_Withdraw K s o c = some (withS s o c) := by
  unfold grant_Store_Withdraw withS
  simp only [Consent_eq, Option.bind_some, conS]
  cases mget s.consents ⟨o, c⟩ <;> rfl
def dropS (s : S_grant_Store) (t n : List UInt8) : Int × S_grant_Store := match mget s.clients ⟨t, n⟩ with
  | some _ => (0, ⟨mdel s.clients ⟨t, n⟩, s.consents.filter fun q => !hit t n q.1⟩)
  | none => (4, s)
theorem Drop_eq (K : Nat) (s : S_grant_Store) (t n : List UInt8) (hn : NDK s.consents) : grant_Store_Drop K s t n = some (dropS s t n) := by
  unfold grant_Store_Drop dropS
  simp only [look_eq, Option.bind_some, lookS, f38_eq K _ _ _ hn]
  cases mget s.clients ⟨t, n⟩ <;> rfl
theorem Client_eq (K : Nat) (s : S_grant_Store) (t n : List UInt8) : grant_Store_Client K s t n = some (lookS s t n) := by
  unfold grant_Store_Client
  simp only [look_eq, Option.bind_some]
end Go.Proofs.YtjgbakieogadfaaGreatDoor

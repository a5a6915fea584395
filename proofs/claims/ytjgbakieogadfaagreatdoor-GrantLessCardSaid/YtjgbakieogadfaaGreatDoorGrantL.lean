/-
  Narrowed twice, scopes are what both leave: the law, by plain functions. Plain Lean.
-/
import Derived.Test.YtjgbakieogadfaaGreatDoorGrantR
import Derived.Test.YtjgbakieogadfaaGreatDoorOpen
namespace Go.Proofs.YtjgbakieogadfaaGreatDoor
open Go L Go.Sort
theorem inv0 : Inv 0 ⟨[], []⟩ := ⟨List.nodup_nil, List.nodup_nil, Nat.le_refl _, Nat.le_refl _, fun u x h => by simp [mget] at h⟩
theorem nms0 : NmS ⟨[], []⟩ := ⟨fun k hk => (by cases hk), fun k hk => (by cases hk)⟩
theorem do_nms (K n : Nat) (hn : n ≤ 900) (s : S_grant_Store) (r : S_holdfastref13_Store) (x : S_holdfastlaw13_Deed) (h : Inv n s) (hm : NmS s) {z : Bool × S_grant_Store × S_holdfastref13_Store}
    (hz : holdfastlaw13_do K s r x = some z) : NmS z.2.1 := by
  have l1 : s.clients.length ≤ 1000 := Nat.le_trans h.lc (by omega)
  have l2 : s.consents.length ≤ 1000 := Nat.le_trans h.ls (by omega)
  unfold holdfastlaw13_do at hz
  split at hz
  · rw [Register_eq K ⟨s.clients, s.consents⟩ _ l1, Option.bind_some, Option.bind_eq_some_iff] at hz
    obtain ⟨_, _, hz⟩ := hz; cases hz; exact nms_reg hm _
  · split at hz
    · rw [Narrow_eq K ⟨s.clients, s.consents⟩ _ _ _ h.ns, Option.bind_some, Option.bind_eq_some_iff] at hz
      obtain ⟨_, _, hz⟩ := hz; cases hz; exact nms_nar hm _ _ _
    · split at hz
      · rw [Drop_eq K ⟨s.clients, s.consents⟩ _ _ h.ns, Option.bind_some, Option.bind_eq_some_iff] at hz
        obtain ⟨_, _, hz⟩ := hz; cases hz; exact nms_drop hm h _ _
      · split at hz
        · rw [Allow_eq K ⟨s.clients, s.consents⟩ _ h.ns l2, Option.bind_some, Option.bind_eq_some_iff] at hz
          obtain ⟨_, _, hz⟩ := hz; cases hz; exact nms_allow hm _
        · split at hz
          · rw [Withdraw_eq K ⟨s.clients, s.consents⟩, Option.bind_some, Option.bind_eq_some_iff] at hz
            obtain ⟨_, _, hz⟩ := hz; cases hz; exact nms_with hm h _ _
          · split at hz
            · rw [DropUser_eq K ⟨s.clients, s.consents⟩ _ h.ns l2, Option.bind_some, Option.bind_eq_some_iff] at hz
              obtain ⟨_, _, hz⟩ := hz; cases hz; exact nms_dropUser hm _
            · rw [May_eq, Option.bind_some, Option.bind_eq_some_iff] at hz
              obtain ⟨_, _, hz⟩ := hz; cases hz; exact hm
theorem less_loop (K : Nat) (hK : 1000 < K) (l : List S_holdfastlaw13_Deed) (hl : ∀ x ∈ l, NmD K x) : ∀ (k i : Nat) (x1 : List (S_grant_name × S_api_Client)) (x2 : List (S_grant_use × UInt8)) (x3 : List S_api_Client) (x4 : List S_api_Consent),
    i ≤ 60 → 60 < i + k → Inv i ⟨x1, x2⟩ → NmS ⟨x1, x2⟩ → RB i ⟨x3, x4⟩ → Tot (holdfastlaw13_GrantLess.l1 K k l x1 x2 x3 x4 (i : Int)) fun z => Inv 60 ⟨z.1, z.2⟩ ∧ NmS ⟨z.1, z.2⟩
  | 0, i, _, _, _, _, h1, h2, _, _, _ => by omega
  | k + 1, i, x1, x2, x3, x4, h1, h2, h3, hm, h4 => by
    unfold holdfastlaw13_GrantLess.l1
    refine Tot.i (fun hc => ?_) (fun _ => Tot.s ⟨h3.mono h1, hm⟩)
    simp only [Bool.and_eq_true, decide_eq_true_eq] at hc
    rw [W_succ (by omega)]
    refine Tot.b (Tot.gm (by omega)) fun e he => ?_
    obtain ⟨z, hz, hi⟩ := do_tot K i hK (by omega) _ _ e h3 h4 (hl e he)
    have hm2 := do_nms K i (by omega) _ _ e h3 hm hz
    rw [hz, Option.bind_some]
    exact less_loop K hK l hl k (i + 1) _ _ _ _ (by omega) (by omega) hi.1 hm2 hi.2
theorem mset_mset {κ β : Type} [DecidableEq κ] (a : κ) (v v' : β) : ∀ m : List (κ × β), mset (mset m a v) a v' = mset m a v'
  | [] => by simp [mset]
  | (k, b) :: m => by
    unfold mset
    by_cases h : k = a
    · simp [h, mset]
    · simp [h, mset, mset_mset a v v' m]
theorem nar_nar (t n : List UInt8) (a b : UInt8) (m : List (S_grant_use × UInt8)) : narM t n b (narM t n a m) = narM t n (a &&& b) m := by
  unfold narM
  rw [List.map_map]
  refine List.map_congr_left fun p _ => ?_
  simp only [Function.comp]
  by_cases h : hit t n p.1 = true
  · rw [if_pos h, if_pos h, if_pos h]; simp only [UInt8.and_assoc]
  · rw [if_neg h, if_neg h, if_neg h]
theorem and255_all : ((List.range 256).all fun n => decide (UInt8.ofNat n &&& 255 = UInt8.ofNat n)) = true := by kernel_rfl
theorem and255 (a : UInt8) : a &&& 255 = a := by
  have h := List.all_eq_true.1 and255_all a.toNat (List.mem_range.2 a.toNat_lt)
  simpa using h
theorem rowsS_small {s : S_grant_Store} : (rowsS s).length = s.clients.length + s.consents.length ∧ ∀ x ∈ rowsS s, x.Columns.length ≤ 2 := by
  have p := (sortS_sorted _ (swo_str fun a : S_api_Row => a.Key) (s.clients.map rowC ++ s.consents.map rowU)).1
  refine ⟨p.length_eq.trans (by simp), fun x hx => ?_⟩
  rcases List.mem_append.1 (p.mem_iff.1 hx) with h | h
  · obtain ⟨y, _, rfl⟩ := List.mem_map.1 h; exact Nat.le_refl _
  · obtain ⟨y, _, rfl⟩ := List.mem_map.1 h; exact Nat.le_succ _
theorem same_rowsS (k : Nat) {s : S_grant_Store} (h : Inv 64 s) : holdfastref06_SameRows (k + 1200) (rowsS s) (rowsS s) = some true := by
  obtain ⟨h1, h2⟩ := rowsS_small (s := s)
  have l1 := h.lc; have l2 := h.ls
  exact rows_same _ _ (by omega) (by omega) fun x hx => ⟨by have := h2 x hx; omega, by have := h2 x hx; omega⟩
theorem nar_some {s : S_grant_Store} {t n : List UInt8} {c : S_api_Client} (h : mget s.clients ⟨t, n⟩ = some c) (sc : UInt8) :
    narS s t n sc = (c.Scopes &&& sc, 0, ⟨mset s.clients ⟨t, n⟩ ⟨c.Tenant, c.Name, c.Redirect, c.Scopes &&& sc⟩, narM t n sc s.consents⟩) := by
  unfold narS; rw [h]
theorem law_less (k : Nat) (l : List S_holdfastlaw13_Deed) (x : S_holdfastlaw13_Deed) (more : UInt8) (hl : ∀ y ∈ l, NmD (k + 1200) y) : holdfastlaw13_GrantLess (k + 1200) l x more = some true := by
  unfold holdfastlaw13_GrantLess grant_New holdfastref13_New
  simp only [Option.bind_some, live_eq, Bool.not_true, Bool.false_eq_true, if_false]
  obtain ⟨q, h1, h2, hm⟩ := less_loop (k + 1200) (by omega) l hl (k + 1200) 0 [] [] [] [] (by omega) (by omega) inv0 nms0 ⟨Nat.le_refl _, Nat.le_refl _⟩
  rw [show holdfastlaw13_GrantLess.l1 (k + 1200) (k + 1200) l [] [] [] [] 0 = some q from h1]
  simp only [Option.bind_some]
  generalize hs : (⟨q.1, q.2⟩ : S_grant_Store) = s at h2 hm
  have hF : grant_Store_Fork (k + 1200) s = some s := rfl
  rw [hF]; simp only [Option.bind_some]
  have hR : ∀ s : S_grant_Store, Inv 64 s → NmS s → grant_Store_Rows (k + 1200) ⟨s.clients, s.consents⟩ = some (rowsS s) := fun s h hm => Rows_eq k s h.nc h.ns hm (Nat.le_trans h.lc (by omega)) (Nat.le_trans h.ls (by omega))
  have hN : ∀ (s : S_grant_Store) sc, Inv 64 s → grant_Store_Narrow (k + 1200) ⟨s.clients, s.consents⟩ x.Owner.Tenant x.Client sc = some (narS s x.Owner.Tenant x.Client sc) := fun s sc h => Narrow_eq _ s _ _ _ h.ns
  have i1 := inv_nar h2 x.Owner.Tenant x.Client x.Scopes
  have i2 := inv_nar i1 x.Owner.Tenant x.Client more
  have i3 := inv_nar h2 x.Owner.Tenant x.Client (x.Scopes &&& more)
  have i4 := inv_nar i2 x.Owner.Tenant x.Client 255
  have m3 := nms_nar hm x.Owner.Tenant x.Client (x.Scopes &&& more)
  have m4 := nms_nar (nms_nar (nms_nar hm x.Owner.Tenant x.Client x.Scopes) x.Owner.Tenant x.Client more) x.Owner.Tenant x.Client 255
  rw [Narrow_eq _ s _ _ _ h2.ns, Option.bind_some, hN _ _ (i1.mono (by decide)), Option.bind_some, hN s _ (h2.mono (by decide)), Option.bind_some, hN _ _ (i2.mono (by decide)), Option.bind_some, hR _ (i4.mono (by decide)) m4, hR _ (i3.mono (by decide)) m3, Option.bind_some, Option.bind_some]
  have key : (narS (narS (narS s x.Owner.Tenant x.Client x.Scopes).2.2 x.Owner.Tenant x.Client more).2.2 x.Owner.Tenant x.Client 255).2.2 = (narS s x.Owner.Tenant x.Client (x.Scopes &&& more)).2.2 ∧
      (((((decide ((narS s x.Owner.Tenant x.Client x.Scopes).2.1 = (narS (narS s x.Owner.Tenant x.Client x.Scopes).2.2 x.Owner.Tenant x.Client more).2.1)) && (decide ((narS s x.Owner.Tenant x.Client x.Scopes).2.1 = (narS s x.Owner.Tenant x.Client (x.Scopes &&& more)).2.1)))
        && (decide ((narS s x.Owner.Tenant x.Client x.Scopes).2.1 = (narS (narS (narS s x.Owner.Tenant x.Client x.Scopes).2.2 x.Owner.Tenant x.Client more).2.2 x.Owner.Tenant x.Client 255).2.1)))
        && (decide ((narS (narS s x.Owner.Tenant x.Client x.Scopes).2.2 x.Owner.Tenant x.Client more).1 = (narS s x.Owner.Tenant x.Client (x.Scopes &&& more)).1)))
        && (decide ((narS (narS s x.Owner.Tenant x.Client x.Scopes).2.2 x.Owner.Tenant x.Client more).1 = (narS (narS (narS s x.Owner.Tenant x.Client x.Scopes).2.2 x.Owner.Tenant x.Client more).2.2 x.Owner.Tenant x.Client 255).1))
        && (decide ((narS s x.Owner.Tenant x.Client x.Scopes).1 &&& (narS (narS s x.Owner.Tenant x.Client x.Scopes).2.2 x.Owner.Tenant x.Client more).1 = (narS (narS s x.Owner.Tenant x.Client x.Scopes).2.2 x.Owner.Tenant x.Client more).1))) = true := by
    cases hc : mget s.clients ⟨x.Owner.Tenant, x.Client⟩ with
    | none =>
      have e : ∀ sc, narS s x.Owner.Tenant x.Client sc = (0, 4, s) := fun sc => by unfold narS; rw [hc]
      simp only [e]; exact ⟨trivial, by decide⟩
    | some c =>
      have e1 := nar_some hc x.Scopes
      have hc1 : mget (mset s.clients ⟨x.Owner.Tenant, x.Client⟩ ⟨c.Tenant, c.Name, c.Redirect, c.Scopes &&& x.Scopes⟩) ⟨x.Owner.Tenant, x.Client⟩ = some ⟨c.Tenant, c.Name, c.Redirect, c.Scopes &&& x.Scopes⟩ := by rw [mget_mset, if_pos rfl]
      have e2 := nar_some (s := ⟨mset s.clients ⟨x.Owner.Tenant, x.Client⟩ ⟨c.Tenant, c.Name, c.Redirect, c.Scopes &&& x.Scopes⟩, narM x.Owner.Tenant x.Client x.Scopes s.consents⟩) hc1 more
      simp only [mset_mset, nar_nar, UInt8.and_assoc] at e2
      have hc2 : mget (mset s.clients ⟨x.Owner.Tenant, x.Client⟩ ⟨c.Tenant, c.Name, c.Redirect, c.Scopes &&& (x.Scopes &&& more)⟩) ⟨x.Owner.Tenant, x.Client⟩ = some ⟨c.Tenant, c.Name, c.Redirect, c.Scopes &&& (x.Scopes &&& more)⟩ := by rw [mget_mset, if_pos rfl]
      have e3 := nar_some (s := ⟨mset s.clients ⟨x.Owner.Tenant, x.Client⟩ ⟨c.Tenant, c.Name, c.Redirect, c.Scopes &&& (x.Scopes &&& more)⟩, narM x.Owner.Tenant x.Client (x.Scopes &&& more) s.consents⟩) hc2 255
      simp only [mset_mset, nar_nar, and255] at e3
      have e4 := nar_some hc (x.Scopes &&& more)
      rw [e1, e2, e3, e4]
      refine ⟨rfl, ?_⟩
      have e5 : c.Scopes &&& x.Scopes &&& (c.Scopes &&& (x.Scopes &&& more)) = c.Scopes &&& (x.Scopes &&& more) := by
        rw [← UInt8.and_assoc c.Scopes x.Scopes more, ← UInt8.and_assoc, UInt8.and_self]
      simp [e5]
  rw [if_pos key.2, key.1, same_rowsS k (i3.mono (by decide))]; rfl
theorem nmd_of {K : Nat} (hK : 9223372036854775807 < K) {x : S_holdfastlaw13_Deed} (h : ok27 x) : NmD K x := by
  obtain ⟨_, h2, h3, _⟩ := h
  exact ⟨⟨Nat.lt_of_le_of_lt h2.1 hK, h2.1⟩, ⟨Nat.lt_of_le_of_lt h2.2 hK, h2.2⟩, ⟨Nat.lt_of_le_of_lt h3 hK, h3⟩⟩
theorem row_less (l : List S_holdfastlaw13_Deed) (x : S_holdfastlaw13_Deed) (more : UInt8) (hl : ∀ a ∈ l, ok27 a) (_hx : ok27 x) : ∃ K, holdfastlaw13_GrantLess K l x more = some true :=
  ⟨9223372036854775808 + 1200, law_less _ l x more fun y hy => nmd_of (by decide) (hl y hy)⟩
end Go.Proofs.YtjgbakieogadfaaGreatDoor

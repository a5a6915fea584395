import Derived.Test.YtjgbakieogadfaaDoorPlainD
namespace Go.Proofs.YtjgbakieogadfaaDoor
open Go L Go.Sort
theorem and_not {a b : UInt8} (h : a &&& ~~~b = 0) : a &&& b = a := by
  apply UInt8.toBitVec_inj.1
  apply BitVec.eq_of_getLsbD_eq
  intro i hi
  have h1 := congrArg (fun x : UInt8 => x.toBitVec.getLsbD i) h
  simp only [UInt8.toBitVec_and, UInt8.toBitVec_not, BitVec.getLsbD_and, BitVec.getLsbD_not] at h1 ⊢
  have h8 : i < 8 := hi
  simp only [h8, decide_true, Bool.true_and] at h1
  have h0 : (0 : UInt8).toBitVec.getLsbD i = false := by simp
  rw [h0] at h1
  revert h1
  cases a.toBitVec.getLsbD i <;> cases b.toBitVec.getLsbD i <;> simp
theorem and_trans8 {a b c : UInt8} (h1 : a &&& b = a) (h2 : b &&& c = b) : a &&& c = a := by
  rw [← h1, UInt8.and_assoc, h2]
theorem and_nar {a c s : UInt8} (h : a &&& c = a) : (a &&& s) &&& (c &&& s) = a &&& s := by
  apply UInt8.toBitVec_inj.1
  apply BitVec.eq_of_getLsbD_eq
  intro i hi
  have h1 := congrArg (fun x : UInt8 => x.toBitVec.getLsbD i) h
  simp only [UInt8.toBitVec_and, BitVec.getLsbD_and] at h1 ⊢
  revert h1
  cases a.toBitVec.getLsbD i <;> cases c.toBitVec.getLsbD i <;> cases s.toBitVec.getLsbD i <;> simp
structure Inv (n : Nat) (s : S_grant_Store) : Prop where
  nc : NDK s.clients
  ns : NDK s.consents
  lc : s.clients.length ≤ n
  ls : s.consents.length ≤ n
  nar : ∀ u x, mget s.consents u = some x → ∃ c, mget s.clients ⟨u.Owner.Tenant, u.client⟩ = some c ∧ x &&& c.Scopes = x
theorem Inv.mono {n m : Nat} {s : S_grant_Store} (h : Inv n s) (hm : n ≤ m) : Inv m s := ⟨h.nc, h.ns, Nat.le_trans h.lc hm, Nat.le_trans h.ls hm, h.nar⟩
theorem inv_reg {n : Nat} {s : S_grant_Store} (h : Inv n s) (c : S_api_Client) : Inv (n + 1) (regS s c).2 := by
  have hm := h.mono (Nat.le_succ n)
  unfold regS
  split
  · exact hm
  · split
    · exact hm
    · split
      · exact hm
      · rename_i hk
        split
        · exact hm
        · refine ⟨mset_nd h.nc, h.ns, Nat.le_trans (mset_len _ _ _) (Nat.succ_le_succ h.lc), hm.ls, fun u x hu => ?_⟩
          obtain ⟨c', h1, h2⟩ := h.nar u x hu
          refine ⟨c', ?_, h2⟩
          rw [mget_mset, if_neg]
          · exact h1
          · intro e; rw [e] at h1; rw [h1] at hk; simp at hk
theorem inv_allow {n : Nat} {s : S_grant_Store} (h : Inv n s) (c : S_api_Consent) : Inv (n + 1) (allowS s c).2 := by
  have hm := h.mono (Nat.le_succ n)
  unfold allowS
  split
  · exact hm
  · split
    · exact hm
    · rename_i h1
      split
      · exact hm
      · rename_i h2
        split
        · exact hm
        · refine ⟨h.nc, mset_nd h.ns, hm.lc, Nat.le_trans (mset_len _ _ _) (Nat.succ_le_succ h.ls), fun u x hu => ?_⟩
          rw [mget_mset] at hu
          split at hu
          · rename_i e
            subst e
            cases hu
            unfold lookS at h1 h2
            cases hg : mget s.clients ⟨c.Owner.Tenant, c.Client⟩ with
            | none => rw [hg] at h1; simp at h1
            | some c' =>
              rw [hg] at h2
              refine ⟨c', rfl, and_not ?_⟩
              simpa using h2
          · exact h.nar u x hu
theorem mget_nar (t n : List UInt8) (sc : UInt8) (m : List (S_grant_use × UInt8)) (u : S_grant_use) : mget (narM t n sc m) u = (mget m u).map fun x => if hit t n u = true then x &&& sc else x := by
  induction m with
  | nil => rfl
  | cons p m ih =>
    unfold narM at *
    simp only [List.map_cons, mget]
    by_cases hp : p.1 = u
    · subst hp
      by_cases hh : hit t n p.1 = true
      · simp [hh]
      · simp [hh]
    · have e : (if hit t n p.1 = true then (p.1, p.2 &&& sc) else p).1 = p.1 := by split <;> rfl
      rw [e, if_neg hp, if_neg hp, ih]
theorem nar_keys (t n : List UInt8) (sc : UInt8) (m : List (S_grant_use × UInt8)) : (narM t n sc m).map (·.1) = m.map (·.1) := by
  unfold narM; rw [List.map_map]
  refine List.map_congr_left fun p _ => ?_
  simp only [Function.comp]; split <;> rfl
theorem hit_key {t n : List UInt8} {u : S_grant_use} : hit t n u = true ↔ (⟨u.Owner.Tenant, u.client⟩ : S_grant_name) = ⟨t, n⟩ := by
  unfold hit; simp
theorem inv_nar {n : Nat} {s : S_grant_Store} (h : Inv n s) (t m : List UInt8) (sc : UInt8) : Inv (n + 1) (narS s t m sc).2.2 := by
  have hm := h.mono (Nat.le_succ n)
  unfold narS
  cases hg : mget s.clients ⟨t, m⟩ with
  | none => exact hm
  | some c =>
    refine ⟨mset_nd h.nc, ?_, Nat.le_trans (mset_len _ _ _) (Nat.succ_le_succ h.lc), ?_, fun u x hu => ?_⟩
    · show ((narM t m sc s.consents).map (·.1)).Nodup
      rw [nar_keys]; exact h.ns
    · show (narM t m sc s.consents).length ≤ n + 1
      unfold narM; rw [List.length_map]; exact hm.ls
    · simp only [mget_nar] at hu
      cases hx : mget s.consents u with
      | none => rw [hx] at hu; simp at hu
      | some y =>
        rw [hx] at hu
        simp only [Option.map_some, Option.some.injEq] at hu
        obtain ⟨c', h1, h2⟩ := h.nar u y hx
        by_cases hh : hit t m u = true
        · rw [if_pos hh] at hu
          rw [hit_key.1 hh] at h1 ⊢
          rw [hg] at h1; cases h1
          refine ⟨_, by rw [mget_mset, if_pos rfl], ?_⟩
          rw [← hu]; exact and_nar h2
        · rw [if_neg hh] at hu
          refine ⟨c', by rw [mget_mset, if_neg (fun e => hh (hit_key.2 e))]; exact h1, by rw [← hu]; exact h2⟩
theorem mget_mdel {κ β : Type} [DecidableEq κ] {m : List (κ × β)} (hn : NDK m) (a b : κ) : mget (mdel m a) b = if b = a then none else mget m b := by
  rw [mdel_eq hn, mget_filter (fun k => decide (k ≠ a))]
  by_cases h : b = a <;> simp [h]
theorem mdel_len {κ β : Type} [DecidableEq κ] {m : List (κ × β)} (hn : NDK m) (a : κ) : (mdel m a).length ≤ m.length := by rw [mdel_eq hn]; exact List.length_filter_le _ _
theorem mdel_nd {κ β : Type} [DecidableEq κ] {m : List (κ × β)} (hn : NDK m) (a : κ) : NDK (mdel m a) := by rw [mdel_eq hn]; exact filter_nd _ hn
theorem mget_hits (t n : List UInt8) (m : List (S_grant_use × UInt8)) (u : S_grant_use) : mget (m.filter fun q => !hit t n q.1) u = if hit t n u = true then none else mget m u := by
  rw [mget_filter (fun k => !hit t n k)]
  cases hit t n u <;> rfl
theorem inv_drop {n : Nat} {s : S_grant_Store} (h : Inv n s) (t m : List UInt8) : Inv (n + 1) (dropS s t m).2 := by
  have hm := h.mono (Nat.le_succ n)
  unfold dropS
  cases hg : mget s.clients ⟨t, m⟩ with
  | none => exact hm
  | some c =>
    refine ⟨mdel_nd h.nc _, filter_nd _ h.ns, Nat.le_trans (mdel_len h.nc _) hm.lc, Nat.le_trans (List.length_filter_le _ _) hm.ls, fun u x hu => ?_⟩
    simp only [mget_hits] at hu
    by_cases hh : hit t m u = true
    · rw [if_pos hh] at hu; cases hu
    · rw [if_neg hh] at hu
      obtain ⟨c', h1, h2⟩ := h.nar u x hu
      exact ⟨c', by rw [mget_mdel h.nc, if_neg (fun e => hh (hit_key.2 e))]; exact h1, h2⟩
theorem inv_with {n : Nat} {s : S_grant_Store} (h : Inv n s) (o : S_api_Owner) (c : List UInt8) : Inv (n + 1) (withS s o c).2 := by
  have hm := h.mono (Nat.le_succ n)
  unfold withS
  cases hg : mget s.consents ⟨o, c⟩ with
  | none => exact hm
  | some x =>
    refine ⟨h.nc, mdel_nd h.ns _, hm.lc, Nat.le_trans (mdel_len h.ns _) hm.ls, fun u x hu => ?_⟩
    simp only [mget_mdel h.ns] at hu
    split at hu
    · cases hu
    · exact h.nar u x hu
theorem inv_dropUser {n : Nat} {s : S_grant_Store} (h : Inv n s) (o : S_api_Owner) : Inv (n + 1) (dropUserS s o).2 := by
  have hm := h.mono (Nat.le_succ n)
  refine ⟨h.nc, filter_nd _ h.ns, hm.lc, Nat.le_trans (List.length_filter_le _ _) hm.ls, fun u x hu => ?_⟩
  have hu' : mget (s.consents.filter fun q => !decide (q.1.Owner = o)) u = some x := hu
  rw [mget_filter (fun k : S_grant_use => !decide (k.Owner = o))] at hu'
  split at hu'
  · exact h.nar u x hu'
  · cases hu'
def NmD (K : Nat) (x : S_holdfastlaw13_Deed) : Prop := Nm K x.Owner.Tenant ∧ Nm K x.Owner.User ∧ Nm K x.Client
theorem do_tot (K n : Nat) (hK : 1000 < K) (hn : n ≤ 900) (s : S_grant_Store) (r : S_holdfastref13_Store) (x : S_holdfastlaw13_Deed) (h : Inv n s) (hr : RB n r) (hx : NmD K x) :
    Tot (holdfastlaw13_do K s r x) fun z => Inv (n + 1) z.2.1 ∧ RB (n + 1) z.2.2 := by
  have l1 : s.clients.length ≤ 1000 := Nat.le_trans h.lc (by omega)
  have l2 : s.consents.length ≤ 1000 := Nat.le_trans h.ls (by omega)
  unfold holdfastlaw13_do
  refine Tot.i (fun _ => ?_) fun _ => Tot.i (fun _ => ?_) fun _ => Tot.i (fun _ => ?_) fun _ => Tot.i (fun _ => ?_) fun _ => Tot.i (fun _ => ?_) fun _ => Tot.i (fun _ => ?_) fun _ => ?_
  · rw [Register_eq K ⟨s.clients, s.consents⟩ _ l1]
    refine Tot.b (Tot.s (P := fun z => Inv (n + 1) z.2) (inv_reg h _)) fun z hz => ?_
    exact Tot.b (rReg K n hK hn ⟨r.c_, r.a⟩ _ hr hx.1 hx.2.2) fun q hq => Tot.s ⟨hz, hq⟩
  · rw [Narrow_eq K ⟨s.clients, s.consents⟩ _ _ _ h.ns]
    refine Tot.b (Tot.s (P := fun z => Inv (n + 1) z.2.2) (inv_nar h _ _ _)) fun z hz => ?_
    exact Tot.b (rNar K n hK hn ⟨r.c_, r.a⟩ _ _ _ hr) fun q hq => Tot.s ⟨hz, hq⟩
  · rw [Drop_eq K ⟨s.clients, s.consents⟩ _ _ h.ns]
    refine Tot.b (Tot.s (P := fun z => Inv (n + 1) z.2) (inv_drop h _ _)) fun z hz => ?_
    exact Tot.b (rDrop K n hK hn ⟨r.c_, r.a⟩ _ _ hr) fun q hq => Tot.s ⟨hz, hq⟩
  · rw [Allow_eq K ⟨s.clients, s.consents⟩ _ h.ns l2]
    refine Tot.b (Tot.s (P := fun z => Inv (n + 1) z.2) (inv_allow h _)) fun z hz => ?_
    exact Tot.b (rAllow K n hK hn ⟨r.c_, r.a⟩ _ hr hx.1 hx.2.1) fun q hq => Tot.s ⟨hz, hq⟩
  · rw [Withdraw_eq K ⟨s.clients, s.consents⟩]
    refine Tot.b (Tot.s (P := fun z => Inv (n + 1) z.2) (inv_with h _ _)) fun z hz => ?_
    exact Tot.b (rWith K n hK hn ⟨r.c_, r.a⟩ _ _ hr) fun q hq => Tot.s ⟨hz, hq⟩
  · rw [DropUser_eq K ⟨s.clients, s.consents⟩ _ h.ns l2]
    refine Tot.b (Tot.s (P := fun z => Inv (n + 1) z.2) (inv_dropUser h _)) fun z hz => ?_
    exact Tot.b (rDropUser K n hK hn ⟨r.c_, r.a⟩ _ hr) fun q hq => Tot.s ⟨hz, hq⟩
  · rw [May_eq]
    refine Tot.b (Tot.s (P := fun _ => True) trivial) fun z hz => ?_
    exact Tot.b (rMay K n hK hn ⟨r.c_, r.a⟩ _ _ _ _ hr) fun q hq => Tot.s ⟨h.mono (Nat.le_succ n), hr.mono (Nat.le_succ n)⟩
theorem Tot.gm {α : Type} {xs : List α} {i : Nat} (h : i < xs.length) : Tot (gt xs (i : Int)) fun v => v ∈ xs := ⟨xs[i], by unfold gt; rw [if_pos (by omega)]; simp [h], List.getElem_mem _⟩
theorem nar_loop (K : Nat) (hK : 1000 < K) (l : List S_holdfastlaw13_Deed) (hl : ∀ x ∈ l, NmD K x) : ∀ (k i : Nat) (x1 : List (S_grant_name × S_api_Client)) (x2 : List (S_grant_use × UInt8)) (x3 : List S_api_Client) (x4 : List S_api_Consent),
    i ≤ 80 → 80 < i + k → Inv i ⟨x1, x2⟩ → RB i ⟨x3, x4⟩ → Tot (holdfastlaw13_GrantNarrow.l1 K k l x1 x2 x3 x4 (i : Int)) fun z => Inv 80 ⟨z.1, z.2⟩
  | 0, i, _, _, _, _, h1, h2, _, _ => by omega
  | k + 1, i, x1, x2, x3, x4, h1, h2, h3, h4 => by
    unfold holdfastlaw13_GrantNarrow.l1
    refine Tot.i (fun hc => ?_) (fun _ => Tot.s (h3.mono h1))
    simp only [Bool.and_eq_true, decide_eq_true_eq] at hc
    rw [W_succ (by omega)]
    refine Tot.b (Tot.gm (by omega)) fun e he => ?_
    refine Tot.b (do_tot K i hK (by omega) _ _ e h3 h4 (hl e he)) fun z hz => ?_
    exact nar_loop K hK l hl k (i + 1) _ _ _ _ (by omega) (by omega) hz.1 hz.2
theorem drp_loop (K : Nat) (hK : 1000 < K) (l : List S_holdfastlaw13_Deed) (hl : ∀ x ∈ l, NmD K x) : ∀ (k i : Nat) (x1 : List (S_grant_name × S_api_Client)) (x2 : List (S_grant_use × UInt8)) (x3 : List S_api_Client) (x4 : List S_api_Consent),
    i ≤ 60 → 60 < i + k → Inv i ⟨x1, x2⟩ → RB i ⟨x3, x4⟩ → Tot (holdfastlaw13_GrantDrops.l1 K k l x1 x2 x3 x4 (i : Int)) fun z => Inv 60 ⟨z.1, z.2⟩
  | 0, i, _, _, _, _, h1, h2, _, _ => by omega
  | k + 1, i, x1, x2, x3, x4, h1, h2, h3, h4 => by
    unfold holdfastlaw13_GrantDrops.l1
    refine Tot.i (fun hc => ?_) (fun _ => Tot.s (h3.mono h1))
    simp only [Bool.and_eq_true, decide_eq_true_eq] at hc
    rw [W_succ (by omega)]
    refine Tot.b (Tot.gm (by omega)) fun e he => ?_
    refine Tot.b (do_tot K i hK (by omega) _ _ e h3 h4 (hl e he)) fun z hz => ?_
    exact drp_loop K hK l hl k (i + 1) _ _ _ _ (by omega) (by omega) hz.1 hz.2
end Go.Proofs.YtjgbakieogadfaaDoor

import Derived.Test.YtjgbakieogadfaaGreatDoorPlainA
namespace Go.Proofs.YtjgbakieogadfaaGreatDoor
open Go L Go.Sort
theorem IsName_eq (K : Nat) (s : List UInt8) : codec_IsName K s = some (nameS s) := by
  unfold codec_IsName nameS
  by_cases h : ((!decide (s = ([] : List UInt8))) && (decide ((s.length : Int) ≤ (9 : Int)))) = true
  · rw [if_pos h]
    simp only [Bool.and_eq_true, Bool.not_eq_true', decide_eq_false_iff_not, decide_eq_true_eq] at h
    have h9 : s.length ≤ 9 := by omega
    unfold strings_Trim
    rw [if_pos ⟨by decide, by omega, by decide⟩]
    simp only [Option.bind_some, h.1, decide_false, Bool.not_false, h9, decide_true, Bool.true_and]
    congr 1
    rw [Bool.eq_iff_iff, decide_eq_true_eq]
    unfold Go.Lib.trimS Go.Lib.trimLeftS
    rw [dw_nil]
    unfold Go.Lib.trimRightS
    rw [List.all_reverse]
    generalize ([97, 98, 99, 100, 101, 102, 103, 104, 105, 106, 107, 108, 109, 110, 111, 112, 113, 114, 115, 116, 117, 118, 119, 120, 121, 122, 48, 49, 50, 51, 52, 53, 54, 55, 56, 57, 45] : List UInt8) = cs
    constructor
    · intro ha
      have hd : (s.reverse.dropWhile (cs.contains ·)).all (cs.contains ·) = true := ha
      have : s.reverse.all (cs.contains ·) = true := by
        have h2 := List.takeWhile_append_dropWhile (p := (cs.contains ·)) (l := s.reverse)
        rw [← h2, List.all_append, hd, Bool.and_true]
        exact List.all_takeWhile
      rwa [List.all_reverse] at this
    · intro ha
      have : s.reverse.dropWhile (cs.contains ·) = [] := (dw_nil _).2 (by rw [List.all_reverse]; exact ha)
      rw [this]; rfl
  · rw [if_neg h]
    simp only [Option.bind_some]
    congr 1
    symm
    simp only [Bool.and_eq_true, Bool.not_eq_true', decide_eq_false_iff_not, decide_eq_true_eq, not_and] at h
    by_cases h1 : s = []
    · simp [h1]
    · have := h h1
      have h9 : ¬ s.length ≤ 9 := by omega
      simp [h9]
/-! rooms -/
def cnt (m : List (S_grant_name × S_api_Client)) (t : List UInt8) : Nat := (m.filter fun x => decide (x.1.tenant = t)).length
def dd : List (List UInt8) → List (List UInt8)
  | [] => []
  | x :: l => if x ∈ dd l then dd l else x :: dd l
theorem mem_dd (l : List (List UInt8)) (t : List UInt8) : t ∈ dd l ↔ t ∈ l := by
  induction l with
  | nil => simp [dd]
  | cons x l ih =>
    unfold dd; split
    · rename_i h; rw [ih, List.mem_cons]
      exact ⟨.inr, fun h2 => h2.elim (fun e => e ▸ ih.1 (by rw [e]; exact h)  ) id⟩
    · rw [List.mem_cons, List.mem_cons, ih]
theorem nd_dd (l : List (List UInt8)) : (dd l).Nodup := by
  induction l with
  | nil => exact List.nodup_nil
  | cons x l ih => unfold dd; split; exact ih; exact List.nodup_cons.2 ⟨‹_›, ih⟩
def fullS (m : List (S_grant_name × S_api_Client)) (t : List UInt8) : Bool :=
  decide (4 ≤ cnt m t) || (decide (cnt m t = 0) && decide (4 ≤ (dd (m.map (·.1.tenant))).length))
theorem W_id {x : Int} (h : -9223372036854775808 ≤ x ∧ x ≤ 9223372036854775807) : W x = x := by
  unfold W; simp [IntKind.wrap, IntKind.bits, IntKind.signed]; omega
theorem full_fold (K : Nat) : ∀ (l : List (S_grant_name × S_api_Client)) (o : List (List UInt8 × Int)) (N : Nat), NDK o → (∀ t, 0 ≤ (mget o t).getD 0 ∧ (mget o t).getD 0 ≤ N) → N + l.length ≤ 4611686018427387904 →
    ∃ r, mfold (grant_Store_full.m1 K) l o = some (.go r) ∧ NDK r ∧ (∀ t, (mget r t).getD 0 = (mget o t).getD 0 + cnt l t) ∧ ∀ t, t ∈ r.map (·.1) ↔ t ∈ o.map (·.1) ∨ t ∈ l.map (·.1.tenant)
  | [], o, N, h1, h2, h3 => ⟨o, rfl, h1, fun t => by simp [cnt], fun t => by simp⟩
  | x :: l, o, N, h1, h2, h3 => by
    have hx := h2 x.1.tenant
    have hW : W (((mget o x.1.tenant).getD (0 : Int)) + (1 : Int)) = (mget o x.1.tenant).getD 0 + 1 := W_id (by simp at h3; omega)
    obtain ⟨r, e1, e2, e3, e4⟩ := full_fold K l (mset o x.1.tenant ((mget o x.1.tenant).getD 0 + 1)) (N + 1) (mset_nd h1) (fun t => by
      rw [mget_mset]; split
      · simp only [Option.getD_some]; omega
      · have := h2 t; omega) (by simp at h3; omega)
    refine ⟨r, ?_, e2, fun t => ?_, fun t => ?_⟩
    · simp only [mfold, grant_Store_full.m1, Option.bind_some, lrc, hW]; exact e1
    · rw [e3, mget_mset]
      unfold cnt
      by_cases ht : t = x.1.tenant
      · subst ht
        rw [if_pos rfl, List.filter_cons_of_pos (by simp)]; simp only [Option.getD_some, List.length_cons]; omega
      · rw [if_neg ht, List.filter_cons_of_neg (by simpa using fun e => ht e.symm)]
    · rw [e4, mset_keys]
      split
      · rename_i hm
        simp only [List.map_cons, List.mem_cons]
        exact ⟨fun h => h.elim .inl (fun h => .inr (.inr h)), fun h => h.elim .inl (fun h => h.elim (fun e => .inl (e ▸ hm)) .inr)⟩
      · simp only [List.mem_append, List.map_cons, List.mem_cons, List.not_mem_nil, or_false]
        exact ⟨fun h => h.elim (fun h => h.elim .inl (fun e => .inr (.inl e))) (fun h => .inr (.inr h)), fun h => h.elim (fun h => .inl (.inl h)) (fun h => h.elim (fun e => .inl (.inr e)) .inr)⟩
theorem cnt_perm {l m : List (S_grant_name × S_api_Client)} (h : l.Perm m) (t : List UInt8) : cnt l t = cnt m t := (h.filter _).length_eq
theorem full_eq (K : Nat) (s : S_grant_Store) (t : List UInt8) (hl : s.clients.length ≤ 1000) : grant_Store_full K s t = some (fullS s.clients t) := by
  unfold grant_Store_full
  refine mrngK_eq fun l hp => ?_
  obtain ⟨r, e1, e2, e3, e4⟩ := full_fold K l [] 0 List.nodup_nil (fun t => by simp [mget]) (by rw [hp.length_eq]; omega)
  rw [e1]
  simp only [Option.bind_some, lrc, e3 t, mget, Option.getD_none, Int.zero_add, cnt_perm hp]
  have hlen : r.length = (dd (s.clients.map (·.1.tenant))).length := by
    have h0 : (r.map (·.1)).length = r.length := List.length_map _
    rw [← h0]
    refine ((List.perm_ext_iff_of_nodup e2 (nd_dd _)).2 fun t => ?_).length_eq
    rw [e4, mem_dd]; simp only [List.map_nil, List.not_mem_nil, false_or]
    exact (hp.map _).mem_iff
  rw [hlen]
  unfold fullS
  congr 2
  · rw [decide_eq_decide]; omega
  · congr 1
    · rw [decide_eq_decide]; omega
    · rw [decide_eq_decide]; omega
/-! the grant store, in plain words -/
def zc : S_api_Client := ⟨[], [], [], 0⟩
def regS (s : S_grant_Store) (c : S_api_Client) : Int × S_grant_Store :=
  if (!nameS c.Tenant || !nameS c.Name) = true then (8, s) else if 24 < c.Redirect.length then (6, s) else if (mget s.clients ⟨c.Tenant, c.Name⟩).isSome = true then (5, s)
  else if fullS s.clients c.Tenant = true then (24, s) else (0, ⟨mset s.clients ⟨c.Tenant, c.Name⟩ c, s.consents⟩)
theorem Register_eq (K : Nat) (s : S_grant_Store) (c : S_api_Client) (hl : s.clients.length ≤ 1000) : grant_Store_Register K s c = some (regS s c) := by
  unfold grant_Store_Register regS
  simp only [IsName_eq, Option.bind_some, full_eq K ⟨s.clients, s.consents⟩ c.Tenant hl]
  by_cases h1 : nameS c.Tenant = true
  · simp only [h1, Bool.not_true, Bool.false_eq_true, if_false, Option.bind_some, Bool.false_or]
    by_cases h2 : (!nameS c.Name) = true
    · rw [if_pos h2, if_pos h2]
    · rw [if_neg h2, if_neg h2]
      by_cases h3 : 24 < c.Redirect.length
      · rw [if_pos h3, if_pos (by simp; omega)]
      · rw [if_neg h3, if_neg (by simp; omega)]
        split
        · rfl
        · split <;> rfl
  · rw [Bool.not_eq_true] at h1
    simp [h1]
def lookS (s : S_grant_Store) (t n : List UInt8) : S_api_Client × Int := match mget s.clients ⟨t, n⟩ with | some c => (c, 0) | none => (zc, 4)
theorem look_eq (K : Nat) (s : S_grant_Store) (t n : List UInt8) : grant_Store_look K s t n = some (lookS s t n) := by
  unfold grant_Store_look lookS
  cases mget s.clients ⟨t, n⟩ <;> rfl
def conS (s : S_grant_Store) (o : S_api_Owner) (c : List UInt8) : S_api_Consent × Int := match mget s.consents ⟨o, c⟩ with | some x => (⟨o, c, x⟩, 0) | none => (⟨⟨[], []⟩, [], 0⟩, 4)
theorem Consent_eq (K : Nat) (s : S_grant_Store) (o : S_api_Owner) (c : List UInt8) : grant_Store_Consent K s o c = some (conS s o c) := by
  unfold grant_Store_Consent conS
  cases mget s.consents ⟨o, c⟩ <;> rfl
def col (o : S_api_Owner) (m : List (S_grant_use × UInt8)) : List S_api_Consent := m.filterMap fun x => if x.1.Owner = o then some ⟨o, x.1.client, x.2⟩ else none
theorem col_fold (K : Nat) (o : S_api_Owner) : ∀ (l : List (S_grant_use × UInt8)) (out : List S_api_Consent), out.length + l.length ≤ 2513169434916 → mfold (grant_Store_Consents.m1 K o) l out = some (.go (out ++ col o l))
  | [], out, _ => by simp [mfold, col]
  | x :: l, out, h => by
    simp only [List.length_cons] at h
    simp only [mfold, grant_Store_Consents.m1]
    by_cases hx : x.1.Owner = o
    · rw [if_pos (by simpa using hx)]
      have : app 2513169434916 out [(⟨o, x.1.client, x.2⟩ : S_api_Consent)] = some (out ++ [⟨o, x.1.client, x.2⟩]) := by unfold app; rw [if_pos (by simp; omega)]
      simp only [Option.bind_some, this, lrc]
      rw [col_fold K o l _ (by simp; omega)]
      simp [col, hx]
    · rw [if_neg (by simpa using hx)]
      simp only [Option.bind_some, lrc]
      rw [col_fold K o l _ (by omega)]
      simp [col, hx]
theorem col_len (o : S_api_Owner) (m : List (S_grant_use × UInt8)) : (col o m).length ≤ m.length := List.length_filterMap_le _ _
theorem Consents_eq (K : Nat) (s : S_grant_Store) (o : S_api_Owner) (hn : NDK s.consents) (hl : s.consents.length ≤ 1000) :
    grant_Store_Consents K s o = some (sortS (fun (a b : S_api_Consent) => cmpS a.Client b.Client) (col o s.consents)) := by
  unfold grant_Store_Consents
  refine mrngK_eq fun l hp => ?_
  have hll := hp.length_eq
  rw [col_fold K o l [] (by simp; omega)]
  simp only [Option.bind_some, lrc, List.nil_append]
  unfold api_Consent_58_f59
  rw [if_pos (Nat.lt_of_le_of_lt (col_len o l) (by omega))]
  simp only [Option.bind_some]
  congr 1
  refine sortS_eq _ (swo_str fun a : S_api_Consent => a.Client) (hp.filterMap _) fun a b ha hb h1 h2 => ?_
  unfold ltOf at h1 h2; rw [cmpS_dec] at h1 h2
  have hc : a.Client = b.Client := ltS_tri _ _ h2 h1
  obtain ⟨x, hx, hxe⟩ := List.mem_filterMap.1 ha
  obtain ⟨y, hy, hye⟩ := List.mem_filterMap.1 hb
  split at hxe
  · split at hye
    · rename_i ho1 ho2
      cases hxe; cases hye
      simp only at hc
      have hk : x.1 = y.1 := by
        obtain ⟨⟨xo, xc⟩, xv⟩ := x; obtain ⟨⟨yo, yc⟩, yv⟩ := y
        simp only at ho1 ho2 hc; subst hc; subst ho1; subst ho2; rfl
      have h3 := mem_mget hn (hp.mem_iff.1 hx)
      have h4 := mem_mget hn (hp.mem_iff.1 hy)
      rw [hk] at h3; rw [h3] at h4
      rw [hc, Option.some.inj h4]
    · cases hye
  · cases hxe
end Go.Proofs.YtjgbakieogadfaaGreatDoor

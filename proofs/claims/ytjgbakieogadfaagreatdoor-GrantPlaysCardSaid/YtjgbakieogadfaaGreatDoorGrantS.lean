/-
  Joined by strip.py from plain texts of another seat.
-/
import Derived.Test.YtjgbakieogadfaaGreatDoorPure
import Derived.Test.YtjgbakieogadfaaGreatDoorLib25
namespace Go.Proofs.YtjgbakieogadfaaGreatDoor
open Go L Go.Sort
/-! maps as lists of pairs -/
section
variable {κ β : Type} [DecidableEq κ]
def NDK (m : List (κ × β)) : Prop := (m.map (·.1)).Nodup
theorem mget_none {m : List (κ × β)} {a : κ} : mget m a = none ↔ a ∉ m.map (·.1) := by
  induction m with
  | nil => simp [mget]
  | cons x m ih =>
    simp only [mget, List.map_cons, List.mem_cons, not_or]
    split
    · rename_i h; subst h; simp
    · rename_i h; rw [ih]; exact ⟨fun k => ⟨fun e => h e.symm, k⟩, fun k => k.2⟩
theorem mget_mem {m : List (κ × β)} {a : κ} {v : β} (h : mget m a = some v) : (a, v) ∈ m := by
  induction m with
  | nil => simp [mget] at h
  | cons x m ih =>
    simp only [mget] at h
    split at h
    · rename_i hx; cases h; subst hx; exact List.mem_cons_self
    · exact List.mem_cons_of_mem _ (ih h)
theorem mem_mget {m : List (κ × β)} {a : κ} {v : β} (hn : NDK m) (h : (a, v) ∈ m) : mget m a = some v := by
  induction m with
  | nil => cases h
  | cons x m ih =>
    unfold NDK at hn; rw [List.map_cons, List.nodup_cons] at hn
    simp only [mget]
    rcases List.mem_cons.1 h with rfl | h
    · rw [if_pos rfl]
    · rw [if_neg (fun e => hn.1 (List.mem_map.2 ⟨_, h, e.symm⟩))]; exact ih hn.2 h
theorem mget_mset (m : List (κ × β)) (a : κ) (v : β) (b : κ) : mget (mset m a v) b = if b = a then some v else mget m b := by
  induction m with
  | nil => simp only [mset, mget]; split <;> split <;> simp_all
  | cons x m ih =>
    simp only [mset]
    split
    · rename_i h
      subst h
      simp only [mget]; by_cases hb : x.1 = b
      · subst hb; simp
      · rw [if_neg hb, if_neg (fun e => hb e.symm), if_neg hb]
    · rename_i h
      simp only [mget]
      by_cases hb : x.1 = b
      · rw [if_pos hb, if_pos hb, if_neg (fun e => h (hb.trans e))]
      · rw [if_neg hb, if_neg hb, ih]
theorem mset_keys (m : List (κ × β)) (a : κ) (v : β) : (mset m a v).map (·.1) = if a ∈ m.map (·.1) then m.map (·.1) else m.map (·.1) ++ [a] := by
  induction m with
  | nil => simp [mset]
  | cons x m ih =>
    simp only [mset]
    split
    · rename_i h; subst h; simp
    · rename_i h
      simp only [List.map_cons, ih, List.mem_cons]
      by_cases ha : a ∈ m.map (·.1)
      · rw [if_pos ha, if_pos (.inr ha)]
      · rw [if_neg ha, if_neg (by rintro (e | e); exact h e.symm; exact ha e)]; rfl
theorem mset_nd {m : List (κ × β)} {a : κ} {v : β} (h : NDK m) : NDK (mset m a v) := by
  unfold NDK at *; rw [mset_keys]; split
  · exact h
  · rename_i ha
    rw [List.nodup_append]
    exact ⟨h, by simp, fun x hx y hy => by simp at hy; subst hy; exact fun e => ha (e ▸ hx)⟩
theorem mset_len (m : List (κ × β)) (a : κ) (v : β) : (mset m a v).length ≤ m.length + 1 := by
  have := congrArg List.length (mset_keys m a v)
  rw [List.length_map] at this; rw [this]; split <;> simp
theorem mdel_eq {m : List (κ × β)} {a : κ} (h : NDK m) : mdel m a = m.filter fun p => decide (p.1 ≠ a) := by
  induction m with
  | nil => rfl
  | cons x m ih =>
    unfold NDK at h; rw [List.map_cons, List.nodup_cons] at h
    simp only [mdel]
    split
    · rename_i hx
      rw [List.filter_cons_of_neg (by simp [hx])]
      exact (List.filter_eq_self.2 fun p hp => by
        simp only [ne_eq, decide_not, Bool.not_eq_true', decide_eq_false_iff_not]
        exact fun e => h.1 (List.mem_map.2 ⟨p, hp, by rw [e, hx]⟩)).symm
    · rename_i hx
      rw [List.filter_cons_of_pos (by simpa using hx), ih h.2]
omit [DecidableEq κ] in
theorem filter_nd {m : List (κ × β)} (p : κ × β → Bool) (h : NDK m) : NDK (m.filter p) :=
  h.sublist (List.filter_sublist.map _)
theorem mget_filter {m : List (κ × β)} (p : κ → Bool) (a : κ) : mget (m.filter fun x => p x.1) a = if p a = true then mget m a else none := by
  induction m with
  | nil => simp [mget]
  | cons x m ih =>
    simp only [List.filter_cons]
    split
    · rename_i hx
      simp only [mget]
      split
      · rename_i e; subst e; rw [if_pos hx]
      · exact ih
    · rename_i hx
      rw [ih]
      simp only [mget]
      split
      · rename_i h
        split
        · rename_i e; subst e; exact absurd h hx
        · rfl
      · rfl
end
/-! going through a map -/
section
variable {γ σ ρ : Type}
theorem mfold_go {B : γ → σ → Option (Lr ρ σ)} (I : List γ → σ → Prop) : ∀ (l : List γ) (s : σ), (∀ x l s, I (x :: l) s → ∃ s', B x s = some (.go s') ∧ I l s') → I l s → ∃ s', mfold B l s = some (.go s') ∧ I [] s'
  | [], s, _, h => ⟨s, rfl, h⟩
  | x :: l, s, hs, h => by
    obtain ⟨s', h1, h2⟩ := hs x l s h
    obtain ⟨s2, h3, h4⟩ := mfold_go I l s' hs h2
    exact ⟨s2, by simp only [mfold, h1, Option.bind_some, lrc]; exact h3, h4⟩
end
/-! sorting -/
theorem sortS_sorted {α : Type} [Inhabited α] (cf : α → α → Int) (hO : SWO (ltOf cf)) (xs : List α) : (sortS cf xs).Perm xs ∧ (sortS cf xs).Pairwise fun a b => ltOf cf b a = false := by
  obtain ⟨⟨h1, _, h2⟩, h3⟩ := sortS_perm cf hO xs
  generalize hd : pdq (ltOf cf) xs.toArray 0 xs.length (Go.Lib.bitLen xs.length) true true = d at *
  have hs : sortS cf xs = d.toList := by rw [← hd]; rfl
  have hsz : d.size = xs.length := by simpa using h1
  rw [hs]
  refine ⟨?_, ?_⟩
  · have e1 : d.extract 0 xs.length = d := by rw [← hsz]; simp
    have e2 : xs.toArray.extract 0 xs.length = xs.toArray := by
      have : xs.length = xs.toArray.size := by simp
      rw [this]; exact Array.extract_size
    rw [e1, e2] at h2; simpa using h2
  · rw [List.pairwise_iff_getElem]
    intro i j hi hj hij
    have hi' : i < d.size := by simpa using hi
    have hj' : j < d.size := by simpa using hj
    have := h3 i j (Nat.zero_le _) hij (by omega)
    rw [getElem!_pos d i hi', getElem!_pos d j hj'] at this
    simpa using this
theorem sortS_eq {α : Type} [Inhabited α] (cf : α → α → Int) (hO : SWO (ltOf cf)) {xs ys : List α} (hp : xs.Perm ys)
    (ha : ∀ a b, a ∈ xs → b ∈ xs → ltOf cf b a = false → ltOf cf a b = false → a = b) : sortS cf xs = sortS cf ys := by
  obtain ⟨p1, s1⟩ := sortS_sorted cf hO xs
  obtain ⟨p2, s2⟩ := sortS_sorted cf hO ys
  exact List.Perm.eq_of_pairwise (fun a b h1 h2 h3 h4 => ha a b (p1.mem_iff.1 h1) (hp.mem_iff.2 (p2.mem_iff.1 h2)) h3 h4) s1 s2 (p1.trans (hp.trans p2.symm))
/-! names -/
theorem dw_nil {p : UInt8 → Bool} : ∀ (l : List UInt8), l.dropWhile p = [] ↔ l.all p = true
  | [] => by simp
  | x :: l => by
    rw [List.dropWhile_cons, List.all_cons]
    split
    · rename_i h; rw [dw_nil l, h, Bool.true_and]
    · rename_i h; simp [h]
def nameS (s : List UInt8) : Bool := !decide (s = []) && decide (s.length ≤ 9) && s.all fun c => (([97, 98, 99, 100, 101, 102, 103, 104, 105, 106, 107, 108, 109, 110, 111, 112, 113, 114, 115, 116, 117, 118, 119, 120, 121, 122, 48, 49, 50, 51, 52, 53, 54, 55, 56, 57, 45] : List UInt8)).contains c
open Go L Go.Sort
theorem IsName_eq (K : Nat) (s : List UInt8) : codec_IsName K s = some (nameS s) := by
  unfold codec_IsName nameS
  by_cases h : ((!decide (s = ([] : List UInt8))) && (decide ((s.length : Int) ≤ (9 : Int)))) = true
  · rw [if_pos h]
    simp only [Bool.and_eq_true, Bool.not_eq_true', decide_eq_false_iff_not, decide_eq_true_eq] at h
    have h9 : s.length ≤ 9 := by omega
    unfold strings_Trim
    rw [if_pos ⟨by decide, by omega, by decide⟩]
    simp only [Option.bind_some, h.1, decide_false, Bool.not_false, h9, decide_true, Bool.true_and]
    congr 1
    rw [Bool.eq_iff_iff, decide_eq_true_eq]
    unfold Go.Lib.trimS Go.Lib.trimLeftS
    rw [dw_nil]
    unfold Go.Lib.trimRightS
    rw [List.all_reverse]
    generalize ([97, 98, 99, 100, 101, 102, 103, 104, 105, 106, 107, 108, 109, 110, 111, 112, 113, 114, 115, 116, 117, 118, 119, 120, 121, 122, 48, 49, 50, 51, 52, 53, 54, 55, 56, 57, 45] : List UInt8) = cs
    constructor
    · intro ha
      have hd : (s.reverse.dropWhile (cs.contains ·)).all (cs.contains ·) = true := ha
      have : s.reverse.all (cs.contains ·) = true := by
        have h2 := List.takeWhile_append_dropWhile (p := (cs.contains ·)) (l := s.reverse)
        rw [← h2, List.all_append, hd, Bool.and_true]
        exact List.all_takeWhile
      rwa [List.all_reverse] at this
    · intro ha
      have : s.reverse.dropWhile (cs.contains ·) = [] := (dw_nil _).2 (by rw [List.all_reverse]; exact ha)
      rw [this]; rfl
  · rw [if_neg h]
    simp only [Option.bind_some]
    congr 1
    symm
    simp only [Bool.and_eq_true, Bool.not_eq_true', decide_eq_false_iff_not, decide_eq_true_eq, not_and] at h
    by_cases h1 : s = []
    · simp [h1]
    · have := h h1
      have h9 : ¬ s.length ≤ 9 := by omega
      simp [h9]
/-! rooms -/
def cnt (m : List (S_grant_name × S_api_Client)) (t : List UInt8) : Nat := (m.filter fun x => decide (x.1.tenant = t)).length
def dd : List (List UInt8) → List (List UInt8)
  | [] => []
  | x :: l => if x ∈ dd l then dd l else x :: dd l
theorem mem_dd (l : List (List UInt8)) (t : List UInt8) : t ∈ dd l ↔ t ∈ l := by
  induction l with
  | nil => simp [dd]
  | cons x l ih =>
    unfold dd; split
    · rename_i h; rw [ih, List.mem_cons]
      exact ⟨.inr, fun h2 => h2.elim (fun e => e ▸ ih.1 (by rw [e]; exact h)  ) id⟩
    · rw [List.mem_cons, List.mem_cons, ih]
theorem nd_dd (l : List (List UInt8)) : (dd l).Nodup := by
  induction l with
  | nil => exact List.nodup_nil
  | cons x l ih => unfold dd; split; exact ih; exact List.nodup_cons.2 ⟨‹_›, ih⟩
def fullS (m : List (S_grant_name × S_api_Client)) (t : List UInt8) : Bool :=
  decide (4 ≤ cnt m t) || (decide (cnt m t = 0) && decide (4 ≤ (dd (m.map (·.1.tenant))).length))
theorem W_id {x : Int} (h : -9223372036854775808 ≤ x ∧ x ≤ 9223372036854775807) : W x = x := by
  unfold W; simp [IntKind.wrap, IntKind.bits, IntKind.signed]; omega
theorem full_fold (K : Nat) : ∀ (l : List (S_grant_name × S_api_Client)) (o : List (List UInt8 × Int)) (N : Nat), NDK o → (∀ t, 0 ≤ (mget o t).getD 0 ∧ (mget o t).getD 0 ≤ N) → N + l.length ≤ 4611686018427387904 →
    ∃ r, mfold (grant_Store_full.m1 K) l o = some (.go r) ∧ NDK r ∧ (∀ t, (mget r t).getD 0 = (mget o t).getD 0 + cnt l t) ∧ ∀ t, t ∈ r.map (·.1) ↔ t ∈ o.map (·.1) ∨ t ∈ l.map (·.1.tenant)
  | [], o, N, h1, h2, h3 => ⟨o, rfl, h1, fun t => by simp [cnt], fun t => by simp⟩
  | x :: l, o, N, h1, h2, h3 => by
    have hx := h2 x.1.tenant
    have hW : W (((mget o x.1.tenant).getD (0 : Int)) + (1 : Int)) = (mget o x.1.tenant).getD 0 + 1 := W_id (by simp at h3; omega)
    obtain ⟨r, e1, e2, e3, e4⟩ := full_fold K l (mset o x.1.tenant ((mget o x.1.tenant).getD 0 + 1)) (N + 1) (mset_nd h1) (fun t => by
      rw [mget_mset]; split
      · simp only [Option.getD_some]; omega
      · have := h2 t; omega) (by simp at h3; omega)
    refine ⟨r, ?_, e2, fun t => ?_, fun t => ?_⟩
    · simp only [mfold, grant_Store_full.m1, Option.bind_some, lrc, hW]; exact e1
    · rw [e3, mget_mset]
      unfold cnt
      by_cases ht : t = x.1.tenant
      · subst ht
        rw [if_pos rfl, List.filter_cons_of_pos (by simp)]; simp only [Option.getD_some, List.length_cons]; omega
      · rw [if_neg ht, List.filter_cons_of_neg (by simpa using fun e => ht e.symm)]
    · rw [e4, mset_keys]
      split
      · rename_i hm
        simp only [List.map_cons, List.mem_cons]
        exact ⟨fun h => h.elim .inl (fun h => .inr (.inr h)), fun h => h.elim .inl (fun h => h.elim (fun e => .inl (e ▸ hm)) .inr)⟩
      · simp only [List.mem_append, List.map_cons, List.mem_cons, List.not_mem_nil, or_false]
        exact ⟨fun h => h.elim (fun h => h.elim .inl (fun e => .inr (.inl e))) (fun h => .inr (.inr h)), fun h => h.elim (fun h => .inl (.inl h)) (fun h => h.elim (fun e => .inl (.inr e)) .inr)⟩
theorem cnt_perm {l m : List (S_grant_name × S_api_Client)} (h : l.Perm m) (t : List UInt8) : cnt l t = cnt m t := (h.filter _).length_eq
theorem full_eq (K : Nat) (s : S_grant_Store) (t : List UInt8) (hl : s.clients.length ≤ 1000) : grant_Store_full K s t = some (fullS s.clients t) := by
  unfold grant_Store_full
  refine mrngK_eq fun l hp => ?_
  obtain ⟨r, e1, e2, e3, e4⟩ := full_fold K l [] 0 List.nodup_nil (fun t => by simp [mget]) (by rw [hp.length_eq]; omega)
  rw [e1]
  simp only [Option.bind_some, lrc, e3 t, mget, Option.getD_none, Int.zero_add, cnt_perm hp]
  have hlen : r.length = (dd (s.clients.map (·.1.tenant))).length := by
    have h0 : (r.map (·.1)).length = r.length := List.length_map _
    rw [← h0]
    refine ((List.perm_ext_iff_of_nodup e2 (nd_dd _)).2 fun t => ?_).length_eq
    rw [e4, mem_dd]; simp only [List.map_nil, List.not_mem_nil, false_or]
    exact (hp.map _).mem_iff
  rw [hlen]
  unfold fullS
  congr 2
  · rw [decide_eq_decide]; omega
  · congr 1
    · rw [decide_eq_decide]; omega
    · rw [decide_eq_decide]; omega
/-! the grant store, in plain words -/
def zc : S_api_Client := ⟨[], [], [], 0⟩
def regS (s : S_grant_Store) (c : S_api_Client) : Int × S_grant_Store :=
  if (!nameS c.Tenant || !nameS c.Name) = true then (8, s) else if 24 < c.Redirect.length then (6, s) else if (mget s.clients ⟨c.Tenant, c.Name⟩).isSome = true then (5, s)
  else if fullS s.clients c.Tenant = true then (24, s) else (0, ⟨mset s.clients ⟨c.Tenant, c.Name⟩ c, s.consents⟩)
theorem Register_eq (K : Nat) (s : S_grant_Store) (c : S_api_Client) (hl : s.clients.length ≤ 1000) : grant_Store_Register K s c = some (regS s c) := by
  unfold grant_Store_Register regS
  simp only [IsName_eq, Option.bind_some, full_eq K ⟨s.clients, s.consents⟩ c.Tenant hl]
  by_cases h1 : nameS c.Tenant = true
  · simp only [h1, Bool.not_true, Bool.false_eq_true, if_false, Option.bind_some, Bool.false_or]
    by_cases h2 : (!nameS c.Name) = true
    · rw [if_pos h2, if_pos h2]
    · rw [if_neg h2, if_neg h2]
      by_cases h3 : 24 < c.Redirect.length
      · rw [if_pos h3, if_pos (by simp; omega)]
      · rw [if_neg h3, if_neg (by simp; omega)]
        split
        · rfl
        · split <;> rfl
  · rw [Bool.not_eq_true] at h1
    simp [h1]
def lookS (s : S_grant_Store) (t n : List UInt8) : S_api_Client × Int := match mget s.clients ⟨t, n⟩ with | some c => (c, 0) | none => (zc, 4)
theorem look_eq (K : Nat) (s : S_grant_Store) (t n : List UInt8) : grant_Store_look K s t n = some (lookS s t n) := by
  unfold grant_Store_look lookS
  cases mget s.clients ⟨t, n⟩ <;> rfl
def conS (s : S_grant_Store) (o : S_api_Owner) (c : List UInt8) : S_api_Consent × Int := match mget s.consents ⟨o, c⟩ with | some x => (⟨o, c, x⟩, 0) | none => (⟨⟨[], []⟩, [], 0⟩, 4)
theorem Consent_eq (K : Nat) (s : S_grant_Store) (o : S_api_Owner) (c : List UInt8) : grant_Store_Consent K s o c = some (conS s o c) := by
  unfold grant_Store_Consent conS
  cases mget s.consents ⟨o, c⟩ <;> rfl
def col (o : S_api_Owner) (m : List (S_grant_use × UInt8)) : List S_api_Consent := m.filterMap fun x => if x.1.Owner = o then some ⟨o, x.1.client, x.2⟩ else none
theorem col_fold (K : Nat) (o : S_api_Owner) : ∀ (l : List (S_grant_use × UInt8)) (out : List S_api_Consent), out.length + l.length ≤ 2513169434916 → mfold (grant_Store_Consents.m1 K o) l out = some (.go (out ++ col o l))
  | [], out, _ => by simp [mfold, col]
  | x :: l, out, h => by
    simp only [List.length_cons] at h
    simp only [mfold, grant_Store_Consents.m1]
    by_cases hx : x.1.Owner = o
    · rw [if_pos (by simpa using hx)]
      have : app 2513169434916 out [(⟨o, x.1.client, x.2⟩ : S_api_Consent)] = some (out ++ [⟨o, x.1.client, x.2⟩]) := by unfold app; rw [if_pos (by simp; omega)]
      simp only [Option.bind_some, this, lrc]
      rw [col_fold K o l _ (by simp; omega)]
      simp [col, hx]
    · rw [if_neg (by simpa using hx)]
      simp only [Option.bind_some, lrc]
      rw [col_fold K o l _ (by omega)]
      simp [col, hx]
theorem col_len (o : S_api_Owner) (m : List (S_grant_use × UInt8)) : (col o m).length ≤ m.length := List.length_filterMap_le _ _
theorem Consents_eq (K : Nat) (s : S_grant_Store) (o : S_api_Owner) (hn : NDK s.consents) (hl : s.consents.length ≤ 1000) :
    grant_Store_Consents K s o = some (sortS (fun (a b : S_api_Consent) => cmpS a.Client b.Client) (col o s.consents)) := by
  unfold grant_Store_Consents
  refine mrngK_eq fun l hp => ?_
  have hll := hp.length_eq
  rw [col_fold K o l [] (by simp; omega)]
  simp only [Option.bind_some, lrc, List.nil_append]
  unfold api_Consent_58_f59
  rw [if_pos (Nat.lt_of_le_of_lt (col_len o l) (by omega))]
  simp only [Option.bind_some]
  congr 1
  refine sortS_eq _ (swo_str fun a : S_api_Consent => a.Client) (hp.filterMap _) fun a b ha hb h1 h2 => ?_
  unfold ltOf at h1 h2; rw [cmpS_dec] at h1 h2
  have hc : a.Client = b.Client := ltS_tri _ _ h2 h1
  obtain ⟨x, hx, hxe⟩ := List.mem_filterMap.1 ha
  obtain ⟨y, hy, hye⟩ := List.mem_filterMap.1 hb
  split at hxe
  · split at hye
    · rename_i ho1 ho2
      cases hxe; cases hye
      simp only at hc
      have hk : x.1 = y.1 := by
        obtain ⟨⟨xo, xc⟩, xv⟩ := x; obtain ⟨⟨yo, yc⟩, yv⟩ := y
        simp only at ho1 ho2 hc; subst hc; subst ho1; subst ho2; rfl
      have h3 := mem_mget hn (hp.mem_iff.1 hx)
      have h4 := mem_mget hn (hp.mem_iff.1 hy)
      rw [hk] at h3; rw [h3] at h4
      rw [hc, Option.some.inj h4]
    · cases hye
  · cases hxe
open Go L Go.Sort
def allowS (s : S_grant_Store) (c : S_api_Consent) : Int × S_grant_Store :=
  if (!nameS c.Owner.Tenant || !nameS c.Owner.User) = true then (8, s) else if ¬ (lookS s c.Owner.Tenant c.Client).2 = 0 then ((lookS s c.Owner.Tenant c.Client).2, s)
  else if ¬ c.Scopes &&& ~~~(lookS s c.Owner.Tenant c.Client).1.Scopes = 0 then (14, s) else if (mget s.consents ⟨c.Owner, c.Client⟩).isSome = false ∧ 4 ≤ (col c.Owner s.consents).length then (25, s)
  else (0, ⟨s.clients, mset s.consents ⟨c.Owner, c.Client⟩ c.Scopes⟩)
theorem sortCol_len (o : S_api_Owner) (m : List (S_grant_use × UInt8)) : (sortS (fun (a b : S_api_Consent) => cmpS a.Client b.Client) (col o m)).length = (col o m).length := (sortS_sorted _ (swo_str fun a : S_api_Consent => a.Client) _).1.length_eq
theorem Allow_eq (K : Nat) (s : S_grant_Store) (c : S_api_Consent) (hn : NDK s.consents) (hl : s.consents.length ≤ 1000) : grant_Store_Allow K s c = some (allowS s c) := by
  unfold grant_Store_Allow allowS
  simp only [IsName_eq, Option.bind_some, look_eq, Consents_eq K ⟨s.clients, s.consents⟩ c.Owner hn hl, sortCol_len]
  have e0 : (⟨s.clients, s.consents⟩ : S_grant_Store) = s := rfl
  simp only [e0]
  generalize lookS s c.Owner.Tenant c.Client = L
  by_cases h1 : nameS c.Owner.Tenant = true
  · by_cases h2 : nameS c.Owner.User = true
    · by_cases h3 : L.2 = 0
      · by_cases h4 : c.Scopes &&& ~~~L.1.Scopes = 0
        · cases h5 : (mget s.consents (⟨c.Owner, c.Client⟩ : S_grant_use)).isSome with
          | true => simp [h1, h2, h3, h4]
          | false =>
            by_cases h6 : 4 ≤ (col c.Owner s.consents).length
            · have h7 : (4 : Int) ≤ ((col c.Owner s.consents).length : Int) := by omega
              simp [h1, h2, h3, h4, h6, h7]
            · have h7 : ¬ (4 : Int) ≤ ((col c.Owner s.consents).length : Int) := by omega
              simp [h1, h2, h3, h4, h6, h7]
        · simp [h1, h2, h3, h4]
      · simp [h1, h2, h3]
    · rw [Bool.not_eq_true] at h2; simp [h1, h2]
  · rw [Bool.not_eq_true] at h1
    simp [h1]
def mayS (s : S_grant_Store) (o : S_api_Owner) (c r : List UInt8) (sc : UInt8) : Int :=
  if ¬ (lookS s o.Tenant c).2 = 0 then (lookS s o.Tenant c).2 else if ¬ (conS s o c).2 = 0 then (conS s o c).2 else if ¬ (lookS s o.Tenant c).1.Redirect = r then 10 else if ¬ sc &&& ~~~(conS s o c).1.Scopes = 0 then 14 else 0
theorem May_eq (K : Nat) (s : S_grant_Store) (o : S_api_Owner) (c r : List UInt8) (sc : UInt8) : grant_Store_May K s o c r sc = some (mayS s o c r sc) := by
  unfold grant_Store_May mayS
  simp only [look_eq, Consent_eq, Option.bind_some, Bool.not_eq_true', decide_eq_false_iff_not]
  split
  · rfl
  · split
    · rfl
    · split
      · rfl
      · split <;> rfl
theorem nd_perm {κ β : Type} {l m : List (κ × β)} (hp : l.Perm m) (h : NDK m) : NDK l := (hp.map _).nodup_iff.2 h
theorem mset_map {κ β : Type} [DecidableEq κ] {m : List (κ × β)} {a : κ} {v : β} (hn : NDK m) (h : a ∈ m.map (·.1)) : mset m a v = m.map fun p => if p.1 = a then (a, v) else p := by
  induction m with
  | nil => simp at h
  | cons x m ih =>
    unfold NDK at hn; rw [List.map_cons, List.nodup_cons] at hn
    simp only [mset, List.map_cons]
    split
    · rename_i hx
      congr 1
      have : m.map (fun p => if p.1 = a then (a, v) else p) = m.map id := List.map_congr_left fun p hp => by
        rw [if_neg]; rfl
        exact fun e => hn.1 (List.mem_map.2 ⟨p, hp, by rw [e, hx]⟩)
      rw [this, List.map_id]
    · rename_i hx
      congr 1
      refine ih hn.2 ?_
      rcases List.mem_cons.1 h with e | e
      · exact absurd e.symm hx
      · exact e
def hit (t n : List UInt8) (u : S_grant_use) : Bool := decide (u.Owner.Tenant = t) && decide (u.client = n)
def narM (t n : List UInt8) (sc : UInt8) (m : List (S_grant_use × UInt8)) : List (S_grant_use × UInt8) := m.map fun p => if hit t n p.1 = true then (p.1, p.2 &&& sc) else p
theorem nar_fold (K : Nat) (t n : List UInt8) (sc : UInt8) : ∀ (l x : List (S_grant_use × UInt8)), NDK x → NDK l → (∀ p ∈ l, p ∈ x) →
    mfold (grant_Store_Narrow.m1 K t n sc) l x = some (.go (x.map fun p => if p ∈ l ∧ hit t n p.1 = true then (p.1, p.2 &&& sc) else p))
  | [], x, _, _, _ => by simp [mfold]
  | y :: l, x, hx, hl, hm => by
    unfold NDK at hl; rw [List.map_cons, List.nodup_cons] at hl
    have hy := hm y List.mem_cons_self
    have hg := mem_mget hx (a := y.1) (v := y.2) hy
    have hyl : ∀ v, (y.1, v) ∉ l := fun v hv => hl.1 (List.mem_map.2 ⟨_, hv, rfl⟩)
    simp only [mfold, grant_Store_Narrow.m1]
    by_cases hh : hit t n y.1 = true
    · have hh' : ((decide (y.1.Owner.Tenant = t)) && (decide (y.1.client = n))) = true := hh
      rw [if_pos hh']
      have hr : req ((mget x y.1).isSome = true) = some () := by unfold req; rw [if_pos (by rw [hg]; rfl)]
      simp only [hr, Option.bind_some, lrc]
      have he := mset_map (v := y.2 &&& sc) hx (List.mem_map.2 ⟨y, hy, rfl⟩)
      have hnd : NDK (mset x y.1 (y.2 &&& sc)) := mset_nd hx
      rw [nar_fold K t n sc l _ hnd hl.2 (fun p hp => by
        rw [he, List.mem_map]
        exact ⟨p, hm p (List.mem_cons_of_mem _ hp), by rw [if_neg]; exact fun e => hl.1 (List.mem_map.2 ⟨p, hp, e⟩)⟩)]
      rw [he, List.map_map]
      congr 2
      refine List.map_congr_left fun p hp => ?_
      simp only [Function.comp]
      by_cases e : p.1 = y.1
      · have hpy : p = y := by
          have h1 := mem_mget hx (a := p.1) (v := p.2) hp
          rw [e, hg] at h1
          exact Prod.ext e (Option.some.inj h1).symm
        subst hpy
        rw [if_pos rfl, if_neg (fun h => hyl _ h.1), if_pos ⟨List.mem_cons_self, hh⟩]
      · rw [if_neg e]
        have : p ∈ y :: l ↔ p ∈ l := ⟨fun h => (List.mem_cons.1 h).elim (fun h => absurd (by rw [h]) e) id, List.mem_cons_of_mem _⟩
        simp only [this]
    · have hh' : ¬ ((decide (y.1.Owner.Tenant = t)) && (decide (y.1.client = n))) = true := hh
      rw [if_neg hh']
      simp only [Option.bind_some, lrc]
      rw [nar_fold K t n sc l x hx hl.2 fun p hp => hm p (List.mem_cons_of_mem _ hp)]
      congr 2
      refine List.map_congr_left fun p hp => ?_
      by_cases e : p = y
      · subst e; rw [if_neg (fun h => hh h.2), if_neg (fun h => hh h.2)]
      · have : p ∈ y :: l ↔ p ∈ l := ⟨fun h => (List.mem_cons.1 h).elim (fun h => absurd h e) id, List.mem_cons_of_mem _⟩
        simp only [this]
def narS (s : S_grant_Store) (t n : List UInt8) (sc : UInt8) : UInt8 × Int × S_grant_Store := match mget s.clients ⟨t, n⟩ with
  | some c => (c.Scopes &&& sc, 0, ⟨mset s.clients ⟨t, n⟩ ⟨c.Tenant, c.Name, c.Redirect, c.Scopes &&& sc⟩, narM t n sc s.consents⟩)
  | none => (0, 4, s)
theorem Narrow_eq (K : Nat) (s : S_grant_Store) (t n : List UInt8) (sc : UInt8) (hn : NDK s.consents) : grant_Store_Narrow K s t n sc = some (narS s t n sc) := by
  unfold grant_Store_Narrow narS
  simp only [look_eq, Option.bind_some, lookS]
  cases h : mget s.clients ⟨t, n⟩ with
  | none => rfl
  | some c =>
    simp only [decide_true, Bool.not_true, Bool.false_eq_true, if_false]
    refine mrngK_eq fun l hp => ?_
    rw [nar_fold K t n sc l s.consents hn (nd_perm hp hn) fun p hp' => hp.mem_iff.1 hp']
    simp only [Option.bind_some, lrc]
    congr 4
    unfold narM
    refine List.map_congr_left fun p hp' => ?_
    simp only [hp.mem_iff.2 hp', true_and]
theorem del_fold {B : S_grant_use × UInt8 → List (S_grant_use × UInt8) → Option (Lr Unit (List (S_grant_use × UInt8)))} (p : S_grant_use → Bool) (hB : ∀ y x, B y x = some (.go (if p y.1 = true then mdel x y.1 else x))) :
    ∀ (l x : List (S_grant_use × UInt8)), NDK x → NDK l → (∀ q ∈ l, q ∈ x) → mfold B l x = some (.go (x.filter fun q => !(decide (q ∈ l) && p q.1)))
  | [], x, _, _, _ => by
    simp only [mfold, List.not_mem_nil, decide_false, Bool.false_and, Bool.not_false]
    rw [List.filter_eq_self.2 fun _ _ => rfl]
  | y :: l, x, hx, hl, hm => by
    unfold NDK at hl; rw [List.map_cons, List.nodup_cons] at hl
    have hy := hm y List.mem_cons_self
    have hg := mem_mget hx (a := y.1) (v := y.2) hy
    simp only [mfold, hB, Option.bind_some, lrc]
    have uniq : ∀ q ∈ x, q.1 = y.1 → q = y := fun q hq e => by
      have h1 := mem_mget hx (a := q.1) (v := q.2) hq
      rw [e, hg] at h1
      exact Prod.ext e (Option.some.inj h1).symm
    by_cases hh : p y.1 = true
    · rw [if_pos hh, mdel_eq hx]
      rw [del_fold p hB l _ (filter_nd _ hx) hl.2 fun q hq => List.mem_filter.2 ⟨hm q (List.mem_cons_of_mem _ hq), by
        simp only [ne_eq, decide_not, Bool.not_eq_true', decide_eq_false_iff_not]; exact fun e => hl.1 (List.mem_map.2 ⟨q, hq, e⟩)⟩]
      rw [List.filter_filter]
      congr 2
      refine List.filter_congr fun q hq => ?_
      by_cases e : q = y
      · subst e; simp [hh]
      · have h1 : q.1 ≠ y.1 := fun h => e (uniq q hq h)
        simp [h1, e]
    · rw [if_neg hh, del_fold p hB l x hx hl.2 fun q hq => hm q (List.mem_cons_of_mem _ hq)]
      congr 2
      refine List.filter_congr fun q hq => ?_
      by_cases e : q = y
      · subst e; simp [hh]
      · simp [e]
theorem del_all {B : S_grant_use × UInt8 → List (S_grant_use × UInt8) → Option (Lr Unit (List (S_grant_use × UInt8)))} (p : S_grant_use → Bool) (hB : ∀ y x, B y x = some (.go (if p y.1 = true then mdel x y.1 else x)))
    {m : List (S_grant_use × UInt8)} (hn : NDK m) : mrngK B m m (fun q => (lrc q (fun _ => none) (fun z => some z))) = some (m.filter fun q => !p q.1) := by
  refine mrngK_eq fun l hp => ?_
  rw [del_fold p hB l m hn (nd_perm hp hn) fun p hp' => hp.mem_iff.1 hp']
  simp only [Option.bind_some, lrc]
  congr 1
  refine List.filter_congr fun q hq => ?_
  simp [hp.mem_iff.2 hq]
theorem f29_eq (K : Nat) (m : List (S_grant_use × UInt8)) (o : S_api_Owner) (hn : NDK m) : api_Scopes_53_f55 K m o = some (m.filter fun q => !decide (q.1.Owner = o)) := by
  refine del_all (fun u => decide (u.Owner = o)) (fun y x => ?_) hn
  unfold api_Scopes_53_f55.m1 grant_Store_DropUser_1
  simp only [Option.bind_some]
  split <;> rfl
theorem f38_eq (K : Nat) (m : List (S_grant_use × UInt8)) (t n : List UInt8) (hn : NDK m) : api_Scopes_53_f54 K m t n = some (m.filter fun q => !hit t n q.1) := by
  refine del_all (hit t n) (fun y x => ?_) hn
  unfold api_Scopes_53_f54.m1 grant_Store_Drop_1 hit
  simp only [Option.bind_some]
  split <;> rfl
def dropUserS (s : S_grant_Store) (o : S_api_Owner) : Int × S_grant_Store :=
  ((s.consents.length : Int) - ((s.consents.filter fun q => !decide (q.1.Owner = o)).length : Int), ⟨s.clients, s.consents.filter fun q => !decide (q.1.Owner = o)⟩)
theorem DropUser_eq (K : Nat) (s : S_grant_Store) (o : S_api_Owner) (hn : NDK s.consents) (hl : s.consents.length ≤ 1000) : grant_Store_DropUser K s o = some (dropUserS s o) := by
  unfold grant_Store_DropUser dropUserS
  rw [f29_eq K _ _ hn]
  have := List.length_filter_le (fun q : S_grant_use × UInt8 => !decide (q.1.Owner = o)) s.consents
  simp only [Option.bind_some]
  rw [W_id (by omega)]
def withS (s : S_grant_Store) (o : S_api_Owner) (c : List UInt8) : Int × S_grant_Store := match mget s.consents ⟨o, c⟩ with
  | some _ => (0, ⟨s.clients, mdel s.consents ⟨o, c⟩⟩)
  | none => (4, s)
theorem Withdraw_eq (K : Nat) (s : S_grant_Store) (o : S_api_Owner) (c : List UInt8) : grant_Store_Withdraw K s o c = some (withS s o c) := by
  unfold grant_Store_Withdraw withS
  simp only [Consent_eq, Option.bind_some, conS]
  cases mget s.consents ⟨o, c⟩ <;> rfl
def dropS (s : S_grant_Store) (t n : List UInt8) : Int × S_grant_Store := match mget s.clients ⟨t, n⟩ with
  | some _ => (0, ⟨mdel s.clients ⟨t, n⟩, s.consents.filter fun q => !hit t n q.1⟩)
  | none => (4, s)
theorem Drop_eq (K : Nat) (s : S_grant_Store) (t n : List UInt8) (hn : NDK s.consents) : grant_Store_Drop K s t n = some (dropS s t n) := by
  unfold grant_Store_Drop dropS
  simp only [look_eq, Option.bind_some, lookS, f38_eq K _ _ _ hn]
  cases mget s.clients ⟨t, n⟩ <;> rfl
theorem Client_eq (K : Nat) (s : S_grant_Store) (t n : List UInt8) : grant_Store_Client K s t n = some (lookS s t n) := by
  unfold grant_Store_Client
  simp only [look_eq, Option.bind_some]
open Go L Go.Sort
def colC (t : List UInt8) (m : List (S_grant_name × S_api_Client)) : List S_api_Client := m.filterMap fun x => if x.1.tenant = t then some x.2 else none
def KV (m : List (S_grant_name × S_api_Client)) : Prop := ∀ x ∈ m, x.2.Tenant = x.1.tenant ∧ x.2.Name = x.1.name
theorem colC_len (t : List UInt8) (m : List (S_grant_name × S_api_Client)) : (colC t m).length ≤ m.length := List.length_filterMap_le _ _
instance {κ β : Type} [DecidableEq κ] (m : List (κ × β)) : Decidable (NDK m) := inferInstanceAs (Decidable (m.map (·.1)).Nodup)
theorem colC_fold (K : Nat) (t : List UInt8) : ∀ (l : List (S_grant_name × S_api_Client)) (out : List S_api_Client), out.length + l.length ≤ 2513169434916 → mfold (grant_Store_Clients.m1 K t) l out = some (.go (out ++ colC t l))
  | [], out, _ => by simp [mfold, colC]
  | x :: l, out, h => by
    simp only [List.length_cons] at h
    simp only [mfold, grant_Store_Clients.m1]
    by_cases hx : x.1.tenant = t
    · rw [if_pos (by simpa using hx)]
      have : app 2513169434916 out [x.2] = some (out ++ [x.2]) := by unfold app; rw [if_pos (by simp; omega)]
      simp only [Option.bind_some, this, lrc]
      rw [colC_fold K t l _ (by simp; omega)]
      simp [colC, hx]
    · rw [if_neg (by simpa using hx)]
      simp only [Option.bind_some, lrc]
      rw [colC_fold K t l _ (by omega)]
      simp [colC, hx]
theorem Clients_eq (K : Nat) (s : S_grant_Store) (t : List UInt8) (hn : NDK s.clients) (hk : KV s.clients) (hl : s.clients.length ≤ 1000) :
    grant_Store_Clients K s t = some (sortS (fun (a b : S_api_Client) => cmpS a.Name b.Name) (colC t s.clients)) := by
  unfold grant_Store_Clients
  refine mrngK_eq fun l hp => ?_
  have hll := hp.length_eq
  rw [colC_fold K t l [] (by simp; omega)]
  simp only [Option.bind_some, lrc, List.nil_append]
  unfold api_Client_56_f57
  rw [if_pos (Nat.lt_of_le_of_lt (colC_len t l) (by omega))]
  simp only [Option.bind_some]
  congr 1
  refine sortS_eq _ (swo_str fun a : S_api_Client => a.Name) (hp.filterMap _) fun a b ha hb h1 h2 => ?_
  unfold ltOf at h1 h2; rw [cmpS_dec] at h1 h2
  have hc : a.Name = b.Name := ltS_tri _ _ h2 h1
  obtain ⟨x, hx, hxe⟩ := List.mem_filterMap.1 ha
  obtain ⟨y, hy, hye⟩ := List.mem_filterMap.1 hb
  split at hxe
  · split at hye
    · rename_i ho1 ho2
      cases hxe; cases hye
      have kx := hk x (hp.mem_iff.1 hx)
      have ky := hk y (hp.mem_iff.1 hy)
      have hkk : x.1 = y.1 := by
        obtain ⟨⟨xo, xc⟩, xv⟩ := x; obtain ⟨⟨yo, yc⟩, yv⟩ := y
        simp only at ho1 ho2 kx ky hc; rw [kx.2, ky.2] at hc; subst hc; rw [ho1, ho2]
      have h3 := mem_mget hn (a := x.1) (v := x.2) (hp.mem_iff.1 hx)
      have h4 := mem_mget hn (a := y.1) (v := y.2) (hp.mem_iff.1 hy)
      rw [hkk] at h3; rw [h3] at h4
      exact Option.some.inj h4
    · cases hye
  · cases hxe
theorem live_eq (K : Nat) : holdfastlaw13_live K = some true := by
  unfold holdfastlaw13_live grant_New
  simp only [Option.bind_some]
  rw [Register_eq _ _ _ (by decide +kernel)]
  simp only [Option.bind_some]
  rw [Allow_eq _ _ _ (by decide +kernel) (by decide +kernel)]
  simp only [Option.bind_some]
  rw [May_eq]
  simp only [Option.bind_some]
  rw [Narrow_eq _ _ _ _ _ (by decide +kernel)]
  simp only [Option.bind_some]
  rw [May_eq]
  rfl
open Go L Go.Sort
/-! the document's answer never stops in the middle -/
def Tot {α : Type} (x : Option α) (P : α → Prop) : Prop := ∃ a, x = some a ∧ P a
section
variable {α β : Type} {P : α → Prop}
theorem Tot.s {a : α} (h : P a) : Tot (some a) P := ⟨a, rfl, h⟩
theorem Tot.b {x : Option β} {f : β → Option α} {Q : β → Prop} (h : Tot x Q) (k : ∀ a, Q a → Tot (f a) P) : Tot (x.bind f) P := by
  obtain ⟨a, rfl, ha⟩ := h; exact k a ha
theorem Tot.i {c : Prop} [Decidable c] {a b : Option α} (h1 : c → Tot a P) (h2 : ¬ c → Tot b P) : Tot (if c then a else b) P := by
  split
  · exact h1 ‹_›
  · exact h2 ‹_›
theorem Tot.g {xs : List α} {i : Nat} (h : i < xs.length) : Tot (gt xs (i : Int)) fun _ => True := ⟨xs[i], by unfold gt; rw [if_pos (by omega)]; simp [h], trivial⟩
theorem Tot.gi {xs : List α} {i : Int} (h0 : 0 ≤ i) (h : i < xs.length) : Tot (gt xs i) fun _ => True := by
  obtain ⟨n, rfl⟩ := Int.eq_ofNat_of_zero_le h0
  exact Tot.g (by omega)
theorem Tot.ap {n : Nat} {xs ys : List α} (h : xs.length + ys.length ≤ n) : Tot (app n xs ys) fun z => z.length = xs.length + ys.length := ⟨xs ++ ys, by unfold app; rw [if_pos h], by simp⟩
theorem Tot.su {xs : List α} {l h : Int} (h0 : 0 ≤ l) (h1 : l ≤ h) (h2 : h ≤ xs.length) : Tot (sub xs l h) fun z => (z.length : Int) = h - l := by
  refine ⟨_, by unfold sub; rw [if_pos ⟨h0, h1, h2⟩], ?_⟩
  show ((List.drop l.toNat (List.take h.toNat xs)).length : Int) = h - l
  rw [List.length_drop, List.length_take]; omega
end
theorem W_succ {i : Nat} (h : i < 9223372036854775807) : W ((i : Int) + 1) = ((i + 1 : Nat) : Int) := by rw [W_id (by omega)]; omega
theorem W_pred {i : Nat} (h0 : 0 < i) (h : i < 4611686018427387904) : W ((i : Int) - 1) = ((i - 1 : Nat) : Int) := by rw [W_id (by omega)]; omega
abbrev okc (c : UInt8) : Bool := (((decide ((97 : UInt8) ≤ c)) && (decide (c ≤ (122 : UInt8)))) || ((decide ((48 : UInt8) ≤ c)) && (decide (c ≤ (57 : UInt8))))) || (decide (c = (45 : UInt8)))
theorem okc_all : ((List.range 256).all fun n => decide (okc (UInt8.ofNat n) = (([97, 98, 99, 100, 101, 102, 103, 104, 105, 106, 107, 108, 109, 110, 111, 112, 113, 114, 115, 116, 117, 118, 119, 120, 121, 122, 48, 49, 50, 51, 52, 53, 54, 55, 56, 57, 45] : List UInt8)).contains (UInt8.ofNat n))) = true := by decide +kernel
theorem okc_eq (c : UInt8) : okc c = (([97, 98, 99, 100, 101, 102, 103, 104, 105, 106, 107, 108, 109, 110, 111, 112, 113, 114, 115, 116, 117, 118, 119, 120, 121, 122, 48, 49, 50, 51, 52, 53, 54, 55, 56, 57, 45] : List UInt8)).contains c := by
  have h := (List.all_eq_true.1 okc_all) c.toNat (List.mem_range.2 c.toNat_lt)
  rw [UInt8.ofNat_toNat] at h
  exact of_decide_eq_true h
theorem isn_loop (s : List UInt8) (hs : s.length ≤ 9223372036854775807) : ∀ (k i : Nat), i ≤ s.length → s.length < i + k → holdfastref02_IsName.l1 k s (i : Int) = some (if (s.drop i).all okc = true then .go () else .ret false)
  | 0, i, h1, h2 => by omega
  | k + 1, i, h1, h2 => by
    unfold holdfastref02_IsName.l1
    by_cases hi : i < s.length
    · rw [if_pos (by simp; omega)]
      have hg : gt s (i : Int) = some s[i] := by unfold gt; rw [if_pos (by omega)]; simp [hi]
      have e : s.drop i = s[i] :: s.drop (i + 1) := List.drop_eq_getElem_cons hi
      rw [hg, e, List.all_cons]
      simp only [Option.bind_some]
      cases hc : okc s[i] with
      | true =>
        rw [if_neg (show ¬ (!okc s[i]) = true by rw [hc]; decide), W_succ (by omega), isn_loop s hs k (i + 1) (by omega) (by omega), Bool.true_and]
      | false =>
        rw [if_pos (show (!okc s[i]) = true by rw [hc]; rfl)]; rfl
    · rw [if_neg (by simp; omega), List.drop_eq_nil_of_le (by omega)]; rfl
theorem refIsName_eq (K : Nat) (s : List UInt8) (hs : s.length ≤ 9223372036854775807) (hK : s.length < K) : holdfastref02_IsName K s = some (nameS s) := by
  unfold holdfastref02_IsName nameS
  rw [show holdfastref02_IsName.l1 K s 0 = some (if (s.drop 0).all okc = true then .go () else .ret false) from isn_loop s hs K 0 (by omega) (by omega)]
  have e : s.all okc = s.all fun c => (([97, 98, 99, 100, 101, 102, 103, 104, 105, 106, 107, 108, 109, 110, 111, 112, 113, 114, 115, 116, 117, 118, 119, 120, 121, 122, 48, 49, 50, 51, 52, 53, 54, 55, 56, 57, 45] : List UInt8)).contains c := by
    congr 1; funext c; exact okc_eq c
  rw [List.drop_zero, ← e]
  cases h : s.all okc with
  | false => simp [lrc]
  | true =>
    simp only [if_true, Option.bind_some, lrc, Bool.and_true]
    congr 1
    congr 1
    · cases s with
      | nil => rfl
      | cons x s => simp; omega
    · rw [decide_eq_decide]; omega
def RB (n : Nat) (r : S_holdfastref13_Store) : Prop := r.c_.length ≤ n ∧ r.a.length ≤ n
theorem RB.mono {n m : Nat} {r : S_holdfastref13_Store} (h : RB n r) (hm : n ≤ m) : RB m r := ⟨Nat.le_trans h.1 hm, Nat.le_trans h.2 hm⟩
def okR (n : Nat) (q : Lr Int Unit) : Prop := ∀ j, q = .ret j → 0 ≤ j ∧ j < (n : Int)
theorem rcl_loop (s : S_holdfastref13_Store) (t n : List UInt8) (hl : s.c_.length ≤ 1000) : ∀ (k i : Nat), i ≤ s.c_.length → s.c_.length < i + k → Tot (holdfastref13_Store_client.l1 k s t n (i : Int)) (okR s.c_.length)
  | 0, i, h1, h2 => by omega
  | k + 1, i, h1, h2 => by
    unfold holdfastref13_Store_client.l1
    refine Tot.i (fun hc => ?_) (fun _ => Tot.s fun j h => by cases h)
    have hi : i < s.c_.length := by simp at hc; omega
    refine Tot.b (Tot.g hi) fun e1 _ => ?_
    refine Tot.b (Q := fun _ => True) (Tot.i (fun _ => Tot.b (Tot.g hi) fun e2 _ => Tot.s trivial) fun _ => Tot.s trivial) fun b _ => ?_
    refine Tot.i (fun _ => Tot.s fun j h => by cases h; omega) fun _ => ?_
    rw [W_succ (by omega)]; exact rcl_loop s t n hl k (i + 1) (by omega) (by omega)
theorem rcl_tot (K : Nat) (s : S_holdfastref13_Store) (t n : List UInt8) (hl : s.c_.length ≤ 1000) (hK : 1000 < K) : Tot (holdfastref13_Store_client K s t n) fun r => -1 ≤ r ∧ r < (s.c_.length : Int) := by
  unfold holdfastref13_Store_client
  refine Tot.b (rcl_loop s t n hl K 0 (by omega) (by omega)) fun q hq => ?_
  cases q with
  | ret a => have := hq a rfl; exact Tot.s ⟨by omega, this.2⟩
  | go _ => exact Tot.s ⟨by omega, by omega⟩
theorem rco_loop (s : S_holdfastref13_Store) (o : S_api_Owner) (n : List UInt8) (hl : s.a.length ≤ 1000) : ∀ (k i : Nat), i ≤ s.a.length → s.a.length < i + k → Tot (holdfastref13_Store_consent.l1 k s o n (i : Int)) (okR s.a.length)
  | 0, i, h1, h2 => by omega
  | k + 1, i, h1, h2 => by
    unfold holdfastref13_Store_consent.l1
    refine Tot.i (fun hc => ?_) (fun _ => Tot.s fun j h => by cases h)
    have hi : i < s.a.length := by simp at hc; omega
    have go : Tot (holdfastref13_Store_consent.l1 k s o n (W ((i : Int) + 1))) (okR s.a.length) := by
      rw [W_succ (by omega)]; exact rco_loop s o n hl k (i + 1) (by omega) (by omega)
    refine Tot.b (Tot.g hi) fun e1 _ => ?_
    refine Tot.i (fun _ => Tot.b (Tot.g hi) fun e2 _ => ?_) fun _ => go
    exact Tot.i (fun _ => Tot.s fun j h => by cases h; omega) fun _ => go
theorem rco_tot (K : Nat) (s : S_holdfastref13_Store) (o : S_api_Owner) (n : List UInt8) (hl : s.a.length ≤ 1000) (hK : 1000 < K) : Tot (holdfastref13_Store_consent K s o n) fun r => -1 ≤ r ∧ r < (s.a.length : Int) := by
  unfold holdfastref13_Store_consent
  refine Tot.b (rco_loop s o n hl K 0 (by omega) (by omega)) fun q hq => ?_
  cases q with
  | ret a => have := hq a rfl; exact Tot.s ⟨by omega, this.2⟩
  | go _ => exact Tot.s ⟨by omega, by omega⟩
theorem rC2 (s : S_holdfastref13_Store) (out : List S_api_Client) (i : Nat) (hi : i < s.c_.length) (ho : out.length ≤ 1000) : ∀ (k a : Nat), a ≤ out.length → a < k → Tot (holdfastref13_Store_Clients.l2 k out s (i : Int) (a : Int)) fun r => 0 ≤ r ∧ r ≤ (out.length : Int)
  | 0, a, h1, h2 => by omega
  | k + 1, a, h1, h2 => by
    unfold holdfastref13_Store_Clients.l2
    refine Tot.i (fun hc => ?_) (fun _ => Tot.s ⟨by omega, by omega⟩)
    have h0 : 0 < a := by simp at hc; omega
    rw [W_pred h0 (by omega)]
    refine Tot.b (Tot.g (by omega)) fun e2 _ => Tot.b (Tot.g hi) fun e3 _ => ?_
    exact Tot.i (fun _ => rC2 s out i hi ho k (a - 1) (by omega) (by omega)) fun _ => Tot.s ⟨by omega, by omega⟩
theorem rC1 (K : Nat) (hK : 1000 < K) (s : S_holdfastref13_Store) (t : List UInt8) (hl : s.c_.length ≤ 1000) : ∀ (k i : Nat) (out : List S_api_Client), i ≤ s.c_.length → s.c_.length < i + k → out.length ≤ i → Tot (holdfastref13_Store_Clients.l1 K k s t out (i : Int)) fun _ => True
  | 0, i, _, h1, h2, _ => by omega
  | k + 1, i, out, h1, h2, h3 => by
    unfold holdfastref13_Store_Clients.l1
    refine Tot.i (fun hc => ?_) (fun _ => Tot.s trivial)
    have hi : i < s.c_.length := by simp at hc; omega
    rw [W_succ (by omega)]
    refine Tot.b (Tot.g hi) fun e1 _ => ?_
    refine Tot.i (fun _ => rC1 K hK s t hl k (i + 1) out (by omega) (by omega) (by omega)) fun _ => ?_
    refine Tot.b (rC2 s out i hi (by omega) K out.length (by omega) (by omega)) fun a ha => ?_
    refine Tot.b (Tot.su (by omega) (by omega) (by omega)) fun ys hys => ?_
    refine Tot.b (Tot.ap (by simp; omega)) fun xs hxs => ?_
    refine Tot.b (Tot.g hi) fun e4 _ => ?_
    refine Tot.b (Tot.s (P := fun z => z.length = 1) rfl) fun l2 hl2 => ?_
    simp only [List.length_nil] at hxs
    refine Tot.b (Tot.ap (by omega)) fun xs1 hx1 => ?_
    refine Tot.b (Tot.su (by omega) (by omega) (by omega)) fun ys1 hy1 => ?_
    refine Tot.b (Tot.ap (by omega)) fun xs2 hx2 => ?_
    exact rC1 K hK s t hl k (i + 1) xs2 (by omega) (by omega) (by omega)
theorem rClients_tot (K : Nat) (hK : 1000 < K) (s : S_holdfastref13_Store) (t : List UInt8) (hl : s.c_.length ≤ 1000) : Tot (holdfastref13_Store_Clients K s t) fun _ => True := by
  unfold holdfastref13_Store_Clients
  exact Tot.b (rC1 K hK s t hl K 0 [] (by omega) (by omega) (by simp)) fun q _ => Tot.s trivial
theorem rA2 (s : S_holdfastref13_Store) (out : List S_api_Consent) (i : Nat) (hi : i < s.a.length) (ho : out.length ≤ 1000) : ∀ (k a : Nat), a ≤ out.length → a < k → Tot (holdfastref13_Store_Consents.l2 k out s (i : Int) (a : Int)) fun r => 0 ≤ r ∧ r ≤ (out.length : Int)
  | 0, a, h1, h2 => by omega
  | k + 1, a, h1, h2 => by
    unfold holdfastref13_Store_Consents.l2
    refine Tot.i (fun hc => ?_) (fun _ => Tot.s ⟨by omega, by omega⟩)
    have h0 : 0 < a := by simp at hc; omega
    rw [W_pred h0 (by omega)]
    refine Tot.b (Tot.g (by omega)) fun e2 _ => Tot.b (Tot.g hi) fun e3 _ => ?_
    exact Tot.i (fun _ => rA2 s out i hi ho k (a - 1) (by omega) (by omega)) fun _ => Tot.s ⟨by omega, by omega⟩
theorem rA1 (K : Nat) (hK : 1000 < K) (s : S_holdfastref13_Store) (o : S_api_Owner) (hl : s.a.length ≤ 1000) : ∀ (k i : Nat) (out : List S_api_Consent), i ≤ s.a.length → s.a.length < i + k → out.length ≤ i → Tot (holdfastref13_Store_Consents.l1 K k s o out (i : Int)) fun _ => True
  | 0, i, _, h1, h2, _ => by omega
  | k + 1, i, out, h1, h2, h3 => by
    unfold holdfastref13_Store_Consents.l1
    refine Tot.i (fun hc => ?_) (fun _ => Tot.s trivial)
    have hi : i < s.a.length := by simp at hc; omega
    rw [W_succ (by omega)]
    refine Tot.b (Tot.g hi) fun e1 _ => ?_
    refine Tot.i (fun _ => rA1 K hK s o hl k (i + 1) out (by omega) (by omega) (by omega)) fun _ => ?_
    refine Tot.b (rA2 s out i hi (by omega) K out.length (by omega) (by omega)) fun a ha => ?_
    refine Tot.b (Tot.su (by omega) (by omega) (by omega)) fun ys hys => ?_
    refine Tot.b (Tot.ap (by simp; omega)) fun xs hxs => ?_
    refine Tot.b (Tot.g hi) fun e4 _ => ?_
    refine Tot.b (Tot.s (P := fun z => z.length = 1) rfl) fun l2 hl2 => ?_
    simp only [List.length_nil] at hxs
    refine Tot.b (Tot.ap (by omega)) fun xs1 hx1 => ?_
    refine Tot.b (Tot.su (by omega) (by omega) (by omega)) fun ys1 hy1 => ?_
    refine Tot.b (Tot.ap (by omega)) fun xs2 hx2 => ?_
    exact rA1 K hK s o hl k (i + 1) xs2 (by omega) (by omega) (by omega)
theorem rConsents_tot (K : Nat) (hK : 1000 < K) (s : S_holdfastref13_Store) (o : S_api_Owner) (hl : s.a.length ≤ 1000) : Tot (holdfastref13_Store_Consents K s o) fun _ => True := by
  unfold holdfastref13_Store_Consents
  exact Tot.b (rA1 K hK s o hl K 0 [] (by omega) (by omega) (by simp)) fun q _ => Tot.s trivial
theorem rf2 (s : S_holdfastref13_Store) (i : Nat) (hi : i < s.c_.length) (hl : s.c_.length ≤ 1000) : ∀ (k j : Nat) (f : Bool), j ≤ i → i < j + k → Tot (holdfastref13_Store_full.l2 k (i : Int) s f (j : Int)) fun _ => True
  | 0, j, _, h1, h2 => by omega
  | k + 1, j, f, h1, h2 => by
    unfold holdfastref13_Store_full.l2
    refine Tot.i (fun hc => ?_) (fun _ => Tot.s trivial)
    have hj : j < i := by simp at hc; omega
    rw [W_succ (by omega)]
    refine Tot.i (fun _ => Tot.b (Tot.g (by omega)) fun e1 _ => Tot.b (Tot.g hi) fun e2 _ => rf2 s i hi hl k (j + 1) _ (by omega) (by omega)) fun _ => rf2 s i hi hl k (j + 1) _ (by omega) (by omega)
theorem rf1 (K : Nat) (hK : 1000 < K) (s : S_holdfastref13_Store) (hl : s.c_.length ≤ 1000) : ∀ (k i : Nat) (x : Int), i ≤ s.c_.length → s.c_.length < i + k → Tot (holdfastref13_Store_full.l1 K k s x (i : Int)) fun _ => True
  | 0, i, _, h1, h2 => by omega
  | k + 1, i, x, h1, h2 => by
    unfold holdfastref13_Store_full.l1
    refine Tot.i (fun hc => ?_) (fun _ => Tot.s trivial)
    have hi : i < s.c_.length := by simp at hc; omega
    rw [W_succ (i := i) (by omega)]
    refine Tot.b (rf2 s i hi hl K 0 true (by omega) (by omega)) fun f _ => ?_
    exact Tot.i (fun _ => rf1 K hK s hl k (i + 1) _ (by omega) (by omega)) fun _ => rf1 K hK s hl k (i + 1) _ (by omega) (by omega)
theorem rfull_tot (K : Nat) (hK : 1000 < K) (s : S_holdfastref13_Store) (t : List UInt8) (hl : s.c_.length ≤ 1000) : Tot (holdfastref13_Store_full K s t) fun _ => True := by
  unfold holdfastref13_Store_full
  exact Tot.b (rClients_tot K hK ⟨s.c_, s.a⟩ t hl) fun r _ => Tot.b (rf1 K hK s hl K 0 0 (by omega) (by omega)) fun x _ => Tot.s trivial
def Nm (K : Nat) (s : List UInt8) : Prop := s.length < K ∧ s.length ≤ 9223372036854775807
theorem rname {K : Nat} {s : List UInt8} (h : Nm K s) : Tot (holdfastref02_IsName K s) fun _ => True := ⟨_, refIsName_eq K s h.2 h.1, trivial⟩
theorem rReg (K n : Nat) (hK : 1000 < K) (hn : n ≤ 900) (s : S_holdfastref13_Store) (c : S_api_Client) (h : RB n s) (h1 : Nm K c.Tenant) (h2 : Nm K c.Name) : Tot (holdfastref13_Store_Register K s c) fun r => RB (n + 1) r.2 := by
  have hb := h.mono (Nat.le_succ n)
  have hl : s.c_.length ≤ 1000 := Nat.le_trans h.1 (by omega)
  have ha := h.1
  unfold holdfastref13_Store_Register
  refine Tot.b (rname h1) fun r _ => ?_
  refine Tot.b (Q := fun _ => True) (Tot.i (fun _ => Tot.s trivial) fun _ => Tot.b (rname h2) fun _ _ => Tot.s trivial) fun b _ => ?_
  refine Tot.i (fun _ => Tot.s hb) fun _ => Tot.i (fun _ => Tot.s hb) fun _ => ?_
  refine Tot.b (rcl_tot K ⟨s.c_, s.a⟩ _ _ hl hK) fun r2 _ => Tot.i (fun _ => Tot.s hb) fun _ => ?_
  refine Tot.b (rfull_tot K hK ⟨s.c_, s.a⟩ _ hl) fun r3 _ => Tot.i (fun _ => Tot.s hb) fun _ => ?_
  refine Tot.b (Tot.ap (by simp; omega)) fun xs hxs => ?_
  refine Tot.b (Tot.s (P := fun z => z.length = 1) rfl) fun l hl2 => ?_
  simp only [List.length_nil] at hxs
  refine Tot.b (Tot.ap (by omega)) fun xs1 hx1 => ?_
  exact Tot.s ⟨by show xs1.length ≤ n + 1; omega, hb.2⟩
theorem rN1 (t n : List UInt8) (sc : UInt8) : ∀ (k i : Nat) (a : List S_api_Consent), a.length ≤ 1000 → i ≤ a.length → a.length < i + k → Tot (holdfastref13_Store_Narrow.l1 k t n sc a (i : Int)) fun z => z.length = a.length
  | 0, i, _, _, h1, h2 => by omega
  | k + 1, i, a, ha, h1, h2 => by
    unfold holdfastref13_Store_Narrow.l1
    refine Tot.i (fun hc => ?_) (fun _ => Tot.s rfl)
    have hi : i < a.length := by simp at hc; omega
    rw [W_succ (by omega)]
    refine Tot.b (Tot.g hi) fun e4 _ => ?_
    refine Tot.b (Q := fun _ => True) (Tot.i (fun _ => Tot.b (Tot.g hi) fun e2 _ => Tot.s trivial) fun _ => Tot.s trivial) fun b _ => ?_
    refine Tot.i (fun _ => Tot.b (Tot.g hi) fun e6 _ => Tot.b (Tot.g hi) fun e7 _ => ?_) fun _ => rN1 t n sc k (i + 1) a ha (by omega) (by omega)
    refine Tot.b (Tot.s (P := fun z => z.length = a.length) (by simp)) fun z hz => ?_
    obtain ⟨q, hq, hq2⟩ := rN1 t n sc k (i + 1) z (by omega) (by omega) (by omega)
    exact ⟨q, hq, by omega⟩
theorem rNar (K n : Nat) (hK : 1000 < K) (hn : n ≤ 900) (s : S_holdfastref13_Store) (t m : List UInt8) (sc : UInt8) (h : RB n s) : Tot (holdfastref13_Store_Narrow K s t m sc) fun r => RB (n + 1) r.2.2 := by
  have hb := h.mono (Nat.le_succ n)
  have ha := h.1; have hb2 := h.2
  have hl : s.c_.length ≤ 1000 := by omega
  unfold holdfastref13_Store_Narrow
  refine Tot.b (rcl_tot K ⟨s.c_, s.a⟩ _ _ hl hK) fun r hr => Tot.i (fun _ => Tot.s hb) fun hc => ?_
  have h0 : 0 ≤ r := by simp at hc; exact hc
  have hr2 : r < (s.c_.length : Int) := hr.2
  refine Tot.b (Tot.ap (by simp; omega)) fun xs hxs => ?_
  simp only [List.length_nil] at hxs
  refine Tot.b (Tot.gi h0 (by omega)) fun e1 _ => Tot.b (Tot.gi h0 (by omega)) fun e2 _ => ?_
  refine Tot.b (Tot.s (P := fun z => z.length = xs.length) (by simp)) fun xs1 hx1 => ?_
  refine Tot.b (Tot.ap (by simp; omega)) fun xs2 hx2 => ?_
  simp only [List.length_nil] at hx2
  refine Tot.b (rN1 t m sc K 0 xs2 (by omega) (by omega) (by omega)) fun a9 h9 => ?_
  refine Tot.b (Tot.gi h0 (by omega)) fun e9 _ => ?_
  exact Tot.s ⟨by show xs1.length ≤ n + 1; omega, by show a9.length ≤ n + 1; omega⟩
theorem rD1 (s : S_holdfastref13_Store) (t n : List UInt8) (hl : s.c_.length ≤ 1000) : ∀ (k i : Nat) (l : List S_api_Client), i ≤ s.c_.length → s.c_.length < i + k → l.length ≤ i → Tot (holdfastref13_Store_Drop.l1 k s t n l (i : Int)) fun z => z.length ≤ s.c_.length
  | 0, i, _, h1, h2, _ => by omega
  | k + 1, i, l, h1, h2, h3 => by
    unfold holdfastref13_Store_Drop.l1
    refine Tot.i (fun hc => ?_) (fun _ => Tot.s (by omega))
    have hi : i < s.c_.length := by simp at hc; omega
    rw [W_succ (by omega)]
    refine Tot.b (Tot.g hi) fun e1 _ => ?_
    refine Tot.b (Q := fun _ => True) (Tot.i (fun _ => Tot.s trivial) fun _ => Tot.b (Tot.g hi) fun e2 _ => Tot.s trivial) fun b _ => ?_
    refine Tot.i (fun _ => Tot.b (Tot.g hi) fun e3 _ => ?_) fun _ => rD1 s t n hl k (i + 1) l (by omega) (by omega) (by omega)
    refine Tot.b (Tot.s (P := fun z => z.length = 1) rfl) fun l2 hl2 => ?_
    exact Tot.b (Tot.ap (by omega)) fun l3 hl3 => rD1 s t n hl k (i + 1) l3 (by omega) (by omega) (by omega)
theorem rD2 (s : S_holdfastref13_Store) (t n : List UInt8) (hl : s.a.length ≤ 1000) : ∀ (k i : Nat) (l : List S_api_Consent), i ≤ s.a.length → s.a.length < i + k → l.length ≤ i → Tot (holdfastref13_Store_Drop.l2 k s t n l (i : Int)) fun z => z.length ≤ s.a.length
  | 0, i, _, h1, h2, _ => by omega
  | k + 1, i, l, h1, h2, h3 => by
    unfold holdfastref13_Store_Drop.l2
    refine Tot.i (fun hc => ?_) (fun _ => Tot.s (by omega))
    have hi : i < s.a.length := by simp at hc; omega
    rw [W_succ (by omega)]
    refine Tot.b (Tot.g hi) fun e1 _ => ?_
    refine Tot.b (Q := fun _ => True) (Tot.i (fun _ => Tot.s trivial) fun _ => Tot.b (Tot.g hi) fun e2 _ => Tot.s trivial) fun b _ => ?_
    refine Tot.i (fun _ => Tot.b (Tot.g hi) fun e3 _ => ?_) fun _ => rD2 s t n hl k (i + 1) l (by omega) (by omega) (by omega)
    refine Tot.b (Tot.s (P := fun z => z.length = 1) rfl) fun l2 hl2 => ?_
    exact Tot.b (Tot.ap (by omega)) fun l3 hl3 => rD2 s t n hl k (i + 1) l3 (by omega) (by omega) (by omega)
theorem rDrop (K n : Nat) (hK : 1000 < K) (hn : n ≤ 900) (s : S_holdfastref13_Store) (t m : List UInt8) (h : RB n s) : Tot (holdfastref13_Store_Drop K s t m) fun r => RB (n + 1) r.2 := by
  have hb := h.mono (Nat.le_succ n)
  have ha := h.1; have hb2 := h.2
  unfold holdfastref13_Store_Drop
  refine Tot.b (rcl_tot K ⟨s.c_, s.a⟩ _ _ (by show s.c_.length ≤ 1000; omega) hK) fun r hr => Tot.i (fun _ => Tot.s hb) fun hc => ?_
  refine Tot.b (rD1 s t m (by omega) K 0 [] (by omega) (by omega) (by simp)) fun l hl => ?_
  refine Tot.b (rD2 s t m (by omega) K 0 [] (by omega) (by omega) (by simp)) fun a ha2 => ?_
  exact Tot.s ⟨by show l.length ≤ n + 1; omega, by show a.length ≤ n + 1; omega⟩
theorem rAl1 (s : S_holdfastref13_Store) (r : Int) (hl : s.a.length ≤ 1000) : ∀ (k i : Nat) (l : List S_api_Consent), i ≤ s.a.length → s.a.length < i + k → l.length ≤ i → Tot (holdfastref13_Store_Allow.l1 k s r l (i : Int)) fun z => z.length ≤ s.a.length
  | 0, i, _, h1, h2, _ => by omega
  | k + 1, i, l, h1, h2, h3 => by
    unfold holdfastref13_Store_Allow.l1
    refine Tot.i (fun hc => ?_) (fun _ => Tot.s (by omega))
    have hi : i < s.a.length := by simp at hc; omega
    rw [W_succ (by omega)]
    refine Tot.i (fun _ => Tot.b (Tot.g hi) fun e3 _ => ?_) fun _ => rAl1 s r hl k (i + 1) l (by omega) (by omega) (by omega)
    refine Tot.b (Tot.s (P := fun z => z.length = 1) rfl) fun l2 hl2 => ?_
    exact Tot.b (Tot.ap (by omega)) fun l3 hl3 => rAl1 s r hl k (i + 1) l3 (by omega) (by omega) (by omega)
theorem rAllow (K n : Nat) (hK : 1000 < K) (hn : n ≤ 900) (s : S_holdfastref13_Store) (c : S_api_Consent) (h : RB n s) (h1 : Nm K c.Owner.Tenant) (h2 : Nm K c.Owner.User) : Tot (holdfastref13_Store_Allow K s c) fun r => RB (n + 1) r.2 := by
  have hb := h.mono (Nat.le_succ n)
  have ha := h.1; have hb2 := h.2
  have hl : s.c_.length ≤ 1000 := by omega
  unfold holdfastref13_Store_Allow
  refine Tot.b (rname h1) fun r _ => ?_
  refine Tot.b (Q := fun _ => True) (Tot.i (fun _ => Tot.s trivial) fun _ => Tot.b (rname h2) fun _ _ => Tot.s trivial) fun b _ => ?_
  refine Tot.i (fun _ => Tot.s hb) fun _ => ?_
  refine Tot.b (rcl_tot K ⟨s.c_, s.a⟩ _ _ hl hK) fun r2 hr2 => Tot.i (fun _ => Tot.s hb) fun hc => ?_
  have h0 : 0 ≤ r2 := by simp at hc; exact hc
  have hr3 : r2 < (s.c_.length : Int) := hr2.2
  refine Tot.b (Tot.gi h0 hr3) fun e1 _ => Tot.i (fun _ => Tot.s hb) fun _ => ?_
  refine Tot.b (rco_tot K ⟨s.c_, s.a⟩ _ _ (by show s.a.length ≤ 1000; omega) hK) fun r3 _ => ?_
  refine Tot.b (Q := fun _ => True) (Tot.i (fun _ => Tot.b (rConsents_tot K hK ⟨s.c_, s.a⟩ _ (by show s.a.length ≤ 1000; omega)) fun _ _ => Tot.s trivial) fun _ => Tot.s trivial) fun b1 _ => ?_
  refine Tot.i (fun _ => Tot.s hb) fun _ => ?_
  refine Tot.b (rAl1 s r3 (by omega) K 0 [] (by omega) (by omega) (by simp)) fun a17 h17 => ?_
  refine Tot.b (Tot.s (P := fun z => z.length = 1) rfl) fun l2 hl2 => ?_
  refine Tot.b (Tot.ap (by omega)) fun a22 h22 => ?_
  exact Tot.s ⟨hb.1, by show a22.length ≤ n + 1; omega⟩
theorem rWith (K n : Nat) (hK : 1000 < K) (hn : n ≤ 900) (s : S_holdfastref13_Store) (o : S_api_Owner) (c : List UInt8) (h : RB n s) : Tot (holdfastref13_Store_Withdraw K s o c) fun r => RB (n + 1) r.2 := by
  have hb := h.mono (Nat.le_succ n)
  have ha := h.1; have hb2 := h.2
  unfold holdfastref13_Store_Withdraw
  refine Tot.b (rco_tot K ⟨s.c_, s.a⟩ _ _ (by show s.a.length ≤ 1000; omega) hK) fun r hr => Tot.i (fun _ => Tot.s hb) fun hc => ?_
  have h0 : 0 ≤ r := by simp at hc; exact hc
  have hr3 : r < (s.a.length : Int) := hr.2
  refine Tot.b (Tot.su (by omega) h0 (by omega)) fun ys hys => ?_
  refine Tot.b (Tot.ap (by simp; omega)) fun xs hxs => ?_
  simp only [List.length_nil] at hxs
  rw [W_id (x := r + 1) (by omega)]
  refine Tot.b (Tot.su (by omega) (by omega) (by omega)) fun ys1 hy1 => ?_
  refine Tot.b (Tot.ap (by omega)) fun xs1 hx1 => ?_
  exact Tot.s ⟨hb.1, by show xs1.length ≤ n + 1; omega⟩
theorem rDU1 (s : S_holdfastref13_Store) (o : S_api_Owner) (hl : s.a.length ≤ 1000) : ∀ (k i : Nat) (l : List S_api_Consent), i ≤ s.a.length → s.a.length < i + k → l.length ≤ i → Tot (holdfastref13_Store_DropUser.l1 k s o l (i : Int)) fun z => z.length ≤ s.a.length
  | 0, i, _, h1, h2, _ => by omega
  | k + 1, i, l, h1, h2, h3 => by
    unfold holdfastref13_Store_DropUser.l1
    refine Tot.i (fun hc => ?_) (fun _ => Tot.s (by omega))
    have hi : i < s.a.length := by simp at hc; omega
    rw [W_succ (by omega)]
    refine Tot.b (Tot.g hi) fun e1 _ => ?_
    refine Tot.i (fun _ => Tot.b (Tot.g hi) fun e3 _ => ?_) fun _ => rDU1 s o hl k (i + 1) l (by omega) (by omega) (by omega)
    refine Tot.b (Tot.s (P := fun z => z.length = 1) rfl) fun l2 hl2 => ?_
    exact Tot.b (Tot.ap (by omega)) fun l3 hl3 => rDU1 s o hl k (i + 1) l3 (by omega) (by omega) (by omega)
theorem rDropUser (K n : Nat) (hK : 1000 < K) (hn : n ≤ 900) (s : S_holdfastref13_Store) (o : S_api_Owner) (h : RB n s) : Tot (holdfastref13_Store_DropUser K s o) fun r => RB (n + 1) r.2 := by
  have hb := h.mono (Nat.le_succ n)
  have hb2 := h.2
  unfold holdfastref13_Store_DropUser
  refine Tot.b (rDU1 s o (by omega) K 0 [] (by omega) (by omega) (by simp)) fun a ha => ?_
  exact Tot.s ⟨hb.1, by show a.length ≤ n + 1; omega⟩
theorem rMay (K n : Nat) (hK : 1000 < K) (hn : n ≤ 900) (s : S_holdfastref13_Store) (o : S_api_Owner) (c r : List UInt8) (sc : UInt8) (h : RB n s) : Tot (holdfastref13_Store_May K s o c r sc) fun _ => True := by
  have ha := h.1; have hb2 := h.2
  unfold holdfastref13_Store_May
  refine Tot.b (rcl_tot K ⟨s.c_, s.a⟩ _ _ (by show s.c_.length ≤ 1000; omega) hK) fun r1 hr1 => ?_
  refine Tot.b (rco_tot K ⟨s.c_, s.a⟩ _ _ (by show s.a.length ≤ 1000; omega) hK) fun r2 hr2 => ?_
  refine Tot.i (fun _ => Tot.s trivial) fun hc => ?_
  simp at hc
  refine Tot.b (Tot.gi (by omega) hr1.2) fun e1 _ => Tot.i (fun _ => Tot.s trivial) fun _ => ?_
  exact Tot.b (Tot.gi (by omega) hr2.2) fun e2 _ => Tot.i (fun _ => Tot.s trivial) fun _ => Tot.s trivial
open Go L Go.Sort
theorem and_not {a b : UInt8} (h : a &&& ~~~b = 0) : a &&& b = a := by
  apply UInt8.toBitVec_inj.1
  apply BitVec.eq_of_getLsbD_eq
  intro i hi
  have h1 := congrArg (fun x : UInt8 => x.toBitVec.getLsbD i) h
  simp only [UInt8.toBitVec_and, UInt8.toBitVec_not, BitVec.getLsbD_and, BitVec.getLsbD_not] at h1 ⊢
  have h8 : i < 8 := hi
  simp only [h8, decide_true, Bool.true_and] at h1
  have h0 : (0 : UInt8).toBitVec.getLsbD i = false := by simp
  rw [h0] at h1
  revert h1
  cases a.toBitVec.getLsbD i <;> cases b.toBitVec.getLsbD i <;> simp
theorem and_trans8 {a b c : UInt8} (h1 : a &&& b = a) (h2 : b &&& c = b) : a &&& c = a := by
  rw [← h1, UInt8.and_assoc, h2]
theorem and_nar {a c s : UInt8} (h : a &&& c = a) : (a &&& s) &&& (c &&& s) = a &&& s := by
  apply UInt8.toBitVec_inj.1
  apply BitVec.eq_of_getLsbD_eq
  intro i hi
  have h1 := congrArg (fun x : UInt8 => x.toBitVec.getLsbD i) h
  simp only [UInt8.toBitVec_and, BitVec.getLsbD_and] at h1 ⊢
  revert h1
  cases a.toBitVec.getLsbD i <;> cases c.toBitVec.getLsbD i <;> cases s.toBitVec.getLsbD i <;> simp
structure Inv (n : Nat) (s : S_grant_Store) : Prop where
  nc : NDK s.clients
  ns : NDK s.consents
  lc : s.clients.length ≤ n
  ls : s.consents.length ≤ n
  nar : ∀ u x, mget s.consents u = some x → ∃ c, mget s.clients ⟨u.Owner.Tenant, u.client⟩ = some c ∧ x &&& c.Scopes = x
theorem Inv.mono {n m : Nat} {s : S_grant_Store} (h : Inv n s) (hm : n ≤ m) : Inv m s := ⟨h.nc, h.ns, Nat.le_trans h.lc hm, Nat.le_trans h.ls hm, h.nar⟩
theorem inv_reg {n : Nat} {s : S_grant_Store} (h : Inv n s) (c : S_api_Client) : Inv (n + 1) (regS s c).2 := by
  have hm := h.mono (Nat.le_succ n)
  unfold regS
  split
  · exact hm
  · split
    · exact hm
    · split
      · exact hm
      · rename_i hk
        split
        · exact hm
        · refine ⟨mset_nd h.nc, h.ns, Nat.le_trans (mset_len _ _ _) (Nat.succ_le_succ h.lc), hm.ls, fun u x hu => ?_⟩
          obtain ⟨c', h1, h2⟩ := h.nar u x hu
          refine ⟨c', ?_, h2⟩
          rw [mget_mset, if_neg]
          · exact h1
          · intro e; rw [e] at h1; rw [h1] at hk; simp at hk
theorem inv_allow {n : Nat} {s : S_grant_Store} (h : Inv n s) (c : S_api_Consent) : Inv (n + 1) (allowS s c).2 := by
  have hm := h.mono (Nat.le_succ n)
  unfold allowS
  split
  · exact hm
  · split
    · exact hm
    · rename_i h1
      split
      · exact hm
      · rename_i h2
        split
        · exact hm
        · refine ⟨h.nc, mset_nd h.ns, hm.lc, Nat.le_trans (mset_len _ _ _) (Nat.succ_le_succ h.ls), fun u x hu => ?_⟩
          rw [mget_mset] at hu
          split at hu
          · rename_i e
            subst e
            cases hu
            unfold lookS at h1 h2
            cases hg : mget s.clients ⟨c.Owner.Tenant, c.Client⟩ with
            | none => rw [hg] at h1; simp at h1
            | some c' =>
              rw [hg] at h2
              refine ⟨c', rfl, and_not ?_⟩
              simpa using h2
          · exact h.nar u x hu
theorem mget_nar (t n : List UInt8) (sc : UInt8) (m : List (S_grant_use × UInt8)) (u : S_grant_use) : mget (narM t n sc m) u = (mget m u).map fun x => if hit t n u = true then x &&& sc else x := by
  induction m with
  | nil => rfl
  | cons p m ih =>
    unfold narM at *
    simp only [List.map_cons, mget]
    by_cases hp : p.1 = u
    · subst hp
      by_cases hh : hit t n p.1 = true
      · simp [hh]
      · simp [hh]
    · have e : (if hit t n p.1 = true then (p.1, p.2 &&& sc) else p).1 = p.1 := by split <;> rfl
      rw [e, if_neg hp, if_neg hp, ih]
theorem nar_keys (t n : List UInt8) (sc : UInt8) (m : List (S_grant_use × UInt8)) : (narM t n sc m).map (·.1) = m.map (·.1) := by
  unfold narM; rw [List.map_map]
  refine List.map_congr_left fun p _ => ?_
  simp only [Function.comp]; split <;> rfl
theorem hit_key {t n : List UInt8} {u : S_grant_use} : hit t n u = true ↔ (⟨u.Owner.Tenant, u.client⟩ : S_grant_name) = ⟨t, n⟩ := by
  unfold hit; simp
theorem inv_nar {n : Nat} {s : S_grant_Store} (h : Inv n s) (t m : List UInt8) (sc : UInt8) : Inv (n + 1) (narS s t m sc).2.2 := by
  have hm := h.mono (Nat.le_succ n)
  unfold narS
  cases hg : mget s.clients ⟨t, m⟩ with
  | none => exact hm
  | some c =>
    refine ⟨mset_nd h.nc, ?_, Nat.le_trans (mset_len _ _ _) (Nat.succ_le_succ h.lc), ?_, fun u x hu => ?_⟩
    · show ((narM t m sc s.consents).map (·.1)).Nodup
      rw [nar_keys]; exact h.ns
    · show (narM t m sc s.consents).length ≤ n + 1
      unfold narM; rw [List.length_map]; exact hm.ls
    · simp only [mget_nar] at hu
      cases hx : mget s.consents u with
      | none => rw [hx] at hu; simp at hu
      | some y =>
        rw [hx] at hu
        simp only [Option.map_some, Option.some.injEq] at hu
        obtain ⟨c', h1, h2⟩ := h.nar u y hx
        by_cases hh : hit t m u = true
        · rw [if_pos hh] at hu
          rw [hit_key.1 hh] at h1 ⊢
          rw [hg] at h1; cases h1
          refine ⟨_, by rw [mget_mset, if_pos rfl], ?_⟩
          rw [← hu]; exact and_nar h2
        · rw [if_neg hh] at hu
          refine ⟨c', by rw [mget_mset, if_neg (fun e => hh (hit_key.2 e))]; exact h1, by rw [← hu]; exact h2⟩
theorem mget_mdel {κ β : Type} [DecidableEq κ] {m : List (κ × β)} (hn : NDK m) (a b : κ) : mget (mdel m a) b = if b = a then none else mget m b := by
  rw [mdel_eq hn, mget_filter (fun k => decide (k ≠ a))]
  by_cases h : b = a <;> simp [h]
theorem mdel_len {κ β : Type} [DecidableEq κ] {m : List (κ × β)} (hn : NDK m) (a : κ) : (mdel m a).length ≤ m.length := by rw [mdel_eq hn]; exact List.length_filter_le _ _
theorem mdel_nd {κ β : Type} [DecidableEq κ] {m : List (κ × β)} (hn : NDK m) (a : κ) : NDK (mdel m a) := by rw [mdel_eq hn]; exact filter_nd _ hn
theorem mget_hits (t n : List UInt8) (m : List (S_grant_use × UInt8)) (u : S_grant_use) : mget (m.filter fun q => !hit t n q.1) u = if hit t n u = true then none else mget m u := by
  rw [mget_filter (fun k => !hit t n k)]
  cases hit t n u <;> rfl
theorem inv_drop {n : Nat} {s : S_grant_Store} (h : Inv n s) (t m : List UInt8) : Inv (n + 1) (dropS s t m).2 := by
  have hm := h.mono (Nat.le_succ n)
  unfold dropS
  cases hg : mget s.clients ⟨t, m⟩ with
  | none => exact hm
  | some c =>
    refine ⟨mdel_nd h.nc _, filter_nd _ h.ns, Nat.le_trans (mdel_len h.nc _) hm.lc, Nat.le_trans (List.length_filter_le _ _) hm.ls, fun u x hu => ?_⟩
    simp only [mget_hits] at hu
    by_cases hh : hit t m u = true
    · rw [if_pos hh] at hu; cases hu
    · rw [if_neg hh] at hu
      obtain ⟨c', h1, h2⟩ := h.nar u x hu
      exact ⟨c', by rw [mget_mdel h.nc, if_neg (fun e => hh (hit_key.2 e))]; exact h1, h2⟩
theorem inv_with {n : Nat} {s : S_grant_Store} (h : Inv n s) (o : S_api_Owner) (c : List UInt8) : Inv (n + 1) (withS s o c).2 := by
  have hm := h.mono (Nat.le_succ n)
  unfold withS
  cases hg : mget s.consents ⟨o, c⟩ with
  | none => exact hm
  | some x =>
    refine ⟨h.nc, mdel_nd h.ns _, hm.lc, Nat.le_trans (mdel_len h.ns _) hm.ls, fun u x hu => ?_⟩
    simp only [mget_mdel h.ns] at hu
    split at hu
    · cases hu
    · exact h.nar u x hu
theorem inv_dropUser {n : Nat} {s : S_grant_Store} (h : Inv n s) (o : S_api_Owner) : Inv (n + 1) (dropUserS s o).2 := by
  have hm := h.mono (Nat.le_succ n)
  refine ⟨h.nc, filter_nd _ h.ns, hm.lc, Nat.le_trans (List.length_filter_le _ _) hm.ls, fun u x hu => ?_⟩
  have hu' : mget (s.consents.filter fun q => !decide (q.1.Owner = o)) u = some x := hu
  rw [mget_filter (fun k : S_grant_use => !decide (k.Owner = o))] at hu'
  split at hu'
  · exact h.nar u x hu'
  · cases hu'
def NmD (K : Nat) (x : S_holdfastlaw13_Deed) : Prop := Nm K x.Owner.Tenant ∧ Nm K x.Owner.User ∧ Nm K x.Client
theorem do_tot (K n : Nat) (hK : 1000 < K) (hn : n ≤ 900) (s : S_grant_Store) (r : S_holdfastref13_Store) (x : S_holdfastlaw13_Deed) (h : Inv n s) (hr : RB n r) (hx : NmD K x) :
    Tot (holdfastlaw13_do K s r x) fun z => Inv (n + 1) z.2.1 ∧ RB (n + 1) z.2.2 := by
  have l1 : s.clients.length ≤ 1000 := Nat.le_trans h.lc (by omega)
  have l2 : s.consents.length ≤ 1000 := Nat.le_trans h.ls (by omega)
  unfold holdfastlaw13_do
  refine Tot.i (fun _ => ?_) fun _ => Tot.i (fun _ => ?_) fun _ => Tot.i (fun _ => ?_) fun _ => Tot.i (fun _ => ?_) fun _ => Tot.i (fun _ => ?_) fun _ => Tot.i (fun _ => ?_) fun _ => ?_
  · rw [Register_eq K ⟨s.clients, s.consents⟩ _ l1]
    refine Tot.b (Tot.s (P := fun z => Inv (n + 1) z.2) (inv_reg h _)) fun z hz => ?_
    exact Tot.b (rReg K n hK hn ⟨r.c_, r.a⟩ _ hr hx.1 hx.2.2) fun q hq => Tot.s ⟨hz, hq⟩
  · rw [Narrow_eq K ⟨s.clients, s.consents⟩ _ _ _ h.ns]
    refine Tot.b (Tot.s (P := fun z => Inv (n + 1) z.2.2) (inv_nar h _ _ _)) fun z hz => ?_
    exact Tot.b (rNar K n hK hn ⟨r.c_, r.a⟩ _ _ _ hr) fun q hq => Tot.s ⟨hz, hq⟩
  · rw [Drop_eq K ⟨s.clients, s.consents⟩ _ _ h.ns]
    refine Tot.b (Tot.s (P := fun z => Inv (n + 1) z.2) (inv_drop h _ _)) fun z hz => ?_
    exact Tot.b (rDrop K n hK hn ⟨r.c_, r.a⟩ _ _ hr) fun q hq => Tot.s ⟨hz, hq⟩
  · rw [Allow_eq K ⟨s.clients, s.consents⟩ _ h.ns l2]
    refine Tot.b (Tot.s (P := fun z => Inv (n + 1) z.2) (inv_allow h _)) fun z hz => ?_
    exact Tot.b (rAllow K n hK hn ⟨r.c_, r.a⟩ _ hr hx.1 hx.2.1) fun q hq => Tot.s ⟨hz, hq⟩
  · rw [Withdraw_eq K ⟨s.clients, s.consents⟩]
    refine Tot.b (Tot.s (P := fun z => Inv (n + 1) z.2) (inv_with h _ _)) fun z hz => ?_
    exact Tot.b (rWith K n hK hn ⟨r.c_, r.a⟩ _ _ hr) fun q hq => Tot.s ⟨hz, hq⟩
  · rw [DropUser_eq K ⟨s.clients, s.consents⟩ _ h.ns l2]
    refine Tot.b (Tot.s (P := fun z => Inv (n + 1) z.2) (inv_dropUser h _)) fun z hz => ?_
    exact Tot.b (rDropUser K n hK hn ⟨r.c_, r.a⟩ _ hr) fun q hq => Tot.s ⟨hz, hq⟩
  · rw [May_eq]
    refine Tot.b (Tot.s (P := fun _ => True) trivial) fun z hz => ?_
    exact Tot.b (rMay K n hK hn ⟨r.c_, r.a⟩ _ _ _ _ hr) fun q hq => Tot.s ⟨h.mono (Nat.le_succ n), hr.mono (Nat.le_succ n)⟩
theorem Tot.gm {α : Type} {xs : List α} {i : Nat} (h : i < xs.length) : Tot (gt xs (i : Int)) fun v => v ∈ xs := ⟨xs[i], by unfold gt; rw [if_pos (by omega)]; simp [h], List.getElem_mem _⟩
end Go.Proofs.YtjgbakieogadfaaGreatDoor

/-
  Joined by strip.py from plain texts of another seat.
-/
import Derived.Test.YtjgbakieogadfaaGreatDoorPure
import Derived.Test.YtjgbakieogadfaaGreatDoorLib25
import Derived.Test.YtjgbakieogadfaaGreatDoorSrt
import Derived.Test.YtjgbakieogadfaaGreatDoorLst
import Derived.Test.YtjgbakieogadfaaGreatDoorOpen
namespace Go.Proofs.YtjgbakieogadfaaGreatDoor
open Go L Go.Sort
/-! maps as lists of pairs -/
section
variable {κ β : Type} [DecidableEq κ]
def NDK (m : List (κ × β)) : Prop := (m.map (·.1)).Nodup
theorem mget_none {m : List (κ × β)} {a : κ} : mget m a = none ↔ a ∉ m.map (·.1) := by
  induction m with
  | nil=>simp [mget]
  | cons x m ih =>
    simp only [mget,List.map_cons,List.mem_cons,not_or]
    split
    · rename_i h;subst h;simp
    · rename_i h;rw [ih];exact ⟨fun k=>⟨fun e=>h e.symm,k⟩,fun k=>k.2⟩
theorem mget_mem {m : List (κ × β)} {a : κ} {v : β} (h : mget m a = some v) : (a, v) ∈ m := by
  induction m with
  | nil=>simp [mget] at h
  | cons x m ih =>
    simp only [mget] at h
    split at h
    · rename_i hx;cases h;subst hx;exact List.mem_cons_self
    · exact List.mem_cons_of_mem _ (ih h)
theorem mem_mget {m : List (κ × β)} {a : κ} {v : β} (hn : NDK m) (h : (a, v) ∈ m) : mget m a = some v := by
  induction m with
  | nil=>cases h
  | cons x m ih =>
    unfold NDK at hn;rw [List.map_cons,List.nodup_cons] at hn
    simp only [mget]
    rcases List.mem_cons.1 h with rfl | h
    · rw [if_pos rfl]
    · rw [if_neg (fun e=>hn.1 (List.mem_map.2 ⟨_,h,e.symm⟩))];exact ih hn.2 h
theorem mget_mset (m : List (κ × β)) (a : κ) (v : β) (b : κ) : mget (mset m a v) b = if b = a then some v else mget m b := by
  induction m with
  | nil=>simp only [mset,mget];split <;> split <;> simp_all
  | cons x m ih =>
    simp only [mset]
    split
    · rename_i h
      subst h
      simp only [mget];by_cases hb:x.1=b
      · subst hb;simp
      · rw [if_neg hb,if_neg (fun e=>hb e.symm),if_neg hb]
    · rename_i h
      simp only [mget]
      by_cases hb:x.1=b
      · rw [if_pos hb,if_pos hb,if_neg (fun e=>h (hb.trans e))]
      · rw [if_neg hb,if_neg hb,ih]
theorem mset_keys (m : List (κ × β)) (a : κ) (v : β) : (mset m a v).map (·.1) = if a ∈ m.map (·.1) then m.map (·.1) else m.map (·.1) ++ [a] := by
  induction m with
  | nil=>simp [mset]
  | cons x m ih =>
    simp only [mset]
    split
    · rename_i h;subst h;simp
    · rename_i h
      simp only [List.map_cons,ih,List.mem_cons]
      by_cases ha:a ∈ m.map (·.1)
      · rw [if_pos ha,if_pos (.inr ha)]
      · rw [if_neg ha,if_neg (by rintro (e | e);exact h e.symm;exact ha e)];rfl
theorem mset_nd {m : List (κ × β)} {a : κ} {v : β} (h : NDK m) : NDK (mset m a v) := by
  unfold NDK at *;rw [mset_keys];split
  · exact h
  · rename_i ha
    rw [List.nodup_append]
    exact ⟨h,by simp,fun x hx y hy=>by simp at hy;subst hy;exact fun e=>ha (e ▸ hx)⟩
theorem mset_len (m : List (κ × β)) (a : κ) (v : β) : (mset m a v).length ≤ m.length + 1 := by
  have:=congrArg List.length (mset_keys m a v)
  rw [List.length_map] at this;rw [this];split <;> simp
theorem mdel_eq {m : List (κ × β)} {a : κ} (h : NDK m) : mdel m a = m.filter fun p => decide (p.1 ≠ a) := by
  induction m with
  | nil=>rfl
  | cons x m ih =>
    unfold NDK at h;rw [List.map_cons,List.nodup_cons] at h
    simp only [mdel]
    split
    · rename_i hx
      rw [List.filter_cons_of_neg (by simp [hx])]
      exact (List.filter_eq_self.2 fun p hp=>by
        simp only [ne_eq,decide_not,Bool.not_eq_true',decide_eq_false_iff_not]
        exact fun e=>h.1 (List.mem_map.2 ⟨p,hp,by rw [e,hx]⟩)).symm
    · rename_i hx
      rw [List.filter_cons_of_pos (by simpa using hx),ih h.2]
omit [DecidableEq κ] in
theorem filter_nd {m : List (κ × β)} (p : κ × β → Bool) (h : NDK m) : NDK (m.filter p) :=
  h.sublist (List.filter_sublist.map _)
theorem mget_filter {m : List (κ × β)} (p : κ → Bool) (a : κ) : mget (m.filter fun x => p x.1) a = if p a = true then mget m a else none := by
  induction m with
  | nil=>simp [mget]
  | cons x m ih =>
    simp only [List.filter_cons]
    split
    · rename_i hx
      simp only [mget]
      split
      · rename_i e;subst e;rw [if_pos hx]
      · exact ih
    · rename_i hx
      rw [ih]
      simp only [mget]
      split
      · rename_i h
        split
        · rename_i e;subst e;exact absurd h hx
        · rfl
      · rfl
end
/-! going through a map -/
section
variable {γ σ ρ : Type}
end
/-! sorting -/
theorem sortS_sorted {α : Type} [Inhabited α] (cf : α → α → Int) (hO : SWO (ltOf cf)) (xs : List α) : (sortS cf xs).Perm xs ∧ (sortS cf xs).Pairwise fun a b => ltOf cf b a = false := by
  obtain ⟨⟨h1,_,h2⟩,h3⟩:=sortS_perm cf hO xs
  generalize hd:pdq (ltOf cf) xs.toArray 0 xs.length (Go.Lib.bitLen xs.length) true true=d at *
  have hs:sortS cf xs=d.toList:=by rw [← hd];rfl
  have hsz:d.size=xs.length:=by simpa using h1
  rw [hs]
  refine ⟨?_,?_⟩
  · have e1:d.extract 0 xs.length=d:=by rw [← hsz];simp
    have e2:xs.toArray.extract 0 xs.length=xs.toArray:=by
      have:xs.length=xs.toArray.size:=by simp
      rw [this];exact Array.extract_size
    rw [e1,e2] at h2;simpa using h2
  · rw [List.pairwise_iff_getElem]
    intro i j hi hj hij
    have hi' : i < d.size:=by simpa using hi
    have hj' : j < d.size:=by simpa using hj
    have:=h3 i j (Nat.zero_le _) hij (by omega)
    rw [getElem!_pos d i hi',getElem!_pos d j hj'] at this
    simpa using this
theorem sortS_eq {α : Type} [Inhabited α] (cf : α → α → Int) (hO : SWO (ltOf cf)) {xs ys : List α} (hp : xs.Perm ys)
    (ha:∀ a b,a ∈ xs→b ∈ xs→ltOf cf b a=false→ltOf cf a b=false→a=b):sortS cf xs=sortS cf ys:=by
  obtain ⟨p1,s1⟩:=sortS_sorted cf hO xs
  obtain ⟨p2,s2⟩:=sortS_sorted cf hO ys
  exact List.Perm.eq_of_pairwise (fun a b h1 h2 h3 h4=>ha a b (p1.mem_iff.1 h1) (hp.mem_iff.2 (p2.mem_iff.1 h2)) h3 h4) s1 s2 (p1.trans (hp.trans p2.symm))
/-! names -/
theorem dw_nil {p : UInt8 → Bool} : ∀ (l : List UInt8), l.dropWhile p = [] ↔ l.all p = true
  | []=>by simp
  | x :: l=>by
    rw [List.dropWhile_cons,List.all_cons]
    split
    · rename_i h;rw [dw_nil l,h,Bool.true_and]
    · rename_i h;simp [h]
def nameS (s : List UInt8) : Bool := !decide (s = []) && decide (s.length ≤ 9) && s.all fun c => (([97, 98, 99, 100, 101, 102, 103, 104, 105, 106, 107, 108, 109, 110, 111, 112, 113, 114, 115, 116, 117, 118, 119, 120, 121, 122, 48, 49, 50, 51, 52, 53, 54, 55, 56, 57, 45] : List UInt8)).contains c
open Go L Go.Sort
theorem IsName_eq (K : Nat) (s : List UInt8) : codec_IsName K s = some (nameS s) := by
  unfold codec_IsName nameS
  by_cases h:((!decide (s=([] : List UInt8))) && (decide ((s.length:Int)≤(9:Int))))=true
  · rw [if_pos h]
    simp only [Bool.and_eq_true,Bool.not_eq_true',decide_eq_false_iff_not,decide_eq_true_eq] at h
    have h9:s.length≤9:=by omega
    unfold strings_Trim
    rw [if_pos ⟨by decide,by omega,by decide⟩]
    simp only [Option.bind_some,h.1,decide_false,Bool.not_false,h9,decide_true,Bool.true_and]
    congr 1
    rw [Bool.eq_iff_iff,decide_eq_true_eq]
    unfold Go.Lib.trimS Go.Lib.trimLeftS
    rw [dw_nil]
    unfold Go.Lib.trimRightS
    rw [List.all_reverse]
    generalize ([97,98,99,100,101,102,103,104,105,106,107,108,109,110,111,112,113,114,115,116,117,118,119,120,121,122,48,49,50,51,52,53,54,55,56,57,45] : List UInt8)=cs
    constructor
    · intro ha
      have hd:(s.reverse.dropWhile (cs.contains ·)).all (cs.contains ·)=true:=ha
      have:s.reverse.all (cs.contains ·)=true:=by
        have h2:=List.takeWhile_append_dropWhile (p:=(cs.contains ·)) (l:=s.reverse)
        rw [← h2,List.all_append,hd,Bool.and_true]
        exact List.all_takeWhile
      rwa [List.all_reverse] at this
    · intro ha
      have:s.reverse.dropWhile (cs.contains ·)=[]:=(dw_nil _).2 (by rw [List.all_reverse];exact ha)
      rw [this];rfl
  · rw [if_neg h]
    simp only [Option.bind_some]
    congr 1
    symm
    simp only [Bool.and_eq_true,Bool.not_eq_true',decide_eq_false_iff_not,decide_eq_true_eq,not_and] at h
    by_cases h1:s=[]
    · simp [h1]
    · have:=h h1
      have h9 : ¬ s.length≤9:=by omega
      simp [h9]
/-! rooms -/
def cnt (m : List (S_grant_name × S_api_Client)) (t : List UInt8) : Nat := (m.filter fun x => decide (x.1.tenant = t)).length
def dd : List (List UInt8) → List (List UInt8)
  | []=>[]
  | x :: l=>if x ∈ dd l then dd l else x :: dd l
theorem mem_dd (l : List (List UInt8)) (t : List UInt8) : t ∈ dd l ↔ t ∈ l := by
  induction l with
  | nil=>simp [dd]
  | cons x l ih =>
    unfold dd;split
    · rename_i h;rw [ih,List.mem_cons]
      exact ⟨.inr,fun h2=>h2.elim (fun e=>e ▸ ih.1 (by rw [e];exact h)  ) id⟩
    · rw [List.mem_cons,List.mem_cons,ih]
theorem nd_dd (l : List (List UInt8)) : (dd l).Nodup := by
  induction l with
  | nil=>exact List.nodup_nil
  | cons x l ih=>unfold dd;split;exact ih;exact List.nodup_cons.2 ⟨‹_›,ih⟩
def fullS (m : List (S_grant_name × S_api_Client)) (t : List UInt8) : Bool :=
  decide (4≤cnt m t) || (decide (cnt m t=0) && decide (4≤(dd (m.map (·.1.tenant))).length))
theorem W_id {x : Int} (h : -9223372036854775808 ≤ x ∧ x ≤ 9223372036854775807) : W x = x := by
  unfold W;simp [IntKind.wrap,IntKind.bits,IntKind.signed];omega
theorem full_fold (K : Nat) : ∀ (l : List (S_grant_name × S_api_Client)) (o : List (List UInt8 × Int)) (N : Nat), NDK o → (∀ t, 0 ≤ (mget o t).getD 0 ∧ (mget o t).getD 0 ≤ N) → N + l.length ≤ 4611686018427387904 →
    ∃ r,mfold (grant_Store_full.m1 K) l o=some (.go r)∧NDK r∧(∀ t,(mget r t).getD 0=(mget o t).getD 0 + cnt l t)∧∀ t,t ∈ r.map (·.1) ↔ t ∈ o.map (·.1) ∨ t ∈ l.map (·.1.tenant)
  | [],o,N,h1,h2,h3=>⟨o,rfl,h1,fun t=>by simp [cnt],fun t=>by simp⟩
  | x :: l,o,N,h1,h2,h3=>by
    have hx:=h2 x.1.tenant
    have hW:W (((mget o x.1.tenant).getD (0:Int)) + (1:Int))=(mget o x.1.tenant).getD 0 + 1:=W_id (by simp at h3;omega)
    obtain ⟨r,e1,e2,e3,e4⟩:=full_fold K l (mset o x.1.tenant ((mget o x.1.tenant).getD 0 + 1)) (N + 1) (mset_nd h1) (fun t=>by
      rw [mget_mset];split
      · simp only [Option.getD_some];omega
      · have:=h2 t;omega) (by simp at h3;omega)
    refine ⟨r,?_,e2,fun t=>?_,fun t=>?_⟩
    · simp only [mfold,grant_Store_full.m1,Option.bind_some,lrc,hW];exact e1
    · rw [e3,mget_mset]
      unfold cnt
      by_cases ht:t=x.1.tenant
      · subst ht
        rw [if_pos rfl,List.filter_cons_of_pos (by simp)];simp only [Option.getD_some,List.length_cons];omega
      · rw [if_neg ht,List.filter_cons_of_neg (by simpa using fun e=>ht e.symm)]
    · rw [e4,mset_keys]
      split
      · rename_i hm
        simp only [List.map_cons,List.mem_cons]
        exact ⟨fun h=>h.elim .inl (fun h => .inr (.inr h)),fun h=>h.elim .inl (fun h=>h.elim (fun e => .inl (e ▸ hm)) .inr)⟩
      · simp only [List.mem_append,List.map_cons,List.mem_cons,List.not_mem_nil,or_false]
        exact ⟨fun h=>h.elim (fun h=>h.elim .inl (fun e => .inr (.inl e))) (fun h => .inr (.inr h)),fun h=>h.elim (fun h => .inl (.inl h)) (fun h=>h.elim (fun e => .inl (.inr e)) .inr)⟩
theorem cnt_perm {l m : List (S_grant_name × S_api_Client)} (h : l.Perm m) (t : List UInt8) : cnt l t = cnt m t := (h.filter _).length_eq
theorem full_eq (K : Nat) (s : S_grant_Store) (t : List UInt8) (hl : s.clients.length ≤ 3750000000000) : grant_Store_full K s t = some (fullS s.clients t) := by
  unfold grant_Store_full
  refine mrngK_eq fun l hp=>?_
  obtain ⟨r,e1,e2,e3,e4⟩:=full_fold K l [] 0 List.nodup_nil (fun t=>by simp [mget]) (by rw [hp.length_eq];omega)
  rw [e1]
  simp only [Option.bind_some,lrc,e3 t,mget,Option.getD_none,Int.zero_add,cnt_perm hp]
  have hlen:r.length=(dd (s.clients.map (·.1.tenant))).length:=by
    have h0:(r.map (·.1)).length=r.length:=List.length_map _
    rw [← h0]
    refine ((List.perm_ext_iff_of_nodup e2 (nd_dd _)).2 fun t=>?_).length_eq
    rw [e4,mem_dd];simp only [List.map_nil,List.not_mem_nil,false_or]
    exact (hp.map _).mem_iff
  rw [hlen]
  unfold fullS
  congr 2
  · rw [decide_eq_decide];omega
  · congr 1
    · rw [decide_eq_decide];omega
    · rw [decide_eq_decide];omega
/-! the grant store, in plain words -/
def zc : S_api_Client := ⟨[], [], [], 0⟩
def regS (s : S_grant_Store) (c : S_api_Client) : Int × S_grant_Store :=
  if (!nameS c.Tenant || !nameS c.Name)=true then (8,s) else if 24 < c.Redirect.length then (6,s) else if (mget s.clients ⟨c.Tenant,c.Name⟩).isSome=true then (5,s)
  else if fullS s.clients c.Tenant=true then (24,s) else (0,⟨mset s.clients ⟨c.Tenant,c.Name⟩ c,s.consents⟩)
theorem Register_eq (K : Nat) (s : S_grant_Store) (c : S_api_Client) (hl : s.clients.length ≤ 3750000000000) : grant_Store_Register K s c = some (regS s c) := by
  unfold grant_Store_Register regS
  simp only [IsName_eq,Option.bind_some,full_eq K ⟨s.clients,s.consents⟩ c.Tenant hl]
  by_cases h1:nameS c.Tenant=true
  · simp only [h1,Bool.not_true,Bool.false_eq_true,if_false,Option.bind_some,Bool.false_or]
    by_cases h2:(!nameS c.Name)=true
    · rw [if_pos h2,if_pos h2]
    · rw [if_neg h2,if_neg h2]
      by_cases h3:24 < c.Redirect.length
      · rw [if_pos h3,if_pos (by simp;omega)]
      · rw [if_neg h3,if_neg (by simp;omega)]
        split
        · rfl
        · split <;> rfl
  · rw [Bool.not_eq_true] at h1
    simp [h1]
def lookS (s : S_grant_Store) (t n : List UInt8) : S_api_Client × Int := match mget s.clients ⟨t, n⟩ with | some c => (c, 0) | none => (zc, 4)
theorem look_eq (K : Nat) (s : S_grant_Store) (t n : List UInt8) : grant_Store_look K s t n = some (lookS s t n) := by
  unfold grant_Store_look lookS
  cases mget s.clients ⟨t,n⟩ <;> rfl
def conS (s : S_grant_Store) (o : S_api_Owner) (c : List UInt8) : S_api_Consent × Int := match mget s.consents ⟨o, c⟩ with | some x => (⟨o, c, x⟩, 0) | none => (⟨⟨[], []⟩, [], 0⟩, 4)
theorem Consent_eq (K : Nat) (s : S_grant_Store) (o : S_api_Owner) (c : List UInt8) : grant_Store_Consent K s o c = some (conS s o c) := by
  unfold grant_Store_Consent conS
  cases mget s.consents ⟨o,c⟩ <;> rfl
def col (o : S_api_Owner) (m : List (S_grant_use × UInt8)) : List S_api_Consent := m.filterMap fun x => if x.1.Owner = o then some ⟨o, x.1.client, x.2⟩ else none
theorem col_fold (K : Nat) (o : S_api_Owner) : ∀ (l : List (S_grant_use × UInt8)) (out : List S_api_Consent), out.length + l.length ≤ 3769754152374 → mfold (grant_Store_Consents.m1 K o) l out = some (.go (out ++ col o l))
  | [],out,_=>by simp [mfold,col]
  | x :: l,out,h=>by
    simp only [List.length_cons] at h
    simp only [mfold,grant_Store_Consents.m1]
    by_cases hx:x.1.Owner=o
    · rw [if_pos (by simpa using hx)]
      have:app 3769754152374 out [(⟨o,x.1.client,x.2⟩ : S_api_Consent)]=some (out++[⟨o,x.1.client,x.2⟩]):=by unfold app;rw [if_pos (by simp;omega)]
      simp only [Option.bind_some,this,lrc]
      rw [col_fold K o l _ (by simp;omega)]
      simp [col,hx]
    · rw [if_neg (by simpa using hx)]
      simp only [Option.bind_some,lrc]
      rw [col_fold K o l _ (by omega)]
      simp [col,hx]
theorem col_len (o : S_api_Owner) (m : List (S_grant_use × UInt8)) : (col o m).length ≤ m.length := List.length_filterMap_le _ _
theorem Consents_eq (K : Nat) (s : S_grant_Store) (o : S_api_Owner) (hn : NDK s.consents) (hl : s.consents.length ≤ 3750000000000) :
    grant_Store_Consents K s o=some (sortS (fun (a b:S_api_Consent)=>cmpS a.Client b.Client) (col o s.consents)):=by
  unfold grant_Store_Consents
  refine mrngK_eq fun l hp=>?_
  have hll:=hp.length_eq
  rw [col_fold K o l [] (by simp;omega)]
  simp only [Option.bind_some,lrc,List.nil_append]
  unfold api_Consent_58_f59
  rw [if_pos (Nat.lt_of_le_of_lt (col_len o l) (by omega))]
  simp only [Option.bind_some]
  congr 1
  refine sortS_eq _ (swo_str fun a:S_api_Consent=>a.Client) (hp.filterMap _) fun a b ha hb h1 h2=>?_
  unfold ltOf at h1 h2;rw [cmpS_dec] at h1 h2
  have hc:a.Client=b.Client:=ltS_tri _ _ h2 h1
  obtain ⟨x,hx,hxe⟩:=List.mem_filterMap.1 ha
  obtain ⟨y,hy,hye⟩:=List.mem_filterMap.1 hb
  split at hxe
  · split at hye
    · rename_i ho1 ho2
      cases hxe;cases hye
      simp only at hc
      have hk:x.1=y.1:=by
        obtain ⟨⟨xo,xc⟩,xv⟩:=x;obtain ⟨⟨yo,yc⟩,yv⟩:=y
        simp only at ho1 ho2 hc;subst hc;subst ho1;subst ho2;rfl
      have h3:=mem_mget hn (hp.mem_iff.1 hx)
      have h4:=mem_mget hn (hp.mem_iff.1 hy)
      rw [hk] at h3;rw [h3] at h4
      rw [hc,Option.some.inj h4]
    · cases hye
  · cases hxe
open Go L Go.Sort
def allowS (s : S_grant_Store) (c : S_api_Consent) : Int × S_grant_Store :=
  if (!nameS c.Owner.Tenant || !nameS c.Owner.User)=true then (8,s) else if ¬ (lookS s c.Owner.Tenant c.Client).2=0 then ((lookS s c.Owner.Tenant c.Client).2,s)
  else if ¬ c.Scopes &&& ~~~(lookS s c.Owner.Tenant c.Client).1.Scopes=0 then (14,s) else if (mget s.consents ⟨c.Owner,c.Client⟩).isSome=false∧4≤(col c.Owner s.consents).length then (25,s)
  else (0,⟨s.clients,mset s.consents ⟨c.Owner,c.Client⟩ c.Scopes⟩)
theorem sortCol_len (o : S_api_Owner) (m : List (S_grant_use × UInt8)) : (sortS (fun (a b : S_api_Consent) => cmpS a.Client b.Client) (col o m)).length = (col o m).length := (sortS_sorted _ (swo_str fun a : S_api_Consent => a.Client) _).1.length_eq
theorem Allow_eq (K : Nat) (s : S_grant_Store) (c : S_api_Consent) (hn : NDK s.consents) (hl : s.consents.length ≤ 3750000000000) : grant_Store_Allow K s c = some (allowS s c) := by
  unfold grant_Store_Allow allowS
  simp only [IsName_eq,Option.bind_some,look_eq,Consents_eq K ⟨s.clients,s.consents⟩ c.Owner hn hl,sortCol_len]
  have e0:(⟨s.clients,s.consents⟩ : S_grant_Store)=s:=rfl
  simp only [e0]
  generalize lookS s c.Owner.Tenant c.Client=L
  by_cases h1:nameS c.Owner.Tenant=true
  · by_cases h2:nameS c.Owner.User=true
    · by_cases h3:L.2=0
      · by_cases h4:c.Scopes &&& ~~~L.1.Scopes=0
        · cases h5:(mget s.consents (⟨c.Owner,c.Client⟩ : S_grant_use)).isSome with
          | true=>simp [h1,h2,h3,h4]
          | false =>
            by_cases h6:4≤(col c.Owner s.consents).length
            · have h7:(4:Int)≤((col c.Owner s.consents).length:Int):=by omega
              simp [h1,h2,h3,h4,h6,h7]
            · have h7 : ¬ (4:Int)≤((col c.Owner s.consents).length:Int):=by omega
              simp [h1,h2,h3,h4,h6,h7]
        · simp [h1,h2,h3,h4]
      · simp [h1,h2,h3]
    · rw [Bool.not_eq_true] at h2;simp [h1,h2]
  · rw [Bool.not_eq_true] at h1
    simp [h1]
def mayS (s : S_grant_Store) (o : S_api_Owner) (c r : List UInt8) (sc : UInt8) : Int :=
  if ¬ (lookS s o.Tenant c).2=0 then (lookS s o.Tenant c).2 else if ¬ (conS s o c).2=0 then (conS s o c).2 else if ¬ (lookS s o.Tenant c).1.Redirect=r then 10 else if ¬ sc &&& ~~~(conS s o c).1.Scopes=0 then 14 else 0
theorem May_eq (K : Nat) (s : S_grant_Store) (o : S_api_Owner) (c r : List UInt8) (sc : UInt8) : grant_Store_May K s o c r sc = some (mayS s o c r sc) := by
  unfold grant_Store_May mayS
  simp only [look_eq,Consent_eq,Option.bind_some,Bool.not_eq_true',decide_eq_false_iff_not]
  split
  · rfl
  · split
    · rfl
    · split
      · rfl
      · split <;> rfl
theorem nd_perm {κ β : Type} {l m : List (κ × β)} (hp : l.Perm m) (h : NDK m) : NDK l := (hp.map _).nodup_iff.2 h
theorem mset_map {κ β : Type} [DecidableEq κ] {m : List (κ × β)} {a : κ} {v : β} (hn : NDK m) (h : a ∈ m.map (·.1)) : mset m a v = m.map fun p => if p.1 = a then (a, v) else p := by
  induction m with
  | nil=>simp at h
  | cons x m ih =>
    unfold NDK at hn;rw [List.map_cons,List.nodup_cons] at hn
    simp only [mset,List.map_cons]
    split
    · rename_i hx
      congr 1
      have:m.map (fun p=>if p.1=a then (a,v) else p)=m.map id:=List.map_congr_left fun p hp=>by
        rw [if_neg];rfl
        exact fun e=>hn.1 (List.mem_map.2 ⟨p,hp,by rw [e,hx]⟩)
      rw [this,List.map_id]
    · rename_i hx
      congr 1
      refine ih hn.2 ?_
      rcases List.mem_cons.1 h with e | e
      · exact absurd e.symm hx
      · exact e
def hit (t n : List UInt8) (u : S_grant_use) : Bool := decide (u.Owner.Tenant = t) && decide (u.client = n)
def narM (t n : List UInt8) (sc : UInt8) (m : List (S_grant_use × UInt8)) : List (S_grant_use × UInt8) := m.map fun p => if hit t n p.1 = true then (p.1, p.2 &&& sc) else p
theorem nar_fold (K : Nat) (t n : List UInt8) (sc : UInt8) : ∀ (l x : List (S_grant_use × UInt8)), NDK x → NDK l → (∀ p ∈ l, p ∈ x) →
    mfold (grant_Store_Narrow.m1 K t n sc) l x=some (.go (x.map fun p=>if p ∈ l∧hit t n p.1=true then (p.1,p.2 &&& sc) else p))
  | [],x,_,_,_=>by simp [mfold]
  | y :: l,x,hx,hl,hm=>by
    unfold NDK at hl;rw [List.map_cons,List.nodup_cons] at hl
    have hy:=hm y List.mem_cons_self
    have hg:=mem_mget hx (a:=y.1) (v:=y.2) hy
    have hyl:∀ v,(y.1,v) ∉ l:=fun v hv=>hl.1 (List.mem_map.2 ⟨_,hv,rfl⟩)
    simp only [mfold,grant_Store_Narrow.m1]
    by_cases hh:hit t n y.1=true
    · have hh' : ((decide (y.1.Owner.Tenant=t)) && (decide (y.1.client=n)))=true:=hh
      rw [if_pos hh']
      have hr:req ((mget x y.1).isSome=true)=some ():=by unfold req;rw [if_pos (by rw [hg];rfl)]
      simp only [hr,Option.bind_some,lrc]
      have he:=mset_map (v:=y.2 &&& sc) hx (List.mem_map.2 ⟨y,hy,rfl⟩)
      have hnd:NDK (mset x y.1 (y.2 &&& sc)):=mset_nd hx
      rw [nar_fold K t n sc l _ hnd hl.2 (fun p hp=>by
        rw [he,List.mem_map]
        exact ⟨p,hm p (List.mem_cons_of_mem _ hp),by rw [if_neg];exact fun e=>hl.1 (List.mem_map.2 ⟨p,hp,e⟩)⟩)]
      rw [he,List.map_map]
      congr 2
      refine List.map_congr_left fun p hp=>?_
      simp only [Function.comp]
      by_cases e:p.1=y.1
      · have hpy:p=y:=by
          have h1:=mem_mget hx (a:=p.1) (v:=p.2) hp
          rw [e,hg] at h1
          exact Prod.ext e (Option.some.inj h1).symm
        subst hpy
        rw [if_pos rfl,if_neg (fun h=>hyl _ h.1),if_pos ⟨List.mem_cons_self,hh⟩]
      · rw [if_neg e]
        have:p ∈ y :: l ↔ p ∈ l:=⟨fun h=>(List.mem_cons.1 h).elim (fun h=>absurd (by rw [h]) e) id,List.mem_cons_of_mem _⟩
        simp only [this]
    · have hh' : ¬ ((decide (y.1.Owner.Tenant=t)) && (decide (y.1.client=n)))=true:=hh
      rw [if_neg hh']
      simp only [Option.bind_some,lrc]
      rw [nar_fold K t n sc l x hx hl.2 fun p hp=>hm p (List.mem_cons_of_mem _ hp)]
      congr 2
      refine List.map_congr_left fun p hp=>?_
      by_cases e:p=y
      · subst e;rw [if_neg (fun h=>hh h.2),if_neg (fun h=>hh h.2)]
      · have:p ∈ y :: l ↔ p ∈ l:=⟨fun h=>(List.mem_cons.1 h).elim (fun h=>absurd h e) id,List.mem_cons_of_mem _⟩
        simp only [this]
def narS (s : S_grant_Store) (t n : List UInt8) (sc : UInt8) : UInt8 × Int × S_grant_Store := match mget s.clients ⟨t, n⟩ with
  | some c=>(c.Scopes &&& sc,0,⟨mset s.clients ⟨t,n⟩ ⟨c.Tenant,c.Name,c.Redirect,c.Scopes &&& sc⟩,narM t n sc s.consents⟩)
  | none=>(0,4,s)
theorem Narrow_eq (K : Nat) (s : S_grant_Store) (t n : List UInt8) (sc : UInt8) (hn : NDK s.consents) : grant_Store_Narrow K s t n sc = some (narS s t n sc) := by
  unfold grant_Store_Narrow narS
  simp only [look_eq,Option.bind_some,lookS]
  cases h:mget s.clients ⟨t,n⟩ with
  | none=>rfl
  | some c =>
    simp only [decide_true,Bool.not_true,Bool.false_eq_true,if_false]
    refine mrngK_eq fun l hp=>?_
    rw [nar_fold K t n sc l s.consents hn (nd_perm hp hn) fun p hp'=>hp.mem_iff.1 hp']
    simp only [Option.bind_some,lrc]
    congr 4
    unfold narM
    refine List.map_congr_left fun p hp'=>?_
    simp only [hp.mem_iff.2 hp',true_and]
theorem del_fold {B : S_grant_use × UInt8 → List (S_grant_use × UInt8) → Option (Lr Unit (List (S_grant_use × UInt8)))} (p : S_grant_use → Bool) (hB : ∀ y x, B y x = some (.go (if p y.1 = true then mdel x y.1 else x))) :
    ∀ (l x:List (S_grant_use × UInt8)),NDK x→NDK l→(∀ q ∈ l,q ∈ x)→mfold B l x=some (.go (x.filter fun q => !(decide (q ∈ l) && p q.1)))
  | [],x,_,_,_=>by
    simp only [mfold,List.not_mem_nil,decide_false,Bool.false_and,Bool.not_false]
    rw [List.filter_eq_self.2 fun _ _=>rfl]
  | y :: l,x,hx,hl,hm=>by
    unfold NDK at hl;rw [List.map_cons,List.nodup_cons] at hl
    have hy:=hm y List.mem_cons_self
    have hg:=mem_mget hx (a:=y.1) (v:=y.2) hy
    simp only [mfold,hB,Option.bind_some,lrc]
    have uniq:∀ q ∈ x,q.1=y.1→q=y:=fun q hq e=>by
      have h1:=mem_mget hx (a:=q.1) (v:=q.2) hq
      rw [e,hg] at h1
      exact Prod.ext e (Option.some.inj h1).symm
    by_cases hh:p y.1=true
    · rw [if_pos hh,mdel_eq hx]
      rw [del_fold p hB l _ (filter_nd _ hx) hl.2 fun q hq=>List.mem_filter.2 ⟨hm q (List.mem_cons_of_mem _ hq),by
        simp only [ne_eq,decide_not,Bool.not_eq_true',decide_eq_false_iff_not];exact fun e=>hl.1 (List.mem_map.2 ⟨q,hq,e⟩)⟩]
      rw [List.filter_filter]
      congr 2
      refine List.filter_congr fun q hq=>?_
      by_cases e:q=y
      · subst e;simp [hh]
      · have h1:q.1 ≠ y.1:=fun h=>e (uniq q hq h)
        simp [h1,e]
    · rw [if_neg hh,del_fold p hB l x hx hl.2 fun q hq=>hm q (List.mem_cons_of_mem _ hq)]
      congr 2
      refine List.filter_congr fun q hq=>?_
      by_cases e:q=y
      · subst e;simp [hh]
      · simp [e]
theorem del_all {B : S_grant_use × UInt8 → List (S_grant_use × UInt8) → Option (Lr Unit (List (S_grant_use × UInt8)))} (p : S_grant_use → Bool) (hB : ∀ y x, B y x = some (.go (if p y.1 = true then mdel x y.1 else x)))
    {m:List (S_grant_use × UInt8)} (hn:NDK m):mrngK B m m (fun q=>(lrc q (fun _=>none) (fun z=>some z)))=some (m.filter fun q => !p q.1):=by
  refine mrngK_eq fun l hp=>?_
  rw [del_fold p hB l m hn (nd_perm hp hn) fun p hp'=>hp.mem_iff.1 hp']
  simp only [Option.bind_some,lrc]
  congr 1
  refine List.filter_congr fun q hq=>?_
  simp [hp.mem_iff.2 hq]
theorem f29_eq (K : Nat) (m : List (S_grant_use × UInt8)) (o : S_api_Owner) (hn : NDK m) : api_Scopes_53_f55 K m o = some (m.filter fun q => !decide (q.1.Owner = o)) := by
  refine del_all (fun u=>decide (u.Owner=o)) (fun y x=>?_) hn
  unfold api_Scopes_53_f55.m1 grant_Store_DropUser_1
  simp only [Option.bind_some]
  split <;> rfl
theorem f38_eq (K : Nat) (m : List (S_grant_use × UInt8)) (t n : List UInt8) (hn : NDK m) : api_Scopes_53_f54 K m t n = some (m.filter fun q => !hit t n q.1) := by
  refine del_all (hit t n) (fun y x=>?_) hn
  unfold api_Scopes_53_f54.m1 grant_Store_Drop_1 hit
  simp only [Option.bind_some]
  split <;> rfl
def dropUserS (s : S_grant_Store) (o : S_api_Owner) : Int × S_grant_Store :=
  ((s.consents.length:Int) - ((s.consents.filter fun q => !decide (q.1.Owner=o)).length:Int),⟨s.clients,s.consents.filter fun q => !decide (q.1.Owner=o)⟩)
theorem DropUser_eq (K : Nat) (s : S_grant_Store) (o : S_api_Owner) (hn : NDK s.consents) (hl : s.consents.length ≤ 3750000000000) : grant_Store_DropUser K s o = some (dropUserS s o) := by
  unfold grant_Store_DropUser dropUserS
  rw [f29_eq K _ _ hn]
  have:=List.length_filter_le (fun q:S_grant_use × UInt8 => !decide (q.1.Owner=o)) s.consents
  simp only [Option.bind_some]
  rw [W_id (by omega)]
def withS (s : S_grant_Store) (o : S_api_Owner) (c : List UInt8) : Int × S_grant_Store := match mget s.consents ⟨o, c⟩ with
  | some _=>(0,⟨s.clients,mdel s.consents ⟨o,c⟩⟩)
  | none=>(4,s)
theorem Withdraw_eq (K : Nat) (s : S_grant_Store) (o : S_api_Owner) (c : List UInt8) : grant_Store_Withdraw K s o c = some (withS s o c) := by
  unfold grant_Store_Withdraw withS
  simp only [Consent_eq,Option.bind_some,conS]
  cases mget s.consents ⟨o,c⟩ <;> rfl
def dropS (s : S_grant_Store) (t n : List UInt8) : Int × S_grant_Store := match mget s.clients ⟨t, n⟩ with
  | some _=>(0,⟨mdel s.clients ⟨t,n⟩,s.consents.filter fun q => !hit t n q.1⟩)
  | none=>(4,s)
theorem Drop_eq (K : Nat) (s : S_grant_Store) (t n : List UInt8) (hn : NDK s.consents) : grant_Store_Drop K s t n = some (dropS s t n) := by
  unfold grant_Store_Drop dropS
  simp only [look_eq,Option.bind_some,lookS,f38_eq K _ _ _ hn]
  cases mget s.clients ⟨t,n⟩ <;> rfl
open Go L Go.Sort
def colC (t : List UInt8) (m : List (S_grant_name × S_api_Client)) : List S_api_Client := m.filterMap fun x => if x.1.tenant = t then some x.2 else none
instance {κ β : Type} [DecidableEq κ] (m : List (κ × β)) : Decidable (NDK m) := inferInstanceAs (Decidable (m.map (·.1)).Nodup)
theorem live_eq (K : Nat) : holdfastlaw13_live K = some true := by
  unfold holdfastlaw13_live grant_New
  simp only [Option.bind_some]
  rw [Register_eq _ _ _ (by decide +kernel)]
  simp only [Option.bind_some]
  rw [Allow_eq _ _ _ (by decide +kernel) (by decide +kernel)]
  simp only [Option.bind_some]
  rw [May_eq]
  simp only [Option.bind_some]
  rw [Narrow_eq _ _ _ _ _ (by decide +kernel)]
  simp only [Option.bind_some]
  rw [May_eq]
  rfl
open Go L Go.Sort
/-! the document's answer never stops in the middle -/
def Tot {α : Type} (x : Option α) (P : α → Prop) : Prop := ∃ a, x = some a ∧ P a
section
variable {α β : Type} {P : α → Prop}
theorem Tot.s {a : α} (h : P a) : Tot (some a) P := ⟨a, rfl, h⟩
theorem Tot.b {x : Option β} {f : β → Option α} {Q : β → Prop} (h : Tot x Q) (k : ∀ a, Q a → Tot (f a) P) : Tot (x.bind f) P := by
  obtain ⟨a,rfl,ha⟩:=h;exact k a ha
theorem Tot.i {c : Prop} [Decidable c] {a b : Option α} (h1 : c → Tot a P) (h2 : ¬ c → Tot b P) : Tot (if c then a else b) P := by
  split
  · exact h1 ‹_›
  · exact h2 ‹_›
theorem Tot.g {xs : List α} {i : Nat} (h : i < xs.length) : Tot (gt xs (i : Int)) fun _ => True := ⟨xs[i], by unfold gt; rw [if_pos (by omega)]; simp [h], trivial⟩
end
theorem W_succ {i : Nat} (h : i < 9223372036854775807) : W ((i : Int) + 1) = ((i + 1 : Nat) : Int) := by rw [W_id (by omega)]; omega
abbrev okc (c : UInt8) : Bool := (((decide ((97 : UInt8) ≤ c)) && (decide (c ≤ (122 : UInt8)))) || ((decide ((48 : UInt8) ≤ c)) && (decide (c ≤ (57 : UInt8))))) || (decide (c = (45 : UInt8)))
theorem okc_all : ((List.range 256).all fun n => decide (okc (UInt8.ofNat n) = (([97, 98, 99, 100, 101, 102, 103, 104, 105, 106, 107, 108, 109, 110, 111, 112, 113, 114, 115, 116, 117, 118, 119, 120, 121, 122, 48, 49, 50, 51, 52, 53, 54, 55, 56, 57, 45] : List UInt8)).contains (UInt8.ofNat n))) = true := by decide +kernel
theorem okc_eq (c : UInt8) : okc c = (([97, 98, 99, 100, 101, 102, 103, 104, 105, 106, 107, 108, 109, 110, 111, 112, 113, 114, 115, 116, 117, 118, 119, 120, 121, 122, 48, 49, 50, 51, 52, 53, 54, 55, 56, 57, 45] : List UInt8)).contains c := by
  have h:=(List.all_eq_true.1 okc_all) c.toNat (List.mem_range.2 c.toNat_lt)
  rw [UInt8.ofNat_toNat] at h
  exact of_decide_eq_true h
theorem isn_loop (s : List UInt8) (hs : s.length ≤ 9223372036854775807) : ∀ (k i : Nat), i ≤ s.length → s.length < i + k → holdfastref02_IsName.l1 k s (i : Int) = some (if (s.drop i).all okc = true then .go () else .ret false)
  | 0,i,h1,h2=>by omega
  | k + 1,i,h1,h2=>by
    unfold holdfastref02_IsName.l1
    by_cases hi:i < s.length
    · rw [if_pos (by simp;omega)]
      have hg:gt s (i:Int)=some s[i]:=by unfold gt;rw [if_pos (by omega)];simp [hi]
      have e:s.drop i=s[i] :: s.drop (i + 1):=List.drop_eq_getElem_cons hi
      rw [hg,e,List.all_cons]
      simp only [Option.bind_some]
      cases hc:okc s[i] with
      | true =>
        rw [if_neg (show ¬ (!okc s[i])=true by rw [hc];decide),W_succ (by omega),isn_loop s hs k (i + 1) (by omega) (by omega),Bool.true_and]
      | false =>
        rw [if_pos (show (!okc s[i])=true by rw [hc];rfl)];rfl
    · rw [if_neg (by simp;omega),List.drop_eq_nil_of_le (by omega)];rfl
theorem refIsName_eq (K : Nat) (s : List UInt8) (hs : s.length ≤ 9223372036854775807) (hK : s.length < K) : holdfastref02_IsName K s = some (nameS s) := by
  unfold holdfastref02_IsName nameS
  rw [show holdfastref02_IsName.l1 K s 0=some (if (s.drop 0).all okc=true then .go () else .ret false) from isn_loop s hs K 0 (by omega) (by omega)]
  have e:s.all okc=s.all fun c=>(([97,98,99,100,101,102,103,104,105,106,107,108,109,110,111,112,113,114,115,116,117,118,119,120,121,122,48,49,50,51,52,53,54,55,56,57,45] : List UInt8)).contains c:=by
    congr 1;funext c;exact okc_eq c
  rw [List.drop_zero,← e]
  cases h:s.all okc with
  | false=>simp [lrc]
  | true =>
    simp only [if_true,Option.bind_some,lrc,Bool.and_true]
    congr 1
    congr 1
    · cases s with
      | nil=>rfl
      | cons x s=>simp;omega
    · rw [decide_eq_decide];omega
def RB (n : Nat) (r : S_holdfastref13_Store) : Prop := r.c_.length ≤ n ∧ r.a.length ≤ n
theorem RB.mono {n m : Nat} {r : S_holdfastref13_Store} (h : RB n r) (hm : n ≤ m) : RB m r := ⟨Nat.le_trans h.1 hm, Nat.le_trans h.2 hm⟩
def Nm (K : Nat) (s : List UInt8) : Prop := s.length < K ∧ s.length ≤ 9223372036854775807
open Go L Go.Sort
theorem and_not {a b : UInt8} (h : a &&& ~~~b = 0) : a &&& b = a := by
  apply UInt8.toBitVec_inj.1
  apply BitVec.eq_of_getLsbD_eq
  intro i hi
  have h1:=congrArg (fun x:UInt8=>x.toBitVec.getLsbD i) h
  simp only [UInt8.toBitVec_and,UInt8.toBitVec_not,BitVec.getLsbD_and,BitVec.getLsbD_not] at h1 ⊢
  have h8:i < 8:=hi
  simp only [h8,decide_true,Bool.true_and] at h1
  have h0:(0:UInt8).toBitVec.getLsbD i=false:=by simp
  rw [h0] at h1
  revert h1
  cases a.toBitVec.getLsbD i <;> cases b.toBitVec.getLsbD i <;> simp
theorem and_nar {a c s : UInt8} (h : a &&& c = a) : (a &&& s) &&& (c &&& s) = a &&& s := by
  apply UInt8.toBitVec_inj.1
  apply BitVec.eq_of_getLsbD_eq
  intro i hi
  have h1:=congrArg (fun x:UInt8=>x.toBitVec.getLsbD i) h
  simp only [UInt8.toBitVec_and,BitVec.getLsbD_and] at h1 ⊢
  revert h1
  cases a.toBitVec.getLsbD i <;> cases c.toBitVec.getLsbD i <;> cases s.toBitVec.getLsbD i <;> simp
structure Inv (n : Nat) (s : S_grant_Store) : Prop where
  nc:NDK s.clients
  ns:NDK s.consents
  lt:s.clients.length + s.consents.length≤n
  nar:∀ u x,mget s.consents u=some x→∃ c,mget s.clients ⟨u.Owner.Tenant,u.client⟩=some c∧x &&& c.Scopes=x
theorem Inv.lc {n : Nat} {s : S_grant_Store} (h : Inv n s) : s.clients.length ≤ n := Nat.le_trans (Nat.le_add_right _ _) h.lt
theorem Inv.ls {n : Nat} {s : S_grant_Store} (h : Inv n s) : s.consents.length ≤ n := Nat.le_trans (Nat.le_add_left _ _) h.lt
theorem Inv.mono {n m : Nat} {s : S_grant_Store} (h : Inv n s) (hm : n ≤ m) : Inv m s := ⟨h.nc, h.ns, Nat.le_trans h.lt hm, h.nar⟩
theorem inv_reg {n : Nat} {s : S_grant_Store} (h : Inv n s) (c : S_api_Client) : Inv (n + 1) (regS s c).2 := by
  have hm:=h.mono (Nat.le_succ n)
  unfold regS
  split
  · exact hm
  · split
    · exact hm
    · split
      · exact hm
      · rename_i hk
        split
        · exact hm
        · refine ⟨mset_nd h.nc,h.ns,Nat.le_trans (Nat.add_le_add_right (mset_len _ _ _) _) (by have:=h.lt;(try dsimp only);omega),fun u x hu=>?_⟩
          obtain ⟨c',h1,h2⟩:=h.nar u x hu
          refine ⟨c',?_,h2⟩
          rw [mget_mset,if_neg]
          · exact h1
          · intro e;rw [e] at h1;rw [h1] at hk;simp at hk
theorem inv_allow {n : Nat} {s : S_grant_Store} (h : Inv n s) (c : S_api_Consent) : Inv (n + 1) (allowS s c).2 := by
  have hm:=h.mono (Nat.le_succ n)
  unfold allowS
  split
  · exact hm
  · split
    · exact hm
    · rename_i h1
      split
      · exact hm
      · rename_i h2
        split
        · exact hm
        · refine ⟨h.nc,mset_nd h.ns,Nat.le_trans (Nat.add_le_add_left (mset_len _ _ _) _) (by have:=h.lt;(try dsimp only);omega),fun u x hu=>?_⟩
          rw [mget_mset] at hu
          split at hu
          · rename_i e
            subst e
            cases hu
            unfold lookS at h1 h2
            cases hg:mget s.clients ⟨c.Owner.Tenant,c.Client⟩ with
            | none=>rw [hg] at h1;simp at h1
            | some c' =>
              rw [hg] at h2
              refine ⟨c',rfl,and_not ?_⟩
              simpa using h2
          · exact h.nar u x hu
theorem mget_nar (t n : List UInt8) (sc : UInt8) (m : List (S_grant_use × UInt8)) (u : S_grant_use) : mget (narM t n sc m) u = (mget m u).map fun x => if hit t n u = true then x &&& sc else x := by
  induction m with
  | nil=>rfl
  | cons p m ih =>
    unfold narM at *
    simp only [List.map_cons,mget]
    by_cases hp:p.1=u
    · subst hp
      by_cases hh:hit t n p.1=true
      · simp [hh]
      · simp [hh]
    · have e:(if hit t n p.1=true then (p.1,p.2 &&& sc) else p).1=p.1:=by split <;> rfl
      rw [e,if_neg hp,if_neg hp,ih]
theorem nar_keys (t n : List UInt8) (sc : UInt8) (m : List (S_grant_use × UInt8)) : (narM t n sc m).map (·.1) = m.map (·.1) := by
  unfold narM;rw [List.map_map]
  refine List.map_congr_left fun p _=>?_
  simp only [Function.comp];split <;> rfl
theorem hit_key {t n : List UInt8} {u : S_grant_use} : hit t n u = true ↔ (⟨u.Owner.Tenant, u.client⟩ : S_grant_name) = ⟨t, n⟩ := by
  unfold hit;simp
theorem inv_nar {n : Nat} {s : S_grant_Store} (h : Inv n s) (t m : List UInt8) (sc : UInt8) : Inv (n + 1) (narS s t m sc).2.2 := by
  have hm:=h.mono (Nat.le_succ n)
  unfold narS
  cases hg:mget s.clients ⟨t,m⟩ with
  | none=>exact hm
  | some c =>
    refine ⟨mset_nd h.nc,?_,?_,fun u x hu=>?_⟩
    · show ((narM t m sc s.consents).map (·.1)).Nodup
      rw [nar_keys];exact h.ns
    · show _ + (narM t m sc s.consents).length≤n + 1
      unfold narM;rw [List.length_map];exact Nat.le_trans (Nat.add_le_add_right (mset_len _ _ _) _) (by have:=h.lt;(try dsimp only);omega)
    · simp only [mget_nar] at hu
      cases hx:mget s.consents u with
      | none=>rw [hx] at hu;simp at hu
      | some y =>
        rw [hx] at hu
        simp only [Option.map_some,Option.some.injEq] at hu
        obtain ⟨c',h1,h2⟩:=h.nar u y hx
        by_cases hh:hit t m u=true
        · rw [if_pos hh] at hu
          rw [hit_key.1 hh] at h1 ⊢
          rw [hg] at h1;cases h1
          refine ⟨_,by rw [mget_mset,if_pos rfl],?_⟩
          rw [← hu];exact and_nar h2
        · rw [if_neg hh] at hu
          refine ⟨c',by rw [mget_mset,if_neg (fun e=>hh (hit_key.2 e))];exact h1,by rw [← hu];exact h2⟩
theorem mget_mdel {κ β : Type} [DecidableEq κ] {m : List (κ × β)} (hn : NDK m) (a b : κ) : mget (mdel m a) b = if b = a then none else mget m b := by
  rw [mdel_eq hn,mget_filter (fun k=>decide (k ≠ a))]
  by_cases h:b=a <;> simp [h]
theorem mdel_len {κ β : Type} [DecidableEq κ] {m : List (κ × β)} (hn : NDK m) (a : κ) : (mdel m a).length ≤ m.length := by rw [mdel_eq hn]; exact List.length_filter_le _ _
theorem mdel_nd {κ β : Type} [DecidableEq κ] {m : List (κ × β)} (hn : NDK m) (a : κ) : NDK (mdel m a) := by rw [mdel_eq hn]; exact filter_nd _ hn
theorem mget_hits (t n : List UInt8) (m : List (S_grant_use × UInt8)) (u : S_grant_use) : mget (m.filter fun q => !hit t n q.1) u = if hit t n u = true then none else mget m u := by
  rw [mget_filter (fun k => !hit t n k)]
  cases hit t n u <;> rfl
theorem inv_drop {n : Nat} {s : S_grant_Store} (h : Inv n s) (t m : List UInt8) : Inv (n + 1) (dropS s t m).2 := by
  have hm:=h.mono (Nat.le_succ n)
  unfold dropS
  cases hg:mget s.clients ⟨t,m⟩ with
  | none=>exact hm
  | some c =>
    refine ⟨mdel_nd h.nc _,filter_nd _ h.ns,Nat.le_trans (Nat.add_le_add (mdel_len h.nc _) (List.length_filter_le _ _)) hm.lt,fun u x hu=>?_⟩
    simp only [mget_hits] at hu
    by_cases hh:hit t m u=true
    · rw [if_pos hh] at hu;cases hu
    · rw [if_neg hh] at hu
      obtain ⟨c',h1,h2⟩:=h.nar u x hu
      exact ⟨c',by rw [mget_mdel h.nc,if_neg (fun e=>hh (hit_key.2 e))];exact h1,h2⟩
theorem inv_with {n : Nat} {s : S_grant_Store} (h : Inv n s) (o : S_api_Owner) (c : List UInt8) : Inv (n + 1) (withS s o c).2 := by
  have hm:=h.mono (Nat.le_succ n)
  unfold withS
  cases hg:mget s.consents ⟨o,c⟩ with
  | none=>exact hm
  | some x =>
    refine ⟨h.nc,mdel_nd h.ns _,Nat.le_trans (Nat.add_le_add_left (mdel_len h.ns _) _) hm.lt,fun u x hu=>?_⟩
    simp only [mget_mdel h.ns] at hu
    split at hu
    · cases hu
    · exact h.nar u x hu
theorem inv_dropUser {n : Nat} {s : S_grant_Store} (h : Inv n s) (o : S_api_Owner) : Inv (n + 1) (dropUserS s o).2 := by
  have hm:=h.mono (Nat.le_succ n)
  refine ⟨h.nc,filter_nd _ h.ns,Nat.le_trans (Nat.add_le_add_left (List.length_filter_le _ _) _) hm.lt,fun u x hu=>?_⟩
  have hu' : mget (s.consents.filter fun q => !decide (q.1.Owner=o)) u=some x:=hu
  rw [mget_filter (fun k:S_grant_use => !decide (k.Owner=o))] at hu'
  split at hu'
  · exact h.nar u x hu'
  · cases hu'
def NmD (K : Nat) (x : S_holdfastlaw13_Deed) : Prop := Nm K x.Owner.Tenant ∧ Nm K x.Owner.User ∧ Nm K x.Client
open Go L Go.Sort
/-! keys are names -/
structure NmS (s : S_grant_Store) : Prop where
  c:∀ k ∈ s.clients.map (·.1),nameS k.tenant=true∧nameS k.name=true
  u:∀ k ∈ s.consents.map (·.1),nameS k.Owner.Tenant=true∧nameS k.Owner.User=true∧nameS k.client=true
theorem mset_keys_sub {κ β : Type} [DecidableEq κ] {m : List (κ × β)} {a : κ} {v : β} {k : κ} (h : k ∈ (mset m a v).map (·.1)) : k = a ∨ k ∈ m.map (·.1) := by
  rw [mset_keys] at h
  split at h
  · exact .inr h
  · rcases List.mem_append.1 h with h | h
    · exact .inr h
    · exact .inl (by simpa using h)
theorem filter_keys_sub {κ β : Type} {m : List (κ × β)} {p : κ × β → Bool} {k : κ} (h : k ∈ (m.filter p).map (·.1)) : k ∈ m.map (·.1) := by
  obtain ⟨x,hx,rfl⟩:=List.mem_map.1 h
  exact List.mem_map.2 ⟨x,(List.mem_filter.1 hx).1,rfl⟩
theorem mdel_keys_sub {κ β : Type} [DecidableEq κ] {m : List (κ × β)} (hn : NDK m) {a k : κ} (h : k ∈ (mdel m a).map (·.1)) : k ∈ m.map (·.1) := by
  rw [mdel_eq hn] at h;exact filter_keys_sub h
theorem nms_reg {s : S_grant_Store} (h : NmS s) (c : S_api_Client) : NmS (regS s c).2 := by
  unfold regS
  split
  · exact h
  · rename_i h1
    simp only [Bool.or_eq_true,Bool.not_eq_true',not_or,Bool.not_eq_false] at h1
    split
    · exact h
    · split
      · exact h
      · split
        · exact h
        · refine ⟨fun k hk=>?_,h.u⟩
          rcases mset_keys_sub hk with rfl | hk
          · exact h1
          · exact h.c k hk
theorem look_key {s : S_grant_Store} (h : NmS s) {t n : List UInt8} (hl : (lookS s t n).2 = 0) : nameS t = true ∧ nameS n = true := by
  unfold lookS at hl
  cases hm:mget s.clients ⟨t,n⟩ with
  | none=>rw [hm] at hl;simp at hl
  | some c=>exact h.c ⟨t,n⟩ (List.mem_map.2 ⟨_,mget_mem hm,rfl⟩)
theorem nms_allow {s : S_grant_Store} (h : NmS s) (c : S_api_Consent) : NmS (allowS s c).2 := by
  unfold allowS
  split
  · exact h
  · rename_i h1
    simp only [Bool.or_eq_true,Bool.not_eq_true',not_or,Bool.not_eq_false] at h1
    split
    · exact h
    · rename_i h2
      split
      · exact h
      · split
        · exact h
        · refine ⟨h.c,fun k hk=>?_⟩
          rcases mset_keys_sub hk with rfl | hk
          · exact ⟨h1.1,h1.2,(look_key h (Decidable.not_not.1 h2)).2⟩
          · exact h.u k hk
theorem nms_nar {s : S_grant_Store} (h : NmS s) (t n : List UInt8) (sc : UInt8) : NmS (narS s t n sc).2.2 := by
  unfold narS
  cases hm:mget s.clients ⟨t,n⟩ with
  | none=>exact h
  | some c =>
    refine ⟨fun k hk=>?_,fun k hk=>?_⟩
    · rcases mset_keys_sub hk with rfl | hk
      · exact h.c ⟨t,n⟩ (List.mem_map.2 ⟨_,mget_mem hm,rfl⟩)
      · exact h.c k hk
    · rw [nar_keys] at hk;exact h.u k hk
theorem nms_drop {n : Nat} {s : S_grant_Store} (h : NmS s) (i : Inv n s) (t m : List UInt8) : NmS (dropS s t m).2 := by
  unfold dropS
  split
  · exact ⟨fun k hk=>h.c k (mdel_keys_sub i.nc hk),fun k hk=>h.u k (filter_keys_sub hk)⟩
  · exact h
theorem nms_with {n : Nat} {s : S_grant_Store} (h : NmS s) (i : Inv n s) (o : S_api_Owner) (c : List UInt8) : NmS (withS s o c).2 := by
  unfold withS
  split
  · exact ⟨h.c,fun k hk=>h.u k (mdel_keys_sub i.ns hk)⟩
  · exact h
theorem nms_dropUser {s : S_grant_Store} (h : NmS s) (o : S_api_Owner) : NmS (dropUserS s o).2 := ⟨h.c, fun k hk => h.u k (filter_keys_sub hk)⟩
/-! numbers of eight bits -/
def num8 (x : UInt8) : List UInt8 := (grant_number 1200 x).getD []
theorem num_all (k : Nat) : ((List.range 256).all fun n => decide (grant_number (k + 1200) (UInt8.ofNat n) = some (num8 (UInt8.ofNat n)))) = true := by kernel_rfl
theorem number_eq (k : Nat) (x : UInt8) : grant_number (k + 4000000000000) x = some (num8 x) := by
  have h:=List.all_eq_true.1 (num_all (k + 3999999998800)) x.toNat (List.mem_range.2 x.toNat_lt)
  simpa using h
/-! keys of rows -/
def keyC (k : S_grant_name) : List UInt8 := (k.tenant ++ [47]) ++ k.name
def keyU (k : S_grant_use) : List UInt8 := (((k.Owner.Tenant ++ [47]) ++ k.Owner.User) ++ [47]) ++ k.client
theorem name47 {s : List UInt8} (h : nameS s = true) : (47 : UInt8) ∉ s ∧ s.length ≤ 9 := by
  unfold nameS at h
  simp only [Bool.and_eq_true,decide_eq_true_eq,List.all_eq_true] at h
  refine ⟨fun hm=>?_,h.1.2⟩
  have:=h.2 47 hm
  revert this;decide
theorem keyC_inj {k k' : S_grant_name} (h : nameS k.tenant = true) (h' : nameS k'.tenant = true) (e : keyC k = keyC k') : k = k' := by
  obtain ⟨e1,e2⟩:=cut_inj (name47 h).1 (name47 h').1 e
  cases k;cases k';simp_all
theorem keyU_inj {k k' : S_grant_use} (h : nameS k.Owner.Tenant = true ∧ nameS k.Owner.User = true) (h' : nameS k'.Owner.Tenant = true ∧ nameS k'.Owner.User = true) (e : keyU k = keyU k') : k = k' := by
  have e0:(k.Owner.Tenant++[47])++((k.Owner.User++[47])++k.client)=(k'.Owner.Tenant++[47])++((k'.Owner.User++[47])++k'.client):=by simpa [keyU] using e
  obtain ⟨e1,e2⟩:=cut_inj (name47 h.1).1 (name47 h'.1).1 e0
  obtain ⟨e3,e4⟩:=cut_inj (name47 h.2).1 (name47 h'.2).1 e2
  obtain ⟨⟨_,_⟩,_⟩:=k;obtain ⟨⟨_,_⟩,_⟩:=k';simp_all
theorem keyCU {k : S_grant_name} {u : S_grant_use} (h : nameS k.tenant = true ∧ nameS k.name = true) (h' : nameS u.Owner.Tenant = true) (e : keyC k = keyU u) : False := by
  have e0:(k.tenant++[47])++k.name=(u.Owner.Tenant++[47])++((u.Owner.User++[47])++u.client):=by simpa [keyU,keyC] using e
  obtain ⟨_,e2⟩:=cut_inj (name47 h.1).1 (name47 h').1 e0
  exact (name47 h.2).1 (by rw [e2];simp)
/-! rows -/
def rowC (x : S_grant_name × S_api_Client) : S_api_Row := ⟨keyC x.1, [x.2.Redirect, num8 x.2.Scopes]⟩
def rowU (x : S_grant_use × UInt8) : S_api_Row := ⟨keyU x.1, [num8 x.2]⟩
noncomputable def rowsS (s : S_grant_Store) : List S_api_Row := sortS (fun (a b : S_api_Row) => cmpS a.Key b.Key) (s.clients.map rowC ++ s.consents.map rowU)
theorem rowC_fold (k : Nat) : ∀ (l : List (S_grant_name × S_api_Client)) (out : List S_api_Row), (∀ x ∈ l, nameS x.1.tenant = true ∧ nameS x.1.name = true) → out.length + l.length ≤ 5277655813324 →
    mfold (grant_Store_Rows.m1 (k + 4000000000000)) l out=some (.go (out++l.map rowC))
  | [],out,_,_=>by simp [mfold]
  | y :: l,out,hn,hl=>by
    have hy:=hn y List.mem_cons_self
    have l1:=(name47 hy.1).2;have l2:=(name47 hy.2).2
    simp only [List.length_cons] at hl
    have a1:app 9223372036854775807 y.1.tenant ([47] : List UInt8)=some (y.1.tenant++[47]):=by unfold app;rw [if_pos (by simp only [List.length_cons,List.length_nil];omega)]
    have a2:app 9223372036854775807 (y.1.tenant++[47]) y.1.name=some ((y.1.tenant++[47])++y.1.name):=by unfold app;rw [if_pos (by simp only [List.length_append,List.length_cons,List.length_nil];omega)]
    have a3:app 5277655813324 out ([rowC y] : List S_api_Row)=some (out++[rowC y]):=by unfold app;rw [if_pos (by simp only [List.length_cons,List.length_nil];omega)]
    have hB:grant_Store_Rows.m1 (k + 4000000000000) y out=some (.go (out++[rowC y])):=by
      unfold grant_Store_Rows.m1
      simp only [a1,a2,number_eq,Option.bind_some]
      exact congrArg (fun z=>Option.bind z _) a3 |>.trans rfl
    simp only [mfold,hB,Option.bind_some,lrc]
    rw [rowC_fold k l _ (fun x hx=>hn x (List.mem_cons_of_mem _ hx)) (by simp only [List.length_append,List.length_cons,List.length_nil];omega),List.map_cons,List.append_assoc];rfl
theorem rowU_fold (k : Nat) : ∀ (l : List (S_grant_use × UInt8)) (out : List S_api_Row), (∀ x ∈ l, nameS x.1.Owner.Tenant = true ∧ nameS x.1.Owner.User = true ∧ nameS x.1.client = true) → out.length + l.length ≤ 5277655813324 →
    mfold (grant_Store_Rows.m2 (k + 4000000000000)) l out=some (.go (out++l.map rowU))
  | [],out,_,_=>by simp [mfold]
  | y :: l,out,hn,hl=>by
    have hy:=hn y List.mem_cons_self
    have l1:=(name47 hy.1).2;have l2:=(name47 hy.2.1).2;have l3:=(name47 hy.2.2).2
    simp only [List.length_cons] at hl
    have a1:app 9223372036854775807 y.1.Owner.Tenant ([47] : List UInt8)=some (y.1.Owner.Tenant++[47]):=by unfold app;rw [if_pos (by simp only [List.length_cons,List.length_nil];omega)]
    have a2:app 9223372036854775807 (y.1.Owner.Tenant++[47]) y.1.Owner.User=some ((y.1.Owner.Tenant++[47])++y.1.Owner.User):=by unfold app;rw [if_pos (by simp only [List.length_append,List.length_cons,List.length_nil];omega)]
    have a4:app 9223372036854775807 ((y.1.Owner.Tenant++[47])++y.1.Owner.User) ([47] : List UInt8)=some (((y.1.Owner.Tenant++[47])++y.1.Owner.User)++[47]):=by unfold app;rw [if_pos (by simp only [List.length_append,List.length_cons,List.length_nil];omega)]
    have a5:app 9223372036854775807 (((y.1.Owner.Tenant++[47])++y.1.Owner.User)++[47]) y.1.client=some (keyU y.1):=by unfold app keyU;rw [if_pos (by simp only [List.length_append,List.length_cons,List.length_nil];omega)]
    have a3:app 5277655813324 out ([rowU y] : List S_api_Row)=some (out++[rowU y]):=by unfold app;rw [if_pos (by simp only [List.length_cons,List.length_nil];omega)]
    have hB:grant_Store_Rows.m2 (k + 4000000000000) y out=some (.go (out++[rowU y])):=by
      unfold grant_Store_Rows.m2
      simp only [a1,a2,a4,a5,number_eq,Option.bind_some]
      exact congrArg (fun z=>Option.bind z _) a3 |>.trans rfl
    simp only [mfold,hB,Option.bind_some,lrc]
    rw [rowU_fold k l _ (fun x hx=>hn x (List.mem_cons_of_mem _ hx)) (by simp only [List.length_append,List.length_cons,List.length_nil];omega),List.map_cons,List.append_assoc];rfl
theorem rows_nd {s : S_grant_Store} (hc : NDK s.clients) (hu : NDK s.consents) (h : NmS s) : ((s.clients.map rowC ++ s.consents.map rowU).map (·.Key)).Nodup := by
  rw [List.map_append,List.map_map,List.map_map]
  rw [show (fun x:S_api_Row=>x.Key) ∘ rowC=keyC ∘ (·.1) from rfl,show (fun x:S_api_Row=>x.Key) ∘ rowU=keyU ∘ (·.1) from rfl,← List.map_map,← List.map_map]
  rw [List.nodup_append]
  refine ⟨nodup_map hc fun a ha b hb=>keyC_inj (h.c a ha).1 (h.c b hb).1,nodup_map hu fun a ha b hb=>keyU_inj ⟨(h.u a ha).1,(h.u a ha).2.1⟩ ⟨(h.u b hb).1,(h.u b hb).2.1⟩,fun a ha b hb e=>?_⟩
  obtain ⟨k,hk,rfl⟩:=List.mem_map.1 ha
  obtain ⟨u,hu,rfl⟩:=List.mem_map.1 hb
  exact keyCU (h.c k hk) (h.u u hu).1 e
theorem key_inj' {xs : List S_api_Row} (hn : (xs.map (·.Key)).Nodup) : ∀ a b, a ∈ xs → b ∈ xs → ltOf (fun (a b : S_api_Row) => cmpS a.Key b.Key) b a = false → ltOf (fun (a b : S_api_Row) => cmpS a.Key b.Key) a b = false → a = b :=
  fun a b ha hb h1 h2=>key_inj (key:=fun x:S_api_Row=>x.Key) hn a b ha hb (cmpS_eq h1 h2)
theorem Rows_eq (k : Nat) (s : S_grant_Store) (hc : NDK s.clients) (hu : NDK s.consents) (h : NmS s) (l1 : s.clients.length + s.consents.length ≤ 3750000000000) : grant_Store_Rows (k + 4000000000000) s = some (rowsS s) := by
  unfold grant_Store_Rows
  have hm:∀ {κ β:Type} {l m:List (κ × β)},l.Perm m→∀ x ∈ l,x.1 ∈ m.map (·.1):=fun hp x hx=>List.mem_map.2 ⟨x,hp.mem_iff.1 hx,rfl⟩
  refine mrngK_eq fun l hp=>?_
  rw [rowC_fold k l [] (fun x hx=>h.c x.1 (hm hp x hx)) (by have:=hp.length_eq;simp only [List.length_nil];omega)]
  simp only [Option.bind_some,lrc,List.nil_append]
  refine mrngK_eq fun l' hp'=>?_
  rw [rowU_fold k l' _ (fun x hx=>h.u x.1 (hm hp' x hx)) (by have:=hp'.length_eq;have:=hp.length_eq;simp only [List.length_map];omega)]
  simp only [Option.bind_some]
  have hP:(s.clients.map rowC++s.consents.map rowU).Perm (l.map rowC++l'.map rowU):=(hp.symm.map _).append (hp'.symm.map _)
  have hN:=rows_nd hc hu h
  unfold api_Row_42_f43
  rw [if_pos ⟨by rw [← hP.length_eq];simp only [List.length_append,List.length_map];omega,(hP.map _).nodup_iff.1 hN⟩]
  unfold rowsS
  rw [sortS_eq _ (swo_str fun a:S_api_Row=>a.Key) hP (key_inj' hN)];rfl
/-! the same rows -/
open Go L Go.Sort
abbrev GS := S_grant_Store
abbrev RS := S_holdfastref13_Store
def conO (x : S_grant_use × UInt8) : S_api_Consent := ⟨x.1.Owner, x.1.client, x.2⟩
def kU (x : S_api_Consent) : S_grant_use := ⟨x.Owner, x.Client⟩
def kN (x : S_api_Client) : S_grant_name := ⟨x.Tenant, x.Name⟩
structure Rel (n : Nat) (s : GS) (r : RS) : Prop where
  inv:Inv n s
  nm:NmS s
  c:r.c_=s.clients.map (·.2)
  kv:∀ x ∈ s.clients,x.1=kN x.2
  a:r.a.Perm (s.consents.map conO)
variable {n : Nat} {s : GS} {r : RS} {K : Nat}
theorem Rel.cl (h : Rel n s r) : r.c_.length ≤ n := by rw [h.c, List.length_map]; exact h.inv.lc
theorem Rel.al (h : Rel n s r) : r.a.length ≤ n := by rw [h.a.length_eq, List.length_map]; exact h.inv.ls
theorem Rel.sum (h : Rel n s r) : r.c_.length + r.a.length ≤ n := by rw [h.c, h.a.length_eq, List.length_map, List.length_map]; exact h.inv.lt
theorem Rel.mono {m : Nat} (h : Rel n s r) (hm : n ≤ m) : Rel m s r := ⟨h.inv.mono hm, h.nm, h.c, h.kv, h.a⟩
theorem Rel.cn (h : Rel n s r) : (r.c_.map kN).Nodup := by
  rw [h.c,List.map_map]
  have:s.clients.map (kN ∘ (·.2))=s.clients.map (·.1):=List.map_congr_left fun x hx=>(h.kv x hx).symm
  rw [this];exact h.inv.nc
theorem Rel.an (h : Rel n s r) : (r.a.map kU).Nodup := by
  refine ((h.a.map kU).nodup_iff).2 ?_
  rw [List.map_map]
  exact h.inv.ns
def pN (t m : List UInt8) (x : S_api_Client) : Bool := decide (kN x = ⟨t, m⟩)
def pU (o : S_api_Owner) (c : List UInt8) (x : S_api_Consent) : Bool := decide (kU x = ⟨o, c⟩)
theorem pN_eq (t m : List UInt8) (x : S_api_Client) : pN t m x = (decide (x.Tenant = t) && decide (x.Name = m)) := by
  unfold pN kN;rw [← Bool.decide_and];exact decide_eq_decide.2 (by rw [S_grant_name.mk.injEq])
theorem pU_eq (o : S_api_Owner) (c : List UInt8) (x : S_api_Consent) : pU o c x = (decide (x.Owner = o) && decide (x.Client = c)) := by
  unfold pU kU;rw [← Bool.decide_and];exact decide_eq_decide.2 (by rw [S_grant_use.mk.injEq])
theorem rclient_ix (s : RS) (t m : List UInt8) (hK : s.c_.length < K) (hl : s.c_.length ≤ 3750000000000) : holdfastref13_Store_client K s t m = some (ix (pN t m) s.c_) := by
  refine find_ix (l:=s.c_) (p:=pN t m) (g:=fun k i=>holdfastref13_Store_client.l1 k s t m (i:Int)) (fun k=>?_) (fun k i h=>?_) hK
  · rw [holdfastref13_Store_client.l1,if_neg (by simp)]
  · rw [holdfastref13_Store_client.l1,if_pos (decide_eq_true (by omega)),gtn h,Option.bind_some,pN_eq,wsucc (by omega)]
    by_cases h1:s.c_[i].Tenant=t
    · by_cases h2:s.c_[i].Name=m <;> simp [h1,h2]
    · simp [h1]
theorem rconsent_ix (s : RS) (o : S_api_Owner) (m : List UInt8) (hK : s.a.length < K) (hl : s.a.length ≤ 3750000000000) : holdfastref13_Store_consent K s o m = some (ix (pU o m) s.a) := by
  refine find_ix (l:=s.a) (p:=pU o m) (g:=fun k i=>holdfastref13_Store_consent.l1 k s o m (i:Int)) (fun k=>?_) (fun k i h=>?_) hK
  · rw [holdfastref13_Store_consent.l1,if_neg (by simp)]
  · rw [holdfastref13_Store_consent.l1,if_pos (decide_eq_true (by omega)),gtn h,Option.bind_some,pU_eq,wsucc (by omega)]
    by_cases h1:s.a[i].Owner=o
    · by_cases h2:s.a[i].Client=m <;> simp [h1,h2]
    · simp [h1]
theorem Rel.client (h : Rel n s r) (t m : List UInt8) : (ix (pN t m) r.c_ = -1 ∧ mget s.clients ⟨t, m⟩ = none) ∨ ∃ (j : Nat) (hj : j < r.c_.length), ix (pN t m) r.c_ = j ∧ pN t m r.c_[j] = true ∧ mget s.clients ⟨t, m⟩ = some r.c_[j] := by
  rcases ix_cases (pN t m) r.c_ with ⟨h1,h2⟩ | ⟨j,h1,h2,h3⟩
  · refine .inl ⟨h1,mget_none.2 fun hm=>?_⟩
    obtain ⟨x,hx,e⟩:=List.mem_map.1 hm
    have:=h2 x.2 (by rw [h.c];exact List.mem_map.2 ⟨x,hx,rfl⟩)
    unfold pN at this;rw [← h.kv x hx,decide_eq_false_iff_not] at this;exact this e
  · refine .inr ⟨j,h2,h1,h3,?_⟩
    have hm:r.c_[j] ∈ s.clients.map (·.2):=by rw [← h.c];exact List.getElem_mem _
    obtain ⟨x,hx,e⟩:=List.mem_map.1 hm
    unfold pN at h3;rw [← e,← h.kv x hx,decide_eq_true_eq] at h3
    rw [← e,← h3];exact mem_mget h.inv.nc hx
theorem Rel.consent (h : Rel n s r) (o : S_api_Owner) (m : List UInt8) : (ix (pU o m) r.a = -1 ∧ mget s.consents ⟨o, m⟩ = none) ∨ ∃ (j : Nat) (hj : j < r.a.length) (x : UInt8), ix (pU o m) r.a = j ∧ r.a[j] = ⟨o, m, x⟩ ∧ mget s.consents ⟨o, m⟩ = some x := by
  rcases ix_cases (pU o m) r.a with ⟨h1,h2⟩ | ⟨j,h1,h2,h3⟩
  · refine .inl ⟨h1,mget_none.2 fun hm=>?_⟩
    obtain ⟨x,hx,e⟩:=List.mem_map.1 hm
    have:=h2 (conO x) (h.a.mem_iff.2 (List.mem_map.2 ⟨x,hx,rfl⟩))
    unfold pU at this;rw [decide_eq_false_iff_not] at this;exact this e
  · have hm:r.a[j] ∈ s.consents.map conO:=h.a.mem_iff.1 (List.getElem_mem _)
    obtain ⟨x,hx,e⟩:=List.mem_map.1 hm
    unfold pU at h3;rw [← e,decide_eq_true_eq] at h3
    have h3' : x.1=⟨o,m⟩:=h3
    refine .inr ⟨j,h2,x.2,h1,?_,?_⟩
    · rw [← e];unfold conO;rw [h3']
    · rw [← h3'];exact mem_mget h.inv.ns hx
/-! lists of a tenant's clients, of a user's consents -/
def cfC (a b : S_api_Client) : Int := cmpS a.Name b.Name
def cfO (a b : S_api_Consent) : Int := cmpS a.Client b.Client
theorem ltC (a b : S_api_Client) : ltOf cfC a b = ltS a.Name b.Name := by unfold ltOf cfC; rw [cmpS_dec]
theorem ltO (a b : S_api_Consent) : ltOf cfO a b = ltS a.Client b.Client := by unfold ltOf cfO; rw [cmpS_dec]
theorem swoC : SWO (ltOf cfC) := swo_str fun a : S_api_Client => a.Name
theorem swoO : SWO (ltOf cfO) := swo_str fun a : S_api_Consent => a.Client
theorem colC_eq (h : Rel n s r) (t : List UInt8) : colC t s.clients = r.c_.filter fun x => decide (x.Tenant = t) := by
  rw [h.c];unfold colC
  have key:∀ l:List (S_grant_name × S_api_Client),(∀ x ∈ l,x.1=kN x.2)→(l.filterMap fun x=>if x.1.tenant=t then some x.2 else none)=(l.map (·.2)).filter fun x=>decide (x.Tenant=t):=by
    intro l
    induction l with
    | nil=>intro _;rfl
    | cons y l ih =>
      intro hl
      have hy:=hl y List.mem_cons_self
      rw [List.filterMap_cons,List.map_cons,List.filter_cons,ih fun x hx=>hl x (List.mem_cons_of_mem _ hx)]
      have:y.1.tenant=y.2.Tenant:=by rw [hy];rfl
      by_cases e:y.2.Tenant=t
      · simp [this,e]
      · simp [this,e]
  exact key _ h.kv
theorem col_perm (h : Rel n s r) (o : S_api_Owner) : (r.a.filter fun x => decide (x.Owner = o)).Perm (col o s.consents) := by
  have key:∀ l:List (S_grant_use × UInt8),(l.map conO).filter (fun x=>decide (x.Owner=o))=col o l:=by
    intro l
    induction l with
    | nil=>rfl
    | cons y l ih =>
      unfold col at *
      rw [List.map_cons,List.filter_cons,List.filterMap_cons,ih]
      by_cases e:y.1.Owner=o
      · rw [if_pos (show decide ((conO y).Owner=o)=true from decide_eq_true e),if_pos e];subst e;rfl
      · rw [if_neg (show ¬ decide ((conO y).Owner=o)=true from fun h=>e (of_decide_eq_true h)),if_neg e]
  rw [← key];exact h.a.filter _
theorem injC {l : List S_api_Client} (hn : (l.map kN).Nodup) (t : List UInt8) : ∀ a b, a ∈ l.filter (fun x => decide (x.Tenant = t)) → b ∈ l.filter (fun x => decide (x.Tenant = t)) → ltOf cfC b a = false → ltOf cfC a b = false → a = b := by
  intro a b ha hb h1 h2
  rw [List.mem_filter,decide_eq_true_eq] at ha hb
  have e:a.Name=b.Name:=by rw [ltC] at h1 h2;exact ltS_tri _ _ h2 h1
  have hk:kN a=kN b:=by unfold kN;rw [ha.2,hb.2,e]
  obtain ⟨i,hi,rfl⟩:=List.mem_iff_getElem.1 ha.1
  obtain ⟨j,hj,rfl⟩:=List.mem_iff_getElem.1 hb.1
  have:=uq_of hn (kN l[j]) i j hi hj (decide_eq_true hk) (decide_eq_true rfl)
  subst this;rfl
theorem injO {l : List S_api_Consent} (hn : (l.map kU).Nodup) (o : S_api_Owner) : ∀ a b, a ∈ l.filter (fun x => decide (x.Owner = o)) → b ∈ l.filter (fun x => decide (x.Owner = o)) → ltOf cfO b a = false → ltOf cfO a b = false → a = b := by
  intro a b ha hb h1 h2
  rw [List.mem_filter,decide_eq_true_eq] at ha hb
  have e:a.Client=b.Client:=by rw [ltO] at h1 h2;exact ltS_tri _ _ h2 h1
  have hk:kU a=kU b:=by unfold kU;rw [ha.2,hb.2,e]
  obtain ⟨i,hi,rfl⟩:=List.mem_iff_getElem.1 ha.1
  obtain ⟨j,hj,rfl⟩:=List.mem_iff_getElem.1 hb.1
  have:=uq_of hn (kU l[j]) i j hi hj (decide_eq_true hk) (decide_eq_true rfl)
  subst this;rfl
theorem rcl_l2 (s : RS) (out : List S_api_Client) (i : Nat) (hi : i < s.c_.length) (ho : out.length < 4611686018427387904) (k : Nat) (hk : out.length < k) :
    ∃ q:Nat,q≤out.length∧holdfastref13_Store_Clients.l2 k out s (i:Int) (out.length:Int)=some (q:Int)∧(∀ y ∈ out.drop q,ltOf cfC s.c_[i] y=true)∧∀ y,0 < q→out[q - 1]?=some y→ltOf cfC s.c_[i] y=false:=by
  refine l2_spec (lt:=ltOf cfC) (x:=s.c_[i]) (out:=out) (g:=fun k p=>holdfastref13_Store_Clients.l2 k out s (i:Int) (p:Int)) (fun k=>?_) (fun k p hp=>?_) k out.length (Nat.le_refl _) hk (by simp)
  · rw [holdfastref13_Store_Clients.l2,if_neg (by simp)];rfl
  · rw [holdfastref13_Store_Clients.l2,if_pos (decide_eq_true (by omega)),wpred (by omega) (by omega),Nat.add_sub_cancel,gtn hp,Option.bind_some,gtn hi,Option.bind_some,gtS_eq,ltC]
theorem rco_l2 (s : RS) (out : List S_api_Consent) (i : Nat) (hi : i < s.a.length) (ho : out.length < 4611686018427387904) (k : Nat) (hk : out.length < k) :
    ∃ q:Nat,q≤out.length∧holdfastref13_Store_Consents.l2 k out s (i:Int) (out.length:Int)=some (q:Int)∧(∀ y ∈ out.drop q,ltOf cfO s.a[i] y=true)∧∀ y,0 < q→out[q - 1]?=some y→ltOf cfO s.a[i] y=false:=by
  refine l2_spec (lt:=ltOf cfO) (x:=s.a[i]) (out:=out) (g:=fun k p=>holdfastref13_Store_Consents.l2 k out s (i:Int) (p:Int)) (fun k=>?_) (fun k p hp=>?_) k out.length (Nat.le_refl _) hk (by simp)
  · rw [holdfastref13_Store_Consents.l2,if_neg (by simp)];rfl
  · rw [holdfastref13_Store_Consents.l2,if_pos (decide_eq_true (by omega)),wpred (by omega) (by omega),Nat.add_sub_cancel,gtn hp,Option.bind_some,gtn hi,Option.bind_some,gtS_eq,ltO]
theorem flat_filter {α : Type} (p : α → Bool) (l : List α) : l.flatMap (fun x => if p x = true then [x] else []) = l.filter p := by
  induction l with
  | nil=>rfl
  | cons y l ih=>rw [List.flatMap_cons,List.filter_cons,ih];split <;> rfl
theorem rClients_eq (h : Rel n s r) (hn : n ≤ 3750000000000) (hK : 3750000000000 < K) (t : List UInt8) : holdfastref13_Store_Clients K r t = some (sortS cfC (colC t s.clients)) := by
  have hl:=h.cl
  have key:=l1_spec (lt:=ltOf cfC) (n:=r.c_.length) (sel:=fun i=>(r.c_[i]?).elim [] fun y=>if (fun x:S_api_Client=>decide (x.Tenant=t)) y=true then [y] else []) (g:=fun k i out=>holdfastref13_Store_Clients.l1 K k r t out (i:Int))
    (fun k out=>by rw [holdfastref13_Store_Clients.l1,if_neg (by simp)])
    (fun k i out hi ho hs=>by
      by_cases ht:r.c_[i].Tenant=t
      · obtain ⟨q,h1,h2,h3,h4⟩:=rcl_l2 r out i hi (by omega) K (by omega)
        refine ⟨out.take q++[r.c_[i]]++out.drop q,?_,ins_sd swoC hs h1 h3 h4,?_,?_⟩
        · rw [holdfastref13_Store_Clients.l1,if_pos (by simpa using hi),gtn hi,Option.bind_some,if_neg (by simpa using ht),h2,Option.bind_some,show sub out 0 (q:Int)=some ((out.take q).drop 0) from subn (Nat.zero_le _) h1,Option.bind_some,List.drop_zero,
            appn (by simp only [List.length_nil,List.length_take];omega),Option.bind_some,Option.bind_some,Option.bind_some,List.nil_append,
            appn (by simp only [List.length_take,List.length_cons,List.length_nil];omega),Option.bind_some,subn h1 (Nat.le_refl _),Option.bind_some,List.take_length,
            appn (by simp only [List.length_append,List.length_take,List.length_drop,List.length_cons,List.length_nil];omega),Option.bind_some,wsucc (by omega)]
        · rw [List.getElem?_eq_getElem hi]
          simp only [Option.elim_some,ht,decide_true,if_true];exact ins_perm _ _ _
        · simp only [List.length_append,List.length_take,List.length_drop,List.length_cons,List.length_nil];omega
      · refine ⟨out,?_,hs,?_,by omega⟩
        · rw [holdfastref13_Store_Clients.l1,if_pos (by simpa using hi),gtn hi,Option.bind_some,if_pos (by simpa using ht),wsucc (by omega)]
        · rw [List.getElem?_eq_getElem hi];simp [ht])
    r.c_.length K 0 [] (by omega) (by omega) (Nat.le_refl _) List.Pairwise.nil
  obtain ⟨z,h1,h2,h3⟩:=key
  rw [List.nil_append,range_sel (fun y=>if (fun x:S_api_Client=>decide (x.Tenant=t)) y=true then [y] else []) r.c_,flat_filter] at h3
  unfold holdfastref13_Store_Clients
  rw [show holdfastref13_Store_Clients.l1 K K r t [] 0=some z from h1,Option.bind_some,colC_eq h]
  rw [sd_sortS cfC swoC h2 h3 (injC h.cn t)]
theorem rConsents_eq (h : Rel n s r) (hn : n ≤ 3750000000000) (hK : 3750000000000 < K) (o : S_api_Owner) : holdfastref13_Store_Consents K r o = some (sortS cfO (col o s.consents)) := by
  have hl:=h.al
  have key:=l1_spec (lt:=ltOf cfO) (n:=r.a.length) (sel:=fun i=>(r.a[i]?).elim [] fun y=>if (fun x:S_api_Consent=>decide (x.Owner=o)) y=true then [y] else []) (g:=fun k i out=>holdfastref13_Store_Consents.l1 K k r o out (i:Int))
    (fun k out=>by rw [holdfastref13_Store_Consents.l1,if_neg (by simp)])
    (fun k i out hi ho hs=>by
      by_cases ht:r.a[i].Owner=o
      · obtain ⟨q,h1,h2,h3,h4⟩:=rco_l2 r out i hi (by omega) K (by omega)
        refine ⟨out.take q++[r.a[i]]++out.drop q,?_,ins_sd swoO hs h1 h3 h4,?_,?_⟩
        · rw [holdfastref13_Store_Consents.l1,if_pos (by simpa using hi),gtn hi,Option.bind_some,if_neg (by simpa using ht),h2,Option.bind_some,show sub out 0 (q:Int)=some ((out.take q).drop 0) from subn (Nat.zero_le _) h1,Option.bind_some,List.drop_zero,
            appn (by simp only [List.length_nil,List.length_take];omega),Option.bind_some,Option.bind_some,Option.bind_some,List.nil_append,
            appn (by simp only [List.length_take,List.length_cons,List.length_nil];omega),Option.bind_some,subn h1 (Nat.le_refl _),Option.bind_some,List.take_length,
            appn (by simp only [List.length_append,List.length_take,List.length_drop,List.length_cons,List.length_nil];omega),Option.bind_some,wsucc (by omega)]
        · rw [List.getElem?_eq_getElem hi]
          simp only [Option.elim_some,ht,decide_true,if_true];exact ins_perm _ _ _
        · simp only [List.length_append,List.length_take,List.length_drop,List.length_cons,List.length_nil];omega
      · refine ⟨out,?_,hs,?_,by omega⟩
        · rw [holdfastref13_Store_Consents.l1,if_pos (by simpa using hi),gtn hi,Option.bind_some,if_pos (by simpa using ht),wsucc (by omega)]
        · rw [List.getElem?_eq_getElem hi];simp [ht])
    r.a.length K 0 [] (by omega) (by omega) (Nat.le_refl _) List.Pairwise.nil
  obtain ⟨z,h1,h2,h3⟩:=key
  rw [List.nil_append,range_sel (fun y=>if (fun x:S_api_Consent=>decide (x.Owner=o)) y=true then [y] else []) r.a,flat_filter] at h3
  unfold holdfastref13_Store_Consents
  rw [show holdfastref13_Store_Consents.l1 K K r o [] 0=some z from h1,Option.bind_some]
  have hp:=col_perm h o
  rw [sd_sortS cfO swoO h2 h3 (injO h.an o),sortS_eq cfO swoO hp (injO h.an o)]
open Go L Go.Sort
variable {n : Nat} {s : GS} {r : RS} {K : Nat}
/-! is there room? -/
theorem dd_snoc (l : List (List UInt8)) (x : List UInt8) : (dd (l ++ [x])).length = (dd l).length + if x ∈ l then 0 else 1 := by
  by_cases h:x ∈ l
  · rw [if_pos h]
    exact ((List.perm_ext_iff_of_nodup (nd_dd _) (nd_dd _)).2 fun a=>by
      rw [mem_dd,mem_dd,List.mem_append,List.mem_singleton];exact ⟨fun h2=>h2.elim id fun e=>e ▸ h,.inl⟩).length_eq
  · rw [if_neg h]
    have hn:(x :: dd l).Nodup:=List.nodup_cons.2 ⟨by rw [mem_dd];exact h,nd_dd l⟩
    exact ((List.perm_ext_iff_of_nodup (nd_dd _) hn).2 fun a=>by
      rw [mem_dd,List.mem_append,List.mem_singleton,List.mem_cons,mem_dd];exact Or.comm).length_eq
theorem rfull_l2 (s : RS) (i : Nat) (hi : i < s.c_.length) (hl : s.c_.length ≤ 3750000000000) : ∀ (d k j : Nat) (f : Bool), j + d = i → d < k →
    holdfastref13_Store_full.l2 k (i:Int) s f (j:Int)=some (f && ((s.c_.drop j).take d).all fun x => !decide (x.Tenant=s.c_[i].Tenant))
  | 0,k,j,f,h1,h2=>by
    obtain ⟨k,rfl⟩ : ∃ k',k=k' + 1:=⟨k - 1,by omega⟩
    rw [holdfastref13_Store_full.l2,if_neg (by simp <;> omega)];simp
  | d + 1,k,j,f,h1,h2=>by
    obtain ⟨k,rfl⟩ : ∃ k',k=k' + 1:=⟨k - 1,by omega⟩
    have hj:j < s.c_.length:=by omega
    rw [holdfastref13_Store_full.l2,if_pos (by simp <;> omega),List.drop_eq_getElem_cons hj,List.take_succ_cons,List.all_cons,wsucc (by omega)]
    cases f with
    | false=>rw [if_neg (by simp),rfull_l2 s i hi hl d k (j + 1) false (by omega) (by omega)];simp
    | true=>rw [if_pos rfl,gtn hj,Option.bind_some,gtn hi,Option.bind_some,rfull_l2 s i hi hl d k (j + 1) _ (by omega) (by omega)];simp
theorem rfull_l1 (s : RS) (hl : s.c_.length ≤ 3750000000000) (hK : 3750000000000 < K) : ∀ (d k i : Nat), i + d = s.c_.length → d < k →
    holdfastref13_Store_full.l1 K k s ((dd ((s.c_.take i).map (·.Tenant))).length:Int) (i:Int)=some ((dd (s.c_.map (·.Tenant))).length:Int)
  | 0,k,i,h1,h2=>by
    obtain ⟨k,rfl⟩ : ∃ k',k=k' + 1:=⟨k - 1,by omega⟩
    rw [holdfastref13_Store_full.l1,if_neg (by simp <;> omega),List.take_of_length_le (by omega)]
  | d + 1,k,i,h1,h2=>by
    obtain ⟨k,rfl⟩ : ∃ k',k=k' + 1:=⟨k - 1,by omega⟩
    have hi:i < s.c_.length:=by omega
    have h3:=rfull_l2 s i hi hl i K 0 true (by omega) (by omega)
    rw [List.drop_zero,Bool.true_and] at h3
    have h4:(dd ((s.c_.take (i + 1)).map (·.Tenant))).length=(dd ((s.c_.take i).map (·.Tenant))).length + if s.c_[i].Tenant ∈ (s.c_.take i).map (·.Tenant) then 0 else 1:=by
      rw [List.take_add_one,List.getElem?_eq_getElem hi,List.map_append];exact dd_snoc _ _
    have h5:(dd ((s.c_.take i).map (·.Tenant))).length≤3750000000000:=by
      have:∀ l:List (List UInt8),(dd l).length≤l.length:=fun l=>by
        induction l with
        | nil=>exact Nat.le_refl _
        | cons y l ih=>unfold dd;split <;> simp only [List.length_cons] <;> omega
      have:=this ((s.c_.take i).map (·.Tenant));simp only [List.length_map,List.length_take] at this;omega
    rw [holdfastref13_Store_full.l1,if_pos (by simp <;> omega),show holdfastref13_Store_full.l2 K (i:Int) s true 0=_ from h3,Option.bind_some,wsucc (by omega)]
    by_cases hm:s.c_[i].Tenant ∈ (s.c_.take i).map (·.Tenant)
    · rw [if_pos hm] at h4
      replace h4:(dd ((s.c_.take (i + 1)).map (·.Tenant))).length=(dd ((s.c_.take i).map (·.Tenant))).length:=h4
      rw [if_neg,wsucc (by omega),← h4,rfull_l1 s hl hK d k (i + 1) (by omega) (by omega)]
      intro ha
      obtain ⟨x,hx,e⟩:=List.mem_map.1 hm
      have:=List.all_eq_true.1 ha x hx
      simp [e] at this
    · rw [if_neg hm] at h4
      rw [if_pos,wsucc (by omega),← h4,rfull_l1 s hl hK d k (i + 1) (by omega) (by omega)]
      rw [List.all_eq_true]
      intro x hx
      rw [Bool.not_eq_true',decide_eq_false_iff_not]
      exact fun e=>hm (List.mem_map.2 ⟨x,hx,e⟩)
theorem rfull_eq (h : Rel n s r) (hn : n ≤ 3750000000000) (hK : 3750000000000 < K) (t : List UInt8) : holdfastref13_Store_full K r t = some (fullS s.clients t) := by
  have hl:=h.cl
  unfold holdfastref13_Store_full
  rw [show holdfastref13_Store_Clients K ⟨r.c_,r.a⟩ t=_ from rClients_eq h hn hK t,Option.bind_some]
  have h1:=rfull_l1 r (by omega) hK r.c_.length K 0 (by omega) (by omega)
  rw [List.take_zero,List.map_nil] at h1
  rw [show holdfastref13_Store_full.l1 K K r 0 0=_ from h1,Option.bind_some]
  have e1:(sortS cfC (colC t s.clients)).length=cnt s.clients t:=by
    rw [(sortS_sorted cfC swoC _).1.length_eq]
    unfold colC cnt
    have:∀ l:List (S_grant_name × S_api_Client),(l.filterMap fun x=>if x.1.tenant=t then some x.2 else none).length=(l.filter fun x=>decide (x.1.tenant=t)).length:=by
      intro l
      induction l with
      | nil=>rfl
      | cons y l ih=>rw [List.filterMap_cons,List.filter_cons];by_cases e:y.1.tenant=t <;> simp [e,ih]
    exact this _
  have e2:r.c_.map (·.Tenant)=s.clients.map (·.1.tenant):=by
    rw [h.c,List.map_map]
    exact List.map_congr_left fun x hx=>by simp only [Function.comp];rw [h.kv x hx];rfl
  unfold fullS
  rw [e1,e2]
  congr 2
  · exact decide_eq_decide.2 (by omega)
  · congr 1
    · exact decide_eq_decide.2 (by omega)
    · exact decide_eq_decide.2 (by omega)
/-! deeds -/
theorem mset_new {κ β : Type} [DecidableEq κ] : ∀ {m : List (κ × β)} {a : κ} {v : β}, mget m a = none → mset m a v = m ++ [(a, v)]
  | [],_,_,_=>rfl
  | y :: m,a,v,h=>by
    unfold mget at h
    split at h
    · cases h
    · rename_i hy
      simp only [mset,if_neg hy,mset_new h,List.cons_append]
theorem mset_perm {κ β : Type} [DecidableEq κ] : ∀ {m : List (κ × β)} (a : κ) (v : β), NDK m → (mset m a v).Perm ((m.filter fun p => !decide (p.1 = a)) ++ [(a, v)])
  | [],_,_,_=>List.Perm.refl _
  | y :: m,a,v,h=>by
    have h':=h
    unfold NDK at h';rw [List.map_cons,List.nodup_cons] at h'
    simp only [mset]
    split
    · rename_i hy
      rw [List.filter_cons,if_neg (by simp [hy]),List.filter_eq_self.2 (fun p hp=>by
        rw [Bool.not_eq_true',decide_eq_false_iff_not]
        exact fun e=>h'.1 (List.mem_map.2 ⟨p,hp,by rw [e,hy]⟩))]
      exact (List.perm_append_comm (l₁:=[(a,v)]) (l₂:=m))
    · rename_i hy
      rw [List.filter_cons,if_pos (by simpa using hy),List.cons_append]
      exact (mset_perm a v h'.2).cons _
theorem same8 (a b : UInt8) : a &&& ~~~b = 0 ↔ a &&& b = a := by
  refine ⟨and_not,fun h=>?_⟩
  rw [← h,UInt8.and_assoc]
  have:b &&& ~~~b=0:=UInt8.and_not_self
  rw [this,UInt8.and_zero]
theorem refIsName (s : List UInt8) (h : Nm K s) : holdfastref02_IsName K s = some (nameS s) := refIsName_eq K s h.2 h.1
theorem step_reg (h : Rel n s r) (hn : n ≤ 3740000000000) (hK : 3750000000000 < K) (c : S_api_Client) (h1 : Nm K c.Tenant) (h2 : Nm K c.Name) :
    ∃ r',holdfastref13_Store_Register K r c=some ((regS s c).1,r')∧Rel (n + 1) (regS s c).2 r':=by
  have hl:=h.cl
  have hI:=inv_reg h.inv c;have hN:=nms_reg h.nm c
  have h0:Rel (n + 1) s r:=h.mono (Nat.le_succ n)
  unfold holdfastref13_Store_Register
  rw [refIsName _ h1,Option.bind_some]
  by_cases e1:nameS c.Tenant=true
  · rw [if_neg (by simp [e1]),refIsName _ h2,Option.bind_some,Option.bind_some]
    by_cases e2:nameS c.Name=true
    · rw [if_neg (by simp [e2])]
      by_cases e3:24 < c.Redirect.length
      · have e:regS s c=(6,s):=by unfold regS;rw [if_neg (by simp [e1,e2]),if_pos e3]
        rw [if_pos (decide_eq_true (by omega)),e];exact ⟨_,rfl,h0⟩
      · rw [if_neg (by simp <;> omega),show holdfastref13_Store_client K ⟨r.c_,r.a⟩ c.Tenant c.Name=_ from rclient_ix r _ _ (by omega) (by omega),Option.bind_some]
        rcases h.client c.Tenant c.Name with ⟨e4,e5⟩ | ⟨j,hj,e4,_,e5⟩
        · rw [e4,if_neg (by decide),show holdfastref13_Store_full K ⟨r.c_,r.a⟩ c.Tenant=_ from rfull_eq h (by omega) hK _,Option.bind_some]
          cases e6:fullS s.clients c.Tenant with
          | true =>
            have e:regS s c=(24,s):=by unfold regS;rw [if_neg (by simp [e1,e2]),if_neg e3,e5,if_neg (by simp),if_pos e6]
            rw [if_pos rfl,e];exact ⟨_,rfl,h0⟩
          | false =>
            have e:regS s c=(0,⟨mset s.clients ⟨c.Tenant,c.Name⟩ c,s.consents⟩):=by unfold regS;rw [if_neg (by simp [e1,e2]),if_neg e3,e5,if_neg (by simp),if_neg (by rw [e6];decide)]
            rw [e] at hI hN ⊢
            rw [if_neg (by simp),appn (by simp only [List.length_nil];omega),Option.bind_some,Option.bind_some,List.nil_append,appn (by simp only [List.length_cons,List.length_nil];omega),Option.bind_some]
            refine ⟨_,rfl,hI,hN,?_,fun x hx=>?_,h.a⟩
            · show r.c_++[c]=(mset s.clients ⟨c.Tenant,c.Name⟩ c).map (·.2)
              rw [mset_new e5,List.map_append,h.c];rfl
            · replace hx:x ∈ mset s.clients ⟨c.Tenant,c.Name⟩ c:=hx
              rw [mset_new e5] at hx
              rcases List.mem_append.1 hx with hx | hx
              · exact h.kv x hx
              · rw [List.mem_singleton] at hx;subst hx;rfl
        · have e:regS s c=(5,s):=by unfold regS;rw [if_neg (by simp [e1,e2]),if_neg e3,e5,if_pos (by rfl)]
          rw [e4,if_pos (decide_eq_true (by omega)),e];exact ⟨_,rfl,h0⟩
    · have e:regS s c=(8,s):=by unfold regS;rw [if_pos (by simp [e2])]
      rw [if_pos (by simpa using e2),e];exact ⟨_,rfl,h0⟩
  · have e:regS s c=(8,s):=by unfold regS;rw [if_pos (by simp [e1])]
    rw [if_pos (by simpa using e1),Option.bind_some,if_pos rfl,e];exact ⟨_,rfl,h0⟩
theorem nar_l1 (t m : List UInt8) (sc : UInt8) (a : List S_api_Consent) (hl : a.length ≤ 3750000000000) (hK : a.length < K) :
    holdfastref13_Store_Narrow.l1 K t m sc a 0=some (a.map fun x=>if hit t m (kU x)=true then ⟨x.Owner,x.Client,x.Scopes &&& sc⟩ else x):=by
  have h:=map_spec (f:=fun x:S_api_Consent=>if hit t m (kU x)=true then ⟨x.Owner,x.Client,x.Scopes &&& sc⟩ else x) (n:=a.length) (g:=fun k i l=>holdfastref13_Store_Narrow.l1 k t m sc l (i:Int))
    (fun k l hl=>by rw [holdfastref13_Store_Narrow.l1,if_neg (by simp <;> omega)])
    (fun k i l hi hl2=>by
      simp only [holdfastref13_Store_Narrow.l1,gtn hi,Option.bind_some]
      rw [if_pos (decide_eq_true (by omega)),wsucc (by omega)]
      have e:hit t m (kU l[i])=(decide (l[i].Owner.Tenant=t) && decide (l[i].Client=m)):=rfl
      rw [e]
      by_cases h1:l[i].Owner.Tenant=t
      · by_cases h2:l[i].Client=m
        · simp [h1,h2]
        · simp [h1,h2]
      · simp [h1])
    a.length K 0 a (by omega) rfl hK
  rw [List.take_zero,List.drop_zero,List.nil_append] at h;exact h
theorem nar_some' {s : GS} {t m : List UInt8} {c : S_api_Client} (h : mget s.clients ⟨t, m⟩ = some c) (sc : UInt8) :
    narS s t m sc=(c.Scopes &&& sc,0,⟨mset s.clients ⟨t,m⟩ ⟨c.Tenant,c.Name,c.Redirect,c.Scopes &&& sc⟩,narM t m sc s.consents⟩):=by
  unfold narS;rw [h]
theorem step_nar (h : Rel n s r) (hn : n ≤ 3740000000000) (hK : 3750000000000 < K) (t m : List UInt8) (sc : UInt8) :
    ∃ r',holdfastref13_Store_Narrow K r t m sc=some ((narS s t m sc).1,(narS s t m sc).2.1,r')∧Rel (n + 1) (narS s t m sc).2.2 r':=by
  have hl:=h.cl;have hl2:=h.al
  have hI:=inv_nar h.inv t m sc;have hN:=nms_nar h.nm t m sc
  unfold holdfastref13_Store_Narrow
  rw [show holdfastref13_Store_client K ⟨r.c_,r.a⟩ t m=_ from rclient_ix r _ _ (by omega) (by omega),Option.bind_some]
  rcases h.client t m with ⟨e4,e5⟩ | ⟨j,hj,e4,hp,e5⟩
  · have e:narS s t m sc=(0,4,s):=by unfold narS;rw [e5]
    rw [e4,if_pos (by decide),e];exact ⟨_,rfl,h.mono (Nat.le_succ n)⟩
  · have e:=nar_some' e5 sc
    rw [e] at hI hN ⊢
    rw [e4,if_neg (by simp <;> omega),appn (by simp only [List.length_nil];omega),Option.bind_some,List.nil_append,gtn hj,Option.bind_some,Option.bind_some,Option.bind_some,appn (by simp only [List.length_nil];omega),Option.bind_some,List.nil_append,
      nar_l1 t m sc r.a (by omega) (by omega),Option.bind_some,Int.toNat_natCast]
    rw [gtn (by simpa using hj),Option.bind_some]
    have hm:(⟨t,m⟩ : S_grant_name) ∈ s.clients.map (·.1):=List.mem_map.2 ⟨_,mget_mem e5,rfl⟩
    refine ⟨⟨_,_⟩,congrArg some (Prod.ext ?_ (Prod.ext rfl rfl)),hI,hN,?_,fun x hx=>?_,?_⟩
    · simp
    · show _=(mset s.clients ⟨t,m⟩ _).map (·.2)
      rw [mset_map h.inv.nc hm,List.map_map]
      have hs:=set_map (p:=pN t m) (uq_of h.cn ⟨t,m⟩) hj hp (fun x=>⟨x.Tenant,x.Name,x.Redirect,x.Scopes &&& sc⟩)
      refine hs.trans ?_
      have hc:=h.c
      generalize r.c_[j]=y at e5
      rw [hc,List.map_map]
      refine List.map_congr_left fun x hx=>?_
      simp only [Function.comp]
      by_cases e:x.1=⟨t,m⟩
      · have hx2:x.2=y:=by
          have:=mem_mget h.inv.nc (a:=x.1) (v:=x.2) hx
          rw [e,e5] at this;exact (Option.some.inj this).symm
        rw [if_pos e,if_pos (by unfold pN;rw [← h.kv x hx];exact decide_eq_true e),hx2]
      · rw [if_neg e,if_neg (by unfold pN;rw [← h.kv x hx];simpa using e)]
    · replace hx:x ∈ mset s.clients ⟨t,m⟩ _:=hx
      rw [mset_map h.inv.nc hm] at hx
      obtain ⟨y,hy,rfl⟩:=List.mem_map.1 hx
      split
      · unfold pN at hp;rw [decide_eq_true_eq] at hp;exact hp.symm
      · exact h.kv y hy
    · have:=h.a.map (fun x:S_api_Consent=>if hit t m (kU x)=true then (⟨x.Owner,x.Client,x.Scopes &&& sc⟩ : S_api_Consent) else x)
      refine this.trans (List.Perm.of_eq ?_)
      show _=(narM t m sc s.consents).map conO
      unfold narM
      rw [List.map_map,List.map_map]
      refine List.map_congr_left fun x _=>?_
      simp only [Function.comp]
      have e:kU (conO x)=x.1:=rfl
      rw [e]
      by_cases e2:hit t m x.1=true
      · rw [if_pos e2,if_pos e2];rfl
      · rw [if_neg e2,if_neg e2]
open Go L Go.Sort
variable {n : Nat} {s : GS} {r : RS} {K : Nat}
theorem filter_conO (p : S_grant_use → Bool) (l : List (S_grant_use × UInt8)) : (l.filter fun q => p q.1).map conO = (l.map conO).filter fun x => p (kU x) := by
  induction l with
  | nil=>rfl
  | cons y l ih =>
    rw [List.filter_cons,List.map_cons,List.filter_cons,← ih]
    have e:kU (conO y)=y.1:=rfl
    rw [e];split <;> rfl
theorem step_drop (h : Rel n s r) (hn : n ≤ 3740000000000) (hK : 3750000000000 < K) (t m : List UInt8) :
    ∃ r',holdfastref13_Store_Drop K r t m=some ((dropS s t m).1,r')∧Rel (n + 1) (dropS s t m).2 r':=by
  have hl:=h.cl;have hl2:=h.al
  have hI:=inv_drop h.inv t m;have hN:=nms_drop h.nm h.inv t m
  unfold holdfastref13_Store_Drop
  rw [show holdfastref13_Store_client K ⟨r.c_,r.a⟩ t m=_ from rclient_ix r _ _ (by omega) (by omega),Option.bind_some]
  rcases h.client t m with ⟨e4,e5⟩ | ⟨j,hj,e4,hp,e5⟩
  · have e:dropS s t m=(4,s):=by unfold dropS;rw [e5]
    rw [e4,if_pos (by decide),e];exact ⟨_,rfl,h.mono (Nat.le_succ n)⟩
  · have e:dropS s t m=(0,⟨mdel s.clients ⟨t,m⟩,s.consents.filter fun q => !hit t m q.1⟩):=by unfold dropS;rw [e5]
    rw [e] at hI hN ⊢
    have f1:=filt_all (l:=r.c_) (q:=fun i=>(r.c_[i]?).elim false fun x => !pN t m x) (p:=fun x => !pN t m x) (N:=3769754152374) (g:=fun k i out=>holdfastref13_Store_Drop.l1 k r t m out (i:Int))
      (fun k out=>by rw [holdfastref13_Store_Drop.l1,if_neg (by simp)])
      (fun k i out hi hN=>by
        simp only [holdfastref13_Store_Drop.l1,gtn hi,Option.bind_some]
        rw [if_pos (decide_eq_true (by omega)),wsucc (by omega),appn (by simpa using hN),Option.bind_some,List.getElem?_eq_getElem hi,Option.elim_some,pN_eq]
        by_cases h1:r.c_[i].Tenant=t
        · by_cases h2:r.c_[i].Name=m <;> simp [h1,h2]
        · simp [h1])
      (fun i hi=>by rw [List.getElem?_eq_getElem hi];rfl) (K:=K) (by omega) (by omega)
    have f2:=filt_all (l:=r.a) (q:=fun i=>(r.a[i]?).elim false fun x => !hit t m (kU x)) (p:=fun x => !hit t m (kU x)) (N:=3769754152374) (g:=fun k i out=>holdfastref13_Store_Drop.l2 k r t m out (i:Int))
      (fun k out=>by rw [holdfastref13_Store_Drop.l2,if_neg (by simp)])
      (fun k i out hi hN=>by
        simp only [holdfastref13_Store_Drop.l2,gtn hi,Option.bind_some]
        have e:hit t m (kU r.a[i])=(decide (r.a[i].Owner.Tenant=t) && decide (r.a[i].Client=m)):=rfl
        rw [if_pos (decide_eq_true (by omega)),wsucc (by omega),appn (by simpa using hN),Option.bind_some,List.getElem?_eq_getElem hi,Option.elim_some,e]
        by_cases h1:r.a[i].Owner.Tenant=t
        · by_cases h2:r.a[i].Client=m <;> simp [h1,h2]
        · simp [h1])
      (fun i hi=>by rw [List.getElem?_eq_getElem hi];rfl) (K:=K) (by omega) (by omega)
    rw [e4,if_neg (by simp <;> omega),show holdfastref13_Store_Drop.l1 K r t m [] 0=_ from f1,Option.bind_some,show holdfastref13_Store_Drop.l2 K r t m [] 0=_ from f2,Option.bind_some]
    refine ⟨_,rfl,hI,hN,?_,fun x hx=>?_,?_⟩
    · show r.c_.filter _=(mdel s.clients ⟨t,m⟩).map (·.2)
      rw [mdel_eq h.inv.nc,h.c]
      have:∀ l:List (S_grant_name × S_api_Client),(∀ x ∈ l,x.1=kN x.2)→(l.map (·.2)).filter (fun x => !pN t m x)=(l.filter fun p=>decide (p.1 ≠ (⟨t,m⟩ : S_grant_name))).map (·.2):=by
        intro l
        induction l with
        | nil=>intro _;rfl
        | cons y l ih =>
          intro hl
          rw [List.map_cons,List.filter_cons,List.filter_cons,ih fun x hx=>hl x (List.mem_cons_of_mem _ hx)]
          have:(!pN t m y.2)=decide (y.1 ≠ (⟨t,m⟩ : S_grant_name)):=by unfold pN;rw [← hl y List.mem_cons_self];by_cases e:y.1=⟨t,m⟩ <;> simp [e]
          rw [this];split <;> rfl
      exact this _ h.kv
    · replace hx:x ∈ mdel s.clients ⟨t,m⟩:=hx
      rw [mdel_eq h.inv.nc] at hx
      exact h.kv x (List.mem_filter.1 hx).1
    · show (r.a.filter _).Perm ((s.consents.filter fun q => !hit t m q.1).map conO)
      rw [filter_conO fun u => !hit t m u]
      exact h.a.filter _
theorem allow_l1 (h : Rel n s r) (hn : n ≤ 3750000000000) (hK : 3750000000000 < K) (o : S_api_Owner) (m : List UInt8) : holdfastref13_Store_Allow.l1 K r (ix (pU o m) r.a) [] 0 = some (r.a.filter fun x => !pU o m x) := by
  have hl:=h.al
  refine filt_all (l:=r.a) (q:=fun i => !decide ((i:Int)=ix (pU o m) r.a)) (p:=fun x => !pU o m x) (N:=3769754152374) (g:=fun k i out=>holdfastref13_Store_Allow.l1 k r (ix (pU o m) r.a) out (i:Int))
      (fun k out=>by rw [holdfastref13_Store_Allow.l1,if_neg (by simp)])
      (fun k i out hi hN=>by
        simp only [holdfastref13_Store_Allow.l1,gtn hi,Option.bind_some]
        rw [if_pos (decide_eq_true (by omega)),wsucc (by omega),appn (by simpa using hN),Option.bind_some])
      (fun i hi=>by rw [ix_at (p:=pU o m) (uq_of h.an ⟨o,m⟩) i hi]) (K:=K) (by omega) (by omega)
theorem look_some {t m : List UInt8} {c : S_api_Client} (h : mget s.clients ⟨t, m⟩ = some c) : lookS s t m = (c, 0) := by unfold lookS; rw [h]
theorem look_none {t m : List UInt8} (h : mget s.clients ⟨t, m⟩ = none) : lookS s t m = (zc, 4) := by unfold lookS; rw [h]
theorem step_allow (h : Rel n s r) (hn : n ≤ 3740000000000) (hK : 3750000000000 < K) (c : S_api_Consent) (h1 : Nm K c.Owner.Tenant) (h2 : Nm K c.Owner.User) :
    ∃ r',holdfastref13_Store_Allow K r c=some ((allowS s c).1,r')∧Rel (n + 1) (allowS s c).2 r':=by
  have hl:=h.cl;have hl2:=h.al
  have hI:=inv_allow h.inv c;have hN:=nms_allow h.nm c
  have h0:Rel (n + 1) s r:=h.mono (Nat.le_succ n)
  unfold holdfastref13_Store_Allow
  rw [refIsName _ h1,Option.bind_some]
  by_cases e1:nameS c.Owner.Tenant=true
  · rw [if_neg (by simp [e1]),refIsName _ h2,Option.bind_some,Option.bind_some]
    by_cases e2:nameS c.Owner.User=true
    · rw [if_neg (by simp [e2]),show holdfastref13_Store_client K ⟨r.c_,r.a⟩ c.Owner.Tenant c.Client=_ from rclient_ix r _ _ (by omega) (by omega),Option.bind_some]
      rcases h.client c.Owner.Tenant c.Client with ⟨e4,e5⟩ | ⟨j,hj,e4,_,e5⟩
      · have e:allowS s c=(4,s):=by unfold allowS;rw [if_neg (by simp [e1,e2]),look_none e5,if_pos (by decide)]
        rw [e4,if_pos (by decide),e];exact ⟨_,rfl,h0⟩
      · rw [e4,if_neg (by simp <;> omega),gtn hj,Option.bind_some]
        by_cases e6:c.Scopes &&& r.c_[j].Scopes=c.Scopes
        · rw [if_neg (by simpa using e6),show holdfastref13_Store_consent K ⟨r.c_,r.a⟩ c.Owner c.Client=_ from rconsent_ix r _ _ (by omega) (by omega),Option.bind_some]
          have ea:∀ X,X=allowS s c→X=allowS s c:=fun _ h=>h
          have eb:allowS s c=if (mget s.consents ⟨c.Owner,c.Client⟩).isSome=false∧4≤(col c.Owner s.consents).length then (25,s) else (0,⟨s.clients,mset s.consents ⟨c.Owner,c.Client⟩ c.Scopes⟩):=by
            unfold allowS;rw [if_neg (by simp [e1,e2]),look_some e5,if_neg (by simp),if_neg (not_not_intro ((same8 _ _).2 e6))]
          have hL:(sortS cfO (col c.Owner s.consents)).length=(col c.Owner s.consents).length:=(sortS_sorted cfO swoO _).1.length_eq
          have fin:allowS s c=(0,⟨s.clients,mset s.consents ⟨c.Owner,c.Client⟩ c.Scopes⟩)→∃ r',(((holdfastref13_Store_Allow.l1 K r (ix (pU c.Owner c.Client) r.a) [] 0).bind fun a17=>(some [c]).bind fun l2=>(app 3769754152374 a17 l2).bind fun a22=>some ((0:Int),(⟨r.c_,a22⟩ : RS)))=some ((allowS s c).1,r')∧Rel (n + 1) (allowS s c).2 r'):=by
            intro e
            rw [e] at hI hN ⊢
            have hf:=List.length_filter_le (fun x => !pU c.Owner c.Client x) r.a
            rw [allow_l1 h (by omega) hK,Option.bind_some,Option.bind_some,appn (by simp only [List.length_cons,List.length_nil];omega),Option.bind_some]
            refine ⟨_,rfl,hI,hN,h.c,h.kv,?_⟩
            show (r.a.filter _++[c]).Perm ((mset s.consents ⟨c.Owner,c.Client⟩ c.Scopes).map conO)
            refine List.Perm.trans ?_ ((mset_perm _ _ h.inv.ns).map conO).symm
            rw [List.map_append,filter_conO fun u => !decide (u=(⟨c.Owner,c.Client⟩ : S_grant_use))]
            exact (h.a.filter _).append (List.Perm.refl _)
          rcases h.consent c.Owner c.Client with ⟨e7,e8⟩ | ⟨i,hi,x,e7,_,e8⟩
          · rw [e8] at eb
            rw [e7,if_pos (by decide),show holdfastref13_Store_Consents K ⟨r.c_,r.a⟩ c.Owner=_ from rConsents_eq h (by omega) hK _,Option.bind_some,hL,Option.bind_some]
            by_cases e9:4≤(col c.Owner s.consents).length
            · rw [if_pos ⟨rfl,e9⟩] at eb
              rw [if_pos (decide_eq_true (by omega)),eb];exact ⟨_,rfl,h0⟩
            · rw [if_neg fun h=>e9 h.2] at eb
              rw [if_neg (by simp <;> omega),← e7];exact fin eb
          · rw [e8,if_neg (by simp)] at eb
            rw [e7,if_neg (by simp <;> omega),Option.bind_some,if_neg (by simp),← e7];exact fin eb
        · have e:allowS s c=(14,s):=by unfold allowS;rw [if_neg (by simp [e1,e2]),look_some e5,if_neg (by simp),if_pos fun h=>e6 ((same8 _ _).1 h)]
          rw [if_pos (by simpa using e6),e];exact ⟨_,rfl,h0⟩
    · have e:allowS s c=(8,s):=by unfold allowS;rw [if_pos (by simp [e2])]
      rw [if_pos (by simpa using e2),e];exact ⟨_,rfl,h0⟩
  · have e:allowS s c=(8,s):=by unfold allowS;rw [if_pos (by simp [e1])]
    rw [if_pos (by simpa using e1),Option.bind_some,if_pos rfl,e];exact ⟨_,rfl,h0⟩
theorem step_with (h : Rel n s r) (hn : n ≤ 3740000000000) (hK : 3750000000000 < K) (o : S_api_Owner) (c : List UInt8) :
    ∃ r',holdfastref13_Store_Withdraw K r o c=some ((withS s o c).1,r')∧Rel (n + 1) (withS s o c).2 r':=by
  have hl2:=h.al
  have hI:=inv_with h.inv o c;have hN:=nms_with h.nm h.inv o c
  unfold holdfastref13_Store_Withdraw
  rw [show holdfastref13_Store_consent K ⟨r.c_,r.a⟩ o c=_ from rconsent_ix r _ _ (by omega) (by omega),Option.bind_some]
  rcases h.consent o c with ⟨e4,e5⟩ | ⟨j,hj,x,e4,hp,e5⟩
  · have e:withS s o c=(4,s):=by unfold withS;rw [e5]
    rw [e4,if_pos (by decide),e];exact ⟨_,rfl,h.mono (Nat.le_succ n)⟩
  · have e:withS s o c=(0,⟨s.clients,mdel s.consents ⟨o,c⟩⟩):=by unfold withS;rw [e5]
    rw [e] at hI hN ⊢
    have hpu:pU o c r.a[j]=true:=by rw [hp];exact decide_eq_true rfl
    rw [e4,if_neg (by simp <;> omega),show sub r.a 0 (j:Int)=some ((r.a.take j).drop 0) from subn (Nat.zero_le _) (by omega),Option.bind_some,List.drop_zero,appn (by simp only [List.length_nil,List.length_take];omega),Option.bind_some,List.nil_append,
      wsucc (by omega),subn (by omega) (Nat.le_refl _),Option.bind_some,List.take_length,appn (by simp only [List.length_take,List.length_drop];omega),Option.bind_some]
    refine ⟨_,rfl,hI,hN,h.c,h.kv,?_⟩
    show (r.a.take j++r.a.drop (j + 1)).Perm ((mdel s.consents ⟨o,c⟩).map conO)
    rw [erase_filter (p:=pU o c) (uq_of h.an ⟨o,c⟩) hj hpu,mdel_eq h.inv.ns]
    have:(s.consents.filter fun p=>decide (p.1 ≠ (⟨o,c⟩ : S_grant_use)))=s.consents.filter fun p => !decide (p.1=(⟨o,c⟩ : S_grant_use)):=by
      refine List.filter_congr fun x _=>?_
      by_cases e:x.1=⟨o,c⟩ <;> simp [e]
    rw [this,filter_conO fun u => !decide (u=(⟨o,c⟩ : S_grant_use))]
    exact h.a.filter _
theorem step_user (h : Rel n s r) (hn : n ≤ 3740000000000) (hK : 3750000000000 < K) (o : S_api_Owner) :
    ∃ r',holdfastref13_Store_DropUser K r o=some ((dropUserS s o).1,r')∧Rel (n + 1) (dropUserS s o).2 r':=by
  have hl2:=h.al
  have hI:=inv_dropUser h.inv o;have hN:=nms_dropUser h.nm o
  have f2:=filt_all (l:=r.a) (q:=fun i=>(r.a[i]?).elim false fun x => !decide (x.Owner=o)) (p:=fun x => !decide (x.Owner=o)) (N:=3769754152374) (g:=fun k i out=>holdfastref13_Store_DropUser.l1 k r o out (i:Int))
      (fun k out=>by rw [holdfastref13_Store_DropUser.l1,if_neg (by simp)])
      (fun k i out hi hN=>by
        simp only [holdfastref13_Store_DropUser.l1,gtn hi,Option.bind_some]
        rw [if_pos (decide_eq_true (by omega)),wsucc (by omega),appn (by simpa using hN),Option.bind_some,List.getElem?_eq_getElem hi,Option.elim_some])
      (fun i hi=>by rw [List.getElem?_eq_getElem hi];rfl) (K:=K) (by omega) (by omega)
  have hP:(r.a.filter fun x => !decide (x.Owner=o)).Perm ((s.consents.filter fun q => !decide (q.1.Owner=o)).map conO):=by
    rw [filter_conO fun u => !decide (u.Owner=o)];exact h.a.filter _
  have e1:=hP.length_eq;have e2:=h.a.length_eq
  rw [List.length_map] at e1 e2
  have e3:=List.length_filter_le (fun x => !decide (x.Owner=o)) r.a
  unfold holdfastref13_Store_DropUser dropUserS
  rw [show holdfastref13_Store_DropUser.l1 K r o [] 0=_ from f2,Option.bind_some]
  refine ⟨_,congrArg some (Prod.ext ?_ rfl),hI,hN,h.c,h.kv,hP⟩
  show W _=_
  rw [e1,e2,wid (by omega)]
theorem step_may (h : Rel n s r) (hn : n ≤ 3740000000000) (hK : 3750000000000 < K) (o : S_api_Owner) (c d : List UInt8) (sc : UInt8) : holdfastref13_Store_May K r o c d sc = some (mayS s o c d sc) := by
  have hl:=h.cl;have hl2:=h.al
  unfold holdfastref13_Store_May
  rw [show holdfastref13_Store_client K ⟨r.c_,r.a⟩ o.Tenant c=_ from rclient_ix r _ _ (by omega) (by omega),Option.bind_some,show holdfastref13_Store_consent K ⟨r.c_,r.a⟩ o c=_ from rconsent_ix r _ _ (by omega) (by omega),Option.bind_some]
  rcases h.client o.Tenant c with ⟨e4,e5⟩ | ⟨j,hj,e4,hp,e5⟩
  · rw [e4,if_pos (by simp)];unfold mayS;rw [look_none e5,if_pos (by decide)]
  · rcases h.consent o c with ⟨e7,e8⟩ | ⟨i,hi,x,e7,e9,e8⟩
    · have ec:conS s o c=(⟨⟨[],[]⟩,[],0⟩,4):=by unfold conS;rw [e8]
      rw [e7,if_pos (by simp)];unfold mayS;rw [look_some e5,ec,if_neg (by simp),if_pos (by decide)]
    · have ec:conS s o c=(⟨o,c,x⟩,0):=by unfold conS;rw [e8]
      rw [e4,e7,if_neg (by simp <;> omega),gtn hj,Option.bind_some,gtn hi,Option.bind_some,e9]
      have eM:mayS s o c d sc=if ¬ r.c_[j].Redirect=d then 10 else if ¬ sc &&& ~~~x=0 then 14 else 0:=by
        unfold mayS;rw [look_some e5,ec,if_neg (not_not_intro rfl),if_neg (not_not_intro rfl)]
      rw [eM]
      by_cases f1:r.c_[j].Redirect=d
      · rw [if_neg (by simpa using f1),if_neg (not_not_intro f1)]
        by_cases f2:sc &&& x=sc
        · rw [if_neg (by simpa using f2),if_neg (not_not_intro ((same8 _ _).2 f2))]
        · rw [if_pos (by simpa using f2),if_pos fun h=>f2 ((same8 _ _).1 h)]
      · rw [if_pos (by simpa using f1),if_pos f1]
/-! a deed on both -/
theorem do_eq (h : Rel n s r) (hn : n ≤ 3740000000000) (hK : 3750000000000 < K) (x : S_holdfastlaw13_Deed) (hx : NmD K x) : ∃ s' r', holdfastlaw13_do K s r x = some (true, s', r') ∧ Rel (n + 1) s' r' := by
  have l1:s.clients.length≤3750000000000:=Nat.le_trans h.inv.lc (by omega)
  have l2:s.consents.length≤3750000000000:=Nat.le_trans h.inv.ls (by omega)
  unfold holdfastlaw13_do
  split
  · obtain ⟨r',e,h'⟩:=step_reg h hn hK ⟨x.Owner.Tenant,x.Client,x.Redirect,x.Scopes⟩ hx.1 hx.2.2
    rw [Register_eq K ⟨s.clients,s.consents⟩ _ l1,Option.bind_some,show holdfastref13_Store_Register K ⟨r.c_,r.a⟩ _=_ from e,Option.bind_some]
    exact ⟨_,_,congrArg some (Prod.ext (decide_eq_true rfl) rfl),h'⟩
  · split
    · obtain ⟨r',e,h'⟩:=step_nar h hn hK x.Owner.Tenant x.Client x.Scopes
      rw [Narrow_eq K ⟨s.clients,s.consents⟩ _ _ _ h.inv.ns,Option.bind_some,show holdfastref13_Store_Narrow K ⟨r.c_,r.a⟩ _ _ _=_ from e,Option.bind_some]
      exact ⟨_,_,congrArg some (Prod.ext (by simp) rfl),h'⟩
    · split
      · obtain ⟨r',e,h'⟩:=step_drop h hn hK x.Owner.Tenant x.Client
        rw [Drop_eq K ⟨s.clients,s.consents⟩ _ _ h.inv.ns,Option.bind_some,show holdfastref13_Store_Drop K ⟨r.c_,r.a⟩ _ _=_ from e,Option.bind_some]
        exact ⟨_,_,congrArg some (Prod.ext (decide_eq_true rfl) rfl),h'⟩
      · split
        · obtain ⟨r',e,h'⟩:=step_allow h hn hK ⟨x.Owner,x.Client,x.Scopes⟩ hx.1 hx.2.1
          rw [Allow_eq K ⟨s.clients,s.consents⟩ _ h.inv.ns l2,Option.bind_some,show holdfastref13_Store_Allow K ⟨r.c_,r.a⟩ _=_ from e,Option.bind_some]
          exact ⟨_,_,congrArg some (Prod.ext (decide_eq_true rfl) rfl),h'⟩
        · split
          · obtain ⟨r',e,h'⟩:=step_with h hn hK x.Owner x.Client
            rw [Withdraw_eq K ⟨s.clients,s.consents⟩,Option.bind_some,show holdfastref13_Store_Withdraw K ⟨r.c_,r.a⟩ _ _=_ from e,Option.bind_some]
            exact ⟨_,_,congrArg some (Prod.ext (decide_eq_true rfl) rfl),h'⟩
          · split
            · obtain ⟨r',e,h'⟩:=step_user h hn hK x.Owner
              rw [DropUser_eq K ⟨s.clients,s.consents⟩ _ h.inv.ns l2,Option.bind_some,show holdfastref13_Store_DropUser K ⟨r.c_,r.a⟩ _=_ from e,Option.bind_some]
              exact ⟨_,_,congrArg some (Prod.ext (decide_eq_true rfl) rfl),h'⟩
            · rw [May_eq,Option.bind_some,show holdfastref13_Store_May K ⟨r.c_,r.a⟩ _ _ _ _=_ from step_may h hn hK _ _ _ _,Option.bind_some]
              exact ⟨s,r,congrArg some (Prod.ext (decide_eq_true rfl) rfl),h.mono (Nat.le_succ n)⟩
/-! what both tell -/
open Go L Go.Sort
variable {n : Nat} {s : GS} {r : RS} {K : Nat}
theorem num11_all (k : Nat) : ((List.range 256).all fun n => decide (holdfastref11_Num (k + 1200) (((UInt8.ofNat n).toNat : Nat) : Int) = some (num8 (UInt8.ofNat n)))) = true := by kernel_rfl
theorem num11 (k : Nat) (x : UInt8) : holdfastref11_Num (k + 4000000000000) (x.toNat : Int) = some (num8 x) := by
  have h:=List.all_eq_true.1 (num11_all (k + 3999999998800)) x.toNat (List.mem_range.2 x.toNat_lt)
  simpa using h
def rowC' (x : S_api_Client) : S_api_Row := ⟨keyC (kN x), [x.Redirect, num8 x.Scopes]⟩
def rowU' (x : S_api_Consent) : S_api_Row := ⟨keyU (kU x), [num8 x.Scopes]⟩
theorem rr1 (k : Nat) (r : RS) (hw : ∀ p ∈ r.c_, nameS p.Tenant = true ∧ nameS p.Name = true) (hl : r.c_.length ≤ 3750000000000) : ∀ (d m i : Nat) (out : List S_api_Row), i + d = r.c_.length → d < m → out.length + d ≤ 4000000000000 → holdfastref13_Store_Rows.l1 (k + 4000000000000) m r out (i : Int) = some (out ++ (r.c_.drop i).map rowC')
  | 0,m + 1,i,out,h1,h2,h3=>by
    rw [holdfastref13_Store_Rows.l1,if_neg (by simp <;> omega),List.drop_eq_nil_of_le (by omega)];simp
  | d + 1,m + 1,i,out,h1,h2,h3=>by
    have hi:i < r.c_.length:=by omega
    obtain ⟨w1,w2⟩:=hw r.c_[i] (List.getElem_mem hi)
    have l1:=(name47 w1).2;have l2:=(name47 w2).2
    simp only [holdfastref13_Store_Rows.l1,gtn hi,Option.bind_some,num11]
    rw [if_pos (by simp <;> omega),appn (by simp only [List.length_cons,List.length_nil];omega),Option.bind_some,appn (by simp only [List.length_append,List.length_cons,List.length_nil];omega),Option.bind_some,
      show (⟨(r.c_[i].Tenant++[47])++r.c_[i].Name,[r.c_[i].Redirect,num8 r.c_[i].Scopes]⟩ : S_api_Row)=rowC' r.c_[i] from rfl,appn (by simp only [List.length_cons,List.length_nil];omega),Option.bind_some,wsucc (by omega),
      rr1 k r hw hl d m (i + 1) _ (by omega) (by omega) (by simp only [List.length_append,List.length_cons,List.length_nil];omega),List.drop_eq_getElem_cons hi,List.map_cons,List.append_assoc];rfl
theorem rr2 (k : Nat) (r : RS) (hw : ∀ p ∈ r.a, nameS p.Owner.Tenant = true ∧ nameS p.Owner.User = true ∧ nameS p.Client = true) (hl : r.a.length ≤ 3750000000000) : ∀ (d m i : Nat) (out : List S_api_Row), i + d = r.a.length → d < m → out.length + d ≤ 4000000000000 → holdfastref13_Store_Rows.l2 (k + 4000000000000) m r out (i : Int) = some (out ++ (r.a.drop i).map rowU')
  | 0,m + 1,i,out,h1,h2,h3=>by
    rw [holdfastref13_Store_Rows.l2,if_neg (by simp <;> omega),List.drop_eq_nil_of_le (by omega)];simp
  | d + 1,m + 1,i,out,h1,h2,h3=>by
    have hi:i < r.a.length:=by omega
    obtain ⟨w1,w2,w3⟩:=hw r.a[i] (List.getElem_mem hi)
    have l1:=(name47 w1).2;have l2:=(name47 w2).2;have l3:=(name47 w3).2
    simp only [holdfastref13_Store_Rows.l2,gtn hi,Option.bind_some,num11]
    rw [if_pos (by simp <;> omega),appn (by simp only [List.length_cons,List.length_nil];omega),Option.bind_some,appn (by simp only [List.length_append,List.length_cons,List.length_nil];omega),Option.bind_some,
      appn (by simp only [List.length_append,List.length_cons,List.length_nil];omega),Option.bind_some,appn (by simp only [List.length_append,List.length_cons,List.length_nil];omega),Option.bind_some,
      show (⟨(((r.a[i].Owner.Tenant++[47])++r.a[i].Owner.User)++[47])++r.a[i].Client,[num8 r.a[i].Scopes]⟩ : S_api_Row)=rowU' r.a[i] from rfl,appn (by simp only [List.length_cons,List.length_nil];omega),Option.bind_some,wsucc (by omega),
      rr2 k r hw hl d m (i + 1) _ (by omega) (by omega) (by simp only [List.length_append,List.length_cons,List.length_nil];omega),List.drop_eq_getElem_cons hi,List.map_cons,List.append_assoc];rfl
theorem rRows_eq (k : Nat) (h : Rel n s r) (hn : n ≤ 3730000000000) : holdfastref13_Store_Rows (k + 4000000000000) r = some (rowsS s) := by
  have hl:=h.cl;have hl2:=h.al;have hl3:=h.sum
  have l1:=h.inv.lc;have l2:=h.inv.ls;have l3:=h.inv.lt
  unfold holdfastref13_Store_Rows
  rw [show holdfastref13_Store_Rows.l1 (k + 4000000000000) (k + 4000000000000) r [] 0=some ([]++(r.c_.drop 0).map rowC') from rr1 k r (fun p hp=>by
    rw [h.c] at hp;obtain ⟨q,hq,rfl⟩:=List.mem_map.1 hp
    have:=h.nm.c q.1 (List.mem_map.2 ⟨q,hq,rfl⟩);rw [h.kv q hq] at this;exact this) (by omega) r.c_.length _ 0 [] (by omega) (by omega) (by simp only [List.length_nil];omega),Option.bind_some,
    show holdfastref13_Store_Rows.l2 (k + 4000000000000) (k + 4000000000000) r _ 0=_ from rr2 k r (fun p hp=>by
    obtain ⟨q,hq,rfl⟩:=List.mem_map.1 (h.a.mem_iff.1 hp)
    exact h.nm.u q.1 (List.mem_map.2 ⟨q,hq,rfl⟩)) (by omega) r.a.length _ 0 _ (by omega) (by omega) (by simp only [List.length_append,List.length_nil,List.length_map,List.length_drop];omega),Option.bind_some]
  have hP:(s.clients.map rowC++s.consents.map rowU).Perm ([]++(r.c_.drop 0).map rowC'++(r.a.drop 0).map rowU'):=by
    rw [List.nil_append,List.drop_zero,List.drop_zero,h.c,List.map_map]
    refine List.Perm.append (List.Perm.of_eq (List.map_congr_left fun x hx=>?_)) ?_
    · simp only [Function.comp,rowC,rowC'];rw [h.kv x hx]
    · have:=(h.a.map rowU').symm
      rw [List.map_map] at this;exact this
  have hN:=rows_nd h.inv.nc h.inv.ns h.nm
  rw [Sorted_eq _ _ (by rw [← hP.length_eq];simp only [List.length_append,List.length_map];omega) (by rw [← hP.length_eq];simp only [List.length_append,List.length_map];omega) ((hP.map _).nodup_iff.1 hN),Option.bind_some]
  exact congrArg some (sortS_eq cfR swoR hP (key_injR hN)).symm
theorem rowsS_small {s : GS} : (rowsS s).length = s.clients.length + s.consents.length ∧ ∀ x ∈ rowsS s, x.Columns.length ≤ 2 := by
  have p:=(sortS_sorted _ (swo_str fun a:S_api_Row=>a.Key) (s.clients.map rowC++s.consents.map rowU)).1
  refine ⟨p.length_eq.trans (by simp),fun x hx=>?_⟩
  rcases List.mem_append.1 (p.mem_iff.1 hx) with h | h
  · obtain ⟨y,_,rfl⟩:=List.mem_map.1 h;exact Nat.le_refl _
  · obtain ⟨y,_,rfl⟩:=List.mem_map.1 h;exact Nat.le_succ _
theorem same_rowsS (k : Nat) (h : Rel n s r) (hn : n ≤ 3730000000000) : holdfastref06_SameRows (k + 4000000000000) (rowsS s) (rowsS s) = some true := by
  obtain ⟨h1,h2⟩:=rowsS_small (s:=s)
  have l1:=h.inv.lc;have l2:=h.inv.ls;have l3:=h.inv.lt
  exact rows_same _ _ (by omega) (by omega) fun x hx=>⟨by have:=h2 x hx;omega,by have:=h2 x hx;omega⟩
theorem rows_both (k : Nat) (h : Rel n s r) (hn : n ≤ 3730000000000) : grant_Store_Rows (k + 4000000000000) s = some (rowsS s) ∧ holdfastref13_Store_Rows (k + 4000000000000) r = some (rowsS s) :=
  ⟨Rows_eq k s h.inv.nc h.inv.ns h.nm (Nat.le_trans h.inv.lt (by omega)),rRows_eq k h hn⟩
theorem rel0 : Rel 0 ⟨[], []⟩ ⟨[], []⟩ :=
  ⟨⟨List.nodup_nil,List.nodup_nil,Nat.le_refl _,fun u x h=>by simp [mget] at h⟩,⟨fun k hk=>(by cases hk),fun k hk=>(by cases hk)⟩,rfl,fun x hx=>(by cases hx),List.Perm.refl _⟩
theorem nmd_of {K : Nat} (hK : 9223372036854775807 < K) {x : S_holdfastlaw13_Deed} (h : ok27 x) : NmD K x := by
  obtain ⟨_,h2,h3,_⟩:=h
  exact ⟨⟨Nat.lt_of_le_of_lt h2.1 hK,h2.1⟩,⟨Nat.lt_of_le_of_lt h2.2 hK,h2.2⟩,⟨Nat.lt_of_le_of_lt h3 hK,h3⟩⟩
end Go.Proofs.YtjgbakieogadfaaGreatDoor

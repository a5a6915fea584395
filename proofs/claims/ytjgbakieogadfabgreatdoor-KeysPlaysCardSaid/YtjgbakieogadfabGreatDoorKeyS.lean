/-
  Keys: the program's tree and the document's,step by step. Plain Lean.
-/
import Derived.Test.YtjgbakieogadfabGreatDoorKeyR
namespace Go.Proofs.YtjgbakieogadfabGreatDoor
open Go L Go.Sort
abbrev PT := S_keys_Tree
abbrev RT := S_holdfastref09_Tree
def toV (p : S_keys_purpose × Int) : S_holdfastref09_version := ⟨p.1.tenant, p.1.name, p.2⟩
structure Rel (t : PT) (r : RT) : Prop where
  root:r.root=t.root
  len:t.root.length=32
  sealed:r.sealed=t.sealed
  s0:0≤t.sealed
  s1:t.sealed≤1099511627776
  gk:r.gone=t.gone.map (·.1)
  gt:∀ p,p ∈ t.gone→p.2=true∧nameS p.1=true
  gn:NDK t.gone
  gl:t.gone.length≤16
  an:NDK t.at_
  al:t.at_.length≤16
  aw:∀ p,p ∈ t.at_→2≤p.2∧p.2≤16∧nameS p.1.tenant=true∧nameS p.1.name=true
  ap:(t.at_.map toV).Perm r.l
variable {t : PT} {r : RT}
theorem Rel.wf (h : Rel t r) : WF t := fun p hp => by have := h.aw p hp; omega
theorem Rel.rl (h : Rel t r) : r.l.length ≤ 16 := by have := h.ap.length_eq; rw [List.length_map] at this; have := h.al; omega
theorem Rel.rg (h : Rel t r) : r.gone.length ≤ 16 := by rw [h.gk, List.length_map]; exact h.gl
theorem Rel.isgone (h : Rel t r) (a : List UInt8) : (mget t.gone a).getD false = decide (a ∈ r.gone) := by
  rw [h.gk]
  cases hm:mget t.gone a with
  | none=>rw [mget_none] at hm;simp only [Option.getD_none];exact (decide_eq_false hm).symm
  | some v =>
    have h1:=mget_mem hm
    have h2:=(h.gt _ h1).1
    simp only at h2;subst h2
    simp only [Option.getD_some];exact (decide_eq_true (List.mem_map.2 ⟨_,h1,rfl⟩)).symm
theorem Rel.rget (h : Rel t r) (a b : List UInt8) : rgetS r.l a b = mget t.at_ ⟨a, b⟩ := by
  unfold rgetS
  cases hf:r.l.find? (fun v=>decide (v.tenant=a) && decide (v.purpose=b)) with
  | none =>
    rw [Option.map_none];symm;rw [mget_none]
    intro hm
    obtain ⟨p,hp,he⟩:=List.mem_map.1 hm
    have h1:toV p ∈ r.l:=h.ap.mem_iff.1 (List.mem_map.2 ⟨p,hp,rfl⟩)
    have h2:=List.find?_eq_none.1 hf _ h1
    apply h2
    simp only [toV,he,decide_true,Bool.and_self]
  | some v =>
    rw [Option.map_some];symm
    have h1:=List.mem_of_find?_eq_some hf
    have h2:=List.find?_some hf
    simp only [Bool.and_eq_true,decide_eq_true_eq] at h2
    obtain ⟨p,hp,he⟩:=List.mem_map.1 (h.ap.mem_iff.2 h1)
    have:p=(⟨a,b⟩,v.n):=by
      obtain ⟨⟨pt,pn⟩,pv⟩:=p
      subst he
      obtain ⟨e1,e2⟩:=h2
      simp only [toV] at e1 e2 ⊢
      rw [e1,e2]
    exact mem_mget h.an (by rw [← this];exact hp)
theorem Rel.cur (h : Rel t r) (a b : List UInt8) : rcurS r a b = curS t a b := by
  unfold rcurS curS
  rw [h.isgone a,h.rget a b]
  split
  · rfl
  · by_cases hg:a ∈ r.gone
    · rw [if_pos hg,if_pos (by simpa using hg)]
    · rw [if_neg hg,if_neg (by simpa using hg)]
      cases hm:mget t.at_ ⟨a,b⟩ with
      | none=>rfl
      | some v =>
        have:=(h.aw _ (mget_mem hm)).1
        simp only [Option.getD_some,maxI]
        rw [if_neg (by simp only at this;omega)]
theorem Rel.rcur (h : Rel t r) (K : Nat) (a b : List UInt8) (hK : 100 ≤ K) (ha : a.length < K) (hb : b.length < K) (ba : a.length < 4611686018427387904) (bb : b.length < 4611686018427387904) :
    holdfastref09_Tree_Current K r a b=some (curS t a b):=by
  have:=h.rl;have:=h.rg
  rw [rcur_eq K r a b ha hb (by omega) (by omega) ba bb (by omega) (by omega),h.cur]
/-! Rotate -/
def rotTS (t : PT) (a b : List UInt8) : Int × Int × PT :=
  if (curS t a b).2 ≠ 0 then (0,(curS t a b).2,t)
  else if 16≤(curS t a b).1 ∨ (curS t a b).1=1∧16≤(t.at_.length:Int) then (0,7,t)
  else ((curS t a b).1 + 1,0,⟨t.root,t.sealed,t.gone,mset t.at_ ⟨a,b⟩ ((curS t a b).1 + 1)⟩)
theorem rot_eq (K : Nat) (t : PT) (hw : WF t) (a b : List UInt8) : keys_Tree_Rotate K t a b = some (rotTS t a b) := by
  unfold keys_Tree_Rotate rotTS
  rw [show (⟨t.root,t.sealed,t.gone,t.at_⟩ : S_keys_Tree)=t from rfl,cur_eq,Option.bind_some]
  by_cases h:(curS t a b).2=0
  · obtain ⟨_,_,_,h1,h16⟩:=cur_ok hw h
    rw [if_neg (show ¬ (curS t a b).2 ≠ 0 by simp [h]),if_neg (show ¬ (!decide ((curS t a b).2=0))=true by simp [h])]
    by_cases h2:16≤(curS t a b).1 ∨ (curS t a b).1=1∧16≤(t.at_.length:Int)
    · rw [if_pos h2,if_pos (by simpa using h2)]
    · rw [if_neg h2,if_neg (by simpa using h2),Option.bind_some,show W ((curS t a b).1 + 1)=(curS t a b).1 + 1 from L.W_id (by omega) (by omega)]
  · rw [if_pos (show (curS t a b).2 ≠ 0 from h),if_pos (by simpa using h)]
def notV (a b : List UInt8) (v : S_holdfastref09_version) : Bool := !decide (v.tenant = a) || !decide (v.purpose = b)
theorem rrot_l1 (r : RT) (a b : List UInt8) (hb : r.l.length ≤ 16) : ∀ (n i k : Nat) (out : List S_holdfastref09_version), i + n = r.l.length → n < k → out.length ≤ i →
    holdfastref09_Tree_Rotate.l1 k r a b out (i:Int)=some (out++(r.l.drop i).filter (notV a b))
  | 0,i,k + 1,out,h,_,_=>by
    rw [holdfastref09_Tree_Rotate.l1,if_neg (by simp;omega),List.drop_of_length_le (by omega)];simp
  | n + 1,i,k + 1,out,h,hk,ho=>by
    have hd:r.l.drop i=r.l.getD i default :: r.l.drop (i + 1):=drop_succ' default (by omega)
    rw [holdfastref09_Tree_Rotate.l1,if_pos (by simp;omega)]
    simp only [gt_nat (xs:=r.l) (i:=i) default (by omega),Option.bind_some]
    rw [hd]
    have e:(if (!decide ((r.l.getD i default).tenant=a))=true then some true else some (!decide ((r.l.getD i default).purpose=b)))=some (notV a b (r.l.getD i default)):=by
      unfold notV;by_cases h1:(r.l.getD i default).tenant=a
      · rw [if_neg (by simp only [decide_eq_true h1];decide)];simp only [decide_eq_true h1];simp
      · rw [if_pos (by simp only [decide_eq_false h1];decide)];simp only [decide_eq_false h1];simp
    rw [e,Option.bind_some]
    by_cases h1:notV a b (r.l.getD i default)=true
    · rw [if_pos h1,app_ok (by simp;omega),Option.bind_some,W_succ (by omega),rrot_l1 r a b hb n (i + 1) k _ (by omega) (by omega) (by simp;omega),List.filter_cons_of_pos h1,List.append_assoc];rfl
    · rw [if_neg h1,W_succ (by omega),rrot_l1 r a b hb n (i + 1) k _ (by omega) (by omega) (by omega),List.filter_cons_of_neg h1]
def rrotS (t : PT) (r : RT) (a b : List UInt8) : Int × Int × RT :=
  if (curS t a b).2 ≠ 0 then (0,(curS t a b).2,r)
  else if 16≤(curS t a b).1 ∨ (curS t a b).1=1∧16≤(t.at_.length:Int) then (0,7,r)
  else ((curS t a b).1 + 1,0,⟨r.root,r.sealed,r.gone,r.l.filter (notV a b)++[⟨a,b,(curS t a b).1 + 1⟩]⟩)
theorem Rel.rrot (h : Rel t r) (K : Nat) (a b : List UInt8) (hK : 100 ≤ K) (ha : a.length < K) (hb : b.length < K) (ba : a.length < 4611686018427387904) (bb : b.length < 4611686018427387904) :
    holdfastref09_Tree_Rotate K r a b=some (rrotS t r a b):=by
  have hl:=h.rl
  have he:r.l.length=t.at_.length:=by rw [← h.ap.length_eq,List.length_map]
  unfold holdfastref09_Tree_Rotate rrotS
  rw [show (⟨r.root,r.sealed,r.gone,r.l⟩ : RT)=r from rfl,h.rcur K a b hK ha hb ba bb,Option.bind_some]
  by_cases hc:(curS t a b).2=0
  · obtain ⟨_,_,_,h1,h16⟩:=cur_ok h.wf hc
    rw [if_neg (show ¬ (curS t a b).2 ≠ 0 by simp [hc]),if_neg (show ¬ (!decide ((curS t a b).2=0))=true by simp [hc]),he]
    by_cases h2:16≤(curS t a b).1 ∨ (curS t a b).1=1∧16≤(t.at_.length:Int)
    · rw [if_pos h2,if_pos (by simpa using h2)]
    · rw [if_neg h2,if_neg (by simpa using h2),show (0:Int)=((0:Nat):Int) from rfl,rrot_l1 r a b hl r.l.length 0 K [] (by omega) (by omega) (by simp),Option.bind_some,Option.bind_some,List.drop_zero,List.nil_append,
        show W ((curS t a b).1 + 1)=(curS t a b).1 + 1 from L.W_id (by omega) (by omega),app_ok (by have:=List.length_filter_le (notV a b) r.l;simp;omega),Option.bind_some]
  · rw [if_pos (show (curS t a b).2 ≠ 0 from hc),if_pos (by simpa using hc)]
theorem mset_perm {κ β : Type} [DecidableEq κ] {m : List (κ × β)} (k : κ) (v : β) (h : NDK m) : (mset m k v).Perm (m.filter (fun p => decide (p.1 ≠ k)) ++ [(k, v)]) := by
  induction m with
  | nil=>exact List.Perm.refl _
  | cons x m ih =>
    unfold NDK at h;rw [List.map_cons,List.nodup_cons] at h
    simp only [mset]
    split
    · rename_i hx
      have e:m.filter (fun p=>decide (p.1 ≠ k))=m:=List.filter_eq_self.2 fun p hp=>by
        simp only [ne_eq,decide_not,Bool.not_eq_true',decide_eq_false_iff_not]
        exact fun e=>h.1 (List.mem_map.2 ⟨p,hp,by rw [e,hx]⟩)
      rw [List.filter_cons_of_neg (by simp [hx]),e]
      subst hx
      exact (List.perm_append_singleton (x.1,v) m).symm
    · rename_i hx
      rw [List.filter_cons_of_pos (by simpa using hx)]
      exact (ih h.2).cons x
theorem mset_mem {κ β : Type} [DecidableEq κ] {m : List (κ × β)} {k : κ} {v : β} (h : NDK m) {p : κ × β} (hp : p ∈ mset m k v) : p = (k, v) ∨ p ∈ m ∧ p.1 ≠ k := by
  have:=(mset_perm k v h).mem_iff.1 hp
  rcases List.mem_append.1 this with h1 | h1
  · rw [List.mem_filter] at h1;exact .inr ⟨h1.1,by simpa using h1.2⟩
  · exact .inl (by simpa using h1)
theorem mset_len_old {κ β : Type} [DecidableEq κ] {m : List (κ × β)} {k : κ} {v w : β} (h : mget m k = some w) : (mset m k v).length = m.length := by
  have h1:=congrArg List.length (mset_keys m k v)
  rw [if_pos (List.mem_map.2 ⟨_,mget_mem h,rfl⟩)] at h1
  simpa using h1
theorem Rel.rot (h : Rel t r) (a b : List UInt8) : (rotTS t a b).1 = (rrotS t r a b).1 ∧ (rotTS t a b).2.1 = (rrotS t r a b).2.1 ∧ Rel (rotTS t a b).2.2 (rrotS t r a b).2.2 := by
  unfold rotTS rrotS
  by_cases hc:(curS t a b).2=0
  · rw [if_neg (show ¬ (curS t a b).2 ≠ 0 by simp [hc]),if_neg (show ¬ (curS t a b).2 ≠ 0 by simp [hc])]
    obtain ⟨na,nb,_,h1,h16⟩:=cur_ok h.wf hc
    by_cases h2:16≤(curS t a b).1 ∨ (curS t a b).1=1∧16≤(t.at_.length:Int)
    · rw [if_pos h2,if_pos h2];exact ⟨rfl,rfl,h⟩
    · rw [if_neg h2,if_neg h2]
      refine ⟨rfl,rfl,⟨h.root,h.len,h.sealed,h.s0,h.s1,h.gk,h.gt,h.gn,h.gl,mset_nd h.an,?_,?_,?_⟩⟩
      · show (mset t.at_ _ _).length≤16
        cases hm:mget t.at_ ⟨a,b⟩ with
        | none =>
          have h3:(curS t a b).1=1:=by
            unfold curS at hc ⊢
            split at hc
            · cases hc
            · rename_i h4
              split at hc
              · cases hc
              · rename_i h5;rw [if_neg h4,if_neg h5,hm];rfl
          have:=mset_len t.at_ ⟨a,b⟩ ((curS t a b).1 + 1)
          have h6 : ¬ 16≤(t.at_.length:Int):=fun h6=>h2 (.inr ⟨h3,h6⟩)
          omega
        | some w=>rw [mset_len_old hm];exact h.al
      · intro p hp
        rcases mset_mem h.an hp with rfl | ⟨hp,_⟩
        · exact ⟨by simp only;omega,by simp only;omega,na,nb⟩
        · exact h.aw p hp
      · refine ((mset_perm ⟨a,b⟩ ((curS t a b).1 + 1) h.an).map toV).trans ?_
        rw [List.map_append,List.map_singleton]
        refine List.Perm.append ?_ (List.Perm.refl _)
        have e:(t.at_.filter (fun p=>decide (p.1 ≠ ⟨a,b⟩))).map toV=(t.at_.map toV).filter (notV a b):=by
          rw [List.filter_map]
          congr 1
          apply List.filter_congr
          intro p _
          obtain ⟨⟨pt,pn⟩,pv⟩:=p
          simp only [Function.comp,toV,notV,ne_eq,S_keys_purpose.mk.injEq]
          by_cases e1:pt=a <;> by_cases e2:pn=b <;> simp [e1,e2]
        rw [e]
        exact h.ap.filter _
  · rw [if_pos (show (curS t a b).2 ≠ 0 from hc),if_pos (show (curS t a b).2 ≠ 0 from hc)];exact ⟨rfl,rfl,h⟩
end Go.Proofs.YtjgbakieogadfabGreatDoor

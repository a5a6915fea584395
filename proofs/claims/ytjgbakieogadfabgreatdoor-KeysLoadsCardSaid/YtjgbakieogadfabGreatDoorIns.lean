/-
  Sorting by insertion,as the document does it: what comes out is in order and has just what went in. No program in sight.
-/
import Derived.Test.YtjgbakieogadfabGreatDoorLib25
namespace Go.Proofs.YtjgbakieogadfabGreatDoor
open Go L Go.Sort
theorem wid {x:Int} (h : -9223372036854775808≤x∧x≤9223372036854775807):W x=x:=by
  unfold W;simp [IntKind.wrap,IntKind.bits,IntKind.signed];omega
theorem wsucc {i:Nat} (h:i<9223372036854775807):W ((i:Int)+1)=((i+1:Nat):Int):=(wid (by omega)).trans (by omega)
theorem wpred {i:Nat} (h0:0<i) (h:i<9223372036854775807):W ((i:Int)-1)=((i-1:Nat):Int):=(wid (by omega)).trans (by omega)
section
variable {α:Type}
theorem gtn {xs:List α} {i:Nat} (h:i<xs.length):gt xs (i:Int)=some xs[i]:=by unfold gt; rw [if_pos (by omega)]; simp [h]
theorem subn {xs:List α} {l h:Nat} (h1:l≤h) (h2:h≤xs.length):sub xs (l:Int) (h:Int)=some ((xs.take h).drop l):=by unfold sub; rw [if_pos (by omega)]; rfl
theorem appn {n:Nat} {xs ys:List α} (h:xs.length+ys.length≤n):app n xs ys=some (xs ++ ys):=by unfold app; rw [if_pos h]
def Sd (lt:α→α→Bool) (xs:List α):Prop:=xs.Pairwise fun a b=>lt b a=false
theorem asym {lt:α→α→Bool} (hO:SWO lt) {a b:α} (h:lt a b=true):lt b a=false:=by
  cases h2:lt b a with
  | false=>rfl
  | true=>have:=hO.trans a b a h h2;rw [hO.irrefl] at this;cases this
theorem ins_perm (out:List α) (x:α) (p:Nat):(out.take p ++ [x] ++ out.drop p).Perm (out ++ [x]):=by
  have h:(out.take p++[x]++out.drop p).Perm (out.take p++out.drop p++[x]):=by
    rw [List.append_assoc,List.append_assoc]
    exact List.Perm.append_left _ List.perm_append_comm
  rwa [List.take_append_drop] at h
theorem ins_sd {lt:α→α→Bool} (hO:SWO lt) {out:List α} {x:α} {p:Nat} (hs:Sd lt out) (hp:p≤out.length) (h1:∀ y ∈ out.drop p,lt x y=true) (h2:∀ y,0<p→out[p-1]?=some y→lt x y=false) :
    Sd lt (out.take p++[x]++out.drop p):=by
  unfold Sd at *
  have hall:∀ y ∈ out.take p,lt x y=false:=by
    intro y hy
    obtain ⟨i,hi,rfl⟩:=List.mem_iff_getElem.1 hy
    rw [List.length_take] at hi
    rw [List.getElem_take]
    have hpl:p-1<out.length:=by omega
    have hl:=h2 out[p-1] (by omega) (List.getElem?_eq_getElem hpl)
    by_cases e:i=p-1
    · subst e;exact hl
    · have:=List.pairwise_iff_getElem.1 hs i (p-1) (by omega) hpl (by omega)
      exact hO.ntrans _ _ _ hl this
  rw [List.append_assoc,List.pairwise_append]
  refine ⟨hs.sublist (List.take_sublist _ _),?_,?_⟩
  · rw [List.singleton_append,List.pairwise_cons]
    exact ⟨fun y hy=>asym hO (h1 y hy),hs.sublist (List.drop_sublist _ _)⟩
  · intro a ha b hb
    rw [List.singleton_append,List.mem_cons] at hb
    rcases hb with rfl | hb
    · exact hall a ha
    · exact hO.ntrans _ _ _ (asym hO (h1 b hb)) (hall a ha)
theorem l2_spec {lt:α→α→Bool} {x:α} {out:List α} {g:Nat→Nat→Option Int} (h0:∀ k,g (k+1) 0=some 0) (hs:∀ k p (h:p<out.length),g (k+1) (p+1)=if lt x out[p]=true then g k p else some ((p+1:Nat):Int)) :
    ∀ k p,p≤out.length→p<k→(∀ y ∈ out.drop p,lt x y=true)→∃ q:Nat,q≤out.length∧g k p=some (q:Int)∧(∀ y ∈ out.drop q,lt x y=true)∧∀ y,0<q→out[q-1]?=some y→lt x y=false
  | 0,p,_,h,_=>by omega
  | k+1,0,hp,_,hd=>⟨0,hp,h0 k,hd,fun y h=>by omega⟩
  | k+1,p+1,hp,hk,hd=>by
    rw [hs k p (by omega)]
    by_cases hc:lt x out[p]=true
    · rw [if_pos hc]
      refine l2_spec h0 hs k p (by omega) (by omega) fun y hy=>?_
      rw [List.drop_eq_getElem_cons (by omega),List.mem_cons] at hy
      rcases hy with rfl | hy
      · exact hc
      · exact hd y hy
    · rw [if_neg hc]
      refine ⟨p+1,hp,rfl,hd,fun y _ hy=>?_⟩
      rw [Nat.add_sub_cancel,List.getElem?_eq_getElem (by omega),Option.some.injEq] at hy
      subst hy;simpa using hc
theorem l1_spec {lt:α→α→Bool} {n:Nat} {sel:Nat→List α} {g:Nat→Nat→List α→Option (List α)} (he:∀ k out,g (k+1) n out=some out)
    (hs:∀ k i out,i<n→out.length≤i→Sd lt out→∃ out',g (k+1) i out=g k (i+1) out'∧Sd lt out'∧out'.Perm (out++sel i)∧out'.length≤i+1) :
    ∀ (d k i:Nat) (out:List α),i+d=n→d<k→out.length≤i→Sd lt out→∃ r,g k i out=some r∧Sd lt r∧r.Perm (out++(List.range' i d).flatMap sel)
  | 0,k,i,out,h1,h2,h3,h4=>by
    obtain ⟨k,rfl⟩:∃ k',k=k'+1:=⟨k-1,by omega⟩
    obtain rfl:i=n:=by omega
    exact ⟨out,he k out,h4,by simp⟩
  | d+1,k,i,out,h1,h2,h3,h4=>by
    obtain ⟨k,rfl⟩:∃ k',k=k'+1:=⟨k-1,by omega⟩
    obtain ⟨out',e1,e2,e3,e4⟩:=hs k i out (by omega) h3 h4
    obtain ⟨r,r1,r2,r3⟩:=l1_spec he hs d k (i+1) out' (by omega) (by omega) e4 e2
    refine ⟨r,e1.trans r1,r2,r3.trans ?_⟩
    rw [List.range'_succ,List.flatMap_cons,← List.append_assoc]
    exact e3.append_right _
theorem range_sel {β:Type} [Inhabited β] (f:β→List α) (l:List β):(List.range' 0 l.length).flatMap (fun i=>(l[i]?).elim [] f)=l.flatMap f:=by
  rw [List.flatMap_def,List.flatMap_def]
  congr 1
  refine List.ext_getElem (by simp) fun i h1 h2=>?_
  simp at h1
  simp [h1]
theorem sd_sortS [Inhabited α] (cf:α→α→Int) (hO:SWO (ltOf cf)) {xs ys:List α} (hs:Sd (ltOf cf) xs) (hp:xs.Perm ys) (ha:∀ a b,a ∈ ys→b ∈ ys→ltOf cf b a=false→ltOf cf a b=false→a=b):xs=sortS cf ys:=by
  obtain ⟨p2,s2⟩:=sortS_sorted cf hO ys
  exact List.Perm.eq_of_pairwise (fun a b h1 h2 h3 h4=>ha a b (hp.mem_iff.1 h1) (p2.mem_iff.1 h2) h3 h4) hs s2 (hp.trans p2.symm)
end
theorem gtS_eq (a b:List UInt8):(!(ltS a b||decide (a=b)))=ltS b a:=by
  cases h:ltS a b with
  | true=>rw [Bool.true_or,Bool.not_true];exact (asym (lt:=ltS) ⟨ltS_irr,ltS_trans,fun x y z h1 h2=>by
      cases h3:ltS x z with
      | false=>rfl
      | true =>
        cases h4:ltS y x with
        | true=>rw [ltS_trans _ _ _ h4 h3] at h2;cases h2
        | false=>rw [ltS_tri _ _ h1 h4] at h3;rw [h3] at h2;cases h2⟩ h).symm
  | false =>
    rw [Bool.false_or]
    cases h2:ltS b a with
    | true=>rw [Bool.not_eq_true',decide_eq_false_iff_not];intro e;rw [e,ltS_irr] at h2;cases h2
    | false=>rw [Bool.not_eq_false',decide_eq_true_eq];exact ltS_tri _ _ h h2
theorem nodup_map {α β:Type} {f:α→β} : ∀ {l:List α},l.Nodup→(∀ a ∈ l,∀ b ∈ l,f a=f b→a=b)→(l.map f).Nodup
  | [],_,_=>List.nodup_nil
  | x :: l,h,hi=>by
    rw [List.nodup_cons] at h
    rw [List.map_cons,List.nodup_cons]
    refine ⟨fun hm=>?_,nodup_map h.2 fun a ha b hb=>hi a (List.mem_cons_of_mem _ ha) b (List.mem_cons_of_mem _ hb)⟩
    obtain ⟨y,hy,e⟩:=List.mem_map.1 hm
    have:=hi y (List.mem_cons_of_mem _ hy) x List.mem_cons_self e
    subst this;exact h.1 hy
theorem cut_inj:∀ {a a' b b':List UInt8},(47:UInt8) ∉ a→(47:UInt8) ∉ a'→(a ++ [47]) ++ b=(a' ++ [47]) ++ b'→a=a'∧b=b'
  | [],[],b,b',_,_,h=>⟨rfl,by simpa using h⟩
  | [],y :: a',b,b',_,h2,h=>by
    simp only [List.nil_append,List.cons_append,List.cons.injEq] at h
    exact (h2 (by rw [← h.1];exact List.mem_cons_self)).elim
  | x :: a,[],b,b',h1,_,h=>by
    simp only [List.nil_append,List.cons_append,List.cons.injEq] at h
    exact (h1 (by rw [h.1];exact List.mem_cons_self)).elim
  | x :: a,y :: a',b,b',h1,h2,h=>by
    simp only [List.cons_append,List.cons.injEq] at h
    obtain ⟨e1,e2⟩:=cut_inj (fun hm=>h1 (List.mem_cons_of_mem _ hm)) (fun hm=>h2 (List.mem_cons_of_mem _ hm)) h.2
    exact ⟨by rw [h.1,e1],e2⟩
end Go.Proofs.YtjgbakieogadfabGreatDoor

/-
  slices.SortFunc at structs,by the kit's contract,in the words of this calculus. No program in sight.
-/
import Derived.Test.YtjgbakieogadfabGreatDoorLib20
import Derived.Shelf.SlSortCmp.NoneTotal
namespace Go.Proofs.YtjgbakieogadfabGreatDoor.L
open Go Go.Shelf Go.RowKit Go.Sort
section
variable {α:Type}
noncomputable def sortS [Inhabited α] (cf:α→α→Int) (xs:List α):List α:=(pdq (ltOf cf) xs.toArray 0 xs.length (Go.Lib.bitLen xs.length) true true).toList
theorem fl_getK (E:Enc α):∀ (xs:List α) (t:Nat),t<xs.length*E.sz→(fl E xs)[t]?=(xs[t / E.sz]?).bind fun x=>(E.e x)[t % E.sz]?
  | [],t,h=>by simp at h
  | x :: xs,t,h=>by
    have hl:=E.len x
    have hp:=E.pos
    have e1:fl E (x :: xs)=E.e x++fl E xs:=by simp [fl]
    rw [e1]
    by_cases ht:t<E.sz
    · rw [List.getElem?_append_left (by omega),Nat.div_eq_of_lt ht,Nat.mod_eq_of_lt ht];simp
    · have h2:t-E.sz<xs.length*E.sz:=by
        have:(x :: xs).length*E.sz=xs.length*E.sz+E.sz:=by simp [Nat.succ_mul]
        omega
      rw [List.getElem?_append_right (by omega),hl,fl_getK E xs _ h2]
      obtain ⟨u,rfl⟩:∃ u,t=u+E.sz:=⟨t-E.sz,by omega⟩
      rw [Nat.add_sub_cancel,Nat.add_div_right _ hp,Nat.add_mod_right]
      simp
theorem flatK_fl [Inhabited α] (E:Enc α) (xs:List α):(flatK E.e E.sz xs.toArray).toList=fl E xs:=by
  apply List.ext_getElem?
  intro t
  have hp:=E.pos
  by_cases h:t<xs.length*E.sz
  · have h1:t / E.sz<xs.length:=(Nat.div_lt_iff_lt_mul hp).2 h
    have h2:t % E.sz<(E.e (xs[t / E.sz]'h1)).length:=by rw [E.len];exact Nat.mod_lt _ hp
    have hs:t<(flatK E.e E.sz xs.toArray).size:=by simp [h]
    have h3:=get_flatK E.e E.sz xs.toArray t (by simpa using h)
    have h4:xs.toArray[t / E.sz]! = xs[t / E.sz]'h1:=by
      rw [getElem!_pos xs.toArray _ (by simpa using h1)];simp
    rw [fl_getK E xs t h,List.getElem?_eq_getElem h1]
    rw [h4,getElem!_pos _ t hs,getElem!_pos (E.e (xs[t / E.sz]'h1)) (t % E.sz) h2] at h3
    simp only [Option.bind_some]
    rw [List.getElem?_eq_getElem h2,← h3]
    rw [Array.getElem?_toList,Array.getElem?_eq_getElem hs]
  · rw [List.getElem?_eq_none (by simp;omega),List.getElem?_eq_none (by rw [fl_length];omega)]
theorem sortS_perm [Inhabited α] (cf:α→α→Int) (hO:SWO (ltOf cf)) (xs:List α) :
    PermIn 0 xs.length xs.toArray (pdq (ltOf cf) xs.toArray 0 xs.length (Go.Lib.bitLen xs.length) true true) ∧
    SortedIn (ltOf cf) 0 xs.length (pdq (ltOf cf) xs.toArray 0 xs.length (Go.Lib.bitLen xs.length) true true) :=
  pdq_sorts (ltOf cf) hO xs.toArray 0 xs.length (Go.Lib.bitLen xs.length) true true (Nat.zero_le _) (by simp) (Or.inl rfl)
theorem sortS_len [Inhabited α] (cf:α→α→Int) (hO:SWO (ltOf cf)) (xs:List α):(sortS cf xs).length=xs.length:=by
  have:=(sortS_perm cf hO xs).1.1
  simpa [sortS] using this
theorem put_take {F cur:Array Value} (h:F.size≤cur.size):(putCells id 0 F cur).toList.take F.size=F.toList:=by
  apply List.ext_getElem?
  intro j
  rw [List.getElem?_take]
  by_cases hj:j<F.size
  · rw [if_pos hj,Array.getElem?_toList]
    simp only [putCells,Array.getElem?_mapIdx]
    rw [Array.getElem?_eq_getElem (by omega:j<cur.size)]
    simp only [Option.map_some]
    rw [if_pos ⟨by omega,by omega⟩,Nat.sub_zero,getElem!_pos F j hj,Array.getElem?_toList,Array.getElem?_eq_getElem hj];rfl
  · rw [if_neg hj,List.getElem?_eq_none (by simp;omega)]
set_option maxHeartbeats 1000000 in
theorem sort_calls {P:Program} {ρ:Ren} [Inhabited α] (L:SlLaysF0.n6 P ρ) (E:Enc α) (aE:∀ w,(isAgg (ρ.t 24)).run P w = .ok true w) (zE:∀ w,(Go.sizeOf (ρ.t 24)).run P w = .ok E.sz w) (cf:α→α→Int) (hO:SWO (ltOf cf)) (g:Nat)
    (eg:∀ args w,(callFunc g args).run P w = .ok (.enter g args) w)
    (hcl:∀ x y W,Calls P g #[.agg (E.e x).toArray,.agg (E.e y).toArray] W fun e w'=>e = .returned (.int .i64 (cf x y))∧∃ q os',w'=grow (W.drewN q) os')
    {i:Nat} {w:World} {c:Col} {v:Value} {xs:List α} (hsz:xs.length<4611686018427387904) (o:Ow E i w c v xs) :
    Calls P (ρ.f 6) [v,.func (.func g) #[] #[]].toArray w fun e w1=>∃ d,e = .returned (.tuple #[])∧St [i] w c w1 d∧Ow E i w1 d v (sortS cf xs):=by
  have hl:=sortS_len cf hO xs
  obtain ⟨⟨h1,h2⟩,h3⟩:=o
  rcases h2 with ⟨rfl,h0⟩ | ⟨b,cap,cur,rfl,_,hb,hn,hc,hs,ht⟩
  · have hx:xs=[]:=List.eq_nil_of_length_eq_zero h0
    subst hx
    refine (AnyF.slices_SortFunc_none L none 0 (.func (.func g) #[] #[]) w).mono ?_
    rintro e w1 ⟨rfl,rfl⟩
    refine ⟨c,rfl,St.refl.mono (by simp),?_⟩
    rw [List.eq_nil_of_length_eq_zero hl];exact Ow.nil
  · have hbl:b<w.heap.size:=by
      rcases Nat.lt_or_ge b w.heap.size with h | h
      · exact h
      · rw [Array.getElem?_eq_none h] at hb;cases hb
    have hF:(flatK E.e E.sz xs.toArray).toList=fl E xs:=flatK_fl E xs
    have hFs:(flatK E.e E.sz xs.toArray).size=xs.length*E.sz:=by simp
    have hle:xs.length*E.sz≤cur.size:=by rw [hs];exact Nat.mul_le_mul_right _ hn
    have hH:HoldsK E.e E.sz w b 0 xs.toArray:=by
      intro j hj
      rw [hFs] at hj
      have h5:cur[j]?=(fl E xs)[j]?:=by
        rw [← ht,List.getElem?_take,if_pos hj,Array.getElem?_toList]
      have h6:(flatK E.e E.sz xs.toArray)[j]?=(fl E xs)[j]?:=by rw [← hF,Array.getElem?_toList]
      have hj':j<(flatK E.e E.sz xs.toArray).size:=by rw [hFs];exact hj
      refine ⟨?_,?_⟩
      · simp only [World.cell?,hb,Nat.zero_add]
        rw [if_neg (by decide),h5,← h6,Array.getElem?_eq_getElem hj',getElem!_pos _ j hj'];rfl
      · simp [World.frozen?,hb]
    refine (AnyQ.slices_SortFunc_eq L E.sz aE zE E.e E.len E.one cf hO g #[] b 0 cap xs.toArray w eg (fun m os dk _ x y=>hcl x y _) hH hbl (by simpa using hsz)).mono ?_
    rintro e w1 ⟨rfl,n,os,rfl⟩
    have hP:=(sortS_perm cf hO xs).1.1
    generalize hd:pdq (ltOf cf) xs.toArray 0 xs.toArray.size (Go.Lib.bitLen xs.toArray.size) true true=dd
    have hd':sortS cf xs=dd.toList:=by rw [← hd];rfl
    have hds:dd.size=xs.length:=by rw [← hl,hd'];simp
    have hG:(flatK E.e E.sz dd).toList=fl E (sortS cf xs):=by
      have:=flatK_fl E dd.toList
      rw [hd'];simpa using this
    have hGs:(flatK E.e E.sz dd).size=xs.length*E.sz:=by simp [hds]
    have hw:∀ k,(sortWorldK E.e E.sz w b 0 n dd os).heap[k]?=if k<w.heap.size then (if k=b then some (.cells (putCells id 0 (flatK E.e E.sz dd) cur) E.ty (0,0)) else w.heap[k]?) else (sortWorldK E.e E.sz w b 0 n dd os).heap[k]?:=by
      intro k
      split
      · rename_i hk
        simp only [sortWorldK,grow,putRowK,putRow,mapBlock]
        rw [Array.getElem?_append_left (by simpa using hk),Array.getElem?_modify]
        split
        · rename_i e;subst e
          rw [if_pos rfl,show (Go.Sort.ahead w n).heap[b]?=w.heap[b]? from rfl,hb];rfl
        · rename_i e
          rw [if_neg (fun h=>e h.symm)];rfl
      · rfl
    refine ⟨c,rfl,⟨rfl,rfl,rfl,by simp [sortWorldK,grow,putRowK,putRow,mapBlock],fun _ _ _=>rfl,fun k hk hn=>?_⟩,⟨?_,?_⟩,h3⟩
    · rw [hw k,if_pos hk,if_neg (fun e=>hn (by rw [e];simp [h3 b rfl]))]
    · rw [fl_length]
    · refine .inr ⟨b,cap,putCells id 0 (flatK E.e E.sz dd) cur,?_,Nat.zero_le _,by rw [hw b,if_pos hbl,if_pos rfl],by rw [hl];exact hn,hc,by simp [putCells,hs],?_⟩
      · rw [hl]
      · rw [hl,← hG,← hGs]
        exact put_take (by rw [hGs];exact hle)
end
def cmpS (x y:List UInt8):Int:=if ltS x y=true then -1 else if (!(ltS x y||decide (x=y)))=true then 1 else 0
theorem cmpS_lt (x y:List UInt8):(cmpS x y<0) ↔ ltS x y=true:=by
  unfold cmpS
  split
  · simp [*]
  · split <;> simp_all
theorem ltS_irr:∀ x,ltS x x=false
  | []=>rfl
  | a :: x=>by
    have:=ltS_irr x
    unfold ltS at this ⊢
    simp [Op.bytesLess,this]
theorem ltS_tri:∀ x y,ltS x y=false→ltS y x=false→x=y
  | [],[],_,_=>rfl
  | [],_ :: _,h,_=>by simp [ltS,Op.bytesLess] at h
  | _ :: _,[],_,h=>by simp [ltS,Op.bytesLess] at h
  | a :: x,b :: y,h1,h2=>by
    simp only [ltS,Op.bytesLess,Bool.or_eq_false_iff,decide_eq_false_iff_not,Bool.and_eq_false_iff,beq_eq_false_iff_ne] at h1 h2
    have hab:a=b:=UInt8.le_antisymm (UInt8.not_lt.1 h2.1) (UInt8.not_lt.1 h1.1)
    subst hab
    have h3:=h1.2.resolve_left (by simp)
    have h4:=h2.2.resolve_left (by simp)
    rw [ltS_tri x y h3 h4]
theorem ltS_trans:∀ x y z,ltS x y=true→ltS y z=true→ltS x z=true
  | _,[],_,h,_=>by cases ‹List UInt8› <;> simp [ltS,Op.bytesLess] at h
  | _,_ :: _,[],_,h=>by simp [ltS,Op.bytesLess] at h
  | [],_ :: _,_ :: _,_,_=>by simp [ltS,Op.bytesLess]
  | a :: x,b :: y,c :: z,h1,h2=>by
    simp only [ltS,Op.bytesLess,Bool.or_eq_true,decide_eq_true_eq,Bool.and_eq_true,beq_iff_eq] at h1 h2 ⊢
    rcases h1 with h1 | ⟨rfl,h1⟩
    · rcases h2 with h2 | ⟨rfl,h2⟩
      · exact .inl (UInt8.lt_trans h1 h2)
      · exact .inl h1
    · rcases h2 with h2 | ⟨rfl,h2⟩
      · exact .inl h2
      · exact .inr ⟨rfl,ltS_trans x y z h1 h2⟩
theorem cmpS_dec (x y:List UInt8):decide (cmpS x y<0)=ltS x y:=by
  rw [Bool.eq_iff_iff,decide_eq_true_eq];exact cmpS_lt x y
theorem swo_str {α:Type} (f:α→List UInt8):SWO (ltOf fun x y=>cmpS (f x) (f y)) where
  irrefl x:=by unfold ltOf;rw [cmpS_dec];exact ltS_irr _
  trans x y z h1 h2:=by unfold ltOf at *;rw [cmpS_dec] at *;exact ltS_trans _ _ _ h1 h2
  ntrans x y z h1 h2:=by
    unfold ltOf at *;rw [cmpS_dec] at *
    cases h:ltS (f x) (f z) with
    | false=>rfl
    | true =>
      cases h3:ltS (f y) (f x) with
      | true=>rw [ltS_trans _ _ _ h3 h] at h2;cases h2
      | false=>rw [ltS_tri _ _ h1 h3] at h;rw [h] at h2;cases h2
section
variable {P:Program} {f:Fr} {w:World} {o:Oper} {R:Value→World→Prop} {x:Operand} {v:Value} {us:List Value} {t:TypeId} {c:Col}
theorem OS.boxG (i:Nat) (ho:o.op = .box t x) (hx:ev f x=v) (hc:v.cells=us.toArray) (h:∀ p w' c' ob,w'=w.alloc ob→Bx i w' c' p us→St [] w c w' c'→R p w'):OS P o f w R:=by
  exact OS.box ho hx hc (h _ _ _ _ rfl (Bx.mk0 us t) (St.alloc _ i))
end
end Go.Proofs.YtjgbakieogadfabGreatDoor.L

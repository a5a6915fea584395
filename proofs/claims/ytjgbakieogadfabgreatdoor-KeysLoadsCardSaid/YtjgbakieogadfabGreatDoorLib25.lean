/-
  Slices of structs that hold a slice each;those inner slices are written no more. No program in sight.
-/
import Derived.Test.YtjgbakieogadfabGreatDoorLib24
import Derived.Test.YtjgbakieogadfabGreatDoorLib20
import Derived.Test.YtjgbakieogadfabGreatDoorLib21
namespace Go.Proofs.YtjgbakieogadfabGreatDoor.L
open Go Go.Shelf Go.RowKit Go.Sort
instance:Inhabited Sl:=⟨⟨none,0,0⟩⟩
section
variable {α σ:Type} {E:Enc (σ×Sl)} {E':Enc α} {g:σ→List α} {i j k:Nat} {I:List Nat} {w w':World} {c c' d:Col} {v u p:Value} {xs ys:List σ} {ps qs:List (σ×Sl)} {a:σ}
def Ins (E':Enc α) (g:σ→List α) (w:World) (c:Col) (ps:List (σ×Sl)):Prop:=∀ q,q ∈ ps→Vw E' 1 w c q.2.val (g q.1)
def VwD (E:Enc (σ×Sl)) (E':Enc α) (g:σ→List α) (i:Nat) (w:World) (c:Col) (v:Value) (xs:List σ):Prop :=
  ∃ ps,Vw E i w c v ps∧ps.map Prod.fst=xs∧Ins E' g w c ps
def OwD (E:Enc (σ×Sl)) (E':Enc α) (g:σ→List α) (i:Nat) (w:World) (c:Col) (v:Value) (xs:List σ):Prop :=
  ∃ ps,Ow E i w c v ps∧ps.map Prod.fst=xs∧Ins E' g w c ps
theorem Ins.keep (h:Ins E' g w c ps) (s:St I w c w' c') (h1:1 ∉ I:=by decide):Ins E' g w' c' ps:=fun q hq=>(h q hq).keep s h1
theorem Ins.tr (h:Ins E' g w c ps) (h1:∀ b,c b=1→d b=1):Ins E' g w d ps:=fun q hq=>(h q hq).tr h1
theorem VwD.keep (h:VwD E E' g i w c v xs) (s:St I w c w' c') (hi:i ∉ I:=by decide) (h1:1 ∉ I:=by decide):VwD E E' g i w' c' v xs :=
  let ⟨ps,h2,h3,h4⟩:=h;⟨ps,h2.keep s hi,h3,h4.keep s h1⟩
theorem OwD.keep (h:OwD E E' g i w c v xs) (s:St I w c w' c') (hi:i ∉ I:=by decide) (h1:1 ∉ I:=by decide):OwD E E' g i w' c' v xs :=
  let ⟨ps,h2,h3,h4⟩:=h;⟨ps,h2.keep s hi,h3,h4.keep s h1⟩
theorem VwD.tr (h:VwD E E' g i w c v xs) (hc:∀ b,c b=i→d b=j) (h1:∀ b,c b=1→d b=1):VwD E E' g j w d v xs :=
  let ⟨ps,h2,h3,h4⟩:=h;⟨ps,h2.tr hc,h3,h4.tr h1⟩
theorem OwD.tr (h:OwD E E' g i w c v xs) (hc:∀ b,c b=i→d b=j) (h1:∀ b,c b=1→d b=1):OwD E E' g j w d v xs :=
  let ⟨ps,h2,h3,h4⟩:=h;⟨ps,h2.tr hc,h3,h4.tr h1⟩
theorem OwD.vw (h:OwD E E' g i w c v xs):VwD E E' g i w c v xs:=let ⟨ps,h2,h3,h4⟩:=h; ⟨ps,h2.vw,h3,h4⟩
theorem VwD.isSl (h:VwD E E' g i w c v xs):IsSl v xs.length:=by
  obtain ⟨ps,h2,h3,_⟩:=h;have:=h2.isSl;rw [← h3,List.length_map];exact this
theorem OwD.isSl (h:OwD E E' g i w c v xs):IsSl v xs.length:=h.vw.isSl
theorem OwD.nil:OwD E E' g i w c (.slice none 0 0) []:=⟨[],Ow.nil,rfl,fun _ h=>by cases h⟩
theorem OwD.recol (h:OwD E E' g i w c v xs) (hi:i ≠ 1) (j:Nat):∃ c',St [i] w c w c'∧OwD E E' g j w c' v xs:=by
  obtain ⟨ps,h2,h3,h4⟩:=h
  obtain ⟨c',s,o⟩:=h2.recol j
  exact ⟨c',s,ps,o,h3,h4.keep s (by simpa using Ne.symm hi)⟩
theorem VwD.ld (h:VwD E E' g i w c v xs) (ha:Adr v k E.sz p) (hk:xs[k]?=some a):∃ sl:Sl,Ld w p (E.e (a,sl))∧Vw E' 1 w c sl.val (g a):=by
  obtain ⟨ps,h2,h3,h4⟩:=h
  subst h3
  rw [List.getElem?_map,Option.map_eq_some_iff] at hk
  obtain ⟨⟨b,sl⟩,hq,rfl⟩:=hk
  exact ⟨sl,h2.ld ha hq,h4 _ (List.mem_of_getElem? hq)⟩
variable {P:Program} {f:Fr} {o:Oper} {R:Value→World→Prop} {x y:Operand}
theorem OS.bsliceP {t:TypeId} {n:Nat} {os:List (Nat×Operand)} (i:Nat) (ps:List (σ×Sl)) (vs:List (Nat×Value)) (ho:o.op = .buildSlice t n os.toArray) (hp:PV f os vs)
    (hr:∀ w,(Instr.buildSlice t n vs.toArray).run P w = .ok (.slice (some ⟨w.heap.size,0,none⟩) n n) { w with heap:=w.heap.push (.cells (fl E ps).toArray E.ty) })
    (hn:ps.length=n) (hm:n≤maxLen) (hi:Ins E' g w c ps) (h:∀ v w' c',OwD E E' g i w' c' v (ps.map Prod.fst)→St [] w c w' c'→R v w'):OS P o f w R :=
  OS.bslice i ps vs ho hp hr hn hm fun v w' c' o s=>h v w' c' ⟨ps,o,rfl,hi.keep s (by simp)⟩ s
theorem OS.appendD {t t':TypeId} {ti:TypeInfo} {zr:Value} {d':TypeDesc} (ho:o.op = .call { callee := .builtin .append,args := #[x,y],argTypes := #[t,t'] })
    (ht:P.underlying t=some (.slice E.ty)) (ht':P.underlying t'=some d')
    (hd':d' = .slice E.ty ∨ d' = .string) (hi:P.info? E.ty=some ti) (hsz:ti.size=E.sz) (hz:ti.zero=some zr) (hzs:zr.cells.size=E.sz)
    (hx:ev f x=v) (hy:ev f y=u) (hv:OwD E E' g i w c v xs) (hs:VwD E E' g j w c u ys) (h1i:i ≠ 1) (hb:Fits (xs.length+ys.length) ti.bytes) (h63:xs.length+ys.length≤maxLen)
    (h:∀ v' w' c',OwD E E' g i w' c' v' (xs++ys)→St [i] w c w' c'→R v' w'):OS P o f w R:=by
  obtain ⟨ps,h2,h3,h4⟩:=hv
  obtain ⟨qs,k2,k3,k4⟩:=hs
  subst h3;subst k3
  refine OS.append ho ht ht' hd' hi hsz hz hzs hx hy h2 k2.src (by simpa using hb) (by simpa using h63) fun v' w' c' o s=>h _ _ _ ⟨_,o,by simp,?_⟩ s
  have h1:1 ∉ [i]:=by simpa using Ne.symm h1i
  intro q hq
  rcases List.mem_append.1 hq with hq | hq
  · exact (h4.keep s h1) q hq
  · exact (k4.keep s h1) q hq
theorem OS.sliceVD {t l h:Nat} {lo hi mx:Option Operand} (ho:o.op = .slice t x lo hi mx) (ht:P.underlying t=some (.slice E.ty)) (hs:∀ w,(sizeOf E.ty).run P w = .ok E.sz w)
    (hx:ev f x=v) (hv:VwD E E' g i w c v xs) (hl:Bd f lo 0 l) (hh:Bd f hi xs.length h) (hm:mx = .none) (h1:l≤h) (h2:h≤xs.length)
    (hk:∀ v',VwD E E' g i w c v' ((xs.take h).drop l)→R v' w):OS P o f w R:=by
  obtain ⟨ps,k2,k3,k4⟩:=hv
  subst k3
  refine OS.sliceV ho ht hs hx k2 hl (by simpa using hh) hm h1 (by simpa using h2) fun v' hv'=>hk v' ⟨_,hv',by rw [List.map_drop,List.map_take],fun q hq=>k4 q (List.mem_of_mem_take (List.mem_of_mem_drop hq))⟩
end
/-! sorting -/
theorem sortS_sorted {α:Type} [Inhabited α] (cf:α→α→Int) (hO:SWO (ltOf cf)) (xs:List α):(sortS cf xs).Perm xs∧(sortS cf xs).Pairwise fun a b=>ltOf cf b a=false:=by
  obtain ⟨⟨h1,_,h2⟩,h3⟩:=sortS_perm cf hO xs
  generalize hd:pdq (ltOf cf) xs.toArray 0 xs.length (Go.Lib.bitLen xs.length) true true=d at *
  have hs:sortS cf xs=d.toList:=by rw [← hd];rfl
  have hsz:d.size=xs.length:=by simpa using h1
  rw [hs]
  refine ⟨?_,?_⟩
  · have e1:d.extract 0 xs.length=d:=by rw [← hsz];simp
    have e2:xs.toArray.extract 0 xs.length=xs.toArray:=by
      have:xs.length=xs.toArray.size:=by simp
      rw [this];exact Array.extract_size
    rw [e1,e2] at h2;simpa using h2
  · rw [List.pairwise_iff_getElem]
    intro i j hi hj hij
    have hi':i<d.size:=by simpa using hi
    have hj':j<d.size:=by simpa using hj
    have:=h3 i j (Nat.zero_le _) hij (by omega)
    rw [getElem!_pos d i hi',getElem!_pos d j hj'] at this
    simpa using this
theorem sortS_eq {α:Type} [Inhabited α] (cf:α→α→Int) (hO:SWO (ltOf cf)) {xs ys:List α} (hp:xs.Perm ys)
    (ha:∀ a b,a ∈ xs→b ∈ xs→ltOf cf b a=false→ltOf cf a b=false→a=b):sortS cf xs=sortS cf ys:=by
  obtain ⟨p1,s1⟩:=sortS_sorted cf hO xs
  obtain ⟨p2,s2⟩:=sortS_sorted cf hO ys
  exact List.Perm.eq_of_pairwise (fun a b h1 h2 h3 h4=>ha a b (p1.mem_iff.1 h1) (hp.mem_iff.2 (p2.mem_iff.1 h2)) h3 h4) s1 s2 (p1.trans (hp.trans p2.symm))
theorem cmpS_eq {x y:List UInt8} (h1:decide (cmpS y x<0)=false) (h2:decide (cmpS x y<0)=false):x=y:=by
  rw [cmpS_dec] at h1 h2
  exact ltS_tri x y h2 h1
theorem key_inj {σ:Type} {key:σ→List UInt8} : ∀ {xs:List σ},(xs.map key).Nodup→∀ a b,a ∈ xs→b ∈ xs→key a=key b→a=b
  | [],_,_,_,h,_,_=>by cases h
  | x :: xs,hn,a,b,ha,hb,hk=>by
    simp only [List.map_cons,List.nodup_cons] at hn
    rcases List.mem_cons.1 ha with e1 | h1 <;> rcases List.mem_cons.1 hb with e2 | h2
    · rw [e1,e2]
    · exact (hn.1 (List.mem_map.2 ⟨b,h2,by rw [← hk,e1]⟩)).elim
    · exact (hn.1 (List.mem_map.2 ⟨a,h1,by rw [hk,e2]⟩)).elim
    · exact key_inj hn.2 a b h1 h2 hk
theorem sortS_fst {σ:Type} [Inhabited σ] (key:σ→List UInt8) (ps:List (σ×Sl)) (h:((ps.map Prod.fst).map key).Nodup) :
    (sortS (fun (a b:σ×Sl)=>cmpS (key a.1) (key b.1)) ps).map Prod.fst=sortS (fun a b=>cmpS (key a) (key b)) (ps.map Prod.fst):=by
  obtain ⟨p1,s1⟩:=sortS_sorted (fun (a b:σ×Sl)=>cmpS (key a.1) (key b.1)) (swo_str fun a:σ×Sl=>key a.1) ps
  obtain ⟨p2,s2⟩:=sortS_sorted (fun (a b:σ)=>cmpS (key a) (key b)) (swo_str key) (ps.map Prod.fst)
  have s1':((sortS (fun (a b:σ×Sl)=>cmpS (key a.1) (key b.1)) ps).map Prod.fst).Pairwise fun a b=>ltOf (fun (a b:σ)=>cmpS (key a) (key b)) b a=false :=
    List.pairwise_map.2 (s1.imp fun h=>h)
  have pm:=p1.map Prod.fst
  exact List.Perm.eq_of_pairwise (fun a b h1 h2 h3 h4=>key_inj h a b (pm.mem_iff.1 h1) (p2.mem_iff.1 h2) (cmpS_eq h3 h4)) s1' s2 (pm.trans p2.symm)
section
variable {α σ:Type} [Inhabited σ]
theorem sort_callsD {P:Program} {ρ:Ren} (L:SlLaysF0.n6 P ρ) (E:Enc (σ×Sl)) (E':Enc α) (gs:σ→List α) (aE:∀ w,(isAgg (ρ.t 24)).run P w = .ok true w) (zE:∀ w,(Go.sizeOf (ρ.t 24)).run P w = .ok E.sz w) (key:σ→List UInt8) (g:Nat)
    (eg:∀ args w,(callFunc g args).run P w = .ok (.enter g args) w)
    (hcl:∀ (x y:σ×Sl) W,Calls P g #[.agg (E.e x).toArray,.agg (E.e y).toArray] W fun e w'=>e = .returned (.int .i64 (cmpS (key x.1) (key y.1)))∧∃ q os',w'=grow (W.drewN q) os')
    {i:Nat} {w:World} {c:Col} {v:Value} {xs:List σ} (hi:i ≠ 1) (hsz:xs.length<4611686018427387904) (hn:(xs.map key).Nodup) (o:OwD E E' gs i w c v xs) :
    Calls P (ρ.f 6) [v,.func (.func g) #[] #[]].toArray w fun e w1=>∃ d,e = .returned (.tuple #[])∧St [i] w c w1 d∧OwD E E' gs i w1 d v (sortS (fun a b=>cmpS (key a) (key b)) xs):=by
  obtain ⟨ps,h2,h3,h4⟩:=o
  subst h3
  refine (sort_calls L E aE zE (fun (a b:σ×Sl)=>cmpS (key a.1) (key b.1)) (swo_str fun a:σ×Sl=>key a.1) g eg hcl (by simpa using hsz) h2).mono ?_
  rintro e w1 ⟨d,he,s,o⟩
  refine ⟨d,he,s,_,o,sortS_fst key ps hn,fun q hq=>?_⟩
  exact (h4.keep s (by simpa using Ne.symm hi)) q ((sortS_sorted _ (swo_str fun a:σ×Sl=>key a.1) ps).1.mem_iff.1 hq)
end
end Go.Proofs.YtjgbakieogadfabGreatDoor.L
namespace Go.Proofs.YtjgbakieogadfabGreatDoor.L
open Go Go.Shelf Go.RowKit Go.Sort
section
variable {α σ:Type} {E:Enc (σ×Sl)} {E':Enc α} {g:σ→List α} {i:Nat} {w:World} {c:Col} {v p:Value} {xs:List σ} {ps:List (σ×Sl)} {q:σ×Sl}
theorem ins_nil:Ins E' g w c []:=fun _ h=>by cases h
theorem ins_cons (h:Vw E' 1 w c q.2.val (g q.1)) (t:Ins E' g w c ps):Ins E' g w c (q :: ps):=fun y hy=>by
  rcases List.mem_cons.1 hy with rfl | hy
  · exact h
  · exact t y hy
theorem VwD.ldF {k off:Nat} {a:σ} {us:List Value} {r:Value} (h:VwD E E' g i w c v xs) (ha:Adr v k E.sz p) (hk:xs[k]?=some a) (hr:AdrP p off 1 r)
    (hs:∀ sl:Sl,∀ (j:Nat) (u:Value),us[j]?=some u→(E.e (a,sl))[off+j]?=some u):Ld w r us:=by
  obtain ⟨sl,hl,_⟩:=h.ld ha hk
  obtain ⟨b,o,hp,hc⟩:=hl
  obtain ⟨b',o',h1,h2⟩:=hr
  rw [hp] at h1
  simp only [Value.pointer.injEq,Option.some.injEq,Addr.mk.injEq,and_true] at h1
  obtain ⟨rfl,rfl⟩:=h1
  exact ⟨b,_,h2,fun j u hu=>by rw [Nat.mul_one,Nat.add_assoc];exact hc _ _ (hs sl j u hu)⟩
theorem OwD.ldF {k off:Nat} {a:σ} {us:List Value} {r:Value} (h:OwD E E' g i w c v xs) (ha:Adr v k E.sz p) (hk:xs[k]?=some a) (hr:AdrP p off 1 r)
    (hs:∀ sl:Sl,∀ (j:Nat) (u:Value),us[j]?=some u→(E.e (a,sl))[off+j]?=some u):Ld w r us:=h.vw.ldF ha hk hr hs
variable {P:Program} {f:Fr} {o:Oper} {R:Value→World→Prop} {x:Operand}
theorem OS.ldSl {t:TypeId} {k off:Nat} {a:σ} {r:Value} (ho:o.op = .load t x) (ht:∀ w,(isAgg t).run P w = .ok false w) (hx:ev f x=r) (h:VwD E E' g i w c v xs) (ha:Adr v k E.sz p) (hk:xs[k]?=some a) (hr:AdrP p off 1 r)
    (hs:∀ sl:Sl,(E.e (a,sl))[off]?=some sl.val) (hR:∀ u,Vw E' 1 w c u (g a)→R u w):OS P o f w R:=by
  obtain ⟨sl,hl,hv⟩:=h.ld ha hk
  obtain ⟨b,oo,hp,hc⟩:=hl
  obtain ⟨b',o',h1,h2⟩:=hr
  rw [hp] at h1
  simp only [Value.pointer.injEq,Option.some.injEq,Addr.mk.injEq,and_true] at h1
  obtain ⟨rfl,rfl⟩:=h1
  refine OS.ld1 (u:=sl.val) ho ht hx ⟨b,_,h2,fun j u hu=>?_⟩ (hR _ hv)
  rw [Nat.mul_one,Nat.add_assoc]
  cases j with
  | zero=>simp at hu;subst hu;exact hc _ _ (by simpa using hs sl)
  | succ j=>simp at hu
theorem OS.ldNP {t:TypeId} {n k:Nat} {a:σ} (ho:o.op = .load t x) (ht:∀ w,(isAgg t).run P w = .ok true w) (hn:∀ w,(sizeOf t).run P w = .ok n w) (hx:ev f x=p) (h:VwD E E' g i w c v xs) (ha:Adr v k E.sz p) (hk:xs[k]?=some a)
    (hlen:E.sz=n) (hR:∀ sl:Sl,Vw E' 1 w c sl.val (g a)→R (.agg (E.e (a,sl)).toArray) w):OS P o f w R:=by
  obtain ⟨sl,hl,hv⟩:=h.ld ha hk
  exact OS.ldN ho ht hn hx hl (by rw [E.len];exact hlen) (hR sl hv)
end
end Go.Proofs.YtjgbakieogadfabGreatDoor.L
namespace Go.Proofs.YtjgbakieogadfabGreatDoor.L
open Go
theorem isSl_ind {v:Value} {n:Nat} {p:Value→Prop} (h:IsSl v n) (h0:p (.slice none 0 0)) (h1:∀ a n cap,p (.slice (some a) n cap)):p v:=by
  rcases h with ⟨rfl | ⟨a,q,rfl⟩,_⟩ | ⟨b,o,cap,rfl⟩
  · exact h0
  · exact h1 _ _ _
  · exact h1 _ _ _
end Go.Proofs.YtjgbakieogadfabGreatDoor.L
namespace Go.Proofs.YtjgbakieogadfabGreatDoor.L
open Go
section
variable {α σ:Type} {E:Enc (σ×Sl)} {E':Enc α} {g:σ→List α} {i:Nat} {w:World} {c:Col} {v:Value} {xs ys:List σ}
theorem OwD.eq (h:OwD E E' g i w c v xs) (e:ys=xs):OwD E E' g i w c v ys:=e ▸ h
theorem VwD.eq (h:VwD E E' g i w c v xs) (e:ys=xs):VwD E E' g i w c v ys:=e ▸ h
end
end Go.Proofs.YtjgbakieogadfabGreatDoor.L
namespace Go.Proofs.YtjgbakieogadfabGreatDoor.L
open Go
end Go.Proofs.YtjgbakieogadfabGreatDoor.L

/-
  A range over a function. No program in sight.
-/
import Derived.Test.YtjgbakieogadfabGreatDoorLib7
namespace Go.Proofs.YtjgbakieogadfabGreatDoor.L
open Go

def nm (U:List Nat) (c:Col):Col:=fun b=>cond (U.contains (c b)) (c b) 10
def dv (M:List Nat) (c:Col):Col:=fun b=>cond (M.contains (c b)) 1 0
theorem nm_in {U:List Nat} {c:Col} {b i:Nat} (h:c b=i) (hi:i ∈ U):nm U c b=i:=by
  subst h;unfold nm
  have:U.contains (c b)=true:=by simpa using hi
  rw [this];rfl
theorem nm_cases (U:List Nat) (c:Col) (b:Nat):nm U c b ∈ 10 :: U:=by
  unfold nm
  cases h:U.contains (c b) with
  | true=>exact List.mem_cons_of_mem _ (by simpa using h)
  | false=>exact List.mem_cons_self
theorem dv_out {M:List Nat} {c:Col} {b i:Nat} (h:c b=i) (hi:i ∉ M):dv M c b=0:=by
  subst h;unfold dv
  have:M.contains (c b)=false:=by simpa using hi
  rw [this];rfl
theorem dv_mem {M:List Nat} {c:Col} {b:Nat} (h:c b ∈ M):dv M c b=1:=by
  unfold dv
  have:M.contains (c b)=true:=by simpa using h
  rw [this];rfl
theorem dv_le {M:List Nat} {c:Col} (b:Nat):dv M c b=0 ∨ dv M c b=1:=by
  unfold dv;cases M.contains (c b) <;> simp
section
variable {α:Type} {E:Enc α} {w w':World} {c c' d:Col} {v p:Value} {xs ys:List α} {i j:Nat} {U M:List Nat}
theorem Vw.tr (h:Vw E i w c v xs) (hc:∀ b,c b=i→d b=j):Vw E j w d v xs:=by
  rcases h with h | ⟨b,off,cap,cs,T,fz,h1,h2,h3,h4,h5⟩
  · exact .inl h
  · exact .inr ⟨b,off,cap,cs,T,fz,h1,h2,hc b h3,h4,h5⟩
theorem Ow.tr (h:Ow E i w c v xs) (hc:∀ b,c b=i→d b=j):Ow E j w d v xs:=⟨h.1,fun g hg=>hc g (h.2 g hg)⟩
theorem Arr.tr (h:Arr E i w c v xs) (hc:∀ b,c b=i→d b=j):Arr E j w d v xs:=by
  obtain ⟨b,T,h1,h2,h3⟩:=h;exact ⟨b,T,h1,hc b h2,h3⟩
theorem Bx.tr {us:List Value} (h:Bx i w c v us) (hc:∀ b,c b=i→d b=j):Bx j w d v us:=by
  obtain ⟨b,T,h1,h2,h3⟩:=h;exact ⟨b,T,h1,hc b h2,h3⟩
theorem Ow.nm (h:Ow E i w c v xs) (hi:i ∈ U):Ow E i w (L.nm U c) v xs:=h.tr fun _ h=>nm_in h hi
theorem Arr.nm (h:Arr E i w c v xs) (hi:i ∈ U):Arr E i w (L.nm U c) v xs:=h.tr fun _ h=>nm_in h hi
theorem Bx.nm {us:List Value} (h:Bx i w c v us) (hi:i ∈ U):Bx i w (L.nm U c) v us:=h.tr fun _ h=>nm_in h hi
theorem Arr.dv (h:Arr E i w c v xs) (hi:i ∉ M):Arr E 0 w (L.dv M c) v xs:=h.tr fun _ h=>dv_out h hi
theorem Bx.dv {us:List Value} (h:Bx i w c v us) (hi:i ∉ M):Bx 0 w (L.dv M c) v us:=h.tr fun _ h=>dv_out h hi
theorem St.nm {I:List Nat} (h:St I w c w' c') (hc:∀ b,b<w.heap.size→c b ∈ U ∨ c b=10):St I w c w' (L.nm U c') :=
  ⟨h.os,h.tape,h.output,h.size,fun b hb hn=>by
    have h1:=h.col b hb hn
    unfold L.nm
    rw [h1]
    rcases hc b hb with hu | hu
    · rw [show U.contains (c b)=true by simpa using hu];rfl
    · rw [hu];cases U.contains 10 <;> rfl,h.blk⟩
theorem St.less {I J:List Nat} (h:St I w c w' c') (hc:∀ b,b<w.heap.size→c b ∈ I→c b ∈ J):St J w c w' c' :=
  ⟨h.os,h.tape,h.output,h.size,fun b hb hn=>h.col b hb fun hi=>hn (hc b hb hi),fun b hb hn=>h.blk b hb fun hi=>hn (hc b hb hi)⟩
theorem St.putObj {r:Nat} {o:Obj} : St [c r] w c (w.putObj r o) c :=
  ⟨rfl,rfl,rfl,by simp,fun _ _ _=>rfl,fun b _ hn=>World.putObj_heap_other fun e=>hn (by simp [e])⟩
end

def Mk (k:Nat) (w:World) (c:Col) (r:Nat):Prop:=c r=k∧w.heap[r]?=some (.deferred (some []))
theorem Mk.keep {I:List Nat} {k r:Nat} {w w':World} {c c':Col} (h:Mk k w c r) (s:St I w c w' c') (hi:k ∉ I:=by decide):Mk k w' c' r:=by
  have hb:=blk_lt h.2
  exact ⟨by rw [s.col r hb (by rw [h.1];exact hi),h.1],by rw [s.blk r hb (by rw [h.1];exact hi),h.2]⟩
theorem Mk.take {P:Program} {k r:Nat} {w:World} {c:Col} (h:Mk k w c r):(Instr.takeDeferred r).run P w = .ok [] (w.putObj r (.deferred none))∧St [k] w c (w.putObj r (.deferred none)) c :=
  ⟨run_takeDeferred h.2,by rw [← h.1];exact St.putObj⟩

structure Inv (σ:Type) where
  J:σ→World→Col→Prop
  keep:∀ s I w c w' c',J s w c→St I w c w' c'→0 ∉ I→1 ∉ I→J s w' c'
def IvA {σ:Type} (Iv:Inv σ) (s:σ) (w:World) (c:Col):Prop:=Iv.J s w c
theorem IvA.keep {σ:Type} {Iv:Inv σ} {s:σ} {I:List Nat} {w w':World} {c c':Col} (h:IvA Iv s w c) (st:St I w c w' c') (hi:0 ∉ I∧1 ∉ I:=by decide):IvA Iv s w' c':=Iv.keep _ _ _ _ _ _ h st hi.1 hi.2

def Yl (P:Program) (l:Nat) (args:List Value) (w:World) (R:Value→World→Prop):Prop :=
  ∃ fn tmps assign body,(Instr.yield l args.toArray).run P w = .ok (.round l fn tmps assign body) w∧RoundIn Fence.wide 0 P l fn tmps assign body w (fun e w'=>∃ v,e = .returned v∧R v w')
section
variable {P:Program} {N:Nat} {f:Fr} {w:World} {o:Oper} {Q:Exit→Fr→World→Prop}
theorem OS.yield {x:Operand} {l:Nat} {xs:List Operand} {vs:List Value} {ts:Array TypeId} {R:Value→World→Prop} (ho:o.op = .call { callee := .value x,args:=xs.toArray,argTypes:=ts })
    (hx:ev f x = .func (.yield l) #[] #[]) (hp:PA f xs vs) (h:Yl P l vs w R):OS P o f w R:=by
  obtain ⟨fn,tmps,assign,body,hy,hr⟩:=h
  intro r a K Q ha hK
  refine wpIn_of (x := .round l fn tmps assign body) (w':=w) ha (by intro d hd;cases hd) ?_ ⟨fun h=>by simp [FR,Fence.wide] at h,?_⟩
  · unfold execOp;rw [ho]
    have:(xs.toArray.map (ev f))=vs.toArray:=by rw [List.map_toArray,hp.map]
    simp only [resolve,this,Sem.run_bind,hx,Deferred.ofValue,Sem.run_pure,Result.andThen_ok,invoke]
    simp [hy]
  · have h1:RoundIn (FR r) (0-1) P l fn tmps assign body w fun e w'=>∃ v,e = .returned v∧R v w':=hr
    exact h1.mono fun e w'' ⟨v,he,hR⟩=>by subst he;exact hK _ _ hR

theorem OS.yieldC {x:Operand} {l:Nat} {xs:List Operand} {vs:List Value} {ts:Array TypeId} {R R':Value→World→Prop} (ho:o.op = .call { callee := .value x,args:=xs.toArray,argTypes:=ts })
    (hx:ev f x = .func (.yield l) #[] #[]) (hp:PA f xs vs) (h:Yl P l vs w R') (k:∀ v w',R' v w'→R v w'):OS P o f w R:=(OS.yield ho hx hp h).mono k
theorem OS.makeFunc {k:FuncId} {cs:List Operand} {vs:List Value} {R:Value→World→Prop} (ho:o.op = .makeFunc (.func k) #[] cs.toArray) (hp:PA f cs vs) (h:R (.func (.func k) #[] vs.toArray) w):OS P o f w R :=
  OS.val (v := .func (.func k) #[] vs.toArray) (w':=w) (by
    unfold execOp;rw [ho]
    have:(cs.toArray.map (ev f))=vs.toArray:=by rw [List.map_toArray,hp.map]
    simp [this,Instr.makeFunc]) h
theorem fnQM.ls {fn:Func} {Rr:Ending→World→Prop} {rs:List ResultVar} {vs:List Value} {w':World} (hr:fn.results=rs.toArray) (ht:Taken P (dec (f fn.ntmps)) w w') (h1:R1s P (msk Cx.marked fn.ntmps f) w' rs vs) (h:Rr (.returned (.tuple vs.toArray)) w') (hn:vs.length ≠ 1:=by decide):fnQM P fn Rr .ret f w :=
  ⟨.tuple vs.toArray,w',ht,fun tmps ht=>by
    rw [results_eq,hr]
    have hm:=h1.run tmps ht
    simp [hm,hn],h⟩

def jc:Nat→Code
  | 0 => .ret
  | i+1 => .exit i
def je:Option Nat→Exit
  | none => .normal
  | some 0 => .ret
  | some (i+1) => .exit i
def Yc {σ α:Type} (Y:σ→α→Option (Option Nat×σ)) (s:σ×Option Nat) (x:α):Option (Bool×(σ×Option Nat)) :=
  match s.2 with
  | none=>(Y s.1 x).bind fun r=>some (r.1.isNone,(r.2,r.1))
  | some _=>none
theorem Yc_some {σ α:Type} {Y:σ→α→Option (Option Nat×σ)} {s:σ×Option Nat} {x:α} {b:Bool} {s':σ×Option Nat} (h:Yc Y s x=some (b,s')) :
    s.2=none∧Y s.1 x=some (s'.2,s'.1)∧b=s'.2.isNone:=by
  unfold Yc at h
  cases hs:s.2 with
  | some _=>rw [hs] at h;cases h
  | none =>
    rw [hs] at h
    cases hy:Y s.1 x with
    | none=>rw [hy] at h;cases h
    | some r=>rw [hy] at h;simp only [Option.bind_some,Option.some.injEq,Prod.mk.injEq] at h;obtain ⟨h1,h2⟩:=h;subst h2;exact ⟨rfl,rfl,h1.symm⟩
def Kp (M:List Nat) (w:World) (c:Col) (w':World) (c':Col):Prop:=∀ b,b<w.heap.size→c b ∈ M→c' b=c b∧w'.heap[b]?=w.heap[b]?
section
variable {α:Type} {E:Enc α} {w w':World} {c c':Col} {v:Value} {xs:List α} {i:Nat} {M:List Nat}
theorem Bx.kp {us:List Value} (h:Bx i w c v us) (k:Kp M w c w' c') (hi:i ∈ M):Bx i w' c' v us:=by
  obtain ⟨b,T,h1,h2,h3⟩:=h
  obtain ⟨k1,k2⟩:=k b (blk_lt h3) (by rw [h2];exact hi)
  exact ⟨b,T,h1,by rw [k1,h2],by rw [k2,h3]⟩
theorem Ow.kp (h:Ow E i w c v xs) (k:Kp M w c w' c') (hi:i ∈ M):Ow E i w' c' v xs:=by
  obtain ⟨⟨h1,h2⟩,h3⟩:=h
  rcases h2 with h2 | ⟨g,cap,cur,hv,hg,hh,r⟩
  · exact ⟨⟨h1,.inl h2⟩,fun g hg=>by rw [h2.1] at hg;cases hg⟩
  · have hc:=h3 g (by rw [hv];rfl)
    obtain ⟨k1,k2⟩:=k g (blk_lt hh) (by rw [hc];exact hi)
    refine ⟨⟨h1,.inr ⟨g,cap,cur,hv,hg,by rw [k2,hh],r⟩⟩,fun g' hg'=>?_⟩
    rw [hv] at hg';simp only [Value.ownBlock,Option.some.injEq] at hg';subst hg'
    rw [k1,hc]
theorem St.kp {I:List Nat} (s:St I w c w' c') (h:∀ i,i ∈ M→i ∉ I):Kp M w c w' c':=fun b hb hm=>⟨s.col b hb (h _ hm),s.blk b hb (h _ hm)⟩
end

def upl (f:Fr):List Nat→List Value→Fr
  | p :: ps,v :: vs=>upl (up f p v) ps vs
  | _,_=>f
theorem At.upl {N:Nat} {D:Cx} {a:Act} {f:Fr} : ∀ {ps:List Nat} {vs:List Value},At N D a f→(ps.all fun p=>Nat.blt p N)=true →
    At N D { a with tmps:=(ps.zip vs).foldl (fun t (x:Nat×Value)=>t.setIfInBounds x.1 x.2) a.tmps } (L.upl f ps vs)
  | [],_,h,_=>by cases h;simp [L.upl];exact ⟨‹_›,‹_›,‹_›⟩
  | _ :: _,[],h,_=>by cases h;simp [L.upl];exact ⟨‹_›,‹_›,‹_›⟩
  | p :: ps,v :: vs,h,hp=>by
    simp only [List.all_cons,Bool.and_eq_true] at hp
    have h1:=At.upl (ps:=ps) (vs:=vs) (h.put hp.1 v) hp.2
    exact h1

structure RJ {σ:Type} (Facts:σ→World→Col→Prop) (M U:List Nat) (k l:Nat) (rec:Option Nat→Loop) (w1:World) (c1:Col) (s:σ×Option Nat) (w:World) (d:Col) (c':Col):Prop where
  facts:Facts s.1 w c'
  st:St (9 :: M) w1 c1 w c'
  d1:∀ b,b<w.heap.size→c' b ∈ 9 :: M→d b=1
  d0:∀ b,b<w1.heap.size→c1 b ∉ 9 :: M→d b=0
  rg:∀ b,c' b ∈ 9 :: k :: 10 :: U
  cl:c' l=9
  rl:w.heap[l]?=some (.loop (rec s.2))

variable {P:Program} {N:Nat} {f:Fr} {w:World} {c:Col} {Q:Exit→Fr→World→Prop} {σ α:Type}
theorem WC.rangeF {g:Operand} {ps:List Tmp} {assign body:Code} (enc:α→List Value) (ok:α→Prop) (Y:σ→α→Option (Option Nat×σ)) (Facts:σ→World→Col→Prop) (M U:List Nat) (k:Nat)
    {gf:Nat} {lb:List Value} {s0:σ} {send:σ×Option Nat} (hg:ev (msk Cx.marked N f) g = .func (.func gf) #[] lb.toArray) (hcall:∀ args w,(callFunc gf args).run P w = .ok (.enter gf args) w)
    (hp:(ps.all fun p=>Nat.blt p N)=true) (hps:∀ x,(enc x).length=ps.length) (hside:9 ∉ k :: 10 :: U∧k ∉ 9 :: 10 :: U∧10 ∉ M∧∀ i,i ∈ M→i ∈ U) (hc:∀ b,c b ∈ 10 :: U)
    (stab:∀ s w c w' c',Facts s w c→Kp M w c w' c'→Facts s w' c')
    (h0:Facts s0 w c)
    (it:∀ (l:Nat) (w1:World) (c1:Col) (Iv:Inv (σ×Option Nat)),St [] w c w1 c1→IvA Iv (s0,none) w1 (dv (9 :: M) c1) →
      (∀ s x b s' w2 d2,ok x→IvA Iv s w2 d2→Yc Y s x=some (b,s')→Yl P l (enc x) w2 fun v w3=>v = .bool b∧∃ d3,IvA Iv s' w3 d3∧St [1] w2 d2 w3 d3) →
      Calls P gf (.func (.yield l) #[] #[] :: lb).toArray w1 fun e w2=>∃ v d,e = .returned v∧St [1] w1 (dv (9 :: M) c1) w2 d∧IvA Iv send w2 d)
    (round:∀ l s x j s' w2 c2,ok x→St (9 :: M) w c w2 c2→Facts s w2 c2→Y s x=some (j,s') →
      WC P N ⟨some l,false⟩ assign (thenQ (fun f3 w3=>∃ c3 Ia,St Ia w2 c2 w3 c3∧9 ∉ Ia∧(∀ i,i ∈ Ia→i ∈ k :: 10 :: U→i ∈ M)∧∀ w4,St [9] w3 c3 w4 c3 →
        WC P N ⟨some l,false⟩ body (fun e _ w5=>e=je j∧∃ c5 Ib,Facts s' w5 c5∧St Ib w4 c3 w5 c5∧9 ∉ Ib∧(∀ i,i ∈ Ib→i ∈ k :: 10 :: U→i ∈ M)) f3 w4) (fun _ _ _=>False)) (upl (msk Cx.marked N f) ps (enc x)) w2)
    (fin:∀ w3 c3 r,St (9 :: M) w c w3 c3→Facts send.1 w3 c3→Mk k w3 c3 r→Q (je send.2) (up f N (mark r (f N))) w3) :
    WC P N Cx.marked (.rangeFunc g ps.toArray assign body) Q f w:=by
  obtain ⟨q9,qk,q10,qM⟩:=hside
  have m9:9 ∉ M:=fun h=>q9 (List.mem_cons_of_mem _ (List.mem_cons_of_mem _ (qM _ h)))
  have mk:k ∉ 9 :: M:=fun h=>by
    rcases List.mem_cons.1 h with h | h
    · exact qk (by simp [h])
    · exact qk (List.mem_cons_of_mem _ (List.mem_cons_of_mem _ (qM _ h)))
  intro a ha
  refine wpIn_rangeFunc fun fn hfn=>?_
  obtain ⟨rec,hrec⟩:∃ rec:Option Nat→Loop,rec=fun j => { state:=if j.isNone then .ready else .done,pending:=j.map jc,fn,tmps:=a.tmps,params:=ps.toArray,assign,body,defers:=w.heap.size }:=⟨_,rfl⟩
  obtain ⟨W1,hW1⟩:∃ W1,(w.alloc (.deferred (some []))).alloc (.loop (rec none))=W1:=⟨_,rfl⟩
  obtain ⟨C1,hC1⟩:∃ C1,pc (pc c w.heap.size k) (w.heap.size+1) 9=C1:=⟨_,rfl⟩
  have hL1:W1.heap[w.heap.size+1]?=some (.loop (rec none)):=by
    rw [← hW1];have:=World.alloc_heap_new (w.alloc (.deferred (some []))) (.loop (rec none));rwa [World.size_alloc] at this
  have hK1:W1.heap[w.heap.size]?=some (.deferred (some [])):=by
    rw [← hW1];exact (RowKit.Below.heap_alloc _ _ _ (by simp)).trans (World.alloc_heap_new w _)
  have s1:St [] w c W1 C1:=by
    have h1:=St.alloc (w:=w) (c:=c) (.deferred (some [])) k
    have h2:=St.alloc (w:=w.alloc (.deferred (some []))) (c:=pc c w.heap.size k) (.loop (rec none)) 9
    rw [World.size_alloc] at h2
    rw [← hW1,← hC1];exact h1.t h2
  have hck:C1 w.heap.size=k:=by rw [← hC1,pc_ne (by omega),pc_same]
  have hcl:C1 (w.heap.size+1)=9:=by rw [← hC1,pc_same]
  have hrg1:∀ b,C1 b ∈ 9 :: k :: 10 :: U:=fun b=>by
    rw [← hC1]
    by_cases h1:b=w.heap.size+1
    · subst h1;rw [pc_same];simp
    · rw [pc_ne h1]
      by_cases h2:b=w.heap.size
      · subst h2;rw [pc_same];simp
      · rw [pc_ne h2];exact List.mem_cons_of_mem _ (List.mem_cons_of_mem _ (hc b))
  have hsz1:W1.heap.size=w.heap.size+2:=by rw [← hW1];simp
  -- what lasts between the calls back
  let Iv:Inv (σ×Option Nat):=⟨fun s w2 d=>∃ c',RJ Facts M U k (w.heap.size+1) rec W1 C1 s w2 d c',fun s I w2 d w3 d3 ⟨c',h⟩ st n0 n1=>by
    have hlt:∀ b,b<w2.heap.size→d b=0 ∨ d b=1→d3 b=d b∧w3.heap[b]?=w2.heap[b]?:=fun b hb hd=>by
      have hn:d b ∉ I:=by rcases hd with e | e <;> rw [e] <;> assumption
      exact ⟨st.col b hb hn,st.blk b hb hn⟩
    have hin:∀ b,b<W1.heap.size→b<w2.heap.size:=fun b hb=>Nat.lt_of_lt_of_le hb h.st.size
    refine ⟨fun b=>if b<w2.heap.size∧(d b=1 ∨ b<W1.heap.size) then c' b else 10,?_,?_,?_,?_,?_,?_,?_⟩
    · refine stab _ _ _ _ _ h.facts fun b hb hm=>?_
      have hd:=h.d1 b hb (List.mem_cons_of_mem _ hm)
      exact ⟨if_pos ⟨hb,.inl hd⟩,(hlt b hb (.inr hd)).2⟩
    · refine ⟨st.os.trans h.st.os,st.tape.trans h.st.tape,st.output.trans h.st.output,Nat.le_trans h.st.size st.size,fun b hb hn=>?_,fun b hb hn=>?_⟩
      · show (if _ then _ else _)=_
        rw [if_pos ⟨hin b hb,.inr hb⟩];exact h.st.col b hb hn
      · rw [(hlt b (hin b hb) (.inl (h.d0 b hb hn))).2];exact h.st.blk b hb hn
    · intro b _ hm
      by_cases hx:b<w2.heap.size∧(d b=1 ∨ b<W1.heap.size)
      · rw [if_pos hx] at hm
        have hd:=h.d1 b hx.1 hm
        rw [(hlt b hx.1 (.inr hd)).1];exact hd
      · rw [if_neg hx] at hm
        rcases List.mem_cons.1 hm with e | e
        · cases e
        · exact absurd e q10
    · intro b hb hn
      have hd:=h.d0 b hb hn
      rw [(hlt b (hin b hb) (.inl hd)).1];exact hd
    · intro b
      show (if _ then _ else _) ∈ _
      split
      · exact h.rg b
      · simp
    · show (if _ then _ else _)=_
      rw [if_pos ⟨blk_lt h.rl,.inr (by omega)⟩];exact h.cl
    · rw [(hlt _ (blk_lt h.rl) (.inr (h.d1 _ (blk_lt h.rl) (by rw [h.cl];simp)))).2];exact h.rl⟩
  have hI0:IvA Iv (s0,none) W1 (dv (9 :: M) C1):=by
    refine ⟨C1,stab _ _ _ _ _ h0 (s1.kp (by simp)),⟨rfl,rfl,rfl,Nat.le_refl _,fun _ _ _=>rfl,fun _ _ _=>rfl⟩,fun b _ hm=>dv_mem hm,fun b _ hn=>dv_out rfl hn,hrg1,hcl,hL1⟩
  have hY:∀ s x b s' w2 d2,ok x→IvA Iv s w2 d2→Yc Y s x=some (b,s')→Yl P (w.heap.size+1) (enc x) w2 fun v w3=>v = .bool b∧∃ d3,IvA Iv s' w3 d3∧St [1] w2 d2 w3 d3:=by
    rintro s x b s' w2 d2 hok ⟨c',h⟩ hyc
    obtain ⟨hs2,hyy,hbb⟩:=Yc_some hyc
    obtain ⟨s,so⟩:=s
    simp only at hs2;subst hs2
    have hl2:=h.rl
    have hlt2:=blk_lt hl2
    have hy:=run_yield (P:=P) (args:=(enc x).toArray) hl2 (by rw [hrec];simpa using hps x)
    have htm:(((rec none).params.zip (enc x).toArray).foldl (fun tmps (t,a)=>tmps.setIfInBounds t a) (rec none).tmps)=(ps.zip (enc x)).foldl (fun t (x:Nat×Value)=>t.setIfInBounds x.1 x.2) a.tmps:=by rw [hrec];simp
    rw [htm] at hy
    have hfn':(rec none).fn=fn:=by rw [hrec]
    have has':(rec none).assign=assign:=by rw [hrec]
    have hbo':(rec none).body=body:=by rw [hrec]
    rw [hfn',has',hbo'] at hy
    refine ⟨fn,_,assign,body,hy,roundIn_of_wpIn hfn ?_⟩
    have hat:At N ⟨some (w.heap.size+1),false⟩ { tmps:=(ps.zip (enc x)).foldl (fun t (x:Nat×Value)=>t.setIfInBounds x.1 x.2) a.tmps,defers:=[] } (upl (msk Cx.marked N f) ps (enc x)):=by
      have h1:At N ⟨some (w.heap.size+1),false⟩ { tmps:=a.tmps,defers:=[] } (msk Cx.marked N f):=⟨rfl,ha.sz,ha.rd⟩
      exact h1.upl hp
    have sAll:St (9 :: M) w c w2 c':=s1.t h.st
    refine wpIn_mono (round (w.heap.size+1) s x _ _ w2 c' hok sAll h.facts hyy _ hat) ?_
    rintro e a3 w3 ⟨f3,ha3,hq⟩
    cases e with
    | normal =>
      obtain ⟨c3,Ia,sa,na9,naM,hbody⟩:=hq
      -- the record's block has stayed
      have hl3:w3.heap[w.heap.size+1]?=some (.loop (rec none)):=by rw [sa.blk _ hlt2 (by rw [h.cl];exact na9)];exact hl2
      have hc3:c3 (w.heap.size+1)=9:=by rw [sa.col _ hlt2 (by rw [h.cl];exact na9)];exact h.cl
      have hbr:=run_beginRound (P:=P) hl3 (by rw [hrec];rfl)
      refine ⟨_,hbr,?_⟩
      have s4:St [9] w3 c3 (w3.putObj (w.heap.size+1) (.loop { rec none with state := .busy })) c3:=by
        have:=St.putObj (w:=w3) (c:=c3) (r:=w.heap.size+1) (o := .loop { rec none with state := .busy });rwa [hc3] at this
      have hl4:(w3.putObj (w.heap.size+1) (.loop { rec none with state := .busy })).heap[w.heap.size+1]?=some (.loop { rec none with state := .busy }):=World.putObj_heap_same (blk_lt hl3)
      refine wpIn_mono (hbody _ s4 a3 ha3) ?_
      rintro e5 a5 w5 ⟨f5,_,he5,c5,Ib,hfacts,sb,nb9,nbM⟩
      have hl5:w5.heap[w.heap.size+1]?=some (.loop { rec none with state := .busy }):=by rw [sb.blk _ (blk_lt hl4) (by rw [hc3];exact nb9)];exact hl4
      have hc5:c5 (w.heap.size+1)=9:=by rw [sb.col _ (blk_lt hl4) (by rw [hc3];exact nb9)];exact hc3
      have hend:=run_endRound (P:=P) (s'.2.map jc) hl5
      have hst5:St (Ia++[9]++Ib) w2 c' w5 c5:=(sa.t s4).t sb
      -- the end of the round
      have key:∃ d3,IvA Iv s' (w5.putObj (w.heap.size+1) (.loop (rec s'.2))) d3∧St [1] w2 d2 (w5.putObj (w.heap.size+1) (.loop (rec s'.2))) d3:=by
        have hnotin:∀ b,c' b ∉ 9 :: M→c' b ∉ Ia++[9]++Ib:=fun b hb hi=>by
          have hr:=h.rg b
          have h9:c' b ≠ 9:=fun e=>hb (by rw [e];simp)
          have hr':c' b ∈ k :: 10 :: U:=(List.mem_cons.1 hr).resolve_left h9
          rcases List.mem_append.1 hi with hi | hi
          · rcases List.mem_append.1 hi with hi | hi
            · exact hb (List.mem_cons_of_mem _ (naM _ hi hr'))
            · exact h9 (by simpa using hi)
          · exact hb (List.mem_cons_of_mem _ (nbM _ hi hr'))
        have hsz5:w2.heap.size≤w5.heap.size:=hst5.size
        let c6:Col:=fun b=>_root_.cond ((9 :: k :: 10 :: U).contains (c5 b)) (c5 b) 10
        have c6in:∀ b,c5 b ∈ 9 :: k :: 10 :: U→c6 b=c5 b:=fun b hb=>by
          show _root_.cond _ _ _=_
          rw [show (9 :: k :: 10 :: U).contains (c5 b)=true by simpa using hb];rfl
        have c6rg:∀ b,c6 b ∈ 9 :: k :: 10 :: U:=fun b=>by
          show _root_.cond _ _ _ ∈ _
          cases hb:(9 :: k :: 10 :: U).contains (c5 b) with
          | true=>show c5 b ∈ _;simpa using hb
          | false=>show 10 ∈ _;simp
        have c6M:∀ b,c6 b ∈ 9 :: M→c5 b=c6 b:=fun b hb=>by
          cases hbb:(9 :: k :: 10 :: U).contains (c5 b) with
          | true=>exact (c6in b (by simpa using hbb)).symm
          | false =>
            have:c6 b=10:=by show _root_.cond _ _ _=_;rw [hbb];rfl
            rw [this] at hb
            rcases List.mem_cons.1 hb with e | e
            · cases e
            · exact absurd e q10
        let d3:Col:=fun b=>if b<w2.heap.size then d2 b else if c6 b ∈ 9 :: M then 1 else 7
        refine ⟨d3,⟨c6,?_,?_,?_,?_,c6rg,?_,?_⟩,?_⟩
        · refine stab _ _ _ _ _ hfacts fun b hb hm=>?_
          refine ⟨c6in b (List.mem_cons_of_mem _ (List.mem_cons_of_mem _ (List.mem_cons_of_mem _ (qM _ hm)))),World.putObj_heap_other fun e=>?_⟩
          rw [e,hc5] at hm;exact m9 hm
        · refine ⟨hst5.os.trans h.st.os,hst5.tape.trans h.st.tape,hst5.output.trans h.st.output,?_,fun b hb hn=>?_,fun b hb hn=>?_⟩
          · rw [World.putObj_size];exact Nat.le_trans h.st.size hsz5
          · have e1:=h.st.col b hb hn
            have hb2:b<w2.heap.size:=Nat.lt_of_lt_of_le hb h.st.size
            have e2:=hst5.col b hb2 (hnotin b (by rw [e1];exact hn))
            rw [c6in b (by rw [e2];exact h.rg b),e2,e1]
          · have e1:=h.st.col b hb hn
            have hb2:b<w2.heap.size:=Nat.lt_of_lt_of_le hb h.st.size
            have hne:b ≠ w.heap.size+1:=fun e=>hn (by rw [e,hcl];simp)
            rw [World.putObj_heap_other hne,hst5.blk b hb2 (hnotin b (by rw [e1];exact hn))]
            exact h.st.blk b hb hn
        · intro b _ hm
          show (if _ then _ else _)=_
          by_cases hb2:b<w2.heap.size
          · rw [if_pos hb2]
            by_cases hm2:c' b ∈ 9 :: M
            · exact h.d1 b hb2 hm2
            · exfalso
              have e2:=hst5.col b hb2 (hnotin b hm2)
              have:=c6M b hm
              exact hm2 (by rw [← e2,this];exact hm)
          · rw [if_neg hb2,if_pos hm]
        · intro b hb hn
          show (if _ then _ else _)=_
          rw [if_pos (Nat.lt_of_lt_of_le hb h.st.size)];exact h.d0 b hb hn
        · rw [c6in _ (by rw [hc5];simp),hc5]
        · exact World.putObj_heap_same (blk_lt hl5)
        · refine ⟨hst5.os,hst5.tape,hst5.output,by rw [World.putObj_size];exact hsz5,fun b hb _=>if_pos hb,fun b hb hn=>?_⟩
          have hm2:c' b ∉ 9 :: M:=fun hm=>hn (by rw [h.d1 b hb hm];simp)
          have hne:b ≠ w.heap.size+1:=fun e=>hm2 (by rw [e,h.cl];simp)
          rw [World.putObj_heap_other hne,hst5.blk b hb (hnotin b hm2)]
      have hrec':({ ({ rec none with state := .busy } : Loop) with state:=if (s'.2.map jc).isNone then .ready else .done,pending:=s'.2.map jc } : Loop)=rec s'.2:=by
        rw [hrec];cases s'.2 <;> rfl
      rw [hrec'] at hend
      have hb':(s'.2.map jc).isNone=b:=by rw [hbb];cases s'.2 <;> rfl
      rw [hb'] at hend
      subst he5
      cases hj:s'.2 with
      | none=>rw [hj] at hend key;exact ⟨_,_,hend,_,rfl,rfl,key⟩
      | some j =>
        rw [hj] at hend key
        cases j with
        | zero=>exact ⟨_,_,hend,_,rfl,rfl,key⟩
        | succ i=>exact ⟨_,_,hend,_,rfl,rfl,key⟩
    | exit i=>exact hq.elim
    | goto i=>exact hq.elim
    | ret=>exact hq.elim
    | panic ch=>exact hq.elim
    | outgrown=>exact hq.elim
  have hcalls:=it (w.heap.size+1) W1 C1 Iv s1 hI0 hY
  refine ⟨w.heap.size+1,[{ target := .collected w.heap.size,args:=#[] }],W1,{ target := .fn (.func gf) lb.toArray,args:=#[.func (.yield (w.heap.size+1)) #[] #[]] },W1,gf,
    (.func (.yield (w.heap.size+1)) #[] #[] :: lb).toArray,W1,?_,?_,?_,?_,fun h=>by simp [FR,Fence.wide] at h,?_⟩
  · rw [← hW1,hrec];exact run_enterLoop_outer _ _ _ _ _
  · have:a.eval g = .func (.func gf) #[] lb.toArray:=by rw [ha.eval];exact hg
    simp only [resolve,this]
    simp [go_sem]
  · intro f' _;trivial
  · simp [invoke,go_sem,hcall]
  · have h2:CallsIn (FR none) (0-1) P gf (.func (.yield (w.heap.size+1)) #[] #[] :: lb).toArray W1 fun e w2=>∃ v d,e = .returned v∧St [1] W1 (dv (9 :: M) C1) w2 d∧IvA Iv send w2 d:=callsIn_wide.2 hcalls
    refine h2.mono ?_
    rintro e w2 ⟨v,d,rfl,_,c',h⟩
    have hend:=run_endLoop (P:=P) h.rl (by rw [hrec];cases send.2 <;> simp)
    have hat:At N Cx.marked { a with defers:=[{ target := .collected w.heap.size,args:=#[] }]++a.defers } (up f N (mark w.heap.size (f N))):=by
      refine ⟨?_,ha.sz,fun t=>?_⟩
      · have h1:up f N (mark w.heap.size (f N)) N=mark w.heap.size (f N):=by simp [up]
        show [_]++a.defers=dec (up f N (mark w.heap.size (f N)) N)
        rw [h1,dec_mark,ha.nd];rfl
      · have h1:=ha.rd t
        rw [h1]
        show _root_.cond (Nat.beq t N) undef (f t)=_root_.cond (Nat.beq t N) undef (_root_.cond (Nat.beq t N) _ (f t))
        cases Nat.beq t N <;> rfl
    obtain ⟨W9,hW9⟩:∃ W9,w2.putObj (w.heap.size+1) (.loop { rec send.2 with state := .exhausted })=W9:=⟨_,rfl⟩
    rw [hW9] at hend
    have hQ:Q (je send.2) (up f N (mark w.heap.size (f N))) W9:=by
      have sAll:St (9 :: M) w c w2 c':=s1.t h.st
      have sp:St [9] w2 c' W9 c':=by
        rw [← hW9]
        have:=St.putObj (w:=w2) (c:=c') (r:=w.heap.size+1) (o := .loop { rec send.2 with state := .exhausted });rwa [h.cl] at this
      refine fin _ c' _ ((sAll.t sp).mono (by intro x hx;simp at hx ⊢;rcases hx with h | h | h <;> simp [h])) (stab _ _ _ _ _ h.facts (sp.kp (by intro i hi e;simp at e;subst e;exact m9 hi))) ?_
      have hkb:w.heap.size<W1.heap.size:=by omega
      have e1:=h.st.col _ hkb (by rw [hck];exact mk)
      refine ⟨by rw [e1,hck],?_⟩
      rw [← hW9,World.putObj_heap_other (by omega),h.st.blk _ hkb (by rw [hck];exact mk)]
      exact hK1
    have hpend:(rec send.2).pending=send.2.map jc:=by rw [hrec]
    rw [hpend] at hend
    refine ⟨send.2.map jc,_,hend,?_⟩
    cases hj:send.2 with
    | none=>rw [hj] at hQ;exact ⟨_,hat,hQ⟩
    | some j =>
      rw [hj] at hQ
      cases j with
      | zero=>exact wpIn_ret ⟨_,hat,hQ⟩
      | succ i=>exact wpIn_exit ⟨_,hat,hQ⟩
end
end Go.Proofs.YtjgbakieogadfabGreatDoor.L

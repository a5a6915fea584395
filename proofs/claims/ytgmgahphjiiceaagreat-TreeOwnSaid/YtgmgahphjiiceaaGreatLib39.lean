/-
  A range over a function that is walked in place,its rounds too;no round leaves the loop. No program in sight.
-/
import Derived.Test.YtgmgahphjiiceaaGreatLib38
namespace Go.Proofs.YtgmgahphjiiceaaGreat.L
open Go
structure RecOk (rec : Loop) (N : Nat) (g : Fr) (ps : List Nat) (assign body : Code) : Prop where
  st:rec.state = .ready
  pe:rec.pending=none
  pr:rec.params=ps.toArray
  asn:rec.assign=assign
  bo:rec.body=body
  sz:rec.tmps.size=N
  rd:∀ t,rec.tmps.getD t undef=msk Cx.marked N g t
abbrev busy (rec : Loop) : Loop := { rec with state := .busy }
def Lq (kl : Nat) (w : World) (c : Col) (l : Nat) (rec : Loop) : Prop := c l = kl ∧ w.heap[l]? = some (.loop rec)
theorem Lq.keep {kl l : Nat} {rec : Loop} {I : List Nat} {w w' : World} {c c' : Col} (h : Lq kl w c l rec) (s : St I w c w' c') (hi : kl ∉ I := by decide) : Lq kl w' c' l rec := by
  have hb:=blk_lt h.2
  have hn:c l ∉ I:=by rw [h.1];exact hi
  exact ⟨by rw [s.col l hb hn,h.1],by rw [s.blk l hb hn,h.2]⟩
theorem thenQ_nrm {K : Fr → World → Prop} {Q : Exit → Fr → World → Prop} {f : Fr} {w : World} (h : K f w) : thenQ K Q .normal f w := h
section
variable {P : Program} {N : Nat} {f : Fr} {w : World} {c : Col} {Q : Exit → Fr → World → Prop} {o : Oper} {R : Value → World → Prop}
theorem WC.rangeI {g : Operand} {ps : List Tmp} {assign body : Code} (k kl : Nat) {gf : Nat} {lb : List Value} (hg : ev (msk Cx.marked N f) g = .func (.func gf) #[] lb.toArray) (hcall : ∀ args w, (callFunc gf args).run P w = .ok (.enter gf args) w)
    (it:∀ (l r:Nat) (rec:Loop) (w1:World) (c1:Col),RecOk rec N f ps assign body→St [] w c w1 c1→Lq kl w1 c1 l rec→Mk k w1 c1 r →
      Calls P gf (.func (.yield l) #[] #[] :: lb).toArray w1 fun e w2=>(∃ v,e = .returned v)∧∃ c2,Lq kl w2 c2 l rec∧∀ w3,St [kl] w2 c2 w3 c2→Q .normal (up f N (mark r (f N))) w3) :
    WC P N Cx.marked (.rangeFunc g ps.toArray assign body) Q f w:=by
  intro a ha
  refine wpIn_rangeFunc fun fn hfn=>?_
  obtain ⟨rec,hrec⟩ : ∃ rec:Loop,rec = { state := .ready,pending:=none,fn,tmps:=a.tmps,params:=ps.toArray,assign,body,defers:=w.heap.size }:=⟨_,rfl⟩
  obtain ⟨W1,hW1⟩ : ∃ W1,(w.alloc (.deferred (some []))).alloc (.loop rec)=W1:=⟨_,rfl⟩
  obtain ⟨C1,hC1⟩ : ∃ C1,pc (pc c w.heap.size k) (w.heap.size + 1) kl=C1:=⟨_,rfl⟩
  have hL1:W1.heap[w.heap.size + 1]?=some (.loop rec):=by
    rw [← hW1];have:=World.alloc_heap_new (w.alloc (.deferred (some []))) (.loop rec);rwa [World.size_alloc] at this
  have hK1:W1.heap[w.heap.size]?=some (.deferred (some [])):=by
    rw [← hW1];exact (RowKit.Below.heap_alloc _ _ _ (by simp)).trans (World.alloc_heap_new w _)
  have s1:St [] w c W1 C1:=by
    have h1:=St.alloc (w:=w) (c:=c) (.deferred (some [])) k
    have h2:=St.alloc (w:=w.alloc (.deferred (some []))) (c:=pc c w.heap.size k) (.loop rec) kl
    rw [World.size_alloc] at h2
    rw [← hW1,← hC1];exact h1.t h2
  have hck:C1 w.heap.size=k:=by rw [← hC1,pc_ne (by omega),pc_same]
  have hcl:C1 (w.heap.size + 1)=kl:=by rw [← hC1,pc_same]
  have hok:RecOk rec N f ps assign body:=by subst hrec;exact ⟨rfl,rfl,rfl,rfl,rfl,ha.sz,ha.rd⟩
  have hcalls:=it (w.heap.size + 1) w.heap.size rec W1 C1 hok s1 ⟨hcl,hL1⟩ ⟨hck,hK1⟩
  refine ⟨w.heap.size + 1,[{ target := .collected w.heap.size,args:=#[] }],W1,{ target := .fn (.func gf) lb.toArray,args:=#[.func (.yield (w.heap.size + 1)) #[] #[]] },W1,gf,
    (.func (.yield (w.heap.size + 1)) #[] #[] :: lb).toArray,W1,?_,?_,?_,?_,fun h=>by simp [FR,Fence.wide] at h,?_⟩
  · rw [← hW1,hrec];exact run_enterLoop_outer _ _ _ _ _
  · have:a.eval g = .func (.func gf) #[] lb.toArray:=by rw [ha.eval];exact hg
    simp only [resolve,this]
    simp [go_sem]
  · intro f' _;trivial
  · simp [invoke,go_sem,hcall]
  · have h2:CallsIn (FR none) (0 - 1) P gf (.func (.yield (w.heap.size + 1)) #[] #[] :: lb).toArray W1 _:=callsIn_wide.2 hcalls
    refine h2.mono ?_
    rintro e w2 ⟨⟨v,rfl⟩,c2,hL,h3⟩
    have hend:=run_endLoop (P:=P) hL.2 (by rw [hok.st];simp)
    have hat:At N Cx.marked { a with defers:=[{ target := .collected w.heap.size,args:=#[] }]++a.defers } (up f N (mark w.heap.size (f N))):=by
      refine ⟨?_,ha.sz,fun t=>?_⟩
      · have h1:up f N (mark w.heap.size (f N)) N=mark w.heap.size (f N):=by simp [up]
        show [_]++a.defers=dec (up f N (mark w.heap.size (f N)) N)
        rw [h1,dec_mark,ha.nd];rfl
      · have h1:=ha.rd t
        rw [h1]
        show _root_.cond (Nat.beq t N) undef (f t)=_root_.cond (Nat.beq t N) undef (_root_.cond (Nat.beq t N) _ (f t))
        cases Nat.beq t N <;> rfl
    have sp:St [kl] w2 c2 (w2.putObj (w.heap.size + 1) (.loop { rec with state := .exhausted })) c2:=by
      have:=St.putObj (w:=w2) (c:=c2) (r:=w.heap.size + 1) (o := .loop { rec with state := .exhausted });rwa [hL.1] at this
    refine ⟨none,_,?_,_,hat,h3 _ sp⟩
    rw [hend,hok.pe]
theorem OS.yieldI {x : Operand} {l kl : Nat} {rec : Loop} {ps : List Nat} {g : Fr} {assign body : Code} {xs : List Operand} {vs : List Value} {ts : Array TypeId} (hR : RecOk rec N g ps assign body)
    (ho:o.op = .call { callee := .value x,args:=xs.toArray,argTypes:=ts }) (hx:ev f x = .func (.yield l) #[] #[]) (hp:PA f xs vs) (hl:Lq kl w c l rec) (hps:vs.length=ps.length) (hpN:(ps.all fun p=>Nat.blt p N)=true)
    (h:WC P N ⟨some l,false⟩ assign (thenQ (fun f3 w3 => ∃ c3,Lq kl w3 c3 l rec∧∀ w4,St [kl] w3 c3 w4 c3→Lq kl w4 c3 l (busy rec) →
      WC P N ⟨some l,false⟩ body (fun e _ w5=>e = .normal∧∃ c5,Lq kl w5 c5 l (busy rec)∧∀ w6,St [kl] w5 c5 w6 c5→Lq kl w6 c5 l rec→R (.bool true) w6) f3 w4) (fun _ _ _=>False)) (upl (msk Cx.marked N g) ps vs) w):OS P o f w R:=by
  refine OS.yield ho hx hp ?_
  have hy:=run_yield (P:=P) (args:=vs.toArray) hl.2 (by rw [hR.pr];simpa using hps)
  have htm:((rec.params.zip vs.toArray).foldl (fun tmps (t,a)=>tmps.setIfInBounds t a) rec.tmps)=(ps.zip vs).foldl (fun t (x:Nat × Value)=>t.setIfInBounds x.1 x.2) rec.tmps:=by rw [hR.pr];simp
  rw [htm,hR.asn,hR.bo] at hy
  refine ⟨rec.fn,_,assign,body,hy,roundIn_of_wpIn trivial ?_⟩
  have hat:At N ⟨some l,false⟩ { tmps:=(ps.zip vs).foldl (fun t (x:Nat × Value)=>t.setIfInBounds x.1 x.2) rec.tmps,defers:=[] } (upl (msk Cx.marked N g) ps vs):=by
    have h1:At N ⟨some l,false⟩ { tmps:=rec.tmps,defers:=[] } (msk Cx.marked N g):=⟨rfl,hR.sz,hR.rd⟩
    exact h1.upl hpN
  refine wpIn_mono (h _ hat) ?_
  rintro e a3 w3 ⟨f3,ha3,hq⟩
  cases e with
  | normal =>
    obtain ⟨c3,hl3,hbody⟩:=hq
    have hbr:=run_beginRound (P:=P) hl3.2 hR.st
    refine ⟨_,hbr,?_⟩
    have s4:St [kl] w3 c3 (w3.putObj l (.loop (busy rec))) c3:=by
      have:=St.putObj (w:=w3) (c:=c3) (r:=l) (o := .loop (busy rec));rwa [hl3.1] at this
    have hl4:Lq kl (w3.putObj l (.loop (busy rec))) c3 l (busy rec):=⟨hl3.1,World.putObj_heap_same (blk_lt hl3.2)⟩
    refine wpIn_mono (hbody _ s4 hl4 a3 ha3) ?_
    rintro e5 a5 w5 ⟨f5,_,rfl,c5,hl5,h6⟩
    have hend:=run_endRound (P:=P) none hl5.2
    have hrec' : ({ busy rec with state:=if (none:Option Code).isNone then .ready else .done,pending:=none } : Loop)=rec:=by
      have e1:=hR.st;have e2:=hR.pe
      cases rec;simp only at e1 e2;subst e1;subst e2;rfl
    rw [hrec'] at hend
    have s6:St [kl] w5 c5 (w5.putObj l (.loop rec)) c5:=by
      have:=St.putObj (w:=w5) (c:=c5) (r:=l) (o := .loop rec);rwa [hl5.1] at this
    exact ⟨_,_,hend,_,rfl,h6 _ s6 ⟨hl5.1,World.putObj_heap_same (blk_lt hl5.2)⟩⟩
  | exit i=>exact hq.elim
  | goto i=>exact hq.elim
  | ret=>exact hq.elim
  | panic ch=>exact hq.elim
  | outgrown=>exact hq.elim
end
end Go.Proofs.YtgmgahphjiiceaaGreat.L

/-
  A function that defers a call of a closure which recovers: where nothing panics. No program in sight.
-/
import Derived.Test.YtgmgahphjiiceaaGreatLib36
import Derived.DefersIn
import Derived.RecoverIn
namespace Go.Proofs.YtgmgahphjiiceaaGreat.L
open Go
section
variable {P : Program} {N N' : Nat} {f : Fr} {w : World} {ops rest : List Oper} {o : Oper} {R : Value → World → Prop} {x : Operand} {Q : Exit → Fr → World → Prop} {c : Code} {fn : Func}
theorem blkQ_nrm {id : Nat} (h : Q .normal f w) : blkQ id Q .normal f w := h
def pof (clo : Value) : Value → Value
  | .tuple l => .tuple (#[clo]++l)
  | _ => .tuple #[clo]
theorem dec_pof (k : FuncId) (caps : Array Value) (v : Value) : dec (pof (.func (.func k) #[] caps) v) = { target := .fn (.func k) caps, args := #[] } :: dec v := by
  cases v <;> simp [pof,dec]
theorem WR.defer {k : FuncId} {caps : Array Value} (hg : o.guard = none) (hd : o.dst = none) (ho : o.op = .defer { callee := .value x, args := #[], argTypes := #[] }) (hx : ev (msk Cx.marked N f) x = .func (.func k) #[] caps)
    (h:WR P ops N Cx.marked Q rest (up f N (pof (.func (.func k) #[] caps) (f N))) w):WR P ops N Cx.marked Q (o :: rest) f w:=fun a ha=>by
  refine wpListIn_plain hg fun K hK=>?_
  have hr:(o.semAt (FR Cx.marked.rd).round a.eval).run P w = .ok (.defer { target := .fn (.func k) caps,args:=#[] }) w:=by
    show (o.semAt none a.eval).run P w=_
    rw [Oper.semAt_none]
    unfold execOp;rw [ho]
    have:a.eval x = .func (.func k) #[] caps:=by rw [ha.eval];exact hx
    simp [resolve,this,Deferred.ofValue]
  refine ⟨fun _ _=>trivial,?_⟩
  rw [hr]
  refine hK _ _ (h _ ⟨?_,?_,fun t=>?_⟩)
  · rw [hd]
    show ({ target := .fn (.func k) caps,args:=#[] } :: a.defers:List Deferred)=dec (up f N (pof (.func (.func k) #[] caps) (f N)) N)
    have:up f N (pof (.func (.func k) #[] caps) (f N)) N=pof (.func (.func k) #[] caps) (f N):=by simp [up]
    rw [this,dec_pof,ha.nd];rfl
  · rw [hd];exact ha.sz
  · rw [hd]
    show a.tmps.getD t undef=msk Cx.marked N (up f N _) t
    rw [ha.rd t]
    show cond (Nat.beq t N) undef (f t)=cond (Nat.beq t N) undef (up f N _ t)
    cases hb:Nat.beq t N with
    | true=>rfl
    | false=>simp [up,hb]
def Dfr (P : Program) (w : World) (v : Value) : Prop := v = undef ∨ ∃ k caps, v = .tuple #[.func (.func k) #[] caps] ∧ (∀ args w, (callFunc k args).run P w = .ok (.enter k args) w) ∧
  CallsDIn Fence.wide (0 - 1) P k caps .returning w (fun e u' w'=>(∃ v,e = .returned v)∧u' = .returning∧w'=w)
def fnQD (P : Program) (fn : Func) (R : Ending → World → Prop) : Exit → Fr → World → Prop
  | .normal,f,w | .ret,f,w=>Dfr P w (f fn.ntmps)∧∃ v,(∀ tmps:Array Value,(∀ t,tmps.getD t undef=msk Cx.marked fn.ntmps f t)→(results fn tmps).run P w = .ok v w)∧R (.returned v) w
  | _,_,_=>False
theorem calls_introD {k : FuncId} {args : List Value} {R : Ending → World → Prop} (hf : P.funcs[k]? = some fn) (hb : fn.body = some c) (hn : fn.ntmps = N)
    (hl:Nat.ble args.length N=true) (h:WC P N Cx.marked c (fnQD P fn R) (fr0 args) w):Calls P k args.toArray w R:=by
  subst hn
  have key:∀ (a:Act) (f' : Fr) (w' : World),At fn.ntmps Cx.marked a f'→fnQD P fn R .ret f' w'→LeavesIn Fence.wide 0 P fn a.tmps R a.defers .returning w':=by
    rintro a f' w' ha ⟨hd,v,h4,h5⟩
    rcases hd with h1 | ⟨k,caps,h1,h2,h3⟩
    · rw [ha.nd,h1]
      exact ⟨v,h4 _ ha.rd,h5⟩
    rw [ha.nd,h1]
    show LeavesIn Fence.wide 0 P fn a.tmps R [{ target := .fn (.func k) caps,args:=#[] }] .returning w'
    refine leavesIn_cons (f:=k) (args:=caps) (by simp) (by simp [Fence.wide]) (by simp [invoke,h2]) (fun _ _=>trivial) (h3.mono ?_)
    rintro e u' w'' ⟨⟨v',rfl⟩,rfl,rfl⟩
    exact ⟨v,h4 _ ha.rd,h5⟩
  refine callsIn_wide.1 (callsIn_of_wp_defers (n:=0) (F:=Fence.wide) hf hb trivial (wpIn_mono (h _ (At.enter hl)) fun e a w hq=>?_))
  obtain ⟨f',hf',hq⟩:=hq
  cases e with
  | normal=>exact key a f' w hf' hq
  | ret=>exact key a f' w hf' hq
  | _=>exact hq.elim
theorem OS.callID {k : FuncId} {xs : List Operand} {vs : List Value} {ts : Array TypeId} (ho : o.op = .call { callee := .value (.func k), args := xs.toArray, argTypes := ts }) (hp : PA f xs vs)
    (hk:∀ args w,(callFunc k args).run P w = .ok (.enter k args) w) (hf:P.funcs[k]?=some fn) (hb:fn.body=some c) (hn:fn.ntmps=N') (hl:Nat.ble vs.length N'=true)
    (h:WC P N' Cx.marked c (fnQD P fn fun e w'' => ∃ v,e = .returned v∧R v w'') (fr0 vs) w):OS P o f w R :=
  OS.callF ho hp hk (calls_introD hf hb hn hl h)
theorem pof_undef (v : Value) : pof v undef = .tuple #[v] := by simp [pof, undef]
def R1D (P : Program) (f : Fr) (w : World) (r : ResultVar) (v : Value) : Prop :=
  R1 P f w r v ∨ ∃ a t p,r = .cell a t∧f a=p∧(∀ w,(isAgg t).run P w = .ok false w)∧Ld w p [v]
theorem R1D.run {r : ResultVar} {v : Value} (h : R1D P f w r v) (tmps : Array Value) (ht : ∀ t, tmps.getD t undef = f t) : (resVal tmps r).run P w = .ok v w := by
  rcases h with h | ⟨a,t,p,rfl,h1,h2,h3⟩
  · exact h.run tmps ht
  · obtain ⟨ad,hp,hc⟩:=h3.one
    subst hp
    simp [resVal,ht,h1,asAddr,loadVar,h2,hc,run_load]
def R1Ds (P : Program) (f : Fr) (w : World) : List ResultVar → List Value → Prop
  | [],[]=>True
  | r :: rs,v :: vs=>R1D P f w r v∧R1Ds P f w rs vs
  | _,_=>False
theorem R1Ds.run (tmps : Array Value) (ht : ∀ t, tmps.getD t undef = f t) : ∀ {rs : List ResultVar} {vs : List Value}, R1Ds P f w rs vs → (rs.mapM (resVal tmps)).run P w = .ok vs w
  | [],[],_=>by simp
  | r :: rs,v :: vs,⟨h1,h2⟩=>by simp [List.mapM_cons,h1.run tmps ht,R1Ds.run tmps ht h2]
  | [],_ :: _,h=>h.elim
  | _ :: _,[],h=>h.elim
theorem fnQD.l1 {v : Value} {Rr : Ending → World → Prop} {r : ResultVar} (hr : fn.results = #[r]) (hn : fn.ntmps = N) (hd : Dfr P w (f N)) (h1 : R1D P (msk Cx.marked N f) w r v) (h : Rr (.returned v) w) : fnQD P fn Rr .ret f w := by
  subst hn
  exact ⟨hd,v,fun tmps ht=>by rw [results_eq,hr];simp [h1.run tmps ht],h⟩
theorem fnQD.ls {Rr : Ending → World → Prop} {rs : List ResultVar} {vs : List Value} (hr : fn.results = rs.toArray) (hn : fn.ntmps = N) (hd : Dfr P w (f N)) (h1 : R1Ds P (msk Cx.marked N f) w rs vs) (h : Rr (.returned (.tuple vs.toArray)) w) (hl : vs.length ≠ 1 := by decide) : fnQD P fn Rr .ret f w := by
  subst hn
  exact ⟨hd,.tuple vs.toArray,fun tmps ht=>by
    rw [results_eq,hr]
    have hm:=h1.run tmps ht
    simp [hm,hl],h⟩
theorem callsD_nil {k : FuncId} {rest : Code} {caps : List Value} {id d : Nat} {ty : TypeId} (hf : P.funcs[k]? = some fn) (hb : fn.body = some (.seq (.region id #[o] false) rest)) (hn : fn.ntmps = N) (hl : Nat.ble caps.length N = true)
    (hg:o.guard=none) (hd:o.dst=some d) (hN:Nat.blt d N=true) (ho:o.op = .call { callee := .builtin .recover,args:=#[],argTypes:=#[] }) (_ht:o.type=ty)
    (h:WC P N Cx.top rest (fnQ P fn fun e w'=>(∃ v,e = .returned v)∧w'=w) (up (fr0 caps) d .nilIface) w) :
    CallsDIn Fence.wide (0 - 1) P k caps.toArray .returning w (fun e u' w'=>(∃ v,e = .returned v)∧u' = .returning∧w'=w):=by
  subst hn
  refine callsDIn_of_wpSIn hf hb trivial fun c₀ cs hu=>wpSIn_seq (wpSIn_region ?_)
  have e0:(List.range #[o].size)=[0]:=rfl
  rw [e0]
  unfold wpOpsSIn
  have e1 : #[o][0]?=some o:=rfl
  rw [e1]
  refine ⟨fun _ _=>trivial,?_⟩
  rw [if_pos (by simp [Region.wanted,hg])]
  have e2:∀ ρ,(execOp ρ o).run P w = .ok .recover w:=fun ρ=>by
    unfold execOp;rw [ho]
    simp [resolve,invoke,builtin]
  rw [e2]
  have e3:recoverD (c₀ :: cs)=none:=by simp [recoverD,hu]
  simp only [e3]
  unfold wpOpsSIn
  refine wpSIn_of_wpIn rfl (wpIn_mono (h _ (by rw [hd];exact (At.enter hl).put hN _)) fun e a w' hq=>?_)
  obtain ⟨f',hf',hq⟩:=hq
  have hc:({ c₀ with mode := .returning } : Frame)=c₀:=by rw [← hu]
  cases e with
  | normal=>obtain ⟨v,h1,h2,h3⟩:=hq;exact ⟨hf'.nd,.returning,by rw [hc],v,h1 _ hf'.rd,h2,rfl,h3⟩
  | ret=>obtain ⟨v,h1,h2,h3⟩:=hq;exact ⟨hf'.nd,.returning,by rw [hc],v,h1 _ hf'.rd,h2,rfl,h3⟩
  | panic ch=>obtain ⟨⟨v,h1⟩,_⟩:=hq;cases h1
  | _=>exact hq.elim
end
end Go.Proofs.YtgmgahphjiiceaaGreat.L

/-
  A range over a function. No program in sight.
-/
import Derived.Test.YtgmgahphjiiceaaGreatLib7
namespace Go.Proofs.YtgmgahphjiiceaaGreat.L
open Go

section
variable {α : Type} {E : Enc α} {w w' : World} {c c' d : Col} {v p : Value} {xs ys : List α} {i j : Nat} {U M : List Nat}
theorem Vw.tr (h : Vw E i w c v xs) (hc : ∀ b, c b = i → d b = j) : Vw E j w d v xs := by
  rcases h with h | ⟨b,off,cap,cs,T,fz,h1,h2,h3,h4,h5⟩
  · exact .inl h
  · exact .inr ⟨b,off,cap,cs,T,fz,h1,h2,hc b h3,h4,h5⟩
theorem Ow.tr (h : Ow E i w c v xs) (hc : ∀ b, c b = i → d b = j) : Ow E j w d v xs := ⟨h.1, fun g hg => hc g (h.2 g hg)⟩
theorem Bx.tr {us : List Value} (h : Bx i w c v us) (hc : ∀ b, c b = i → d b = j) : Bx j w d v us := by
  obtain ⟨b,T,h1,h2,h3⟩:=h;exact ⟨b,T,h1,hc b h2,h3⟩
theorem St.putObj {r : Nat} {o : Obj} : St [c r] w c (w.putObj r o) c :=
  ⟨rfl,rfl,rfl,by simp,fun _ _ _=>rfl,fun b _ hn=>World.putObj_heap_other fun e=>hn (by simp [e])⟩
end

def Mk (k : Nat) (w : World) (c : Col) (r : Nat) : Prop := c r = k ∧ w.heap[r]? = some (.deferred (some []))
theorem Mk.keep {I : List Nat} {k r : Nat} {w w' : World} {c c' : Col} (h : Mk k w c r) (s : St I w c w' c') (hi : k ∉ I := by decide) : Mk k w' c' r := by
  have hb:=blk_lt h.2
  exact ⟨by rw [s.col r hb (by rw [h.1];exact hi),h.1],by rw [s.blk r hb (by rw [h.1];exact hi),h.2]⟩
theorem Mk.take {P : Program} {k r : Nat} {w : World} {c : Col} (h : Mk k w c r) : (Instr.takeDeferred r).run P w = .ok [] (w.putObj r (.deferred none)) ∧ St [k] w c (w.putObj r (.deferred none)) c :=
  ⟨run_takeDeferred h.2,by rw [← h.1];exact St.putObj⟩

structure Inv (σ : Type) where
  J:σ→World→Col→Prop
  keep:∀ s I w c w' c',J s w c→St I w c w' c'→0 ∉ I→1 ∉ I→J s w' c'
def Yl (P : Program) (l : Nat) (args : List Value) (w : World) (R : Value → World → Prop) : Prop :=
  ∃ fn tmps assign body,(Instr.yield l args.toArray).run P w = .ok (.round l fn tmps assign body) w∧RoundIn Fence.wide 0 P l fn tmps assign body w (fun e w' => ∃ v,e = .returned v∧R v w')
section
variable {P : Program} {N : Nat} {f : Fr} {w : World} {o : Oper} {Q : Exit → Fr → World → Prop}
theorem OS.yield {x : Operand} {l : Nat} {xs : List Operand} {vs : List Value} {ts : Array TypeId} {R : Value → World → Prop} (ho : o.op = .call { callee := .value x, args := xs.toArray, argTypes := ts })
    (hx:ev f x = .func (.yield l) #[] #[]) (hp:PA f xs vs) (h:Yl P l vs w R):OS P o f w R:=by
  obtain ⟨fn,tmps,assign,body,hy,hr⟩:=h
  intro r a K Q ha hK
  refine wpIn_of (x := .round l fn tmps assign body) (w':=w) ha (by intro d hd;cases hd) ?_ ⟨fun h=>by simp [FR,Fence.wide] at h,?_⟩
  · unfold execOp;rw [ho]
    have:(xs.toArray.map (ev f))=vs.toArray:=by rw [List.map_toArray,hp.map]
    simp only [resolve,this,Sem.run_bind,hx,Deferred.ofValue,Sem.run_pure,Result.andThen_ok,invoke]
    simp [hy]
  · have h1:RoundIn (FR r) (0 - 1) P l fn tmps assign body w fun e w' => ∃ v,e = .returned v∧R v w':=hr
    exact h1.mono fun e w'' ⟨v,he,hR⟩=>by subst he;exact hK _ _ hR

theorem OS.makeFunc {k : FuncId} {cs : List Operand} {vs : List Value} {R : Value → World → Prop} (ho : o.op = .makeFunc (.func k) #[] cs.toArray) (hp : PA f cs vs) (h : R (.func (.func k) #[] vs.toArray) w) : OS P o f w R :=
  OS.val (v := .func (.func k) #[] vs.toArray) (w':=w) (by
    unfold execOp;rw [ho]
    have:(cs.toArray.map (ev f))=vs.toArray:=by rw [List.map_toArray,hp.map]
    simp [this,Instr.makeFunc]) h
theorem fnQM.l1 {fn : Func} {Rr : Ending → World → Prop} {r : ResultVar} {v : Value} {w' : World} (hr : fn.results = #[r]) (ht : Taken P (dec (f fn.ntmps)) w w') (h1 : R1 P (msk Cx.marked fn.ntmps f) w' r v) (h : Rr (.returned v) w') : fnQM P fn Rr .ret f w :=
  ⟨v,w',ht,fun tmps ht=>by rw [results_eq,hr];simp [h1.run tmps ht],h⟩
theorem fnQM.ls {fn : Func} {Rr : Ending → World → Prop} {rs : List ResultVar} {vs : List Value} {w' : World} (hr : fn.results = rs.toArray) (ht : Taken P (dec (f fn.ntmps)) w w') (h1 : R1s P (msk Cx.marked fn.ntmps f) w' rs vs) (h : Rr (.returned (.tuple vs.toArray)) w') (hn : vs.length ≠ 1 := by decide) : fnQM P fn Rr .ret f w :=
  ⟨.tuple vs.toArray,w',ht,fun tmps ht=>by
    rw [results_eq,hr]
    have hm:=h1.run tmps ht
    simp [hm,hn],h⟩

section
variable {α : Type} {E : Enc α} {w w' : World} {c c' : Col} {v : Value} {xs : List α} {i : Nat} {M : List Nat}
end

def upl (f : Fr) : List Nat → List Value → Fr
  | p :: ps,v :: vs=>upl (up f p v) ps vs
  | _,_=>f
theorem At.upl {N : Nat} {D : Cx} {a : Act} {f : Fr} : ∀ {ps : List Nat} {vs : List Value}, At N D a f → (ps.all fun p => Nat.blt p N) = true →
    At N D { a with tmps:=(ps.zip vs).foldl (fun t (x:Nat × Value)=>t.setIfInBounds x.1 x.2) a.tmps } (L.upl f ps vs)
  | [],_,h,_=>by cases h;simp [L.upl];exact ⟨‹_›,‹_›,‹_›⟩
  | _ :: _,[],h,_=>by cases h;simp [L.upl];exact ⟨‹_›,‹_›,‹_›⟩
  | p :: ps,v :: vs,h,hp=>by
    simp only [List.all_cons,Bool.and_eq_true] at hp
    have h1:=At.upl (ps:=ps) (vs:=vs) (h.put hp.1 v) hp.2
    exact h1

structure RJ {σ : Type} (Facts : σ → World → Col → Prop) (M U : List Nat) (k l : Nat) (rec : Option Nat → Loop) (w1 : World) (c1 : Col) (s : σ × Option Nat) (w : World) (d : Col) (c' : Col) : Prop where
  facts:Facts s.1 w c'
  st:St (9 :: M) w1 c1 w c'
  d1:∀ b,b < w.heap.size→c' b ∈ 9 :: M→d b=1
  d0:∀ b,b < w1.heap.size→c1 b ∉ 9 :: M→d b=0
  rg:∀ b,c' b ∈ 9 :: k :: 10 :: U
  cl:c' l=9
  rl:w.heap[l]?=some (.loop (rec s.2))

variable {P : Program} {N : Nat} {f : Fr} {w : World} {c : Col} {Q : Exit → Fr → World → Prop} {σ α : Type}
end
end Go.Proofs.YtgmgahphjiiceaaGreat.L

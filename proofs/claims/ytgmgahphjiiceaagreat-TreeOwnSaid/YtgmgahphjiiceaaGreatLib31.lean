/-
  A call that is walked in place;a loop that is walked round by round. No program in sight.
-/
import Derived.Test.YtgmgahphjiiceaaGreatLib30
namespace Go.Proofs.YtgmgahphjiiceaaGreat.L
open Go
section
variable {P : Program} {N N' : Nat} {D : Cx} {f : Fr} {w : World} {o : Oper} {R : Value → World → Prop} {x : Operand} {Q : Exit → Fr → World → Prop} {c : Code} {fn : Func}
theorem OS.callI {k : FuncId} {xs : List Operand} {vs : List Value} {ts : Array TypeId} (ho : o.op = .call { callee := .value (.func k), args := xs.toArray, argTypes := ts }) (hp : PA f xs vs)
    (hk:∀ args w,(callFunc k args).run P w = .ok (.enter k args) w) (hf:P.funcs[k]?=some fn) (hb:fn.body=some c) (hn:fn.ntmps=N') (hl:Nat.ble vs.length N'=true)
    (h:WC P N' Cx.top c (fnQ P fn fun e w'' => ∃ v,e = .returned v∧R v w'') (fr0 vs) w):OS P o f w R :=
  OS.callF ho hp hk (calls_intro hf hb hn hl h)
theorem OS.callCloI {k : FuncId} {ys : List Operand} {vs cs : List Value} {ts : Array TypeId} (ho : o.op = .call { callee := .value x, args := ys.toArray, argTypes := ts }) (hx : ev f x = .func (.func k) #[] cs.toArray) (hp : PA f ys vs)
    (hk:∀ args w,(callFunc k args).run P w = .ok (.enter k args) w) (hf:P.funcs[k]?=some fn) (hb:fn.body=some c) (hn:fn.ntmps=N') (hl:Nat.ble (vs++cs).length N'=true)
    (h:WC P N' Cx.top c (fnQ P fn fun e w'' => ∃ v,e = .returned v∧R v w'') (fr0 (vs++cs)) w):OS P o f w R :=
  OS.callClo ho hx hp hk (calls_intro hf hb hn hl h)
theorem WC.loopU {n : Nat} (hn : n ≠ 0) (h : WC P N D c (thenQ (fun _ _ => False) Q) f w) : WC P N D (.loop c) Q f w := by
  have _:=hn
  refine WC.loop (fun k f' w'=>k=0∧f'=f∧w'=w) 0 ⟨rfl,rfl,rfl⟩ ?_
  rintro k f' w' ⟨rfl,rfl,rfl⟩
  exact h.mono fun e f w hq=>by cases e <;> first | exact hq | exact hq.elim
end
end Go.Proofs.YtgmgahphjiiceaaGreat.L

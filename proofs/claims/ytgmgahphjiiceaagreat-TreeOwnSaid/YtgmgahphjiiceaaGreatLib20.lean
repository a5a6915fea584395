/-
  A map turned at the key at hand while it is gone through. No program in sight.
-/
import Derived.Test.YtgmgahphjiiceaaGreatLib19
namespace Go.Proofs.YtgmgahphjiiceaaGreat.L
open Go
open Go.ChangeMaps (setBlock)
section
variable {β κ : Type} [DecidableEq κ] {kv : κ → Value} {V : VR β} {P : Program} {f : Fr} {w w' : World} {c c' : Col} {o : Oper} {R : Value → World → Prop} {x y z : Operand} {v u p : Value} {i j : Nat} {m left : List (κ × β)} {kt et mt : TypeId} {a : κ}
end
section
variable {α : Type} {E : Enc α} {P : Program} {f : Fr} {w : World} {c d : Col} {o : Oper} {R : Value → World → Prop} {x : Operand} {p q r v : Value} {i j : Nat} {xs : List α}
theorem OS.callClo {k : FuncId} {ys : List Operand} {vs cs : List Value} {ts : Array TypeId} (ho : o.op = .call { callee := .value x, args := ys.toArray, argTypes := ts }) (hx : ev f x = .func (.func k) #[] cs.toArray) (hp : PA f ys vs)
    (hk:∀ args w,(callFunc k args).run P w = .ok (.enter k args) w) (h:Calls P k (vs++cs).toArray w fun e w'' => ∃ v,e = .returned v∧R v w''):OS P o f w R :=
  OS.call (args:=(vs++cs).toArray) (w':=w) (by
    unfold execOp;rw [ho]
    have:(ys.toArray.map (ev f))=vs.toArray:=by rw [List.map_toArray,hp.map]
    simp only [resolve,this,Sem.run_bind,hx,Deferred.ofValue,Sem.run_pure,Result.andThen_ok,invoke]
    simp [hk]) h
theorem AdrP.z {s k : Nat} (h : Adr v k s p) : AdrP p 0 1 p := by
  obtain ⟨b,o,n,cap,_,rfl⟩:=h
  exact ⟨b,_,rfl,by simp⟩
theorem OS.fieldAddrP {t : TypeId} {k n j : Nat} {fs : Array Field} {fd : Field} (ho : o.op = .fieldAddr t x k) (ht : ∀ w, (underlying t).run P w = .ok (.struct fs) w) (hf : fs[k]? = some fd)
    (hs:∀ w,(sizeOf fd.type).run P w = .ok n w) (hn:(n == 0)=false) (hx:ev f x=q) (hp:AdrP p j 1 q) (h:∀ r,AdrP p (j + fd.offset) 1 r→R r w):OS P o f w R:=by
  obtain ⟨b,off,rfl,rfl⟩:=hp
  refine OS.fieldAddr ho ht hf hs hn hx rfl fun r hr=>h r ?_
  obtain ⟨b',o',e,rfl⟩:=hr
  cases e
  exact ⟨b,off,rfl,by simp [Nat.add_assoc]⟩
end
end Go.Proofs.YtgmgahphjiiceaaGreat.L

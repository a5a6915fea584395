/-
  A nil value of an interface type,compared with nil. No program in sight.
-/
import Derived.Test.YtgmgahphjiiceaaGreatLib25
namespace Go.Proofs.YtgmgahphjiiceaaGreat.L
open Go Go.Shelf Go.RowKit Go.Sort
section
variable {P : Program} {f : Fr} {o : Oper} {R : Value → World → Prop} {x y : Operand} {w : World}
theorem eq_nilif {t : TypeId} {ms : Array (String × TypeId)} (ht : P.underlying t = some (.interface ms)) (d : Nat) (w : World) : (Op.equalIn (d + 1) t .nilIface .nilIface).run P w = .ok true w := by
  simp only [Op.equalIn,Sem.run_bind,run_underlying ht,Result.andThen_ok];rfl
theorem run_eqNilIf {t : TypeId} {ms : Array (String × TypeId)} (ht : P.underlying t = some (.interface ms)) (w : World) : (Op.equal t .nilIface .nilIface).run P w = .ok true w := eq_nilif ht 9999 w
theorem OS.eqNilIf {op : BinOp} {t t' : TypeId} {ms : Array (String × TypeId)} {q : Bool} {u : Value} (ho : o.op = .binOp op t x (.const u) t') (hop : op = .eql ∧ q = true ∨ op = .neq ∧ q = false) (ht : P.underlying t = some (.interface ms))
    (hx:ev f x = .nilIface) (hy:ev f (.const u) = .nilIface) (h:R (.bool q) w):OS P o f w R:=by
  refine OS.val (v := .bool q) (w':=w) ?_ h
  unfold execOp;rw [ho]
  have hg:∀ w,(eqGuard op t x (.const u) .nilIface .nilIface).run P w = .ok () w:=by
    intro w
    unfold eqGuard
    rcases hop with ⟨rfl,_⟩ | ⟨rfl,_⟩ <;> simp
  rcases hop with ⟨rfl,rfl⟩ | ⟨rfl,rfl⟩
  · simp [hx,hy,hg,binOp,run_eqNilIf ht]
  · simp [hx,hy,hg,binOp,run_eqNilIf ht]
end
end Go.Proofs.YtgmgahphjiiceaaGreat.L

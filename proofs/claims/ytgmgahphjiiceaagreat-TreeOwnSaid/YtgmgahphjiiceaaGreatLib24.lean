/-
  Arrays among an object's cells,runes as texts,the greater of two numbers;slices of structs that hold slices. No program in sight.
-/
import Derived.Test.YtgmgahphjiiceaaGreatLib22
namespace Go.Proofs.YtgmgahphjiiceaaGreat.L
open Go
def maxI (a b : Int) : Int := if b > a then b else a
def prj (i : Nat) : Value → Value
  | .tuple vs=>vs.getD i undef
  | _=>undef
section
variable {P : Program} {f : Fr} {w : World} {o : Oper} {R : Value → World → Prop} {x y z : Operand}
theorem OS.maxI2 {ts : Array TypeId} {k k' : IntKind} {a b : Int} (ho : o.op = .call { callee := .builtin .max, args := #[x, y], argTypes := ts })
    (hx:ev f x = .int k a) (hy:ev f y = .int k' b) (h:R (.int k (maxI a b)) w):OS P o f w R :=
  OS.val (v := .int k (maxI a b)) (w':=w) (by
    unfold execOp;rw [ho]
    simp [resolve,invoke,builtin,hx,hy,Builtin.max_,Builtin.max2,maxI]) h
end
/-! short forms -/
section
variable {P : Program} {N : Nat} {D : Cx} {f : Fr} {w : World} {ops rest : List Oper} {o : Oper} {Q : Exit → Fr → World → Prop} {d : Nat} {x y : Operand} {v a b : Value}
theorem kk (h : (o.guard, o.dst, Nat.blt d N) = (none, some d, true)) (hs : OS P o (msk D N f) w fun v w' => WR P ops N D Q rest (up f d v) w') : WR P ops N D Q (o :: rest) f w := by
  simp only [Prod.mk.injEq] at h;exact WR.k h.1 h.2.1 h.2.2 hs
theorem mv (h : (o.op, o.guard, o.dst, Nat.blt d N) = (.move x, none, some d, true)) (hx : ev (msk D N f) x = v) (k : WR P ops N D Q rest (up f d v) w) : WR P ops N D Q (o :: rest) f w := by
  simp only [Prod.mk.injEq] at h;exact WR.k h.2.1 h.2.2.1 h.2.2.2 (OS.move h.1 hx k)
theorem ag (h : (o.op, o.guard, o.dst, Nat.blt d N) = (.assign x, none, some d, true)) (hx : ev (msk D N f) x = v) (k : WR P ops N D Q rest (up f d v) w) : WR P ops N D Q (o :: rest) f w := by
  simp only [Prod.mk.injEq] at h;exact WR.k h.2.1 h.2.2.1 h.2.2.2 (OS.assign h.1 hx k)
theorem bn {op : BinOp} {t t' : TypeId} (h : (o.op, o.guard, o.dst, Nat.blt d N) = (.binOp op t x y t', none, some d, true)) (hx : ev (msk D N f) x = a) (hy : ev (msk D N f) y = b) (hb : Bin op a b v) (k : WR P ops N D Q rest (up f d v) w) : WR P ops N D Q (o :: rest) f w := by
  simp only [Prod.mk.injEq] at h;exact WR.k h.2.1 h.2.2.1 h.2.2.2 (OS.bin h.1 hx hy hb k)
theorem sr {id : Nat} {c : Code} (h : WR P ops N D (thenQ (WC P N D c Q) Q) ops f w) : WC P N D (.seq (.region id ops.toArray false) c) Q f w := WC.seq (WC.region h)
end
section
variable {α : Type} {E : Enc α} {i : Nat} {w : World} {c : Col} {v : Value} {xs ys : List α}
theorem Ow.eq (h : Ow E i w c v xs) (e : ys = xs) : Ow E i w c v ys := e ▸ h
theorem Vw.eq (h : Vw E i w c v xs) (e : ys = xs) : Vw E i w c v ys := e ▸ h
end
end Go.Proofs.YtgmgahphjiiceaaGreat.L

/-
  Arrays among an object's cells,runes as texts,the greater of two numbers;slices of structs that hold slices. No program in sight.
-/
import Derived.Test.YtjgbakieogadfabGreatDoorLib22
namespace Go.Proofs.YtjgbakieogadfabGreatDoor.L
open Go
def fa (n:Nat) (x:List UInt8):List Value:=(List.range n).map fun i=>vU8 (x.getD i 0)
theorem fa_fl {t:TypeId} {n:Nat} {x:List UInt8} (h:x.length=n):fl (eU8 t) x=fa n x:=by
  subst h
  rw [fl_u8];unfold fa
  apply List.ext_getElem
  · simp
  · intro i h1 h2
    simp only [List.getElem_map,List.getElem_range]
    have:i<x.length:=by simpa using h1
    rw [List.getD_eq_getElem?_getD,List.getElem?_eq_getElem this];rfl
theorem ld_fa {t:TypeId} {n:Nat} {x:List UInt8} {w:World} {p:Value} (h:x.length=n) (l:Ld w p (fa n x)):Ld w p (fl (eU8 t) x):=by rw [fa_fl h]; exact l
theorem arr_fa {t:TypeId} {n:Nat} {x:List UInt8} {v:Value} (e:v = .agg (fl (eU8 t) x).toArray) (h:x.length=n):v = .agg (fa n x).toArray:=by rw [e,fa_fl h]
theorem len_fl8 {t:TypeId} {n:Nat} {x:List UInt8} (h:x.length=n):(fl (eU8 t) x).length=n:=by rw [fl_length,h]; exact Nat.mul_one n
def runeS (n:Int):List UInt8:=(Utf8.encode n).data.toList
def maxI (a b:Int):Int:=if b > a then b else a
def prj (i:Nat):Value→Value
  | .tuple vs=>vs.getD i undef
  | _=>undef
def R32 (n:Int):Int:=IntKind.i32.wrap n
theorem cv_ir (n:Int):Value.int .i32 (IntKind.i32.wrap n)=vR (R32 n):=rfl
theorem low01 {i:Nat} {I:List Nat} (hi:i≤1) (h0:0 ∉ I) (h1:1 ∉ I):i ∉ I:=by
  rcases Nat.lt_or_ge i 1 with h | h
  · rw [show i=0 by omega];exact h0
  · rw [show i=1 by omega];exact h1
theorem b64_quo {x y:UInt64} (h:y ≠ 0):Bin .quo (vU64 x) (vU64 y) (vU64 (x / y)):=bin_int fun P w t=>by
  have h0:(y.toNat:Int) ≠ 0:=fun e=>h (UInt64.toNat_inj.1 (by simpa using e))
  show (if (y.toNat:Int)=0 then _ else _:Sem Value).run P w=_
  rw [if_neg h0]
  have h1:=x.toNat_lt
  have h2:((x.toNat:Int).tdiv (y.toNat:Int))=((x / y).toNat:Int):=by rw [UInt64.toNat_div];rfl
  show Result.ok (Value.int .u64 (IntKind.u64.wrap ((x.toNat:Int).tdiv (y.toNat:Int)))) w=_
  rw [h2,u64_of (x:=x / y)]
  have:=(x / y).toNat_lt
  omega
section
variable {P:Program} {f:Fr} {w:World} {o:Oper} {R:Value→World→Prop} {x y z:Operand}
theorem OS.runeStr {s t:TypeId} {k k':IntKind} {n:Int} (ho:o.op = .convert s t x) (hs:∀ w,(underlying s).run P w = .ok (.int k) w)
    (ht:∀ w,(underlying t).run P w = .ok .string w) (hx:ev f x = .int k' n) (h:R (vS (runeS n)) w):OS P o f w R :=
  OS.val (v:=vS (runeS n)) (w':=w) (by
    unfold execOp;rw [ho];simp only [hx,convert,Sem.run_bind,hs,ht,Result.andThen_ok,Conv.intToString,Sem.run_pure]
    simp [runeS]) h
theorem OS.neg64 {t:TypeId} {q:UInt64} (ho:o.op = .unOp .neg t x) (hx:ev f x=vU64 q) (h:R (vU64 (0-q)) w):OS P o f w R :=
  OS.val (v:=vU64 (0-q)) (w':=w) (by
    unfold execOp;rw [ho]
    have e:Value.int .u64 (IntKind.u64.wrap (0-(q.toNat:Int)))=vU64 (0-q):=u64_of (by
      have h1:=q.toNat_lt
      rw [UInt64.toNat_sub]
      simp
      omega)
    have h2:(Op.unary .neg (vU64 q)).run P w = .ok (Value.int .u64 (IntKind.u64.wrap (0-(q.toNat:Int)))) w:=rfl
    simp only [hx,Sem.run_bind,h2,Result.andThen_ok,Sem.run_pure,e]) h
theorem OS.maxI2 {ts:Array TypeId} {k k':IntKind} {a b:Int} (ho:o.op = .call { callee := .builtin .max,args := #[x,y],argTypes:=ts })
    (hx:ev f x = .int k a) (hy:ev f y = .int k' b) (h:R (.int k (maxI a b)) w):OS P o f w R :=
  OS.val (v := .int k (maxI a b)) (w':=w) (by
    unfold execOp;rw [ho]
    simp [resolve,invoke,builtin,hx,hy,Builtin.max_,Builtin.max2,maxI]) h
end
/-! short forms -/
section
variable {P:Program} {N:Nat} {D:Cx} {f:Fr} {w:World} {ops rest:List Oper} {o:Oper} {Q:Exit→Fr→World→Prop} {d:Nat} {x y:Operand} {v a b:Value}
theorem kk (h:(o.guard,o.dst,Nat.blt d N)=(none,some d,true)) (hs:OS P o (msk D N f) w fun v w'=>WR P ops N D Q rest (up f d v) w'):WR P ops N D Q (o :: rest) f w:=by
  simp only [Prod.mk.injEq] at h;exact WR.k h.1 h.2.1 h.2.2 hs
theorem mv (h:(o.op,o.guard,o.dst,Nat.blt d N)=(.move x,none,some d,true)) (hx:ev (msk D N f) x=v) (k:WR P ops N D Q rest (up f d v) w):WR P ops N D Q (o :: rest) f w:=by
  simp only [Prod.mk.injEq] at h;exact WR.k h.2.1 h.2.2.1 h.2.2.2 (OS.move h.1 hx k)
theorem ag (h:(o.op,o.guard,o.dst,Nat.blt d N)=(.assign x,none,some d,true)) (hx:ev (msk D N f) x=v) (k:WR P ops N D Q rest (up f d v) w):WR P ops N D Q (o :: rest) f w:=by
  simp only [Prod.mk.injEq] at h;exact WR.k h.2.1 h.2.2.1 h.2.2.2 (OS.assign h.1 hx k)
theorem bn {op:BinOp} {t t':TypeId} (h:(o.op,o.guard,o.dst,Nat.blt d N)=(.binOp op t x y t',none,some d,true)) (hx:ev (msk D N f) x=a) (hy:ev (msk D N f) y=b) (hb:Bin op a b v) (k:WR P ops N D Q rest (up f d v) w):WR P ops N D Q (o :: rest) f w:=by
  simp only [Prod.mk.injEq] at h;exact WR.k h.2.1 h.2.2.1 h.2.2.2 (OS.bin h.1 hx hy hb k)
theorem sr {id:Nat} {c:Code} (h:WR P ops N D (thenQ (WC P N D c Q) Q) ops f w):WC P N D (.seq (.region id ops.toArray false) c) Q f w:=WC.seq (WC.region h)
end
section
variable {α:Type} {E:Enc α} {i:Nat} {w:World} {c:Col} {v:Value} {xs ys:List α}
theorem Ow.eq (h:Ow E i w c v xs) (e:ys=xs):Ow E i w c v ys:=e ▸ h
theorem Vw.eq (h:Vw E i w c v xs) (e:ys=xs):Vw E i w c v ys:=e ▸ h
theorem Arr.eq (h:Arr E i w c v xs) (e:ys=xs):Arr E i w c v ys:=e ▸ h
end
end Go.Proofs.YtjgbakieogadfabGreatDoor.L

/-
  Shorter names for the walks' commonest steps. No program in sight.
-/
import Derived.Test.YtgmgahphjiiceaaGreatLib28
namespace Go.Proofs.YtgmgahphjiiceaaGreat.L
open Go
section
variable {P : Program} {N : Nat} {D : Cx} {f : Fr} {w : World} {c : Col} {ops rest : List Oper} {o : Oper} {Q : Exit → Fr → World → Prop}
theorem kt {d dj j : Nat} {b b' : Bool} (h : (o.guard, (ops[j]?).bind (·.dst), o.dst, Nat.blt d N) = (some (j, b'), some dj, some d, true)) (hb : msk D N f dj = .bool b) (hg : b = b')
    (k:OS P o (msk D N f) w fun v w'=>WR P ops N D Q rest (up f d v) w'):WR P ops N D Q (o :: rest) f w:=by
  simp only [Prod.mk.injEq] at h;exact WR.kT h.1 h.2.1 (by rw [hb,hg]) h.2.2.1 h.2.2.2 k
theorem gf {d dj j : Nat} {b b' : Bool} (h : (o.guard, (ops[j]?).bind (·.dst), o.dst, Nat.blt d N) = (some (j, b'), some dj, some d, true)) (hb : msk D N f dj = .bool b) (hg : b = !b')
    (k:WR P ops N D Q rest (up f d undef) w):WR P ops N D Q (o :: rest) f w:=by
  simp only [Prod.mk.injEq] at h;exact WR.gF h.1 h.2.1 (by rw [hb,hg]) h.2.2.1 h.2.2.2 k
end
/-! what is told of slots stays told, where the slots are as they were -/
section
variable {s t n a b : Nat} {X p : Value} {L : List Nat} (y1 y2 : Fr) (w : World) (c : Col) (I : List Nat) (w' : World) (c' : Col)
theorem sp (h : y1 t = prj n (y1 s)) (e : AllL (fun t => y2 t = y1 t) [s, t]) (_ : St I w c w' c') (_ : ∀ x, x ∈ L → x ∉ I) : y2 t = prj n (y2 s) := by rw [e.1, e.2.1]; exact h
end
/-! a return passes what waits behind it -/
class RetQ (Q : Exit → Fr → World → Prop) (Q' : outParam (Exit → Fr → World → Prop)) : Prop where
  ret:∀ f w,Q' .ret f w→Q .ret f w
instance retI {Q : Exit → Fr → World → Prop} : RetQ Q Q := ⟨fun _ _ h => h⟩
instance retT {K : Fr → World → Prop} {Q Q' : Exit → Fr → World → Prop} [h : RetQ Q Q'] : RetQ (thenQ K Q) Q' := ⟨fun f w x => thenQ_ret (h.ret f w x)⟩
instance retB {id : Nat} {Q Q' : Exit → Fr → World → Prop} [h : RetQ Q Q'] : RetQ (blkQ id Q) Q' := ⟨fun f w x => blkQ_ret (h.ret f w x)⟩
section
variable {P : Program} {f : Fr} {w : World} {v : Value} {fn : Func} {Rr : Ending → World → Prop}
theorem f1 {r : ResultVar} (hr : fn.results = #[r]) (h : Rr (.returned v) w) (h1 : R1 P f w r v := by exact .inl ⟨_, rfl, rfl⟩) : fnQ P fn Rr .ret f w := fnQ.l1 hr h1 h
end
abbrev fs (t : Nat) (X : Value) : FactF := fun f _ _ => f t = X
theorem sh {F : Value → Prop} {L : List Nat} (v : Value) (w : World) (c : Col) (I : List Nat) (w' : World) (c' : Col) (h : F v) (_ : St I w c w' c') (_ : ∀ x, x ∈ L → x ∉ I) : F v := h
end Go.Proofs.YtgmgahphjiiceaaGreat.L

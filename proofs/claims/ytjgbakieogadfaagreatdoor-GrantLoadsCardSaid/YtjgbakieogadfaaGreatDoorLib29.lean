/-
  Shorter names for the walks' commonest steps. No program in sight.
-/
import Derived.Test.YtjgbakieogadfaaGreatDoorLib28
namespace Go.Proofs.YtjgbakieogadfaaGreatDoor.L
open Go
section
variable {P : Program} {N : Nat} {D : Cx} {f : Fr} {w : World} {c : Col} {ops rest : List Oper} {o : Oper} {Q : Exit → Fr → World → Prop}
theorem kt {d dj j : Nat} {b b' : Bool} (h : (o.guard, (ops[j]?).bind (·.dst), o.dst, Nat.blt d N) = (some (j, b'), some dj, some d, true)) (hb : msk D N f dj = .bool b) (hg : b = b')
    (k:OS P o (msk D N f) w fun v w'=>WR P ops N D Q rest (up f d v) w'):WR P ops N D Q (o :: rest) f w:=by
  simp only [Prod.mk.injEq] at h;exact WR.kT h.1 h.2.1 (by rw [hb,hg]) h.2.2.1 h.2.2.2 k
theorem gf {d dj j : Nat} {b b' : Bool} (h : (o.guard, (ops[j]?).bind (·.dst), o.dst, Nat.blt d N) = (some (j, b'), some dj, some d, true)) (hb : msk D N f dj = .bool b) (hg : b = !b')
    (k:WR P ops N D Q rest (up f d undef) w):WR P ops N D Q (o :: rest) f w:=by
  simp only [Prod.mk.injEq] at h;exact WR.gF h.1 h.2.1 (by rw [hb,hg]) h.2.2.1 h.2.2.2 k
theorem tq {K : Fr → World → Prop} (h : Q .ret f w) : thenQ K Q .ret f w := h
theorem bq {id : Nat} (h : Q .ret f w) : blkQ id Q .ret f w := h
theorem St.mg {d : Col} {w w' : World} (n : Nat) (h : St [] w c0 w' d) : ∃ c', St [] w c w' c' := ⟨_, h.merge (fun x => x + n)⟩
theorem ua {C : Nat → Bool} {f g : Fr} {v : Value} (h : ∀ t, C t = false → g t = f t) (t : Nat) (hx : f t = v) (hc : C t = false := by kernel_rfl) : g t = v := (h t hc).trans hx
end
end Go.Proofs.YtjgbakieogadfaaGreatDoor.L

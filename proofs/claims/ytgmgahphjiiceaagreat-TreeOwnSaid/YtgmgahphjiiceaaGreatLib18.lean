/-
  A region that draws its order,stores among its operations: what is known is said of the frame. No program in sight.
-/
import Derived.Test.YtgmgahphjiiceaaGreatLib6
namespace Go.Proofs.YtgmgahphjiiceaaGreat.L
open Go
abbrev FactF := Fr → World → Col → Prop
def trFF : FactF := fun _ _ _ => True
def dstO (ops : List Oper) (i : Nat) : Option Nat := (ops[i]?).bind (·.dst)
def upO (f : Fr) (d : Option Nat) (v : Value) : Fr := match d with | some t => up f t v | none => f
section
variable {P : Program} {N : Nat} {D : Cx} {f : Fr} {w : World} {c : Col} {ops rest : List Oper} {o : Oper} {Q : Exit → Fr → World → Prop}
def Held2 (pl : Plan) (A : List (List Nat)) (Φ : List FactF) (li : Array Bool) (f' : Fr) (w' : World) (c' : Col) : Prop :=
  ∀ j,j < pl.m→li.getD j false=true→(∀ i',i' < pl.m→li.getD i' false=true→i'=j ∨ i' ∈ A.getD j [] ∨ ∀ x,x ∈ pl.K.getD j []→x ∉ pl.M.getD i' [])→(Φ.getD j trFF) f' w' c'

end
end Go.Proofs.YtgmgahphjiiceaaGreat.L

/-
  append with zeros: 'append(xs,make(T,n)...)'. No program in sight.
-/
import Derived.Test.YtgmgahphjiiceaaGreatLib8
namespace Go.Proofs.YtgmgahphjiiceaaGreat.L
open Go
section
variable {P : Program} {f : Fr} {w : World} {c : Col} {o : Oper} {R : Value → World → Prop} {x y : Operand} {v u : Value}
end
end Go.Proofs.YtgmgahphjiiceaaGreat.L

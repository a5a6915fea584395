/-
  slices.SortFunc at structs,by the kit's contract,in the words of this calculus. No program in sight.
-/
import Derived.Test.YtgmgahphjiiceaaGreatLib20
import Derived.Shelf.SlSortCmp.NoneTotal
namespace Go.Proofs.YtgmgahphjiiceaaGreat.L
open Go Go.Shelf Go.RowKit Go.Sort
section
variable {α : Type}
end
section
variable {P : Program} {f : Fr} {w : World} {o : Oper} {R : Value → World → Prop} {x : Operand} {v : Value} {us : List Value} {t : TypeId} {c : Col}
end
end Go.Proofs.YtgmgahphjiiceaaGreat.L

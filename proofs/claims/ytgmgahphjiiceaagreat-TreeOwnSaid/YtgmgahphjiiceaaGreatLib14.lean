/-
  A handed array of slices of bytes,as plain data. No program in sight.
-/
import Derived.Test.YtgmgahphjiiceaaGreatLib12
import Derived.OpenShut
namespace Go.Proofs.YtgmgahphjiiceaaGreat.L
open Go Go.ChangeShapes Go.WideShapes Go.ChangeAt Go.RowKit
section
variable {P : Program} {W : World} {base : Nat} {t e e' : TypeId} {v : Value}
end
end Go.Proofs.YtgmgahphjiiceaaGreat.L

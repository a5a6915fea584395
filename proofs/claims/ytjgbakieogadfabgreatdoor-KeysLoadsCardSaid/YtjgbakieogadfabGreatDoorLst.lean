/-
  Lists,as the document's loops go through them. No program in sight.
-/
import Derived.Test.YtjgbakieogadfabGreatDoorIns
namespace Go.Proofs.YtjgbakieogadfabGreatDoor
open Go L Go.Sort
section
variable {α:Type}
end
end Go.Proofs.YtjgbakieogadfabGreatDoor

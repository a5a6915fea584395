/-
  The law of opening again, for inputs as they come in. Plain Lean.
-/
import Derived.Test.YtjgbakieogadfabGreatDoorKeyJ
namespace Go.Proofs.YtjgbakieogadfabGreatDoor
theorem row_back (root plain : List UInt8) (n : UInt8) (hr : root.length = 32) : ∃ K, holdfastlaw09_KeysBack K root plain n = some true := ⟨0 + 1200, law_back 0 root plain n hr⟩
end Go.Proofs.YtjgbakieogadfabGreatDoor

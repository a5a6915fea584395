/-
  A map turned at the key at hand while it is gone through. No program in sight.
-/
import Derived.Test.YtjgbakieogadfabGreatDoorLib19
namespace Go.Proofs.YtjgbakieogadfabGreatDoor.L
open Go
open Go.ChangeMaps (setBlock)
section
variable {β κ:Type} [DecidableEq κ] {kv:κ→Value} {V:VR β} {P:Program} {f:Fr} {w w':World} {c c':Col} {o:Oper} {R:Value→World→Prop} {x y z:Operand} {v u p:Value} {i j:Nat} {m left:List (κ×β)} {kt et mt:TypeId} {a:κ}
end
section
variable {α:Type} {E:Enc α} {P:Program} {f:Fr} {w:World} {c d:Col} {o:Oper} {R:Value→World→Prop} {x:Operand} {p q r v:Value} {i j:Nat} {xs:List α}
end
end Go.Proofs.YtjgbakieogadfabGreatDoor.L

import Derived.Test.YtjgbakieogadfaaGreatDoorPlainR
import Derived.Test.YtjgbakieogadfaaGreatDoorOpen
namespace Go.Proofs.YtjgbakieogadfaaGreatDoor
open Go L
theorem law_none (K : Nat) (o : S_api_Owner) (c : List UInt8) : holdfastlaw13_GrantNone K o c = some true := by
  unfold holdfastlaw13_GrantNone
  rw [live_eq]
  rfl
theorem row_none (o : S_api_Owner) (c : List UInt8) (_h : ok24 o) (_hc : c.length ≤ 9223372036854775807) : ∃ K, holdfastlaw13_GrantNone K o c = some true := ⟨0, law_none 0 o c⟩
end Go.Proofs.YtjgbakieogadfaaGreatDoor

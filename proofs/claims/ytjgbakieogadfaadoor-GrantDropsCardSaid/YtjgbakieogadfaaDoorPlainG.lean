import Derived.Test.YtjgbakieogadfaaDoorPlainF
import Derived.Test.YtjgbakieogadfaaDoorOpen
namespace Go.Proofs.YtjgbakieogadfaaDoor
open Go L
theorem nmd_of {K : Nat} (hK : 9223372036854775807 < K) {x : S_holdfastlaw13_Deed} (h : ok44 x) : NmD K x := by
  obtain ⟨_, h2, h3, _⟩ := h
  exact ⟨⟨Nat.lt_of_le_of_lt h2.1 hK, h2.1⟩, ⟨Nat.lt_of_le_of_lt h2.2 hK, h2.2⟩, ⟨Nat.lt_of_le_of_lt h3 hK, h3⟩⟩
theorem big : ∃ K : Nat, 1000 < K ∧ 9223372036854775807 < K := ⟨9223372036854775808, by decide, by decide⟩
theorem row_narrow (l : List S_holdfastlaw13_Deed) (x : S_holdfastlaw13_Deed) (hl : ∀ a ∈ l, ok44 a) (_hx : ok44 x) : ∃ K, holdfastlaw13_GrantNarrow K l x = some true := by
  obtain ⟨K, h1, h2⟩ := big
  exact ⟨K, law_narrow K h1 l x fun y hy => nmd_of h2 (hl y hy)⟩
theorem row_drops (l : List S_holdfastlaw13_Deed) (x : S_holdfastlaw13_Deed) (o : List UInt8) (hl : ∀ a ∈ l, ok44 a) (_hx : ok44 x) (_ho : o.length ≤ 9223372036854775807) : ∃ K, holdfastlaw13_GrantDrops K l x o = some true := by
  obtain ⟨K, h1, h2⟩ := big
  exact ⟨K, law_drops K h1 l x o fun y hy => nmd_of h2 (hl y hy)⟩
end Go.Proofs.YtjgbakieogadfaaDoor

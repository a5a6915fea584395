/-
  The law of plays,for inputs as they come in. Plain Lean.
-/
import Derived.Test.YtjgbakieogadfabGreatDoorKeyV
import Derived.Test.YtjgbakieogadfabGreatDoorKeyRow
namespace Go.Proofs.YtjgbakieogadfabGreatDoor
open Go L Go.Sort
theorem row_plays (root : List UInt8) (l : List S_holdfastlaw09_Deed) (hr : root.length = 32) (h1 : ∀ a ∈ l, ok27 a) (h2 : l.length * 80 ≤ 140737488351232) : ∃ K, holdfastlaw09_KeysPlays K root l = some true := by
  obtain ⟨k,hk,hB⟩:=db_some l h1
  exact ⟨k + 1200,law_plays root l hr k hk hB (by omega)⟩
end Go.Proofs.YtjgbakieogadfabGreatDoor

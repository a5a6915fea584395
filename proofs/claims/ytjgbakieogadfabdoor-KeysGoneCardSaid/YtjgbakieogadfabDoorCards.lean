/-
  DERIVED. GIVEN WITH THE SEED: THE CARDS: each row of YtjgbakieogadfabDoorRows.lean that lists a variable, with what it lists TIED to the program's text (the seventh form; the later family's looks); each row that meets fmt, with fmt's text TOLD by the authors' own Lean function (tested against real Go, not proved from fmt's source: count such statements apart). THE CARD IS WHAT COUNTS. Prove the row's statement (the work); the ties are given (YtjgbakieogadfabDoorTie.lean); close each card by the builder's one call (the guide's Derived/Test/ToyasCard.lean, 'card_holds'). Laid BY PROGRAM, IN A SANDBOX (cutbox-door.mjs). By AI agents, Wed Nov 11 2026. No macro, syntax, notation, axiom, sorry.
-/
import Derived.Test.YtjgbakieogadfabDoorRows
import GoSem.ClaimSeven
namespace Go.Proofs.YtjgbakieogadfabDoor
namespace Rows

/-- THE TIED CARD OF 'holdfastlaw09.KeysGone'. -/
def keysGoneCard : Claim7 := { stood := { row := keysGoneRow, standIns := [], harness := (true, "088b8d187804aa3eb7bc1c34524d3da11ac5880c9941dcbcfeb99821d2ec9df8"), looks := false }, kinds := [], alts := [], laidByText := true, laidKinds := [.data, .data, .data, .data, .pinned], laidTests := true, laidLooks := .later }
def KeysGoneCardSaid : Prop := Claim7.holds Tryd.pinned (.plain (OpenSpec.ofChange keysGoneSpec)) keysGoneCard

/-- THE SECOND FORM's CARD OF 'holdfastlaw09.KeysGone'. -/
def keysGoneUptoCard : Claim7 := { stood := { row := keysGoneUptoRow, standIns := [], harness := (true, "088b8d187804aa3eb7bc1c34524d3da11ac5880c9941dcbcfeb99821d2ec9df8"), looks := false }, kinds := [], alts := [], laidByText := true, laidKinds := [.data, .data, .data, .data, .pinned], laidTests := true, laidLooks := .later }
def KeysGoneUptoCardSaid : Prop := Claim7.holds Tryd.pinned (.plain (OpenSpec.upto keysGoneSpec)) keysGoneUptoCard
end Rows
end Go.Proofs.YtjgbakieogadfabDoor

/-
  DERIVED. GIVEN WITH THE SEED: THE CARDS: each row of YtjgbakieogadfaaGreatDoorRows.lean that lists a variable, with what it lists TIED to the program's text (the seventh form; the later family's looks); each row that meets fmt, with fmt's text TOLD by the authors' own Lean function (tested against real Go, not proved from fmt's source: count such statements apart). THE CARD IS WHAT COUNTS. Prove the row's statement (the work); the ties are given (YtjgbakieogadfaaGreatDoorTie.lean); close each card by the builder's one call (the guide's Derived/Test/ToyasCard.lean, 'card_holds'). Laid BY PROGRAM, IN A SANDBOX (cutbox-door.mjs). By AI agents, Wed Nov 11 2026. No macro, syntax, notation, axiom, sorry.
-/
import Derived.Test.YtjgbakieogadfaaGreatDoorRows
import GoSem.ClaimSeven
namespace Go.Proofs.YtjgbakieogadfaaGreatDoor
namespace Rows

/-- THE TIED CARD OF 'holdfastlaw13.GrantLess'. -/
def grantLessCard : Claim7 := { stood := { row := grantLessRow, standIns := [], harness := (true, "24c488b6b7eeb0fc7933562f1b41911b8a60e1a5491d92da9d37ab8824f30b17"), looks := true }, kinds := [], alts := [], laidByText := true, laidKinds := [.data, .data, .data, .data, .pinned], laidTests := true, laidLooks := .later }
def GrantLessCardSaid : Prop := Claim7.holds Tryz.pinned (.plain (OpenSpec.ofChange grantLessSpec)) grantLessCard

/-- THE TIED CARD OF 'holdfastlaw13.GrantPlays'. -/
def grantPlaysCard : Claim7 := { stood := { row := grantPlaysRow, standIns := [], harness := (true, "24c488b6b7eeb0fc7933562f1b41911b8a60e1a5491d92da9d37ab8824f30b17"), looks := true }, kinds := [], alts := [], laidByText := true, laidKinds := [.data, .data, .data, .data, .pinned], laidTests := true, laidLooks := .later }
def GrantPlaysCardSaid : Prop := Claim7.holds Tryz.pinned (.plain (OpenSpec.ofChange grantPlaysSpec)) grantPlaysCard

/-- THE TIED CARD OF 'holdfastlaw13.GrantNone'. -/
def grantNoneCard : Claim7 := { stood := { row := grantNoneRow, standIns := [], harness := (true, "24c488b6b7eeb0fc7933562f1b41911b8a60e1a5491d92da9d37ab8824f30b17"), looks := true }, kinds := [], alts := [], laidByText := true, laidKinds := [.data, .data, .data, .data, .pinned], laidTests := true, laidLooks := .later }
def GrantNoneCardSaid : Prop := Claim7.holds Tryz.pinned (.plain (OpenSpec.ofChange grantNoneSpec)) grantNoneCard

/-- THE TIED CARD OF 'holdfastlaw13.GrantLoads'. -/
def grantLoadsCard : Claim7 := { stood := { row := grantLoadsRow, standIns := [], harness := (true, "24c488b6b7eeb0fc7933562f1b41911b8a60e1a5491d92da9d37ab8824f30b17"), looks := true }, kinds := [], alts := [], laidByText := true, laidKinds := [.data, .data, .data, .data, .sentinel, .sentinel, .pinned], laidTests := true, laidLooks := .later }
def GrantLoadsCardSaid : Prop := Claim7.holds Tryz.pinned (.plain (OpenSpec.ofChange grantLoadsSpec)) grantLoadsCard

/-- THE SECOND FORM's CARD OF 'holdfastlaw13.GrantLess'. -/
def grantLessUptoCard : Claim7 := { stood := { row := grantLessUptoRow, standIns := [], harness := (true, "24c488b6b7eeb0fc7933562f1b41911b8a60e1a5491d92da9d37ab8824f30b17"), looks := true }, kinds := [], alts := [], laidByText := true, laidKinds := [.data, .data, .data, .data, .pinned], laidTests := true, laidLooks := .later }
def GrantLessUptoCardSaid : Prop := Claim7.holds Tryz.pinned (.plain (OpenSpec.upto grantLessSpec)) grantLessUptoCard

/-- THE SECOND FORM's CARD OF 'holdfastlaw13.GrantPlays'. -/
def grantPlaysUptoCard : Claim7 := { stood := { row := grantPlaysUptoRow, standIns := [], harness := (true, "24c488b6b7eeb0fc7933562f1b41911b8a60e1a5491d92da9d37ab8824f30b17"), looks := true }, kinds := [], alts := [], laidByText := true, laidKinds := [.data, .data, .data, .data, .pinned], laidTests := true, laidLooks := .later }
def GrantPlaysUptoCardSaid : Prop := Claim7.holds Tryz.pinned (.plain (OpenSpec.upto grantPlaysSpec)) grantPlaysUptoCard

/-- THE SECOND FORM's CARD OF 'holdfastlaw13.GrantNone'. -/
def grantNoneUptoCard : Claim7 := { stood := { row := grantNoneUptoRow, standIns := [], harness := (true, "24c488b6b7eeb0fc7933562f1b41911b8a60e1a5491d92da9d37ab8824f30b17"), looks := true }, kinds := [], alts := [], laidByText := true, laidKinds := [.data, .data, .data, .data, .pinned], laidTests := true, laidLooks := .later }
def GrantNoneUptoCardSaid : Prop := Claim7.holds Tryz.pinned (.plain (OpenSpec.upto grantNoneSpec)) grantNoneUptoCard

/-- THE SECOND FORM's CARD OF 'holdfastlaw13.GrantLoads'. -/
def grantLoadsUptoCard : Claim7 := { stood := { row := grantLoadsUptoRow, standIns := [], harness := (true, "24c488b6b7eeb0fc7933562f1b41911b8a60e1a5491d92da9d37ab8824f30b17"), looks := true }, kinds := [], alts := [], laidByText := true, laidKinds := [.data, .data, .data, .data, .sentinel, .sentinel, .pinned], laidTests := true, laidLooks := .later }
def GrantLoadsUptoCardSaid : Prop := Claim7.holds Tryz.pinned (.plain (OpenSpec.upto grantLoadsSpec)) grantLoadsUptoCard
end Rows
end Go.Proofs.YtjgbakieogadfaaGreatDoor

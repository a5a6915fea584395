/-
  DERIVED. GIVEN WITH THE SEED: THE CARDS: each row of YtjgbakieogadfabGreatDoorRows.lean that lists a variable, with what it lists TIED to the program's text (the seventh form; the later family's looks); each row that meets fmt, with fmt's text TOLD by the authors' own Lean function (tested against real Go, not proved from fmt's source: count such statements apart). THE CARD IS WHAT COUNTS. Prove the row's statement (the work); the ties are given (YtjgbakieogadfabGreatDoorTie.lean); close each card by the builder's one call (the guide's Derived/Test/ToyasCard.lean, 'card_holds'). Laid BY PROGRAM, IN A SANDBOX (cutbox-door.mjs). By AI agents, Wed Nov 11 2026. No macro, syntax, notation, axiom, sorry.
-/
import Derived.Test.YtjgbakieogadfabGreatDoorRows
import GoSem.ClaimSeven
namespace Go.Proofs.YtjgbakieogadfabGreatDoor
namespace Rows

/-- THE TIED CARD OF 'holdfastlaw09.KeysApart'. -/
def keysApartCard : Claim7 := { stood := { row := keysApartRow, standIns := [], harness := (true, "3a625acd238a1e09d4ddd7e48b6f338c161950d9d9622e98e38ad291098f520e"), looks := true }, kinds := [], alts := [], laidByText := true, laidKinds := [.data, .data, .data, .data, .pinned], laidTests := true, laidLooks := .later }
def KeysApartCardSaid : Prop := Claim7.holds Tryz.pinned (.plain (OpenSpec.ofChange keysApartSpec)) keysApartCard

/-- THE TIED CARD OF 'holdfastlaw09.KeysLazy'. -/
def keysLazyCard : Claim7 := { stood := { row := keysLazyRow, standIns := [], harness := (true, "3a625acd238a1e09d4ddd7e48b6f338c161950d9d9622e98e38ad291098f520e"), looks := true }, kinds := [], alts := [], laidByText := true, laidKinds := [.data, .data, .data, .data, .pinned], laidTests := true, laidLooks := .later }
def KeysLazyCardSaid : Prop := Claim7.holds Tryz.pinned (.plain (OpenSpec.ofChange keysLazySpec)) keysLazyCard

/-- THE TIED CARD OF 'holdfastlaw09.KeysPlays'. -/
def keysPlaysCard : Claim7 := { stood := { row := keysPlaysRow, standIns := [], harness := (true, "3a625acd238a1e09d4ddd7e48b6f338c161950d9d9622e98e38ad291098f520e"), looks := true }, kinds := [], alts := [], laidByText := true, laidKinds := [.data, .data, .data, .data, .pinned], laidTests := true, laidLooks := .later }
def KeysPlaysCardSaid : Prop := Claim7.holds Tryz.pinned (.plain (OpenSpec.ofChange keysPlaysSpec)) keysPlaysCard

/-- THE TIED CARD OF 'holdfastlaw09.KeysNone'. -/
def keysNoneCard : Claim7 := { stood := { row := keysNoneRow, standIns := [], harness := (true, "3a625acd238a1e09d4ddd7e48b6f338c161950d9d9622e98e38ad291098f520e"), looks := true }, kinds := [], alts := [], laidByText := true, laidKinds := [.data, .data, .data, .data, .pinned], laidTests := true, laidLooks := .later }
def KeysNoneCardSaid : Prop := Claim7.holds Tryz.pinned (.plain (OpenSpec.ofChange keysNoneSpec)) keysNoneCard

/-- THE TIED CARD OF 'holdfastlaw09.KeysBack'. -/
def keysBackCard : Claim7 := { stood := { row := keysBackRow, standIns := [], harness := (true, "3a625acd238a1e09d4ddd7e48b6f338c161950d9d9622e98e38ad291098f520e"), looks := true }, kinds := [], alts := [], laidByText := true, laidKinds := [.data, .data, .data, .data, .sentinel, .sentinel, .pinned], laidTests := true, laidLooks := .later }
def KeysBackCardSaid : Prop := Claim7.holds Tryz.pinned (.plain (OpenSpec.ofChange keysBackSpec)) keysBackCard

/-- THE TIED CARD OF 'holdfastlaw09.KeysLoads'. -/
def keysLoadsCard : Claim7 := { stood := { row := keysLoadsRow, standIns := [], harness := (true, "3a625acd238a1e09d4ddd7e48b6f338c161950d9d9622e98e38ad291098f520e"), looks := true }, kinds := [], alts := [], laidByText := true, laidKinds := [.data, .data, .data, .data, .sentinel, .sentinel, .pinned], laidTests := true, laidLooks := .later }
def KeysLoadsCardSaid : Prop := Claim7.holds Tryz.pinned (.plain (OpenSpec.ofChange keysLoadsSpec)) keysLoadsCard

/-- THE SECOND FORM's CARD OF 'holdfastlaw09.KeysApart'. -/
def keysApartUptoCard : Claim7 := { stood := { row := keysApartUptoRow, standIns := [], harness := (true, "3a625acd238a1e09d4ddd7e48b6f338c161950d9d9622e98e38ad291098f520e"), looks := true }, kinds := [], alts := [], laidByText := true, laidKinds := [.data, .data, .data, .data, .pinned], laidTests := true, laidLooks := .later }
def KeysApartUptoCardSaid : Prop := Claim7.holds Tryz.pinned (.plain (OpenSpec.upto keysApartSpec)) keysApartUptoCard

/-- THE SECOND FORM's CARD OF 'holdfastlaw09.KeysLazy'. -/
def keysLazyUptoCard : Claim7 := { stood := { row := keysLazyUptoRow, standIns := [], harness := (true, "3a625acd238a1e09d4ddd7e48b6f338c161950d9d9622e98e38ad291098f520e"), looks := true }, kinds := [], alts := [], laidByText := true, laidKinds := [.data, .data, .data, .data, .pinned], laidTests := true, laidLooks := .later }
def KeysLazyUptoCardSaid : Prop := Claim7.holds Tryz.pinned (.plain (OpenSpec.upto keysLazySpec)) keysLazyUptoCard

/-- THE SECOND FORM's CARD OF 'holdfastlaw09.KeysPlays'. -/
def keysPlaysUptoCard : Claim7 := { stood := { row := keysPlaysUptoRow, standIns := [], harness := (true, "3a625acd238a1e09d4ddd7e48b6f338c161950d9d9622e98e38ad291098f520e"), looks := true }, kinds := [], alts := [], laidByText := true, laidKinds := [.data, .data, .data, .data, .pinned], laidTests := true, laidLooks := .later }
def KeysPlaysUptoCardSaid : Prop := Claim7.holds Tryz.pinned (.plain (OpenSpec.upto keysPlaysSpec)) keysPlaysUptoCard

/-- THE SECOND FORM's CARD OF 'holdfastlaw09.KeysNone'. -/
def keysNoneUptoCard : Claim7 := { stood := { row := keysNoneUptoRow, standIns := [], harness := (true, "3a625acd238a1e09d4ddd7e48b6f338c161950d9d9622e98e38ad291098f520e"), looks := true }, kinds := [], alts := [], laidByText := true, laidKinds := [.data, .data, .data, .data, .pinned], laidTests := true, laidLooks := .later }
def KeysNoneUptoCardSaid : Prop := Claim7.holds Tryz.pinned (.plain (OpenSpec.upto keysNoneSpec)) keysNoneUptoCard

/-- THE SECOND FORM's CARD OF 'holdfastlaw09.KeysBack'. -/
def keysBackUptoCard : Claim7 := { stood := { row := keysBackUptoRow, standIns := [], harness := (true, "3a625acd238a1e09d4ddd7e48b6f338c161950d9d9622e98e38ad291098f520e"), looks := true }, kinds := [], alts := [], laidByText := true, laidKinds := [.data, .data, .data, .data, .sentinel, .sentinel, .pinned], laidTests := true, laidLooks := .later }
def KeysBackUptoCardSaid : Prop := Claim7.holds Tryz.pinned (.plain (OpenSpec.upto keysBackSpec)) keysBackUptoCard

/-- THE SECOND FORM's CARD OF 'holdfastlaw09.KeysLoads'. -/
def keysLoadsUptoCard : Claim7 := { stood := { row := keysLoadsUptoRow, standIns := [], harness := (true, "3a625acd238a1e09d4ddd7e48b6f338c161950d9d9622e98e38ad291098f520e"), looks := true }, kinds := [], alts := [], laidByText := true, laidKinds := [.data, .data, .data, .data, .sentinel, .sentinel, .pinned], laidTests := true, laidLooks := .later }
def KeysLoadsUptoCardSaid : Prop := Claim7.holds Tryz.pinned (.plain (OpenSpec.upto keysLoadsSpec)) keysLoadsUptoCard
end Rows
end Go.Proofs.YtjgbakieogadfabGreatDoor

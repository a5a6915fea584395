/-
  DERIVED. GIVEN WITH THE SEED: THE CARDS: each row of YtjgbakieogadfaaDoorRows.lean that lists a variable, with what it lists TIED to the program's text (the seventh form; the later family's looks); each row that meets fmt, with fmt's text TOLD by the authors' own Lean function (tested against real Go, not proved from fmt's source: count such statements apart). THE CARD IS WHAT COUNTS. Prove the row's statement (the work); the ties are given (YtjgbakieogadfaaDoorTie.lean); close each card by the builder's one call (the guide's Derived/Test/ToyasCard.lean, 'card_holds'). Laid BY PROGRAM, IN A SANDBOX (cutbox-door.mjs). By AI agents, Wed Nov 11 2026. No macro, syntax, notation, axiom, sorry.
-/
import Derived.Test.YtjgbakieogadfaaDoorRows
import GoSem.ClaimSeven
namespace Go.Proofs.YtjgbakieogadfaaDoor
namespace Rows

/-- THE TIED CARD OF 'holdfastlaw13.GrantRooms'. -/
def grantRoomsCard : Claim7 := { stood := { row := grantRoomsRow, standIns := [], harness := (true, "bd4460f303437101bd743883588808145c98c23ac040c3995d609d468783e311"), looks := false }, kinds := [], alts := [], laidByText := true, laidKinds := [.data, .pinned], laidTests := true, laidLooks := .later }
def GrantRoomsCardSaid : Prop := Claim7.holds Tryd.pinned (.plain (OpenSpec.ofChange grantRoomsSpec)) grantRoomsCard

/-- THE TIED CARD OF 'holdfastlaw13.GrantNarrow'. -/
def grantNarrowCard : Claim7 := { stood := { row := grantNarrowRow, standIns := [], harness := (true, "bd4460f303437101bd743883588808145c98c23ac040c3995d609d468783e311"), looks := false }, kinds := [], alts := [], laidByText := true, laidKinds := [.data, .pinned], laidTests := true, laidLooks := .later }
def GrantNarrowCardSaid : Prop := Claim7.holds Tryd.pinned (.plain (OpenSpec.ofChange grantNarrowSpec)) grantNarrowCard

/-- THE TIED CARD OF 'holdfastlaw13.GrantDrops'. -/
def grantDropsCard : Claim7 := { stood := { row := grantDropsRow, standIns := [], harness := (true, "bd4460f303437101bd743883588808145c98c23ac040c3995d609d468783e311"), looks := false }, kinds := [], alts := [], laidByText := true, laidKinds := [.data, .pinned], laidTests := true, laidLooks := .later }
def GrantDropsCardSaid : Prop := Claim7.holds Tryd.pinned (.plain (OpenSpec.ofChange grantDropsSpec)) grantDropsCard

/-- THE SECOND FORM's CARD OF 'holdfastlaw13.GrantRooms'. -/
def grantRoomsUptoCard : Claim7 := { stood := { row := grantRoomsUptoRow, standIns := [], harness := (true, "bd4460f303437101bd743883588808145c98c23ac040c3995d609d468783e311"), looks := false }, kinds := [], alts := [], laidByText := true, laidKinds := [.data, .pinned], laidTests := true, laidLooks := .later }
def GrantRoomsUptoCardSaid : Prop := Claim7.holds Tryd.pinned (.plain (OpenSpec.upto grantRoomsSpec)) grantRoomsUptoCard

/-- THE SECOND FORM's CARD OF 'holdfastlaw13.GrantNarrow'. -/
def grantNarrowUptoCard : Claim7 := { stood := { row := grantNarrowUptoRow, standIns := [], harness := (true, "bd4460f303437101bd743883588808145c98c23ac040c3995d609d468783e311"), looks := false }, kinds := [], alts := [], laidByText := true, laidKinds := [.data, .pinned], laidTests := true, laidLooks := .later }
def GrantNarrowUptoCardSaid : Prop := Claim7.holds Tryd.pinned (.plain (OpenSpec.upto grantNarrowSpec)) grantNarrowUptoCard

/-- THE SECOND FORM's CARD OF 'holdfastlaw13.GrantDrops'. -/
def grantDropsUptoCard : Claim7 := { stood := { row := grantDropsUptoRow, standIns := [], harness := (true, "bd4460f303437101bd743883588808145c98c23ac040c3995d609d468783e311"), looks := false }, kinds := [], alts := [], laidByText := true, laidKinds := [.data, .pinned], laidTests := true, laidLooks := .later }
def GrantDropsUptoCardSaid : Prop := Claim7.holds Tryd.pinned (.plain (OpenSpec.upto grantDropsSpec)) grantDropsUptoCard
end Rows
end Go.Proofs.YtjgbakieogadfaaDoor

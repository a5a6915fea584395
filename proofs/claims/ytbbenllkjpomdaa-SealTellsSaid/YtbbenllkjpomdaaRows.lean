/-
  No cell of these rows narrows 'for every input' (looked for: loops, veiled, ifaces, maps, wideKeys, modest, calm, conditions, laid).
  DERIVED. THE GIVEN ROWS OF THIS SEAT. 7 by the template 'for every input the law returns true; each argument reads behind the call as it read before'; 0 by the template 'total and deterministic' (their statements: YtbbenllkjpomdaaTotals.lean).
  GIVEN WITH THE SEED: the statements are not yours to turn. If you find one false, say at which input.
  Laid BY PROGRAM, IN A SANDBOX (cutbox-rows.mjs): the forced cells as the released guide's own fill.sh prints them over the translation 200359c3abdff6f9… (all of the seat's roots in one cut). By AI agents, Wed Nov 11 2026. No macro, syntax, notation, axiom, sorry.
-/
import Derived.Test.YtbbenllkjpomdaaChecked
import GoSem.Claim
import GoSem.ClaimJoined
import GoSem.ClaimMapViews
import Derived.JoinedTies
import Derived.KernelRfl
namespace Go.Proofs.Ytbbenllkjpomdaa
/- THE CELL 'sum', in the pinned program and in every row, IS THE sha256 OF THE DUMP (.gsa) THAT YtbbenllkjpomdaaProg.lean LOADS. Nothing in Lean hashes anything: it is a label: what it is worth is what the hold of that sum in a sandbox is worth. -/
noncomputable def Try.pinned : Pinned := { name := "ytbbenllkjpomdaa", sum := "200359c3abdff6f95ef7afd5d1ce01870e17714dbe71a66f4e90259c0d5e7419", checked := Try.checked }
namespace Rows
def none {H : Type} : Left H := { results := [], args := [] }

/-- 'holdfastlaw08.SealSeals': WHATEVER THE INPUT: true; the input reads as it did. -/
def sealSealsSpec : ChangeSpec := { name := "sealSeals", fn := fun _ => fun
  | [d1, d2, d3] => { results := [.lit (.bool true)], args := [d1, d2, d3] }
  | _ => none }
def sealSealsRow : OpenClaim := { program := "ytbbenllkjpomdaa", sum := "200359c3abdff6f95ef7afd5d1ce01870e17714dbe71a66f4e90259c0d5e7419", func := "holdfast/holdfastlaw08.SealSeals", spec := "sealSeals", unfollowed := true, recurses := true, apart := false }
def SealSealsSaid : Prop := sealSealsRow.holds Try.pinned (OpenSpec.ofChange sealSealsSpec)

/-- ITS FALSE NEIGHBOUR: 'it returns false'. Refute it at one input. -/
def sealSealsWrong : ChangeSpec := { name := "sealSeals", fn := fun _ => fun
  | [d1, d2, d3] => { results := [.lit (.bool false)], args := [d1, d2, d3] }
  | _ => none }
def SealSealsWrongFalsely : Prop := sealSealsRow.holds Try.pinned (OpenSpec.ofChange sealSealsWrong)

/-- 'holdfastlaw08.SealStreams': WHATEVER THE INPUT: true; the input reads as it did. -/
def sealStreamsSpec : ChangeSpec := { name := "sealStreams", fn := fun _ => fun
  | [d1, d2, d3] => { results := [.lit (.bool true)], args := [d1, d2, d3] }
  | _ => none }
def sealStreamsRow : OpenClaim := { program := "ytbbenllkjpomdaa", sum := "200359c3abdff6f95ef7afd5d1ce01870e17714dbe71a66f4e90259c0d5e7419", func := "holdfast/holdfastlaw08.SealStreams", spec := "sealStreams", unfollowed := true, recurses := true, apart := false }
def SealStreamsSaid : Prop := sealStreamsRow.holds Try.pinned (OpenSpec.ofChange sealStreamsSpec)

/-- ITS FALSE NEIGHBOUR: 'it returns false'. Refute it at one input. -/
def sealStreamsWrong : ChangeSpec := { name := "sealStreams", fn := fun _ => fun
  | [d1, d2, d3] => { results := [.lit (.bool false)], args := [d1, d2, d3] }
  | _ => none }
def SealStreamsWrongFalsely : Prop := sealStreamsRow.holds Try.pinned (OpenSpec.ofChange sealStreamsWrong)

/-- 'holdfastlaw08.SealBack': WHATEVER THE INPUT: true; the input reads as it did. -/
def sealBackSpec : ChangeSpec := { name := "sealBack", fn := fun _ => fun
  | [d1, d2, d3] => { results := [.lit (.bool true)], args := [d1, d2, d3] }
  | _ => none }
def sealBackRow : OpenClaim := { program := "ytbbenllkjpomdaa", sum := "200359c3abdff6f95ef7afd5d1ce01870e17714dbe71a66f4e90259c0d5e7419", func := "holdfast/holdfastlaw08.SealBack", spec := "sealBack", unfollowed := true, recurses := true, apart := false }
def SealBackSaid : Prop := sealBackRow.holds Try.pinned (OpenSpec.ofChange sealBackSpec)

/-- ITS FALSE NEIGHBOUR: 'it returns false'. Refute it at one input. -/
def sealBackWrong : ChangeSpec := { name := "sealBack", fn := fun _ => fun
  | [d1, d2, d3] => { results := [.lit (.bool false)], args := [d1, d2, d3] }
  | _ => none }
def SealBackWrongFalsely : Prop := sealBackRow.holds Try.pinned (OpenSpec.ofChange sealBackWrong)

/-- 'holdfastlaw08.SealHides': WHATEVER THE INPUT: true; the input reads as it did. -/
def sealHidesSpec : ChangeSpec := { name := "sealHides", fn := fun _ => fun
  | [d1, d2, d3] => { results := [.lit (.bool true)], args := [d1, d2, d3] }
  | _ => none }
def sealHidesRow : OpenClaim := { program := "ytbbenllkjpomdaa", sum := "200359c3abdff6f95ef7afd5d1ce01870e17714dbe71a66f4e90259c0d5e7419", func := "holdfast/holdfastlaw08.SealHides", spec := "sealHides", unfollowed := true, recurses := true, apart := false }
def SealHidesSaid : Prop := sealHidesRow.holds Try.pinned (OpenSpec.ofChange sealHidesSpec)

/-- ITS FALSE NEIGHBOUR: 'it returns false'. Refute it at one input. -/
def sealHidesWrong : ChangeSpec := { name := "sealHides", fn := fun _ => fun
  | [d1, d2, d3] => { results := [.lit (.bool false)], args := [d1, d2, d3] }
  | _ => none }
def SealHidesWrongFalsely : Prop := sealHidesRow.holds Try.pinned (OpenSpec.ofChange sealHidesWrong)

/-- 'holdfastlaw08.SealTells': WHATEVER THE INPUT: true; the input reads as it did. -/
def sealTellsSpec : ChangeSpec := { name := "sealTells", fn := fun _ => fun
  | [d1, d2, d3] => { results := [.lit (.bool true)], args := [d1, d2, d3] }
  | _ => none }
def sealTellsRow : OpenClaim := { program := "ytbbenllkjpomdaa", sum := "200359c3abdff6f95ef7afd5d1ce01870e17714dbe71a66f4e90259c0d5e7419", func := "holdfast/holdfastlaw08.SealTells", spec := "sealTells", unfollowed := true, recurses := true, apart := false }
def SealTellsSaid : Prop := sealTellsRow.holds Try.pinned (OpenSpec.ofChange sealTellsSpec)

/-- ITS FALSE NEIGHBOUR: 'it returns false'. Refute it at one input. -/
def sealTellsWrong : ChangeSpec := { name := "sealTells", fn := fun _ => fun
  | [d1, d2, d3] => { results := [.lit (.bool false)], args := [d1, d2, d3] }
  | _ => none }
def SealTellsWrongFalsely : Prop := sealTellsRow.holds Try.pinned (OpenSpec.ofChange sealTellsWrong)

/-- 'holdfastlaw08.SealStarts': WHATEVER THE INPUT: true; the input reads as it did. -/
def sealStartsSpec : ChangeSpec := { name := "sealStarts", fn := fun _ => fun
  | [d1, d2, d3] => { results := [.lit (.bool true)], args := [d1, d2, d3] }
  | _ => none }
def sealStartsRow : OpenClaim := { program := "ytbbenllkjpomdaa", sum := "200359c3abdff6f95ef7afd5d1ce01870e17714dbe71a66f4e90259c0d5e7419", func := "holdfast/holdfastlaw08.SealStarts", spec := "sealStarts", unfollowed := true, recurses := true, apart := false }
def SealStartsSaid : Prop := sealStartsRow.holds Try.pinned (OpenSpec.ofChange sealStartsSpec)

/-- ITS FALSE NEIGHBOUR: 'it returns false'. Refute it at one input. -/
def sealStartsWrong : ChangeSpec := { name := "sealStarts", fn := fun _ => fun
  | [d1, d2, d3] => { results := [.lit (.bool false)], args := [d1, d2, d3] }
  | _ => none }
def SealStartsWrongFalsely : Prop := sealStartsRow.holds Try.pinned (OpenSpec.ofChange sealStartsWrong)

/-- 'holdfastlaw08.SealNumber': WHATEVER THE INPUT: true; the input reads as it did. -/
def sealNumberSpec : ChangeSpec := { name := "sealNumber", fn := fun _ => fun
  | [d1, d2, d3] => { results := [.lit (.bool true)], args := [d1, d2, d3] }
  | _ => none }
def sealNumberRow : OpenClaim := { program := "ytbbenllkjpomdaa", sum := "200359c3abdff6f95ef7afd5d1ce01870e17714dbe71a66f4e90259c0d5e7419", func := "holdfast/holdfastlaw08.SealNumber", spec := "sealNumber", unfollowed := true, recurses := true, apart := false }
def SealNumberSaid : Prop := sealNumberRow.holds Try.pinned (OpenSpec.ofChange sealNumberSpec)

/-- ITS FALSE NEIGHBOUR: 'it returns false'. Refute it at one input. -/
def sealNumberWrong : ChangeSpec := { name := "sealNumber", fn := fun _ => fun
  | [d1, d2, d3] => { results := [.lit (.bool false)], args := [d1, d2, d3] }
  | _ => none }
def SealNumberWrongFalsely : Prop := sealNumberRow.holds Try.pinned (OpenSpec.ofChange sealNumberWrong)

/- THE SECOND FORM. 'bulk': how many values and letters a reading holds, each counted each time it is reached (what is shared counts as often as it is met; a slice's spare places count too). A statement '..UptoSaid' is the law's where the arguments, and the package variables that the reading takes, are together of bulk at most 1048576: NARROWER than '..Said'. Prove '..Said' where nothing that the law and all that it calls make is longer than what came in: it says more and counts as full. Else prove '..UptoSaid'. A law counts once. -/
mutual
def uptoBulk {H : Type} : DataW H → Nat
  | .lit (.string bytes) => bytes.length + 1
  | .lit _ => 1
  | .nil => 1
  | .ptr d => uptoBulk d + 1
  | .slice elems spare => uptoBulkAll elems + uptoBulkAll spare + 1
  | .agg parts => uptoBulkAll parts + 1
  | .iface _ d => uptoBulk d + 1
  | .map entries => uptoBulkEntries entries + 1
  | .held _ => 1
def uptoBulkAll {H : Type} : List (DataW H) → Nat
  | [] => 0
  | d :: r => uptoBulk d + uptoBulkAll r
def uptoBulkEntries {H : Type} : List (Lit × DataW H) → Nat
  | [] => 0
  | x :: r => uptoBulkEntry x + uptoBulkEntries r
def uptoBulkEntry {H : Type} : Lit × DataW H → Nat
  | (.string bytes, d) => bytes.length + uptoBulk d + 1
  | (_, d) => uptoBulk d + 1
 end
def uptoSmall : (H : Type) → List (DataW H) → Bool := fun _ ds => decide (uptoBulkAll ds ≤ 1048576)
def OpenSpec.upto (s : _root_.Go.ChangeSpec) : _root_.Go.OpenSpec := { _root_.Go.OpenSpec.ofChange s with cond := some uptoSmall }

/-- 'holdfastlaw08.SealSeals', WHERE WHAT IT READS IS OF BULK AT MOST 1048576: true; the input reads as it did. -/
def sealSealsUptoRow : OpenClaim := { program := "ytbbenllkjpomdaa", sum := "200359c3abdff6f95ef7afd5d1ce01870e17714dbe71a66f4e90259c0d5e7419", func := "holdfast/holdfastlaw08.SealSeals", spec := "sealSeals", unfollowed := true, recurses := true, apart := false, narrowed := true }
def SealSealsUptoSaid : Prop := sealSealsUptoRow.holds Try.pinned (OpenSpec.upto sealSealsSpec)

/-- 'holdfastlaw08.SealStreams', WHERE WHAT IT READS IS OF BULK AT MOST 1048576: true; the input reads as it did. -/
def sealStreamsUptoRow : OpenClaim := { program := "ytbbenllkjpomdaa", sum := "200359c3abdff6f95ef7afd5d1ce01870e17714dbe71a66f4e90259c0d5e7419", func := "holdfast/holdfastlaw08.SealStreams", spec := "sealStreams", unfollowed := true, recurses := true, apart := false, narrowed := true }
def SealStreamsUptoSaid : Prop := sealStreamsUptoRow.holds Try.pinned (OpenSpec.upto sealStreamsSpec)

/-- 'holdfastlaw08.SealBack', WHERE WHAT IT READS IS OF BULK AT MOST 1048576: true; the input reads as it did. -/
def sealBackUptoRow : OpenClaim := { program := "ytbbenllkjpomdaa", sum := "200359c3abdff6f95ef7afd5d1ce01870e17714dbe71a66f4e90259c0d5e7419", func := "holdfast/holdfastlaw08.SealBack", spec := "sealBack", unfollowed := true, recurses := true, apart := false, narrowed := true }
def SealBackUptoSaid : Prop := sealBackUptoRow.holds Try.pinned (OpenSpec.upto sealBackSpec)

/-- 'holdfastlaw08.SealHides', WHERE WHAT IT READS IS OF BULK AT MOST 1048576: true; the input reads as it did. -/
def sealHidesUptoRow : OpenClaim := { program := "ytbbenllkjpomdaa", sum := "200359c3abdff6f95ef7afd5d1ce01870e17714dbe71a66f4e90259c0d5e7419", func := "holdfast/holdfastlaw08.SealHides", spec := "sealHides", unfollowed := true, recurses := true, apart := false, narrowed := true }
def SealHidesUptoSaid : Prop := sealHidesUptoRow.holds Try.pinned (OpenSpec.upto sealHidesSpec)

/-- 'holdfastlaw08.SealTells', WHERE WHAT IT READS IS OF BULK AT MOST 1048576: true; the input reads as it did. -/
def sealTellsUptoRow : OpenClaim := { program := "ytbbenllkjpomdaa", sum := "200359c3abdff6f95ef7afd5d1ce01870e17714dbe71a66f4e90259c0d5e7419", func := "holdfast/holdfastlaw08.SealTells", spec := "sealTells", unfollowed := true, recurses := true, apart := false, narrowed := true }
def SealTellsUptoSaid : Prop := sealTellsUptoRow.holds Try.pinned (OpenSpec.upto sealTellsSpec)

/-- 'holdfastlaw08.SealStarts', WHERE WHAT IT READS IS OF BULK AT MOST 1048576: true; the input reads as it did. -/
def sealStartsUptoRow : OpenClaim := { program := "ytbbenllkjpomdaa", sum := "200359c3abdff6f95ef7afd5d1ce01870e17714dbe71a66f4e90259c0d5e7419", func := "holdfast/holdfastlaw08.SealStarts", spec := "sealStarts", unfollowed := true, recurses := true, apart := false, narrowed := true }
def SealStartsUptoSaid : Prop := sealStartsUptoRow.holds Try.pinned (OpenSpec.upto sealStartsSpec)

/-- 'holdfastlaw08.SealNumber', WHERE WHAT IT READS IS OF BULK AT MOST 1048576: true; the input reads as it did. -/
def sealNumberUptoRow : OpenClaim := { program := "ytbbenllkjpomdaa", sum := "200359c3abdff6f95ef7afd5d1ce01870e17714dbe71a66f4e90259c0d5e7419", func := "holdfast/holdfastlaw08.SealNumber", spec := "sealNumber", unfollowed := true, recurses := true, apart := false, narrowed := true }
def SealNumberUptoSaid : Prop := sealNumberUptoRow.holds Try.pinned (OpenSpec.upto sealNumberSpec)

end Rows
end Go.Proofs.Ytbbenllkjpomdaa

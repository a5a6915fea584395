import Derived.Test.YtbbenllkjpomdaaLib11
import Derived.Test.YtbbenllkjpomdaaProg
namespace Go.Proofs.Ytbbenllkjpomdaa
open Go Go.Proofs L
theorem I5 : Try.prog.info? 5 = some Try.t5 := by kernel_rfl
theorem I25 : Try.prog.info? 25 = some Try.t25 := by kernel_rfl
theorem I43 : Try.prog.info? 43 = some Try.t43 := by kernel_rfl
theorem I63 : Try.prog.info? 63 = some Try.t63 := by kernel_rfl
theorem hmix : mixed Try.prog := by unfold mixed; kernel_rfl
abbrev E5 := eU8 5
abbrev E25 := eL 25
abbrev E43 := eU16 43
abbrev E63 := eU32 63
end Go.Proofs.Ytbbenllkjpomdaa

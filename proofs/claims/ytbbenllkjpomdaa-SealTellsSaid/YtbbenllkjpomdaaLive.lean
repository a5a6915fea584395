import Derived.Test.YtbbenllkjpomdaaPure
import Derived.KernelRfl
namespace Go.Proofs.Ytbbenllkjpomdaa
open Go L
theorem live_true : holdfastlaw08_live 5000 = some true := by kernel_rfl
end Go.Proofs.Ytbbenllkjpomdaa

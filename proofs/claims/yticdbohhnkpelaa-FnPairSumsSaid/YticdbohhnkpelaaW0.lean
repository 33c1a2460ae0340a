/- Facts of this seat's program that all walks share. -/
import Derived.Test.YticdbohhnkpelaaProg
import Derived.Test.YticdbohhnkpelaaMillK
namespace Go.Proofs.Yticdbohhnkpelaa
open Go Go.Mill
set_option linter.unusedSimpArgs false
set_option linter.unusedVariables false

theorem follows : Try.prog.follows .mixedOrders = true := by kernel_rfl
end Go.Proofs.Yticdbohhnkpelaa

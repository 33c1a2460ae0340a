/- Facts of this seat's program that all walks share. -/
import Derived.Test.YtodeldmkpogakaaProg
import Derived.Test.YtodeldmkpogakaaMillK
namespace Go.Proofs.Ytodeldmkpogakaa
open Go Go.Mill
set_option linter.unusedSimpArgs false
set_option linter.unusedVariables false

theorem follows : Try.prog.follows .mixedOrders = true := by kernel_rfl
end Go.Proofs.Ytodeldmkpogakaa

/- Walks: draws of a space and numbers. -/
import Derived.Test.YtodeldmkpogakaaW6
namespace Go.Proofs.Ytodeldmkpogakaa
open Go Go.Mill
set_option maxRecDepth 100000
set_option linter.unusedSimpArgs false
set_option linter.unusedVariables false

theorem wrap_in (z : Int) : -9223372036854775808 ≤ IntKind.i64.wrap z ∧ IntKind.i64.wrap z ≤ 9223372036854775807 := by
  rw [IntKind.wrap_i64]; omega
theorem nineteen : ((19 : Int) = 0) = False := by simp

end Go.Proofs.Ytodeldmkpogakaa

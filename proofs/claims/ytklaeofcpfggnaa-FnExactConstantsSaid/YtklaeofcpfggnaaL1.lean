/- Contracts of laws without arguments. -/
import Derived.Test.YtklaeofcpfggnaaW0
namespace Go.Proofs.Ytklaeofcpfggnaa
open Go Go.Mill
set_option maxRecDepth 100000
set_option linter.unusedSimpArgs false

theorem FnExactConstants_c (S : Store) : ACalls Try.prog 3 [] S fun u _ => u = .bool true := by
  refine ACalls.intro (ts := [0]) 1 follows Try.func3 rfl (by kernel_rfl) (by kernel_rfl) (by simp) ?_
  simp only [go_sem, ↓reduceIte, Nat.reduceEqDiff, argEnv]
end Go.Proofs.Ytklaeofcpfggnaa

/- The mill, part L: boxes, closures. -/
import Derived.Test.YtodeldmkpogakaaMillK
namespace Go.Mill
open Go Go.RowKit
set_option linter.unusedSimpArgs false
set_option linter.unusedVariables false
theorem boxCells_sl {v : Value} (h : isSl v = true) : boxCells v = some [v] := by
  cases v with
  | slice p n c => rfl
  | _ => simp [isSl] at h
theorem atomB_ptr {p : Option Addr} : atomB (.pointer p) = true := nd rfl
theorem atomB_bool {b : Bool} : atomB (.bool b) = true := nd rfl
theorem atomB_sl {v : Value} (h : isSl v = true) : atomB v = true := by
  cases v with
  | slice p n c => rfl
  | _ => simp [isSl] at h
theorem evExt_zero {v : Value} {vs : List Value} : evExt (.tuple (v :: vs).toArray) 0 = some v := by simp [evExt]
theorem evExt_succ {v : Value} {vs : List Value} {i : Nat} : evExt (.tuple (v :: vs).toArray) (i + 1) = evExt (.tuple vs.toArray) i := by simp [evExt]
theorem evIdx_nil {vs : List Value} : evIdx [] vs = [] := nd rfl
theorem evIdx_cons {i : Nat} {x : Operand} {ps : List (Nat × Operand)} {v : Value} {vs : List Value} : evIdx ((i, x) :: ps) (v :: vs) = (i, v) :: evIdx ps vs := nd rfl
theorem boxCells_agg {vs : List Value} : boxCells (.agg vs.toArray) = some vs := by simp [boxCells]
attribute [go_sem] evIdx_nil evIdx_cons boxCells_agg List.length_cons List.length_nil Nat.reduceAdd Nat.reduceLeDiff evExt_zero evExt_succ atomB_ptr atomB_bool List.map_cons List.map_nil List.all_cons List.all_nil Bool.and_true Bool.and_self Bool.true_and
end Go.Mill

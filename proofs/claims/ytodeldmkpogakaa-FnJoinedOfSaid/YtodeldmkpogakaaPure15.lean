/- Plain: no list of joined pairs is long. -/
import Derived.Test.YtodeldmkpogakaaPure12
namespace Go.Mill
open Go
theorem joinedV_six {d : List (List Int)} : (joinedV d).length ≤ 6 ∧ ∀ j, j < (joinedV d).length → ((joinedV d).getD j []).length ≤ 6 := by
  cases h : farB d with
  | false => rw [joinedV_no h]; exact ⟨Nat.zero_le _, fun j hj => absurd hj (Nat.not_lt_zero _)⟩
  | true =>
    have hF := farB_is h
    have := joined_len hF
    have h6 := hF.2.1
    refine ⟨by omega, fun j hj => ?_⟩
    have hm : (joinedV d).getD j [] ∈ joinedV d := by rw [List.getD_eq_getElem?_getD, List.getElem?_eq_getElem hj]; exact List.getElem_mem hj
    obtain ⟨k, i, -, -, e⟩ := joined_mem hF hm
    rw [e]; simp
end Go.Mill

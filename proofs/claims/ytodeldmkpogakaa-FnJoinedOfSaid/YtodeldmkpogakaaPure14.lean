/- Plain: no answer is long. -/
import Derived.Test.YtodeldmkpogakaaPure8
import Derived.Test.YtodeldmkpogakaaPure9
import Derived.Test.YtodeldmkpogakaaPure11
namespace Go.Mill
open Go
set_option linter.unusedSimpArgs false
set_option linter.unusedVariables false

section
variable {d : List (List Int)}
theorem ballV_six {p f : Int} : (ballV d p f).length ≤ 6 := by
  unfold ballV
  split
  · rename_i hc
    simp only [Bool.and_eq_true] at hc
    exact Nat.le_trans pickN_len (hasB_is hc.1).1.1.2.1
  · simp
theorem betV_six {a b : Int} : (betV d a b).length ≤ 6 := by
  unfold betV
  split
  · rename_i hc
    simp only [Bool.and_eq_true] at hc
    exact Nat.le_trans pickN_len (hasB_is hc.1).1.1.2.1
  · simp
theorem lotsV_six {f : Int} : (lotsV d f).length ≤ 6 := by
  unfold lotsV
  split
  · rename_i hc
    simp only [Bool.and_eq_true] at hc
    rw [lotsL_len]
    exact (farB_is hc.1).2.1
  · simp
theorem stepsV_six : (stepsV d).length ≤ 6 := by
  cases h : farB d with
  | false => rw [stepsV_no h]; simp
  | true => have := stepsV_len (farB_is h); have := (farB_is h).2.1; omega
theorem sumsV_six {a b c e : Int} : (sumsV d a b c e).length ≤ 6 := by
  unfold sumsV
  split <;> simp [sumsL]
theorem roadsV_six : (roadsV d).length ≤ 36 ∧ ∀ j, j < (roadsV d).length → ((roadsV d).getD j []).length ≤ 6 := by
  cases h : spaceB d with
  | false => rw [roadsV_no h]; simp
  | true =>
    have hS := spaceB_is h
    rw [roadsV_yes hS]
    refine ⟨?_, fun i hi => ?_⟩
    · have h1 := @roads_few d
      have h6 := hS.1.2.1
      have := Nat.mul_le_mul h6 (show d.length - 1 ≤ 5 by omega)
      omega
    · have hm : (roadsT d d.length d.length).getD i [] ∈ roadsT d d.length d.length := by
        rw [List.getD_eq_getElem?_getD, List.getElem?_eq_getElem hi]; exact List.getElem_mem hi
      obtain ⟨a, b, h1, h2, h3, h4, h5⟩ := mem_roadsT.1 hm
      rw [h5]; simp
theorem aloneV_six : (aloneV d).length ≤ 6 ∧ ∀ j, ((aloneV d).getD j []).length ≤ 6 := by
  cases h : spaceB d with
  | false => rw [aloneV_no h]; simp
  | true =>
    have hS := spaceB_is h
    have h6 := hS.1.2.1
    rw [aloneV_yes hS]
    refine ⟨by rw [aloneT_len]; exact h6, fun j => ?_⟩
    rcases Nat.lt_or_ge j d.length with h | h
    · rw [aloneT_row h, aloneRow_len]; exact h6
    · rw [List.getD_eq_getElem?_getD, List.getElem?_eq_none (by rw [aloneT_len]; exact h)]; simp
theorem dropV_six {p : Int} : (dropV d p).length ≤ 6 ∧ ∀ j, ((dropV d p).getD j []).length ≤ 6 := by
  cases h : dropB d p with
  | false => rw [dropV_no h]; simp
  | true =>
    have hS := (dropB_iff.1 h).1.1
    refine dropV_small hS.1.2.1 fun j => ?_
    rcases Nat.lt_or_ge j d.length with h | h
    · rw [hS.1.sq j h]; exact hS.1.2.1
    · simp [List.getElem?_eq_none h]
theorem withV_six {xs : List Int} : (withV d xs).length ≤ 6 ∧ ∀ j, ((withV d xs).getD j []).length ≤ 6 := by
  cases h : fitB d xs with
  | false => rw [withV_no h]; simp
  | true =>
    have hF := fitB_is h
    have hS := with_space hF
    rw [withV_yes hF]
    refine ⟨hS.1.2.1, fun j => ?_⟩
    rcases Nat.lt_or_ge j (withT d xs).length with h | h
    · rw [hS.1.sq j h]; exact hS.1.2.1
    · simp [List.getElem?_eq_none h]
end
end Go.Mill

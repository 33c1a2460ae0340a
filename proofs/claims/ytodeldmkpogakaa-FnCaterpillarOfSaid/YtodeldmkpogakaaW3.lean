/- Walks: points, the farthest, the width, the radius. -/
import Derived.Test.YtodeldmkpogakaaW1
namespace Go.Proofs.Ytodeldmkpogakaa
open Go Go.Mill
set_option maxRecDepth 100000
set_option linter.unusedSimpArgs false
set_option linter.unusedVariables false

theorem hasPoint_c (S : Store) (v : Value) (r : Nat → Value) (d : List (List Int)) (hM : Mat S v r d) (hd : d.length ≤ maxLen) (x : Int) (hx : -9223372036854775808 ≤ x ∧ x ≤ 9223372036854775807) :
    ACalls Try.prog 83 [v, .int .i64 x] S (Ret S (.bool (hasB d x))) := by
  refine ACalls.intro (ts := [4]) 17 follows Try.func83 rfl (by kernel_rfl) (by kernel_rfl) (by simp) ?_
  have hsl := hM.sl
  have hlen := hM.len
  simp only [go_sem, ↓reduceIte, Nat.reduceEqDiff, argEnv, hsl, hlen]
  refine callK.intro (by kernel_rfl) (isSpace_c S v r d hM hd) ?_
  rintro _ _ ⟨rfl, rfl⟩
  simp only [go_sem, ↓reduceIte, Nat.reduceEqDiff]
  cases hF : spaceB d with
  | false =>
    simp only [go_sem, ↓reduceIte, Nat.reduceEqDiff]
    exact Ret.bool (hasB_no fun h => spaceB_not hF h.1).symm
  | true =>
    have hF := spaceB_is hF
    simp only [go_sem, ↓reduceIte, Nat.reduceEqDiff]
    repeat' (first | (refine gK_dec (fun p h => ?_) (fun p h => ?_) <;> simp only [go_sem, ↓reduceIte, Nat.reduceEqDiff, h, hsl, hlen]) | (refine condK_dec (fun p h => ?_) (fun p h => ?_) <;> simp only [go_sem, ↓reduceIte, Nat.reduceEqDiff, h, hsl, hlen]) | (refine gQ_dec (fun p h => ?_) (fun p h => ?_) <;> simp only [go_sem, ↓reduceIte, Nat.reduceEqDiff, h, hsl, hlen]) | (refine gQC_dec (fun p h => ?_) (fun p h => ?_) <;> simp only [go_sem, ↓reduceIte, Nat.reduceEqDiff, h, hsl, hlen]))
    · by_cases h2 : x < d.length
      · exact Ret.bool (by rw [hasB_yes ⟨hF, by omega, h2⟩]; exact decide_eq_true h2)
      · exact Ret.bool (by rw [hasB_no fun h => h2 h.2.2]; exact decide_eq_false h2)
    · exact Ret.bool (hasB_no fun h => by have := h.2; omega).symm

end Go.Proofs.Ytodeldmkpogakaa

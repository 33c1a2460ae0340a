/- Walks: ShortestOf, BelowOf of the program. -/
import Derived.Test.YtodeldmkpogakaaW15
namespace Go.Proofs.Ytodeldmkpogakaa
open Go Go.Mill
set_option maxRecDepth 100000
set_option linter.unusedSimpArgs false
set_option linter.unusedVariables false

theorem belowOf1_c (S : Store) (a b : Int) : ACalls Try.prog 88 [.int .i64 a, .int .i64 b] S (Ret S (.int .i64 (max a b))) := by
  refine ACalls.intro (ts := [4]) 8 follows Try.func88 rfl (by kernel_rfl) (by kernel_rfl) (by simp) ?_
  simp only [go_sem, ↓reduceIte, Nat.reduceEqDiff, argEnv]
  exact Ret.int rfl
theorem belowOf_c (S : Store) (v : Value) (r : Nat → Value) (d : List (List Int)) (hM : Mat S v r d) (hF : IsFar d) :
    ACalls Try.prog 74 [v] S fun u S' => (∃ t g, OT S.length S' u t g (fw max d)) ∧ Pre S.length S S' := by
  refine ACalls.intro (ts := [2]) 5 follows Try.func74 rfl (by kernel_rfl) (by kernel_rfl) (by simp) ?_
  simp only [go_sem, ↓reduceIte, Nat.reduceEqDiff, argEnv]
  refine callK.intro (by kernel_rfl) (bestWays_c max 88 (by kernel_rfl) belowOf1_c S v r d hM hF) ?_
  rintro y S1 ⟨⟨t, g, O1⟩, P1⟩
  simp only [go_sem, ↓reduceIte, Nat.reduceEqDiff]
  exact ⟨⟨t, g, O1⟩, P1⟩
theorem iBelowOf_c (S : Store) (v : Value) (r : Nat → Value) (d : List (List Int)) (hM : Mat S v r d) (hd : d.length ≤ maxLen) :
    ACalls Try.prog 47 [v] S fun u S' => MineT S.length S' u (belowV d) ∧ Pre S.length S S' := by
  refine ACalls.intro (ts := [2]) 8 follows Try.func47 rfl (by kernel_rfl) (by kernel_rfl) (by simp) ?_
  simp only [go_sem, ↓reduceIte, Nat.reduceEqDiff, argEnv]
  refine callK.intro (by kernel_rfl) (areFar_c S v r d hM hd) ?_
  rintro _ _ ⟨rfl, rfl⟩
  simp only [go_sem, ↓reduceIte, Nat.reduceEqDiff]
  cases hF : farB d with
  | false =>
    simp only [go_sem, ↓reduceIte, Nat.reduceEqDiff]
    exact ⟨.inl ⟨rfl, by simp only [belowV, hF, Bool.false_eq_true, ↓reduceIte]⟩, Pre.refl _ _⟩
  | true =>
    simp only [go_sem, ↓reduceIte, Nat.reduceEqDiff]
    refine callK.intro (by kernel_rfl) (belowOf_c S v r d hM (farB_is hF)) ?_
    rintro y S1 ⟨⟨t, g, O1⟩, P1⟩
    simp only [go_sem, ↓reduceIte, Nat.reduceEqDiff]
    exact ⟨.inr ⟨t, g, by simp only [belowV, hF, ↓reduceIte]; exact O1⟩, P1⟩
end Go.Proofs.Ytodeldmkpogakaa

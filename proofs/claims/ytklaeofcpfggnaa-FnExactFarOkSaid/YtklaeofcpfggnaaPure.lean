/- Plain facts about tables of distances; no program in sight. -/
import Derived.Test.YtklaeofcpfggnaaMillJ
namespace Go.Mill
open Go

def IsFar (d : List (List Int)) : Prop := 1 ≤ d.length ∧ d.length ≤ 6 ∧ (∀ i, i < d.length → (d.getD i []).length = d.length) ∧
  ∀ i k, i < d.length → k < d.length → at2 d i k = at2 d k i ∧ 0 ≤ at2 d i k ∧ at2 d i k ≤ 60 ∧ (at2 d i k = 0 ↔ i = k)
noncomputable def farB (d : List (List Int)) : Bool := @decide (IsFar d) (Classical.propDecidable _)
theorem farB_no {d : List (List Int)} (h : ¬ IsFar d) : farB d = false := by simp [farB, h]
theorem farB_yes {d : List (List Int)} (h : IsFar d) : farB d = true := by simp [farB, h]
theorem farB_is {d : List (List Int)} (h : farB d = true) : IsFar d := by simpa [farB] using h
theorem farB_not {d : List (List Int)} (h : farB d = false) : ¬ IsFar d := by simpa [farB] using h

def IsSpace (d : List (List Int)) : Prop := IsFar d ∧ ∀ i k j, i < d.length → k < d.length → j < d.length → at2 d i k ≤ at2 d i j + at2 d j k
noncomputable def spaceB (d : List (List Int)) : Bool := @decide (IsSpace d) (Classical.propDecidable _)
theorem spaceB_no {d : List (List Int)} (h : ¬ IsSpace d) : spaceB d = false := by simp [spaceB, h]
theorem spaceB_yes {d : List (List Int)} (h : IsSpace d) : spaceB d = true := by simp [spaceB, h]
theorem spaceB_is {d : List (List Int)} (h : spaceB d = true) : IsSpace d := by simpa [spaceB] using h
theorem spaceB_not {d : List (List Int)} (h : spaceB d = false) : ¬ IsSpace d := by simpa [spaceB] using h

section
variable {S : Store} {v : Value} {r : Nat → Value} {d : List (List Int)}
/-- Square tables. -/
theorem Mat.sqlen (h : Mat S v r d) (hr : ∀ i, i < d.length → (d.getD i []).length = d.length) (i : Nat) (hi : i < d.length) : slen (r i) = d.length := by rw [h.rlen i hi, hr i hi]
theorem Mat.sqcell (h : Mat S v r d) (hr : ∀ i, i < d.length → (d.getD i []).length = d.length) (i k : Nat) (hi : i < d.length) (hk : k < d.length) : ld S (eptr (r i) k) = some (.int .i64 (at2 d i k)) :=
  h.cell i k hi (by rw [hr i hi]; exact hk)
end
end Go.Mill

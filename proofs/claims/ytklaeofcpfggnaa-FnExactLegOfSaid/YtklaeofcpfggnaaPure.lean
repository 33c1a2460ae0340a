/- Plain facts about tables of distances; no program in sight. -/
import Derived.Test.YtklaeofcpfggnaaMillJ
namespace Go.Mill
open Go

def IsFar (d : List (List Int)) : Prop := 1 ≤ d.length ∧ d.length ≤ 6 ∧ (∀ i, i < d.length → (d.getD i []).length = d.length) ∧
  ∀ i k, i < d.length → k < d.length → at2 d i k = at2 d k i ∧ 0 ≤ at2 d i k ∧ at2 d i k ≤ 60 ∧ (at2 d i k = 0 ↔ i = k)
noncomputable def farB (d : List (List Int)) : Bool := @decide (IsFar d) (Classical.propDecidable _)
theorem farB_no {d : List (List Int)} (h : ¬ IsFar d) : farB d = false := by simp [farB, h]
theorem farB_yes {d : List (List Int)} (h : IsFar d) : farB d = true := by simp [farB, h]
theorem farB_is {d : List (List Int)} (h : farB d = true) : IsFar d := by simpa [farB] using h
theorem farB_not {d : List (List Int)} (h : farB d = false) : ¬ IsFar d := by simpa [farB] using h

def IsSpace (d : List (List Int)) : Prop := IsFar d ∧ ∀ i k j, i < d.length → k < d.length → j < d.length → at2 d i k ≤ at2 d i j + at2 d j k
noncomputable def spaceB (d : List (List Int)) : Bool := @decide (IsSpace d) (Classical.propDecidable _)
theorem spaceB_no {d : List (List Int)} (h : ¬ IsSpace d) : spaceB d = false := by simp [spaceB, h]
theorem spaceB_yes {d : List (List Int)} (h : IsSpace d) : spaceB d = true := by simp [spaceB, h]
theorem spaceB_is {d : List (List Int)} (h : spaceB d = true) : IsSpace d := by simpa [spaceB] using h
theorem spaceB_not {d : List (List Int)} (h : spaceB d = false) : ¬ IsSpace d := by simpa [spaceB] using h

section
variable {S : Store} {v : Value} {r : Nat → Value} {d : List (List Int)}
/-- Square tables. -/
theorem Mat.sqlen (h : Mat S v r d) (hr : ∀ i, i < d.length → (d.getD i []).length = d.length) (i : Nat) (hi : i < d.length) : slen (r i) = d.length := by rw [h.rlen i hi, hr i hi]
theorem Mat.sqcell (h : Mat S v r d) (hr : ∀ i, i < d.length → (d.getD i []).length = d.length) (i k : Nat) (hi : i < d.length) (hk : k < d.length) : ld S (eptr (r i) k) = some (.int .i64 (at2 d i k)) :=
  h.cell i k hi (by rw [hr i hi]; exact hk)
end

/-- The greatest of z and the first numbers of f. -/
def top (f : Nat → Int) (z : Int) : Nat → Int
  | 0 => z
  | n + 1 => max (top f z n) (f n)
section
variable {f g : Nat → Int} {z m : Int} {n : Nat}
theorem top_z : z ≤ top f z n := by
  induction n with
  | zero => exact Int.le_refl _
  | succ n ih => simp only [top]; omega
theorem top_ge {j : Nat} (hj : j < n) : f j ≤ top f z n := by
  induction n with
  | zero => omega
  | succ n ih =>
    simp only [top]
    rcases Nat.lt_or_ge j n with h | h
    · have := ih h; omega
    · obtain rfl : j = n := by omega
      omega
theorem top_mem : top f z n = z ∨ ∃ j, j < n ∧ top f z n = f j := by
  induction n with
  | zero => exact .inl rfl
  | succ n ih =>
    simp only [top]
    rcases Int.le_total (f n) (top f z n) with h | h
    · rw [Int.max_eq_left h]
      rcases ih with h' | ⟨j, hj, h'⟩
      · exact .inl h'
      · exact .inr ⟨j, by omega, h'⟩
    · rw [Int.max_eq_right h]
      exact .inr ⟨n, by omega, rfl⟩
theorem top_is (h1 : z ≤ m) (h2 : ∀ j, j < n → f j ≤ m) (h3 : m = z ∨ ∃ j, j < n ∧ m = f j) : top f z n = m := by
  have a := @top_mem f z n
  have b := @top_z f z n
  rcases h3 with rfl | ⟨j, hj, rfl⟩
  · rcases a with a | ⟨k, hk, a⟩
    · exact a
    · have := h2 k hk; omega
  · have := @top_ge f z n j hj
    rcases a with a | ⟨k, hk, a⟩
    · omega
    · have := h2 k hk; omega
theorem top_congr (h : ∀ j, j < n → f j = g j) : top f z n = top g z n := by
  induction n with
  | zero => rfl
  | succ n ih => simp only [top]; rw [ih (fun j hj => h j (by omega)), h n (by omega)]
/-- From another beginning that is not above. -/
theorem top_from {z' : Int} {j : Nat} (hj : j < n) (hz : z ≤ f j) (hz' : z' ≤ f j) : top f z n = top f z' n := by
  refine top_is (Int.le_trans hz (top_ge hj)) (fun k hk => top_ge hk) ?_
  rcases @top_mem f z' n with h | h
  · have := @top_ge f z' n j hj
    exact .inr ⟨j, hj, by omega⟩
  · exact .inr h
end

/-- A point of a space. -/
def HasP (d : List (List Int)) (p : Int) : Prop := IsSpace d ∧ 0 ≤ p ∧ p < d.length
noncomputable def hasB (d : List (List Int)) (p : Int) : Bool := @decide (HasP d p) (Classical.propDecidable _)
theorem hasB_no {d : List (List Int)} {p : Int} (h : ¬ HasP d p) : hasB d p = false := by simp [hasB, h]
theorem hasB_yes {d : List (List Int)} {p : Int} (h : HasP d p) : hasB d p = true := by simp [hasB, h]
theorem hasB_is {d : List (List Int)} {p : Int} (h : hasB d p = true) : HasP d p := by simpa [hasB] using h
theorem hasB_not {d : List (List Int)} {p : Int} (h : hasB d p = false) : ¬ HasP d p := by simpa [hasB] using h

theorem IsFar.sq {d : List (List Int)} (h : IsFar d) : ∀ i, i < d.length → (d.getD i []).length = d.length := h.2.2.1
theorem IsFar.at {d : List (List Int)} (h : IsFar d) {i k : Nat} (hi : i < d.length) (hk : k < d.length) : at2 d i k = at2 d k i ∧ 0 ≤ at2 d i k ∧ at2 d i k ≤ 60 ∧ (at2 d i k = 0 ↔ i = k) := h.2.2.2 i k hi hk

/-- The farthest from a point. -/
noncomputable def farV (d : List (List Int)) (p : Int) : Int := if hasB d p then top (at2 d p.toNat) 0 d.length else -1
theorem farV_nat {d : List (List Int)} {n : Nat} (h : IsSpace d) (hn : n < d.length) : farV d n = top (at2 d n) 0 d.length := by
  have : hasB d n = true := hasB_yes ⟨h, by omega, by omega⟩
  simp [farV, this]
theorem farV_no {d : List (List Int)} {p : Int} (h : ¬ HasP d p) : farV d p = -1 := by simp [farV, hasB_no h]
theorem row_top {d : List (List Int)} {n : Nat} (h : IsSpace d) (hn : n < d.length) : top (fun j => (d.getD n []).getD j 0) ((d.getD n []).getD 0 0) d.length = top (at2 d n) 0 d.length := by
  have h0 : (0 : Nat) < d.length := h.1.1
  have := (h.1.at hn h0).2.1
  exact top_from h0 (Int.le_refl _) this

/-- The width. -/
noncomputable def widthV (d : List (List Int)) : Int := if spaceB d then top (fun k => farV d k) 0 d.length else -1
end Go.Mill

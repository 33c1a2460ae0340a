/- Plain facts: ultrametric, together, fitting, legs, radius. -/
import Derived.Test.YtodeldmkpogakaaPure
namespace Go.Mill
open Go
set_option linter.unusedSimpArgs false
set_option linter.unusedVariables false

def IsUltra (d : List (List Int)) : Prop := IsSpace d ∧ ∀ i k j, i < d.length → k < d.length → j < d.length → at2 d i k ≤ max (at2 d i j) (at2 d j k)
noncomputable def ultraB (d : List (List Int)) : Bool := @decide (IsUltra d) (Classical.propDecidable _)
theorem ultraB_no {d : List (List Int)} (h : ¬ IsUltra d) : ultraB d = false := by simp [ultraB, h]
theorem ultraB_yes {d : List (List Int)} (h : IsUltra d) : ultraB d = true := by simp [ultraB, h]
theorem ultraB_is {d : List (List Int)} (h : ultraB d = true) : IsUltra d := by simpa [ultraB] using h
theorem ultraB_not {d : List (List Int)} (h : ultraB d = false) : ¬ IsUltra d := by simpa [ultraB] using h

/-- How far two points' ways from a third go together, twice. -/
noncomputable def togV (d : List (List Int)) (f a b : Int) : Int := if hasB d f && (hasB d a && hasB d b) then at2 d f.toNat a.toNat + at2 d f.toNat b.toNat - at2 d a.toNat b.toNat else -1
theorem togV_nat {d : List (List Int)} {f a b : Nat} (h : IsSpace d) (hf : f < d.length) (ha : a < d.length) (hb : b < d.length) : togV d f a b = at2 d f a + at2 d f b - at2 d a b := by
  have h1 : hasB d f = true := hasB_yes ⟨h, by omega, by omega⟩
  have h2 : hasB d a = true := hasB_yes ⟨h, by omega, by omega⟩
  have h3 : hasB d b = true := hasB_yes ⟨h, by omega, by omega⟩
  simp [togV, h1, h2, h3]
theorem togV_no {d : List (List Int)} {f a b : Int} (h : ¬ (HasP d f ∧ HasP d a ∧ HasP d b)) : togV d f a b = -1 := by
  unfold togV
  rw [if_neg]
  intro hc
  simp only [Bool.and_eq_true] at hc
  exact h ⟨hasB_is hc.1, hasB_is hc.2.1, hasB_is hc.2.2⟩

/-- A point may be so far from all. -/
def IsFit (d : List (List Int)) (xs : List Int) : Prop := IsSpace d ∧ d.length < 6 ∧ xs.length = d.length ∧ (∀ i, i < d.length → 1 ≤ xs.getD i 0 ∧ xs.getD i 0 ≤ 60) ∧
  ∀ i k, i < d.length → k < d.length → xs.getD i 0 - xs.getD k 0 ≤ at2 d i k ∧ (i ≠ k → at2 d i k ≤ xs.getD i 0 + xs.getD k 0)
noncomputable def fitB (d : List (List Int)) (xs : List Int) : Bool := @decide (IsFit d xs) (Classical.propDecidable _)
theorem fitB_no {d : List (List Int)} {xs : List Int} (h : ¬ IsFit d xs) : fitB d xs = false := by simp [fitB, h]
theorem fitB_yes {d : List (List Int)} {xs : List Int} (h : IsFit d xs) : fitB d xs = true := by simp [fitB, h]
theorem fitB_is {d : List (List Int)} {xs : List Int} (h : fitB d xs = true) : IsFit d xs := by simpa [fitB] using h
theorem fitB_not {d : List (List Int)} {xs : List Int} (h : fitB d xs = false) : ¬ IsFit d xs := by simpa [fitB] using h

/-- The first place of the least number. -/
def argm (f : Nat → Int) : Nat → Nat
  | 0 => 0
  | n + 1 => if f n < f (argm f n) then n else argm f n
section
variable {f : Nat → Int} {n : Nat}
theorem argm_lt (h : 0 < n) : argm f n < n := by
  induction n with
  | zero => omega
  | succ n ih =>
    simp only [argm]
    split
    · omega
    · rcases Nat.eq_zero_or_pos n with rfl | h
      · simp [argm]
      · have := ih h; omega
theorem argm_le {j : Nat} (hj : j < n) : f (argm f n) ≤ f j := by
  induction n with
  | zero => omega
  | succ n ih =>
    simp only [argm]
    split
    · rename_i h
      rcases Nat.lt_or_ge j n with h' | h'
      · have := ih h'; omega
      · obtain rfl : j = n := by omega
        omega
    · rename_i h
      rcases Nat.lt_or_ge j n with h' | h'
      · exact ih h'
      · obtain rfl : j = n := by omega
        omega
end
/-- The radius and its point. -/
noncomputable def radP (d : List (List Int)) : Nat := argm (fun k => farV d k) d.length

noncomputable def radV (d : List (List Int)) : Int := if spaceB d then farV d (radP d) else -1
noncomputable def radQ (d : List (List Int)) : Int := if spaceB d then (radP d : Nat) else -1
/-- The least of z and those of the first n places that are asked for. -/
def low (c : Nat → Bool) (f : Nat → Int) (z : Int) : Nat → Int
  | 0 => z
  | n + 1 => if c n then min (low c f z n) (f n) else low c f z n
section
variable {c : Nat → Bool} {f : Nat → Int} {z : Int} {n : Nat}
theorem low_z : low c f z n ≤ z := by
  induction n with
  | zero => exact Int.le_refl _
  | succ n ih => simp only [low]; split <;> omega
theorem low_le {j : Nat} (hj : j < n) (hc : c j = true) : low c f z n ≤ f j := by
  induction n with
  | zero => omega
  | succ n ih =>
    simp only [low]
    rcases Nat.lt_or_ge j n with h | h
    · have := ih h; split <;> omega
    · obtain rfl : j = n := by omega
      rw [if_pos hc]; omega
theorem low_mem : low c f z n = z ∨ ∃ j, j < n ∧ c j = true ∧ low c f z n = f j := by
  induction n with
  | zero => exact .inl rfl
  | succ n ih =>
    simp only [low]
    split
    · rename_i hcn
      rcases Int.le_total (low c f z n) (f n) with h | h
      · rw [Int.min_eq_left h]
        rcases ih with h' | ⟨j, hj, hc, h'⟩
        · exact .inl h'
        · exact .inr ⟨j, by omega, hc, h'⟩
      · rw [Int.min_eq_right h]
        exact .inr ⟨n, by omega, hcn, rfl⟩
    · rcases ih with h' | ⟨j, hj, hc, h'⟩
      · exact .inl h'
      · exact .inr ⟨j, by omega, hc, h'⟩
end

/-- .. over all pairs b < a. -/
def low2 (c : Nat → Nat → Bool) (f : Nat → Nat → Int) (z : Int) : Nat → Int
  | 0 => z
  | a + 1 => low (c a) (f a) (low2 c f z a) a
def notP (p : Nat) (a b : Nat) : Bool := decide (a ≠ p) && decide (b ≠ p)
def tog (d : List (List Int)) (p a b : Nat) : Int := at2 d p a + at2 d p b - at2 d a b
/-- The leg, twice. -/
noncomputable def legV (d : List (List Int)) (p : Int) : Int := if hasB d p && decide (3 ≤ d.length) then low2 (notP p.toNat) (tog d p.toNat) 120 d.length else -1
theorem legV_no {d : List (List Int)} {p : Int} (h : ¬ (HasP d p ∧ 3 ≤ d.length)) : legV d p = -1 := by
  unfold legV
  rw [if_neg]
  intro hc
  simp only [Bool.and_eq_true, decide_eq_true_eq] at hc
  exact h ⟨hasB_is hc.1, hc.2⟩
theorem legV_nat {d : List (List Int)} {p : Nat} (h : IsSpace d) (hp : p < d.length) (h3 : 3 ≤ d.length) : legV d p = low2 (notP p) (tog d p) 120 d.length := by
  have h1 : hasB d p = true := hasB_yes ⟨h, by omega, by omega⟩
  simp [legV, h1, h3]
theorem tog_in {d : List (List Int)} {p a b : Nat} (h : IsSpace d) (hp : p < d.length) (ha : a < d.length) (hb : b < d.length) : 0 ≤ tog d p a b ∧ tog d p a b ≤ 120 := by
  have h1 := h.1.at hp ha
  have h2 := h.1.at hp hb
  have h3 := h.1.at ha hb
  have h4 := h.2 a b p ha hb hp
  unfold tog
  omega

theorem width_yes {d : List (List Int)} (h : IsSpace d) : widthV d = top (fun k => farV d k) 0 d.length := by simp [widthV, spaceB_yes h]
theorem width_no {d : List (List Int)} (h : spaceB d = false) : widthV d = -1 := by simp [widthV, h]
theorem width_ge {d : List (List Int)} (h : IsSpace d) {k j : Nat} (hk : k < d.length) (hj : j < d.length) : at2 d k j ≤ widthV d := by
  rw [width_yes h]
  have h1 := @top_ge (fun k => farV d k) 0 d.length k hk
  have h2 := @top_ge (at2 d k) 0 d.length j hj
  rw [← farV_nat h hk] at h2
  omega
theorem width_mem {d : List (List Int)} (h : IsSpace d) : ∃ k j, k < d.length ∧ j < d.length ∧ at2 d k j = widthV d := by
  have h0 : 0 < d.length := h.1.1
  have hz := (h.1.2.2.2 0 0 h0 h0).2.2.2.2 rfl
  rw [width_yes h]
  rcases @top_mem (fun k => farV d k) 0 d.length with e | ⟨k, hk, e⟩
  · exact ⟨0, 0, h0, h0, by rw [e, hz]⟩
  · rw [e, farV_nat h hk]
    rcases @top_mem (at2 d k) 0 d.length with e' | ⟨j, hj, e'⟩
    · exact ⟨0, 0, h0, h0, by rw [e', hz]⟩
    · exact ⟨k, j, hk, hj, e'.symm⟩
theorem width_zero {d : List (List Int)} (h : IsSpace d) : widthV d = 0 ↔ d.length = 1 := by
  constructor
  · intro h0
    have h1 := h.1.1
    rcases Nat.lt_or_ge d.length 2 with hl | hl
    · omega
    · have h2 := width_ge h (k := 0) (j := 1) (by omega) (by omega)
      have h3 := h.1.2.2.2 0 1 (by omega) (by omega)
      omega
  · intro h1
    obtain ⟨k, j, hk, hj, e⟩ := width_mem h
    have : k = j := by omega
    subst this
    rw [← e]
    exact (h.1.2.2.2 k k hk hk).2.2.2.2 rfl
theorem width_nn {d : List (List Int)} (h : IsSpace d) : 0 ≤ widthV d := by rw [width_yes h]; exact top_z
end Go.Mill

/- Plain facts about tables of distances; no program in sight. -/
import Derived.Test.YtodeldmkpogakaaMillJ
namespace Go.Mill
open Go
set_option linter.unusedSimpArgs false
set_option linter.unusedVariables false

def IsFar (d : List (List Int)) : Prop := 1 ≤ d.length ∧ d.length ≤ 6 ∧ (∀ i, i < d.length → (d.getD i []).length = d.length) ∧
  ∀ i k, i < d.length → k < d.length → at2 d i k = at2 d k i ∧ 0 ≤ at2 d i k ∧ at2 d i k ≤ 60 ∧ (at2 d i k = 0 ↔ i = k)
noncomputable def farB (d : List (List Int)) : Bool := @decide (IsFar d) (Classical.propDecidable _)
theorem farB_no {d : List (List Int)} (h : ¬ IsFar d) : farB d = false := by simp [farB, h]
theorem farB_yes {d : List (List Int)} (h : IsFar d) : farB d = true := by simp [farB, h]
theorem farB_is {d : List (List Int)} (h : farB d = true) : IsFar d := by simpa [farB] using h
theorem farB_not {d : List (List Int)} (h : farB d = false) : ¬ IsFar d := by simpa [farB] using h

def IsSpace (d : List (List Int)) : Prop := IsFar d ∧ ∀ i k j, i < d.length → k < d.length → j < d.length → at2 d i k ≤ at2 d i j + at2 d j k
noncomputable def spaceB (d : List (List Int)) : Bool := @decide (IsSpace d) (Classical.propDecidable _)
theorem spaceB_no {d : List (List Int)} (h : ¬ IsSpace d) : spaceB d = false := by simp [spaceB, h]
theorem spaceB_yes {d : List (List Int)} (h : IsSpace d) : spaceB d = true := by simp [spaceB, h]
theorem spaceB_is {d : List (List Int)} (h : spaceB d = true) : IsSpace d := by simpa [spaceB] using h
theorem spaceB_not {d : List (List Int)} (h : spaceB d = false) : ¬ IsSpace d := by simpa [spaceB] using h

section
variable {S : Store} {v : Value} {r : Nat → Value} {d : List (List Int)}
/-- Square tables. -/
theorem Mat.sqlen (h : Mat S v r d) (hr : ∀ i, i < d.length → (d.getD i []).length = d.length) (i : Nat) (hi : i < d.length) : slen (r i) = d.length := by rw [h.rlen i hi, hr i hi]
theorem Mat.sqcell (h : Mat S v r d) (hr : ∀ i, i < d.length → (d.getD i []).length = d.length) (i k : Nat) (hi : i < d.length) (hk : k < d.length) : ld S (eptr (r i) k) = some (.int .i64 (at2 d i k)) :=
  h.cell i k hi (by rw [hr i hi]; exact hk)
end

theorem alive1 : spaceB [[0, 2], [2, 0]] = true := by
  refine spaceB_yes ⟨⟨by simp, by simp, ?_, ?_⟩, ?_⟩
  · intro i hi
    have : i = 0 ∨ i = 1 := by simp at hi; omega
    rcases this with rfl | rfl <;> simp
  · intro i k hi hk
    have h1 : i = 0 ∨ i = 1 := by simp at hi; omega
    have h2 : k = 0 ∨ k = 1 := by simp at hk; omega
    rcases h1 with rfl | rfl <;> rcases h2 with rfl | rfl <;> simp [at2]
  · intro i k j hi hk hj
    have h1 : i = 0 ∨ i = 1 := by simp at hi; omega
    have h2 : k = 0 ∨ k = 1 := by simp at hk; omega
    have h3 : j = 0 ∨ j = 1 := by simp at hj; omega
    rcases h1 with rfl | rfl <;> rcases h2 with rfl | rfl <;> rcases h3 with rfl | rfl <;> simp [at2]
theorem alive2 : spaceB [[1]] = false := by
  refine spaceB_no fun h => ?_
  have := (h.1.2.2.2 0 0 (by simp) (by simp)).2.2.2
  simp [at2] at this
theorem far_zero : farB [[0]] = true := by
  refine farB_yes ⟨by simp, by simp, ?_, ?_⟩
  · intro i hi
    have : i = 0 := by simp at hi; omega
    subst this; simp
  · intro i k hi hk
    have h1 : i = 0 := by simp at hi; omega
    have h2 : k = 0 := by simp at hk; omega
    subst h1; subst h2; simp [at2]
theorem far_none : farB [] = false := farB_no fun h => by have := h.1; simp at this
/-- The greatest of z and the first numbers of f. -/
def top (f : Nat → Int) (z : Int) : Nat → Int
  | 0 => z
  | n + 1 => max (top f z n) (f n)
section
variable {f g : Nat → Int} {z m : Int} {n : Nat}
theorem top_z : z ≤ top f z n := by
  induction n with
  | zero => exact Int.le_refl _
  | succ n ih => simp only [top]; omega
theorem top_ge {j : Nat} (hj : j < n) : f j ≤ top f z n := by
  induction n with
  | zero => omega
  | succ n ih =>
    simp only [top]
    rcases Nat.lt_or_ge j n with h | h
    · have := ih h; omega
    · obtain rfl : j = n := by omega
      omega
theorem top_mem : top f z n = z ∨ ∃ j, j < n ∧ top f z n = f j := by
  induction n with
  | zero => exact .inl rfl
  | succ n ih =>
    simp only [top]
    rcases Int.le_total (f n) (top f z n) with h | h
    · rw [Int.max_eq_left h]
      rcases ih with h' | ⟨j, hj, h'⟩
      · exact .inl h'
      · exact .inr ⟨j, by omega, h'⟩
    · rw [Int.max_eq_right h]
      exact .inr ⟨n, by omega, rfl⟩
theorem top_is (h1 : z ≤ m) (h2 : ∀ j, j < n → f j ≤ m) (h3 : m = z ∨ ∃ j, j < n ∧ m = f j) : top f z n = m := by
  have a := @top_mem f z n
  have b := @top_z f z n
  rcases h3 with rfl | ⟨j, hj, rfl⟩
  · rcases a with a | ⟨k, hk, a⟩
    · exact a
    · have := h2 k hk; omega
  · have := @top_ge f z n j hj
    rcases a with a | ⟨k, hk, a⟩
    · omega
    · have := h2 k hk; omega
theorem top_congr (h : ∀ j, j < n → f j = g j) : top f z n = top g z n := by
  induction n with
  | zero => rfl
  | succ n ih => simp only [top]; rw [ih (fun j hj => h j (by omega)), h n (by omega)]
/-- From another beginning that is not above. -/
theorem top_from {z' : Int} {j : Nat} (hj : j < n) (hz : z ≤ f j) (hz' : z' ≤ f j) : top f z n = top f z' n := by
  refine top_is (Int.le_trans hz (top_ge hj)) (fun k hk => top_ge hk) ?_
  rcases @top_mem f z' n with h | h
  · have := @top_ge f z' n j hj
    exact .inr ⟨j, hj, by omega⟩
  · exact .inr h
end

/-- A point of a space. -/
def HasP (d : List (List Int)) (p : Int) : Prop := IsSpace d ∧ 0 ≤ p ∧ p < d.length
noncomputable def hasB (d : List (List Int)) (p : Int) : Bool := @decide (HasP d p) (Classical.propDecidable _)
theorem hasB_no {d : List (List Int)} {p : Int} (h : ¬ HasP d p) : hasB d p = false := by simp [hasB, h]
theorem hasB_yes {d : List (List Int)} {p : Int} (h : HasP d p) : hasB d p = true := by simp [hasB, h]
theorem hasB_is {d : List (List Int)} {p : Int} (h : hasB d p = true) : HasP d p := by simpa [hasB] using h
theorem hasB_not {d : List (List Int)} {p : Int} (h : hasB d p = false) : ¬ HasP d p := by simpa [hasB] using h

theorem IsFar.sq {d : List (List Int)} (h : IsFar d) : ∀ i, i < d.length → (d.getD i []).length = d.length := h.2.2.1
theorem IsFar.at {d : List (List Int)} (h : IsFar d) {i k : Nat} (hi : i < d.length) (hk : k < d.length) : at2 d i k = at2 d k i ∧ 0 ≤ at2 d i k ∧ at2 d i k ≤ 60 ∧ (at2 d i k = 0 ↔ i = k) := h.2.2.2 i k hi hk

/-- The farthest from a point. -/
noncomputable def farV (d : List (List Int)) (p : Int) : Int := if hasB d p then top (at2 d p.toNat) 0 d.length else -1
theorem farV_nat {d : List (List Int)} {n : Nat} (h : IsSpace d) (hn : n < d.length) : farV d n = top (at2 d n) 0 d.length := by
  have : hasB d n = true := hasB_yes ⟨h, by omega, by omega⟩
  simp [farV, this]
theorem farV_no {d : List (List Int)} {p : Int} (h : ¬ HasP d p) : farV d p = -1 := by simp [farV, hasB_no h]
theorem row_top {d : List (List Int)} {n : Nat} (h : IsSpace d) (hn : n < d.length) : top (fun j => (d.getD n []).getD j 0) ((d.getD n []).getD 0 0) d.length = top (at2 d n) 0 d.length := by
  have h0 : (0 : Nat) < d.length := h.1.1
  have := (h.1.at hn h0).2.1
  exact top_from h0 (Int.le_refl _) this

/-- All twice, as the machine has it. -/
def dbl (xs : List Int) : List Int := xs.map fun x => IntKind.i64.wrap (2 * x)
theorem dbl_len {xs : List Int} : (dbl xs).length = xs.length := by simp [dbl]
theorem dbl_get {xs : List Int} {k : Nat} (hk : k < xs.length) : (dbl xs).getD k 0 = IntKind.i64.wrap (2 * xs.getD k 0) := by simp [dbl, List.getElem?_eq_getElem hk]
theorem take_getD {α : Type} {xs : List α} {z : α} {k : Nat} (hk : k < xs.length) : xs.take (k + 1) = xs.take k ++ [xs.getD k z] := by
  rw [List.take_add_one, List.getElem?_eq_getElem hk]
  simp [List.getElem?_eq_getElem hk]
theorem dbl_take {xs : List Int} {k : Nat} (hk : k < xs.length) : dbl (xs.take (k + 1)) = dbl (xs.take k) ++ [IntKind.i64.wrap (2 * xs.getD k 0)] := by
  rw [take_getD (z := 0) hk]; simp [dbl]
theorem dbl_at {d : List (List Int)} {i k : Nat} (hi : i < d.length) (hk : k < (d.getD i []).length) : at2 (d.map dbl) i k = IntKind.i64.wrap (2 * at2 d i k) := by
  have e : (d.map dbl).getD i [] = dbl (d.getD i []) := by simp [List.getElem?_eq_getElem hi]
  unfold at2
  rw [e, dbl_get hk]
theorem far_dbl {d : List (List Int)} {m : Int} (h : IsFar d) (hm : ∀ i j, i < d.length → j < (d.getD i []).length → IntKind.i64.wrap (2 * at2 d i j) ≤ m) (h60 : m ≤ 60) : farB (d.map dbl) = true := by
  have e : ∀ i, i < d.length → (d.map dbl).getD i [] = dbl (d.getD i []) := fun i hi => by simp [List.getElem?_eq_getElem hi]
  have w : ∀ i k, i < d.length → k < d.length → at2 (d.map dbl) i k = 2 * at2 d i k ∧ 2 * at2 d i k ≤ 60 := fun i k hi hk => by
    have hk' : k < (d.getD i []).length := by rw [h.2.2.1 i hi]; exact hk
    have h1 := h.2.2.2 i k hi hk
    have h2 := hm i k hi hk'
    rw [dbl_at hi hk']
    rw [wrap64 (by omega)] at h2 ⊢
    exact ⟨rfl, by omega⟩
  refine farB_yes ⟨by simpa using h.1, by simpa using h.2.1, fun i hi => ?_, fun i k hi hk => ?_⟩
  · rw [List.length_map] at hi ⊢
    rw [e i hi, dbl_len, h.2.2.1 i hi]
  · rw [List.length_map] at hi hk
    have a := h.2.2.2 i k hi hk
    rw [(w i k hi hk).1, (w k i hk hi).1]
    have := (w i k hi hk).2
    omega
/-- The width. -/
noncomputable def widthV (d : List (List Int)) : Int := if spaceB d then top (fun k => farV d k) 0 d.length else -1
end Go.Mill

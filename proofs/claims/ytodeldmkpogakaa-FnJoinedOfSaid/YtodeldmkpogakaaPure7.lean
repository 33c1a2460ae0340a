/- Plain: lots of points, and the steps at which they join. -/
import Derived.Test.YtodeldmkpogakaaPure6
import Derived.Test.YtodeldmkpogakaaPure4
namespace Go.Mill
open Go
set_option linter.unusedSimpArgs false
set_option linter.unusedVariables false

/-- The least number below n of which c holds; n if there is none. -/
def firstN (c : Nat → Bool) : Nat → Nat
  | 0 => 0
  | n + 1 => if firstN c n < n then firstN c n else if c n then n else n + 1
section
variable {c c' : Nat → Bool} {n : Nat}
theorem firstN_le : firstN c n ≤ n := by
  induction n with
  | zero => exact Nat.le_refl _
  | succ n ih => simp only [firstN]; split
                 · omega
                 · split <;> omega
theorem firstN_min {j : Nat} (hj : j < firstN c n) : c j = false := by
  induction n with
  | zero => simp [firstN] at hj
  | succ n ih =>
    simp only [firstN] at hj
    have hl := @firstN_le c n
    split at hj
    · exact ih hj
    · have hn : firstN c n = n := by omega
      split at hj
      · exact ih (by omega)
      · rename_i hc
        rcases Nat.lt_or_ge j n with h | h
        · exact ih (by omega)
        · obtain rfl : j = n := by omega
          simpa using hc
theorem firstN_yes (h : firstN c n < n) : c (firstN c n) = true := by
  induction n with
  | zero => omega
  | succ n ih =>
    simp only [firstN] at h ⊢
    split
    · rename_i h1; exact ih h1
    · rename_i h1
      rw [if_neg h1] at h
      split
      · rename_i hc; exact hc
      · rename_i hc; rw [if_neg hc] at h; omega
theorem firstN_of {k : Nat} (hk : k < n) (hc : c k = true) : firstN c n ≤ k := by
  rcases Nat.lt_or_ge k (firstN c n) with h | h
  · rw [firstN_min h] at hc; cases hc
  · exact h
theorem firstN_eq {k : Nat} (hk : k < n) (hc : c k = true) (hm : ∀ j, j < k → c j = false) : firstN c n = k := by
  have h1 := firstN_of hk hc
  rcases Nat.lt_or_ge (firstN c n) k with h | h
  · have h2 := hm _ h
    rw [firstN_yes (c := c) (n := n) (by omega)] at h2; cases h2
  · omega
theorem firstN_congr (h : ∀ j, j < n → c j = c' j) : firstN c n = firstN c' n := by
  induction n with
  | zero => rfl
  | succ n ih => simp only [firstN, ih (fun j hj => h j (by omega)), h n (by omega)]
end

/-- How many numbers below n there are of which c holds. -/
def cnt (c : Nat → Bool) : Nat → Nat
  | 0 => 0
  | n + 1 => cnt c n + if c n then 1 else 0
section
variable {c c' : Nat → Bool} {n : Nat}
theorem cnt_mono (h : ∀ k, k < n → c k = true → c' k = true) : cnt c n ≤ cnt c' n := by
  induction n with
  | zero => exact Nat.le_refl _
  | succ n ih =>
    have ih := ih (fun k hk => h k (by omega))
    have hn := h n (by omega)
    simp only [cnt]
    cases h1 : c n with
    | false => simp; omega
    | true => rw [hn h1]; simp; omega
theorem cnt_congr (h : ∀ k, k < n → c k = c' k) : cnt c n = cnt c' n := by
  induction n with
  | zero => rfl
  | succ n ih => simp only [cnt, ih (fun k hk => h k (by omega)), h n (by omega)]
theorem cnt_lt (h : ∀ k, k < n → c k = true → c' k = true) {k : Nat} (hk : k < n) (h0 : c k = false) (h1 : c' k = true) : cnt c n < cnt c' n := by
  induction n with
  | zero => omega
  | succ n ih =>
    simp only [cnt]
    rcases Nat.lt_or_ge k n with hkn | hkn
    · have ih := ih (fun k hk => h k (by omega)) hkn
      have hn := h n (by omega)
      cases h2 : c n with
      | false => simp; omega
      | true => rw [hn h2]; simp; omega
    · obtain rfl : k = n := by omega
      have := cnt_mono (n := k) (fun j hj => h j (by omega))
      rw [h0, h1]; simp; omega
theorem cnt_all (h : ∀ k, k < n → c k = true) : cnt c n = n := by
  induction n with
  | zero => rfl
  | succ n ih => simp only [cnt, ih (fun k hk => h k (by omega)), h n (by omega)]; rfl
theorem cnt_none (h : ∀ k, k < n → c k = false) : cnt c n = 0 := by
  induction n with
  | zero => rfl
  | succ n ih => simp only [cnt, ih (fun k hk => h k (by omega)), h n (by omega)]; rfl
theorem cnt_le : cnt c n ≤ n := by
  induction n with
  | zero => exact Nat.le_refl _
  | succ n ih => simp only [cnt]; split <;> omega
theorem cnt_zero_only {n : Nat} (h0 : c 0 = true) (h : ∀ k, 0 < k → k < n → c k = false) (hn : 0 < n) : cnt c n = 1 := by
  induction n with
  | zero => omega
  | succ n ih =>
    rcases Nat.eq_zero_or_pos n with rfl | hp
    · simp [cnt, h0]
    · simp only [cnt, ih (fun k h1 h2 => h k h1 (by omega)) hp, h n hp (by omega)]; rfl
theorem pickN_cnt : (pickN c n).length = cnt c n := by
  induction n with
  | zero => rfl
  | succ n ih =>
    cases h : c n with
    | true => rw [pickN_yes h]; simp [cnt, h, ih]
    | false => rw [pickN_no h]; simp [cnt, h, ih]
end

/-- The least point of the lot of k. -/
noncomputable def lotN (d : List (List Int)) (far : Int) (k : Nat) : Nat := firstN (fun j => decide (at2 (belowV d) k j ≤ far)) d.length
noncomputable def lotsL (d : List (List Int)) (far : Int) (n : Nat) : List Int := (List.range n).map fun k => ((lotN d far k : Nat) : Int)
noncomputable def lotsV (d : List (List Int)) (far : Int) : List Int := if farB d && (decide (0 ≤ far) && decide (far ≤ 60)) then lotsL d far d.length else []
theorem lotsV_yes {d : List (List Int)} {far : Int} (h : IsFar d) (h0 : 0 ≤ far) (h1 : far ≤ 60) : lotsV d far = lotsL d far d.length := by simp [lotsV, farB_yes h, h0, h1]
theorem lotsV_no {d : List (List Int)} {far : Int} (h : ¬ (IsFar d ∧ 0 ≤ far ∧ far ≤ 60)) : lotsV d far = [] := by
  unfold lotsV
  split
  · rename_i hc
    simp only [Bool.and_eq_true, decide_eq_true_eq] at hc
    exact absurd ⟨farB_is hc.1, hc.2⟩ h
  · rfl
theorem lotsL_len {d : List (List Int)} {far : Int} {n : Nat} : (lotsL d far n).length = n := by simp [lotsL]
theorem lotsL_succ {d : List (List Int)} {far : Int} {n : Nat} : lotsL d far (n + 1) = lotsL d far n ++ [((lotN d far n : Nat) : Int)] := by simp [lotsL, List.range_succ]
theorem lotsL_get {d : List (List Int)} {far : Int} {n k : Nat} (hk : k < n) : (lotsL d far n).getD k 0 = ((lotN d far k : Nat) : Int) := by simp [lotsL, hk]

section
variable {d : List (List Int)} {far far' : Int}
theorem lot_self (h : IsFar d) {k : Nat} (hk : k < d.length) : at2 (belowV d) k k = 0 := by
  have hu := below_ultra h
  have hl := below_len h
  exact (hu.1.1.2.2.2 k k (by omega) (by omega)).2.2.2.2 rfl
theorem below_sym (h : IsFar d) {k j : Nat} (hk : k < d.length) (hj : j < d.length) : at2 (belowV d) k j = at2 (belowV d) j k ∧ 0 ≤ at2 (belowV d) k j ∧ at2 (belowV d) k j ≤ 60 ∧ (at2 (belowV d) k j = 0 ↔ k = j) := by
  have hu := below_ultra h
  have hl := below_len h
  exact hu.1.1.2.2.2 k j (by omega) (by omega)
theorem lot_le (h : IsFar d) (h0 : 0 ≤ far) {k : Nat} (hk : k < d.length) : lotN d far k ≤ k :=
  firstN_of hk (by rw [decide_eq_true_eq, lot_self h hk]; exact h0)
theorem lot_at (h : IsFar d) (h0 : 0 ≤ far) {k : Nat} (hk : k < d.length) : at2 (belowV d) k (lotN d far k) ≤ far := by
  have h1 := lot_le h h0 hk
  have := firstN_yes (c := fun j => decide (at2 (belowV d) k j ≤ far)) (n := d.length) (show firstN _ _ < _ by have := lot_le h h0 hk; unfold lotN at this; omega)
  exact of_decide_eq_true this
theorem lot_iff (h : IsFar d) (h0 : 0 ≤ far) {k j : Nat} (hk : k < d.length) (hj : j < d.length) : lotN d far k = lotN d far j ↔ at2 (belowV d) k j ≤ far := by
  constructor
  · intro he
    have h1 := lot_at h h0 hk
    have h2 := lot_at h h0 hj
    have l1 := lot_le h h0 hk
    rw [he] at h1 l1
    have t := below_tri h hk hj (show lotN d far j < d.length by have := lot_le h h0 hj; omega)
    have s := (below_sym h hj (show lotN d far j < d.length by have := lot_le h h0 hj; omega)).1
    omega
  · intro hle
    refine firstN_congr fun i hi => ?_
    rw [decide_eq_decide]
    have t1 := below_tri h hk hi hj
    have t2 := below_tri h hj hi hk
    have s := (below_sym h hj hk).1
    omega
theorem lot_lot (h : IsFar d) (h0 : 0 ≤ far) {k : Nat} (hk : k < d.length) : lotN d far (lotN d far k) = lotN d far k := by
  have h1 := lot_le h h0 hk
  rw [lot_iff h h0 (by omega) hk, (below_sym h (by omega) hk).1]
  exact lot_at h h0 hk

noncomputable def fixC (d : List (List Int)) (far : Int) (k : Nat) : Bool := decide (lotN d far k = k)
/-- How many lots there are. -/
noncomputable def lotsN (d : List (List Int)) (far : Int) : Nat := cnt (fixC d far) d.length
theorem fix_mono (h : IsFar d) (h0 : 0 ≤ far) (hle : far ≤ far') {k : Nat} (hk : k < d.length) (hf : fixC d far' k = true) : fixC d far k = true := by
  simp only [fixC, decide_eq_true_eq] at hf ⊢
  have h1 := lot_le h h0 hk
  have h2 := lot_at h h0 hk
  have h3 := firstN_of (c := fun j => decide (at2 (belowV d) k j ≤ far')) (n := d.length) (k := lotN d far k) (by omega) (by rw [decide_eq_true_eq]; omega)
  unfold lotN at hf
  omega
theorem lots_mono (h : IsFar d) (h0 : 0 ≤ far) (hle : far ≤ far') : lotsN d far' ≤ lotsN d far :=
  cnt_mono fun k hk => fix_mono h h0 hle hk
theorem lots_zero (h : IsFar d) : lotsN d 0 = d.length := by
  refine cnt_all fun k hk => ?_
  simp only [fixC, decide_eq_true_eq]
  have h1 := lot_le h (Int.le_refl 0) hk
  have h2 := lot_at h (Int.le_refl 0) hk
  have h3 := below_sym h hk (show lotN d 0 k < d.length by omega)
  exact (h3.2.2.2.1 (by omega)).symm
theorem lots_sixty (h : IsFar d) : lotsN d 60 = 1 := by
  have h1 := h.1
  have z : ∀ k, k < d.length → lotN d 60 k = 0 := fun k hk => firstN_eq (by omega) (by rw [decide_eq_true_eq]; exact (below_sym h hk (by omega)).2.2.1) (fun _ hj => absurd hj (Nat.not_lt_zero _))
  refine cnt_zero_only ?_ (fun k h0 hk => ?_) h1
  · simp only [fixC, decide_eq_true_eq]; exact z 0 h1
  · simp only [fixC, decide_eq_false_iff_not, z k hk]; omega

/-- At n two lots join. -/
def stepC (d : List (List Int)) (n : Nat) : Prop := ∃ k j, j < k ∧ k < d.length ∧ at2 (belowV d) k j = n
noncomputable def stepB (d : List (List Int)) (n : Nat) : Bool := @decide (stepC d n) (Classical.propDecidable _)
theorem stepB_iff {n : Nat} : stepB d n = true ↔ stepC d n := by simp [stepB]
theorem step_zero (h : IsFar d) : stepB d 0 = false := by
  cases hb : stepB d 0 with
  | false => rfl
  | true =>
    obtain ⟨k, j, h1, h2, h3⟩ := stepB_iff.1 hb
    have := (below_sym h h2 (show j < d.length by omega)).2.2.2.1 (by simpa using h3)
    omega
theorem step_no (h : IsFar d) {n : Nat} (hn : 1 ≤ n) (hb : stepB d n = false) : lotsN d n = lotsN d ((n : Int) - 1) := by
  refine cnt_congr fun k hk => ?_
  have : lotN d n k = lotN d ((n : Int) - 1) k := by
    refine firstN_congr fun j hj => ?_
    rw [decide_eq_decide]
    have hne : at2 (belowV d) k j ≠ n := by
      intro he
      have hz := below_sym h hk hj
      have hkj : k ≠ j := fun e => by have := hz.2.2.2.2 e; omega
      have : stepB d n = true := stepB_iff.2 (by
        rcases Nat.lt_or_ge j k with h1 | h1
        · exact ⟨k, j, h1, hk, he⟩
        · exact ⟨j, k, by omega, hj, by rw [← hz.1]; exact he⟩)
      rw [this] at hb; cases hb
    omega
  simp only [fixC, this]
theorem step_yes (h : IsFar d) {n : Nat} (hn : 1 ≤ n) (hb : stepB d n = true) : lotsN d n < lotsN d ((n : Int) - 1) := by
  obtain ⟨k, j, hjk, hk, he⟩ := stepB_iff.1 hb
  have hj : j < d.length := by omega
  have h0 : (0 : Int) ≤ (n : Int) - 1 := by omega
  have h0' : (0 : Int) ≤ (n : Int) := by omega
  have p1 := lot_le h h0 hk
  have q1 := lot_le h h0 hj
  have p2 := lot_lot h h0 hk
  have q2 := lot_lot h h0 hj
  have hne : lotN d ((n : Int) - 1) k ≠ lotN d ((n : Int) - 1) j := by
    rw [Ne, lot_iff h h0 hk hj, he]; omega
  have pk : lotN d n (lotN d ((n : Int) - 1) k) = lotN d n k := by
    rw [lot_iff h h0' (by omega) hk, (below_sym h (by omega) hk).1]
    have := lot_at h h0 hk; omega
  have qj : lotN d n (lotN d ((n : Int) - 1) j) = lotN d n j := by
    rw [lot_iff h h0' (by omega) hj, (below_sym h (by omega) hj).1]
    have := lot_at h h0 hj; omega
  have kj : lotN d n k = lotN d n j := by rw [lot_iff h h0' hk hj, he]; exact Int.le_refl _
  have l1 := lot_le h h0' (show lotN d ((n : Int) - 1) k < d.length by omega)
  have l2 := lot_le h h0' (show lotN d ((n : Int) - 1) j < d.length by omega)
  have mono : ∀ i, i < d.length → fixC d n i = true → fixC d ((n : Int) - 1) i = true := fun i hi => fix_mono h h0 (by omega) hi
  rcases Nat.lt_or_ge (lotN d ((n : Int) - 1) k) (lotN d ((n : Int) - 1) j) with hlt | hge
  · exact cnt_lt mono (k := lotN d ((n : Int) - 1) j) (by omega) (by simp only [fixC, decide_eq_false_iff_not]; omega) (by simp only [fixC, decide_eq_true_eq]; exact q2)
  · exact cnt_lt mono (k := lotN d ((n : Int) - 1) k) (by omega) (by simp only [fixC, decide_eq_false_iff_not]; omega) (by simp only [fixC, decide_eq_true_eq]; exact p2)
theorem steps_few (h : IsFar d) : ∀ N : Nat, cnt (stepB d) (N + 1) + lotsN d N ≤ d.length
  | 0 => by have := lots_zero h; simp only [cnt, step_zero h]; simp; omega
  | N + 1 => by
    have ih := steps_few h N
    rw [cnt]
    have e : (((N + 1 : Nat) : Int) - 1) = (N : Int) := by omega
    cases hb : stepB d (N + 1) with
    | false => have := step_no h (show 1 ≤ N + 1 by omega) hb; rw [e] at this; simp only [Bool.false_eq_true, ↓reduceIte]; omega
    | true => have := step_yes h (show 1 ≤ N + 1 by omega) hb; rw [e] at this; simp only [↓reduceIte]; omega
noncomputable def stepsV (d : List (List Int)) : List Int := if farB d then pickN (stepB d) 61 else []
theorem stepsV_yes (h : IsFar d) : stepsV d = pickN (stepB d) 61 := by simp [stepsV, farB_yes h]
theorem stepsV_no (h : farB d = false) : stepsV d = [] := by simp [stepsV, h]
theorem stepsV_len (h : IsFar d) : (stepsV d).length < d.length := by
  rw [stepsV_yes h, pickN_cnt]
  have h1 := steps_few h 60
  have h2 := lots_sixty h
  have e : ((60 : Nat) : Int) = 60 := rfl
  rw [e, h2] at h1
  have e2 : cnt (stepB d) (60 + 1) = cnt (stepB d) 61 := rfl
  omega
end
end Go.Mill

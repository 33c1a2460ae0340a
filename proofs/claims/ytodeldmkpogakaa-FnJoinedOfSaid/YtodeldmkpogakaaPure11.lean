/- Plain: caterpillars. -/
import Derived.Test.YtodeldmkpogakaaPure10
namespace Go.Mill
open Go
set_option linter.unusedSimpArgs false
set_option linter.unusedVariables false

/-- How far along the spine the joint k is. -/
def posN (sp : List Int) : Nat → Int
  | 0 => 0
  | k + 1 => posN sp k + sp.getD k 0
def catAt (sp lg : List Int) (i k : Nat) : Int := if i = k then 0 else lg.getD i 0 + lg.getD k 0 + (max (posN sp i) (posN sp k) - min (posN sp i) (posN sp k))
def catRow (sp lg : List Int) (i n : Nat) : List Int := (List.range n).map (catAt sp lg i)
def catT (sp lg : List Int) (n : Nat) : List (List Int) := (List.range n).map fun i => catRow sp lg i lg.length
structure CatOk (sp lg : List Int) : Prop where
  two : 2 ≤ lg.length
  six : lg.length ≤ 6
  len : sp.length + 1 = lg.length
  leg : ∀ k, k < lg.length → 1 ≤ lg.getD k 0 ∧ lg.getD k 0 ≤ 60
  spi : ∀ k, k < sp.length → 0 ≤ sp.getD k 0 ∧ sp.getD k 0 ≤ 60
def IsCat (sp lg : List Int) : Prop := CatOk sp lg ∧ IsSpace (catT sp lg lg.length)
noncomputable def catB (sp lg : List Int) : Bool := @decide (IsCat sp lg) (Classical.propDecidable _)
theorem catB_iff {sp lg : List Int} : catB sp lg = true ↔ IsCat sp lg := by simp [catB]
theorem catB_no {sp lg : List Int} (h : ¬ IsCat sp lg) : catB sp lg = false := by simp [catB, h]
noncomputable def catV (sp lg : List Int) : List (List Int) := if catB sp lg then catT sp lg lg.length else []
theorem catV_yes {sp lg : List Int} (h : IsCat sp lg) : catV sp lg = catT sp lg lg.length := by simp [catV, catB_iff.2 h]
theorem catV_no {sp lg : List Int} (h : catB sp lg = false) : catV sp lg = [] := by simp [catV, h]
section
variable {sp lg : List Int}
theorem catRow_succ {i n : Nat} : catRow sp lg i (n + 1) = catRow sp lg i n ++ [catAt sp lg i n] := by simp [catRow, List.range_succ]
theorem catRow_len {i n : Nat} : (catRow sp lg i n).length = n := by simp [catRow]
theorem catT_succ {n : Nat} : catT sp lg (n + 1) = catT sp lg n ++ [catRow sp lg n lg.length] := by simp [catT, List.range_succ]
theorem catT_len {n : Nat} : (catT sp lg n).length = n := by simp [catT]
theorem catT_row {n i : Nat} (hi : i < n) : (catT sp lg n).getD i [] = catRow sp lg i lg.length := by simp [catT, hi]
theorem catT_at {n i k : Nat} (hi : i < n) (hk : k < lg.length) : at2 (catT sp lg n) i k = catAt sp lg i k := by
  unfold at2; rw [catT_row hi]; simp [catRow, hk]
theorem catAt_sym {i k : Nat} : catAt sp lg i k = catAt sp lg k i := by
  unfold catAt
  by_cases h : i = k
  · subst h; rfl
  · rw [if_neg h, if_neg (fun e => h e.symm)]; omega
theorem pos_mono (h : CatOk sp lg) {i : Nat} : ∀ k, i ≤ k → k ≤ sp.length → posN sp i ≤ posN sp k
  | 0, h1, _ => by obtain rfl : i = 0 := by omega
                   exact Int.le_refl _
  | k + 1, h1, h2 => by
    rcases Nat.lt_or_ge k i with h3 | h3
    · obtain rfl : i = k + 1 := by omega
      exact Int.le_refl _
    · have := pos_mono h k h3 (by omega)
      have := h.spi k (by omega)
      simp only [posN]
      omega
theorem pos_in (h : CatOk sp lg) : ∀ k, k ≤ sp.length → 0 ≤ posN sp k ∧ posN sp k ≤ 60 * k
  | 0, _ => by simp [posN]
  | k + 1, h2 => by
    have := pos_in h k (by omega)
    have := h.spi k (by omega)
    simp only [posN]
    omega
theorem catAt_in (h : CatOk sp lg) {i k : Nat} (hi : i < lg.length) (hk : k < lg.length) : 0 ≤ catAt sp lg i k ∧ catAt sp lg i k ≤ 1000 := by
  have h1 := h.leg i hi
  have h2 := h.leg k hk
  have h3 := pos_in h i (by have := h.len; omega)
  have h4 := pos_in h k (by have := h.len; omega)
  have h6 := h.six
  unfold catAt
  split <;> omega
theorem cat_tree (h : IsCat sp lg) : treeB (catT sp lg lg.length) = true := by
  refine tree_of h.2 fun a b c e ha hb hc he => ?_
  rw [catT_len] at ha
  have hl := h.1.len
  have p1 := pos_mono h.1 (i := b) a (by omega) (by omega)
  have p2 := pos_mono h.1 (i := c) b (by omega) (by omega)
  have p3 := pos_mono h.1 (i := e) c (by omega) (by omega)
  unfold gapN sum1 sum2 sum3
  rw [catT_at (by omega) (by omega), catT_at (by omega) (by omega), catT_at (by omega) (by omega), catT_at (by omega) (by omega), catT_at (by omega) (by omega), catT_at (by omega) (by omega)]
  unfold catAt
  rw [if_neg (by omega), if_neg (by omega), if_neg (by omega), if_neg (by omega), if_neg (by omega), if_neg (by omega)]
  unfold gap3
  generalize lg.getD a 0 = la
  generalize lg.getD b 0 = lb
  generalize lg.getD c 0 = lc
  generalize lg.getD e 0 = le
  rw [Int.max_eq_left p1, Int.min_eq_right p1, Int.max_eq_left p2, Int.min_eq_right p2, Int.max_eq_left p3, Int.min_eq_right p3, Int.max_eq_left (Int.le_trans p2 p1), Int.min_eq_right (Int.le_trans p2 p1),
    Int.max_eq_left (Int.le_trans p3 p2), Int.min_eq_right (Int.le_trans p3 p2), Int.max_eq_left (Int.le_trans p3 (Int.le_trans p2 p1)), Int.min_eq_right (Int.le_trans p3 (Int.le_trans p2 p1))]
  omega
theorem getD_reverse {xs : List Int} {k : Nat} (hk : k < xs.length) : xs.reverse.getD k 0 = xs.getD (xs.length - 1 - k) 0 := by
  simp only [List.getD_eq_getElem?_getD, List.getElem?_reverse hk]
theorem rev_ok (h : CatOk sp lg) : CatOk sp.reverse lg.reverse :=
  ⟨by rw [List.length_reverse]; exact h.two, by rw [List.length_reverse]; exact h.six, by rw [List.length_reverse, List.length_reverse]; exact h.len,
   fun k hk => by rw [List.length_reverse] at hk; rw [getD_reverse hk]; exact h.leg _ (by omega), fun k hk => by rw [List.length_reverse] at hk; rw [getD_reverse hk]; exact h.spi _ (by omega)⟩
theorem rev_pos : ∀ k, k ≤ sp.length → posN sp.reverse k = posN sp sp.length - posN sp (sp.length - k)
  | 0, _ => by simp [posN]
  | k + 1, h2 => by
    have ih := rev_pos k (by omega)
    have e : sp.length - k = (sp.length - (k + 1)) + 1 := by omega
    rw [e] at ih
    simp only [posN] at ih ⊢
    rw [ih, getD_reverse (by omega), show sp.length - 1 - k = sp.length - (k + 1) by omega]
    omega
theorem rev_at (h : CatOk sp lg) {i k : Nat} (hi : i < lg.length) (hk : k < lg.length) : catAt sp.reverse lg.reverse i k = catAt sp lg (lg.length - 1 - i) (lg.length - 1 - k) := by
  have hl := h.len
  unfold catAt
  rw [getD_reverse hi, getD_reverse hk, rev_pos i (by omega), rev_pos k (by omega)]
  have e1 : sp.length - i = lg.length - 1 - i := by omega
  have e2 : sp.length - k = lg.length - 1 - k := by omega
  rw [e1, e2]
  by_cases he : i = k
  · subst he; simp
  · rw [if_neg he, if_neg (by omega)]; omega
theorem rev_cat (h : IsCat sp lg) : IsCat sp.reverse lg.reverse := by
  have hl := h.1.len
  have hS := h.2
  refine ⟨rev_ok h.1, ?_⟩
  rw [List.length_reverse]
  have hT : ∀ i, i < lg.length → (catT sp.reverse lg.reverse lg.length).getD i [] = catRow sp.reverse lg.reverse i lg.length := fun i hi => by rw [catT_row hi, List.length_reverse]
  have hat : ∀ i k, i < lg.length → k < lg.length → at2 (catT sp.reverse lg.reverse lg.length) i k = at2 (catT sp lg lg.length) (lg.length - 1 - i) (lg.length - 1 - k) := fun i k hi hk => by
    rw [catT_at hi (by rw [List.length_reverse]; exact hk), catT_at (by omega) (by omega), rev_at h.1 hi hk]
  have hlen : (catT sp lg lg.length).length = lg.length := catT_len
  refine ⟨⟨by rw [catT_len]; have := h.1.two; omega, by rw [catT_len]; exact h.1.six, fun i hi => ?_, fun i k hi hk => ?_⟩, fun i k j hi hk hj => ?_⟩
  · rw [catT_len] at hi ⊢; rw [hT i hi, catRow_len]
  · rw [catT_len] at hi hk
    rw [hat i k hi hk, hat k i hk hi]
    have := hS.1.at (i := lg.length - 1 - i) (k := lg.length - 1 - k) (by omega) (by omega)
    refine ⟨this.1, this.2.1, this.2.2.1, this.2.2.2.trans ?_⟩
    omega
  · rw [catT_len] at hi hk hj
    rw [hat i k hi hk, hat i j hi hj, hat j k hj hk]
    exact hS.2 _ _ _ (by omega) (by omega) (by omega)
theorem rev_back (h : IsCat sp lg) {k j : Nat} (hk : k < lg.length) (hj : j < lg.length) : at2 (catT sp.reverse lg.reverse lg.length) (lg.length - 1 - k) (lg.length - 1 - j) = at2 (catT sp lg lg.length) k j := by
  rw [catT_at (by omega) (by rw [List.length_reverse]; omega), catT_at hk hj, rev_at h.1 (by omega) (by omega)]
  congr 1 <;> omega
theorem catV_small : (catV sp lg).length ≤ 6 ∧ ∀ j, ((catV sp lg).getD j []).length ≤ 6 := by
  cases h : catB sp lg with
  | false => rw [catV_no h]; simp
  | true =>
    have hC := catB_iff.1 h
    rw [catV_yes hC]
    refine ⟨by rw [catT_len]; exact hC.1.six, fun j => ?_⟩
    rcases Nat.lt_or_ge j lg.length with h | h
    · rw [catT_row h, catRow_len]; exact hC.1.six
    · simp [List.getElem?_eq_none (show (catT sp lg lg.length).length ≤ j by rw [catT_len]; exact h)]
end
end Go.Mill

/- Plain: lists put in order, and without what repeats. -/
import Derived.Lib.SlicesCompact
import Derived.Test.YtodeldmkpogakaaPure7
import Derived.Test.YtodeldmkpogakaaPure10
namespace Go.Mill
open Go
set_option linter.unusedSimpArgs false
set_option linter.unusedVariables false

/-- A list in ascending order. -/
def srt (xs : List Int) : List Int := xs.mergeSort fun x y => decide (x ≤ y)
theorem srt_len {xs : List Int} : (srt xs).length = xs.length := by simp [srt]
theorem srt_perm {xs : List Int} : (srt xs).Perm xs := List.mergeSort_perm _ _
theorem srt_up {xs : List Int} : (srt xs).Pairwise (· ≤ ·) := by
  have := List.pairwise_mergeSort (le := fun (x y : Int) => decide (x ≤ y)) (fun a b c h1 h2 => by simp at *; omega) (fun a b => by simp; omega) xs
  exact this.imp fun h => by simpa using h
theorem srt_mem {xs : List Int} {x : Int} : x ∈ srt xs ↔ x ∈ xs := srt_perm.mem_iff
theorem perm_sum {xs ys : List Int} (h : xs.Perm ys) : xs.foldr (· + ·) 0 = ys.foldr (· + ·) 0 := by
  induction h with
  | nil => rfl
  | cons x _ ih => simp [ih]
  | swap x y l => simp; omega
  | trans _ _ ih1 ih2 => rw [ih1, ih2]
/-- The two greatest of three. -/
theorem srt_gap {x y z : Int} : (srt [x, y, z]).getD 2 0 - (srt [x, y, z]).getD 1 0 = gap3 x y z := by
  have hl := @srt_len [x, y, z]
  have hp := @srt_perm [x, y, z]
  have hu := @srt_up [x, y, z]
  generalize srt [x, y, z] = l at hl hp hu ⊢
  match l, hl with
  | [p, q, r], _ =>
    have hs := perm_sum hp
    simp only [List.foldr_cons, List.foldr_nil] at hs
    have hr : r ∈ [x, y, z] := hp.mem_iff.1 (by simp)
    have hpm : p ∈ [x, y, z] := hp.mem_iff.1 (by simp)
    have hx : x ∈ [p, q, r] := hp.mem_iff.2 (by simp)
    have hy : y ∈ [p, q, r] := hp.mem_iff.2 (by simp)
    have hz : z ∈ [p, q, r] := hp.mem_iff.2 (by simp)
    simp only [List.mem_cons, List.not_mem_nil, or_false] at hr hpm hx hy hz
    simp only [List.pairwise_cons, List.mem_cons, List.not_mem_nil, or_false, forall_eq_or_imp, forall_eq] at hu
    show r - q = gap3 x y z
    exact gap3_sorted hu.1.1 hu.2.1 (by omega) hr hpm (by omega) (by omega)
theorem srt_small {xs : List Int} {a b : Int} (h : ∀ x ∈ xs, a ≤ x ∧ x ≤ b) {i : Nat} (hi : i < xs.length) : a ≤ (srt xs).getD i 0 ∧ (srt xs).getD i 0 ≤ b := by
  have hi' : i < (srt xs).length := by rw [srt_len]; exact hi
  have : (srt xs).getD i 0 ∈ srt xs := by rw [List.getD_eq_getElem?_getD, List.getElem?_eq_getElem hi']; exact List.getElem_mem hi'
  exact h _ (srt_mem.1 this)

theorem strict_ext : ∀ (l1 l2 : List Int), l1.Pairwise (· < ·) → l2.Pairwise (· < ·) → (∀ x, x ∈ l1 ↔ x ∈ l2) → l1 = l2
  | [], [], _, _, _ => rfl
  | [], b :: t2, _, _, h => by have := (h b).2 (by simp); simp at this
  | a :: t1, [], _, _, h => by have := (h a).1 (by simp); simp at this
  | a :: t1, b :: t2, h1, h2, h => by
    rw [List.pairwise_cons] at h1 h2
    have ha := (h a).1 (by simp)
    have hb := (h b).2 (by simp)
    have hab : a = b := by
      rcases List.mem_cons.1 ha with e | e
      · exact e
      · rcases List.mem_cons.1 hb with e2 | e2
        · exact e2.symm
        · have := h2.1 a e; have := h1.1 b e2; omega
    subst hab
    congr 1
    refine strict_ext t1 t2 h1.2 h2.2 fun x => ?_
    constructor
    · intro hx
      have := h1.1 x hx
      rcases List.mem_cons.1 ((h x).1 (by simp [hx])) with e | e
      · omega
      · exact e
    · intro hx
      have := h2.1 x hx
      rcases List.mem_cons.1 ((h x).2 (by simp [hx])) with e | e
      · omega
      · exact e

/-- What is left of an ascending list ascends, and nothing is lost. -/
theorem compactUp {xs : List Int} (hu : xs.Pairwise (· ≤ ·)) : ∀ m, m ≤ xs.length →
    (Lib.compactUpTo xs.toArray m).Pairwise (· < ·) ∧ (∀ x, x ∈ Lib.compactUpTo xs.toArray m ↔ ∃ i, i < m ∧ xs.getD i 0 = x)
  | 0, _ => ⟨by simp [Lib.compactUpTo], fun x => by simp [Lib.compactUpTo]⟩
  | m + 1, hm => by
    obtain ⟨i1, i2⟩ := compactUp hu m (by omega)
    have hg : ∀ i, i < xs.length → xs.toArray[i]! = xs.getD i 0 := fun i hi => by
      rw [getElem!_pos xs.toArray i (by simpa using hi)]; simp [hi]
    have hle : ∀ i j, i ≤ j → j < xs.length → xs.getD i 0 ≤ xs.getD j 0 := fun i j hij hj => by
      rcases Nat.lt_or_ge i j with h | h
      · have := List.pairwise_iff_getElem.1 hu i j (by omega) hj h
        simpa [List.getElem?_eq_getElem hj, List.getElem?_eq_getElem (show i < xs.length by omega)] using this
      · obtain rfl : i = j := by omega
        exact Int.le_refl _
    rw [Lib.compactUpTo_succ]
    by_cases hk : Lib.keeps xs.toArray m = true
    · rw [if_pos hk, hg m (by omega)]
      refine ⟨?_, fun x => ?_⟩
      · rw [List.pairwise_append]
        refine ⟨i1, List.pairwise_singleton _ _, fun a ha b hb => ?_⟩
        rw [List.mem_singleton] at hb
        subst hb
        obtain ⟨i, hi, rfl⟩ := (i2 a).1 ha
        have h1 := hle i (m - 1) (by omega) (by omega)
        have h2 := hle (m - 1) m (by omega) (by omega)
        have h3 : xs.getD m 0 ≠ xs.getD (m - 1) 0 := by
          simp only [Lib.keeps, decide_eq_true_eq] at hk
          rcases hk with h | h
          · omega
          · rw [hg m (by omega), hg (m - 1) (by omega)] at h; exact h
        omega
      · rw [List.mem_append, i2, List.mem_singleton]
        constructor
        · rintro (⟨i, hi, e⟩ | e)
          · exact ⟨i, by omega, e⟩
          · exact ⟨m, by omega, e.symm⟩
        · rintro ⟨i, hi, e⟩
          rcases Nat.lt_or_ge i m with h | h
          · exact .inl ⟨i, h, e⟩
          · obtain rfl : i = m := by omega
            exact .inr e.symm
    · rw [if_neg hk, List.append_nil]
      refine ⟨i1, fun x => ?_⟩
      rw [i2]
      have hm0 : m ≠ 0 := fun e => hk (by simp [Lib.keeps, e])
      have heq : xs.getD m 0 = xs.getD (m - 1) 0 := by
        refine Classical.byContradiction fun h => hk ?_
        simp only [Lib.keeps, decide_eq_true_eq]
        right
        rw [hg m (by omega), hg (m - 1) (by omega)]; exact h
      constructor
      · rintro ⟨i, hi, e⟩; exact ⟨i, by omega, e⟩
      · rintro ⟨i, hi, e⟩
        rcases Nat.lt_or_ge i m with h | h
        · exact ⟨i, h, e⟩
        · obtain rfl : i = m := by omega
          exact ⟨i - 1, by omega, by rw [← heq]; exact e⟩
theorem compact_srt {xs : List Int} : (Lib.compact (srt xs)).Pairwise (· < ·) ∧ ∀ x, x ∈ Lib.compact (srt xs) ↔ x ∈ xs := by
  obtain ⟨h1, h2⟩ := compactUp (@srt_up xs) _ (Nat.le_refl _)
  refine ⟨h1, fun x => (h2 x).trans ?_⟩
  rw [← srt_mem (xs := xs), List.mem_iff_getElem]
  constructor
  · rintro ⟨i, hi, e⟩; exact ⟨i, hi, by rw [← e]; simp [hi]⟩
  · rintro ⟨i, hi, e⟩; exact ⟨i, hi, by rw [← e]; simp [hi]⟩
theorem pickN_up {c : Nat → Bool} {n : Nat} : (pickN c n).Pairwise (· < ·) := by
  unfold pickN
  rw [List.pairwise_map]
  refine List.Pairwise.imp ?_ (List.Pairwise.sublist List.filter_sublist List.pairwise_lt_range)
  intro a b h; omega
/-- What is ascending, once each, and has these members. -/
theorem compact_pick {xs : List Int} {c : Nat → Bool} {n : Nat} (h : ∀ x, x ∈ xs ↔ ∃ k : Nat, x = (k : Int) ∧ k < n ∧ c k = true) : Lib.compact (srt xs) = pickN c n :=
  strict_ext _ _ compact_srt.1 pickN_up fun x => by rw [compact_srt.2, h, mem_pickN]
theorem lots_compact {d : List (List Int)} {far : Int} (h : IsFar d) (h0 : 0 ≤ far) : Lib.compact (srt (lotsL d far d.length)) = pickN (fixC d far) d.length := by
  refine compact_pick fun x => ?_
  constructor
  · intro hx
    obtain ⟨i, hi, rfl⟩ := List.mem_iff_getElem.1 hx
    rw [lotsL_len] at hi
    have hl := lot_le h h0 hi
    refine ⟨lotN d far i, ?_, by omega, ?_⟩
    · have := lotsL_get (d := d) (far := far) hi
      simpa [lotsL_len, hi] using this
    · simp only [fixC, decide_eq_true_eq]; exact lot_lot h h0 hi
  · rintro ⟨k, rfl, hk, hc⟩
    simp only [fixC, decide_eq_true_eq] at hc
    rw [lotsL, List.mem_map]
    exact ⟨k, List.mem_range.2 hk, by rw [hc]⟩

/-- All distances of two different points, row by row. -/
def stepL (x : List (List Int)) : Nat → List Int
  | 0 => []
  | i + 1 => stepL x i ++ (x.getD i []).drop (i + 1)
theorem mem_stepL {x : List (List Int)} {n : Nat} (hsq : ∀ i, i < n → (x.getD i []).length = n) {v : Int} : ∀ m, m ≤ n → (v ∈ stepL x m ↔ ∃ i k, i < m ∧ i < k ∧ k < n ∧ at2 x i k = v)
  | 0, _ => by simp [stepL]
  | m + 1, hm => by
    have ih := mem_stepL hsq (v := v) m (by omega)
    simp only [stepL, List.mem_append, ih]
    constructor
    · rintro (⟨i, k, h1, h2, h3, h4⟩ | h)
      · exact ⟨i, k, by omega, h2, h3, h4⟩
      · obtain ⟨j, hj, e⟩ := List.mem_iff_getElem.1 h
        rw [List.length_drop, hsq m (by omega)] at hj
        refine ⟨m, m + 1 + j, by omega, by omega, by omega, ?_⟩
        rw [← e, List.getElem_drop]
        unfold at2
        rw [List.getD_eq_getElem?_getD (l := x.getD m []), List.getElem?_eq_getElem (by rw [hsq m (by omega)]; omega)]
        rfl
    · rintro ⟨i, k, h1, h2, h3, h4⟩
      rcases Nat.lt_or_ge i m with h5 | h5
      · exact .inl ⟨i, k, h5, h2, h3, h4⟩
      · obtain rfl : i = m := by omega
        right
        rw [List.mem_iff_getElem]
        have hl := hsq i (by omega)
        refine ⟨k - (i + 1), by rw [List.length_drop, hl]; omega, ?_⟩
        rw [List.getElem_drop, ← h4]
        unfold at2
        rw [List.getD_eq_getElem?_getD (l := x.getD i []), List.getElem?_eq_getElem (by rw [hl]; omega)]
        simp only [Option.getD_some]
        congr 1
        omega
theorem stepL_len {x : List (List Int)} {n : Nat} (hsq : ∀ i, i < n → (x.getD i []).length = n) : ∀ m, m ≤ n → (stepL x m).length ≤ n * m
  | 0, _ => by simp [stepL]
  | m + 1, hm => by
    have ih := stepL_len hsq m (by omega)
    simp only [stepL, List.length_append, List.length_drop]
    rw [hsq m (by omega), Nat.mul_add, Nat.mul_one]
    omega
theorem steps_compact {d : List (List Int)} (h : IsFar d) : Lib.compact (srt (stepL (belowV d) d.length)) = stepsV d := by
  rw [stepsV_yes h]
  have hl := below_len h
  have hU := (below_ultra h).1.1
  refine compact_pick fun x => ?_
  rw [mem_stepL (n := d.length) (fun i hi => by rw [hU.sq i (by omega), hl]) _ (Nat.le_refl _)]
  constructor
  · rintro ⟨i, k, h1, h2, h3, rfl⟩
    have s := below_sym h h1 h3
    refine ⟨(at2 (belowV d) i k).toNat, by omega, by omega, stepB_iff.2 ⟨k, i, h2, h3, ?_⟩⟩
    rw [← s.1]; omega
  · rintro ⟨n, rfl, hn, hc⟩
    obtain ⟨k, j, h1, h2, h3⟩ := stepB_iff.1 hc
    exact ⟨j, k, by omega, h1, h2, by rw [(below_sym h (show j < d.length by omega) h2).1]; exact h3⟩
end Go.Mill

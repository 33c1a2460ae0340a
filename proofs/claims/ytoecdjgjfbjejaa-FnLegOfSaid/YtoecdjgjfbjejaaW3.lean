/- Walks: points, the farthest, the width, the radius. -/
import Derived.Test.YtoecdjgjfbjejaaW1
namespace Go.Proofs.Ytoecdjgjfbjejaa
open Go Go.Mill
set_option maxRecDepth 100000
set_option linter.unusedSimpArgs false
set_option linter.unusedVariables false

theorem hasPoint_c (S : Store) (v : Value) (r : Nat → Value) (d : List (List Int)) (hM : Mat S v r d) (hd : d.length ≤ maxLen) (x : Int) (hx : -9223372036854775808 ≤ x ∧ x ≤ 9223372036854775807) :
    ACalls Try.prog 77 [v, .int .i64 x] S (Ret S (.bool (hasB d x))) := by
  refine ACalls.intro (ts := [4]) 17 follows Try.func77 rfl (by kernel_rfl) (by kernel_rfl) (by simp) ?_
  have hsl := hM.sl
  have hlen := hM.len
  simp only [go_sem, ↓reduceIte, Nat.reduceEqDiff, argEnv, hsl, hlen]
  refine callK.intro (by kernel_rfl) (isSpace_c S v r d hM hd) ?_
  rintro _ _ ⟨rfl, rfl⟩
  simp only [go_sem, ↓reduceIte, Nat.reduceEqDiff]
  cases hF : spaceB d with
  | false =>
    simp only [go_sem, ↓reduceIte, Nat.reduceEqDiff]
    exact Ret.bool (hasB_no fun h => spaceB_not hF h.1).symm
  | true =>
    have hF := spaceB_is hF
    simp only [go_sem, ↓reduceIte, Nat.reduceEqDiff]
    repeat' (first | (refine gK_dec (fun p h => ?_) (fun p h => ?_) <;> simp only [go_sem, ↓reduceIte, Nat.reduceEqDiff, h, hsl, hlen]) | (refine condK_dec (fun p h => ?_) (fun p h => ?_) <;> simp only [go_sem, ↓reduceIte, Nat.reduceEqDiff, h, hsl, hlen]) | (refine gQ_dec (fun p h => ?_) (fun p h => ?_) <;> simp only [go_sem, ↓reduceIte, Nat.reduceEqDiff, h, hsl, hlen]) | (refine gQC_dec (fun p h => ?_) (fun p h => ?_) <;> simp only [go_sem, ↓reduceIte, Nat.reduceEqDiff, h, hsl, hlen]))
    · by_cases h2 : x < d.length
      · exact Ret.bool (by rw [hasB_yes ⟨hF, by omega, h2⟩]; exact decide_eq_true h2)
      · exact Ret.bool (by rw [hasB_no fun h => h2 h.2.2]; exact decide_eq_false h2)
    · exact Ret.bool (hasB_no fun h => by have := h.2; omega).symm

theorem Max_c (S : Store) (v : Value) (xs : List Int) (hI : Ints S v xs) (h0 : 0 < xs.length) (hx : xs.length ≤ maxLen) :
    ACalls Try.prog 75 [v] S (Ret S (.int .i64 (top (fun j => xs.getD j 0) (xs.getD 0 0) xs.length))) := by
  refine ACalls.intro (ts := [2]) 25 follows Try.func75 rfl (by kernel_rfl) (by kernel_rfl) (by simp) ?_
  have hsl := hI.sl
  have hlen := hI.len
  have hN : xs.length ≤ 9223372036854775807 := hx
  simp only [go_sem, ↓reduceIte, Nat.reduceEqDiff, argEnv, hsl, hlen]
  repeat' (first | (refine gK_dec (fun p h => ?_) (fun p h => ?_) <;> simp only [go_sem, ↓reduceIte, Nat.reduceEqDiff, h, hsl, hlen, h0, ixK_zero, hI.get]) | (refine condK_dec (fun p h => ?_) (fun p h => ?_) <;> simp only [go_sem, ↓reduceIte, Nat.reduceEqDiff, h, hsl, hlen, h0, ixK_zero, hI.get]) | (refine gQ_dec (fun p h => ?_) (fun p h => ?_) <;> simp only [go_sem, ↓reduceIte, Nat.reduceEqDiff, h, hsl, hlen, h0, ixK_zero, hI.get]) | (refine gQC_dec (fun p h => ?_) (fun p h => ?_) <;> simp only [go_sem, ↓reduceIte, Nat.reduceEqDiff, h, hsl, hlen, h0, ixK_zero, hI.get]))
  · omega
  refine aw_count 4 [0] (fun (y : Int) => [(3, .int .i64 y)]) (1) (xs.length) (fun i y SS => S = SS ∧ (y = top (fun j => xs.getD j 0) (xs.getD 0 0) i)) (xs.getD 0 0) ?_ ?_ ?_ ?_
  · simp only [go_sem, ↓reduceIte, Nat.reduceEqDiff, and_self, and_true, true_and, Int.ofNat_zero, Int.ofNat_one, Int.cast_ofNat_Int, hsl, hlen, h0, ixK_zero, hI.get]
  · omega
  · (refine ⟨rfl, ?_⟩; first | trivial | rfl | ((repeat' apply And.intro) <;> first | rfl | trivial | omega | (intros; omega) | simp [top]))
  rintro i y _ hi0 hi ⟨rfl, hy⟩
  simp only [go_sem, ↓reduceIte, Nat.reduceEqDiff, hsl, hlen, h0, ixK_zero, hI.get]
  refine condK_lt hi (fun hi => ?_) (fun he => ?_)
  · simp only [go_sem, ↓reduceIte, Nat.reduceEqDiff, hsl, hlen, hi, hI.get]
    refine forK_step (max y (xs.getD i 0)) hi hi0 ?_ ?_
    · have hib := Nat.lt_of_lt_of_le hi hN; simp only [go_sem, ↓reduceIte, Nat.reduceEqDiff, and_self, and_true, true_and, Int.ofNat_zero, Int.ofNat_one, Int.cast_ofNat_Int, wrap_succ hib]
    exact ⟨rfl, by rw [hy]; rfl⟩
  · subst he
    simp only [go_sem, ↓reduceIte, Nat.reduceEqDiff]
    exact Ret.int hy

theorem iFarthestFrom_c (S : Store) (v : Value) (r : Nat → Value) (d : List (List Int)) (hM : Mat S v r d) (hd : d.length ≤ maxLen) (x : Int) (hx : -9223372036854775808 ≤ x ∧ x ≤ 9223372036854775807) :
    ACalls Try.prog 23 [v, .int .i64 x] S (Ret S (.int .i64 (farV d x))) := by
  refine ACalls.intro (ts := [4]) 14 follows Try.func23 rfl (by kernel_rfl) (by kernel_rfl) (by simp) ?_
  have hsl := hM.sl
  have hlen := hM.len
  simp only [go_sem, ↓reduceIte, Nat.reduceEqDiff, argEnv, hsl, hlen]
  refine callK.intro (by kernel_rfl) (hasPoint_c S v r d hM hd x hx) ?_
  rintro _ _ ⟨rfl, rfl⟩
  simp only [go_sem, ↓reduceIte, Nat.reduceEqDiff]
  cases hP : hasB d x with
  | false =>
    simp only [go_sem, ↓reduceIte, Nat.reduceEqDiff]
    exact Ret.int (farV_no (hasB_not hP)).symm
  | true =>
    have hP := hasB_is hP
    obtain ⟨n, rfl⟩ := Int.eq_ofNat_of_zero_le hP.2.1
    have hn : n < d.length := by have := hP.2.2; omega
    have hq := hP.1.1.sq n hn
    simp only [go_sem, ↓reduceIte, Nat.reduceEqDiff, hsl, hlen, hn, hM.get]
    refine callK.intro (by kernel_rfl) (Max_c _ _ _ (hM.row n hn) (by rw [hq]; omega) (by rw [hq]; exact hd)) ?_
    rintro _ _ ⟨rfl, rfl⟩
    simp only [go_sem, ↓reduceIte, Nat.reduceEqDiff]
    exact Ret.int (by rw [hq, row_top hP.1 hn, farV_nat hP.1 hn])

theorem sFarthestFrom_c (S : Store) (v : Value) (r : Nat → Value) (d : List (List Int)) (hM : Mat S v r d) (hd : d.length ≤ maxLen) (x : Int) (hx : -9223372036854775808 ≤ x ∧ x ≤ 9223372036854775807) :
    ACalls Try.prog 24 [v, .int .i64 x] S (Ret S (.int .i64 (farV d x))) := by
  refine ACalls.intro (ts := [4]) 34 follows Try.func24 rfl (by kernel_rfl) (by kernel_rfl) (by simp) ?_
  have hsl := hM.sl
  have hlen := hM.len
  have hN : d.length ≤ 9223372036854775807 := hd
  simp only [go_sem, ↓reduceIte, Nat.reduceEqDiff, argEnv, hsl, hlen]
  refine callK.intro (by kernel_rfl) (sSpaceOk_c S v r d hM hd) ?_
  rintro _ _ ⟨rfl, rfl⟩
  simp only [go_sem, ↓reduceIte, Nat.reduceEqDiff]
  cases hF : spaceB d with
  | false =>
    simp only [go_sem, ↓reduceIte, Nat.reduceEqDiff]
    exact Ret.int (farV_no fun h => spaceB_not hF h.1).symm
  | true =>
    have hF := spaceB_is hF
    have hw : IntKind.i64.wrap ((d.length : Int) - 1) = d.length - 1 := wrap64 (by omega)
    simp only [go_sem, ↓reduceIte, Nat.reduceEqDiff, hsl, hlen, hw]
    refine callK.intro (by kernel_rfl) (l1In_c _ _ _ _) ?_
    rintro _ _ ⟨rfl, rfl⟩
    simp only [go_sem, ↓reduceIte, Nat.reduceEqDiff]
    repeat' (first | (refine gK_dec (fun p h => ?_) (fun p h => ?_) <;> simp only [go_sem, ↓reduceIte, Nat.reduceEqDiff, h]) | (refine condK_dec (fun p h => ?_) (fun p h => ?_) <;> simp only [go_sem, ↓reduceIte, Nat.reduceEqDiff, h]) | (refine gQ_dec (fun p h => ?_) (fun p h => ?_) <;> simp only [go_sem, ↓reduceIte, Nat.reduceEqDiff, h]) | (refine gQC_dec (fun p h => ?_) (fun p h => ?_) <;> simp only [go_sem, ↓reduceIte, Nat.reduceEqDiff, h]))
    · exact Ret.int (farV_no fun h => by have := h.2; omega).symm
    obtain ⟨n, rfl⟩ := Int.eq_ofNat_of_zero_le (show 0 ≤ x by omega)
    have hn : n < d.length := by omega
    have hrl := hM.sqlen hF.1.sq
    have hcl := hM.sqcell hF.1.sq
    refine aw_count 6 [0, 1] (fun (y : Int) => [(5, .int .i64 y)]) (0) (d.length) (fun i y SS => S = SS ∧ (y = top (at2 d n) 0 i)) (0) ?_ ?_ ?_ ?_
    · simp only [go_sem, ↓reduceIte, Nat.reduceEqDiff, and_self, and_true, true_and, Int.ofNat_zero, Int.ofNat_one, Int.cast_ofNat_Int, hsl, hlen]
    · omega
    · (refine ⟨rfl, ?_⟩; first | trivial | rfl | ((repeat' apply And.intro) <;> first | rfl | trivial | omega | (intros; omega) | simp [top]))
    rintro i y _ hi0 hi ⟨rfl, hy⟩
    simp only [go_sem, ↓reduceIte, Nat.reduceEqDiff, hsl, hlen]
    refine condK_lt hi (fun hi => ?_) (fun he => ?_)
    · simp only [go_sem, ↓reduceIte, Nat.reduceEqDiff, hsl, hlen, hi, hn, hM.get, hM.rsl, hrl, hcl]
      refine forK_step (max y (at2 d n i)) hi hi0 ?_ ?_
      · have hib := Nat.lt_of_lt_of_le hi hN; simp only [go_sem, ↓reduceIte, Nat.reduceEqDiff, and_self, and_true, true_and, Int.ofNat_zero, Int.ofNat_one, Int.cast_ofNat_Int, wrap_succ hib]
      exact ⟨rfl, by rw [hy]; rfl⟩
    · subst he
      simp only [go_sem, ↓reduceIte, Nat.reduceEqDiff]
      exact Ret.int (by rw [farV_nat hF hn, hy])

theorem iWidthOf_c (S : Store) (v : Value) (r : Nat → Value) (d : List (List Int)) (hM : Mat S v r d) (hd : d.length ≤ maxLen) :
    ACalls Try.prog 19 [v] S (Ret S (.int .i64 (widthV d))) := by
  refine ACalls.intro (ts := [2]) 21 follows Try.func19 rfl (by kernel_rfl) (by kernel_rfl) (by simp) ?_
  have hsl := hM.sl
  have hlen := hM.len
  have hN : d.length ≤ 9223372036854775807 := hd
  simp only [go_sem, ↓reduceIte, Nat.reduceEqDiff, argEnv, hsl, hlen]
  refine callK.intro (by kernel_rfl) (isSpace_c S v r d hM hd) ?_
  rintro _ _ ⟨rfl, rfl⟩
  simp only [go_sem, ↓reduceIte, Nat.reduceEqDiff]
  cases hF : spaceB d with
  | false =>
    simp only [go_sem, ↓reduceIte, Nat.reduceEqDiff]
    exact Ret.int (by simp [widthV, hF])
  | true =>
    have hS := spaceB_is hF
    simp only [go_sem, ↓reduceIte, Nat.reduceEqDiff, hsl, hlen]
    refine aw_count 11 [9, 10] (fun (y : Int) => [(3, .int .i64 y)]) (0) (d.length) (fun i y SS => S = SS ∧ (y = top (fun k => farV d k) 0 i)) (0) ?_ ?_ ?_ ?_
    · simp only [go_sem, ↓reduceIte, Nat.reduceEqDiff, and_self, and_true, true_and, Int.ofNat_zero, Int.ofNat_one, Int.cast_ofNat_Int, hsl, hlen]
    · omega
    · (refine ⟨rfl, ?_⟩; first | trivial | rfl | ((repeat' apply And.intro) <;> first | rfl | trivial | omega | (intros; omega) | simp [top]))
    rintro i y _ hi0 hi ⟨rfl, hy⟩
    simp only [go_sem, ↓reduceIte, Nat.reduceEqDiff, hsl, hlen]
    refine condK_lt hi (fun hi => ?_) (fun he => ?_)
    · have hq := hS.1.sq i hi
      simp only [go_sem, ↓reduceIte, Nat.reduceEqDiff, hsl, hlen, hi, hM.get]
      have hv : top (fun j => (d.getD i []).getD j 0) ((d.getD i []).getD 0 0) (d.getD i []).length = farV d i := by rw [hq, row_top hS hi, farV_nat hS hi]
      refine callK.intro (by kernel_rfl) (Max_c _ _ _ (hM.row i hi) (by rw [hq]; omega) (by rw [hq]; exact hd)) ?_
      rintro _ _ ⟨rfl, rfl⟩
      simp only [go_sem, ↓reduceIte, Nat.reduceEqDiff, hv]
      refine forK_step (max y (farV d i)) hi hi0 ?_ ?_
      · have hib := Nat.lt_of_lt_of_le hi hN; simp only [go_sem, ↓reduceIte, Nat.reduceEqDiff, and_self, and_true, true_and, Int.ofNat_zero, Int.ofNat_one, Int.cast_ofNat_Int, wrap_succ hib]
      exact ⟨rfl, by rw [hy]; rfl⟩
    · subst he
      simp only [go_sem, ↓reduceIte, Nat.reduceEqDiff]
      exact Ret.int (by simp [widthV, hF, hy])

theorem sWidthOf_c (S : Store) (v : Value) (r : Nat → Value) (d : List (List Int)) (hM : Mat S v r d) (hd : d.length ≤ maxLen) :
    ACalls Try.prog 20 [v] S (Ret S (.int .i64 (widthV d))) := by
  refine ACalls.intro (ts := [2]) 17 follows Try.func20 rfl (by kernel_rfl) (by kernel_rfl) (by simp) ?_
  have hsl := hM.sl
  have hlen := hM.len
  have hN : d.length ≤ 9223372036854775807 := hd
  simp only [go_sem, ↓reduceIte, Nat.reduceEqDiff, argEnv, hsl, hlen]
  refine aw_count 4 [0] (fun (y : Int) => [(3, .int .i64 y)]) (0) (d.length) (fun i y SS => S = SS ∧ (y = top (fun k => farV d k) (-1) i)) (-1) ?_ ?_ ?_ ?_
  · simp only [go_sem, ↓reduceIte, Nat.reduceEqDiff, and_self, and_true, true_and, Int.ofNat_zero, Int.ofNat_one, Int.cast_ofNat_Int, hsl, hlen]
  · omega
  · (refine ⟨rfl, ?_⟩; first | trivial | rfl | ((repeat' apply And.intro) <;> first | rfl | trivial | omega | (intros; omega) | simp [top]))
  rintro i y _ hi0 hi ⟨rfl, hy⟩
  simp only [go_sem, ↓reduceIte, Nat.reduceEqDiff, hsl, hlen]
  refine condK_lt hi (fun hi => ?_) (fun he => ?_)
  · simp only [go_sem, ↓reduceIte, Nat.reduceEqDiff, hsl, hlen, hi]
    refine callK.intro (by kernel_rfl) (sFarthestFrom_c S v r d hM hd i (by omega)) ?_
    rintro _ _ ⟨rfl, rfl⟩
    simp only [go_sem, ↓reduceIte, Nat.reduceEqDiff]
    refine forK_step (max y (farV d i)) hi hi0 ?_ ?_
    · have hib := Nat.lt_of_lt_of_le hi hN; simp only [go_sem, ↓reduceIte, Nat.reduceEqDiff, and_self, and_true, true_and, Int.ofNat_zero, Int.ofNat_one, Int.cast_ofNat_Int, wrap_succ hib]
    exact ⟨rfl, by rw [hy]; rfl⟩
  · subst he
    simp only [go_sem, ↓reduceIte, Nat.reduceEqDiff]
    refine Ret.int ?_
    rw [hy]
    unfold widthV
    cases hF : spaceB d with
    | false =>
      simp only [Bool.false_eq_true, ↓reduceIte]
      exact top_is (Int.le_refl _) (fun j hj => by rw [farV_no fun h => spaceB_not hF h.1]; exact Int.le_refl _) (.inl rfl)
    | true =>
      have hS := spaceB_is hF
      simp only [↓reduceIte]
      have h0 : (0 : Nat) < d.length := hS.1.1
      have : 0 ≤ farV d ((0 : Nat) : Int) := by rw [farV_nat hS h0]; exact top_z
      exact top_from h0 (by omega) this
end Go.Proofs.Ytoecdjgjfbjejaa

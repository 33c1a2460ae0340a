/- Walks: distances and spaces. -/
import Derived.Test.YtodeldmkpogakaaW0
import Derived.Test.YtodeldmkpogakaaPure
namespace Go.Proofs.Ytodeldmkpogakaa
open Go Go.Mill
set_option maxRecDepth 100000
set_option linter.unusedSimpArgs false
set_option linter.unusedVariables false

theorem l1In_c (S : Store) (n a b : Int) : ACalls Try.prog 64 [.int .i64 n, .int .i64 a, .int .i64 b] S (Ret S (.bool (decide (a ≤ n ∧ n ≤ b)))) := by
  refine ACalls.intro (ts := [6]) 15 follows Try.func64 rfl (by kernel_rfl) (by kernel_rfl) (by simp) ?_
  simp only [go_sem, ↓reduceIte, Nat.reduceEqDiff, argEnv]
  repeat' (first | (refine gK_dec (fun p h => ?_) (fun p h => ?_) <;> simp only [go_sem, ↓reduceIte, Nat.reduceEqDiff, h]) | (refine condK_dec (fun p h => ?_) (fun p h => ?_) <;> simp only [go_sem, ↓reduceIte, Nat.reduceEqDiff, h]) | (refine gQ_dec (fun p h => ?_) (fun p h => ?_) <;> simp only [go_sem, ↓reduceIte, Nat.reduceEqDiff, h]) | (refine gQC_dec (fun p h => ?_) (fun p h => ?_) <;> simp only [go_sem, ↓reduceIte, Nat.reduceEqDiff, h]))
  · exact Ret.bool (by simp only [decide_eq_decide]; omega)
  · exact Ret.bool (by symm; simp only [decide_eq_false_iff_not]; omega)

theorem areFar_c (S : Store) (v : Value) (r : Nat → Value) (d : List (List Int)) (hM : Mat S v r d) (hd : d.length ≤ maxLen) :
    ACalls Try.prog 49 [v] S (Ret S (.bool (farB d))) := by
  refine ACalls.intro (ts := [2]) 70 follows Try.func49 rfl (by kernel_rfl) (by kernel_rfl) (by simp) ?_
  have hsl := hM.sl
  have hlen := hM.len
  have hN : d.length ≤ 9223372036854775807 := hd
  simp only [go_sem, ↓reduceIte, Nat.reduceEqDiff, argEnv, hsl, hlen]
  repeat' (first | (refine gK_dec (fun p h => ?_) (fun p h => ?_) <;> simp only [go_sem, ↓reduceIte, Nat.reduceEqDiff, h, hsl, hlen]) | (refine condK_dec (fun p h => ?_) (fun p h => ?_) <;> simp only [go_sem, ↓reduceIte, Nat.reduceEqDiff, h, hsl, hlen]) | (refine gQ_dec (fun p h => ?_) (fun p h => ?_) <;> simp only [go_sem, ↓reduceIte, Nat.reduceEqDiff, h, hsl, hlen]) | (refine gQC_dec (fun p h => ?_) (fun p h => ?_) <;> simp only [go_sem, ↓reduceIte, Nat.reduceEqDiff, h, hsl, hlen]))
  · exact Ret.bool (farB_no fun hF => by have := hF.1; omega).symm
  · exact Ret.bool (farB_no fun hF => by have := hF.2.1; omega).symm
  refine aw_count 19 [0, 17, 18] (fun (_ : Unit) => []) (0) (d.length) (fun i _ SS => S = SS ∧ (∀ j, j < i → (d.getD j []).length = d.length)) (()) ?_ ?_ ?_ ?_
  · simp only [go_sem, ↓reduceIte, Nat.reduceEqDiff, and_self, and_true, true_and, Int.ofNat_zero, Int.ofNat_one, Int.cast_ofNat_Int, hsl, hlen]
  · omega
  · (refine ⟨rfl, ?_⟩; first | trivial | rfl | ((repeat' apply And.intro) <;> first | rfl | trivial | omega | (intros; omega) | simp [top]))
  rintro i _ _ hi0 hi ⟨rfl, hrow⟩
  simp only [go_sem, ↓reduceIte, Nat.reduceEqDiff, hsl, hlen]
  refine condK_lt hi (fun hi => ?_) (fun he => ?_)
  · simp only [go_sem, ↓reduceIte, Nat.reduceEqDiff, hlen, hi, hM.get, hsl, hM.rsl, hM.rlen]
    repeat' (first | (refine gK_dec (fun p h => ?_) (fun p h => ?_) <;> simp only [go_sem, ↓reduceIte, Nat.reduceEqDiff, h, hlen]) | (refine condK_dec (fun p h => ?_) (fun p h => ?_) <;> simp only [go_sem, ↓reduceIte, Nat.reduceEqDiff, h, hlen]) | (refine gQ_dec (fun p h => ?_) (fun p h => ?_) <;> simp only [go_sem, ↓reduceIte, Nat.reduceEqDiff, h, hlen]) | (refine gQC_dec (fun p h => ?_) (fun p h => ?_) <;> simp only [go_sem, ↓reduceIte, Nat.reduceEqDiff, h, hlen]))
    · exact Ret.bool (farB_no fun hF => by have := hF.2.2.1 i hi; omega).symm
    refine forK_step (()) hi hi0 ?_ ?_
    · have hib := Nat.lt_of_lt_of_le hi hN; simp only [go_sem, ↓reduceIte, Nat.reduceEqDiff, and_self, and_true, true_and, Int.ofNat_zero, Int.ofNat_one, Int.cast_ofNat_Int, wrap_succ hib]
    exact ⟨rfl, fun j hj => by
      rcases Nat.lt_or_ge j i with h | h
      · exact hrow j h
      · obtain rfl : j = i := by omega
        omega⟩
  subst he
  simp only [go_sem, ↓reduceIte, Nat.reduceEqDiff, hlen, hsl]
  have hrl := hM.sqlen hrow
  have hcl := hM.sqcell hrow
  refine aw_count 31 [0, 29, 30] (fun (_ : Unit) => []) (0) (d.length) (fun i _ SS => S = SS ∧ (∀ j k, j < i → k < d.length → at2 d j k = at2 d k j ∧ 0 ≤ at2 d j k ∧ at2 d j k ≤ 60 ∧ (at2 d j k = 0 ↔ j = k))) (()) ?_ ?_ ?_ ?_
  · simp only [go_sem, ↓reduceIte, Nat.reduceEqDiff, and_self, and_true, true_and, Int.ofNat_zero, Int.ofNat_one, Int.cast_ofNat_Int, hsl, hlen]
  · omega
  · (refine ⟨rfl, ?_⟩; first | trivial | rfl | ((repeat' apply And.intro) <;> first | rfl | trivial | omega | (intros; omega) | simp [top]))
  rintro i _ _ hi0 hi ⟨rfl, hgood⟩
  simp only [go_sem, ↓reduceIte, Nat.reduceEqDiff, hsl, hlen]
  refine condK_lt hi (fun hi => ?_) (fun he => ?_)
  · simp only [go_sem, ↓reduceIte, Nat.reduceEqDiff, hlen, hi, hM.get, hsl, hM.rsl, hrl]
    refine aw_count 38 [0, 5, 29, 30, 31, 36, 37] (fun (_ : Unit) => []) (0) (d.length) (fun k _ SS => S = SS ∧ (∀ j, j < k → at2 d i j = at2 d j i ∧ 0 ≤ at2 d i j ∧ at2 d i j ≤ 60 ∧ (at2 d i j = 0 ↔ i = j))) (()) ?_ ?_ ?_ ?_
    · simp only [go_sem, ↓reduceIte, Nat.reduceEqDiff, and_self, and_true, true_and, Int.ofNat_zero, Int.ofNat_one, Int.cast_ofNat_Int, hsl, hlen]
    · omega
    · (refine ⟨rfl, ?_⟩; first | trivial | rfl | ((repeat' apply And.intro) <;> first | rfl | trivial | omega | (intros; omega) | simp [top]))
    rintro k _ _ hk0 hk ⟨rfl, hg2⟩
    simp only [go_sem, ↓reduceIte, Nat.reduceEqDiff, hsl, hlen]
    refine condK_lt hk (fun hk => ?_) (fun he => ?_)
    · simp only [go_sem, ↓reduceIte, Nat.reduceEqDiff, hlen, hi, hk, hM.get, hsl, hM.rsl, hrl, hcl]
      repeat' (first | (refine gK_dec (fun p h => ?_) (fun p h => ?_) <;> simp only [go_sem, ↓reduceIte, Nat.reduceEqDiff, h, hlen, hi, hk, hM.get, hsl, hM.rsl, hrl, hcl, Try.underlying4]) | (refine condK_dec (fun p h => ?_) (fun p h => ?_) <;> simp only [go_sem, ↓reduceIte, Nat.reduceEqDiff, h, hlen, hi, hk, hM.get, hsl, hM.rsl, hrl, hcl, Try.underlying4]) | (refine gQ_dec (fun p h => ?_) (fun p h => ?_) <;> simp only [go_sem, ↓reduceIte, Nat.reduceEqDiff, h, hlen, hi, hk, hM.get, hsl, hM.rsl, hrl, hcl, Try.underlying4]) | (refine gQC_dec (fun p h => ?_) (fun p h => ?_) <;> simp only [go_sem, ↓reduceIte, Nat.reduceEqDiff, h, hlen, hi, hk, hM.get, hsl, hM.rsl, hrl, hcl, Try.underlying4]))
      · exact Ret.bool (farB_no fun hF => by have := hF.2.2.2 i k hi hk; omega).symm
      · exact Ret.bool (farB_no fun hF => by have := hF.2.2.2 i k hi hk; omega).symm
      · exact Ret.bool (farB_no fun hF => by have := hF.2.2.2 i k hi hk; omega).symm
      · exact Ret.bool (farB_no fun hF => by have := hF.2.2.2 i k hi hk; omega).symm
      refine forK_step (()) hk hk0 ?_ ?_
      · have hib := Nat.lt_of_lt_of_le hk hN; simp only [go_sem, ↓reduceIte, Nat.reduceEqDiff, and_self, and_true, true_and, Int.ofNat_zero, Int.ofNat_one, Int.cast_ofNat_Int, wrap_succ hib]
      exact ⟨rfl, fun j hj => by
        rcases Nat.lt_or_ge j k with h | h
        · exact hg2 j h
        · obtain rfl : j = k := by omega
          refine ⟨?_, ?_, ?_, ?_⟩ <;> omega⟩
    · subst he
      simp only [go_sem, ↓reduceIte, Nat.reduceEqDiff]
      refine forK_step (()) hi hi0 ?_ ?_
      · have hib := Nat.lt_of_lt_of_le hi hN; simp only [go_sem, ↓reduceIte, Nat.reduceEqDiff, and_self, and_true, true_and, Int.ofNat_zero, Int.ofNat_one, Int.cast_ofNat_Int, wrap_succ hib]
      exact ⟨rfl, fun j k hj hk => by
        rcases Nat.lt_or_ge j i with h | h
        · exact hgood j k h hk
        · obtain rfl : j = i := by omega
          exact hg2 k hk⟩
  · subst he
    simp only [go_sem, ↓reduceIte, Nat.reduceEqDiff]
    exact Ret.bool (farB_yes ⟨by omega, by omega, hrow, fun i k hi hk => hgood i k hi hk⟩).symm

theorem sFarOk_c (S : Store) (v : Value) (r : Nat → Value) (d : List (List Int)) (hM : Mat S v r d) (hd : d.length ≤ maxLen) :
    ACalls Try.prog 25 [v] S (Ret S (.bool (farB d))) := by
  refine ACalls.intro (ts := [2]) 76 follows Try.func25 rfl (by kernel_rfl) (by kernel_rfl) (by simp) ?_
  have hsl := hM.sl
  have hlen := hM.len
  have hN : d.length ≤ 9223372036854775807 := hd
  simp only [go_sem, ↓reduceIte, Nat.reduceEqDiff, argEnv, hsl, hlen]
  refine aw_count 3 [0] (fun (_ : Unit) => []) (0) (d.length) (fun i _ SS => S = SS ∧ (∀ j, j < i → (d.getD j []).length = d.length)) (()) ?_ ?_ ?_ ?_
  · simp only [go_sem, ↓reduceIte, Nat.reduceEqDiff, and_self, and_true, true_and, Int.ofNat_zero, Int.ofNat_one, Int.cast_ofNat_Int, hsl, hlen]
  · omega
  · (refine ⟨rfl, ?_⟩; first | trivial | rfl | ((repeat' apply And.intro) <;> first | rfl | trivial | omega | (intros; omega) | simp [top]))
  rintro i _ _ hi0 hi ⟨rfl, hrow⟩
  simp only [go_sem, ↓reduceIte, Nat.reduceEqDiff, hsl, hlen]
  refine condK_lt hi (fun hi => ?_) (fun he => ?_)
  · simp only [go_sem, ↓reduceIte, Nat.reduceEqDiff, hlen, hi, hM.get, hsl, hM.rsl, hM.rlen]
    repeat' (first | (refine gK_dec (fun p h => ?_) (fun p h => ?_) <;> simp only [go_sem, ↓reduceIte, Nat.reduceEqDiff, h, hlen]) | (refine condK_dec (fun p h => ?_) (fun p h => ?_) <;> simp only [go_sem, ↓reduceIte, Nat.reduceEqDiff, h, hlen]) | (refine gQ_dec (fun p h => ?_) (fun p h => ?_) <;> simp only [go_sem, ↓reduceIte, Nat.reduceEqDiff, h, hlen]) | (refine gQC_dec (fun p h => ?_) (fun p h => ?_) <;> simp only [go_sem, ↓reduceIte, Nat.reduceEqDiff, h, hlen]))
    · exact Ret.bool (farB_no fun hF => by have := hF.2.2.1 i hi; omega).symm
    refine forK_step (()) hi hi0 ?_ ?_
    · have hib := Nat.lt_of_lt_of_le hi hN; simp only [go_sem, ↓reduceIte, Nat.reduceEqDiff, and_self, and_true, true_and, Int.ofNat_zero, Int.ofNat_one, Int.cast_ofNat_Int, wrap_succ hib]
    exact ⟨rfl, fun j hj => by
      rcases Nat.lt_or_ge j i with h | h
      · exact hrow j h
      · obtain rfl : j = i := by omega
        omega⟩
  subst he
  simp only [go_sem, ↓reduceIte, Nat.reduceEqDiff, hlen, hsl]
  have hrl := hM.sqlen hrow
  have hcl := hM.sqcell hrow
  refine callK.intro (by kernel_rfl) (l1In_c _ _ _ _) ?_
  rintro _ _ ⟨rfl, rfl⟩
  simp only [go_sem, ↓reduceIte, Nat.reduceEqDiff]
  repeat' (first | (refine gK_dec (fun p h => ?_) (fun p h => ?_) <;> simp only [go_sem, ↓reduceIte, Nat.reduceEqDiff, h, hlen, hsl]) | (refine condK_dec (fun p h => ?_) (fun p h => ?_) <;> simp only [go_sem, ↓reduceIte, Nat.reduceEqDiff, h, hlen, hsl]) | (refine gQ_dec (fun p h => ?_) (fun p h => ?_) <;> simp only [go_sem, ↓reduceIte, Nat.reduceEqDiff, h, hlen, hsl]) | (refine gQC_dec (fun p h => ?_) (fun p h => ?_) <;> simp only [go_sem, ↓reduceIte, Nat.reduceEqDiff, h, hlen, hsl]))
  · exact Ret.bool (farB_no fun hF => by have := hF.1; have := hF.2.1; omega).symm
  refine aw_count 4 [0] (fun (_ : Unit) => []) (0) (d.length) (fun i _ SS => S = SS ∧ (∀ j k, j < i → k < d.length → at2 d j k = at2 d k j ∧ 0 ≤ at2 d j k ∧ at2 d j k ≤ 60 ∧ (at2 d j k = 0 ↔ j = k))) (()) ?_ ?_ ?_ ?_
  · simp only [go_sem, ↓reduceIte, Nat.reduceEqDiff, and_self, and_true, true_and, Int.ofNat_zero, Int.ofNat_one, Int.cast_ofNat_Int, hsl, hlen]
  · omega
  · (refine ⟨rfl, ?_⟩; first | trivial | rfl | ((repeat' apply And.intro) <;> first | rfl | trivial | omega | (intros; omega) | simp [top]))
  rintro i _ _ hi0 hi ⟨rfl, hgood⟩
  simp only [go_sem, ↓reduceIte, Nat.reduceEqDiff, hsl, hlen]
  refine condK_lt hi (fun hi => ?_) (fun he => ?_)
  · simp only [go_sem, ↓reduceIte, Nat.reduceEqDiff, hlen, hi, hM.get, hsl, hM.rsl, hrl]
    refine aw_count 5 [0, 4] (fun (_ : Unit) => []) (0) (d.length) (fun k _ SS => S = SS ∧ (∀ j, j < k → at2 d i j = at2 d j i ∧ 0 ≤ at2 d i j ∧ at2 d i j ≤ 60 ∧ (at2 d i j = 0 ↔ i = j))) (()) ?_ ?_ ?_ ?_
    · simp only [go_sem, ↓reduceIte, Nat.reduceEqDiff, and_self, and_true, true_and, Int.ofNat_zero, Int.ofNat_one, Int.cast_ofNat_Int, hsl, hlen]
    · omega
    · (refine ⟨rfl, ?_⟩; first | trivial | rfl | ((repeat' apply And.intro) <;> first | rfl | trivial | omega | (intros; omega) | simp [top]))
    rintro k _ _ hk0 hk ⟨rfl, hg2⟩
    simp only [go_sem, ↓reduceIte, Nat.reduceEqDiff, hsl, hlen]
    refine condK_lt hk (fun hk => ?_) (fun he => ?_)
    · simp only [go_sem, ↓reduceIte, Nat.reduceEqDiff, hlen, hi, hk, hM.get, hsl, hM.rsl, hrl, hcl]
      refine draw_same ?_ (by kernel_rfl)
      simp only [go_sem, ↓reduceIte, Nat.reduceEqDiff, hlen, hi, hk, hM.get, hsl, hM.rsl, hrl, hcl]
      refine callQK_same (_) (by kernel_rfl) rfl (l1In_c _ _ _ _) ?_
      simp only [go_sem, ↓reduceIte, Nat.reduceEqDiff, hlen, hi, hk, hM.get, hsl, hM.rsl, hrl, hcl]
      repeat' (first | (refine gK_dec (fun p h => ?_) (fun p h => ?_) <;> simp only [go_sem, ↓reduceIte, Nat.reduceEqDiff, h, hlen, hi, hk, hM.get, hsl, hM.rsl, hrl, hcl, Try.underlying4]) | (refine condK_dec (fun p h => ?_) (fun p h => ?_) <;> simp only [go_sem, ↓reduceIte, Nat.reduceEqDiff, h, hlen, hi, hk, hM.get, hsl, hM.rsl, hrl, hcl, Try.underlying4]) | (refine gQ_dec (fun p h => ?_) (fun p h => ?_) <;> simp only [go_sem, ↓reduceIte, Nat.reduceEqDiff, h, hlen, hi, hk, hM.get, hsl, hM.rsl, hrl, hcl, Try.underlying4]) | (refine gQC_dec (fun p h => ?_) (fun p h => ?_) <;> simp only [go_sem, ↓reduceIte, Nat.reduceEqDiff, h, hlen, hi, hk, hM.get, hsl, hM.rsl, hrl, hcl, Try.underlying4]))
      · exact Ret.bool (farB_no fun hF => by have := hF.2.2.2 i k hi hk; omega).symm
      · exact Ret.bool (farB_no fun hF => by have := hF.2.2.2 i k hi hk; omega).symm
      · exact Ret.bool (farB_no fun hF => by have := hF.2.2.2 i k hi hk; omega).symm
      refine forK_step (()) hk hk0 ?_ ?_
      · have hib := Nat.lt_of_lt_of_le hk hN; simp only [go_sem, ↓reduceIte, Nat.reduceEqDiff, and_self, and_true, true_and, Int.ofNat_zero, Int.ofNat_one, Int.cast_ofNat_Int, wrap_succ hib]
      exact ⟨rfl, fun j hj => by
        rcases Nat.lt_or_ge j k with h | h
        · exact hg2 j h
        · obtain rfl : j = k := by omega
          refine ⟨?_, ?_, ?_, ?_⟩ <;> omega⟩
    · subst he
      simp only [go_sem, ↓reduceIte, Nat.reduceEqDiff]
      refine forK_step (()) hi hi0 ?_ ?_
      · have hib := Nat.lt_of_lt_of_le hi hN; simp only [go_sem, ↓reduceIte, Nat.reduceEqDiff, and_self, and_true, true_and, Int.ofNat_zero, Int.ofNat_one, Int.cast_ofNat_Int, wrap_succ hib]
      exact ⟨rfl, fun j k hj hk => by
        rcases Nat.lt_or_ge j i with h | h
        · exact hgood j k h hk
        · obtain rfl : j = i := by omega
          exact hg2 k hk⟩
  · subst he
    simp only [go_sem, ↓reduceIte, Nat.reduceEqDiff]
    exact Ret.bool (farB_yes ⟨by omega, by omega, hrow, fun i k hi hk => hgood i k hi hk⟩).symm

theorem isSpace_c (S : Store) (v : Value) (r : Nat → Value) (d : List (List Int)) (hM : Mat S v r d) (hd : d.length ≤ maxLen) :
    ACalls Try.prog 68 [v] S (Ret S (.bool (spaceB d))) := by
  refine ACalls.intro (ts := [2]) 50 follows Try.func68 rfl (by kernel_rfl) (by kernel_rfl) (by simp) ?_
  have hsl := hM.sl
  have hlen := hM.len
  have hN : d.length ≤ 9223372036854775807 := hd
  simp only [go_sem, ↓reduceIte, Nat.reduceEqDiff, argEnv, hsl, hlen]
  refine callK.intro (by kernel_rfl) (areFar_c S v r d hM hd) ?_
  rintro _ _ ⟨rfl, rfl⟩
  simp only [go_sem, ↓reduceIte, Nat.reduceEqDiff]
  cases hF : farB d with
  | false =>
    simp only [go_sem, ↓reduceIte, Nat.reduceEqDiff]
    exact Ret.bool (spaceB_no fun h => farB_not hF h.1).symm
  | true =>
    have hF := farB_is hF
    have hrl := hM.sqlen hF.2.2.1
    have hcl := hM.sqcell hF.2.2.1
    have hb := hF.2.2.2
    simp only [go_sem, ↓reduceIte, Nat.reduceEqDiff, hsl, hlen]
    refine aw_count 11 [0, 10] (fun (_ : Unit) => []) (0) (d.length) (fun i _ SS => S = SS ∧ (∀ i', i' < i → ∀ k j, k < d.length → j < d.length → at2 d i' k ≤ at2 d i' j + at2 d j k)) (()) ?_ ?_ ?_ ?_
    · simp only [go_sem, ↓reduceIte, Nat.reduceEqDiff, and_self, and_true, true_and, Int.ofNat_zero, Int.ofNat_one, Int.cast_ofNat_Int, hsl, hlen]
    · omega
    · (refine ⟨rfl, ?_⟩; first | trivial | rfl | ((repeat' apply And.intro) <;> first | rfl | trivial | omega | (intros; omega) | simp [top]))
    rintro i _ _ hi0 hi ⟨rfl, h0⟩
    simp only [go_sem, ↓reduceIte, Nat.reduceEqDiff, hsl, hlen]
    refine condK_lt hi (fun hi => ?_) (fun he => ?_)
    · simp only [go_sem, ↓reduceIte, Nat.reduceEqDiff, hsl, hlen]
      refine aw_count 16 [0, 3, 10, 11, 15] (fun (_ : Unit) => []) (0) (d.length) (fun k _ SS => S = SS ∧ (∀ k', k' < k → ∀ j, j < d.length → at2 d i k' ≤ at2 d i j + at2 d j k')) (()) ?_ ?_ ?_ ?_
      · simp only [go_sem, ↓reduceIte, Nat.reduceEqDiff, and_self, and_true, true_and, Int.ofNat_zero, Int.ofNat_one, Int.cast_ofNat_Int, hsl, hlen]
      · omega
      · (refine ⟨rfl, ?_⟩; first | trivial | rfl | ((repeat' apply And.intro) <;> first | rfl | trivial | omega | (intros; omega) | simp [top]))
      rintro k _ _ hk0 hk ⟨rfl, h1⟩
      simp only [go_sem, ↓reduceIte, Nat.reduceEqDiff, hsl, hlen]
      refine condK_lt hk (fun hk => ?_) (fun he => ?_)
      · simp only [go_sem, ↓reduceIte, Nat.reduceEqDiff, hsl, hlen]
        refine aw_count 21 [0, 3, 4, 10, 11, 15, 16, 20] (fun (_ : Unit) => []) (0) (d.length) (fun j _ SS => S = SS ∧ (∀ j', j' < j → at2 d i k ≤ at2 d i j' + at2 d j' k)) (()) ?_ ?_ ?_ ?_
        · simp only [go_sem, ↓reduceIte, Nat.reduceEqDiff, and_self, and_true, true_and, Int.ofNat_zero, Int.ofNat_one, Int.cast_ofNat_Int, hsl, hlen]
        · omega
        · (refine ⟨rfl, ?_⟩; first | trivial | rfl | ((repeat' apply And.intro) <;> first | rfl | trivial | omega | (intros; omega) | simp [top]))
        rintro j _ _ hj0 hj ⟨rfl, h2⟩
        simp only [go_sem, ↓reduceIte, Nat.reduceEqDiff, hsl, hlen]
        refine condK_lt hj (fun hj => ?_) (fun he => ?_)
        · have b1 := hb i j hi hj
          have b2 := hb j k hj hk
          simp only [go_sem, ↓reduceIte, Nat.reduceEqDiff, hsl, hlen, hi, hk, hj, hM.get, hM.rsl, hrl, hcl]
          refine draw_read ?_ (by kernel_rfl)
          simp only [go_sem, ↓reduceIte, Nat.reduceEqDiff, hsl, hlen, hi, hk, hj, hM.get, hM.rsl, hrl, hcl]
          rw [wrap64 (by omega)]
          repeat' (first | (refine gK_dec (fun p h => ?_) (fun p h => ?_) <;> simp only [go_sem, ↓reduceIte, Nat.reduceEqDiff, h]) | (refine condK_dec (fun p h => ?_) (fun p h => ?_) <;> simp only [go_sem, ↓reduceIte, Nat.reduceEqDiff, h]) | (refine gQ_dec (fun p h => ?_) (fun p h => ?_) <;> simp only [go_sem, ↓reduceIte, Nat.reduceEqDiff, h]) | (refine gQC_dec (fun p h => ?_) (fun p h => ?_) <;> simp only [go_sem, ↓reduceIte, Nat.reduceEqDiff, h]))
          · exact Ret.bool (spaceB_no fun h => by have := h.2 i k j hi hk hj; omega).symm
          refine forK_step (()) hj hj0 ?_ ?_
          · have hib := Nat.lt_of_lt_of_le hj hN; simp only [go_sem, ↓reduceIte, Nat.reduceEqDiff, and_self, and_true, true_and, Int.ofNat_zero, Int.ofNat_one, Int.cast_ofNat_Int, wrap_succ hib]
          exact ⟨rfl, fun j' hj' => by
            rcases Nat.lt_or_ge j' j with h | h
            · exact h2 j' h
            · obtain rfl : j' = j := by omega
              omega⟩
        · subst he
          simp only [go_sem, ↓reduceIte, Nat.reduceEqDiff]
          refine forK_step (()) hk hk0 ?_ ?_
          · have hib := Nat.lt_of_lt_of_le hk hN; simp only [go_sem, ↓reduceIte, Nat.reduceEqDiff, and_self, and_true, true_and, Int.ofNat_zero, Int.ofNat_one, Int.cast_ofNat_Int, wrap_succ hib]
          exact ⟨rfl, fun k' hk' => by
            rcases Nat.lt_or_ge k' k with h | h
            · exact h1 k' h
            · obtain rfl : k' = k := by omega
              exact h2⟩
      · subst he
        simp only [go_sem, ↓reduceIte, Nat.reduceEqDiff]
        refine forK_step (()) hi hi0 ?_ ?_
        · have hib := Nat.lt_of_lt_of_le hi hN; simp only [go_sem, ↓reduceIte, Nat.reduceEqDiff, and_self, and_true, true_and, Int.ofNat_zero, Int.ofNat_one, Int.cast_ofNat_Int, wrap_succ hib]
        exact ⟨rfl, fun i' hi' => by
          rcases Nat.lt_or_ge i' i with h | h
          · exact h0 i' h
          · obtain rfl : i' = i := by omega
            exact fun k j hk hj => h1 k hk j hj⟩
    · subst he
      simp only [go_sem, ↓reduceIte, Nat.reduceEqDiff]
      exact Ret.bool (spaceB_yes ⟨hF, fun i k j hi hk hj => h0 i hi k j hk hj⟩).symm

theorem iSpaceOk_c (S : Store) (v : Value) (r : Nat → Value) (d : List (List Int)) (hM : Mat S v r d) (hd : d.length ≤ maxLen) :
    ACalls Try.prog 54 [v] S (Ret S (.bool (spaceB d))) := by
  refine ACalls.intro (ts := [2]) 5 follows Try.func54 rfl (by kernel_rfl) (by kernel_rfl) (by simp) ?_
  simp only [go_sem, ↓reduceIte, Nat.reduceEqDiff, argEnv]
  refine callK.intro (by kernel_rfl) (isSpace_c S v r d hM hd) ?_
  rintro _ _ ⟨rfl, rfl⟩
  simp only [go_sem, ↓reduceIte, Nat.reduceEqDiff]
  exact Ret.mk _ _

theorem sSpaceOk_c (S : Store) (v : Value) (r : Nat → Value) (d : List (List Int)) (hM : Mat S v r d) (hd : d.length ≤ maxLen) :
    ACalls Try.prog 67 [v] S (Ret S (.bool (spaceB d))) := by
  refine ACalls.intro (ts := [2]) 50 follows Try.func67 rfl (by kernel_rfl) (by kernel_rfl) (by simp) ?_
  have hsl := hM.sl
  have hlen := hM.len
  have hN : d.length ≤ 9223372036854775807 := hd
  simp only [go_sem, ↓reduceIte, Nat.reduceEqDiff, argEnv, hsl, hlen]
  refine callK.intro (by kernel_rfl) (sFarOk_c S v r d hM hd) ?_
  rintro _ _ ⟨rfl, rfl⟩
  simp only [go_sem, ↓reduceIte, Nat.reduceEqDiff]
  cases hF : farB d with
  | false =>
    simp only [go_sem, ↓reduceIte, Nat.reduceEqDiff]
    exact Ret.bool (spaceB_no fun h => farB_not hF h.1).symm
  | true =>
    have hF := farB_is hF
    have hrl := hM.sqlen hF.2.2.1
    have hcl := hM.sqcell hF.2.2.1
    have hb := hF.2.2.2
    simp only [go_sem, ↓reduceIte, Nat.reduceEqDiff, hsl, hlen]
    refine aw_count 3 [0] (fun (_ : Unit) => []) (0) (d.length) (fun i _ SS => S = SS ∧ (∀ i', i' < i → ∀ k j, k < d.length → j < d.length → at2 d i' k ≤ at2 d i' j + at2 d j k)) (()) ?_ ?_ ?_ ?_
    · simp only [go_sem, ↓reduceIte, Nat.reduceEqDiff, and_self, and_true, true_and, Int.ofNat_zero, Int.ofNat_one, Int.cast_ofNat_Int, hsl, hlen]
    · omega
    · (refine ⟨rfl, ?_⟩; first | trivial | rfl | ((repeat' apply And.intro) <;> first | rfl | trivial | omega | (intros; omega) | simp [top]))
    rintro i _ _ hi0 hi ⟨rfl, h0⟩
    simp only [go_sem, ↓reduceIte, Nat.reduceEqDiff, hsl, hlen]
    refine condK_lt hi (fun hi => ?_) (fun he => ?_)
    · simp only [go_sem, ↓reduceIte, Nat.reduceEqDiff, hsl, hlen]
      refine aw_count 4 [0, 3] (fun (_ : Unit) => []) (0) (d.length) (fun k _ SS => S = SS ∧ (∀ k', k' < k → ∀ j, j < d.length → at2 d i k' ≤ at2 d i j + at2 d j k')) (()) ?_ ?_ ?_ ?_
      · simp only [go_sem, ↓reduceIte, Nat.reduceEqDiff, and_self, and_true, true_and, Int.ofNat_zero, Int.ofNat_one, Int.cast_ofNat_Int, hsl, hlen]
      · omega
      · (refine ⟨rfl, ?_⟩; first | trivial | rfl | ((repeat' apply And.intro) <;> first | rfl | trivial | omega | (intros; omega) | simp [top]))
      rintro k _ _ hk0 hk ⟨rfl, h1⟩
      simp only [go_sem, ↓reduceIte, Nat.reduceEqDiff, hsl, hlen]
      refine condK_lt hk (fun hk => ?_) (fun he => ?_)
      · simp only [go_sem, ↓reduceIte, Nat.reduceEqDiff, hsl, hlen]
        refine aw_count 5 [0, 3, 4] (fun (_ : Unit) => []) (0) (d.length) (fun j _ SS => S = SS ∧ (∀ j', j' < j → at2 d i k ≤ at2 d i j' + at2 d j' k)) (()) ?_ ?_ ?_ ?_
        · simp only [go_sem, ↓reduceIte, Nat.reduceEqDiff, and_self, and_true, true_and, Int.ofNat_zero, Int.ofNat_one, Int.cast_ofNat_Int, hsl, hlen]
        · omega
        · (refine ⟨rfl, ?_⟩; first | trivial | rfl | ((repeat' apply And.intro) <;> first | rfl | trivial | omega | (intros; omega) | simp [top]))
        rintro j _ _ hj0 hj ⟨rfl, h2⟩
        simp only [go_sem, ↓reduceIte, Nat.reduceEqDiff, hsl, hlen]
        refine condK_lt hj (fun hj => ?_) (fun he => ?_)
        · have b1 := hb i j hi hj
          have b2 := hb j k hj hk
          simp only [go_sem, ↓reduceIte, Nat.reduceEqDiff, hsl, hlen, hi, hk, hj, hM.get, hM.rsl, hrl, hcl]
          refine draw_read ?_ (by kernel_rfl)
          simp only [go_sem, ↓reduceIte, Nat.reduceEqDiff, hsl, hlen, hi, hk, hj, hM.get, hM.rsl, hrl, hcl]
          rw [wrap64 (by omega)]
          repeat' (first | (refine gK_dec (fun p h => ?_) (fun p h => ?_) <;> simp only [go_sem, ↓reduceIte, Nat.reduceEqDiff, h]) | (refine condK_dec (fun p h => ?_) (fun p h => ?_) <;> simp only [go_sem, ↓reduceIte, Nat.reduceEqDiff, h]) | (refine gQ_dec (fun p h => ?_) (fun p h => ?_) <;> simp only [go_sem, ↓reduceIte, Nat.reduceEqDiff, h]) | (refine gQC_dec (fun p h => ?_) (fun p h => ?_) <;> simp only [go_sem, ↓reduceIte, Nat.reduceEqDiff, h]))
          · exact Ret.bool (spaceB_no fun h => by have := h.2 i k j hi hk hj; omega).symm
          refine forK_step (()) hj hj0 ?_ ?_
          · have hib := Nat.lt_of_lt_of_le hj hN; simp only [go_sem, ↓reduceIte, Nat.reduceEqDiff, and_self, and_true, true_and, Int.ofNat_zero, Int.ofNat_one, Int.cast_ofNat_Int, wrap_succ hib]
          exact ⟨rfl, fun j' hj' => by
            rcases Nat.lt_or_ge j' j with h | h
            · exact h2 j' h
            · obtain rfl : j' = j := by omega
              omega⟩
        · subst he
          simp only [go_sem, ↓reduceIte, Nat.reduceEqDiff]
          refine forK_step (()) hk hk0 ?_ ?_
          · have hib := Nat.lt_of_lt_of_le hk hN; simp only [go_sem, ↓reduceIte, Nat.reduceEqDiff, and_self, and_true, true_and, Int.ofNat_zero, Int.ofNat_one, Int.cast_ofNat_Int, wrap_succ hib]
          exact ⟨rfl, fun k' hk' => by
            rcases Nat.lt_or_ge k' k with h | h
            · exact h1 k' h
            · obtain rfl : k' = k := by omega
              exact h2⟩
      · subst he
        simp only [go_sem, ↓reduceIte, Nat.reduceEqDiff]
        refine forK_step (()) hi hi0 ?_ ?_
        · have hib := Nat.lt_of_lt_of_le hi hN; simp only [go_sem, ↓reduceIte, Nat.reduceEqDiff, and_self, and_true, true_and, Int.ofNat_zero, Int.ofNat_one, Int.cast_ofNat_Int, wrap_succ hib]
        exact ⟨rfl, fun i' hi' => by
          rcases Nat.lt_or_ge i' i with h | h
          · exact h0 i' h
          · obtain rfl : i' = i := by omega
            exact fun k j hk hj => h1 k hk j hj⟩
    · subst he
      simp only [go_sem, ↓reduceIte, Nat.reduceEqDiff]
      exact Ret.bool (spaceB_yes ⟨hF, fun i k j hi hk hj => h0 i hi k j hk hj⟩).symm
end Go.Proofs.Ytodeldmkpogakaa

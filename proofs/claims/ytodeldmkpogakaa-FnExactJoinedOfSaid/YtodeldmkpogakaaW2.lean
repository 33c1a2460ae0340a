/- Walks: what the exact laws are told with. -/
import Derived.Test.YtodeldmkpogakaaW0
import Derived.Test.YtodeldmkpogakaaPure
namespace Go.Proofs.Ytodeldmkpogakaa
open Go Go.Mill
set_option maxRecDepth 100000
set_option linter.unusedSimpArgs false
set_option linter.unusedVariables false

theorem zero_int : zeroOf Try.prog 32 = some (.int .i64 0) := by kernel_rfl
theorem toIntS_c (S : Store) (v : Value) (xs : List Int) (hI : Ints S v xs) (hx : xs.length ≤ 1099511627776) :
    ACalls Try.prog 66 [v] S fun u S' => u = mk S.length xs.length ∧ S ++ [.own (ints xs)] = S' := by
  refine ACalls.intro (ts := [2]) 22 follows Try.func66 rfl (by kernel_rfl) (by kernel_rfl) (by simp) ?_
  have hsl := hI.sl
  have hlen := hI.len
  have hN : xs.length ≤ 9223372036854775807 := by omega
  simp only [go_sem, ↓reduceIte, Nat.reduceEqDiff, argEnv, hsl, hlen, makeK_nat hx, zero_int]
  refine aw_count 4 [0, 3] (fun (y : Unit) => []) (0) (xs.length) (fun i y SS => SS = S ++ [.own (ints (xs.take i) ++ List.replicate (xs.length - i) (.int .i64 0))]) (()) ?_ ?_ ?_ ?_
  · simp only [go_sem, ↓reduceIte, Nat.reduceEqDiff, and_self, and_true, true_and, Int.ofNat_zero, Int.ofNat_one, Int.cast_ofNat_Int, hsl, hlen]
  · omega
  rotate_left
  rintro i y Si hi0 hi rfl
  simp only [go_sem, ↓reduceIte, Nat.reduceEqDiff, hsl, hlen]
  refine condK_lt hi (fun hi => ?_) (fun he => ?_)
  · have hI1 := hI.ext (Ext.append S [.own (ints (xs.take i) ++ List.replicate (xs.length - i) (.int .i64 0))])
    have hst := @st_last S xs.length i (ints (xs.take i) ++ List.replicate (xs.length - i) (.int .i64 0)) (.int .i64 (xs.getD i 0)) (by simp [ints]; omega)
    rw [ints_set rfl hi] at hst
    simp only [go_sem, ↓reduceIte, Nat.reduceEqDiff, hsl, hlen, hi, hI1.get, hst]
    refine forK_step (()) hi hi0 ?_ ?_
    · have hib := Nat.lt_of_lt_of_le hi hN; simp only [go_sem, ↓reduceIte, Nat.reduceEqDiff, and_self, and_true, true_and, Int.ofNat_zero, Int.ofNat_one, Int.cast_ofNat_Int, wrap_succ hib]
    rfl
  · subst he
    simp only [go_sem, ↓reduceIte, Nat.reduceEqDiff]
    refine ⟨by trivial, ?_⟩
    simp [ints]
  · simp [ints]

theorem zero_ints : zeroOf Try.prog 23 = some (.slice none 0 0) := by kernel_rfl
theorem toIntSS_c (S : Store) (v : Value) (r : Nat → Value) (d : List (List Int)) (hM : Mat S v r d) (hd : d.length ≤ 1099511627776) (hr : ∀ i, i < d.length → (d.getD i []).length ≤ 1099511627776) :
    ACalls Try.prog 29 [v] S fun u S' => u = mk S.length d.length ∧ S ++ cloneOf S.length d = S' := by
  refine ACalls.intro (ts := [2]) 23 follows Try.func29 rfl (by kernel_rfl) (by kernel_rfl) (by simp) ?_
  have hsl := hM.sl
  have hlen := hM.len
  have hN : d.length ≤ 9223372036854775807 := by omega
  simp only [go_sem, ↓reduceIte, Nat.reduceEqDiff, argEnv, hsl, hlen, makeK_nat hd, zero_ints]
  refine aw_count 4 [0, 3] (fun (y : Unit) => []) (0) (d.length) (fun i y SS => SS = S ++ cloneTo S.length d i) (()) ?_ ?_ ?_ ?_
  · simp only [go_sem, ↓reduceIte, Nat.reduceEqDiff, and_self, and_true, true_and, Int.ofNat_zero, Int.ofNat_one, Int.cast_ofNat_Int, hsl, hlen]
  · omega
  rotate_left
  rintro i y Si hi0 hi rfl
  simp only [go_sem, ↓reduceIte, Nat.reduceEqDiff, hsl, hlen]
  refine condK_lt hi (fun hi => ?_) (fun he => ?_)
  · have hM1 := hM.ext (Ext.append S (cloneTo S.length d i))
    simp only [go_sem, ↓reduceIte, Nat.reduceEqDiff, hsl, hlen, hi, hM1.get]
    refine callK.intro (by kernel_rfl) (toIntS_c _ _ _ (hM1.row i hi) (hr i hi)) ?_
    rintro _ _ ⟨rfl, rfl⟩
    simp only [go_sem, ↓reduceIte, Nat.reduceEqDiff, hsl, hlen, hi, clone_step hi]
    refine forK_step (()) hi hi0 ?_ ?_
    · have hib := Nat.lt_of_lt_of_le hi hN; simp only [go_sem, ↓reduceIte, Nat.reduceEqDiff, and_self, and_true, true_and, Int.ofNat_zero, Int.ofNat_one, Int.cast_ofNat_Int, wrap_succ hib]
    rfl
  · subst he
    simp only [go_sem, ↓reduceIte, Nat.reduceEqDiff]
    exact ⟨by trivial, by rw [cloneTo_end]⟩
  · simp [cloneTo]

theorem szIntS_c (S : Store) (v : Value) (xs : List Int) (hI : Ints S v xs) (hx : xs.length ≤ maxLen) (x : Int) (h0 : 0 ≤ x) (h1 : x ≤ 9223372036854775807) :
    ACalls Try.prog 65 [v, .int .i64 x] S (Ret S (.int .i64 (if (xs.length : Int) ≤ x then x - xs.length else -1))) := by
  refine ACalls.intro (ts := [4]) 12 follows Try.func65 rfl (by kernel_rfl) (by kernel_rfl) (by simp) ?_
  have hsl := hI.sl
  have hlen := hI.len
  have hN : xs.length ≤ 9223372036854775807 := hx
  have hw : IntKind.i64.wrap (x - xs.length) = x - xs.length := wrap64 (by omega)
  simp only [go_sem, ↓reduceIte, Nat.reduceEqDiff, argEnv, hsl, hlen, hw]
  repeat' (first | (refine gK_dec (fun p h => ?_) (fun p h => ?_) <;> simp only [go_sem, ↓reduceIte, Nat.reduceEqDiff, h]) | (refine condK_dec (fun p h => ?_) (fun p h => ?_) <;> simp only [go_sem, ↓reduceIte, Nat.reduceEqDiff, h]) | (refine gQ_dec (fun p h => ?_) (fun p h => ?_) <;> simp only [go_sem, ↓reduceIte, Nat.reduceEqDiff, h]) | (refine gQC_dec (fun p h => ?_) (fun p h => ?_) <;> simp only [go_sem, ↓reduceIte, Nat.reduceEqDiff, h]))
  · exact Ret.int (by rw [if_neg (by omega)])
  · exact Ret.int (by rw [if_pos (by omega)])

theorem szIntSS_c (S : Store) (v : Value) (r : Nat → Value) (d : List (List Int)) (hM : Mat S v r d) (hd : d.length ≤ maxLen) (hr : ∀ i, i < d.length → (d.getD i []).length ≤ maxLen) (x : Int) (h0 : 0 ≤ x) (h1 : x ≤ 1048576) :
    ACalls Try.prog 28 [v, .int .i64 x] S fun u S' => (∃ y, u = .int .i64 y ∧ y ≤ 1048576 ∧ (0 ≤ y → d.length ≤ 1048576 ∧ ∀ i, i < d.length → (d.getD i []).length ≤ 1048576)) ∧ S = S' := by
  refine ACalls.intro (ts := [4]) 27 follows Try.func28 rfl (by kernel_rfl) (by kernel_rfl) (by simp) ?_
  have hsl := hM.sl
  have hlen := hM.len
  have hN : d.length ≤ 9223372036854775807 := hd
  have hw : IntKind.i64.wrap (x - d.length) = x - d.length := wrap64 (by omega)
  simp only [go_sem, ↓reduceIte, Nat.reduceEqDiff, argEnv, hsl, hlen, hw]
  repeat' (first | (refine gK_dec (fun p h => ?_) (fun p h => ?_) <;> simp only [go_sem, ↓reduceIte, Nat.reduceEqDiff, h]) | (refine condK_dec (fun p h => ?_) (fun p h => ?_) <;> simp only [go_sem, ↓reduceIte, Nat.reduceEqDiff, h]) | (refine gQ_dec (fun p h => ?_) (fun p h => ?_) <;> simp only [go_sem, ↓reduceIte, Nat.reduceEqDiff, h]) | (refine gQC_dec (fun p h => ?_) (fun p h => ?_) <;> simp only [go_sem, ↓reduceIte, Nat.reduceEqDiff, h]))
  · exact ⟨⟨_, rfl, by omega, fun h => absurd h (by omega)⟩, by trivial⟩
  refine aw_count 5 [0] (fun (y : Int) => [(1, .int .i64 y)]) (0) (d.length) (fun i y SS => S = SS ∧ (0 ≤ y ∧ y ≤ x ∧ ∀ j, j < i → (d.getD j []).length ≤ 1048576)) (x - d.length) ?_ ?_ ?_ ?_
  · simp only [go_sem, ↓reduceIte, Nat.reduceEqDiff, and_self, and_true, true_and, Int.ofNat_zero, Int.ofNat_one, Int.cast_ofNat_Int, hsl, hlen]
  · omega
  · (refine ⟨rfl, ?_⟩; first | trivial | rfl | ((repeat' apply And.intro) <;> first | rfl | trivial | omega | (intros; omega) | simp [top]))
  rintro i y _ hi0 hi ⟨rfl, hy⟩
  simp only [go_sem, ↓reduceIte, Nat.reduceEqDiff, hsl, hlen]
  refine condK_lt hi (fun hi => ?_) (fun he => ?_)
  · simp only [go_sem, ↓reduceIte, Nat.reduceEqDiff, hsl, hlen, hi, hM.get]
    refine callK.intro (by kernel_rfl) (szIntS_c _ _ _ (hM.row i hi) (hr i hi) y hy.1 (by omega)) ?_
    rintro _ _ ⟨rfl, rfl⟩
    simp only [go_sem, ↓reduceIte, Nat.reduceEqDiff]
    by_cases hle : ((d.getD i []).length : Int) ≤ y
    · have hlt : decide (y - ((d.getD i []).length : Int) < 0) = false := by simp only [decide_eq_false_iff_not]; omega
      simp only [go_sem, ↓reduceIte, Nat.reduceEqDiff, if_pos hle, hlt]
      refine forK_step (y - ((d.getD i []).length : Int)) hi hi0 ?_ ?_
      · have hib := Nat.lt_of_lt_of_le hi hN; simp only [go_sem, ↓reduceIte, Nat.reduceEqDiff, and_self, and_true, true_and, Int.ofNat_zero, Int.ofNat_one, Int.cast_ofNat_Int, wrap_succ hib]
      exact ⟨rfl, by omega, by omega, fun j hj => by
        rcases Nat.lt_or_ge j i with h | h
        · exact hy.2.2 j h
        · obtain rfl : j = i := by omega
          omega⟩
    · have hlt : decide ((-1 : Int) < 0) = true := rfl
      simp only [go_sem, ↓reduceIte, Nat.reduceEqDiff, if_neg hle, hlt]
      exact ⟨⟨_, rfl, by omega, fun h => absurd h (by omega)⟩, by trivial⟩
  · subst he
    simp only [go_sem, ↓reduceIte, Nat.reduceEqDiff]
    exact ⟨⟨_, rfl, by omega, fun h => ⟨by omega, hy.2.2⟩⟩, by trivial⟩

theorem eqIntS_c (S : Store) (v w : Value) (xs ys : List Int) (hI : Ints S v xs) (hJ : Ints S w ys) (hx : xs.length ≤ maxLen) :
    ACalls Try.prog 35 [v, w] S (Ret S (.bool (decide (xs = ys)))) := by
  refine ACalls.intro (ts := [4]) 26 follows Try.func35 rfl (by kernel_rfl) (by kernel_rfl) (by simp) ?_
  have hsl := hI.sl
  have hlen := hI.len
  have hsl' := hJ.sl
  have hlen' := hJ.len
  have hN : xs.length ≤ 9223372036854775807 := hx
  simp only [go_sem, ↓reduceIte, Nat.reduceEqDiff, argEnv, hsl, hlen, hsl', hlen']
  repeat' (first | (refine gK_dec (fun p h => ?_) (fun p h => ?_) <;> simp only [go_sem, ↓reduceIte, Nat.reduceEqDiff, h]) | (refine condK_dec (fun p h => ?_) (fun p h => ?_) <;> simp only [go_sem, ↓reduceIte, Nat.reduceEqDiff, h]) | (refine gQ_dec (fun p h => ?_) (fun p h => ?_) <;> simp only [go_sem, ↓reduceIte, Nat.reduceEqDiff, h]) | (refine gQC_dec (fun p h => ?_) (fun p h => ?_) <;> simp only [go_sem, ↓reduceIte, Nat.reduceEqDiff, h]))
  · exact Ret.bool (by symm; simp only [decide_eq_false_iff_not]; intro h; subst h; omega)
  have hl : xs.length = ys.length := by omega
  refine aw_count 5 [0, 1] (fun (_ : Unit) => []) (0) (xs.length) (fun i _ SS => S = SS ∧ (∀ j, j < i → xs.getD j 0 = ys.getD j 0)) (()) ?_ ?_ ?_ ?_
  · simp only [go_sem, ↓reduceIte, Nat.reduceEqDiff, and_self, and_true, true_and, Int.ofNat_zero, Int.ofNat_one, Int.cast_ofNat_Int, hsl, hlen]
  · omega
  · (refine ⟨rfl, ?_⟩; first | trivial | rfl | ((repeat' apply And.intro) <;> first | rfl | trivial | omega | (intros; omega) | simp [top]))
  rintro i _ _ hi0 hi ⟨rfl, hq⟩
  simp only [go_sem, ↓reduceIte, Nat.reduceEqDiff, hsl, hlen]
  refine condK_lt hi (fun hi => ?_) (fun he => ?_)
  · have hi' : i < ys.length := by omega
    refine draw_read ?_ (by kernel_rfl)
    simp only [go_sem, ↓reduceIte, Nat.reduceEqDiff, hsl, hlen, hsl', hlen', hi, hi', hI.get, hJ.get]
    repeat' (first | (refine gK_dec (fun p h => ?_) (fun p h => ?_) <;> simp only [go_sem, ↓reduceIte, Nat.reduceEqDiff, h]) | (refine condK_dec (fun p h => ?_) (fun p h => ?_) <;> simp only [go_sem, ↓reduceIte, Nat.reduceEqDiff, h]) | (refine gQ_dec (fun p h => ?_) (fun p h => ?_) <;> simp only [go_sem, ↓reduceIte, Nat.reduceEqDiff, h]) | (refine gQC_dec (fun p h => ?_) (fun p h => ?_) <;> simp only [go_sem, ↓reduceIte, Nat.reduceEqDiff, h]))
    · exact Ret.bool (by symm; simp only [decide_eq_false_iff_not]; intro h; subst h; omega)
    refine forK_step (()) hi hi0 ?_ ?_
    · have hib := Nat.lt_of_lt_of_le hi hN; simp only [go_sem, ↓reduceIte, Nat.reduceEqDiff, and_self, and_true, true_and, Int.ofNat_zero, Int.ofNat_one, Int.cast_ofNat_Int, wrap_succ hib]
    exact ⟨rfl, fun j hj => by
      rcases Nat.lt_or_ge j i with h | h
      · exact hq j h
      · obtain rfl : j = i := by omega
        omega⟩
  · subst he
    simp only [go_sem, ↓reduceIte, Nat.reduceEqDiff]
    exact Ret.bool (by symm; simp only [decide_eq_true_eq]; exact eq_of_getD hl hq)

theorem eqIntSS_c (S : Store) (v w : Value) (r s : Nat → Value) (d e : List (List Int)) (hM : Mat S v r d) (hK : Mat S w s e) (hd : d.length ≤ maxLen) (hr : ∀ i, i < d.length → (d.getD i []).length ≤ maxLen) :
    ACalls Try.prog 30 [v, w] S (Ret S (.bool (decide (d = e)))) := by
  refine ACalls.intro (ts := [4]) 27 follows Try.func30 rfl (by kernel_rfl) (by kernel_rfl) (by simp) ?_
  have hsl := hM.sl
  have hlen := hM.len
  have hsl' := hK.sl
  have hlen' := hK.len
  have hN : d.length ≤ 9223372036854775807 := hd
  simp only [go_sem, ↓reduceIte, Nat.reduceEqDiff, argEnv, hsl, hlen, hsl', hlen']
  repeat' (first | (refine gK_dec (fun p h => ?_) (fun p h => ?_) <;> simp only [go_sem, ↓reduceIte, Nat.reduceEqDiff, h]) | (refine condK_dec (fun p h => ?_) (fun p h => ?_) <;> simp only [go_sem, ↓reduceIte, Nat.reduceEqDiff, h]) | (refine gQ_dec (fun p h => ?_) (fun p h => ?_) <;> simp only [go_sem, ↓reduceIte, Nat.reduceEqDiff, h]) | (refine gQC_dec (fun p h => ?_) (fun p h => ?_) <;> simp only [go_sem, ↓reduceIte, Nat.reduceEqDiff, h]))
  · exact Ret.bool (by symm; simp only [decide_eq_false_iff_not]; intro h; subst h; omega)
  have hl : d.length = e.length := by omega
  refine aw_count 5 [0, 1] (fun (_ : Unit) => []) (0) (d.length) (fun i _ SS => S = SS ∧ (∀ j, j < i → d.getD j [] = e.getD j [])) (()) ?_ ?_ ?_ ?_
  · simp only [go_sem, ↓reduceIte, Nat.reduceEqDiff, and_self, and_true, true_and, Int.ofNat_zero, Int.ofNat_one, Int.cast_ofNat_Int, hsl, hlen]
  · omega
  · (refine ⟨rfl, ?_⟩; first | trivial | rfl | ((repeat' apply And.intro) <;> first | rfl | trivial | omega | (intros; omega) | simp [top]))
  rintro i _ _ hi0 hi ⟨rfl, hq⟩
  simp only [go_sem, ↓reduceIte, Nat.reduceEqDiff, hsl, hlen]
  refine condK_lt hi (fun hi => ?_) (fun he => ?_)
  · have hi' : i < e.length := by omega
    refine draw_same ?_ (by kernel_rfl)
    simp only [go_sem, ↓reduceIte, Nat.reduceEqDiff, hsl, hlen, hsl', hlen', hi, hi', hM.get, hK.get]
    refine callQK_same (_) (by kernel_rfl) rfl (eqIntS_c _ _ _ _ _ (hM.row i hi) (hK.row i hi') (hr i hi)) ?_
    simp only [go_sem, ↓reduceIte, Nat.reduceEqDiff]
    repeat' (first | (refine gK_dec (fun p h => ?_) (fun p h => ?_) <;> simp only [go_sem, ↓reduceIte, Nat.reduceEqDiff, h]) | (refine condK_dec (fun p h => ?_) (fun p h => ?_) <;> simp only [go_sem, ↓reduceIte, Nat.reduceEqDiff, h]) | (refine gQ_dec (fun p h => ?_) (fun p h => ?_) <;> simp only [go_sem, ↓reduceIte, Nat.reduceEqDiff, h]) | (refine gQC_dec (fun p h => ?_) (fun p h => ?_) <;> simp only [go_sem, ↓reduceIte, Nat.reduceEqDiff, h]))
    · exact Ret.bool (by symm; simp only [decide_eq_false_iff_not]; intro h; subst h; exact p rfl)
    refine forK_step (()) hi hi0 ?_ ?_
    · have hib := Nat.lt_of_lt_of_le hi hN; simp only [go_sem, ↓reduceIte, Nat.reduceEqDiff, and_self, and_true, true_and, Int.ofNat_zero, Int.ofNat_one, Int.cast_ofNat_Int, wrap_succ hib]
    exact ⟨rfl, fun j hj => by
      rcases Nat.lt_or_ge j i with h | h
      · exact hq j h
      · obtain rfl : j = i := by omega
        exact Decidable.not_not.1 p⟩
  · subst he
    simp only [go_sem, ↓reduceIte, Nat.reduceEqDiff]
    exact Ret.bool (by symm; simp only [decide_eq_true_eq]; exact eq_of_getD2 hl hq)
end Go.Proofs.Ytodeldmkpogakaa

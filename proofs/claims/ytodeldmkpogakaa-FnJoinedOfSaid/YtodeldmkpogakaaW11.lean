/- Walks: what the plain laws ask of lists. -/
import Derived.Test.YtodeldmkpogakaaW0
import Derived.Test.YtodeldmkpogakaaPure4
namespace Go.Proofs.Ytodeldmkpogakaa
open Go Go.Mill
set_option maxRecDepth 100000
set_option linter.unusedSimpArgs false
set_option linter.unusedVariables false

theorem sameInts_c (S : Store) (v w : Value) (xs ys : List Int) (hI : Ints S v xs) (hJ : Ints S w ys) (hx : xs.length ≤ maxLen) :
    ACalls Try.prog 23 [v, w] S (Ret S (.bool (decide (xs = ys)))) := by
  refine ACalls.intro (ts := [4]) 26 follows Try.func23 rfl (by kernel_rfl) (by kernel_rfl) (by simp) ?_
  have hsl := hI.sl
  have hlen := hI.len
  have hsl' := hJ.sl
  have hlen' := hJ.len
  have hN : xs.length ≤ 9223372036854775807 := hx
  simp only [go_sem, ↓reduceIte, Nat.reduceEqDiff, argEnv, hsl, hlen, hsl', hlen']
  repeat' (first | (refine gK_dec (fun p h => ?_) (fun p h => ?_) <;> simp only [go_sem, ↓reduceIte, Nat.reduceEqDiff, h]) | (refine condK_dec (fun p h => ?_) (fun p h => ?_) <;> simp only [go_sem, ↓reduceIte, Nat.reduceEqDiff, h]) | (refine gQ_dec (fun p h => ?_) (fun p h => ?_) <;> simp only [go_sem, ↓reduceIte, Nat.reduceEqDiff, h]) | (refine gQC_dec (fun p h => ?_) (fun p h => ?_) <;> simp only [go_sem, ↓reduceIte, Nat.reduceEqDiff, h]))
  · exact Ret.bool (by symm; simp only [decide_eq_false_iff_not]; intro h; subst h; omega)
  have hl : xs.length = ys.length := by omega
  refine aw_count 5 [0, 1] (fun (_ : Unit) => []) (0) (xs.length) (fun i _ SS => S = SS ∧ (∀ j, j < i → xs.getD j 0 = ys.getD j 0)) (()) ?_ ?_ ?_ ?_
  · simp only [go_sem, ↓reduceIte, Nat.reduceEqDiff, and_self, and_true, true_and, Int.ofNat_zero, Int.ofNat_one, Int.cast_ofNat_Int, hsl, hlen]
  · omega
  · (refine ⟨rfl, ?_⟩; first | trivial | rfl | ((repeat' apply And.intro) <;> first | rfl | trivial | omega | (intros; omega) | simp [top]))
  rintro i _ _ hi0 hi ⟨rfl, hq⟩
  simp only [go_sem, ↓reduceIte, Nat.reduceEqDiff, hsl, hlen]
  refine condK_lt hi (fun hi => ?_) (fun he => ?_)
  · have hi' : i < ys.length := by omega
    refine draw_read ?_ (by kernel_rfl)
    simp only [go_sem, ↓reduceIte, Nat.reduceEqDiff, hsl, hlen, hsl', hlen', hi, hi', hI.get, hJ.get]
    repeat' (first | (refine gK_dec (fun p h => ?_) (fun p h => ?_) <;> simp only [go_sem, ↓reduceIte, Nat.reduceEqDiff, h]) | (refine condK_dec (fun p h => ?_) (fun p h => ?_) <;> simp only [go_sem, ↓reduceIte, Nat.reduceEqDiff, h]) | (refine gQ_dec (fun p h => ?_) (fun p h => ?_) <;> simp only [go_sem, ↓reduceIte, Nat.reduceEqDiff, h]) | (refine gQC_dec (fun p h => ?_) (fun p h => ?_) <;> simp only [go_sem, ↓reduceIte, Nat.reduceEqDiff, h]))
    · exact Ret.bool (by symm; simp only [decide_eq_false_iff_not]; intro h; subst h; omega)
    refine forK_step (()) hi hi0 ?_ ?_
    · have hib := Nat.lt_of_lt_of_le hi hN; simp only [go_sem, ↓reduceIte, Nat.reduceEqDiff, and_self, and_true, true_and, Int.ofNat_zero, Int.ofNat_one, Int.cast_ofNat_Int, wrap_succ hib]
    exact ⟨rfl, fun j hj => by
      rcases Nat.lt_or_ge j i with h | h
      · exact hq j h
      · obtain rfl : j = i := by omega
        omega⟩
  · subst he
    simp only [go_sem, ↓reduceIte, Nat.reduceEqDiff]
    exact Ret.bool (by symm; simp only [decide_eq_true_eq]; exact eq_of_getD hl hq)

theorem hasInt_c (S : Store) (v : Value) (xs : List Int) (hI : Ints S v xs) (hx : xs.length ≤ maxLen) (x : Int) :
    ACalls Try.prog 26 [v, .int .i64 x] S (Ret S (.bool (decide (x ∈ xs)))) := by
  refine ACalls.intro (ts := [4]) 18 follows Try.func26 rfl (by kernel_rfl) (by kernel_rfl) (by simp) ?_
  have hsl := hI.sl
  have hlen := hI.len
  have hN : xs.length ≤ 9223372036854775807 := hx
  simp only [go_sem, ↓reduceIte, Nat.reduceEqDiff, argEnv, hsl, hlen]
  refine aw_count 5 [0, 1] (fun (_ : Unit) => []) (0) (xs.length) (fun i _ SS => S = SS ∧ (∀ j, j < i → ¬ xs.getD j 0 = x)) (()) ?_ ?_ ?_ ?_
  · simp only [go_sem, ↓reduceIte, Nat.reduceEqDiff, and_self, and_true, true_and, Int.ofNat_zero, Int.ofNat_one, Int.cast_ofNat_Int, hsl, hlen]
  · omega
  · (refine ⟨rfl, ?_⟩; first | trivial | rfl | ((repeat' apply And.intro) <;> first | rfl | trivial | omega | (intros; omega) | simp [top]))
  rintro i _ _ hi0 hi ⟨rfl, hq⟩
  simp only [go_sem, ↓reduceIte, Nat.reduceEqDiff, hsl, hlen]
  refine condK_lt hi (fun hi => ?_) (fun he => ?_)
  · simp only [go_sem, ↓reduceIte, Nat.reduceEqDiff, hsl, hlen, hi, hI.get]
    refine condK_dec (fun q h => ?_) (fun q h => ?_)
    · simp only [go_sem, ↓reduceIte, Nat.reduceEqDiff, h]
      refine Ret.bool ?_
      symm
      simp only [decide_eq_true_eq]
      rw [← q, List.getD_eq_getElem?_getD, List.getElem?_eq_getElem hi]
      exact List.getElem_mem hi
    · simp only [go_sem, ↓reduceIte, Nat.reduceEqDiff, h]
      refine forK_step (()) hi hi0 ?_ ?_
      · have hib := Nat.lt_of_lt_of_le hi hN; simp only [go_sem, ↓reduceIte, Nat.reduceEqDiff, and_self, and_true, true_and, Int.ofNat_zero, Int.ofNat_one, Int.cast_ofNat_Int, wrap_succ hib]
      exact ⟨rfl, fun j hj => by
        rcases Nat.lt_or_ge j i with h | h
        · exact hq j h
        · obtain rfl : j = i := by omega
          exact q⟩
  · subst he
    simp only [go_sem, ↓reduceIte, Nat.reduceEqDiff]
    refine Ret.bool ?_
    symm
    simp only [decide_eq_false_iff_not]
    intro hm
    obtain ⟨i, hi, rfl⟩ := List.mem_iff_getElem.1 hm
    exact hq i hi (by simp [List.getElem?_eq_getElem hi])

theorem ascend_c (S : Store) (v : Value) (xs : List Int) (hI : Ints S v xs) (hx : xs.length ≤ maxLen) (h1 : 1 ≤ xs.length) (ha : ∀ i, 1 ≤ i → i < xs.length → xs.getD (i - 1) 0 < xs.getD i 0) :
    ACalls Try.prog 27 [v] S (Ret S (.bool true)) := by
  refine ACalls.intro (ts := [2]) 20 follows Try.func27 rfl (by kernel_rfl) (by kernel_rfl) (by simp) ?_
  have hsl := hI.sl
  have hlen := hI.len
  have hN : xs.length ≤ 9223372036854775807 := hx
  simp only [go_sem, ↓reduceIte, Nat.reduceEqDiff, argEnv, hsl, hlen]
  refine aw_count 3 [0] (fun (y : Unit) => []) (1) (xs.length) (fun i y SS => S = SS ∧ (True)) (()) ?_ ?_ ?_ ?_
  · simp only [go_sem, ↓reduceIte, Nat.reduceEqDiff, and_self, and_true, true_and, Int.ofNat_zero, Int.ofNat_one, Int.cast_ofNat_Int, hsl, hlen]
  · omega
  · (refine ⟨rfl, ?_⟩; first | trivial | rfl | ((repeat' apply And.intro) <;> first | rfl | trivial | omega | (intros; omega) | simp [top]))
  rintro i y _ hi0 hi ⟨rfl, hq⟩
  simp only [go_sem, ↓reduceIte, Nat.reduceEqDiff, hsl, hlen]
  refine condK_lt hi (fun hi => ?_) (fun he => ?_)
  · have hp : IntKind.i64.wrap ((i : Int) - 1) = ((i - 1 : Nat) : Int) := wrap_pred (by omega) (by omega)
    have hi' : i - 1 < xs.length := by omega
    have hlt : decide (xs.getD i 0 ≤ xs.getD (i - 1) 0) = false := by have := ha i hi0 hi; simp only [decide_eq_false_iff_not]; omega
    refine draw_read ?_ (by kernel_rfl)
    simp only [go_sem, ↓reduceIte, Nat.reduceEqDiff, hsl, hlen, hp, hi, hi', hI.get, hlt]
    refine forK_step (()) hi hi0 ?_ ?_
    · have hib := Nat.lt_of_lt_of_le hi hN; simp only [go_sem, ↓reduceIte, Nat.reduceEqDiff, and_self, and_true, true_and, Int.ofNat_zero, Int.ofNat_one, Int.cast_ofNat_Int, wrap_succ hib]
    exact ⟨rfl, trivial⟩
  · subst he
    simp only [go_sem, ↓reduceIte, Nat.reduceEqDiff]
    exact Ret.mk _ _
end Go.Proofs.Ytodeldmkpogakaa

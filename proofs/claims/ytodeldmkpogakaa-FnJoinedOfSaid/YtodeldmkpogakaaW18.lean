/- Walks: rows compared; draws that are draws of distances. -/
import Derived.Test.YtodeldmkpogakaaW11
import Derived.Test.YtodeldmkpogakaaW6
namespace Go.Proofs.Ytodeldmkpogakaa
open Go Go.Mill
set_option maxRecDepth 100000
set_option linter.unusedSimpArgs false
set_option linter.unusedVariables false

theorem sameRows_c (S : Store) (v w : Value) (r s : Nat → Value) (d e : List (List Int)) (hM : Mat S v r d) (hK : Mat S w s e) (hd : d.length ≤ maxLen) (hr : ∀ i, i < d.length → (d.getD i []).length ≤ maxLen) :
    ACalls Try.prog 42 [v, w] S (Ret S (.bool (decide (d = e)))) := by
  refine ACalls.intro (ts := [4]) 27 follows Try.func42 rfl (by kernel_rfl) (by kernel_rfl) (by simp) ?_
  have hsl := hM.sl
  have hlen := hM.len
  have hsl' := hK.sl
  have hlen' := hK.len
  have hN : d.length ≤ 9223372036854775807 := hd
  simp only [go_sem, ↓reduceIte, Nat.reduceEqDiff, argEnv, hsl, hlen, hsl', hlen']
  repeat' (first | (refine gK_dec (fun p h => ?_) (fun p h => ?_) <;> simp only [go_sem, ↓reduceIte, Nat.reduceEqDiff, h]) | (refine condK_dec (fun p h => ?_) (fun p h => ?_) <;> simp only [go_sem, ↓reduceIte, Nat.reduceEqDiff, h]) | (refine gQ_dec (fun p h => ?_) (fun p h => ?_) <;> simp only [go_sem, ↓reduceIte, Nat.reduceEqDiff, h]) | (refine gQC_dec (fun p h => ?_) (fun p h => ?_) <;> simp only [go_sem, ↓reduceIte, Nat.reduceEqDiff, h]))
  · exact Ret.bool (by symm; simp only [decide_eq_false_iff_not]; intro h; subst h; omega)
  have hl : d.length = e.length := by omega
  refine aw_count 5 [0, 1] (fun (_ : Unit) => []) (0) (d.length) (fun i _ SS => S = SS ∧ (∀ j, j < i → d.getD j [] = e.getD j [])) (()) ?_ ?_ ?_ ?_
  · simp only [go_sem, ↓reduceIte, Nat.reduceEqDiff, and_self, and_true, true_and, Int.ofNat_zero, Int.ofNat_one, Int.cast_ofNat_Int, hsl, hlen]
  · omega
  · (refine ⟨rfl, ?_⟩; first | trivial | rfl | ((repeat' apply And.intro) <;> first | rfl | trivial | omega | (intros; omega) | simp [top]))
  rintro i _ _ hi0 hi ⟨rfl, hq⟩
  simp only [go_sem, ↓reduceIte, Nat.reduceEqDiff, hsl, hlen]
  refine condK_lt hi (fun hi => ?_) (fun he => ?_)
  · have hi' : i < e.length := by omega
    refine draw_same ?_ (by kernel_rfl)
    simp only [go_sem, ↓reduceIte, Nat.reduceEqDiff, hsl, hlen, hsl', hlen', hi, hi', hM.get, hK.get]
    refine callQK_same (_) (by kernel_rfl) rfl (sameInts_c _ _ _ _ _ (hM.row i hi) (hK.row i hi') (hr i hi)) ?_
    simp only [go_sem, ↓reduceIte, Nat.reduceEqDiff]
    repeat' (first | (refine gK_dec (fun p h => ?_) (fun p h => ?_) <;> simp only [go_sem, ↓reduceIte, Nat.reduceEqDiff, h]) | (refine condK_dec (fun p h => ?_) (fun p h => ?_) <;> simp only [go_sem, ↓reduceIte, Nat.reduceEqDiff, h]) | (refine gQ_dec (fun p h => ?_) (fun p h => ?_) <;> simp only [go_sem, ↓reduceIte, Nat.reduceEqDiff, h]) | (refine gQC_dec (fun p h => ?_) (fun p h => ?_) <;> simp only [go_sem, ↓reduceIte, Nat.reduceEqDiff, h]))
    · exact Ret.bool (by symm; simp only [decide_eq_false_iff_not]; intro h; subst h; exact p rfl)
    refine forK_step (()) hi hi0 ?_ ?_
    · have hib := Nat.lt_of_lt_of_le hi hN; simp only [go_sem, ↓reduceIte, Nat.reduceEqDiff, and_self, and_true, true_and, Int.ofNat_zero, Int.ofNat_one, Int.cast_ofNat_Int, wrap_succ hib]
    exact ⟨rfl, fun j hj => by
      rcases Nat.lt_or_ge j i with h | h
      · exact hq j h
      · obtain rfl : j = i := by omega
        exact Decidable.not_not.1 p⟩
  · subst he
    simp only [go_sem, ↓reduceIte, Nat.reduceEqDiff]
    exact Ret.bool (by symm; simp only [decide_eq_true_eq]; exact eq_of_getD2 hl hq)

theorem DrawStepsOf_c (S : Store) (v : Value) (xs : List Int) (hI : rd S v = some (xs.map (.int .u8))) (hx : xs.length ≤ maxLen) (hb : ∀ b ∈ xs, 0 ≤ b ∧ b ≤ 255) :
    ACalls Try.prog 21 [v] S fun u S' => ∃ r d, Mat S' u r d ∧ Ext S S' ∧ d.length ≤ 6 ∧ ∀ j, (d.getD j []).length ≤ 6 := by
  refine ACalls.intro (ts := [2]) 5 follows Try.func21 rfl (by kernel_rfl) (by kernel_rfl) (by simp) ?_
  simp only [go_sem, ↓reduceIte, Nat.reduceEqDiff, argEnv]
  refine callK.intro (by kernel_rfl) (DrawFarOk_c S v xs hI hx hb) ?_
  rintro y S2 h
  simp only [go_sem, ↓reduceIte, Nat.reduceEqDiff]
  exact h
theorem DrawJoinedOf_c (S : Store) (v : Value) (xs : List Int) (hI : rd S v = some (xs.map (.int .u8))) (hx : xs.length ≤ maxLen) (hb : ∀ b ∈ xs, 0 ≤ b ∧ b ≤ 255) :
    ACalls Try.prog 46 [v] S fun u S' => ∃ r d, Mat S' u r d ∧ Ext S S' ∧ d.length ≤ 6 ∧ ∀ j, (d.getD j []).length ≤ 6 := by
  refine ACalls.intro (ts := [2]) 5 follows Try.func46 rfl (by kernel_rfl) (by kernel_rfl) (by simp) ?_
  simp only [go_sem, ↓reduceIte, Nat.reduceEqDiff, argEnv]
  refine callK.intro (by kernel_rfl) (DrawFarOk_c S v xs hI hx hb) ?_
  rintro y S2 h
  simp only [go_sem, ↓reduceIte, Nat.reduceEqDiff]
  exact h
end Go.Proofs.Ytodeldmkpogakaa

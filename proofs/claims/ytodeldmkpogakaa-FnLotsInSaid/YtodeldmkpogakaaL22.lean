/- The law FnLotsIn. -/
import Derived.Test.YtodeldmkpogakaaW7
import Derived.Test.YtodeldmkpogakaaW31
namespace Go.Proofs.Ytodeldmkpogakaa
open Go Go.Mill
set_option maxRecDepth 100000
set_option linter.unusedSimpArgs false
set_option linter.unusedVariables false

theorem DrawLotsIn_c (S : Store) (v : Value) (xs : List Int) (hI : rd S v = some (xs.map (.int .u8))) (hx : xs.length ≤ maxLen) (hb : ∀ b ∈ xs, 0 ≤ b ∧ b ≤ 255) :
    ACalls Try.prog 14 [v] S fun u S' => ∃ w x r d, u = .tuple #[w, .int .i64 x] ∧ (-9223372036854775808 ≤ x ∧ x ≤ 9223372036854775807) ∧ Mat S' w r d ∧ Ext S S' ∧ d.length ≤ 6 ∧ ∀ j, (d.getD j []).length ≤ 6 := by
  refine ACalls.intro (ts := [2, 3]) 8 follows Try.func14 rfl (by kernel_rfl) (by kernel_rfl) (by simp) ?_
  simp only [go_sem, ↓reduceIte, Nat.reduceEqDiff, argEnv]
  refine callK.intro (by kernel_rfl) (DrawLotsAt_c S v xs hI hx hb) ?_
  rintro _ S1 ⟨w, x, r, d, rfl, hxb, M1, E1, hd6, hr6⟩
  simp only [go_sem, ↓reduceIte, Nat.reduceEqDiff, atomB_sl M1.sl]
  exact ⟨_, _, _, _, rfl, hxb, M1, E1, hd6, hr6⟩

theorem FnLotsIn_c (S : Store) (v : Value) (xs : List Int) (hI : rd S v = some (xs.map (.int .u8))) (hx : xs.length ≤ maxLen) (hb : ∀ b ∈ xs, 0 ≤ b ∧ b ≤ 255) :
    ACalls Try.prog 3 [v] S fun u _ => u = .bool true := by
  refine ACalls.intro (ts := [2]) 51 follows Try.func3 rfl (by kernel_rfl) (by kernel_rfl) (by simp) ?_
  have hsl := rd_isSl hI
  have hlen : slen v = xs.length := by rw [rd_slen hI]; simp
  have m6 : (6 : Nat) ≤ maxLen := by decide
  simp only [go_sem, ↓reduceIte, Nat.reduceEqDiff, argEnv, hsl, hlen]
  refine condK_dec (fun q1 h1 => ?_) (fun q1 h1 => ?_)
  · simp only [go_sem, ↓reduceIte, Nat.reduceEqDiff, h1]
  simp only [go_sem, ↓reduceIte, Nat.reduceEqDiff, h1]
  refine callK.intro (by kernel_rfl) (DrawLotsIn_c S v xs hI hx hb) ?_
  rintro _ S1 ⟨w, x, r, d, rfl, hxb, M1, E1, hd6, hr6⟩
  have hd : d.length ≤ maxLen := by omega
  simp only [go_sem, ↓reduceIte, Nat.reduceEqDiff]
  refine callK.intro (by kernel_rfl) (iLotsIn_c _ _ _ _ M1 hd x hxb) ?_
  rintro _ S2 ⟨rfl, P2⟩
  have M2 := M1.ext P2.ext
  simp only [go_sem, ↓reduceIte, Nat.reduceEqDiff]
  refine callK.intro (by kernel_rfl) (sLotsIn_c _ _ _ _ M2 hd x hxb) ?_
  rintro _ S3 ⟨rfl, P3⟩
  have M3 := M2.ext P3.ext
  have hne : decide (¬ lotsQ d x = lotsQ d x) = false := by simp
  simp only [go_sem, ↓reduceIte, Nat.reduceEqDiff, hne, not_true_eq_false, decide_false]
  by_cases hP : IsFar d ∧ 0 ≤ x ∧ x ≤ 60
  · obtain ⟨hF, h0, h60⟩ := hP
    have e1 := lotsQ_yes hF h0 h60
    have c1 : decide (lotsQ d x < 0) = false := by rw [decide_eq_false_iff_not]; omega
    have hsl := M3.sl
    have hlen := M3.len
    have fin : ∀ S4 : Store, Mat S4 w r d → decide (lotsQ d 0 = ((d.length : Nat) : Int)) = true ∧ decide (lotsQ d 60 = 1) = true := fun _ _ => by
      rw [lotsQ_yes hF (Int.le_refl 0) (by omega), lotsQ_yes hF (by omega) (Int.le_refl 60), lots_zero hF, lots_sixty hF]
      simp
    obtain ⟨f1, f2⟩ := fin S3 M3
    simp only [go_sem, ↓reduceIte, Nat.reduceEqDiff, c1]
    by_cases h6 : x = 60
    · have c2 : decide (x = 60) = true := by rw [decide_eq_true_eq]; exact h6
      simp only [go_sem, ↓reduceIte, Nat.reduceEqDiff, c2]
      refine callK.intro (by kernel_rfl) (iLotsIn_c _ _ _ _ M3 hd 0 (by omega)) ?_
      rintro _ S4 ⟨rfl, P4⟩
      simp only [go_sem, ↓reduceIte, Nat.reduceEqDiff, hsl, hlen, f1]
      refine callK.intro (by kernel_rfl) (iLotsIn_c _ _ _ _ (M3.ext P4.ext) hd 60 (by omega)) ?_
      rintro _ S5 ⟨rfl, P5⟩
      simp only [go_sem, ↓reduceIte, Nat.reduceEqDiff, f2]
    · have c2 : decide (x = 60) = false := by rw [decide_eq_false_iff_not]; exact h6
      have w1 : IntKind.i64.wrap (x + 1) = x + 1 := wrap64 (by omega)
      simp only [go_sem, ↓reduceIte, Nat.reduceEqDiff, c2, w1]
      refine callK.intro (by kernel_rfl) (iLotsIn_c _ _ _ _ M3 hd (x + 1) (by omega)) ?_
      rintro _ S4 ⟨rfl, P4⟩
      have M4 := M3.ext P4.ext
      have c3 : decide (lotsQ d (x + 1) ≤ lotsQ d x) = true := by
        rw [decide_eq_true_eq, e1, lotsQ_yes hF (by omega) (by omega)]
        exact Int.ofNat_le.2 (lots_mono hF h0 (by omega))
      simp only [go_sem, ↓reduceIte, Nat.reduceEqDiff, c3]
      refine callK.intro (by kernel_rfl) (iLotsIn_c _ _ _ _ M4 hd 0 (by omega)) ?_
      rintro _ S5 ⟨rfl, P5⟩
      simp only [go_sem, ↓reduceIte, Nat.reduceEqDiff, hsl, hlen, f1]
      refine callK.intro (by kernel_rfl) (iLotsIn_c _ _ _ _ (M4.ext P5.ext) hd 60 (by omega)) ?_
      rintro _ S6 ⟨rfl, P6⟩
      simp only [go_sem, ↓reduceIte, Nat.reduceEqDiff, f2]
  · have e1 := lotsQ_no hP
    have c1 : decide (lotsQ d x < 0) = true := by rw [e1]; rfl
    have c2 : decide (lotsQ d x = -1) = true := by rw [e1]; rfl
    simp only [go_sem, ↓reduceIte, Nat.reduceEqDiff, c1, c2]
    refine callK.intro (by kernel_rfl) (alive_c _) ?_
    rintro _ _ ⟨rfl, -⟩
    simp only [go_sem, ↓reduceIte, Nat.reduceEqDiff]
end Go.Proofs.Ytodeldmkpogakaa

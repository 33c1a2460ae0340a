/- The law FnExactTreeOk. -/
import Derived.Test.YtodeldmkpogakaaW2
import Derived.Test.YtodeldmkpogakaaW26
import Derived.Test.YtodeldmkpogakaaW32
namespace Go.Proofs.Ytodeldmkpogakaa
open Go Go.Mill
set_option maxRecDepth 100000
set_option linter.unusedSimpArgs false
set_option linter.unusedVariables false

theorem FnExactTreeOk_c (S : Store) (v : Value) (r : Nat → Value) (d : List (List Int)) (hM : Mat S v r d) (hd : d.length ≤ maxLen) (hr : ∀ j, (d.getD j []).length ≤ maxLen) : ACalls Try.prog 8 [v] S fun u _ => u = .bool true := by
  refine ACalls.intro (ts := [2]) 27 follows Try.func8 rfl (by kernel_rfl) (by kernel_rfl) (by simp) ?_
  simp only [go_sem, ↓reduceIte, Nat.reduceEqDiff, argEnv]
  refine callK.intro (by kernel_rfl) (szIntSS_c _ _ _ _ hM hd (fun i _ => hr i) 1048576 (by omega) (by omega)) ?_
  rintro _ _ ⟨⟨y, rfl, hy1, hy2⟩, rfl⟩
  simp only [go_sem, ↓reduceIte, Nat.reduceEqDiff]
  refine condK_dec (fun p h => ?_) (fun p h => ?_)
  · simp only [go_sem, ↓reduceIte, Nat.reduceEqDiff, h]
  have hy := hy2 (by omega)
  have hd1 : d.length ≤ 1099511627776 := by omega
  have hr1 : ∀ i, i < d.length → (d.getD i []).length ≤ 1099511627776 := fun i hi => by have := hy.2 i hi; omega
  have ht := tot_le (M := 1048576) (fun j hj => hy.2 j hj) d.length (Nat.le_refl _)
  have ht2 : d.length * 1048576 ≤ 1048576 * 1048576 := Nat.mul_le_mul hy.1 (Nat.le_refl _)
  simp only [go_sem, ↓reduceIte, Nat.reduceEqDiff, h]
  have m40 : (1048576 : Nat) ≤ maxLen := by decide
  have Ha : Held 0 S S := Held.refl 0 S
  have hne : decide (¬ treeB d = treeB d) = false := by rw [decide_eq_false_iff_not]; exact fun h => h rfl
  refine callK.intro (by kernel_rfl) (toIntSS_c _ _ _ _ (hM.ext Ha.ext) hd1 hr1) ?_
  rintro _ _ ⟨rfl, rfl⟩
  simp only [go_sem, ↓reduceIte, Nat.reduceEqDiff]
  have c1 : MineT S.length (S ++ cloneOf S.length d) (mk S.length d.length) d := .inr ⟨_, _, clone_ot⟩
  have P1 : Pre S.length S (S ++ cloneOf (List.length S) d) := (Pre.refl _ _).app (Nat.le_refl _) _
  generalize hS1 : S ++ cloneOf (List.length S) d = S1 at c1 P1 ⊢
  clear hS1
  generalize mk (List.length S) d.length = cv0 at c1 ⊢
  replace Ha := Ha.pre P1
  have B1 : S.length ≤ S1.length := P1.len
  have H1 := Held.refl S.length S1
  obtain ⟨rr1, M1⟩ := (c1.held H1).mat
  refine callK.intro (by kernel_rfl) (sTreeOk_c _ _ _ _ M1 hd) ?_
  rintro _ S2 ⟨rfl, P2⟩
  simp only [go_sem, ↓reduceIte, Nat.reduceEqDiff, hne, bne_self_eq_false, Try.underlying4]
  replace Ha := Ha.pre P2
  replace H1 := H1.pre P2
  have B2 : S1.length ≤ S2.length := P2.len
  refine callK.intro (by kernel_rfl) (toIntSS_c _ _ _ _ (hM.ext Ha.ext) hd1 hr1) ?_
  rintro _ _ ⟨rfl, rfl⟩
  simp only [go_sem, ↓reduceIte, Nat.reduceEqDiff]
  have c3 : MineT S2.length (S2 ++ cloneOf S2.length d) (mk S2.length d.length) d := .inr ⟨_, _, clone_ot⟩
  have P3 : Pre S2.length S2 (S2 ++ cloneOf (List.length S2) d) := (Pre.refl _ _).app (Nat.le_refl _) _
  generalize hS3 : S2 ++ cloneOf (List.length S2) d = S3 at c3 P3 ⊢
  clear hS3
  generalize mk (List.length S2) d.length = xv0 at c3 ⊢
  replace Ha := Ha.pre P3
  have B3 : S2.length ≤ S3.length := P3.len
  have H3 := Held.refl S2.length S3
  obtain ⟨rr3, M3⟩ := (c3.held H3).mat
  refine callK.intro (by kernel_rfl) (iTreeOk_c _ _ _ _ M3 hd) ?_
  rintro _ S4 ⟨rfl, P4⟩
  simp only [go_sem, ↓reduceIte, Nat.reduceEqDiff, hne, bne_self_eq_false, Try.underlying4]
  replace Ha := Ha.pre P4
  replace H3 := H3.pre P4
  have B4 : S3.length ≤ S4.length := P4.len
  refine callK.intro (by kernel_rfl) (toIntSS_c _ _ _ _ (hM.ext Ha.ext) hd1 hr1) ?_
  rintro _ _ ⟨rfl, rfl⟩
  simp only [go_sem, ↓reduceIte, Nat.reduceEqDiff]
  have c5 : MineT S4.length (S4 ++ cloneOf S4.length d) (mk S4.length d.length) d := .inr ⟨_, _, clone_ot⟩
  have P5 : Pre S4.length S4 (S4 ++ cloneOf (List.length S4) d) := (Pre.refl _ _).app (Nat.le_refl _) _
  generalize hS5 : S4 ++ cloneOf (List.length S4) d = S5 at c5 P5 ⊢
  clear hS5
  generalize mk (List.length S4) d.length = tv0 at c5 ⊢
  replace Ha := Ha.pre P5
  replace H3 := H3.pre P5
  have B5 : S4.length ≤ S5.length := P5.len
  have H5 := Held.refl S4.length S5
  obtain ⟨ra, Ma⟩ := (c3.held H3).mat
  obtain ⟨rb, Mb⟩ := c5.mat
  refine callK.intro (by kernel_rfl) (eqIntSS_c _ _ _ _ _ _ _ Ma Mb hd (fun i _ => hr i)) ?_
  rintro _ _ ⟨rfl, rfl⟩
  simp only [go_sem, ↓reduceIte, Nat.reduceEqDiff, decide_true]
end Go.Proofs.Ytodeldmkpogakaa

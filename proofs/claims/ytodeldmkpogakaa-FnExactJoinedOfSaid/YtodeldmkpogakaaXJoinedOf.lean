/- The law FnExactJoinedOf. -/
import Derived.Test.YtodeldmkpogakaaW2
import Derived.Test.YtodeldmkpogakaaW26
import Derived.Test.YtodeldmkpogakaaW35
import Derived.Test.YtodeldmkpogakaaW36
import Derived.Test.YtodeldmkpogakaaPure15
namespace Go.Proofs.Ytodeldmkpogakaa
open Go Go.Mill
set_option maxRecDepth 100000
set_option linter.unusedSimpArgs false
set_option linter.unusedVariables false

theorem FnExactJoinedOf_c (S : Store) (v : Value) (r : Nat → Value) (d : List (List Int)) (hM : Mat S v r d) (hd : d.length ≤ maxLen) (hr : ∀ j, (d.getD j []).length ≤ maxLen) : ACalls Try.prog 12 [v] S fun u _ => u = .bool true := by
  refine ACalls.intro (ts := [2]) 69 follows Try.func12 rfl (by kernel_rfl) (by kernel_rfl) (by simp) ?_
  simp only [go_sem, ↓reduceIte, Nat.reduceEqDiff, argEnv]
  refine callK.intro (by kernel_rfl) (szIntSS_c _ _ _ _ hM hd (fun i _ => hr i) 1048576 (by omega) (by omega)) ?_
  rintro _ _ ⟨⟨y, rfl, hy1, hy2⟩, rfl⟩
  simp only [go_sem, ↓reduceIte, Nat.reduceEqDiff]
  refine condK_dec (fun p h => ?_) (fun p h => ?_)
  · simp only [go_sem, ↓reduceIte, Nat.reduceEqDiff, h]
  have hy := hy2 (by omega)
  have hd1 : d.length ≤ 1099511627776 := by omega
  have hr1 : ∀ i, i < d.length → (d.getD i []).length ≤ 1099511627776 := fun i hi => by have := hy.2 i hi; omega
  have ht := tot_le (M := 1048576) (fun j hj => hy.2 j hj) d.length (Nat.le_refl _)
  have ht2 : d.length * 1048576 ≤ 1048576 * 1048576 := Nat.mul_le_mul hy.1 (Nat.le_refl _)
  simp only [go_sem, ↓reduceIte, Nat.reduceEqDiff, h]
  have m40 : (1048576 : Nat) ≤ maxLen := by decide
  have Ha : Held 0 S S := Held.refl 0 S
  have sm := (⟨Nat.le_trans joinedV_six.1 (by omega), fun j hj => Nat.le_trans (joinedV_six.2 j hj) (by omega)⟩ : (joinedV d).length ≤ 40 ∧ ∀ j, j < (joinedV d).length → ((joinedV d).getD j []).length ≤ 40)
  have hVl : (joinedV d).length ≤ maxLen := by omega
  have hVr : ∀ j, j < (joinedV d).length → ((joinedV d).getD j []).length ≤ maxLen := fun j hj => by have := sm.2 j hj; omega
  have tV := tot_le (M := 40) (fun j hj => sm.2 j hj) (joinedV d).length (Nat.le_refl _)
  have hVk : 1 + tot (joinedV d) (joinedV d).length ≤ 9000000000000000000 := by have := Nat.mul_le_mul sm.1 (Nat.le_refl 40); omega
  refine callK.intro (by kernel_rfl) (toIntSS_c _ _ _ _ (hM.ext Ha.ext) hd1 hr1) ?_
  rintro _ _ ⟨rfl, rfl⟩
  simp only [go_sem, ↓reduceIte, Nat.reduceEqDiff]
  have c1 : MineT S.length (S ++ cloneOf S.length d) (mk S.length d.length) d := .inr ⟨_, _, clone_ot⟩
  have P1 : Pre S.length S (S ++ cloneOf (List.length S) d) := (Pre.refl _ _).app (Nat.le_refl _) _
  generalize hS1 : S ++ cloneOf (List.length S) d = S1 at c1 P1 ⊢
  clear hS1
  generalize mk (List.length S) d.length = cv0 at c1 ⊢
  replace Ha := Ha.pre P1
  have B1 : S.length ≤ S1.length := P1.len
  have H1 := Held.refl S.length S1
  obtain ⟨rr1, M1⟩ := (c1.held H1).mat
  refine callK.intro (by kernel_rfl) (sJoinedOf_c _ _ _ _ M1 hd) ?_
  rintro w0 S2 ⟨h2, P2⟩
  simp only [go_sem, ↓reduceIte, Nat.reduceEqDiff]
  replace Ha := Ha.pre P2
  replace H1 := H1.pre P2
  have H2 := Held.refl S1.length S2
  have B2 : S1.length ≤ S2.length := P2.len
  refine callK.intro (by kernel_rfl) (toIntSS_c _ _ _ _ (hM.ext Ha.ext) hd1 hr1) ?_
  rintro _ _ ⟨rfl, rfl⟩
  simp only [go_sem, ↓reduceIte, Nat.reduceEqDiff]
  have c3 : MineT S2.length (S2 ++ cloneOf S2.length d) (mk S2.length d.length) d := .inr ⟨_, _, clone_ot⟩
  have P3 : Pre S2.length S2 (S2 ++ cloneOf (List.length S2) d) := (Pre.refl _ _).app (Nat.le_refl _) _
  generalize hS3 : S2 ++ cloneOf (List.length S2) d = S3 at c3 P3 ⊢
  clear hS3
  generalize mk (List.length S2) d.length = xv0 at c3 ⊢
  replace Ha := Ha.pre P3
  replace H2 := H2.pre P3
  have B3 : S2.length ≤ S3.length := P3.len
  have H3 := Held.refl S2.length S3
  obtain ⟨rr3, M3⟩ := (c3.held H3).mat
  refine callK.intro (by kernel_rfl) (iJoinedOf_c _ _ _ _ M3 hd) ?_
  rintro g0 S4 ⟨h4, P4⟩
  simp only [go_sem, ↓reduceIte, Nat.reduceEqDiff]
  replace Ha := Ha.pre P4
  replace H2 := H2.pre P4
  replace H3 := H3.pre P4
  have H4 := Held.refl S3.length S4
  have B4 : S3.length ≤ S4.length := P4.len
  obtain ⟨rg, Mg⟩ := (h4.held H4).mat
  obtain ⟨rw', Mw⟩ := (h2.held H2).mat
  refine callK.intro (by kernel_rfl) (eqIntSS_c _ _ _ _ _ _ _ Mg Mw hVl hVr) ?_
  rintro _ _ ⟨rfl, rfl⟩
  simp only [go_sem, ↓reduceIte, Nat.reduceEqDiff, decide_true]
  clear Mg Mw
  refine callK.intro (by kernel_rfl) (toIntSS_c _ _ _ _ (hM.ext Ha.ext) hd1 hr1) ?_
  rintro _ _ ⟨rfl, rfl⟩
  simp only [go_sem, ↓reduceIte, Nat.reduceEqDiff]
  have c5 : MineT S4.length (S4 ++ cloneOf S4.length d) (mk S4.length d.length) d := .inr ⟨_, _, clone_ot⟩
  have P5 : Pre S4.length S4 (S4 ++ cloneOf (List.length S4) d) := (Pre.refl _ _).app (Nat.le_refl _) _
  generalize hS5 : S4 ++ cloneOf (List.length S4) d = S5 at c5 P5 ⊢
  clear hS5
  generalize mk (List.length S4) d.length = tv0 at c5 ⊢
  replace Ha := Ha.pre P5
  replace H2 := H2.pre P5
  replace H3 := H3.pre P5
  replace H4 := H4.pre P5
  have B5 : S4.length ≤ S5.length := P5.len
  have H5 := Held.refl S4.length S5
  obtain ⟨ra, Ma⟩ := (c3.held H3).mat
  obtain ⟨rb, Mb⟩ := c5.mat
  refine callK.intro (by kernel_rfl) (eqIntSS_c _ _ _ _ _ _ _ Ma Mb hd (fun i _ => hr i)) ?_
  rintro _ _ ⟨rfl, rfl⟩
  simp only [go_sem, ↓reduceIte, Nat.reduceEqDiff, decide_true]
  clear Ma Mb
  have lens6 : S.length ≤ S5.length := Ha.len
  refine callK.intro (by kernel_rfl) (markM_c _ _ _ _ _ c3 H3 hd (fun j _ => hr j) (1) (by omega)) ?_
  rintro _ S6 ⟨rfl, -, hl6, hk6⟩
  replace Ha := Ha.mark hl6 hk6 (by omega)
  replace H2 := H2.mark hl6 hk6 (by omega)
  replace H4 := H4.mark hl6 hk6 (by omega)
  have hneg1 : decide (((1 + tot d d.length : Nat) : Int) < 0) = false := by rw [decide_eq_false_iff_not]; omega
  simp only [go_sem, ↓reduceIte, Nat.reduceEqDiff, hneg1]
  obtain ⟨rg, Mg⟩ := (h4.held H4).mat
  obtain ⟨rw', Mw⟩ := (h2.held H2).mat
  refine callK.intro (by kernel_rfl) (eqIntSS_c _ _ _ _ _ _ _ Mg Mw hVl hVr) ?_
  rintro _ _ ⟨rfl, rfl⟩
  simp only [go_sem, ↓reduceIte, Nat.reduceEqDiff, decide_true]
  clear Mg Mw
  refine callK.intro (by kernel_rfl) (markM_c _ _ _ _ _ h4 H4 hVl hVr 1 hVk) ?_
  rintro _ S7 ⟨rfl, hg2, hl7, hk7⟩
  replace Ha := Ha.mark hl7 hk7 (by omega)
  replace H2 := H2.mark hl7 hk7 (by omega)
  have hneg2 : decide (((1 + tot (joinedV d) (joinedV d).length : Nat) : Int) < 0) = false := by rw [decide_eq_false_iff_not]; omega
  simp only [go_sem, ↓reduceIte, Nat.reduceEqDiff]
  obtain ⟨rg, Mg⟩ := hg2.mat
  refine callK.intro (by kernel_rfl) (heldIntSS_c _ _ _ 1 _ Mg hVl hVr hVk) ?_
  rintro _ _ ⟨rfl, rfl⟩
  simp only [go_sem, ↓reduceIte, Nat.reduceEqDiff, hneg2, not_true_eq_false, decide_false]
  clear Mg
  refine callK.intro (by kernel_rfl) (toIntSS_c _ _ _ _ (hM.ext Ha.ext) hd1 hr1) ?_
  rintro _ _ ⟨rfl, rfl⟩
  simp only [go_sem, ↓reduceIte, Nat.reduceEqDiff]
  have c8 : MineT S7.length (S7 ++ cloneOf S7.length d) (mk S7.length d.length) d := .inr ⟨_, _, clone_ot⟩
  have P8 : Pre S7.length S7 (S7 ++ cloneOf (List.length S7) d) := (Pre.refl _ _).app (Nat.le_refl _) _
  generalize hS8 : S7 ++ cloneOf (List.length S7) d = S8 at c8 P8 ⊢
  clear hS8
  generalize mk (List.length S7) d.length = yv0 at c8 ⊢
  replace Ha := Ha.pre P8
  replace H2 := H2.pre P8
  have B8 : S7.length ≤ S8.length := P8.len
  have H8 := Held.refl S7.length S8
  replace hg2 := hg2.held ((Held.refl _ _).pre P8)
  obtain ⟨rr8, M8⟩ := (c8.held H8).mat
  refine callK.intro (by kernel_rfl) (iJoinedOf_c _ _ _ _ M8 hd) ?_
  rintro h0 S9 ⟨h9, P9⟩
  simp only [go_sem, ↓reduceIte, Nat.reduceEqDiff]
  replace Ha := Ha.pre P9
  replace H2 := H2.pre P9
  replace H8 := H8.pre P9
  have H9 := Held.refl S8.length S9
  have B9 : S8.length ≤ S9.length := P9.len
  replace hg2 := hg2.held ((Held.refl _ _).pre P9)
  obtain ⟨rg, Mg⟩ := (h9.held H9).mat
  obtain ⟨rw', Mw⟩ := (h2.held H2).mat
  refine callK.intro (by kernel_rfl) (eqIntSS_c _ _ _ _ _ _ _ Mg Mw hVl hVr) ?_
  rintro _ _ ⟨rfl, rfl⟩
  simp only [go_sem, ↓reduceIte, Nat.reduceEqDiff, decide_true]
  clear Mg Mw
  obtain ⟨rg, Mg⟩ := hg2.mat
  refine callK.intro (by kernel_rfl) (heldIntSS_c _ _ _ 1 _ Mg hVl hVr hVk) ?_
  rintro _ _ ⟨rfl, rfl⟩
  simp only [go_sem, ↓reduceIte, Nat.reduceEqDiff, hneg2, not_true_eq_false, decide_false]
end Go.Proofs.Ytodeldmkpogakaa

/- The law FnExactCaterpillarOf. -/
import Derived.Test.YticdbohhnkpelaaW2
import Derived.Test.YticdbohhnkpelaaW26
import Derived.Test.YticdbohhnkpelaaW24
import Derived.Test.YticdbohhnkpelaaW27
import Derived.Test.YticdbohhnkpelaaPure14
namespace Go.Proofs.Yticdbohhnkpelaa
open Go Go.Mill
set_option maxRecDepth 100000
set_option linter.unusedSimpArgs false
set_option linter.unusedVariables false

theorem FnExactCaterpillarOf_c (S : Store) (vf0 : Value) (xs0 : List Int) (hI0 : rd S vf0 = some (xs0.map (.int .i64))) (hx0 : xs0.length ≤ maxLen) (vf1 : Value) (xs1 : List Int) (hI1 : rd S vf1 = some (xs1.map (.int .i64))) (hx1 : xs1.length ≤ maxLen) : ACalls Try.prog 8 [vf0, vf1] S fun u _ => u = .bool true := by
  refine ACalls.intro (ts := [4]) 114 follows Try.func8 rfl (by kernel_rfl) (by kernel_rfl) (by simp) ?_
  replace hI0 : Ints S vf0 xs0 := hI0
  have hsl0 := hI0.sl
  have hlen0 := hI0.len
  replace hI1 : Ints S vf1 xs1 := hI1
  have hsl1 := hI1.sl
  have hlen1 := hI1.len
  simp only [go_sem, ↓reduceIte, Nat.reduceEqDiff, argEnv, hsl0, hlen0, hsl1, hlen1]
  refine condK_dec (fun p h => ?_) (fun p h => ?_)
  · simp only [go_sem, ↓reduceIte, Nat.reduceEqDiff, h]
  have hz0 : xs0.length ≤ 1099511627776 := by omega
  simp only [go_sem, ↓reduceIte, Nat.reduceEqDiff, h, hsl0, hlen0, hsl1, hlen1]
  refine condK_dec (fun p h => ?_) (fun p h => ?_)
  · simp only [go_sem, ↓reduceIte, Nat.reduceEqDiff, h]
  have hz1 : xs1.length ≤ 1099511627776 := by omega
  simp only [go_sem, ↓reduceIte, Nat.reduceEqDiff, h, hsl0, hlen0, hsl1, hlen1]
  have m40 : (1048576 : Nat) ≤ maxLen := by decide
  have Ha : Held 0 S S := Held.refl 0 S
  have sm := (⟨Nat.le_trans catV_small.1 (by omega), fun j hj => Nat.le_trans (catV_small.2 j) (by omega)⟩ : (catV xs0 xs1).length ≤ 40 ∧ ∀ j, j < (catV xs0 xs1).length → ((catV xs0 xs1).getD j []).length ≤ 40)
  have hVl : (catV xs0 xs1).length ≤ maxLen := by omega
  have hVr : ∀ j, j < (catV xs0 xs1).length → ((catV xs0 xs1).getD j []).length ≤ maxLen := fun j hj => by have := sm.2 j hj; omega
  have tV := tot_le (M := 40) (fun j hj => sm.2 j hj) (catV xs0 xs1).length (Nat.le_refl _)
  have hVk : 1 + tot (catV xs0 xs1) (catV xs0 xs1).length ≤ 9000000000000000000 := by have := Nat.mul_le_mul sm.1 (Nat.le_refl 40); omega
  refine callK.intro (by kernel_rfl) (toIntS_c _ _ _ (hI0.ext Ha.ext) hz0) ?_
  rintro _ _ ⟨rfl, rfl⟩
  simp only [go_sem, ↓reduceIte, Nat.reduceEqDiff]
  have c1 : Mine S.length (S ++ [.own (ints xs0)]) (mk S.length xs0.length) xs0 := .inr ⟨_, copy_ol⟩
  have P1 : Pre S.length S (S ++ [Ob.own (ints xs0)]) := (Pre.refl _ _).app (Nat.le_refl _) _
  generalize hS1 : S ++ [Ob.own (ints xs0)] = S1 at c1 P1 ⊢
  clear hS1
  generalize mk (List.length S) xs0.length = cv0 at c1 ⊢
  replace Ha := Ha.pre P1
  have B1 : S.length ≤ S1.length := P1.len
  have H1 := Held.refl S.length S1
  refine callK.intro (by kernel_rfl) (toIntS_c _ _ _ (hI1.ext Ha.ext) hz1) ?_
  rintro _ _ ⟨rfl, rfl⟩
  simp only [go_sem, ↓reduceIte, Nat.reduceEqDiff]
  have c2 : Mine S1.length (S1 ++ [.own (ints xs1)]) (mk S1.length xs1.length) xs1 := .inr ⟨_, copy_ol⟩
  have P2 : Pre S1.length S1 (S1 ++ [Ob.own (ints xs1)]) := (Pre.refl _ _).app (Nat.le_refl _) _
  generalize hS2 : S1 ++ [Ob.own (ints xs1)] = S2 at c2 P2 ⊢
  clear hS2
  generalize mk (List.length S1) xs1.length = cv1 at c2 ⊢
  replace Ha := Ha.pre P2
  replace H1 := H1.pre P2
  have B2 : S1.length ≤ S2.length := P2.len
  have H2 := Held.refl S1.length S2
  have M1 := (c1.held H1).ints
  have M2 := (c2.held H2).ints
  refine callK.intro (by kernel_rfl) (sCaterpillarOf_c _ _ _ M1 hx0 _ _ M2 hx1) ?_
  rintro _ S3 ⟨⟨w0, rfl, h3⟩, P3⟩
  simp only [go_sem, ↓reduceIte, Nat.reduceEqDiff]
  replace Ha := Ha.pre P3
  replace H1 := H1.pre P3
  replace H2 := H2.pre P3
  have H3 := Held.refl S2.length S3
  have B3 : S2.length ≤ S3.length := P3.len
  refine callK.intro (by kernel_rfl) (toIntS_c _ _ _ (hI0.ext Ha.ext) hz0) ?_
  rintro _ _ ⟨rfl, rfl⟩
  simp only [go_sem, ↓reduceIte, Nat.reduceEqDiff]
  have c4 : Mine S3.length (S3 ++ [.own (ints xs0)]) (mk S3.length xs0.length) xs0 := .inr ⟨_, copy_ol⟩
  have P4 : Pre S3.length S3 (S3 ++ [Ob.own (ints xs0)]) := (Pre.refl _ _).app (Nat.le_refl _) _
  generalize hS4 : S3 ++ [Ob.own (ints xs0)] = S4 at c4 P4 ⊢
  clear hS4
  generalize mk (List.length S3) xs0.length = xv0 at c4 ⊢
  replace Ha := Ha.pre P4
  replace H3 := H3.pre P4
  have B4 : S3.length ≤ S4.length := P4.len
  have H4 := Held.refl S3.length S4
  refine callK.intro (by kernel_rfl) (toIntS_c _ _ _ (hI1.ext Ha.ext) hz1) ?_
  rintro _ _ ⟨rfl, rfl⟩
  simp only [go_sem, ↓reduceIte, Nat.reduceEqDiff]
  have c5 : Mine S4.length (S4 ++ [.own (ints xs1)]) (mk S4.length xs1.length) xs1 := .inr ⟨_, copy_ol⟩
  have P5 : Pre S4.length S4 (S4 ++ [Ob.own (ints xs1)]) := (Pre.refl _ _).app (Nat.le_refl _) _
  generalize hS5 : S4 ++ [Ob.own (ints xs1)] = S5 at c5 P5 ⊢
  clear hS5
  generalize mk (List.length S4) xs1.length = xv1 at c5 ⊢
  replace Ha := Ha.pre P5
  replace H3 := H3.pre P5
  replace H4 := H4.pre P5
  have B5 : S4.length ≤ S5.length := P5.len
  have H5 := Held.refl S4.length S5
  have M4 := (c4.held H4).ints
  have M5 := (c5.held H5).ints
  refine callK.intro (by kernel_rfl) (iCaterpillarOf_c _ _ _ M4 hx0 _ _ M5 hx1) ?_
  rintro _ S6 ⟨⟨g0, rfl, h6⟩, P6⟩
  simp only [go_sem, ↓reduceIte, Nat.reduceEqDiff]
  replace Ha := Ha.pre P6
  replace H3 := H3.pre P6
  replace H4 := H4.pre P6
  replace H5 := H5.pre P6
  have H6 := Held.refl S5.length S6
  have B6 : S5.length ≤ S6.length := P6.len
  obtain ⟨rg, Mg⟩ := (h6.held H6).mat
  obtain ⟨rw', Mw⟩ := (h3.held H3).mat
  refine callK.intro (by kernel_rfl) (eqIntSS_c _ _ _ _ _ _ _ Mg Mw hVl hVr) ?_
  rintro _ _ ⟨rfl, rfl⟩
  simp only [go_sem, ↓reduceIte, Nat.reduceEqDiff, decide_true, bne_self_eq_false, Try.underlying4]
  clear Mg Mw
  refine callK.intro (by kernel_rfl) (toIntS_c _ _ _ (hI0.ext Ha.ext) hz0) ?_
  rintro _ _ ⟨rfl, rfl⟩
  simp only [go_sem, ↓reduceIte, Nat.reduceEqDiff]
  have c7 : Mine S6.length (S6 ++ [.own (ints xs0)]) (mk S6.length xs0.length) xs0 := .inr ⟨_, copy_ol⟩
  have P7 : Pre S6.length S6 (S6 ++ [Ob.own (ints xs0)]) := (Pre.refl _ _).app (Nat.le_refl _) _
  generalize hS7 : S6 ++ [Ob.own (ints xs0)] = S7 at c7 P7 ⊢
  clear hS7
  generalize mk (List.length S6) xs0.length = tv0 at c7 ⊢
  replace Ha := Ha.pre P7
  replace H3 := H3.pre P7
  replace H4 := H4.pre P7
  replace H5 := H5.pre P7
  replace H6 := H6.pre P7
  have B7 : S6.length ≤ S7.length := P7.len
  have H7 := Held.refl S6.length S7
  have Ma := (c4.held H4).ints
  have Mb := c7.ints
  refine callK.intro (by kernel_rfl) (eqIntS_c _ _ _ _ _ Ma Mb hx0) ?_
  rintro _ _ ⟨rfl, rfl⟩
  simp only [go_sem, ↓reduceIte, Nat.reduceEqDiff, decide_true]
  clear Ma Mb
  refine callK.intro (by kernel_rfl) (toIntS_c _ _ _ (hI1.ext Ha.ext) hz1) ?_
  rintro _ _ ⟨rfl, rfl⟩
  simp only [go_sem, ↓reduceIte, Nat.reduceEqDiff]
  have c8 : Mine S7.length (S7 ++ [.own (ints xs1)]) (mk S7.length xs1.length) xs1 := .inr ⟨_, copy_ol⟩
  have P8 : Pre S7.length S7 (S7 ++ [Ob.own (ints xs1)]) := (Pre.refl _ _).app (Nat.le_refl _) _
  generalize hS8 : S7 ++ [Ob.own (ints xs1)] = S8 at c8 P8 ⊢
  clear hS8
  generalize mk (List.length S7) xs1.length = tv1 at c8 ⊢
  replace Ha := Ha.pre P8
  replace H3 := H3.pre P8
  replace H4 := H4.pre P8
  replace H5 := H5.pre P8
  replace H6 := H6.pre P8
  have B8 : S7.length ≤ S8.length := P8.len
  have H8 := Held.refl S7.length S8
  have Ma := (c5.held H5).ints
  have Mb := c8.ints
  refine callK.intro (by kernel_rfl) (eqIntS_c _ _ _ _ _ Ma Mb hx1) ?_
  rintro _ _ ⟨rfl, rfl⟩
  simp only [go_sem, ↓reduceIte, Nat.reduceEqDiff, decide_true]
  clear Ma Mb
  have lens9 : S.length ≤ S8.length := Ha.len
  refine callK.intro (by kernel_rfl) (markN_c _ _ _ _ _ c4 H4 hx0 (1) (by omega)) ?_
  rintro _ S9 ⟨rfl, -, hl9, hk9⟩
  replace Ha := Ha.mark hl9 hk9 (by omega)
  replace H3 := H3.mark hl9 hk9 (by omega)
  replace H5 := H5.mark hl9 hk9 (by omega)
  replace H6 := H6.mark hl9 hk9 (by omega)
  simp only [go_sem, ↓reduceIte, Nat.reduceEqDiff]
  have lens10 : S.length ≤ S9.length := Ha.len
  refine callK.intro (by kernel_rfl) (markN_c _ _ _ _ _ c5 H5 hx1 (1 + xs0.length) (by omega)) ?_
  rintro _ S10 ⟨rfl, -, hl10, hk10⟩
  replace Ha := Ha.mark hl10 hk10 (by omega)
  replace H3 := H3.mark hl10 hk10 (by omega)
  replace H6 := H6.mark hl10 hk10 (by omega)
  have hneg1 : decide (((1 + xs0.length + xs1.length : Nat) : Int) < 0) = false := by rw [decide_eq_false_iff_not]; omega
  simp only [go_sem, ↓reduceIte, Nat.reduceEqDiff, hneg1]
  obtain ⟨rg, Mg⟩ := (h6.held H6).mat
  obtain ⟨rw', Mw⟩ := (h3.held H3).mat
  refine callK.intro (by kernel_rfl) (eqIntSS_c _ _ _ _ _ _ _ Mg Mw hVl hVr) ?_
  rintro _ _ ⟨rfl, rfl⟩
  simp only [go_sem, ↓reduceIte, Nat.reduceEqDiff, decide_true, bne_self_eq_false, Try.underlying4]
  clear Mg Mw
  refine callK.intro (by kernel_rfl) (markM_c _ _ _ _ _ h6 H6 hVl hVr 1 hVk) ?_
  rintro _ S11 ⟨rfl, hg2, hl11, hk11⟩
  replace Ha := Ha.mark hl11 hk11 (by omega)
  replace H3 := H3.mark hl11 hk11 (by omega)
  have hneg2 : decide (((1 + tot (catV xs0 xs1) (catV xs0 xs1).length : Nat) : Int) < 0) = false := by rw [decide_eq_false_iff_not]; omega
  simp only [go_sem, ↓reduceIte, Nat.reduceEqDiff]
  obtain ⟨rg, Mg⟩ := hg2.mat
  refine callK.intro (by kernel_rfl) (heldIntSS_c _ _ _ 1 _ Mg hVl hVr hVk) ?_
  rintro _ _ ⟨rfl, rfl⟩
  simp only [go_sem, ↓reduceIte, Nat.reduceEqDiff, hneg2, not_true_eq_false, decide_false]
  clear Mg
  refine callK.intro (by kernel_rfl) (toIntS_c _ _ _ (hI0.ext Ha.ext) hz0) ?_
  rintro _ _ ⟨rfl, rfl⟩
  simp only [go_sem, ↓reduceIte, Nat.reduceEqDiff]
  have c12 : Mine S11.length (S11 ++ [.own (ints xs0)]) (mk S11.length xs0.length) xs0 := .inr ⟨_, copy_ol⟩
  have P12 : Pre S11.length S11 (S11 ++ [Ob.own (ints xs0)]) := (Pre.refl _ _).app (Nat.le_refl _) _
  generalize hS12 : S11 ++ [Ob.own (ints xs0)] = S12 at c12 P12 ⊢
  clear hS12
  generalize mk (List.length S11) xs0.length = yv0 at c12 ⊢
  replace Ha := Ha.pre P12
  replace H3 := H3.pre P12
  have B12 : S11.length ≤ S12.length := P12.len
  have H12 := Held.refl S11.length S12
  replace hg2 := hg2.held ((Held.refl _ _).pre P12)
  refine callK.intro (by kernel_rfl) (toIntS_c _ _ _ (hI1.ext Ha.ext) hz1) ?_
  rintro _ _ ⟨rfl, rfl⟩
  simp only [go_sem, ↓reduceIte, Nat.reduceEqDiff]
  have c13 : Mine S12.length (S12 ++ [.own (ints xs1)]) (mk S12.length xs1.length) xs1 := .inr ⟨_, copy_ol⟩
  have P13 : Pre S12.length S12 (S12 ++ [Ob.own (ints xs1)]) := (Pre.refl _ _).app (Nat.le_refl _) _
  generalize hS13 : S12 ++ [Ob.own (ints xs1)] = S13 at c13 P13 ⊢
  clear hS13
  generalize mk (List.length S12) xs1.length = yv1 at c13 ⊢
  replace Ha := Ha.pre P13
  replace H3 := H3.pre P13
  replace H12 := H12.pre P13
  have B13 : S12.length ≤ S13.length := P13.len
  have H13 := Held.refl S12.length S13
  replace hg2 := hg2.held ((Held.refl _ _).pre P13)
  have M12 := (c12.held H12).ints
  have M13 := (c13.held H13).ints
  refine callK.intro (by kernel_rfl) (iCaterpillarOf_c _ _ _ M12 hx0 _ _ M13 hx1) ?_
  rintro _ S14 ⟨⟨h0, rfl, h14⟩, P14⟩
  simp only [go_sem, ↓reduceIte, Nat.reduceEqDiff]
  replace Ha := Ha.pre P14
  replace H3 := H3.pre P14
  replace H12 := H12.pre P14
  replace H13 := H13.pre P14
  have H14 := Held.refl S13.length S14
  have B14 : S13.length ≤ S14.length := P14.len
  replace hg2 := hg2.held ((Held.refl _ _).pre P14)
  obtain ⟨rg, Mg⟩ := (h14.held H14).mat
  obtain ⟨rw', Mw⟩ := (h3.held H3).mat
  refine callK.intro (by kernel_rfl) (eqIntSS_c _ _ _ _ _ _ _ Mg Mw hVl hVr) ?_
  rintro _ _ ⟨rfl, rfl⟩
  simp only [go_sem, ↓reduceIte, Nat.reduceEqDiff, decide_true, bne_self_eq_false, Try.underlying4]
  clear Mg Mw
  obtain ⟨rg, Mg⟩ := hg2.mat
  refine callK.intro (by kernel_rfl) (heldIntSS_c _ _ _ 1 _ Mg hVl hVr hVk) ?_
  rintro _ _ ⟨rfl, rfl⟩
  simp only [go_sem, ↓reduceIte, Nat.reduceEqDiff, hneg2, not_true_eq_false, decide_false]
end Go.Proofs.Yticdbohhnkpelaa

/- Walks: the worst gap; trees. -/
import Derived.Test.YtodeldmkpogakaaW30
namespace Go.Proofs.Ytodeldmkpogakaa
open Go Go.Mill
set_option maxRecDepth 100000
set_option linter.unusedSimpArgs false
set_option linter.unusedVariables false

theorem worstGap_c (S : Store) (v : Value) (r : Nat → Value) (d : List (List Int)) (hM : Mat S v r d) (hS : IsSpace d) :
    ACalls Try.prog 69 [v] S fun u S' => u = .int .i64 (vA d d.length 0) ∧ Pre S.length S S' := by
  refine ACalls.intro (ts := [2]) 41 follows Try.func69 rfl (by kernel_rfl) (by kernel_rfl) (by simp) ?_
  have hsl := hM.sl
  have hlen := hM.len
  have h6 := hS.1.2.1
  have hN : d.length ≤ 9223372036854775807 := by omega
  simp only [go_sem, ↓reduceIte, Nat.reduceEqDiff, argEnv, hsl, hlen]
  refine aw_count 10 [0, 9] (fun (y : Int) => [(3, .int .i64 y)]) (0) (d.length) (fun a y SS => Pre S.length S SS ∧ y = wA d d.length a 0) (0) ?_ ?_ ?_ ?_
  · simp only [go_sem, ↓reduceIte, Nat.reduceEqDiff, and_self, and_true, true_and, Int.ofNat_zero, Int.ofNat_one, Int.cast_ofNat_Int, hsl, hlen]
  · omega
  rotate_left
  rintro a y Sa ha0 ha ⟨P1, rfl⟩
  simp only [go_sem, ↓reduceIte, Nat.reduceEqDiff, hsl, hlen]
  refine condK_lt ha (fun ha => ?_) (fun he => ?_)
  · simp only [go_sem, ↓reduceIte, Nat.reduceEqDiff, hsl, hlen]
    refine aw_count 15 [0, 4, 9, 10, 14] (fun (y2 : Int) => [(3, .int .i64 y2)]) (0) (d.length) (fun b y2 SS => Pre S.length S SS ∧ y2 = wB d a d.length b (wA d d.length a 0)) (wA d d.length a 0) ?_ ?_ ?_ ?_
    · simp only [go_sem, ↓reduceIte, Nat.reduceEqDiff, and_self, and_true, true_and, Int.ofNat_zero, Int.ofNat_one, Int.cast_ofNat_Int, hsl, hlen]
    · omega
    rotate_left
    rintro b y2 Sb hb0 hb ⟨P2, rfl⟩
    simp only [go_sem, ↓reduceIte, Nat.reduceEqDiff, hsl, hlen]
    refine condK_lt hb (fun hb => ?_) (fun he => ?_)
    · simp only [go_sem, ↓reduceIte, Nat.reduceEqDiff, hsl, hlen]
      refine aw_count 20 [0, 4, 5, 9, 10, 14, 15, 19] (fun (y3 : Int) => [(3, .int .i64 y3)]) (0) (d.length) (fun c y3 SS => Pre S.length S SS ∧ y3 = wC d a b d.length c (wB d a d.length b (wA d d.length a 0))) (wB d a d.length b (wA d d.length a 0)) ?_ ?_ ?_ ?_
      · simp only [go_sem, ↓reduceIte, Nat.reduceEqDiff, and_self, and_true, true_and, Int.ofNat_zero, Int.ofNat_one, Int.cast_ofNat_Int, hsl, hlen]
      · omega
      rotate_left
      rintro c y3 Sc hc0 hc ⟨P3, rfl⟩
      simp only [go_sem, ↓reduceIte, Nat.reduceEqDiff, hsl, hlen]
      refine condK_lt hc (fun hc => ?_) (fun he => ?_)
      · simp only [go_sem, ↓reduceIte, Nat.reduceEqDiff, hsl, hlen]
        refine aw_count 25 [0, 4, 5, 6, 9, 10, 14, 15, 19, 20, 24] (fun (y4 : Int) => [(3, .int .i64 y4)]) (0) (d.length) (fun e y4 SS => Pre S.length S SS ∧ y4 = wE d a b c e (wC d a b d.length c (wB d a d.length b (wA d d.length a 0)))) (wC d a b d.length c (wB d a d.length b (wA d d.length a 0))) ?_ ?_ ?_ ?_
        · simp only [go_sem, ↓reduceIte, Nat.reduceEqDiff, and_self, and_true, true_and, Int.ofNat_zero, Int.ofNat_one, Int.cast_ofNat_Int, hsl, hlen]
        · omega
        rotate_left
        rintro e y4 Se he0 he ⟨P4, rfl⟩
        simp only [go_sem, ↓reduceIte, Nat.reduceEqDiff, hsl, hlen]
        refine condK_lt he (fun he => ?_) (fun he => ?_)
        · simp only [go_sem, ↓reduceIte, Nat.reduceEqDiff, hsl, hlen]
          refine callK.intro (by kernel_rfl) (gapOf_c _ _ _ _ (hM.ext P4.ext) hS a b c e ha hb hc he) ?_
          rintro _ T ⟨rfl, P5⟩
          simp only [go_sem, ↓reduceIte, Nat.reduceEqDiff]
          refine forK_step (max (wE d a b c e (wC d a b d.length c (wB d a d.length b (wA d d.length a 0)))) (gapN d a b c e)) he he0 ?_ ?_
          · have hib := Nat.lt_of_lt_of_le he hN; simp only [go_sem, ↓reduceIte, Nat.reduceEqDiff, and_self, and_true, true_and, Int.ofNat_zero, Int.ofNat_one, Int.cast_ofNat_Int, wrap_succ hib]
          exact ⟨P4.trans (P5.mono P4.len), rfl⟩
        · subst he
          simp only [go_sem, ↓reduceIte, Nat.reduceEqDiff]
          refine forK_step (wE d a b c d.length (wC d a b d.length c (wB d a d.length b (wA d d.length a 0)))) hc hc0 ?_ ?_
          · have hib := Nat.lt_of_lt_of_le hc hN; simp only [go_sem, ↓reduceIte, Nat.reduceEqDiff, and_self, and_true, true_and, Int.ofNat_zero, Int.ofNat_one, Int.cast_ofNat_Int, wrap_succ hib]
          exact ⟨P4, rfl⟩
        · exact ⟨P3, rfl⟩
      · subst he
        simp only [go_sem, ↓reduceIte, Nat.reduceEqDiff]
        refine forK_step (wC d a b d.length d.length (wB d a d.length b (wA d d.length a 0))) hb hb0 ?_ ?_
        · have hib := Nat.lt_of_lt_of_le hb hN; simp only [go_sem, ↓reduceIte, Nat.reduceEqDiff, and_self, and_true, true_and, Int.ofNat_zero, Int.ofNat_one, Int.cast_ofNat_Int, wrap_succ hib]
        exact ⟨P3, rfl⟩
      · exact ⟨P2, rfl⟩
    · subst he
      simp only [go_sem, ↓reduceIte, Nat.reduceEqDiff]
      refine forK_step (wB d a d.length d.length (wA d d.length a 0)) ha ha0 ?_ ?_
      · have hib := Nat.lt_of_lt_of_le ha hN; simp only [go_sem, ↓reduceIte, Nat.reduceEqDiff, and_self, and_true, true_and, Int.ofNat_zero, Int.ofNat_one, Int.cast_ofNat_Int, wrap_succ hib]
      exact ⟨P2, rfl⟩
    · exact ⟨P1, rfl⟩
  · subst he
    simp only [go_sem, ↓reduceIte, Nat.reduceEqDiff]
    exact ⟨by rw [worst_eq hS], P1⟩
  · exact ⟨Pre.refl _ _, rfl⟩

theorem iWorstGap_c (S : Store) (v : Value) (r : Nat → Value) (d : List (List Int)) (hM : Mat S v r d) (hd : d.length ≤ maxLen) :
    ACalls Try.prog 32 [v] S fun u S' => u = .int .i64 (worstV d) ∧ Pre S.length S S' := by
  refine ACalls.intro (ts := [2]) 8 follows Try.func32 rfl (by kernel_rfl) (by kernel_rfl) (by simp) ?_
  simp only [go_sem, ↓reduceIte, Nat.reduceEqDiff, argEnv]
  refine callK.intro (by kernel_rfl) (isSpace_c S v r d hM hd) ?_
  rintro _ _ ⟨rfl, rfl⟩
  simp only [go_sem, ↓reduceIte, Nat.reduceEqDiff]
  cases hF : spaceB d with
  | false =>
    simp only [go_sem, ↓reduceIte, Nat.reduceEqDiff]
    exact ⟨by rw [worst_no hF], Pre.refl _ _⟩
  | true =>
    have hS := spaceB_is hF
    simp only [go_sem, ↓reduceIte, Nat.reduceEqDiff]
    refine callK.intro (by kernel_rfl) (worstGap_c S v r d hM hS) ?_
    rintro _ S1 ⟨rfl, P1⟩
    simp only [go_sem, ↓reduceIte, Nat.reduceEqDiff]
    exact ⟨by rw [worst_yes hS], P1⟩

theorem iTreeOk_c (S : Store) (v : Value) (r : Nat → Value) (d : List (List Int)) (hM : Mat S v r d) (hd : d.length ≤ maxLen) :
    ACalls Try.prog 34 [v] S fun u S' => u = .bool (treeB d) ∧ Pre S.length S S' := by
  refine ACalls.intro (ts := [2]) 10 follows Try.func34 rfl (by kernel_rfl) (by kernel_rfl) (by simp) ?_
  simp only [go_sem, ↓reduceIte, Nat.reduceEqDiff, argEnv]
  refine callK.intro (by kernel_rfl) (isSpace_c S v r d hM hd) ?_
  rintro _ _ ⟨rfl, rfl⟩
  simp only [go_sem, ↓reduceIte, Nat.reduceEqDiff]
  cases hF : spaceB d with
  | false =>
    simp only [go_sem, ↓reduceIte, Nat.reduceEqDiff]
    exact ⟨by simp [treeB, worst_no hF], Pre.refl _ _⟩
  | true =>
    have hS := spaceB_is hF
    simp only [go_sem, ↓reduceIte, Nat.reduceEqDiff]
    refine callK.intro (by kernel_rfl) (worstGap_c S v r d hM hS) ?_
    rintro _ S1 ⟨rfl, P1⟩
    simp only [go_sem, ↓reduceIte, Nat.reduceEqDiff]
    exact ⟨by simp [treeB, worst_yes hS], P1⟩

theorem sWorstGap_c (S : Store) (v : Value) (r : Nat → Value) (d : List (List Int)) (hM : Mat S v r d) (hd : d.length ≤ maxLen) :
    ACalls Try.prog 31 [v] S fun u S' => u = .int .i64 (worstV d) ∧ Pre S.length S S' := by
  refine ACalls.intro (ts := [2]) 41 follows Try.func31 rfl (by kernel_rfl) (by kernel_rfl) (by simp) ?_
  have hsl := hM.sl
  have hlen := hM.len
  simp only [go_sem, ↓reduceIte, Nat.reduceEqDiff, argEnv]
  refine callK.intro (by kernel_rfl) (sSpaceOk_c S v r d hM hd) ?_
  rintro _ _ ⟨rfl, rfl⟩
  simp only [go_sem, ↓reduceIte, Nat.reduceEqDiff]
  cases hF : spaceB d with
  | false =>
    simp only [go_sem, ↓reduceIte, Nat.reduceEqDiff]
    exact ⟨by rw [worst_no hF], Pre.refl _ _⟩
  | true =>
    have hS := spaceB_is hF
    have h6 := hS.1.2.1
    have hN : d.length ≤ 9223372036854775807 := by omega
    simp only [go_sem, ↓reduceIte, Nat.reduceEqDiff, hsl, hlen]
    refine aw_count 4 [0] (fun (y : Int) => [(3, .int .i64 y)]) (0) (d.length) (fun a y SS => Pre S.length S SS ∧ y = vA d a 0) (0) ?_ ?_ ?_ ?_
    · simp only [go_sem, ↓reduceIte, Nat.reduceEqDiff, and_self, and_true, true_and, Int.ofNat_zero, Int.ofNat_one, Int.cast_ofNat_Int, hsl, hlen]
    · omega
    rotate_left
    rintro a y Sa ha0 ha ⟨P1, rfl⟩
    simp only [go_sem, ↓reduceIte, Nat.reduceEqDiff, hsl, hlen]
    refine condK_lt ha (fun ha => ?_) (fun he => ?_)
    · have hNa : a ≤ 9223372036854775807 := by omega
      simp only [go_sem, ↓reduceIte, Nat.reduceEqDiff, hsl, hlen]
      refine aw_count 5 [0, 4] (fun (y2 : Int) => [(3, .int .i64 y2)]) (0) (a) (fun b y2 SS => Pre S.length S SS ∧ y2 = vB d a b (vA d a 0)) (vA d a 0) ?_ ?_ ?_ ?_
      · simp only [go_sem, ↓reduceIte, Nat.reduceEqDiff, and_self, and_true, true_and, Int.ofNat_zero, Int.ofNat_one, Int.cast_ofNat_Int, hsl, hlen]
      · omega
      rotate_left
      rintro b y2 Sb hb0 hb ⟨P2, rfl⟩
      simp only [go_sem, ↓reduceIte, Nat.reduceEqDiff, hsl, hlen]
      refine condK_lt hb (fun hb => ?_) (fun he => ?_)
      · have hNb : b ≤ 9223372036854775807 := by omega
        simp only [go_sem, ↓reduceIte, Nat.reduceEqDiff, hsl, hlen]
        refine aw_count 6 [0, 4, 5] (fun (y3 : Int) => [(3, .int .i64 y3)]) (0) (b) (fun c y3 SS => Pre S.length S SS ∧ y3 = vC d a b c (vB d a b (vA d a 0))) (vB d a b (vA d a 0)) ?_ ?_ ?_ ?_
        · simp only [go_sem, ↓reduceIte, Nat.reduceEqDiff, and_self, and_true, true_and, Int.ofNat_zero, Int.ofNat_one, Int.cast_ofNat_Int, hsl, hlen]
        · omega
        rotate_left
        rintro c y3 Sc hc0 hc ⟨P3, rfl⟩
        simp only [go_sem, ↓reduceIte, Nat.reduceEqDiff, hsl, hlen]
        refine condK_lt hc (fun hc => ?_) (fun he => ?_)
        · have hNc : c ≤ 9223372036854775807 := by omega
          simp only [go_sem, ↓reduceIte, Nat.reduceEqDiff, hsl, hlen]
          refine aw_count 7 [0, 4, 5, 6] (fun (y4 : Int) => [(3, .int .i64 y4)]) (0) (c) (fun e y4 SS => Pre S.length S SS ∧ y4 = wE d a b c e (vC d a b c (vB d a b (vA d a 0)))) (vC d a b c (vB d a b (vA d a 0))) ?_ ?_ ?_ ?_
          · simp only [go_sem, ↓reduceIte, Nat.reduceEqDiff, and_self, and_true, true_and, Int.ofNat_zero, Int.ofNat_one, Int.cast_ofNat_Int, hsl, hlen]
          · omega
          rotate_left
          rintro e y4 Se he0 he ⟨P4, rfl⟩
          simp only [go_sem, ↓reduceIte, Nat.reduceEqDiff, hsl, hlen]
          refine condK_lt he (fun he => ?_) (fun he => ?_)
          · simp only [go_sem, ↓reduceIte, Nat.reduceEqDiff, hsl, hlen]
            refine callK.intro (by kernel_rfl) (sGapOf_c _ _ _ _ (hM.ext P4.ext) hd a (by omega) b (by omega) c (by omega) e (by omega)) ?_
            rintro _ T ⟨rfl, P5⟩
            have e1 := gapV_nat hS ha (show b < d.length by omega) (show c < d.length by omega) (show e < d.length by omega)
            rw [e1]
            simp only [go_sem, ↓reduceIte, Nat.reduceEqDiff]
            refine forK_step (max (wE d a b c e (vC d a b c (vB d a b (vA d a 0)))) (gapN d a b c e)) he he0 ?_ ?_
            · have hib := Nat.lt_of_lt_of_le he hNc; simp only [go_sem, ↓reduceIte, Nat.reduceEqDiff, and_self, and_true, true_and, Int.ofNat_zero, Int.ofNat_one, Int.cast_ofNat_Int, wrap_succ hib]
            exact ⟨P4.trans (P5.mono P4.len), rfl⟩
          · have := he
            subst he
            simp only [go_sem, ↓reduceIte, Nat.reduceEqDiff]
            refine forK_step (wE d a b e e (vC d a b e (vB d a b (vA d a 0)))) hc hc0 ?_ ?_
            · have hib := Nat.lt_of_lt_of_le hc hNb; simp only [go_sem, ↓reduceIte, Nat.reduceEqDiff, and_self, and_true, true_and, Int.ofNat_zero, Int.ofNat_one, Int.cast_ofNat_Int, wrap_succ hib]
            exact ⟨P4, rfl⟩
          · exact ⟨P3, rfl⟩
        · subst he
          simp only [go_sem, ↓reduceIte, Nat.reduceEqDiff]
          refine forK_step (vC d a c c (vB d a c (vA d a 0))) hb hb0 ?_ ?_
          · have hib := Nat.lt_of_lt_of_le hb hNa; simp only [go_sem, ↓reduceIte, Nat.reduceEqDiff, and_self, and_true, true_and, Int.ofNat_zero, Int.ofNat_one, Int.cast_ofNat_Int, wrap_succ hib]
          exact ⟨P3, rfl⟩
        · exact ⟨P2, rfl⟩
      · subst he
        simp only [go_sem, ↓reduceIte, Nat.reduceEqDiff]
        refine forK_step (vB d b b (vA d b 0)) ha ha0 ?_ ?_
        · have hib := Nat.lt_of_lt_of_le ha hN; simp only [go_sem, ↓reduceIte, Nat.reduceEqDiff, and_self, and_true, true_and, Int.ofNat_zero, Int.ofNat_one, Int.cast_ofNat_Int, wrap_succ hib]
        exact ⟨P2, rfl⟩
      · exact ⟨P1, rfl⟩
    · subst he
      simp only [go_sem, ↓reduceIte, Nat.reduceEqDiff]
      exact ⟨by rw [worst_yes hS], P1⟩
    · exact ⟨Pre.refl _ _, rfl⟩

theorem sTreeOk_c (S : Store) (v : Value) (r : Nat → Value) (d : List (List Int)) (hM : Mat S v r d) (hd : d.length ≤ maxLen) :
    ACalls Try.prog 33 [v] S fun u S' => u = .bool (treeB d) ∧ Pre S.length S S' := by
  refine ACalls.intro (ts := [2]) 6 follows Try.func33 rfl (by kernel_rfl) (by kernel_rfl) (by simp) ?_
  simp only [go_sem, ↓reduceIte, Nat.reduceEqDiff, argEnv]
  refine callK.intro (by kernel_rfl) (sWorstGap_c S v r d hM hd) ?_
  rintro _ S1 ⟨rfl, P1⟩
  simp only [go_sem, ↓reduceIte, Nat.reduceEqDiff]
  exact ⟨by simp only [treeB], P1⟩
end Go.Proofs.Ytodeldmkpogakaa

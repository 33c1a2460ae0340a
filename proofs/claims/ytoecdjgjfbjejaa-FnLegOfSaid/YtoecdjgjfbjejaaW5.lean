/- Walks: the radius, legs. -/
import Derived.Test.YtoecdjgjfbjejaaW4
namespace Go.Proofs.Ytoecdjgjfbjejaa
open Go Go.Mill
set_option maxRecDepth 100000
set_option linter.unusedSimpArgs false
set_option linter.unusedVariables false

theorem iRadiusOf_c (S : Store) (v : Value) (r : Nat → Value) (d : List (List Int)) (hM : Mat S v r d) (hd : d.length ≤ maxLen) :
    ACalls Try.prog 42 [v] S (Ret S (.tuple #[.int .i64 (radV d), .int .i64 (radQ d), .bool (spaceB d)])) := by
  refine ACalls.intro (ts := [2, 3, 4]) 34 follows Try.func42 rfl (by kernel_rfl) (by kernel_rfl) (by simp) ?_
  have hsl := hM.sl
  have hlen := hM.len
  have hN : d.length ≤ 9223372036854775807 := hd
  simp only [go_sem, ↓reduceIte, Nat.reduceEqDiff, argEnv, hsl, hlen]
  refine callK.intro (by kernel_rfl) (isSpace_c S v r d hM hd) ?_
  rintro _ _ ⟨rfl, rfl⟩
  simp only [go_sem, ↓reduceIte, Nat.reduceEqDiff]
  cases hF : spaceB d with
  | false =>
    simp only [go_sem, ↓reduceIte, Nat.reduceEqDiff]
    exact ⟨by simp only [radV, radQ, hF, Bool.false_eq_true, ↓reduceIte], by trivial⟩
  | true =>
    have hS := spaceB_is hF
    have h0 : 0 < d.length := hS.1.1
    have hmax : ∀ i, i < d.length → ACalls Try.prog 75 [r i] S (Ret S (.int .i64 (farV d i))) := fun i hi => by
      have hq := hS.1.sq i hi
      have := Max_c _ _ _ (hM.row i hi) (by rw [hq]; omega) (by rw [hq]; exact hd)
      rw [hq, row_top hS hi, ← farV_nat hS hi] at this
      exact this
    simp only [go_sem, ↓reduceIte, Nat.reduceEqDiff, hsl, hlen]
    refine aw_count 13 [0, 11, 12] (fun (y : Nat) => [(5, .int .i64 (y : Nat))]) (0) (d.length) (fun i y SS => S = SS ∧ (y = argm (fun k => farV d k) i ∧ y < d.length)) (0) ?_ ?_ ?_ ?_
    · simp only [go_sem, ↓reduceIte, Nat.reduceEqDiff, and_self, and_true, true_and, Int.ofNat_zero, Int.ofNat_one, Int.cast_ofNat_Int, hsl, hlen]
    · omega
    · (refine ⟨rfl, ?_⟩; first | trivial | rfl | ((repeat' apply And.intro) <;> first | rfl | trivial | omega | (intros; omega) | simp [top]))
    rintro i y _ hi0 hi ⟨rfl, hy⟩
    simp only [go_sem, ↓reduceIte, Nat.reduceEqDiff, hsl, hlen]
    refine condK_lt hi (fun hi => ?_) (fun he => ?_)
    · have hy2 := hy.2
      simp only [go_sem, ↓reduceIte, Nat.reduceEqDiff, hsl, hlen, hi, hM.get]
      refine draw_same ?_ (by kernel_rfl)
      simp only [go_sem, ↓reduceIte, Nat.reduceEqDiff, hsl, hlen, hi, hy2, hM.get]
      refine callQK_same (_) (by kernel_rfl) rfl (hmax i hi) ?_
      simp only [go_sem, ↓reduceIte, Nat.reduceEqDiff, hsl, hlen, hi, hy2, hM.get]
      refine callQK_same (_) (by kernel_rfl) rfl (hmax y hy2) ?_
      simp only [go_sem, ↓reduceIte, Nat.reduceEqDiff]
      repeat' (first | (refine gK_dec (fun p h => ?_) (fun p h => ?_) <;> simp only [go_sem, ↓reduceIte, Nat.reduceEqDiff, h]) | (refine condK_dec (fun p h => ?_) (fun p h => ?_) <;> simp only [go_sem, ↓reduceIte, Nat.reduceEqDiff, h]) | (refine gQ_dec (fun p h => ?_) (fun p h => ?_) <;> simp only [go_sem, ↓reduceIte, Nat.reduceEqDiff, h]) | (refine gQC_dec (fun p h => ?_) (fun p h => ?_) <;> simp only [go_sem, ↓reduceIte, Nat.reduceEqDiff, h]))
      · refine forK_step (i) hi hi0 ?_ ?_
        · have hib := Nat.lt_of_lt_of_le hi hN; simp only [go_sem, ↓reduceIte, Nat.reduceEqDiff, and_self, and_true, true_and, Int.ofNat_zero, Int.ofNat_one, Int.cast_ofNat_Int, wrap_succ hib]
        refine ⟨rfl, ?_, by omega⟩
        simp only [argm]
        rw [← hy.1, if_pos p]
      · refine forK_step (y) hi hi0 ?_ ?_
        · have hib := Nat.lt_of_lt_of_le hi hN; simp only [go_sem, ↓reduceIte, Nat.reduceEqDiff, and_self, and_true, true_and, Int.ofNat_zero, Int.ofNat_one, Int.cast_ofNat_Int, wrap_succ hib]
        refine ⟨rfl, ?_, by omega⟩
        simp only [argm]
        rw [← hy.1, if_neg p]
    · subst he
      have hy2 := hy.2
      simp only [go_sem, ↓reduceIte, Nat.reduceEqDiff, hsl, hlen, hy2, hM.get]
      refine callK.intro (by kernel_rfl) (hmax y hy2) ?_
      rintro _ _ ⟨rfl, rfl⟩
      simp only [go_sem, ↓reduceIte, Nat.reduceEqDiff]
      have : radP d = y := hy.1.symm
      exact ⟨by simp only [radV, radQ, hF, this, ↓reduceIte], by trivial⟩

theorem sRadiusOf_c (S : Store) (v : Value) (r : Nat → Value) (d : List (List Int)) (hM : Mat S v r d) (hd : d.length ≤ maxLen) :
    ACalls Try.prog 43 [v] S (Ret S (.tuple #[.int .i64 (radV d), .int .i64 (radQ d), .bool (spaceB d)])) := by
  refine ACalls.intro (ts := [2, 3, 4]) 35 follows Try.func43 rfl (by kernel_rfl) (by kernel_rfl) (by simp) ?_
  have hsl := hM.sl
  have hlen := hM.len
  have hN : d.length ≤ 9223372036854775807 := hd
  simp only [go_sem, ↓reduceIte, Nat.reduceEqDiff, argEnv, hsl, hlen]
  refine aw_count 6 [0] (fun (y : Int) => [(5, .int .i64 y)]) (0) (d.length) (fun i y SS => S = SS ∧ ((i = 0 ∧ y = -1) ∨ (0 < i ∧ IsSpace d ∧ y = (argm (fun k => farV d k) i : Nat)))) (-1) ?_ ?_ ?_ ?_
  · simp only [go_sem, ↓reduceIte, Nat.reduceEqDiff, and_self, and_true, true_and, Int.ofNat_zero, Int.ofNat_one, Int.cast_ofNat_Int, hsl, hlen]
  · omega
  · exact ⟨rfl, .inl ⟨rfl, rfl⟩⟩
  rintro i y _ hi0 hi ⟨rfl, hy⟩
  simp only [go_sem, ↓reduceIte, Nat.reduceEqDiff, hsl, hlen]
  refine gK_dec (fun p h => ?_) (fun p h => ?_)
  · have hi : i < d.length := by omega
    simp only [go_sem, ↓reduceIte, Nat.reduceEqDiff, h]
    refine callK.intro (by kernel_rfl) (sSpaceOk_c S v r d hM hd) ?_
    rintro _ _ ⟨rfl, rfl⟩
    simp only [go_sem, ↓reduceIte, Nat.reduceEqDiff]
    cases hF : spaceB d with
    | false =>
      have hns := spaceB_not hF
      have hy1 : y = -1 := by
        rcases hy with hy | hy
        · exact hy.2
        · exact absurd hy.2.1 hns
      subst hy1
      simp only [go_sem, ↓reduceIte, Nat.reduceEqDiff, Int.reduceNeg, Int.reduceLT, decide_true]
      exact ⟨by simp only [radV, radQ, hF, Bool.false_eq_true, ↓reduceIte], by trivial⟩
    | true =>
      have hS := spaceB_is hF
      simp only [go_sem, ↓reduceIte, Nat.reduceEqDiff]
      refine gK_dec (fun q hq => ?_) (fun q hq => ?_)
      · have h0 : i = 0 := by
          rcases hy with hy | hy
          · exact hy.1
          · have := hy.2.2; omega
        simp only [go_sem, ↓reduceIte, Nat.reduceEqDiff, hq]
        refine forK_step ((i : Int)) hi hi0 ?_ ?_
        · have hib := Nat.lt_of_lt_of_le hi hN; simp only [go_sem, ↓reduceIte, Nat.reduceEqDiff, and_self, and_true, true_and, Int.ofNat_zero, Int.ofNat_one, Int.cast_ofNat_Int, wrap_succ hib]
        subst h0
        exact ⟨rfl, .inr ⟨by omega, hS, by simp [argm]⟩⟩
      · have hy1 : 0 < i ∧ y = (argm (fun k => farV d k) i : Nat) := by
          rcases hy with hy | hy
          · have := hy.2; omega
          · exact ⟨hy.1, hy.2.2⟩
        have hlt := @argm_lt (fun k => farV d k) i hy1.1
        obtain ⟨hi1, rfl⟩ := hy1
        simp only [go_sem, ↓reduceIte, Nat.reduceEqDiff, hq]
        refine callK.intro (by kernel_rfl) (sFarthestFrom_c S v r d hM hd i (by omega)) ?_
        rintro _ _ ⟨rfl, rfl⟩
        simp only [go_sem, ↓reduceIte, Nat.reduceEqDiff]
        refine callK.intro (by kernel_rfl) (sFarthestFrom_c S v r d hM hd _ (by omega)) ?_
        rintro _ _ ⟨rfl, rfl⟩
        simp only [go_sem, ↓reduceIte, Nat.reduceEqDiff]
        refine condK_dec (fun q2 hq2 => ?_) (fun q2 hq2 => ?_)
        · simp only [go_sem, ↓reduceIte, Nat.reduceEqDiff, hq2]
          refine forK_step ((i : Int)) hi hi0 ?_ ?_
          · have hib := Nat.lt_of_lt_of_le hi hN; simp only [go_sem, ↓reduceIte, Nat.reduceEqDiff, and_self, and_true, true_and, Int.ofNat_zero, Int.ofNat_one, Int.cast_ofNat_Int, wrap_succ hib]
          refine ⟨rfl, .inr ⟨by omega, hS, ?_⟩⟩
          simp only [argm]
          rw [if_pos q2]
        · simp only [go_sem, ↓reduceIte, Nat.reduceEqDiff, hq2]
          refine forK_step ((argm (fun k => farV d k) i : Nat)) hi hi0 ?_ ?_
          · have hib := Nat.lt_of_lt_of_le hi hN; simp only [go_sem, ↓reduceIte, Nat.reduceEqDiff, and_self, and_true, true_and, Int.ofNat_zero, Int.ofNat_one, Int.cast_ofNat_Int, wrap_succ hib]
          refine ⟨rfl, .inr ⟨by omega, hS, ?_⟩⟩
          simp only [argm]
          rw [if_neg q2]
  · have hi : i = d.length := by omega
    subst hi
    simp only [go_sem, ↓reduceIte, Nat.reduceEqDiff, h]
    rcases hy with ⟨hl, rfl⟩ | ⟨hl, hS, rfl⟩
    · have hns : ¬ IsSpace d := fun hs => by have := hs.1.1; omega
      simp only [go_sem, ↓reduceIte, Nat.reduceEqDiff, Int.reduceNeg, Int.reduceLT, decide_true, spaceB_no hns]
      exact ⟨by simp only [radV, radQ, spaceB_no hns, Bool.false_eq_true, ↓reduceIte], by trivial⟩
    · have hlt := @argm_lt (fun k => farV d k) d.length hl
      have hnn : decide (((argm (fun k => farV d k) d.length : Nat) : Int) < 0) = false := by simp
      simp only [go_sem, ↓reduceIte, Nat.reduceEqDiff, hnn]
      refine callK.intro (by kernel_rfl) (sFarthestFrom_c S v r d hM hd _ (by omega)) ?_
      rintro _ _ ⟨rfl, rfl⟩
      simp only [go_sem, ↓reduceIte, Nat.reduceEqDiff, spaceB_yes hS]
      exact ⟨by simp only [radV, radQ, spaceB_yes hS, radP, ↓reduceIte], by trivial⟩

theorem iLegOf_c (S : Store) (v : Value) (r : Nat → Value) (d : List (List Int)) (hM : Mat S v r d) (hd : d.length ≤ maxLen) (x : Int) (hx : -9223372036854775808 ≤ x ∧ x ≤ 9223372036854775807) :
    ACalls Try.prog 55 [v, .int .i64 x] S (Ret S (.int .i64 (legV d x))) := by
  refine ACalls.intro (ts := [4]) 62 follows Try.func55 rfl (by kernel_rfl) (by kernel_rfl) (by simp) ?_
  have hsl := hM.sl
  have hlen := hM.len
  have hN : d.length ≤ 9223372036854775807 := hd
  simp only [go_sem, ↓reduceIte, Nat.reduceEqDiff, argEnv, hsl, hlen]
  refine callK.intro (by kernel_rfl) (hasPoint_c S v r d hM hd x hx) ?_
  rintro _ _ ⟨rfl, rfl⟩
  simp only [go_sem, ↓reduceIte, Nat.reduceEqDiff]
  cases hP : hasB d x with
  | false =>
    simp only [go_sem, ↓reduceIte, Nat.reduceEqDiff]
    exact Ret.int (legV_no fun h => hasB_not hP h.1).symm
  | true =>
    have hP := hasB_is hP
    obtain ⟨p, rfl⟩ := Int.eq_ofNat_of_zero_le hP.2.1
    have hp : p < d.length := by have := hP.2.2; omega
    have hS := hP.1
    simp only [go_sem, ↓reduceIte, Nat.reduceEqDiff, hsl, hlen]
    refine condK_dec (fun q1 h1 => ?_) (fun q1 h1 => ?_)
    · simp only [go_sem, ↓reduceIte, Nat.reduceEqDiff, h1]
      exact Ret.int (legV_no fun h => by have := h.2; omega).symm
    have hrl := hM.sqlen hS.1.sq
    have hcl := hM.sqcell hS.1.sq
    simp only [go_sem, ↓reduceIte, Nat.reduceEqDiff, hsl, hlen]
    refine aw_count 19 [0, 1, 18] (fun (y : Int) => [(5, .int .i64 y)]) (0) (d.length) (fun a y SS => S = SS ∧ (y = low2 (notP p) (tog d p) 120 a)) (120) ?_ ?_ ?_ ?_
    · simp only [go_sem, ↓reduceIte, Nat.reduceEqDiff, and_self, and_true, true_and, Int.ofNat_zero, Int.ofNat_one, Int.cast_ofNat_Int, hsl, hlen]
    · omega
    · (refine ⟨rfl, ?_⟩; first | trivial | rfl | ((repeat' apply And.intro) <;> first | rfl | trivial | omega | (intros; omega) | simp [top]))
    rintro a y _ ha0 ha ⟨rfl, hy⟩
    simp only [go_sem, ↓reduceIte, Nat.reduceEqDiff, hsl, hlen]
    refine condK_lt ha (fun ha => ?_) (fun he => ?_)
    · simp only [go_sem, ↓reduceIte, Nat.reduceEqDiff, hsl, hlen]
      have hNa : a ≤ 9223372036854775807 := by omega
      refine aw_count 23 [0, 1, 6, 18, 19, 22] (fun (z : Int) => [(5, .int .i64 z)]) (0) (a) (fun b z SS => S = SS ∧ (z = low (notP p a) (tog d p a) y b)) (y) ?_ ?_ ?_ ?_
      · simp only [go_sem, ↓reduceIte, Nat.reduceEqDiff, and_self, and_true, true_and, Int.ofNat_zero, Int.ofNat_one, Int.cast_ofNat_Int, hsl, hlen]
      · omega
      · (refine ⟨rfl, ?_⟩; first | trivial | rfl | ((repeat' apply And.intro) <;> first | rfl | trivial | omega | (intros; omega) | simp [top]))
      rintro b z _ hb0 hb ⟨rfl, hz⟩
      simp only [go_sem, ↓reduceIte, Nat.reduceEqDiff, hsl, hlen]
      refine condK_lt hb (fun hb => ?_) (fun he => ?_)
      · have hb' : b < d.length := by omega
        simp only [go_sem, ↓reduceIte, Nat.reduceEqDiff]
        refine gK_dec (fun q2 h2 => ?_) (fun q2 h2 => ?_)
        · simp only [go_sem, ↓reduceIte, Nat.reduceEqDiff, h2]
          refine condK_dec (fun q3 h3 => ?_) (fun q3 h3 => ?_)
          · have e1 := hS.1.at hp ha
            have e2 := hS.1.at hp hb'
            have e3 := hS.1.at ha hb'
            have w1 : IntKind.i64.wrap (at2 d p a + at2 d p b) = at2 d p a + at2 d p b := wrap64 (by omega)
            have w2 : IntKind.i64.wrap (at2 d p a + at2 d p b - at2 d a b) = at2 d p a + at2 d p b - at2 d a b := wrap64 (by omega)
            have hc : notP p a b = true := by simp only [notP, Bool.and_eq_true, decide_eq_true_eq]; omega
            simp only [go_sem, ↓reduceIte, Nat.reduceEqDiff, h3]
            refine draw_read ?_ (by kernel_rfl)
            simp only [go_sem, ↓reduceIte, Nat.reduceEqDiff, hsl, hlen, hp, ha, hb', hM.get, hM.rsl, hrl, hcl, w1, w2]
            refine forK_step (min z (tog d p a b)) hb hb0 ?_ ?_
            · have hib := Nat.lt_of_lt_of_le hb hNa; simp only [go_sem, ↓reduceIte, Nat.reduceEqDiff, and_self, and_true, true_and, Int.ofNat_zero, Int.ofNat_one, Int.cast_ofNat_Int, wrap_succ hib, tog]
            refine ⟨rfl, ?_⟩
            simp only [low]
            rw [if_pos hc, hz]
          · have hc : ¬ notP p a b = true := by simp only [notP, Bool.and_eq_true, decide_eq_true_eq]; omega
            simp only [go_sem, ↓reduceIte, Nat.reduceEqDiff, h3]
            refine forK_step (z) hb hb0 ?_ ?_
            · have hib := Nat.lt_of_lt_of_le hb hNa; simp only [go_sem, ↓reduceIte, Nat.reduceEqDiff, and_self, and_true, true_and, Int.ofNat_zero, Int.ofNat_one, Int.cast_ofNat_Int, wrap_succ hib]
            refine ⟨rfl, ?_⟩
            simp only [low]
            rw [if_neg hc, hz]
        · have hc : ¬ notP p a b = true := by simp only [notP, Bool.and_eq_true, decide_eq_true_eq]; omega
          simp only [go_sem, ↓reduceIte, Nat.reduceEqDiff, h2]
          refine forK_step (z) hb hb0 ?_ ?_
          · have hib := Nat.lt_of_lt_of_le hb hNa; simp only [go_sem, ↓reduceIte, Nat.reduceEqDiff, and_self, and_true, true_and, Int.ofNat_zero, Int.ofNat_one, Int.cast_ofNat_Int, wrap_succ hib]
          refine ⟨rfl, ?_⟩
          simp only [low]
          rw [if_neg hc, hz]
      · subst he
        simp only [go_sem, ↓reduceIte, Nat.reduceEqDiff]
        refine forK_step (z) ha ha0 ?_ ?_
        · have hib := Nat.lt_of_lt_of_le ha hN; simp only [go_sem, ↓reduceIte, Nat.reduceEqDiff, and_self, and_true, true_and, Int.ofNat_zero, Int.ofNat_one, Int.cast_ofNat_Int, wrap_succ hib]
        exact ⟨rfl, by rw [hz, hy]; rfl⟩
    · subst he
      simp only [go_sem, ↓reduceIte, Nat.reduceEqDiff]
      exact Ret.int (by rw [legV_nat hS hp (by omega), hy])

theorem sLegOf_c (S : Store) (v : Value) (r : Nat → Value) (d : List (List Int)) (hM : Mat S v r d) (hd : d.length ≤ maxLen) (x : Int) (hx : -9223372036854775808 ≤ x ∧ x ≤ 9223372036854775807) :
    ACalls Try.prog 56 [v, .int .i64 x] S (Ret S (.int .i64 (legV d x))) := by
  refine ACalls.intro (ts := [4]) 58 follows Try.func56 rfl (by kernel_rfl) (by kernel_rfl) (by simp) ?_
  have hsl := hM.sl
  have hlen := hM.len
  have hN : d.length ≤ 9223372036854775807 := hd
  have hw : IntKind.i64.wrap ((d.length : Int) - 1) = d.length - 1 := wrap64 (by omega)
  simp only [go_sem, ↓reduceIte, Nat.reduceEqDiff, argEnv, hsl, hlen]
  refine callK.intro (by kernel_rfl) (sSpaceOk_c S v r d hM hd) ?_
  rintro _ _ ⟨rfl, rfl⟩
  simp only [go_sem, ↓reduceIte, Nat.reduceEqDiff]
  cases hF : spaceB d with
  | false =>
    simp only [go_sem, ↓reduceIte, Nat.reduceEqDiff]
    exact Ret.int (legV_no fun h => spaceB_not hF h.1.1).symm
  | true =>
    have hS := spaceB_is hF
    simp only [go_sem, ↓reduceIte, Nat.reduceEqDiff, hsl, hlen]
    refine gK_dec (fun q1 h1 => ?_) (fun q1 h1 => ?_)
    · simp only [go_sem, ↓reduceIte, Nat.reduceEqDiff, h1]
      exact Ret.int (legV_no fun h => by have := h.2; omega).symm
    simp only [go_sem, ↓reduceIte, Nat.reduceEqDiff, h1, hsl, hlen, hw]
    refine callK.intro (by kernel_rfl) (l1In_c _ _ _ _) ?_
    rintro _ _ ⟨rfl, rfl⟩
    simp only [go_sem, ↓reduceIte, Nat.reduceEqDiff]
    refine condK_dec (fun q2 h2 => ?_) (fun q2 h2 => ?_)
    · simp only [go_sem, ↓reduceIte, Nat.reduceEqDiff, h2]
      exact Ret.int (legV_no fun h => by have := h.1.2; omega).symm
    obtain ⟨p, rfl⟩ := Int.eq_ofNat_of_zero_le (show 0 ≤ x by omega)
    have hp : p < d.length := by omega
    simp only [go_sem, ↓reduceIte, Nat.reduceEqDiff]
    refine aw_count 6 [0, 1] (fun (y : Int) => [(5, .int .i64 y)]) (0) (d.length) (fun a y SS => S = SS ∧ ((y = -1 ∧ low2 (notP p) (tog d p) 120 a = 120 ∧ ∀ a' b', a' < a → b' < a' → notP p a' b' = false) ∨ (0 ≤ y ∧ y = low2 (notP p) (tog d p) 120 a))) (-1) ?_ ?_ ?_ ?_
    · simp only [go_sem, ↓reduceIte, Nat.reduceEqDiff, and_self, and_true, true_and, Int.ofNat_zero, Int.ofNat_one, Int.cast_ofNat_Int, hsl, hlen]
    · omega
    · exact ⟨rfl, .inl ⟨rfl, rfl, fun _ _ h => absurd h (Nat.not_lt_zero _)⟩⟩
    rintro a y _ ha0 ha ⟨rfl, hy⟩
    simp only [go_sem, ↓reduceIte, Nat.reduceEqDiff, hsl, hlen]
    refine condK_lt ha (fun ha => ?_) (fun he => ?_)
    · simp only [go_sem, ↓reduceIte, Nat.reduceEqDiff]
      have hNa : a ≤ 9223372036854775807 := by omega
      refine aw_count 7 [0, 1, 6] (fun (z : Int) => [(5, .int .i64 z)]) (0) (a) (fun b z SS => S = SS ∧ ((z = -1 ∧ low (notP p a) (tog d p a) (low2 (notP p) (tog d p) 120 a) b = 120 ∧ (∀ a' b', a' < a → b' < a' → notP p a' b' = false) ∧ ∀ b', b' < b → notP p a b' = false) ∨ (0 ≤ z ∧ z = low (notP p a) (tog d p a) (low2 (notP p) (tog d p) 120 a) b))) (y) ?_ ?_ ?_ ?_
      · simp only [go_sem, ↓reduceIte, Nat.reduceEqDiff, and_self, and_true, true_and, Int.ofNat_zero, Int.ofNat_one, Int.cast_ofNat_Int, hsl, hlen]
      · omega
      · exact ⟨rfl, hy.imp (fun h => ⟨h.1, h.2.1, h.2.2, fun _ h => absurd h (Nat.not_lt_zero _)⟩) id⟩
      rintro b z _ hb0 hb ⟨rfl, hz⟩
      simp only [go_sem, ↓reduceIte, Nat.reduceEqDiff, hsl, hlen]
      refine condK_lt hb (fun hb => ?_) (fun he => ?_)
      · have hb' : b < d.length := by omega
        have htog := tog_in hS hp ha hb'
        have skip : notP p a b = false → (z = -1 ∧ low (notP p a) (tog d p a) (low2 (notP p) (tog d p) 120 a) (b + 1) = 120 ∧ (∀ a' b', a' < a → b' < a' → notP p a' b' = false) ∧ ∀ b', b' < b + 1 → notP p a b' = false) ∨ (0 ≤ z ∧ z = low (notP p a) (tog d p a) (low2 (notP p) (tog d p) 120 a) (b + 1)) := fun hc => by
          simp only [low]
          rw [if_neg (by rw [hc]; simp)]
          rcases hz with ⟨h1, h2, h3, h4⟩ | ⟨h1, h2⟩
          · refine .inl ⟨h1, h2, h3, fun b' hb' => ?_⟩
            rcases Nat.lt_or_ge b' b with h | h
            · exact h4 b' h
            · obtain rfl : b' = b := by omega
              exact hc
          · exact .inr ⟨h1, h2⟩
        simp only [go_sem, ↓reduceIte, Nat.reduceEqDiff]
        refine gK_dec (fun q3 h3 => ?_) (fun q3 h3 => ?_)
        · have hc : notP p a b = false := by
            rw [← Bool.not_eq_true]; simp only [notP, Bool.and_eq_true, decide_eq_true_eq]; omega
          simp only [go_sem, ↓reduceIte, Nat.reduceEqDiff, h3]
          refine forK_step (z) hb hb0 ?_ ?_
          · have hib := Nat.lt_of_lt_of_le hb hNa; simp only [go_sem, ↓reduceIte, Nat.reduceEqDiff, and_self, and_true, true_and, Int.ofNat_zero, Int.ofNat_one, Int.cast_ofNat_Int, wrap_succ hib]
          exact ⟨rfl, skip hc⟩
        simp only [go_sem, ↓reduceIte, Nat.reduceEqDiff, h3]
        refine condK_dec (fun q4 h4 => ?_) (fun q4 h4 => ?_)
        · have hc : notP p a b = false := by
            rw [← Bool.not_eq_true]; simp only [notP, Bool.and_eq_true, decide_eq_true_eq]; omega
          simp only [go_sem, ↓reduceIte, Nat.reduceEqDiff, h4]
          refine forK_step (z) hb hb0 ?_ ?_
          · have hib := Nat.lt_of_lt_of_le hb hNa; simp only [go_sem, ↓reduceIte, Nat.reduceEqDiff, and_self, and_true, true_and, Int.ofNat_zero, Int.ofNat_one, Int.cast_ofNat_Int, wrap_succ hib]
          exact ⟨rfl, skip hc⟩
        have hc : notP p a b = true := by simp only [notP, Bool.and_eq_true, decide_eq_true_eq]; omega
        simp only [go_sem, ↓reduceIte, Nat.reduceEqDiff, h4]
        refine callK.intro (by kernel_rfl) (sTogetherFrom_c S v r d hM hd p hx a (by omega) b (by omega)) ?_
        rintro _ _ ⟨rfl, rfl⟩
        simp only [go_sem, ↓reduceIte, Nat.reduceEqDiff, togV_nat hS hp ha hb']
        refine gK_dec (fun q5 h5 => ?_) (fun q5 h5 => ?_)
        · simp only [go_sem, ↓reduceIte, Nat.reduceEqDiff, h5]
          refine forK_step (tog d p a b) hb hb0 ?_ ?_
          · have hib := Nat.lt_of_lt_of_le hb hNa; simp only [go_sem, ↓reduceIte, Nat.reduceEqDiff, and_self, and_true, true_and, Int.ofNat_zero, Int.ofNat_one, Int.cast_ofNat_Int, wrap_succ hib, tog]
          refine ⟨rfl, .inr ⟨htog.1, ?_⟩⟩
          simp only [low]
          rw [if_pos hc]
          rcases hz with ⟨h1, h2, -, -⟩ | ⟨h1, h2⟩
          · rw [h2]; omega
          · omega
        · simp only [go_sem, ↓reduceIte, Nat.reduceEqDiff, h5]
          have hz2 : 0 ≤ z ∧ z = low (notP p a) (tog d p a) (low2 (notP p) (tog d p) 120 a) b := by
            rcases hz with ⟨h1, h2, -, -⟩ | hz
            · omega
            · exact hz
          have hu : tog d p a b = at2 d p a + at2 d p b - at2 d a b := rfl
          refine condK_dec (fun q6 h6 => ?_) (fun q6 h6 => ?_)
          · simp only [go_sem, ↓reduceIte, Nat.reduceEqDiff, h6]
            refine forK_step (tog d p a b) hb hb0 ?_ ?_
            · have hib := Nat.lt_of_lt_of_le hb hNa; simp only [go_sem, ↓reduceIte, Nat.reduceEqDiff, and_self, and_true, true_and, Int.ofNat_zero, Int.ofNat_one, Int.cast_ofNat_Int, wrap_succ hib, tog]
            refine ⟨rfl, .inr ⟨htog.1, ?_⟩⟩
            simp only [low]
            rw [if_pos hc, ← hz2.2]; omega
          · simp only [go_sem, ↓reduceIte, Nat.reduceEqDiff, h6]
            refine forK_step (z) hb hb0 ?_ ?_
            · have hib := Nat.lt_of_lt_of_le hb hNa; simp only [go_sem, ↓reduceIte, Nat.reduceEqDiff, and_self, and_true, true_and, Int.ofNat_zero, Int.ofNat_one, Int.cast_ofNat_Int, wrap_succ hib]
            refine ⟨rfl, .inr ⟨hz2.1, ?_⟩⟩
            simp only [low]
            rw [if_pos hc, ← hz2.2]; omega
      · subst he
        simp only [go_sem, ↓reduceIte, Nat.reduceEqDiff]
        refine forK_step (z) ha ha0 ?_ ?_
        · have hib := Nat.lt_of_lt_of_le ha hN; simp only [go_sem, ↓reduceIte, Nat.reduceEqDiff, and_self, and_true, true_and, Int.ofNat_zero, Int.ofNat_one, Int.cast_ofNat_Int, wrap_succ hib]
        refine ⟨rfl, ?_⟩
        simp only [low2]
        rcases hz with ⟨h1, h2, h3, h4⟩ | ⟨h1, h2⟩
        · refine .inl ⟨h1, h2, fun a' b' ha' hb' => ?_⟩
          rcases Nat.lt_or_ge a' b with h | h
          · exact h3 a' b' h hb'
          · obtain rfl : a' = b := by omega
            exact h4 b' hb'
        · exact .inr ⟨h1, h2⟩
    · subst he
      simp only [go_sem, ↓reduceIte, Nat.reduceEqDiff]
      refine Ret.int ?_
      rw [legV_nat hS hp (by omega)]
      rcases hy with ⟨h1, h2, h3⟩ | ⟨h1, h2⟩
      · exfalso
        have g : ∀ a b, a < d.length → b < a → a ≠ p → b ≠ p → False := fun a b ha hb h4 h5 => by
          have := h3 a b ha hb
          rw [← Bool.not_eq_true] at this
          simp only [notP, Bool.and_eq_true, decide_eq_true_eq] at this
          exact this ⟨h4, h5⟩
        rcases Nat.lt_trichotomy p 1 with h | h | h
        · exact g 2 1 (by omega) (by omega) (by omega) (by omega)
        · exact g 2 0 (by omega) (by omega) (by omega) (by omega)
        · exact g 1 0 (by omega) (by omega) (by omega) (by omega)
      · exact h2
end Go.Proofs.Ytoecdjgjfbjejaa

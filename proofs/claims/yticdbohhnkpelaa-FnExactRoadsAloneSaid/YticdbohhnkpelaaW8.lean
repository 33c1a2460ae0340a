/- Walks: balls, between. -/
import Derived.Test.YticdbohhnkpelaaW3
import Derived.Test.YticdbohhnkpelaaPure4
namespace Go.Proofs.Yticdbohhnkpelaa
open Go Go.Mill
set_option maxRecDepth 100000
set_option linter.unusedSimpArgs false
set_option linter.unusedVariables false

theorem iBallOf_c (S : Store) (v : Value) (r : Nat → Value) (d : List (List Int)) (hM : Mat S v r d) (hd : d.length ≤ maxLen) (x : Int) (hx : -9223372036854775808 ≤ x ∧ x ≤ 9223372036854775807) (f : Int) (hf : -9223372036854775808 ≤ f ∧ f ≤ 9223372036854775807) :
    ACalls Try.prog 23 [v, .int .i64 x, .int .i64 f] S fun u S' => Mine S.length S' u (ballV d x f) ∧ Pre S.length S S' := by
  refine ACalls.intro (ts := [6]) 42 follows Try.func23 rfl (by kernel_rfl) (by kernel_rfl) (by simp) ?_
  have hN : d.length ≤ 9223372036854775807 := hd
  simp only [go_sem, ↓reduceIte, Nat.reduceEqDiff, argEnv]
  refine callK.intro (by kernel_rfl) (hasPoint_c S v r d hM hd x hx) ?_
  rintro _ _ ⟨rfl, rfl⟩
  simp only [go_sem, ↓reduceIte, Nat.reduceEqDiff]
  cases hP : hasB d x with
  | false =>
    simp only [go_sem, ↓reduceIte, Nat.reduceEqDiff]
    exact ⟨.inl ⟨rfl, ballV_no fun h => hasB_not hP h.1⟩, Pre.refl _ _⟩
  | true =>
    have hP := hasB_is hP
    simp only [go_sem, ↓reduceIte, Nat.reduceEqDiff]
    refine gK_dec (fun q1 h1 => ?_) (fun q1 h1 => ?_)
    · simp only [go_sem, ↓reduceIte, Nat.reduceEqDiff, h1]
      exact ⟨.inl ⟨rfl, ballV_no fun h => by omega⟩, Pre.refl _ _⟩
    simp only [go_sem, ↓reduceIte, Nat.reduceEqDiff, h1]
    refine condK_dec (fun q2 h2 => ?_) (fun q2 h2 => ?_)
    · simp only [go_sem, ↓reduceIte, Nat.reduceEqDiff, h2]
      exact ⟨.inl ⟨rfl, ballV_no fun h => by omega⟩, Pre.refl _ _⟩
    obtain ⟨n, rfl⟩ := Int.eq_ofNat_of_zero_le hP.2.1
    have hn : n < d.length := by have := hP.2.2; omega
    have hS := hP.1
    have h6 := hS.1.2.1
    have hV := ballV_nat hS hn (show 0 ≤ f ∧ f ≤ 60 by omega)
    have M0 := hM.ext (Ext.append S [.own []])
    have OL0 : OL S.length (S ++ [.own []]) (mk S.length 0) S.length [] := OL.none (Nat.le_refl _)
    have P0 : Pre S.length S (S ++ [.own []]) := (Pre.refl _ _).app (Nat.le_refl _) _
    have hrl := hM.sqlen hS.1.sq n hn
    have hrs := hM.rsl n hn
    simp only [go_sem, ↓reduceIte, Nat.reduceEqDiff, h2, M0.sl, M0.len, hn, M0.get, hrs, hrl]
    refine aw_count 28 [2, 26, 27] (fun (y : Value) => [(7, y)]) (0) (d.length) (fun k y SS => Pre S.length S SS ∧ ∃ t, OL S.length SS y t (pickN (ballC d n f) k)) (mk S.length 0) ?_ ?_ ?_ ?_
    · simp only [go_sem, ↓reduceIte, Nat.reduceEqDiff, and_self, and_true, true_and, Int.ofNat_zero, Int.ofNat_one, Int.cast_ofNat_Int, hrl, hrs]
    · omega
    rotate_left
    rintro k y Sk hk0 hk ⟨P1, t, OL1⟩
    simp only [go_sem, ↓reduceIte, Nat.reduceEqDiff, hrl, hrs]
    refine condK_lt hk (fun hk => ?_) (fun he => ?_)
    · have M1 := hM.ext P1.ext
      have hc := M1.sqcell hS.1.sq n k hn hk
      simp only [go_sem, ↓reduceIte, Nat.reduceEqDiff, hrl, hrs, hk, hc]
      refine condK_dec (fun q3 h3 => ?_) (fun q3 h3 => ?_)
      · obtain ⟨v', S', ha, hs, hpre, t', OL2⟩ := OL1.add (k : Int)
        have := @pickN_len (ballC d n f) k
        have hsm : (slen v' ≤ 1099511627776) = True := by simp only [eq_iff_iff, iff_true, hs]; omega
        simp only [go_sem, ↓reduceIte, Nat.reduceEqDiff, h3, ha, hsm]
        refine forK_step (v') hk hk0 ?_ ?_
        · have hib := Nat.lt_of_lt_of_le hk hN; simp only [go_sem, ↓reduceIte, Nat.reduceEqDiff, and_self, and_true, true_and, Int.ofNat_zero, Int.ofNat_one, Int.cast_ofNat_Int, wrap_succ hib]
        exact ⟨P1.trans hpre, t', by rw [pickN_yes h3]; exact OL2⟩
      · simp only [go_sem, ↓reduceIte, Nat.reduceEqDiff, h3]
        refine forK_step (y) hk hk0 ?_ ?_
        · have hib := Nat.lt_of_lt_of_le hk hN; simp only [go_sem, ↓reduceIte, Nat.reduceEqDiff, and_self, and_true, true_and, Int.ofNat_zero, Int.ofNat_one, Int.cast_ofNat_Int, wrap_succ hib]
        exact ⟨P1, t, by rw [pickN_no h3]; exact OL1⟩
    · subst he
      simp only [go_sem, ↓reduceIte, Nat.reduceEqDiff]
      exact ⟨.inr ⟨t, by rw [hV]; exact OL1⟩, P1⟩
    · exact ⟨P0, _, OL0⟩

theorem sBallOf_c (S : Store) (v : Value) (r : Nat → Value) (d : List (List Int)) (hM : Mat S v r d) (hd : d.length ≤ maxLen) (x : Int) (hx : -9223372036854775808 ≤ x ∧ x ≤ 9223372036854775807) (f : Int) (hf : -9223372036854775808 ≤ f ∧ f ≤ 9223372036854775807) :
    ACalls Try.prog 22 [v, .int .i64 x, .int .i64 f] S fun u S' => Mine S.length S' u (ballV d x f) ∧ Pre S.length S S' := by
  refine ACalls.intro (ts := [6]) 47 follows Try.func22 rfl (by kernel_rfl) (by kernel_rfl) (by simp) ?_
  have hN : d.length ≤ 9223372036854775807 := hd
  have hw : IntKind.i64.wrap ((d.length : Int) - 1) = d.length - 1 := wrap64 (by omega)
  have M0 := hM.ext (Ext.append S [.own []])
  have OL0 : OL S.length (S ++ [.own []]) (mk S.length 0) S.length [] := OL.none (Nat.le_refl _)
  have P0 : Pre S.length S (S ++ [.own []]) := (Pre.refl _ _).app (Nat.le_refl _) _
  simp only [go_sem, ↓reduceIte, Nat.reduceEqDiff, argEnv]
  refine callK.intro (by kernel_rfl) (sSpaceOk_c _ v r d M0 hd) ?_
  rintro _ _ ⟨rfl, rfl⟩
  simp only [go_sem, ↓reduceIte, Nat.reduceEqDiff]
  generalize S ++ [Ob.own []] = S0 at M0 OL0 P0 ⊢
  generalize mk S.length 0 = y0 at OL0 ⊢
  cases hF : spaceB d with
  | false =>
    simp only [go_sem, ↓reduceIte, Nat.reduceEqDiff]
    exact ⟨.inr ⟨_, by rw [ballV_no fun h => spaceB_not hF h.1.1]; exact OL0⟩, P0⟩
  | true =>
    have hS := spaceB_is hF
    have h6 := hS.1.2.1
    simp only [go_sem, ↓reduceIte, Nat.reduceEqDiff, M0.sl, M0.len, hw]
    refine callK.intro (by kernel_rfl) (l1In_c _ _ _ _) ?_
    rintro _ _ ⟨rfl, rfl⟩
    simp only [go_sem, ↓reduceIte, Nat.reduceEqDiff]
    refine gK_dec (fun q1 h1 => ?_) (fun q1 h1 => ?_)
    · simp only [go_sem, ↓reduceIte, Nat.reduceEqDiff, h1]
      exact ⟨.inr ⟨_, by rw [ballV_no fun h => by have := h.1.2; omega]; exact OL0⟩, P0⟩
    simp only [go_sem, ↓reduceIte, Nat.reduceEqDiff, h1]
    refine callK.intro (by kernel_rfl) (l1In_c _ _ _ _) ?_
    rintro _ _ ⟨rfl, rfl⟩
    simp only [go_sem, ↓reduceIte, Nat.reduceEqDiff]
    refine condK_dec (fun q2 h2 => ?_) (fun q2 h2 => ?_)
    · simp only [go_sem, ↓reduceIte, Nat.reduceEqDiff, h2]
      exact ⟨.inr ⟨_, by rw [ballV_no fun h => by omega]; exact OL0⟩, P0⟩
    obtain ⟨n, rfl⟩ := Int.eq_ofNat_of_zero_le (show 0 ≤ x by omega)
    have hn : n < d.length := by omega
    have hV := ballV_nat hS hn (show 0 ≤ f ∧ f ≤ 60 by omega)
    have hsl := hM.sl
    have hlen := hM.len
    simp only [go_sem, ↓reduceIte, Nat.reduceEqDiff, h2]
    refine aw_count 8 [0, 1, 2] (fun (y : Value) => [(7, y)]) (0) (d.length) (fun k y SS => Pre S.length S SS ∧ ∃ t, OL S.length SS y t (pickN (ballC d n f) k)) (y0) ?_ ?_ ?_ ?_
    · simp only [go_sem, ↓reduceIte, Nat.reduceEqDiff, and_self, and_true, true_and, Int.ofNat_zero, Int.ofNat_one, Int.cast_ofNat_Int, hsl, hlen]
    · omega
    rotate_left
    rintro k y Sk hk0 hk ⟨P1, t, OL1⟩
    simp only [go_sem, ↓reduceIte, Nat.reduceEqDiff, hsl, hlen]
    refine condK_lt hk (fun hk => ?_) (fun he => ?_)
    · have M1 := hM.ext P1.ext
      have hrl := M1.sqlen hS.1.sq
      have hcl := M1.sqcell hS.1.sq
      simp only [go_sem, ↓reduceIte, Nat.reduceEqDiff, hsl, hlen, hn, hk, M1.get, M1.rsl, hrl, hcl]
      refine condK_dec (fun q3 h3 => ?_) (fun q3 h3 => ?_)
      · obtain ⟨v', S', ha, hs, hpre, t', OL2⟩ := OL1.add (k : Int)
        have := @pickN_len (ballC d n f) k
        have hsm : (slen v' ≤ 1099511627776) = True := by simp only [eq_iff_iff, iff_true, hs]; omega
        simp only [go_sem, ↓reduceIte, Nat.reduceEqDiff, h3, ha, hsm]
        refine forK_step (v') hk hk0 ?_ ?_
        · have hib := Nat.lt_of_lt_of_le hk hN; simp only [go_sem, ↓reduceIte, Nat.reduceEqDiff, and_self, and_true, true_and, Int.ofNat_zero, Int.ofNat_one, Int.cast_ofNat_Int, wrap_succ hib]
        exact ⟨P1.trans hpre, t', by rw [pickN_yes h3]; exact OL2⟩
      · simp only [go_sem, ↓reduceIte, Nat.reduceEqDiff, h3]
        refine forK_step (y) hk hk0 ?_ ?_
        · have hib := Nat.lt_of_lt_of_le hk hN; simp only [go_sem, ↓reduceIte, Nat.reduceEqDiff, and_self, and_true, true_and, Int.ofNat_zero, Int.ofNat_one, Int.cast_ofNat_Int, wrap_succ hib]
        exact ⟨P1, t, by rw [pickN_no h3]; exact OL1⟩
    · subst he
      simp only [go_sem, ↓reduceIte, Nat.reduceEqDiff]
      exact ⟨.inr ⟨t, by rw [hV]; exact OL1⟩, P1⟩
    · exact ⟨P0, _, OL0⟩
end Go.Proofs.Yticdbohhnkpelaa

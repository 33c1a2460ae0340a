/- Walks: between; draws of a space and two numbers. -/
import Derived.Test.YticdbohhnkpelaaW8
import Derived.Test.YticdbohhnkpelaaW10
namespace Go.Proofs.Yticdbohhnkpelaa
open Go Go.Mill
set_option maxRecDepth 100000
set_option linter.unusedSimpArgs false
set_option linter.unusedVariables false

theorem betweenOf_c (S : Store) (v : Value) (r : Nat → Value) (d : List (List Int)) (hM : Mat S v r d) (hS : IsSpace d) (a b : Nat) (ha : a < d.length) (hb : b < d.length) :
    ACalls Try.prog 59 [v, .int .i64 a, .int .i64 b] S fun u S' => (∃ t, OL S.length S' u t (pickN (betC d a b) d.length)) ∧ Pre S.length S S' := by
  refine ACalls.intro (ts := [6]) 44 follows Try.func59 rfl (by kernel_rfl) (by kernel_rfl) (by simp) ?_
  have h6 := hS.1.2.1
  have hN : d.length ≤ 9223372036854775807 := by omega
  have OL0 : OL S.length (S ++ [.own []]) (mk S.length 0) S.length [] := OL.none (Nat.le_refl _)
  have P0 : Pre S.length S (S ++ [.own []]) := (Pre.refl _ _).app (Nat.le_refl _) _
  have hsl := hM.sl
  have hlen := hM.len
  simp only [go_sem, ↓reduceIte, Nat.reduceEqDiff, argEnv, hsl, hlen]
  generalize S ++ [Ob.own []] = S0 at OL0 P0 ⊢
  generalize mk S.length 0 = y0 at OL0 ⊢
  refine aw_count 12 [0, 1, 2, 11] (fun (y : Value) => [(7, y)]) (0) (d.length) (fun k y SS => Pre S.length S SS ∧ ∃ t, OL S.length SS y t (pickN (betC d a b) k)) (y0) ?_ ?_ ?_ ?_
  · simp only [go_sem, ↓reduceIte, Nat.reduceEqDiff, and_self, and_true, true_and, Int.ofNat_zero, Int.ofNat_one, Int.cast_ofNat_Int, hsl, hlen]
  · omega
  rotate_left
  rintro k y Sk hk0 hk ⟨P1, t, OL1⟩
  simp only [go_sem, ↓reduceIte, Nat.reduceEqDiff, hsl, hlen]
  refine condK_lt hk (fun hk => ?_) (fun he => ?_)
  · have M1 := hM.ext P1.ext
    have hrl := M1.sqlen hS.1.sq
    have hcl := M1.sqcell hS.1.sq
    have b1 := hS.1.2.2.2 a k ha hk
    have b2 := hS.1.2.2.2 k b hk hb
    have hw : IntKind.i64.wrap (at2 d a k + at2 d k b) = at2 d a k + at2 d k b := wrap64 (by omega)
    simp only [go_sem, ↓reduceIte, Nat.reduceEqDiff]
    refine draw_read ?_ (by kernel_rfl)
    simp only [go_sem, ↓reduceIte, Nat.reduceEqDiff, hsl, hlen, ha, hb, hk, M1.get, M1.rsl, hrl, hcl, hw]
    refine condK_dec (fun q3 h3 => ?_) (fun q3 h3 => ?_)
    · obtain ⟨v', S', hap, hs, hpre, t', OL2⟩ := OL1.add (k : Int)
      have := @pickN_len (betC d a b) k
      have hsm : (slen v' ≤ 1099511627776) = True := by simp only [eq_iff_iff, iff_true, hs]; omega
      simp only [go_sem, ↓reduceIte, Nat.reduceEqDiff, h3, hap, hsm]
      refine forK_step (v') hk hk0 ?_ ?_
      · have hib := Nat.lt_of_lt_of_le hk hN; simp only [go_sem, ↓reduceIte, Nat.reduceEqDiff, and_self, and_true, true_and, Int.ofNat_zero, Int.ofNat_one, Int.cast_ofNat_Int, wrap_succ hib]
      exact ⟨P1.trans hpre, t', by rw [pickN_yes h3]; exact OL2⟩
    · simp only [go_sem, ↓reduceIte, Nat.reduceEqDiff, h3]
      refine forK_step (y) hk hk0 ?_ ?_
      · have hib := Nat.lt_of_lt_of_le hk hN; simp only [go_sem, ↓reduceIte, Nat.reduceEqDiff, and_self, and_true, true_and, Int.ofNat_zero, Int.ofNat_one, Int.cast_ofNat_Int, wrap_succ hib]
      exact ⟨P1, t, by rw [pickN_no h3]; exact OL1⟩
  · subst he
    simp only [go_sem, ↓reduceIte, Nat.reduceEqDiff]
    exact ⟨⟨t, OL1⟩, P1⟩
  · exact ⟨P0, _, OL0⟩

theorem iBetweenOf_c (S : Store) (v : Value) (r : Nat → Value) (d : List (List Int)) (hM : Mat S v r d) (hd : d.length ≤ maxLen) (a : Int) (ha : -9223372036854775808 ≤ a ∧ a ≤ 9223372036854775807) (b : Int) (hb : -9223372036854775808 ≤ b ∧ b ≤ 9223372036854775807) :
    ACalls Try.prog 30 [v, .int .i64 a, .int .i64 b] S fun u S' => Mine S.length S' u (betV d a b) ∧ Pre S.length S S' := by
  refine ACalls.intro (ts := [6]) 21 follows Try.func30 rfl (by kernel_rfl) (by kernel_rfl) (by simp) ?_
  simp only [go_sem, ↓reduceIte, Nat.reduceEqDiff, argEnv]
  refine callK.intro (by kernel_rfl) (hasPoint_c S v r d hM hd a ha) ?_
  rintro _ _ ⟨rfl, rfl⟩
  simp only [go_sem, ↓reduceIte, Nat.reduceEqDiff]
  cases hA : hasB d a with
  | false =>
    simp only [go_sem, ↓reduceIte, Nat.reduceEqDiff]
    exact ⟨.inl ⟨rfl, betV_no fun h => hasB_not hA h.1⟩, Pre.refl _ _⟩
  | true =>
    have hA := hasB_is hA
    simp only [go_sem, ↓reduceIte, Nat.reduceEqDiff]
    refine callK.intro (by kernel_rfl) (hasPoint_c S v r d hM hd b hb) ?_
    rintro _ _ ⟨rfl, rfl⟩
    simp only [go_sem, ↓reduceIte, Nat.reduceEqDiff]
    cases hB : hasB d b with
    | false =>
      simp only [go_sem, ↓reduceIte, Nat.reduceEqDiff]
      exact ⟨.inl ⟨rfl, betV_no fun h => hasB_not hB h.2⟩, Pre.refl _ _⟩
    | true =>
      have hB := hasB_is hB
      obtain ⟨n, rfl⟩ := Int.eq_ofNat_of_zero_le hA.2.1
      obtain ⟨m, rfl⟩ := Int.eq_ofNat_of_zero_le hB.2.1
      have hn : n < d.length := by have := hA.2.2; omega
      have hm : m < d.length := by have := hB.2.2; omega
      simp only [go_sem, ↓reduceIte, Nat.reduceEqDiff]
      refine callK.intro (by kernel_rfl) (betweenOf_c S v r d hM hA.1 n m hn hm) ?_
      rintro u S1 ⟨⟨t, OL1⟩, P1⟩
      simp only [go_sem, ↓reduceIte, Nat.reduceEqDiff]
      exact ⟨.inr ⟨t, by rw [betV_nat hA.1 hn hm]; exact OL1⟩, P1⟩

theorem sBetweenOf_c (S : Store) (v : Value) (r : Nat → Value) (d : List (List Int)) (hM : Mat S v r d) (hd : d.length ≤ maxLen) (a : Int) (ha : -9223372036854775808 ≤ a ∧ a ≤ 9223372036854775807) (b : Int) (hb : -9223372036854775808 ≤ b ∧ b ≤ 9223372036854775807) :
    ACalls Try.prog 29 [v, .int .i64 a, .int .i64 b] S fun u S' => Mine S.length S' u (betV d a b) ∧ Pre S.length S S' := by
  refine ACalls.intro (ts := [6]) 64 follows Try.func29 rfl (by kernel_rfl) (by kernel_rfl) (by simp) ?_
  have hN : d.length ≤ 9223372036854775807 := hd
  have hw : IntKind.i64.wrap ((d.length : Int) - 1) = d.length - 1 := wrap64 (by omega)
  have M0 := hM.ext (Ext.append S [.own []])
  have OL0 : OL S.length (S ++ [.own []]) (mk S.length 0) S.length [] := OL.none (Nat.le_refl _)
  have P0 : Pre S.length S (S ++ [.own []]) := (Pre.refl _ _).app (Nat.le_refl _) _
  simp only [go_sem, ↓reduceIte, Nat.reduceEqDiff, argEnv]
  refine callK.intro (by kernel_rfl) (sSpaceOk_c _ v r d M0 hd) ?_
  rintro _ _ ⟨rfl, rfl⟩
  simp only [go_sem, ↓reduceIte, Nat.reduceEqDiff]
  generalize S ++ [Ob.own []] = S0 at M0 OL0 P0 ⊢
  generalize mk S.length 0 = y0 at OL0 ⊢
  cases hF : spaceB d with
  | false =>
    simp only [go_sem, ↓reduceIte, Nat.reduceEqDiff]
    exact ⟨.inr ⟨_, by rw [betV_no fun h => spaceB_not hF h.1.1]; exact OL0⟩, P0⟩
  | true =>
    have hS := spaceB_is hF
    have h6 := hS.1.2.1
    simp only [go_sem, ↓reduceIte, Nat.reduceEqDiff, M0.sl, M0.len, hw]
    refine callK.intro (by kernel_rfl) (l1In_c _ _ _ _) ?_
    rintro _ _ ⟨rfl, rfl⟩
    simp only [go_sem, ↓reduceIte, Nat.reduceEqDiff]
    refine gK_dec (fun q1 h1 => ?_) (fun q1 h1 => ?_)
    · simp only [go_sem, ↓reduceIte, Nat.reduceEqDiff, h1]
      exact ⟨.inr ⟨_, by rw [betV_no fun h => by have := h.1.2; omega]; exact OL0⟩, P0⟩
    simp only [go_sem, ↓reduceIte, Nat.reduceEqDiff, h1, M0.sl, M0.len, hw]
    refine callK.intro (by kernel_rfl) (l1In_c _ _ _ _) ?_
    rintro _ _ ⟨rfl, rfl⟩
    simp only [go_sem, ↓reduceIte, Nat.reduceEqDiff]
    refine condK_dec (fun q2 h2 => ?_) (fun q2 h2 => ?_)
    · simp only [go_sem, ↓reduceIte, Nat.reduceEqDiff, h2]
      exact ⟨.inr ⟨_, by rw [betV_no fun h => by have := h.2.2; omega]; exact OL0⟩, P0⟩
    obtain ⟨n, rfl⟩ := Int.eq_ofNat_of_zero_le (show 0 ≤ a by omega)
    obtain ⟨m, rfl⟩ := Int.eq_ofNat_of_zero_le (show 0 ≤ b by omega)
    have hn : n < d.length := by omega
    have hm : m < d.length := by omega
    have hsl := hM.sl
    have hlen := hM.len
    simp only [go_sem, ↓reduceIte, Nat.reduceEqDiff, h2]
    refine aw_count 8 [0, 1, 2] (fun (y : Value) => [(7, y)]) (0) (d.length) (fun k y SS => Pre S.length S SS ∧ ∃ t, OL S.length SS y t (pickN (betC d n m) k)) (y0) ?_ ?_ ?_ ?_
    · simp only [go_sem, ↓reduceIte, Nat.reduceEqDiff, and_self, and_true, true_and, Int.ofNat_zero, Int.ofNat_one, Int.cast_ofNat_Int, hsl, hlen]
    · omega
    rotate_left
    rintro k y Sk hk0 hk ⟨P1, t, OL1⟩
    simp only [go_sem, ↓reduceIte, Nat.reduceEqDiff, hsl, hlen]
    refine condK_lt hk (fun hk => ?_) (fun he => ?_)
    · have M1 := hM.ext P1.ext
      have hrl := M1.sqlen hS.1.sq
      have hcl := M1.sqcell hS.1.sq
      have b1 := hS.1.2.2.2 n k hn hk
      have b2 := hS.1.2.2.2 k m hk hm
      have hw : IntKind.i64.wrap (at2 d n k + at2 d k m) = at2 d n k + at2 d k m := wrap64 (by omega)
      simp only [go_sem, ↓reduceIte, Nat.reduceEqDiff]
      refine draw_read ?_ (by kernel_rfl)
      simp only [go_sem, ↓reduceIte, Nat.reduceEqDiff, hsl, hlen, hn, hm, hk, M1.get, M1.rsl, hrl, hcl, hw]
      refine condK_dec (fun q3 h3 => ?_) (fun q3 h3 => ?_)
      · obtain ⟨v', S', hap, hs, hpre, t', OL2⟩ := OL1.add (k : Int)
        have := @pickN_len (betC d n m) k
        have hsm : (slen v' ≤ 1099511627776) = True := by simp only [eq_iff_iff, iff_true, hs]; omega
        simp only [go_sem, ↓reduceIte, Nat.reduceEqDiff, h3, hap, hsm]
        refine forK_step (v') hk hk0 ?_ ?_
        · have hib := Nat.lt_of_lt_of_le hk hN; simp only [go_sem, ↓reduceIte, Nat.reduceEqDiff, and_self, and_true, true_and, Int.ofNat_zero, Int.ofNat_one, Int.cast_ofNat_Int, wrap_succ hib]
        exact ⟨P1.trans hpre, t', by rw [pickN_yes h3]; exact OL2⟩
      · simp only [go_sem, ↓reduceIte, Nat.reduceEqDiff, h3]
        refine forK_step (y) hk hk0 ?_ ?_
        · have hib := Nat.lt_of_lt_of_le hk hN; simp only [go_sem, ↓reduceIte, Nat.reduceEqDiff, and_self, and_true, true_and, Int.ofNat_zero, Int.ofNat_one, Int.cast_ofNat_Int, wrap_succ hib]
        exact ⟨P1, t, by rw [pickN_no h3]; exact OL1⟩
    · subst he
      simp only [go_sem, ↓reduceIte, Nat.reduceEqDiff]
      exact ⟨.inr ⟨t, by rw [betV_nat hS hn hm]; exact OL1⟩, P1⟩
    · exact ⟨P0, _, OL0⟩

end Go.Proofs.Yticdbohhnkpelaa

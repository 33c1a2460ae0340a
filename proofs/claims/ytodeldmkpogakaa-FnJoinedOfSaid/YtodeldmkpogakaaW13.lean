/- Walks: copies of tables. -/
import Derived.Test.YtodeldmkpogakaaW1
import Derived.Test.YtodeldmkpogakaaMillN
namespace Go.Proofs.Ytodeldmkpogakaa
open Go Go.Mill
set_option maxRecDepth 100000
set_option linter.unusedSimpArgs false
set_option linter.unusedVariables false

theorem l2Copy_c (S : Store) (v : Value) (r : Nat → Value) (d : List (List Int)) (hM : Mat S v r d) (hd : d.length ≤ 1000000) (hr : ∀ j, (d.getD j []).length ≤ 1000000) :
    ACalls Try.prog 85 [v] S fun u S' => (∃ t g, OT S.length S' u t g d) ∧ Pre S.length S S' := by
  refine ACalls.intro (ts := [2]) 22 follows Try.func85 rfl (by kernel_rfl) (by kernel_rfl) (by simp) ?_
  have hN : d.length ≤ 9223372036854775807 := by omega
  have O0 : OT S.length (S ++ [.own []]) (mk S.length 0) S.length (fun _ => 0) [] := OT.none (Nat.le_refl _)
  have P0 : Pre S.length S (S ++ [.own []]) := (Pre.refl _ _).app (Nat.le_refl _) _
  have hsl := hM.sl
  have hlen := hM.len
  simp only [go_sem, ↓reduceIte, Nat.reduceEqDiff, argEnv, hsl, hlen]
  generalize S ++ [Ob.own []] = S0 at O0 P0 ⊢
  generalize mk S.length 0 = y0 at O0 ⊢
  refine aw_count 4 [0] (fun (y : Value) => [(3, y)]) (0) (d.length) (fun k y SS => Pre S.length S SS ∧ ∃ t g, OT S.length SS y t g (d.take k)) (y0) ?_ ?_ ?_ ?_
  · simp only [go_sem, ↓reduceIte, Nat.reduceEqDiff, and_self, and_true, true_and, Int.ofNat_zero, Int.ofNat_one, Int.cast_ofNat_Int, hsl, hlen]
  · omega
  rotate_left
  rintro k y Sk hk0 hk ⟨P1, t, g, O1⟩
  simp only [go_sem, ↓reduceIte, Nat.reduceEqDiff, hsl, hlen]
  refine condK_lt hk (fun hk => ?_) (fun he => ?_)
  · have M1 := hM.ext P1.ext
    have M2 := M1.ext (Ext.append Sk [.own []])
    have b1 := P1.len
    have hrow := hr k
    obtain ⟨v', S', ha, hs, hpre, t', ht', OL1⟩ := ol_copy (M1.row k hk)
    have hsm : (slen v' ≤ 1099511627776) = True := by simp only [eq_iff_iff, iff_true, hs]; omega
    have O2 := O1.all hpre
    have hlt := own_lt OL1.own
    obtain ⟨v2, S2, ha2, hs2, hpre2, t2, g2, O3⟩ := O2.addRow OL1.own (by omega) (by have := own_lt O1.own; omega) (fun i hi => by have := own_lt (O1.row i hi); omega)
    rw [← OL1.top] at ha2
    have hsm2 : (slen v2 ≤ 1099511627776) = True := by simp only [eq_iff_iff, iff_true, hs2, List.length_take]; omega
    have hat : atomB v' = true := by rw [OL1.top]; rfl
    simp only [go_sem, ↓reduceIte, Nat.reduceEqDiff, hsl, hlen, hk, M1.get, M2.get, ha, hsm, hat, ha2, hsm2]
    refine forK_step (v2) hk hk0 ?_ ?_
    · have hib := Nat.lt_of_lt_of_le hk hN; simp only [go_sem, ↓reduceIte, Nat.reduceEqDiff, and_self, and_true, true_and, Int.ofNat_zero, Int.ofNat_one, Int.cast_ofNat_Int, wrap_succ hib]
    exact ⟨P1.trans ((hpre.mono b1).trans hpre2), t2, g2, by rw [take_getD (z := []) hk]; exact O3⟩
  · subst he
    simp only [go_sem, ↓reduceIte, Nat.reduceEqDiff]
    rw [List.take_length] at O1
    exact ⟨⟨t, g, O1⟩, P1⟩
  · exact ⟨P0, _, _, O0⟩

theorem copyRows_c (S : Store) (v : Value) (r : Nat → Value) (d : List (List Int)) (hM : Mat S v r d) (hd : d.length ≤ 1000000) (hr : ∀ j, (d.getD j []).length ≤ 1000000) :
    ACalls Try.prog 103 [v] S fun u S' => (∃ t g, OT S.length S' u t g d) ∧ Pre S.length S S' := by
  refine ACalls.intro (ts := [2]) 21 follows Try.func103 rfl (by kernel_rfl) (by kernel_rfl) (by simp) ?_
  have hN : d.length ≤ 9223372036854775807 := by omega
  have O0 : OT S.length (S ++ [.own []]) (mk S.length 0) S.length (fun _ => 0) [] := OT.none (Nat.le_refl _)
  have P0 : Pre S.length S (S ++ [.own []]) := (Pre.refl _ _).app (Nat.le_refl _) _
  have hsl := hM.sl
  have hlen := hM.len
  simp only [go_sem, ↓reduceIte, Nat.reduceEqDiff, argEnv, hsl, hlen]
  generalize S ++ [Ob.own []] = S0 at O0 P0 ⊢
  generalize mk S.length 0 = y0 at O0 ⊢
  refine aw_count 9 [7, 8] (fun (y : Value) => [(3, y)]) (0) (d.length) (fun k y SS => Pre S.length S SS ∧ ∃ t g, OT S.length SS y t g (d.take k)) (y0) ?_ ?_ ?_ ?_
  · simp only [go_sem, ↓reduceIte, Nat.reduceEqDiff, and_self, and_true, true_and, Int.ofNat_zero, Int.ofNat_one, Int.cast_ofNat_Int, hsl, hlen]
  · omega
  rotate_left
  rintro k y Sk hk0 hk ⟨P1, t, g, O1⟩
  simp only [go_sem, ↓reduceIte, Nat.reduceEqDiff, hsl, hlen]
  refine condK_lt hk (fun hk => ?_) (fun he => ?_)
  · have M1 := hM.ext P1.ext
    have M2 := M1.ext (Ext.append Sk [.own []])
    have b1 := P1.len
    have hrow := hr k
    obtain ⟨v', S', ha, hs, hpre, t', ht', OL1⟩ := ol_copy (M1.row k hk)
    have hsm : (slen v' ≤ 1099511627776) = True := by simp only [eq_iff_iff, iff_true, hs]; omega
    have O2 := O1.all hpre
    have hlt := own_lt OL1.own
    obtain ⟨v2, S2, ha2, hs2, hpre2, t2, g2, O3⟩ := O2.addRow OL1.own (by omega) (by have := own_lt O1.own; omega) (fun i hi => by have := own_lt (O1.row i hi); omega)
    rw [← OL1.top] at ha2
    have hsm2 : (slen v2 ≤ 1099511627776) = True := by simp only [eq_iff_iff, iff_true, hs2, List.length_take]; omega
    have hat : atomB v' = true := by rw [OL1.top]; rfl
    simp only [go_sem, ↓reduceIte, Nat.reduceEqDiff, hsl, hlen, hk, M1.get, M2.get, ha, hsm, hat, ha2, hsm2]
    refine forK_step (v2) hk hk0 ?_ ?_
    · have hib := Nat.lt_of_lt_of_le hk hN; simp only [go_sem, ↓reduceIte, Nat.reduceEqDiff, and_self, and_true, true_and, Int.ofNat_zero, Int.ofNat_one, Int.cast_ofNat_Int, wrap_succ hib]
    exact ⟨P1.trans ((hpre.mono b1).trans hpre2), t2, g2, by rw [take_getD (z := []) hk]; exact O3⟩
  · subst he
    simp only [go_sem, ↓reduceIte, Nat.reduceEqDiff]
    rw [List.take_length] at O1
    exact ⟨⟨t, g, O1⟩, P1⟩
  · exact ⟨P0, _, _, O0⟩

end Go.Proofs.Ytodeldmkpogakaa

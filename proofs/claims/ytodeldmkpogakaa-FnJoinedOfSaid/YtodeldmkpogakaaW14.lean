/- Walks: the best ways. -/
import Derived.Test.YtodeldmkpogakaaW13
import Derived.Test.YtodeldmkpogakaaPure5
namespace Go.Proofs.Ytodeldmkpogakaa
open Go Go.Mill
set_option maxRecDepth 100000
set_option linter.unusedSimpArgs false
set_option linter.unusedVariables false

theorem sBelowOf_c (S : Store) (v : Value) (r : Nat → Value) (d : List (List Int)) (hM : Mat S v r d) (hd : d.length ≤ maxLen) :
    ACalls Try.prog 63 [v] S fun u S' => MineT S.length S' u (belowV d) ∧ Pre S.length S S' := by
  refine ACalls.intro (ts := [2]) 61 follows Try.func63 rfl (by kernel_rfl) (by kernel_rfl) (by simp) ?_
  simp only [go_sem, ↓reduceIte, Nat.reduceEqDiff, argEnv]
  refine callK.intro (by kernel_rfl) (sFarOk_c S v r d hM hd) ?_
  rintro _ _ ⟨rfl, rfl⟩
  simp only [go_sem, ↓reduceIte, Nat.reduceEqDiff]
  cases hF : farB d with
  | false =>
    simp only [go_sem, ↓reduceIte, Nat.reduceEqDiff]
    exact ⟨.inr ⟨_, _, by simp only [belowV, hF, Bool.false_eq_true, ↓reduceIte]; exact OT.none (Nat.le_refl _)⟩, (Pre.refl _ _).app (Nat.le_refl _) _⟩
  | true =>
    have hF' := farB_is hF
    have h6 := hF'.2.1
    simp only [go_sem, ↓reduceIte, Nat.reduceEqDiff]
    refine callK.intro (by kernel_rfl) (l2Copy_c S v r d hM (by omega) (fun j => by
      rcases Nat.lt_or_ge j d.length with h | h
      · rw [hF'.sq j h]; omega
      · simp [List.getElem?_eq_none h])) ?_
    rintro y S1 ⟨⟨t, g, O1⟩, P1⟩
    have hN : d.length ≤ 9223372036854775807 := hd
    have O2 : OS S.length S1 y t g d d.length := ⟨O1, rfl, hF'.sq⟩
    have hsl := hM.sl
    have hlen := hM.len
    obtain ⟨n, hn⟩ : ∃ n, n = d.length := ⟨_, rfl⟩
    have hV : belowV d = stepM max d n n := by simp only [belowV, hF, fw, ↓reduceIte, hn]
    rw [← hn] at O2 hlen hN
    simp only [go_sem, ↓reduceIte, Nat.reduceEqDiff]
    refine aw_count 4 [0, 3] (fun (z : Unit) => []) (0) (n) (fun m z SS => Pre S.length S SS ∧ OS S.length SS y t g (stepM max d n m) n) (()) ?_ ?_ ?_ ?_
    · simp only [go_sem, ↓reduceIte, Nat.reduceEqDiff, and_self, and_true, true_and, Int.ofNat_zero, Int.ofNat_one, Int.cast_ofNat_Int, hsl, hlen]
    · omega
    rotate_left
    rintro m z Sm hm0 hm ⟨P2, O3⟩
    simp only [go_sem, ↓reduceIte, Nat.reduceEqDiff, hsl, hlen]
    refine condK_lt hm (fun hm => ?_) (fun he => ?_)
    · simp only [go_sem, ↓reduceIte, Nat.reduceEqDiff]
      refine aw_count 5 [0, 3, 4] (fun (z2 : Unit) => []) (0) (n) (fun k z2 SS => Pre S.length S SS ∧ OS S.length SS y t g (stepK max (stepM max d n m) m n k) n) (()) ?_ ?_ ?_ ?_
      · simp only [go_sem, ↓reduceIte, Nat.reduceEqDiff, and_self, and_true, true_and, Int.ofNat_zero, Int.ofNat_one, Int.cast_ofNat_Int, hsl, hlen]
      · omega
      rotate_left
      rintro k z2 Sk hk0 hk ⟨P3, O4⟩
      simp only [go_sem, ↓reduceIte, Nat.reduceEqDiff, hsl, hlen]
      refine condK_lt hk (fun hk => ?_) (fun he => ?_)
      · simp only [go_sem, ↓reduceIte, Nat.reduceEqDiff]
        refine aw_count 6 [0, 3, 4, 5] (fun (z3 : Unit) => []) (0) (n) (fun j z3 SS => Pre S.length S SS ∧ OS S.length SS y t g (stepJ max (stepK max (stepM max d n m) m n k) m k j) n) (()) ?_ ?_ ?_ ?_
        · simp only [go_sem, ↓reduceIte, Nat.reduceEqDiff, and_self, and_true, true_and, Int.ofNat_zero, Int.ofNat_one, Int.cast_ofNat_Int, hsl, hlen]
        · omega
        rotate_left
        rintro j z3 Sj hj0 hj ⟨P4, O5⟩
        simp only [go_sem, ↓reduceIte, Nat.reduceEqDiff, hsl, hlen]
        refine condK_lt hj (fun hj => ?_) (fun he => ?_)
        · refine .tail 29 ?_ (by kernel_rfl)
          simp only [go_sem, ↓reduceIte, Nat.reduceEqDiff, List.take_succ_cons, List.take_zero, List.drop_succ_cons, List.drop_zero, hsl, hlen, hm, hk, hj, O5.sl, O5.slen, O5.get, O5.rsl, O5.rlen, O5.cell, O5.st]
          refine forK_step (()) hj hj0 ?_ ?_
          · have hib := Nat.lt_of_lt_of_le hj hN; simp only [go_sem, ↓reduceIte, Nat.reduceEqDiff, and_self, and_true, true_and, Int.ofNat_zero, Int.ofNat_one, Int.cast_ofNat_Int, wrap_succ hib]
          exact ⟨P4.set (O5.bg k hk) _, O5.put k j hk hj _⟩
        · have he2 := he.symm
          clear he
          subst he2
          simp only [go_sem, ↓reduceIte, Nat.reduceEqDiff]
          refine forK_step (()) hk hk0 ?_ ?_
          · have hib := Nat.lt_of_lt_of_le hk hN; simp only [go_sem, ↓reduceIte, Nat.reduceEqDiff, and_self, and_true, true_and, Int.ofNat_zero, Int.ofNat_one, Int.cast_ofNat_Int, wrap_succ hib]
          exact ⟨P4, O5⟩
        · exact ⟨P3, O4⟩
      · have he2 := he.symm
        clear he
        subst he2
        simp only [go_sem, ↓reduceIte, Nat.reduceEqDiff]
        refine forK_step (()) hm hm0 ?_ ?_
        · have hib := Nat.lt_of_lt_of_le hm hN; simp only [go_sem, ↓reduceIte, Nat.reduceEqDiff, and_self, and_true, true_and, Int.ofNat_zero, Int.ofNat_one, Int.cast_ofNat_Int, wrap_succ hib]
        exact ⟨P3, O4⟩
      · exact ⟨P2, O3⟩
    · have he2 := he.symm
      clear he
      subst he2
      simp only [go_sem, ↓reduceIte, Nat.reduceEqDiff]
      exact ⟨.inr ⟨t, g, by rw [hV]; exact O3.ot⟩, P2⟩
    · exact ⟨P1, O2⟩

end Go.Proofs.Ytodeldmkpogakaa

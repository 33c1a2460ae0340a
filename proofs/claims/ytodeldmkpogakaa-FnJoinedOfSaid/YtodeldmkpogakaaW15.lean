/- Walks: the best ways of the program. -/
import Derived.Test.YtodeldmkpogakaaW14
namespace Go.Proofs.Ytodeldmkpogakaa
open Go Go.Mill
set_option maxRecDepth 100000
set_option linter.unusedSimpArgs false
set_option linter.unusedVariables false

theorem bestWays_c (f : Int → Int → Int) (fid : FuncId) (hca : callable Try.prog fid = true) (hf : ∀ (S : Store) (a b : Int), ACalls Try.prog fid [.int .i64 a, .int .i64 b] S (Ret S (.int .i64 (f a b))))
    (S : Store) (v : Value) (r : Nat → Value) (d : List (List Int)) (hM : Mat S v r d) (hF : IsFar d) :
    ACalls Try.prog 87 [v, .func (.func fid) #[] #[]] S fun u S' => (∃ t g, OT S.length S' u t g (fw f d)) ∧ Pre S.length S S' := by
  refine ACalls.intro (ts := [4]) 60 follows Try.func87 rfl (by kernel_rfl) (by kernel_rfl) (by simp) ?_
  have h6 := hF.2.1
  simp only [go_sem, ↓reduceIte, Nat.reduceEqDiff, argEnv]
  refine callK.intro (by kernel_rfl) (copyRows_c S v r d hM (by omega) (fun j => by
    rcases Nat.lt_or_ge j d.length with h | h
    · rw [hF.sq j h]; omega
    · simp [List.getElem?_eq_none h])) ?_
  rintro y S1 ⟨⟨t, g, O1⟩, P1⟩
  have O2 : OS S.length S1 y t g d d.length := ⟨O1, rfl, hF.sq⟩
  obtain ⟨n, hn⟩ : ∃ n, n = d.length := ⟨_, rfl⟩
  have hV : fw f d = stepM f d n n := by simp only [fw, hn]
  rw [← hn] at O2
  have hN : n ≤ 9223372036854775807 := by omega
  have hsl := O2.sl
  have hlen := O2.slen
  simp only [go_sem, ↓reduceIte, Nat.reduceEqDiff, hsl, hlen]
  refine aw_count 13 [1, 5, 12] (fun (z : Unit) => []) (0) (n) (fun m z SS => Pre S.length S SS ∧ OS S.length SS y t g (stepM f d n m) n) (()) ?_ ?_ ?_ ?_
  · simp only [go_sem, ↓reduceIte, Nat.reduceEqDiff, and_self, and_true, true_and, Int.ofNat_zero, Int.ofNat_one, Int.cast_ofNat_Int, hsl, hlen]
  · omega
  rotate_left
  rintro m z Sm hm0 hm ⟨P2, O3⟩
  simp only [go_sem, ↓reduceIte, Nat.reduceEqDiff, hsl, hlen]
  refine condK_lt hm (fun hm => ?_) (fun he => ?_)
  · simp only [go_sem, ↓reduceIte, Nat.reduceEqDiff, hsl, hlen]
    refine aw_count 18 [1, 5, 6, 12, 13, 17] (fun (z2 : Unit) => []) (0) (n) (fun k z2 SS => Pre S.length S SS ∧ OS S.length SS y t g (stepK f (stepM f d n m) m n k) n) (()) ?_ ?_ ?_ ?_
    · simp only [go_sem, ↓reduceIte, Nat.reduceEqDiff, and_self, and_true, true_and, Int.ofNat_zero, Int.ofNat_one, Int.cast_ofNat_Int, hsl, hlen]
    · omega
    rotate_left
    rintro k z2 Sk hk0 hk ⟨P3, O4⟩
    simp only [go_sem, ↓reduceIte, Nat.reduceEqDiff, hsl, hlen]
    refine condK_lt hk (fun hk => ?_) (fun he => ?_)
    · simp only [go_sem, ↓reduceIte, Nat.reduceEqDiff, hsl, hlen]
      refine aw_count 23 [1, 5, 6, 7, 12, 13, 17, 18, 22] (fun (z3 : Unit) => []) (0) (n) (fun j z3 SS => Pre S.length S SS ∧ OS S.length SS y t g (stepJ f (stepK f (stepM f d n m) m n k) m k j) n) (()) ?_ ?_ ?_ ?_
      · simp only [go_sem, ↓reduceIte, Nat.reduceEqDiff, and_self, and_true, true_and, Int.ofNat_zero, Int.ofNat_one, Int.cast_ofNat_Int, hsl, hlen]
      · omega
      rotate_left
      rintro j z3 Sj hj0 hj ⟨P4, O5⟩
      simp only [go_sem, ↓reduceIte, Nat.reduceEqDiff, hsl, hlen]
      refine condK_lt hj (fun hj => ?_) (fun he => ?_)
      · simp only [go_sem, ↓reduceIte, Nat.reduceEqDiff]
        refine draw_mix [true, true, true, true, true, true, true, true, true, true, true, true, true, true, true, true, true, true, true, true, true, true, true, true, true, true, true] 4 ?_ (by kernel_rfl)
        simp only [go_sem, ↓reduceIte, Nat.reduceEqDiff, hsl, hlen, hm, hk, hj, O5.get, O5.rsl, O5.rlen, O5.cell]
        refine anyW_one 27 (by kernel_rfl) ?_
        simp only [go_sem, ↓reduceIte, Nat.reduceEqDiff]
        refine ⟨hca, ?_⟩
        refine (hf _ _ _).mono ?_
        rintro _ _ ⟨rfl, rfl⟩
        simp only [go_sem, ↓reduceIte, Nat.reduceEqDiff]
        refine andK_intro (.inl (Ext.refl _)) ?_
        refine anyW_one 28 (by kernel_rfl) ?_
        simp only [go_sem, ↓reduceIte, Nat.reduceEqDiff]
        refine andK_intro (.inl (Ext.refl _)) ?_
        refine anyW_one 29 (by kernel_rfl) ?_
        simp only [go_sem, ↓reduceIte, Nat.reduceEqDiff, O5.rlen, O5.rsl, hk, hj]
        refine andK_intro (.inl (Ext.refl _)) ?_
        refine anyW_one 30 (by kernel_rfl) ?_
        simp only [go_sem, ↓reduceIte, Nat.reduceEqDiff, O5.st, hk, hj]
        refine andK_intro (.inr (by kernel_rfl)) ?_
        refine anyW_done (by kernel_rfl) ?_
        simp only [go_sem, ↓reduceIte, Nat.reduceEqDiff]
        refine forK_step (()) hj hj0 ?_ ?_
        · have hib := Nat.lt_of_lt_of_le hj hN; simp only [go_sem, ↓reduceIte, Nat.reduceEqDiff, and_self, and_true, true_and, Int.ofNat_zero, Int.ofNat_one, Int.cast_ofNat_Int, wrap_succ hib]
        exact ⟨P4.set (O5.bg k hk) _, O5.put k j hk hj _⟩
      · have he2 := he.symm
        clear he
        subst he2
        simp only [go_sem, ↓reduceIte, Nat.reduceEqDiff]
        refine forK_step (()) hk hk0 ?_ ?_
        · have hib := Nat.lt_of_lt_of_le hk hN; simp only [go_sem, ↓reduceIte, Nat.reduceEqDiff, and_self, and_true, true_and, Int.ofNat_zero, Int.ofNat_one, Int.cast_ofNat_Int, wrap_succ hib]
        exact ⟨P4, O5⟩
      · exact ⟨P3, O4⟩
    · have he2 := he.symm
      clear he
      subst he2
      simp only [go_sem, ↓reduceIte, Nat.reduceEqDiff]
      refine forK_step (()) hm hm0 ?_ ?_
      · have hib := Nat.lt_of_lt_of_le hm hN; simp only [go_sem, ↓reduceIte, Nat.reduceEqDiff, and_self, and_true, true_and, Int.ofNat_zero, Int.ofNat_one, Int.cast_ofNat_Int, wrap_succ hib]
      exact ⟨P3, O4⟩
    · exact ⟨P2, O3⟩
  · have he2 := he.symm
    clear he
    subst he2
    simp only [go_sem, ↓reduceIte, Nat.reduceEqDiff]
    exact ⟨⟨t, g, by rw [hV]; exact O3.ot⟩, P2⟩
  · exact ⟨P1, O2⟩
end Go.Proofs.Ytodeldmkpogakaa

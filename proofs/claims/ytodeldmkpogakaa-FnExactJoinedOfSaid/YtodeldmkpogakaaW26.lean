/- Walks: marks are set, and held. -/
import Derived.Test.YtodeldmkpogakaaW0
import Derived.Test.YtodeldmkpogakaaPure13
namespace Go.Proofs.Ytodeldmkpogakaa
open Go Go.Mill
set_option maxRecDepth 100000
set_option linter.unusedSimpArgs false
set_option linter.unusedVariables false

theorem markIntS_c (b : Nat) (S : Store) (v : Value) (t : Nat) (xs : List Int) (O : OL b S v t xs) (k : Nat) (hx : xs.length ≤ maxLen) (hk : k + xs.length ≤ 9000000000000000000) :
    ACalls Try.prog 37 [v, .int .i64 k] S fun u S' => u = .int .i64 ((k + xs.length : Nat) : Int) ∧ OL b S' v t (markL k xs.length) ∧ S'.length = S.length ∧ ∀ q, q ≠ t → S'[q]? = S[q]? := by
  refine ACalls.intro (ts := [4]) 19 follows Try.func37 rfl (by kernel_rfl) (by kernel_rfl) (by simp) ?_
  have hsl := O.ints.sl
  have hlen := O.ints.len
  have hN : xs.length ≤ 9223372036854775807 := hx
  simp only [go_sem, ↓reduceIte, Nat.reduceEqDiff, argEnv, hsl, hlen]
  refine aw_count 5 [0] (fun (y : Nat) => [(1, .int .i64 ((y : Nat) : Int))]) (0) (xs.length) (fun i y SS => y = k + i ∧ OL b SS v t (markL k i ++ xs.drop i) ∧ SS.length = S.length ∧ ∀ q, q ≠ t → SS[q]? = S[q]?) (k) ?_ ?_ ?_ ?_
  · simp only [go_sem, ↓reduceIte, Nat.reduceEqDiff, and_self, and_true, true_and, Int.ofNat_zero, Int.ofNat_one, Int.cast_ofNat_Int, hsl, hlen, Nat.add_zero]
  · omega
  rotate_left
  rintro i y Si hi0 hi ⟨rfl, O1, hl1, hk1⟩
  simp only [go_sem, ↓reduceIte, Nat.reduceEqDiff, hsl, hlen, Nat.add_zero]
  refine condK_lt hi (fun hi => ?_) (fun he => ?_)
  · have hll : (markL k i ++ xs.drop i).length = xs.length := by simp [markL_len]; omega
    obtain ⟨hst, O2⟩ := O1.st (k := i) (by rw [hll]; exact hi) ((k + i : Nat) : Int)
    rw [mark_step hi] at hst O2
    have hw : IntKind.i64.wrap (((k + i : Nat) : Int) + 1) = ((k + (i + 1) : Nat) : Int) := by rw [wrap64 (by omega)]; omega
    simp only [go_sem, ↓reduceIte, Nat.reduceEqDiff, hsl, hlen, hi, hst, hw]
    refine forK_step (k + (i + 1)) hi hi0 ?_ ?_
    · have hib := Nat.lt_of_lt_of_le hi hN; simp only [go_sem, ↓reduceIte, Nat.reduceEqDiff, and_self, and_true, true_and, Int.ofNat_zero, Int.ofNat_one, Int.cast_ofNat_Int, wrap_succ hib, hw]
    refine ⟨rfl, O2, by rw [List.length_set]; exact hl1, fun q hq => ?_⟩
    rw [List.getElem?_set_ne (Ne.symm hq)]; exact hk1 q hq
  · subst he
    simp only [go_sem, ↓reduceIte, Nat.reduceEqDiff]
    rw [List.drop_length, List.append_nil] at O1
    exact ⟨by trivial, O1, hl1, hk1⟩
  · exact ⟨rfl, by simpa [markL] using O, rfl, fun _ _ => rfl⟩

theorem heldIntS_c (S : Store) (v : Value) (k n : Nat) (hI : Ints S v (markL k n)) (hx : n ≤ maxLen) (hk : k + n ≤ 9000000000000000000) :
    ACalls Try.prog 38 [v, .int .i64 k] S (Ret S (.int .i64 ((k + n : Nat) : Int))) := by
  refine ACalls.intro (ts := [4]) 21 follows Try.func38 rfl (by kernel_rfl) (by kernel_rfl) (by simp) ?_
  have hsl := hI.sl
  have hlen := hI.len
  rw [markL_len] at hlen
  have hN : n ≤ 9223372036854775807 := hx
  simp only [go_sem, ↓reduceIte, Nat.reduceEqDiff, argEnv, hsl, hlen]
  refine aw_count 5 [0] (fun (y : Nat) => [(1, .int .i64 ((y : Nat) : Int))]) (0) (n) (fun i y SS => y = k + i ∧ S = SS) (k) ?_ ?_ ?_ ?_
  · simp only [go_sem, ↓reduceIte, Nat.reduceEqDiff, and_self, and_true, true_and, Int.ofNat_zero, Int.ofNat_one, Int.cast_ofNat_Int, hsl, hlen, Nat.add_zero]
  · omega
  rotate_left
  rintro i y Si hi0 hi ⟨rfl, rfl⟩
  simp only [go_sem, ↓reduceIte, Nat.reduceEqDiff, hsl, hlen, Nat.add_zero]
  refine condK_lt hi (fun hi => ?_) (fun he => ?_)
  · have hg := hI.get i (by rw [markL_len]; exact hi)
    rw [markL_get hi] at hg
    have hw : IntKind.i64.wrap (((k + i : Nat) : Int) + 1) = ((k + (i + 1) : Nat) : Int) := by rw [wrap64 (by omega)]; omega
    simp only [go_sem, ↓reduceIte, Nat.reduceEqDiff, hsl, hlen, hi, hg, not_true_eq_false, decide_false, hw]
    refine forK_step (k + (i + 1)) hi hi0 ?_ ?_
    · have hib := Nat.lt_of_lt_of_le hi hN; simp only [go_sem, ↓reduceIte, Nat.reduceEqDiff, and_self, and_true, true_and, Int.ofNat_zero, Int.ofNat_one, Int.cast_ofNat_Int, wrap_succ hib, hw]
    exact ⟨rfl, rfl⟩
  · subst he
    simp only [go_sem, ↓reduceIte, Nat.reduceEqDiff]
    exact Ret.mk _ _
  · exact ⟨rfl, rfl⟩

theorem markIntSS_c (b : Nat) (S : Store) (v : Value) (t : Nat) (g : Nat → Nat) (d : List (List Int)) (O : OT b S v t g d) (k : Nat) (hx : d.length ≤ maxLen) (hr : ∀ j, j < d.length → (d.getD j []).length ≤ maxLen) (hk : k + tot d d.length ≤ 9000000000000000000) :
    ACalls Try.prog 36 [v, .int .i64 k] S fun u S' => u = .int .i64 ((k + tot d d.length : Nat) : Int) ∧ OT b S' v t g (markT k d) ∧ S'.length = S.length ∧ ∀ q, (∀ j, j < d.length → q ≠ g j) → S'[q]? = S[q]? := by
  refine ACalls.intro (ts := [4]) 19 follows Try.func36 rfl (by kernel_rfl) (by kernel_rfl) (by simp) ?_
  have hsl := O.mat.sl
  have hlen := O.mat.len
  have hN : d.length ≤ 9223372036854775807 := hx
  simp only [go_sem, ↓reduceIte, Nat.reduceEqDiff, argEnv, hsl, hlen]
  refine aw_count 5 [0] (fun (y : Nat) => [(1, .int .i64 ((y : Nat) : Int))]) (0) (d.length) (fun i y SS => y = k + tot d i ∧ OT b SS v t g (markTo k d i) ∧ SS.length = S.length ∧ ∀ q, (∀ j, j < d.length → q ≠ g j) → SS[q]? = S[q]?) (k) ?_ ?_ ?_ ?_
  · simp only [go_sem, ↓reduceIte, Nat.reduceEqDiff, and_self, and_true, true_and, Int.ofNat_zero, Int.ofNat_one, Int.cast_ofNat_Int, hsl, hlen, Nat.add_zero]
  · omega
  rotate_left
  rintro i y Si hi0 hi ⟨rfl, O1, hl1, hk1⟩
  simp only [go_sem, ↓reduceIte, Nat.reduceEqDiff, hsl, hlen, Nat.add_zero]
  refine condK_lt hi (fun hi => ?_) (fun he => ?_)
  · have hi' : i < (markTo k d i).length := by rw [markTo_len]; exact hi
    have hrow : (markTo k d i).getD i [] = d.getD i [] := by rw [markTo_row hi, if_neg (by omega)]
    have OLi : OL b Si (orow g (markTo k d i) i) (g i) (d.getD i []) := by
      have := O1.row i hi'
      rw [hrow] at this
      exact ⟨by unfold orow; rw [hrow], O1.bg i hi', this⟩
    have hM := O1.mat
    have hle := tot_mono (d := d) (show i + 1 ≤ d.length by omega)
    simp only [tot] at hle
    simp only [go_sem, ↓reduceIte, Nat.reduceEqDiff, hsl, hlen, hi, hi', hM.get]
    refine callK.intro (by kernel_rfl) (markIntS_c b _ _ _ _ OLi (k + tot d i) (hr i hi) (by omega)) ?_
    rintro _ S2 ⟨rfl, OL2, hl2, hk2⟩
    have O2 := O1.setRow hi' (xs := markL (k + tot d i) (d.getD i []).length) (by rw [markL_len, hrow]) OL2.own hk2
    rw [← markTo_succ hi] at O2
    have hadd : ((k + tot d i + (d.getD i []).length : Nat) : Int) = ((k + tot d (i + 1) : Nat) : Int) := by simp only [tot]; omega
    simp only [go_sem, ↓reduceIte, Nat.reduceEqDiff]
    refine forK_step (k + tot d (i + 1)) hi hi0 ?_ ?_
    · have hib := Nat.lt_of_lt_of_le hi hN; simp only [go_sem, ↓reduceIte, Nat.reduceEqDiff, and_self, and_true, true_and, Int.ofNat_zero, Int.ofNat_one, Int.cast_ofNat_Int, wrap_succ hib, hadd]
    exact ⟨rfl, O2, by rw [hl2]; exact hl1, fun q hq => by rw [hk2 q (hq i hi)]; exact hk1 q hq⟩
  · subst he
    simp only [go_sem, ↓reduceIte, Nat.reduceEqDiff]
    exact ⟨by trivial, O1, hl1, hk1⟩
  · exact ⟨rfl, by rw [markTo_zero]; exact O, rfl, fun _ _ => rfl⟩

theorem heldIntSS_c (S : Store) (v : Value) (r : Nat → Value) (k : Nat) (d : List (List Int)) (hM : Mat S v r (markT k d)) (hx : d.length ≤ maxLen) (hr : ∀ j, j < d.length → (d.getD j []).length ≤ maxLen) (hk : k + tot d d.length ≤ 9000000000000000000) :
    ACalls Try.prog 45 [v, .int .i64 k] S (Ret S (.int .i64 ((k + tot d d.length : Nat) : Int))) := by
  refine ACalls.intro (ts := [4]) 21 follows Try.func45 rfl (by kernel_rfl) (by kernel_rfl) (by simp) ?_
  have hsl := hM.sl
  have hlen := hM.len
  rw [markT_len] at hlen
  have hN : d.length ≤ 9223372036854775807 := hx
  simp only [go_sem, ↓reduceIte, Nat.reduceEqDiff, argEnv, hsl, hlen]
  refine aw_count 5 [0] (fun (y : Nat) => [(1, .int .i64 ((y : Nat) : Int))]) (0) (d.length) (fun i y SS => y = k + tot d i ∧ S = SS) (k) ?_ ?_ ?_ ?_
  · simp only [go_sem, ↓reduceIte, Nat.reduceEqDiff, and_self, and_true, true_and, Int.ofNat_zero, Int.ofNat_one, Int.cast_ofNat_Int, hsl, hlen, Nat.add_zero]
  · omega
  rotate_left
  rintro i y Si hi0 hi ⟨rfl, rfl⟩
  simp only [go_sem, ↓reduceIte, Nat.reduceEqDiff, hsl, hlen, Nat.add_zero]
  refine condK_lt hi (fun hi => ?_) (fun he => ?_)
  · have hi' : i < (markT k d).length := by rw [markT_len]; exact hi
    have hrow := hM.row i hi'
    rw [markT_row hi] at hrow
    have hle := tot_mono (d := d) (show i + 1 ≤ d.length by omega)
    simp only [tot] at hle
    have hadd : ((k + tot d i + (d.getD i []).length : Nat) : Int) = ((k + tot d (i + 1) : Nat) : Int) := by simp only [tot]; omega
    have hneg : decide (((k + tot d i + (d.getD i []).length : Nat) : Int) < 0) = false := by rw [decide_eq_false_iff_not]; omega
    simp only [go_sem, ↓reduceIte, Nat.reduceEqDiff, hsl, hlen, hi, hi', hM.get]
    refine callK.intro (by kernel_rfl) (heldIntS_c S _ (k + tot d i) _ hrow (hr i hi) (by omega)) ?_
    rintro _ _ ⟨rfl, rfl⟩
    simp only [go_sem, ↓reduceIte, Nat.reduceEqDiff, hneg]
    refine forK_step (k + tot d (i + 1)) hi hi0 ?_ ?_
    · have hib := Nat.lt_of_lt_of_le hi hN; simp only [go_sem, ↓reduceIte, Nat.reduceEqDiff, and_self, and_true, true_and, Int.ofNat_zero, Int.ofNat_one, Int.cast_ofNat_Int, wrap_succ hib, hadd]
    exact ⟨rfl, rfl⟩
  · subst he
    simp only [go_sem, ↓reduceIte, Nat.reduceEqDiff]
    exact Ret.mk _ _
  · exact ⟨rfl, rfl⟩

/-- .. of a table that lay in S0 from b on. -/
theorem markM_c (b : Nat) (S0 S : Store) (v : Value) (d : List (List Int)) (h : MineT b S0 v d) (H : Held b S0 S) (hx : d.length ≤ maxLen) (hr : ∀ j, j < d.length → (d.getD j []).length ≤ maxLen) (k : Nat) (hk : k + tot d d.length ≤ 9000000000000000000) :
    ACalls Try.prog 36 [v, .int .i64 k] S fun u S' => u = .int .i64 ((k + tot d d.length : Nat) : Int) ∧ MineT b S' v (markT k d) ∧ S'.length = S.length ∧ ∀ q, q < b ∨ S0.length ≤ q → S'[q]? = S[q]? := by
  rcases h with ⟨rfl, rfl⟩ | ⟨t, g, O⟩
  · refine ACalls.intro (ts := [4]) 19 follows Try.func36 rfl (by kernel_rfl) (by kernel_rfl) (by simp) ?_
    simp only [go_sem, ↓reduceIte, Nat.reduceEqDiff, argEnv]
    refine aw_count 5 [0] (fun (y : Unit) => [(1, .int .i64 ((k : Nat) : Int))]) (0) (0) (fun i y SS => S = SS) (()) ?_ ?_ ?_ ?_
    · simp only [go_sem, ↓reduceIte, Nat.reduceEqDiff, and_self, and_true, true_and, Int.ofNat_zero, Int.ofNat_one, Int.cast_ofNat_Int, slen_nil, isSl_nil]
    · omega
    rotate_left
    rintro i y Si hi0 hi rfl
    obtain rfl : i = 0 := by omega
    have h0 : decide (((0 : Nat) : Int) < ((0 : Nat) : Int)) = false := rfl
    simp only [go_sem, ↓reduceIte, Nat.reduceEqDiff, h0]
    exact ⟨by simp [tot], .inl ⟨rfl, by simp [markT, markTo]⟩, by trivial, fun _ _ => by trivial⟩
    rfl
  · refine (markIntSS_c b S v t g d (O.keep H.keep) k hx hr hk).mono ?_
    rintro u S' ⟨h1, h2, h3, h4⟩
    refine ⟨h1, .inr ⟨t, g, h2⟩, h3, fun q hq => h4 q fun j hj => ?_⟩
    have a := O.bg j hj
    have b := own_lt (O.row j hj)
    omega

theorem markN_c (b : Nat) (S0 S : Store) (v : Value) (xs : List Int) (h : Mine b S0 v xs) (H : Held b S0 S) (hx : xs.length ≤ maxLen) (k : Nat) (hk : k + xs.length ≤ 9000000000000000000) :
    ACalls Try.prog 37 [v, .int .i64 k] S fun u S' => u = .int .i64 ((k + xs.length : Nat) : Int) ∧ Mine b S' v (markL k xs.length) ∧ S'.length = S.length ∧ ∀ q, q < b ∨ S0.length ≤ q → S'[q]? = S[q]? := by
  rcases h with ⟨rfl, rfl⟩ | ⟨t, O⟩
  · refine ACalls.intro (ts := [4]) 19 follows Try.func37 rfl (by kernel_rfl) (by kernel_rfl) (by simp) ?_
    simp only [go_sem, ↓reduceIte, Nat.reduceEqDiff, argEnv]
    refine aw_count 5 [0] (fun (y : Unit) => [(1, .int .i64 ((k : Nat) : Int))]) (0) (0) (fun i y SS => S = SS) (()) ?_ ?_ ?_ ?_
    · simp only [go_sem, ↓reduceIte, Nat.reduceEqDiff, and_self, and_true, true_and, Int.ofNat_zero, Int.ofNat_one, Int.cast_ofNat_Int, slen_nil, isSl_nil]
    · omega
    rotate_left
    rintro i y Si hi0 hi rfl
    obtain rfl : i = 0 := by omega
    have h0 : decide (((0 : Nat) : Int) < ((0 : Nat) : Int)) = false := rfl
    simp only [go_sem, ↓reduceIte, Nat.reduceEqDiff, h0]
    exact ⟨by simp, .inl ⟨rfl, by simp [markL]⟩, by trivial, fun _ _ => by trivial⟩
    rfl
  · refine (markIntS_c b S v t xs (O.keep (H.keep t O.bt (own_lt O.own))) k hx hk).mono ?_
    rintro u S' ⟨h1, h2, h3, h4⟩
    refine ⟨h1, .inr ⟨t, h2⟩, h3, fun q hq => h4 q ?_⟩
    have a := O.bt
    have b := own_lt O.own
    omega
end Go.Proofs.Ytodeldmkpogakaa

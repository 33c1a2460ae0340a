/- The law FnStepsOf. -/
import Derived.Test.YtodeldmkpogakaaW7
import Derived.Test.YtodeldmkpogakaaW18
import Derived.Test.YtodeldmkpogakaaW31
namespace Go.Proofs.Ytodeldmkpogakaa
open Go Go.Mill
set_option maxRecDepth 100000
set_option linter.unusedSimpArgs false
set_option linter.unusedVariables false

theorem ascend_nil_c (S : Store) (v : Value) (xs : List Int) (hI : Ints S v xs) (hx : xs.length = 0) :
    ACalls Try.prog 27 [v] S (Ret S (.bool true)) := by
  refine ACalls.intro (ts := [2]) 20 follows Try.func27 rfl (by kernel_rfl) (by kernel_rfl) (by simp) ?_
  have hsl := hI.sl
  have hlen := hI.len
  rw [hx] at hlen
  simp only [go_sem, ↓reduceIte, Nat.reduceEqDiff, argEnv, hsl, hlen]
  refine aw_count 3 [0] (fun (y : Unit) => []) (1) (1) (fun k y SS => S = SS ∧ True) (()) ?_ ?_ ?_ ?_
  · simp only [go_sem, ↓reduceIte, Nat.reduceEqDiff, and_self, and_true, true_and, Int.ofNat_zero, Int.ofNat_one, Int.cast_ofNat_Int, hsl, hlen]
  · omega
  rotate_left
  rintro k y Sk hk0 hk ⟨rfl, -⟩
  obtain rfl : k = 1 := by omega
  have h0 : decide (((1 : Nat) : Int) < ((0 : Nat) : Int)) = false := rfl
  simp only [go_sem, ↓reduceIte, Nat.reduceEqDiff, hsl, hlen, h0]
  exact Ret.mk _ _
  exact ⟨rfl, trivial⟩

theorem mem_steps {d : List (List Int)} (hF : IsFar d) {n : Nat} (hn : n < 61) : ((n : Nat) : Int) ∈ stepsV d ↔ stepB d n = true := by
  rw [stepsV_yes hF]
  simp only [pickN, List.mem_map, List.mem_filter, List.mem_range]
  constructor
  · rintro ⟨k, ⟨h1, h2⟩, h3⟩
    obtain rfl : k = n := by omega
    exact h2
  · intro h; exact ⟨n, ⟨hn, h⟩, rfl⟩
theorem FnStepsOf_c (S : Store) (v : Value) (xs : List Int) (hI : rd S v = some (xs.map (.int .u8))) (hx : xs.length ≤ maxLen) (hb : ∀ b ∈ xs, 0 ≤ b ∧ b ≤ 255) :
    ACalls Try.prog 5 [v] S fun u _ => u = .bool true := by
  refine ACalls.intro (ts := [2]) 68 follows Try.func5 rfl (by kernel_rfl) (by kernel_rfl) (by simp) ?_
  have hsl := rd_isSl hI
  have hlen : slen v = xs.length := by rw [rd_slen hI]; simp
  have m6 : (6 : Nat) ≤ maxLen := by decide
  simp only [go_sem, ↓reduceIte, Nat.reduceEqDiff, argEnv, hsl, hlen]
  refine condK_dec (fun q1 h1 => ?_) (fun q1 h1 => ?_)
  · simp only [go_sem, ↓reduceIte, Nat.reduceEqDiff, h1]
  simp only [go_sem, ↓reduceIte, Nat.reduceEqDiff, h1]
  refine callK.intro (by kernel_rfl) (DrawStepsOf_c S v xs hI hx hb) ?_
  rintro D S1 ⟨r, d, M1, E1, hd6, hr6⟩
  have hd : d.length ≤ maxLen := by omega
  have hVl : (stepsV d).length ≤ maxLen := Nat.le_trans stepsV_six m6
  simp only [go_sem, ↓reduceIte, Nat.reduceEqDiff]
  refine callK.intro (by kernel_rfl) (iStepsOf_c _ _ _ _ M1 hd) ?_
  rintro L S2 ⟨hL, P2⟩
  have M2 := M1.ext P2.ext
  replace hL := hL.ints
  simp only [go_sem, ↓reduceIte, Nat.reduceEqDiff]
  refine callK.intro (by kernel_rfl) (sStepsOf_c _ _ _ _ M2 hd) ?_
  rintro L2 S3 ⟨hL2, P3⟩
  have M3 := M2.ext P3.ext
  have hL3 := hL.ext P3.ext
  simp only [go_sem, ↓reduceIte, Nat.reduceEqDiff]
  refine callK.intro (by kernel_rfl) (sameInts_c _ _ _ _ _ hL3 hL2.ints hVl) ?_
  rintro _ _ ⟨rfl, rfl⟩
  simp only [go_sem, ↓reduceIte, Nat.reduceEqDiff, decide_true]
  have hs3 := hL3.sl
  have hn3 := hL3.len
  refine callK.intro (by kernel_rfl) (sFarOk_c _ _ _ _ M3 hd) ?_
  rintro _ _ ⟨rfl, rfl⟩
  simp only [go_sem, ↓reduceIte, Nat.reduceEqDiff]
  cases hFb : farB d with
  | false =>
    rw [stepsV_no hFb] at hn3
    have hn3 : slen L = 0 := hn3
    have z0 : decide (((0 : Nat) : Int) = 0) = true := rfl
    simp only [go_sem, ↓reduceIte, Nat.reduceEqDiff, hs3, hn3, z0]
    refine callK.intro (by kernel_rfl) (alive_c _) ?_
    rintro _ _ ⟨rfl, -⟩
    simp only [go_sem, ↓reduceIte, Nat.reduceEqDiff]
  | true =>
    have hF := farB_is hFb
    have hlt := stepsV_len hF
    have hsl := M3.sl
    have hlen := M3.len
    have hN61 : 61 ≤ 9223372036854775807 := by omega
    simp only [go_sem, ↓reduceIte, Nat.reduceEqDiff]
    refine aw_count 5 [3, 4] (fun (y : Unit) => []) (1) (61) (fun n y SS => Ext S3 SS) (()) ?_ ?_ ?_ ?_
    · simp only [go_sem, ↓reduceIte, Nat.reduceEqDiff, and_self, and_true, true_and, Int.ofNat_zero, Int.ofNat_one, Int.cast_ofNat_Int, hsl, hlen]
    · omega
    rotate_left
    rintro n y Sn hn0 hn E4
    · simp only [go_sem, ↓reduceIte, Nat.reduceEqDiff]
      refine condK_dec (fun q2 h2 => ?_) (fun q2 h2 => ?_)
      · have hn : n < 61 := by omega
        have M4 := M3.ext E4
        have wn : IntKind.i64.wrap ((n : Int) - 1) = (n : Int) - 1 := wrap64 (by omega)
        simp only [go_sem, ↓reduceIte, Nat.reduceEqDiff, h2, wn]
        refine callK.intro (by kernel_rfl) (iLotsIn_c _ _ _ _ M4 hd ((n : Int) - 1) (by omega)) ?_
        rintro _ S5 ⟨rfl, P5⟩
        have M5 := M4.ext P5.ext
        simp only [go_sem, ↓reduceIte, Nat.reduceEqDiff]
        refine callK.intro (by kernel_rfl) (iLotsIn_c _ _ _ _ M5 hd n (by omega)) ?_
        rintro _ S6 ⟨rfl, P6⟩
        have E6 : Ext S3 S6 := E4.trans (P5.ext.trans P6.ext)
        have hL6 := hL3.ext E6
        have e1 := lotsQ_yes hF (far := (n : Int) - 1) (by omega) (by omega)
        have e2 := lotsQ_yes hF (far := (n : Int)) (by omega) (by omega)
        have hm := @mem_steps d hF n hn
        cases hsb : stepB d n with
        | true =>
          have c0 : decide (((n : Nat) : Int) ∈ stepsV d) = true := by rw [decide_eq_true_eq]; exact hm.2 hsb
          have hy := step_yes hF hn0 hsb
          have c1 : decide (lotsQ d ((n : Int) - 1) ≤ lotsQ d (n : Int)) = false := by rw [decide_eq_false_iff_not, e1, e2]; omega
          simp only [go_sem, ↓reduceIte, Nat.reduceEqDiff]
          refine callK.intro (by kernel_rfl) (hasInt_c _ _ _ hL6 hVl n) ?_
          rintro _ _ ⟨rfl, rfl⟩
          simp only [go_sem, ↓reduceIte, Nat.reduceEqDiff, c0, c1]
          refine callK.intro (by kernel_rfl) (hasInt_c _ _ _ hL6 hVl n) ?_
          rintro _ _ ⟨rfl, rfl⟩
          simp only [go_sem, ↓reduceIte, Nat.reduceEqDiff, c0, c1]
          refine forK_step (()) hn hn0 ?_ ?_
          · have hib := Nat.lt_of_lt_of_le hn hN61; simp only [go_sem, ↓reduceIte, Nat.reduceEqDiff, and_self, and_true, true_and, Int.ofNat_zero, Int.ofNat_one, Int.cast_ofNat_Int, wrap_succ hib]
          exact E6
        | false =>
          have c0 : decide (((n : Nat) : Int) ∈ stepsV d) = false := by rw [decide_eq_false_iff_not, hm, hsb]; simp
          have hy := step_no hF hn0 hsb
          have c1 : decide (¬ lotsQ d (n : Int) = lotsQ d ((n : Int) - 1)) = false := by rw [decide_eq_false_iff_not, e1, e2, hy]; simp
          simp only [go_sem, ↓reduceIte, Nat.reduceEqDiff]
          refine callK.intro (by kernel_rfl) (hasInt_c _ _ _ hL6 hVl n) ?_
          rintro _ _ ⟨rfl, rfl⟩
          simp only [go_sem, ↓reduceIte, Nat.reduceEqDiff, c0]
          refine callK.intro (by kernel_rfl) (hasInt_c _ _ _ hL6 hVl n) ?_
          rintro _ _ ⟨rfl, rfl⟩
          simp only [go_sem, ↓reduceIte, Nat.reduceEqDiff, c0, c1]
          refine forK_step (()) hn hn0 ?_ ?_
          · have hib := Nat.lt_of_lt_of_le hn hN61; simp only [go_sem, ↓reduceIte, Nat.reduceEqDiff, and_self, and_true, true_and, Int.ofNat_zero, Int.ofNat_one, Int.cast_ofNat_Int, wrap_succ hib]
          exact E6
      · have hn : n = 61 := by omega
        have hL4 := hL3.ext E4
        have hs4 := hL4.sl
        have hn4 := hL4.len
        have M4 := M3.ext E4
        have hs5 := M4.sl
        have hn5 := M4.len
        have c3 : decide ((((stepsV d).length : Nat) : Int) < ((d.length : Nat) : Int)) = true := by rw [decide_eq_true_eq]; omega
        simp only [go_sem, ↓reduceIte, Nat.reduceEqDiff, h2, hs4, hn4, hs5, hn5, c3]
        by_cases he : (stepsV d).length = 0
        · refine callK.intro (by kernel_rfl) (ascend_nil_c _ _ _ hL4 he) ?_
          rintro _ _ ⟨rfl, rfl⟩
          simp only [go_sem, ↓reduceIte, Nat.reduceEqDiff]
        · refine callK.intro (by kernel_rfl) (ascend_c _ _ _ hL4 hVl (by omega) (fun i h1 h2 => by rw [stepsV_yes hF] at h2 ⊢; exact pickN_sorted h1 h2)) ?_
          rintro _ _ ⟨rfl, rfl⟩
          simp only [go_sem, ↓reduceIte, Nat.reduceEqDiff]
    · exact Ext.refl _
end Go.Proofs.Ytodeldmkpogakaa

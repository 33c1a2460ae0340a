/- The law FnFarthestFrom. -/
import Derived.Test.YtoecdjgjfbjejaaW8
import Derived.Test.YtoecdjgjfbjejaaW7
import Derived.Test.YtoecdjgjfbjejaaW10
namespace Go.Proofs.Ytoecdjgjfbjejaa
open Go Go.Mill
set_option maxRecDepth 100000
set_option linter.unusedSimpArgs false
set_option linter.unusedVariables false

theorem pickN_all {c : Nat → Bool} : ∀ (n : Nat), (∀ k, k < n → c k = true) → (pickN c n).length = n
  | 0, _ => rfl
  | n + 1, h => by rw [pickN_yes (h n (by omega)), List.length_append, pickN_all n (fun k hk => h k (by omega))]; rfl

theorem FnFarthestFrom_c (S : Store) (v : Value) (xs : List Int) (hI : rd S v = some (xs.map (.int .u8))) (hx : xs.length ≤ maxLen) (hb : ∀ b ∈ xs, 0 ≤ b ∧ b ≤ 255) :
    ACalls Try.prog 4 [v] S fun u _ => u = .bool true := by
  refine ACalls.intro (ts := [2]) 57 follows Try.func4 rfl (by kernel_rfl) (by kernel_rfl) (by simp) ?_
  have hsl := rd_isSl hI
  have hlen : slen v = xs.length := by rw [rd_slen hI]; simp
  simp only [go_sem, ↓reduceIte, Nat.reduceEqDiff, argEnv, hsl, hlen]
  refine condK_dec (fun q1 h1 => ?_) (fun q1 h1 => ?_)
  · simp only [go_sem, ↓reduceIte, Nat.reduceEqDiff, h1]
  simp only [go_sem, ↓reduceIte, Nat.reduceEqDiff, h1]
  refine callK.intro (by kernel_rfl) (DrawFarthestFrom_c S v xs hI hx hb) ?_
  rintro _ S1 ⟨w, x, r, d, rfl, hxb, M1, E1, hd6, hr6⟩
  have hd : d.length ≤ maxLen := by have : (6 : Nat) ≤ maxLen := by decide
                                    omega
  have hN : d.length ≤ 9223372036854775807 := by omega
  simp only [go_sem, ↓reduceIte, Nat.reduceEqDiff]
  refine callK.intro (by kernel_rfl) (iFarthestFrom_c _ _ _ _ M1 hd x hxb) ?_
  rintro _ _ ⟨rfl, rfl⟩
  simp only [go_sem, ↓reduceIte, Nat.reduceEqDiff]
  refine callK.intro (by kernel_rfl) (sFarthestFrom_c _ _ _ _ M1 hd x hxb) ?_
  rintro _ _ ⟨rfl, rfl⟩
  simp only [go_sem, ↓reduceIte, Nat.reduceEqDiff]
  simp only [go_sem, ↓reduceIte, Nat.reduceEqDiff, not_true_eq_false, decide_false]
  cases hP : hasB d x with
  | false =>
    have hv := farV_no (hasB_not hP)
    simp only [go_sem, ↓reduceIte, Nat.reduceEqDiff, hv, Int.reduceNeg, Int.reduceLT, decide_true]
    refine callK.intro (by kernel_rfl) (alive_c _) ?_
    rintro _ _ ⟨rfl, -⟩
    simp only [go_sem, ↓reduceIte, Nat.reduceEqDiff]
  | true =>
    have hP := hasB_is hP
    obtain ⟨n, rfl⟩ := Int.eq_ofNat_of_zero_le hP.2.1
    have hn : n < d.length := by have := hP.2.2; omega
    have hS := hP.1
    have hge : ∀ j, j < d.length → at2 d n j ≤ farV d n := fun j hj => by rw [farV_nat hS hn]; exact top_ge hj
    have h60 : 0 ≤ farV d n ∧ farV d n ≤ 60 := by
      rw [farV_nat hS hn]
      refine ⟨top_z, ?_⟩
      rcases @top_mem (at2 d n) 0 d.length with e | ⟨j, hj, e⟩
      · omega
      · rw [e]; exact (hS.1.2.2.2 n j hn hj).2.2.1
    have hnn : decide (farV d n < 0) = false := by simp only [decide_eq_false_iff_not]; omega
    have hsl := M1.sl
    have hlen := M1.len
    have hrl := M1.sqlen hS.1.sq
    have hcl := M1.sqcell hS.1.sq
    simp only [go_sem, ↓reduceIte, Nat.reduceEqDiff, hnn, hsl, hlen]
    refine aw_count 6 [3, 4, 5] (fun (y : Unit) => []) (0) (d.length) (fun k y SS => S1 = SS) (()) ?_ ?_ ?_ ?_
    · simp only [go_sem, ↓reduceIte, Nat.reduceEqDiff, and_self, and_true, true_and, Int.ofNat_zero, Int.ofNat_one, Int.cast_ofNat_Int, hsl, hlen]
    · omega
    rotate_left
    rintro k y Sk hk0 hk rfl
    simp only [go_sem, ↓reduceIte, Nat.reduceEqDiff, hsl, hlen]
    refine condK_lt hk (fun hk => ?_) (fun he => ?_)
    · have hb1 := (hS.1.2.2.2 n k hn hk)
      have hw : IntKind.i64.wrap (farV d n + at2 d n k) = farV d n + at2 d n k := wrap64 (by omega)
      have hle : farV d k ≤ farV d n + at2 d n k := by
        rw [farV_nat hS hk]
        rcases @top_mem (at2 d k) 0 d.length with e | ⟨j, hj, e⟩
        · omega
        · rw [e]
          have a1 := hS.2 k j n hk hj hn
          have a2 := hge j hj
          omega
      have hgt : decide (farV d n + at2 d n k < farV d k) = false := by simp only [decide_eq_false_iff_not]; omega
      refine draw_same ?_ (by kernel_rfl)
      simp only [go_sem, ↓reduceIte, Nat.reduceEqDiff, hsl, hlen, hn, hk, M1.get, M1.rsl, hrl, hcl]
      refine callQK_same (_) (by kernel_rfl) rfl (iFarthestFrom_c _ _ _ _ M1 hd k (by omega)) ?_
      simp only [go_sem, ↓reduceIte, Nat.reduceEqDiff, hsl, hlen, hn, hk, M1.get, M1.rsl, hrl, hcl, hw, hgt]
      refine forK_step (()) hk hk0 ?_ ?_
      · have hib := Nat.lt_of_lt_of_le hk hN; simp only [go_sem, ↓reduceIte, Nat.reduceEqDiff, and_self, and_true, true_and, Int.ofNat_zero, Int.ofNat_one, Int.cast_ofNat_Int, wrap_succ hib]
      rfl
    · subst he
      have hball : ballV d n (farV d n) = pickN (ballC d n (farV d n)) d.length := ballV_nat hS hn h60
      have hlenb : (ballV d n (farV d n)).length = d.length := by rw [hball]; exact pickN_all _ fun j hj => by simp only [ballC, decide_eq_true_eq]; exact hge j hj
      simp only [go_sem, ↓reduceIte, Nat.reduceEqDiff]
      refine callK.intro (by kernel_rfl) (iBallOf_c _ _ _ _ M1 hd n (by omega) (farV d n) (by omega)) ?_
      rintro u S2 ⟨hM, P2⟩
      have h1 := hM.ints.sl
      have h2 := hM.ints.len
      simp only [go_sem, ↓reduceIte, Nat.reduceEqDiff, h1, h2, hsl, hlen, hlenb, decide_true]
    · rfl
end Go.Proofs.Ytoecdjgjfbjejaa

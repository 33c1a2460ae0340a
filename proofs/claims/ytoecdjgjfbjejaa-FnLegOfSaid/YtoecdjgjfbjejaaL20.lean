/- The law FnLegOf. -/
import Derived.Test.YtoecdjgjfbjejaaW7
import Derived.Test.YtoecdjgjfbjejaaW5
import Derived.Test.YtoecdjgjfbjejaaW25
import Derived.Test.YtoecdjgjfbjejaaPure9
namespace Go.Proofs.Ytoecdjgjfbjejaa
open Go Go.Mill
set_option maxRecDepth 100000
set_option linter.unusedSimpArgs false
set_option linter.unusedVariables false

theorem FnLegOf_c (S : Store) (v : Value) (xs : List Int) (hI : rd S v = some (xs.map (.int .u8))) (hx : xs.length ≤ maxLen) (hb : ∀ b ∈ xs, 0 ≤ b ∧ b ≤ 255) :
    ACalls Try.prog 12 [v] S fun u _ => u = .bool true := by
  refine ACalls.intro (ts := [2]) 70 follows Try.func12 rfl (by kernel_rfl) (by kernel_rfl) (by simp) ?_
  have hsl := rd_isSl hI
  have hlen : slen v = xs.length := by rw [rd_slen hI]; simp
  have m6 : (6 : Nat) ≤ maxLen := by decide
  simp only [go_sem, ↓reduceIte, Nat.reduceEqDiff, argEnv, hsl, hlen]
  refine condK_dec (fun q1 h1 => ?_) (fun q1 h1 => ?_)
  · simp only [go_sem, ↓reduceIte, Nat.reduceEqDiff, h1]
  simp only [go_sem, ↓reduceIte, Nat.reduceEqDiff, h1]
  refine callK.intro (by kernel_rfl) (DrawLegOf_c S v xs hI hx hb) ?_
  rintro _ S1 ⟨w, x, r, d, rfl, hxb, M1, E1, hd6, hr11⟩
  have hd : d.length ≤ maxLen := by omega
  simp only [go_sem, ↓reduceIte, Nat.reduceEqDiff]
  refine callK.intro (by kernel_rfl) (iLegOf_c _ _ _ _ M1 hd x hxb) ?_
  rintro _ _ ⟨rfl, rfl⟩
  simp only [go_sem, ↓reduceIte, Nat.reduceEqDiff]
  have hne : decide (¬ legV d x = legV d x) = false := by simp
  refine callK.intro (by kernel_rfl) (sLegOf_c _ _ _ _ M1 hd x hxb) ?_
  rintro _ _ ⟨rfl, rfl⟩
  simp only [go_sem, ↓reduceIte, Nat.reduceEqDiff, not_true_eq_false, decide_false]
  refine condK_dec (fun q2 h2 => ?_) (fun q2 h2 => ?_)
  · have h3 : decide (legV d x = -1) = true := by rw [decide_eq_true_eq]; exact leg_neg q2
    simp only [go_sem, ↓reduceIte, Nat.reduceEqDiff, h2, h3]
    refine callK.intro (by kernel_rfl) (alive_c _) ?_
    rintro _ _ ⟨rfl, -⟩
    simp only [go_sem, ↓reduceIte, Nat.reduceEqDiff]
  have hP : HasP d x ∧ 3 ≤ d.length := Classical.byContradiction fun h => by rw [legV_no h] at q2; simp at q2
  obtain ⟨hH, h3⟩ := hP
  obtain ⟨p, rfl⟩ := Int.eq_ofNat_of_zero_le hH.2.1
  have hp : p < d.length := by have := hH.2.2; omega
  have hS := hH.1
  have hN : d.length ≤ 9223372036854775807 := by omega
  have hsl := M1.sl
  have hlen := M1.len
  have hrl := M1.sqlen hS.1.sq
  have hcl := M1.sqcell hS.1.sq
  simp only [go_sem, ↓reduceIte, Nat.reduceEqDiff, h2]
  refine aw_count 6 [3, 4, 5] (fun (y : Unit) => []) (0) (d.length) (fun k y SS => S1 = SS ∧ True) (()) ?_ ?_ ?_ ?_
  · simp only [go_sem, ↓reduceIte, Nat.reduceEqDiff, and_self, and_true, true_and, Int.ofNat_zero, Int.ofNat_one, Int.cast_ofNat_Int, hsl, hlen]
  · omega
  rotate_left
  rintro k y Sk hk0 hk ⟨rfl, -⟩
  simp only [go_sem, ↓reduceIte, Nat.reduceEqDiff, hsl, hlen]
  refine condK_lt hk (fun hk => ?_) (fun he => ?_)
  · have heq : decide (¬ ((k : Nat) : Int) = ((p : Nat) : Int)) = decide (¬ k = p) := by rw [decide_eq_decide]; omega
    have b1 := hS.1.at hp hk
    have w1 : IntKind.i64.wrap (2 * at2 d p k) = 2 * at2 d p k := wrap64 (by omega)
    simp only [go_sem, ↓reduceIte, Nat.reduceEqDiff, heq]
    refine gK_dec (fun q4 h4 => ?_) (fun q4 h4 => ?_)
    · obtain ⟨t1, t2⟩ := leg_two hS hp h3 hk q4
      have n1 := @leg_neg d (k : Int)
      have w2 : IntKind.i64.wrap (legV d p + legV d k) = legV d p + legV d k := wrap64 (by omega)
      have c1 : decide (2 * at2 d p k < legV d p) = false := by rw [decide_eq_false_iff_not]; omega
      have c2 : decide (2 * at2 d p k < legV d p + legV d k) = false := by rw [decide_eq_false_iff_not]; omega
      simp only [go_sem, ↓reduceIte, Nat.reduceEqDiff, h4, hsl, hlen, hp, hk, M1.get, M1.rsl, hrl, hcl, w1, c1, heq]
      refine draw_same ?_ (by kernel_rfl)
      simp only [go_sem, ↓reduceIte, Nat.reduceEqDiff, h4, heq]
      refine callQK_same (_) (by kernel_rfl) rfl (iLegOf_c _ _ _ _ M1 hd k (by omega)) ?_
      simp only [go_sem, ↓reduceIte, Nat.reduceEqDiff, hsl, hlen, hp, hk, M1.get, M1.rsl, hrl, hcl, w1, w2, c2]
      refine forK_step (()) hk hk0 ?_ ?_
      · have hib := Nat.lt_of_lt_of_le hk hN; simp only [go_sem, ↓reduceIte, Nat.reduceEqDiff, and_self, and_true, true_and, Int.ofNat_zero, Int.ofNat_one, Int.cast_ofNat_Int, wrap_succ hib]
      exact ⟨rfl, by trivial⟩
    · simp only [go_sem, ↓reduceIte, Nat.reduceEqDiff, h4]
      refine draw_same ?_ (by kernel_rfl)
      simp only [go_sem, ↓reduceIte, Nat.reduceEqDiff, h4, heq]
      refine forK_step (()) hk hk0 ?_ ?_
      · have hib := Nat.lt_of_lt_of_le hk hN; simp only [go_sem, ↓reduceIte, Nat.reduceEqDiff, and_self, and_true, true_and, Int.ofNat_zero, Int.ofNat_one, Int.cast_ofNat_Int, wrap_succ hib]
      exact ⟨rfl, by trivial⟩
  · subst he
    simp only [go_sem, ↓reduceIte, Nat.reduceEqDiff]
  · exact ⟨rfl, by trivial⟩
end Go.Proofs.Ytoecdjgjfbjejaa

/- The law FnLotsAt. -/
import Derived.Test.YtoecdjgjfbjejaaW7
import Derived.Test.YtoecdjgjfbjejaaW11
import Derived.Test.YtoecdjgjfbjejaaW19
namespace Go.Proofs.Ytoecdjgjfbjejaa
open Go Go.Mill
set_option maxRecDepth 100000
set_option linter.unusedSimpArgs false
set_option linter.unusedVariables false

theorem lotsV_small {d : List (List Int)} {far : Int} : (lotsV d far).length ≤ d.length := by
  unfold lotsV; split
  · rw [lotsL_len]; exact Nat.le_refl _
  · simp
theorem FnLotsAt_c (S : Store) (v : Value) (xs : List Int) (hI : rd S v = some (xs.map (.int .u8))) (hx : xs.length ≤ maxLen) (hb : ∀ b ∈ xs, 0 ≤ b ∧ b ≤ 255) :
    ACalls Try.prog 5 [v] S fun u _ => u = .bool true := by
  refine ACalls.intro (ts := [2]) 114 follows Try.func5 rfl (by kernel_rfl) (by kernel_rfl) (by simp) ?_
  have hsl := rd_isSl hI
  have hlen : slen v = xs.length := by rw [rd_slen hI]; simp
  simp only [go_sem, ↓reduceIte, Nat.reduceEqDiff, argEnv, hsl, hlen]
  refine condK_dec (fun q1 h1 => ?_) (fun q1 h1 => ?_)
  · simp only [go_sem, ↓reduceIte, Nat.reduceEqDiff, h1]
  simp only [go_sem, ↓reduceIte, Nat.reduceEqDiff, h1]
  refine callK.intro (by kernel_rfl) (DrawLotsAt_c S v xs hI hx hb) ?_
  rintro _ S1 ⟨w, far, r, d, rfl, hfb, M1, E1, hd6, hr6⟩
  have hd : d.length ≤ maxLen := by have : (6 : Nat) ≤ maxLen := by decide
                                    omega
  have hbl : ∀ f, (lotsV d f).length ≤ maxLen := fun f => Nat.le_trans lotsV_small hd
  simp only [go_sem, ↓reduceIte, Nat.reduceEqDiff]
  refine callK.intro (by kernel_rfl) (iLotsAt_c _ _ _ _ M1 hd far hfb) ?_
  rintro L S2 ⟨hL, P2⟩
  have M2 := M1.ext P2.ext
  replace hL := hL.ints
  simp only [go_sem, ↓reduceIte, Nat.reduceEqDiff]
  refine callK.intro (by kernel_rfl) (sLotsAt_c _ _ _ _ M2 hd far hfb) ?_
  rintro L2 S3 ⟨hL2, P3⟩
  have M3 := M2.ext P3.ext
  have hL3 := hL.ext P3.ext
  simp only [go_sem, ↓reduceIte, Nat.reduceEqDiff]
  refine callK.intro (by kernel_rfl) (sameInts_c _ _ _ _ _ hL3 hL2.ints (hbl _)) ?_
  rintro _ _ ⟨rfl, rfl⟩
  simp only [go_sem, ↓reduceIte, Nat.reduceEqDiff, decide_true]
  have hs3 := hL3.sl
  have hn3 := hL3.len
  simp only [go_sem, ↓reduceIte, Nat.reduceEqDiff, hs3, hn3]
  refine condK_dec (fun q2 h2 => ?_) (fun q2 h2 => ?_)
  · simp only [go_sem, ↓reduceIte, Nat.reduceEqDiff, h2]
    refine callK.intro (by kernel_rfl) (alive_c _) ?_
    rintro _ _ ⟨rfl, -⟩
    simp only [go_sem, ↓reduceIte, Nat.reduceEqDiff]
  have hP : IsFar d ∧ 0 ≤ far ∧ far ≤ 60 := Classical.byContradiction fun h => by rw [lotsV_no h] at q2; simp at q2
  obtain ⟨hF, h0, h60⟩ := hP
  have hV := lotsV_yes hF h0 h60
  rw [hV, lotsL_len] at hn3
  rw [hV] at hL3
  have hg3 : ∀ i, i < d.length → ld S3 (eptr L i) = some (.int .i64 ((lotN d far i : Nat) : Int)) := fun i hi => by
    rw [hL3.get i (by rw [lotsL_len]; exact hi), lotsL_get hi]
  have hwf : IntKind.i64.wrap (far + 1) = far + 1 := wrap64 (by omega)
  simp only [go_sem, ↓reduceIte, Nat.reduceEqDiff, h2, hwf]
  obtain ⟨f2, hf2⟩ : ∃ f2, f2 = min (far + 1) 60 := ⟨_, rfl⟩
  rw [← hf2]
  refine callK.intro (by kernel_rfl) (iLotsAt_c _ _ _ _ M3 hd f2 (by omega)) ?_
  rintro L4 S4 ⟨hL4, P4⟩
  have M4 := M3.ext P4.ext
  have hI4 := hL4.ints
  have hs4 := hI4.sl
  have hn4 := hI4.len
  have hV2 := lotsV_yes hF (show 0 ≤ f2 by omega) (show f2 ≤ 60 by omega)
  rw [hV2, lotsL_len] at hn4
  rw [hV2] at hI4
  have hg4 : ∀ i, i < d.length → ld S4 (eptr L4 i) = some (.int .i64 ((lotN d f2 i : Nat) : Int)) := fun i hi => by
    rw [hI4.get i (by rw [lotsL_len]; exact hi), lotsL_get hi]
  have hg5 : ∀ i, i < d.length → ld S4 (eptr L i) = some (.int .i64 ((lotN d far i : Nat) : Int)) := fun i hi => P4.ext.ld (hg3 i hi)
  have hne : decide (¬ ((d.length : Nat) : Int) = ((d.length : Nat) : Int)) = false := by simp
  have hsl := M4.sl
  have hlen := M4.len
  have hrl := M4.sqlen hF.sq
  have hcl := M4.sqcell hF.sq
  have hN : d.length ≤ 9223372036854775807 := by omega
  have hf20 : 0 ≤ f2 := by omega
  simp only [go_sem, ↓reduceIte, Nat.reduceEqDiff, hs4, hn4, hs3, hn3, hne]
  refine aw_count 7 [3, 4, 5, 6] (fun (y : Unit) => []) (0) (d.length) (fun k y SS => S4 = SS ∧ True) (()) ?_ ?_ ?_ ?_
  · simp only [go_sem, ↓reduceIte, Nat.reduceEqDiff, and_self, and_true, true_and, Int.ofNat_zero, Int.ofNat_one, Int.cast_ofNat_Int, hs3, hn3]
  · omega
  rotate_left
  rintro k y Sk hk0 hk ⟨rfl, -⟩
  simp only [go_sem, ↓reduceIte, Nat.reduceEqDiff, hs3, hn3]
  refine condK_lt hk (fun hk => ?_) (fun he => ?_)
  · have l1 := lot_le hF h0 hk
    have l2 : lotN d far k < d.length := by omega
    have c1 : decide (((k : Nat) : Int) < ((lotN d far k : Nat) : Int)) = false := by rw [decide_eq_false_iff_not]; omega
    have c2 : decide (¬ ((lotN d far k : Nat) : Int) = ((lotN d far k : Nat) : Int)) = false := by simp
    have ll := lot_lot hF h0 hk
    simp only [go_sem, ↓reduceIte, Nat.reduceEqDiff]
    refine draw_read ?_ (by kernel_rfl)
    simp only [go_sem, ↓reduceIte, Nat.reduceEqDiff, hs3, hn3, hk, l2, hg5, c1, ll, c2]
    refine aw_count 8 [3, 4, 5, 6, 7] (fun (z : Unit) => []) (0) (d.length) (fun j z SS => S4 = SS ∧ True) (()) ?_ ?_ ?_ ?_
    · simp only [go_sem, ↓reduceIte, Nat.reduceEqDiff, and_self, and_true, true_and, Int.ofNat_zero, Int.ofNat_one, Int.cast_ofNat_Int, hs3, hn3]
    · omega
    rotate_left
    rintro j z Sj hj0 hj ⟨rfl, -⟩
    simp only [go_sem, ↓reduceIte, Nat.reduceEqDiff, hs3, hn3]
    refine condK_lt hj (fun hj => ?_) (fun he => ?_)
    · have key : decide (((lotN d far k : Nat) : Int) = ((lotN d far j : Nat) : Int)) = decide (at2 (belowV d) k j ≤ far) := by
        rw [decide_eq_decide, ← lot_iff hF h0 hk hj]; omega
      have key2 : decide (¬ ((lotN d f2 k : Nat) : Int) = ((lotN d f2 j : Nat) : Int)) = decide (¬ at2 (belowV d) k j ≤ f2) := by
        rw [decide_eq_decide, ← lot_iff hF hf20 hk hj]; omega
      have key3 : decide (¬ ((lotN d far k : Nat) : Int) = ((lotN d far j : Nat) : Int)) = decide (¬ at2 (belowV d) k j ≤ far) := by
        rw [decide_eq_decide, ← lot_iff hF h0 hk hj]; omega
      have hle := below_le hF hk hj
      have h60 := (below_sym hF hk hj).2.2.1
      simp only [go_sem, ↓reduceIte, Nat.reduceEqDiff]
      refine draw_read ?_ (by kernel_rfl)
      simp only [go_sem, ↓reduceIte, Nat.reduceEqDiff, hs3, hn3, hs4, hn4, hk, hj, hg5, hg4, key, key2, key3]
      refine gQ_dec (fun q3 h3 => ?_) (fun q3 h3 => ?_)
      · have c3 : decide (¬ at2 (belowV d) k j ≤ f2) = false := by rw [decide_eq_false_iff_not]; omega
        have c4 : decide (¬ at2 (belowV d) k j ≤ far) = false := by rw [decide_eq_false_iff_not]; omega
        simp only [go_sem, ↓reduceIte, Nat.reduceEqDiff, h3, hs3, hn3, hs4, hn4, hk, hj, hg5, hg4, key2, key3, c3, c4, hsl, hlen, M4.get, M4.rsl, hrl, hcl]
        refine gQ_dec (fun q4 h4 => ?_) (fun q4 h4 => ?_)
        · simp only [go_sem, ↓reduceIte, Nat.reduceEqDiff, h4, hs3, hn3, hk, hj, hg5, key3, c4]
          refine forK_step (()) hj hj0 ?_ ?_
          · have hib := Nat.lt_of_lt_of_le hj hN; simp only [go_sem, ↓reduceIte, Nat.reduceEqDiff, and_self, and_true, true_and, Int.ofNat_zero, Int.ofNat_one, Int.cast_ofNat_Int, wrap_succ hib]
          exact ⟨rfl, by trivial⟩
        · simp only [go_sem, ↓reduceIte, Nat.reduceEqDiff, h4, hs3, hn3, hk, hj, hg5, key3, c4]
          refine forK_step (()) hj hj0 ?_ ?_
          · have hib := Nat.lt_of_lt_of_le hj hN; simp only [go_sem, ↓reduceIte, Nat.reduceEqDiff, and_self, and_true, true_and, Int.ofNat_zero, Int.ofNat_one, Int.cast_ofNat_Int, wrap_succ hib]
          exact ⟨rfl, by trivial⟩
      · have c5 : decide (at2 d k j ≤ far) = false := by rw [decide_eq_false_iff_not]; omega
        simp only [go_sem, ↓reduceIte, Nat.reduceEqDiff, h3, hs3, hn3, hs4, hn4, hk, hj, hg5, hg4, key2, key3, hsl, hlen, M4.get, M4.rsl, hrl, hcl, c5]
        refine forK_step (()) hj hj0 ?_ ?_
        · have hib := Nat.lt_of_lt_of_le hj hN; simp only [go_sem, ↓reduceIte, Nat.reduceEqDiff, and_self, and_true, true_and, Int.ofNat_zero, Int.ofNat_one, Int.cast_ofNat_Int, wrap_succ hib]
        exact ⟨rfl, by trivial⟩
    · subst he
      simp only [go_sem, ↓reduceIte, Nat.reduceEqDiff]
      refine forK_step (()) hk hk0 ?_ ?_
      · have hib := Nat.lt_of_lt_of_le hk hN; simp only [go_sem, ↓reduceIte, Nat.reduceEqDiff, and_self, and_true, true_and, Int.ofNat_zero, Int.ofNat_one, Int.cast_ofNat_Int, wrap_succ hib]
      exact ⟨rfl, by trivial⟩
    · exact ⟨rfl, by trivial⟩
  · subst he
    simp only [go_sem, ↓reduceIte, Nat.reduceEqDiff]
  · exact ⟨rfl, by trivial⟩
end Go.Proofs.Ytoecdjgjfbjejaa

/- The law FnBelowOf. -/
import Derived.Test.YtoecdjgjfbjejaaW7
import Derived.Test.YtoecdjgjfbjejaaW16
import Derived.Test.YtoecdjgjfbjejaaW17
import Derived.Test.YtoecdjgjfbjejaaW4
import Derived.Test.YtoecdjgjfbjejaaW18
import Derived.Test.YtoecdjgjfbjejaaPure6
namespace Go.Proofs.Ytoecdjgjfbjejaa
open Go Go.Mill
set_option maxRecDepth 100000
set_option linter.unusedSimpArgs false
set_option linter.unusedVariables false

theorem FnBelowOf_c (S : Store) (v : Value) (xs : List Int) (hI : rd S v = some (xs.map (.int .u8))) (hx : xs.length ≤ maxLen) (hb : ∀ b ∈ xs, 0 ≤ b ∧ b ≤ 255)
    (w : Value) (ys : List Int) (hJ : rd S w = some (ys.map (.int .u8))) (hy : ys.length ≤ maxLen) (hc : ∀ b ∈ ys, 0 ≤ b ∧ b ≤ 255) :
    ACalls Try.prog 15 [v, w] S fun u _ => u = .bool true := by
  refine ACalls.intro (ts := [4]) 143 follows Try.func15 rfl (by kernel_rfl) (by kernel_rfl) (by simp) ?_
  have hsl := rd_isSl hI
  have hlen : slen v = xs.length := by rw [rd_slen hI]; simp
  have hsl' := rd_isSl hJ
  have hlen' : slen w = ys.length := by rw [rd_slen hJ]; simp
  have m6 : (1000 : Nat) ≤ maxLen := by decide
  simp only [go_sem, ↓reduceIte, Nat.reduceEqDiff, argEnv, hsl, hlen, hsl', hlen']
  refine gK_dec (fun q1 h1 => ?_) (fun q1 h1 => ?_)
  · simp only [go_sem, ↓reduceIte, Nat.reduceEqDiff, h1]
  simp only [go_sem, ↓reduceIte, Nat.reduceEqDiff, h1, hsl', hlen']
  refine condK_dec (fun q2 h2 => ?_) (fun q2 h2 => ?_)
  · simp only [go_sem, ↓reduceIte, Nat.reduceEqDiff, h2]
  simp only [go_sem, ↓reduceIte, Nat.reduceEqDiff, h2]
  refine callK.intro (by kernel_rfl) (DrawBelowOf_c S v xs hI hx hb) ?_
  rintro D S1 ⟨r, d, M1, E1, hd6, hr6⟩
  have hd : d.length ≤ maxLen := by omega
  simp only [go_sem, ↓reduceIte, Nat.reduceEqDiff]
  refine callK.intro (by kernel_rfl) (iBelowOf_c _ _ _ _ M1 hd) ?_
  rintro X S2 ⟨hX, P2⟩
  obtain ⟨rx, X2⟩ := hX.mat
  have M2 := M1.ext P2.ext
  simp only [go_sem, ↓reduceIte, Nat.reduceEqDiff]
  refine callK.intro (by kernel_rfl) (sBelowOf_c _ _ _ _ M2 hd) ?_
  rintro Y S3 ⟨hY, P3⟩
  obtain ⟨ry, Y3⟩ := hY.mat
  have M3 := M2.ext P3.ext
  have X3 := X2.ext P3.ext
  have hJ3 := P3.ext.rd (P2.ext.rd (E1.rd hJ))
  have hxl : (belowV d).length ≤ maxLen := Nat.le_trans below_small.1 (by omega)
  have hxr : ∀ i, i < (belowV d).length → ((belowV d).getD i []).length ≤ maxLen := fun i _ => Nat.le_trans (below_small.2 i) (by omega)
  simp only [go_sem, ↓reduceIte, Nat.reduceEqDiff]
  refine callK.intro (by kernel_rfl) (sameRows_c _ _ _ _ _ _ _ X3 Y3 hxl hxr) ?_
  rintro _ _ ⟨rfl, rfl⟩
  simp only [go_sem, ↓reduceIte, Nat.reduceEqDiff, decide_true]
  have hs3 := X3.sl
  have hn3 := X3.len
  simp only [go_sem, ↓reduceIte, Nat.reduceEqDiff, hs3, hn3]
  refine condK_dec (fun q3 h3 => ?_) (fun q3 h3 => ?_)
  · have hF : farB d = false := farB_no fun h => by have h1 := below_len h; have := h.1; omega
    simp only [go_sem, ↓reduceIte, Nat.reduceEqDiff, h3]
    refine callK.intro (by kernel_rfl) (iFarOk_c _ _ _ _ M3 hd) ?_
    rintro _ _ ⟨rfl, rfl⟩
    simp only [go_sem, ↓reduceIte, Nat.reduceEqDiff, hF]
    refine callK.intro (by kernel_rfl) (alive_c _) ?_
    rintro _ _ ⟨rfl, -⟩
    simp only [go_sem, ↓reduceIte, Nat.reduceEqDiff]
  have hF : IsFar d := farB_is (by
    cases h : farB d with
    | false => rw [below_no h] at q3; simp at q3
    | true => rfl)
  have hxn := below_len hF
  have hsx : ultraB (belowV d) = true := ultraB_yes (below_ultra hF)
  have hSx := below_ultra hF
  simp only [go_sem, ↓reduceIte, Nat.reduceEqDiff, h3]
  refine callK.intro (by kernel_rfl) (DrawUltraOk_c S3 w ys hJ3 hy hc) ?_
  rintro B S4 ⟨rb, b, B4, E4, hb6, hbr⟩
  have hbd : b.length ≤ maxLen := by omega
  have M4 := M3.ext E4
  have X4 := X3.ext E4
  clear hX hY Y3 M1 M2 M3 X2 X3
  have hN : d.length ≤ 9223372036854775807 := by omega
  have hsl := M4.sl
  have hlen := M4.len
  have hrl := M4.sqlen hF.sq
  have hcl := M4.sqcell hF.sq
  have hbsl := B4.sl
  have hblen := B4.len
  have hxsl := X4.sl
  have hxlen := X4.len
  have hxrl := X4.sqlen hSx.1.1.sq
  have hxcl := X4.sqcell hSx.1.1.sq
  simp only [go_sem, ↓reduceIte, Nat.reduceEqDiff]
  refine callK.intro (by kernel_rfl) (iUltraOk_c _ _ _ _ B4 hbd) ?_
  rintro _ _ ⟨rfl, rfl⟩
  simp only [go_sem, ↓reduceIte, Nat.reduceEqDiff]
  cases hB : ultraB b
  all_goals
    simp only [go_sem, ↓reduceIte, Nat.reduceEqDiff, hsl, hlen, hbsl, hblen]
    refine aw_count 9 [5, 6, 7] (fun (y : Bool) => [(8, .bool y)]) (0) (d.length) (fun k y SS => S4 = SS ∧ (y = true → IsUltra b ∧ b.length = d.length ∧ ∀ k' j', k' < k → j' < d.length → at2 b k' j' ≤ at2 d k' j')) ((ultraB b && decide ((b.length : Int) = d.length))) ?_ ?_ ?_ ?_
    · simp only [go_sem, ↓reduceIte, Nat.reduceEqDiff, and_self, and_true, true_and, Int.ofNat_zero, Int.ofNat_one, Int.cast_ofNat_Int, hsl, hlen, hB, Bool.true_and, Bool.false_and]
    · omega
    rotate_left
    rintro k y Sk hk0 hk ⟨rfl, hy⟩
    simp only [go_sem, ↓reduceIte, Nat.reduceEqDiff, hsl, hlen, hB, Bool.true_and, Bool.false_and]
    refine condK_lt hk (fun hk => ?_) (fun he => ?_)
    · simp only [go_sem, ↓reduceIte, Nat.reduceEqDiff]
      refine aw_count 10 [5, 6, 7, 9] (fun (y2 : Bool) => [(8, .bool y2)]) (0) (d.length) (fun j y2 SS => S4 = SS ∧ (y2 = true → IsUltra b ∧ b.length = d.length ∧ (∀ k' j', k' < k → j' < d.length → at2 b k' j' ≤ at2 d k' j') ∧ ∀ j', j' < j → at2 b k j' ≤ at2 d k j')) (y) ?_ ?_ ?_ ?_
      · simp only [go_sem, ↓reduceIte, Nat.reduceEqDiff, and_self, and_true, true_and, Int.ofNat_zero, Int.ofNat_one, Int.cast_ofNat_Int, hsl, hlen]
      · omega
      rotate_left
      rintro j y2 Sj hj0 hj ⟨rfl, hy2⟩
      simp only [go_sem, ↓reduceIte, Nat.reduceEqDiff, hsl, hlen]
      refine condK_lt hj (fun hj => ?_) (fun he => ?_)
      · have hkx : k < (belowV d).length := by omega
        have hjx : j < (belowV d).length := by omega
        have hgt : decide (at2 d k j < at2 (belowV d) k j) = false := by rw [decide_eq_false_iff_not]; have := below_le hF hk hj; omega
        simp only [go_sem, ↓reduceIte, Nat.reduceEqDiff]
        refine draw_read ?_ (by kernel_rfl)
        simp only [go_sem, ↓reduceIte, Nat.reduceEqDiff, hsl, hlen, hk, hj, M4.get, M4.rsl, hrl, hcl, hxsl, hxlen, hkx, hjx, X4.get, X4.rsl, hxrl, hxcl, hgt]
        cases y2 with
        | false =>
          refine draw_read ?_ (by kernel_rfl)
          simp only [go_sem, ↓reduceIte, Nat.reduceEqDiff]
          refine forK_step (false) hj hj0 ?_ ?_
          · have hib := Nat.lt_of_lt_of_le hj hN; simp only [go_sem, ↓reduceIte, Nat.reduceEqDiff, and_self, and_true, true_and, Int.ofNat_zero, Int.ofNat_one, Int.cast_ofNat_Int, wrap_succ hib]
          exact ⟨rfl, fun h => by cases h⟩
        | true =>
          obtain ⟨g1, g2, g3, g4⟩ := hy2 rfl
          have hSb := g1
          have hkb : k < b.length := by omega
          have hjb : j < b.length := by omega
          refine draw_read ?_ (by kernel_rfl)
          simp only [go_sem, ↓reduceIte, Nat.reduceEqDiff, hsl, hlen, hk, hj, M4.get, M4.rsl, hrl, hcl, hbsl, hblen, hkb, hjb, B4.get, B4.rsl, B4.sqlen hSb.1.1.sq, B4.sqcell hSb.1.1.sq]
          refine forK_step (decide (at2 b k j ≤ at2 d k j)) hj hj0 ?_ ?_
          · have hib := Nat.lt_of_lt_of_le hj hN; simp only [go_sem, ↓reduceIte, Nat.reduceEqDiff, and_self, and_true, true_and, Int.ofNat_zero, Int.ofNat_one, Int.cast_ofNat_Int, wrap_succ hib]
          refine ⟨rfl, fun h => ⟨g1, g2, g3, fun j' hj' => ?_⟩⟩
          rcases Nat.lt_or_ge j' j with h5 | h5
          · exact g4 j' h5
          · obtain rfl : j' = j := by omega
            exact of_decide_eq_true h
      · subst he
        simp only [go_sem, ↓reduceIte, Nat.reduceEqDiff]
        refine forK_step (y2) hk hk0 ?_ ?_
        · have hib := Nat.lt_of_lt_of_le hk hN; simp only [go_sem, ↓reduceIte, Nat.reduceEqDiff, and_self, and_true, true_and, Int.ofNat_zero, Int.ofNat_one, Int.cast_ofNat_Int, wrap_succ hib]
        refine ⟨rfl, fun h => ?_⟩
        obtain ⟨g1, g2, g3, g4⟩ := hy2 h
        refine ⟨g1, g2, fun k' j' hk' hj' => ?_⟩
        rcases Nat.lt_or_ge k' k with h5 | h5
        · exact g3 k' j' h5 hj'
        · obtain rfl : k' = k := by omega
          exact g4 j' hj'
      · exact ⟨rfl, fun h => by obtain ⟨g1, g2, g3⟩ := hy h; exact ⟨g1, g2, g3, fun _ h => absurd h (Nat.not_lt_zero _)⟩⟩
    · subst he
      cases y with
      | false =>
        have h01 : decide ((0 : Int) < ((List.length d : Nat) : Int)) = true := by have := hF.1; rw [decide_eq_true_eq]; omega
        simp only [go_sem, ↓reduceIte, Nat.reduceEqDiff]
        refine aw_count 11 [5, 6, 7, 8] (fun (z : Unit) => []) (0) (0) (fun k z SS => S4 = SS ∧ True) (()) ?_ ?_ ?_ ?_
        · simp only [go_sem, ↓reduceIte, Nat.reduceEqDiff, and_self, and_true, true_and, Int.ofNat_zero, Int.ofNat_one, Int.cast_ofNat_Int, hsl, hlen]
        · omega
        rotate_left
        rintro k z Sk hk0 hk ⟨rfl, hz⟩
        obtain rfl : k = 0 := by omega
        have h01 : ((0 : Nat) : Int) < ((List.length d : Nat) : Int) := by have := hF.1; omega
        have h01 : decide (((0 : Nat) : Int) < ((List.length d : Nat) : Int)) = true := by rw [decide_eq_true_eq]; exact h01
        simp only [go_sem, ↓reduceIte, Nat.reduceEqDiff, hsl, hlen, h01]
        refine callK.intro (by kernel_rfl) (iUltraOk_c _ _ _ _ X4 hxl) ?_
        rintro _ _ ⟨rfl, rfl⟩
        simp only [go_sem, ↓reduceIte, Nat.reduceEqDiff, hsx]
        refine callK.intro (by kernel_rfl) (iBelowOf_c _ _ _ _ X4 hxl) ?_
        rintro Z S5 ⟨hZ, P5⟩
        obtain ⟨rz, Z5⟩ := hZ.mat
        rw [below_self hSx] at Z5
        simp only [go_sem, ↓reduceIte, Nat.reduceEqDiff]
        refine callK.intro (by kernel_rfl) (sameRows_c _ _ _ _ _ _ _ Z5 (X4.ext P5.ext) hxl hxr) ?_
        rintro _ _ ⟨rfl, rfl⟩
        simp only [go_sem, ↓reduceIte, Nat.reduceEqDiff, decide_true]
        refine callK.intro (by kernel_rfl) (iUltraOk_c _ _ _ _ (M4.ext P5.ext) hd) ?_
        rintro _ _ ⟨rfl, rfl⟩
        simp only [go_sem, ↓reduceIte, Nat.reduceEqDiff]
        cases hSd : ultraB d with
        | false =>
          simp only [go_sem, ↓reduceIte, Nat.reduceEqDiff]
        | true =>
          have e := below_self (ultraB_is hSd)
          have e2 : decide (belowV d = d) = true := by rw [decide_eq_true_eq]; exact e
          simp only [go_sem, ↓reduceIte, Nat.reduceEqDiff]
          refine callK.intro (by kernel_rfl) (sameRows_c _ _ _ _ _ _ _ (X4.ext P5.ext) (M4.ext P5.ext) hxl hxr) ?_
          rintro _ _ ⟨rfl, rfl⟩
          simp only [go_sem, ↓reduceIte, Nat.reduceEqDiff, e2]
        exact ⟨rfl, by trivial⟩
      | true =>
        obtain ⟨hSb, hbl, hbd⟩ := hy rfl
        have hle := fun k j hk hj => below_great hF hSb hbl hbd (i := k) (k := j) hk hj
        have hbrl := B4.sqlen hSb.1.1.sq
        have hbcl := B4.sqcell hSb.1.1.sq
        simp only [go_sem, ↓reduceIte, Nat.reduceEqDiff]
        refine aw_count 11 [5, 6, 7, 8] (fun (z : Unit) => []) (0) (d.length) (fun k z SS => S4 = SS ∧ True) (()) ?_ ?_ ?_ ?_
        · simp only [go_sem, ↓reduceIte, Nat.reduceEqDiff, and_self, and_true, true_and, Int.ofNat_zero, Int.ofNat_one, Int.cast_ofNat_Int, hsl, hlen]
        · omega
        rotate_left
        rintro k z Sk hk0 hk ⟨rfl, hz⟩
        simp only [go_sem, ↓reduceIte, Nat.reduceEqDiff, hsl, hlen]
        refine gK_dec (fun q4 h4 => ?_) (fun q4 h4 => ?_)
        · have hk : k < d.length := by omega
          simp only [go_sem, ↓reduceIte, Nat.reduceEqDiff, h4]
          refine aw_count 12 [5, 6, 7, 8, 11] (fun (z2 : Unit) => []) (0) (d.length) (fun j z2 SS => S4 = SS ∧ True) (()) ?_ ?_ ?_ ?_
          · simp only [go_sem, ↓reduceIte, Nat.reduceEqDiff, and_self, and_true, true_and, Int.ofNat_zero, Int.ofNat_one, Int.cast_ofNat_Int, hsl, hlen]
          · omega
          rotate_left
          rintro j z2 Sj hj0 hj ⟨rfl, hz2⟩
          simp only [go_sem, ↓reduceIte, Nat.reduceEqDiff, hsl, hlen]
          refine condK_lt hj (fun hj => ?_) (fun he => ?_)
          · have hkx : k < (belowV d).length := by omega
            have hjx : j < (belowV d).length := by omega
            have hkb : k < b.length := by omega
            have hjb : j < b.length := by omega
            have hgt : decide (at2 (belowV d) k j < at2 b k j) = false := by rw [decide_eq_false_iff_not]; have := hle k j hk hj; omega
            simp only [go_sem, ↓reduceIte, Nat.reduceEqDiff]
            refine draw_read ?_ (by kernel_rfl)
            simp only [go_sem, ↓reduceIte, Nat.reduceEqDiff, hsl, hlen, hk, hj, hxsl, hxlen, hkx, hjx, X4.get, X4.rsl, hxrl, hxcl, hbsl, hblen, hkb, hjb, B4.get, B4.rsl, hbrl, hbcl, hgt]
            refine forK_step (()) hj hj0 ?_ ?_
            · have hib := Nat.lt_of_lt_of_le hj hN; simp only [go_sem, ↓reduceIte, Nat.reduceEqDiff, and_self, and_true, true_and, Int.ofNat_zero, Int.ofNat_one, Int.cast_ofNat_Int, wrap_succ hib]
            exact ⟨rfl, by trivial⟩
          · subst he
            simp only [go_sem, ↓reduceIte, Nat.reduceEqDiff]
            refine forK_step (()) hk hk0 ?_ ?_
            · have hib := Nat.lt_of_lt_of_le hk hN; simp only [go_sem, ↓reduceIte, Nat.reduceEqDiff, and_self, and_true, true_and, Int.ofNat_zero, Int.ofNat_one, Int.cast_ofNat_Int, wrap_succ hib]
            exact ⟨rfl, by trivial⟩
          · exact ⟨rfl, by trivial⟩
        · simp only [go_sem, ↓reduceIte, Nat.reduceEqDiff, h4]
          refine callK.intro (by kernel_rfl) (iUltraOk_c _ _ _ _ X4 hxl) ?_
          rintro _ _ ⟨rfl, rfl⟩
          simp only [go_sem, ↓reduceIte, Nat.reduceEqDiff, hsx]
          refine callK.intro (by kernel_rfl) (iBelowOf_c _ _ _ _ X4 hxl) ?_
          rintro Z S5 ⟨hZ, P5⟩
          obtain ⟨rz, Z5⟩ := hZ.mat
          rw [below_self hSx] at Z5
          simp only [go_sem, ↓reduceIte, Nat.reduceEqDiff]
          refine callK.intro (by kernel_rfl) (sameRows_c _ _ _ _ _ _ _ Z5 (X4.ext P5.ext) hxl hxr) ?_
          rintro _ _ ⟨rfl, rfl⟩
          simp only [go_sem, ↓reduceIte, Nat.reduceEqDiff, decide_true]
          refine callK.intro (by kernel_rfl) (iUltraOk_c _ _ _ _ (M4.ext P5.ext) hd) ?_
          rintro _ _ ⟨rfl, rfl⟩
          simp only [go_sem, ↓reduceIte, Nat.reduceEqDiff]
          cases hSd : ultraB d with
          | false =>
            simp only [go_sem, ↓reduceIte, Nat.reduceEqDiff]
          | true =>
            have e := below_self (ultraB_is hSd)
            have e2 : decide (belowV d = d) = true := by rw [decide_eq_true_eq]; exact e
            simp only [go_sem, ↓reduceIte, Nat.reduceEqDiff]
            refine callK.intro (by kernel_rfl) (sameRows_c _ _ _ _ _ _ _ (X4.ext P5.ext) (M4.ext P5.ext) hxl hxr) ?_
            rintro _ _ ⟨rfl, rfl⟩
            simp only [go_sem, ↓reduceIte, Nat.reduceEqDiff, e2]
        exact ⟨rfl, by trivial⟩
    · exact ⟨rfl, fun h => ⟨by first | exact ultraB_is hB | (rw [hB, Bool.false_and] at h; cases h), by simp only [Bool.and_eq_true, decide_eq_true_eq] at h; omega, fun _ _ h => absurd h (Nat.not_lt_zero _)⟩⟩
end Go.Proofs.Ytoecdjgjfbjejaa

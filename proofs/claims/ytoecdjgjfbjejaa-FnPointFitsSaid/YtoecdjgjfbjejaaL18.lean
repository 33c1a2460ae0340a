/- The law FnPointFits. -/
import Derived.Test.YtoecdjgjfbjejaaW7
import Derived.Test.YtoecdjgjfbjejaaW22
namespace Go.Proofs.Ytoecdjgjfbjejaa
open Go Go.Mill
set_option maxRecDepth 100000
set_option linter.unusedSimpArgs false
set_option linter.unusedVariables false

theorem FnPointFits_c (S : Store) (v : Value) (xs : List Int) (hI : rd S v = some (xs.map (.int .u8))) (hx : xs.length ≤ maxLen) (hb : ∀ b ∈ xs, 0 ≤ b ∧ b ≤ 255) :
    ACalls Try.prog 14 [v] S fun u _ => u = .bool true := by
  refine ACalls.intro (ts := [2]) 92 follows Try.func14 rfl (by kernel_rfl) (by kernel_rfl) (by simp) ?_
  have hsl := rd_isSl hI
  have hlen : slen v = xs.length := by rw [rd_slen hI]; simp
  have m11 : (11 : Nat) ≤ maxLen := by decide
  simp only [go_sem, ↓reduceIte, Nat.reduceEqDiff, argEnv, hsl, hlen]
  refine condK_dec (fun q1 h1 => ?_) (fun q1 h1 => ?_)
  · simp only [go_sem, ↓reduceIte, Nat.reduceEqDiff, h1]
  simp only [go_sem, ↓reduceIte, Nat.reduceEqDiff, h1]
  refine callK.intro (by kernel_rfl) (DrawPointFits_c S v xs hI hx hb) ?_
  rintro _ S1 ⟨w1, w2, r, d, ys, rfl, M1, I1, E1, hd6, hr11, hy11⟩
  have hd : d.length ≤ maxLen := by omega
  have hyl : ys.length ≤ maxLen := by omega
  have hN : ys.length ≤ 9223372036854775807 := by omega
  simp only [go_sem, ↓reduceIte, Nat.reduceEqDiff]
  refine callK.intro (by kernel_rfl) (iPointFits_c _ _ _ _ M1 hd _ _ I1 hyl) ?_
  rintro _ _ ⟨rfl, rfl⟩
  simp only [go_sem, ↓reduceIte, Nat.reduceEqDiff]
  refine callK.intro (by kernel_rfl) (sPointFits_c _ _ _ _ M1 hd _ _ I1 hyl) ?_
  rintro _ _ ⟨rfl, rfl⟩
  simp only [go_sem, ↓reduceIte, Nat.reduceEqDiff, bne_self_eq_false, Try.underlying4]
  have hs2 := I1.sl
  have hn2 := I1.len
  have OL0 : OL S1.length (S1 ++ [.own []]) (mk S1.length 0) S1.length [] := OL.none (Nat.le_refl _)
  have P0 : Pre S1.length S1 (S1 ++ [.own []]) := (Pre.refl _ _).app (Nat.le_refl _) _
  generalize S1 ++ [Ob.own []] = S2 at OL0 P0 ⊢
  generalize mk S1.length 0 = y0 at OL0 ⊢
  refine aw_count 8 [3, 4, 5] (fun (z : (Value × Int × List Int)) => [(6, z.1), (7, .int .i64 z.2.1)]) (0) (ys.length) (fun k z SS => Pre S1.length S1 SS ∧ ∃ t, OL S1.length SS z.1 t z.2.2 ∧ z.2.2.length = k ∧ (∀ i, i < k → z.2.2.getD i 0 = IntKind.i64.wrap (ys.getD i 0 + 1) ∧ z.2.2.getD i 0 ≤ z.2.1) ∧ 0 ≤ z.2.1) ((y0, 0, [])) ?_ ?_ ?_ ?_
  · simp only [go_sem, ↓reduceIte, Nat.reduceEqDiff, and_self, and_true, true_and, Int.ofNat_zero, Int.ofNat_one, Int.cast_ofNat_Int, hs2, hn2]
  · omega
  rotate_left
  rintro k z Sk hk0 hk ⟨P3, t, OL3, hml, hmg, hmz⟩
  simp only [go_sem, ↓reduceIte, Nat.reduceEqDiff, hs2, hn2]
  refine condK_lt hk (fun hk => ?_) (fun he => ?_)
  · have I3 := I1.ext P3.ext
    obtain ⟨v', S', ha, hs, hpre, t', OL4⟩ := OL3.add (IntKind.i64.wrap (ys.getD k 0 + 1))
    have hsm : (slen v' ≤ 1099511627776) = True := by simp only [eq_iff_iff, iff_true, hs]; omega
    have P4 := P3.trans hpre
    have I4 := I1.ext P4.ext
    simp only [go_sem, ↓reduceIte, Nat.reduceEqDiff, hs2, hn2, hk, I3.get, I4.get, ha, hsm]
    refine forK_step ((v', max z.2.1 (IntKind.i64.wrap (ys.getD k 0 + 1)), z.2.2 ++ [IntKind.i64.wrap (ys.getD k 0 + 1)])) hk hk0 ?_ ?_
    · have hib := Nat.lt_of_lt_of_le hk hN; simp only [go_sem, ↓reduceIte, Nat.reduceEqDiff, and_self, and_true, true_and, Int.ofNat_zero, Int.ofNat_one, Int.cast_ofNat_Int, wrap_succ hib]
    refine ⟨P4, t', OL4, by simp [hml], fun i hi => ?_, by show (0 : Int) ≤ max z.2.1 _; omega⟩
    rcases Nat.lt_or_ge i k with h | h
    · have := hmg i h
      have e : (z.2.2 ++ [IntKind.i64.wrap (ys.getD k 0 + 1)]).getD i 0 = z.2.2.getD i 0 := by
        simp [List.getElem?_append_left (show i < z.2.2.length by omega)]
      simp only [e]
      exact ⟨this.1, by omega⟩
    · obtain rfl : i = k := by omega
      have e : (z.2.2 ++ [IntKind.i64.wrap (ys.getD i 0 + 1)]).getD i 0 = IntKind.i64.wrap (ys.getD i 0 + 1) := by
        rw [← hml]; simp
      simp only [e]
      exact ⟨by trivial, by omega⟩
  · subst he
    have M3 := M1.ext P3.ext
    have I3 := I1.ext P3.ext
    have J3 := OL3.ints
    have hzl : z.2.2.length ≤ maxLen := by omega
    have key : fitB d ys = true → z.2.1 ≤ 60 → fitB d z.2.2 = true := fun h1 h2 => by
      have hF := fitB_is h1
      refine fitB_yes (fit_more hF hml fun i hi => ?_)
      have hi' : i < ys.length := by rw [hF.2.2.1]; exact hi
      obtain ⟨g1, g2⟩ := hmg i hi'
      have g3 := hF.2.2.2.1 i hi
      rw [wrap64 (by omega)] at g1
      exact ⟨g1, by omega⟩
    have hsl := M3.sl
    have hlen := M3.len
    cases hfit : fitB d ys with
    | false =>
      simp only [go_sem, ↓reduceIte, Nat.reduceEqDiff]
      refine callK.intro (by kernel_rfl) (sSpaceOk_c _ _ _ _ M3 hd) ?_
      rintro _ _ ⟨rfl, rfl⟩
      simp only [go_sem, ↓reduceIte, Nat.reduceEqDiff]
      cases hF : spaceB d with
      | false =>
        simp only [go_sem, ↓reduceIte, Nat.reduceEqDiff]
        refine callK.intro (by kernel_rfl) (alive_c _) ?_
        rintro _ _ ⟨rfl, -⟩
        simp only [go_sem, ↓reduceIte, Nat.reduceEqDiff]
      | true =>
        simp only [go_sem, ↓reduceIte, Nat.reduceEqDiff, hsl, hlen]
        refine condK_dec (fun q2 h2 => ?_) (fun q2 h2 => ?_)
        · simp only [go_sem, ↓reduceIte, Nat.reduceEqDiff, h2]
          refine callK.intro (by kernel_rfl) (alive_c _) ?_
          rintro _ _ ⟨rfl, -⟩
          simp only [go_sem, ↓reduceIte, Nat.reduceEqDiff]
        have hS := spaceB_is hF
        have hn1 : d.length - 1 < d.length := by omega
        have hw : IntKind.i64.wrap ((d.length : Int) - 1) = ((d.length - 1 : Nat) : Int) := wrap_pred (by omega) (by omega)
        have hB : dropB d ((d.length - 1 : Nat) : Int) = true := dropB_iff.2 ⟨⟨hS, by omega, by omega⟩, by omega⟩
        simp only [go_sem, ↓reduceIte, Nat.reduceEqDiff, h2, hsl, hlen, hw]
        refine callK.intro (by kernel_rfl) (iWithoutPoint_c _ _ _ _ M3 hd ((d.length - 1 : Nat) : Int) (by omega)) ?_
        rintro _ S4 ⟨⟨X, rfl, hX⟩, P4⟩
        obtain ⟨rx, X4⟩ := hX.mat
        have hV := dropV_nat hS hn1 (by omega)
        have M4 := M3.ext P4.ext
        have hrow := hS.1.sq _ hn1
        have hil : (ints (d.getD (d.length - 1) [])).length = d.length := by simp only [ints, List.length_map]; exact hrow
        obtain ⟨ws, hws, hwr⟩ := slc_take (M4.row _ hn1) (k := d.length - 1) (by rw [hil]; omega)
        have hI4 : Ints S4 ws ((d.getD (d.length - 1) []).take (d.length - 1)) := by unfold Ints; rw [hwr]; simp [ints, List.map_take]
        have hnn : ((0 : Int) ≤ ((d.length - 1 : Nat) : Int)) = True := by simp
        have hxl : (dropV d ((d.length - 1 : Nat) : Int)).length ≤ maxLen := by rw [hV, dropT_len hn1]; omega
        have hfit2 : fitB (dropV d ((d.length - 1 : Nat) : Int)) ((d.getD (d.length - 1) []).take (d.length - 1)) = true := by rw [hV]; exact fitB_yes (fit_drop hS (by omega))
        have htl : ((d.getD (d.length - 1) []).take (d.length - 1)).length ≤ maxLen := by rw [List.length_take]; omega
        simp only [go_sem, ↓reduceIte, Nat.reduceEqDiff, hB, M4.sl, M4.len, hn1, M4.get, hws, hnn, andK_true, Int.toNat_natCast, hw]
        refine callK.intro (by kernel_rfl) (iPointFits_c _ _ _ _ X4 hxl _ _ hI4 htl) ?_
        rintro _ _ ⟨rfl, rfl⟩
        simp only [go_sem, ↓reduceIte, Nat.reduceEqDiff, hfit2]
    | true =>
      simp only [go_sem, ↓reduceIte, Nat.reduceEqDiff]
      refine gK_dec (fun q4 h4 => ?_) (fun q4 h4 => ?_)
      · simp only [go_sem, ↓reduceIte, Nat.reduceEqDiff, h4]
        refine callK.intro (by kernel_rfl) (iPointFits_c _ _ _ _ M3 hd _ _ J3 hzl) ?_
        rintro _ _ ⟨rfl, rfl⟩
        simp only [go_sem, ↓reduceIte, Nat.reduceEqDiff, key hfit q4]
        refine callK.intro (by kernel_rfl) (sSpaceOk_c _ _ _ _ M3 hd) ?_
        rintro _ _ ⟨rfl, rfl⟩
        simp only [go_sem, ↓reduceIte, Nat.reduceEqDiff]
        cases hF : spaceB d with
        | false =>
          simp only [go_sem, ↓reduceIte, Nat.reduceEqDiff]
          refine callK.intro (by kernel_rfl) (alive_c _) ?_
          rintro _ _ ⟨rfl, -⟩
          simp only [go_sem, ↓reduceIte, Nat.reduceEqDiff]
        | true =>
          simp only [go_sem, ↓reduceIte, Nat.reduceEqDiff, hsl, hlen]
          refine condK_dec (fun q2 h2 => ?_) (fun q2 h2 => ?_)
          · simp only [go_sem, ↓reduceIte, Nat.reduceEqDiff, h2]
            refine callK.intro (by kernel_rfl) (alive_c _) ?_
            rintro _ _ ⟨rfl, -⟩
            simp only [go_sem, ↓reduceIte, Nat.reduceEqDiff]
          have hS := spaceB_is hF
          have hn1 : d.length - 1 < d.length := by omega
          have hw : IntKind.i64.wrap ((d.length : Int) - 1) = ((d.length - 1 : Nat) : Int) := wrap_pred (by omega) (by omega)
          have hB : dropB d ((d.length - 1 : Nat) : Int) = true := dropB_iff.2 ⟨⟨hS, by omega, by omega⟩, by omega⟩
          simp only [go_sem, ↓reduceIte, Nat.reduceEqDiff, h2, hsl, hlen, hw]
          refine callK.intro (by kernel_rfl) (iWithoutPoint_c _ _ _ _ M3 hd ((d.length - 1 : Nat) : Int) (by omega)) ?_
          rintro _ S4 ⟨⟨X, rfl, hX⟩, P4⟩
          obtain ⟨rx, X4⟩ := hX.mat
          have hV := dropV_nat hS hn1 (by omega)
          have M4 := M3.ext P4.ext
          have hrow := hS.1.sq _ hn1
          have hil : (ints (d.getD (d.length - 1) [])).length = d.length := by simp only [ints, List.length_map]; exact hrow
          obtain ⟨ws, hws, hwr⟩ := slc_take (M4.row _ hn1) (k := d.length - 1) (by rw [hil]; omega)
          have hI4 : Ints S4 ws ((d.getD (d.length - 1) []).take (d.length - 1)) := by unfold Ints; rw [hwr]; simp [ints, List.map_take]
          have hnn : ((0 : Int) ≤ ((d.length - 1 : Nat) : Int)) = True := by simp
          have hxl : (dropV d ((d.length - 1 : Nat) : Int)).length ≤ maxLen := by rw [hV, dropT_len hn1]; omega
          have hfit2 : fitB (dropV d ((d.length - 1 : Nat) : Int)) ((d.getD (d.length - 1) []).take (d.length - 1)) = true := by rw [hV]; exact fitB_yes (fit_drop hS (by omega))
          have htl : ((d.getD (d.length - 1) []).take (d.length - 1)).length ≤ maxLen := by rw [List.length_take]; omega
          simp only [go_sem, ↓reduceIte, Nat.reduceEqDiff, hB, M4.sl, M4.len, hn1, M4.get, hws, hnn, andK_true, Int.toNat_natCast, hw]
          refine callK.intro (by kernel_rfl) (iPointFits_c _ _ _ _ X4 hxl _ _ hI4 htl) ?_
          rintro _ _ ⟨rfl, rfl⟩
          simp only [go_sem, ↓reduceIte, Nat.reduceEqDiff, hfit2]
      · simp only [go_sem, ↓reduceIte, Nat.reduceEqDiff, h4]
        refine callK.intro (by kernel_rfl) (sSpaceOk_c _ _ _ _ M3 hd) ?_
        rintro _ _ ⟨rfl, rfl⟩
        simp only [go_sem, ↓reduceIte, Nat.reduceEqDiff]
        cases hF : spaceB d with
        | false =>
          simp only [go_sem, ↓reduceIte, Nat.reduceEqDiff]
          refine callK.intro (by kernel_rfl) (alive_c _) ?_
          rintro _ _ ⟨rfl, -⟩
          simp only [go_sem, ↓reduceIte, Nat.reduceEqDiff]
        | true =>
          simp only [go_sem, ↓reduceIte, Nat.reduceEqDiff, hsl, hlen]
          refine condK_dec (fun q2 h2 => ?_) (fun q2 h2 => ?_)
          · simp only [go_sem, ↓reduceIte, Nat.reduceEqDiff, h2]
            refine callK.intro (by kernel_rfl) (alive_c _) ?_
            rintro _ _ ⟨rfl, -⟩
            simp only [go_sem, ↓reduceIte, Nat.reduceEqDiff]
          have hS := spaceB_is hF
          have hn1 : d.length - 1 < d.length := by omega
          have hw : IntKind.i64.wrap ((d.length : Int) - 1) = ((d.length - 1 : Nat) : Int) := wrap_pred (by omega) (by omega)
          have hB : dropB d ((d.length - 1 : Nat) : Int) = true := dropB_iff.2 ⟨⟨hS, by omega, by omega⟩, by omega⟩
          simp only [go_sem, ↓reduceIte, Nat.reduceEqDiff, h2, hsl, hlen, hw]
          refine callK.intro (by kernel_rfl) (iWithoutPoint_c _ _ _ _ M3 hd ((d.length - 1 : Nat) : Int) (by omega)) ?_
          rintro _ S4 ⟨⟨X, rfl, hX⟩, P4⟩
          obtain ⟨rx, X4⟩ := hX.mat
          have hV := dropV_nat hS hn1 (by omega)
          have M4 := M3.ext P4.ext
          have hrow := hS.1.sq _ hn1
          have hil : (ints (d.getD (d.length - 1) [])).length = d.length := by simp only [ints, List.length_map]; exact hrow
          obtain ⟨ws, hws, hwr⟩ := slc_take (M4.row _ hn1) (k := d.length - 1) (by rw [hil]; omega)
          have hI4 : Ints S4 ws ((d.getD (d.length - 1) []).take (d.length - 1)) := by unfold Ints; rw [hwr]; simp [ints, List.map_take]
          have hnn : ((0 : Int) ≤ ((d.length - 1 : Nat) : Int)) = True := by simp
          have hxl : (dropV d ((d.length - 1 : Nat) : Int)).length ≤ maxLen := by rw [hV, dropT_len hn1]; omega
          have hfit2 : fitB (dropV d ((d.length - 1 : Nat) : Int)) ((d.getD (d.length - 1) []).take (d.length - 1)) = true := by rw [hV]; exact fitB_yes (fit_drop hS (by omega))
          have htl : ((d.getD (d.length - 1) []).take (d.length - 1)).length ≤ maxLen := by rw [List.length_take]; omega
          simp only [go_sem, ↓reduceIte, Nat.reduceEqDiff, hB, M4.sl, M4.len, hn1, M4.get, hws, hnn, andK_true, Int.toNat_natCast, hw]
          refine callK.intro (by kernel_rfl) (iPointFits_c _ _ _ _ X4 hxl _ _ hI4 htl) ?_
          rintro _ _ ⟨rfl, rfl⟩
          simp only [go_sem, ↓reduceIte, Nat.reduceEqDiff, hfit2]
  · exact ⟨P0, _, OL0, rfl, fun _ h => absurd h (Nat.not_lt_zero _), Int.le_refl _⟩
end Go.Proofs.Ytoecdjgjfbjejaa

/- Walks: draws of a space and distances of a point. -/
import Derived.Test.YtoecdjgjfbjejaaW21
import Derived.Test.YtoecdjgjfbjejaaW4
namespace Go.Proofs.Ytoecdjgjfbjejaa
open Go Go.Mill
set_option maxRecDepth 100000
set_option linter.unusedSimpArgs false
set_option linter.unusedVariables false

theorem l20Fitting_c (m : Nat) (S : Store) (P : Value) (h : Nat) (bv : Value) (bs : List Int) (p : Nat) (R : Rdr m S P h bv bs p) (hp : p ≤ 100000) :
    ACalls Try.prog 94 [P] S fun u S' => ∃ w1 w2 r d xs, u = .tuple #[w1, w2] ∧ Mat S' w1 r d ∧ Ints S' w2 xs ∧ Pre h S S' ∧ d.length ≤ 6 ∧ (∀ j, (d.getD j []).length ≤ 11) ∧ xs.length ≤ 11 := by
  refine ACalls.intro (ts := [2, 3]) 73 follows Try.func94 rfl (by kernel_rfl) (by kernel_rfl) (by simp) ?_
  have hh := R.len
  simp only [go_sem, ↓reduceIte, Nat.reduceEqDiff, argEnv]
  refine callK.intro (by kernel_rfl) (l20Space_c m S P h bv bs p R hp 6 (by omega) 14 (by omega)) ?_
  rintro y S2 ⟨r, d, p1, M2, R2, hp1, P2, hl, hr⟩
  have hd : d.length ≤ maxLen := by have : (6 : Nat) ≤ maxLen := by decide
                                    omega
  simp only [go_sem, ↓reduceIte, Nat.reduceEqDiff]
  refine callK.intro (by kernel_rfl) (sSpaceOk_c _ _ _ _ M2.mat hd) ?_
  rintro _ _ ⟨rfl, rfl⟩
  simp only [go_sem, ↓reduceIte, Nat.reduceEqDiff]
  cases hF : spaceB d with
  | false =>
    have OL0 : OL S2.length (S2 ++ [.own []]) (mk S2.length 0) S2.length [] := OL.none (Nat.le_refl _)
    have hl0 : (S2 ++ [Ob.own []] : Store).length = S2.length + 1 := by simp
    have K0 : ∀ q, q < S2.length → q ≠ h → (S2 ++ [Ob.own []] : Store)[q]? = S2[q]? := fun q hq _ => List.getElem?_append_left hq
    have R0 := R2.app [.own []]
    have hR := R2.len
    have M2m := M2.mat
    have hsl := M2m.sl
    have hlen := M2m.len
    have hN : d.length ≤ 9223372036854775807 := by omega
    simp only [go_sem, ↓reduceIte, Nat.reduceEqDiff]
    generalize mk S2.length 0 = y0 at OL0 ⊢
    generalize S2 ++ [Ob.own []] = S3 at OL0 hl0 K0 R0 ⊢
    refine aw_count 9 [0, 4] (fun (z : Value) => [(8, z)]) (0) (d.length) (fun k z SS => ∃ ys t q, OL S2.length SS z t ys ∧ ys.length = k ∧ Rdr m SS P h bv bs q ∧ q ≤ p1 + k ∧ (∀ q, q < S2.length → q ≠ h → SS[q]? = S2[q]?) ∧ S2.length < SS.length) (y0) ?_ ?_ ?_ ?_
    · simp only [go_sem, ↓reduceIte, Nat.reduceEqDiff, and_self, and_true, true_and, Int.ofNat_zero, Int.ofNat_one, Int.cast_ofNat_Int, hsl, hlen]
    · omega
    rotate_left
    rintro k z Sk hk0 hk ⟨ys, t, q, OL1, hys, R3, hq, K3, hl3⟩
    simp only [go_sem, ↓reduceIte, Nat.reduceEqDiff, hsl, hlen]
    refine condK_lt hk (fun hk => ?_) (fun he => ?_)
    · simp only [go_sem, ↓reduceIte, Nat.reduceEqDiff]
      refine callK.intro (by kernel_rfl) (pick_c m Sk P h bv bs q R3 (by omega) 9) ?_
      rintro _ _ ⟨⟨x, rfl, hx1, hx2, hx3⟩, rfl⟩
      simp only [go_sem, ↓reduceIte, Nat.reduceEqDiff]
      have R4 := R3.step (q + 1)
      have OL2 := OL1.below (i := h) (by omega) (.own [bv, .int .i64 (q + 1 : Nat)])
      have K4 : ∀ g, g < S2.length → g ≠ h → (Sk.set h (.own [bv, .int .i64 (q + 1 : Nat)]))[g]? = S2[g]? := fun g hg hgh => by rw [List.getElem?_set_ne (Ne.symm hgh)]; exact K3 g hg hgh
      have hl4 : S2.length < (Sk.set h (.own [bv, .int .i64 (q + 1 : Nat)])).length := by simpa using hl3
      generalize Sk.set h (.own [bv, .int .i64 (q + 1 : Nat)]) = S4 at R4 OL2 K4 hl4 ⊢
      obtain ⟨v', S', ha, hs, hpre, hkeep, t', ht', OL3⟩ := OL2.add' (IntKind.i64.wrap (1 + x))
      have hsm : (slen v' ≤ 1099511627776) = True := by simp only [eq_iff_iff, iff_true, hs]; omega
      simp only [go_sem, ↓reduceIte, Nat.reduceEqDiff, ha, hsm]
      refine forK_step (v') hk hk0 ?_ ?_
      · have hib := Nat.lt_of_lt_of_le hk hN; simp only [go_sem, ↓reduceIte, Nat.reduceEqDiff, and_self, and_true, true_and, Int.ofNat_zero, Int.ofNat_one, Int.cast_ofNat_Int, wrap_succ hib]
      have hb := OL2.bt
      refine ⟨_, t', q + 1, OL3, by simp [hys], R4.keep (hkeep h (by omega) (by omega)) (fun g hg => hkeep g (by have := R4.low; omega) (by have := R4.low; omega)), by omega, fun g hg hgh => ?_, by have := hpre.len; omega⟩
      rw [hkeep g (by omega) (by omega)]; exact K4 g hg hgh
    · have hat : atomB z = true := by rw [OL1.top]; rfl
      have Mf := M2 Sk (fun g hg hl => K3 g hl (by omega))
      simp only [go_sem, ↓reduceIte, Nat.reduceEqDiff, hat, atomB_sl hsl]
      exact ⟨_, _, _, _, _, rfl, Mf, OL1.ints, P2.trans ⟨by omega, fun g hg => K3 g (by omega) (by omega)⟩, by omega, hr, by omega⟩
    · exact ⟨[], _, p1, OL0, rfl, R0, by omega, K0, by omega⟩
  | true =>
    simp only [go_sem, ↓reduceIte, Nat.reduceEqDiff, M2.mat.sl, M2.mat.len]
    refine gK_dec (fun q1 h1 => ?_) (fun q1 h1 => ?_)
    · simp only [go_sem, ↓reduceIte, Nat.reduceEqDiff, h1]
      refine callK.intro (by kernel_rfl) (pick_c m S2 P h bv bs p1 R2 (by omega) 2) ?_
      rintro _ _ ⟨⟨x, rfl, hx1, hx2, hx3⟩, rfl⟩
      simp only [go_sem, ↓reduceIte, Nat.reduceEqDiff]
      have R3 := R2.step (p1 + 1)
      have M3 := M2.below (Nat.lt_succ_self h) (.own [bv, .int .i64 (p1 + 1 : Nat)])
      have P3 := P2.set (Nat.le_refl h) (.own [bv, .int .i64 (p1 + 1 : Nat)])
      clear M2 R2 P2
      have R2 := R3
      have M2 := M3
      have P2 := P3
      clear M3 R3 P3
      generalize S2.set h (Ob.own [bv, .int .i64 (p1 + 1 : Nat)]) = S2 at R2 M2 P2 ⊢
      refine condK_dec (fun q2 h2 => ?_) (fun q2 h2 => ?_)
      · skip
        have hw : IntKind.i64.wrap ((d.length : Int) - 1) = ((d.length - 1 : Nat) : Int) := wrap_pred (by omega) (by omega)
        have hS := spaceB_is hF
        have hn1 : d.length - 1 < d.length := by omega
        simp only [go_sem, ↓reduceIte, Nat.reduceEqDiff, h2, M2.mat.sl, M2.mat.len, hw]
        refine callK.intro (by kernel_rfl) (sWithoutPoint_c _ _ _ _ M2.mat hd ((d.length - 1 : Nat) : Int) (by omega)) ?_
        rintro _ S3 ⟨⟨X, rfl, hX⟩, P3⟩
        have M3 := M2.mat.ext P3.ext
        have M3' := M3.ext (Ext.append S3 [.own []])
        have hrow := hS.1.sq _ hn1
        have hil : (ints (d.getD (d.length - 1) [])).length = d.length := by simp only [ints, List.length_map]; exact hrow
        obtain ⟨ws, hws, hwr⟩ := slc_take (M3.row _ hn1) (k := d.length - 1) (by rw [hil]; omega)
        have hI3 : Ints S3 ws ((d.getD (d.length - 1) []).take (d.length - 1)) := by unfold Ints; rw [hwr]; simp [ints, List.map_take]
        obtain ⟨v', S4, ha, hs4, hpre, t', ht', OL4⟩ := ol_copy hI3
        have hsm : (slen v' ≤ 1099511627776) = True := by simp only [eq_iff_iff, iff_true, hs4, List.length_take]; omega
        have hws' := (Ext.append S3 [.own []]).slc hws
        have hnn : ((0 : Int) ≤ ((d.length - 1 : Nat) : Int)) = True := by simp
        have hR := R2.len
        have h3l := P3.len
        have R3 := R2.pre (P3.mono (by omega))
        have R4 := R3.pre (hpre.mono (by have := R3.len; omega))
        have K4 : ∀ q, S2.length ≤ q → q < S3.length → S4[q]? = S3[q]? := fun q _ hq => hpre.low q hq
        have hXa := hX.atom
        have hva : atomB v' = true := by rw [OL4.top]; rfl
        have P4 : Pre h S S4 := P2.trans ((P3.mono (by omega)).trans (hpre.mono (by omega)))
        have hll : ((d.getD (d.length - 1) []).take (d.length - 1)).length = d.length - 1 := by rw [List.length_take, hrow]; omega
        simp only [go_sem, ↓reduceIte, Nat.reduceEqDiff, M3.sl, M3.len, M3'.sl, M3'.len, hw, hn1, M3'.get, hws', ha, hsm, hnn, andK_true, Int.toNat_natCast]
        refine callK.intro (by kernel_rfl) (pick_c m S4 P h bv bs _ R4 (by omega) 3) ?_
        rintro _ _ ⟨⟨x3, rfl, hx31, hx32, hx33⟩, rfl⟩
        simp only [go_sem, ↓reduceIte, Nat.reduceEqDiff]
        have R5 := R4.step (p1 + 1 + 1)
        have OL5 := OL4.below (i := h) (by omega) (.own [bv, .int .i64 (p1 + 1 + 1 : Nat)])
        have P5 := P4.set (Nat.le_refl h) (.own [bv, .int .i64 (p1 + 1 + 1 : Nat)])
        have K5 : ∀ q, S2.length ≤ q → q < S3.length → (S4.set h (.own [bv, .int .i64 (p1 + 1 + 1 : Nat)]))[q]? = S3[q]? := fun q hq hl => by rw [List.getElem?_set_ne (by omega)]; exact K4 q hq hl
        generalize S4.set h (.own [bv, .int .i64 (p1 + 1 + 1 : Nat)]) = S5 at R5 OL5 P5 K5 ⊢
        have sm := @dropV_small d ((d.length - 1 : Nat) : Int) 11 (by omega) hr
        have hdl : (dropV d ((d.length - 1 : Nat) : Int)).length ≤ 6 := by rw [dropV_nat hS hn1 (by omega), dropT_len hn1]; omega
        refine condK_dec (fun q5 h5 => ?_) (fun q5 h5 => ?_)
        · simp only [go_sem, ↓reduceIte, Nat.reduceEqDiff, h5]
          have D0 : OL S3.length (S5.set h .dead) v' t' _ := OL5.below (i := h) (by omega) .dead
          have h0 : 0 < slen v' := by rw [OL5.ints.len, hll]; omega
          have hld := D0.ints.get 0 (by rw [hll]; omega)
          have hsv := D0.ints.sl
          refine draw_mixD h [true, true, true, true, true, true] 4 ?_ (by kernel_rfl)
          simp only [go_sem, ↓reduceIte, Nat.reduceEqDiff, ixK_zero, h0, hld]
          refine anyW_one 6 (by kernel_rfl) ?_
          simp only [go_sem, ↓reduceIte, Nat.reduceEqDiff]
          refine callK.intro (by kernel_rfl) (pick_c m S5 P h bv bs _ R5 (by omega) 3) ?_
          rintro _ _ ⟨⟨x6, rfl, hx61, hx62, hx63⟩, rfl⟩
          simp only [go_sem, ↓reduceIte, Nat.reduceEqDiff]
          refine andK_intro (.inl ext_dead) ?_
          have OL6 := OL5.below (i := h) (by omega) (.own [bv, .int .i64 (p1 + 1 + 1 + 1 : Nat)])
          have P6 := P5.set (Nat.le_refl h) (.own [bv, .int .i64 (p1 + 1 + 1 + 1 : Nat)])
          refine anyW_one 7 (by kernel_rfl) ?_
          simp only [go_sem, ↓reduceIte, Nat.reduceEqDiff]
          refine andK_intro (.inl ext_dead) ?_
          refine anyW_one 8 (by kernel_rfl) ?_
          simp only [go_sem, ↓reduceIte, Nat.reduceEqDiff, ixK_zero, h0]
          refine andK_intro (.inl ext_dead) ?_
          refine anyW_one 9 (by kernel_rfl) ?_
          obtain ⟨hst, OL7⟩ := OL6.st (k := 0) (by rw [hll]; omega) (IntKind.i64.wrap (IntKind.i64.wrap (List.getD ((d.getD (d.length - 1) []).take (d.length - 1)) 0 0 + 1) - x6))
          simp only [go_sem, ↓reduceIte, Nat.reduceEqDiff, hst]
          refine andK_intro (.inr (by kernel_rfl)) ?_
          refine anyW_done (by kernel_rfl) ?_
          simp only [go_sem, ↓reduceIte, Nat.reduceEqDiff, hXa, hva]
          have X7 := hX.keep (S' := (S5.set h (.own [bv, .int .i64 (p1 + 1 + 1 + 1 : Nat)])).set t' (.own (ints (((d.getD (d.length - 1) []).take (d.length - 1)).set 0 (IntKind.i64.wrap (IntKind.i64.wrap (List.getD ((d.getD (d.length - 1) []).take (d.length - 1)) 0 0 + 1) - x6)))))) fun q hq hl => ?_
          · obtain ⟨rx, hXM⟩ := X7.mat
            exact ⟨_, _, _, _, _, rfl, hXM, OL7.ints, P6.set (by omega) _, hdl, sm.2, by rw [List.length_set]; omega⟩
          · rw [List.getElem?_set_ne (by omega), List.getElem?_set_ne (by omega)]; exact K5 q hq hl
        · simp only [go_sem, ↓reduceIte, Nat.reduceEqDiff, h5, hXa, hva]
          obtain ⟨rx, hXM⟩ := (hX.keep K5).mat
          exact ⟨_, _, _, _, _, rfl, hXM, OL5.ints, P5, hdl, sm.2, by omega⟩
      · simp only [go_sem, ↓reduceIte, Nat.reduceEqDiff, h2]
        have OL0 : OL S2.length (S2 ++ [.own []]) (mk S2.length 0) S2.length [] := OL.none (Nat.le_refl _)
        have hl0 : (S2 ++ [Ob.own []] : Store).length = S2.length + 1 := by simp
        have K0 : ∀ q, q < S2.length → q ≠ h → (S2 ++ [Ob.own []] : Store)[q]? = S2[q]? := fun q hq _ => List.getElem?_append_left hq
        have R0 := R2.app [.own []]
        have hR := R2.len
        have M2m := M2.mat
        have hsl := M2m.sl
        have hlen := M2m.len
        have hN : d.length ≤ 9223372036854775807 := by omega
        generalize mk S2.length 0 = y0 at OL0 ⊢
        generalize S2 ++ [Ob.own []] = S3 at OL0 hl0 K0 R0 ⊢
        refine aw_count 9 [0, 4] (fun (z : Value) => [(8, z)]) (0) (d.length) (fun k z SS => ∃ ys t q, OL S2.length SS z t ys ∧ ys.length = k ∧ Rdr m SS P h bv bs q ∧ q ≤ (p1 + 1) + k ∧ (∀ q, q < S2.length → q ≠ h → SS[q]? = S2[q]?) ∧ S2.length < SS.length) (y0) ?_ ?_ ?_ ?_
        · simp only [go_sem, ↓reduceIte, Nat.reduceEqDiff, and_self, and_true, true_and, Int.ofNat_zero, Int.ofNat_one, Int.cast_ofNat_Int, hsl, hlen]
        · omega
        rotate_left
        rintro k z Sk hk0 hk ⟨ys, t, q, OL1, hys, R3, hq, K3, hl3⟩
        simp only [go_sem, ↓reduceIte, Nat.reduceEqDiff, hsl, hlen]
        refine condK_lt hk (fun hk => ?_) (fun he => ?_)
        · simp only [go_sem, ↓reduceIte, Nat.reduceEqDiff]
          refine callK.intro (by kernel_rfl) (pick_c m Sk P h bv bs q R3 (by omega) 9) ?_
          rintro _ _ ⟨⟨x, rfl, hx1, hx2, hx3⟩, rfl⟩
          simp only [go_sem, ↓reduceIte, Nat.reduceEqDiff]
          have R4 := R3.step (q + 1)
          have OL2 := OL1.below (i := h) (by omega) (.own [bv, .int .i64 (q + 1 : Nat)])
          have K4 : ∀ g, g < S2.length → g ≠ h → (Sk.set h (.own [bv, .int .i64 (q + 1 : Nat)]))[g]? = S2[g]? := fun g hg hgh => by rw [List.getElem?_set_ne (Ne.symm hgh)]; exact K3 g hg hgh
          have hl4 : S2.length < (Sk.set h (.own [bv, .int .i64 (q + 1 : Nat)])).length := by simpa using hl3
          generalize Sk.set h (.own [bv, .int .i64 (q + 1 : Nat)]) = S4 at R4 OL2 K4 hl4 ⊢
          obtain ⟨v', S', ha, hs, hpre, hkeep, t', ht', OL3⟩ := OL2.add' (IntKind.i64.wrap (1 + x))
          have hsm : (slen v' ≤ 1099511627776) = True := by simp only [eq_iff_iff, iff_true, hs]; omega
          simp only [go_sem, ↓reduceIte, Nat.reduceEqDiff, ha, hsm]
          refine forK_step (v') hk hk0 ?_ ?_
          · have hib := Nat.lt_of_lt_of_le hk hN; simp only [go_sem, ↓reduceIte, Nat.reduceEqDiff, and_self, and_true, true_and, Int.ofNat_zero, Int.ofNat_one, Int.cast_ofNat_Int, wrap_succ hib]
          have hb := OL2.bt
          refine ⟨_, t', q + 1, OL3, by simp [hys], R4.keep (hkeep h (by omega) (by omega)) (fun g hg => hkeep g (by have := R4.low; omega) (by have := R4.low; omega)), by omega, fun g hg hgh => ?_, by have := hpre.len; omega⟩
          rw [hkeep g (by omega) (by omega)]; exact K4 g hg hgh
        · have hat : atomB z = true := by rw [OL1.top]; rfl
          have Mf := M2 Sk (fun g hg hl => K3 g hl (by omega))
          simp only [go_sem, ↓reduceIte, Nat.reduceEqDiff, hat, atomB_sl hsl]
          exact ⟨_, _, _, _, _, rfl, Mf, OL1.ints, P2.trans ⟨by omega, fun g hg => K3 g (by omega) (by omega)⟩, by omega, hr, by omega⟩
        · exact ⟨[], _, (p1 + 1), OL0, rfl, R0, by omega, K0, by omega⟩
    · simp only [go_sem, ↓reduceIte, Nat.reduceEqDiff, h1]
      have OL0 : OL S2.length (S2 ++ [.own []]) (mk S2.length 0) S2.length [] := OL.none (Nat.le_refl _)
      have hl0 : (S2 ++ [Ob.own []] : Store).length = S2.length + 1 := by simp
      have K0 : ∀ q, q < S2.length → q ≠ h → (S2 ++ [Ob.own []] : Store)[q]? = S2[q]? := fun q hq _ => List.getElem?_append_left hq
      have R0 := R2.app [.own []]
      have hR := R2.len
      have M2m := M2.mat
      have hsl := M2m.sl
      have hlen := M2m.len
      have hN : d.length ≤ 9223372036854775807 := by omega
      generalize mk S2.length 0 = y0 at OL0 ⊢
      generalize S2 ++ [Ob.own []] = S3 at OL0 hl0 K0 R0 ⊢
      refine aw_count 9 [0, 4] (fun (z : Value) => [(8, z)]) (0) (d.length) (fun k z SS => ∃ ys t q, OL S2.length SS z t ys ∧ ys.length = k ∧ Rdr m SS P h bv bs q ∧ q ≤ p1 + k ∧ (∀ q, q < S2.length → q ≠ h → SS[q]? = S2[q]?) ∧ S2.length < SS.length) (y0) ?_ ?_ ?_ ?_
      · simp only [go_sem, ↓reduceIte, Nat.reduceEqDiff, and_self, and_true, true_and, Int.ofNat_zero, Int.ofNat_one, Int.cast_ofNat_Int, hsl, hlen]
      · omega
      rotate_left
      rintro k z Sk hk0 hk ⟨ys, t, q, OL1, hys, R3, hq, K3, hl3⟩
      simp only [go_sem, ↓reduceIte, Nat.reduceEqDiff, hsl, hlen]
      refine condK_lt hk (fun hk => ?_) (fun he => ?_)
      · simp only [go_sem, ↓reduceIte, Nat.reduceEqDiff]
        refine callK.intro (by kernel_rfl) (pick_c m Sk P h bv bs q R3 (by omega) 9) ?_
        rintro _ _ ⟨⟨x, rfl, hx1, hx2, hx3⟩, rfl⟩
        simp only [go_sem, ↓reduceIte, Nat.reduceEqDiff]
        have R4 := R3.step (q + 1)
        have OL2 := OL1.below (i := h) (by omega) (.own [bv, .int .i64 (q + 1 : Nat)])
        have K4 : ∀ g, g < S2.length → g ≠ h → (Sk.set h (.own [bv, .int .i64 (q + 1 : Nat)]))[g]? = S2[g]? := fun g hg hgh => by rw [List.getElem?_set_ne (Ne.symm hgh)]; exact K3 g hg hgh
        have hl4 : S2.length < (Sk.set h (.own [bv, .int .i64 (q + 1 : Nat)])).length := by simpa using hl3
        generalize Sk.set h (.own [bv, .int .i64 (q + 1 : Nat)]) = S4 at R4 OL2 K4 hl4 ⊢
        obtain ⟨v', S', ha, hs, hpre, hkeep, t', ht', OL3⟩ := OL2.add' (IntKind.i64.wrap (1 + x))
        have hsm : (slen v' ≤ 1099511627776) = True := by simp only [eq_iff_iff, iff_true, hs]; omega
        simp only [go_sem, ↓reduceIte, Nat.reduceEqDiff, ha, hsm]
        refine forK_step (v') hk hk0 ?_ ?_
        · have hib := Nat.lt_of_lt_of_le hk hN; simp only [go_sem, ↓reduceIte, Nat.reduceEqDiff, and_self, and_true, true_and, Int.ofNat_zero, Int.ofNat_one, Int.cast_ofNat_Int, wrap_succ hib]
        have hb := OL2.bt
        refine ⟨_, t', q + 1, OL3, by simp [hys], R4.keep (hkeep h (by omega) (by omega)) (fun g hg => hkeep g (by have := R4.low; omega) (by have := R4.low; omega)), by omega, fun g hg hgh => ?_, by have := hpre.len; omega⟩
        rw [hkeep g (by omega) (by omega)]; exact K4 g hg hgh
      · have hat : atomB z = true := by rw [OL1.top]; rfl
        have Mf := M2 Sk (fun g hg hl => K3 g hl (by omega))
        simp only [go_sem, ↓reduceIte, Nat.reduceEqDiff, hat, atomB_sl hsl]
        exact ⟨_, _, _, _, _, rfl, Mf, OL1.ints, P2.trans ⟨by omega, fun g hg => K3 g (by omega) (by omega)⟩, by omega, hr, by omega⟩
      · exact ⟨[], _, p1, OL0, rfl, R0, by omega, K0, by omega⟩

theorem DrawPointFits_c (S : Store) (v : Value) (xs : List Int) (hI : rd S v = some (xs.map (.int .u8))) (hx : xs.length ≤ maxLen) (hb : ∀ b ∈ xs, 0 ≤ b ∧ b ≤ 255) :
    ACalls Try.prog 60 [v] S fun u S' => ∃ w1 w2 r d ys, u = .tuple #[w1, w2] ∧ Mat S' w1 r d ∧ Ints S' w2 ys ∧ Ext S S' ∧ d.length ≤ 6 ∧ (∀ j, (d.getD j []).length ≤ 11) ∧ ys.length ≤ 11 := by
  refine ACalls.intro (ts := [2, 3]) 9 follows Try.func60 rfl (by kernel_rfl) (by kernel_rfl) (by simp) ?_
  simp only [go_sem, ↓reduceIte, Nat.reduceEqDiff, argEnv]
  refine callK.intro (by kernel_rfl) (l20Open_c S v xs hI hx hb) ?_
  rintro P _ ⟨bv, bs, R, rfl⟩
  simp only [go_sem, ↓reduceIte, Nat.reduceEqDiff]
  have P1 : Pre S.length S (S ++ [.own [bv, .int .i64 0]]) := (Pre.refl _ _).app (Nat.le_refl _) _
  generalize S ++ [Ob.own [bv, .int .i64 0]] = S1 at R P1 ⊢
  refine callK.intro (by kernel_rfl) (l20Fitting_c _ _ P _ bv bs _ R (by omega)) ?_
  rintro _ S2 ⟨w1, w2, r, d, ys, rfl, M, I, P2, h1, h2, h3⟩
  simp only [go_sem, ↓reduceIte, Nat.reduceEqDiff, atomB_sl M.sl, atomB_sl I.sl]
  exact ⟨_, _, r, d, ys, rfl, M, I, (P1.trans P2).ext, h1, h2, h3⟩
theorem DrawWithPoint_c (S : Store) (v : Value) (xs : List Int) (hI : rd S v = some (xs.map (.int .u8))) (hx : xs.length ≤ maxLen) (hb : ∀ b ∈ xs, 0 ≤ b ∧ b ≤ 255) :
    ACalls Try.prog 69 [v] S fun u S' => ∃ w1 w2 r d ys, u = .tuple #[w1, w2] ∧ Mat S' w1 r d ∧ Ints S' w2 ys ∧ Ext S S' ∧ d.length ≤ 6 ∧ (∀ j, (d.getD j []).length ≤ 11) ∧ ys.length ≤ 11 := by
  refine ACalls.intro (ts := [2, 3]) 9 follows Try.func69 rfl (by kernel_rfl) (by kernel_rfl) (by simp) ?_
  simp only [go_sem, ↓reduceIte, Nat.reduceEqDiff, argEnv]
  refine callK.intro (by kernel_rfl) (l20Open_c S v xs hI hx hb) ?_
  rintro P _ ⟨bv, bs, R, rfl⟩
  simp only [go_sem, ↓reduceIte, Nat.reduceEqDiff]
  have P1 : Pre S.length S (S ++ [.own [bv, .int .i64 0]]) := (Pre.refl _ _).app (Nat.le_refl _) _
  generalize S ++ [Ob.own [bv, .int .i64 0]] = S1 at R P1 ⊢
  refine callK.intro (by kernel_rfl) (l20Fitting_c _ _ P _ bv bs _ R (by omega)) ?_
  rintro _ S2 ⟨w1, w2, r, d, ys, rfl, M, I, P2, h1, h2, h3⟩
  simp only [go_sem, ↓reduceIte, Nat.reduceEqDiff, atomB_sl M.sl, atomB_sl I.sl]
  exact ⟨_, _, r, d, ys, rfl, M, I, (P1.trans P2).ext, h1, h2, h3⟩
end Go.Proofs.Ytoecdjgjfbjejaa

/- Walks: draws of caterpillars. -/
import Derived.Test.YtodeldmkpogakaaW24
import Derived.Test.YtodeldmkpogakaaW10
import Derived.Test.YtodeldmkpogakaaPure14
namespace Go.Proofs.Ytodeldmkpogakaa
open Go Go.Mill
set_option maxRecDepth 100000
set_option linter.unusedSimpArgs false
set_option linter.unusedVariables false

theorem thirtynine : ((39 : Int) = 0) = False := by simp
theorem DrawCaterpillarOf_c (S : Store) (v : Value) (xs : List Int) (hI : rd S v = some (xs.map (.int .u8))) (hx : xs.length ≤ maxLen) (hb : ∀ b ∈ xs, 0 ≤ b ∧ b ≤ 255) :
    ACalls Try.prog 39 [v] S fun u S' => ∃ w1 w2 ss ls, u = .tuple #[w1, w2] ∧ Ints S' w1 ss ∧ Ints S' w2 ls ∧ ss.length ≤ 20 ∧ ls.length ≤ 20 := by
  refine ACalls.intro (ts := [2, 3]) 43 follows Try.func39 rfl (by kernel_rfl) (by kernel_rfl) (by simp) ?_
  simp only [go_sem, ↓reduceIte, Nat.reduceEqDiff, argEnv]
  refine callK.intro (by kernel_rfl) (l20Open_c S v xs hI hx hb) ?_
  rintro P _ ⟨bv, bs, R, hS0⟩
  have hS1l : S.length + 1 = (S ++ [Ob.own [bv, .int .i64 0]] : Store).length := by simp
  rw [hS0] at hS1l
  rename_i S'
  clear hS0
  generalize S.length = h at *
  have hh := R.len
  have OLa : OL (h + 1) (S' ++ [.own []]) (mk S'.length 0) S'.length [] := OL.none (by omega)
  have hla : (S' ++ [Ob.own []] : Store).length = S'.length + 1 := by simp
  have OLb : OL (h + 1) (S' ++ [.own []] ++ [.own []]) (mk (S' ++ [Ob.own []] : Store).length 0) (S' ++ [Ob.own []] : Store).length [] := OL.none (by omega)
  have OLa' : OL (h + 1) (S' ++ [.own []] ++ [.own []]) (mk S'.length 0) S'.length [] := OLa.keep (List.getElem?_append_left (by simp))
  have R0 := (R.app [.own []]).app [.own []]
  simp only [go_sem, ↓reduceIte, Nat.reduceEqDiff]
  generalize mk (S' ++ [Ob.own []] : Store).length 0 = yb at OLb ⊢
  generalize mk S'.length 0 = ya at OLa OLa' ⊢
  have hne : S'.length ≠ (S' ++ [Ob.own []] : Store).length := by omega
  generalize (S' ++ [Ob.own []] : Store).length = tb at OLb hne ⊢
  generalize S' ++ [Ob.own []] ++ [Ob.own []] = S0 at OLb OLa' R0 ⊢
  refine callK.intro (by kernel_rfl) (pick_c _ S0 P h bv bs _ R0 (by omega) 7) ?_
  rintro _ _ ⟨⟨x, rfl, hx1, hx2, hx3⟩, rfl⟩
  simp only [go_sem, ↓reduceIte, Nat.reduceEqDiff]
  have R1 := R0.step (0 + 1)
  have OLa1 := OLa'.below (i := h) (by omega) (.own [bv, .int .i64 (0 + 1 : Nat)])
  have OLb1 := OLb.below (i := h) (by omega) (.own [bv, .int .i64 (0 + 1 : Nat)])
  generalize S0.set h (.own [bv, .int .i64 (0 + 1 : Nat)]) = S1 at R1 OLa1 OLb1 ⊢
  obtain ⟨K, hK⟩ : ∃ K : Nat, 1 + x = (K : Int) := Int.eq_ofNat_of_zero_le (by omega)
  have hx4 := hx2 (by omega)
  have hwK : IntKind.i64.wrap (1 + x) = ((K : Nat) : Int) := by rw [hK]; exact wrap64 (by omega)
  simp only [go_sem, ↓reduceIte, Nat.reduceEqDiff, hwK]
  refine aw_down 7 [4] (fun (y : Value × Value) => [(5, y.1), (6, y.2)]) K (fun i y SS => ∃ ls ss t1 t2 q, OL (h + 1) SS y.1 t1 ss ∧ OL (h + 1) SS y.2 t2 ls ∧ t1 ≠ t2 ∧ Rdr h SS P h bv bs q ∧ q ≤ 1 + 3 * (K - i) ∧ ls.length ≤ K - i ∧ ss.length ≤ K - i) (ya, yb) ?_ ⟨[], [], _, _, 0 + 1, OLa1, OLb1, hne, R1, by omega, by simp, by simp⟩ ?_
  · simp only [go_sem, ↓reduceIte, Nat.reduceEqDiff, and_self, and_true, true_and]
  rintro k y S2 hk ⟨ls, ss, t1, t2, q, OL1, OL2, hne2, R2, hq, hl1, hl2⟩
  simp only [go_sem, ↓reduceIte, Nat.reduceEqDiff]
  refine condK_dec (fun q1 h1 => ?_) (fun q1 h1 => ?_)
  · simp only [go_sem, ↓reduceIte, Nat.reduceEqDiff, h1]
    refine callK.intro (by kernel_rfl) (pick_c _ S2 P h bv bs q R2 (by omega) 9) ?_
    rintro _ _ ⟨⟨z, rfl, hz1, hz2, hz3⟩, rfl⟩
    simp only [go_sem, ↓reduceIte, Nat.reduceEqDiff]
    have R3 := R2.step (q + 1)
    have OL3 := OL1.below (i := h) (by omega) (.own [bv, .int .i64 (q + 1 : Nat)])
    have OL4 := OL2.below (i := h) (by omega) (.own [bv, .int .i64 (q + 1 : Nat)])
    generalize S2.set h (.own [bv, .int .i64 (q + 1 : Nat)]) = S3 at R3 OL3 OL4 ⊢
    refine callK.intro (by kernel_rfl) (pick_c _ S3 P h bv bs _ R3 (by omega) 40) ?_
    rintro _ _ ⟨⟨z', rfl, hz1', hz2', hz3'⟩, rfl⟩
    simp only [go_sem, ↓reduceIte, Nat.reduceEqDiff]
    have R3' := R3.step (q + 1 + 1)
    have OL3' := OL3.below (i := h) (by omega) (.own [bv, .int .i64 (q + 1 + 1 : Nat)])
    have OL4' := OL4.below (i := h) (by omega) (.own [bv, .int .i64 (q + 1 + 1 : Nat)])
    generalize S3.set h (.own [bv, .int .i64 (q + 1 + 1 : Nat)]) = S3' at R3' OL3' OL4' ⊢
    obtain ⟨v', S4, ha, hs, hpre, hkeep, t', ht', OL5⟩ := OL4'.add' (IntKind.i64.wrap (IntKind.i64.wrap (1 + z) - IntKind.i64.wrap (Int.tdiv z' 39)))
    have hsm : (slen v' ≤ 1099511627776) = True := by simp only [eq_iff_iff, iff_true, hs]; omega
    have b1 := OL4'.bt
    have b2 := OL3'.bt
    have l2 := own_lt OL3'.own
    have OL6 : OL (h + 1) S4 y.1 t1 ss := OL3'.keep (hkeep t1 l2 hne2)
    have hl3 := R3'.len
    have R4 := R3'.keep (hkeep h hl3 (by omega)) (fun g hg => hkeep g (by have := R3'.low; omega) (by have := R3'.low; omega))
    have hne3 : t1 ≠ t' := by omega
    have hwk : IntKind.i64.wrap ((k : Int) - 1) = ((k - 1 : Nat) : Int) := wrap_pred (by omega) (by omega)
    simp only [go_sem, ↓reduceIte, Nat.reduceEqDiff, ha, hsm, thirtynine]
    refine condK_dec (fun q2 h2 => ?_) (fun q2 h2 => ?_)
    · simp only [go_sem, ↓reduceIte, Nat.reduceEqDiff, h2]
      refine callK.intro (by kernel_rfl) (pick_c _ S4 P h bv bs _ R4 (by omega) 6) ?_
      rintro _ _ ⟨⟨z2, rfl, hy1, hy2, hy3⟩, rfl⟩
      simp only [go_sem, ↓reduceIte, Nat.reduceEqDiff]
      have R5 := R4.step (q + 1 + 1 + 1)
      have OL7 := OL5.below (i := h) (by omega) (.own [bv, .int .i64 (q + 1 + 1 + 1 : Nat)])
      have OL8 := OL6.below (i := h) (by omega) (.own [bv, .int .i64 (q + 1 + 1 + 1 : Nat)])
      generalize S4.set h (.own [bv, .int .i64 (q + 1 + 1 + 1 : Nat)]) = S5 at R5 OL7 OL8 ⊢
      obtain ⟨v2, S6, ha2, hs2, hpre2, hkeep2, t3, ht3, OL9⟩ := OL8.add' z2
      have hsm2 : (slen v2 ≤ 1099511627776) = True := by simp only [eq_iff_iff, iff_true, hs2]; omega
      have l5 := own_lt OL7.own
      have b5 := OL7.bt
      have hl5 := R5.len
      simp only [go_sem, ↓reduceIte, Nat.reduceEqDiff, ha2, hsm2]
      refine downK_next (v2, v') (by omega) hk ?_ ?_
      · simp only [go_sem, ↓reduceIte, Nat.reduceEqDiff, and_self, and_true, true_and, hwk]
      · exact ⟨_, _, t3, t', q + 1 + 1 + 1, OL9, OL7.keep (hkeep2 t' l5 (Ne.symm hne3)), by omega, R5.keep (hkeep2 h hl5 (by omega)) (fun g hg => hkeep2 g (by have := R5.low; omega) (by have := R5.low; omega)), by omega, by simp; omega, by simp; omega⟩
    · simp only [go_sem, ↓reduceIte, Nat.reduceEqDiff, h2]
      refine downK_next (y.1, v') (by omega) hk ?_ ?_
      · simp only [go_sem, ↓reduceIte, Nat.reduceEqDiff, and_self, and_true, true_and, hwk]
      · exact ⟨_, _, t1, t', q + 1 + 1, OL6, OL5, hne3, R4, by omega, by simp; omega, by omega⟩
  · simp only [go_sem, ↓reduceIte, Nat.reduceEqDiff, h1]
    refine callK.intro (by kernel_rfl) (odd_c _ _ P h bv bs _ R2 (by omega) 14 (by omega)) ?_
    rintro _ _ ⟨⟨b, rfl⟩, rfl⟩
    simp only [go_sem, ↓reduceIte, Nat.reduceEqDiff]
    have OL3 := OL1.below (i := h) (by omega) (.own [bv, .int .i64 (q + 1 : Nat)])
    have OL4 := OL2.below (i := h) (by omega) (.own [bv, .int .i64 (q + 1 : Nat)])
    generalize S2.set h (.own [bv, .int .i64 (q + 1 : Nat)]) = S3 at OL3 OL4 ⊢
    cases b with
    | false =>
      simp only [go_sem, ↓reduceIte, Nat.reduceEqDiff, atomB_sl OL3.ints.sl, atomB_sl OL4.ints.sl]
      exact ⟨_, _, _, _, rfl, OL3.ints, OL4.ints, by omega, by omega⟩
    | true =>
      obtain ⟨v', S4, ha, hs, hpre, hkeep, t', ht', OL5⟩ := OL3.add' 1
      have hsm : (slen v' ≤ 1099511627776) = True := by simp only [eq_iff_iff, iff_true, hs]; omega
      have OL6 := OL4.keep (hkeep t2 (own_lt OL4.own) (Ne.symm hne2))
      simp only [go_sem, ↓reduceIte, Nat.reduceEqDiff, ha, hsm]
      simp only [go_sem, ↓reduceIte, Nat.reduceEqDiff, atomB_sl OL5.ints.sl, atomB_sl OL6.ints.sl]
      exact ⟨_, _, _, _, rfl, OL5.ints, OL6.ints, by simp; omega, by omega⟩
end Go.Proofs.Ytodeldmkpogakaa

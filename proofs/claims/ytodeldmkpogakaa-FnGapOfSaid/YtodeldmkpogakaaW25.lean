/- Walks: draws of spaces that lie in trees. -/
import Derived.Test.YtodeldmkpogakaaW24
import Derived.Test.YtodeldmkpogakaaW10
namespace Go.Proofs.Ytodeldmkpogakaa
open Go Go.Mill
set_option maxRecDepth 100000
set_option linter.unusedSimpArgs false
set_option linter.unusedVariables false

theorem l20Tree_c (m : Nat) (S : Store) (P : Value) (h : Nat) (bv : Value) (bs : List Int) (p : Nat) (R : Rdr m S P h bv bs p) (hp : p ≤ 90000) (n : Int) (hn : 1 ≤ n ∧ n ≤ 1000) :
    ACalls Try.prog 80 [P, .int .i64 n] S fun u S' => ∃ r d p', MatH (h + 1) S' u r d ∧ Rdr m S' P h bv bs p' ∧ p' ≤ p + 400 ∧ Pre h S S' ∧ d.length ≤ 6 ∧ ∀ j, (d.getD j []).length ≤ 11 := by
  refine ACalls.intro (ts := [4]) 49 follows Try.func80 rfl (by kernel_rfl) (by kernel_rfl) (by simp) ?_
  have hh := R.len
  have OLa : OL (h + 1) (S ++ [.own []]) (mk S.length 0) S.length [] := OL.none (by omega)
  have hla : (S ++ [Ob.own []] : Store).length = S.length + 1 := by simp
  have OLb : OL (h + 1) (S ++ [.own []] ++ [.own []]) (mk (S ++ [Ob.own []] : Store).length 0) (S ++ [Ob.own []] : Store).length [] := OL.none (by omega)
  have OLa' : OL (h + 1) (S ++ [.own []] ++ [.own []]) (mk S.length 0) S.length [] := OLa.keep (List.getElem?_append_left (by simp))
  have R0 := (R.app [.own []]).app [.own []]
  have P0 : Pre h S (S ++ [.own []] ++ [.own []]) := ((Pre.refl _ S).app (by omega) _).app (by simp; omega) _
  simp only [go_sem, ↓reduceIte, Nat.reduceEqDiff, argEnv]
  generalize mk (S ++ [Ob.own []] : Store).length 0 = yb at OLb ⊢
  generalize mk S.length 0 = ya at OLa OLa' ⊢
  have hne : S.length ≠ (S ++ [Ob.own []] : Store).length := by omega
  generalize (S ++ [Ob.own []] : Store).length = tb at OLb hne ⊢
  generalize S ++ [Ob.own []] ++ [Ob.own []] = S0 at OLb OLa' R0 P0 ⊢
  refine callK.intro (by kernel_rfl) (pick_c m S0 P h bv bs p R0 (by omega) 5) ?_
  rintro _ _ ⟨⟨x, rfl, hx1, hx2, hx3⟩, rfl⟩
  simp only [go_sem, ↓reduceIte, Nat.reduceEqDiff]
  have R1 := R0.step (p + 1)
  have OLa1 := OLa'.below (i := h) (by omega) (.own [bv, .int .i64 (p + 1 : Nat)])
  have OLb1 := OLb.below (i := h) (by omega) (.own [bv, .int .i64 (p + 1 : Nat)])
  have P1 := P0.set (Nat.le_refl h) (.own [bv, .int .i64 (p + 1 : Nat)])
  generalize S0.set h (.own [bv, .int .i64 (p + 1 : Nat)]) = S1 at R1 OLa1 OLb1 P1 ⊢
  obtain ⟨K, hK⟩ : ∃ K : Nat, 2 + x = (K : Int) := Int.eq_ofNat_of_zero_le (by omega)
  have hx4 := hx2 (by omega)
  have hwK : IntKind.i64.wrap (2 + x) = ((K : Nat) : Int) := by rw [hK]; exact wrap64 (by omega)
  simp only [go_sem, ↓reduceIte, Nat.reduceEqDiff, hwK]
  refine aw_down 7 [0, 1] (fun (y : Value × Value) => [(5, y.1), (6, y.2)]) K (fun i y SS => ∃ ls ss t1 t2 q, OL (h + 1) SS y.1 t1 ls ∧ OL (h + 1) SS y.2 t2 ss ∧ t1 ≠ t2 ∧ Rdr m SS P h bv bs q ∧ q ≤ p + 1 + 2 * (K - i) ∧ Pre h S SS ∧ ls.length ≤ K - i ∧ ss.length ≤ K - i) (ya, yb) ?_ ⟨[], [], _, _, p + 1, OLa1, OLb1, hne, R1, by omega, P1, by simp, by simp⟩ ?_
  · simp only [go_sem, ↓reduceIte, Nat.reduceEqDiff, and_self, and_true, true_and]
  rintro k y S2 hk ⟨ls, ss, t1, t2, q, OL1, OL2, hne2, R2, hq, P2, hl1, hl2⟩
  simp only [go_sem, ↓reduceIte, Nat.reduceEqDiff]
  refine condK_dec (fun q1 h1 => ?_) (fun q1 h1 => ?_)
  · simp only [go_sem, ↓reduceIte, Nat.reduceEqDiff, h1]
    refine callK.intro (by kernel_rfl) (pick_c m S2 P h bv bs q R2 (by omega) 5) ?_
    rintro _ _ ⟨⟨z, rfl, hz1, hz2, hz3⟩, rfl⟩
    simp only [go_sem, ↓reduceIte, Nat.reduceEqDiff]
    have R3 := R2.step (q + 1)
    have OL3 := OL1.below (i := h) (by omega) (.own [bv, .int .i64 (q + 1 : Nat)])
    have OL4 := OL2.below (i := h) (by omega) (.own [bv, .int .i64 (q + 1 : Nat)])
    have P3 := P2.set (Nat.le_refl h) (.own [bv, .int .i64 (q + 1 : Nat)])
    generalize S2.set h (.own [bv, .int .i64 (q + 1 : Nat)]) = S3 at R3 OL3 OL4 P3 ⊢
    obtain ⟨v', S4, ha, hs, hpre, hkeep, t', ht', OL5⟩ := OL3.add' (IntKind.i64.wrap (1 + z))
    have hsm : (slen v' ≤ 1099511627776) = True := by simp only [eq_iff_iff, iff_true, hs]; omega
    have b1 := OL3.bt
    have b2 := OL4.bt
    have l2 := own_lt OL4.own
    have OL6 : OL (h + 1) S4 y.2 t2 ss := OL4.keep (hkeep t2 l2 (Ne.symm hne2))
    have hl3 := R3.len
    have R4 := R3.keep (hkeep h hl3 (by omega)) (fun g hg => hkeep g (by have := R3.low; omega) (by have := R3.low; omega))
    have P4 : Pre h S S4 := P3.trans (hpre.mono (by omega))
    have hne3 : t' ≠ t2 := by omega
    have hwk : IntKind.i64.wrap ((k : Int) - 1) = ((k - 1 : Nat) : Int) := wrap_pred (by omega) (by omega)
    simp only [go_sem, ↓reduceIte, Nat.reduceEqDiff, ha, hsm]
    refine condK_dec (fun q2 h2 => ?_) (fun q2 h2 => ?_)
    · simp only [go_sem, ↓reduceIte, Nat.reduceEqDiff, h2]
      refine callK.intro (by kernel_rfl) (pick_c m S4 P h bv bs _ R4 (by omega) 5) ?_
      rintro _ _ ⟨⟨z2, rfl, hy1, hy2, hy3⟩, rfl⟩
      simp only [go_sem, ↓reduceIte, Nat.reduceEqDiff]
      have R5 := R4.step (q + 1 + 1)
      have OL7 := OL5.below (i := h) (by omega) (.own [bv, .int .i64 (q + 1 + 1 : Nat)])
      have OL8 := OL6.below (i := h) (by omega) (.own [bv, .int .i64 (q + 1 + 1 : Nat)])
      have P5 := P4.set (Nat.le_refl h) (.own [bv, .int .i64 (q + 1 + 1 : Nat)])
      generalize S4.set h (.own [bv, .int .i64 (q + 1 + 1 : Nat)]) = S5 at R5 OL7 OL8 P5 ⊢
      obtain ⟨v2, S6, ha2, hs2, hpre2, hkeep2, t3, ht3, OL9⟩ := OL8.add' z2
      have hsm2 : (slen v2 ≤ 1099511627776) = True := by simp only [eq_iff_iff, iff_true, hs2]; omega
      have l5 := own_lt OL7.own
      have b5 := OL7.bt
      have hl5 := R5.len
      simp only [go_sem, ↓reduceIte, Nat.reduceEqDiff, ha2, hsm2]
      refine downK_next (v', v2) (by omega) hk ?_ ?_
      · simp only [go_sem, ↓reduceIte, Nat.reduceEqDiff, and_self, and_true, true_and, hwk]
      · exact ⟨_, _, t', t3, q + 1 + 1, OL7.keep (hkeep2 t' l5 hne3), OL9, by omega, R5.keep (hkeep2 h hl5 (by omega)) (fun g hg => hkeep2 g (by have := R5.low; omega) (by have := R5.low; omega)), by omega, P5.trans (hpre2.mono (by omega)), by simp; omega, by simp; omega⟩
    · simp only [go_sem, ↓reduceIte, Nat.reduceEqDiff, h2]
      refine downK_next (v', y.2) (by omega) hk ?_ ?_
      · simp only [go_sem, ↓reduceIte, Nat.reduceEqDiff, and_self, and_true, true_and, hwk]
      · exact ⟨_, _, t', t2, q + 1, OL5, OL6, hne3, R4, by omega, P4, by simp; omega, by omega⟩
  · have m6 : (20 : Nat) ≤ maxLen := by decide
    simp only [go_sem, ↓reduceIte, Nat.reduceEqDiff, h1]
    refine callK.intro (by kernel_rfl) (sCaterpillarOf_c S2 _ ss OL2.ints (by omega) _ ls OL1.ints (by omega)) ?_
    rintro _ S3 ⟨⟨X, rfl, hX⟩, P3⟩
    have hl2' := R2.len
    have R3 := R2.pre (P3.mono (by omega))
    have P3' : Pre h S S3 := P2.trans (P3.mono (by omega))
    have sm := @catV_small ss ls
    have space : ∀ (S4 : Store) (q' : Nat), Rdr m S4 P h bv bs q' → q' ≤ p + 100 → Pre h S S4 →
        ACalls Try.prog 100 [P, .int .i64 6, .int .i64 n] S4 fun u S' => ∃ r d p', MatH (h + 1) S' u r d ∧ Rdr m S' P h bv bs p' ∧ p' ≤ p + 400 ∧ Pre h S S' ∧ d.length ≤ 6 ∧ ∀ j, (d.getD j []).length ≤ 11 := fun S4 q' R4 hq' P4 => by
      refine (l20Space_c m S4 P h bv bs q' R4 (by omega) 6 (by omega) n hn).mono ?_
      rintro u S5 ⟨r, d, p5, M, R5, hp5, P5, hl5, hr5⟩
      exact ⟨r, d, p5, M, R5, by omega, P4.trans P5, by omega, hr5⟩
    simp only [go_sem, ↓reduceIte, Nat.reduceEqDiff]
    cases hB : catB ss ls with
    | false =>
      simp only [go_sem, ↓reduceIte, Nat.reduceEqDiff]
      refine callK.intro (by kernel_rfl) (space S3 q R3 (by omega) P3') ?_
      rintro u S5 hu
      simp only [go_sem, ↓reduceIte, Nat.reduceEqDiff]
      exact hu
    | true =>
      simp only [go_sem, ↓reduceIte, Nat.reduceEqDiff]
      refine callK.intro (by kernel_rfl) (pick_c m S3 P h bv bs _ R3 (by omega) 3) ?_
      rintro _ _ ⟨⟨z, rfl, hz1, hz2, hz3⟩, rfl⟩
      simp only [go_sem, ↓reduceIte, Nat.reduceEqDiff]
      have R4 := R3.step (q + 1)
      have P4 := P3'.set (Nat.le_refl h) (.own [bv, .int .i64 (q + 1 : Nat)])
      refine condK_dec (fun q3 h3 => ?_) (fun q3 h3 => ?_)
      · simp only [go_sem, ↓reduceIte, Nat.reduceEqDiff, h3]
        refine callK.intro (by kernel_rfl) (space _ _ R4 (by omega) P4) ?_
        rintro u S5 hu
        simp only [go_sem, ↓reduceIte, Nat.reduceEqDiff]
        exact hu
      · simp only [go_sem, ↓reduceIte, Nat.reduceEqDiff, h3]
        obtain ⟨rx, hXM⟩ := hX.matH
        exact ⟨rx, _, q + 1, (hXM.mono (by omega)).below (Nat.lt_succ_self h) _, R4, by omega, P4, sm.1, fun j => by have := sm.2 j; omega⟩

end Go.Proofs.Ytodeldmkpogakaa

/- Walks: gaps. -/
import Derived.Test.YtodeldmkpogakaaW28
import Derived.Test.YtodeldmkpogakaaSS
namespace Go.Proofs.Ytodeldmkpogakaa
open Go Go.Mill
set_option maxRecDepth 100000
set_option linter.unusedSimpArgs false
set_option linter.unusedVariables false

theorem max_three0 {k k' k'' : IntKind} {a b c : Int} : evMax [.int k a, .int k' b, .int k'' c] = some (.int k (max (max a b) c)) := by
  simp only [evMax, Option.some.injEq, Value.int.injEq, true_and]; omega
theorem min_three0 {k k' k'' : IntKind} {a b c : Int} : evMin [.int k a, .int k' b, .int k'' c] = some (.int k (min (min a b) c)) := by
  simp only [evMin, Option.some.injEq, Value.int.injEq, true_and]; omega

theorem sums_small {d : List (List Int)} (hS : IsSpace d) {a b c e : Nat} (ha : a < d.length) (hb : b < d.length) (hc : c < d.length) (he : e < d.length) : (0 ≤ sum1 d a b c e ∧ sum1 d a b c e ≤ 120) ∧ (0 ≤ sum2 d a b c e ∧ sum2 d a b c e ≤ 120) ∧ (0 ≤ sum3 d a b c e ∧ sum3 d a b c e ≤ 120) := by
  have b1 := hS.1.at ha hb
  have b2 := hS.1.at hc he
  have b3 := hS.1.at ha hc
  have b4 := hS.1.at hb he
  have b5 := hS.1.at ha he
  have b6 := hS.1.at hb hc
  unfold sum1 sum2 sum3
  omega
theorem gapOf_c (S : Store) (v : Value) (r : Nat → Value) (d : List (List Int)) (hM : Mat S v r d) (hS : IsSpace d) (a b c e : Nat) (ha : a < d.length) (hb : b < d.length) (hc : c < d.length) (he : e < d.length) :
    ACalls Try.prog 58 [v, .int .i64 a, .int .i64 b, .int .i64 c, .int .i64 e] S fun u S' => u = .int .i64 (gapN d a b c e) ∧ Pre S.length S S' := by
  refine ACalls.intro (ts := [10]) 27 follows Try.func58 rfl (by kernel_rfl) (by kernel_rfl) (by simp) ?_
  obtain ⟨g1, g2, g3⟩ := sums_small hS ha hb hc he
  have hmem : ∀ x ∈ sumsL d a b c e, 0 ≤ x ∧ x ≤ 120 := fun x hx => by
    simp only [sumsL, List.mem_cons, List.not_mem_nil, or_false] at hx
    rcases hx with rfl | rfl | rfl <;> assumption
  have hgap := @srt_gap (sum1 d a b c e) (sum2 d a b c e) (sum3 d a b c e)
  have l1 := srt_small hmem (i := 1) (by simp [sumsL])
  have l2 := srt_small hmem (i := 2) (by simp [sumsL])
  have hsl3 : (sumsL d a b c e).length = 3 := rfl
  simp only [go_sem, ↓reduceIte, Nat.reduceEqDiff, argEnv]
  refine callK.intro (by kernel_rfl) (pairSums_c S v r d hM hS a b c e ha hb hc he) ?_
  rintro u S1 ⟨⟨t, OL1⟩, P1⟩
  have e1 := OL1.top
  subst e1
  simp only [go_sem, ↓reduceIte, Nat.reduceEqDiff]
  refine callK.intro (by kernel_rfl) (Sort_c S1 t _ OL1.own (by rw [hsl3]; omega)) ?_
  rintro _ _ ⟨rfl, rfl⟩
  have P2 := P1.set OL1.bt (.own (ints (srt (sumsL d a b c e))))
  have hI : Ints (S1.set t (.own (ints (srt (sumsL d a b c e))))) (mk t (sumsL d a b c e).length) (srt (sumsL d a b c e)) := Ints.own (own_set (own_lt OL1.own)) srt_len.symm
  have hsl := hI.sl
  have i1 : 1 < slen (mk t (sumsL d a b c e).length) := by rw [slen_mk, hsl3]; omega
  have i2 : 2 < slen (mk t (sumsL d a b c e).length) := by rw [slen_mk, hsl3]; omega
  have v1 := hI.get 1 (by rw [srt_len, hsl3]; omega)
  have v2 := hI.get 2 (by rw [srt_len, hsl3]; omega)
  generalize S1.set t (.own (ints (srt (sumsL d a b c e)))) = S2 at P2 hI v1 v2 ⊢
  generalize mk t (sumsL d a b c e).length = m at hI hsl i1 i2 v1 v2 ⊢
  have hg2 : (srt (sumsL d a b c e)).getD 2 0 - (srt (sumsL d a b c e)).getD 1 0 = gapN d a b c e := hgap
  generalize (srt (sumsL d a b c e)).getD 2 0 = x2 at v2 l2 hg2
  generalize (srt (sumsL d a b c e)).getD 1 0 = x1 at v1 l1 hg2
  have hw : IntKind.i64.wrap (x2 - x1) = gapN d a b c e := by rw [wrap64 (by omega)]; exact hg2
  simp only [go_sem, ↓reduceIte, Nat.reduceEqDiff]
  refine draw_read ?_ (by kernel_rfl)
  simp only [go_sem, ↓reduceIte, Nat.reduceEqDiff, hsl, ixK_one, ixK_two, i1, i2, v1, v2, hw]
  exact ⟨by trivial, P2⟩

theorem iGapOf_c (S : Store) (v : Value) (r : Nat → Value) (d : List (List Int)) (hM : Mat S v r d) (hd : d.length ≤ maxLen) (a : Int) (ha : -9223372036854775808 ≤ a ∧ a ≤ 9223372036854775807) (b : Int) (hb : -9223372036854775808 ≤ b ∧ b ≤ 9223372036854775807) (c : Int) (hc : -9223372036854775808 ≤ c ∧ c ≤ 9223372036854775807) (e : Int) (he : -9223372036854775808 ≤ e ∧ e ≤ 9223372036854775807) :
    ACalls Try.prog 19 [v, .int .i64 a, .int .i64 b, .int .i64 c, .int .i64 e] S fun u S' => u = .int .i64 (gapV d a b c e) ∧ Pre S.length S S' := by
  refine ACalls.intro (ts := [10]) 25 follows Try.func19 rfl (by kernel_rfl) (by kernel_rfl) (by simp) ?_
  have P0 : Pre S.length S (S ++ [.own [.int .i64 a, .int .i64 b, .int .i64 c, .int .i64 e]]) := (Pre.refl _ _).app (Nat.le_refl _) _
  have hI : Ints (S ++ [.own [.int .i64 a, .int .i64 b, .int .i64 c, .int .i64 e]]) (mk S.length 4) [a, b, c, e] := Ints.own own_last rfl
  have hM1 := hM.ext P0.ext
  simp only [go_sem, ↓reduceIte, Nat.reduceEqDiff, argEnv]
  generalize S ++ [Ob.own [.int .i64 a, .int .i64 b, .int .i64 c, .int .i64 e]] = S1 at hI hM1 P0 ⊢
  refine callK.intro (by kernel_rfl) (arePoints4_c _ _ _ _ hM1 hd _ a b c e hI ha hb hc he) ?_
  rintro _ _ ⟨rfl, rfl⟩
  simp only [go_sem, ↓reduceIte, Nat.reduceEqDiff]
  have P1 : Pre S.length S (S1 ++ [.own [v]]) := P0.trans ((Pre.refl _ S1).app (by have := P0.len; omega) _)
  have hM2 := hM1.ext (Ext.append S1 [.own [v]])
  generalize S1 ++ [Ob.own [v]] = S2 at P1 hM2 ⊢
  cases hF : fourB d a b c e with
  | false =>
    simp only [go_sem, ↓reduceIte, Nat.reduceEqDiff]
    exact ⟨by rw [gapV_no hF], P1⟩
  | true =>
    obtain ⟨h1, h2, h3, h4⟩ := fourB_iff.1 hF
    obtain ⟨a, rfl⟩ := Int.eq_ofNat_of_zero_le h1.2.1
    obtain ⟨b, rfl⟩ := Int.eq_ofNat_of_zero_le h2.2.1
    obtain ⟨c, rfl⟩ := Int.eq_ofNat_of_zero_le h3.2.1
    obtain ⟨e, rfl⟩ := Int.eq_ofNat_of_zero_le h4.2.1
    have ha' : a < d.length := by have := h1.2.2; omega
    have hb' : b < d.length := by have := h2.2.2; omega
    have hc' : c < d.length := by have := h3.2.2; omega
    have he' : e < d.length := by have := h4.2.2; omega
    simp only [go_sem, ↓reduceIte, Nat.reduceEqDiff]
    refine callK.intro (by kernel_rfl) (gapOf_c _ _ _ _ hM2 h1.1 a b c e ha' hb' hc' he') ?_
    rintro _ S3 ⟨rfl, P3⟩
    simp only [go_sem, ↓reduceIte, Nat.reduceEqDiff]
    have := P1.len
    exact ⟨by rw [gapV_nat h1.1 ha' hb' hc' he'], P1.trans (P3.mono (by omega))⟩

theorem l4Gap_c (S : Store) (v : Value) (x y z : Int) (hI : Ints S v [x, y, z]) (hx : 0 ≤ x ∧ x ≤ 1000) (hy : 0 ≤ y ∧ y ≤ 1000) (hz : 0 ≤ z ∧ z ≤ 1000) :
    ACalls Try.prog 60 [v] S (Ret S (.int .i64 (gap3 x y z))) := by
  refine ACalls.intro (ts := [2]) 42 follows Try.func60 rfl (by kernel_rfl) (by kernel_rfl) (by simp) ?_
  have hsl := hI.sl
  have hn : slen v = 3 := hI.len
  have i0 : 0 < slen v := by omega
  have i1 : 1 < slen v := by omega
  have i2 : 2 < slen v := by omega
  have v0 : ld S (eptr v 0) = some (.int .i64 x) := hI.get 0 (by simp)
  have v1 : ld S (eptr v 1) = some (.int .i64 y) := hI.get 1 (by simp)
  have v2 : ld S (eptr v 2) = some (.int .i64 z) := hI.get 2 (by simp)
  have w1 : IntKind.i64.wrap (x + y) = x + y := wrap64 (by omega)
  have w2 : IntKind.i64.wrap (x + y + z) = x + y + z := wrap64 (by omega)
  have w3 : IntKind.i64.wrap (x + y + z - max (max x y) z) = x + y + z - max (max x y) z := wrap64 (by omega)
  have w4 : IntKind.i64.wrap (x + y + z - max (max x y) z - min (min x y) z) = x + y + z - max (max x y) z - min (min x y) z := wrap64 (by omega)
  have w5 : IntKind.i64.wrap (max (max x y) z - (x + y + z - max (max x y) z - min (min x y) z)) = max (max x y) z - (x + y + z - max (max x y) z - min (min x y) z) := wrap64 (by omega)
  simp only [go_sem, ↓reduceIte, Nat.reduceEqDiff, argEnv]
  refine draw_read ?_ (by kernel_rfl)
  simp only [go_sem, ↓reduceIte, Nat.reduceEqDiff, hsl, ixK_zero, ixK_one, ixK_two, i0, i1, i2, v0, v1, v2, max_three0]
  refine draw_read ?_ (by kernel_rfl)
  simp only [go_sem, ↓reduceIte, Nat.reduceEqDiff, hsl, ixK_zero, ixK_one, ixK_two, i0, i1, i2, v0, v1, v2, min_three0]
  refine draw_read ?_ (by kernel_rfl)
  simp only [go_sem, ↓reduceIte, Nat.reduceEqDiff, hsl, ixK_zero, ixK_one, ixK_two, i0, i1, i2, v0, v1, v2, w1, w2, w3, w4, w5]
  exact Ret.int rfl

theorem sGapOf_c (S : Store) (v : Value) (r : Nat → Value) (d : List (List Int)) (hM : Mat S v r d) (hd : d.length ≤ maxLen) (a : Int) (ha : -9223372036854775808 ≤ a ∧ a ≤ 9223372036854775807) (b : Int) (hb : -9223372036854775808 ≤ b ∧ b ≤ 9223372036854775807) (c : Int) (hc : -9223372036854775808 ≤ c ∧ c ≤ 9223372036854775807) (e : Int) (he : -9223372036854775808 ≤ e ∧ e ≤ 9223372036854775807) :
    ACalls Try.prog 20 [v, .int .i64 a, .int .i64 b, .int .i64 c, .int .i64 e] S fun u S' => u = .int .i64 (gapV d a b c e) ∧ Pre S.length S S' := by
  refine ACalls.intro (ts := [10]) 23 follows Try.func20 rfl (by kernel_rfl) (by kernel_rfl) (by simp) ?_
  simp only [go_sem, ↓reduceIte, Nat.reduceEqDiff, argEnv]
  refine callK.intro (by kernel_rfl) (sPairSums_c S v r d hM hd a ha b hb c hc e he) ?_
  rintro L S1 ⟨hL, P1⟩
  have hI := hL.ints
  have hsl := hI.sl
  have hlen := hI.len
  cases hF : fourB d a b c e with
  | false =>
    have h0 : decide (((sumsV d a b c e).length : Int) = 0) = true := by rw [sumsV_no hF]; rfl
    simp only [go_sem, ↓reduceIte, Nat.reduceEqDiff, hsl, hlen, h0]
    exact ⟨by rw [gapV_no hF], P1⟩
  | true =>
    obtain ⟨h1, h2, h3, h4⟩ := fourB_iff.1 hF
    obtain ⟨a, rfl⟩ := Int.eq_ofNat_of_zero_le h1.2.1
    obtain ⟨b, rfl⟩ := Int.eq_ofNat_of_zero_le h2.2.1
    obtain ⟨c, rfl⟩ := Int.eq_ofNat_of_zero_le h3.2.1
    obtain ⟨e, rfl⟩ := Int.eq_ofNat_of_zero_le h4.2.1
    have ha' : a < d.length := by have := h1.2.2; omega
    have hb' : b < d.length := by have := h2.2.2; omega
    have hc' : c < d.length := by have := h3.2.2; omega
    have he' : e < d.length := by have := h4.2.2; omega
    have hV := sumsV_nat h1.1 ha' hb' hc' he'
    rw [hV] at hI hlen
    obtain ⟨g1, g2, g3⟩ := sums_small h1.1 ha' hb' hc' he'
    have h0 : decide (((sumsL d a b c e).length : Int) = 0) = false := rfl
    simp only [go_sem, ↓reduceIte, Nat.reduceEqDiff, hsl, hlen, h0]
    refine callK.intro (by kernel_rfl) (l4Gap_c S1 _ _ _ _ hI (by omega) (by omega) (by omega)) ?_
    rintro _ _ ⟨rfl, rfl⟩
    simp only [go_sem, ↓reduceIte, Nat.reduceEqDiff]
    exact ⟨by rw [gapV_nat h1.1 ha' hb' hc' he']; rfl, P1⟩
end Go.Proofs.Ytodeldmkpogakaa

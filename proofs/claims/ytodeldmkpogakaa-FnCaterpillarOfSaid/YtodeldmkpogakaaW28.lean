/- Walks: the sums of four points. -/
import Derived.Test.YtodeldmkpogakaaW4
import Derived.Test.YtodeldmkpogakaaPure10
import Derived.Test.YtodeldmkpogakaaPure4
import Derived.Test.YtodeldmkpogakaaMillO
namespace Go.Proofs.Ytodeldmkpogakaa
open Go Go.Mill
set_option maxRecDepth 100000
set_option linter.unusedSimpArgs false
set_option linter.unusedVariables false

/-- Four points are told. -/
theorem arePoints4_c (S : Store) (v : Value) (r : Nat → Value) (d : List (List Int)) (hM : Mat S v r d) (hd : d.length ≤ maxLen) (p : Value) (a b c e : Int) (hI : Ints S p [a, b, c, e]) (ha : -9223372036854775808 ≤ a ∧ a ≤ 9223372036854775807) (hb : -9223372036854775808 ≤ b ∧ b ≤ 9223372036854775807) (hc : -9223372036854775808 ≤ c ∧ c ≤ 9223372036854775807) (he : -9223372036854775808 ≤ e ∧ e ≤ 9223372036854775807) :
    ACalls Try.prog 57 [v, p] S fun u S' => u = .bool (fourB d a b c e) ∧ S ++ [.own [v]] = S' := by
  have hbd : ∀ i, i < [a, b, c, e].length → -9223372036854775808 ≤ [a, b, c, e].getD i 0 ∧ [a, b, c, e].getD i 0 ≤ 9223372036854775807 := by
    intro i hi
    match i, hi with
    | 0, _ => exact ha
    | 1, _ => exact hb
    | 2, _ => exact hc
    | 3, _ => exact he
  refine (arePoints_c S v r d hM hd p _ hI (by simp [maxLen]) hbd).mono ?_
  rintro u S' ⟨rfl, h⟩
  refine ⟨?_, h⟩
  simp only [List.any_cons, List.any_nil, Bool.or_false, Bool.not_or, Bool.not_not, fourB]

theorem pairSums_c (S : Store) (v : Value) (r : Nat → Value) (d : List (List Int)) (hM : Mat S v r d) (hS : IsSpace d) (a b c e : Nat) (ha : a < d.length) (hb : b < d.length) (hc : c < d.length) (he : e < d.length) :
    ACalls Try.prog 84 [v, .int .i64 a, .int .i64 b, .int .i64 c, .int .i64 e] S fun u S' => (∃ t, OL S.length S' u t (sumsL d a b c e)) ∧ Pre S.length S S' := by
  refine ACalls.intro (ts := [10]) 57 follows Try.func84 rfl (by kernel_rfl) (by kernel_rfl) (by simp) ?_
  have hsl := hM.sl
  have hlen := hM.len
  have hrl := hM.sqlen hS.1.sq
  have hcl := hM.sqcell hS.1.sq
  have b1 := hS.1.at ha hb
  have b2 := hS.1.at hc he
  have b3 := hS.1.at ha hc
  have b4 := hS.1.at hb he
  have b5 := hS.1.at ha he
  have b6 := hS.1.at hb hc
  have w1 : IntKind.i64.wrap (at2 d a b + at2 d c e) = at2 d a b + at2 d c e := wrap64 (by omega)
  have w2 : IntKind.i64.wrap (at2 d a c + at2 d b e) = at2 d a c + at2 d b e := wrap64 (by omega)
  have w3 : IntKind.i64.wrap (at2 d a e + at2 d b c) = at2 d a e + at2 d b c := wrap64 (by omega)
  simp only [go_sem, ↓reduceIte, Nat.reduceEqDiff, argEnv]
  refine .tail 45 ?_ (by kernel_rfl)
  simp only [go_sem, ↓reduceIte, Nat.reduceEqDiff, List.take_succ_cons, List.take_zero, List.drop_succ_cons, List.drop_zero, hsl, hlen, ha, hb, hc, he, hM.get, hM.rsl, hrl, hcl, w1, w2, w3]
  exact ⟨⟨_, copyS⟩, (Pre.refl _ _).app (Nat.le_refl _) _⟩

theorem sPairSums_c (S : Store) (v : Value) (r : Nat → Value) (d : List (List Int)) (hM : Mat S v r d) (hd : d.length ≤ maxLen) (a : Int) (ha : -9223372036854775808 ≤ a ∧ a ≤ 9223372036854775807) (b : Int) (hb : -9223372036854775808 ≤ b ∧ b ≤ 9223372036854775807) (c : Int) (hc : -9223372036854775808 ≤ c ∧ c ≤ 9223372036854775807) (e : Int) (he : -9223372036854775808 ≤ e ∧ e ≤ 9223372036854775807) :
    ACalls Try.prog 59 [v, .int .i64 a, .int .i64 b, .int .i64 c, .int .i64 e] S fun u S' => Mine S.length S' u (sumsV d a b c e) ∧ Pre S.length S S' := by
  refine ACalls.intro (ts := [10]) 89 follows Try.func59 rfl (by kernel_rfl) (by kernel_rfl) (by simp) ?_
  have hsl := hM.sl
  have hlen := hM.len
  have hN : d.length ≤ 9223372036854775807 := hd
  have hw : IntKind.i64.wrap ((d.length : Int) - 1) = d.length - 1 := wrap64 (by omega)
  have no : fourB d a b c e = false → Mine S.length (S ++ [.own []]) (mk S.length 0) (sumsV d a b c e) ∧ Pre S.length S (S ++ [.own []]) := fun h => ⟨.inr ⟨_, by rw [sumsV_no h]; exact OL.none (Nat.le_refl _)⟩, (Pre.refl _ _).app (Nat.le_refl _) _⟩
  simp only [go_sem, ↓reduceIte, Nat.reduceEqDiff, argEnv, hsl, hlen, hw]
  refine callK.intro (by kernel_rfl) (sSpaceOk_c S v r d hM hd) ?_
  rintro _ _ ⟨rfl, rfl⟩
  simp only [go_sem, ↓reduceIte, Nat.reduceEqDiff]
  cases hF : spaceB d with
  | false =>
    simp only [go_sem, ↓reduceIte, Nat.reduceEqDiff]
    exact no (fourB_no fun h => spaceB_not hF h.1.1)
  | true =>
    have hS := spaceB_is hF
    simp only [go_sem, ↓reduceIte, Nat.reduceEqDiff]
    refine callK.intro (by kernel_rfl) (l1In_c _ _ _ _) ?_
    rintro _ _ ⟨rfl, rfl⟩
    simp only [go_sem, ↓reduceIte, Nat.reduceEqDiff]
    refine gK_dec (fun q1 h1 => ?_) (fun q1 h1 => ?_)
    · simp only [go_sem, ↓reduceIte, Nat.reduceEqDiff, h1]
      exact no (fourB_no fun h => by have := h.1.2; omega)
    simp only [go_sem, ↓reduceIte, Nat.reduceEqDiff, h1]
    refine callK.intro (by kernel_rfl) (l1In_c _ _ _ _) ?_
    rintro _ _ ⟨rfl, rfl⟩
    simp only [go_sem, ↓reduceIte, Nat.reduceEqDiff]
    refine gK_dec (fun q2 h2 => ?_) (fun q2 h2 => ?_)
    · simp only [go_sem, ↓reduceIte, Nat.reduceEqDiff, h2]
      exact no (fourB_no fun h => by have := h.2.1.2; omega)
    simp only [go_sem, ↓reduceIte, Nat.reduceEqDiff, h2]
    refine callK.intro (by kernel_rfl) (l1In_c _ _ _ _) ?_
    rintro _ _ ⟨rfl, rfl⟩
    simp only [go_sem, ↓reduceIte, Nat.reduceEqDiff]
    refine gK_dec (fun q3 h3 => ?_) (fun q3 h3 => ?_)
    · simp only [go_sem, ↓reduceIte, Nat.reduceEqDiff, h3]
      exact no (fourB_no fun h => by have := h.2.2.1.2; omega)
    simp only [go_sem, ↓reduceIte, Nat.reduceEqDiff, h3]
    refine callK.intro (by kernel_rfl) (l1In_c _ _ _ _) ?_
    rintro _ _ ⟨rfl, rfl⟩
    simp only [go_sem, ↓reduceIte, Nat.reduceEqDiff]
    refine condK_dec (fun q4 h4 => ?_) (fun q4 h4 => ?_)
    · simp only [go_sem, ↓reduceIte, Nat.reduceEqDiff, h4]
      exact no (fourB_no fun h => by have := h.2.2.2.2; omega)
    obtain ⟨a, rfl⟩ := Int.eq_ofNat_of_zero_le (show 0 ≤ a by omega)
    obtain ⟨b, rfl⟩ := Int.eq_ofNat_of_zero_le (show 0 ≤ b by omega)
    obtain ⟨c, rfl⟩ := Int.eq_ofNat_of_zero_le (show 0 ≤ c by omega)
    obtain ⟨e, rfl⟩ := Int.eq_ofNat_of_zero_le (show 0 ≤ e by omega)
    have ha' : a < d.length := by omega
    have hb' : b < d.length := by omega
    have hc' : c < d.length := by omega
    have he' : e < d.length := by omega
    have hrl := hM.sqlen hS.1.sq
    have hcl := hM.sqcell hS.1.sq
    have b1 := hS.1.at ha' hb'
    have b2 := hS.1.at hc' he'
    have b3 := hS.1.at ha' hc'
    have b4 := hS.1.at hb' he'
    have b5 := hS.1.at ha' he'
    have b6 := hS.1.at hb' hc'
    have w1 : IntKind.i64.wrap (at2 d a b + at2 d c e) = at2 d a b + at2 d c e := wrap64 (by omega)
    have w2 : IntKind.i64.wrap (at2 d a c + at2 d b e) = at2 d a c + at2 d b e := wrap64 (by omega)
    have w3 : IntKind.i64.wrap (at2 d a e + at2 d b c) = at2 d a e + at2 d b c := wrap64 (by omega)
    simp only [go_sem, ↓reduceIte, Nat.reduceEqDiff, h4]
    refine .tail 45 ?_ (by kernel_rfl)
    simp only [go_sem, ↓reduceIte, Nat.reduceEqDiff, List.take_succ_cons, List.take_zero, List.drop_succ_cons, List.drop_zero, hsl, hlen, ha', hb', hc', he', hM.get, hM.rsl, hrl, hcl, w1, w2, w3]
    exact ⟨.inr ⟨_, by rw [sumsV_nat hS ha' hb' hc' he']; exact copyS⟩, (Pre.refl _ _).app (Nat.le_refl _) _⟩
end Go.Proofs.Ytodeldmkpogakaa

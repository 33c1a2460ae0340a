/- Walks: how many lots; steps. -/
import Derived.Test.YtodeldmkpogakaaW19
import Derived.Test.YtodeldmkpogakaaSS
import Derived.Test.YtodeldmkpogakaaPure14
namespace Go.Proofs.Ytodeldmkpogakaa
open Go Go.Mill
set_option maxRecDepth 100000
set_option linter.unusedSimpArgs false
set_option linter.unusedVariables false

noncomputable def lotsQ (d : List (List Int)) (far : Int) : Int := if farB d && (decide (0 ≤ far) && decide (far ≤ 60)) then ((lotsN d far : Nat) : Int) else -1
theorem lotsQ_yes {d : List (List Int)} {far : Int} (h : IsFar d) (h0 : 0 ≤ far) (h1 : far ≤ 60) : lotsQ d far = ((lotsN d far : Nat) : Int) := by simp [lotsQ, farB_yes h, h0, h1]
theorem lotsQ_no {d : List (List Int)} {far : Int} (h : ¬ (IsFar d ∧ 0 ≤ far ∧ far ≤ 60)) : lotsQ d far = -1 := by
  unfold lotsQ
  split
  · rename_i hc
    simp only [Bool.and_eq_true, decide_eq_true_eq] at hc
    exact absurd ⟨farB_is hc.1, hc.2⟩ h
  · rfl
theorem iLotsIn_c (S : Store) (v : Value) (r : Nat → Value) (d : List (List Int)) (hM : Mat S v r d) (hd : d.length ≤ maxLen) (far : Int) (hf : -9223372036854775808 ≤ far ∧ far ≤ 9223372036854775807) :
    ACalls Try.prog 15 [v, .int .i64 far] S fun u S' => u = .int .i64 (lotsQ d far) ∧ Pre S.length S S' := by
  refine ACalls.intro (ts := [4]) 25 follows Try.func15 rfl (by kernel_rfl) (by kernel_rfl) (by simp) ?_
  simp only [go_sem, ↓reduceIte, Nat.reduceEqDiff, argEnv]
  refine callK.intro (by kernel_rfl) (areFar_c S v r d hM hd) ?_
  rintro _ _ ⟨rfl, rfl⟩
  simp only [go_sem, ↓reduceIte, Nat.reduceEqDiff]
  cases hF : farB d with
  | false =>
    simp only [go_sem, ↓reduceIte, Nat.reduceEqDiff]
    exact ⟨by rw [lotsQ_no fun h => farB_not hF h.1], Pre.refl _ _⟩
  | true =>
    have hFar := farB_is hF
    have h6 := hFar.2.1
    simp only [go_sem, ↓reduceIte, Nat.reduceEqDiff]
    refine gK_dec (fun q1 h1 => ?_) (fun q1 h1 => ?_)
    · simp only [go_sem, ↓reduceIte, Nat.reduceEqDiff, h1]
      exact ⟨by rw [lotsQ_no fun h => by omega], Pre.refl _ _⟩
    simp only [go_sem, ↓reduceIte, Nat.reduceEqDiff, h1]
    refine condK_dec (fun q2 h2 => ?_) (fun q2 h2 => ?_)
    · simp only [go_sem, ↓reduceIte, Nat.reduceEqDiff, h2]
      exact ⟨by rw [lotsQ_no fun h => by omega], Pre.refl _ _⟩
    have h0 : 0 ≤ far := by omega
    simp only [go_sem, ↓reduceIte, Nat.reduceEqDiff, h2]
    refine callK.intro (by kernel_rfl) (lotsAt_c S v r d hM hFar far h0) ?_
    rintro u S1 ⟨⟨t, OL1⟩, P1⟩
    have e1 := OL1.top
    subst e1
    have hll : (lotsL d far d.length).length ≤ 1000000 := by rw [lotsL_len]; omega
    simp only [go_sem, ↓reduceIte, Nat.reduceEqDiff]
    refine callK.intro (by kernel_rfl) (Sort_c S1 t _ OL1.own hll) ?_
    rintro _ _ ⟨rfl, rfl⟩
    have P2 := P1.set OL1.bt (.own (ints (srt (lotsL d far d.length))))
    have hown : (S1.set t (.own (ints (srt (lotsL d far d.length)))))[t]? = some (.own (ints (srt (lotsL d far d.length)))) := own_set (own_lt OL1.own)
    rw [← srt_len (xs := lotsL d far d.length)] at hll ⊢
    generalize S1.set t (.own (ints (srt (lotsL d far d.length)))) = S2 at P2 hown ⊢
    simp only [go_sem, ↓reduceIte, Nat.reduceEqDiff]
    refine callK.intro (by kernel_rfl) (Compact_c S2 t _ hown hll) ?_
    rintro _ _ ⟨rfl, rfl⟩
    have P3 := P2.set OL1.bt (.own (ints (Lib.compact (srt (lotsL d far d.length)))))
    simp only [go_sem, ↓reduceIte, Nat.reduceEqDiff]
    refine ⟨?_, P3⟩
    rw [lots_compact hFar h0, lotsQ_yes hFar h0 (by omega), pickN_cnt]
    rfl

theorem sLotsIn_c (S : Store) (v : Value) (r : Nat → Value) (d : List (List Int)) (hM : Mat S v r d) (hd : d.length ≤ maxLen) (far : Int) (hf : -9223372036854775808 ≤ far ∧ far ≤ 9223372036854775807) :
    ACalls Try.prog 16 [v, .int .i64 far] S fun u S' => u = .int .i64 (lotsQ d far) ∧ Pre S.length S S' := by
  refine ACalls.intro (ts := [4]) 29 follows Try.func16 rfl (by kernel_rfl) (by kernel_rfl) (by simp) ?_
  simp only [go_sem, ↓reduceIte, Nat.reduceEqDiff, argEnv]
  refine callK.intro (by kernel_rfl) (sLotsAt_c S v r d hM hd far hf) ?_
  rintro L S1 ⟨hL, P1⟩
  have hI := hL.ints
  have hsl := hI.sl
  have hlen := hI.len
  have six := @lotsV_six d far
  have hN : (lotsV d far).length ≤ 9223372036854775807 := by omega
  simp only [go_sem, ↓reduceIte, Nat.reduceEqDiff]
  by_cases hP : IsFar d ∧ 0 ≤ far ∧ far ≤ 60
  · obtain ⟨hF, h0, h60⟩ := hP
    have hV := lotsV_yes hF h0 h60
    rw [hV] at hI hlen hN
    rw [lotsL_len] at hlen hN
    have hg : ∀ i, i < d.length → ld S1 (eptr L i) = some (.int .i64 ((lotN d far i : Nat) : Int)) := fun i hi => by
      rw [hI.get i (by rw [lotsL_len]; exact hi), lotsL_get hi]
    have h6 := hF.2.1
    refine aw_count 7 [5] (fun (y : Nat) => [(6, .int .i64 ((y : Nat) : Int))]) (0) (d.length) (fun k y SS => S1 = SS ∧ y = cnt (fixC d far) k) (0) ?_ ?_ ?_ ?_
    · simp only [go_sem, ↓reduceIte, Nat.reduceEqDiff, and_self, and_true, true_and, Int.ofNat_zero, Int.ofNat_one, Int.cast_ofNat_Int, hsl, hlen]
    · omega
    rotate_left
    rintro k y Sk hk0 hk ⟨rfl, rfl⟩
    simp only [go_sem, ↓reduceIte, Nat.reduceEqDiff, hsl, hlen]
    refine condK_lt hk (fun hk => ?_) (fun he => ?_)
    · have key : decide (((lotN d far k : Nat) : Int) = ((k : Nat) : Int)) = fixC d far k := by unfold fixC; rw [decide_eq_decide]; omega
      have hc := @cnt_le (fixC d far) k
      simp only [go_sem, ↓reduceIte, Nat.reduceEqDiff, hsl, hlen, hk, hg, key]
      cases hx : fixC d far k with
      | true =>
        have hw : IntKind.i64.wrap (((cnt (fixC d far) k : Nat) : Int) + 1) = ((cnt (fixC d far) k + 1 : Nat) : Int) := wrap_succ (by omega)
        simp only [go_sem, ↓reduceIte, Nat.reduceEqDiff, hw]
        refine forK_step (cnt (fixC d far) k + 1) hk hk0 ?_ ?_
        · have hib := Nat.lt_of_lt_of_le hk hN; simp only [go_sem, ↓reduceIte, Nat.reduceEqDiff, and_self, and_true, true_and, Int.ofNat_zero, Int.ofNat_one, Int.cast_ofNat_Int, wrap_succ hib]
        exact ⟨rfl, by simp [cnt, hx]⟩
      | false =>
        simp only [go_sem, ↓reduceIte, Nat.reduceEqDiff]
        refine forK_step (cnt (fixC d far) k) hk hk0 ?_ ?_
        · have hib := Nat.lt_of_lt_of_le hk hN; simp only [go_sem, ↓reduceIte, Nat.reduceEqDiff, and_self, and_true, true_and, Int.ofNat_zero, Int.ofNat_one, Int.cast_ofNat_Int, wrap_succ hib]
        exact ⟨rfl, by simp [cnt, hx]⟩
    · subst he
      have hn : decide (((d.length : Nat) : Int) = 0) = false := by rw [decide_eq_false_iff_not]; have := hF.1; omega
      simp only [go_sem, ↓reduceIte, Nat.reduceEqDiff, hsl, hlen, hn]
      exact ⟨by rw [lotsQ_yes hF h0 h60]; rfl, P1⟩
    · exact ⟨rfl, rfl⟩
  · have hV := lotsV_no hP
    rw [hV] at hlen
    have hlen : slen L = 0 := hlen
    refine aw_count 7 [5] (fun (y : Unit) => [(6, .int .i64 0)]) (0) (0) (fun k y SS => S1 = SS) (()) ?_ ?_ ?_ ?_
    · simp only [go_sem, ↓reduceIte, Nat.reduceEqDiff, and_self, and_true, true_and, Int.ofNat_zero, Int.ofNat_one, Int.cast_ofNat_Int, hsl, hlen]
    · omega
    rotate_left
    rintro k y Sk hk0 hk rfl
    obtain rfl : k = 0 := by omega
    have h0 : decide (((0 : Nat) : Int) < ((0 : Nat) : Int)) = false := rfl
    have h1 : decide (((0 : Nat) : Int) = 0) = true := rfl
    simp only [go_sem, ↓reduceIte, Nat.reduceEqDiff, hsl, hlen, h0, h1]
    exact ⟨by rw [lotsQ_no hP], P1⟩
    rfl

theorem slc_drop {S : Store} {q n lo : Nat} {xs : List Int} (hq : S[q]? = some (.own (ints xs))) (hn : n = xs.length) (h0 : 1 ≤ lo) (h1 : lo ≤ n) : ∃ w, slc S (mk q n) lo n = some w ∧ Ints S w (xs.drop lo) := by
  subst hn
  have hl : (ints xs).length = xs.length := by simp [ints]
  refine ⟨.slice (some ⟨q, 0 + lo, some 0⟩) (xs.length - lo) 0, ?_, ?_⟩
  · have : lo ≤ xs.length ∧ 0 + xs.length ≤ (ints xs).length ∧ 0 + xs.length ≤ (ints xs).length := by omega
    simp only [slc, mk, hq, Option.bind_some, Ob.cells]
    rw [if_pos this, if_neg (by omega)]
  · unfold Ints rd
    simp only [hq, Option.bind_some, Ob.cells]
    rw [if_pos (by omega), Nat.zero_add]
    congr 1
    have : ((ints xs).drop lo).length = xs.length - lo := by simp [ints]
    rw [← this, List.take_length]
    simp [ints, List.map_drop]
end Go.Proofs.Ytodeldmkpogakaa
namespace Go.Mill
set_option maxRecDepth 100000
set_option linter.unusedSimpArgs false
set_option linter.unusedVariables false
/-- Numbers more, to a list of one's own that began at handle x. -/
theorem LX.many {x : Nat} {S0 S : Store} {v w : Value} {xs ys : List Int} (h : LX x S0 S v xs) (hw : Ints S w ys) :
    ∃ v' S', app S v w = some (v', S') ∧ slen v' = xs.length + ys.length ∧ LX x S0 S' v' (xs ++ ys) := by
  obtain ⟨t, hL, ht⟩ := h.list
  have ht1 := own_lt hL.own
  have happ := app_own hL.own (n := xs.length) (by simp [ints]) hw
  rw [← hL.top] at happ
  have hl := h.aside.len
  have hbt := hL.bt
  have hll : (S.set t Ob.dead).length = S.length := by simp
  refine ⟨_, _, happ, by simp [slen_mk, ints], ⟨⟨by simp; omega, fun q hq hx => ?_⟩, S.length, ⟨by simp [ints], by omega, ?_⟩, .inr hl⟩⟩
  · rw [List.getElem?_append_left (by simp; omega), List.getElem?_set_ne (by rcases ht with rfl | ht <;> omega), h.aside.keep q hq hx]
  · rw [← hll, own_last]; simp [ints]
end Go.Mill
namespace Go.Proofs.Ytodeldmkpogakaa
open Go Go.Mill
set_option maxRecDepth 100000
set_option linter.unusedSimpArgs false
set_option linter.unusedVariables false
theorem stepsOf_c (S : Store) (v : Value) (r : Nat → Value) (d : List (List Int)) (hM : Mat S v r d) (hF : IsFar d) :
    ACalls Try.prog 62 [v] S fun u S' => (∃ t, OL S.length S' u t (stepsV d)) ∧ Pre S.length S S' := by
  refine ACalls.intro (ts := [2]) 26 follows Try.func62 rfl (by kernel_rfl) (by kernel_rfl) (by simp) ?_
  have h6 := hF.2.1
  have OL0 : OL S.length (S ++ [.own []]) (mk S.length 0) S.length [] := OL.none (Nat.le_refl _)
  have P0 : Pre S.length S (S ++ [.own []]) := (Pre.refl _ _).app (Nat.le_refl _) _
  have hl1 : (S ++ [Ob.own []] : Store).length = S.length + 1 := by simp
  simp only [go_sem, ↓reduceIte, Nat.reduceEqDiff, argEnv]
  generalize S ++ [Ob.own []] = S1 at OL0 P0 hl1 ⊢
  generalize mk S.length 0 = y0 at OL0 ⊢
  refine callK.intro (by kernel_rfl) (belowOf_c S1 v r d (hM.ext P0.ext) hF) ?_
  rintro x S2 ⟨⟨t, g, O2⟩, P2⟩
  rw [← below_yes hF] at O2
  have hbl := below_len hF
  have hU := (below_ultra hF).1.1
  have OL2 : OL S.length S2 y0 S.length [] := OL0.pre P2 (by omega)
  have L2 := LX.start OL2
  have P2' : Pre S.length S S2 := P0.trans (P2.mono (by omega))
  have hs2 := P2.len
  have hsl := O2.mat.sl
  have hlen := O2.mat.len
  rw [hbl] at hlen
  have hN : d.length ≤ 9223372036854775807 := by omega
  have hsq : ∀ i, i < d.length → ((belowV d).getD i []).length = d.length := fun i hi => by rw [hU.sq i (by omega), hbl]
  simp only [go_sem, ↓reduceIte, Nat.reduceEqDiff, hsl, hlen]
  refine aw_count 10 [8, 9] (fun (y : Value) => [(3, y)]) (0) (d.length) (fun k y SS => LX S.length S2 SS y (stepL (belowV d) k)) (y0) ?_ ?_ ?_ ?_
  · simp only [go_sem, ↓reduceIte, Nat.reduceEqDiff, and_self, and_true, true_and, Int.ofNat_zero, Int.ofNat_one, Int.cast_ofNat_Int, hsl, hlen]
  · omega
  rotate_left
  rintro k y Sk hk0 hk L3
  simp only [go_sem, ↓reduceIte, Nat.reduceEqDiff, hsl, hlen]
  refine condK_lt hk (fun hk => ?_) (fun he => ?_)
  · have O3 := L3.aside.ot O2 (by omega)
    have M3 := O3.mat
    have hkb : k < (belowV d).length := by omega
    have hw : IntKind.i64.wrap ((k : Int) + 1) = ((k + 1 : Nat) : Int) := wrap_succ (by omega)
    have hrow : orow g (belowV d) k = mk (g k) d.length := by unfold orow; rw [hsq k hk]
    obtain ⟨ws, hws, hwi⟩ := slc_drop (O3.row k hkb) (n := d.length) (lo := k + 1) (hsq k hk).symm (by omega) (by omega)
    obtain ⟨v', S', ha, hs, L4⟩ := L3.many hwi
    have hle := stepL_len (x := belowV d) (n := d.length) hsq (k + 1) (by omega)
    have hmul : d.length * (k + 1) ≤ 6 * 6 := Nat.mul_le_mul h6 (by omega)
    simp only [stepL, List.length_append] at hle
    have hsm : (slen v' ≤ 1099511627776) = True := by simp only [eq_iff_iff, iff_true, hs]; omega
    have hnn : ((0 : Int) ≤ ((k + 1 : Nat) : Int)) = True := by simp only [eq_iff_iff, iff_true]; omega
    have hkt : (((k + 1 : Nat) : Int)).toNat = k + 1 := Int.toNat_natCast _
    simp only [go_sem, ↓reduceIte, Nat.reduceEqDiff, hsl, M3.len, hbl, hk, hkb, M3.get, hrow, hw, hnn, andK_true, hkt, slen_mk, hws, ha, hsm]
    refine forK_step (v') hk hk0 ?_ ?_
    · have hib := Nat.lt_of_lt_of_le hk hN; simp only [go_sem, ↓reduceIte, Nat.reduceEqDiff, and_self, and_true, true_and, Int.ofNat_zero, Int.ofNat_one, Int.cast_ofNat_Int, wrap_succ hib]
    exact L4
  · subst he
    obtain ⟨t', OL3⟩ := L3.ol
    have e1 := OL3.top
    subst e1
    have hle := stepL_len (x := belowV d) (n := d.length) hsq d.length (Nat.le_refl _)
    have hmul : d.length * d.length ≤ 6 * 6 := Nat.mul_le_mul h6 h6
    have hll : (stepL (belowV d) d.length).length ≤ 1000000 := by omega
    have P3 : Pre S.length S _ := P2'.trans (L3.aside.toPre (by omega))
    simp only [go_sem, ↓reduceIte, Nat.reduceEqDiff]
    refine callK.intro (by kernel_rfl) (Sort_c _ t' _ OL3.own hll) ?_
    rintro _ _ ⟨rfl, rfl⟩
    have P4 := P3.set OL3.bt (.own (ints (srt (stepL (belowV d) d.length))))
    have hown := own_set (ob := .own (ints (srt (stepL (belowV d) d.length)))) (own_lt OL3.own)
    have hsrt := srt_len (xs := stepL (belowV d) d.length)
    rw [← hsrt] at hll ⊢
    simp only [go_sem, ↓reduceIte, Nat.reduceEqDiff]
    refine callK.intro (by kernel_rfl) (Compact_c _ t' _ hown hll) ?_
    rintro _ _ ⟨rfl, rfl⟩
    rw [steps_compact hF]
    have P5 := P4.set OL3.bt (.own (ints (stepsV d)))
    simp only [go_sem, ↓reduceIte, Nat.reduceEqDiff]
    exact ⟨⟨t', rfl, OL3.bt, own_set (own_lt hown)⟩, P5⟩
  · exact L2

theorem iStepsOf_c (S : Store) (v : Value) (r : Nat → Value) (d : List (List Int)) (hM : Mat S v r d) (hd : d.length ≤ maxLen) :
    ACalls Try.prog 22 [v] S fun u S' => Mine S.length S' u (stepsV d) ∧ Pre S.length S S' := by
  refine ACalls.intro (ts := [2]) 8 follows Try.func22 rfl (by kernel_rfl) (by kernel_rfl) (by simp) ?_
  simp only [go_sem, ↓reduceIte, Nat.reduceEqDiff, argEnv]
  refine callK.intro (by kernel_rfl) (areFar_c S v r d hM hd) ?_
  rintro _ _ ⟨rfl, rfl⟩
  simp only [go_sem, ↓reduceIte, Nat.reduceEqDiff]
  cases hF : farB d with
  | false =>
    simp only [go_sem, ↓reduceIte, Nat.reduceEqDiff]
    exact ⟨.inl ⟨rfl, stepsV_no hF⟩, Pre.refl _ _⟩
  | true =>
    simp only [go_sem, ↓reduceIte, Nat.reduceEqDiff]
    refine callK.intro (by kernel_rfl) (stepsOf_c S v r d hM (farB_is hF)) ?_
    rintro u S1 ⟨⟨t, OL1⟩, P1⟩
    simp only [go_sem, ↓reduceIte, Nat.reduceEqDiff]
    exact ⟨.inr ⟨t, OL1⟩, P1⟩

/-- Whether a pair below k stands at n in b. -/
noncomputable def foundB (b : List (List Int)) (n k : Nat) : Bool := @decide (∃ k' j, k' < k ∧ j < k' ∧ at2 b k' j = (n : Int)) (Classical.propDecidable _)
noncomputable def foundJ (b : List (List Int)) (n k j : Nat) : Bool := foundB b n k || @decide (∃ j', j' < j ∧ at2 b k j' = (n : Int)) (Classical.propDecidable _)
theorem foundB_zero {b : List (List Int)} {n : Nat} : foundB b n 0 = false := by
  unfold foundB; rw [decide_eq_false_iff_not]; rintro ⟨k', j, h, -⟩; omega
theorem foundJ_zero {b : List (List Int)} {n k : Nat} : foundJ b n k 0 = foundB b n k := by
  unfold foundJ
  have : @decide (∃ j', j' < 0 ∧ at2 b k j' = (n : Int)) (Classical.propDecidable _) = false := by rw [decide_eq_false_iff_not]; rintro ⟨k', h, -⟩; omega
  rw [this, Bool.or_false]
theorem foundJ_succ {b : List (List Int)} {n k j : Nat} : foundJ b n k (j + 1) = (foundJ b n k j || decide (at2 b k j = (n : Int))) := by
  unfold foundJ
  rw [Bool.or_assoc]
  congr 1
  rw [Bool.eq_iff_iff]
  simp only [Bool.or_eq_true, decide_eq_true_eq]
  constructor
  · rintro ⟨j', h1, h2⟩
    rcases Nat.lt_succ_iff_lt_or_eq.1 h1 with h | rfl
    · exact .inl ⟨j', h, h2⟩
    · exact .inr h2
  · rintro (⟨j', h1, h2⟩ | h)
    · exact ⟨j', by omega, h2⟩
    · exact ⟨j, by omega, h⟩
theorem foundJ_end {b : List (List Int)} {n k : Nat} : foundJ b n k k = foundB b n (k + 1) := by
  unfold foundJ foundB
  rw [Bool.eq_iff_iff]
  simp only [Bool.or_eq_true, decide_eq_true_eq]
  constructor
  · rintro (⟨k', j, h1, h2, h3⟩ | ⟨j, h1, h2⟩)
    · exact ⟨k', j, by omega, h2, h3⟩
    · exact ⟨k, j, by omega, h1, h2⟩
  · rintro ⟨k', j, h1, h2, h3⟩
    rcases Nat.lt_succ_iff_lt_or_eq.1 h1 with h | rfl
    · exact .inl ⟨k', j, h, h2, h3⟩
    · exact .inr ⟨j, h2, h3⟩
theorem found_steps {d : List (List Int)} : pickN (fun n => decide (1 ≤ n) && foundB (belowV d) n (belowV d).length) 61 = stepsV d := by
  cases hF : farB d with
  | true =>
    have h := farB_is hF
    rw [stepsV_yes h, below_len h]
    congr 1
    funext n
    cases n with
    | zero => rw [step_zero h]; rfl
    | succ n =>
      rw [Bool.eq_iff_iff, stepB_iff]
      unfold foundB stepC
      simp only [Bool.and_eq_true, decide_eq_true_eq]
      constructor
      · rintro ⟨-, k, j, h1, h2, h3⟩; exact ⟨k, j, h2, h1, h3⟩
      · rintro ⟨k, j, h1, h2, h3⟩; exact ⟨by omega, k, j, h2, h1, h3⟩
  | false =>
    rw [stepsV_no hF, ← List.length_eq_zero_iff, pickN_cnt]
    refine cnt_none fun k hk => ?_
    rw [below_no hF, show foundB [] k ([] : List (List Int)).length = false from foundB_zero, Bool.and_false]
theorem sStepsOf_c (S : Store) (v : Value) (r : Nat → Value) (d : List (List Int)) (hM : Mat S v r d) (hd : d.length ≤ maxLen) :
    ACalls Try.prog 24 [v] S fun u S' => Mine S.length S' u (stepsV d) ∧ Pre S.length S S' := by
  refine ACalls.intro (ts := [2]) 45 follows Try.func24 rfl (by kernel_rfl) (by kernel_rfl) (by simp) ?_
  have OL0 : OL S.length (S ++ [.own []]) (mk S.length 0) S.length [] := OL.none (Nat.le_refl _)
  have P0 : Pre S.length S (S ++ [.own []]) := (Pre.refl _ _).app (Nat.le_refl _) _
  have hl1 : (S ++ [Ob.own []] : Store).length = S.length + 1 := by simp
  simp only [go_sem, ↓reduceIte, Nat.reduceEqDiff, argEnv]
  generalize S ++ [Ob.own []] = S1 at OL0 P0 hl1 ⊢
  generalize mk S.length 0 = y0 at OL0 ⊢
  refine callK.intro (by kernel_rfl) (sBelowOf_c S1 v r d (hM.ext P0.ext) hd) ?_
  rintro x S2 ⟨hX, P2⟩
  have P2' : Pre S.length S S2 := P0.trans (P2.mono (by omega))
  have OL2 : OL S.length S2 y0 S.length [] := OL0.pre P2 (by omega)
  have L2 := LX.start OL2
  have hs2 := P2.len
  obtain ⟨rx, M2⟩ := hX.mat
  have hsl := M2.sl
  have hlen := M2.len
  have six := @below_small d
  have hsq : ∀ i, i < (belowV d).length → ((belowV d).getD i []).length = (belowV d).length := by
    intro i hi
    cases hF : farB d with
    | true => exact (below_ultra (farB_is hF)).1.1.sq i hi
    | false => rw [below_no hF] at hi; exact absurd hi (Nat.not_lt_zero _)
  have hbd : (belowV d).length ≤ d.length := by
    cases hF : farB d with
    | true => exact Nat.le_of_eq (below_len (farB_is hF))
    | false => rw [below_no hF]; exact Nat.zero_le _
  have hN : (belowV d).length ≤ 9223372036854775807 := by omega
  have hN61 : 61 ≤ 9223372036854775807 := by omega
  have hV : pickN (fun n => decide (1 ≤ n) && foundB (belowV d) n (belowV d).length) 61 = stepsV d := found_steps
  have hX3 : ∀ SS, Go.Mill.Aside S.length S2 SS → ∃ r, Mat SS x r (belowV d) := fun SS hA => (hX.keep fun q hq hl => hA.keep q hl (by omega)).mat
  generalize belowV d = b at *
  simp only [go_sem, ↓reduceIte, Nat.reduceEqDiff, hsl, hlen]
  refine aw_count 5 [4] (fun (y : Value) => [(3, y)]) (1) (61) (fun n y SS => LX S.length S2 SS y (pickN (fun n => decide (1 ≤ n) && foundB b n b.length) n)) (y0) ?_ ?_ ?_ ?_
  · simp only [go_sem, ↓reduceIte, Nat.reduceEqDiff, and_self, and_true, true_and, Int.ofNat_zero, Int.ofNat_one, Int.cast_ofNat_Int, hsl, hlen]
  · omega
  rotate_left
  rintro n y Sn hn0 hn L3
  · simp only [go_sem, ↓reduceIte, Nat.reduceEqDiff, hsl, hlen]
    refine condK_dec (fun q1 h1 => ?_) (fun q1 h1 => ?_)
    · have hn : n < 61 := by omega
      have E2 := L3.aside
      obtain ⟨r3, M3⟩ := hX3 Sn E2
      have hrl := M3.sqlen hsq
      have hcl := M3.sqcell hsq
      simp only [go_sem, ↓reduceIte, Nat.reduceEqDiff, h1]
      refine aw_count 7 [3, 4, 5] (fun (z : Bool) => [(6, .bool z)]) (0) (b.length) (fun k z SS => Sn = SS ∧ z = foundB b n k) (false) ?_ ?_ ?_ ?_
      · simp only [go_sem, ↓reduceIte, Nat.reduceEqDiff, and_self, and_true, true_and, Int.ofNat_zero, Int.ofNat_one, Int.cast_ofNat_Int, hsl, hlen]
      · omega
      rotate_left
      rintro k z Sk hk0 hk ⟨rfl, rfl⟩
      simp only [go_sem, ↓reduceIte, Nat.reduceEqDiff, hsl, hlen]
      refine condK_lt hk (fun hk => ?_) (fun he => ?_)
      · simp only [go_sem, ↓reduceIte, Nat.reduceEqDiff, hsl, hlen]
        refine aw_count 8 [3, 4, 5, 7] (fun (w : Bool) => [(6, .bool w)]) (0) (k) (fun j w SS => Sn = SS ∧ w = foundJ b n k j) (foundB b n k) ?_ ?_ ?_ ?_
        · simp only [go_sem, ↓reduceIte, Nat.reduceEqDiff, and_self, and_true, true_and, Int.ofNat_zero, Int.ofNat_one, Int.cast_ofNat_Int, hsl, hlen]
        · omega
        rotate_left
        rintro j w Sj hj0 hj ⟨rfl, rfl⟩
        simp only [go_sem, ↓reduceIte, Nat.reduceEqDiff, hsl, hlen]
        refine condK_lt hj (fun hj => ?_) (fun he => ?_)
        · have hjb : j < b.length := by omega
          have hkN : k ≤ 9223372036854775807 := by omega
          have key := @foundJ_succ b n k j
          cases hx : foundJ b n k j with
          | true =>
            rw [hx, Bool.true_or] at key
            simp only [go_sem, ↓reduceIte, Nat.reduceEqDiff, hsl, hlen, hk, hj]
            refine forK_step (true) hj hj0 ?_ ?_
            · have hib := Nat.lt_of_lt_of_le hj hkN; simp only [go_sem, ↓reduceIte, Nat.reduceEqDiff, and_self, and_true, true_and, Int.ofNat_zero, Int.ofNat_one, Int.cast_ofNat_Int, wrap_succ hib]
            exact ⟨rfl, key.symm⟩
          | false =>
            rw [hx, Bool.false_or] at key
            simp only [go_sem, ↓reduceIte, Nat.reduceEqDiff, hsl, hlen, hk, hj, hjb, M3.len, M3.get, M3.rsl, hrl, hcl]
            refine forK_step (decide (at2 b k j = (n : Int))) hj hj0 ?_ ?_
            · have hib := Nat.lt_of_lt_of_le hj hkN; simp only [go_sem, ↓reduceIte, Nat.reduceEqDiff, and_self, and_true, true_and, Int.ofNat_zero, Int.ofNat_one, Int.cast_ofNat_Int, wrap_succ hib]
            exact ⟨rfl, key.symm⟩
        · subst he
          simp only [go_sem, ↓reduceIte, Nat.reduceEqDiff]
          refine forK_step (foundJ b n j j) hk hk0 ?_ ?_
          · have hib := Nat.lt_of_lt_of_le hk hN; simp only [go_sem, ↓reduceIte, Nat.reduceEqDiff, and_self, and_true, true_and, Int.ofNat_zero, Int.ofNat_one, Int.cast_ofNat_Int, wrap_succ hib]
          exact ⟨rfl, foundJ_end⟩
        · exact ⟨rfl, foundJ_zero.symm⟩
      · subst he
        cases hx : foundB b n b.length with
        | true =>
          obtain ⟨v', S', ha, hs, L4⟩ := L3.add (n : Int)
          have hsm : (slen v' ≤ 1099511627776) = True := by have := @pickN_len (fun n => decide (1 ≤ n) && foundB b n b.length) n; simp only [eq_iff_iff, iff_true, hs]; omega
          simp only [go_sem, ↓reduceIte, Nat.reduceEqDiff, ha, hsm]
          refine forK_step (v') hn hn0 ?_ ?_
          · have hib := Nat.lt_of_lt_of_le hn hN61; simp only [go_sem, ↓reduceIte, Nat.reduceEqDiff, and_self, and_true, true_and, Int.ofNat_zero, Int.ofNat_one, Int.cast_ofNat_Int, wrap_succ hib]
          rw [pickN_yes (by simp [hx]; omega)]
          exact L4
        | false =>
          simp only [go_sem, ↓reduceIte, Nat.reduceEqDiff]
          refine forK_step (y) hn hn0 ?_ ?_
          · have hib := Nat.lt_of_lt_of_le hn hN61; simp only [go_sem, ↓reduceIte, Nat.reduceEqDiff, and_self, and_true, true_and, Int.ofNat_zero, Int.ofNat_one, Int.cast_ofNat_Int, wrap_succ hib]
          rw [pickN_no (by simp [hx])]
          exact L3
      · exact ⟨rfl, foundB_zero.symm⟩
    · have hn : n = 61 := by omega
      subst hn
      simp only [go_sem, ↓reduceIte, Nat.reduceEqDiff, h1]
      obtain ⟨t', OL3⟩ := L3.ol
      rw [hV] at OL3
      exact ⟨.inr ⟨t', OL3⟩, P2'.trans (L3.aside.toPre (by omega))⟩
  · exact L2
end Go.Proofs.Ytodeldmkpogakaa

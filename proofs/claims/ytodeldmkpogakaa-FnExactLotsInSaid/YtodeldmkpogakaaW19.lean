/- Walks: lots. -/
import Derived.Test.YtodeldmkpogakaaW16
import Derived.Test.YtodeldmkpogakaaW10
import Derived.Test.YtodeldmkpogakaaPure7
import Derived.Test.YtodeldmkpogakaaMillO
namespace Go.Proofs.Ytodeldmkpogakaa
open Go Go.Mill
set_option maxRecDepth 100000
set_option linter.unusedSimpArgs false
set_option linter.unusedVariables false

theorem lotsAt1_c (S : Store) (p : Value) (far : Int) (hp : ld S p = some (.int .i64 far)) (x : Int) : ACalls Try.prog 77 [.int .i64 x, p] S (Ret S (.bool (decide (x ≤ far)))) := by
  refine ACalls.intro (ts := [3]) 7 follows Try.func77 rfl (by kernel_rfl) (by kernel_rfl) (by simp) ?_
  simp only [go_sem, ↓reduceIte, Nat.reduceEqDiff, argEnv, hp]
  exact Ret.mk _ _

/-- The first place is found. -/
theorem IndexFuncN_c (S : Store) (p : Value) (xs : List Int) (hI : Ints S p xs) (hx : xs.length ≤ maxLen) (f : FuncId) (cap : Value) (hca : callable Try.prog f = true) (b : Int → Bool)
    (hf : ∀ i, i < xs.length → ACalls Try.prog f [.int .i64 (xs.getD i 0), cap] S (Ret S (.bool (b (xs.getD i 0))))) (k : Nat) (hk : k < xs.length) (hyes : b (xs.getD k 0) = true) (hno : ∀ j, j < k → b (xs.getD j 0) = false) :
    ACalls Try.prog 76 [p, .func (.func f) #[] #[cap]] S (Ret S (.int .i64 k)) := by
  refine ACalls.intro (ts := [4]) 19 follows Try.func76 rfl (by kernel_rfl) (by kernel_rfl) (by simp) ?_
  have hsl := hI.sl
  have hlen := hI.len
  have hN : xs.length ≤ 9223372036854775807 := hx
  simp only [go_sem, ↓reduceIte, Nat.reduceEqDiff, argEnv, hsl, hlen]
  refine aw_count 8 [0, 1, 7] (fun (_ : Unit) => []) (0) (xs.length) (fun i _ SS => S = SS ∧ (i ≤ k)) (()) ?_ ?_ ?_ ?_
  · simp only [go_sem, ↓reduceIte, Nat.reduceEqDiff, and_self, and_true, true_and, Int.ofNat_zero, Int.ofNat_one, Int.cast_ofNat_Int, hsl, hlen]
  · omega
  · (refine ⟨rfl, ?_⟩; first | trivial | rfl | ((repeat' apply And.intro) <;> first | rfl | trivial | omega | (intros; omega) | simp [top]))
  rintro i _ _ hi0 hi ⟨rfl, hle⟩
  simp only [go_sem, ↓reduceIte, Nat.reduceEqDiff, hsl, hlen]
  refine condK_lt hi (fun hi => ?_) (fun he => ?_)
  · simp only [go_sem, ↓reduceIte, Nat.reduceEqDiff, hsl, hlen, hi, hI.get]
    refine ⟨hca, ?_⟩
    refine (hf i hi).mono ?_
    rintro _ _ ⟨rfl, rfl⟩
    rcases Nat.lt_or_ge i k with h1 | h1
    · simp only [go_sem, ↓reduceIte, Nat.reduceEqDiff, hno i h1]
      refine forK_step (()) hi hi0 ?_ ?_
      · have hib := Nat.lt_of_lt_of_le hi hN; simp only [go_sem, ↓reduceIte, Nat.reduceEqDiff, and_self, and_true, true_and, Int.ofNat_zero, Int.ofNat_one, Int.cast_ofNat_Int, wrap_succ hib]
      exact ⟨rfl, h1⟩
    · obtain rfl : i = k := by omega
      simp only [go_sem, ↓reduceIte, Nat.reduceEqDiff, hyes]
      exact Ret.mk _ _
  · omega

theorem lotsAt_c (S : Store) (v : Value) (r : Nat → Value) (d : List (List Int)) (hM : Mat S v r d) (hF : IsFar d) (far : Int) (h0 : 0 ≤ far) :
    ACalls Try.prog 50 [v, .int .i64 far] S fun u S' => (∃ t, OL S.length S' u t (lotsL d far d.length)) ∧ Pre S.length S S' := by
  refine ACalls.intro (ts := [4]) 24 follows Try.func50 rfl (by kernel_rfl) (by kernel_rfl) (by simp) ?_
  have h6 := hF.2.1
  have hb : boxCells (Value.int .i64 far) = some [.int .i64 far] := rfl
  simp only [go_sem, ↓reduceIte, Nat.reduceEqDiff, argEnv, hb]
  have hl1 : (S ++ [Ob.own [Value.int .i64 far]] : Store).length = S.length + 1 := by simp
  have OL0 : OL (S.length + 1) (S ++ [.own [.int .i64 far]] ++ [.own []]) (mk (S ++ [Ob.own [Value.int .i64 far]] : Store).length 0) (S.length + 1) [] := by
    have := OL.none (b := S.length + 1) (S := S ++ [.own [.int .i64 far]]) (by rw [hl1]; exact Nat.le_refl _)
    rw [hl1] at this ⊢
    exact this
  have hbox : (S ++ [.own [.int .i64 far]] ++ [.own []] : Store)[S.length]? = some (.own [.int .i64 far]) := own_app own_last
  have P0 : Pre S.length S (S ++ [.own [.int .i64 far]] ++ [.own []]) := ((Pre.refl _ S).app (Nat.le_refl _) _).app (by simp) _
  have hl2 : (S ++ [Ob.own [Value.int .i64 far]] ++ [Ob.own []] : Store).length = S.length + 2 := by simp
  generalize mk (S ++ [Ob.own [Value.int .i64 far]] : Store).length 0 = y0 at OL0 ⊢
  generalize S ++ [Ob.own [Value.int .i64 far]] ++ [Ob.own []] = S1 at OL0 hbox P0 hl2 ⊢
  refine callK.intro (by kernel_rfl) (belowOf_c S1 v r d (hM.ext P0.ext) hF) ?_
  rintro x S2 ⟨⟨t, g, O2⟩, P2⟩
  rw [← below_yes hF] at O2
  have hbl := below_len hF
  have hU := (below_ultra hF).1.1
  have OL2 : OL (S.length + 1) S2 y0 (S.length + 1) [] := OL0.pre P2 (by omega)
  have L2 := LX.start OL2
  have hbox2 : S2[S.length]? = some (.own [.int .i64 far]) := by rw [P2.low _ (by omega)]; exact hbox
  have P2' : Pre S.length S S2 := P0.trans (P2.mono (by omega))
  have hs2 := P2.len
  have hsl := O2.mat.sl
  have hlen := O2.mat.len
  rw [hbl] at hlen
  have hN : d.length ≤ 9223372036854775807 := by omega
  simp only [go_sem, ↓reduceIte, Nat.reduceEqDiff, hsl, hlen]
  refine aw_count 12 [3, 10, 11] (fun (y : Value) => [(5, y)]) (0) (d.length) (fun k y SS => LX (S.length + 1) S2 SS y (lotsL d far k)) (y0) ?_ ?_ ?_ ?_
  · simp only [go_sem, ↓reduceIte, Nat.reduceEqDiff, and_self, and_true, true_and, Int.ofNat_zero, Int.ofNat_one, Int.cast_ofNat_Int, hsl, hlen]
  · omega
  rotate_left
  rintro k y Sk hk0 hk L3
  simp only [go_sem, ↓reduceIte, Nat.reduceEqDiff, hsl, hlen]
  refine condK_lt hk (fun hk => ?_) (fun he => ?_)
  · have O3 := L3.aside.ot O2 (by omega)
    have M3 := O3.mat
    have hkb : k < (belowV d).length := by omega
    have hld : ld Sk (.pointer (some ⟨S.length, 0, none⟩)) = some (.int .i64 far) := by
      rw [L3.aside.ld (by omega) (by omega)]; simp [ld, cell, hbox2, Ob.cells]
    have hrow := M3.row k hkb
    have hrl : ((belowV d).getD k []).length = d.length := by rw [hU.sq k hkb, hbl]
    have hat : ∀ j, ((belowV d).getD k []).getD j 0 = at2 (belowV d) k j := fun j => rfl
    have hlt := lot_le hF h0 hk
    have hidx := IndexFuncN_c Sk _ _ hrow (by rw [hrl]; have : (6 : Nat) ≤ maxLen := by decide
                                              omega) 77 _ (by kernel_rfl) (fun x => decide (x ≤ far)) (fun i _ => lotsAt1_c Sk _ far hld _) (lotN d far k) (by omega) (by rw [decide_eq_true_eq]; exact lot_at hF h0 hk) (fun j hj => firstN_min hj)
    obtain ⟨v', S', ha, hs, L4⟩ := L3.add ((lotN d far k : Nat) : Int)
    have hsm : (slen v' ≤ 1099511627776) = True := by simp only [eq_iff_iff, iff_true, hs, lotsL_len]; omega
    simp only [go_sem, ↓reduceIte, Nat.reduceEqDiff, hsl, M3.len, hbl, hk, hkb, M3.get]
    refine callK.intro (by kernel_rfl) (hidx) ?_
    rintro _ _ ⟨rfl, rfl⟩
    simp only [go_sem, ↓reduceIte, Nat.reduceEqDiff, ha, hsm]
    refine forK_step (v') hk hk0 ?_ ?_
    · have hib := Nat.lt_of_lt_of_le hk hN; simp only [go_sem, ↓reduceIte, Nat.reduceEqDiff, and_self, and_true, true_and, Int.ofNat_zero, Int.ofNat_one, Int.cast_ofNat_Int, wrap_succ hib]
    rw [lotsL_succ]; exact L4
  · subst he
    simp only [go_sem, ↓reduceIte, Nat.reduceEqDiff]
    obtain ⟨t', OL3⟩ := L3.ol
    exact ⟨⟨t', OL3.mono (by omega)⟩, P2'.trans ((L3.aside.toPre (by omega)).mono (by omega))⟩
  · exact L2

theorem sLotsAt_c (S : Store) (v : Value) (r : Nat → Value) (d : List (List Int)) (hM : Mat S v r d) (hd : d.length ≤ maxLen) (far : Int) (hf : -9223372036854775808 ≤ far ∧ far ≤ 9223372036854775807) :
    ACalls Try.prog 53 [v, .int .i64 far] S fun u S' => Mine S.length S' u (lotsV d far) ∧ Pre S.length S S' := by
  refine ACalls.intro (ts := [4]) 42 follows Try.func53 rfl (by kernel_rfl) (by kernel_rfl) (by simp) ?_
  have OL0 : OL S.length (S ++ [.own []]) (mk S.length 0) S.length [] := OL.none (Nat.le_refl _)
  have P0 : Pre S.length S (S ++ [.own []]) := (Pre.refl _ _).app (Nat.le_refl _) _
  have hl1 : (S ++ [Ob.own []] : Store).length = S.length + 1 := by simp
  simp only [go_sem, ↓reduceIte, Nat.reduceEqDiff, argEnv]
  generalize S ++ [Ob.own []] = S1 at OL0 P0 hl1 ⊢
  generalize mk S.length 0 = y0 at OL0 ⊢
  refine callK.intro (by kernel_rfl) (sBelowOf_c S1 v r d (hM.ext P0.ext) hd) ?_
  rintro x S2 ⟨hX, P2⟩
  have P2' : Pre S.length S S2 := P0.trans (P2.mono (by omega))
  have OL2 : OL S.length S2 y0 S.length [] := OL0.pre P2 (by omega)
  have hs2 := P2.len
  by_cases hP : IsFar d ∧ 0 ≤ far ∧ far ≤ 60
  · obtain ⟨hF, h0, h60⟩ := hP
    have h6 := hF.2.1
    have hbl := below_len hF
    have hU := (below_ultra hF).1.1
    obtain ⟨t, g, O2⟩ : ∃ t g, OT S1.length S2 x t g (belowV d) := by
      rcases hX with ⟨_, hX⟩ | hX
      · have := hF.1; rw [hX] at hbl; simp at hbl; omega
      · exact hX
    have L2 := LX.start OL2
    have hsl := O2.mat.sl
    have hlen := O2.mat.len
    rw [hbl] at hlen
    have hN : d.length ≤ 9223372036854775807 := by omega
    have hin : decide (0 ≤ far ∧ far ≤ 60) = true := by rw [decide_eq_true_eq]; exact ⟨h0, h60⟩
    simp only [go_sem, ↓reduceIte, Nat.reduceEqDiff]
    refine aw_count 7 [1, 6] (fun (y : Value) => [(5, y)]) (0) (d.length) (fun k y SS => LX S.length S2 SS y (lotsL d far k)) (y0) ?_ ?_ ?_ ?_
    · simp only [go_sem, ↓reduceIte, Nat.reduceEqDiff, and_self, and_true, true_and, Int.ofNat_zero, Int.ofNat_one, Int.cast_ofNat_Int, hsl, hlen]
    · omega
    rotate_left
    rintro k y Sk hk0 hk L3
    simp only [go_sem, ↓reduceIte, Nat.reduceEqDiff, hsl, hlen]
    refine gK_dec (fun q1 h1 => ?_) (fun q1 h1 => ?_)
    · have hk : k < d.length := by omega
      simp only [go_sem, ↓reduceIte, Nat.reduceEqDiff, h1]
      refine callK.intro (by kernel_rfl) (l1In_c _ _ _ _) ?_
      rintro _ _ ⟨rfl, rfl⟩
      simp only [go_sem, ↓reduceIte, Nat.reduceEqDiff, hin]
      have O3 := L3.aside.ot O2 (by omega)
      have M3 := O3.mat
      have hkb : k < (belowV d).length := by omega
      have hrl := M3.sqlen hU.sq
      have hcl := M3.sqcell hU.sq
      have hlt := lot_le hF h0 hk
      refine aw_count 8 [1, 6, 7] (fun (z : Value) => [(5, z)]) (0) (d.length) (fun j z SS => Sk = SS ∧ y = z ∧ j ≤ lotN d far k) (y) ?_ ?_ ?_ ?_
      · simp only [go_sem, ↓reduceIte, Nat.reduceEqDiff, and_self, and_true, true_and, Int.ofNat_zero, Int.ofNat_one, Int.cast_ofNat_Int, hsl, hlen]
      · omega
      rotate_left
      rintro j z Sj hj0 hj ⟨rfl, rfl, hz⟩
      simp only [go_sem, ↓reduceIte, Nat.reduceEqDiff, hsl, hlen]
      refine condK_lt hj (fun hj => ?_) (fun he => ?_)
      · have hjb : j < (belowV d).length := by omega
        simp only [go_sem, ↓reduceIte, Nat.reduceEqDiff, hsl, hlen, hk, hj, hkb, hjb, M3.len, M3.get, M3.rsl, hrl, hcl, hbl]
        refine condK_dec (fun q2 h2 => ?_) (fun q2 h2 => ?_)
        · have hj2 : lotN d far k = j := by
            have := firstN_of (c := fun j => decide (at2 (belowV d) k j ≤ far)) hj (by rw [decide_eq_true_eq]; exact q2)
            unfold lotN at hz ⊢
            omega
          obtain ⟨v', S', ha, hs, L4⟩ := L3.add (j : Int)
          have hsm : (slen v' ≤ 1099511627776) = True := by simp only [eq_iff_iff, iff_true, hs, lotsL_len]; omega
          simp only [go_sem, ↓reduceIte, Nat.reduceEqDiff, h2, ha, hsm]
          refine forK_step (v') hk hk0 ?_ ?_
          · have hib := Nat.lt_of_lt_of_le hk hN; simp only [go_sem, ↓reduceIte, Nat.reduceEqDiff, and_self, and_true, true_and, Int.ofNat_zero, Int.ofNat_one, Int.cast_ofNat_Int, wrap_succ hib]
          rw [lotsL_succ, hj2]; exact L4
        · simp only [go_sem, ↓reduceIte, Nat.reduceEqDiff, h2]
          have hj2 : lotN d far k ≠ j := fun e => q2 (by rw [← e]; exact lot_at hF h0 hk)
          refine forK_step (y) hj hj0 ?_ ?_
          · have hib := Nat.lt_of_lt_of_le hj hN; simp only [go_sem, ↓reduceIte, Nat.reduceEqDiff, and_self, and_true, true_and, Int.ofNat_zero, Int.ofNat_one, Int.cast_ofNat_Int, wrap_succ hib]
          exact ⟨rfl, rfl, by omega⟩
      · omega
      · exact ⟨rfl, rfl, Nat.zero_le _⟩
    · have hk : k = d.length := by omega
      subst hk
      simp only [go_sem, ↓reduceIte, Nat.reduceEqDiff, h1]
      obtain ⟨t', OL3⟩ := L3.ol
      exact ⟨.inr ⟨t', by rw [lotsV_yes hF h0 h60]; exact OL3⟩, P2'.trans (L3.aside.toPre (by omega))⟩
    exact L2
  · obtain ⟨rx, M2⟩ := hX.mat
    have hsl := M2.sl
    have hlen := M2.len
    have hN := lotsV_no hP
    have fin : Mine S.length S2 y0 (lotsV d far) ∧ Pre S.length S S2 := ⟨.inr ⟨_, by rw [hN]; exact OL2⟩, P2'⟩
    simp only [go_sem, ↓reduceIte, Nat.reduceEqDiff]
    refine aw_count 7 [1, 6] (fun (y : Value) => [(5, y)]) (0) (0) (fun k y SS => S2 = SS ∧ y0 = y) (y0) ?_ ?_ ?_ ?_
    · simp only [go_sem, ↓reduceIte, Nat.reduceEqDiff, and_self, and_true, true_and, Int.ofNat_zero, Int.ofNat_one, Int.cast_ofNat_Int, hsl, hlen]
    · omega
    rotate_left
    rintro k y Sk hk0 hk ⟨rfl, rfl⟩
    obtain rfl : k = 0 := by omega
    simp only [go_sem, ↓reduceIte, Nat.reduceEqDiff, hsl, hlen]
    refine gK_dec (fun q1 h1 => ?_) (fun q1 h1 => ?_)
    · have hF : IsFar d := farB_is (by
        cases h : farB d with
        | false => rw [below_no h] at q1; simp at q1
        | true => rfl)
      have hin : decide (0 ≤ far ∧ far ≤ 60) = false := by rw [decide_eq_false_iff_not]; exact fun h => hP ⟨hF, h⟩
      simp only [go_sem, ↓reduceIte, Nat.reduceEqDiff, h1]
      refine callK.intro (by kernel_rfl) (l1In_c _ _ _ _) ?_
      rintro _ _ ⟨rfl, rfl⟩
      simp only [go_sem, ↓reduceIte, Nat.reduceEqDiff, hin]
      exact fin
    · simp only [go_sem, ↓reduceIte, Nat.reduceEqDiff, h1]
      exact fin
    exact ⟨rfl, rfl⟩

theorem DrawLotsAt_c (S : Store) (v : Value) (xs : List Int) (hI : rd S v = some (xs.map (.int .u8))) (hx : xs.length ≤ maxLen) (hb : ∀ b ∈ xs, 0 ≤ b ∧ b ≤ 255) :
    ACalls Try.prog 48 [v] S fun u S' => ∃ w x r d, u = .tuple #[w, .int .i64 x] ∧ (-9223372036854775808 ≤ x ∧ x ≤ 9223372036854775807) ∧ Mat S' w r d ∧ Ext S S' ∧ d.length ≤ 6 ∧ ∀ j, (d.getD j []).length ≤ 6 := by
  refine ACalls.intro (ts := [2, 3]) 28 follows Try.func48 rfl (by kernel_rfl) (by kernel_rfl) (by simp) ?_
  simp only [go_sem, ↓reduceIte, Nat.reduceEqDiff, argEnv]
  refine callK.intro (by kernel_rfl) (l20Open_c S v xs hI hx hb) ?_
  rintro P _ ⟨bv, bs, R, rfl⟩
  simp only [go_sem, ↓reduceIte, Nat.reduceEqDiff]
  have P1 : Pre S.length S (S ++ [.own [bv, .int .i64 0]]) := (Pre.refl _ _).app (Nat.le_refl _) _
  generalize S ++ [Ob.own [bv, .int .i64 0]] = S1 at R P1 ⊢
  refine callK.intro (by kernel_rfl) (l20Far_c _ _ P _ bv bs 0 R (by omega) 6 (by omega)) ?_
  rintro y S2 ⟨d, p, ⟨t, g, O⟩, R2, hp, P2, hl1, hl2, hsq⟩
  have O2 : OS (S.length + 1) S2 y t g d d.length := ⟨O, rfl, hsq⟩
  replace P2 := P1.trans P2
  simp only [go_sem, ↓reduceIte, Nat.reduceEqDiff]
  refine callK.intro (by kernel_rfl) (odd_c _ _ P _ bv bs p R2 (by omega) 14 (by omega)) ?_
  rintro _ _ ⟨⟨b, rfl⟩, rfl⟩
  simp only [go_sem, ↓reduceIte, Nat.reduceEqDiff]
  have R3 := R2.step (p + 1)
  have O3 := O2.below (Nat.lt_succ_self _) (.own [bv, .int .i64 (p + 1 : Nat)])
  have P3 := P2.set (Nat.le_refl _) (.own [bv, .int .i64 (p + 1 : Nat)])
  clear O2 P2 R2
  generalize List.set S2 S.length (Ob.own [bv, .int .i64 (p + 1 : Nat)]) = S3 at R3 O3 P3 ⊢
  have h0 : 0 < d.length := by omega
  cases b with
  | false =>
    simp only [go_sem, ↓reduceIte, Nat.reduceEqDiff]
    refine callK.intro (by kernel_rfl) (pick_c _ _ P _ bv bs _ R3 (by omega) 14) ?_
    rintro _ _ ⟨⟨z1, rfl, -, -, -⟩, rfl⟩
    simp only [go_sem, ↓reduceIte, Nat.reduceEqDiff]
    have R4 := R3.step (p + 1 + 1)
    have O4 := O3.below (Nat.lt_succ_self _) (.own [bv, .int .i64 (p + 1 + 1 : Nat)])
    have P4 := P3.set (Nat.le_refl _) (.own [bv, .int .i64 (p + 1 + 1 : Nat)])
    clear O3 P3 R3
    generalize List.set S3 S.length (Ob.own [bv, .int .i64 (p + 1 + 1 : Nat)]) = S4 at R4 O4 P4 ⊢
    refine callK.intro (by kernel_rfl) (pick_c _ _ P _ bv bs _ R4 (by omega) 20) ?_
    rintro _ _ ⟨⟨z2, rfl, -, -, -⟩, rfl⟩
    simp only [go_sem, ↓reduceIte, Nat.reduceEqDiff]
    have R5 := R4.step (p + 1 + 1 + 1)
    have O5 := O4.below (Nat.lt_succ_self _) (.own [bv, .int .i64 (p + 1 + 1 + 1 : Nat)])
    have P5 := P4.set (Nat.le_refl _) (.own [bv, .int .i64 (p + 1 + 1 + 1 : Nat)])
    clear O4 P4 R4
    generalize List.set S4 S.length (Ob.own [bv, .int .i64 (p + 1 + 1 + 1 : Nat)]) = S5 at R5 O5 P5 ⊢
    simp only [go_sem, ↓reduceIte, Nat.reduceEqDiff, nineteen]
    refine callK.intro (by kernel_rfl) (pick_c _ _ P _ bv bs _ R5 (by omega) 20) ?_
    rintro _ _ ⟨⟨z3, rfl, -, -, -⟩, rfl⟩
    simp only [go_sem, ↓reduceIte, Nat.reduceEqDiff]
    have O6 := O5.below (Nat.lt_succ_self _) (.own [bv, .int .i64 (p + 1 + 1 + 1 + 1 : Nat)])
    have P6 := P5.set (Nat.le_refl _) (.own [bv, .int .i64 (p + 1 + 1 + 1 + 1 : Nat)])
    simp only [go_sem, ↓reduceIte, Nat.reduceEqDiff, nineteen, atomB_sl O6.sl]
    exact ⟨_, _, _, _, rfl, wrap_in _, O6.ot.mat, P6.ext, by rw [O6.len]; omega, fun j => by have := O6.rows j; omega⟩
  | true =>
    simp only [go_sem, ↓reduceIte, Nat.reduceEqDiff, O3.sl, O3.slen, ixK_zero, O3.get, O3.rsl, O3.rlen, h0, O3.st]
    have P3' := P3.set (i := g 0) (by have := O3.bg 0 h0; omega) (.own (ints ((d.getD 0 []).set 0 1)))
    have R3' := R3.set (q := g 0) (by have := O3.bg 0 h0; omega) (.own (ints ((d.getD 0 []).set 0 1)))
    have O3' := O3.put 0 0 h0 h0 1
    clear O3 P3 R3
    have O3 := O3'
    have P3 := P3'
    have R3 := R3'
    clear O3' P3' R3'
    generalize List.set S3 (g 0) (Ob.own (ints ((d.getD 0 []).set 0 1))) = S3 at R3 O3 P3 ⊢
    refine callK.intro (by kernel_rfl) (pick_c _ _ P _ bv bs _ R3 (by omega) 14) ?_
    rintro _ _ ⟨⟨z1, rfl, -, -, -⟩, rfl⟩
    simp only [go_sem, ↓reduceIte, Nat.reduceEqDiff]
    have R4 := R3.step (p + 1 + 1)
    have O4 := O3.below (Nat.lt_succ_self _) (.own [bv, .int .i64 (p + 1 + 1 : Nat)])
    have P4 := P3.set (Nat.le_refl _) (.own [bv, .int .i64 (p + 1 + 1 : Nat)])
    clear O3 P3 R3
    generalize List.set S3 S.length (Ob.own [bv, .int .i64 (p + 1 + 1 : Nat)]) = S4 at R4 O4 P4 ⊢
    refine callK.intro (by kernel_rfl) (pick_c _ _ P _ bv bs _ R4 (by omega) 20) ?_
    rintro _ _ ⟨⟨z2, rfl, -, -, -⟩, rfl⟩
    simp only [go_sem, ↓reduceIte, Nat.reduceEqDiff]
    have R5 := R4.step (p + 1 + 1 + 1)
    have O5 := O4.below (Nat.lt_succ_self _) (.own [bv, .int .i64 (p + 1 + 1 + 1 : Nat)])
    have P5 := P4.set (Nat.le_refl _) (.own [bv, .int .i64 (p + 1 + 1 + 1 : Nat)])
    clear O4 P4 R4
    generalize List.set S4 S.length (Ob.own [bv, .int .i64 (p + 1 + 1 + 1 : Nat)]) = S5 at R5 O5 P5 ⊢
    simp only [go_sem, ↓reduceIte, Nat.reduceEqDiff, nineteen]
    refine callK.intro (by kernel_rfl) (pick_c _ _ P _ bv bs _ R5 (by omega) 20) ?_
    rintro _ _ ⟨⟨z3, rfl, -, -, -⟩, rfl⟩
    simp only [go_sem, ↓reduceIte, Nat.reduceEqDiff]
    have O6 := O5.below (Nat.lt_succ_self _) (.own [bv, .int .i64 (p + 1 + 1 + 1 + 1 : Nat)])
    have P6 := P5.set (Nat.le_refl _) (.own [bv, .int .i64 (p + 1 + 1 + 1 + 1 : Nat)])
    simp only [go_sem, ↓reduceIte, Nat.reduceEqDiff, nineteen, atomB_sl O6.sl]
    exact ⟨_, _, _, _, rfl, wrap_in _, O6.ot.mat, P6.ext, by rw [O6.len]; omega, fun j => by have := O6.rows j; omega⟩
end Go.Proofs.Ytodeldmkpogakaa

/- Walks: roads. -/
import Derived.Test.YticdbohhnkpelaaW13
import Derived.Test.YticdbohhnkpelaaW12
import Derived.Test.YticdbohhnkpelaaPure8
import Derived.Test.YticdbohhnkpelaaMillO
namespace Go.Proofs.Yticdbohhnkpelaa
open Go Go.Mill
set_option maxRecDepth 100000
set_option linter.unusedSimpArgs false
set_option linter.unusedVariables false

theorem roadsOf_c (S : Store) (v : Value) (r : Nat → Value) (d : List (List Int)) (hM : Mat S v r d) (hS : IsSpace d) :
    ACalls Try.prog 65 [v] S fun u S' => (∃ t g, OT S.length S' u t g (roadsT d d.length d.length)) ∧ Pre S.length S S' := by
  refine ACalls.intro (ts := [2]) 34 follows Try.func65 rfl (by kernel_rfl) (by kernel_rfl) (by simp) ?_
  have h6 := hS.1.2.1
  have hN : d.length ≤ 9223372036854775807 := by omega
  have O0 : OT S.length (S ++ [.own []]) (mk S.length 0) S.length (fun _ => 0) [] := OT.none (Nat.le_refl _)
  have P0 : Pre S.length S (S ++ [.own []]) := (Pre.refl _ _).app (Nat.le_refl _) _
  have hsl := hM.sl
  have hlen := hM.len
  simp only [go_sem, ↓reduceIte, Nat.reduceEqDiff, argEnv, hsl, hlen]
  generalize S ++ [Ob.own []] = S0 at O0 P0 ⊢
  generalize mk S.length 0 = y0 at O0 ⊢
  refine aw_count 9 [0, 8] (fun (y : Value) => [(3, y)]) (0) (d.length) (fun i y SS => Pre S.length S SS ∧ ∃ t g, OT S.length SS y t g (roadsT d d.length i)) (y0) ?_ ?_ ?_ ?_
  · simp only [go_sem, ↓reduceIte, Nat.reduceEqDiff, and_self, and_true, true_and, Int.ofNat_zero, Int.ofNat_one, Int.cast_ofNat_Int, hsl, hlen]
  · omega
  rotate_left
  rintro i y Si hi0 hi ⟨P1, t, g, O1⟩
  simp only [go_sem, ↓reduceIte, Nat.reduceEqDiff, hsl, hlen]
  refine condK_lt hi (fun hi => ?_) (fun he => ?_)
  · have hw : IntKind.i64.wrap ((i : Int) + 1) = ((i + 1 : Nat) : Int) := wrap_succ (by omega)
    simp only [go_sem, ↓reduceIte, Nat.reduceEqDiff, hw]
    refine aw_count 5 [0, 4, 8, 9] (fun (z : Value) => [(3, z)]) ((i + 1)) (d.length) (fun k z SS => Pre S.length S SS ∧ ∃ t g, OT S.length SS z t g (roadsT d d.length i ++ roadRow d i k)) (y) ?_ ?_ ?_ ?_
    · simp only [go_sem, ↓reduceIte, Nat.reduceEqDiff, and_self, and_true, true_and, Int.ofNat_zero, Int.ofNat_one, Int.cast_ofNat_Int, hsl, hlen]
    · omega
    rotate_left
    rintro k z Sk hk0 hk ⟨P2, t2, g2, O2⟩
    simp only [go_sem, ↓reduceIte, Nat.reduceEqDiff, hsl, hlen]
    refine condK_lt hk (fun hk => ?_) (fun he => ?_)
    · have M2 := hM.ext P2.ext
      have b2 := P2.len
      simp only [go_sem, ↓reduceIte, Nat.reduceEqDiff, hsl, hlen]
      refine callK.intro (by kernel_rfl) (betweenOf_c _ _ _ _ M2 hS i k hi hk) ?_
      rintro u S3 ⟨⟨t3, OL3⟩, P3⟩
      have hu := OL3.ints.sl
      have hul := OL3.ints.len
      have key : decide (((pickN (betC d i k) d.length).length : Int) = 2) = isRoad d i k := by unfold isRoad; rw [decide_eq_decide]; omega
      have O3 := O2.all P3
      have P3' := P2.trans (P3.mono b2)
      have b3 := P3.len
      simp only [go_sem, ↓reduceIte, Nat.reduceEqDiff, hu, hul, key]
      cases hr : isRoad d i k with
      | true =>
        have O4 := O3.app [.own [.int .i64 i, .int .i64 k]]
        obtain ⟨v', S', ha, hs, hpre, t', g', O5⟩ := O4.addRow (q := S3.length) (xs := [(i : Int), (k : Int)]) own_last (by omega) (by have := own_lt O3.own; omega) (fun j hj => by have := own_lt (O3.row j hj); omega)
        have ha' : app (S3 ++ [Ob.own [Value.int .i64 i, Value.int .i64 k]] ++ [Ob.own [mk S3.length 2]]) z (mk (S3 ++ [Ob.own [Value.int .i64 i, Value.int .i64 k]] : Store).length 1) = some (v', S') := ha
        have hl1 := @roadsT_len d d.length i (by omega)
        have hl2 := @roadRow_len d i k
        have hsm : (slen v' ≤ 1099511627776) = True := by
          simp only [eq_iff_iff, iff_true, hs, List.length_append]
          have : 2 * d.length * i ≤ 2 * 6 * 6 := Nat.mul_le_mul (by omega) (by omega)
          omega
        simp only [go_sem, ↓reduceIte, Nat.reduceEqDiff, ha', hsm]
        refine forK_step (v') hk hk0 ?_ ?_
        · have hib := Nat.lt_of_lt_of_le hk hN; simp only [go_sem, ↓reduceIte, Nat.reduceEqDiff, and_self, and_true, true_and, Int.ofNat_zero, Int.ofNat_one, Int.cast_ofNat_Int, wrap_succ hib]
        refine ⟨P3'.trans (((Pre.refl _ S3).app (by omega) _).trans (hpre.mono (by omega))), t', g', ?_⟩
        rw [roadRow_yes (by omega) hr, ← List.append_assoc]; exact O5
      | false =>
        simp only [go_sem, ↓reduceIte, Nat.reduceEqDiff]
        refine forK_step (z) hk hk0 ?_ ?_
        · have hib := Nat.lt_of_lt_of_le hk hN; simp only [go_sem, ↓reduceIte, Nat.reduceEqDiff, and_self, and_true, true_and, Int.ofNat_zero, Int.ofNat_one, Int.cast_ofNat_Int, wrap_succ hib]
        exact ⟨P3', t2, g2, by rw [roadRow_no (by rw [hr]; simp)]; exact O3⟩
    · have he2 := he.symm
      clear he
      subst he2
      simp only [go_sem, ↓reduceIte, Nat.reduceEqDiff]
      refine forK_step (z) hi hi0 ?_ ?_
      · have hib := Nat.lt_of_lt_of_le hi hN; simp only [go_sem, ↓reduceIte, Nat.reduceEqDiff, and_self, and_true, true_and, Int.ofNat_zero, Int.ofNat_one, Int.cast_ofNat_Int, wrap_succ hib]
      exact ⟨P2, t2, g2, O2⟩
    · exact ⟨P1, t, g, by rw [roadRow_none (Nat.le_refl _), List.append_nil]; exact O1⟩
  · have he2 := he.symm
    clear he
    subst he2
    simp only [go_sem, ↓reduceIte, Nat.reduceEqDiff]
    exact ⟨⟨t, g, O1⟩, P1⟩
  · exact ⟨P0, _, _, O0⟩

theorem iRoadsOf_c (S : Store) (v : Value) (r : Nat → Value) (d : List (List Int)) (hM : Mat S v r d) (hd : d.length ≤ maxLen) :
    ACalls Try.prog 41 [v] S fun u S' => MineT S.length S' u (roadsV d) ∧ Pre S.length S S' := by
  refine ACalls.intro (ts := [2]) 8 follows Try.func41 rfl (by kernel_rfl) (by kernel_rfl) (by simp) ?_
  simp only [go_sem, ↓reduceIte, Nat.reduceEqDiff, argEnv]
  refine callK.intro (by kernel_rfl) (isSpace_c S v r d hM hd) ?_
  rintro _ _ ⟨rfl, rfl⟩
  simp only [go_sem, ↓reduceIte, Nat.reduceEqDiff]
  cases hF : spaceB d with
  | false =>
    simp only [go_sem, ↓reduceIte, Nat.reduceEqDiff]
    exact ⟨.inl ⟨rfl, roadsV_no hF⟩, Pre.refl _ _⟩
  | true =>
    simp only [go_sem, ↓reduceIte, Nat.reduceEqDiff]
    refine callK.intro (by kernel_rfl) (roadsOf_c S v r d hM (spaceB_is hF)) ?_
    rintro y S1 ⟨⟨t, g, O1⟩, P1⟩
    simp only [go_sem, ↓reduceIte, Nat.reduceEqDiff]
    exact ⟨.inr ⟨t, g, by rw [roadsV_yes (spaceB_is hF)]; exact O1⟩, P1⟩

theorem sRoadsOf_c (S : Store) (v : Value) (r : Nat → Value) (d : List (List Int)) (hM : Mat S v r d) (hd : d.length ≤ maxLen) :
    ACalls Try.prog 40 [v] S fun u S' => MineT S.length S' u (roadsV d) ∧ Pre S.length S S' := by
  refine ACalls.intro (ts := [2]) 38 follows Try.func40 rfl (by kernel_rfl) (by kernel_rfl) (by simp) ?_
  have hN : d.length ≤ 9223372036854775807 := hd
  have O0 : OT S.length (S ++ [.own []]) (mk S.length 0) S.length (fun _ => 0) [] := OT.none (Nat.le_refl _)
  have P0 : Pre S.length S (S ++ [.own []]) := (Pre.refl _ _).app (Nat.le_refl _) _
  have hsl := hM.sl
  have hlen := hM.len
  simp only [go_sem, ↓reduceIte, Nat.reduceEqDiff, argEnv, hsl, hlen]
  generalize S ++ [Ob.own []] = S0 at O0 P0 ⊢
  generalize mk S.length 0 = y0 at O0 ⊢
  cases hF : spaceB d with
  | false =>
    refine aw_count 4 [0] (fun (y : Value) => [(3, y)]) (0) (0) (fun i y SS => S0 = SS ∧ y0 = y) (y0) ?_ ?_ ?_ ?_
    · simp only [go_sem, ↓reduceIte, Nat.reduceEqDiff, and_self, and_true, true_and, Int.ofNat_zero, Int.ofNat_one, Int.cast_ofNat_Int, hsl, hlen]
    · omega
    rotate_left
    rintro i y Si hi0 hi ⟨rfl, rfl⟩
    obtain rfl : i = 0 := by omega
    have fin : MineT S.length S0 y0 (roadsV d) ∧ Pre S.length S S0 := ⟨.inr ⟨_, _, by rw [roadsV_no hF]; exact O0⟩, P0⟩
    simp only [go_sem, ↓reduceIte, Nat.reduceEqDiff, hsl, hlen]
    refine gK_dec (fun q1 h1 => ?_) (fun q1 h1 => ?_)
    · simp only [go_sem, ↓reduceIte, Nat.reduceEqDiff, h1]
      refine callK.intro (by kernel_rfl) (sSpaceOk_c _ _ _ _ (hM.ext P0.ext) hd) ?_
      rintro _ _ ⟨rfl, rfl⟩
      simp only [go_sem, ↓reduceIte, Nat.reduceEqDiff, hF]
      exact fin
    · simp only [go_sem, ↓reduceIte, Nat.reduceEqDiff, h1]
      exact fin
    exact ⟨rfl, rfl⟩
  | true =>
    have hS := spaceB_is hF
    have h6 := hS.1.2.1
    refine aw_count 4 [0] (fun (y : Value) => [(3, y)]) (0) (d.length) (fun i y SS => Pre S.length S SS ∧ ∃ t g, OT S.length SS y t g (roadsT d d.length i)) (y0) ?_ ?_ ?_ ?_
    · simp only [go_sem, ↓reduceIte, Nat.reduceEqDiff, and_self, and_true, true_and, Int.ofNat_zero, Int.ofNat_one, Int.cast_ofNat_Int, hsl, hlen]
    · omega
    rotate_left
    rintro i y Si hi0 hi ⟨P1, t, g, O1⟩
    simp only [go_sem, ↓reduceIte, Nat.reduceEqDiff, hsl, hlen]
    refine gK_dec (fun q1 h1 => ?_) (fun q1 h1 => ?_)
    · have hi : i < d.length := by omega
      have hw : IntKind.i64.wrap ((i : Int) + 1) = ((i + 1 : Nat) : Int) := wrap_succ (by omega)
      simp only [go_sem, ↓reduceIte, Nat.reduceEqDiff, h1]
      refine callK.intro (by kernel_rfl) (sSpaceOk_c _ _ _ _ (hM.ext P1.ext) hd) ?_
      rintro _ _ ⟨rfl, rfl⟩
      simp only [go_sem, ↓reduceIte, Nat.reduceEqDiff, hF, hw]
      refine aw_count 5 [0, 4] (fun (z : Value) => [(3, z)]) ((i + 1)) (d.length) (fun k z SS => Pre S.length S SS ∧ ∃ t g, OT S.length SS z t g (roadsT d d.length i ++ roadRow d i k)) (y) ?_ ?_ ?_ ?_
      · simp only [go_sem, ↓reduceIte, Nat.reduceEqDiff, and_self, and_true, true_and, Int.ofNat_zero, Int.ofNat_one, Int.cast_ofNat_Int, hsl, hlen]
      · omega
      rotate_left
      rintro k z Sk hk0 hk ⟨P2, t2, g2, O2⟩
      simp only [go_sem, ↓reduceIte, Nat.reduceEqDiff, hsl, hlen]
      refine condK_lt hk (fun hk => ?_) (fun he => ?_)
      · have M2 := hM.ext P2.ext
        have b2 := P2.len
        simp only [go_sem, ↓reduceIte, Nat.reduceEqDiff, hsl, hlen]
        refine callK.intro (by kernel_rfl) (sBetweenOf_c _ _ _ _ M2 hd i (by omega) k (by omega)) ?_
        rintro u S3 ⟨hu3, P3⟩
        rw [betV_nat hS hi hk] at hu3
        have hu := hu3.ints.sl
        have hul := hu3.ints.len
        have key : decide (((pickN (betC d i k) d.length).length : Int) = 2) = isRoad d i k := by unfold isRoad; rw [decide_eq_decide]; omega
        have O3 := O2.all P3
        have P3' := P2.trans (P3.mono b2)
        have b3 := P3.len
        simp only [go_sem, ↓reduceIte, Nat.reduceEqDiff, hu, hul, key]
        cases hr : isRoad d i k with
        | true =>
          have O4 := O3.app [.own [.int .i64 i, .int .i64 k]]
          obtain ⟨v', S', ha, hs, hpre, t', g', O5⟩ := O4.addRow (q := S3.length) (xs := [(i : Int), (k : Int)]) own_last (by omega) (by have := own_lt O3.own; omega) (fun j hj => by have := own_lt (O3.row j hj); omega)
          have ha' : app (S3 ++ [Ob.own [Value.int .i64 i, Value.int .i64 k]] ++ [Ob.own [mk S3.length 2]]) z (mk (S3 ++ [Ob.own [Value.int .i64 i, Value.int .i64 k]] : Store).length 1) = some (v', S') := ha
          have hl1 := @roadsT_len d d.length i (by omega)
          have hl2 := @roadRow_len d i k
          have hsm : (slen v' ≤ 1099511627776) = True := by
            simp only [eq_iff_iff, iff_true, hs, List.length_append]
            have : 2 * d.length * i ≤ 2 * 6 * 6 := Nat.mul_le_mul (by omega) (by omega)
            omega
          simp only [go_sem, ↓reduceIte, Nat.reduceEqDiff, ha', hsm]
          refine forK_step (v') hk hk0 ?_ ?_
          · have hib := Nat.lt_of_lt_of_le hk hN; simp only [go_sem, ↓reduceIte, Nat.reduceEqDiff, and_self, and_true, true_and, Int.ofNat_zero, Int.ofNat_one, Int.cast_ofNat_Int, wrap_succ hib]
          refine ⟨P3'.trans (((Pre.refl _ S3).app (by omega) _).trans (hpre.mono (by omega))), t', g', ?_⟩
          rw [roadRow_yes (by omega) hr, ← List.append_assoc]; exact O5
        | false =>
          simp only [go_sem, ↓reduceIte, Nat.reduceEqDiff]
          refine forK_step (z) hk hk0 ?_ ?_
          · have hib := Nat.lt_of_lt_of_le hk hN; simp only [go_sem, ↓reduceIte, Nat.reduceEqDiff, and_self, and_true, true_and, Int.ofNat_zero, Int.ofNat_one, Int.cast_ofNat_Int, wrap_succ hib]
          exact ⟨P3', t2, g2, by rw [roadRow_no (by rw [hr]; simp)]; exact O3⟩
      · have he2 := he.symm
        clear he
        subst he2
        simp only [go_sem, ↓reduceIte, Nat.reduceEqDiff]
        refine forK_step (z) hi hi0 ?_ ?_
        · have hib := Nat.lt_of_lt_of_le hi hN; simp only [go_sem, ↓reduceIte, Nat.reduceEqDiff, and_self, and_true, true_and, Int.ofNat_zero, Int.ofNat_one, Int.cast_ofNat_Int, wrap_succ hib]
        exact ⟨P2, t2, g2, O2⟩
      · exact ⟨P1, t, g, by rw [roadRow_none (Nat.le_refl _), List.append_nil]; exact O1⟩
    · have he2 : d.length = i := by omega
      simp only [go_sem, ↓reduceIte, Nat.reduceEqDiff, h1]
      exact ⟨.inr ⟨t, g, by rw [roadsV_yes hS]; rw [← he2] at O1; exact O1⟩, P1⟩
    exact ⟨P0, _, _, O0⟩

theorem iRoadsAlone_c (S : Store) (v : Value) (r : Nat → Value) (d : List (List Int)) (hM : Mat S v r d) (hd : d.length ≤ maxLen) :
    ACalls Try.prog 45 [v] S fun u S' => MineT S.length S' u (aloneV d) ∧ Pre S.length S S' := by
  refine ACalls.intro (ts := [2]) 41 follows Try.func45 rfl (by kernel_rfl) (by kernel_rfl) (by simp) ?_
  simp only [go_sem, ↓reduceIte, Nat.reduceEqDiff, argEnv]
  refine callK.intro (by kernel_rfl) (isSpace_c S v r d hM hd) ?_
  rintro _ _ ⟨rfl, rfl⟩
  simp only [go_sem, ↓reduceIte, Nat.reduceEqDiff]
  cases hF : spaceB d with
  | false =>
    simp only [go_sem, ↓reduceIte, Nat.reduceEqDiff]
    exact ⟨.inl ⟨rfl, aloneV_no hF⟩, Pre.refl _ _⟩
  | true =>
    have hS := spaceB_is hF
    have h6 := hS.1.2.1
    simp only [go_sem, ↓reduceIte, Nat.reduceEqDiff]
    refine callK.intro (by kernel_rfl) (copyRows_c S v r d hM (by omega) (fun j => by
      rcases Nat.lt_or_ge j d.length with h | h
      · rw [hS.1.sq j h]; omega
      · simp [List.getElem?_eq_none h])) ?_
    rintro y S1 ⟨⟨t, g, O1⟩, P1⟩
    have O2 : OS S.length S1 y t g d d.length := ⟨O1, rfl, hS.1.sq⟩
    have hN : d.length ≤ 9223372036854775807 := by omega
    obtain ⟨n, hn⟩ : ∃ n, n = d.length := ⟨_, rfl⟩
    rw [← hn] at O2 hN
    have hsl := O2.sl
    have hlen := O2.slen
    have a0 : ∀ i k, aloneAt d i k = if i = k ∨ isRoad d i k = true then at2 d i k else 60 := fun _ _ => rfl
    simp only [go_sem, ↓reduceIte, Nat.reduceEqDiff, hsl, hlen]
    refine aw_count 14 [0, 3, 12, 13] (fun (z : Unit) => []) (0) (n) (fun i z SS => Pre S.length S SS ∧ ∃ e, OS S.length SS y t g e n ∧ ∀ a b, a < n → b < n → at2 e a b = if a < i then aloneAt d a b else at2 d a b) (()) ?_ ?_ ?_ ?_
    · simp only [go_sem, ↓reduceIte, Nat.reduceEqDiff, and_self, and_true, true_and, Int.ofNat_zero, Int.ofNat_one, Int.cast_ofNat_Int, hsl, hlen]
    · omega
    rotate_left
    rintro i z Si hi0 hi ⟨P2, e, O3, hE⟩
    simp only [go_sem, ↓reduceIte, Nat.reduceEqDiff, hsl, hlen]
    refine condK_lt hi (fun hi => ?_) (fun he => ?_)
    · have hrl := O3.rlen
      have hrow : orow g e i = mk (g i) n := by unfold orow; rw [O3.sq i hi]
      have hrow2 : ∀ (e' : List (List Int)), (e'.getD i []).length = n → orow g e' i = mk (g i) n := fun e' he' => by unfold orow; rw [he']
      simp only [go_sem, ↓reduceIte, Nat.reduceEqDiff, hsl, hlen, hi, O3.get, hrow]
      refine aw_count 21 [0, 3, 4, 5, 12, 13, 14, 20] (fun (z2 : Unit) => []) (0) (n) (fun k z2 SS => Pre S.length S SS ∧ ∃ e, OS S.length SS y t g e n ∧ ∀ a b, a < n → b < n → at2 e a b = if a < i ∨ (a = i ∧ b < k) then aloneAt d a b else at2 d a b) (()) ?_ ?_ ?_ ?_
      · simp only [go_sem, ↓reduceIte, Nat.reduceEqDiff, and_self, and_true, true_and, Int.ofNat_zero, Int.ofNat_one, Int.cast_ofNat_Int, hsl, hlen]
      · omega
      rotate_left
      rintro k z2 Sk hk0 hk ⟨P3, e3, O4, hE3⟩
      simp only [go_sem, ↓reduceIte, Nat.reduceEqDiff, hsl, hlen]
      refine condK_lt hk (fun hk => ?_) (fun he => ?_)
      · have M4 := hM.ext P3.ext
        have b4 := P3.len
        have stay : (i = k ∨ isRoad d i k = true) → ∀ (e' : List (List Int)), (∀ a b, a < n → b < n → at2 e' a b = at2 e3 a b) → ∀ a b, a < n → b < n → at2 e' a b = if a < i ∨ (a = i ∧ b < k + 1) then aloneAt d a b else at2 d a b := fun hc e' he' a b ha hb => by
          rw [he' a b ha hb, hE3 a b ha hb]
          by_cases h1 : a = i ∧ b = k
          · obtain ⟨rfl, rfl⟩ := h1
            rw [if_neg (by omega), if_pos (by omega), a0, if_pos hc]
          · by_cases h2 : a < i ∨ (a = i ∧ b < k)
            · rw [if_pos h2, if_pos (by omega)]
            · rw [if_neg h2, if_neg (by omega)]
        have hne : decide (¬ ((i : Nat) : Int) = ((k : Nat) : Int)) = decide (¬ i = k) := by rw [decide_eq_decide]; omega
        simp only [go_sem, ↓reduceIte, Nat.reduceEqDiff, hne]
        refine gK_dec (fun q1 h1 => ?_) (fun q1 h1 => ?_)
        · simp only [go_sem, ↓reduceIte, Nat.reduceEqDiff, h1]
          refine callK.intro (by kernel_rfl) (betweenOf_c _ _ _ _ M4 hS i k (by omega) (by omega)) ?_
          rintro u S5 ⟨⟨t5, OL5⟩, P5⟩
          have hu := OL5.ints.sl
          have hul := OL5.ints.len
          have two := bet_two hS (i := i) (k := k) (by omega) (by omega) q1
          have key : decide (2 < ((pickN (betC d i k) d.length).length : Int)) = !isRoad d i k := by
            unfold isRoad; rw [← decide_not, decide_eq_decide]; omega
          have O5 : OS S.length S5 y t g e3 n := ⟨O4.ot.all P5, O4.len, O4.sq⟩
          have P5' := P3.trans (P5.mono b4)
          simp only [go_sem, ↓reduceIte, Nat.reduceEqDiff, hu, hul, key]
          cases hr : isRoad d i k with
          | true =>
            simp only [go_sem, ↓reduceIte, Nat.reduceEqDiff]
            refine forK_step (()) hk hk0 ?_ ?_
            · have hib := Nat.lt_of_lt_of_le hk hN; simp only [go_sem, ↓reduceIte, Nat.reduceEqDiff, and_self, and_true, true_and, Int.ofNat_zero, Int.ofNat_one, Int.cast_ofNat_Int, wrap_succ hib]
            exact ⟨P5', e3, O5, stay (.inr hr) e3 (fun _ _ _ _ => rfl)⟩
          | false =>
            have hst := O5.st i k hi hk 60
            rw [hrow2 e3 (O5.sq i hi)] at hst
            simp only [go_sem, ↓reduceIte, Nat.reduceEqDiff, slen_mk, isSl_mk, hk, hst]
            refine forK_step (()) hk hk0 ?_ ?_
            · have hib := Nat.lt_of_lt_of_le hk hN; simp only [go_sem, ↓reduceIte, Nat.reduceEqDiff, and_self, and_true, true_and, Int.ofNat_zero, Int.ofNat_one, Int.cast_ofNat_Int, wrap_succ hib]
            refine ⟨P5'.set (O5.bg i hi) _, _, O5.put i k hi hk 60, fun a b ha hb => ?_⟩
            rw [put2_at (by rw [O5.len]; exact hi) (by rw [O5.sq i hi]; exact hk), hE3 a b ha hb]
            by_cases h2 : a = i ∧ b = k
            · obtain ⟨rfl, rfl⟩ := h2
              rw [if_pos ⟨rfl, rfl⟩, if_pos (by omega), a0, if_neg (by rw [hr]; simp; exact q1)]
            · rw [if_neg h2]
              by_cases h3 : a < i ∨ (a = i ∧ b < k)
              · rw [if_pos h3, if_pos (by omega)]
              · rw [if_neg h3, if_neg (by omega)]
        · simp only [go_sem, ↓reduceIte, Nat.reduceEqDiff, h1]
          refine forK_step (()) hk hk0 ?_ ?_
          · have hib := Nat.lt_of_lt_of_le hk hN; simp only [go_sem, ↓reduceIte, Nat.reduceEqDiff, and_self, and_true, true_and, Int.ofNat_zero, Int.ofNat_one, Int.cast_ofNat_Int, wrap_succ hib]
          exact ⟨P3, e3, O4, stay (.inl (by omega)) e3 (fun _ _ _ _ => rfl)⟩
      · have he2 := he.symm
        clear he
        subst he2
        simp only [go_sem, ↓reduceIte, Nat.reduceEqDiff]
        refine forK_step (()) hi hi0 ?_ ?_
        · have hib := Nat.lt_of_lt_of_le hi hN; simp only [go_sem, ↓reduceIte, Nat.reduceEqDiff, and_self, and_true, true_and, Int.ofNat_zero, Int.ofNat_one, Int.cast_ofNat_Int, wrap_succ hib]
        refine ⟨P3, e3, O4, fun a b ha hb => ?_⟩
        rw [hE3 a b ha hb]
        by_cases h2 : a < i + 1
        · rw [if_pos h2, if_pos (by omega)]
        · rw [if_neg h2, if_neg (by omega)]
      · exact ⟨P2, e, O3, fun a b ha hb => by rw [hE a b ha hb]; by_cases h2 : a < i <;> simp [h2]⟩
    · have he2 := he.symm
      clear he
      subst he2
      simp only [go_sem, ↓reduceIte, Nat.reduceEqDiff]
      have e1 : e = aloneT d d.length := by
        refine at2_ext (by rw [O3.len, aloneT_len, hn]) (fun i hi => ?_) fun a b ha hb => ?_
        · rw [aloneT_len] at hi
          rw [O3.sq i (by omega), aloneT_row hi, aloneRow_len, hn]
        · rw [aloneT_len] at ha
          rw [aloneT_row ha, aloneRow_len] at hb
          rw [hE a b (by omega) (by omega), if_pos (by omega), aloneT_at ha hb]
      exact ⟨.inr ⟨t, g, by rw [aloneV_yes hS, ← e1]; exact O3.ot⟩, P2⟩
    · exact ⟨P1, d, O2, fun a b ha hb => by rw [if_neg (Nat.not_lt_zero _)]⟩

theorem sRoadsAlone_c (S : Store) (v : Value) (r : Nat → Value) (d : List (List Int)) (hM : Mat S v r d) (hd : d.length ≤ maxLen) :
    ACalls Try.prog 44 [v] S fun u S' => MineT S.length S' u (aloneV d) ∧ Pre S.length S S' := by
  refine ACalls.intro (ts := [2]) 54 follows Try.func44 rfl (by kernel_rfl) (by kernel_rfl) (by simp) ?_
  have hN : d.length ≤ 9223372036854775807 := hd
  have O0 : OT S.length (S ++ [.own []]) (mk S.length 0) S.length (fun _ => 0) [] := OT.none (Nat.le_refl _)
  have P0 : Pre S.length S (S ++ [.own []]) := (Pre.refl _ _).app (Nat.le_refl _) _
  have hsl := hM.sl
  have hlen := hM.len
  simp only [go_sem, ↓reduceIte, Nat.reduceEqDiff, argEnv, hsl, hlen]
  refine callK.intro (by kernel_rfl) (sSpaceOk_c S v r d hM hd) ?_
  rintro _ _ ⟨rfl, rfl⟩
  simp only [go_sem, ↓reduceIte, Nat.reduceEqDiff]
  cases hF : spaceB d with
  | false =>
    simp only [go_sem, ↓reduceIte, Nat.reduceEqDiff]
    exact ⟨.inr ⟨_, _, by rw [aloneV_no hF]; exact O0⟩, P0⟩
  | true =>
    have hS := spaceB_is hF
    have h6 := hS.1.2.1
    simp only [go_sem, ↓reduceIte, Nat.reduceEqDiff]
    generalize S ++ [Ob.own []] = S0 at O0 P0 ⊢
    generalize mk S.length 0 = y0 at O0 ⊢
    refine aw_count 4 [0] (fun (y : Value) => [(3, y)]) (0) (d.length) (fun i y SS => Pre S.length S SS ∧ ∃ t g, OT S.length SS y t g (aloneT d i)) (y0) ?_ ?_ ?_ ?_
    · simp only [go_sem, ↓reduceIte, Nat.reduceEqDiff, and_self, and_true, true_and, Int.ofNat_zero, Int.ofNat_one, Int.cast_ofNat_Int, hsl, hlen]
    · omega
    rotate_left
    rintro i y Si hi0 hi ⟨P1, t, g, O1⟩
    simp only [go_sem, ↓reduceIte, Nat.reduceEqDiff, hsl, hlen]
    refine condK_lt hi (fun hi => ?_) (fun he => ?_)
    · have OL1 : OL Si.length (Si ++ [.own []]) (mk Si.length 0) Si.length [] := OL.none (Nat.le_refl _)
      have L1 := LX.start OL1
      have b1 := P1.len
      have hl1 : (Si ++ [Ob.own []] : Store).length = Si.length + 1 := by simp
      have PS : Pre Si.length Si (Si ++ [.own []]) := (Pre.refl _ _).app (Nat.le_refl _) _
      simp only [go_sem, ↓reduceIte, Nat.reduceEqDiff]
      generalize mk Si.length 0 = z0 at OL1 L1 ⊢
      generalize Si ++ [Ob.own []] = S1 at OL1 L1 hl1 PS ⊢
      refine aw_count 6 [0, 3, 4] (fun (z : Value) => [(5, z)]) (0) (d.length) (fun k z SS => LX Si.length S1 SS z (aloneRow d i k)) (z0) ?_ ?_ ?_ ?_
      · simp only [go_sem, ↓reduceIte, Nat.reduceEqDiff, and_self, and_true, true_and, Int.ofNat_zero, Int.ofNat_one, Int.cast_ofNat_Int, hsl, hlen]
      · omega
      rotate_left
      rintro k z Sk hk0 hk L2
      simp only [go_sem, ↓reduceIte, Nat.reduceEqDiff, hsl, hlen]
      refine condK_lt hk (fun hk => ?_) (fun he => ?_)
      · have P2 := PS.trans (L2.aside.toPre (by omega))
        have M2 := (hM.ext P1.ext).ext P2.ext
        have hrl := M2.sqlen hS.1.sq
        have hcl := M2.sqcell hS.1.sq
        have heq : decide (((i : Nat) : Int) = ((k : Nat) : Int)) = decide (i = k) := by rw [decide_eq_decide]; omega
        have step : ∀ (S5 : Store), LX Si.length S1 S5 z (aloneRow d i k) → ∀ x, x = aloneAt d i k → ∃ v' S', app (S5 ++ [.own [.int .i64 x]]) z (mk S5.length 1) = some (v', S') ∧ (slen v' ≤ 1099511627776) = True ∧ LX Si.length S1 S' v' (aloneRow d i (k + 1)) := fun S5 L5 x hx => by
          obtain ⟨v', S', ha, hs, L6⟩ := L5.add x
          refine ⟨v', S', ha, ?_, by rw [aloneRow_succ, ← hx]; exact L6⟩
          simp only [eq_iff_iff, iff_true, hs, aloneRow_len]; omega
        simp only [go_sem, ↓reduceIte, Nat.reduceEqDiff, heq]
        refine gK_dec (fun q1 h1 => ?_) (fun q1 h1 => ?_)
        · obtain ⟨v', S', ha, hsm, L6⟩ := step _ L2 (at2 d i k) (by unfold aloneAt; rw [if_pos (.inl q1)])
          simp only [go_sem, ↓reduceIte, Nat.reduceEqDiff, h1, hsl, hlen, hi, hk, M2.get, M2.rsl, hrl, hcl, ha, hsm]
          refine forK_step (v') hk hk0 ?_ ?_
          · have hib := Nat.lt_of_lt_of_le hk hN; simp only [go_sem, ↓reduceIte, Nat.reduceEqDiff, and_self, and_true, true_and, Int.ofNat_zero, Int.ofNat_one, Int.cast_ofNat_Int, wrap_succ hib]
          exact L6
        · simp only [go_sem, ↓reduceIte, Nat.reduceEqDiff, h1]
          refine callK.intro (by kernel_rfl) (sBetweenOf_c _ _ _ _ M2 hd i (by omega) k (by omega)) ?_
          rintro u S3 ⟨hu3, P3⟩
          rw [betV_nat hS hi hk] at hu3
          have hu := hu3.ints.sl
          have hul := hu3.ints.len
          have key : decide (((pickN (betC d i k) d.length).length : Int) = 2) = isRoad d i k := by unfold isRoad; rw [decide_eq_decide]; omega
          have L3 := L2.same P3
          have M3 := M2.ext P3.ext
          have hrl := M3.sqlen hS.1.sq
          have hcl := M3.sqcell hS.1.sq
          simp only [go_sem, ↓reduceIte, Nat.reduceEqDiff, hu, hul, key]
          cases hr : isRoad d i k with
          | true =>
            obtain ⟨v', S', ha, hsm, L6⟩ := step _ L3 (at2 d i k) (by unfold aloneAt; rw [if_pos (.inr hr)])
            simp only [go_sem, ↓reduceIte, Nat.reduceEqDiff, hsl, hlen, hi, hk, M3.get, M3.rsl, hrl, hcl, ha, hsm]
            refine forK_step (v') hk hk0 ?_ ?_
            · have hib := Nat.lt_of_lt_of_le hk hN; simp only [go_sem, ↓reduceIte, Nat.reduceEqDiff, and_self, and_true, true_and, Int.ofNat_zero, Int.ofNat_one, Int.cast_ofNat_Int, wrap_succ hib]
            exact L6
          | false =>
            obtain ⟨v', S', ha, hsm, L6⟩ := step _ L3 60 (by unfold aloneAt; rw [if_neg (by rw [hr]; simp; exact q1)])
            simp only [go_sem, ↓reduceIte, Nat.reduceEqDiff, ha, hsm]
            refine forK_step (v') hk hk0 ?_ ?_
            · have hib := Nat.lt_of_lt_of_le hk hN; simp only [go_sem, ↓reduceIte, Nat.reduceEqDiff, and_self, and_true, true_and, Int.ofNat_zero, Int.ofNat_one, Int.cast_ofNat_Int, wrap_succ hib]
            exact L6
      · have he2 := he.symm
        clear he
        have P2 := PS.trans (L2.aside.toPre (by omega))
        obtain ⟨t3, OL3⟩ := L2.ol
        have O3 := O1.all P2
        have b3 := OL3.bt
        rw [← he2] at OL3
        obtain ⟨v', S', ha, hs, hpre, t', g', O5⟩ := O3.addRow OL3.own (by omega) (by have := own_lt O1.own; omega) (fun j hj => by have := own_lt (O1.row j hj); omega)
        rw [← OL3.top] at ha
        have hat : atomB z = true := by rw [OL3.top]; rfl
        have hsm : (slen v' ≤ 1099511627776) = True := by simp only [eq_iff_iff, iff_true, hs, aloneT_len]; omega
        simp only [go_sem, ↓reduceIte, Nat.reduceEqDiff, ha, hsm, hat]
        refine forK_step (v') hi hi0 ?_ ?_
        · have hib := Nat.lt_of_lt_of_le hi hN; simp only [go_sem, ↓reduceIte, Nat.reduceEqDiff, and_self, and_true, true_and, Int.ofNat_zero, Int.ofNat_one, Int.cast_ofNat_Int, wrap_succ hib]
        exact ⟨P1.trans ((P2.mono b1).trans hpre), t', g', by rw [aloneT_succ]; exact O5⟩
      · exact L1
    · have he2 := he.symm
      clear he
      simp only [go_sem, ↓reduceIte, Nat.reduceEqDiff]
      exact ⟨.inr ⟨t, g, by rw [aloneV_yes hS]; rw [← he2] at O1; exact O1⟩, P1⟩
    · exact ⟨P0, _, _, O0⟩
end Go.Proofs.Yticdbohhnkpelaa

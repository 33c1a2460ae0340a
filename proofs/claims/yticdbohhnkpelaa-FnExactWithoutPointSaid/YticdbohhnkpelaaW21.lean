/- Walks: a point is left out. -/
import Derived.Test.YticdbohhnkpelaaW3
import Derived.Test.YticdbohhnkpelaaW10
import Derived.Test.YticdbohhnkpelaaSD
import Derived.Test.YticdbohhnkpelaaPure9
import Derived.Test.YticdbohhnkpelaaPure5
import Derived.Test.YticdbohhnkpelaaMillO
namespace Go.Proofs.Yticdbohhnkpelaa
open Go Go.Mill
set_option maxRecDepth 100000
set_option linter.unusedSimpArgs false
set_option linter.unusedVariables false

theorem iWithoutPoint_c (S : Store) (v : Value) (r : Nat → Value) (d : List (List Int)) (hM : Mat S v r d) (hd : d.length ≤ maxLen) (x : Int) (hx : -9223372036854775808 ≤ x ∧ x ≤ 9223372036854775807) :
    ACalls Try.prog 39 [v, .int .i64 x] S fun u S' => (∃ w, u = .tuple #[w, .bool (dropB d x)] ∧ MineT S.length S' w (dropV d x)) ∧ Pre S.length S S' := by
  refine ACalls.intro (ts := [4, 5]) 41 follows Try.func39 rfl (by kernel_rfl) (by kernel_rfl) (by simp) ?_
  have hsl := hM.sl
  have hlen := hM.len
  simp only [go_sem, ↓reduceIte, Nat.reduceEqDiff, argEnv]
  refine callK.intro (by kernel_rfl) (hasPoint_c S v r d hM hd x hx) ?_
  rintro _ _ ⟨rfl, rfl⟩
  simp only [go_sem, ↓reduceIte, Nat.reduceEqDiff]
  cases hP : hasB d x with
  | false =>
    have hB : dropB d x = false := dropB_no fun h => hasB_not hP h.1
    simp only [go_sem, ↓reduceIte, Nat.reduceEqDiff]
    exact ⟨⟨_, by rw [hB], .inl ⟨rfl, dropV_no hB⟩⟩, Pre.refl _ _⟩
  | true =>
    simp only [go_sem, ↓reduceIte, Nat.reduceEqDiff, hsl, hlen]
    refine condK_dec (fun q1 h1 => ?_) (fun q1 h1 => ?_)
    · have hB : dropB d x = false := dropB_no fun h => by omega
      simp only [go_sem, ↓reduceIte, Nat.reduceEqDiff, h1]
      exact ⟨⟨_, by rw [hB], .inl ⟨rfl, dropV_no hB⟩⟩, Pre.refl _ _⟩
    have hH := hasB_is hP
    obtain ⟨p, rfl⟩ := Int.eq_ofNat_of_zero_le hH.2.1
    have hp : p < d.length := by have := hH.2.2; omega
    have hS := hH.1
    have h6 := hS.1.2.1
    have h2 : 2 ≤ d.length := by omega
    have hB : dropB d p = true := dropB_iff.2 ⟨hH, h2⟩
    have hN : d.length ≤ 9223372036854775807 := by omega
    have O0 : OT S.length (S ++ [.own []]) (mk S.length 0) S.length (fun _ => 0) [] := OT.none (Nat.le_refl _)
    have P0 : Pre S.length S (S ++ [.own []]) := (Pre.refl _ _).app (Nat.le_refl _) _
    have hw : IntKind.i64.wrap ((p : Int) + 1) = ((p + 1 : Nat) : Int) := wrap_succ (by omega)
    simp only [go_sem, ↓reduceIte, Nat.reduceEqDiff, h1, hsl, hlen]
    generalize S ++ [Ob.own []] = S0 at O0 P0 ⊢
    generalize mk S.length 0 = y0 at O0 ⊢
    refine aw_count 21 [1, 19, 20] (fun (y : Value) => [(6, y)]) (0) (d.length) (fun k y SS => Pre S.length S SS ∧ ∃ t g, OT S.length SS y t g (dropR d p k)) (y0) ?_ ?_ ?_ ?_
    · simp only [go_sem, ↓reduceIte, Nat.reduceEqDiff, and_self, and_true, true_and, Int.ofNat_zero, Int.ofNat_one, Int.cast_ofNat_Int, hsl, hlen]
    · omega
    rotate_left
    rintro k y Sk hk0 hk ⟨P1, t, g, O1⟩
    simp only [go_sem, ↓reduceIte, Nat.reduceEqDiff, hsl, hlen]
    refine condK_lt hk (fun hk => ?_) (fun he => ?_)
    · have M1 := hM.ext P1.ext
      have b1 := P1.len
      simp only [go_sem, ↓reduceIte, Nat.reduceEqDiff, hsl, hlen, hk, M1.get]
      refine condK_dec (fun q2 h3 => ?_) (fun q2 h3 => ?_)
      · have M2 := M1.ext (Ext.append Sk [.own []])
        have hrow := hS.1.sq k hk
        obtain ⟨v', S', ha, hs, hpre, t', ht', OL1⟩ := ol_copy (M1.row k hk)
        have hsm : (slen v' ≤ 1099511627776) = True := by simp only [eq_iff_iff, iff_true, hs]; omega
        have e1 := OL1.top
        subst e1
        have hsm' : ((d.getD k []).length ≤ 1099511627776) = True := by simp only [eq_iff_iff, iff_true]; omega
        simp only [go_sem, ↓reduceIte, Nat.reduceEqDiff, h3, hsl, hlen, hk, M1.get, M2.get, ha, hsm', hw, andK_true]
        refine callK.intro (by kernel_rfl) (Delete_c S' t' _ OL1.own p (by omega)) ?_
        rintro _ _ ⟨rfl, rfl⟩
        have hpre2 := hpre.set ht' (.own (ints ((d.getD k []).eraseIdx p)))
        have hown : (S'.set t' (.own (ints ((d.getD k []).eraseIdx p))))[t']? = some (.own (ints ((d.getD k []).eraseIdx p))) := own_set (own_lt OL1.own)
        have hel : ((d.getD k []).eraseIdx p).length = (d.getD k []).length - 1 := by rw [List.length_eraseIdx, if_pos (by omega)]
        generalize S'.set t' (.own (ints ((d.getD k []).eraseIdx p))) = S2 at hpre2 hown ⊢
        have O2 := O1.all hpre2
        obtain ⟨v2, S3, ha2, hs2, hpre3, t2, g2, O3⟩ := O2.addRow hown (by omega) (by have := own_lt O1.own; omega) (fun i hi => by have := own_lt (O1.row i hi); omega)
        rw [hel] at ha2
        have hdl := @dropR_len d p k
        have hsm2 : (slen v2 ≤ 1099511627776) = True := by simp only [eq_iff_iff, iff_true, hs2]; omega
        simp only [go_sem, ↓reduceIte, Nat.reduceEqDiff, ha2, hsm2]
        refine forK_step (v2) hk hk0 ?_ ?_
        · have hib := Nat.lt_of_lt_of_le hk hN; simp only [go_sem, ↓reduceIte, Nat.reduceEqDiff, and_self, and_true, true_and, Int.ofNat_zero, Int.ofNat_one, Int.cast_ofNat_Int, wrap_succ hib]
        refine ⟨P1.trans ((hpre2.mono b1).trans hpre3), t2, g2, ?_⟩
        rw [dropR_succ hk, if_neg (by omega)]; exact O3
      · simp only [go_sem, ↓reduceIte, Nat.reduceEqDiff, h3]
        refine forK_step (y) hk hk0 ?_ ?_
        · have hib := Nat.lt_of_lt_of_le hk hN; simp only [go_sem, ↓reduceIte, Nat.reduceEqDiff, and_self, and_true, true_and, Int.ofNat_zero, Int.ofNat_one, Int.cast_ofNat_Int, wrap_succ hib]
        exact ⟨P1, t, g, by rw [dropR_succ hk, if_pos (by omega)]; exact O1⟩
    · have he2 := he.symm
      clear he
      have hat : atomB y = true := by rw [O1.top]; rfl
      simp only [go_sem, ↓reduceIte, Nat.reduceEqDiff, hat]
      refine ⟨⟨_, by rw [hB], .inr ⟨t, g, ?_⟩⟩, P1⟩
      rw [← he2, dropR_all] at O1
      rw [dropV_nat hS hp h2]; exact O1
    · exact ⟨P0, _, _, by rw [dropR_zero]; exact O0⟩

theorem sWithoutPoint_c (S : Store) (v : Value) (r : Nat → Value) (d : List (List Int)) (hM : Mat S v r d) (hd : d.length ≤ maxLen) (x : Int) (hx : -9223372036854775808 ≤ x ∧ x ≤ 9223372036854775807) :
    ACalls Try.prog 38 [v, .int .i64 x] S fun u S' => (∃ w, u = .tuple #[w, .bool (dropB d x)] ∧ MineT S.length S' w (dropV d x)) ∧ Pre S.length S S' := by
  refine ACalls.intro (ts := [4, 5]) 62 follows Try.func38 rfl (by kernel_rfl) (by kernel_rfl) (by simp) ?_
  have hN : d.length ≤ 9223372036854775807 := hd
  have hw : IntKind.i64.wrap ((d.length : Int) - 1) = d.length - 1 := wrap64 (by omega)
  have M0 := hM.ext (Ext.append S [.own []])
  have O0 : OT S.length (S ++ [.own []]) (mk S.length 0) S.length (fun _ => 0) [] := OT.none (Nat.le_refl _)
  have P0 : Pre S.length S (S ++ [.own []]) := (Pre.refl _ _).app (Nat.le_refl _) _
  simp only [go_sem, ↓reduceIte, Nat.reduceEqDiff, argEnv]
  refine callK.intro (by kernel_rfl) (sSpaceOk_c _ v r d M0 hd) ?_
  rintro _ _ ⟨rfl, rfl⟩
  simp only [go_sem, ↓reduceIte, Nat.reduceEqDiff]
  have h0a : atomB (mk S.length 0) = true := rfl
  generalize S ++ [Ob.own []] = S0 at M0 O0 P0 ⊢
  generalize mk S.length 0 = y0 at O0 h0a ⊢
  have no : dropB d x = false → ∀ u, u = Value.tuple #[y0, .bool false] → (∃ w, u = .tuple #[w, .bool (dropB d x)] ∧ MineT S.length S0 w (dropV d x)) ∧ Pre S.length S S0 := fun hB u hu => ⟨⟨y0, by rw [hB]; exact hu, .inr ⟨_, _, by rw [dropV_no hB]; exact O0⟩⟩, P0⟩
  cases hF : spaceB d with
  | false =>
    simp only [go_sem, ↓reduceIte, Nat.reduceEqDiff, h0a]
    exact no (dropB_no fun h => spaceB_not hF h.1.1) _ rfl
  | true =>
    have hS := spaceB_is hF
    have h6 := hS.1.2.1
    simp only [go_sem, ↓reduceIte, Nat.reduceEqDiff, M0.sl, M0.len]
    refine gK_dec (fun q1 h1 => ?_) (fun q1 h1 => ?_)
    · simp only [go_sem, ↓reduceIte, Nat.reduceEqDiff, h1, h0a]
      exact no (dropB_no fun h => by omega) _ rfl
    simp only [go_sem, ↓reduceIte, Nat.reduceEqDiff, h1, M0.sl, M0.len, hw]
    refine callK.intro (by kernel_rfl) (l1In_c _ _ _ _) ?_
    rintro _ _ ⟨rfl, rfl⟩
    simp only [go_sem, ↓reduceIte, Nat.reduceEqDiff]
    refine condK_dec (fun q2 h2 => ?_) (fun q2 h2 => ?_)
    · simp only [go_sem, ↓reduceIte, Nat.reduceEqDiff, h2, h0a]
      exact no (dropB_no fun h => by have := h.1.2; omega) _ rfl
    obtain ⟨p, rfl⟩ := Int.eq_ofNat_of_zero_le (show 0 ≤ x by omega)
    have hp : p < d.length := by omega
    have hl2 : 2 ≤ d.length := by omega
    have hB : dropB d p = true := dropB_iff.2 ⟨⟨hS, by omega, by omega⟩, hl2⟩
    have hsl := hM.sl
    have hlen := hM.len
    simp only [go_sem, ↓reduceIte, Nat.reduceEqDiff, h2]
    refine aw_count 7 [0, 1] (fun (y : Value) => [(6, y)]) (0) (d.length) (fun i y SS => Pre S.length S SS ∧ ∃ t g, OT S.length SS y t g (dropR d p i)) (y0) ?_ ?_ ?_ ?_
    · simp only [go_sem, ↓reduceIte, Nat.reduceEqDiff, and_self, and_true, true_and, Int.ofNat_zero, Int.ofNat_one, Int.cast_ofNat_Int, hsl, hlen]
    · omega
    rotate_left
    rintro i y Si hi0 hi ⟨P1, t, g, O1⟩
    simp only [go_sem, ↓reduceIte, Nat.reduceEqDiff, hsl, hlen]
    refine condK_lt hi (fun hi => ?_) (fun he => ?_)
    · simp only [go_sem, ↓reduceIte, Nat.reduceEqDiff]
      refine condK_dec (fun q3 h3 => ?_) (fun q3 h3 => ?_)
      · simp only [go_sem, ↓reduceIte, Nat.reduceEqDiff, h3]
        refine forK_step (y) hi hi0 ?_ ?_
        · have hib := Nat.lt_of_lt_of_le hi hN; simp only [go_sem, ↓reduceIte, Nat.reduceEqDiff, and_self, and_true, true_and, Int.ofNat_zero, Int.ofNat_one, Int.cast_ofNat_Int, wrap_succ hib]
        exact ⟨P1, t, g, by rw [dropR_succ hi, if_pos (by omega)]; exact O1⟩
      have OL1 : OL Si.length (Si ++ [.own []]) (mk Si.length 0) Si.length [] := OL.none (Nat.le_refl _)
      have L1 := LX.start OL1
      have b1 := P1.len
      have hl1 : (Si ++ [Ob.own []] : Store).length = Si.length + 1 := by simp
      have PS : Pre Si.length Si (Si ++ [.own []]) := (Pre.refl _ _).app (Nat.le_refl _) _
      have hrow := hS.1.sq i hi
      simp only [go_sem, ↓reduceIte, Nat.reduceEqDiff, h3]
      generalize mk Si.length 0 = z0 at OL1 L1 ⊢
      generalize Si ++ [Ob.own []] = S1 at OL1 L1 hl1 PS ⊢
      refine aw_count 9 [0, 1, 6, 7] (fun (z : Value) => [(8, z)]) (0) (d.length) (fun k z SS => LX Si.length S1 SS z (((d.getD i []).take k).eraseIdx p)) (z0) ?_ ?_ ?_ ?_
      · simp only [go_sem, ↓reduceIte, Nat.reduceEqDiff, and_self, and_true, true_and, Int.ofNat_zero, Int.ofNat_one, Int.cast_ofNat_Int, hsl, hlen]
      · omega
      rotate_left
      rintro k z Sk hk0 hk L2
      simp only [go_sem, ↓reduceIte, Nat.reduceEqDiff, hsl, hlen]
      refine condK_lt hk (fun hk => ?_) (fun he => ?_)
      · have P2 := PS.trans (L2.aside.toPre (by omega))
        have M2 := (hM.ext P1.ext).ext P2.ext
        have hrl := M2.sqlen hS.1.sq
        have hcl := M2.sqcell hS.1.sq
        have hes := erase_take (xs := d.getD i []) (z := 0) (p := p) (k := k) (by omega)
        simp only [go_sem, ↓reduceIte, Nat.reduceEqDiff]
        refine condK_dec (fun q4 h4 => ?_) (fun q4 h4 => ?_)
        · obtain ⟨v', S', ha, hs, L6⟩ := L2.add (at2 d i k)
          have hel : (((d.getD i []).take k).eraseIdx p).length ≤ k := by
            refine Nat.le_trans (List.eraseIdx_sublist _ _).length_le ?_
            simp; omega
          have hsm : (slen v' ≤ 1099511627776) = True := by simp only [eq_iff_iff, iff_true, hs]; omega
          simp only [go_sem, ↓reduceIte, Nat.reduceEqDiff, h4, hsl, hlen, hi, hk, M2.get, M2.rsl, hrl, hcl, ha, hsm]
          refine forK_step (v') hk hk0 ?_ ?_
          · have hib := Nat.lt_of_lt_of_le hk hN; simp only [go_sem, ↓reduceIte, Nat.reduceEqDiff, and_self, and_true, true_and, Int.ofNat_zero, Int.ofNat_one, Int.cast_ofNat_Int, wrap_succ hib]
          rw [hes, if_neg (by omega)]; exact L6
        · simp only [go_sem, ↓reduceIte, Nat.reduceEqDiff, h4]
          refine forK_step (z) hk hk0 ?_ ?_
          · have hib := Nat.lt_of_lt_of_le hk hN; simp only [go_sem, ↓reduceIte, Nat.reduceEqDiff, and_self, and_true, true_and, Int.ofNat_zero, Int.ofNat_one, Int.cast_ofNat_Int, wrap_succ hib]
          rw [hes, if_pos (by omega)]; exact L2
      · have he2 := he.symm
        clear he
        have P2 := PS.trans (L2.aside.toPre (by omega))
        obtain ⟨t3, OL3⟩ := L2.ol
        have O3 := O1.all P2
        have b3 := OL3.bt
        rw [← he2, ← hrow, List.take_length] at OL3
        obtain ⟨v', S', ha, hs, hpre, t', g', O5⟩ := O3.addRow OL3.own (by omega) (by have := own_lt O1.own; omega) (fun j hj => by have := own_lt (O1.row j hj); omega)
        rw [← OL3.top] at ha
        have hat : atomB z = true := by rw [OL3.top]; rfl
        have hdl := @dropR_len d p i
        have hsm : (slen v' ≤ 1099511627776) = True := by simp only [eq_iff_iff, iff_true, hs]; omega
        simp only [go_sem, ↓reduceIte, Nat.reduceEqDiff, ha, hsm, hat]
        refine forK_step (v') hi hi0 ?_ ?_
        · have hib := Nat.lt_of_lt_of_le hi hN; simp only [go_sem, ↓reduceIte, Nat.reduceEqDiff, and_self, and_true, true_and, Int.ofNat_zero, Int.ofNat_one, Int.cast_ofNat_Int, wrap_succ hib]
        refine ⟨P1.trans ((P2.mono b1).trans hpre), t', g', ?_⟩
        rw [dropR_succ hi, if_neg (by omega)]; exact O5
      · simpa using L1
    · have he2 := he.symm
      clear he
      have hat : atomB y = true := by rw [O1.top]; rfl
      simp only [go_sem, ↓reduceIte, Nat.reduceEqDiff, hat]
      refine ⟨⟨_, by rw [hB], .inr ⟨t, g, ?_⟩⟩, P1⟩
      rw [← he2, dropR_all] at O1
      rw [dropV_nat hS hp hl2]; exact O1
    · exact ⟨P0, _, _, by rw [dropR_zero]; exact O0⟩

end Go.Proofs.Yticdbohhnkpelaa

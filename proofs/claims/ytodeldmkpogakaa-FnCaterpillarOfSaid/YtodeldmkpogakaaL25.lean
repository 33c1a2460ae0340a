/- The law FnCaterpillarOf. -/
import Derived.Test.YtodeldmkpogakaaW7
import Derived.Test.YtodeldmkpogakaaW18
import Derived.Test.YtodeldmkpogakaaW27
import Derived.Test.YtodeldmkpogakaaW32
import Derived.Test.YtodeldmkpogakaaW33
namespace Go.Proofs.Ytodeldmkpogakaa
open Go Go.Mill
set_option maxRecDepth 100000
set_option linter.unusedSimpArgs false
set_option linter.unusedVariables false

/-- A counter that goes down to -1. -/
def dn (i : Nat) : Int := (i : Int) - 1
theorem dn_zero : dn 0 = -1 := rfl
theorem dn_succ {i : Nat} : dn (i + 1) = (i : Int) := by unfold dn; omega
theorem wrap_dn {i : Nat} (h : i ≤ 1000000) : IntKind.i64.wrap ((i : Int) - 1) = dn i := by rw [wrap64 (by omega)]; rfl
theorem aw_dn {P : Program} {c : Code} {Q : AX → Env → Store → Prop} {e : Env} {S : Store} {α : Type} (ctr : Nat) (live : List Nat) (St : α → Env) (N : Nat) (T : Nat → α → Store → Prop) (y : α)
    (hs : sub ((ctr, .int .i64 (dn N)) :: (St y ++ keep live e)) e) (h0 : T N y S)
    (round : ∀ i y S1, i ≤ N → T i y S1 → aw P c (downK N (fun i y => (ctr, .int .i64 (dn i)) :: (St y ++ keep live e)) T i Q) ((ctr, .int .i64 (dn i)) :: (St y ++ keep live e)) S1) : aw P (.loop c) Q e S := by
  refine aw_loop (downI N (fun i y => (ctr, .int .i64 (dn i)) :: (St y ++ keep live e)) T) N _ hs ⟨y, Nat.le_refl _, rfl, h0⟩ ?_
  rintro m _ S1 ⟨y, hm, rfl, hT⟩
  exact round m y S1 hm hT
theorem drop_rev {xs : List Int} {i : Nat} (hi : i < xs.length) : (xs.drop i).reverse = (xs.drop (i + 1)).reverse ++ [xs.getD i 0] := by
  rw [List.drop_eq_getElem_cons hi, List.reverse_cons]
  congr 2
  simp [List.getElem?_eq_getElem hi]
theorem FnCaterpillarOf_c (S : Store) (v : Value) (xs : List Int) (hI : rd S v = some (xs.map (.int .u8))) (hx : xs.length ≤ maxLen) (hb : ∀ b ∈ xs, 0 ≤ b ∧ b ≤ 255) :
    ACalls Try.prog 11 [v] S fun u _ => u = .bool true := by
  refine ACalls.intro (ts := [2]) 144 follows Try.func11 rfl (by kernel_rfl) (by kernel_rfl) (by simp) ?_
  have hsl := rd_isSl hI
  have hlen : slen v = xs.length := by rw [rd_slen hI]; simp
  have m6 : (6 : Nat) ≤ maxLen := by decide
  have m20 : (20 : Nat) ≤ maxLen := by decide
  simp only [go_sem, ↓reduceIte, Nat.reduceEqDiff, argEnv, hsl, hlen]
  refine condK_dec (fun q1 h1 => ?_) (fun q1 h1 => ?_)
  · simp only [go_sem, ↓reduceIte, Nat.reduceEqDiff, h1]
  simp only [go_sem, ↓reduceIte, Nat.reduceEqDiff, h1]
  refine callK.intro (by kernel_rfl) (DrawCaterpillarOf_c S v xs hI hx hb) ?_
  rintro _ S1 ⟨w1, w2, ss, ls, rfl, I1, J1, hs20, hl20⟩
  have hsx : ss.length ≤ maxLen := by omega
  have hlx : ls.length ≤ maxLen := by omega
  simp only [go_sem, ↓reduceIte, Nat.reduceEqDiff]
  refine callK.intro (by kernel_rfl) (iCaterpillarOf_c _ _ _ I1 hsx _ _ J1 hlx) ?_
  rintro _ S2 ⟨⟨X, rfl, hX⟩, P2⟩
  obtain ⟨rx, X2⟩ := hX.mat
  have I2 := I1.ext P2.ext
  have J2 := J1.ext P2.ext
  simp only [go_sem, ↓reduceIte, Nat.reduceEqDiff]
  refine callK.intro (by kernel_rfl) (sCaterpillarOf_c _ _ _ I2 hsx _ _ J2 hlx) ?_
  rintro _ S3 ⟨⟨Y, rfl, hY⟩, P3⟩
  obtain ⟨ry, Y3⟩ := hY.mat
  have X3 := X2.ext P3.ext
  have I3 := I2.ext P3.ext
  have J3 := J2.ext P3.ext
  have sm := @catV_small ss ls
  have hVl : (catV ss ls).length ≤ maxLen := by omega
  have hVr : ∀ i, i < (catV ss ls).length → ((catV ss ls).getD i []).length ≤ maxLen := fun i _ => Nat.le_trans (sm.2 i) m6
  simp only [go_sem, ↓reduceIte, Nat.reduceEqDiff]
  refine callK.intro (by kernel_rfl) (sameRows_c _ _ _ _ _ _ _ X3 Y3 hVl hVr) ?_
  rintro _ _ ⟨rfl, rfl⟩
  simp only [go_sem, ↓reduceIte, Nat.reduceEqDiff, decide_true, bne_self_eq_false, Try.underlying4]
  have hx3 := X3.sl
  have hn3 := X3.len
  cases hB : catB ss ls with
  | false =>
    rw [catV_no hB] at hn3
    have hn3 : slen X = 0 := hn3
    have z0 : decide (((0 : Nat) : Int) = 0) = true := rfl
    simp only [go_sem, ↓reduceIte, Nat.reduceEqDiff, hx3, hn3, z0]
    refine callK.intro (by kernel_rfl) (alive_c _) ?_
    rintro _ _ ⟨rfl, -⟩
    simp only [go_sem, ↓reduceIte, Nat.reduceEqDiff]
  | true =>
    have hC := catB_iff.1 hB
    have hK := hC.1
    have h6 := hK.six
    have hsl1 := hK.len
    have hV := catV_yes hC
    have hVd : (catV ss ls).length = ls.length := by rw [hV, catT_len]
    rw [hVd] at hn3
    have ws := @wrap_dn ss.length (by omega)
    have wl := @wrap_dn ls.length (by omega)
    have hi1 := I3.sl
    have hi2 := I3.len
    have hj1 := J3.sl
    have hj2 := J3.len
    have OLa : OL S3.length (S3 ++ [.own []]) (mk S3.length 0) S3.length [] := OL.none (Nat.le_refl _)
    have hla : (S3 ++ [Ob.own []] : Store).length = S3.length + 1 := by simp
    have OLb : OL S3.length (S3 ++ [.own []] ++ [.own []]) (mk (S3 ++ [Ob.own []] : Store).length 0) (S3 ++ [Ob.own []] : Store).length [] := OL.none (by omega)
    have OLa' : OL S3.length (S3 ++ [.own []] ++ [.own []]) (mk S3.length 0) S3.length [] := OLa.keep (List.getElem?_append_left (by simp))
    have P4 : Pre S3.length S3 (S3 ++ [.own []] ++ [.own []]) := ((Pre.refl _ _).app (Nat.le_refl _) _).app (by simp) _
    simp only [go_sem, ↓reduceIte, Nat.reduceEqDiff, hi1, hi2, ws]
    generalize mk (S3 ++ [Ob.own []] : Store).length 0 = yb at OLb ⊢
    generalize mk S3.length 0 = ya at OLa OLa' ⊢
    have hne : S3.length ≠ (S3 ++ [Ob.own []] : Store).length := by omega
    generalize (S3 ++ [Ob.own []] : Store).length = tb at OLb hne ⊢
    generalize S3 ++ [Ob.own []] ++ [Ob.own []] = S4 at OLb OLa' P4 ⊢
    refine aw_dn 11 [3, 4, 5, 10] (fun (y : Value) => [(9, y)]) ss.length (fun i y SS => (∃ t1, OL S3.length SS y t1 (ss.drop i).reverse ∧ OL S3.length SS yb tb [] ∧ t1 ≠ tb) ∧ Pre S3.length S3 SS) ya ?_ ⟨⟨_, by rw [List.drop_length]; exact OLa', OLb, hne⟩, P4⟩ ?_
    · simp only [go_sem, ↓reduceIte, Nat.reduceEqDiff, and_self, and_true, true_and]
    rintro i y S5 hi ⟨⟨t1, O1, O2, hne2⟩, P5⟩
    cases i with
    | succ i =>
      have c0 : decide ((0 : Int) ≤ ((i : Nat) : Int)) = true := by rw [decide_eq_true_eq]; omega
      have hi' : i < ss.length := by omega
      have I5 := I3.ext P5.ext
      have wd := @wrap_dn i (by omega)
      obtain ⟨v', S6, ha, hs, hpre, hkeep, t', ht', O3⟩ := O1.add' (ss.getD i 0)
      have hsm : (slen v' ≤ 1099511627776) = True := by simp only [eq_iff_iff, iff_true, hs, List.length_reverse, List.length_drop]; omega
      simp only [go_sem, ↓reduceIte, Nat.reduceEqDiff, dn_succ, c0]
      simp only [go_sem, ↓reduceIte, Nat.reduceEqDiff, hi1, hi2, hi', I5.get, ha, hsm, dn_succ, wd]
      refine downK_next v' (Nat.succ_pos i) hi ?_ ?_
      · simp only [go_sem, ↓reduceIte, Nat.reduceEqDiff, and_self, and_true, true_and, Nat.add_sub_cancel, wd]
      · have l2 := own_lt O2.own
        refine ⟨⟨t', ?_, O2.keep (hkeep tb l2 (Ne.symm hne2)), by omega⟩, P5.trans hpre⟩
        rw [Nat.add_sub_cancel, drop_rev hi']
        exact O3
    | zero =>
      have c0 : decide ((0 : Int) ≤ -1) = false := rfl
      rw [List.drop_zero] at O1
      simp only [go_sem, ↓reduceIte, Nat.reduceEqDiff, dn_zero, c0, hj1, hj2, wl]
      refine aw_dn 12 [4, 5, 9] (fun (y : Value) => [(10, y)]) ls.length (fun i z SS => (∃ t2, OL S3.length SS z t2 (ls.drop i).reverse ∧ OL S3.length SS y t1 ss.reverse ∧ t2 ≠ t1) ∧ Pre S3.length S3 SS) yb ?_ ⟨⟨_, by rw [List.drop_length]; exact O2, O1, Ne.symm hne2⟩, P5⟩ ?_
      · simp only [go_sem, ↓reduceIte, Nat.reduceEqDiff, and_self, and_true, true_and]
      rintro i z S6 hi ⟨⟨t2, O3, O4, hne3⟩, P6⟩
      cases i with
      | succ i =>
        have c1 : decide ((0 : Int) ≤ ((i : Nat) : Int)) = true := by rw [decide_eq_true_eq]; omega
        have hi' : i < ls.length := by omega
        have J6 := J3.ext P6.ext
        have wd := @wrap_dn i (by omega)
        obtain ⟨v', S7, ha, hs, hpre, hkeep, t', ht', O5⟩ := O3.add' (ls.getD i 0)
        have hsm : (slen v' ≤ 1099511627776) = True := by simp only [eq_iff_iff, iff_true, hs, List.length_reverse, List.length_drop]; omega
        simp only [go_sem, ↓reduceIte, Nat.reduceEqDiff, dn_succ, c1]
        simp only [go_sem, ↓reduceIte, Nat.reduceEqDiff, hj1, hj2, hi', J6.get, ha, hsm, dn_succ, wd]
        refine downK_next v' (Nat.succ_pos i) hi ?_ ?_
        · simp only [go_sem, ↓reduceIte, Nat.reduceEqDiff, and_self, and_true, true_and, Nat.add_sub_cancel, wd]
        · have l2 := own_lt O4.own
          refine ⟨⟨t', ?_, O4.keep (hkeep t1 l2 (Ne.symm hne3)), by omega⟩, P6.trans hpre⟩
          rw [Nat.add_sub_cancel, drop_rev hi']
          exact O5
      | zero =>
        rw [List.drop_zero] at O3
        simp only [go_sem, ↓reduceIte, Nat.reduceEqDiff, dn_zero, c0]
        refine callK.intro (by kernel_rfl) (iCaterpillarOf_c _ _ _ O4.ints (by simp; omega) _ _ O3.ints (by simp; omega)) ?_
        rintro _ S7 ⟨⟨Z, rfl, hZ⟩, P7⟩
        have hR := rev_cat hC
        obtain ⟨rz, Z7⟩ := hZ.mat
        have hRB : catB ss.reverse ls.reverse = true := catB_iff.2 hR
        rw [catV_yes hR, List.length_reverse] at Z7
        have X7 := (X3.ext P6.ext).ext P7.ext
        have hz1 := Z7.sl
        have hz2 := Z7.len
        rw [catT_len] at hz2
        have hcc : decide (¬ ((ls.length : Nat) : Int) = ((ls.length : Nat) : Int)) = false := by simp
        have hN : ls.length ≤ 9223372036854775807 := by omega
        rw [hV] at X7
        have hTl : (catT ss.reverse ls.reverse ls.length).length = ls.length := catT_len
        have hTr : ∀ i, i < ls.length → ((catT ss.reverse ls.reverse ls.length).getD i []).length = ls.length := fun i hi => by rw [catT_row hi, catRow_len, List.length_reverse]
        have hDr : ∀ i, i < ls.length → ((catT ss ls ls.length).getD i []).length = ls.length := fun i hi => by rw [catT_row hi, catRow_len]
        have hDl : (catT ss ls ls.length).length = ls.length := catT_len
        rw [hRB]
        simp only [go_sem, ↓reduceIte, Nat.reduceEqDiff, hz1, hz2, hx3, hn3, hcc, not_true_eq_false, decide_false]
        refine aw_count 16 [5, 13, 15] (fun (y' : Unit) => []) (0) (ls.length) (fun k y' SS => S7 = SS ∧ True) (()) ?_ ?_ ?_ ?_
        · simp only [go_sem, ↓reduceIte, Nat.reduceEqDiff, and_self, and_true, true_and, Int.ofNat_zero, Int.ofNat_one, Int.cast_ofNat_Int, hz1, hz2]
        · omega
        rotate_left
        rintro k y' Sk hk0 hk ⟨rfl, -⟩
        simp only [go_sem, ↓reduceIte, Nat.reduceEqDiff, hz1, hz2]
        refine condK_lt hk (fun hk => ?_) (fun he => ?_)
        · simp only [go_sem, ↓reduceIte, Nat.reduceEqDiff]
          refine aw_count 17 [5, 13, 15, 16] (fun (y'' : Unit) => []) (0) (ls.length) (fun j y'' SS => S7 = SS ∧ True) (()) ?_ ?_ ?_ ?_
          · simp only [go_sem, ↓reduceIte, Nat.reduceEqDiff, and_self, and_true, true_and, Int.ofNat_zero, Int.ofNat_one, Int.cast_ofNat_Int, hz1, hz2]
          · omega
          rotate_left
          rintro j y'' Sj hj0 hj ⟨rfl, -⟩
          simp only [go_sem, ↓reduceIte, Nat.reduceEqDiff, hz1, hz2]
          refine condK_lt hj (fun hj => ?_) (fun he => ?_)
          · have zrl := Z7.sqlen (fun i hi => by rw [hTl] at hi ⊢; exact hTr i hi)
            have zcl := Z7.sqcell (fun i hi => by rw [hTl] at hi ⊢; exact hTr i hi)
            have xrl := X7.sqlen (fun i hi => by rw [hDl] at hi ⊢; exact hDr i hi)
            have xcl := X7.sqcell (fun i hi => by rw [hDl] at hi ⊢; exact hDr i hi)
            rw [hTl] at zrl zcl
            rw [hDl] at xrl xcl
            have hkz : k < (catT ss.reverse ls.reverse ls.length).length := by omega
            have hkx : k < (catT ss ls ls.length).length := by omega
            have kk : ls.length - 1 - k < ls.length := by omega
            have jj : ls.length - 1 - j < ls.length := by omega
            have hkz2 : ls.length - 1 - k < (catT ss.reverse ls.reverse ls.length).length := by omega
            have hb2 := rev_back hC hk hj
            have hbe : decide (¬ at2 (catT ss.reverse ls.reverse ls.length) (ls.length - 1 - k) (ls.length - 1 - j) = at2 (catT ss ls ls.length) k j) = false := by rw [hb2]; simp
            have w1 : IntKind.i64.wrap ((ls.length : Int) - 1) = ((ls.length - 1 : Nat) : Int) := wrap_pred (by omega) (by omega)
            have w2 : IntKind.i64.wrap (((ls.length - 1 : Nat) : Int) - (k : Int)) = ((ls.length - 1 - k : Nat) : Int) := by rw [wrap64 (by omega)]; omega
            have w3 : IntKind.i64.wrap (((ls.length - 1 : Nat) : Int) - (j : Int)) = ((ls.length - 1 - j : Nat) : Int) := by rw [wrap64 (by omega)]; omega
            simp only [go_sem, ↓reduceIte, Nat.reduceEqDiff]
            refine draw_read ?_ (by kernel_rfl)
            simp only [go_sem, ↓reduceIte, Nat.reduceEqDiff, hz1, hz2, hx3, hn3, hkz, hkx, hk, hj, kk, jj, hkz2, Z7.get, Z7.rsl, zrl, zcl, X7.get, X7.rsl, xrl, xcl, hcc, w1, w2, w3, hbe, not_true_eq_false, decide_false]
            refine forK_step (()) hj hj0 ?_ ?_
            · have hib := Nat.lt_of_lt_of_le hj hN; simp only [go_sem, ↓reduceIte, Nat.reduceEqDiff, and_self, and_true, true_and, Int.ofNat_zero, Int.ofNat_one, Int.cast_ofNat_Int, wrap_succ hib]
            exact ⟨rfl, by trivial⟩
          · subst he
            simp only [go_sem, ↓reduceIte, Nat.reduceEqDiff]
            refine forK_step (()) hk hk0 ?_ ?_
            · have hib := Nat.lt_of_lt_of_le hk hN; simp only [go_sem, ↓reduceIte, Nat.reduceEqDiff, and_self, and_true, true_and, Int.ofNat_zero, Int.ofNat_one, Int.cast_ofNat_Int, wrap_succ hib]
            exact ⟨rfl, by trivial⟩
          · exact ⟨rfl, by trivial⟩
        · subst he
          simp only [go_sem, ↓reduceIte, Nat.reduceEqDiff]
          refine callK.intro (by kernel_rfl) (iTreeOk_c _ _ _ _ X7 (by rw [hDl]; exact hlx)) ?_
          rintro _ S8 ⟨rfl, P8⟩
          rw [cat_tree hC]
          simp only [go_sem, ↓reduceIte, Nat.reduceEqDiff]
        · exact ⟨rfl, by trivial⟩
end Go.Proofs.Ytodeldmkpogakaa

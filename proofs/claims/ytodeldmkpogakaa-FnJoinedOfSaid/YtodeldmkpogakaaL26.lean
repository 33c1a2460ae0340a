/- The law FnJoinedOf. -/
import Derived.Test.YtodeldmkpogakaaW7
import Derived.Test.YtodeldmkpogakaaW16
import Derived.Test.YtodeldmkpogakaaW18
import Derived.Test.YtodeldmkpogakaaW35
import Derived.Test.YtodeldmkpogakaaW36
import Derived.Test.YtodeldmkpogakaaPure15
namespace Go.Proofs.Ytodeldmkpogakaa
open Go Go.Mill
set_option maxRecDepth 100000
set_option linter.unusedSimpArgs false
set_option linter.unusedVariables false

def offAt (i j : Nat) : Int := if i = j then 0 else 60
def offRow (i n : Nat) : List Int := (List.range n).map (offAt i)
def offT (n m : Nat) : List (List Int) := (List.range m).map fun i => offRow i n
theorem offRow_succ {i n : Nat} : offRow i (n + 1) = offRow i n ++ [offAt i n] := by simp [offRow, List.range_succ]
theorem offRow_len {i n : Nat} : (offRow i n).length = n := by simp [offRow]
theorem offT_succ {n m : Nat} : offT n (m + 1) = offT n m ++ [offRow m n] := by simp [offT, List.range_succ]
theorem offT_len {n m : Nat} : (offT n m).length = m := by simp [offT]
theorem offT_row {n m i : Nat} (hi : i < m) : (offT n m).getD i [] = offRow i n := by simp [offT, hi]
theorem offT_at {n m i j : Nat} (hi : i < m) (hj : j < n) : at2 (offT n m) i j = offAt i j := by
  unfold at2; rw [offT_row hi]; simp [offRow, hj]
theorem off_alone {d : List (List Int)} : Alone d [] (offT d.length d.length) :=
  ⟨offT_len, fun i hi => by rw [offT_row hi, offRow_len], fun a b ha hb => by rw [offT_at ha hb]; simp [joinAt, offAt]⟩
theorem alone_step {d js e : List (List Int)} (h : IsFar d) (A : Alone d js e) {a b : Nat} (hab : a < b) (hb : b < d.length) :
    Alone d (js ++ [[(a : Int), (b : Int)]]) (put2 (put2 e a b (at2 d a b)) b a (at2 d a b)) := by
  have ha : a < d.length := by omega
  have s := (h.at ha hb).1
  have hl := A.len
  have hra := A.sq a ha
  have hrb := A.sq b hb
  refine ⟨by rw [put2_len, put2_len, hl], fun i hi => by rw [put2_rowlen, put2_rowlen, A.sq i hi], fun p q hp hq => ?_⟩
  rw [put2_at (by rw [put2_len]; omega) (by rw [put2_rowlen]; omega), put2_at (by omega) (by omega), A.at_ p q hp hq]
  unfold joinAt
  by_cases h1 : p = b ∧ q = a
  · rw [if_pos h1, h1.1, h1.2, if_pos (by simp), s]
  · rw [if_neg h1]
    by_cases h2 : p = a ∧ q = b
    · rw [if_pos h2, h2.1, h2.2, if_pos (by simp)]
    · rw [if_neg h2]
      have e1 : ([(p : Int), (q : Int)] ∈ js ++ [[(a : Int), (b : Int)]]) = ([(p : Int), (q : Int)] ∈ js) := by
        simp only [List.mem_append, List.mem_singleton, List.cons.injEq, and_true, eq_iff_iff]
        exact or_iff_left fun h => h2 ⟨by omega, by omega⟩
      have e2 : ([(q : Int), (p : Int)] ∈ js ++ [[(a : Int), (b : Int)]]) = ([(q : Int), (p : Int)] ∈ js) := by
        simp only [List.mem_append, List.mem_singleton, List.cons.injEq, and_true, eq_iff_iff]
        exact or_iff_left fun h => h1 ⟨by omega, by omega⟩
      simp only [e1, e2]
theorem ld_off {S : Store} {t n i h : Nat} {ob : Ob} (hne : h ≠ t) : ld (S.set h ob) (eptr (mk t n) i) = ld S (eptr (mk t n) i) := by
  simp [eptr, mk, ld, cell, List.getElem?_set_ne hne]
theorem FnJoinedOf_c (S : Store) (v : Value) (xs : List Int) (hI : rd S v = some (xs.map (.int .u8))) (hx : xs.length ≤ maxLen) (hb : ∀ b ∈ xs, 0 ≤ b ∧ b ≤ 255) :
    ACalls Try.prog 13 [v] S fun u _ => u = .bool true := by
  refine ACalls.intro (ts := [2]) 154 follows Try.func13 rfl (by kernel_rfl) (by kernel_rfl) (by simp) ?_
  have hsl := rd_isSl hI
  have hlen : slen v = xs.length := by rw [rd_slen hI]; simp
  have m6 : (6 : Nat) ≤ maxLen := by decide
  simp only [go_sem, ↓reduceIte, Nat.reduceEqDiff, argEnv, hsl, hlen]
  refine condK_dec (fun q1 h1 => ?_) (fun q1 h1 => ?_)
  · simp only [go_sem, ↓reduceIte, Nat.reduceEqDiff, h1]
  simp only [go_sem, ↓reduceIte, Nat.reduceEqDiff, h1]
  refine callK.intro (by kernel_rfl) (DrawJoinedOf_c S v xs hI hx hb) ?_
  rintro D S1 ⟨r, d, M1, E1, hd6, hr6⟩
  have hd : d.length ≤ maxLen := by omega
  have six := @joinedV_six d
  have hVl : (joinedV d).length ≤ maxLen := by omega
  have hVr : ∀ i, i < (joinedV d).length → ((joinedV d).getD i []).length ≤ maxLen := fun i hi => Nat.le_trans (six.2 i hi) m6
  simp only [go_sem, ↓reduceIte, Nat.reduceEqDiff]
  refine callK.intro (by kernel_rfl) (iJoinedOf_c _ _ _ _ M1 hd) ?_
  rintro X S2 ⟨hX, P2⟩
  obtain ⟨rx, X2⟩ := hX.mat
  have M2 := M1.ext P2.ext
  simp only [go_sem, ↓reduceIte, Nat.reduceEqDiff]
  refine callK.intro (by kernel_rfl) (sJoinedOf_c _ _ _ _ M2 hd) ?_
  rintro Y S3 ⟨hY, P3⟩
  obtain ⟨ry, Y3⟩ := hY.mat
  have M3 := M2.ext P3.ext
  have X3 := X2.ext P3.ext
  simp only [go_sem, ↓reduceIte, Nat.reduceEqDiff]
  refine callK.intro (by kernel_rfl) (sameRows_c _ _ _ _ _ _ _ X3 Y3 hVl hVr) ?_
  rintro _ _ ⟨rfl, rfl⟩
  simp only [go_sem, ↓reduceIte, Nat.reduceEqDiff, decide_true]
  refine callK.intro (by kernel_rfl) (sFarOk_c _ _ _ _ M3 hd) ?_
  rintro _ _ ⟨rfl, rfl⟩
  simp only [go_sem, ↓reduceIte, Nat.reduceEqDiff]
  have hxsl := X3.sl
  have hxlen := X3.len
  cases hFb : farB d with
  | false =>
    rw [joinedV_no hFb] at hxlen
    have hxlen : slen X = 0 := hxlen
    have z0 : decide (((0 : Nat) : Int) = 0) = true := rfl
    simp only [go_sem, ↓reduceIte, Nat.reduceEqDiff, hxsl, hxlen, z0]
    refine callK.intro (by kernel_rfl) (alive_c _) ?_
    rintro _ _ ⟨rfl, -⟩
    simp only [go_sem, ↓reduceIte, Nat.reduceEqDiff]
  | true =>
    have hF := farB_is hFb
    have hsl := M3.sl
    have hlen := M3.len
    have hN : d.length ≤ 9223372036854775807 := by omega
    have O0 : OT S3.length (S3 ++ [.own []]) (mk S3.length 0) S3.length (fun _ => 0) [] := OT.none (Nat.le_refl _)
    have P0 : Pre S3.length S3 (S3 ++ [.own []]) := (Pre.refl _ _).app (Nat.le_refl _) _
    simp only [go_sem, ↓reduceIte, Nat.reduceEqDiff]
    generalize mk S3.length 0 = y0 at O0 ⊢
    generalize S3 ++ [Ob.own []] = S4 at O0 P0 ⊢
    refine aw_count 6 [3, 4] (fun (y : Value) => [(5, y)]) (0) (d.length) (fun i y SS => Pre S3.length S3 SS ∧ ∃ t g, OT S3.length SS y t g (offT d.length i)) (y0) ?_ ?_ ?_ ?_
    · simp only [go_sem, ↓reduceIte, Nat.reduceEqDiff, and_self, and_true, true_and, Int.ofNat_zero, Int.ofNat_one, Int.cast_ofNat_Int, hsl, hlen]
    · omega
    rotate_left
    rintro i y Si hi0 hi ⟨P1, t, g, O1⟩
    simp only [go_sem, ↓reduceIte, Nat.reduceEqDiff, hsl, hlen]
    refine condK_lt hi (fun hi => ?_) (fun he => ?_)
    · have OL1 : OL Si.length (Si ++ [.own []]) (mk Si.length 0) Si.length [] := OL.none (Nat.le_refl _)
      have L1 := LX.start OL1
      have b1 := P1.len
      have hl1 : (Si ++ [Ob.own []] : Store).length = Si.length + 1 := by simp
      have PS : Pre Si.length Si (Si ++ [.own []]) := (Pre.refl _ _).app (Nat.le_refl _) _
      simp only [go_sem, ↓reduceIte, Nat.reduceEqDiff]
      generalize mk Si.length 0 = z0 at OL1 L1 ⊢
      generalize Si ++ [Ob.own []] = S5 at OL1 L1 hl1 PS ⊢
      refine aw_count 8 [3, 4, 5, 6] (fun (z : Value) => [(7, z)]) (0) (d.length) (fun j z SS => LX Si.length S5 SS z (offRow i j)) (z0) ?_ ?_ ?_ ?_
      · simp only [go_sem, ↓reduceIte, Nat.reduceEqDiff, and_self, and_true, true_and, Int.ofNat_zero, Int.ofNat_one, Int.cast_ofNat_Int, hsl, hlen]
      · omega
      rotate_left
      rintro j z Sj hj0 hj L2
      simp only [go_sem, ↓reduceIte, Nat.reduceEqDiff, hsl, hlen]
      refine condK_lt hj (fun hj => ?_) (fun he => ?_)
      · have w1 : IntKind.i64.wrap ((i : Int) - (j : Int)) = (i : Int) - (j : Int) := wrap64 (by omega)
        have w2 : IntKind.i64.wrap ((j : Int) - (i : Int)) = (j : Int) - (i : Int) := wrap64 (by omega)
        have w3 : IntKind.i64.wrap (60 * min (max ((i : Int) - (j : Int)) ((j : Int) - (i : Int))) 1) = offAt i j := by
          rw [wrap64 (by omega)]; unfold offAt; split <;> omega
        obtain ⟨v', S', ha, hs, L3⟩ := L2.add (offAt i j)
        have hsm : (slen v' ≤ 1099511627776) = True := by simp only [eq_iff_iff, iff_true, hs, offRow_len]; omega
        simp only [go_sem, ↓reduceIte, Nat.reduceEqDiff, w1, w2, w3, ha, hsm]
        refine forK_step (v') hj hj0 ?_ ?_
        · have hib := Nat.lt_of_lt_of_le hj hN; simp only [go_sem, ↓reduceIte, Nat.reduceEqDiff, and_self, and_true, true_and, Int.ofNat_zero, Int.ofNat_one, Int.cast_ofNat_Int, wrap_succ hib]
        rw [offRow_succ]; exact L3
      · have he2 := he.symm
        clear he
        have P2' := PS.trans (L2.aside.toPre (by omega))
        obtain ⟨t3, OL3⟩ := L2.ol
        have O3 := O1.all P2'
        have b3 := OL3.bt
        rw [← he2] at OL3
        obtain ⟨v', S', ha, hs, hpre, t', g', O5⟩ := O3.addRow OL3.own (by omega) (by have := own_lt O1.own; omega) (fun j hj => by have := own_lt (O1.row j hj); omega)
        rw [← OL3.top] at ha
        have hat : atomB z = true := by rw [OL3.top]; rfl
        have hsm : (slen v' ≤ 1099511627776) = True := by simp only [eq_iff_iff, iff_true, hs, offT_len]; omega
        simp only [go_sem, ↓reduceIte, Nat.reduceEqDiff, ha, hsm, hat]
        refine forK_step (v') hi hi0 ?_ ?_
        · have hib := Nat.lt_of_lt_of_le hi hN; simp only [go_sem, ↓reduceIte, Nat.reduceEqDiff, and_self, and_true, true_and, Int.ofNat_zero, Int.ofNat_one, Int.cast_ofNat_Int, wrap_succ hib]
        exact ⟨P1.trans ((P2'.mono b1).trans hpre), t', g', by rw [offT_succ]; exact O5⟩
      · exact L1
    · subst he
      have hJN : (joinedV d).length ≤ 9223372036854775807 := by omega
      have OSq : OS S3.length Si y t g (offT d.length d.length) d.length := ⟨O1, offT_len, fun i hi => by rw [offT_row hi, offRow_len]⟩
      simp only [go_sem, ↓reduceIte, Nat.reduceEqDiff]
      refine aw_count 9 [3, 4, 5] (fun (u : Unit) => []) (0) ((joinedV d).length) (fun k u SS => Pre S3.length S3 SS ∧ ∃ e, OS S3.length SS y t g e d.length ∧ Alone d ((joinedV d).take k) e) (()) ?_ ?_ ?_ ?_
      · simp only [go_sem, ↓reduceIte, Nat.reduceEqDiff, and_self, and_true, true_and, Int.ofNat_zero, Int.ofNat_one, Int.cast_ofNat_Int, hxsl, hxlen]
      · omega
      rotate_left
      rintro k u Sk hk0 hk ⟨P6, e, O6, A6⟩
      simp only [go_sem, ↓reduceIte, Nat.reduceEqDiff, hxsl, hxlen]
      refine condK_lt hk (fun hk => ?_) (fun he => ?_)
      · obtain ⟨a, b, hab, hbn, hrow⟩ := joined_mem hF (x := (joinedV d).getD k []) (by rw [List.getD_eq_getElem?_getD, List.getElem?_eq_getElem hk]; exact List.getElem_mem hk)
        have han : a < d.length := by omega
        have X6 := X3.ext P6.ext
        have M6 := M3.ext P6.ext
        have hI6 := X6.row k hk
        rw [hrow] at hI6
        have c0 : 0 < slen (rx k) := by rw [hI6.len]; simp
        have c1 : 1 < slen (rx k) := by rw [hI6.len]; simp
        have c2 := hI6.sl
        have c3 : ld Sk (eptr (rx k) 0) = some (.int .i64 (a : Int)) := hI6.get 0 (by simp)
        have c4 : ld Sk (eptr (rx k) 1) = some (.int .i64 (b : Int)) := hI6.get 1 (by simp)
        have hga := O6.bg a han
        have hgb := O6.bg b hbn
        have hosl := O6.sl
        have hosn := O6.slen
        simp only [go_sem, ↓reduceIte, Nat.reduceEqDiff, hxsl, hxlen, hk, X6.get, c0, c1, c2, ixK_zero, ixK_one, c3, c4]
        have PD := P6.set hga .dead
        have MD := M3.ext PD.ext
        have hrl := MD.sqlen hF.sq
        have hcl := MD.sqcell hF.sq
        have hne : g a ≠ t := O6.ot.ne a (by rw [O6.len]; exact han)
        have ly : ld (Sk.set (g a) .dead) (eptr y a) = some (orow g e a) := by rw [← O6.get a han, O6.ot.top]; exact ld_off hne
        refine draw_mixD (g a) [true, true, true, true, true, true, true, true, true, true, true, true, true] 1 ?_ (by kernel_rfl)
        simp only [go_sem, ↓reduceIte, Nat.reduceEqDiff, hosl, hosn, han, hbn, ly, hsl, hlen, MD.get, MD.rsl, hrl, hcl, O6.rsl, O6.rlen]
        refine anyW_one 13 (by kernel_rfl) ?_
        simp only [go_sem, ↓reduceIte, Nat.reduceEqDiff, O6.st a b han hbn]
        refine andK_intro (.inl ext_dead) ?_
        refine anyW_done (by kernel_rfl) ?_
        simp only [go_sem, ↓reduceIte, Nat.reduceEqDiff]
        have O7 := O6.put a b han hbn (at2 d a b)
        have P7 := P6.set hga (.own (ints ((e.getD a []).set b (at2 d a b))))
        generalize Sk.set (g a) (.own (ints ((e.getD a []).set b (at2 d a b)))) = S7 at O7 P7 ⊢
        have PD7 := P7.set hgb .dead
        have MD7 := M3.ext PD7.ext
        have hrl7 := MD7.sqlen hF.sq
        have hcl7 := MD7.sqcell hF.sq
        have hne7 : g b ≠ t := O7.ot.ne b (by rw [O7.len]; exact hbn)
        have ly7 : ld (S7.set (g b) .dead) (eptr y b) = some (orow g (put2 e a b (at2 d a b)) b) := by rw [← O7.get b hbn, O7.ot.top]; exact ld_off hne7
        refine draw_mixD (g b) [true, true, true, true, true, true, true, true, true, true, true, true, true] 1 ?_ (by kernel_rfl)
        simp only [go_sem, ↓reduceIte, Nat.reduceEqDiff, hosl, hosn, han, hbn, ly7, hsl, hlen, MD7.get, MD7.rsl, hrl7, hcl7, O7.rsl, O7.rlen]
        refine anyW_one 13 (by kernel_rfl) ?_
        simp only [go_sem, ↓reduceIte, Nat.reduceEqDiff, O7.st b a hbn han]
        refine andK_intro (.inl ext_dead) ?_
        refine anyW_done (by kernel_rfl) ?_
        simp only [go_sem, ↓reduceIte, Nat.reduceEqDiff]
        have O8 := O7.put b a hbn han (at2 d a b)
        have P8 := P7.set hgb (.own (ints (((put2 e a b (at2 d a b)).getD b []).set a (at2 d a b))))
        generalize S7.set (g b) (.own (ints (((put2 e a b (at2 d a b)).getD b []).set a (at2 d a b)))) = S8 at O8 P8 ⊢
        have htk : (joinedV d).take (k + 1) = (joinedV d).take k ++ [[(a : Int), (b : Int)]] := by
          rw [List.take_add_one, ← hrow, List.getD_eq_getElem?_getD, List.getElem?_eq_getElem hk]; rfl
        have A8 := alone_step hF A6 hab hbn
        rw [← htk] at A8
        have M8 := M3.ext P8.ext
        have X8 := X3.ext P8.ext
        have hrl8 := M8.sqlen hF.sq
        have hcl8 := M8.sqcell hF.sq
        rcases Nat.eq_zero_or_pos k with hz | hz
        · have hkz : decide ((0 : Int) < ((k : Nat) : Int)) = false := by rw [decide_eq_false_iff_not]; omega
          refine draw_read ?_ (by kernel_rfl)
          simp only [go_sem, ↓reduceIte, Nat.reduceEqDiff, hkz]
          refine forK_step (()) hk hk0 ?_ ?_
          · have hib := Nat.lt_of_lt_of_le hk hJN; simp only [go_sem, ↓reduceIte, Nat.reduceEqDiff, and_self, and_true, true_and, Int.ofNat_zero, Int.ofNat_one, Int.cast_ofNat_Int, wrap_succ hib]
          exact ⟨P8, _, O8, A8⟩
        · have hkz : decide ((0 : Int) < ((k : Nat) : Int)) = true := by rw [decide_eq_true_eq]; omega
          have hk' : k - 1 < (joinedV d).length := by omega
          obtain ⟨a', b', hab', hbn', hrow'⟩ := joined_mem hF (x := (joinedV d).getD (k - 1) []) (by rw [List.getD_eq_getElem?_getD, List.getElem?_eq_getElem hk']; exact List.getElem_mem hk')
          have han' : a' < d.length := by omega
          have hI8 := X8.row (k - 1) hk'
          rw [hrow'] at hI8
          have g0 : 0 < slen (rx (k - 1)) := by rw [hI8.len]; simp
          have g1 : 1 < slen (rx (k - 1)) := by rw [hI8.len]; simp
          have g2 := hI8.sl
          have g3 : ld S8 (eptr (rx (k - 1)) 0) = some (.int .i64 (a' : Int)) := hI8.get 0 (by simp)
          have g4 : ld S8 (eptr (rx (k - 1)) 1) = some (.int .i64 (b' : Int)) := hI8.get 1 (by simp)
          have wk : IntKind.i64.wrap ((k : Int) - 1) = ((k - 1 : Nat) : Int) := wrap_pred hz (by omega)
          have hup := joined_up hF (i := k) hz hk
          rw [hrow, hrow'] at hup
          have hlt : decide (at2 d a b < at2 d a' b') = false := by
            rw [decide_eq_false_iff_not]
            have : at2 d a' b' ≤ at2 d a b := hup
            omega
          refine draw_read ?_ (by kernel_rfl)
          simp only [go_sem, ↓reduceIte, Nat.reduceEqDiff, hkz, hsl, hlen, han, hbn, han', hbn', M8.get, M8.rsl, hrl8, hcl8, hxsl, hxlen, hk', X8.get, wk, g0, g1, g2, ixK_zero, ixK_one, g3, g4, hlt]
          refine forK_step (()) hk hk0 ?_ ?_
          · have hib := Nat.lt_of_lt_of_le hk hJN; simp only [go_sem, ↓reduceIte, Nat.reduceEqDiff, and_self, and_true, true_and, Int.ofNat_zero, Int.ofNat_one, Int.cast_ofNat_Int, wrap_succ hib]
          exact ⟨P8, _, O8, A8⟩
      · subst he
        rw [List.take_length] at A6
        have wn : IntKind.i64.wrap ((d.length : Int) - 1) = (((joinedV d).length : Nat) : Int) := by
          have := joined_len hF
          rw [wrap64 (by omega)]; omega
        have ceq : decide ((((joinedV d).length : Nat) : Int) = (((joinedV d).length : Nat) : Int)) = true := by simp
        have hel : e.length ≤ maxLen := by rw [O6.len]; exact hd
        have hbl := @below_small d
        have hB := alone_joined hF A6
        simp only [go_sem, ↓reduceIte, Nat.reduceEqDiff, hxsl, hxlen, hsl, hlen, wn, ceq, decide_true]
        refine callK.intro (by kernel_rfl) (iBelowOf_c _ _ _ _ O6.ot.mat hel) ?_
        rintro U S7 ⟨hU, P7⟩
        obtain ⟨ru, U7⟩ := hU.mat
        rw [hB] at U7
        have M7 := (M3.ext P6.ext).ext P7.ext
        simp only [go_sem, ↓reduceIte, Nat.reduceEqDiff]
        refine callK.intro (by kernel_rfl) (iBelowOf_c _ _ _ _ M7 hd) ?_
        rintro W S8 ⟨hW, P8⟩
        obtain ⟨rw', W8⟩ := hW.mat
        have U8 := U7.ext P8.ext
        simp only [go_sem, ↓reduceIte, Nat.reduceEqDiff]
        refine callK.intro (by kernel_rfl) (sameRows_c _ _ _ _ _ _ _ U8 W8 (Nat.le_trans hbl.1 m6) (fun i _ => Nat.le_trans (hbl.2 i) m6)) ?_
        rintro _ _ ⟨rfl, rfl⟩
        simp only [go_sem, ↓reduceIte, Nat.reduceEqDiff, decide_true]
        refine callK.intro (by kernel_rfl) (alive_c _) ?_
        rintro _ _ ⟨rfl, -⟩
        simp only [go_sem, ↓reduceIte, Nat.reduceEqDiff]
      · exact ⟨P1, _, OSq, off_alone⟩
    · exact ⟨P0, _, _, O0⟩
end Go.Proofs.Ytodeldmkpogakaa

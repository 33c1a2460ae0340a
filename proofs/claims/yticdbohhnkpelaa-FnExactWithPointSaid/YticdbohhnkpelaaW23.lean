/- Walks: a point more. -/
import Derived.Test.YticdbohhnkpelaaW4
import Derived.Test.YticdbohhnkpelaaPure9
import Derived.Test.YticdbohhnkpelaaPure5
import Derived.Test.YticdbohhnkpelaaMillQ
namespace Go.Proofs.Yticdbohhnkpelaa
open Go Go.Mill
set_option maxRecDepth 100000
set_option linter.unusedSimpArgs false
set_option linter.unusedVariables false

theorem iWithPoint_c (S : Store) (v : Value) (r : Nat → Value) (d : List (List Int)) (hM : Mat S v r d) (hd : d.length ≤ maxLen) (vf : Value) (xs : List Int) (hI : Ints S vf xs) (hx : xs.length ≤ maxLen) :
    ACalls Try.prog 43 [v, vf] S fun u S' => (∃ w, u = .tuple #[w, .bool (fitB d xs)] ∧ MineT S.length S' w (withV d xs)) ∧ Pre S.length S S' := by
  refine ACalls.intro (ts := [4, 5]) 42 follows Try.func43 rfl (by kernel_rfl) (by kernel_rfl) (by simp) ?_
  have hsl := hM.sl
  have hlen := hM.len
  have hxsl := hI.sl
  have hxlen := hI.len
  simp only [go_sem, ↓reduceIte, Nat.reduceEqDiff, argEnv]
  refine callK.intro (by kernel_rfl) (pointFits_c S v r d hM hd vf xs hI hx) ?_
  rintro _ _ ⟨rfl, rfl⟩
  simp only [go_sem, ↓reduceIte, Nat.reduceEqDiff]
  cases hF : fitB d xs with
  | false =>
    simp only [go_sem, ↓reduceIte, Nat.reduceEqDiff, hF]
    exact ⟨⟨_, rfl, .inl ⟨rfl, withV_no hF⟩⟩, Pre.refl _ _⟩
  | true =>
    have hS := fitB_is hF
    have h6 := hS.2.1
    have hxl : xs.length = d.length := hS.2.2.1
    have hN : d.length ≤ 9223372036854775807 := by omega
    have O0 : OT S.length (S ++ [.own []]) (mk S.length 0) S.length (fun _ => 0) [] := OT.none (Nat.le_refl _)
    have P0 : Pre S.length S (S ++ [.own []]) := (Pre.refl _ _).app (Nat.le_refl _) _
    simp only [go_sem, ↓reduceIte, Nat.reduceEqDiff, hsl, hlen, hF]
    generalize S ++ [Ob.own []] = S0 at O0 P0 ⊢
    generalize mk S.length 0 = y0 at O0 ⊢
    refine aw_count 16 [1, 14, 15] (fun (y : Value) => [(6, y)]) (0) (d.length) (fun i y SS => Pre S.length S SS ∧ ∃ t g, OT S.length SS y t g (withR d xs i)) (y0) ?_ ?_ ?_ ?_
    · simp only [go_sem, ↓reduceIte, Nat.reduceEqDiff, and_self, and_true, true_and, Int.ofNat_zero, Int.ofNat_one, Int.cast_ofNat_Int, hsl, hlen]
    · omega
    rotate_left
    rintro i y Si hi0 hi ⟨P1, t, g, O1⟩
    simp only [go_sem, ↓reduceIte, Nat.reduceEqDiff, hsl, hlen]
    refine condK_lt hi (fun hi => ?_) (fun he => ?_)
    · have M1 := hM.ext P1.ext
      have I1 := hI.ext P1.ext
      have b1 := P1.len
      have PD := P1.set O1.bt .dead
      have MD := hM.ext PD.ext
      have ID := hI.ext PD.ext
      have hix : i < xs.length := by omega
      have hrow := M1.row i hi
      have hrl := hS.1.1.sq i hi
      have hrsz0 : ((d.getD i []).length ≤ 1099511627776) = True := by simp only [eq_iff_iff, iff_true]; omega
      have hrsz : ((d.getD i []).length + 1 ≤ 1099511627776) = True := by simp only [eq_iff_iff, iff_true]; omega
      simp only [go_sem, ↓reduceIte, Nat.reduceEqDiff, hsl, hlen, hi, M1.get]
      refine draw_mixD t [true, false, true, false, true, true, true, true] 7 ?_ (by kernel_rfl)
      simp only [go_sem, ↓reduceIte, Nat.reduceEqDiff, hsl, hlen, hi, hxsl, hxlen, hix, MD.get, ID.get]
      refine anyW_two 1 8 (by kernel_rfl) ?_ ?_
      · skip
        simp only [go_sem, ↓reduceIte, Nat.reduceEqDiff]
        have hEa : Pre Si.length Si (Si ++ [Ob.own []]) := (Pre.refl _ _).app (Nat.le_refl _) _
        refine andK_intro (.inl hEa.dext) ?_
        have HE : (Si ++ [Ob.own []] : Store)[Si.length]? = some (.own []) := own_last
        have hla : (Si ++ [Ob.own []] : Store).length = Si.length + 1 := by simp
        generalize Si ++ [Ob.own []] = A1 at hEa HE hla ⊢
        refine anyW_two 3 8 (by kernel_rfl) ?_ ?_
        · obtain ⟨T1, hc1, hl1, hk1, Hq⟩ := build_row HE (hrow.ext hEa.ext)
          have P1' : Pre Si.length Si T1 := ⟨by omega, fun g hg => by rw [hk1 g (by omega) (by omega)]; exact hEa.low g hg⟩
          simp only [go_sem, ↓reduceIte, Nat.reduceEqDiff, hc1, hrsz0]
          refine andK_intro (.inl P1'.dext) ?_
          refine anyW_one 8 (by kernel_rfl) ?_
          simp only [go_sem, ↓reduceIte, Nat.reduceEqDiff]
          have PT : Pre Si.length Si (T1 ++ [Ob.own [Value.int .i64 (xs.getD i 0)]]) := P1'.app (by omega) _
          refine andK_intro (.inl PT.dext) ?_
          have H1 : (T1 ++ [Ob.own [Value.int .i64 (xs.getD i 0)]] : Store)[T1.length]? = some (.own [.int .i64 (xs.getD i 0)]) := own_last
          replace Hq := own_app (T := [Ob.own [Value.int .i64 (xs.getD i 0)]]) Hq
          have hlT : (T1 ++ [Ob.own [Value.int .i64 (xs.getD i 0)]] : Store).length = T1.length + 1 := by simp
          generalize T1 ++ [Ob.own [Value.int .i64 (xs.getD i 0)]] = T at PT H1 Hq hlT ⊢
          obtain ⟨T2, hs2, hl2, hk2, Hr⟩ := snoc_row Hq H1
          have P2 : Pre Si.length Si T2 := ⟨by have := PT.len; omega, fun g hg => by rw [hk2 g (by have := PT.len; omega) (by omega)]; exact PT.low g hg⟩
          have hPl := PT.len
          refine anyW_one 9 (by kernel_rfl) ?_
          simp only [go_sem, ↓reduceIte, Nat.reduceEqDiff, hs2, hrsz]
          refine andK_intro (.inl P2.dext) ?_
          refine anyW_one 10 (by kernel_rfl) ?_
          simp only [go_sem, ↓reduceIte, Nat.reduceEqDiff]
          refine andK_intro (.inl (P2.app P2.len [Ob.own [mk T.length ((d.getD i []).length + 1)]]).dext) ?_
          refine anyW_one 11 (by kernel_rfl) ?_
          have O2 := O1.all P2
          obtain ⟨v', S', ha, hs, hpre, t', g', O5⟩ := O2.addRow Hr (by omega) (by have := own_lt O1.own; omega) (fun j hj => by have := own_lt (O1.row j hj); omega)
          rw [List.length_append, List.length_singleton] at ha
          have has := (P2.aside.trans (O2.addRow_aside ha))
          have hsm : (slen v' ≤ 1099511627776) = True := by simp only [eq_iff_iff, iff_true, hs, withR_len]; omega
          simp only [go_sem, ↓reduceIte, Nat.reduceEqDiff, ha, hsm]
          refine andK_intro (.inl has.ext) ?_
          refine anyW_one 12 (by kernel_rfl) ?_
          simp only [go_sem, ↓reduceIte, Nat.reduceEqDiff]
          refine andK_intro (.inl has.ext) ?_
          refine anyW_done (by kernel_rfl) ?_
          simp only [go_sem, ↓reduceIte, Nat.reduceEqDiff]
          refine forK_step (v') hi hi0 ?_ ?_
          · have hib := Nat.lt_of_lt_of_le hi hN; simp only [go_sem, ↓reduceIte, Nat.reduceEqDiff, and_self, and_true, true_and, Int.ofNat_zero, Int.ofNat_one, Int.cast_ofNat_Int, wrap_succ hib]
          exact ⟨P1.trans ((P2.mono b1).trans hpre), t', g', by rw [withR_succ]; exact O5⟩
        · simp only [go_sem, ↓reduceIte, Nat.reduceEqDiff]
          have PB : Pre Si.length Si (A1 ++ [Ob.own [Value.int .i64 (xs.getD i 0)]]) := hEa.app (by omega) _
          refine andK_intro (.inl PB.dext) ?_
          have H1' : (A1 ++ [Ob.own [Value.int .i64 (xs.getD i 0)]] : Store)[A1.length]? = some (.own [.int .i64 (xs.getD i 0)]) := own_last
          have HE' := own_app (T := [Ob.own [Value.int .i64 (xs.getD i 0)]]) HE
          have hlB : (A1 ++ [Ob.own [Value.int .i64 (xs.getD i 0)]] : Store).length = A1.length + 1 := by simp
          generalize A1 ++ [Ob.own [Value.int .i64 (xs.getD i 0)]] = B1 at PB H1' HE' hlB ⊢
          refine anyW_one 3 (by kernel_rfl) ?_
          obtain ⟨T, hc1, hl1, hk1, Hq⟩ := build_row HE' (hrow.ext PB.ext)
          have PT : Pre Si.length Si T := ⟨by omega, fun g hg => by rw [hk1 g (by omega) (by omega)]; exact PB.low g hg⟩
          have H1 : T[A1.length]? = some (.own [.int .i64 (xs.getD i 0)]) := by rw [hk1 _ (by omega) (by omega)]; exact H1'
          simp only [go_sem, ↓reduceIte, Nat.reduceEqDiff, hc1, hrsz0]
          refine andK_intro (.inl PT.dext) ?_
          obtain ⟨T2, hs2, hl2, hk2, Hr⟩ := snoc_row Hq H1
          have P2 : Pre Si.length Si T2 := ⟨by have := PT.len; omega, fun g hg => by rw [hk2 g (by have := PT.len; omega) (by omega)]; exact PT.low g hg⟩
          have hPl := PT.len
          refine anyW_one 9 (by kernel_rfl) ?_
          simp only [go_sem, ↓reduceIte, Nat.reduceEqDiff, hs2, hrsz]
          refine andK_intro (.inl P2.dext) ?_
          refine anyW_one 10 (by kernel_rfl) ?_
          simp only [go_sem, ↓reduceIte, Nat.reduceEqDiff]
          refine andK_intro (.inl (P2.app P2.len [Ob.own [mk T.length ((d.getD i []).length + 1)]]).dext) ?_
          refine anyW_one 11 (by kernel_rfl) ?_
          have O2 := O1.all P2
          obtain ⟨v', S', ha, hs, hpre, t', g', O5⟩ := O2.addRow Hr (by omega) (by have := own_lt O1.own; omega) (fun j hj => by have := own_lt (O1.row j hj); omega)
          rw [List.length_append, List.length_singleton] at ha
          have has := (P2.aside.trans (O2.addRow_aside ha))
          have hsm : (slen v' ≤ 1099511627776) = True := by simp only [eq_iff_iff, iff_true, hs, withR_len]; omega
          simp only [go_sem, ↓reduceIte, Nat.reduceEqDiff, ha, hsm]
          refine andK_intro (.inl has.ext) ?_
          refine anyW_one 12 (by kernel_rfl) ?_
          simp only [go_sem, ↓reduceIte, Nat.reduceEqDiff]
          refine andK_intro (.inl has.ext) ?_
          refine anyW_done (by kernel_rfl) ?_
          simp only [go_sem, ↓reduceIte, Nat.reduceEqDiff]
          refine forK_step (v') hi hi0 ?_ ?_
          · have hib := Nat.lt_of_lt_of_le hi hN; simp only [go_sem, ↓reduceIte, Nat.reduceEqDiff, and_self, and_true, true_and, Int.ofNat_zero, Int.ofNat_one, Int.cast_ofNat_Int, wrap_succ hib]
          exact ⟨P1.trans ((P2.mono b1).trans hpre), t', g', by rw [withR_succ]; exact O5⟩
      · skip
        simp only [go_sem, ↓reduceIte, Nat.reduceEqDiff]
        have PA : Pre Si.length Si (Si ++ [Ob.own [Value.int .i64 (xs.getD i 0)]]) := (Pre.refl _ _).app (Nat.le_refl _) _
        refine andK_intro (.inl PA.dext) ?_
        have H1a : (Si ++ [Ob.own [Value.int .i64 (xs.getD i 0)]] : Store)[Si.length]? = some (.own [.int .i64 (xs.getD i 0)]) := own_last
        have hla : (Si ++ [Ob.own [Value.int .i64 (xs.getD i 0)]] : Store).length = Si.length + 1 := by simp
        generalize Si ++ [Ob.own [Value.int .i64 (xs.getD i 0)]] = A1 at PA H1a hla ⊢
        refine anyW_one 1 (by kernel_rfl) ?_
        simp only [go_sem, ↓reduceIte, Nat.reduceEqDiff]
        have PB : Pre Si.length Si (A1 ++ [Ob.own []]) := PA.app (by omega) _
        refine andK_intro (.inl PB.dext) ?_
        have HE : (A1 ++ [Ob.own []] : Store)[A1.length]? = some (.own []) := own_last
        have H1' := own_app (T := [Ob.own []]) H1a
        have hlB : (A1 ++ [Ob.own []] : Store).length = A1.length + 1 := by simp
        generalize A1 ++ [Ob.own []] = B1 at PB HE H1' hlB ⊢
        refine anyW_one 3 (by kernel_rfl) ?_
        obtain ⟨T, hc1, hl1, hk1, Hq⟩ := build_row HE (hrow.ext PB.ext)
        have PT : Pre Si.length Si T := ⟨by omega, fun g hg => by rw [hk1 g (by omega) (by omega)]; exact PB.low g hg⟩
        have H1 : T[Si.length]? = some (.own [.int .i64 (xs.getD i 0)]) := by rw [hk1 _ (by omega) (by omega)]; exact H1'
        simp only [go_sem, ↓reduceIte, Nat.reduceEqDiff, hc1, hrsz0]
        refine andK_intro (.inl PT.dext) ?_
        obtain ⟨T2, hs2, hl2, hk2, Hr⟩ := snoc_row Hq H1
        have P2 : Pre Si.length Si T2 := ⟨by have := PT.len; omega, fun g hg => by rw [hk2 g (by have := PT.len; omega) (by omega)]; exact PT.low g hg⟩
        have hPl := PT.len
        refine anyW_one 9 (by kernel_rfl) ?_
        simp only [go_sem, ↓reduceIte, Nat.reduceEqDiff, hs2, hrsz]
        refine andK_intro (.inl P2.dext) ?_
        refine anyW_one 10 (by kernel_rfl) ?_
        simp only [go_sem, ↓reduceIte, Nat.reduceEqDiff]
        refine andK_intro (.inl (P2.app P2.len [Ob.own [mk T.length ((d.getD i []).length + 1)]]).dext) ?_
        refine anyW_one 11 (by kernel_rfl) ?_
        have O2 := O1.all P2
        obtain ⟨v', S', ha, hs, hpre, t', g', O5⟩ := O2.addRow Hr (by omega) (by have := own_lt O1.own; omega) (fun j hj => by have := own_lt (O1.row j hj); omega)
        rw [List.length_append, List.length_singleton] at ha
        have has := (P2.aside.trans (O2.addRow_aside ha))
        have hsm : (slen v' ≤ 1099511627776) = True := by simp only [eq_iff_iff, iff_true, hs, withR_len]; omega
        simp only [go_sem, ↓reduceIte, Nat.reduceEqDiff, ha, hsm]
        refine andK_intro (.inl has.ext) ?_
        refine anyW_one 12 (by kernel_rfl) ?_
        simp only [go_sem, ↓reduceIte, Nat.reduceEqDiff]
        refine andK_intro (.inl has.ext) ?_
        refine anyW_done (by kernel_rfl) ?_
        simp only [go_sem, ↓reduceIte, Nat.reduceEqDiff]
        refine forK_step (v') hi hi0 ?_ ?_
        · have hib := Nat.lt_of_lt_of_le hi hN; simp only [go_sem, ↓reduceIte, Nat.reduceEqDiff, and_self, and_true, true_and, Int.ofNat_zero, Int.ofNat_one, Int.cast_ofNat_Int, wrap_succ hib]
        exact ⟨P1.trans ((P2.mono b1).trans hpre), t', g', by rw [withR_succ]; exact O5⟩
    · have he2 := he.symm
      clear he
      have I1 := hI.ext P1.ext
      have b1 := P1.len
      rw [← he2] at O1
      have hEa : Pre Si.length Si (Si ++ [Ob.own []]) := (Pre.refl _ _).app (Nat.le_refl _) _
      have HE : (Si ++ [Ob.own []] : Store)[Si.length]? = some (.own []) := own_last
      obtain ⟨T1, hc1, hl1, hk1, Hq⟩ := build_row HE (I1.ext hEa.ext)
      have hla : (Si ++ [Ob.own []] : Store).length = Si.length + 1 := by simp
      have P1' : Pre Si.length Si T1 := ⟨by omega, fun g hg => by rw [hk1 g (by omega) (by omega)]; exact hEa.low g hg⟩
      have hxz0 : (xs.length ≤ 1099511627776) = True := by simp only [eq_iff_iff, iff_true]; omega
      have hxz : (xs.length + 1 ≤ 1099511627776) = True := by simp only [eq_iff_iff, iff_true]; omega
      have PT : Pre Si.length Si (T1 ++ [Ob.own [Value.int .i64 0]]) := P1'.app (by omega) _
      have H1 : (T1 ++ [Ob.own [Value.int .i64 0]] : Store)[T1.length]? = some (.own [.int .i64 0]) := own_last
      replace Hq := own_app (T := [Ob.own [Value.int .i64 0]]) Hq
      have hlT : (T1 ++ [Ob.own [Value.int .i64 0]] : Store).length = T1.length + 1 := by simp
      simp only [go_sem, ↓reduceIte, Nat.reduceEqDiff, hc1, hxz0]
      generalize T1 ++ [Ob.own [Value.int .i64 0]] = T at PT H1 Hq hlT ⊢
      obtain ⟨T2, hs2, hl2, hk2, Hr⟩ := snoc_row Hq H1
      have P2 : Pre Si.length Si T2 := ⟨by have := PT.len; omega, fun g hg => by rw [hk2 g (by have := PT.len; omega) (by omega)]; exact PT.low g hg⟩
      have hPl := PT.len
      have O2 := O1.all P2
      obtain ⟨v', S', ha, hs, hpre, t', g', O5⟩ := O2.addRow Hr (by omega) (by have := own_lt O1.own; omega) (fun j hj => by have := own_lt (O1.row j hj); omega)
      rw [List.length_append, List.length_singleton] at ha
      have hsm : (slen v' ≤ 1099511627776) = True := by simp only [eq_iff_iff, iff_true, hs, withR_len]; omega
      have hat : atomB v' = true := by rw [O5.top]; rfl
      simp only [go_sem, ↓reduceIte, Nat.reduceEqDiff, hs2, hxz, ha, hsm, hat]
      exact ⟨⟨_, rfl, .inr ⟨t', g', by rw [withV_yes hS]; exact O5⟩⟩, P1.trans ((P2.mono b1).trans hpre)⟩
    · exact ⟨P0, _, _, O0⟩

theorem sWithPoint_c (S : Store) (v : Value) (r : Nat → Value) (d : List (List Int)) (hM : Mat S v r d) (hd : d.length ≤ maxLen) (vf : Value) (xs : List Int) (hI : Ints S vf xs) (hx : xs.length ≤ maxLen) :
    ACalls Try.prog 42 [v, vf] S fun u S' => (∃ w, u = .tuple #[w, .bool (fitB d xs)] ∧ MineT S.length S' w (withV d xs)) ∧ Pre S.length S S' := by
  refine ACalls.intro (ts := [4, 5]) 43 follows Try.func42 rfl (by kernel_rfl) (by kernel_rfl) (by simp) ?_
  have hsl := hM.sl
  have hlen := hM.len
  have hxsl := hI.sl
  have hxlen := hI.len
  simp only [go_sem, ↓reduceIte, Nat.reduceEqDiff, argEnv]
  refine callK.intro (by kernel_rfl) (sPointFits_c S v r d hM hd vf xs hI hx) ?_
  rintro _ _ ⟨rfl, rfl⟩
  simp only [go_sem, ↓reduceIte, Nat.reduceEqDiff]
  cases hF : fitB d xs with
  | false =>
    simp only [go_sem, ↓reduceIte, Nat.reduceEqDiff, hF]
    exact ⟨⟨_, rfl, .inr ⟨_, _, by rw [withV_no hF]; exact OT.none (Nat.le_refl _)⟩⟩, (Pre.refl _ _).app (Nat.le_refl _) _⟩
  | true =>
    have hS := fitB_is hF
    have h6 := hS.2.1
    have hxl : xs.length = d.length := hS.2.2.1
    have hN : d.length ≤ 9223372036854775807 := by omega
    have O0 : OT S.length (S ++ [.own []]) (mk S.length 0) S.length (fun _ => 0) [] := OT.none (Nat.le_refl _)
    have P0 : Pre S.length S (S ++ [.own []]) := (Pre.refl _ _).app (Nat.le_refl _) _
    simp only [go_sem, ↓reduceIte, Nat.reduceEqDiff, hsl, hlen, hF]
    generalize S ++ [Ob.own []] = S0 at O0 P0 ⊢
    generalize mk S.length 0 = y0 at O0 ⊢
    refine aw_count 7 [0, 1] (fun (y : Value) => [(6, y)]) (0) (d.length) (fun i y SS => Pre S.length S SS ∧ ∃ t g, OT S.length SS y t g (withR d xs i)) (y0) ?_ ?_ ?_ ?_
    · simp only [go_sem, ↓reduceIte, Nat.reduceEqDiff, and_self, and_true, true_and, Int.ofNat_zero, Int.ofNat_one, Int.cast_ofNat_Int, hsl, hlen]
    · omega
    rotate_left
    rintro i y Si hi0 hi ⟨P1, t, g, O1⟩
    simp only [go_sem, ↓reduceIte, Nat.reduceEqDiff, hsl, hlen]
    refine condK_lt hi (fun hi => ?_) (fun he => ?_)
    · have M1 := hM.ext P1.ext
      have I1 := hI.ext P1.ext
      have b1 := P1.len
      have PD := P1.set O1.bt .dead
      have MD := hM.ext PD.ext
      have ID := hI.ext PD.ext
      have hix : i < xs.length := by omega
      have hrow := M1.row i hi
      have hrl := hS.1.1.sq i hi
      have hrsz0 : ((d.getD i []).length ≤ 1099511627776) = True := by simp only [eq_iff_iff, iff_true]; omega
      have hrsz : ((d.getD i []).length + 1 ≤ 1099511627776) = True := by simp only [eq_iff_iff, iff_true]; omega
      simp only [go_sem, ↓reduceIte, Nat.reduceEqDiff, hsl, hlen, hi, M1.get]
      refine draw_mixD t [true, false, true, true, true, true, false, true, true, true, true] 7 ?_ (by kernel_rfl)
      simp only [go_sem, ↓reduceIte, Nat.reduceEqDiff, hsl, hlen, hi, hxsl, hxlen, hix, MD.get, ID.get]
      refine anyW_two 1 11 (by kernel_rfl) ?_ ?_
      · skip
        simp only [go_sem, ↓reduceIte, Nat.reduceEqDiff]
        have hEa : Pre Si.length Si (Si ++ [Ob.own []]) := (Pre.refl _ _).app (Nat.le_refl _) _
        refine andK_intro (.inl hEa.dext) ?_
        have HE : (Si ++ [Ob.own []] : Store)[Si.length]? = some (.own []) := own_last
        have hla : (Si ++ [Ob.own []] : Store).length = Si.length + 1 := by simp
        generalize Si ++ [Ob.own []] = A1 at hEa HE hla ⊢
        refine anyW_two 6 11 (by kernel_rfl) ?_ ?_
        · obtain ⟨T1, hc1, hl1, hk1, Hq⟩ := build_row HE (hrow.ext hEa.ext)
          have P1' : Pre Si.length Si T1 := ⟨by omega, fun g hg => by rw [hk1 g (by omega) (by omega)]; exact hEa.low g hg⟩
          simp only [go_sem, ↓reduceIte, Nat.reduceEqDiff, hc1, hrsz0]
          refine andK_intro (.inl P1'.dext) ?_
          refine anyW_one 11 (by kernel_rfl) ?_
          simp only [go_sem, ↓reduceIte, Nat.reduceEqDiff]
          have PT : Pre Si.length Si (T1 ++ [Ob.own [Value.int .i64 (xs.getD i 0)]]) := P1'.app (by omega) _
          refine andK_intro (.inl PT.dext) ?_
          have H1 : (T1 ++ [Ob.own [Value.int .i64 (xs.getD i 0)]] : Store)[T1.length]? = some (.own [.int .i64 (xs.getD i 0)]) := own_last
          replace Hq := own_app (T := [Ob.own [Value.int .i64 (xs.getD i 0)]]) Hq
          have hlT : (T1 ++ [Ob.own [Value.int .i64 (xs.getD i 0)]] : Store).length = T1.length + 1 := by simp
          generalize T1 ++ [Ob.own [Value.int .i64 (xs.getD i 0)]] = T at PT H1 Hq hlT ⊢
          obtain ⟨T2, hs2, hl2, hk2, Hr⟩ := snoc_row Hq H1
          have P2 : Pre Si.length Si T2 := ⟨by have := PT.len; omega, fun g hg => by rw [hk2 g (by have := PT.len; omega) (by omega)]; exact PT.low g hg⟩
          have hPl := PT.len
          refine anyW_one 12 (by kernel_rfl) ?_
          simp only [go_sem, ↓reduceIte, Nat.reduceEqDiff, hs2, hrsz]
          refine andK_intro (.inl P2.dext) ?_
          refine anyW_one 13 (by kernel_rfl) ?_
          simp only [go_sem, ↓reduceIte, Nat.reduceEqDiff]
          refine andK_intro (.inl (P2.app P2.len [Ob.own [mk T.length ((d.getD i []).length + 1)]]).dext) ?_
          refine anyW_one 14 (by kernel_rfl) ?_
          have O2 := O1.all P2
          obtain ⟨v', S', ha, hs, hpre, t', g', O5⟩ := O2.addRow Hr (by omega) (by have := own_lt O1.own; omega) (fun j hj => by have := own_lt (O1.row j hj); omega)
          rw [List.length_append, List.length_singleton] at ha
          have has := (P2.aside.trans (O2.addRow_aside ha))
          have hsm : (slen v' ≤ 1099511627776) = True := by simp only [eq_iff_iff, iff_true, hs, withR_len]; omega
          simp only [go_sem, ↓reduceIte, Nat.reduceEqDiff, ha, hsm]
          refine andK_intro (.inl has.ext) ?_
          refine anyW_one 15 (by kernel_rfl) ?_
          simp only [go_sem, ↓reduceIte, Nat.reduceEqDiff]
          refine andK_intro (.inl has.ext) ?_
          refine anyW_done (by kernel_rfl) ?_
          simp only [go_sem, ↓reduceIte, Nat.reduceEqDiff]
          refine forK_step (v') hi hi0 ?_ ?_
          · have hib := Nat.lt_of_lt_of_le hi hN; simp only [go_sem, ↓reduceIte, Nat.reduceEqDiff, and_self, and_true, true_and, Int.ofNat_zero, Int.ofNat_one, Int.cast_ofNat_Int, wrap_succ hib]
          exact ⟨P1.trans ((P2.mono b1).trans hpre), t', g', by rw [withR_succ]; exact O5⟩
        · simp only [go_sem, ↓reduceIte, Nat.reduceEqDiff]
          have PB : Pre Si.length Si (A1 ++ [Ob.own [Value.int .i64 (xs.getD i 0)]]) := hEa.app (by omega) _
          refine andK_intro (.inl PB.dext) ?_
          have H1' : (A1 ++ [Ob.own [Value.int .i64 (xs.getD i 0)]] : Store)[A1.length]? = some (.own [.int .i64 (xs.getD i 0)]) := own_last
          have HE' := own_app (T := [Ob.own [Value.int .i64 (xs.getD i 0)]]) HE
          have hlB : (A1 ++ [Ob.own [Value.int .i64 (xs.getD i 0)]] : Store).length = A1.length + 1 := by simp
          generalize A1 ++ [Ob.own [Value.int .i64 (xs.getD i 0)]] = B1 at PB H1' HE' hlB ⊢
          refine anyW_one 6 (by kernel_rfl) ?_
          obtain ⟨T, hc1, hl1, hk1, Hq⟩ := build_row HE' (hrow.ext PB.ext)
          have PT : Pre Si.length Si T := ⟨by omega, fun g hg => by rw [hk1 g (by omega) (by omega)]; exact PB.low g hg⟩
          have H1 : T[A1.length]? = some (.own [.int .i64 (xs.getD i 0)]) := by rw [hk1 _ (by omega) (by omega)]; exact H1'
          simp only [go_sem, ↓reduceIte, Nat.reduceEqDiff, hc1, hrsz0]
          refine andK_intro (.inl PT.dext) ?_
          obtain ⟨T2, hs2, hl2, hk2, Hr⟩ := snoc_row Hq H1
          have P2 : Pre Si.length Si T2 := ⟨by have := PT.len; omega, fun g hg => by rw [hk2 g (by have := PT.len; omega) (by omega)]; exact PT.low g hg⟩
          have hPl := PT.len
          refine anyW_one 12 (by kernel_rfl) ?_
          simp only [go_sem, ↓reduceIte, Nat.reduceEqDiff, hs2, hrsz]
          refine andK_intro (.inl P2.dext) ?_
          refine anyW_one 13 (by kernel_rfl) ?_
          simp only [go_sem, ↓reduceIte, Nat.reduceEqDiff]
          refine andK_intro (.inl (P2.app P2.len [Ob.own [mk T.length ((d.getD i []).length + 1)]]).dext) ?_
          refine anyW_one 14 (by kernel_rfl) ?_
          have O2 := O1.all P2
          obtain ⟨v', S', ha, hs, hpre, t', g', O5⟩ := O2.addRow Hr (by omega) (by have := own_lt O1.own; omega) (fun j hj => by have := own_lt (O1.row j hj); omega)
          rw [List.length_append, List.length_singleton] at ha
          have has := (P2.aside.trans (O2.addRow_aside ha))
          have hsm : (slen v' ≤ 1099511627776) = True := by simp only [eq_iff_iff, iff_true, hs, withR_len]; omega
          simp only [go_sem, ↓reduceIte, Nat.reduceEqDiff, ha, hsm]
          refine andK_intro (.inl has.ext) ?_
          refine anyW_one 15 (by kernel_rfl) ?_
          simp only [go_sem, ↓reduceIte, Nat.reduceEqDiff]
          refine andK_intro (.inl has.ext) ?_
          refine anyW_done (by kernel_rfl) ?_
          simp only [go_sem, ↓reduceIte, Nat.reduceEqDiff]
          refine forK_step (v') hi hi0 ?_ ?_
          · have hib := Nat.lt_of_lt_of_le hi hN; simp only [go_sem, ↓reduceIte, Nat.reduceEqDiff, and_self, and_true, true_and, Int.ofNat_zero, Int.ofNat_one, Int.cast_ofNat_Int, wrap_succ hib]
          exact ⟨P1.trans ((P2.mono b1).trans hpre), t', g', by rw [withR_succ]; exact O5⟩
      · skip
        simp only [go_sem, ↓reduceIte, Nat.reduceEqDiff]
        have PA : Pre Si.length Si (Si ++ [Ob.own [Value.int .i64 (xs.getD i 0)]]) := (Pre.refl _ _).app (Nat.le_refl _) _
        refine andK_intro (.inl PA.dext) ?_
        have H1a : (Si ++ [Ob.own [Value.int .i64 (xs.getD i 0)]] : Store)[Si.length]? = some (.own [.int .i64 (xs.getD i 0)]) := own_last
        have hla : (Si ++ [Ob.own [Value.int .i64 (xs.getD i 0)]] : Store).length = Si.length + 1 := by simp
        generalize Si ++ [Ob.own [Value.int .i64 (xs.getD i 0)]] = A1 at PA H1a hla ⊢
        refine anyW_one 1 (by kernel_rfl) ?_
        simp only [go_sem, ↓reduceIte, Nat.reduceEqDiff]
        have PB : Pre Si.length Si (A1 ++ [Ob.own []]) := PA.app (by omega) _
        refine andK_intro (.inl PB.dext) ?_
        have HE : (A1 ++ [Ob.own []] : Store)[A1.length]? = some (.own []) := own_last
        have H1' := own_app (T := [Ob.own []]) H1a
        have hlB : (A1 ++ [Ob.own []] : Store).length = A1.length + 1 := by simp
        generalize A1 ++ [Ob.own []] = B1 at PB HE H1' hlB ⊢
        refine anyW_one 6 (by kernel_rfl) ?_
        obtain ⟨T, hc1, hl1, hk1, Hq⟩ := build_row HE (hrow.ext PB.ext)
        have PT : Pre Si.length Si T := ⟨by omega, fun g hg => by rw [hk1 g (by omega) (by omega)]; exact PB.low g hg⟩
        have H1 : T[Si.length]? = some (.own [.int .i64 (xs.getD i 0)]) := by rw [hk1 _ (by omega) (by omega)]; exact H1'
        simp only [go_sem, ↓reduceIte, Nat.reduceEqDiff, hc1, hrsz0]
        refine andK_intro (.inl PT.dext) ?_
        obtain ⟨T2, hs2, hl2, hk2, Hr⟩ := snoc_row Hq H1
        have P2 : Pre Si.length Si T2 := ⟨by have := PT.len; omega, fun g hg => by rw [hk2 g (by have := PT.len; omega) (by omega)]; exact PT.low g hg⟩
        have hPl := PT.len
        refine anyW_one 12 (by kernel_rfl) ?_
        simp only [go_sem, ↓reduceIte, Nat.reduceEqDiff, hs2, hrsz]
        refine andK_intro (.inl P2.dext) ?_
        refine anyW_one 13 (by kernel_rfl) ?_
        simp only [go_sem, ↓reduceIte, Nat.reduceEqDiff]
        refine andK_intro (.inl (P2.app P2.len [Ob.own [mk T.length ((d.getD i []).length + 1)]]).dext) ?_
        refine anyW_one 14 (by kernel_rfl) ?_
        have O2 := O1.all P2
        obtain ⟨v', S', ha, hs, hpre, t', g', O5⟩ := O2.addRow Hr (by omega) (by have := own_lt O1.own; omega) (fun j hj => by have := own_lt (O1.row j hj); omega)
        rw [List.length_append, List.length_singleton] at ha
        have has := (P2.aside.trans (O2.addRow_aside ha))
        have hsm : (slen v' ≤ 1099511627776) = True := by simp only [eq_iff_iff, iff_true, hs, withR_len]; omega
        simp only [go_sem, ↓reduceIte, Nat.reduceEqDiff, ha, hsm]
        refine andK_intro (.inl has.ext) ?_
        refine anyW_one 15 (by kernel_rfl) ?_
        simp only [go_sem, ↓reduceIte, Nat.reduceEqDiff]
        refine andK_intro (.inl has.ext) ?_
        refine anyW_done (by kernel_rfl) ?_
        simp only [go_sem, ↓reduceIte, Nat.reduceEqDiff]
        refine forK_step (v') hi hi0 ?_ ?_
        · have hib := Nat.lt_of_lt_of_le hi hN; simp only [go_sem, ↓reduceIte, Nat.reduceEqDiff, and_self, and_true, true_and, Int.ofNat_zero, Int.ofNat_one, Int.cast_ofNat_Int, wrap_succ hib]
        exact ⟨P1.trans ((P2.mono b1).trans hpre), t', g', by rw [withR_succ]; exact O5⟩
    · have he2 := he.symm
      clear he
      have I1 := hI.ext P1.ext
      have b1 := P1.len
      rw [← he2] at O1
      have hEa : Pre Si.length Si (Si ++ [Ob.own []]) := (Pre.refl _ _).app (Nat.le_refl _) _
      have HE : (Si ++ [Ob.own []] : Store)[Si.length]? = some (.own []) := own_last
      obtain ⟨T1, hc1, hl1, hk1, Hq⟩ := build_row HE (I1.ext hEa.ext)
      have hla : (Si ++ [Ob.own []] : Store).length = Si.length + 1 := by simp
      have P1' : Pre Si.length Si T1 := ⟨by omega, fun g hg => by rw [hk1 g (by omega) (by omega)]; exact hEa.low g hg⟩
      have hxz0 : (xs.length ≤ 1099511627776) = True := by simp only [eq_iff_iff, iff_true]; omega
      have hxz : (xs.length + 1 ≤ 1099511627776) = True := by simp only [eq_iff_iff, iff_true]; omega
      have PT : Pre Si.length Si (T1 ++ [Ob.own [Value.int .i64 0]]) := P1'.app (by omega) _
      have H1 : (T1 ++ [Ob.own [Value.int .i64 0]] : Store)[T1.length]? = some (.own [.int .i64 0]) := own_last
      replace Hq := own_app (T := [Ob.own [Value.int .i64 0]]) Hq
      have hlT : (T1 ++ [Ob.own [Value.int .i64 0]] : Store).length = T1.length + 1 := by simp
      simp only [go_sem, ↓reduceIte, Nat.reduceEqDiff, hc1, hxz0]
      generalize T1 ++ [Ob.own [Value.int .i64 0]] = T at PT H1 Hq hlT ⊢
      obtain ⟨T2, hs2, hl2, hk2, Hr⟩ := snoc_row Hq H1
      have P2 : Pre Si.length Si T2 := ⟨by have := PT.len; omega, fun g hg => by rw [hk2 g (by have := PT.len; omega) (by omega)]; exact PT.low g hg⟩
      have hPl := PT.len
      have O2 := O1.all P2
      obtain ⟨v', S', ha, hs, hpre, t', g', O5⟩ := O2.addRow Hr (by omega) (by have := own_lt O1.own; omega) (fun j hj => by have := own_lt (O1.row j hj); omega)
      rw [List.length_append, List.length_singleton] at ha
      have hsm : (slen v' ≤ 1099511627776) = True := by simp only [eq_iff_iff, iff_true, hs, withR_len]; omega
      have hat : atomB v' = true := by rw [O5.top]; rfl
      simp only [go_sem, ↓reduceIte, Nat.reduceEqDiff, hs2, hxz, ha, hsm, hat]
      exact ⟨⟨_, rfl, .inr ⟨t', g', by rw [withV_yes hS]; exact O5⟩⟩, P1.trans ((P2.mono b1).trans hpre)⟩
    · exact ⟨P0, _, _, O0⟩

end Go.Proofs.Yticdbohhnkpelaa

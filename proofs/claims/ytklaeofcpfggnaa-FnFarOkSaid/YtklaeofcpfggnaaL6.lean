/- The law FnFarOk. -/
import Derived.Test.YtklaeofcpfggnaaW7
namespace Go.Proofs.Ytklaeofcpfggnaa
open Go Go.Mill
set_option maxRecDepth 100000
set_option linter.unusedSimpArgs false
set_option linter.unusedVariables false

theorem FnFarOk_c (S : Store) (v : Value) (xs : List Int) (hI : rd S v = some (xs.map (.int .u8))) (hx : xs.length ≤ maxLen) (hb : ∀ b ∈ xs, 0 ≤ b ∧ b ≤ 255) :
    ACalls Try.prog 5 [v] S fun u _ => u = .bool true := by
  refine ACalls.intro (ts := [2]) 86 follows Try.func5 rfl (by kernel_rfl) (by kernel_rfl) (by simp) ?_
  have hsl := rd_isSl hI
  have hlen : slen v = xs.length := by rw [rd_slen hI]; simp
  simp only [go_sem, ↓reduceIte, Nat.reduceEqDiff, argEnv, hsl, hlen]
  refine condK_dec (fun q1 h1 => ?_) (fun q1 h1 => ?_)
  · simp only [go_sem, ↓reduceIte, Nat.reduceEqDiff, h1]
  simp only [go_sem, ↓reduceIte, Nat.reduceEqDiff, h1]
  refine callK.intro (by kernel_rfl) (DrawFarOk_c S v xs hI hx hb) ?_
  rintro w S1 ⟨r, d, M1, E1, hd6, hr6⟩
  have hd : d.length ≤ maxLen := by have : (6 : Nat) ≤ maxLen := by decide
                                    omega
  have hN : d.length ≤ 9223372036854775807 := by omega
  simp only [go_sem, ↓reduceIte, Nat.reduceEqDiff]
  refine callK.intro (by kernel_rfl) (iFarOk_c _ _ _ _ M1 hd) ?_
  rintro _ _ ⟨rfl, rfl⟩
  simp only [go_sem, ↓reduceIte, Nat.reduceEqDiff]
  refine callK.intro (by kernel_rfl) (sFarOk_c _ _ _ _ M1 hd) ?_
  rintro _ _ ⟨rfl, rfl⟩
  simp only [go_sem, ↓reduceIte, Nat.reduceEqDiff]
  simp only [go_sem, ↓reduceIte, Nat.reduceEqDiff, bne_self_eq_false, Try.underlying4]
  have O0 : OT S1.length (S1 ++ [.own []]) (mk S1.length 0) S1.length (fun _ => 0) [] := OT.none (Nat.le_refl _)
  have P0 : Pre S1.length S1 (S1 ++ [.own []]) := (Pre.refl _ _).app (Nat.le_refl _) _
  generalize S1 ++ [Ob.own []] = S2 at O0 P0 ⊢
  generalize mk S1.length 0 = t2 at O0 ⊢
  have hL := M1.len
  have hS := M1.sl
  refine aw_count 7 [3, 4] (fun (y : Value × Int) => [(5, y.1), (6, .int .i64 y.2)]) (0) (d.length) (fun k y SS => Pre S1.length S1 SS ∧ ∃ t g, OT S1.length SS y.1 t g ((d.take k).map dbl) ∧ ∀ i j, i < k → j < (d.getD i []).length → IntKind.i64.wrap (2 * at2 d i j) ≤ y.2) ((t2, 0)) ?_ ?_ ?_ ?_
  · simp only [go_sem, ↓reduceIte, Nat.reduceEqDiff, and_self, and_true, true_and, Int.ofNat_zero, Int.ofNat_one, Int.cast_ofNat_Int, hL, hS]
  · omega
  rotate_left
  rintro k y Sk hk0 hk ⟨P3, t, g, O3, hm⟩
  simp only [go_sem, ↓reduceIte, Nat.reduceEqDiff, hL, hS]
  refine condK_lt hk (fun hk => ?_) (fun he => ?_)
  · have b3 := P3.len
    have M3 := M1.ext P3.ext
    have hrow := hr6 k
    have hNk : (d.getD k []).length ≤ 9223372036854775807 := by omega
    simp only [go_sem, ↓reduceIte, Nat.reduceEqDiff]
    have OL0 : OL Sk.length (Sk ++ [.own []]) (mk Sk.length 0) Sk.length [] := OL.none (Nat.le_refl _)
    have P30 : Pre Sk.length Sk (Sk ++ [.own []]) := (Pre.refl _ _).app (Nat.le_refl _) _
    generalize Sk ++ [Ob.own []] = S30 at OL0 P30 ⊢
    generalize mk Sk.length 0 = t3 at OL0 ⊢
    have hrl := M1.rlen k hk
    have hrs := M1.rsl k hk
    refine aw_count 9 [3, 4, 5, 7] (fun (z : Value × Int) => [(6, .int .i64 z.2), (8, z.1)]) (0) ((d.getD k []).length) (fun j z SS => Pre Sk.length Sk SS ∧ (∃ t4, OL Sk.length SS z.1 t4 (dbl ((d.getD k []).take j))) ∧ (∀ i j, i < k → j < (d.getD i []).length → IntKind.i64.wrap (2 * at2 d i j) ≤ z.2) ∧ ∀ j', j' < j → IntKind.i64.wrap (2 * at2 d k j') ≤ z.2) ((t3, y.2)) ?_ ?_ ?_ ?_
    · simp only [go_sem, ↓reduceIte, Nat.reduceEqDiff, and_self, and_true, true_and, Int.ofNat_zero, Int.ofNat_one, Int.cast_ofNat_Int, hL, hS, hk, hrl, hrs]
    · omega
    rotate_left
    rintro j z Sj hj0 hj ⟨P4, ⟨t4, O4⟩, hm1, hm2⟩
    have M4 := M1.ext (P3.trans (P4.mono b3)).ext
    have b4 := P4.len
    have hg4 := M4.get k hk
    have hc4 := M4.cell k
    simp only [go_sem, ↓reduceIte, Nat.reduceEqDiff, hL, hS, hk, hg4, hrl, hrs]
    refine condK_lt hj (fun hj => ?_) (fun he => ?_)
    · obtain ⟨v', S', ha, hs, hpre, t', O5⟩ := O4.add (IntKind.i64.wrap (2 * at2 d k j))
      have hsm : (slen v' ≤ 1099511627776) = True := by simp only [eq_iff_iff, iff_true, hs, dbl_len, List.length_take]; omega
      have P5 := P4.trans hpre
      have M5 := M1.ext (P3.trans (P5.mono b3)).ext
      have hg5 := M5.get k hk
      have hc5 := M5.cell k j hk hj
      have hc4' := hc4 j hk hj
      simp only [go_sem, ↓reduceIte, Nat.reduceEqDiff, hL, hS, hk, hj, hg4, hrl, hrs, hc4', ha, hsm, hg5, hc5]
      refine forK_step ((v', max z.2 (IntKind.i64.wrap (2 * at2 d k j)))) hj hj0 ?_ ?_
      · have hib := Nat.lt_of_lt_of_le hj hNk; simp only [go_sem, ↓reduceIte, Nat.reduceEqDiff, and_self, and_true, true_and, Int.ofNat_zero, Int.ofNat_one, Int.cast_ofNat_Int, wrap_succ hib]
      refine ⟨P5, ⟨t', ?_⟩, fun i' j' hi' hj' => by have := hm1 i' j' hi' hj'; simp only; omega, fun j' hj' => ?_⟩
      · have e := dbl_take hj
        rw [e]; exact O5
      · simp only
        rcases Nat.lt_or_ge j' j with h | h
        · have := hm2 j' h; omega
        · obtain rfl : j' = j := by omega
          omega
    · subst he
      rw [List.take_length] at O4
      have O3' := O3.all P4
      have hb4 := O4.bt
      obtain ⟨v', S', ha, hs, hpre, t', g', O5⟩ := O3'.addRow O4.own (by omega) (by have := own_lt O3.own; omega) (fun i hi => by have := own_lt (O3.row i hi); omega)
      have hz1 : z.1 = mk t4 (dbl (d.getD k [])).length := O4.top
      rw [← hz1] at ha
      have hsm : (slen v' ≤ 1099511627776) = True := by simp only [eq_iff_iff, iff_true, hs, List.length_map, List.length_take]; omega
      have hat : atomB z.1 = true := by rw [hz1]; rfl
      simp only [go_sem, ↓reduceIte, Nat.reduceEqDiff, ha, hsm, hat]
      refine forK_step ((v', z.2)) hk hk0 ?_ ?_
      · have hib := Nat.lt_of_lt_of_le hk hN; simp only [go_sem, ↓reduceIte, Nat.reduceEqDiff, and_self, and_true, true_and, Int.ofNat_zero, Int.ofNat_one, Int.cast_ofNat_Int, wrap_succ hib]
      refine ⟨P3.trans ((P4.mono b3).trans hpre), t', g', ?_, fun i' j' hi' hj' => ?_⟩
      · rw [take_getD (z := []) hk, List.map_append]; exact O5
      · rcases Nat.lt_or_ge i' k with h | h
        · exact hm1 i' j' h hj'
        · obtain rfl : i' = k := by omega
          exact hm2 j' hj'
    · exact ⟨P30, ⟨_, by simpa [dbl] using OL0⟩, hm, fun _ h => absurd h (Nat.not_lt_zero _)⟩
  · subst he
    rw [List.take_length] at O3
    have Mt := O3.mat
    have hfin : (farB d = true → y.2 ≤ 60 → farB (d.map dbl) = true) := fun hF h60 => far_dbl (farB_is hF) hm h60
    have htl : (d.map dbl).length ≤ maxLen := by rw [List.length_map]; exact hd
    have rest : ∀ (S5 : Store), ACalls Try.prog 18 [mk (S5 ++ [Ob.own [.int .i64 0]]).length 1] (S5 ++ [.own [.int .i64 0]] ++ [.own [mk S5.length 1]]) (Ret _ (.bool true)) := fun S5 => by
      have M2 : Mat (S5 ++ [.own [.int .i64 0]] ++ [.own [mk S5.length 1]]) (mk (S5 ++ [Ob.own [.int .i64 0]]).length 1) _ [[0]] :=
        Mat.ofList (rd_own own_last rfl) rfl (fun i hi => by
          match i, hi with
          | 0, _ => exact Ints.own (xs := [0]) (own_app own_last) rfl)
      have := iFarOk_c _ _ _ _ M2 (by simp [maxLen])
      rw [far_zero] at this
      exact this
    have rest2 : ∀ (S5 : Store), ACalls Try.prog 18 [mk S5.length 0] (S5 ++ [.own []]) (Ret _ (.bool false)) := fun S5 => by
      have M2 : Mat (S5 ++ [.own []]) (mk S5.length 0) (fun _ => undef) [] := ⟨rd_own own_last rfl, fun i hi => absurd hi (Nat.not_lt_zero _)⟩
      have := iFarOk_c _ _ _ _ M2 (by simp [maxLen])
      rw [far_none] at this
      exact this
    cases hF : farB d with
    | false =>
      simp only [go_sem, ↓reduceIte, Nat.reduceEqDiff]
      refine callK.intro (by kernel_rfl) (rest _) ?_
      rintro _ _ ⟨rfl, rfl⟩
      simp only [go_sem, ↓reduceIte, Nat.reduceEqDiff]
      refine callK.intro (by kernel_rfl) (rest2 _) ?_
      rintro _ _ ⟨rfl, rfl⟩
      simp only [go_sem, ↓reduceIte, Nat.reduceEqDiff]
      refine callK.intro (by kernel_rfl) (alive_c _) ?_
      rintro _ _ ⟨rfl, -⟩
      simp only [go_sem, ↓reduceIte, Nat.reduceEqDiff]
    | true =>
      simp only [go_sem, ↓reduceIte, Nat.reduceEqDiff]
      refine gK_dec (fun q2 h2 => ?_) (fun q2 h2 => ?_)
      · simp only [go_sem, ↓reduceIte, Nat.reduceEqDiff, h2]
        refine callK.intro (by kernel_rfl) (rest _) ?_
        rintro _ _ ⟨rfl, rfl⟩
        simp only [go_sem, ↓reduceIte, Nat.reduceEqDiff]
        refine callK.intro (by kernel_rfl) (rest2 _) ?_
        rintro _ _ ⟨rfl, rfl⟩
        simp only [go_sem, ↓reduceIte, Nat.reduceEqDiff]
        refine callK.intro (by kernel_rfl) (alive_c _) ?_
        rintro _ _ ⟨rfl, -⟩
        simp only [go_sem, ↓reduceIte, Nat.reduceEqDiff]
      · simp only [go_sem, ↓reduceIte, Nat.reduceEqDiff, h2]
        refine callK.intro (by kernel_rfl) (iFarOk_c _ _ _ _ Mt htl) ?_
        rintro _ _ ⟨rfl, rfl⟩
        simp only [go_sem, ↓reduceIte, Nat.reduceEqDiff, hfin hF (by omega)]
        refine callK.intro (by kernel_rfl) (rest _) ?_
        rintro _ _ ⟨rfl, rfl⟩
        simp only [go_sem, ↓reduceIte, Nat.reduceEqDiff]
        refine callK.intro (by kernel_rfl) (rest2 _) ?_
        rintro _ _ ⟨rfl, rfl⟩
        simp only [go_sem, ↓reduceIte, Nat.reduceEqDiff]
        refine callK.intro (by kernel_rfl) (alive_c _) ?_
        rintro _ _ ⟨rfl, -⟩
        simp only [go_sem, ↓reduceIte, Nat.reduceEqDiff]
  · exact ⟨P0, _, _, by simpa using O0, fun _ _ h => absurd h (Nat.not_lt_zero _)⟩
end Go.Proofs.Ytklaeofcpfggnaa

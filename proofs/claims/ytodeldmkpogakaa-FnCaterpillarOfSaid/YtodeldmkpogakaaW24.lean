/- Walks: caterpillars, of the reference. -/
import Derived.Test.YtodeldmkpogakaaW1
import Derived.Test.YtodeldmkpogakaaPure11
import Derived.Test.YtodeldmkpogakaaPure5
import Derived.Test.YtodeldmkpogakaaMillQ
namespace Go.Proofs.Ytodeldmkpogakaa
open Go Go.Mill
set_option maxRecDepth 100000
set_option linter.unusedSimpArgs false
set_option linter.unusedVariables false

theorem sCaterpillarOf_c (S : Store) (vs : Value) (sp : List Int) (hI : Ints S vs sp) (hsx : sp.length ≤ maxLen) (vl : Value) (lg : List Int) (hJ : Ints S vl lg) (hlx : lg.length ≤ maxLen) :
    ACalls Try.prog 41 [vs, vl] S fun u S' => (∃ w, u = .tuple #[w, .bool (catB sp lg)] ∧ MineT S.length S' w (catV sp lg)) ∧ Pre S.length S S' := by
  refine ACalls.intro (ts := [4, 5]) 109 follows Try.func41 rfl (by kernel_rfl) (by kernel_rfl) (by simp) ?_
  have hs1 := hI.sl
  have hn1 := hI.len
  have hs2 := hJ.sl
  have hn2 := hJ.len
  have hN : lg.length ≤ 9223372036854775807 := hlx
  have O0 : OT S.length (S ++ [.own []]) (mk S.length 0) S.length (fun _ => 0) [] := OT.none (Nat.le_refl _)
  have P0 : Pre S.length S (S ++ [.own []]) := (Pre.refl _ _).app (Nat.le_refl _) _
  have hw1 : IntKind.i64.wrap ((lg.length : Int) - 1) = (lg.length : Int) - 1 := wrap64 (by omega)
  simp only [go_sem, ↓reduceIte, Nat.reduceEqDiff, argEnv, hs2, hn2]
  have h0a : atomB (mk S.length 0) = true := rfl
  generalize S ++ [Ob.own []] = S0 at O0 P0 ⊢
  generalize mk S.length 0 = y0 at O0 h0a ⊢
  have no : catB sp lg = false → ∀ (S1 : Store) (y : Value) (t : Nat) (g : Nat → Nat) u, OT S.length S1 y t g [] → Pre S.length S S1 → u = Value.tuple #[y, .bool false] → (∃ w, u = .tuple #[w, .bool (catB sp lg)] ∧ MineT S.length S1 w (catV sp lg)) ∧ Pre S.length S S1 := fun hB S1 y t g u O P hu =>
    ⟨⟨y, by rw [hB]; exact hu, .inr ⟨t, g, by rw [catV_no hB]; exact O⟩⟩, P⟩
  refine callK.intro (by kernel_rfl) (l1In_c _ _ _ _) ?_
  rintro _ _ ⟨rfl, rfl⟩
  simp only [go_sem, ↓reduceIte, Nat.reduceEqDiff]
  refine gK_dec (fun q1 h1 => ?_) (fun q1 h1 => ?_)
  · simp only [go_sem, ↓reduceIte, Nat.reduceEqDiff, h1, h0a]
    exact no (catB_no fun h => by have h1 := h.1.two; have h2 := h.1.six; omega) _ _ _ _ _ O0 P0 rfl
  simp only [go_sem, ↓reduceIte, Nat.reduceEqDiff, h1, hs1, hn1, hs2, hn2, hw1]
  refine condK_dec (fun q2 h2 => ?_) (fun q2 h2 => ?_)
  · simp only [go_sem, ↓reduceIte, Nat.reduceEqDiff, h2, h0a]
    exact no (catB_no fun h => by have h1 := h.1.len; omega) _ _ _ _ _ O0 P0 rfl
  have hlen : sp.length + 1 = lg.length := by omega
  have h2 : 2 ≤ lg.length := by omega
  have h6 : lg.length ≤ 6 := by omega
  have I0 := hI.ext P0.ext
  have J0 := hJ.ext P0.ext
  simp only [go_sem, ↓reduceIte, Nat.reduceEqDiff, h2]
  refine aw_count 7 [0, 1, 6] (fun (y : Unit) => []) (0) (lg.length) (fun k y SS => S0 = SS ∧ (∀ i, i < k → 1 ≤ lg.getD i 0 ∧ lg.getD i 0 ≤ 60) ∧ (∀ i, i + 1 < k → 0 ≤ sp.getD i 0 ∧ sp.getD i 0 ≤ 60)) (()) ?_ ?_ ?_ ?_
  · simp only [go_sem, ↓reduceIte, Nat.reduceEqDiff, and_self, and_true, true_and, Int.ofNat_zero, Int.ofNat_one, Int.cast_ofNat_Int, hs2, hn2]
  · omega
  rotate_left
  rintro k y Sk hk0 hk ⟨rfl, hlg, hsp⟩
  simp only [go_sem, ↓reduceIte, Nat.reduceEqDiff, hs2, hn2]
  refine condK_lt hk (fun hk => ?_) (fun he => ?_)
  · simp only [go_sem, ↓reduceIte, Nat.reduceEqDiff, hs2, hn2, hk, J0.get]
    refine callK.intro (by kernel_rfl) (l1In_c _ _ _ _) ?_
    rintro _ _ ⟨rfl, rfl⟩
    simp only [go_sem, ↓reduceIte, Nat.reduceEqDiff]
    refine gK_dec (fun q3 h3 => ?_) (fun q3 h3 => ?_)
    · simp only [go_sem, ↓reduceIte, Nat.reduceEqDiff, h3]
      exact no (catB_no fun h => by have := h.1.leg k hk; omega) _ _ _ _ _ (OT.none (by have := P0.len; omega)) (P0.app (by have := P0.len; omega) _) rfl
    simp only [go_sem, ↓reduceIte, Nat.reduceEqDiff, h3]
    refine gK_dec (fun q4 h4 => ?_) (fun q4 h4 => ?_)
    · have hw2 : IntKind.i64.wrap ((k : Int) - 1) = ((k - 1 : Nat) : Int) := wrap_pred (by omega) (by omega)
      have hk1 : k - 1 < sp.length := by omega
      simp only [go_sem, ↓reduceIte, Nat.reduceEqDiff, h4, hs1, hn1, hw2, hk1, I0.get]
      refine callK.intro (by kernel_rfl) (l1In_c _ _ _ _) ?_
      rintro _ _ ⟨rfl, rfl⟩
      simp only [go_sem, ↓reduceIte, Nat.reduceEqDiff]
      refine condK_dec (fun q5 h5 => ?_) (fun q5 h5 => ?_)
      · simp only [go_sem, ↓reduceIte, Nat.reduceEqDiff, h5]
        exact no (catB_no fun h => by have := h.1.spi (k - 1) hk1; omega) _ _ _ _ _ (OT.none (by have := P0.len; omega)) (P0.app (by have := P0.len; omega) _) rfl
      · simp only [go_sem, ↓reduceIte, Nat.reduceEqDiff, h5]
        refine forK_step (()) hk hk0 ?_ ?_
        · have hib := Nat.lt_of_lt_of_le hk hN; simp only [go_sem, ↓reduceIte, Nat.reduceEqDiff, and_self, and_true, true_and, Int.ofNat_zero, Int.ofNat_one, Int.cast_ofNat_Int, wrap_succ hib]
        refine ⟨rfl, fun i hi => ?_, fun i hi => ?_⟩
        · rcases Nat.lt_or_ge i k with h | h
          · exact hlg i h
          · obtain rfl : i = k := by omega
            omega
        · rcases Nat.lt_or_ge (i + 1) k with h | h
          · exact hsp i h
          · obtain rfl : i = k - 1 := by omega
            omega
    · simp only [go_sem, ↓reduceIte, Nat.reduceEqDiff, h4]
      refine forK_step (()) hk hk0 ?_ ?_
      · have hib := Nat.lt_of_lt_of_le hk hN; simp only [go_sem, ↓reduceIte, Nat.reduceEqDiff, and_self, and_true, true_and, Int.ofNat_zero, Int.ofNat_one, Int.cast_ofNat_Int, wrap_succ hib]
      refine ⟨rfl, fun i hi => ?_, fun i hi => ?_⟩
      · rcases Nat.lt_or_ge i k with h | h
        · exact hlg i h
        · obtain rfl : i = k := by omega
          omega
      · exact hsp i (by omega)
  · subst he
    have hC : CatOk sp lg := ⟨h2, h6, hlen, hlg, fun i hi => hsp i (by omega)⟩
    simp only [go_sem, ↓reduceIte, Nat.reduceEqDiff]
    refine aw_count 8 [0, 1] (fun (y : Value) => [(6, y)]) (0) (lg.length) (fun i y SS => Pre S.length S SS ∧ ∃ t g, OT S.length SS y t g (catT sp lg i)) (y0) ?_ ?_ ?_ ?_
    · simp only [go_sem, ↓reduceIte, Nat.reduceEqDiff, and_self, and_true, true_and, Int.ofNat_zero, Int.ofNat_one, Int.cast_ofNat_Int, hs2, hn2]
    · omega
    rotate_left
    rintro i y Si hi0 hi ⟨P1, t, g, O1⟩
    simp only [go_sem, ↓reduceIte, Nat.reduceEqDiff, hs2, hn2]
    refine condK_lt hi (fun hi => ?_) (fun he => ?_)
    · have OL1 : OL Si.length (Si ++ [.own []]) (mk Si.length 0) Si.length [] := OL.none (Nat.le_refl _)
      have L1 := LX.start OL1
      have b1 := P1.len
      have hl1 : (Si ++ [Ob.own []] : Store).length = Si.length + 1 := by simp
      have PS : Pre Si.length Si (Si ++ [.own []]) := (Pre.refl _ _).app (Nat.le_refl _) _
      simp only [go_sem, ↓reduceIte, Nat.reduceEqDiff]
      generalize mk Si.length 0 = z0 at OL1 L1 ⊢
      generalize Si ++ [Ob.own []] = S1 at OL1 L1 hl1 PS ⊢
      refine aw_count 10 [0, 1, 6, 8] (fun (z : Value) => [(9, z)]) (0) (lg.length) (fun j z SS => LX Si.length S1 SS z (catRow sp lg i j)) (z0) ?_ ?_ ?_ ?_
      · simp only [go_sem, ↓reduceIte, Nat.reduceEqDiff, and_self, and_true, true_and, Int.ofNat_zero, Int.ofNat_one, Int.cast_ofNat_Int, hs2, hn2]
      · omega
      rotate_left
      rintro j z Sj hj0 hj L2
      simp only [go_sem, ↓reduceIte, Nat.reduceEqDiff, hs2, hn2]
      refine condK_lt hj (fun hj => ?_) (fun he => ?_)
      · have P2 := PS.trans (L2.aside.toPre (by omega))
        have I2 := (hI.ext P1.ext).ext P2.ext
        have J2 := (hJ.ext P1.ext).ext P2.ext
        have hmin : min ((i : Nat) : Int) ((j : Nat) : Int) = ((min i j : Nat) : Int) := by omega
        have hmax : max ((i : Nat) : Int) ((j : Nat) : Int) = ((max i j : Nat) : Int) := by omega
        have hNm : max i j ≤ 9223372036854775807 := by omega
        have pin := fun k hk => pos_in hC k hk
        simp only [go_sem, ↓reduceIte, Nat.reduceEqDiff, hmin]
        refine aw_count 12 [0, 1, 6, 8, 9, 10] (fun (x : Int) => [(11, .int .i64 x)]) ((min i j)) ((max i j)) (fun m x SS => Sj = SS ∧ x = posN sp m - posN sp (min i j)) (0) ?_ ?_ ?_ ?_
        · simp only [go_sem, ↓reduceIte, Nat.reduceEqDiff, and_self, and_true, true_and, Int.ofNat_zero, Int.ofNat_one, Int.cast_ofNat_Int, hmax]
        · omega
        rotate_left
        rintro m x Sm hm0 hm ⟨rfl, hx⟩
        simp only [go_sem, ↓reduceIte, Nat.reduceEqDiff, hmax]
        refine condK_lt hm (fun hm => ?_) (fun he => ?_)
        · have hm' : m < sp.length := by omega
          have hwx : IntKind.i64.wrap (x + sp.getD m 0) = x + sp.getD m 0 := by
            have a1 := pin m (by omega)
            have a2 := pin (min i j) (by omega)
            have a3 := hC.spi m hm'
            exact wrap64 (by omega)
          simp only [go_sem, ↓reduceIte, Nat.reduceEqDiff, hs1, hn1, hm', I2.get, hwx]
          refine forK_step (x + sp.getD m 0) hm hm0 ?_ ?_
          · have hib := Nat.lt_of_lt_of_le hm hNm; simp only [go_sem, ↓reduceIte, Nat.reduceEqDiff, and_self, and_true, true_and, Int.ofNat_zero, Int.ofNat_one, Int.cast_ofNat_Int, wrap_succ hib]
          exact ⟨rfl, by simp only [posN]; omega⟩
        · have hx2 : x = max (posN sp i) (posN sp j) - min (posN sp i) (posN sp j) := by
            rw [hx, he]
            rcases Nat.le_total i j with h | h
            · have := pos_mono hC (i := i) j h (by omega)
              rw [Nat.max_eq_right h, Nat.min_eq_left h]; omega
            · have := pos_mono hC (i := j) i h (by omega)
              rw [Nat.max_eq_left h, Nat.min_eq_right h]; omega
          clear he
          have heq : decide (¬ ((i : Nat) : Int) = ((j : Nat) : Int)) = decide (¬ i = j) := by rw [decide_eq_decide]; omega
          have l1 := hC.leg i hi
          have l2 := hC.leg j hj
          have b1 := pin i (by omega)
          have b2 := pin j (by omega)
          have w1 : IntKind.i64.wrap (x + lg.getD i 0) = x + lg.getD i 0 := wrap64 (by omega)
          have w2 : IntKind.i64.wrap (x + lg.getD i 0 + lg.getD j 0) = x + lg.getD i 0 + lg.getD j 0 := wrap64 (by omega)
          have hcl := @catRow_len sp lg i j
          simp only [go_sem, ↓reduceIte, Nat.reduceEqDiff, heq]
          refine condK_dec (fun q6 h6 => ?_) (fun q6 h6 => ?_)
          · obtain ⟨v', S', ha, hs, L3⟩ := L2.add (x + lg.getD i 0 + lg.getD j 0)
            have hsm : (slen v' ≤ 1099511627776) = True := by simp only [eq_iff_iff, iff_true, hs]; omega
            simp only [go_sem, ↓reduceIte, Nat.reduceEqDiff, h6]
            refine draw_read ?_ (by kernel_rfl)
            simp only [go_sem, ↓reduceIte, Nat.reduceEqDiff, hs2, hn2, hi, hj, J2.get, w1, w2]
            simp only [go_sem, ↓reduceIte, Nat.reduceEqDiff, ha, hsm]
            refine forK_step (v') hj hj0 ?_ ?_
            · have hib := Nat.lt_of_lt_of_le hj hN; simp only [go_sem, ↓reduceIte, Nat.reduceEqDiff, and_self, and_true, true_and, Int.ofNat_zero, Int.ofNat_one, Int.cast_ofNat_Int, wrap_succ hib]
            rw [catRow_succ]
            have : catAt sp lg i j = x + lg.getD i 0 + lg.getD j 0 := by unfold catAt; rw [if_neg q6]; omega
            rw [this]; exact L3
          · obtain ⟨v', S', ha, hs, L3⟩ := L2.add x
            have hsm : (slen v' ≤ 1099511627776) = True := by simp only [eq_iff_iff, iff_true, hs]; omega
            simp only [go_sem, ↓reduceIte, Nat.reduceEqDiff, h6, ha, hsm]
            refine forK_step (v') hj hj0 ?_ ?_
            · have hib := Nat.lt_of_lt_of_le hj hN; simp only [go_sem, ↓reduceIte, Nat.reduceEqDiff, and_self, and_true, true_and, Int.ofNat_zero, Int.ofNat_one, Int.cast_ofNat_Int, wrap_succ hib]
            rw [catRow_succ]
            have hij : i = j := by omega
            have : catAt sp lg i j = x := by unfold catAt; rw [if_pos hij]; subst hij; omega
            rw [this]; exact L3
        · exact ⟨rfl, by omega⟩
      · have he2 := he.symm
        clear he
        have P2 := PS.trans (L2.aside.toPre (by omega))
        obtain ⟨t3, OL3⟩ := L2.ol
        have O3 := O1.all P2
        have b3 := OL3.bt
        rw [← he2] at OL3
        obtain ⟨v', S', ha, hs, hpre, t', g', O5⟩ := O3.addRow OL3.own (by omega) (by have := own_lt O1.own; omega) (fun j hj => by have := own_lt (O1.row j hj); omega)
        rw [← OL3.top] at ha
        have hat : atomB z = true := by rw [OL3.top]; rfl
        have hsm : (slen v' ≤ 1099511627776) = True := by simp only [eq_iff_iff, iff_true, hs, catT_len]; omega
        simp only [go_sem, ↓reduceIte, Nat.reduceEqDiff, ha, hsm, hat]
        refine forK_step (v') hi hi0 ?_ ?_
        · have hib := Nat.lt_of_lt_of_le hi hN; simp only [go_sem, ↓reduceIte, Nat.reduceEqDiff, and_self, and_true, true_and, Int.ofNat_zero, Int.ofNat_one, Int.cast_ofNat_Int, wrap_succ hib]
        exact ⟨P1.trans ((P2.mono b1).trans hpre), t', g', by rw [catT_succ]; exact O5⟩
      · exact L1
    · have he2 := he.symm
      clear he
      rw [← he2] at O1
      have hat : atomB y = true := by rw [O1.top]; rfl
      have b1 := P1.len
      simp only [go_sem, ↓reduceIte, Nat.reduceEqDiff]
      refine callK.intro (by kernel_rfl) (sSpaceOk_c _ _ _ _ O1.mat (by rw [catT_len]; exact hlx)) ?_
      rintro _ _ ⟨rfl, rfl⟩
      simp only [go_sem, ↓reduceIte, Nat.reduceEqDiff]
      cases hS : spaceB (catT sp lg lg.length) with
      | false =>
        simp only [go_sem, ↓reduceIte, Nat.reduceEqDiff]
        exact no (catB_no fun h => spaceB_not hS h.2) _ _ _ _ _ (OT.none b1) (P1.app b1 _) rfl
      | true =>
        have hB : IsCat sp lg := ⟨hC, spaceB_is hS⟩
        simp only [go_sem, ↓reduceIte, Nat.reduceEqDiff, hat]
        exact ⟨⟨_, by rw [catB_iff.2 hB], .inr ⟨t, g, by rw [catV_yes hB]; exact O1⟩⟩, P1⟩
    · exact ⟨P0, _, _, O0⟩
  · exact ⟨rfl, fun _ h => absurd h (Nat.not_lt_zero _), fun _ h => absurd h (Nat.not_lt_zero _)⟩
end Go.Proofs.Ytodeldmkpogakaa

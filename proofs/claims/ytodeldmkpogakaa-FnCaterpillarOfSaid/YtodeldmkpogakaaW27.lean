/- Walks: caterpillars, of the program. -/
import Derived.Test.YtodeldmkpogakaaW1
import Derived.Test.YtodeldmkpogakaaPure11
import Derived.Test.YtodeldmkpogakaaPure6
import Derived.Test.YtodeldmkpogakaaMillQ
namespace Go.Proofs.Ytodeldmkpogakaa
open Go Go.Mill
set_option maxRecDepth 100000
set_option linter.unusedSimpArgs false
set_option linter.unusedVariables false

theorem zero_int27 : zeroOf Try.prog 32 = some (.int .i64 0) := by kernel_rfl
theorem iCaterpillarOf_c (S : Store) (vs : Value) (sp : List Int) (hI : Ints S vs sp) (hsx : sp.length ≤ maxLen) (vl : Value) (lg : List Int) (hJ : Ints S vl lg) (hlx : lg.length ≤ maxLen) :
    ACalls Try.prog 40 [vs, vl] S fun u S' => (∃ w, u = .tuple #[w, .bool (catB sp lg)] ∧ MineT S.length S' w (catV sp lg)) ∧ Pre S.length S S' := by
  refine ACalls.intro (ts := [4, 5]) 129 follows Try.func40 rfl (by kernel_rfl) (by kernel_rfl) (by simp) ?_
  have hs1 := hI.sl
  have hn1 := hI.len
  have hs2 := hJ.sl
  have hn2 := hJ.len
  have hN : lg.length ≤ 9223372036854775807 := hlx
  have hw1 : IntKind.i64.wrap ((lg.length : Int) - 1) = (lg.length : Int) - 1 := wrap64 (by omega)
  have no : catB sp lg = false → ∀ u, u = Value.tuple #[.slice none 0 0, .bool false] → ∀ S1, Pre S.length S S1 → (∃ w, u = .tuple #[w, .bool (catB sp lg)] ∧ MineT S.length S1 w (catV sp lg)) ∧ Pre S.length S S1 := fun hB u hu S1 P =>
    ⟨⟨_, by rw [hB]; exact hu, .inl ⟨rfl, catV_no hB⟩⟩, P⟩
  simp only [go_sem, ↓reduceIte, Nat.reduceEqDiff, argEnv, hs2, hn2]
  refine gK_dec (fun q1 h1 => ?_) (fun q1 h1 => ?_)
  · simp only [go_sem, ↓reduceIte, Nat.reduceEqDiff, h1]
    exact no (catB_no fun h => by have h1 := h.1.two; omega) _ rfl _ (Pre.refl _ _)
  simp only [go_sem, ↓reduceIte, Nat.reduceEqDiff, h1, hs2, hn2]
  refine gK_dec (fun q2 h2 => ?_) (fun q2 h2 => ?_)
  · simp only [go_sem, ↓reduceIte, Nat.reduceEqDiff, h2]
    exact no (catB_no fun h => by have h1 := h.1.six; omega) _ rfl _ (Pre.refl _ _)
  simp only [go_sem, ↓reduceIte, Nat.reduceEqDiff, h2, hs1, hn1, hs2, hn2, hw1]
  refine condK_dec (fun q3 h3 => ?_) (fun q3 h3 => ?_)
  · simp only [go_sem, ↓reduceIte, Nat.reduceEqDiff, h3]
    exact no (catB_no fun h => by have h1 := h.1.len; omega) _ rfl _ (Pre.refl _ _)
  have hlen : sp.length + 1 = lg.length := by omega
  have h2l : 2 ≤ lg.length := by omega
  have h6 : lg.length ≤ 6 := by omega
  simp only [go_sem, ↓reduceIte, Nat.reduceEqDiff, h3, hs2, hn2]
  refine aw_count 31 [0, 1, 29, 30] (fun (y : Unit) => []) (0) (lg.length) (fun k y SS => S = SS ∧ (∀ i, i < k → 1 ≤ lg.getD i 0 ∧ lg.getD i 0 ≤ 60) ∧ (∀ i, i + 1 < k → 0 ≤ sp.getD i 0 ∧ sp.getD i 0 ≤ 60)) (()) ?_ ?_ ?_ ?_
  · simp only [go_sem, ↓reduceIte, Nat.reduceEqDiff, and_self, and_true, true_and, Int.ofNat_zero, Int.ofNat_one, Int.cast_ofNat_Int, hs2, hn2]
  · omega
  rotate_left
  rintro k y Sk hk0 hk ⟨rfl, hlg, hsp⟩
  simp only [go_sem, ↓reduceIte, Nat.reduceEqDiff, hs2, hn2]
  refine condK_lt hk (fun hk => ?_) (fun he => ?_)
  · simp only [go_sem, ↓reduceIte, Nat.reduceEqDiff, hs2, hn2, hk, hJ.get]
    refine gK_dec (fun q3 h3 => ?_) (fun q3 h3 => ?_)
    · simp only [go_sem, ↓reduceIte, Nat.reduceEqDiff, h3]
      exact no (catB_no fun h => by have := h.1.leg k hk; omega) _ rfl _ (Pre.refl _ _)
    simp only [go_sem, ↓reduceIte, Nat.reduceEqDiff, h3]
    refine gK_dec (fun q4 h4 => ?_) (fun q4 h4 => ?_)
    · simp only [go_sem, ↓reduceIte, Nat.reduceEqDiff, h4]
      exact no (catB_no fun h => by have := h.1.leg k hk; omega) _ rfl _ (Pre.refl _ _)
    have lgk : ∀ i, i < k + 1 → 1 ≤ lg.getD i 0 ∧ lg.getD i 0 ≤ 60 := fun i hi => by
      rcases Nat.lt_or_ge i k with h | h
      · exact hlg i h
      · obtain rfl : i = k := by omega
        omega
    simp only [go_sem, ↓reduceIte, Nat.reduceEqDiff, h4]
    refine gK_dec (fun q5 h5 => ?_) (fun q5 h5 => ?_)
    · have hw2 : IntKind.i64.wrap ((k : Int) - 1) = ((k - 1 : Nat) : Int) := wrap_pred (by omega) (by omega)
      have hk1 : k - 1 < sp.length := by omega
      simp only [go_sem, ↓reduceIte, Nat.reduceEqDiff, h5, hs1, hn1, hw2, hk1, hI.get]
      refine gK_dec (fun q6 h6 => ?_) (fun q6 h6 => ?_)
      · simp only [go_sem, ↓reduceIte, Nat.reduceEqDiff, h6]
        exact no (catB_no fun h => by have := h.1.spi (k - 1) hk1; omega) _ rfl _ (Pre.refl _ _)
      simp only [go_sem, ↓reduceIte, Nat.reduceEqDiff, h6, hs1, hn1, hw2, hk1, hI.get]
      refine condK_dec (fun q7 h7 => ?_) (fun q7 h7 => ?_)
      · simp only [go_sem, ↓reduceIte, Nat.reduceEqDiff, h7]
        exact no (catB_no fun h => by have := h.1.spi (k - 1) hk1; omega) _ rfl _ (Pre.refl _ _)
      simp only [go_sem, ↓reduceIte, Nat.reduceEqDiff, h7]
      refine forK_step (()) hk hk0 ?_ ?_
      · have hib := Nat.lt_of_lt_of_le hk hN; simp only [go_sem, ↓reduceIte, Nat.reduceEqDiff, and_self, and_true, true_and, Int.ofNat_zero, Int.ofNat_one, Int.cast_ofNat_Int, wrap_succ hib]
      refine ⟨rfl, lgk, fun i hi => ?_⟩
      rcases Nat.lt_or_ge (i + 1) k with h | h
      · exact hsp i h
      · obtain rfl : i = k - 1 := by omega
        omega
    · simp only [go_sem, ↓reduceIte, Nat.reduceEqDiff, h5]
      refine forK_step (()) hk hk0 ?_ ?_
      · have hib := Nat.lt_of_lt_of_le hk hN; simp only [go_sem, ↓reduceIte, Nat.reduceEqDiff, and_self, and_true, true_and, Int.ofNat_zero, Int.ofNat_one, Int.cast_ofNat_Int, wrap_succ hib]
      exact ⟨rfl, lgk, fun i hi => hsp i (by omega)⟩
  · subst he
    have hC : CatOk sp lg := ⟨h2l, h6, hlen, hlg, fun i hi => hsp i (by omega)⟩
    have O0 : OT S.length (S ++ [.own []]) (mk S.length 0) S.length (fun _ => 0) [] := OT.none (Nat.le_refl _)
    have P0 : Pre S.length S (S ++ [.own []]) := (Pre.refl _ _).app (Nat.le_refl _) _
    simp only [go_sem, ↓reduceIte, Nat.reduceEqDiff, hs2, hn2]
    generalize S ++ [Ob.own []] = S0 at O0 P0 ⊢
    generalize mk S.length 0 = y0 at O0 ⊢
    refine aw_count 66 [0, 1, 65] (fun (y : Value) => [(8, y)]) (0) (lg.length) (fun i y SS => Pre S.length S SS ∧ ∃ t g, OT S.length SS y t g (List.replicate i (List.replicate lg.length 0))) (y0) ?_ ?_ ?_ ?_
    · simp only [go_sem, ↓reduceIte, Nat.reduceEqDiff, and_self, and_true, true_and, Int.ofNat_zero, Int.ofNat_one, Int.cast_ofNat_Int, hs2, hn2]
    · omega
    rotate_left
    rintro i y Si hi0 hi ⟨P1, t, g, O1⟩
    simp only [go_sem, ↓reduceIte, Nat.reduceEqDiff, hs2, hn2]
    refine condK_lt hi (fun hi => ?_) (fun he => ?_)
    · have b1 := P1.len
      have hml : lg.length ≤ 1099511627776 := by omega
      have O2 := O1.app [.own (ints (List.replicate lg.length 0))]
      obtain ⟨v', S', ha, hs, hpre, t', g', O5⟩ := O2.addRow (q := Si.length) own_last (by omega) (by have := own_lt O1.own; omega) (fun j hj => by have := own_lt (O1.row j hj); omega)
      rw [List.length_replicate, ← replicate_ints] at ha
      have hsm : (slen v' ≤ 1099511627776) = True := by simp only [eq_iff_iff, iff_true, hs, List.length_replicate]; omega
      simp only [go_sem, ↓reduceIte, Nat.reduceEqDiff, hs2, hn2, makeK_nat, hml, zero_int27, ha, hsm]
      refine forK_step (v') hi hi0 ?_ ?_
      · have hib := Nat.lt_of_lt_of_le hi hN; simp only [go_sem, ↓reduceIte, Nat.reduceEqDiff, and_self, and_true, true_and, Int.ofNat_zero, Int.ofNat_one, Int.cast_ofNat_Int, wrap_succ hib]
      refine ⟨P1.trans (((Pre.refl _ Si).app b1 _).trans hpre), t', g', ?_⟩
      rw [List.replicate_succ']; exact O5
    · have he2 := he.symm
      clear he
      rw [← he2] at O1
      have O2 : OS S.length Si y t g (List.replicate lg.length (List.replicate lg.length 0)) lg.length := ⟨O1, by simp, fun i hi => by simp [hi]⟩
      have z0 : ∀ a b, a < lg.length → b < lg.length → at2 (List.replicate lg.length (List.replicate lg.length (0 : Int))) a b = 0 := fun a b ha hb => by
        unfold at2; simp [ha, hb]
      have pin := fun k hk => pos_in hC k hk
      obtain ⟨n, hn⟩ : ∃ n, n = lg.length := ⟨_, rfl⟩
      simp only [go_sem, ↓reduceIte, Nat.reduceEqDiff, hs2, hn2]
      rw [← hn] at O2 hN hn2 z0
      rw [← hn]
      refine aw_count 77 [0, 1, 8, 75, 76] (fun (z : Unit) => []) (0) (n) (fun i z SS => Pre S.length S SS ∧ ∃ e, OS S.length SS y t g e n ∧ ∀ a b, a < n → b < n → at2 e a b = if min a b < i then catAt sp lg a b else 0) (()) ?_ ?_ ?_ ?_
      · simp only [go_sem, ↓reduceIte, Nat.reduceEqDiff, and_self, and_true, true_and, Int.ofNat_zero, Int.ofNat_one, Int.cast_ofNat_Int, hs2, hn2]
      · omega
      rotate_left
      rintro i z Si hi0 hi ⟨P2, e, O3, hE⟩
      simp only [go_sem, ↓reduceIte, Nat.reduceEqDiff, hs2, hn2]
      refine condK_lt hi (fun hi => ?_) (fun he => ?_)
      · have J2 := hJ.ext P2.ext
        have hw : IntKind.i64.wrap ((i : Int) + 1) = ((i + 1 : Nat) : Int) := wrap_succ (by omega)
        have hil : i < lg.length := by omega
        simp only [go_sem, ↓reduceIte, Nat.reduceEqDiff, hs2, hn2, hi, hil, J2.get, hw]
        refine aw_count 12 [0, 1, 8, 9, 10, 75, 76, 77] (fun (x : Int) => [(11, .int .i64 x)]) ((i + 1)) (n) (fun k x SS => Pre S.length S SS ∧ x = posN sp (k - 1) - posN sp i ∧ ∃ e, OS S.length SS y t g e n ∧ ∀ a b, a < n → b < n → at2 e a b = if min a b < i ∨ (min a b = i ∧ max a b < k) then catAt sp lg a b else 0) (0) ?_ ?_ ?_ ?_
        · simp only [go_sem, ↓reduceIte, Nat.reduceEqDiff, and_self, and_true, true_and, Int.ofNat_zero, Int.ofNat_one, Int.cast_ofNat_Int, hs2, hn2]
        · omega
        rotate_left
        rintro k x Sk hk0 hk ⟨P3, hx, e3, O4, hE3⟩
        simp only [go_sem, ↓reduceIte, Nat.reduceEqDiff, hs2, hn2]
        refine condK_lt hk (fun hk => ?_) (fun he => ?_)
        · have I3 := hI.ext P3.ext
          have J3 := hJ.ext P3.ext
          have hw2 : IntKind.i64.wrap ((k : Int) - 1) = ((k - 1 : Nat) : Int) := wrap_pred (by omega) (by omega)
          have hk1 : k - 1 < sp.length := by omega
          have hkl : k < lg.length := by omega
          have s1 := hC.spi _ hk1
          have p1 := pin (k - 1) (by omega)
          have p2 := pin i (by omega)
          have l1 := hC.leg i (by omega)
          have l2 := hC.leg k (by omega)
          have hpk : posN sp k = posN sp (k - 1) + sp.getD (k - 1) 0 := by
            obtain ⟨j, rfl⟩ : ∃ j, k = j + 1 := ⟨k - 1, by omega⟩
            rfl
          have w1 : IntKind.i64.wrap (x + sp.getD (k - 1) 0) = x + sp.getD (k - 1) 0 := wrap64 (by omega)
          have w2 : IntKind.i64.wrap (lg.getD i 0 + (x + sp.getD (k - 1) 0)) = lg.getD i 0 + (x + sp.getD (k - 1) 0) := wrap64 (by omega)
          have w3 : IntKind.i64.wrap (lg.getD i 0 + (x + sp.getD (k - 1) 0) + lg.getD k 0) = lg.getD i 0 + (x + sp.getD (k - 1) 0) + lg.getD k 0 := wrap64 (by omega)
          have hm := pos_mono hC (i := i) k (by omega) (by omega)
          have hv : catAt sp lg i k = lg.getD i 0 + (x + sp.getD (k - 1) 0) + lg.getD k 0 := by
            unfold catAt; rw [if_neg (by omega)]; omega
          simp only [go_sem, ↓reduceIte, Nat.reduceEqDiff, hs1, hn1, hw2, hk1, I3.get, w1]
          refine .tail 14 ?_ (by kernel_rfl)
          simp only [go_sem, ↓reduceIte, Nat.reduceEqDiff, List.take_succ_cons, List.take_zero, List.drop_succ_cons, List.drop_zero, O4.sl, O4.slen, hi, hk, hkl, O4.get, hs2, hn2, J3.get, w2, w3, O4.rsl, O4.rlen, O4.st]
          have O5 := O4.put i k hi hk (lg.getD i 0 + (x + sp.getD (k - 1) 0) + lg.getD k 0)
          have P5 := P3.set (O4.bg i hi) (.own (ints ((e3.getD i []).set k (lg.getD i 0 + (x + sp.getD (k - 1) 0) + lg.getD k 0))))
          have hE5 : ∀ a b, a < n → b < n → at2 (put2 e3 i k (lg.getD i 0 + (x + sp.getD (k - 1) 0) + lg.getD k 0)) a b = if a = i ∧ b = k then catAt sp lg i k else at2 e3 a b := fun a b ha hb => by
            rw [put2_at (by rw [O4.len]; exact hi) (by rw [O4.sq i hi]; exact hk), hv]
          generalize put2 e3 i k (lg.getD i 0 + (x + sp.getD (k - 1) 0) + lg.getD k 0) = e5 at O5 hE5 ⊢
          generalize Sk.set (g i) (.own (ints ((e3.getD i []).set k (lg.getD i 0 + (x + sp.getD (k - 1) 0) + lg.getD k 0)))) = S5 at O5 P5 ⊢
          refine .tail 13 ?_ (by kernel_rfl)
          simp only [go_sem, ↓reduceIte, Nat.reduceEqDiff, List.take_succ_cons, List.take_zero, List.drop_succ_cons, List.drop_zero, O5.sl, O5.slen, hi, hk, O5.get, O5.rsl, O5.rlen, O5.cell, O5.st]
          have O6 := O5.put k i hk hi (at2 e5 i k)
          have P6 := P5.set (O5.bg k hk) (.own (ints ((e5.getD k []).set i (at2 e5 i k))))
          refine forK_step (x + sp.getD (k - 1) 0) hk hk0 ?_ ?_
          · have hib := Nat.lt_of_lt_of_le hk hN; simp only [go_sem, ↓reduceIte, Nat.reduceEqDiff, and_self, and_true, true_and, Int.ofNat_zero, Int.ofNat_one, Int.cast_ofNat_Int, wrap_succ hib]
          refine ⟨P6, by rw [show k + 1 - 1 = k by omega]; omega, _, O6, fun a b ha hb => ?_⟩
          have h5 := hE5 i k hi hk
          rw [if_pos ⟨rfl, rfl⟩] at h5
          rw [put2_at (by rw [O5.len]; exact hk) (by rw [O5.sq k hk]; exact hi), h5]
          by_cases c1 : a = k ∧ b = i
          · obtain ⟨rfl, rfl⟩ := c1
            rw [if_pos ⟨rfl, rfl⟩, if_pos (by omega), catAt_sym]
          · rw [if_neg c1, hE5 a b ha hb]
            by_cases c2 : a = i ∧ b = k
            · obtain ⟨rfl, rfl⟩ := c2
              rw [if_pos ⟨rfl, rfl⟩, if_pos (by omega)]
            · rw [if_neg c2, hE3 a b ha hb]
              by_cases c3 : min a b < i ∨ (min a b = i ∧ max a b < k)
              · rw [if_pos c3, if_pos (by omega)]
              · rw [if_neg c3, if_neg (by omega)]
        · have he3 := he.symm
          clear he
          subst he3
          simp only [go_sem, ↓reduceIte, Nat.reduceEqDiff]
          refine forK_step (()) hi hi0 ?_ ?_
          · have hib := Nat.lt_of_lt_of_le hi hN; simp only [go_sem, ↓reduceIte, Nat.reduceEqDiff, and_self, and_true, true_and, Int.ofNat_zero, Int.ofNat_one, Int.cast_ofNat_Int, wrap_succ hib]
          refine ⟨P3, e3, O4, fun a b ha hb => ?_⟩
          rw [hE3 a b ha hb]
          by_cases c : min a b < i + 1
          · rw [if_pos c, if_pos (by omega)]
          · rw [if_neg c, if_neg (by omega)]
        · refine ⟨P2, by simp, e, O3, fun a b ha hb => ?_⟩
          rw [hE a b ha hb]
          by_cases c : min a b < i
          · rw [if_pos c, if_pos (.inl c)]
          · rw [if_neg c]
            by_cases c2 : min a b = i ∧ max a b < i + 1
            · rw [if_pos (.inr c2)]
              have : a = b := by omega
              unfold catAt; rw [if_pos this]
            · rw [if_neg (by omega)]
      · have he3 := he.symm
        clear he
        subst he3
        have e1 : e = catT sp lg lg.length := by
          refine at2_ext (by rw [O3.len, catT_len]; exact hn) (fun i hi => ?_) fun a b ha hb => ?_
          · rw [catT_len] at hi
            rw [O3.sq i (by omega), catT_row hi, catRow_len]; exact hn
          · rw [catT_len] at ha
            rw [catT_row ha, catRow_len] at hb
            rw [hE a b (by omega) (by omega), if_pos (by omega), catT_at ha hb]
        subst e1
        have hat : atomB y = true := by rw [O3.ot.top]; rfl
        simp only [go_sem, ↓reduceIte, Nat.reduceEqDiff]
        refine callK.intro (by kernel_rfl) (isSpace_c _ _ _ _ O3.ot.mat (by rw [catT_len]; exact hlx)) ?_
        rintro _ _ ⟨rfl, rfl⟩
        simp only [go_sem, ↓reduceIte, Nat.reduceEqDiff]
        cases hS : spaceB (catT sp lg lg.length) with
        | false =>
          simp only [go_sem, ↓reduceIte, Nat.reduceEqDiff]
          exact no (catB_no fun h => spaceB_not hS h.2) _ rfl _ P2
        | true =>
          have hB : IsCat sp lg := ⟨hC, spaceB_is hS⟩
          simp only [go_sem, ↓reduceIte, Nat.reduceEqDiff, hat]
          exact ⟨⟨_, by rw [catB_iff.2 hB], .inr ⟨t, g, by rw [catV_yes hB]; exact O3.ot⟩⟩, P2⟩
      · exact ⟨P1, _, O2, fun a b ha hb => by rw [z0 a b ha hb, if_neg (Nat.not_lt_zero _)]⟩
    · exact ⟨P0, _, _, O0⟩
  · exact ⟨rfl, fun _ h => absurd h (Nat.not_lt_zero _), fun _ h => absurd h (Nat.not_lt_zero _)⟩
end Go.Proofs.Ytodeldmkpogakaa

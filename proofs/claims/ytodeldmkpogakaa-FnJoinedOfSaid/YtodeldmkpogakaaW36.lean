/- Walks: the pairs by which all lots are joined, as the reference finds them. -/
import Derived.Test.YtodeldmkpogakaaMillR
import Derived.Test.YtodeldmkpogakaaW14
import Derived.Test.YtodeldmkpogakaaPure14
namespace Go.Proofs.Ytodeldmkpogakaa
open Go Go.Mill
set_option maxRecDepth 100000
set_option linter.unusedSimpArgs false
set_option linter.unusedVariables false

def fil (d : List (List Int)) (n : Nat) (l : List (Nat × Nat)) : List (Nat × Nat) := l.filter fun x => decide (keyP d x = (n : Int))
theorem fil_app {d : List (List Int)} {n : Nat} {l m : List (Nat × Nat)} : fil d n (l ++ m) = fil d n l ++ fil d n m := List.filter_append ..
theorem fil_yes {d : List (List Int)} {n : Nat} {p : Nat × Nat} (h : keyP d p = (n : Int)) : fil d n [p] = [p] := by simp [fil, h]
theorem fil_no {d : List (List Int)} {n : Nat} {p : Nat × Nat} (h : keyP d p ≠ (n : Int)) : fil d n [p] = [] := by simp [fil, h]
theorem by_step {d : List (List Int)} {n : Nat} {l : List (Nat × Nat)} (h : 1 ≤ n) : byKey (keyP d) l (n - 1) ++ fil d n l = byKey (keyP d) l n := by
  obtain ⟨m, rfl⟩ : ∃ m, n = m + 1 := ⟨n - 1, by omega⟩
  simp only [Nat.add_sub_cancel, byKey, fil]
  congr 1
/-- What stands between two steps. -/
structure JW (S : Store) (z : Value) (tl N : Nat) (s : JS) (c : Nat) (SS : Store) (y : Value) : Prop where
  pre : Pre S.length S SS
  ol : OL S.length SS z tl (lotsOf s.1 N)
  pl : ∃ to Lo, PL S.length SS y to Lo ∧ to ≠ tl ∧ (∀ x ∈ Lo, x.1 ≠ mk tl 2) ∧ Lo.length ≤ c ∧ Lo.map pcRow = s.2
theorem JW.more {S : Store} {z : Value} {tl N : Nat} {s : JS} {c c' : Nat} {SS : Store} {y : Value} (h : JW S z tl N s c SS y) (hc : c ≤ c') : JW S z tl N s c' SS y :=
  ⟨h.pre, h.ol, let ⟨to, Lo, h1, h2, h3, h4, h5⟩ := h.pl; ⟨to, Lo, h1, h2, h3, Nat.le_trans h4 hc, h5⟩⟩
theorem sJoinedOf_c (S : Store) (v : Value) (r : Nat → Value) (d : List (List Int)) (hM : Mat S v r d) (hd : d.length ≤ maxLen) :
    ACalls Try.prog 43 [v] S fun u S' => MineT S.length S' u (joinedV d) ∧ Pre S.length S S' := by
  refine ACalls.intro (ts := [2]) 95 follows Try.func43 rfl (by kernel_rfl) (by kernel_rfl) (by simp) ?_
  have PL0 : PL S.length (S ++ [.own []]) (mk S.length 0) S.length [] := PL.none (Nat.le_refl _)
  have P1 : Pre S.length S (S ++ [.own []]) := (Pre.refl _ _).app (Nat.le_refl _) _
  have hl1 : (S ++ [Ob.own []] : Store).length = S.length + 1 := by simp
  have hsl := hM.sl
  have hlen := hM.len
  simp only [go_sem, ↓reduceIte, Nat.reduceEqDiff, argEnv]
  generalize S ++ [Ob.own []] = S1 at PL0 P1 hl1 ⊢
  generalize mk S.length 0 = y0 at PL0 ⊢
  refine callK.intro (by kernel_rfl) (sFarOk_c S1 v r d (hM.ext P1.ext) hd) ?_
  rintro _ _ ⟨rfl, rfl⟩
  simp only [go_sem, ↓reduceIte, Nat.reduceEqDiff]
  cases hFb : farB d with
  | false =>
    simp only [go_sem, ↓reduceIte, Nat.reduceEqDiff]
    obtain ⟨g, hOT⟩ := PL0.table
    exact ⟨.inr ⟨_, g, by rw [joinedV_no hFb]; exact hOT⟩, P1⟩
  | true =>
    have hF := farB_is hFb
    have h6 := hF.2.1
    have hN : d.length ≤ 9223372036854775807 := by omega
    have OL0 : OL S1.length (S1 ++ [.own []]) (mk S1.length 0) S1.length [] := OL.none (Nat.le_refl _)
    have Q0 : Pre S1.length S1 (S1 ++ [.own []]) := (Pre.refl _ _).app (Nat.le_refl _) _
    simp only [go_sem, ↓reduceIte, Nat.reduceEqDiff]
    generalize S1 ++ [Ob.own []] = S2 at OL0 Q0 ⊢
    generalize mk S1.length 0 = z0 at OL0 ⊢
    refine aw_count 5 [0, 3] (fun (z : Value) => [(4, z)]) (0) (d.length) (fun k z SS => Pre S1.length S1 SS ∧ ∃ t, OL S1.length SS z t (lotsOf id k)) (z0) ?_ ?_ ?_ ?_
    · simp only [go_sem, ↓reduceIte, Nat.reduceEqDiff, and_self, and_true, true_and, Int.ofNat_zero, Int.ofNat_one, Int.cast_ofNat_Int, hsl, hlen]
    · omega
    rotate_left
    rintro k z Sk hk0 hk ⟨Q5, tl, OL5⟩
    simp only [go_sem, ↓reduceIte, Nat.reduceEqDiff, hsl, hlen]
    refine condK_lt hk (fun hk => ?_) (fun he => ?_)
    · obtain ⟨v', S', ha, hs, hp, t', OL6⟩ := OL5.add (k : Int)
      have hsm : (slen v' ≤ 1099511627776) = True := by simp only [eq_iff_iff, iff_true, hs, lotsOf_len]; omega
      simp only [go_sem, ↓reduceIte, Nat.reduceEqDiff, ha, hsm]
      refine forK_step (v') hk hk0 ?_ ?_
      · have hib := Nat.lt_of_lt_of_le hk hN; simp only [go_sem, ↓reduceIte, Nat.reduceEqDiff, and_self, and_true, true_and, Int.ofNat_zero, Int.ofNat_one, Int.cast_ofNat_Int, wrap_succ hib]
      exact ⟨Q5.trans hp, t', by rw [lotsOf_succ]; exact OL6⟩
    · subst he
      have htl := OL5.bt
      have hzl : slen z = d.length := by rw [OL5.top, slen_mk, lotsOf_len]
      have hzs := OL5.ints.sl
      have hztop : z = mk tl d.length := by rw [OL5.top, lotsOf_len]
      have hrl := fun SS (P : Pre S.length S SS) => (hM.ext P.ext).sqlen hF.sq
      have hcl := fun SS (P : Pre S.length S SS) => (hM.ext P.ext).sqcell hF.sq
      have J0 : JW S z tl d.length (jfold (id, []) (byKey (keyP d) (pairsL d.length d.length) (1 - 1))) (36 * (1 - 1)) Sk y0 :=
        ⟨P1.trans (Q5.mono (by omega)), OL5.mono (by omega), S.length, [], PL0.pre Q5, by omega, fun _ h => absurd h List.not_mem_nil, Nat.zero_le _, rfl⟩
      have hN61 : 61 ≤ 9223372036854775807 := by omega
      simp only [go_sem, ↓reduceIte, Nat.reduceEqDiff]
      refine aw_count 6 [0, 4] (fun (y : Value) => [(3, y)]) (1) (61) (fun n y SS => JW S z tl d.length (jfold (id, []) (byKey (keyP d) (pairsL d.length d.length) (n - 1))) (36 * (n - 1)) SS y) (y0) ?_ ?_ ?_ ?_
      · simp only [go_sem, ↓reduceIte, Nat.reduceEqDiff, and_self, and_true, true_and, Int.ofNat_zero, Int.ofNat_one, Int.cast_ofNat_Int, hsl, hlen]
      · omega
      rotate_left
      rintro n y Sn hn0 hn J1
      simp only [go_sem, ↓reduceIte, Nat.reduceEqDiff]
      refine condK_dec (fun q1 h1 => ?_) (fun q1 h1 => ?_)
      · have hn : n < 61 := by omega
        simp only [go_sem, ↓reduceIte, Nat.reduceEqDiff, h1]
        refine aw_count 7 [0, 4, 6] (fun (y2 : Value) => [(3, y2)]) (0) (d.length) (fun k y2 SS => JW S z tl d.length (jfold (id, []) (byKey (keyP d) (pairsL d.length d.length) (n - 1) ++ fil d n (pairsL d.length k))) (36 * (n - 1) + 6 * k) SS y2) (y) ?_ ?_ ?_ ?_
        · simp only [go_sem, ↓reduceIte, Nat.reduceEqDiff, and_self, and_true, true_and, Int.ofNat_zero, Int.ofNat_one, Int.cast_ofNat_Int, hsl, hlen]
        · omega
        rotate_left
        rintro k y2 Sk hk0 hk J2
        simp only [go_sem, ↓reduceIte, Nat.reduceEqDiff, hsl, hlen]
        refine condK_lt hk (fun hk => ?_) (fun he => ?_)
        · have wk : IntKind.i64.wrap ((k : Int) + 1) = ((k + 1 : Nat) : Int) := wrap_succ (by omega)
          simp only [go_sem, ↓reduceIte, Nat.reduceEqDiff, wk]
          refine aw_count 8 [0, 4, 6, 7] (fun (y3 : Value) => [(3, y3)]) (k + 1) (d.length) (fun j y3 SS => JW S z tl d.length (jfold (id, []) (byKey (keyP d) (pairsL d.length d.length) (n - 1) ++ fil d n (pairsL d.length k ++ pairRow k j))) (36 * (n - 1) + 6 * k + j) SS y3) (y2) ?_ ?_ ?_ ?_
          · simp only [go_sem, ↓reduceIte, Nat.reduceEqDiff, and_self, and_true, true_and, Int.ofNat_zero, Int.ofNat_one, Int.cast_ofNat_Int, hsl, hlen]
          · omega
          rotate_left
          rintro j y3 Sj hj0 hj J3
          simp only [go_sem, ↓reduceIte, Nat.reduceEqDiff, hsl, hlen]
          refine condK_lt hj (fun hj => ?_) (fun he => ?_)
          · have MM := hM.ext J3.pre.ext
            have hrl' := hrl _ J3.pre
            have hcl' := hcl _ J3.pre
            have hpr : pairRow k (j + 1) = pairRow k j ++ [(k, j)] := pairRow_yes (by omega)
            refine draw_read ?_ (by kernel_rfl)
            simp only [go_sem, ↓reduceIte, Nat.reduceEqDiff, hsl, hlen, hk, hj, MM.get, MM.rsl, hrl', hcl']
            refine gQ_dec (fun q2 h2 => ?_) (fun q2 h2 => ?_)
            · simp only [go_sem, ↓reduceIte, Nat.reduceEqDiff, h2]
              refine forK_step (y3) hj hj0 ?_ ?_
              · have hib := Nat.lt_of_lt_of_le hj hN; simp only [go_sem, ↓reduceIte, Nat.reduceEqDiff, and_self, and_true, true_and, Int.ofNat_zero, Int.ofNat_one, Int.cast_ofNat_Int, wrap_succ hib]
              rw [hpr, ← List.append_assoc, fil_app, fil_no (show keyP d (k, j) ≠ (n : Int) from q2), List.append_nil]
              exact J3.more (by omega)
            · have q2' : keyP d (k, j) = (n : Int) := Decidable.not_not.1 q2
              have hfil : jfold (id, []) (byKey (keyP d) (pairsL d.length d.length) (n - 1) ++ fil d n (pairsL d.length k ++ pairRow k (j + 1))) = jstep (jfold (id, []) (byKey (keyP d) (pairsL d.length d.length) (n - 1) ++ fil d n (pairsL d.length k ++ pairRow k j))) k j := by
                rw [hpr, ← List.append_assoc, fil_app, fil_yes q2', ← List.append_assoc, jfold_app]; rfl
              have goalT : ∀ SS y, JW S z tl d.length (jstep (jfold (id, []) (byKey (keyP d) (pairsL d.length d.length) (n - 1) ++ fil d n (pairsL d.length k ++ pairRow k j))) k j) (36 * (n - 1) + 6 * k + (j + 1)) SS y → JW S z tl d.length (jfold (id, []) (byKey (keyP d) (pairsL d.length d.length) (n - 1) ++ fil d n (pairsL d.length k ++ pairRow k (j + 1)))) (36 * (n - 1) + 6 * k + (j + 1)) SS y := fun SS y h => by rw [hfil]; exact h
              clear hfil
              generalize jfold (id, []) (byKey (keyP d) (pairsL d.length d.length) (n - 1) ++ fil d n (pairsL d.length k ++ pairRow k j)) = s at J3 goalT
              have OL8 := J3.ol
              have za : ld Sj (eptr z k) = some (.int .i64 ((s.1 k : Nat) : Int)) := by rw [OL8.ints.get k (by rw [lotsOf_len]; exact hk), lotsOf_get hk]
              have zb : ld Sj (eptr z j) = some (.int .i64 ((s.1 j : Nat) : Int)) := by rw [OL8.ints.get j (by rw [lotsOf_len]; exact hj), lotsOf_get hj]
              simp only [go_sem, ↓reduceIte, Nat.reduceEqDiff, h2, hzs, hzl, hk, hj, za, zb]
              refine condK_dec (fun q9 h9 => ?_) (fun q9 h9 => ?_)
              · have hse : s.1 k = s.1 j := by omega
                simp only [go_sem, ↓reduceIte, Nat.reduceEqDiff, h9]
                refine forK_step (y3) hj hj0 ?_ ?_
                · have hib := Nat.lt_of_lt_of_le hj hN; simp only [go_sem, ↓reduceIte, Nat.reduceEqDiff, and_self, and_true, true_and, Int.ofNat_zero, Int.ofNat_one, Int.cast_ofNat_Int, wrap_succ hib]
                refine goalT _ _ ?_
                rw [jstep_same hse]
                exact J3.more (by omega)
              · have hse : s.1 k ≠ s.1 j := by omega
                obtain ⟨to, Lo, PLo, hto, hoff, hLol, hrows⟩ := J3.pl
                obtain ⟨v', S', ha, hs, hp, hk', t', ht', hPL'⟩ := PLo.add k j
                have hsm : (slen v' ≤ 1099511627776) = True := by simp only [eq_iff_iff, iff_true, hs]; omega
                have hlt := own_lt OL8.own
                have OL9 := OL8.keep (hk' tl hlt (Ne.symm hto))
                have zb' : ld S' (eptr z j) = some (.int .i64 ((s.1 j : Nat) : Int)) := by rw [OL9.ints.get j (by rw [lotsOf_len]; exact hj), lotsOf_get hj]
                simp only [go_sem, ↓reduceIte, Nat.reduceEqDiff, h9, ha, hsm, hzs, hzl, hj, zb']
                have OLm : ∀ m, OL S.length (S'.set tl (.own (ints (lotsOf (mixq s.1 k j m) d.length)))) z tl (lotsOf (mixq s.1 k j m) d.length) := fun m => ⟨by rw [hztop, lotsOf_len], by omega, own_set (own_lt OL9.own)⟩
                refine aw_count 10 [0, 3, 4, 6, 7, 8, 9] (fun (u : Unit) => []) (0) (d.length) (fun m u SS => S'.set tl (.own (ints (lotsOf (mixq s.1 k j m) d.length))) = SS) (()) ?_ ?_ ?_ ?_
                · simp only [go_sem, ↓reduceIte, Nat.reduceEqDiff, and_self, and_true, true_and, Int.ofNat_zero, Int.ofNat_one, Int.cast_ofNat_Int, hsl, hlen]
                · omega
                rotate_left
                rintro m u Sm hm0 hm rfl
                simp only [go_sem, ↓reduceIte, Nat.reduceEqDiff, hsl, hlen]
                refine condK_lt hm (fun hm => ?_) (fun he => ?_)
                · have zm : ld (S'.set tl (.own (ints (lotsOf (mixq s.1 k j m) d.length)))) (eptr z m) = some (.int .i64 ((s.1 m : Nat) : Int)) := by rw [(OLm m).ints.get m (by rw [lotsOf_len]; exact hm), lotsOf_get hm, mixq_at]
                  have zk : ld (S'.set tl (.own (ints (lotsOf (mixq s.1 k j m) d.length)))) (eptr z k) = some (.int .i64 ((s.1 k : Nat) : Int)) := by rw [(OLm m).ints.get k (by rw [lotsOf_len]; exact hk), lotsOf_get hk, mixq_own hse]
                  obtain ⟨hst, -⟩ := (OLm m).st (k := m) (by rw [lotsOf_len]; exact hm) ((s.1 k : Nat) : Int)
                  simp only [go_sem, ↓reduceIte, Nat.reduceEqDiff, hzs, hzl, hm, zm]
                  refine condK_dec (fun q10 h10 => ?_) (fun q10 h10 => ?_)
                  · simp only [go_sem, ↓reduceIte, Nat.reduceEqDiff, h10, hst, hzs, hzl, hm, hk, zk]
                    refine forK_step (()) hm hm0 ?_ ?_
                    · have hib := Nat.lt_of_lt_of_le hm hN; simp only [go_sem, ↓reduceIte, Nat.reduceEqDiff, and_self, and_true, true_and, Int.ofNat_zero, Int.ofNat_one, Int.cast_ofNat_Int, wrap_succ hib]
                    rw [List.set_set, mixq_yes hm (by omega)]
                  · simp only [go_sem, ↓reduceIte, Nat.reduceEqDiff, h10]
                    refine forK_step (()) hm hm0 ?_ ?_
                    · have hib := Nat.lt_of_lt_of_le hm hN; simp only [go_sem, ↓reduceIte, Nat.reduceEqDiff, and_self, and_true, true_and, Int.ofNat_zero, Int.ofNat_one, Int.cast_ofNat_Int, wrap_succ hib]
                    rw [mixq_no (by omega)]
                · subst he
                  simp only [go_sem, ↓reduceIte, Nat.reduceEqDiff]
                  refine forK_step (v') hj hj0 ?_ ?_
                  · have hib := Nat.lt_of_lt_of_le hj hN; simp only [go_sem, ↓reduceIte, Nat.reduceEqDiff, and_self, and_true, true_and, Int.ofNat_zero, Int.ofNat_one, Int.cast_ofNat_Int, wrap_succ hib]
                  refine goalT _ _ ?_
                  have hO := OLm d.length
                  rw [mixq_end hse] at hO
                  rw [mixq_end hse]
                  refine ⟨(J3.pre.trans hp).set (by omega) _, hO, t', Lo ++ [(mk Sj.length 2, (k, j))], hPL'.setOff (by omega) (fun y hy => ?_) _, by omega, fun y hy => ?_, by simp; omega, ?_⟩
                  · rcases List.mem_append.1 hy with h | h
                    · exact hoff y h
                    · obtain rfl : y = (mk Sj.length 2, (k, j)) := by simpa using h
                      simp [Mill.mk]; omega
                  · rcases List.mem_append.1 hy with h | h
                    · exact hoff y h
                    · obtain rfl : y = (mk Sj.length 2, (k, j)) := by simpa using h
                      simp [Mill.mk]; omega
                  · rw [List.map_append, hrows, jstep_two hse]; rfl
                · rw [mixq_zero]; exact set_same OL9.own
          · subst he
            simp only [go_sem, ↓reduceIte, Nat.reduceEqDiff]
            refine forK_step (y3) hk hk0 ?_ ?_
            · have hib := Nat.lt_of_lt_of_le hk hN; simp only [go_sem, ↓reduceIte, Nat.reduceEqDiff, and_self, and_true, true_and, Int.ofNat_zero, Int.ofNat_one, Int.cast_ofNat_Int, wrap_succ hib]
            exact J3.more (by omega)
          · rw [pairRow_none (Nat.le_refl _), List.append_nil]; exact J2.more (by omega)
        · subst he
          simp only [go_sem, ↓reduceIte, Nat.reduceEqDiff]
          refine forK_step (y2) hn hn0 ?_ ?_
          · have hib := Nat.lt_of_lt_of_le hn hN61; simp only [go_sem, ↓reduceIte, Nat.reduceEqDiff, and_self, and_true, true_and, Int.ofNat_zero, Int.ofNat_one, Int.cast_ofNat_Int, wrap_succ hib]
          rw [Nat.add_sub_cancel, ← by_step hn0]
          exact J2.more (by omega)
        · exact (show JW S z tl d.length (jfold (id, []) (byKey (keyP d) (pairsL d.length d.length) (n - 1) ++ fil d n (pairsL d.length 0))) (36 * (n - 1) + 6 * 0) Sn y by
            rw [show fil d n (pairsL d.length 0) = [] from rfl, List.append_nil]; exact J1)
      · have hn : n = 61 := by omega
        subst hn
        simp only [go_sem, ↓reduceIte, Nat.reduceEqDiff, h1]
        obtain ⟨to, Lo, PLo, hto, hoff, hLol, hrows⟩ := J1.pl
        obtain ⟨g, hOT⟩ := PLo.table
        rw [hrows] at hOT
        exact ⟨.inr ⟨to, g, by rw [joinedV_yes hF]; exact hOT⟩, J1.pre⟩
      · exact J0
    · exact ⟨Q0, _, OL0⟩
end Go.Proofs.Ytodeldmkpogakaa

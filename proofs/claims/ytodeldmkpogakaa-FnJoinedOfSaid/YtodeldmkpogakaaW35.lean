/- Walks: the pairs by which all lots are joined. -/
import Derived.Test.YtodeldmkpogakaaW34
import Derived.Test.YtodeldmkpogakaaW14
import Derived.Test.YtodeldmkpogakaaPure14
namespace Go.Proofs.Ytodeldmkpogakaa
open Go Go.Mill
set_option maxRecDepth 100000
set_option linter.unusedSimpArgs false
set_option linter.unusedVariables false

theorem iJoinedOf_c (S : Store) (v : Value) (r : Nat → Value) (d : List (List Int)) (hM : Mat S v r d) (hd : d.length ≤ maxLen) :
    ACalls Try.prog 44 [v] S fun u S' => MineT S.length S' u (joinedV d) ∧ Pre S.length S S' := by
  refine ACalls.intro (ts := [2]) 96 follows Try.func44 rfl (by kernel_rfl) (by kernel_rfl) (by simp) ?_
  have PB : Pre S.length S (S ++ [.own [v]]) := (Pre.refl _ _).app (Nat.le_refl _) _
  have hbox : (S ++ [Ob.own [v]] : Store)[S.length]? = some (.own [v]) := own_last
  have hlB : (S ++ [Ob.own [v]] : Store).length = S.length + 1 := by simp
  have hMB := hM.ext PB.ext
  have hsl := hM.sl
  have hlen := hM.len
  simp only [go_sem, ↓reduceIte, Nat.reduceEqDiff, argEnv, boxCells_sl hsl]
  have ld0 : ld (S ++ [Ob.own [v]]) (.pointer (some ⟨S.length, 0, none⟩)) = some v := by simp [ld, cell, hbox, Ob.cells]
  simp only [go_sem, ↓reduceIte, Nat.reduceEqDiff, ld0]
  generalize S ++ [Ob.own [v]] = S0 at PB hbox hlB hMB ⊢
  have ldB : ∀ SS, Pre S0.length S0 SS → ld SS (.pointer (some ⟨S.length, 0, none⟩)) = some v := fun SS P => by simp [ld, cell, P.low S.length (by omega), hbox, Ob.cells]
  refine callK.intro (by kernel_rfl) (areFar_c S0 v r d hMB hd) ?_
  rintro _ _ ⟨rfl, rfl⟩
  simp only [go_sem, ↓reduceIte, Nat.reduceEqDiff]
  cases hFb : farB d with
  | false =>
    simp only [go_sem, ↓reduceIte, Nat.reduceEqDiff]
    exact ⟨.inl ⟨rfl, joinedV_no hFb⟩, PB⟩
  | true =>
    have hF := farB_is hFb
    have h6 := hF.2.1
    have hN : d.length ≤ 9223372036854775807 := by omega
    have PL0 : PL S0.length (S0 ++ [.own []]) (mk S0.length 0) S0.length [] := PL.none (by omega)
    have P1 : Pre S0.length S0 (S0 ++ [.own []]) := (Pre.refl _ _).app (by omega) _
    simp only [go_sem, ↓reduceIte, Nat.reduceEqDiff, ldB _ P1, hsl, hlen]
    generalize S0 ++ [Ob.own []] = S1 at PL0 P1 ⊢
    generalize mk S0.length 0 = y0 at PL0 ⊢
    refine aw_count 20 [1, 19] (fun (y : Value) => [(3, y)]) (0) (d.length) (fun i y SS => Pre S0.length S0 SS ∧ ∃ t L, PL S0.length SS y t L ∧ L.map Prod.snd = pairsL d.length i) (y0) ?_ ?_ ?_ ?_
    · simp only [go_sem, ↓reduceIte, Nat.reduceEqDiff, and_self, and_true, true_and, Int.ofNat_zero, Int.ofNat_one, Int.cast_ofNat_Int, hsl, hlen]
    · omega
    rotate_left
    rintro i y Si hi0 hi ⟨P2, t, L, hPL, hLs⟩
    simp only [go_sem, ↓reduceIte, Nat.reduceEqDiff, hsl, hlen]
    refine condK_lt hi (fun hi => ?_) (fun he => ?_)
    · have wi : IntKind.i64.wrap ((i : Int) + 1) = ((i + 1 : Nat) : Int) := wrap_succ (by omega)
      simp only [go_sem, ↓reduceIte, Nat.reduceEqDiff, ldB _ P2, hsl, hlen, wi]
      refine aw_count 5 [1, 4, 19, 20] (fun (y2 : Value) => [(3, y2)]) (i + 1) (d.length) (fun k y2 SS => Pre S0.length S0 SS ∧ ∃ t L, PL S0.length SS y2 t L ∧ L.map Prod.snd = pairsL d.length i ++ pairRow i k) (y) ?_ ?_ ?_ ?_
      · simp only [go_sem, ↓reduceIte, Nat.reduceEqDiff, and_self, and_true, true_and, Int.ofNat_zero, Int.ofNat_one, Int.cast_ofNat_Int, hsl, hlen]
      · omega
      rotate_left
      rintro k y2 Sk hk0 hk ⟨P3, t3, L3, hPL3, hLs3⟩
      simp only [go_sem, ↓reduceIte, Nat.reduceEqDiff, ldB _ P3, hsl, hlen]
      refine condK_lt hk (fun hk => ?_) (fun he => ?_)
      · obtain ⟨v', S', ha, hs, hp, -, t', ht', hPL'⟩ := hPL3.add i k
        have hle : L3.length ≤ 1000 := by
          have e : L3.length = (pairsL d.length i ++ pairRow i k).length := by rw [← hLs3, List.length_map]
          have := pairsL_len h6 i (by omega)
          rw [e, List.length_append, pairRow_len]
          omega
        have hsm : (slen v' ≤ 1099511627776) = True := by simp only [eq_iff_iff, iff_true, hs]; omega
        simp only [go_sem, ↓reduceIte, Nat.reduceEqDiff, ha, hsm]
        refine forK_step (v') hk hk0 ?_ ?_
        · have hib := Nat.lt_of_lt_of_le hk hN; simp only [go_sem, ↓reduceIte, Nat.reduceEqDiff, and_self, and_true, true_and, Int.ofNat_zero, Int.ofNat_one, Int.cast_ofNat_Int, wrap_succ hib]
        exact ⟨P3.trans hp, t', _, hPL', by rw [List.map_append, hLs3, pairRow_yes (by omega), List.append_assoc]; rfl⟩
      · subst he
        simp only [go_sem, ↓reduceIte, Nat.reduceEqDiff]
        refine forK_step (y2) hi hi0 ?_ ?_
        · have hib := Nat.lt_of_lt_of_le hi hN; simp only [go_sem, ↓reduceIte, Nat.reduceEqDiff, and_self, and_true, true_and, Int.ofNat_zero, Int.ofNat_one, Int.cast_ofNat_Int, wrap_succ hib]
        exact ⟨P3, t3, L3, hPL3, by rw [hLs3]; rfl⟩
      · exact ⟨P2, t, L, hPL, by rw [hLs, pairRow_none (Nat.le_refl _), List.append_nil]⟩
    · subst he
      obtain rfl := hPL.top
      have hLn : L.length ≤ 15 := by
        have e : L.length = (pairsL d.length d.length).length := by rw [← hLs, List.length_map]
        rw [e]; exact pairs_few d.length h6
      have hLb : ∀ x ∈ L, x.2.1 < d.length ∧ x.2.2 < d.length ∧ 1 ≤ keyP d x.2 ∧ keyP d x.2 ≤ 60 := fun x hx => by
        have hm : x.2 ∈ pairsL d.length d.length := by rw [← hLs]; exact List.mem_map_of_mem hx
        have h1 := mem_pairsL.1 hm
        have h2 := key_in hF _ hm
        exact ⟨by omega, by omega, h2.1, h2.2⟩
      have htb := hPL.bt
      have M2 := hMB.ext P2.ext
      have hcmp : ∀ ob, ∀ x ∈ L, ∀ y ∈ L, ACalls Try.prog 73 [x.1, y.1, .pointer (some ⟨S.length, 0, none⟩)] (Si.set t ob) (Ret (Si.set t ob) (.int .i64 (keyP d x.2 - keyP d y.2))) := fun ob x hx y hy =>
        joined1_c _ _ v r d (ldB _ (P2.set htb ob)) (hMB.ext (P2.set htb ob).ext) hF _ _ _ _ _ _ (hPL.intsSet hx ob) (hPL.intsSet hy ob) (hLb x hx).1 (hLb x hx).2.1 (hLb y hy).1 (hLb y hy).2.1
      simp only [go_sem, ↓reduceIte, Nat.reduceEqDiff]
      refine callK.intro (by kernel_rfl) (SortStable_c Si t L hPL.own hLn _ _ (by kernel_rfl) (fun x => keyP d x.2) (fun x hx => by have := (hLb x hx).2.2; omega) (fun x hx => hPL.atom hx) hcmp) ?_
      rintro _ S3 ⟨rfl, L', hperm, hsort, hS3⟩
      have hPL3 := hPL.perm hperm
      have P3 := P2.set htb (.own (L'.map Prod.fst))
      rw [hS3] at hPL3 P3
      have hord : L'.map Prod.snd = ordL d := by
        have h1 := SortedOf.map (f := Prod.snd) (key := keyP d) hsort
        rw [hLs] at h1
        exact h1.unique (ord_of hF)
      have hLb' : ∀ x ∈ L', x.2.1 < d.length ∧ x.2.2 < d.length := fun x hx => by have := hLb x (hperm.mem_iff.1 hx); exact ⟨this.1, this.2.1⟩
      rw [← hperm.length_eq] at hLn hPL3 ⊢
      clear hPL hcmp hS3 hperm hsort hLb hLs
      have OL0 : OL S3.length (S3 ++ [.own []]) (mk S3.length 0) S3.length [] := OL.none (Nat.le_refl _)
      have Q0 : Pre S3.length S3 (S3 ++ [.own []]) := (Pre.refl _ _).app (Nat.le_refl _) _
      have hS3l := P3.len
      have P4 : Pre S0.length S0 (S3 ++ [.own []]) := P3.trans (Q0.mono (by omega))
      simp only [go_sem, ↓reduceIte, Nat.reduceEqDiff, ldB _ P4, hsl, hlen]
      generalize S3 ++ [Ob.own []] = S4 at OL0 Q0 P4 ⊢
      generalize mk S3.length 0 = z0 at OL0 ⊢
      refine aw_count 44 [3, 43] (fun (z : Value) => [(6, z)]) (0) (d.length) (fun k z SS => Pre S3.length S3 SS ∧ ∃ t, OL S3.length SS z t (lotsOf id k)) (z0) ?_ ?_ ?_ ?_
      · simp only [go_sem, ↓reduceIte, Nat.reduceEqDiff, and_self, and_true, true_and, Int.ofNat_zero, Int.ofNat_one, Int.cast_ofNat_Int, hsl, hlen]
      · omega
      rotate_left
      rintro k z Sk hk0 hk ⟨Q5, tl, OL5⟩
      simp only [go_sem, ↓reduceIte, Nat.reduceEqDiff, hsl, hlen]
      refine condK_lt hk (fun hk => ?_) (fun he => ?_)
      · obtain ⟨v', S', ha, hs, hp, t', OL6⟩ := OL5.add (k : Int)
        have hsm : (slen v' ≤ 1099511627776) = True := by simp only [eq_iff_iff, iff_true, hs, lotsOf_len]; omega
        simp only [go_sem, ↓reduceIte, Nat.reduceEqDiff, ha, hsm]
        refine forK_step (v') hk hk0 ?_ ?_
        · have hib := Nat.lt_of_lt_of_le hk hN; simp only [go_sem, ↓reduceIte, Nat.reduceEqDiff, and_self, and_true, true_and, Int.ofNat_zero, Int.ofNat_one, Int.cast_ofNat_Int, wrap_succ hib]
        exact ⟨Q5.trans hp, t', by rw [lotsOf_succ]; exact OL6⟩
      · subst he
        have hto := own_lt OL5.own
        have htl := OL5.bt
        have PLo : PL S0.length (Sk ++ [.own []]) (mk Sk.length 0) Sk.length [] := PL.none (by have := Q5.len; omega)
        have Q6 : Pre S3.length S3 (Sk ++ [.own []]) := Q5.app Q5.len _
        have OL6 : OL S3.length (Sk ++ [.own []]) z tl (lotsOf id d.length) := OL5.keep (List.getElem?_append_left hto)
        have hzl : slen z = d.length := by rw [OL5.top, slen_mk, lotsOf_len]
        have hzs := OL5.ints.sl
        have hm1 : isSl (mk t L'.length) = true := rfl
        have hm2 : slen (mk t L'.length) = L'.length := rfl
        have hN2 : L'.length ≤ 9223372036854775807 := by omega
        have hnt : Sk.length ≠ tl := by omega
        simp only [go_sem, ↓reduceIte, Nat.reduceEqDiff, hm1, hm2]
        generalize Sk ++ [Ob.own []] = S7 at PLo Q6 OL6 ⊢
        have hge : S3.length ≤ Sk.length := Q5.len
        generalize Sk.length = to0 at PLo hnt hge ⊢
        generalize mk to0 0 = w0 at PLo ⊢
        refine aw_count 55 [6, 53, 54] (fun (w : Value) => [(8, w)]) (0) (L'.length) (fun i w SS => Pre S3.length S3 SS ∧ OL S3.length SS z tl (lotsOf (jfold (id, []) ((L'.take i).map Prod.snd)).1 d.length) ∧ ∃ to Lo, PL S0.length SS w to Lo ∧ S3.length ≤ to ∧ to ≠ tl ∧ Lo.length ≤ i ∧ (∀ x ∈ Lo, x ∈ L'.take i) ∧ Lo.map pcRow = (jfold (id, []) ((L'.take i).map Prod.snd)).2) (w0) ?_ ?_ ?_ ?_
        · simp only [go_sem, ↓reduceIte, Nat.reduceEqDiff, and_self, and_true, true_and, Int.ofNat_zero, Int.ofNat_one, Int.cast_ofNat_Int, hm1, hm2]
        · omega
        rotate_left
        rintro i w Si hi0 hi ⟨Q8, OL8, to, Lo, PLo8, hto1, hto2, hLol, hsub, hrows⟩
        simp only [go_sem, ↓reduceIte, Nat.reduceEqDiff, hm1, hm2]
        refine condK_lt hi (fun hi => ?_) (fun he => ?_)
        · obtain ⟨x, hxe⟩ : ∃ x, L'[i]? = some x := ⟨L'[i], by simp⟩
          have hxm : x ∈ L' := List.mem_of_getElem? hxe
          have hxa := (hLb' x hxm).1
          have hxb := (hLb' x hxm).2
          have hPL8 := hPL3.pre Q8
          have xl := hPL8.ld hxe
          have hr := hPL8.ints hxm
          have hrs := hr.sl
          have hrl := hr.len
          have hx0 : 0 < slen x.1 := by rw [hrl]; simp [pcRow]
          have hx1 : 1 < slen x.1 := by rw [hrl]; simp [pcRow]
          have gx0 : ld Si (eptr x.1 0) = some (.int .i64 (x.2.1 : Int)) := hr.get 0 (by simp [pcRow])
          have gx1 : ld Si (eptr x.1 1) = some (.int .i64 (x.2.2 : Int)) := hr.get 1 (by simp [pcRow])
          have hdr : L'.drop i = x :: L'.drop (i + 1) := by
            have hi' : i < L'.length := hi
            rw [List.getElem?_eq_getElem hi'] at hxe
            rw [List.drop_eq_getElem_cons hi', Option.some.inj hxe]
          have htk : L'.take (i + 1) = L'.take i ++ [x] := by rw [List.take_add_one, hxe]; rfl
          have hstep : jfold (id, []) ((L'.take (i + 1)).map Prod.snd) = jstep (jfold (id, []) ((L'.take i).map Prod.snd)) x.2.1 x.2.2 := by
            rw [htk, List.map_append, jfold_app]; rfl
          have hnew : x.1 ∉ Lo.map Prod.fst := fun hm => by
            obtain ⟨y, hy, he⟩ := List.mem_map.1 hm
            have hnd := hPL3.nd
            rw [← List.take_append_drop i L', List.map_append, List.nodup_append, hdr] at hnd
            exact hnd.2.2 y.1 (List.mem_map_of_mem (hsub y hy)) x.1 (by simp) he
          have hoff : ∀ y ∈ L', y.1 ≠ mk tl 2 := fun y hy e => by
            obtain ⟨qy, e1, e2, e3, e4⟩ := hPL3.row y hy
            have := own_lt e4
            rw [e1] at e
            simp [Mill.mk] at e
            omega
          have hsub' : ∀ y ∈ Lo, y ∈ L'.take (i + 1) := fun y hy => by rw [htk]; exact List.mem_append_left _ (hsub y hy)
          generalize jfold (id, []) ((L'.take i).map Prod.snd) = s at OL8 hrows hstep ⊢
          have za : ld Si (eptr z x.2.1) = some (.int .i64 ((s.1 x.2.1 : Nat) : Int)) := by rw [OL8.ints.get x.2.1 (by rw [lotsOf_len]; exact hxa), lotsOf_get hxa]
          have zb : ld Si (eptr z x.2.2) = some (.int .i64 ((s.1 x.2.2 : Nat) : Int)) := by rw [OL8.ints.get x.2.2 (by rw [lotsOf_len]; exact hxb), lotsOf_get hxb]
          simp only [go_sem, ↓reduceIte, Nat.reduceEqDiff, hm1, hm2, hi, xl]
          refine draw_read ?_ (by kernel_rfl)
          simp only [go_sem, ↓reduceIte, Nat.reduceEqDiff, hrs, ixK_zero, ixK_one, hx0, hx1, gx0, gx1, hzs, hzl, hxa, hxb, za, zb]
          refine condK_dec (fun q9 h9 => ?_) (fun q9 h9 => ?_)
          · have hse : s.1 x.2.1 = s.1 x.2.2 := by omega
            simp only [go_sem, ↓reduceIte, Nat.reduceEqDiff, h9]
            refine forK_step (w) hi hi0 ?_ ?_
            · have hib := Nat.lt_of_lt_of_le hi hN2; simp only [go_sem, ↓reduceIte, Nat.reduceEqDiff, and_self, and_true, true_and, Int.ofNat_zero, Int.ofNat_one, Int.cast_ofNat_Int, wrap_succ hib]
            rw [hstep, jstep_same hse]
            exact ⟨Q8, OL8, to, Lo, PLo8, hto1, hto2, by omega, hsub', hrows⟩
          · have hse : s.1 x.2.1 ≠ s.1 x.2.2 := by omega
            obtain ⟨qx, hq1, hq2, hq3, hq4⟩ := hPL3.row x hxm
            have hqlt := own_lt hq4
            obtain ⟨v', S', ha, hs, hp, hk', t', ht', hPL'⟩ := PLo8.push hq1 hq2 (by omega) (by rw [Q8.low qx hqlt]; exact hq4) hnew
            have hsm : (slen v' ≤ 1099511627776) = True := by simp only [eq_iff_iff, iff_true, hs]; omega
            have hlt := own_lt OL8.own
            have OL9 := OL8.keep (hk' tl hlt (Ne.symm hto2))
            have hQl := Q8.len
            have hpl := hp.len
            have Q9 : Pre S3.length S3 S' := ⟨by omega, fun q hq => by rw [hk' q (by omega) (by omega), Q8.low q hq]⟩
            simp only [go_sem, ↓reduceIte, Nat.reduceEqDiff, h9, hPL3.atom hxm, ha, hsm, hzs, hzl]
            have OLm : ∀ m, OL S3.length (S'.set tl (.own (ints (lotsOf (mixq s.1 x.2.1 x.2.2 m) d.length)))) z tl (lotsOf (mixq s.1 x.2.1 x.2.2 m) d.length) := fun m => ⟨by rw [OL9.top, lotsOf_len, lotsOf_len], htl, own_set (own_lt OL9.own)⟩
            refine aw_count 80 [6, 8, 11, 12, 53, 54, 55, 79] (fun (u : Unit) => []) (0) (d.length) (fun m u SS => S'.set tl (.own (ints (lotsOf (mixq s.1 x.2.1 x.2.2 m) d.length))) = SS) (()) ?_ ?_ ?_ ?_
            · simp only [go_sem, ↓reduceIte, Nat.reduceEqDiff, and_self, and_true, true_and, Int.ofNat_zero, Int.ofNat_one, Int.cast_ofNat_Int, hzs, hzl]
            · omega
            rotate_left
            rintro m u Sm hm0 hm rfl
            simp only [go_sem, ↓reduceIte, Nat.reduceEqDiff, hzs, hzl]
            refine condK_lt hm (fun hm => ?_) (fun he => ?_)
            · have zm : ld (S'.set tl (.own (ints (lotsOf (mixq s.1 x.2.1 x.2.2 m) d.length)))) (eptr z m) = some (.int .i64 ((s.1 m : Nat) : Int)) := by rw [(OLm m).ints.get m (by rw [lotsOf_len]; exact hm), lotsOf_get hm, mixq_at]
              obtain ⟨hst, -⟩ := (OLm m).st (k := m) (by rw [lotsOf_len]; exact hm) ((s.1 x.2.1 : Nat) : Int)
              simp only [go_sem, ↓reduceIte, Nat.reduceEqDiff, hzs, hzl, hm, zm]
              refine condK_dec (fun q10 h10 => ?_) (fun q10 h10 => ?_)
              · simp only [go_sem, ↓reduceIte, Nat.reduceEqDiff, h10, hst, hzs, hzl, hm]
                refine forK_step (()) hm hm0 ?_ ?_
                · have hib := Nat.lt_of_lt_of_le hm hN; simp only [go_sem, ↓reduceIte, Nat.reduceEqDiff, and_self, and_true, true_and, Int.ofNat_zero, Int.ofNat_one, Int.cast_ofNat_Int, wrap_succ hib]
                rw [List.set_set, mixq_yes hm (by omega)]
              · simp only [go_sem, ↓reduceIte, Nat.reduceEqDiff, h10]
                refine forK_step (()) hm hm0 ?_ ?_
                · have hib := Nat.lt_of_lt_of_le hm hN; simp only [go_sem, ↓reduceIte, Nat.reduceEqDiff, and_self, and_true, true_and, Int.ofNat_zero, Int.ofNat_one, Int.cast_ofNat_Int, wrap_succ hib]
                rw [mixq_no (by omega)]
            · subst he
              simp only [go_sem, ↓reduceIte, Nat.reduceEqDiff]
              refine forK_step (v') hi hi0 ?_ ?_
              · have hib := Nat.lt_of_lt_of_le hi hN2; simp only [go_sem, ↓reduceIte, Nat.reduceEqDiff, and_self, and_true, true_and, Int.ofNat_zero, Int.ofNat_one, Int.cast_ofNat_Int, wrap_succ hib]
              rw [hstep, mixq_end hse]
              refine ⟨Q9.set htl _, ?_, t', Lo ++ [x], hPL'.setOff (by omega) (fun y hy => ?_) _, by omega, by omega, by simp; omega, fun y hy => ?_, ?_⟩
              · have := OLm d.length
                rw [mixq_end hse] at this
                exact this
              · rcases List.mem_append.1 hy with h | h
                · exact hoff y (List.mem_of_mem_take (hsub y h))
                · obtain rfl : y = x := by simpa using h
                  exact hoff y hxm
              · rcases List.mem_append.1 hy with h | h
                · exact hsub' y h
                · rw [htk]; exact List.mem_append_right _ h
              · rw [List.map_append, hrows, jstep_two hse]; rfl
            · rw [mixq_zero]; exact set_same OL9.own
        · subst he
          simp only [go_sem, ↓reduceIte, Nat.reduceEqDiff]
          obtain ⟨g, hOT⟩ := (PLo8.mono (show S.length ≤ S0.length by omega)).table
          rw [hrows, List.take_length, hord, ← joinedV_yes hF] at hOT
          have hQl := Q8.len
          exact ⟨.inr ⟨to, g, hOT⟩, PB.trans ((P3.trans (Q8.mono (by omega))).mono (by omega))⟩
        · exact ⟨Q6, OL6, to0, [], PLo, hge, hnt, Nat.zero_le _, fun _ h => absurd h List.not_mem_nil, rfl⟩
      · exact ⟨Q0, _, OL0⟩
    · exact ⟨P1, _, _, PL0, rfl⟩
end Go.Proofs.Ytodeldmkpogakaa

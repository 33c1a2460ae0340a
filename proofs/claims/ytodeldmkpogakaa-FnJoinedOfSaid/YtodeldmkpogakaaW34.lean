/- Walks: the stable sort of the pairs. -/
import Derived.Test.YtodeldmkpogakaaMillR
import Derived.Test.YtodeldmkpogakaaW0
namespace Go.Proofs.Ytodeldmkpogakaa
open Go Go.Mill
set_option maxRecDepth 100000
set_option linter.unusedSimpArgs false
set_option linter.unusedVariables false

theorem nil_or_last {α : Type} (p : List α) : p = [] ∨ ∃ p' z, p = p' ++ [z] := by
  rcases List.eq_nil_or_concat p with h | ⟨a, b, h⟩
  · exact .inl h
  · exact .inr ⟨a, b, by rw [h, List.concat_eq_append]⟩
theorem insSort_c (S : Store) (t : Nat) (L : List PC) (hS : S[t]? = some (.own (L.map Prod.fst))) (hn : L.length ≤ 1000) (f : FuncId) (cap : Value) (hca : callable Try.prog f = true) (key : PC → Int) (hk : ∀ x ∈ L, 0 ≤ key x ∧ key x ≤ 1000) (hat : ∀ x ∈ L, atomB x.1 = true)
    (hf : ∀ ob, ∀ x ∈ L, ∀ y ∈ L, ACalls Try.prog f [x.1, y.1, cap] (S.set t ob) (Ret (S.set t ob) (.int .i64 (key x - key y)))) :
    ACalls Try.prog 101 [mk t L.length, .int .i64 0, .int .i64 (L.length : Nat), .func (.func f) #[] #[cap]] S fun u S' => u = .tuple #[] ∧ ∃ L', L'.Perm L ∧ SortedOf key L L' ∧ S.set t (.own (L'.map Prod.fst)) = S' := by
  refine ACalls.intro (ts := []) 53 follows Try.func101 rfl (by kernel_rfl) (by kernel_rfl) (by simp) ?_
  have w01 : IntKind.i64.wrap (0 + 1) = 1 := wrap64 (by omega)
  simp only [go_sem, ↓reduceIte, Nat.reduceEqDiff, argEnv, w01]
  rcases L with _ | ⟨x0, L0⟩
  · refine aw_count 8 [0, 1, 2, 3] (fun (y : Unit) => []) (1) (1) (fun k y SS => S = SS) (()) ?_ ?_ ?_ ?_
    · simp only [go_sem, ↓reduceIte, Nat.reduceEqDiff, and_self, and_true, true_and, Int.ofNat_zero, Int.ofNat_one, Int.cast_ofNat_Int]
    · omega
    rotate_left
    rintro k y Sk hk0 hk rfl
    obtain rfl : k = 1 := by omega
    have h0 : decide (((1 : Nat) : Int) < ((([] : List PC).length : Nat) : Int)) = false := rfl
    simp only [go_sem, ↓reduceIte, Nat.reduceEqDiff, h0]
    exact ⟨by trivial, rfl, [], List.Perm.refl _, SortedOf.nil, set_same hS⟩
    rfl
  generalize hL : x0 :: L0 = L at *
  have hn1 : 1 ≤ L.length := by rw [← hL]; simp
  have hN : L.length ≤ 9223372036854775807 := by omega
  have hslen : slen (mk t L.length) = L.length := rfl
  have hssl : isSl (mk t L.length) = true := rfl
  have htl := own_lt hS
  refine aw_count 8 [0, 1, 2, 3] (fun (y : Unit) => []) (1) (L.length) (fun i y SS => ∃ s, s.length = i ∧ s.Perm (L.take i) ∧ SortedOf key (L.take i) s ∧ S.set t (.own ((s ++ L.drop i).map Prod.fst)) = SS) (()) ?_ ?_ ?_ ?_
  · simp only [go_sem, ↓reduceIte, Nat.reduceEqDiff, and_self, and_true, true_and, Int.ofNat_zero, Int.ofNat_one, Int.cast_ofNat_Int]
  · omega
  rotate_left
  rintro i y Si hi0 hi ⟨s, hs1, hs2, hs3, rfl⟩
  simp only [go_sem, ↓reduceIte, Nat.reduceEqDiff]
  refine condK_lt hi (fun hi => ?_) (fun he => ?_)
  · obtain ⟨x, hxe, hdr⟩ : ∃ x, L[i]? = some x ∧ L.drop i = x :: L.drop (i + 1) := ⟨L[i], by simp, List.drop_eq_getElem_cons hi⟩
    have hxm : x ∈ L := List.mem_of_getElem? hxe
    have htk : L.take (i + 1) = L.take i ++ [x] := by rw [List.take_add_one, hxe]; rfl
    have hsm : ∀ z ∈ s, z ∈ L := fun z hz => List.mem_of_mem_take (hs2.mem_iff.1 hz)
    rw [hdr]
    simp only [go_sem, ↓reduceIte, Nat.reduceEqDiff]
    refine aw_down 9 [0, 1, 2, 3, 8] (fun (_ : List PC × List PC) => []) i (fun j y SS => y.1.length = j ∧ y.1 ++ y.2 = s ∧ (∀ z ∈ y.2, key x < key z) ∧ S.set t (.own ((y.1 ++ x :: (y.2 ++ L.drop (i + 1))).map Prod.fst)) = SS) (s, []) ?_ ⟨hs1, List.append_nil _, fun _ h => absurd h List.not_mem_nil, rfl⟩ ?_
    · simp only [go_sem, ↓reduceIte, Nat.reduceEqDiff, and_self, and_true, true_and]
    rintro j ⟨p, q⟩ _ hj ⟨hp, hpq, hq, rfl⟩
    dsimp only at hp hpq hq
    have fin : (∀ z ∈ p, key z ≤ key x) → (p ++ x :: q).length = i + 1 ∧ (p ++ x :: q).Perm (L.take (i + 1)) ∧ SortedOf key (L.take (i + 1)) (p ++ x :: q) ∧ S.set t (.own (((p ++ x :: q) ++ L.drop (i + 1)).map Prod.fst)) = S.set t (.own ((p ++ x :: (q ++ L.drop (i + 1))).map Prod.fst)) := fun hpx => by
      refine ⟨?_, ?_, ?_, by rw [List.append_assoc]; rfl⟩
      · rw [← hs1, ← hpq]; simp only [List.length_append, List.length_cons]; omega
      · rw [htk]
        refine List.Perm.trans ?_ (hs2.append_right [x])
        rw [← hpq, List.append_assoc]
        refine List.Perm.append_left p ?_
        exact (List.perm_append_singleton x q).symm
      · rw [htk]; exact SortedOf.insert (by rw [hpq]; exact hs3) hpx hq
    simp only [go_sem, ↓reduceIte, Nat.reduceEqDiff]
    rcases nil_or_last p with rfl | ⟨p', z, rfl⟩
    · obtain rfl : j = 0 := by simpa using hp.symm
      refine draw_same ?_ (by kernel_rfl)
      have h0 : decide ((0 : Int) < ((0 : Nat) : Int)) = false := rfl
      simp only [go_sem, ↓reduceIte, Nat.reduceEqDiff, h0]
      refine forK_step (()) hi hi0 ?_ ?_
      · have hib := Nat.lt_of_lt_of_le hi hN; simp only [go_sem, ↓reduceIte, Nat.reduceEqDiff, and_self, and_true, true_and, Int.ofNat_zero, Int.ofNat_one, Int.cast_ofNat_Int, wrap_succ hib]
      obtain ⟨f1, f2, f3, f4⟩ := fin fun _ h => absurd h List.not_mem_nil
      exact ⟨_, f1, f2, f3, by simp⟩
    · have hp2 : j = p'.length + 1 := by rw [← hp]; simp
      have h0 : decide ((0 : Int) < ((j : Nat) : Int)) = true := by rw [decide_eq_true_eq]; omega
      have hjn : j < L.length := by omega
      have hjn' : p'.length < L.length := by omega
      have wj : IntKind.i64.wrap ((j : Int) - 1) = ((p'.length : Nat) : Int) := by rw [wrap64 (by omega)]; omega
      have hzm : z ∈ L := hsm z (by rw [← hpq]; simp)
      have hown : (S.set t (.own ((p' ++ [z] ++ x :: (q ++ L.drop (i + 1))).map Prod.fst)))[t]? = some (.own (p'.map Prod.fst ++ z.1 :: (x.1 :: (q ++ L.drop (i + 1)).map Prod.fst))) := by rw [own_set htl]; simp
      have l1 : ld (S.set t (.own ((p' ++ [z] ++ x :: (q ++ L.drop (i + 1))).map Prod.fst))) (eptr (mk t L.length) p'.length) = some z.1 := ld_cut hown (by simp)
      have hown2 : (S.set t (.own ((p' ++ [z] ++ x :: (q ++ L.drop (i + 1))).map Prod.fst)))[t]? = some (.own ((p'.map Prod.fst ++ [z.1]) ++ x.1 :: (q ++ L.drop (i + 1)).map Prod.fst)) := by rw [own_set htl]; simp
      have l2 : ld (S.set t (.own ((p' ++ [z] ++ x :: (q ++ L.drop (i + 1))).map Prod.fst))) (eptr (mk t L.length) j) = some x.1 := ld_cut hown2 (by simp [hp2])
      have hcmp := hf (.own ((p' ++ [z] ++ x :: (q ++ L.drop (i + 1))).map Prod.fst)) x hxm z hzm
      refine draw_same ?_ (by kernel_rfl)
      simp only [go_sem, ↓reduceIte, Nat.reduceEqDiff, h0, hslen, hssl, hjn, hjn', wj, l1, l2]
      refine callQK_same (.int .i64 (key x - key z)) hca rfl hcmp ?_
      simp only [go_sem, ↓reduceIte, Nat.reduceEqDiff]
      refine condK_dec (fun q4 h4 => ?_) (fun q4 h4 => ?_)
      · have hlt : key x < key z := by omega
        generalize hSS : S.set t (.own ((p' ++ [z] ++ x :: (q ++ L.drop (i + 1))).map Prod.fst)) = SS at hown hown2 l1 l2 ⊢
        have e1 : ∀ (u : Value), st SS (eptr (mk t L.length) j) u = some (SS.set t (.own ((p'.map Prod.fst ++ [z.1]) ++ u :: (q ++ L.drop (i + 1)).map Prod.fst))) := fun u => st_cut hown2 (by simp [hp2])
        have hown3 : (SS.set t (.own ((p'.map Prod.fst ++ [z.1]) ++ z.1 :: (q ++ L.drop (i + 1)).map Prod.fst)))[t]? = some (.own (p'.map Prod.fst ++ z.1 :: (z.1 :: (q ++ L.drop (i + 1)).map Prod.fst))) := by rw [own_set (own_lt hown)]; simp
        have e2 : st (SS.set t (.own ((p'.map Prod.fst ++ [z.1]) ++ z.1 :: (q ++ L.drop (i + 1)).map Prod.fst))) (eptr (mk t L.length) p'.length) x.1 = some ((SS.set t (.own ((p'.map Prod.fst ++ [z.1]) ++ z.1 :: (q ++ L.drop (i + 1)).map Prod.fst))).set t (.own (p'.map Prod.fst ++ x.1 :: (z.1 :: (q ++ L.drop (i + 1)).map Prod.fst)))) := st_cut hown3 (by simp)
        simp only [go_sem, ↓reduceIte, Nat.reduceEqDiff, h4]
        refine draw_mixD t [true, true, true, true, true, true, true, true, true, false, true, true, true] 6 ?_ (by kernel_rfl)
        simp only [go_sem, ↓reduceIte, Nat.reduceEqDiff, hslen, hssl, hjn, hjn', wj]
        refine anyW_two 9 13 (by kernel_rfl) ?_ ?_
        · simp only [go_sem, ↓reduceIte, Nat.reduceEqDiff, l1]
          refine andK_intro (.inl ext_dead_self) ?_
          refine anyW_one 13 (by kernel_rfl) ?_
          simp only [go_sem, ↓reduceIte, Nat.reduceEqDiff, l2]
          refine andK_intro (.inl ext_dead_self) ?_
          refine anyW_one 14 (by kernel_rfl) ?_
          simp only [go_sem, ↓reduceIte, Nat.reduceEqDiff, hslen, hssl, hjn, hjn', wj]
          refine andK_intro (.inl ext_dead_self) ?_
          refine anyW_one 15 (by kernel_rfl) ?_
          simp only [go_sem, ↓reduceIte, Nat.reduceEqDiff, e1, hat z hzm]
          refine andK_intro (.inl ext_dead) ?_
          refine anyW_one 16 (by kernel_rfl) ?_
          simp only [go_sem, ↓reduceIte, Nat.reduceEqDiff, hslen, hssl, hjn, hjn', wj]
          refine andK_intro (.inl ext_dead) ?_
          refine anyW_one 17 (by kernel_rfl) ?_
          simp only [go_sem, ↓reduceIte, Nat.reduceEqDiff, e2, hat x hxm]
          rw [List.set_set]
          refine andK_intro (.inl ext_dead) ?_
          refine anyW_done (by kernel_rfl) ?_
          simp only [go_sem, ↓reduceIte, Nat.reduceEqDiff]
          refine downK_next (p', z :: q) (by omega) hj ?_ ?_
          · simp only [go_sem, ↓reduceIte, Nat.reduceEqDiff, and_self, and_true, true_and, wj]
            rw [hp2]; simp
          · exact ⟨by simp [hp2], by rw [← hpq]; simp, fun w hw => by
              rcases List.mem_cons.1 hw with rfl | hw
              · exact hlt
              · exact hq w hw, by rw [← hSS, List.set_set]; simp⟩
        · simp only [go_sem, ↓reduceIte, Nat.reduceEqDiff, l2]
          refine andK_intro (.inl ext_dead_self) ?_
          refine anyW_one 9 (by kernel_rfl) ?_
          simp only [go_sem, ↓reduceIte, Nat.reduceEqDiff, l1]
          refine andK_intro (.inl ext_dead_self) ?_
          refine anyW_one 14 (by kernel_rfl) ?_
          simp only [go_sem, ↓reduceIte, Nat.reduceEqDiff, hslen, hssl, hjn, hjn', wj]
          refine andK_intro (.inl ext_dead_self) ?_
          refine anyW_one 15 (by kernel_rfl) ?_
          simp only [go_sem, ↓reduceIte, Nat.reduceEqDiff, e1, hat z hzm]
          refine andK_intro (.inl ext_dead) ?_
          refine anyW_one 16 (by kernel_rfl) ?_
          simp only [go_sem, ↓reduceIte, Nat.reduceEqDiff, hslen, hssl, hjn, hjn', wj]
          refine andK_intro (.inl ext_dead) ?_
          refine anyW_one 17 (by kernel_rfl) ?_
          simp only [go_sem, ↓reduceIte, Nat.reduceEqDiff, e2, hat x hxm]
          rw [List.set_set]
          refine andK_intro (.inl ext_dead) ?_
          refine anyW_done (by kernel_rfl) ?_
          simp only [go_sem, ↓reduceIte, Nat.reduceEqDiff]
          refine downK_next (p', z :: q) (by omega) hj ?_ ?_
          · simp only [go_sem, ↓reduceIte, Nat.reduceEqDiff, and_self, and_true, true_and, wj]
            rw [hp2]; simp
          · exact ⟨by simp [hp2], by rw [← hpq]; simp, fun w hw => by
              rcases List.mem_cons.1 hw with rfl | hw
              · exact hlt
              · exact hq w hw, by rw [← hSS, List.set_set]; simp⟩
      · simp only [go_sem, ↓reduceIte, Nat.reduceEqDiff, h4]
        refine forK_step (()) hi hi0 ?_ ?_
        · have hib := Nat.lt_of_lt_of_le hi hN; simp only [go_sem, ↓reduceIte, Nat.reduceEqDiff, and_self, and_true, true_and, Int.ofNat_zero, Int.ofNat_one, Int.cast_ofNat_Int, wrap_succ hib]
        obtain ⟨f1, f2, f3, f4⟩ := fin (fun w hw => by
          have hu := hs3.up
          rw [← hpq, List.append_assoc, List.pairwise_append] at hu
          rcases List.mem_append.1 hw with hw | hw
          · have := hu.2.2 w hw z (by simp); omega
          · obtain rfl : w = z := by simpa using hw
            omega)
        exact ⟨_, f1, f2, f3, by simp⟩
  · have e : L.take L.length = L := List.take_length
    subst he
    rw [e] at hs2 hs3
    simp only [go_sem, ↓reduceIte, Nat.reduceEqDiff]
    exact ⟨by trivial, rfl, s, hs2, hs3, by simp⟩
  · refine ⟨[x0], rfl, by rw [← hL]; exact List.Perm.refl _, ?_, ?_⟩
    · rw [← hL]
      exact SortedOf.insert (l := []) (p := []) (q := []) SortedOf.nil (fun _ h => absurd h List.not_mem_nil) (fun _ h => absurd h List.not_mem_nil)
    · rw [← hL] at hS ⊢
      exact set_same hS

theorem stable_c (S : Store) (t : Nat) (L : List PC) (hS : S[t]? = some (.own (L.map Prod.fst))) (hn : L.length ≤ 15) (f : FuncId) (cap : Value) (hca : callable Try.prog f = true) (key : PC → Int) (hk : ∀ x ∈ L, 0 ≤ key x ∧ key x ≤ 1000) (hat : ∀ x ∈ L, atomB x.1 = true)
    (hf : ∀ ob, ∀ x ∈ L, ∀ y ∈ L, ACalls Try.prog f [x.1, y.1, cap] (S.set t ob) (Ret (S.set t ob) (.int .i64 (key x - key y)))) :
    ACalls Try.prog 86 [mk t L.length, .int .i64 (L.length : Nat), .func (.func f) #[] #[cap]] S fun u S' => u = .tuple #[] ∧ ∃ L', L'.Perm L ∧ SortedOf key L L' ∧ S.set t (.own (L'.map Prod.fst)) = S' := by
  refine ACalls.intro (ts := []) 63 follows Try.func86 rfl (by kernel_rfl) (by kernel_rfl) (by simp) ?_
  simp only [go_sem, ↓reduceIte, Nat.reduceEqDiff, argEnv]
  refine aw_down 8 [0, 1, 2, 6, 7] (fun (_ : Unit) => []) 20 (fun i _ SS => i = 20 ∧ S = SS) () ?_ ⟨rfl, rfl⟩ ?_
  · simp only [go_sem, ↓reduceIte, Nat.reduceEqDiff, and_self, and_true, true_and]
    rfl
  rintro _ _ _ _ ⟨rfl, rfl⟩
  have h0 : decide (((20 : Nat) : Int) ≤ ((L.length : Nat) : Int)) = false := by rw [decide_eq_false_iff_not]; omega
  have h1 : decide ((20 : Int) < ((L.length : Nat) : Int)) = false := by rw [decide_eq_false_iff_not]; omega
  have h2 : decide (((20 : Nat) : Int) < ((L.length : Nat) : Int)) = false := by rw [decide_eq_false_iff_not]; omega
  simp only [go_sem, ↓reduceIte, Nat.reduceEqDiff, h0]
  refine callK.intro (by kernel_rfl) (insSort_c S t L hS (by omega) f cap hca key hk hat hf) ?_
  rintro _ S2 ⟨rfl, hS2⟩
  simp only [go_sem, ↓reduceIte, Nat.reduceEqDiff]
  refine aw_down 6 [0, 1, 2] (fun (_ : Unit) => []) 20 (fun i _ SS => i = 20 ∧ S2 = SS) () ?_ ⟨rfl, rfl⟩ ?_
  · simp only [go_sem, ↓reduceIte, Nat.reduceEqDiff, and_self, and_true, true_and]
    rfl
  rintro _ _ _ _ ⟨rfl, rfl⟩
  simp only [go_sem, ↓reduceIte, Nat.reduceEqDiff, h1, h2]
  exact ⟨by trivial, rfl, hS2⟩

theorem SortStable_c (S : Store) (t : Nat) (L : List PC) (hS : S[t]? = some (.own (L.map Prod.fst))) (hn : L.length ≤ 15) (f : FuncId) (cap : Value) (hca : callable Try.prog f = true) (key : PC → Int) (hk : ∀ x ∈ L, 0 ≤ key x ∧ key x ≤ 1000) (hat : ∀ x ∈ L, atomB x.1 = true)
    (hf : ∀ ob, ∀ x ∈ L, ∀ y ∈ L, ACalls Try.prog f [x.1, y.1, cap] (S.set t ob) (Ret (S.set t ob) (.int .i64 (key x - key y)))) :
    ACalls Try.prog 72 [mk t L.length, .func (.func f) #[] #[cap]] S fun u S' => u = .tuple #[] ∧ ∃ L', L'.Perm L ∧ SortedOf key L L' ∧ S.set t (.own (L'.map Prod.fst)) = S' := by
  refine ACalls.intro (ts := []) 9 follows Try.func72 rfl (by kernel_rfl) (by kernel_rfl) (by simp) ?_
  have hsl : isSl (mk t L.length) = true := rfl
  have hlen : slen (mk t L.length) = L.length := rfl
  simp only [go_sem, ↓reduceIte, Nat.reduceEqDiff, argEnv, hsl, hlen]
  refine callK.intro (by kernel_rfl) (stable_c S t L hS hn f cap hca key hk hat hf) ?_
  rintro _ S2 ⟨rfl, hS2⟩
  simp only [go_sem, ↓reduceIte, Nat.reduceEqDiff]
  exact ⟨by trivial, rfl, hS2⟩

theorem joined1_c (S : Store) (p : Value) (v : Value) (r : Nat → Value) (d : List (List Int)) (hp : ld S p = some v) (hM : Mat S v r d) (hF : IsFar d) (x y : Value) (a b a' b' : Nat) (hx : Ints S x [(a : Int), (b : Int)]) (hy : Ints S y [(a' : Int), (b' : Int)])
    (ha : a < d.length) (hb : b < d.length) (ha' : a' < d.length) (hb' : b' < d.length) :
    ACalls Try.prog 73 [x, y, p] S (Ret S (.int .i64 (at2 d a b - at2 d a' b'))) := by
  refine ACalls.intro (ts := [5]) 29 follows Try.func73 rfl (by kernel_rfl) (by kernel_rfl) (by simp) ?_
  have hsl := hM.sl
  have hlen := hM.len
  have hrl := hM.sqlen hF.sq
  have hcl := hM.sqcell hF.sq
  have xl := hx.len
  have yl := hy.len
  have x0 : 0 < slen x := by rw [xl]; simp
  have x1 : 1 < slen x := by rw [xl]; simp
  have y0 : 0 < slen y := by rw [yl]; simp
  have y1 : 1 < slen y := by rw [yl]; simp
  have gx0 : ld S (eptr x 0) = some (.int .i64 (a : Int)) := hx.get 0 (by simp)
  have gx1 : ld S (eptr x 1) = some (.int .i64 (b : Int)) := hx.get 1 (by simp)
  have gy0 : ld S (eptr y 0) = some (.int .i64 (a' : Int)) := hy.get 0 (by simp)
  have gy1 : ld S (eptr y 1) = some (.int .i64 (b' : Int)) := hy.get 1 (by simp)
  have s1 := hF.at ha hb
  have s2 := hF.at ha' hb'
  have hw : IntKind.i64.wrap (at2 d a b - at2 d a' b') = at2 d a b - at2 d a' b' := wrap64 (by omega)
  simp only [go_sem, ↓reduceIte, Nat.reduceEqDiff, argEnv]
  refine draw_read ?_ (by kernel_rfl)
  simp only [go_sem, ↓reduceIte, Nat.reduceEqDiff, hp, hx.sl, hy.sl, ixK_zero, ixK_one, x0, x1, y0, y1, gx0, gx1, gy0, gy1, hsl, hlen, ha, hb, ha', hb', hM.get, hM.rsl, hrl, hcl, hw]
  exact Ret.mk _ _
end Go.Proofs.Ytodeldmkpogakaa

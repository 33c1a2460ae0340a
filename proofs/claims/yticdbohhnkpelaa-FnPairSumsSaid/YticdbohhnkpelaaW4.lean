/- Walks: ultrametric, together, fitting. -/
import Derived.Test.YticdbohhnkpelaaW3
import Derived.Test.YticdbohhnkpelaaPure2
import Derived.Test.YticdbohhnkpelaaMillL
namespace Go.Proofs.Yticdbohhnkpelaa
open Go Go.Mill
set_option maxRecDepth 100000
set_option linter.unusedSimpArgs false
set_option linter.unusedVariables false

theorem arePoints1_c (S : Store) (v : Value) (r : Nat → Value) (d : List (List Int)) (hM : Mat S v r d) (hd : d.length ≤ maxLen) (p : Value) (hp : ld S p = some v) (x : Int) (hx : -9223372036854775808 ≤ x ∧ x ≤ 9223372036854775807) :
    ACalls Try.prog 74 [.int .i64 x, p] S (Ret S (.bool (!hasB d x))) := by
  refine ACalls.intro (ts := [3]) 8 follows Try.func74 rfl (by kernel_rfl) (by kernel_rfl) (by simp) ?_
  simp only [go_sem, ↓reduceIte, Nat.reduceEqDiff, argEnv, hp]
  refine callK.intro (by kernel_rfl) (hasPoint_c S v r d hM hd x hx) ?_
  rintro _ _ ⟨rfl, rfl⟩
  simp only [go_sem, ↓reduceIte, Nat.reduceEqDiff]
  exact Ret.mk _ _

theorem IndexFunc_c (S : Store) (p : Value) (xs : List Int) (hI : Ints S p xs) (hx : xs.length ≤ maxLen) (f : FuncId) (cap : Value) (hca : callable Try.prog f = true) (b : Int → Bool)
    (hf : ∀ i, i < xs.length → ACalls Try.prog f [.int .i64 (xs.getD i 0), cap] S (Ret S (.bool (b (xs.getD i 0))))) :
    ACalls Try.prog 75 [p, .func (.func f) #[] #[cap]] S fun u S' => (∃ y, u = .int .i64 y ∧ decide (0 ≤ y) = xs.any b) ∧ S = S' := by
  refine ACalls.intro (ts := [4]) 19 follows Try.func75 rfl (by kernel_rfl) (by kernel_rfl) (by simp) ?_
  have hsl := hI.sl
  have hlen := hI.len
  have hN : xs.length ≤ 9223372036854775807 := hx
  simp only [go_sem, ↓reduceIte, Nat.reduceEqDiff, argEnv, hsl, hlen]
  refine aw_count 8 [0, 1, 7] (fun (_ : Unit) => []) (0) (xs.length) (fun i _ SS => S = SS ∧ (∀ j, j < i → b (xs.getD j 0) = false)) (()) ?_ ?_ ?_ ?_
  · simp only [go_sem, ↓reduceIte, Nat.reduceEqDiff, and_self, and_true, true_and, Int.ofNat_zero, Int.ofNat_one, Int.cast_ofNat_Int, hsl, hlen]
  · omega
  · (refine ⟨rfl, ?_⟩; first | trivial | rfl | ((repeat' apply And.intro) <;> first | rfl | trivial | omega | (intros; omega) | simp [top]))
  rintro i _ _ hi0 hi ⟨rfl, hno⟩
  simp only [go_sem, ↓reduceIte, Nat.reduceEqDiff, hsl, hlen]
  refine condK_lt hi (fun hi => ?_) (fun he => ?_)
  · simp only [go_sem, ↓reduceIte, Nat.reduceEqDiff, hsl, hlen, hi, hI.get]
    refine ⟨hca, ?_⟩
    refine (hf i hi).mono ?_
    rintro _ _ ⟨rfl, rfl⟩
    cases hb : b (xs.getD i 0) with
    | true =>
      simp only [go_sem, ↓reduceIte, Nat.reduceEqDiff]
      refine ⟨⟨_, rfl, ?_⟩, by trivial⟩
      have h1 : xs.any b = true := List.any_eq_true.2 ⟨xs.getD i 0, by simp [List.getElem?_eq_getElem hi], hb⟩
      rw [h1]; simp
    | false =>
      simp only [go_sem, ↓reduceIte, Nat.reduceEqDiff]
      refine forK_step (()) hi hi0 ?_ ?_
      · have hib := Nat.lt_of_lt_of_le hi hN; simp only [go_sem, ↓reduceIte, Nat.reduceEqDiff, and_self, and_true, true_and, Int.ofNat_zero, Int.ofNat_one, Int.cast_ofNat_Int, wrap_succ hib]
      exact ⟨rfl, fun j hj => by
        rcases Nat.lt_or_ge j i with h | h
        · exact hno j h
        · obtain rfl : j = i := by omega
          exact hb⟩
  · subst he
    simp only [go_sem, ↓reduceIte, Nat.reduceEqDiff]
    refine ⟨⟨_, rfl, ?_⟩, by trivial⟩
    have h1 : xs.any b = false := by
      rw [List.any_eq_false]
      intro x hx
      obtain ⟨i, hi, rfl⟩ := List.mem_iff_getElem.1 hx
      have := hno i hi
      simpa [List.getElem?_eq_getElem hi] using this
    rw [h1]; rfl

theorem ContainsFunc_c (S : Store) (p : Value) (xs : List Int) (hI : Ints S p xs) (hx : xs.length ≤ maxLen) (f : FuncId) (cap : Value) (hca : callable Try.prog f = true) (b : Int → Bool)
    (hf : ∀ i, i < xs.length → ACalls Try.prog f [.int .i64 (xs.getD i 0), cap] S (Ret S (.bool (b (xs.getD i 0))))) :
    ACalls Try.prog 73 [p, .func (.func f) #[] #[cap]] S (Ret S (.bool (xs.any b))) := by
  refine ACalls.intro (ts := [4]) 9 follows Try.func73 rfl (by kernel_rfl) (by kernel_rfl) (by simp) ?_
  simp only [go_sem, ↓reduceIte, Nat.reduceEqDiff, argEnv]
  refine callK.intro (by kernel_rfl) (IndexFunc_c S p xs hI hx f cap hca b hf) ?_
  rintro _ _ ⟨⟨y, rfl, hy⟩, rfl⟩
  simp only [go_sem, ↓reduceIte, Nat.reduceEqDiff]
  exact Ret.bool hy

theorem arePoints_c (S : Store) (v : Value) (r : Nat → Value) (d : List (List Int)) (hM : Mat S v r d) (hd : d.length ≤ maxLen) (p : Value) (xs : List Int) (hI : Ints S p xs) (hx : xs.length ≤ maxLen)
    (hb : ∀ i, i < xs.length → -9223372036854775808 ≤ xs.getD i 0 ∧ xs.getD i 0 ≤ 9223372036854775807) :
    ACalls Try.prog 60 [v, p] S fun u S' => u = .bool (!xs.any fun x => !hasB d x) ∧ S ++ [.own [v]] = S' := by
  refine ACalls.intro (ts := [4]) 9 follows Try.func60 rfl (by kernel_rfl) (by kernel_rfl) (by simp) ?_
  have hbox : boxCells v = some [v] := boxCells_sl hM.sl
  simp only [go_sem, ↓reduceIte, Nat.reduceEqDiff, argEnv, hbox]
  have hM1 := hM.ext (Ext.append S [.own [v]])
  have hI1 := hI.ext (Ext.append S [.own [v]])
  have hp : ld (S ++ [.own [v]]) (.pointer (some ⟨S.length, 0, none⟩)) = some v := by simp [ld, cell, Ob.cells]
  refine callK.intro (by kernel_rfl) (ContainsFunc_c _ _ xs hI1 hx 74 _ (by kernel_rfl) (fun x => !hasB d x) (fun i hi => arePoints1_c _ _ _ _ hM1 hd _ hp _ (hb i hi))) ?_
  rintro _ _ ⟨rfl, rfl⟩
  simp only [go_sem, ↓reduceIte, Nat.reduceEqDiff]
  exact ⟨by trivial, by trivial⟩

theorem sPointFits_c (S : Store) (v : Value) (r : Nat → Value) (d : List (List Int)) (hM : Mat S v r d) (hd : d.length ≤ maxLen) (vf : Value) (xs : List Int) (hI : Ints S vf xs) (hx : xs.length ≤ maxLen) :
    ACalls Try.prog 66 [v, vf] S (Ret S (.bool (fitB d xs))) := by
  refine ACalls.intro (ts := [4]) 83 follows Try.func66 rfl (by kernel_rfl) (by kernel_rfl) (by simp) ?_
  have hsl := hM.sl
  have hlen := hM.len
  have hsl' := hI.sl
  have hlen' := hI.len
  have hN : d.length ≤ 9223372036854775807 := hd
  simp only [go_sem, ↓reduceIte, Nat.reduceEqDiff, argEnv, hsl, hlen]
  refine callK.intro (by kernel_rfl) (sSpaceOk_c S v r d hM hd) ?_
  rintro _ _ ⟨rfl, rfl⟩
  simp only [go_sem, ↓reduceIte, Nat.reduceEqDiff]
  cases hF : spaceB d with
  | false =>
    simp only [go_sem, ↓reduceIte, Nat.reduceEqDiff]
    exact Ret.bool (fitB_no fun h => spaceB_not hF h.1).symm
  | true =>
    have hS := spaceB_is hF
    simp only [go_sem, ↓reduceIte, Nat.reduceEqDiff, hsl, hlen]
    repeat' (first | (refine gK_dec (fun p h => ?_) (fun p h => ?_) <;> simp only [go_sem, ↓reduceIte, Nat.reduceEqDiff, h, hsl, hlen, hsl', hlen']) | (refine condK_dec (fun p h => ?_) (fun p h => ?_) <;> simp only [go_sem, ↓reduceIte, Nat.reduceEqDiff, h, hsl, hlen, hsl', hlen']) | (refine gQ_dec (fun p h => ?_) (fun p h => ?_) <;> simp only [go_sem, ↓reduceIte, Nat.reduceEqDiff, h, hsl, hlen, hsl', hlen']) | (refine gQC_dec (fun p h => ?_) (fun p h => ?_) <;> simp only [go_sem, ↓reduceIte, Nat.reduceEqDiff, h, hsl, hlen, hsl', hlen']))
    · exact Ret.bool (fitB_no fun h => by have := h.2.1; omega).symm
    · exact Ret.bool (fitB_no fun h => by have := h.2.2.1; omega).symm
    have hrl := hM.sqlen hS.1.sq
    have hcl := hM.sqcell hS.1.sq
    have hxl : xs.length = d.length := by omega
    have hg : ∀ i, i < d.length → ld S (eptr vf i) = some (.int .i64 (xs.getD i 0)) := fun i hi => hI.get i (by omega)
    refine aw_count 5 [0, 1] (fun (_ : Unit) => []) (0) (d.length) (fun i _ SS => S = SS ∧ (∀ i', i' < i → (1 ≤ xs.getD i' 0 ∧ xs.getD i' 0 ≤ 60) ∧ ∀ k, k < d.length → IntKind.i64.wrap (xs.getD i' 0 - xs.getD k 0) ≤ at2 d i' k ∧ (i' ≠ k → at2 d i' k ≤ IntKind.i64.wrap (xs.getD i' 0 + xs.getD k 0)))) (()) ?_ ?_ ?_ ?_
    · simp only [go_sem, ↓reduceIte, Nat.reduceEqDiff, and_self, and_true, true_and, Int.ofNat_zero, Int.ofNat_one, Int.cast_ofNat_Int, hsl, hlen]
    · omega
    · (refine ⟨rfl, ?_⟩; first | trivial | rfl | ((repeat' apply And.intro) <;> first | rfl | trivial | omega | (intros; omega) | simp [top]))
    rintro i _ _ hi0 hi ⟨rfl, h0⟩
    simp only [go_sem, ↓reduceIte, Nat.reduceEqDiff, hsl, hlen]
    refine condK_lt hi (fun hi => ?_) (fun he => ?_)
    · simp only [go_sem, ↓reduceIte, Nat.reduceEqDiff, hsl, hlen]
      refine aw_count 6 [0, 1, 5] (fun (_ : Unit) => []) (0) (d.length) (fun k _ SS => S = SS ∧ (∀ k', k' < k → (1 ≤ xs.getD i 0 ∧ xs.getD i 0 ≤ 60) ∧ IntKind.i64.wrap (xs.getD i 0 - xs.getD k' 0) ≤ at2 d i k' ∧ (i ≠ k' → at2 d i k' ≤ IntKind.i64.wrap (xs.getD i 0 + xs.getD k' 0)))) (()) ?_ ?_ ?_ ?_
      · simp only [go_sem, ↓reduceIte, Nat.reduceEqDiff, and_self, and_true, true_and, Int.ofNat_zero, Int.ofNat_one, Int.cast_ofNat_Int, hsl, hlen]
      · omega
      · (refine ⟨rfl, ?_⟩; first | trivial | rfl | ((repeat' apply And.intro) <;> first | rfl | trivial | omega | (intros; omega) | simp [top]))
      rintro k _ _ hk0 hk ⟨rfl, h1⟩
      simp only [go_sem, ↓reduceIte, Nat.reduceEqDiff, hsl, hlen]
      refine condK_lt hk (fun hk => ?_) (fun he => ?_)
      · have hno : IsFit d xs → IntKind.i64.wrap (xs.getD i 0 - xs.getD k 0) = xs.getD i 0 - xs.getD k 0 ∧ IntKind.i64.wrap (xs.getD i 0 + xs.getD k 0) = xs.getD i 0 + xs.getD k 0 := fun h => by
          have a1 := h.2.2.2.1 i hi
          have a2 := h.2.2.2.1 k hk
          exact ⟨wrap64 (by omega), wrap64 (by omega)⟩
        simp only [go_sem, ↓reduceIte, Nat.reduceEqDiff]
        refine draw_same ?_ (by kernel_rfl)
        simp only [go_sem, ↓reduceIte, Nat.reduceEqDiff, hsl, hlen, hsl', hlen', hxl, hi, hk, hM.get, hM.rsl, hrl, hcl, hg]
        refine callQK_same (_) (by kernel_rfl) rfl (l1In_c _ _ _ _) ?_
        simp only [go_sem, ↓reduceIte, Nat.reduceEqDiff, hsl, hlen, hsl', hlen', hxl, hi, hk, hM.get, hM.rsl, hrl, hcl, hg]
        repeat' (first | (refine gK_dec (fun p h => ?_) (fun p h => ?_) <;> simp only [go_sem, ↓reduceIte, Nat.reduceEqDiff, h, hsl, hlen, hsl', hlen', hxl, hi, hk, hM.get, hM.rsl, hrl, hcl, hg]) | (refine condK_dec (fun p h => ?_) (fun p h => ?_) <;> simp only [go_sem, ↓reduceIte, Nat.reduceEqDiff, h, hsl, hlen, hsl', hlen', hxl, hi, hk, hM.get, hM.rsl, hrl, hcl, hg]) | (refine gQ_dec (fun p h => ?_) (fun p h => ?_) <;> simp only [go_sem, ↓reduceIte, Nat.reduceEqDiff, h, hsl, hlen, hsl', hlen', hxl, hi, hk, hM.get, hM.rsl, hrl, hcl, hg]) | (refine gQC_dec (fun p h => ?_) (fun p h => ?_) <;> simp only [go_sem, ↓reduceIte, Nat.reduceEqDiff, h, hsl, hlen, hsl', hlen', hxl, hi, hk, hM.get, hM.rsl, hrl, hcl, hg]))
        · exact Ret.bool (fitB_no fun h => by have := h.2.2.2.1 i hi; omega).symm
        · exact Ret.bool (fitB_no fun h => by have := h.2.2.2.2 i k hi hk; have := hno h; omega).symm
        · exact Ret.bool (fitB_no fun h => by have := h.2.2.2.2 i k hi hk; have := hno h; omega).symm
        · refine forK_step (()) hk hk0 ?_ ?_
          · have hib := Nat.lt_of_lt_of_le hk hN; simp only [go_sem, ↓reduceIte, Nat.reduceEqDiff, and_self, and_true, true_and, Int.ofNat_zero, Int.ofNat_one, Int.cast_ofNat_Int, wrap_succ hib]
          exact ⟨rfl, fun k' hk' => by
            rcases Nat.lt_or_ge k' k with h | h
            · exact h1 k' h
            · obtain rfl : k' = k := by omega
              exact ⟨by omega, by omega, by omega⟩⟩
        · refine forK_step (()) hk hk0 ?_ ?_
          · have hib := Nat.lt_of_lt_of_le hk hN; simp only [go_sem, ↓reduceIte, Nat.reduceEqDiff, and_self, and_true, true_and, Int.ofNat_zero, Int.ofNat_one, Int.cast_ofNat_Int, wrap_succ hib]
          exact ⟨rfl, fun k' hk' => by
            rcases Nat.lt_or_ge k' k with h | h
            · exact h1 k' h
            · obtain rfl : k' = k := by omega
              exact ⟨by omega, by omega, by omega⟩⟩
      · subst he
        simp only [go_sem, ↓reduceIte, Nat.reduceEqDiff]
        refine forK_step (()) hi hi0 ?_ ?_
        · have hib := Nat.lt_of_lt_of_le hi hN; simp only [go_sem, ↓reduceIte, Nat.reduceEqDiff, and_self, and_true, true_and, Int.ofNat_zero, Int.ofNat_one, Int.cast_ofNat_Int, wrap_succ hib]
        exact ⟨rfl, fun i' hi' => by
          rcases Nat.lt_or_ge i' i with h | h
          · exact h0 i' h
          · obtain rfl : i' = i := by omega
            exact ⟨(h1 0 (by have := hS.1.1; omega)).1, fun k hk => (h1 k hk).2⟩⟩
    · subst he
      simp only [go_sem, ↓reduceIte, Nat.reduceEqDiff]
      refine Ret.bool (fitB_yes ⟨hS, by omega, hxl, fun i hi => (h0 i hi).1, fun i k hi hk => ?_⟩).symm
      have a1 := (h0 i hi).1
      have a2 := (h0 k hk).1
      have a3 := (h0 i hi).2 k hk
      rw [wrap64 (by omega), wrap64 (by omega)] at a3
      exact ⟨by omega, fun h => by have := a3.2 h; omega⟩

theorem pointFits_c (S : Store) (v : Value) (r : Nat → Value) (d : List (List Int)) (hM : Mat S v r d) (hd : d.length ≤ maxLen) (vf : Value) (xs : List Int) (hI : Ints S vf xs) (hx : xs.length ≤ maxLen) :
    ACalls Try.prog 67 [v, vf] S (Ret S (.bool (fitB d xs))) := by
  refine ACalls.intro (ts := [4]) 84 follows Try.func67 rfl (by kernel_rfl) (by kernel_rfl) (by simp) ?_
  have hsl := hM.sl
  have hlen := hM.len
  have hsl' := hI.sl
  have hlen' := hI.len
  have hN : d.length ≤ 9223372036854775807 := hd
  simp only [go_sem, ↓reduceIte, Nat.reduceEqDiff, argEnv, hsl, hlen]
  refine callK.intro (by kernel_rfl) (isSpace_c S v r d hM hd) ?_
  rintro _ _ ⟨rfl, rfl⟩
  simp only [go_sem, ↓reduceIte, Nat.reduceEqDiff]
  cases hF : spaceB d with
  | false =>
    simp only [go_sem, ↓reduceIte, Nat.reduceEqDiff]
    exact Ret.bool (fitB_no fun h => spaceB_not hF h.1).symm
  | true =>
    have hS := spaceB_is hF
    have h6 := hS.1.2.1
    simp only [go_sem, ↓reduceIte, Nat.reduceEqDiff, hsl, hlen]
    repeat' (first | (refine gK_dec (fun p h => ?_) (fun p h => ?_) <;> simp only [go_sem, ↓reduceIte, Nat.reduceEqDiff, h, hsl, hlen, hsl', hlen']) | (refine condK_dec (fun p h => ?_) (fun p h => ?_) <;> simp only [go_sem, ↓reduceIte, Nat.reduceEqDiff, h, hsl, hlen, hsl', hlen']) | (refine gQ_dec (fun p h => ?_) (fun p h => ?_) <;> simp only [go_sem, ↓reduceIte, Nat.reduceEqDiff, h, hsl, hlen, hsl', hlen']) | (refine gQC_dec (fun p h => ?_) (fun p h => ?_) <;> simp only [go_sem, ↓reduceIte, Nat.reduceEqDiff, h, hsl, hlen, hsl', hlen']))
    · exact Ret.bool (fitB_no fun h => by have := h.2.1; omega).symm
    · exact Ret.bool (fitB_no fun h => by have := h.2.2.1; omega).symm
    have hrl := hM.sqlen hS.1.sq
    have hcl := hM.sqcell hS.1.sq
    have hxl : xs.length = d.length := by omega
    have hg : ∀ i, i < d.length → ld S (eptr vf i) = some (.int .i64 (xs.getD i 0)) := fun i hi => hI.get i (by omega)
    simp only [go_sem, ↓reduceIte, Nat.reduceEqDiff, hxl]
    refine aw_count 28 [0, 1, 26, 27] (fun (_ : Unit) => []) (0) (d.length) (fun i _ SS => S = SS ∧ (∀ i', i' < i → 1 ≤ xs.getD i' 0 ∧ xs.getD i' 0 ≤ 60)) (()) ?_ ?_ ?_ ?_
    · simp only [go_sem, ↓reduceIte, Nat.reduceEqDiff, and_self, and_true, true_and, Int.ofNat_zero, Int.ofNat_one, Int.cast_ofNat_Int, hsl', hlen', hxl]
    · omega
    · (refine ⟨rfl, ?_⟩; first | trivial | rfl | ((repeat' apply And.intro) <;> first | rfl | trivial | omega | (intros; omega) | simp [top]))
    rintro i _ _ hi0 hi ⟨rfl, hA⟩
    simp only [go_sem, ↓reduceIte, Nat.reduceEqDiff, hsl', hlen', hxl]
    refine condK_lt hi (fun hi => ?_) (fun he => ?_)
    · simp only [go_sem, ↓reduceIte, Nat.reduceEqDiff, hsl', hlen', hxl, hi, hg]
      repeat' (first | (refine gK_dec (fun p h => ?_) (fun p h => ?_) <;> simp only [go_sem, ↓reduceIte, Nat.reduceEqDiff, h]) | (refine condK_dec (fun p h => ?_) (fun p h => ?_) <;> simp only [go_sem, ↓reduceIte, Nat.reduceEqDiff, h]) | (refine gQ_dec (fun p h => ?_) (fun p h => ?_) <;> simp only [go_sem, ↓reduceIte, Nat.reduceEqDiff, h]) | (refine gQC_dec (fun p h => ?_) (fun p h => ?_) <;> simp only [go_sem, ↓reduceIte, Nat.reduceEqDiff, h]))
      · exact Ret.bool (fitB_no fun h => by have := h.2.2.2.1 i hi; omega).symm
      · exact Ret.bool (fitB_no fun h => by have := h.2.2.2.1 i hi; omega).symm
      refine forK_step (()) hi hi0 ?_ ?_
      · have hib := Nat.lt_of_lt_of_le hi hN; simp only [go_sem, ↓reduceIte, Nat.reduceEqDiff, and_self, and_true, true_and, Int.ofNat_zero, Int.ofNat_one, Int.cast_ofNat_Int, wrap_succ hib]
      exact ⟨rfl, fun i' hi' => by
        rcases Nat.lt_or_ge i' i with h | h
        · exact hA i' h
        · obtain rfl : i' = i := by omega
          omega⟩
    subst he
    simp only [go_sem, ↓reduceIte, Nat.reduceEqDiff, hsl', hlen', hxl]
    refine aw_count 41 [0, 1, 39, 40] (fun (_ : Unit) => []) (0) (d.length) (fun i _ SS => S = SS ∧ (∀ i', i' < i → ∀ k, k < d.length → xs.getD i' 0 - xs.getD k 0 ≤ at2 d i' k ∧ (i' ≠ k → at2 d i' k ≤ xs.getD i' 0 + xs.getD k 0))) (()) ?_ ?_ ?_ ?_
    · simp only [go_sem, ↓reduceIte, Nat.reduceEqDiff, and_self, and_true, true_and, Int.ofNat_zero, Int.ofNat_one, Int.cast_ofNat_Int, hsl', hlen', hxl]
    · omega
    · (refine ⟨rfl, ?_⟩; first | trivial | rfl | ((repeat' apply And.intro) <;> first | rfl | trivial | omega | (intros; omega) | simp [top]))
    rintro i _ _ hi0 hi ⟨rfl, h0⟩
    simp only [go_sem, ↓reduceIte, Nat.reduceEqDiff, hsl', hlen', hxl]
    refine condK_lt hi (fun hi => ?_) (fun he => ?_)
    · simp only [go_sem, ↓reduceIte, Nat.reduceEqDiff, hsl', hlen', hxl, hi, hg]
      refine aw_count 48 [0, 1, 7, 8, 39, 40, 41, 46, 47] (fun (_ : Unit) => []) (0) (d.length) (fun k _ SS => S = SS ∧ (∀ k', k' < k → xs.getD i 0 - xs.getD k' 0 ≤ at2 d i k' ∧ (i ≠ k' → at2 d i k' ≤ xs.getD i 0 + xs.getD k' 0))) (()) ?_ ?_ ?_ ?_
      · simp only [go_sem, ↓reduceIte, Nat.reduceEqDiff, and_self, and_true, true_and, Int.ofNat_zero, Int.ofNat_one, Int.cast_ofNat_Int, hsl', hlen', hxl]
      · omega
      · (refine ⟨rfl, ?_⟩; first | trivial | rfl | ((repeat' apply And.intro) <;> first | rfl | trivial | omega | (intros; omega) | simp [top]))
      rintro k _ _ hk0 hk ⟨rfl, h1⟩
      simp only [go_sem, ↓reduceIte, Nat.reduceEqDiff, hsl', hlen', hxl]
      refine condK_lt hk (fun hk => ?_) (fun he => ?_)
      · have a1 := hA i hi
        have a2 := hA k hk
        have w1 : IntKind.i64.wrap (xs.getD i 0 - xs.getD k 0) = xs.getD i 0 - xs.getD k 0 := wrap64 (by omega)
        have w2 : IntKind.i64.wrap (xs.getD i 0 + xs.getD k 0) = xs.getD i 0 + xs.getD k 0 := wrap64 (by omega)
        simp only [go_sem, ↓reduceIte, Nat.reduceEqDiff, hsl, hlen, hsl', hlen', hxl, hi, hk, hM.get, hM.rsl, hrl, hcl, hg, w1, w2]
        repeat' (first | (refine gK_dec (fun p h => ?_) (fun p h => ?_) <;> simp only [go_sem, ↓reduceIte, Nat.reduceEqDiff, h, hsl, hlen, hsl', hlen', hxl, hi, hk, hM.get, hM.rsl, hrl, hcl, hg, w1, w2]) | (refine condK_dec (fun p h => ?_) (fun p h => ?_) <;> simp only [go_sem, ↓reduceIte, Nat.reduceEqDiff, h, hsl, hlen, hsl', hlen', hxl, hi, hk, hM.get, hM.rsl, hrl, hcl, hg, w1, w2]) | (refine gQ_dec (fun p h => ?_) (fun p h => ?_) <;> simp only [go_sem, ↓reduceIte, Nat.reduceEqDiff, h, hsl, hlen, hsl', hlen', hxl, hi, hk, hM.get, hM.rsl, hrl, hcl, hg, w1, w2]) | (refine gQC_dec (fun p h => ?_) (fun p h => ?_) <;> simp only [go_sem, ↓reduceIte, Nat.reduceEqDiff, h, hsl, hlen, hsl', hlen', hxl, hi, hk, hM.get, hM.rsl, hrl, hcl, hg, w1, w2]))
        · exact Ret.bool (fitB_no fun h => by have := h.2.2.2.2 i k hi hk; omega).symm
        · exact Ret.bool (fitB_no fun h => by have := h.2.2.2.2 i k hi hk; omega).symm
        · refine forK_step (()) hk hk0 ?_ ?_
          · have hib := Nat.lt_of_lt_of_le hk hN; simp only [go_sem, ↓reduceIte, Nat.reduceEqDiff, and_self, and_true, true_and, Int.ofNat_zero, Int.ofNat_one, Int.cast_ofNat_Int, wrap_succ hib]
          exact ⟨rfl, fun k' hk' => by
            rcases Nat.lt_or_ge k' k with h | h
            · exact h1 k' h
            · obtain rfl : k' = k := by omega
              exact ⟨by omega, by omega⟩⟩
        · refine forK_step (()) hk hk0 ?_ ?_
          · have hib := Nat.lt_of_lt_of_le hk hN; simp only [go_sem, ↓reduceIte, Nat.reduceEqDiff, and_self, and_true, true_and, Int.ofNat_zero, Int.ofNat_one, Int.cast_ofNat_Int, wrap_succ hib]
          exact ⟨rfl, fun k' hk' => by
            rcases Nat.lt_or_ge k' k with h | h
            · exact h1 k' h
            · obtain rfl : k' = k := by omega
              exact ⟨by omega, by omega⟩⟩
      · subst he
        simp only [go_sem, ↓reduceIte, Nat.reduceEqDiff]
        refine forK_step (()) hi hi0 ?_ ?_
        · have hib := Nat.lt_of_lt_of_le hi hN; simp only [go_sem, ↓reduceIte, Nat.reduceEqDiff, and_self, and_true, true_and, Int.ofNat_zero, Int.ofNat_one, Int.cast_ofNat_Int, wrap_succ hib]
        exact ⟨rfl, fun i' hi' => by
          rcases Nat.lt_or_ge i' i with h | h
          · exact h0 i' h
          · obtain rfl : i' = i := by omega
            exact h1⟩
    · subst he
      simp only [go_sem, ↓reduceIte, Nat.reduceEqDiff]
      exact Ret.bool (fitB_yes ⟨hS, by omega, hxl, hA, fun i k hi hk => h0 i hi k hk⟩).symm

end Go.Proofs.Yticdbohhnkpelaa

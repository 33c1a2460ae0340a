/- Walks: ultrametric, together, fitting. -/
import Derived.Test.YtodeldmkpogakaaW3
import Derived.Test.YtodeldmkpogakaaPure2
import Derived.Test.YtodeldmkpogakaaMillL
namespace Go.Proofs.Ytodeldmkpogakaa
open Go Go.Mill
set_option maxRecDepth 100000
set_option linter.unusedSimpArgs false
set_option linter.unusedVariables false

theorem arePoints1_c (S : Store) (v : Value) (r : Nat → Value) (d : List (List Int)) (hM : Mat S v r d) (hd : d.length ≤ maxLen) (p : Value) (hp : ld S p = some v) (x : Int) (hx : -9223372036854775808 ≤ x ∧ x ≤ 9223372036854775807) :
    ACalls Try.prog 82 [.int .i64 x, p] S (Ret S (.bool (!hasB d x))) := by
  refine ACalls.intro (ts := [3]) 8 follows Try.func82 rfl (by kernel_rfl) (by kernel_rfl) (by simp) ?_
  simp only [go_sem, ↓reduceIte, Nat.reduceEqDiff, argEnv, hp]
  refine callK.intro (by kernel_rfl) (hasPoint_c S v r d hM hd x hx) ?_
  rintro _ _ ⟨rfl, rfl⟩
  simp only [go_sem, ↓reduceIte, Nat.reduceEqDiff]
  exact Ret.mk _ _

theorem IndexFunc_c (S : Store) (p : Value) (xs : List Int) (hI : Ints S p xs) (hx : xs.length ≤ maxLen) (f : FuncId) (cap : Value) (hca : callable Try.prog f = true) (b : Int → Bool)
    (hf : ∀ i, i < xs.length → ACalls Try.prog f [.int .i64 (xs.getD i 0), cap] S (Ret S (.bool (b (xs.getD i 0))))) :
    ACalls Try.prog 76 [p, .func (.func f) #[] #[cap]] S fun u S' => (∃ y, u = .int .i64 y ∧ decide (0 ≤ y) = xs.any b) ∧ S = S' := by
  refine ACalls.intro (ts := [4]) 19 follows Try.func76 rfl (by kernel_rfl) (by kernel_rfl) (by simp) ?_
  have hsl := hI.sl
  have hlen := hI.len
  have hN : xs.length ≤ 9223372036854775807 := hx
  simp only [go_sem, ↓reduceIte, Nat.reduceEqDiff, argEnv, hsl, hlen]
  refine aw_count 8 [0, 1, 7] (fun (_ : Unit) => []) (0) (xs.length) (fun i _ SS => S = SS ∧ (∀ j, j < i → b (xs.getD j 0) = false)) (()) ?_ ?_ ?_ ?_
  · simp only [go_sem, ↓reduceIte, Nat.reduceEqDiff, and_self, and_true, true_and, Int.ofNat_zero, Int.ofNat_one, Int.cast_ofNat_Int, hsl, hlen]
  · omega
  · (refine ⟨rfl, ?_⟩; first | trivial | rfl | ((repeat' apply And.intro) <;> first | rfl | trivial | omega | (intros; omega) | simp [top]))
  rintro i _ _ hi0 hi ⟨rfl, hno⟩
  simp only [go_sem, ↓reduceIte, Nat.reduceEqDiff, hsl, hlen]
  refine condK_lt hi (fun hi => ?_) (fun he => ?_)
  · simp only [go_sem, ↓reduceIte, Nat.reduceEqDiff, hsl, hlen, hi, hI.get]
    refine ⟨hca, ?_⟩
    refine (hf i hi).mono ?_
    rintro _ _ ⟨rfl, rfl⟩
    cases hb : b (xs.getD i 0) with
    | true =>
      simp only [go_sem, ↓reduceIte, Nat.reduceEqDiff]
      refine ⟨⟨_, rfl, ?_⟩, by trivial⟩
      have h1 : xs.any b = true := List.any_eq_true.2 ⟨xs.getD i 0, by simp [List.getElem?_eq_getElem hi], hb⟩
      rw [h1]; simp
    | false =>
      simp only [go_sem, ↓reduceIte, Nat.reduceEqDiff]
      refine forK_step (()) hi hi0 ?_ ?_
      · have hib := Nat.lt_of_lt_of_le hi hN; simp only [go_sem, ↓reduceIte, Nat.reduceEqDiff, and_self, and_true, true_and, Int.ofNat_zero, Int.ofNat_one, Int.cast_ofNat_Int, wrap_succ hib]
      exact ⟨rfl, fun j hj => by
        rcases Nat.lt_or_ge j i with h | h
        · exact hno j h
        · obtain rfl : j = i := by omega
          exact hb⟩
  · subst he
    simp only [go_sem, ↓reduceIte, Nat.reduceEqDiff]
    refine ⟨⟨_, rfl, ?_⟩, by trivial⟩
    have h1 : xs.any b = false := by
      rw [List.any_eq_false]
      intro x hx
      obtain ⟨i, hi, rfl⟩ := List.mem_iff_getElem.1 hx
      have := hno i hi
      simpa [List.getElem?_eq_getElem hi] using this
    rw [h1]; rfl

theorem ContainsFunc_c (S : Store) (p : Value) (xs : List Int) (hI : Ints S p xs) (hx : xs.length ≤ maxLen) (f : FuncId) (cap : Value) (hca : callable Try.prog f = true) (b : Int → Bool)
    (hf : ∀ i, i < xs.length → ACalls Try.prog f [.int .i64 (xs.getD i 0), cap] S (Ret S (.bool (b (xs.getD i 0))))) :
    ACalls Try.prog 81 [p, .func (.func f) #[] #[cap]] S (Ret S (.bool (xs.any b))) := by
  refine ACalls.intro (ts := [4]) 9 follows Try.func81 rfl (by kernel_rfl) (by kernel_rfl) (by simp) ?_
  simp only [go_sem, ↓reduceIte, Nat.reduceEqDiff, argEnv]
  refine callK.intro (by kernel_rfl) (IndexFunc_c S p xs hI hx f cap hca b hf) ?_
  rintro _ _ ⟨⟨y, rfl, hy⟩, rfl⟩
  simp only [go_sem, ↓reduceIte, Nat.reduceEqDiff]
  exact Ret.bool hy

theorem arePoints_c (S : Store) (v : Value) (r : Nat → Value) (d : List (List Int)) (hM : Mat S v r d) (hd : d.length ≤ maxLen) (p : Value) (xs : List Int) (hI : Ints S p xs) (hx : xs.length ≤ maxLen)
    (hb : ∀ i, i < xs.length → -9223372036854775808 ≤ xs.getD i 0 ∧ xs.getD i 0 ≤ 9223372036854775807) :
    ACalls Try.prog 57 [v, p] S fun u S' => u = .bool (!xs.any fun x => !hasB d x) ∧ S ++ [.own [v]] = S' := by
  refine ACalls.intro (ts := [4]) 9 follows Try.func57 rfl (by kernel_rfl) (by kernel_rfl) (by simp) ?_
  have hbox : boxCells v = some [v] := boxCells_sl hM.sl
  simp only [go_sem, ↓reduceIte, Nat.reduceEqDiff, argEnv, hbox]
  have hM1 := hM.ext (Ext.append S [.own [v]])
  have hI1 := hI.ext (Ext.append S [.own [v]])
  have hp : ld (S ++ [.own [v]]) (.pointer (some ⟨S.length, 0, none⟩)) = some v := by simp [ld, cell, Ob.cells]
  refine callK.intro (by kernel_rfl) (ContainsFunc_c _ _ xs hI1 hx 82 _ (by kernel_rfl) (fun x => !hasB d x) (fun i hi => arePoints1_c _ _ _ _ hM1 hd _ hp _ (hb i hi))) ?_
  rintro _ _ ⟨rfl, rfl⟩
  simp only [go_sem, ↓reduceIte, Nat.reduceEqDiff]
  exact ⟨by trivial, by trivial⟩

end Go.Proofs.Ytodeldmkpogakaa

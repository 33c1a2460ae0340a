/- Walks: what the plain laws share. -/
import Derived.Test.YtodeldmkpogakaaW6
namespace Go.Proofs.Ytodeldmkpogakaa
open Go Go.Mill
set_option maxRecDepth 100000
set_option linter.unusedSimpArgs false
set_option linter.unusedVariables false

theorem alive_c (S : Store) : ACalls Try.prog 17 [] S fun u S' => u = .bool true ∧ Pre S.length S S' := by
  refine ACalls.intro (ts := [0]) 11 follows Try.func17 rfl (by kernel_rfl) (by kernel_rfl) (by simp) ?_
  simp only [go_sem, ↓reduceIte, Nat.reduceEqDiff, argEnv]
  have P1 : Pre S.length S (S ++ [.own [.int .i64 0, .int .i64 2]] ++ [.own [.int .i64 2, .int .i64 0]] ++ [.own [mk S.length 2, mk (S ++ [Ob.own [.int .i64 0, .int .i64 2]]).length 2]]) :=
    (((Pre.refl _ S).app (Nat.le_refl _) _).app (by simp) _).app (by simp) _
  have M1 : Mat (S ++ [.own [.int .i64 0, .int .i64 2]] ++ [.own [.int .i64 2, .int .i64 0]] ++ [.own [mk S.length 2, mk (S ++ [Ob.own [.int .i64 0, .int .i64 2]]).length 2]]) (mk (S ++ [Ob.own [.int .i64 0, .int .i64 2]] ++ [Ob.own [.int .i64 2, .int .i64 0]]).length 2) _ [[0, 2], [2, 0]] :=
    Mat.ofList (rd_own own_last rfl) rfl (fun i hi => by
      match i, hi with
      | 0, _ => exact Ints.own (xs := [0, 2]) (own_app (own_app own_last)) rfl
      | 1, _ => exact Ints.own (xs := [2, 0]) (own_app own_last) rfl)
  generalize S ++ [Ob.own [.int .i64 0, .int .i64 2]] ++ [Ob.own [.int .i64 2, .int .i64 0]] ++ [Ob.own [mk S.length 2, mk (S ++ [Ob.own [.int .i64 0, .int .i64 2]]).length 2]] = S1 at P1 M1 ⊢
  refine callK.intro (by kernel_rfl) (iSpaceOk_c S1 _ _ _ M1 (by simp [maxLen])) ?_
  rintro _ _ ⟨rfl, rfl⟩
  simp only [go_sem, ↓reduceIte, Nat.reduceEqDiff, alive1]
  have P2 := (P1.app (by have := P1.len; omega) [.own [.int .i64 1]]).app (by have := P1.len; simp; omega) [.own [mk S1.length 1]]
  have M2 : Mat (S1 ++ [.own [.int .i64 1]] ++ [.own [mk S1.length 1]]) (mk (S1 ++ [Ob.own [.int .i64 1]]).length 1) _ [[1]] :=
    Mat.ofList (rd_own own_last rfl) rfl (fun i hi => by
      match i, hi with
      | 0, _ => exact Ints.own (xs := [1]) (own_app own_last) rfl)
  refine callK.intro (by kernel_rfl) (iSpaceOk_c _ _ _ _ M2 (by simp [maxLen])) ?_
  rintro _ _ ⟨rfl, rfl⟩
  simp only [go_sem, ↓reduceIte, Nat.reduceEqDiff, alive2]
  exact ⟨by trivial, P2⟩
end Go.Proofs.Ytodeldmkpogakaa

/- Walks: draws of spaces. -/
import Derived.Test.YtoecdjgjfbjejaaW6
namespace Go.Proofs.Ytoecdjgjfbjejaa
open Go Go.Mill
set_option maxRecDepth 100000
set_option linter.unusedSimpArgs false
set_option linter.unusedVariables false

theorem DrawWidthOf_c (S : Store) (v : Value) (xs : List Int) (hI : rd S v = some (xs.map (.int .u8))) (hx : xs.length ≤ maxLen) (hb : ∀ b ∈ xs, 0 ≤ b ∧ b ≤ 255) :
    ACalls Try.prog 18 [v] S fun u S' => ∃ r d, Mat S' u r d ∧ Ext S S' ∧ d.length ≤ 6 ∧ ∀ j, (d.getD j []).length ≤ 11 := by
  refine ACalls.intro (ts := [2]) 6 follows Try.func18 rfl (by kernel_rfl) (by kernel_rfl) (by simp) ?_
  simp only [go_sem, ↓reduceIte, Nat.reduceEqDiff, argEnv]
  refine callK.intro (by kernel_rfl) (l20Open_c S v xs hI hx hb) ?_
  rintro P _ ⟨bv, bs, R, rfl⟩
  simp only [go_sem, ↓reduceIte, Nat.reduceEqDiff]
  have P1 : Pre S.length S (S ++ [.own [bv, .int .i64 0]]) := (Pre.refl _ _).app (Nat.le_refl _) _
  generalize S ++ [Ob.own [bv, .int .i64 0]] = S1 at R P1 ⊢
  refine callK.intro (by kernel_rfl) (l20Space_c _ _ P _ bv bs _ R (by omega) 6 (by omega) 9 (by omega)) ?_
  rintro y S2 ⟨r, d, p, M, R2, hp, P2, hl, hr⟩
  simp only [go_sem, ↓reduceIte, Nat.reduceEqDiff]
  exact ⟨r, d, M.mat, (P1.trans P2).ext, by omega, hr⟩

theorem DrawRadiusOf_c (S : Store) (v : Value) (xs : List Int) (hI : rd S v = some (xs.map (.int .u8))) (hx : xs.length ≤ maxLen) (hb : ∀ b ∈ xs, 0 ≤ b ∧ b ≤ 255) :
    ACalls Try.prog 41 [v] S fun u S' => ∃ r d, Mat S' u r d ∧ Ext S S' ∧ d.length ≤ 6 ∧ ∀ j, (d.getD j []).length ≤ 11 := by
  refine ACalls.intro (ts := [2]) 6 follows Try.func41 rfl (by kernel_rfl) (by kernel_rfl) (by simp) ?_
  simp only [go_sem, ↓reduceIte, Nat.reduceEqDiff, argEnv]
  refine callK.intro (by kernel_rfl) (l20Open_c S v xs hI hx hb) ?_
  rintro P _ ⟨bv, bs, R, rfl⟩
  simp only [go_sem, ↓reduceIte, Nat.reduceEqDiff]
  have P1 : Pre S.length S (S ++ [.own [bv, .int .i64 0]]) := (Pre.refl _ _).app (Nat.le_refl _) _
  generalize S ++ [Ob.own [bv, .int .i64 0]] = S1 at R P1 ⊢
  refine callK.intro (by kernel_rfl) (l20Space_c _ _ P _ bv bs _ R (by omega) 6 (by omega) 9 (by omega)) ?_
  rintro y S2 ⟨r, d, p, M, R2, hp, P2, hl, hr⟩
  simp only [go_sem, ↓reduceIte, Nat.reduceEqDiff]
  exact ⟨r, d, M.mat, (P1.trans P2).ext, by omega, hr⟩

theorem DrawRoadsOf_c (S : Store) (v : Value) (xs : List Int) (hI : rd S v = some (xs.map (.int .u8))) (hx : xs.length ≤ maxLen) (hb : ∀ b ∈ xs, 0 ≤ b ∧ b ≤ 255) :
    ACalls Try.prog 44 [v] S fun u S' => ∃ r d, Mat S' u r d ∧ Ext S S' ∧ d.length ≤ 6 ∧ ∀ j, (d.getD j []).length ≤ 11 := by
  refine ACalls.intro (ts := [2]) 6 follows Try.func44 rfl (by kernel_rfl) (by kernel_rfl) (by simp) ?_
  simp only [go_sem, ↓reduceIte, Nat.reduceEqDiff, argEnv]
  refine callK.intro (by kernel_rfl) (l20Open_c S v xs hI hx hb) ?_
  rintro P _ ⟨bv, bs, R, rfl⟩
  simp only [go_sem, ↓reduceIte, Nat.reduceEqDiff]
  have P1 : Pre S.length S (S ++ [.own [bv, .int .i64 0]]) := (Pre.refl _ _).app (Nat.le_refl _) _
  generalize S ++ [Ob.own [bv, .int .i64 0]] = S1 at R P1 ⊢
  refine callK.intro (by kernel_rfl) (l20Space_c _ _ P _ bv bs _ R (by omega) 6 (by omega) 9 (by omega)) ?_
  rintro y S2 ⟨r, d, p, M, R2, hp, P2, hl, hr⟩
  simp only [go_sem, ↓reduceIte, Nat.reduceEqDiff]
  exact ⟨r, d, M.mat, (P1.trans P2).ext, by omega, hr⟩

theorem DrawRoadsAlone_c (S : Store) (v : Value) (xs : List Int) (hI : rd S v = some (xs.map (.int .u8))) (hx : xs.length ≤ maxLen) (hb : ∀ b ∈ xs, 0 ≤ b ∧ b ≤ 255) :
    ACalls Try.prog 66 [v] S fun u S' => ∃ r d, Mat S' u r d ∧ Ext S S' ∧ d.length ≤ 6 ∧ ∀ j, (d.getD j []).length ≤ 11 := by
  refine ACalls.intro (ts := [2]) 6 follows Try.func66 rfl (by kernel_rfl) (by kernel_rfl) (by simp) ?_
  simp only [go_sem, ↓reduceIte, Nat.reduceEqDiff, argEnv]
  refine callK.intro (by kernel_rfl) (l20Open_c S v xs hI hx hb) ?_
  rintro P _ ⟨bv, bs, R, rfl⟩
  simp only [go_sem, ↓reduceIte, Nat.reduceEqDiff]
  have P1 : Pre S.length S (S ++ [.own [bv, .int .i64 0]]) := (Pre.refl _ _).app (Nat.le_refl _) _
  generalize S ++ [Ob.own [bv, .int .i64 0]] = S1 at R P1 ⊢
  refine callK.intro (by kernel_rfl) (l20Space_c _ _ P _ bv bs _ R (by omega) 6 (by omega) 9 (by omega)) ?_
  rintro y S2 ⟨r, d, p, M, R2, hp, P2, hl, hr⟩
  simp only [go_sem, ↓reduceIte, Nat.reduceEqDiff]
  exact ⟨r, d, M.mat, (P1.trans P2).ext, by omega, hr⟩

end Go.Proofs.Ytoecdjgjfbjejaa

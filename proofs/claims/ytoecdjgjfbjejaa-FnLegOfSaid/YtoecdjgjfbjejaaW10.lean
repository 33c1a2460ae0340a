/- Walks: draws of a space and numbers. -/
import Derived.Test.YtoecdjgjfbjejaaW6
namespace Go.Proofs.Ytoecdjgjfbjejaa
open Go Go.Mill
set_option maxRecDepth 100000
set_option linter.unusedSimpArgs false
set_option linter.unusedVariables false

theorem wrap_in (z : Int) : -9223372036854775808 ≤ IntKind.i64.wrap z ∧ IntKind.i64.wrap z ≤ 9223372036854775807 := by
  rw [IntKind.wrap_i64]; omega
theorem nineteen : ((19 : Int) = 0) = False := by simp

theorem DrawFarthestFrom_c (S : Store) (v : Value) (xs : List Int) (hI : rd S v = some (xs.map (.int .u8))) (hx : xs.length ≤ maxLen) (hb : ∀ b ∈ xs, 0 ≤ b ∧ b ≤ 255) :
    ACalls Try.prog 22 [v] S fun u S' => ∃ w x r d, u = .tuple #[w, .int .i64 x] ∧ (-9223372036854775808 ≤ x ∧ x ≤ 9223372036854775807) ∧ Mat S' w r d ∧ Ext S S' ∧ d.length ≤ 6 ∧ ∀ j, (d.getD j []).length ≤ 11 := by
  refine ACalls.intro (ts := [2, 3]) 15 follows Try.func22 rfl (by kernel_rfl) (by kernel_rfl) (by simp) ?_
  simp only [go_sem, ↓reduceIte, Nat.reduceEqDiff, argEnv]
  refine callK.intro (by kernel_rfl) (l20Open_c S v xs hI hx hb) ?_
  rintro P _ ⟨bv, bs, R, rfl⟩
  simp only [go_sem, ↓reduceIte, Nat.reduceEqDiff]
  have P1 : Pre S.length S (S ++ [.own [bv, .int .i64 0]]) := (Pre.refl _ _).app (Nat.le_refl _) _
  generalize S ++ [Ob.own [bv, .int .i64 0]] = S1 at R P1 ⊢
  refine callK.intro (by kernel_rfl) (l20Space_c _ _ P _ bv bs _ R (by omega) 6 (by omega) 12 (by omega)) ?_
  rintro y S2 ⟨r, d, p, M, R2, hp, P2, hl, hr⟩
  replace P2 := P1.trans P2
  simp only [go_sem, ↓reduceIte, Nat.reduceEqDiff]
  refine callK.intro (by kernel_rfl) (pick_c _ _ P _ bv bs p R2 (by omega) 7) ?_
  rintro _ _ ⟨⟨x, rfl, hx1, hx2, hx3⟩, rfl⟩
  simp only [go_sem, ↓reduceIte, Nat.reduceEqDiff]
  have R3 := R2.step (p + 1)
  have M3 := M.below (Nat.lt_succ_self _) (.own [bv, .int .i64 (p + 1 : Nat)])
  have P3 := P2.set (Nat.le_refl _) (.own [bv, .int .i64 (p + 1 : Nat)])
  clear M R2 P2
  generalize List.set S2 S.length (Ob.own [bv, .int .i64 (p + 1 : Nat)]) = S3 at R3 M3 P3 ⊢
  refine callK.intro (by kernel_rfl) (pick_c _ _ P _ bv bs _ R3 (by omega) 20) ?_
  rintro _ _ ⟨⟨z, rfl, hz1, hz2, hz3⟩, rfl⟩
  simp only [go_sem, ↓reduceIte, Nat.reduceEqDiff]
  have M4 := M3.below (Nat.lt_succ_self _) (.own [bv, .int .i64 (p + 1 + 1 : Nat)])
  have P4 := P3.set (Nat.le_refl _) (.own [bv, .int .i64 (p + 1 + 1 : Nat)])
  simp only [go_sem, ↓reduceIte, Nat.reduceEqDiff, nineteen, atomB_sl M4.mat.sl]
  exact ⟨_, _, r, d, rfl, wrap_in _, M4.mat, P4.ext, by omega, hr⟩
end Go.Proofs.Ytoecdjgjfbjejaa

/- Walks: draws of ultrametric spaces. -/
import Derived.Test.YtoecdjgjfbjejaaW16
import Derived.Test.YtoecdjgjfbjejaaW6
namespace Go.Proofs.Ytoecdjgjfbjejaa
open Go Go.Mill
set_option maxRecDepth 100000
set_option linter.unusedSimpArgs false
set_option linter.unusedVariables false

/-- What is drawn at last: a table of at most six rows. -/
theorem l20Ultra_c (m : Nat) (S : Store) (P : Value) (h : Nat) (bv : Value) (bs : List Int) (p : Nat) (R : Rdr m S P h bv bs p) (hp : p ≤ 100000) (n : Int) (hn : 1 ≤ n ∧ n ≤ 1000) :
    ACalls Try.prog 84 [P, .int .i64 n] S fun u S' => ∃ r d, Mat S' u r d ∧ Pre h S S' ∧ d.length ≤ 1000 ∧ ∀ j, (d.getD j []).length ≤ 1000 := by
  refine ACalls.intro (ts := [4]) 19 follows Try.func84 rfl (by kernel_rfl) (by kernel_rfl) (by simp) ?_
  simp only [go_sem, ↓reduceIte, Nat.reduceEqDiff, argEnv]
  refine callK.intro (by kernel_rfl) (l20Space_c m S P h bv bs p R hp 6 (by omega) n hn) ?_
  rintro v S1 ⟨r, d, p1, M, R1, hp1, P1, hl, hr⟩
  have hd : d.length ≤ maxLen := by have : (6 : Nat) ≤ maxLen := by decide
                                    omega
  simp only [go_sem, ↓reduceIte, Nat.reduceEqDiff]
  refine callK.intro (by kernel_rfl) (sFarOk_c _ _ _ _ M.mat hd) ?_
  rintro _ _ ⟨rfl, rfl⟩
  simp only [go_sem, ↓reduceIte, Nat.reduceEqDiff]
  cases hF : farB d with
  | false =>
    simp only [go_sem, ↓reduceIte, Nat.reduceEqDiff]
    exact ⟨r, d, M.mat, P1, by omega, fun j => by have := hr j; omega⟩
  | true =>
    simp only [go_sem, ↓reduceIte, Nat.reduceEqDiff]
    refine callK.intro (by kernel_rfl) (pick_c m S1 P h bv bs p1 R1 (by omega) 2) ?_
    rintro _ _ ⟨⟨x, rfl, hx1, hx2, hx3⟩, rfl⟩
    simp only [go_sem, ↓reduceIte, Nat.reduceEqDiff]
    have M2 := M.below (Nat.lt_succ_self h) (.own [bv, .int .i64 (p1 + 1 : Nat)])
    have P2 := P1.set (Nat.le_refl h) (.own [bv, .int .i64 (p1 + 1 : Nat)])
    refine condK_dec (fun q1 h1 => ?_) (fun q1 h1 => ?_)
    · simp only [go_sem, ↓reduceIte, Nat.reduceEqDiff, h1]
      refine callK.intro (by kernel_rfl) (sBelowOf_c _ v r d M2.mat hd) ?_
      rintro u S3 ⟨hu, P3⟩
      obtain ⟨r', hM⟩ := hu.mat
      have hb : belowV d = fw max d := by simp only [belowV, hF, ↓reduceIte]
      have hl3 : h ≤ (S1.set h (Ob.own [bv, .int .i64 (p1 + 1 : Nat)])).length := by have := R1.len; simp; omega
      simp only [go_sem, ↓reduceIte, Nat.reduceEqDiff]
      exact ⟨r', belowV d, hM, P2.trans (P3.mono hl3), by rw [hb, fw_len]; omega, fun j => by rw [hb, fw_row]; have := hr j; omega⟩
    · simp only [go_sem, ↓reduceIte, Nat.reduceEqDiff, h1]
      exact ⟨r, d, M2.mat, P2, by omega, fun j => by have := hr j; omega⟩

theorem DrawUltraOk_c (S : Store) (v : Value) (xs : List Int) (hI : rd S v = some (xs.map (.int .u8))) (hx : xs.length ≤ maxLen) (hb : ∀ b ∈ xs, 0 ≤ b ∧ b ≤ 255) :
    ACalls Try.prog 37 [v] S fun u S' => ∃ r d, Mat S' u r d ∧ Ext S S' ∧ d.length ≤ 1000 ∧ ∀ j, (d.getD j []).length ≤ 1000 := by
  refine ACalls.intro (ts := [2]) 6 follows Try.func37 rfl (by kernel_rfl) (by kernel_rfl) (by simp) ?_
  simp only [go_sem, ↓reduceIte, Nat.reduceEqDiff, argEnv]
  refine callK.intro (by kernel_rfl) (l20Open_c S v xs hI hx hb) ?_
  rintro P _ ⟨bv, bs, R, rfl⟩
  simp only [go_sem, ↓reduceIte, Nat.reduceEqDiff]
  have P1 : Pre S.length S (S ++ [.own [bv, .int .i64 0]]) := (Pre.refl _ _).app (Nat.le_refl _) _
  generalize S ++ [Ob.own [bv, .int .i64 0]] = S1 at R P1 ⊢
  refine callK.intro (by kernel_rfl) (l20Ultra_c _ _ P _ bv bs _ R (by omega) 6 (by omega)) ?_
  rintro y S2 ⟨r, d, M, P2, hl, hr⟩
  simp only [go_sem, ↓reduceIte, Nat.reduceEqDiff]
  exact ⟨r, d, M, (P1.trans P2).ext, hl, hr⟩
end Go.Proofs.Ytoecdjgjfbjejaa

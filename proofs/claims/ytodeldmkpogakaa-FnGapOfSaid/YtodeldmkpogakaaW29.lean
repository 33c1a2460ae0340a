/- Walks: draws of a space and four points. -/
import Derived.Test.YtodeldmkpogakaaW25
import Derived.Test.YtodeldmkpogakaaW10
namespace Go.Proofs.Ytodeldmkpogakaa
open Go Go.Mill
set_option maxRecDepth 100000
set_option linter.unusedSimpArgs false
set_option linter.unusedVariables false

def In64 (x : Int) : Prop := -9223372036854775808 ≤ x ∧ x ≤ 9223372036854775807
theorem l20Fours_c (m : Nat) (S : Store) (P : Value) (h : Nat) (bv : Value) (bs : List Int) (p : Nat) (R : Rdr m S P h bv bs p) (hp : p ≤ 80000) :
    ACalls Try.prog 55 [P] S fun u S' => ∃ w a b c e r d, u = .tuple #[w, .int .i64 a, .int .i64 b, .int .i64 c, .int .i64 e] ∧ In64 a ∧ In64 b ∧ In64 c ∧ In64 e ∧ Mat S' w r d ∧ Pre h S S' ∧ d.length ≤ 6 ∧ ∀ j, (d.getD j []).length ≤ 11 := by
  refine ACalls.intro (ts := [2, 3, 4, 5, 6]) 32 follows Try.func55 rfl (by kernel_rfl) (by kernel_rfl) (by simp) ?_
  simp only [go_sem, ↓reduceIte, Nat.reduceEqDiff, argEnv]
  refine callK.intro (by kernel_rfl) (l20Tree_c m S P h bv bs p R (by omega) 12 (by omega)) ?_
  rintro y S2 ⟨r, d, p1, M2, R2, hp1, P2, hl, hr⟩
  have hsl := M2.mat.sl
  have hlen := M2.mat.len
  simp only [go_sem, ↓reduceIte, Nat.reduceEqDiff, hsl, hlen]
  refine callK.intro (by kernel_rfl) (pick_c m S2 P h bv bs p1 R2 (by omega) (max ((d.length : Nat) : Int) 1)) ?_
  rintro _ _ ⟨⟨z1, rfl, z1a, z1b, z1c⟩, rfl⟩
  simp only [go_sem, ↓reduceIte, Nat.reduceEqDiff]
  have R3 := R2.step (p1 + 1)
  have M3 := M2.below (Nat.lt_succ_self h) (.own [bv, .int .i64 (p1 + 1 : Nat)])
  have P3 := P2.set (Nat.le_refl h) (.own [bv, .int .i64 (p1 + 1 : Nat)])
  clear R2 M2 P2
  generalize List.set S2 h (Ob.own [bv, .int .i64 (p1 + 1 : Nat)]) = S3 at R3 M3 P3 ⊢
  refine callK.intro (by kernel_rfl) (pick_c m S3 P h bv bs (p1 + 1) R3 (by omega) (20)) ?_
  rintro _ _ ⟨⟨z2, rfl, z2a, z2b, z2c⟩, rfl⟩
  simp only [go_sem, ↓reduceIte, Nat.reduceEqDiff]
  have R4 := R3.step ((p1 + 1) + 1)
  have M4 := M3.below (Nat.lt_succ_self h) (.own [bv, .int .i64 ((p1 + 1) + 1 : Nat)])
  have P4 := P3.set (Nat.le_refl h) (.own [bv, .int .i64 ((p1 + 1) + 1 : Nat)])
  clear R3 M3 P3
  generalize List.set S3 h (Ob.own [bv, .int .i64 ((p1 + 1) + 1 : Nat)]) = S4 at R4 M4 P4 ⊢
  simp only [go_sem, ↓reduceIte, Nat.reduceEqDiff, nineteen]
  refine callK.intro (by kernel_rfl) (pick_c m S4 P h bv bs ((p1 + 1) + 1) R4 (by omega) (max ((d.length : Nat) : Int) 1)) ?_
  rintro _ _ ⟨⟨z3, rfl, z3a, z3b, z3c⟩, rfl⟩
  simp only [go_sem, ↓reduceIte, Nat.reduceEqDiff]
  have R5 := R4.step (((p1 + 1) + 1) + 1)
  have M5 := M4.below (Nat.lt_succ_self h) (.own [bv, .int .i64 (((p1 + 1) + 1) + 1 : Nat)])
  have P5 := P4.set (Nat.le_refl h) (.own [bv, .int .i64 (((p1 + 1) + 1) + 1 : Nat)])
  clear R4 M4 P4
  generalize List.set S4 h (Ob.own [bv, .int .i64 (((p1 + 1) + 1) + 1 : Nat)]) = S5 at R5 M5 P5 ⊢
  refine callK.intro (by kernel_rfl) (pick_c m S5 P h bv bs (((p1 + 1) + 1) + 1) R5 (by omega) (max ((d.length : Nat) : Int) 1)) ?_
  rintro _ _ ⟨⟨z4, rfl, z4a, z4b, z4c⟩, rfl⟩
  simp only [go_sem, ↓reduceIte, Nat.reduceEqDiff]
  have R6 := R5.step ((((p1 + 1) + 1) + 1) + 1)
  have M6 := M5.below (Nat.lt_succ_self h) (.own [bv, .int .i64 ((((p1 + 1) + 1) + 1) + 1 : Nat)])
  have P6 := P5.set (Nat.le_refl h) (.own [bv, .int .i64 ((((p1 + 1) + 1) + 1) + 1 : Nat)])
  clear R5 M5 P5
  generalize List.set S5 h (Ob.own [bv, .int .i64 ((((p1 + 1) + 1) + 1) + 1 : Nat)]) = S6 at R6 M6 P6 ⊢
  refine callK.intro (by kernel_rfl) (pick_c m S6 P h bv bs ((((p1 + 1) + 1) + 1) + 1) R6 (by omega) (max ((d.length : Nat) : Int) 1)) ?_
  rintro _ _ ⟨⟨z5, rfl, z5a, z5b, z5c⟩, rfl⟩
  simp only [go_sem, ↓reduceIte, Nat.reduceEqDiff]
  have R7 := R6.step (((((p1 + 1) + 1) + 1) + 1) + 1)
  have M7 := M6.below (Nat.lt_succ_self h) (.own [bv, .int .i64 (((((p1 + 1) + 1) + 1) + 1) + 1 : Nat)])
  have P7 := P6.set (Nat.le_refl h) (.own [bv, .int .i64 (((((p1 + 1) + 1) + 1) + 1) + 1 : Nat)])
  clear R6 M6 P6
  generalize List.set S6 h (Ob.own [bv, .int .i64 (((((p1 + 1) + 1) + 1) + 1) + 1 : Nat)]) = S7 at R7 M7 P7 ⊢
  simp only [go_sem, ↓reduceIte, Nat.reduceEqDiff, atomB_sl hsl]
  exact ⟨_, _, _, _, _, r, d, rfl, wrap_in _, ⟨by omega, by have := z3b (by omega); omega⟩, ⟨by omega, by have := z4b (by omega); omega⟩, ⟨by omega, by have := z5b (by omega); omega⟩, M7.mat, P7, hl, hr⟩

theorem DrawGapOf_c (S : Store) (v : Value) (xs : List Int) (hI : rd S v = some (xs.map (.int .u8))) (hx : xs.length ≤ maxLen) (hb : ∀ b ∈ xs, 0 ≤ b ∧ b ≤ 255) :
    ACalls Try.prog 18 [v] S fun u S' => ∃ w a b c e r d, u = .tuple #[w, .int .i64 a, .int .i64 b, .int .i64 c, .int .i64 e] ∧ In64 a ∧ In64 b ∧ In64 c ∧ In64 e ∧ Mat S' w r d ∧ Ext S S' ∧ d.length ≤ 6 ∧ ∀ j, (d.getD j []).length ≤ 11 := by
  refine ACalls.intro (ts := [2, 3, 4, 5, 6]) 15 follows Try.func18 rfl (by kernel_rfl) (by kernel_rfl) (by simp) ?_
  simp only [go_sem, ↓reduceIte, Nat.reduceEqDiff, argEnv]
  refine callK.intro (by kernel_rfl) (l20Open_c S v xs hI hx hb) ?_
  rintro P _ ⟨bv, bs, R, rfl⟩
  simp only [go_sem, ↓reduceIte, Nat.reduceEqDiff]
  have P1 : Pre S.length S (S ++ [.own [bv, .int .i64 0]]) := (Pre.refl _ _).app (Nat.le_refl _) _
  generalize S ++ [Ob.own [bv, .int .i64 0]] = S1 at R P1 ⊢
  refine callK.intro (by kernel_rfl) (l20Fours_c _ _ P _ bv bs _ R (by omega)) ?_
  rintro _ S2 ⟨w, a, b, c, e, r, d, rfl, h1, h2, h3, h4, M, P2, h5, h6⟩
  simp only [go_sem, ↓reduceIte, Nat.reduceEqDiff, atomB_sl M.sl]
  exact ⟨_, _, _, _, _, r, d, rfl, h1, h2, h3, h4, M, (P1.trans P2).ext, h5, h6⟩
end Go.Proofs.Ytodeldmkpogakaa

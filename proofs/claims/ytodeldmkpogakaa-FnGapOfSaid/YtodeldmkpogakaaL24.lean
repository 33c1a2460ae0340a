/- The law FnGapOf. -/
import Derived.Test.YtodeldmkpogakaaW7
import Derived.Test.YtodeldmkpogakaaW29
import Derived.Test.YtodeldmkpogakaaW30
namespace Go.Proofs.Ytodeldmkpogakaa
open Go Go.Mill
set_option maxRecDepth 100000
set_option linter.unusedSimpArgs false
set_option linter.unusedVariables false

theorem min_six0 {k k1 k2 k3 k4 k5 : IntKind} {a b c e f g : Int} : evMin [.int k a, .int k1 b, .int k2 c, .int k3 e, .int k4 f, .int k5 g] = some (.int k (min (min (min (min (min a b) c) e) f) g)) := by
  simp only [evMin, Option.some.injEq, Value.int.injEq, true_and]; omega
theorem FnGapOf_c (S : Store) (v : Value) (xs : List Int) (hI : rd S v = some (xs.map (.int .u8))) (hx : xs.length ≤ maxLen) (hb : ∀ b ∈ xs, 0 ≤ b ∧ b ≤ 255) :
    ACalls Try.prog 4 [v] S fun u _ => u = .bool true := by
  refine ACalls.intro (ts := [2]) 118 follows Try.func4 rfl (by kernel_rfl) (by kernel_rfl) (by simp) ?_
  have hsl := rd_isSl hI
  have hlen : slen v = xs.length := by rw [rd_slen hI]; simp
  have m6 : (6 : Nat) ≤ maxLen := by decide
  simp only [go_sem, ↓reduceIte, Nat.reduceEqDiff, argEnv, hsl, hlen]
  refine condK_dec (fun q1 h1 => ?_) (fun q1 h1 => ?_)
  · simp only [go_sem, ↓reduceIte, Nat.reduceEqDiff, h1]
  simp only [go_sem, ↓reduceIte, Nat.reduceEqDiff, h1]
  refine callK.intro (by kernel_rfl) (DrawGapOf_c S v xs hI hx hb) ?_
  rintro _ S1 ⟨w, a, b, c, e, r, d, rfl, ha, hb', hc, he, M1, E1, hd6, hr11⟩
  have hd : d.length ≤ maxLen := by omega
  simp only [go_sem, ↓reduceIte, Nat.reduceEqDiff]
  refine callK.intro (by kernel_rfl) (iGapOf_c _ _ _ _ M1 hd a ha b hb' c hc e he) ?_
  rintro _ S2 ⟨rfl, P2⟩
  have M2 := M1.ext P2.ext
  simp only [go_sem, ↓reduceIte, Nat.reduceEqDiff]
  refine callK.intro (by kernel_rfl) (sGapOf_c _ _ _ _ M2 hd a ha b hb' c hc e he) ?_
  rintro _ S3 ⟨rfl, P3⟩
  have M3 := M2.ext P3.ext
  have hne : decide (¬ gapV d a b c e = gapV d a b c e) = false := by simp
  simp only [go_sem, ↓reduceIte, Nat.reduceEqDiff, hne, not_true_eq_false, decide_false]
  cases hF : fourB d a b c e with
  | false =>
    have e1 := gapV_no hF
    have c1 : decide (gapV d a b c e < 0) = true := by rw [e1]; rfl
    have c2 : decide (gapV d a b c e = -1) = true := by rw [e1]; rfl
    simp only [go_sem, ↓reduceIte, Nat.reduceEqDiff, c1, c2]
    refine callK.intro (by kernel_rfl) (alive_c _) ?_
    rintro _ _ ⟨rfl, -⟩
    simp only [go_sem, ↓reduceIte, Nat.reduceEqDiff]
  | true =>
    obtain ⟨⟨hS, qa0, qa1⟩, ⟨-, qb0, qb1⟩, ⟨-, qc0, qc1⟩, -, qe0, qe1⟩ := fourB_iff.1 hF
    obtain ⟨a, rfl⟩ := Int.eq_ofNat_of_zero_le qa0
    obtain ⟨b, rfl⟩ := Int.eq_ofNat_of_zero_le qb0
    obtain ⟨c, rfl⟩ := Int.eq_ofNat_of_zero_le qc0
    obtain ⟨e, rfl⟩ := Int.eq_ofNat_of_zero_le qe0
    have ka : a < d.length := by omega
    have kb : b < d.length := by omega
    have kc : c < d.length := by omega
    have ke : e < d.length := by omega
    have hsl := M3.sl
    have hlen := M3.len
    have hrl := M3.sqlen hS.1.sq
    have hcl := M3.sqcell hS.1.sq
    have e1 := gapV_nat hS ka kb kc ke
    have nn := @gap_nn d a b c e
    have c1 : decide (gapV d a b c e < 0) = false := by rw [decide_eq_false_iff_not, e1]; omega
    have e2 : gapV d a a c e = 0 := by rw [gapV_nat hS ka ka kc ke]; exact gap_same hS ka kc ke
    have e3 : gapV d a c b e = gapV d a b c e := by rw [e1, gapV_nat hS ka kc kb ke]; exact gap_swap23 hS.1 kb kc
    have e4 : gapV d a e c b = gapV d a b c e := by rw [e1, gapV_nat hS ka ke kc kb]; exact gap_swap24 hS.1 kb kc ke
    have two := gap_two hS ka kb kc ke
    have d1 : decide (gapV d a a c e = 0) = true := by rw [e2]; rfl
    have d2 : decide (gapV d a c b e = gapV d a b c e) = true := by rw [e3]; simp
    have d3 : decide (gapV d a e c b = gapV d a b c e) = true := by rw [e4]; simp
    have b1 := hS.1.at ka kb
    have w1 : IntKind.i64.wrap (2 * min (min (min (min (min (at2 d a b) (at2 d a c)) (at2 d a e)) (at2 d b c)) (at2 d b e)) (at2 d c e)) = 2 * min (min (min (min (min (at2 d a b) (at2 d a c)) (at2 d a e)) (at2 d b c)) (at2 d b e)) (at2 d c e) := by
      have b2 := hS.1.at ka kc
      have b3 := hS.1.at ka ke
      have b4 := hS.1.at kb kc
      have b5 := hS.1.at kb ke
      have b6 := hS.1.at kc ke
      exact wrap64 (by omega)
    have d4 : decide (gapV d a b c e ≤ 2 * min (min (min (min (min (at2 d a b) (at2 d a c)) (at2 d a e)) (at2 d b c)) (at2 d b e)) (at2 d c e)) = true := by
      rw [decide_eq_true_eq, e1]; omega
    simp only [go_sem, ↓reduceIte, Nat.reduceEqDiff, c1]
    refine draw_read ?_ (by kernel_rfl)
    simp only [go_sem, ↓reduceIte, Nat.reduceEqDiff, hsl, hlen, ka, kb, kc, ke, M3.get, M3.rsl, hrl, hcl, min_six0]
    refine callK.intro (by kernel_rfl) (iGapOf_c _ _ _ _ M3 hd a ha a ha c hc e he) ?_
    rintro _ S4 ⟨rfl, P4⟩
    have M4 := M3.ext P4.ext
    simp only [go_sem, ↓reduceIte, Nat.reduceEqDiff, d1]
    refine callK.intro (by kernel_rfl) (iGapOf_c _ _ _ _ M4 hd a ha c hc b hb' e he) ?_
    rintro _ S5 ⟨rfl, P5⟩
    have M5 := M4.ext P5.ext
    simp only [go_sem, ↓reduceIte, Nat.reduceEqDiff, d2]
    refine callK.intro (by kernel_rfl) (iGapOf_c _ _ _ _ M5 hd a ha e he c hc b hb') ?_
    rintro _ S6 ⟨rfl, P6⟩
    simp only [go_sem, ↓reduceIte, Nat.reduceEqDiff, d3, w1, d4]
end Go.Proofs.Ytodeldmkpogakaa

/- The law FnPairSums. -/
import Derived.Test.YticdbohhnkpelaaW7
import Derived.Test.YticdbohhnkpelaaW11
import Derived.Test.YticdbohhnkpelaaW28
import Derived.Test.YticdbohhnkpelaaW29
import Derived.Test.YticdbohhnkpelaaPure14
namespace Go.Proofs.Yticdbohhnkpelaa
open Go Go.Mill
set_option maxRecDepth 100000
set_option linter.unusedSimpArgs false
set_option linter.unusedVariables false

theorem FnPairSums_c (S : Store) (v : Value) (xs : List Int) (hI : rd S v = some (xs.map (.int .u8))) (hx : xs.length ≤ maxLen) (hb : ∀ b ∈ xs, 0 ≤ b ∧ b ≤ 255) :
    ACalls Try.prog 14 [v] S fun u _ => u = .bool true := by
  refine ACalls.intro (ts := [2]) 81 follows Try.func14 rfl (by kernel_rfl) (by kernel_rfl) (by simp) ?_
  have hsl := rd_isSl hI
  have hlen : slen v = xs.length := by rw [rd_slen hI]; simp
  have m6 : (6 : Nat) ≤ maxLen := by decide
  simp only [go_sem, ↓reduceIte, Nat.reduceEqDiff, argEnv, hsl, hlen]
  refine condK_dec (fun q1 h1 => ?_) (fun q1 h1 => ?_)
  · simp only [go_sem, ↓reduceIte, Nat.reduceEqDiff, h1]
  simp only [go_sem, ↓reduceIte, Nat.reduceEqDiff, h1]
  refine callK.intro (by kernel_rfl) (DrawPairSums_c S v xs hI hx hb) ?_
  rintro _ S1 ⟨w, a, b, c, e, r, d, rfl, ha, hb', hc, he, M1, E1, hd6, hr11⟩
  have hd : d.length ≤ maxLen := by omega
  have hVl : ∀ a b c e, (sumsV d a b c e).length ≤ maxLen := fun a b c e => Nat.le_trans sumsV_six m6
  simp only [go_sem, ↓reduceIte, Nat.reduceEqDiff]
  refine callK.intro (by kernel_rfl) (iPairSums_c _ _ _ _ M1 hd a ha b hb' c hc e he) ?_
  rintro L S2 ⟨hL, P2⟩
  have M2 := M1.ext P2.ext
  replace hL := hL.ints
  simp only [go_sem, ↓reduceIte, Nat.reduceEqDiff]
  refine callK.intro (by kernel_rfl) (sPairSums_c _ _ _ _ M2 hd a ha b hb' c hc e he) ?_
  rintro L2 S3 ⟨hL2, P3⟩
  have M3 := M2.ext P3.ext
  have hL3 := hL.ext P3.ext
  simp only [go_sem, ↓reduceIte, Nat.reduceEqDiff]
  refine callK.intro (by kernel_rfl) (sameInts_c _ _ _ _ _ hL3 hL2.ints (hVl _ _ _ _)) ?_
  rintro _ _ ⟨rfl, rfl⟩
  simp only [go_sem, ↓reduceIte, Nat.reduceEqDiff, decide_true]
  have hs3 := hL3.sl
  have hn3 := hL3.len
  simp only [go_sem, ↓reduceIte, Nat.reduceEqDiff, hs3, hn3]
  refine condK_dec (fun q2 h2 => ?_) (fun q2 h2 => ?_)
  · simp only [go_sem, ↓reduceIte, Nat.reduceEqDiff, h2]
    refine callK.intro (by kernel_rfl) (alive_c _) ?_
    rintro _ _ ⟨rfl, -⟩
    simp only [go_sem, ↓reduceIte, Nat.reduceEqDiff]
  have hF : fourB d a b c e = true := by
    cases h : fourB d a b c e with
    | true => rfl
    | false => rw [sumsV_no h] at q2; simp at q2
  obtain ⟨g1, g2, g3, g4⟩ := fourB_iff.1 hF
  obtain ⟨a, rfl⟩ := Int.eq_ofNat_of_zero_le g1.2.1
  obtain ⟨b, rfl⟩ := Int.eq_ofNat_of_zero_le g2.2.1
  obtain ⟨c, rfl⟩ := Int.eq_ofNat_of_zero_le g3.2.1
  obtain ⟨e, rfl⟩ := Int.eq_ofNat_of_zero_le g4.2.1
  have ha' : a < d.length := by have := g1.2.2; omega
  have hb2 : b < d.length := by have := g2.2.2; omega
  have hc' : c < d.length := by have := g3.2.2; omega
  have he' : e < d.length := by have := g4.2.2; omega
  have hS := g1.1
  rw [sumsV_nat hS ha' hb2 hc' he'] at hL3 hn3
  simp only [go_sem, ↓reduceIte, Nat.reduceEqDiff, h2]
  refine callK.intro (by kernel_rfl) (iPairSums_c _ _ _ _ M3 hd b hb' a ha c hc e he) ?_
  rintro L4 S4 ⟨hL4, P4⟩
  have hI4 := hL4.ints
  rw [sumsV_nat hS hb2 ha' hc' he'] at hI4
  have hJ4 := hL3.ext P4.ext
  have s := hS.1.at ha' hb2
  have e1 : sum1 d b a c e = sum1 d a b c e := by unfold sum1; rw [s.1]
  have e2 : sum2 d b a c e = sum3 d a b c e := by unfold sum2 sum3; omega
  have e3 : sum3 d b a c e = sum2 d a b c e := by unfold sum2 sum3; omega
  have hI4' : Ints S4 L4 [sum1 d a b c e, sum3 d a b c e, sum2 d a b c e] := by unfold sumsL at hI4; rw [e1, e2, e3] at hI4; exact hI4
  have hsa := hI4'.sl
  have hna : slen L4 = 3 := hI4'.len
  have hsb := hJ4.sl
  have hnb : slen L = 3 := hJ4.len
  have a0 : ld S4 (eptr L4 0) = some (.int .i64 (sum1 d a b c e)) := hI4'.get 0 (by simp)
  have a1 : ld S4 (eptr L4 1) = some (.int .i64 (sum3 d a b c e)) := hI4'.get 1 (by simp)
  have a2 : ld S4 (eptr L4 2) = some (.int .i64 (sum2 d a b c e)) := hI4'.get 2 (by simp)
  have b0 : ld S4 (eptr L 0) = some (.int .i64 (sum1 d a b c e)) := hJ4.get 0 (by simp [sumsL])
  have b1 : ld S4 (eptr L 1) = some (.int .i64 (sum2 d a b c e)) := hJ4.get 1 (by simp [sumsL])
  have b2 : ld S4 (eptr L 2) = some (.int .i64 (sum3 d a b c e)) := hJ4.get 2 (by simp [sumsL])
  have i1 : 0 < slen L4 := by omega
  have i2 : 1 < slen L4 := by omega
  have i3 : 2 < slen L4 := by omega
  have j1 : 0 < slen L := by omega
  have j2 : 1 < slen L := by omega
  have j3 : 2 < slen L := by omega
  have t3 : decide (((slen L4 : Nat) : Int) = 3) = true := by rw [hna]; rfl
  have t4 : decide (((slen L : Nat) : Int) = 3) = true := by rw [hnb]; rfl
  simp only [go_sem, ↓reduceIte, Nat.reduceEqDiff]
  refine draw_read ?_ (by kernel_rfl)
  simp only [go_sem, ↓reduceIte, Nat.reduceEqDiff, hsa, hsb, t3, t4, ixK_zero, ixK_one, ixK_two, i1, i2, i3, j1, j2, j3, a0, a1, a2, b0, b1, b2, decide_true]
end Go.Proofs.Yticdbohhnkpelaa

/- The law FnWithoutPoint. -/
import Derived.Test.YtoecdjgjfbjejaaW7
import Derived.Test.YtoecdjgjfbjejaaW18
import Derived.Test.YtoecdjgjfbjejaaW21
namespace Go.Proofs.Ytoecdjgjfbjejaa
open Go Go.Mill
set_option maxRecDepth 100000
set_option linter.unusedSimpArgs false
set_option linter.unusedVariables false

theorem FnWithoutPoint_c (S : Store) (v : Value) (xs : List Int) (hI : rd S v = some (xs.map (.int .u8))) (hx : xs.length ≤ maxLen) (hb : ∀ b ∈ xs, 0 ≤ b ∧ b ≤ 255) :
    ACalls Try.prog 13 [v] S fun u _ => u = .bool true := by
  refine ACalls.intro (ts := [2]) 63 follows Try.func13 rfl (by kernel_rfl) (by kernel_rfl) (by simp) ?_
  have hsl := rd_isSl hI
  have hlen : slen v = xs.length := by rw [rd_slen hI]; simp
  have m11 : (11 : Nat) ≤ maxLen := by decide
  simp only [go_sem, ↓reduceIte, Nat.reduceEqDiff, argEnv, hsl, hlen]
  refine condK_dec (fun q1 h1 => ?_) (fun q1 h1 => ?_)
  · simp only [go_sem, ↓reduceIte, Nat.reduceEqDiff, h1]
  simp only [go_sem, ↓reduceIte, Nat.reduceEqDiff, h1]
  refine callK.intro (by kernel_rfl) (DrawWithoutPoint_c S v xs hI hx hb) ?_
  rintro _ S1 ⟨w, x, r, d, rfl, hxb, M1, E1, hd6, hr11⟩
  have hd : d.length ≤ maxLen := by omega
  have sm := @dropV_small d x 11 (by omega) hr11
  simp only [go_sem, ↓reduceIte, Nat.reduceEqDiff]
  refine callK.intro (by kernel_rfl) (iWithoutPoint_c _ _ _ _ M1 hd x hxb) ?_
  rintro _ S2 ⟨⟨X, rfl, hX⟩, P2⟩
  obtain ⟨rx, X2⟩ := hX.mat
  have M2 := M1.ext P2.ext
  simp only [go_sem, ↓reduceIte, Nat.reduceEqDiff]
  refine callK.intro (by kernel_rfl) (sWithoutPoint_c _ _ _ _ M2 hd x hxb) ?_
  rintro _ S3 ⟨⟨Y, rfl, hY⟩, P3⟩
  obtain ⟨ry, Y3⟩ := hY.mat
  have M3 := M2.ext P3.ext
  have X3 := X2.ext P3.ext
  have hxl : (dropV d x).length ≤ maxLen := Nat.le_trans sm.1 m11
  have hxr : ∀ i, i < (dropV d x).length → ((dropV d x).getD i []).length ≤ maxLen := fun i _ => Nat.le_trans (sm.2 i) m11
  have hs3 := X3.sl
  have hn3 := X3.len
  simp only [go_sem, ↓reduceIte, Nat.reduceEqDiff]
  refine callK.intro (by kernel_rfl) (sameRows_c _ _ _ _ _ _ _ X3 Y3 hxl hxr) ?_
  rintro _ _ ⟨rfl, rfl⟩
  simp only [go_sem, ↓reduceIte, Nat.reduceEqDiff, decide_true, bne_self_eq_false, Try.underlying4]
  cases hB : dropB d x with
  | false =>
    have h0 : decide (((dropV d x).length : Int) = 0) = true := by rw [dropV_no hB]; rfl
    simp only [go_sem, ↓reduceIte, Nat.reduceEqDiff, hs3, hn3, h0]
    refine callK.intro (by kernel_rfl) (alive_c _) ?_
    rintro _ _ ⟨rfl, -⟩
    simp only [go_sem, ↓reduceIte, Nat.reduceEqDiff]
  | true =>
    obtain ⟨hH, h2⟩ := dropB_iff.1 hB
    obtain ⟨p, rfl⟩ := Int.eq_ofNat_of_zero_le hH.2.1
    have hp : p < d.length := by have := hH.2.2; omega
    have hS := hH.1
    have hV := dropV_nat hS hp h2
    have hSp : spaceB (dropV d p) = true := by rw [hV]; exact spaceB_yes (drop_space hS hp h2)
    have hw : IntKind.i64.wrap ((d.length : Int) - 1) = d.length - 1 := wrap64 (by omega)
    have hl : decide (((dropV d p).length : Int) = (d.length : Int) - 1) = true := by rw [decide_eq_true_eq, hV, dropT_len hp]; omega
    have hwd : decide (widthV (dropV d p) ≤ widthV d) = true := by rw [decide_eq_true_eq, hV]; exact drop_width hS hp h2
    have hsl := M3.sl
    have hlen := M3.len
    simp only [go_sem, ↓reduceIte, Nat.reduceEqDiff]
    refine callK.intro (by kernel_rfl) (iSpaceOk_c _ _ _ _ X3 hxl) ?_
    rintro _ _ ⟨rfl, rfl⟩
    simp only [go_sem, ↓reduceIte, Nat.reduceEqDiff, hSp, hs3, hn3, hsl, hlen, hw, hl]
    refine callK.intro (by kernel_rfl) (iWidthOf_c _ _ _ _ X3 hxl) ?_
    rintro _ _ ⟨rfl, rfl⟩
    simp only [go_sem, ↓reduceIte, Nat.reduceEqDiff]
    refine callK.intro (by kernel_rfl) (iWidthOf_c _ _ _ _ M3 hd) ?_
    rintro _ _ ⟨rfl, rfl⟩
    simp only [go_sem, ↓reduceIte, Nat.reduceEqDiff, hwd]
end Go.Proofs.Ytoecdjgjfbjejaa

/- The law FnWithPoint. -/
import Derived.Test.YtoecdjgjfbjejaaW7
import Derived.Test.YtoecdjgjfbjejaaW18
import Derived.Test.YtoecdjgjfbjejaaW22
import Derived.Test.YtoecdjgjfbjejaaW23
namespace Go.Proofs.Ytoecdjgjfbjejaa
open Go Go.Mill
set_option maxRecDepth 100000
set_option linter.unusedSimpArgs false
set_option linter.unusedVariables false

theorem withV_small {d : List (List Int)} {xs : List Int} : (withV d xs).length ≤ 6 ∧ ∀ j, ((withV d xs).getD j []).length ≤ 6 := by
  cases h : fitB d xs with
  | false => rw [withV_no h]; simp
  | true =>
    have hF := fitB_is h
    have hS := with_space hF
    rw [withV_yes hF]
    refine ⟨hS.1.2.1, fun j => ?_⟩
    rcases Nat.lt_or_ge j (withT d xs).length with h | h
    · rw [hS.1.sq j h]; exact hS.1.2.1
    · simp [List.getElem?_eq_none h]
theorem FnWithPoint_c (S : Store) (v : Value) (xs : List Int) (hI : rd S v = some (xs.map (.int .u8))) (hx : xs.length ≤ maxLen) (hb : ∀ b ∈ xs, 0 ≤ b ∧ b ≤ 255) :
    ACalls Try.prog 17 [v] S fun u _ => u = .bool true := by
  refine ACalls.intro (ts := [2]) 77 follows Try.func17 rfl (by kernel_rfl) (by kernel_rfl) (by simp) ?_
  have hsl := rd_isSl hI
  have hlen : slen v = xs.length := by rw [rd_slen hI]; simp
  have m11 : (11 : Nat) ≤ maxLen := by decide
  simp only [go_sem, ↓reduceIte, Nat.reduceEqDiff, argEnv, hsl, hlen]
  refine condK_dec (fun q1 h1 => ?_) (fun q1 h1 => ?_)
  · simp only [go_sem, ↓reduceIte, Nat.reduceEqDiff, h1]
  simp only [go_sem, ↓reduceIte, Nat.reduceEqDiff, h1]
  refine callK.intro (by kernel_rfl) (DrawWithPoint_c S v xs hI hx hb) ?_
  rintro _ S1 ⟨w1, w2, r, d, ys, rfl, M1, I1, E1, hd6, hr11, hy11⟩
  have hd : d.length ≤ maxLen := by omega
  have hyl : ys.length ≤ maxLen := by omega
  have sm := @withV_small d ys
  simp only [go_sem, ↓reduceIte, Nat.reduceEqDiff]
  refine callK.intro (by kernel_rfl) (iWithPoint_c _ _ _ _ M1 hd _ _ I1 hyl) ?_
  rintro _ S2 ⟨⟨X, rfl, hX⟩, P2⟩
  obtain ⟨rx, X2⟩ := hX.mat
  have M2 := M1.ext P2.ext
  have I2 := I1.ext P2.ext
  simp only [go_sem, ↓reduceIte, Nat.reduceEqDiff]
  refine callK.intro (by kernel_rfl) (sWithPoint_c _ _ _ _ M2 hd _ _ I2 hyl) ?_
  rintro _ S3 ⟨⟨Y, rfl, hY⟩, P3⟩
  obtain ⟨ry, Y3⟩ := hY.mat
  have M3 := M2.ext P3.ext
  have I3 := I2.ext P3.ext
  have X3 := X2.ext P3.ext
  have hxl : (withV d ys).length ≤ maxLen := by omega
  have hxr : ∀ i, i < (withV d ys).length → ((withV d ys).getD i []).length ≤ maxLen := fun i _ => by have := sm.2 i; omega
  have hs3 := X3.sl
  have hn3 := X3.len
  simp only [go_sem, ↓reduceIte, Nat.reduceEqDiff]
  refine callK.intro (by kernel_rfl) (sameRows_c _ _ _ _ _ _ _ X3 Y3 hxl hxr) ?_
  rintro _ _ ⟨rfl, rfl⟩
  simp only [go_sem, ↓reduceIte, Nat.reduceEqDiff, decide_true, bne_self_eq_false, Try.underlying4]
  cases hF : fitB d ys with
  | false =>
    have h0 : decide (((withV d ys).length : Int) = 0) = true := by rw [withV_no hF]; rfl
    simp only [go_sem, ↓reduceIte, Nat.reduceEqDiff, hs3, hn3, h0]
    refine callK.intro (by kernel_rfl) (alive_c _) ?_
    rintro _ _ ⟨rfl, -⟩
    simp only [go_sem, ↓reduceIte, Nat.reduceEqDiff]
  | true =>
    have hS := fitB_is hF
    have hV := withV_yes hS
    have hsp := with_space hS
    have hl : (withT d ys).length = d.length + 1 := withT_len
    have hSp : spaceB (withV d ys) = true := by rw [hV]; exact spaceB_yes hsp
    have h1d := hS.1.1.1
    have hB : dropB (withV d ys) ((d.length : Nat) : Int) = true := by rw [hV]; exact dropB_iff.2 ⟨⟨hsp, by omega, by omega⟩, by omega⟩
    have hsl := M3.sl
    have hlen := M3.len
    simp only [go_sem, ↓reduceIte, Nat.reduceEqDiff, hsl, hlen]
    refine callK.intro (by kernel_rfl) (iWithoutPoint_c _ _ _ _ X3 hxl ((d.length : Nat) : Int) (by omega)) ?_
    rintro _ S4 ⟨⟨Z, rfl, hZ⟩, P4⟩
    obtain ⟨rz, Z4⟩ := hZ.mat
    have hD : dropV (withV d ys) ((d.length : Nat) : Int) = d := by rw [hV, dropV_nat hsp (by omega) (by omega)]; exact with_drop hS
    rw [hD] at Z4
    have M4 := M3.ext P4.ext
    have X4 := X3.ext P4.ext
    have I4 := I3.ext P4.ext
    have hn1 : d.length < (withV d ys).length := by rw [hV]; omega
    have hrow : (withV d ys).getD d.length [] = ys ++ [0] := by rw [hV]; exact withT_last
    have hyd := hS.2.2.1
    have hrw := X4.row _ hn1
    rw [hrow] at hrw
    have hil : (ints (ys ++ [0])).length = d.length + 1 := by simp [ints]; omega
    obtain ⟨ws, hws, hwr⟩ := slc_take hrw (k := d.length) (by rw [hil]; omega)
    have hI4 : Ints S4 ws ys := by
      unfold Ints
      rw [hwr]
      congr 1
      have : d.length = (ints ys).length := by simp [ints]; omega
      rw [this]
      simp [ints]
    have hnn : ((0 : Int) ≤ ((d.length : Nat) : Int)) = True := by simp
    simp only [go_sem, ↓reduceIte, Nat.reduceEqDiff]
    refine callK.intro (by kernel_rfl) (iSpaceOk_c _ _ _ _ X4 hxl) ?_
    rintro _ _ ⟨rfl, rfl⟩
    simp only [go_sem, ↓reduceIte, Nat.reduceEqDiff, hSp, hB]
    have hdr : ∀ i, i < d.length → (d.getD i []).length ≤ maxLen := fun i _ => Nat.le_trans (hr11 i) m11
    refine callK.intro (by kernel_rfl) (sameRows_c _ _ _ _ _ _ _ Z4 M4 hd hdr) ?_
    rintro _ _ ⟨rfl, rfl⟩
    simp only [go_sem, ↓reduceIte, Nat.reduceEqDiff, decide_true, X4.sl, X4.len, hn1, X4.get, hsl, hlen, hws, hnn, andK_true, Int.toNat_natCast]
    refine callK.intro (by kernel_rfl) (sameInts_c _ _ _ _ _ hI4 I4 hyl) ?_
    rintro _ _ ⟨rfl, rfl⟩
    simp only [go_sem, ↓reduceIte, Nat.reduceEqDiff, decide_true]
end Go.Proofs.Ytoecdjgjfbjejaa

/- The law FnRoadsAlone. -/
import Derived.Test.YtoecdjgjfbjejaaW7
import Derived.Test.YtoecdjgjfbjejaaW9
import Derived.Test.YtoecdjgjfbjejaaW16
import Derived.Test.YtoecdjgjfbjejaaW18
import Derived.Test.YtoecdjgjfbjejaaW20
namespace Go.Proofs.Ytoecdjgjfbjejaa
open Go Go.Mill
set_option maxRecDepth 100000
set_option linter.unusedSimpArgs false
set_option linter.unusedVariables false

theorem aloneV_small {d : List (List Int)} : (aloneV d).length ≤ 6 ∧ ∀ j, ((aloneV d).getD j []).length ≤ 6 := by
  cases h : spaceB d with
  | false => rw [aloneV_no h]; simp
  | true =>
    have hS := spaceB_is h
    have h6 := hS.1.2.1
    rw [aloneV_yes hS]
    refine ⟨by rw [aloneT_len]; exact h6, fun j => ?_⟩
    rcases Nat.lt_or_ge j d.length with h | h
    · rw [aloneT_row h, aloneRow_len]; exact h6
    · rw [List.getD_eq_getElem?_getD, List.getElem?_eq_none (by rw [aloneT_len]; exact h)]; simp
theorem FnRoadsAlone_c (S : Store) (v : Value) (xs : List Int) (hI : rd S v = some (xs.map (.int .u8))) (hx : xs.length ≤ maxLen) (hb : ∀ b ∈ xs, 0 ≤ b ∧ b ≤ 255) :
    ACalls Try.prog 16 [v] S fun u _ => u = .bool true := by
  refine ACalls.intro (ts := [2]) 34 follows Try.func16 rfl (by kernel_rfl) (by kernel_rfl) (by simp) ?_
  have hsl := rd_isSl hI
  have hlen : slen v = xs.length := by rw [rd_slen hI]; simp
  have m6 : (6 : Nat) ≤ maxLen := by decide
  simp only [go_sem, ↓reduceIte, Nat.reduceEqDiff, argEnv, hsl, hlen]
  refine condK_dec (fun q1 h1 => ?_) (fun q1 h1 => ?_)
  · simp only [go_sem, ↓reduceIte, Nat.reduceEqDiff, h1]
  simp only [go_sem, ↓reduceIte, Nat.reduceEqDiff, h1]
  refine callK.intro (by kernel_rfl) (DrawRoadsAlone_c S v xs hI hx hb) ?_
  rintro D S1 ⟨r, d, M1, E1, hd6, hr6⟩
  have hd : d.length ≤ maxLen := by omega
  simp only [go_sem, ↓reduceIte, Nat.reduceEqDiff]
  refine callK.intro (by kernel_rfl) (iRoadsAlone_c _ _ _ _ M1 hd) ?_
  rintro X S2 ⟨hX, P2⟩
  obtain ⟨rx, X2⟩ := hX.mat
  have M2 := M1.ext P2.ext
  simp only [go_sem, ↓reduceIte, Nat.reduceEqDiff]
  refine callK.intro (by kernel_rfl) (sRoadsAlone_c _ _ _ _ M2 hd) ?_
  rintro Y S3 ⟨hY, P3⟩
  obtain ⟨ry, Y3⟩ := hY.mat
  have M3 := M2.ext P3.ext
  have X3 := X2.ext P3.ext
  have hxl : (aloneV d).length ≤ maxLen := Nat.le_trans aloneV_small.1 m6
  have hxr : ∀ i, i < (aloneV d).length → ((aloneV d).getD i []).length ≤ maxLen := fun i _ => Nat.le_trans (aloneV_small.2 i) m6
  simp only [go_sem, ↓reduceIte, Nat.reduceEqDiff]
  refine callK.intro (by kernel_rfl) (sameRows_c _ _ _ _ _ _ _ X3 Y3 hxl hxr) ?_
  rintro _ _ ⟨rfl, rfl⟩
  simp only [go_sem, ↓reduceIte, Nat.reduceEqDiff, decide_true]
  have hs3 := X3.sl
  have hn3 := X3.len
  simp only [go_sem, ↓reduceIte, Nat.reduceEqDiff, hs3, hn3]
  refine condK_dec (fun q2 h2 => ?_) (fun q2 h2 => ?_)
  · have hF : spaceB d = false := spaceB_no fun h => by rw [aloneV_yes h, aloneT_len] at q2; have := h.1.1; omega
    simp only [go_sem, ↓reduceIte, Nat.reduceEqDiff, h2]
    refine callK.intro (by kernel_rfl) (iSpaceOk_c _ _ _ _ M3 hd) ?_
    rintro _ _ ⟨rfl, rfl⟩
    simp only [go_sem, ↓reduceIte, Nat.reduceEqDiff, hF]
    refine callK.intro (by kernel_rfl) (alive_c _) ?_
    rintro _ _ ⟨rfl, -⟩
    simp only [go_sem, ↓reduceIte, Nat.reduceEqDiff]
  have hS : IsSpace d := spaceB_is (by
    cases h : spaceB d with
    | false => rw [aloneV_no h] at q2; simp at q2
    | true => rfl)
  have hA : farB (aloneV d) = true := by rw [aloneV_yes hS]; exact farB_yes (alone_far hS)
  simp only [go_sem, ↓reduceIte, Nat.reduceEqDiff, h2]
  refine callK.intro (by kernel_rfl) (iFarOk_c _ _ _ _ X3 hxl) ?_
  rintro _ _ ⟨rfl, rfl⟩
  simp only [go_sem, ↓reduceIte, Nat.reduceEqDiff, hA]
  refine callK.intro (by kernel_rfl) (iShortestOf_c _ _ _ _ X3 hxl) ?_
  rintro Z S4 ⟨hZ, P4⟩
  obtain ⟨rz, Z4⟩ := hZ.mat
  have he : shortV (aloneV d) = d := by rw [aloneV_yes hS]; exact alone_short hS
  rw [he] at Z4
  simp only [go_sem, ↓reduceIte, Nat.reduceEqDiff]
  have m11 : (11 : Nat) ≤ maxLen := by decide
  have hdr : ∀ i, i < d.length → (d.getD i []).length ≤ maxLen := fun i _ => Nat.le_trans (hr6 i) m11
  refine callK.intro (by kernel_rfl) (sameRows_c _ _ _ _ _ _ _ Z4 (M3.ext P4.ext) hd hdr) ?_
  rintro _ _ ⟨rfl, rfl⟩
  simp only [go_sem, ↓reduceIte, Nat.reduceEqDiff, decide_true]
end Go.Proofs.Ytoecdjgjfbjejaa

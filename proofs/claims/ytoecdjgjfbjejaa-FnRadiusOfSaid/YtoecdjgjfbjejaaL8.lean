/- The laws FnWidthOf and FnRadiusOf. -/
import Derived.Test.YtoecdjgjfbjejaaW5
import Derived.Test.YtoecdjgjfbjejaaW7
import Derived.Test.YtoecdjgjfbjejaaW9
namespace Go.Proofs.Ytoecdjgjfbjejaa
open Go Go.Mill
set_option maxRecDepth 100000
set_option linter.unusedSimpArgs false
set_option linter.unusedVariables false

theorem FnWidthOf_c (S : Store) (v : Value) (xs : List Int) (hI : rd S v = some (xs.map (.int .u8))) (hx : xs.length ≤ maxLen) (hb : ∀ b ∈ xs, 0 ≤ b ∧ b ≤ 255) :
    ACalls Try.prog 3 [v] S fun u _ => u = .bool true := by
  refine ACalls.intro (ts := [2]) 68 follows Try.func3 rfl (by kernel_rfl) (by kernel_rfl) (by simp) ?_
  have hsl := rd_isSl hI
  have hlen : slen v = xs.length := by rw [rd_slen hI]; simp
  simp only [go_sem, ↓reduceIte, Nat.reduceEqDiff, argEnv, hsl, hlen]
  refine condK_dec (fun q1 h1 => ?_) (fun q1 h1 => ?_)
  · simp only [go_sem, ↓reduceIte, Nat.reduceEqDiff, h1]
  simp only [go_sem, ↓reduceIte, Nat.reduceEqDiff, h1]
  refine callK.intro (by kernel_rfl) (DrawWidthOf_c S v xs hI hx hb) ?_
  rintro w S1 ⟨r, d, M1, E1, hd6, hr6⟩
  have hd : d.length ≤ maxLen := by have : (6 : Nat) ≤ maxLen := by decide
                                    omega
  have hN : d.length ≤ 9223372036854775807 := by omega
  simp only [go_sem, ↓reduceIte, Nat.reduceEqDiff]
  refine callK.intro (by kernel_rfl) (iWidthOf_c _ _ _ _ M1 hd) ?_
  rintro _ _ ⟨rfl, rfl⟩
  simp only [go_sem, ↓reduceIte, Nat.reduceEqDiff]
  refine callK.intro (by kernel_rfl) (sWidthOf_c _ _ _ _ M1 hd) ?_
  rintro _ _ ⟨rfl, rfl⟩
  simp only [go_sem, ↓reduceIte, Nat.reduceEqDiff]
  simp only [go_sem, ↓reduceIte, Nat.reduceEqDiff, not_true_eq_false, decide_false]
  cases hF : spaceB d with
  | false =>
    have hv := width_no hF
    simp only [go_sem, ↓reduceIte, Nat.reduceEqDiff, hv, Int.reduceNeg, Int.reduceLT, decide_true]
    refine callK.intro (by kernel_rfl) (alive_c _) ?_
    rintro _ _ ⟨rfl, -⟩
    simp only [go_sem, ↓reduceIte, Nat.reduceEqDiff]
  | true =>
    have hS := spaceB_is hF
    have hnn : decide (widthV d < 0) = false := by have := width_nn hS; simp only [decide_eq_false_iff_not]; omega
    have hsl := M1.sl
    have hlen := M1.len
    have hrl := M1.sqlen hS.1.sq
    have hcl := M1.sqcell hS.1.sq
    simp only [go_sem, ↓reduceIte, Nat.reduceEqDiff, hnn, hsl, hlen]
    refine aw_count 6 [3, 4] (fun (y : Bool) => [(5, .bool y)]) (0) (d.length) (fun k y SS => S1 = SS ∧ (y = true ↔ ∃ k' j', k' < k ∧ j' < d.length ∧ at2 d k' j' = widthV d)) (false) ?_ ?_ ?_ ?_
    · simp only [go_sem, ↓reduceIte, Nat.reduceEqDiff, and_self, and_true, true_and, Int.ofNat_zero, Int.ofNat_one, Int.cast_ofNat_Int, hsl, hlen]
    · omega
    rotate_left
    rintro k y Sk hk0 hk ⟨rfl, hy⟩
    simp only [go_sem, ↓reduceIte, Nat.reduceEqDiff, hsl, hlen]
    refine condK_lt hk (fun hk => ?_) (fun he => ?_)
    · simp only [go_sem, ↓reduceIte, Nat.reduceEqDiff, hsl, hlen]
      refine aw_count 7 [3, 4, 6] (fun (z : Bool) => [(5, .bool z)]) (0) (d.length) (fun j z SS => S1 = SS ∧ (z = true ↔ (∃ k' j', k' < k ∧ j' < d.length ∧ at2 d k' j' = widthV d) ∨ ∃ j', j' < j ∧ at2 d k j' = widthV d)) (y) ?_ ?_ ?_ ?_
      · simp only [go_sem, ↓reduceIte, Nat.reduceEqDiff, and_self, and_true, true_and, Int.ofNat_zero, Int.ofNat_one, Int.cast_ofNat_Int, hsl, hlen]
      · omega
      rotate_left
      rintro j z Sj hj0 hj ⟨rfl, hz⟩
      simp only [go_sem, ↓reduceIte, Nat.reduceEqDiff, hsl, hlen]
      refine condK_lt hj (fun hj => ?_) (fun he => ?_)
      · have hle := width_ge hS hk hj
        have hgt : decide (widthV d < at2 d k j) = false := by simp only [decide_eq_false_iff_not]; omega
        simp only [go_sem, ↓reduceIte, Nat.reduceEqDiff, hsl, hlen, hk, hj, M1.get, M1.rsl, hrl, hcl, hgt]
        have fin : ∀ z' : Bool, (z' = true ↔ z = true ∨ at2 d k j = widthV d) → (z' = true ↔ (∃ k' j', k' < k ∧ j' < d.length ∧ at2 d k' j' = widthV d) ∨ ∃ j', j' < j + 1 ∧ at2 d k j' = widthV d) := fun z' h => by
          rw [h, hz]
          constructor
          · rintro ((h | ⟨j', h1, h2⟩) | h)
            · exact .inl h
            · exact .inr ⟨j', by omega, h2⟩
            · exact .inr ⟨j, by omega, h⟩
          · rintro (h | ⟨j', h1, h2⟩)
            · exact .inl (.inl h)
            · rcases Nat.lt_or_ge j' j with h | h
              · exact .inl (.inr ⟨j', h, h2⟩)
              · obtain rfl : j' = j := by omega
                exact .inr h2
        cases z with
        | true =>
          simp only [go_sem, ↓reduceIte, Nat.reduceEqDiff]
          refine forK_step (true) hj hj0 ?_ ?_
          · have hib := Nat.lt_of_lt_of_le hj hN; simp only [go_sem, ↓reduceIte, Nat.reduceEqDiff, and_self, and_true, true_and, Int.ofNat_zero, Int.ofNat_one, Int.cast_ofNat_Int, wrap_succ hib]
          exact ⟨rfl, fin _ (by simp)⟩
        | false =>
          simp only [go_sem, ↓reduceIte, Nat.reduceEqDiff, hsl, hlen, hk, hj, M1.get, M1.rsl, hrl, hcl]
          refine forK_step (decide (at2 d k j = widthV d)) hj hj0 ?_ ?_
          · have hib := Nat.lt_of_lt_of_le hj hN; simp only [go_sem, ↓reduceIte, Nat.reduceEqDiff, and_self, and_true, true_and, Int.ofNat_zero, Int.ofNat_one, Int.cast_ofNat_Int, wrap_succ hib]
          exact ⟨rfl, fin _ (by simp)⟩
      · subst he
        simp only [go_sem, ↓reduceIte, Nat.reduceEqDiff]
        refine forK_step (z) hk hk0 ?_ ?_
        · have hib := Nat.lt_of_lt_of_le hk hN; simp only [go_sem, ↓reduceIte, Nat.reduceEqDiff, and_self, and_true, true_and, Int.ofNat_zero, Int.ofNat_one, Int.cast_ofNat_Int, wrap_succ hib]
        refine ⟨rfl, hz.trans ⟨?_, ?_⟩⟩
        · rintro (⟨k', j', h1, h2⟩ | ⟨j', h1, h2⟩)
          · exact ⟨k', j', by omega, h2⟩
          · exact ⟨k, j', by omega, h1, h2⟩
        · rintro ⟨k', j', h1, h2, h3⟩
          rcases Nat.lt_or_ge k' k with h | h
          · exact .inl ⟨k', j', h, h2, h3⟩
          · obtain rfl : k' = k := by omega
            exact .inr ⟨j', h2, h3⟩
      · exact ⟨rfl, hy.trans ⟨.inl, fun h => h.elim id fun ⟨_, h, _⟩ => absurd h (Nat.not_lt_zero _)⟩⟩
    · subst he
      have hyt : y = true := hy.2 (by obtain ⟨k, j, h1, h2, h3⟩ := width_mem hS; exact ⟨k, j, h1, h2, h3⟩)
      have hwz := width_zero hS
      clear hy
      subst hyt
      simp only [go_sem, ↓reduceIte, Nat.reduceEqDiff, hsl, hlen, Try.underlying4]
      have : decide (widthV d = 0 ↔ (d.length : Int) = 1) = true := by simp only [decide_eq_true_eq]; omega
      rw [this]
    · exact ⟨rfl, by simp⟩

theorem FnRadiusOf_c (S : Store) (v : Value) (xs : List Int) (hI : rd S v = some (xs.map (.int .u8))) (hx : xs.length ≤ maxLen) (hb : ∀ b ∈ xs, 0 ≤ b ∧ b ≤ 255) :
    ACalls Try.prog 9 [v] S fun u _ => u = .bool true := by
  refine ACalls.intro (ts := [2]) 70 follows Try.func9 rfl (by kernel_rfl) (by kernel_rfl) (by simp) ?_
  have hsl := rd_isSl hI
  have hlen : slen v = xs.length := by rw [rd_slen hI]; simp
  simp only [go_sem, ↓reduceIte, Nat.reduceEqDiff, argEnv, hsl, hlen]
  refine condK_dec (fun q1 h1 => ?_) (fun q1 h1 => ?_)
  · simp only [go_sem, ↓reduceIte, Nat.reduceEqDiff, h1]
  simp only [go_sem, ↓reduceIte, Nat.reduceEqDiff, h1]
  refine callK.intro (by kernel_rfl) (DrawRadiusOf_c S v xs hI hx hb) ?_
  rintro w S1 ⟨r, d, M1, E1, hd6, hr6⟩
  have hd : d.length ≤ maxLen := by have : (6 : Nat) ≤ maxLen := by decide
                                    omega
  simp only [go_sem, ↓reduceIte, Nat.reduceEqDiff]
  refine callK.intro (by kernel_rfl) (iRadiusOf_c _ _ _ _ M1 hd) ?_
  rintro _ _ ⟨rfl, rfl⟩
  simp only [go_sem, ↓reduceIte, Nat.reduceEqDiff]
  refine callK.intro (by kernel_rfl) (sRadiusOf_c _ _ _ _ M1 hd) ?_
  rintro _ _ ⟨rfl, rfl⟩
  simp only [go_sem, ↓reduceIte, Nat.reduceEqDiff]
  simp only [go_sem, ↓reduceIte, Nat.reduceEqDiff, not_true_eq_false, decide_false, bne_self_eq_false, Try.underlying4]
  cases hF : spaceB d with
  | false =>
    have e1 : radV d = -1 := by simp [radV, hF]
    have e2 : radQ d = -1 := by simp [radQ, hF]
    simp only [go_sem, ↓reduceIte, Nat.reduceEqDiff, e1, e2, Int.reduceNeg, decide_true]
    refine callK.intro (by kernel_rfl) (alive_c _) ?_
    rintro _ _ ⟨rfl, -⟩
    simp only [go_sem, ↓reduceIte, Nat.reduceEqDiff]
  | true =>
    have hS := spaceB_is hF
    have h0 : 0 < d.length := hS.1.1
    have e1 : radV d = farV d (radP d) := by simp [radV, hF]
    have e2 : radQ d = (radP d : Nat) := by simp [radQ, hF]
    have hp : radP d < d.length := argm_lt h0
    have hn : 0 ≤ farV d (radP d) := by rw [farV_nat hS hp]; exact top_z
    have hle : farV d (radP d) ≤ widthV d := by rw [width_yes hS]; exact top_ge (f := fun k => farV d k) hp
    have h2 : widthV d ≤ 2 * farV d (radP d) := by
      obtain ⟨k, j, hk, hj, e⟩ := width_mem hS
      rw [← e]
      have a1 := @top_ge (at2 d (radP d)) 0 d.length k hk
      have a2 := @top_ge (at2 d (radP d)) 0 d.length j hj
      rw [← farV_nat hS hp] at a1 a2
      have b1 := (hS.1.2.2.2 k (radP d) hk hp).1
      have b2 := hS.2 k j (radP d) hk hj hp
      omega
    have hle60 : farV d (radP d) ≤ 60 := by
      rw [farV_nat hS hp]
      rcases @top_mem (at2 d (radP d)) 0 d.length with e | ⟨j, hj, e⟩
      · omega
      · rw [e]; exact (hS.1.2.2.2 _ j hp hj).2.2.1
    have hw : IntKind.i64.wrap (2 * farV d (radP d)) = 2 * farV d (radP d) := wrap64 (by omega)
    have c1 : decide (farV d (radP d) ≤ widthV d) = true := decide_eq_true hle
    have c2 : decide (widthV d ≤ 2 * farV d (radP d)) = true := decide_eq_true h2
    simp only [go_sem, ↓reduceIte, Nat.reduceEqDiff]
    refine callK.intro (by kernel_rfl) (iWidthOf_c _ _ _ _ M1 hd) ?_
    rintro _ _ ⟨rfl, rfl⟩
    simp only [go_sem, ↓reduceIte, Nat.reduceEqDiff]
    refine callK.intro (by kernel_rfl) (iFarthestFrom_c _ _ _ _ M1 hd _ (by rw [e2]; omega)) ?_
    rintro _ _ ⟨rfl, rfl⟩
    simp only [go_sem, ↓reduceIte, Nat.reduceEqDiff]
    simp only [go_sem, ↓reduceIte, Nat.reduceEqDiff, e1, e2, decide_true, hw, c1, c2]
end Go.Proofs.Ytoecdjgjfbjejaa

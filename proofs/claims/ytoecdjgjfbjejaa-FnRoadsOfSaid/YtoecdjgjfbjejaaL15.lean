/- The law FnRoadsOf. -/
import Derived.Test.YtoecdjgjfbjejaaW7
import Derived.Test.YtoecdjgjfbjejaaW9
import Derived.Test.YtoecdjgjfbjejaaW18
import Derived.Test.YtoecdjgjfbjejaaW20
namespace Go.Proofs.Ytoecdjgjfbjejaa
open Go Go.Mill
set_option maxRecDepth 100000
set_option linter.unusedSimpArgs false
set_option linter.unusedVariables false

theorem roadsV_small {d : List (List Int)} : (roadsV d).length ≤ 36 ∧ ∀ i, i < (roadsV d).length → ∃ a b : Nat, a < b ∧ b < d.length ∧ isRoad d a b = true ∧ (roadsV d).getD i [] = [(a : Int), (b : Int)] := by
  cases h : spaceB d with
  | false => rw [roadsV_no h]; simp
  | true =>
    have hS := spaceB_is h
    rw [roadsV_yes hS]
    refine ⟨?_, fun i hi => ?_⟩
    · have h1 := @roads_few d
      have h6 := hS.1.2.1
      have := Nat.mul_le_mul h6 (show d.length - 1 ≤ 5 by omega)
      omega
    · have hm : (roadsT d d.length d.length).getD i [] ∈ roadsT d d.length d.length := by
        rw [List.getD_eq_getElem?_getD, List.getElem?_eq_getElem hi]; exact List.getElem_mem hi
      obtain ⟨a, b, h1, h2, h3, h4, h5⟩ := mem_roadsT.1 hm
      exact ⟨a, b, h2, h3, h4, h5⟩
theorem FnRoadsOf_c (S : Store) (v : Value) (xs : List Int) (hI : rd S v = some (xs.map (.int .u8))) (hx : xs.length ≤ maxLen) (hb : ∀ b ∈ xs, 0 ≤ b ∧ b ≤ 255) :
    ACalls Try.prog 10 [v] S fun u _ => u = .bool true := by
  refine ACalls.intro (ts := [2]) 102 follows Try.func10 rfl (by kernel_rfl) (by kernel_rfl) (by simp) ?_
  have hsl := rd_isSl hI
  have hlen : slen v = xs.length := by rw [rd_slen hI]; simp
  have m6 : (36 : Nat) ≤ maxLen := by decide
  simp only [go_sem, ↓reduceIte, Nat.reduceEqDiff, argEnv, hsl, hlen]
  refine condK_dec (fun q1 h1 => ?_) (fun q1 h1 => ?_)
  · simp only [go_sem, ↓reduceIte, Nat.reduceEqDiff, h1]
  simp only [go_sem, ↓reduceIte, Nat.reduceEqDiff, h1]
  refine callK.intro (by kernel_rfl) (DrawRoadsOf_c S v xs hI hx hb) ?_
  rintro D S1 ⟨r, d, M1, E1, hd6, hr6⟩
  have hd : d.length ≤ maxLen := by omega
  have hN : d.length ≤ 9223372036854775807 := by omega
  simp only [go_sem, ↓reduceIte, Nat.reduceEqDiff]
  refine callK.intro (by kernel_rfl) (iRoadsOf_c _ _ _ _ M1 hd) ?_
  rintro X S2 ⟨hX, P2⟩
  obtain ⟨rx, X2⟩ := hX.mat
  have M2 := M1.ext P2.ext
  simp only [go_sem, ↓reduceIte, Nat.reduceEqDiff]
  refine callK.intro (by kernel_rfl) (sRoadsOf_c _ _ _ _ M2 hd) ?_
  rintro Y S3 ⟨hY, P3⟩
  obtain ⟨ry, Y3⟩ := hY.mat
  have M3 := M2.ext P3.ext
  have X3 := X2.ext P3.ext
  have hxl : (roadsV d).length ≤ maxLen := Nat.le_trans roadsV_small.1 m6
  have hxr : ∀ i, i < (roadsV d).length → ((roadsV d).getD i []).length ≤ maxLen := fun i hi => by
    obtain ⟨a, b, -, -, -, e⟩ := roadsV_small.2 i hi
    rw [e]; simp; omega
  simp only [go_sem, ↓reduceIte, Nat.reduceEqDiff]
  refine callK.intro (by kernel_rfl) (sameRows_c _ _ _ _ _ _ _ X3 Y3 hxl hxr) ?_
  rintro _ _ ⟨rfl, rfl⟩
  simp only [go_sem, ↓reduceIte, Nat.reduceEqDiff, decide_true]
  refine callK.intro (by kernel_rfl) (sSpaceOk_c _ _ _ _ M3 hd) ?_
  rintro _ _ ⟨rfl, rfl⟩
  simp only [go_sem, ↓reduceIte, Nat.reduceEqDiff]
  have hs3 := X3.sl
  have hn3 := X3.len
  cases hF : spaceB d with
  | false =>
    have h0 : decide (((roadsV d).length : Int) = 0) = true := by rw [roadsV_no hF]; rfl
    simp only [go_sem, ↓reduceIte, Nat.reduceEqDiff, hs3, hn3, h0]
    refine callK.intro (by kernel_rfl) (alive_c _) ?_
    rintro _ _ ⟨rfl, -⟩
    simp only [go_sem, ↓reduceIte, Nat.reduceEqDiff]
  | true =>
    have hS := spaceB_is hF
    have hsl := M3.sl
    have hlen := M3.len
    have hrl := M3.sqlen hS.1.sq
    have hcl := M3.sqcell hS.1.sq
    have sm := @roadsV_small d
    have hNx : (roadsV d).length ≤ 9223372036854775807 := by omega
    simp only [go_sem, ↓reduceIte, Nat.reduceEqDiff]
    refine aw_count 7 [3, 4, 6] (fun (x : Int) => [(5, .int .i64 x)]) (0) (d.length) (fun k x SS => S3 = SS ∧ x ≤ 61 ∧ (∀ k' j', j' < k' → k' < k → x ≤ at2 d k' j') ∧ (x = 61 ∨ ∃ k' j', j' < k' ∧ k' < k ∧ x = at2 d k' j')) (61) ?_ ?_ ?_ ?_
    · simp only [go_sem, ↓reduceIte, Nat.reduceEqDiff, and_self, and_true, true_and, Int.ofNat_zero, Int.ofNat_one, Int.cast_ofNat_Int, hsl, hlen]
    · omega
    rotate_left
    rintro k x Sk hk0 hk ⟨rfl, hx61, hx1, hx2⟩
    simp only [go_sem, ↓reduceIte, Nat.reduceEqDiff, hsl, hlen]
    refine condK_lt hk (fun hk => ?_) (fun he => ?_)
    · have hNk : k ≤ 9223372036854775807 := by omega
      simp only [go_sem, ↓reduceIte, Nat.reduceEqDiff]
      refine aw_count 8 [3, 4, 6, 7] (fun (z : Int) => [(5, .int .i64 z)]) (0) (k) (fun j z SS => S3 = SS ∧ z ≤ 61 ∧ (∀ k' j', j' < k' → k' < k → z ≤ at2 d k' j') ∧ (∀ j', j' < j → z ≤ at2 d k j') ∧ (z = 61 ∨ ∃ k' j', j' < k' ∧ k' < k + 1 ∧ z = at2 d k' j')) (x) ?_ ?_ ?_ ?_
      · simp only [go_sem, ↓reduceIte, Nat.reduceEqDiff, and_self, and_true, true_and, Int.ofNat_zero, Int.ofNat_one, Int.cast_ofNat_Int, hsl, hlen]
      · omega
      rotate_left
      rintro j z Sj hj0 hj ⟨rfl, hz61, hz1, hz2, hz3⟩
      simp only [go_sem, ↓reduceIte, Nat.reduceEqDiff, hsl, hlen]
      refine condK_lt hj (fun hj => ?_) (fun he => ?_)
      · have hj' : j < d.length := by omega
        simp only [go_sem, ↓reduceIte, Nat.reduceEqDiff, hsl, hlen, hk, hj', M3.get, M3.rsl, hrl, hcl]
        refine forK_step (min z (at2 d k j)) hj hj0 ?_ ?_
        · have hib := Nat.lt_of_lt_of_le hj hNk; simp only [go_sem, ↓reduceIte, Nat.reduceEqDiff, and_self, and_true, true_and, Int.ofNat_zero, Int.ofNat_one, Int.cast_ofNat_Int, wrap_succ hib]
        refine ⟨rfl, by omega, fun k' j' a b => by have := hz1 k' j' a b; omega, fun j' a => ?_, ?_⟩
        · rcases Nat.lt_or_ge j' j with h | h
          · have := hz2 j' h; omega
          · obtain rfl : j' = j := by omega
            omega
        · rcases Int.le_total z (at2 d k j) with h | h
          · rw [Int.min_eq_left h]; exact hz3
          · rw [Int.min_eq_right h]; exact .inr ⟨k, j, hj, by omega, rfl⟩
      · subst he
        simp only [go_sem, ↓reduceIte, Nat.reduceEqDiff]
        refine forK_step (z) hk hk0 ?_ ?_
        · have hib := Nat.lt_of_lt_of_le hk hN; simp only [go_sem, ↓reduceIte, Nat.reduceEqDiff, and_self, and_true, true_and, Int.ofNat_zero, Int.ofNat_one, Int.cast_ofNat_Int, wrap_succ hib]
        refine ⟨rfl, hz61, fun k' j' a b => ?_, hz3⟩
        rcases Nat.lt_or_ge k' j with h | h
        · exact hz1 k' j' a h
        · obtain rfl : k' = j := by omega
          exact hz2 j' a
      · exact ⟨rfl, hx61, hx1, fun _ h => absurd h (Nat.not_lt_zero _), hx2.imp id fun ⟨k', j', a, b, c⟩ => ⟨k', j', a, by omega, c⟩⟩
    · subst he
      simp only [go_sem, ↓reduceIte, Nat.reduceEqDiff]
      refine aw_count 9 [3, 4, 5] (fun (y : Int) => [(6, .int .i64 y)]) (0) ((roadsV d).length) (fun m y SS => S3 = SS ∧ y ≤ 61 ∧ (∀ i a b, i < m → (roadsV d).getD i [] = [((a : Nat) : Int), ((b : Nat) : Int)] → y ≤ at2 d a b) ∧ (y = 61 ∨ ∃ a b, a < b ∧ b < d.length ∧ y = at2 d a b)) (61) ?_ ?_ ?_ ?_
      · simp only [go_sem, ↓reduceIte, Nat.reduceEqDiff, and_self, and_true, true_and, Int.ofNat_zero, Int.ofNat_one, Int.cast_ofNat_Int, hs3, hn3]
      · omega
      rotate_left
      rintro m y Sm hm0 hm ⟨rfl, hy61, hy1, hy2⟩
      simp only [go_sem, ↓reduceIte, Nat.reduceEqDiff, hs3, hn3]
      refine condK_lt hm (fun hm => ?_) (fun he => ?_)
      · obtain ⟨a, b, hab, hbl, hroad, hrow⟩ := sm.2 m hm
        have hal : a < d.length := by omega
        have hrlen : ((roadsV d).getD m []).length = 2 := by rw [hrow]; rfl
        have hl0 : 0 < slen (rx m) := by rw [X3.rlen m hm, hrlen]; omega
        have hl1 : 1 < slen (rx m) := by rw [X3.rlen m hm, hrlen]; omega
        have c0 : ld S3 (eptr (rx m) 0) = some (.int .i64 ((a : Nat) : Int)) := by rw [X3.cell m 0 hm (by omega)]; unfold at2; rw [hrow]; rfl
        have c1 : ld S3 (eptr (rx m) 1) = some (.int .i64 ((b : Nat) : Int)) := by rw [X3.cell m 1 hm (by omega)]; unfold at2; rw [hrow]; rfl
        simp only [go_sem, ↓reduceIte, Nat.reduceEqDiff]
        refine draw_read ?_ (by kernel_rfl)
        simp only [go_sem, ↓reduceIte, Nat.reduceEqDiff, hsl, hlen, hs3, hn3, hm, X3.get, ixK_zero, ixK_one, hl0, hl1, c0, c1, hal, hbl, M3.get, hrl, hcl]
        refine forK_step (min y (at2 d a b)) hm hm0 ?_ ?_
        · have hib := Nat.lt_of_lt_of_le hm hNx; simp only [go_sem, ↓reduceIte, Nat.reduceEqDiff, and_self, and_true, true_and, Int.ofNat_zero, Int.ofNat_one, Int.cast_ofNat_Int, wrap_succ hib]
        refine ⟨rfl, by omega, fun i a' b' hi he => ?_, ?_⟩
        · rcases Nat.lt_or_ge i m with h | h
          · have := hy1 i a' b' h he; omega
          · obtain rfl : i = m := by omega
            rw [hrow] at he
            simp only [List.cons.injEq, Int.natCast_inj, and_true] at he
            obtain ⟨rfl, rfl⟩ := he
            omega
        · rcases Int.le_total y (at2 d a b) with h | h
          · rw [Int.min_eq_left h]; exact hy2
          · rw [Int.min_eq_right h]; exact .inr ⟨a, b, hab, hbl, rfl⟩
      · subst he
        have hxy : decide (y = x) = true := by
          rw [decide_eq_true_eq]
          refine Int.le_antisymm ?_ ?_
          · rcases hx2 with h | ⟨k, j, hjk, hk, h⟩
            · omega
            · have s := (hS.1.at hk (show j < d.length by omega)).1
              have hroad : isRoad d j k = true := road_near hS hjk hk fun j' hj' hne => by
                rcases Nat.lt_or_ge j j' with h5 | h5
                · have := hx1 j' j h5 hj'
                  have := (hS.1.at hj' (show j < d.length by omega)).1
                  omega
                · have := hx1 j j' (by omega) (by omega)
                  omega
              have hmem : [((j : Nat) : Int), ((k : Nat) : Int)] ∈ roadsV d := by
                rw [roadsV_yes hS, mem_roadsT]
                exact ⟨j, k, by omega, hjk, hk, hroad, rfl⟩
              obtain ⟨i, hi, e⟩ := List.mem_iff_getElem.1 hmem
              have := hy1 i j k hi (by rw [List.getD_eq_getElem?_getD, List.getElem?_eq_getElem hi]; exact e)
              omega
          · rcases hy2 with h | ⟨a, b, hab, hb, h⟩
            · omega
            · have := hx1 b a hab hb
              have := (hS.1.at (show a < d.length by omega) hb).1
              omega
        have h1 := hS.1.1
        have many := roads_many hS
        have few := @roads_few d
        rw [← roadsV_yes hS] at many few
        have w1 : IntKind.i64.wrap ((d.length : Int) - 1) = ((d.length - 1 : Nat) : Int) := by rw [wrap64 (by omega)]; omega
        have w2 : IntKind.i64.wrap (2 * ((roadsV d).length : Int)) = ((2 * (roadsV d).length : Nat) : Int) := by rw [wrap64 (by omega)]; omega
        have w3 : IntKind.i64.wrap ((d.length : Int) * ((d.length - 1 : Nat) : Int)) = ((d.length * (d.length - 1) : Nat) : Int) := by
          rw [← Int.natCast_mul]
          have := Nat.mul_le_mul hS.1.2.1 (show d.length - 1 ≤ 5 by have := hS.1.2.1; omega)
          exact wrap64 (by omega)
        have g1 : decide (((d.length - 1 : Nat) : Int) ≤ ((roadsV d).length : Int)) = true := by rw [decide_eq_true_eq]; omega
        have g2 : decide (((2 * (roadsV d).length : Nat) : Int) ≤ ((d.length * (d.length - 1) : Nat) : Int)) = true := by rw [decide_eq_true_eq]; omega
        simp only [go_sem, ↓reduceIte, Nat.reduceEqDiff, hxy, hsl, hlen, hs3, hn3, w1, w2, w3, g1, g2]
        refine callK.intro (by kernel_rfl) (alive_c _) ?_
        rintro _ _ ⟨rfl, -⟩
        simp only [go_sem, ↓reduceIte, Nat.reduceEqDiff]
      · exact ⟨rfl, by omega, fun _ _ _ h => absurd h (Nat.not_lt_zero _), .inl rfl⟩
    · exact ⟨rfl, by omega, fun _ _ _ h => absurd h (Nat.not_lt_zero _), .inl rfl⟩
end Go.Proofs.Ytoecdjgjfbjejaa

/- The laws FnBallOf and FnBetweenOf. -/
import Derived.Test.YtoecdjgjfbjejaaW12
import Derived.Test.YtoecdjgjfbjejaaW11
import Derived.Test.YtoecdjgjfbjejaaW7
namespace Go.Proofs.Ytoecdjgjfbjejaa
open Go Go.Mill
set_option maxRecDepth 100000
set_option linter.unusedSimpArgs false
set_option linter.unusedVariables false

theorem mem_ball {d : List (List Int)} {p f x : Int} (h : x ∈ ballV d p f) : HasP d p ∧ 0 ≤ f ∧ f ≤ 60 ∧ ∃ k : Nat, x = k ∧ k < d.length ∧ at2 d p.toNat k ≤ f := by
  unfold ballV at h
  split at h
  · rename_i hc
    simp only [Bool.and_eq_true, decide_eq_true_eq] at hc
    obtain ⟨k, rfl, hk, hb⟩ := mem_pickN.1 h
    exact ⟨hasB_is hc.1, hc.2.1, hc.2.2, k, rfl, hk, by simpa [ballC] using hb⟩
  · cases h
theorem in_ball {d : List (List Int)} {p k : Nat} {f : Int} (h : IsSpace d) (hp : p < d.length) (hk : k < d.length) (hf : 0 ≤ f ∧ f ≤ 60) (hle : at2 d p k ≤ f) : (k : Int) ∈ ballV d p f := by
  rw [ballV_nat h hp hf]
  exact mem_pickN.2 ⟨k, rfl, hk, by simpa [ballC] using hle⟩
theorem ball_len {d : List (List Int)} {p f : Int} : (ballV d p f).length ≤ d.length := by
  unfold ballV
  split
  · exact pickN_len
  · simp

theorem FnBallOf_c (S : Store) (v : Value) (xs : List Int) (hI : rd S v = some (xs.map (.int .u8))) (hx : xs.length ≤ maxLen) (hb : ∀ b ∈ xs, 0 ≤ b ∧ b ≤ 255) :
    ACalls Try.prog 7 [v] S fun u _ => u = .bool true := by
  refine ACalls.intro (ts := [2]) 74 follows Try.func7 rfl (by kernel_rfl) (by kernel_rfl) (by simp) ?_
  have hsl := rd_isSl hI
  have hlen : slen v = xs.length := by rw [rd_slen hI]; simp
  simp only [go_sem, ↓reduceIte, Nat.reduceEqDiff, argEnv, hsl, hlen]
  refine condK_dec (fun q1 h1 => ?_) (fun q1 h1 => ?_)
  · simp only [go_sem, ↓reduceIte, Nat.reduceEqDiff, h1]
  simp only [go_sem, ↓reduceIte, Nat.reduceEqDiff, h1]
  refine callK.intro (by kernel_rfl) (DrawBallOf_c S v xs hI hx hb) ?_
  rintro _ S1 ⟨w, x, f, r, d, rfl, hxb, hfb, M1, E1, hd6, hr6⟩
  have hd : d.length ≤ maxLen := by have : (6 : Nat) ≤ maxLen := by decide
                                    omega
  have hbl : ∀ p f, (ballV d p f).length ≤ maxLen := fun p f => Nat.le_trans ball_len hd
  simp only [go_sem, ↓reduceIte, Nat.reduceEqDiff]
  refine callK.intro (by kernel_rfl) (iBallOf_c _ _ _ _ M1 hd x hxb f hfb) ?_
  rintro L S2 ⟨hL, P2⟩
  have M2 := M1.ext P2.ext
  replace hL := hL.ints
  simp only [go_sem, ↓reduceIte, Nat.reduceEqDiff]
  refine callK.intro (by kernel_rfl) (sBallOf_c _ _ _ _ M2 hd x hxb f hfb) ?_
  rintro L2 S3 ⟨hL2, P3⟩
  have M3 := M2.ext P3.ext
  have hL3 := hL.ext P3.ext
  simp only [go_sem, ↓reduceIte, Nat.reduceEqDiff]
  refine callK.intro (by kernel_rfl) (sameInts_c _ _ _ _ _ hL3 hL2.ints (hbl _ _)) ?_
  rintro _ _ ⟨rfl, rfl⟩
  simp only [go_sem, ↓reduceIte, Nat.reduceEqDiff, decide_true]
  have hs3 := hL3.sl
  have hn3 := hL3.len
  simp only [go_sem, ↓reduceIte, Nat.reduceEqDiff, hs3, hn3]
  refine condK_dec (fun q2 h2 => ?_) (fun q2 h2 => ?_)
  · simp only [go_sem, ↓reduceIte, Nat.reduceEqDiff, h2]
    refine callK.intro (by kernel_rfl) (alive_c _) ?_
    rintro _ _ ⟨rfl, -⟩
    simp only [go_sem, ↓reduceIte, Nat.reduceEqDiff]
  obtain ⟨y, hy⟩ : ∃ y, y ∈ ballV d x f := List.exists_mem_of_length_pos (by omega)
  obtain ⟨hP, hf0, hf60, -⟩ := mem_ball hy
  obtain ⟨n, rfl⟩ := Int.eq_ofNat_of_zero_le hP.2.1
  have hn : n < d.length := by have := hP.2.2; omega
  have hS := hP.1
  have hwf : IntKind.i64.wrap (f + 1) = f + 1 := wrap64 (by omega)
  have hin : ∀ i, i < (ballV d n f).length → ∃ k : Nat, (ballV d n f).getD i 0 = k ∧ k < d.length ∧ at2 d n k ≤ f := fun i hi => by
    have hm : (ballV d n f).getD i 0 ∈ ballV d n f := by rw [List.getD_eq_getElem?_getD, List.getElem?_eq_getElem hi]; exact List.getElem_mem hi
    obtain ⟨-, -, -, k, e, hk, hle⟩ := mem_ball hm
    exact ⟨k, e, hk, by simpa using hle⟩
  simp only [go_sem, ↓reduceIte, Nat.reduceEqDiff, h2, hwf]
  refine callK.intro (by kernel_rfl) (iBallOf_c _ _ _ _ M3 hd n hxb (f + 1) (by omega)) ?_
  rintro L4 S4 ⟨hL4, P4⟩
  have M4 := M3.ext P4.ext
  have hL5 := hL3.ext P4.ext
  have hMo := hL4.ints
  have hN : (ballV d n f).length ≤ 9223372036854775807 := hbl _ _
  simp only [go_sem, ↓reduceIte, Nat.reduceEqDiff]
  refine aw_count 8 [3, 4, 5, 6, 7] (fun (y : Unit) => []) (0) ((ballV d n f).length) (fun i y SS => Ext S4 SS) (()) ?_ ?_ ?_ ?_
  · simp only [go_sem, ↓reduceIte, Nat.reduceEqDiff, and_self, and_true, true_and, Int.ofNat_zero, Int.ofNat_one, Int.cast_ofNat_Int, hs3, hn3]
  · omega
  rotate_left
  rintro i y Si hi0 hi E5
  simp only [go_sem, ↓reduceIte, Nat.reduceEqDiff, hs3, hn3]
  refine condK_lt hi (fun hi => ?_) (fun he => ?_)
  · obtain ⟨k, hk, hkl, hle⟩ := hin i hi
    have M5 := M4.ext E5
    have hL6 := hL5.ext E5
    have hMo5 := hMo.ext E5
    have hg := hL6.get i hi
    rw [hk] at hg
    have hmem : decide ((n : Int) ∈ ballV d k f) = true := by
      rw [decide_eq_true_eq]
      exact in_ball hS hkl hn ⟨hf0, hf60⟩ (by rw [(hS.1.2.2.2 k n hkl hn).1]; exact hle)
    simp only [go_sem, ↓reduceIte, Nat.reduceEqDiff]
    refine gK_dec (fun q3 h3 => ?_) (fun q3 h3 => ?_)
    · have hmore : decide ((k : Int) ∈ ballV d n (f + 1)) = true := by
        rw [decide_eq_true_eq]
        exact in_ball hS hn hkl (by omega) (by omega)
      simp only [go_sem, ↓reduceIte, Nat.reduceEqDiff, h3, hs3, hn3, hi, hg]
      refine callK.intro (by kernel_rfl) (hasInt_c _ _ _ hMo5 (hbl _ _) _) ?_
      rintro _ _ ⟨rfl, rfl⟩
      simp only [go_sem, ↓reduceIte, Nat.reduceEqDiff, hmore, hs3, hn3, hi, hg]
      refine callK.intro (by kernel_rfl) (iBallOf_c _ _ _ _ M5 hd k (by omega) f hfb) ?_
      rintro L7 S7 ⟨hL7, P7⟩
      simp only [go_sem, ↓reduceIte, Nat.reduceEqDiff]
      refine callK.intro (by kernel_rfl) (hasInt_c _ _ _ hL7.ints (hbl _ _) _) ?_
      rintro _ _ ⟨rfl, rfl⟩
      simp only [go_sem, ↓reduceIte, Nat.reduceEqDiff, hmem]
      refine forK_step (()) hi hi0 ?_ ?_
      · have hib := Nat.lt_of_lt_of_le hi hN; simp only [go_sem, ↓reduceIte, Nat.reduceEqDiff, and_self, and_true, true_and, Int.ofNat_zero, Int.ofNat_one, Int.cast_ofNat_Int, wrap_succ hib]
      exact E5.trans P7.ext
    · simp only [go_sem, ↓reduceIte, Nat.reduceEqDiff, h3, hs3, hn3, hi, hg]
      refine callK.intro (by kernel_rfl) (iBallOf_c _ _ _ _ M5 hd k (by omega) f hfb) ?_
      rintro L7 S7 ⟨hL7, P7⟩
      simp only [go_sem, ↓reduceIte, Nat.reduceEqDiff]
      refine callK.intro (by kernel_rfl) (hasInt_c _ _ _ hL7.ints (hbl _ _) _) ?_
      rintro _ _ ⟨rfl, rfl⟩
      simp only [go_sem, ↓reduceIte, Nat.reduceEqDiff, hmem]
      refine forK_step (()) hi hi0 ?_ ?_
      · have hib := Nat.lt_of_lt_of_le hi hN; simp only [go_sem, ↓reduceIte, Nat.reduceEqDiff, and_self, and_true, true_and, Int.ofNat_zero, Int.ofNat_one, Int.cast_ofNat_Int, wrap_succ hib]
      exact E5.trans P7.ext
  · subst he
    have hL6 := hL5.ext E5
    have hmem : decide ((n : Int) ∈ ballV d n f) = true := by
      rw [decide_eq_true_eq]
      exact in_ball hS hn hn ⟨hf0, hf60⟩ (by have := (hS.1.2.2.2 n n hn hn).2.2.2.2 rfl; omega)
    simp only [go_sem, ↓reduceIte, Nat.reduceEqDiff]
    refine callK.intro (by kernel_rfl) (hasInt_c _ _ _ hL6 (hbl _ _) _) ?_
    rintro _ _ ⟨rfl, rfl⟩
    simp only [go_sem, ↓reduceIte, Nat.reduceEqDiff, hmem]
    refine callK.intro (by kernel_rfl) (ascend_c _ _ _ hL6 (hbl _ _) (by omega) (fun i h1 hi => by rw [ballV_nat hS hn ⟨hf0, hf60⟩] at hi ⊢; exact pickN_sorted h1 hi)) ?_
    rintro _ _ ⟨rfl, rfl⟩
    simp only [go_sem, ↓reduceIte, Nat.reduceEqDiff]
  · exact Ext.refl _

theorem mem_bet {d : List (List Int)} {a b x : Int} (h : x ∈ betV d a b) : HasP d a ∧ HasP d b ∧ ∃ k : Nat, x = k ∧ k < d.length ∧ at2 d a.toNat k + at2 d k b.toNat = at2 d a.toNat b.toNat := by
  unfold betV at h
  split at h
  · rename_i hc
    simp only [Bool.and_eq_true] at hc
    obtain ⟨k, rfl, hk, hb⟩ := mem_pickN.1 h
    exact ⟨hasB_is hc.1, hasB_is hc.2, k, rfl, hk, by simpa [betC] using hb⟩
  · cases h
theorem in_bet {d : List (List Int)} {a b k : Nat} (h : IsSpace d) (ha : a < d.length) (hb : b < d.length) (hk : k < d.length) (he : at2 d a k + at2 d k b = at2 d a b) : (k : Int) ∈ betV d a b := by
  rw [betV_nat h ha hb]
  exact mem_pickN.2 ⟨k, rfl, hk, by simpa [betC] using he⟩
theorem bet_len {d : List (List Int)} {a b : Int} : (betV d a b).length ≤ d.length := by
  unfold betV
  split
  · exact pickN_len
  · simp
theorem bet_swap {d : List (List Int)} {a b : Nat} (h : IsSpace d) (ha : a < d.length) (hb : b < d.length) : betV d b a = betV d a b := by
  rw [betV_nat h ha hb, betV_nat h hb ha]
  unfold pickN
  congr 1
  refine List.filter_congr fun k hk => ?_
  rw [List.mem_range] at hk
  simp only [betC]
  have h1 := (h.1.2.2.2 a k ha hk).1
  have h2 := (h.1.2.2.2 b k hb hk).1
  have h3 := (h.1.2.2.2 a b ha hb).1
  rw [decide_eq_decide]
  omega

theorem FnBetweenOf_c (S : Store) (v : Value) (xs : List Int) (hI : rd S v = some (xs.map (.int .u8))) (hx : xs.length ≤ maxLen) (hb : ∀ b ∈ xs, 0 ≤ b ∧ b ≤ 255) :
    ACalls Try.prog 6 [v] S fun u _ => u = .bool true := by
  refine ACalls.intro (ts := [2]) 76 follows Try.func6 rfl (by kernel_rfl) (by kernel_rfl) (by simp) ?_
  have hsl := rd_isSl hI
  have hlen : slen v = xs.length := by rw [rd_slen hI]; simp
  simp only [go_sem, ↓reduceIte, Nat.reduceEqDiff, argEnv, hsl, hlen]
  refine condK_dec (fun q1 h1 => ?_) (fun q1 h1 => ?_)
  · simp only [go_sem, ↓reduceIte, Nat.reduceEqDiff, h1]
  simp only [go_sem, ↓reduceIte, Nat.reduceEqDiff, h1]
  refine callK.intro (by kernel_rfl) (DrawBetweenOf_c S v xs hI hx hb) ?_
  rintro _ S1 ⟨w, x, z, r, d, rfl, hxb, hzb, M1, E1, hd6, hr6⟩
  have hd : d.length ≤ maxLen := by have : (6 : Nat) ≤ maxLen := by decide
                                    omega
  have hbl : ∀ p f, (betV d p f).length ≤ maxLen := fun p f => Nat.le_trans bet_len hd
  simp only [go_sem, ↓reduceIte, Nat.reduceEqDiff]
  refine callK.intro (by kernel_rfl) (iBetweenOf_c _ _ _ _ M1 hd x hxb z hzb) ?_
  rintro L S2 ⟨hL, P2⟩
  have M2 := M1.ext P2.ext
  replace hL := hL.ints
  simp only [go_sem, ↓reduceIte, Nat.reduceEqDiff]
  refine callK.intro (by kernel_rfl) (sBetweenOf_c _ _ _ _ M2 hd x hxb z hzb) ?_
  rintro L2 S3 ⟨hL2, P3⟩
  have M3 := M2.ext P3.ext
  have hL3 := hL.ext P3.ext
  simp only [go_sem, ↓reduceIte, Nat.reduceEqDiff]
  refine callK.intro (by kernel_rfl) (sameInts_c _ _ _ _ _ hL3 hL2.ints (hbl _ _)) ?_
  rintro _ _ ⟨rfl, rfl⟩
  simp only [go_sem, ↓reduceIte, Nat.reduceEqDiff, decide_true]
  have hs3 := hL3.sl
  have hn3 := hL3.len
  simp only [go_sem, ↓reduceIte, Nat.reduceEqDiff, hs3, hn3]
  refine condK_dec (fun q2 h2 => ?_) (fun q2 h2 => ?_)
  · simp only [go_sem, ↓reduceIte, Nat.reduceEqDiff, h2]
    refine callK.intro (by kernel_rfl) (alive_c _) ?_
    rintro _ _ ⟨rfl, -⟩
    simp only [go_sem, ↓reduceIte, Nat.reduceEqDiff]
  obtain ⟨y, hy⟩ : ∃ y, y ∈ betV d x z := List.exists_mem_of_length_pos (by omega)
  obtain ⟨hP, hQ, -⟩ := mem_bet hy
  obtain ⟨a, rfl⟩ := Int.eq_ofNat_of_zero_le hP.2.1
  obtain ⟨b, rfl⟩ := Int.eq_ofNat_of_zero_le hQ.2.1
  have ha : a < d.length := by have := hP.2.2; omega
  have hb : b < d.length := by have := hQ.2.2; omega
  have hS := hP.1
  have getmem : ∀ (ys : List Int) i, i < ys.length → ys.getD i 0 ∈ ys := fun ys i hi => by rw [List.getD_eq_getElem?_getD, List.getElem?_eq_getElem hi]; exact List.getElem_mem hi
  have hN : (betV d a b).length ≤ 9223372036854775807 := hbl _ _
  simp only [go_sem, ↓reduceIte, Nat.reduceEqDiff, h2]
  refine aw_count 7 [3, 4, 5, 6] (fun (y : Unit) => []) (0) ((betV d a b).length) (fun i y SS => Ext S3 SS) (()) ?_ ?_ ?_ ?_
  · simp only [go_sem, ↓reduceIte, Nat.reduceEqDiff, and_self, and_true, true_and, Int.ofNat_zero, Int.ofNat_one, Int.cast_ofNat_Int, hs3, hn3]
  · omega
  rotate_left
  rintro i y Si hi0 hi E4
  simp only [go_sem, ↓reduceIte, Nat.reduceEqDiff, hs3, hn3]
  refine condK_lt hi (fun hi => ?_) (fun he => ?_)
  · have M4 := M3.ext E4
    have hL4 := hL3.ext E4
    obtain ⟨-, -, c, hc, hcl, hce⟩ := mem_bet (getmem _ i hi)
    simp only [Int.toNat_natCast] at hce
    have hg := hL4.get i hi
    rw [hc] at hg
    simp only [go_sem, ↓reduceIte, Nat.reduceEqDiff, hs3, hn3, hi, hg]
    refine callK.intro (by kernel_rfl) (iBetweenOf_c _ _ _ _ M4 hd a hxb c (by omega)) ?_
    rintro L5 S5 ⟨hL5, P5⟩
    replace hL5 := hL5.ints
    have E5 := E4.trans P5.ext
    have hs5 := hL5.sl
    have hn5 := hL5.len
    have hNn : (betV d a c).length ≤ 9223372036854775807 := hbl _ _
    simp only [go_sem, ↓reduceIte, Nat.reduceEqDiff]
    refine aw_count 9 [3, 4, 5, 6, 7, 8] (fun (y : Unit) => []) (0) ((betV d a c).length) (fun j y SS => Ext S5 SS) (()) ?_ ?_ ?_ ?_
    · simp only [go_sem, ↓reduceIte, Nat.reduceEqDiff, and_self, and_true, true_and, Int.ofNat_zero, Int.ofNat_one, Int.cast_ofNat_Int, hs5, hn5]
    · omega
    rotate_left
    rintro j y Sj hj0 hj E6
    simp only [go_sem, ↓reduceIte, Nat.reduceEqDiff, hs5, hn5]
    refine condK_lt hj (fun hj => ?_) (fun he => ?_)
    · obtain ⟨-, -, m, hm, hml, hme⟩ := mem_bet (getmem _ j hj)
      simp only [Int.toNat_natCast] at hme
      have hL6 := hL5.ext E6
      have hg6 := hL6.get j hj
      rw [hm] at hg6
      have hLL := hL3.ext (E5.trans E6)
      have hmem : decide ((m : Int) ∈ betV d a b) = true := by
        rw [decide_eq_true_eq]
        refine in_bet hS ha hb hml ?_
        have t1 := hS.2 m b c hml hb hcl
        have t2 := hS.2 a b m ha hb hml
        omega
      simp only [go_sem, ↓reduceIte, Nat.reduceEqDiff, hs5, hn5, hj, hg6]
      refine callK.intro (by kernel_rfl) (hasInt_c _ _ _ hLL (hbl _ _) _) ?_
      rintro _ _ ⟨rfl, rfl⟩
      simp only [go_sem, ↓reduceIte, Nat.reduceEqDiff, hmem]
      refine forK_step (()) hj hj0 ?_ ?_
      · have hib := Nat.lt_of_lt_of_le hj hNn; simp only [go_sem, ↓reduceIte, Nat.reduceEqDiff, and_self, and_true, true_and, Int.ofNat_zero, Int.ofNat_one, Int.cast_ofNat_Int, wrap_succ hib]
      exact E6
    · subst he
      simp only [go_sem, ↓reduceIte, Nat.reduceEqDiff]
      refine forK_step (()) hi hi0 ?_ ?_
      · have hib := Nat.lt_of_lt_of_le hi hN; simp only [go_sem, ↓reduceIte, Nat.reduceEqDiff, and_self, and_true, true_and, Int.ofNat_zero, Int.ofNat_one, Int.cast_ofNat_Int, wrap_succ hib]
      exact E5.trans E6
    · exact Ext.refl _
  · subst he
    have hL4 := hL3.ext E4
    have M4 := M3.ext E4
    have haa := (hS.1.2.2.2 a a ha ha).2.2.2.2 rfl
    have hbb := (hS.1.2.2.2 b b hb hb).2.2.2.2 rfl
    have m1 : decide ((a : Int) ∈ betV d a b) = true := by rw [decide_eq_true_eq]; exact in_bet hS ha hb ha (by omega)
    have m2 : decide ((b : Int) ∈ betV d a b) = true := by rw [decide_eq_true_eq]; exact in_bet hS ha hb hb (by omega)
    simp only [go_sem, ↓reduceIte, Nat.reduceEqDiff]
    refine callK.intro (by kernel_rfl) (hasInt_c _ _ _ hL4 (hbl _ _) _) ?_
    rintro _ _ ⟨rfl, rfl⟩
    simp only [go_sem, ↓reduceIte, Nat.reduceEqDiff, m1]
    refine callK.intro (by kernel_rfl) (hasInt_c _ _ _ hL4 (hbl _ _) _) ?_
    rintro _ _ ⟨rfl, rfl⟩
    simp only [go_sem, ↓reduceIte, Nat.reduceEqDiff, m2]
    refine callK.intro (by kernel_rfl) (iBetweenOf_c _ _ _ _ M4 hd b hzb a hxb) ?_
    rintro L7 S7 ⟨hL7, P7⟩
    have hs : decide (betV d b a = betV d a b) = true := by rw [decide_eq_true_eq]; exact bet_swap hS ha hb
    simp only [go_sem, ↓reduceIte, Nat.reduceEqDiff]
    refine callK.intro (by kernel_rfl) (sameInts_c _ _ _ _ _ hL7.ints (hL4.ext P7.ext) (hbl _ _)) ?_
    rintro _ _ ⟨rfl, rfl⟩
    simp only [go_sem, ↓reduceIte, Nat.reduceEqDiff, hs]
  · exact Ext.refl _
end Go.Proofs.Ytoecdjgjfbjejaa

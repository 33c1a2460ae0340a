/- The law FnSpaceOk. -/
import Derived.Test.YtklaeofcpfggnaaW7
import Derived.Test.YtklaeofcpfggnaaPure3
import Derived.Test.YtklaeofcpfggnaaMillN
namespace Go.Proofs.Ytklaeofcpfggnaa
open Go Go.Mill
set_option maxRecDepth 100000
set_option linter.unusedSimpArgs false
set_option linter.unusedVariables false

/-- A triangle that is built. -/
theorem tri_c (d : List (List Int)) (a b c : Nat) (S : Store) (h0 h1 h2 t : Nat) (H0 : S[h0]? = some (.own [.int .i64 0, .int .i64 (at2 d a b), .int .i64 (at2 d a c)])) (H1 : S[h1]? = some (.own [.int .i64 (at2 d a b), .int .i64 0, .int .i64 (at2 d b c)]))
    (H2 : S[h2]? = some (.own [.int .i64 (at2 d a c), .int .i64 (at2 d b c), .int .i64 0])) (HT : S[t]? = some (.own [mk h0 3, mk h1 3, mk h2 3])) : ACalls Try.prog 23 [mk t 3] S (Ret S (.bool (spaceB (tri d a b c)))) :=
  iSpaceOk_c S _ _ _ (Mat.ofList (rd_own HT rfl) rfl (fun i hi => by
    match i, hi with
    | 0, _ => exact Ints.own (xs := [0, at2 d a b, at2 d a c]) H0 rfl
    | 1, _ => exact Ints.own (xs := [at2 d a b, 0, at2 d b c]) H1 rfl
    | 2, _ => exact Ints.own (xs := [at2 d a c, at2 d b c, 0]) H2 rfl)) (by simp [tri, maxLen])

theorem FnSpaceOk_c (S : Store) (v : Value) (xs : List Int) (hI : rd S v = some (xs.map (.int .u8))) (hx : xs.length ≤ maxLen) (hb : ∀ b ∈ xs, 0 ≤ b ∧ b ≤ 255) :
    ACalls Try.prog 10 [v] S fun u _ => u = .bool true := by
  refine ACalls.intro (ts := [2]) 97 follows Try.func10 rfl (by kernel_rfl) (by kernel_rfl) (by simp) ?_
  have hsl := rd_isSl hI
  have hlen : slen v = xs.length := by rw [rd_slen hI]; simp
  simp only [go_sem, ↓reduceIte, Nat.reduceEqDiff, argEnv, hsl, hlen]
  refine condK_dec (fun q1 h1 => ?_) (fun q1 h1 => ?_)
  · simp only [go_sem, ↓reduceIte, Nat.reduceEqDiff, h1]
  simp only [go_sem, ↓reduceIte, Nat.reduceEqDiff, h1]
  refine callK.intro (by kernel_rfl) (DrawSpaceOk_c S v xs hI hx hb) ?_
  rintro w S1 ⟨r, d, M1, E1, hd6, hr6⟩
  have hd : d.length ≤ maxLen := by have : (6 : Nat) ≤ maxLen := by decide
                                    omega
  have hN : d.length ≤ 9223372036854775807 := by omega
  simp only [go_sem, ↓reduceIte, Nat.reduceEqDiff]
  refine callK.intro (by kernel_rfl) (iSpaceOk_c _ _ _ _ M1 hd) ?_
  rintro _ _ ⟨rfl, rfl⟩
  simp only [go_sem, ↓reduceIte, Nat.reduceEqDiff]
  refine callK.intro (by kernel_rfl) (sSpaceOk_c _ _ _ _ M1 hd) ?_
  rintro _ _ ⟨rfl, rfl⟩
  simp only [go_sem, ↓reduceIte, Nat.reduceEqDiff]
  simp only [go_sem, ↓reduceIte, Nat.reduceEqDiff, bne_self_eq_false, Try.underlying4]
  refine callK.intro (by kernel_rfl) (sFarOk_c _ _ _ _ M1 hd) ?_
  rintro _ _ ⟨rfl, rfl⟩
  simp only [go_sem, ↓reduceIte, Nat.reduceEqDiff]
  cases hF : farB d with
  | false =>
    have hns : spaceB d = false := spaceB_no fun h => farB_not hF h.1
    simp only [go_sem, ↓reduceIte, Nat.reduceEqDiff, hns]
    refine callK.intro (by kernel_rfl) (alive_c _) ?_
    rintro _ _ ⟨rfl, -⟩
    simp only [go_sem, ↓reduceIte, Nat.reduceEqDiff]
  | true =>
    have hF := farB_is hF
    simp only [go_sem, ↓reduceIte, Nat.reduceEqDiff]
    have hsl := M1.sl
    have hlen := M1.len
    refine aw_count 6 [3, 4] (fun (y : Bool) => [(5, .bool y)]) (0) (d.length) (fun a y SS => Ext S1 SS ∧ (y = true ↔ ∀ a' b' c', a' < a → b' < a' → c' < b' → spaceB (tri d a' b' c') = true)) (true) ?_ ?_ ?_ ?_
    · simp only [go_sem, ↓reduceIte, Nat.reduceEqDiff, and_self, and_true, true_and, Int.ofNat_zero, Int.ofNat_one, Int.cast_ofNat_Int, hsl, hlen]
    · omega
    rotate_left
    rintro a y Sa ha0 ha ⟨E2, hy⟩
    simp only [go_sem, ↓reduceIte, Nat.reduceEqDiff, hsl, hlen]
    refine condK_lt ha (fun ha => ?_) (fun he => ?_)
    · have hNa : a ≤ 9223372036854775807 := by omega
      simp only [go_sem, ↓reduceIte, Nat.reduceEqDiff]
      refine aw_count 7 [3, 4, 6] (fun (y2 : Bool) => [(5, .bool y2)]) (0) (a) (fun b y2 SS => Ext S1 SS ∧ (y2 = true ↔ (∀ a' b' c', a' < a → b' < a' → c' < b' → spaceB (tri d a' b' c') = true) ∧ ∀ b' c', b' < b → c' < b' → spaceB (tri d a b' c') = true)) (y) ?_ ?_ ?_ ?_
      · simp only [go_sem, ↓reduceIte, Nat.reduceEqDiff, and_self, and_true, true_and, Int.ofNat_zero, Int.ofNat_one, Int.cast_ofNat_Int, hsl, hlen]
      · omega
      rotate_left
      rintro b y2 Sb hb0 hb ⟨E3, hy2⟩
      simp only [go_sem, ↓reduceIte, Nat.reduceEqDiff, hsl, hlen]
      refine condK_lt hb (fun hb => ?_) (fun he => ?_)
      · have hNb : b ≤ 9223372036854775807 := by omega
        simp only [go_sem, ↓reduceIte, Nat.reduceEqDiff]
        refine aw_count 8 [3, 4, 6, 7] (fun (y3 : Bool) => [(5, .bool y3)]) (0) (b) (fun c y3 SS => Ext S1 SS ∧ (y3 = true ↔ (∀ a' b' c', a' < a → b' < a' → c' < b' → spaceB (tri d a' b' c') = true) ∧ (∀ b' c', b' < b → c' < b' → spaceB (tri d a b' c') = true) ∧ ∀ c', c' < c → spaceB (tri d a b c') = true)) (y2) ?_ ?_ ?_ ?_
        · simp only [go_sem, ↓reduceIte, Nat.reduceEqDiff, and_self, and_true, true_and, Int.ofNat_zero, Int.ofNat_one, Int.cast_ofNat_Int, hsl, hlen]
        · omega
        rotate_left
        rintro c y3 Sc hc0 hc ⟨E4, hy3⟩
        simp only [go_sem, ↓reduceIte, Nat.reduceEqDiff, hsl, hlen]
        refine condK_lt hc (fun hc => ?_) (fun he => ?_)
        · have M4 := M1.ext E4
          have hrl := M4.sqlen hF.sq
          have hcl := M4.sqcell hF.sq
          have hb' : b < d.length := by omega
          have hc' : c < d.length := by omega
          have fin : ∀ (z : Bool) (S' : Store), Ext Sc S' → (z = true ↔ y3 = true ∧ spaceB (tri d a b c) = true) → Ext S1 S' ∧ (z = true ↔ (∀ a' b' c', a' < a → b' < a' → c' < b' → spaceB (tri d a' b' c') = true) ∧ (∀ b' c', b' < b → c' < b' → spaceB (tri d a b' c') = true) ∧ ∀ c', c' < c + 1 → spaceB (tri d a b c') = true) := fun z S' hE hz => by
            refine ⟨E4.trans hE, hz.trans ?_⟩
            rw [hy3]
            constructor
            · rintro ⟨⟨h1, h2, h3⟩, h4⟩
              refine ⟨h1, h2, fun c' hc' => ?_⟩
              rcases Nat.lt_or_ge c' c with h | h
              · exact h3 c' h
              · obtain rfl : c' = c := by omega
                exact h4
            · rintro ⟨h1, h2, h3⟩
              exact ⟨⟨h1, h2, fun c' hc' => h3 c' (by omega)⟩, h3 c (by omega)⟩
          clear hy3
          cases y3 with
          | false =>
            refine draw_mix [true, true, true, true, true, true, true, true, true, true, true, true, true, true, true, true, false, true, true, true, true, true, true, true, true, true, true, true, true, true, true, false, true, true, true, true, true, true, true, true, true, true, true, true, true, true] 7 ?_ (by kernel_rfl)
            simp only [go_sem, ↓reduceIte, Nat.reduceEqDiff]
            refine anyW_three 16 31 46 (by kernel_rfl) ?_ ?_ ?_
            · simp only [go_sem, ↓reduceIte, Nat.reduceEqDiff]
              refine andK_intro (by first | exact Ext.refl _ | exact Ext.append _ _ | exact (Ext.append _ _).app _ | exact ((Ext.append _ _).app _).app _ | exact (((Ext.append _ _).app _).app _).app _) ?_
              refine anyW_two 31 46 (by kernel_rfl) ?_ ?_
              · simp only [go_sem, ↓reduceIte, Nat.reduceEqDiff]
                refine andK_intro (by first | exact Ext.refl _ | exact Ext.append _ _ | exact (Ext.append _ _).app _ | exact ((Ext.append _ _).app _).app _ | exact (((Ext.append _ _).app _).app _).app _) ?_
                refine anyW_one 46 (by kernel_rfl) ?_
                simp only [go_sem, ↓reduceIte, Nat.reduceEqDiff]
                refine andK_intro (by first | exact Ext.refl _ | exact Ext.append _ _ | exact (Ext.append _ _).app _ | exact ((Ext.append _ _).app _).app _ | exact (((Ext.append _ _).app _).app _).app _) ?_
                refine anyW_one 47 (by kernel_rfl) ?_
                simp only [go_sem, ↓reduceIte, Nat.reduceEqDiff]
                refine andK_intro (by first | exact Ext.refl _ | exact Ext.append _ _ | exact (Ext.append _ _).app _ | exact ((Ext.append _ _).app _).app _ | exact (((Ext.append _ _).app _).app _).app _) ?_
                refine anyW_one 48 (by kernel_rfl) ?_
                simp only [go_sem, ↓reduceIte, Nat.reduceEqDiff]
                refine andK_intro (by first | exact Ext.refl _ | exact Ext.append _ _ | exact (Ext.append _ _).app _ | exact ((Ext.append _ _).app _).app _ | exact (((Ext.append _ _).app _).app _).app _) ?_
                refine anyW_one 49 (by kernel_rfl) ?_
                simp only [go_sem, ↓reduceIte, Nat.reduceEqDiff]
                refine andK_intro (by first | exact Ext.refl _ | exact Ext.append _ _ | exact (Ext.append _ _).app _ | exact ((Ext.append _ _).app _).app _ | exact (((Ext.append _ _).app _).app _).app _) ?_
                refine anyW_one 50 (by kernel_rfl) ?_
                simp only [go_sem, ↓reduceIte, Nat.reduceEqDiff]
                refine andK_intro (by first | exact Ext.refl _ | exact Ext.append _ _ | exact (Ext.append _ _).app _ | exact ((Ext.append _ _).app _).app _ | exact (((Ext.append _ _).app _).app _).app _) ?_
                refine anyW_done (by kernel_rfl) ?_
                simp only [go_sem, ↓reduceIte, Nat.reduceEqDiff]
                refine forK_step (false) hc hc0 ?_ ?_
                · have hib := Nat.lt_of_lt_of_le hc hNb; simp only [go_sem, ↓reduceIte, Nat.reduceEqDiff, and_self, and_true, true_and, Int.ofNat_zero, Int.ofNat_one, Int.cast_ofNat_Int, wrap_succ hib]
                exact fin _ _ (by first | exact Ext.refl _ | exact Ext.append _ _ | exact (Ext.append _ _).app _ | exact ((Ext.append _ _).app _).app _ | exact (((Ext.append _ _).app _).app _).app _) (by simp)
              · simp only [go_sem, ↓reduceIte, Nat.reduceEqDiff]
                refine andK_intro (by first | exact Ext.refl _ | exact Ext.append _ _ | exact (Ext.append _ _).app _ | exact ((Ext.append _ _).app _).app _ | exact (((Ext.append _ _).app _).app _).app _) ?_
                refine anyW_one 31 (by kernel_rfl) ?_
                simp only [go_sem, ↓reduceIte, Nat.reduceEqDiff]
                refine andK_intro (by first | exact Ext.refl _ | exact Ext.append _ _ | exact (Ext.append _ _).app _ | exact ((Ext.append _ _).app _).app _ | exact (((Ext.append _ _).app _).app _).app _) ?_
                refine anyW_one 47 (by kernel_rfl) ?_
                simp only [go_sem, ↓reduceIte, Nat.reduceEqDiff]
                refine andK_intro (by first | exact Ext.refl _ | exact Ext.append _ _ | exact (Ext.append _ _).app _ | exact ((Ext.append _ _).app _).app _ | exact (((Ext.append _ _).app _).app _).app _) ?_
                refine anyW_one 48 (by kernel_rfl) ?_
                simp only [go_sem, ↓reduceIte, Nat.reduceEqDiff]
                refine andK_intro (by first | exact Ext.refl _ | exact Ext.append _ _ | exact (Ext.append _ _).app _ | exact ((Ext.append _ _).app _).app _ | exact (((Ext.append _ _).app _).app _).app _) ?_
                refine anyW_one 49 (by kernel_rfl) ?_
                simp only [go_sem, ↓reduceIte, Nat.reduceEqDiff]
                refine andK_intro (by first | exact Ext.refl _ | exact Ext.append _ _ | exact (Ext.append _ _).app _ | exact ((Ext.append _ _).app _).app _ | exact (((Ext.append _ _).app _).app _).app _) ?_
                refine anyW_one 50 (by kernel_rfl) ?_
                simp only [go_sem, ↓reduceIte, Nat.reduceEqDiff]
                refine andK_intro (by first | exact Ext.refl _ | exact Ext.append _ _ | exact (Ext.append _ _).app _ | exact ((Ext.append _ _).app _).app _ | exact (((Ext.append _ _).app _).app _).app _) ?_
                refine anyW_done (by kernel_rfl) ?_
                simp only [go_sem, ↓reduceIte, Nat.reduceEqDiff]
                refine forK_step (false) hc hc0 ?_ ?_
                · have hib := Nat.lt_of_lt_of_le hc hNb; simp only [go_sem, ↓reduceIte, Nat.reduceEqDiff, and_self, and_true, true_and, Int.ofNat_zero, Int.ofNat_one, Int.cast_ofNat_Int, wrap_succ hib]
                exact fin _ _ (by first | exact Ext.refl _ | exact Ext.append _ _ | exact (Ext.append _ _).app _ | exact ((Ext.append _ _).app _).app _ | exact (((Ext.append _ _).app _).app _).app _) (by simp)
            · simp only [go_sem, ↓reduceIte, Nat.reduceEqDiff]
              refine andK_intro (by first | exact Ext.refl _ | exact Ext.append _ _ | exact (Ext.append _ _).app _ | exact ((Ext.append _ _).app _).app _ | exact (((Ext.append _ _).app _).app _).app _) ?_
              refine anyW_two 16 46 (by kernel_rfl) ?_ ?_
              · simp only [go_sem, ↓reduceIte, Nat.reduceEqDiff]
                refine andK_intro (by first | exact Ext.refl _ | exact Ext.append _ _ | exact (Ext.append _ _).app _ | exact ((Ext.append _ _).app _).app _ | exact (((Ext.append _ _).app _).app _).app _) ?_
                refine anyW_one 46 (by kernel_rfl) ?_
                simp only [go_sem, ↓reduceIte, Nat.reduceEqDiff]
                refine andK_intro (by first | exact Ext.refl _ | exact Ext.append _ _ | exact (Ext.append _ _).app _ | exact ((Ext.append _ _).app _).app _ | exact (((Ext.append _ _).app _).app _).app _) ?_
                refine anyW_one 47 (by kernel_rfl) ?_
                simp only [go_sem, ↓reduceIte, Nat.reduceEqDiff]
                refine andK_intro (by first | exact Ext.refl _ | exact Ext.append _ _ | exact (Ext.append _ _).app _ | exact ((Ext.append _ _).app _).app _ | exact (((Ext.append _ _).app _).app _).app _) ?_
                refine anyW_one 48 (by kernel_rfl) ?_
                simp only [go_sem, ↓reduceIte, Nat.reduceEqDiff]
                refine andK_intro (by first | exact Ext.refl _ | exact Ext.append _ _ | exact (Ext.append _ _).app _ | exact ((Ext.append _ _).app _).app _ | exact (((Ext.append _ _).app _).app _).app _) ?_
                refine anyW_one 49 (by kernel_rfl) ?_
                simp only [go_sem, ↓reduceIte, Nat.reduceEqDiff]
                refine andK_intro (by first | exact Ext.refl _ | exact Ext.append _ _ | exact (Ext.append _ _).app _ | exact ((Ext.append _ _).app _).app _ | exact (((Ext.append _ _).app _).app _).app _) ?_
                refine anyW_one 50 (by kernel_rfl) ?_
                simp only [go_sem, ↓reduceIte, Nat.reduceEqDiff]
                refine andK_intro (by first | exact Ext.refl _ | exact Ext.append _ _ | exact (Ext.append _ _).app _ | exact ((Ext.append _ _).app _).app _ | exact (((Ext.append _ _).app _).app _).app _) ?_
                refine anyW_done (by kernel_rfl) ?_
                simp only [go_sem, ↓reduceIte, Nat.reduceEqDiff]
                refine forK_step (false) hc hc0 ?_ ?_
                · have hib := Nat.lt_of_lt_of_le hc hNb; simp only [go_sem, ↓reduceIte, Nat.reduceEqDiff, and_self, and_true, true_and, Int.ofNat_zero, Int.ofNat_one, Int.cast_ofNat_Int, wrap_succ hib]
                exact fin _ _ (by first | exact Ext.refl _ | exact Ext.append _ _ | exact (Ext.append _ _).app _ | exact ((Ext.append _ _).app _).app _ | exact (((Ext.append _ _).app _).app _).app _) (by simp)
              · simp only [go_sem, ↓reduceIte, Nat.reduceEqDiff]
                refine andK_intro (by first | exact Ext.refl _ | exact Ext.append _ _ | exact (Ext.append _ _).app _ | exact ((Ext.append _ _).app _).app _ | exact (((Ext.append _ _).app _).app _).app _) ?_
                refine anyW_one 16 (by kernel_rfl) ?_
                simp only [go_sem, ↓reduceIte, Nat.reduceEqDiff]
                refine andK_intro (by first | exact Ext.refl _ | exact Ext.append _ _ | exact (Ext.append _ _).app _ | exact ((Ext.append _ _).app _).app _ | exact (((Ext.append _ _).app _).app _).app _) ?_
                refine anyW_one 47 (by kernel_rfl) ?_
                simp only [go_sem, ↓reduceIte, Nat.reduceEqDiff]
                refine andK_intro (by first | exact Ext.refl _ | exact Ext.append _ _ | exact (Ext.append _ _).app _ | exact ((Ext.append _ _).app _).app _ | exact (((Ext.append _ _).app _).app _).app _) ?_
                refine anyW_one 48 (by kernel_rfl) ?_
                simp only [go_sem, ↓reduceIte, Nat.reduceEqDiff]
                refine andK_intro (by first | exact Ext.refl _ | exact Ext.append _ _ | exact (Ext.append _ _).app _ | exact ((Ext.append _ _).app _).app _ | exact (((Ext.append _ _).app _).app _).app _) ?_
                refine anyW_one 49 (by kernel_rfl) ?_
                simp only [go_sem, ↓reduceIte, Nat.reduceEqDiff]
                refine andK_intro (by first | exact Ext.refl _ | exact Ext.append _ _ | exact (Ext.append _ _).app _ | exact ((Ext.append _ _).app _).app _ | exact (((Ext.append _ _).app _).app _).app _) ?_
                refine anyW_one 50 (by kernel_rfl) ?_
                simp only [go_sem, ↓reduceIte, Nat.reduceEqDiff]
                refine andK_intro (by first | exact Ext.refl _ | exact Ext.append _ _ | exact (Ext.append _ _).app _ | exact ((Ext.append _ _).app _).app _ | exact (((Ext.append _ _).app _).app _).app _) ?_
                refine anyW_done (by kernel_rfl) ?_
                simp only [go_sem, ↓reduceIte, Nat.reduceEqDiff]
                refine forK_step (false) hc hc0 ?_ ?_
                · have hib := Nat.lt_of_lt_of_le hc hNb; simp only [go_sem, ↓reduceIte, Nat.reduceEqDiff, and_self, and_true, true_and, Int.ofNat_zero, Int.ofNat_one, Int.cast_ofNat_Int, wrap_succ hib]
                exact fin _ _ (by first | exact Ext.refl _ | exact Ext.append _ _ | exact (Ext.append _ _).app _ | exact ((Ext.append _ _).app _).app _ | exact (((Ext.append _ _).app _).app _).app _) (by simp)
            · simp only [go_sem, ↓reduceIte, Nat.reduceEqDiff]
              refine andK_intro (by first | exact Ext.refl _ | exact Ext.append _ _ | exact (Ext.append _ _).app _ | exact ((Ext.append _ _).app _).app _ | exact (((Ext.append _ _).app _).app _).app _) ?_
              refine anyW_two 16 31 (by kernel_rfl) ?_ ?_
              · simp only [go_sem, ↓reduceIte, Nat.reduceEqDiff]
                refine andK_intro (by first | exact Ext.refl _ | exact Ext.append _ _ | exact (Ext.append _ _).app _ | exact ((Ext.append _ _).app _).app _ | exact (((Ext.append _ _).app _).app _).app _) ?_
                refine anyW_one 31 (by kernel_rfl) ?_
                simp only [go_sem, ↓reduceIte, Nat.reduceEqDiff]
                refine andK_intro (by first | exact Ext.refl _ | exact Ext.append _ _ | exact (Ext.append _ _).app _ | exact ((Ext.append _ _).app _).app _ | exact (((Ext.append _ _).app _).app _).app _) ?_
                refine anyW_one 47 (by kernel_rfl) ?_
                simp only [go_sem, ↓reduceIte, Nat.reduceEqDiff]
                refine andK_intro (by first | exact Ext.refl _ | exact Ext.append _ _ | exact (Ext.append _ _).app _ | exact ((Ext.append _ _).app _).app _ | exact (((Ext.append _ _).app _).app _).app _) ?_
                refine anyW_one 48 (by kernel_rfl) ?_
                simp only [go_sem, ↓reduceIte, Nat.reduceEqDiff]
                refine andK_intro (by first | exact Ext.refl _ | exact Ext.append _ _ | exact (Ext.append _ _).app _ | exact ((Ext.append _ _).app _).app _ | exact (((Ext.append _ _).app _).app _).app _) ?_
                refine anyW_one 49 (by kernel_rfl) ?_
                simp only [go_sem, ↓reduceIte, Nat.reduceEqDiff]
                refine andK_intro (by first | exact Ext.refl _ | exact Ext.append _ _ | exact (Ext.append _ _).app _ | exact ((Ext.append _ _).app _).app _ | exact (((Ext.append _ _).app _).app _).app _) ?_
                refine anyW_one 50 (by kernel_rfl) ?_
                simp only [go_sem, ↓reduceIte, Nat.reduceEqDiff]
                refine andK_intro (by first | exact Ext.refl _ | exact Ext.append _ _ | exact (Ext.append _ _).app _ | exact ((Ext.append _ _).app _).app _ | exact (((Ext.append _ _).app _).app _).app _) ?_
                refine anyW_done (by kernel_rfl) ?_
                simp only [go_sem, ↓reduceIte, Nat.reduceEqDiff]
                refine forK_step (false) hc hc0 ?_ ?_
                · have hib := Nat.lt_of_lt_of_le hc hNb; simp only [go_sem, ↓reduceIte, Nat.reduceEqDiff, and_self, and_true, true_and, Int.ofNat_zero, Int.ofNat_one, Int.cast_ofNat_Int, wrap_succ hib]
                exact fin _ _ (by first | exact Ext.refl _ | exact Ext.append _ _ | exact (Ext.append _ _).app _ | exact ((Ext.append _ _).app _).app _ | exact (((Ext.append _ _).app _).app _).app _) (by simp)
              · simp only [go_sem, ↓reduceIte, Nat.reduceEqDiff]
                refine andK_intro (by first | exact Ext.refl _ | exact Ext.append _ _ | exact (Ext.append _ _).app _ | exact ((Ext.append _ _).app _).app _ | exact (((Ext.append _ _).app _).app _).app _) ?_
                refine anyW_one 16 (by kernel_rfl) ?_
                simp only [go_sem, ↓reduceIte, Nat.reduceEqDiff]
                refine andK_intro (by first | exact Ext.refl _ | exact Ext.append _ _ | exact (Ext.append _ _).app _ | exact ((Ext.append _ _).app _).app _ | exact (((Ext.append _ _).app _).app _).app _) ?_
                refine anyW_one 47 (by kernel_rfl) ?_
                simp only [go_sem, ↓reduceIte, Nat.reduceEqDiff]
                refine andK_intro (by first | exact Ext.refl _ | exact Ext.append _ _ | exact (Ext.append _ _).app _ | exact ((Ext.append _ _).app _).app _ | exact (((Ext.append _ _).app _).app _).app _) ?_
                refine anyW_one 48 (by kernel_rfl) ?_
                simp only [go_sem, ↓reduceIte, Nat.reduceEqDiff]
                refine andK_intro (by first | exact Ext.refl _ | exact Ext.append _ _ | exact (Ext.append _ _).app _ | exact ((Ext.append _ _).app _).app _ | exact (((Ext.append _ _).app _).app _).app _) ?_
                refine anyW_one 49 (by kernel_rfl) ?_
                simp only [go_sem, ↓reduceIte, Nat.reduceEqDiff]
                refine andK_intro (by first | exact Ext.refl _ | exact Ext.append _ _ | exact (Ext.append _ _).app _ | exact ((Ext.append _ _).app _).app _ | exact (((Ext.append _ _).app _).app _).app _) ?_
                refine anyW_one 50 (by kernel_rfl) ?_
                simp only [go_sem, ↓reduceIte, Nat.reduceEqDiff]
                refine andK_intro (by first | exact Ext.refl _ | exact Ext.append _ _ | exact (Ext.append _ _).app _ | exact ((Ext.append _ _).app _).app _ | exact (((Ext.append _ _).app _).app _).app _) ?_
                refine anyW_done (by kernel_rfl) ?_
                simp only [go_sem, ↓reduceIte, Nat.reduceEqDiff]
                refine forK_step (false) hc hc0 ?_ ?_
                · have hib := Nat.lt_of_lt_of_le hc hNb; simp only [go_sem, ↓reduceIte, Nat.reduceEqDiff, and_self, and_true, true_and, Int.ofNat_zero, Int.ofNat_one, Int.cast_ofNat_Int, wrap_succ hib]
                exact fin _ _ (by first | exact Ext.refl _ | exact Ext.append _ _ | exact (Ext.append _ _).app _ | exact ((Ext.append _ _).app _).app _ | exact (((Ext.append _ _).app _).app _).app _) (by simp)
          | true =>
            refine draw_mix [true, true, true, true, true, true, true, true, true, true, true, true, true, true, true, true, false, true, true, true, true, true, true, true, true, true, true, true, true, true, true, false, true, true, true, true, true, true, true, true, true, true, true, true, true, true] 7 ?_ (by kernel_rfl)
            simp only [go_sem, ↓reduceIte, Nat.reduceEqDiff, hsl, hlen, ha, hb', hc', M4.get, M4.rsl, hrl, hcl]
            refine anyW_three 16 31 46 (by kernel_rfl) ?_ ?_ ?_
            · simp only [go_sem, ↓reduceIte, Nat.reduceEqDiff]
              refine andK_intro (by first | exact Ext.refl _ | exact Ext.append _ _ | exact (Ext.append _ _).app _ | exact ((Ext.append _ _).app _).app _ | exact (((Ext.append _ _).app _).app _).app _) ?_
              refine anyW_two 31 46 (by kernel_rfl) ?_ ?_
              · simp only [go_sem, ↓reduceIte, Nat.reduceEqDiff]
                refine andK_intro (by first | exact Ext.refl _ | exact Ext.append _ _ | exact (Ext.append _ _).app _ | exact ((Ext.append _ _).app _).app _ | exact (((Ext.append _ _).app _).app _).app _) ?_
                refine anyW_one 46 (by kernel_rfl) ?_
                simp only [go_sem, ↓reduceIte, Nat.reduceEqDiff]
                refine andK_intro (by first | exact Ext.refl _ | exact Ext.append _ _ | exact (Ext.append _ _).app _ | exact ((Ext.append _ _).app _).app _ | exact (((Ext.append _ _).app _).app _).app _) ?_
                refine anyW_one 47 (by kernel_rfl) ?_
                simp only [go_sem, ↓reduceIte, Nat.reduceEqDiff]
                refine andK_intro (by first | exact Ext.refl _ | exact Ext.append _ _ | exact (Ext.append _ _).app _ | exact ((Ext.append _ _).app _).app _ | exact (((Ext.append _ _).app _).app _).app _) ?_
                refine anyW_one 48 (by kernel_rfl) ?_
                simp only [go_sem, ↓reduceIte, Nat.reduceEqDiff]
                refine callK.intro (by kernel_rfl) (tri_c d a b c _ _ _ _ _ (by first | exact own_last | exact own_app own_last | exact own_app (own_app own_last) | exact own_app (own_app (own_app own_last))) (by first | exact own_last | exact own_app own_last | exact own_app (own_app own_last) | exact own_app (own_app (own_app own_last))) (by first | exact own_last | exact own_app own_last | exact own_app (own_app own_last) | exact own_app (own_app (own_app own_last))) (by first | exact own_last | exact own_app own_last | exact own_app (own_app own_last) | exact own_app (own_app (own_app own_last)))) ?_
                rintro _ _ ⟨rfl, rfl⟩
                simp only [go_sem, ↓reduceIte, Nat.reduceEqDiff]
                refine andK_intro (by first | exact Ext.refl _ | exact Ext.append _ _ | exact (Ext.append _ _).app _ | exact ((Ext.append _ _).app _).app _ | exact (((Ext.append _ _).app _).app _).app _) ?_
                refine anyW_one 49 (by kernel_rfl) ?_
                simp only [go_sem, ↓reduceIte, Nat.reduceEqDiff]
                refine andK_intro (by first | exact Ext.refl _ | exact Ext.append _ _ | exact (Ext.append _ _).app _ | exact ((Ext.append _ _).app _).app _ | exact (((Ext.append _ _).app _).app _).app _) ?_
                refine anyW_one 50 (by kernel_rfl) ?_
                simp only [go_sem, ↓reduceIte, Nat.reduceEqDiff]
                refine andK_intro (by first | exact Ext.refl _ | exact Ext.append _ _ | exact (Ext.append _ _).app _ | exact ((Ext.append _ _).app _).app _ | exact (((Ext.append _ _).app _).app _).app _) ?_
                refine anyW_done (by kernel_rfl) ?_
                simp only [go_sem, ↓reduceIte, Nat.reduceEqDiff]
                refine forK_step (spaceB (tri d a b c)) hc hc0 ?_ ?_
                · have hib := Nat.lt_of_lt_of_le hc hNb; simp only [go_sem, ↓reduceIte, Nat.reduceEqDiff, and_self, and_true, true_and, Int.ofNat_zero, Int.ofNat_one, Int.cast_ofNat_Int, wrap_succ hib]
                exact fin _ _ (by first | exact Ext.refl _ | exact Ext.append _ _ | exact (Ext.append _ _).app _ | exact ((Ext.append _ _).app _).app _ | exact (((Ext.append _ _).app _).app _).app _) (by simp)
              · simp only [go_sem, ↓reduceIte, Nat.reduceEqDiff]
                refine andK_intro (by first | exact Ext.refl _ | exact Ext.append _ _ | exact (Ext.append _ _).app _ | exact ((Ext.append _ _).app _).app _ | exact (((Ext.append _ _).app _).app _).app _) ?_
                refine anyW_one 31 (by kernel_rfl) ?_
                simp only [go_sem, ↓reduceIte, Nat.reduceEqDiff]
                refine andK_intro (by first | exact Ext.refl _ | exact Ext.append _ _ | exact (Ext.append _ _).app _ | exact ((Ext.append _ _).app _).app _ | exact (((Ext.append _ _).app _).app _).app _) ?_
                refine anyW_one 47 (by kernel_rfl) ?_
                simp only [go_sem, ↓reduceIte, Nat.reduceEqDiff]
                refine andK_intro (by first | exact Ext.refl _ | exact Ext.append _ _ | exact (Ext.append _ _).app _ | exact ((Ext.append _ _).app _).app _ | exact (((Ext.append _ _).app _).app _).app _) ?_
                refine anyW_one 48 (by kernel_rfl) ?_
                simp only [go_sem, ↓reduceIte, Nat.reduceEqDiff]
                refine callK.intro (by kernel_rfl) (tri_c d a b c _ _ _ _ _ (by first | exact own_last | exact own_app own_last | exact own_app (own_app own_last) | exact own_app (own_app (own_app own_last))) (by first | exact own_last | exact own_app own_last | exact own_app (own_app own_last) | exact own_app (own_app (own_app own_last))) (by first | exact own_last | exact own_app own_last | exact own_app (own_app own_last) | exact own_app (own_app (own_app own_last))) (by first | exact own_last | exact own_app own_last | exact own_app (own_app own_last) | exact own_app (own_app (own_app own_last)))) ?_
                rintro _ _ ⟨rfl, rfl⟩
                simp only [go_sem, ↓reduceIte, Nat.reduceEqDiff]
                refine andK_intro (by first | exact Ext.refl _ | exact Ext.append _ _ | exact (Ext.append _ _).app _ | exact ((Ext.append _ _).app _).app _ | exact (((Ext.append _ _).app _).app _).app _) ?_
                refine anyW_one 49 (by kernel_rfl) ?_
                simp only [go_sem, ↓reduceIte, Nat.reduceEqDiff]
                refine andK_intro (by first | exact Ext.refl _ | exact Ext.append _ _ | exact (Ext.append _ _).app _ | exact ((Ext.append _ _).app _).app _ | exact (((Ext.append _ _).app _).app _).app _) ?_
                refine anyW_one 50 (by kernel_rfl) ?_
                simp only [go_sem, ↓reduceIte, Nat.reduceEqDiff]
                refine andK_intro (by first | exact Ext.refl _ | exact Ext.append _ _ | exact (Ext.append _ _).app _ | exact ((Ext.append _ _).app _).app _ | exact (((Ext.append _ _).app _).app _).app _) ?_
                refine anyW_done (by kernel_rfl) ?_
                simp only [go_sem, ↓reduceIte, Nat.reduceEqDiff]
                refine forK_step (spaceB (tri d a b c)) hc hc0 ?_ ?_
                · have hib := Nat.lt_of_lt_of_le hc hNb; simp only [go_sem, ↓reduceIte, Nat.reduceEqDiff, and_self, and_true, true_and, Int.ofNat_zero, Int.ofNat_one, Int.cast_ofNat_Int, wrap_succ hib]
                exact fin _ _ (by first | exact Ext.refl _ | exact Ext.append _ _ | exact (Ext.append _ _).app _ | exact ((Ext.append _ _).app _).app _ | exact (((Ext.append _ _).app _).app _).app _) (by simp)
            · simp only [go_sem, ↓reduceIte, Nat.reduceEqDiff]
              refine andK_intro (by first | exact Ext.refl _ | exact Ext.append _ _ | exact (Ext.append _ _).app _ | exact ((Ext.append _ _).app _).app _ | exact (((Ext.append _ _).app _).app _).app _) ?_
              refine anyW_two 16 46 (by kernel_rfl) ?_ ?_
              · simp only [go_sem, ↓reduceIte, Nat.reduceEqDiff]
                refine andK_intro (by first | exact Ext.refl _ | exact Ext.append _ _ | exact (Ext.append _ _).app _ | exact ((Ext.append _ _).app _).app _ | exact (((Ext.append _ _).app _).app _).app _) ?_
                refine anyW_one 46 (by kernel_rfl) ?_
                simp only [go_sem, ↓reduceIte, Nat.reduceEqDiff]
                refine andK_intro (by first | exact Ext.refl _ | exact Ext.append _ _ | exact (Ext.append _ _).app _ | exact ((Ext.append _ _).app _).app _ | exact (((Ext.append _ _).app _).app _).app _) ?_
                refine anyW_one 47 (by kernel_rfl) ?_
                simp only [go_sem, ↓reduceIte, Nat.reduceEqDiff]
                refine andK_intro (by first | exact Ext.refl _ | exact Ext.append _ _ | exact (Ext.append _ _).app _ | exact ((Ext.append _ _).app _).app _ | exact (((Ext.append _ _).app _).app _).app _) ?_
                refine anyW_one 48 (by kernel_rfl) ?_
                simp only [go_sem, ↓reduceIte, Nat.reduceEqDiff]
                refine callK.intro (by kernel_rfl) (tri_c d a b c _ _ _ _ _ (by first | exact own_last | exact own_app own_last | exact own_app (own_app own_last) | exact own_app (own_app (own_app own_last))) (by first | exact own_last | exact own_app own_last | exact own_app (own_app own_last) | exact own_app (own_app (own_app own_last))) (by first | exact own_last | exact own_app own_last | exact own_app (own_app own_last) | exact own_app (own_app (own_app own_last))) (by first | exact own_last | exact own_app own_last | exact own_app (own_app own_last) | exact own_app (own_app (own_app own_last)))) ?_
                rintro _ _ ⟨rfl, rfl⟩
                simp only [go_sem, ↓reduceIte, Nat.reduceEqDiff]
                refine andK_intro (by first | exact Ext.refl _ | exact Ext.append _ _ | exact (Ext.append _ _).app _ | exact ((Ext.append _ _).app _).app _ | exact (((Ext.append _ _).app _).app _).app _) ?_
                refine anyW_one 49 (by kernel_rfl) ?_
                simp only [go_sem, ↓reduceIte, Nat.reduceEqDiff]
                refine andK_intro (by first | exact Ext.refl _ | exact Ext.append _ _ | exact (Ext.append _ _).app _ | exact ((Ext.append _ _).app _).app _ | exact (((Ext.append _ _).app _).app _).app _) ?_
                refine anyW_one 50 (by kernel_rfl) ?_
                simp only [go_sem, ↓reduceIte, Nat.reduceEqDiff]
                refine andK_intro (by first | exact Ext.refl _ | exact Ext.append _ _ | exact (Ext.append _ _).app _ | exact ((Ext.append _ _).app _).app _ | exact (((Ext.append _ _).app _).app _).app _) ?_
                refine anyW_done (by kernel_rfl) ?_
                simp only [go_sem, ↓reduceIte, Nat.reduceEqDiff]
                refine forK_step (spaceB (tri d a b c)) hc hc0 ?_ ?_
                · have hib := Nat.lt_of_lt_of_le hc hNb; simp only [go_sem, ↓reduceIte, Nat.reduceEqDiff, and_self, and_true, true_and, Int.ofNat_zero, Int.ofNat_one, Int.cast_ofNat_Int, wrap_succ hib]
                exact fin _ _ (by first | exact Ext.refl _ | exact Ext.append _ _ | exact (Ext.append _ _).app _ | exact ((Ext.append _ _).app _).app _ | exact (((Ext.append _ _).app _).app _).app _) (by simp)
              · simp only [go_sem, ↓reduceIte, Nat.reduceEqDiff]
                refine andK_intro (by first | exact Ext.refl _ | exact Ext.append _ _ | exact (Ext.append _ _).app _ | exact ((Ext.append _ _).app _).app _ | exact (((Ext.append _ _).app _).app _).app _) ?_
                refine anyW_one 16 (by kernel_rfl) ?_
                simp only [go_sem, ↓reduceIte, Nat.reduceEqDiff]
                refine andK_intro (by first | exact Ext.refl _ | exact Ext.append _ _ | exact (Ext.append _ _).app _ | exact ((Ext.append _ _).app _).app _ | exact (((Ext.append _ _).app _).app _).app _) ?_
                refine anyW_one 47 (by kernel_rfl) ?_
                simp only [go_sem, ↓reduceIte, Nat.reduceEqDiff]
                refine andK_intro (by first | exact Ext.refl _ | exact Ext.append _ _ | exact (Ext.append _ _).app _ | exact ((Ext.append _ _).app _).app _ | exact (((Ext.append _ _).app _).app _).app _) ?_
                refine anyW_one 48 (by kernel_rfl) ?_
                simp only [go_sem, ↓reduceIte, Nat.reduceEqDiff]
                refine callK.intro (by kernel_rfl) (tri_c d a b c _ _ _ _ _ (by first | exact own_last | exact own_app own_last | exact own_app (own_app own_last) | exact own_app (own_app (own_app own_last))) (by first | exact own_last | exact own_app own_last | exact own_app (own_app own_last) | exact own_app (own_app (own_app own_last))) (by first | exact own_last | exact own_app own_last | exact own_app (own_app own_last) | exact own_app (own_app (own_app own_last))) (by first | exact own_last | exact own_app own_last | exact own_app (own_app own_last) | exact own_app (own_app (own_app own_last)))) ?_
                rintro _ _ ⟨rfl, rfl⟩
                simp only [go_sem, ↓reduceIte, Nat.reduceEqDiff]
                refine andK_intro (by first | exact Ext.refl _ | exact Ext.append _ _ | exact (Ext.append _ _).app _ | exact ((Ext.append _ _).app _).app _ | exact (((Ext.append _ _).app _).app _).app _) ?_
                refine anyW_one 49 (by kernel_rfl) ?_
                simp only [go_sem, ↓reduceIte, Nat.reduceEqDiff]
                refine andK_intro (by first | exact Ext.refl _ | exact Ext.append _ _ | exact (Ext.append _ _).app _ | exact ((Ext.append _ _).app _).app _ | exact (((Ext.append _ _).app _).app _).app _) ?_
                refine anyW_one 50 (by kernel_rfl) ?_
                simp only [go_sem, ↓reduceIte, Nat.reduceEqDiff]
                refine andK_intro (by first | exact Ext.refl _ | exact Ext.append _ _ | exact (Ext.append _ _).app _ | exact ((Ext.append _ _).app _).app _ | exact (((Ext.append _ _).app _).app _).app _) ?_
                refine anyW_done (by kernel_rfl) ?_
                simp only [go_sem, ↓reduceIte, Nat.reduceEqDiff]
                refine forK_step (spaceB (tri d a b c)) hc hc0 ?_ ?_
                · have hib := Nat.lt_of_lt_of_le hc hNb; simp only [go_sem, ↓reduceIte, Nat.reduceEqDiff, and_self, and_true, true_and, Int.ofNat_zero, Int.ofNat_one, Int.cast_ofNat_Int, wrap_succ hib]
                exact fin _ _ (by first | exact Ext.refl _ | exact Ext.append _ _ | exact (Ext.append _ _).app _ | exact ((Ext.append _ _).app _).app _ | exact (((Ext.append _ _).app _).app _).app _) (by simp)
            · simp only [go_sem, ↓reduceIte, Nat.reduceEqDiff]
              refine andK_intro (by first | exact Ext.refl _ | exact Ext.append _ _ | exact (Ext.append _ _).app _ | exact ((Ext.append _ _).app _).app _ | exact (((Ext.append _ _).app _).app _).app _) ?_
              refine anyW_two 16 31 (by kernel_rfl) ?_ ?_
              · simp only [go_sem, ↓reduceIte, Nat.reduceEqDiff]
                refine andK_intro (by first | exact Ext.refl _ | exact Ext.append _ _ | exact (Ext.append _ _).app _ | exact ((Ext.append _ _).app _).app _ | exact (((Ext.append _ _).app _).app _).app _) ?_
                refine anyW_one 31 (by kernel_rfl) ?_
                simp only [go_sem, ↓reduceIte, Nat.reduceEqDiff]
                refine andK_intro (by first | exact Ext.refl _ | exact Ext.append _ _ | exact (Ext.append _ _).app _ | exact ((Ext.append _ _).app _).app _ | exact (((Ext.append _ _).app _).app _).app _) ?_
                refine anyW_one 47 (by kernel_rfl) ?_
                simp only [go_sem, ↓reduceIte, Nat.reduceEqDiff]
                refine andK_intro (by first | exact Ext.refl _ | exact Ext.append _ _ | exact (Ext.append _ _).app _ | exact ((Ext.append _ _).app _).app _ | exact (((Ext.append _ _).app _).app _).app _) ?_
                refine anyW_one 48 (by kernel_rfl) ?_
                simp only [go_sem, ↓reduceIte, Nat.reduceEqDiff]
                refine callK.intro (by kernel_rfl) (tri_c d a b c _ _ _ _ _ (by first | exact own_last | exact own_app own_last | exact own_app (own_app own_last) | exact own_app (own_app (own_app own_last))) (by first | exact own_last | exact own_app own_last | exact own_app (own_app own_last) | exact own_app (own_app (own_app own_last))) (by first | exact own_last | exact own_app own_last | exact own_app (own_app own_last) | exact own_app (own_app (own_app own_last))) (by first | exact own_last | exact own_app own_last | exact own_app (own_app own_last) | exact own_app (own_app (own_app own_last)))) ?_
                rintro _ _ ⟨rfl, rfl⟩
                simp only [go_sem, ↓reduceIte, Nat.reduceEqDiff]
                refine andK_intro (by first | exact Ext.refl _ | exact Ext.append _ _ | exact (Ext.append _ _).app _ | exact ((Ext.append _ _).app _).app _ | exact (((Ext.append _ _).app _).app _).app _) ?_
                refine anyW_one 49 (by kernel_rfl) ?_
                simp only [go_sem, ↓reduceIte, Nat.reduceEqDiff]
                refine andK_intro (by first | exact Ext.refl _ | exact Ext.append _ _ | exact (Ext.append _ _).app _ | exact ((Ext.append _ _).app _).app _ | exact (((Ext.append _ _).app _).app _).app _) ?_
                refine anyW_one 50 (by kernel_rfl) ?_
                simp only [go_sem, ↓reduceIte, Nat.reduceEqDiff]
                refine andK_intro (by first | exact Ext.refl _ | exact Ext.append _ _ | exact (Ext.append _ _).app _ | exact ((Ext.append _ _).app _).app _ | exact (((Ext.append _ _).app _).app _).app _) ?_
                refine anyW_done (by kernel_rfl) ?_
                simp only [go_sem, ↓reduceIte, Nat.reduceEqDiff]
                refine forK_step (spaceB (tri d a b c)) hc hc0 ?_ ?_
                · have hib := Nat.lt_of_lt_of_le hc hNb; simp only [go_sem, ↓reduceIte, Nat.reduceEqDiff, and_self, and_true, true_and, Int.ofNat_zero, Int.ofNat_one, Int.cast_ofNat_Int, wrap_succ hib]
                exact fin _ _ (by first | exact Ext.refl _ | exact Ext.append _ _ | exact (Ext.append _ _).app _ | exact ((Ext.append _ _).app _).app _ | exact (((Ext.append _ _).app _).app _).app _) (by simp)
              · simp only [go_sem, ↓reduceIte, Nat.reduceEqDiff]
                refine andK_intro (by first | exact Ext.refl _ | exact Ext.append _ _ | exact (Ext.append _ _).app _ | exact ((Ext.append _ _).app _).app _ | exact (((Ext.append _ _).app _).app _).app _) ?_
                refine anyW_one 16 (by kernel_rfl) ?_
                simp only [go_sem, ↓reduceIte, Nat.reduceEqDiff]
                refine andK_intro (by first | exact Ext.refl _ | exact Ext.append _ _ | exact (Ext.append _ _).app _ | exact ((Ext.append _ _).app _).app _ | exact (((Ext.append _ _).app _).app _).app _) ?_
                refine anyW_one 47 (by kernel_rfl) ?_
                simp only [go_sem, ↓reduceIte, Nat.reduceEqDiff]
                refine andK_intro (by first | exact Ext.refl _ | exact Ext.append _ _ | exact (Ext.append _ _).app _ | exact ((Ext.append _ _).app _).app _ | exact (((Ext.append _ _).app _).app _).app _) ?_
                refine anyW_one 48 (by kernel_rfl) ?_
                simp only [go_sem, ↓reduceIte, Nat.reduceEqDiff]
                refine callK.intro (by kernel_rfl) (tri_c d a b c _ _ _ _ _ (by first | exact own_last | exact own_app own_last | exact own_app (own_app own_last) | exact own_app (own_app (own_app own_last))) (by first | exact own_last | exact own_app own_last | exact own_app (own_app own_last) | exact own_app (own_app (own_app own_last))) (by first | exact own_last | exact own_app own_last | exact own_app (own_app own_last) | exact own_app (own_app (own_app own_last))) (by first | exact own_last | exact own_app own_last | exact own_app (own_app own_last) | exact own_app (own_app (own_app own_last)))) ?_
                rintro _ _ ⟨rfl, rfl⟩
                simp only [go_sem, ↓reduceIte, Nat.reduceEqDiff]
                refine andK_intro (by first | exact Ext.refl _ | exact Ext.append _ _ | exact (Ext.append _ _).app _ | exact ((Ext.append _ _).app _).app _ | exact (((Ext.append _ _).app _).app _).app _) ?_
                refine anyW_one 49 (by kernel_rfl) ?_
                simp only [go_sem, ↓reduceIte, Nat.reduceEqDiff]
                refine andK_intro (by first | exact Ext.refl _ | exact Ext.append _ _ | exact (Ext.append _ _).app _ | exact ((Ext.append _ _).app _).app _ | exact (((Ext.append _ _).app _).app _).app _) ?_
                refine anyW_one 50 (by kernel_rfl) ?_
                simp only [go_sem, ↓reduceIte, Nat.reduceEqDiff]
                refine andK_intro (by first | exact Ext.refl _ | exact Ext.append _ _ | exact (Ext.append _ _).app _ | exact ((Ext.append _ _).app _).app _ | exact (((Ext.append _ _).app _).app _).app _) ?_
                refine anyW_done (by kernel_rfl) ?_
                simp only [go_sem, ↓reduceIte, Nat.reduceEqDiff]
                refine forK_step (spaceB (tri d a b c)) hc hc0 ?_ ?_
                · have hib := Nat.lt_of_lt_of_le hc hNb; simp only [go_sem, ↓reduceIte, Nat.reduceEqDiff, and_self, and_true, true_and, Int.ofNat_zero, Int.ofNat_one, Int.cast_ofNat_Int, wrap_succ hib]
                exact fin _ _ (by first | exact Ext.refl _ | exact Ext.append _ _ | exact (Ext.append _ _).app _ | exact ((Ext.append _ _).app _).app _ | exact (((Ext.append _ _).app _).app _).app _) (by simp)
        · subst he
          simp only [go_sem, ↓reduceIte, Nat.reduceEqDiff]
          refine forK_step (y3) hb hb0 ?_ ?_
          · have hib := Nat.lt_of_lt_of_le hb hNa; simp only [go_sem, ↓reduceIte, Nat.reduceEqDiff, and_self, and_true, true_and, Int.ofNat_zero, Int.ofNat_one, Int.cast_ofNat_Int, wrap_succ hib]
          refine ⟨E4, hy3.trans ⟨fun ⟨h1, h2, h3⟩ => ⟨h1, fun b' c' hb' hc' => ?_⟩, fun ⟨h1, h2⟩ => ⟨h1, fun b' c' hb' hc' => h2 b' c' (by omega) hc', fun c' hc' => h2 _ c' (by omega) hc'⟩⟩⟩
          rcases Nat.lt_or_ge b' c with h | h
          · exact h2 b' c' h hc'
          · obtain rfl : b' = c := by omega
            exact h3 c' hc'
        · exact ⟨E3, hy2.trans ⟨fun ⟨h1, h2⟩ => ⟨h1, h2, fun _ h => absurd h (Nat.not_lt_zero _)⟩, fun ⟨h1, h2, _⟩ => ⟨h1, h2⟩⟩⟩
      · subst he
        simp only [go_sem, ↓reduceIte, Nat.reduceEqDiff]
        refine forK_step (y2) ha ha0 ?_ ?_
        · have hib := Nat.lt_of_lt_of_le ha hN; simp only [go_sem, ↓reduceIte, Nat.reduceEqDiff, and_self, and_true, true_and, Int.ofNat_zero, Int.ofNat_one, Int.cast_ofNat_Int, wrap_succ hib]
        refine ⟨E3, hy2.trans ⟨fun ⟨h1, h2⟩ a' b' c' ha' hb' hc' => ?_, fun h => ⟨fun a' b' c' ha' => h a' b' c' (by omega), fun b' c' hb' hc' => h _ b' c' (by omega) hb' hc'⟩⟩⟩
        rcases Nat.lt_or_ge a' b with h | h
        · exact h1 a' b' c' h hb' hc'
        · obtain rfl : a' = b := by omega
          exact h2 b' c' hb' hc'
      · exact ⟨E2, hy.trans ⟨fun h1 => ⟨h1, fun _ _ h => absurd h (Nat.not_lt_zero _)⟩, fun ⟨h1, _⟩ => h1⟩⟩
    · subst he
      have hall : spaceB d = true ↔ y = true := by
        rw [hy]
        constructor
        · intro h a' b' c' ha' hb' hc'
          have h := spaceB_is h
          have s1 := hF.2.2.2 a' b' ha' (by omega)
          have s2 := hF.2.2.2 a' c' ha' (by omega)
          have s3 := hF.2.2.2 b' c' (by omega) (by omega)
          refine (tri_space hF ha' (by omega) (by omega) (by omega) (by omega) (by omega)).2 ?_
          have t1 := h.2 a' b' c' ha' (by omega) (by omega)
          have t2 := h.2 a' c' b' ha' (by omega) (by omega)
          have t3 := h.2 b' c' a' (by omega) (by omega) ha'
          omega
        · exact fun h => spaceB_yes (space_tri hF h)
      have heq : (spaceB d == y) = true := by
        rw [beq_iff_eq]
        cases y
        · cases hs : spaceB d
          · rfl
          · exact absurd (hall.1 hs) (by simp)
        · exact hall.2 rfl
      simp only [go_sem, ↓reduceIte, Nat.reduceEqDiff, Try.underlying4, heq]
    · exact ⟨Ext.refl _, by simp⟩
end Go.Proofs.Ytklaeofcpfggnaa

/- The law FnUltraOk. -/
import Derived.Test.YtoecdjgjfbjejaaW7
import Derived.Test.YtoecdjgjfbjejaaW4
import Derived.Test.YtoecdjgjfbjejaaW17
namespace Go.Proofs.Ytoecdjgjfbjejaa
open Go Go.Mill
set_option maxRecDepth 100000
set_option linter.unusedSimpArgs false
set_option linter.unusedVariables false

theorem max_three {k k' k'' : IntKind} {a b c : Int} : evMax [.int k a, .int k' b, .int k'' c] = some (.int k (max (max a b) c)) := by
  simp only [evMax, Option.some.injEq, Value.int.injEq, true_and]; omega
theorem min_three {k k' k'' : IntKind} {a b c : Int} : evMin [.int k a, .int k' b, .int k'' c] = some (.int k (min (min a b) c)) := by
  simp only [evMin, Option.some.injEq, Value.int.injEq, true_and]; omega

def Isos (d : List (List Int)) (a b c : Nat) : Prop := at2 d a b + at2 d a c + at2 d b c - max (max (at2 d a b) (at2 d a c)) (at2 d b c) - min (min (at2 d a b) (at2 d a c)) (at2 d b c) = max (max (at2 d a b) (at2 d a c)) (at2 d b c)
theorem ultra_isos {d : List (List Int)} (hS : IsSpace d) : IsUltra d ↔ ∀ a b c, a < d.length → b < a → c < b → Isos d a b c := by
  have s := fun i k (hi : i < d.length) (hk : k < d.length) => hS.1.2.2.2 i k hi hk
  constructor
  · intro h a b c ha hb hc
    have t1 := h.2 a b c ha (by omega) (by omega)
    have t2 := h.2 a c b ha (by omega) (by omega)
    have t3 := h.2 b c a (by omega) (by omega) ha
    have s1 := s a b ha (by omega)
    have s2 := s a c ha (by omega)
    have s3 := s b c (by omega) (by omega)
    unfold Isos
    omega
  · intro h
    refine ⟨hS, fun i k j hi hk hj => ?_⟩
    have s1 := s i k hi hk
    have s2 := s i j hi hj
    have s3 := s j k hj hk
    have key : ∀ a b c, a < d.length → b < a → c < b → at2 d a b ≤ max (at2 d a c) (at2 d b c) ∧ at2 d a c ≤ max (at2 d a b) (at2 d b c) ∧ at2 d b c ≤ max (at2 d a b) (at2 d a c) := fun a b c ha hb hc => by
      have := h a b c ha hb hc
      unfold Isos at this
      omega
    rcases Nat.lt_trichotomy i k with h1 | rfl | h1
    · rcases Nat.lt_trichotomy j k with h2 | rfl | h2
      · rcases Nat.lt_trichotomy i j with h3 | rfl | h3
        · have := key k j i hk h2 h3; omega
        · omega
        · have := key k i j hk h1 h3; omega
      · omega
      · have := key j k i hj h2 h1; omega
    · omega
    · rcases Nat.lt_trichotomy j i with h2 | rfl | h2
      · rcases Nat.lt_trichotomy k j with h3 | rfl | h3
        · have := key i j k hi h2 h3; omega
        · omega
        · have := key i k j hi h1 h3; omega
      · omega
      · have := key j i k hj h2 h1; omega

theorem FnUltraOk_c (S : Store) (v : Value) (xs : List Int) (hI : rd S v = some (xs.map (.int .u8))) (hx : xs.length ≤ maxLen) (hb : ∀ b ∈ xs, 0 ≤ b ∧ b ≤ 255) :
    ACalls Try.prog 8 [v] S fun u _ => u = .bool true := by
  refine ACalls.intro (ts := [2]) 95 follows Try.func8 rfl (by kernel_rfl) (by kernel_rfl) (by simp) ?_
  have hsl := rd_isSl hI
  have hlen : slen v = xs.length := by rw [rd_slen hI]; simp
  simp only [go_sem, ↓reduceIte, Nat.reduceEqDiff, argEnv, hsl, hlen]
  refine condK_dec (fun q1 h1 => ?_) (fun q1 h1 => ?_)
  · simp only [go_sem, ↓reduceIte, Nat.reduceEqDiff, h1]
  simp only [go_sem, ↓reduceIte, Nat.reduceEqDiff, h1]
  refine callK.intro (by kernel_rfl) (DrawUltraOk_c S v xs hI hx hb) ?_
  rintro w S1 ⟨r, d, M1, E1, hd6, hr6⟩
  have hd : d.length ≤ maxLen := by have : (1000 : Nat) ≤ maxLen := by decide
                                    omega
  have hN : d.length ≤ 9223372036854775807 := by omega
  simp only [go_sem, ↓reduceIte, Nat.reduceEqDiff]
  refine callK.intro (by kernel_rfl) (iUltraOk_c _ _ _ _ M1 hd) ?_
  rintro _ _ ⟨rfl, rfl⟩
  simp only [go_sem, ↓reduceIte, Nat.reduceEqDiff]
  refine callK.intro (by kernel_rfl) (sUltraOk_c _ _ _ _ M1 hd) ?_
  rintro _ _ ⟨rfl, rfl⟩
  simp only [go_sem, ↓reduceIte, Nat.reduceEqDiff]
  simp only [go_sem, ↓reduceIte, Nat.reduceEqDiff, bne_self_eq_false, Try.underlying4]
  refine callK.intro (by kernel_rfl) (sSpaceOk_c _ _ _ _ M1 hd) ?_
  rintro _ _ ⟨rfl, rfl⟩
  simp only [go_sem, ↓reduceIte, Nat.reduceEqDiff]
  cases hF : spaceB d with
  | false =>
    have hns : ultraB d = false := ultraB_no fun h => spaceB_not hF h.1
    simp only [go_sem, ↓reduceIte, Nat.reduceEqDiff, hns]
    refine callK.intro (by kernel_rfl) (alive_c _) ?_
    rintro _ _ ⟨rfl, -⟩
    simp only [go_sem, ↓reduceIte, Nat.reduceEqDiff]
  | true =>
    have hS := spaceB_is hF
    simp only [go_sem, ↓reduceIte, Nat.reduceEqDiff]
    have hsl := M1.sl
    have hlen := M1.len
    have hrl := M1.sqlen hS.1.sq
    have hcl := M1.sqcell hS.1.sq
    refine aw_count 6 [3, 4] (fun (y : Bool) => [(5, .bool y)]) (0) (d.length) (fun a y SS => S1 = SS ∧ (y = true ↔ ∀ a' b' c', a' < a → b' < a' → c' < b' → Isos d a' b' c')) (true) ?_ ?_ ?_ ?_
    · simp only [go_sem, ↓reduceIte, Nat.reduceEqDiff, and_self, and_true, true_and, Int.ofNat_zero, Int.ofNat_one, Int.cast_ofNat_Int, hsl, hlen]
    · omega
    rotate_left
    rintro a y Sa ha0 ha ⟨rfl, hy⟩
    simp only [go_sem, ↓reduceIte, Nat.reduceEqDiff, hsl, hlen]
    refine condK_lt ha (fun ha => ?_) (fun he => ?_)
    · have hNa : a ≤ 9223372036854775807 := by omega
      simp only [go_sem, ↓reduceIte, Nat.reduceEqDiff]
      refine aw_count 7 [3, 4, 6] (fun (y2 : Bool) => [(5, .bool y2)]) (0) (a) (fun b y2 SS => S1 = SS ∧ (y2 = true ↔ (∀ a' b' c', a' < a → b' < a' → c' < b' → Isos d a' b' c') ∧ ∀ b' c', b' < b → c' < b' → Isos d a b' c')) (y) ?_ ?_ ?_ ?_
      · simp only [go_sem, ↓reduceIte, Nat.reduceEqDiff, and_self, and_true, true_and, Int.ofNat_zero, Int.ofNat_one, Int.cast_ofNat_Int, hsl, hlen]
      · omega
      rotate_left
      rintro b y2 Sb hb0 hb ⟨rfl, hy2⟩
      simp only [go_sem, ↓reduceIte, Nat.reduceEqDiff, hsl, hlen]
      refine condK_lt hb (fun hb => ?_) (fun he => ?_)
      · have hNb : b ≤ 9223372036854775807 := by omega
        simp only [go_sem, ↓reduceIte, Nat.reduceEqDiff]
        refine aw_count 8 [3, 4, 6, 7] (fun (y3 : Bool) => [(5, .bool y3)]) (0) (b) (fun c y3 SS => S1 = SS ∧ (y3 = true ↔ (∀ a' b' c', a' < a → b' < a' → c' < b' → Isos d a' b' c') ∧ (∀ b' c', b' < b → c' < b' → Isos d a b' c') ∧ ∀ c', c' < c → Isos d a b c')) (y2) ?_ ?_ ?_ ?_
        · simp only [go_sem, ↓reduceIte, Nat.reduceEqDiff, and_self, and_true, true_and, Int.ofNat_zero, Int.ofNat_one, Int.cast_ofNat_Int, hsl, hlen]
        · omega
        rotate_left
        rintro c y3 Sc hc0 hc ⟨rfl, hy3⟩
        simp only [go_sem, ↓reduceIte, Nat.reduceEqDiff, hsl, hlen]
        refine condK_lt hc (fun hc => ?_) (fun he => ?_)
        · have hb' : b < d.length := by omega
          have hc' : c < d.length := by omega
          have s1 := hS.1.2.2.2 a b ha hb'
          have s2 := hS.1.2.2.2 a c ha hc'
          have s3 := hS.1.2.2.2 b c hb' hc'
          have fin : ∀ z : Bool, (z = true ↔ y3 = true ∧ Isos d a b c) → (z = true ↔ (∀ a' b' c', a' < a → b' < a' → c' < b' → Isos d a' b' c') ∧ (∀ b' c', b' < b → c' < b' → Isos d a b' c') ∧ ∀ c', c' < c + 1 → Isos d a b c') := fun z hz => by
            rw [hz, hy3]
            constructor
            · rintro ⟨⟨h1, h2, h3⟩, h4⟩
              refine ⟨h1, h2, fun c' hc' => ?_⟩
              rcases Nat.lt_or_ge c' c with h | h
              · exact h3 c' h
              · obtain rfl : c' = c := by omega
                exact h4
            · rintro ⟨h1, h2, h3⟩
              exact ⟨⟨h1, h2, fun c' hc' => h3 c' (by omega)⟩, h3 c (by omega)⟩
          clear hy3
          have w1 : IntKind.i64.wrap (at2 d a b + at2 d a c) = at2 d a b + at2 d a c := wrap64 (by omega)
          have w2 : IntKind.i64.wrap (at2 d a b + at2 d a c + at2 d b c) = at2 d a b + at2 d a c + at2 d b c := wrap64 (by omega)
          have w3 : IntKind.i64.wrap (at2 d a b + at2 d a c + at2 d b c - max (max (at2 d a b) (at2 d a c)) (at2 d b c)) = at2 d a b + at2 d a c + at2 d b c - max (max (at2 d a b) (at2 d a c)) (at2 d b c) := wrap64 (by omega)
          have w4 : IntKind.i64.wrap (at2 d a b + at2 d a c + at2 d b c - max (max (at2 d a b) (at2 d a c)) (at2 d b c) - min (min (at2 d a b) (at2 d a c)) (at2 d b c)) = at2 d a b + at2 d a c + at2 d b c - max (max (at2 d a b) (at2 d a c)) (at2 d b c) - min (min (at2 d a b) (at2 d a c)) (at2 d b c) := wrap64 (by omega)
          simp only [go_sem, ↓reduceIte, Nat.reduceEqDiff, hsl, hlen, ha, hb', hc', M1.get, M1.rsl, hrl, hcl, max_three, min_three]
          cases y3 with
          | false =>
            simp only [go_sem, ↓reduceIte, Nat.reduceEqDiff]
            refine forK_step (false) hc hc0 ?_ ?_
            · have hib := Nat.lt_of_lt_of_le hc hNb; simp only [go_sem, ↓reduceIte, Nat.reduceEqDiff, and_self, and_true, true_and, Int.ofNat_zero, Int.ofNat_one, Int.cast_ofNat_Int, wrap_succ hib]
            exact ⟨rfl, fin _ (by simp)⟩
          | true =>
            simp only [go_sem, ↓reduceIte, Nat.reduceEqDiff, w1, w2, w3, w4]
            refine forK_step (decide (at2 d a b + at2 d a c + at2 d b c - max (max (at2 d a b) (at2 d a c)) (at2 d b c) - min (min (at2 d a b) (at2 d a c)) (at2 d b c) = max (max (at2 d a b) (at2 d a c)) (at2 d b c))) hc hc0 ?_ ?_
            · have hib := Nat.lt_of_lt_of_le hc hNb; simp only [go_sem, ↓reduceIte, Nat.reduceEqDiff, and_self, and_true, true_and, Int.ofNat_zero, Int.ofNat_one, Int.cast_ofNat_Int, wrap_succ hib]
            exact ⟨rfl, fin _ (by simp [Isos])⟩
        · subst he
          simp only [go_sem, ↓reduceIte, Nat.reduceEqDiff]
          refine forK_step (y3) hb hb0 ?_ ?_
          · have hib := Nat.lt_of_lt_of_le hb hNa; simp only [go_sem, ↓reduceIte, Nat.reduceEqDiff, and_self, and_true, true_and, Int.ofNat_zero, Int.ofNat_one, Int.cast_ofNat_Int, wrap_succ hib]
          refine ⟨rfl, hy3.trans ⟨fun ⟨h1, h2, h3⟩ => ⟨h1, fun b' c' hb' hc' => ?_⟩, fun ⟨h1, h2⟩ => ⟨h1, fun b' c' hb' hc' => h2 b' c' (by omega) hc', fun c' hc' => h2 _ c' (by omega) hc'⟩⟩⟩
          rcases Nat.lt_or_ge b' c with h | h
          · exact h2 b' c' h hc'
          · obtain rfl : b' = c := by omega
            exact h3 c' hc'
        · exact ⟨rfl, hy2.trans ⟨fun ⟨h1, h2⟩ => ⟨h1, h2, fun _ h => absurd h (Nat.not_lt_zero _)⟩, fun ⟨h1, h2, _⟩ => ⟨h1, h2⟩⟩⟩
      · subst he
        simp only [go_sem, ↓reduceIte, Nat.reduceEqDiff]
        refine forK_step (y2) ha ha0 ?_ ?_
        · have hib := Nat.lt_of_lt_of_le ha hN; simp only [go_sem, ↓reduceIte, Nat.reduceEqDiff, and_self, and_true, true_and, Int.ofNat_zero, Int.ofNat_one, Int.cast_ofNat_Int, wrap_succ hib]
        refine ⟨rfl, hy2.trans ⟨fun ⟨h1, h2⟩ a' b' c' ha' hb' hc' => ?_, fun h => ⟨fun a' b' c' ha' => h a' b' c' (by omega), fun b' c' hb' hc' => h _ b' c' (by omega) hb' hc'⟩⟩⟩
        rcases Nat.lt_or_ge a' b with h | h
        · exact h1 a' b' c' h hb' hc'
        · obtain rfl : a' = b := by omega
          exact h2 b' c' hb' hc'
      · exact ⟨rfl, hy.trans ⟨fun h1 => ⟨h1, fun _ _ h => absurd h (Nat.not_lt_zero _)⟩, fun ⟨h1, _⟩ => h1⟩⟩
    · subst he
      have hall : ultraB d = true ↔ y = true := by
        rw [hy]
        exact ⟨fun h => (ultra_isos hS).1 (ultraB_is h), fun h => ultraB_yes ((ultra_isos hS).2 h)⟩
      have heq : (ultraB d == y) = true := by
        rw [beq_iff_eq]
        cases y
        · cases hs : ultraB d
          · rfl
          · exact absurd (hall.1 hs) (by simp)
        · exact hall.2 rfl
      simp only [go_sem, ↓reduceIte, Nat.reduceEqDiff, Try.underlying4, heq]
    · exact ⟨rfl, by simp⟩
end Go.Proofs.Ytoecdjgjfbjejaa

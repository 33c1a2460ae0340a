/- Plain: what the best ways are: the greatest space below, the greatest ultrametric space below. -/
import Derived.Test.YtodeldmkpogakaaPure5
import Derived.Test.YtodeldmkpogakaaPure2
namespace Go.Mill
open Go
set_option linter.unusedSimpArgs false
set_option linter.unusedVariables false

/-- f puts steps together as g does, within what distances are. -/
structure Ways (f g : Int → Int → Int) : Prop where
  eq : ∀ a b, 0 ≤ a → a ≤ 60 → 0 ≤ b → b ≤ 60 → f a b = g a b
  le : ∀ a b, 0 ≤ a → 0 ≤ b → a ≤ g a b ∧ b ≤ g a b
  mono : ∀ a b a' b', a ≤ a' → b ≤ b' → g a b ≤ g a' b'
  assoc : ∀ a b c, g (g a b) c = g a (g b c)
  comm : ∀ a b, g a b = g b a
theorem ways_add : Ways addW (· + ·) :=
  ⟨fun a b h1 h2 h3 h4 => wrap64 (by omega), fun a b h1 h2 => by omega, fun a b a' b' h1 h2 => by omega, fun a b c => by omega, fun a b => by omega⟩
theorem ways_max : Ways max max :=
  ⟨fun _ _ _ _ _ _ => rfl, fun a b h1 h2 => by omega, fun a b a' b' h1 h2 => by omega, fun a b c => by omega, fun a b => by omega⟩

/-- A square table of numbers that may be distances. -/
def In60 (e : List (List Int)) (n : Nat) : Prop := e.length = n ∧ (∀ i, i < n → (e.getD i []).length = n) ∧ ∀ i k, i < n → k < n → 0 ≤ at2 e i k ∧ at2 e i k ≤ 60
theorem IsFar.in60 {d : List (List Int)} (h : IsFar d) : In60 d d.length := ⟨rfl, h.2.2.1, fun i k hi hk => ⟨(h.2.2.2 i k hi hk).2.1, (h.2.2.2 i k hi hk).2.2.1⟩⟩

section
variable {f g : Int → Int → Int}
theorem Ways.min_l (W : Ways f g) {a b : Int} (h : 0 ≤ a ∧ a ≤ 60) (h' : 0 ≤ b ∧ b ≤ 60) : min a (f a b) = a := by
  rw [W.eq _ _ h.1 h.2 h'.1 h'.2]; have := W.le a b h.1 h'.1; omega
theorem Ways.min_r (W : Ways f g) {a b : Int} (h : 0 ≤ a ∧ a ≤ 60) (h' : 0 ≤ b ∧ b ≤ 60) : min b (f a b) = b := by
  rw [W.eq _ _ h.1 h.2 h'.1 h'.2]; have := W.le a b h.1 h'.1; omega
theorem Ways.nn (W : Ways f g) {a b : Int} (h : 0 ≤ a ∧ a ≤ 60) (h' : 0 ≤ b ∧ b ≤ 60) : 0 ≤ f a b := by
  rw [W.eq _ _ h.1 h.2 h'.1 h'.2]; have := W.le a b h.1 h'.1; omega

theorem stepJ_at (W : Ways f g) {e : List (List Int)} {n m k : Nat} (h : In60 e n) (hm : m < n) (hk : k < n) : ∀ j, j ≤ n → ∀ a b, at2 (stepJ f e m k j) a b = if a = k ∧ b < j then min (at2 e k b) (f (at2 e k m) (at2 e m b)) else at2 e a b
  | 0, _, a, b => by simp [stepJ]
  | j + 1, hj, a, b => by
    have ih := stepJ_at W h hm hk j (by omega)
    have e1 : at2 (stepJ f e m k j) k m = at2 e k m := by
      rw [ih]; split
      · exact W.min_l (h.2.2 k m hk hm) (h.2.2 m m hm hm)
      · rfl
    have e2 : at2 (stepJ f e m k j) m j = at2 e m j := by rw [ih, if_neg (by omega)]
    have e3 : at2 (stepJ f e m k j) k j = at2 e k j := by rw [ih, if_neg (by omega)]
    simp only [stepJ, e1, e2, e3]
    rw [put2_at (by rw [stepJ_len, h.1]; exact hk) (by rw [stepJ_row, h.2.1 k hk]; omega), ih]
    by_cases ha : a = k
    · subst ha
      by_cases hb : b = j
      · subst hb; rw [if_pos ⟨rfl, rfl⟩, if_pos ⟨rfl, by omega⟩]
      · rw [if_neg (fun h => hb h.2)]
        by_cases hb2 : b < j
        · rw [if_pos ⟨rfl, hb2⟩, if_pos ⟨rfl, by omega⟩]
        · rw [if_neg (by omega), if_neg (by omega)]
    · rw [if_neg (fun h => ha h.1), if_neg (fun h => ha h.1), if_neg (fun h => ha h.1)]

theorem stepK_at (W : Ways f g) {e : List (List Int)} {n m : Nat} (h : In60 e n) (hm : m < n) : ∀ k, k ≤ n → In60 (stepK f e m n k) n ∧ ∀ a b, b < n → at2 (stepK f e m n k) a b = if a < k then min (at2 e a b) (f (at2 e a m) (at2 e m b)) else at2 e a b
  | 0, _ => ⟨by simpa [stepK] using h, fun a b _ => by simp [stepK]⟩
  | k + 1, hk => by
    obtain ⟨hI, ih⟩ := stepK_at W h hm k (by omega)
    have hk' : k < n := by omega
    have key : ∀ a b, b < n → at2 (stepK f e m n (k + 1)) a b = if a < k + 1 then min (at2 e a b) (f (at2 e a m) (at2 e m b)) else at2 e a b := by
      intro a b hb
      have e1 : at2 (stepK f e m n k) k b = at2 e k b := by rw [ih k b hb, if_neg (by omega)]
      have e2 : at2 (stepK f e m n k) k m = at2 e k m := by rw [ih k m hm, if_neg (by omega)]
      have e3 : at2 (stepK f e m n k) m b = at2 e m b := by
        rw [ih m b hb]; split
        · exact W.min_r (h.2.2 m m hm hm) (h.2.2 m b hm hb)
        · rfl
      simp only [stepK]
      rw [stepJ_at W hI hm hk' n (Nat.le_refl _), e1, e2, e3, ih a b hb]
      by_cases ha : a = k
      · subst ha; rw [if_pos ⟨rfl, hb⟩, if_pos (by omega)]
      · rw [if_neg (fun h => ha h.1)]
        by_cases ha2 : a < k
        · rw [if_pos ha2, if_pos (by omega)]
        · rw [if_neg ha2, if_neg (by omega)]
    refine ⟨⟨by rw [stepK_len]; exact h.1, fun i hi => by rw [stepK_row]; exact h.2.1 i hi, fun i j hi hj => ?_⟩, key⟩
    rw [key i j hj]
    have a1 := h.2.2 i j hi hj
    have a2 := h.2.2 i m hi hm
    have a3 := h.2.2 m j hm hj
    have a4 := W.nn a2 a3
    split <;> omega

/-- One point more to go over. -/
theorem stepM_at (W : Ways f g) {d : List (List Int)} {n : Nat} (h : In60 d n) : ∀ m, m ≤ n → In60 (stepM f d n m) n ∧ ∀ m', m = m' + 1 → ∀ a b, a < n → b < n → at2 (stepM f d n m) a b = min (at2 (stepM f d n m') a b) (g (at2 (stepM f d n m') a m') (at2 (stepM f d n m') m' b))
  | 0, _ => ⟨by simpa [stepM] using h, fun m' hm => by omega⟩
  | m + 1, hm => by
    obtain ⟨hI, -⟩ := stepM_at W h m (by omega)
    obtain ⟨h1, h2⟩ := stepK_at W hI (show m < n by omega) n (Nat.le_refl _)
    refine ⟨h1, fun m' hm' a b ha hb => ?_⟩
    obtain rfl : m = m' := by omega
    have b1 := hI.2.2 a m ha (by omega)
    have b2 := hI.2.2 m b (by omega) hb
    rw [← W.eq _ _ b1.1 b1.2 b2.1 b2.2]
    simp only [stepM]
    rw [h2 a b hb, if_pos ha]

/-- What holds after m points. -/
structure WayI (g : Int → Int → Int) (d e : List (List Int)) (n m : Nat) : Prop where
  in60 : In60 e n
  sym : ∀ i k, i < n → k < n → at2 e i k = at2 e k i
  zero : ∀ i k, i < n → k < n → (at2 e i k = 0 ↔ i = k)
  le : ∀ i k, i < n → k < n → at2 e i k ≤ at2 d i k
  tri : ∀ i k j, i < n → k < n → j < m → at2 e i k ≤ g (at2 e i j) (at2 e j k)

theorem stepM_way (W : Ways f g) {d : List (List Int)} (hF : IsFar d) : ∀ m, m ≤ d.length → WayI g d (stepM f d d.length m) d.length m
  | 0, _ => ⟨by simpa [stepM] using hF.in60, fun i k hi hk => (hF.2.2.2 i k hi hk).1, fun i k hi hk => (hF.2.2.2 i k hi hk).2.2.2, fun i k hi hk => Int.le_refl _, fun _ _ _ _ _ h => absurd h (Nat.not_lt_zero _)⟩
  | m + 1, hm => by
    obtain ⟨hI, hat⟩ := stepM_at W hF.in60 (m + 1) hm
    have ih := stepM_way W hF m (by omega)
    have hat := hat m rfl
    have hmn : m < d.length := by omega
    generalize stepM f d d.length (m + 1) = e' at hI hat ⊢
    generalize stepM f d d.length m = e at ih hat ⊢
    generalize d.length = n at hI hat ih hm hmn ⊢
    have nn := ih.in60.2.2
    have row : ∀ k, k < n → at2 e' m k = at2 e m k := fun k hk => by
      rw [hat m k hmn hk]
      have := W.le (at2 e m m) (at2 e m k) (nn m m hmn hmn).1 (nn m k hmn hk).1
      omega
    have col : ∀ k, k < n → at2 e' k m = at2 e k m := fun k hk => by
      rw [hat k m hk hmn]
      have := W.le (at2 e k m) (at2 e m m) (nn k m hk hmn).1 (nn m m hmn hmn).1
      omega
    refine ⟨hI, fun i k hi hk => ?_, fun i k hi hk => ?_, fun i k hi hk => ?_, fun i k j hi hk hj => ?_⟩
    · rw [hat i k hi hk, hat k i hk hi, ih.sym i k hi hk, ih.sym i m hi hmn, ih.sym k m hk hmn, W.comm]
    · rw [hat i k hi hk]
      have l := W.le (at2 e i m) (at2 e m k) (nn i m hi hmn).1 (nn m k hmn hk).1
      have z := ih.zero i k hi hk
      have z1 := ih.zero i m hi hmn
      have z2 := ih.zero m k hmn hk
      have n1 := nn i k hi hk
      have n2 := nn i m hi hmn
      have n3 := nn m k hmn hk
      constructor
      · intro h0
        by_cases h1 : at2 e i k = 0
        · exact z.1 h1
        · rw [z1.1 (by omega), z2.1 (by omega)]
      · intro h0
        have := z.2 h0
        omega
    · rw [hat i k hi hk]
      have := ih.le i k hi hk
      omega
    · by_cases hjm : j = m
      · subst hjm
        rw [col i hi, row k hk, hat i k hi hk]
        omega
      · have hj' : j < m := by omega
        have hjn : j < n := by omega
        have key : at2 e' i k ≤ at2 e i k ∧ at2 e' i k ≤ g (at2 e i m) (at2 e m k) := by rw [hat i k hi hk]; omega
        have t1 := ih.tri i k j hi hk hj'
        have t2 := ih.tri m k j hmn hk hj'
        have t3 := ih.tri i m j hi hmn hj'
        have c1 : at2 e' i j = at2 e i j ∨ at2 e' i j = g (at2 e i m) (at2 e m j) := by rw [hat i j hi hjn]; omega
        have c2 : at2 e' j k = at2 e j k ∨ at2 e' j k = g (at2 e j m) (at2 e m k) := by rw [hat j k hjn hk]; omega
        have n1 := nn i m hi hmn
        have n2 := nn m j hmn hjn
        have n3 := nn j m hjn hmn
        have n4 := nn m k hmn hk
        rcases c1 with c1 | c1 <;> rcases c2 with c2 | c2 <;> rw [c1, c2]
        · omega
        · have := W.mono (at2 e i m) (at2 e m k) _ (at2 e m k) t3 (Int.le_refl _)
          rw [W.assoc] at this
          omega
        · have := W.mono (at2 e i m) (at2 e m k) (at2 e i m) _ (Int.le_refl _) t2
          rw [W.assoc]
          omega
        · have l1 := W.le (at2 e i m) (at2 e m j) n1.1 n2.1
          have l2 := W.le (at2 e j m) (at2 e m k) n3.1 n4.1
          have := W.mono _ _ _ _ l1.1 l2.2
          omega

theorem fw_way (W : Ways f g) {d : List (List Int)} (hF : IsFar d) : WayI g d (fw f d) d.length d.length := stepM_way W hF _ (Nat.le_refl _)
theorem WayI.far {d e : List (List Int)} {n m : Nat} (h : WayI g d e n m) (h1 : 1 ≤ n) (h6 : n ≤ 6) : IsFar e := by
  obtain ⟨⟨hl, hsq, hr⟩, hs, hz, -, -⟩ := h
  subst hl
  exact ⟨h1, h6, hsq, fun i k hi hk => ⟨hs i k hi hk, (hr i k hi hk).1, (hr i k hi hk).2, hz i k hi hk⟩⟩
theorem fw_far (W : Ways f g) {d : List (List Int)} (hF : IsFar d) : IsFar (fw f d) := (fw_way W hF).far hF.1 hF.2.1

/-- What is below, and has no shorter ways, is below the best ways. -/
theorem fw_great (W : Ways f g) {d b : List (List Int)} (hF : IsFar d) (hb : ∀ i k j, i < d.length → k < d.length → j < d.length → at2 b i k ≤ g (at2 b i j) (at2 b j k)) (hle : ∀ i k, i < d.length → k < d.length → at2 b i k ≤ at2 d i k) :
    ∀ i k, i < d.length → k < d.length → at2 b i k ≤ at2 (fw f d) i k := by
  have key : ∀ m, m ≤ d.length → ∀ i k, i < d.length → k < d.length → at2 b i k ≤ at2 (stepM f d d.length m) i k := by
    intro m
    induction m with
    | zero => intro _; exact hle
    | succ m ih =>
      intro hm i k hi hk
      rw [(stepM_at W hF.in60 (m + 1) hm).2 m rfl i k hi hk]
      have h1 := ih (by omega) i k hi hk
      have h2 := W.mono _ _ _ _ (ih (by omega) i m hi (by omega)) (ih (by omega) m k (by omega) hk)
      have h3 := hb i k m hi hk (by omega)
      omega
  exact key _ (Nat.le_refl _)
theorem at2_ext {d e : List (List Int)} (hl : e.length = d.length) (hr : ∀ i, i < d.length → (e.getD i []).length = (d.getD i []).length) (h : ∀ i k, i < d.length → k < (d.getD i []).length → at2 e i k = at2 d i k) : e = d :=
  eq_of_getD2 hl fun i hi => eq_of_getD (hr i (by omega)) fun k hk => h i k (by omega) (by rw [← hr i (by omega)]; exact hk)
theorem fw_self (W : Ways f g) {d : List (List Int)} (hF : IsFar d) (hb : ∀ i k j, i < d.length → k < d.length → j < d.length → at2 d i k ≤ g (at2 d i j) (at2 d j k)) : fw f d = d := by
  refine at2_ext fw_len (fun i _ => fw_row i) fun i k hi hk => ?_
  rw [hF.2.2.1 i hi] at hk
  have h1 := fw_great W hF hb (fun _ _ _ _ => Int.le_refl _) i k hi hk
  have h2 := (fw_way W hF).le i k hi hk
  omega
end

theorem short_no {d : List (List Int)} (h : farB d = false) : shortV d = [] := by simp only [shortV, h]; rfl
theorem below_no {d : List (List Int)} (h : farB d = false) : belowV d = [] := by simp only [belowV, h]; rfl
theorem short_yes {d : List (List Int)} (h : IsFar d) : shortV d = fw addW d := by simp only [shortV, farB_yes h, ↓reduceIte]
theorem below_yes {d : List (List Int)} (h : IsFar d) : belowV d = fw max d := by simp only [belowV, farB_yes h, ↓reduceIte]
section
variable {d : List (List Int)}
theorem short_len (h : IsFar d) : (shortV d).length = d.length := by rw [short_yes h, fw_len]
theorem below_len (h : IsFar d) : (belowV d).length = d.length := by rw [below_yes h, fw_len]
theorem short_space (h : IsFar d) : IsSpace (shortV d) := by
  rw [short_yes h]
  have hw := fw_way ways_add h
  refine ⟨fw_far ways_add h, fun i k j hi hk hj => ?_⟩
  rw [fw_len] at hi hk hj
  exact hw.tri i k j hi hk hj
theorem below_tri (h : IsFar d) {i k j : Nat} (hi : i < d.length) (hk : k < d.length) (hj : j < d.length) : at2 (belowV d) i k ≤ max (at2 (belowV d) i j) (at2 (belowV d) j k) := by
  rw [below_yes h]
  exact (fw_way ways_max h).tri i k j hi hk hj
theorem below_ultra (h : IsFar d) : IsUltra (belowV d) := by
  have hF : IsFar (belowV d) := by rw [below_yes h]; exact fw_far ways_max h
  have hl := below_len h
  refine ⟨⟨hF, fun i k j hi hk hj => ?_⟩, fun i k j hi hk hj => below_tri h (by omega) (by omega) (by omega)⟩
  have t := below_tri h (show i < d.length by omega) (show k < d.length by omega) (show j < d.length by omega)
  have n1 := hF.2.2.2 i j hi hj
  have n2 := hF.2.2.2 j k hj hk
  omega
theorem short_le (h : IsFar d) {i k : Nat} (hi : i < d.length) (hk : k < d.length) : at2 (shortV d) i k ≤ at2 d i k := by rw [short_yes h]; exact (fw_way ways_add h).le i k hi hk
theorem below_le (h : IsFar d) {i k : Nat} (hi : i < d.length) (hk : k < d.length) : at2 (belowV d) i k ≤ at2 d i k := by rw [below_yes h]; exact (fw_way ways_max h).le i k hi hk
theorem short_self (h : IsSpace d) : shortV d = d := by rw [short_yes h.1]; exact fw_self ways_add h.1 h.2
theorem below_self (h : IsUltra d) : belowV d = d := by rw [below_yes h.1.1]; exact fw_self ways_max h.1.1 h.2
theorem short_great {b : List (List Int)} (h : IsFar d) (hb : IsSpace b) (hl : b.length = d.length) (hle : ∀ i k, i < d.length → k < d.length → at2 b i k ≤ at2 d i k) {i k : Nat} (hi : i < d.length) (hk : k < d.length) : at2 b i k ≤ at2 (shortV d) i k := by
  rw [short_yes h]
  exact fw_great ways_add h (fun i k j h1 h2 h3 => hb.2 i k j (by omega) (by omega) (by omega)) hle i k hi hk
theorem below_great {b : List (List Int)} (h : IsFar d) (hb : IsUltra b) (hl : b.length = d.length) (hle : ∀ i k, i < d.length → k < d.length → at2 b i k ≤ at2 d i k) {i k : Nat} (hi : i < d.length) (hk : k < d.length) : at2 b i k ≤ at2 (belowV d) i k := by
  rw [below_yes h]
  exact fw_great ways_max h (fun i k j h1 h2 h3 => hb.2 i k j (by omega) (by omega) (by omega)) hle i k hi hk
theorem short_small : (shortV d).length ≤ 6 ∧ ∀ j, ((shortV d).getD j []).length ≤ 6 := by
  cases h : farB d with
  | false => rw [short_no h]; simp
  | true =>
    have hF := farB_is h
    have h6 := hF.2.1
    refine ⟨by rw [short_len hF]; exact h6, fun j => ?_⟩
    rw [short_yes hF, fw_row]
    rcases Nat.lt_or_ge j d.length with h | h
    · rw [hF.2.2.1 j h]; exact h6
    · simp [List.getElem?_eq_none h]
theorem below_small : (belowV d).length ≤ 6 ∧ ∀ j, ((belowV d).getD j []).length ≤ 6 := by
  cases h : farB d with
  | false => rw [below_no h]; simp
  | true =>
    have hF := farB_is h
    have h6 := hF.2.1
    refine ⟨by rw [below_len hF]; exact h6, fun j => ?_⟩
    rw [below_yes hF, fw_row]
    rcases Nat.lt_or_ge j d.length with h | h
    · rw [hF.2.2.1 j h]; exact h6
    · simp [List.getElem?_eq_none h]
end
end Go.Mill

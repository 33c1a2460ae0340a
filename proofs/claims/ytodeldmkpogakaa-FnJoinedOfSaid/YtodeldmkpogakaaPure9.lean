/- Plain: a table without a point, with a point more; legs. -/
import Derived.Test.YtodeldmkpogakaaPure2
import Derived.Test.YtodeldmkpogakaaPure4
import Derived.Test.YtodeldmkpogakaaMillM
namespace Go.Mill
open Go
set_option linter.unusedSimpArgs false
set_option linter.unusedVariables false

theorem ext2 {d e : List (List Int)} (hl : e.length = d.length) (hr : ∀ i, i < d.length → (e.getD i []).length = (d.getD i []).length) (h : ∀ i k, i < d.length → k < (d.getD i []).length → at2 e i k = at2 d i k) : e = d :=
  eq_of_getD2 hl fun i hi => eq_of_getD (hr i (by omega)) fun k hk => h i k (by omega) (by rw [← hr i (by omega)]; exact hk)

/-- The numbers but p. -/
def sk (p i : Nat) : Nat := if i < p then i else i + 1
theorem getD_eraseIdx {α : Type} {xs : List α} {z : α} {p i : Nat} : (xs.eraseIdx p).getD i z = xs.getD (sk p i) z := by
  simp only [List.getD_eq_getElem?_getD, List.getElem?_eraseIdx, sk]
  split <;> rfl
def dropT (d : List (List Int)) (p : Nat) : List (List Int) := (d.eraseIdx p).map fun row => row.eraseIdx p
theorem dropT_row {d : List (List Int)} {p i : Nat} : (dropT d p).getD i [] = (d.getD (sk p i) []).eraseIdx p := by
  rw [← getD_eraseIdx]
  simp only [dropT, List.getD_eq_getElem?_getD, List.getElem?_map]
  cases (d.eraseIdx p)[i]? <;> rfl
theorem dropT_at {d : List (List Int)} {p i k : Nat} : at2 (dropT d p) i k = at2 d (sk p i) (sk p k) := by
  unfold at2; rw [dropT_row, getD_eraseIdx]
theorem dropT_len {d : List (List Int)} {p : Nat} (hp : p < d.length) : (dropT d p).length = d.length - 1 := by simp [dropT, List.length_eraseIdx, hp]
theorem sk_lt {p i n : Nat} (hi : i < n - 1) (hp : p < n) : sk p i < n := by unfold sk; split <;> omega
theorem sk_inj {p i k : Nat} : sk p i = sk p k ↔ i = k := by unfold sk; split <;> split <;> omega
theorem sk_ne {p i : Nat} : sk p i ≠ p := by unfold sk; split <;> omega
theorem drop_space {d : List (List Int)} {p : Nat} (h : IsSpace d) (hp : p < d.length) (h2 : 2 ≤ d.length) : IsSpace (dropT d p) := by
  have hl := dropT_len hp
  refine ⟨⟨by omega, by have := h.1.2.1; omega, fun i hi => ?_, fun i k hi hk => ?_⟩, fun i k j hi hk hj => ?_⟩
  · rw [hl] at hi
    rw [dropT_row, List.length_eraseIdx, h.1.2.2.1 _ (sk_lt hi hp), if_pos hp, hl]
  · rw [hl] at hi hk
    have := h.1.2.2.2 (sk p i) (sk p k) (sk_lt hi hp) (sk_lt hk hp)
    rw [dropT_at, dropT_at]
    rw [sk_inj] at this
    exact this
  · rw [hl] at hi hk hj
    rw [dropT_at, dropT_at, dropT_at]
    exact h.2 _ _ _ (sk_lt hi hp) (sk_lt hk hp) (sk_lt hj hp)
theorem drop_width {d : List (List Int)} {p : Nat} (h : IsSpace d) (hp : p < d.length) (h2 : 2 ≤ d.length) : widthV (dropT d p) ≤ widthV d := by
  obtain ⟨k, j, hk, hj, he⟩ := width_mem (drop_space h hp h2)
  rw [dropT_len hp] at hk hj
  rw [← he, dropT_at]
  exact width_ge h (sk_lt hk hp) (sk_lt hj hp)
noncomputable def dropB (d : List (List Int)) (p : Int) : Bool := hasB d p && decide (2 ≤ d.length)
noncomputable def dropV (d : List (List Int)) (p : Int) : List (List Int) := if dropB d p then dropT d p.toNat else []
theorem dropB_iff {d : List (List Int)} {p : Int} : dropB d p = true ↔ HasP d p ∧ 2 ≤ d.length := by
  simp only [dropB, Bool.and_eq_true, decide_eq_true_eq]
  exact ⟨fun h => ⟨hasB_is h.1, h.2⟩, fun h => ⟨hasB_yes h.1, h.2⟩⟩
theorem dropB_no {d : List (List Int)} {p : Int} (h : ¬ (HasP d p ∧ 2 ≤ d.length)) : dropB d p = false := by
  cases hb : dropB d p with
  | false => rfl
  | true => exact absurd (dropB_iff.1 hb) h
theorem dropV_no {d : List (List Int)} {p : Int} (h : dropB d p = false) : dropV d p = [] := by simp [dropV, h]
theorem dropV_nat {d : List (List Int)} {p : Nat} (h : IsSpace d) (hp : p < d.length) (h2 : 2 ≤ d.length) : dropV d p = dropT d p := by
  have : dropB d p = true := dropB_iff.2 ⟨⟨h, by omega, by omega⟩, h2⟩
  simp [dropV, this]
/-- As far as k. -/
theorem erase_take {α : Type} {xs : List α} {z : α} {p k : Nat} (hk : k < xs.length) : (xs.take (k + 1)).eraseIdx p = if k = p then (xs.take k).eraseIdx p else (xs.take k).eraseIdx p ++ [xs.getD k z] := by
  have ht : xs.take (k + 1) = xs.take k ++ [xs.getD k z] := by rw [List.take_add_one, List.getElem?_eq_getElem hk]; simp [List.getElem?_eq_getElem hk]
  have hl : (xs.take k).length = k := by simp; omega
  rw [ht]
  split
  · rename_i h
    subst h
    rw [List.eraseIdx_append_of_length_le (by omega), hl, Nat.sub_self]
    have : (xs.take k).eraseIdx k = xs.take k := List.eraseIdx_of_length_le (by omega)
    rw [this]
    simp
  · rename_i h
    rcases Nat.lt_or_ge p k with h1 | h1
    · rw [List.eraseIdx_append_of_lt_length (by omega)]
    · have e1 : (xs.take k).eraseIdx p = xs.take k := List.eraseIdx_of_length_le (by omega)
      have e2 : ([xs.getD k z]).eraseIdx (p - k) = [xs.getD k z] := List.eraseIdx_of_length_le (by simp only [List.length_singleton]; omega)
      rw [List.eraseIdx_append_of_length_le (by omega), hl, e1, e2]

/-- The rows so far. -/
def dropR (d : List (List Int)) (p k : Nat) : List (List Int) := ((d.take k).eraseIdx p).map fun row => row.eraseIdx p
theorem dropR_zero {d : List (List Int)} {p : Nat} : dropR d p 0 = [] := by simp [dropR]
theorem dropR_all {d : List (List Int)} {p : Nat} : dropR d p d.length = dropT d p := by simp [dropR, dropT, List.take_length]
theorem dropR_succ {d : List (List Int)} {p k : Nat} (hk : k < d.length) : dropR d p (k + 1) = if k = p then dropR d p k else dropR d p k ++ [(d.getD k []).eraseIdx p] := by
  unfold dropR
  rw [erase_take (z := []) hk]
  split
  · rfl
  · simp
theorem dropR_len {d : List (List Int)} {p k : Nat} : (dropR d p k).length ≤ d.length := by
  simp only [dropR, List.length_map]
  refine Nat.le_trans (List.eraseIdx_sublist _ _).length_le ?_
  simp; omega
theorem dropV_small {d : List (List Int)} {p : Int} {m : Nat} (hd : d.length ≤ m) (hr : ∀ j, (d.getD j []).length ≤ m) : (dropV d p).length ≤ m ∧ ∀ j, ((dropV d p).getD j []).length ≤ m := by
  unfold dropV
  split
  · refine ⟨?_, fun j => ?_⟩
    · rw [← dropR_all]; exact Nat.le_trans dropR_len hd
    · rw [dropT_row]
      exact Nat.le_trans (List.eraseIdx_sublist _ _).length_le (hr _)
  · simp

/-! ### A point more -/
def withRow (d : List (List Int)) (xs : List Int) (i : Nat) : List Int := d.getD i [] ++ [xs.getD i 0]
def withR (d : List (List Int)) (xs : List Int) (n : Nat) : List (List Int) := (List.range n).map (withRow d xs)
def withT (d : List (List Int)) (xs : List Int) : List (List Int) := withR d xs d.length ++ [xs ++ [0]]
noncomputable def withV (d : List (List Int)) (xs : List Int) : List (List Int) := if fitB d xs then withT d xs else []
section
variable {d : List (List Int)} {xs : List Int}
theorem withV_yes (h : IsFit d xs) : withV d xs = withT d xs := by simp [withV, fitB_yes h]
theorem withV_no (h : fitB d xs = false) : withV d xs = [] := by simp [withV, h]
theorem withR_succ {n : Nat} : withR d xs (n + 1) = withR d xs n ++ [withRow d xs n] := by simp [withR, List.range_succ]
theorem withR_len {n : Nat} : (withR d xs n).length = n := by simp [withR]
theorem withT_len : (withT d xs).length = d.length + 1 := by simp [withT, withR_len]
theorem withT_row {i : Nat} (hi : i < d.length) : (withT d xs).getD i [] = d.getD i [] ++ [xs.getD i 0] := by
  simp [withT, withR, List.getElem?_append, hi, withRow]
theorem withT_last : (withT d xs).getD d.length [] = xs ++ [0] := by simp [withT, List.getElem?_append, withR_len]
theorem getD_snoc {ys : List Int} {y : Int} {k : Nat} : (ys ++ [y]).getD k 0 = if k < ys.length then ys.getD k 0 else if k = ys.length then y else 0 := by
  simp only [List.getD_eq_getElem?_getD, List.getElem?_append]
  split
  · rfl
  · split
    · rename_i h; subst h; simp
    · rw [List.getElem?_eq_none (by simp; omega)]; rfl
theorem withT_at (h : IsFit d xs) {i k : Nat} (hi : i ≤ d.length) (hk : k ≤ d.length) : at2 (withT d xs) i k = if i < d.length then (if k < d.length then at2 d i k else xs.getD i 0) else (if k < d.length then xs.getD k 0 else 0) := by
  unfold at2
  split
  · rename_i h1
    rw [withT_row h1, getD_snoc, h.1.1.2.2.1 i h1]
    split
    · rfl
    · rw [if_pos (by omega)]
  · rename_i h1
    obtain rfl : i = d.length := by omega
    rw [withT_last, getD_snoc, h.2.2.1]
    split
    · rfl
    · rw [if_pos (by omega)]
theorem with_space (h : IsFit d xs) : IsSpace (withT d xs) := by
  have hl : (withT d xs).length = d.length + 1 := withT_len
  have h6 := h.2.1
  have s := h.1.1.2.2.2
  have f := h.2.2.2.1
  have q := h.2.2.2.2
  refine ⟨⟨by omega, by omega, fun i hi => ?_, fun i k hi hk => ?_⟩, fun i k j hi hk hj => ?_⟩
  · rcases Nat.lt_or_ge i d.length with h1 | h1
    · rw [withT_row h1, hl]; simp only [List.length_append, List.length_singleton]; rw [h.1.1.2.2.1 i h1]
    · obtain rfl : i = d.length := by omega
      rw [withT_last, hl]; simp [h.2.2.1]
  · rw [withT_at h (by omega) (by omega), withT_at h (by omega) (by omega)]
    by_cases h1 : i < d.length <;> by_cases h2 : k < d.length <;> simp only [h1, h2, if_true, if_false]
    · exact s i k h1 h2
    · have := f i h1; exact ⟨by trivial, by omega, by omega, by omega⟩
    · have := f k h2; exact ⟨by trivial, by omega, by omega, by omega⟩
    · exact ⟨by trivial, by omega, by omega, fun _ => by omega, fun _ => by trivial⟩
  · rw [withT_at h (by omega) (by omega), withT_at h (by omega) (by omega), withT_at h (by omega) (by omega)]
    by_cases h1 : i < d.length <;> by_cases h2 : k < d.length <;> by_cases h3 : j < d.length <;> simp only [h1, h2, h3, if_true, if_false]
    · exact h.1.2 i k j h1 h2 h3
    · have a := f i h1
      have b := f k h2
      by_cases e : i = k
      · subst e; have := (s i i h1 h1).2.2.2.2 rfl; omega
      · exact (q i k h1 h2).2 e
    · have := (q i j h1 h3).1; omega
    · omega
    · have := (q k j h2 h3).1; have := (s k j h2 h3).1; omega
    · omega
    · have := f j h3; omega
    · omega
theorem with_drop (h : IsFit d xs) : dropT (withT d xs) d.length = d := by
  have hl : (withT d xs).length = d.length + 1 := withT_len
  have hd : (dropT (withT d xs) d.length).length = d.length := by rw [dropT_len (by omega), hl]; omega
  have e : ∀ i, i < d.length → sk d.length i = i := fun i hi => by unfold sk; rw [if_pos hi]
  refine ext2 hd (fun i hi => ?_) fun i k hi hk => ?_
  · rw [dropT_row, e i hi, withT_row hi, List.length_eraseIdx]
    simp only [List.length_append, List.length_singleton]
    rw [h.1.1.2.2.1 i hi, if_pos (by omega)]
    omega
  · rw [h.1.1.2.2.1 i hi] at hk
    rw [dropT_at, e i hi, e k hk, withT_at h (by omega) (by omega), if_pos hi, if_pos hk]
theorem fit_more {ys : List Int} (h : IsFit d xs) (hl : ys.length = xs.length) (hy : ∀ i, i < d.length → ys.getD i 0 = xs.getD i 0 + 1 ∧ ys.getD i 0 ≤ 60) : IsFit d ys := by
  refine ⟨h.1, h.2.1, by rw [hl]; exact h.2.2.1, fun i hi => ?_, fun i k hi hk => ?_⟩
  · have a := hy i hi
    have b := h.2.2.2.1 i hi
    omega
  · have a := hy i hi
    have b := hy k hk
    have q := h.2.2.2.2 i k hi hk
    refine ⟨by omega, fun e => ?_⟩
    have := q.2 e
    omega
theorem fit_drop (h : IsSpace d) (h2 : 2 ≤ d.length) : IsFit (dropT d (d.length - 1)) ((d.getD (d.length - 1) []).take (d.length - 1)) := by
  have hp : d.length - 1 < d.length := by omega
  have hl := dropT_len hp
  have e : ∀ i, i < d.length - 1 → sk (d.length - 1) i = i := fun i hi => by unfold sk; rw [if_pos hi]
  have hg : ∀ i, i < d.length - 1 → ((d.getD (d.length - 1) []).take (d.length - 1)).getD i 0 = at2 d (d.length - 1) i := fun i hi => by
    unfold at2
    simp only [List.getD_eq_getElem?_getD, List.getElem?_take]
    rw [if_pos hi]
  have s := h.1.2.2.2
  refine ⟨drop_space h hp h2, by have := h.1.2.1; omega, by rw [List.length_take, h.1.2.2.1 _ hp, hl]; omega, fun i hi => ?_, fun i k hi hk => ?_⟩
  · rw [hl] at hi
    rw [hg i hi]
    have a := s (d.length - 1) i hp (by omega)
    have : ¬ at2 d (d.length - 1) i = 0 := fun e => by have := a.2.2.2.1 e; omega
    omega
  · rw [hl] at hi hk
    rw [hg i hi, hg k hk, dropT_at, e i hi, e k hk]
    have t1 := h.2 (d.length - 1) i k hp (by omega) (by omega)
    have t2 := h.2 i k (d.length - 1) (by omega) (by omega) hp
    have s1 := (s i k (by omega) (by omega)).1
    have s2 := (s i (d.length - 1) (by omega) hp).1
    exact ⟨by omega, fun _ => by omega⟩
end

/-! ### Legs -/
section
variable {d : List (List Int)}
theorem low2_le {c : Nat → Nat → Bool} {f : Nat → Nat → Int} {z : Int} : ∀ {n a b : Nat}, a < n → b < a → c a b = true → low2 c f z n ≤ f a b := by
  intro n
  induction n with
  | zero => intro a b ha; omega
  | succ n ih =>
    intro a b ha hb hc
    simp only [low2]
    rcases Nat.lt_or_ge a n with h | h
    · exact Int.le_trans low_z (ih h hb hc)
    · obtain rfl : a = n := by omega
      exact low_le hb hc
theorem leg_le (h : IsSpace d) {p a b : Nat} (hp : p < d.length) (h3 : 3 ≤ d.length) (ha : a < d.length) (hb : b < d.length) (hap : a ≠ p) (hbp : b ≠ p) (hab : a ≠ b) : legV d p ≤ tog d p a b := by
  rw [legV_nat h hp h3]
  have key : ∀ a b, a < d.length → b < a → a ≠ p → b ≠ p → low2 (notP p) (tog d p) 120 d.length ≤ tog d p a b := fun a b ha hb h1 h2 => low2_le ha hb (by simp [notP, h1, h2])
  rcases Nat.lt_or_ge b a with h1 | h1
  · exact key a b ha h1 hap hbp
  · have := key b a hb (by omega) hbp hap
    have s := (h.1.2.2.2 a b ha hb).1
    unfold tog at this ⊢
    omega
theorem third {n p k : Nat} (h3 : 3 ≤ n) : ∃ m, m < n ∧ m ≠ p ∧ m ≠ k := by
  by_cases h0 : 0 ≠ p ∧ 0 ≠ k
  · exact ⟨0, by omega, h0⟩
  · by_cases h1 : 1 ≠ p ∧ 1 ≠ k
    · exact ⟨1, by omega, h1⟩
    · exact ⟨2, by omega, by omega, by omega⟩
theorem leg_two (h : IsSpace d) {p k : Nat} (hp : p < d.length) (h3 : 3 ≤ d.length) (hk : k < d.length) (hne : k ≠ p) : legV d p ≤ 2 * at2 d p k ∧ legV d p + legV d k ≤ 2 * at2 d p k := by
  obtain ⟨m, hm, h1, h2⟩ := third (p := p) (k := k) h3
  have a := leg_le h hp h3 hk hm hne h1 (Ne.symm h2)
  have b := leg_le h hk h3 hp hm (Ne.symm hne) h2 (Ne.symm h1)
  have t := h.2 p m k hp hm hk
  have s1 := (h.1.2.2.2 p k hp hk).1
  unfold tog at a b
  omega
theorem leg_neg {p : Int} : legV d p < 0 → legV d p = -1 := by
  unfold legV
  split
  · rename_i hc
    simp only [Bool.and_eq_true, decide_eq_true_eq] at hc
    have hP := hasB_is hc.1
    obtain ⟨n, rfl⟩ := Int.eq_ofNat_of_zero_le hP.2.1
    have hn : n < d.length := by have := hP.2.2; omega
    intro hlt
    exfalso
    have : ∀ m, m ≤ d.length → 0 ≤ low2 (notP n) (tog d n) 120 m := by
      intro m
      induction m with
      | zero => intro _; simp [low2]
      | succ m ih =>
        intro hm
        simp only [low2]
        rcases @low_mem (notP n m) (tog d n m) (low2 (notP n) (tog d n) 120 m) m with h1 | ⟨j, hj, -, h1⟩
        · rw [h1]; exact ih (by omega)
        · rw [h1]; exact (tog_in hP.1 hn (by omega) (by omega)).1
    have := this d.length (Nat.le_refl _)
    simp only [Int.toNat_natCast] at hlt
    omega
  · intro _; rfl
end
end Go.Mill

/- Plain facts: three points. -/
import Derived.Test.YtklaeofcpfggnaaPure
namespace Go.Mill
open Go
set_option linter.unusedSimpArgs false
set_option linter.unusedVariables false

def tri (d : List (List Int)) (a b c : Nat) : List (List Int) := [[0, at2 d a b, at2 d a c], [at2 d a b, 0, at2 d b c], [at2 d a c, at2 d b c, 0]]
section
variable {d : List (List Int)} {a b c : Nat}
theorem tri_at : at2 (tri d a b c) 0 0 = 0 ∧ at2 (tri d a b c) 1 1 = 0 ∧ at2 (tri d a b c) 2 2 = 0 ∧ at2 (tri d a b c) 0 1 = at2 d a b ∧ at2 (tri d a b c) 1 0 = at2 d a b ∧
    at2 (tri d a b c) 0 2 = at2 d a c ∧ at2 (tri d a b c) 2 0 = at2 d a c ∧ at2 (tri d a b c) 1 2 = at2 d b c ∧ at2 (tri d a b c) 2 1 = at2 d b c := ⟨rfl, rfl, rfl, rfl, rfl, rfl, rfl, rfl, rfl⟩
theorem lt3 {i : Nat} (h : i < 3) : i = 0 ∨ i = 1 ∨ i = 2 := by omega
theorem tri_space (hF : IsFar d) (ha : a < d.length) (hb : b < d.length) (hc : c < d.length) (hab : a ≠ b) (hac : a ≠ c) (hbc : b ≠ c) :
    spaceB (tri d a b c) = true ↔ at2 d a b ≤ at2 d a c + at2 d b c ∧ at2 d a c ≤ at2 d a b + at2 d b c ∧ at2 d b c ≤ at2 d a b + at2 d a c := by
  obtain ⟨e00, e11, e22, e01, e10, e02, e20, e12, e21⟩ := @tri_at d a b c
  have h1 := hF.2.2.2 a b ha hb
  have h2 := hF.2.2.2 a c ha hc
  have h3 := hF.2.2.2 b c hb hc
  have hl : (tri d a b c).length = 3 := rfl
  constructor
  · intro h
    have h := (spaceB_is h).2
    have t1 := h 0 1 2 (by rw [hl]; omega) (by rw [hl]; omega) (by rw [hl]; omega)
    have t2 := h 0 2 1 (by rw [hl]; omega) (by rw [hl]; omega) (by rw [hl]; omega)
    have t3 := h 1 2 0 (by rw [hl]; omega) (by rw [hl]; omega) (by rw [hl]; omega)
    rw [e01, e02, e21] at t1
    rw [e02, e01, e12] at t2
    rw [e12, e10, e02] at t3
    omega
  · intro h
    refine spaceB_yes ⟨⟨by rw [hl]; omega, by rw [hl]; omega, ?_, ?_⟩, ?_⟩
    · intro i hi
      rw [hl] at hi ⊢
      rcases lt3 hi with rfl | rfl | rfl <;> rfl
    · intro i k hi hk
      rw [hl] at hi hk
      rcases lt3 hi with rfl | rfl | rfl <;> rcases lt3 hk with rfl | rfl | rfl <;> (refine ⟨?_, ?_, ?_, ?_⟩ <;> simp only [e00, e11, e22, e01, e10, e02, e20, e12, e21] <;> first | omega | (constructor <;> intro <;> omega))
    · intro i k j hi hk hj
      rw [hl] at hi hk hj
      rcases lt3 hi with rfl | rfl | rfl <;> rcases lt3 hk with rfl | rfl | rfl <;> rcases lt3 hj with rfl | rfl | rfl <;> simp only [e00, e11, e22, e01, e10, e02, e20, e12, e21] <;> omega
theorem space_tri (hF : IsFar d) (h : ∀ a b c, a < d.length → b < a → c < b → spaceB (tri d a b c) = true) : IsSpace d := by
  refine ⟨hF, fun i k j hi hk hj => ?_⟩
  have z := fun i (hi : i < d.length) => (hF.2.2.2 i i hi hi).2.2.2.2 rfl
  have s := fun i k (hi : i < d.length) (hk : k < d.length) => hF.2.2.2 i k hi hk
  have key : ∀ a b c, a < d.length → b < a → c < b → at2 d a b ≤ at2 d a c + at2 d b c ∧ at2 d a c ≤ at2 d a b + at2 d b c ∧ at2 d b c ≤ at2 d a b + at2 d a c := fun a b c ha hb hc =>
    (tri_space hF ha (by omega) (by omega) (by omega) (by omega) (by omega)).1 (h a b c ha hb hc)
  have s1 := s i k hi hk
  have s2 := s i j hi hj
  have s3 := s j k hj hk
  have s4 := s k i hk hi
  have s5 := s j i hj hi
  have s6 := s k j hk hj
  rcases Nat.lt_trichotomy i k with h1 | rfl | h1
  · rcases Nat.lt_trichotomy j k with h2 | rfl | h2
    · rcases Nat.lt_trichotomy i j with h3 | rfl | h3
      · have := key k j i hk h2 h3; omega
      · have := z i hi; omega
      · have := key k i j hk h1 h3; omega
    · have := z j hj; omega
    · have := key j k i hj h2 h1; omega
  · have := z i hi; omega
  · rcases Nat.lt_trichotomy j i with h2 | rfl | h2
    · rcases Nat.lt_trichotomy k j with h3 | rfl | h3
      · have := key i j k hi h2 h3; omega
      · have := z k hk; omega
      · have := key i k j hi h1 h3; omega
    · have := z j hj; omega
    · have := key j i k hj h2 h1; omega
end
end Go.Mill

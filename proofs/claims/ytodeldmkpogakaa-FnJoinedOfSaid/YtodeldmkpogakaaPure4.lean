/- Plain facts: points that are picked; balls; between. -/
import Derived.Test.YtodeldmkpogakaaPure
import Derived.Test.YtodeldmkpogakaaMillM
namespace Go.Mill
open Go
set_option linter.unusedSimpArgs false
set_option linter.unusedVariables false

/-- The numbers below n that are asked for. -/
def pickN (c : Nat → Bool) (n : Nat) : List Int := ((List.range n).filter c).map fun (k : Nat) => (k : Int)
section
variable {c : Nat → Bool} {n : Nat}
theorem pickN_zero : pickN c 0 = [] := rfl
theorem pickN_yes (h : c n = true) : pickN c (n + 1) = pickN c n ++ [(n : Int)] := by simp [pickN, List.range_succ, List.filter_append, h]
theorem pickN_no (h : c n = false) : pickN c (n + 1) = pickN c n := by simp [pickN, List.range_succ, List.filter_append, h]
theorem pickN_len : (pickN c n).length ≤ n := by
  simp only [pickN, List.length_map]
  exact Nat.le_trans (List.length_filter_le _ _) (by simp)
theorem mem_pickN {x : Int} : x ∈ pickN c n ↔ ∃ k : Nat, x = (k : Int) ∧ k < n ∧ c k = true := by
  simp only [pickN, List.mem_map, List.mem_filter, List.mem_range]
  constructor
  · rintro ⟨k, ⟨h1, h2⟩, rfl⟩; exact ⟨k, rfl, h1, h2⟩
  · rintro ⟨k, rfl, h1, h2⟩; exact ⟨k, ⟨h1, h2⟩, rfl⟩
end

theorem pickN_sorted {c : Nat → Bool} {n i : Nat} (h1 : 1 ≤ i) (hi : i < (pickN c n).length) : (pickN c n).getD (i - 1) 0 < (pickN c n).getD i 0 := by
  have hp : (pickN c n).Pairwise (· < ·) := by
    unfold pickN
    rw [List.pairwise_map]
    refine List.Pairwise.imp (fun h => by omega) (List.Pairwise.filter c (List.pairwise_lt_range (n := n)))
  have hi' : i - 1 < (pickN c n).length := by omega
  have := List.pairwise_iff_getElem.1 hp (i - 1) i hi' hi (by omega)
  simpa [List.getElem?_eq_getElem hi, List.getElem?_eq_getElem hi'] using this
/-- A list of one's own, or none. -/
def Mine (b : Nat) (S : Store) (v : Value) (xs : List Int) : Prop := (v = .slice none 0 0 ∧ xs = []) ∨ ∃ t, OL b S v t xs
theorem Mine.ints {b : Nat} {S : Store} {v : Value} {xs : List Int} (h : Mine b S v xs) : Ints S v xs := by
  rcases h with ⟨rfl, rfl⟩ | ⟨t, h⟩
  · rfl
  · exact h.ints

def ballC (d : List (List Int)) (p : Nat) (f : Int) (k : Nat) : Bool := decide (at2 d p k ≤ f)
noncomputable def ballV (d : List (List Int)) (p f : Int) : List Int := if hasB d p && (decide (0 ≤ f) && decide (f ≤ 60)) then pickN (ballC d p.toNat f) d.length else []
theorem ballV_no {d : List (List Int)} {p f : Int} (h : ¬ (HasP d p ∧ 0 ≤ f ∧ f ≤ 60)) : ballV d p f = [] := by
  unfold ballV
  rw [if_neg]
  intro hc
  simp only [Bool.and_eq_true, decide_eq_true_eq] at hc
  exact h ⟨hasB_is hc.1, hc.2.1, hc.2.2⟩
theorem ballV_nat {d : List (List Int)} {p : Nat} {f : Int} (h : IsSpace d) (hp : p < d.length) (hf : 0 ≤ f ∧ f ≤ 60) : ballV d p f = pickN (ballC d p f) d.length := by
  have h1 : hasB d p = true := hasB_yes ⟨h, by omega, by omega⟩
  simp [ballV, h1, hf.1, hf.2]

def betC (d : List (List Int)) (a b : Nat) (k : Nat) : Bool := decide (at2 d a k + at2 d k b = at2 d a b)
noncomputable def betV (d : List (List Int)) (a b : Int) : List Int := if hasB d a && hasB d b then pickN (betC d a.toNat b.toNat) d.length else []
theorem betV_no {d : List (List Int)} {a b : Int} (h : ¬ (HasP d a ∧ HasP d b)) : betV d a b = [] := by
  unfold betV
  rw [if_neg]
  intro hc
  simp only [Bool.and_eq_true] at hc
  exact h ⟨hasB_is hc.1, hasB_is hc.2⟩
theorem betV_nat {d : List (List Int)} {a b : Nat} (h : IsSpace d) (ha : a < d.length) (hb : b < d.length) : betV d a b = pickN (betC d a b) d.length := by
  have h1 : hasB d a = true := hasB_yes ⟨h, by omega, by omega⟩
  have h2 : hasB d b = true := hasB_yes ⟨h, by omega, by omega⟩
  simp [betV, h1, h2]
end Go.Mill

/- Plain: the best ways over all points, in place. -/
import Derived.Test.YtodeldmkpogakaaPure
import Derived.Test.YtodeldmkpogakaaMillM
namespace Go.Mill
open Go
set_option linter.unusedSimpArgs false
set_option linter.unusedVariables false

section
variable (f : Int → Int → Int)
def stepJ (d : List (List Int)) (m k : Nat) : Nat → List (List Int)
  | 0 => d
  | j + 1 => put2 (stepJ d m k j) k j (min (at2 (stepJ d m k j) k j) (f (at2 (stepJ d m k j) k m) (at2 (stepJ d m k j) m j)))
def stepK (d : List (List Int)) (m n : Nat) : Nat → List (List Int)
  | 0 => d
  | k + 1 => stepJ f (stepK d m n k) m k n
def stepM (d : List (List Int)) (n : Nat) : Nat → List (List Int)
  | 0 => d
  | m + 1 => stepK f (stepM d n m) m n n
def fw (d : List (List Int)) : List (List Int) := stepM f d d.length d.length
end
def addW (a b : Int) : Int := IntKind.i64.wrap (a + b)
noncomputable def shortV (d : List (List Int)) : List (List Int) := if farB d then fw addW d else []
noncomputable def belowV (d : List (List Int)) : List (List Int) := if farB d then fw max d else []

section
variable {f : Int → Int → Int}
theorem stepJ_len {d : List (List Int)} {m k : Nat} : ∀ j, (stepJ f d m k j).length = d.length
  | 0 => rfl
  | j + 1 => by simp only [stepJ, put2_len]; exact stepJ_len j
theorem stepJ_row {d : List (List Int)} {m k : Nat} : ∀ (j i : Nat), ((stepJ f d m k j).getD i []).length = (d.getD i []).length
  | 0, _ => rfl
  | j + 1, i => by simp only [stepJ, put2_rowlen]; exact stepJ_row j i
theorem stepK_len {d : List (List Int)} {m n : Nat} : ∀ k, (stepK f d m n k).length = d.length
  | 0 => rfl
  | k + 1 => by simp only [stepK, stepJ_len]; exact stepK_len k
theorem stepK_row {d : List (List Int)} {m n : Nat} : ∀ (k i : Nat), ((stepK f d m n k).getD i []).length = (d.getD i []).length
  | 0, _ => rfl
  | k + 1, i => by simp only [stepK, stepJ_row]; exact stepK_row k i
theorem stepM_len {d : List (List Int)} {n : Nat} : ∀ m, (stepM f d n m).length = d.length
  | 0 => rfl
  | m + 1 => by simp only [stepM, stepK_len]; exact stepM_len m
theorem stepM_row {d : List (List Int)} {n : Nat} : ∀ (m i : Nat), ((stepM f d n m).getD i []).length = (d.getD i []).length
  | 0, _ => rfl
  | m + 1, i => by simp only [stepM, stepK_row]; exact stepM_row m i
theorem fw_len {d : List (List Int)} : (fw f d).length = d.length := stepM_len _
theorem fw_row {d : List (List Int)} (i : Nat) : ((fw f d).getD i []).length = (d.getD i []).length := stepM_row _ i
end
/-- A table of one's own, or none. -/
def MineT (b : Nat) (S : Store) (v : Value) (d : List (List Int)) : Prop := (v = .slice none 0 0 ∧ d = []) ∨ ∃ t g, OT b S v t g d
theorem MineT.mat {b : Nat} {S : Store} {v : Value} {d : List (List Int)} (h : MineT b S v d) : ∃ r, Mat S v r d := by
  rcases h with ⟨rfl, rfl⟩ | ⟨t, g, h⟩
  · exact ⟨fun _ => undef, rfl, fun i hi => absurd hi (Nat.not_lt_zero _)⟩
  · exact ⟨_, h.mat⟩
theorem MineT.keep {b : Nat} {S S' : Store} {v : Value} {d : List (List Int)} (h : MineT b S v d) (hS : ∀ q, b ≤ q → q < S.length → S'[q]? = S[q]?) : MineT b S' v d := by
  rcases h with h | ⟨t, g, h⟩
  · exact .inl h
  · exact .inr ⟨t, g, h.keep hS⟩
theorem MineT.atom {b : Nat} {S : Store} {v : Value} {d : List (List Int)} (h : MineT b S v d) : atomB v = true := by
  rcases h with ⟨rfl, -⟩ | ⟨t, g, h⟩
  · rfl
  · rw [h.top]; rfl
theorem MineT.matH {b : Nat} {S : Store} {v : Value} {d : List (List Int)} (h : MineT b S v d) : ∃ r, MatH b S v r d := by
  rcases h with ⟨rfl, rfl⟩ | ⟨t, g, h⟩
  · exact ⟨fun _ => undef, fun _ _ => ⟨rfl, fun i hi => absurd hi (Nat.not_lt_zero _)⟩⟩
  · exact ⟨_, h.matH⟩
end Go.Mill

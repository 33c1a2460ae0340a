/- Plain: sums of four points, gaps, trees. -/
import Derived.Test.YtodeldmkpogakaaPure2
import Derived.Test.YtodeldmkpogakaaMillM
namespace Go.Mill
open Go
set_option linter.unusedSimpArgs false
set_option linter.unusedVariables false

/-- By how much the two greatest of three numbers differ. -/
def gap3 (x y z : Int) : Int := max (max x y) z - (x + y + z - max (max x y) z - min (min x y) z)
theorem gap3_swap1 {x y z : Int} : gap3 y x z = gap3 x y z := by unfold gap3; omega
theorem gap3_swap2 {x y z : Int} : gap3 x z y = gap3 x y z := by unfold gap3; omega
theorem gap3_sorted {x y z p q r : Int} (h1 : p ≤ q) (h2 : q ≤ r) (hs : p + q + r = x + y + z) (hr : r = x ∨ r = y ∨ r = z) (hp : p = x ∨ p = y ∨ p = z) (hle : x ≤ r ∧ y ≤ r ∧ z ≤ r) (hge : p ≤ x ∧ p ≤ y ∧ p ≤ z) : r - q = gap3 x y z := by
  unfold gap3; omega

def sum1 (d : List (List Int)) (a b c e : Nat) : Int := at2 d a b + at2 d c e
def sum2 (d : List (List Int)) (a b c e : Nat) : Int := at2 d a c + at2 d b e
def sum3 (d : List (List Int)) (a b c e : Nat) : Int := at2 d a e + at2 d b c
def sumsL (d : List (List Int)) (a b c e : Nat) : List Int := [sum1 d a b c e, sum2 d a b c e, sum3 d a b c e]
noncomputable def fourB (d : List (List Int)) (a b c e : Int) : Bool := hasB d a && (hasB d b && (hasB d c && hasB d e))
theorem fourB_iff {d : List (List Int)} {a b c e : Int} : fourB d a b c e = true ↔ HasP d a ∧ HasP d b ∧ HasP d c ∧ HasP d e := by
  simp only [fourB, Bool.and_eq_true]
  exact ⟨fun h => ⟨hasB_is h.1, hasB_is h.2.1, hasB_is h.2.2.1, hasB_is h.2.2.2⟩, fun h => ⟨hasB_yes h.1, hasB_yes h.2.1, hasB_yes h.2.2.1, hasB_yes h.2.2.2⟩⟩
theorem fourB_no {d : List (List Int)} {a b c e : Int} (h : ¬ (HasP d a ∧ HasP d b ∧ HasP d c ∧ HasP d e)) : fourB d a b c e = false := by
  cases hb : fourB d a b c e with
  | false => rfl
  | true => exact absurd (fourB_iff.1 hb) h
noncomputable def sumsV (d : List (List Int)) (a b c e : Int) : List Int := if fourB d a b c e then sumsL d a.toNat b.toNat c.toNat e.toNat else []
def gapN (d : List (List Int)) (a b c e : Nat) : Int := gap3 (sum1 d a b c e) (sum2 d a b c e) (sum3 d a b c e)
noncomputable def gapV (d : List (List Int)) (a b c e : Int) : Int := if fourB d a b c e then gapN d a.toNat b.toNat c.toNat e.toNat else -1
section
variable {d : List (List Int)}
theorem has_nat (h : IsSpace d) {a : Nat} (ha : a < d.length) : HasP d a := ⟨h, by omega, by omega⟩
theorem sumsV_no {a b c e : Int} (h : fourB d a b c e = false) : sumsV d a b c e = [] := by simp [sumsV, h]
theorem gapV_no {a b c e : Int} (h : fourB d a b c e = false) : gapV d a b c e = -1 := by simp [gapV, h]
theorem four_nat (h : IsSpace d) {a b c e : Nat} (ha : a < d.length) (hb : b < d.length) (hc : c < d.length) (he : e < d.length) : fourB d a b c e = true := fourB_iff.2 ⟨has_nat h ha, has_nat h hb, has_nat h hc, has_nat h he⟩
theorem sumsV_nat (h : IsSpace d) {a b c e : Nat} (ha : a < d.length) (hb : b < d.length) (hc : c < d.length) (he : e < d.length) : sumsV d a b c e = sumsL d a b c e := by
  simp [sumsV, four_nat h ha hb hc he]
theorem gapV_nat (h : IsSpace d) {a b c e : Nat} (ha : a < d.length) (hb : b < d.length) (hc : c < d.length) (he : e < d.length) : gapV d a b c e = gapN d a b c e := by
  simp [gapV, four_nat h ha hb hc he]
theorem gap_swap12 (h : IsFar d) {a b c e : Nat} (ha : a < d.length) (hb : b < d.length) : gapN d b a c e = gapN d a b c e := by
  have s := (h.at hb ha).1
  have e1 : sum1 d b a c e = sum1 d a b c e := by unfold sum1; rw [s]
  have e2 : sum2 d b a c e = sum3 d a b c e := by unfold sum2 sum3; omega
  have e3 : sum3 d b a c e = sum2 d a b c e := by unfold sum2 sum3; omega
  unfold gapN
  rw [e1, e2, e3, gap3_swap2]
theorem gap_swap34 (h : IsFar d) {a b c e : Nat} (hc : c < d.length) (he : e < d.length) : gapN d a b e c = gapN d a b c e := by
  have s := (h.at hc he).1
  have e1 : sum1 d a b e c = sum1 d a b c e := by unfold sum1; rw [s]
  have e2 : sum2 d a b e c = sum3 d a b c e := by unfold sum2 sum3; omega
  have e3 : sum3 d a b e c = sum2 d a b c e := by unfold sum2 sum3; omega
  unfold gapN
  rw [e1, e2, e3, gap3_swap2]
theorem gap_swap23 (h : IsFar d) {a b c e : Nat} (hb : b < d.length) (hc : c < d.length) : gapN d a c b e = gapN d a b c e := by
  have s := (h.at hb hc).1
  have e1 : sum1 d a c b e = sum2 d a b c e := by unfold sum1 sum2; omega
  have e2 : sum2 d a c b e = sum1 d a b c e := by unfold sum1 sum2; omega
  have e3 : sum3 d a c b e = sum3 d a b c e := by unfold sum3; omega
  unfold gapN
  rw [e1, e2, e3, gap3_swap1]
/-- The second and the fourth point exchanged. -/
theorem gap_swap24 (h : IsFar d) {a b c e : Nat} (hb : b < d.length) (hc : c < d.length) (he : e < d.length) : gapN d a e c b = gapN d a b c e := by
  rw [← gap_swap34 h (a := a) (b := b) (c := c) (e := e) hc he, ← gap_swap23 h (a := a) (b := b) (c := e) (e := c) hb he, ← gap_swap34 h (a := a) (b := e) (c := b) (e := c) hb hc]
theorem gap_same (h : IsSpace d) {a c e : Nat} (ha : a < d.length) (hc : c < d.length) (he : e < d.length) : gapN d a a c e = 0 := by
  have z := (h.1.at ha ha).2.2.2.2 rfl
  have t := h.2 c e a hc he ha
  have s := (h.1.at ha hc).1
  unfold gapN gap3 sum1 sum2 sum3
  rw [z]
  omega
theorem gap_nn {a b c e : Nat} : 0 ≤ gapN d a b c e := by unfold gapN gap3; omega
theorem gap_le (h : IsSpace d) {a b c e : Nat} (ha : a < d.length) (hb : b < d.length) (hc : c < d.length) (he : e < d.length) : gapN d a b c e ≤ 2 * at2 d a b := by
  have s1 := (h.1.at ha hb).1
  have s2 := (h.1.at ha hc).1
  have s3 := (h.1.at ha he).1
  have s4 := (h.1.at hb hc).1
  have s5 := (h.1.at hb he).1
  have t1 := h.2 a c b ha hc hb
  have t2 := h.2 b c a hb hc ha
  have t3 := h.2 a e b ha he hb
  have t4 := h.2 b e a hb he ha
  have t5 := h.2 c e a hc he ha
  have t6 := h.2 c e b hc he hb
  unfold gapN gap3 sum1 sum2 sum3
  omega
theorem gap_two (h : IsSpace d) {a b c e : Nat} (ha : a < d.length) (hb : b < d.length) (hc : c < d.length) (he : e < d.length) :
    gapN d a b c e ≤ 2 * at2 d a b ∧ gapN d a b c e ≤ 2 * at2 d a c ∧ gapN d a b c e ≤ 2 * at2 d a e ∧ gapN d a b c e ≤ 2 * at2 d b c ∧ gapN d a b c e ≤ 2 * at2 d b e ∧ gapN d a b c e ≤ 2 * at2 d c e := by
  have hF := h.1
  refine ⟨gap_le h ha hb hc he, ?_, ?_, ?_, ?_, ?_⟩
  · rw [← gap_swap23 hF hb hc]; exact gap_le h ha hc hb he
  · rw [← gap_swap24 hF hb hc he]; exact gap_le h ha he hc hb
  · rw [← gap_swap12 hF ha hb, ← gap_swap23 hF ha hc]; exact gap_le h hb hc ha he
  · rw [← gap_swap12 hF ha hb, ← gap_swap24 hF ha hc he]; exact gap_le h hb he hc ha
  · rw [← gap_swap23 hF hb hc, ← gap_swap12 hF ha hc, ← gap_swap24 hF ha hb he]; exact gap_le h hc he hb ha
end

/-- What holds of four points in descending order holds of any, if it does not hang on the order. -/
theorem four_sort {n : Nat} {P : Nat → Nat → Nat → Nat → Prop} (s12 : ∀ a b c e, a < n → b < n → c < n → e < n → P a b c e → P b a c e) (s23 : ∀ a b c e, a < n → b < n → c < n → e < n → P a b c e → P a c b e) (s34 : ∀ a b c e, a < n → b < n → c < n → e < n → P a b c e → P a b e c)
    (h : ∀ a b c e, a < n → b ≤ a → c ≤ b → e ≤ c → P a b c e) : ∀ a b c e, a < n → b < n → c < n → e < n → P a b c e := by
  have k4 : ∀ a b c e, a < n → b ≤ a → c ≤ b → e < n → P a b c e := by
    intro a b c e ha hb hc he
    rcases Nat.lt_or_ge c e with h1 | h1
    · refine s34 a b e c ha (by omega) he (by omega) ?_
      rcases Nat.lt_or_ge b e with h2 | h2
      · refine s23 a e b c ha he (by omega) (by omega) ?_
        rcases Nat.lt_or_ge a e with h3 | h3
        · exact s12 e a b c he ha (by omega) (by omega) (h e a b c he (by omega) hb hc)
        · exact h a e b c ha h3 (by omega) hc
      · exact h a b e c ha hb h2 (by omega)
    · exact h a b c e ha hb hc h1
  have k3 : ∀ a b c e, a < n → b ≤ a → c < n → e < n → P a b c e := by
    intro a b c e ha hb hc he
    rcases Nat.lt_or_ge b c with h2 | h2
    · refine s23 a c b e ha hc (by omega) he ?_
      rcases Nat.lt_or_ge a c with h3 | h3
      · exact s12 c a b e hc ha (by omega) he (k4 c a b e hc (by omega) hb he)
      · exact k4 a c b e ha h3 (by omega) he
    · exact k4 a b c e ha hb h2 he
  intro a b c e ha hb hc he
  rcases Nat.lt_or_ge a b with h3 | h3
  · exact s12 b a c e hb ha hc he (k3 b a c e hb (by omega) hc he)
  · exact k3 a b c e ha h3 hc he

/-- A loop within loops. -/
def nest (F : Nat → Int → Int) (z : Int) : Nat → Int
  | 0 => z
  | n + 1 => F n (nest F z n)
section
variable {F : Nat → Int → Int} {z x M : Int} {n : Nat}
theorem nest_ge (h : ∀ i, i < n → ∀ z, z ≤ F i z) : z ≤ nest F z n := by
  induction n with
  | zero => exact Int.le_refl _
  | succ n ih => exact Int.le_trans (ih fun i hi => h i (by omega)) (h n (by omega) _)
theorem nest_at {i : Nat} (h : ∀ i, i < n → ∀ z, z ≤ F i z) (hi : i < n) (hx : ∀ z, x ≤ F i z) : x ≤ nest F z n := by
  induction n with
  | zero => omega
  | succ n ih =>
    rcases Nat.lt_or_ge i n with h1 | h1
    · exact Int.le_trans (ih (fun i hi => h i (by omega)) h1) (h n (by omega) _)
    · obtain rfl : i = n := by omega
      exact hx _
theorem nest_le (hz : z ≤ M) (h : ∀ i, i < n → ∀ z, z ≤ M → F i z ≤ M) : nest F z n ≤ M := by
  induction n with
  | zero => exact hz
  | succ n ih => exact h n (by omega) _ (ih fun i hi => h i (by omega))
theorem nest_ge0 (hz : x ≤ z) (h : ∀ i, i < n → ∀ z, z ≤ F i z) : x ≤ nest F z n := Int.le_trans hz (nest_ge h)
end
/-- The greatest gap, as the program goes; as the reference goes. -/
def wE (d : List (List Int)) (a b c m : Nat) (z : Int) : Int := nest (fun e z => max z (gapN d a b c e)) z m
def wC (d : List (List Int)) (a b n m : Nat) (z : Int) : Int := nest (fun c z => wE d a b c n z) z m
def wB (d : List (List Int)) (a n m : Nat) (z : Int) : Int := nest (fun b z => wC d a b n n z) z m
def wA (d : List (List Int)) (n m : Nat) (z : Int) : Int := nest (fun a z => wB d a n n z) z m
def vC (d : List (List Int)) (a b m : Nat) (z : Int) : Int := nest (fun c z => wE d a b c c z) z m
def vB (d : List (List Int)) (a m : Nat) (z : Int) : Int := nest (fun b z => vC d a b b z) z m
def vA (d : List (List Int)) (m : Nat) (z : Int) : Int := nest (fun a z => vB d a a z) z m
section
variable {d : List (List Int)}
theorem wE_ge {a b c m : Nat} {z : Int} : z ≤ wE d a b c m z := nest_ge fun i _ z => by omega
theorem wC_ge {a b n m : Nat} {z : Int} : z ≤ wC d a b n m z := nest_ge fun i _ z => wE_ge
theorem wB_ge {a n m : Nat} {z : Int} : z ≤ wB d a n m z := nest_ge fun i _ z => wC_ge
theorem wA_ge {n m : Nat} {z : Int} : z ≤ wA d n m z := nest_ge fun i _ z => wB_ge
theorem vC_ge {a b m : Nat} {z : Int} : z ≤ vC d a b m z := nest_ge fun i _ z => wE_ge
theorem vB_ge {a m : Nat} {z : Int} : z ≤ vB d a m z := nest_ge fun i _ z => vC_ge
theorem vA_ge {m : Nat} {z : Int} : z ≤ vA d m z := nest_ge fun i _ z => vB_ge
theorem wE_at {a b c m e : Nat} {z : Int} (he : e < m) : gapN d a b c e ≤ wE d a b c m z := nest_at (fun i _ z => by omega) he fun z => by omega
theorem wA_at {n a b c e : Nat} {z : Int} (ha : a < n) (hb : b < n) (hc : c < n) (he : e < n) : gapN d a b c e ≤ wA d n n z :=
  nest_at (fun _ _ _ => wB_ge) ha fun _ => nest_at (fun _ _ _ => wC_ge) hb fun _ => nest_at (fun _ _ _ => wE_ge) hc fun _ => wE_at he
theorem vA_at {n a b c e : Nat} {z : Int} (ha : a < n) (hb : b < a) (hc : c < b) (he : e < c) : gapN d a b c e ≤ vA d n z :=
  nest_at (fun _ _ _ => vB_ge) ha fun _ => nest_at (fun _ _ _ => vC_ge) hb fun _ => nest_at (fun _ _ _ => wE_ge) hc fun _ => wE_at he
theorem wA_le {n : Nat} {z M : Int} (hz : z ≤ M) (h : ∀ a b c e, a < n → b < n → c < n → e < n → gapN d a b c e ≤ M) : wA d n n z ≤ M :=
  nest_le hz fun a ha z hz => nest_le hz fun b hb z hz => nest_le hz fun c hc z hz => nest_le hz fun e he z hz => by have := h a b c e ha hb hc he; omega
theorem vA_le {n : Nat} {z M : Int} (hz : z ≤ M) (h : ∀ a b c e, a < n → b < n → c < n → e < n → gapN d a b c e ≤ M) : vA d n z ≤ M :=
  nest_le hz fun a ha z hz => nest_le hz fun b hb z hz => nest_le hz fun c hc z hz => nest_le hz fun e he z hz => by have := h a b c e ha (by omega) (by omega) (by omega); omega
theorem gap_all (h : IsSpace d) {M : Int} (hM : 0 ≤ M) (hd : ∀ a b c e, a < d.length → b < a → c < b → e < c → gapN d a b c e ≤ M) : ∀ a b c e, a < d.length → b < d.length → c < d.length → e < d.length → gapN d a b c e ≤ M := by
  have hF := h.1
  refine four_sort (P := fun a b c e => gapN d a b c e ≤ M) (fun a b c e ha hb hc he hp => by rw [gap_swap12 hF ha hb]; exact hp) (fun a b c e ha hb hc he hp => by rw [gap_swap23 hF hb hc]; exact hp) (fun a b c e ha hb hc he hp => by rw [gap_swap34 hF hc he]; exact hp) ?_
  intro a b c e ha hb hc he
  show gapN d a b c e ≤ M
  by_cases h1 : b = a
  · subst h1; rw [gap_same h ha (by omega) (by omega)]; exact hM
  · by_cases h2 : c = b
    · subst h2
      rw [← gap_swap12 hF (show a < d.length from ha) (show c < d.length by omega), ← gap_swap23 hF ha (by omega), gap_same h (by omega) ha (by omega)]; exact hM
    · by_cases h3 : e = c
      · subst h3
        rw [← gap_swap23 hF (show b < d.length by omega) (show e < d.length by omega), ← gap_swap34 hF (show b < d.length by omega) (show e < d.length by omega), ← gap_swap12 hF ha (show e < d.length by omega), ← gap_swap23 hF ha (show e < d.length by omega), gap_same h (by omega) ha (by omega)]; exact hM
      · exact hd a b c e ha (by omega) (by omega) (by omega)
theorem worst_eq (h : IsSpace d) : wA d d.length d.length 0 = vA d d.length 0 := by
  refine Int.le_antisymm (wA_le vA_ge (gap_all h vA_ge fun a b c e ha hb hc he => vA_at ha hb hc he)) ?_
  exact vA_le wA_ge fun a b c e ha hb hc he => wA_at ha hb hc he
theorem worst_small (h : IsSpace d) : 0 ≤ vA d d.length 0 ∧ vA d d.length 0 ≤ 240 := by
  refine ⟨vA_ge, vA_le (by omega) fun a b c e ha hb hc he => ?_⟩
  have := gap_le h ha hb hc he
  have := (h.1.at ha hb).2.2.1
  omega
noncomputable def worstV (d : List (List Int)) : Int := if spaceB d then vA d d.length 0 else -1
theorem worst_yes (h : IsSpace d) : worstV d = vA d d.length 0 := by simp [worstV, spaceB_yes h]
theorem worst_no (h : spaceB d = false) : worstV d = -1 := by simp [worstV, h]
noncomputable def treeB (d : List (List Int)) : Bool := decide (worstV d = 0)
theorem tree_of (h : IsSpace d) (hd : ∀ a b c e, a < d.length → b < a → c < b → e < c → gapN d a b c e ≤ 0) : treeB d = true := by
  simp only [treeB, decide_eq_true_eq, worst_yes h]
  exact Int.le_antisymm (vA_le (Int.le_refl _) (gap_all h (Int.le_refl _) hd)) vA_ge
end
theorem copyS {S : Store} {d : List (List Int)} {a b c e : Nat} : OL S.length (S ++ [.own [.int .i64 (at2 d a b + at2 d c e), .int .i64 (at2 d a c + at2 d b e), .int .i64 (at2 d a e + at2 d b c)]]) (mk S.length 3) S.length (sumsL d a b c e) := ⟨rfl, Nat.le_refl _, own_last⟩
end Go.Mill

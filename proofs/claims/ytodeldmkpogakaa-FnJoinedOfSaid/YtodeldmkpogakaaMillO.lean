/- The mill, part O: all stays but one handle (a list of one's own that grows beside other memory). -/
import Derived.Test.YtodeldmkpogakaaMillN
namespace Go.Mill
open Go Go.RowKit
set_option linter.unusedSimpArgs false
set_option linter.unusedVariables false

/-- All handles but x are as they were. -/
structure Aside (x : Nat) (S S' : Store) : Prop where
  len : S.length ≤ S'.length
  keep : ∀ q, q < S.length → q ≠ x → S'[q]? = S[q]?
theorem Aside.refl (x : Nat) (S : Store) : Aside x S S := ⟨Nat.le_refl _, fun _ _ _ => rfl⟩
theorem Aside.pre {x : Nat} {S A B : Store} (h : Aside x S A) (k : Pre A.length A B) : Aside x S B :=
  ⟨Nat.le_trans h.len k.len, fun q hq hx => by rw [k.low q (Nat.lt_of_lt_of_le hq h.len), h.keep q hq hx]⟩
theorem Aside.app {x : Nat} {S A : Store} (h : Aside x S A) (T : Store) : Aside x S (A ++ T) := h.pre ((Pre.refl _ A).app (Nat.le_refl _) T)
theorem Aside.trans {x : Nat} {A B C : Store} (h : Aside x A B) (k : Aside x B C) : Aside x A C :=
  ⟨Nat.le_trans h.len k.len, fun q hq hx => by rw [k.keep q (Nat.lt_of_lt_of_le hq h.len) hx, h.keep q hq hx]⟩
/-- What lies before x is as it was. -/
theorem Aside.toPre {x : Nat} {S S' : Store} (h : Aside x S S') (hx : x ≤ S.length) : Pre x S S' := ⟨h.len, fun q hq => h.keep q (by omega) (by omega)⟩
theorem Aside.rd {x : Nat} {S S' : Store} (h : Aside x S S') {p n c : Nat} {sp : Option Nat} {o : Nat} (hp : p < S.length) (hx : p ≠ x) : Mill.rd S' (.slice (some ⟨p, o, sp⟩) n c) = Mill.rd S (.slice (some ⟨p, o, sp⟩) n c) := by
  simp only [Mill.rd, h.keep p hp hx]
theorem Aside.ot {x : Nat} {S S' : Store} (h : Aside x S S') {b : Nat} {v : Value} {t : Nat} {g : Nat → Nat} {d : List (List Int)} (O : OT b S v t g d) (hx : x < b) : OT b S' v t g d := O.keep fun q hq hl => h.keep q hl (by omega)
theorem Aside.ld {x : Nat} {S S' : Store} (h : Aside x S S') {p o : Nat} (hp : p < S.length) (hx : p ≠ x) : Mill.ld S' (.pointer (some ⟨p, o, none⟩)) = Mill.ld S (.pointer (some ⟨p, o, none⟩)) := by
  simp only [Mill.ld, cell, h.keep p hp hx]
/-- A list of one's own that began at handle x. -/
structure LX (x : Nat) (S0 S : Store) (v : Value) (xs : List Int) : Prop where
  aside : Aside x S0 S
  list : ∃ t, OL x S v t xs ∧ (t = x ∨ S0.length ≤ t)
theorem LX.start {x : Nat} {S : Store} {v : Value} {xs : List Int} (h : OL x S v x xs) : LX x S S v xs := ⟨Aside.refl _ _, x, h, .inl rfl⟩
/-- A number more. -/
theorem LX.add {x : Nat} {S0 S : Store} {v : Value} {xs : List Int} (h : LX x S0 S v xs) (y : Int) :
    ∃ v' S', Mill.app (S ++ [.own [.int .i64 y]]) v (Mill.mk S.length 1) = some (v', S') ∧ slen v' = xs.length + 1 ∧ LX x S0 S' v' (xs ++ [y]) := by
  obtain ⟨t, hL, ht⟩ := h.list
  obtain ⟨v', S', h1, h2, h3, h4, t', h5, h6⟩ := hL.add' y
  have hl := h.aside.len
  refine ⟨v', S', h1, h2, ⟨Nat.le_trans hl h3.len, fun q hq hx => ?_⟩, t', h6, .inr (Nat.le_trans hl h5)⟩
  rw [h4 q (Nat.lt_of_lt_of_le hq hl) (by rcases ht with rfl | ht <;> omega), h.aside.keep q hq hx]
theorem LX.same {x : Nat} {S0 S S' : Store} {v : Value} {xs : List Int} (h : LX x S0 S v xs) (k : Pre S.length S S') : LX x S0 S' v xs := by
  obtain ⟨t, hL, ht⟩ := h.list
  exact ⟨h.aside.pre k, t, hL.pre k (own_lt hL.own), ht⟩
theorem LX.ol {x : Nat} {S0 S : Store} {v : Value} {xs : List Int} (h : LX x S0 S v xs) : ∃ t, OL x S v t xs := let ⟨t, hL, _⟩ := h.list; ⟨t, hL⟩
theorem OL.mono {b b' : Nat} {S : Store} {v : Value} {t : Nat} {xs : List Int} (h : OL b S v t xs) (hb : b' ≤ b) : OL b' S v t xs := ⟨h.top, by have := h.bt; omega, h.own⟩
theorem ixK_one {v : Value} {k : IntKind} {kp : Value → Prop} (h : 1 < slen v) : ixK v (.int k 1) kp = kp (eptr v 1) := by
  simp [ixK_int, andK]; intro _; omega
theorem ixK_two {v : Value} {k : IntKind} {kp : Value → Prop} (h : 2 < slen v) : ixK v (.int k 2) kp = kp (eptr v 2) := by
  simp [ixK_int, andK]; intro _; omega
theorem OL.below {b : Nat} {S : Store} {v : Value} {t : Nat} {xs : List Int} (h : OL b S v t xs) {i : Nat} (hi : i < b) (ob : Ob) : OL b (S.set i ob) v t xs :=
  ⟨h.top, h.bt, by rw [List.getElem?_set_ne (by have := h.bt; omega)]; exact h.own⟩
theorem OL.keep {b : Nat} {S S' : Store} {v : Value} {t : Nat} {xs : List Int} (h : OL b S v t xs) (hk : S'[t]? = S[t]?) : OL b S' v t xs := ⟨h.top, h.bt, by rw [hk]; exact h.own⟩
theorem OL.st {b : Nat} {S : Store} {v : Value} {t : Nat} {xs : List Int} (h : OL b S v t xs) {k : Nat} (hk : k < xs.length) (x : Int) :
    Mill.st S (eptr v k) (.int .i64 x) = some (S.set t (.own (Mill.ints (xs.set k x)))) ∧ OL b (S.set t (.own (Mill.ints (xs.set k x)))) v t (xs.set k x) := by
  refine ⟨by rw [h.top, st_own h.own (by simpa [Mill.ints] using hk), ints_set1], ?_, h.bt, own_set (own_lt h.own)⟩
  rw [h.top]; simp
end Go.Mill

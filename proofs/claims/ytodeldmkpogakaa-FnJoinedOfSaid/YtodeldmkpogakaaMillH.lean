/- The mill, part H: loops; slices of numbers; tables of numbers. -/
import Derived.Test.YtodeldmkpogakaaMillG
namespace Go.Mill
open Go Go.RowKit
set_option linter.unusedSimpArgs false
set_option linter.unusedVariables false

/-! ### Loops -/
def loopK (I : Nat → Env → Store → Prop) (m : Nat) (Q : AX → Env → Store → Prop) : AX → Env → Store → Prop :=
  fun x e' S' => match x with | .normal => ∃ m', m' < m ∧ ∃ e0, sub e0 e' ∧ I m' e0 S' | x => Q x e' S'
theorem aw_loop {P : Program} {c : Code} {Q : AX → Env → Store → Prop} {e : Env} {S : Store} (I : Nat → Env → Store → Prop) (m : Nat) (e0 : Env) (hs : sub e0 e) (h0 : I m e0 S)
    (round : ∀ m e1 S1, I m e1 S1 → aw P c (loopK I m Q) e1 S1) : aw P (.loop c) Q e S := ⟨I, ⟨m, e0, hs, h0⟩, round⟩

theorem loopK_exit {I : Nat → Env → Store → Prop} {m i : Nat} {Q : AX → Env → Store → Prop} {e : Env} {S : Store} : loopK I m Q (.exit i) e S = Q (.exit i) e S := nd rfl
theorem loopK_ret {I : Nat → Env → Store → Prop} {m : Nat} {Q : AX → Env → Store → Prop} {e : Env} {S : Store} : loopK I m Q .ret e S = Q .ret e S := nd rfl

/-- A loop that counts up to n; y: what else goes from round to round. -/
def forI {α : Type} (n : Nat) (E : Nat → α → Env) (T : Nat → α → Store → Prop) (m : Nat) (e : Env) (S : Store) : Prop := ∃ i y, i ≤ n ∧ m = n - i ∧ e = E i y ∧ T i y S
def forK {α : Type} (n : Nat) (E : Nat → α → Env) (T : Nat → α → Store → Prop) (i : Nat) (Q : AX → Env → Store → Prop) : AX → Env → Store → Prop := loopK (forI n E T) (n - i) Q
theorem aw_for {P : Program} {c : Code} {Q : AX → Env → Store → Prop} {e : Env} {S : Store} {α : Type} (n : Nat) (E : Nat → α → Env) (T : Nat → α → Store → Prop) (y : α) (hs : sub (E 0 y) e) (h0 : T 0 y S)
    (round : ∀ i y S1, i ≤ n → T i y S1 → aw P c (forK n E T i Q) (E i y) S1) : aw P (.loop c) Q e S := by
  refine aw_loop (forI n E T) n (E 0 y) hs ⟨0, y, Nat.zero_le _, rfl, rfl, h0⟩ ?_
  rintro m _ S1 ⟨i, y, hi, rfl, rfl, hT⟩
  exact round i y S1 hi hT
theorem forK_exit {α : Type} {n : Nat} {E : Nat → α → Env} {T : Nat → α → Store → Prop} {i j : Nat} {Q : AX → Env → Store → Prop} {e : Env} {S : Store} : forK n E T i Q (.exit j) e S = Q (.exit j) e S := nd rfl
theorem forK_ret {α : Type} {n : Nat} {E : Nat → α → Env} {T : Nat → α → Store → Prop} {i : Nat} {Q : AX → Env → Store → Prop} {e : Env} {S : Store} : forK n E T i Q .ret e S = Q .ret e S := nd rfl
theorem forK_next {α : Type} {n : Nat} {E : Nat → α → Env} {T : Nat → α → Store → Prop} {i : Nat} {Q : AX → Env → Store → Prop} {e : Env} {S : Store} (y : α) (hi : i < n) (hs : sub (E (i + 1) y) e) (hT : T (i + 1) y S) : forK n E T i Q .normal e S :=
  ⟨n - (i + 1), by omega, E (i + 1) y, hs, i + 1, y, by omega, rfl, rfl, hT⟩

theorem sub_nil {e : Env} : sub [] e = True := nd rfl
theorem sub_cons {i : Nat} {v : Value} {e0 e : Env} : sub ((i, v) :: e0) e = (lk e i = some v ∧ sub e0 e) := nd rfl
attribute [go_sem] loopK_exit loopK_ret forK_exit forK_ret sub_nil sub_cons

/-- The counter's step. -/
theorem wrap_succ {i : Nat} (h : i < 9223372036854775807) : IntKind.i64.wrap ((i : Int) + 1) = ((i + 1 : Nat) : Int) := by rw [wrap64 (by omega)]; omega
theorem wrap_pred {i : Nat} (h : 0 < i) (h2 : i < 9223372036854775807) : IntKind.i64.wrap ((i : Int) - 1) = ((i - 1 : Nat) : Int) := by rw [wrap64 (by omega)]; omega

/-! ### Slices of numbers -/
def ints (xs : List Int) : List Value := xs.map (.int .i64)

theorem rd_isSl {S : Store} {v : Value} {ys : List Value} (h : rd S v = some ys) : isSl v = true := by
  unfold rd at h
  split at h
  · rfl
  · rfl
  · cases h
theorem rd_slen {S : Store} {v : Value} {ys : List Value} (h : rd S v = some ys) : slen v = ys.length := by
  unfold rd at h
  split at h
  · rename_i p n _
    cases hb : (S[p.block]?).bind Ob.cells with
    | none => simp [hb] at h
    | some cs =>
      simp only [hb, Option.bind_some] at h
      split at h
      · simp only [Option.some.injEq] at h
        rw [← h]
        simp [slen]; omega
      · cases h
  · simp only [Option.some.injEq] at h; subst h; rfl
  · cases h
theorem rd_ld {S : Store} {v : Value} {ys : List Value} (h : rd S v = some ys) {i : Nat} (hi : i < ys.length) : ld S (eptr v i) = ys[i]? := by
  unfold rd at h
  split at h
  · rename_i p n _
    cases hb : (S[p.block]?).bind Ob.cells with
    | none => simp [hb] at h
    | some cs =>
      simp only [hb, Option.bind_some] at h
      split at h
      · simp only [Option.some.injEq] at h
        subst h
        have : i < n := by simp at hi; omega
        simp [eptr, ld, cell, hb, this]
      · cases h
  · simp only [Option.some.injEq] at h; subst h; simp at hi
  · cases h

/-- v reads as these numbers. -/
def Ints (S : Store) (v : Value) (xs : List Int) : Prop := rd S v = some (ints xs)

theorem Ints.sl {S : Store} {v : Value} {xs : List Int} (h : Ints S v xs) : isSl v = true := rd_isSl h
theorem Ints.len {S : Store} {v : Value} {xs : List Int} (h : Ints S v xs) : slen v = xs.length := by rw [rd_slen h]; simp [ints]
theorem Ints.get {S : Store} {v : Value} {xs : List Int} (h : Ints S v xs) (i : Nat) (hi : i < xs.length) : ld S (eptr v i) = some (.int .i64 (xs.getD i 0)) := by
  rw [rd_ld h (by simpa [ints] using hi)]; simp [ints, hi]
theorem Ints.ext {S S' : Store} {v : Value} {xs : List Int} (h : Ints S v xs) (hE : Ext S S') : Ints S' v xs := hE.rd h

/-- The number in row i, place k. -/
def at2 (d : List (List Int)) (i k : Nat) : Int := (d.getD i []).getD k 0

/-- v reads as these rows of numbers; row i is the value r i. -/
structure Mat (S : Store) (v : Value) (r : Nat → Value) (d : List (List Int)) : Prop where
  top : rd S v = some ((List.range d.length).map r)
  row : ∀ i, i < d.length → Ints S (r i) (d.getD i [])

section
variable {S S' : Store} {v : Value} {r : Nat → Value} {d : List (List Int)}
theorem Mat.sl (h : Mat S v r d) : isSl v = true := rd_isSl h.top
theorem Mat.len (h : Mat S v r d) : slen v = d.length := by rw [rd_slen h.top]; simp
theorem Mat.get (h : Mat S v r d) (i : Nat) (hi : i < d.length) : ld S (eptr v i) = some (r i) := by
  rw [rd_ld h.top (by simpa using hi)]; simp [hi]
theorem Mat.rsl (h : Mat S v r d) (i : Nat) (hi : i < d.length) : isSl (r i) = true := (h.row i hi).sl
theorem Mat.rlen (h : Mat S v r d) (i : Nat) (hi : i < d.length) : slen (r i) = (d.getD i []).length := (h.row i hi).len
theorem Mat.cell (h : Mat S v r d) (i k : Nat) (hi : i < d.length) (hk : k < (d.getD i []).length) : ld S (eptr (r i) k) = some (.int .i64 (at2 d i k)) := (h.row i hi).get k hk
theorem Mat.ext (h : Mat S v r d) (hE : Ext S S') : Mat S' v r d := ⟨hE.rd h.top, fun i hi => (h.row i hi).ext hE⟩
end
end Go.Mill

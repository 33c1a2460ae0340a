/- The mill, part M: a reader of a code; tables of one's own that change. -/
import Derived.Test.YtodeldmkpogakaaMillL
namespace Go.Mill
open Go Go.RowKit
set_option linter.unusedSimpArgs false
set_option linter.unusedVariables false

/-- The first m handles are as they were. -/
structure Pre (m : Nat) (S S' : Store) : Prop where
  len : S.length ≤ S'.length
  low : ∀ g, g < m → S'[g]? = S[g]?
theorem Pre.refl (m : Nat) (S : Store) : Pre m S S := ⟨Nat.le_refl _, fun _ _ => rfl⟩
theorem Pre.trans {m : Nat} {A B C : Store} (h : Pre m A B) (k : Pre m B C) : Pre m A C := ⟨Nat.le_trans h.len k.len, fun g hg => by rw [k.low g hg, h.low g hg]⟩
theorem Pre.mono {m n : Nat} {A B : Store} (h : Pre m A B) (hn : n ≤ m) : Pre n A B := ⟨h.len, fun g hg => h.low g (by omega)⟩
theorem Pre.app {m : Nat} {A B : Store} (h : Pre m A B) (hm : m ≤ B.length) (T : Store) : Pre m A (B ++ T) :=
  ⟨by have := h.len; simp; omega, fun g hg => by rw [List.getElem?_append_left (by omega)]; exact h.low g hg⟩
theorem Pre.set {m : Nat} {A B : Store} (h : Pre m A B) {i : Nat} (hi : m ≤ i) (ob : Ob) : Pre m A (B.set i ob) :=
  ⟨by simpa using h.len, fun g hg => by rw [List.getElem?_set_ne (by omega)]; exact h.low g hg⟩
theorem Pre.ext {S S' : Store} (h : Pre S.length S S') : Ext S S' :=
  ⟨h.len, fun g ob hg => .inr (by rw [h.low g (own_lt hg)]; exact hg)⟩
theorem Ext.pre {S S' : Store} (h : Ext S S') (hd : ∀ g : Nat, S[g]? ≠ some Ob.dead) : Pre S.length S S' :=
  ⟨h.len, fun g hg => by
    have e : S[g]? = some S[g] := List.getElem?_eq_getElem hg
    rcases h.keep g _ e with h' | h'
    · rw [h'] at e; exact absurd e (hd g)
    · rw [h', e]⟩

/-- A reader at P: its code has the numbers bs, p of them are read; nothing before m is its own. -/
structure Rdr (m : Nat) (S : Store) (P : Value) (h : Nat) (bv : Value) (bs : List Int) (p : Nat) : Prop where
  ptr : P = .pointer (some ⟨h, 0, none⟩)
  low : m ≤ h
  own : S[h]? = some (.own [bv, .int .i64 p])
  byt : ∀ S', (∀ g, g < m → S'[g]? = S[g]?) → rd S' bv = some (bs.map (.int .u8))
  few : bs.length ≤ 2000
  pos : ∀ i, 0 ≤ bs.getD i 0 ∧ bs.getD i 0 ≤ 255

section
variable {m : Nat} {S S' : Store} {P : Value} {h : Nat} {bv : Value} {bs : List Int} {p : Nat}
theorem Rdr.isP (R : Rdr m S P h bv bs p) : isPtr P = true := by rw [R.ptr]; rfl
theorem Rdr.len (R : Rdr m S P h bv bs p) : h < S.length := own_lt R.own
theorem Rdr.ld0 (R : Rdr m S P h bv bs p) : ld S (eptr P 0) = some bv := by rw [R.ptr]; simp [eptr, ld, cell, R.own, Ob.cells]
theorem Rdr.ld1 (R : Rdr m S P h bv bs p) : ld S (eptr P 1) = some (.int .i64 p) := by rw [R.ptr]; simp [eptr, ld, cell, R.own, Ob.cells]
theorem Rdr.st1 (R : Rdr m S P h bv bs p) (x : Value) : st S (eptr P 1) x = some (S.set h (.own [bv, x])) := by rw [R.ptr]; simp [eptr, st, R.own]
theorem Rdr.rd (R : Rdr m S P h bv bs p) : Mill.rd S bv = some (bs.map (.int .u8)) := R.byt S fun _ _ => rfl
theorem Rdr.sl (R : Rdr m S P h bv bs p) : isSl bv = true := rd_isSl R.rd
theorem Rdr.blen (R : Rdr m S P h bv bs p) : slen bv = bs.length := by rw [rd_slen R.rd]; simp
theorem Rdr.get (R : Rdr m S P h bv bs p) (i : Nat) (hi : i < bs.length) : ld S (eptr bv i) = some (.int .u8 (bs.getD i 0)) := by
  rw [rd_ld R.rd (by simpa using hi)]; simp [hi]
theorem Rdr.step (R : Rdr m S P h bv bs p) (q : Nat) : Rdr m (S.set h (.own [bv, .int .i64 q])) P h bv bs q :=
  ⟨R.ptr, R.low, own_set R.len, fun S' hS' => R.byt S' fun g hg => by rw [hS' g hg, List.getElem?_set_ne (by have := R.low; omega)], R.few, R.pos⟩
/-- It stays where its handle and what is before m stay. -/
theorem Rdr.keep (R : Rdr m S P h bv bs p) (hh : S'[h]? = S[h]?) (hl : ∀ g, g < m → S'[g]? = S[g]?) : Rdr m S' P h bv bs p :=
  ⟨R.ptr, R.low, by rw [hh]; exact R.own, fun T hT => R.byt T fun g hg => by rw [hT g hg, hl g hg], R.few, R.pos⟩
theorem Rdr.pre (R : Rdr m S P h bv bs p) (H : Pre (h + 1) S S') : Rdr m S' P h bv bs p :=
  R.keep (H.low h (by omega)) fun g hg => H.low g (by have := R.low; omega)
theorem Rdr.set (R : Rdr m S P h bv bs p) {q : Nat} (hq : h < q) (ob : Ob) : Rdr m (S.set q ob) P h bv bs p :=
  R.keep (List.getElem?_set_ne (by omega)) fun g hg => List.getElem?_set_ne (by have := R.low; omega)
theorem Rdr.app (R : Rdr m S P h bv bs p) (T : Store) : Rdr m (S ++ T) P h bv bs p := R.pre ((Pre.refl _ S).app R.len T)
end

/-- v is a table of one's own, at handles from b on: its top at t, row j at g j. -/
structure OT (b : Nat) (S : Store) (v : Value) (t : Nat) (g : Nat → Nat) (d : List (List Int)) : Prop where
  top : v = mk t d.length
  bt : b ≤ t
  own : S[t]? = some (.own ((List.range d.length).map fun j => mk (g j) (d.getD j []).length))
  bg : ∀ j, j < d.length → b ≤ g j
  ne : ∀ j, j < d.length → g j ≠ t
  inj : ∀ j k, j < d.length → k < d.length → g j = g k → j = k
  row : ∀ j, j < d.length → S[g j]? = some (.own (ints (d.getD j [])))

def orow (g : Nat → Nat) (d : List (List Int)) (j : Nat) : Value := mk (g j) (d.getD j []).length

theorem getD_set {α : Type} {l : List α} {i : Nat} {x z : α} (hi : i < l.length) (j : Nat) : (l.set i x).getD j z = if j = i then x else l.getD j z := by
  simp only [List.getD_eq_getElem?_getD, List.getElem?_set]
  by_cases h : i = j
  · subst h; simp [hi]
  · have : ¬ j = i := fun e => h e.symm
    simp [h, this]
theorem ints_set1 {xs : List Int} {k : Nat} {x : Int} : (ints xs).set k (.int .i64 x) = ints (xs.set k x) := by simp [ints, List.map_set]
/-- A table with one number changed. -/
def put2 (d : List (List Int)) (i k : Nat) (x : Int) : List (List Int) := d.set i ((d.getD i []).set k x)
section
variable {d : List (List Int)} {i k : Nat} {x : Int}
theorem put2_len : (put2 d i k x).length = d.length := by simp [put2]
theorem put2_row (hi : i < d.length) (j : Nat) : (put2 d i k x).getD j [] = if j = i then (d.getD i []).set k x else d.getD j [] := getD_set hi j
theorem put2_rowlen (j : Nat) : ((put2 d i k x).getD j []).length = (d.getD j []).length := by
  rcases Nat.lt_or_ge i d.length with hi | hi
  · rw [put2_row hi]; split
    · rename_i h; subst h; simp
    · rfl
  · simp [put2, List.set_eq_of_length_le hi]
theorem put2_at (hi : i < d.length) (hk : k < (d.getD i []).length) (j l : Nat) : at2 (put2 d i k x) j l = if j = i ∧ l = k then x else at2 d j l := by
  unfold at2
  rw [put2_row hi]
  by_cases h : j = i
  · subst h
    rw [if_pos rfl, getD_set hk]
    by_cases h2 : l = k <;> simp [h2]
  · simp [h]
end

section
variable {b : Nat} {S S' : Store} {v : Value} {t : Nat} {g : Nat → Nat} {d : List (List Int)}
theorem OT.mat (h : OT b S v t g d) : Mat S v (orow g d) d :=
  ⟨by rw [h.top]; exact rd_own h.own (by simp), fun i hi => Ints.own (h.row i hi) rfl⟩
theorem OT.keep (h : OT b S v t g d) (hS : ∀ q, b ≤ q → q < S.length → S'[q]? = S[q]?) : OT b S' v t g d :=
  ⟨h.top, h.bt, by rw [hS t h.bt (own_lt h.own)]; exact h.own, h.bg, h.ne, h.inj, fun j hj => by rw [hS _ (h.bg j hj) (own_lt (h.row j hj))]; exact h.row j hj⟩
theorem OT.app (h : OT b S v t g d) (T : Store) : OT b (S ++ T) v t g d := h.keep fun q _ hq => List.getElem?_append_left hq
theorem OT.below (h : OT b S v t g d) {i : Nat} (hi : i < b) (ob : Ob) : OT b (S.set i ob) v t g d := h.keep fun q hq _ => by rw [List.getElem?_set_ne (by omega)]
theorem OT.mono (h : OT b S v t g d) {b' : Nat} (hb : b' ≤ b) : OT b' S v t g d :=
  ⟨h.top, by have := h.bt; omega, h.own, fun j hj => by have := h.bg j hj; omega, h.ne, h.inj, h.row⟩
/-- A number is set. -/
theorem OT.st (h : OT b S v t g d) {i k : Nat} (hi : i < d.length) (hk : k < (d.getD i []).length) (x : Int) :
    Mill.st S (eptr (orow g d i) k) (.int .i64 x) = some (S.set (g i) (.own (ints ((d.getD i []).set k x)))) := by
  rw [orow, st_own (h.row i hi) (by simpa [ints] using hk), ints_set1]
theorem OT.put (h : OT b S v t g d) {i k : Nat} (hi : i < d.length) (hk : k < (d.getD i []).length) (x : Int) :
    OT b (S.set (g i) (.own (ints ((d.getD i []).set k x)))) v t g (put2 d i k x) where
  top := by rw [put2_len]; exact h.top
  bt := h.bt
  own := by
    rw [List.getElem?_set_ne (h.ne i hi), h.own, put2_len]
    simp only [put2_rowlen]
  bg := fun j hj => h.bg j (by rwa [put2_len] at hj)
  ne := fun j hj => h.ne j (by rwa [put2_len] at hj)
  inj := fun j k hj hk => h.inj j k (by rwa [put2_len] at hj) (by rwa [put2_len] at hk)
  row := fun j hj => by
    rw [put2_len] at hj
    rw [put2_row hi]
    by_cases hji : j = i
    · subst hji
      rw [if_pos rfl]
      exact own_set (own_lt (h.row j hj))
    · rw [if_neg hji, List.getElem?_set_ne (fun e => hji (h.inj j i hj hi e.symm))]
      exact h.row j hj
theorem OT.pre {m : Nat} {A : Store} (h : OT b S v t g d) (H : Pre m A S) (hm : m ≤ b) {i : Nat} (hi : i < d.length) (ob : Ob) : Pre m A (S.set (g i) ob) := H.set (by have := h.bg i hi; omega) ob
/-- A row more; the top moves. -/
theorem OT.addRow (h : OT b S v t g d) {q : Nat} {xs : List Int} (hq : S[q]? = some (.own (ints xs))) (hb : b ≤ q) (hqt : q ≠ t) (hqg : ∀ j, j < d.length → g j ≠ q) :
    ∃ v' S', Mill.app (S ++ [Ob.own [Mill.mk q xs.length]]) v (Mill.mk S.length 1) = some (v', S') ∧ slen v' = d.length + 1 ∧ Pre b S S' ∧ ∃ t' g', OT b S' v' t' g' (d ++ [xs]) := by
  have ht := own_lt h.own
  have hql := own_lt hq
  have hrd : rd (S ++ [Ob.own [Mill.mk q xs.length]]) (Mill.mk S.length 1) = some [Mill.mk q xs.length] := rd_own own_last rfl
  have happ := app_own (own_app (T := [Ob.own [Mill.mk q xs.length]]) h.own) (n := d.length) (by simp) hrd
  rw [← h.top] at happ
  have hl : (((S ++ [Ob.own [Mill.mk q xs.length]]).set t Ob.dead) : Store).length = S.length + 1 := by simp
  have hne : ∀ (r : Nat) (ob : Ob), S[r]? = some ob → r ≠ t → (((S ++ [Ob.own [Mill.mk q xs.length]]).set t Ob.dead) ++ [Ob.own (((List.range d.length).map fun j => Mill.mk (g j) (d.getD j []).length) ++ [Mill.mk q xs.length])] : Store)[r]? = some ob := fun r ob hr hrt =>
    own_app (own_set_ne (own_app hr) hrt)
  refine ⟨_, _, happ, by simp [slen_mk], ?_, S.length + 1, fun j => if j < d.length then g j else q, ?_⟩
  · have hbt := h.bt
    exact (((Pre.refl b S).app (by omega) _).set hbt _).app (by simp; omega) _
  · refine ⟨?_, ?_, ?_, ?_, ?_, ?_, ?_⟩
    · simp
    · have := h.bt; omega
    · rw [← hl, own_last]
      congr 2
      rw [List.length_append, List.length_singleton, List.range_succ, List.map_append]
      congr 1
      · refine List.map_congr_left fun j hj => ?_
        rw [List.mem_range] at hj
        simp only [if_pos hj]
        congr 1
        simp [List.getElem?_append_left hj]
      · simp
    · intro j hj
      split
      · exact h.bg j (by assumption)
      · exact hb
    · intro j hj
      split
      · have := own_lt (h.row j (by assumption)); omega
      · omega
    · intro j k hj hk e
      simp only [List.length_append, List.length_singleton] at hj hk
      split at e <;> split at e
      · exact h.inj j k (by assumption) (by assumption) e
      · exact absurd e (hqg j (by assumption))
      · exact absurd e.symm (hqg k (by assumption))
      · omega
    · intro j hj
      simp only [List.length_append, List.length_singleton] at hj
      by_cases hjl : j < d.length
      · simp only [if_pos hjl]
        have : (d ++ [xs]).getD j [] = d.getD j [] := by simp [List.getElem?_append_left hjl]
        rw [this]
        exact hne _ _ (h.row j hjl) (h.ne j hjl)
      · have hj2 : j = d.length := by omega
        subst hj2
        simp only [if_neg hjl]
        have : (d ++ [xs]).getD d.length [] = xs := by simp
        rw [this]
        exact hne _ _ hq hqt
/-- A row of new memory more. -/
theorem OT.grow (h : OT b S v t g d) (hb : b ≤ S.length) (xs : List Int) :
    ∃ v' S', Mill.app (S ++ [.own (ints xs)] ++ [.own [Mill.mk S.length xs.length]]) v (Mill.mk (S.length + 1) 1) = some (v', S') ∧ slen v' = d.length + 1 ∧ Pre b S S' ∧ ∃ t' g', OT b S' v' t' g' (d ++ [xs]) := by
  have h1 := h.app [.own (ints xs)]
  obtain ⟨v', S', a1, a2, a3, a4⟩ := h1.addRow (q := S.length) own_last hb (by have := own_lt h.own; omega) (fun j hj => by have := own_lt (h.row j hj); omega)
  have hl : (S ++ [.own (ints xs)] : Store).length = S.length + 1 := by simp
  rw [hl] at a1
  exact ⟨v', S', a1, a2, ((Pre.refl b S).app hb _).trans a3, a4⟩
theorem OT.none (hb : b ≤ S.length) : OT b (S ++ [.own []]) (Mill.mk S.length 0) S.length (fun _ => 0) [] :=
  ⟨rfl, hb, own_last, fun _ h => absurd h (Nat.not_lt_zero _), fun _ h => absurd h (Nat.not_lt_zero _), fun _ _ h => absurd h (Nat.not_lt_zero _), fun _ h => absurd h (Nat.not_lt_zero _)⟩
end

/-- v is a slice of numbers of one's own, at handle t, from b on. -/
structure OL (b : Nat) (S : Store) (v : Value) (t : Nat) (xs : List Int) : Prop where
  top : v = mk t xs.length
  bt : b ≤ t
  own : S[t]? = some (.own (ints xs))
theorem OL.ints {b : Nat} {S : Store} {v : Value} {t : Nat} {xs : List Int} (h : OL b S v t xs) : Mill.Ints S v xs := by rw [h.top]; exact Ints.own h.own rfl
theorem OL.none {b : Nat} {S : Store} (hb : b ≤ S.length) : OL b (S ++ [.own []]) (Mill.mk S.length 0) S.length [] := ⟨rfl, hb, own_last⟩
theorem OL.pre {b : Nat} {S S' : Store} {v : Value} {t : Nat} {xs : List Int} (h : OL b S v t xs) {m : Nat} (H : Pre m S S') (hm : t < m) : OL b S' v t xs := ⟨h.top, h.bt, by rw [H.low t hm]; exact h.own⟩
/-- A number more. -/
theorem OL.add' {b : Nat} {S : Store} {v : Value} {t : Nat} {xs : List Int} (h : OL b S v t xs) (x : Int) :
    ∃ v' S', Mill.app (S ++ [.own [.int .i64 x]]) v (Mill.mk S.length 1) = some (v', S') ∧ slen v' = xs.length + 1 ∧ Pre b S S' ∧ (∀ q, q < S.length → q ≠ t → S'[q]? = S[q]?) ∧ ∃ t', S.length ≤ t' ∧ OL b S' v' t' (xs ++ [x]) := by
  have ht := own_lt h.own
  have hrd : rd (S ++ [.own [.int .i64 x]]) (Mill.mk S.length 1) = some [.int .i64 x] := rd_own own_last rfl
  have happ := app_own (own_app (T := [.own [.int .i64 x]]) h.own) (n := xs.length) (by simp [Mill.ints]) hrd
  rw [← h.top] at happ
  have hbt := h.bt
  refine ⟨_, _, happ, by simp [slen_mk, Mill.ints], ?_, ?_, _, ?_, ?_, ?_, own_last.trans ?_⟩
  · exact (((Pre.refl b S).app (by omega) _).set hbt _).app (by simp; omega) _
  · intro q hq hqt
    rw [List.getElem?_append_left (by simp; omega), List.getElem?_set_ne (Ne.symm hqt), List.getElem?_append_left hq]
  · simp
  · simp [Mill.ints]
  · simp; omega
  · simp [Mill.ints]
theorem OL.add {b : Nat} {S : Store} {v : Value} {t : Nat} {xs : List Int} (h : OL b S v t xs) (x : Int) :
    ∃ v' S', Mill.app (S ++ [.own [.int .i64 x]]) v (Mill.mk S.length 1) = some (v', S') ∧ slen v' = xs.length + 1 ∧ Pre b S S' ∧ ∃ t', OL b S' v' t' (xs ++ [x]) := by
  obtain ⟨v', S', h1, h2, h3, -, t', -, h4⟩ := h.add' x
  exact ⟨v', S', h1, h2, h3, t', h4⟩
/-- Whatever is there stays where all that is there stays. -/
theorem OT.all {b : Nat} {S S' : Store} {v : Value} {t : Nat} {g : Nat → Nat} {d : List (List Int)} (h : OT b S v t g d) (H : Pre S.length S S') : OT b S' v t g d := h.keep fun q _ hq => H.low q hq
/-- .. square. -/
structure OS (b : Nat) (S : Store) (v : Value) (t : Nat) (g : Nat → Nat) (d : List (List Int)) (n : Nat) : Prop where
  ot : OT b S v t g d
  len : d.length = n
  sq : ∀ i, i < n → (d.getD i []).length = n
section
variable {b : Nat} {S S' : Store} {v : Value} {t : Nat} {g : Nat → Nat} {d : List (List Int)} {n : Nat}
theorem OS.sl (h : OS b S v t g d n) : isSl v = true := h.ot.mat.sl
theorem OS.slen (h : OS b S v t g d n) : Mill.slen v = n := by rw [h.ot.mat.len, h.len]
theorem OS.get (h : OS b S v t g d n) (i : Nat) (hi : i < n) : ld S (eptr v i) = some (orow g d i) := h.ot.mat.get i (by rw [h.len]; exact hi)
theorem OS.rsl (h : OS b S v t g d n) (i : Nat) (hi : i < n) : isSl (orow g d i) = true := h.ot.mat.rsl i (by rw [h.len]; exact hi)
theorem OS.rlen (h : OS b S v t g d n) (i : Nat) (hi : i < n) : Mill.slen (orow g d i) = n := by rw [h.ot.mat.rlen i (by rw [h.len]; exact hi), h.sq i hi]
theorem OS.cell (h : OS b S v t g d n) (i k : Nat) (hi : i < n) (hk : k < n) : ld S (eptr (orow g d i) k) = some (.int .i64 (at2 d i k)) := h.ot.mat.cell i k (by rw [h.len]; exact hi) (by rw [h.sq i hi]; exact hk)
theorem OS.st (h : OS b S v t g d n) (i k : Nat) (hi : i < n) (hk : k < n) (x : Int) : Mill.st S (eptr (orow g d i) k) (.int .i64 x) = some (S.set (g i) (.own (Mill.ints ((d.getD i []).set k x)))) :=
  h.ot.st (by rw [h.len]; exact hi) (by rw [h.sq i hi]; exact hk) x
theorem OS.put (h : OS b S v t g d n) (i k : Nat) (hi : i < n) (hk : k < n) (x : Int) : OS b (S.set (g i) (.own (Mill.ints ((d.getD i []).set k x)))) v t g (put2 d i k x) n :=
  ⟨h.ot.put (by rw [h.len]; exact hi) (by rw [h.sq i hi]; exact hk) x, by rw [put2_len, h.len], fun j hj => by rw [put2_rowlen, h.sq j hj]⟩
theorem OS.bg (h : OS b S v t g d n) (i : Nat) (hi : i < n) : b ≤ g i := h.ot.bg i (by rw [h.len]; exact hi)
theorem OS.below (h : OS b S v t g d n) {i : Nat} (hi : i < b) (ob : Ob) : OS b (S.set i ob) v t g d n := ⟨h.ot.below hi ob, h.len, h.sq⟩
theorem OS.app (h : OS b S v t g d n) (T : Store) : OS b (S ++ T) v t g d n := ⟨h.ot.app T, h.len, h.sq⟩
end
theorem OS.rows {b : Nat} {S : Store} {v : Value} {t : Nat} {g : Nat → Nat} {d : List (List Int)} {n : Nat} (h : OS b S v t g d n) (j : Nat) : (d.getD j []).length ≤ n := by
  rcases Nat.lt_or_ge j d.length with hj | hj
  · rw [h.sq j (by rw [← h.len]; exact hj)]; exact Nat.le_refl _
  · simp [List.getElem?_eq_none hj]
theorem rows_set {d : List (List Int)} {n i : Nat} {xs : List Int} (h : ∀ j, (d.getD j []).length ≤ n) (hx : xs.length ≤ n) (j : Nat) : ((d.set i xs).getD j []).length ≤ n := by
  rcases Nat.lt_or_ge i d.length with hi | hi
  · rw [getD_set hi]; split
    · exact hx
    · exact h j
  · rw [List.set_eq_of_length_le hi]; exact h j
/-- The top's cells. -/
def tops (g : Nat → Nat) (d : List (List Int)) : List Value := (List.range d.length).map fun j => mk (g j) (d.getD j []).length
/-- A row is exchanged. -/
theorem OT.setTop {b : Nat} {S : Store} {v : Value} {t : Nat} {g : Nat → Nat} {d : List (List Int)} (h : OT b S v t g d) {i : Nat} (hi : i < d.length) {S1 : Store} {w : Value} {xs : List Int}
    (hk : ∀ j, j < d.length → j ≠ i → S1[g j]? = S[g j]?) (ht : S1[t]? = S[t]?) (hw : ∀ ob, Mill.Ints (S1.set t ob) w xs) :
    Mill.st S1 (eptr v i) w = some (S1.set t (.own ((tops g d).set i w))) ∧ Mat (S1.set t (.own ((tops g d).set i w))) v (fun j => if j = i then w else orow g d j) (d.set i xs) := by
  have ho : S1[t]? = some (.own (tops g d)) := by rw [ht]; exact h.own
  refine ⟨by rw [h.top]; exact st_own ho (by simp [tops]; exact hi), ?_, ?_⟩
  · rw [h.top]
    rw [rd_own (own_set (own_lt ho)) (by simp [tops])]
    congr 1
    refine List.ext_getElem (by simp [tops]) fun j h1 h2 => ?_
    simp [List.getElem_set, tops, orow, eq_comm]
  · intro j hj
    rw [List.length_set] at hj
    rw [getD_set hi]
    by_cases hji : j = i
    · simp only [hji, if_true]; exact hw _
    · simp only [hji, if_false]
      exact Ints.own (by rw [List.getElem?_set_ne (fun e => h.ne j hj e.symm), hk j hj hji]; exact h.row j hj) rfl
/-- A table that hangs on the handles from b on alone. -/
def MatH (b : Nat) (S : Store) (v : Value) (r : Nat → Value) (d : List (List Int)) : Prop := ∀ S', (∀ q, b ≤ q → q < S.length → S'[q]? = S[q]?) → Mat S' v r d
theorem MatH.mat {b : Nat} {S : Store} {v : Value} {r : Nat → Value} {d : List (List Int)} (h : MatH b S v r d) : Mat S v r d := h S fun _ _ _ => rfl
theorem MatH.below {b : Nat} {S : Store} {v : Value} {r : Nat → Value} {d : List (List Int)} (h : MatH b S v r d) {i : Nat} (hi : i < b) (ob : Ob) : MatH b (S.set i ob) v r d :=
  fun S' hS' => h S' fun q hq hl => by rw [hS' q hq (by simpa using hl), List.getElem?_set_ne (by omega)]
theorem MatH.app {b : Nat} {S : Store} {v : Value} {r : Nat → Value} {d : List (List Int)} (h : MatH b S v r d) (T : Store) : MatH b (S ++ T) v r d :=
  fun S' hS' => h S' fun q hq hl => by rw [hS' q hq (by simp; omega), List.getElem?_append_left hl]
theorem MatH.pre {b : Nat} {S S' : Store} {v : Value} {r : Nat → Value} {d : List (List Int)} (h : MatH b S v r d) (H : Pre S.length S S') : MatH b S' v r d :=
  fun S'' hS' => h S'' fun q hq hl => by rw [hS' q hq (by have := H.len; omega), H.low q hl]
theorem OT.matH {b : Nat} {S : Store} {v : Value} {t : Nat} {g : Nat → Nat} {d : List (List Int)} (h : OT b S v t g d) : MatH b S v (orow g d) d := fun S' hS' => (h.keep hS').mat
theorem OT.setTopH {b : Nat} {S : Store} {v : Value} {t : Nat} {g : Nat → Nat} {d : List (List Int)} (h : OT b S v t g d) {i : Nat} (hi : i < d.length) {S1 : Store} {w : Value} {xs : List Int}
    (hk : ∀ j, j < d.length → j ≠ i → S1[g j]? = S[g j]?) (ht : S1[t]? = S[t]?) (hw : ∀ S', (∀ q, b ≤ q → q < S1.length → q ≠ t → S'[q]? = S1[q]?) → Mill.Ints S' w xs) :
    Mill.st S1 (eptr v i) w = some (S1.set t (.own ((tops g d).set i w))) ∧ MatH b (S1.set t (.own ((tops g d).set i w))) v (fun j => if j = i then w else orow g d j) (d.set i xs) := by
  have ho : S1[t]? = some (.own (tops g d)) := by rw [ht]; exact h.own
  refine ⟨by rw [h.top]; exact st_own ho (by simp [tops]; exact hi), fun S' hS' => ⟨?_, ?_⟩⟩
  · rw [h.top]
    have : S'[t]? = some (.own ((tops g d).set i w)) := by rw [hS' t h.bt (by simpa using own_lt ho)]; exact own_set (own_lt ho)
    rw [rd_own this (by simp [tops])]
    congr 1
    refine List.ext_getElem (by simp [tops]) fun j h1 h2 => ?_
    simp [List.getElem_set, tops, orow, eq_comm]
  · intro j hj
    rw [List.length_set] at hj
    rw [getD_set hi]
    by_cases hji : j = i
    · simp only [hji, if_true]; exact hw _ fun q h1 h2 h3 => by rw [hS' q h1 (by simpa using h2), List.getElem?_set_ne (Ne.symm h3)]
    · simp only [hji, if_false]
      have hrow : S1[g j]? = some (.own (Mill.ints (d.getD j []))) := by rw [hk j hj hji]; exact h.row j hj
      exact Ints.own (by rw [hS' _ (h.bg j hj) (by simpa using own_lt hrow), List.getElem?_set_ne (fun e => h.ne j hj e.symm)]; exact hrow) rfl
theorem slc_tail {S : Store} {q n : Nat} {xs : List Int} (hq : S[q]? = some (.own (ints xs))) (hn : n = xs.length) (h1 : 1 ≤ n) : ∃ w, slc S (mk q n) 1 n = some w ∧ isSl w = true ∧ ∀ S', S'[q]? = S[q]? → Ints S' w xs.tail := by
  subst hn
  refine ⟨.slice (some ⟨q, 0 + 1, some 0⟩) (xs.length - 1) 0, ?_, rfl, fun S' hS' => ?_⟩
  · have : 1 ≤ xs.length ∧ 0 + xs.length ≤ (ints xs).length ∧ 0 + xs.length ≤ (ints xs).length := by simp [ints]; omega
    simp only [slc, mk, hq, Option.bind_some, Ob.cells]
    rw [if_pos this, if_neg (by omega)]
  · unfold Ints rd
    simp only [hS', hq, Option.bind_some, Ob.cells]
    have : 0 + 1 + (xs.length - 1) ≤ (ints xs).length := by simp [ints]; omega
    rw [if_pos this]
    have : ((ints xs).drop (0 + 1)).length = xs.length - 1 := by simp [ints]
    rw [← this, List.take_length]
    simp [ints, List.map_tail]
/-- What is read lies low. -/
theorem rd_low {S S' : Store} {v : Value} {ys : List Value} (h : rd S v = some ys) (hS : ∀ g, g < S.length → S'[g]? = S[g]?) : rd S' v = some ys := by
  unfold rd at *
  split at h
  · rename_i p n _
    rcases Nat.lt_or_ge p.block S.length with hb | hb
    · rw [hS _ hb]; exact h
    · rw [List.getElem?_eq_none hb] at h; simp at h
  · exact h
  · cases h
theorem slc_take {S : Store} {v : Value} {ys : List Value} (h : rd S v = some ys) {k : Nat} (hk : k ≤ ys.length) : ∃ w, slc S v 0 k = some w ∧ rd S w = some (ys.take k) := by
  unfold rd at h
  split at h
  · rename_i p n _
    cases hb : (S[p.block]?).bind Ob.cells with
    | none => simp [hb] at h
    | some cs =>
      simp only [hb, Option.bind_some] at h
      split at h
      · rename_i hle
        simp only [Option.some.injEq] at h
        subst h
        simp at hk
        refine ⟨.slice (some p) k 0, ?_, ?_⟩
        · have : 0 ≤ k ∧ p.off + k ≤ cs.length ∧ p.off + n ≤ cs.length := by omega
          simp [slc, hb, this]
        · have h2 : p.off + k ≤ cs.length := by omega
          have h3 : min k n = k := by omega
          simp only [rd, hb, Option.bind_some, h2, if_true, List.take_take, h3]
      · cases h
  · simp only [Option.some.injEq] at h; subst h
    simp at hk; subst hk
    exact ⟨.slice none 0 0, rfl, rfl⟩
  · cases h
theorem replicate_ints {n : Nat} : List.replicate n (Value.int .i64 0) = ints (List.replicate n 0) := by simp [ints]
theorem xor_in {a b : Int} (ha : 0 ≤ a ∧ a < 4611686018427387904) (hb : 0 ≤ b ∧ b < 4611686018427387904) : 0 ≤ IntKind.i64.wrap (BitVec.ofInt IntKind.i64.bits a ^^^ BitVec.ofInt IntKind.i64.bits b).toNat := by
  obtain ⟨x, rfl⟩ := Int.eq_ofNat_of_zero_le ha.1
  obtain ⟨y, rfl⟩ := Int.eq_ofNat_of_zero_le hb.1
  have h1 : (BitVec.ofInt IntKind.i64.bits (x : Int) ^^^ BitVec.ofInt IntKind.i64.bits (y : Int)).toNat = (x ^^^ y) := by
    show (BitVec.ofInt 64 (x : Int) ^^^ BitVec.ofInt 64 (y : Int)).toNat = _
    rw [BitVec.toNat_xor, BitVec.toNat_ofInt, BitVec.toNat_ofInt]
    have e1 : ((x : Int) % ((2 ^ 64 : Nat) : Int)).toNat = x := by omega
    have e2 : ((y : Int) % ((2 ^ 64 : Nat) : Int)).toNat = y := by omega
    rw [e1, e2]
  rw [h1]
  have h2 : x ^^^ y < 2 ^ 62 := Nat.xor_lt_two_pow (by omega) (by omega)
  rw [wrap64 (by omega)]
  omega
theorem Mat.ofList {S : Store} {v : Value} {rs : List Value} {d : List (List Int)} (h : rd S v = some rs) (hl : rs.length = d.length) (hr : ∀ i, i < d.length → Ints S (rs.getD i undef) (d.getD i [])) : Mat S v (fun i => rs.getD i undef) d :=
  ⟨by
    rw [h]; congr 1
    refine List.ext_getElem (by simp [hl]) fun j h1 h2 => ?_
    simp [List.getElem?_eq_getElem h1], hr⟩
end Go.Mill

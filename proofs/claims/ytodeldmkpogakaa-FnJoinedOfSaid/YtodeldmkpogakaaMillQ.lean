/- The mill, part Q: rows that are put together in whatever order. -/
import Derived.Test.YtodeldmkpogakaaMillO
namespace Go.Mill
open Go Go.RowKit
set_option linter.unusedSimpArgs false
set_option linter.unusedVariables false

theorem Aside.ext {k : Nat} {S S' : Store} (h : Aside k S S') : Ext (S.set k .dead) S' :=
  ⟨by simpa using h.len, fun j o hj => by
    by_cases hjk : k = j
    · subst hjk
      by_cases hlt : k < S.length
      · rw [List.getElem?_set_self hlt] at hj; exact .inl (by simpa using hj.symm)
      · rw [List.getElem?_eq_none (by simp; omega)] at hj; cases hj
    · rw [List.getElem?_set_ne hjk] at hj; exact .inr (by rw [h.keep j (own_lt hj) (Ne.symm hjk)]; exact hj)⟩
theorem Pre.aside {k : Nat} {S S' : Store} (h : Pre S.length S S') : Aside k S S' := ⟨h.len, fun q hq _ => h.low q hq⟩
theorem Pre.dext {k : Nat} {S S' : Store} (h : Pre S.length S S') : Ext (S.set k .dead) S' := (h.aside (k := k)).ext
theorem OT.addRow_aside {b : Nat} {S S' : Store} {v v' : Value} {t : Nat} {g : Nat → Nat} {d : List (List Int)} {q n : Nat} (h : OT b S v t g d) (ha : Mill.app (S ++ [Ob.own [Mill.mk q n]]) v (Mill.mk S.length 1) = some (v', S')) : Aside t S S' := by
  have hrd : rd (S ++ [Ob.own [Mill.mk q n]]) (Mill.mk S.length 1) = some [Mill.mk q n] := rd_own own_last rfl
  have happ := app_own (own_app (T := [Ob.own [Mill.mk q n]]) h.own) (n := d.length) (by simp) hrd
  rw [← h.top, ha] at happ
  simp only [Option.some.injEq, Prod.mk.injEq] at happ
  obtain ⟨-, rfl⟩ := happ
  refine ⟨by simp; omega, fun p hp hpt => ?_⟩
  rw [List.getElem?_append_left (by simp; omega), List.getElem?_set_ne (Ne.symm hpt), List.getElem?_append_left hp]
/-- A row copied to an empty one. -/
theorem build_row {T : Store} {h0 : Nat} {x : Value} {xs : List Int} (H0 : T[h0]? = some (.own [])) (hI : Ints T x xs) :
    ∃ T1, app T (mk h0 0) x = some (mk T.length xs.length, T1) ∧ T1.length = T.length + 1 ∧ (∀ q, q < T.length → q ≠ h0 → T1[q]? = T[q]?) ∧ T1[T.length]? = some (.own (ints xs)) := by
  have := app_own H0 (n := 0) rfl hI
  have hl : (T.set h0 Ob.dead).length = T.length := by simp
  refine ⟨T.set h0 .dead ++ [.own (ints xs)], ?_, by simp, fun q hq hqh => ?_, ?_⟩
  · rw [this]; simp [ints]
  · rw [List.getElem?_append_left (by simpa using hq), List.getElem?_set_ne (Ne.symm hqh)]
  · rw [← hl]; exact own_last
/-- A number more. -/
theorem snoc_row {T : Store} {q h1 : Nat} {xs : List Int} {y : Int} (Hq : T[q]? = some (.own (ints xs))) (H1 : T[h1]? = some (.own [.int .i64 y])) :
    ∃ T2, app T (mk q xs.length) (mk h1 1) = some (mk T.length (xs.length + 1), T2) ∧ T2.length = T.length + 1 ∧ (∀ p, p < T.length → p ≠ q → T2[p]? = T[p]?) ∧ T2[T.length]? = some (.own (ints (xs ++ [y]))) := by
  have := app_own Hq (n := xs.length) (by simp [ints]) (rd_own H1 (n := 1) rfl)
  have hl : (T.set q Ob.dead).length = T.length := by simp
  refine ⟨T.set q .dead ++ [.own (ints xs ++ [.int .i64 y])], ?_, by simp, fun p hp hpq => ?_, ?_⟩
  · rw [this]; simp [ints]
  · rw [List.getElem?_append_left (by simpa using hp), List.getElem?_set_ne (Ne.symm hpq)]
  · rw [← hl, own_last]; simp [ints]

/-! ### A loop that counts down to 0 -/
def downI {α : Type} (N : Nat) (E : Nat → α → Env) (T : Nat → α → Store → Prop) (m : Nat) (e : Env) (S : Store) : Prop := ∃ y, m ≤ N ∧ e = E m y ∧ T m y S
def downK {α : Type} (N : Nat) (E : Nat → α → Env) (T : Nat → α → Store → Prop) (i : Nat) (Q : AX → Env → Store → Prop) : AX → Env → Store → Prop := loopK (downI N E T) i Q
theorem aw_down {P : Program} {c : Code} {Q : AX → Env → Store → Prop} {e : Env} {S : Store} {α : Type} (ctr : Nat) (live : List Nat) (St : α → Env) (N : Nat) (T : Nat → α → Store → Prop) (y : α)
    (hs : sub ((ctr, .int .i64 (N : Nat)) :: (St y ++ keep live e)) e) (h0 : T N y S)
    (round : ∀ i y S1, i ≤ N → T i y S1 → aw P c (downK N (fun i y => (ctr, .int .i64 (i : Nat)) :: (St y ++ keep live e)) T i Q) ((ctr, .int .i64 (i : Nat)) :: (St y ++ keep live e)) S1) : aw P (.loop c) Q e S := by
  refine aw_loop (downI N (fun i y => (ctr, .int .i64 (i : Nat)) :: (St y ++ keep live e)) T) N _ hs ⟨y, Nat.le_refl _, rfl, h0⟩ ?_
  rintro m _ S1 ⟨y, hm, rfl, hT⟩
  exact round m y S1 hm hT
theorem downK_exit {α : Type} {n : Nat} {E : Nat → α → Env} {T : Nat → α → Store → Prop} {i j : Nat} {Q : AX → Env → Store → Prop} {e : Env} {S : Store} : downK n E T i Q (.exit j) e S = Q (.exit j) e S := nd rfl
theorem downK_ret {α : Type} {n : Nat} {E : Nat → α → Env} {T : Nat → α → Store → Prop} {i : Nat} {Q : AX → Env → Store → Prop} {e : Env} {S : Store} : downK n E T i Q .ret e S = Q .ret e S := nd rfl
theorem downK_next {α : Type} {n : Nat} {E : Nat → α → Env} {T : Nat → α → Store → Prop} {i : Nat} {Q : AX → Env → Store → Prop} {e : Env} {S : Store} (y : α) (hi : 0 < i) (hn : i ≤ n) (hs : sub (E (i - 1) y) e) (hT : T (i - 1) y S) : downK n E T i Q .normal e S :=
  ⟨i - 1, by omega, E (i - 1) y, hs, y, by omega, rfl, hT⟩
attribute [go_sem] downK_exit downK_ret
theorem MatH.mono {b b' : Nat} {S : Store} {v : Value} {r : Nat → Value} {d : List (List Int)} (h : MatH b S v r d) (hb : b' ≤ b) : MatH b' S v r d := fun S' hS' => h S' fun q hq hl => hS' q (by omega) hl
theorem resK_five {K : Value → Store → Prop} {e : Env} {S : Store} {t u v w x : Nat} : resK K e S [t, u, v, w, x] = optK (lks e [t, u, v, w, x]) fun vs => andK (vs.all atomB = true) (K (.tuple vs.toArray) S) := nd rfl
theorem resK_four {K : Value → Store → Prop} {e : Env} {S : Store} {t u v w : Nat} : resK K e S [t, u, v, w] = optK (lks e [t, u, v, w]) fun vs => andK (vs.all atomB = true) (K (.tuple vs.toArray) S) := nd rfl
attribute [go_sem] resK_four resK_five
end Go.Mill

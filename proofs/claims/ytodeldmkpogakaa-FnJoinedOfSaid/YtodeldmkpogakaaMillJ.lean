/- The mill, part J: loops that count, with what lives on; conditions that are decided. -/
import Derived.Test.YtodeldmkpogakaaMillI
namespace Go.Mill
open Go Go.RowKit
set_option linter.unusedSimpArgs false
set_option linter.unusedVariables false

def keep : List Nat → Env → Env
  | [], _ => []
  | s :: ss, e => match lk e s with | some v => (s, v) :: keep ss e | none => keep ss e
def keepK (s : Nat) (o : Option Value) (E : Env) : Env := match o with | some v => (s, v) :: E | none => E
theorem keep_nil {e : Env} : keep [] e = [] := nd rfl
theorem keep_cons {s : Nat} {ss : List Nat} {e : Env} : keep (s :: ss) e = keepK s (lk e s) (keep ss e) := by
  simp only [keep, keepK]
theorem keepK_some {s : Nat} {v : Value} {E : Env} : keepK s (some v) E = (s, v) :: E := nd rfl

theorem aw_count {P : Program} {c : Code} {Q : AX → Env → Store → Prop} {e : Env} {S : Store} {α : Type} (ctr : Nat) (live : List Nat) (St : α → Env) (i0 N : Nat) (T : Nat → α → Store → Prop) (y : α)
    (hs : sub ((ctr, .int .i64 (i0 : Nat)) :: (St y ++ keep live e)) e) (hi : i0 ≤ N) (h0 : T i0 y S)
    (round : ∀ i y S1, i0 ≤ i → i ≤ N → T i y S1 → aw P c (forK N (fun i y => (ctr, .int .i64 (i : Nat)) :: (St y ++ keep live e)) (fun i y S => i0 ≤ i ∧ T i y S) i Q) ((ctr, .int .i64 (i : Nat)) :: (St y ++ keep live e)) S1) : aw P (.loop c) Q e S := by
  refine aw_loop (forI N (fun i y => (ctr, .int .i64 (i : Nat)) :: (St y ++ keep live e)) (fun i y S => i0 ≤ i ∧ T i y S)) (N - i0) _ hs ⟨i0, y, hi, rfl, rfl, Nat.le_refl _, h0⟩ ?_
  rintro m _ S1 ⟨i, y, hi, rfl, rfl, h1, hT⟩
  exact round i y S1 h1 hi hT
theorem forK_step {α : Type} {n i0 : Nat} {E : Nat → α → Env} {T : Nat → α → Store → Prop} {i : Nat} {Q : AX → Env → Store → Prop} {e : Env} {S : Store} (y : α) (hi : i < n) (h0 : i0 ≤ i) (hs : sub (E (i + 1) y) e) (hT : T (i + 1) y S) :
    forK n E (fun i y S => i0 ≤ i ∧ T i y S) i Q .normal e S := forK_next y hi hs ⟨by omega, hT⟩

section
variable {P : Program} {Q : AX → Env → Store → Prop} {e : Env} {S : Store} {c d : Code} {rest : List Oper} {all : Array Oper} {R : Env → Store → Prop} {RQ : Env → Prop} {op : Op} {dst : Option Nat} {w ex : Bool}
theorem condK_lt {i N : Nat} (hi : i ≤ N) (h1 : i < N → aw P c Q e S) (h2 : i = N → aw P d Q e S) : condK P c d Q e S (decide ((i : Int) < (N : Int))) := by
  refine condK_intro (fun h => h1 ?_) (fun h => h2 ?_)
  · have := of_decide_eq_true h; omega
  · have := of_decide_eq_false h; omega
theorem condK_dec {p : Prop} [Decidable p] (h1 : p → decide p = true → aw P c Q e S) (h2 : ¬ p → decide p = false → aw P d Q e S) : condK P c d Q e S (decide p) :=
  condK_intro (fun h => h1 (of_decide_eq_true h) h) (fun h => h2 (of_decide_eq_false h) h)
theorem gK_dec {p : Prop} [Decidable p] (h1 : p → decide p = true → gK P all R op dst rest e S w (.bool true)) (h2 : ¬ p → decide p = false → gK P all R op dst rest e S w (.bool false)) : gK P all R op dst rest e S w (.bool (decide p)) :=
  gK_intro (fun h => h1 (of_decide_eq_true h) h) (fun h => h2 (of_decide_eq_false h) h)
theorem gQ_dec {p : Prop} [Decidable p] (h1 : p → decide p = true → gQ P all S RQ op dst rest e w (.bool true)) (h2 : ¬ p → decide p = false → gQ P all S RQ op dst rest e w (.bool false)) : gQ P all S RQ op dst rest e w (.bool (decide p)) :=
  gQ_intro (fun h => h1 (of_decide_eq_true h) h) (fun h => h2 (of_decide_eq_false h) h)
theorem gQC_dec {p : Prop} [Decidable p] (h1 : p → decide p = true → gQC P all ex S RQ op dst rest e w (.bool true)) (h2 : ¬ p → decide p = false → gQC P all ex S RQ op dst rest e w (.bool false)) : gQC P all ex S RQ op dst rest e w (.bool (decide p)) :=
  gQC_intro (fun h => h1 (of_decide_eq_true h) h) (fun h => h2 (of_decide_eq_false h) h)
end
theorem dec_not {p : Prop} [Decidable p] : (!decide p) = decide (¬ p) := (decide_not).symm
theorem dec_bne {p q : Prop} [Decidable p] [Decidable q] : (decide p != decide q) = decide (¬ (p ↔ q)) := by
  by_cases hp : p <;> by_cases hq : q <;> simp [hp, hq]
theorem dec_beq {p q : Prop} [Decidable p] [Decidable q] : (decide p == decide q) = decide (p ↔ q) := by
  by_cases hp : p <;> by_cases hq : q <;> simp [hp, hq]
/-- A region that draws its order, whose calls leave the store as it is. -/
theorem draw_same {P : Program} {l : List Oper} {Q : Env → Store → Prop} {e : Env} {S : Store} (h : regQC P l.toArray true S (fun e' => Q e' S) l e) (hc : (Region.lexB .any l.toArray && l.all (fun o => chkQ P o.op)) = true) : DrawW P l.toArray Q e S := by
  refine .quietCall true ?_ hc
  have : (fun e' => ∀ S', Gr true S S' → Q e' S') = fun e' => Q e' S := by
    funext e'
    exact propext ⟨fun h => h S rfl, fun h S' hS => by have : S = S' := hS; subst this; exact h⟩
  rw [this]
  exact h
theorem draw_more {P : Program} {l : List Oper} {Q : Env → Store → Prop} {e : Env} {S : Store} (h : regQC P l.toArray false S (fun e' => ∀ S', Ext S S' → Q e' S') l e) (hc : (Region.lexB .any l.toArray && l.all (fun o => chkQ P o.op)) = true) : DrawW P l.toArray Q e S :=
  .quietCall false h hc
theorem draw_read {P : Program} {l : List Oper} {Q : Env → Store → Prop} {e : Env} {S : Store} (h : regQ P l.toArray S (fun e' => Q e' S) l e) (hc : (Region.lexB .any l.toArray && l.all (fun o => chkP P o.op)) = true) : DrawW P l.toArray Q e S :=
  .quiet h hc
attribute [go_sem] keep_nil keep_cons keepK_some dec_not dec_bne dec_beq Bool.not_true Bool.not_false List.nil_append List.cons_append
end Go.Mill

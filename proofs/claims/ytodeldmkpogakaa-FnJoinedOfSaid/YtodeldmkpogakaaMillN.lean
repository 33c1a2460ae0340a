/- The mill, part N: a region that draws its order and makes memory: reads first, then whichever comes up. -/
import Derived.Test.YtodeldmkpogakaaMillM
namespace Go.Mill
open Go Go.RowKit
set_option linter.unusedSimpArgs false
set_option linter.unusedVariables false

/-- The operations of a mask. -/
def pickL : List Bool → List Oper → List Oper
  | true :: bs, o :: os => o :: pickL bs os
  | false :: bs, _ :: os => pickL bs os
  | _, _ => []
def idxs : Nat → List Bool → List Nat
  | _, [] => []
  | k, true :: bs => k :: idxs (k + 1) bs
  | k, false :: bs => idxs (k + 1) bs
theorem opsAt_idxs : ∀ (bs : List Bool) (pre l : List Oper), opsAt (pre ++ l).toArray (idxs pre.length bs) = pickL bs l
  | [], _, [] => rfl
  | [], _, _ :: _ => rfl
  | true :: bs, pre, [] => by
    have : ∀ (bs : List Bool) (k : Nat), pre.length ≤ k → opsAt (pre ++ []).toArray (idxs k bs) = [] := by
      intro bs
      induction bs with
      | nil => intros; rfl
      | cons b bs ih =>
        intro k hk
        cases b
        · exact ih (k + 1) (by omega)
        · simp only [idxs, opsAt, List.filterMap_cons]
          have hn : (pre ++ []).toArray[k]? = none := by simp; omega
          rw [hn]
          exact ih (k + 1) (by omega)
    rw [this _ _ (Nat.le_refl _)]; rfl
  | false :: bs, pre, [] => by
    have : ∀ (bs : List Bool) (k : Nat), pre.length ≤ k → opsAt (pre ++ []).toArray (idxs k bs) = [] := by
      intro bs
      induction bs with
      | nil => intros; rfl
      | cons b bs ih =>
        intro k hk
        cases b
        · exact ih (k + 1) (by omega)
        · simp only [idxs, opsAt, List.filterMap_cons]
          have hn : (pre ++ []).toArray[k]? = none := by simp; omega
          rw [hn]
          exact ih (k + 1) (by omega)
    rw [this _ _ (Nat.le_refl _)]; rfl
  | true :: bs, pre, o :: l => by
    have ih := opsAt_idxs bs (pre ++ [o]) l
    rw [List.append_assoc, List.length_append] at ih
    have ho : (pre ++ o :: l).toArray[pre.length]? = some o := by simp
    simp only [idxs, opsAt, List.filterMap_cons, ho, pickL]
    congr 1
  | false :: bs, pre, o :: l => by
    have ih := opsAt_idxs bs (pre ++ [o]) l
    rw [List.append_assoc, List.length_append] at ih
    simp only [idxs, pickL]
    exact ih

section
variable {P : Program} {l : List Oper} {Q : Env → Store → Prop} {e : Env} {S S0 : Store} {n : Nat} {listed : Array Bool}
theorem draw_mix (bs : List Bool) (n : Nat) (h : regQ P l.toArray S (fun e' => anyW P l.toArray Q S n (marked (Array.replicate l.toArray.size false) (idxs 0 bs)) e' S) (pickL bs l) e)
    (hc : (decide (l.toArray.size = n + (idxs 0 bs).length) && Region.noSelect l.toArray && takeB P l.toArray (Array.replicate l.toArray.size false) (idxs 0 bs) && l.toArray.toList.all (fun o => chkO P o.op)) = true) : DrawW P l.toArray Q e S := by
  refine .mix (idxs 0 bs) n ?_ hc
  have := opsAt_idxs bs [] l
  simp only [List.nil_append, List.length_nil] at this
  rw [this]
  exact h
/-- .. where handle k turns on the way: nothing that is taken first reads it. -/
theorem draw_mixD (k : Nat) (bs : List Bool) (n : Nat) (h : regQ P l.toArray (S.set k .dead) (fun e' => anyW P l.toArray Q (S.set k .dead) n (marked (Array.replicate l.toArray.size false) (idxs 0 bs)) e' S) (pickL bs l) e)
    (hc : (decide (l.toArray.size = n + (idxs 0 bs).length) && Region.noSelect l.toArray && takeB P l.toArray (Array.replicate l.toArray.size false) (idxs 0 bs) && l.toArray.toList.all (fun o => chkO P o.op)) = true) : DrawW P l.toArray Q e S := by
  refine .mixD k (idxs 0 bs) n ?_ hc
  have := opsAt_idxs bs [] l
  simp only [List.nil_append, List.length_nil] at this
  rw [this]
  exact h
theorem ext_dead {S : Store} {k : Nat} {ob : Ob} : Ext (S.set k .dead) (S.set k ob) :=
  ⟨by simp, fun j o hj => by
    by_cases hjk : k = j
    · subst hjk
      by_cases hlt : k < S.length
      · rw [List.getElem?_set_self hlt] at hj; exact .inl (by simpa using hj.symm)
      · rw [List.getElem?_eq_none (by simp; omega)] at hj; cases hj
    · rw [List.getElem?_set_ne hjk] at hj; exact .inr (by rw [List.getElem?_set_ne hjk]; exact hj)⟩
theorem ext_dead_self {S : Store} {k : Nat} : Ext (S.set k .dead) S :=
  ⟨by simp, fun j o hj => by
    by_cases hjk : k = j
    · subst hjk
      by_cases hlt : k < S.length
      · rw [List.getElem?_set_self hlt] at hj; exact .inl (by simpa using hj.symm)
      · rw [List.getElem?_eq_none (by simp; omega)] at hj; cases hj
    · rw [List.getElem?_set_ne hjk] at hj; exact .inr hj⟩
theorem anyW_done (hr : Region.ready .any l.toArray listed = []) (hq : Q e S) : anyW P l.toArray Q S0 n listed e S := by
  cases n
  · exact ⟨hr, hq⟩
  · exact .inl ⟨hr, hq⟩
theorem anyW_one (i : Nat) (hr : Region.ready .any l.toArray listed = [i]) (h : regs P l.toArray (fun e' S' => andK (Ext S0 S' ∨ sinkOp l.toArray i = true) (anyW P l.toArray Q S0 n (listed.setIfInBounds i true) e' S')) (opsAt l.toArray [i]) e S) : anyW P l.toArray Q S0 (n + 1) listed e S :=
  .inr ⟨by rw [hr]; simp, fun j hj => by
    rw [hr] at hj
    obtain rfl : j = i := by simpa using hj
    exact h⟩
theorem anyW_two (i j : Nat) (hr : Region.ready .any l.toArray listed = [i, j]) (h1 : regs P l.toArray (fun e' S' => andK (Ext S0 S' ∨ sinkOp l.toArray i = true) (anyW P l.toArray Q S0 n (listed.setIfInBounds i true) e' S')) (opsAt l.toArray [i]) e S)
    (h2 : regs P l.toArray (fun e' S' => andK (Ext S0 S' ∨ sinkOp l.toArray j = true) (anyW P l.toArray Q S0 n (listed.setIfInBounds j true) e' S')) (opsAt l.toArray [j]) e S) : anyW P l.toArray Q S0 (n + 1) listed e S :=
  .inr ⟨by rw [hr]; simp, fun k hk => by
    rw [hr] at hk
    simp only [List.mem_cons, List.not_mem_nil, or_false] at hk
    rcases hk with rfl | rfl
    · exact h1
    · exact h2⟩
theorem anyW_three (i j k : Nat) (hr : Region.ready .any l.toArray listed = [i, j, k]) (h1 : regs P l.toArray (fun e' S' => andK (Ext S0 S' ∨ sinkOp l.toArray i = true) (anyW P l.toArray Q S0 n (listed.setIfInBounds i true) e' S')) (opsAt l.toArray [i]) e S)
    (h2 : regs P l.toArray (fun e' S' => andK (Ext S0 S' ∨ sinkOp l.toArray j = true) (anyW P l.toArray Q S0 n (listed.setIfInBounds j true) e' S')) (opsAt l.toArray [j]) e S)
    (h3 : regs P l.toArray (fun e' S' => andK (Ext S0 S' ∨ sinkOp l.toArray k = true) (anyW P l.toArray Q S0 n (listed.setIfInBounds k true) e' S')) (opsAt l.toArray [k]) e S) : anyW P l.toArray Q S0 (n + 1) listed e S :=
  .inr ⟨by rw [hr]; simp, fun m hm => by
    rw [hr] at hm
    simp only [List.mem_cons, List.not_mem_nil, or_false] at hm
    rcases hm with rfl | rfl | rfl
    · exact h1
    · exact h2
    · exact h3⟩
end
theorem pickL_true {bs : List Bool} {o : Oper} {os : List Oper} : pickL (true :: bs) (o :: os) = o :: pickL bs os := nd rfl
theorem pickL_false {bs : List Bool} {o : Oper} {os : List Oper} : pickL (false :: bs) (o :: os) = pickL bs os := nd rfl
theorem pickL_nil {os : List Oper} : pickL [] os = [] := nd (by cases os <;> rfl)
theorem opsAt_zero {o : Oper} {os : List Oper} : opsAt (o :: os).toArray [0] = [o] := nd rfl
theorem opsAt_succ {o : Oper} {os : List Oper} {i : Nat} : opsAt (o :: os).toArray [i + 1] = opsAt os.toArray [i] := by simp [opsAt, List.filterMap_cons]
attribute [go_sem] pickL_true pickL_false pickL_nil opsAt_zero opsAt_succ
/-- A copy of a slice, put to a new one. -/
theorem ol_copy {S : Store} {x : Value} {xs : List Int} (hI : Ints S x xs) :
    ∃ v' S', app (S ++ [.own []]) (mk S.length 0) x = some (v', S') ∧ slen v' = xs.length ∧ Pre S.length S S' ∧ ∃ t', S.length ≤ t' ∧ OL S.length S' v' t' xs := by
  have hI1 := hI.ext (Ext.append S [.own []])
  have happ := app_own (S := S ++ [Ob.own []]) (h := S.length) (cs := []) own_last (n := 0) rfl hI1
  refine ⟨_, _, happ, by simp [slen_mk, ints], ?_, (S ++ [Ob.own []]).length, by simp, ?_, by simp, ?_⟩
  · exact (((Pre.refl _ S).app (Nat.le_refl _) _).set (Nat.le_refl _) _).app (by simp) _
  · simp [ints]
  · have hl : ((S ++ [Ob.own []]).set S.length Ob.dead).length = (S ++ [Ob.own []]).length := by simp
    rw [← hl]
    exact own_last.trans (by simp)
end Go.Mill

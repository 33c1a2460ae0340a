/- The mill, part D: an operation of whatever kind; regions; code; contracts. -/
import Derived.Test.YtodeldmkpogakaaMillC
namespace Go.Mill
open Go Go.RowKit
set_option linter.unusedSimpArgs false
set_option linter.unusedVariables false

/-- What stands behind an operation, in the model: the abstract continuation holds of a value and a store that lie there. -/
def After (σ : Sig) (B : Nat) (S : Store) (w : World) (K : Value → Store → Prop) (u : Value) (w' : World) : Prop :=
  ∃ (v : Value) (S' : Store) (τ : Sig), u = conc (σ ++ τ) v ∧ K v S' ∧ okV S'.length v ∧ S.length ≤ S'.length ∧ Rel (σ ++ τ) B S' w' ∧ Below B w w'

section
variable {P : Program}

theorem conc_undef (σ : Sig) : conc σ undef = undef := by simp [conc, undef]

theorem call_run {o : Oper} {c : Call} (ho : o.op = .call c) {fo : Operand} (hcv : c.callee = .value fo) {e : Env} {S : Store} {σ : Sig} {n : Nat} {a : Act} (s : sat σ n S e a)
    (hf : flatO fo = true) (ha : ∀ x ∈ c.args.toList, flatO x = true) {f : FuncId} {first captured : Array Value} (hfv : ev e fo = some (.func (.func f) first captured)) {vs : List Value} (hvs : evs e c.args.toList = some vs) (hcal : callable P f = true) (w : World) :
    (execOp a.eval o).run P w = .ok (.enter f ((first.toList ++ vs ++ captured.toList).map (conc σ)).toArray) w ∧ ∀ v ∈ first.toList ++ vs ++ captured.toList, okV S.length v := by
  obtain ⟨h1, h2⟩ := ev_ok s hf hfv
  obtain ⟨h3, h4⟩ := evs_ok s ha hvs
  have hok : ∀ v ∈ first.toList ++ vs ++ captured.toList, okV S.length v := fun v hv => by
    rcases List.mem_append.1 hv with h | h
    · rcases List.mem_append.1 h with h | h
      · exact (h2.1 v h).okV
      · exact h4 v h
    · exact (h2.2 v h).okV
  refine ⟨?_, hok⟩
  obtain ⟨callee, args, argTypes⟩ := c
  subst hcv
  have e1 : args.map a.eval = (vs.map (conc σ)).toArray := by rw [← h3, ← List.map_toArray]
  have e2 : first.map (c1 σ) = (first.toList.map (conc σ)).toArray := by
    apply Array.toList_inj.1
    simp only [Array.toList_map]
    exact List.map_congr_left fun x hx => (conc_of_okA (h2.1 x hx)).symm
  have e3 : captured.map (c1 σ) = (captured.toList.map (conc σ)).toArray := by
    apply Array.toList_inj.1
    simp only [Array.toList_map]
    exact List.map_congr_left fun x hx => (conc_of_okA (h2.2 x hx)).symm
  have h1' : a.eval fo = .func (.func f) (first.toList.map (conc σ)).toArray (captured.toList.map (conc σ)).toArray := by rw [h1, ← e2, ← e3]; rfl
  unfold callable at hcal
  cases hfn : P.funcs[f]? with
  | none => simp [hfn] at hcal
  | some fn =>
    simp only [hfn, Bool.and_eq_true, Bool.not_eq_eq_eq_not, Bool.not_true] at hcal
    have hb : fn.body.isNone = false := by cases hbb : fn.body <;> simp [hbb] at hcal ⊢
    simp only [execOp, ho, resolve, e1, h1', Deferred.ofValue, invoke, callFunc, Sem.run_bind, Sem.run_pure, Result.andThen_ok]
    simp only [program, Sem.run, Result.andThen_ok, hfn, hcal.2, hb, Bool.false_eq_true, if_false]
    simp

theorem aop_sound {o : Oper} {e : Env} {S : Store} {K : Value → Store → Prop} {σ : Sig} {n : Nat} {a : Act} {B : Nat} {w : World} (r : Rel σ B S w) (s : sat σ n S e a) (hc : chkO P o.op = true) (h : aop P o.op e S K) :
    (∃ v S', K v S' ∧ Goes P o a σ B S w v S') ∨
    (∃ f args, (execOp a.eval o).run P w = .ok (.enter f (args.map (conc σ)).toArray) w ∧ ACalls P f args S K ∧ ∀ v ∈ args, okV S.length v) := by
  have pure : chkP P o.op = true → aopP P o.op e S (fun v => K v S) → ∃ v S', K v S' ∧ Goes P o a σ B S w v S' := fun hc' h' => by
    obtain ⟨v, hk, hv, hrun⟩ := aopP_sound r s hc' h'
    have := hrun [] S w (Ext.refl S) (by rw [List.append_nil]; exact r)
    exact ⟨v, S, hk, [], w, hv, Nat.le_refl _, by rw [List.append_nil]; exact r, Below.refl _ _, .inl (by rw [List.append_nil]; exact this)⟩
  cases hop : o.op with
  | store t x y =>
    rw [hop] at h
    obtain ⟨p, hp, h⟩ := optK_elim h
    obtain ⟨v, hv, h⟩ := optK_elim h
    obtain ⟨S', hS, hat, hk⟩ := optK_elim h
    exact .inl ⟨_, _, hk, store_goes hop r s hc hp hv hS hat⟩
  | box t x =>
    rw [hop] at h
    obtain ⟨v, hv, h⟩ := optK_elim h
    obtain ⟨cs, hcs, hm, hk⟩ := optK_elim h
    exact .inl ⟨_, _, hk, box_goes hop r s hc hv hcs (by unfold maxLen; omega)⟩
  | build t parts =>
    rw [hop] at h
    obtain ⟨vs, hvs, hat, h⟩ := optK_elim h
    obtain ⟨v, hv, hk⟩ := optK_elim h
    exact .inl ⟨_, _, hk, build_goes hop r s hc hvs hat hv⟩
  | buildSlice t len parts =>
    rw [hop] at h
    obtain ⟨vs, hvs, hat, hk⟩ := optK_elim h
    exact .inl ⟨_, _, hk, buildSlice_goes hop r s hc hvs hat⟩
  | makeSlice t l c =>
    rw [hop] at h
    obtain ⟨vl, hvl, h⟩ := optK_elim h
    split at h
    · obtain ⟨z, hz, hb, hk⟩ := optK_elim h
      exact .inl ⟨_, _, hk, makeSlice_goes hop r s hc hvl hz hb.1 hb.2⟩
    · exact h.elim
  | call c =>
    rw [hop] at h
    cases hcal : c.callee with
    | value fo =>
      simp only [aop, hcal] at h
      obtain ⟨fv, hfv, h⟩ := optK_elim h
      obtain ⟨vs, hvs, h⟩ := optK_elim h
      have hc' := hc
      rw [hop] at hc'
      simp only [chkO, hcal, Bool.and_eq_true, List.all_eq_true] at hc'
      split at h
      · rename_i g first captured
        obtain ⟨h1, h2⟩ := call_run hop hcal s hc'.1 hc'.2 hfv hvs h.1 w
        exact .inr ⟨_, _, h1, h.2, h2⟩
      · exact h.elim
    | invoke rv m => simp only [aop, hcal, aopP] at h
    | builtin b =>
      by_cases hb : b = .append
      · subst hb
        simp only [aop, hcal] at h
        split at h
        · rename_i sx xx hargs
          obtain ⟨sv, hs, h⟩ := optK_elim h
          obtain ⟨xv, hx, h⟩ := optK_elim h
          obtain ⟨p, hp, hsz, hk⟩ := optK_elim h
          exact .inl ⟨_, _, hk, append_goes hop hcal hargs r s hc hs hx hp hsz⟩
        · exact h.elim
      · refine .inl (pure ?_ ?_)
        · rw [hop] at hc ⊢
          simp only [chkO, hcal] at hc
          cases b <;> first | exact hc | exact absurd rfl hb
        · rw [hop]
          simp only [aop, hcal] at h
          cases b <;> first | exact h | exact absurd rfl hb
  | _ =>
    refine .inl (pure ?_ ?_) <;> rw [hop] <;> rw [hop] at hc h <;> first | exact hc | exact h

theorem aop_wp {o : Oper} {e : Env} {S : Store} {K : Value → Store → Prop} {σ : Sig} {n : Nat} {a : Act} {B : Nat} {w : World} {Q : Exit → Act → World → Prop} (r : Rel σ B S w) (s : sat σ n S e a) (hc : chkO P o.op = true) (h : aop P o.op e S K) :
    o.wp P a w (fun a' w' => ∃ u, a' = a.put o.dst u ∧ After σ B S w K u w') Q := by
  unfold Oper.wp
  rcases aop_sound r s hc h with ⟨v, S', hk, τ, w', hv, hl, hR, hB, hrun | ⟨rfl, hrun⟩⟩ | ⟨f, args, hrun, hcall, hok⟩
  · rw [hrun]
    exact ⟨_, rfl, v, S', τ, rfl, hk, hv, hl, hR, hB⟩
  · rw [hrun]
    exact ⟨_, rfl, undef, S', τ, (conc_undef _).symm, hk, hv, hl, hR, hB⟩
  · rw [hrun]
    refine (hcall σ B w r hok).mono ?_
    rintro e' w'' ⟨v, S', τ, rfl, hk, hv, hl, hR, hB⟩
    exact ⟨_, rfl, v, S', τ, rfl, hk, hv, hl, hR, hB⟩
end
end Go.Mill

/- The mill, part C: operations that write, make memory or call. -/
import Derived.Test.YtodeldmkpogakaaMillB
import Derived.Great.BuildSlice
import Derived.Deep.OwnRows
namespace Go.Mill
open Go Go.RowKit
set_option linter.unusedSimpArgs false
set_option linter.unusedVariables false

def callable (P : Program) (f : FuncId) : Bool := match P.funcs[f]? with | some fn => fn.body.isSome && !(fn.name == "runtime.NumGoroutine") | none => false

/-- A CONTRACT: called with these arguments in whatever world holds this store, the function returns, with a value and a store of which R holds; below the base nothing has turned. -/
def ACalls (P : Program) (f : FuncId) (args : List Value) (S : Store) (R : Value → Store → Prop) : Prop :=
  ∀ (σ : Sig) (B : Nat) (w : World), Rel σ B S w → (∀ v ∈ args, okV S.length v) →
    Calls P f (args.map (conc σ)).toArray w fun e w' => ∃ (v : Value) (S' : Store) (τ : Sig), e = .returned (conc (σ ++ τ) v) ∧ R v S' ∧ okV S'.length v ∧ S.length ≤ S'.length ∧ Rel (σ ++ τ) B S' w' ∧ Below B w w'

theorem ACalls.mono {P : Program} {f : FuncId} {args : List Value} {S : Store} {R R' : Value → Store → Prop} (h : ACalls P f args S R) (hr : ∀ v S', R v S' → R' v S') : ACalls P f args S R' :=
  fun σ B w r ho => (h σ B w r ho).mono fun _ _ ⟨v, S', τ, h1, h2, h3⟩ => ⟨v, S', τ, h1, hr _ _ h2, h3⟩

def zeroOf (P : Program) (t : TypeId) : Option Value := match P.underlying t with
  | some (.slice e) => (P.info? e).bind fun i => i.zero
  | _ => none
/-- The elements of a slice type: one cell, not wide, with a zero value of one cell without an address. -/
def elemOk (P : Program) (t : TypeId) : Bool := match P.underlying t with
  | some (.slice e) => match P.info? e with
    | some i => i.size == 1 && decide (i.bytes ≤ 64) && (match i.zero with | some z => flat z | none => false)
    | none => false
  | _ => false

def boxCells : Value → Option (List Value)
  | .agg vs => some vs.toList
  | v => if atomB v then some [v] else none

/-- A struct value out of its parts: fields of one cell each. -/
def evBuild (P : Program) (t : TypeId) (parts : List (Nat × Value)) : Option Value :=
  match P.info? t with
  | some i => match i.zero with
    | some z => some (.agg (parts.foldl (fun cs p => cs.setIfInBounds p.1 p.2) z.cells))
    | none => none
  | none => none
/-- .. of which its type's text shows that this is what 'build' does. -/
def buildOk (P : Program) (t : TypeId) (n : Nat → Bool) : Bool :=
  match P.info? t, P.underlying t with
  | some it, some (.struct fields) =>
    match it.zero, fields.toList.mapM (fun f => (P.info? f.type).map fun i => (f.offset, i.size)) with
    | some z, some places => z.cells.toList.all (fun v => flat v && atomB v) && decide (places = (List.range places.length).map fun i => (i, 1)) && places.length == z.cells.size && (List.range 64).all (fun i => !n i || decide (i < places.length))
    | _, _ => false
  | _, _ => false

def evIdx (parts : List (Nat × Operand)) (vs : List Value) : List (Nat × Value) := (parts.map (·.1)).zip vs

def aop (P : Program) (op : Op) (e : Env) (S : Store) (K : Value → Store → Prop) : Prop :=
  match op with
  | .store _ x y => optK (ev e x) fun p => optK (ev e y) fun v => optK (st S p v) fun S' => atomB v = true ∧ K undef S'
  | .box _ x => optK (ev e x) fun v => optK (boxCells v) fun cs => cs.length ≤ 64 ∧ K (.pointer (some ⟨S.length, 0, none⟩)) (S ++ [.own cs])
  | .build t parts => optK (evs e (parts.toList.map (·.2))) fun vs => vs.all atomB = true ∧ optK (evBuild P t (evIdx parts.toList vs)) fun v => K v S
  | .buildSlice _ len parts => optK (evs e (parts.toList.map (·.2))) fun vs => vs.all atomB = true ∧ K (mk S.length len) (S ++ [.own vs])
  | .makeSlice t l _ => optK (ev e l) fun vl => match vl with
      | .int _ n => optK (zeroOf P t) fun z => (0 ≤ n ∧ n ≤ 1099511627776) ∧ K (mk S.length n.toNat) (S ++ [.own (List.replicate n.toNat z)])
      | _ => False
  | .call c => match c.callee with
    | .value f => optK (ev e f) fun fv => optK (evs e c.args.toList) fun vs => match fv with
        | .func (.func f) first captured => callable P f = true ∧ ACalls P f (first.toList ++ vs ++ captured.toList) S K
        | _ => False
    | .builtin .append => match c.args.toList with
      | [s, x] => optK (ev e s) fun sv => optK (ev e x) fun xv => optK (app S sv xv) fun p => slen p.1 ≤ 1099511627776 ∧ K p.1 p.2
      | _ => False
    | _ => aopP P (.call c) e S fun v => K v S
  | op => aopP P op e S fun v => K v S

def chkO (P : Program) : Op → Bool
  | .store t x y => flatO x && flatO y && size1 P t
  | .box _ x => flatO x
  | .build t parts => parts.toList.all (fun p => flatO p.2) && buildOk P t (fun i => parts.toList.any (·.1 == i)) && parts.toList.all (fun p => decide (p.1 < 64))
  | .buildSlice t len parts => parts.toList.all (fun p => flatO p.2) && decide (parts.toList.map (·.1) = List.range len) && elemOk P t && decide (len ≤ 1000)
  | .makeSlice t l c => flatO l && elemOk P t && (match l, c with | .tmp a, .tmp b => a == b | _, _ => false)
  | .call c => match c.callee with
    | .value f => flatO f && c.args.toList.all flatO
    | .builtin .append => c.args.toList.all flatO && elemOk P (c.argTypes.getD 0 0) && decide (c.argTypes = #[c.argTypes.getD 0 0, c.argTypes.getD 0 0])
    | _ => chkP P (.call c)
  | op => chkP P op

section
variable {P : Program}

theorem okA_flat {n : Nat} {v : Value} (h : flat v = true) : okA n v := by
  cases v with
  | slice p _ _ => cases p <;> first | trivial | (simp [flat] at h)
  | pointer p => cases p <;> first | trivial | (simp [flat] at h)
  | _ => first | trivial | (simp [flat] at h)
theorem c1_flat {σ : Sig} {v : Value} (h : flat v = true) : c1 σ v = v := by
  cases v with
  | slice p _ _ => cases p <;> first | rfl | (simp [flat] at h)
  | pointer p => cases p <;> first | rfl | (simp [flat] at h)
  | _ => first | rfl | (simp [flat] at h)
theorem flat_cells {v : Value} (h : flat v = true) : v.cells = #[v] := by
  cases v <;> first | rfl | (simp [flat] at h)
theorem okA_cells {n : Nat} {σ : Sig} {v : Value} (h : okA n v) : (c1 σ v).cells = #[c1 σ v] := by
  cases v with
  | slice p _ _ => cases p <;> rfl
  | pointer p => cases p <;> rfl
  | _ => first | rfl | exact h.elim
theorem okA_oneCell {n : Nat} {σ : Sig} {v : Value} (h : okA n v) : (c1 σ v).oneCell' = true := by
  cases v with
  | slice p _ _ => cases p <;> rfl
  | pointer p => cases p <;> rfl
  | _ => first | rfl | exact h.elim
theorem okA_atom {n : Nat} {v : Value} (h : okA n v) : atomB v = true := by
  cases v <;> first | rfl | exact h.elim

theorem okV_undef (n : Nat) : okV n undef := by
  intro x hx
  simp at hx

/-- A run step into another world: what the operation yields there. -/
def Goes (P : Program) (o : Oper) (a : Act) (σ : Sig) (B : Nat) (S : Store) (w : World) (v : Value) (S' : Store) : Prop :=
  ∃ (τ : Sig) (w' : World), okV S'.length v ∧ S.length ≤ S'.length ∧ Rel (σ ++ τ) B S' w' ∧ Below B w w' ∧
    ((execOp a.eval o).run P w = .ok (.value (conc (σ ++ τ) v)) w' ∨ (v = undef ∧ (execOp a.eval o).run P w = .ok .skip w'))

theorem elemOk_run {t : TypeId} (h : elemOk P t = true) : ∃ e i z, P.underlying t = some (.slice e) ∧ P.info? e = some i ∧ i.size = 1 ∧ i.bytes ≤ 64 ∧ i.zero = some z ∧ flat z = true := by
  unfold elemOk at h
  split at h
  · rename_i e he
    split at h
    · rename_i i hi
      simp only [Bool.and_eq_true, beq_iff_eq, decide_eq_true_eq] at h
      obtain ⟨⟨h1, h2⟩, h3⟩ := h
      split at h3
      · rename_i z hz; exact ⟨e, i, z, he, hi, h1, h2, hz, h3⟩
      · cases h3
    · cases h
  · cases h

theorem store_goes {o : Oper} {t : TypeId} {x y : Operand} (ho : o.op = .store t x y) {e : Env} {S S' : Store} {σ : Sig} {n : Nat} {a : Act} {B : Nat} {w : World} (r : Rel σ B S w) (s : sat σ n S e a)
    (hc : chkO P o.op = true) {p v : Value} (hp : ev e x = some p) (hv : ev e y = some v) (hst : st S p v = some S') (hat : atomB v = true) : Goes P o a σ B S w undef S' := by
  rw [ho] at hc
  simp only [chkO, Bool.and_eq_true] at hc
  obtain ⟨h1, -⟩ := ev_ok s hc.1.1 hp
  obtain ⟨h3, h4⟩ := ev_ok s hc.1.2 hv
  have hva := okA_of_atom h4 hat
  unfold st at hst
  split at hst
  · rename_i q
    cases hS : S[q.block]? with
    | none => simp [hS] at hst
    | some ob =>
      cases ob with
      | ro cs => simp [hS] at hst
      | dead => simp [hS] at hst
      | own cs =>
        simp only [hS] at hst
        split at hst
        · rename_i hlt
          simp only [Option.some.injEq] at hst
          subst hst
          obtain ⟨ha, hB, hm, cur, el, hcur, hsz, hle, hcell⟩ := r.own _ cs hS
          have hadd : (σ.pl q.block).a.add q.off = ⟨(σ.pl q.block).a.block, q.off, none⟩ := by rw [ha, Addr.add_lit]; simp only [Nat.zero_add]
          have hcl : w.cell? ⟨(σ.pl q.block).a.block, q.off, none⟩ = some cur[q.off] := by simp [World.cell?, hcur]
          have hfr : w.frozen? ⟨(σ.pl q.block).a.block, q.off, none⟩ = false := by simp [World.frozen?, hcur]
          have hlt' := (Array.getElem?_eq_some_iff.1 hcur).1
          have hset : (w.setCell ⟨(σ.pl q.block).a.block, q.off, none⟩ (c1 σ v)).heap[(σ.pl q.block).a.block]? = some (.cells (cur.setIfInBounds q.off (c1 σ v)) el (0, 0)) := by
            simp [World.setCell, Array.getElem?_modify, hcur]
          refine ⟨[], w.setCell ⟨(σ.pl q.block).a.block, q.off, none⟩ (c1 σ v), okV_undef _, by simp, ?_, Below.setCell (p := ⟨(σ.pl q.block).a.block, q.off, none⟩) (Below.refl _ _) hB _, .inr ⟨rfl, ?_⟩⟩
          · rw [List.append_nil]
            refine r.setRow hS (cs.set q.off v) (fun y hy => ?_) (cur.setIfInBounds q.off (c1 σ v)) el _ (by simp [hsz]) (by simp; omega) (fun i y hy => ?_) hset (fun k hk => Below.heap_setCell _ _ _ _ hk) (by simp [World.setCell])
            · rcases List.mem_or_eq_of_mem_set hy with h | rfl
              · exact r.ok q.block cs (by simp [hS, Ob.cells]) y h
              · exact hva
            · by_cases hi : q.off = i
              · subst hi
                rw [List.getElem?_set_self hlt] at hy
                simp only [Option.some.injEq] at hy
                subst hy
                rw [Array.getElem?_setIfInBounds_self, if_pos (by omega)]
              · rw [List.getElem?_set_ne hi] at hy
                rw [Array.getElem?_setIfInBounds_ne hi]
                exact hcell i y hy
          · have h1' : a.eval x = .pointer (some ⟨(σ.pl q.block).a.block, q.off, none⟩) := by rw [h1]; simp only [conc, c1, hadd]
            have h3' : a.eval y = c1 σ v := by rw [h3, conc_of_okA hva]
            have h5 := okA_cells (σ := σ) hva
            have h6 := okA_oneCell (σ := σ) hva
            generalize c1 σ v = u at h3' h5 h6
            simp only [execOp, ho, h1', h3', Instr.storeAt, Instr.sureAddr, storeVar, Sem.run_bind, size1_run hc.2, Result.andThen_ok, h5]
            have e0 : (⟨(σ.pl q.block).a.block, q.off, none⟩ : Addr).add 0 = ⟨(σ.pl q.block).a.block, q.off, none⟩ := by simp [Addr.add]
            cases u <;> first | (simp [Value.oneCell'] at h6; done) | simp [storeCells, store, Sem.run, e0, hcl, hfr]
        · cases hst
  · cases hst

theorem below_alloc {B : Nat} {w : World} (hB : B ≤ w.heap.size) (o : Obj) : Below B w (w.alloc o) := Below.alloc (Below.refl _ _) hB o

theorem map_getElem? {σ : Sig} (cs : List Value) (i : Nat) (x : Value) (h : cs[i]? = some x) : ((cs.map (c1 σ)).toArray)[i]? = some (c1 σ x) := by
  simp [h]

theorem c1_new {σ : Sig} {p : Pl} {n : Nat} (hn : n = σ.length) (m : Nat) : conc (σ ++ [p]) (mk n m) = .slice (some (p.a.add 0)) m p.lim := by
  subst hn
  simp [mk, conc, c1, Sig.pl, List.getD, sad]

/-- A new row of the call's own, exactly as long as what it holds. -/
theorem new_goes {σ : Sig} {B : Nat} {S : Store} {w : World} (r : Rel σ B S w) (cs : List Value) (hok : ∀ x ∈ cs, okA S.length x) (el : TypeId) (hm : cs.length ≤ maxLen) :
    Rel (σ ++ [⟨⟨w.heap.size, 0, none⟩, cs.length⟩]) B (S ++ [.own cs]) (w.alloc (.cells (cs.map (c1 σ)).toArray el)) := by
  have := r.new cs hok (cs.map (c1 σ)).toArray el (by simp) (by simpa using hm) (fun i x h => map_getElem? cs i x h)
  simpa using this

theorem box_goes {o : Oper} {t : TypeId} {x : Operand} (ho : o.op = .box t x) {e : Env} {S : Store} {σ : Sig} {n : Nat} {a : Act} {B : Nat} {w : World} (r : Rel σ B S w) (s : sat σ n S e a)
    (hc : chkO P o.op = true) {v : Value} (hv : ev e x = some v) {cs : List Value} (hb : boxCells v = some cs) (hm : cs.length ≤ maxLen) : Goes P o a σ B S w (.pointer (some ⟨S.length, 0, none⟩)) (S ++ [.own cs]) := by
  rw [ho] at hc
  simp only [chkO] at hc
  obtain ⟨h1, h2⟩ := ev_ok s hc hv
  have key : (∀ y ∈ cs, okA S.length y) ∧ (conc σ v).cells = (cs.map (c1 σ)).toArray := by
    unfold boxCells at hb
    split at hb
    · simp only [Option.some.injEq] at hb; subst hb
      exact ⟨h2, by rw [← List.map_toArray]; simp [conc, Value.cells]⟩
    · split at hb
      · rename_i hat
        simp only [Option.some.injEq] at hb; subst hb
        have hva := okA_of_atom h2 hat
        exact ⟨by simpa using hva, by rw [conc_of_okA hva, okA_cells hva]; rfl⟩
      · cases hb
  refine ⟨[⟨⟨w.heap.size, 0, none⟩, cs.length⟩], _, by simp [okV, okA], by simp, new_goes r cs key.1 t hm, below_alloc r.base _, .inl ?_⟩
  have hl : σ.length = S.length := r.len
  have e1 : (newVar t (conc σ v)).run P w = .ok ⟨w.heap.size, 0, none⟩ (w.alloc (.cells (cs.map (c1 σ)).toArray t)) := by
    simp only [newVar, newRow, newObj, key.2]; rfl
  generalize conc σ v = u at e1 h1
  simp [execOp, ho, Instr.box, h1, e1, conc, c1, Sig.pl, List.getD, ← hl, Addr.add]


theorem fill_all : ∀ (vs : List Value) (k : Nat) (cs : Array Value), k + vs.length = cs.size → (∀ v ∈ vs, v.cells = #[v]) →
    Instr.fill (fun i => some (i * 1, 1)) cs ((List.range' k vs.length).zip vs) = some (cs.toList.take k ++ vs).toArray
  | [], k, cs, h, _ => by
    simp only [List.length_nil, Nat.add_zero] at h
    subst h
    have : cs.toList.take cs.size = cs.toList := List.take_of_length_le (by simp)
    simp only [List.length_nil, List.range'_zero, List.zip_nil_left, Instr.fill, this, List.append_nil, Array.toArray_toList]
  | v :: vs, k, cs, h, hv => by
    simp only [List.length_cons] at h
    have h1 := hv v (by simp)
    have ih := fill_all vs (k + 1) (cs.setIfInBounds k v) (by simp; omega) (fun u hu => hv u (by simp [hu]))
    simp only [List.length_cons, List.range'_succ, List.zip_cons_cons, Instr.fill, h1]
    rw [if_neg (by simp; omega)]
    have e2 : (Array.zipIdx #[v]).foldl (fun (cs : Array Value) (x : Value × Nat) => match x with | (c, j) => cs.setIfInBounds (k * 1 + j) c) cs = cs.setIfInBounds k v := by simp
    rw [e2, ih]
    congr 2
    have hk : k < cs.toList.length := by rw [Array.length_toList]; omega
    rw [Array.toList_setIfInBounds, List.set_eq_take_append_cons_drop, if_pos hk]
    have : (cs.toList.take k).length = k := by rw [List.length_take]; omega
    rw [List.take_append, List.take_of_length_le (by omega), this, show k + 1 - k = 1 by omega]
    simp

theorem length_evs {e : Env} : ∀ {xs : List Operand} {vs : List Value}, evs e xs = some vs → vs.length = xs.length
  | [], vs, h => by simp only [evs, Option.some.injEq] at h; subst h; rfl
  | x :: xs, vs, h => by
    simp only [evs] at h
    cases h1 : ev e x with
    | none => simp [h1] at h
    | some v =>
      cases h2 : evs e xs with
      | none => simp [h1, h2] at h
      | some us =>
        simp only [h1, h2, Option.bind_some, Option.some.injEq] at h
        subst h
        simp [length_evs h2]

theorem parts_eval {e : Env} {S : Store} {σ : Sig} {n : Nat} {a : Act} (s : sat σ n S e a) {parts : List (Nat × Operand)} {vs : List Value} (hf : ∀ p ∈ parts, flatO p.2 = true) (hvs : evs e (parts.map (·.2)) = some vs) (hat : ∀ v ∈ vs, atomB v = true) :
    (parts.map fun p => (p.1, a.eval p.2)) = (parts.map (·.1)).zip (vs.map (c1 σ)) ∧ ∀ v ∈ vs, okA S.length v := by
  obtain ⟨h1, h2⟩ := evs_ok s (xs := parts.map (·.2)) (fun x hx => by obtain ⟨p, hp, rfl⟩ := List.mem_map.1 hx; exact hf p hp) hvs
  have h3 : ∀ v ∈ vs, okA S.length v := fun v hv => okA_of_atom (h2 v hv) (hat v hv)
  refine ⟨?_, h3⟩
  have h4 : vs.map (c1 σ) = vs.map (conc σ) := List.map_congr_left fun v hv => (conc_of_okA (h3 v hv)).symm
  rw [h4, ← h1]
  simp only [List.map_map]
  clear h1 h2 h3 h4 hvs hat hf s
  induction parts with
  | nil => rfl
  | cons p ps ih => simp [ih]

theorem buildSlice_goes {o : Oper} {t : TypeId} {len : Nat} {parts : Array (Nat × Operand)} (ho : o.op = .buildSlice t len parts) {e : Env} {S : Store} {σ : Sig} {n : Nat} {a : Act} {B : Nat} {w : World} (r : Rel σ B S w) (s : sat σ n S e a)
    (hc : chkO P o.op = true) {vs : List Value} (hvs : evs e (parts.toList.map (·.2)) = some vs) (hat : vs.all atomB = true) : Goes P o a σ B S w (mk S.length len) (S ++ [.own vs]) := by
  rw [ho] at hc
  simp only [chkO, Bool.and_eq_true, List.all_eq_true, decide_eq_true_eq] at hc
  obtain ⟨⟨⟨hf, hidx⟩, hel⟩, hlen⟩ := hc
  obtain ⟨el, i, z, hu, hi, hsz, hby, hz, hfz⟩ := elemOk_run hel
  obtain ⟨h1, h2⟩ := parts_eval s hf hvs (List.all_eq_true.1 hat)
  have hl : vs.length = len := by
    have := length_evs hvs
    simp only [List.length_map] at this
    have h3 := congrArg List.length hidx
    simp only [List.length_map, List.length_range] at h3
    omega
  have hzc := flat_cells hfz
  have hm : vs.length ≤ maxLen := by rw [hl]; unfold maxLen; omega
  refine ⟨[⟨⟨w.heap.size, 0, none⟩, vs.length⟩], _, by simp [okV, okA, mk], by simp, new_goes r vs h2 el hm, below_alloc r.base _, .inl ?_⟩
  rw [c1_new r.len.symm]
  have e1 : (parts.map fun (i, x) => (i, a.eval x)) = ((List.range len).zip (vs.map (c1 σ))).toArray := by
    rw [← hidx, ← h1]
    apply Array.toList_inj.1
    simp
  have hrun : (Instr.buildSlice t len ((List.range len).zip (vs.map (c1 σ))).toArray).run P w = .ok (.slice (some ⟨w.heap.size, 0, none⟩) len len) (w.alloc (.cells (vs.map (c1 σ)).toArray el)) := by
    by_cases h0 : len = 0
    · subst h0
      have : vs = [] := List.eq_nil_of_length_eq_zero hl
      subst this
      simp only [Instr.buildSlice, Sem.run_bind, run_underlying hu, Result.andThen_ok, sizeOf, typeInfo]
      have e0 : ∀ f : Nat → Value, Array.map f (Array.range 0) = #[] := fun f => Array.eq_empty_of_size_eq_zero (by simp)
      simp [hi, hsz, Instr.fill, newRow, newObj, e0]
      rfl
    · refine run_buildSlice w t el len _ _ i z hu hi hz (by rw [hsz]; omega) (by rw [hsz]; omega) ?_
      rw [hsz]
      have hcells : ∀ v ∈ vs.map (c1 σ), v.cells = #[v] := fun v hv => by
        obtain ⟨u, hu', rfl⟩ := List.mem_map.1 hv
        exact okA_cells (h2 u hu')
      have := fill_all (vs.map (c1 σ)) 0 ((Array.range (len * 1)).map (z.cells[· % z.cells.size]!)) (by simp [hl]) hcells
      simp only [List.length_map, hl, List.take_zero, List.nil_append] at this
      rw [List.range_eq_range']
      exact this
  simp only [execOp, ho, e1]
  simp [hrun, Addr.add, hl]

theorem makeSlice_goes {o : Oper} {t : TypeId} {l c : Operand} (ho : o.op = .makeSlice t l c) {e : Env} {S : Store} {σ : Sig} {n : Nat} {a : Act} {B : Nat} {w : World} (r : Rel σ B S w) (s : sat σ n S e a)
    (hc : chkO P o.op = true) {k : IntKind} {m : Int} (hl : ev e l = some (.int k m)) {z : Value} (hz : zeroOf P t = some z) (h0 : 0 ≤ m) (h1 : m ≤ 1099511627776) : Goes P o a σ B S w (mk S.length m.toNat) (S ++ [.own (List.replicate m.toNat z)]) := by
  rw [ho] at hc
  simp only [chkO, Bool.and_eq_true] at hc
  obtain ⟨⟨hf, hel⟩, hsame⟩ := hc
  obtain ⟨el, i, z', hu, hi, hsz, hby, hz', hfz⟩ := elemOk_run hel
  have hzz : z' = z := by simp [zeroOf, hu, hi, hz'] at hz; exact hz
  subst hzz
  have hlc : l = c := by
    cases l <;> cases c <;> simp at hsame
    rw [hsame]
  subst hlc
  obtain ⟨h3, -⟩ := ev_ok s hf hl
  have h3' : a.eval l = .int k m := h3
  obtain ⟨q, rfl⟩ := Int.eq_ofNat_of_zero_le h0
  have hq : q ≤ 1099511627776 := by omega
  have hrun := run_make_row (P := P) t el i z' hu hi hz' hsz (flat_cells hfz) k k q (by have := Nat.mul_le_mul hby hq; omega) (by omega) w
  have hmc : madeCells #[z'] q = ((List.replicate q z').map (c1 σ)).toArray := by
    apply Array.ext
    · simp [madeCells]
    · intro j h1 h2
      simp [madeCells, c1_flat hfz, Nat.mod_one]
  refine ⟨[⟨⟨w.heap.size, 0, none⟩, (List.replicate (Int.toNat (q : Int)) z').length⟩], w.alloc (.cells ((List.replicate q z').map (c1 σ)).toArray el), by simp [okV, okA, mk], by simp, ?_, below_alloc r.base _, .inl ?_⟩
  · exact new_goes r _ (fun x hx => by rw [(List.mem_replicate.1 hx).2]; exact okA_flat hfz) el (by simp; unfold maxLen; omega)
  · rw [c1_new r.len.symm]
    simp only [execOp, ho, h3']
    simp [hrun, hmc, Addr.add]


theorem foldl_set_map (f : Value → Value) : ∀ (ps : List (Nat × Value)) (cs : Array Value),
    (ps.foldl (fun cs p => cs.setIfInBounds p.1 p.2) cs).map f = (ps.map fun p => (p.1, f p.2)).foldl (fun cs p => cs.setIfInBounds p.1 p.2) (cs.map f)
  | [], _ => rfl
  | p :: ps, cs => by
    simp only [List.foldl_cons, List.map_cons]
    rw [foldl_set_map f ps, Array.map_setIfInBounds]

theorem fill_places (N : Nat) : ∀ (ps : List (Nat × Value)) (cs : Array Value), cs.size = N → (∀ p ∈ ps, p.1 < N ∧ p.2.cells = #[p.2]) →
    Instr.fill (((List.range N).map fun i => (i, 1)).toArray[·]?) cs ps = some (ps.foldl (fun cs p => cs.setIfInBounds p.1 p.2) cs)
  | [], _, _, _ => rfl
  | (i, v) :: ps, cs, hN, h => by
    obtain ⟨h1, h2⟩ := h (i, v) (by simp)
    have e1 : (((List.range N).map fun i => (i, 1)).toArray[i]? : Option (Nat × Nat)) = some (i, 1) := by simp [h1]
    simp only [Instr.fill, e1, h2]
    rw [if_neg (by simp; omega)]
    have e2 : (Array.zipIdx #[v]).foldl (fun (cs : Array Value) (x : Value × Nat) => match x with | (c, j) => cs.setIfInBounds (i + j) c) cs = cs.setIfInBounds i v := by simp
    rw [e2, fill_places N ps _ (by simpa using hN) (fun p hp => h p (by simp [hp]))]
    rfl

theorem build_goes {o : Oper} {t : TypeId} {parts : Array (Nat × Operand)} (ho : o.op = .build t parts) {e : Env} {S : Store} {σ : Sig} {n : Nat} {a : Act} {B : Nat} {w : World} (r : Rel σ B S w) (s : sat σ n S e a)
    (hc : chkO P o.op = true) {vs : List Value} (hvs : evs e (parts.toList.map (·.2)) = some vs) (hat : vs.all atomB = true) {v : Value} (hv : evBuild P t (evIdx parts.toList vs) = some v) : Goes P o a σ B S w v S := by
  rw [ho] at hc
  simp only [chkO, Bool.and_eq_true, List.all_eq_true, decide_eq_true_eq] at hc
  obtain ⟨⟨hf, hb⟩, h64⟩ := hc
  obtain ⟨h1, h2⟩ := parts_eval s hf hvs (List.all_eq_true.1 hat)
  have hlen := length_evs hvs
  simp only [List.length_map] at hlen
  unfold buildOk at hb
  split at hb
  · rename_i it fields hit hu
    split at hb
    · rename_i z places hz hpl
      simp only [Bool.and_eq_true, List.all_eq_true, decide_eq_true_eq, beq_iff_eq, Bool.or_eq_true, Bool.not_eq_eq_eq_not, Bool.not_true] at hb
      obtain ⟨⟨⟨hzf, hp1⟩, hp2⟩, hp3⟩ := hb
      simp only [evBuild, hit, hz, Option.some.injEq] at hv
      subst hv
      have hidx : ∀ p ∈ parts.toList, p.1 < z.cells.size := fun p hp => by
        rcases hp3 p.1 (List.mem_range.2 (h64 p hp)) with h | h
        · have := List.any_eq_false.1 h p hp; simp at this
        · omega
      have hzm : z.cells.map (c1 σ) = z.cells := by
        have : z.cells.map (c1 σ) = z.cells.map id := Array.map_congr_left fun x hx => c1_flat (hzf x (by simpa using hx)).1
        rw [this]; simp
      have hparts : ∀ p ∈ (evIdx parts.toList vs), p.1 < z.cells.size ∧ okA S.length p.2 := fun p hp => by
        obtain ⟨h5, h6⟩ := List.of_mem_zip (show (p.1, p.2) ∈ _ from hp)
        obtain ⟨q, hq, hq2⟩ := List.mem_map.1 h5
        exact ⟨by rw [← hq2]; exact hidx q hq, h2 _ h6⟩
      have hconc : conc σ (.agg ((evIdx parts.toList vs).foldl (fun cs p => cs.setIfInBounds p.1 p.2) z.cells)) = .agg (((evIdx parts.toList vs).map fun p => (p.1, c1 σ p.2)).foldl (fun cs p => cs.setIfInBounds p.1 p.2) z.cells) := by
        simp only [conc]; rw [foldl_set_map, hzm]
      have hzip : (evIdx parts.toList vs).map (fun p => (p.1, c1 σ p.2)) = (parts.toList.map (·.1)).zip (vs.map (c1 σ)) := by
        simp [evIdx, List.zip_map_right, Prod.map]
      have e1 : (parts.map fun (i, x) => (i, a.eval x)) = ((parts.toList.map (·.1)).zip (vs.map (c1 σ))).toArray := by
        rw [← h1]; apply Array.toList_inj.1; simp
      have hok : ∀ (ps : List (Nat × Value)) (cs : Array Value), (∀ p ∈ ps, okA S.length p.2) → (∀ x ∈ cs.toList, okA S.length x) → ∀ x ∈ (ps.foldl (fun cs p => cs.setIfInBounds p.1 p.2) cs).toList, okA S.length x := by
        intro ps
        induction ps with
        | nil => intro cs _ h; exact h
        | cons p ps ih =>
          intro cs hps h
          refine ih _ (fun q hq => hps q (by simp [hq])) (fun x hx => ?_)
          rw [Array.toList_setIfInBounds] at hx
          rcases List.mem_or_eq_of_mem_set hx with h' | rfl
          · exact h x h'
          · exact hps p (by simp)
      refine ⟨[], w, hok _ _ (fun p hp => (hparts p hp).2) (fun x hx => okA_flat (hzf x hx).1), by simp, by rw [List.append_nil]; exact r, Below.refl _ _, .inl ?_⟩
      rw [List.append_nil, hconc, hzip]
      have hbuilt : P.built t ((parts.toList.map (·.1)).zip (vs.map (c1 σ))).toArray.toList = some (((parts.toList.map (·.1)).zip (vs.map (c1 σ))).foldl (fun cs p => cs.setIfInBounds p.1 p.2) z.cells) := by
        simp only [Program.built, hit, hu, hz, hpl]
        rw [hp1, hp2]
        refine fill_places z.cells.size _ _ rfl (fun p hp => ?_)
        rw [← hzip] at hp
        obtain ⟨q, hq, rfl⟩ := List.mem_map.1 hp
        exact ⟨(hparts q hq).1, okA_cells (hparts q hq).2⟩
      simp only [execOp, ho, e1]
      simp [run_build w t _ _ hbuilt]
    · cases hb
  · cases hb

/-- What a readable slice is in the world: a slice at an address whose cells hold it; or nil. -/
theorem rd_run {σ : Sig} {B : Nat} {S : Store} {w : World} (r : Rel σ B S w) {x : Value} {ys : List Value} (h : rd S x = some ys) :
    (x = .slice none 0 0 ∧ ys = []) ∨ ∃ ad c, conc σ x = .slice (some ad) ys.length c ∧ (∀ j u, (ys.map (c1 σ))[j]? = some u → w.cell? (ad.add j) = some u) ∧ (∀ y ∈ ys, okA S.length y) := by
  unfold rd at h
  split at h
  · rename_i q m c
    right
    cases hb : (S[q.block]?).bind Ob.cells with
    | none => simp [hb] at h
    | some cs =>
      simp only [hb, Option.bind_some] at h
      split at h
      · rename_i hle
        simp only [Option.some.injEq] at h
        have hlen : ys.length = m := by rw [← h]; simp; omega
        refine ⟨_, _, by rw [hlen]; rfl, fun j u hu => ?_, fun y hy => ?_⟩
        · have hjl := (List.getElem?_eq_some_iff.1 hu).1
          rw [sad_pos (by simp at hjl; omega)]
          rw [List.getElem?_map] at hu
          cases hy : ys[j]? with
          | none => simp [hy] at hu
          | some y =>
            simp only [hy, Option.map_some, Option.some.injEq] at hu
            subst hu
            rw [← h, List.getElem?_take] at hy
            split at hy
            · rw [List.getElem?_drop] at hy
              rw [Addr.add_add]
              exact r.cell hb hy
            · cases hy
        · rw [← h] at hy
          exact r.ok _ cs hb y (List.mem_of_mem_drop (List.mem_of_mem_take hy))
      · cases h
  · simp only [Option.some.injEq] at h
    exact .inl ⟨rfl, h.symm⟩
  · cases h

theorem grownBy_below {B : Nat} {w w' : World} {row : Option Nat} (hB : B ≤ w.heap.size) (hg : w.grownBy w' row) (hr : ∀ k, row = some k → B ≤ k) : Below B w w' :=
  Below.grown (Below.refl _ _) hg hB hr

theorem run_append_fits (w : World) (t ty e : TypeId) (i : TypeInfo) (ht : P.underlying t = some (.slice e)) (hi : P.info? e = some i) (h1s : i.size = 1) (e' : TypeId)
    (g sLen sCap : Nat) (cur : Array Value) (hg : w.heap[g]? = some (.cells cur e' (0, 0)))
    (x : Value) (m : Nat) (news : List Value) (hl : news.length = m) (hx : (x = .slice none 0 0 ∧ m = 0) ∨ ∃ ad c, x = .slice (some ad) m c ∧ ∀ j u, news[j]? = some u → w.cell? (ad.add j) = some u) (h1 : ∀ u ∈ news, u.oneCell' = true)
    (hroom : sLen + m ≤ sCap) (hfit : sLen + m ≤ cur.size) :
    (Builtin.append_ #[t, t] ty #[.slice (some ⟨g, 0, none⟩) sLen sCap, x]).run P w =
      .ok (.slice (some ⟨g, 0, none⟩) (sLen + m) sCap) (w.setRow g (cur.toList.take sLen ++ news ++ cur.toList.drop (sLen + m)).toArray) := by
  have hst := run_storeCells_at P g sLen e' news 0 cur w hg (by omega) h1
  simp only [Nat.add_zero, hl] at hst
  rcases hx with ⟨rfl, rfl⟩ | ⟨ad, c, rfl, hnews⟩
  · have : news = [] := List.eq_nil_of_length_eq_zero hl
    subst this
    have e0 : (cur.toList.take sLen ++ [] ++ cur.toList.drop (sLen + 0)).toArray = cur := by simp
    rw [e0, setRow_self w g cur e' (0, 0) hg]
    have hroom' : sLen ≤ sCap := by omega
    simp [Builtin.append_, run_underlying ht, sizeOf, typeInfo, hi, Builtin.lenOf, hroom', run_firstCells_none, Addr.add_lit, storeCells]
  · have hf := run_firstCells_some (P := P) w 1 m ad m c news (by simpa using hl) hnews
    simp [Builtin.append_, run_underlying ht, sizeOf, typeInfo, hi, Builtin.lenOf, hroom, hf, Addr.add_lit, h1s, hst]

theorem append_goes {o : Oper} {c : Call} (ho : o.op = .call c) (hcb : c.callee = .builtin .append) {sx xx : Operand} (hargs : c.args.toList = [sx, xx]) {e : Env} {S : Store} {σ : Sig} {n : Nat} {a : Act} {B : Nat} {w : World} (r : Rel σ B S w) (s : sat σ n S e a)
    (hc : chkO P o.op = true) {sv xv : Value} (hs : ev e sx = some sv) (hx : ev e xx = some xv) {p : Value × Store} (hp : app S sv xv = some p) (hsz : slen p.1 ≤ 1099511627776) : Goes P o a σ B S w p.1 p.2 := by
  obtain ⟨callee, args, argTypes⟩ := c
  subst hcb
  rw [ho] at hc
  simp only [chkO, Bool.and_eq_true, List.all_eq_true, decide_eq_true_eq] at hc
  obtain ⟨⟨hfl, hel⟩, hat⟩ := hc
  generalize argTypes.getD 0 0 = t at hel hat
  subst hat
  simp only at hargs hfl
  have hargs' : args = #[sx, xx] := by rw [← Array.toArray_toList (xs := args), hargs]
  subst hargs'
  obtain ⟨el, i, z, hu, hi, h1s, hby, hz, hfz⟩ := elemOk_run hel
  obtain ⟨g1, ok1⟩ := ev_ok s (hfl sx (by simp)) hs
  obtain ⟨g2, ok2⟩ := ev_ok s (hfl xx (by simp)) hx
  have hexec : ∀ (v : Value) (w' : World), (Builtin.append_ #[t, t] o.type #[a.eval sx, a.eval xx]).run P w = .ok v w' → (execOp a.eval o).run P w = .ok (.value v) w' := by
    intro v w' h
    simp only [execOp, ho]
    simp [resolve, invoke, builtin, h]
  unfold app at hp
  cases hr : rd S xv with
  | none => simp [hr] at hp
  | some ys =>
    simp only [hr, Option.bind_some] at hp
    have hrd := rd_run r hr
    have hyok : ∀ y ∈ ys, okA S.length y := by
      rcases hrd with ⟨_, rfl⟩ | ⟨_, _, _, _, h⟩
      · simp
      · exact h
    have hone : ∀ u ∈ ys.map (c1 σ), u.oneCell' = true := fun u hu' => by
      obtain ⟨y, hy, rfl⟩ := List.mem_map.1 hu'
      exact okA_oneCell (hyok y hy)
    split at hp
    · -- onto nil
      split at hp
      · rename_i hys
        subst hys
        simp only [Option.some.injEq] at hp
        subst hp
        refine ⟨[], w, ok1, Nat.le_refl _, by rw [List.append_nil]; exact r, Below.refl _ _, .inl (hexec _ _ ?_)⟩
        rw [List.append_nil, g1, g2]
        rcases hrd with ⟨rfl, _⟩ | ⟨ad, cc, h1, h2, _⟩
        · simp [conc, c1, Builtin.append_, run_underlying hu, sizeOf, typeInfo, hi, Builtin.lenOf, Builtin.firstCells]
        · rw [h1]
          simp [conc, c1, Builtin.append_, run_underlying hu, sizeOf, typeInfo, hi, Builtin.lenOf, Builtin.firstCells, loadCells, loadCellsFrom]
      · rename_i hys
        simp only [Option.some.injEq] at hp
        subst hp
        have hpos : 0 < ys.length := List.length_pos_iff.2 hys
        have hsz' : ys.length ≤ 1099511627776 := hsz
        rcases hrd with ⟨_, h⟩ | ⟨ad, cc, h1, h2, _⟩
        · exact absurd h hys
        have hrun := run_append_nil (P := P) w t o.type el i z hu hi hz ad ys.length cc (ys.map (c1 σ)) (by simp [h1s]) h2 hpos (by omega) (by have := Nat.mul_le_mul hsz' hby; omega)
        have hge := grownCap_ge w ys.length 0 el
        have hle := grownCap_le_maxLen w ys.length 0 el (by unfold maxLen; omega)
        generalize grownCap w ys.length 0 el = gc at hrun hge hle
        have hzc : (Builtin.zeroCells z.cells (gc - ys.length)).size = gc - ys.length := by rw [size_zeroCells, flat_cells hfz]; simp
        have hR := r.drew.new ys hyok ((ys.map (c1 σ)).toArray ++ Builtin.zeroCells z.cells (gc - ys.length)) el (by simp) (by simp [hzc]; omega)
          (fun j y hy => by rw [Array.getElem?_append_left (by have := (List.getElem?_eq_some_iff.1 hy).1; simpa using this)]; simp [hy])
        have hgs : ((ys.map (c1 σ)).toArray ++ Builtin.zeroCells z.cells (gc - ys.length)).size = gc := by simp [hzc]; omega
        rw [hgs] at hR
        refine ⟨[⟨⟨w.heap.size, 0, none⟩, gc⟩], _, by simp [okV, okA, mk], by simp, hR, Below.alloc (Below.drew (Below.refl _ _)) r.base _, .inl (hexec _ _ ?_)⟩
        rw [c1_new r.len.symm, g1, g2, h1]
        simpa [conc, c1, Addr.add] using hrun
    · -- onto a slice of the call's own
      rename_i q m cq
      split at hp
      · rename_i hq0'
        obtain ⟨hq0, hqs⟩ := hq0'
        split at hp
        · rename_i cs hS
          obtain ⟨ha, hB, hml, cur, e', hcur, hcsz, hcle, hcell⟩ := r.own _ cs hS
          have hblk := (List.getElem?_eq_some_iff.1 hS).1
          have g1' : a.eval sx = .slice (some ⟨(σ.pl q.block).a.block, 0, none⟩) m (σ.pl q.block).lim := by
            rw [g1]; simp only [conc, c1, sad, hqs, hq0, Addr.add_zero', Nat.sub_zero]; rw [ha]
          have hxx : (a.eval xx = .slice none 0 0 ∧ ys.length = 0) ∨ ∃ ad c, a.eval xx = .slice (some ad) ys.length c ∧ ∀ j u, (ys.map (c1 σ))[j]? = some u → w.cell? (ad.add j) = some u := by
            rcases hrd with ⟨rfl, rfl⟩ | ⟨ad, cc, h1, h2, _⟩
            · exact .inl ⟨g2, rfl⟩
            · exact .inr ⟨ad, cc, g2.trans h1, h2⟩
          -- in place
          have place : ∀ (cs' : List Value), (∀ x ∈ cs', okA S.length x) → m + ys.length ≤ (σ.pl q.block).lim → cs'.length ≤ (σ.pl q.block).lim →
              (∀ (j : Nat) (y : Value), cs'[j]? = some y → (cur.toList.take m ++ ys.map (c1 σ) ++ cur.toList.drop (m + ys.length))[j]? = some (c1 σ y)) →
              ∃ w', Rel σ B (S.set q.block (.own cs')) w' ∧ Below B w w' ∧ (execOp a.eval o).run P w = .ok (.value (.slice (some ⟨(σ.pl q.block).a.block, 0, none⟩) (m + ys.length) (σ.pl q.block).lim)) w' ∧
                w'.heap[(σ.pl q.block).a.block]? = some (.cells (cur.toList.take m ++ ys.map (c1 σ) ++ cur.toList.drop (m + ys.length)).toArray e' (0, 0)) ∧ w'.heap.size = w.heap.size := by
            intro cs' hok hroom hle hin
            have hrun := run_append_fits (P := P) w t o.type el i hu hi h1s e' _ m (σ.pl q.block).lim cur hcur (a.eval xx) ys.length (ys.map (c1 σ)) (by simp) hxx hone hroom (by omega)
            rw [← g1'] at hrun
            have hheap := setRow_heap w _ cur (cur.toList.take m ++ ys.map (c1 σ) ++ cur.toList.drop (m + ys.length)).toArray e' (0, 0) hcur
            have hother : ∀ k, k ≠ (σ.pl q.block).a.block → (w.setRow (σ.pl q.block).a.block (cur.toList.take m ++ ys.map (c1 σ) ++ cur.toList.drop (m + ys.length)).toArray).heap[k]? = w.heap[k]? := fun k hk => setRow_other w _ k _ hk
            have hsize : (w.setRow (σ.pl q.block).a.block (cur.toList.take m ++ ys.map (c1 σ) ++ cur.toList.drop (m + ys.length)).toArray).heap.size = w.heap.size := by simp [World.setRow]
            have hlen : (cur.toList.take m ++ ys.map (c1 σ) ++ cur.toList.drop (m + ys.length)).length = (σ.pl q.block).lim := by simp; omega
            refine ⟨_, r.setRow hS cs' hok _ e' _ (by simpa using hlen) (by simp only [List.size_toArray]; omega) (fun j y hy => by simpa using hin j y hy) hheap hother (Nat.le_of_eq hsize.symm), ⟨rfl, rfl, rfl, Nat.le_of_eq hsize.symm, fun k hk => hother k (by omega)⟩, hexec _ _ hrun, hheap, hsize⟩
          split at hp
          · -- at the end of what is known: the slice moves
            rename_i hmc
            subst hmc
            simp only [Option.some.injEq] at hp
            subst hp
            have hsz' : cs.length + ys.length ≤ 1099511627776 := hsz
            have hcok : ∀ x ∈ cs, okA S.length x := r.ok q.block cs (by simp [hS, Ob.cells])
            have htake : cur.toList.take cs.length = cs.map (c1 σ) := by
              apply List.ext_getElem?
              intro j
              rw [List.getElem?_take, List.getElem?_map]
              by_cases hj : j < cs.length
              · rw [if_pos hj]
                have := hcell j cs[j] (by simp [hj])
                rw [Array.getElem?_toList, this]; simp [hj]
              · rw [if_neg hj, List.getElem?_eq_none (by omega)]; rfl
            by_cases hroom : cs.length + ys.length ≤ (σ.pl q.block).lim
            · obtain ⟨w', hR, hbel, hrun, hheap, hwsz⟩ := place (cs ++ ys) (fun x hx => by exact (List.mem_append.1 hx).elim (hcok x) (hyok x)) hroom (by simpa using hroom)
                (fun j y hy => by
                  rw [htake, ← List.map_append, List.getElem?_append_left (by have := (List.getElem?_eq_some_iff.1 hy).1; simpa using this), List.getElem?_map, hy]; rfl)
              -- the same block under a new handle
              have hset : (S.set q.block (.own (cs ++ ys)))[q.block]? = some (.own (cs ++ ys)) := by rw [List.getElem?_set_self hblk]
              refine ⟨[σ.pl q.block], w', by simp [okV, okA, mk], by simp, ?_, hbel, .inl ?_⟩
              · have hl := r.len
                have hnew : Sig.pl (σ ++ [σ.pl q.block]) S.length = σ.pl q.block := by simp [Sig.pl, List.getD, ← hl]
                have hold : ∀ (h : Nat) (ob : Ob), S[h]? = some ob → Sig.pl (σ ++ [σ.pl q.block]) h = σ.pl h := fun h ob hh => Sig.pl_append (by rw [hl]; exact (List.getElem?_eq_some_iff.1 hh).1)
                have okS : ∀ x, okA S.length x → c1 (σ ++ [σ.pl q.block]) x = c1 σ x := fun x hx => c1_append (by rw [hl]; exact hx)
                have hcase : ∀ (h : Nat) (ob : Ob), (S.set q.block .dead ++ [Ob.own (cs ++ ys)])[h]? = some ob → ob = .dead ∨ (h ≠ q.block ∧ S[h]? = some ob) ∨ (h = S.length ∧ ob = .own (cs ++ ys)) := by
                  intro h ob hh
                  rcases Nat.lt_or_ge h S.length with hlt | hge
                  · rw [List.getElem?_append_left (by simpa using hlt)] at hh
                    by_cases hk : h = q.block
                    · subst hk; rw [List.getElem?_set_self hlt] at hh; left; simpa using hh.symm
                    · rw [List.getElem?_set_ne (fun e => hk e.symm)] at hh; right; left; exact ⟨hk, hh⟩
                  · rw [List.getElem?_append_right (by simpa using hge)] at hh
                    simp only [List.length_set] at hh
                    rcases Nat.eq_zero_or_pos (h - S.length) with h0 | hp
                    · simp [h0] at hh; right; right; exact ⟨by omega, hh.symm⟩
                    · rw [List.getElem?_eq_none (by simp; omega)] at hh; cases hh
                have hSin : ∀ (h : Nat) (ob : Ob), h ≠ q.block → S[h]? = some ob → (S.set q.block (.own (cs ++ ys)))[h]? = some ob := fun h ob hne hh => by rw [List.getElem?_set_ne (fun e => hne e.symm)]; exact hh
                refine ⟨by simp [hl], hR.base, ?_, ?_, ?_, ?_⟩
                · intro h c hh
                  rcases hcase h _ hh with h2 | ⟨hne, h1⟩ | ⟨rfl, h2⟩
                  · cases h2
                  · obtain ⟨b1, b2, b3, cur1, e1, b4, b5, b6, b7⟩ := hR.own h c (hSin h _ hne h1)
                    rw [hold h _ h1]
                    exact ⟨b1, b2, b3, cur1, e1, b4, b5, b6, fun j x hx => by rw [okS x (r.ok h c (by simp [h1, Ob.cells]) x (List.mem_of_getElem? hx))]; exact b7 j x hx⟩
                  · cases h2
                    rw [hnew]
                    obtain ⟨b1, b2, b3, cur1, e1, b4, b5, b6, b7⟩ := hR.own q.block (cs ++ ys) hset
                    exact ⟨b1, b2, b3, cur1, e1, b4, b5, b6, fun j x hx => by
                      rw [okS x (by exact (List.mem_append.1 (List.mem_of_getElem? hx)).elim (hcok x) (hyok x))]; exact b7 j x hx⟩
                · intro h c hh
                  rcases hcase h _ hh with h2 | ⟨hne, h1⟩ | ⟨rfl, h2⟩
                  · cases h2
                  · obtain ⟨b1, b2, b3⟩ := hR.ro h c (hSin h _ hne h1)
                    rw [hold h _ h1]
                    exact ⟨b1, b2, fun j x hx => by rw [okS x (r.ok h c (by simp [h1, Ob.cells]) x (List.mem_of_getElem? hx))]; exact b3 j x hx⟩
                  · cases h2
                · intro h h' c c' hh hh' hne
                  rcases hcase h _ hh with h2 | ⟨hn, h1⟩ | ⟨rfl, h2⟩ <;> rcases hcase h' _ hh' with h2' | ⟨hn', h1'⟩ | ⟨rfl, h2'⟩
                  · cases h2
                  · cases h2
                  · cases h2
                  · cases h2'
                  · rw [hold h _ h1, hold h' _ h1']; exact r.sep h h' c c' h1 h1' hne
                  · rw [hold h _ h1, hnew]; exact r.sep h q.block c cs h1 hS hn
                  · cases h2'
                  · rw [hold h' _ h1', hnew]; exact r.sep q.block h' cs c' hS h1' (fun e => hn' e.symm)
                  · exact absurd rfl hne
                · intro h c hh x hx
                  have : okA S.length x := by
                    cases ho' : (S.set q.block .dead ++ [Ob.own (cs ++ ys)])[h]? with
                    | none => simp [ho'] at hh
                    | some ob =>
                      rcases hcase h _ ho' with h2 | ⟨_, h1⟩ | ⟨rfl, h2⟩
                      · subst h2; simp [ho', Ob.cells] at hh
                      · exact r.ok h c (by simpa [ho', h1] using hh) x hx
                      · subst h2; simp [Ob.cells] at hh; subst hh
                        exact (List.mem_append.1 hx).elim (hcok x) (hyok x)
                  exact this.mono (by simp)
              · rw [c1_new (by rw [r.len])]
                rw [hrun, Addr.add_zero', ← ha]
            · -- there is no room: a new block
              have hcells : ∀ j v, (cs.map (c1 σ))[j]? = some v → w.cell? ((⟨(σ.pl q.block).a.block, 0, none⟩ : Addr).add j) = some v := by
                intro j v hv
                rw [List.getElem?_map] at hv
                cases hy : cs[j]? with
                | none => simp [hy] at hv
                | some y =>
                  simp only [hy, Option.map_some, Option.some.injEq] at hv
                  subst hv
                  have := r.cell (h := q.block) (cs := cs) (by simp [hS, Ob.cells]) hy
                  rwa [ha] at this
              rcases hxx with ⟨hx1, hx2⟩ | ⟨ad, cc, hx1, hx2⟩
              · omega
              have hrun := run_append_grow (P := P) w t o.type el i z hu hi hz ⟨(σ.pl q.block).a.block, 0, none⟩ cs.length (σ.pl q.block).lim (cs.map (c1 σ)) (by simp [h1s]) hcells ad ys.length cc (ys.map (c1 σ)) (by simp [h1s]) hx2
                (by omega) (by omega) (growslice_fits (by omega) (by have := Nat.mul_le_mul hsz' hby; omega))
              have hge := grownCap_ge w (cs.length + ys.length) (σ.pl q.block).lim el
              have hle := grownCap_le_maxLen w (cs.length + ys.length) (σ.pl q.block).lim el (by unfold maxLen; omega)
              generalize grownCap w (cs.length + ys.length) (σ.pl q.block).lim el = gc at hrun hge hle
              have hzc : (Builtin.zeroCells z.cells (gc - (cs.length + ys.length))).size = gc - (cs.length + ys.length) := by rw [size_zeroCells, flat_cells hfz]; simp
              have hgs : ((cs.map (c1 σ)).toArray ++ (ys.map (c1 σ)).toArray ++ Builtin.zeroCells z.cells (gc - (cs.length + ys.length))).size = gc := by simp [hzc]; omega
              have hallok : ∀ x ∈ cs ++ ys, okA (S.set q.block .dead).length x := fun x hx => by
                simp only [List.length_set]
                exact (List.mem_append.1 hx).elim (hcok x) (hyok x)
              have hR := (r.kill q.block).drew.new (cs ++ ys) hallok ((cs.map (c1 σ)).toArray ++ (ys.map (c1 σ)).toArray ++ Builtin.zeroCells z.cells (gc - (cs.length + ys.length))) el (by rw [hgs]; simp; omega) (by rw [hgs]; exact hle)
                (fun j y hy => by
                  have hj := (List.getElem?_eq_some_iff.1 hy).1
                  have e3 : (cs.map (c1 σ)).toArray ++ (ys.map (c1 σ)).toArray = ((cs ++ ys).map (c1 σ)).toArray := by simp
                  rw [e3, Array.getElem?_append_left (by simpa using hj)]
                  exact map_getElem? (cs ++ ys) j y hy)
              rw [hgs] at hR
              refine ⟨[⟨⟨w.heap.size, 0, none⟩, gc⟩], _, by simp [okV, okA, mk], by simp, hR, Below.alloc (Below.drew (Below.refl _ _)) r.base _, .inl (hexec _ _ ?_)⟩
              rw [c1_new r.len.symm, g1', hx1]
              simpa [Addr.add] using hrun
          · split at hp
            · -- over what is known
              rename_i hmc hfit
              simp only [Option.some.injEq] at hp
              subst hp
              have hcok : ∀ x ∈ cs, okA S.length x := r.ok q.block cs (by simp [hS, Ob.cells])
              obtain ⟨w', hR, hbel, hrun, _⟩ := place (cs.take m ++ ys ++ cs.drop (m + ys.length))
                (fun x hx => by
                  rcases List.mem_append.1 hx with h | h
                  · exact (List.mem_append.1 h).elim (fun h => hcok x (List.mem_of_mem_take h)) (hyok x)
                  · exact hcok x (List.mem_of_mem_drop h)) (by omega) (by simp; omega)
                (fun j y hy => by
                  have hml' : (cs.take m).length = m := by simp; omega
                  have hml2 : (cur.toList.take m).length = m := by simp; omega
                  by_cases hj : j < m
                  · rw [List.append_assoc, List.getElem?_append_left (by omega), List.getElem?_take, if_pos hj] at hy
                    rw [List.append_assoc, List.getElem?_append_left (by omega), List.getElem?_take, if_pos hj, Array.getElem?_toList]
                    exact hcell j y hy
                  · rw [List.append_assoc, List.getElem?_append_right (by omega), hml'] at hy
                    rw [List.append_assoc, List.getElem?_append_right (by omega), hml2]
                    by_cases hj2 : j - m < ys.length
                    · rw [List.getElem?_append_left hj2] at hy
                      rw [List.getElem?_append_left (by simpa using hj2), List.getElem?_map, hy]; rfl
                    · rw [List.getElem?_append_right (by omega), List.getElem?_drop] at hy
                      rw [List.getElem?_append_right (by simp; omega), List.getElem?_drop, Array.getElem?_toList]
                      have e1 : m + ys.length + (j - m - ys.length) = j := by omega
                      have e2 : m + ys.length + (j - m - (ys.map (c1 σ)).length) = j := by simp; omega
                      rw [e1] at hy; rw [e2]
                      exact hcell j y hy)
              refine ⟨[], w', by simpa [okV, okA, mk] using hblk, by simp, by rw [List.append_nil]; exact hR, hbel, .inl ?_⟩
              rw [hrun, List.append_nil]
              simp only [mk, conc, c1, sad, Addr.add_zero', Nat.sub_zero]
              rw [← ha]
            · cases hp
        · cases hp
      · cases hp
    · cases hp

end
end Go.Mill

/- The mill, part E: regions, code, contracts. -/
import Derived.Test.YtodeldmkpogakaaMillD
import Derived.OrdersHeld
namespace Go.Mill
open Go Go.RowKit
set_option linter.unusedSimpArgs false
set_option linter.unusedVariables false

def guardK (v : Value) (want : Bool) (A B : Prop) : Prop :=
  match v with
  | .bool t => ifK (t == want) A B
  | .tuple _ => B
  | _ => False
def dstAt (all : Array Oper) (j : Nat) : Option Nat := (all[j]?).bind (·.dst)

/-- A region whose order is the text's. -/
def regs (P : Program) (all : Array Oper) (Q : Env → Store → Prop) : List Oper → Env → Store → Prop
  | [], e, S => Q e S
  | o :: rest, e, S =>
    match o.guard with
    | none => aop P o.op e S fun v S' => regs P all Q rest (putE o.dst v e) S'
    | some g => optK (dstAt all g.1) fun d => optK (lk e d) fun gv =>
        guardK gv g.2 (aop P o.op e S fun v S' => regs P all Q rest (putE o.dst v e) S') (regs P all Q rest (putE o.dst undef e) S)

/-- A region that draws its order and only reads. -/
def regQ (P : Program) (all : Array Oper) (S : Store) (Q : Env → Prop) : List Oper → Env → Prop
  | [], e => Q e
  | o :: rest, e =>
    match o.guard with
    | none => aopP P o.op e S fun v => regQ P all S Q rest (putE o.dst v e)
    | some g => optK (dstAt all g.1) fun d => optK (lk e d) fun gv =>
        guardK gv g.2 (aopP P o.op e S fun v => regQ P all S Q rest (putE o.dst v e)) (regQ P all S Q rest (putE o.dst undef e))

/-- The store after it: the same, or more. -/
def Gr (ex : Bool) (S S' : Store) : Prop := match ex with | true => S = S' | false => Ext S S'
theorem Gr.toExt {ex : Bool} {S S' : Store} (h : Gr ex S S') : Ext S S' := by
  cases ex
  · exact h
  · simp only [Gr] at h; subst h; exact Ext.refl _
theorem Gr.refl (ex : Bool) (S : Store) : Gr ex S S := by
  cases ex
  · exact Ext.refl _
  · rfl
theorem Gr.trans {ex : Bool} {S S' S'' : Store} (h : Gr ex S S') (h' : Gr ex S' S'') : Gr ex S S'' := by
  cases ex
  · exact Ext.trans h h'
  · simp only [Gr] at h h' ⊢; rw [h, h']

/-- A call in such a region: it answers a flat value, whatever was made besides. -/
def callQ (P : Program) (ex : Bool) (f : FuncId) (args : List Value) (S : Store) (K : Value → Prop) : Prop :=
  ∃ v, flat v = true ∧ (∀ S', Gr ex S S' → ACalls P f args S' fun r S'' => r = v ∧ Gr ex S' S'') ∧ K v
def aopQ (P : Program) (ex : Bool) (op : Op) (e : Env) (S : Store) (K : Value → Prop) : Prop :=
  match op with
  | .call c => match c.callee with
    | .value f => optK (ev e f) fun fv => optK (evs e c.args.toList) fun vs => match fv with
        | .func (.func f) first captured => callable P f = true ∧ callQ P ex f (first.toList ++ vs ++ captured.toList) S K
        | _ => False
    | _ => aopP P (.call c) e S K
  | op => aopP P op e S K
def regQC (P : Program) (all : Array Oper) (ex : Bool) (S : Store) (Q : Env → Prop) : List Oper → Env → Prop
  | [], e => Q e
  | o :: rest, e =>
    match o.guard with
    | none => aopQ P ex o.op e S fun v => regQC P all ex S Q rest (putE o.dst v e)
    | some g => optK (dstAt all g.1) fun d => optK (lk e d) fun gv =>
        guardK gv g.2 (aopQ P ex o.op e S fun v => regQC P all ex S Q rest (putE o.dst v e)) (regQC P all ex S Q rest (putE o.dst undef e))

def chkD (n : Nat) (o : Oper) : Bool := match o.dst with | some d => decide (d < n) | none => true
def chkQ (P : Program) : Op → Bool
  | .call c => match c.callee with
    | .value f => flatO f && c.args.toList.all flatO
    | _ => chkP P (.call c)
  | op => chkP P op

section
variable {P : Program}
theorem chkD_spec {n : Nat} {o : Oper} (h : chkD n o = true) : ∀ i, o.dst = some i → i < n := by
  intro i hi; simp [chkD, hi] at h; exact h

theorem wanted_guard {all : Array Oper} {o : Oper} {g : Nat × Bool} (hg : o.guard = some g) {d : Nat} (hd : dstAt all g.1 = some d) {σ : Sig} {n : Nat} {S : Store} {e : Env} {a : Act} (s : sat σ n S e a) {gv : Value} (hl : lk e d = some gv) {A B : Prop} (h : guardK gv g.2 A B) :
    (Region.wanted o (yielded all a.tmps) = true ∧ A) ∨ (Region.wanted o (yielded all a.tmps) = false ∧ B) := by
  obtain ⟨j, want⟩ := g
  obtain ⟨h1, -⟩ := s.look d gv hl
  unfold dstAt at hd
  simp only at hd h
  unfold guardK at h
  split at h
  · rename_i t
    have hy : yielded all a.tmps j = some t := by simp [yielded, hd, h1, conc, c1]
    have hwt : Region.wanted o (yielded all a.tmps) = (t == want) := by
      simp only [Region.wanted, hg, hy]; cases t <;> cases want <;> rfl
    rw [hwt]
    cases hb : (t == want) with
    | true => rw [hb] at h; exact .inl ⟨rfl, h⟩
    | false => rw [hb] at h; exact .inr ⟨rfl, h⟩
  · rename_i vs
    have hy : yielded all a.tmps j = none := by simp [yielded, hd, h1, conc]
    exact .inr ⟨by simp [Region.wanted, hg, hy], h⟩
  · exact h.elim

/-- What a stretch of code leaves, in the model. -/
def Left (n : Nat) (σ : Sig) (B : Nat) (w0 : World) (Q : Env → Store → Prop) (a' : Act) (w' : World) : Prop :=
  ∃ (e' : Env) (S' : Store) (τ : Sig), Q e' S' ∧ Rel (σ ++ τ) B S' w' ∧ Below B w0 w' ∧ sat (σ ++ τ) n S' e' a'

theorem regs_wp {all : Array Oper} {n : Nat} {B : Nat} {Q : Env → Store → Prop} : ∀ (l : List Oper) (e : Env) (S : Store) (σ : Sig) (a : Act) (w w0 : World) (Qc : Exit → Act → World → Prop),
    (∀ o ∈ l, chkO P o.op = true ∧ chkD n o = true) → Rel σ B S w → Below B w0 w → sat σ n S e a → regs P all Q l e S → (∀ a' w', Left n σ B w0 Q a' w' → Qc .normal a' w') → wpList P all Qc l a w
  | [], e, S, σ, a, w, w0, Qc, _, r, hb, s, h, hq => hq a w ⟨e, S, [], h, by rw [List.append_nil]; exact r, hb, by rw [List.append_nil]; exact s⟩
  | o :: rest, e, S, σ, a, w, w0, Qc, hc, r, hb, s, h, hq => by
    obtain ⟨hc1, hc2⟩ := hc o (by simp)
    have step : aop P o.op e S (fun v S' => regs P all Q rest (putE o.dst v e) S') → o.wp P a w (wpList P all Qc rest) Qc := fun h' => by
      refine Oper.wp_mono (fun a' w' h1 => ?_) (aop_wp (Q := Qc) r s hc1 h')
      obtain ⟨u, rfl, v, S', τ, rfl, hk, hv, hl, hR, hB⟩ := h1
      exact regs_wp rest _ S' (σ ++ τ) _ w' w0 Qc (fun o' ho' => hc o' (by simp [ho'])) hR (hb.trans hB) ((s.mono r.len τ hl).put (chkD_spec hc2) hv) hk
        (fun a' w'' ⟨e', S'', τ', h1, h2, h3, h4⟩ => hq a' w'' ⟨e', S'', τ ++ τ', h1, by rw [← List.append_assoc]; exact h2, h3, by rw [← List.append_assoc]; exact h4⟩)
    have skip : regs P all Q rest (putE o.dst undef e) S → wpList P all Qc rest (a.put o.dst undef) w := fun h' => by
      have hp := s.put (chkD_spec hc2) (okV_undef S.length)
      rw [conc_undef] at hp
      exact regs_wp rest _ S σ _ w w0 Qc (fun o' ho' => hc o' (by simp [ho'])) r hb hp h' hq
    unfold regs at h
    unfold wpList
    split at h
    · rename_i hg
      rw [if_pos (by simp [Region.wanted, hg])]
      exact .inl (step h)
    · rename_i g hg
      obtain ⟨d, hd, h⟩ := optK_elim h
      obtain ⟨gv, hgv, h⟩ := optK_elim h
      rcases wanted_guard hg hd s hgv h with ⟨hw, hA⟩ | ⟨hw, hB⟩
      · rw [if_pos hw]; exact .inl (step hA)
      · rw [if_neg (by simp [hw])]; exact skip hB

theorem aopP_quiet {o : Oper} {e : Env} {S : Store} {K : Value → Prop} {σ : Sig} {n : Nat} {a : Act} {B : Nat} {w : World} (r : Rel σ B S w) (s : sat σ n S e a) (hc : chkP P o.op = true) (h : aopP P o.op e S K) :
    ∃ v, K v ∧ okV S.length v ∧ ∀ w', Rel σ B S w' → (execOp a.eval o).run P w' = .ok (.value (conc σ v)) w' := by
  obtain ⟨v, hk, hv, hrun⟩ := aopP_sound r s hc h
  exact ⟨v, hk, hv, fun w' r' => hrun [] S w' (Ext.refl S) (by rw [List.append_nil]; exact r')⟩

theorem regQ_wp {all : Array Oper} {n : Nat} {B : Nat} {Q : Env → Prop} {S : Store} {σ : Sig} {w0 : World} {Qa : Act → Prop} : ∀ (l : List Oper) (e : Env) (a : Act),
    (∃ w, Rel σ B S w) → (∀ o ∈ l, chkP P o.op = true ∧ chkD n o = true) → sat σ n S e a → regQ P all S Q l e → (∀ e' a', Q e' → sat σ n S e' a' → Qa a') → wpQuiet P all (fun w' => Rel σ B S w' ∧ Below B w0 w') Qa l a
  | [], e, a, _, _, s, h, hq => hq e a h s
  | o :: rest, e, a, hr, hc, s, h, hq => by
    obtain ⟨w, r⟩ := hr
    obtain ⟨hc1, hc2⟩ := hc o (by simp)
    have step : aopP P o.op e S (fun v => regQ P all S Q rest (putE o.dst v e)) → o.quiet P a (fun w' => Rel σ B S w' ∧ Below B w0 w') (wpQuiet P all (fun w' => Rel σ B S w' ∧ Below B w0 w') Qa rest) := fun h' => by
      obtain ⟨v, hk, hv, hrun⟩ := aopP_quiet r s hc1 h'
      refine ⟨conc σ v, fun w' hw' => ?_, regQ_wp rest _ _ ⟨w, r⟩ (fun o' ho' => hc o' (by simp [ho'])) (s.put (chkD_spec hc2) hv) hk hq⟩
      unfold Oper.quietAt
      rw [hrun w' hw'.1]
      exact ⟨rfl, rfl⟩
    have skip : regQ P all S Q rest (putE o.dst undef e) → wpQuiet P all (fun w' => Rel σ B S w' ∧ Below B w0 w') Qa rest (a.put o.dst undef) := fun h' => by
      have hp := s.put (chkD_spec hc2) (okV_undef S.length)
      rw [conc_undef] at hp
      exact regQ_wp rest _ _ ⟨w, r⟩ (fun o' ho' => hc o' (by simp [ho'])) hp h' hq
    unfold regQ at h
    unfold wpQuiet
    split at h
    · rename_i hg
      rw [if_pos (by simp [Region.wanted, hg])]
      exact step h
    · rename_i g hg
      obtain ⟨d, hd, h⟩ := optK_elim h
      obtain ⟨gv, hgv, h⟩ := optK_elim h
      rcases wanted_guard hg hd s hgv h with ⟨hw, hA⟩ | ⟨hw, hB⟩
      · rw [if_pos hw]; exact step hA
      · rw [if_neg (by simp [hw])]; exact skip hB

theorem regQ_still {all : Array Oper} {n : Nat} {B : Nat} {Q : Env → Prop} {S : Store} {σ : Sig} {w : World} {Qa : Act → Prop} (r : Rel σ B S w) : ∀ (l : List Oper) (e : Env) (a : Act),
    (∀ o ∈ l, chkP P o.op = true ∧ chkD n o = true) → sat σ n S e a → regQ P all S Q l e → (∀ e' a', Q e' → sat σ n S e' a' → Qa a') → wpStill P all w Qa l a
  | [], e, a, _, s, h, hq => hq e a h s
  | o :: rest, e, a, hc, s, h, hq => by
    obtain ⟨hc1, hc2⟩ := hc o (by simp)
    have step : aopP P o.op e S (fun v => regQ P all S Q rest (putE o.dst v e)) → o.still P a w (wpStill P all w Qa rest) := fun h' => by
      obtain ⟨v, hk, hv, hrun⟩ := aopP_quiet r s hc1 h'
      unfold Oper.still
      rw [hrun w r]
      exact ⟨rfl, regQ_still r rest _ _ (fun o' ho' => hc o' (by simp [ho'])) (s.put (chkD_spec hc2) hv) hk hq⟩
    have skip : regQ P all S Q rest (putE o.dst undef e) → wpStill P all w Qa rest (a.put o.dst undef) := fun h' => by
      have hp := s.put (chkD_spec hc2) (okV_undef S.length)
      rw [conc_undef] at hp
      exact regQ_still r rest _ _ (fun o' ho' => hc o' (by simp [ho'])) hp h' hq
    unfold regQ at h
    unfold wpStill
    split at h
    · rename_i hg
      rw [if_pos (by simp [Region.wanted, hg])]
      exact step h
    · rename_i g hg
      obtain ⟨d, hd, h⟩ := optK_elim h
      obtain ⟨gv, hgv, h⟩ := optK_elim h
      rcases wanted_guard hg hd s hgv h with ⟨hw, hA⟩ | ⟨hw, hB⟩
      · rw [if_pos hw]; exact step hA
      · rw [if_neg (by simp [hw])]; exact skip hB

def ClsQ (ex : Bool) (σ : Sig) (B : Nat) (S : Store) (w0 w' : World) : Prop := ∃ (τ : Sig) (S' : Store), Gr ex S S' ∧ Rel (σ ++ τ) B S' w' ∧ Below B w0 w'

theorem aopQ_quiet {ex : Bool} {o : Oper} {e : Env} {S : Store} {K : Value → Prop} {σ : Sig} {n : Nat} {a : Act} {B : Nat} {w w0 : World} (r : Rel σ B S w) (s : sat σ n S e a) (hc : chkQ P o.op = true) (h : aopQ P ex o.op e S K) :
    ∃ v, K v ∧ okV S.length v ∧ ∀ w', ClsQ ex σ B S w0 w' → o.quietAt P a (ClsQ ex σ B S w0) w' (conc σ v) := by
  have pure : chkP P o.op = true → aopP P o.op e S K → ∃ v, K v ∧ okV S.length v ∧ ∀ w', ClsQ ex σ B S w0 w' → o.quietAt P a (ClsQ ex σ B S w0) w' (conc σ v) := fun hc' h' => by
    obtain ⟨v, hk, hv, hrun⟩ := aopP_sound r s hc' h'
    refine ⟨v, hk, hv, fun w' ⟨τ, S', hE, hR, hB⟩ => ?_⟩
    unfold Oper.quietAt
    rw [hrun τ S' w' hE.toExt hR]
    exact ⟨rfl, rfl⟩
  cases hop : o.op with
  | call c =>
    rw [hop] at h
    cases hcal : c.callee with
    | value fo =>
      simp only [aopQ, hcal] at h
      obtain ⟨fv, hfv, h⟩ := optK_elim h
      obtain ⟨vs, hvs, h⟩ := optK_elim h
      have hc' := hc
      rw [hop] at hc'
      simp only [chkQ, hcal, Bool.and_eq_true, List.all_eq_true] at hc'
      split at h
      · rename_i g first captured
        obtain ⟨hca, v, hfl, hcon, hk⟩ := h
        refine ⟨v, hk, flat_ok hfl, fun w' ⟨τ, S', hE, hR, hB⟩ => ?_⟩
        obtain ⟨h1, h2⟩ := call_run hop hcal (s.mono r.len τ hE.toExt.len) hc'.1 hc'.2 hfv hvs hca w'
        unfold Oper.quietAt
        rw [h1]
        refine ⟨rfl, (hcon S' hE (σ ++ τ) B w' hR h2).mono ?_⟩
        rintro e' w'' ⟨v', S'', τ', rfl, ⟨rfl, hE'⟩, hv, hl, hR', hB'⟩
        exact ⟨by rw [flat_conc hfl, flat_conc hfl], τ ++ τ', S'', hE.trans hE', by rw [← List.append_assoc]; exact hR', hB.trans hB'⟩
      · exact h.elim
    | invoke rv m => simp only [aopQ, hcal, aopP] at h
    | builtin b =>
      refine pure ?_ ?_
      · rw [hop] at hc ⊢
        simp only [chkQ, hcal] at hc
        exact hc
      · rw [hop]
        simp only [aopQ, hcal] at h
        exact h
  | _ => refine pure ?_ ?_ <;> rw [hop] <;> rw [hop] at hc h <;> first | exact hc | exact h

theorem regQC_wp {ex : Bool} {all : Array Oper} {n : Nat} {B : Nat} {Q : Env → Prop} {S : Store} {σ : Sig} {w0 : World} {Qa : Act → Prop} : ∀ (l : List Oper) (e : Env) (a : Act),
    (∃ w, Rel σ B S w) → (∀ o ∈ l, chkQ P o.op = true ∧ chkD n o = true) → sat σ n S e a → regQC P all ex S Q l e → (∀ e' a', Q e' → sat σ n S e' a' → Qa a') → wpQuiet P all (ClsQ ex σ B S w0) Qa l a
  | [], e, a, _, _, s, h, hq => hq e a h s
  | o :: rest, e, a, hr, hc, s, h, hq => by
    obtain ⟨w, r⟩ := hr
    obtain ⟨hc1, hc2⟩ := hc o (by simp)
    have step : aopQ P ex o.op e S (fun v => regQC P all ex S Q rest (putE o.dst v e)) → o.quiet P a (ClsQ ex σ B S w0) (wpQuiet P all (ClsQ ex σ B S w0) Qa rest) := fun h' => by
      obtain ⟨v, hk, hv, hrun⟩ := aopQ_quiet r s hc1 h'
      exact ⟨conc σ v, hrun, regQC_wp rest _ _ ⟨w, r⟩ (fun o' ho' => hc o' (by simp [ho'])) (s.put (chkD_spec hc2) hv) hk hq⟩
    have skip : regQC P all ex S Q rest (putE o.dst undef e) → wpQuiet P all (ClsQ ex σ B S w0) Qa rest (a.put o.dst undef) := fun h' => by
      have hp := s.put (chkD_spec hc2) (okV_undef S.length)
      rw [conc_undef] at hp
      exact regQC_wp rest _ _ ⟨w, r⟩ (fun o' ho' => hc o' (by simp [ho'])) hp h' hq
    unfold regQC at h
    unfold wpQuiet
    split at h
    · rename_i hg
      rw [if_pos (by simp [Region.wanted, hg])]
      exact step h
    · rename_i g hg
      obtain ⟨d, hd, h⟩ := optK_elim h
      obtain ⟨gv, hgv, h⟩ := optK_elim h
      rcases wanted_guard hg hd s hgv h with ⟨hw, hA⟩ | ⟨hw, hB⟩
      · rw [if_pos hw]; exact step hA
      · rw [if_neg (by simp [hw])]; exact skip hB
end

/-! ### A region that draws its order: reads first, then whichever comes up -/
section
variable {P : Program}
/-- An operation that waits for all others. -/
def sinkOp (ops : Array Oper) (j : Nat) : Bool := match ops[j]? with
  | some o => (List.range ops.size).all fun k => k == j || o.after.any fun e => Region.binds .any e && e.on == k
  | none => false
/-- Whatever order is picked; S holds behind every operation but one that waits for all others. -/
def wpAnyT (P : Program) (ops : Array Oper) (Q : Exit → Act → World → Prop) (S : World → Prop) : Nat → Array Bool → Act → World → Prop
  | 0, listed, a, w => Region.ready .any ops listed = [] ∧ Q .normal a w
  | n + 1, listed, a, w => (Region.ready .any ops listed = [] → Q .normal a w) ∧
    ∀ i ∈ Region.ready .any ops listed, wpOp P ops Q i (fun a' w' => (S w' ∨ sinkOp ops i = true) ∧ wpAnyT P ops Q S n (listed.setIfInBounds i true) a' w') a w
theorem wpAny_of_T {ops : Array Oper} {Q : Exit → Act → World → Prop} {S : World → Prop} : ∀ (n : Nat) (listed : Array Bool) (a : Act) (w : World), wpAnyT P ops Q S n listed a w → wpAny P .any ops Q n listed a w
  | 0, _, _, _, h => h
  | n + 1, _, _, _, h => ⟨h.1, fun i hi => wpOp_mono (fun a' w' h' => wpAny_of_T n _ a' w' h'.2) (h.2 i hi)⟩
theorem sinkOp_listed {ops : Array Oper} {i j : Nat} {listed : Array Bool} (h : sinkOp ops j = true) (hj : j ∈ Region.ready .any ops listed) (hi : i ∈ Region.ready .any ops listed) (hne : i ≠ j) : False := by
  obtain ⟨-, oj, hoj, hall⟩ := mem_ready.1 hj
  obtain ⟨hun, oi, hoi, -⟩ := mem_ready.1 hi
  unfold sinkOp at h
  rw [hoj] at h
  have hlt : i < ops.size := by
    rcases Nat.lt_or_ge i ops.size with h' | h'
    · exact h'
    · rw [Array.getElem?_eq_none h'] at hoi; cases hoi
  have h2 := List.all_eq_true.1 h i (List.mem_range.2 hlt)
  simp only [Bool.or_eq_true, beq_iff_eq, hne, false_or] at h2
  obtain ⟨e, he, hbe⟩ := Array.any_eq_true'.1 h2
  simp only [Bool.and_eq_true, beq_iff_eq] at hbe
  have h3 := hall e he hbe.1
  rw [hbe.2] at h3
  rcases Nat.lt_or_ge i listed.size with h' | h'
  · simp [h'] at hun h3
    rw [hun] at h3; cases h3
  · simp [Array.getElem?_eq_none h'] at h3
theorem wpAnyT_first {ops : Array Oper} {Q : Exit → Act → World → Prop} {S : World → Prop} {i : Nat} {oi : Oper} {v : Value} (hi : ops[i]? = some oi) (hsel : Region.noSelect ops = true) (hQ : ∀ c a w, Q (.panic c) (a.put oi.dst v) w → Q (.panic c) a w) :
    ∀ (n : Nat) (listed : Array Bool) (a : Act) (w : World), (∀ j oj, ops[j]? = some oj → j ≠ i → listed.getD j true = false → (∀ e ∈ oj.after, Region.binds .any e = true → e.on ≠ i) → oi.apart ops oj = true) →
      i ∈ Region.ready .any ops listed → YieldsIf P ops S oi v a → S w → wpAnyT P ops Q S n (listed.setIfInBounds i true) (a.put oi.dst v) w → wpAnyT P ops Q S (n + 1) listed a w := by
  intro n
  induction n with
  | zero =>
    intro listed a w _ hr hy hS H
    refine ⟨fun h => (by rw [h] at hr; cases hr), fun j hj => ?_⟩
    rcases Decidable.em (j = i) with rfl | hji
    · exact hy.wpOp hi hS ⟨.inl hS, H⟩
    · have hm := ready_mono hj hji
      rw [H.1] at hm; cases hm
  | succ n ih =>
    intro listed a w hfree hr hy hS H
    refine ⟨fun h => (by rw [h] at hr; cases hr), fun j hj => ?_⟩
    rcases Decidable.em (j = i) with rfl | hji
    · exact hy.wpOp hi hS ⟨.inl hS, H⟩
    · obtain ⟨hjun, oj, hoj, hall⟩ := mem_ready.1 hj
      have hap : oi.apart ops oj = true := hfree j oj hoj hji hjun fun e he hb heq => by
        have h1 := hall e he hb
        have h0 := (mem_ready.1 hr).1
        rw [heq] at h1
        rcases Nat.lt_or_ge i listed.size with h' | h'
        · simp [h'] at h0 h1; rw [h0] at h1; cases h1
        · simp [Array.getElem?_eq_none h'] at h1
      have h2 := wpOp_putIf hoj hap (fun cs b => Region.noSelect_spec hsel i oi cs b hi) (fun cs b => Region.noSelect_spec hsel j oj cs b hoj) hQ hy (H.2 j (ready_mono hj hji))
      refine wpOp_mono (fun a' w' ⟨hy', hs', hw'⟩ => ?_) h2
      have hS' : S w' := hs'.resolve_right fun hsink => sinkOp_listed hsink hj hr (Ne.symm hji)
      refine ⟨.inl hS', ih (listed.setIfInBounds j true) a' w' (fun k ok hk hki hun hno => hfree k ok hk hki ?_ hno) (ready_mono hr (Ne.symm hji)) hy' hS' ?_⟩
      · rcases Decidable.em (j = k) with rfl | hjk
        · exact hjun
        · rw [getD_set_ne true hjk] at hun; exact hun
      · rw [Array.setIfInBounds_comm _ _ hji]; exact hw'
def marked (listed : Array Bool) (is : List Nat) : Array Bool := is.foldl (fun l i => l.setIfInBounds i true) listed
/-- These may be taken first, one after the other. -/
def takeB (P : Program) (ops : Array Oper) : Array Bool → List Nat → Bool
  | _, [] => true
  | listed, i :: is => (match ops[i]? with | some o => chkP P o.op | none => false) && Region.free .any ops listed i && (Region.ready .any ops listed).contains i && takeB P ops (listed.setIfInBounds i true) is
def opsAt (ops : Array Oper) (is : List Nat) : List Oper := is.filterMap (ops[·]?)
/-- Whatever order is picked from here on. -/
def anyW (P : Program) (ops : Array Oper) (Q : Env → Store → Prop) (S0 : Store) : Nat → Array Bool → Env → Store → Prop
  | 0, listed, e, S => Region.ready .any ops listed = [] ∧ Q e S
  | n + 1, listed, e, S => (Region.ready .any ops listed = [] ∧ Q e S) ∨ (Region.ready .any ops listed ≠ [] ∧
      ∀ i ∈ Region.ready .any ops listed, regs P ops (fun e' S' => (Ext S0 S' ∨ sinkOp ops i = true) ∧ anyW P ops Q S0 n (listed.setIfInBounds i true) e' S') (opsAt ops [i]) e S)

theorem anyW_sound {ops : Array Oper} {n : Nat} {B : Nat} {Q : Env → Store → Prop} {S0 : Store} {σ0 : Sig} {w0 : World} {Qc : Exit → Act → World → Prop} (hc : ∀ o ∈ ops.toList, chkO P o.op = true ∧ chkD n o = true)
    (hq : ∀ (σ : Sig) (e : Env) (S : Store) (a : Act) (w : World), Q e S → Rel (σ0 ++ σ) B S w → Below B w0 w → sat (σ0 ++ σ) n S e a → Qc .normal a w) :
    ∀ (fuel : Nat) (listed : Array Bool) (τ : Sig) (e : Env) (S : Store) (a : Act) (w : World), anyW P ops Q S0 fuel listed e S → Rel (σ0 ++ τ) B S w → Below B w0 w → sat (σ0 ++ τ) n S e a →
      wpAnyT P ops Qc (ClsQ false σ0 B S0 w0) fuel listed a w := by
  intro fuel
  induction fuel with
  | zero => exact fun listed τ e S a w h r hb s => ⟨h.1, hq τ e S a w h.2 r hb s⟩
  | succ fuel ih =>
    intro listed τ e S a w h r hb s
    rcases h with ⟨h1, h2⟩ | ⟨h1, h2⟩
    · exact ⟨fun _ => hq τ e S a w h2 r hb s, fun i hi => (by rw [h1] at hi; cases hi)⟩
    · refine ⟨fun h0 => absurd h0 h1, fun i hi => ?_⟩
      have h3 := h2 i hi
      unfold wpOp
      cases ho : ops[i]? with
      | none =>
        obtain ⟨-, o, ho', -⟩ := mem_ready.1 hi
        rw [ho] at ho'; cases ho'
      | some o =>
        obtain ⟨hc1, hc2⟩ := hc o (Array.mem_toList_iff.2 (Array.mem_of_getElem? ho))
        simp only [opsAt, List.filterMap_cons, ho, List.filterMap_nil] at h3
        have step : aop P o.op e S (fun v S' => regs P ops (fun e' S' => (Ext S0 S' ∨ sinkOp ops i = true) ∧ anyW P ops Q S0 fuel (listed.setIfInBounds i true) e' S') [] (putE o.dst v e) S') →
            o.wp P a w (fun a' w' => (ClsQ false σ0 B S0 w0 w' ∨ sinkOp ops i = true) ∧ wpAnyT P ops Qc (ClsQ false σ0 B S0 w0) fuel (listed.setIfInBounds i true) a' w') Qc := fun h' => by
          refine Oper.wp_mono (fun a' w' hh => ?_) (aop_wp (Q := Qc) r s hc1 h')
          obtain ⟨u, rfl, v, S', τ', rfl, ⟨hE', hk⟩, hv, hl, hR, hB⟩ := hh
          rw [List.append_assoc] at hR
          have s' := (s.mono r.len τ' hl).put (chkD_spec hc2) hv
          rw [List.append_assoc] at s' ⊢
          exact ⟨hE'.imp (fun hE' => ⟨τ ++ τ', S', hE', hR, hb.trans hB⟩) id, ih _ (τ ++ τ') _ S' _ w' hk hR (hb.trans hB) s'⟩
        have skip : regs P ops (fun e' S' => (Ext S0 S' ∨ sinkOp ops i = true) ∧ anyW P ops Q S0 fuel (listed.setIfInBounds i true) e' S') [] (putE o.dst undef e) S →
            (ClsQ false σ0 B S0 w0 w ∨ sinkOp ops i = true) ∧ wpAnyT P ops Qc (ClsQ false σ0 B S0 w0) fuel (listed.setIfInBounds i true) (a.put o.dst undef) w := fun h' => by
          have hp := s.put (chkD_spec hc2) (okV_undef S.length)
          rw [conc_undef] at hp
          obtain ⟨hE', hk⟩ := h'
          exact ⟨hE'.imp (fun hE' => ⟨τ, S, hE', r, hb⟩) id, ih _ τ _ S _ w hk r hb hp⟩
        unfold regs at h3
        split at h3
        · rename_i hg
          simp only [Region.wanted, hg, if_true]
          exact .inl (step h3)
        · rename_i g hg
          obtain ⟨d, hd, h3⟩ := optK_elim h3
          obtain ⟨gv, hgv, h3⟩ := optK_elim h3
          rcases wanted_guard hg hd s hgv h3 with ⟨hw, hA⟩ | ⟨hw, hB⟩
          · simp only [hw, if_true]; exact .inl (step hA)
          · simp only [hw, Bool.false_eq_true, if_false]; exact skip hB

theorem take_sound {ops : Array Oper} {n : Nat} {B : Nat} {K : Env → Prop} {S0 : Store} {σ0 : Sig} {w0 : World} {Qc : Exit → Act → World → Prop} (hc : ∀ o ∈ ops.toList, chkD n o = true) (hs : Region.noSelect ops = true) (hQ : ∀ c a w, ¬ Qc (.panic c) a w)
    {w : World} (r : Rel σ0 B S0 w) (hb : Below B w0 w) :
    ∀ (is : List Nat) (fuel : Nat) (listed : Array Bool) (e : Env) (a : Act), takeB P ops listed is = true → sat σ0 n S0 e a → regQ P ops S0 K (opsAt ops is) e →
      (∀ e' a', K e' → sat σ0 n S0 e' a' → wpAnyT P ops Qc (ClsQ false σ0 B S0 w0) fuel (marked listed is) a' w) → wpAnyT P ops Qc (ClsQ false σ0 B S0 w0) (fuel + is.length) listed a w := by
  intro is
  induction is with
  | nil => exact fun fuel listed e a _ s h hk => hk e a h s
  | cons i is ih =>
    intro fuel listed e a ht s h hk
    simp only [takeB, Bool.and_eq_true] at ht
    obtain ⟨⟨⟨ht1, ht2⟩, ht3⟩, ht4⟩ := ht
    cases ho : ops[i]? with
    | none => simp [ho] at ht1
    | some o =>
      simp only [ho] at ht1
      simp only [opsAt, List.filterMap_cons, ho] at h
      have hcd := hc o (Array.mem_toList_iff.2 (Array.mem_of_getElem? ho))
      have next : ∀ v, okV S0.length v → (regQ P ops S0 K (opsAt ops is) (putE o.dst v e)) → YieldsIf P ops (ClsQ false σ0 B S0 w0) o (conc σ0 v) a → wpAnyT P ops Qc (ClsQ false σ0 B S0 w0) (fuel + (i :: is).length) listed a w := fun v hv hk' hy =>
        wpAnyT_first ho hs (fun c a w h => absurd h (hQ c _ w)) _ _ _ _ (Region.free_spec ho ht2) (by simpa using ht3) hy ⟨[], S0, Gr.refl false S0, by rw [List.append_nil]; exact r, hb⟩ (ih fuel _ _ _ ht4 (s.put (chkD_spec hcd) hv) hk' hk)
      have step : aopP P o.op e S0 (fun v => regQ P ops S0 K (opsAt ops is) (putE o.dst v e)) → Region.wanted o (yielded ops a.tmps) = true → wpAnyT P ops Qc (ClsQ false σ0 B S0 w0) (fuel + (i :: is).length) listed a w := fun h' hw => by
        obtain ⟨v, hk', hv, hrun⟩ := aopP_sound r s ht1 h'
        exact next v hv hk' (.inl ⟨hw, fun w' ⟨τ, S', hE, hR, _⟩ => hrun τ S' w' hE hR⟩)
      have skip : regQ P ops S0 K (opsAt ops is) (putE o.dst undef e) → Region.wanted o (yielded ops a.tmps) = false → wpAnyT P ops Qc (ClsQ false σ0 B S0 w0) (fuel + (i :: is).length) listed a w := fun h' hw =>
        next undef (okV_undef _) h' (.inr ⟨hw, by rw [conc_undef]⟩)
      unfold regQ at h
      split at h
      · rename_i hg
        exact step h (by simp [Region.wanted, hg])
      · rename_i g hg
        obtain ⟨d, hd, h⟩ := optK_elim h
        obtain ⟨gv, hgv, h⟩ := optK_elim h
        rcases wanted_guard hg hd s hgv h with ⟨hw, hA⟩ | ⟨hw, hB⟩
        · exact step hA hw
        · exact skip hB hw
end

/-! ### Code -/
inductive AX where
  | normal
  | exit (id : Nat)
  | ret

def absx : AX → Exit
  | .normal => .normal
  | .exit id => .exit id
  | .ret => .ret

def blockK (id : Nat) (Q : AX → Env → Store → Prop) : AX → Env → Store → Prop
  | .exit i, e, S => if i = id then Q .normal e S else Q (.exit i) e S
  | x, e, S => Q x e S

/-- e0 says no more than e. -/
def sub : Env → Env → Prop
  | [], _ => True
  | (i, v) :: e0, e => lk e i = some v ∧ sub e0 e

theorem sub_spec : ∀ {e0 e : Env}, sub e0 e → ∀ i v, lk e0 i = some v → lk e i = some v
  | [], _, _, _, _, h => by cases h
  | (j, u) :: e0, e, hs, i, v, h => by
    simp only [lk] at h
    split at h
    · rename_i hij
      subst hij
      simp only [Option.some.injEq] at h
      subst h
      exact hs.1
    · exact sub_spec hs.2 i v h

/-- The ways through a region that draws its order. -/
inductive DrawW (P : Program) (ops : Array Oper) (Q : Env → Store → Prop) (e : Env) (S : Store) : Prop where
  | quiet (h : regQ P ops S (fun e' => Q e' S) ops.toList e) (hc : (Region.lexB .any ops && ops.toList.all (fun o => chkP P o.op)) = true)
  | quietCall (ex : Bool) (h : regQC P ops ex S (fun e' => ∀ S', Gr ex S S' → Q e' S') ops.toList e) (hc : (Region.lexB .any ops && ops.toList.all (fun o => chkQ P o.op)) = true)
  | tail (k : Nat) (h : regQ P ops S (fun e' => regs P ops Q (ops.toList.drop k) e' S) (ops.toList.take k) e)
      (hc : (Region.lexTailB .any ops k && (ops.toList.take k).all (fun o => chkP P o.op) && (ops.toList.drop k).all (fun o => chkO P o.op)) = true)
  | mix (is : List Nat) (n : Nat) (h : regQ P ops S (fun e' => anyW P ops Q S n (marked (Array.replicate ops.size false) is) e' S) (opsAt ops is) e)
      (hc : (decide (ops.size = n + is.length) && Region.noSelect ops && takeB P ops (Array.replicate ops.size false) is && ops.toList.all (fun o => chkO P o.op)) = true)

  | mixD (k : Nat) (is : List Nat) (n : Nat) (h : regQ P ops (S.set k .dead) (fun e' => anyW P ops Q (S.set k .dead) n (marked (Array.replicate ops.size false) is) e' S) (opsAt ops is) e)
      (hc : (decide (ops.size = n + is.length) && Region.noSelect ops && takeB P ops (Array.replicate ops.size false) is && ops.toList.all (fun o => chkO P o.op)) = true)

def loopW (body : (AX → Env → Store → Prop) → Env → Store → Prop) (Q : AX → Env → Store → Prop) (e : Env) (S : Store) : Prop :=
  ∃ I : Nat → Env → Store → Prop, (∃ m e0, sub e0 e ∧ I m e0 S) ∧
    ∀ m e1 S1, I m e1 S1 → body (fun x e' S' => match x with | .normal => ∃ m', m' < m ∧ ∃ e0, sub e0 e' ∧ I m' e0 S' | x => Q x e' S') e1 S1

def aw (P : Program) : Code → (AX → Env → Store → Prop) → Env → Store → Prop
  | .skip, Q, e, S => Q .normal e S
  | .region _ ops false, Q, e, S => regs P ops (Q .normal) ops.toList e S
  | .region _ ops true, Q, e, S => DrawW P ops (Q .normal) e S
  | .seq c d, Q, e, S => aw P c (fun x e' S' => match x with | .normal => aw P d Q e' S' | x => Q x e' S') e S
  | .cond c t f, Q, e, S => optK (ev e c) fun v => boolK v fun b => ifK b (aw P t Q e S) (aw P f Q e S)
  | .block id c, Q, e, S => aw P c (blockK id Q) e S
  | .exit id, Q, e, S => Q (.exit id) e S
  | .ret, Q, e, S => Q .ret e S
  | .loop c, Q, e, S => loopW (aw P c) Q e S
  | _, _, _, _ => False

/-- What is known of code by its text. -/
def chkC (P : Program) (n : Nat) : Code → Bool
  | .skip | .exit _ | .ret => true
  | .region _ ops false => ops.toList.all fun o => chkO P o.op && chkD n o
  | .region _ ops true => ops.toList.all fun o => chkD n o
  | .seq c d => chkC P n c && chkC P n d
  | .cond c t f => flatO c && chkC P n t && chkC P n f
  | .block _ c => chkC P n c
  | .loop c => chkC P n c
  | _ => false

def Lift (n : Nat) (σ : Sig) (B : Nat) (w0 : World) (Q : AX → Env → Store → Prop) (x : Exit) (a' : Act) (w' : World) : Prop :=
  ∃ ax, absx ax = x ∧ Left n σ B w0 (Q ax) a' w'

theorem Lift.mono {n : Nat} {σ : Sig} {B : Nat} {w0 : World} {Q Q' : AX → Env → Store → Prop} (h : ∀ x e S, Q x e S → Q' x e S) {x : Exit} {a' : Act} {w' : World} (hl : Lift n σ B w0 Q x a' w') : Lift n σ B w0 Q' x a' w' :=
  let ⟨ax, h1, e', S', τ, h2, h3⟩ := hl
  ⟨ax, h1, e', S', τ, h _ _ _ h2, h3⟩

theorem Lift.shift {n : Nat} {σ τ : Sig} {B : Nat} {w0 : World} {Q : AX → Env → Store → Prop} {x : Exit} {a' : Act} {w' : World} (hl : Lift n (σ ++ τ) B w0 Q x a' w') : Lift n σ B w0 Q x a' w' :=
  let ⟨ax, h1, e', S', τ', h2, h3, h4, h5⟩ := hl
  ⟨ax, h1, e', S', τ ++ τ', h2, by rw [← List.append_assoc]; exact h3, h4, by rw [← List.append_assoc]; exact h5⟩

theorem aw_sound {P : Program} (hm : P.follows .mixedOrders = true) {n B : Nat} : ∀ (c : Code) (Q : AX → Env → Store → Prop) (e : Env) (S : Store) (σ : Sig) (a : Act) (w w0 : World),
    chkC P n c = true → Rel σ B S w → Below B w0 w → sat σ n S e a → aw P c Q e S → c.wp P (Lift n σ B w0 Q) a w := by
  intro c
  induction c with
  | skip => exact fun Q e S σ a w w0 _ r hb s h => wp_skip ⟨.normal, rfl, e, S, [], h, by rw [List.append_nil]; exact r, hb, by rw [List.append_nil]; exact s⟩
  | exit id => exact fun Q e S σ a w w0 _ r hb s h => wp_exit ⟨.exit id, rfl, e, S, [], h, by rw [List.append_nil]; exact r, hb, by rw [List.append_nil]; exact s⟩
  | ret => exact fun Q e S σ a w w0 _ r hb s h => wp_ret ⟨.ret, rfl, e, S, [], h, by rw [List.append_nil]; exact r, hb, by rw [List.append_nil]; exact s⟩
  | region id ops draw =>
    intro Q e S σ a w w0 hc r hb s h
    cases draw with
    | false =>
      simp only [chkC, List.all_eq_true, Bool.and_eq_true] at hc
      exact wp_region_list (regs_wp ops.toList e S σ a w w0 _ (fun o ho => hc o ho) r hb s h (fun a' w' hl => ⟨.normal, rfl, hl⟩))
    | true =>
      simp only [chkC, List.all_eq_true] at hc
      cases h with
      | quiet h hcc =>
        simp only [Bool.and_eq_true, List.all_eq_true] at hcc
        refine wp_region_quiet (C := fun w' => Rel σ B S w' ∧ Below B w0 w') hm hcc.1 ⟨r.drew, hb.drew⟩ ?_
        refine regQ_wp ops.toList e a ⟨w, r⟩ (fun o ho => ⟨hcc.2 o ho, hc o ho⟩) s h (fun e' a' hq s' w' hw' => ?_)
        exact ⟨.normal, rfl, e', S, [], hq, by rw [List.append_nil]; exact hw'.1, hw'.2, by rw [List.append_nil]; exact s'⟩
      | quietCall ex h hcc =>
        simp only [Bool.and_eq_true, List.all_eq_true] at hcc
        refine wp_region_quiet (C := ClsQ ex σ B S w0) hm hcc.1 ⟨[], S, Gr.refl ex S, by rw [List.append_nil]; exact r.drew, hb.drew⟩ ?_
        refine regQC_wp ops.toList e a ⟨w, r⟩ (fun o ho => ⟨hcc.2 o ho, hc o ho⟩) s h (fun e' a' hq s' w' hw' => ?_)
        obtain ⟨τ, S', hE, hR, hB⟩ := hw'
        exact ⟨.normal, rfl, e', S', τ, hq S' hE, hR, hB, s'.mono r.len τ hE.toExt.len⟩
      | mix is m h hcc =>
        simp only [Bool.and_eq_true, List.all_eq_true, decide_eq_true_eq] at hcc
        obtain ⟨⟨⟨h1, h2⟩, h3⟩, h4⟩ := hcc
        refine wp_region_any hm (wpAny_of_T (S := ClsQ false σ B S w0) _ _ _ _ ?_)
        rw [show ops.size = m + is.length from h1]
        have hd : ({ w with drawn := w.drawn + 1 } : World) = w.drew := rfl
        rw [hd]
        have h3' := h3
        rw [h1] at h3'
        refine take_sound (n := n) (fun o ho => hc o ho) h2 (fun c a w h => by obtain ⟨ax, hax, _⟩ := h; cases ax <;> cases hax) r.drew hb.drew is m _ e a h3' s h (fun e' a' hk s' => ?_)
        rw [h1] at hk
        refine anyW_sound (n := n) (σ0 := σ) (fun o ho => ⟨h4 o ho, hc o ho⟩) (fun τ e' S' a' w' hq hR hB hs => ?_) m _ [] e' S a' w.drew hk (by rw [List.append_nil]; exact r.drew) hb.drew (by rw [List.append_nil]; exact s')
        exact ⟨.normal, rfl, e', S', τ, hq, hR, hB, hs⟩
      | mixD k is m h hcc =>
        simp only [Bool.and_eq_true, List.all_eq_true, decide_eq_true_eq] at hcc
        obtain ⟨⟨⟨h1, h2⟩, h3⟩, h4⟩ := hcc
        refine wp_region_any hm (wpAny_of_T (S := ClsQ false σ B (S.set k .dead) w0) _ _ _ _ ?_)
        rw [show ops.size = m + is.length from h1]
        have hd : ({ w with drawn := w.drawn + 1 } : World) = w.drew := rfl
        rw [hd]
        have h3' := h3
        rw [h1] at h3'
        have hl : (S.set k .dead).length = S.length := by simp
        have hEx : Ext (S.set k .dead) S := ⟨Nat.le_of_eq hl, fun j ob hj => by
          by_cases hjk : k = j
          · subst hjk
            rw [List.getElem?_set_self' ] at hj
            cases hS : S[k]? with
            | none => simp [hS] at hj
            | some o => simp [hS] at hj; exact .inl hj.symm
          · rw [List.getElem?_set_ne hjk] at hj; exact .inr hj⟩
        have s0 : sat σ n (S.set k .dead) e a := ⟨s.defers, s.size, fun i v hv => by rw [hl]; exact s.look i v hv⟩
        refine take_sound (n := n) (fun o ho => hc o ho) h2 (fun c a w h => by obtain ⟨ax, hax, _⟩ := h; cases ax <;> cases hax) (r.kill k).drew hb.drew is m _ e a h3' s0 h (fun e' a' hk s' => ?_)
        rw [h1] at hk
        have s1 : sat σ n S e' a' := ⟨s'.defers, s'.size, fun i v hv => by have := s'.look i v hv; rw [hl] at this; exact this⟩
        refine anyW_sound (n := n) (σ0 := σ) (fun o ho => ⟨h4 o ho, hc o ho⟩) (fun τ e' S' a' w' hq hR hB hs => ?_) m _ [] e' S a' w.drew hk (by rw [List.append_nil]; exact r.drew) hb.drew (by rw [List.append_nil]; exact s1)
        exact ⟨.normal, rfl, e', S', τ, hq, hR, hB, hs⟩
      | tail k h hcc =>
        simp only [Bool.and_eq_true, List.all_eq_true] at hcc
        obtain ⟨⟨h1, h2⟩, h3⟩ := hcc
        have hops : ops = ops.toList.toArray := by simp
        rw [hops] at h1 ⊢
        refine wp_region_still_tail k hm h1 ?_
        have hd : ({ w with drawn := w.drawn + 1 } : World) = w.drew := rfl
        rw [hd]
        refine regQ_still r.drew _ e a (fun o ho => ⟨h2 o ho, hc o (List.mem_of_mem_take ho)⟩) s (by simpa using h) (fun e' a' hq s' => ?_)
        exact regs_wp _ e' S σ a' w.drew w0 _ (fun o ho => ⟨h3 o ho, hc o (List.mem_of_mem_drop ho)⟩) r.drew hb.drew s' (by simpa using hq) (fun a' w' hl => ⟨.normal, rfl, hl⟩)
  | seq c d ih1 ih2 =>
    intro Q e S σ a w w0 hc r hb s h
    simp only [chkC, Bool.and_eq_true] at hc
    refine wp_seq (wp_mono (ih1 _ e S σ a w w0 hc.1 r hb s h) ?_)
    rintro x a' w' ⟨ax, rfl, e', S', τ, hq, hR, hB, s'⟩
    cases ax with
    | normal => exact wp_mono (ih2 Q e' S' (σ ++ τ) a' w' w0 hc.2 hR hB s' hq) (fun x a'' w'' hl => hl.shift)
    | exit id => exact ⟨.exit id, rfl, e', S', τ, hq, hR, hB, s'⟩
    | ret => exact ⟨.ret, rfl, e', S', τ, hq, hR, hB, s'⟩
  | cond c t f ih1 ih2 =>
    intro Q e S σ a w w0 hc r hb s h
    simp only [chkC, Bool.and_eq_true] at hc
    obtain ⟨v, hv, h⟩ := optK_elim h
    obtain ⟨b, rfl, h⟩ := boolK_elim h
    obtain ⟨h1, -⟩ := ev_ok s hc.1.1 hv
    cases b with
    | true => exact wp_cond_true h1 (ih1 Q e S σ a w w0 hc.1.2 r hb s h)
    | false => exact wp_cond_false h1 (ih2 Q e S σ a w w0 hc.2 r hb s h)
  | block id c ih =>
    intro Q e S σ a w w0 hc r hb s h
    refine wp_block (wp_mono (ih _ e S σ a w w0 hc r hb s h) ?_)
    rintro x a' w' ⟨ax, rfl, e', S', τ, hq, hR, hB, s'⟩
    cases ax with
    | normal => exact ⟨.normal, rfl, e', S', τ, hq, hR, hB, s'⟩
    | ret => exact ⟨.ret, rfl, e', S', τ, hq, hR, hB, s'⟩
    | exit i =>
      simp only [blockK] at hq
      by_cases hi : i = id
      · simp only [absx, Exit.inBlock, hi, if_true] at hq ⊢
        exact ⟨.normal, rfl, e', S', τ, hq, hR, hB, s'⟩
      · simp only [absx, Exit.inBlock, hi, if_false] at hq ⊢
        exact ⟨.exit i, rfl, e', S', τ, hq, hR, hB, s'⟩
  | loop c ih =>
    intro Q e S σ a w w0 hc r hb s h
    obtain ⟨I, ⟨m, e0, hsub, hI⟩, hround⟩ := h
    refine wp_loop_ghost (fun k a' w' => Left n σ B w0 (fun e' S' => I k e' S') a' w') m ⟨e0, S, [], hI, by rw [List.append_nil]; exact r, hb, by rw [List.append_nil]; exact s.weaken (sub_spec hsub)⟩ ?_
    rintro k a' w' ⟨e', S', τ, hI', hR, hB, s'⟩
    refine wp_mono (ih _ e' S' (σ ++ τ) a' w' w0 hc hR hB s' (hround k e' S' hI')) ?_
    rintro x a'' w'' ⟨ax, rfl, e'', S'', τ', hq, hR', hB', s''⟩
    cases ax with
    | normal =>
      obtain ⟨m', hlt, e1, hsub', hI1⟩ := hq
      exact ⟨m', hlt, e1, S'', τ ++ τ', hI1, by rw [← List.append_assoc]; exact hR', hB', by rw [← List.append_assoc]; exact s''.weaken (sub_spec hsub')⟩
    | exit id => exact ⟨.exit id, rfl, e'', S'', τ ++ τ', hq, by rw [← List.append_assoc]; exact hR', hB', by rw [← List.append_assoc]; exact s''⟩
    | ret => exact ⟨.ret, rfl, e'', S'', τ ++ τ', hq, by rw [← List.append_assoc]; exact hR', hB', by rw [← List.append_assoc]; exact s''⟩
  | _ => intro Q e S σ a w w0 hc; simp [chkC] at hc
end Go.Mill

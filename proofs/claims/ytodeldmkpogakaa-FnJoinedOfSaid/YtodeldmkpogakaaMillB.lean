/- The mill, part B: one operation. -/
import Derived.Test.YtodeldmkpogakaaMillA
import Derived.Laws.Sem
import Derived.Laws.Entries
import Derived.Laws.Bits
import Derived.Laws.Small
namespace Go.Mill
open Go Go.RowKit
set_option linter.unusedSimpArgs false
set_option linter.unusedVariables false

abbrev Env := List (Nat × Value)
def lk : Env → Nat → Option Value
  | [], _ => none
  | (i, v) :: e, j => if i = j then some v else lk e j

def ev (e : Env) : Operand → Option Value
  | .tmp t => lk e t
  | .const v => some v
  | .global _ => none
  | .func f => some (.func (.func f) #[] #[])

def evs (e : Env) : List Operand → Option (List Value)
  | [] => some []
  | x :: xs => (ev e x).bind fun v => (evs e xs).bind fun vs => some (v :: vs)

def putE (d : Option Nat) (v : Value) (e : Env) : Env := match d with | some i => (i, v) :: e | none => e

/-- A constant without an address. -/
def flat : Value → Bool
  | .int .. | .bool _ | .string _ | .slice none _ _ | .pointer none | .nilFunc | .nilIface => true
  | _ => false

def flatO : Operand → Bool
  | .const v => flat v
  | .global _ => false
  | _ => true

structure sat (σ : Sig) (n : Nat) (S : Store) (e : Env) (a : Act) : Prop where
  defers : a.defers = []
  size : a.tmps.size = n
  look : ∀ (i : Nat) (v : Value), lk e i = some v → a.tmps[i]? = some (conc σ v) ∧ okV S.length v

theorem flat_conc {σ : Sig} {v : Value} (h : flat v = true) : conc σ v = v := by
  cases v with
  | slice p _ _ => cases p <;> first | rfl | (simp [flat] at h)
  | pointer p => cases p <;> first | rfl | (simp [flat] at h)
  | _ => first | rfl | (simp [flat] at h)
theorem flat_ok {n : Nat} {v : Value} (h : flat v = true) : okV n v := by
  cases v with
  | slice p _ _ => cases p <;> first | trivial | (simp [flat] at h)
  | pointer p => cases p <;> first | trivial | (simp [flat] at h)
  | _ => first | trivial | (simp [flat] at h)

section
variable {σ : Sig} {n : Nat} {S : Store} {e : Env} {a : Act}
theorem ev_ok (s : sat σ n S e a) {x : Operand} {v : Value} (hx : flatO x = true) (h : ev e x = some v) : a.eval x = conc σ v ∧ okV S.length v := by
  cases x with
  | tmp t =>
    obtain ⟨h1, h2⟩ := s.look t v h
    exact ⟨by simp [Act.eval, h1], h2⟩
  | const u => simp only [ev, Option.some.injEq] at h; subst h; exact ⟨(flat_conc hx).symm, flat_ok hx⟩
  | global g => cases h
  | func f =>
    simp only [ev, Option.some.injEq] at h; subst h
    exact ⟨by simp [Act.eval, conc], by simp [okV]⟩

theorem evs_ok (s : sat σ n S e a) : ∀ {xs : List Operand} {vs : List Value}, (∀ x ∈ xs, flatO x = true) → evs e xs = some vs → xs.map a.eval = vs.map (conc σ) ∧ ∀ v ∈ vs, okV S.length v
  | [], vs, _, h => by simp only [evs, Option.some.injEq] at h; subst h; simp
  | x :: xs, vs, hf, h => by
    simp only [evs] at h
    cases h1 : ev e x with
    | none => simp [h1] at h
    | some v =>
      cases h2 : evs e xs with
      | none => simp [h1, h2] at h
      | some us =>
        simp only [h1, h2, Option.bind_some, Option.some.injEq] at h
        subst h
        obtain ⟨h3, h4⟩ := ev_ok s (hf x (by simp)) h1
        obtain ⟨h5, h6⟩ := evs_ok s (xs := xs) (fun y hy => hf y (by simp [hy])) h2
        exact ⟨by simp [h3, h5], fun y hy => by
          rcases List.mem_cons.1 hy with rfl | hy
          · exact h4
          · exact h6 y hy⟩

theorem sat.mono (s : sat σ n S e a) (hl : σ.length = S.length) (τ : Sig) {S' : Store} (hS : S.length ≤ S'.length) : sat (σ ++ τ) n S' e a :=
  ⟨s.defers, s.size, fun i v h => by
    obtain ⟨h1, h2⟩ := s.look i v h
    exact ⟨by rw [conc_append (by rw [hl]; exact h2)]; exact h1, h2.mono hS⟩⟩

theorem sat.put (s : sat σ n S e a) {d : Option Nat} {v : Value} (hd : ∀ i, d = some i → i < n) (hv : okV S.length v) : sat σ n S (putE d v e) (a.put d (conc σ v)) := by
  cases d with
  | none => exact s
  | some i =>
    have hi := hd i rfl
    refine ⟨s.defers, by simp [Act.put, s.size], fun j u h => ?_⟩
    simp only [putE, lk] at h
    split at h
    · rename_i hij
      simp only [Option.some.injEq] at h
      subst h; subst hij
      exact ⟨by simp [Act.put, s.size, hi], hv⟩
    · rename_i hij
      obtain ⟨h1, h2⟩ := s.look j u h
      exact ⟨by simp only [Act.put]; rw [Array.getElem?_setIfInBounds_ne hij]; exact h1, h2⟩

theorem sat.weaken (s : sat σ n S e a) {e' : Env} (h : ∀ (i : Nat) (v : Value), lk e' i = some v → lk e i = some v) : sat σ n S e' a :=
  ⟨s.defers, s.size, fun i v hi => s.look i v (h i v hi)⟩
end

/-! ### What an operation does -/
def optK {α : Type} (o : Option α) (K : α → Prop) : Prop := match o with | some x => K x | none => False
def ifK (b : Bool) (A B : Prop) : Prop := match b with | true => A | false => B
def boolK (v : Value) (K : Bool → Prop) : Prop := match v with | .bool b => K b | _ => False

/-- An equation that holds by unfolding, kept from the kernel's sight: it is not to unfold a program. -/
theorem nd {α : Sort _} {a b : α} (h : a = b) : a = b := by cases h; rfl

theorem optK_some {α : Type} (x : α) (K : α → Prop) : optK (some x) K = K x := nd rfl
theorem optK_elim {α : Type} {o : Option α} {K : α → Prop} (h : optK o K) : ∃ x, o = some x ∧ K x := by
  cases o with
  | none => exact h.elim
  | some x => exact ⟨x, rfl, h⟩
theorem boolK_elim {v : Value} {K : Bool → Prop} (h : boolK v K) : ∃ b, v = .bool b ∧ K b := by
  cases v <;> first | exact ⟨_, rfl, h⟩ | exact h.elim

def evBin (P : Program) (op : BinOp) (xt : TypeId) : Value → Value → Option Value
  | .int k a, .int k' b =>
    if k = k' then
      match op with
      | .add => some (.int k (k.wrap (a + b)))
      | .sub => some (.int k (k.wrap (a - b)))
      | .mul => some (.int k (k.wrap (a * b)))
      | .quo => if b = 0 then none else some (.int k (k.wrap (a.tdiv b)))
      | .rem => if b = 0 then none else some (.int k (a.tmod b))
      | .xor => some (.int k (k.wrap (BitVec.ofInt k.bits a ^^^ BitVec.ofInt k.bits b).toNat))
      | .eql => some (.bool (a == b))
      | .neq => some (.bool (a != b))
      | .lss => some (.bool (decide (a < b)))
      | .leq => some (.bool (decide (a ≤ b)))
      | .gtr => some (.bool (decide (a > b)))
      | .geq => some (.bool (decide (a ≥ b)))
      | _ => none
    else none
  | .bool a, .bool b =>
    match P.underlying xt with
    | some .bool => match op with
      | .eql => some (.bool (a == b))
      | .neq => some (.bool (a != b))
      | _ => none
    | _ => none
  | _, _ => none

def evUn (op : UnOp) : Value → Option Value
  | .bool b => match op with | .not => some (.bool !b) | _ => none
  | .int k a => match op with | .neg => some (.int k (k.wrap (0 - a))) | _ => none
  | _ => none

def evConv (P : Program) (src dst : TypeId) : Value → Option Value
  | .int _ a => match P.underlying src, P.underlying dst with
    | some (.int _), some (.int k) => some (.int k (k.wrap a))
    | _, _ => none
  | _ => none

def evMax : List Value → Option Value
  | [.int k a, .int _ b] => some (.int k (if b > a then b else a))
  | [.int k a, .int _ b, .int _ c] => some (.int k (if c > (if b > a then b else a) then c else (if b > a then b else a)))
  | _ => none
def evMin : List Value → Option Value
  | [.int k a, .int _ b] => some (.int k (if b < a then b else a))
  | [.int k a, .int _ b, .int _ c] => some (.int k (if c < (if b < a then b else a) then c else (if b < a then b else a)))
  | [.int k a, .int _ b, .int _ c, .int _ d, .int _ e, .int _ f] =>
    let m1 := if b < a then b else a; let m2 := if c < m1 then c else m1; let m3 := if d < m2 then d else m2; let m4 := if e < m3 then e else m3
    some (.int k (if f < m4 then f else m4))
  | _ => none

def isPtr : Value → Bool
  | .pointer (some _) => true
  | _ => false

def evExt (v : Value) (i : Nat) : Option Value := match v with | .tuple vs => vs[i]? | _ => none

def atomB : Value → Bool
  | .tuple _ | .agg _ | .func .. | .iface .. => false
  | _ => true
theorem okA_of_atom {n : Nat} {v : Value} (h : okV n v) (ha : atomB v = true) : okA n v := by
  cases v <;> first | exact h | (simp [atomB] at ha)

def evIx (e : Env) (d : Nat) : Option Operand → (Nat → Prop) → Prop
  | none, K => K d
  | some x, K => optK (ev e x) fun v => match v with | .int _ j => 0 ≤ j ∧ K j.toNat | _ => False

/-- Operations that only read. -/
def aopP (_P : Program) (op : Op) (e : Env) (S : Store) (K : Value → Prop) : Prop :=
  match op with
  | .move x | .assign x => optK (ev e x) K
  | .pick c a b => optK (ev e c) fun vc => boolK vc fun t => ifK t (optK (ev e a) K) (optK (ev e b) K)
  | .binOp op xt x y _ => optK (ev e x) fun vx => optK (ev e y) fun vy => optK (evBin _P op xt vx vy) K
  | .unOp op _ x => optK (ev e x) fun vx => optK (evUn op vx) K
  | .convert s d x => optK (ev e x) fun vx => optK (evConv _P s d vx) K
  | .load _ x => optK (ev e x) fun p => optK (ld S p) K
  | .nilCheck x => optK (ev e x) fun p => isPtr p = true ∧ K p
  | .fieldAddr _ x f => optK (ev e x) fun p => isPtr p = true ∧ K (eptr p f)
  | .indexAddr _ x i => optK (ev e x) fun v => optK (ev e i) fun vi => match vi with
      | .int _ j => (0 ≤ j ∧ j < (slen v : Int)) ∧ K (eptr v j.toNat)
      | _ => False
  | .extract x i => optK (ev e x) fun v => optK (evExt v i) K
  | .makeFunc fn first captured => optK (evs e first.toList) fun f => optK (evs e captured.toList) fun c => (f.all atomB && c.all atomB) = true ∧ K (.func fn f.toArray c.toArray)
  | .slice _ x lo hi mx => match mx with
      | none => optK (ev e x) fun v => evIx e 0 lo fun l => evIx e (slen v) hi fun h => optK (slc S v l h) K
      | some _ => False
  | .call c => match c.callee with
    | .builtin .len => match c.args.toList with
      | [x] => optK (ev e x) fun v => isSl v = true ∧ K (.int .i64 (slen v))
      | _ => False
    | .builtin .max => optK (evs e c.args.toList) fun vs => optK (evMax vs) K
    | .builtin .min => optK (evs e c.args.toList) fun vs => optK (evMin vs) K
    | _ => False
  | _ => False

def plainT (P : Program) (t : TypeId) : Bool := match P.underlying t with | some (.struct _) | some (.array _ _) | none => false | _ => true
def size1 (P : Program) (t : TypeId) : Bool := match P.info? t with | some i => i.size == 1 | none => false
def sliceT (P : Program) (t : TypeId) : Bool := match P.underlying t with | some (.slice e) => size1 P e | _ => false
/-- What is known of an operation by its text and the types' table. -/
def chkP (P : Program) : Op → Bool
  | .move x | .assign x => flatO x
  | .pick c a b => flatO c && flatO a && flatO b
  | .binOp _ _ x y _ => flatO x && flatO y
  | .unOp _ _ x | .convert _ _ x => flatO x
  | .load t x => flatO x && plainT P t
  | .nilCheck x => flatO x
  | .fieldAddr s x f => flatO x && (match P.underlying s with | some (.struct fs) => (match fs[f]? with | some fd => fd.offset == f && size1 P fd.type | none => false) | _ => false)
  | .indexAddr t x i => flatO x && flatO i && sliceT P t
  | .extract x _ => flatO x
  | .makeFunc _ f c => f.toList.all flatO && c.toList.all flatO
  | .slice t x lo hi mx => flatO x && (match lo with | some y => flatO y | none => true) && (match hi with | some y => flatO y | none => true) && sliceT P t && mx.isNone
  | .call c => c.args.toList.all flatO && (match c.callee with
    | .builtin .len => sliceT P (c.argTypes.getD 0 0) && c.argTypes.size == 1
    | .builtin .max | .builtin .min => true
    | _ => false)
  | .makeInterface .. | .panic .. => true
  | _ => false

section
variable {P : Program}
theorem plainT_run {t : TypeId} (h : plainT P t = true) (w : World) : (isAgg t).run P w = .ok false w := by
  unfold plainT at h
  unfold isAgg
  cases hu : P.underlying t with
  | none => simp [hu] at h
  | some d => simp only [Sem.run_bind, run_underlying hu, Result.andThen_ok]; cases d <;> first | rfl | (simp [hu] at h)

theorem size1_run {t : TypeId} (h : size1 P t = true) (w : World) : (sizeOf t).run P w = .ok 1 w := by
  unfold size1 at h
  cases hi : P.info? t with
  | none => simp [hi] at h
  | some i => simp [hi] at h; simp [sizeOf, typeInfo, hi, h]

theorem sliceT_run {t : TypeId} (h : sliceT P t = true) : ∃ e, P.underlying t = some (.slice e) ∧ size1 P e = true := by
  unfold sliceT at h
  split at h
  · rename_i e he; exact ⟨e, he, h⟩
  · cases h

theorem okV_ld {S : Store} {σ : Sig} {B : Nat} {w : World} (r : Rel σ B S w) {p x : Value} (h : ld S p = some x) : okA S.length x := by
  unfold ld at h
  split at h
  · rename_i q
    unfold cell at h
    cases hb : (S[q.block]?).bind Ob.cells with
    | none => simp [hb] at h
    | some cs => simp only [hb, Option.bind_some] at h; exact r.ok _ _ hb x (List.mem_of_getElem? h)
  · cases h

theorem ld_run {S : Store} {σ : Sig} {B : Nat} {w : World} (r : Rel σ B S w) {p x : Value} (h : ld S p = some x) : ∃ a, conc σ p = .pointer (some a) ∧ w.cell? a = some (conc σ x) := by
  have hx := okV_ld r h
  unfold ld at h
  split at h
  · rename_i q
    unfold cell at h
    cases hb : (S[q.block]?).bind Ob.cells with
    | none => simp [hb] at h
    | some cs =>
      simp only [hb, Option.bind_some] at h
      exact ⟨_, rfl, by rw [conc_of_okA hx]; exact r.cell hb h⟩
  · cases h

theorem sliceAt_run {t el : TypeId} (hu : P.underlying t = some (.slice el)) (hs : size1 P el = true) (w : World) (p : Option Addr) (m c l h : Nat) (lo hi : Option Value)
    (hlo : (lo = none ∧ l = 0) ∨ ∃ k, lo = some (.int k l)) (hhi : (hi = none ∧ h = m) ∨ ∃ k, hi = some (.int k h)) (h1 : l ≤ h) (h2 : h ≤ c) :
    (Instr.sliceAt t (.slice p m c) lo hi none).run P w = .ok (.slice (if c = l then p else p.map (·.add l)) (h - l) (c - l)) w := by
  have a1 : (h : Int) ≤ (c : Int) := by omega
  have a2 : (l : Int) ≤ (h : Int) := by omega
  have b1 : ∀ k code, (Instr.sliceBound (.int k (h : Int)) c code).run P w = .ok h w := fun k code => by
    rw [run_sliceBound w k h c code (by omega) a1]; simp
  have b2 : ∀ k code, (Instr.sliceBound (.int k (l : Int)) h code).run P w = .ok l w := fun k code => by
    rw [run_sliceBound w k l h code (by omega) a2]; simp
  rcases hlo with ⟨rfl, rfl⟩ | ⟨k, rfl⟩ <;> rcases hhi with ⟨rfl, rfl⟩ | ⟨k', rfl⟩ <;>
    simp [Instr.sliceAt, Instr.slice, run_underlying hu, Instr.sliceBounds, size1_run hs, b1, b2]

theorem evIx_elim {e : Env} {d : Nat} {x : Option Operand} {K : Nat → Prop} (h : evIx e d x K) : ∃ j, K j ∧ ((x = none ∧ j = d) ∨ ∃ y k, x = some y ∧ ev e y = some (.int k (j : Int))) := by
  cases x with
  | none => exact ⟨d, h, .inl ⟨rfl, rfl⟩⟩
  | some y =>
    obtain ⟨v, hv, h⟩ := optK_elim h
    split at h
    · rename_i k j
      exact ⟨j.toNat, h.2, .inr ⟨y, k, rfl, by rw [hv]; congr 2; omega⟩⟩
    · exact h.elim

theorem slc_ok {S : Store} {v u : Value} {l h n : Nat} (ho : okV n v) (hs : slc S v l h = some u) : okV n u := by
  unfold slc at hs
  split at hs
  · split at hs
    · simp only [Option.some.injEq] at hs; subst hs; exact ho
    · cases hs
  · rename_i p m c
    cases hb : (S[p.block]?).bind Ob.cells with
    | none => simp [hb] at hs
    | some cs =>
      simp only [hb, Option.bind_some] at hs
      split at hs
      · split at hs <;> (simp only [Option.some.injEq] at hs; subst hs; exact ho)
      · cases hs
  · cases hs

/-- A slice expression, in whatever world holds the store. -/
theorem slc_run {t el : TypeId} (hu : P.underlying t = some (.slice el)) (hst : size1 P el = true) {σ : Sig} {B : Nat} {S : Store} {w : World} (r : Rel σ B S w) {v u : Value} {l h : Nat} (hs : slc S v l h = some u) (lo hi : Option Value)
    (hlo : (lo = none ∧ l = 0) ∨ ∃ k, lo = some (.int k l)) (hhi : (hi = none ∧ h = slen v) ∨ ∃ k, hi = some (.int k h)) :
    (Instr.sliceAt t (conc σ v) lo hi none).run P w = .ok (conc σ u) w := by
  unfold slc at hs
  split at hs
  · split at hs
    · rename_i h0
      obtain ⟨rfl, rfl⟩ := h0
      simp only [Option.some.injEq] at hs
      subst hs
      exact sliceAt_run (P := P) hu hst w none 0 0 0 0 _ _ hlo hhi (Nat.le_refl _) (Nat.le_refl _)
    · cases hs
  · rename_i q m c0
    cases hb : (S[q.block]?).bind Ob.cells with
    | none => simp [hb] at hs
    | some cs =>
      simp only [hb, Option.bind_some] at hs
      have hlim := r.lim hb
      split at hs
      · rename_i hcond
        have hrun := sliceAt_run (P := P) hu hst w (some (sad (σ.pl q.block) q m)) m ((σ.pl q.block).lim - q.off) l h _ _ hlo hhi hcond.1 (by omega)
        split at hs
        · rename_i hl0
          subst hl0
          simp only [Option.some.injEq] at hs
          subst hs
          refine hrun.trans ?_
          have : sad (σ.pl q.block) q m = sad (σ.pl q.block) q h := by
            unfold sad
            split
            · by_cases h1 : (σ.pl q.block).lim - q.off = 0
              · have : h = 0 := by omega
                have h0 : m = 0 := by omega
                subst this; subst h0; rfl
              · rw [if_neg (fun e => h1 e.2), if_neg (fun e => h1 e.2)]
            · rfl
          simp [conc, c1, this, Addr.add]
        · rename_i hl0
          simp only [Option.some.injEq] at hs
          subst hs
          refine hrun.trans ?_
          have e1 : sad (σ.pl q.block) q m = (σ.pl q.block).a.add q.off := by
            unfold sad
            split
            · rw [if_neg (by omega)]
            · rfl
          simp only [conc, c1, e1, Nat.sub_sub]
          unfold sad
          by_cases h1 : (σ.pl q.block).lim - q.off = l
          · rw [if_pos h1]; simp only; rw [if_pos (by omega)]
          · rw [if_neg h1]; simp only; rw [if_neg (by omega)]; simp [Addr.add_add]
      · cases hs
  · cases hs

theorem conc_eptr {σ : Sig} {v : Value} {i : Nat} (h : i < slen v) : ∃ b n c, conc σ v = .slice (some b) n c ∧ n = slen v ∧ conc σ (eptr v i) = .pointer (some (b.add i)) := by
  unfold slen at h
  split at h
  · rename_i p n c
    exact ⟨_, _, _, rfl, rfl, by rw [sad_pos (by omega)]; simp [eptr, conc, c1, Addr.add_add]⟩
  · omega

theorem okV_eptr {n i : Nat} {v : Value} (h : okV n v) (hi : i < slen v) : okV n (eptr v i) := by
  unfold slen at hi
  split at hi
  · exact h
  · omega

/-- What an operation that only reads comes to: one value, in every world that holds the store. -/
theorem aopP_sound {o : Oper} {e : Env} {S : Store} {K : Value → Prop} {σ : Sig} {n : Nat} {a : Act} {B : Nat} {w : World} (r : Rel σ B S w) (s : sat σ n S e a) (hc : chkP P o.op = true) (h : aopP P o.op e S K) :
    ∃ v, K v ∧ okV S.length v ∧ ∀ (τ : Sig) (S' : Store) (w' : World), Ext S S' → Rel (σ ++ τ) B S' w' → (execOp a.eval o).run P w' = .ok (.value (conc σ v)) w' := by
  obtain ⟨dst, op, type, pos, after, guard⟩ := o
  cases op <;> simp only [aopP, chkP, Bool.and_eq_true] at h hc
  case move x =>
    obtain ⟨v, hv, hk⟩ := optK_elim h
    obtain ⟨h1, h2⟩ := ev_ok s hc hv
    exact ⟨v, hk, h2, fun τ S' w' _ _ => by simp [execOp, h1]⟩
  case assign x =>
    obtain ⟨v, hv, hk⟩ := optK_elim h
    obtain ⟨h1, h2⟩ := ev_ok s hc hv
    exact ⟨v, hk, h2, fun τ S' w' _ _ => by simp [execOp, h1]⟩
  case pick c x y =>
    obtain ⟨vc, hvc, h⟩ := optK_elim h
    obtain ⟨t, rfl, h⟩ := boolK_elim h
    obtain ⟨h1, -⟩ := ev_ok s hc.1.1 hvc
    cases t with
    | true =>
      obtain ⟨v, hv, hk⟩ := optK_elim (show optK _ _ from h)
      obtain ⟨h3, h4⟩ := ev_ok s hc.1.2 hv
      exact ⟨v, hk, h4, fun τ S' w' _ _ => by simp [execOp, h1, h3, conc, c1, asBool]⟩
    | false =>
      obtain ⟨v, hv, hk⟩ := optK_elim (show optK _ _ from h)
      obtain ⟨h3, h4⟩ := ev_ok s hc.2 hv
      exact ⟨v, hk, h4, fun τ S' w' _ _ => by simp [execOp, h1, h3, conc, c1, asBool]⟩
  case binOp op xt x y yt =>
    obtain ⟨vx, hvx, h⟩ := optK_elim h
    obtain ⟨vy, hvy, h⟩ := optK_elim h
    obtain ⟨v, hv, hk⟩ := optK_elim h
    obtain ⟨h1, -⟩ := ev_ok s hc.1 hvx
    obtain ⟨h2, -⟩ := ev_ok s hc.2 hvy
    unfold evBin at hv
    split at hv
    · rename_i k p k' q
      split at hv
      · rename_i hkk
        subst hkk
        cases op <;> simp only [Option.some.injEq, reduceCtorEq] at hv
        case quo =>
          split at hv
          · cases hv
          · rename_i hq
            simp only [Option.some.injEq] at hv
            subst hv
            exact ⟨_, hk, trivial, fun τ S' w' _ _ => by simp [execOp, h1, h2, conc, c1, eqGuard, binOp, Op.intDiv, hq]⟩
        case rem =>
          split at hv
          · cases hv
          · rename_i hq
            simp only [Option.some.injEq] at hv
            subst hv
            exact ⟨_, hk, trivial, fun τ S' w' _ _ => by simp [execOp, h1, h2, conc, c1, eqGuard, binOp, Op.intDiv, hq]⟩
        case xor =>
          subst hv
          exact ⟨_, hk, trivial, fun τ S' w' _ _ => by simp [execOp, h1, h2, conc, c1, eqGuard, binOp, Op.intBits]⟩
        all_goals
          subst hv
          exact ⟨_, hk, trivial, fun τ S' w' _ _ => by simp [execOp, h1, h2, conc, c1, eqGuard, binOp, Op.intArith, Op.intCmp]⟩
      · cases hv
    · rename_i p q
      cases hu : P.underlying xt with
      | none => simp [hu] at hv
      | some d =>
        cases d <;> simp only [hu, reduceCtorEq] at hv
        cases op <;> simp only [Option.some.injEq, reduceCtorEq] at hv
        case eql =>
          subst hv
          exact ⟨_, hk, trivial, fun τ S' w' _ _ => by simp [execOp, h1, h2, conc, c1, eqGuard, run_eql_bool _ _ _ _ hu]⟩
        case neq =>
          subst hv
          exact ⟨_, hk, trivial, fun τ S' w' _ _ => by simp [execOp, h1, h2, conc, c1, eqGuard, run_neq_bool _ _ _ _ hu, bne]⟩
    · cases hv
  case unOp op xt x =>
    obtain ⟨vx, hvx, h⟩ := optK_elim h
    obtain ⟨v, hv, hk⟩ := optK_elim h
    obtain ⟨h1, -⟩ := ev_ok s hc hvx
    unfold evUn at hv
    split at hv
    · cases op <;> simp at hv
      subst hv
      exact ⟨_, hk, trivial, fun τ S' w' _ _ => by simp [execOp, h1, conc, c1, Op.unary]⟩
    · cases op <;> simp at hv
      subst hv
      exact ⟨_, hk, trivial, fun τ S' w' _ _ => by simp [execOp, h1, conc, c1, Op.unary, Op.intArith]⟩
    · cases hv
  case convert sT dT x =>
    obtain ⟨vx, hvx, h⟩ := optK_elim h
    obtain ⟨v, hv, hk⟩ := optK_elim h
    obtain ⟨h1, -⟩ := ev_ok s hc hvx
    unfold evConv at hv
    split at hv
    · split at hv
      · rename_i hs hd
        simp only [Option.some.injEq] at hv
        subst hv
        exact ⟨_, hk, trivial, fun τ S' w' _ _ => by simp [execOp, h1, conc, c1, convert, run_underlying hs, run_underlying hd, Conv.intToInt]⟩
      · cases hv
    · cases hv
  case load t x =>
    obtain ⟨p, hp, h⟩ := optK_elim h
    obtain ⟨v, hv, hk⟩ := optK_elim h
    obtain ⟨h1, hpo⟩ := ev_ok s hc.1 hp
    refine ⟨v, hk, (okV_ld r hv).okV, fun τ S' w' hE r' => ?_⟩
    obtain ⟨ad, h3, h4⟩ := ld_run r' (hE.ld hv)
    rw [conc_append (by rw [r.len]; exact hpo)] at h3
    rw [conc_append (by rw [r.len]; exact (okV_ld r hv).okV)] at h4
    simp [execOp, h1, h3, Instr.loadAt, Instr.sureAddr, loadVar, plainT_run hc.2, load, Sem.run, h4]
  case nilCheck x =>
    obtain ⟨p, hp, h⟩ := optK_elim h
    obtain ⟨h1, h2⟩ := ev_ok s hc hp
    refine ⟨p, h.2, h2, fun τ S' w' _ _ => ?_⟩
    obtain ⟨hi, _⟩ := h
    unfold isPtr at hi
    split at hi
    · simp [execOp, h1, conc, c1]
    · cases hi
  case fieldAddr sT x f =>
    obtain ⟨p, hp, h⟩ := optK_elim h
    obtain ⟨h1, h2⟩ := ev_ok s hc.1 hp
    obtain ⟨hi, hk⟩ := h
    obtain ⟨hc1, hc2⟩ := hc
    split at hc2
    · rename_i fs hfs
      split at hc2
      · rename_i fd hfd
        simp only [Bool.and_eq_true, beq_iff_eq] at hc2
        obtain ⟨q, rfl⟩ : ∃ q, p = .pointer (some q) := by
          unfold isPtr at hi
          split at hi
          · exact ⟨_, rfl⟩
          · cases hi
        refine ⟨_, hk, by simpa [eptr, okV, okA] using h2, fun τ S' w' _ _ => ?_⟩
        simp [execOp, h1, conc, c1, Instr.fieldAt, run_underlying hfs, hfd, Instr.sureAddr, fieldPlace, size1_run hc2.2, hc2.1, eptr, Addr.add_add]
      · cases hc2
    · cases hc2
  case indexAddr t x i =>
    obtain ⟨v, hv, h⟩ := optK_elim h
    obtain ⟨vi, hvi, h⟩ := optK_elim h
    obtain ⟨h1, h2⟩ := ev_ok s hc.1.1 hv
    obtain ⟨h3, -⟩ := ev_ok s hc.1.2 hvi
    obtain ⟨el, hel, hs1⟩ := sliceT_run hc.2
    split at h
    · rename_i k j
      obtain ⟨⟨hj0, hj1⟩, hk⟩ := h
      have hjn : j.toNat < slen v := by omega
      obtain ⟨b, m, c, h4, h5, h6⟩ := conc_eptr (σ := σ) hjn
      refine ⟨_, hk, okV_eptr h2 hjn, fun τ S' w' _ _ => ?_⟩
      subst h5
      have h1' := h1.trans h4
      have h3' : a.eval i = .int k j := h3
      rw [h6]
      simp [execOp, h1', h3', Instr.indexAt, asIntOf, run_underlying hel, size1_run hs1, hj0, hj1]
    · exact h.elim
  case extract x i =>
    obtain ⟨v, hv, h⟩ := optK_elim h
    obtain ⟨u, hu, hk⟩ := optK_elim h
    obtain ⟨h1, h2⟩ := ev_ok s hc hv
    unfold evExt at hu
    split at hu
    · rename_i vs
      have hmem : u ∈ vs.toList := by rw [← Array.getElem?_toList] at hu; exact List.mem_of_getElem? hu
      have hok : okA S.length u := h2 u hmem
      refine ⟨u, hk, hok.okV, fun τ S' w' _ _ => ?_⟩
      simp [execOp, h1, conc, Instr.extract, hu]
      cases u <;> first | rfl | exact hok.elim
    · cases hu
  case makeFunc fn f c =>
    obtain ⟨vf, hvf, h⟩ := optK_elim h
    obtain ⟨vc, hvc, hat, hk⟩ := optK_elim h
    simp only [List.all_eq_true] at hat
    simp only [List.all_eq_true] at hc
    obtain ⟨h1, h2⟩ := evs_ok s hc.1 hvf
    obtain ⟨h3, h4⟩ := evs_ok s hc.2 hvc
    have oc : ∀ vs : List Value, (∀ v ∈ vs, okV S.length v) → (∀ v ∈ vs, atomB v = true) → vs.map (conc σ) = vs.map (c1 σ) := fun vs ha hb =>
      List.map_congr_left fun v hv => conc_of_okA (okA_of_atom (ha v hv) (hb v hv))
    refine ⟨_, hk, ⟨fun x hx => okA_of_atom (h2 x (by simpa using hx)) (hat.1 x (by simpa using hx)), fun x hx => okA_of_atom (h4 x (by simpa using hx)) (hat.2 x (by simpa using hx))⟩, fun τ S' w' _ _ => ?_⟩
    have e1 : f.map a.eval = (vf.map (c1 σ)).toArray := by rw [← oc vf h2 hat.1, ← h1, ← List.map_toArray]
    have e2 : c.map a.eval = (vc.map (c1 σ)).toArray := by rw [← oc vc h4 hat.2, ← h3, ← List.map_toArray]
    simp [execOp, e1, e2, Instr.makeFunc, conc]
  case slice t x lo hi mx =>
    cases mx with
    | some m => exact h.elim
    | none =>
      obtain ⟨⟨⟨⟨hf, hflo⟩, hfhi⟩, hst⟩, -⟩ := hc
      obtain ⟨el, hu, hs⟩ := sliceT_run hst
      obtain ⟨v, hv, h⟩ := optK_elim h
      obtain ⟨l, h, hl⟩ := evIx_elim h
      obtain ⟨m, h, hh⟩ := evIx_elim h
      obtain ⟨u, hu', hk⟩ := optK_elim h
      obtain ⟨h1, h2⟩ := ev_ok s hf hv
      have hlo : (lo.map a.eval = none ∧ l = 0) ∨ ∃ k, lo.map a.eval = some (.int k l) := by
        rcases hl with ⟨rfl, rfl⟩ | ⟨y, k, rfl, hy⟩
        · exact .inl ⟨rfl, rfl⟩
        · exact .inr ⟨k, by simp only [Option.map_some]; rw [(ev_ok s hflo hy).1]; rfl⟩
      have hhi : (hi.map a.eval = none ∧ m = slen v) ∨ ∃ k, hi.map a.eval = some (.int k m) := by
        rcases hh with ⟨rfl, rfl⟩ | ⟨y, k, rfl, hy⟩
        · exact .inl ⟨rfl, rfl⟩
        · exact .inr ⟨k, by simp only [Option.map_some]; rw [(ev_ok s hfhi hy).1]; rfl⟩
      refine ⟨u, hk, slc_ok h2 hu', fun τ S' w' hE r' => ?_⟩
      have := slc_run hu hs r' (hE.slc hu') _ _ hlo hhi
      rw [conc_append (by rw [r.len]; exact h2), conc_append (by rw [r.len]; exact slc_ok h2 hu')] at this
      simp only [execOp, Sem.run_bind, h1, Option.map_none, this, Result.andThen_ok, Sem.run_pure]
  case call c =>
    obtain ⟨callee, args, argTypes⟩ := c
    obtain ⟨hc1, hc2⟩ := hc
    simp only [List.all_eq_true] at hc1
    cases callee with
    | value f => exact h.elim
    | invoke rv m => exact h.elim
    | builtin b =>
      cases b <;> simp only at h hc2
      case len =>
        split at h
        · rename_i x hx
          obtain ⟨v, hv, hsl, hk⟩ := optK_elim h
          simp only [Bool.and_eq_true, beq_iff_eq] at hc2
          obtain ⟨el, hel, hs1⟩ := sliceT_run hc2.1
          obtain ⟨h1, h2⟩ := ev_ok s (hc1 x (by rw [hx]; simp)) hv
          have ha : args = #[x] := by rw [← Array.toArray_toList (xs := args), hx]
          obtain ⟨t0, ht0⟩ : ∃ t0, argTypes = #[t0] := ⟨argTypes[0]'(by omega), by
            apply Array.ext
            · simp [hc2.2]
            · intro i hi1 hi2; have : i = 0 := by simp at hi2; omega
              subst this; simp⟩
          subst ha; subst ht0
          simp only [Array.getD_eq_getD_getElem?, List.size_toArray, List.length_cons, List.length_nil, Nat.zero_add, Nat.lt_one_iff, getElem?_pos, List.getElem_toArray, List.getElem_cons_zero, Option.getD_some] at hel
          refine ⟨_, hk, trivial, fun τ S' w' _ _ => ?_⟩
          cases v with
          | slice p m c =>
            cases p with
            | none =>
              have : m = 0 ∧ c = 0 := by unfold isSl at hsl; split at hsl <;> simp_all
              obtain ⟨rfl, rfl⟩ := this
              simp [execOp, h1, conc, c1, resolve, invoke, builtin, Builtin.len_, run_underlying hel, slen, goInt]
            | some p => simp [execOp, h1, conc, c1, resolve, invoke, builtin, Builtin.len_, run_underlying hel, slen, goInt]
          | _ => simp [isSl] at hsl
        · exact h.elim
      case max =>
        obtain ⟨vs, hvs, h⟩ := optK_elim h
        obtain ⟨v, hv, hk⟩ := optK_elim h
        obtain ⟨h1, h2⟩ := evs_ok s hc1 hvs
        have e1 : args.map a.eval = (vs.map (conc σ)).toArray := by rw [← h1, ← List.map_toArray]
        unfold evMax at hv
        split at hv
        · simp only [Option.some.injEq] at hv; subst hv
          exact ⟨_, hk, trivial, fun τ S' w' _ _ => by simp [execOp, e1, conc, c1, resolve, invoke, builtin, Builtin.max_, Builtin.max2]⟩
        · simp only [Option.some.injEq] at hv; subst hv
          exact ⟨_, hk, trivial, fun τ S' w' _ _ => by simp [execOp, e1, conc, c1, resolve, invoke, builtin, Builtin.max_, Builtin.max2]⟩
        · cases hv
      case min =>
        obtain ⟨vs, hvs, h⟩ := optK_elim h
        obtain ⟨v, hv, hk⟩ := optK_elim h
        obtain ⟨h1, h2⟩ := evs_ok s hc1 hvs
        have e1 : args.map a.eval = (vs.map (conc σ)).toArray := by rw [← h1, ← List.map_toArray]
        unfold evMin at hv
        split at hv
        all_goals first
          | (simp only [Option.some.injEq] at hv; subst hv
             exact ⟨_, hk, trivial, fun τ S' w' _ _ => by simp [execOp, e1, conc, c1, resolve, invoke, builtin, Builtin.min_, Builtin.min2]⟩)
          | cases hv
      all_goals exact h.elim
end
end Go.Mill

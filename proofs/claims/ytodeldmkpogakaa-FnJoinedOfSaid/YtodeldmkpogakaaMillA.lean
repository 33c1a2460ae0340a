/- The mill, part A: an abstract store, values with handles in place of blocks, and how they stand to the model's worlds. -/
import Derived.Deep.Quiet
import Derived.StillTail
import Derived.Deep.LoopGhost
import Derived.Laws.AppendOwn
import Derived.Laws.Slices
import Derived.Laws.Build
import Derived.Laws.MakeOwn
import Derived.Below
import Derived.DataElems
import Derived.KernelRfl
namespace Go.Mill
open Go Go.RowKit
set_option linter.unusedSimpArgs false
set_option linter.unusedVariables false

/-- Where a handle lies: its first cell, and how many cells from there on a slice of it may use. -/
structure Pl where
  a : Addr
  lim : Nat

instance : Inhabited Pl := ⟨⟨⟨0, 0, none⟩, 0⟩⟩

abbrev Sig := List Pl
def Sig.pl (σ : Sig) (h : Nat) : Pl := σ.getD h default

/-- The address of an abstract slice. A slice without a cell, at its very end, keeps the address from which it was cut: the abstract address bears that place as its 'spot'. -/
def sad (q : Pl) (p : Addr) (n : Nat) : Addr :=
  match p.spot with
  | some o => if n = 0 ∧ q.lim - p.off = 0 then q.a.add o else q.a.add p.off
  | none => q.a.add p.off

theorem sad_pos {q : Pl} {p : Addr} {n : Nat} (h : 0 < n) : sad q p n = q.a.add p.off := by
  unfold sad; split
  · rw [if_neg (by omega)]
  · rfl
theorem sad_none {q : Pl} {b o n : Nat} : sad q ⟨b, o, none⟩ n = q.a.add o := rfl

/-- The model's value of an abstract one-cell value. -/
def c1 (σ : Sig) : Value → Value
  | .slice (some p) n _ => .slice (some (sad (σ.pl p.block) p n)) n ((σ.pl p.block).lim - p.off)
  | .pointer (some p) => .pointer (some ((σ.pl p.block).a.add p.off))
  | v => v

def conc (σ : Sig) : Value → Value
  | .tuple vs => .tuple (vs.map (c1 σ))
  | .agg vs => .agg (vs.map (c1 σ))
  | .func fn f c => .func fn (f.map (c1 σ)) (c.map (c1 σ))
  | v => c1 σ v

/-- One cell's value, whose handles are below n. -/
def okA (n : Nat) : Value → Prop
  | .slice (some p) _ _ => p.block < n
  | .pointer (some p) => p.block < n
  | .tuple _ | .agg _ | .func .. | .iface .. => False
  | _ => True

def okV (n : Nat) : Value → Prop
  | .tuple vs => ∀ x ∈ vs.toList, okA n x
  | .agg vs => ∀ x ∈ vs.toList, okA n x
  | .func _ f c => (∀ x ∈ f.toList, okA n x) ∧ (∀ x ∈ c.toList, okA n x)
  | v => okA n v

theorem okA.okV {n : Nat} {v : Value} (h : okA n v) : okV n v := by
  cases v <;> first | exact h | exact h.elim

theorem okA.mono {n m : Nat} {v : Value} (h : okA n v) (hm : n ≤ m) : okA m v := by
  unfold okA at *; split at h <;> first | omega | exact h | trivial

theorem okV.mono {n m : Nat} {v : Value} (h : okV n v) (hm : n ≤ m) : okV m v := by
  unfold okV at *
  split at h
  · exact fun x hx => (h x hx).mono hm
  · exact fun x hx => (h x hx).mono hm
  · exact ⟨fun x hx => (h.1 x hx).mono hm, fun x hx => (h.2 x hx).mono hm⟩
  · rename_i v h1 h2 h3
    cases v <;> first | exact okA.mono h hm | exact absurd rfl (h1 _) | exact absurd rfl (h2 _) | exact absurd rfl (h3 _ _ _)

theorem conc_of_okA {n : Nat} {σ : Sig} {v : Value} (h : okA n v) : conc σ v = c1 σ v := by
  cases v <;> first | rfl | exact h.elim

theorem Sig.pl_append {σ τ : Sig} {h : Nat} (hh : h < σ.length) : Sig.pl (σ ++ τ) h = σ.pl h := by
  simp [Sig.pl, List.getD, List.getElem?_append_left hh]

theorem c1_append {σ τ : Sig} {v : Value} (h : okA σ.length v) : c1 (σ ++ τ) v = c1 σ v := by
  unfold c1
  cases v with
  | slice a n c => cases a with
    | none => rfl
    | some p => simp only [okA] at h; simp only [Sig.pl_append h]
  | pointer a => cases a with
    | none => rfl
    | some p => simp only [okA] at h; simp only [Sig.pl_append h]
  | _ => rfl

theorem map_c1_append {σ τ : Sig} {vs : Array Value} (h : ∀ x ∈ vs.toList, okA σ.length x) : vs.map (c1 (σ ++ τ)) = vs.map (c1 σ) :=
  Array.map_congr_left fun x hx => c1_append (h x (by simpa using hx))

theorem conc_append {σ τ : Sig} {v : Value} (h : okV σ.length v) : conc (σ ++ τ) v = conc σ v := by
  cases v with
  | tuple vs => simp only [conc, map_c1_append (σ := σ) (τ := τ) h]
  | agg vs => simp only [conc, map_c1_append (σ := σ) (τ := τ) h]
  | func fn f c => simp only [conc, map_c1_append (σ := σ) (τ := τ) h.1, map_c1_append (σ := σ) (τ := τ) h.2]
  | slice a n c => exact c1_append h
  | pointer a => exact c1_append h
  | _ => rfl

/-! ### The store -/
inductive Ob where
  | own (cs : List Value)
  | ro (cs : List Value)
  | dead

abbrev Store := List Ob

def Ob.cells : Ob → Option (List Value)
  | .own cs | .ro cs => some cs
  | .dead => none

def cell (S : Store) (h o : Nat) : Option Value := ((S[h]?).bind Ob.cells).bind (·[o]?)

def ld (S : Store) : Value → Option Value
  | .pointer (some p) => cell S p.block p.off
  | _ => none

def st (S : Store) (a v : Value) : Option Store :=
  match a with
  | .pointer (some p) => match S[p.block]? with
    | some (.own cs) => if p.off < cs.length then some (S.set p.block (.own (cs.set p.off v))) else none
    | _ => none
  | _ => none

/-- The abstract slice that begins at a handle's first cell. -/
def mk (h n : Nat) : Value := .slice (some ⟨h, 0, none⟩) n 0
def slen : Value → Nat
  | .slice (some _) n _ => n
  | _ => 0
def isSl : Value → Bool
  | .slice (some _) _ _ => true
  | .slice none 0 0 => true
  | _ => false
/-- The pointer to element i of a slice; to cell i behind a pointer. -/
def eptr : Value → Nat → Value
  | .slice (some p) _ _, i => .pointer (some ⟨p.block, p.off + i, none⟩)
  | .pointer (some p), i => .pointer (some ⟨p.block, p.off + i, none⟩)
  | _, _ => undef

/-- What a slice holds. -/
def rd (S : Store) : Value → Option (List Value)
  | .slice (some p) n _ => ((S[p.block]?).bind Ob.cells).bind fun cs => if p.off + n ≤ cs.length then some ((cs.drop p.off).take n) else none
  | .slice none 0 0 => some []
  | _ => none

def app (S : Store) (s x : Value) : Option (Value × Store) :=
  (rd S x).bind fun ys =>
  match s with
  | .slice none 0 0 => if ys = [] then some (s, S) else some (mk S.length ys.length, S ++ [.own ys])
  | .slice (some p) n _ =>
    if p.off = 0 ∧ p.spot = none then
      match S[p.block]? with
      | some (.own cs) =>
        if n = cs.length then some (mk S.length (n + ys.length), S.set p.block .dead ++ [.own (cs ++ ys)])
        else if n + ys.length ≤ cs.length then some (mk p.block (n + ys.length), S.set p.block (.own (cs.take n ++ ys ++ cs.drop (n + ys.length))))
        else none
      | _ => none
    else none
  | _ => none

/-- 's[lo:hi]' (hi up to the cells that are known). -/
def slc (S : Store) (s : Value) (lo hi : Nat) : Option Value :=
  match s with
  | .slice none 0 0 => if lo = 0 ∧ hi = 0 then some s else none
  | .slice (some p) n _ =>
    ((S[p.block]?).bind Ob.cells).bind fun cs =>
      if lo ≤ hi ∧ p.off + hi ≤ cs.length ∧ p.off + n ≤ cs.length then
        if lo = 0 then some (.slice (some p) hi 0)
        else some (.slice (some ⟨p.block, p.off + lo, some p.off⟩) (hi - lo) 0)
      else none
  | _ => none

/-- All that is alive is as it was. -/
structure Ext (S S' : Store) : Prop where
  len : S.length ≤ S'.length
  keep : ∀ (h : Nat) (ob : Ob), S[h]? = some ob → ob = .dead ∨ S'[h]? = some ob

theorem Ext.refl (S : Store) : Ext S S := ⟨Nat.le_refl _, fun _ _ h => .inr h⟩
theorem Ext.trans {A B C : Store} (h : Ext A B) (k : Ext B C) : Ext A C :=
  ⟨Nat.le_trans h.len k.len, fun i ob hi => by
    rcases h.keep i ob hi with e | e
    · exact .inl e
    · exact k.keep i ob e⟩
theorem Ext.append (S T : Store) : Ext S (S ++ T) :=
  ⟨by simp, fun h ob hh => .inr (by rw [List.getElem?_append_left (List.getElem?_eq_some_iff.1 hh).1]; exact hh)⟩
theorem Ext.app {S0 S : Store} (h : Ext S0 S) (T : Store) : Ext S0 (S ++ T) := h.trans (Ext.append S T)
theorem Ext.set {S0 S : Store} (h : Ext S0 S) {i : Nat} (hi : S0.length ≤ i) (ob : Ob) : Ext S0 (S.set i ob) :=
  ⟨by simpa using h.len, fun j o hj => by
    have hlt := (List.getElem?_eq_some_iff.1 hj).1
    rcases h.keep j o hj with e | e
    · exact .inl e
    · exact .inr (by rw [List.getElem?_set_ne (by omega)]; exact e)⟩

theorem Ext.cells {S S' : Store} (h : Ext S S') {i : Nat} {cs : List Value} (hc : (S[i]?).bind Ob.cells = some cs) : (S'[i]?).bind Ob.cells = some cs := by
  cases hi : S[i]? with
  | none => simp [hi] at hc
  | some ob =>
    rcases h.keep i ob hi with e | e
    · subst e; simp [hi, Ob.cells] at hc
    · rw [e, ← hi]; exact hc

theorem Ext.cell {S S' : Store} (h : Ext S S') {i o : Nat} {v : Value} (hc : cell S i o = some v) : cell S' i o = some v := by
  unfold Mill.cell at *
  cases hb : (S[i]?).bind Ob.cells with
  | none => simp [hb] at hc
  | some cs => rw [h.cells hb]; simpa [hb] using hc

theorem Ext.ld {S S' : Store} (h : Ext S S') {p v : Value} (hc : ld S p = some v) : ld S' p = some v := by
  unfold Mill.ld at *
  split at hc
  · exact h.cell hc
  · cases hc

theorem Ext.slc {S S' : Store} (h : Ext S S') {s v : Value} {l m : Nat} (hc : slc S s l m = some v) : slc S' s l m = some v := by
  unfold Mill.slc at *
  split at hc
  · exact hc
  · rename_i p _ _
    cases hb : (S[p.block]?).bind Ob.cells with
    | none => simp [hb] at hc
    | some cs => rw [h.cells hb]; simpa [hb] using hc
  · cases hc

theorem Ext.rd {S S' : Store} (h : Ext S S') {p : Value} {vs : List Value} (hc : rd S p = some vs) : rd S' p = some vs := by
  unfold Mill.rd at *
  split at hc
  · rename_i p n _
    cases hb : (S[p.block]?).bind Ob.cells with
    | none => simp [hb] at hc
    | some cs => rw [h.cells hb]; simpa [hb] using hc
  · exact hc
  · cases hc

/-! ### The store and the world -/
structure Rel (σ : Sig) (B : Nat) (S : Store) (w : World) : Prop where
  len : σ.length = S.length
  base : B ≤ w.heap.size
  own : ∀ (h : Nat) (cs : List Value), S[h]? = some (.own cs) → (σ.pl h).a = ⟨(σ.pl h).a.block, 0, none⟩ ∧ B ≤ (σ.pl h).a.block ∧ (σ.pl h).lim ≤ maxLen ∧
    ∃ (cur : Array Value) (e : TypeId), w.heap[(σ.pl h).a.block]? = some (.cells cur e (0, 0)) ∧ cur.size = (σ.pl h).lim ∧ cs.length ≤ cur.size ∧ ∀ (i : Nat) (x : Value), cs[i]? = some x → cur[i]? = some (c1 σ x)
  ro : ∀ (h : Nat) (cs : List Value), S[h]? = some (.ro cs) → cs.length ≤ (σ.pl h).lim ∧ (σ.pl h).lim ≤ maxLen ∧ ∀ (i : Nat) (x : Value), cs[i]? = some x → (σ.pl h).a.block < B ∧ w.cell? ((σ.pl h).a.add i) = some (c1 σ x)
  sep : ∀ (h h' : Nat) (cs cs' : List Value), S[h]? = some (.own cs) → S[h']? = some (.own cs') → h ≠ h' → (σ.pl h).a.block ≠ (σ.pl h').a.block
  ok : ∀ (h : Nat) (cs : List Value), (S[h]?).bind Ob.cells = some cs → ∀ x ∈ cs, okA S.length x

/-- A cell of the store lies in the world. -/
theorem Rel.cell {σ : Sig} {B : Nat} {S : Store} {w : World} (r : Rel σ B S w) {h i : Nat} {cs : List Value} {x : Value} (hc : (S[h]?).bind Ob.cells = some cs) (hx : cs[i]? = some x) :
    w.cell? ((σ.pl h).a.add i) = some (c1 σ x) := by
  cases hS : S[h]? with
  | none => simp [hS] at hc
  | some ob =>
    cases ob with
    | dead => simp [hS, Ob.cells] at hc
    | own cs' =>
      simp [hS, Ob.cells] at hc; subst hc
      obtain ⟨ha, _, _, cur, e, hcur, hsz, _, hcell⟩ := r.own h _ hS
      have hadd : (σ.pl h).a.add i = ⟨(σ.pl h).a.block, i, none⟩ := by rw [ha, Addr.add_lit]; simp
      rw [hadd]
      simp [World.cell?, hcur, hcell i x hx]
    | ro cs' =>
      simp [hS, Ob.cells] at hc; subst hc
      exact ((r.ro h _ hS).2.2 i x hx).2

theorem Rel.lim {σ : Sig} {B : Nat} {S : Store} {w : World} (r : Rel σ B S w) {h : Nat} {cs : List Value} (hc : (S[h]?).bind Ob.cells = some cs) : cs.length ≤ (σ.pl h).lim ∧ (σ.pl h).lim ≤ maxLen := by
  cases hS : S[h]? with
  | none => simp [hS] at hc
  | some ob =>
    cases ob with
    | dead => simp [hS, Ob.cells] at hc
    | own cs' =>
      simp [hS, Ob.cells] at hc; subst hc
      obtain ⟨_, _, hl, cur, e, _, hsz, hle, _⟩ := r.own h _ hS
      exact ⟨by omega, hl⟩
    | ro cs' =>
      simp [hS, Ob.cells] at hc; subst hc
      exact ⟨(r.ro h _ hS).1, (r.ro h _ hS).2.1⟩

/-- A draw turns nothing. -/
theorem Rel.drewN {σ : Sig} {B : Nat} {S : Store} {w : World} (r : Rel σ B S w) (n : Nat) : Rel σ B S (w.drewN n) :=
  ⟨r.len, r.base, r.own, r.ro, r.sep, r.ok⟩
theorem Rel.drew {σ : Sig} {B : Nat} {S : Store} {w : World} (r : Rel σ B S w) : Rel σ B S w.drew :=
  ⟨r.len, r.base, r.own, r.ro, r.sep, r.ok⟩

/-- A new block of the call's own. -/
theorem Rel.new {σ : Sig} {B : Nat} {S : Store} {w : World} (r : Rel σ B S w) (cs : List Value) (hcs : ∀ x ∈ cs, okA S.length x) (cur : Array Value) (e : TypeId)
    (hlen : cs.length ≤ cur.size) (hmax : cur.size ≤ maxLen) (hcur : ∀ (i : Nat) (x : Value), cs[i]? = some x → cur[i]? = some (c1 σ x)) :
    Rel (σ ++ [⟨⟨w.heap.size, 0, none⟩, cur.size⟩]) B (S ++ [.own cs]) (w.alloc (.cells cur e)) := by
  have hl := r.len
  have hnew : Sig.pl (σ ++ [⟨⟨w.heap.size, 0, none⟩, cur.size⟩]) S.length = ⟨⟨w.heap.size, 0, none⟩, cur.size⟩ := by
    simp [Sig.pl, List.getD, ← hl]
  have hold : ∀ h ob, S[h]? = some ob → Sig.pl (σ ++ [⟨⟨w.heap.size, 0, none⟩, cur.size⟩]) h = σ.pl h := fun h ob hh =>
    Sig.pl_append (by rw [hl]; exact (List.getElem?_eq_some_iff.1 hh).1)
  have hcase : ∀ h ob, (S ++ [Ob.own cs])[h]? = some ob → (S[h]? = some ob) ∨ (h = S.length ∧ ob = .own cs) := by
    intro h ob hh
    rcases Nat.lt_or_ge h S.length with hlt | hge
    · left; rwa [List.getElem?_append_left hlt] at hh
    · right
      rw [List.getElem?_append_right hge] at hh
      rcases Nat.eq_zero_or_pos (h - S.length) with h0 | hp
      · simp [h0] at hh; exact ⟨by omega, hh.symm⟩
      · rw [List.getElem?_eq_none (by simp; omega)] at hh; cases hh
  have okS : ∀ x, okA S.length x → c1 (σ ++ [⟨⟨w.heap.size, 0, none⟩, cur.size⟩]) x = c1 σ x := fun x hx => c1_append (by rw [hl]; exact hx)
  refine ⟨by simp [hl], by have := r.base; simp; omega, ?_, ?_, ?_, ?_⟩
  · intro h cs' hh
    rcases hcase h _ hh with h1 | ⟨rfl, h2⟩
    · obtain ⟨ha, hb, hm, cur', e', hcur', hsz, hle, hcell⟩ := r.own h cs' h1
      rw [hold h _ h1]
      refine ⟨ha, hb, hm, cur', e', ?_, hsz, hle, fun i x hx => ?_⟩
      · rw [Below.heap_alloc _ _ _ (Array.getElem?_eq_some_iff.1 hcur').1]; exact hcur'
      · rw [okS x (r.ok h cs' (by simp [h1, Ob.cells]) x (List.mem_of_getElem? hx))]; exact hcell i x hx
    · cases h2
      rw [hnew]
      refine ⟨rfl, r.base, hmax, cur, e, heap_alloc_new w _, rfl, hlen, fun i x hx => ?_⟩
      rw [okS x (hcs x (List.mem_of_getElem? hx))]; exact hcur i x hx
  · intro h cs' hh
    rcases hcase h _ hh with h1 | ⟨_, h2⟩
    · obtain ⟨h3, h4, h5⟩ := r.ro h cs' h1
      rw [hold h _ h1]
      refine ⟨h3, h4, fun i x hx => ?_⟩
      obtain ⟨h6, h7⟩ := h5 i x hx
      refine ⟨h6, ?_⟩
      rw [okS x (r.ok h cs' (by simp [h1, Ob.cells]) x (List.mem_of_getElem? hx)), ← h7]
      exact World.cell?_of_block (Below.heap_alloc _ _ _ (by have := World.block_lt_of_cell? w _ h7; exact this))
    · cases h2
  · intro h h' c c' hh hh' hne
    rcases hcase h _ hh with h1 | ⟨rfl, h2⟩ <;> rcases hcase h' _ hh' with h1' | ⟨rfl, h2'⟩
    · rw [hold h _ h1, hold h' _ h1']; exact r.sep h h' c c' h1 h1' hne
    · rw [hold h _ h1, hnew]
      obtain ⟨_, _, _, cur', e', hcur', _⟩ := r.own h c h1
      have := (Array.getElem?_eq_some_iff.1 hcur').1
      simp; omega
    · rw [hold h' _ h1', hnew]
      obtain ⟨_, _, _, cur', e', hcur', _⟩ := r.own h' c' h1'
      have := (Array.getElem?_eq_some_iff.1 hcur').1
      simp; omega
    · exact absurd rfl hne
  · intro h cs' hh x hx
    have : okA S.length x := by
      cases ho : (S ++ [Ob.own cs])[h]? with
      | none => simp [ho] at hh
      | some ob =>
        rcases hcase h _ ho with h1 | ⟨rfl, h2⟩
        · exact r.ok h cs' (by simpa [ho, h1] using hh) x hx
        · subst h2; simp [Ob.cells] at hh; subst hh; exact hcs x hx
    exact this.mono (by simp)

/-- What is left alone: a handle let go, or one whose cells have turned (in its own block). -/
theorem Rel.setRow {σ : Sig} {B : Nat} {S : Store} {w : World} (r : Rel σ B S w) {h : Nat} {cs : List Value} (hS : S[h]? = some (.own cs)) (cs' : List Value) (hok : ∀ x ∈ cs', okA S.length x)
    (cur' : Array Value) (e : TypeId) (w' : World) (hsz : cur'.size = (σ.pl h).lim) (hle : cs'.length ≤ cur'.size) (hcur : ∀ (i : Nat) (x : Value), cs'[i]? = some x → cur'[i]? = some (c1 σ x))
    (hw : w'.heap[(σ.pl h).a.block]? = some (.cells cur' e (0, 0))) (hother : ∀ k, k ≠ (σ.pl h).a.block → w'.heap[k]? = w.heap[k]?) (hsize : w.heap.size ≤ w'.heap.size) :
    Rel σ B (S.set h (.own cs')) w' := by
  have hlt := (List.getElem?_eq_some_iff.1 hS).1
  have hcase : ∀ k ob, (S.set h (.own cs'))[k]? = some ob → (k = h ∧ ob = .own cs') ∨ (k ≠ h ∧ S[k]? = some ob) := by
    intro k ob hk
    by_cases hkh : k = h
    · subst hkh; rw [List.getElem?_set_self hlt] at hk; left; exact ⟨rfl, by simpa using hk.symm⟩
    · right; rw [List.getElem?_set_ne (fun e => hkh e.symm)] at hk; exact ⟨hkh, hk⟩
  refine ⟨by simp [r.len], Nat.le_trans r.base hsize, ?_, ?_, ?_, ?_⟩
  · intro k c hk
    rcases hcase k _ hk with ⟨rfl, h2⟩ | ⟨hne, h1⟩
    · cases h2
      obtain ⟨ha, hb, hm, _⟩ := r.own k cs hS
      exact ⟨ha, hb, hm, cur', e, hw, hsz, hle, hcur⟩
    · obtain ⟨ha, hb, hm, cur, e1, hc1, hrest⟩ := r.own k c h1
      exact ⟨ha, hb, hm, cur, e1, by rw [hother _ (r.sep k h c cs h1 hS hne)]; exact hc1, hrest⟩
  · intro k c hk
    rcases hcase k _ hk with ⟨rfl, h2⟩ | ⟨hne, h1⟩
    · cases h2
    · obtain ⟨h3, h4, h5⟩ := r.ro k c h1
      refine ⟨h3, h4, fun i x hx => ?_⟩
      obtain ⟨h6, h7⟩ := h5 i x hx
      refine ⟨h6, ?_⟩
      rw [← h7]
      have hB := (r.own h cs hS).2.1
      refine World.cell?_of_block (hother _ ?_)
      have : ((σ.pl k).a.add i).block = (σ.pl k).a.block := by unfold Addr.add; split <;> rfl
      omega
  · intro k k' c c' hk hk' hne
    rcases hcase k _ hk with ⟨rfl, h2⟩ | ⟨hn, h1⟩ <;> rcases hcase k' _ hk' with ⟨rfl, h2'⟩ | ⟨hn', h1'⟩
    · exact absurd rfl hne
    · exact r.sep _ _ _ _ hS h1' hne
    · exact r.sep _ _ _ _ h1 hS hne
    · exact r.sep _ _ _ _ h1 h1' hne
  · intro k c hk x hx
    have : okA S.length x := by
      cases ho : (S.set h (.own cs'))[k]? with
      | none => simp [ho] at hk
      | some ob =>
        rcases hcase k _ ho with ⟨rfl, h2⟩ | ⟨_, h1⟩
        · subst h2; simp [ho, Ob.cells] at hk; subst hk; exact hok x hx
        · exact r.ok k c (by simpa [ho, h1] using hk) x hx
    simpa using this

theorem Rel.kill {σ : Sig} {B : Nat} {S : Store} {w : World} (r : Rel σ B S w) (h : Nat) : Rel σ B (S.set h .dead) w := by
  have hcase : ∀ k ob, (S.set h .dead)[k]? = some ob → ob = .dead ∨ (k ≠ h ∧ S[k]? = some ob) := by
    intro k ob hk
    by_cases hkh : k = h
    · subst hkh
      by_cases hlt : k < S.length
      · rw [List.getElem?_set_self hlt] at hk; left; simpa using hk.symm
      · rw [List.getElem?_eq_none (by simp; omega)] at hk; cases hk
    · right; rw [List.getElem?_set_ne (fun e => hkh e.symm)] at hk; exact ⟨hkh, hk⟩
  refine ⟨by simp [r.len], r.base, ?_, ?_, ?_, ?_⟩
  · intro k c hk
    rcases hcase k _ hk with h2 | ⟨_, h1⟩
    · cases h2
    · exact r.own k c h1
  · intro k c hk
    rcases hcase k _ hk with h2 | ⟨_, h1⟩
    · cases h2
    · exact r.ro k c h1
  · intro k k' c c' hk hk' hne
    rcases hcase k _ hk with h2 | ⟨_, h1⟩ <;> rcases hcase k' _ hk' with h2' | ⟨_, h1'⟩
    · cases h2
    · cases h2
    · cases h2'
    · exact r.sep _ _ _ _ h1 h1' hne
  · intro k c hk x hx
    have : okA S.length x := by
      cases ho : (S.set h .dead)[k]? with
      | none => simp [ho] at hk
      | some ob =>
        rcases hcase k _ ho with h2 | ⟨_, h1⟩
        · subst h2; simp [ho, Ob.cells] at hk
        · exact r.ok k c (by simpa [ho, h1] using hk) x hx
    simpa using this
end Go.Mill

/- The mill, part I: a law's arguments as a store. -/
import Derived.Test.YtodeldmkpogakaaMillH
import Derived.Deep.Matrix
import Derived.ProofKit
namespace Go.Mill
open Go Go.RowKit
set_option linter.unusedSimpArgs false
set_option linter.unusedVariables false

theorem Rel.start (w : World) : Rel [] w.heap.size [] w :=
  ⟨rfl, Nat.le_refl _, fun h cs hh => by simp at hh, fun h cs hh => by simp at hh, fun h h' cs cs' hh => by simp at hh, fun h cs hh => by simp at hh⟩

/-- A row that came in. -/
theorem Rel.addRo {σ : Sig} {B : Nat} {S : Store} {w : World} (r : Rel σ B S w) (a : Addr) (lim : Nat) (cs : List Value) (hcs : ∀ x ∈ cs, okA S.length x) (hlen : cs.length ≤ lim) (hmax : lim ≤ maxLen)
    (hcell : ∀ (i : Nat) (x : Value), cs[i]? = some x → a.block < B ∧ w.cell? (a.add i) = some (c1 σ x)) : Rel (σ ++ [⟨a, lim⟩]) B (S ++ [.ro cs]) w := by
  have hl := r.len
  have hnew : Sig.pl (σ ++ [⟨a, lim⟩]) S.length = ⟨a, lim⟩ := by simp [Sig.pl, List.getD, ← hl]
  have hold : ∀ (h : Nat) (ob : Ob), S[h]? = some ob → Sig.pl (σ ++ [⟨a, lim⟩]) h = σ.pl h := fun h ob hh => Sig.pl_append (by rw [hl]; exact (List.getElem?_eq_some_iff.1 hh).1)
  have hcase : ∀ (h : Nat) (ob : Ob), (S ++ [Ob.ro cs])[h]? = some ob → (S[h]? = some ob) ∨ (h = S.length ∧ ob = .ro cs) := by
    intro h ob hh
    rcases Nat.lt_or_ge h S.length with hlt | hge
    · left; rwa [List.getElem?_append_left hlt] at hh
    · right
      rw [List.getElem?_append_right hge] at hh
      rcases Nat.eq_zero_or_pos (h - S.length) with h0 | hp
      · simp [h0] at hh; exact ⟨by omega, hh.symm⟩
      · rw [List.getElem?_eq_none (by simp; omega)] at hh; cases hh
  have okS : ∀ x, okA S.length x → c1 (σ ++ [⟨a, lim⟩]) x = c1 σ x := fun x hx => c1_append (by rw [hl]; exact hx)
  refine ⟨by simp [hl], r.base, ?_, ?_, ?_, ?_⟩
  · intro h cs' hh
    rcases hcase h _ hh with h1 | ⟨_, h2⟩
    · obtain ⟨ha, hb, hm, cur', e', hcur', hsz, hle, hce⟩ := r.own h cs' h1
      rw [hold h _ h1]
      exact ⟨ha, hb, hm, cur', e', hcur', hsz, hle, fun i x hx => by rw [okS x (r.ok h cs' (by simp [h1, Ob.cells]) x (List.mem_of_getElem? hx))]; exact hce i x hx⟩
    · cases h2
  · intro h cs' hh
    rcases hcase h _ hh with h1 | ⟨rfl, h2⟩
    · obtain ⟨h3, h4, h5⟩ := r.ro h cs' h1
      rw [hold h _ h1]
      exact ⟨h3, h4, fun i x hx => by rw [okS x (r.ok h cs' (by simp [h1, Ob.cells]) x (List.mem_of_getElem? hx))]; exact h5 i x hx⟩
    · cases h2
      rw [hnew]
      exact ⟨hlen, hmax, fun i x hx => by rw [okS x (hcs x (List.mem_of_getElem? hx))]; exact hcell i x hx⟩
  · intro h h' c c' hh hh' hne
    rcases hcase h _ hh with h1 | ⟨_, h2⟩
    · rcases hcase h' _ hh' with h1' | ⟨_, h2'⟩
      · rw [hold h _ h1, hold h' _ h1']; exact r.sep h h' c c' h1 h1' hne
      · cases h2'
    · cases h2
  · intro h cs' hh x hx
    have : okA S.length x := by
      cases ho : (S ++ [Ob.ro cs])[h]? with
      | none => simp [ho] at hh
      | some ob =>
        rcases hcase h _ ho with h1 | ⟨rfl, h2⟩
        · exact r.ok h cs' (by simpa [ho, h1] using hh) x hx
        · subst h2; simp [Ob.cells] at hh; subst hh; exact hcs x hx
    exact this.mono (by simp)

/-- What stands ready for a law's walk: the arguments, as values over a store that lies in the world. -/
structure Ready (σ : Sig) (B : Nat) (S : Store) (w : World) (v u : Value) : Prop where
  conc : Mill.conc σ v = u
  ok : okV S.length v

theorem Ready.mono {σ τ : Sig} {B : Nat} {S S' : Store} {w : World} {v u : Value} (h : Ready σ B S w v u) (hl : σ.length = S.length) (hS : S.length ≤ S'.length) : Ready (σ ++ τ) B S' w v u :=
  ⟨by rw [conc_append (by rw [hl]; exact h.ok)]; exact h.conc, h.ok.mono hS⟩

/-- A row of integers, of whatever kind. -/
theorem ready_row {σ : Sig} {B : Nat} {S : Store} {w : World} (r : Rel σ B S w) (hB : w.heap.size ≤ B) (k : IntKind) (a : Option Addr) (len cap : Nat) (zs : List Int)
    (h : (a = none ∧ len = 0 ∧ cap = 0 ∧ zs = []) ∨ ∃ x, a = some x ∧ len ≤ cap ∧ cap ≤ maxLen ∧ zs.length = cap ∧ (∀ i, i < zs.length → w.cell? (x.add i) = some (.int k (zs.getD i 0)))) :
    ∃ (v : Value) (T : Store) (τ : Sig), Rel (σ ++ τ) B (S ++ T) w ∧ Ready (σ ++ τ) B (S ++ T) w v (.slice a len cap) ∧ rd (S ++ T) v = some ((zs.take len).map (.int k)) ∧ (len ≤ maxLen) := by
  rcases h with ⟨rfl, rfl, rfl, rfl⟩ | ⟨x, rfl, hl, hm, hz, hc⟩
  · exact ⟨.slice none 0 0, [], [], by simpa using r, ⟨rfl, trivial⟩, by simp [rd], by unfold maxLen; omega⟩
  · have r' := r.addRo x cap (zs.map (.int k)) (by simp [okA]) (by simp [hz]) hm (fun i y hy => by
      simp only [List.getElem?_map] at hy
      have hlt : i < zs.length := by
        rcases Nat.lt_or_ge i zs.length with h | h
        · exact h
        · rw [List.getElem?_eq_none h] at hy; cases hy
      have h1 := hc i hlt
      simp [hlt] at hy
      subst hy
      refine ⟨?_, by rw [h1]; simp [c1, hlt]⟩
      have h2 := World.block_lt_of_cell? w _ h1
      have : (x.add i).block = x.block := by unfold Addr.add; split <;> rfl
      omega)
    refine ⟨.slice (some ⟨S.length, 0, none⟩) len 0, [.ro (zs.map (.int k))], [⟨x, cap⟩], r', ⟨?_, by simp [okV, okA]⟩, ?_, Nat.le_trans hl hm⟩
    · simp [conc, c1, sad, Sig.pl, List.getD, ← r.len, Addr.add]
    · simp [rd, Ob.cells, hz, hl, List.map_take]

/-- Rows of integers. -/
theorem ready_rows {σ : Sig} {B : Nat} {S : Store} {w : World} (r : Rel σ B S w) (hB : w.heap.size ≤ B) (a : Option Addr) (len cap : Nat)
    (h : (a = none ∧ len = 0 ∧ cap = 0) ∨ ∃ (x : Addr) (A : Nat → Option Addr) (L C : Nat → Nat) (Z : Nat → List Int), a = some x ∧ len ≤ cap ∧ cap ≤ maxLen ∧
      ∀ j, j < cap → w.cell? (x.add j) = some (.slice (A j) (L j) (C j)) ∧ L j ≤ C j ∧ C j ≤ maxLen ∧ (Z j).length = C j ∧ (A j = none → C j = 0) ∧ ∀ a', A j = some a' → ∀ c, c < C j → w.cell? (a'.add c) = some (.int .i64 ((Z j).getD c 0))) :
    ∃ (v : Value) (rr : Nat → Value) (d : List (List Int)) (T : Store) (τ : Sig), Rel (σ ++ τ) B (S ++ T) w ∧ Ready (σ ++ τ) B (S ++ T) w v (.slice a len cap) ∧ Mat (S ++ T) v rr d ∧ d.length ≤ maxLen ∧ ∀ j, (d.getD j []).length ≤ maxLen := by
  rcases h with ⟨rfl, rfl, rfl⟩ | ⟨x, A, L, C, Z, rfl, hl, hm, hc⟩
  · exact ⟨.slice none 0 0, fun _ => undef, [], [], [], by simpa using r, ⟨rfl, trivial⟩, ⟨by simp [rd], by simp⟩, by simp, by simp⟩
  · -- the rows first
    have rows : ∀ m, m ≤ cap → ∃ (rr : Nat → Value) (T : Store) (τ : Sig), Rel (σ ++ τ) B (S ++ T) w ∧ ∀ j, j < m → Ready (σ ++ τ) B (S ++ T) w (rr j) (.slice (A j) (L j) (C j)) ∧ okA (S ++ T).length (rr j) ∧ Ints (S ++ T) (rr j) ((Z j).take (L j)) := by
      intro m
      induction m with
      | zero => intro _; exact ⟨fun _ => undef, [], [], by simpa using r, fun j hj => by omega⟩
      | succ m ih =>
        intro hmc
        obtain ⟨rr, T, τ, hR, hrows⟩ := ih (by omega)
        obtain ⟨h1, h2, h3, h4, h5, h6⟩ := hc m (by omega)
        have hrow : (A m = none ∧ L m = 0 ∧ C m = 0 ∧ Z m = []) ∨ ∃ x, A m = some x ∧ L m ≤ C m ∧ C m ≤ maxLen ∧ (Z m).length = C m ∧ (∀ i, i < (Z m).length → w.cell? (x.add i) = some (.int .i64 ((Z m).getD i 0))) := by
          cases hA : A m with
          | none => have := h5 hA; exact .inl ⟨rfl, by omega, this, List.eq_nil_of_length_eq_zero (by omega)⟩
          | some a' => exact .inr ⟨a', rfl, h2, h3, h4, fun i hi => h6 a' hA i (by omega)⟩
        obtain ⟨v, T', τ', hR', hv, hrd, _⟩ := ready_row hR hB .i64 (A m) (L m) (C m) (Z m) hrow
        refine ⟨fun j => if j = m then v else rr j, T ++ T', τ ++ τ', by simpa [List.append_assoc] using hR', fun j hj => ?_⟩
        by_cases hjm : j = m
        · subst hjm
          simp only [if_true]
          refine ⟨by simpa [List.append_assoc] using hv, ?_, by simpa [Ints, ints, List.append_assoc] using hrd⟩
          have ho := hv.ok
          have hcv := hv.conc
          rw [← List.append_assoc]
          cases v <;> first | exact ho | (simp [conc] at hcv)
        · simp only [if_neg hjm]
          obtain ⟨g1, g2, g3⟩ := hrows j (by omega)
          refine ⟨?_, ?_, ?_⟩
          · have := g1.mono (τ := τ') (S' := (S ++ T) ++ T') hR.len (by simp)
            simpa [List.append_assoc] using this
          · exact g2.mono (by simp)
          · have := g3.ext (Ext.append (S ++ T) T')
            simpa [List.append_assoc] using this
    obtain ⟨rr, T, τ, hR, hrows⟩ := rows cap (Nat.le_refl _)
    have hR' := hR.addRo x cap ((List.range len).map rr) (fun y hy => by
        obtain ⟨j, hj, rfl⟩ := List.mem_map.1 hy
        exact (hrows j (by have := List.mem_range.1 hj; omega)).2.1) (by simpa using hl) hm (fun i y hy => by
      have hlt : i < len := by
        rcases Nat.lt_or_ge i len with h | h
        · exact h
        · rw [List.getElem?_eq_none (by simpa using h)] at hy; cases hy
      simp [hlt] at hy
      subst hy
      obtain ⟨g1, g2, g3⟩ := hrows i (by omega)
      have h1 := (hc i (by omega)).1
      refine ⟨?_, by rw [h1, ← conc_of_okA g2, g1.conc]⟩
      have h2 := World.block_lt_of_cell? w _ h1
      have : (x.add i).block = x.block := by unfold Addr.add; split <;> rfl
      omega)
    refine ⟨.slice (some ⟨(S ++ T).length, 0, none⟩) len 0, rr, (List.range len).map fun j => (Z j).take (L j), T ++ [.ro ((List.range len).map rr)], τ ++ [⟨x, cap⟩], by simpa [List.append_assoc] using hR', ⟨?_, by simp [okV, okA]⟩, ⟨?_, fun i hi => ?_⟩, ?_, fun j => ?_⟩
    · have := hR.len
      simp only [List.length_append] at this
      simp [conc, c1, sad, Sig.pl, List.getD, ← this, Addr.add, ← List.append_assoc]
    · simp [rd, Ob.cells, ← List.append_assoc]
      exact List.take_of_length_le (by simp)
    · simp only [List.length_map, List.length_range] at hi
      have := (hrows i (by omega)).2.2.ext (Ext.append (S ++ T) [.ro ((List.range len).map rr)])
      simp only [List.append_assoc] at this
      simpa [List.getD, hi] using this
    · simp; omega
    · by_cases hj : j < len
      · have := (hc j (by omega)).2
        simp [List.getD, hj]; omega
      · simp [List.getD, hj]

/-- From a contract to the walk that a law's statement wants. -/
theorem walk_of {P : Program} {f : FuncId} {args : List Value} {cargs : Array Value} {S : Store} {σ : Sig} {w : World} (r : Rel σ w.heap.size S w) (ho : ∀ v ∈ args, okV S.length v) (hargs : (args.map (conc σ)).toArray = cargs)
    (h : ACalls P f args S fun u _ => u = .bool true) : Calls P f cargs w fun e w' => e = .returned (.bool true) ∧ Below w.heap.size w w' := by
  subst hargs
  exact (h σ w.heap.size w r ho).mono fun e w' ⟨v, S', τ, h1, h2, _, _, _, h6⟩ => ⟨by rw [h1, h2]; rfl, h6⟩
theorem wf_i64 {x : Int} (h : (Lit.int .i64 x).wf = true) : -9223372036854775808 ≤ x ∧ x ≤ 9223372036854775807 := by
  simp [Lit.wf, IntKind.min, IntKind.max, IntKind.signed, IntKind.bits] at h
  omega
theorem wf_u8 {x : Int} (h : (Lit.int .u8 x).wf = true) : 0 ≤ x ∧ x ≤ 255 := by
  simp [Lit.wf, IntKind.min, IntKind.max, IntKind.signed, IntKind.bits] at h
  omega
theorem bytes_in {w : World} {a : Option Addr} {len cap : Nat} {zs : List Int} (h : (a = none ∧ len = 0 ∧ cap = 0 ∧ zs = []) ∨ ∃ x, a = some x ∧ len ≤ cap ∧ cap ≤ maxLen ∧ zs.length = cap ∧ (∀ i, i < zs.length → w.cell? (x.add i) = some (.int .u8 (zs.getD i 0))) ∧ ∀ n ∈ zs, (Lit.int .u8 n).wf = true) :
    ∀ b ∈ zs.take len, 0 ≤ b ∧ b ≤ 255 := by
  intro b hb
  rcases h with ⟨_, _, _, rfl⟩ | ⟨x, _, _, _, _, _, h⟩
  · simp at hb
  · exact wf_u8 (h b (List.mem_of_mem_take hb))
end Go.Mill

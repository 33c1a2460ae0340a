/- The mill, part R: closures in draws; tables of pairs. -/
import Derived.Test.YtodeldmkpogakaaMillQ
import Derived.Test.YtodeldmkpogakaaPure12
namespace Go.Mill
open Go Go.RowKit
set_option linter.unusedSimpArgs false
set_option linter.unusedVariables false

def fnQK (P : Program) (ex : Bool) (fv : Value) (vs : List Value) (S : Store) (K : Value → Prop) : Prop := match fv with
  | .func (.func f) first captured => callable P f = true ∧ callQ P ex f (first.toList ++ vs ++ captured.toList) S K
  | _ => False
theorem aopQ_callv {P : Program} {ex : Bool} {t : Nat} {xs : Array Operand} {ats : Array TypeId} {e : Env} {S : Store} {KP : Value → Prop} : aopQ P ex (.call ⟨.value (.tmp t), xs, ats⟩) e S KP = optK (lk e t) fun fv => optK (evs e xs.toList) fun vs => fnQK P ex fv vs S KP := nd rfl
theorem fnQK_func {P : Program} {ex : Bool} {f : FuncId} {first captured : Array Value} {vs : List Value} {S : Store} {K : Value → Prop} : fnQK P ex (.func (.func f) first captured) vs S K = callQK P ex f (first.toList ++ vs ++ captured.toList) S K := nd rfl
attribute [go_sem] aopQ_callv fnQK_func

theorem ld_cut {S : Store} {t n i : Nat} {A B : List Value} {w : Value} (h : S[t]? = some (.own (A ++ w :: B))) (hi : i = A.length) : ld S (eptr (Mill.mk t n) i) = some w := by
  rw [ld_own h, hi]; simp
theorem st_cut {S : Store} {t n i : Nat} {A B : List Value} {w u : Value} (h : S[t]? = some (.own (A ++ w :: B))) (hi : i = A.length) : st S (eptr (Mill.mk t n) i) u = some (S.set t (.own (A ++ u :: B))) := by
  rw [st_own h (by rw [hi]; simp), hi]; simp
theorem set_same {S : Store} {t : Nat} {ob : Ob} (h : S[t]? = some ob) : S.set t ob = S := by
  apply List.ext_getElem?
  intro i
  by_cases hi : t = i
  · subst hi; rw [own_set (own_lt h), h]
  · rw [List.getElem?_set_ne hi]

/-- A row that stands somewhere, and the pair that it holds. -/
abbrev PC := Value × (Nat × Nat)
def pcRow (x : PC) : List Int := [(x.2.1 : Int), (x.2.2 : Int)]
/-- v is a table of pairs of one's own, at handle t; its rows are there from b on. -/
structure PL (b : Nat) (S : Store) (v : Value) (t : Nat) (L : List PC) : Prop where
  top : v = Mill.mk t L.length
  bt : b ≤ t
  own : S[t]? = some (.own (L.map Prod.fst))
  row : ∀ x ∈ L, ∃ q, x.1 = Mill.mk q 2 ∧ b ≤ q ∧ q ≠ t ∧ S[q]? = some (.own (ints (pcRow x)))
  nd : (L.map Prod.fst).Nodup
section
variable {b t : Nat} {S S' : Store} {v : Value} {L : List PC}
theorem PL.none (hb : b ≤ S.length) : PL b (S ++ [.own []]) (Mill.mk S.length 0) S.length [] :=
  ⟨rfl, hb, own_last, fun _ h => absurd h (List.not_mem_nil), List.nodup_nil⟩
theorem PL.keep (h : PL b S v t L) (k : ∀ q, b ≤ q → q < S.length → (q = t ∨ ∃ x ∈ L, x.1 = Mill.mk q 2) → S'[q]? = S[q]?) : PL b S' v t L := by
  refine ⟨h.top, h.bt, by rw [k t h.bt (own_lt h.own) (.inl rfl)]; exact h.own, fun x hx => ?_, h.nd⟩
  obtain ⟨q, h1, h2, h3, h4⟩ := h.row x hx
  exact ⟨q, h1, h2, h3, by rw [k q h2 (own_lt h4) (.inr ⟨x, hx, h1⟩)]; exact h4⟩
theorem PL.pre (h : PL b S v t L) (P : Pre S.length S S') : PL b S' v t L := h.keep fun q _ hq _ => P.low q hq
theorem PL.sl (h : PL b S v t L) : isSl v = true := by rw [h.top]; rfl
theorem PL.len (h : PL b S v t L) : slen v = L.length := by rw [h.top]; rfl
theorem PL.ints (h : PL b S v t L) {x : PC} (hx : x ∈ L) : Mill.Ints S x.1 (pcRow x) := by
  obtain ⟨q, h1, h2, h3, h4⟩ := h.row x hx
  rw [h1]; exact Ints.own h4 rfl
theorem PL.push (h : PL b S v t L) {x : PC} {q : Nat} (hx : x.1 = Mill.mk q 2) (hb : b ≤ q) (hqt : q ≠ t) (hS : S[q]? = some (.own (Mill.ints (pcRow x)))) (hnew : x.1 ∉ L.map Prod.fst) :
    ∃ v' S', Mill.app (S ++ [.own [x.1]]) v (Mill.mk S.length 1) = some (v', S') ∧ slen v' = L.length + 1 ∧ Pre b S S' ∧ (∀ r, r < S.length → r ≠ t → S'[r]? = S[r]?) ∧ ∃ t', S.length ≤ t' ∧ PL b S' v' t' (L ++ [x]) := by
  have ht := own_lt h.own
  have hrd : rd (S ++ [.own [x.1]]) (Mill.mk S.length 1) = some [x.1] := rd_own own_last rfl
  have happ := app_own (own_app (T := [.own [x.1]]) h.own) (n := L.length) (by simp) hrd
  rw [← h.top] at happ
  have hbt := h.bt
  have hl : (((S ++ [Ob.own [x.1]]).set t Ob.dead) : Store).length = S.length + 1 := by simp
  have hk : ∀ r, r < S.length → r ≠ t → (((S ++ [Ob.own [x.1]]).set t Ob.dead) ++ [Ob.own (L.map Prod.fst ++ [x.1])] : Store)[r]? = S[r]? := fun r hr hrt => by
    rw [List.getElem?_append_left (by rw [hl]; omega), List.getElem?_set_ne (Ne.symm hrt), List.getElem?_append_left hr]
  refine ⟨_, _, happ, by simp [slen_mk], (((Pre.refl b S).app (by omega) _).set hbt _).app (by simp; omega) _, hk, (S ++ [Ob.own [x.1]] : Store).length, by simp, ?_⟩
  refine ⟨by simp, by simp; omega, ?_, fun y hy => ?_, ?_⟩
  · have : (S ++ [Ob.own [x.1]] : Store).length = ((S ++ [Ob.own [x.1]]).set t Ob.dead : Store).length := by simp
    rw [this, own_last]; simp
  · rcases List.mem_append.1 hy with hy | hy
    · obtain ⟨r, h1, h2, h3, h4⟩ := h.row y hy
      exact ⟨r, h1, h2, by have := own_lt h4; simp; omega, by rw [hk r (own_lt h4) h3]; exact h4⟩
    · obtain rfl : y = x := by simpa using hy
      exact ⟨q, hx, hb, by have := own_lt hS; simp; omega, by rw [hk q (own_lt hS) hqt]; exact hS⟩
  · rw [List.map_append, List.map_singleton, List.nodup_append]
    refine ⟨h.nd, by simp, fun a ha c hc => ?_⟩
    obtain rfl : c = x.1 := by simpa using hc
    exact fun e => hnew (e ▸ ha)
/-- A pair more. -/
theorem PL.add (h : PL b S v t L) (i k : Nat) :
    ∃ v' S', Mill.app ((S ++ [.own [.int .i64 (i : Int), .int .i64 (k : Int)]]) ++ [.own [Mill.mk S.length 2]]) v (Mill.mk (S ++ [Ob.own [.int .i64 (i : Int), .int .i64 (k : Int)]] : Store).length 1) = some (v', S') ∧ slen v' = L.length + 1 ∧ Pre b S S' ∧ (∀ r, r < S.length → r ≠ t → S'[r]? = S[r]?) ∧ ∃ t', S.length ≤ t' ∧ PL b S' v' t' (L ++ [(Mill.mk S.length 2, (i, k))]) := by
  have hbt := h.bt
  have ht := own_lt h.own
  have hl1 : (S ++ [Ob.own [.int .i64 (i : Int), .int .i64 (k : Int)]] : Store).length = S.length + 1 := by simp
  have P1 : Pre S.length S (S ++ [.own [.int .i64 (i : Int), .int .i64 (k : Int)]]) := (Pre.refl _ _).app (Nat.le_refl _) _
  have h1 := h.pre P1
  obtain ⟨v', S', ha, hs, hp, hk, t', ht', hPL⟩ := h1.push (x := (Mill.mk S.length 2, (i, k))) (q := S.length) rfl (by omega) (by omega) own_last (fun hm => by
    obtain ⟨y, hy, he⟩ := List.mem_map.1 hm
    obtain ⟨q, e1, e2, e3, e4⟩ := h.row y hy
    have := own_lt e4
    rw [e1] at he
    simp [Mill.mk] at he
    omega)
  exact ⟨v', S', ha, hs, (P1.mono (by omega)).trans hp, fun r hr hrt => by rw [hk r (by omega) hrt, P1.low r hr], t', by omega, hPL⟩
theorem PL.setOff (h : PL b S v t L) {tl : Nat} (h1 : t ≠ tl) (h2 : ∀ x ∈ L, x.1 ≠ Mill.mk tl 2) (ob : Ob) : PL b (S.set tl ob) v t L :=
  h.keep fun q _ _ hq => List.getElem?_set_ne (by
    rcases hq with rfl | ⟨x, hx, e⟩
    · exact Ne.symm h1
    · intro e2; subst e2; exact h2 x hx e)
theorem PL.ld (h : PL b S v t L) {i : Nat} {x : PC} (hx : L[i]? = some x) : Mill.ld S (eptr v i) = some x.1 := by
  rw [h.top, ld_own h.own]; simp [hx]
theorem PL.intsSet (h : PL b S v t L) {x : PC} (hx : x ∈ L) (ob : Ob) : Mill.Ints (S.set t ob) x.1 (pcRow x) := by
  obtain ⟨q, h1, h2, h3, h4⟩ := h.row x hx
  rw [h1]; exact Ints.own (own_set_ne h4 h3) rfl
theorem PL.atom (h : PL b S v t L) {x : PC} (hx : x ∈ L) : atomB x.1 = true := by
  obtain ⟨q, h1, h2, h3, h4⟩ := h.row x hx
  rw [h1]; rfl
/-- In another order. -/
theorem PL.perm (h : PL b S v t L) {L' : List PC} (hp : L'.Perm L) : PL b (S.set t (.own (L'.map Prod.fst))) v t L' := by
  refine ⟨by rw [h.top, hp.length_eq], h.bt, own_set (own_lt h.own), fun x hx => ?_, (hp.map Prod.fst).nodup_iff.2 h.nd⟩
  obtain ⟨q, h1, h2, h3, h4⟩ := h.row x (hp.mem_iff.1 hx)
  exact ⟨q, h1, h2, h3, own_set_ne h4 h3⟩
theorem PL.mono (h : PL b S v t L) {b' : Nat} (hb : b' ≤ b) : PL b' S v t L :=
  ⟨h.top, Nat.le_trans hb h.bt, h.own, fun x hx => let ⟨q, h1, h2, h3, h4⟩ := h.row x hx; ⟨q, h1, Nat.le_trans hb h2, h3, h4⟩, h.nd⟩
/-- As a table of rows. -/
theorem PL.table (h : PL b S v t L) : ∃ g, OT b S v t g (L.map pcRow) := by
  have hq : ∀ j, j < L.length → ∃ q, (L.getD j (undef, (0, 0))).1 = Mill.mk q 2 ∧ b ≤ q ∧ q ≠ t ∧ S[q]? = some (.own (Mill.ints (pcRow (L.getD j (undef, (0, 0)))))) := fun j hj => by
    have : L.getD j (undef, (0, 0)) ∈ L := by rw [List.getD_eq_getElem?_getD, List.getElem?_eq_getElem hj]; exact List.getElem_mem hj
    exact h.row _ this
  obtain ⟨g, hg⟩ : ∃ g : Nat → Nat, ∀ j, j < L.length → (L.getD j (undef, (0, 0))).1 = Mill.mk (g j) 2 ∧ b ≤ g j ∧ g j ≠ t ∧ S[g j]? = some (.own (Mill.ints (pcRow (L.getD j (undef, (0, 0)))))) :=
    ⟨fun j => if hj : j < L.length then (hq j hj).choose else 0, fun j hj => by simp only [dif_pos hj]; exact (hq j hj).choose_spec⟩
  have hr : ∀ j, j < L.length → (L.map pcRow).getD j [] = pcRow (L.getD j (undef, (0, 0))) := fun j hj => by simp [hj]
  refine ⟨g, by rw [h.top]; simp, h.bt, ?_, fun j hj => ?_, fun j hj => ?_, fun j k hj hk e => ?_, fun j hj => ?_⟩
  · rw [h.own]
    congr 2
    refine List.ext_getElem (by simp) fun i h1 h2 => ?_
    have hi : i < L.length := by simpa using h1
    have e := (hg i hi).1
    simp only [List.getElem_map, List.getElem_range]
    rw [hr i hi]
    rw [List.getD_eq_getElem?_getD, List.getElem?_eq_getElem hi] at e
    exact e
  · exact (hg j (by simpa using hj)).2.1
  · exact (hg j (by simpa using hj)).2.2.1
  · have hj' : j < L.length := by simpa using hj
    have hk' : k < L.length := by simpa using hk
    have e1 := (hg j hj').1
    have e2 := (hg k hk').1
    rw [e, ← e2] at e1
    rw [List.getD_eq_getElem?_getD, List.getElem?_eq_getElem hj', List.getD_eq_getElem?_getD, List.getElem?_eq_getElem hk'] at e1
    have e3 : (L.map Prod.fst)[j]'(by simpa using hj') = (L.map Prod.fst)[k]'(by simpa using hk') := by simpa using e1
    exact (List.getElem_inj h.nd).1 e3
  · have hj' : j < L.length := by simpa using hj
    rw [hr j hj']; exact (hg j hj').2.2.2
end
theorem SortedOf.map {α β : Type} {key : β → Int} {f : α → β} {l s : List α} (h : SortedOf (fun x => key (f x)) l s) : SortedOf key (l.map f) (s.map f) := by
  refine ⟨by rw [List.pairwise_map]; exact h.up, fun z => ?_⟩
  rw [List.filter_map, List.filter_map]
  congr 1
  exact h.same z
/-! ### Numbers of lots, one after the other changed -/
theorem lotsOf_succ {q : Nat → Nat} {n : Nat} : lotsOf q (n + 1) = lotsOf q n ++ [((q n : Nat) : Int)] := by simp [lotsOf, List.range_succ]
theorem lotsOf_congr {q q' : Nat → Nat} {n : Nat} (h : ∀ x, x < n → q x = q' x) : lotsOf q n = lotsOf q' n := by
  refine List.map_congr_left fun x hx => ?_
  rw [h x (List.mem_range.1 hx)]
def mixq (q : Nat → Nat) (a b m : Nat) : Nat → Nat := fun x => if x < m ∧ q x = q b then q a else q x
theorem mixq_zero {q : Nat → Nat} {a b n : Nat} : lotsOf (mixq q a b 0) n = lotsOf q n := lotsOf_congr fun x _ => by simp [mixq]
theorem mixq_at {q : Nat → Nat} {a b m : Nat} : mixq q a b m m = q m := by simp [mixq]
theorem mixq_no {q : Nat → Nat} {a b m n : Nat} (h : q m ≠ q b) : lotsOf (mixq q a b (m + 1)) n = lotsOf (mixq q a b m) n := lotsOf_congr fun x _ => by
  unfold mixq
  by_cases hx : x = m
  · subst hx; simp [h]
  · have : x < m + 1 ↔ x < m := by omega
    simp only [this]
theorem mixq_yes {q : Nat → Nat} {a b m n : Nat} (hm : m < n) (h : q m = q b) : (lotsOf (mixq q a b m) n).set m ((q a : Nat) : Int) = lotsOf (mixq q a b (m + 1)) n := by
  refine List.ext_getElem (by simp [lotsOf]) fun i h1 h2 => ?_
  rw [List.getElem_set]
  simp only [lotsOf, List.getElem_map, List.getElem_range]
  unfold mixq
  split
  · rename_i e; subst e; simp [h]
  · rename_i e
    have : i < m + 1 ↔ i < m := by omega
    simp only [this]
theorem mixq_end {s : JS} {a b n : Nat} (h : s.1 a ≠ s.1 b) : lotsOf (mixq s.1 a b n) n = lotsOf (jstep s a b).1 n := lotsOf_congr fun x hx => by
  simp [jstep, h, mixq, hx]
theorem jstep_same {s : JS} {a b : Nat} (h : s.1 a = s.1 b) : jstep s a b = s := by simp [jstep, h]
theorem jstep_two {s : JS} {a b : Nat} (h : s.1 a ≠ s.1 b) : (jstep s a b).2 = s.2 ++ [[(a : Int), (b : Int)]] := by simp [jstep, h]
/-- A lot's own number stays, as long as not it goes. -/
theorem mixq_own {q : Nat → Nat} {a b m : Nat} (h : q a ≠ q b) : mixq q a b m a = q a := by simp [mixq, h]
theorem pairs_few : ∀ n, n ≤ 6 → (pairsL n n).length ≤ 15 := by decide
end Go.Mill

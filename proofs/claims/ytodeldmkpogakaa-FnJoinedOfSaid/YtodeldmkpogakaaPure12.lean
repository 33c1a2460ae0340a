/- Plain: the pairs by which all lots are joined. -/
import Derived.Test.YtodeldmkpogakaaPure8
namespace Go.Mill
open Go
set_option linter.unusedSimpArgs false
set_option linter.unusedVariables false

/-! ### Lists in the order of a key, those of one key as they were -/
structure SortedOf {α : Type} (key : α → Int) (l s : List α) : Prop where
  up : s.Pairwise fun x y => key x ≤ key y
  same : ∀ f : Int, (s.filter fun x => decide (key x = f)) = l.filter fun x => decide (key x = f)
section
variable {α : Type} {key : α → Int}
theorem sorted_unique : ∀ (l1 l2 : List α), l1.Pairwise (fun x y => key x ≤ key y) → l2.Pairwise (fun x y => key x ≤ key y) → (∀ f : Int, (l1.filter fun x => decide (key x = f)) = l2.filter fun x => decide (key x = f)) → l1 = l2
  | [], [], _, _, _ => rfl
  | [], b :: t2, _, _, h => by have := h (key b); simp at this
  | a :: t1, [], _, _, h => by have := h (key a); simp at this
  | a :: t1, b :: t2, h1, h2, h => by
    rw [List.pairwise_cons] at h1 h2
    have ha : a ∈ (b :: t2).filter fun x => decide (key x = key a) := by rw [← h (key a)]; simp
    have hb : b ∈ (a :: t1).filter fun x => decide (key x = key b) := by rw [h (key b)]; simp
    have ha' := (List.mem_filter.1 ha).1
    have hb' := (List.mem_filter.1 hb).1
    have k1 : key b ≤ key a := by
      rcases List.mem_cons.1 ha' with e | e
      · rw [e]; exact Int.le_refl _
      · exact h2.1 a e
    have k2 : key a ≤ key b := by
      rcases List.mem_cons.1 hb' with e | e
      · rw [e]; exact Int.le_refl _
      · exact h1.1 b e
    have hk : key a = key b := by omega
    have hh := h (key a)
    rw [List.filter_cons_of_pos (by simp), List.filter_cons_of_pos (by simp [hk])] at hh
    have hab : a = b := (List.cons.inj hh).1
    subst hab
    congr 1
    refine sorted_unique t1 t2 h1.2 h2.2 fun f => ?_
    have hf := h f
    by_cases hfa : key a = f
    · rw [List.filter_cons_of_pos (by simp [hfa]), List.filter_cons_of_pos (by simp [hfa])] at hf
      exact (List.cons.inj hf).2
    · rw [List.filter_cons_of_neg (by simp [hfa]), List.filter_cons_of_neg (by simp [hfa])] at hf
      exact hf
theorem SortedOf.unique {l s t : List α} (h : SortedOf key l s) (h' : SortedOf key l t) : s = t := sorted_unique s t h.up h'.up fun f => by rw [h.same, h'.same]
theorem SortedOf.nil : SortedOf key [] [] := ⟨List.Pairwise.nil, fun _ => rfl⟩
/-- One more, put behind those that are not above it. -/
theorem SortedOf.insert {l p q : List α} {x : α} (h : SortedOf key l (p ++ q)) (hp : ∀ y ∈ p, key y ≤ key x) (hq : ∀ y ∈ q, key x < key y) : SortedOf key (l ++ [x]) (p ++ x :: q) := by
  have hu := h.up
  rw [List.pairwise_append] at hu
  refine ⟨?_, fun f => ?_⟩
  · rw [List.pairwise_append, List.pairwise_cons]
    refine ⟨hu.1, ⟨fun y hy => by have := hq y hy; omega, hu.2.1⟩, fun a ha b hb => ?_⟩
    rcases List.mem_cons.1 hb with rfl | hb
    · exact hp a ha
    · exact hu.2.2 a ha b hb
  · have hs := h.same f
    rw [List.filter_append] at hs
    rw [List.filter_append, List.filter_append, ← hs]
    by_cases hf : key x = f
    · have hqn : (q.filter fun y => decide (key y = f)) = [] := List.filter_eq_nil_iff.2 fun y hy => by have := hq y hy; simp; omega
      rw [List.filter_cons_of_pos (by simp [hf]), hqn, List.filter_cons_of_pos (by simp [hf])]
      simp
    · rw [List.filter_cons_of_neg (by simp [hf]), List.filter_cons_of_neg (by simp [hf])]
      simp
/-- Key by key. -/
def byKey (key : α → Int) (l : List α) : Nat → List α
  | 0 => []
  | f + 1 => byKey key l f ++ l.filter fun x => decide (key x = (f : Int) + 1)
theorem mem_byKey {l : List α} {x : α} : ∀ {m : Nat}, x ∈ byKey key l m → x ∈ l ∧ 1 ≤ key x ∧ key x ≤ m
  | 0, h => by cases h
  | m + 1, h => by
    rcases List.mem_append.1 h with h | h
    · have := mem_byKey h; exact ⟨this.1, this.2.1, by omega⟩
    · obtain ⟨h1, h2⟩ := List.mem_filter.1 h
      have := of_decide_eq_true h2
      exact ⟨h1, by omega, by omega⟩
theorem byKey_sorted {l : List α} : ∀ m, (byKey key l m).Pairwise fun x y => key x ≤ key y
  | 0 => List.Pairwise.nil
  | m + 1 => by
    simp only [byKey]
    rw [List.pairwise_append]
    refine ⟨byKey_sorted m, ?_, fun a ha b hb => ?_⟩
    · refine List.pairwise_of_forall_mem_list fun a ha b hb => ?_
      have h1 := of_decide_eq_true (List.mem_filter.1 ha).2
      have h2 := of_decide_eq_true (List.mem_filter.1 hb).2
      omega
    · have h1 := (mem_byKey ha).2.2
      have h2 := of_decide_eq_true (List.mem_filter.1 hb).2
      omega
theorem byKey_same {l : List α} {f : Int} : ∀ m : Nat, (f < 1 ∨ m < f → ((byKey key l m).filter fun x => decide (key x = f)) = []) ∧ (1 ≤ f → f ≤ m → ((byKey key l m).filter fun x => decide (key x = f)) = l.filter fun x => decide (key x = f))
  | 0 => ⟨fun _ => rfl, fun h1 h2 => by omega⟩
  | m + 1 => by
    obtain ⟨i1, i2⟩ := byKey_same (l := l) (f := f) m
    simp only [byKey, List.filter_append]
    have other : ¬ (m : Int) + 1 = f → ((l.filter fun x => decide (key x = (m : Int) + 1)).filter fun x => decide (key x = f)) = [] := fun hne => List.filter_eq_nil_iff.2 fun y hy => by
      have := of_decide_eq_true (List.mem_filter.1 hy).2
      simp; omega
    constructor
    · intro h
      rw [i1 (by omega), other (by omega)]; rfl
    · intro h1 h2
      by_cases hf : (m : Int) + 1 = f
      · rw [i1 (by omega), hf, List.filter_filter]
        simp
      · rw [i2 h1 (by omega), other hf]; simp
theorem byKey_of {l : List α} {m : Nat} (h : ∀ x ∈ l, 1 ≤ key x ∧ key x ≤ m) : SortedOf key l (byKey key l m) := by
  refine ⟨byKey_sorted m, fun f => ?_⟩
  by_cases hf : 1 ≤ f ∧ f ≤ m
  · exact (byKey_same m).2 hf.1 hf.2
  · rw [(byKey_same m).1 (by omega)]
    symm
    exact List.filter_eq_nil_iff.2 fun y hy => by have := h y hy; simp; omega
end

/-! ### The pairs -/
def pairRow (i : Nat) : Nat → List (Nat × Nat)
  | 0 => []
  | k + 1 => if i < k then pairRow i k ++ [(i, k)] else pairRow i k
def pairsL (n : Nat) : Nat → List (Nat × Nat)
  | 0 => []
  | i + 1 => pairsL n i ++ pairRow i n
theorem pairRow_none {i k : Nat} (h : k ≤ i + 1) : pairRow i k = [] := by
  induction k with
  | zero => rfl
  | succ k ih => simp only [pairRow]; rw [if_neg (by omega)]; exact ih (by omega)
theorem pairRow_yes {i k : Nat} (h : i < k) : pairRow i (k + 1) = pairRow i k ++ [(i, k)] := by simp only [pairRow]; rw [if_pos h]
theorem mem_pairRow {i k : Nat} {p : Nat × Nat} : p ∈ pairRow i k ↔ p.1 = i ∧ i < p.2 ∧ p.2 < k := by
  induction k with
  | zero => simp [pairRow]
  | succ k ih =>
    simp only [pairRow]
    split
    · rename_i h
      simp only [List.mem_append, ih, List.mem_singleton]
      constructor
      · rintro (h1 | h1)
        · omega
        · subst h1; simp; exact h
      · intro h1
        rcases Nat.lt_or_ge p.2 k with h2 | h2
        · exact .inl (by omega)
        · right
          have : p.2 = k := by omega
          rw [← this, ← h1.1]
    · rename_i h
      rw [ih]; omega
theorem mem_pairsL {n m : Nat} {p : Nat × Nat} : p ∈ pairsL n m ↔ p.1 < m ∧ p.1 < p.2 ∧ p.2 < n := by
  induction m with
  | zero => simp [pairsL]
  | succ m ih =>
    simp only [pairsL, List.mem_append, ih, mem_pairRow]
    constructor
    · rintro (h | h) <;> omega
    · intro h
      rcases Nat.lt_or_ge p.1 m with h1 | h1
      · exact .inl (by omega)
      · exact .inr (by omega)
theorem pairRow_len {i k : Nat} : (pairRow i k).length = k - (i + 1) := by
  induction k with
  | zero => simp [pairRow]
  | succ k ih => simp only [pairRow]; split <;> simp [ih] <;> omega
theorem pairsL_len {n : Nat} (hn : n ≤ 6) : ∀ m, m ≤ n → (pairsL n m).length ≤ 6 * m
  | 0, _ => by simp [pairsL]
  | m + 1, h => by
    have := pairsL_len hn m (by omega)
    simp only [pairsL, List.length_append, pairRow_len]
    omega

/-! ### Joining -/
abbrev JS := (Nat → Nat) × List (List Int)
def jstep (s : JS) (k j : Nat) : JS := if s.1 k = s.1 j then s else (fun x => if s.1 x = s.1 j then s.1 k else s.1 x, s.2 ++ [[(k : Int), (j : Int)]])
def jfold (s : JS) (ps : List (Nat × Nat)) : JS := ps.foldl (fun s p => jstep s p.1 p.2) s
def lotsOf (q : Nat → Nat) (n : Nat) : List Int := (List.range n).map fun k => ((q k : Nat) : Int)
theorem lotsOf_len {q : Nat → Nat} {n : Nat} : (lotsOf q n).length = n := by simp [lotsOf]
theorem lotsOf_get {q : Nat → Nat} {n k : Nat} (hk : k < n) : (lotsOf q n).getD k 0 = ((q k : Nat) : Int) := by simp [lotsOf, hk]
def keyP (d : List (List Int)) (p : Nat × Nat) : Int := at2 d p.1 p.2
def ordL (d : List (List Int)) : List (Nat × Nat) := byKey (keyP d) (pairsL d.length d.length) 60
noncomputable def joinedV (d : List (List Int)) : List (List Int) := if farB d then (jfold (id, []) (ordL d)).2 else []
section
variable {d : List (List Int)}
theorem joinedV_yes (h : IsFar d) : joinedV d = (jfold (id, []) (ordL d)).2 := by simp [joinedV, farB_yes h]
theorem joinedV_no (h : farB d = false) : joinedV d = [] := by simp [joinedV, h]
theorem key_in (h : IsFar d) : ∀ p ∈ pairsL d.length d.length, 1 ≤ keyP d p ∧ keyP d p ≤ (60 : Nat) := by
  intro p hp
  rw [mem_pairsL] at hp
  have s := h.at (i := p.1) (k := p.2) (by omega) (by omega)
  have : ¬ at2 d p.1 p.2 = 0 := fun e => by have := s.2.2.2.1 e; omega
  unfold keyP
  omega
theorem ord_of (h : IsFar d) : SortedOf (keyP d) (pairsL d.length d.length) (ordL d) := byKey_of (key_in h)
theorem mem_ord (h : IsFar d) {p : Nat × Nat} : p ∈ ordL d ↔ p.1 < p.2 ∧ p.2 < d.length := by
  constructor
  · intro hp
    have := (mem_byKey hp).1
    rw [mem_pairsL] at this
    omega
  · intro hp
    have hm : p ∈ pairsL d.length d.length := mem_pairsL.2 (by omega)
    have h1 : p ∈ (ordL d).filter fun x => decide (keyP d x = keyP d p) := by
      rw [(ord_of h).same]
      exact List.mem_filter.2 ⟨hm, by simp⟩
    exact (List.mem_filter.1 h1).1

theorem jfold_app {s : JS} {p q : List (Nat × Nat)} : jfold s (p ++ q) = jfold (jfold s p) q := by simp [jfold]
theorem jfold_one {s : JS} {p : Nat × Nat} : jfold s [p] = jstep s p.1 p.2 := rfl
theorem jfold_nil {s : JS} : jfold s [] = s := rfl

/-- What joining keeps. -/
structure JI (d : List (List Int)) (ps : List (Nat × Nat)) (s : JS) : Prop where
  lt : ∀ k, k < d.length → s.1 k < d.length
  idem : ∀ k, k < d.length → s.1 (s.1 k) = s.1 k
  count : s.2.length + cnt (fun k => decide (s.1 k = k)) d.length = d.length
  one : ∀ p ∈ ps, s.1 p.1 = s.1 p.2
  mem : ∀ x ∈ s.2, ∃ p ∈ ps, x = [(p.1 : Int), (p.2 : Int)]
  up : s.2.Pairwise fun x y => at2 d (x.getD 0 0).toNat (x.getD 1 0).toNat ≤ at2 d (y.getD 0 0).toNat (y.getD 1 0).toNat
theorem cnt_one {c : Nat → Bool} {b : Nat} (hc : c b = true) : ∀ n, cnt c n = cnt (fun k => c k && decide (k ≠ b)) n + if b < n then 1 else 0
  | 0 => by simp [cnt]
  | n + 1 => by
    have ih := cnt_one hc n
    simp only [cnt]
    rw [ih]
    by_cases h1 : n = b
    · subst h1; simp [hc]
    · have e : (c n && decide (n ≠ b)) = c n := by simp [h1]
      have e1 : (b < n + 1) = (b < n) := by simp only [eq_iff_iff]; omega
      simp only [e, e1]
      omega
theorem JI.start : JI d [] (id, []) :=
  ⟨fun k hk => hk, fun k _ => rfl, by rw [cnt_all fun k _ => by simp]; simp, fun p hp => by simp at hp, fun x hx => by simp at hx, List.Pairwise.nil⟩
theorem JI.step {ps : List (Nat × Nat)} {s : JS} (h : JI d ps s) {k j : Nat} (hkj : k < j) (hj : j < d.length) (hps : ∀ p ∈ ps, keyP d p ≤ at2 d k j) : JI d (ps ++ [(k, j)]) (jstep s k j) := by
  unfold jstep
  split
  · rename_i he
    refine ⟨h.lt, h.idem, h.count, fun p hp => ?_, fun x hx => ?_, h.up⟩
    · rcases List.mem_append.1 hp with hp | hp
      · exact h.one p hp
      · rw [List.mem_singleton] at hp; subst hp; exact he
    · obtain ⟨p, hp, hx⟩ := h.mem x hx; exact ⟨p, by simp [hp], hx⟩
  · rename_i he
    have hk : k < d.length := by omega
    have lk := h.lt k hk
    have lj := h.lt j hj
    have ik := h.idem k hk
    have ij := h.idem j hj
    refine ⟨fun x hx => ?_, fun x hx => ?_, ?_, fun p hp => ?_, fun x hx => ?_, ?_⟩
    · simp only; split
      · exact lk
      · exact h.lt x hx
    · simp only
      by_cases hx1 : s.1 x = s.1 j
      · rw [if_pos hx1, ik, if_neg he]
      · rw [if_neg hx1, h.idem x hx, if_neg hx1]
    · have hc := h.count
      have h1 := cnt_one (c := fun k => decide (s.1 k = k)) (b := s.1 j) (by simp [ij]) d.length
      rw [if_pos lj] at h1
      have h2 : cnt (fun x => decide ((if s.1 x = s.1 j then s.1 k else s.1 x) = x)) d.length = cnt (fun x => decide (s.1 x = x) && decide (x ≠ s.1 j)) d.length := by
        refine cnt_congr fun x hx => ?_
        by_cases hx1 : s.1 x = s.1 j
        · rw [if_pos hx1]
          have e1 : ¬ s.1 k = x := fun e => he (by rw [← hx1, ← e, ik])
          by_cases e2 : s.1 x = x
          · have : x = s.1 j := by rw [← hx1, e2]
            rw [decide_eq_false e1, decide_eq_false (show ¬ x ≠ s.1 j from fun h => h this), Bool.and_false]
          · simp [e1, e2]
        · rw [if_neg hx1]
          by_cases e2 : s.1 x = x
          · have : ¬ x = s.1 j := fun e => hx1 (by rw [e2, e])
            simp [this]
          · simp [e2]
      simp only [List.length_append, List.length_singleton]
      omega
    · simp only
      rcases List.mem_append.1 hp with hp | hp
      · rw [h.one p hp]
      · rw [List.mem_singleton] at hp; subst hp
        simp only [ite_self, ↓reduceIte]
    · rcases List.mem_append.1 hx with hx | hx
      · obtain ⟨p, hp, hx⟩ := h.mem x hx; exact ⟨p, by simp [hp], hx⟩
      · rw [List.mem_singleton] at hx; exact ⟨(k, j), by simp, hx⟩
    · rw [List.pairwise_append]
      refine ⟨h.up, List.pairwise_singleton _ _, fun a ha b hb => ?_⟩
      rw [List.mem_singleton] at hb
      subst hb
      obtain ⟨p, hp, rfl⟩ := h.mem a ha
      have := hps p hp
      simpa [keyP] using this
theorem JI.run : ∀ (qs ps : List (Nat × Nat)) (s : JS), JI d ps s → (ps ++ qs).Pairwise (fun x y => keyP d x ≤ keyP d y) → (∀ p ∈ qs, p.1 < p.2 ∧ p.2 < d.length) → JI d (ps ++ qs) (jfold s qs)
  | [], ps, s, h, _, _ => by simpa [jfold] using h
  | q :: qs, ps, s, h, hs, hq => by
    have hq' := hq q (by simp)
    rw [List.pairwise_append] at hs
    have hstep := h.step hq'.1 hq'.2 (fun p hp => hs.2.2 p hp q (by simp))
    have hrun := JI.run qs (ps ++ [(q.1, q.2)]) _ hstep (by
      rw [List.append_assoc, List.pairwise_append]; exact hs) (fun p hp => hq p (by simp [hp]))
    rw [List.append_assoc] at hrun
    exact hrun
theorem joined_all (h : IsFar d) : JI d (ordL d) (jfold (id, []) (ordL d)) := by
  have := JI.run (d := d) (ordL d) [] (id, []) JI.start (by simpa using (ord_of h).up) (fun p hp => (mem_ord h).1 hp)
  simpa using this
theorem joined_len (h : IsFar d) : (joinedV d).length + 1 = d.length := by
  rw [joinedV_yes h]
  have J := joined_all h
  generalize jfold (id, []) (ordL d) = s at J ⊢
  have h1 := h.1
  have eq : ∀ k, k < d.length → s.1 k = s.1 0 := fun k hk => by
    rcases Nat.eq_zero_or_pos k with rfl | hp
    · rfl
    · exact (J.one (0, k) ((mem_ord h).2 ⟨hp, hk⟩)).symm
  have hr := J.lt 0 h1
  have hi := J.idem 0 h1
  have hc := J.count
  have h2 := cnt_one (c := fun k => decide (s.1 k = k)) (b := s.1 0) (by simp [hi]) d.length
  rw [if_pos hr] at h2
  have h3 : cnt (fun k => decide (s.1 k = k) && decide (k ≠ s.1 0)) d.length = 0 := cnt_none fun k hk => by
    have e := eq k hk
    by_cases hk2 : s.1 k = k
    · have : k = s.1 0 := by rw [← e, hk2]
      rw [decide_eq_false (show ¬ k ≠ s.1 0 from fun h => h this), Bool.and_false]
    · simp [hk2]
  rw [h3] at h2
  omega
theorem joined_mem (h : IsFar d) {x : List Int} (hx : x ∈ joinedV d) : ∃ k j, k < j ∧ j < d.length ∧ x = [(k : Int), (j : Int)] := by
  rw [joinedV_yes h] at hx
  obtain ⟨p, hp, e⟩ := (joined_all h).mem x hx
  have := (mem_ord h).1 hp
  exact ⟨p.1, p.2, this.1, this.2, e⟩
theorem joined_up (h : IsFar d) {i : Nat} (h0 : 1 ≤ i) (hi : i < (joinedV d).length) :
    at2 d (((joinedV d).getD (i - 1) []).getD 0 0).toNat (((joinedV d).getD (i - 1) []).getD 1 0).toNat ≤ at2 d (((joinedV d).getD i []).getD 0 0).toNat (((joinedV d).getD i []).getD 1 0).toNat := by
  have hu := (joined_all h).up
  rw [← joinedV_yes h] at hu
  have := List.pairwise_iff_getElem.1 hu (i - 1) i (by omega) hi (by omega)
  simpa [List.getElem?_eq_getElem hi, List.getElem?_eq_getElem (show i - 1 < (joinedV d).length by omega)] using this

/-- Joined pairs alone. -/
def joinAt (d js : List (List Int)) (a b : Nat) : Int := if [(a : Int), (b : Int)] ∈ js ∨ [(b : Int), (a : Int)] ∈ js then at2 d a b else if a = b then 0 else 60
/-- e is d with 60 for all pairs but the joined ones. -/
structure Alone (d js e : List (List Int)) : Prop where
  len : e.length = d.length
  sq : ∀ i, i < d.length → (e.getD i []).length = d.length
  at_ : ∀ a b, a < d.length → b < d.length → at2 e a b = joinAt d js a b
theorem Alone.far {e : List (List Int)} (h : IsFar d) {js : List (List Int)} (A : Alone d js e) (hm : ∀ x ∈ js, ∃ k j : Nat, k < j ∧ j < d.length ∧ x = [(k : Int), (j : Int)]) : IsFar e := by
  refine ⟨by rw [A.len]; exact h.1, by rw [A.len]; exact h.2.1, fun i hi => by rw [A.len] at hi ⊢; exact A.sq i hi, fun i k hi hk => ?_⟩
  rw [A.len] at hi hk
  rw [A.at_ i k hi hk, A.at_ k i hk hi]
  have s := h.at hi hk
  have hor : ([(k : Int), (i : Int)] ∈ js ∨ [(i : Int), (k : Int)] ∈ js) = ([(i : Int), (k : Int)] ∈ js ∨ [(k : Int), (i : Int)] ∈ js) := by simp only [eq_iff_iff]; exact Or.comm
  have ec : (k = i) = (i = k) := by simp only [eq_iff_iff]; omega
  unfold joinAt
  simp only [hor, ec]
  split
  · exact s
  · split
    · rename_i e; exact ⟨rfl, by omega, by omega, by simp [e]⟩
    · rename_i e; exact ⟨rfl, by omega, by omega, by simp [e]⟩
theorem alone_joined {e : List (List Int)} (h : IsFar d) (A : Alone d (joinedV d) e) : belowV e = belowV d := by
  have hm := fun x hx => joined_mem h (x := x) hx
  have hE : IsFar e := A.far h hm
  have hl := below_len hE
  have hl' := below_len h
  rw [A.len] at hl
  have hge : ∀ a b, a < d.length → b < d.length → at2 d a b ≤ at2 e a b := fun a b ha hb => by
    rw [A.at_ a b ha hb]
    have s := h.at ha hb
    unfold joinAt
    split
    · exact Int.le_refl _
    · split
      · rename_i he; have := s.2.2.2.2 he; omega
      · omega
  have tri : ∀ a b c, a < d.length → b < d.length → c < d.length → at2 (belowV e) a b ≤ max (at2 (belowV e) a c) (at2 (belowV e) c b) := fun a b c ha hb hc => below_tri hE (by rw [A.len]; exact ha) (by rw [A.len]; exact hb) (by rw [A.len]; exact hc)
  have sy : ∀ a b, a < d.length → b < d.length → at2 (belowV e) a b = at2 (belowV e) b a := fun a b ha hb => (below_sym hE (by rw [A.len]; exact ha) (by rw [A.len]; exact hb)).1
  -- what is in one lot is near
  have near : ∀ (qs ps : List (Nat × Nat)) (s : JS), ps ++ qs = ordL d → s = jfold (id, []) ps → (∀ M : Int, 0 ≤ M → (∀ p ∈ ps, keyP d p ≤ M) → ∀ x y, x < d.length → y < d.length → s.1 x = s.1 y → at2 (belowV e) x y ≤ M) →
      ∀ q ∈ qs, at2 (belowV e) q.1 q.2 ≤ keyP d q := by
    intro qs
    induction qs with
    | nil => intro ps s _ _ _ q hq; cases hq
    | cons r qs ih =>
      intro ps s hps hs hI
      have hr := (mem_ord h).1 (show r ∈ ordL d by rw [← hps]; simp)
      have hup := (ord_of h).up
      rw [← hps, List.pairwise_append, List.pairwise_cons] at hup
      have hkr := (key_in h r (mem_pairsL.2 (by omega)))
      have hI' : ∀ M : Int, 0 ≤ M → (∀ p ∈ ps ++ [r], keyP d p ≤ M) → ∀ x y, x < d.length → y < d.length → (jstep s r.1 r.2).1 x = (jstep s r.1 r.2).1 y → at2 (belowV e) x y ≤ M := by
        intro M hM hall x y hx hy he
        have hI := hI M hM (fun p hp => hall p (by simp [hp]))
        have hrM := hall r (by simp)
        have pre : ∃ t, joinedV d = (jstep s r.1 r.2).2 ++ t := by
          have : ∀ (qs : List (Nat × Nat)) (s : JS), ∃ t, (jfold s qs).2 = s.2 ++ t := by
            intro qs
            induction qs with
            | nil => intro s; exact ⟨[], by simp [jfold]⟩
            | cons q qs ih =>
              intro s
              obtain ⟨t, ht⟩ := ih (jstep s q.1 q.2)
              refine Exists.elim (show ∃ u, (jstep s q.1 q.2).2 = s.2 ++ u from ?_) fun u hu => ⟨u ++ t, ?_⟩
              · unfold jstep
                split
                · exact ⟨[], by simp⟩
                · exact ⟨_, rfl⟩
              · show (jfold (jstep s q.1 q.2) qs).2 = _
                rw [ht, hu, List.append_assoc]
          obtain ⟨t, ht⟩ := this qs (jstep s r.1 r.2)
          refine ⟨t, ?_⟩
          rw [joinedV_yes h, ← hps, jfold_app, ← hs, ← ht]
          rfl
        unfold jstep at he pre
        split at he
        · exact hI x y hx hy he
        · rename_i hne
          rw [if_neg hne] at pre
          obtain ⟨t, ht⟩ := pre
          have hmem : [(r.1 : Int), (r.2 : Int)] ∈ joinedV d := by rw [ht]; simp
          have hkj : at2 (belowV e) r.1 r.2 ≤ M := by
            have h1 := below_le hE (i := r.1) (k := r.2) (by rw [A.len]; omega) (by rw [A.len]; omega)
            rw [A.at_ r.1 r.2 (by omega) (by omega)] at h1
            unfold joinAt at h1
            rw [if_pos (.inl hmem)] at h1
            unfold keyP at hrM
            omega
          simp only at he
          by_cases hx1 : s.1 x = s.1 r.2 <;> by_cases hy1 : s.1 y = s.1 r.2
          · exact hI x y hx hy (by rw [hx1, hy1])
          · rw [if_pos hx1, if_neg hy1] at he
            have a1 := hI x r.2 hx hr.2 hx1
            have a2 := hI r.1 y (by omega) hy he
            have t1 := tri x y r.2 hx hy hr.2
            have t2 := tri r.2 y r.1 hr.2 hy (by omega)
            have s1 := sy r.2 r.1 hr.2 (by omega)
            omega
          · rw [if_neg hx1, if_pos hy1] at he
            have a1 := hI y r.2 hy hr.2 hy1
            have a2 := hI x r.1 hx (by omega) he
            have t1 := tri x y r.1 hx hy (by omega)
            have t2 := tri r.1 y r.2 (by omega) hy hr.2
            have s1 := sy y r.2 hy hr.2
            omega
          · rw [if_neg hx1, if_neg hy1] at he
            exact hI x y hx hy he
      intro q hq
      rcases List.mem_cons.1 hq with rfl | hq
      · refine hI' (keyP d q) (by omega) (fun p hp => ?_) q.1 q.2 (by omega) hr.2 ?_
        · rcases List.mem_append.1 hp with hp | hp
          · exact hup.2.2 p hp q (by simp)
          · rw [List.mem_singleton] at hp; subst hp; exact Int.le_refl _
        · unfold jstep
          split
          · assumption
          · rename_i hne
            simp only [ite_self, ↓reduceIte]
      · exact ih (ps ++ [r]) (jstep s r.1 r.2) (by rw [List.append_assoc]; exact hps) (by rw [jfold_app, ← hs]; rfl) hI' q hq
  have hnear : ∀ a b, a < b → b < d.length → at2 (belowV e) a b ≤ at2 d a b := fun a b hab hb =>
    near (ordL d) [] (id, []) (List.nil_append _) jfold_nil.symm (fun M hM _ x y hx hy he => by
      have : x = y := he
      subst this
      rw [lot_self hE (by rw [A.len]; exact hx)]; exact hM) (a, b) ((mem_ord h).2 ⟨hab, hb⟩)
  have hall : ∀ a b, a < d.length → b < d.length → at2 (belowV e) a b ≤ at2 d a b := fun a b ha hb => by
    rcases Nat.lt_trichotomy a b with h1 | rfl | h1
    · exact hnear a b h1 hb
    · rw [lot_self hE (by rw [A.len]; exact ha)]; exact (h.at ha ha).2.1
    · have := hnear b a h1 ha
      rw [sy a b ha hb, (h.at ha hb).1]; exact this
  refine at2_ext (by rw [hl, hl']) (fun i hi => ?_) fun i k hi hk => ?_
  · rw [hl'] at hi
    rw [(below_ultra hE).1.1.2.2.1 i (by omega), (below_ultra h).1.1.2.2.1 i (by omega), hl, hl']
  · rw [hl'] at hi
    rw [(below_ultra h).1.1.2.2.1 i (by omega), hl'] at hk
    have h1 := below_great h (below_ultra hE) hl hall hi hk
    have h2 := below_great hE (below_ultra h) (by rw [hl', A.len]) (fun a b ha hb => by
      rw [A.len] at ha hb
      exact Int.le_trans (below_le h ha hb) (hge a b ha hb)) (show i < e.length by rw [A.len]; exact hi) (show k < e.length by rw [A.len]; exact hk)
    omega
end
end Go.Mill

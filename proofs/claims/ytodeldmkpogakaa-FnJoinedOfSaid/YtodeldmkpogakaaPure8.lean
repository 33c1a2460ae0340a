/- Plain: roads. -/
import Derived.Test.YtodeldmkpogakaaPure7
import Derived.Test.YtodeldmkpogakaaPure4
namespace Go.Mill
open Go
set_option linter.unusedSimpArgs false
set_option linter.unusedVariables false

section
variable {c : Nat → Bool} {n : Nat}
theorem cnt_split {i k : Nat} (hik : i < k) (hi : c i = true) (hk : c k = true) : ∀ n, cnt c n = cnt (fun j => c j && (decide (j ≠ i) && decide (j ≠ k))) n + (if i < n then 1 else 0) + (if k < n then 1 else 0)
  | 0 => by simp [cnt]
  | n + 1 => by
    have ih := cnt_split hik hi hk n
    simp only [cnt]
    rw [ih]
    by_cases h1 : n = i
    · subst h1; simp [hi]; (repeat' split) <;> omega
    · by_cases h2 : n = k
      · subst h2; simp [hk]; (repeat' split) <;> omega
      · have e : (c n && (decide (n ≠ i) && decide (n ≠ k))) = c n := by simp [h1, h2]
        have e1 : (i < n + 1) = (i < n) := by simp only [eq_iff_iff]; omega
        have e2 : (k < n + 1) = (k < n) := by simp only [eq_iff_iff]; omega
        simp only [e, e1, e2]
        omega
theorem cnt_pos {j : Nat} (hj : j < n) (h : c j = true) : 0 < cnt c n := by
  induction n with
  | zero => omega
  | succ n ih =>
    simp only [cnt]
    rcases Nat.lt_or_ge j n with h1 | h1
    · have := ih h1; omega
    · obtain rfl : j = n := by omega
      rw [h]; simp
theorem cnt_two {i k : Nat} (hik : i < k) (hkn : k < n) (hi : c i = true) (hk : c k = true) : cnt c n = 2 ↔ ∀ j, j < n → j ≠ i → j ≠ k → c j = false := by
  rw [cnt_split hik hi hk, if_pos (by omega), if_pos hkn]
  constructor
  · intro h j hj h1 h2
    cases hc : c j with
    | false => rfl
    | true =>
      have := cnt_pos (c := fun j => c j && (decide (j ≠ i) && decide (j ≠ k))) hj (by simp [hc, h1, h2])
      omega
  · intro h
    rw [cnt_none fun j hj => ?_]
    by_cases h1 : j = i
    · simp [h1]
    · by_cases h2 : j = k
      · simp [h2]
      · simp [h j hj h1 h2]
end

def isRoad (d : List (List Int)) (i k : Nat) : Bool := decide ((pickN (betC d i k) d.length).length = 2)
/-- The roads from i on to points below k; those from points below i. -/
def roadRow (d : List (List Int)) (i : Nat) : Nat → List (List Int)
  | 0 => []
  | k + 1 => if i < k ∧ isRoad d i k = true then roadRow d i k ++ [[(i : Int), (k : Int)]] else roadRow d i k
def roadsT (d : List (List Int)) (n : Nat) : Nat → List (List Int)
  | 0 => []
  | i + 1 => roadsT d n i ++ roadRow d i n
noncomputable def roadsV (d : List (List Int)) : List (List Int) := if spaceB d then roadsT d d.length d.length else []
theorem roadsV_yes {d : List (List Int)} (h : IsSpace d) : roadsV d = roadsT d d.length d.length := by simp [roadsV, spaceB_yes h]
theorem roadsV_no {d : List (List Int)} (h : spaceB d = false) : roadsV d = [] := by simp [roadsV, h]
section
variable {d : List (List Int)}
theorem roadRow_none {i k : Nat} (h : k ≤ i + 1) : roadRow d i k = [] := by
  induction k with
  | zero => rfl
  | succ k ih => simp only [roadRow]; rw [if_neg (by omega)]; exact ih (by omega)
theorem roadRow_yes {i k : Nat} (h : i < k) (hr : isRoad d i k = true) : roadRow d i (k + 1) = roadRow d i k ++ [[(i : Int), (k : Int)]] := by simp only [roadRow]; rw [if_pos ⟨h, hr⟩]
theorem roadRow_no {i k : Nat} (hr : ¬ isRoad d i k = true) : roadRow d i (k + 1) = roadRow d i k := by simp only [roadRow]; rw [if_neg (fun h => hr h.2)]
theorem mem_roadRow {i k : Nat} {x : List Int} : x ∈ roadRow d i k ↔ ∃ j, i < j ∧ j < k ∧ isRoad d i j = true ∧ x = [(i : Int), (j : Int)] := by
  induction k with
  | zero => simp [roadRow]
  | succ k ih =>
    simp only [roadRow]
    split
    · rename_i h
      simp only [List.mem_append, ih, List.mem_singleton]
      constructor
      · rintro (⟨j, h1, h2, h3, h4⟩ | h1)
        · exact ⟨j, h1, by omega, h3, h4⟩
        · exact ⟨k, h.1, by omega, h.2, h1⟩
      · rintro ⟨j, h1, h2, h3, h4⟩
        rcases Nat.lt_or_ge j k with h5 | h5
        · exact .inl ⟨j, h1, h5, h3, h4⟩
        · obtain rfl : j = k := by omega
          exact .inr h4
    · rename_i h
      rw [ih]
      constructor
      · rintro ⟨j, h1, h2, h3, h4⟩; exact ⟨j, h1, by omega, h3, h4⟩
      · rintro ⟨j, h1, h2, h3, h4⟩
        rcases Nat.lt_or_ge j k with h5 | h5
        · exact ⟨j, h1, h5, h3, h4⟩
        · obtain rfl : j = k := by omega
          exact absurd ⟨h1, h3⟩ h
theorem mem_roadsT {n m : Nat} {x : List Int} : x ∈ roadsT d n m ↔ ∃ i k, i < m ∧ i < k ∧ k < n ∧ isRoad d i k = true ∧ x = [(i : Int), (k : Int)] := by
  induction m with
  | zero => simp [roadsT]
  | succ m ih =>
    simp only [roadsT, List.mem_append, ih, mem_roadRow]
    constructor
    · rintro (⟨i, k, h1, h2, h3, h4, h5⟩ | ⟨k, h2, h3, h4, h5⟩)
      · exact ⟨i, k, by omega, h2, h3, h4, h5⟩
      · exact ⟨m, k, by omega, h2, h3, h4, h5⟩
    · rintro ⟨i, k, h1, h2, h3, h4, h5⟩
      rcases Nat.lt_or_ge i m with h6 | h6
      · exact .inl ⟨i, k, h6, h2, h3, h4, h5⟩
      · obtain rfl : i = m := by omega
        exact .inr ⟨k, h2, h3, h4, h5⟩
theorem roadRow_len {i k : Nat} : (roadRow d i k).length ≤ k - (i + 1) := by
  induction k with
  | zero => simp [roadRow]
  | succ k ih =>
    simp only [roadRow]
    split
    · simp; omega
    · omega
theorem roadsT_len {n : Nat} : ∀ m, m ≤ n → 2 * (roadsT d n m).length + m * m + m ≤ 2 * n * m
  | 0, _ => by simp [roadsT]
  | m + 1, h => by
    have ih := roadsT_len (n := n) m (by omega)
    have := @roadRow_len d m n
    simp only [roadsT, List.length_append]
    have e1 : (m + 1) * (m + 1) = m * m + 2 * m + 1 := by rw [Nat.add_mul, Nat.mul_add]; omega
    have e2 : 2 * n * (m + 1) = 2 * n * m + 2 * n := by rw [Nat.mul_add]; omega
    rw [e1, e2]
    omega
theorem roads_few : 2 * (roadsT d d.length d.length).length ≤ d.length * (d.length - 1) := by
  have := @roadsT_len d d.length d.length (Nat.le_refl _)
  rw [Nat.mul_sub, Nat.mul_one]
  have e : 2 * d.length * d.length = 2 * (d.length * d.length) := by rw [Nat.mul_assoc]
  rw [e] at this
  omega

/-- A road is a pair between which no other point lies. -/
theorem road_iff (h : IsSpace d) {i k : Nat} (hik : i < k) (hk : k < d.length) : isRoad d i k = true ↔ ∀ j, j < d.length → j ≠ i → j ≠ k → at2 d i j + at2 d j k ≠ at2 d i k := by
  have hi : i < d.length := by omega
  have z1 := (h.1.2.2.2 i i hi hi).2.2.2.2 rfl
  have z2 := (h.1.2.2.2 k k hk hk).2.2.2.2 rfl
  simp only [isRoad, decide_eq_true_eq, pickN_cnt]
  rw [cnt_two hik hk (by simp only [betC, decide_eq_true_eq]; omega) (by simp only [betC, decide_eq_true_eq]; omega)]
  simp only [betC, decide_eq_false_iff_not]
theorem bet_two (h : IsSpace d) {i k : Nat} (hi : i < d.length) (hk : k < d.length) (hne : i ≠ k) : 2 ≤ (pickN (betC d i k) d.length).length := by
  have z1 := (h.1.2.2.2 i i hi hi).2.2.2.2 rfl
  have z2 := (h.1.2.2.2 k k hk hk).2.2.2.2 rfl
  rw [pickN_cnt]
  have c1 : betC d i k i = true := by simp only [betC, decide_eq_true_eq]; omega
  have c2 : betC d i k k = true := by simp only [betC, decide_eq_true_eq]; omega
  rcases Nat.lt_or_ge i k with h1 | h1
  · rw [cnt_split h1 c1 c2, if_pos hi, if_pos hk]; omega
  · rw [cnt_split (show k < i by omega) c2 c1, if_pos hi, if_pos hk]; omega
theorem betC_swap (h : IsSpace d) {i k : Nat} (hi : i < d.length) (hk : k < d.length) : pickN (betC d k i) d.length = pickN (betC d i k) d.length := by
  unfold pickN
  congr 1
  refine List.filter_congr fun j hj => ?_
  rw [List.mem_range] at hj
  simp only [betC]
  have h1 := (h.1.2.2.2 i j hi hj).1
  have h2 := (h.1.2.2.2 k j hk hj).1
  have h3 := (h.1.2.2.2 i k hi hk).1
  rw [decide_eq_decide]
  omega
theorem isRoad_swap (h : IsSpace d) {i k : Nat} (hi : i < d.length) (hk : k < d.length) : isRoad d k i = isRoad d i k := by simp only [isRoad, betC_swap h hi hk]

/-- A pair that no other one is nearer than is a road. -/
theorem road_near (h : IsSpace d) {i k : Nat} (hik : i < k) (hk : k < d.length) (hm : ∀ j, j < d.length → j ≠ i → at2 d i k ≤ at2 d i j) : isRoad d i k = true := by
  rw [road_iff h hik hk]
  intro j hj h1 h2 he
  have a := hm j hj h1
  have b := h.1.2.2.2 j k hj hk
  have : ¬ at2 d j k = 0 := fun e => h2 (b.2.2.2.1 e)
  omega

/-- From v on a way to the first point begins with a road. -/
theorem road_to (h : IsSpace d) {v : Nat} (hv : v < d.length) : ∀ (N : Nat) (c : Nat), c < d.length → c ≠ v → at2 d 0 c + at2 d c v = at2 d 0 v → at2 d c v ≤ N →
    ∃ c, c < d.length ∧ c ≠ v ∧ at2 d 0 c + at2 d c v = at2 d 0 v ∧ ∀ x, x < d.length → x ≠ c → x ≠ v → at2 d c x + at2 d x v ≠ at2 d c v := by
  intro N
  induction N with
  | zero =>
    intro c hc hcv he hN
    have b := h.1.2.2.2 c v hc hv
    exact absurd (b.2.2.2.1 (by omega)) hcv
  | succ N ih =>
    intro c hc hcv he hN
    by_cases hx : ∃ x, x < d.length ∧ x ≠ c ∧ x ≠ v ∧ at2 d c x + at2 d x v = at2 d c v
    · obtain ⟨x, h1, h2, h3, h4⟩ := hx
      have b := h.1.2.2.2 c x hc h1
      have b0 : ¬ at2 d c x = 0 := fun e => h2 (b.2.2.2.1 e).symm
      have h0 := h.1.1
      have t1 := h.2 0 x c (by omega) h1 hc
      have t2 := h.2 0 v x (by omega) hv h1
      exact ih x h1 h3 (by omega) (by omega)
    · exact ⟨c, hc, hcv, he, fun x h1 h2 h3 h4 => hx ⟨x, h1, h2, h3, h4⟩⟩

theorem nodup_le {α : Type} [DecidableEq α] : ∀ (l1 l2 : List α), l1.Nodup → (∀ x ∈ l1, x ∈ l2) → l1.length ≤ l2.length
  | [], _, _, _ => Nat.zero_le _
  | a :: l1, l2, hn, hs => by
    rw [List.nodup_cons] at hn
    have ha := hs a (by simp)
    have ih := nodup_le l1 (l2.erase a) hn.2 (fun x hx => (List.mem_erase_of_ne (fun e => hn.1 (by rw [← e]; exact hx))).2 (hs x (by simp [hx])))
    rw [List.length_erase_of_mem ha] at ih
    have : 0 < l2.length := List.length_pos_of_mem ha
    simp only [List.length_cons]
    omega

theorem roads_many (h : IsSpace d) : d.length - 1 ≤ (roadsT d d.length d.length).length := by
  have h0 := h.1.1
  have key : ∀ v, ∃ c, 1 ≤ v → v < d.length → c < d.length ∧ c ≠ v ∧ at2 d 0 c + at2 d c v = at2 d 0 v ∧ ∀ x, x < d.length → x ≠ c → x ≠ v → at2 d c x + at2 d x v ≠ at2 d c v := by
    intro v
    by_cases hv : 1 ≤ v ∧ v < d.length
    · have z := (h.1.2.2.2 0 0 h0 h0).2.2.2.2 rfl
      have b := h.1.2.2.2 0 v h0 hv.2
      obtain ⟨c, hc⟩ := road_to h hv.2 (at2 d 0 v).toNat 0 h0 (by omega) (by omega) (by omega)
      exact ⟨c, fun _ _ => hc⟩
    · exact ⟨0, fun h1 h2 => absurd ⟨h1, h2⟩ hv⟩
  obtain ⟨p, hp⟩ := Classical.axiomOfChoice key
  have hlen : ((List.range' 1 (d.length - 1)).map fun v => if p v < v then [(p v : Int), (v : Int)] else [(v : Int), (p v : Int)]).length ≤ (roadsT d d.length d.length).length := by
    refine nodup_le _ _ ?_ ?_
    · rw [List.nodup_iff_pairwise_ne, List.pairwise_map]
      refine List.Pairwise.imp_of_mem ?_ (List.nodup_iff_pairwise_ne.1 (List.nodup_range' (step := 1)))
      intro v w hv hw hne he
      rw [List.mem_range'_1] at hv hw
      obtain ⟨a1, a2, a3, a4⟩ := hp v (by omega) (by omega)
      obtain ⟨b1, b2, b3, b4⟩ := hp w (by omega) (by omega)
      have key2 : p v = w ∧ p w = v := by
        split at he <;> split at he <;> simp only [List.cons.injEq, Int.natCast_inj, and_true] at he <;> omega
      obtain ⟨e1, e2⟩ := key2
      rw [e1] at a3
      rw [e2] at b3
      have s := h.1.2.2.2 v w (by omega) (by omega)
      have : ¬ at2 d v w = 0 := fun e => hne (s.2.2.2.1 e)
      omega
    · intro x hx
      rw [List.mem_map] at hx
      obtain ⟨v, hv, rfl⟩ := hx
      rw [List.mem_range'_1] at hv
      obtain ⟨a1, a2, a3, a4⟩ := hp v (by omega) (by omega)
      rw [mem_roadsT]
      split
      · rename_i hlt
        exact ⟨p v, v, a1, hlt, by omega, (road_iff h hlt (by omega)).2 a4, rfl⟩
      · rename_i hlt
        have hlt' : v < p v := by omega
        refine ⟨v, p v, by omega, hlt', a1, (road_iff h hlt' a1).2 fun j hj h1 h2 he => a4 j hj h2 h1 ?_, rfl⟩
        have s1 := (h.1.2.2.2 v j (by omega) hj).1
        have s2 := (h.1.2.2.2 j (p v) hj a1).1
        have s3 := (h.1.2.2.2 v (p v) (by omega) a1).1
        omega
  simpa using hlen

/-- Only roads are as they are. -/
def aloneAt (d : List (List Int)) (i k : Nat) : Int := if i = k ∨ isRoad d i k = true then at2 d i k else 60
def aloneRow (d : List (List Int)) (i : Nat) (n : Nat) : List Int := (List.range n).map fun k => aloneAt d i k
def aloneT (d : List (List Int)) (n : Nat) : List (List Int) := (List.range n).map fun i => aloneRow d i d.length
noncomputable def aloneV (d : List (List Int)) : List (List Int) := if spaceB d then aloneT d d.length else []
theorem aloneV_yes (h : IsSpace d) : aloneV d = aloneT d d.length := by simp [aloneV, spaceB_yes h]
theorem aloneV_no (h : spaceB d = false) : aloneV d = [] := by simp [aloneV, h]
theorem aloneRow_succ {i n : Nat} : aloneRow d i (n + 1) = aloneRow d i n ++ [aloneAt d i n] := by simp [aloneRow, List.range_succ]
theorem aloneRow_len {i n : Nat} : (aloneRow d i n).length = n := by simp [aloneRow]
theorem aloneT_succ {n : Nat} : aloneT d (n + 1) = aloneT d n ++ [aloneRow d n d.length] := by simp [aloneT, List.range_succ]
theorem aloneT_len {n : Nat} : (aloneT d n).length = n := by simp [aloneT]
theorem aloneT_row {n i : Nat} (hi : i < n) : (aloneT d n).getD i [] = aloneRow d i d.length := by simp [aloneT, hi]
theorem aloneT_at {n i k : Nat} (hi : i < n) (hk : k < d.length) : at2 (aloneT d n) i k = aloneAt d i k := by
  unfold at2; rw [aloneT_row hi]; simp [aloneRow, hk]
theorem alone_far (h : IsSpace d) : IsFar (aloneT d d.length) := by
  have hF := h.1
  refine ⟨by rw [aloneT_len]; exact hF.1, by rw [aloneT_len]; exact hF.2.1, fun i hi => ?_, fun i k hi hk => ?_⟩
  · rw [aloneT_len] at hi ⊢; rw [aloneT_row hi, aloneRow_len]
  · rw [aloneT_len] at hi hk
    rw [aloneT_at hi hk, aloneT_at hk hi]
    have s := hF.2.2.2 i k hi hk
    have hr := isRoad_swap h hi hk
    have ec : (k = i) = (i = k) := by simp only [eq_iff_iff]; omega
    unfold aloneAt
    simp only [hr, ec]
    split
    · rename_i hc; exact s
    · rename_i hc
      have hne : i ≠ k := fun e => hc (.inl e)
      refine ⟨rfl, by omega, by omega, ?_⟩
      constructor
      · intro e; omega
      · intro e; exact absurd e hne
theorem alone_short (h : IsSpace d) : shortV (aloneT d d.length) = d := by
  have hA := alone_far h
  have hl := short_len hA
  rw [aloneT_len] at hl
  have hS := short_space hA
  have hsq : ∀ i, i < d.length → ((shortV (aloneT d d.length)).getD i []).length = (d.getD i []).length := fun i hi => by rw [hS.1.2.2.1 i (by omega), hl, h.1.2.2.1 i hi]
  have ge : ∀ i k, i < d.length → k < d.length → at2 d i k ≤ at2 (shortV (aloneT d d.length)) i k := fun i k hi hk => by
    refine short_great hA h (by rw [aloneT_len]) (fun i k hi hk => ?_) (by rw [aloneT_len]; exact hi) (by rw [aloneT_len]; exact hk)
    rw [aloneT_len] at hi hk
    rw [aloneT_at hi hk]
    have s := h.1.2.2.2 i k hi hk
    unfold aloneAt
    split <;> omega
  have le : ∀ (N : Nat) i k, i < d.length → k < d.length → at2 d i k ≤ N → at2 (shortV (aloneT d d.length)) i k ≤ at2 d i k := by
    intro N
    induction N with
    | zero =>
      intro i k hi hk hN
      have s := h.1.2.2.2 i k hi hk
      have e : i = k := s.2.2.2.1 (by omega)
      subst e
      have := (hS.1.2.2.2 i i (by omega) (by omega)).2.2.2.2 rfl
      omega
    | succ N ih =>
      intro i k hi hk hN
      by_cases hr : i = k ∨ isRoad d i k = true
      · have := short_le hA (show i < (aloneT d d.length).length by rw [aloneT_len]; exact hi) (show k < (aloneT d d.length).length by rw [aloneT_len]; exact hk)
        rw [aloneT_at hi hk] at this
        unfold aloneAt at this
        rw [if_pos hr] at this
        exact this
      · have hne : i ≠ k := fun e => hr (.inl e)
        have hnr : ¬ isRoad d i k = true := fun e => hr (.inr e)
        obtain ⟨j, hj, h1, h2, h3⟩ : ∃ j, j < d.length ∧ j ≠ i ∧ j ≠ k ∧ at2 d i j + at2 d j k = at2 d i k := by
          refine Classical.byContradiction fun hno => hnr ?_
          rcases Nat.lt_or_ge i k with hlt | hge
          · exact (road_iff h hlt hk).2 fun j hj h1 h2 h3 => hno ⟨j, hj, h1, h2, h3⟩
          · rw [← isRoad_swap h hi hk]
            refine (road_iff h (by omega) hi).2 fun j hj h1 h2 h3 => hno ⟨j, hj, h2, h1, ?_⟩
            have s1 := (h.1.2.2.2 i j hi hj).1
            have s2 := (h.1.2.2.2 j k hj hk).1
            have s3 := (h.1.2.2.2 i k hi hk).1
            omega
        have s1 := h.1.2.2.2 i j hi hj
        have s2 := h.1.2.2.2 j k hj hk
        have n1 : ¬ at2 d i j = 0 := fun e => h1 (s1.2.2.2.1 e).symm
        have n2 : ¬ at2 d j k = 0 := fun e => h2 (s2.2.2.2.1 e)
        have r1 := ih i j hi hj (by omega)
        have r2 := ih j k hj hk (by omega)
        have t := hS.2 i k j (by omega) (by omega) (by omega)
        omega
  refine at2_ext hl hsq fun i k hi hk => ?_
  rw [h.1.2.2.1 i hi] at hk
  have h1 := ge i k hi hk
  have s := h.1.2.2.2 i k hi hk
  have h2 := le (at2 d i k).toNat i k hi hk (by omega)
  omega
end
end Go.Mill

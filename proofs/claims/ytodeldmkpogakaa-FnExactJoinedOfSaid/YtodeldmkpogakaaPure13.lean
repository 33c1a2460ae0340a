/- Plain: marks; what stays held. -/
import Derived.Test.YtodeldmkpogakaaPure5
import Derived.Test.YtodeldmkpogakaaPure4
import Derived.Test.YtodeldmkpogakaaMillO
namespace Go.Mill
open Go
set_option linter.unusedSimpArgs false
set_option linter.unusedVariables false

/-- n numbers from k on. -/
def markL (k n : Nat) : List Int := (List.range n).map fun i => ((k + i : Nat) : Int)
theorem markL_len {k n : Nat} : (markL k n).length = n := by simp [markL]
theorem markL_get {k n i : Nat} (hi : i < n) : (markL k n).getD i 0 = ((k + i : Nat) : Int) := by simp [markL, hi]
theorem markL_succ {k n : Nat} : markL k (n + 1) = markL k n ++ [((k + n : Nat) : Int)] := by simp [markL, List.range_succ]
theorem mark_step {k i : Nat} {xs : List Int} (hi : i < xs.length) : (markL k i ++ xs.drop i).set i ((k + i : Nat) : Int) = markL k (i + 1) ++ xs.drop (i + 1) := by
  have h1 : xs.drop i = xs[i] :: xs.drop (i + 1) := by rw [List.drop_eq_getElem_cons hi]
  rw [h1, List.set_append_right _ _ (by rw [markL_len]; exact Nat.le_refl _), markL_len, Nat.sub_self, markL_succ, List.append_assoc]
  rfl
/-- How many numbers the first rows have. -/
def tot (d : List (List Int)) : Nat → Nat
  | 0 => 0
  | j + 1 => tot d j + (d.getD j []).length
theorem tot_le {d : List (List Int)} {M : Nat} (h : ∀ j, j < d.length → (d.getD j []).length ≤ M) : ∀ j, j ≤ d.length → tot d j ≤ j * M
  | 0, _ => by simp [tot]
  | j + 1, hj => by
    have := tot_le h j (by omega)
    have := h j (by omega)
    simp only [tot, Nat.add_mul, Nat.one_mul]
    omega
theorem tot_mono {d : List (List Int)} {i : Nat} : ∀ {j : Nat}, i ≤ j → tot d i ≤ tot d j
  | 0, h => by obtain rfl : i = 0 := by omega
               exact Nat.le_refl _
  | j + 1, h => by
    rcases Nat.lt_or_ge i (j + 1) with h1 | h1
    · have := tot_mono (d := d) (show i ≤ j by omega); simp only [tot]; omega
    · obtain rfl : i = j + 1 := by omega
      exact Nat.le_refl _
def markTo (k : Nat) (d : List (List Int)) (j : Nat) : List (List Int) := (List.range d.length).map fun i => if i < j then markL (k + tot d i) (d.getD i []).length else d.getD i []
def markT (k : Nat) (d : List (List Int)) : List (List Int) := markTo k d d.length
section
variable {k j : Nat} {d : List (List Int)}
theorem markTo_len : (markTo k d j).length = d.length := by simp [markTo]
theorem markTo_row {i : Nat} (hi : i < d.length) : (markTo k d j).getD i [] = if i < j then markL (k + tot d i) (d.getD i []).length else d.getD i [] := by simp [markTo, hi]
theorem markTo_rowlen {i : Nat} (hi : i < d.length) : ((markTo k d j).getD i []).length = (d.getD i []).length := by
  rw [markTo_row hi]; split
  · rw [markL_len]
  · rfl
theorem markTo_zero : markTo k d 0 = d := by
  refine eq_of_getD2 markTo_len fun i hi => ?_
  rw [markTo_len] at hi
  rw [markTo_row hi, if_neg (Nat.not_lt_zero _)]
theorem markTo_succ (hj : j < d.length) : markTo k d (j + 1) = (markTo k d j).set j (markL (k + tot d j) (d.getD j []).length) := by
  refine eq_of_getD2 (by rw [List.length_set, markTo_len, markTo_len]) fun i hi => ?_
  rw [markTo_len] at hi
  rw [getD_set (by rw [markTo_len]; exact hj), markTo_row hi, markTo_row hi]
  by_cases h : i = j
  · subst h; rw [if_pos rfl, if_pos (by omega)]
  · rw [if_neg h]
    by_cases h2 : i < j
    · rw [if_pos h2, if_pos (by omega)]
    · rw [if_neg h2, if_neg (by omega)]
theorem markT_len : (markT k d).length = d.length := markTo_len
theorem markT_row {i : Nat} (hi : i < d.length) : (markT k d).getD i [] = markL (k + tot d i) (d.getD i []).length := by
  unfold markT; rw [markTo_row hi, if_pos hi]
end

/-- What lay in Sw from b on is there still. -/
structure Held (b : Nat) (Sw S : Store) : Prop where
  len : Sw.length ≤ S.length
  keep : ∀ q, b ≤ q → q < Sw.length → S[q]? = Sw[q]?
section
variable {b : Nat} {Sw S S' : Store}
theorem Held.refl (b : Nat) (S : Store) : Held b S S := ⟨Nat.le_refl _, fun _ _ _ => rfl⟩
theorem Held.pre (h : Held b Sw S) (P : Pre S.length S S') : Held b Sw S' := ⟨Nat.le_trans h.len P.len, fun q h1 h2 => by rw [P.low q (Nat.lt_of_lt_of_le h2 h.len), h.keep q h1 h2]⟩
theorem Held.app (h : Held b Sw S) (T : Store) : Held b Sw (S ++ T) := h.pre ((Pre.refl _ S).app (Nat.le_refl _) T)
theorem Held.ext (h : Held 0 Sw S) : Ext Sw S := Pre.ext ⟨h.len, fun q hq => h.keep q (Nat.zero_le _) hq⟩
theorem Held.mark {bx lx : Nat} (h : Held b Sw S) (hl : S'.length = S.length) (hk : ∀ q, q < bx ∨ lx ≤ q → S'[q]? = S[q]?) (hd : Sw.length ≤ bx ∨ lx ≤ b) : Held b Sw S' :=
  ⟨by rw [hl]; exact h.len, fun q h1 h2 => by rw [hk q (by omega), h.keep q h1 h2]⟩
theorem MineT.held {v : Value} {d : List (List Int)} (h : MineT b Sw v d) (H : Held b Sw S) : MineT b S v d := h.keep H.keep
theorem Mine.held {v : Value} {xs : List Int} (h : Mine b Sw v xs) (H : Held b Sw S) : Mine b S v xs := by
  rcases h with h | ⟨t, h⟩
  · exact .inl h
  · exact .inr ⟨t, h.keep (H.keep t h.bt (own_lt h.own))⟩
end
theorem OT.setRow {b : Nat} {S S' : Store} {v : Value} {t : Nat} {g : Nat → Nat} {d : List (List Int)} (h : OT b S v t g d) {i : Nat} (hi : i < d.length) {xs : List Int} (hx : xs.length = (d.getD i []).length) (h1 : S'[g i]? = some (.own (ints xs))) (h2 : ∀ q, q ≠ g i → S'[q]? = S[q]?) : OT b S' v t g (d.set i xs) where
  top := by rw [List.length_set]; exact h.top
  bt := h.bt
  own := by
    rw [h2 t (Ne.symm (h.ne i hi)), h.own, List.length_set]
    congr 2
    refine List.map_congr_left fun j hj => ?_
    rw [List.mem_range] at hj
    rw [getD_set hi]
    split
    · rename_i e; subst e; rw [hx]
    · rfl
  bg := fun j hj => h.bg j (by rwa [List.length_set] at hj)
  ne := fun j hj => h.ne j (by rwa [List.length_set] at hj)
  inj := fun j k hj hk => h.inj j k (by rwa [List.length_set] at hj) (by rwa [List.length_set] at hk)
  row := fun j hj => by
    rw [List.length_set] at hj
    rw [getD_set hi]
    split
    · rename_i e; subst e; exact h1
    · rename_i e; rw [h2 _ (fun e2 => e (h.inj j i hj hi e2))]; exact h.row j hj
/-- A copy is a table of one's own. -/
theorem clone_ot {S : Store} {d : List (List Int)} : OT S.length (S ++ cloneOf S.length d) (mk S.length d.length) S.length (fun j => S.length + 1 + j) d :=
  ⟨rfl, Nat.le_refl _, clone_top, fun j _ => by omega, fun j _ => by omega, fun j k _ _ h => by omega, fun j hj => clone_row hj⟩
theorem copy_ol {S : Store} {xs : List Int} : OL S.length (S ++ [.own (ints xs)]) (mk S.length xs.length) S.length xs := ⟨rfl, Nat.le_refl _, own_last⟩
end Go.Mill

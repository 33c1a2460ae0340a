/- The mill, part K: memory of one's own. -/
import Derived.Test.YtodeldmkpogakaaMillJ
namespace Go.Mill
open Go Go.RowKit
set_option linter.unusedSimpArgs false
set_option linter.unusedVariables false

theorem slen_mk {h n : Nat} : slen (mk h n) = n := nd rfl
theorem isSl_mk {h n : Nat} : isSl (mk h n) = true := nd rfl
theorem atomB_mk {h n : Nat} : atomB (mk h n) = true := nd rfl
theorem atomB_int {k : IntKind} {x : Int} : atomB (.int k x) = true := nd rfl
theorem atomB_nil : atomB (.slice none 0 0) = true := nd rfl
theorem slen_nil : slen (.slice none 0 0) = 0 := nd rfl
theorem isSl_nil : isSl (.slice none 0 0) = true := nd rfl
theorem eptr_mk {h n i : Nat} : eptr (mk h n) i = .pointer (some ⟨h, 0 + i, none⟩) := rfl

section
variable {S T : Store} {h n i : Nat} {cs : List Value} {v : Value} {ob : Ob}
theorem st_own (hS : S[h]? = some (.own cs)) (hi : i < cs.length) : st S (eptr (mk h n) i) v = some (S.set h (.own (cs.set i v))) := by
  simp [eptr_mk, st, hS, hi]
theorem ld_own (hS : S[h]? = some (.own cs)) : ld S (eptr (mk h n) i) = cs[i]? := by
  simp [eptr_mk, ld, cell, hS, Ob.cells]
theorem rd_own (hS : S[h]? = some (.own cs)) (hn : n = cs.length) : rd S (mk h n) = some cs := by
  subst hn; simp [mk, rd, hS, Ob.cells]
theorem own_app (hS : S[h]? = some ob) : (S ++ T)[h]? = some ob := by
  rw [List.getElem?_append_left (List.getElem?_eq_some_iff.1 hS).1]; exact hS
theorem own_new : (S ++ ob :: T)[S.length]? = some ob := by simp
theorem own_last : (S ++ [ob])[S.length]? = some ob := by simp
theorem own_set (hh : h < S.length) : (S.set h ob)[h]? = some ob := by simp [hh]
theorem own_lt (hS : S[h]? = some ob) : h < S.length := (List.getElem?_eq_some_iff.1 hS).1
theorem own_set_ne {g : Nat} {ob' : Ob} (hS : S[g]? = some ob) (hg : g ≠ h) : (S.set h ob')[g]? = some ob := by
  rw [List.getElem?_set_ne (Ne.symm hg)]; exact hS
theorem st_last (hi : i < cs.length) : st (S ++ [.own cs]) (eptr (mk S.length n) i) v = some (S ++ [.own (cs.set i v)]) := by
  rw [st_own own_last hi]; simp [List.set_append]
theorem st_mid (hi : i < cs.length) : st (S ++ .own cs :: T) (eptr (mk S.length n) i) v = some (S ++ .own (cs.set i v) :: T) := by
  rw [st_own own_new hi]; simp [List.set_append]
theorem app_own {x : Value} {ys : List Value} (hS : S[h]? = some (.own cs)) (hn : n = cs.length) (hx : rd S x = some ys) : app S (mk h n) x = some (mk S.length (cs.length + ys.length), S.set h .dead ++ [.own (cs ++ ys)]) := by
  subst hn; simp [app, hx, mk, hS]
theorem app_nil {x : Value} {y : Value} {ys : List Value} (hx : rd S x = some (y :: ys)) : app S (.slice none 0 0) x = some (mk S.length (ys.length + 1), S ++ [.own (y :: ys)]) := by
  simp [app, hx]
end
theorem makeK_nat {P : Program} {t : TypeId} {k : IntKind} {n : Nat} {S : Store} {K : Value → Store → Prop} (h : n ≤ 1099511627776) : makeK P t (.int k (n : Int)) S K = optK (zeroOf P t) fun z => K (mk S.length n) (S ++ [.own (List.replicate n z)]) := by
  rw [makeK_int]
  have : (0 ≤ (n : Int) ∧ (n : Int) ≤ 1099511627776) = True := by simp only [eq_iff_iff, iff_true]; omega
  simp only [this, andK_true, Int.toNat_natCast]
theorem ixK_zero {v : Value} {k : IntKind} {kp : Value → Prop} (h : 0 < slen v) : ixK v (.int k 0) kp = kp (eptr v 0) := by
  simp [ixK_int, andK]; intro _; exact h
theorem length_append_cons {S : Store} {ob : Ob} {T : Store} : (S ++ ob :: T).length = S.length + 1 + T.length := by simp; omega
attribute [go_sem] slen_mk isSl_mk atomB_mk atomB_int atomB_nil slen_nil isSl_nil

/-! ### Numbers and tables that are one's own -/
theorem Ints.last {S : Store} {xs : List Int} : Ints (S ++ [.own (ints xs)]) (mk S.length xs.length) xs := rd_own own_last (by simp [ints])
theorem Ints.own {S : Store} {h n : Nat} {xs : List Int} (hS : S[h]? = some (.own (ints xs))) (hn : n = xs.length) : Ints S (mk h n) xs := rd_own hS (by simp [ints, hn])

theorem ints_set {xs : List Int} {i n : Nat} (hn : n = xs.length) (hi : i < n) : (ints (xs.take i) ++ List.replicate (n - i) (Value.int .i64 0)).set i (.int .i64 (xs.getD i 0)) = ints (xs.take (i + 1)) ++ List.replicate (n - (i + 1)) (.int .i64 0) := by
  subst hn
  have hr : List.replicate (xs.length - i) (Value.int .i64 0) = .int .i64 0 :: List.replicate (xs.length - (i + 1)) (.int .i64 0) := by
    rw [← List.replicate_succ]; congr 1; omega
  rw [hr, List.set_append_right _ _ (by simp [ints]; omega)]
  have : i - (ints (xs.take i)).length = 0 := by simp [ints]; omega
  have hx : xs.getD i 0 = xs[i] := by simp [List.getElem?_eq_getElem hi]
  have ht : ints (xs.take (i + 1)) = ints (xs.take i) ++ [.int .i64 xs[i]] := by
    simp only [ints, List.take_add_one, List.getElem?_eq_getElem hi, Option.toList_some, List.map_append, List.map_cons, List.map_nil]
  rw [this, ht, hx, List.append_assoc]
  rfl

/-- The memory of a copy of a table: its top, then its rows, from handle b on. -/
def cloneRow (b : Nat) (d : List (List Int)) (j : Nat) : Value := mk (b + 1 + j) (d.getD j []).length
def cloneOf (b : Nat) (d : List (List Int)) : List Ob := .own ((List.range d.length).map (cloneRow b d)) :: d.map fun row => .own (ints row)
def cloneTo (b : Nat) (d : List (List Int)) (i : Nat) : List Ob :=
  .own ((List.range i).map (cloneRow b d) ++ List.replicate (d.length - i) (.slice none 0 0)) :: (d.take i).map fun row => .own (ints row)
theorem cloneTo_end {b : Nat} {d : List (List Int)} : cloneTo b d d.length = cloneOf b d := by simp [cloneTo, cloneOf]
theorem cloneTo_len {b : Nat} {d : List (List Int)} {i : Nat} (h : i ≤ d.length) : (cloneTo b d i).length = 1 + i := by simp [cloneTo]; omega
theorem cloneOf_len {b : Nat} {d : List (List Int)} : (cloneOf b d).length = 1 + d.length := by simp [cloneOf]; omega
theorem clone_top {S : Store} {d : List (List Int)} : (S ++ cloneOf S.length d)[S.length]? = some (.own ((List.range d.length).map (cloneRow S.length d))) := own_new
theorem clone_row {S : Store} {d : List (List Int)} {j : Nat} (hj : j < d.length) : (S ++ cloneOf S.length d)[S.length + 1 + j]? = some (.own (ints (d.getD j []))) := by
  rw [List.getElem?_append_right (by omega)]
  have : S.length + 1 + j - S.length = j + 1 := by omega
  rw [this]
  simp [cloneOf, List.getElem?_eq_getElem hj]
theorem clone_mat {S : Store} {d : List (List Int)} : Mat (S ++ cloneOf S.length d) (mk S.length d.length) (cloneRow S.length d) d :=
  ⟨rd_own clone_top (by simp), fun _ hi => Ints.own (clone_row hi) rfl⟩
theorem clone_step {S : Store} {d : List (List Int)} {i : Nat} (hi : i < d.length) :
    st ((S ++ cloneTo S.length d i) ++ [.own (ints (d.getD i []))]) (eptr (mk S.length d.length) i) (mk (S ++ cloneTo S.length d i).length (d.getD i []).length) = some (S ++ cloneTo S.length d (i + 1)) := by
  have hl : (S ++ cloneTo S.length d i).length = S.length + 1 + i := by rw [List.length_append, cloneTo_len (by omega)]; omega
  rw [hl, List.append_assoc]
  unfold cloneTo
  rw [List.cons_append, st_mid (by simp; omega)]
  congr 2
  have hr : List.replicate (d.length - i) (Value.slice none 0 0) = .slice none 0 0 :: List.replicate (d.length - (i + 1)) (.slice none 0 0) := by
    rw [← List.replicate_succ]; congr 1; omega
  congr 1
  · congr 1
    rw [hr, List.set_append_right _ _ (by simp)]
    simp [List.range_succ, cloneRow]
  · rw [List.take_add_one, List.map_append, List.getElem?_eq_getElem hi]
    simp [List.getElem?_eq_getElem hi]

theorem eq_of_getD {xs ys : List Int} (hl : xs.length = ys.length) (h : ∀ j, j < xs.length → xs.getD j 0 = ys.getD j 0) : xs = ys := by
  refine List.ext_getElem hl fun j h1 h2 => ?_
  have := h j h1
  simpa [List.getElem?_eq_getElem h1, List.getElem?_eq_getElem h2] using this
theorem eq_of_getD2 {xs ys : List (List Int)} (hl : xs.length = ys.length) (h : ∀ j, j < xs.length → xs.getD j [] = ys.getD j []) : xs = ys := by
  refine List.ext_getElem hl fun j h1 h2 => ?_
  have := h j h1
  simpa [List.getElem?_eq_getElem h1, List.getElem?_eq_getElem h2] using this
end Go.Mill

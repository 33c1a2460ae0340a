/- Contracts of the exact laws of part 4. -/
import Derived.Test.YtklaeofcpfggnaaW5
import Derived.Test.YtklaeofcpfggnaaW2
namespace Go.Proofs.Ytklaeofcpfggnaa
open Go Go.Mill
set_option maxRecDepth 100000
set_option linter.unusedSimpArgs false
set_option linter.unusedVariables false

theorem FnExactRadiusOf_c (S : Store) (v : Value) (r : Nat → Value) (d : List (List Int)) (hM : Mat S v r d) (hd : d.length ≤ maxLen) (hr : ∀ j, (d.getD j []).length ≤ maxLen) : ACalls Try.prog 14 [v] S fun u _ => u = .bool true := by
  refine ACalls.intro (ts := [2]) 49 follows Try.func14 rfl (by kernel_rfl) (by kernel_rfl) (by simp) ?_
  simp only [go_sem, ↓reduceIte, Nat.reduceEqDiff, argEnv]
  refine callK.intro (by kernel_rfl) (szIntSS_c _ _ _ _ hM hd (fun i _ => hr i) 1048576 (by omega) (by omega)) ?_
  rintro _ _ ⟨⟨y, rfl, hy1, hy2⟩, rfl⟩
  simp only [go_sem, ↓reduceIte, Nat.reduceEqDiff]
  refine condK_dec (fun p h => ?_) (fun p h => ?_)
  · simp only [go_sem, ↓reduceIte, Nat.reduceEqDiff]
  simp only [go_sem, ↓reduceIte, Nat.reduceEqDiff]
  have hy := hy2 (by omega)
  have hd1 : d.length ≤ 1099511627776 := by omega
  have hr1 : ∀ i, i < d.length → (d.getD i []).length ≤ 1099511627776 := fun i hi => by have := hy.2 i hi; omega
  refine callK.intro (by kernel_rfl) (toIntSS_c _ _ _ _ hM hd1 hr1) ?_
  rintro _ _ ⟨rfl, rfl⟩
  simp only [go_sem, ↓reduceIte, Nat.reduceEqDiff]
  have c1 := @clone_mat S d
  replace hM := hM.ext (Ext.append S (cloneOf S.length d))
  generalize hS1 : S ++ cloneOf (List.length S) d = S1 at hM c1 ⊢
  refine callK.intro (by kernel_rfl) (sRadiusOf_c _ _ _ _ c1 hd) ?_
  rintro _ _ ⟨rfl, rfl⟩
  simp only [go_sem, ↓reduceIte, Nat.reduceEqDiff]
  refine callK.intro (by kernel_rfl) (toIntSS_c _ _ _ _ hM hd1 hr1) ?_
  rintro _ _ ⟨rfl, rfl⟩
  simp only [go_sem, ↓reduceIte, Nat.reduceEqDiff]
  have c2 := @clone_mat S1 d
  replace hM := hM.ext (Ext.append S1 (cloneOf S1.length d))
  generalize hS2 : S1 ++ cloneOf (List.length S1) d = S2 at hM c2 ⊢
  refine callK.intro (by kernel_rfl) (iRadiusOf_c _ _ _ _ c2 hd) ?_
  rintro _ _ ⟨rfl, rfl⟩
  simp only [go_sem, ↓reduceIte, Nat.reduceEqDiff]
  try simp only [go_sem, ↓reduceIte, Nat.reduceEqDiff, decide_true, decide_false, not_true_eq_false, bne_self_eq_false, Try.underlying4]
  refine callK.intro (by kernel_rfl) (toIntSS_c _ _ _ _ hM hd1 hr1) ?_
  rintro _ _ ⟨rfl, rfl⟩
  simp only [go_sem, ↓reduceIte, Nat.reduceEqDiff]
  have c3 := @clone_mat S2 d
  replace hM := hM.ext (Ext.append S2 (cloneOf S2.length d))
  replace c2 := c2.ext (Ext.append S2 (cloneOf S2.length d))
  generalize hS3 : S2 ++ cloneOf (List.length S2) d = S3 at hM c2 c3 ⊢
  refine callK.intro (by kernel_rfl) (eqIntSS_c _ _ _ _ _ _ _ c2 c3 hd (fun i _ => hr i)) ?_
  rintro _ _ ⟨rfl, rfl⟩
  simp only [go_sem, ↓reduceIte, Nat.reduceEqDiff, decide_true]


theorem FnExactLegOf_c (S : Store) (v : Value) (r : Nat → Value) (d : List (List Int)) (hM : Mat S v r d) (hd : d.length ≤ maxLen) (hr : ∀ j, (d.getD j []).length ≤ maxLen) (x1 : Int) (hx1 : -9223372036854775808 ≤ x1 ∧ x1 ≤ 9223372036854775807) : ACalls Try.prog 13 [v, .int .i64 x1] S fun u _ => u = .bool true := by
  refine ACalls.intro (ts := [4]) 31 follows Try.func13 rfl (by kernel_rfl) (by kernel_rfl) (by simp) ?_
  simp only [go_sem, ↓reduceIte, Nat.reduceEqDiff, argEnv]
  refine callK.intro (by kernel_rfl) (szIntSS_c _ _ _ _ hM hd (fun i _ => hr i) 1048576 (by omega) (by omega)) ?_
  rintro _ _ ⟨⟨y, rfl, hy1, hy2⟩, rfl⟩
  simp only [go_sem, ↓reduceIte, Nat.reduceEqDiff]
  refine condK_dec (fun p h => ?_) (fun p h => ?_)
  · simp only [go_sem, ↓reduceIte, Nat.reduceEqDiff]
  simp only [go_sem, ↓reduceIte, Nat.reduceEqDiff]
  have hy := hy2 (by omega)
  have hd1 : d.length ≤ 1099511627776 := by omega
  have hr1 : ∀ i, i < d.length → (d.getD i []).length ≤ 1099511627776 := fun i hi => by have := hy.2 i hi; omega
  refine callK.intro (by kernel_rfl) (toIntSS_c _ _ _ _ hM hd1 hr1) ?_
  rintro _ _ ⟨rfl, rfl⟩
  simp only [go_sem, ↓reduceIte, Nat.reduceEqDiff]
  have c1 := @clone_mat S d
  replace hM := hM.ext (Ext.append S (cloneOf S.length d))
  generalize hS1 : S ++ cloneOf (List.length S) d = S1 at hM c1 ⊢
  refine callK.intro (by kernel_rfl) (sLegOf_c _ _ _ _ c1 hd x1 hx1) ?_
  rintro _ _ ⟨rfl, rfl⟩
  simp only [go_sem, ↓reduceIte, Nat.reduceEqDiff]
  refine callK.intro (by kernel_rfl) (toIntSS_c _ _ _ _ hM hd1 hr1) ?_
  rintro _ _ ⟨rfl, rfl⟩
  simp only [go_sem, ↓reduceIte, Nat.reduceEqDiff]
  have c2 := @clone_mat S1 d
  replace hM := hM.ext (Ext.append S1 (cloneOf S1.length d))
  generalize hS2 : S1 ++ cloneOf (List.length S1) d = S2 at hM c2 ⊢
  refine callK.intro (by kernel_rfl) (iLegOf_c _ _ _ _ c2 hd x1 hx1) ?_
  rintro _ _ ⟨rfl, rfl⟩
  simp only [go_sem, ↓reduceIte, Nat.reduceEqDiff]
  try simp only [go_sem, ↓reduceIte, Nat.reduceEqDiff, decide_true, decide_false, not_true_eq_false, bne_self_eq_false, Try.underlying4]
  refine callK.intro (by kernel_rfl) (toIntSS_c _ _ _ _ hM hd1 hr1) ?_
  rintro _ _ ⟨rfl, rfl⟩
  simp only [go_sem, ↓reduceIte, Nat.reduceEqDiff]
  have c3 := @clone_mat S2 d
  replace hM := hM.ext (Ext.append S2 (cloneOf S2.length d))
  replace c2 := c2.ext (Ext.append S2 (cloneOf S2.length d))
  generalize hS3 : S2 ++ cloneOf (List.length S2) d = S3 at hM c2 c3 ⊢
  refine callK.intro (by kernel_rfl) (eqIntSS_c _ _ _ _ _ _ _ c2 c3 hd (fun i _ => hr i)) ?_
  rintro _ _ ⟨rfl, rfl⟩
  simp only [go_sem, ↓reduceIte, Nat.reduceEqDiff, decide_true]

end Go.Proofs.Ytklaeofcpfggnaa

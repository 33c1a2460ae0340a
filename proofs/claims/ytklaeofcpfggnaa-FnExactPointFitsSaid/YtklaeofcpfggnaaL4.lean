/- Contracts of the exact laws of part 3. -/
import Derived.Test.YtklaeofcpfggnaaW4
import Derived.Test.YtklaeofcpfggnaaW2
namespace Go.Proofs.Ytklaeofcpfggnaa
open Go Go.Mill
set_option maxRecDepth 100000
set_option linter.unusedSimpArgs false
set_option linter.unusedVariables false

theorem FnExactUltraOk_c (S : Store) (v : Value) (r : Nat → Value) (d : List (List Int)) (hM : Mat S v r d) (hd : d.length ≤ maxLen) (hr : ∀ j, (d.getD j []).length ≤ maxLen) : ACalls Try.prog 9 [v] S fun u _ => u = .bool true := by
  refine ACalls.intro (ts := [2]) 27 follows Try.func9 rfl (by kernel_rfl) (by kernel_rfl) (by simp) ?_
  simp only [go_sem, ↓reduceIte, Nat.reduceEqDiff, argEnv]
  refine callK.intro (by kernel_rfl) (szIntSS_c _ _ _ _ hM hd (fun i _ => hr i) 1048576 (by omega) (by omega)) ?_
  rintro _ _ ⟨⟨y, rfl, hy1, hy2⟩, rfl⟩
  simp only [go_sem, ↓reduceIte, Nat.reduceEqDiff]
  refine condK_dec (fun p h => ?_) (fun p h => ?_)
  · simp only [go_sem, ↓reduceIte, Nat.reduceEqDiff]
  simp only [go_sem, ↓reduceIte, Nat.reduceEqDiff]
  have hy := hy2 (by omega)
  have hd1 : d.length ≤ 1099511627776 := by omega
  have hr1 : ∀ i, i < d.length → (d.getD i []).length ≤ 1099511627776 := fun i hi => by have := hy.2 i hi; omega
  refine callK.intro (by kernel_rfl) (toIntSS_c _ _ _ _ hM hd1 hr1) ?_
  rintro _ _ ⟨rfl, rfl⟩
  simp only [go_sem, ↓reduceIte, Nat.reduceEqDiff]
  have c1 := @clone_mat S d
  replace hM := hM.ext (Ext.append S (cloneOf S.length d))
  generalize hS1 : S ++ cloneOf (List.length S) d = S1 at hM c1 ⊢
  refine callK.intro (by kernel_rfl) (sUltraOk_c _ _ _ _ c1 hd) ?_
  rintro _ _ ⟨rfl, rfl⟩
  simp only [go_sem, ↓reduceIte, Nat.reduceEqDiff]
  refine callK.intro (by kernel_rfl) (toIntSS_c _ _ _ _ hM hd1 hr1) ?_
  rintro _ _ ⟨rfl, rfl⟩
  simp only [go_sem, ↓reduceIte, Nat.reduceEqDiff]
  have c2 := @clone_mat S1 d
  replace hM := hM.ext (Ext.append S1 (cloneOf S1.length d))
  generalize hS2 : S1 ++ cloneOf (List.length S1) d = S2 at hM c2 ⊢
  refine callK.intro (by kernel_rfl) (iUltraOk_c _ _ _ _ c2 hd) ?_
  rintro _ _ ⟨rfl, rfl⟩
  simp only [go_sem, ↓reduceIte, Nat.reduceEqDiff]
  try simp only [go_sem, ↓reduceIte, Nat.reduceEqDiff, decide_true, decide_false, not_true_eq_false, bne_self_eq_false, Try.underlying4]
  refine callK.intro (by kernel_rfl) (toIntSS_c _ _ _ _ hM hd1 hr1) ?_
  rintro _ _ ⟨rfl, rfl⟩
  simp only [go_sem, ↓reduceIte, Nat.reduceEqDiff]
  have c3 := @clone_mat S2 d
  replace hM := hM.ext (Ext.append S2 (cloneOf S2.length d))
  replace c2 := c2.ext (Ext.append S2 (cloneOf S2.length d))
  generalize hS3 : S2 ++ cloneOf (List.length S2) d = S3 at hM c2 c3 ⊢
  refine callK.intro (by kernel_rfl) (eqIntSS_c _ _ _ _ _ _ _ c2 c3 hd (fun i _ => hr i)) ?_
  rintro _ _ ⟨rfl, rfl⟩
  simp only [go_sem, ↓reduceIte, Nat.reduceEqDiff, decide_true]


theorem FnExactTogetherFrom_c (S : Store) (v : Value) (r : Nat → Value) (d : List (List Int)) (hM : Mat S v r d) (hd : d.length ≤ maxLen) (hr : ∀ j, (d.getD j []).length ≤ maxLen) (x1 : Int) (hx1 : -9223372036854775808 ≤ x1 ∧ x1 ≤ 9223372036854775807) (x2 : Int) (hx2 : -9223372036854775808 ≤ x2 ∧ x2 ≤ 9223372036854775807) (x3 : Int) (hx3 : -9223372036854775808 ≤ x3 ∧ x3 ≤ 9223372036854775807) : ACalls Try.prog 8 [v, .int .i64 x1, .int .i64 x2, .int .i64 x3] S fun u _ => u = .bool true := by
  refine ACalls.intro (ts := [8]) 39 follows Try.func8 rfl (by kernel_rfl) (by kernel_rfl) (by simp) ?_
  simp only [go_sem, ↓reduceIte, Nat.reduceEqDiff, argEnv]
  refine callK.intro (by kernel_rfl) (szIntSS_c _ _ _ _ hM hd (fun i _ => hr i) 1048576 (by omega) (by omega)) ?_
  rintro _ _ ⟨⟨y, rfl, hy1, hy2⟩, rfl⟩
  simp only [go_sem, ↓reduceIte, Nat.reduceEqDiff]
  refine condK_dec (fun p h => ?_) (fun p h => ?_)
  · simp only [go_sem, ↓reduceIte, Nat.reduceEqDiff]
  simp only [go_sem, ↓reduceIte, Nat.reduceEqDiff]
  have hy := hy2 (by omega)
  have hd1 : d.length ≤ 1099511627776 := by omega
  have hr1 : ∀ i, i < d.length → (d.getD i []).length ≤ 1099511627776 := fun i hi => by have := hy.2 i hi; omega
  refine callK.intro (by kernel_rfl) (toIntSS_c _ _ _ _ hM hd1 hr1) ?_
  rintro _ _ ⟨rfl, rfl⟩
  simp only [go_sem, ↓reduceIte, Nat.reduceEqDiff]
  have c1 := @clone_mat S d
  replace hM := hM.ext (Ext.append S (cloneOf S.length d))
  generalize hS1 : S ++ cloneOf (List.length S) d = S1 at hM c1 ⊢
  refine callK.intro (by kernel_rfl) (sTogetherFrom_c _ _ _ _ c1 hd x1 hx1 x2 hx2 x3 hx3) ?_
  rintro _ _ ⟨rfl, rfl⟩
  simp only [go_sem, ↓reduceIte, Nat.reduceEqDiff]
  refine callK.intro (by kernel_rfl) (toIntSS_c _ _ _ _ hM hd1 hr1) ?_
  rintro _ _ ⟨rfl, rfl⟩
  simp only [go_sem, ↓reduceIte, Nat.reduceEqDiff]
  have c2 := @clone_mat S1 d
  replace hM := hM.ext (Ext.append S1 (cloneOf S1.length d))
  generalize hS2 : S1 ++ cloneOf (List.length S1) d = S2 at hM c2 ⊢
  refine callK.intro (by kernel_rfl) (iTogetherFrom_c _ _ _ _ c2 hd x1 hx1 x2 hx2 x3 hx3) ?_
  rintro _ T ⟨rfl, hE⟩
  replace hM := hM.ext hE
  replace c2 := c2.ext hE
  clear hE
  simp only [go_sem, ↓reduceIte, Nat.reduceEqDiff]
  try simp only [go_sem, ↓reduceIte, Nat.reduceEqDiff, decide_true, decide_false, not_true_eq_false, bne_self_eq_false, Try.underlying4]
  refine callK.intro (by kernel_rfl) (toIntSS_c _ _ _ _ hM hd1 hr1) ?_
  rintro _ _ ⟨rfl, rfl⟩
  simp only [go_sem, ↓reduceIte, Nat.reduceEqDiff]
  have c3 := @clone_mat T d
  replace hM := hM.ext (Ext.append T (cloneOf T.length d))
  replace c2 := c2.ext (Ext.append T (cloneOf T.length d))
  generalize hS3 : T ++ cloneOf (List.length T) d = S3 at hM c2 c3 ⊢
  refine callK.intro (by kernel_rfl) (eqIntSS_c _ _ _ _ _ _ _ c2 c3 hd (fun i _ => hr i)) ?_
  rintro _ _ ⟨rfl, rfl⟩
  simp only [go_sem, ↓reduceIte, Nat.reduceEqDiff, decide_true]


theorem FnExactPointFits_c (S : Store) (v : Value) (r : Nat → Value) (d : List (List Int)) (hM : Mat S v r d) (hd : d.length ≤ maxLen) (hr : ∀ j, (d.getD j []).length ≤ maxLen) (vf : Value) (xs : List Int) (hI : rd S vf = some (xs.map (.int .i64))) (hx : xs.length ≤ maxLen) : ACalls Try.prog 11 [v, vf] S fun u _ => u = .bool true := by
  refine ACalls.intro (ts := [4]) 43 follows Try.func11 rfl (by kernel_rfl) (by kernel_rfl) (by simp) ?_
  replace hI : Ints S vf xs := hI
  have hsl := hI.sl
  have hlen := hI.len
  simp only [go_sem, ↓reduceIte, Nat.reduceEqDiff, argEnv, hsl, hlen]
  refine condK_dec (fun p h => ?_) (fun p h => ?_)
  · simp only [go_sem, ↓reduceIte, Nat.reduceEqDiff]
  have hx1 : xs.length ≤ 1099511627776 := by omega
  simp only [go_sem, ↓reduceIte, Nat.reduceEqDiff]
  refine callK.intro (by kernel_rfl) (szIntSS_c _ _ _ _ hM hd (fun i _ => hr i) 1048576 (by omega) (by omega)) ?_
  rintro _ _ ⟨⟨y, rfl, hy1, hy2⟩, rfl⟩
  simp only [go_sem, ↓reduceIte, Nat.reduceEqDiff]
  refine condK_dec (fun p h => ?_) (fun p h => ?_)
  · simp only [go_sem, ↓reduceIte, Nat.reduceEqDiff]
  simp only [go_sem, ↓reduceIte, Nat.reduceEqDiff]
  have hy := hy2 (by omega)
  have hd1 : d.length ≤ 1099511627776 := by omega
  have hr1 : ∀ i, i < d.length → (d.getD i []).length ≤ 1099511627776 := fun i hi => by have := hy.2 i hi; omega
  refine callK.intro (by kernel_rfl) (toIntSS_c _ _ _ _ hM hd1 hr1) ?_
  rintro _ _ ⟨rfl, rfl⟩
  simp only [go_sem, ↓reduceIte, Nat.reduceEqDiff]
  have c1 := @clone_mat S d
  replace hM := hM.ext (Ext.append S (cloneOf S.length d))
  replace hI := hI.ext (Ext.append S (cloneOf S.length d))
  generalize hS1 : S ++ cloneOf (List.length S) d = S1 at hM hI c1 ⊢
  refine callK.intro (by kernel_rfl) (toIntS_c _ _ _ hI hx1) ?_
  rintro _ _ ⟨rfl, rfl⟩
  simp only [go_sem, ↓reduceIte, Nat.reduceEqDiff]
  have c2 := @Ints.last S1 xs
  replace hM := hM.ext (Ext.append S1 ([.own (ints xs)]))
  replace hI := hI.ext (Ext.append S1 ([.own (ints xs)]))
  replace c1 := c1.ext (Ext.append S1 ([.own (ints xs)]))
  generalize hS2 : S1 ++ [.own (ints xs)] = S2 at hM hI c1 c2 ⊢
  refine callK.intro (by kernel_rfl) (sPointFits_c _ _ _ _ c1 hd _ _ c2 hx) ?_
  rintro _ _ ⟨rfl, rfl⟩
  simp only [go_sem, ↓reduceIte, Nat.reduceEqDiff]
  refine callK.intro (by kernel_rfl) (toIntSS_c _ _ _ _ hM hd1 hr1) ?_
  rintro _ _ ⟨rfl, rfl⟩
  simp only [go_sem, ↓reduceIte, Nat.reduceEqDiff]
  have c3 := @clone_mat S2 d
  replace hM := hM.ext (Ext.append S2 (cloneOf S2.length d))
  replace hI := hI.ext (Ext.append S2 (cloneOf S2.length d))
  generalize hS3 : S2 ++ cloneOf (List.length S2) d = S3 at hM hI c3 ⊢
  refine callK.intro (by kernel_rfl) (toIntS_c _ _ _ hI hx1) ?_
  rintro _ _ ⟨rfl, rfl⟩
  simp only [go_sem, ↓reduceIte, Nat.reduceEqDiff]
  have c4 := @Ints.last S3 xs
  replace hM := hM.ext (Ext.append S3 ([.own (ints xs)]))
  replace hI := hI.ext (Ext.append S3 ([.own (ints xs)]))
  replace c3 := c3.ext (Ext.append S3 ([.own (ints xs)]))
  generalize hS4 : S3 ++ [.own (ints xs)] = S4 at hM hI c3 c4 ⊢
  refine callK.intro (by kernel_rfl) (iPointFits_c _ _ _ _ c3 hd _ _ c4 hx) ?_
  rintro _ _ ⟨rfl, rfl⟩
  simp only [go_sem, ↓reduceIte, Nat.reduceEqDiff]
  try simp only [go_sem, ↓reduceIte, Nat.reduceEqDiff, decide_true, decide_false, not_true_eq_false, bne_self_eq_false, Try.underlying4]
  refine callK.intro (by kernel_rfl) (toIntSS_c _ _ _ _ hM hd1 hr1) ?_
  rintro _ _ ⟨rfl, rfl⟩
  simp only [go_sem, ↓reduceIte, Nat.reduceEqDiff]
  have c5 := @clone_mat S4 d
  replace hM := hM.ext (Ext.append S4 (cloneOf S4.length d))
  replace hI := hI.ext (Ext.append S4 (cloneOf S4.length d))
  replace c3 := c3.ext (Ext.append S4 (cloneOf S4.length d))
  replace c4 := c4.ext (Ext.append S4 (cloneOf S4.length d))
  generalize hS5 : S4 ++ cloneOf (List.length S4) d = S5 at hM hI c3 c4 c5 ⊢
  refine callK.intro (by kernel_rfl) (eqIntSS_c _ _ _ _ _ _ _ c3 c5 hd (fun i _ => hr i)) ?_
  rintro _ _ ⟨rfl, rfl⟩
  simp only [go_sem, ↓reduceIte, Nat.reduceEqDiff, decide_true]
  refine callK.intro (by kernel_rfl) (toIntS_c _ _ _ hI hx1) ?_
  rintro _ _ ⟨rfl, rfl⟩
  simp only [go_sem, ↓reduceIte, Nat.reduceEqDiff]
  have c6 := @Ints.last S5 xs
  replace hM := hM.ext (Ext.append S5 ([.own (ints xs)]))
  replace hI := hI.ext (Ext.append S5 ([.own (ints xs)]))
  replace c3 := c3.ext (Ext.append S5 ([.own (ints xs)]))
  replace c4 := c4.ext (Ext.append S5 ([.own (ints xs)]))
  replace c5 := c5.ext (Ext.append S5 ([.own (ints xs)]))
  generalize hS6 : S5 ++ [.own (ints xs)] = S6 at hM hI c3 c4 c5 c6 ⊢
  refine callK.intro (by kernel_rfl) (eqIntS_c _ _ _ _ _ c4 c6 hx) ?_
  rintro _ _ ⟨rfl, rfl⟩
  simp only [go_sem, ↓reduceIte, Nat.reduceEqDiff, decide_true]

end Go.Proofs.Ytklaeofcpfggnaa

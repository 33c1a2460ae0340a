/- The library's slices.Sort and slices.Compact at slices of int, laid at this program. -/
import Derived.Shelf.Sort.Plain
import Derived.Ground.Names2Prog
import Derived.Shelf.Slices.CompactI
import Derived.Test.YtodeldmkpogakaaProg
import Derived.Test.YtodeldmkpogakaaMillP
import Derived.Test.YtodeldmkpogakaaPure16
namespace Go.Proofs
open Go.Shelf
def Try.laySort_ren : Go.Shelf.Ren := ⟨fun | 189 => 51 | 125 => 79 | 257 => 78 | 128 => 98 | 129 => 99 | 294 => 89 | 295 => 90 | 296 => 91 | 297 => 92 | 298 => 93 | 299 => 94 | 216 => 95 | 300 => 96 | 301 => 97 | 328 => 104 | 329 => 105 | 330 => 106 | 331 => 107 | 332 => 108 | 215 => 109 | 343 => 112 | n => n, fun | 28 => 32 | 3 => 3 | 46 => 67 | 0 => 0 | 51 => 84 | 53 => 86 | 4 => 4 | 183 => 76 | 182 => 75 | 131 => 81 | 5 => 5 | 9 => 9 | 218 => 90 | 222 => 94 | 228 => 96 | 229 => 97 | n => n, fun | n => n⟩
theorem Try.laySort : Go.Proofs.Lays.n189 Try.prog Try.laySort_ren := {
  mixed := by kernel_rfl
  f125 := Try.func79.trans (congrArg some (by kernel_rfl))
  f128 := Try.func98.trans (congrArg some (by kernel_rfl))
  f129 := Try.func99.trans (congrArg some (by kernel_rfl))
  f189 := Try.func51.trans (congrArg some (by kernel_rfl))
  f215 := Try.func109.trans (congrArg some (by kernel_rfl))
  f216 := Try.func95.trans (congrArg some (by kernel_rfl))
  f257 := Try.func78.trans (congrArg some (by kernel_rfl))
  f294 := Try.func89.trans (congrArg some (by kernel_rfl))
  f295 := Try.func90.trans (congrArg some (by kernel_rfl))
  f296 := Try.func91.trans (congrArg some (by kernel_rfl))
  f297 := Try.func92.trans (congrArg some (by kernel_rfl))
  f298 := Try.func93.trans (congrArg some (by kernel_rfl))
  f299 := Try.func94.trans (congrArg some (by kernel_rfl))
  f300 := Try.func96.trans (congrArg some (by kernel_rfl))
  f301 := Try.func97.trans (congrArg some (by kernel_rfl))
  f328 := Try.func104.trans (congrArg some (by kernel_rfl))
  f329 := Try.func105.trans (congrArg some (by kernel_rfl))
  f330 := Try.func106.trans (congrArg some (by kernel_rfl))
  f331 := Try.func107.trans (congrArg some (by kernel_rfl))
  f332 := Try.func108.trans (congrArg some (by kernel_rfl))
  f343 := Try.func112.trans (congrArg some (by kernel_rfl))
  t0 := Try.underlying0
  a0 := Try.isAgg0
  z0 := Try.sizeOf0
  v0 := Try.zeroValue0
  t3 := Try.underlying3
  a3 := Try.isAgg3
  z3 := Try.sizeOf3
  v3 := Try.zeroValue3
  t4 := Try.underlying4
  a4 := Try.isAgg4
  z4 := Try.sizeOf4
  v4 := Try.zeroValue4
  t5 := Try.underlying5
  a5 := Try.isAgg5
  z5 := Try.sizeOf5
  v5 := Try.zeroValue5
  t9 := Try.underlying9
  a9 := Try.isAgg9
  z9 := Try.sizeOf9
  v9 := Try.zeroValue9
  t28 := Try.underlying32
  a28 := Try.isAgg32
  z28 := Try.sizeOf32
  v28 := Try.zeroValue32
  t46 := Try.underlying67
  a46 := Try.isAgg67
  z46 := Try.sizeOf67
  v46 := Try.zeroValue67
  t51 := Try.underlying84
  a51 := Try.isAgg84
  z51 := Try.sizeOf84
  v51 := Try.zeroValue84
  t53 := Try.underlying86
  a53 := Try.isAgg86
  z53 := Try.sizeOf86
  v53 := Try.zeroValue86
  t131 := Try.underlying81
  a131 := Try.isAgg81
  z131 := Try.sizeOf81
  v131 := Try.zeroValue81
  t182 := Try.underlying75
  a182 := Try.isAgg75
  z182 := Try.sizeOf75
  v182 := Try.zeroValue75
  t183 := Try.underlying76
  a183 := Try.isAgg76
  z183 := Try.sizeOf76
  v183 := Try.zeroValue76
  t218 := Try.underlying90
  a218 := Try.isAgg90
  z218 := Try.sizeOf90
  v218 := Try.zeroValue90
  t222 := Try.underlying94
  a222 := Try.isAgg94
  z222 := Try.sizeOf94
  v222 := Try.zeroValue94
  t228 := Try.underlying96
  a228 := Try.isAgg96
  z228 := Try.sizeOf96
  v228 := Try.zeroValue96
  t229 := Try.underlying97
  a229 := Try.isAgg97
  z229 := Try.sizeOf97
  v229 := Try.zeroValue97 }
def Try.layCom_ren : Go.Shelf.Ren := ⟨fun | 20 => 52 | n => n, fun | 22 => 32 | 3 => 3 | 4 => 4 | 0 => 0 | n => n, fun | n => n⟩
theorem Try.layCom : Go.Proofs.Lays2.n20 Try.prog Try.layCom_ren := {
  mixed := by kernel_rfl
  f20 := Try.func52.trans (congrArg some (by kernel_rfl))
  t0 := Try.underlying0
  a0 := Try.isAgg0
  z0 := Try.sizeOf0
  v0 := Try.zeroValue0
  t3 := Try.underlying3
  a3 := Try.isAgg3
  z3 := Try.sizeOf3
  v3 := Try.zeroValue3
  t4 := Try.underlying4
  a4 := Try.isAgg4
  z4 := Try.sizeOf4
  v4 := Try.zeroValue4
  t22 := Try.underlying32
  a22 := Try.isAgg32
  z22 := Try.sizeOf32
  v22 := Try.zeroValue32
  i3 := by kernel_rfl }
end Go.Proofs
namespace Go.Proofs.Ytodeldmkpogakaa
open Go Go.Mill
set_option linter.unusedSimpArgs false
set_option linter.unusedVariables false

/-- A row of the call's own is put in order. -/
theorem Sort_c (S : Store) (h : Nat) (xs : List Int) (hS : S[h]? = some (.own (ints xs))) (hx : xs.length ≤ 1000000) :
    ACalls Try.prog 51 [mk h xs.length] S fun u S' => u = .tuple #[] ∧ S.set h (.own (ints (srt xs))) = S' := by
  refine ACalls.row (ys := srt xs) hS srt_len (List.prefix_refl _) (by simp [okV]) fun σ w g lim h1 h2 h3 h4 h5 h6 => ?_
  have hd := Any.slices_Sort_int Try.laySort g 0 lim xs w h6 h5 (by omega)
  have ha : (List.map (conc σ) [mk h xs.length]).toArray = #[.slice (some ⟨g, 0, none⟩) xs.length lim] := by
    simp only [List.map_cons, List.map_nil, h1]
  rw [ha]
  refine Calls.mono hd ?_
  rintro e w' ⟨rfl, q, os, rfl⟩
  exact ⟨by simp [conc], q, os, rfl⟩
/-- Of a row of the call's own, what repeats what stands before it is left out. -/
theorem Compact_c (S : Store) (h : Nat) (xs : List Int) (hS : S[h]? = some (.own (ints xs))) (hx : xs.length ≤ 1000000) :
    ACalls Try.prog 52 [mk h xs.length] S fun u S' => u = mk h (Lib.compact xs).length ∧ S.set h (.own (ints (Lib.compact xs))) = S' := by
  have hc : (Lib.compact xs).length ≤ xs.length := by
    unfold Lib.compact Lib.compactUpTo
    rw [List.length_map]
    refine Nat.le_trans (List.length_filter_le _ _) ?_
    simp
  refine ACalls.row (ys := Lib.compact xs ++ List.replicate (xs.length - (Lib.compact xs).length) 0) hS (by simp; omega) (List.prefix_append _ _) (by simpa [mk, okV, okA] using own_lt hS) fun σ w g lim h1 h2 h3 h4 h5 h6 => ?_
  have hd := Any.slices_Compact_int Try.layCom g 0 lim xs w h6 (by omega) h3
  have ha : (List.map (conc σ) [mk h xs.length]).toArray = #[.slice (some ⟨g, 0, none⟩) xs.length lim] := by
    simp only [List.map_cons, List.map_nil, h1]
  rw [ha]
  refine Calls.mono hd ?_
  rintro e w' ⟨rfl, q, rfl⟩
  exact ⟨by rw [h2], q, #[], by rw [Sort.grow_empty]⟩
end Go.Proofs.Ytodeldmkpogakaa

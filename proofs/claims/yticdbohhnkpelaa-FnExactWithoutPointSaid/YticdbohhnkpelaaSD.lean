/- The library's slices.Delete at slices of int, laid at this program. -/
import Derived.Ground.Names2Prog
import Derived.Shelf.Slices.Delete
import Derived.Test.YticdbohhnkpelaaProg
import Derived.Test.YticdbohhnkpelaaMillP
namespace Go.Proofs
open Go.Shelf
def Try.layDel_ren : Go.Shelf.Ren := ⟨fun | 23 => 64 | n => n, fun | 22 => 27 | 3 => 3 | 4 => 4 | 0 => 0 | n => n, fun | n => n⟩
theorem Try.layDel : Go.Proofs.Lays2.n23 Try.prog Try.layDel_ren := {
  mixed := by kernel_rfl
  f23 := Try.func64.trans (congrArg some (by kernel_rfl))
  t0 := Try.underlying0
  a0 := Try.isAgg0
  z0 := Try.sizeOf0
  v0 := Try.zeroValue0
  t3 := Try.underlying3
  a3 := Try.isAgg3
  z3 := Try.sizeOf3
  v3 := Try.zeroValue3
  t4 := Try.underlying4
  a4 := Try.isAgg4
  z4 := Try.sizeOf4
  v4 := Try.zeroValue4
  t22 := Try.underlying27
  a22 := Try.isAgg27
  z22 := Try.sizeOf27
  v22 := Try.zeroValue27
  i3 := by kernel_rfl }
end Go.Proofs
namespace Go.Proofs.Yticdbohhnkpelaa
open Go Go.Mill
set_option linter.unusedSimpArgs false
set_option linter.unusedVariables false

/-- One number is taken out of a row of the call's own. -/
theorem Delete_c (S : Store) (h : Nat) (xs : List Int) (hS : S[h]? = some (.own (ints xs))) (p : Nat) (hp : p < xs.length) :
    ACalls Try.prog 64 [mk h xs.length, .int .i64 p, .int .i64 ((p + 1 : Nat) : Int)] S fun u S' => u = mk h (xs.length - 1) ∧ S.set h (.own (ints (xs.eraseIdx p))) = S' := by
  have hz : (xs.eraseIdx p).length = xs.length - 1 := by rw [List.length_eraseIdx, if_pos hp]
  refine ACalls.row (ys := xs.take p ++ xs.drop (p + 1) ++ List.replicate (p + 1 - p) 0) hS (by simp; omega) (by rw [List.eraseIdx_eq_take_drop_succ]; exact ⟨_, rfl⟩) (by simpa [mk, okV, okA] using own_lt hS) fun σ w g lim h1 h2 h3 h4 h5 h6 => ?_
  have hd := Any.slices_Delete_int Try.layDel g 0 lim p (p + 1) xs w h6 h3 h4 (by omega) (by omega)
  have ha : (List.map (conc σ) [mk h xs.length, .int .i64 p, .int .i64 ((p + 1 : Nat) : Int)]).toArray = #[.slice (some ⟨g, 0, none⟩) xs.length lim, .int .i64 p, .int .i64 ((p + 1 : Nat) : Int)] := by
    simp only [List.map_cons, List.map_nil, h1]; rfl
  rw [ha]
  refine Calls.mono hd ?_
  rintro e w' ⟨rfl, q, rfl⟩
  rw [hz] at h2
  have e1 : xs.length - (p + 1 - p) = xs.length - 1 := by omega
  exact ⟨by rw [h2, e1], q, #[], by rw [Sort.grow_empty]⟩
end Go.Proofs.Yticdbohhnkpelaa

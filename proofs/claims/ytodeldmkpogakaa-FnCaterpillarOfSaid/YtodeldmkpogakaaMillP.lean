/- The mill, part P: the library's contracts on one row of the call's own. -/
import Derived.Test.YtodeldmkpogakaaMillK
import Derived.Sort.Grow
namespace Go.Mill
open Go Go.RowKit
set_option linter.unusedSimpArgs false
set_option linter.unusedVariables false

/-- What is there stays; there may be more. -/
theorem Rel.more {σ : Sig} {B : Nat} {S : Store} {w w' : World} (r : Rel σ B S w) (hs : w.heap.size ≤ w'.heap.size) (hk : ∀ k, k < w.heap.size → w'.heap[k]? = w.heap[k]?) : Rel σ B S w' := by
  refine ⟨r.len, Nat.le_trans r.base hs, fun h cs hh => ?_, fun h cs hh => ?_, r.sep, r.ok⟩
  · obtain ⟨a1, a2, a3, cur, e, a4, a5⟩ := r.own h cs hh
    exact ⟨a1, a2, a3, cur, e, by rw [hk _ (Array.getElem?_eq_some_iff.1 a4).1]; exact a4, a5⟩
  · obtain ⟨a1, a2, a3⟩ := r.ro h cs hh
    refine ⟨a1, a2, fun i x hx => ?_⟩
    obtain ⟨b1, b2⟩ := a3 i x hx
    refine ⟨b1, ?_⟩
    rw [← b2]
    refine World.cell?_of_block (hk _ ?_)
    exact World.block_lt_of_cell? w _ b2

/-- A row of integers of the call's own, in the world. -/
theorem Rel.row {σ : Sig} {B : Nat} {S : Store} {w : World} (r : Rel σ B S w) {h : Nat} {xs : List Int} (hS : S[h]? = some (.own (ints xs))) :
    ∃ g lim, conc σ (Mill.mk h xs.length) = .slice (some ⟨g, 0, none⟩) xs.length lim ∧ xs.length ≤ lim ∧ lim ≤ maxLen ∧ g < w.heap.size ∧ Sort.Holds (Value.int .i64) w g 0 xs.toArray ∧
      ∀ (ys zs : List Int) (q : Nat) (os : Array Obj), ys.length = xs.length → zs <+: ys →
        Rel σ B (S.set h (.own (ints zs))) (Sort.grow (Sort.putRow (Value.int .i64) (Sort.ahead w q) g 0 ys.toArray) os) ∧ Below B w (Sort.grow (Sort.putRow (Value.int .i64) (Sort.ahead w q) g 0 ys.toArray) os) := by
  obtain ⟨ha, hB, hml, cur, e, hcur, hsz, hle, hcell⟩ := r.own h _ hS
  have hlen : (ints xs).length = xs.length := by simp [ints]
  have hg := (Array.getElem?_eq_some_iff.1 hcur).1
  refine ⟨(σ.pl h).a.block, (σ.pl h).lim, ?_, by omega, hml, hg, fun j hj => ?_, fun ys zs q os hy hz => ?_⟩
  · simp only [Mill.mk, conc, c1, sad, Nat.sub_zero, Addr.add_zero']; rw [ha]
  · have hj' : j < xs.length := by simpa using hj
    have hx := hcell j (.int .i64 xs[j]) (by simp [ints, hj'])
    refine ⟨?_, by simp [World.frozen?, hcur]⟩
    simp only [World.cell?, hcur, Nat.zero_add]
    simp only [Option.isSome_none, Bool.false_eq_true, if_false]
    rw [hx]
    simp [c1, hj']
  · have hin : ∀ x ∈ ints zs, okA S.length x := fun x hx => by
      obtain ⟨z, -, rfl⟩ := List.mem_map.1 hx; trivial
    have hzl := hz.length_le
    have hheap : (Sort.putRow (Value.int .i64) (Sort.ahead w q) (σ.pl h).a.block 0 ys.toArray).heap[(σ.pl h).a.block]? = some (.cells (Sort.putCells (Value.int .i64) 0 ys.toArray cur) e (0, 0)) := by
      simp [Sort.putRow, Sort.mapBlock, Sort.ahead, Array.getElem?_modify, hcur, Sort.onCells]
    have hother : ∀ k, k ≠ (σ.pl h).a.block → (Sort.putRow (Value.int .i64) (Sort.ahead w q) (σ.pl h).a.block 0 ys.toArray).heap[k]? = w.heap[k]? := fun k hk => by
      have : ¬ (σ.pl h).a.block = k := fun e => hk e.symm
      simp [Sort.putRow, Sort.mapBlock, Sort.ahead, Array.getElem?_modify, this]
    have hsize : (Sort.putRow (Value.int .i64) (Sort.ahead w q) (σ.pl h).a.block 0 ys.toArray).heap.size = w.heap.size := by simp [Sort.putRow, Sort.mapBlock, Sort.ahead]
    have hr : Rel σ B (S.set h (.own (ints zs))) (Sort.putRow (Value.int .i64) (Sort.ahead w q) (σ.pl h).a.block 0 ys.toArray) := by
      refine r.setRow hS (ints zs) hin (Sort.putCells (Value.int .i64) 0 ys.toArray cur) e _ (by simp [Sort.putCells, hsz]) (by simp [Sort.putCells, ints]; omega) (fun i x hx => ?_) hheap hother (Nat.le_of_eq hsize.symm)
      have hi : i < zs.length := by have := (List.getElem?_eq_some_iff.1 hx).1; simpa [ints] using this
      have hzy : zs[i]? = ys[i]? := by
        obtain ⟨t, rfl⟩ := hz
        rw [List.getElem?_append_left hi]
      have hx2 : x = .int .i64 zs[i] := by simp [ints, hi] at hx; exact hx.symm
      have hyi : ys[i]? = some zs[i] := by rw [← hzy]; simp [hi]
      have hic : i < cur.size := by omega
      subst hx2
      simp only [Sort.putCells, Array.getElem?_mapIdx]
      rw [Array.getElem?_eq_getElem hic]
      simp only [Option.map_some, Nat.zero_le, true_and, Nat.zero_add, List.size_toArray, Nat.sub_zero]
      rw [if_pos (by omega)]
      have : ys.toArray[i]! = zs[i] := by
        rw [getElem!_pos ys.toArray i (by simp; omega)]
        have := List.getElem?_eq_some_iff.1 hyi
        simpa using this.2
      rw [this]
      rfl
    have hgrow : ∀ k, k < w.heap.size → (Sort.grow (Sort.putRow (Value.int .i64) (Sort.ahead w q) (σ.pl h).a.block 0 ys.toArray) os).heap[k]? = (Sort.putRow (Value.int .i64) (Sort.ahead w q) (σ.pl h).a.block 0 ys.toArray).heap[k]? := fun k hk => by
      simp only [Sort.grow]
      rw [Array.getElem?_append_left (by rw [hsize]; exact hk)]
    refine ⟨hr.more (by simp [Sort.grow]) (fun k hk => hgrow k (by rwa [hsize] at hk)), ⟨rfl, rfl, rfl, by simp only [Sort.grow, Array.size_append]; rw [hsize]; omega, fun k hk => ?_⟩⟩
    have hb := r.base
    rw [hgrow k (by omega)]
    exact hother k (by omega)

/-- .. as a contract: the function leaves ys in the row; what is known of it is zs. -/
theorem ACalls.row {P : Program} {f : FuncId} {args : List Value} {S : Store} {h : Nat} {xs ys zs : List Int} {v : Value} (hS : S[h]? = some (.own (ints xs))) (hy : ys.length = xs.length) (hz : zs <+: ys) (hv : okV S.length v)
    (hc : ∀ (σ : Sig) (w : World) (g lim : Nat), conc σ (Mill.mk h xs.length) = .slice (some ⟨g, 0, none⟩) xs.length lim → conc σ (Mill.mk h zs.length) = .slice (some ⟨g, 0, none⟩) zs.length lim → xs.length ≤ lim → lim ≤ maxLen → g < w.heap.size → Sort.Holds (Value.int .i64) w g 0 xs.toArray →
      Calls P f (args.map (conc σ)).toArray w fun e w' => e = .returned (conc σ v) ∧ ∃ q os, w' = Sort.grow (Sort.putRow (Value.int .i64) (Sort.ahead w q) g 0 ys.toArray) os) :
    ACalls P f args S fun u S' => u = v ∧ S.set h (.own (ints zs)) = S' := by
  intro σ B w r ho
  obtain ⟨g, lim, h1, h2, h3, h4, h5, h6⟩ := r.row hS
  have h1' : conc σ (Mill.mk h zs.length) = .slice (some ⟨g, 0, none⟩) zs.length lim := by
    simp only [Mill.mk, conc, c1, sad, Nat.sub_zero] at h1 ⊢
    injection h1 with a b c
    rw [a, c]
  refine (hc σ w g lim h1 h1' h2 h3 h4 h5).mono ?_
  rintro e w' ⟨rfl, q, os, rfl⟩
  obtain ⟨hR, hB⟩ := h6 ys zs q os hy hz
  exact ⟨v, S.set h (.own (ints zs)), [], by rw [List.append_nil], ⟨rfl, rfl⟩, by simpa using hv, by simp, by rw [List.append_nil]; exact hR, hB⟩
end Go.Mill

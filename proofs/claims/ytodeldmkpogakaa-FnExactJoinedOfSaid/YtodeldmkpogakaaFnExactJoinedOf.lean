/- The statement of the law FnExactJoinedOf: for every input the Go function returns true and leaves its arguments alone. No condition but the row's own. It follows from the function's contract over the mill. -/
import Derived.Test.YtodeldmkpogakaaRows
import Derived.Test.YtodeldmkpogakaaXJoinedOf
import Derived.ProofKit
import Derived.OpenShut
import Derived.ShutString
import Derived.ChangeOld
import Derived.Below
import Derived.Deep.Matrix
namespace Go.Proofs.Ytodeldmkpogakaa.fnExactJoinedOf
open Go.ChangeShapes Go.WideShapes Go.ChangeAt Go.RowKit Go.Mill
set_option linter.unusedVariables false
set_option linter.unusedSimpArgs false

theorem own : ownKnob Try.prog.godebug = none := by kernel_rfl
theorem laidOut : laidOutB Try.prog = true := by kernel_rfl

def IsRow (k : IntKind) (w : World) (a : Option Addr) (len cap : Nat) (zs : List Int) : Prop :=
  (a = none ∧ len = 0 ∧ cap = 0 ∧ zs = []) ∨ ∃ x, a = some x ∧ len ≤ cap ∧ cap ≤ maxLen ∧ zs.length = cap ∧ (∀ i, i < zs.length → w.cell? (x.add i) = some (.int k (zs.getD i 0))) ∧ ∀ n ∈ zs, (Lit.int k n).wf = true
def IsRows (w : World) (a : Option Addr) (len cap : Nat) : Prop :=
  (a = none ∧ len = 0 ∧ cap = 0) ∨ ∃ (x : Addr) (A : Nat → Option Addr) (L C : Nat → Nat) (Z : Nat → List Int), a = some x ∧ len ≤ cap ∧ cap ≤ maxLen ∧
    ∀ j, j < cap → w.cell? (x.add j) = some (.slice (A j) (L j) (C j)) ∧ L j ≤ C j ∧ C j ≤ maxLen ∧ (Z j).length = C j ∧ (A j = none → C j = 0) ∧ ∀ a', A j = some a' → ∀ c, c < C j → w.cell? (a'.add c) = some (.int .i64 ((Z j).getD c 0))

theorem ready_app {σ τ : Sig} {B : Nat} {S T : Store} {w : World} {v u : Value} (h : Ready σ B S w v u) (hl : σ.length = S.length) : Ready (σ ++ τ) B (S ++ T) w v u := h.mono hl (by simp)
theorem walk (w : World) (a0 : Option Addr) (l0 c0 : Nat) (w0 : IsRows w a0 l0 c0) :
    Calls Try.prog 12 #[.slice a0 l0 c0] w fun e w' => e = .returned (.bool true) ∧ Below w.heap.size w w' := by
  have r := Rel.start w
  obtain ⟨v0, r0, d0, T0, τ0, r', k0, m0, n0, n'0⟩ := ready_rows r (Nat.le_refl _) a0 l0 c0 w0
  have r := r'
  refine walk_of (args := [v0]) r ?_ ?_ (FnExactJoinedOf_c _ v0 r0 d0 m0 n0 n'0)
  · simp only [List.mem_cons, List.not_mem_nil, or_false, forall_eq_or_imp, forall_eq]; exact k0.ok
  · simp only [List.map_cons, List.map_nil, k0.conc]

set_option maxRecDepth 100000 in
theorem lifted (os : Os) (started : os.Started) (H : Type) (enc : TypeId × Value → H) :
    ReturnsInHanded {} Try.checked os 12 .any (Rows.fnExactJoinedOfSpec.pre6 enc Try.prog Try.f12 Rows.fnExactJoinedOfRow.domain false) (Rows.fnExactJoinedOfSpec.post enc Try.prog Try.f12 false true false false) := by
  refine returnsInHanded_of_change (C := Try.checked) own started (by kernel_rfl) Try.func12
    (ChangeSpec.witness6 (enc := enc) (C := Try.checked) false ⟨#[], #[.slice none 0 0], []⟩ 8 (by kernel_rfl) (by kernel_rfl) (by kernel_rfl) (by kernel_rfl)) ?_
  intro W base args ds gs before hval0 hW hcnd _
  have hval : ∀ (j : Nat) t v, Try.f12.params[j]? = some t → args[j]? = some v → Value.okWide Try.prog W .any base t v := hval0
  have hW' := hW
  obtain ⟨p, q, hA0, hV, rfl, hfz, hnd⟩ := hW
  have hA : DataW.TrodAll enc Try.prog W 0 (fun _ => true) true Try.f12.params.toList args.toList ds p := hA0
  rw [Try.params12] at hA hval
  obtain ⟨v0, vs0, d0, ds0, p0, q0, hargs, rfl, rfl, h0, r0⟩ := trodAll_cons hA
  obtain ⟨rfl, rfl, rfl⟩ := trodAll_nil r0
  obtain rfl : args = #[v0] := by cases args; simp_all
  obtain ⟨rfl, rfl⟩ := trodVars_none hV
  obtain ⟨a0, l0, c0, rfl⟩ := okWide_slice Try.underlying23 (hval 0 23 v0 rfl rfl)
  have k0 := h0
  have lt0 : ∀ x ∈ p0, x.block < W.heap.size := by obtain ⟨m, hm⟩ := k0; exact DataW.trod_lt m _ _ _ hm
  have w0 : IsRows W a0 l0 c0 := by
    obtain ⟨fuel, hf⟩ := h0
    rcases Deep.open_int_rows Try.underlying23 Try.underlying32 Try.underlying3 (by kernel_rfl) (by kernel_rfl) hf with ⟨hcs, _⟩ | ⟨x, l, c, A, L, C, Z, hcs, _, hl, hm, _, hx⟩
    · simp [Value.cells] at hcs
      obtain ⟨rfl, rfl, rfl⟩ := hcs
      exact .inl ⟨rfl, rfl, rfl⟩
    · simp [Value.cells] at hcs
      obtain ⟨rfl, rfl, rfl⟩ := hcs
      exact .inr ⟨_, A, L, C, Z, rfl, hl, hm, fun j hj => by
        obtain ⟨g1, g2, g3, g4, _, g6, g7⟩ := hx j hj
        exact ⟨g1, g2, g3, g4, g6, fun a' ha => (g7 a' ha).2⟩⟩
  clear hA0 hval0
  refine (walk W a0 l0 c0 w0).mono fun e W' ⟨he, bel⟩ => ?_
  subst he
  exact ⟨_, rfl, _, _, _, [], _, [], hW', trodAll_mk1 (shut_bool Try.underlying4 _), (trodAll_cons_mk (Below.trod laidOut (by kernel_rfl) (of_decide_eq_true (by kernel_rfl)) k0 bel lt0) trodAll_mk0), rfl, bel.frame _, fun h => by cases h⟩

theorem over : Rows.fnExactJoinedOfRow.holds Try.pinned (OpenSpec.ofChange Rows.fnExactJoinedOfSpec) :=
  OpenClaim.holds_of_wide 12 Try.f12 rfl rfl rfl rfl rfl rfl rfl ⟨rfl, rfl, rfl, rfl, rfl⟩ rfl rfl rfl rfl rfl (by kernel_rfl) Try.func12 (by kernel_rfl)
    (of_decide_eq_true (by kernel_rfl)) (by unfold Func.isWrapper; first | (rw [if_pos (by decide +kernel)]; kernel_rfl) | (rw [if_neg (by decide +kernel)]; exact ⟨rfl, rfl⟩))
    (fun os started H enc _ => lifted os started H enc)

/-- The statement. -/
theorem proved : Rows.FnExactJoinedOfSaid := over
#print axioms proved
end Go.Proofs.Ytodeldmkpogakaa.fnExactJoinedOf

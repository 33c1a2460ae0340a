/- The mill, part F: contracts out of code, and the rules by which simp turns the mill. -/
import Derived.Test.YtoecdjgjfbjejaaMillE
namespace Go.Mill
open Go Go.RowKit
set_option linter.unusedSimpArgs false
set_option linter.unusedVariables false

def argEnv : Nat → List Value → Env
  | _, [] => []
  | k, v :: vs => (k, v) :: argEnv (k + 1) vs

def lks (e : Env) : List Nat → Option (List Value)
  | [] => some []
  | t :: ts => (lk e t).bind fun v => (lks e ts).bind fun vs => some (v :: vs)

def tmpsOf : List ResultVar → Option (List Nat)
  | [] => some []
  | .tmp t :: rs => (tmpsOf rs).map (t :: ·)
  | _ => none

def resK (R : Value → Store → Prop) (e : Env) (S : Store) : List Nat → Prop
  | [t] => optK (lk e t) fun v => R v S
  | ts => optK (lks e ts) fun vs => vs.all atomB = true ∧ R (.tuple vs.toArray) S

/-- What a function's end hands on. -/
def retK (ts : List Nat) (R : Value → Store → Prop) : AX → Env → Store → Prop
  | .ret, e, S | .normal, e, S => resK R e S ts
  | .exit _, _, _ => False

def resV (g : Nat → Value) : List Nat → Value
  | [t] => g t
  | ts => .tuple (ts.map g).toArray

theorem argEnv_lk : ∀ (vs : List Value) (k i : Nat) (v : Value), lk (argEnv k vs) i = some v → k ≤ i ∧ vs[i - k]? = some v
  | [], _, _, _, h => by cases h
  | u :: vs, k, i, v, h => by
    simp only [argEnv, lk] at h
    split at h
    · rename_i hk; subst hk; simpa using h
    · rename_i hk
      obtain ⟨h1, h2⟩ := argEnv_lk vs (k + 1) i v h
      refine ⟨by omega, ?_⟩
      rw [show i - k = (i - (k + 1)) + 1 by omega]
      simpa using h2

theorem results_mapM (tmps : Array Value) (P : Program) (w : World) (g : ResultVar → Sem Value) (hg : ∀ t, g (.tmp t) = pure (tmps.getD t undef)) : ∀ (rs : List ResultVar) (ts : List Nat), tmpsOf rs = some ts →
    (rs.mapM g).run P w = .ok (ts.map fun t => tmps.getD t undef) w
  | [], ts, h => by simp only [tmpsOf, Option.some.injEq] at h; subst h; rfl
  | .cell a t :: rs, ts, h => by simp [tmpsOf] at h
  | .tmp t :: rs, ts, h => by
    simp only [tmpsOf] at h
    cases h1 : tmpsOf rs with
    | none => simp [h1] at h
    | some us =>
      simp only [h1, Option.map_some, Option.some.injEq] at h
      subst h
      simp only [List.mapM_cons, Sem.run_bind, hg, Sem.run_pure, Result.andThen_ok, results_mapM tmps P w g hg rs us h1, List.map_cons]

theorem results_run {fn : Func} {ts : List Nat} (h : tmpsOf fn.results.toList = some ts) (tmps : Array Value) (P : Program) (w : World) :
    (results fn tmps).run P w = .ok (resV (fun t => tmps.getD t undef) ts) w := by
  obtain ⟨rs, hrs⟩ : ∃ rs : List ResultVar, fn.results = rs.toArray := ⟨fn.results.toList, by simp⟩
  rw [hrs] at h
  simp only at h
  unfold results
  simp only [hrs, List.mapM_toArray, Sem.run_bind]
  simp only [show ∀ (L : Sem (List Value)), (Functor.map List.toArray L) = (L >>= fun x => pure x.toArray) from fun _ => rfl, Sem.run_bind, Sem.run_pure]
  rw [results_mapM tmps P w _ (fun _ => rfl) rs ts h]
  simp only [Result.andThen_ok]
  cases ts with
  | nil => rfl
  | cons t ts => cases ts with
    | nil => rfl
    | cons u us => simp [resV]

theorem ACalls.intro {P : Program} {f : FuncId} {fn : Func} {c : Code} {args : List Value} {S : Store} {R : Value → Store → Prop} {ts : List Nat} (n : Nat) (hm : P.follows .mixedOrders = true) (hf : P.funcs[f]? = some fn) (hb : fn.body = some c)
    (hts : tmpsOf fn.results.toList = some ts) (hc : (chkC P n c && decide (fn.ntmps = n)) = true) (hlen : args.length ≤ n) (h : aw P c (retK ts R) (argEnv 0 args) S) : ACalls P f args S R := by
  intro σ B w r hok
  simp only [Bool.and_eq_true, decide_eq_true_eq] at hc
  obtain ⟨hc, hn⟩ := hc
  refine calls_of_wp hf hb ?_
  have hs : sat σ n S (argEnv 0 args) { tmps := (args.map (conc σ)).toArray ++ Array.replicate (fn.ntmps - (args.map (conc σ)).toArray.size) undef, defers := [] } := by
    refine ⟨rfl, by simp; omega, fun i v hi => ?_⟩
    obtain ⟨-, h2⟩ := argEnv_lk args 0 i v hi
    simp only [Nat.sub_zero] at h2
    refine ⟨?_, hok v (List.mem_of_getElem? h2)⟩
    have hlt := (List.getElem?_eq_some_iff.1 h2).1
    rw [Array.getElem?_append_left (by simpa using hlt)]
    simp [h2]
  refine wp_mono (aw_sound hm c _ _ S σ _ w w hc r (Below.refl _ _) hs h) ?_
  rintro x a' w' ⟨ax, rfl, e', S', τ, hq, hR, hB, s'⟩
  have key : resK R e' S' ts → a'.defers = [] ∧ ∃ v, (results fn a'.tmps).run P w' = .ok v w' ∧
      ∃ (v' : Value) (S' : Store) (τ : Sig), Ending.returned v = .returned (conc (σ ++ τ) v') ∧ R v' S' ∧ okV S'.length v' ∧ S.length ≤ S'.length ∧ Rel (σ ++ τ) B S' w' ∧ Below B w w' := by
    intro hq
    have hlen' : S.length ≤ S'.length := by have h1 := hR.len; have h2 := r.len; simp at h1; omega
    refine ⟨s'.defers, _, results_run hts a'.tmps P w', ?_⟩
    have many : ∀ (ts : List Nat), (optK (lks e' ts) fun vs => vs.all atomB = true ∧ R (.tuple vs.toArray) S') → ∃ (v' : Value) (S' : Store) (τ : Sig), Ending.returned (.tuple (ts.map fun t => a'.tmps.getD t undef).toArray) = .returned (conc (σ ++ τ) v') ∧ R v' S' ∧ okV S'.length v' ∧ S.length ≤ S'.length ∧ Rel (σ ++ τ) B S' w' ∧ Below B w w' := by
      intro ts hq
      obtain ⟨vs, hvs, hat, hk⟩ := optK_elim hq
      have hl : ∀ (ts : List Nat) (vs : List Value), lks e' ts = some vs → ts.map (fun t => a'.tmps.getD t undef) = vs.map (conc (σ ++ τ)) ∧ ∀ v ∈ vs, okV S'.length v := by
        intro ts
        induction ts with
        | nil => intro vs h; simp only [lks, Option.some.injEq] at h; subst h; simp
        | cons t ts ih =>
          intro vs h
          simp only [lks] at h
          cases h1 : lk e' t with
          | none => simp [h1] at h
          | some v =>
            cases h2 : lks e' ts with
            | none => simp [h1, h2] at h
            | some us =>
              simp only [h1, h2, Option.bind_some, Option.some.injEq] at h
              subst h
              obtain ⟨h3, h4⟩ := s'.look t v h1
              obtain ⟨h5, h6⟩ := ih us h2
              refine ⟨by simp [h3, ← h5], fun y hy => ?_⟩
              rcases List.mem_cons.1 hy with rfl | hy
              · exact h4
              · exact h6 y hy
      obtain ⟨h1, h2⟩ := hl _ vs hvs
      have h3 : ∀ v ∈ vs, okA S'.length v := fun v hv => okA_of_atom (h2 v hv) (List.all_eq_true.1 hat v hv)
      refine ⟨.tuple vs.toArray, S', τ, ?_, hk, by simpa [okV] using h3, hlen', hR, hB⟩
      have h4 : vs.map (c1 (σ ++ τ)) = vs.map (conc (σ ++ τ)) := List.map_congr_left fun v hv => (conc_of_okA (h3 v hv)).symm
      have h5 : conc (σ ++ τ) (.tuple vs.toArray) = .tuple (vs.map (conc (σ ++ τ))).toArray := by simp only [conc, List.map_toArray, h4]
      rw [h5, ← h1]
    cases ts with
    | nil => exact many [] hq
    | cons t ts => cases ts with
      | nil =>
        obtain ⟨v, hv, hk⟩ := optK_elim hq
        obtain ⟨h1, h2⟩ := s'.look t v hv
        exact ⟨v, S', τ, by simp [resV, h1], hk, h2, hlen', hR, hB⟩
      | cons u us => exact many (t :: u :: us) hq
  cases ax with
  | normal => exact key hq
  | ret => exact key hq
  | exit i => exact hq.elim
end Go.Mill

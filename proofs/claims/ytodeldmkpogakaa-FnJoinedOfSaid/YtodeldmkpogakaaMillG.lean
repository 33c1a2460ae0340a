/- The mill, part G: the rules by which simp turns it. -/
import Derived.Test.YtodeldmkpogakaaMillF
namespace Go.Mill
open Go Go.RowKit
set_option linter.unusedSimpArgs false
set_option linter.unusedVariables false

def thenK (P : Program) (d : Code) (Q : AX → Env → Store → Prop) : AX → Env → Store → Prop :=
  fun x e' S' => match x with | .normal => aw P d Q e' S' | x => Q x e' S'
def regsK (P : Program) (all : Array Oper) (Q : Env → Store → Prop) (rest : List Oper) (d : Option Nat) (e : Env) : Value → Store → Prop :=
  fun v S' => regs P all Q rest (putE d v e) S'
def regQK (P : Program) (all : Array Oper) (S : Store) (Q : Env → Prop) (rest : List Oper) (d : Option Nat) (e : Env) : Value → Prop :=
  fun v => regQ P all S Q rest (putE d v e)
def regQCK (P : Program) (all : Array Oper) (ex : Bool) (S : Store) (Q : Env → Prop) (rest : List Oper) (d : Option Nat) (e : Env) : Value → Prop :=
  fun v => regQC P all ex S Q rest (putE d v e)
def callK (P : Program) (f : FuncId) (args : List Value) (S : Store) (K : Value → Store → Prop) : Prop := callable P f = true ∧ ACalls P f args S K
def callQK (P : Program) (ex : Bool) (f : FuncId) (args : List Value) (S : Store) (K : Value → Prop) : Prop := callable P f = true ∧ callQ P ex f args S K
/-- Continuations without a binder in sight: simp does not walk into them. -/
def kS (S : Store) (K : Value → Store → Prop) : Value → Prop := fun v => K v S
def condK (P : Program) (c d : Code) (Q : AX → Env → Store → Prop) (e : Env) (S : Store) : Bool → Prop := fun b => ifK b (aw P c Q e S) (aw P d Q e S)
def pickK (e : Env) (a b : Operand) (KP : Value → Prop) : Bool → Prop := fun t => ifK t (optK (ev e a) KP) (optK (ev e b) KP)
def gK (P : Program) (all : Array Oper) (R : Env → Store → Prop) (op : Op) (dst : Option Nat) (rest : List Oper) (e : Env) (S : Store) (w : Bool) : Value → Prop :=
  fun gv => guardK gv w (aop P op e S (regsK P all R rest dst e)) (regs P all R rest (putE dst undef e) S)
def gQ (P : Program) (all : Array Oper) (S : Store) (RQ : Env → Prop) (op : Op) (dst : Option Nat) (rest : List Oper) (e : Env) (w : Bool) : Value → Prop :=
  fun gv => guardK gv w (aopP P op e S (regQK P all S RQ rest dst e)) (regQ P all S RQ rest (putE dst undef e))
def gQC (P : Program) (all : Array Oper) (ex : Bool) (S : Store) (RQ : Env → Prop) (op : Op) (dst : Option Nat) (rest : List Oper) (e : Env) (w : Bool) : Value → Prop :=
  fun gv => guardK gv w (aopQ P ex op e S (regQCK P all ex S RQ rest dst e)) (regQC P all ex S RQ rest (putE dst undef e))
theorem callQK_same {P : Program} {f : FuncId} {args : List Value} {S : Store} {K : Value → Prop} (v : Value) (hc : callable P f = true) (hf : flat v = true) (h : ACalls P f args S (fun u S' => u = v ∧ S = S')) (hk : K v) : callQK P true f args S K :=
  ⟨hc, v, hf, fun S' hS => by
    have : S = S' := hS
    subst this
    exact h, hk⟩
theorem callQK_more {P : Program} {f : FuncId} {args : List Value} {S : Store} {K : Value → Prop} (v : Value) (hc : callable P f = true) (hf : flat v = true) (h : ∀ S', Ext S S' → ACalls P f args S' (fun u S'' => u = v ∧ Ext S' S'')) (hk : K v) : callQK P false f args S K :=
  ⟨hc, v, hf, fun S' hS => h S' hS, hk⟩
theorem condK_intro {P : Program} {c d : Code} {Q : AX → Env → Store → Prop} {e : Env} {S : Store} {b : Bool} (h1 : b = true → aw P c Q e S) (h2 : b = false → aw P d Q e S) : condK P c d Q e S b := by
  cases b
  · exact h2 rfl
  · exact h1 rfl
theorem pickK_intro {e : Env} {x y : Operand} {KP : Value → Prop} {b : Bool} (h1 : b = true → optK (ev e x) KP) (h2 : b = false → optK (ev e y) KP) : pickK e x y KP b := by
  cases b
  · exact h2 rfl
  · exact h1 rfl
theorem gK_intro {P : Program} {all : Array Oper} {R : Env → Store → Prop} {op : Op} {dst : Option Nat} {rest : List Oper} {e : Env} {S : Store} {w b : Bool} (h1 : b = true → gK P all R op dst rest e S w (.bool true)) (h2 : b = false → gK P all R op dst rest e S w (.bool false)) :
    gK P all R op dst rest e S w (.bool b) := by
  cases b
  · exact h2 rfl
  · exact h1 rfl
theorem gQ_intro {P : Program} {all : Array Oper} {S : Store} {RQ : Env → Prop} {op : Op} {dst : Option Nat} {rest : List Oper} {e : Env} {w b : Bool} (h1 : b = true → gQ P all S RQ op dst rest e w (.bool true)) (h2 : b = false → gQ P all S RQ op dst rest e w (.bool false)) :
    gQ P all S RQ op dst rest e w (.bool b) := by
  cases b
  · exact h2 rfl
  · exact h1 rfl
theorem gQC_intro {ex : Bool} {P : Program} {all : Array Oper} {S : Store} {RQ : Env → Prop} {op : Op} {dst : Option Nat} {rest : List Oper} {e : Env} {w b : Bool} (h1 : b = true → gQC P all ex S RQ op dst rest e w (.bool true)) (h2 : b = false → gQC P all ex S RQ op dst rest e w (.bool false)) :
    gQC P all ex S RQ op dst rest e w (.bool b) := by
  cases b
  · exact h2 rfl
  · exact h1 rfl
/-- A condition on the way. -/
def andK (p : Prop) (A : Prop) : Prop := p ∧ A

theorem andK_intro {p A : Prop} (hp : p) (h : A) : andK p A := ⟨hp, h⟩
theorem andK_true {A : Prop} : andK True A = A := by simp [andK]
theorem ifK_intro {b : Bool} {A B : Prop} (h1 : b = true → A) (h2 : b = false → B) : ifK b A B := by
  cases b
  · exact h2 rfl
  · exact h1 rfl
theorem callK.intro {P : Program} {f : FuncId} {args : List Value} {S : Store} {K R : Value → Store → Prop} (hc : callable P f = true) (h : ACalls P f args S R) (hr : ∀ v S', R v S' → K v S') : callK P f args S K := ⟨hc, h.mono hr⟩

section
variable {P : Program} {Q : AX → Env → Store → Prop} {e : Env} {S : Store} {c d : Code} {id : Nat} {ops rest : List Oper} {all : Array Oper} {R : Env → Store → Prop} {K : Value → Store → Prop} {KP : Value → Prop} {RQ : Env → Prop} {ex : Bool}

theorem aw_skip : aw P .skip Q e S = Q .normal e S := nd rfl
theorem aw_seq : aw P (.seq c d) Q e S = aw P c (thenK P d Q) e S := nd rfl
theorem aw_region : aw P (.region id ops.toArray false) Q e S = regs P ops.toArray (Q .normal) ops e S := by simp [aw]
theorem aw_cond {o : Operand} : aw P (.cond o c d) Q e S = optK (ev e o) fun v => boolK v (condK P c d Q e S) := nd rfl
theorem condK_true : condK P c d Q e S true = aw P c Q e S := nd rfl
theorem condK_false : condK P c d Q e S false = aw P d Q e S := nd rfl
theorem condK_not {b : Bool} : condK P c d Q e S (!b) = condK P d c Q e S b := by cases b <;> rfl
theorem kS_app {v : Value} : kS S K v = K v S := nd rfl
theorem pickK_true {x y : Operand} : pickK e x y KP true = optK (ev e x) KP := nd rfl
theorem pickK_false {x y : Operand} : pickK e x y KP false = optK (ev e y) KP := nd rfl
theorem aw_block : aw P (.block id c) Q e S = aw P c (blockK id Q) e S := nd rfl
theorem aw_exit : aw P (.exit id) Q e S = Q (.exit id) e S := nd rfl
theorem aw_ret : aw P .ret Q e S = Q .ret e S := nd rfl
theorem thenK_normal : thenK P d Q .normal e S = aw P d Q e S := nd rfl
theorem thenK_exit {i : Nat} : thenK P d Q (.exit i) e S = Q (.exit i) e S := nd rfl
theorem thenK_ret : thenK P d Q .ret e S = Q .ret e S := nd rfl
theorem blockK_normal : blockK id Q .normal e S = Q .normal e S := nd rfl
theorem blockK_ret : blockK id Q .ret e S = Q .ret e S := nd rfl
theorem blockK_exit {i : Nat} : blockK id Q (.exit i) e S = if i = id then Q .normal e S else Q (.exit i) e S := nd rfl
theorem retK_normal {ts : List Nat} : retK ts K .normal e S = resK K e S ts := nd rfl
theorem retK_ret {ts : List Nat} : retK ts K .ret e S = resK K e S ts := nd rfl
theorem resK_one {t : Nat} : resK K e S [t] = optK (lk e t) fun v => K v S := nd rfl
theorem resK_two {t u : Nat} : resK K e S [t, u] = optK (lks e [t, u]) fun vs => andK (vs.all atomB = true) (K (.tuple vs.toArray) S) := nd rfl
theorem resK_three {t u v : Nat} : resK K e S [t, u, v] = optK (lks e [t, u, v]) fun vs => andK (vs.all atomB = true) (K (.tuple vs.toArray) S) := nd rfl

theorem regs_nil : regs P all R [] e S = R e S := nd rfl
theorem regs_cons {dst : Option Nat} {op : Op} {ty : TypeId} {pos : String} {af : Array Edge} : regs P all R (⟨dst, op, ty, pos, af, none⟩ :: rest) e S = aop P op e S (regsK P all R rest dst e) := nd rfl
theorem regs_guard {dst : Option Nat} {op : Op} {ty : TypeId} {pos : String} {af : Array Edge} {j : Nat} {w : Bool} : regs P all R (⟨dst, op, ty, pos, af, some (j, w)⟩ :: rest) e S =
  optK (dstAt all j) fun d' => optK (lk e d') (gK P all R op dst rest e S w) := nd rfl
theorem gK_truetrue {dst : Option Nat} {op : Op} : gK P all R op dst rest e S true (.bool true) = aop P op e S (regsK P all R rest dst e) := nd rfl
theorem gK_truefalse {dst : Option Nat} {op : Op} : gK P all R op dst rest e S true (.bool false) = regs P all R rest (putE dst undef e) S := nd rfl
theorem gK_falsetrue {dst : Option Nat} {op : Op} : gK P all R op dst rest e S false (.bool true) = regs P all R rest (putE dst undef e) S := nd rfl
theorem gK_falsefalse {dst : Option Nat} {op : Op} : gK P all R op dst rest e S false (.bool false) = aop P op e S (regsK P all R rest dst e) := nd rfl
theorem gK_undef {dst : Option Nat} {op : Op} {w : Bool} : gK P all R op dst rest e S w undef = regs P all R rest (putE dst undef e) S := nd rfl
theorem regsK_app {dst : Option Nat} {v : Value} : regsK P all R rest dst e v S = regs P all R rest (putE dst v e) S := nd rfl
theorem regQ_nil : regQ P all S RQ [] e = RQ e := nd rfl
theorem regQ_cons {dst : Option Nat} {op : Op} {ty : TypeId} {pos : String} {af : Array Edge} : regQ P all S RQ (⟨dst, op, ty, pos, af, none⟩ :: rest) e = aopP P op e S (regQK P all S RQ rest dst e) := nd rfl
theorem regQ_guard {dst : Option Nat} {op : Op} {ty : TypeId} {pos : String} {af : Array Edge} {j : Nat} {w : Bool} : regQ P all S RQ (⟨dst, op, ty, pos, af, some (j, w)⟩ :: rest) e =
  optK (dstAt all j) fun d' => optK (lk e d') (gQ P all S RQ op dst rest e w) := nd rfl
theorem gQ_truetrue {dst : Option Nat} {op : Op} : gQ P all S RQ op dst rest e true (.bool true) = aopP P op e S (regQK P all S RQ rest dst e) := nd rfl
theorem gQ_truefalse {dst : Option Nat} {op : Op} : gQ P all S RQ op dst rest e true (.bool false) = regQ P all S RQ rest (putE dst undef e) := nd rfl
theorem gQ_falsetrue {dst : Option Nat} {op : Op} : gQ P all S RQ op dst rest e false (.bool true) = regQ P all S RQ rest (putE dst undef e) := nd rfl
theorem gQ_falsefalse {dst : Option Nat} {op : Op} : gQ P all S RQ op dst rest e false (.bool false) = aopP P op e S (regQK P all S RQ rest dst e) := nd rfl
theorem gQ_undef {dst : Option Nat} {op : Op} {w : Bool} : gQ P all S RQ op dst rest e w undef = regQ P all S RQ rest (putE dst undef e) := nd rfl
theorem regQK_app {dst : Option Nat} {v : Value} : regQK P all S RQ rest dst e v = regQ P all S RQ rest (putE dst v e) := nd rfl
theorem regQC_nil : regQC P all ex S RQ [] e = RQ e := nd rfl
theorem regQC_cons {dst : Option Nat} {op : Op} {ty : TypeId} {pos : String} {af : Array Edge} : regQC P all ex S RQ (⟨dst, op, ty, pos, af, none⟩ :: rest) e = aopQ P ex op e S (regQCK P all ex S RQ rest dst e) := nd rfl
theorem regQC_guard {dst : Option Nat} {op : Op} {ty : TypeId} {pos : String} {af : Array Edge} {j : Nat} {w : Bool} : regQC P all ex S RQ (⟨dst, op, ty, pos, af, some (j, w)⟩ :: rest) e =
  optK (dstAt all j) fun d' => optK (lk e d') (gQC P all ex S RQ op dst rest e w) := nd rfl
theorem gQC_truetrue {dst : Option Nat} {op : Op} : gQC P all ex S RQ op dst rest e true (.bool true) = aopQ P ex op e S (regQCK P all ex S RQ rest dst e) := nd rfl
theorem gQC_truefalse {dst : Option Nat} {op : Op} : gQC P all ex S RQ op dst rest e true (.bool false) = regQC P all ex S RQ rest (putE dst undef e) := nd rfl
theorem gQC_falsetrue {dst : Option Nat} {op : Op} : gQC P all ex S RQ op dst rest e false (.bool true) = regQC P all ex S RQ rest (putE dst undef e) := nd rfl
theorem gQC_falsefalse {dst : Option Nat} {op : Op} : gQC P all ex S RQ op dst rest e false (.bool false) = aopQ P ex op e S (regQCK P all ex S RQ rest dst e) := nd rfl
theorem gQC_undef {dst : Option Nat} {op : Op} {w : Bool} : gQC P all ex S RQ op dst rest e w undef = regQC P all ex S RQ rest (putE dst undef e) := nd rfl
theorem regQCK_app {dst : Option Nat} {v : Value} : regQCK P all ex S RQ rest dst e v = regQC P all ex S RQ rest (putE dst v e) := nd rfl

theorem putE_some {i : Nat} {v : Value} : putE (some i) v e = (i, v) :: e := nd rfl
theorem putE_none {v : Value} : putE none v e = e := nd rfl
theorem dstAt_zero {dst : Option Nat} {op : Op} {ty : TypeId} {pos : String} {af : Array Edge} {g : Option (Nat × Bool)} : dstAt ((⟨dst, op, ty, pos, af, g⟩ :: rest).toArray) 0 = dst := nd rfl
theorem dstAt_succ {o : Oper} {n : Nat} : dstAt ((o :: rest).toArray) (n + 1) = dstAt rest.toArray n := by simp [dstAt]

theorem lk_cons {i j : Nat} {v : Value} : lk ((i, v) :: e) j = if i = j then some v else lk e j := nd rfl
theorem ev_tmp {t : Nat} : ev e (.tmp t) = lk e t := nd rfl
theorem ev_const {v : Value} : ev e (.const v) = some v := nd rfl
theorem ev_func {f : FuncId} : ev e (.func f) = some (.func (.func f) #[] #[]) := nd rfl
theorem evs_nil : evs e [] = some [] := nd rfl
theorem evs_cons {x : Operand} {xs : List Operand} : evs e (x :: xs) = (ev e x).bind fun v => (evs e xs).bind fun vs => some (v :: vs) := nd rfl
theorem lks_nil : lks e [] = some [] := nd rfl
theorem lks_cons {t : Nat} {ts : List Nat} : lks e (t :: ts) = (lk e t).bind fun v => (lks e ts).bind fun vs => some (v :: vs) := nd rfl
theorem some_bind {α β : Type} {x : α} {f : α → Option β} : (some x).bind f = f x := nd rfl

theorem boolK_bool {b : Bool} {KB : Bool → Prop} : boolK (.bool b) KB = KB b := nd rfl
theorem ifK_true {A B : Prop} : ifK true A B = A := nd rfl
theorem ifK_false {A B : Prop} : ifK false A B = B := nd rfl
theorem ifK_not {b : Bool} {A B : Prop} : ifK (!b) A B = ifK b B A := by cases b <;> rfl
theorem guardK_true {b : Bool} {A B : Prop} : guardK (.bool b) true A B = ifK b A B := by cases b <;> rfl
theorem guardK_false {b : Bool} {A B : Prop} : guardK (.bool b) false A B = ifK b B A := by cases b <;> rfl
theorem guardK_undef {w : Bool} {A B : Prop} : guardK undef w A B = B := nd rfl

theorem optK_congr {α : Type} {o o' : Option α} {k : α → Prop} (h : o = o') : optK o k = optK o' k := by rw [h]
theorem ifK_congr {b b' : Bool} {A B : Prop} (h : b = b') : ifK b A B = ifK b' A B := by rw [h]
theorem boolK_congr {v v' : Value} {k : Bool → Prop} (h : v = v') : boolK v k = boolK v' k := by rw [h]
theorem andK_congr {p p' A : Prop} (h : p = p') : andK p A = andK p' A := by rw [h]
theorem guardK_congr {v v' : Value} {w : Bool} {A B : Prop} (h : v = v') : guardK v w A B = guardK v' w A B := by rw [h]

theorem aop_move {x : Operand} : aop P (.move x) e S K = optK (ev e x) (kS S K) := nd rfl
theorem aop_assign {x : Operand} : aop P (.assign x) e S K = optK (ev e x) (kS S K) := nd rfl
theorem aop_pick {c a b : Operand} : aop P (.pick c a b) e S K = optK (ev e c) fun vc => boolK vc (pickK e a b (kS S K)) := nd rfl
theorem aop_bin {op : BinOp} {xt yt : TypeId} {x y : Operand} : aop P (.binOp op xt x y yt) e S K = optK (ev e x) fun vx => optK (ev e y) fun vy => optK (evBin P op xt vx vy) (kS S K) := nd rfl
theorem aop_un {op : UnOp} {xt : TypeId} {x : Operand} : aop P (.unOp op xt x) e S K = optK (ev e x) fun vx => optK (evUn op vx) (kS S K) := nd rfl
theorem aop_conv {s t : TypeId} {x : Operand} : aop P (.convert s t x) e S K = optK (ev e x) fun vx => optK (evConv P s t vx) (kS S K) := nd rfl
theorem aop_load {t : TypeId} {x : Operand} : aop P (.load t x) e S K = optK (ev e x) fun p => optK (ld S p) (kS S K) := nd rfl
theorem aop_nil {x : Operand} : aop P (.nilCheck x) e S K = optK (ev e x) fun p => andK (isPtr p = true) (K p S) := nd rfl
theorem aop_field {t : TypeId} {x : Operand} {f : Nat} : aop P (.fieldAddr t x f) e S K = optK (ev e x) fun p => andK (isPtr p = true) (K (eptr p f) S) := nd rfl
def ixK (v vi : Value) (k : Value → Prop) : Prop := match vi with | .int _ j => (0 ≤ j ∧ j < (slen v : Int)) ∧ k (eptr v j.toNat) | _ => False
theorem ixK_int {v : Value} {k : IntKind} {j : Int} {kp : Value → Prop} : ixK v (.int k j) kp = andK (0 ≤ j ∧ j < (slen v : Int)) (kp (eptr v j.toNat)) := nd rfl
theorem ixK_congr {v v' vi vi' : Value} {k : Value → Prop} (h : v = v') (h' : vi = vi') : ixK v vi k = ixK v' vi' k := by rw [h, h']
theorem ixK_nat {v : Value} {k : IntKind} {i : Nat} {kp : Value → Prop} (h : i < slen v) : ixK v (.int k (i : Int)) kp = kp (eptr v i) := by
  simp [ixK_int, andK]; intro _; exact h
theorem aop_index {t : TypeId} {x i : Operand} : aop P (.indexAddr t x i) e S K = optK (ev e x) fun v => optK (ev e i) fun vi => ixK v vi (kS S K) := nd rfl
theorem aop_extract {x : Operand} {i : Nat} : aop P (.extract x i) e S K = optK (ev e x) fun v => optK (evExt v i) (kS S K) := nd rfl
theorem aop_makeFunc {fn : Fn} {f c : Array Operand} : aop P (.makeFunc fn f c) e S K = optK (evs e f.toList) fun vf => optK (evs e c.toList) fun vc => andK ((vf.all atomB && vc.all atomB) = true) (K (.func fn vf.toArray vc.toArray) S) := nd rfl
theorem aop_slice {t : TypeId} {x : Operand} {lo hi : Option Operand} : aop P (.slice t x lo hi none) e S K = optK (ev e x) fun v => evIx e 0 lo fun l => evIx e (slen v) hi fun h => optK (slc S v l h) (kS S K) := nd rfl
theorem evIx_none {n : Nat} {k : Nat → Prop} : evIx e n none k = k n := nd rfl
def natK (v : Value) (k : Nat → Prop) : Prop := match v with | .int _ j => 0 ≤ j ∧ k j.toNat | _ => False
theorem evIx_some {n : Nat} {x : Operand} {k : Nat → Prop} : evIx e n (some x) k = optK (ev e x) fun v => natK v k := nd rfl
theorem natK_int {ki : IntKind} {j : Int} {k : Nat → Prop} : natK (.int ki j) k = andK (0 ≤ j) (k j.toNat) := nd rfl
theorem aop_len {x : Operand} {ats : Array TypeId} : aop P (.call ⟨.builtin .len, #[x], ats⟩) e S K = optK (ev e x) fun v => andK (isSl v = true) (K (.int .i64 (slen v)) S) := nd rfl
theorem aop_max {xs : Array Operand} {ats : Array TypeId} : aop P (.call ⟨.builtin .max, xs, ats⟩) e S K = optK (evs e xs.toList) fun vs => optK (evMax vs) (kS S K) := nd rfl
theorem aop_min {xs : Array Operand} {ats : Array TypeId} : aop P (.call ⟨.builtin .min, xs, ats⟩) e S K = optK (evs e xs.toList) fun vs => optK (evMin vs) (kS S K) := nd rfl
theorem aop_store {t : TypeId} {x y : Operand} : aop P (.store t x y) e S K = optK (ev e x) fun p => optK (ev e y) fun v => optK (st S p v) fun S' => andK (atomB v = true) (K undef S') := nd rfl
theorem aop_box {t : TypeId} {x : Operand} : aop P (.box t x) e S K = optK (ev e x) fun v => optK (boxCells v) fun cs => andK (cs.length ≤ 64) (K (.pointer (some ⟨S.length, 0, none⟩)) (S ++ [.own cs])) := nd rfl
theorem aop_build {t : TypeId} {parts : Array (Nat × Operand)} : aop P (.build t parts) e S K = optK (evs e (parts.toList.map (·.2))) fun vs => andK (vs.all atomB = true) (optK (evBuild P t (evIdx parts.toList vs)) (kS S K)) := nd rfl
theorem aop_buildSlice {t : TypeId} {len : Nat} {parts : Array (Nat × Operand)} : aop P (.buildSlice t len parts) e S K = optK (evs e (parts.toList.map (·.2))) fun vs => andK (vs.all atomB = true) (K (mk S.length len) (S ++ [.own vs])) := nd rfl
def makeK (P : Program) (t : TypeId) (vl : Value) (S : Store) (K : Value → Store → Prop) : Prop := match vl with
  | .int _ n => optK (zeroOf P t) fun z => (0 ≤ n ∧ n ≤ 1099511627776) ∧ K (mk S.length n.toNat) (S ++ [.own (List.replicate n.toNat z)])
  | _ => False
theorem makeK_int {t : TypeId} {k : IntKind} {n : Int} : makeK P t (.int k n) S K = optK (zeroOf P t) fun z => andK (0 ≤ n ∧ n ≤ 1099511627776) (K (mk S.length n.toNat) (S ++ [.own (List.replicate n.toNat z)])) := nd rfl
theorem aop_makeSlice {t : TypeId} {l c : Operand} : aop P (.makeSlice t l c) e S K = optK (ev e l) fun vl => makeK P t vl S K := nd rfl
theorem aop_append {s x : Operand} {ats : Array TypeId} : aop P (.call ⟨.builtin .append, #[s, x], ats⟩) e S K = optK (ev e s) fun sv => optK (ev e x) fun xv => optK (app S sv xv) fun p => andK (slen p.1 ≤ 1099511627776) (K p.1 p.2) := nd rfl
theorem aop_call {f : FuncId} {xs : Array Operand} {ats : Array TypeId} : aop P (.call ⟨.value (.func f), xs, ats⟩) e S K = optK (evs e xs.toList) fun vs => callK P f vs S K := by
  simp only [aop, ev, optK]
  cases evs e xs.toList <;> simp [callK]
def fnK (P : Program) (fv : Value) (vs : List Value) (S : Store) (K : Value → Store → Prop) : Prop := match fv with
  | .func (.func f) first captured => callable P f = true ∧ ACalls P f (first.toList ++ vs ++ captured.toList) S K
  | _ => False
theorem aop_callv {t : Nat} {xs : Array Operand} {ats : Array TypeId} : aop P (.call ⟨.value (.tmp t), xs, ats⟩) e S K = optK (lk e t) fun fv => optK (evs e xs.toList) fun vs => fnK P fv vs S K := nd rfl
theorem fnK_func {f : FuncId} {first captured : Array Value} {vs : List Value} : fnK P (.func (.func f) first captured) vs S K = callK P f (first.toList ++ vs ++ captured.toList) S K := nd rfl

theorem aopP_move {x : Operand} : aopP P (.move x) e S KP = optK (ev e x) KP := nd rfl
theorem aopP_assign {x : Operand} : aopP P (.assign x) e S KP = optK (ev e x) KP := nd rfl
theorem aopP_pick {c a b : Operand} : aopP P (.pick c a b) e S KP = optK (ev e c) fun vc => boolK vc (pickK e a b KP) := nd rfl
theorem aopP_bin {op : BinOp} {xt yt : TypeId} {x y : Operand} : aopP P (.binOp op xt x y yt) e S KP = optK (ev e x) fun vx => optK (ev e y) fun vy => optK (evBin P op xt vx vy) KP := nd rfl
theorem aopP_un {op : UnOp} {xt : TypeId} {x : Operand} : aopP P (.unOp op xt x) e S KP = optK (ev e x) fun vx => optK (evUn op vx) KP := nd rfl
theorem aopP_conv {s t : TypeId} {x : Operand} : aopP P (.convert s t x) e S KP = optK (ev e x) fun vx => optK (evConv P s t vx) KP := nd rfl
theorem aopP_load {t : TypeId} {x : Operand} : aopP P (.load t x) e S KP = optK (ev e x) fun p => optK (ld S p) KP := nd rfl
theorem aopP_nil {x : Operand} : aopP P (.nilCheck x) e S KP = optK (ev e x) fun p => andK (isPtr p = true) (KP p) := nd rfl
theorem aopP_field {t : TypeId} {x : Operand} {f : Nat} : aopP P (.fieldAddr t x f) e S KP = optK (ev e x) fun p => andK (isPtr p = true) (KP (eptr p f)) := nd rfl
theorem aopP_index {t : TypeId} {x i : Operand} : aopP P (.indexAddr t x i) e S KP = optK (ev e x) fun v => optK (ev e i) fun vi => ixK v vi KP := nd rfl
theorem aopP_extract {x : Operand} {i : Nat} : aopP P (.extract x i) e S KP = optK (ev e x) fun v => optK (evExt v i) KP := nd rfl
theorem aopP_slice {t : TypeId} {x : Operand} {lo hi : Option Operand} : aopP P (.slice t x lo hi none) e S KP = optK (ev e x) fun v => evIx e 0 lo fun l => evIx e (slen v) hi fun h => optK (slc S v l h) KP := nd rfl
theorem aopP_len {x : Operand} {ats : Array TypeId} : aopP P (.call ⟨.builtin .len, #[x], ats⟩) e S KP = optK (ev e x) fun v => andK (isSl v = true) (KP (.int .i64 (slen v))) := nd rfl
theorem aopP_max {xs : Array Operand} {ats : Array TypeId} : aopP P (.call ⟨.builtin .max, xs, ats⟩) e S KP = optK (evs e xs.toList) fun vs => optK (evMax vs) KP := nd rfl
theorem aopP_min {xs : Array Operand} {ats : Array TypeId} : aopP P (.call ⟨.builtin .min, xs, ats⟩) e S KP = optK (evs e xs.toList) fun vs => optK (evMin vs) KP := nd rfl
theorem aopQ_call {f : FuncId} {xs : Array Operand} {ats : Array TypeId} : aopQ P ex (.call ⟨.value (.func f), xs, ats⟩) e S KP = optK (evs e xs.toList) fun vs => callQK P ex f vs S KP := by
  simp only [aopQ, ev, optK]
  cases evs e xs.toList <;> simp [callQK]
theorem aopQ_builtin {b : Builtin} {xs : Array Operand} {ats : Array TypeId} : aopQ P ex (.call ⟨.builtin b, xs, ats⟩) e S KP = aopP P (.call ⟨.builtin b, xs, ats⟩) e S KP := nd rfl
theorem aopQ_move {x : Operand} : aopQ P ex (.move x) e S KP = optK (ev e x) KP := nd rfl
theorem aopQ_assign {x : Operand} : aopQ P ex (.assign x) e S KP = optK (ev e x) KP := nd rfl
theorem aopQ_pick {c a b : Operand} : aopQ P ex (.pick c a b) e S KP = aopP P (.pick c a b) e S KP := nd rfl
theorem aopQ_bin {op : BinOp} {xt yt : TypeId} {x y : Operand} : aopQ P ex (.binOp op xt x y yt) e S KP = aopP P (.binOp op xt x y yt) e S KP := nd rfl
theorem aopQ_un {op : UnOp} {xt : TypeId} {x : Operand} : aopQ P ex (.unOp op xt x) e S KP = aopP P (.unOp op xt x) e S KP := nd rfl
theorem aopQ_load {t : TypeId} {x : Operand} : aopQ P ex (.load t x) e S KP = aopP P (.load t x) e S KP := nd rfl
theorem aopQ_index {t : TypeId} {x i : Operand} : aopQ P ex (.indexAddr t x i) e S KP = aopP P (.indexAddr t x i) e S KP := nd rfl

section
variable {xt : TypeId} {k : IntKind} {a b : Int}
theorem bin_add : evBin P .add xt (.int k a) (.int k b) = some (.int k (k.wrap (a + b))) := by simp [evBin]
theorem bin_sub : evBin P .sub xt (.int k a) (.int k b) = some (.int k (k.wrap (a - b))) := by simp [evBin]
theorem bin_mul : evBin P .mul xt (.int k a) (.int k b) = some (.int k (k.wrap (a * b))) := by simp [evBin]
theorem bin_quo : evBin P .quo xt (.int k a) (.int k b) = if b = 0 then none else some (.int k (k.wrap (a.tdiv b))) := by simp [evBin]
theorem bin_rem : evBin P .rem xt (.int k a) (.int k b) = if b = 0 then none else some (.int k (a.tmod b)) := by simp [evBin]
theorem bin_xor : evBin P .xor xt (.int k a) (.int k b) = some (.int k (k.wrap (BitVec.ofInt k.bits a ^^^ BitVec.ofInt k.bits b).toNat)) := by simp [evBin]
theorem bin_eql : evBin P .eql xt (.int k a) (.int k b) = some (.bool (decide (a = b))) := by
  have : (a == b) = decide (a = b) := Bool.beq_eq_decide_eq a b
  simp [evBin, this]
theorem bin_neq : evBin P .neq xt (.int k a) (.int k b) = some (.bool (decide (¬ a = b))) := by
  have : (a != b) = decide (¬ a = b) := by rw [bne, Bool.beq_eq_decide_eq a b]; exact decide_not.symm
  simp [evBin, this]
theorem bin_lss : evBin P .lss xt (.int k a) (.int k b) = some (.bool (decide (a < b))) := by simp [evBin]
theorem bin_leq : evBin P .leq xt (.int k a) (.int k b) = some (.bool (decide (a ≤ b))) := by simp [evBin]
theorem bin_gtr : evBin P .gtr xt (.int k a) (.int k b) = some (.bool (decide (b < a))) := by simp [evBin]
theorem bin_geq : evBin P .geq xt (.int k a) (.int k b) = some (.bool (decide (b ≤ a))) := by simp [evBin]
theorem bin_beql {p q : Bool} (h : P.underlying xt = some .bool) : evBin P .eql xt (.bool p) (.bool q) = some (.bool (p == q)) := by simp [evBin, h]
theorem bin_bneq {p q : Bool} (h : P.underlying xt = some .bool) : evBin P .neq xt (.bool p) (.bool q) = some (.bool (p != q)) := by simp [evBin, h]
theorem un_not {p : Bool} : evUn .not (.bool p) = some (.bool !p) := nd rfl
theorem un_neg : evUn .neg (.int k a) = some (.int k (k.wrap (0 - a))) := nd rfl
end
theorem max_two {k k' : IntKind} {a b : Int} : evMax [.int k a, .int k' b] = some (.int k (max a b)) := by
  simp only [evMax, Option.some.injEq, Value.int.injEq, true_and]; omega
theorem min_two {k k' : IntKind} {a b : Int} : evMin [.int k a, .int k' b] = some (.int k (min a b)) := by
  simp only [evMin, Option.some.injEq, Value.int.injEq, true_and]; omega
theorem wrap64 {x : Int} (h : -9223372036854775808 ≤ x ∧ x ≤ 9223372036854775807) : IntKind.i64.wrap x = x := by rw [IntKind.wrap_i64]; omega
end

/-- The answer of a function that leaves the store alone. -/
def Ret (S : Store) (a : Value) (u : Value) (S' : Store) : Prop := u = a ∧ S = S'
theorem Ret.mk (S : Store) (a : Value) : Ret S a a S := ⟨rfl, rfl⟩
theorem Ret.bool {S : Store} {a b : Bool} (h : a = b) : Ret S (.bool b) (.bool a) S := by subst h; exact ⟨rfl, rfl⟩
theorem Ret.int {S : Store} {a b : Int} (h : a = b) : Ret S (.int .i64 b) (.int .i64 a) S := by subst h; exact ⟨rfl, rfl⟩
/-- .. of one that makes memory besides. -/
def RetX (S : Store) (a : Value) (u : Value) (S' : Store) : Prop := u = a ∧ Ext S S'
theorem Ret.toX {S S' : Store} {a u : Value} (h : Ret S a u S') : RetX S a u S' := by obtain ⟨h1, rfl⟩ := h; exact ⟨h1, Ext.refl _⟩

theorem aw_draw {P : Program} {id : Nat} {ops : Array Oper} {Q : AX → Env → Store → Prop} {e : Env} {S : Store} : aw P (.region id ops true) Q e S = DrawW P ops (Q .normal) e S := nd rfl
theorem toList_lit {α : Type} (l : List α) : l.toArray.toList = l := nd rfl

attribute [go_sem] aw_skip aw_seq aw_region aw_cond aw_block aw_exit aw_ret aw_draw thenK_normal thenK_exit thenK_ret blockK_normal blockK_ret blockK_exit retK_normal retK_ret resK_one resK_two resK_three
  regs_nil regs_cons regs_guard regsK_app regQ_nil regQ_cons regQ_guard regQK_app regQC_nil regQC_cons regQC_guard regQCK_app putE_some putE_none dstAt_zero dstAt_succ lk_cons ev_tmp ev_const ev_func evs_nil evs_cons lks_nil lks_cons some_bind
  optK_some boolK_bool ifK_true ifK_false ifK_not condK_true condK_false condK_not kS_app pickK_true pickK_false gK_truetrue gK_truefalse gK_falsetrue gK_falsefalse gK_undef gQ_truetrue gQ_truefalse gQ_falsetrue gQ_falsefalse gQ_undef gQC_truetrue gQC_truefalse gQC_falsetrue gQC_falsefalse gQC_undef andK_true aop_move aop_assign aop_pick aop_bin aop_un aop_conv aop_load aop_nil aop_field ixK_nat aop_index aop_extract aop_makeFunc aop_slice evIx_none evIx_some natK_int aop_len aop_max aop_min aop_store aop_box aop_build aop_buildSlice makeK_int aop_makeSlice aop_append aop_call aop_callv fnK_func
  aopP_move aopP_assign aopP_pick aopP_bin aopP_un aopP_conv aopP_load aopP_nil aopP_field aopP_index aopP_extract aopP_slice aopP_len aopP_max aopP_min aopQ_call aopQ_builtin aopQ_move aopQ_assign aopQ_pick aopQ_bin aopQ_un aopQ_load aopQ_index
  bin_add bin_sub bin_mul bin_quo bin_rem bin_xor bin_eql bin_neq bin_lss bin_leq bin_gtr bin_geq bin_beql bin_bneq un_not un_neg max_two min_two toList_lit
attribute [congr] optK_congr ifK_congr boolK_congr andK_congr guardK_congr ixK_congr
end Go.Mill

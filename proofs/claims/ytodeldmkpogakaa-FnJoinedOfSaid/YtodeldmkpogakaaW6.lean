/- Walks: drawing. -/
import Derived.Test.YtodeldmkpogakaaW1
import Derived.Test.YtodeldmkpogakaaMillM
namespace Go.Proofs.Ytodeldmkpogakaa
open Go Go.Mill
set_option maxRecDepth 100000
set_option linter.unusedSimpArgs false
set_option linter.unusedVariables false

theorem conv_u8 (a : Int) (h : 0 ≤ a ∧ a ≤ 255) : evConv Try.prog 5 3 (.int .u8 a) = some (.int .i64 a) := by
  simp only [evConv, Try.underlying5, Try.underlying3]
  rw [wrap64 (by omega)]
theorem pick_in {a b q p : Int} (ha : 0 ≤ a ∧ a ≤ 255) (hb : 0 ≤ b ∧ b ≤ 255) (hp : 0 ≤ p ∧ p ≤ 1000000) (hq : 0 ≤ q ∧ q ≤ p) :
    IntKind.i64.wrap (IntKind.i64.wrap (IntKind.i64.wrap (IntKind.i64.wrap (a * 131) + IntKind.i64.wrap (b * 1117)) + IntKind.i64.wrap (p * 29)) + IntKind.i64.wrap (IntKind.i64.wrap q * 53)) = a * 131 + b * 1117 + p * 29 + q * 53 := by
  rw [wrap64 (x := a * 131) (by omega), wrap64 (x := b * 1117) (by omega), wrap64 (x := p * 29) (by omega), wrap64 (x := q) (by omega), wrap64 (x := q * 53) (by omega), wrap64 (x := a * 131 + b * 1117) (by omega), wrap64 (x := a * 131 + b * 1117 + p * 29) (by omega), wrap64 (by omega)]
theorem tmod_in {x n : Int} (hx : 0 ≤ x) (hn : 1 ≤ n) : 0 ≤ x.tmod n ∧ x.tmod n < n := by
  rw [Int.tmod_eq_emod_of_nonneg hx]
  exact ⟨Int.emod_nonneg _ (by omega), Int.emod_lt_of_pos _ (by omega)⟩

theorem pick_c (m : Nat) (S : Store) (P : Value) (h : Nat) (bv : Value) (bs : List Int) (p : Nat) (R : Rdr m S P h bv bs p) (hp : p ≤ 1000000) (n : Int) :
    ACalls Try.prog 70 [P, .int .i64 n] S fun u S' => (∃ x, u = .int .i64 x ∧ 0 ≤ x ∧ (1 ≤ n → x < n) ∧ (n < 1 → x = 0)) ∧ S.set h (.own [bv, .int .i64 (p + 1 : Nat)]) = S' := by
  refine ACalls.intro (ts := [4]) 99 follows Try.func70 rfl (by kernel_rfl) (by kernel_rfl) (by simp) ?_
  have hP := R.isP
  have hst := R.st1
  have hb := R.sl
  have hl := R.blen
  have hw1 : IntKind.i64.wrap ((p : Int) + 1) = ((p + 1 : Nat) : Int) := wrap_succ (by omega)
  have hw2 : IntKind.i64.wrap (((p + 1 : Nat) : Int) - 1) = (p : Int) := by rw [wrap64 (by omega)]; omega
  simp only [go_sem, ↓reduceIte, Nat.reduceEqDiff, argEnv, hP, R.ld1, hst, hw1, eq_self]
  have R1 := R.step (p + 1)
  generalize S.set h (.own [bv, .int .i64 (p + 1 : Nat)]) = S1 at R1 ⊢
  have hg := R1.get
  refine gK_dec (fun q1 h1 => ?_) (fun q1 h1 => ?_)
  · simp only [go_sem, ↓reduceIte, Nat.reduceEqDiff, h1]
    exact ⟨⟨0, rfl, by omega, fun h => by omega, fun _ => rfl⟩, by trivial⟩
  simp only [go_sem, ↓reduceIte, Nat.reduceEqDiff, h1, hP, R1.ld0, hb, hl, eq_self]
  refine condK_dec (fun q2 h2 => ?_) (fun q2 h2 => ?_)
  · simp only [go_sem, ↓reduceIte, Nat.reduceEqDiff, h2]
    exact ⟨⟨0, rfl, by omega, fun h => by omega, fun _ => rfl⟩, by trivial⟩
  have hn0 : (n = 0) = False := by simp only [eq_iff_iff, iff_false]; omega
  simp only [go_sem, ↓reduceIte, Nat.reduceEqDiff, h2, hP, R1.ld1, hw2, R1.ld0, hb, hl, eq_self]
  refine condK_dec (fun q3 h3 => ?_) (fun q3 h3 => ?_)
  · have hlt : p < bs.length := by omega
    have hc := conv_u8 _ (R.pos p)
    simp only [go_sem, ↓reduceIte, Nat.reduceEqDiff, h3, hP, R1.ld0, hb, hl, eq_self, hlt, hg, hc, hn0]
    have ht := tmod_in (R.pos p).1 (show 1 ≤ n by omega)
    exact ⟨⟨_, rfl, ht.1, fun _ => ht.2, fun h => by omega⟩, by trivial⟩
  · have hl0 : ((bs.length : Int) = 0) = False := by simp only [eq_iff_iff, iff_false]; omega
    have hpos : 0 < bs.length := by omega
    have e1 : ((p : Int)).tmod (bs.length : Int) = ((p % bs.length : Nat) : Int) := by rw [Int.tmod_eq_emod_of_nonneg (by omega)]; rfl
    have e2 : IntKind.i64.wrap ((p : Int) * 7) = ((p * 7 : Nat) : Int) := by rw [wrap64 (by omega)]; omega
    have e3 : IntKind.i64.wrap (((p * 7 : Nat) : Int) + 3) = ((p * 7 + 3 : Nat) : Int) := by rw [wrap64 (by omega)]; omega
    have e4 : (((p * 7 + 3 : Nat) : Int)).tmod (bs.length : Int) = (((p * 7 + 3) % bs.length : Nat) : Int) := by rw [Int.tmod_eq_emod_of_nonneg (by omega)]; rfl
    have l1 : p % bs.length < bs.length := Nat.mod_lt _ hpos
    have l2 : (p * 7 + 3) % bs.length < bs.length := Nat.mod_lt _ hpos
    have c1 := conv_u8 _ (R.pos (p % bs.length))
    have c2 := conv_u8 _ (R.pos ((p * 7 + 3) % bs.length))
    have hq : 0 ≤ ((p : Int)).tdiv (bs.length : Int) ∧ ((p : Int)).tdiv (bs.length : Int) ≤ p := by
      rw [Int.tdiv_eq_ediv_of_nonneg (by omega)]
      exact ⟨Int.ediv_nonneg (by omega) (by omega), Int.ediv_le_self _ (by omega)⟩
    have hx := pick_in (R.pos (p % bs.length)) (R.pos ((p * 7 + 3) % bs.length)) (show 0 ≤ (p : Int) ∧ (p : Int) ≤ 1000000 by omega) hq
    have hX : 0 ≤ (bs.getD (p % bs.length) 0) * 131 + (bs.getD ((p * 7 + 3) % bs.length) 0) * 1117 + (p : Int) * 29 + ((p : Int)).tdiv (bs.length : Int) * 53 ∧ (bs.getD (p % bs.length) 0) * 131 + (bs.getD ((p * 7 + 3) % bs.length) 0) * 1117 + (p : Int) * 29 + ((p : Int)).tdiv (bs.length : Int) * 53 < 4611686018427387904 := by
      have := R.pos (p % bs.length)
      have := R.pos ((p * 7 + 3) % bs.length)
      omega
    have h64 : ((64 : Int) = 0) = False := by simp
    simp only [go_sem, ↓reduceIte, Nat.reduceEqDiff, h3]
    refine draw_read ?_ (by kernel_rfl)
    simp only [go_sem, ↓reduceIte, Nat.reduceEqDiff, hP, R1.ld0, hb, hl, eq_self, hl0, e1, e2, e3, e4, l1, l2, hg, c1, c2, hx]
    generalize bs.getD (p % bs.length) 0 * 131 + bs.getD ((p * 7 + 3) % bs.length) 0 * 1117 + (p : Int) * 29 + ((p : Int)).tdiv (bs.length : Int) * 53 = X at hX ⊢
    simp only [go_sem, ↓reduceIte, Nat.reduceEqDiff, h64, hn0]
    have hd : 0 ≤ IntKind.i64.wrap (X.tdiv 64) ∧ IntKind.i64.wrap (X.tdiv 64) < 4611686018427387904 := by
      rw [Int.tdiv_eq_ediv_of_nonneg hX.1, wrap64 (by omega)]
      omega
    have ht := tmod_in (xor_in hX hd) (show 1 ≤ n by omega)
    exact ⟨⟨_, rfl, ht.1, fun _ => ht.2, fun h => by omega⟩, by trivial⟩

theorem odd_c (m : Nat) (S : Store) (P : Value) (h : Nat) (bv : Value) (bs : List Int) (p : Nat) (R : Rdr m S P h bv bs p) (hp : p ≤ 1000000) (n : Int) (hn : 1 ≤ n ∧ n ≤ 1000) :
    ACalls Try.prog 71 [P, .int .i64 n] S fun u S' => (∃ b, u = .bool b) ∧ S.set h (.own [bv, .int .i64 (p + 1 : Nat)]) = S' := by
  refine ACalls.intro (ts := [4]) 15 follows Try.func71 rfl (by kernel_rfl) (by kernel_rfl) (by simp) ?_
  have hn1 : decide (0 < n) = true := by simp only [decide_eq_true_eq]; omega
  simp only [go_sem, ↓reduceIte, Nat.reduceEqDiff, argEnv, hn1]
  refine callK.intro (by kernel_rfl) (pick_c m S P h bv bs p R hp n) ?_
  rintro _ _ ⟨⟨x, rfl, hx1, hx2, hx3⟩, rfl⟩
  simp only [go_sem, ↓reduceIte, Nat.reduceEqDiff]
  exact ⟨⟨_, rfl⟩, by trivial⟩

theorem l20Open_c (S : Store) (v : Value) (xs : List Int) (hI : rd S v = some (xs.map (.int .u8))) (hx : xs.length ≤ maxLen) (hb : ∀ b ∈ xs, 0 ≤ b ∧ b ≤ 255) :
    ACalls Try.prog 56 [v] S fun u S' => ∃ bv bs, Rdr S.length S' u S.length bv bs 0 ∧ S ++ [.own [bv, .int .i64 0]] = S' := by
  refine ACalls.intro (ts := [2]) 11 follows Try.func56 rfl (by kernel_rfl) (by kernel_rfl) (by simp) ?_
  have hsl := rd_isSl hI
  have hlen : slen v = xs.length := by rw [rd_slen hI]; simp
  simp only [go_sem, ↓reduceIte, Nat.reduceEqDiff, argEnv, hsl, hlen]
  have hbuild : ∀ w, evBuild Try.prog 69 [(0, w)] = some (.agg #[w, .int .i64 0]) := fun w => by kernel_rfl
  have fin : ∀ (w : Value) (bs : List Int), rd S w = some (bs.map (.int .u8)) → bs.length ≤ 2000 → (∀ b ∈ bs, 0 ≤ b ∧ b ≤ 255) → Rdr S.length (S ++ [.own [w, .int .i64 0]]) (.pointer (some ⟨S.length, 0, none⟩)) S.length w bs 0 := fun w bs h1 h2 h3 =>
    ⟨rfl, Nat.le_refl _, own_last, fun S' hS' => rd_low h1 fun g hg => by rw [hS' g hg, List.getElem?_append_left hg], h2, fun i => by
      rcases Nat.lt_or_ge i bs.length with hi | hi
      · rw [List.getD_eq_getElem?_getD, List.getElem?_eq_getElem hi]; exact h3 _ (List.getElem_mem hi)
      · simp [List.getElem?_eq_none hi]⟩
  refine condK_dec (fun q1 h1 => ?_) (fun q1 h1 => ?_)
  · obtain ⟨w, hw, hr⟩ := slc_take hI (k := 2000) (by simp; omega)
    have hsw := rd_isSl hr
    simp only [go_sem, ↓reduceIte, Nat.reduceEqDiff, h1, hw, Int.reduceToNat, Int.reduceLE, atomB_sl hsw, hbuild]
    refine ⟨w, (xs.take 2000), fin _ _ (by rw [hr, List.map_take]) (by simp; omega) (fun b hb' => hb b (List.mem_of_mem_take hb')), rfl⟩
  · simp only [go_sem, ↓reduceIte, Nat.reduceEqDiff, h1, atomB_sl hsl, hbuild]
    exact ⟨v, xs, fin _ _ hI (by omega) hb, rfl⟩

/-- A drawn table: its rows are as long as it has rows. -/
def Drawn (b : Nat) (S : Store) (v : Value) (d : List (List Int)) : Prop := ∃ t g, OT b S v t g d

theorem zero_int6 : zeroOf Try.prog 32 = some (.int .i64 0) := by kernel_rfl
theorem l20Far_c (m : Nat) (S : Store) (P : Value) (h : Nat) (bv : Value) (bs : List Int) (p : Nat) (R : Rdr m S P h bv bs p) (hp : p ≤ 100000) (most : Int) (hm : 1 ≤ most ∧ most ≤ 10) :
    ACalls Try.prog 75 [P, .int .i64 most] S fun u S' => ∃ d p', Drawn (h + 1) S' u d ∧ Rdr m S' P h bv bs p' ∧ p' ≤ p + 200 ∧ Pre h S S' ∧ 1 ≤ d.length ∧ (d.length : Int) ≤ most ∧ ∀ i, i < d.length → (d.getD i []).length = d.length := by
  refine ACalls.intro (ts := [4]) 61 follows Try.func75 rfl (by kernel_rfl) (by kernel_rfl) (by simp) ?_
  have hh := R.len
  simp only [go_sem, ↓reduceIte, Nat.reduceEqDiff, argEnv]
  refine callK.intro (by kernel_rfl) (pick_c m S P h bv bs p R (by omega) most) ?_
  rintro _ _ ⟨⟨x, rfl, hx1, hx2, hx3⟩, rfl⟩
  simp only [go_sem, ↓reduceIte, Nat.reduceEqDiff]
  have R1 := R.step (p + 1)
  have P1 : Pre h S (S.set h (.own [bv, .int .i64 (p + 1 : Nat)])) := (Pre.refl _ _).set (Nat.le_refl _) _
  generalize S.set h (.own [bv, .int .i64 (p + 1 : Nat)]) = S1 at R1 P1 ⊢
  obtain ⟨k, rfl⟩ := Int.eq_ofNat_of_zero_le hx1
  have hx4 := hx2 (by omega)
  have hw : IntKind.i64.wrap (1 + (k : Int)) = ((k + 1 : Nat) : Int) := by rw [wrap64 (by omega)]; omega
  obtain ⟨n, hn⟩ : ∃ n, n = k + 1 := ⟨_, rfl⟩
  rw [← hn] at hw
  have hn1 : 1 ≤ n ∧ (n : Int) ≤ most := by omega
  have hN : n ≤ 9223372036854775807 := by omega
  have hn2 : n ≤ 1099511627776 := by omega
  clear hn hx1 hx2 hx3 hx4
  simp only [go_sem, ↓reduceIte, Nat.reduceEqDiff, hw]
  have R2 := R1.app [.own []]
  have P2 := P1.app (by have := R1.len; omega) [.own []]
  have O2 : OT (h + 1) (S1 ++ [.own []]) (mk S1.length 0) S1.length (fun _ => 0) [] := OT.none R1.len
  generalize S1 ++ [.own []] = S2 at R2 P2 O2 ⊢
  generalize mk S1.length 0 = v2 at O2 ⊢
  refine aw_count 7 [0, 5] (fun (y : Value) => [(6, y)]) (0) (n) (fun i y SS => Rdr m SS P h bv bs (p + 1) ∧ Pre h S SS ∧ ∃ t g, OT (h + 1) SS y t g (List.replicate i (List.replicate n 0))) (v2) ?_ ?_ ?_ ?_
  · simp only [go_sem, ↓reduceIte, Nat.reduceEqDiff, and_self, and_true, true_and, Int.ofNat_zero, Int.ofNat_one, Int.cast_ofNat_Int]
  · omega
  rotate_left
  rintro i y Si hi0 hi ⟨R3, P3, t, g, O3⟩
  simp only [go_sem, ↓reduceIte, Nat.reduceEqDiff]
  refine condK_lt hi (fun hi => ?_) (fun he => ?_)
  · obtain ⟨v', S', ha, hs, hpre, t', g', O4⟩ := O3.grow R3.len (List.replicate n 0)
    have hsm : (slen v' ≤ 1099511627776) = True := by simp only [eq_iff_iff, iff_true, hs, List.length_replicate]; omega
    rw [List.length_replicate] at ha
    have hl : (Si ++ [.own (ints (List.replicate n 0))] : Store).length = Si.length + 1 := by simp
    simp only [go_sem, ↓reduceIte, Nat.reduceEqDiff, makeK_nat hn2, zero_int6, replicate_ints, hl, ha, hsm]
    refine forK_step (v') hi hi0 ?_ ?_
    · have hib := Nat.lt_of_lt_of_le hi hN; simp only [go_sem, ↓reduceIte, Nat.reduceEqDiff, and_self, and_true, true_and, Int.ofNat_zero, Int.ofNat_one, Int.cast_ofNat_Int, wrap_succ hib]
    refine ⟨R3.pre hpre, P3.trans (hpre.mono (by omega)), t', g', ?_⟩
    rw [List.replicate_succ']
    exact O4
  · subst he
    have hS3 : OS (h + 1) Si y t g (List.replicate i (List.replicate i 0)) i := ⟨O3, by simp, fun j hj => by simp [List.getElem?_replicate, hj]⟩
    have hlt3 := R3.len
    simp only [go_sem, ↓reduceIte, Nat.reduceEqDiff]
    have R4 := R3.app [.own [.int .i64 2, .int .i64 5, .int .i64 12, .int .i64 30]]
    have O4 := hS3.app [.own [.int .i64 2, .int .i64 5, .int .i64 12, .int .i64 30]]
    have P4 := P3.app (by omega) [.own [.int .i64 2, .int .i64 5, .int .i64 12, .int .i64 30]]
    refine callK.intro (by kernel_rfl) (pick_c m _ P h bv bs (p + 1) R4 (by omega) 4) ?_
    rintro _ _ ⟨⟨z, rfl, hz1, hz2, -⟩, rfl⟩
    simp only [go_sem, ↓reduceIte, Nat.reduceEqDiff]
    obtain ⟨z, rfl⟩ := Int.eq_ofNat_of_zero_le hz1
    have hz4 : z < 4 := by have := hz2 (by omega); omega
    have R5 := R4.step (p + 1 + 1)
    have O5 := O4.below (Nat.lt_succ_self h) (.own [bv, .int .i64 (p + 1 + 1 : Nat)])
    have P5 := P4.set (Nat.le_refl h) (.own [bv, .int .i64 (p + 1 + 1 : Nat)])
    have hld : ∃ w, ld ((Si ++ [Ob.own [.int .i64 2, .int .i64 5, .int .i64 12, .int .i64 30]]).set h (Ob.own [bv, .int .i64 (p + 1 + 1 : Nat)])) (eptr (mk Si.length 4) z) = some (.int .i64 w) := by
      rw [ld_own (own_set_ne own_last (by omega))]
      match z, hz4 with
      | 0, _ => exact ⟨2, rfl⟩
      | 1, _ => exact ⟨5, rfl⟩
      | 2, _ => exact ⟨12, rfl⟩
      | 3, _ => exact ⟨30, rfl⟩
    generalize (Si ++ [Ob.own [.int .i64 2, .int .i64 5, .int .i64 12, .int .i64 30]]).set h (Ob.own [bv, .int .i64 (p + 1 + 1 : Nat)]) = S5 at R5 O5 P5 hld ⊢
    obtain ⟨w, hw5⟩ := hld
    simp only [go_sem, ↓reduceIte, Nat.reduceEqDiff, hz4, hw5]
    refine aw_count 9 [0, 5, 6, 8] (fun (u : Unit) => []) (0) (i) (fun k u SS => ∃ q d, Rdr m SS P h bv bs q ∧ q ≤ p + 2 + 10 * k ∧ Pre h S SS ∧ OS (h + 1) SS y t g d i) (()) ?_ ?_ ?_ ?_
    · simp only [go_sem, ↓reduceIte, Nat.reduceEqDiff, and_self, and_true, true_and, Int.ofNat_zero, Int.ofNat_one, Int.cast_ofNat_Int]
    · omega
    rotate_left
    rintro k u Sk hk0 hk ⟨q, d, R6, hq, P6, O6⟩
    simp only [go_sem, ↓reduceIte, Nat.reduceEqDiff]
    refine condK_lt hk (fun hk => ?_) (fun he => ?_)
    · simp only [go_sem, ↓reduceIte, Nat.reduceEqDiff]
      have hNk : k ≤ 9223372036854775807 := by omega
      refine aw_count 10 [0, 5, 6, 8, 9] (fun (u2 : Unit) => []) (0) (k) (fun j u2 SS => ∃ q d, Rdr m SS P h bv bs q ∧ q ≤ p + 2 + 10 * k + j ∧ Pre h S SS ∧ OS (h + 1) SS y t g d i) (()) ?_ ?_ ?_ ?_
      · simp only [go_sem, ↓reduceIte, Nat.reduceEqDiff, and_self, and_true, true_and, Int.ofNat_zero, Int.ofNat_one, Int.cast_ofNat_Int]
      · omega
      rotate_left
      rintro j u2 Sj hj0 hj ⟨q, d, R6, hq, P6, O6⟩
      simp only [go_sem, ↓reduceIte, Nat.reduceEqDiff]
      refine condK_lt hj (fun hj => ?_) (fun he => ?_)
      · have hj' : j < i := by omega
        simp only [go_sem, ↓reduceIte, Nat.reduceEqDiff]
        refine callK.intro (by kernel_rfl) (pick_c m _ P h bv bs q R6 (by omega) w) ?_
        rintro _ _ ⟨⟨z2, rfl, hz1, hz2, -⟩, rfl⟩
        simp only [go_sem, ↓reduceIte, Nat.reduceEqDiff]
        have R7 := R6.step (q + 1)
        have O7 := O6.below (Nat.lt_succ_self h) (.own [bv, .int .i64 (q + 1 : Nat)])
        have P7 := P6.set (Nat.le_refl h) (.own [bv, .int .i64 (q + 1 : Nat)])
        generalize List.set _ h (Ob.own [bv, .int .i64 (q + 1 : Nat)]) = S7 at R7 O7 P7 ⊢
        generalize IntKind.i64.wrap (1 + z2) = X
        have O8 := O7.put k j hk hj' X
        have g1 := O7.bg k hk
        have g2 := O7.bg j hj'
        have R8 := R7.set (q := g k) (by omega) (.own (ints ((d.getD k []).set j X)))
        have P8 := P7.set (i := g k) (by omega) (.own (ints ((d.getD k []).set j X)))
        have O9 := O8.put j k hj' hk X
        have R9 := R8.set (q := g j) (by omega) (.own (ints (((put2 d k j X).getD j []).set k X)))
        have P9 := P8.set (i := g j) (by omega) (.own (ints (((put2 d k j X).getD j []).set k X)))
        simp only [go_sem, ↓reduceIte, Nat.reduceEqDiff, hk, hj', O7.sl, O7.slen, O7.get, O7.rsl, O7.rlen, O7.st, O8.get, O8.rsl, O8.rlen, O8.st]
        refine forK_step (()) hj hj0 ?_ ?_
        · have hib := Nat.lt_of_lt_of_le hj hNk; simp only [go_sem, ↓reduceIte, Nat.reduceEqDiff, and_self, and_true, true_and, Int.ofNat_zero, Int.ofNat_one, Int.cast_ofNat_Int, wrap_succ hib]
        exact ⟨q + 1, _, R9, by omega, P9, O9⟩
      · subst he
        simp only [go_sem, ↓reduceIte, Nat.reduceEqDiff]
        refine forK_step (()) hk hk0 ?_ ?_
        · have hib := Nat.lt_of_lt_of_le hk hN; simp only [go_sem, ↓reduceIte, Nat.reduceEqDiff, and_self, and_true, true_and, Int.ofNat_zero, Int.ofNat_one, Int.cast_ofNat_Int, wrap_succ hib]
        exact ⟨q, d, R6, by omega, P6, O6⟩
      · exact ⟨q, d, R6, by omega, P6, O6⟩
    · subst he
      simp only [go_sem, ↓reduceIte, Nat.reduceEqDiff]
      exact ⟨d, q, ⟨t, g, O6.ot⟩, R6, by omega, P6, by rw [O6.len]; omega, by rw [O6.len]; omega, by rw [O6.len]; exact O6.sq⟩
    · exact ⟨p + 2, _, R5, by omega, P5, O5⟩
  · exact ⟨R2, P2, _, _, O2⟩

theorem DrawFarOk_c (S : Store) (v : Value) (xs : List Int) (hI : rd S v = some (xs.map (.int .u8))) (hx : xs.length ≤ maxLen) (hb : ∀ b ∈ xs, 0 ≤ b ∧ b ≤ 255) :
    ACalls Try.prog 61 [v] S fun u S' => ∃ r d, Mat S' u r d ∧ Ext S S' ∧ d.length ≤ 6 ∧ ∀ j, (d.getD j []).length ≤ 6 := by
  refine ACalls.intro (ts := [2]) 48 follows Try.func61 rfl (by kernel_rfl) (by kernel_rfl) (by simp) ?_
  simp only [go_sem, ↓reduceIte, Nat.reduceEqDiff, argEnv]
  refine callK.intro (by kernel_rfl) (l20Open_c S v xs hI hx hb) ?_
  rintro P _ ⟨bv, bs, R, rfl⟩
  simp only [go_sem, ↓reduceIte, Nat.reduceEqDiff]
  have P1 : Pre S.length S (S ++ [.own [bv, .int .i64 0]]) := (Pre.refl _ _).app (Nat.le_refl _) _
  generalize S ++ [Ob.own [bv, .int .i64 0]] = S1 at R P1 ⊢
  refine callK.intro (by kernel_rfl) (l20Far_c _ _ P _ bv bs 0 R (by omega) 6 (by omega)) ?_
  rintro y S2 ⟨d, p, ⟨t, g, O⟩, R2, hp, P2, hl1, hl2, hsq⟩
  have O2 : OS (S.length + 1) S2 y t g d d.length := ⟨O, rfl, hsq⟩
  replace P2 := P1.trans P2
  simp only [go_sem, ↓reduceIte, Nat.reduceEqDiff]
  refine callK.intro (by kernel_rfl) (pick_c _ _ P _ bv bs p R2 (by omega) 2) ?_
  rintro _ _ ⟨⟨x, rfl, hx1, hx2, hx3⟩, rfl⟩
  simp only [go_sem, ↓reduceIte, Nat.reduceEqDiff]
  have R3 := R2.step (p + 1)
  have O3 := O2.below (Nat.lt_succ_self _) (.own [bv, .int .i64 (p + 1 : Nat)])
  have P3 := P2.set (Nat.le_refl _) (.own [bv, .int .i64 (p + 1 : Nat)])
  clear O2 P2 R2
  generalize List.set S2 S.length (Ob.own [bv, .int .i64 (p + 1 : Nat)]) = S3 at R3 O3 P3 ⊢
  refine condK_dec (fun q1 h1 => ?_) (fun q1 h1 => ?_)
  · simp only [go_sem, ↓reduceIte, Nat.reduceEqDiff, h1]
    refine callK.intro (by kernel_rfl) (pick_c _ _ P _ bv bs (p + 1) R3 (by omega) 4) ?_
    rintro _ _ ⟨⟨z, rfl, hz1, hz2, hz3⟩, rfl⟩
    simp only [go_sem, ↓reduceIte, Nat.reduceEqDiff]
    have R4 := R3.step (p + 1 + 1)
    have O4 := O3.below (Nat.lt_succ_self _) (.own [bv, .int .i64 (p + 1 + 1 : Nat)])
    have P4 := P3.set (Nat.le_refl _) (.own [bv, .int .i64 (p + 1 + 1 : Nat)])
    clear O3 P3 R3
    generalize List.set S3 S.length (Ob.own [bv, .int .i64 (p + 1 + 1 : Nat)]) = S4 at R4 O4 P4 ⊢
    have h0 : 0 < d.length := by omega
    have hlen := R4.len
    have hw : IntKind.i64.wrap ((d.length : Int) - 1) = ((d.length - 1 : Nat) : Int) := wrap_pred (by omega) (by omega)
    have hl3 : d.length - 1 < d.length := by omega
    refine condK_dec (fun q2 h2 => ?_) (fun q2 h2 => ?_)
    · simp only [go_sem, ↓reduceIte, Nat.reduceEqDiff, h2]
      exact ⟨fun _ => undef, [], ⟨rd_own own_last rfl, fun i hi => absurd hi (Nat.not_lt_zero _)⟩, (P4.app (by omega) _).ext, by simp, by simp⟩
    · simp only [go_sem, ↓reduceIte, Nat.reduceEqDiff, h2]
      refine condK_dec (fun q3 h3 => ?_) (fun q3 h3 => ?_)
      · simp only [go_sem, ↓reduceIte, Nat.reduceEqDiff, h3]
        refine .tail 16 ?_ (by kernel_rfl)
        simp only [go_sem, ↓reduceIte, Nat.reduceEqDiff, List.take_succ_cons, List.take_zero, List.drop_succ_cons, List.drop_zero, O4.sl, O4.slen, ixK_zero, O4.get, O4.rsl, O4.rlen, h0, hw, hl3, O4.cell, O4.st]
        have O5 := O4.put 0 (d.length - 1) h0 hl3 (IntKind.i64.wrap (at2 d 0 (d.length - 1) + 1))
        have P5 := P4.set (i := g 0) (by have := O4.bg 0 h0; omega) (.own (ints ((d.getD 0 []).set (d.length - 1) (IntKind.i64.wrap (at2 d 0 (d.length - 1) + 1)))))
        exact ⟨_, _, O5.ot.mat, P5.ext, by rw [put2_len]; omega, fun j => by have := O5.rows j; omega⟩
      · simp only [go_sem, ↓reduceIte, Nat.reduceEqDiff, h3]
        refine condK_dec (fun q4 h4 => ?_) (fun q4 h4 => ?_)
        · have hq0 := O4.sq 0 h0
          obtain ⟨w, hw1, hw2, hw3⟩ := slc_tail (O4.ot.row 0 h0) rfl (by omega)
          have hne := O4.ot.ne 0 h0
          obtain ⟨hs1, hs2⟩ := O4.ot.setTop h0 (S1 := S4) (w := w) (fun _ _ _ => rfl) rfl (fun ob => hw3 _ (List.getElem?_set_ne hne.symm))
          have hw1' : slc S4 (orow g d 0) 1 d.length = some w := by have := hw1; rw [hq0] at this; unfold orow; rw [hq0]; exact this
          have hsm : ((1 : Int) ≥ 0) = True := by simp
          simp only [go_sem, ↓reduceIte, Nat.reduceEqDiff, h4, O4.sl, O4.slen, ixK_zero, O4.get, O4.rsl, O4.rlen, h0, Int.reduceToNat, Int.reduceLE, hw1', hs1, atomB_sl hw2]
          have P5 := P4.set (i := t) (by have := O4.ot.bt; omega) (.own ((tops g d).set 0 w))
          exact ⟨_, _, hs2, P5.ext, by rw [List.length_set]; omega, rows_set (fun j => by have := O4.rows j; omega) (by rw [List.length_tail, hq0]; omega)⟩
        · simp only [go_sem, ↓reduceIte, Nat.reduceEqDiff, h4, O4.sl, O4.slen, ixK_zero, O4.get, O4.rsl, O4.rlen, h0, O4.st]
          have O5 := O4.put 0 0 h0 h0 (-1)
          have P5 := P4.set (i := g 0) (by have := O4.bg 0 h0; omega) (.own (ints ((d.getD 0 []).set 0 (-1))))
          exact ⟨_, _, O5.ot.mat, P5.ext, by rw [put2_len]; omega, fun j => by have := O5.rows j; omega⟩
  · simp only [go_sem, ↓reduceIte, Nat.reduceEqDiff, h1]
    exact ⟨_, _, O3.ot.mat, P3.ext, by omega, fun j => by have := O3.rows j; omega⟩

theorem l20Closed_c (b : Nat) (S : Store) (v : Value) (t : Nat) (g : Nat → Nat) (d : List (List Int)) (n : Nat) (hn : n ≤ 1000) (O : OS b S v t g d n) :
    ACalls Try.prog 110 [v] S fun u S' => u = v ∧ ∃ d', OS b S' v t g d' n ∧ Pre b S S' := by
  refine ACalls.intro (ts := [2]) 54 follows Try.func110 rfl (by kernel_rfl) (by kernel_rfl) (by simp) ?_
  have hN : n ≤ 9223372036854775807 := by omega
  have hsl := O.sl
  have hlen := O.slen
  simp only [go_sem, ↓reduceIte, Nat.reduceEqDiff, argEnv]
  refine aw_count 3 [0] (fun (y : Unit) => []) (0) (n) (fun m y SS => ∃ d', OS b SS v t g d' n ∧ Pre b S SS) (()) ?_ ?_ ?_ ?_
  · simp only [go_sem, ↓reduceIte, Nat.reduceEqDiff, and_self, and_true, true_and, Int.ofNat_zero, Int.ofNat_one, Int.cast_ofNat_Int, hsl, hlen]
  · omega
  rotate_left
  rintro m y Sm hm0 hm ⟨d1, O1, P1⟩
  simp only [go_sem, ↓reduceIte, Nat.reduceEqDiff, hsl, hlen]
  refine condK_lt hm (fun hm => ?_) (fun he => ?_)
  · simp only [go_sem, ↓reduceIte, Nat.reduceEqDiff]
    refine aw_count 4 [0, 3] (fun (y2 : Unit) => []) (0) (n) (fun k y2 SS => ∃ d', OS b SS v t g d' n ∧ Pre b S SS) (()) ?_ ?_ ?_ ?_
    · simp only [go_sem, ↓reduceIte, Nat.reduceEqDiff, and_self, and_true, true_and, Int.ofNat_zero, Int.ofNat_one, Int.cast_ofNat_Int, hsl, hlen]
    · omega
    rotate_left
    rintro k y2 Sk hk0 hk ⟨d2, O2, P2⟩
    simp only [go_sem, ↓reduceIte, Nat.reduceEqDiff, hsl, hlen]
    refine condK_lt hk (fun hk => ?_) (fun he => ?_)
    · simp only [go_sem, ↓reduceIte, Nat.reduceEqDiff]
      refine aw_count 5 [0, 3, 4] (fun (y3 : Unit) => []) (0) (n) (fun j y3 SS => ∃ d', OS b SS v t g d' n ∧ Pre b S SS) (()) ?_ ?_ ?_ ?_
      · simp only [go_sem, ↓reduceIte, Nat.reduceEqDiff, and_self, and_true, true_and, Int.ofNat_zero, Int.ofNat_one, Int.cast_ofNat_Int, hsl, hlen]
      · omega
      rotate_left
      rintro j y3 Sj hj0 hj ⟨d3, O3, P3⟩
      simp only [go_sem, ↓reduceIte, Nat.reduceEqDiff, hsl, hlen]
      refine condK_lt hj (fun hj => ?_) (fun he => ?_)
      · refine .tail 29 ?_ (by kernel_rfl)
        simp only [go_sem, ↓reduceIte, Nat.reduceEqDiff, List.take_succ_cons, List.take_zero, List.drop_succ_cons, List.drop_zero, hsl, hlen, hm, hk, hj, O3.get, O3.rsl, O3.rlen, O3.cell, O3.st]
        refine forK_step (()) hj hj0 ?_ ?_
        · have hib := Nat.lt_of_lt_of_le hj hN; simp only [go_sem, ↓reduceIte, Nat.reduceEqDiff, and_self, and_true, true_and, Int.ofNat_zero, Int.ofNat_one, Int.cast_ofNat_Int, wrap_succ hib]
        exact ⟨_, O3.put k j hk hj _, P3.set (O3.bg k hk) _⟩
      · subst he
        simp only [go_sem, ↓reduceIte, Nat.reduceEqDiff]
        refine forK_step (()) hk hk0 ?_ ?_
        · have hib := Nat.lt_of_lt_of_le hk hN; simp only [go_sem, ↓reduceIte, Nat.reduceEqDiff, and_self, and_true, true_and, Int.ofNat_zero, Int.ofNat_one, Int.cast_ofNat_Int, wrap_succ hib]
        exact ⟨d3, O3, P3⟩
      · exact ⟨d2, O2, P2⟩
    · subst he
      simp only [go_sem, ↓reduceIte, Nat.reduceEqDiff]
      refine forK_step (()) hm hm0 ?_ ?_
      · have hib := Nat.lt_of_lt_of_le hm hN; simp only [go_sem, ↓reduceIte, Nat.reduceEqDiff, and_self, and_true, true_and, Int.ofNat_zero, Int.ofNat_one, Int.cast_ofNat_Int, wrap_succ hib]
      exact ⟨d2, O2, P2⟩
    · exact ⟨d1, O1, P1⟩
  · subst he
    simp only [go_sem, ↓reduceIte, Nat.reduceEqDiff]
    exact ⟨by trivial, d1, O1, P1⟩
  · exact ⟨d, O, Pre.refl _ _⟩

theorem l20Space_c (m : Nat) (S : Store) (P : Value) (h : Nat) (bv : Value) (bs : List Int) (p : Nat) (R : Rdr m S P h bv bs p) (hp : p ≤ 100000) (most : Int) (hm : 1 ≤ most ∧ most ≤ 10) (n : Int) (hn : 1 ≤ n ∧ n ≤ 1000) :
    ACalls Try.prog 100 [P, .int .i64 most, .int .i64 n] S fun u S' => ∃ r d p', MatH (h + 1) S' u r d ∧ Rdr m S' P h bv bs p' ∧ p' ≤ p + 300 ∧ Pre h S S' ∧ (d.length : Int) ≤ most ∧ ∀ j, (d.getD j []).length ≤ 11 := by
  refine ACalls.intro (ts := [6]) 82 follows Try.func100 rfl (by kernel_rfl) (by kernel_rfl) (by simp) ?_
  have hh := R.len
  simp only [go_sem, ↓reduceIte, Nat.reduceEqDiff, argEnv]
  refine callK.intro (by kernel_rfl) (l20Far_c m S P h bv bs p R hp most hm) ?_
  rintro v S1 ⟨d, p1, ⟨t, g, O⟩, R1, hp1, P1, hl1, hl2, hsq⟩
  have O1 : OS (h + 1) S1 v t g d d.length := ⟨O, rfl, hsq⟩
  obtain ⟨k, hk⟩ : ∃ k, k = d.length := ⟨_, rfl⟩
  rw [← hk] at O1 hl1 hl2
  clear O hsq hk
  simp only [go_sem, ↓reduceIte, Nat.reduceEqDiff]
  refine callK.intro (by kernel_rfl) (l20Closed_c (h + 1) S1 v t g d k (by omega) O1) ?_
  rintro u2 S2 ⟨hu, d2, O2, Q2⟩
  replace hu := hu.symm
  subst hu
  have R2 := R1.pre Q2
  have P2 := P1.trans (Q2.mono (Nat.le_succ h))
  clear O1 R1 P1 Q2
  simp only [go_sem, ↓reduceIte, Nat.reduceEqDiff]
  refine callK.intro (by kernel_rfl) (pick_c m S2 P h bv bs p1 R2 (by omega) 4) ?_
  rintro _ _ ⟨⟨x, rfl, hx1, hx2, hx3⟩, rfl⟩
  simp only [go_sem, ↓reduceIte, Nat.reduceEqDiff]
  have R3 := R2.step (p1 + 1)
  have O3 := O2.below (Nat.lt_succ_self h) (.own [bv, .int .i64 (p1 + 1 : Nat)])
  have P3 := P2.set (Nat.le_refl h) (.own [bv, .int .i64 (p1 + 1 : Nat)])
  clear O2 R2 P2
  generalize List.set S2 h (Ob.own [bv, .int .i64 (p1 + 1 : Nat)]) = S3 at R3 O3 P3 ⊢
  have hsl := O3.sl
  have hlen := O3.slen
  have hN : k ≤ 9223372036854775807 := by omega
  refine condK_dec (fun q1 h1 => ?_) (fun q1 h1 => ?_)
  · simp only [go_sem, ↓reduceIte, Nat.reduceEqDiff, h1]
    refine aw_count 8 [0, 2, 7] (fun (y : Unit) => []) (0) (k) (fun i y SS => ∃ d4, Rdr m SS P h bv bs (p1 + 1) ∧ OS (h + 1) SS v t g d4 k ∧ Pre h S SS) (()) ?_ ?_ ?_ ?_
    · simp only [go_sem, ↓reduceIte, Nat.reduceEqDiff, and_self, and_true, true_and, Int.ofNat_zero, Int.ofNat_one, Int.cast_ofNat_Int, hsl, hlen]
    · omega
    rotate_left
    rintro i y Si hi0 hi ⟨d4, R4, O4, P4⟩
    simp only [go_sem, ↓reduceIte, Nat.reduceEqDiff, hsl, hlen]
    refine condK_lt hi (fun hi => ?_) (fun he => ?_)
    · simp only [go_sem, ↓reduceIte, Nat.reduceEqDiff]
      refine aw_count 9 [0, 2, 7, 8] (fun (y2 : Unit) => []) (0) (k) (fun j y2 SS => ∃ d4, Rdr m SS P h bv bs (p1 + 1) ∧ OS (h + 1) SS v t g d4 k ∧ Pre h S SS) (()) ?_ ?_ ?_ ?_
      · simp only [go_sem, ↓reduceIte, Nat.reduceEqDiff, and_self, and_true, true_and, Int.ofNat_zero, Int.ofNat_one, Int.cast_ofNat_Int, hsl, hlen]
      · omega
      rotate_left
      rintro j y2 Sj hj0 hj ⟨d5, R5, O5, P5⟩
      simp only [go_sem, ↓reduceIte, Nat.reduceEqDiff, hsl, hlen]
      refine condK_lt hj (fun hj => ?_) (fun he => ?_)
      · have h3 : ((3 : Int) = 0) = False := by simp
        simp only [go_sem, ↓reduceIte, Nat.reduceEqDiff, hsl, hlen, hi, hj, O5.get, O5.rsl, O5.rlen, O5.st, h3]
        refine forK_step (()) hj hj0 ?_ ?_
        · have hib := Nat.lt_of_lt_of_le hj hN; simp only [go_sem, ↓reduceIte, Nat.reduceEqDiff, and_self, and_true, true_and, Int.ofNat_zero, Int.ofNat_one, Int.cast_ofNat_Int, wrap_succ hib]
        have g5 := O5.bg i hi
        exact ⟨_, R5.set (by omega) _, O5.put i j hi hj _, P5.set (by omega) _⟩
      · subst he
        simp only [go_sem, ↓reduceIte, Nat.reduceEqDiff]
        refine forK_step (()) hi hi0 ?_ ?_
        · have hib := Nat.lt_of_lt_of_le hi hN; simp only [go_sem, ↓reduceIte, Nat.reduceEqDiff, and_self, and_true, true_and, Int.ofNat_zero, Int.ofNat_one, Int.cast_ofNat_Int, wrap_succ hib]
        exact ⟨d5, R5, O5, P5⟩
      · exact ⟨d4, R4, O4, P4⟩
    · have he2 := he.symm
      clear he
      subst he2
      simp only [go_sem, ↓reduceIte, Nat.reduceEqDiff]
      refine callK.intro (by kernel_rfl) (odd_c m Si P h bv bs (p1 + 1) R4 (by omega) n hn) ?_
      rintro _ _ ⟨⟨bb, rfl⟩, rfl⟩
      simp only [go_sem, ↓reduceIte, Nat.reduceEqDiff]
      have R5 := R4.step (p1 + 1 + 1)
      have O5 := O4.below (Nat.lt_succ_self h) (.own [bv, .int .i64 (p1 + 1 + 1 : Nat)])
      have P5 := P4.set (Nat.le_refl h) (.own [bv, .int .i64 (p1 + 1 + 1 : Nat)])
      clear O4 R4 P4
      generalize List.set Si h (Ob.own [bv, .int .i64 (p1 + 1 + 1 : Nat)]) = S5 at R5 O5 P5 ⊢
      cases bb with
      | false =>
        simp only [go_sem, ↓reduceIte, Nat.reduceEqDiff]
        exact ⟨_, _, _, O5.ot.matH, R5, by omega, P5, by rw [O5.len]; omega, fun j => by have := O5.rows j; omega⟩
      | true =>
        simp only [go_sem, ↓reduceIte, Nat.reduceEqDiff]
        refine callK.intro (by kernel_rfl) (pick_c m S5 P h bv bs _ R5 (by omega) 4) ?_
        rintro _ _ ⟨⟨z, rfl, hz1, hz2, hz3⟩, rfl⟩
        simp only [go_sem, ↓reduceIte, Nat.reduceEqDiff]
        have R6 := R5.step (p1 + 1 + 1 + 1)
        have O6 := O5.below (Nat.lt_succ_self h) (.own [bv, .int .i64 (p1 + 1 + 1 + 1 : Nat)])
        have P6 := P5.set (Nat.le_refl h) (.own [bv, .int .i64 (p1 + 1 + 1 + 1 : Nat)])
        clear O5 R5 P5
        generalize List.set S5 h (Ob.own [bv, .int .i64 (p1 + 1 + 1 + 1 : Nat)]) = S6 at R6 O6 P6 ⊢
        have h0 : 0 < k := by omega
        have hl6 := R6.len
        have g0 := O6.bg 0 h0
        refine condK_dec (fun q2 h2 => ?_) (fun q2 h2 => ?_)
        · simp only [go_sem, ↓reduceIte, Nat.reduceEqDiff, h2]
          exact ⟨_, [], _, (OT.none (b := h + 1) hl6).matH , R6.app _, by omega, P6.app (by omega) _, by simp; omega, fun j => by simp⟩
        simp only [go_sem, ↓reduceIte, Nat.reduceEqDiff, h2]
        refine condK_dec (fun q3 h3 => ?_) (fun q3 h3 => ?_)
        · simp only [go_sem, ↓reduceIte, Nat.reduceEqDiff, h3, hsl, hlen, ixK_zero, h0, O6.get, O6.rsl, O6.rlen, O6.st]
          have O7 := O6.put 0 0 h0 h0 1
          exact ⟨_, _, _, O7.ot.matH, R6.set (by omega) _, by omega, P6.set (by omega) _, by rw [O7.len]; omega, fun j => by have := O7.rows j; omega⟩
        simp only [go_sem, ↓reduceIte, Nat.reduceEqDiff, h3]
        refine condK_dec (fun q4 h4 => ?_) (fun q4 h4 => ?_)
        · simp only [go_sem, ↓reduceIte, Nat.reduceEqDiff, h4, hsl, hlen]
          refine condK_dec (fun q5 h5 => ?_) (fun q5 h5 => ?_)
          · have h1k : 1 < k := by omega
            have ix1 : ∀ (vv : Value) (kp : Value → Prop), slen vv = k → ixK vv (.int .i64 1) kp = kp (eptr vv 1) := fun vv kp hv => ixK_nat (i := 1) (by rw [hv]; exact h1k)
            have O7 := O6.put 0 1 h0 h1k 60
            have g1 := O6.bg 1 h1k
            have O8 := O7.put 1 0 h1k h0 60
            simp only [go_sem, ↓reduceIte, Nat.reduceEqDiff, h5, hsl, hlen, ixK_zero, h0, h1k, ix1, O6.get, O6.rsl, O6.rlen, O6.st, O7.get, O7.rsl, O7.rlen, O7.st]
            exact ⟨_, _, _, O8.ot.matH, (R6.set (by omega) _).set (by omega) _, by omega, (P6.set (by omega) _).set (by omega) _, by rw [O8.len]; omega, fun j => by have := O8.rows j; omega⟩
          · simp only [go_sem, ↓reduceIte, Nat.reduceEqDiff, h5]
            exact ⟨_, _, _, O6.ot.matH, R6, by omega, P6, by rw [O6.len]; omega, fun j => by have := O6.rows j; omega⟩
        · have hq0 := O6.sq 0 h0
          have h0d : 0 < d4.length := by rw [O6.len]; exact h0
          obtain ⟨w, S7, ha, hs, hpre, hoth, t', ht', OL6⟩ := OL.add' (⟨rfl, g0, O6.ot.row 0 h0d⟩ : OL (h + 1) S6 (orow g d4 0) (g 0) (d4.getD 0 [])) 0
          have hne0 := O6.ot.ne 0 h0d
          have htl := own_lt O6.ot.own
          obtain ⟨hst, hMH⟩ := O6.ot.setTopH h0d (S1 := S7) (w := w) (xs := d4.getD 0 [] ++ [0]) (fun j hj hji => hoth _ (own_lt (O6.ot.row j hj)) (fun e => hji (O6.ot.inj j 0 hj h0d e))) (hoth _ htl (Ne.symm hne0))
            (fun S' hS' => by
              have := OL6.bt
              rw [OL6.top]
              exact Ints.own (by rw [hS' t' this (own_lt OL6.own) (by omega)]; exact OL6.own) rfl)
          have hsm : (slen w ≤ 1099511627776) = True := by simp only [eq_iff_iff, iff_true, hs, hq0]; omega
          have hat : atomB w = true := by rw [OL6.top]; rfl
          simp only [go_sem, ↓reduceIte, Nat.reduceEqDiff, h4, hsl, hlen, ixK_zero, h0, O6.get, O6.rsl, O6.rlen, ha, hsm, hst, hat]
          have hbt := O6.ot.bt
          exact ⟨_, _, _, hMH, (R6.pre hpre).set (by omega) _, by omega, (P6.trans (hpre.mono (Nat.le_succ h))).set (by omega) _, by rw [List.length_set, O6.len]; omega, rows_set (fun j => by have := O6.rows j; omega) (by rw [List.length_append, hq0]; simp; omega)⟩
    · exact ⟨_, R3, O3, P3⟩
  · simp only [go_sem, ↓reduceIte, Nat.reduceEqDiff, h1]
    refine callK.intro (by kernel_rfl) (odd_c m S3 P h bv bs (p1 + 1) R3 (by omega) n hn) ?_
    rintro _ _ ⟨⟨bb, rfl⟩, rfl⟩
    simp only [go_sem, ↓reduceIte, Nat.reduceEqDiff]
    have R5 := R3.step (p1 + 1 + 1)
    have O5 := O3.below (Nat.lt_succ_self h) (.own [bv, .int .i64 (p1 + 1 + 1 : Nat)])
    have P5 := P3.set (Nat.le_refl h) (.own [bv, .int .i64 (p1 + 1 + 1 : Nat)])
    clear O3 R3 P3
    generalize List.set S3 h (Ob.own [bv, .int .i64 (p1 + 1 + 1 : Nat)]) = S5 at R5 O5 P5 ⊢
    cases bb with
    | false =>
      simp only [go_sem, ↓reduceIte, Nat.reduceEqDiff]
      exact ⟨_, _, _, O5.ot.matH, R5, by omega, P5, by rw [O5.len]; omega, fun j => by have := O5.rows j; omega⟩
    | true =>
      simp only [go_sem, ↓reduceIte, Nat.reduceEqDiff]
      refine callK.intro (by kernel_rfl) (pick_c m S5 P h bv bs _ R5 (by omega) 4) ?_
      rintro _ _ ⟨⟨z, rfl, hz1, hz2, hz3⟩, rfl⟩
      simp only [go_sem, ↓reduceIte, Nat.reduceEqDiff]
      have R6 := R5.step (p1 + 1 + 1 + 1)
      have O6 := O5.below (Nat.lt_succ_self h) (.own [bv, .int .i64 (p1 + 1 + 1 + 1 : Nat)])
      have P6 := P5.set (Nat.le_refl h) (.own [bv, .int .i64 (p1 + 1 + 1 + 1 : Nat)])
      clear O5 R5 P5
      generalize List.set S5 h (Ob.own [bv, .int .i64 (p1 + 1 + 1 + 1 : Nat)]) = S6 at R6 O6 P6 ⊢
      have h0 : 0 < k := by omega
      have hl6 := R6.len
      have g0 := O6.bg 0 h0
      refine condK_dec (fun q2 h2 => ?_) (fun q2 h2 => ?_)
      · simp only [go_sem, ↓reduceIte, Nat.reduceEqDiff, h2]
        exact ⟨_, [], _, (OT.none (b := h + 1) hl6).matH , R6.app _, by omega, P6.app (by omega) _, by simp; omega, fun j => by simp⟩
      simp only [go_sem, ↓reduceIte, Nat.reduceEqDiff, h2]
      refine condK_dec (fun q3 h3 => ?_) (fun q3 h3 => ?_)
      · simp only [go_sem, ↓reduceIte, Nat.reduceEqDiff, h3, hsl, hlen, ixK_zero, h0, O6.get, O6.rsl, O6.rlen, O6.st]
        have O7 := O6.put 0 0 h0 h0 1
        exact ⟨_, _, _, O7.ot.matH, R6.set (by omega) _, by omega, P6.set (by omega) _, by rw [O7.len]; omega, fun j => by have := O7.rows j; omega⟩
      simp only [go_sem, ↓reduceIte, Nat.reduceEqDiff, h3]
      refine condK_dec (fun q4 h4 => ?_) (fun q4 h4 => ?_)
      · simp only [go_sem, ↓reduceIte, Nat.reduceEqDiff, h4, hsl, hlen]
        refine condK_dec (fun q5 h5 => ?_) (fun q5 h5 => ?_)
        · have h1k : 1 < k := by omega
          have ix1 : ∀ (vv : Value) (kp : Value → Prop), slen vv = k → ixK vv (.int .i64 1) kp = kp (eptr vv 1) := fun vv kp hv => ixK_nat (i := 1) (by rw [hv]; exact h1k)
          have O7 := O6.put 0 1 h0 h1k 60
          have g1 := O6.bg 1 h1k
          have O8 := O7.put 1 0 h1k h0 60
          simp only [go_sem, ↓reduceIte, Nat.reduceEqDiff, h5, hsl, hlen, ixK_zero, h0, h1k, ix1, O6.get, O6.rsl, O6.rlen, O6.st, O7.get, O7.rsl, O7.rlen, O7.st]
          exact ⟨_, _, _, O8.ot.matH, (R6.set (by omega) _).set (by omega) _, by omega, (P6.set (by omega) _).set (by omega) _, by rw [O8.len]; omega, fun j => by have := O8.rows j; omega⟩
        · simp only [go_sem, ↓reduceIte, Nat.reduceEqDiff, h5]
          exact ⟨_, _, _, O6.ot.matH, R6, by omega, P6, by rw [O6.len]; omega, fun j => by have := O6.rows j; omega⟩
      · have hq0 := O6.sq 0 h0
        have h0d : 0 < d2.length := by rw [O6.len]; exact h0
        obtain ⟨w, S7, ha, hs, hpre, hoth, t', ht', OL6⟩ := OL.add' (⟨rfl, g0, O6.ot.row 0 h0d⟩ : OL (h + 1) S6 (orow g d2 0) (g 0) (d2.getD 0 [])) 0
        have hne0 := O6.ot.ne 0 h0d
        have htl := own_lt O6.ot.own
        obtain ⟨hst, hMH⟩ := O6.ot.setTopH h0d (S1 := S7) (w := w) (xs := d2.getD 0 [] ++ [0]) (fun j hj hji => hoth _ (own_lt (O6.ot.row j hj)) (fun e => hji (O6.ot.inj j 0 hj h0d e))) (hoth _ htl (Ne.symm hne0))
          (fun S' hS' => by
            have := OL6.bt
            rw [OL6.top]
            exact Ints.own (by rw [hS' t' this (own_lt OL6.own) (by omega)]; exact OL6.own) rfl)
        have hsm : (slen w ≤ 1099511627776) = True := by simp only [eq_iff_iff, iff_true, hs, hq0]; omega
        have hat : atomB w = true := by rw [OL6.top]; rfl
        simp only [go_sem, ↓reduceIte, Nat.reduceEqDiff, h4, hsl, hlen, ixK_zero, h0, O6.get, O6.rsl, O6.rlen, ha, hsm, hst, hat]
        have hbt := O6.ot.bt
        exact ⟨_, _, _, hMH, (R6.pre hpre).set (by omega) _, by omega, (P6.trans (hpre.mono (Nat.le_succ h))).set (by omega) _, by rw [List.length_set, O6.len]; omega, rows_set (fun j => by have := O6.rows j; omega) (by rw [List.length_append, hq0]; simp; omega)⟩

end Go.Proofs.Ytodeldmkpogakaa

/-
  No cell of these rows narrows 'for every input' (looked for: loops, veiled, ifaces, maps, wideKeys, modest, calm, conditions, laid).
  DERIVED. THE GIVEN ROWS OF THIS SEAT. 15 by the template 'for every input the law returns true; each argument reads behind the call as it read before'; 0 by the template 'total and deterministic' (their statements: YtoecdjgjfbjejaaTotals.lean).
  GIVEN WITH THE SEED: the statements are not yours to turn. If you find one false, say at which input.
  Laid BY PROGRAM, IN A SANDBOX (cutbox-rows.mjs): the forced cells as the released guide's own fill.sh prints them over the translation 8859559086dd0177… (all of the seat's roots in one cut). By AI agents, Wed Nov 11 2026. No macro, syntax, notation, axiom, sorry.
-/
import Derived.Test.YtoecdjgjfbjejaaChecked
import GoSem.Claim
import GoSem.ClaimJoined
import GoSem.ClaimMapViews
import Derived.JoinedTies
import Derived.KernelRfl
namespace Go.Proofs.Ytoecdjgjfbjejaa
/- THE CELL 'sum', in the pinned program and in every row, IS THE sha256 OF THE DUMP (.gsa) THAT YtoecdjgjfbjejaaProg.lean LOADS. Nothing in Lean hashes anything: it is a label: what it is worth is what the hold of that sum in a sandbox is worth. -/
noncomputable def Try.pinned : Pinned := { name := "ytoecdjgjfbjejaa", sum := "8859559086dd0177c11e1d636404d122f0a2c50104fcb9995d0bc2c3ec1364d4", checked := Try.checked }
namespace Rows
def none {H : Type} : Left H := { results := [], args := [] }

/-- 'laws.FnWidthOf': WHATEVER THE INPUT: true; the input reads as it did. -/
def fnWidthOfSpec : ChangeSpec := { name := "fnWidthOf", fn := fun _ => fun
  | [d] => { results := [.lit (.bool true)], args := [d] }
  | _ => none }
def fnWidthOfRow : OpenClaim := { program := "ytoecdjgjfbjejaa", sum := "8859559086dd0177c11e1d636404d122f0a2c50104fcb9995d0bc2c3ec1364d4", func := "loop.example/fewpoints/laws.FnWidthOf", spec := "fnWidthOf", apart := false }
def FnWidthOfSaid : Prop := fnWidthOfRow.holds Try.pinned (OpenSpec.ofChange fnWidthOfSpec)

/-- ITS FALSE NEIGHBOUR: 'it returns false'. Refute it at one input. -/
def fnWidthOfWrong : ChangeSpec := { name := "fnWidthOf", fn := fun _ => fun
  | [d] => { results := [.lit (.bool false)], args := [d] }
  | _ => none }
def FnWidthOfWrongFalsely : Prop := fnWidthOfRow.holds Try.pinned (OpenSpec.ofChange fnWidthOfWrong)

/-- 'laws.FnFarthestFrom': WHATEVER THE INPUT: true; the input reads as it did. -/
def fnFarthestFromSpec : ChangeSpec := { name := "fnFarthestFrom", fn := fun _ => fun
  | [d] => { results := [.lit (.bool true)], args := [d] }
  | _ => none }
def fnFarthestFromRow : OpenClaim := { program := "ytoecdjgjfbjejaa", sum := "8859559086dd0177c11e1d636404d122f0a2c50104fcb9995d0bc2c3ec1364d4", func := "loop.example/fewpoints/laws.FnFarthestFrom", spec := "fnFarthestFrom", apart := false }
def FnFarthestFromSaid : Prop := fnFarthestFromRow.holds Try.pinned (OpenSpec.ofChange fnFarthestFromSpec)

/-- ITS FALSE NEIGHBOUR: 'it returns false'. Refute it at one input. -/
def fnFarthestFromWrong : ChangeSpec := { name := "fnFarthestFrom", fn := fun _ => fun
  | [d] => { results := [.lit (.bool false)], args := [d] }
  | _ => none }
def FnFarthestFromWrongFalsely : Prop := fnFarthestFromRow.holds Try.pinned (OpenSpec.ofChange fnFarthestFromWrong)

/-- 'laws.FnLotsAt': WHATEVER THE INPUT: true; the input reads as it did. -/
def fnLotsAtSpec : ChangeSpec := { name := "fnLotsAt", fn := fun _ => fun
  | [d] => { results := [.lit (.bool true)], args := [d] }
  | _ => none }
def fnLotsAtRow : OpenClaim := { program := "ytoecdjgjfbjejaa", sum := "8859559086dd0177c11e1d636404d122f0a2c50104fcb9995d0bc2c3ec1364d4", func := "loop.example/fewpoints/laws.FnLotsAt", spec := "fnLotsAt", unfollowed := true, recurses := true, apart := false }
def FnLotsAtSaid : Prop := fnLotsAtRow.holds Try.pinned (OpenSpec.ofChange fnLotsAtSpec)

/-- ITS FALSE NEIGHBOUR: 'it returns false'. Refute it at one input. -/
def fnLotsAtWrong : ChangeSpec := { name := "fnLotsAt", fn := fun _ => fun
  | [d] => { results := [.lit (.bool false)], args := [d] }
  | _ => none }
def FnLotsAtWrongFalsely : Prop := fnLotsAtRow.holds Try.pinned (OpenSpec.ofChange fnLotsAtWrong)

/-- 'laws.FnBetweenOf': WHATEVER THE INPUT: true; the input reads as it did. -/
def fnBetweenOfSpec : ChangeSpec := { name := "fnBetweenOf", fn := fun _ => fun
  | [d] => { results := [.lit (.bool true)], args := [d] }
  | _ => none }
def fnBetweenOfRow : OpenClaim := { program := "ytoecdjgjfbjejaa", sum := "8859559086dd0177c11e1d636404d122f0a2c50104fcb9995d0bc2c3ec1364d4", func := "loop.example/fewpoints/laws.FnBetweenOf", spec := "fnBetweenOf", apart := false }
def FnBetweenOfSaid : Prop := fnBetweenOfRow.holds Try.pinned (OpenSpec.ofChange fnBetweenOfSpec)

/-- ITS FALSE NEIGHBOUR: 'it returns false'. Refute it at one input. -/
def fnBetweenOfWrong : ChangeSpec := { name := "fnBetweenOf", fn := fun _ => fun
  | [d] => { results := [.lit (.bool false)], args := [d] }
  | _ => none }
def FnBetweenOfWrongFalsely : Prop := fnBetweenOfRow.holds Try.pinned (OpenSpec.ofChange fnBetweenOfWrong)

/-- 'laws.FnBallOf': WHATEVER THE INPUT: true; the input reads as it did. -/
def fnBallOfSpec : ChangeSpec := { name := "fnBallOf", fn := fun _ => fun
  | [d] => { results := [.lit (.bool true)], args := [d] }
  | _ => none }
def fnBallOfRow : OpenClaim := { program := "ytoecdjgjfbjejaa", sum := "8859559086dd0177c11e1d636404d122f0a2c50104fcb9995d0bc2c3ec1364d4", func := "loop.example/fewpoints/laws.FnBallOf", spec := "fnBallOf", apart := false }
def FnBallOfSaid : Prop := fnBallOfRow.holds Try.pinned (OpenSpec.ofChange fnBallOfSpec)

/-- ITS FALSE NEIGHBOUR: 'it returns false'. Refute it at one input. -/
def fnBallOfWrong : ChangeSpec := { name := "fnBallOf", fn := fun _ => fun
  | [d] => { results := [.lit (.bool false)], args := [d] }
  | _ => none }
def FnBallOfWrongFalsely : Prop := fnBallOfRow.holds Try.pinned (OpenSpec.ofChange fnBallOfWrong)

/-- 'laws.FnUltraOk': WHATEVER THE INPUT: true; the input reads as it did. -/
def fnUltraOkSpec : ChangeSpec := { name := "fnUltraOk", fn := fun _ => fun
  | [d] => { results := [.lit (.bool true)], args := [d] }
  | _ => none }
def fnUltraOkRow : OpenClaim := { program := "ytoecdjgjfbjejaa", sum := "8859559086dd0177c11e1d636404d122f0a2c50104fcb9995d0bc2c3ec1364d4", func := "loop.example/fewpoints/laws.FnUltraOk", spec := "fnUltraOk", apart := false }
def FnUltraOkSaid : Prop := fnUltraOkRow.holds Try.pinned (OpenSpec.ofChange fnUltraOkSpec)

/-- ITS FALSE NEIGHBOUR: 'it returns false'. Refute it at one input. -/
def fnUltraOkWrong : ChangeSpec := { name := "fnUltraOk", fn := fun _ => fun
  | [d] => { results := [.lit (.bool false)], args := [d] }
  | _ => none }
def FnUltraOkWrongFalsely : Prop := fnUltraOkRow.holds Try.pinned (OpenSpec.ofChange fnUltraOkWrong)

/-- 'laws.FnRadiusOf': WHATEVER THE INPUT: true; the input reads as it did. -/
def fnRadiusOfSpec : ChangeSpec := { name := "fnRadiusOf", fn := fun _ => fun
  | [d] => { results := [.lit (.bool true)], args := [d] }
  | _ => none }
def fnRadiusOfRow : OpenClaim := { program := "ytoecdjgjfbjejaa", sum := "8859559086dd0177c11e1d636404d122f0a2c50104fcb9995d0bc2c3ec1364d4", func := "loop.example/fewpoints/laws.FnRadiusOf", spec := "fnRadiusOf", apart := false }
def FnRadiusOfSaid : Prop := fnRadiusOfRow.holds Try.pinned (OpenSpec.ofChange fnRadiusOfSpec)

/-- ITS FALSE NEIGHBOUR: 'it returns false'. Refute it at one input. -/
def fnRadiusOfWrong : ChangeSpec := { name := "fnRadiusOf", fn := fun _ => fun
  | [d] => { results := [.lit (.bool false)], args := [d] }
  | _ => none }
def FnRadiusOfWrongFalsely : Prop := fnRadiusOfRow.holds Try.pinned (OpenSpec.ofChange fnRadiusOfWrong)

/-- 'laws.FnRoadsOf': WHATEVER THE INPUT: true; the input reads as it did. -/
def fnRoadsOfSpec : ChangeSpec := { name := "fnRoadsOf", fn := fun _ => fun
  | [d] => { results := [.lit (.bool true)], args := [d] }
  | _ => none }
def fnRoadsOfRow : OpenClaim := { program := "ytoecdjgjfbjejaa", sum := "8859559086dd0177c11e1d636404d122f0a2c50104fcb9995d0bc2c3ec1364d4", func := "loop.example/fewpoints/laws.FnRoadsOf", spec := "fnRoadsOf", apart := false }
def FnRoadsOfSaid : Prop := fnRoadsOfRow.holds Try.pinned (OpenSpec.ofChange fnRoadsOfSpec)

/-- ITS FALSE NEIGHBOUR: 'it returns false'. Refute it at one input. -/
def fnRoadsOfWrong : ChangeSpec := { name := "fnRoadsOf", fn := fun _ => fun
  | [d] => { results := [.lit (.bool false)], args := [d] }
  | _ => none }
def FnRoadsOfWrongFalsely : Prop := fnRoadsOfRow.holds Try.pinned (OpenSpec.ofChange fnRoadsOfWrong)

/-- 'laws.FnShortestOf': WHATEVER THE INPUT: true; the input reads as it did. -/
def fnShortestOfSpec : ChangeSpec := { name := "fnShortestOf", fn := fun _ => fun
  | [d1, d2] => { results := [.lit (.bool true)], args := [d1, d2] }
  | _ => none }
def fnShortestOfRow : OpenClaim := { program := "ytoecdjgjfbjejaa", sum := "8859559086dd0177c11e1d636404d122f0a2c50104fcb9995d0bc2c3ec1364d4", func := "loop.example/fewpoints/laws.FnShortestOf", spec := "fnShortestOf", unfollowed := true, recurses := true, apart := false }
def FnShortestOfSaid : Prop := fnShortestOfRow.holds Try.pinned (OpenSpec.ofChange fnShortestOfSpec)

/-- ITS FALSE NEIGHBOUR: 'it returns false'. Refute it at one input. -/
def fnShortestOfWrong : ChangeSpec := { name := "fnShortestOf", fn := fun _ => fun
  | [d1, d2] => { results := [.lit (.bool false)], args := [d1, d2] }
  | _ => none }
def FnShortestOfWrongFalsely : Prop := fnShortestOfRow.holds Try.pinned (OpenSpec.ofChange fnShortestOfWrong)

/-- 'laws.FnLegOf': WHATEVER THE INPUT: true; the input reads as it did. -/
def fnLegOfSpec : ChangeSpec := { name := "fnLegOf", fn := fun _ => fun
  | [d] => { results := [.lit (.bool true)], args := [d] }
  | _ => none }
def fnLegOfRow : OpenClaim := { program := "ytoecdjgjfbjejaa", sum := "8859559086dd0177c11e1d636404d122f0a2c50104fcb9995d0bc2c3ec1364d4", func := "loop.example/fewpoints/laws.FnLegOf", spec := "fnLegOf", apart := false }
def FnLegOfSaid : Prop := fnLegOfRow.holds Try.pinned (OpenSpec.ofChange fnLegOfSpec)

/-- ITS FALSE NEIGHBOUR: 'it returns false'. Refute it at one input. -/
def fnLegOfWrong : ChangeSpec := { name := "fnLegOf", fn := fun _ => fun
  | [d] => { results := [.lit (.bool false)], args := [d] }
  | _ => none }
def FnLegOfWrongFalsely : Prop := fnLegOfRow.holds Try.pinned (OpenSpec.ofChange fnLegOfWrong)

/-- 'laws.FnWithoutPoint': WHATEVER THE INPUT: true; the input reads as it did. -/
def fnWithoutPointSpec : ChangeSpec := { name := "fnWithoutPoint", fn := fun _ => fun
  | [d] => { results := [.lit (.bool true)], args := [d] }
  | _ => none }
def fnWithoutPointRow : OpenClaim := { program := "ytoecdjgjfbjejaa", sum := "8859559086dd0177c11e1d636404d122f0a2c50104fcb9995d0bc2c3ec1364d4", func := "loop.example/fewpoints/laws.FnWithoutPoint", spec := "fnWithoutPoint", apart := false }
def FnWithoutPointSaid : Prop := fnWithoutPointRow.holds Try.pinned (OpenSpec.ofChange fnWithoutPointSpec)

/-- ITS FALSE NEIGHBOUR: 'it returns false'. Refute it at one input. -/
def fnWithoutPointWrong : ChangeSpec := { name := "fnWithoutPoint", fn := fun _ => fun
  | [d] => { results := [.lit (.bool false)], args := [d] }
  | _ => none }
def FnWithoutPointWrongFalsely : Prop := fnWithoutPointRow.holds Try.pinned (OpenSpec.ofChange fnWithoutPointWrong)

/-- 'laws.FnPointFits': WHATEVER THE INPUT: true; the input reads as it did. -/
def fnPointFitsSpec : ChangeSpec := { name := "fnPointFits", fn := fun _ => fun
  | [d] => { results := [.lit (.bool true)], args := [d] }
  | _ => none }
def fnPointFitsRow : OpenClaim := { program := "ytoecdjgjfbjejaa", sum := "8859559086dd0177c11e1d636404d122f0a2c50104fcb9995d0bc2c3ec1364d4", func := "loop.example/fewpoints/laws.FnPointFits", spec := "fnPointFits", apart := false }
def FnPointFitsSaid : Prop := fnPointFitsRow.holds Try.pinned (OpenSpec.ofChange fnPointFitsSpec)

/-- ITS FALSE NEIGHBOUR: 'it returns false'. Refute it at one input. -/
def fnPointFitsWrong : ChangeSpec := { name := "fnPointFits", fn := fun _ => fun
  | [d] => { results := [.lit (.bool false)], args := [d] }
  | _ => none }
def FnPointFitsWrongFalsely : Prop := fnPointFitsRow.holds Try.pinned (OpenSpec.ofChange fnPointFitsWrong)

/-- 'laws.FnBelowOf': WHATEVER THE INPUT: true; the input reads as it did. -/
def fnBelowOfSpec : ChangeSpec := { name := "fnBelowOf", fn := fun _ => fun
  | [d1, d2] => { results := [.lit (.bool true)], args := [d1, d2] }
  | _ => none }
def fnBelowOfRow : OpenClaim := { program := "ytoecdjgjfbjejaa", sum := "8859559086dd0177c11e1d636404d122f0a2c50104fcb9995d0bc2c3ec1364d4", func := "loop.example/fewpoints/laws.FnBelowOf", spec := "fnBelowOf", unfollowed := true, recurses := true, apart := false }
def FnBelowOfSaid : Prop := fnBelowOfRow.holds Try.pinned (OpenSpec.ofChange fnBelowOfSpec)

/-- ITS FALSE NEIGHBOUR: 'it returns false'. Refute it at one input. -/
def fnBelowOfWrong : ChangeSpec := { name := "fnBelowOf", fn := fun _ => fun
  | [d1, d2] => { results := [.lit (.bool false)], args := [d1, d2] }
  | _ => none }
def FnBelowOfWrongFalsely : Prop := fnBelowOfRow.holds Try.pinned (OpenSpec.ofChange fnBelowOfWrong)

/-- 'laws.FnRoadsAlone': WHATEVER THE INPUT: true; the input reads as it did. -/
def fnRoadsAloneSpec : ChangeSpec := { name := "fnRoadsAlone", fn := fun _ => fun
  | [d] => { results := [.lit (.bool true)], args := [d] }
  | _ => none }
def fnRoadsAloneRow : OpenClaim := { program := "ytoecdjgjfbjejaa", sum := "8859559086dd0177c11e1d636404d122f0a2c50104fcb9995d0bc2c3ec1364d4", func := "loop.example/fewpoints/laws.FnRoadsAlone", spec := "fnRoadsAlone", unfollowed := true, recurses := true, apart := false }
def FnRoadsAloneSaid : Prop := fnRoadsAloneRow.holds Try.pinned (OpenSpec.ofChange fnRoadsAloneSpec)

/-- ITS FALSE NEIGHBOUR: 'it returns false'. Refute it at one input. -/
def fnRoadsAloneWrong : ChangeSpec := { name := "fnRoadsAlone", fn := fun _ => fun
  | [d] => { results := [.lit (.bool false)], args := [d] }
  | _ => none }
def FnRoadsAloneWrongFalsely : Prop := fnRoadsAloneRow.holds Try.pinned (OpenSpec.ofChange fnRoadsAloneWrong)

/-- 'laws.FnWithPoint': WHATEVER THE INPUT: true; the input reads as it did. -/
def fnWithPointSpec : ChangeSpec := { name := "fnWithPoint", fn := fun _ => fun
  | [d] => { results := [.lit (.bool true)], args := [d] }
  | _ => none }
def fnWithPointRow : OpenClaim := { program := "ytoecdjgjfbjejaa", sum := "8859559086dd0177c11e1d636404d122f0a2c50104fcb9995d0bc2c3ec1364d4", func := "loop.example/fewpoints/laws.FnWithPoint", spec := "fnWithPoint", apart := false }
def FnWithPointSaid : Prop := fnWithPointRow.holds Try.pinned (OpenSpec.ofChange fnWithPointSpec)

/-- ITS FALSE NEIGHBOUR: 'it returns false'. Refute it at one input. -/
def fnWithPointWrong : ChangeSpec := { name := "fnWithPoint", fn := fun _ => fun
  | [d] => { results := [.lit (.bool false)], args := [d] }
  | _ => none }
def FnWithPointWrongFalsely : Prop := fnWithPointRow.holds Try.pinned (OpenSpec.ofChange fnWithPointWrong)

/- THE SECOND FORM. 'bulk': how many values and letters a reading holds, each counted each time it is reached (what is shared counts as often as it is met; a slice's spare places count too). A statement '..UptoSaid' is the law's where the arguments, and the package variables that the reading takes, are together of bulk at most 1048576: NARROWER than '..Said'. Prove '..Said' where nothing that the law and all that it calls make is longer than what came in: it says more and counts as full. Else prove '..UptoSaid'. A law counts once. -/
mutual
def uptoBulk {H : Type} : DataW H → Nat
  | .lit (.string bytes) => bytes.length + 1
  | .lit _ => 1
  | .nil => 1
  | .ptr d => uptoBulk d + 1
  | .slice elems spare => uptoBulkAll elems + uptoBulkAll spare + 1
  | .agg parts => uptoBulkAll parts + 1
  | .iface _ d => uptoBulk d + 1
  | .map entries => uptoBulkEntries entries + 1
  | .held _ => 1
def uptoBulkAll {H : Type} : List (DataW H) → Nat
  | [] => 0
  | d :: r => uptoBulk d + uptoBulkAll r
def uptoBulkEntries {H : Type} : List (Lit × DataW H) → Nat
  | [] => 0
  | x :: r => uptoBulkEntry x + uptoBulkEntries r
def uptoBulkEntry {H : Type} : Lit × DataW H → Nat
  | (.string bytes, d) => bytes.length + uptoBulk d + 1
  | (_, d) => uptoBulk d + 1
 end
def uptoSmall : (H : Type) → List (DataW H) → Bool := fun _ ds => decide (uptoBulkAll ds ≤ 1048576)
def OpenSpec.upto (s : _root_.Go.ChangeSpec) : _root_.Go.OpenSpec := { _root_.Go.OpenSpec.ofChange s with cond := some uptoSmall }

/-- 'laws.FnWidthOf', WHERE WHAT IT READS IS OF BULK AT MOST 1048576: true; the input reads as it did. -/
def fnWidthOfUptoRow : OpenClaim := { program := "ytoecdjgjfbjejaa", sum := "8859559086dd0177c11e1d636404d122f0a2c50104fcb9995d0bc2c3ec1364d4", func := "loop.example/fewpoints/laws.FnWidthOf", spec := "fnWidthOf", apart := false, narrowed := true }
def FnWidthOfUptoSaid : Prop := fnWidthOfUptoRow.holds Try.pinned (OpenSpec.upto fnWidthOfSpec)

/-- 'laws.FnFarthestFrom', WHERE WHAT IT READS IS OF BULK AT MOST 1048576: true; the input reads as it did. -/
def fnFarthestFromUptoRow : OpenClaim := { program := "ytoecdjgjfbjejaa", sum := "8859559086dd0177c11e1d636404d122f0a2c50104fcb9995d0bc2c3ec1364d4", func := "loop.example/fewpoints/laws.FnFarthestFrom", spec := "fnFarthestFrom", apart := false, narrowed := true }
def FnFarthestFromUptoSaid : Prop := fnFarthestFromUptoRow.holds Try.pinned (OpenSpec.upto fnFarthestFromSpec)

/-- 'laws.FnLotsAt', WHERE WHAT IT READS IS OF BULK AT MOST 1048576: true; the input reads as it did. -/
def fnLotsAtUptoRow : OpenClaim := { program := "ytoecdjgjfbjejaa", sum := "8859559086dd0177c11e1d636404d122f0a2c50104fcb9995d0bc2c3ec1364d4", func := "loop.example/fewpoints/laws.FnLotsAt", spec := "fnLotsAt", unfollowed := true, recurses := true, apart := false, narrowed := true }
def FnLotsAtUptoSaid : Prop := fnLotsAtUptoRow.holds Try.pinned (OpenSpec.upto fnLotsAtSpec)

/-- 'laws.FnBetweenOf', WHERE WHAT IT READS IS OF BULK AT MOST 1048576: true; the input reads as it did. -/
def fnBetweenOfUptoRow : OpenClaim := { program := "ytoecdjgjfbjejaa", sum := "8859559086dd0177c11e1d636404d122f0a2c50104fcb9995d0bc2c3ec1364d4", func := "loop.example/fewpoints/laws.FnBetweenOf", spec := "fnBetweenOf", apart := false, narrowed := true }
def FnBetweenOfUptoSaid : Prop := fnBetweenOfUptoRow.holds Try.pinned (OpenSpec.upto fnBetweenOfSpec)

/-- 'laws.FnBallOf', WHERE WHAT IT READS IS OF BULK AT MOST 1048576: true; the input reads as it did. -/
def fnBallOfUptoRow : OpenClaim := { program := "ytoecdjgjfbjejaa", sum := "8859559086dd0177c11e1d636404d122f0a2c50104fcb9995d0bc2c3ec1364d4", func := "loop.example/fewpoints/laws.FnBallOf", spec := "fnBallOf", apart := false, narrowed := true }
def FnBallOfUptoSaid : Prop := fnBallOfUptoRow.holds Try.pinned (OpenSpec.upto fnBallOfSpec)

/-- 'laws.FnUltraOk', WHERE WHAT IT READS IS OF BULK AT MOST 1048576: true; the input reads as it did. -/
def fnUltraOkUptoRow : OpenClaim := { program := "ytoecdjgjfbjejaa", sum := "8859559086dd0177c11e1d636404d122f0a2c50104fcb9995d0bc2c3ec1364d4", func := "loop.example/fewpoints/laws.FnUltraOk", spec := "fnUltraOk", apart := false, narrowed := true }
def FnUltraOkUptoSaid : Prop := fnUltraOkUptoRow.holds Try.pinned (OpenSpec.upto fnUltraOkSpec)

/-- 'laws.FnRadiusOf', WHERE WHAT IT READS IS OF BULK AT MOST 1048576: true; the input reads as it did. -/
def fnRadiusOfUptoRow : OpenClaim := { program := "ytoecdjgjfbjejaa", sum := "8859559086dd0177c11e1d636404d122f0a2c50104fcb9995d0bc2c3ec1364d4", func := "loop.example/fewpoints/laws.FnRadiusOf", spec := "fnRadiusOf", apart := false, narrowed := true }
def FnRadiusOfUptoSaid : Prop := fnRadiusOfUptoRow.holds Try.pinned (OpenSpec.upto fnRadiusOfSpec)

/-- 'laws.FnRoadsOf', WHERE WHAT IT READS IS OF BULK AT MOST 1048576: true; the input reads as it did. -/
def fnRoadsOfUptoRow : OpenClaim := { program := "ytoecdjgjfbjejaa", sum := "8859559086dd0177c11e1d636404d122f0a2c50104fcb9995d0bc2c3ec1364d4", func := "loop.example/fewpoints/laws.FnRoadsOf", spec := "fnRoadsOf", apart := false, narrowed := true }
def FnRoadsOfUptoSaid : Prop := fnRoadsOfUptoRow.holds Try.pinned (OpenSpec.upto fnRoadsOfSpec)

/-- 'laws.FnShortestOf', WHERE WHAT IT READS IS OF BULK AT MOST 1048576: true; the input reads as it did. -/
def fnShortestOfUptoRow : OpenClaim := { program := "ytoecdjgjfbjejaa", sum := "8859559086dd0177c11e1d636404d122f0a2c50104fcb9995d0bc2c3ec1364d4", func := "loop.example/fewpoints/laws.FnShortestOf", spec := "fnShortestOf", unfollowed := true, recurses := true, apart := false, narrowed := true }
def FnShortestOfUptoSaid : Prop := fnShortestOfUptoRow.holds Try.pinned (OpenSpec.upto fnShortestOfSpec)

/-- 'laws.FnLegOf', WHERE WHAT IT READS IS OF BULK AT MOST 1048576: true; the input reads as it did. -/
def fnLegOfUptoRow : OpenClaim := { program := "ytoecdjgjfbjejaa", sum := "8859559086dd0177c11e1d636404d122f0a2c50104fcb9995d0bc2c3ec1364d4", func := "loop.example/fewpoints/laws.FnLegOf", spec := "fnLegOf", apart := false, narrowed := true }
def FnLegOfUptoSaid : Prop := fnLegOfUptoRow.holds Try.pinned (OpenSpec.upto fnLegOfSpec)

/-- 'laws.FnWithoutPoint', WHERE WHAT IT READS IS OF BULK AT MOST 1048576: true; the input reads as it did. -/
def fnWithoutPointUptoRow : OpenClaim := { program := "ytoecdjgjfbjejaa", sum := "8859559086dd0177c11e1d636404d122f0a2c50104fcb9995d0bc2c3ec1364d4", func := "loop.example/fewpoints/laws.FnWithoutPoint", spec := "fnWithoutPoint", apart := false, narrowed := true }
def FnWithoutPointUptoSaid : Prop := fnWithoutPointUptoRow.holds Try.pinned (OpenSpec.upto fnWithoutPointSpec)

/-- 'laws.FnPointFits', WHERE WHAT IT READS IS OF BULK AT MOST 1048576: true; the input reads as it did. -/
def fnPointFitsUptoRow : OpenClaim := { program := "ytoecdjgjfbjejaa", sum := "8859559086dd0177c11e1d636404d122f0a2c50104fcb9995d0bc2c3ec1364d4", func := "loop.example/fewpoints/laws.FnPointFits", spec := "fnPointFits", apart := false, narrowed := true }
def FnPointFitsUptoSaid : Prop := fnPointFitsUptoRow.holds Try.pinned (OpenSpec.upto fnPointFitsSpec)

/-- 'laws.FnBelowOf', WHERE WHAT IT READS IS OF BULK AT MOST 1048576: true; the input reads as it did. -/
def fnBelowOfUptoRow : OpenClaim := { program := "ytoecdjgjfbjejaa", sum := "8859559086dd0177c11e1d636404d122f0a2c50104fcb9995d0bc2c3ec1364d4", func := "loop.example/fewpoints/laws.FnBelowOf", spec := "fnBelowOf", unfollowed := true, recurses := true, apart := false, narrowed := true }
def FnBelowOfUptoSaid : Prop := fnBelowOfUptoRow.holds Try.pinned (OpenSpec.upto fnBelowOfSpec)

/-- 'laws.FnRoadsAlone', WHERE WHAT IT READS IS OF BULK AT MOST 1048576: true; the input reads as it did. -/
def fnRoadsAloneUptoRow : OpenClaim := { program := "ytoecdjgjfbjejaa", sum := "8859559086dd0177c11e1d636404d122f0a2c50104fcb9995d0bc2c3ec1364d4", func := "loop.example/fewpoints/laws.FnRoadsAlone", spec := "fnRoadsAlone", unfollowed := true, recurses := true, apart := false, narrowed := true }
def FnRoadsAloneUptoSaid : Prop := fnRoadsAloneUptoRow.holds Try.pinned (OpenSpec.upto fnRoadsAloneSpec)

/-- 'laws.FnWithPoint', WHERE WHAT IT READS IS OF BULK AT MOST 1048576: true; the input reads as it did. -/
def fnWithPointUptoRow : OpenClaim := { program := "ytoecdjgjfbjejaa", sum := "8859559086dd0177c11e1d636404d122f0a2c50104fcb9995d0bc2c3ec1364d4", func := "loop.example/fewpoints/laws.FnWithPoint", spec := "fnWithPoint", apart := false, narrowed := true }
def FnWithPointUptoSaid : Prop := fnWithPointUptoRow.holds Try.pinned (OpenSpec.upto fnWithPointSpec)

end Rows
end Go.Proofs.Ytoecdjgjfbjejaa

/-
  No cell of these rows narrows 'for every input' (looked for: loops, veiled, ifaces, maps, wideKeys, modest, calm, conditions, laid).
  DERIVED. THE GIVEN ROWS OF THIS SEAT. 11 by the template 'for every input the law returns true; each argument reads behind the call as it read before'; 0 by the template 'total and deterministic' (their statements: YtodeldmkpogakaaTotals.lean).
  GIVEN WITH THE SEED: the statements are not yours to turn. If you find one false, say at which input.
  Laid BY PROGRAM, IN A SANDBOX (cutbox-rows.mjs): the forced cells as the released guide's own fill.sh prints them over the translation 9485f9643866df85… (all of the seat's roots in one cut). By AI agents, Wed Nov 11 2026. No macro, syntax, notation, axiom, sorry.
-/
import Derived.Test.YtodeldmkpogakaaChecked
import GoSem.Claim
import GoSem.ClaimJoined
import GoSem.ClaimMapViews
import Derived.JoinedTies
import Derived.KernelRfl
namespace Go.Proofs.Ytodeldmkpogakaa
/- THE CELL 'sum', in the pinned program and in every row, IS THE sha256 OF THE DUMP (.gsa) THAT YtodeldmkpogakaaProg.lean LOADS. Nothing in Lean hashes anything: it is a label: what it is worth is what the hold of that sum in a sandbox is worth. -/
noncomputable def Try.pinned : Pinned := { name := "ytodeldmkpogakaa", sum := "9485f9643866df85a2115a641876f34be346c856d2ebc53cd7d54fc3097268e9", checked := Try.checked }
namespace Rows
def none {H : Type} : Left H := { results := [], args := [] }

/-- 'laws.FnLotsIn': WHATEVER THE INPUT: true; the input reads as it did. -/
def fnLotsInSpec : ChangeSpec := { name := "fnLotsIn", fn := fun _ => fun
  | [d] => { results := [.lit (.bool true)], args := [d] }
  | _ => none }
def fnLotsInRow : OpenClaim := { program := "ytodeldmkpogakaa", sum := "9485f9643866df85a2115a641876f34be346c856d2ebc53cd7d54fc3097268e9", func := "loop.example/fewpoints/laws.FnLotsIn", spec := "fnLotsIn", unfollowed := true, recurses := true, apart := false }
def FnLotsInSaid : Prop := fnLotsInRow.holds Try.pinned (OpenSpec.ofChange fnLotsInSpec)

/-- ITS FALSE NEIGHBOUR: 'it returns false'. Refute it at one input. -/
def fnLotsInWrong : ChangeSpec := { name := "fnLotsIn", fn := fun _ => fun
  | [d] => { results := [.lit (.bool false)], args := [d] }
  | _ => none }
def FnLotsInWrongFalsely : Prop := fnLotsInRow.holds Try.pinned (OpenSpec.ofChange fnLotsInWrong)

/-- 'laws.FnGapOf': WHATEVER THE INPUT: true; the input reads as it did. -/
def fnGapOfSpec : ChangeSpec := { name := "fnGapOf", fn := fun _ => fun
  | [d] => { results := [.lit (.bool true)], args := [d] }
  | _ => none }
def fnGapOfRow : OpenClaim := { program := "ytodeldmkpogakaa", sum := "9485f9643866df85a2115a641876f34be346c856d2ebc53cd7d54fc3097268e9", func := "loop.example/fewpoints/laws.FnGapOf", spec := "fnGapOf", unfollowed := true, recurses := true, apart := false }
def FnGapOfSaid : Prop := fnGapOfRow.holds Try.pinned (OpenSpec.ofChange fnGapOfSpec)

/-- ITS FALSE NEIGHBOUR: 'it returns false'. Refute it at one input. -/
def fnGapOfWrong : ChangeSpec := { name := "fnGapOf", fn := fun _ => fun
  | [d] => { results := [.lit (.bool false)], args := [d] }
  | _ => none }
def FnGapOfWrongFalsely : Prop := fnGapOfRow.holds Try.pinned (OpenSpec.ofChange fnGapOfWrong)

/-- 'laws.FnStepsOf': WHATEVER THE INPUT: true; the input reads as it did. -/
def fnStepsOfSpec : ChangeSpec := { name := "fnStepsOf", fn := fun _ => fun
  | [d] => { results := [.lit (.bool true)], args := [d] }
  | _ => none }
def fnStepsOfRow : OpenClaim := { program := "ytodeldmkpogakaa", sum := "9485f9643866df85a2115a641876f34be346c856d2ebc53cd7d54fc3097268e9", func := "loop.example/fewpoints/laws.FnStepsOf", spec := "fnStepsOf", unfollowed := true, recurses := true, apart := false }
def FnStepsOfSaid : Prop := fnStepsOfRow.holds Try.pinned (OpenSpec.ofChange fnStepsOfSpec)

/-- ITS FALSE NEIGHBOUR: 'it returns false'. Refute it at one input. -/
def fnStepsOfWrong : ChangeSpec := { name := "fnStepsOf", fn := fun _ => fun
  | [d] => { results := [.lit (.bool false)], args := [d] }
  | _ => none }
def FnStepsOfWrongFalsely : Prop := fnStepsOfRow.holds Try.pinned (OpenSpec.ofChange fnStepsOfWrong)

/-- 'laws.FnExactGapOf': WHATEVER THE INPUT: true; the input reads as it did. -/
def fnExactGapOfSpec : ChangeSpec := { name := "fnExactGapOf", fn := fun _ => fun
  | [d1, d2, d3, d4, d5] => { results := [.lit (.bool true)], args := [d1, d2, d3, d4, d5] }
  | _ => none }
def fnExactGapOfRow : OpenClaim := { program := "ytodeldmkpogakaa", sum := "9485f9643866df85a2115a641876f34be346c856d2ebc53cd7d54fc3097268e9", func := "loop.example/fewpoints/laws.FnExactGapOf", spec := "fnExactGapOf", unfollowed := true, recurses := true, apart := false }
def FnExactGapOfSaid : Prop := fnExactGapOfRow.holds Try.pinned (OpenSpec.ofChange fnExactGapOfSpec)

/-- ITS FALSE NEIGHBOUR: 'it returns false'. Refute it at one input. -/
def fnExactGapOfWrong : ChangeSpec := { name := "fnExactGapOf", fn := fun _ => fun
  | [d1, d2, d3, d4, d5] => { results := [.lit (.bool false)], args := [d1, d2, d3, d4, d5] }
  | _ => none }
def FnExactGapOfWrongFalsely : Prop := fnExactGapOfRow.holds Try.pinned (OpenSpec.ofChange fnExactGapOfWrong)

/-- 'laws.FnExactWorstGap': WHATEVER THE INPUT: true; the input reads as it did. -/
def fnExactWorstGapSpec : ChangeSpec := { name := "fnExactWorstGap", fn := fun _ => fun
  | [d] => { results := [.lit (.bool true)], args := [d] }
  | _ => none }
def fnExactWorstGapRow : OpenClaim := { program := "ytodeldmkpogakaa", sum := "9485f9643866df85a2115a641876f34be346c856d2ebc53cd7d54fc3097268e9", func := "loop.example/fewpoints/laws.FnExactWorstGap", spec := "fnExactWorstGap", recurses := true, apart := false }
def FnExactWorstGapSaid : Prop := fnExactWorstGapRow.holds Try.pinned (OpenSpec.ofChange fnExactWorstGapSpec)

/-- ITS FALSE NEIGHBOUR: 'it returns false'. Refute it at one input. -/
def fnExactWorstGapWrong : ChangeSpec := { name := "fnExactWorstGap", fn := fun _ => fun
  | [d] => { results := [.lit (.bool false)], args := [d] }
  | _ => none }
def FnExactWorstGapWrongFalsely : Prop := fnExactWorstGapRow.holds Try.pinned (OpenSpec.ofChange fnExactWorstGapWrong)

/-- 'laws.FnExactTreeOk': WHATEVER THE INPUT: true; the input reads as it did. -/
def fnExactTreeOkSpec : ChangeSpec := { name := "fnExactTreeOk", fn := fun _ => fun
  | [d] => { results := [.lit (.bool true)], args := [d] }
  | _ => none }
def fnExactTreeOkRow : OpenClaim := { program := "ytodeldmkpogakaa", sum := "9485f9643866df85a2115a641876f34be346c856d2ebc53cd7d54fc3097268e9", func := "loop.example/fewpoints/laws.FnExactTreeOk", spec := "fnExactTreeOk", recurses := true, apart := false }
def FnExactTreeOkSaid : Prop := fnExactTreeOkRow.holds Try.pinned (OpenSpec.ofChange fnExactTreeOkSpec)

/-- ITS FALSE NEIGHBOUR: 'it returns false'. Refute it at one input. -/
def fnExactTreeOkWrong : ChangeSpec := { name := "fnExactTreeOk", fn := fun _ => fun
  | [d] => { results := [.lit (.bool false)], args := [d] }
  | _ => none }
def FnExactTreeOkWrongFalsely : Prop := fnExactTreeOkRow.holds Try.pinned (OpenSpec.ofChange fnExactTreeOkWrong)

/-- 'laws.FnExactLotsIn': WHATEVER THE INPUT: true; the input reads as it did. -/
def fnExactLotsInSpec : ChangeSpec := { name := "fnExactLotsIn", fn := fun _ => fun
  | [d1, d2] => { results := [.lit (.bool true)], args := [d1, d2] }
  | _ => none }
def fnExactLotsInRow : OpenClaim := { program := "ytodeldmkpogakaa", sum := "9485f9643866df85a2115a641876f34be346c856d2ebc53cd7d54fc3097268e9", func := "loop.example/fewpoints/laws.FnExactLotsIn", spec := "fnExactLotsIn", unfollowed := true, recurses := true, apart := false }
def FnExactLotsInSaid : Prop := fnExactLotsInRow.holds Try.pinned (OpenSpec.ofChange fnExactLotsInSpec)

/-- ITS FALSE NEIGHBOUR: 'it returns false'. Refute it at one input. -/
def fnExactLotsInWrong : ChangeSpec := { name := "fnExactLotsIn", fn := fun _ => fun
  | [d1, d2] => { results := [.lit (.bool false)], args := [d1, d2] }
  | _ => none }
def FnExactLotsInWrongFalsely : Prop := fnExactLotsInRow.holds Try.pinned (OpenSpec.ofChange fnExactLotsInWrong)

/-- 'laws.FnExactStepsOf': WHATEVER THE INPUT: true; the input reads as it did. -/
def fnExactStepsOfSpec : ChangeSpec := { name := "fnExactStepsOf", fn := fun _ => fun
  | [d] => { results := [.lit (.bool true)], args := [d] }
  | _ => none }
def fnExactStepsOfRow : OpenClaim := { program := "ytodeldmkpogakaa", sum := "9485f9643866df85a2115a641876f34be346c856d2ebc53cd7d54fc3097268e9", func := "loop.example/fewpoints/laws.FnExactStepsOf", spec := "fnExactStepsOf", unfollowed := true, recurses := true, apart := false }
def FnExactStepsOfSaid : Prop := fnExactStepsOfRow.holds Try.pinned (OpenSpec.ofChange fnExactStepsOfSpec)

/-- ITS FALSE NEIGHBOUR: 'it returns false'. Refute it at one input. -/
def fnExactStepsOfWrong : ChangeSpec := { name := "fnExactStepsOf", fn := fun _ => fun
  | [d] => { results := [.lit (.bool false)], args := [d] }
  | _ => none }
def FnExactStepsOfWrongFalsely : Prop := fnExactStepsOfRow.holds Try.pinned (OpenSpec.ofChange fnExactStepsOfWrong)

/-- 'laws.FnCaterpillarOf': WHATEVER THE INPUT: true; the input reads as it did. -/
def fnCaterpillarOfSpec : ChangeSpec := { name := "fnCaterpillarOf", fn := fun _ => fun
  | [d] => { results := [.lit (.bool true)], args := [d] }
  | _ => none }
def fnCaterpillarOfRow : OpenClaim := { program := "ytodeldmkpogakaa", sum := "9485f9643866df85a2115a641876f34be346c856d2ebc53cd7d54fc3097268e9", func := "loop.example/fewpoints/laws.FnCaterpillarOf", spec := "fnCaterpillarOf", recurses := true, apart := false }
def FnCaterpillarOfSaid : Prop := fnCaterpillarOfRow.holds Try.pinned (OpenSpec.ofChange fnCaterpillarOfSpec)

/-- ITS FALSE NEIGHBOUR: 'it returns false'. Refute it at one input. -/
def fnCaterpillarOfWrong : ChangeSpec := { name := "fnCaterpillarOf", fn := fun _ => fun
  | [d] => { results := [.lit (.bool false)], args := [d] }
  | _ => none }
def FnCaterpillarOfWrongFalsely : Prop := fnCaterpillarOfRow.holds Try.pinned (OpenSpec.ofChange fnCaterpillarOfWrong)

/-- 'laws.FnExactJoinedOf': WHATEVER THE INPUT: true; the input reads as it did. -/
def fnExactJoinedOfSpec : ChangeSpec := { name := "fnExactJoinedOf", fn := fun _ => fun
  | [d] => { results := [.lit (.bool true)], args := [d] }
  | _ => none }
def fnExactJoinedOfRow : OpenClaim := { program := "ytodeldmkpogakaa", sum := "9485f9643866df85a2115a641876f34be346c856d2ebc53cd7d54fc3097268e9", func := "loop.example/fewpoints/laws.FnExactJoinedOf", spec := "fnExactJoinedOf", unfollowed := true, recurses := true, apart := false }
def FnExactJoinedOfSaid : Prop := fnExactJoinedOfRow.holds Try.pinned (OpenSpec.ofChange fnExactJoinedOfSpec)

/-- ITS FALSE NEIGHBOUR: 'it returns false'. Refute it at one input. -/
def fnExactJoinedOfWrong : ChangeSpec := { name := "fnExactJoinedOf", fn := fun _ => fun
  | [d] => { results := [.lit (.bool false)], args := [d] }
  | _ => none }
def FnExactJoinedOfWrongFalsely : Prop := fnExactJoinedOfRow.holds Try.pinned (OpenSpec.ofChange fnExactJoinedOfWrong)

/-- 'laws.FnJoinedOf': WHATEVER THE INPUT: true; the input reads as it did. -/
def fnJoinedOfSpec : ChangeSpec := { name := "fnJoinedOf", fn := fun _ => fun
  | [d] => { results := [.lit (.bool true)], args := [d] }
  | _ => none }
def fnJoinedOfRow : OpenClaim := { program := "ytodeldmkpogakaa", sum := "9485f9643866df85a2115a641876f34be346c856d2ebc53cd7d54fc3097268e9", func := "loop.example/fewpoints/laws.FnJoinedOf", spec := "fnJoinedOf", unfollowed := true, recurses := true, apart := false }
def FnJoinedOfSaid : Prop := fnJoinedOfRow.holds Try.pinned (OpenSpec.ofChange fnJoinedOfSpec)

/-- ITS FALSE NEIGHBOUR: 'it returns false'. Refute it at one input. -/
def fnJoinedOfWrong : ChangeSpec := { name := "fnJoinedOf", fn := fun _ => fun
  | [d] => { results := [.lit (.bool false)], args := [d] }
  | _ => none }
def FnJoinedOfWrongFalsely : Prop := fnJoinedOfRow.holds Try.pinned (OpenSpec.ofChange fnJoinedOfWrong)

/- THE SECOND FORM. 'bulk': how many values and letters a reading holds, each counted each time it is reached (what is shared counts as often as it is met; a slice's spare places count too). A statement '..UptoSaid' is the law's where the arguments, and the package variables that the reading takes, are together of bulk at most 1048576: NARROWER than '..Said'. Prove '..Said' where nothing that the law and all that it calls make is longer than what came in: it says more and counts as full. Else prove '..UptoSaid'. A law counts once. -/
mutual
def uptoBulk {H : Type} : DataW H → Nat
  | .lit (.string bytes) => bytes.length + 1
  | .lit _ => 1
  | .nil => 1
  | .ptr d => uptoBulk d + 1
  | .slice elems spare => uptoBulkAll elems + uptoBulkAll spare + 1
  | .agg parts => uptoBulkAll parts + 1
  | .iface _ d => uptoBulk d + 1
  | .map entries => uptoBulkEntries entries + 1
  | .held _ => 1
def uptoBulkAll {H : Type} : List (DataW H) → Nat
  | [] => 0
  | d :: r => uptoBulk d + uptoBulkAll r
def uptoBulkEntries {H : Type} : List (Lit × DataW H) → Nat
  | [] => 0
  | x :: r => uptoBulkEntry x + uptoBulkEntries r
def uptoBulkEntry {H : Type} : Lit × DataW H → Nat
  | (.string bytes, d) => bytes.length + uptoBulk d + 1
  | (_, d) => uptoBulk d + 1
 end
def uptoSmall : (H : Type) → List (DataW H) → Bool := fun _ ds => decide (uptoBulkAll ds ≤ 1048576)
def OpenSpec.upto (s : _root_.Go.ChangeSpec) : _root_.Go.OpenSpec := { _root_.Go.OpenSpec.ofChange s with cond := some uptoSmall }

/-- 'laws.FnLotsIn', WHERE WHAT IT READS IS OF BULK AT MOST 1048576: true; the input reads as it did. -/
def fnLotsInUptoRow : OpenClaim := { program := "ytodeldmkpogakaa", sum := "9485f9643866df85a2115a641876f34be346c856d2ebc53cd7d54fc3097268e9", func := "loop.example/fewpoints/laws.FnLotsIn", spec := "fnLotsIn", unfollowed := true, recurses := true, apart := false, narrowed := true }
def FnLotsInUptoSaid : Prop := fnLotsInUptoRow.holds Try.pinned (OpenSpec.upto fnLotsInSpec)

/-- 'laws.FnGapOf', WHERE WHAT IT READS IS OF BULK AT MOST 1048576: true; the input reads as it did. -/
def fnGapOfUptoRow : OpenClaim := { program := "ytodeldmkpogakaa", sum := "9485f9643866df85a2115a641876f34be346c856d2ebc53cd7d54fc3097268e9", func := "loop.example/fewpoints/laws.FnGapOf", spec := "fnGapOf", unfollowed := true, recurses := true, apart := false, narrowed := true }
def FnGapOfUptoSaid : Prop := fnGapOfUptoRow.holds Try.pinned (OpenSpec.upto fnGapOfSpec)

/-- 'laws.FnStepsOf', WHERE WHAT IT READS IS OF BULK AT MOST 1048576: true; the input reads as it did. -/
def fnStepsOfUptoRow : OpenClaim := { program := "ytodeldmkpogakaa", sum := "9485f9643866df85a2115a641876f34be346c856d2ebc53cd7d54fc3097268e9", func := "loop.example/fewpoints/laws.FnStepsOf", spec := "fnStepsOf", unfollowed := true, recurses := true, apart := false, narrowed := true }
def FnStepsOfUptoSaid : Prop := fnStepsOfUptoRow.holds Try.pinned (OpenSpec.upto fnStepsOfSpec)

/-- 'laws.FnExactGapOf', WHERE WHAT IT READS IS OF BULK AT MOST 1048576: true; the input reads as it did. -/
def fnExactGapOfUptoRow : OpenClaim := { program := "ytodeldmkpogakaa", sum := "9485f9643866df85a2115a641876f34be346c856d2ebc53cd7d54fc3097268e9", func := "loop.example/fewpoints/laws.FnExactGapOf", spec := "fnExactGapOf", unfollowed := true, recurses := true, apart := false, narrowed := true }
def FnExactGapOfUptoSaid : Prop := fnExactGapOfUptoRow.holds Try.pinned (OpenSpec.upto fnExactGapOfSpec)

/-- 'laws.FnExactWorstGap', WHERE WHAT IT READS IS OF BULK AT MOST 1048576: true; the input reads as it did. -/
def fnExactWorstGapUptoRow : OpenClaim := { program := "ytodeldmkpogakaa", sum := "9485f9643866df85a2115a641876f34be346c856d2ebc53cd7d54fc3097268e9", func := "loop.example/fewpoints/laws.FnExactWorstGap", spec := "fnExactWorstGap", recurses := true, apart := false, narrowed := true }
def FnExactWorstGapUptoSaid : Prop := fnExactWorstGapUptoRow.holds Try.pinned (OpenSpec.upto fnExactWorstGapSpec)

/-- 'laws.FnExactTreeOk', WHERE WHAT IT READS IS OF BULK AT MOST 1048576: true; the input reads as it did. -/
def fnExactTreeOkUptoRow : OpenClaim := { program := "ytodeldmkpogakaa", sum := "9485f9643866df85a2115a641876f34be346c856d2ebc53cd7d54fc3097268e9", func := "loop.example/fewpoints/laws.FnExactTreeOk", spec := "fnExactTreeOk", recurses := true, apart := false, narrowed := true }
def FnExactTreeOkUptoSaid : Prop := fnExactTreeOkUptoRow.holds Try.pinned (OpenSpec.upto fnExactTreeOkSpec)

/-- 'laws.FnExactLotsIn', WHERE WHAT IT READS IS OF BULK AT MOST 1048576: true; the input reads as it did. -/
def fnExactLotsInUptoRow : OpenClaim := { program := "ytodeldmkpogakaa", sum := "9485f9643866df85a2115a641876f34be346c856d2ebc53cd7d54fc3097268e9", func := "loop.example/fewpoints/laws.FnExactLotsIn", spec := "fnExactLotsIn", unfollowed := true, recurses := true, apart := false, narrowed := true }
def FnExactLotsInUptoSaid : Prop := fnExactLotsInUptoRow.holds Try.pinned (OpenSpec.upto fnExactLotsInSpec)

/-- 'laws.FnExactStepsOf', WHERE WHAT IT READS IS OF BULK AT MOST 1048576: true; the input reads as it did. -/
def fnExactStepsOfUptoRow : OpenClaim := { program := "ytodeldmkpogakaa", sum := "9485f9643866df85a2115a641876f34be346c856d2ebc53cd7d54fc3097268e9", func := "loop.example/fewpoints/laws.FnExactStepsOf", spec := "fnExactStepsOf", unfollowed := true, recurses := true, apart := false, narrowed := true }
def FnExactStepsOfUptoSaid : Prop := fnExactStepsOfUptoRow.holds Try.pinned (OpenSpec.upto fnExactStepsOfSpec)

/-- 'laws.FnCaterpillarOf', WHERE WHAT IT READS IS OF BULK AT MOST 1048576: true; the input reads as it did. -/
def fnCaterpillarOfUptoRow : OpenClaim := { program := "ytodeldmkpogakaa", sum := "9485f9643866df85a2115a641876f34be346c856d2ebc53cd7d54fc3097268e9", func := "loop.example/fewpoints/laws.FnCaterpillarOf", spec := "fnCaterpillarOf", recurses := true, apart := false, narrowed := true }
def FnCaterpillarOfUptoSaid : Prop := fnCaterpillarOfUptoRow.holds Try.pinned (OpenSpec.upto fnCaterpillarOfSpec)

/-- 'laws.FnExactJoinedOf', WHERE WHAT IT READS IS OF BULK AT MOST 1048576: true; the input reads as it did. -/
def fnExactJoinedOfUptoRow : OpenClaim := { program := "ytodeldmkpogakaa", sum := "9485f9643866df85a2115a641876f34be346c856d2ebc53cd7d54fc3097268e9", func := "loop.example/fewpoints/laws.FnExactJoinedOf", spec := "fnExactJoinedOf", unfollowed := true, recurses := true, apart := false, narrowed := true }
def FnExactJoinedOfUptoSaid : Prop := fnExactJoinedOfUptoRow.holds Try.pinned (OpenSpec.upto fnExactJoinedOfSpec)

/-- 'laws.FnJoinedOf', WHERE WHAT IT READS IS OF BULK AT MOST 1048576: true; the input reads as it did. -/
def fnJoinedOfUptoRow : OpenClaim := { program := "ytodeldmkpogakaa", sum := "9485f9643866df85a2115a641876f34be346c856d2ebc53cd7d54fc3097268e9", func := "loop.example/fewpoints/laws.FnJoinedOf", spec := "fnJoinedOf", unfollowed := true, recurses := true, apart := false, narrowed := true }
def FnJoinedOfUptoSaid : Prop := fnJoinedOfUptoRow.holds Try.pinned (OpenSpec.upto fnJoinedOfSpec)

end Rows
end Go.Proofs.Ytodeldmkpogakaa

/-
  No cell of these rows narrows 'for every input' (looked for: loops, veiled, ifaces, maps, wideKeys, modest, calm, conditions, laid).
  DERIVED. THE GIVEN ROWS OF THIS SEAT. 12 by the template 'for every input the law returns true; each argument reads behind the call as it read before'; 0 by the template 'total and deterministic' (their statements: YticdbohhnkpelaaTotals.lean).
  GIVEN WITH THE SEED: the statements are not yours to turn. If you find one false, say at which input.
  Laid BY PROGRAM, IN A SANDBOX (cutbox-rows.mjs): the forced cells as the released guide's own fill.sh prints them over the translation c1471d928151d1cd… (all of the seat's roots in one cut). By AI agents, Wed Nov 11 2026. No macro, syntax, notation, axiom, sorry.
-/
import Derived.Test.YticdbohhnkpelaaChecked
import GoSem.Claim
import GoSem.ClaimJoined
import GoSem.ClaimMapViews
import Derived.JoinedTies
import Derived.KernelRfl
namespace Go.Proofs.Yticdbohhnkpelaa
/- THE CELL 'sum', in the pinned program and in every row, IS THE sha256 OF THE DUMP (.gsa) THAT YticdbohhnkpelaaProg.lean LOADS. Nothing in Lean hashes anything: it is a label: what it is worth is what the hold of that sum in a sandbox is worth. -/
noncomputable def Try.pinned : Pinned := { name := "yticdbohhnkpelaa", sum := "c1471d928151d1cd432e8e5939c2953c7a91c4bd1d8d72042bb536304718f13e", checked := Try.checked }
namespace Rows
def none {H : Type} : Left H := { results := [], args := [] }

/-- 'laws.FnExactShortestOf': WHATEVER THE INPUT: true; the input reads as it did. -/
def fnExactShortestOfSpec : ChangeSpec := { name := "fnExactShortestOf", fn := fun _ => fun
  | [d] => { results := [.lit (.bool true)], args := [d] }
  | _ => none }
def fnExactShortestOfRow : OpenClaim := { program := "yticdbohhnkpelaa", sum := "c1471d928151d1cd432e8e5939c2953c7a91c4bd1d8d72042bb536304718f13e", func := "loop.example/fewpoints/laws.FnExactShortestOf", spec := "fnExactShortestOf", unfollowed := true, recurses := true, apart := false }
def FnExactShortestOfSaid : Prop := fnExactShortestOfRow.holds Try.pinned (OpenSpec.ofChange fnExactShortestOfSpec)

/-- ITS FALSE NEIGHBOUR: 'it returns false'. Refute it at one input. -/
def fnExactShortestOfWrong : ChangeSpec := { name := "fnExactShortestOf", fn := fun _ => fun
  | [d] => { results := [.lit (.bool false)], args := [d] }
  | _ => none }
def FnExactShortestOfWrongFalsely : Prop := fnExactShortestOfRow.holds Try.pinned (OpenSpec.ofChange fnExactShortestOfWrong)

/-- 'laws.FnExactBallOf': WHATEVER THE INPUT: true; the input reads as it did. -/
def fnExactBallOfSpec : ChangeSpec := { name := "fnExactBallOf", fn := fun _ => fun
  | [d1, d2, d3] => { results := [.lit (.bool true)], args := [d1, d2, d3] }
  | _ => none }
def fnExactBallOfRow : OpenClaim := { program := "yticdbohhnkpelaa", sum := "c1471d928151d1cd432e8e5939c2953c7a91c4bd1d8d72042bb536304718f13e", func := "loop.example/fewpoints/laws.FnExactBallOf", spec := "fnExactBallOf", apart := false }
def FnExactBallOfSaid : Prop := fnExactBallOfRow.holds Try.pinned (OpenSpec.ofChange fnExactBallOfSpec)

/-- ITS FALSE NEIGHBOUR: 'it returns false'. Refute it at one input. -/
def fnExactBallOfWrong : ChangeSpec := { name := "fnExactBallOf", fn := fun _ => fun
  | [d1, d2, d3] => { results := [.lit (.bool false)], args := [d1, d2, d3] }
  | _ => none }
def FnExactBallOfWrongFalsely : Prop := fnExactBallOfRow.holds Try.pinned (OpenSpec.ofChange fnExactBallOfWrong)

/-- 'laws.FnExactBelowOf': WHATEVER THE INPUT: true; the input reads as it did. -/
def fnExactBelowOfSpec : ChangeSpec := { name := "fnExactBelowOf", fn := fun _ => fun
  | [d] => { results := [.lit (.bool true)], args := [d] }
  | _ => none }
def fnExactBelowOfRow : OpenClaim := { program := "yticdbohhnkpelaa", sum := "c1471d928151d1cd432e8e5939c2953c7a91c4bd1d8d72042bb536304718f13e", func := "loop.example/fewpoints/laws.FnExactBelowOf", spec := "fnExactBelowOf", unfollowed := true, recurses := true, apart := false }
def FnExactBelowOfSaid : Prop := fnExactBelowOfRow.holds Try.pinned (OpenSpec.ofChange fnExactBelowOfSpec)

/-- ITS FALSE NEIGHBOUR: 'it returns false'. Refute it at one input. -/
def fnExactBelowOfWrong : ChangeSpec := { name := "fnExactBelowOf", fn := fun _ => fun
  | [d] => { results := [.lit (.bool false)], args := [d] }
  | _ => none }
def FnExactBelowOfWrongFalsely : Prop := fnExactBelowOfRow.holds Try.pinned (OpenSpec.ofChange fnExactBelowOfWrong)

/-- 'laws.FnExactBetweenOf': WHATEVER THE INPUT: true; the input reads as it did. -/
def fnExactBetweenOfSpec : ChangeSpec := { name := "fnExactBetweenOf", fn := fun _ => fun
  | [d1, d2, d3] => { results := [.lit (.bool true)], args := [d1, d2, d3] }
  | _ => none }
def fnExactBetweenOfRow : OpenClaim := { program := "yticdbohhnkpelaa", sum := "c1471d928151d1cd432e8e5939c2953c7a91c4bd1d8d72042bb536304718f13e", func := "loop.example/fewpoints/laws.FnExactBetweenOf", spec := "fnExactBetweenOf", apart := false }
def FnExactBetweenOfSaid : Prop := fnExactBetweenOfRow.holds Try.pinned (OpenSpec.ofChange fnExactBetweenOfSpec)

/-- ITS FALSE NEIGHBOUR: 'it returns false'. Refute it at one input. -/
def fnExactBetweenOfWrong : ChangeSpec := { name := "fnExactBetweenOf", fn := fun _ => fun
  | [d1, d2, d3] => { results := [.lit (.bool false)], args := [d1, d2, d3] }
  | _ => none }
def FnExactBetweenOfWrongFalsely : Prop := fnExactBetweenOfRow.holds Try.pinned (OpenSpec.ofChange fnExactBetweenOfWrong)

/-- 'laws.FnExactPairSums': WHATEVER THE INPUT: true; the input reads as it did. -/
def fnExactPairSumsSpec : ChangeSpec := { name := "fnExactPairSums", fn := fun _ => fun
  | [d1, d2, d3, d4, d5] => { results := [.lit (.bool true)], args := [d1, d2, d3, d4, d5] }
  | _ => none }
def fnExactPairSumsRow : OpenClaim := { program := "yticdbohhnkpelaa", sum := "c1471d928151d1cd432e8e5939c2953c7a91c4bd1d8d72042bb536304718f13e", func := "loop.example/fewpoints/laws.FnExactPairSums", spec := "fnExactPairSums", unfollowed := true, recurses := true, apart := false }
def FnExactPairSumsSaid : Prop := fnExactPairSumsRow.holds Try.pinned (OpenSpec.ofChange fnExactPairSumsSpec)

/-- ITS FALSE NEIGHBOUR: 'it returns false'. Refute it at one input. -/
def fnExactPairSumsWrong : ChangeSpec := { name := "fnExactPairSums", fn := fun _ => fun
  | [d1, d2, d3, d4, d5] => { results := [.lit (.bool false)], args := [d1, d2, d3, d4, d5] }
  | _ => none }
def FnExactPairSumsWrongFalsely : Prop := fnExactPairSumsRow.holds Try.pinned (OpenSpec.ofChange fnExactPairSumsWrong)

/-- 'laws.FnExactCaterpillarOf': WHATEVER THE INPUT: true; the input reads as it did. -/
def fnExactCaterpillarOfSpec : ChangeSpec := { name := "fnExactCaterpillarOf", fn := fun _ => fun
  | [d1, d2] => { results := [.lit (.bool true)], args := [d1, d2] }
  | _ => none }
def fnExactCaterpillarOfRow : OpenClaim := { program := "yticdbohhnkpelaa", sum := "c1471d928151d1cd432e8e5939c2953c7a91c4bd1d8d72042bb536304718f13e", func := "loop.example/fewpoints/laws.FnExactCaterpillarOf", spec := "fnExactCaterpillarOf", apart := false }
def FnExactCaterpillarOfSaid : Prop := fnExactCaterpillarOfRow.holds Try.pinned (OpenSpec.ofChange fnExactCaterpillarOfSpec)

/-- ITS FALSE NEIGHBOUR: 'it returns false'. Refute it at one input. -/
def fnExactCaterpillarOfWrong : ChangeSpec := { name := "fnExactCaterpillarOf", fn := fun _ => fun
  | [d1, d2] => { results := [.lit (.bool false)], args := [d1, d2] }
  | _ => none }
def FnExactCaterpillarOfWrongFalsely : Prop := fnExactCaterpillarOfRow.holds Try.pinned (OpenSpec.ofChange fnExactCaterpillarOfWrong)

/-- 'laws.FnExactLotsAt': WHATEVER THE INPUT: true; the input reads as it did. -/
def fnExactLotsAtSpec : ChangeSpec := { name := "fnExactLotsAt", fn := fun _ => fun
  | [d1, d2] => { results := [.lit (.bool true)], args := [d1, d2] }
  | _ => none }
def fnExactLotsAtRow : OpenClaim := { program := "yticdbohhnkpelaa", sum := "c1471d928151d1cd432e8e5939c2953c7a91c4bd1d8d72042bb536304718f13e", func := "loop.example/fewpoints/laws.FnExactLotsAt", spec := "fnExactLotsAt", unfollowed := true, recurses := true, apart := false }
def FnExactLotsAtSaid : Prop := fnExactLotsAtRow.holds Try.pinned (OpenSpec.ofChange fnExactLotsAtSpec)

/-- ITS FALSE NEIGHBOUR: 'it returns false'. Refute it at one input. -/
def fnExactLotsAtWrong : ChangeSpec := { name := "fnExactLotsAt", fn := fun _ => fun
  | [d1, d2] => { results := [.lit (.bool false)], args := [d1, d2] }
  | _ => none }
def FnExactLotsAtWrongFalsely : Prop := fnExactLotsAtRow.holds Try.pinned (OpenSpec.ofChange fnExactLotsAtWrong)

/-- 'laws.FnExactWithoutPoint': WHATEVER THE INPUT: true; the input reads as it did. -/
def fnExactWithoutPointSpec : ChangeSpec := { name := "fnExactWithoutPoint", fn := fun _ => fun
  | [d1, d2] => { results := [.lit (.bool true)], args := [d1, d2] }
  | _ => none }
def fnExactWithoutPointRow : OpenClaim := { program := "yticdbohhnkpelaa", sum := "c1471d928151d1cd432e8e5939c2953c7a91c4bd1d8d72042bb536304718f13e", func := "loop.example/fewpoints/laws.FnExactWithoutPoint", spec := "fnExactWithoutPoint", apart := false }
def FnExactWithoutPointSaid : Prop := fnExactWithoutPointRow.holds Try.pinned (OpenSpec.ofChange fnExactWithoutPointSpec)

/-- ITS FALSE NEIGHBOUR: 'it returns false'. Refute it at one input. -/
def fnExactWithoutPointWrong : ChangeSpec := { name := "fnExactWithoutPoint", fn := fun _ => fun
  | [d1, d2] => { results := [.lit (.bool false)], args := [d1, d2] }
  | _ => none }
def FnExactWithoutPointWrongFalsely : Prop := fnExactWithoutPointRow.holds Try.pinned (OpenSpec.ofChange fnExactWithoutPointWrong)

/-- 'laws.FnExactRoadsOf': WHATEVER THE INPUT: true; the input reads as it did. -/
def fnExactRoadsOfSpec : ChangeSpec := { name := "fnExactRoadsOf", fn := fun _ => fun
  | [d] => { results := [.lit (.bool true)], args := [d] }
  | _ => none }
def fnExactRoadsOfRow : OpenClaim := { program := "yticdbohhnkpelaa", sum := "c1471d928151d1cd432e8e5939c2953c7a91c4bd1d8d72042bb536304718f13e", func := "loop.example/fewpoints/laws.FnExactRoadsOf", spec := "fnExactRoadsOf", apart := false }
def FnExactRoadsOfSaid : Prop := fnExactRoadsOfRow.holds Try.pinned (OpenSpec.ofChange fnExactRoadsOfSpec)

/-- ITS FALSE NEIGHBOUR: 'it returns false'. Refute it at one input. -/
def fnExactRoadsOfWrong : ChangeSpec := { name := "fnExactRoadsOf", fn := fun _ => fun
  | [d] => { results := [.lit (.bool false)], args := [d] }
  | _ => none }
def FnExactRoadsOfWrongFalsely : Prop := fnExactRoadsOfRow.holds Try.pinned (OpenSpec.ofChange fnExactRoadsOfWrong)

/-- 'laws.FnExactWithPoint': WHATEVER THE INPUT: true; the input reads as it did. -/
def fnExactWithPointSpec : ChangeSpec := { name := "fnExactWithPoint", fn := fun _ => fun
  | [d1, d2] => { results := [.lit (.bool true)], args := [d1, d2] }
  | _ => none }
def fnExactWithPointRow : OpenClaim := { program := "yticdbohhnkpelaa", sum := "c1471d928151d1cd432e8e5939c2953c7a91c4bd1d8d72042bb536304718f13e", func := "loop.example/fewpoints/laws.FnExactWithPoint", spec := "fnExactWithPoint", apart := false }
def FnExactWithPointSaid : Prop := fnExactWithPointRow.holds Try.pinned (OpenSpec.ofChange fnExactWithPointSpec)

/-- ITS FALSE NEIGHBOUR: 'it returns false'. Refute it at one input. -/
def fnExactWithPointWrong : ChangeSpec := { name := "fnExactWithPoint", fn := fun _ => fun
  | [d1, d2] => { results := [.lit (.bool false)], args := [d1, d2] }
  | _ => none }
def FnExactWithPointWrongFalsely : Prop := fnExactWithPointRow.holds Try.pinned (OpenSpec.ofChange fnExactWithPointWrong)

/-- 'laws.FnExactRoadsAlone': WHATEVER THE INPUT: true; the input reads as it did. -/
def fnExactRoadsAloneSpec : ChangeSpec := { name := "fnExactRoadsAlone", fn := fun _ => fun
  | [d] => { results := [.lit (.bool true)], args := [d] }
  | _ => none }
def fnExactRoadsAloneRow : OpenClaim := { program := "yticdbohhnkpelaa", sum := "c1471d928151d1cd432e8e5939c2953c7a91c4bd1d8d72042bb536304718f13e", func := "loop.example/fewpoints/laws.FnExactRoadsAlone", spec := "fnExactRoadsAlone", apart := false }
def FnExactRoadsAloneSaid : Prop := fnExactRoadsAloneRow.holds Try.pinned (OpenSpec.ofChange fnExactRoadsAloneSpec)

/-- ITS FALSE NEIGHBOUR: 'it returns false'. Refute it at one input. -/
def fnExactRoadsAloneWrong : ChangeSpec := { name := "fnExactRoadsAlone", fn := fun _ => fun
  | [d] => { results := [.lit (.bool false)], args := [d] }
  | _ => none }
def FnExactRoadsAloneWrongFalsely : Prop := fnExactRoadsAloneRow.holds Try.pinned (OpenSpec.ofChange fnExactRoadsAloneWrong)

/-- 'laws.FnPairSums': WHATEVER THE INPUT: true; the input reads as it did. -/
def fnPairSumsSpec : ChangeSpec := { name := "fnPairSums", fn := fun _ => fun
  | [d] => { results := [.lit (.bool true)], args := [d] }
  | _ => none }
def fnPairSumsRow : OpenClaim := { program := "yticdbohhnkpelaa", sum := "c1471d928151d1cd432e8e5939c2953c7a91c4bd1d8d72042bb536304718f13e", func := "loop.example/fewpoints/laws.FnPairSums", spec := "fnPairSums", unfollowed := true, recurses := true, apart := false }
def FnPairSumsSaid : Prop := fnPairSumsRow.holds Try.pinned (OpenSpec.ofChange fnPairSumsSpec)

/-- ITS FALSE NEIGHBOUR: 'it returns false'. Refute it at one input. -/
def fnPairSumsWrong : ChangeSpec := { name := "fnPairSums", fn := fun _ => fun
  | [d] => { results := [.lit (.bool false)], args := [d] }
  | _ => none }
def FnPairSumsWrongFalsely : Prop := fnPairSumsRow.holds Try.pinned (OpenSpec.ofChange fnPairSumsWrong)

/- THE SECOND FORM. 'bulk': how many values and letters a reading holds, each counted each time it is reached (what is shared counts as often as it is met; a slice's spare places count too). A statement '..UptoSaid' is the law's where the arguments, and the package variables that the reading takes, are together of bulk at most 1048576: NARROWER than '..Said'. Prove '..Said' where nothing that the law and all that it calls make is longer than what came in: it says more and counts as full. Else prove '..UptoSaid'. A law counts once. -/
mutual
def uptoBulk {H : Type} : DataW H → Nat
  | .lit (.string bytes) => bytes.length + 1
  | .lit _ => 1
  | .nil => 1
  | .ptr d => uptoBulk d + 1
  | .slice elems spare => uptoBulkAll elems + uptoBulkAll spare + 1
  | .agg parts => uptoBulkAll parts + 1
  | .iface _ d => uptoBulk d + 1
  | .map entries => uptoBulkEntries entries + 1
  | .held _ => 1
def uptoBulkAll {H : Type} : List (DataW H) → Nat
  | [] => 0
  | d :: r => uptoBulk d + uptoBulkAll r
def uptoBulkEntries {H : Type} : List (Lit × DataW H) → Nat
  | [] => 0
  | x :: r => uptoBulkEntry x + uptoBulkEntries r
def uptoBulkEntry {H : Type} : Lit × DataW H → Nat
  | (.string bytes, d) => bytes.length + uptoBulk d + 1
  | (_, d) => uptoBulk d + 1
 end
def uptoSmall : (H : Type) → List (DataW H) → Bool := fun _ ds => decide (uptoBulkAll ds ≤ 1048576)
def OpenSpec.upto (s : _root_.Go.ChangeSpec) : _root_.Go.OpenSpec := { _root_.Go.OpenSpec.ofChange s with cond := some uptoSmall }

/-- 'laws.FnExactShortestOf', WHERE WHAT IT READS IS OF BULK AT MOST 1048576: true; the input reads as it did. -/
def fnExactShortestOfUptoRow : OpenClaim := { program := "yticdbohhnkpelaa", sum := "c1471d928151d1cd432e8e5939c2953c7a91c4bd1d8d72042bb536304718f13e", func := "loop.example/fewpoints/laws.FnExactShortestOf", spec := "fnExactShortestOf", unfollowed := true, recurses := true, apart := false, narrowed := true }
def FnExactShortestOfUptoSaid : Prop := fnExactShortestOfUptoRow.holds Try.pinned (OpenSpec.upto fnExactShortestOfSpec)

/-- 'laws.FnExactBallOf', WHERE WHAT IT READS IS OF BULK AT MOST 1048576: true; the input reads as it did. -/
def fnExactBallOfUptoRow : OpenClaim := { program := "yticdbohhnkpelaa", sum := "c1471d928151d1cd432e8e5939c2953c7a91c4bd1d8d72042bb536304718f13e", func := "loop.example/fewpoints/laws.FnExactBallOf", spec := "fnExactBallOf", apart := false, narrowed := true }
def FnExactBallOfUptoSaid : Prop := fnExactBallOfUptoRow.holds Try.pinned (OpenSpec.upto fnExactBallOfSpec)

/-- 'laws.FnExactBelowOf', WHERE WHAT IT READS IS OF BULK AT MOST 1048576: true; the input reads as it did. -/
def fnExactBelowOfUptoRow : OpenClaim := { program := "yticdbohhnkpelaa", sum := "c1471d928151d1cd432e8e5939c2953c7a91c4bd1d8d72042bb536304718f13e", func := "loop.example/fewpoints/laws.FnExactBelowOf", spec := "fnExactBelowOf", unfollowed := true, recurses := true, apart := false, narrowed := true }
def FnExactBelowOfUptoSaid : Prop := fnExactBelowOfUptoRow.holds Try.pinned (OpenSpec.upto fnExactBelowOfSpec)

/-- 'laws.FnExactBetweenOf', WHERE WHAT IT READS IS OF BULK AT MOST 1048576: true; the input reads as it did. -/
def fnExactBetweenOfUptoRow : OpenClaim := { program := "yticdbohhnkpelaa", sum := "c1471d928151d1cd432e8e5939c2953c7a91c4bd1d8d72042bb536304718f13e", func := "loop.example/fewpoints/laws.FnExactBetweenOf", spec := "fnExactBetweenOf", apart := false, narrowed := true }
def FnExactBetweenOfUptoSaid : Prop := fnExactBetweenOfUptoRow.holds Try.pinned (OpenSpec.upto fnExactBetweenOfSpec)

/-- 'laws.FnExactPairSums', WHERE WHAT IT READS IS OF BULK AT MOST 1048576: true; the input reads as it did. -/
def fnExactPairSumsUptoRow : OpenClaim := { program := "yticdbohhnkpelaa", sum := "c1471d928151d1cd432e8e5939c2953c7a91c4bd1d8d72042bb536304718f13e", func := "loop.example/fewpoints/laws.FnExactPairSums", spec := "fnExactPairSums", unfollowed := true, recurses := true, apart := false, narrowed := true }
def FnExactPairSumsUptoSaid : Prop := fnExactPairSumsUptoRow.holds Try.pinned (OpenSpec.upto fnExactPairSumsSpec)

/-- 'laws.FnExactCaterpillarOf', WHERE WHAT IT READS IS OF BULK AT MOST 1048576: true; the input reads as it did. -/
def fnExactCaterpillarOfUptoRow : OpenClaim := { program := "yticdbohhnkpelaa", sum := "c1471d928151d1cd432e8e5939c2953c7a91c4bd1d8d72042bb536304718f13e", func := "loop.example/fewpoints/laws.FnExactCaterpillarOf", spec := "fnExactCaterpillarOf", apart := false, narrowed := true }
def FnExactCaterpillarOfUptoSaid : Prop := fnExactCaterpillarOfUptoRow.holds Try.pinned (OpenSpec.upto fnExactCaterpillarOfSpec)

/-- 'laws.FnExactLotsAt', WHERE WHAT IT READS IS OF BULK AT MOST 1048576: true; the input reads as it did. -/
def fnExactLotsAtUptoRow : OpenClaim := { program := "yticdbohhnkpelaa", sum := "c1471d928151d1cd432e8e5939c2953c7a91c4bd1d8d72042bb536304718f13e", func := "loop.example/fewpoints/laws.FnExactLotsAt", spec := "fnExactLotsAt", unfollowed := true, recurses := true, apart := false, narrowed := true }
def FnExactLotsAtUptoSaid : Prop := fnExactLotsAtUptoRow.holds Try.pinned (OpenSpec.upto fnExactLotsAtSpec)

/-- 'laws.FnExactWithoutPoint', WHERE WHAT IT READS IS OF BULK AT MOST 1048576: true; the input reads as it did. -/
def fnExactWithoutPointUptoRow : OpenClaim := { program := "yticdbohhnkpelaa", sum := "c1471d928151d1cd432e8e5939c2953c7a91c4bd1d8d72042bb536304718f13e", func := "loop.example/fewpoints/laws.FnExactWithoutPoint", spec := "fnExactWithoutPoint", apart := false, narrowed := true }
def FnExactWithoutPointUptoSaid : Prop := fnExactWithoutPointUptoRow.holds Try.pinned (OpenSpec.upto fnExactWithoutPointSpec)

/-- 'laws.FnExactRoadsOf', WHERE WHAT IT READS IS OF BULK AT MOST 1048576: true; the input reads as it did. -/
def fnExactRoadsOfUptoRow : OpenClaim := { program := "yticdbohhnkpelaa", sum := "c1471d928151d1cd432e8e5939c2953c7a91c4bd1d8d72042bb536304718f13e", func := "loop.example/fewpoints/laws.FnExactRoadsOf", spec := "fnExactRoadsOf", apart := false, narrowed := true }
def FnExactRoadsOfUptoSaid : Prop := fnExactRoadsOfUptoRow.holds Try.pinned (OpenSpec.upto fnExactRoadsOfSpec)

/-- 'laws.FnExactWithPoint', WHERE WHAT IT READS IS OF BULK AT MOST 1048576: true; the input reads as it did. -/
def fnExactWithPointUptoRow : OpenClaim := { program := "yticdbohhnkpelaa", sum := "c1471d928151d1cd432e8e5939c2953c7a91c4bd1d8d72042bb536304718f13e", func := "loop.example/fewpoints/laws.FnExactWithPoint", spec := "fnExactWithPoint", apart := false, narrowed := true }
def FnExactWithPointUptoSaid : Prop := fnExactWithPointUptoRow.holds Try.pinned (OpenSpec.upto fnExactWithPointSpec)

/-- 'laws.FnExactRoadsAlone', WHERE WHAT IT READS IS OF BULK AT MOST 1048576: true; the input reads as it did. -/
def fnExactRoadsAloneUptoRow : OpenClaim := { program := "yticdbohhnkpelaa", sum := "c1471d928151d1cd432e8e5939c2953c7a91c4bd1d8d72042bb536304718f13e", func := "loop.example/fewpoints/laws.FnExactRoadsAlone", spec := "fnExactRoadsAlone", apart := false, narrowed := true }
def FnExactRoadsAloneUptoSaid : Prop := fnExactRoadsAloneUptoRow.holds Try.pinned (OpenSpec.upto fnExactRoadsAloneSpec)

/-- 'laws.FnPairSums', WHERE WHAT IT READS IS OF BULK AT MOST 1048576: true; the input reads as it did. -/
def fnPairSumsUptoRow : OpenClaim := { program := "yticdbohhnkpelaa", sum := "c1471d928151d1cd432e8e5939c2953c7a91c4bd1d8d72042bb536304718f13e", func := "loop.example/fewpoints/laws.FnPairSums", spec := "fnPairSums", unfollowed := true, recurses := true, apart := false, narrowed := true }
def FnPairSumsUptoSaid : Prop := fnPairSumsUptoRow.holds Try.pinned (OpenSpec.upto fnPairSumsSpec)

end Rows
end Go.Proofs.Yticdbohhnkpelaa

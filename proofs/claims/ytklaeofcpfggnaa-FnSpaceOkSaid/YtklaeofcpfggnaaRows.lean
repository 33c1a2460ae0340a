/-
  No cell of these rows narrows 'for every input' (looked for: loops, veiled, ifaces, maps, wideKeys, modest, calm, conditions, laid).
  DERIVED. THE GIVEN ROWS OF THIS SEAT. 12 by the template 'for every input the law returns true; each argument reads behind the call as it read before'; 0 by the template 'total and deterministic' (their statements: YtklaeofcpfggnaaTotals.lean).
  GIVEN WITH THE SEED: the statements are not yours to turn. If you find one false, say at which input.
  Laid BY PROGRAM, IN A SANDBOX (cutbox-rows.mjs): the forced cells as the released guide's own fill.sh prints them over the translation 8157e137908f248b… (all of the seat's roots in one cut). By AI agents, Wed Nov 11 2026. No macro, syntax, notation, axiom, sorry.
-/
import Derived.Test.YtklaeofcpfggnaaChecked
import GoSem.Claim
import GoSem.ClaimJoined
import GoSem.ClaimMapViews
import Derived.JoinedTies
import Derived.KernelRfl
namespace Go.Proofs.Ytklaeofcpfggnaa
/- THE CELL 'sum', in the pinned program and in every row, IS THE sha256 OF THE DUMP (.gsa) THAT YtklaeofcpfggnaaProg.lean LOADS. Nothing in Lean hashes anything: it is a label: what it is worth is what the hold of that sum in a sandbox is worth. -/
noncomputable def Try.pinned : Pinned := { name := "ytklaeofcpfggnaa", sum := "8157e137908f248b2639af8dcae4942e0a459786d13ff449819c6e41077dc14a", checked := Try.checked }
namespace Rows
def none {H : Type} : Left H := { results := [], args := [] }

/-- 'laws.FnExactConstants': WHATEVER THE INPUT: true; the input reads as it did. -/
def fnExactConstantsSpec : ChangeSpec := { name := "fnExactConstants", fn := fun _ => fun
  | [] => { results := [.lit (.bool true)], args := [] }
  | _ => none }
def fnExactConstantsRow : OpenClaim := { program := "ytklaeofcpfggnaa", sum := "8157e137908f248b2639af8dcae4942e0a459786d13ff449819c6e41077dc14a", func := "loop.example/fewpoints/laws.FnExactConstants", spec := "fnExactConstants", apart := false }
def FnExactConstantsSaid : Prop := fnExactConstantsRow.holds Try.pinned (OpenSpec.ofChange fnExactConstantsSpec)

/-- ITS FALSE NEIGHBOUR: 'it returns false'. Refute it at one input. -/
def fnExactConstantsWrong : ChangeSpec := { name := "fnExactConstants", fn := fun _ => fun
  | [] => { results := [.lit (.bool false)], args := [] }
  | _ => none }
def FnExactConstantsWrongFalsely : Prop := fnExactConstantsRow.holds Try.pinned (OpenSpec.ofChange fnExactConstantsWrong)

/-- 'laws.FnExactFarOk': WHATEVER THE INPUT: true; the input reads as it did. -/
def fnExactFarOkSpec : ChangeSpec := { name := "fnExactFarOk", fn := fun _ => fun
  | [d] => { results := [.lit (.bool true)], args := [d] }
  | _ => none }
def fnExactFarOkRow : OpenClaim := { program := "ytklaeofcpfggnaa", sum := "8157e137908f248b2639af8dcae4942e0a459786d13ff449819c6e41077dc14a", func := "loop.example/fewpoints/laws.FnExactFarOk", spec := "fnExactFarOk", apart := false }
def FnExactFarOkSaid : Prop := fnExactFarOkRow.holds Try.pinned (OpenSpec.ofChange fnExactFarOkSpec)

/-- ITS FALSE NEIGHBOUR: 'it returns false'. Refute it at one input. -/
def fnExactFarOkWrong : ChangeSpec := { name := "fnExactFarOk", fn := fun _ => fun
  | [d] => { results := [.lit (.bool false)], args := [d] }
  | _ => none }
def FnExactFarOkWrongFalsely : Prop := fnExactFarOkRow.holds Try.pinned (OpenSpec.ofChange fnExactFarOkWrong)

/-- 'laws.FnFarOk': WHATEVER THE INPUT: true; the input reads as it did. -/
def fnFarOkSpec : ChangeSpec := { name := "fnFarOk", fn := fun _ => fun
  | [d] => { results := [.lit (.bool true)], args := [d] }
  | _ => none }
def fnFarOkRow : OpenClaim := { program := "ytklaeofcpfggnaa", sum := "8157e137908f248b2639af8dcae4942e0a459786d13ff449819c6e41077dc14a", func := "loop.example/fewpoints/laws.FnFarOk", spec := "fnFarOk", apart := false }
def FnFarOkSaid : Prop := fnFarOkRow.holds Try.pinned (OpenSpec.ofChange fnFarOkSpec)

/-- ITS FALSE NEIGHBOUR: 'it returns false'. Refute it at one input. -/
def fnFarOkWrong : ChangeSpec := { name := "fnFarOk", fn := fun _ => fun
  | [d] => { results := [.lit (.bool false)], args := [d] }
  | _ => none }
def FnFarOkWrongFalsely : Prop := fnFarOkRow.holds Try.pinned (OpenSpec.ofChange fnFarOkWrong)

/-- 'laws.FnExactSpaceOk': WHATEVER THE INPUT: true; the input reads as it did. -/
def fnExactSpaceOkSpec : ChangeSpec := { name := "fnExactSpaceOk", fn := fun _ => fun
  | [d] => { results := [.lit (.bool true)], args := [d] }
  | _ => none }
def fnExactSpaceOkRow : OpenClaim := { program := "ytklaeofcpfggnaa", sum := "8157e137908f248b2639af8dcae4942e0a459786d13ff449819c6e41077dc14a", func := "loop.example/fewpoints/laws.FnExactSpaceOk", spec := "fnExactSpaceOk", apart := false }
def FnExactSpaceOkSaid : Prop := fnExactSpaceOkRow.holds Try.pinned (OpenSpec.ofChange fnExactSpaceOkSpec)

/-- ITS FALSE NEIGHBOUR: 'it returns false'. Refute it at one input. -/
def fnExactSpaceOkWrong : ChangeSpec := { name := "fnExactSpaceOk", fn := fun _ => fun
  | [d] => { results := [.lit (.bool false)], args := [d] }
  | _ => none }
def FnExactSpaceOkWrongFalsely : Prop := fnExactSpaceOkRow.holds Try.pinned (OpenSpec.ofChange fnExactSpaceOkWrong)

/-- 'laws.FnExactFarthestFrom': WHATEVER THE INPUT: true; the input reads as it did. -/
def fnExactFarthestFromSpec : ChangeSpec := { name := "fnExactFarthestFrom", fn := fun _ => fun
  | [d1, d2] => { results := [.lit (.bool true)], args := [d1, d2] }
  | _ => none }
def fnExactFarthestFromRow : OpenClaim := { program := "ytklaeofcpfggnaa", sum := "8157e137908f248b2639af8dcae4942e0a459786d13ff449819c6e41077dc14a", func := "loop.example/fewpoints/laws.FnExactFarthestFrom", spec := "fnExactFarthestFrom", apart := false }
def FnExactFarthestFromSaid : Prop := fnExactFarthestFromRow.holds Try.pinned (OpenSpec.ofChange fnExactFarthestFromSpec)

/-- ITS FALSE NEIGHBOUR: 'it returns false'. Refute it at one input. -/
def fnExactFarthestFromWrong : ChangeSpec := { name := "fnExactFarthestFrom", fn := fun _ => fun
  | [d1, d2] => { results := [.lit (.bool false)], args := [d1, d2] }
  | _ => none }
def FnExactFarthestFromWrongFalsely : Prop := fnExactFarthestFromRow.holds Try.pinned (OpenSpec.ofChange fnExactFarthestFromWrong)

/-- 'laws.FnExactTogetherFrom': WHATEVER THE INPUT: true; the input reads as it did. -/
def fnExactTogetherFromSpec : ChangeSpec := { name := "fnExactTogetherFrom", fn := fun _ => fun
  | [d1, d2, d3, d4] => { results := [.lit (.bool true)], args := [d1, d2, d3, d4] }
  | _ => none }
def fnExactTogetherFromRow : OpenClaim := { program := "ytklaeofcpfggnaa", sum := "8157e137908f248b2639af8dcae4942e0a459786d13ff449819c6e41077dc14a", func := "loop.example/fewpoints/laws.FnExactTogetherFrom", spec := "fnExactTogetherFrom", unfollowed := true, recurses := true, apart := false }
def FnExactTogetherFromSaid : Prop := fnExactTogetherFromRow.holds Try.pinned (OpenSpec.ofChange fnExactTogetherFromSpec)

/-- ITS FALSE NEIGHBOUR: 'it returns false'. Refute it at one input. -/
def fnExactTogetherFromWrong : ChangeSpec := { name := "fnExactTogetherFrom", fn := fun _ => fun
  | [d1, d2, d3, d4] => { results := [.lit (.bool false)], args := [d1, d2, d3, d4] }
  | _ => none }
def FnExactTogetherFromWrongFalsely : Prop := fnExactTogetherFromRow.holds Try.pinned (OpenSpec.ofChange fnExactTogetherFromWrong)

/-- 'laws.FnExactUltraOk': WHATEVER THE INPUT: true; the input reads as it did. -/
def fnExactUltraOkSpec : ChangeSpec := { name := "fnExactUltraOk", fn := fun _ => fun
  | [d] => { results := [.lit (.bool true)], args := [d] }
  | _ => none }
def fnExactUltraOkRow : OpenClaim := { program := "ytklaeofcpfggnaa", sum := "8157e137908f248b2639af8dcae4942e0a459786d13ff449819c6e41077dc14a", func := "loop.example/fewpoints/laws.FnExactUltraOk", spec := "fnExactUltraOk", apart := false }
def FnExactUltraOkSaid : Prop := fnExactUltraOkRow.holds Try.pinned (OpenSpec.ofChange fnExactUltraOkSpec)

/-- ITS FALSE NEIGHBOUR: 'it returns false'. Refute it at one input. -/
def fnExactUltraOkWrong : ChangeSpec := { name := "fnExactUltraOk", fn := fun _ => fun
  | [d] => { results := [.lit (.bool false)], args := [d] }
  | _ => none }
def FnExactUltraOkWrongFalsely : Prop := fnExactUltraOkRow.holds Try.pinned (OpenSpec.ofChange fnExactUltraOkWrong)

/-- 'laws.FnSpaceOk': WHATEVER THE INPUT: true; the input reads as it did. -/
def fnSpaceOkSpec : ChangeSpec := { name := "fnSpaceOk", fn := fun _ => fun
  | [d] => { results := [.lit (.bool true)], args := [d] }
  | _ => none }
def fnSpaceOkRow : OpenClaim := { program := "ytklaeofcpfggnaa", sum := "8157e137908f248b2639af8dcae4942e0a459786d13ff449819c6e41077dc14a", func := "loop.example/fewpoints/laws.FnSpaceOk", spec := "fnSpaceOk", apart := false }
def FnSpaceOkSaid : Prop := fnSpaceOkRow.holds Try.pinned (OpenSpec.ofChange fnSpaceOkSpec)

/-- ITS FALSE NEIGHBOUR: 'it returns false'. Refute it at one input. -/
def fnSpaceOkWrong : ChangeSpec := { name := "fnSpaceOk", fn := fun _ => fun
  | [d] => { results := [.lit (.bool false)], args := [d] }
  | _ => none }
def FnSpaceOkWrongFalsely : Prop := fnSpaceOkRow.holds Try.pinned (OpenSpec.ofChange fnSpaceOkWrong)

/-- 'laws.FnExactPointFits': WHATEVER THE INPUT: true; the input reads as it did. -/
def fnExactPointFitsSpec : ChangeSpec := { name := "fnExactPointFits", fn := fun _ => fun
  | [d1, d2] => { results := [.lit (.bool true)], args := [d1, d2] }
  | _ => none }
def fnExactPointFitsRow : OpenClaim := { program := "ytklaeofcpfggnaa", sum := "8157e137908f248b2639af8dcae4942e0a459786d13ff449819c6e41077dc14a", func := "loop.example/fewpoints/laws.FnExactPointFits", spec := "fnExactPointFits", apart := false }
def FnExactPointFitsSaid : Prop := fnExactPointFitsRow.holds Try.pinned (OpenSpec.ofChange fnExactPointFitsSpec)

/-- ITS FALSE NEIGHBOUR: 'it returns false'. Refute it at one input. -/
def fnExactPointFitsWrong : ChangeSpec := { name := "fnExactPointFits", fn := fun _ => fun
  | [d1, d2] => { results := [.lit (.bool false)], args := [d1, d2] }
  | _ => none }
def FnExactPointFitsWrongFalsely : Prop := fnExactPointFitsRow.holds Try.pinned (OpenSpec.ofChange fnExactPointFitsWrong)

/-- 'laws.FnExactWidthOf': WHATEVER THE INPUT: true; the input reads as it did. -/
def fnExactWidthOfSpec : ChangeSpec := { name := "fnExactWidthOf", fn := fun _ => fun
  | [d] => { results := [.lit (.bool true)], args := [d] }
  | _ => none }
def fnExactWidthOfRow : OpenClaim := { program := "ytklaeofcpfggnaa", sum := "8157e137908f248b2639af8dcae4942e0a459786d13ff449819c6e41077dc14a", func := "loop.example/fewpoints/laws.FnExactWidthOf", spec := "fnExactWidthOf", apart := false }
def FnExactWidthOfSaid : Prop := fnExactWidthOfRow.holds Try.pinned (OpenSpec.ofChange fnExactWidthOfSpec)

/-- ITS FALSE NEIGHBOUR: 'it returns false'. Refute it at one input. -/
def fnExactWidthOfWrong : ChangeSpec := { name := "fnExactWidthOf", fn := fun _ => fun
  | [d] => { results := [.lit (.bool false)], args := [d] }
  | _ => none }
def FnExactWidthOfWrongFalsely : Prop := fnExactWidthOfRow.holds Try.pinned (OpenSpec.ofChange fnExactWidthOfWrong)

/-- 'laws.FnExactLegOf': WHATEVER THE INPUT: true; the input reads as it did. -/
def fnExactLegOfSpec : ChangeSpec := { name := "fnExactLegOf", fn := fun _ => fun
  | [d1, d2] => { results := [.lit (.bool true)], args := [d1, d2] }
  | _ => none }
def fnExactLegOfRow : OpenClaim := { program := "ytklaeofcpfggnaa", sum := "8157e137908f248b2639af8dcae4942e0a459786d13ff449819c6e41077dc14a", func := "loop.example/fewpoints/laws.FnExactLegOf", spec := "fnExactLegOf", apart := false }
def FnExactLegOfSaid : Prop := fnExactLegOfRow.holds Try.pinned (OpenSpec.ofChange fnExactLegOfSpec)

/-- ITS FALSE NEIGHBOUR: 'it returns false'. Refute it at one input. -/
def fnExactLegOfWrong : ChangeSpec := { name := "fnExactLegOf", fn := fun _ => fun
  | [d1, d2] => { results := [.lit (.bool false)], args := [d1, d2] }
  | _ => none }
def FnExactLegOfWrongFalsely : Prop := fnExactLegOfRow.holds Try.pinned (OpenSpec.ofChange fnExactLegOfWrong)

/-- 'laws.FnExactRadiusOf': WHATEVER THE INPUT: true; the input reads as it did. -/
def fnExactRadiusOfSpec : ChangeSpec := { name := "fnExactRadiusOf", fn := fun _ => fun
  | [d] => { results := [.lit (.bool true)], args := [d] }
  | _ => none }
def fnExactRadiusOfRow : OpenClaim := { program := "ytklaeofcpfggnaa", sum := "8157e137908f248b2639af8dcae4942e0a459786d13ff449819c6e41077dc14a", func := "loop.example/fewpoints/laws.FnExactRadiusOf", spec := "fnExactRadiusOf", apart := false }
def FnExactRadiusOfSaid : Prop := fnExactRadiusOfRow.holds Try.pinned (OpenSpec.ofChange fnExactRadiusOfSpec)

/-- ITS FALSE NEIGHBOUR: 'it returns false'. Refute it at one input. -/
def fnExactRadiusOfWrong : ChangeSpec := { name := "fnExactRadiusOf", fn := fun _ => fun
  | [d] => { results := [.lit (.bool false)], args := [d] }
  | _ => none }
def FnExactRadiusOfWrongFalsely : Prop := fnExactRadiusOfRow.holds Try.pinned (OpenSpec.ofChange fnExactRadiusOfWrong)

/- THE SECOND FORM. 'bulk': how many values and letters a reading holds, each counted each time it is reached (what is shared counts as often as it is met; a slice's spare places count too). A statement '..UptoSaid' is the law's where the arguments, and the package variables that the reading takes, are together of bulk at most 1048576: NARROWER than '..Said'. Prove '..Said' where nothing that the law and all that it calls make is longer than what came in: it says more and counts as full. Else prove '..UptoSaid'. A law counts once. -/
mutual
def uptoBulk {H : Type} : DataW H → Nat
  | .lit (.string bytes) => bytes.length + 1
  | .lit _ => 1
  | .nil => 1
  | .ptr d => uptoBulk d + 1
  | .slice elems spare => uptoBulkAll elems + uptoBulkAll spare + 1
  | .agg parts => uptoBulkAll parts + 1
  | .iface _ d => uptoBulk d + 1
  | .map entries => uptoBulkEntries entries + 1
  | .held _ => 1
def uptoBulkAll {H : Type} : List (DataW H) → Nat
  | [] => 0
  | d :: r => uptoBulk d + uptoBulkAll r
def uptoBulkEntries {H : Type} : List (Lit × DataW H) → Nat
  | [] => 0
  | x :: r => uptoBulkEntry x + uptoBulkEntries r
def uptoBulkEntry {H : Type} : Lit × DataW H → Nat
  | (.string bytes, d) => bytes.length + uptoBulk d + 1
  | (_, d) => uptoBulk d + 1
 end
def uptoSmall : (H : Type) → List (DataW H) → Bool := fun _ ds => decide (uptoBulkAll ds ≤ 1048576)
def OpenSpec.upto (s : _root_.Go.ChangeSpec) : _root_.Go.OpenSpec := { _root_.Go.OpenSpec.ofChange s with cond := some uptoSmall }

/-- 'laws.FnExactConstants', WHERE WHAT IT READS IS OF BULK AT MOST 1048576: true; the input reads as it did. -/
def fnExactConstantsUptoRow : OpenClaim := { program := "ytklaeofcpfggnaa", sum := "8157e137908f248b2639af8dcae4942e0a459786d13ff449819c6e41077dc14a", func := "loop.example/fewpoints/laws.FnExactConstants", spec := "fnExactConstants", apart := false, narrowed := true }
def FnExactConstantsUptoSaid : Prop := fnExactConstantsUptoRow.holds Try.pinned (OpenSpec.upto fnExactConstantsSpec)

/-- 'laws.FnExactFarOk', WHERE WHAT IT READS IS OF BULK AT MOST 1048576: true; the input reads as it did. -/
def fnExactFarOkUptoRow : OpenClaim := { program := "ytklaeofcpfggnaa", sum := "8157e137908f248b2639af8dcae4942e0a459786d13ff449819c6e41077dc14a", func := "loop.example/fewpoints/laws.FnExactFarOk", spec := "fnExactFarOk", apart := false, narrowed := true }
def FnExactFarOkUptoSaid : Prop := fnExactFarOkUptoRow.holds Try.pinned (OpenSpec.upto fnExactFarOkSpec)

/-- 'laws.FnFarOk', WHERE WHAT IT READS IS OF BULK AT MOST 1048576: true; the input reads as it did. -/
def fnFarOkUptoRow : OpenClaim := { program := "ytklaeofcpfggnaa", sum := "8157e137908f248b2639af8dcae4942e0a459786d13ff449819c6e41077dc14a", func := "loop.example/fewpoints/laws.FnFarOk", spec := "fnFarOk", apart := false, narrowed := true }
def FnFarOkUptoSaid : Prop := fnFarOkUptoRow.holds Try.pinned (OpenSpec.upto fnFarOkSpec)

/-- 'laws.FnExactSpaceOk', WHERE WHAT IT READS IS OF BULK AT MOST 1048576: true; the input reads as it did. -/
def fnExactSpaceOkUptoRow : OpenClaim := { program := "ytklaeofcpfggnaa", sum := "8157e137908f248b2639af8dcae4942e0a459786d13ff449819c6e41077dc14a", func := "loop.example/fewpoints/laws.FnExactSpaceOk", spec := "fnExactSpaceOk", apart := false, narrowed := true }
def FnExactSpaceOkUptoSaid : Prop := fnExactSpaceOkUptoRow.holds Try.pinned (OpenSpec.upto fnExactSpaceOkSpec)

/-- 'laws.FnExactFarthestFrom', WHERE WHAT IT READS IS OF BULK AT MOST 1048576: true; the input reads as it did. -/
def fnExactFarthestFromUptoRow : OpenClaim := { program := "ytklaeofcpfggnaa", sum := "8157e137908f248b2639af8dcae4942e0a459786d13ff449819c6e41077dc14a", func := "loop.example/fewpoints/laws.FnExactFarthestFrom", spec := "fnExactFarthestFrom", apart := false, narrowed := true }
def FnExactFarthestFromUptoSaid : Prop := fnExactFarthestFromUptoRow.holds Try.pinned (OpenSpec.upto fnExactFarthestFromSpec)

/-- 'laws.FnExactTogetherFrom', WHERE WHAT IT READS IS OF BULK AT MOST 1048576: true; the input reads as it did. -/
def fnExactTogetherFromUptoRow : OpenClaim := { program := "ytklaeofcpfggnaa", sum := "8157e137908f248b2639af8dcae4942e0a459786d13ff449819c6e41077dc14a", func := "loop.example/fewpoints/laws.FnExactTogetherFrom", spec := "fnExactTogetherFrom", unfollowed := true, recurses := true, apart := false, narrowed := true }
def FnExactTogetherFromUptoSaid : Prop := fnExactTogetherFromUptoRow.holds Try.pinned (OpenSpec.upto fnExactTogetherFromSpec)

/-- 'laws.FnExactUltraOk', WHERE WHAT IT READS IS OF BULK AT MOST 1048576: true; the input reads as it did. -/
def fnExactUltraOkUptoRow : OpenClaim := { program := "ytklaeofcpfggnaa", sum := "8157e137908f248b2639af8dcae4942e0a459786d13ff449819c6e41077dc14a", func := "loop.example/fewpoints/laws.FnExactUltraOk", spec := "fnExactUltraOk", apart := false, narrowed := true }
def FnExactUltraOkUptoSaid : Prop := fnExactUltraOkUptoRow.holds Try.pinned (OpenSpec.upto fnExactUltraOkSpec)

/-- 'laws.FnSpaceOk', WHERE WHAT IT READS IS OF BULK AT MOST 1048576: true; the input reads as it did. -/
def fnSpaceOkUptoRow : OpenClaim := { program := "ytklaeofcpfggnaa", sum := "8157e137908f248b2639af8dcae4942e0a459786d13ff449819c6e41077dc14a", func := "loop.example/fewpoints/laws.FnSpaceOk", spec := "fnSpaceOk", apart := false, narrowed := true }
def FnSpaceOkUptoSaid : Prop := fnSpaceOkUptoRow.holds Try.pinned (OpenSpec.upto fnSpaceOkSpec)

/-- 'laws.FnExactPointFits', WHERE WHAT IT READS IS OF BULK AT MOST 1048576: true; the input reads as it did. -/
def fnExactPointFitsUptoRow : OpenClaim := { program := "ytklaeofcpfggnaa", sum := "8157e137908f248b2639af8dcae4942e0a459786d13ff449819c6e41077dc14a", func := "loop.example/fewpoints/laws.FnExactPointFits", spec := "fnExactPointFits", apart := false, narrowed := true }
def FnExactPointFitsUptoSaid : Prop := fnExactPointFitsUptoRow.holds Try.pinned (OpenSpec.upto fnExactPointFitsSpec)

/-- 'laws.FnExactWidthOf', WHERE WHAT IT READS IS OF BULK AT MOST 1048576: true; the input reads as it did. -/
def fnExactWidthOfUptoRow : OpenClaim := { program := "ytklaeofcpfggnaa", sum := "8157e137908f248b2639af8dcae4942e0a459786d13ff449819c6e41077dc14a", func := "loop.example/fewpoints/laws.FnExactWidthOf", spec := "fnExactWidthOf", apart := false, narrowed := true }
def FnExactWidthOfUptoSaid : Prop := fnExactWidthOfUptoRow.holds Try.pinned (OpenSpec.upto fnExactWidthOfSpec)

/-- 'laws.FnExactLegOf', WHERE WHAT IT READS IS OF BULK AT MOST 1048576: true; the input reads as it did. -/
def fnExactLegOfUptoRow : OpenClaim := { program := "ytklaeofcpfggnaa", sum := "8157e137908f248b2639af8dcae4942e0a459786d13ff449819c6e41077dc14a", func := "loop.example/fewpoints/laws.FnExactLegOf", spec := "fnExactLegOf", apart := false, narrowed := true }
def FnExactLegOfUptoSaid : Prop := fnExactLegOfUptoRow.holds Try.pinned (OpenSpec.upto fnExactLegOfSpec)

/-- 'laws.FnExactRadiusOf', WHERE WHAT IT READS IS OF BULK AT MOST 1048576: true; the input reads as it did. -/
def fnExactRadiusOfUptoRow : OpenClaim := { program := "ytklaeofcpfggnaa", sum := "8157e137908f248b2639af8dcae4942e0a459786d13ff449819c6e41077dc14a", func := "loop.example/fewpoints/laws.FnExactRadiusOf", spec := "fnExactRadiusOf", apart := false, narrowed := true }
def FnExactRadiusOfUptoSaid : Prop := fnExactRadiusOfUptoRow.holds Try.pinned (OpenSpec.upto fnExactRadiusOfSpec)

end Rows
end Go.Proofs.Ytklaeofcpfggnaa

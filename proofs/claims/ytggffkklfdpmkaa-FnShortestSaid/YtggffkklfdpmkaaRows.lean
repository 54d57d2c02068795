/-
  No cell of these rows narrows 'for every input' (looked for: loops, veiled, ifaces, maps, wideKeys, modest, calm, conditions, laid).
  DERIVED. THE GIVEN ROWS OF THIS SEAT. 12 by the template 'for every input the law returns true; each argument reads behind the call as it read before'; 0 by the template 'total and deterministic' (their statements: YtggffkklfdpmkaaTotals.lean).
  GIVEN WITH THE SEED: the statements are not yours to turn. If you find one false, say at which input.
  Laid BY PROGRAM, IN A SANDBOX (cutbox-rows.mjs): the forced cells as the released guide's own fill.sh prints them over the translation 6ac7416ed6783e7f… (all of the seat's roots in one cut). By AI agents, Wed Nov 11 2026. No macro, syntax, notation, axiom, sorry.
-/
import Derived.Test.YtggffkklfdpmkaaChecked
import GoSem.Claim
import GoSem.ClaimJoined
import GoSem.ClaimMapViews
import Derived.JoinedTies
import Derived.KernelRfl
namespace Go.Proofs.Ytggffkklfdpmkaa
/- THE CELL 'sum', in the pinned program and in every row, IS THE sha256 OF THE DUMP (.gsa) THAT YtggffkklfdpmkaaProg.lean LOADS. Nothing in Lean hashes anything: it is a label: what it is worth is what the hold of that sum in a sandbox is worth. -/
noncomputable def Try.pinned : Pinned := { name := "ytggffkklfdpmkaa", sum := "6ac7416ed6783e7f91b5fd025cce55e5cdb13cc9aaed49fc5a13cc6c8cadc1f9", checked := Try.checked }
namespace Rows
def none {H : Type} : Left H := { results := [], args := [] }

/-- 'laws.FnExactArcCount': WHATEVER THE INPUT: true; the input reads as it did. -/
def fnExactArcCountSpec : ChangeSpec := { name := "fnExactArcCount", fn := fun _ => fun
  | [d1, d2] => { results := [.lit (.bool true)], args := [d1, d2] }
  | _ => none }
def fnExactArcCountRow : OpenClaim := { program := "ytggffkklfdpmkaa", sum := "6ac7416ed6783e7f91b5fd025cce55e5cdb13cc9aaed49fc5a13cc6c8cadc1f9", func := "loop.example/g00927/laws.FnExactArcCount", spec := "fnExactArcCount", apart := false }
def FnExactArcCountSaid : Prop := fnExactArcCountRow.holds Try.pinned (OpenSpec.ofChange fnExactArcCountSpec)

/-- ITS FALSE NEIGHBOUR: 'it returns false'. Refute it at one input. -/
def fnExactArcCountWrong : ChangeSpec := { name := "fnExactArcCount", fn := fun _ => fun
  | [d1, d2] => { results := [.lit (.bool false)], args := [d1, d2] }
  | _ => none }
def FnExactArcCountWrongFalsely : Prop := fnExactArcCountRow.holds Try.pinned (OpenSpec.ofChange fnExactArcCountWrong)

/-- 'laws.FnGraphs': WHATEVER THE INPUT: true; the input reads as it did. -/
def fnGraphsSpec : ChangeSpec := { name := "fnGraphs", fn := fun _ => fun
  | [d1, d2] => { results := [.lit (.bool true)], args := [d1, d2] }
  | _ => none }
def fnGraphsRow : OpenClaim := { program := "ytggffkklfdpmkaa", sum := "6ac7416ed6783e7f91b5fd025cce55e5cdb13cc9aaed49fc5a13cc6c8cadc1f9", func := "loop.example/g00927/laws.FnGraphs", spec := "fnGraphs", apart := false }
def FnGraphsSaid : Prop := fnGraphsRow.holds Try.pinned (OpenSpec.ofChange fnGraphsSpec)

/-- ITS FALSE NEIGHBOUR: 'it returns false'. Refute it at one input. -/
def fnGraphsWrong : ChangeSpec := { name := "fnGraphs", fn := fun _ => fun
  | [d1, d2] => { results := [.lit (.bool false)], args := [d1, d2] }
  | _ => none }
def FnGraphsWrongFalsely : Prop := fnGraphsRow.holds Try.pinned (OpenSpec.ofChange fnGraphsWrong)

/-- 'laws.FnExactDistance': WHATEVER THE INPUT: true; the input reads as it did. -/
def fnExactDistanceSpec : ChangeSpec := { name := "fnExactDistance", fn := fun _ => fun
  | [d1, d2] => { results := [.lit (.bool true)], args := [d1, d2] }
  | _ => none }
def fnExactDistanceRow : OpenClaim := { program := "ytggffkklfdpmkaa", sum := "6ac7416ed6783e7f91b5fd025cce55e5cdb13cc9aaed49fc5a13cc6c8cadc1f9", func := "loop.example/g00927/laws.FnExactDistance", spec := "fnExactDistance", apart := false }
def FnExactDistanceSaid : Prop := fnExactDistanceRow.holds Try.pinned (OpenSpec.ofChange fnExactDistanceSpec)

/-- ITS FALSE NEIGHBOUR: 'it returns false'. Refute it at one input. -/
def fnExactDistanceWrong : ChangeSpec := { name := "fnExactDistance", fn := fun _ => fun
  | [d1, d2] => { results := [.lit (.bool false)], args := [d1, d2] }
  | _ => none }
def FnExactDistanceWrongFalsely : Prop := fnExactDistanceRow.holds Try.pinned (OpenSpec.ofChange fnExactDistanceWrong)

/-- 'laws.FnExactDiameter': WHATEVER THE INPUT: true; the input reads as it did. -/
def fnExactDiameterSpec : ChangeSpec := { name := "fnExactDiameter", fn := fun _ => fun
  | [d1, d2] => { results := [.lit (.bool true)], args := [d1, d2] }
  | _ => none }
def fnExactDiameterRow : OpenClaim := { program := "ytggffkklfdpmkaa", sum := "6ac7416ed6783e7f91b5fd025cce55e5cdb13cc9aaed49fc5a13cc6c8cadc1f9", func := "loop.example/g00927/laws.FnExactDiameter", spec := "fnExactDiameter", apart := false }
def FnExactDiameterSaid : Prop := fnExactDiameterRow.holds Try.pinned (OpenSpec.ofChange fnExactDiameterSpec)

/-- ITS FALSE NEIGHBOUR: 'it returns false'. Refute it at one input. -/
def fnExactDiameterWrong : ChangeSpec := { name := "fnExactDiameter", fn := fun _ => fun
  | [d1, d2] => { results := [.lit (.bool false)], args := [d1, d2] }
  | _ => none }
def FnExactDiameterWrongFalsely : Prop := fnExactDiameterRow.holds Try.pinned (OpenSpec.ofChange fnExactDiameterWrong)

/-- 'laws.FnExactArcsOf': WHATEVER THE INPUT: true; the input reads as it did. -/
def fnExactArcsOfSpec : ChangeSpec := { name := "fnExactArcsOf", fn := fun _ => fun
  | [d1, d2] => { results := [.lit (.bool true)], args := [d1, d2] }
  | _ => none }
def fnExactArcsOfRow : OpenClaim := { program := "ytggffkklfdpmkaa", sum := "6ac7416ed6783e7f91b5fd025cce55e5cdb13cc9aaed49fc5a13cc6c8cadc1f9", func := "loop.example/g00927/laws.FnExactArcsOf", spec := "fnExactArcsOf", apart := false }
def FnExactArcsOfSaid : Prop := fnExactArcsOfRow.holds Try.pinned (OpenSpec.ofChange fnExactArcsOfSpec)

/-- ITS FALSE NEIGHBOUR: 'it returns false'. Refute it at one input. -/
def fnExactArcsOfWrong : ChangeSpec := { name := "fnExactArcsOf", fn := fun _ => fun
  | [d1, d2] => { results := [.lit (.bool false)], args := [d1, d2] }
  | _ => none }
def FnExactArcsOfWrongFalsely : Prop := fnExactArcsOfRow.holds Try.pinned (OpenSpec.ofChange fnExactArcsOfWrong)

/-- 'laws.FnExactDistancesFrom': WHATEVER THE INPUT: true; the input reads as it did. -/
def fnExactDistancesFromSpec : ChangeSpec := { name := "fnExactDistancesFrom", fn := fun _ => fun
  | [d] => { results := [.lit (.bool true)], args := [d] }
  | _ => none }
def fnExactDistancesFromRow : OpenClaim := { program := "ytggffkklfdpmkaa", sum := "6ac7416ed6783e7f91b5fd025cce55e5cdb13cc9aaed49fc5a13cc6c8cadc1f9", func := "loop.example/g00927/laws.FnExactDistancesFrom", spec := "fnExactDistancesFrom", apart := false }
def FnExactDistancesFromSaid : Prop := fnExactDistancesFromRow.holds Try.pinned (OpenSpec.ofChange fnExactDistancesFromSpec)

/-- ITS FALSE NEIGHBOUR: 'it returns false'. Refute it at one input. -/
def fnExactDistancesFromWrong : ChangeSpec := { name := "fnExactDistancesFrom", fn := fun _ => fun
  | [d] => { results := [.lit (.bool false)], args := [d] }
  | _ => none }
def FnExactDistancesFromWrongFalsely : Prop := fnExactDistancesFromRow.holds Try.pinned (OpenSpec.ofChange fnExactDistancesFromWrong)

/-- 'laws.FnExactArcsInto': WHATEVER THE INPUT: true; the input reads as it did. -/
def fnExactArcsIntoSpec : ChangeSpec := { name := "fnExactArcsInto", fn := fun _ => fun
  | [d] => { results := [.lit (.bool true)], args := [d] }
  | _ => none }
def fnExactArcsIntoRow : OpenClaim := { program := "ytggffkklfdpmkaa", sum := "6ac7416ed6783e7f91b5fd025cce55e5cdb13cc9aaed49fc5a13cc6c8cadc1f9", func := "loop.example/g00927/laws.FnExactArcsInto", spec := "fnExactArcsInto", apart := false }
def FnExactArcsIntoSaid : Prop := fnExactArcsIntoRow.holds Try.pinned (OpenSpec.ofChange fnExactArcsIntoSpec)

/-- ITS FALSE NEIGHBOUR: 'it returns false'. Refute it at one input. -/
def fnExactArcsIntoWrong : ChangeSpec := { name := "fnExactArcsInto", fn := fun _ => fun
  | [d] => { results := [.lit (.bool false)], args := [d] }
  | _ => none }
def FnExactArcsIntoWrongFalsely : Prop := fnExactArcsIntoRow.holds Try.pinned (OpenSpec.ofChange fnExactArcsIntoWrong)

/-- 'laws.FnExactCountShortest': WHATEVER THE INPUT: true; the input reads as it did. -/
def fnExactCountShortestSpec : ChangeSpec := { name := "fnExactCountShortest", fn := fun _ => fun
  | [d1, d2] => { results := [.lit (.bool true)], args := [d1, d2] }
  | _ => none }
def fnExactCountShortestRow : OpenClaim := { program := "ytggffkklfdpmkaa", sum := "6ac7416ed6783e7f91b5fd025cce55e5cdb13cc9aaed49fc5a13cc6c8cadc1f9", func := "loop.example/g00927/laws.FnExactCountShortest", spec := "fnExactCountShortest", apart := false }
def FnExactCountShortestSaid : Prop := fnExactCountShortestRow.holds Try.pinned (OpenSpec.ofChange fnExactCountShortestSpec)

/-- ITS FALSE NEIGHBOUR: 'it returns false'. Refute it at one input. -/
def fnExactCountShortestWrong : ChangeSpec := { name := "fnExactCountShortest", fn := fun _ => fun
  | [d1, d2] => { results := [.lit (.bool false)], args := [d1, d2] }
  | _ => none }
def FnExactCountShortestWrongFalsely : Prop := fnExactCountShortestRow.holds Try.pinned (OpenSpec.ofChange fnExactCountShortestWrong)

/-- 'laws.FnFar': WHATEVER THE INPUT: true; the input reads as it did. -/
def fnFarSpec : ChangeSpec := { name := "fnFar", fn := fun _ => fun
  | [d] => { results := [.lit (.bool true)], args := [d] }
  | _ => none }
def fnFarRow : OpenClaim := { program := "ytggffkklfdpmkaa", sum := "6ac7416ed6783e7f91b5fd025cce55e5cdb13cc9aaed49fc5a13cc6c8cadc1f9", func := "loop.example/g00927/laws.FnFar", spec := "fnFar", apart := false }
def FnFarSaid : Prop := fnFarRow.holds Try.pinned (OpenSpec.ofChange fnFarSpec)

/-- ITS FALSE NEIGHBOUR: 'it returns false'. Refute it at one input. -/
def fnFarWrong : ChangeSpec := { name := "fnFar", fn := fun _ => fun
  | [d] => { results := [.lit (.bool false)], args := [d] }
  | _ => none }
def FnFarWrongFalsely : Prop := fnFarRow.holds Try.pinned (OpenSpec.ofChange fnFarWrong)

/-- 'laws.FnExactShortestThrows': WHATEVER THE INPUT: true; the input reads as it did. -/
def fnExactShortestThrowsSpec : ChangeSpec := { name := "fnExactShortestThrows", fn := fun _ => fun
  | [d1, d2] => { results := [.lit (.bool true)], args := [d1, d2] }
  | _ => none }
def fnExactShortestThrowsRow : OpenClaim := { program := "ytggffkklfdpmkaa", sum := "6ac7416ed6783e7f91b5fd025cce55e5cdb13cc9aaed49fc5a13cc6c8cadc1f9", func := "loop.example/g00927/laws.FnExactShortestThrows", spec := "fnExactShortestThrows", apart := false }
def FnExactShortestThrowsSaid : Prop := fnExactShortestThrowsRow.holds Try.pinned (OpenSpec.ofChange fnExactShortestThrowsSpec)

/-- ITS FALSE NEIGHBOUR: 'it returns false'. Refute it at one input. -/
def fnExactShortestThrowsWrong : ChangeSpec := { name := "fnExactShortestThrows", fn := fun _ => fun
  | [d1, d2] => { results := [.lit (.bool false)], args := [d1, d2] }
  | _ => none }
def FnExactShortestThrowsWrongFalsely : Prop := fnExactShortestThrowsRow.holds Try.pinned (OpenSpec.ofChange fnExactShortestThrowsWrong)

/-- 'laws.FnShortest': WHATEVER THE INPUT: true; the input reads as it did. -/
def fnShortestSpec : ChangeSpec := { name := "fnShortest", fn := fun _ => fun
  | [d] => { results := [.lit (.bool true)], args := [d] }
  | _ => none }
def fnShortestRow : OpenClaim := { program := "ytggffkklfdpmkaa", sum := "6ac7416ed6783e7f91b5fd025cce55e5cdb13cc9aaed49fc5a13cc6c8cadc1f9", func := "loop.example/g00927/laws.FnShortest", spec := "fnShortest", apart := false }
def FnShortestSaid : Prop := fnShortestRow.holds Try.pinned (OpenSpec.ofChange fnShortestSpec)

/-- ITS FALSE NEIGHBOUR: 'it returns false'. Refute it at one input. -/
def fnShortestWrong : ChangeSpec := { name := "fnShortest", fn := fun _ => fun
  | [d] => { results := [.lit (.bool false)], args := [d] }
  | _ => none }
def FnShortestWrongFalsely : Prop := fnShortestRow.holds Try.pinned (OpenSpec.ofChange fnShortestWrong)

/-- 'laws.FnExactLinesOf': WHATEVER THE INPUT: true; the input reads as it did. -/
def fnExactLinesOfSpec : ChangeSpec := { name := "fnExactLinesOf", fn := fun _ => fun
  | [d1, d2] => { results := [.lit (.bool true)], args := [d1, d2] }
  | _ => none }
def fnExactLinesOfRow : OpenClaim := { program := "ytggffkklfdpmkaa", sum := "6ac7416ed6783e7f91b5fd025cce55e5cdb13cc9aaed49fc5a13cc6c8cadc1f9", func := "loop.example/g00927/laws.FnExactLinesOf", spec := "fnExactLinesOf", apart := false }
def FnExactLinesOfSaid : Prop := fnExactLinesOfRow.holds Try.pinned (OpenSpec.ofChange fnExactLinesOfSpec)

/-- ITS FALSE NEIGHBOUR: 'it returns false'. Refute it at one input. -/
def fnExactLinesOfWrong : ChangeSpec := { name := "fnExactLinesOf", fn := fun _ => fun
  | [d1, d2] => { results := [.lit (.bool false)], args := [d1, d2] }
  | _ => none }
def FnExactLinesOfWrongFalsely : Prop := fnExactLinesOfRow.holds Try.pinned (OpenSpec.ofChange fnExactLinesOfWrong)

/- THE SECOND FORM. 'bulk': how many values and letters a reading holds, each counted each time it is reached (what is shared counts as often as it is met; a slice's spare places count too). A statement '..UptoSaid' is the law's where the arguments, and the package variables that the reading takes, are together of bulk at most 1048576: NARROWER than '..Said'. Prove '..Said' where nothing that the law and all that it calls make is longer than what came in: it says more and counts as full. Else prove '..UptoSaid'. A law counts once. -/
mutual
def uptoBulk {H : Type} : DataW H → Nat
  | .lit (.string bytes) => bytes.length + 1
  | .lit _ => 1
  | .nil => 1
  | .ptr d => uptoBulk d + 1
  | .slice elems spare => uptoBulkAll elems + uptoBulkAll spare + 1
  | .agg parts => uptoBulkAll parts + 1
  | .iface _ d => uptoBulk d + 1
  | .map entries => uptoBulkEntries entries + 1
  | .held _ => 1
def uptoBulkAll {H : Type} : List (DataW H) → Nat
  | [] => 0
  | d :: r => uptoBulk d + uptoBulkAll r
def uptoBulkEntries {H : Type} : List (Lit × DataW H) → Nat
  | [] => 0
  | x :: r => uptoBulkEntry x + uptoBulkEntries r
def uptoBulkEntry {H : Type} : Lit × DataW H → Nat
  | (.string bytes, d) => bytes.length + uptoBulk d + 1
  | (_, d) => uptoBulk d + 1
 end
def uptoSmall : (H : Type) → List (DataW H) → Bool := fun _ ds => decide (uptoBulkAll ds ≤ 1048576)
def OpenSpec.upto (s : _root_.Go.ChangeSpec) : _root_.Go.OpenSpec := { _root_.Go.OpenSpec.ofChange s with cond := some uptoSmall }

/-- 'laws.FnExactArcCount', WHERE WHAT IT READS IS OF BULK AT MOST 1048576: true; the input reads as it did. -/
def fnExactArcCountUptoRow : OpenClaim := { program := "ytggffkklfdpmkaa", sum := "6ac7416ed6783e7f91b5fd025cce55e5cdb13cc9aaed49fc5a13cc6c8cadc1f9", func := "loop.example/g00927/laws.FnExactArcCount", spec := "fnExactArcCount", apart := false, narrowed := true }
def FnExactArcCountUptoSaid : Prop := fnExactArcCountUptoRow.holds Try.pinned (OpenSpec.upto fnExactArcCountSpec)

/-- 'laws.FnGraphs', WHERE WHAT IT READS IS OF BULK AT MOST 1048576: true; the input reads as it did. -/
def fnGraphsUptoRow : OpenClaim := { program := "ytggffkklfdpmkaa", sum := "6ac7416ed6783e7f91b5fd025cce55e5cdb13cc9aaed49fc5a13cc6c8cadc1f9", func := "loop.example/g00927/laws.FnGraphs", spec := "fnGraphs", apart := false, narrowed := true }
def FnGraphsUptoSaid : Prop := fnGraphsUptoRow.holds Try.pinned (OpenSpec.upto fnGraphsSpec)

/-- 'laws.FnExactDistance', WHERE WHAT IT READS IS OF BULK AT MOST 1048576: true; the input reads as it did. -/
def fnExactDistanceUptoRow : OpenClaim := { program := "ytggffkklfdpmkaa", sum := "6ac7416ed6783e7f91b5fd025cce55e5cdb13cc9aaed49fc5a13cc6c8cadc1f9", func := "loop.example/g00927/laws.FnExactDistance", spec := "fnExactDistance", apart := false, narrowed := true }
def FnExactDistanceUptoSaid : Prop := fnExactDistanceUptoRow.holds Try.pinned (OpenSpec.upto fnExactDistanceSpec)

/-- 'laws.FnExactDiameter', WHERE WHAT IT READS IS OF BULK AT MOST 1048576: true; the input reads as it did. -/
def fnExactDiameterUptoRow : OpenClaim := { program := "ytggffkklfdpmkaa", sum := "6ac7416ed6783e7f91b5fd025cce55e5cdb13cc9aaed49fc5a13cc6c8cadc1f9", func := "loop.example/g00927/laws.FnExactDiameter", spec := "fnExactDiameter", apart := false, narrowed := true }
def FnExactDiameterUptoSaid : Prop := fnExactDiameterUptoRow.holds Try.pinned (OpenSpec.upto fnExactDiameterSpec)

/-- 'laws.FnExactArcsOf', WHERE WHAT IT READS IS OF BULK AT MOST 1048576: true; the input reads as it did. -/
def fnExactArcsOfUptoRow : OpenClaim := { program := "ytggffkklfdpmkaa", sum := "6ac7416ed6783e7f91b5fd025cce55e5cdb13cc9aaed49fc5a13cc6c8cadc1f9", func := "loop.example/g00927/laws.FnExactArcsOf", spec := "fnExactArcsOf", apart := false, narrowed := true }
def FnExactArcsOfUptoSaid : Prop := fnExactArcsOfUptoRow.holds Try.pinned (OpenSpec.upto fnExactArcsOfSpec)

/-- 'laws.FnExactDistancesFrom', WHERE WHAT IT READS IS OF BULK AT MOST 1048576: true; the input reads as it did. -/
def fnExactDistancesFromUptoRow : OpenClaim := { program := "ytggffkklfdpmkaa", sum := "6ac7416ed6783e7f91b5fd025cce55e5cdb13cc9aaed49fc5a13cc6c8cadc1f9", func := "loop.example/g00927/laws.FnExactDistancesFrom", spec := "fnExactDistancesFrom", apart := false, narrowed := true }
def FnExactDistancesFromUptoSaid : Prop := fnExactDistancesFromUptoRow.holds Try.pinned (OpenSpec.upto fnExactDistancesFromSpec)

/-- 'laws.FnExactArcsInto', WHERE WHAT IT READS IS OF BULK AT MOST 1048576: true; the input reads as it did. -/
def fnExactArcsIntoUptoRow : OpenClaim := { program := "ytggffkklfdpmkaa", sum := "6ac7416ed6783e7f91b5fd025cce55e5cdb13cc9aaed49fc5a13cc6c8cadc1f9", func := "loop.example/g00927/laws.FnExactArcsInto", spec := "fnExactArcsInto", apart := false, narrowed := true }
def FnExactArcsIntoUptoSaid : Prop := fnExactArcsIntoUptoRow.holds Try.pinned (OpenSpec.upto fnExactArcsIntoSpec)

/-- 'laws.FnExactCountShortest', WHERE WHAT IT READS IS OF BULK AT MOST 1048576: true; the input reads as it did. -/
def fnExactCountShortestUptoRow : OpenClaim := { program := "ytggffkklfdpmkaa", sum := "6ac7416ed6783e7f91b5fd025cce55e5cdb13cc9aaed49fc5a13cc6c8cadc1f9", func := "loop.example/g00927/laws.FnExactCountShortest", spec := "fnExactCountShortest", apart := false, narrowed := true }
def FnExactCountShortestUptoSaid : Prop := fnExactCountShortestUptoRow.holds Try.pinned (OpenSpec.upto fnExactCountShortestSpec)

/-- 'laws.FnFar', WHERE WHAT IT READS IS OF BULK AT MOST 1048576: true; the input reads as it did. -/
def fnFarUptoRow : OpenClaim := { program := "ytggffkklfdpmkaa", sum := "6ac7416ed6783e7f91b5fd025cce55e5cdb13cc9aaed49fc5a13cc6c8cadc1f9", func := "loop.example/g00927/laws.FnFar", spec := "fnFar", apart := false, narrowed := true }
def FnFarUptoSaid : Prop := fnFarUptoRow.holds Try.pinned (OpenSpec.upto fnFarSpec)

/-- 'laws.FnExactShortestThrows', WHERE WHAT IT READS IS OF BULK AT MOST 1048576: true; the input reads as it did. -/
def fnExactShortestThrowsUptoRow : OpenClaim := { program := "ytggffkklfdpmkaa", sum := "6ac7416ed6783e7f91b5fd025cce55e5cdb13cc9aaed49fc5a13cc6c8cadc1f9", func := "loop.example/g00927/laws.FnExactShortestThrows", spec := "fnExactShortestThrows", apart := false, narrowed := true }
def FnExactShortestThrowsUptoSaid : Prop := fnExactShortestThrowsUptoRow.holds Try.pinned (OpenSpec.upto fnExactShortestThrowsSpec)

/-- 'laws.FnShortest', WHERE WHAT IT READS IS OF BULK AT MOST 1048576: true; the input reads as it did. -/
def fnShortestUptoRow : OpenClaim := { program := "ytggffkklfdpmkaa", sum := "6ac7416ed6783e7f91b5fd025cce55e5cdb13cc9aaed49fc5a13cc6c8cadc1f9", func := "loop.example/g00927/laws.FnShortest", spec := "fnShortest", apart := false, narrowed := true }
def FnShortestUptoSaid : Prop := fnShortestUptoRow.holds Try.pinned (OpenSpec.upto fnShortestSpec)

/-- 'laws.FnExactLinesOf', WHERE WHAT IT READS IS OF BULK AT MOST 1048576: true; the input reads as it did. -/
def fnExactLinesOfUptoRow : OpenClaim := { program := "ytggffkklfdpmkaa", sum := "6ac7416ed6783e7f91b5fd025cce55e5cdb13cc9aaed49fc5a13cc6c8cadc1f9", func := "loop.example/g00927/laws.FnExactLinesOf", spec := "fnExactLinesOf", apart := false, narrowed := true }
def FnExactLinesOfUptoSaid : Prop := fnExactLinesOfUptoRow.holds Try.pinned (OpenSpec.upto fnExactLinesOfSpec)

end Rows
end Go.Proofs.Ytggffkklfdpmkaa

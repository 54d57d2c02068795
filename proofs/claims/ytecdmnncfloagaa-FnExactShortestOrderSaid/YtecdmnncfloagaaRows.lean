/-
  No cell of these rows narrows 'for every input' (looked for: loops, veiled, ifaces, maps, wideKeys, modest, calm, conditions, laid).
  DERIVED. THE GIVEN ROWS OF THIS SEAT. 12 by the template 'for every input the law returns true; each argument reads behind the call as it read before'; 0 by the template 'total and deterministic' (their statements: YtecdmnncfloagaaTotals.lean).
  GIVEN WITH THE SEED: the statements are not yours to turn. If you find one false, say at which input.
  Laid BY PROGRAM, IN A SANDBOX (cutbox-rows.mjs): the forced cells as the released guide's own fill.sh prints them over the translation 069f93c8ab6b6fff… (all of the seat's roots in one cut). By AI agents, Wed Nov 11 2026. No macro, syntax, notation, axiom, sorry.
-/
import Derived.Test.YtecdmnncfloagaaChecked
import GoSem.Claim
import GoSem.ClaimJoined
import GoSem.ClaimMapViews
import Derived.JoinedTies
import Derived.KernelRfl
namespace Go.Proofs.Ytecdmnncfloagaa
/- THE CELL 'sum', in the pinned program and in every row, IS THE sha256 OF THE DUMP (.gsa) THAT YtecdmnncfloagaaProg.lean LOADS. Nothing in Lean hashes anything: it is a label: what it is worth is what the hold of that sum in a sandbox is worth. -/
noncomputable def Try.pinned : Pinned := { name := "ytecdmnncfloagaa", sum := "069f93c8ab6b6fff5f7e4e728e36a48b07b0104308449075dcd9fca7a0db8c35", checked := Try.checked }
namespace Rows
def none {H : Type} : Left H := { results := [], args := [] }

/-- 'laws.FnExactSameFrame': WHATEVER THE INPUT: true; the input reads as it did. -/
def fnExactSameFrameSpec : ChangeSpec := { name := "fnExactSameFrame", fn := fun _ => fun
  | [d1, d2] => { results := [.lit (.bool true)], args := [d1, d2] }
  | _ => none }
def fnExactSameFrameRow : OpenClaim := { program := "ytecdmnncfloagaa", sum := "069f93c8ab6b6fff5f7e4e728e36a48b07b0104308449075dcd9fca7a0db8c35", func := "loop.example/g00927/laws.FnExactSameFrame", spec := "fnExactSameFrame", apart := false }
def FnExactSameFrameSaid : Prop := fnExactSameFrameRow.holds Try.pinned (OpenSpec.ofChange fnExactSameFrameSpec)

/-- ITS FALSE NEIGHBOUR: 'it returns false'. Refute it at one input. -/
def fnExactSameFrameWrong : ChangeSpec := { name := "fnExactSameFrame", fn := fun _ => fun
  | [d1, d2] => { results := [.lit (.bool false)], args := [d1, d2] }
  | _ => none }
def FnExactSameFrameWrongFalsely : Prop := fnExactSameFrameRow.holds Try.pinned (OpenSpec.ofChange fnExactSameFrameWrong)

/-- 'laws.FnBestBridges': WHATEVER THE INPUT: true; the input reads as it did. -/
def fnBestBridgesSpec : ChangeSpec := { name := "fnBestBridges", fn := fun _ => fun
  | [d] => { results := [.lit (.bool true)], args := [d] }
  | _ => none }
def fnBestBridgesRow : OpenClaim := { program := "ytecdmnncfloagaa", sum := "069f93c8ab6b6fff5f7e4e728e36a48b07b0104308449075dcd9fca7a0db8c35", func := "loop.example/g00927/laws.FnBestBridges", spec := "fnBestBridges", apart := false }
def FnBestBridgesSaid : Prop := fnBestBridgesRow.holds Try.pinned (OpenSpec.ofChange fnBestBridgesSpec)

/-- ITS FALSE NEIGHBOUR: 'it returns false'. Refute it at one input. -/
def fnBestBridgesWrong : ChangeSpec := { name := "fnBestBridges", fn := fun _ => fun
  | [d] => { results := [.lit (.bool false)], args := [d] }
  | _ => none }
def FnBestBridgesWrongFalsely : Prop := fnBestBridgesRow.holds Try.pinned (OpenSpec.ofChange fnBestBridgesWrong)

/-- 'laws.FnStates': WHATEVER THE INPUT: true; the input reads as it did. -/
def fnStatesSpec : ChangeSpec := { name := "fnStates", fn := fun _ => fun
  | [d1, d2] => { results := [.lit (.bool true)], args := [d1, d2] }
  | _ => none }
def fnStatesRow : OpenClaim := { program := "ytecdmnncfloagaa", sum := "069f93c8ab6b6fff5f7e4e728e36a48b07b0104308449075dcd9fca7a0db8c35", func := "loop.example/g00927/laws.FnStates", spec := "fnStates", apart := false }
def FnStatesSaid : Prop := fnStatesRow.holds Try.pinned (OpenSpec.ofChange fnStatesSpec)

/-- ITS FALSE NEIGHBOUR: 'it returns false'. Refute it at one input. -/
def fnStatesWrong : ChangeSpec := { name := "fnStates", fn := fun _ => fun
  | [d1, d2] => { results := [.lit (.bool false)], args := [d1, d2] }
  | _ => none }
def FnStatesWrongFalsely : Prop := fnStatesRow.holds Try.pinned (OpenSpec.ofChange fnStatesWrong)

/-- 'laws.FnBridges': WHATEVER THE INPUT: true; the input reads as it did. -/
def fnBridgesSpec : ChangeSpec := { name := "fnBridges", fn := fun _ => fun
  | [d] => { results := [.lit (.bool true)], args := [d] }
  | _ => none }
def fnBridgesRow : OpenClaim := { program := "ytecdmnncfloagaa", sum := "069f93c8ab6b6fff5f7e4e728e36a48b07b0104308449075dcd9fca7a0db8c35", func := "loop.example/g00927/laws.FnBridges", spec := "fnBridges", apart := false }
def FnBridgesSaid : Prop := fnBridgesRow.holds Try.pinned (OpenSpec.ofChange fnBridgesSpec)

/-- ITS FALSE NEIGHBOUR: 'it returns false'. Refute it at one input. -/
def fnBridgesWrong : ChangeSpec := { name := "fnBridges", fn := fun _ => fun
  | [d] => { results := [.lit (.bool false)], args := [d] }
  | _ => none }
def FnBridgesWrongFalsely : Prop := fnBridgesRow.holds Try.pinned (OpenSpec.ofChange fnBridgesWrong)

/-- 'laws.FnExactShortestTour': WHATEVER THE INPUT: true; the input reads as it did. -/
def fnExactShortestTourSpec : ChangeSpec := { name := "fnExactShortestTour", fn := fun _ => fun
  | [d1, d2] => { results := [.lit (.bool true)], args := [d1, d2] }
  | _ => none }
def fnExactShortestTourRow : OpenClaim := { program := "ytecdmnncfloagaa", sum := "069f93c8ab6b6fff5f7e4e728e36a48b07b0104308449075dcd9fca7a0db8c35", func := "loop.example/g00927/laws.FnExactShortestTour", spec := "fnExactShortestTour", recurses := true, apart := false }
def FnExactShortestTourSaid : Prop := fnExactShortestTourRow.holds Try.pinned (OpenSpec.ofChange fnExactShortestTourSpec)

/-- ITS FALSE NEIGHBOUR: 'it returns false'. Refute it at one input. -/
def fnExactShortestTourWrong : ChangeSpec := { name := "fnExactShortestTour", fn := fun _ => fun
  | [d1, d2] => { results := [.lit (.bool false)], args := [d1, d2] }
  | _ => none }
def FnExactShortestTourWrongFalsely : Prop := fnExactShortestTourRow.holds Try.pinned (OpenSpec.ofChange fnExactShortestTourWrong)

/-- 'laws.FnExactRoutineBeats': WHATEVER THE INPUT: true; the input reads as it did. -/
def fnExactRoutineBeatsSpec : ChangeSpec := { name := "fnExactRoutineBeats", fn := fun _ => fun
  | [d] => { results := [.lit (.bool true)], args := [d] }
  | _ => none }
def fnExactRoutineBeatsRow : OpenClaim := { program := "ytecdmnncfloagaa", sum := "069f93c8ab6b6fff5f7e4e728e36a48b07b0104308449075dcd9fca7a0db8c35", func := "loop.example/g00927/laws.FnExactRoutineBeats", spec := "fnExactRoutineBeats", unfollowed := true, recurses := true, apart := false }
def FnExactRoutineBeatsSaid : Prop := fnExactRoutineBeatsRow.holds Try.pinned (OpenSpec.ofChange fnExactRoutineBeatsSpec)

/-- ITS FALSE NEIGHBOUR: 'it returns false'. Refute it at one input. -/
def fnExactRoutineBeatsWrong : ChangeSpec := { name := "fnExactRoutineBeats", fn := fun _ => fun
  | [d] => { results := [.lit (.bool false)], args := [d] }
  | _ => none }
def FnExactRoutineBeatsWrongFalsely : Prop := fnExactRoutineBeatsRow.holds Try.pinned (OpenSpec.ofChange fnExactRoutineBeatsWrong)

/-- 'laws.FnExactPartAt': WHATEVER THE INPUT: true; the input reads as it did. -/
def fnExactPartAtSpec : ChangeSpec := { name := "fnExactPartAt", fn := fun _ => fun
  | [d1, d2] => { results := [.lit (.bool true)], args := [d1, d2] }
  | _ => none }
def fnExactPartAtRow : OpenClaim := { program := "ytecdmnncfloagaa", sum := "069f93c8ab6b6fff5f7e4e728e36a48b07b0104308449075dcd9fca7a0db8c35", func := "loop.example/g00927/laws.FnExactPartAt", spec := "fnExactPartAt", unfollowed := true, recurses := true, apart := false }
def FnExactPartAtSaid : Prop := fnExactPartAtRow.holds Try.pinned (OpenSpec.ofChange fnExactPartAtSpec)

/-- ITS FALSE NEIGHBOUR: 'it returns false'. Refute it at one input. -/
def fnExactPartAtWrong : ChangeSpec := { name := "fnExactPartAt", fn := fun _ => fun
  | [d1, d2] => { results := [.lit (.bool false)], args := [d1, d2] }
  | _ => none }
def FnExactPartAtWrongFalsely : Prop := fnExactPartAtRow.holds Try.pinned (OpenSpec.ofChange fnExactPartAtWrong)

/-- 'laws.FnExactBridgesIn': WHATEVER THE INPUT: true; the input reads as it did. -/
def fnExactBridgesInSpec : ChangeSpec := { name := "fnExactBridgesIn", fn := fun _ => fun
  | [d] => { results := [.lit (.bool true)], args := [d] }
  | _ => none }
def fnExactBridgesInRow : OpenClaim := { program := "ytecdmnncfloagaa", sum := "069f93c8ab6b6fff5f7e4e728e36a48b07b0104308449075dcd9fca7a0db8c35", func := "loop.example/g00927/laws.FnExactBridgesIn", spec := "fnExactBridgesIn", apart := false }
def FnExactBridgesInSaid : Prop := fnExactBridgesInRow.holds Try.pinned (OpenSpec.ofChange fnExactBridgesInSpec)

/-- ITS FALSE NEIGHBOUR: 'it returns false'. Refute it at one input. -/
def fnExactBridgesInWrong : ChangeSpec := { name := "fnExactBridgesIn", fn := fun _ => fun
  | [d] => { results := [.lit (.bool false)], args := [d] }
  | _ => none }
def FnExactBridgesInWrongFalsely : Prop := fnExactBridgesInRow.holds Try.pinned (OpenSpec.ofChange fnExactBridgesInWrong)

/-- 'laws.FnExactRoutineThrows': WHATEVER THE INPUT: true; the input reads as it did. -/
def fnExactRoutineThrowsSpec : ChangeSpec := { name := "fnExactRoutineThrows", fn := fun _ => fun
  | [d] => { results := [.lit (.bool true)], args := [d] }
  | _ => none }
def fnExactRoutineThrowsRow : OpenClaim := { program := "ytecdmnncfloagaa", sum := "069f93c8ab6b6fff5f7e4e728e36a48b07b0104308449075dcd9fca7a0db8c35", func := "loop.example/g00927/laws.FnExactRoutineThrows", spec := "fnExactRoutineThrows", unfollowed := true, recurses := true, apart := false }
def FnExactRoutineThrowsSaid : Prop := fnExactRoutineThrowsRow.holds Try.pinned (OpenSpec.ofChange fnExactRoutineThrowsSpec)

/-- ITS FALSE NEIGHBOUR: 'it returns false'. Refute it at one input. -/
def fnExactRoutineThrowsWrong : ChangeSpec := { name := "fnExactRoutineThrows", fn := fun _ => fun
  | [d] => { results := [.lit (.bool false)], args := [d] }
  | _ => none }
def FnExactRoutineThrowsWrongFalsely : Prop := fnExactRoutineThrowsRow.holds Try.pinned (OpenSpec.ofChange fnExactRoutineThrowsWrong)

/-- 'laws.FnExactShortestOrder': WHATEVER THE INPUT: true; the input reads as it did. -/
def fnExactShortestOrderSpec : ChangeSpec := { name := "fnExactShortestOrder", fn := fun _ => fun
  | [d] => { results := [.lit (.bool true)], args := [d] }
  | _ => none }
def fnExactShortestOrderRow : OpenClaim := { program := "ytecdmnncfloagaa", sum := "069f93c8ab6b6fff5f7e4e728e36a48b07b0104308449075dcd9fca7a0db8c35", func := "loop.example/g00927/laws.FnExactShortestOrder", spec := "fnExactShortestOrder", recurses := true, apart := false }
def FnExactShortestOrderSaid : Prop := fnExactShortestOrderRow.holds Try.pinned (OpenSpec.ofChange fnExactShortestOrderSpec)

/-- ITS FALSE NEIGHBOUR: 'it returns false'. Refute it at one input. -/
def fnExactShortestOrderWrong : ChangeSpec := { name := "fnExactShortestOrder", fn := fun _ => fun
  | [d] => { results := [.lit (.bool false)], args := [d] }
  | _ => none }
def FnExactShortestOrderWrongFalsely : Prop := fnExactShortestOrderRow.holds Try.pinned (OpenSpec.ofChange fnExactShortestOrderWrong)

/-- 'laws.FnExactTourPattern': WHATEVER THE INPUT: true; the input reads as it did. -/
def fnExactTourPatternSpec : ChangeSpec := { name := "fnExactTourPattern", fn := fun _ => fun
  | [d1, d2] => { results := [.lit (.bool true)], args := [d1, d2] }
  | _ => none }
def fnExactTourPatternRow : OpenClaim := { program := "ytecdmnncfloagaa", sum := "069f93c8ab6b6fff5f7e4e728e36a48b07b0104308449075dcd9fca7a0db8c35", func := "loop.example/g00927/laws.FnExactTourPattern", spec := "fnExactTourPattern", recurses := true, apart := false }
def FnExactTourPatternSaid : Prop := fnExactTourPatternRow.holds Try.pinned (OpenSpec.ofChange fnExactTourPatternSpec)

/-- ITS FALSE NEIGHBOUR: 'it returns false'. Refute it at one input. -/
def fnExactTourPatternWrong : ChangeSpec := { name := "fnExactTourPattern", fn := fun _ => fun
  | [d1, d2] => { results := [.lit (.bool false)], args := [d1, d2] }
  | _ => none }
def FnExactTourPatternWrongFalsely : Prop := fnExactTourPatternRow.holds Try.pinned (OpenSpec.ofChange fnExactTourPatternWrong)

/-- 'laws.FnTours': WHATEVER THE INPUT: true; the input reads as it did. -/
def fnToursSpec : ChangeSpec := { name := "fnTours", fn := fun _ => fun
  | [d] => { results := [.lit (.bool true)], args := [d] }
  | _ => none }
def fnToursRow : OpenClaim := { program := "ytecdmnncfloagaa", sum := "069f93c8ab6b6fff5f7e4e728e36a48b07b0104308449075dcd9fca7a0db8c35", func := "loop.example/g00927/laws.FnTours", spec := "fnTours", recurses := true, apart := false }
def FnToursSaid : Prop := fnToursRow.holds Try.pinned (OpenSpec.ofChange fnToursSpec)

/-- ITS FALSE NEIGHBOUR: 'it returns false'. Refute it at one input. -/
def fnToursWrong : ChangeSpec := { name := "fnTours", fn := fun _ => fun
  | [d] => { results := [.lit (.bool false)], args := [d] }
  | _ => none }
def FnToursWrongFalsely : Prop := fnToursRow.holds Try.pinned (OpenSpec.ofChange fnToursWrong)

/- THE SECOND FORM. 'bulk': how many values and letters a reading holds, each counted each time it is reached (what is shared counts as often as it is met; a slice's spare places count too). A statement '..UptoSaid' is the law's where the arguments, and the package variables that the reading takes, are together of bulk at most 1048576: NARROWER than '..Said'. Prove '..Said' where nothing that the law and all that it calls make is longer than what came in: it says more and counts as full. Else prove '..UptoSaid'. A law counts once. -/
mutual
def uptoBulk {H : Type} : DataW H → Nat
  | .lit (.string bytes) => bytes.length + 1
  | .lit _ => 1
  | .nil => 1
  | .ptr d => uptoBulk d + 1
  | .slice elems spare => uptoBulkAll elems + uptoBulkAll spare + 1
  | .agg parts => uptoBulkAll parts + 1
  | .iface _ d => uptoBulk d + 1
  | .map entries => uptoBulkEntries entries + 1
  | .held _ => 1
def uptoBulkAll {H : Type} : List (DataW H) → Nat
  | [] => 0
  | d :: r => uptoBulk d + uptoBulkAll r
def uptoBulkEntries {H : Type} : List (Lit × DataW H) → Nat
  | [] => 0
  | x :: r => uptoBulkEntry x + uptoBulkEntries r
def uptoBulkEntry {H : Type} : Lit × DataW H → Nat
  | (.string bytes, d) => bytes.length + uptoBulk d + 1
  | (_, d) => uptoBulk d + 1
 end
def uptoSmall : (H : Type) → List (DataW H) → Bool := fun _ ds => decide (uptoBulkAll ds ≤ 1048576)
def OpenSpec.upto (s : _root_.Go.ChangeSpec) : _root_.Go.OpenSpec := { _root_.Go.OpenSpec.ofChange s with cond := some uptoSmall }

/-- 'laws.FnExactSameFrame', WHERE WHAT IT READS IS OF BULK AT MOST 1048576: true; the input reads as it did. -/
def fnExactSameFrameUptoRow : OpenClaim := { program := "ytecdmnncfloagaa", sum := "069f93c8ab6b6fff5f7e4e728e36a48b07b0104308449075dcd9fca7a0db8c35", func := "loop.example/g00927/laws.FnExactSameFrame", spec := "fnExactSameFrame", apart := false, narrowed := true }
def FnExactSameFrameUptoSaid : Prop := fnExactSameFrameUptoRow.holds Try.pinned (OpenSpec.upto fnExactSameFrameSpec)

/-- 'laws.FnBestBridges', WHERE WHAT IT READS IS OF BULK AT MOST 1048576: true; the input reads as it did. -/
def fnBestBridgesUptoRow : OpenClaim := { program := "ytecdmnncfloagaa", sum := "069f93c8ab6b6fff5f7e4e728e36a48b07b0104308449075dcd9fca7a0db8c35", func := "loop.example/g00927/laws.FnBestBridges", spec := "fnBestBridges", apart := false, narrowed := true }
def FnBestBridgesUptoSaid : Prop := fnBestBridgesUptoRow.holds Try.pinned (OpenSpec.upto fnBestBridgesSpec)

/-- 'laws.FnStates', WHERE WHAT IT READS IS OF BULK AT MOST 1048576: true; the input reads as it did. -/
def fnStatesUptoRow : OpenClaim := { program := "ytecdmnncfloagaa", sum := "069f93c8ab6b6fff5f7e4e728e36a48b07b0104308449075dcd9fca7a0db8c35", func := "loop.example/g00927/laws.FnStates", spec := "fnStates", apart := false, narrowed := true }
def FnStatesUptoSaid : Prop := fnStatesUptoRow.holds Try.pinned (OpenSpec.upto fnStatesSpec)

/-- 'laws.FnBridges', WHERE WHAT IT READS IS OF BULK AT MOST 1048576: true; the input reads as it did. -/
def fnBridgesUptoRow : OpenClaim := { program := "ytecdmnncfloagaa", sum := "069f93c8ab6b6fff5f7e4e728e36a48b07b0104308449075dcd9fca7a0db8c35", func := "loop.example/g00927/laws.FnBridges", spec := "fnBridges", apart := false, narrowed := true }
def FnBridgesUptoSaid : Prop := fnBridgesUptoRow.holds Try.pinned (OpenSpec.upto fnBridgesSpec)

/-- 'laws.FnExactShortestTour', WHERE WHAT IT READS IS OF BULK AT MOST 1048576: true; the input reads as it did. -/
def fnExactShortestTourUptoRow : OpenClaim := { program := "ytecdmnncfloagaa", sum := "069f93c8ab6b6fff5f7e4e728e36a48b07b0104308449075dcd9fca7a0db8c35", func := "loop.example/g00927/laws.FnExactShortestTour", spec := "fnExactShortestTour", recurses := true, apart := false, narrowed := true }
def FnExactShortestTourUptoSaid : Prop := fnExactShortestTourUptoRow.holds Try.pinned (OpenSpec.upto fnExactShortestTourSpec)

/-- 'laws.FnExactRoutineBeats', WHERE WHAT IT READS IS OF BULK AT MOST 1048576: true; the input reads as it did. -/
def fnExactRoutineBeatsUptoRow : OpenClaim := { program := "ytecdmnncfloagaa", sum := "069f93c8ab6b6fff5f7e4e728e36a48b07b0104308449075dcd9fca7a0db8c35", func := "loop.example/g00927/laws.FnExactRoutineBeats", spec := "fnExactRoutineBeats", unfollowed := true, recurses := true, apart := false, narrowed := true }
def FnExactRoutineBeatsUptoSaid : Prop := fnExactRoutineBeatsUptoRow.holds Try.pinned (OpenSpec.upto fnExactRoutineBeatsSpec)

/-- 'laws.FnExactPartAt', WHERE WHAT IT READS IS OF BULK AT MOST 1048576: true; the input reads as it did. -/
def fnExactPartAtUptoRow : OpenClaim := { program := "ytecdmnncfloagaa", sum := "069f93c8ab6b6fff5f7e4e728e36a48b07b0104308449075dcd9fca7a0db8c35", func := "loop.example/g00927/laws.FnExactPartAt", spec := "fnExactPartAt", unfollowed := true, recurses := true, apart := false, narrowed := true }
def FnExactPartAtUptoSaid : Prop := fnExactPartAtUptoRow.holds Try.pinned (OpenSpec.upto fnExactPartAtSpec)

/-- 'laws.FnExactBridgesIn', WHERE WHAT IT READS IS OF BULK AT MOST 1048576: true; the input reads as it did. -/
def fnExactBridgesInUptoRow : OpenClaim := { program := "ytecdmnncfloagaa", sum := "069f93c8ab6b6fff5f7e4e728e36a48b07b0104308449075dcd9fca7a0db8c35", func := "loop.example/g00927/laws.FnExactBridgesIn", spec := "fnExactBridgesIn", apart := false, narrowed := true }
def FnExactBridgesInUptoSaid : Prop := fnExactBridgesInUptoRow.holds Try.pinned (OpenSpec.upto fnExactBridgesInSpec)

/-- 'laws.FnExactRoutineThrows', WHERE WHAT IT READS IS OF BULK AT MOST 1048576: true; the input reads as it did. -/
def fnExactRoutineThrowsUptoRow : OpenClaim := { program := "ytecdmnncfloagaa", sum := "069f93c8ab6b6fff5f7e4e728e36a48b07b0104308449075dcd9fca7a0db8c35", func := "loop.example/g00927/laws.FnExactRoutineThrows", spec := "fnExactRoutineThrows", unfollowed := true, recurses := true, apart := false, narrowed := true }
def FnExactRoutineThrowsUptoSaid : Prop := fnExactRoutineThrowsUptoRow.holds Try.pinned (OpenSpec.upto fnExactRoutineThrowsSpec)

/-- 'laws.FnExactShortestOrder', WHERE WHAT IT READS IS OF BULK AT MOST 1048576: true; the input reads as it did. -/
def fnExactShortestOrderUptoRow : OpenClaim := { program := "ytecdmnncfloagaa", sum := "069f93c8ab6b6fff5f7e4e728e36a48b07b0104308449075dcd9fca7a0db8c35", func := "loop.example/g00927/laws.FnExactShortestOrder", spec := "fnExactShortestOrder", recurses := true, apart := false, narrowed := true }
def FnExactShortestOrderUptoSaid : Prop := fnExactShortestOrderUptoRow.holds Try.pinned (OpenSpec.upto fnExactShortestOrderSpec)

/-- 'laws.FnExactTourPattern', WHERE WHAT IT READS IS OF BULK AT MOST 1048576: true; the input reads as it did. -/
def fnExactTourPatternUptoRow : OpenClaim := { program := "ytecdmnncfloagaa", sum := "069f93c8ab6b6fff5f7e4e728e36a48b07b0104308449075dcd9fca7a0db8c35", func := "loop.example/g00927/laws.FnExactTourPattern", spec := "fnExactTourPattern", recurses := true, apart := false, narrowed := true }
def FnExactTourPatternUptoSaid : Prop := fnExactTourPatternUptoRow.holds Try.pinned (OpenSpec.upto fnExactTourPatternSpec)

/-- 'laws.FnTours', WHERE WHAT IT READS IS OF BULK AT MOST 1048576: true; the input reads as it did. -/
def fnToursUptoRow : OpenClaim := { program := "ytecdmnncfloagaa", sum := "069f93c8ab6b6fff5f7e4e728e36a48b07b0104308449075dcd9fca7a0db8c35", func := "loop.example/g00927/laws.FnTours", spec := "fnTours", recurses := true, apart := false, narrowed := true }
def FnToursUptoSaid : Prop := fnToursUptoRow.holds Try.pinned (OpenSpec.upto fnToursSpec)

end Rows
end Go.Proofs.Ytecdmnncfloagaa

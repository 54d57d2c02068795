/-
  No cell of these rows narrows 'for every input' (looked for: loops, veiled, ifaces, maps, wideKeys, modest, calm, conditions, laid).
  DERIVED. THE GIVEN ROWS OF THIS SEAT. 12 by the template 'for every input the law returns true; each argument reads behind the call as it read before'; 0 by the template 'total and deterministic' (their statements: YtjlpmlclicemdaaTotals.lean).
  GIVEN WITH THE SEED: the statements are not yours to turn. If you find one false, say at which input.
  Laid BY PROGRAM, IN A SANDBOX (cutbox-rows.mjs): the forced cells as the released guide's own fill.sh prints them over the translation b0b183a359f66e93… (all of the seat's roots in one cut). By AI agents, Wed Nov 11 2026. No macro, syntax, notation, axiom, sorry.
-/
import Derived.Test.YtjlpmlclicemdaaChecked
import GoSem.Claim
import GoSem.ClaimJoined
import GoSem.ClaimMapViews
import Derived.JoinedTies
import Derived.KernelRfl
namespace Go.Proofs.Ytjlpmlclicemdaa
/- THE CELL 'sum', in the pinned program and in every row, IS THE sha256 OF THE DUMP (.gsa) THAT YtjlpmlclicemdaaProg.lean LOADS. Nothing in Lean hashes anything: it is a label: what it is worth is what the hold of that sum in a sandbox is worth. -/
noncomputable def Try.pinned : Pinned := { name := "ytjlpmlclicemdaa", sum := "b0b183a359f66e93fc51af1d4febfa8797b8042e85d9c66a71e5306efbd430b2", checked := Try.checked }
namespace Rows
def none {H : Type} : Left H := { results := [], args := [] }

/-- 'laws.FnExactEntryOf': WHATEVER THE INPUT: true; the input reads as it did. -/
def fnExactEntryOfSpec : ChangeSpec := { name := "fnExactEntryOf", fn := fun _ => fun
  | [d1, d2] => { results := [.lit (.bool true)], args := [d1, d2] }
  | _ => none }
def fnExactEntryOfRow : OpenClaim := { program := "ytjlpmlclicemdaa", sum := "b0b183a359f66e93fc51af1d4febfa8797b8042e85d9c66a71e5306efbd430b2", func := "loop.example/g00927/laws.FnExactEntryOf", spec := "fnExactEntryOf", apart := false }
def FnExactEntryOfSaid : Prop := fnExactEntryOfRow.holds Try.pinned (OpenSpec.ofChange fnExactEntryOfSpec)

/-- ITS FALSE NEIGHBOUR: 'it returns false'. Refute it at one input. -/
def fnExactEntryOfWrong : ChangeSpec := { name := "fnExactEntryOf", fn := fun _ => fun
  | [d1, d2] => { results := [.lit (.bool false)], args := [d1, d2] }
  | _ => none }
def FnExactEntryOfWrongFalsely : Prop := fnExactEntryOfRow.holds Try.pinned (OpenSpec.ofChange fnExactEntryOfWrong)

/-- 'laws.FnExactExitOf': WHATEVER THE INPUT: true; the input reads as it did. -/
def fnExactExitOfSpec : ChangeSpec := { name := "fnExactExitOf", fn := fun _ => fun
  | [d1, d2] => { results := [.lit (.bool true)], args := [d1, d2] }
  | _ => none }
def fnExactExitOfRow : OpenClaim := { program := "ytjlpmlclicemdaa", sum := "b0b183a359f66e93fc51af1d4febfa8797b8042e85d9c66a71e5306efbd430b2", func := "loop.example/g00927/laws.FnExactExitOf", spec := "fnExactExitOf", apart := false }
def FnExactExitOfSaid : Prop := fnExactExitOfRow.holds Try.pinned (OpenSpec.ofChange fnExactExitOfSpec)

/-- ITS FALSE NEIGHBOUR: 'it returns false'. Refute it at one input. -/
def fnExactExitOfWrong : ChangeSpec := { name := "fnExactExitOf", fn := fun _ => fun
  | [d1, d2] => { results := [.lit (.bool false)], args := [d1, d2] }
  | _ => none }
def FnExactExitOfWrongFalsely : Prop := fnExactExitOfRow.holds Try.pinned (OpenSpec.ofChange fnExactExitOfWrong)

/-- 'laws.FnExactBridgeOf': WHATEVER THE INPUT: true; the input reads as it did. -/
def fnExactBridgeOfSpec : ChangeSpec := { name := "fnExactBridgeOf", fn := fun _ => fun
  | [d1, d2, d3] => { results := [.lit (.bool true)], args := [d1, d2, d3] }
  | _ => none }
def fnExactBridgeOfRow : OpenClaim := { program := "ytjlpmlclicemdaa", sum := "b0b183a359f66e93fc51af1d4febfa8797b8042e85d9c66a71e5306efbd430b2", func := "loop.example/g00927/laws.FnExactBridgeOf", spec := "fnExactBridgeOf", apart := false }
def FnExactBridgeOfSaid : Prop := fnExactBridgeOfRow.holds Try.pinned (OpenSpec.ofChange fnExactBridgeOfSpec)

/-- ITS FALSE NEIGHBOUR: 'it returns false'. Refute it at one input. -/
def fnExactBridgeOfWrong : ChangeSpec := { name := "fnExactBridgeOf", fn := fun _ => fun
  | [d1, d2, d3] => { results := [.lit (.bool false)], args := [d1, d2, d3] }
  | _ => none }
def FnExactBridgeOfWrongFalsely : Prop := fnExactBridgeOfRow.holds Try.pinned (OpenSpec.ofChange fnExactBridgeOfWrong)

/-- 'laws.FnExactLoopOf': WHATEVER THE INPUT: true; the input reads as it did. -/
def fnExactLoopOfSpec : ChangeSpec := { name := "fnExactLoopOf", fn := fun _ => fun
  | [d1, d2, d3] => { results := [.lit (.bool true)], args := [d1, d2, d3] }
  | _ => none }
def fnExactLoopOfRow : OpenClaim := { program := "ytjlpmlclicemdaa", sum := "b0b183a359f66e93fc51af1d4febfa8797b8042e85d9c66a71e5306efbd430b2", func := "loop.example/g00927/laws.FnExactLoopOf", spec := "fnExactLoopOf", apart := false }
def FnExactLoopOfSaid : Prop := fnExactLoopOfRow.holds Try.pinned (OpenSpec.ofChange fnExactLoopOfSpec)

/-- ITS FALSE NEIGHBOUR: 'it returns false'. Refute it at one input. -/
def fnExactLoopOfWrong : ChangeSpec := { name := "fnExactLoopOf", fn := fun _ => fun
  | [d1, d2, d3] => { results := [.lit (.bool false)], args := [d1, d2, d3] }
  | _ => none }
def FnExactLoopOfWrongFalsely : Prop := fnExactLoopOfRow.holds Try.pinned (OpenSpec.ofChange fnExactLoopOfWrong)

/-- 'laws.FnExactBestBridge': WHATEVER THE INPUT: true; the input reads as it did. -/
def fnExactBestBridgeSpec : ChangeSpec := { name := "fnExactBestBridge", fn := fun _ => fun
  | [d1, d2, d3] => { results := [.lit (.bool true)], args := [d1, d2, d3] }
  | _ => none }
def fnExactBestBridgeRow : OpenClaim := { program := "ytjlpmlclicemdaa", sum := "b0b183a359f66e93fc51af1d4febfa8797b8042e85d9c66a71e5306efbd430b2", func := "loop.example/g00927/laws.FnExactBestBridge", spec := "fnExactBestBridge", apart := false }
def FnExactBestBridgeSaid : Prop := fnExactBestBridgeRow.holds Try.pinned (OpenSpec.ofChange fnExactBestBridgeSpec)

/-- ITS FALSE NEIGHBOUR: 'it returns false'. Refute it at one input. -/
def fnExactBestBridgeWrong : ChangeSpec := { name := "fnExactBestBridge", fn := fun _ => fun
  | [d1, d2, d3] => { results := [.lit (.bool false)], args := [d1, d2, d3] }
  | _ => none }
def FnExactBestBridgeWrongFalsely : Prop := fnExactBestBridgeRow.holds Try.pinned (OpenSpec.ofChange fnExactBestBridgeWrong)

/-- 'laws.FnExactFarthestPair': WHATEVER THE INPUT: true; the input reads as it did. -/
def fnExactFarthestPairSpec : ChangeSpec := { name := "fnExactFarthestPair", fn := fun _ => fun
  | [d1, d2] => { results := [.lit (.bool true)], args := [d1, d2] }
  | _ => none }
def fnExactFarthestPairRow : OpenClaim := { program := "ytjlpmlclicemdaa", sum := "b0b183a359f66e93fc51af1d4febfa8797b8042e85d9c66a71e5306efbd430b2", func := "loop.example/g00927/laws.FnExactFarthestPair", spec := "fnExactFarthestPair", apart := false }
def FnExactFarthestPairSaid : Prop := fnExactFarthestPairRow.holds Try.pinned (OpenSpec.ofChange fnExactFarthestPairSpec)

/-- ITS FALSE NEIGHBOUR: 'it returns false'. Refute it at one input. -/
def fnExactFarthestPairWrong : ChangeSpec := { name := "fnExactFarthestPair", fn := fun _ => fun
  | [d1, d2] => { results := [.lit (.bool false)], args := [d1, d2] }
  | _ => none }
def FnExactFarthestPairWrongFalsely : Prop := fnExactFarthestPairRow.holds Try.pinned (OpenSpec.ofChange fnExactFarthestPairWrong)

/-- 'laws.FnExactTransitionTable': WHATEVER THE INPUT: true; the input reads as it did. -/
def fnExactTransitionTableSpec : ChangeSpec := { name := "fnExactTransitionTable", fn := fun _ => fun
  | [d1, d2] => { results := [.lit (.bool true)], args := [d1, d2] }
  | _ => none }
def fnExactTransitionTableRow : OpenClaim := { program := "ytjlpmlclicemdaa", sum := "b0b183a359f66e93fc51af1d4febfa8797b8042e85d9c66a71e5306efbd430b2", func := "loop.example/g00927/laws.FnExactTransitionTable", spec := "fnExactTransitionTable", apart := false }
def FnExactTransitionTableSaid : Prop := fnExactTransitionTableRow.holds Try.pinned (OpenSpec.ofChange fnExactTransitionTableSpec)

/-- ITS FALSE NEIGHBOUR: 'it returns false'. Refute it at one input. -/
def fnExactTransitionTableWrong : ChangeSpec := { name := "fnExactTransitionTable", fn := fun _ => fun
  | [d1, d2] => { results := [.lit (.bool false)], args := [d1, d2] }
  | _ => none }
def FnExactTransitionTableWrongFalsely : Prop := fnExactTransitionTableRow.holds Try.pinned (OpenSpec.ofChange fnExactTransitionTableWrong)

/-- 'laws.FnExactCenterOf': WHATEVER THE INPUT: true; the input reads as it did. -/
def fnExactCenterOfSpec : ChangeSpec := { name := "fnExactCenterOf", fn := fun _ => fun
  | [d1, d2] => { results := [.lit (.bool true)], args := [d1, d2] }
  | _ => none }
def fnExactCenterOfRow : OpenClaim := { program := "ytjlpmlclicemdaa", sum := "b0b183a359f66e93fc51af1d4febfa8797b8042e85d9c66a71e5306efbd430b2", func := "loop.example/g00927/laws.FnExactCenterOf", spec := "fnExactCenterOf", apart := false }
def FnExactCenterOfSaid : Prop := fnExactCenterOfRow.holds Try.pinned (OpenSpec.ofChange fnExactCenterOfSpec)

/-- ITS FALSE NEIGHBOUR: 'it returns false'. Refute it at one input. -/
def fnExactCenterOfWrong : ChangeSpec := { name := "fnExactCenterOf", fn := fun _ => fun
  | [d1, d2] => { results := [.lit (.bool false)], args := [d1, d2] }
  | _ => none }
def FnExactCenterOfWrongFalsely : Prop := fnExactCenterOfRow.holds Try.pinned (OpenSpec.ofChange fnExactCenterOfWrong)

/-- 'laws.FnExactFollowGroups': WHATEVER THE INPUT: true; the input reads as it did. -/
def fnExactFollowGroupsSpec : ChangeSpec := { name := "fnExactFollowGroups", fn := fun _ => fun
  | [d1, d2] => { results := [.lit (.bool true)], args := [d1, d2] }
  | _ => none }
def fnExactFollowGroupsRow : OpenClaim := { program := "ytjlpmlclicemdaa", sum := "b0b183a359f66e93fc51af1d4febfa8797b8042e85d9c66a71e5306efbd430b2", func := "loop.example/g00927/laws.FnExactFollowGroups", spec := "fnExactFollowGroups", apart := false }
def FnExactFollowGroupsSaid : Prop := fnExactFollowGroupsRow.holds Try.pinned (OpenSpec.ofChange fnExactFollowGroupsSpec)

/-- ITS FALSE NEIGHBOUR: 'it returns false'. Refute it at one input. -/
def fnExactFollowGroupsWrong : ChangeSpec := { name := "fnExactFollowGroups", fn := fun _ => fun
  | [d1, d2] => { results := [.lit (.bool false)], args := [d1, d2] }
  | _ => none }
def FnExactFollowGroupsWrongFalsely : Prop := fnExactFollowGroupsRow.holds Try.pinned (OpenSpec.ofChange fnExactFollowGroupsWrong)

/-- 'laws.FnExactShortestTour': WHATEVER THE INPUT: true; the input reads as it did. -/
def fnExactShortestTourSpec : ChangeSpec := { name := "fnExactShortestTour", fn := fun _ => fun
  | [d1, d2] => { results := [.lit (.bool true)], args := [d1, d2] }
  | _ => none }
def fnExactShortestTourRow : OpenClaim := { program := "ytjlpmlclicemdaa", sum := "b0b183a359f66e93fc51af1d4febfa8797b8042e85d9c66a71e5306efbd430b2", func := "loop.example/g00927/laws.FnExactShortestTour", spec := "fnExactShortestTour", recurses := true, apart := false }
def FnExactShortestTourSaid : Prop := fnExactShortestTourRow.holds Try.pinned (OpenSpec.ofChange fnExactShortestTourSpec)

/-- ITS FALSE NEIGHBOUR: 'it returns false'. Refute it at one input. -/
def fnExactShortestTourWrong : ChangeSpec := { name := "fnExactShortestTour", fn := fun _ => fun
  | [d1, d2] => { results := [.lit (.bool false)], args := [d1, d2] }
  | _ => none }
def FnExactShortestTourWrongFalsely : Prop := fnExactShortestTourRow.holds Try.pinned (OpenSpec.ofChange fnExactShortestTourWrong)

/-- 'laws.FnExactTourPattern': WHATEVER THE INPUT: true; the input reads as it did. -/
def fnExactTourPatternSpec : ChangeSpec := { name := "fnExactTourPattern", fn := fun _ => fun
  | [d1, d2] => { results := [.lit (.bool true)], args := [d1, d2] }
  | _ => none }
def fnExactTourPatternRow : OpenClaim := { program := "ytjlpmlclicemdaa", sum := "b0b183a359f66e93fc51af1d4febfa8797b8042e85d9c66a71e5306efbd430b2", func := "loop.example/g00927/laws.FnExactTourPattern", spec := "fnExactTourPattern", recurses := true, apart := false }
def FnExactTourPatternSaid : Prop := fnExactTourPatternRow.holds Try.pinned (OpenSpec.ofChange fnExactTourPatternSpec)

/-- ITS FALSE NEIGHBOUR: 'it returns false'. Refute it at one input. -/
def fnExactTourPatternWrong : ChangeSpec := { name := "fnExactTourPattern", fn := fun _ => fun
  | [d1, d2] => { results := [.lit (.bool false)], args := [d1, d2] }
  | _ => none }
def FnExactTourPatternWrongFalsely : Prop := fnExactTourPatternRow.holds Try.pinned (OpenSpec.ofChange fnExactTourPatternWrong)

/-- 'laws.FnExactBridgeTexts': WHATEVER THE INPUT: true; the input reads as it did. -/
def fnExactBridgeTextsSpec : ChangeSpec := { name := "fnExactBridgeTexts", fn := fun _ => fun
  | [d1, d2] => { results := [.lit (.bool true)], args := [d1, d2] }
  | _ => none }
def fnExactBridgeTextsRow : OpenClaim := { program := "ytjlpmlclicemdaa", sum := "b0b183a359f66e93fc51af1d4febfa8797b8042e85d9c66a71e5306efbd430b2", func := "loop.example/g00927/laws.FnExactBridgeTexts", spec := "fnExactBridgeTexts", apart := false }
def FnExactBridgeTextsSaid : Prop := fnExactBridgeTextsRow.holds Try.pinned (OpenSpec.ofChange fnExactBridgeTextsSpec)

/-- ITS FALSE NEIGHBOUR: 'it returns false'. Refute it at one input. -/
def fnExactBridgeTextsWrong : ChangeSpec := { name := "fnExactBridgeTexts", fn := fun _ => fun
  | [d1, d2] => { results := [.lit (.bool false)], args := [d1, d2] }
  | _ => none }
def FnExactBridgeTextsWrongFalsely : Prop := fnExactBridgeTextsRow.holds Try.pinned (OpenSpec.ofChange fnExactBridgeTextsWrong)

/- THE SECOND FORM. 'bulk': how many values and letters a reading holds, each counted each time it is reached (what is shared counts as often as it is met; a slice's spare places count too). A statement '..UptoSaid' is the law's where the arguments, and the package variables that the reading takes, are together of bulk at most 1048576: NARROWER than '..Said'. Prove '..Said' where nothing that the law and all that it calls make is longer than what came in: it says more and counts as full. Else prove '..UptoSaid'. A law counts once. -/
mutual
def uptoBulk {H : Type} : DataW H → Nat
  | .lit (.string bytes) => bytes.length + 1
  | .lit _ => 1
  | .nil => 1
  | .ptr d => uptoBulk d + 1
  | .slice elems spare => uptoBulkAll elems + uptoBulkAll spare + 1
  | .agg parts => uptoBulkAll parts + 1
  | .iface _ d => uptoBulk d + 1
  | .map entries => uptoBulkEntries entries + 1
  | .held _ => 1
def uptoBulkAll {H : Type} : List (DataW H) → Nat
  | [] => 0
  | d :: r => uptoBulk d + uptoBulkAll r
def uptoBulkEntries {H : Type} : List (Lit × DataW H) → Nat
  | [] => 0
  | x :: r => uptoBulkEntry x + uptoBulkEntries r
def uptoBulkEntry {H : Type} : Lit × DataW H → Nat
  | (.string bytes, d) => bytes.length + uptoBulk d + 1
  | (_, d) => uptoBulk d + 1
 end
def uptoSmall : (H : Type) → List (DataW H) → Bool := fun _ ds => decide (uptoBulkAll ds ≤ 1048576)
def OpenSpec.upto (s : _root_.Go.ChangeSpec) : _root_.Go.OpenSpec := { _root_.Go.OpenSpec.ofChange s with cond := some uptoSmall }

/-- 'laws.FnExactEntryOf', WHERE WHAT IT READS IS OF BULK AT MOST 1048576: true; the input reads as it did. -/
def fnExactEntryOfUptoRow : OpenClaim := { program := "ytjlpmlclicemdaa", sum := "b0b183a359f66e93fc51af1d4febfa8797b8042e85d9c66a71e5306efbd430b2", func := "loop.example/g00927/laws.FnExactEntryOf", spec := "fnExactEntryOf", apart := false, narrowed := true }
def FnExactEntryOfUptoSaid : Prop := fnExactEntryOfUptoRow.holds Try.pinned (OpenSpec.upto fnExactEntryOfSpec)

/-- 'laws.FnExactExitOf', WHERE WHAT IT READS IS OF BULK AT MOST 1048576: true; the input reads as it did. -/
def fnExactExitOfUptoRow : OpenClaim := { program := "ytjlpmlclicemdaa", sum := "b0b183a359f66e93fc51af1d4febfa8797b8042e85d9c66a71e5306efbd430b2", func := "loop.example/g00927/laws.FnExactExitOf", spec := "fnExactExitOf", apart := false, narrowed := true }
def FnExactExitOfUptoSaid : Prop := fnExactExitOfUptoRow.holds Try.pinned (OpenSpec.upto fnExactExitOfSpec)

/-- 'laws.FnExactBridgeOf', WHERE WHAT IT READS IS OF BULK AT MOST 1048576: true; the input reads as it did. -/
def fnExactBridgeOfUptoRow : OpenClaim := { program := "ytjlpmlclicemdaa", sum := "b0b183a359f66e93fc51af1d4febfa8797b8042e85d9c66a71e5306efbd430b2", func := "loop.example/g00927/laws.FnExactBridgeOf", spec := "fnExactBridgeOf", apart := false, narrowed := true }
def FnExactBridgeOfUptoSaid : Prop := fnExactBridgeOfUptoRow.holds Try.pinned (OpenSpec.upto fnExactBridgeOfSpec)

/-- 'laws.FnExactLoopOf', WHERE WHAT IT READS IS OF BULK AT MOST 1048576: true; the input reads as it did. -/
def fnExactLoopOfUptoRow : OpenClaim := { program := "ytjlpmlclicemdaa", sum := "b0b183a359f66e93fc51af1d4febfa8797b8042e85d9c66a71e5306efbd430b2", func := "loop.example/g00927/laws.FnExactLoopOf", spec := "fnExactLoopOf", apart := false, narrowed := true }
def FnExactLoopOfUptoSaid : Prop := fnExactLoopOfUptoRow.holds Try.pinned (OpenSpec.upto fnExactLoopOfSpec)

/-- 'laws.FnExactBestBridge', WHERE WHAT IT READS IS OF BULK AT MOST 1048576: true; the input reads as it did. -/
def fnExactBestBridgeUptoRow : OpenClaim := { program := "ytjlpmlclicemdaa", sum := "b0b183a359f66e93fc51af1d4febfa8797b8042e85d9c66a71e5306efbd430b2", func := "loop.example/g00927/laws.FnExactBestBridge", spec := "fnExactBestBridge", apart := false, narrowed := true }
def FnExactBestBridgeUptoSaid : Prop := fnExactBestBridgeUptoRow.holds Try.pinned (OpenSpec.upto fnExactBestBridgeSpec)

/-- 'laws.FnExactFarthestPair', WHERE WHAT IT READS IS OF BULK AT MOST 1048576: true; the input reads as it did. -/
def fnExactFarthestPairUptoRow : OpenClaim := { program := "ytjlpmlclicemdaa", sum := "b0b183a359f66e93fc51af1d4febfa8797b8042e85d9c66a71e5306efbd430b2", func := "loop.example/g00927/laws.FnExactFarthestPair", spec := "fnExactFarthestPair", apart := false, narrowed := true }
def FnExactFarthestPairUptoSaid : Prop := fnExactFarthestPairUptoRow.holds Try.pinned (OpenSpec.upto fnExactFarthestPairSpec)

/-- 'laws.FnExactTransitionTable', WHERE WHAT IT READS IS OF BULK AT MOST 1048576: true; the input reads as it did. -/
def fnExactTransitionTableUptoRow : OpenClaim := { program := "ytjlpmlclicemdaa", sum := "b0b183a359f66e93fc51af1d4febfa8797b8042e85d9c66a71e5306efbd430b2", func := "loop.example/g00927/laws.FnExactTransitionTable", spec := "fnExactTransitionTable", apart := false, narrowed := true }
def FnExactTransitionTableUptoSaid : Prop := fnExactTransitionTableUptoRow.holds Try.pinned (OpenSpec.upto fnExactTransitionTableSpec)

/-- 'laws.FnExactCenterOf', WHERE WHAT IT READS IS OF BULK AT MOST 1048576: true; the input reads as it did. -/
def fnExactCenterOfUptoRow : OpenClaim := { program := "ytjlpmlclicemdaa", sum := "b0b183a359f66e93fc51af1d4febfa8797b8042e85d9c66a71e5306efbd430b2", func := "loop.example/g00927/laws.FnExactCenterOf", spec := "fnExactCenterOf", apart := false, narrowed := true }
def FnExactCenterOfUptoSaid : Prop := fnExactCenterOfUptoRow.holds Try.pinned (OpenSpec.upto fnExactCenterOfSpec)

/-- 'laws.FnExactFollowGroups', WHERE WHAT IT READS IS OF BULK AT MOST 1048576: true; the input reads as it did. -/
def fnExactFollowGroupsUptoRow : OpenClaim := { program := "ytjlpmlclicemdaa", sum := "b0b183a359f66e93fc51af1d4febfa8797b8042e85d9c66a71e5306efbd430b2", func := "loop.example/g00927/laws.FnExactFollowGroups", spec := "fnExactFollowGroups", apart := false, narrowed := true }
def FnExactFollowGroupsUptoSaid : Prop := fnExactFollowGroupsUptoRow.holds Try.pinned (OpenSpec.upto fnExactFollowGroupsSpec)

/-- 'laws.FnExactShortestTour', WHERE WHAT IT READS IS OF BULK AT MOST 1048576: true; the input reads as it did. -/
def fnExactShortestTourUptoRow : OpenClaim := { program := "ytjlpmlclicemdaa", sum := "b0b183a359f66e93fc51af1d4febfa8797b8042e85d9c66a71e5306efbd430b2", func := "loop.example/g00927/laws.FnExactShortestTour", spec := "fnExactShortestTour", recurses := true, apart := false, narrowed := true }
def FnExactShortestTourUptoSaid : Prop := fnExactShortestTourUptoRow.holds Try.pinned (OpenSpec.upto fnExactShortestTourSpec)

/-- 'laws.FnExactTourPattern', WHERE WHAT IT READS IS OF BULK AT MOST 1048576: true; the input reads as it did. -/
def fnExactTourPatternUptoRow : OpenClaim := { program := "ytjlpmlclicemdaa", sum := "b0b183a359f66e93fc51af1d4febfa8797b8042e85d9c66a71e5306efbd430b2", func := "loop.example/g00927/laws.FnExactTourPattern", spec := "fnExactTourPattern", recurses := true, apart := false, narrowed := true }
def FnExactTourPatternUptoSaid : Prop := fnExactTourPatternUptoRow.holds Try.pinned (OpenSpec.upto fnExactTourPatternSpec)

/-- 'laws.FnExactBridgeTexts', WHERE WHAT IT READS IS OF BULK AT MOST 1048576: true; the input reads as it did. -/
def fnExactBridgeTextsUptoRow : OpenClaim := { program := "ytjlpmlclicemdaa", sum := "b0b183a359f66e93fc51af1d4febfa8797b8042e85d9c66a71e5306efbd430b2", func := "loop.example/g00927/laws.FnExactBridgeTexts", spec := "fnExactBridgeTexts", apart := false, narrowed := true }
def FnExactBridgeTextsUptoSaid : Prop := fnExactBridgeTextsUptoRow.holds Try.pinned (OpenSpec.upto fnExactBridgeTextsSpec)

end Rows
end Go.Proofs.Ytjlpmlclicemdaa

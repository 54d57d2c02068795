/-
  No cell of these rows narrows 'for every input' (looked for: loops, veiled, ifaces, maps, wideKeys, modest, calm, conditions, laid).
  DERIVED. THE GIVEN ROWS OF THIS SEAT. 7 by the template 'for every input the law returns true; each argument reads behind the call as it read before'; 0 by the template 'total and deterministic' (their statements: YtcohceopahhacaaTotals.lean).
  GIVEN WITH THE SEED: the statements are not yours to turn. If you find one false, say at which input.
  Laid BY PROGRAM, IN A SANDBOX (cutbox-rows.mjs): the forced cells as the released guide's own fill.sh prints them over the translation 5846d0d2de7d7f15… (all of the seat's roots in one cut). By AI agents, Wed Nov 11 2026. No macro, syntax, notation, axiom, sorry.
-/
import Derived.Test.YtcohceopahhacaaChecked
import GoSem.Claim
import GoSem.ClaimJoined
import GoSem.ClaimMapViews
import Derived.JoinedTies
import Derived.KernelRfl
namespace Go.Proofs.Ytcohceopahhacaa
/- THE CELL 'sum', in the pinned program and in every row, IS THE sha256 OF THE DUMP (.gsa) THAT YtcohceopahhacaaProg.lean LOADS. Nothing in Lean hashes anything: it is a label: what it is worth is what the hold of that sum in a sandbox is worth. -/
noncomputable def Try.pinned : Pinned := { name := "ytcohceopahhacaa", sum := "5846d0d2de7d7f15a03a6ff0836dd68a4e4b940ae5af2981218fef4401489235", checked := Try.checked }
namespace Rows
def none {H : Type} : Left H := { results := [], args := [] }

/-- 'laws.FnExactStepName': WHATEVER THE INPUT: true; the input reads as it did. -/
def fnExactStepNameSpec : ChangeSpec := { name := "fnExactStepName", fn := fun _ => fun
  | [d] => { results := [.lit (.bool true)], args := [d] }
  | _ => none }
def fnExactStepNameRow : OpenClaim := { program := "ytcohceopahhacaa", sum := "5846d0d2de7d7f15a03a6ff0836dd68a4e4b940ae5af2981218fef4401489235", func := "loop.example/g00927/laws.FnExactStepName", spec := "fnExactStepName", apart := false }
def FnExactStepNameSaid : Prop := fnExactStepNameRow.holds Try.pinned (OpenSpec.ofChange fnExactStepNameSpec)

/-- ITS FALSE NEIGHBOUR: 'it returns false'. Refute it at one input. -/
def fnExactStepNameWrong : ChangeSpec := { name := "fnExactStepName", fn := fun _ => fun
  | [d] => { results := [.lit (.bool false)], args := [d] }
  | _ => none }
def FnExactStepNameWrongFalsely : Prop := fnExactStepNameRow.holds Try.pinned (OpenSpec.ofChange fnExactStepNameWrong)

/-- 'laws.FnExactDeskWords': WHATEVER THE INPUT: true; the input reads as it did. -/
def fnExactDeskWordsSpec : ChangeSpec := { name := "fnExactDeskWords", fn := fun _ => fun
  | [] => { results := [.lit (.bool true)], args := [] }
  | _ => none }
def fnExactDeskWordsRow : OpenClaim := { program := "ytcohceopahhacaa", sum := "5846d0d2de7d7f15a03a6ff0836dd68a4e4b940ae5af2981218fef4401489235", func := "loop.example/g00927/laws.FnExactDeskWords", spec := "fnExactDeskWords", apart := false }
def FnExactDeskWordsSaid : Prop := fnExactDeskWordsRow.holds Try.pinned (OpenSpec.ofChange fnExactDeskWordsSpec)

/-- ITS FALSE NEIGHBOUR: 'it returns false'. Refute it at one input. -/
def fnExactDeskWordsWrong : ChangeSpec := { name := "fnExactDeskWords", fn := fun _ => fun
  | [] => { results := [.lit (.bool false)], args := [] }
  | _ => none }
def FnExactDeskWordsWrongFalsely : Prop := fnExactDeskWordsRow.holds Try.pinned (OpenSpec.ofChange fnExactDeskWordsWrong)

/-- 'laws.FnExactNewDesk': WHATEVER THE INPUT: true; the input reads as it did. -/
def fnExactNewDeskSpec : ChangeSpec := { name := "fnExactNewDesk", fn := fun _ => fun
  | [] => { results := [.lit (.bool true)], args := [] }
  | _ => none }
def fnExactNewDeskRow : OpenClaim := { program := "ytcohceopahhacaa", sum := "5846d0d2de7d7f15a03a6ff0836dd68a4e4b940ae5af2981218fef4401489235", func := "loop.example/g00927/laws.FnExactNewDesk", spec := "fnExactNewDesk", apart := false }
def FnExactNewDeskSaid : Prop := fnExactNewDeskRow.holds Try.pinned (OpenSpec.ofChange fnExactNewDeskSpec)

/-- ITS FALSE NEIGHBOUR: 'it returns false'. Refute it at one input. -/
def fnExactNewDeskWrong : ChangeSpec := { name := "fnExactNewDesk", fn := fun _ => fun
  | [] => { results := [.lit (.bool false)], args := [] }
  | _ => none }
def FnExactNewDeskWrongFalsely : Prop := fnExactNewDeskRow.holds Try.pinned (OpenSpec.ofChange fnExactNewDeskWrong)

/-- 'laws.FnExactThrowsFrom': WHATEVER THE INPUT: true; the input reads as it did. -/
def fnExactThrowsFromSpec : ChangeSpec := { name := "fnExactThrowsFrom", fn := fun _ => fun
  | [d] => { results := [.lit (.bool true)], args := [d] }
  | _ => none }
def fnExactThrowsFromRow : OpenClaim := { program := "ytcohceopahhacaa", sum := "5846d0d2de7d7f15a03a6ff0836dd68a4e4b940ae5af2981218fef4401489235", func := "loop.example/g00927/laws.FnExactThrowsFrom", spec := "fnExactThrowsFrom", apart := false }
def FnExactThrowsFromSaid : Prop := fnExactThrowsFromRow.holds Try.pinned (OpenSpec.ofChange fnExactThrowsFromSpec)

/-- ITS FALSE NEIGHBOUR: 'it returns false'. Refute it at one input. -/
def fnExactThrowsFromWrong : ChangeSpec := { name := "fnExactThrowsFrom", fn := fun _ => fun
  | [d] => { results := [.lit (.bool false)], args := [d] }
  | _ => none }
def FnExactThrowsFromWrongFalsely : Prop := fnExactThrowsFromRow.holds Try.pinned (OpenSpec.ofChange fnExactThrowsFromWrong)

/-- 'laws.FnExactSameDesk': WHATEVER THE INPUT: true; the input reads as it did. -/
def fnExactSameDeskSpec : ChangeSpec := { name := "fnExactSameDesk", fn := fun _ => fun
  | [d1, d2] => { results := [.lit (.bool true)], args := [d1, d2] }
  | _ => none }
def fnExactSameDeskRow : OpenClaim := { program := "ytcohceopahhacaa", sum := "5846d0d2de7d7f15a03a6ff0836dd68a4e4b940ae5af2981218fef4401489235", func := "loop.example/g00927/laws.FnExactSameDesk", spec := "fnExactSameDesk", apart := false }
def FnExactSameDeskSaid : Prop := fnExactSameDeskRow.holds Try.pinned (OpenSpec.ofChange fnExactSameDeskSpec)

/-- ITS FALSE NEIGHBOUR: 'it returns false'. Refute it at one input. -/
def fnExactSameDeskWrong : ChangeSpec := { name := "fnExactSameDesk", fn := fun _ => fun
  | [d1, d2] => { results := [.lit (.bool false)], args := [d1, d2] }
  | _ => none }
def FnExactSameDeskWrongFalsely : Prop := fnExactSameDeskRow.holds Try.pinned (OpenSpec.ofChange fnExactSameDeskWrong)

/-- 'laws.FnExactSameFrame': WHATEVER THE INPUT: true; the input reads as it did. -/
def fnExactSameFrameSpec : ChangeSpec := { name := "fnExactSameFrame", fn := fun _ => fun
  | [d1, d2] => { results := [.lit (.bool true)], args := [d1, d2] }
  | _ => none }
def fnExactSameFrameRow : OpenClaim := { program := "ytcohceopahhacaa", sum := "5846d0d2de7d7f15a03a6ff0836dd68a4e4b940ae5af2981218fef4401489235", func := "loop.example/g00927/laws.FnExactSameFrame", spec := "fnExactSameFrame", apart := false }
def FnExactSameFrameSaid : Prop := fnExactSameFrameRow.holds Try.pinned (OpenSpec.ofChange fnExactSameFrameSpec)

/-- ITS FALSE NEIGHBOUR: 'it returns false'. Refute it at one input. -/
def fnExactSameFrameWrong : ChangeSpec := { name := "fnExactSameFrame", fn := fun _ => fun
  | [d1, d2] => { results := [.lit (.bool false)], args := [d1, d2] }
  | _ => none }
def FnExactSameFrameWrongFalsely : Prop := fnExactSameFrameRow.holds Try.pinned (OpenSpec.ofChange fnExactSameFrameWrong)

/-- 'laws.FnExactValidDesk': WHATEVER THE INPUT: true; the input reads as it did. -/
def fnExactValidDeskSpec : ChangeSpec := { name := "fnExactValidDesk", fn := fun _ => fun
  | [d] => { results := [.lit (.bool true)], args := [d] }
  | _ => none }
def fnExactValidDeskRow : OpenClaim := { program := "ytcohceopahhacaa", sum := "5846d0d2de7d7f15a03a6ff0836dd68a4e4b940ae5af2981218fef4401489235", func := "loop.example/g00927/laws.FnExactValidDesk", spec := "fnExactValidDesk", apart := false }
def FnExactValidDeskSaid : Prop := fnExactValidDeskRow.holds Try.pinned (OpenSpec.ofChange fnExactValidDeskSpec)

/-- ITS FALSE NEIGHBOUR: 'it returns false'. Refute it at one input. -/
def fnExactValidDeskWrong : ChangeSpec := { name := "fnExactValidDesk", fn := fun _ => fun
  | [d] => { results := [.lit (.bool false)], args := [d] }
  | _ => none }
def FnExactValidDeskWrongFalsely : Prop := fnExactValidDeskRow.holds Try.pinned (OpenSpec.ofChange fnExactValidDeskWrong)

/- THE SECOND FORM. 'bulk': how many values and letters a reading holds, each counted each time it is reached (what is shared counts as often as it is met; a slice's spare places count too). A statement '..UptoSaid' is the law's where the arguments, and the package variables that the reading takes, are together of bulk at most 1048576: NARROWER than '..Said'. Prove '..Said' where nothing that the law and all that it calls make is longer than what came in: it says more and counts as full. Else prove '..UptoSaid'. A law counts once. -/
mutual
def uptoBulk {H : Type} : DataW H → Nat
  | .lit (.string bytes) => bytes.length + 1
  | .lit _ => 1
  | .nil => 1
  | .ptr d => uptoBulk d + 1
  | .slice elems spare => uptoBulkAll elems + uptoBulkAll spare + 1
  | .agg parts => uptoBulkAll parts + 1
  | .iface _ d => uptoBulk d + 1
  | .map entries => uptoBulkEntries entries + 1
  | .held _ => 1
def uptoBulkAll {H : Type} : List (DataW H) → Nat
  | [] => 0
  | d :: r => uptoBulk d + uptoBulkAll r
def uptoBulkEntries {H : Type} : List (Lit × DataW H) → Nat
  | [] => 0
  | x :: r => uptoBulkEntry x + uptoBulkEntries r
def uptoBulkEntry {H : Type} : Lit × DataW H → Nat
  | (.string bytes, d) => bytes.length + uptoBulk d + 1
  | (_, d) => uptoBulk d + 1
 end
def uptoSmall : (H : Type) → List (DataW H) → Bool := fun _ ds => decide (uptoBulkAll ds ≤ 1048576)
def OpenSpec.upto (s : _root_.Go.ChangeSpec) : _root_.Go.OpenSpec := { _root_.Go.OpenSpec.ofChange s with cond := some uptoSmall }

/-- 'laws.FnExactStepName', WHERE WHAT IT READS IS OF BULK AT MOST 1048576: true; the input reads as it did. -/
def fnExactStepNameUptoRow : OpenClaim := { program := "ytcohceopahhacaa", sum := "5846d0d2de7d7f15a03a6ff0836dd68a4e4b940ae5af2981218fef4401489235", func := "loop.example/g00927/laws.FnExactStepName", spec := "fnExactStepName", apart := false, narrowed := true }
def FnExactStepNameUptoSaid : Prop := fnExactStepNameUptoRow.holds Try.pinned (OpenSpec.upto fnExactStepNameSpec)

/-- 'laws.FnExactDeskWords', WHERE WHAT IT READS IS OF BULK AT MOST 1048576: true; the input reads as it did. -/
def fnExactDeskWordsUptoRow : OpenClaim := { program := "ytcohceopahhacaa", sum := "5846d0d2de7d7f15a03a6ff0836dd68a4e4b940ae5af2981218fef4401489235", func := "loop.example/g00927/laws.FnExactDeskWords", spec := "fnExactDeskWords", apart := false, narrowed := true }
def FnExactDeskWordsUptoSaid : Prop := fnExactDeskWordsUptoRow.holds Try.pinned (OpenSpec.upto fnExactDeskWordsSpec)

/-- 'laws.FnExactNewDesk', WHERE WHAT IT READS IS OF BULK AT MOST 1048576: true; the input reads as it did. -/
def fnExactNewDeskUptoRow : OpenClaim := { program := "ytcohceopahhacaa", sum := "5846d0d2de7d7f15a03a6ff0836dd68a4e4b940ae5af2981218fef4401489235", func := "loop.example/g00927/laws.FnExactNewDesk", spec := "fnExactNewDesk", apart := false, narrowed := true }
def FnExactNewDeskUptoSaid : Prop := fnExactNewDeskUptoRow.holds Try.pinned (OpenSpec.upto fnExactNewDeskSpec)

/-- 'laws.FnExactThrowsFrom', WHERE WHAT IT READS IS OF BULK AT MOST 1048576: true; the input reads as it did. -/
def fnExactThrowsFromUptoRow : OpenClaim := { program := "ytcohceopahhacaa", sum := "5846d0d2de7d7f15a03a6ff0836dd68a4e4b940ae5af2981218fef4401489235", func := "loop.example/g00927/laws.FnExactThrowsFrom", spec := "fnExactThrowsFrom", apart := false, narrowed := true }
def FnExactThrowsFromUptoSaid : Prop := fnExactThrowsFromUptoRow.holds Try.pinned (OpenSpec.upto fnExactThrowsFromSpec)

/-- 'laws.FnExactSameDesk', WHERE WHAT IT READS IS OF BULK AT MOST 1048576: true; the input reads as it did. -/
def fnExactSameDeskUptoRow : OpenClaim := { program := "ytcohceopahhacaa", sum := "5846d0d2de7d7f15a03a6ff0836dd68a4e4b940ae5af2981218fef4401489235", func := "loop.example/g00927/laws.FnExactSameDesk", spec := "fnExactSameDesk", apart := false, narrowed := true }
def FnExactSameDeskUptoSaid : Prop := fnExactSameDeskUptoRow.holds Try.pinned (OpenSpec.upto fnExactSameDeskSpec)

/-- 'laws.FnExactSameFrame', WHERE WHAT IT READS IS OF BULK AT MOST 1048576: true; the input reads as it did. -/
def fnExactSameFrameUptoRow : OpenClaim := { program := "ytcohceopahhacaa", sum := "5846d0d2de7d7f15a03a6ff0836dd68a4e4b940ae5af2981218fef4401489235", func := "loop.example/g00927/laws.FnExactSameFrame", spec := "fnExactSameFrame", apart := false, narrowed := true }
def FnExactSameFrameUptoSaid : Prop := fnExactSameFrameUptoRow.holds Try.pinned (OpenSpec.upto fnExactSameFrameSpec)

/-- 'laws.FnExactValidDesk', WHERE WHAT IT READS IS OF BULK AT MOST 1048576: true; the input reads as it did. -/
def fnExactValidDeskUptoRow : OpenClaim := { program := "ytcohceopahhacaa", sum := "5846d0d2de7d7f15a03a6ff0836dd68a4e4b940ae5af2981218fef4401489235", func := "loop.example/g00927/laws.FnExactValidDesk", spec := "fnExactValidDesk", apart := false, narrowed := true }
def FnExactValidDeskUptoSaid : Prop := fnExactValidDeskUptoRow.holds Try.pinned (OpenSpec.upto fnExactValidDeskSpec)

end Rows
end Go.Proofs.Ytcohceopahhacaa

/-
  DERIVED. GIVEN WITH THE SEED: THE CARDS: each row of YtjokodlappeapaaGreatDoorRows.lean that lists a variable, with what it lists TIED to the program's text (the seventh form; the later family's looks); each row that meets fmt, with fmt's text TOLD by the authors' own Lean function (tested against real Go, not proved from fmt's source: count such statements apart). THE CARD IS WHAT COUNTS. Prove the row's statement (the work); the ties are given (YtjokodlappeapaaGreatDoorTie.lean); close each card by the builder's one call (the guide's Derived/Test/ToyasCard.lean, 'card_holds'). Laid BY PROGRAM, IN A SANDBOX (cutbox-door.mjs). By AI agents, Wed Nov 11 2026. No macro, syntax, notation, axiom, sorry.
-/
import Derived.Test.YtjokodlappeapaaGreatDoorRows
import GoSem.ClaimSeven
namespace Go.Proofs.YtjokodlappeapaaGreatDoor
namespace Rows

/-- THE TIED CARD OF 'laws.FnExactRoutineLines'. -/
def fnExactRoutineLinesCard : Claim7 := { stood := { row := fnExactRoutineLinesRow, standIns := [], harness := (true, "0090d6e2fffba66c3a49fb1c23799aef62b55e646995f5b930230e0b627cdbba"), looks := false }, kinds := [], alts := [], laidByText := true, laidKinds := [.data, .data, .data], laidTests := true, laidLooks := .later }
def FnExactRoutineLinesCardSaid : Prop := Claim7.holds Tryz.pinned (.plain (OpenSpec.ofChange fnExactRoutineLinesSpec)) fnExactRoutineLinesCard

/-- THE TIED CARD OF 'laws.FnWritten'. -/
def fnWrittenCard : Claim7 := { stood := { row := fnWrittenRow, standIns := [], harness := (true, "0090d6e2fffba66c3a49fb1c23799aef62b55e646995f5b930230e0b627cdbba"), looks := false }, kinds := [], alts := [], laidByText := true, laidKinds := [.data, .data, .data], laidTests := true, laidLooks := .later }
def FnWrittenCardSaid : Prop := Claim7.holds Tryz.pinned (.plain (OpenSpec.ofChange fnWrittenSpec)) fnWrittenCard

/-- THE TIED CARD OF 'laws.FnLines'. -/
def fnLinesCard : Claim7 := { stood := { row := fnLinesRow, standIns := [], harness := (true, "0090d6e2fffba66c3a49fb1c23799aef62b55e646995f5b930230e0b627cdbba"), looks := false }, kinds := [], alts := [], laidByText := true, laidKinds := [.data, .data, .data], laidTests := true, laidLooks := .later }
def FnLinesCardSaid : Prop := Claim7.holds Tryz.pinned (.plain (OpenSpec.ofChange fnLinesSpec)) fnLinesCard

/-- THE SECOND FORM's CARD OF 'laws.FnExactRoutineLines'. -/
def fnExactRoutineLinesUptoCard : Claim7 := { stood := { row := fnExactRoutineLinesUptoRow, standIns := [], harness := (true, "0090d6e2fffba66c3a49fb1c23799aef62b55e646995f5b930230e0b627cdbba"), looks := false }, kinds := [], alts := [], laidByText := true, laidKinds := [.data, .data, .data], laidTests := true, laidLooks := .later }
def FnExactRoutineLinesUptoCardSaid : Prop := Claim7.holds Tryz.pinned (.plain (OpenSpec.upto fnExactRoutineLinesSpec)) fnExactRoutineLinesUptoCard

/-- THE SECOND FORM's CARD OF 'laws.FnWritten'. -/
def fnWrittenUptoCard : Claim7 := { stood := { row := fnWrittenUptoRow, standIns := [], harness := (true, "0090d6e2fffba66c3a49fb1c23799aef62b55e646995f5b930230e0b627cdbba"), looks := false }, kinds := [], alts := [], laidByText := true, laidKinds := [.data, .data, .data], laidTests := true, laidLooks := .later }
def FnWrittenUptoCardSaid : Prop := Claim7.holds Tryz.pinned (.plain (OpenSpec.upto fnWrittenSpec)) fnWrittenUptoCard

/-- THE SECOND FORM's CARD OF 'laws.FnLines'. -/
def fnLinesUptoCard : Claim7 := { stood := { row := fnLinesUptoRow, standIns := [], harness := (true, "0090d6e2fffba66c3a49fb1c23799aef62b55e646995f5b930230e0b627cdbba"), looks := false }, kinds := [], alts := [], laidByText := true, laidKinds := [.data, .data, .data], laidTests := true, laidLooks := .later }
def FnLinesUptoCardSaid : Prop := Claim7.holds Tryz.pinned (.plain (OpenSpec.upto fnLinesSpec)) fnLinesUptoCard
end Rows
end Go.Proofs.YtjokodlappeapaaGreatDoor

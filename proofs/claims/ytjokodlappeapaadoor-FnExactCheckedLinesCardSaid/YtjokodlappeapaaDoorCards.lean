/-
  DERIVED. GIVEN WITH THE SEED: THE CARDS: each row of YtjokodlappeapaaDoorRows.lean that lists a variable, with what it lists TIED to the program's text (the seventh form; the later family's looks); each row that meets fmt, with fmt's text TOLD by the authors' own Lean function (tested against real Go, not proved from fmt's source: count such statements apart). THE CARD IS WHAT COUNTS. Prove the row's statement (the work); the ties are given (YtjokodlappeapaaDoorTie.lean); close each card by the builder's one call (the guide's Derived/Test/ToyasCard.lean, 'card_holds'). Laid BY PROGRAM, IN A SANDBOX (cutbox-door.mjs). By AI agents, Wed Nov 11 2026. No macro, syntax, notation, axiom, sorry.
-/
import Derived.Test.YtjokodlappeapaaDoorRows
import GoSem.ClaimSeven
namespace Go.Proofs.YtjokodlappeapaaDoor
namespace Rows

/-- THE TIED CARD OF 'laws.FnExactCheckLines'. -/
def fnExactCheckLinesCard : Claim7 := { stood := { row := fnExactCheckLinesRow, standIns := [], harness := (true, "623f45ce0ebc0fed54cecfd471a18d9adbd8158c9b8b422e14cc722503b85183"), looks := false }, kinds := [], alts := [], laidByText := true, laidKinds := [.data, .data, .data], laidTests := true, laidLooks := .later }
def FnExactCheckLinesCardSaid : Prop := Claim7.holds Tryd.pinned (.plain (OpenSpec.ofChange fnExactCheckLinesSpec)) fnExactCheckLinesCard

/-- THE TIED CARD OF 'laws.FnExactReplayLines'. -/
def fnExactReplayLinesCard : Claim7 := { stood := { row := fnExactReplayLinesRow, standIns := [], harness := (true, "623f45ce0ebc0fed54cecfd471a18d9adbd8158c9b8b422e14cc722503b85183"), looks := false }, kinds := [], alts := [], laidByText := true, laidKinds := [.data, .data, .data], laidTests := true, laidLooks := .later }
def FnExactReplayLinesCardSaid : Prop := Claim7.holds Tryd.pinned (.plain (OpenSpec.ofChange fnExactReplayLinesSpec)) fnExactReplayLinesCard

/-- THE TIED CARD OF 'laws.FnExactThrowsOf'. -/
def fnExactThrowsOfCard : Claim7 := { stood := { row := fnExactThrowsOfRow, standIns := [], harness := (true, "623f45ce0ebc0fed54cecfd471a18d9adbd8158c9b8b422e14cc722503b85183"), looks := false }, kinds := [], alts := [], laidByText := true, laidKinds := [.data, .data, .data], laidTests := true, laidLooks := .later }
def FnExactThrowsOfCardSaid : Prop := Claim7.holds Tryd.pinned (.plain (OpenSpec.ofChange fnExactThrowsOfSpec)) fnExactThrowsOfCard

/-- THE TIED CARD OF 'laws.FnExactPlainLines'. -/
def fnExactPlainLinesCard : Claim7 := { stood := { row := fnExactPlainLinesRow, standIns := [], harness := (true, "623f45ce0ebc0fed54cecfd471a18d9adbd8158c9b8b422e14cc722503b85183"), looks := false }, kinds := [], alts := [], laidByText := true, laidKinds := [.data, .data, .data], laidTests := true, laidLooks := .later }
def FnExactPlainLinesCardSaid : Prop := Claim7.holds Tryd.pinned (.plain (OpenSpec.ofChange fnExactPlainLinesSpec)) fnExactPlainLinesCard

/-- THE TIED CARD OF 'laws.FnExactCheckedLines'. -/
def fnExactCheckedLinesCard : Claim7 := { stood := { row := fnExactCheckedLinesRow, standIns := [], harness := (true, "623f45ce0ebc0fed54cecfd471a18d9adbd8158c9b8b422e14cc722503b85183"), looks := false }, kinds := [], alts := [], laidByText := true, laidKinds := [.data, .data, .data], laidTests := true, laidLooks := .later }
def FnExactCheckedLinesCardSaid : Prop := Claim7.holds Tryd.pinned (.plain (OpenSpec.ofChange fnExactCheckedLinesSpec)) fnExactCheckedLinesCard

/-- THE TIED CARD OF 'laws.FnTransitions'. -/
def fnTransitionsCard : Claim7 := { stood := { row := fnTransitionsRow, standIns := [], harness := (true, "623f45ce0ebc0fed54cecfd471a18d9adbd8158c9b8b422e14cc722503b85183"), looks := false }, kinds := [], alts := [], laidByText := true, laidKinds := [.data, .data, .data], laidTests := true, laidLooks := .later }
def FnTransitionsCardSaid : Prop := Claim7.holds Tryd.pinned (.plain (OpenSpec.ofChange fnTransitionsSpec)) fnTransitionsCard

/-- THE SECOND FORM's CARD OF 'laws.FnExactCheckLines'. -/
def fnExactCheckLinesUptoCard : Claim7 := { stood := { row := fnExactCheckLinesUptoRow, standIns := [], harness := (true, "623f45ce0ebc0fed54cecfd471a18d9adbd8158c9b8b422e14cc722503b85183"), looks := false }, kinds := [], alts := [], laidByText := true, laidKinds := [.data, .data, .data], laidTests := true, laidLooks := .later }
def FnExactCheckLinesUptoCardSaid : Prop := Claim7.holds Tryd.pinned (.plain (OpenSpec.upto fnExactCheckLinesSpec)) fnExactCheckLinesUptoCard

/-- THE SECOND FORM's CARD OF 'laws.FnExactReplayLines'. -/
def fnExactReplayLinesUptoCard : Claim7 := { stood := { row := fnExactReplayLinesUptoRow, standIns := [], harness := (true, "623f45ce0ebc0fed54cecfd471a18d9adbd8158c9b8b422e14cc722503b85183"), looks := false }, kinds := [], alts := [], laidByText := true, laidKinds := [.data, .data, .data], laidTests := true, laidLooks := .later }
def FnExactReplayLinesUptoCardSaid : Prop := Claim7.holds Tryd.pinned (.plain (OpenSpec.upto fnExactReplayLinesSpec)) fnExactReplayLinesUptoCard

/-- THE SECOND FORM's CARD OF 'laws.FnExactThrowsOf'. -/
def fnExactThrowsOfUptoCard : Claim7 := { stood := { row := fnExactThrowsOfUptoRow, standIns := [], harness := (true, "623f45ce0ebc0fed54cecfd471a18d9adbd8158c9b8b422e14cc722503b85183"), looks := false }, kinds := [], alts := [], laidByText := true, laidKinds := [.data, .data, .data], laidTests := true, laidLooks := .later }
def FnExactThrowsOfUptoCardSaid : Prop := Claim7.holds Tryd.pinned (.plain (OpenSpec.upto fnExactThrowsOfSpec)) fnExactThrowsOfUptoCard

/-- THE SECOND FORM's CARD OF 'laws.FnExactPlainLines'. -/
def fnExactPlainLinesUptoCard : Claim7 := { stood := { row := fnExactPlainLinesUptoRow, standIns := [], harness := (true, "623f45ce0ebc0fed54cecfd471a18d9adbd8158c9b8b422e14cc722503b85183"), looks := false }, kinds := [], alts := [], laidByText := true, laidKinds := [.data, .data, .data], laidTests := true, laidLooks := .later }
def FnExactPlainLinesUptoCardSaid : Prop := Claim7.holds Tryd.pinned (.plain (OpenSpec.upto fnExactPlainLinesSpec)) fnExactPlainLinesUptoCard

/-- THE SECOND FORM's CARD OF 'laws.FnExactCheckedLines'. -/
def fnExactCheckedLinesUptoCard : Claim7 := { stood := { row := fnExactCheckedLinesUptoRow, standIns := [], harness := (true, "623f45ce0ebc0fed54cecfd471a18d9adbd8158c9b8b422e14cc722503b85183"), looks := false }, kinds := [], alts := [], laidByText := true, laidKinds := [.data, .data, .data], laidTests := true, laidLooks := .later }
def FnExactCheckedLinesUptoCardSaid : Prop := Claim7.holds Tryd.pinned (.plain (OpenSpec.upto fnExactCheckedLinesSpec)) fnExactCheckedLinesUptoCard

/-- THE SECOND FORM's CARD OF 'laws.FnTransitions'. -/
def fnTransitionsUptoCard : Claim7 := { stood := { row := fnTransitionsUptoRow, standIns := [], harness := (true, "623f45ce0ebc0fed54cecfd471a18d9adbd8158c9b8b422e14cc722503b85183"), looks := false }, kinds := [], alts := [], laidByText := true, laidKinds := [.data, .data, .data], laidTests := true, laidLooks := .later }
def FnTransitionsUptoCardSaid : Prop := Claim7.holds Tryd.pinned (.plain (OpenSpec.upto fnTransitionsSpec)) fnTransitionsUptoCard
end Rows
end Go.Proofs.YtjokodlappeapaaDoor

/-
  DERIVED. GIVEN WITH THE SEED: THE CARDS: each row of YtijninlbpifonaaGreatDoorRows.lean that lists a variable, with what it lists TIED to the program's text (the seventh form; the later family's looks); each row that meets fmt, with fmt's text TOLD by the authors' own Lean function (tested against real Go, not proved from fmt's source: count such statements apart). THE CARD IS WHAT COUNTS. Prove the row's statement (the work); the ties are given (YtijninlbpifonaaGreatDoorTie.lean); close each card by the builder's one call (the guide's Derived/Test/ToyasCard.lean, 'card_holds'). Laid BY PROGRAM, IN A SANDBOX (cutbox-door.mjs). By AI agents, Wed Nov 11 2026. No macro, syntax, notation, axiom, sorry.
-/
import Derived.Test.YtijninlbpifonaaGreatDoorRows
import GoSem.ClaimSeven
namespace Go.Proofs.YtijninlbpifonaaGreatDoor
namespace Rows

/-- THE TIED CARD OF 'laws.FnExactMend'. -/
def fnExactMendCard : Claim7 := { stood := { row := fnExactMendRow, standIns := [], harness := (true, "9cec93d35b2b003afe98c27da84898216d01a699745b89d9f5b053ef0fdf8389"), looks := true }, kinds := [], alts := [], laidByText := true, laidKinds := [.data, .data, .data, .data, .sentinel, .sentinel, .pinned], laidTests := true, laidLooks := .later }
def FnExactMendCardSaid : Prop := Claim7.holds Tryz.pinned (.plain (OpenSpec.ofChange fnExactMendSpec)) fnExactMendCard

/-- THE TIED CARD OF 'laws.FnExactPrune'. -/
def fnExactPruneCard : Claim7 := { stood := { row := fnExactPruneRow, standIns := [], harness := (true, "9cec93d35b2b003afe98c27da84898216d01a699745b89d9f5b053ef0fdf8389"), looks := true }, kinds := [], alts := [], laidByText := true, laidKinds := [.data, .data, .data, .data, .sentinel, .sentinel, .pinned], laidTests := true, laidLooks := .later }
def FnExactPruneCardSaid : Prop := Claim7.holds Tryz.pinned (.plain (OpenSpec.ofChange fnExactPruneSpec)) fnExactPruneCard

/-- THE TIED CARD OF 'laws.FnExactChanges'. -/
def fnExactChangesCard : Claim7 := { stood := { row := fnExactChangesRow, standIns := [], harness := (true, "9cec93d35b2b003afe98c27da84898216d01a699745b89d9f5b053ef0fdf8389"), looks := true }, kinds := [], alts := [], laidByText := true, laidKinds := [.data, .data, .data, .data, .sentinel, .sentinel, .pinned], laidTests := true, laidLooks := .later }
def FnExactChangesCardSaid : Prop := Claim7.holds Tryz.pinned (.plain (OpenSpec.ofChange fnExactChangesSpec)) fnExactChangesCard

/-- THE TIED CARD OF 'laws.FnReach'. -/
def fnReachCard : Claim7 := { stood := { row := fnReachRow, standIns := [], harness := (true, "9cec93d35b2b003afe98c27da84898216d01a699745b89d9f5b053ef0fdf8389"), looks := true }, kinds := [], alts := [], laidByText := true, laidKinds := [.data, .data, .data, .data, .sentinel, .sentinel, .pinned], laidTests := true, laidLooks := .later }
def FnReachCardSaid : Prop := Claim7.holds Tryz.pinned (.plain (OpenSpec.ofChange fnReachSpec)) fnReachCard

/-- THE TIED CARD OF 'laws.FnExactTogether'. -/
def fnExactTogetherCard : Claim7 := { stood := { row := fnExactTogetherRow, standIns := [], harness := (true, "9cec93d35b2b003afe98c27da84898216d01a699745b89d9f5b053ef0fdf8389"), looks := true }, kinds := [], alts := [], laidByText := true, laidKinds := [.data, .data, .data, .data, .sentinel, .sentinel, .pinned], laidTests := true, laidLooks := .later }
def FnExactTogetherCardSaid : Prop := Claim7.holds Tryz.pinned (.plain (OpenSpec.ofChange fnExactTogetherSpec)) fnExactTogetherCard

/-- THE TIED CARD OF 'laws.FnTogether'. -/
def fnTogetherCard : Claim7 := { stood := { row := fnTogetherRow, standIns := [], harness := (true, "9cec93d35b2b003afe98c27da84898216d01a699745b89d9f5b053ef0fdf8389"), looks := true }, kinds := [], alts := [], laidByText := true, laidKinds := [.data, .data, .data, .data, .sentinel, .sentinel, .pinned], laidTests := true, laidLooks := .later }
def FnTogetherCardSaid : Prop := Claim7.holds Tryz.pinned (.plain (OpenSpec.ofChange fnTogetherSpec)) fnTogetherCard

/-- THE TIED CARD OF 'laws.FnReplace'. -/
def fnReplaceCard : Claim7 := { stood := { row := fnReplaceRow, standIns := [], harness := (true, "9cec93d35b2b003afe98c27da84898216d01a699745b89d9f5b053ef0fdf8389"), looks := true }, kinds := [], alts := [], laidByText := true, laidKinds := [.data, .data, .data, .data, .sentinel, .sentinel, .pinned], laidTests := true, laidLooks := .later }
def FnReplaceCardSaid : Prop := Claim7.holds Tryz.pinned (.plain (OpenSpec.ofChange fnReplaceSpec)) fnReplaceCard

/-- THE TIED CARD OF 'laws.FnChanges'. -/
def fnChangesCard : Claim7 := { stood := { row := fnChangesRow, standIns := [], harness := (true, "9cec93d35b2b003afe98c27da84898216d01a699745b89d9f5b053ef0fdf8389"), looks := true }, kinds := [], alts := [], laidByText := true, laidKinds := [.data, .data, .data, .data, .sentinel, .sentinel, .pinned], laidTests := true, laidLooks := .later }
def FnChangesCardSaid : Prop := Claim7.holds Tryz.pinned (.plain (OpenSpec.ofChange fnChangesSpec)) fnChangesCard

/-- THE TIED CARD OF 'laws.FnAudit'. -/
def fnAuditCard : Claim7 := { stood := { row := fnAuditRow, standIns := [], harness := (true, "9cec93d35b2b003afe98c27da84898216d01a699745b89d9f5b053ef0fdf8389"), looks := true }, kinds := [], alts := [], laidByText := true, laidKinds := [.data, .data, .data, .data, .sentinel, .sentinel, .pinned], laidTests := true, laidLooks := .later }
def FnAuditCardSaid : Prop := Claim7.holds Tryz.pinned (.plain (OpenSpec.ofChange fnAuditSpec)) fnAuditCard

/-- THE TIED CARD OF 'laws.FnExactProject'. -/
def fnExactProjectCard : Claim7 := { stood := { row := fnExactProjectRow, standIns := [], harness := (true, "9cec93d35b2b003afe98c27da84898216d01a699745b89d9f5b053ef0fdf8389"), looks := true }, kinds := [], alts := [], laidByText := true, laidKinds := [.data, .data, .data, .data, .sentinel, .sentinel, .pinned], laidTests := true, laidLooks := .later }
def FnExactProjectCardSaid : Prop := Claim7.holds Tryz.pinned (.plain (OpenSpec.ofChange fnExactProjectSpec)) fnExactProjectCard

/-- THE TIED CARD OF 'laws.FnExactLossy'. -/
def fnExactLossyCard : Claim7 := { stood := { row := fnExactLossyRow, standIns := [], harness := (true, "9cec93d35b2b003afe98c27da84898216d01a699745b89d9f5b053ef0fdf8389"), looks := true }, kinds := [], alts := [], laidByText := true, laidKinds := [.data, .data, .data, .data, .sentinel, .sentinel, .pinned], laidTests := true, laidLooks := .later }
def FnExactLossyCardSaid : Prop := Claim7.holds Tryz.pinned (.plain (OpenSpec.ofChange fnExactLossySpec)) fnExactLossyCard

/-- THE TIED CARD OF 'laws.FnProject'. -/
def fnProjectCard : Claim7 := { stood := { row := fnProjectRow, standIns := [], harness := (true, "9cec93d35b2b003afe98c27da84898216d01a699745b89d9f5b053ef0fdf8389"), looks := true }, kinds := [], alts := [], laidByText := true, laidKinds := [.data, .data, .data, .data, .sentinel, .sentinel, .pinned], laidTests := true, laidLooks := .later }
def FnProjectCardSaid : Prop := Claim7.holds Tryz.pinned (.plain (OpenSpec.ofChange fnProjectSpec)) fnProjectCard

/-- THE SECOND FORM's CARD OF 'laws.FnExactMend'. -/
def fnExactMendUptoCard : Claim7 := { stood := { row := fnExactMendUptoRow, standIns := [], harness := (true, "9cec93d35b2b003afe98c27da84898216d01a699745b89d9f5b053ef0fdf8389"), looks := true }, kinds := [], alts := [], laidByText := true, laidKinds := [.data, .data, .data, .data, .sentinel, .sentinel, .pinned], laidTests := true, laidLooks := .later }
def FnExactMendUptoCardSaid : Prop := Claim7.holds Tryz.pinned (.plain (OpenSpec.upto fnExactMendSpec)) fnExactMendUptoCard

/-- THE SECOND FORM's CARD OF 'laws.FnExactPrune'. -/
def fnExactPruneUptoCard : Claim7 := { stood := { row := fnExactPruneUptoRow, standIns := [], harness := (true, "9cec93d35b2b003afe98c27da84898216d01a699745b89d9f5b053ef0fdf8389"), looks := true }, kinds := [], alts := [], laidByText := true, laidKinds := [.data, .data, .data, .data, .sentinel, .sentinel, .pinned], laidTests := true, laidLooks := .later }
def FnExactPruneUptoCardSaid : Prop := Claim7.holds Tryz.pinned (.plain (OpenSpec.upto fnExactPruneSpec)) fnExactPruneUptoCard

/-- THE SECOND FORM's CARD OF 'laws.FnExactChanges'. -/
def fnExactChangesUptoCard : Claim7 := { stood := { row := fnExactChangesUptoRow, standIns := [], harness := (true, "9cec93d35b2b003afe98c27da84898216d01a699745b89d9f5b053ef0fdf8389"), looks := true }, kinds := [], alts := [], laidByText := true, laidKinds := [.data, .data, .data, .data, .sentinel, .sentinel, .pinned], laidTests := true, laidLooks := .later }
def FnExactChangesUptoCardSaid : Prop := Claim7.holds Tryz.pinned (.plain (OpenSpec.upto fnExactChangesSpec)) fnExactChangesUptoCard

/-- THE SECOND FORM's CARD OF 'laws.FnReach'. -/
def fnReachUptoCard : Claim7 := { stood := { row := fnReachUptoRow, standIns := [], harness := (true, "9cec93d35b2b003afe98c27da84898216d01a699745b89d9f5b053ef0fdf8389"), looks := true }, kinds := [], alts := [], laidByText := true, laidKinds := [.data, .data, .data, .data, .sentinel, .sentinel, .pinned], laidTests := true, laidLooks := .later }
def FnReachUptoCardSaid : Prop := Claim7.holds Tryz.pinned (.plain (OpenSpec.upto fnReachSpec)) fnReachUptoCard

/-- THE SECOND FORM's CARD OF 'laws.FnExactTogether'. -/
def fnExactTogetherUptoCard : Claim7 := { stood := { row := fnExactTogetherUptoRow, standIns := [], harness := (true, "9cec93d35b2b003afe98c27da84898216d01a699745b89d9f5b053ef0fdf8389"), looks := true }, kinds := [], alts := [], laidByText := true, laidKinds := [.data, .data, .data, .data, .sentinel, .sentinel, .pinned], laidTests := true, laidLooks := .later }
def FnExactTogetherUptoCardSaid : Prop := Claim7.holds Tryz.pinned (.plain (OpenSpec.upto fnExactTogetherSpec)) fnExactTogetherUptoCard

/-- THE SECOND FORM's CARD OF 'laws.FnTogether'. -/
def fnTogetherUptoCard : Claim7 := { stood := { row := fnTogetherUptoRow, standIns := [], harness := (true, "9cec93d35b2b003afe98c27da84898216d01a699745b89d9f5b053ef0fdf8389"), looks := true }, kinds := [], alts := [], laidByText := true, laidKinds := [.data, .data, .data, .data, .sentinel, .sentinel, .pinned], laidTests := true, laidLooks := .later }
def FnTogetherUptoCardSaid : Prop := Claim7.holds Tryz.pinned (.plain (OpenSpec.upto fnTogetherSpec)) fnTogetherUptoCard

/-- THE SECOND FORM's CARD OF 'laws.FnReplace'. -/
def fnReplaceUptoCard : Claim7 := { stood := { row := fnReplaceUptoRow, standIns := [], harness := (true, "9cec93d35b2b003afe98c27da84898216d01a699745b89d9f5b053ef0fdf8389"), looks := true }, kinds := [], alts := [], laidByText := true, laidKinds := [.data, .data, .data, .data, .sentinel, .sentinel, .pinned], laidTests := true, laidLooks := .later }
def FnReplaceUptoCardSaid : Prop := Claim7.holds Tryz.pinned (.plain (OpenSpec.upto fnReplaceSpec)) fnReplaceUptoCard

/-- THE SECOND FORM's CARD OF 'laws.FnChanges'. -/
def fnChangesUptoCard : Claim7 := { stood := { row := fnChangesUptoRow, standIns := [], harness := (true, "9cec93d35b2b003afe98c27da84898216d01a699745b89d9f5b053ef0fdf8389"), looks := true }, kinds := [], alts := [], laidByText := true, laidKinds := [.data, .data, .data, .data, .sentinel, .sentinel, .pinned], laidTests := true, laidLooks := .later }
def FnChangesUptoCardSaid : Prop := Claim7.holds Tryz.pinned (.plain (OpenSpec.upto fnChangesSpec)) fnChangesUptoCard

/-- THE SECOND FORM's CARD OF 'laws.FnAudit'. -/
def fnAuditUptoCard : Claim7 := { stood := { row := fnAuditUptoRow, standIns := [], harness := (true, "9cec93d35b2b003afe98c27da84898216d01a699745b89d9f5b053ef0fdf8389"), looks := true }, kinds := [], alts := [], laidByText := true, laidKinds := [.data, .data, .data, .data, .sentinel, .sentinel, .pinned], laidTests := true, laidLooks := .later }
def FnAuditUptoCardSaid : Prop := Claim7.holds Tryz.pinned (.plain (OpenSpec.upto fnAuditSpec)) fnAuditUptoCard

/-- THE SECOND FORM's CARD OF 'laws.FnExactProject'. -/
def fnExactProjectUptoCard : Claim7 := { stood := { row := fnExactProjectUptoRow, standIns := [], harness := (true, "9cec93d35b2b003afe98c27da84898216d01a699745b89d9f5b053ef0fdf8389"), looks := true }, kinds := [], alts := [], laidByText := true, laidKinds := [.data, .data, .data, .data, .sentinel, .sentinel, .pinned], laidTests := true, laidLooks := .later }
def FnExactProjectUptoCardSaid : Prop := Claim7.holds Tryz.pinned (.plain (OpenSpec.upto fnExactProjectSpec)) fnExactProjectUptoCard

/-- THE SECOND FORM's CARD OF 'laws.FnExactLossy'. -/
def fnExactLossyUptoCard : Claim7 := { stood := { row := fnExactLossyUptoRow, standIns := [], harness := (true, "9cec93d35b2b003afe98c27da84898216d01a699745b89d9f5b053ef0fdf8389"), looks := true }, kinds := [], alts := [], laidByText := true, laidKinds := [.data, .data, .data, .data, .sentinel, .sentinel, .pinned], laidTests := true, laidLooks := .later }
def FnExactLossyUptoCardSaid : Prop := Claim7.holds Tryz.pinned (.plain (OpenSpec.upto fnExactLossySpec)) fnExactLossyUptoCard

/-- THE SECOND FORM's CARD OF 'laws.FnProject'. -/
def fnProjectUptoCard : Claim7 := { stood := { row := fnProjectUptoRow, standIns := [], harness := (true, "9cec93d35b2b003afe98c27da84898216d01a699745b89d9f5b053ef0fdf8389"), looks := true }, kinds := [], alts := [], laidByText := true, laidKinds := [.data, .data, .data, .data, .sentinel, .sentinel, .pinned], laidTests := true, laidLooks := .later }
def FnProjectUptoCardSaid : Prop := Claim7.holds Tryz.pinned (.plain (OpenSpec.upto fnProjectSpec)) fnProjectUptoCard
end Rows
end Go.Proofs.YtijninlbpifonaaGreatDoor

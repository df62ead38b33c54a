/-
  DERIVED. GIVEN WITH THE SEED: THE CARDS: each row of YtefkoljdebekdaaGreatDoorRows.lean that lists a variable, with what it lists TIED to the program's text (the seventh form; the later family's looks); each row that meets fmt, with fmt's text TOLD by the authors' own Lean function (tested against real Go, not proved from fmt's source: count such statements apart). THE CARD IS WHAT COUNTS. Prove the row's statement (the work); the ties are given (YtefkoljdebekdaaGreatDoorTie.lean); close each card by the builder's one call (the guide's Derived/Test/ToyasCard.lean, 'card_holds'). Laid BY PROGRAM, IN A SANDBOX (cutbox-door.mjs). By AI agents, Wed Nov 11 2026. No macro, syntax, notation, axiom, sorry.
-/
import Derived.Test.YtefkoljdebekdaaGreatDoorRows
import GoSem.ClaimSeven
namespace Go.Proofs.YtefkoljdebekdaaGreatDoor
namespace Rows

/-- THE TIED CARD OF 'laws.FnProject'. -/
def fnProjectCard : Claim7 := { stood := { row := fnProjectRow, standIns := [], harness := (true, "1ce177f565bbe3f09b64b3a0d368a31fb5b73e0c2e9b5dd9e0a7482fdc115a69"), looks := true }, kinds := [], alts := [], laidByText := true, laidKinds := [.data, .data, .data, .data, .sentinel, .sentinel, .pinned], laidTests := true, laidLooks := .later }
def FnProjectCardSaid : Prop := Claim7.holds Tryz.pinned (.plain (OpenSpec.ofChange fnProjectSpec)) fnProjectCard

/-- THE TIED CARD OF 'laws.FnChanges'. -/
def fnChangesCard : Claim7 := { stood := { row := fnChangesRow, standIns := [], harness := (true, "1ce177f565bbe3f09b64b3a0d368a31fb5b73e0c2e9b5dd9e0a7482fdc115a69"), looks := true }, kinds := [], alts := [], laidByText := true, laidKinds := [.data, .data, .data, .data, .sentinel, .sentinel, .pinned], laidTests := true, laidLooks := .later }
def FnChangesCardSaid : Prop := Claim7.holds Tryz.pinned (.plain (OpenSpec.ofChange fnChangesSpec)) fnChangesCard

/-- THE TIED CARD OF 'laws.FnAudit'. -/
def fnAuditCard : Claim7 := { stood := { row := fnAuditRow, standIns := [], harness := (true, "1ce177f565bbe3f09b64b3a0d368a31fb5b73e0c2e9b5dd9e0a7482fdc115a69"), looks := true }, kinds := [], alts := [], laidByText := true, laidKinds := [.data, .data, .data, .data, .sentinel, .sentinel, .pinned], laidTests := true, laidLooks := .later }
def FnAuditCardSaid : Prop := Claim7.holds Tryz.pinned (.plain (OpenSpec.ofChange fnAuditSpec)) fnAuditCard

/-- THE SECOND FORM's CARD OF 'laws.FnProject'. -/
def fnProjectUptoCard : Claim7 := { stood := { row := fnProjectUptoRow, standIns := [], harness := (true, "1ce177f565bbe3f09b64b3a0d368a31fb5b73e0c2e9b5dd9e0a7482fdc115a69"), looks := true }, kinds := [], alts := [], laidByText := true, laidKinds := [.data, .data, .data, .data, .sentinel, .sentinel, .pinned], laidTests := true, laidLooks := .later }
def FnProjectUptoCardSaid : Prop := Claim7.holds Tryz.pinned (.plain (OpenSpec.upto fnProjectSpec)) fnProjectUptoCard

/-- THE SECOND FORM's CARD OF 'laws.FnChanges'. -/
def fnChangesUptoCard : Claim7 := { stood := { row := fnChangesUptoRow, standIns := [], harness := (true, "1ce177f565bbe3f09b64b3a0d368a31fb5b73e0c2e9b5dd9e0a7482fdc115a69"), looks := true }, kinds := [], alts := [], laidByText := true, laidKinds := [.data, .data, .data, .data, .sentinel, .sentinel, .pinned], laidTests := true, laidLooks := .later }
def FnChangesUptoCardSaid : Prop := Claim7.holds Tryz.pinned (.plain (OpenSpec.upto fnChangesSpec)) fnChangesUptoCard

/-- THE SECOND FORM's CARD OF 'laws.FnAudit'. -/
def fnAuditUptoCard : Claim7 := { stood := { row := fnAuditUptoRow, standIns := [], harness := (true, "1ce177f565bbe3f09b64b3a0d368a31fb5b73e0c2e9b5dd9e0a7482fdc115a69"), looks := true }, kinds := [], alts := [], laidByText := true, laidKinds := [.data, .data, .data, .data, .sentinel, .sentinel, .pinned], laidTests := true, laidLooks := .later }
def FnAuditUptoCardSaid : Prop := Claim7.holds Tryz.pinned (.plain (OpenSpec.upto fnAuditSpec)) fnAuditUptoCard
end Rows
end Go.Proofs.YtefkoljdebekdaaGreatDoor

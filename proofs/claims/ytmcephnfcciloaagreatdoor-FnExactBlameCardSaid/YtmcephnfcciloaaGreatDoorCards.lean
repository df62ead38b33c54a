/-
  DERIVED. GIVEN WITH THE SEED: THE CARDS: each row of YtmcephnfcciloaaGreatDoorRows.lean that lists a variable, with what it lists TIED to the program's text (the seventh form; the later family's looks); each row that meets fmt, with fmt's text TOLD by the authors' own Lean function (tested against real Go, not proved from fmt's source: count such statements apart). THE CARD IS WHAT COUNTS. Prove the row's statement (the work); the ties are given (YtmcephnfcciloaaGreatDoorTie.lean); close each card by the builder's one call (the guide's Derived/Test/ToyasCard.lean, 'card_holds'). Laid BY PROGRAM, IN A SANDBOX (cutbox-door.mjs). By AI agents, Wed Nov 11 2026. No macro, syntax, notation, axiom, sorry.
-/
import Derived.Test.YtmcephnfcciloaaGreatDoorRows
import GoSem.ClaimSeven
namespace Go.Proofs.YtmcephnfcciloaaGreatDoor
namespace Rows

/-- THE TIED CARD OF 'laws.FnExactAudit'. -/
def fnExactAuditCard : Claim7 := { stood := { row := fnExactAuditRow, standIns := [], harness := (true, "8a361dddcfcbe8467cf860020e1d114a7000316fe829564ba2efbd6ae96f9d6a"), looks := true }, kinds := [], alts := [], laidByText := true, laidKinds := [.data, .data, .data, .data, .sentinel, .sentinel, .pinned], laidTests := true, laidLooks := .later }
def FnExactAuditCardSaid : Prop := Claim7.holds Tryz.pinned (.plain (OpenSpec.ofChange fnExactAuditSpec)) fnExactAuditCard

/-- THE TIED CARD OF 'laws.FnExactPrune'. -/
def fnExactPruneCard : Claim7 := { stood := { row := fnExactPruneRow, standIns := [], harness := (true, "8a361dddcfcbe8467cf860020e1d114a7000316fe829564ba2efbd6ae96f9d6a"), looks := true }, kinds := [], alts := [], laidByText := true, laidKinds := [.data, .data, .data, .data, .sentinel, .sentinel, .pinned], laidTests := true, laidLooks := .later }
def FnExactPruneCardSaid : Prop := Claim7.holds Tryz.pinned (.plain (OpenSpec.ofChange fnExactPruneSpec)) fnExactPruneCard

/-- THE TIED CARD OF 'laws.FnExactBlame'. -/
def fnExactBlameCard : Claim7 := { stood := { row := fnExactBlameRow, standIns := [], harness := (true, "8a361dddcfcbe8467cf860020e1d114a7000316fe829564ba2efbd6ae96f9d6a"), looks := true }, kinds := [], alts := [], laidByText := true, laidKinds := [.data, .data, .data, .data, .sentinel, .sentinel, .pinned], laidTests := true, laidLooks := .later }
def FnExactBlameCardSaid : Prop := Claim7.holds Tryz.pinned (.plain (OpenSpec.ofChange fnExactBlameSpec)) fnExactBlameCard

/-- THE SECOND FORM's CARD OF 'laws.FnExactAudit'. -/
def fnExactAuditUptoCard : Claim7 := { stood := { row := fnExactAuditUptoRow, standIns := [], harness := (true, "8a361dddcfcbe8467cf860020e1d114a7000316fe829564ba2efbd6ae96f9d6a"), looks := true }, kinds := [], alts := [], laidByText := true, laidKinds := [.data, .data, .data, .data, .sentinel, .sentinel, .pinned], laidTests := true, laidLooks := .later }
def FnExactAuditUptoCardSaid : Prop := Claim7.holds Tryz.pinned (.plain (OpenSpec.upto fnExactAuditSpec)) fnExactAuditUptoCard

/-- THE SECOND FORM's CARD OF 'laws.FnExactPrune'. -/
def fnExactPruneUptoCard : Claim7 := { stood := { row := fnExactPruneUptoRow, standIns := [], harness := (true, "8a361dddcfcbe8467cf860020e1d114a7000316fe829564ba2efbd6ae96f9d6a"), looks := true }, kinds := [], alts := [], laidByText := true, laidKinds := [.data, .data, .data, .data, .sentinel, .sentinel, .pinned], laidTests := true, laidLooks := .later }
def FnExactPruneUptoCardSaid : Prop := Claim7.holds Tryz.pinned (.plain (OpenSpec.upto fnExactPruneSpec)) fnExactPruneUptoCard

/-- THE SECOND FORM's CARD OF 'laws.FnExactBlame'. -/
def fnExactBlameUptoCard : Claim7 := { stood := { row := fnExactBlameUptoRow, standIns := [], harness := (true, "8a361dddcfcbe8467cf860020e1d114a7000316fe829564ba2efbd6ae96f9d6a"), looks := true }, kinds := [], alts := [], laidByText := true, laidKinds := [.data, .data, .data, .data, .sentinel, .sentinel, .pinned], laidTests := true, laidLooks := .later }
def FnExactBlameUptoCardSaid : Prop := Claim7.holds Tryz.pinned (.plain (OpenSpec.upto fnExactBlameSpec)) fnExactBlameUptoCard
end Rows
end Go.Proofs.YtmcephnfcciloaaGreatDoor

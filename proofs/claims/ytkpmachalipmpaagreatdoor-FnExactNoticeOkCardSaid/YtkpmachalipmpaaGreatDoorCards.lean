/-
  DERIVED. GIVEN WITH THE SEED: THE CARDS: each row of YtkpmachalipmpaaGreatDoorRows.lean that lists a variable, with what it lists TIED to the program's text (the seventh form; the later family's looks); each row that meets fmt, with fmt's text TOLD by the authors' own Lean function (tested against real Go, not proved from fmt's source: count such statements apart). THE CARD IS WHAT COUNTS. Prove the row's statement (the work); the ties are given (YtkpmachalipmpaaGreatDoorTie.lean); close each card by the builder's one call (the guide's Derived/Test/ToyasCard.lean, 'card_holds'). Laid BY PROGRAM, IN A SANDBOX (cutbox-door.mjs). By AI agents, Wed Nov 11 2026. No macro, syntax, notation, axiom, sorry.
-/
import Derived.Test.YtkpmachalipmpaaGreatDoorRows
import GoSem.ClaimSeven
namespace Go.Proofs.YtkpmachalipmpaaGreatDoor
namespace Rows

/-- THE TIED CARD OF 'laws.FnExactDetect'. -/
def fnExactDetectCard : Claim7 := { stood := { row := fnExactDetectRow, standIns := [], harness := (true, "f835d77108bc2e0da8f8f72c351714f7e6c461e3b7526be49b47b93a03136068"), looks := true }, kinds := [], alts := [], laidByText := true, laidKinds := [.data, .data, .data, .sentinel, .sentinel], laidTests := true, laidLooks := .later }
def FnExactDetectCardSaid : Prop := Claim7.holds Tryz.pinned (.plain (OpenSpec.ofChange fnExactDetectSpec)) fnExactDetectCard

/-- THE TIED CARD OF 'laws.FnExactNoticeOk'. -/
def fnExactNoticeOkCard : Claim7 := { stood := { row := fnExactNoticeOkRow, standIns := [], harness := (true, "f835d77108bc2e0da8f8f72c351714f7e6c461e3b7526be49b47b93a03136068"), looks := true }, kinds := [], alts := [], laidByText := true, laidKinds := [.data, .data, .data, .data, .sentinel, .sentinel, .pinned], laidTests := true, laidLooks := .later }
def FnExactNoticeOkCardSaid : Prop := Claim7.holds Tryz.pinned (.plain (OpenSpec.ofChange fnExactNoticeOkSpec)) fnExactNoticeOkCard

/-- THE TIED CARD OF 'laws.FnTree'. -/
def fnTreeCard : Claim7 := { stood := { row := fnTreeRow, standIns := [], harness := (true, "f835d77108bc2e0da8f8f72c351714f7e6c461e3b7526be49b47b93a03136068"), looks := true }, kinds := [], alts := [], laidByText := true, laidKinds := [.data, .data, .data, .sentinel, .sentinel], laidTests := true, laidLooks := .later }
def FnTreeCardSaid : Prop := Claim7.holds Tryz.pinned (.plain (OpenSpec.ofChange fnTreeSpec)) fnTreeCard

/-- THE TIED CARD OF 'laws.FnExactPutPip'. -/
def fnExactPutPipCard : Claim7 := { stood := { row := fnExactPutPipRow, standIns := [], harness := (true, "f835d77108bc2e0da8f8f72c351714f7e6c461e3b7526be49b47b93a03136068"), looks := true }, kinds := [], alts := [], laidByText := true, laidKinds := [.data, .data, .data, .data, .sentinel, .sentinel, .pinned], laidTests := true, laidLooks := .later }
def FnExactPutPipCardSaid : Prop := Claim7.holds Tryz.pinned (.plain (OpenSpec.ofChange fnExactPutPipSpec)) fnExactPutPipCard

/-- THE TIED CARD OF 'laws.FnExactPipFits'. -/
def fnExactPipFitsCard : Claim7 := { stood := { row := fnExactPipFitsRow, standIns := [], harness := (true, "f835d77108bc2e0da8f8f72c351714f7e6c461e3b7526be49b47b93a03136068"), looks := true }, kinds := [], alts := [], laidByText := true, laidKinds := [.data, .data, .data, .data, .sentinel, .sentinel, .pinned], laidTests := true, laidLooks := .later }
def FnExactPipFitsCardSaid : Prop := Claim7.holds Tryz.pinned (.plain (OpenSpec.ofChange fnExactPipFitsSpec)) fnExactPipFitsCard

/-- THE TIED CARD OF 'laws.FnExactPutCargo'. -/
def fnExactPutCargoCard : Claim7 := { stood := { row := fnExactPutCargoRow, standIns := [], harness := (true, "f835d77108bc2e0da8f8f72c351714f7e6c461e3b7526be49b47b93a03136068"), looks := true }, kinds := [], alts := [], laidByText := true, laidKinds := [.data, .data, .data, .data, .sentinel, .sentinel, .pinned], laidTests := true, laidLooks := .later }
def FnExactPutCargoCardSaid : Prop := Claim7.holds Tryz.pinned (.plain (OpenSpec.ofChange fnExactPutCargoSpec)) fnExactPutCargoCard

/-- THE TIED CARD OF 'laws.FnExactCargoFits'. -/
def fnExactCargoFitsCard : Claim7 := { stood := { row := fnExactCargoFitsRow, standIns := [], harness := (true, "f835d77108bc2e0da8f8f72c351714f7e6c461e3b7526be49b47b93a03136068"), looks := true }, kinds := [], alts := [], laidByText := true, laidKinds := [.data, .data, .data, .data, .sentinel, .sentinel, .pinned], laidTests := true, laidLooks := .later }
def FnExactCargoFitsCardSaid : Prop := Claim7.holds Tryz.pinned (.plain (OpenSpec.ofChange fnExactCargoFitsSpec)) fnExactCargoFitsCard

/-- THE TIED CARD OF 'laws.FnReach'. -/
def fnReachCard : Claim7 := { stood := { row := fnReachRow, standIns := [], harness := (true, "f835d77108bc2e0da8f8f72c351714f7e6c461e3b7526be49b47b93a03136068"), looks := true }, kinds := [], alts := [], laidByText := true, laidKinds := [.data, .data, .data, .data, .sentinel, .sentinel, .pinned], laidTests := true, laidLooks := .later }
def FnReachCardSaid : Prop := Claim7.holds Tryz.pinned (.plain (OpenSpec.ofChange fnReachSpec)) fnReachCard

/-- THE TIED CARD OF 'laws.FnTogether'. -/
def fnTogetherCard : Claim7 := { stood := { row := fnTogetherRow, standIns := [], harness := (true, "f835d77108bc2e0da8f8f72c351714f7e6c461e3b7526be49b47b93a03136068"), looks := true }, kinds := [], alts := [], laidByText := true, laidKinds := [.data, .data, .data, .data, .sentinel, .sentinel, .pinned], laidTests := true, laidLooks := .later }
def FnTogetherCardSaid : Prop := Claim7.holds Tryz.pinned (.plain (OpenSpec.ofChange fnTogetherSpec)) fnTogetherCard

/-- THE TIED CARD OF 'laws.FnExactMend'. -/
def fnExactMendCard : Claim7 := { stood := { row := fnExactMendRow, standIns := [], harness := (true, "f835d77108bc2e0da8f8f72c351714f7e6c461e3b7526be49b47b93a03136068"), looks := true }, kinds := [], alts := [], laidByText := true, laidKinds := [.data, .data, .data, .data, .sentinel, .sentinel, .pinned], laidTests := true, laidLooks := .later }
def FnExactMendCardSaid : Prop := Claim7.holds Tryz.pinned (.plain (OpenSpec.ofChange fnExactMendSpec)) fnExactMendCard

/-- THE SECOND FORM's CARD OF 'laws.FnExactDetect'. -/
def fnExactDetectUptoCard : Claim7 := { stood := { row := fnExactDetectUptoRow, standIns := [], harness := (true, "f835d77108bc2e0da8f8f72c351714f7e6c461e3b7526be49b47b93a03136068"), looks := true }, kinds := [], alts := [], laidByText := true, laidKinds := [.data, .data, .data, .sentinel, .sentinel], laidTests := true, laidLooks := .later }
def FnExactDetectUptoCardSaid : Prop := Claim7.holds Tryz.pinned (.plain (OpenSpec.upto fnExactDetectSpec)) fnExactDetectUptoCard

/-- THE SECOND FORM's CARD OF 'laws.FnExactNoticeOk'. -/
def fnExactNoticeOkUptoCard : Claim7 := { stood := { row := fnExactNoticeOkUptoRow, standIns := [], harness := (true, "f835d77108bc2e0da8f8f72c351714f7e6c461e3b7526be49b47b93a03136068"), looks := true }, kinds := [], alts := [], laidByText := true, laidKinds := [.data, .data, .data, .data, .sentinel, .sentinel, .pinned], laidTests := true, laidLooks := .later }
def FnExactNoticeOkUptoCardSaid : Prop := Claim7.holds Tryz.pinned (.plain (OpenSpec.upto fnExactNoticeOkSpec)) fnExactNoticeOkUptoCard

/-- THE SECOND FORM's CARD OF 'laws.FnTree'. -/
def fnTreeUptoCard : Claim7 := { stood := { row := fnTreeUptoRow, standIns := [], harness := (true, "f835d77108bc2e0da8f8f72c351714f7e6c461e3b7526be49b47b93a03136068"), looks := true }, kinds := [], alts := [], laidByText := true, laidKinds := [.data, .data, .data, .sentinel, .sentinel], laidTests := true, laidLooks := .later }
def FnTreeUptoCardSaid : Prop := Claim7.holds Tryz.pinned (.plain (OpenSpec.upto fnTreeSpec)) fnTreeUptoCard

/-- THE SECOND FORM's CARD OF 'laws.FnExactPutPip'. -/
def fnExactPutPipUptoCard : Claim7 := { stood := { row := fnExactPutPipUptoRow, standIns := [], harness := (true, "f835d77108bc2e0da8f8f72c351714f7e6c461e3b7526be49b47b93a03136068"), looks := true }, kinds := [], alts := [], laidByText := true, laidKinds := [.data, .data, .data, .data, .sentinel, .sentinel, .pinned], laidTests := true, laidLooks := .later }
def FnExactPutPipUptoCardSaid : Prop := Claim7.holds Tryz.pinned (.plain (OpenSpec.upto fnExactPutPipSpec)) fnExactPutPipUptoCard

/-- THE SECOND FORM's CARD OF 'laws.FnExactPipFits'. -/
def fnExactPipFitsUptoCard : Claim7 := { stood := { row := fnExactPipFitsUptoRow, standIns := [], harness := (true, "f835d77108bc2e0da8f8f72c351714f7e6c461e3b7526be49b47b93a03136068"), looks := true }, kinds := [], alts := [], laidByText := true, laidKinds := [.data, .data, .data, .data, .sentinel, .sentinel, .pinned], laidTests := true, laidLooks := .later }
def FnExactPipFitsUptoCardSaid : Prop := Claim7.holds Tryz.pinned (.plain (OpenSpec.upto fnExactPipFitsSpec)) fnExactPipFitsUptoCard

/-- THE SECOND FORM's CARD OF 'laws.FnExactPutCargo'. -/
def fnExactPutCargoUptoCard : Claim7 := { stood := { row := fnExactPutCargoUptoRow, standIns := [], harness := (true, "f835d77108bc2e0da8f8f72c351714f7e6c461e3b7526be49b47b93a03136068"), looks := true }, kinds := [], alts := [], laidByText := true, laidKinds := [.data, .data, .data, .data, .sentinel, .sentinel, .pinned], laidTests := true, laidLooks := .later }
def FnExactPutCargoUptoCardSaid : Prop := Claim7.holds Tryz.pinned (.plain (OpenSpec.upto fnExactPutCargoSpec)) fnExactPutCargoUptoCard

/-- THE SECOND FORM's CARD OF 'laws.FnExactCargoFits'. -/
def fnExactCargoFitsUptoCard : Claim7 := { stood := { row := fnExactCargoFitsUptoRow, standIns := [], harness := (true, "f835d77108bc2e0da8f8f72c351714f7e6c461e3b7526be49b47b93a03136068"), looks := true }, kinds := [], alts := [], laidByText := true, laidKinds := [.data, .data, .data, .data, .sentinel, .sentinel, .pinned], laidTests := true, laidLooks := .later }
def FnExactCargoFitsUptoCardSaid : Prop := Claim7.holds Tryz.pinned (.plain (OpenSpec.upto fnExactCargoFitsSpec)) fnExactCargoFitsUptoCard

/-- THE SECOND FORM's CARD OF 'laws.FnReach'. -/
def fnReachUptoCard : Claim7 := { stood := { row := fnReachUptoRow, standIns := [], harness := (true, "f835d77108bc2e0da8f8f72c351714f7e6c461e3b7526be49b47b93a03136068"), looks := true }, kinds := [], alts := [], laidByText := true, laidKinds := [.data, .data, .data, .data, .sentinel, .sentinel, .pinned], laidTests := true, laidLooks := .later }
def FnReachUptoCardSaid : Prop := Claim7.holds Tryz.pinned (.plain (OpenSpec.upto fnReachSpec)) fnReachUptoCard

/-- THE SECOND FORM's CARD OF 'laws.FnTogether'. -/
def fnTogetherUptoCard : Claim7 := { stood := { row := fnTogetherUptoRow, standIns := [], harness := (true, "f835d77108bc2e0da8f8f72c351714f7e6c461e3b7526be49b47b93a03136068"), looks := true }, kinds := [], alts := [], laidByText := true, laidKinds := [.data, .data, .data, .data, .sentinel, .sentinel, .pinned], laidTests := true, laidLooks := .later }
def FnTogetherUptoCardSaid : Prop := Claim7.holds Tryz.pinned (.plain (OpenSpec.upto fnTogetherSpec)) fnTogetherUptoCard

/-- THE SECOND FORM's CARD OF 'laws.FnExactMend'. -/
def fnExactMendUptoCard : Claim7 := { stood := { row := fnExactMendUptoRow, standIns := [], harness := (true, "f835d77108bc2e0da8f8f72c351714f7e6c461e3b7526be49b47b93a03136068"), looks := true }, kinds := [], alts := [], laidByText := true, laidKinds := [.data, .data, .data, .data, .sentinel, .sentinel, .pinned], laidTests := true, laidLooks := .later }
def FnExactMendUptoCardSaid : Prop := Claim7.holds Tryz.pinned (.plain (OpenSpec.upto fnExactMendSpec)) fnExactMendUptoCard
end Rows
end Go.Proofs.YtkpmachalipmpaaGreatDoor

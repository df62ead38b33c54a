/-
  DERIVED. GIVEN WITH THE SEED: THE CARDS: each row of YtonbkdklidfmfaaGreatDoorRows.lean that lists a variable, with what it lists TIED to the program's text (the seventh form; the later family's looks); each row that meets fmt, with fmt's text TOLD by the authors' own Lean function (tested against real Go, not proved from fmt's source: count such statements apart). THE CARD IS WHAT COUNTS. Prove the row's statement (the work); the ties are given (YtonbkdklidfmfaaGreatDoorTie.lean); close each card by the builder's one call (the guide's Derived/Test/ToyasCard.lean, 'card_holds'). Laid BY PROGRAM, IN A SANDBOX (cutbox-door.mjs). By AI agents, Wed Nov 11 2026. No macro, syntax, notation, axiom, sorry.
-/
import Derived.Test.YtonbkdklidfmfaaGreatDoorRows
import GoSem.ClaimSeven
namespace Go.Proofs.YtonbkdklidfmfaaGreatDoor
namespace Rows

/-- THE TIED CARD OF 'laws.FnExactProject'. -/
def fnExactProjectCard : Claim7 := { stood := { row := fnExactProjectRow, standIns := [], harness := (true, "f9a7fa44b3fe1fd8467a3455709450c92f698194bf986e9c68f7dfe42b86b0b4"), looks := true }, kinds := [], alts := [], laidByText := true, laidKinds := [.data, .data, .data, .data, .sentinel, .sentinel, .pinned], laidTests := true, laidLooks := .later }
def FnExactProjectCardSaid : Prop := Claim7.holds Tryz.pinned (.plain (OpenSpec.ofChange fnExactProjectSpec)) fnExactProjectCard

/-- THE TIED CARD OF 'laws.FnExactLossy'. -/
def fnExactLossyCard : Claim7 := { stood := { row := fnExactLossyRow, standIns := [], harness := (true, "f9a7fa44b3fe1fd8467a3455709450c92f698194bf986e9c68f7dfe42b86b0b4"), looks := true }, kinds := [], alts := [], laidByText := true, laidKinds := [.data, .data, .data, .data, .sentinel, .sentinel, .pinned], laidTests := true, laidLooks := .later }
def FnExactLossyCardSaid : Prop := Claim7.holds Tryz.pinned (.plain (OpenSpec.ofChange fnExactLossySpec)) fnExactLossyCard

/-- THE TIED CARD OF 'laws.FnExactTogether'. -/
def fnExactTogetherCard : Claim7 := { stood := { row := fnExactTogetherRow, standIns := [], harness := (true, "f9a7fa44b3fe1fd8467a3455709450c92f698194bf986e9c68f7dfe42b86b0b4"), looks := true }, kinds := [], alts := [], laidByText := true, laidKinds := [.data, .data, .data, .data, .sentinel, .sentinel, .pinned], laidTests := true, laidLooks := .later }
def FnExactTogetherCardSaid : Prop := Claim7.holds Tryz.pinned (.plain (OpenSpec.ofChange fnExactTogetherSpec)) fnExactTogetherCard

/-- THE TIED CARD OF 'laws.FnReach'. -/
def fnReachCard : Claim7 := { stood := { row := fnReachRow, standIns := [], harness := (true, "f9a7fa44b3fe1fd8467a3455709450c92f698194bf986e9c68f7dfe42b86b0b4"), looks := true }, kinds := [], alts := [], laidByText := true, laidKinds := [.data, .data, .data, .data, .sentinel, .sentinel, .pinned], laidTests := true, laidLooks := .later }
def FnReachCardSaid : Prop := Claim7.holds Tryz.pinned (.plain (OpenSpec.ofChange fnReachSpec)) fnReachCard

/-- THE SECOND FORM's CARD OF 'laws.FnExactProject'. -/
def fnExactProjectUptoCard : Claim7 := { stood := { row := fnExactProjectUptoRow, standIns := [], harness := (true, "f9a7fa44b3fe1fd8467a3455709450c92f698194bf986e9c68f7dfe42b86b0b4"), looks := true }, kinds := [], alts := [], laidByText := true, laidKinds := [.data, .data, .data, .data, .sentinel, .sentinel, .pinned], laidTests := true, laidLooks := .later }
def FnExactProjectUptoCardSaid : Prop := Claim7.holds Tryz.pinned (.plain (OpenSpec.upto fnExactProjectSpec)) fnExactProjectUptoCard

/-- THE SECOND FORM's CARD OF 'laws.FnExactLossy'. -/
def fnExactLossyUptoCard : Claim7 := { stood := { row := fnExactLossyUptoRow, standIns := [], harness := (true, "f9a7fa44b3fe1fd8467a3455709450c92f698194bf986e9c68f7dfe42b86b0b4"), looks := true }, kinds := [], alts := [], laidByText := true, laidKinds := [.data, .data, .data, .data, .sentinel, .sentinel, .pinned], laidTests := true, laidLooks := .later }
def FnExactLossyUptoCardSaid : Prop := Claim7.holds Tryz.pinned (.plain (OpenSpec.upto fnExactLossySpec)) fnExactLossyUptoCard

/-- THE SECOND FORM's CARD OF 'laws.FnExactTogether'. -/
def fnExactTogetherUptoCard : Claim7 := { stood := { row := fnExactTogetherUptoRow, standIns := [], harness := (true, "f9a7fa44b3fe1fd8467a3455709450c92f698194bf986e9c68f7dfe42b86b0b4"), looks := true }, kinds := [], alts := [], laidByText := true, laidKinds := [.data, .data, .data, .data, .sentinel, .sentinel, .pinned], laidTests := true, laidLooks := .later }
def FnExactTogetherUptoCardSaid : Prop := Claim7.holds Tryz.pinned (.plain (OpenSpec.upto fnExactTogetherSpec)) fnExactTogetherUptoCard

/-- THE SECOND FORM's CARD OF 'laws.FnReach'. -/
def fnReachUptoCard : Claim7 := { stood := { row := fnReachUptoRow, standIns := [], harness := (true, "f9a7fa44b3fe1fd8467a3455709450c92f698194bf986e9c68f7dfe42b86b0b4"), looks := true }, kinds := [], alts := [], laidByText := true, laidKinds := [.data, .data, .data, .data, .sentinel, .sentinel, .pinned], laidTests := true, laidLooks := .later }
def FnReachUptoCardSaid : Prop := Claim7.holds Tryz.pinned (.plain (OpenSpec.upto fnReachSpec)) fnReachUptoCard
end Rows
end Go.Proofs.YtonbkdklidfmfaaGreatDoor

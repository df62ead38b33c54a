/-
  DERIVED. GIVEN WITH THE SEED: THE CARDS: each row of YtdhejeigbjmncaaDoorRows.lean that lists a variable, with what it lists TIED to the program's text (the seventh form; the later family's looks); each row that meets fmt, with fmt's text TOLD by the authors' own Lean function (tested against real Go, not proved from fmt's source: count such statements apart). THE CARD IS WHAT COUNTS. Prove the row's statement (the work); the ties are given (YtdhejeigbjmncaaDoorTie.lean); close each card by the builder's one call (the guide's Derived/Test/ToyasCard.lean, 'card_holds'). Laid BY PROGRAM, IN A SANDBOX (cutbox-door.mjs). By AI agents, Wed Nov 11 2026. No macro, syntax, notation, axiom, sorry.
-/
import Derived.Test.YtdhejeigbjmncaaDoorRows
import GoSem.ClaimSeven
namespace Go.Proofs.YtdhejeigbjmncaaDoor
namespace Rows

/-- THE TIED CARD OF 'laws.FnExactPutTree'. -/
def fnExactPutTreeCard : Claim7 := { stood := { row := fnExactPutTreeRow, standIns := [], harness := (true, "3cd6c519552e459b7adb1becb8923ae43d6d856e67566275723da651d06fd5f3"), looks := false }, kinds := [], alts := [], laidByText := true, laidKinds := [.data, .data, .data], laidTests := true, laidLooks := .later }
def FnExactPutTreeCardSaid : Prop := Claim7.holds Tryd.pinned (.plain (OpenSpec.ofChange fnExactPutTreeSpec)) fnExactPutTreeCard

/-- THE SECOND FORM's CARD OF 'laws.FnExactPutTree'. -/
def fnExactPutTreeUptoCard : Claim7 := { stood := { row := fnExactPutTreeUptoRow, standIns := [], harness := (true, "3cd6c519552e459b7adb1becb8923ae43d6d856e67566275723da651d06fd5f3"), looks := false }, kinds := [], alts := [], laidByText := true, laidKinds := [.data, .data, .data], laidTests := true, laidLooks := .later }
def FnExactPutTreeUptoCardSaid : Prop := Claim7.holds Tryd.pinned (.plain (OpenSpec.upto fnExactPutTreeSpec)) fnExactPutTreeUptoCard
end Rows
end Go.Proofs.YtdhejeigbjmncaaDoor

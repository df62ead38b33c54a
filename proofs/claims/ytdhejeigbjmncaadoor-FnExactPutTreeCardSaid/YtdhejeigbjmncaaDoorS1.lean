/- The seat's own facts: the conditions on the program. Conditions: none. -/
import Derived.Test.YtdhejeigbjmncaaDoorS0
import Derived.Test.YtdhejeigbjmncaaDoorRows
import Derived.ProofKit
import Derived.ReadAgain
namespace Go.Proofs.YtdhejeigbjmncaaDoor
open E
theorem Tryd.own : ownKnob Tryd.prog.godebug = none := by kernel_rfl
theorem Tryd.laidOut : laidOutB Tryd.prog = true := by kernel_rfl
theorem Tryd.kids : Kids Tryd.prog (· < Tryd.prog.types.size) := kids_rows (by kernel_rfl) (by kernel_rfl)
theorem Tryd.full : ∀ t e, t < Tryd.prog.types.size → Tryd.prog.underlying t = some (.slice e) → 0 < Tryd.prog.cellsOf e := slices_full_of Tryd.prog (by kernel_rfl)
end Go.Proofs.YtdhejeigbjmncaaDoor

/- The seat's own facts: the conditions on the program. Conditions: none. -/
import Derived.Test.YtdhejeigbjmncaaS0
import Derived.Test.YtdhejeigbjmncaaRows
import Derived.ProofKit
import Derived.ReadAgain
namespace Go.Proofs.Ytdhejeigbjmncaa
open E
theorem Try.own : ownKnob Try.prog.godebug = none := by kernel_rfl
theorem Try.laidOut : laidOutB Try.prog = true := by kernel_rfl
theorem Try.kids : Kids Try.prog (· < Try.prog.types.size) := kids_rows (by kernel_rfl) (by kernel_rfl)
theorem Try.full : ∀ t e, t < Try.prog.types.size → Try.prog.underlying t = some (.slice e) → 0 < Try.prog.cellsOf e := slices_full_of Try.prog (by kernel_rfl)
end Go.Proofs.Ytdhejeigbjmncaa

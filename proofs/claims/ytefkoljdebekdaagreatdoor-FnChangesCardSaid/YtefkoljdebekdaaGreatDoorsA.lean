/- The start's memory: a world that meets the rows' lists. Conditions: none. -/
import Derived.Test.YtefkoljdebekdaaGreatDoorCards
import Derived.Test.YtefkoljdebekdaaGreatDoorTie
import Derived.WalkKit
import Derived.ProofKit
import Derived.ReadAgain
import Derived.OpenShut
import Derived.Deep.DeepHandedRow
import Derived.Lib.LaidTab
import Derived.Lib.ItoaNum
import Derived.Stop.LaidErr
set_option linter.unusedVariables false
set_option linter.unusedSimpArgs false
set_option maxRecDepth 100000
namespace Go.Proofs.YtefkoljdebekdaaGreatDoor
open Go.Proofs.Tryz
open Go.ChangeShapes Go.WideShapes Go.ChangeAt Go.RowKit
abbrev synS:ByteArray:={ data := #[105,110,118,97,108,105,100,32,115,121,110,116,97,120] }
abbrev rngS:ByteArray:={ data := #[118,97,108,117,101,32,111,117,116,32,111,102,32,114,97,110,103,101] }
def accL:List Int:=[128,191,160,191,128,159,144,191,128,143,0,0,0,0,0,0,0,0,0,0,0,0,0,0,0,0,0,0,0,0,0,0]
def tab32:List Int:=[0,1,28,2,29,14,24,3,30,22,20,15,25,17,4,8,31,27,13,23,21,19,16,7,26,12,18,6,11,5,10,9]
def tab64:List Int:=[0,1,56,2,57,49,28,3,61,58,42,50,38,29,17,4,62,47,59,36,45,43,51,22,53,39,33,30,24,18,12,5,63,55,48,27,60,41,37,16,46,35,44,21,52,32,23,11,54,26,40,15,34,20,31,10,25,14,19,9,13,8,7,6]
def putCells (cs:List Value):Obj→Obj
 | .cells _ t frozen=>.cells cs.toArray t frozen
 | o=>o
noncomputable def low:Nat:=(World.holding prog default ⟨#[],#[],[]⟩).heap.size
noncomputable def nz (os:Os):World :=
 let w0:=World.holding prog os ⟨#[.cells #[.string synS] 261,.cells #[.string rngS] 261],#[],[]⟩
 { w0 with heap:=((((((w0.heap.modify 1 (putCells [.iface 259 (.pointer (some ⟨low,0,none⟩))])).modify 2 (putCells [.iface 259 (.pointer (some ⟨low+1,0,none⟩))])).modify 3 (putCells (Go.Pinned.utf8FirstZ.map fun n:Nat=>.int .u8 (n:Int)))).modify 4 (putCells (accL.map (.int .u8)))).modify 5 (putCells (Lib.pow10Tab.map (.int .u64)))).modify 6 (putCells (tab32.map (.int .u8)))).modify 7 (putCells (tab64.map (.int .u8))) }
end Go.Proofs.YtefkoljdebekdaaGreatDoor

/- FnChanges holds, and its card. Conditions: none. -/
import Derived.Test.YtefkoljdebekdaaGreatDoorsI
import Derived.Test.YtefkoljdebekdaaGreatDoorsP
import Derived.Test.YtefkoljdebekdaaGreatDoorsO
set_option linter.unusedVariables false
set_option linter.unusedSimpArgs false
set_option maxRecDepth 100000
set_option maxHeartbeats 40000000
namespace Go.Proofs.YtefkoljdebekdaaGreatDoor
open Go.Proofs.Tryz
open Go.ChangeShapes Go.WideShapes Go.ChangeAt Go.RowKit E
theorem aF {W:World}(hS:W.ShapedOpen prog)(h:laidMetH prog Rows.fnChangesRow.laid W):pE W :=
 aw hS ⟨_,laidMet.tail (laidMet.tail h)⟩ ⟨_,laidMet.tail (laidMet.tail (laidMet.tail (laidMet.tail h)))⟩ ⟨_,laidMet.tail (laidMet.tail (laidMet.tail (laidMet.tail (laidMet.tail h))))⟩
theorem jN (H:Type) (enc:TypeId×Value→H) (W:World) (base:Nat) (args:Array Value) (ds gs:List (DataW H)) (before:List MemPlace)
 (hval:∀ (j:Nat) t v,Tryz.f4.params[j]? = some t→args[j]? = some v→Value.okWide prog W .any base t v)
 (hW:DataW.Whole enc prog Tryz.f4.params.toList Rows.fnChangesSpec.vars false W args.toList ds gs before) (hS:W.ShapedOpen prog) (hL:laidMetH prog Rows.fnChangesRow.laid W) :
 Calls prog 4 args W fun e W'=>∃ v,e=.returned v∧Rows.fnChangesSpec.post enc prog Tryz.f4 false true false false W args v W':=by
 refine Q8 (Sk W (aF hS hL)) TI (l:=[22,5,4]) (tb:=4) (by kernel_rfl) (by rw[Tryz.params4];decide) rfl Tryz.kids (fun t e ht=>Tryz.full t e ht) (by rw[Tryz.params4];decide) hval hW ?_ rfl Tryz.underlying4 (fun xs hx=>?_)
 · intro hg;subst hg;obtain⟨p,q,hA,_⟩:=hW;rw[Tryz.params4]at hA;obtain⟨v0,d0,e0,rfl,_⟩:=trodAll_one hA;exact⟨rfl,rfl,rfl⟩
 · rw[Tryz.params4]at hx;exact Wb _ SJ xs hx
theorem chgl_holds:Rows.FnChangesCardSaid:=Sy fun H enc W base args ds gs before hval hW hS hL=>jN H enc W base args ds gs before hval hW hS hL
end Go.Proofs.YtefkoljdebekdaaGreatDoor

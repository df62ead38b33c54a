/- FnAudit holds, and its card. Conditions: none. -/
import Derived.Test.YtefkoljdebekdaaGreatDoorlI
import Derived.Test.YtefkoljdebekdaaGreatDoorlQ
import Derived.Test.YtefkoljdebekdaaGreatDoorlP
set_option linter.unusedVariables false
set_option linter.unusedSimpArgs false
set_option maxRecDepth 100000
set_option maxHeartbeats 40000000
namespace Go.Proofs.YtefkoljdebekdaaGreatDoor
open Go.Proofs.Tryz
open Go.ChangeShapes Go.WideShapes Go.ChangeAt Go.RowKit E
theorem Y3 {W:World}(hS:W.ShapedOpen prog)(h:laidMetH prog Rows.fnAuditRow.laid W):ot W :=
 ZO hS ⟨_,laidMet.tail (laidMet.tail h)⟩ ⟨_,laidMet.tail (laidMet.tail (laidMet.tail (laidMet.tail h)))⟩ ⟨_,laidMet.tail (laidMet.tail (laidMet.tail (laidMet.tail (laidMet.tail h))))⟩
theorem gf (H:Type) (enc:TypeId×Value→H) (W:World) (base:Nat) (args:Array Value) (ds gs:List (DataW H)) (before:List MemPlace)
 (hval:∀ (j:Nat) t v,Tryz.f5.params[j]? = some t→args[j]? = some v→Value.okWide prog W .any base t v)
 (hW:DataW.Whole enc prog Tryz.f5.params.toList Rows.fnAuditSpec.vars false W args.toList ds gs before) (hS:W.ShapedOpen prog) (hL:laidMetH prog Rows.fnAuditRow.laid W) :
 Calls prog 5 args W fun e W'=>∃ v,e=.returned v∧Rows.fnAuditSpec.post enc prog Tryz.f5 false true false false W args v W':=by
 refine Ob (Qo W (Y3 hS hL)) RG (l:=[22,5,4]) (tb:=4) (by kernel_rfl) (by rw[Tryz.params5];decide) rfl Tryz.kids (fun t e ht=>Tryz.full t e ht) (by rw[Tryz.params5];decide) hval hW ?_ rfl Tryz.underlying4 (fun xs hx=>?_)
 · intro hg;subst hg;obtain⟨p,q,hA,_⟩:=hW;rw[Tryz.params5]at hA;obtain⟨v0,d0,e0,rfl,_⟩:=trodAll_one hA;exact⟨rfl,rfl,rfl⟩
 · rw[Tryz.params5]at hx;exact VK _ QL xs hx
theorem audl_holds:Rows.FnAuditCardSaid:=QR fun H enc W base args ds gs before hval hW hS hL=>gf H enc W base args ds gs before hval hW hS hL
end Go.Proofs.YtefkoljdebekdaaGreatDoor

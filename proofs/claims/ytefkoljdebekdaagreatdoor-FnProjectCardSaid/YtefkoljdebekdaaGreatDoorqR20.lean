/- FnProject holds, and its card. Conditions: none. -/
import Derived.Test.YtefkoljdebekdaaGreatDoorqJ
import Derived.Test.YtefkoljdebekdaaGreatDoorqQ
import Derived.Test.YtefkoljdebekdaaGreatDoorqP
set_option linter.unusedVariables false
set_option linter.unusedSimpArgs false
set_option maxRecDepth 100000
namespace Go.Proofs.YtefkoljdebekdaaGreatDoor
open Go.ChangeShapes Go.WideShapes Go.ChangeAt Go.RowKit E
set_option maxHeartbeats 40000000
theorem aZ {W:World}(hS:W.ShapedOpen Tryz.prog)(h:laidMetH Tryz.prog Rows.fnProjectRow.laid W):eP W :=
 Zc hS ⟨_,laidMet.tail (laidMet.tail h)⟩ ⟨_,laidMet.tail (laidMet.tail (laidMet.tail (laidMet.tail h)))⟩ ⟨_,laidMet.tail (laidMet.tail (laidMet.tail (laidMet.tail (laidMet.tail h))))⟩
theorem jC (H:Type) (enc:TypeId×Value→H) (W:World) (base:Nat) (args:Array Value) (ds gs:List (DataW H)) (before:List MemPlace)
 (hval:∀ (j:Nat) t v,Tryz.f3.params[j]? = some t→args[j]? = some v→Value.okWide Tryz.prog W .any base t v)
 (hW:DataW.Whole enc Tryz.prog Tryz.f3.params.toList Rows.fnProjectSpec.vars false W args.toList ds gs before) (hS:W.ShapedOpen Tryz.prog) (hL:laidMetH Tryz.prog Rows.fnProjectRow.laid W) :
 Calls Tryz.prog 3 args W fun e W'=>∃ v,e=.returned v∧Rows.fnProjectSpec.post enc Tryz.prog Tryz.f3 false true false false W args v W':=by
 refine Ny (NQ W (aZ hS hL)) ji (l:=[22,5,4]) (tb:=4) (by kernel_rfl) (by rw[Tryz.params3];decide) rfl Tryz.kids (fun t e ht=>Tryz.full t e ht) (by rw[Tryz.params3];decide) hval hW ?_ rfl Tryz.underlying4 (fun xs hx=>?_)
 · intro hg
   subst hg
   obtain⟨p,q,hA,_⟩:=hW
   rw[Tryz.params3]at hA
   obtain⟨v0,d0,e0,rfl,_⟩:=trodAll_one hA
   exact⟨rfl,rfl,rfl⟩
 · rw [Tryz.params3] at hx
   exact S1 _ O0 xs hx
theorem prjl_holds:Rows.FnProjectCardSaid:=QY fun H enc W base args ds gs before hval hW hS hL=>jC H enc W base args ds gs before hval hW hS hL
end Go.Proofs.YtefkoljdebekdaaGreatDoor

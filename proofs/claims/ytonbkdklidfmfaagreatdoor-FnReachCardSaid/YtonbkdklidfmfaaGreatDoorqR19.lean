/- FnReach holds, and its card. Conditions: none. -/
import Derived.Test.YtonbkdklidfmfaaGreatDoorqJ
import Derived.Test.YtonbkdklidfmfaaGreatDoorqO
import Derived.Test.YtonbkdklidfmfaaGreatDoorqN
namespace Go.Proofs.YtonbkdklidfmfaaGreatDoor
open Go.ChangeShapes Go.WideShapes Go.ChangeAt Go.RowKit E
set_option maxRecDepth 100000
set_option maxHeartbeats 40000000
set_option linter.unusedVariables false
set_option linter.unusedSimpArgs false
theorem gA {W : World} (hS : W.ShapedOpen Tryz.prog) (h : laidMetH Tryz.prog Rows.fnReachRow.laid W) : gl W :=
 cr hS ⟨_, laidMet.tail (laidMet.tail h)⟩ ⟨_, laidMet.tail (laidMet.tail (laidMet.tail (laidMet.tail h)))⟩ ⟨_, laidMet.tail (laidMet.tail (laidMet.tail (laidMet.tail (laidMet.tail h))))⟩
theorem nD (H : Type) (enc : TypeId × Value → H) (W : World) (base : Nat) (args : Array Value) (ds gs : List (DataW H)) (before : List MemPlace)
 (hval : ∀ (j : Nat) t v, Tryz.f6.params[j]? = some t → args[j]? = some v → Value.okWide Tryz.prog W .any base t v)
 (hW : DataW.Whole enc Tryz.prog Tryz.f6.params.toList Rows.fnReachSpec.vars false W args.toList ds gs before) (hS : W.ShapedOpen Tryz.prog) (hL : laidMetH Tryz.prog Rows.fnReachRow.laid W) :
 Calls Tryz.prog 6 args W fun e W' => ∃ v, e = .returned v ∧ Rows.fnReachSpec.post enc Tryz.prog Tryz.f6 false true false false W args v W' := by
 refine RD (RS W (gA hS hL)) lr (l := [40, 5, 4]) (tb := 4) (by kernel_rfl) (by rw [Tryz.params6]; decide) rfl Tryz.kids (fun t e ht => Tryz.full t e ht) (by rw [Tryz.params6]; decide) hval hW ?_ rfl Tryz.underlying4 (fun xs hx => ?_)
 · intro hg
   subst hg
   obtain ⟨p, q, hA, _⟩ := hW
   rw [Tryz.params6] at hA
   obtain ⟨v0, d0, e0, rfl, _⟩ := trodAll_one hA
   exact ⟨rfl, rfl, rfl⟩
 · rw [Tryz.params6] at hx
   exact W3 xs hx
theorem reach_holds : Rows.FnReachCardSaid := W2 fun H enc W base args ds gs before hval hW hS hL => nD H enc W base args ds gs before hval hW hS hL
end Go.Proofs.YtonbkdklidfmfaaGreatDoor

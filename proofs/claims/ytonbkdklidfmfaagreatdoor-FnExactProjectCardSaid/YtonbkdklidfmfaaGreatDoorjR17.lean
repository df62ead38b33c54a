/- FnExactProject holds, and its card. Conditions: none. -/
import Derived.Test.YtonbkdklidfmfaaGreatDoorjI
import Derived.Test.YtonbkdklidfmfaaGreatDoorjO
import Derived.Test.YtonbkdklidfmfaaGreatDoorjN
namespace Go.Proofs.YtonbkdklidfmfaaGreatDoor
open Go.ChangeShapes Go.WideShapes Go.ChangeAt Go.RowKit E
set_option maxRecDepth 100000
set_option maxHeartbeats 40000000
set_option linter.unusedVariables false
set_option linter.unusedSimpArgs false
/-- what the row's list gives -/
theorem lO {W : World} (hS : W.ShapedOpen Tryz.prog) (h : laidMetH Tryz.prog Rows.fnExactProjectRow.laid W) : gf W :=
 cb hS ⟨_, laidMet.tail (laidMet.tail h)⟩ ⟨_, laidMet.tail (laidMet.tail (laidMet.tail (laidMet.tail h)))⟩ ⟨_, laidMet.tail (laidMet.tail (laidMet.tail (laidMet.tail (laidMet.tail h))))⟩
/-- what the walk gives -/
theorem pV (H : Type) (enc : TypeId × Value → H) (W : World) (base : Nat) (args : Array Value) (ds gs : List (DataW H)) (before : List MemPlace)
 (hval : ∀ (j : Nat) t v, Tryz.f3.params[j]? = some t → args[j]? = some v → Value.okWide Tryz.prog W .any base t v)
 (hW : DataW.Whole enc Tryz.prog Tryz.f3.params.toList Rows.fnExactProjectSpec.vars false W args.toList ds gs before) (hS : W.ShapedOpen Tryz.prog) (hL : laidMetH Tryz.prog Rows.fnExactProjectRow.laid W) :
 Calls Tryz.prog 3 args W fun e W' => ∃ v, e = .returned v ∧ Rows.fnExactProjectSpec.post enc Tryz.prog Tryz.f3 false true false false W args v W' := by
 refine Rn (RD W (lO hS hL)) lz (l := [3, 25, 22, 9, 23, 93, 91, 160, 4]) (tb := 4) (by kernel_rfl) (by rw [Tryz.params3]; decide) rfl Tryz.kids (fun t e ht => Tryz.full t e ht) (by rw [Tryz.params3]; decide) hval hW ?_ rfl Tryz.underlying4 (fun xs hx => ?_)
 · intro hg
   subst hg
   obtain ⟨p, q, hA, _⟩ := hW
   rw [Tryz.params3] at hA
   obtain ⟨v0, v1, d0, d1, p0, p1, rfl, rfl, _, _⟩ := trodAll_two hA
   exact ⟨rfl, rfl, rfl⟩
 · rw [Tryz.params3] at hx
   exact dX xs hx
theorem project_holds : Rows.FnExactProjectCardSaid := dW fun H enc W base args ds gs before hval hW hS hL => pV H enc W base args ds gs before hval hW hS hL
end Go.Proofs.YtonbkdklidfmfaaGreatDoor

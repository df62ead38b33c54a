/- FnExactLossy holds, and its card. Conditions: none. -/
import Derived.Test.YtonbkdklidfmfaaGreatDoorlI
import Derived.Test.YtonbkdklidfmfaaGreatDoorlO
import Derived.Test.YtonbkdklidfmfaaGreatDoorlN
namespace Go.Proofs.YtonbkdklidfmfaaGreatDoor
open Go.ChangeShapes Go.WideShapes Go.ChangeAt Go.RowKit E
set_option maxRecDepth 100000
set_option maxHeartbeats 40000000
set_option linter.unusedVariables false
set_option linter.unusedSimpArgs false
/-- what the row's list gives -/
theorem gM {W : World} (hS : W.ShapedOpen Tryz.prog) (h : laidMetH Tryz.prog Rows.fnExactLossyRow.laid W) : gx W :=
 cC hS ⟨_, laidMet.tail (laidMet.tail h)⟩ ⟨_, laidMet.tail (laidMet.tail (laidMet.tail (laidMet.tail h)))⟩ ⟨_, laidMet.tail (laidMet.tail (laidMet.tail (laidMet.tail (laidMet.tail h))))⟩
/-- what the walk gives -/
theorem nP (H : Type) (enc : TypeId × Value → H) (W : World) (base : Nat) (args : Array Value) (ds gs : List (DataW H)) (before : List MemPlace)
 (hval : ∀ (j : Nat) t v, Tryz.f4.params[j]? = some t → args[j]? = some v → Value.okWide Tryz.prog W .any base t v)
 (hW : DataW.Whole enc Tryz.prog Tryz.f4.params.toList Rows.fnExactLossySpec.vars false W args.toList ds gs before) (hS : W.ShapedOpen Tryz.prog) (hL : laidMetH Tryz.prog Rows.fnExactLossyRow.laid W) :
 Calls Tryz.prog 4 args W fun e W' => ∃ v, e = .returned v ∧ Rows.fnExactLossySpec.post enc Tryz.prog Tryz.f4 false true false false W args v W' := by
 refine Q4 (Qj W (gM hS hL)) lE (l := [3, 25, 22, 9, 23, 93, 91, 160, 4]) (tb := 4) (by kernel_rfl) (by rw [Tryz.params4]; decide) rfl Tryz.kids (fun t e ht => Tryz.full t e ht) (by rw [Tryz.params4]; decide) hval hW ?_ rfl Tryz.underlying4 (fun xs hx => ?_)
 · intro hg
   subst hg
   obtain ⟨p, q, hA, _⟩ := hW
   rw [Tryz.params4] at hA
   obtain ⟨v0, v1, d0, d1, p0, p1, rfl, rfl, _, _⟩ := trodAll_two hA
   exact ⟨rfl, rfl, rfl⟩
 · rw [Tryz.params4] at hx
   exact WQ xs hx
theorem lossy_holds : Rows.FnExactLossyCardSaid := WO fun H enc W base args ds gs before hval hW hS hL => nP H enc W base args ds gs before hval hW hS hL
end Go.Proofs.YtonbkdklidfmfaaGreatDoor

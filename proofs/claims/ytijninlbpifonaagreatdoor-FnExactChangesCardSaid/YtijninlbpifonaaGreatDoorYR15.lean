/- FnExactChanges holds, and its card. Conditions: none. -/
import Derived.Test.YtijninlbpifonaaGreatDoorYI
import Derived.Test.YtijninlbpifonaaGreatDoorYO
import Derived.Test.YtijninlbpifonaaGreatDoorYN
namespace Go.Proofs.YtijninlbpifonaaGreatDoor
open Go.ChangeShapes Go.WideShapes Go.ChangeAt Go.RowKit E
set_option maxRecDepth 100000
set_option maxHeartbeats 40000000
set_option linter.unusedVariables false
set_option linter.unusedSimpArgs false
/-- what the row's list gives -/
theorem lY {W : World} (hS : W.ShapedOpen Tryz.prog) (h : laidMetH Tryz.prog Rows.fnExactChangesRow.laid W) : qw W :=
 cS hS ⟨_, laidMet.tail (laidMet.tail h)⟩ ⟨_, laidMet.tail (laidMet.tail (laidMet.tail (laidMet.tail h)))⟩ ⟨_, laidMet.tail (laidMet.tail (laidMet.tail (laidMet.tail (laidMet.tail h))))⟩
/-- what the walk gives -/
theorem pC (H : Type) (enc : TypeId × Value → H) (W : World) (base : Nat) (args : Array Value) (ds gs : List (DataW H)) (before : List MemPlace)
 (hval : ∀ (j : Nat) t v, Tryz.f5.params[j]? = some t → args[j]? = some v → Value.okWide Tryz.prog W .any base t v)
 (hW : DataW.Whole enc Tryz.prog Tryz.f5.params.toList Rows.fnExactChangesSpec.vars false W args.toList ds gs before) (hS : W.ShapedOpen Tryz.prog) (hL : laidMetH Tryz.prog Rows.fnExactChangesRow.laid W) :
 Calls Tryz.prog 5 args W fun e W' => ∃ v, e = .returned v ∧ Rows.fnExactChangesSpec.post enc Tryz.prog Tryz.f5 false true false false W args v W' := by
 refine QX (Rw W (lY hS hL)) SX (l := [25, 22, 9, 23, 172, 170, 262, 4]) (tb := 4) (by kernel_rfl) (by rw [Tryz.params5]; decide) rfl Tryz.kids (fun t e ht => Tryz.full t e ht) (by rw [Tryz.params5]; decide) hval hW ?_ rfl Tryz.underlying4 (fun xs hx => ?_)
 · intro hg
   subst hg
   obtain ⟨p, q, hA, _⟩ := hW
   rw [Tryz.params5] at hA
   obtain ⟨v0, v1, d0, d1, p0, p1, rfl, rfl, _, _⟩ := trodAll_two hA
   exact ⟨rfl, rfl, rfl⟩
 · rw [Tryz.params5] at hx
   exact b6 xs hx
theorem changes_holds : Rows.FnExactChangesCardSaid := b5 fun H enc W base args ds gs before hval hW hS hL => pC H enc W base args ds gs before hval hW hS hL
end Go.Proofs.YtijninlbpifonaaGreatDoor

/- FnReach at its row and card, but for the walk. Conditions: none. -/
import Derived.Test.YtonbkdklidfmfaaGreatDoorqA
namespace Go.Proofs.YtonbkdklidfmfaaGreatDoor
open Go.ChangeShapes Go.WideShapes Go.ChangeAt Go.RowKit
set_option maxRecDepth 100000
set_option maxHeartbeats 40000000
set_option linter.unusedVariables false
set_option linter.unusedSimpArgs false
def uq : Prop := ∀ (H : Type) (enc : TypeId × Value → H) (W : World) (base : Nat) (args : Array Value) (ds gs : List (DataW H)) (before : List MemPlace)
 (hval : ∀ (j : Nat) t v, Tryz.f6.params[j]? = some t → args[j]? = some v → Value.okWide Tryz.prog W .any base t v)
 (hW : DataW.Whole enc Tryz.prog Tryz.f6.params.toList Rows.fnReachSpec.vars false W args.toList ds gs before) (hS : W.ShapedOpen Tryz.prog) (hL : laidMetH Tryz.prog Rows.fnReachRow.laid W),
 Calls Tryz.prog 6 args W fun e W' => ∃ v, e = .returned v ∧ Rows.fnReachSpec.post enc Tryz.prog Tryz.f6 false true false false W args v W'
def tr : Array Value := #[.slice none 0 0]
theorem ch (os : Os) : laidMet Tryz.prog Rows.fnReachRow.laid ((pU os).forCall (fun _ _ => 0) ⟨#[], tr, []⟩).memory :=
 laidMet_of_run' 8 (by kernel_rfl) (by kernel_rfl)
theorem gB (os : Os) {H : Type} (enc : TypeId × Value → H) : ∃ places, DataW.whole enc Tryz.prog ((pU os).forCall (fun _ _ => 0) ⟨#[], tr, []⟩).memory Tryz.f6.params.toList Rows.fnReachSpec.vars false tr.toList 8 = some ([.nil], [], places) :=
 ⟨[], by kernel_rfl⟩
theorem jH (hc : uq) (os : Os) (started : os.Started) (H : Type) (enc : TypeId × Value → H) (F : Stop.Interp) :
 ReturnsInHanded {} Tryz.checked os 6 .any ((OpenSpec.ofChange Rows.fnReachSpec).preRow enc Tryz.prog Tryz.f6 Rows.fnReachRow.domain false Rows.fnReachRow.laid) (((OpenSpec.ofChange Rows.fnReachSpec).at F).post enc Tryz.prog Tryz.f6 false true false false) := by
 obtain ⟨places, hx⟩ := gB os enc
 refine returnsInHanded_of_row (C := Tryz.checked) (s := OpenSpec.ofChange Rows.fnReachSpec) (show ownKnob Tryz.prog.godebug = none by kernel_rfl) started (by kernel_rfl) Tryz.func6
  (witness_row_at (enc := enc) (C := Tryz.checked) false (pU os) tr rfl (by kernel_rfl) (by kernel_rfl) (by kernel_rfl)
   (OpenSpec.preRow_of_cond 8 hx (by kernel_rfl) (fun k hk => by cases hk) (by kernel_rfl) (ch os))) ?_
 intro W base args ds gs before hval hW _ _ _ hL hS _
 exact hc H enc W base args ds gs before hval hW hS hL
theorem Qq {a b : Bool} (h : a = true) (k : b = true) : (a && b) = true := by rw [h, k]; rfl
theorem jI : joinedFacts Tryz.pinned.checked.prog 6 Tryz.f6 (OpenSpec.ofChange Rows.fnReachSpec).bare Rows.fnReachRow = true := by
 unfold joinedFacts
 iterate 31 (with_reducible refine Qq ?_ ?_)
 all_goals (as_aux_lemma => kernel_rfl)
theorem cg (hc : uq) : Rows.FnReachSaid :=
 OpenClaim.holds_of_cond 6 Tryz.f6 rfl rfl rfl rfl rfl rfl rfl ⟨rfl, rfl, rfl, rfl, rfl⟩ rfl rfl rfl rfl rfl (by as_aux_lemma => kernel_rfl) Tryz.func6 jI
  (of_decide_eq_true (by as_aux_lemma => kernel_rfl)) (by as_aux_lemma => unfold Func.isWrapper; first | (rw [if_pos (by decide +kernel)]; kernel_rfl) | (rw [if_neg (by decide +kernel)]; exact ⟨rfl, rfl⟩))
  (fun os started H enc _ F => by rw [OpenClaim.pre_eq_preRow]; exact jH hc os started H enc F)
theorem gC (f : FuncId) (fn : Func) (hf : Tryz.pinned.checked.prog.funcNamed "loop.example/g00445/laws.FnReach" = some f) (hfn : Tryz.pinned.checked.prog.funcs[f]? = some fn) :
 true = Tryz.pinned.checked.prog.looks [] ∧ ∀ (j : Nat) t, fn.params[j]? = some t → Tryz.pinned.checked.prog.wantsStandIn t = false := by
 obtain rfl : f = 6 := Option.some.inj ((show Tryz.prog.funcNamed "loop.example/g00445/laws.FnReach" = some 6 by kernel_rfl).symm.trans hf) |>.symm
 obtain rfl : fn = Tryz.f6 := (Option.some.inj (Tryz.func6.symm.trans hfn)).symm
 refine ⟨by as_aux_lemma => kernel_rfl, fun j t ht => ?_⟩
 rw [Tryz.params6] at ht
 have h0 := Array.mem_of_getElem? ht
 obtain rfl : t = 40 := by simpa using h0
 exact (show Tryz.prog.wantsStandIn 40 = false by kernel_rfl)
theorem W2 (hc : uq) : Rows.FnReachCardSaid :=
 Claim7.holds_tied_plain_at .later [] _ _ _ _ (cg hc) (fun _ h => by cases h) (by as_aux_lemma => kernel_rfl) (fun _ h => by cases h) fnReach_row_tie rfl ⟨rfl, rfl⟩ (by as_aux_lemma => kernel_rfl) rfl gC (by as_aux_lemma => kernel_rfl)
end Go.Proofs.YtonbkdklidfmfaaGreatDoor

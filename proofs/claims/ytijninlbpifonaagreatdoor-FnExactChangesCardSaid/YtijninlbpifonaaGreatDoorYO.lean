/- FnExactChanges at its row and card, but for the walk. Conditions: none. -/
import Derived.Test.YtijninlbpifonaaGreatDoorYA
namespace Go.Proofs.YtijninlbpifonaaGreatDoor
open Go.ChangeShapes Go.WideShapes Go.ChangeAt Go.RowKit
set_option maxRecDepth 100000
set_option maxHeartbeats 40000000
set_option linter.unusedVariables false
set_option linter.unusedSimpArgs false
/-- what the walk has to give -/
def v7 : Prop := ∀ (H : Type) (enc : TypeId × Value → H) (W : World) (base : Nat) (args : Array Value) (ds gs : List (DataW H)) (before : List MemPlace)
 (hval : ∀ (j : Nat) t v, Tryz.f5.params[j]? = some t → args[j]? = some v → Value.okWide Tryz.prog W .any base t v)
 (hW : DataW.Whole enc Tryz.prog Tryz.f5.params.toList Rows.fnExactChangesSpec.vars false W args.toList ds gs before) (hS : W.ShapedOpen Tryz.prog) (hL : laidMetH Tryz.prog Rows.fnExactChangesRow.laid W),
 Calls Tryz.prog 5 args W fun e W' => ∃ v, e = .returned v ∧ Rows.fnExactChangesSpec.post enc Tryz.prog Tryz.f5 false true false false W args v W'
def vk : Array Value := #[.agg #[.slice none 0 0, .slice none 0 0], .agg #[.slice none 0 0, .slice none 0 0]]
theorem ic (os : Os) : laidMet Tryz.prog Rows.fnExactChangesRow.laid ((pO os).forCall (fun _ _ => 0) ⟨#[], vk, []⟩).memory :=
 laidMet_of_run' 8 (by kernel_rfl) (by kernel_rfl)
theorem lZ (os : Os) {H : Type} (enc : TypeId × Value → H) : ∃ places, DataW.whole enc Tryz.prog ((pO os).forCall (fun _ _ => 0) ⟨#[], vk, []⟩).memory Tryz.f5.params.toList Rows.fnExactChangesSpec.vars false vk.toList 8 = some ([.agg [.nil, .nil], .agg [.nil, .nil]], [], places) :=
 ⟨[], by kernel_rfl⟩
theorem nO (hc : v7) (os : Os) (started : os.Started) (H : Type) (enc : TypeId × Value → H) (F : Stop.Interp) :
 ReturnsInHanded {} Tryz.checked os 5 .any ((OpenSpec.ofChange Rows.fnExactChangesSpec).preRow enc Tryz.prog Tryz.f5 Rows.fnExactChangesRow.domain false Rows.fnExactChangesRow.laid) (((OpenSpec.ofChange Rows.fnExactChangesSpec).at F).post enc Tryz.prog Tryz.f5 false true false false) := by
 obtain ⟨places, hx⟩ := lZ os enc
 refine returnsInHanded_of_row (C := Tryz.checked) (s := OpenSpec.ofChange Rows.fnExactChangesSpec) (show ownKnob Tryz.prog.godebug = none by kernel_rfl) started (by kernel_rfl) Tryz.func5
  (witness_row_at (enc := enc) (C := Tryz.checked) false (pO os) vk rfl (by kernel_rfl) (by kernel_rfl) (by kernel_rfl)
   (OpenSpec.preRow_of_cond 8 hx (by kernel_rfl) (fun k hk => by cases hk) (by kernel_rfl) (ic os))) ?_
 intro W base args ds gs before hval hW _ _ _ hL hS _
 exact hc H enc W base args ds gs before hval hW hS hL
theorem Py {a b : Bool} (h : a = true) (k : b = true) : (a && b) = true := by rw [h, k]; rfl
/-- what the program's text settles, each apart -/
theorem nP : joinedFacts Tryz.pinned.checked.prog 5 Tryz.f5 (OpenSpec.ofChange Rows.fnExactChangesSpec).bare Rows.fnExactChangesRow = true := by
 unfold joinedFacts
 iterate 31 (with_reducible refine Py ?_ ?_)
 all_goals (as_aux_lemma => kernel_rfl)
theorem ib (hc : v7) : Rows.FnExactChangesSaid :=
 OpenClaim.holds_of_cond 5 Tryz.f5 rfl rfl rfl rfl rfl rfl rfl ⟨rfl, rfl, rfl, rfl, rfl⟩ rfl rfl rfl rfl rfl (by as_aux_lemma => kernel_rfl) Tryz.func5 nP
  (of_decide_eq_true (by as_aux_lemma => kernel_rfl)) (by as_aux_lemma => unfold Func.isWrapper; first | (rw [if_pos (by decide +kernel)]; kernel_rfl) | (rw [if_neg (by decide +kernel)]; exact ⟨rfl, rfl⟩))
  (fun os started H enc _ F => by rw [OpenClaim.pre_eq_preRow]; exact nO hc os started H enc F)
/-- no parameter wants a stand-in; the program's own looks are off -/
theorem k9 (f : FuncId) (fn : Func) (hf : Tryz.pinned.checked.prog.funcNamed "loop.example/g00445/laws.FnExactChanges" = some f) (hfn : Tryz.pinned.checked.prog.funcs[f]? = some fn) :
 true = Tryz.pinned.checked.prog.looks [] ∧ ∀ (j : Nat) t, fn.params[j]? = some t → Tryz.pinned.checked.prog.wantsStandIn t = false := by
 obtain rfl : f = 5 := Option.some.inj ((show Tryz.prog.funcNamed "loop.example/g00445/laws.FnExactChanges" = some 5 by kernel_rfl).symm.trans hf) |>.symm
 obtain rfl : fn = Tryz.f5 := (Option.some.inj (Tryz.func5.symm.trans hfn)).symm
 refine ⟨by as_aux_lemma => kernel_rfl, fun j t ht => ?_⟩
 rw [Tryz.params5] at ht
 have h0 := Array.mem_of_getElem? ht
 obtain rfl : t = 25 := by simpa using h0
 exact (show Tryz.prog.wantsStandIn 25 = false by kernel_rfl)
theorem b5 (hc : v7) : Rows.FnExactChangesCardSaid :=
 Claim7.holds_tied_plain_at .later [] _ _ _ _ (ib hc) (fun _ h => by cases h) (by as_aux_lemma => kernel_rfl) (fun _ h => by cases h) fnExactChanges_row_tie rfl ⟨rfl, rfl⟩ (by as_aux_lemma => kernel_rfl) rfl k9 (by as_aux_lemma => kernel_rfl)
end Go.Proofs.YtijninlbpifonaaGreatDoor

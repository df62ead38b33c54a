/- FnExactPrune at its row and card, but for the walk. Conditions: none. -/
import Derived.Test.YtijninlbpifonaaGreatDoorUA
namespace Go.Proofs.YtijninlbpifonaaGreatDoor
open Go.ChangeShapes Go.WideShapes Go.ChangeAt Go.RowKit
set_option maxRecDepth 100000
set_option maxHeartbeats 40000000
set_option linter.unusedVariables false
set_option linter.unusedSimpArgs false
/-- what the walk has to give -/
def vP : Prop := ∀ (H : Type) (enc : TypeId × Value → H) (W : World) (base : Nat) (args : Array Value) (ds gs : List (DataW H)) (before : List MemPlace)
 (hval : ∀ (j : Nat) t v, Tryz.f4.params[j]? = some t → args[j]? = some v → Value.okWide Tryz.prog W .any base t v)
 (hW : DataW.Whole enc Tryz.prog Tryz.f4.params.toList Rows.fnExactPruneSpec.vars false W args.toList ds gs before) (hS : W.ShapedOpen Tryz.prog) (hL : laidMetH Tryz.prog Rows.fnExactPruneRow.laid W),
 Calls Tryz.prog 4 args W fun e W' => ∃ v, e = .returned v ∧ Rows.fnExactPruneSpec.post enc Tryz.prog Tryz.f4 false true false false W args v W'
def uL : Array Value := #[.agg #[.slice none 0 0, .slice none 0 0]]
theorem ev (os : Os) : laidMet Tryz.prog Rows.fnExactPruneRow.laid ((qM os).forCall (fun _ _ => 0) ⟨#[], uL, []⟩).memory :=
 laidMet_of_run' 8 (by kernel_rfl) (by kernel_rfl)
theorem jU (os : Os) {H : Type} (enc : TypeId × Value → H) : ∃ places, DataW.whole enc Tryz.prog ((qM os).forCall (fun _ _ => 0) ⟨#[], uL, []⟩).memory Tryz.f4.params.toList Rows.fnExactPruneSpec.vars false uL.toList 8 = some ([.agg [.nil, .nil]], [], places) :=
 ⟨[], by kernel_rfl⟩
theorem kG (hc : vP) (os : Os) (started : os.Started) (H : Type) (enc : TypeId × Value → H) (F : Stop.Interp) :
 ReturnsInHanded {} Tryz.checked os 4 .any ((OpenSpec.ofChange Rows.fnExactPruneSpec).preRow enc Tryz.prog Tryz.f4 Rows.fnExactPruneRow.domain false Rows.fnExactPruneRow.laid) (((OpenSpec.ofChange Rows.fnExactPruneSpec).at F).post enc Tryz.prog Tryz.f4 false true false false) := by
 obtain ⟨places, hx⟩ := jU os enc
 refine returnsInHanded_of_row (C := Tryz.checked) (s := OpenSpec.ofChange Rows.fnExactPruneSpec) (show ownKnob Tryz.prog.godebug = none by kernel_rfl) started (by kernel_rfl) Tryz.func4
  (witness_row_at (enc := enc) (C := Tryz.checked) false (qM os) uL rfl (by kernel_rfl) (by kernel_rfl) (by kernel_rfl)
   (OpenSpec.preRow_of_cond 8 hx (by kernel_rfl) (fun k hk => by cases hk) (by kernel_rfl) (ev os))) ?_
 intro W base args ds gs before hval hW _ _ _ hL hS _
 exact hc H enc W base args ds gs before hval hW hS hL
theorem TR {a b : Bool} (h : a = true) (k : b = true) : (a && b) = true := by rw [h, k]; rfl
/-- what the program's text settles, each apart -/
theorem kH : joinedFacts Tryz.pinned.checked.prog 4 Tryz.f4 (OpenSpec.ofChange Rows.fnExactPruneSpec).bare Rows.fnExactPruneRow = true := by
 unfold joinedFacts
 iterate 31 (with_reducible refine TR ?_ ?_)
 all_goals (as_aux_lemma => kernel_rfl)
theorem eu (hc : vP) : Rows.FnExactPruneSaid :=
 OpenClaim.holds_of_cond 4 Tryz.f4 rfl rfl rfl rfl rfl rfl rfl ⟨rfl, rfl, rfl, rfl, rfl⟩ rfl rfl rfl rfl rfl (by as_aux_lemma => kernel_rfl) Tryz.func4 kH
  (of_decide_eq_true (by as_aux_lemma => kernel_rfl)) (by as_aux_lemma => unfold Func.isWrapper; first | (rw [if_pos (by decide +kernel)]; kernel_rfl) | (rw [if_neg (by decide +kernel)]; exact ⟨rfl, rfl⟩))
  (fun os started H enc _ F => by rw [OpenClaim.pre_eq_preRow]; exact kG hc os started H enc F)
/-- no parameter wants a stand-in; the program's own looks are off -/
theorem jV (f : FuncId) (fn : Func) (hf : Tryz.pinned.checked.prog.funcNamed "loop.example/g00445/laws.FnExactPrune" = some f) (hfn : Tryz.pinned.checked.prog.funcs[f]? = some fn) :
 true = Tryz.pinned.checked.prog.looks [] ∧ ∀ (j : Nat) t, fn.params[j]? = some t → Tryz.pinned.checked.prog.wantsStandIn t = false := by
 obtain rfl : f = 4 := Option.some.inj ((show Tryz.prog.funcNamed "loop.example/g00445/laws.FnExactPrune" = some 4 by kernel_rfl).symm.trans hf) |>.symm
 obtain rfl : fn = Tryz.f4 := (Option.some.inj (Tryz.func4.symm.trans hfn)).symm
 refine ⟨by as_aux_lemma => kernel_rfl, fun j t ht => ?_⟩
 rw [Tryz.params4] at ht
 have h0 := Array.mem_of_getElem? ht
 obtain rfl : t = 25 := by simpa using h0
 exact (show Tryz.prog.wantsStandIn 25 = false by kernel_rfl)
theorem YX (hc : vP) : Rows.FnExactPruneCardSaid :=
 Claim7.holds_tied_plain_at .later [] _ _ _ _ (eu hc) (fun _ h => by cases h) (by as_aux_lemma => kernel_rfl) (fun _ h => by cases h) fnExactPrune_row_tie rfl ⟨rfl, rfl⟩ (by as_aux_lemma => kernel_rfl) rfl jV (by as_aux_lemma => kernel_rfl)
end Go.Proofs.YtijninlbpifonaaGreatDoor

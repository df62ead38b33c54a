/- FnExactProject at its row and card, but for the walk. Conditions: none. -/
import Derived.Test.YtonbkdklidfmfaaGreatDoorjA
namespace Go.Proofs.YtonbkdklidfmfaaGreatDoor
open Go.ChangeShapes Go.WideShapes Go.ChangeAt Go.RowKit
set_option maxRecDepth 100000
set_option maxHeartbeats 40000000
set_option linter.unusedVariables false
set_option linter.unusedSimpArgs false
/-- what the walk has to give -/
def vI : Prop := ∀ (H : Type) (enc : TypeId × Value → H) (W : World) (base : Nat) (args : Array Value) (ds gs : List (DataW H)) (before : List MemPlace)
 (hval : ∀ (j : Nat) t v, Tryz.f3.params[j]? = some t → args[j]? = some v → Value.okWide Tryz.prog W .any base t v)
 (hW : DataW.Whole enc Tryz.prog Tryz.f3.params.toList Rows.fnExactProjectSpec.vars false W args.toList ds gs before) (hS : W.ShapedOpen Tryz.prog) (hL : laidMetH Tryz.prog Rows.fnExactProjectRow.laid W),
 Calls Tryz.prog 3 args W fun e W' => ∃ v, e = .returned v ∧ Rows.fnExactProjectSpec.post enc Tryz.prog Tryz.f3 false true false false W args v W'
def vP : Array Value := #[.int .i64 0, .agg #[.slice none 0 0, .slice none 0 0]]
theorem jH (os : Os) : laidMet Tryz.prog Rows.fnExactProjectRow.laid ((o7 os).forCall (fun _ _ => 0) ⟨#[], vP, []⟩).memory :=
 laidMet_of_run' 8 (by kernel_rfl) (by kernel_rfl)
theorem lP (os : Os) {H : Type} (enc : TypeId × Value → H) : ∃ places, DataW.whole enc Tryz.prog ((o7 os).forCall (fun _ _ => 0) ⟨#[], vP, []⟩).memory Tryz.f3.params.toList Rows.fnExactProjectSpec.vars false vP.toList 8 = some ([.lit (.int .i64 0), .agg [.nil, .nil]], [], places) :=
 ⟨[], by kernel_rfl⟩
theorem nG (hc : vI) (os : Os) (started : os.Started) (H : Type) (enc : TypeId × Value → H) (F : Stop.Interp) :
 ReturnsInHanded {} Tryz.checked os 3 .any ((OpenSpec.ofChange Rows.fnExactProjectSpec).preRow enc Tryz.prog Tryz.f3 Rows.fnExactProjectRow.domain false Rows.fnExactProjectRow.laid) (((OpenSpec.ofChange Rows.fnExactProjectSpec).at F).post enc Tryz.prog Tryz.f3 false true false false) := by
 obtain ⟨places, hx⟩ := lP os enc
 refine returnsInHanded_of_row (C := Tryz.checked) (s := OpenSpec.ofChange Rows.fnExactProjectSpec) (show ownKnob Tryz.prog.godebug = none by kernel_rfl) started (by kernel_rfl) Tryz.func3
  (witness_row_at (enc := enc) (C := Tryz.checked) false (o7 os) vP rfl (by kernel_rfl) (by kernel_rfl) (by kernel_rfl)
   (OpenSpec.preRow_of_cond 8 hx (by kernel_rfl) (fun k hk => by cases hk) (by kernel_rfl) (jH os))) ?_
 intro W base args ds gs before hval hW _ _ _ hL hS _
 exact hc H enc W base args ds gs before hval hW hS hL
theorem Qa {a b : Bool} (h : a = true) (k : b = true) : (a && b) = true := by rw [h, k]; rfl
/-- what the program's text settles, each apart -/
theorem nJ : joinedFacts Tryz.pinned.checked.prog 3 Tryz.f3 (OpenSpec.ofChange Rows.fnExactProjectSpec).bare Rows.fnExactProjectRow = true := by
 unfold joinedFacts
 iterate 31 (with_reducible refine Qa ?_ ?_)
 all_goals (as_aux_lemma => kernel_rfl)
theorem jG (hc : vI) : Rows.FnExactProjectSaid :=
 OpenClaim.holds_of_cond 3 Tryz.f3 rfl rfl rfl rfl rfl rfl rfl ⟨rfl, rfl, rfl, rfl, rfl⟩ rfl rfl rfl rfl rfl (by as_aux_lemma => kernel_rfl) Tryz.func3 nJ
  (of_decide_eq_true (by as_aux_lemma => kernel_rfl)) (by as_aux_lemma => unfold Func.isWrapper; first | (rw [if_pos (by decide +kernel)]; kernel_rfl) | (rw [if_neg (by decide +kernel)]; exact ⟨rfl, rfl⟩))
  (fun os started H enc _ F => by rw [OpenClaim.pre_eq_preRow]; exact nG hc os started H enc F)
/-- no parameter wants a stand-in; the program's own looks are off -/
theorem lQ (f : FuncId) (fn : Func) (hf : Tryz.pinned.checked.prog.funcNamed "loop.example/g00445/laws.FnExactProject" = some f) (hfn : Tryz.pinned.checked.prog.funcs[f]? = some fn) :
 true = Tryz.pinned.checked.prog.looks [] ∧ ∀ (j : Nat) t, fn.params[j]? = some t → Tryz.pinned.checked.prog.wantsStandIn t = false := by
 obtain rfl : f = 3 := Option.some.inj ((show Tryz.prog.funcNamed "loop.example/g00445/laws.FnExactProject" = some 3 by kernel_rfl).symm.trans hf) |>.symm
 obtain rfl : fn = Tryz.f3 := (Option.some.inj (Tryz.func3.symm.trans hfn)).symm
 refine ⟨by as_aux_lemma => kernel_rfl, fun j t ht => ?_⟩
 rw [Tryz.params3] at ht
 have h0 := Array.mem_of_getElem? ht
 have h1 : t = 3 ∨ t = 25 := by simpa using h0
 rcases h1 with rfl | rfl
 · exact (show Tryz.prog.wantsStandIn 3 = false by kernel_rfl)
 · exact (show Tryz.prog.wantsStandIn 25 = false by kernel_rfl)
theorem dW (hc : vI) : Rows.FnExactProjectCardSaid :=
 Claim7.holds_tied_plain_at .later [] _ _ _ _ (jG hc) (fun _ h => by cases h) (by as_aux_lemma => kernel_rfl) (fun _ h => by cases h) fnExactProject_row_tie rfl ⟨rfl, rfl⟩ (by as_aux_lemma => kernel_rfl) rfl lQ (by as_aux_lemma => kernel_rfl)
end Go.Proofs.YtonbkdklidfmfaaGreatDoor

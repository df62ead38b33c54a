/- FnExactMend holds, and its card. Conditions: none. -/
import Derived.Test.YtijninlbpifonaaGreatDoorZH
import Derived.Carry
import Derived.Test.YtijninlbpifonaaGreatDoorZM
namespace Go.Proofs.YtijninlbpifonaaGreatDoor
open Go.ChangeShapes Go.WideShapes Go.ChangeAt Go.RowKit E
set_option maxRecDepth 100000
set_option maxHeartbeats 40000000
set_option linter.unusedVariables false
set_option linter.unusedSimpArgs false
/-- what the row's list gives -/
theorem cT {W : World} (hS : W.ShapedOpen Tryz.prog) (h : laidMetH Tryz.prog Rows.fnExactMendRow.laid W) : qz W :=
 cZ hS ⟨_, laidMet.tail (laidMet.tail h)⟩ ⟨_, laidMet.tail (laidMet.tail (laidMet.tail (laidMet.tail h)))⟩ ⟨_, laidMet.tail (laidMet.tail (laidMet.tail (laidMet.tail (laidMet.tail h))))⟩
/-- what the walk gives -/
theorem kd (H : Type) (enc : TypeId × Value → H) (W : World) (base : Nat) (args : Array Value) (ds gs : List (DataW H)) (before : List MemPlace)
 (hval : ∀ (j : Nat) t v, Tryz.f3.params[j]? = some t → args[j]? = some v → Value.okWide Tryz.prog W .any base t v)
 (hW : DataW.Whole enc Tryz.prog Tryz.f3.params.toList Rows.fnExactMendSpec.vars false W args.toList ds gs before) (hS : W.ShapedOpen Tryz.prog) (hL : laidMetH Tryz.prog Rows.fnExactMendRow.laid W) :
 Calls Tryz.prog 3 args W fun e W' => ∃ v, e = .returned v ∧ Rows.fnExactMendSpec.post enc Tryz.prog Tryz.f3 false true false false W args v W' := by
 refine Qb (SN W (cT hS hL)) S7 (l := [25, 22, 9, 23, 172, 170, 262, 26, 104, 4]) (tb := 4) (by kernel_rfl) (by rw [Tryz.params3]; decide) rfl Tryz.kids (fun t e ht => Tryz.full t e ht) (by rw [Tryz.params3]; decide) hval hW ?_ rfl Tryz.underlying4 (fun xs hx => ?_)
 · intro hg
   subst hg
   obtain ⟨p, q, hA, _⟩ := hW
   rw [Tryz.params3] at hA
   obtain ⟨v0, v1, v2, v3, d0, d1, d2, d3, p0, p1, p2, p3, rfl, rfl, _, _⟩ := trodAll_four hA
   exact ⟨rfl, rfl, rfl⟩
 · rw [Tryz.params3] at hx
   exact Sr xs hx
def sV : Array Value := #[.agg #[.slice none 0 0, .slice none 0 0], .slice none 0 0, .string { data := #[] }, .slice none 0 0]
theorem X5 (os : Os) : laidMet Tryz.prog Rows.fnExactMendRow.laid ((pT os).forCall (fun _ _ => 0) ⟨#[], sV, []⟩).memory :=
 laidMet_of_run' 8 (by kernel_rfl) (by kernel_rfl)
theorem cU (os : Os) {H : Type} (enc : TypeId × Value → H) : ∃ places, DataW.whole enc Tryz.prog ((pT os).forCall (fun _ _ => 0) ⟨#[], sV, []⟩).memory Tryz.f3.params.toList Rows.fnExactMendSpec.vars false sV.toList 8 = some ([.agg [.nil, .nil], .nil, .lit (.string []), .nil], [], places) :=
 ⟨[], by kernel_rfl⟩
theorem gJ (os : Os) (started : os.Started) (H : Type) (enc : TypeId × Value → H) (F : Stop.Interp) :
 ReturnsInHanded {} Tryz.checked os 3 .any ((OpenSpec.ofChange Rows.fnExactMendSpec).preRow enc Tryz.prog Tryz.f3 Rows.fnExactMendRow.domain false Rows.fnExactMendRow.laid) (((OpenSpec.ofChange Rows.fnExactMendSpec).at F).post enc Tryz.prog Tryz.f3 false true false false) := by
 obtain ⟨places, hx⟩ := cU os enc
 refine returnsInHanded_of_row (C := Tryz.checked) (s := OpenSpec.ofChange Rows.fnExactMendSpec) Tryz.own started (by kernel_rfl) Tryz.func3
  (witness_row_at (enc := enc) (C := Tryz.checked) false (pT os) sV rfl (by kernel_rfl) (by kernel_rfl) (by kernel_rfl)
   (OpenSpec.preRow_of_cond 8 hx (by kernel_rfl) (fun k hk => by cases hk) (by kernel_rfl) (X5 os))) ?_
 intro W base args ds gs before hval hW _ _ _ hL hS _
 exact kd H enc W base args ds gs before hval hW hS hL
theorem QN {a b : Bool} (h : a = true) (k : b = true) : (a && b) = true := by rw [h, k]; rfl
/-- what the program's text settles, each apart -/
theorem gK : joinedFacts Tryz.pinned.checked.prog 3 Tryz.f3 (OpenSpec.ofChange Rows.fnExactMendSpec).bare Rows.fnExactMendRow = true := by
 unfold joinedFacts
 iterate 31 (with_reducible refine QN ?_ ?_)
 all_goals (as_aux_lemma => kernel_rfl)
theorem X4 : Rows.FnExactMendSaid :=
 OpenClaim.holds_of_cond 3 Tryz.f3 rfl rfl rfl rfl rfl rfl rfl ⟨rfl, rfl, rfl, rfl, rfl⟩ rfl rfl rfl rfl rfl (by as_aux_lemma => kernel_rfl) Tryz.func3 gK
  (of_decide_eq_true (by as_aux_lemma => kernel_rfl)) (by as_aux_lemma => unfold Func.isWrapper; first | (rw [if_pos (by decide +kernel)]; kernel_rfl) | (rw [if_neg (by decide +kernel)]; exact ⟨rfl, rfl⟩))
  (fun os started H enc _ F => by rw [OpenClaim.pre_eq_preRow]; exact gJ os started H enc F)
/-- no parameter wants a stand-in; the program's own looks are off -/
theorem cV (f : FuncId) (fn : Func) (hf : Tryz.pinned.checked.prog.funcNamed "loop.example/g00445/laws.FnExactMend" = some f) (hfn : Tryz.pinned.checked.prog.funcs[f]? = some fn) :
 true = Tryz.pinned.checked.prog.looks [] ∧ ∀ (j : Nat) t, fn.params[j]? = some t → Tryz.pinned.checked.prog.wantsStandIn t = false := by
 obtain rfl : f = 3 := Option.some.inj ((show Tryz.prog.funcNamed "loop.example/g00445/laws.FnExactMend" = some 3 by kernel_rfl).symm.trans hf) |>.symm
 obtain rfl : fn = Tryz.f3 := (Option.some.inj (Tryz.func3.symm.trans hfn)).symm
 refine ⟨by as_aux_lemma => kernel_rfl, fun j t ht => ?_⟩
 rw [Tryz.params3] at ht
 have h0 := Array.mem_of_getElem? ht
 have h1 : t = 25 ∨ t = 26 ∨ t = 9 ∨ t = 22 := by simpa using h0
 rcases h1 with rfl | rfl | rfl | rfl
 · exact (show Tryz.prog.wantsStandIn 25 = false by kernel_rfl)
 · exact (show Tryz.prog.wantsStandIn 26 = false by kernel_rfl)
 · exact (show Tryz.prog.wantsStandIn 9 = false by kernel_rfl)
 · exact (show Tryz.prog.wantsStandIn 22 = false by kernel_rfl)
theorem mend_holds : Rows.FnExactMendCardSaid :=
 Claim7.holds_tied_plain_at .later [] _ _ _ _ X4 (fun _ h => by cases h) (by as_aux_lemma => kernel_rfl) (fun _ h => by cases h) fnExactMend_row_tie rfl ⟨rfl, rfl⟩ (by as_aux_lemma => kernel_rfl) rfl cV (by as_aux_lemma => kernel_rfl)
end Go.Proofs.YtijninlbpifonaaGreatDoor

/- FnExactBlame holds, and its card. Conditions: none. -/
import Derived.Test.YtmcephnfcciloaaGreatDoorYH
import Derived.Test.YtmcephnfcciloaaGreatDoorYM
namespace Go.Proofs.YtmcephnfcciloaaGreatDoor
open Go.ChangeShapes Go.WideShapes Go.ChangeAt Go.RowKit E
set_option maxRecDepth 100000
set_option maxHeartbeats 40000000
set_option linter.unusedVariables false
set_option linter.unusedSimpArgs false
/-- what the row's list gives -/
theorem gy {W : World} (hS : W.ShapedOpen Tryz.prog) (h : laidMetH Tryz.prog Rows.fnExactBlameRow.laid W) : hZ W :=
  cy hS ⟨_, laidMet.tail (laidMet.tail h)⟩ ⟨_, laidMet.tail (laidMet.tail (laidMet.tail (laidMet.tail h)))⟩ ⟨_, laidMet.tail (laidMet.tail (laidMet.tail (laidMet.tail (laidMet.tail h))))⟩
/-- what the walk gives -/
theorem nJ (H : Type) (enc : TypeId × Value → H) (W : World) (base : Nat) (args : Array Value) (ds gs : List (DataW H)) (before : List MemPlace)
    (hval : ∀ (j : Nat) t v, Tryz.f5.params[j]? = some t → args[j]? = some v → Value.okWide Tryz.prog W .any base t v)
    (hW : DataW.Whole enc Tryz.prog Tryz.f5.params.toList Rows.fnExactBlameSpec.vars false W args.toList ds gs before) (hS : W.ShapedOpen Tryz.prog) (hL : laidMetH Tryz.prog Rows.fnExactBlameRow.laid W) :
    Calls Tryz.prog 5 args W fun e W' => ∃ v, e = .returned v ∧ Rows.fnExactBlameSpec.post enc Tryz.prog Tryz.f5 false true false false W args v W' := by
  refine Rm (Ry W (gy hS hL)) lH (l := [25, 22, 9, 23, 80, 78, 122, 26, 48, 4]) (tb := 4) (by kernel_rfl) (by rw [Tryz.params5]; decide) rfl Tryz.kids (fun t e ht => Tryz.full t e ht) (by rw [Tryz.params5]; decide) hval hW ?_ rfl Tryz.underlying4 (fun xs hx => ?_)
  · intro hg
    subst hg
    obtain ⟨p, q, hA, _⟩ := hW
    rw [Tryz.params5] at hA
    obtain ⟨v0, v1, d0, d1, p0, p1, rfl, rfl, _, _⟩ := trodAll_two hA
    exact ⟨rfl, rfl, rfl⟩
  · rw [Tryz.params5] at hx
    exact WU xs hx
def tD : Array Value := #[.agg #[.slice none 0 0, .slice none 0 0], .slice none 0 0]
theorem cM (os : Os) : laidMet Tryz.prog Rows.fnExactBlameRow.laid ((pH os).forCall (fun _ _ => 0) ⟨#[], tD, []⟩).memory :=
  laidMet_of_run' 8 (by kernel_rfl) (by kernel_rfl)
theorem gz (os : Os) {H : Type} (enc : TypeId × Value → H) : ∃ places, DataW.whole enc Tryz.prog ((pH os).forCall (fun _ _ => 0) ⟨#[], tD, []⟩).memory Tryz.f5.params.toList Rows.fnExactBlameSpec.vars false tD.toList 8 = some ([.agg [.nil, .nil], .nil], [], places) :=
  ⟨[], by kernel_rfl⟩
theorem jK (os : Os) (started : os.Started) (H : Type) (enc : TypeId × Value → H) (F : Stop.Interp) :
    ReturnsInHanded {} Tryz.checked os 5 .any ((OpenSpec.ofChange Rows.fnExactBlameSpec).preRow enc Tryz.prog Tryz.f5 Rows.fnExactBlameRow.domain false Rows.fnExactBlameRow.laid) (((OpenSpec.ofChange Rows.fnExactBlameSpec).at F).post enc Tryz.prog Tryz.f5 false true false false) := by
  obtain ⟨places, hx⟩ := gz os enc
  refine returnsInHanded_of_row (C := Tryz.checked) (s := OpenSpec.ofChange Rows.fnExactBlameSpec) Tryz.own started (by kernel_rfl) Tryz.func5
    (witness_row_at (enc := enc) (C := Tryz.checked) false (pH os) tD rfl (by kernel_rfl) (by kernel_rfl) (by kernel_rfl)
      (OpenSpec.preRow_of_cond 8 hx (by kernel_rfl) (fun k hk => by cases hk) (by kernel_rfl) (cM os))) ?_
  intro W base args ds gs before hval hW _ _ _ hL hS _
  exact nJ H enc W base args ds gs before hval hW hS hL
theorem Q2 {a b : Bool} (h : a = true) (k : b = true) : (a && b) = true := by rw [h, k]; rfl
/-- what the program's text settles, each apart -/
theorem jL : joinedFacts Tryz.pinned.checked.prog 5 Tryz.f5 (OpenSpec.ofChange Rows.fnExactBlameSpec).bare Rows.fnExactBlameRow = true := by
  unfold joinedFacts
  iterate 31 (with_reducible refine Q2 ?_ ?_)
  all_goals (as_aux_lemma => kernel_rfl)
theorem cL : Rows.FnExactBlameSaid :=
  OpenClaim.holds_of_cond 5 Tryz.f5 rfl rfl rfl rfl rfl rfl rfl ⟨rfl, rfl, rfl, rfl, rfl⟩ rfl rfl rfl rfl rfl (by as_aux_lemma => kernel_rfl) Tryz.func5 jL
    (of_decide_eq_true (by as_aux_lemma => kernel_rfl)) (by as_aux_lemma => unfold Func.isWrapper; first | (rw [if_pos (by decide +kernel)]; kernel_rfl) | (rw [if_neg (by decide +kernel)]; exact ⟨rfl, rfl⟩))
    (fun os started H enc _ F => by rw [OpenClaim.pre_eq_preRow]; exact jK os started H enc F)
/-- no parameter wants a stand-in; the program's own looks are off -/
theorem gA (f : FuncId) (fn : Func) (hf : Tryz.pinned.checked.prog.funcNamed "loop.example/g00445/laws.FnExactBlame" = some f) (hfn : Tryz.pinned.checked.prog.funcs[f]? = some fn) :
    true = Tryz.pinned.checked.prog.looks [] ∧ ∀ (j : Nat) t, fn.params[j]? = some t → Tryz.pinned.checked.prog.wantsStandIn t = false := by
  obtain rfl : f = 5 := Option.some.inj ((show Tryz.prog.funcNamed "loop.example/g00445/laws.FnExactBlame" = some 5 by kernel_rfl).symm.trans hf) |>.symm
  obtain rfl : fn = Tryz.f5 := (Option.some.inj (Tryz.func5.symm.trans hfn)).symm
  refine ⟨by as_aux_lemma => kernel_rfl, fun j t ht => ?_⟩
  rw [Tryz.params5] at ht
  have h0 := Array.mem_of_getElem? ht
  have h1 : t = 25 ∨ t = 26 := by simpa using h0
  rcases h1 with rfl | rfl
  · exact (show Tryz.prog.wantsStandIn 25 = false by kernel_rfl)
  · exact (show Tryz.prog.wantsStandIn 26 = false by kernel_rfl)
theorem blame_holds : Rows.FnExactBlameCardSaid :=
  Claim7.holds_tied_plain_at .later [] _ _ _ _ cL (fun _ h => by cases h) (by as_aux_lemma => kernel_rfl) (fun _ h => by cases h) fnExactBlame_row_tie rfl ⟨rfl, rfl⟩ (by as_aux_lemma => kernel_rfl) rfl gA (by as_aux_lemma => kernel_rfl)
end Go.Proofs.YtmcephnfcciloaaGreatDoor

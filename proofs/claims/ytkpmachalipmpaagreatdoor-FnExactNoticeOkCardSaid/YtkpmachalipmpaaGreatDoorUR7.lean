/- FnExactNoticeOk holds, and its card. Conditions: none. -/
import Derived.Test.YtkpmachalipmpaaGreatDoorUF
import Derived.Test.YtkpmachalipmpaaGreatDoorUK
namespace Go.Proofs.YtkpmachalipmpaaGreatDoor
open Go.ChangeShapes Go.WideShapes Go.ChangeAt Go.RowKit E
set_option maxRecDepth 100000
set_option maxHeartbeats 40000000
set_option linter.unusedVariables false
set_option linter.unusedSimpArgs false
/-- what the row's list gives -/
theorem noticeOk_table {W : World} (hS : W.ShapedOpen Tryz.prog) (h : laidMetH Tryz.prog Rows.fnExactNoticeOkRow.laid W) : LaidOK W :=
  laid_parts hS ⟨_, laidMet.tail (laidMet.tail h)⟩ ⟨_, laidMet.tail (laidMet.tail (laidMet.tail (laidMet.tail h)))⟩ ⟨_, laidMet.tail (laidMet.tail (laidMet.tail (laidMet.tail (laidMet.tail h))))⟩
/-- what the walk gives -/
theorem noticeOk_contract (H : Type) (enc : TypeId × Value → H) (W : World) (base : Nat) (args : Array Value) (ds gs : List (DataW H)) (before : List MemPlace)
    (hval : ∀ (j : Nat) t v, Tryz.f4.params[j]? = some t → args[j]? = some v → Value.okWide Tryz.prog W .any base t v)
    (hW : DataW.Whole enc Tryz.prog Tryz.f4.params.toList Rows.fnExactNoticeOkSpec.vars false W args.toList ds gs before) (hS : W.ShapedOpen Tryz.prog) (hL : laidMetH Tryz.prog Rows.fnExactNoticeOkRow.laid W) :
    Calls Tryz.prog 4 args W fun e W' => ∃ v, e = .returned v ∧ Rows.fnExactNoticeOkSpec.post enc Tryz.prog Tryz.f4 false true false false W args v W' := by
  refine row_of (ext_ok W (noticeOk_table hS hL)) pol_ok (l := [25, 9, 4]) (tb := 4) (by kernel_rfl) (by rw [Tryz.params4]; decide) rfl Tryz.kids (fun t e ht => Tryz.full t e ht) (by rw [Tryz.params4]; decide) hval hW ?_ rfl Tryz.underlying4 (fun xs hx => ?_)
  · intro hg
    subst hg
    obtain ⟨p, q, hA, _⟩ := hW
    rw [Tryz.params4] at hA
    obtain ⟨v0, d0, e0, rfl, _⟩ := trodAll_one hA
    exact ⟨rfl, rfl, rfl⟩
  · rw [Tryz.params4] at hx
    exact notice_ev xs hx
def noticeOk_args : Array Value := #[.agg #[.string { data := #[] }, .string { data := #[] }, .string { data := #[] }]]
theorem noticeOk_laid (os : Os) : laidMet Tryz.prog Rows.fnExactNoticeOkRow.laid ((laidWorld os).forCall (fun _ _ => 0) ⟨#[], noticeOk_args, []⟩).memory :=
  laidMet_of_run' 8 (by kernel_rfl) (by kernel_rfl)
theorem noticeOk_reads (os : Os) {H : Type} (enc : TypeId × Value → H) : ∃ places, DataW.whole enc Tryz.prog ((laidWorld os).forCall (fun _ _ => 0) ⟨#[], noticeOk_args, []⟩).memory Tryz.f4.params.toList Rows.fnExactNoticeOkSpec.vars false noticeOk_args.toList 8 = some ([.agg [.lit (.string []), .lit (.string []), .lit (.string [])]], [], places) :=
  ⟨[], by kernel_rfl⟩
theorem noticeOk_lifted (os : Os) (started : os.Started) (H : Type) (enc : TypeId × Value → H) (F : Stop.Interp) :
    ReturnsInHanded {} Tryz.checked os 4 .any ((OpenSpec.ofChange Rows.fnExactNoticeOkSpec).preRow enc Tryz.prog Tryz.f4 Rows.fnExactNoticeOkRow.domain false Rows.fnExactNoticeOkRow.laid) (((OpenSpec.ofChange Rows.fnExactNoticeOkSpec).at F).post enc Tryz.prog Tryz.f4 false true false false) := by
  obtain ⟨places, hx⟩ := noticeOk_reads os enc
  refine returnsInHanded_of_row (C := Tryz.checked) (s := OpenSpec.ofChange Rows.fnExactNoticeOkSpec) Tryz.own started (by kernel_rfl) Tryz.func4
    (witness_row_at (enc := enc) (C := Tryz.checked) false (laidWorld os) noticeOk_args rfl (by kernel_rfl) (by kernel_rfl) (by kernel_rfl)
      (OpenSpec.preRow_of_cond 8 hx (by kernel_rfl) (fun k hk => by cases hk) (by kernel_rfl) (noticeOk_laid os))) ?_
  intro W base args ds gs before hval hW _ _ _ hL hS _
  exact noticeOk_contract H enc W base args ds gs before hval hW hS hL
theorem and_tt {a b : Bool} (h : a = true) (k : b = true) : (a && b) = true := by rw [h, k]; rfl
/-- what the program's text settles, each apart -/
theorem noticeOk_closed : joinedFacts Tryz.pinned.checked.prog 4 Tryz.f4 (OpenSpec.ofChange Rows.fnExactNoticeOkSpec).bare Rows.fnExactNoticeOkRow = true := by
  unfold joinedFacts
  iterate 31 (with_reducible refine and_tt ?_ ?_)
  all_goals (as_aux_lemma => kernel_rfl)
theorem noticeOk_said : Rows.FnExactNoticeOkSaid :=
  OpenClaim.holds_of_cond 4 Tryz.f4 rfl rfl rfl rfl rfl rfl rfl ⟨rfl, rfl, rfl, rfl, rfl⟩ rfl rfl rfl rfl rfl (by as_aux_lemma => kernel_rfl) Tryz.func4 noticeOk_closed
    (of_decide_eq_true (by as_aux_lemma => kernel_rfl)) (by as_aux_lemma => unfold Func.isWrapper; first | (rw [if_pos (by decide +kernel)]; kernel_rfl) | (rw [if_neg (by decide +kernel)]; exact ⟨rfl, rfl⟩))
    (fun os started H enc _ F => by rw [OpenClaim.pre_eq_preRow]; exact noticeOk_lifted os started H enc F)
/-- no parameter wants a stand-in; the program's own looks are off -/
theorem noticeOk_plain (f : FuncId) (fn : Func) (hf : Tryz.pinned.checked.prog.funcNamed "loop.example/g00445/laws.FnExactNoticeOk" = some f) (hfn : Tryz.pinned.checked.prog.funcs[f]? = some fn) :
    true = Tryz.pinned.checked.prog.looks [] ∧ ∀ (j : Nat) t, fn.params[j]? = some t → Tryz.pinned.checked.prog.wantsStandIn t = false := by
  obtain rfl : f = 4 := Option.some.inj ((show Tryz.prog.funcNamed "loop.example/g00445/laws.FnExactNoticeOk" = some 4 by kernel_rfl).symm.trans hf) |>.symm
  obtain rfl : fn = Tryz.f4 := (Option.some.inj (Tryz.func4.symm.trans hfn)).symm
  refine ⟨by as_aux_lemma => kernel_rfl, fun j t ht => ?_⟩
  rw [Tryz.params4] at ht
  have h0 := Array.mem_of_getElem? ht
  obtain rfl : t = 25 := by simpa using h0
  exact (show Tryz.prog.wantsStandIn 25 = false by kernel_rfl)
theorem noticeOk_holds : Rows.FnExactNoticeOkCardSaid :=
  Claim7.holds_tied_plain_at .later [] _ _ _ _ noticeOk_said (fun _ h => by cases h) (by as_aux_lemma => kernel_rfl) (fun _ h => by cases h) fnExactNoticeOk_row_tie rfl ⟨rfl, rfl⟩ (by as_aux_lemma => kernel_rfl) rfl noticeOk_plain (by as_aux_lemma => kernel_rfl)
end Go.Proofs.YtkpmachalipmpaaGreatDoor

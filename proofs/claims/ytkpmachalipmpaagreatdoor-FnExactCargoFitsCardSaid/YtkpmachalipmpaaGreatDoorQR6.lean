/- FnExactCargoFits holds, and its card. Conditions: none. -/
import Derived.Test.YtkpmachalipmpaaGreatDoorQF
import Derived.Test.YtkpmachalipmpaaGreatDoorQK
namespace Go.Proofs.YtkpmachalipmpaaGreatDoor
open Go.ChangeShapes Go.WideShapes Go.ChangeAt Go.RowKit E
set_option maxRecDepth 100000
set_option maxHeartbeats 40000000
set_option linter.unusedVariables false
set_option linter.unusedSimpArgs false
/-- what the row's list gives -/
theorem cargoFits_table {W : World} (hS : W.ShapedOpen Tryz.prog) (h : laidMetH Tryz.prog Rows.fnExactCargoFitsRow.laid W) : LaidOK W :=
  laid_parts hS ⟨_, laidMet.tail (laidMet.tail h)⟩ ⟨_, laidMet.tail (laidMet.tail (laidMet.tail (laidMet.tail h)))⟩ ⟨_, laidMet.tail (laidMet.tail (laidMet.tail (laidMet.tail (laidMet.tail h))))⟩
/-- what the walk gives -/
theorem cargoFits_contract (H : Type) (enc : TypeId × Value → H) (W : World) (base : Nat) (args : Array Value) (ds gs : List (DataW H)) (before : List MemPlace)
    (hval : ∀ (j : Nat) t v, Tryz.f9.params[j]? = some t → args[j]? = some v → Value.okWide Tryz.prog W .any base t v)
    (hW : DataW.Whole enc Tryz.prog Tryz.f9.params.toList Rows.fnExactCargoFitsSpec.vars false W args.toList ds gs before) (hS : W.ShapedOpen Tryz.prog) (hL : laidMetH Tryz.prog Rows.fnExactCargoFitsRow.laid W) :
    Calls Tryz.prog 9 args W fun e W' => ∃ v, e = .returned v ∧ Rows.fnExactCargoFitsSpec.post enc Tryz.prog Tryz.f9 false true false false W args v W' := by
  refine row_of (ext_ok W (cargoFits_table hS hL)) pol_ok (l := [59, 33, 9, 57, 204, 202, 289, 4]) (tb := 4) (by kernel_rfl) (by rw [Tryz.params9]; decide) rfl Tryz.kids (fun t e ht => Tryz.full t e ht) (by rw [Tryz.params9]; decide) hval hW ?_ rfl Tryz.underlying4 (fun xs hx => ?_)
  · intro hg
    subst hg
    obtain ⟨p, q, hA, _⟩ := hW
    rw [Tryz.params9] at hA
    obtain ⟨v0, d0, e0, rfl, _⟩ := trodAll_one hA
    exact ⟨rfl, rfl, rfl⟩
  · rw [Tryz.params9] at hx
    exact fits_ev xs hx
def cargoFits_args : Array Value := #[.agg #[.slice none 0 0, .slice none 0 0]]
theorem cargoFits_laid (os : Os) : laidMet Tryz.prog Rows.fnExactCargoFitsRow.laid ((laidWorld os).forCall (fun _ _ => 0) ⟨#[], cargoFits_args, []⟩).memory :=
  laidMet_of_run' 8 (by kernel_rfl) (by kernel_rfl)
theorem cargoFits_reads (os : Os) {H : Type} (enc : TypeId × Value → H) : ∃ places, DataW.whole enc Tryz.prog ((laidWorld os).forCall (fun _ _ => 0) ⟨#[], cargoFits_args, []⟩).memory Tryz.f9.params.toList Rows.fnExactCargoFitsSpec.vars false cargoFits_args.toList 8 = some ([.agg [.nil, .nil]], [], places) :=
  ⟨[], by kernel_rfl⟩
theorem cargoFits_lifted (os : Os) (started : os.Started) (H : Type) (enc : TypeId × Value → H) (F : Stop.Interp) :
    ReturnsInHanded {} Tryz.checked os 9 .any ((OpenSpec.ofChange Rows.fnExactCargoFitsSpec).preRow enc Tryz.prog Tryz.f9 Rows.fnExactCargoFitsRow.domain false Rows.fnExactCargoFitsRow.laid) (((OpenSpec.ofChange Rows.fnExactCargoFitsSpec).at F).post enc Tryz.prog Tryz.f9 false true false false) := by
  obtain ⟨places, hx⟩ := cargoFits_reads os enc
  refine returnsInHanded_of_row (C := Tryz.checked) (s := OpenSpec.ofChange Rows.fnExactCargoFitsSpec) Tryz.own started (by kernel_rfl) Tryz.func9
    (witness_row_at (enc := enc) (C := Tryz.checked) false (laidWorld os) cargoFits_args rfl (by kernel_rfl) (by kernel_rfl) (by kernel_rfl)
      (OpenSpec.preRow_of_cond 8 hx (by kernel_rfl) (fun k hk => by cases hk) (by kernel_rfl) (cargoFits_laid os))) ?_
  intro W base args ds gs before hval hW _ _ _ hL hS _
  exact cargoFits_contract H enc W base args ds gs before hval hW hS hL
theorem and_tt {a b : Bool} (h : a = true) (k : b = true) : (a && b) = true := by rw [h, k]; rfl
/-- what the program's text settles, each apart -/
theorem cargoFits_closed : joinedFacts Tryz.pinned.checked.prog 9 Tryz.f9 (OpenSpec.ofChange Rows.fnExactCargoFitsSpec).bare Rows.fnExactCargoFitsRow = true := by
  unfold joinedFacts
  iterate 31 (with_reducible refine and_tt ?_ ?_)
  all_goals (as_aux_lemma => kernel_rfl)
theorem cargoFits_said : Rows.FnExactCargoFitsSaid :=
  OpenClaim.holds_of_cond 9 Tryz.f9 rfl rfl rfl rfl rfl rfl rfl ⟨rfl, rfl, rfl, rfl, rfl⟩ rfl rfl rfl rfl rfl (by as_aux_lemma => kernel_rfl) Tryz.func9 cargoFits_closed
    (of_decide_eq_true (by as_aux_lemma => kernel_rfl)) (by as_aux_lemma => unfold Func.isWrapper; first | (rw [if_pos (by decide +kernel)]; kernel_rfl) | (rw [if_neg (by decide +kernel)]; exact ⟨rfl, rfl⟩))
    (fun os started H enc _ F => by rw [OpenClaim.pre_eq_preRow]; exact cargoFits_lifted os started H enc F)
/-- no parameter wants a stand-in; the program's own looks are off -/
theorem cargoFits_plain (f : FuncId) (fn : Func) (hf : Tryz.pinned.checked.prog.funcNamed "loop.example/g00445/laws.FnExactCargoFits" = some f) (hfn : Tryz.pinned.checked.prog.funcs[f]? = some fn) :
    true = Tryz.pinned.checked.prog.looks [] ∧ ∀ (j : Nat) t, fn.params[j]? = some t → Tryz.pinned.checked.prog.wantsStandIn t = false := by
  obtain rfl : f = 9 := Option.some.inj ((show Tryz.prog.funcNamed "loop.example/g00445/laws.FnExactCargoFits" = some 9 by kernel_rfl).symm.trans hf) |>.symm
  obtain rfl : fn = Tryz.f9 := (Option.some.inj (Tryz.func9.symm.trans hfn)).symm
  refine ⟨by as_aux_lemma => kernel_rfl, fun j t ht => ?_⟩
  rw [Tryz.params9] at ht
  have h0 := Array.mem_of_getElem? ht
  obtain rfl : t = 59 := by simpa using h0
  exact (show Tryz.prog.wantsStandIn 59 = false by kernel_rfl)
theorem cargoFits_holds : Rows.FnExactCargoFitsCardSaid :=
  Claim7.holds_tied_plain_at .later [] _ _ _ _ cargoFits_said (fun _ h => by cases h) (by as_aux_lemma => kernel_rfl) (fun _ h => by cases h) fnExactCargoFits_row_tie rfl ⟨rfl, rfl⟩ (by as_aux_lemma => kernel_rfl) rfl cargoFits_plain (by as_aux_lemma => kernel_rfl)
end Go.Proofs.YtkpmachalipmpaaGreatDoor

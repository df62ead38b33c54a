/- FnChanges at its row and card, but for the walk. Conditions: none. -/
import Derived.Test.YtefkoljdebekdaaGreatDoorsA
set_option linter.unusedVariables false
set_option linter.unusedSimpArgs false
set_option maxRecDepth 100000
set_option maxHeartbeats 40000000
namespace Go.Proofs.YtefkoljdebekdaaGreatDoor
open Go.Proofs.Tryz
open Go.ChangeShapes Go.WideShapes Go.ChangeAt Go.RowKit
def se:Prop:=∀ (H:Type) (enc:TypeId×Value→H) (W:World) (base:Nat) (args:Array Value) (ds gs:List (DataW H)) (before:List MemPlace)
 (hval:∀ (j:Nat) t v,Tryz.f4.params[j]? = some t→args[j]? = some v→Value.okWide prog W .any base t v)
 (hW:DataW.Whole enc prog Tryz.f4.params.toList Rows.fnChangesSpec.vars false W args.toList ds gs before) (hS:W.ShapedOpen prog) (hL:laidMetH prog Rows.fnChangesRow.laid W),
 Calls prog 4 args W fun e W'=>∃ v,e=.returned v∧Rows.fnChangesSpec.post enc prog Tryz.f4 false true false false W args v W'
def rY:Array Value := #[.slice none 0 0]
theorem W5 (os:Os):laidMet prog Rows.fnChangesRow.laid ((nz os).forCall (fun _ _=>0) ⟨#[],rY,[]⟩).memory :=
 laidMet_of_run' 8 (by kernel_rfl) (by kernel_rfl)
theorem aG (os:Os){H:Type}(enc:TypeId×Value→H):∃ places,DataW.whole enc prog ((nz os).forCall (fun _ _=>0) ⟨#[],rY,[]⟩).memory Tryz.f4.params.toList Rows.fnChangesSpec.vars false rY.toList 8=some ([.nil],[],places) :=
 ⟨[],by kernel_rfl⟩
theorem db (hc:se)(os:Os)(started:os.Started)(H:Type)(enc:TypeId×Value→H)(F:Stop.Interp) :
 ReturnsInHanded {} Tryz.checked os 4 .any ((OpenSpec.ofChange Rows.fnChangesSpec).preRow enc prog Tryz.f4 Rows.fnChangesRow.domain false Rows.fnChangesRow.laid) (((OpenSpec.ofChange Rows.fnChangesSpec).at F).post enc prog Tryz.f4 false true false false):=by
 obtain⟨places,hx⟩:=aG os enc;refine returnsInHanded_of_row (C:=Tryz.checked) (s:=OpenSpec.ofChange Rows.fnChangesSpec) (show ownKnob prog.godebug=none by kernel_rfl) started (by kernel_rfl) func4
  (witness_row_at (enc:=enc) (C:=Tryz.checked) false (nz os) rY rfl (by kernel_rfl) (by kernel_rfl) (by kernel_rfl)
   (OpenSpec.preRow_of_cond 8 hx (by kernel_rfl) (fun k hk=>by cases hk) (by kernel_rfl) (W5 os))) ?_
 intro W base args ds gs before hval hW _ _ _ hL hS _;exact hc H enc W base args ds gs before hval hW hS hL
theorem QT {a b:Bool}(h:a=true)(k:b=true):(a&&b)=true:=by rw[h,k];rfl
theorem dc:joinedFacts Tryz.pinned.checked.prog 4 Tryz.f4 (OpenSpec.ofChange Rows.fnChangesSpec).bare Rows.fnChangesRow=true:=by
 unfold joinedFacts
 iterate 31 (with_reducible refine QT ?_ ?_)
 all_goals (as_aux_lemma=>kernel_rfl)
theorem W4 (hc:se):Rows.FnChangesSaid :=
 OpenClaim.holds_of_cond 4 Tryz.f4 rfl rfl rfl rfl rfl rfl rfl ⟨rfl,rfl,rfl,rfl,rfl⟩ rfl rfl rfl rfl rfl (by as_aux_lemma=>kernel_rfl) func4 dc
  (of_decide_eq_true (by as_aux_lemma=>kernel_rfl)) (by as_aux_lemma=>unfold Func.isWrapper;first|(rw[if_pos (by decide +kernel)];kernel_rfl)|(rw[if_neg (by decide +kernel)];exact⟨rfl,rfl⟩))
  (fun os started H enc _ F=>by rw[OpenClaim.pre_eq_preRow];exact db hc os started H enc F)
theorem aH (f : FuncId) (fn : Func) (hf : Tryz.pinned.checked.prog.funcNamed "loop.example/g00445/laws.FnChanges" = some f) (hfn : Tryz.pinned.checked.prog.funcs[f]? = some fn) :
 true=Tryz.pinned.checked.prog.looks []∧∀ (j:Nat) t,fn.params[j]? = some t→Tryz.pinned.checked.prog.wantsStandIn t=false:=by
 obtain rfl : f = 4 := Option.some.inj ((show prog.funcNamed "loop.example/g00445/laws.FnChanges" = some 4 by kernel_rfl).symm.trans hf) |>.symm
 obtain rfl:fn=Tryz.f4:=(Option.some.inj (Tryz.func4.symm.trans hfn)).symm;refine⟨by as_aux_lemma=>kernel_rfl,fun j t ht=>?_⟩;rw[Tryz.params4]at ht;have h0:=Array.mem_of_getElem? ht;obtain rfl:t=22:=by simpa using h0
 exact (show prog.wantsStandIn 22=false by kernel_rfl)
theorem Sy (hc:se):Rows.FnChangesCardSaid :=
 Claim7.holds_tied_plain_at .later [] _ _ _ _ (W4 hc) (fun _ h=>by cases h) (by as_aux_lemma=>kernel_rfl) (fun _ h=>by cases h) fnChanges_row_tie rfl ⟨rfl,rfl⟩ (by as_aux_lemma=>kernel_rfl) rfl aH (by as_aux_lemma=>kernel_rfl)
end Go.Proofs.YtefkoljdebekdaaGreatDoor

/- FnProject at its row and card, but for the walk. Conditions: none. -/
import Derived.Test.YtefkoljdebekdaaGreatDoorqA
set_option linter.unusedVariables false
set_option linter.unusedSimpArgs false
set_option maxRecDepth 100000
namespace Go.Proofs.YtefkoljdebekdaaGreatDoor
open Go.ChangeShapes Go.WideShapes Go.ChangeAt Go.RowKit
set_option maxHeartbeats 40000000
def sq:Prop:=∀ (H:Type) (enc:TypeId×Value→H) (W:World) (base:Nat) (args:Array Value) (ds gs:List (DataW H)) (before:List MemPlace)
 (hval:∀ (j:Nat) t v,Tryz.f3.params[j]? = some t→args[j]? = some v→Value.okWide Tryz.prog W .any base t v)
 (hW:DataW.Whole enc Tryz.prog Tryz.f3.params.toList Rows.fnProjectSpec.vars false W args.toList ds gs before) (hS:W.ShapedOpen Tryz.prog) (hL:laidMetH Tryz.prog Rows.fnProjectRow.laid W),
 Calls Tryz.prog 3 args W fun e W'=>∃ v,e=.returned v∧Rows.fnProjectSpec.post enc Tryz.prog Tryz.f3 false true false false W args v W'
def qe:Array Value := #[.slice none 0 0]
theorem WQ (os:Os):laidMet Tryz.prog Rows.fnProjectRow.laid ((nv os).forCall (fun _ _=>0) ⟨#[],qe,[]⟩).memory :=
 laidMet_of_run' 8 (by kernel_rfl) (by kernel_rfl)
theorem Z0 (os:Os){H:Type}(enc:TypeId×Value→H):∃ places,DataW.whole enc Tryz.prog ((nv os).forCall (fun _ _=>0) ⟨#[],qe,[]⟩).memory Tryz.f3.params.toList Rows.fnProjectSpec.vars false qe.toList 8=some ([.nil],[],places) :=
 ⟨[],by kernel_rfl⟩
theorem dd (hc:sq)(os:Os)(started:os.Started)(H:Type)(enc:TypeId×Value→H)(F:Stop.Interp) :
 ReturnsInHanded {} Tryz.checked os 3 .any ((OpenSpec.ofChange Rows.fnProjectSpec).preRow enc Tryz.prog Tryz.f3 Rows.fnProjectRow.domain false Rows.fnProjectRow.laid) (((OpenSpec.ofChange Rows.fnProjectSpec).at F).post enc Tryz.prog Tryz.f3 false true false false):=by
 obtain⟨places,hx⟩:=Z0 os enc
 refine returnsInHanded_of_row (C:=Tryz.checked) (s:=OpenSpec.ofChange Rows.fnProjectSpec) (show ownKnob Tryz.prog.godebug=none by kernel_rfl) started (by kernel_rfl) Tryz.func3
  (witness_row_at (enc:=enc) (C:=Tryz.checked) false (nv os) qe rfl (by kernel_rfl) (by kernel_rfl) (by kernel_rfl)
   (OpenSpec.preRow_of_cond 8 hx (by kernel_rfl) (fun k hk=>by cases hk) (by kernel_rfl) (WQ os))) ?_
 intro W base args ds gs before hval hW _ _ _ hL hS _
 exact hc H enc W base args ds gs before hval hW hS hL
theorem Mr {a b:Bool}(h:a=true)(k:b=true):(a&&b)=true:=by rw[h,k];rfl
theorem de:joinedFacts Tryz.pinned.checked.prog 3 Tryz.f3 (OpenSpec.ofChange Rows.fnProjectSpec).bare Rows.fnProjectRow=true:=by
 unfold joinedFacts
 iterate 31 (with_reducible refine Mr ?_ ?_)
 all_goals (as_aux_lemma=>kernel_rfl)
theorem WO (hc:sq):Rows.FnProjectSaid :=
 OpenClaim.holds_of_cond 3 Tryz.f3 rfl rfl rfl rfl rfl rfl rfl ⟨rfl,rfl,rfl,rfl,rfl⟩ rfl rfl rfl rfl rfl (by as_aux_lemma=>kernel_rfl) Tryz.func3 de
  (of_decide_eq_true (by as_aux_lemma=>kernel_rfl)) (by as_aux_lemma=>unfold Func.isWrapper;first | (rw[if_pos (by decide +kernel)];kernel_rfl) | (rw[if_neg (by decide +kernel)];exact⟨rfl,rfl⟩))
  (fun os started H enc _ F=>by rw[OpenClaim.pre_eq_preRow];exact dd hc os started H enc F)
theorem Z3 (f : FuncId) (fn : Func) (hf : Tryz.pinned.checked.prog.funcNamed "loop.example/g00445/laws.FnProject" = some f) (hfn : Tryz.pinned.checked.prog.funcs[f]? = some fn) :
 true=Tryz.pinned.checked.prog.looks []∧∀ (j:Nat) t,fn.params[j]? = some t→Tryz.pinned.checked.prog.wantsStandIn t=false:=by
 obtain rfl : f = 3 := Option.some.inj ((show Tryz.prog.funcNamed "loop.example/g00445/laws.FnProject" = some 3 by kernel_rfl).symm.trans hf) |>.symm
 obtain rfl:fn=Tryz.f3:=(Option.some.inj (Tryz.func3.symm.trans hfn)).symm
 refine⟨by as_aux_lemma=>kernel_rfl,fun j t ht=>?_⟩
 rw[Tryz.params3]at ht
 have h0:=Array.mem_of_getElem? ht
 obtain rfl:t=22:=by simpa using h0
 exact (show Tryz.prog.wantsStandIn 22=false by kernel_rfl)
theorem QY (hc:sq):Rows.FnProjectCardSaid :=
 Claim7.holds_tied_plain_at .later [] _ _ _ _ (WO hc) (fun _ h=>by cases h) (by as_aux_lemma=>kernel_rfl) (fun _ h=>by cases h) fnProject_row_tie rfl ⟨rfl,rfl⟩ (by as_aux_lemma=>kernel_rfl) rfl Z3 (by as_aux_lemma=>kernel_rfl)
end Go.Proofs.YtefkoljdebekdaaGreatDoor

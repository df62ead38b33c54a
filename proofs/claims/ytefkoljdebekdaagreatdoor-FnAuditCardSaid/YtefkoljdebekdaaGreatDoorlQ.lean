/- FnAudit at its row and card, but for the walk. Conditions: none. -/
import Derived.Test.YtefkoljdebekdaaGreatDoorlA
set_option linter.unusedVariables false
set_option linter.unusedSimpArgs false
set_option maxRecDepth 100000
set_option maxHeartbeats 40000000
namespace Go.Proofs.YtefkoljdebekdaaGreatDoor
open Go.Proofs.Tryz
open Go.ChangeShapes Go.WideShapes Go.ChangeAt Go.RowKit
def sH:Prop:=∀ (H:Type) (enc:TypeId×Value→H) (W:World) (base:Nat) (args:Array Value) (ds gs:List (DataW H)) (before:List MemPlace)
 (hval:∀ (j:Nat) t v,Tryz.f5.params[j]? = some t→args[j]? = some v→Value.okWide prog W .any base t v)
 (hW:DataW.Whole enc prog Tryz.f5.params.toList Rows.fnAuditSpec.vars false W args.toList ds gs before) (hS:W.ShapedOpen prog) (hL:laidMetH prog Rows.fnAuditRow.laid W),
 Calls prog 5 args W fun e W'=>∃ v,e=.returned v∧Rows.fnAuditSpec.post enc prog Tryz.f5 false true false false W args v W'
def qI:Array Value := #[.slice none 0 0]
theorem VP (os:Os):laidMet prog Rows.fnAuditRow.laid ((ml os).forCall (fun _ _=>0) ⟨#[],qI,[]⟩).memory :=
 laidMet_of_run' 8 (by kernel_rfl) (by kernel_rfl)
theorem Y4 (os:Os){H:Type}(enc:TypeId×Value→H):∃ places,DataW.whole enc prog ((ml os).forCall (fun _ _=>0) ⟨#[],qI,[]⟩).memory Tryz.f5.params.toList Rows.fnAuditSpec.vars false qI.toList 8=some ([.nil],[],places) :=
 ⟨[],by kernel_rfl⟩
theorem cH (hc:sH)(os:Os)(started:os.Started)(H:Type)(enc:TypeId×Value→H)(F:Stop.Interp) :
 ReturnsInHanded {} Tryz.checked os 5 .any ((OpenSpec.ofChange Rows.fnAuditSpec).preRow enc prog Tryz.f5 Rows.fnAuditRow.domain false Rows.fnAuditRow.laid) (((OpenSpec.ofChange Rows.fnAuditSpec).at F).post enc prog Tryz.f5 false true false false):=by
 obtain⟨places,hx⟩:=Y4 os enc;refine returnsInHanded_of_row (C:=Tryz.checked) (s:=OpenSpec.ofChange Rows.fnAuditSpec) (show ownKnob prog.godebug=none by kernel_rfl) started (by kernel_rfl) func5
  (witness_row_at (enc:=enc) (C:=Tryz.checked) false (ml os) qI rfl (by kernel_rfl) (by kernel_rfl) (by kernel_rfl)
   (OpenSpec.preRow_of_cond 8 hx (by kernel_rfl) (fun k hk=>by cases hk) (by kernel_rfl) (VP os))) ?_
 intro W base args ds gs before hval hW _ _ _ hL hS _;exact hc H enc W base args ds gs before hval hW hS hL
theorem N0 {a b:Bool}(h:a=true)(k:b=true):(a&&b)=true:=by rw[h,k];rfl
theorem cJ:joinedFacts Tryz.pinned.checked.prog 5 Tryz.f5 (OpenSpec.ofChange Rows.fnAuditSpec).bare Rows.fnAuditRow=true:=by
 unfold joinedFacts
 iterate 31 (with_reducible refine N0 ?_ ?_)
 all_goals (as_aux_lemma=>kernel_rfl)
theorem VO (hc:sH):Rows.FnAuditSaid :=
 OpenClaim.holds_of_cond 5 Tryz.f5 rfl rfl rfl rfl rfl rfl rfl ⟨rfl,rfl,rfl,rfl,rfl⟩ rfl rfl rfl rfl rfl (by as_aux_lemma=>kernel_rfl) func5 cJ
  (of_decide_eq_true (by as_aux_lemma=>kernel_rfl)) (by as_aux_lemma=>unfold Func.isWrapper;first|(rw[if_pos (by decide +kernel)];kernel_rfl)|(rw[if_neg (by decide +kernel)];exact⟨rfl,rfl⟩))
  (fun os started H enc _ F=>by rw[OpenClaim.pre_eq_preRow];exact cH hc os started H enc F)
theorem Y5 (f : FuncId) (fn : Func) (hf : Tryz.pinned.checked.prog.funcNamed "loop.example/g00445/laws.FnAudit" = some f) (hfn : Tryz.pinned.checked.prog.funcs[f]? = some fn) :
 true=Tryz.pinned.checked.prog.looks []∧∀ (j:Nat) t,fn.params[j]? = some t→Tryz.pinned.checked.prog.wantsStandIn t=false:=by
 obtain rfl : f = 5 := Option.some.inj ((show prog.funcNamed "loop.example/g00445/laws.FnAudit" = some 5 by kernel_rfl).symm.trans hf) |>.symm
 obtain rfl:fn=Tryz.f5:=(Option.some.inj (Tryz.func5.symm.trans hfn)).symm;refine⟨by as_aux_lemma=>kernel_rfl,fun j t ht=>?_⟩;rw[Tryz.params5]at ht;have h0:=Array.mem_of_getElem? ht;obtain rfl:t=22:=by simpa using h0
 exact (show prog.wantsStandIn 22=false by kernel_rfl)
theorem QR (hc:sH):Rows.FnAuditCardSaid :=
 Claim7.holds_tied_plain_at .later [] _ _ _ _ (VO hc) (fun _ h=>by cases h) (by as_aux_lemma=>kernel_rfl) (fun _ h=>by cases h) fnAudit_row_tie rfl ⟨rfl,rfl⟩ (by as_aux_lemma=>kernel_rfl) rfl Y5 (by as_aux_lemma=>kernel_rfl)
end Go.Proofs.YtefkoljdebekdaaGreatDoor

/- FnExactPutTree holds: PutTree answers as the reference does, for all arguments that the statement speaks of; and its card. Conditions: none. -/
import Derived.Test.YtdhejeigbjmncaaDoorCards
import Derived.Test.YtdhejeigbjmncaaDoorTie
import Derived.Test.YtdhejeigbjmncaaDoorQ9
import Derived.Test.YtdhejeigbjmncaaDoorW4
import Derived.WalkKit
import Derived.ProofKit
import Derived.OpenShut
import Derived.Deep.DeepHandedRow
import Derived.Lib.LaidTab
import Derived.Stop.LaidErr
namespace Go.Proofs.YtdhejeigbjmncaaDoor
open Go.ChangeShapes Go.WideShapes Go.ChangeAt Go.RowKit E
set_option maxRecDepth 100000
set_option linter.unusedVariables false
set_option linter.unusedSimpArgs false
/-- what the row's list gives -/
theorem table {W : World} (h : laidMetH Tryd.prog Rows.fnExactPutTreeRow.laid W) : LaidOK W :=
  ⟨Lib.tabIs_of_head (k := .u64) (zs := Lib.pow10Tab) (rest := []) (show Tryd.prog.globalNamed "internal/strconv.uint64pow10" = some 1 by kernel_rfl) (show (Tryd.prog.globals[1]?).map (·.type) = some 77 by kernel_rfl)
    Tryd.underlying77 Tryd.underlying70 (by kernel_rfl) (by kernel_rfl) (laidMet.tail (laidMet.tail h)), trivial⟩
theorem putTree_ev (xs : List V) (h : WTA Tryd.prog [25] xs) : EV Tryd.prog pol (.call 3 xs []) = some (.call (.t (.bool true)) []) := by
  obtain ⟨cs, v, vs, rfl, h1, h2, h3⟩ := h.inv_cons
  have := h3.inv_nil
  subst this
  obtain ⟨tr, rfl, ho⟩ := (WT_tree h1).1 rfl
  have e : aggOf Tryd.prog 25 = true := by kernel_rfl
  rw [e] at h2
  have hv : v = .agg (tr.enc.map .t) := by
    obtain ⟨k, n, s, ks, ts⟩ := tr
    simp [packV, Tr.enc] at h2
    rw [← h2]; rfl
  subst hv
  exact c_lawTree tr ho
/-- what the walk gives -/
theorem contract (H : Type) (enc : TypeId × Value → H) (W : World) (base : Nat) (args : Array Value) (ds gs : List (DataW H)) (before : List MemPlace)
    (hval : ∀ (j : Nat) t v, Tryd.f3.params[j]? = some t → args[j]? = some v → Value.okWide Tryd.prog W .any base t v)
    (hW : DataW.Whole enc Tryd.prog Tryd.f3.params.toList Rows.fnExactPutTreeSpec.vars false W args.toList ds gs before) (hL : laidMetH Tryd.prog Rows.fnExactPutTreeRow.laid W) :
    Calls Tryd.prog 3 args W fun e W' => ∃ v, e = .returned v ∧ Rows.fnExactPutTreeSpec.post enc Tryd.prog Tryd.f3 false true false false W args v W' := by
  refine row_of (ext_ok W (table hL)) pol_ok (l := [25, 23, 22, 3, 9]) (tb := 4) (by kernel_rfl) (by rw [Tryd.params3]; decide) rfl Tryd.kids (fun t e ht => Tryd.full t e ht) (by rw [Tryd.params3]; decide) hval hW ?_ rfl Tryd.underlying4 (fun xs hx => ?_)
  · intro hg
    subst hg
    obtain ⟨p, q, hA, _⟩ := hW
    rw [Tryd.params3] at hA
    obtain ⟨v0, d0, e0, rfl, _⟩ := trodAll_one hA
    exact ⟨rfl, rfl, rfl⟩
  · rw [Tryd.params3] at hx
    exact putTree_ev xs hx
def tab32 : List Int := [0, 1, 28, 2, 29, 14, 24, 3, 30, 22, 20, 15, 25, 17, 4, 8, 31, 27, 13, 23, 21, 19, 16, 7, 26, 12, 18, 6, 11, 5, 10, 9]
def tab64 : List Int := [0, 1, 56, 2, 57, 49, 28, 3, 61, 58, 42, 50, 38, 29, 17, 4, 62, 47, 59, 36, 45, 43, 51, 22, 53, 39, 33, 30, 24, 18, 12, 5, 63, 55, 48, 27, 60, 41, 37, 16, 46, 35, 44, 21, 52, 32, 23, 11, 54, 26, 40, 15, 34, 20, 31, 10, 25, 14, 19, 9, 13, 8, 7, 6]
def putCells (cs : List Value) : Obj → Obj
  | .cells _ t frozen => .cells cs.toArray t frozen
  | o => o
/-- a world for the witness: the settled one, the tables holding what their initialisers lay -/
noncomputable def laidWorld (os : Os) : World :=
  { World.holding Tryd.prog os ⟨#[], #[], []⟩ with heap := (((World.holding Tryd.prog os ⟨#[], #[], []⟩).heap.modify 1 (putCells (Lib.pow10Tab.map (.int .u64)))).modify 2 (putCells (tab32.map (.int .u8)))).modify 3 (putCells (tab64.map (.int .u8))) }
def arg0 : Value := .agg #[.int .i64 0, .int .i64 0, .string ⟨#[]⟩, .slice none 0 0, .slice none 0 0]
theorem laid_met (os : Os) : laidMet Tryd.prog Rows.fnExactPutTreeRow.laid ((laidWorld os).forCall (fun _ _ => 0) ⟨#[], #[arg0], []⟩).memory :=
  laidMet_of_run' 8 (by kernel_rfl) (by kernel_rfl)
theorem reads (os : Os) {H : Type} (enc : TypeId × Value → H) : ∃ places, DataW.whole enc Tryd.prog ((laidWorld os).forCall (fun _ _ => 0) ⟨#[], #[arg0], []⟩).memory Tryd.f3.params.toList Rows.fnExactPutTreeSpec.vars false #[arg0].toList 8 = some ([.agg [.lit (.int .i64 0), .lit (.int .i64 0), .lit (.string []), .nil, .nil]], [], places) :=
  ⟨[], by kernel_rfl⟩
theorem putTree_lifted (os : Os) (started : os.Started) (H : Type) (enc : TypeId × Value → H) (F : Stop.Interp) :
    ReturnsInHanded {} Tryd.checked os 3 .any ((OpenSpec.ofChange Rows.fnExactPutTreeSpec).preRow enc Tryd.prog Tryd.f3 Rows.fnExactPutTreeRow.domain false Rows.fnExactPutTreeRow.laid) (((OpenSpec.ofChange Rows.fnExactPutTreeSpec).at F).post enc Tryd.prog Tryd.f3 false true false false) := by
  obtain ⟨places, hx⟩ := reads os enc
  refine returnsInHanded_of_row (C := Tryd.checked) (s := OpenSpec.ofChange Rows.fnExactPutTreeSpec) Tryd.own started (by kernel_rfl) Tryd.func3
    (witness_row_at (enc := enc) (C := Tryd.checked) false (laidWorld os) #[arg0] rfl (by kernel_rfl) (by kernel_rfl) (by kernel_rfl)
      (OpenSpec.preRow_of_cond 8 hx (by kernel_rfl) (fun k hk => by cases hk) (by kernel_rfl) (laid_met os))) ?_
  intro W base args ds gs before hval hW _ _ _ hL _ _
  exact contract H enc W base args ds gs before hval hW hL
theorem putTree_said : Rows.FnExactPutTreeSaid :=
  OpenClaim.holds_of_cond 3 Tryd.f3 rfl rfl rfl rfl rfl rfl rfl ⟨rfl, rfl, rfl, rfl, rfl⟩ rfl rfl rfl rfl rfl (by kernel_rfl) Tryd.func3 (by kernel_rfl)
    (of_decide_eq_true (by kernel_rfl)) (by unfold Func.isWrapper; first | (rw [if_pos (by decide +kernel)]; kernel_rfl) | (rw [if_neg (by decide +kernel)]; exact ⟨rfl, rfl⟩))
    (fun os started H enc _ F => by rw [OpenClaim.pre_eq_preRow]; exact putTree_lifted os started H enc F)
/-- no parameter wants a stand-in; the program's own looks are off -/
theorem plain (f : FuncId) (fn : Func) (hf : Tryd.pinned.checked.prog.funcNamed "loop.example/g00445/laws.FnExactPutTree" = some f) (hfn : Tryd.pinned.checked.prog.funcs[f]? = some fn) :
    false = Tryd.pinned.checked.prog.looks [] ∧ ∀ (j : Nat) t, fn.params[j]? = some t → Tryd.pinned.checked.prog.wantsStandIn t = false := by
  obtain rfl : f = 3 := Option.some.inj ((show Tryd.prog.funcNamed "loop.example/g00445/laws.FnExactPutTree" = some 3 by kernel_rfl).symm.trans hf) |>.symm
  obtain rfl : fn = Tryd.f3 := (Option.some.inj (Tryd.func3.symm.trans hfn)).symm
  refine ⟨by kernel_rfl, fun j t ht => ?_⟩
  rw [Tryd.params3] at ht
  obtain rfl : t = 25 := by simpa using Array.mem_of_getElem? ht
  exact (show Tryd.prog.wantsStandIn 25 = false by kernel_rfl)
theorem putTree_holds : Rows.FnExactPutTreeCardSaid :=
  Claim7.holds_tied_plain_at .later [] _ _ _ _ putTree_said (fun _ h => by cases h) (by kernel_rfl) (fun _ h => by cases h) fnExactPutTree_row_tie rfl ⟨rfl, rfl⟩ (by kernel_rfl) rfl plain (by kernel_rfl)
#print axioms putTree_holds
end Go.Proofs.YtdhejeigbjmncaaDoor

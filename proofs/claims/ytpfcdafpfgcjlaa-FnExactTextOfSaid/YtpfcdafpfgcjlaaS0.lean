/- The seat's facts, and what 'slices.Clone' answers. Conditions: none. -/
import Derived.Test.YtpfcdafpfgcjlaaE17
import Derived.Test.YtpfcdafpfgcjlaaLT
import Derived.Test.YtpfcdafpfgcjlaaTY
namespace Go.Proofs.Ytpfcdafpfgcjlaa
open E
set_option linter.unusedSimpArgs false
set_option linter.unusedVariables false
set_option maxRecDepth 100000
def pmT (_ _ : Nat) : PM := .pure
def drT (_ : Nat) : Bool := true
namespace Z
noncomputable def pol : Pol := polOf Try.prog pmT liveT outsT drT (fun _ _ => none)
theorem pol_ok : ∀ f fn c, pol.no f = false → Try.prog.funcs[f]? = some fn → fn.body = some c → codeOK (drOK Try.prog pol f) fn.ntmps c = true := polOf_ok
theorem DRW : ∀ (rc : Rec) (f m p n : Nat) (fs : List Fr) (k : Fin') (e : Env) (h : Heap) (l : List Oper), goC ⟨Try.prog, pol, rc, f, m⟩ (.region n l.toArray true) p fs k e h = goD ⟨Try.prog, pol, rc, f, m⟩ (l.all (nonW pol f)) l fs k e h := fun _ _ _ _ _ _ _ _ _ _ => goC_draw _ _ _ _ _ _ _ _ rfl
theorem LVS : ∀ f p, pol.live f p = liveT f p := fun _ _ => rfl
theorem OVS : ∀ f p, pol.outs f p = outsT f p := fun _ _ => rfl
theorem PMS : ∀ f d, pol.pm f d = .pure := fun _ _ => rfl
theorem clone55 (b : Bool) (es : List (List T)) (hl : es.length ≤ 1048576) (hb : b = true → es = []) : EV Try.prog pol (.call 55 [.t (.nlist b 1 es)] []) = some (.call (.t (.list 1 es)) []) := by
  refine call_eq rfl Try.func55 rfl (by kernel_rfl) ?_
  unfold Try.f55
  cases b with
  | true =>
    have := hb rfl
    subst this
    simp only [↓GO, ↓DRW, want_none, LVS, OVS, LTS, packH_eq, pK_1, pK_2, reach', nodups, brefs, rangeL, idx_eq, idx', ren, ren.rens, renB, prows, getB, blkRefs, getE_nat, List.flatMap_nil, List.flatMap_cons, List.mem_cons, List.not_mem_nil, or_false, false_or, or_true, true_or, nI, nH, nids, cntNew, isNew, nonW, foot, footX, refs, refs.refss, OPL, Option.toList, opv, opvs, opvO, upd_at, put_some, put_none, cellsV, boxK, allocK, cst, cstAt, cstAll, fldAddr, fld, idxAddr, TYS, E.load, ldCells, E.store, stCells, splice, bin, ibin, sbin, una, isShift, argE_zero, argE_succ, okCell, packV, lenV, blt, callK, fnV, PMS, asArg, asArg.asArgs, allT, allZ, mkS, sliceK, fillS, giveTs, maxBytes, app, srcOf, srcOf0, unN, nilEq, ne_eq, List.isEmpty_nil, List.replicate_succ, List.replicate_zero, Nat.zero_mul, Nat.reduceGT, List.append_nil,  give, give.gives, giveT, tupV, retV, resV, blkSz, want_guard, dstAt, wantK_some, wantV_tt, wantV_tf, wantV_ft, wantV_ff, wantV_u, mkEnv, partsV, buildV, fillV, extV, pickV, Option.map, Option.bind, Option.getD, List.map_cons, List.map_nil, List.all_cons, List.all_nil, List.isEmpty_cons, List.length_nil, List.length_cons, List.nil_append, List.cons_append, List.append_nil, List.getElem?_cons_zero, List.getElem?_cons_succ, List.set_cons_zero, List.set_cons_succ, List.drop_zero, List.drop_succ_cons, List.take_succ_cons, List.take_zero, List.drop_nil, List.take_nil, List.toList_toArray, Bool.and_true, Bool.not_true, Bool.not_false, Bool.false_or, Bool.or_false, Bool.or_true, Bool.true_or, Bool.and_false, Bool.true_and, Bool.false_and, Bool.false_eq_true, ↓reduceIte, Nat.reduceAdd, Nat.reduceMul, Nat.reduceSub, Nat.reduceEqDiff, Nat.reduceLeDiff, Nat.reduceLT, Nat.reduceBEq, Int.reduceBEq, Int.reduceBNe, Int.reduceEq, Int.reduceLT, Int.reduceLE, Int.reduceGT, Int.reduceNeg, reduceCtorEq, and_true, true_and, and_self, Option.some.injEq, ite_true, ite_false, decide_true, decide_false, not_true_eq_false, not_false_eq_true, beq_self_eq_true, Nat.zero_add, Nat.add_zero, Nat.le_refl, Nat.not_lt_zero, Option.isNone_some, Option.isSome_some]
  | false =>
    have h2 : (0 + es.length) * (2 * 16) ≤ 140737488355328 := by omega
    have h3 : 0 + es.length ≤ 140737488355328 := by omega
    simp only [↓GO, ↓DRW, want_none, LVS, OVS, LTS, packH_eq, pK_1, pK_2, reach', nodups, brefs, rangeL, idx_eq, idx', ren, ren.rens, renB, prows, getB, blkRefs, getE_nat, List.flatMap_nil, List.flatMap_cons, List.mem_cons, List.not_mem_nil, or_false, false_or, or_true, true_or, nI, nH, nids, cntNew, isNew, nonW, foot, footX, refs, refs.refss, OPL, Option.toList, opv, opvs, opvO, upd_at, put_some, put_none, cellsV, boxK, allocK, cst, cstAt, cstAll, fldAddr, fld, idxAddr, TYS, E.load, ldCells, E.store, stCells, splice, bin, ibin, sbin, una, isShift, argE_zero, argE_succ, okCell, packV, lenV, blt, callK, fnV, PMS, asArg, asArg.asArgs, allT, allZ, mkS, sliceK, fillS, giveTs, maxBytes, app, srcOf, srcOf0, unN, nilEq, ne_eq, List.isEmpty_nil, List.replicate_succ, List.replicate_zero, Nat.zero_mul, Nat.reduceGT, List.append_nil,  give, give.gives, giveT, tupV, retV, resV, blkSz, want_guard, dstAt, wantK_some, wantV_tt, wantV_tf, wantV_ft, wantV_ff, wantV_u, mkEnv, partsV, buildV, fillV, extV, pickV, Option.map, Option.bind, Option.getD, List.map_cons, List.map_nil, List.all_cons, List.all_nil, List.isEmpty_cons, List.length_nil, List.length_cons, List.nil_append, List.cons_append, List.append_nil, List.getElem?_cons_zero, List.getElem?_cons_succ, List.set_cons_zero, List.set_cons_succ, List.drop_zero, List.drop_succ_cons, List.take_succ_cons, List.take_zero, List.drop_nil, List.take_nil, List.toList_toArray, Bool.and_true, Bool.not_true, Bool.not_false, Bool.false_or, Bool.or_false, Bool.or_true, Bool.true_or, Bool.and_false, Bool.true_and, Bool.false_and, Bool.false_eq_true, ↓reduceIte, Nat.reduceAdd, Nat.reduceMul, Nat.reduceSub, Nat.reduceEqDiff, Nat.reduceLeDiff, Nat.reduceLT, Nat.reduceBEq, Int.reduceBEq, Int.reduceBNe, Int.reduceEq, Int.reduceLT, Int.reduceLE, Int.reduceGT, Int.reduceNeg, reduceCtorEq, and_true, true_and, and_self, Option.some.injEq, ite_true, ite_false, decide_true, decide_false, not_true_eq_false, not_false_eq_true, beq_self_eq_true, Nat.zero_add, Nat.add_zero, Nat.le_refl, Nat.not_lt_zero, Option.isNone_some, Option.isSome_some, Nat.zero_add] at h2 h3 ⊢
    simp only [↓GO, ↓DRW, want_none, LVS, OVS, LTS, packH_eq, pK_1, pK_2, reach', nodups, brefs, rangeL, idx_eq, idx', ren, ren.rens, renB, prows, getB, blkRefs, getE_nat, List.flatMap_nil, List.flatMap_cons, List.mem_cons, List.not_mem_nil, or_false, false_or, or_true, true_or, nI, nH, nids, cntNew, isNew, nonW, foot, footX, refs, refs.refss, OPL, Option.toList, opv, opvs, opvO, upd_at, put_some, put_none, cellsV, boxK, allocK, cst, cstAt, cstAll, fldAddr, fld, idxAddr, TYS, E.load, ldCells, E.store, stCells, splice, bin, ibin, sbin, una, isShift, argE_zero, argE_succ, okCell, packV, lenV, blt, callK, fnV, PMS, asArg, asArg.asArgs, allT, allZ, mkS, sliceK, fillS, giveTs, maxBytes, app, srcOf, srcOf0, unN, nilEq, ne_eq, List.isEmpty_nil, List.replicate_succ, List.replicate_zero, Nat.zero_mul, Nat.reduceGT, List.append_nil,  give, give.gives, giveT, tupV, retV, resV, blkSz, want_guard, dstAt, wantK_some, wantV_tt, wantV_tf, wantV_ft, wantV_ff, wantV_u, mkEnv, partsV, buildV, fillV, extV, pickV, Option.map, Option.bind, Option.getD, List.map_cons, List.map_nil, List.all_cons, List.all_nil, List.isEmpty_cons, List.length_nil, List.length_cons, List.nil_append, List.cons_append, List.append_nil, List.getElem?_cons_zero, List.getElem?_cons_succ, List.set_cons_zero, List.set_cons_succ, List.drop_zero, List.drop_succ_cons, List.take_succ_cons, List.take_zero, List.drop_nil, List.take_nil, List.toList_toArray, Bool.and_true, Bool.not_true, Bool.not_false, Bool.false_or, Bool.or_false, Bool.or_true, Bool.true_or, Bool.and_false, Bool.true_and, Bool.false_and, Bool.false_eq_true, ↓reduceIte, Nat.reduceAdd, Nat.reduceMul, Nat.reduceSub, Nat.reduceEqDiff, Nat.reduceLeDiff, Nat.reduceLT, Nat.reduceBEq, Int.reduceBEq, Int.reduceBNe, Int.reduceEq, Int.reduceLT, Int.reduceLE, Int.reduceGT, Int.reduceNeg, reduceCtorEq, and_true, true_and, and_self, Option.some.injEq, ite_true, ite_false, decide_true, decide_false, not_true_eq_false, not_false_eq_true, beq_self_eq_true, Nat.zero_add, Nat.add_zero, Nat.le_refl, Nat.not_lt_zero, Option.isNone_some, Option.isSome_some, h2, h3]
    rw [List.take_length]
end Z
/-- what is shown by other means: a clone of a list -/
def extT (f : Nat) (args : List V) : Option V :=
  if f = 55 then (match args with
    | [.t (.list 1 es)] => if es.length ≤ 1048576 then some (.t (.list 1 es)) else none
    | _ => none)
  else none
noncomputable def pol : Pol := polOf Try.prog pmT liveT outsT drT extT
theorem pol_ok : ∀ f fn c, pol.no f = false → Try.prog.funcs[f]? = some fn → fn.body = some c → codeOK (drOK Try.prog pol f) fn.ntmps c = true := polOf_ok
theorem DRW : ∀ (rc : Rec) (f m p n : Nat) (fs : List Fr) (k : Fin') (e : Env) (h : Heap) (l : List Oper), goC ⟨Try.prog, pol, rc, f, m⟩ (.region n l.toArray true) p fs k e h = goD ⟨Try.prog, pol, rc, f, m⟩ (l.all (nonW pol f)) l fs k e h := fun _ _ _ _ _ _ _ _ _ _ => goC_draw _ _ _ _ _ _ _ _ rfl
theorem LVS : ∀ f p, pol.live f p = liveT f p := fun _ _ => rfl
theorem OVS : ∀ f p, pol.outs f p = outsT f p := fun _ _ => rfl
theorem PMS : ∀ f d, pol.pm f d = .pure := fun _ _ => rfl
theorem ext_ok : ExtOK Try.prog pol := by
  intro g args v hv
  have hv' : extT g args = some v := hv
  unfold extT at hv'
  split at hv'
  · rename_i hg
    subst hg
    split at hv'
    · rename_i es
      split at hv'
      · rename_i hl
        cases hv'
        refine ⟨⟨Try.f55, Try.func55, by kernel_rfl, by kernel_rfl⟩, fun w F us hF hu => ?_⟩
        generalize hul : us.toList = ul at hu
        cases hu with
        | cons h1 h2 =>
          cases h2
          cases h1 with
          | t u x h1 =>
            cases h1 with
            | list a n c sz es g hn hc h0 hz hr =>
              have hrt : RT w F (.slice a n c) (.list 1 es) := .list a n c 1 es g hn hc h0 hz hr
              refine EV_call (ext_none fun _ _ => rfl) Z.pol_ok (Z.clone55 a.isNone es hl fun ha => ?_) w F us hF ?_
              · cases es with
                | nil => rfl
                | cons e es =>
                  obtain ⟨b, o, e1, _⟩ := h0 (by rw [← hn]; simp)
                  rw [e1] at ha; cases ha
              · rw [hul]
                exact .cons (.t _ _ (.nlist a n c 1 es _ rfl hrt)) .nil
      · cases hv'
    · cases hv'
  · cases hv'
theorem pol_ext (f : Nat) (args : List V) : pol.ext f args = extT f args := rfl
theorem c_clone55 (es : List (List T)) (hl : es.length ≤ 1048576) : callPure (EV Try.prog pol) 55 [.t (.list 1 es)] = some (.t (.list 1 es)) :=
  eq_call (EV_ext (by rw [pol_ext]; simp [extT, hl]))
end Go.Proofs.Ytpfcdafpfgcjlaa

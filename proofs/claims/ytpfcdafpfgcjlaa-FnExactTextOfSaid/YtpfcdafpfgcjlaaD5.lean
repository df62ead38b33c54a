/- Trees: the second copy; a key's place. Conditions: none. -/
import Derived.Test.YtpfcdafpfgcjlaaD4
namespace Go.Proofs.Ytpfcdafpfgcjlaa
open E
set_option linter.unusedSimpArgs false
set_option linter.unusedVariables false
set_option maxRecDepth 100000

def CdT (t : Tr) : Prop := callPure (EV Try.prog pol) 42 [.agg (t.enc.map .t)] = some (.agg (t.enc.map .t))
theorem l_copied (cs : List Tr) (hl : cs.length ≤ 1048576) (hc : ∀ c ∈ cs, CdT c) (a z : List V) (ha : refs.refss a = []) (hz : refs.refss z = []) (hra : ∀ m, ren.rens m a = a) (hrz : ∀ m, ren.rens m z = z) : ∀ (d i : Nat) (cap : Option Nat), cs.length - i = d → i ≤ cs.length →
    ∃ cap', EV Try.prog pol (.loop 42 122 0 [.ptr 0 0 0, .ptr 1 0 0, .sl 2 0 i cap, .t (.list 5 (Tr.encs cs)), .t (.int .i64 (cs.length : Int)), .t (.int .i64 (i : Int))]
      [.vs 5 [a], .vs 5 [z], .ts 5 (Tr.encs (cs.take i))])
    = some (.loop (.exit 0) [.ptr 0 0 0, .ptr 1 0 0, .sl 2 0 cs.length cap'] [.vs 5 [a], .vs 5 [z], .ts 5 (Tr.encs cs)])
  | 0, i, cap, hd, hi => by
    have hi' : i = cs.length := by omega
    subst hi'
    refine ⟨cap, ?_⟩
    refine loop_eq Try.func42 rfl rfl ?_
    have c : decide (((cs.length : Nat) : Int) < ((cs.length : Nat) : Int)) = false := by simp
    simp only [↓GO, ↓DRW, want_none, LVS, OVS, LTS, packH_eq, pK_1, pK_2, reach', nodups, brefs, rangeL, idx_eq, idx', ren, ren.rens, renB, prows, getB, blkRefs, getE_nat, List.flatMap_nil, List.flatMap_cons, List.mem_cons, List.not_mem_nil, or_false, false_or, or_true, true_or, nI, nH, nids, cntNew, isNew, nonW, foot, footX, refs, refs.refss, OPL, Option.toList, opv, opvs, opvO, upd_at, put_some, put_none, cellsV, boxK, allocK, cst, cstAt, cstAll, fldAddr, fld, idxAddr, TYS, E.load, ldCells, E.store, stCells, splice, bin, ibin, sbin, una, isShift, argE_zero, argE_succ, okCell, packV, lenV, blt, callK, fnV, PMS, asArg, asArg.asArgs, allT, allZ, mkS, sliceK, fillS, giveTs, maxBytes, app, srcOf, srcOf0, unN, nilEq, ne_eq, List.isEmpty_nil, List.replicate_succ, List.replicate_zero, Nat.zero_mul, Nat.reduceGT, List.append_nil,  give, give.gives, giveT, tupV, retV, resV, blkSz, want_guard, dstAt, wantK_some, wantV_tt, wantV_tf, wantV_ft, wantV_ff, wantV_u, mkEnv, partsV, buildV, fillV, extV, pickV, Option.map, Option.bind, Option.getD, List.map_cons, List.map_nil, List.all_cons, List.all_nil, List.isEmpty_cons, List.length_nil, List.length_cons, List.nil_append, List.cons_append, List.append_nil, List.getElem?_cons_zero, List.getElem?_cons_succ, List.set_cons_zero, List.set_cons_succ, List.drop_zero, List.drop_succ_cons, List.take_succ_cons, List.take_zero, List.drop_nil, List.take_nil, List.toList_toArray, Bool.and_true, Bool.not_true, Bool.not_false, Bool.false_or, Bool.or_false, Bool.or_true, Bool.true_or, Bool.and_false, Bool.true_and, Bool.false_and, Bool.false_eq_true, ↓reduceIte, Nat.reduceAdd, Nat.reduceMul, Nat.reduceSub, Nat.reduceEqDiff, Nat.reduceLeDiff, Nat.reduceLT, Nat.reduceBEq, Int.reduceBEq, Int.reduceBNe, Int.reduceEq, Int.reduceLT, Int.reduceLE, Int.reduceGT, Int.reduceNeg, reduceCtorEq, and_true, true_and, and_self, Option.some.injEq, ite_true, ite_false, decide_true, decide_false, not_true_eq_false, not_false_eq_true, beq_self_eq_true, Nat.zero_add, Nat.add_zero, Nat.le_refl, Nat.not_lt_zero, Option.isNone_some, Option.isSome_some, Tr.encs_len, c, List.take_length]
  | d + 1, i, cap, hd, hi => by
    have hlt : i < cs.length := by omega
    have c : decide ((i : Int) < ((cs.length : Nat) : Int)) = true := by simp; omega
    obtain ⟨cap', IH⟩ := l_copied cs hl hc a z ha hz hra hrz d (i + 1) none (by omega) (by omega)
    have e1 : (i : Int) + 1 = ((i + 1 : Nat) : Int) := by omega
    rw [Tr.take_succ cs i hlt] at IH
    have hcall := hc _ (List.getElem_mem hlt)
    have hget := Tr.encs_get cs i hlt
    generalize hci : cs[i] = ci at hcall hget IH
    obtain ⟨k', n', s', ks', cs'⟩ := ci
    simp only [CdT, Tr.enc, List.map_cons, List.map_nil] at hcall hget IH
    have hl2 : (cs.take i).length = i := by simp; omega
    have q2 : (i + 1) * 160 ≤ 140737488355328 := by omega
    have q3 : i + 1 ≤ 140737488355328 := by omega
    refine ⟨cap', ?_⟩
    refine loop_eq Try.func42 rfl rfl ?_
    simp (disch := omega) only [↓GO, ↓DRW, want_none, LVS, OVS, LTS, packH_eq, pK_1, pK_2, reach', nodups, brefs, rangeL, idx_eq, idx', ren, ren.rens, renB, prows, getB, blkRefs, getE_nat, List.flatMap_nil, List.flatMap_cons, List.mem_cons, List.not_mem_nil, or_false, false_or, or_true, true_or, nI, nH, nids, cntNew, isNew, nonW, foot, footX, refs, refs.refss, OPL, Option.toList, opv, opvs, opvO, upd_at, put_some, put_none, cellsV, boxK, allocK, cst, cstAt, cstAll, fldAddr, fld, idxAddr, TYS, E.load, ldCells, E.store, stCells, splice, bin, ibin, sbin, una, isShift, argE_zero, argE_succ, okCell, packV, lenV, blt, callK, fnV, PMS, asArg, asArg.asArgs, allT, allZ, mkS, sliceK, fillS, giveTs, maxBytes, app, srcOf, srcOf0, unN, nilEq, ne_eq, List.isEmpty_nil, List.replicate_succ, List.replicate_zero, Nat.zero_mul, Nat.reduceGT, List.append_nil,  give, give.gives, giveT, tupV, retV, resV, blkSz, want_guard, dstAt, wantK_some, wantV_tt, wantV_tf, wantV_ft, wantV_ff, wantV_u, mkEnv, partsV, buildV, fillV, extV, pickV, Option.map, Option.bind, Option.getD, List.map_cons, List.map_nil, List.all_cons, List.all_nil, List.isEmpty_cons, List.length_nil, List.length_cons, List.nil_append, List.cons_append, List.append_nil, List.getElem?_cons_zero, List.getElem?_cons_succ, List.set_cons_zero, List.set_cons_succ, List.drop_zero, List.drop_succ_cons, List.take_succ_cons, List.take_zero, List.drop_nil, List.take_nil, List.toList_toArray, Bool.and_true, Bool.not_true, Bool.not_false, Bool.false_or, Bool.or_false, Bool.or_true, Bool.true_or, Bool.and_false, Bool.true_and, Bool.false_and, Bool.false_eq_true, ↓reduceIte, Nat.reduceAdd, Nat.reduceMul, Nat.reduceSub, Nat.reduceEqDiff, Nat.reduceLeDiff, Nat.reduceLT, Nat.reduceBEq, Int.reduceBEq, Int.reduceBNe, Int.reduceEq, Int.reduceLT, Int.reduceLE, Int.reduceGT, Int.reduceNeg, reduceCtorEq, and_true, true_and, and_self, Option.some.injEq, ite_true, ite_false, decide_true, decide_false, not_true_eq_false, not_false_eq_true, beq_self_eq_true, Nat.zero_add, Nat.add_zero, Nat.le_refl, Nat.not_lt_zero, Option.isNone_some, Option.isSome_some, Tr.encs_len, c, hget, wrap_in, e1, Int.toNat_natCast, hcall, hl2, q2, q3, ha, hz, hra, hrz]
    exact IH
theorem c_copied : ∀ (N : Nat) (t : Tr), t.nd ≤ N → t.bulk ≤ 1048576 → CdT t
  | 0, .mk k n s ks cs, h, _ => by simp [Tr.nd] at h
  | N + 1, .mk k n s ks cs, h, ho => by
    simp only [Tr.nd] at h
    simp only [Tr.bulk] at ho
    have hc : ∀ c ∈ cs, CdT c := fun c hc => c_copied N c (by have := Tr.nds_mem hc; omega) (by have := Tr.bulks_mem hc; omega)
    simp only [CdT, Tr.enc, List.map_cons, List.map_nil]
    apply eq_call
    refine call_eq rfl Try.func42 rfl (by kernel_rfl) ?_
    unfold Try.f42
    have h55 := c_clone55 (strs ks) (by rw [strs_len]; omega)
    obtain ⟨cap', IH⟩ := l_copied cs (by omega) hc [.t (.int .i64 k), .t (.int .i64 n), .t (.str s), .t (.list 1 (strs ks)), .t (.list 5 (Tr.encs cs))] [.t (.int .i64 0), .t (.int .i64 0), .t (.str []), .nil 1, .nil 5] rfl rfl (fun _ => rfl) (fun _ => rfl) cs.length 0 (some 0) (by omega) (by omega)
    simp only [List.take_zero, Tr.encs, Int.natCast_zero] at IH
    have htc : (Tr.encs cs).take cs.length = Tr.encs cs := by rw [← Tr.encs_len cs]; simp
    simp only [↓GO, ↓DRW, want_none, LVS, OVS, LTS, packH_eq, pK_1, pK_2, reach', nodups, brefs, rangeL, idx_eq, idx', ren, ren.rens, renB, prows, getB, blkRefs, getE_nat, List.flatMap_nil, List.flatMap_cons, List.mem_cons, List.not_mem_nil, or_false, false_or, or_true, true_or, nI, nH, nids, cntNew, isNew, nonW, foot, footX, refs, refs.refss, OPL, Option.toList, opv, opvs, opvO, upd_at, put_some, put_none, cellsV, boxK, allocK, cst, cstAt, cstAll, fldAddr, fld, idxAddr, TYS, E.load, ldCells, E.store, stCells, splice, bin, ibin, sbin, una, isShift, argE_zero, argE_succ, okCell, packV, lenV, blt, callK, fnV, PMS, asArg, asArg.asArgs, allT, allZ, mkS, sliceK, fillS, giveTs, maxBytes, app, srcOf, srcOf0, unN, nilEq, ne_eq, List.isEmpty_nil, List.replicate_succ, List.replicate_zero, Nat.zero_mul, Nat.reduceGT, List.append_nil,  give, give.gives, giveT, tupV, retV, resV, blkSz, want_guard, dstAt, wantK_some, wantV_tt, wantV_tf, wantV_ft, wantV_ff, wantV_u, mkEnv, partsV, buildV, fillV, extV, pickV, Option.map, Option.bind, Option.getD, List.map_cons, List.map_nil, List.all_cons, List.all_nil, List.isEmpty_cons, List.length_nil, List.length_cons, List.nil_append, List.cons_append, List.append_nil, List.getElem?_cons_zero, List.getElem?_cons_succ, List.set_cons_zero, List.set_cons_succ, List.drop_zero, List.drop_succ_cons, List.take_succ_cons, List.take_zero, List.drop_nil, List.take_nil, List.toList_toArray, Bool.and_true, Bool.not_true, Bool.not_false, Bool.false_or, Bool.or_false, Bool.or_true, Bool.true_or, Bool.and_false, Bool.true_and, Bool.false_and, Bool.false_eq_true, ↓reduceIte, Nat.reduceAdd, Nat.reduceMul, Nat.reduceSub, Nat.reduceEqDiff, Nat.reduceLeDiff, Nat.reduceLT, Nat.reduceBEq, Int.reduceBEq, Int.reduceBNe, Int.reduceEq, Int.reduceLT, Int.reduceLE, Int.reduceGT, Int.reduceNeg, reduceCtorEq, and_true, true_and, and_self, Option.some.injEq, ite_true, ite_false, decide_true, decide_false, not_true_eq_false, not_false_eq_true, beq_self_eq_true, Nat.zero_add, Nat.add_zero, Nat.le_refl, Nat.not_lt_zero, Option.isNone_some, Option.isSome_some, h55, Tr.encs_len, IH, htc]
end Go.Proofs.Ytpfcdafpfgcjlaa

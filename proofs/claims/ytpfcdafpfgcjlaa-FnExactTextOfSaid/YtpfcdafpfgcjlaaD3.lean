/- Trees: a copy out of the law's own types. Conditions: none. -/
import Derived.Test.YtpfcdafpfgcjlaaD2
namespace Go.Proofs.Ytpfcdafpfgcjlaa
open E
set_option linter.unusedSimpArgs false
set_option linter.unusedVariables false
set_option maxRecDepth 100000

/-- a row filled up to a place -/
def fillE (xs : List (List T)) (z : List T) (i : Nat) : List (List T) := xs.take i ++ List.replicate (xs.length - i) z
theorem fillE_zero (xs : List (List T)) (z : List T) : fillE xs z 0 = List.replicate xs.length z := by simp [fillE]
theorem fillE_all (xs : List (List T)) (z : List T) : fillE xs z xs.length = xs := by simp [fillE]
theorem fillE_len (xs : List (List T)) (z : List T) (i : Nat) (h : i ≤ xs.length) : (fillE xs z i).length = xs.length := by simp [fillE]; omega
theorem fillE_get (xs : List (List T)) (z : List T) (i : Nat) (h : i < xs.length) : (fillE xs z i)[i]? = some z := by
  unfold fillE
  rw [List.getElem?_append_right (by simp; omega), List.getElem?_replicate, if_pos (by simp; omega)]
theorem fillE_set (xs : List (List T)) (z : List T) (i : Nat) (h : i < xs.length) : (fillE xs z i).set i xs[i] = fillE xs z (i + 1) := by
  unfold fillE
  apply List.ext_getElem?
  intro j
  rw [List.getElem?_set]
  by_cases hj : i = j
  · subst hj
    rw [if_pos rfl, if_pos (by simp; omega), List.getElem?_append_left (by simp; omega)]
    simp [h]
  · rw [if_neg hj]
    rcases Nat.lt_or_ge j i with hlt | hge
    · rw [List.getElem?_append_left (by simp; omega), List.getElem?_append_left (by simp; omega)]
      rw [List.getElem?_take, List.getElem?_take, if_pos hlt, if_pos (by omega)]
    · rw [List.getElem?_append_right (by simp; omega), List.getElem?_append_right (by simp; omega), List.getElem?_replicate, List.getElem?_replicate]
      simp only [List.length_take]
      by_cases hk : j < xs.length
      · rw [if_pos (by omega), if_pos (by omega)]
      · rw [if_neg (by omega), if_neg (by omega)]
theorem l_toStringS (ks : List (List UInt8)) (hl : ks.length ≤ 1048576) : ∀ (d i : Nat), ks.length - i = d → i ≤ ks.length →
    EV Try.prog pol (.loop 21 58 0 [.t (.list 1 (strs ks)), .sl 0 0 ks.length (some ks.length), .t (.int .i64 (i : Int))] [.ts 1 (fillE (strs ks) [.str []] i)]) = some (.loop (.exit 0) [.sl 0 0 ks.length (some ks.length)] [.ts 1 (strs ks)])
  | 0, i, hd, hi => by
    have hi' : i = ks.length := by omega
    subst hi'
    refine loop_eq Try.func21 rfl rfl ?_
    have c : decide (((ks.length : Nat) : Int) < ((ks.length : Nat) : Int)) = false := by simp
    have hf : fillE (strs ks) [.str []] ks.length = strs ks := by rw [← strs_len ks]; exact fillE_all _ _
    simp only [↓GO, ↓DRW, want_none, LVS, OVS, LTS, packH_eq, pK_1, pK_2, reach', nodups, brefs, rangeL, idx_eq, idx', ren, ren.rens, renB, prows, getB, blkRefs, getE_nat, List.flatMap_nil, List.flatMap_cons, List.mem_cons, List.not_mem_nil, or_false, false_or, or_true, true_or, nI, nH, nids, cntNew, isNew, nonW, foot, footX, refs, refs.refss, OPL, Option.toList, opv, opvs, opvO, upd_at, put_some, put_none, cellsV, boxK, allocK, cst, cstAt, cstAll, fldAddr, fld, idxAddr, TYS, E.load, ldCells, E.store, stCells, splice, bin, ibin, sbin, una, isShift, argE_zero, argE_succ, okCell, packV, lenV, blt, callK, fnV, PMS, asArg, asArg.asArgs, allT, allZ, mkS, sliceK, fillS, giveTs, maxBytes, app, srcOf, srcOf0, unN, nilEq, ne_eq, List.isEmpty_nil, List.replicate_succ, List.replicate_zero, Nat.zero_mul, Nat.reduceGT, List.append_nil,  give, give.gives, giveT, tupV, retV, resV, blkSz, want_guard, dstAt, wantK_some, wantV_tt, wantV_tf, wantV_ft, wantV_ff, wantV_u, mkEnv, partsV, buildV, fillV, extV, pickV, Option.map, Option.bind, Option.getD, List.map_cons, List.map_nil, List.all_cons, List.all_nil, List.isEmpty_cons, List.length_nil, List.length_cons, List.nil_append, List.cons_append, List.append_nil, List.getElem?_cons_zero, List.getElem?_cons_succ, List.set_cons_zero, List.set_cons_succ, List.drop_zero, List.drop_succ_cons, List.take_succ_cons, List.take_zero, List.drop_nil, List.take_nil, List.toList_toArray, Bool.and_true, Bool.not_true, Bool.not_false, Bool.false_or, Bool.or_false, Bool.or_true, Bool.true_or, Bool.and_false, Bool.true_and, Bool.false_and, Bool.false_eq_true, ↓reduceIte, Nat.reduceAdd, Nat.reduceMul, Nat.reduceSub, Nat.reduceEqDiff, Nat.reduceLeDiff, Nat.reduceLT, Nat.reduceBEq, Int.reduceBEq, Int.reduceBNe, Int.reduceEq, Int.reduceLT, Int.reduceLE, Int.reduceGT, Int.reduceNeg, reduceCtorEq, and_true, true_and, and_self, Option.some.injEq, ite_true, ite_false, decide_true, decide_false, not_true_eq_false, not_false_eq_true, beq_self_eq_true, Nat.zero_add, Nat.add_zero, Nat.le_refl, Nat.not_lt_zero, Option.isNone_some, Option.isSome_some, strs_len, c, hf]
  | d + 1, i, hd, hi => by
    have hlt : i < ks.length := by omega
    have hlt' : i < (strs ks).length := by rw [strs_len]; exact hlt
    have c : decide ((i : Int) < ((ks.length : Nat) : Int)) = true := by simp; omega
    have c0 : decide ((0 : Int) ≤ (i : Int)) = true := by simp
    have IH := l_toStringS ks hl d (i + 1) (by omega) (by omega)
    have e1 : (i : Int) + 1 = ((i + 1 : Nat) : Int) := by omega
    have hg := fillE_get (strs ks) [.str []] i hlt'
    have hs := fillE_set (strs ks) [.str []] i hlt'
    have hx : (strs ks)[i] = [.str ks[i]] := by simp [strs]
    rw [hx] at hs
    refine loop_eq Try.func21 rfl rfl ?_
    simp (disch := omega) only [↓GO, ↓DRW, want_none, LVS, OVS, LTS, packH_eq, pK_1, pK_2, reach', nodups, brefs, rangeL, idx_eq, idx', ren, ren.rens, renB, prows, getB, blkRefs, getE_nat, List.flatMap_nil, List.flatMap_cons, List.mem_cons, List.not_mem_nil, or_false, false_or, or_true, true_or, nI, nH, nids, cntNew, isNew, nonW, foot, footX, refs, refs.refss, OPL, Option.toList, opv, opvs, opvO, upd_at, put_some, put_none, cellsV, boxK, allocK, cst, cstAt, cstAll, fldAddr, fld, idxAddr, TYS, E.load, ldCells, E.store, stCells, splice, bin, ibin, sbin, una, isShift, argE_zero, argE_succ, okCell, packV, lenV, blt, callK, fnV, PMS, asArg, asArg.asArgs, allT, allZ, mkS, sliceK, fillS, giveTs, maxBytes, app, srcOf, srcOf0, unN, nilEq, ne_eq, List.isEmpty_nil, List.replicate_succ, List.replicate_zero, Nat.zero_mul, Nat.reduceGT, List.append_nil,  give, give.gives, giveT, tupV, retV, resV, blkSz, want_guard, dstAt, wantK_some, wantV_tt, wantV_tf, wantV_ft, wantV_ff, wantV_u, mkEnv, partsV, buildV, fillV, extV, pickV, Option.map, Option.bind, Option.getD, List.map_cons, List.map_nil, List.all_cons, List.all_nil, List.isEmpty_cons, List.length_nil, List.length_cons, List.nil_append, List.cons_append, List.append_nil, List.getElem?_cons_zero, List.getElem?_cons_succ, List.set_cons_zero, List.set_cons_succ, List.drop_zero, List.drop_succ_cons, List.take_succ_cons, List.take_zero, List.drop_nil, List.take_nil, List.toList_toArray, Bool.and_true, Bool.not_true, Bool.not_false, Bool.false_or, Bool.or_false, Bool.or_true, Bool.true_or, Bool.and_false, Bool.true_and, Bool.false_and, Bool.false_eq_true, ↓reduceIte, Nat.reduceAdd, Nat.reduceMul, Nat.reduceSub, Nat.reduceEqDiff, Nat.reduceLeDiff, Nat.reduceLT, Nat.reduceBEq, Int.reduceBEq, Int.reduceBNe, Int.reduceEq, Int.reduceLT, Int.reduceLE, Int.reduceGT, Int.reduceNeg, reduceCtorEq, and_true, true_and, and_self, Option.some.injEq, ite_true, ite_false, decide_true, decide_false, not_true_eq_false, not_false_eq_true, beq_self_eq_true, Nat.zero_add, Nat.add_zero, Nat.le_refl, Nat.not_lt_zero, Option.isNone_some, Option.isSome_some, strs_len, c, c0, strs_get ks i hlt, wrap_in, e1, hg, Int.toNat_natCast, hs]
    exact IH
theorem c_toStringS (ks : List (List UInt8)) (hl : ks.length ≤ 1048576) : callPure (EV Try.prog pol) 21 [.t (.list 1 (strs ks))] = some (.t (.list 1 (strs ks))) := by
  apply eq_call
  refine call_eq rfl Try.func21 rfl (by kernel_rfl) ?_
  unfold Try.f21
  have h1 : ¬ ((ks.length : Int) < 0) := by omega
  have h2 : ¬ (ks.length * 16 > 140737488355328) := by omega
  have h3 : ¬ (ks.length > 140737488355328) := by omega
  have hz : List.replicate ks.length [T.str []] = fillE (strs ks) [.str []] 0 := by rw [fillE_zero, strs_len]
  have IH := l_toStringS ks hl ks.length 0 (by omega) (by omega)
  simp only [Int.natCast_zero] at IH
  have ht : (strs ks).take ks.length = strs ks := by rw [← strs_len ks]; simp
  simp (disch := omega) only [↓GO, ↓DRW, want_none, LVS, OVS, LTS, packH_eq, pK_1, pK_2, reach', nodups, brefs, rangeL, idx_eq, idx', ren, ren.rens, renB, prows, getB, blkRefs, getE_nat, List.flatMap_nil, List.flatMap_cons, List.mem_cons, List.not_mem_nil, or_false, false_or, or_true, true_or, nI, nH, nids, cntNew, isNew, nonW, foot, footX, refs, refs.refss, OPL, Option.toList, opv, opvs, opvO, upd_at, put_some, put_none, cellsV, boxK, allocK, cst, cstAt, cstAll, fldAddr, fld, idxAddr, TYS, E.load, ldCells, E.store, stCells, splice, bin, ibin, sbin, una, isShift, argE_zero, argE_succ, okCell, packV, lenV, blt, callK, fnV, PMS, asArg, asArg.asArgs, allT, allZ, mkS, sliceK, fillS, giveTs, maxBytes, app, srcOf, srcOf0, unN, nilEq, ne_eq, List.isEmpty_nil, List.replicate_succ, List.replicate_zero, Nat.zero_mul, Nat.reduceGT, List.append_nil,  give, give.gives, giveT, tupV, retV, resV, blkSz, want_guard, dstAt, wantK_some, wantV_tt, wantV_tf, wantV_ft, wantV_ff, wantV_u, mkEnv, partsV, buildV, fillV, extV, pickV, Option.map, Option.bind, Option.getD, List.map_cons, List.map_nil, List.all_cons, List.all_nil, List.isEmpty_cons, List.length_nil, List.length_cons, List.nil_append, List.cons_append, List.append_nil, List.getElem?_cons_zero, List.getElem?_cons_succ, List.set_cons_zero, List.set_cons_succ, List.drop_zero, List.drop_succ_cons, List.take_succ_cons, List.take_zero, List.drop_nil, List.take_nil, List.toList_toArray, Bool.and_true, Bool.not_true, Bool.not_false, Bool.false_or, Bool.or_false, Bool.or_true, Bool.true_or, Bool.and_false, Bool.true_and, Bool.false_and, Bool.false_eq_true, ↓reduceIte, Nat.reduceAdd, Nat.reduceMul, Nat.reduceSub, Nat.reduceEqDiff, Nat.reduceLeDiff, Nat.reduceLT, Nat.reduceBEq, Int.reduceBEq, Int.reduceBNe, Int.reduceEq, Int.reduceLT, Int.reduceLE, Int.reduceGT, Int.reduceNeg, reduceCtorEq, and_true, true_and, and_self, Option.some.injEq, ite_true, ite_false, decide_true, decide_false, not_true_eq_false, not_false_eq_true, beq_self_eq_true, Nat.zero_add, Nat.add_zero, Nat.le_refl, Nat.not_lt_zero, Option.isNone_some, Option.isSome_some, strs_len, Int.toNat_natCast, h1, h2, h3, hz, IH, ne_eq, not_true_eq_false, ht]

theorem Tr.bulks_mem : ∀ {cs : List Tr} {c : Tr}, c ∈ cs → c.bulk ≤ Tr.bulks cs
  | c' :: cs, c, h => by
    simp only [Tr.bulks]
    rcases List.mem_cons.1 h with rfl | h
    · omega
    · have := Tr.bulks_mem h; omega
/-- a tree is copied as it is -/
def ToT (t : Tr) : Prop := callPure (EV Try.prog pol) 15 [.agg (t.enc.map .t)] = some (.agg (t.enc.map .t))
def zTr : List T := [.int .i64 0, .int .i64 0, .str [], .list 1 [], .list 5 []]
theorem l_toTreeS (cs : List Tr) (hl : cs.length ≤ 1048576) (hc : ∀ c ∈ cs, ToT c) : ∀ (d i : Nat), cs.length - i = d → i ≤ cs.length →
    EV Try.prog pol (.loop 22 58 0 [.t (.list 5 (Tr.encs cs)), .sl 0 0 cs.length (some cs.length), .t (.int .i64 (i : Int))] [.ts 5 (fillE (Tr.encs cs) zTr i)]) = some (.loop (.exit 0) [.sl 0 0 cs.length (some cs.length)] [.ts 5 (Tr.encs cs)])
  | 0, i, hd, hi => by
    have hi' : i = cs.length := by omega
    subst hi'
    refine loop_eq Try.func22 rfl rfl ?_
    have c : decide (((cs.length : Nat) : Int) < ((cs.length : Nat) : Int)) = false := by simp
    have hf : fillE (Tr.encs cs) zTr cs.length = Tr.encs cs := by rw [← Tr.encs_len cs]; exact fillE_all _ _
    simp only [↓GO, ↓DRW, want_none, LVS, OVS, LTS, packH_eq, pK_1, pK_2, reach', nodups, brefs, rangeL, idx_eq, idx', ren, ren.rens, renB, prows, getB, blkRefs, getE_nat, List.flatMap_nil, List.flatMap_cons, List.mem_cons, List.not_mem_nil, or_false, false_or, or_true, true_or, nI, nH, nids, cntNew, isNew, nonW, foot, footX, refs, refs.refss, OPL, Option.toList, opv, opvs, opvO, upd_at, put_some, put_none, cellsV, boxK, allocK, cst, cstAt, cstAll, fldAddr, fld, idxAddr, TYS, E.load, ldCells, E.store, stCells, splice, bin, ibin, sbin, una, isShift, argE_zero, argE_succ, okCell, packV, lenV, blt, callK, fnV, PMS, asArg, asArg.asArgs, allT, allZ, mkS, sliceK, fillS, giveTs, maxBytes, app, srcOf, srcOf0, unN, nilEq, ne_eq, List.isEmpty_nil, List.replicate_succ, List.replicate_zero, Nat.zero_mul, Nat.reduceGT, List.append_nil,  give, give.gives, giveT, tupV, retV, resV, blkSz, want_guard, dstAt, wantK_some, wantV_tt, wantV_tf, wantV_ft, wantV_ff, wantV_u, mkEnv, partsV, buildV, fillV, extV, pickV, Option.map, Option.bind, Option.getD, List.map_cons, List.map_nil, List.all_cons, List.all_nil, List.isEmpty_cons, List.length_nil, List.length_cons, List.nil_append, List.cons_append, List.append_nil, List.getElem?_cons_zero, List.getElem?_cons_succ, List.set_cons_zero, List.set_cons_succ, List.drop_zero, List.drop_succ_cons, List.take_succ_cons, List.take_zero, List.drop_nil, List.take_nil, List.toList_toArray, Bool.and_true, Bool.not_true, Bool.not_false, Bool.false_or, Bool.or_false, Bool.or_true, Bool.true_or, Bool.and_false, Bool.true_and, Bool.false_and, Bool.false_eq_true, ↓reduceIte, Nat.reduceAdd, Nat.reduceMul, Nat.reduceSub, Nat.reduceEqDiff, Nat.reduceLeDiff, Nat.reduceLT, Nat.reduceBEq, Int.reduceBEq, Int.reduceBNe, Int.reduceEq, Int.reduceLT, Int.reduceLE, Int.reduceGT, Int.reduceNeg, reduceCtorEq, and_true, true_and, and_self, Option.some.injEq, ite_true, ite_false, decide_true, decide_false, not_true_eq_false, not_false_eq_true, beq_self_eq_true, Nat.zero_add, Nat.add_zero, Nat.le_refl, Nat.not_lt_zero, Option.isNone_some, Option.isSome_some, Tr.encs_len, c, hf]
  | d + 1, i, hd, hi => by
    have hlt : i < cs.length := by omega
    have hlt' : i < (Tr.encs cs).length := by rw [Tr.encs_len]; exact hlt
    have c : decide ((i : Int) < ((cs.length : Nat) : Int)) = true := by simp; omega
    have c0 : decide ((0 : Int) ≤ (i : Int)) = true := by simp
    have IH := l_toTreeS cs hl hc d (i + 1) (by omega) (by omega)
    have e1 : (i : Int) + 1 = ((i + 1 : Nat) : Int) := by omega
    have hg : (fillE (Tr.encs cs) zTr i)[i]? = some [T.int .i64 0, .int .i64 0, .str [], .list 1 [], .list 5 []] := fillE_get (Tr.encs cs) zTr i hlt'
    have hs := fillE_set (Tr.encs cs) zTr i hlt'
    have hx : (Tr.encs cs)[i] = cs[i].enc := by simp [Tr.encs_eq]
    rw [hx] at hs
    have hcall := hc _ (List.getElem_mem hlt)
    have hget := Tr.encs_get cs i hlt
    generalize hci : cs[i] = ci at hcall hget hs
    obtain ⟨k, n', s, ks, cs'⟩ := ci
    simp only [ToT, Tr.enc, List.map_cons, List.map_nil] at hcall hget hs
    refine loop_eq Try.func22 rfl rfl ?_
    simp (disch := omega) only [↓GO, ↓DRW, want_none, LVS, OVS, LTS, packH_eq, pK_1, pK_2, reach', nodups, brefs, rangeL, idx_eq, idx', ren, ren.rens, renB, prows, getB, blkRefs, getE_nat, List.flatMap_nil, List.flatMap_cons, List.mem_cons, List.not_mem_nil, or_false, false_or, or_true, true_or, nI, nH, nids, cntNew, isNew, nonW, foot, footX, refs, refs.refss, OPL, Option.toList, opv, opvs, opvO, upd_at, put_some, put_none, cellsV, boxK, allocK, cst, cstAt, cstAll, fldAddr, fld, idxAddr, TYS, E.load, ldCells, E.store, stCells, splice, bin, ibin, sbin, una, isShift, argE_zero, argE_succ, okCell, packV, lenV, blt, callK, fnV, PMS, asArg, asArg.asArgs, allT, allZ, mkS, sliceK, fillS, giveTs, maxBytes, app, srcOf, srcOf0, unN, nilEq, ne_eq, List.isEmpty_nil, List.replicate_succ, List.replicate_zero, Nat.zero_mul, Nat.reduceGT, List.append_nil,  give, give.gives, giveT, tupV, retV, resV, blkSz, want_guard, dstAt, wantK_some, wantV_tt, wantV_tf, wantV_ft, wantV_ff, wantV_u, mkEnv, partsV, buildV, fillV, extV, pickV, Option.map, Option.bind, Option.getD, List.map_cons, List.map_nil, List.all_cons, List.all_nil, List.isEmpty_cons, List.length_nil, List.length_cons, List.nil_append, List.cons_append, List.append_nil, List.getElem?_cons_zero, List.getElem?_cons_succ, List.set_cons_zero, List.set_cons_succ, List.drop_zero, List.drop_succ_cons, List.take_succ_cons, List.take_zero, List.drop_nil, List.take_nil, List.toList_toArray, Bool.and_true, Bool.not_true, Bool.not_false, Bool.false_or, Bool.or_false, Bool.or_true, Bool.true_or, Bool.and_false, Bool.true_and, Bool.false_and, Bool.false_eq_true, ↓reduceIte, Nat.reduceAdd, Nat.reduceMul, Nat.reduceSub, Nat.reduceEqDiff, Nat.reduceLeDiff, Nat.reduceLT, Nat.reduceBEq, Int.reduceBEq, Int.reduceBNe, Int.reduceEq, Int.reduceLT, Int.reduceLE, Int.reduceGT, Int.reduceNeg, reduceCtorEq, and_true, true_and, and_self, Option.some.injEq, ite_true, ite_false, decide_true, decide_false, not_true_eq_false, not_false_eq_true, beq_self_eq_true, Nat.zero_add, Nat.add_zero, Nat.le_refl, Nat.not_lt_zero, Option.isNone_some, Option.isSome_some, Tr.encs_len, c, c0, hget, wrap_in, e1, hg, Int.toNat_natCast, hcall, hs]
    exact IH
theorem c_toTreeS (cs : List Tr) (hl : cs.length ≤ 1048576) (hc : ∀ c ∈ cs, ToT c) : callPure (EV Try.prog pol) 22 [.t (.list 5 (Tr.encs cs))] = some (.t (.list 5 (Tr.encs cs))) := by
  apply eq_call
  refine call_eq rfl Try.func22 rfl (by kernel_rfl) ?_
  unfold Try.f22
  have h1 : ¬ ((cs.length : Int) < 0) := by omega
  have h2 : ¬ (cs.length * 80 > 140737488355328) := by omega
  have h3 : ¬ (cs.length > 140737488355328) := by omega
  have hz : List.replicate cs.length [T.int .i64 0, .int .i64 0, .str [], .list 1 [], .list 5 []] = fillE (Tr.encs cs) zTr 0 := by rw [fillE_zero, Tr.encs_len]; rfl
  have IH := l_toTreeS cs hl hc cs.length 0 (by omega) (by omega)
  simp only [Int.natCast_zero] at IH
  have ht : (Tr.encs cs).take cs.length = Tr.encs cs := by rw [← Tr.encs_len cs]; simp
  simp (disch := omega) only [↓GO, ↓DRW, want_none, LVS, OVS, LTS, packH_eq, pK_1, pK_2, reach', nodups, brefs, rangeL, idx_eq, idx', ren, ren.rens, renB, prows, getB, blkRefs, getE_nat, List.flatMap_nil, List.flatMap_cons, List.mem_cons, List.not_mem_nil, or_false, false_or, or_true, true_or, nI, nH, nids, cntNew, isNew, nonW, foot, footX, refs, refs.refss, OPL, Option.toList, opv, opvs, opvO, upd_at, put_some, put_none, cellsV, boxK, allocK, cst, cstAt, cstAll, fldAddr, fld, idxAddr, TYS, E.load, ldCells, E.store, stCells, splice, bin, ibin, sbin, una, isShift, argE_zero, argE_succ, okCell, packV, lenV, blt, callK, fnV, PMS, asArg, asArg.asArgs, allT, allZ, mkS, sliceK, fillS, giveTs, maxBytes, app, srcOf, srcOf0, unN, nilEq, ne_eq, List.isEmpty_nil, List.replicate_succ, List.replicate_zero, Nat.zero_mul, Nat.reduceGT, List.append_nil,  give, give.gives, giveT, tupV, retV, resV, blkSz, want_guard, dstAt, wantK_some, wantV_tt, wantV_tf, wantV_ft, wantV_ff, wantV_u, mkEnv, partsV, buildV, fillV, extV, pickV, Option.map, Option.bind, Option.getD, List.map_cons, List.map_nil, List.all_cons, List.all_nil, List.isEmpty_cons, List.length_nil, List.length_cons, List.nil_append, List.cons_append, List.append_nil, List.getElem?_cons_zero, List.getElem?_cons_succ, List.set_cons_zero, List.set_cons_succ, List.drop_zero, List.drop_succ_cons, List.take_succ_cons, List.take_zero, List.drop_nil, List.take_nil, List.toList_toArray, Bool.and_true, Bool.not_true, Bool.not_false, Bool.false_or, Bool.or_false, Bool.or_true, Bool.true_or, Bool.and_false, Bool.true_and, Bool.false_and, Bool.false_eq_true, ↓reduceIte, Nat.reduceAdd, Nat.reduceMul, Nat.reduceSub, Nat.reduceEqDiff, Nat.reduceLeDiff, Nat.reduceLT, Nat.reduceBEq, Int.reduceBEq, Int.reduceBNe, Int.reduceEq, Int.reduceLT, Int.reduceLE, Int.reduceGT, Int.reduceNeg, reduceCtorEq, and_true, true_and, and_self, Option.some.injEq, ite_true, ite_false, decide_true, decide_false, not_true_eq_false, not_false_eq_true, beq_self_eq_true, Nat.zero_add, Nat.add_zero, Nat.le_refl, Nat.not_lt_zero, Option.isNone_some, Option.isSome_some, Tr.encs_len, Int.toNat_natCast, h1, h2, h3, hz, IH, ne_eq, not_true_eq_false, ht]
theorem c_toTree : ∀ (N : Nat) (t : Tr), t.nd ≤ N → t.bulk ≤ 1048576 → ToT t
  | 0, .mk k n' s ks cs, h, _ => by simp [Tr.nd] at h
  | N + 1, .mk k n' s ks cs, h, ho => by
    simp only [Tr.nd] at h
    simp only [Tr.bulk] at ho
    have hc : ∀ c ∈ cs, ToT c := fun c hc => c_toTree N c (by have := Tr.nds_mem hc; omega) (by have := Tr.bulks_mem hc; omega)
    simp only [ToT, Tr.enc, List.map_cons, List.map_nil]
    apply eq_call
    refine call_eq rfl Try.func15 rfl (by kernel_rfl) ?_
    unfold Try.f15
    simp only [↓GO, ↓DRW, want_none, LVS, OVS, LTS, packH_eq, pK_1, pK_2, reach', nodups, brefs, rangeL, idx_eq, idx', ren, ren.rens, renB, prows, getB, blkRefs, getE_nat, List.flatMap_nil, List.flatMap_cons, List.mem_cons, List.not_mem_nil, or_false, false_or, or_true, true_or, nI, nH, nids, cntNew, isNew, nonW, foot, footX, refs, refs.refss, OPL, Option.toList, opv, opvs, opvO, upd_at, put_some, put_none, cellsV, boxK, allocK, cst, cstAt, cstAll, fldAddr, fld, idxAddr, TYS, E.load, ldCells, E.store, stCells, splice, bin, ibin, sbin, una, isShift, argE_zero, argE_succ, okCell, packV, lenV, blt, callK, fnV, PMS, asArg, asArg.asArgs, allT, allZ, mkS, sliceK, fillS, giveTs, maxBytes, app, srcOf, srcOf0, unN, nilEq, ne_eq, List.isEmpty_nil, List.replicate_succ, List.replicate_zero, Nat.zero_mul, Nat.reduceGT, List.append_nil,  give, give.gives, giveT, tupV, retV, resV, blkSz, want_guard, dstAt, wantK_some, wantV_tt, wantV_tf, wantV_ft, wantV_ff, wantV_u, mkEnv, partsV, buildV, fillV, extV, pickV, Option.map, Option.bind, Option.getD, List.map_cons, List.map_nil, List.all_cons, List.all_nil, List.isEmpty_cons, List.length_nil, List.length_cons, List.nil_append, List.cons_append, List.append_nil, List.getElem?_cons_zero, List.getElem?_cons_succ, List.set_cons_zero, List.set_cons_succ, List.drop_zero, List.drop_succ_cons, List.take_succ_cons, List.take_zero, List.drop_nil, List.take_nil, List.toList_toArray, Bool.and_true, Bool.not_true, Bool.not_false, Bool.false_or, Bool.or_false, Bool.or_true, Bool.true_or, Bool.and_false, Bool.true_and, Bool.false_and, Bool.false_eq_true, ↓reduceIte, Nat.reduceAdd, Nat.reduceMul, Nat.reduceSub, Nat.reduceEqDiff, Nat.reduceLeDiff, Nat.reduceLT, Nat.reduceBEq, Int.reduceBEq, Int.reduceBNe, Int.reduceEq, Int.reduceLT, Int.reduceLE, Int.reduceGT, Int.reduceNeg, reduceCtorEq, and_true, true_and, and_self, Option.some.injEq, ite_true, ite_false, decide_true, decide_false, not_true_eq_false, not_false_eq_true, beq_self_eq_true, Nat.zero_add, Nat.add_zero, Nat.le_refl, Nat.not_lt_zero, Option.isNone_some, Option.isSome_some, c_toStringS ks (by omega), c_toTreeS cs (by omega) hc]
end Go.Proofs.Ytpfcdafpfgcjlaa

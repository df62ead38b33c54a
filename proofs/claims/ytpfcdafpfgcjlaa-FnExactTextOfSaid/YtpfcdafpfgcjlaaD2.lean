/- Trees: their shape, and their size as the program counts it. Conditions: none. -/
import Derived.Test.YtpfcdafpfgcjlaaD1
namespace Go.Proofs.Ytpfcdafpfgcjlaa
open E
set_option linter.unusedSimpArgs false
set_option linter.unusedVariables false
set_option maxRecDepth 100000

inductive Tr where
  | mk (k n : Int) (s : List UInt8) (ks : List (List UInt8)) (cs : List Tr)
mutual
def Tr.enc : Tr → List T
  | .mk k n s ks cs => [.int .i64 k, .int .i64 n, .str s, .list 1 (strs ks), .list 5 (Tr.encs cs)]
def Tr.encs : List Tr → List (List T)
  | [] => []
  | c :: cs => Tr.enc c :: Tr.encs cs
end
mutual
def Tr.bulk : Tr → Nat
  | .mk _ _ s ks cs => s.length + ks.length + bulkS ks + cs.length + Tr.bulks cs
def Tr.bulks : List Tr → Nat
  | [] => 0
  | c :: cs => Tr.bulk c + Tr.bulks cs
end
mutual
def Tr.nd : Tr → Nat
  | .mk _ _ _ _ cs => Tr.nds cs + 1
def Tr.nds : List Tr → Nat
  | [] => 0
  | c :: cs => Tr.nd c + Tr.nds cs
end
mutual
def Tr.ok : Tr → Prop
  | .mk _ _ s ks cs => s.length ≤ 9223372036854775807 ∧ ks.length ≤ 9223372036854775807 ∧ (∀ x ∈ ks, x.length ≤ 9223372036854775807) ∧ cs.length ≤ 9223372036854775807 ∧ Tr.oks cs
def Tr.oks : List Tr → Prop
  | [] => True
  | c :: cs => Tr.ok c ∧ Tr.oks cs
end
theorem Tr.encs_eq : ∀ cs : List Tr, Tr.encs cs = cs.map Tr.enc
  | [] => rfl
  | c :: cs => by simp [Tr.encs, Tr.encs_eq cs]
theorem Tr.encs_len (cs : List Tr) : (Tr.encs cs).length = cs.length := by simp [Tr.encs_eq]
theorem Tr.encs_get (cs : List Tr) (i : Nat) (h : i < cs.length) : (Tr.encs cs)[i]? = some cs[i].enc := by simp [Tr.encs_eq, h]
theorem Tr.bulks_drop (cs : List Tr) (i : Nat) (h : i < cs.length) : Tr.bulks (cs.drop i) = cs[i].bulk + Tr.bulks (cs.drop (i + 1)) := by
  rw [List.drop_eq_getElem_cons h]; rfl
theorem Tr.nds_mem : ∀ {cs : List Tr} {c : Tr}, c ∈ cs → c.nd ≤ Tr.nds cs
  | c' :: cs, c, h => by
    simp only [Tr.nds]
    rcases List.mem_cons.1 h with rfl | h
    · omega
    · have := Tr.nds_mem h; omega
theorem Tr.oks_mem : ∀ {cs : List Tr} {c : Tr}, Tr.oks cs → c ∈ cs → c.ok
  | c' :: cs, c, h, hm => by
    simp only [Tr.oks] at h
    rcases List.mem_cons.1 hm with rfl | hm
    · exact h.1
    · exact Tr.oks_mem h.2 hm

/-- what is left of a budget -/
def left (n : Int) (b : Nat) : Int := if n - (b : Int) < 0 then -1 else n - (b : Int)
/-- a tree's size is counted right -/
def SzT (t : Tr) : Prop := ∀ n : Int, 0 ≤ n → n ≤ 1048576 → callPure (EV Try.prog pol) 13 [.agg (t.enc.map .t), .t (.int .i64 n)] = some (.t (.int .i64 (left n t.bulk)))
theorem l_szTreeS (cs : List Tr) (hl : cs.length ≤ 9223372036854775807) (hc : ∀ c ∈ cs, SzT c) : ∀ (d i : Nat) (n : Int), cs.length - i = d → i ≤ cs.length → 0 ≤ n → n ≤ 1048576 →
    (0 ≤ n - (Tr.bulks (cs.drop i) : Int) → EV Try.prog pol (.loop 19 122 0 [.t (.list 5 (Tr.encs cs)), .t (.int .i64 n), .t (.int .i64 (i : Int))] []) = some (.loop (.exit 0) [.t (.int .i64 (n - (Tr.bulks (cs.drop i) : Int))), .bad] [])) ∧
    (n - (Tr.bulks (cs.drop i) : Int) < 0 → ∃ v, EV Try.prog pol (.loop 19 122 0 [.t (.list 5 (Tr.encs cs)), .t (.int .i64 n), .t (.int .i64 (i : Int))] []) = some (.loop .ret [v, .t (.int .i64 (-1))] []))
  | 0, i, n, hd, hi, h0, h1 => by
    have hi' : i = cs.length := by omega
    subst hi'
    have hb : Tr.bulks (cs.drop cs.length) = 0 := by simp [Tr.bulks]
    rw [hb]
    refine ⟨fun _ => ?_, fun h => by omega⟩
    refine loop_eq Try.func19 rfl rfl ?_
    have c : decide (((cs.length : Nat) : Int) < ((cs.length : Nat) : Int)) = false := by simp
    simp only [↓GO, ↓DRW, want_none, LVS, OVS, LTS, packH_eq, pK_1, pK_2, reach', nodups, brefs, rangeL, idx_eq, idx', ren, ren.rens, renB, prows, getB, blkRefs, getE_nat, List.flatMap_nil, List.flatMap_cons, List.mem_cons, List.not_mem_nil, or_false, false_or, or_true, true_or, nI, nH, nids, cntNew, isNew, nonW, foot, footX, refs, refs.refss, OPL, Option.toList, opv, opvs, opvO, upd_at, put_some, put_none, cellsV, boxK, allocK, cst, cstAt, cstAll, fldAddr, fld, idxAddr, TYS, E.load, ldCells, E.store, stCells, splice, bin, ibin, sbin, una, isShift, argE_zero, argE_succ, okCell, packV, lenV, blt, callK, fnV, PMS, asArg, asArg.asArgs, allT, allZ, mkS, sliceK, fillS, giveTs, maxBytes, app, srcOf, srcOf0, unN, nilEq, ne_eq, List.isEmpty_nil, List.replicate_succ, List.replicate_zero, Nat.zero_mul, Nat.reduceGT, List.append_nil,  give, give.gives, giveT, tupV, retV, resV, blkSz, want_guard, dstAt, wantK_some, wantV_tt, wantV_tf, wantV_ft, wantV_ff, wantV_u, mkEnv, partsV, buildV, fillV, extV, pickV, Option.map, Option.bind, Option.getD, List.map_cons, List.map_nil, List.all_cons, List.all_nil, List.isEmpty_cons, List.length_nil, List.length_cons, List.nil_append, List.cons_append, List.append_nil, List.getElem?_cons_zero, List.getElem?_cons_succ, List.set_cons_zero, List.set_cons_succ, List.drop_zero, List.drop_succ_cons, List.take_succ_cons, List.take_zero, List.drop_nil, List.take_nil, List.toList_toArray, Bool.and_true, Bool.not_true, Bool.not_false, Bool.false_or, Bool.or_false, Bool.or_true, Bool.true_or, Bool.and_false, Bool.true_and, Bool.false_and, Bool.false_eq_true, ↓reduceIte, Nat.reduceAdd, Nat.reduceMul, Nat.reduceSub, Nat.reduceEqDiff, Nat.reduceLeDiff, Nat.reduceLT, Nat.reduceBEq, Int.reduceBEq, Int.reduceBNe, Int.reduceEq, Int.reduceLT, Int.reduceLE, Int.reduceGT, Int.reduceNeg, reduceCtorEq, and_true, true_and, and_self, Option.some.injEq, ite_true, ite_false, decide_true, decide_false, not_true_eq_false, not_false_eq_true, beq_self_eq_true, Nat.zero_add, Nat.add_zero, Nat.le_refl, Nat.not_lt_zero, Option.isNone_some, Option.isSome_some, Tr.encs_len, c]
    simp
  | d + 1, i, n, hd, hi, h0, h1 => by
    have hlt : i < cs.length := by omega
    rw [Tr.bulks_drop cs i hlt]
    have c : decide ((i : Int) < ((cs.length : Nat) : Int)) = true := by simp; omega
    have hcall := hc _ (List.getElem_mem hlt) n h0 h1
    have hget := Tr.encs_get cs i hlt
    generalize hci : cs[i] = ci at hcall hget
    obtain ⟨k, n', s, ks, cs'⟩ := ci
    simp only [Tr.enc, List.map_cons, List.map_nil] at hcall hget
    generalize hbu : (Tr.mk k n' s ks cs').bulk = bu at hcall
    have IH := l_szTreeS cs hl hc d (i + 1) (n - (bu : Int)) (by omega) (by omega)
    have e1 : (i : Int) + 1 = ((i + 1 : Nat) : Int) := by omega
    by_cases hneg : n - (bu : Int) < 0
    · refine ⟨fun h => by omega, fun _ => ⟨.t (.int .i64 (-1)), ?_⟩⟩
      refine loop_eq Try.func19 rfl rfl ?_
      have hle : left n bu = -1 := if_pos hneg
      rw [hle] at hcall
      simp (disch := omega) only [↓GO, ↓DRW, want_none, LVS, OVS, LTS, packH_eq, pK_1, pK_2, reach', nodups, brefs, rangeL, idx_eq, idx', ren, ren.rens, renB, prows, getB, blkRefs, getE_nat, List.flatMap_nil, List.flatMap_cons, List.mem_cons, List.not_mem_nil, or_false, false_or, or_true, true_or, nI, nH, nids, cntNew, isNew, nonW, foot, footX, refs, refs.refss, OPL, Option.toList, opv, opvs, opvO, upd_at, put_some, put_none, cellsV, boxK, allocK, cst, cstAt, cstAll, fldAddr, fld, idxAddr, TYS, E.load, ldCells, E.store, stCells, splice, bin, ibin, sbin, una, isShift, argE_zero, argE_succ, okCell, packV, lenV, blt, callK, fnV, PMS, asArg, asArg.asArgs, allT, allZ, mkS, sliceK, fillS, giveTs, maxBytes, app, srcOf, srcOf0, unN, nilEq, ne_eq, List.isEmpty_nil, List.replicate_succ, List.replicate_zero, Nat.zero_mul, Nat.reduceGT, List.append_nil,  give, give.gives, giveT, tupV, retV, resV, blkSz, want_guard, dstAt, wantK_some, wantV_tt, wantV_tf, wantV_ft, wantV_ff, wantV_u, mkEnv, partsV, buildV, fillV, extV, pickV, Option.map, Option.bind, Option.getD, List.map_cons, List.map_nil, List.all_cons, List.all_nil, List.isEmpty_cons, List.length_nil, List.length_cons, List.nil_append, List.cons_append, List.append_nil, List.getElem?_cons_zero, List.getElem?_cons_succ, List.set_cons_zero, List.set_cons_succ, List.drop_zero, List.drop_succ_cons, List.take_succ_cons, List.take_zero, List.drop_nil, List.take_nil, List.toList_toArray, Bool.and_true, Bool.not_true, Bool.not_false, Bool.false_or, Bool.or_false, Bool.or_true, Bool.true_or, Bool.and_false, Bool.true_and, Bool.false_and, Bool.false_eq_true, ↓reduceIte, Nat.reduceAdd, Nat.reduceMul, Nat.reduceSub, Nat.reduceEqDiff, Nat.reduceLeDiff, Nat.reduceLT, Nat.reduceBEq, Int.reduceBEq, Int.reduceBNe, Int.reduceEq, Int.reduceLT, Int.reduceLE, Int.reduceGT, Int.reduceNeg, reduceCtorEq, and_true, true_and, and_self, Option.some.injEq, ite_true, ite_false, decide_true, decide_false, not_true_eq_false, not_false_eq_true, beq_self_eq_true, Nat.zero_add, Nat.add_zero, Nat.le_refl, Nat.not_lt_zero, Option.isNone_some, Option.isSome_some, Tr.encs_len, c, hget, wrap_in, hcall]
    · have hle : left n bu = n - (bu : Int) := if_neg hneg
      rw [hle] at hcall
      have c2 : decide (n - (bu : Int) < 0) = false := by simpa using hneg
      obtain ⟨I1, I2⟩ := IH (by omega) (by omega)
      refine ⟨fun h => ?_, fun h => ?_⟩
      · refine loop_eq Try.func19 rfl rfl ?_
        simp (disch := omega) only [↓GO, ↓DRW, want_none, LVS, OVS, LTS, packH_eq, pK_1, pK_2, reach', nodups, brefs, rangeL, idx_eq, idx', ren, ren.rens, renB, prows, getB, blkRefs, getE_nat, List.flatMap_nil, List.flatMap_cons, List.mem_cons, List.not_mem_nil, or_false, false_or, or_true, true_or, nI, nH, nids, cntNew, isNew, nonW, foot, footX, refs, refs.refss, OPL, Option.toList, opv, opvs, opvO, upd_at, put_some, put_none, cellsV, boxK, allocK, cst, cstAt, cstAll, fldAddr, fld, idxAddr, TYS, E.load, ldCells, E.store, stCells, splice, bin, ibin, sbin, una, isShift, argE_zero, argE_succ, okCell, packV, lenV, blt, callK, fnV, PMS, asArg, asArg.asArgs, allT, allZ, mkS, sliceK, fillS, giveTs, maxBytes, app, srcOf, srcOf0, unN, nilEq, ne_eq, List.isEmpty_nil, List.replicate_succ, List.replicate_zero, Nat.zero_mul, Nat.reduceGT, List.append_nil,  give, give.gives, giveT, tupV, retV, resV, blkSz, want_guard, dstAt, wantK_some, wantV_tt, wantV_tf, wantV_ft, wantV_ff, wantV_u, mkEnv, partsV, buildV, fillV, extV, pickV, Option.map, Option.bind, Option.getD, List.map_cons, List.map_nil, List.all_cons, List.all_nil, List.isEmpty_cons, List.length_nil, List.length_cons, List.nil_append, List.cons_append, List.append_nil, List.getElem?_cons_zero, List.getElem?_cons_succ, List.set_cons_zero, List.set_cons_succ, List.drop_zero, List.drop_succ_cons, List.take_succ_cons, List.take_zero, List.drop_nil, List.take_nil, List.toList_toArray, Bool.and_true, Bool.not_true, Bool.not_false, Bool.false_or, Bool.or_false, Bool.or_true, Bool.true_or, Bool.and_false, Bool.true_and, Bool.false_and, Bool.false_eq_true, ↓reduceIte, Nat.reduceAdd, Nat.reduceMul, Nat.reduceSub, Nat.reduceEqDiff, Nat.reduceLeDiff, Nat.reduceLT, Nat.reduceBEq, Int.reduceBEq, Int.reduceBNe, Int.reduceEq, Int.reduceLT, Int.reduceLE, Int.reduceGT, Int.reduceNeg, reduceCtorEq, and_true, true_and, and_self, Option.some.injEq, ite_true, ite_false, decide_true, decide_false, not_true_eq_false, not_false_eq_true, beq_self_eq_true, Nat.zero_add, Nat.add_zero, Nat.le_refl, Nat.not_lt_zero, Option.isNone_some, Option.isSome_some, Tr.encs_len, c, hget, wrap_in, hcall, c2, e1]
        rw [I1 (by omega), show n - (bu : Int) - (Tr.bulks (cs.drop (i + 1)) : Int) = n - ((bu + Tr.bulks (cs.drop (i + 1)) : Nat) : Int) by omega]
      · obtain ⟨v, hv⟩ := I2 (by omega)
        refine ⟨v, ?_⟩
        refine loop_eq Try.func19 rfl rfl ?_
        simp (disch := omega) only [↓GO, ↓DRW, want_none, LVS, OVS, LTS, packH_eq, pK_1, pK_2, reach', nodups, brefs, rangeL, idx_eq, idx', ren, ren.rens, renB, prows, getB, blkRefs, getE_nat, List.flatMap_nil, List.flatMap_cons, List.mem_cons, List.not_mem_nil, or_false, false_or, or_true, true_or, nI, nH, nids, cntNew, isNew, nonW, foot, footX, refs, refs.refss, OPL, Option.toList, opv, opvs, opvO, upd_at, put_some, put_none, cellsV, boxK, allocK, cst, cstAt, cstAll, fldAddr, fld, idxAddr, TYS, E.load, ldCells, E.store, stCells, splice, bin, ibin, sbin, una, isShift, argE_zero, argE_succ, okCell, packV, lenV, blt, callK, fnV, PMS, asArg, asArg.asArgs, allT, allZ, mkS, sliceK, fillS, giveTs, maxBytes, app, srcOf, srcOf0, unN, nilEq, ne_eq, List.isEmpty_nil, List.replicate_succ, List.replicate_zero, Nat.zero_mul, Nat.reduceGT, List.append_nil,  give, give.gives, giveT, tupV, retV, resV, blkSz, want_guard, dstAt, wantK_some, wantV_tt, wantV_tf, wantV_ft, wantV_ff, wantV_u, mkEnv, partsV, buildV, fillV, extV, pickV, Option.map, Option.bind, Option.getD, List.map_cons, List.map_nil, List.all_cons, List.all_nil, List.isEmpty_cons, List.length_nil, List.length_cons, List.nil_append, List.cons_append, List.append_nil, List.getElem?_cons_zero, List.getElem?_cons_succ, List.set_cons_zero, List.set_cons_succ, List.drop_zero, List.drop_succ_cons, List.take_succ_cons, List.take_zero, List.drop_nil, List.take_nil, List.toList_toArray, Bool.and_true, Bool.not_true, Bool.not_false, Bool.false_or, Bool.or_false, Bool.or_true, Bool.true_or, Bool.and_false, Bool.true_and, Bool.false_and, Bool.false_eq_true, ↓reduceIte, Nat.reduceAdd, Nat.reduceMul, Nat.reduceSub, Nat.reduceEqDiff, Nat.reduceLeDiff, Nat.reduceLT, Nat.reduceBEq, Int.reduceBEq, Int.reduceBNe, Int.reduceEq, Int.reduceLT, Int.reduceLE, Int.reduceGT, Int.reduceNeg, reduceCtorEq, and_true, true_and, and_self, Option.some.injEq, ite_true, ite_false, decide_true, decide_false, not_true_eq_false, not_false_eq_true, beq_self_eq_true, Nat.zero_add, Nat.add_zero, Nat.le_refl, Nat.not_lt_zero, Option.isNone_some, Option.isSome_some, Tr.encs_len, c, hget, wrap_in, hcall, c2, e1]
        exact hv
theorem c_szTreeS (cs : List Tr) (hl : cs.length ≤ 9223372036854775807) (hc : ∀ c ∈ cs, SzT c) (n : Int) (h0 : 0 ≤ n) (h1 : n ≤ 1048576) :
    callPure (EV Try.prog pol) 19 [.t (.list 5 (Tr.encs cs)), .t (.int .i64 n)] = some (.t (.int .i64 (left n (cs.length + Tr.bulks cs)))) := by
  apply eq_call
  refine call_eq rfl Try.func19 rfl (by kernel_rfl) ?_
  unfold Try.f19
  by_cases hneg : n - (cs.length : Int) < 0
  · have c2 : decide (n - (cs.length : Int) < 0) = true := by simpa using hneg
    simp (disch := omega) only [↓GO, ↓DRW, want_none, LVS, OVS, LTS, packH_eq, pK_1, pK_2, reach', nodups, brefs, rangeL, idx_eq, idx', ren, ren.rens, renB, prows, getB, blkRefs, getE_nat, List.flatMap_nil, List.flatMap_cons, List.mem_cons, List.not_mem_nil, or_false, false_or, or_true, true_or, nI, nH, nids, cntNew, isNew, nonW, foot, footX, refs, refs.refss, OPL, Option.toList, opv, opvs, opvO, upd_at, put_some, put_none, cellsV, boxK, allocK, cst, cstAt, cstAll, fldAddr, fld, idxAddr, TYS, E.load, ldCells, E.store, stCells, splice, bin, ibin, sbin, una, isShift, argE_zero, argE_succ, okCell, packV, lenV, blt, callK, fnV, PMS, asArg, asArg.asArgs, allT, allZ, mkS, sliceK, fillS, giveTs, maxBytes, app, srcOf, srcOf0, unN, nilEq, ne_eq, List.isEmpty_nil, List.replicate_succ, List.replicate_zero, Nat.zero_mul, Nat.reduceGT, List.append_nil,  give, give.gives, giveT, tupV, retV, resV, blkSz, want_guard, dstAt, wantK_some, wantV_tt, wantV_tf, wantV_ft, wantV_ff, wantV_u, mkEnv, partsV, buildV, fillV, extV, pickV, Option.map, Option.bind, Option.getD, List.map_cons, List.map_nil, List.all_cons, List.all_nil, List.isEmpty_cons, List.length_nil, List.length_cons, List.nil_append, List.cons_append, List.append_nil, List.getElem?_cons_zero, List.getElem?_cons_succ, List.set_cons_zero, List.set_cons_succ, List.drop_zero, List.drop_succ_cons, List.take_succ_cons, List.take_zero, List.drop_nil, List.take_nil, List.toList_toArray, Bool.and_true, Bool.not_true, Bool.not_false, Bool.false_or, Bool.or_false, Bool.or_true, Bool.true_or, Bool.and_false, Bool.true_and, Bool.false_and, Bool.false_eq_true, ↓reduceIte, Nat.reduceAdd, Nat.reduceMul, Nat.reduceSub, Nat.reduceEqDiff, Nat.reduceLeDiff, Nat.reduceLT, Nat.reduceBEq, Int.reduceBEq, Int.reduceBNe, Int.reduceEq, Int.reduceLT, Int.reduceLE, Int.reduceGT, Int.reduceNeg, reduceCtorEq, and_true, true_and, and_self, Option.some.injEq, ite_true, ite_false, decide_true, decide_false, not_true_eq_false, not_false_eq_true, beq_self_eq_true, Nat.zero_add, Nat.add_zero, Nat.le_refl, Nat.not_lt_zero, Option.isNone_some, Option.isSome_some, Tr.encs_len, wrap_in, c2]
    rw [left, if_pos (by omega)]
  · have c2 : decide (n - (cs.length : Int) < 0) = false := by simpa using hneg
    obtain ⟨I1, I2⟩ := l_szTreeS cs hl hc cs.length 0 (n - (cs.length : Int)) (by omega) (by omega) (by omega) (by omega)
    simp only [List.drop_zero, Int.natCast_zero] at I1 I2
    by_cases hn2 : n - (cs.length : Int) - (Tr.bulks cs : Int) < 0
    · obtain ⟨v, hv⟩ := I2 hn2
      simp (disch := omega) only [↓GO, ↓DRW, want_none, LVS, OVS, LTS, packH_eq, pK_1, pK_2, reach', nodups, brefs, rangeL, idx_eq, idx', ren, ren.rens, renB, prows, getB, blkRefs, getE_nat, List.flatMap_nil, List.flatMap_cons, List.mem_cons, List.not_mem_nil, or_false, false_or, or_true, true_or, nI, nH, nids, cntNew, isNew, nonW, foot, footX, refs, refs.refss, OPL, Option.toList, opv, opvs, opvO, upd_at, put_some, put_none, cellsV, boxK, allocK, cst, cstAt, cstAll, fldAddr, fld, idxAddr, TYS, E.load, ldCells, E.store, stCells, splice, bin, ibin, sbin, una, isShift, argE_zero, argE_succ, okCell, packV, lenV, blt, callK, fnV, PMS, asArg, asArg.asArgs, allT, allZ, mkS, sliceK, fillS, giveTs, maxBytes, app, srcOf, srcOf0, unN, nilEq, ne_eq, List.isEmpty_nil, List.replicate_succ, List.replicate_zero, Nat.zero_mul, Nat.reduceGT, List.append_nil,  give, give.gives, giveT, tupV, retV, resV, blkSz, want_guard, dstAt, wantK_some, wantV_tt, wantV_tf, wantV_ft, wantV_ff, wantV_u, mkEnv, partsV, buildV, fillV, extV, pickV, Option.map, Option.bind, Option.getD, List.map_cons, List.map_nil, List.all_cons, List.all_nil, List.isEmpty_cons, List.length_nil, List.length_cons, List.nil_append, List.cons_append, List.append_nil, List.getElem?_cons_zero, List.getElem?_cons_succ, List.set_cons_zero, List.set_cons_succ, List.drop_zero, List.drop_succ_cons, List.take_succ_cons, List.take_zero, List.drop_nil, List.take_nil, List.toList_toArray, Bool.and_true, Bool.not_true, Bool.not_false, Bool.false_or, Bool.or_false, Bool.or_true, Bool.true_or, Bool.and_false, Bool.true_and, Bool.false_and, Bool.false_eq_true, ↓reduceIte, Nat.reduceAdd, Nat.reduceMul, Nat.reduceSub, Nat.reduceEqDiff, Nat.reduceLeDiff, Nat.reduceLT, Nat.reduceBEq, Int.reduceBEq, Int.reduceBNe, Int.reduceEq, Int.reduceLT, Int.reduceLE, Int.reduceGT, Int.reduceNeg, reduceCtorEq, and_true, true_and, and_self, Option.some.injEq, ite_true, ite_false, decide_true, decide_false, not_true_eq_false, not_false_eq_true, beq_self_eq_true, Nat.zero_add, Nat.add_zero, Nat.le_refl, Nat.not_lt_zero, Option.isNone_some, Option.isSome_some, Tr.encs_len, wrap_in, c2, hv]
      rw [left, if_pos (by omega)]
    · simp (disch := omega) only [↓GO, ↓DRW, want_none, LVS, OVS, LTS, packH_eq, pK_1, pK_2, reach', nodups, brefs, rangeL, idx_eq, idx', ren, ren.rens, renB, prows, getB, blkRefs, getE_nat, List.flatMap_nil, List.flatMap_cons, List.mem_cons, List.not_mem_nil, or_false, false_or, or_true, true_or, nI, nH, nids, cntNew, isNew, nonW, foot, footX, refs, refs.refss, OPL, Option.toList, opv, opvs, opvO, upd_at, put_some, put_none, cellsV, boxK, allocK, cst, cstAt, cstAll, fldAddr, fld, idxAddr, TYS, E.load, ldCells, E.store, stCells, splice, bin, ibin, sbin, una, isShift, argE_zero, argE_succ, okCell, packV, lenV, blt, callK, fnV, PMS, asArg, asArg.asArgs, allT, allZ, mkS, sliceK, fillS, giveTs, maxBytes, app, srcOf, srcOf0, unN, nilEq, ne_eq, List.isEmpty_nil, List.replicate_succ, List.replicate_zero, Nat.zero_mul, Nat.reduceGT, List.append_nil,  give, give.gives, giveT, tupV, retV, resV, blkSz, want_guard, dstAt, wantK_some, wantV_tt, wantV_tf, wantV_ft, wantV_ff, wantV_u, mkEnv, partsV, buildV, fillV, extV, pickV, Option.map, Option.bind, Option.getD, List.map_cons, List.map_nil, List.all_cons, List.all_nil, List.isEmpty_cons, List.length_nil, List.length_cons, List.nil_append, List.cons_append, List.append_nil, List.getElem?_cons_zero, List.getElem?_cons_succ, List.set_cons_zero, List.set_cons_succ, List.drop_zero, List.drop_succ_cons, List.take_succ_cons, List.take_zero, List.drop_nil, List.take_nil, List.toList_toArray, Bool.and_true, Bool.not_true, Bool.not_false, Bool.false_or, Bool.or_false, Bool.or_true, Bool.true_or, Bool.and_false, Bool.true_and, Bool.false_and, Bool.false_eq_true, ↓reduceIte, Nat.reduceAdd, Nat.reduceMul, Nat.reduceSub, Nat.reduceEqDiff, Nat.reduceLeDiff, Nat.reduceLT, Nat.reduceBEq, Int.reduceBEq, Int.reduceBNe, Int.reduceEq, Int.reduceLT, Int.reduceLE, Int.reduceGT, Int.reduceNeg, reduceCtorEq, and_true, true_and, and_self, Option.some.injEq, ite_true, ite_false, decide_true, decide_false, not_true_eq_false, not_false_eq_true, beq_self_eq_true, Nat.zero_add, Nat.add_zero, Nat.le_refl, Nat.not_lt_zero, Option.isNone_some, Option.isSome_some, Tr.encs_len, wrap_in, c2, I1 (by omega)]
      rw [left, if_neg (by omega), show n - (cs.length : Int) - (Tr.bulks cs : Int) = n - ((cs.length + Tr.bulks cs : Nat) : Int) by omega]
theorem c_szTree : ∀ (N : Nat) (t : Tr), t.nd ≤ N → t.ok → SzT t
  | 0, .mk k n' s ks cs, h, _ => by simp [Tr.nd] at h
  | N + 1, .mk k n' s ks cs, h, ho => by
    simp only [Tr.nd] at h
    simp only [Tr.ok] at ho
    obtain ⟨o1, o2, o3, o4, o5⟩ := ho
    have hc : ∀ c ∈ cs, SzT c := fun c hc => c_szTree N c (by have := Tr.nds_mem hc; omega) (Tr.oks_mem o5 hc)
    intro n h0 h1
    simp only [Tr.enc, List.map_cons, List.map_nil]
    apply eq_call
    refine call_eq rfl Try.func13 rfl (by kernel_rfl) ?_
    unfold Try.f13
    by_cases n1 : n - (s.length : Int) < 0
    · have c1 : decide (n - (s.length : Int) < 0) = true := by simpa using n1
      simp (disch := omega) only [↓GO, ↓DRW, want_none, LVS, OVS, LTS, packH_eq, pK_1, pK_2, reach', nodups, brefs, rangeL, idx_eq, idx', ren, ren.rens, renB, prows, getB, blkRefs, getE_nat, List.flatMap_nil, List.flatMap_cons, List.mem_cons, List.not_mem_nil, or_false, false_or, or_true, true_or, nI, nH, nids, cntNew, isNew, nonW, foot, footX, refs, refs.refss, OPL, Option.toList, opv, opvs, opvO, upd_at, put_some, put_none, cellsV, boxK, allocK, cst, cstAt, cstAll, fldAddr, fld, idxAddr, TYS, E.load, ldCells, E.store, stCells, splice, bin, ibin, sbin, una, isShift, argE_zero, argE_succ, okCell, packV, lenV, blt, callK, fnV, PMS, asArg, asArg.asArgs, allT, allZ, mkS, sliceK, fillS, giveTs, maxBytes, app, srcOf, srcOf0, unN, nilEq, ne_eq, List.isEmpty_nil, List.replicate_succ, List.replicate_zero, Nat.zero_mul, Nat.reduceGT, List.append_nil,  give, give.gives, giveT, tupV, retV, resV, blkSz, want_guard, dstAt, wantK_some, wantV_tt, wantV_tf, wantV_ft, wantV_ff, wantV_u, mkEnv, partsV, buildV, fillV, extV, pickV, Option.map, Option.bind, Option.getD, List.map_cons, List.map_nil, List.all_cons, List.all_nil, List.isEmpty_cons, List.length_nil, List.length_cons, List.nil_append, List.cons_append, List.append_nil, List.getElem?_cons_zero, List.getElem?_cons_succ, List.set_cons_zero, List.set_cons_succ, List.drop_zero, List.drop_succ_cons, List.take_succ_cons, List.take_zero, List.drop_nil, List.take_nil, List.toList_toArray, Bool.and_true, Bool.not_true, Bool.not_false, Bool.false_or, Bool.or_false, Bool.or_true, Bool.true_or, Bool.and_false, Bool.true_and, Bool.false_and, Bool.false_eq_true, ↓reduceIte, Nat.reduceAdd, Nat.reduceMul, Nat.reduceSub, Nat.reduceEqDiff, Nat.reduceLeDiff, Nat.reduceLT, Nat.reduceBEq, Int.reduceBEq, Int.reduceBNe, Int.reduceEq, Int.reduceLT, Int.reduceLE, Int.reduceGT, Int.reduceNeg, reduceCtorEq, and_true, true_and, and_self, Option.some.injEq, ite_true, ite_false, decide_true, decide_false, not_true_eq_false, not_false_eq_true, beq_self_eq_true, Nat.zero_add, Nat.add_zero, Nat.le_refl, Nat.not_lt_zero, Option.isNone_some, Option.isSome_some, wrap_in, c1]
      rw [left, if_pos (by simp only [Tr.bulk]; omega)]
    · have c1 : decide (n - (s.length : Int) < 0) = false := by simpa using n1
      have h18 := c_szStringS ks o2 o3 (n - (s.length : Int)) (by omega) (by omega)
      by_cases n2 : n - (s.length : Int) - (ks.length : Int) - (bulkS ks : Int) < 0
      · rw [if_pos n2] at h18
        simp (disch := omega) only [↓GO, ↓DRW, want_none, LVS, OVS, LTS, packH_eq, pK_1, pK_2, reach', nodups, brefs, rangeL, idx_eq, idx', ren, ren.rens, renB, prows, getB, blkRefs, getE_nat, List.flatMap_nil, List.flatMap_cons, List.mem_cons, List.not_mem_nil, or_false, false_or, or_true, true_or, nI, nH, nids, cntNew, isNew, nonW, foot, footX, refs, refs.refss, OPL, Option.toList, opv, opvs, opvO, upd_at, put_some, put_none, cellsV, boxK, allocK, cst, cstAt, cstAll, fldAddr, fld, idxAddr, TYS, E.load, ldCells, E.store, stCells, splice, bin, ibin, sbin, una, isShift, argE_zero, argE_succ, okCell, packV, lenV, blt, callK, fnV, PMS, asArg, asArg.asArgs, allT, allZ, mkS, sliceK, fillS, giveTs, maxBytes, app, srcOf, srcOf0, unN, nilEq, ne_eq, List.isEmpty_nil, List.replicate_succ, List.replicate_zero, Nat.zero_mul, Nat.reduceGT, List.append_nil,  give, give.gives, giveT, tupV, retV, resV, blkSz, want_guard, dstAt, wantK_some, wantV_tt, wantV_tf, wantV_ft, wantV_ff, wantV_u, mkEnv, partsV, buildV, fillV, extV, pickV, Option.map, Option.bind, Option.getD, List.map_cons, List.map_nil, List.all_cons, List.all_nil, List.isEmpty_cons, List.length_nil, List.length_cons, List.nil_append, List.cons_append, List.append_nil, List.getElem?_cons_zero, List.getElem?_cons_succ, List.set_cons_zero, List.set_cons_succ, List.drop_zero, List.drop_succ_cons, List.take_succ_cons, List.take_zero, List.drop_nil, List.take_nil, List.toList_toArray, Bool.and_true, Bool.not_true, Bool.not_false, Bool.false_or, Bool.or_false, Bool.or_true, Bool.true_or, Bool.and_false, Bool.true_and, Bool.false_and, Bool.false_eq_true, ↓reduceIte, Nat.reduceAdd, Nat.reduceMul, Nat.reduceSub, Nat.reduceEqDiff, Nat.reduceLeDiff, Nat.reduceLT, Nat.reduceBEq, Int.reduceBEq, Int.reduceBNe, Int.reduceEq, Int.reduceLT, Int.reduceLE, Int.reduceGT, Int.reduceNeg, reduceCtorEq, and_true, true_and, and_self, Option.some.injEq, ite_true, ite_false, decide_true, decide_false, not_true_eq_false, not_false_eq_true, beq_self_eq_true, Nat.zero_add, Nat.add_zero, Nat.le_refl, Nat.not_lt_zero, Option.isNone_some, Option.isSome_some, wrap_in, c1, h18]
        rw [left, if_pos (by simp only [Tr.bulk]; omega)]
      · rw [if_neg n2] at h18
        have c2 : decide (n - (s.length : Int) - (ks.length : Int) - (bulkS ks : Int) < 0) = false := by simpa using n2
        have h19 := c_szTreeS cs o4 hc (n - (s.length : Int) - (ks.length : Int) - (bulkS ks : Int)) (by omega) (by omega)
        by_cases n3 : n - (s.length : Int) - (ks.length : Int) - (bulkS ks : Int) - ((cs.length + Tr.bulks cs : Nat) : Int) < 0
        · rw [left, if_pos n3] at h19
          simp (disch := omega) only [↓GO, ↓DRW, want_none, LVS, OVS, LTS, packH_eq, pK_1, pK_2, reach', nodups, brefs, rangeL, idx_eq, idx', ren, ren.rens, renB, prows, getB, blkRefs, getE_nat, List.flatMap_nil, List.flatMap_cons, List.mem_cons, List.not_mem_nil, or_false, false_or, or_true, true_or, nI, nH, nids, cntNew, isNew, nonW, foot, footX, refs, refs.refss, OPL, Option.toList, opv, opvs, opvO, upd_at, put_some, put_none, cellsV, boxK, allocK, cst, cstAt, cstAll, fldAddr, fld, idxAddr, TYS, E.load, ldCells, E.store, stCells, splice, bin, ibin, sbin, una, isShift, argE_zero, argE_succ, okCell, packV, lenV, blt, callK, fnV, PMS, asArg, asArg.asArgs, allT, allZ, mkS, sliceK, fillS, giveTs, maxBytes, app, srcOf, srcOf0, unN, nilEq, ne_eq, List.isEmpty_nil, List.replicate_succ, List.replicate_zero, Nat.zero_mul, Nat.reduceGT, List.append_nil,  give, give.gives, giveT, tupV, retV, resV, blkSz, want_guard, dstAt, wantK_some, wantV_tt, wantV_tf, wantV_ft, wantV_ff, wantV_u, mkEnv, partsV, buildV, fillV, extV, pickV, Option.map, Option.bind, Option.getD, List.map_cons, List.map_nil, List.all_cons, List.all_nil, List.isEmpty_cons, List.length_nil, List.length_cons, List.nil_append, List.cons_append, List.append_nil, List.getElem?_cons_zero, List.getElem?_cons_succ, List.set_cons_zero, List.set_cons_succ, List.drop_zero, List.drop_succ_cons, List.take_succ_cons, List.take_zero, List.drop_nil, List.take_nil, List.toList_toArray, Bool.and_true, Bool.not_true, Bool.not_false, Bool.false_or, Bool.or_false, Bool.or_true, Bool.true_or, Bool.and_false, Bool.true_and, Bool.false_and, Bool.false_eq_true, ↓reduceIte, Nat.reduceAdd, Nat.reduceMul, Nat.reduceSub, Nat.reduceEqDiff, Nat.reduceLeDiff, Nat.reduceLT, Nat.reduceBEq, Int.reduceBEq, Int.reduceBNe, Int.reduceEq, Int.reduceLT, Int.reduceLE, Int.reduceGT, Int.reduceNeg, reduceCtorEq, and_true, true_and, and_self, Option.some.injEq, ite_true, ite_false, decide_true, decide_false, not_true_eq_false, not_false_eq_true, beq_self_eq_true, Nat.zero_add, Nat.add_zero, Nat.le_refl, Nat.not_lt_zero, Option.isNone_some, Option.isSome_some, wrap_in, c1, c2, h18, h19]
          rw [left, if_pos (by simp only [Tr.bulk]; omega)]
        · rw [left, if_neg n3] at h19
          have c3 : decide (n - (s.length : Int) - (ks.length : Int) - (bulkS ks : Int) - ((cs.length + Tr.bulks cs : Nat) : Int) < 0) = false := by simpa using n3
          simp (disch := omega) only [↓GO, ↓DRW, want_none, LVS, OVS, LTS, packH_eq, pK_1, pK_2, reach', nodups, brefs, rangeL, idx_eq, idx', ren, ren.rens, renB, prows, getB, blkRefs, getE_nat, List.flatMap_nil, List.flatMap_cons, List.mem_cons, List.not_mem_nil, or_false, false_or, or_true, true_or, nI, nH, nids, cntNew, isNew, nonW, foot, footX, refs, refs.refss, OPL, Option.toList, opv, opvs, opvO, upd_at, put_some, put_none, cellsV, boxK, allocK, cst, cstAt, cstAll, fldAddr, fld, idxAddr, TYS, E.load, ldCells, E.store, stCells, splice, bin, ibin, sbin, una, isShift, argE_zero, argE_succ, okCell, packV, lenV, blt, callK, fnV, PMS, asArg, asArg.asArgs, allT, allZ, mkS, sliceK, fillS, giveTs, maxBytes, app, srcOf, srcOf0, unN, nilEq, ne_eq, List.isEmpty_nil, List.replicate_succ, List.replicate_zero, Nat.zero_mul, Nat.reduceGT, List.append_nil,  give, give.gives, giveT, tupV, retV, resV, blkSz, want_guard, dstAt, wantK_some, wantV_tt, wantV_tf, wantV_ft, wantV_ff, wantV_u, mkEnv, partsV, buildV, fillV, extV, pickV, Option.map, Option.bind, Option.getD, List.map_cons, List.map_nil, List.all_cons, List.all_nil, List.isEmpty_cons, List.length_nil, List.length_cons, List.nil_append, List.cons_append, List.append_nil, List.getElem?_cons_zero, List.getElem?_cons_succ, List.set_cons_zero, List.set_cons_succ, List.drop_zero, List.drop_succ_cons, List.take_succ_cons, List.take_zero, List.drop_nil, List.take_nil, List.toList_toArray, Bool.and_true, Bool.not_true, Bool.not_false, Bool.false_or, Bool.or_false, Bool.or_true, Bool.true_or, Bool.and_false, Bool.true_and, Bool.false_and, Bool.false_eq_true, ↓reduceIte, Nat.reduceAdd, Nat.reduceMul, Nat.reduceSub, Nat.reduceEqDiff, Nat.reduceLeDiff, Nat.reduceLT, Nat.reduceBEq, Int.reduceBEq, Int.reduceBNe, Int.reduceEq, Int.reduceLT, Int.reduceLE, Int.reduceGT, Int.reduceNeg, reduceCtorEq, and_true, true_and, and_self, Option.some.injEq, ite_true, ite_false, decide_true, decide_false, not_true_eq_false, not_false_eq_true, beq_self_eq_true, Nat.zero_add, Nat.add_zero, Nat.le_refl, Nat.not_lt_zero, Option.isNone_some, Option.isSome_some, wrap_in, c1, c2, c3, h18, h19]
          rw [left, if_neg (by simp only [Tr.bulk]; omega)]
          simp only [Tr.bulk]
          rw [show n - (s.length : Int) - (ks.length : Int) - (bulkS ks : Int) - ((cs.length + Tr.bulks cs : Nat) : Int) = n - ((s.length + ks.length + bulkS ks + cs.length + Tr.bulks cs : Nat) : Int) by omega]
end Go.Proofs.Ytpfcdafpfgcjlaa

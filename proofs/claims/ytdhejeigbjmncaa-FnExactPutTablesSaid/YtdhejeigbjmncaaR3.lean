/- FnExactPutTables holds: PutTables answers as the reference does, for all arguments that the statement speaks of. Conditions: none. -/
import Derived.Test.YtdhejeigbjmncaaP6
import Derived.Test.YtdhejeigbjmncaaW3
namespace Go.Proofs.Ytdhejeigbjmncaa
open Go.ChangeShapes Go.WideShapes Go.ChangeAt Go.RowKit E
set_option maxRecDepth 100000
set_option linter.unusedVariables false
set_option linter.unusedSimpArgs false
theorem c_lawTables (ts : List LTable) (hl : ts.length ≤ 9223372036854775807) (ho : ∀ t ∈ ts, t.ok) : EV Try.prog pol (.call 3 [.t (.list 2 (LTable.encs ts))] []) = some (.call (.t (.bool true)) []) := by
  have hsz := c_szTableS ts hl (fun c hc => c_szTable c (ho c hc)) 1048576 (by omega) (by omega)
  refine call_eq rfl Try.func3 rfl (by kernel_rfl) ?_
  unfold Try.f3
  by_cases hb : ts.length + LTable.bulks ts ≤ 1048576
  · have hto := c_toTableS ts (by omega) (fun c hc => c_toTable c (by have := LTable.bulks_mem hc; omega))
    have heq := c_eqTableS ts (by omega) (fun c hc => c_eqTable c (by have := LTable.bulks_mem hc; omega))
    have h1 := c_ptI ts hb
    have h2 := c_ptR ts hb
    rw [left_eq (by omega)] at hsz
    have c2 : decide (1048576 - ((ts.length + LTable.bulks ts : Nat) : Int) < 0) = false := by simp; omega
    simp only [↓GO, ↓DRW, want_none, pmT, LVS, OVS, LTS, packH_eq, pK_1, pK_2, reach', nodups, brefs, rangeL, idx_eq, idx', ren, ren.rens, renB, prows, getB, blkRefs, getE_nat, List.flatMap_nil, List.flatMap_cons, List.mem_cons, List.not_mem_nil, or_false, false_or, or_true, true_or, nI, nH, nids, cntNew, isNew, nonW, foot, footX, refs, refs.refss, OPL, Option.toList, opv, opvs, opvO, upd_at, put_some, put_none, cellsV, boxK, allocK, cst, cstAt, cstAll, fldAddr, fld, idxAddr, TYS, E.load, ldCells, E.store, stCells, splice, bin, ibin, sbin, una, isShift, argE_zero, argE_succ, okCell, packV, lenV, blt, callK, fnV, PMS, asArg, asArg.asArgs, asArgs_t, refss_t, rens_t, allT_t, snapV, snapV.snapVs, snapS, snapP, snapC, snapCs, snapE, flatV, flatV.flatVs, flatT, openK, openIds, openBack, backN, liveB, layBack, retO, footD, isDeep, allT, allZ, mkS, sliceK, fillS, giveTs, maxBytes, app, srcOf, srcOf0, unN, idxV, cut_str2, cut_str1, cut_str0, cut_list2, cut_list1, cut_list0, cut_sl2, cut_sl1, cut_sl0, Int.toNat_natCast, toNat_succ, Int.reduceToNat, nilEq, ne_eq, List.isEmpty_nil, List.replicate_succ, List.replicate_zero, Nat.zero_mul, Nat.reduceGT, List.append_nil,  give, give.gives, giveT, tupV, retV, resV, blkSz, want_guard, dstAt, wantK_some, wantV_tt, wantV_tf, wantV_ft, wantV_ff, wantV_u, mkEnv, partsV, buildV, fillV, extV, pickV, Option.map, Option.bind, Option.getD, List.map_cons, List.map_nil, List.all_cons, List.all_nil, List.isEmpty_cons, List.length_nil, List.length_cons, List.nil_append, List.cons_append, List.append_nil, List.getElem?_cons_zero, List.getElem?_cons_succ, List.set_cons_zero, List.set_cons_succ, List.drop_zero, List.drop_succ_cons, List.take_succ_cons, List.take_zero, List.drop_nil, List.take_nil, List.toList_toArray, Bool.and_true, Bool.not_true, Bool.not_false, Bool.false_or, Bool.or_false, Bool.or_true, Bool.true_or, Bool.and_false, Bool.true_and, Bool.false_and, Bool.false_eq_true, ↓reduceIte, Nat.reduceAdd, Nat.reduceMul, Nat.reduceSub, Nat.reduceEqDiff, Nat.reduceLeDiff, Nat.reduceLT, Nat.reduceBEq, Int.reduceBEq, Int.reduceBNe, Int.reduceEq, Int.reduceLT, Int.reduceLE, Int.reduceGT, Int.reduceNeg, reduceCtorEq, and_true, true_and, and_self, Option.some.injEq, ite_true, ite_false, decide_true, decide_false, not_true_eq_false, not_false_eq_true, beq_self_eq_true, Nat.zero_add, Nat.add_zero, Nat.le_refl, Nat.not_lt_zero, Option.isNone_some, Option.isSome_some, cond_true, cond_false, hsz, c2, hto, heq, h1, h2, bne_self_eq_false]
  · have hle : left 1048576 (ts.length + LTable.bulks ts) = -1 := if_pos (by omega)
    rw [hle] at hsz
    simp only [↓GO, ↓DRW, want_none, pmT, LVS, OVS, LTS, packH_eq, pK_1, pK_2, reach', nodups, brefs, rangeL, idx_eq, idx', ren, ren.rens, renB, prows, getB, blkRefs, getE_nat, List.flatMap_nil, List.flatMap_cons, List.mem_cons, List.not_mem_nil, or_false, false_or, or_true, true_or, nI, nH, nids, cntNew, isNew, nonW, foot, footX, refs, refs.refss, OPL, Option.toList, opv, opvs, opvO, upd_at, put_some, put_none, cellsV, boxK, allocK, cst, cstAt, cstAll, fldAddr, fld, idxAddr, TYS, E.load, ldCells, E.store, stCells, splice, bin, ibin, sbin, una, isShift, argE_zero, argE_succ, okCell, packV, lenV, blt, callK, fnV, PMS, asArg, asArg.asArgs, asArgs_t, refss_t, rens_t, allT_t, snapV, snapV.snapVs, snapS, snapP, snapC, snapCs, snapE, flatV, flatV.flatVs, flatT, openK, openIds, openBack, backN, liveB, layBack, retO, footD, isDeep, allT, allZ, mkS, sliceK, fillS, giveTs, maxBytes, app, srcOf, srcOf0, unN, idxV, cut_str2, cut_str1, cut_str0, cut_list2, cut_list1, cut_list0, cut_sl2, cut_sl1, cut_sl0, Int.toNat_natCast, toNat_succ, Int.reduceToNat, nilEq, ne_eq, List.isEmpty_nil, List.replicate_succ, List.replicate_zero, Nat.zero_mul, Nat.reduceGT, List.append_nil,  give, give.gives, giveT, tupV, retV, resV, blkSz, want_guard, dstAt, wantK_some, wantV_tt, wantV_tf, wantV_ft, wantV_ff, wantV_u, mkEnv, partsV, buildV, fillV, extV, pickV, Option.map, Option.bind, Option.getD, List.map_cons, List.map_nil, List.all_cons, List.all_nil, List.isEmpty_cons, List.length_nil, List.length_cons, List.nil_append, List.cons_append, List.append_nil, List.getElem?_cons_zero, List.getElem?_cons_succ, List.set_cons_zero, List.set_cons_succ, List.drop_zero, List.drop_succ_cons, List.take_succ_cons, List.take_zero, List.drop_nil, List.take_nil, List.toList_toArray, Bool.and_true, Bool.not_true, Bool.not_false, Bool.false_or, Bool.or_false, Bool.or_true, Bool.true_or, Bool.and_false, Bool.true_and, Bool.false_and, Bool.false_eq_true, ↓reduceIte, Nat.reduceAdd, Nat.reduceMul, Nat.reduceSub, Nat.reduceEqDiff, Nat.reduceLeDiff, Nat.reduceLT, Nat.reduceBEq, Int.reduceBEq, Int.reduceBNe, Int.reduceEq, Int.reduceLT, Int.reduceLE, Int.reduceGT, Int.reduceNeg, reduceCtorEq, and_true, true_and, and_self, Option.some.injEq, ite_true, ite_false, decide_true, decide_false, not_true_eq_false, not_false_eq_true, beq_self_eq_true, Nat.zero_add, Nat.add_zero, Nat.le_refl, Nat.not_lt_zero, Option.isNone_some, Option.isSome_some, cond_true, cond_false, hsz]
theorem putTables_ev (xs : List V) (h : WTA Try.prog [22] xs) : EV Try.prog pol (.call 3 xs []) = some (.call (.t (.bool true)) []) := by
  obtain ⟨cs, v, vs, rfl, h1, h2, h3⟩ := h.inv_cons
  have := h3.inv_nil
  subst this
  obtain ⟨l, rfl, hl, ho⟩ := WT_TableS h1
  have e : aggOf Try.prog 22 = false := by kernel_rfl
  rw [e] at h2
  simp [packV] at h2
  subst h2
  exact c_lawTables l hl ho
theorem putTables_lifted (os : Os) (started : os.Started) (H : Type) (enc : TypeId × Value → H) :
    ReturnsInHanded {} Try.checked os 3 .any (Rows.fnExactPutTablesSpec.pre6 enc Try.prog Try.f3 Rows.fnExactPutTablesRow.domain false) (Rows.fnExactPutTablesSpec.post enc Try.prog Try.f3 false true false false) := by
  refine returnsInHanded_of_change (C := Try.checked) Try.own started (by kernel_rfl) Try.func3
    (ChangeSpec.witness6 (enc := enc) (C := Try.checked) false ⟨#[], #[.slice none 0 0], []⟩ 8 (by kernel_rfl) (by kernel_rfl) (by kernel_rfl) (by kernel_rfl)) ?_
  intro W base args ds gs before hval0 hW hcnd _
  have hval : ∀ (j : Nat) t v, Try.f3.params[j]? = some t → args[j]? = some v → Value.okWide Try.prog W .any base t v := hval0
  have hW' : DataW.Whole enc Try.prog Try.f3.params.toList Rows.fnExactPutTablesSpec.vars false W args.toList ds gs before := hW
  refine row_of (ext_ok W) pol_ok (l := [22, 32, 30, 63, 38, 9, 4]) (tb := 4) (by kernel_rfl) (by rw [Try.params3]; decide) rfl Try.kids (fun t e ht => Try.full t e ht) (by rw [Try.params3]; decide) hval hW' ?_ rfl Try.underlying4 (fun xs hx => ?_)
  · intro hg
    subst hg
    obtain ⟨p, q, hA, _⟩ := hW'
    rw [Try.params3] at hA
    obtain ⟨v0, d0, e0, rfl, _⟩ := trodAll_one hA
    exact ⟨rfl, rfl, rfl⟩
  · rw [Try.params3] at hx
    exact putTables_ev xs hx
theorem putTables_holds : Rows.FnExactPutTablesSaid :=
  OpenClaim.holds_of_wide 3 Try.f3 rfl rfl rfl rfl rfl rfl rfl ⟨rfl, rfl, rfl, rfl, rfl⟩ rfl rfl rfl rfl rfl (by kernel_rfl) Try.func3 (by kernel_rfl)
    (of_decide_eq_true (by kernel_rfl)) (by unfold Func.isWrapper; rw [if_neg (by decide +kernel)]; exact ⟨rfl, rfl⟩)
    (fun os started H enc _ => putTables_lifted os started H enc)
#print axioms putTables_holds
end Go.Proofs.Ytdhejeigbjmncaa

/- Joined: E19 LT. Conditions: those of each lemma. -/
import Derived.Test.YtcphjdfmjhijkaaXF
import Derived.KernelRfl
set_option linter.unusedVariables false
set_option linter.unusedSimpArgs false
namespace Go.Proofs.Ytcphjdfmjhijkaa.E
set_option linter.unusedVariables false
set_option maxRecDepth 100000
theorem GP0 : type_of% @reach'.eq_1 ∧ type_of% @reach'.eq_2 ∧ type_of% @nodups.eq_1 ∧ type_of% @nodups.eq_2 ∧ type_of% @brefs.eq_1 ∧ type_of% @brefs.eq_2 ∧ type_of% @rangeL.eq_1 ∧ type_of% @rangeL.eq_2 ∧ type_of% @idx'.eq_1 ∧ type_of% @idx'.eq_2 ∧ type_of% @ren.rens.eq_1 ∧ type_of% @ren.rens.eq_2 ∧ type_of% @prows.eq_1 ∧ type_of% @prows.eq_2 ∧ type_of% @getB.eq_1 ∧ type_of% @blkRefs.eq_1 ∧ type_of% @nI.eq_1 ∧ type_of% @nI.eq_2 ∧ type_of% @nH.eq_1 ∧ type_of% @nH.eq_2 ∧ type_of% @nids.eq_1 ∧ type_of% @nids.eq_2 ∧ type_of% @cntNew.eq_1 ∧ type_of% @cntNew.eq_2 ∧ type_of% @isNew.eq_1 ∧ type_of% @nonW.eq_1 ∧ type_of% @foot.eq_1 ∧ type_of% @foot.eq_2 ∧ type_of% @refs.refss.eq_1 ∧ type_of% @refs.refss.eq_2 ∧ type_of% @opv.eq_1 ∧ type_of% @opv.eq_2 ∧ type_of% @opv.eq_3 ∧ type_of% @opv.eq_4 ∧ type_of% @opvs.eq_1 ∧ type_of% @opvs.eq_2 ∧ type_of% @opvs.eq_3 ∧ type_of% @opvO.eq_1 ∧ type_of% @opvO.eq_2 ∧ type_of% @boxK.eq_1 ∧ type_of% @allocK.eq_1 ∧ type_of% @allocK.eq_2 ∧ type_of% @cstAll.eq_1 ∧ type_of% @cstAll.eq_2 ∧ type_of% @cstAll.eq_3 ∧ type_of% @fldAddr.eq_1 ∧ type_of% @fld.eq_1 ∧ type_of% @ldCells.eq_1 :=
  ⟨@reach'.eq_1, @reach'.eq_2, @nodups.eq_1, @nodups.eq_2, @brefs.eq_1, @brefs.eq_2, @rangeL.eq_1, @rangeL.eq_2, @idx'.eq_1, @idx'.eq_2, @ren.rens.eq_1, @ren.rens.eq_2, @prows.eq_1, @prows.eq_2, @getB.eq_1, @blkRefs.eq_1, @nI.eq_1, @nI.eq_2, @nH.eq_1, @nH.eq_2, @nids.eq_1, @nids.eq_2, @cntNew.eq_1, @cntNew.eq_2, @isNew.eq_1, @nonW.eq_1, @foot.eq_1, @foot.eq_2, @refs.refss.eq_1, @refs.refss.eq_2, @opv.eq_1, @opv.eq_2, @opv.eq_3, @opv.eq_4, @opvs.eq_1, @opvs.eq_2, @opvs.eq_3, @opvO.eq_1, @opvO.eq_2, @boxK.eq_1, @allocK.eq_1, @allocK.eq_2, @cstAll.eq_1, @cstAll.eq_2, @cstAll.eq_3, @fldAddr.eq_1, @fld.eq_1, @ldCells.eq_1⟩
theorem GP1 : type_of% @stCells.eq_1 ∧ type_of% @splice.eq_1 ∧ type_of% @callK.eq_1 ∧ type_of% @callK.eq_2 ∧ type_of% @callK.eq_3 ∧ type_of% @callK.eq_4 ∧ type_of% @callK.eq_5 ∧ type_of% @ghH.eq_1 ∧ type_of% @ghH.eq_2 ∧ type_of% @asArg.asArgs.eq_1 ∧ type_of% @asArg.asArgs.eq_2 ∧ type_of% @snapV.snapVs.eq_1 ∧ type_of% @snapV.snapVs.eq_2 ∧ type_of% @snapCs.eq_1 ∧ type_of% @snapCs.eq_2 ∧ type_of% @snapE.eq_1 ∧ type_of% @snapE.eq_2 ∧ type_of% @flatV.flatVs.eq_1 ∧ type_of% @flatV.flatVs.eq_2 ∧ type_of% @openIds_eq ∧ type_of% @openBack.eq_1 ∧ type_of% @backN.eq_1 ∧ type_of% @liveB.eq_1 ∧ type_of% @retO.eq_1 ∧ type_of% @retO.eq_2 ∧ type_of% @footD.eq_1 ∧ type_of% @isDeep.eq_1 ∧ type_of% @sliceK.eq_1 ∧ type_of% @fillS.eq_1 ∧ type_of% @fillS.eq_2 ∧ type_of% @giveTs.eq_1 ∧ type_of% @giveTs.eq_2 ∧ type_of% @maxBytes.eq_1 ∧ type_of% @app.eq_1 ∧ type_of% @srcOf.eq_1 ∧ type_of% @give.gives.eq_1 ∧ type_of% @give.gives.eq_2 ∧ type_of% @giveT.eq_1 ∧ type_of% @retV.eq_1 ∧ type_of% @retV.eq_2 ∧ type_of% @resV.eq_1 ∧ type_of% @resV.eq_2 ∧ type_of% @resV.eq_3 ∧ type_of% @blkSz.eq_1 ∧ type_of% @blkSz.eq_2 ∧ type_of% @blkSz.eq_3 ∧ type_of% @blkSz.eq_4 ∧ type_of% @dstAt.eq_1 ∧ type_of% @dstAt.eq_2 ∧ type_of% @dstAt.eq_3 ∧ type_of% @partsV.eq_1 :=
  ⟨@stCells.eq_1, @splice.eq_1, @callK.eq_1, @callK.eq_2, @callK.eq_3, @callK.eq_4, @callK.eq_5, @ghH.eq_1, @ghH.eq_2, @asArg.asArgs.eq_1, @asArg.asArgs.eq_2, @snapV.snapVs.eq_1, @snapV.snapVs.eq_2, @snapCs.eq_1, @snapCs.eq_2, @snapE.eq_1, @snapE.eq_2, @flatV.flatVs.eq_1, @flatV.flatVs.eq_2, @openIds_eq, @openBack.eq_1, @backN.eq_1, @liveB.eq_1, @retO.eq_1, @retO.eq_2, @footD.eq_1, @isDeep.eq_1, @sliceK.eq_1, @fillS.eq_1, @fillS.eq_2, @giveTs.eq_1, @giveTs.eq_2, @maxBytes.eq_1, @app.eq_1, @srcOf.eq_1, @give.gives.eq_1, @give.gives.eq_2, @giveT.eq_1, @retV.eq_1, @retV.eq_2, @resV.eq_1, @resV.eq_2, @resV.eq_3, @blkSz.eq_1, @blkSz.eq_2, @blkSz.eq_3, @blkSz.eq_4, @dstAt.eq_1, @dstAt.eq_2, @dstAt.eq_3, @partsV.eq_1⟩
theorem GP2 : type_of% @partsV.eq_2 ∧ type_of% @buildV.eq_1 ∧ type_of% @fillV.eq_1 ∧ type_of% @fillV.eq_2 ∧ type_of% @want_none ∧ type_of% @packH_eq ∧ type_of% @pK_1 ∧ type_of% @pK_2 ∧ type_of% @idx_eq ∧ type_of% @getE_nat ∧ type_of% @List.flatMap_nil.{0, 0} ∧ type_of% @List.flatMap_cons.{0, 0} ∧ type_of% @List.mem_cons.{0} ∧ type_of% @List.not_mem_nil.{0} ∧ type_of% @or_false ∧ type_of% @false_or ∧ type_of% @or_true ∧ type_of% @true_or ∧ type_of% @OPL ∧ type_of% @Option.toList_some.{0} ∧ type_of% @Option.toList_none.{0} ∧ type_of% @upd_at ∧ type_of% @put_some ∧ type_of% @put_none ∧ type_of% @argE_zero ∧ type_of% @argE_succ ∧ type_of% @asArgs_t ∧ type_of% @refss_t ∧ type_of% @rens_t ∧ type_of% @allT_t ∧ type_of% @cut_str2 ∧ type_of% @cut_str1 ∧ type_of% @cut_str0 ∧ type_of% @cut_list2 ∧ type_of% @cut_list1 ∧ type_of% @cut_list0 ∧ type_of% @cut_sl2 ∧ type_of% @cut_sl1 ∧ type_of% @cut_sl0 ∧ type_of% @Int.toNat_natCast ∧ type_of% @toNat_succ ∧ type_of% @ne_eq.{1} ∧ type_of% @List.isEmpty_nil.{0} ∧ type_of% @List.replicate_succ.{0} ∧ type_of% @List.replicate_zero.{0} ∧ type_of% @Nat.zero_mul ∧ type_of% @List.append_nil.{0} ∧ type_of% @want_guard :=
  ⟨@partsV.eq_2, @buildV.eq_1, @fillV.eq_1, @fillV.eq_2, @want_none, @packH_eq, @pK_1, @pK_2, @idx_eq, @getE_nat, @List.flatMap_nil.{0, 0}, @List.flatMap_cons.{0, 0}, @List.mem_cons.{0}, @List.not_mem_nil.{0}, @or_false, @false_or, @or_true, @true_or, @OPL, @Option.toList_some.{0}, @Option.toList_none.{0}, @upd_at, @put_some, @put_none, @argE_zero, @argE_succ, @asArgs_t, @refss_t, @rens_t, @allT_t, @cut_str2, @cut_str1, @cut_str0, @cut_list2, @cut_list1, @cut_list0, @cut_sl2, @cut_sl1, @cut_sl0, @Int.toNat_natCast, @toNat_succ, @ne_eq.{1}, @List.isEmpty_nil.{0}, @List.replicate_succ.{0}, @List.replicate_zero.{0}, @Nat.zero_mul, @List.append_nil.{0}, @want_guard⟩
theorem GP3 : type_of% @wantK_some ∧ type_of% @wantV_tt ∧ type_of% @wantV_tf ∧ type_of% @wantV_ft ∧ type_of% @wantV_ff ∧ type_of% @wantV_u ∧ type_of% @Option.map_some.{0, 0} ∧ type_of% @Option.map_none.{0, 0} ∧ type_of% @Option.bind_some.{0, 0} ∧ type_of% @Option.bind_none.{0, 0} ∧ type_of% @Option.getD_some.{0} ∧ type_of% @Option.getD_none.{0} ∧ type_of% @List.map_cons.{0, 0} ∧ type_of% @List.map_nil.{0, 0} ∧ type_of% @List.all_cons.{0} ∧ type_of% @List.all_nil.{0} ∧ type_of% @List.isEmpty_cons.{0} ∧ type_of% @List.length_nil.{0} ∧ type_of% @List.length_cons.{0} ∧ type_of% @List.nil_append.{0} ∧ type_of% @List.cons_append.{0} ∧ type_of% @List.getElem?_cons_zero.{0} ∧ type_of% @List.getElem?_cons_succ.{0} ∧ type_of% @List.set_cons_zero.{0} ∧ type_of% @List.set_cons_succ.{0} ∧ type_of% @List.drop_zero.{0} ∧ type_of% @List.drop_succ_cons.{0} ∧ type_of% @List.take_succ_cons.{0} ∧ type_of% @List.take_zero.{0} ∧ type_of% @List.drop_nil.{0} ∧ type_of% @List.take_nil.{0} ∧ type_of% @List.toList_toArray.{0} ∧ type_of% @Bool.and_true ∧ type_of% @Bool.not_true ∧ type_of% @Bool.not_false ∧ type_of% @Bool.false_or ∧ type_of% @Bool.or_false ∧ type_of% @Bool.or_true ∧ type_of% @Bool.true_or ∧ type_of% @Bool.and_false ∧ type_of% @Bool.true_and ∧ type_of% @Bool.false_and ∧ type_of% @Bool.false_eq_true ∧ type_of% @and_true ∧ type_of% @true_and ∧ type_of% @and_self ∧ type_of% @Option.some.injEq.{0} ∧ type_of% @ite_true.{1} :=
  ⟨@wantK_some, @wantV_tt, @wantV_tf, @wantV_ft, @wantV_ff, @wantV_u, @Option.map_some.{0, 0}, @Option.map_none.{0, 0}, @Option.bind_some.{0, 0}, @Option.bind_none.{0, 0}, @Option.getD_some.{0}, @Option.getD_none.{0}, @List.map_cons.{0, 0}, @List.map_nil.{0, 0}, @List.all_cons.{0}, @List.all_nil.{0}, @List.isEmpty_cons.{0}, @List.length_nil.{0}, @List.length_cons.{0}, @List.nil_append.{0}, @List.cons_append.{0}, @List.getElem?_cons_zero.{0}, @List.getElem?_cons_succ.{0}, @List.set_cons_zero.{0}, @List.set_cons_succ.{0}, @List.drop_zero.{0}, @List.drop_succ_cons.{0}, @List.take_succ_cons.{0}, @List.take_zero.{0}, @List.drop_nil.{0}, @List.take_nil.{0}, @List.toList_toArray.{0}, @Bool.and_true, @Bool.not_true, @Bool.not_false, @Bool.false_or, @Bool.or_false, @Bool.or_true, @Bool.true_or, @Bool.and_false, @Bool.true_and, @Bool.false_and, @Bool.false_eq_true, @and_true, @true_and, @and_self, @Option.some.injEq.{0}, @ite_true.{1}⟩
theorem GP4 : type_of% @ite_false.{1} ∧ type_of% @decide_true ∧ type_of% @decide_false ∧ type_of% @not_true_eq_false ∧ type_of% @not_false_eq_true ∧ type_of% @beq_self_eq_true.{0} ∧ type_of% @Nat.zero_add ∧ type_of% @Nat.add_zero ∧ type_of% @Nat.le_refl ∧ type_of% @Nat.not_lt_zero ∧ type_of% @Option.isNone_some.{0} ∧ type_of% @Option.isSome_some.{0} ∧ type_of% @cond_true.{1} ∧ type_of% @cond_false.{1} :=
  ⟨@ite_false.{1}, @decide_true, @decide_false, @not_true_eq_false, @not_false_eq_true, @beq_self_eq_true.{0}, @Nat.zero_add, @Nat.add_zero, @Nat.le_refl, @Nat.not_lt_zero, @Option.isNone_some.{0}, @Option.isSome_some.{0}, @cond_true.{1}, @cond_false.{1}⟩
theorem GA : type_of% @GP0 ∧ type_of% @GP1 ∧ type_of% @GP2 ∧ type_of% @GP3 ∧ type_of% @GP4 :=
  ⟨@GP0, @GP1, @GP2, @GP3, @GP4⟩
end Go.Proofs.Ytcphjdfmjhijkaa.E
/- Which slots the loops keep: tables written by a program of mine (live.py). Conditions: none. -/
namespace Go.Proofs.Ytcphjdfmjhijkaa
set_option maxRecDepth 100000
def look3 : List (Nat × Nat × List Nat) → Nat → Nat → List Nat
  | [], _, _ => []
  | (f', p', l) :: r, f, p => if f = f' ∧ p = p' then l else look3 r f p
def liveTab : List (Nat × Nat × List Nat) := [
  (7, 122, [0, 1, 5]),
  (8, 122, [0, 1, 5]),
  (9, 58, [0, 1, 4, 5, 6]),
  (10, 58, [0, 3, 4]),
  (11, 58, [0, 3, 4]),
  (14, 58, [0, 1, 5]),
  (15, 58, [0, 1, 5]),
  (16, 26, [0, 1, 5]),
  (17, 26, [0, 1, 5]),
  (27, 58, [1, 4, 5, 6]),
  (29, 58, [1, 4, 5, 11, 12]),
  (33, 58, [1, 2, 3, 4]),
  (34, 122, [1, 2, 3, 12, 13, 14]),
  (35, 60, [0, 3]),
  (36, 26, [0, 1, 5]),
  (37, 26, [0, 1, 5]),
  (38, 26, [1, 2, 5]),
  (39, 26, [0, 1, 7, 8]),
  (40, 122, [0, 1, 5]),
  (41, 58, [1, 2, 3, 4]),
  (42, 58, [0, 3, 4]),
  (43, 58, [2, 3, 11, 12, 13]),
  (44, 58, [0, 1, 5]),
  (45, 26, [0, 1, 5]),
  (46, 26, [0, 1, 5]),
  (53, 26, [0, 1, 5]),
  (54, 26, [0, 1, 5]),
  (55, 122, [0, 1, 5]),
  (56, 58, [0, 3, 4]),
  (57, 58, [0, 1, 5])]
def outsTab : List (Nat × Nat × List Nat) := [
  (7, 122, [1, 4]),
  (8, 122, [1, 4]),
  (9, 58, [4, 5]),
  (10, 58, [3]),
  (11, 58, [3]),
  (14, 58, [4]),
  (15, 58, [4]),
  (16, 26, [1]),
  (17, 26, [1]),
  (27, 58, [4, 5]),
  (29, 58, [4, 5]),
  (33, 58, [2, 3]),
  (34, 122, [1, 2, 3]),
  (35, 60, [3]),
  (36, 26, [1, 4]),
  (37, 26, [1, 4]),
  (38, 26, [4]),
  (39, 26, [4]),
  (40, 122, [1, 4]),
  (41, 58, [2, 3]),
  (42, 58, [3]),
  (43, 58, [2, 3]),
  (44, 58, [4]),
  (45, 26, [1]),
  (46, 26, [1, 4]),
  (53, 26, [1]),
  (54, 26, [1, 4]),
  (55, 122, [1, 4]),
  (56, 58, [3]),
  (57, 58, [4])]
def liveT (f p : Nat) : List Nat := look3 liveTab f p
def outsT (f p : Nat) : List Nat := look3 outsTab f p
theorem LT_7_122 : liveT 7 122 = [0, 1, 5] := by kernel_rfl
theorem OT_7_122 : outsT 7 122 = [1, 4] := by kernel_rfl
theorem LT_8_122 : liveT 8 122 = [0, 1, 5] := by kernel_rfl
theorem OT_8_122 : outsT 8 122 = [1, 4] := by kernel_rfl
theorem LT_9_58 : liveT 9 58 = [0, 1, 4, 5, 6] := by kernel_rfl
theorem OT_9_58 : outsT 9 58 = [4, 5] := by kernel_rfl
theorem LT_10_58 : liveT 10 58 = [0, 3, 4] := by kernel_rfl
theorem OT_10_58 : outsT 10 58 = [3] := by kernel_rfl
theorem LT_11_58 : liveT 11 58 = [0, 3, 4] := by kernel_rfl
theorem OT_11_58 : outsT 11 58 = [3] := by kernel_rfl
theorem LT_14_58 : liveT 14 58 = [0, 1, 5] := by kernel_rfl
theorem OT_14_58 : outsT 14 58 = [4] := by kernel_rfl
theorem LT_15_58 : liveT 15 58 = [0, 1, 5] := by kernel_rfl
theorem OT_15_58 : outsT 15 58 = [4] := by kernel_rfl
theorem LT_16_26 : liveT 16 26 = [0, 1, 5] := by kernel_rfl
theorem OT_16_26 : outsT 16 26 = [1] := by kernel_rfl
theorem LT_17_26 : liveT 17 26 = [0, 1, 5] := by kernel_rfl
theorem OT_17_26 : outsT 17 26 = [1] := by kernel_rfl
theorem LT_27_58 : liveT 27 58 = [1, 4, 5, 6] := by kernel_rfl
theorem OT_27_58 : outsT 27 58 = [4, 5] := by kernel_rfl
theorem LT_29_58 : liveT 29 58 = [1, 4, 5, 11, 12] := by kernel_rfl
theorem OT_29_58 : outsT 29 58 = [4, 5] := by kernel_rfl
theorem LT_33_58 : liveT 33 58 = [1, 2, 3, 4] := by kernel_rfl
theorem OT_33_58 : outsT 33 58 = [2, 3] := by kernel_rfl
theorem LT_34_122 : liveT 34 122 = [1, 2, 3, 12, 13, 14] := by kernel_rfl
theorem OT_34_122 : outsT 34 122 = [1, 2, 3] := by kernel_rfl
theorem LT_35_60 : liveT 35 60 = [0, 3] := by kernel_rfl
theorem OT_35_60 : outsT 35 60 = [3] := by kernel_rfl
theorem LT_36_26 : liveT 36 26 = [0, 1, 5] := by kernel_rfl
theorem OT_36_26 : outsT 36 26 = [1, 4] := by kernel_rfl
theorem LT_37_26 : liveT 37 26 = [0, 1, 5] := by kernel_rfl
theorem OT_37_26 : outsT 37 26 = [1, 4] := by kernel_rfl
theorem LT_38_26 : liveT 38 26 = [1, 2, 5] := by kernel_rfl
theorem OT_38_26 : outsT 38 26 = [4] := by kernel_rfl
theorem LT_39_26 : liveT 39 26 = [0, 1, 7, 8] := by kernel_rfl
theorem OT_39_26 : outsT 39 26 = [4] := by kernel_rfl
theorem LT_40_122 : liveT 40 122 = [0, 1, 5] := by kernel_rfl
theorem OT_40_122 : outsT 40 122 = [1, 4] := by kernel_rfl
theorem LT_41_58 : liveT 41 58 = [1, 2, 3, 4] := by kernel_rfl
theorem OT_41_58 : outsT 41 58 = [2, 3] := by kernel_rfl
theorem LT_42_58 : liveT 42 58 = [0, 3, 4] := by kernel_rfl
theorem OT_42_58 : outsT 42 58 = [3] := by kernel_rfl
theorem LT_43_58 : liveT 43 58 = [2, 3, 11, 12, 13] := by kernel_rfl
theorem OT_43_58 : outsT 43 58 = [2, 3] := by kernel_rfl
theorem LT_44_58 : liveT 44 58 = [0, 1, 5] := by kernel_rfl
theorem OT_44_58 : outsT 44 58 = [4] := by kernel_rfl
theorem LT_45_26 : liveT 45 26 = [0, 1, 5] := by kernel_rfl
theorem OT_45_26 : outsT 45 26 = [1] := by kernel_rfl
theorem LT_46_26 : liveT 46 26 = [0, 1, 5] := by kernel_rfl
theorem OT_46_26 : outsT 46 26 = [1, 4] := by kernel_rfl
theorem LT_53_26 : liveT 53 26 = [0, 1, 5] := by kernel_rfl
theorem OT_53_26 : outsT 53 26 = [1] := by kernel_rfl
theorem LT_54_26 : liveT 54 26 = [0, 1, 5] := by kernel_rfl
theorem OT_54_26 : outsT 54 26 = [1, 4] := by kernel_rfl
theorem LT_55_122 : liveT 55 122 = [0, 1, 5] := by kernel_rfl
theorem OT_55_122 : outsT 55 122 = [1, 4] := by kernel_rfl
theorem LT_56_58 : liveT 56 58 = [0, 3, 4] := by kernel_rfl
theorem OT_56_58 : outsT 56 58 = [3] := by kernel_rfl
theorem LT_57_58 : liveT 57 58 = [0, 1, 5] := by kernel_rfl
theorem OT_57_58 : outsT 57 58 = [4] := by kernel_rfl
theorem LTS : liveT 7 122 = [0, 1, 5] ∧ outsT 7 122 = [1, 4] ∧
  liveT 8 122 = [0, 1, 5] ∧ outsT 8 122 = [1, 4] ∧
  liveT 9 58 = [0, 1, 4, 5, 6] ∧ outsT 9 58 = [4, 5] ∧
  liveT 10 58 = [0, 3, 4] ∧ outsT 10 58 = [3] ∧
  liveT 11 58 = [0, 3, 4] ∧ outsT 11 58 = [3] ∧
  liveT 14 58 = [0, 1, 5] ∧ outsT 14 58 = [4] ∧
  liveT 15 58 = [0, 1, 5] ∧ outsT 15 58 = [4] ∧
  liveT 16 26 = [0, 1, 5] ∧ outsT 16 26 = [1] ∧
  liveT 17 26 = [0, 1, 5] ∧ outsT 17 26 = [1] ∧
  liveT 27 58 = [1, 4, 5, 6] ∧ outsT 27 58 = [4, 5] ∧
  liveT 29 58 = [1, 4, 5, 11, 12] ∧ outsT 29 58 = [4, 5] ∧
  liveT 33 58 = [1, 2, 3, 4] ∧ outsT 33 58 = [2, 3] ∧
  liveT 34 122 = [1, 2, 3, 12, 13, 14] ∧ outsT 34 122 = [1, 2, 3] ∧
  liveT 35 60 = [0, 3] ∧ outsT 35 60 = [3] ∧
  liveT 36 26 = [0, 1, 5] ∧ outsT 36 26 = [1, 4] ∧
  liveT 37 26 = [0, 1, 5] ∧ outsT 37 26 = [1, 4] ∧
  liveT 38 26 = [1, 2, 5] ∧ outsT 38 26 = [4] ∧
  liveT 39 26 = [0, 1, 7, 8] ∧ outsT 39 26 = [4] ∧
  liveT 40 122 = [0, 1, 5] ∧ outsT 40 122 = [1, 4] ∧
  liveT 41 58 = [1, 2, 3, 4] ∧ outsT 41 58 = [2, 3] ∧
  liveT 42 58 = [0, 3, 4] ∧ outsT 42 58 = [3] ∧
  liveT 43 58 = [2, 3, 11, 12, 13] ∧ outsT 43 58 = [2, 3] ∧
  liveT 44 58 = [0, 1, 5] ∧ outsT 44 58 = [4] ∧
  liveT 45 26 = [0, 1, 5] ∧ outsT 45 26 = [1] ∧
  liveT 46 26 = [0, 1, 5] ∧ outsT 46 26 = [1, 4] ∧
  liveT 53 26 = [0, 1, 5] ∧ outsT 53 26 = [1] ∧
  liveT 54 26 = [0, 1, 5] ∧ outsT 54 26 = [1, 4] ∧
  liveT 55 122 = [0, 1, 5] ∧ outsT 55 122 = [1, 4] ∧
  liveT 56 58 = [0, 3, 4] ∧ outsT 56 58 = [3] ∧
  liveT 57 58 = [0, 1, 5] ∧ outsT 57 58 = [4] :=
  ⟨LT_7_122, OT_7_122, LT_8_122, OT_8_122, LT_9_58, OT_9_58, LT_10_58, OT_10_58, LT_11_58, OT_11_58, LT_14_58, OT_14_58, LT_15_58, OT_15_58, LT_16_26, OT_16_26, LT_17_26, OT_17_26, LT_27_58, OT_27_58, LT_29_58, OT_29_58, LT_33_58, OT_33_58, LT_34_122, OT_34_122, LT_35_60, OT_35_60, LT_36_26, OT_36_26, LT_37_26, OT_37_26, LT_38_26, OT_38_26, LT_39_26, OT_39_26, LT_40_122, OT_40_122, LT_41_58, OT_41_58, LT_42_58, OT_42_58, LT_43_58, OT_43_58, LT_44_58, OT_44_58, LT_45_26, OT_45_26, LT_46_26, OT_46_26, LT_53_26, OT_53_26, LT_54_26, OT_54_26, LT_55_122, OT_55_122, LT_56_58, OT_56_58, LT_57_58, OT_57_58⟩
end Go.Proofs.Ytcphjdfmjhijkaa

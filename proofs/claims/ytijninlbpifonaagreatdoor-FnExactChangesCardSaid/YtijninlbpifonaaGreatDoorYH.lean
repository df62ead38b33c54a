/- Joined: E19 T1 T2 XL X1 X2 X3 X4 X6. Conditions: those of each lemma. -/
import Derived.Test.YtijninlbpifonaaGreatDoorYG
import Derived.Shelf.Strings.Builder1
import Derived.Shelf.Strings.Builder2
import Derived.Shelf.Strings.OnBuilder
import Derived.Shelf.Strings.Trim
import Derived.Shelf.Small.Utf8
import Derived.Shelf.Small.Bits
import Derived.Shelf.Small.Strs
import Derived.Shelf.Small.Wraps
import Derived.Shelf.Strings.BuilderF
import Derived.Shelf.Strings.BuilderK
import Derived.Shelf.Utf8.RuneCount
import Derived.Shelf.Strings.Builder2Cap
import Derived.Shelf.Strconv.Atoi
import Derived.Shelf.Strconv.Itoa0
import Derived.Shelf.Strconv.Itoa1
import Derived.Shelf.LaysM
import Derived.Shelf.Strconv.Itoa2
import Derived.Shelf.Strconv.Itoa3
import Derived.Shelf.Strconv.AtoiErrFast
import Derived.Shelf.Strconv.ParseIntEmpty
import Derived.Shelf.Strconv.AtoiFail
import Derived.Shelf.Strconv.Clone
import Derived.Shelf.Strconv.SyntaxError
import Derived.Shelf.LaysC
import Derived.Shelf.Strconv.ToError
import Derived.Shelf.Strconv.AtoiErr
import Derived.Shelf.Strconv.ErrVar
import Derived.Shelf.Strconv.Lower
import Derived.Shelf.Strconv.ParseUint10
import Derived.Shelf.Strconv.ParseUint10Empty
import Derived.Shelf.Strconv.ParseUint10Any
import Derived.Shelf.Strconv.ParseInt10
import Derived.Shelf.Strconv.AtoiLong
import Derived.Shelf.Strconv.AtoiInnerAll
import Derived.Shelf.Strconv.RangeError
import Derived.Shelf.Strconv.ToErrorRange
import Derived.Shelf.Strconv.AtoiAll
import Derived.Shelf.Strconv.ErrVarAll
import Derived.Shelf.Strconv.ParseUintEmpty
import Derived.Shelf.Strconv.ParseUint10b64
import Derived.Shelf.Strconv.ParseUint10b32
import Derived.Shelf.Strconv.ParseUint10b16
import Derived.Shelf.Strconv.ParseUint10b8
import Derived.Shelf.Strconv.ParseUint10At
import Derived.Shelf.Strconv.ParseInt10At64
import Derived.Shelf.Strconv.ParseInt10At32
import Derived.Shelf.Strconv.ParseInt10At16
import Derived.Shelf.Strconv.ParseInt10At8
import Derived.Shelf.Strconv.ParseInt10All
import Derived.Shelf.Strings.Search1
import Derived.Shelf.Strings.Search2
import Derived.Shelf.Strings.Search3
import Derived.Shelf.Strings.Cut
import Derived.Shelf.Strings.Count
import Derived.Shelf.Strings.Shaped
import Derived.Shelf.Sort.Plain
import Derived.Shelf.Strings.Prefix
import Derived.Shelf.Strings.Split
import Derived.Shelf.Strings.SplitShaped
import Derived.Shelf.Unicode.Decode
import Derived.Shelf.Strings.Runes
import Derived.Shelf.Strings.RuneCount
import Derived.Shelf.Strings.AsciiSet
import Derived.Shelf.Strings.Explode
import Derived.Shelf.Unicode.DecodeSlow
import Derived.Shelf.Unicode.DecodeAny
import Derived.Shelf.Strings.BuilderCap
import Derived.Shelf.Slices.Turned
import Derived.Shelf.Slices.Equal
import Derived.Ground.Names2Prog
import Derived.Shelf.Slices.Clone
import Derived.Shelf.Slices.CompactS
import Derived.Shelf.Slices.Cells
import Derived.Shelf.Slices.In.SortNone
import Derived.Shelf.Slices.Empties2
import Derived.Ground.SlgnProg
import Derived.Shelf.SlicesE.Clone
import Derived.Ground.SlsfProg
import Derived.Shelf.SlSortCmp.Insertion
import Derived.Shelf.SlSortCmp.SiftDown1
import Derived.Shelf.SlSortCmp.HeapSort1
import Derived.Shelf.SlSortCmp.Insertion1
import Derived.Shelf.SlSortCmp.Median1
import Derived.Shelf.SlSortCmp.Pivot1
import Derived.Shelf.SlSortCmp.ReverseRange1
import Derived.Shelf.SlSortCmp.PartialInsertion1
import Derived.Shelf.SlSortCmp.PartitionEqual1
import Derived.Shelf.SlSortCmp.Partition1
import Derived.Shelf.SlSortCmp.Pdq1
import Derived.Shelf.SlSortCmp.Whole1
import Derived.Shelf.SlSortCmp.NoneTotal
import Derived.Test.YtijninlbpifonaaGreatDoorProg
import Derived.Lib.SortBridge
set_option linter.unusedVariables false
set_option linter.unusedSimpArgs false
namespace Go.Proofs.YtijninlbpifonaaGreatDoor.E
set_option linter.unusedVariables false
set_option maxRecDepth 100000
theorem GP0 : type_of% @uo.eq_1 ∧ type_of% @uo.eq_2 ∧ type_of% @yo.eq_1 ∧ type_of% @yo.eq_2 ∧ type_of% @np.eq_1 ∧ type_of% @np.eq_2 ∧ type_of% @sG.eq_1 ∧ type_of% @sG.eq_2 ∧ type_of% @gI.eq_1 ∧ type_of% @gI.eq_2 ∧ type_of% @ren.rens.eq_1 ∧ type_of% @ren.rens.eq_2 ∧ type_of% @px.eq_1 ∧ type_of% @px.eq_2 ∧ type_of% @Ql.eq_1 ∧ type_of% @yW.eq_1 ∧ type_of% @nI.eq_1 ∧ type_of% @nI.eq_2 ∧ type_of% @nH.eq_1 ∧ type_of% @nH.eq_2 ∧ type_of% @wy.eq_1 ∧ type_of% @wy.eq_2 ∧ type_of% @xN.eq_1 ∧ type_of% @xN.eq_2 ∧ type_of% @yS.eq_1 ∧ type_of% @ym.eq_1 ∧ type_of% @yn.eq_1 ∧ type_of% @xy.eq_1 ∧ type_of% @xS.eq_1 ∧ type_of% @nL.eq_1 ∧ type_of% @nL.eq_2 ∧ type_of% @hdL.eq_1 ∧ type_of% @hdL.eq_2 ∧ type_of% @yn.eq_2 ∧ type_of% @refs.refss.eq_1 ∧ type_of% @refs.refss.eq_2 ∧ type_of% @opv.eq_1 ∧ type_of% @opv.eq_2 ∧ type_of% @opv.eq_3 ∧ type_of% @opv.eq_4 ∧ type_of% @yg.eq_1 ∧ type_of% @yg.eq_2 ∧ type_of% @yg.eq_3 ∧ type_of% @rR.eq_1 ∧ type_of% @rR.eq_2 ∧ type_of% @F4.eq_1 ∧ type_of% @oh.eq_1 ∧ type_of% @oh.eq_2 ∧ type_of% @x5.eq_1 ∧ type_of% @x5.eq_2 ∧ type_of% @x5.eq_3 ∧ type_of% @tA.eq_1 ∧ type_of% @fld.eq_1 ∧ type_of% @uc.eq_1 :=
 ⟨@uo.eq_1, @uo.eq_2, @yo.eq_1, @yo.eq_2, @np.eq_1, @np.eq_2, @sG.eq_1, @sG.eq_2, @gI.eq_1, @gI.eq_2, @ren.rens.eq_1, @ren.rens.eq_2, @px.eq_1, @px.eq_2, @Ql.eq_1, @yW.eq_1, @nI.eq_1, @nI.eq_2, @nH.eq_1, @nH.eq_2, @wy.eq_1, @wy.eq_2, @xN.eq_1, @xN.eq_2, @yS.eq_1, @ym.eq_1, @yn.eq_1, @xy.eq_1, @xS.eq_1, @nL.eq_1, @nL.eq_2, @hdL.eq_1, @hdL.eq_2, @yn.eq_2, @refs.refss.eq_1, @refs.refss.eq_2, @opv.eq_1, @opv.eq_2, @opv.eq_3, @opv.eq_4, @yg.eq_1, @yg.eq_2, @yg.eq_3, @rR.eq_1, @rR.eq_2, @F4.eq_1, @oh.eq_1, @oh.eq_2, @x5.eq_1, @x5.eq_2, @x5.eq_3, @tA.eq_1, @fld.eq_1, @uc.eq_1⟩
theorem GP1 : type_of% @tr.eq_1 ∧ type_of% @xL.eq_1 ∧ type_of% @uW.eq_1 ∧ type_of% @uW.eq_2 ∧ type_of% @uW.eq_3 ∧ type_of% @uW.eq_4 ∧ type_of% @uW.eq_5 ∧ type_of% @ghH.eq_1 ∧ type_of% @ghH.eq_2 ∧ type_of% @asArg.asArgs.eq_1 ∧ type_of% @asArg.asArgs.eq_2 ∧ type_of% @ye.snapVs.eq_1 ∧ type_of% @ye.snapVs.eq_2 ∧ type_of% @xu.eq_1 ∧ type_of% @xu.eq_2 ∧ type_of% @vV.eq_1 ∧ type_of% @vV.eq_2 ∧ type_of% @zb.flatVs.eq_1 ∧ type_of% @zb.flatVs.eq_2 ∧ type_of% @mh ∧ type_of% @yI.eq_1 ∧ type_of% @wx.eq_1 ∧ type_of% @x7.eq_1 ∧ type_of% @nZ.eq_1 ∧ type_of% @nZ.eq_2 ∧ type_of% @nk.eq_1 ∧ type_of% @od.eq_1 ∧ type_of% @gu.eq_1 ∧ type_of% @wb.eq_1 ∧ type_of% @wb.eq_2 ∧ type_of% @xw.eq_1 ∧ type_of% @xw.eq_2 ∧ type_of% @zZ.eq_1 ∧ type_of% @app.eq_1 ∧ type_of% @iD.eq_1 ∧ type_of% @yr.gives.eq_1 ∧ type_of% @yr.gives.eq_2 ∧ type_of% @rz.eq_1 ∧ type_of% @cu.eq_1 ∧ type_of% @cu.eq_2 ∧ type_of% @wV.eq_1 ∧ type_of% @wV.eq_2 ∧ type_of% @wV.eq_3 ∧ type_of% @vd.eq_1 ∧ type_of% @vd.eq_2 ∧ type_of% @vd.eq_3 ∧ type_of% @vd.eq_4 ∧ type_of% @rA.eq_1 ∧ type_of% @rA.eq_2 ∧ type_of% @rA.eq_3 ∧ type_of% @yZ.eq_1 :=
 ⟨@tr.eq_1, @xL.eq_1, @uW.eq_1, @uW.eq_2, @uW.eq_3, @uW.eq_4, @uW.eq_5, @ghH.eq_1, @ghH.eq_2, @asArg.asArgs.eq_1, @asArg.asArgs.eq_2, @ye.snapVs.eq_1, @ye.snapVs.eq_2, @xu.eq_1, @xu.eq_2, @vV.eq_1, @vV.eq_2, @zb.flatVs.eq_1, @zb.flatVs.eq_2, @mh, @yI.eq_1, @wx.eq_1, @x7.eq_1, @nZ.eq_1, @nZ.eq_2, @nk.eq_1, @od.eq_1, @gu.eq_1, @wb.eq_1, @wb.eq_2, @xw.eq_1, @xw.eq_2, @zZ.eq_1, @app.eq_1, @iD.eq_1, @yr.gives.eq_1, @yr.gives.eq_2, @rz.eq_1, @cu.eq_1, @cu.eq_2, @wV.eq_1, @wV.eq_2, @wV.eq_3, @vd.eq_1, @vd.eq_2, @vd.eq_3, @vd.eq_4, @rA.eq_1, @rA.eq_2, @rA.eq_3, @yZ.eq_1⟩
theorem GP2 : type_of% @yZ.eq_2 ∧ type_of% @gE.eq_1 ∧ type_of% @tT.eq_1 ∧ type_of% @tT.eq_2 ∧ type_of% @kA ∧ type_of% @ew ∧ type_of% @pK_1 ∧ type_of% @pK_2 ∧ type_of% @idx_eq ∧ type_of% @dx ∧ type_of% @List.flatMap_nil.{0, 0} ∧ type_of% @List.flatMap_cons.{0, 0} ∧ type_of% @List.mem_cons.{0} ∧ type_of% @List.not_mem_nil.{0} ∧ type_of% @or_false ∧ type_of% @false_or ∧ type_of% @or_true ∧ type_of% @true_or ∧ type_of% @OPL ∧ type_of% @Option.toList_some.{0} ∧ type_of% @Option.toList_none.{0} ∧ type_of% @TD ∧ type_of% @en ∧ type_of% @eo ∧ type_of% @jO ∧ type_of% @jP ∧ type_of% @lC ∧ type_of% @iS ∧ type_of% @au ∧ type_of% @aO ∧ type_of% @dM ∧ type_of% @dN ∧ type_of% @dO ∧ type_of% @jB ∧ type_of% @jC ∧ type_of% @jD ∧ type_of% @Yc ∧ type_of% @Yd ∧ type_of% @Ye ∧ type_of% @Int.toNat_natCast ∧ type_of% @nW ∧ type_of% @ne_eq.{1} ∧ type_of% @List.isEmpty_nil.{0} ∧ type_of% @List.replicate_succ.{0} ∧ type_of% @List.replicate_zero.{0} ∧ type_of% @Nat.zero_mul ∧ type_of% @List.append_nil.{0} ∧ type_of% @nR :=
 ⟨@yZ.eq_2, @gE.eq_1, @tT.eq_1, @tT.eq_2, @kA, @ew, @pK_1, @pK_2, @idx_eq, @dx, @List.flatMap_nil.{0, 0}, @List.flatMap_cons.{0, 0}, @List.mem_cons.{0}, @List.not_mem_nil.{0}, @or_false, @false_or, @or_true, @true_or, @OPL, @Option.toList_some.{0}, @Option.toList_none.{0}, @TD, @en, @eo, @jO, @jP, @lC, @iS, @au, @aO, @dM, @dN, @dO, @jB, @jC, @jD, @Yc, @Yd, @Ye, @Int.toNat_natCast, @nW, @ne_eq.{1}, @List.isEmpty_nil.{0}, @List.replicate_succ.{0}, @List.replicate_zero.{0}, @Nat.zero_mul, @List.append_nil.{0}, @nR⟩
theorem GP3 : type_of% @nT ∧ type_of% @fQ ∧ type_of% @fR ∧ type_of% @fS ∧ type_of% @fT ∧ type_of% @aT ∧ type_of% @Option.map_some.{0, 0} ∧ type_of% @Option.map_none.{0, 0} ∧ type_of% @Option.bind_some.{0, 0} ∧ type_of% @Option.bind_none.{0, 0} ∧ type_of% @Option.getD_some.{0} ∧ type_of% @Option.getD_none.{0} ∧ type_of% @List.map_cons.{0, 0} ∧ type_of% @List.map_nil.{0, 0} ∧ type_of% @List.all_cons.{0} ∧ type_of% @List.all_nil.{0} ∧ type_of% @List.isEmpty_cons.{0} ∧ type_of% @List.length_nil.{0} ∧ type_of% @List.length_cons.{0} ∧ type_of% @List.nil_append.{0} ∧ type_of% @List.cons_append.{0} ∧ type_of% @List.getElem?_cons_zero.{0} ∧ type_of% @List.getElem?_cons_succ.{0} ∧ type_of% @List.set_cons_zero.{0} ∧ type_of% @List.set_cons_succ.{0} ∧ type_of% @List.drop_zero.{0} ∧ type_of% @List.drop_succ_cons.{0} ∧ type_of% @List.take_succ_cons.{0} ∧ type_of% @List.take_zero.{0} ∧ type_of% @List.drop_nil.{0} ∧ type_of% @List.take_nil.{0} ∧ type_of% @List.toList_toArray.{0} ∧ type_of% @Bool.and_true ∧ type_of% @Bool.not_true ∧ type_of% @Bool.not_false ∧ type_of% @Bool.false_or ∧ type_of% @Bool.or_false ∧ type_of% @Bool.or_true ∧ type_of% @Bool.true_or ∧ type_of% @Bool.and_false ∧ type_of% @Bool.true_and ∧ type_of% @Bool.false_and ∧ type_of% @Bool.false_eq_true ∧ type_of% @and_true ∧ type_of% @true_and ∧ type_of% @and_self ∧ type_of% @Option.some.injEq.{0} ∧ type_of% @ite_true.{1} :=
 ⟨@nT, @fQ, @fR, @fS, @fT, @aT, @Option.map_some.{0, 0}, @Option.map_none.{0, 0}, @Option.bind_some.{0, 0}, @Option.bind_none.{0, 0}, @Option.getD_some.{0}, @Option.getD_none.{0}, @List.map_cons.{0, 0}, @List.map_nil.{0, 0}, @List.all_cons.{0}, @List.all_nil.{0}, @List.isEmpty_cons.{0}, @List.length_nil.{0}, @List.length_cons.{0}, @List.nil_append.{0}, @List.cons_append.{0}, @List.getElem?_cons_zero.{0}, @List.getElem?_cons_succ.{0}, @List.set_cons_zero.{0}, @List.set_cons_succ.{0}, @List.drop_zero.{0}, @List.drop_succ_cons.{0}, @List.take_succ_cons.{0}, @List.take_zero.{0}, @List.drop_nil.{0}, @List.take_nil.{0}, @List.toList_toArray.{0}, @Bool.and_true, @Bool.not_true, @Bool.not_false, @Bool.false_or, @Bool.or_false, @Bool.or_true, @Bool.true_or, @Bool.and_false, @Bool.true_and, @Bool.false_and, @Bool.false_eq_true, @and_true, @true_and, @and_self, @Option.some.injEq.{0}, @ite_true.{1}⟩
theorem GP4 : type_of% @ite_false.{1} ∧ type_of% @decide_true ∧ type_of% @decide_false ∧ type_of% @not_true_eq_false ∧ type_of% @not_false_eq_true ∧ type_of% @beq_self_eq_true.{0} ∧ type_of% @Nat.zero_add ∧ type_of% @Nat.add_zero ∧ type_of% @Nat.le_refl ∧ type_of% @Nat.not_lt_zero ∧ type_of% @Option.isNone_some.{0} ∧ type_of% @Option.isSome_some.{0} ∧ type_of% @cond_true.{1} ∧ type_of% @cond_false.{1} :=
 ⟨@ite_false.{1}, @decide_true, @decide_false, @not_true_eq_false, @not_false_eq_true, @beq_self_eq_true.{0}, @Nat.zero_add, @Nat.add_zero, @Nat.le_refl, @Nat.not_lt_zero, @Option.isNone_some.{0}, @Option.isSome_some.{0}, @cond_true.{1}, @cond_false.{1}⟩
theorem GA : type_of% @GP0 ∧ type_of% @GP1 ∧ type_of% @GP2 ∧ type_of% @GP3 ∧ type_of% @GP4 :=
 ⟨@GP0, @GP1, @GP2, @GP3, @GP4⟩
theorem GX0 : type_of% @xQ.eq_1 ∧ type_of% @xQ.eq_2 ∧ type_of% @xQ.eq_3 ∧ type_of% @xQ.eq_4 ∧ type_of% @xQ.eq_5 ∧ type_of% @xQ.eq_6 ∧ type_of% @xQ.eq_7 ∧ type_of% @cx.eq_1 ∧ type_of% @cx.eq_2 ∧ type_of% @wT.eq_1 ∧ type_of% @E.load.eq_1 ∧ type_of% @E.load.eq_2 ∧ type_of% @E.store.eq_1 ∧ type_of% @vl.eq_1 ∧ type_of% @vl.eq_2 ∧ type_of% @vl.eq_3 ∧ type_of% @vl.eq_4 ∧ type_of% @vl.eq_5 ∧ type_of% @vl.eq_6 ∧ type_of% @vl.eq_7 ∧ type_of% @vl.eq_8 ∧ type_of% @vl.eq_9 ∧ type_of% @vl.eq_10 ∧ type_of% @vl.eq_11 ∧ type_of% @rP.eq_1 ∧ type_of% @rP.eq_2 ∧ type_of% @rP.eq_3 ∧ type_of% @rP.eq_4 ∧ type_of% @rP.eq_5 ∧ type_of% @rP.eq_6 ∧ type_of% @rP.eq_7 ∧ type_of% @zU.eq_1 ∧ type_of% @zU.eq_2 ∧ type_of% @zU.eq_3 ∧ type_of% @zU.eq_4 ∧ type_of% @zU.eq_5 ∧ type_of% @kv.eq_1 ∧ type_of% @kv.eq_2 ∧ type_of% @kv.eq_3 ∧ type_of% @kv.eq_4 ∧ type_of% @fnV.eq_1 ∧ type_of% @fnV.eq_2 ∧ type_of% @ye.eq_1 ∧ type_of% @ye.eq_2 ∧ type_of% @ye.eq_3 :=
 ⟨@xQ.eq_1, @xQ.eq_2, @xQ.eq_3, @xQ.eq_4, @xQ.eq_5, @xQ.eq_6, @xQ.eq_7, @cx.eq_1, @cx.eq_2, @wT.eq_1, @E.load.eq_1, @E.load.eq_2, @E.store.eq_1, @vl.eq_1, @vl.eq_2, @vl.eq_3, @vl.eq_4, @vl.eq_5, @vl.eq_6, @vl.eq_7, @vl.eq_8, @vl.eq_9, @vl.eq_10, @vl.eq_11, @rP.eq_1, @rP.eq_2, @rP.eq_3, @rP.eq_4, @rP.eq_5, @rP.eq_6, @rP.eq_7, @zU.eq_1, @zU.eq_2, @zU.eq_3, @zU.eq_4, @zU.eq_5, @kv.eq_1, @kv.eq_2, @kv.eq_3, @kv.eq_4, @fnV.eq_1, @fnV.eq_2, @ye.eq_1, @ye.eq_2, @ye.eq_3⟩
theorem GX1 : type_of% @ye.eq_4 ∧ type_of% @ye.eq_5 ∧ type_of% @ye.eq_6 ∧ type_of% @ye.eq_7 ∧ type_of% @tO.eq_1 ∧ type_of% @tO.eq_2 ∧ type_of% @tO.eq_3 ∧ type_of% @tP.eq_1 ∧ type_of% @tP.eq_2 ∧ type_of% @tP.eq_3 ∧ type_of% @vW.eq_1 ∧ type_of% @vW.eq_2 ∧ type_of% @vW.eq_3 ∧ type_of% @YB.eq_1 ∧ type_of% @tV.eq_1 ∧ type_of% @tV.eq_2 ∧ type_of% @rU.eq_1 ∧ type_of% @rU.eq_2 ∧ type_of% @rU.eq_3 ∧ type_of% @wq.eq_1 ∧ type_of% @wq.eq_2 ∧ type_of% @wq.eq_3 ∧ type_of% @wq.eq_4 ∧ type_of% @Qk.eq_1 ∧ type_of% @YQ.eq_1 ∧ type_of% @pw.eq_1 ∧ type_of% @pw.eq_2 ∧ type_of% @yr.eq_1 ∧ type_of% @yr.eq_2 ∧ type_of% @yr.eq_3 ∧ type_of% @yr.eq_4 ∧ type_of% @yr.eq_5 ∧ type_of% @yr.eq_6 ∧ type_of% @Qn.eq_1 ∧ type_of% @YA.eq_1 :=
 ⟨@ye.eq_4, @ye.eq_5, @ye.eq_6, @ye.eq_7, @tO.eq_1, @tO.eq_2, @tO.eq_3, @tP.eq_1, @tP.eq_2, @tP.eq_3, @vW.eq_1, @vW.eq_2, @vW.eq_3, @YB.eq_1, @tV.eq_1, @tV.eq_2, @rU.eq_1, @rU.eq_2, @rU.eq_3, @wq.eq_1, @wq.eq_2, @wq.eq_3, @wq.eq_4, @Qk.eq_1, @YQ.eq_1, @pw.eq_1, @pw.eq_2, @yr.eq_1, @yr.eq_2, @yr.eq_3, @yr.eq_4, @yr.eq_5, @yr.eq_6, @Qn.eq_1, @YA.eq_1⟩
/-- the words' equations, but for what is left over -/
theorem GX : type_of% @GX0 ∧ type_of% @GX1 := ⟨@GX0, @GX1⟩
theorem LL : type_of% @List.length_cons.{0} ∧ type_of% @List.length_append.{0} ∧ type_of% @List.length_nil.{0} ∧ type_of% @List.length_map.{0, 0} := ⟨@List.length_cons.{0}, @List.length_append.{0}, @List.length_nil.{0}, @List.length_map.{0, 0}⟩
theorem GZ : type_of% @Int.cast_ofNat_Int ∧ type_of% @sX ∧ type_of% @dw ∧ type_of% @dv ∧ type_of% @Option.isSome_none.{0} := ⟨@Int.cast_ofNat_Int, @sX, @dw, @dv, @Option.isSome_none.{0}⟩
end Go.Proofs.YtijninlbpifonaaGreatDoor.E
/- Plain words about texts: digits, quotes, joins. Conditions: those of each lemma. -/
namespace Go.Proofs.YtijninlbpifonaaGreatDoor
set_option linter.unusedVariables false
set_option linter.unusedSimpArgs false
abbrev Str := List UInt8
abbrev B2 (a lo hi : Int) : Bool := decide (lo ≤ a) && decide (a ≤ hi)
/-- a byte's number -/
abbrev nb (b : UInt8) : Int := (b.toNat : Int)
theorem Sl (b : UInt8) : (b.toNat : Int) < 256 ∧ (0 : Int) ≤ (b.toNat : Int) := by have := b.toNat_lt; omega
/-- the parts between a byte -/
def yB (b : UInt8) : Str → List Str
 | [] => [[]]
 | x :: s => if x = b then [] :: yB b s else match yB b s with
  | p :: r => (x :: p) :: r
  | [] => [[x]]
end Go.Proofs.YtijninlbpifonaaGreatDoor
/- Lists of texts, trees: as the evaluator sees them; their sizes. Conditions: those of each lemma. -/
namespace Go.Proofs.YtijninlbpifonaaGreatDoor
open E
set_option linter.unusedSimpArgs false
set_option linter.unusedVariables false
set_option maxRecDepth 100000
/-- a list of texts -/
def strs (ks : List (List UInt8)) : List (List T) := ks.map fun s => [.str s]
def ya : List (List UInt8) → Nat
 | [] => 0
 | s :: ks => s.length + ya ks
theorem zj (ks : List (List UInt8)) : (strs ks).length = ks.length := by simp [strs]
theorem yG (ks : List (List UInt8)) (i : Nat) (h : i < ks.length) : (strs ks)[i]? = some [.str ks[i]] := by simp [strs, h]
theorem bc (ks : List (List UInt8)) (i : Nat) (h : i < ks.length) : ya (ks.drop i) = ks[i].length + ya (ks.drop (i + 1)) := by
 rw [List.drop_eq_getElem_cons h]; rfl
/-- a row filled up to a place -/
def vC (xs : List (List T)) (z : List T) (i : Nat) : List (List T) := xs.take i ++ List.replicate (xs.length - i) z
theorem mA (xs : List (List T)) (z : List T) : vC xs z 0 = List.replicate xs.length z := by simp [vC]
theorem jr (xs : List (List T)) (z : List T) : vC xs z xs.length = xs := by simp [vC]
theorem jq (xs : List (List T)) (z : List T) (i : Nat) (h : i < xs.length) : (vC xs z i)[i]? = some z := by
 unfold vC
 rw [List.getElem?_append_right (by simp; omega), List.getElem?_replicate, if_pos (by simp; omega)]
theorem jo (xs : List (List T)) (z : List T) (i : Nat) (h : i < xs.length) : (vC xs z i).set i xs[i] = vC xs z (i + 1) := by
 unfold vC
 apply List.ext_getElem?
 intro j
 rw [List.getElem?_set]
 by_cases hj : i = j
 · subst hj
   rw [if_pos rfl, if_pos (by simp; omega), List.getElem?_append_left (by simp; omega)]
   simp [h]
 · rw [if_neg hj]
   rcases Nat.lt_or_ge j i with hlt | hge
   · rw [List.getElem?_append_left (by simp; omega), List.getElem?_append_left (by simp; omega)]
     rw [List.getElem?_take, List.getElem?_take, if_pos hlt, if_pos (by omega)]
   · rw [List.getElem?_append_right (by simp; omega), List.getElem?_append_right (by simp; omega), List.getElem?_replicate, List.getElem?_replicate]
     simp only [List.length_take]
     by_cases hk : j < xs.length
     · rw [if_pos (by omega), if_pos (by omega)]
     · rw [if_neg (by omega), if_neg (by omega)]
inductive Tr where
 | mk (k n : Int) (s : List UInt8) (ks : List (List UInt8)) (cs : List Tr)
mutual
def Tr.enc : Tr → List T
 | .mk k n s ks cs => [.int .i64 k, .int .i64 n, .str s, .list 1 (strs ks), .list 5 (Tr.zA cs)]
def Tr.zA : List Tr → List (List T)
 | [] => []
 | c :: cs => Tr.enc c :: Tr.zA cs
end
mutual
def Tr.zO : Tr → Nat
 | .mk _ _ s ks cs => s.length + ks.length + ya ks + cs.length + Tr.zL cs
def Tr.zL : List Tr → Nat
 | [] => 0
 | c :: cs => Tr.zO c + Tr.zL cs
end
mutual
def Tr.ok : Tr → Prop
 | .mk _ _ s ks cs => s.length ≤ 9223372036854775807 ∧ ks.length ≤ 9223372036854775807 ∧ (∀ x ∈ ks, x.length ≤ 9223372036854775807) ∧ cs.length ≤ 9223372036854775807 ∧ Tr.oks cs
def Tr.oks : List Tr → Prop
 | [] => True
 | c :: cs => Tr.ok c ∧ Tr.oks cs
end
theorem Tr.nF : ∀ cs : List Tr, Tr.zA cs = cs.map Tr.enc
 | [] => rfl
 | c :: cs => by simp [Tr.zA, Tr.nF cs]
theorem Tr.zx (cs : List Tr) : (Tr.zA cs).length = cs.length := by simp [Tr.nF]
theorem Tr.yR (cs : List Tr) (i : Nat) (h : i < cs.length) : (Tr.zA cs)[i]? = some cs[i].enc := by simp [Tr.nF, h]
theorem Tr.x9 (cs : List Tr) (i : Nat) (h : i < cs.length) : Tr.zL (cs.drop i) = cs[i].zO + Tr.zL (cs.drop (i + 1)) := by
 rw [List.drop_eq_getElem_cons h]; rfl
theorem Tr.zY : ∀ {cs : List Tr} {c : Tr}, c ∈ cs → c.zO ≤ Tr.zL cs
 | c' :: cs, c, h => by
  simp only [Tr.zL]
  rcases List.mem_cons.1 h with rfl | h
  · omega
  · have := Tr.zY h; omega
end Go.Proofs.YtijninlbpifonaaGreatDoor
/- The shelf's contracts at this program, laid by the kit's own tool. Conditions: none. -/
namespace Go.Proofs
open Go.Shelf
def Tryz.oG : Go.Shelf.Ren := ⟨fun | 156 => 245 | 165 => 302 | 166 => 303 | 169 => 304 | 240 => 348 | 241 => 349 | 276 => 367 | 277 => 368 | n => n, fun | 31 => 22 | 9 => 9 | 3 => 3 | 4 => 4 | 0 => 0 | 20 => 20 | 72 => 250 | 76 => 207 | 70 => 248 | 37 => 50 | 75 => 206 | 127 => 288 | 164 => 302 | 5 => 5 | 80 => 252 | n => n, fun | n => n⟩
theorem Tryz.Zz : Go.Proofs.Lays.n156 Tryz.prog Tryz.oG := {
 mixed := by kernel_rfl
 f156 := Tryz.func245.trans (congrArg some (by kernel_rfl))
 f165 := Tryz.func302.trans (congrArg some (by kernel_rfl))
 f166 := Tryz.func303.trans (congrArg some (by kernel_rfl))
 f169 := Tryz.func304.trans (congrArg some (by kernel_rfl))
 f240 := Tryz.func348.trans (congrArg some (by kernel_rfl))
 f241 := Tryz.func349.trans (congrArg some (by kernel_rfl))
 f276 := Tryz.func367.trans (congrArg some (by kernel_rfl))
 f277 := Tryz.func368.trans (congrArg some (by kernel_rfl))
 t0 := Tryz.underlying0
 a0 := Tryz.isAgg0
 z0 := Tryz.sizeOf0
 v0 := Tryz.zeroValue0
 t3 := Tryz.underlying3
 a3 := Tryz.isAgg3
 z3 := Tryz.sizeOf3
 v3 := Tryz.zeroValue3
 t4 := Tryz.underlying4
 a4 := Tryz.isAgg4
 z4 := Tryz.sizeOf4
 v4 := Tryz.zeroValue4
 t9 := Tryz.underlying9
 a9 := Tryz.isAgg9
 z9 := Tryz.sizeOf9
 v9 := Tryz.zeroValue9
 t20 := Tryz.underlying20
 a20 := Tryz.isAgg20
 z20 := Tryz.sizeOf20
 v20 := Tryz.zeroValue20
 t31 := Tryz.underlying22
 a31 := Tryz.isAgg22
 z31 := Tryz.sizeOf22
 v31 := Tryz.zeroValue22
 t37 := Tryz.underlying50
 a37 := Tryz.isAgg50
 z37 := Tryz.sizeOf50
 v37 := Tryz.zeroValue50
 t70 := Tryz.underlying248
 a70 := Tryz.isAgg248
 z70 := Tryz.sizeOf248
 v70 := Tryz.zeroValue248
 t72 := Tryz.underlying250
 a72 := Tryz.isAgg250
 z72 := Tryz.sizeOf250
 v72 := Tryz.zeroValue250
 t75 := Tryz.underlying206
 a75 := Tryz.isAgg206
 z75 := Tryz.sizeOf206
 v75 := Tryz.zeroValue206
 t76 := Tryz.underlying207
 a76 := Tryz.isAgg207
 z76 := Tryz.sizeOf207
 v76 := Tryz.zeroValue207
 t127 := Tryz.underlying288
 a127 := Tryz.isAgg288
 z127 := Tryz.sizeOf288
 v127 := Tryz.zeroValue288
 t164 := Tryz.underlying302
 a164 := Tryz.isAgg302
 z164 := Tryz.sizeOf302
 v164 := Tryz.zeroValue302 }
theorem Tryz.u0 : Builder.Extra Tryz.prog Tryz.oG := {
 sizeBuilder := by kernel_rfl
 liesBuilder := by kernel_rfl
 t5 := Tryz.underlying5
 a5 := Tryz.isAgg5
 z5 := Tryz.sizeOf5
 v5 := Tryz.zeroValue5
 infoByte := by kernel_rfl
 cellsByte := by kernel_rfl
 sizeByte := by kernel_rfl
 neB5 := by decide }
def Tryz.gS : Go.Shelf.Ren := ⟨fun | 106 => 222 | 213 => 279 | 265 => 331 | n => n, fun | 9 => 9 | 3 => 3 | n => n, fun | n => n⟩
theorem Tryz.Rj : Go.Proofs.Lays.n106 Tryz.prog Tryz.gS := {
 mixed := by kernel_rfl
 f106 := Tryz.func222.trans (congrArg some (by kernel_rfl))
 f213 := Tryz.func279.trans (congrArg some (by kernel_rfl))
 f265 := Tryz.func331.trans (congrArg some (by kernel_rfl))
 t3 := Tryz.underlying3
 a3 := Tryz.isAgg3
 z3 := Tryz.sizeOf3
 v3 := Tryz.zeroValue3
 t9 := Tryz.underlying9
 a9 := Tryz.isAgg9
 z9 := Tryz.sizeOf9
 v9 := Tryz.zeroValue9 }
def Tryz.jZ : Go.Shelf.Ren := ⟨fun | 171 => 299 | 243 => 347 | 246 => 366 | 283 => 374 | 284 => 375 | 285 => 376 | 286 => 377 | 129 => 274 | 317 => 380 | 318 => 381 | 319 => 382 | 320 => 383 | 337 => 384 | 338 => 385 | n => n, fun | 3 => 3 | 9 => 9 | 2 => 2 | 4 => 4 | 171 => 315 | 0 => 0 | 53 => 234 | 37 => 50 | 5 => 5 | 173 => 317 | 212 => 321 | 51 => 232 | 20 => 20 | 213 => 322 | 46 => 188 | 232 => 324 | 233 => 325 | n => n, fun | 17 => 5 | 18 => 6 | 19 => 7 | n => n⟩
theorem Tryz.U7 : Go.Proofs.LaysM.n171 Tryz.prog Tryz.jZ := {
 mixed := by kernel_rfl
 f129 := Tryz.func274.trans (congrArg some (by kernel_rfl))
 f171 := Tryz.func299.trans (congrArg some (by kernel_rfl))
 f243 := Tryz.func347.trans (congrArg some (by kernel_rfl))
 f246 := Tryz.func366.trans (congrArg some (by kernel_rfl))
 f283 := Tryz.func374.trans (congrArg some (by kernel_rfl))
 f284 := Tryz.func375.trans (congrArg some (by kernel_rfl))
 f285 := Tryz.func376.trans (congrArg some (by kernel_rfl))
 f286 := Tryz.func377.trans (congrArg some (by kernel_rfl))
 f317 := Tryz.func380.trans (congrArg some (by kernel_rfl))
 f318 := Tryz.func381.trans (congrArg some (by kernel_rfl))
 f319 := Tryz.func382.trans (congrArg some (by kernel_rfl))
 f320 := Tryz.func383.trans (congrArg some (by kernel_rfl))
 f337 := Tryz.func384.trans (congrArg some (by kernel_rfl))
 f338 := Tryz.func385.trans (congrArg some (by kernel_rfl))
 t0 := Tryz.underlying0
 a0 := Tryz.isAgg0
 z0 := Tryz.sizeOf0
 v0 := Tryz.zeroValue0
 t2 := Tryz.underlying2
 a2 := Tryz.isAgg2
 z2 := Tryz.sizeOf2
 v2 := Tryz.zeroValue2
 t3 := Tryz.underlying3
 a3 := Tryz.isAgg3
 z3 := Tryz.sizeOf3
 v3 := Tryz.zeroValue3
 t4 := Tryz.underlying4
 a4 := Tryz.isAgg4
 z4 := Tryz.sizeOf4
 v4 := Tryz.zeroValue4
 t5 := Tryz.underlying5
 a5 := Tryz.isAgg5
 z5 := Tryz.sizeOf5
 v5 := Tryz.zeroValue5
 t9 := Tryz.underlying9
 a9 := Tryz.isAgg9
 z9 := Tryz.sizeOf9
 v9 := Tryz.zeroValue9
 t20 := Tryz.underlying20
 a20 := Tryz.isAgg20
 z20 := Tryz.sizeOf20
 v20 := Tryz.zeroValue20
 t37 := Tryz.underlying50
 a37 := Tryz.isAgg50
 z37 := Tryz.sizeOf50
 v37 := Tryz.zeroValue50
 t46 := Tryz.underlying188
 a46 := Tryz.isAgg188
 z46 := Tryz.sizeOf188
 v46 := Tryz.zeroValue188
 t51 := Tryz.underlying232
 a51 := Tryz.isAgg232
 z51 := Tryz.sizeOf232
 v51 := Tryz.zeroValue232
 t53 := Tryz.underlying234
 a53 := Tryz.isAgg234
 z53 := Tryz.sizeOf234
 v53 := Tryz.zeroValue234
 t171 := Tryz.underlying315
 a171 := Tryz.isAgg315
 z171 := Tryz.sizeOf315
 v171 := Tryz.zeroValue315
 t173 := Tryz.underlying317
 a173 := Tryz.isAgg317
 z173 := Tryz.sizeOf317
 v173 := Tryz.zeroValue317
 t212 := Tryz.underlying321
 a212 := Tryz.isAgg321
 z212 := Tryz.sizeOf321
 v212 := Tryz.zeroValue321
 t213 := Tryz.underlying322
 a213 := Tryz.isAgg322
 z213 := Tryz.sizeOf322
 t232 := Tryz.underlying324
 a232 := Tryz.isAgg324
 z232 := Tryz.sizeOf324
 v232 := Tryz.zeroValue324
 t233 := Tryz.underlying325
 a233 := Tryz.isAgg325
 z233 := Tryz.sizeOf325
 v233 := Tryz.zeroValue325
 g17 := by kernel_rfl
 g18 := by kernel_rfl
 g19 := by kernel_rfl
 i0 := by kernel_rfl
 i2 := by kernel_rfl
 i3 := by kernel_rfl
 i4 := by kernel_rfl
 i5 := by kernel_rfl
 i9 := by kernel_rfl
 i20 := by kernel_rfl
 i37 := by kernel_rfl
 i46 := by kernel_rfl
 i51 := by kernel_rfl
 i53 := by kernel_rfl
 i171 := by kernel_rfl
 i173 := by kernel_rfl
 i212 := by kernel_rfl
 i232 := by kernel_rfl
 i233 := by kernel_rfl
 m17 := by kernel_rfl
 m18 := by kernel_rfl
 m19 := by kernel_rfl }
def Tryz.ia : Go.Shelf.Ren := ⟨fun | 172 => 242 | 244 => 297 | 245 => 298 | 247 => 342 | 279 => 343 | 280 => 344 | 281 => 345 | 282 => 346 | 287 => 363 | 316 => 364 | 171 => 299 | 205 => 365 | 321 => 372 | 322 => 373 | 243 => 347 | 246 => 366 | 283 => 374 | 284 => 375 | 285 => 376 | 286 => 377 | 129 => 274 | 317 => 380 | 318 => 381 | 319 => 382 | 320 => 383 | 337 => 384 | 338 => 385 | n => n, fun | 9 => 9 | 3 => 3 | 75 => 206 | 76 => 207 | 4 => 4 | 5 => 5 | 167 => 282 | 37 => 50 | 0 => 0 | 85 => 283 | 2 => 2 | 168 => 285 | 53 => 234 | 175 => 296 | 46 => 188 | 210 => 299 | 127 => 288 | 145 => 314 | 143 => 312 | 21 => 21 | 171 => 315 | 173 => 317 | 212 => 321 | 51 => 232 | 20 => 20 | 213 => 322 | 232 => 324 | 233 => 325 | 80 => 252 | n => n, fun | 15 => 1 | 16 => 2 | 17 => 5 | 18 => 6 | 19 => 7 | n => n⟩
theorem Tryz.lh : Go.Proofs.LaysC.n172 Tryz.prog Tryz.ia := {
 mixed := by kernel_rfl
 f129 := Tryz.func274.trans (congrArg some (by kernel_rfl))
 f171 := Tryz.func299.trans (congrArg some (by kernel_rfl))
 f172 := Tryz.func242.trans (congrArg some (by kernel_rfl))
 f205 := Tryz.func365.trans (congrArg some (by kernel_rfl))
 f243 := Tryz.func347.trans (congrArg some (by kernel_rfl))
 f244 := Tryz.func297.trans (congrArg some (by kernel_rfl))
 f245 := Tryz.func298.trans (congrArg some (by kernel_rfl))
 f246 := Tryz.func366.trans (congrArg some (by kernel_rfl))
 f247 := Tryz.func342.trans (congrArg some (by kernel_rfl))
 f279 := Tryz.func343.trans (congrArg some (by kernel_rfl))
 f280 := Tryz.func344.trans (congrArg some (by kernel_rfl))
 f281 := Tryz.func345.trans (congrArg some (by kernel_rfl))
 f282 := Tryz.func346.trans (congrArg some (by kernel_rfl))
 f283 := Tryz.func374.trans (congrArg some (by kernel_rfl))
 f284 := Tryz.func375.trans (congrArg some (by kernel_rfl))
 f285 := Tryz.func376.trans (congrArg some (by kernel_rfl))
 f286 := Tryz.func377.trans (congrArg some (by kernel_rfl))
 f287 := Tryz.func363.trans (congrArg some (by kernel_rfl))
 f316 := Tryz.func364.trans (congrArg some (by kernel_rfl))
 f317 := Tryz.func380.trans (congrArg some (by kernel_rfl))
 f318 := Tryz.func381.trans (congrArg some (by kernel_rfl))
 f319 := Tryz.func382.trans (congrArg some (by kernel_rfl))
 f320 := Tryz.func383.trans (congrArg some (by kernel_rfl))
 f321 := Tryz.func372.trans (congrArg some (by kernel_rfl))
 f322 := Tryz.func373.trans (congrArg some (by kernel_rfl))
 f337 := Tryz.func384.trans (congrArg some (by kernel_rfl))
 f338 := Tryz.func385.trans (congrArg some (by kernel_rfl))
 t0 := Tryz.underlying0
 a0 := Tryz.isAgg0
 z0 := Tryz.sizeOf0
 v0 := Tryz.zeroValue0
 t2 := Tryz.underlying2
 a2 := Tryz.isAgg2
 z2 := Tryz.sizeOf2
 v2 := Tryz.zeroValue2
 t3 := Tryz.underlying3
 a3 := Tryz.isAgg3
 z3 := Tryz.sizeOf3
 v3 := Tryz.zeroValue3
 t4 := Tryz.underlying4
 a4 := Tryz.isAgg4
 z4 := Tryz.sizeOf4
 v4 := Tryz.zeroValue4
 t5 := Tryz.underlying5
 a5 := Tryz.isAgg5
 z5 := Tryz.sizeOf5
 v5 := Tryz.zeroValue5
 t9 := Tryz.underlying9
 a9 := Tryz.isAgg9
 z9 := Tryz.sizeOf9
 v9 := Tryz.zeroValue9
 t20 := Tryz.underlying20
 a20 := Tryz.isAgg20
 z20 := Tryz.sizeOf20
 v20 := Tryz.zeroValue20
 t21 := Tryz.underlying21
 a21 := Tryz.isAgg21
 z21 := Tryz.sizeOf21
 v21 := Tryz.zeroValue21
 t37 := Tryz.underlying50
 a37 := Tryz.isAgg50
 z37 := Tryz.sizeOf50
 v37 := Tryz.zeroValue50
 t46 := Tryz.underlying188
 a46 := Tryz.isAgg188
 z46 := Tryz.sizeOf188
 v46 := Tryz.zeroValue188
 t51 := Tryz.underlying232
 a51 := Tryz.isAgg232
 z51 := Tryz.sizeOf232
 v51 := Tryz.zeroValue232
 t53 := Tryz.underlying234
 a53 := Tryz.isAgg234
 z53 := Tryz.sizeOf234
 v53 := Tryz.zeroValue234
 t75 := Tryz.underlying206
 a75 := Tryz.isAgg206
 z75 := Tryz.sizeOf206
 v75 := Tryz.zeroValue206
 t76 := Tryz.underlying207
 a76 := Tryz.isAgg207
 z76 := Tryz.sizeOf207
 v76 := Tryz.zeroValue207
 t85 := Tryz.underlying283
 a85 := Tryz.isAgg283
 z85 := Tryz.sizeOf283
 v85 := Tryz.zeroValue283
 t127 := Tryz.underlying288
 a127 := Tryz.isAgg288
 z127 := Tryz.sizeOf288
 v127 := Tryz.zeroValue288
 t143 := Tryz.underlying312
 a143 := Tryz.isAgg312
 z143 := Tryz.sizeOf312
 v143 := Tryz.zeroValue312
 t145 := Tryz.underlying314
 a145 := Tryz.isAgg314
 z145 := Tryz.sizeOf314
 v145 := Tryz.zeroValue314
 t167 := Tryz.underlying282
 a167 := Tryz.isAgg282
 z167 := Tryz.sizeOf282
 v167 := Tryz.zeroValue282
 t168 := Tryz.underlying285
 a168 := Tryz.isAgg285
 z168 := Tryz.sizeOf285
 v168 := Tryz.zeroValue285
 t171 := Tryz.underlying315
 a171 := Tryz.isAgg315
 z171 := Tryz.sizeOf315
 v171 := Tryz.zeroValue315
 t173 := Tryz.underlying317
 a173 := Tryz.isAgg317
 z173 := Tryz.sizeOf317
 v173 := Tryz.zeroValue317
 t175 := Tryz.underlying296
 a175 := Tryz.isAgg296
 z175 := Tryz.sizeOf296
 v175 := Tryz.zeroValue296
 t210 := Tryz.underlying299
 a210 := Tryz.isAgg299
 z210 := Tryz.sizeOf299
 v210 := Tryz.zeroValue299
 t212 := Tryz.underlying321
 a212 := Tryz.isAgg321
 z212 := Tryz.sizeOf321
 v212 := Tryz.zeroValue321
 t213 := Tryz.underlying322
 a213 := Tryz.isAgg322
 z213 := Tryz.sizeOf322
 t232 := Tryz.underlying324
 a232 := Tryz.isAgg324
 z232 := Tryz.sizeOf324
 v232 := Tryz.zeroValue324
 t233 := Tryz.underlying325
 a233 := Tryz.isAgg325
 z233 := Tryz.sizeOf325
 v233 := Tryz.zeroValue325
 g15 := by kernel_rfl
 g16 := by kernel_rfl
 g17 := by kernel_rfl
 g18 := by kernel_rfl
 g19 := by kernel_rfl
 t80 := Tryz.underlying252
 a80 := Tryz.isAgg252
 z80 := Tryz.sizeOf252
 v80 := Tryz.zeroValue252
 i0 := by kernel_rfl
 i2 := by kernel_rfl
 i3 := by kernel_rfl
 i4 := by kernel_rfl
 i5 := by kernel_rfl
 i9 := by kernel_rfl
 i20 := by kernel_rfl
 i21 := by kernel_rfl
 i37 := by kernel_rfl
 i46 := by kernel_rfl
 i51 := by kernel_rfl
 i53 := by kernel_rfl
 i75 := by kernel_rfl
 i76 := by kernel_rfl
 i80 := by kernel_rfl
 i85 := by kernel_rfl
 i127 := by kernel_rfl
 i143 := by kernel_rfl
 i145 := by kernel_rfl
 i167 := by kernel_rfl
 i168 := by kernel_rfl
 i171 := by kernel_rfl
 i173 := by kernel_rfl
 i175 := by kernel_rfl
 i210 := by kernel_rfl
 i212 := by kernel_rfl
 i232 := by kernel_rfl
 i233 := by kernel_rfl
 m15 := by kernel_rfl
 m16 := by kernel_rfl
 m17 := by kernel_rfl
 m18 := by kernel_rfl
 m19 := by kernel_rfl
 c0 := by kernel_rfl
 c2 := by kernel_rfl
 c3 := by kernel_rfl
 c4 := by kernel_rfl
 c5 := by kernel_rfl
 c9 := by kernel_rfl
 c20 := by kernel_rfl
 c21 := by kernel_rfl
 c37 := by kernel_rfl
 c46 := by kernel_rfl
 c51 := by kernel_rfl
 c53 := by kernel_rfl
 c75 := by kernel_rfl
 c76 := by kernel_rfl
 c80 := by kernel_rfl
 c85 := by kernel_rfl
 c127 := by kernel_rfl
 c143 := by kernel_rfl
 c145 := by kernel_rfl
 c167 := by kernel_rfl
 c168 := by kernel_rfl
 c171 := by kernel_rfl
 c173 := by kernel_rfl
 c175 := by kernel_rfl
 c210 := by kernel_rfl
 c212 := by kernel_rfl
 c213 := by kernel_rfl
 c232 := by kernel_rfl
 c233 := by kernel_rfl }
def Tryz.uT : Go.Shelf.Ren := ⟨fun | 145 => 161 | 220 => 240 | 219 => 293 | 217 => 335 | 225 => 336 | 224 => 337 | 267 => 338 | 266 => 360 | 314 => 361 | n => n, fun | 9 => 9 | 4 => 4 | 59 => 150 | 3 => 3 | 5 => 5 | 46 => 188 | 146 => 238 | 51 => 232 | n => n, fun | 1 => 0 | n => n⟩
theorem Tryz.eS : Go.Proofs.LaysM.n145 Tryz.prog Tryz.uT := {
 mixed := by kernel_rfl
 f145 := Tryz.func161.trans (congrArg some (by kernel_rfl))
 f217 := Tryz.func335.trans (congrArg some (by kernel_rfl))
 f219 := Tryz.func293.trans (congrArg some (by kernel_rfl))
 f220 := Tryz.func240.trans (congrArg some (by kernel_rfl))
 f224 := Tryz.func337.trans (congrArg some (by kernel_rfl))
 f225 := Tryz.func336.trans (congrArg some (by kernel_rfl))
 f266 := Tryz.func360.trans (congrArg some (by kernel_rfl))
 f267 := Tryz.func338.trans (congrArg some (by kernel_rfl))
 f314 := Tryz.func361.trans (congrArg some (by kernel_rfl))
 t3 := Tryz.underlying3
 a3 := Tryz.isAgg3
 z3 := Tryz.sizeOf3
 v3 := Tryz.zeroValue3
 t4 := Tryz.underlying4
 a4 := Tryz.isAgg4
 z4 := Tryz.sizeOf4
 v4 := Tryz.zeroValue4
 t5 := Tryz.underlying5
 a5 := Tryz.isAgg5
 z5 := Tryz.sizeOf5
 v5 := Tryz.zeroValue5
 t9 := Tryz.underlying9
 a9 := Tryz.isAgg9
 z9 := Tryz.sizeOf9
 v9 := Tryz.zeroValue9
 t46 := Tryz.underlying188
 a46 := Tryz.isAgg188
 z46 := Tryz.sizeOf188
 v46 := Tryz.zeroValue188
 t51 := Tryz.underlying232
 a51 := Tryz.isAgg232
 z51 := Tryz.sizeOf232
 v51 := Tryz.zeroValue232
 t59 := Tryz.underlying150
 a59 := Tryz.isAgg150
 z59 := Tryz.sizeOf150
 v59 := Tryz.zeroValue150
 t146 := Tryz.underlying238
 a146 := Tryz.isAgg238
 z146 := Tryz.sizeOf238
 v146 := Tryz.zeroValue238
 g1 := by kernel_rfl
 i3 := by kernel_rfl
 i4 := by kernel_rfl
 i5 := by kernel_rfl
 i9 := by kernel_rfl
 i46 := by kernel_rfl
 i51 := by kernel_rfl
 i59 := by kernel_rfl
 i146 := by kernel_rfl
 m1 := by kernel_rfl
 s1_3 := fun w h => Go.Proofs.cell_of_shapedOpen_int (zero := #[.int .i64 0]) (t := 3) h (of_decide_eq_true (by kernel_rfl)) (by kernel_rfl) rfl (by kernel_rfl) (by kernel_rfl) Tryz.underlying3 }
def Tryz.gR : Go.Shelf.Ren := ⟨fun | 190 => 126 | 125 => 215 | 258 => 214 | 128 => 273 | 129 => 274 | 302 => 264 | 303 => 265 | 304 => 266 | 305 => 267 | 306 => 268 | 307 => 269 | 308 => 270 | 309 => 271 | 310 => 272 | 333 => 322 | 329 => 323 | 330 => 324 | 334 => 325 | 335 => 326 | 336 => 327 | 344 => 357 | n => n, fun | 31 => 22 | 9 => 9 | 3 => 3 | 46 => 188 | 0 => 0 | 51 => 232 | 53 => 234 | 4 => 4 | 183 => 225 | 182 => 224 | 131 => 229 | 5 => 5 | 218 => 270 | 222 => 274 | 228 => 292 | 229 => 293 | n => n, fun | n => n⟩
theorem Tryz.Zy : Go.Proofs.Lays.n190 Tryz.prog Tryz.gR := {
 mixed := by kernel_rfl
 f125 := Tryz.func215.trans (congrArg some (by kernel_rfl))
 f128 := Tryz.func273.trans (congrArg some (by kernel_rfl))
 f129 := Tryz.func274.trans (congrArg some (by kernel_rfl))
 f190 := Tryz.func126.trans (congrArg some (by kernel_rfl))
 f258 := Tryz.func214.trans (congrArg some (by kernel_rfl))
 f302 := Tryz.func264.trans (congrArg some (by kernel_rfl))
 f303 := Tryz.func265.trans (congrArg some (by kernel_rfl))
 f304 := Tryz.func266.trans (congrArg some (by kernel_rfl))
 f305 := Tryz.func267.trans (congrArg some (by kernel_rfl))
 f306 := Tryz.func268.trans (congrArg some (by kernel_rfl))
 f307 := Tryz.func269.trans (congrArg some (by kernel_rfl))
 f308 := Tryz.func270.trans (congrArg some (by kernel_rfl))
 f309 := Tryz.func271.trans (congrArg some (by kernel_rfl))
 f310 := Tryz.func272.trans (congrArg some (by kernel_rfl))
 f329 := Tryz.func323.trans (congrArg some (by kernel_rfl))
 f330 := Tryz.func324.trans (congrArg some (by kernel_rfl))
 f333 := Tryz.func322.trans (congrArg some (by kernel_rfl))
 f334 := Tryz.func325.trans (congrArg some (by kernel_rfl))
 f335 := Tryz.func326.trans (congrArg some (by kernel_rfl))
 f336 := Tryz.func327.trans (congrArg some (by kernel_rfl))
 f344 := Tryz.func357.trans (congrArg some (by kernel_rfl))
 t0 := Tryz.underlying0
 a0 := Tryz.isAgg0
 z0 := Tryz.sizeOf0
 v0 := Tryz.zeroValue0
 t3 := Tryz.underlying3
 a3 := Tryz.isAgg3
 z3 := Tryz.sizeOf3
 v3 := Tryz.zeroValue3
 t4 := Tryz.underlying4
 a4 := Tryz.isAgg4
 z4 := Tryz.sizeOf4
 v4 := Tryz.zeroValue4
 t5 := Tryz.underlying5
 a5 := Tryz.isAgg5
 z5 := Tryz.sizeOf5
 v5 := Tryz.zeroValue5
 t9 := Tryz.underlying9
 a9 := Tryz.isAgg9
 z9 := Tryz.sizeOf9
 v9 := Tryz.zeroValue9
 t31 := Tryz.underlying22
 a31 := Tryz.isAgg22
 z31 := Tryz.sizeOf22
 v31 := Tryz.zeroValue22
 t46 := Tryz.underlying188
 a46 := Tryz.isAgg188
 z46 := Tryz.sizeOf188
 v46 := Tryz.zeroValue188
 t51 := Tryz.underlying232
 a51 := Tryz.isAgg232
 z51 := Tryz.sizeOf232
 v51 := Tryz.zeroValue232
 t53 := Tryz.underlying234
 a53 := Tryz.isAgg234
 z53 := Tryz.sizeOf234
 v53 := Tryz.zeroValue234
 t131 := Tryz.underlying229
 a131 := Tryz.isAgg229
 z131 := Tryz.sizeOf229
 v131 := Tryz.zeroValue229
 t182 := Tryz.underlying224
 a182 := Tryz.isAgg224
 z182 := Tryz.sizeOf224
 v182 := Tryz.zeroValue224
 t183 := Tryz.underlying225
 a183 := Tryz.isAgg225
 z183 := Tryz.sizeOf225
 v183 := Tryz.zeroValue225
 t218 := Tryz.underlying270
 a218 := Tryz.isAgg270
 z218 := Tryz.sizeOf270
 v218 := Tryz.zeroValue270
 t222 := Tryz.underlying274
 a222 := Tryz.isAgg274
 z222 := Tryz.sizeOf274
 v222 := Tryz.zeroValue274
 t228 := Tryz.underlying292
 a228 := Tryz.isAgg292
 z228 := Tryz.sizeOf292
 v228 := Tryz.zeroValue292
 t229 := Tryz.underlying293
 a229 := Tryz.isAgg293
 z229 := Tryz.sizeOf293
 v229 := Tryz.zeroValue293 }
def Tryz.uS : Go.Shelf.Ren := ⟨fun | 146 => 162 | 221 => 241 | 268 => 294 | 138 => 295 | 143 => 296 | 195 => 339 | 197 => 340 | 218 => 341 | 219 => 293 | 260 => 362 | 217 => 335 | 225 => 336 | 224 => 337 | 267 => 338 | 266 => 360 | 314 => 361 | n => n, fun | 9 => 9 | 31 => 22 | 3 => 3 | 4 => 4 | 0 => 0 | 105 => 280 | 21 => 21 | 5 => 5 | 46 => 188 | 119 => 307 | 139 => 310 | 138 => 309 | 146 => 238 | 51 => 232 | n => n, fun | 1 => 0 | 3 => 3 | 4 => 4 | n => n⟩
theorem Tryz.eR : Go.Proofs.LaysM.n146 Tryz.prog Tryz.uS := {
 mixed := by kernel_rfl
 f138 := Tryz.func295.trans (congrArg some (by kernel_rfl))
 f143 := Tryz.func296.trans (congrArg some (by kernel_rfl))
 f146 := Tryz.func162.trans (congrArg some (by kernel_rfl))
 f195 := Tryz.func339.trans (congrArg some (by kernel_rfl))
 f197 := Tryz.func340.trans (congrArg some (by kernel_rfl))
 f217 := Tryz.func335.trans (congrArg some (by kernel_rfl))
 f218 := Tryz.func341.trans (congrArg some (by kernel_rfl))
 f219 := Tryz.func293.trans (congrArg some (by kernel_rfl))
 f221 := Tryz.func241.trans (congrArg some (by kernel_rfl))
 f224 := Tryz.func337.trans (congrArg some (by kernel_rfl))
 f225 := Tryz.func336.trans (congrArg some (by kernel_rfl))
 f260 := Tryz.func362.trans (congrArg some (by kernel_rfl))
 f266 := Tryz.func360.trans (congrArg some (by kernel_rfl))
 f267 := Tryz.func338.trans (congrArg some (by kernel_rfl))
 f268 := Tryz.func294.trans (congrArg some (by kernel_rfl))
 f314 := Tryz.func361.trans (congrArg some (by kernel_rfl))
 t0 := Tryz.underlying0
 a0 := Tryz.isAgg0
 z0 := Tryz.sizeOf0
 v0 := Tryz.zeroValue0
 t3 := Tryz.underlying3
 a3 := Tryz.isAgg3
 z3 := Tryz.sizeOf3
 v3 := Tryz.zeroValue3
 t4 := Tryz.underlying4
 a4 := Tryz.isAgg4
 z4 := Tryz.sizeOf4
 v4 := Tryz.zeroValue4
 t5 := Tryz.underlying5
 a5 := Tryz.isAgg5
 z5 := Tryz.sizeOf5
 v5 := Tryz.zeroValue5
 t9 := Tryz.underlying9
 a9 := Tryz.isAgg9
 z9 := Tryz.sizeOf9
 v9 := Tryz.zeroValue9
 t21 := Tryz.underlying21
 a21 := Tryz.isAgg21
 z21 := Tryz.sizeOf21
 v21 := Tryz.zeroValue21
 t31 := Tryz.underlying22
 a31 := Tryz.isAgg22
 z31 := Tryz.sizeOf22
 v31 := Tryz.zeroValue22
 t46 := Tryz.underlying188
 a46 := Tryz.isAgg188
 z46 := Tryz.sizeOf188
 v46 := Tryz.zeroValue188
 t51 := Tryz.underlying232
 a51 := Tryz.isAgg232
 z51 := Tryz.sizeOf232
 v51 := Tryz.zeroValue232
 t105 := Tryz.underlying280
 a105 := Tryz.isAgg280
 z105 := Tryz.sizeOf280
 v105 := Tryz.zeroValue280
 t119 := Tryz.underlying307
 a119 := Tryz.isAgg307
 z119 := Tryz.sizeOf307
 t138 := Tryz.underlying309
 a138 := Tryz.isAgg309
 z138 := Tryz.sizeOf309
 v138 := Tryz.zeroValue309
 t139 := Tryz.underlying310
 a139 := Tryz.isAgg310
 z139 := Tryz.sizeOf310
 v139 := Tryz.zeroValue310
 t146 := Tryz.underlying238
 a146 := Tryz.isAgg238
 z146 := Tryz.sizeOf238
 v146 := Tryz.zeroValue238
 g1 := by kernel_rfl
 g3 := by kernel_rfl
 g4 := by kernel_rfl
 i0 := by kernel_rfl
 i3 := by kernel_rfl
 i4 := by kernel_rfl
 i5 := by kernel_rfl
 i9 := by kernel_rfl
 i21 := by kernel_rfl
 i31 := by kernel_rfl
 i46 := by kernel_rfl
 i51 := by kernel_rfl
 i105 := by kernel_rfl
 i138 := by kernel_rfl
 i139 := by kernel_rfl
 i146 := by kernel_rfl
 m1 := by kernel_rfl
 s1_3 := fun w h => Go.Proofs.cell_of_shapedOpen_int (zero := #[.int .i64 0]) (t := 3) h (of_decide_eq_true (by kernel_rfl)) (by kernel_rfl) rfl (by kernel_rfl) (by kernel_rfl) Tryz.underlying3
 m3 := by kernel_rfl
 m4 := by kernel_rfl }
def Tryz.gQ : Go.Shelf.Ren := ⟨fun | 194 => 199 | n => n, fun | 31 => 22 | 9 => 9 | 3 => 3 | 4 => 4 | 0 => 0 | n => n, fun | n => n⟩
theorem Tryz.Zx : Go.Proofs.Lays.n194 Tryz.prog Tryz.gQ := {
 mixed := by kernel_rfl
 f194 := Tryz.func199.trans (congrArg some (by kernel_rfl))
 t0 := Tryz.underlying0
 a0 := Tryz.isAgg0
 z0 := Tryz.sizeOf0
 v0 := Tryz.zeroValue0
 t3 := Tryz.underlying3
 a3 := Tryz.isAgg3
 z3 := Tryz.sizeOf3
 v3 := Tryz.zeroValue3
 t4 := Tryz.underlying4
 a4 := Tryz.isAgg4
 z4 := Tryz.sizeOf4
 v4 := Tryz.zeroValue4
 t9 := Tryz.underlying9
 a9 := Tryz.isAgg9
 z9 := Tryz.sizeOf9
 v9 := Tryz.zeroValue9
 t31 := Tryz.underlying22
 a31 := Tryz.isAgg22
 z31 := Tryz.sizeOf22
 v31 := Tryz.zeroValue22 }
def Tryz.qy : Go.Shelf.Ren := ⟨fun | 6 => 198 | 15 => 215 | 14 => 260 | 28 => 273 | 29 => 274 | 20 => 313 | 21 => 314 | 22 => 315 | 23 => 316 | 24 => 317 | 25 => 318 | 26 => 319 | 27 => 320 | 46 => 354 | 47 => 323 | 48 => 324 | 49 => 355 | 50 => 356 | 57 => 370 | n => n, fun | 22 => 22 | 24 => 9 | 25 => 108 | 3 => 3 | 39 => 188 | 0 => 0 | 53 => 232 | 55 => 234 | 4 => 4 | 46 => 225 | 45 => 224 | 50 => 229 | 5 => 5 | 9 => 9 | 66 => 270 | 70 => 274 | 76 => 292 | 77 => 293 | n => n, fun | n => n⟩
theorem Tryz.lX : Go.Proofs.SlLaysF.n6 Tryz.prog Tryz.qy := {
 mixed := by kernel_rfl
 f6 := ⟨Tryz.f198.name, by decide, Tryz.func198.trans (congrArg some (by kernel_rfl))⟩
 f14 := ⟨Tryz.f260.name, by decide, Tryz.func260.trans (congrArg some (by kernel_rfl))⟩
 f15 := Tryz.func215.trans (congrArg some (by kernel_rfl))
 f20 := ⟨Tryz.f313.name, by decide, Tryz.func313.trans (congrArg some (by kernel_rfl))⟩
 f21 := ⟨Tryz.f314.name, by decide, Tryz.func314.trans (congrArg some (by kernel_rfl))⟩
 f22 := ⟨Tryz.f315.name, by decide, Tryz.func315.trans (congrArg some (by kernel_rfl))⟩
 f23 := ⟨Tryz.f316.name, by decide, Tryz.func316.trans (congrArg some (by kernel_rfl))⟩
 f24 := ⟨Tryz.f317.name, by decide, Tryz.func317.trans (congrArg some (by kernel_rfl))⟩
 f25 := ⟨Tryz.f318.name, by decide, Tryz.func318.trans (congrArg some (by kernel_rfl))⟩
 f26 := ⟨Tryz.f319.name, by decide, Tryz.func319.trans (congrArg some (by kernel_rfl))⟩
 f27 := ⟨Tryz.f320.name, by decide, Tryz.func320.trans (congrArg some (by kernel_rfl))⟩
 f28 := Tryz.func273.trans (congrArg some (by kernel_rfl))
 f29 := Tryz.func274.trans (congrArg some (by kernel_rfl))
 f46 := ⟨Tryz.f354.name, by decide, Tryz.func354.trans (congrArg some (by kernel_rfl))⟩
 f47 := Tryz.func323.trans (congrArg some (by kernel_rfl))
 f48 := Tryz.func324.trans (congrArg some (by kernel_rfl))
 f49 := ⟨Tryz.f355.name, by decide, Tryz.func355.trans (congrArg some (by kernel_rfl))⟩
 f50 := ⟨Tryz.f356.name, by decide, Tryz.func356.trans (congrArg some (by kernel_rfl))⟩
 f57 := ⟨Tryz.f370.name, by decide, Tryz.func370.trans (congrArg some (by kernel_rfl))⟩
 t0 := Tryz.underlying0
 a0 := Tryz.isAgg0
 z0 := Tryz.sizeOf0
 v0 := Tryz.zeroValue0
 t3 := Tryz.underlying3
 a3 := Tryz.isAgg3
 z3 := Tryz.sizeOf3
 v3 := Tryz.zeroValue3
 t4 := Tryz.underlying4
 a4 := Tryz.isAgg4
 z4 := Tryz.sizeOf4
 v4 := Tryz.zeroValue4
 t5 := Tryz.underlying5
 a5 := Tryz.isAgg5
 z5 := Tryz.sizeOf5
 v5 := Tryz.zeroValue5
 t9 := Tryz.underlying9
 a9 := Tryz.isAgg9
 z9 := Tryz.sizeOf9
 v9 := Tryz.zeroValue9
 t22 := Tryz.underlying22
 a22 := Tryz.isAgg22
 z22 := Tryz.sizeOf22
 v22 := Tryz.zeroValue22
 a24 := Tryz.isAgg9
 z24 := Tryz.sizeOf9
 t25 := Tryz.underlying108
 a25 := Tryz.isAgg108
 z25 := Tryz.sizeOf108
 v25 := Tryz.zeroValue108
 t39 := Tryz.underlying188
 a39 := Tryz.isAgg188
 z39 := Tryz.sizeOf188
 v39 := Tryz.zeroValue188
 t45 := Tryz.underlying224
 a45 := Tryz.isAgg224
 z45 := Tryz.sizeOf224
 v45 := Tryz.zeroValue224
 t46 := Tryz.underlying225
 a46 := Tryz.isAgg225
 z46 := Tryz.sizeOf225
 v46 := Tryz.zeroValue225
 t50 := Tryz.underlying229
 a50 := Tryz.isAgg229
 z50 := Tryz.sizeOf229
 v50 := Tryz.zeroValue229
 t53 := Tryz.underlying232
 a53 := Tryz.isAgg232
 z53 := Tryz.sizeOf232
 v53 := Tryz.zeroValue232
 t55 := Tryz.underlying234
 a55 := Tryz.isAgg234
 z55 := Tryz.sizeOf234
 v55 := Tryz.zeroValue234
 t66 := Tryz.underlying270
 a66 := Tryz.isAgg270
 z66 := Tryz.sizeOf270
 v66 := Tryz.zeroValue270
 t70 := Tryz.underlying274
 a70 := Tryz.isAgg274
 z70 := Tryz.sizeOf274
 v70 := Tryz.zeroValue274
 t76 := Tryz.underlying292
 a76 := Tryz.isAgg292
 z76 := Tryz.sizeOf292
 v76 := Tryz.zeroValue292
 t77 := Tryz.underlying293
 a77 := Tryz.isAgg293
 z77 := Tryz.sizeOf293
 v77 := Tryz.zeroValue293 }
def Tryz.vF : Go.Shelf.Ren := ⟨fun | 6 => 198 | 15 => 215 | 14 => 260 | 28 => 273 | 29 => 274 | 20 => 313 | 21 => 314 | 22 => 315 | 23 => 316 | 24 => 317 | 25 => 318 | 26 => 319 | 27 => 320 | 46 => 354 | 47 => 323 | 48 => 324 | 49 => 355 | 50 => 356 | 57 => 370 | n => n, fun | 22 => 22 | 24 => 9 | 25 => 108 | 3 => 3 | 39 => 188 | 0 => 0 | 53 => 232 | 55 => 234 | 4 => 4 | 46 => 225 | 45 => 224 | 50 => 229 | 5 => 5 | 9 => 9 | 66 => 270 | 70 => 274 | 76 => 292 | 77 => 293 | n => n, fun | n => n⟩
theorem Tryz.nM : Go.Proofs.SlLaysF0.n6 Tryz.prog Tryz.vF := {
 mixed := by kernel_rfl
 f6 := ⟨Tryz.f198.name, by decide, Tryz.func198.trans (congrArg some (by kernel_rfl))⟩
 f14 := ⟨Tryz.f260.name, by decide, Tryz.func260.trans (congrArg some (by kernel_rfl))⟩
 f15 := Tryz.func215.trans (congrArg some (by kernel_rfl))
 f20 := ⟨Tryz.f313.name, by decide, Tryz.func313.trans (congrArg some (by kernel_rfl))⟩
 f21 := ⟨Tryz.f314.name, by decide, Tryz.func314.trans (congrArg some (by kernel_rfl))⟩
 f22 := ⟨Tryz.f315.name, by decide, Tryz.func315.trans (congrArg some (by kernel_rfl))⟩
 f23 := ⟨Tryz.f316.name, by decide, Tryz.func316.trans (congrArg some (by kernel_rfl))⟩
 f24 := ⟨Tryz.f317.name, by decide, Tryz.func317.trans (congrArg some (by kernel_rfl))⟩
 f25 := ⟨Tryz.f318.name, by decide, Tryz.func318.trans (congrArg some (by kernel_rfl))⟩
 f26 := ⟨Tryz.f319.name, by decide, Tryz.func319.trans (congrArg some (by kernel_rfl))⟩
 f27 := ⟨Tryz.f320.name, by decide, Tryz.func320.trans (congrArg some (by kernel_rfl))⟩
 f28 := Tryz.func273.trans (congrArg some (by kernel_rfl))
 f29 := Tryz.func274.trans (congrArg some (by kernel_rfl))
 f46 := ⟨Tryz.f354.name, by decide, Tryz.func354.trans (congrArg some (by kernel_rfl))⟩
 f47 := Tryz.func323.trans (congrArg some (by kernel_rfl))
 f48 := Tryz.func324.trans (congrArg some (by kernel_rfl))
 f49 := ⟨Tryz.f355.name, by decide, Tryz.func355.trans (congrArg some (by kernel_rfl))⟩
 f50 := ⟨Tryz.f356.name, by decide, Tryz.func356.trans (congrArg some (by kernel_rfl))⟩
 f57 := ⟨Tryz.f370.name, by decide, Tryz.func370.trans (congrArg some (by kernel_rfl))⟩
 t0 := Tryz.underlying0
 a0 := Tryz.isAgg0
 z0 := Tryz.sizeOf0
 v0 := Tryz.zeroValue0
 t3 := Tryz.underlying3
 a3 := Tryz.isAgg3
 z3 := Tryz.sizeOf3
 v3 := Tryz.zeroValue3
 t4 := Tryz.underlying4
 a4 := Tryz.isAgg4
 z4 := Tryz.sizeOf4
 v4 := Tryz.zeroValue4
 t5 := Tryz.underlying5
 a5 := Tryz.isAgg5
 z5 := Tryz.sizeOf5
 v5 := Tryz.zeroValue5
 t9 := Tryz.underlying9
 a9 := Tryz.isAgg9
 z9 := Tryz.sizeOf9
 v9 := Tryz.zeroValue9
 t22 := Tryz.underlying22
 a22 := Tryz.isAgg22
 z22 := Tryz.sizeOf22
 v22 := Tryz.zeroValue22
 t25 := Tryz.underlying108
 a25 := Tryz.isAgg108
 z25 := Tryz.sizeOf108
 v25 := Tryz.zeroValue108
 t39 := Tryz.underlying188
 a39 := Tryz.isAgg188
 z39 := Tryz.sizeOf188
 v39 := Tryz.zeroValue188
 t45 := Tryz.underlying224
 a45 := Tryz.isAgg224
 z45 := Tryz.sizeOf224
 v45 := Tryz.zeroValue224
 t46 := Tryz.underlying225
 a46 := Tryz.isAgg225
 z46 := Tryz.sizeOf225
 v46 := Tryz.zeroValue225
 t50 := Tryz.underlying229
 a50 := Tryz.isAgg229
 z50 := Tryz.sizeOf229
 v50 := Tryz.zeroValue229
 t53 := Tryz.underlying232
 a53 := Tryz.isAgg232
 z53 := Tryz.sizeOf232
 v53 := Tryz.zeroValue232
 t55 := Tryz.underlying234
 a55 := Tryz.isAgg234
 z55 := Tryz.sizeOf234
 v55 := Tryz.zeroValue234
 t66 := Tryz.underlying270
 a66 := Tryz.isAgg270
 z66 := Tryz.sizeOf270
 v66 := Tryz.zeroValue270
 t70 := Tryz.underlying274
 a70 := Tryz.isAgg274
 z70 := Tryz.sizeOf274
 v70 := Tryz.zeroValue274
 t76 := Tryz.underlying292
 a76 := Tryz.isAgg292
 z76 := Tryz.sizeOf292
 v76 := Tryz.zeroValue292
 t77 := Tryz.underlying293
 a77 := Tryz.isAgg293
 z77 := Tryz.sizeOf293
 v77 := Tryz.zeroValue293 }
end Go.Proofs
/- What the library's functions answer, by the kit's own contract. Conditions: those of each lemma. -/
namespace Go.Proofs
open Go.Shelf
theorem Tryz.join_none (a : Option Addr) (c : Nat) (sep : ByteArray) (w : World) :
 Calls Tryz.prog 245 #[.slice a 0 c, .string sep] w fun e w' => e = .returned (.string ⟨#[]⟩) ∧ w' = w := Any.strings_Join_none Tryz.Zz Tryz.u0 a c sep w
theorem Tryz.join_some (bk o c : Nat) (xs : List ByteArray) (sep : ByteArray) (w : World)
 (hcells : ∀ (j : Nat) x, xs[j]? = some x → w.cell? ⟨bk, o + j, none⟩ = some (.string x))
 (hbk : bk < w.heap.size) (hN : xs.length ≤ 140737488355328) (hcap : xs.length ≤ c)
 (hlen : (Lib.join (xs.map (·.data.toList)) sep.data.toList).length ≤ 140737488355328) :
 Calls Tryz.prog 245 #[.slice (some ⟨bk, o, none⟩) xs.length c, .string sep] w fun e w' => e = .returned (.string ⟨(Lib.join (xs.map (·.data.toList)) sep.data.toList).toArray⟩) ∧ Go.RowKit.Below w.heap.size w w' :=
 Any.strings_Join Tryz.Zz Tryz.u0 bk o c xs sep w hcells hbk hN hcap hlen
theorem Tryz.itoa (n : Int) (h0 : -9223372036854775808 ≤ n) (h1 : n ≤ 9223372036854775807) (w : World) (htab : Lib.TabIs Tryz.prog w "internal/strconv.uint64pow10" .u64 Lib.pow10Tab) :
 Calls Tryz.prog 299 #[.int .i64 n] w fun e w' => e = .returned (.string ⟨(Lib.itoa n).toArray⟩) ∧ ∃ k os, w' = Go.Sort.grow (w.drewN k) os := Any.strconv_Itoa Tryz.U7 n h0 h1 w htab
theorem Tryz.ff (w : World) (e : TypeId) (s : ByteArray) : Go.RowKit.Below w.heap.size w (Lib.bytesWorld w e s) :=
 ⟨rfl, rfl, rfl, by rw [Lib.bytesWorld_size]; omega, fun k hk => Lib.bytesWorld_at_old w e s k hk⟩
theorem Tryz.Q8 (s : ByteArray) (hmax : s.size ≤ 281474976710656) (v : Int) (h : Lib.atoiAll s.data.toList = .ok v) (w : World) :
 Calls Tryz.prog 242 #[.string s] w fun e w' => e = .returned (.tuple #[.int .i64 v, .nilIface]) ∧ Go.RowKit.Below w.heap.size w w' :=
 (Any.strconv_Atoi_ok Tryz.lh s (by omega) v h w).mono fun e w' ⟨h1, h2⟩ => ⟨h1, by
  rcases h2 with rfl | ⟨t, rfl⟩
  · exact Go.RowKit.Below.refl _ _
  · exact Tryz.ff _ _ _⟩
theorem Tryz.US (s : ByteArray) (hlim : s.size ≤ 281474976710656) (h : Lib.atoiAll s.data.toList = Lib.NumEnd.syntax) (tp : TypeId) (p : Value) (w : World) (hvar : w.var? Tryz.prog "strconv.ErrSyntax" = some #[.iface tp p]) :
 Calls Tryz.prog 242 #[.string s] w fun e w' => ∃ t z, e = .returned (.tuple #[.int .i64 0, .iface t z]) ∧ Go.RowKit.Below w.heap.size w w' :=
 (Any.strconv_Atoi_syntax_var Tryz.lh s hlim h tp p w hvar).mono fun e w' ⟨N, h1, _, _, h2⟩ => ⟨_, _, h1, h2⟩
theorem Tryz.UT (s : ByteArray) (hlim : s.size ≤ 281474976710656) (h : Lib.atoiAll s.data.toList = .range) (tp : TypeId) (p : Value) (w : World) (hvar : w.var? Tryz.prog "strconv.ErrRange" = some #[.iface tp p]) :
 Calls Tryz.prog 242 #[.string s] w fun e w' => ∃ t z, e = .returned (.tuple #[.int .i64 (Lib.atoiSat s.data.toList), .iface t z]) ∧ Go.RowKit.Below w.heap.size w w' :=
 (Any.strconv_Atoi_range_var Tryz.lh s hlim h tp p w hvar).mono fun e w' ⟨N, h1, _, _, h2⟩ => ⟨_, _, h1, h2⟩
theorem Tryz.VU (a b : ByteArray) (w : World) : Calls Tryz.prog 222 #[.string a, .string b] w fun e w' => e = .returned (.int .i64 (Lib.compareBytes a.data.toList b.data.toList)) ∧ w' = w := Any.strings_Compare Tryz.Rj a b w
end Go.Proofs
/- What the library's functions answer, as the evaluator takes it. Conditions: those of each lemma. -/
namespace Go.Proofs.YtijninlbpifonaaGreatDoor
open E
set_option linter.unusedSimpArgs false
set_option linter.unusedVariables false
set_option maxRecDepth 100000
/-- a list's texts -/
def strsOf : List (List T) → Option (List Str)
 | [] => some []
 | c :: r => match c with
  | [.str l] => (match strsOf r with | some ks => some (l :: ks) | none => none)
  | _ => none
theorem wO : ∀ ks : List Str, strsOf (strs ks) = some ks
 | [] => rfl
 | k :: ks => by
  have := wO ks
  simp only [strs] at this
  simp only [strs, List.map_cons, strsOf, this]
theorem uB : ∀ {es : List (List T)} {ks : List Str}, strsOf es = some ks → es = strs ks
 | [], ks, h => by simp only [strsOf] at h; cases h; rfl
 | c :: r, ks, h => by
  simp only [strsOf] at h
  split at h
  · split at h
    · rename_i ks' hk; cases h; rw [uB hk]; rfl
    · cases h
  · cases h
/-- what is shown by other means -/
def YE : List V → Option V
 | [.t (.list 1 es), .t (.str sep)] => match strsOf es with
  | some ks => if ks.length ≤ 140737488355328 ∧ (Lib.join ks sep).length ≤ 140737488355328 then some (.t (.str (Lib.join ks sep))) else none
  | none => none
 | _ => none
def qW : List V → Option V
 | [.t (.str a), .t (.str b)] => some (.t (.int .i64 (Lib.compareBytes a b)))
 | _ => none
def YF : List V → Option V
 | [.t (.int .i64 n)] => if -9223372036854775808 ≤ n ∧ n ≤ 9223372036854775807 then some (.t (.str (Lib.itoa n))) else none
 | _ => none
def YP : List V → Option V
 | [.t (.str s)] => if s.length ≤ 281474976710656 then (match Lib.atoiAll s with
  | .ok v => some (.tup [.t (.int .i64 v), .t .nili])
  | Lib.NumEnd.syntax => some (.tup [.t (.int .i64 0), .t .nni])
  | .range => some (.tup [.t (.int .i64 (Lib.atoiSat s)), .t .nni])) else none
 | _ => none
def Qo : List V → Option V
 | [.t (.str s), .t (.str sep)] => if s.length < 4294967281 then some (.tup [.t (.str (Lib.cut s sep).1), .t (.str (Lib.cut s sep).2.1), .t (.bool (Lib.cut s sep).2.2)]) else none
 | _ => none
/-- the parts of a text -/
def lJ (s sep : Str) : List Str := (Lib.splitB ⟨sep.toArray⟩ 0 (Lib.countB ⟨s.toArray⟩ ⟨sep.toArray⟩) ⟨s.toArray⟩).map (·.data.toList)
def gq : List V → Option V
 | [.t (.str s), .t (.str sep)] => if s.length < 4294967281 ∧ 1 ≤ sep.length then some (.t (.list 1 (strs (lJ s sep)))) else none
 | _ => none
/-- a list of texts as it lies in memory -/
theorem SS {w : World} {F : Nat → Prop} {u : Value} {ks : List Str} (h : RT w F u (.list 1 (strs ks))) :
 ∃ a c, u = .slice a ks.length c ∧ ks.length ≤ c ∧ (0 < ks.length → ∃ b o, a = some ⟨b, o, none⟩ ∧ F b ∧ ∀ (j : Nat) x, (ks.map fun l => (⟨l.toArray⟩ : ByteArray))[j]? = some x → w.cell? ⟨b, o + j, none⟩ = some (.string x)) := by
 cases h with
 | list a n c sz es g hn hc h0 hz hr =>
  rw [zj] at hn
  subst hn
  refine ⟨a, c, rfl, hc, fun hp => ?_⟩
  obtain ⟨b, o, e1, e2, e3⟩ := h0 hp
  refine ⟨b, o, e1, e2, fun j x hj => ?_⟩
  have hjl : j < ks.length := by have := (List.getElem?_eq_some_iff.1 hj).1; simpa using this
  have h1 := e3 j 0 hjl (by omega)
  have h2 := hr j 0 [.str ks[j]] (.str ks[j]) (yG ks j hjl) rfl
  rw [show o + (j * 1 + 0) = o + j by omega] at h1
  rw [h1]
  generalize g j 0 = gv at h2
  cases h2 with
  | str s _ hs =>
   simp [hjl] at hj
   rw [← hj, ← hs]
theorem vw {w w' : World} {F : Nat → Prop} (h : Go.RowKit.Below w.heap.size w w') (hF : ∀ b, F b → b < w.heap.size) : (∀ b, F b → b < w'.heap.size) ∧ Nxt (own fun b => w.heap.size ≤ b) w F zI w' F zI :=
 ⟨fun b hb => Nat.lt_of_lt_of_le (hF b hb) h.size, ⟨h.os, h.tape, h.output, h.size, fun b hb _ => h.block b hb, fun b hb => h.block b (hF b hb), fun _ hb => hb, fun _ hb => .inl hb, Ext.refl _, fun _ _ => rfl⟩⟩
/-- a function is as it is told -/
def iL (W0 : World) (g : Nat) (e : List V → Option V) : Prop := ∀ args v, e args = some v →
 (∃ fn, Tryz.prog.funcs[g]? = some fn ∧ (fn.name == "runtime.NumGoroutine") = false ∧ fn.body.isNone = false) ∧
 ∀ (w : World) (F : Nat → Prop) (us : Array Value), wm W0 w F → (∀ b, F b → b < w.heap.size) → RVs w F zI us.toList args →
  Calls Tryz.prog g us w fun e w' => ∃ u F', e = .returned u ∧ RV w' F' zI u v ∧ (∀ b, F' b → b < w'.heap.size) ∧ Nxt (own fun b => w.heap.size ≤ b) w F zI w' F' zI
theorem Rn (W0 : World) : iL W0 245 YE := by
 intro args v hv'
 unfold YE at hv'
 split at hv'
 · rename_i es sep
   split at hv'
   · rename_i ks hks
     split at hv'
     · rename_i hl
       cases hv'
       obtain rfl := uB hks
       refine ⟨⟨Tryz.f245, Tryz.func245, by kernel_rfl, by kernel_rfl⟩, fun w F us hB hF hu => ?_⟩
       obtain ⟨us⟩ := us
       change RVs w F zI us _ at hu
       cases hu with
       | cons h1 h2 =>
       cases h2 with
       | cons h2 h3 =>
       cases h3
       obtain ⟨s, rfl, hs⟩ := tD h2
       obtain ⟨a, c, rfl, hc, h0⟩ := SS (Qj h1)
       have hfin : ∀ (e : Ending) (w' : World), (e = .returned (.string ⟨(Lib.join ks sep).toArray⟩) ∧ Go.RowKit.Below w.heap.size w w') → ∃ u F', e = .returned u ∧ RV w' F' zI u (.t (.str (Lib.join ks sep))) ∧ (∀ b, F' b → b < w'.heap.size) ∧ Nxt (own fun b => w.heap.size ≤ b) w F zI w' F' zI := by
        rintro e w' ⟨rfl, hb⟩
        obtain ⟨k1, k2⟩ := vw hb hF
        exact ⟨_, F, rfl, .t _ _ (.str _ _ (by simp)), k1, k2⟩
       by_cases hk : ks.length = 0
       · have hk' : ks = [] := List.eq_nil_of_length_eq_zero hk
         subst hk'
         refine (Tryz.join_none a c s w).mono fun e w' ⟨h1, h2⟩ => hfin e w' ⟨?_, ?_⟩
         · rw [h1]; rfl
         · rw [h2]; exact Go.RowKit.Below.refl _ _
       · obtain ⟨b, o, rfl, hb, hcell⟩ := h0 (by omega)
         have hmap : (ks.map fun l => (⟨l.toArray⟩ : ByteArray)).map (·.data.toList) = ks := by
          rw [List.map_map]
          have : ((fun x : ByteArray => x.data.toList) ∘ fun l : List UInt8 => (⟨l.toArray⟩ : ByteArray)) = id := by funext l; simp
          rw [this]; simp
         have := Tryz.join_some b o c (ks.map fun l => (⟨l.toArray⟩ : ByteArray)) s w hcell (hF b hb) (by simpa using hl.1) (by simpa using hc) (by rw [hmap, hs]; exact hl.2)
         rw [hmap, hs, List.length_map] at this
         exact this.mono fun e w' h => hfin e w' h
     · cases hv'
   · cases hv'
 · cases hv'
theorem cY (W0 : World) : iL W0 222 qW := by
 intro args v hv'
 unfold qW at hv'
 split at hv'
 · rename_i a b
   cases hv'
   refine ⟨⟨Tryz.f222, Tryz.func222, by kernel_rfl, by kernel_rfl⟩, fun w F us hB hF hu => ?_⟩
   obtain ⟨us⟩ := us
   change RVs w F zI us _ at hu
   cases hu with
   | cons h1 h2 =>
   cases h2 with
   | cons h2 h3 =>
   cases h3
   obtain ⟨s1, rfl, hs1⟩ := tD h1
   obtain ⟨s2, rfl, hs2⟩ := tD h2
   refine (Tryz.VU s1 s2 w).mono fun e w' h => ?_
   obtain ⟨rfl, rfl⟩ := h
   rw [hs1, hs2]
   exact ⟨_, F, rfl, .t _ _ (.int _ _), hF, Nxt.refl _ _ _ _⟩
 · cases hv'
theorem bg (w : World) (k : Nat) (os : Array Obj) : Go.RowKit.Below w.heap.size w (Go.Sort.grow (w.drewN k) os) :=
 ⟨rfl, rfl, rfl, by simp [Go.Sort.grow], fun b hb => by simp [Go.Sort.grow, Array.getElem?_append_left hb]⟩
theorem VG {W0 w : World} {F : Nat → Prop} {n : String} {k : IntKind} {zs : List Int} (hB : wm W0 w F) (h : Lib.TabIs Tryz.prog W0 n k zs) : Lib.TabIs Tryz.prog w n k zs := by
 unfold Lib.TabIs World.var? at *
 cases hg : Tryz.prog.globalNamed n with
 | none => simp [hg] at h
 | some g =>
  simp only [hg, Option.bind_some] at h ⊢
  have hlt : g < W0.heap.size := by
   refine Nat.lt_of_not_le fun hc => ?_
   rw [Array.getElem?_eq_none hc] at h
   cases h
  rw [hB.heap g hlt]
  exact h
theorem Ro (W0 : World) (hT : Lib.TabIs Tryz.prog W0 "internal/strconv.uint64pow10" .u64 Lib.pow10Tab) : iL W0 299 YF := by
 intro args v hv'
 unfold YF at hv'
 split at hv'
 · rename_i n
   split at hv'
   · rename_i hn
     cases hv'
     refine ⟨⟨Tryz.f299, Tryz.func299, by kernel_rfl, by kernel_rfl⟩, fun w F us hB hF hu => ?_⟩
     obtain ⟨us⟩ := us
     change RVs w F zI us _ at hu
     cases hu with
     | cons h1 h2 =>
     cases h2
     cases h1 with
     | t _ _ h1 =>
     cases h1
     refine (Tryz.itoa n hn.1 hn.2 w (VG hB hT)).mono fun e w' h => ?_
     obtain ⟨rfl, k, os, rfl⟩ := h
     obtain ⟨k1, k2⟩ := vw (bg w k os) hF
     exact ⟨_, F, rfl, .t _ _ (.str _ _ (by simp)), k1, k2⟩
   · cases hv'
 · cases hv'
theorem fU {W0 w : World} {F : Nat → Prop} {n : String} {cs : Array Value} (hB : wm W0 w F) (h : W0.var? Tryz.prog n = some cs) : w.var? Tryz.prog n = some cs := by
 unfold World.var? at *
 cases hg : Tryz.prog.globalNamed n with
 | none => simp [hg] at h
 | some g =>
  simp only [hg, Option.bind_some] at h ⊢
  have hlt : g < W0.heap.size := by
   refine Nat.lt_of_not_le fun hc => ?_
   rw [Array.getElem?_eq_none hc] at h
   cases h
  rw [hB.heap g hlt]
  exact h
theorem ar {w : World} {F : Nat → Prop} {ρ : zV} {u1 u2 : Value} {x1 x2 : T} (h1 : RT w F u1 x1) (h2 : RT w F u2 x2) : RV w F ρ (.tuple #[u1, u2]) (.tup [.t x1, .t x2]) := by
 refine .tup _ _ (fun j => if j = 0 then u1 else u2) rfl (fun j hj => ?_) fun j x hj => ?_
 · match j, hj with
   | 0, _ => rfl
   | 1, _ => rfl
 · match j, hj with
   | 0, hj => cases hj; exact .t _ _ h1
   | 1, hj => cases hj; exact .t _ _ h2
   | j + 2, hj => simp at hj
theorem Q9 (W0 : World) (hS : ∃ tp p, W0.var? Tryz.prog "strconv.ErrSyntax" = some #[.iface tp p]) (hR : ∃ tp p, W0.var? Tryz.prog "strconv.ErrRange" = some #[.iface tp p]) : iL W0 242 YP := by
 intro args v hv'
 unfold YP at hv'
 split at hv'
 · rename_i l
   split at hv'
   · rename_i hl
     refine ⟨⟨Tryz.f242, Tryz.func242, by kernel_rfl, by kernel_rfl⟩, fun w F us hB hF hu => ?_⟩
     obtain ⟨us⟩ := us
     change RVs w F zI us _ at hu
     cases hu with
     | cons h1 h2 =>
     cases h2
     obtain ⟨s, rfl, hs⟩ := tD h1
     have hsz : s.size ≤ 281474976710656 := by
      have : s.data.toList.length = s.size := by simp
      rw [hs] at this
      omega
     obtain ⟨tS, pS, hS⟩ := hS
     obtain ⟨tR, pR, hR⟩ := hR
     split at hv'
     · rename_i n hn
       cases hv'
       refine (Tryz.Q8 s hsz n (by rw [hs]; exact hn) w).mono fun e w' h => ?_
       obtain ⟨rfl, hb⟩ := h
       obtain ⟨k1, k2⟩ := vw hb hF
       exact ⟨_, F, rfl, ar (.int _ _) .nili, k1, k2⟩
     · rename_i hn
       cases hv'
       refine (Tryz.US s hsz (by rw [hs]; exact hn) tS pS w (fU hB hS)).mono fun e w' h => ?_
       obtain ⟨t, z, rfl, hb⟩ := h
       obtain ⟨k1, k2⟩ := vw hb hF
       exact ⟨_, F, rfl, ar (.int _ _) (.nni t z), k1, k2⟩
     · rename_i hn
       cases hv'
       refine (Tryz.UT s hsz (by rw [hs]; exact hn) tR pR w (fU hB hR)).mono fun e w' h => ?_
       obtain ⟨t, z, rfl, hb⟩ := h
       obtain ⟨k1, k2⟩ := vw hb hF
       rw [hs]
       exact ⟨_, F, rfl, ar (.int _ _) (.nni t z), k1, k2⟩
   · cases hv'
 · cases hv'
theorem jJ {W0 w : World} {F : Nat → Prop} {a : Addr} {v : Value} (hB : wm W0 w F) (h : W0.cell? a = some v) : w.cell? a = some v := by
 have hlt : a.block < W0.heap.size := by
  refine Nat.lt_of_not_le fun hc => ?_
  simp [World.cell?, Array.getElem?_eq_none hc] at h
 unfold World.cell? at h ⊢
 rw [hB.heap _ hlt]
 exact h
theorem fe (w : World) (n : Nat) : Go.RowKit.Below w.heap.size w (w.drewN n) := ⟨rfl, rfl, rfl, Nat.le_refl _, fun _ _ => rfl⟩
theorem VX {w : World} {F : Nat → Prop} {ρ : zV} {u1 u2 u3 : Value} {x1 x2 x3 : T} (h1 : RT w F u1 x1) (h2 : RT w F u2 x2) (h3 : RT w F u3 x3) : RV w F ρ (.tuple #[u1, u2, u3]) (.tup [.t x1, .t x2, .t x3]) := by
 refine .tup _ _ (fun j => if j = 0 then u1 else if j = 1 then u2 else u3) rfl (fun j hj => ?_) fun j x hj => ?_
 · match j, hj with
   | 0, _ => rfl
   | 1, _ => rfl
   | 2, _ => rfl
 · match j, hj with
   | 0, hj => cases hj; exact .t _ _ h1
   | 1, hj => cases hj; exact .t _ _ h2
   | 2, hj => cases hj; exact .t _ _ h3
   | j + 3, hj => simp at hj
theorem Pb (W0 : World) (hM : ∃ m, W0.cell? ⟨Tryz.uT.g 1, 0, none⟩ = some (.int .i64 m)) : iL W0 161 Qo := by
 intro args v hv'
 unfold Qo at hv'
 split at hv'
 · rename_i l lsep
   split at hv'
   · rename_i hl
     cases hv'
     refine ⟨⟨Tryz.f161, Tryz.func161, by kernel_rfl, by kernel_rfl⟩, fun w F us hB hF hu => ?_⟩
     obtain ⟨us⟩ := us
     change RVs w F zI us _ at hu
     cases hu with
     | cons h1 h2 =>
     cases h2 with
     | cons h2 h3 =>
     cases h3
     obtain ⟨s, rfl, hs⟩ := tD h1
     obtain ⟨sep, rfl, hsep⟩ := tD h2
     have hsz : s.size < 4294967281 := by
      have : s.data.toList.length = s.size := by simp
      rw [hs] at this
      omega
     obtain ⟨m, hM⟩ := hM
     refine (Any.strings_Cut { Tryz.eS with } s sep m w hsz (jJ hB hM)).mono fun e w' h => ?_
     rw [hs, hsep] at h
     obtain ⟨rfl, n, rfl⟩ := h
     obtain ⟨k1, k2⟩ := vw (fe w n) hF
     exact ⟨_, F, rfl, VX (.str _ _ (by simp)) (.str _ _ (by simp)) (.bool _), k1, k2⟩
   · cases hv'
 · cases hv'
end Go.Proofs.YtijninlbpifonaaGreatDoor
/- What strings.Split answers, as the evaluator takes it. Conditions: those of each lemma. -/
namespace Go.Proofs.YtijninlbpifonaaGreatDoor
open E
set_option linter.unusedSimpArgs false
set_option linter.unusedVariables false
set_option maxRecDepth 100000
/-- a row of texts laid behind all -/
theorem Xh (w : World) (F : Nat → Prop) (hF : ∀ b, F b → b < w.heap.size) (t : TypeId) (ps : List ByteArray) (n : Nat) (hn : ps.length = n) :
 RT (w.alloc (.cells (ps.map Value.string).toArray t)) (fun b => F b ∨ b = w.heap.size) (.slice (some ⟨w.heap.size, 0, none⟩) n n) (.list 1 (strs (ps.map (·.data.toList)))) := by
 have hcell : ∀ j, j < ps.length → (w.alloc (.cells (ps.map Value.string).toArray t)).cell? ⟨w.heap.size, j, none⟩ = some (.string (ps.getD j ByteArray.empty)) := fun j hj => by
  have ha : (w.alloc (.cells (ps.map Value.string).toArray t)).heap = w.heap.push (.cells (ps.map Value.string).toArray t) := rfl
  unfold World.cell?
  rw [ha]
  simp [hj, List.getD]
 generalize w.alloc (.cells (ps.map Value.string).toArray t) = w1 at *
 refine RT.list (F := fun b => F b ∨ b = w.heap.size) (some ⟨w.heap.size, 0, none⟩) n n 1 (strs (ps.map (·.data.toList))) (fun i _ => .string (ps.getD i ByteArray.empty)) (by rw [zj, List.length_map]; exact hn) (Nat.le_refl _) (fun _ => ⟨w.heap.size, 0, rfl, Or.inr rfl, fun i j hi hj => ?_⟩) (fun e he => ?_) fun i j cs x hi hj => ?_
 · obtain rfl : j = 0 := by omega
   rw [show 0 + (i * 1 + 0) = i by omega]
   exact hcell i (by omega)
 · simp only [strs, List.mem_map] at he
   obtain ⟨a, _, rfl⟩ := he
   rfl
 · simp only [strs, List.map_map, List.getElem?_map, Option.map_eq_some_iff] at hi
   obtain ⟨a, ha, rfl⟩ := hi
   match j, hj with
   | 0, hj =>
    simp [Function.comp] at hj
    subst hj
    have : ps.getD i ByteArray.empty = a := by simp [List.getD, ha]
    rw [this]
    exact .str _ _ rfl
   | j + 1, hj => simp at hj
theorem Xd (w : World) (F : Nat → Prop) (hF : ∀ b, F b → b < w.heap.size) (o : Obj) : (∀ b, (F b ∨ b = w.heap.size) → b < (w.alloc o).heap.size) ∧ Nxt (own fun b => w.heap.size ≤ b) w F zI (w.alloc o) (fun b => F b ∨ b = w.heap.size) zI := by
 have ha : (w.alloc o).heap = w.heap.push o := rfl
 have hsz : (w.alloc o).heap.size = w.heap.size + 1 := by rw [ha, Array.size_push]
 have hold : ∀ b, b < w.heap.size → (w.alloc o).heap[b]? = w.heap[b]? := fun b hb => by
  rw [ha, Array.getElem?_push_lt hb, Array.getElem?_eq_getElem hb]
 refine ⟨fun b hb => ?_, rfl, rfl, rfl, by omega, fun b hb _ => hold b hb, fun b hb => hold b (hF b hb), fun _ hb => .inl hb, fun b hb => ?_, Ext.refl _, fun _ _ => rfl⟩
 · rcases hb with hb | rfl
   · have := hF b hb; omega
   · omega
 · rcases hb with hb | rfl
   · exact .inl hb
   · exact .inr (Nat.le_refl _)
theorem VK (W0 : World) (hM : ∃ m, W0.cell? ⟨Tryz.uS.g 1, 0, none⟩ = some (.int .i64 m)) : iL W0 162 gq := by
 intro args v hv'
 unfold gq at hv'
 split at hv'
 · rename_i l lsep
   split at hv'
   · rename_i hl
     cases hv'
     refine ⟨⟨Tryz.f162, Tryz.func162, by kernel_rfl, by kernel_rfl⟩, fun w F us hB hF hu => ?_⟩
     obtain ⟨us⟩ := us
     change RVs w F zI us _ at hu
     cases hu with
     | cons h1 h2 =>
     cases h2 with
     | cons h2 h3 =>
     cases h3
     obtain ⟨s, rfl, hs⟩ := tD h1
     obtain ⟨sep, rfl, hsep⟩ := tD h2
     have hsz : s.size < 4294967281 := by
      have : s.data.toList.length = s.size := by simp
      rw [hs] at this
      omega
     have hsp : 1 ≤ sep.size := by
      have : sep.data.toList.length = sep.size := by simp
      rw [hsep] at this
      omega
     obtain ⟨m, hM⟩ := hM
     refine (Any.strings_Split { Tryz.eR with } Tryz.eR.i9 s sep m w hsz (jJ hB hM) hsp).mono fun e w' h => ?_
     have es : (⟨l.toArray⟩ : ByteArray) = s := by rw [← hs]
     have esep : (⟨lsep.toArray⟩ : ByteArray) = sep := by rw [← hsep]
     have hlen := Lib.splitB_all sep hsp 0 (Lib.countB s sep) s rfl
     unfold lJ
     rw [es, esep]
     obtain ⟨rfl, rfl⟩ := h
     generalize Lib.splitB sep 0 (Lib.countB s sep) s = ps at *
     generalize Lib.countB s sep = n at *
     obtain ⟨k1, k2⟩ := Xd w F hF (.cells (ps.map Value.string).toArray (Tryz.uS.t 9))
     exact ⟨_, fun b => F b ∨ b = w.heap.size, rfl, .t _ _ (Xh w F hF _ ps (n + 1) hlen), k1, k2⟩
   · cases hv'
 · cases hv'
end Go.Proofs.YtijninlbpifonaaGreatDoor
/- slices.Sort at texts, by the kit's own contract: on rows. Conditions: those of each lemma. -/
namespace Go.Proofs.YtijninlbpifonaaGreatDoor
open E
set_option linter.unusedSimpArgs false
set_option linter.unusedVariables false
set_option maxRecDepth 100000
def xH (ks : List Str) : List Str := ks.mergeSort fun x y => decide (x ≤ y)
theorem rW (ks : List Str) : (xH ks).Perm ks := List.mergeSort_perm _ _
theorem kF (ks : List Str) : (xH ks).length = ks.length := (rW ks).length_eq
def Yz (args : List V) (h : Heap) : Option (V × Heap) :=
 match args, h with
 | [.sl 0 0 n cap], [.ts 1 es] => match strsOf es with
  | some ks => if n = ks.length ∧ ks.length ≤ 1073741824 then some (.tup [], [.ts 1 (strs (xH ks))]) else none
  | none => none
 | _, _ => none
variable {w : World} {F : Nat → Prop} {ρ : zV} {Ow : Own} {h : Heap}
theorem sq (hS : St w F ρ Ow h) {w' : World} (h1 : w'.os = w.os) (h2 : w'.tape = w.tape) (h3 : w'.output = w.output) (h4 : w.heap.size ≤ w'.heap.size) (h5 : ∀ b, b < w.heap.size → w'.heap[b]? = w.heap[b]?) : St w' F ρ Ow h ∧ Nxt Ow w F ρ w' F ρ := by
 have hN : Nxt Ow w F ρ w' F ρ := ⟨h1, h2, h3, h4, fun b hb _ => h5 b hb, fun b hb => h5 b (hS.fsz b hb), fun _ x => x, fun _ x => .inl x, Ext.refl _, fun _ _ => rfl⟩
 refine ⟨hS.next hN hS.out (fun b hb => Nat.lt_of_lt_of_le (hS.fsz b hb) h4) (fun r b hr => .inl ⟨hr, fun L hL hw => ⟨h5 _ ((hS.blk r b hr).wW hw hL).2.2, ((hS.blk r b hr).wW hw hL).1⟩⟩)
  (hS.owned hN (fun b _ hF hlt _ => ⟨h5 b hlt, hF⟩) (fun r i j x ho => ⟨ho, fun L u hL hu => ?_⟩) fun r b L hr hw hL => .inr (hS.same (Ext.refl _) hr hw hL)), hN⟩
 obtain ⟨c, el', fr, q1, q2⟩ := hu
 exact ⟨c, el', fr, (h5 _ (Array.getElem?_eq_some_iff.1 q1).1).trans q1, q2⟩
theorem Tryz.cH (p : Option Addr) (cap : Nat) (w : World) : Calls Tryz.prog 126 #[.slice p 0 cap] w fun e w' => e = .returned (.tuple #[]) ∧ w' = w := Any.slices_Sort_string_none Tryz.Zy p cap w
theorem Tryz.ssort (blk off cap : Nat) (ss : List (List UInt8)) (w : World) (hH : Go.Sort.Holds encStr w blk off ss.toArray) (hblk : blk < w.heap.size) (hsz : ss.length < 4611686018427387904) :
 Calls Tryz.prog 126 #[.slice (some ⟨blk, off, none⟩) ss.length cap] w fun e w' =>
  e = .returned (.tuple #[]) ∧ ∃ n os, w' = Go.Sort.grow (Go.Sort.putRow encStr (Go.Sort.ahead w n) blk off (ss.mergeSort fun x y => decide (x ≤ y)).toArray) os := Any.slices_Sort_string Tryz.Zy blk off cap ss w hH hblk hsz
theorem SN (W0 : World) : tI Tryz.prog W0 126 Yz := by
 intro args h v h' hv
 unfold Yz at hv
 split at hv
 · rename_i n cap es
   split at hv
   · rename_i ks hks
     split at hv
     · rename_i hn
       obtain ⟨hn, hlim⟩ := hn
       cases hv
       obtain rfl := uB hks
       refine ⟨⟨Tryz.f126, Tryz.func126, by kernel_rfl, by kernel_rfl⟩, fun Ow w F ρ us hB hS hO hu => ?_⟩
       obtain ⟨us⟩ := us
       change RVs w F ρ us _ at hu
       cases hu with
       | cons h1 h2 =>
       cases h2
       subst hn
       have htup' : ∀ {w' : World}, RV w' F ρ (.tuple #[]) (.tup []) := .tup _ _ (fun _ => undef) rfl (fun j hj => by simp at hj) fun j x hj => by simp at hj
       have htup : RV w F ρ (.tuple #[]) (.tup []) := htup'
       have none_case : ks = [] → ∀ (a : Option Addr) (c : Nat), Calls Tryz.prog 126 #[.slice a 0 c] w fun e w' => ∃ u F' ρ', e = .returned u ∧ RV w' F' ρ' u (.tup []) ∧ St w' F' ρ' Ow [.ts 1 (strs (xH ks))] ∧ Nxt Ow w F zI w' F' zI ∧ ∀ r l, r < 1 → ρ r = some l → ρ' r = some l := fun hk a c => by
        subst hk
        refine (Tryz.cH a c w).mono fun e w' hp => ?_
        obtain ⟨rfl, rfl⟩ := hp
        exact ⟨_, F, ρ, rfl, htup, by rw [show xH [] = [] by simp [xH]]; exact hS, Nxt.refl _ _ _ _, fun _ _ _ hl => hl⟩
       generalize hkl : ks.length = kl at h1
       cases h1 with
       | slP r cap a hρ hc => exact none_case (List.eq_nil_of_length_eq_zero hkl) a 0
       | sl r off len cap L a c hρ ha hl hnn hc0 hc1 hz =>
        by_cases hk0 : ks = []
        · subst hk0
          simp at hkl
          subst hkl
          exact none_case rfl a c
        · have hpos : 0 < ks.length := by cases ks with | nil => exact absurd rfl hk0 | cons x r => simp
          have hcne : c ≠ 0 := by omega
          obtain rfl := ha.resolve_right hcne
          rcases hS.blk 0 _ rfl with ⟨L', q1, q2, q3, q4, q5⟩ | ⟨q1, q2⟩
          · rw [q1] at hρ; cases hρ
            have hrow := q3
            obtain ⟨e1, e2, cc, el, fr, e3, e4, e5, e6, e7⟩ := q3
            rw [zj] at e1
            have hlt : L.b < w.heap.size := (Array.getElem?_eq_some_iff.1 e3).1
            have hcell : ∀ j (hj : j < ks.length), cc[L.o + j]? = some (encStr ks[j]) := fun j hj => by
             obtain ⟨u, hu, hr⟩ := e7 j 0 [.str ks[j]] (.str ks[j]) (yG ks j hj) rfl
             rw [q2, show L.o + (j * 1 + 0) = L.o + j by omega] at hu
             rw [hu]
             cases hr with
             | str s _ hs =>
              show some (Value.string s) = some (Value.string ⟨ks[j].toArray⟩)
              rw [← hs]
            have hzz : L.o + L.n ≤ L.z := by rw [q2, Nat.mul_one] at e6; exact e6
            have hH : Go.Sort.Holds encStr w L.b L.o ks.toArray := fun j hj => by
             have hj' : j < ks.length := by simpa using hj
             have hlen : L.o + j < cc.size := by rw [e4]; omega
             have hx := hcell j hj'
             refine ⟨?_, ?_⟩
             · unfold World.cell?
               rw [e3]
               simp [hx, hj']
             · unfold World.frozen?
               rw [e3]
               have := e5 (L.o + j) hlen
               simp only [decide_eq_false_iff_not, Bool.and_eq_false_iff, not_and, Nat.not_lt] at this ⊢
               first | exact this | simpa using this | (simp; omega)
            have hslen := kF ks
            refine Calls.mono (by
             have := Tryz.ssort L.b L.o c ks w hH hlt (by omega)
             rw [hkl] at this
             rw [show L.o + 0 * L.sz = L.o by omega]
             exact this) fun e w' hp => ?_
            obtain ⟨rfl, q, os, hw'⟩ := hp
            change w' = Go.Sort.grow (Go.Sort.putRow encStr (Go.Sort.ahead w q) L.b L.o (xH ks).toArray) os at hw'
            rw [Lib.putRow_eq_setCells encStr w L.b L.o ks.toArray (xH ks) q hH (by rw [hslen]; simp)] at hw'
            obtain ⟨hS1, hN1⟩ := sq (w' := w.drewN q) hS rfl rfl rfl (Nat.le_refl _) (fun _ _ => rfl)
            have hfit : L.o + ((xH ks).map encStr).length ≤ cc.size := by rw [List.length_map, hslen, e4]; omega
            obtain ⟨c', k1, k2, k3⟩ := yD ((xH ks).map encStr) L.b L.o (w.drewN q) cc el fr e3 hfit
            obtain ⟨hS2, hN2⟩ := si (blk := .ts 1 (strs (xH ks))) hS1 (r := 0) rfl rfl q1 L.o ((xH ks).map encStr) (fun hN => .inl ⟨L, q1, q2, ⟨by rw [zj, hslen]; exact e1, fun e he => by
             simp only [strs, List.mem_map] at he
             obtain ⟨x, _, rfl⟩ := he
             exact q2.symm, c', el, fr, k1, by rw [k2, e4], fun k hk => e5 k (by rw [← k2]; exact hk), e6, fun i j cs x hi hj => by
              have hil := (List.getElem?_eq_some_iff.1 hi).1
              rw [zj] at hil
              rw [yG (xH ks) i hil] at hi
              cases hi
              match j, hj with
              | 0, hj =>
               cases hj
               refine ⟨encStr (xH ks)[i], ?_, .str _ _ (by simp)⟩
               rw [q2, show L.o + (i * 1 + 0) = L.o + i by omega, k3, if_pos ⟨by omega, by rw [List.length_map]; omega⟩, show L.o + i - L.o = i by omega]
               simp [hil]
              | j + 1, hj => simp at hj⟩, q4, q5⟩) (fun i j x ho => by
             obtain ⟨sz, es, cs, h1, _⟩ := ho
             simp at h1)
            obtain ⟨hS3, hN3⟩ := sq (w' := w') hS2 (by rw [hw']; rfl) (by rw [hw']; rfl) (by rw [hw']; rfl) (by rw [hw']; simp [Go.Sort.grow]) (fun b hb => by rw [hw']; simp only [Go.Sort.grow]; rw [Array.getElem?_append_left hb])
            exact ⟨_, F, ρ, rfl, htup', hS3, ((hN1.trans hN2).trans hN3).forget (Ext.refl _), fun _ _ _ hl => hl⟩
          · have : ks = [] := by
             have := congrArg List.length q2
             rw [zj] at this
             exact List.eq_nil_of_length_eq_zero this
            exact absurd this hk0
     · cases hv
   · cases hv
 · cases hv
end Go.Proofs.YtijninlbpifonaaGreatDoor
/- Rows of texts written anew by the library: slices.Compact by the kit's own contract. Conditions: those of each lemma. -/
namespace Go.Proofs.YtijninlbpifonaaGreatDoor
open E
set_option linter.unusedSimpArgs false
set_option linter.unusedVariables false
set_option maxRecDepth 100000
section
variable {w : World} {F : Nat → Prop} {ρ : zV} {Ow : Own} {h : Heap}
/-- a row of texts, as the library's contracts want it, and what is left where other texts are put there -/
theorem Z6 {ks : List Str} (hS : St w F ρ Ow [.ts 1 (strs ks)]) (hk0 : ks ≠ []) {L : E.Loc} (hρ : ρ 0 = some (some L)) :
 Go.Sort.Holds encStr w L.b L.o ks.toArray ∧ L.b < w.heap.size ∧ L.sz = 1 ∧ L.n = ks.length ∧ ¬ F L.b ∧
 ∀ (ys : List Str) (q : Nat) (os : Array Obj) (w' : World), ys.length = ks.length → w' = Go.Sort.grow ((w.drewN q).setCells L.b L.o (ys.map encStr)) os → St w' F ρ Ow [.ts 1 (strs ys)] ∧ Nxt Ow w F zI w' F zI := by
 rcases hS.blk 0 _ rfl with ⟨L', q1, q2, q3, q4, q5⟩ | ⟨q1, q2⟩
 · rw [q1] at hρ; cases hρ
   have hrow := q3
   obtain ⟨e1, e2, cc, el, fr, e3, e4, e5, e6, e7⟩ := q3
   rw [zj] at e1
   have hlt : L.b < w.heap.size := (Array.getElem?_eq_some_iff.1 e3).1
   have hcell : ∀ j (hj : j < ks.length), cc[L.o + j]? = some (encStr ks[j]) := fun j hj => by
    obtain ⟨u, hu, hr⟩ := e7 j 0 [.str ks[j]] (.str ks[j]) (yG ks j hj) rfl
    rw [q2, show L.o + (j * 1 + 0) = L.o + j by omega] at hu
    rw [hu]
    cases hr with
    | str s _ hs =>
     show some (Value.string s) = some (Value.string ⟨ks[j].toArray⟩)
     rw [← hs]
   have hzz : L.o + L.n ≤ L.z := by rw [q2, Nat.mul_one] at e6; exact e6
   have hH : Go.Sort.Holds encStr w L.b L.o ks.toArray := fun j hj => by
    have hj' : j < ks.length := by simpa using hj
    have hlen : L.o + j < cc.size := by rw [e4]; omega
    have hx := hcell j hj'
    refine ⟨?_, ?_⟩
    · unfold World.cell?
      rw [e3]
      simp [hx, hj']
    · unfold World.frozen?
      rw [e3]
      have := e5 (L.o + j) hlen
      simp only [decide_eq_false_iff_not, Bool.and_eq_false_iff, not_and, Nat.not_lt] at this ⊢
      first | exact this | simpa using this | (simp; omega)
   refine ⟨hH, hlt, q2, e1.symm, q4, fun ys q os w' hys hw' => ?_⟩
   obtain ⟨hS1, hN1⟩ := sq (w' := w.drewN q) hS rfl rfl rfl (Nat.le_refl _) (fun _ _ => rfl)
   have hfit : L.o + (ys.map encStr).length ≤ cc.size := by rw [List.length_map, hys, e4]; omega
   obtain ⟨c', k1, k2, k3⟩ := yD (ys.map encStr) L.b L.o (w.drewN q) cc el fr e3 hfit
   obtain ⟨hS2, hN2⟩ := si (blk := .ts 1 (strs ys)) hS1 (r := 0) rfl rfl q1 L.o (ys.map encStr) (fun hN => .inl ⟨L, q1, q2, ⟨by rw [zj, hys]; exact e1, fun e he => by
    simp only [strs, List.mem_map] at he
    obtain ⟨x, _, rfl⟩ := he
    exact q2.symm, c', el, fr, k1, by rw [k2, e4], fun k hk => e5 k (by rw [← k2]; exact hk), e6, fun i j cs x hi hj => by
     have hil := (List.getElem?_eq_some_iff.1 hi).1
     rw [zj] at hil
     rw [yG ys i hil] at hi
     cases hi
     match j, hj with
     | 0, hj =>
      cases hj
      refine ⟨encStr ys[i], ?_, .str _ _ (by simp)⟩
      rw [q2, show L.o + (i * 1 + 0) = L.o + i by omega, k3, if_pos ⟨by omega, by rw [List.length_map]; omega⟩, show L.o + i - L.o = i by omega]
      simp [hil]
     | j + 1, hj => simp at hj⟩, q4, q5⟩) (fun i j x ho => by
    obtain ⟨sz, es, cs, h1, _⟩ := ho
    simp at h1)
   obtain ⟨hS3, hN3⟩ := sq (w' := w') hS2 (by rw [hw']; rfl) (by rw [hw']; rfl) (by rw [hw']; rfl) (by rw [hw']; simp [Go.Sort.grow]) (fun b hb => by rw [hw']; simp only [Go.Sort.grow]; rw [Array.getElem?_append_left hb])
   exact ⟨hS3, ((hN1.trans hN2).trans hN3).forget (Ext.refl _)⟩
 · have : ks = [] := by
    have := congrArg List.length q2
    rw [zj] at this
    exact List.eq_nil_of_length_eq_zero this
   exact absurd this hk0
end
/-- neighbours that are one are one text; the rest of the row is emptied -/
def vY (ks : List Str) : List Str := Lib.compact ks ++ List.replicate (ks.length - (Lib.compact ks).length) []
theorem qi (ks : List Str) : (Lib.compact ks).length ≤ ks.length := by
 unfold Lib.compact Lib.compactUpTo
 rw [List.length_map]
 exact Nat.le_trans (List.length_filter_le _ _) (by simp)
theorem pV (ks : List Str) : (vY ks).length = ks.length := by
 have := qi ks
 unfold vY
 simp only [List.length_append, List.length_replicate]; omega
def YK (args : List V) (h : Heap) : Option (V × Heap) :=
 match args, h with
 | [.sl 0 0 n cap], [.ts 1 es] => match strsOf es with
  | some ks => if n = ks.length ∧ ks.length ≤ 1073741824 then some (.sl 0 0 (Lib.compact ks).length cap, [.ts 1 (strs (vY ks))]) else none
  | none => none
 | _, _ => none
theorem Tryz.VV (blk off cap : Nat) (zs : List (List UInt8)) (w : World) (hH : Go.Sort.Holds encStr w blk off zs.toArray) (hsz : zs.length ≤ 9223372036854775807) (hcap : zs.length ≤ cap) :
 Calls Tryz.prog 199 #[.slice (some ⟨blk, off, none⟩) zs.length cap] w fun e w' => e = .returned (.slice (some ⟨blk, off, none⟩) (Lib.compact zs).length cap) ∧ ∃ q, w' = Go.Sort.putRow encStr (Go.Sort.ahead w q) blk off (Lib.compact zs ++ List.replicate (zs.length - (Lib.compact zs).length) []).toArray := Any.slices_Compact_string Tryz.Zx blk off cap zs w hH hsz hcap
theorem Tryz.lV (a : Option Addr) (cap : Nat) (w : World) : Calls Tryz.prog 199 #[.slice a 0 cap] w fun e w' => e = .returned (.slice a 0 cap) ∧ w' = w := Any.slices_Compact_string_empty Tryz.Zx a cap w
theorem RD (W0 : World) : tI Tryz.prog W0 199 YK := by
 intro args h v h' hv
 unfold YK at hv
 split at hv
 · rename_i n cap es
   split at hv
   · rename_i ks hks
     split at hv
     · rename_i hn
       obtain ⟨hn, hlim⟩ := hn
       cases hv
       obtain rfl := uB hks
       refine ⟨⟨Tryz.f199, Tryz.func199, by kernel_rfl, by kernel_rfl⟩, fun Ow w F ρ us hB hS hO hu => ?_⟩
       obtain ⟨us⟩ := us
       change RVs w F ρ us _ at hu
       cases hu with
       | cons h1 h2 =>
       cases h2
       subst hn
       have none_case : ks = [] → ∀ (a : Option Addr) (c : Nat), RV w F ρ (.slice a 0 c) (.sl 0 0 0 cap) → Calls Tryz.prog 199 #[.slice a 0 c] w fun e w' => ∃ u F' ρ', e = .returned u ∧ RV w' F' ρ' u (.sl 0 0 (Lib.compact ks).length cap) ∧ St w' F' ρ' Ow [.ts 1 (strs (vY ks))] ∧ Nxt Ow w F zI w' F' zI ∧ ∀ r l, r < 1 → ρ r = some l → ρ' r = some l := fun hk a c hrv => by
        subst hk
        refine (Tryz.lV a c w).mono fun e w' hp => ?_
        obtain ⟨rfl, rfl⟩ := hp
        exact ⟨_, F, ρ, rfl, hrv, hS, Nxt.refl _ _ _ _, fun _ _ _ hl => hl⟩
       generalize hkl : ks.length = kl at h1
       cases h1 with
       | slP r cap a hρ hc => exact none_case (List.eq_nil_of_length_eq_zero hkl) a 0 (.slP _ _ _ hρ hc)
       | sl r off len cap L a c hρ ha hl hnn hc0 hc1 hz =>
        by_cases hk0 : ks = []
        · subst hk0
          simp at hkl
          subst hkl
          exact none_case rfl a c (.sl _ _ _ _ L _ _ hρ ha hl hnn hc0 hc1 hz)
        · have hpos : 0 < ks.length := by cases ks with | nil => exact absurd rfl hk0 | cons x r => simp
          have hcne : c ≠ 0 := by omega
          obtain rfl := ha.resolve_right hcne
          obtain ⟨hH, hlt, q2, q3, _, hput⟩ := Z6 hS hk0 hρ
          have hcle := qi ks
          refine Calls.mono (by
           have := Tryz.VV L.b L.o c ks w hH (by omega) (by omega)
           rw [hkl] at this
           rw [show L.o + 0 * L.sz = L.o by omega]
           exact this) fun e w' hp => ?_
          obtain ⟨rfl, q, hw'⟩ := hp
          rw [← hkl] at hw'
          change w' = Go.Sort.putRow encStr (Go.Sort.ahead w q) L.b L.o (vY ks).toArray at hw'
          rw [Lib.putRow_eq_setCells encStr w L.b L.o ks.toArray (vY ks) q hH (by rw [pV]; simp)] at hw'
          obtain ⟨hS3, hN3⟩ := hput (vY ks) q #[] w' (pV ks) (by rw [hw']; simp)
          refine ⟨_, F, ρ, rfl, ?_, hS3, hN3, fun _ _ _ hl => hl⟩
          exact .sl 0 0 _ cap L _ c hρ (.inl (by rw [show L.o + 0 * L.sz = L.o by omega])) (by omega) (by omega) hc0 hc1 hz
     · cases hv
   · cases hv
 · cases hv
end Go.Proofs.YtijninlbpifonaaGreatDoor

/- Joined: E19 T1 T2 XL X1 X2 X3 X4 X6. Conditions: those of each lemma. -/
import Derived.Test.YtijninlbpifonaaGreatDoorUG
import Derived.Shelf.Strings.Builder1
import Derived.Shelf.Strings.Builder2
import Derived.Shelf.Strings.OnBuilder
import Derived.Shelf.Strings.Trim
import Derived.Shelf.Small.Utf8
import Derived.Shelf.Small.Bits
import Derived.Shelf.Small.Strs
import Derived.Shelf.Small.Wraps
import Derived.Shelf.Strings.BuilderF
import Derived.Shelf.Strings.BuilderK
import Derived.Shelf.Utf8.RuneCount
import Derived.Shelf.Strings.Builder2Cap
import Derived.Shelf.Strconv.Atoi
import Derived.Shelf.Strconv.Itoa0
import Derived.Shelf.Strconv.Itoa1
import Derived.Shelf.LaysM
import Derived.Shelf.Strconv.Itoa2
import Derived.Shelf.Strconv.Itoa3
import Derived.Shelf.Strconv.AtoiErrFast
import Derived.Shelf.Strconv.ParseIntEmpty
import Derived.Shelf.Strconv.AtoiFail
import Derived.Shelf.Strconv.Clone
import Derived.Shelf.Strconv.SyntaxError
import Derived.Shelf.LaysC
import Derived.Shelf.Strconv.ToError
import Derived.Shelf.Strconv.AtoiErr
import Derived.Shelf.Strconv.ErrVar
import Derived.Shelf.Strconv.Lower
import Derived.Shelf.Strconv.ParseUint10
import Derived.Shelf.Strconv.ParseUint10Empty
import Derived.Shelf.Strconv.ParseUint10Any
import Derived.Shelf.Strconv.ParseInt10
import Derived.Shelf.Strconv.AtoiLong
import Derived.Shelf.Strconv.AtoiInnerAll
import Derived.Shelf.Strconv.RangeError
import Derived.Shelf.Strconv.ToErrorRange
import Derived.Shelf.Strconv.AtoiAll
import Derived.Shelf.Strconv.ErrVarAll
import Derived.Shelf.Strconv.ParseUintEmpty
import Derived.Shelf.Strconv.ParseUint10b64
import Derived.Shelf.Strconv.ParseUint10b32
import Derived.Shelf.Strconv.ParseUint10b16
import Derived.Shelf.Strconv.ParseUint10b8
import Derived.Shelf.Strconv.ParseUint10At
import Derived.Shelf.Strconv.ParseInt10At64
import Derived.Shelf.Strconv.ParseInt10At32
import Derived.Shelf.Strconv.ParseInt10At16
import Derived.Shelf.Strconv.ParseInt10At8
import Derived.Shelf.Strconv.ParseInt10All
import Derived.Shelf.Strings.Search1
import Derived.Shelf.Strings.Search2
import Derived.Shelf.Strings.Search3
import Derived.Shelf.Strings.Cut
import Derived.Shelf.Strings.Count
import Derived.Shelf.Strings.Shaped
import Derived.Shelf.Sort.Plain
import Derived.Shelf.Strings.Prefix
import Derived.Shelf.Strings.Split
import Derived.Shelf.Strings.SplitShaped
import Derived.Shelf.Unicode.Decode
import Derived.Shelf.Strings.Runes
import Derived.Shelf.Strings.RuneCount
import Derived.Shelf.Strings.AsciiSet
import Derived.Shelf.Strings.Explode
import Derived.Shelf.Unicode.DecodeSlow
import Derived.Shelf.Unicode.DecodeAny
import Derived.Shelf.Strings.BuilderCap
import Derived.Shelf.Slices.Turned
import Derived.Shelf.Slices.Equal
import Derived.Ground.Names2Prog
import Derived.Shelf.Slices.Clone
import Derived.Shelf.Slices.CompactS
import Derived.Shelf.Slices.Cells
import Derived.Shelf.Slices.In.SortNone
import Derived.Shelf.Slices.Empties2
import Derived.Ground.SlgnProg
import Derived.Shelf.SlicesE.Clone
import Derived.Ground.SlsfProg
import Derived.Shelf.SlSortCmp.Insertion
import Derived.Shelf.SlSortCmp.SiftDown1
import Derived.Shelf.SlSortCmp.HeapSort1
import Derived.Shelf.SlSortCmp.Insertion1
import Derived.Shelf.SlSortCmp.Median1
import Derived.Shelf.SlSortCmp.Pivot1
import Derived.Shelf.SlSortCmp.ReverseRange1
import Derived.Shelf.SlSortCmp.PartialInsertion1
import Derived.Shelf.SlSortCmp.PartitionEqual1
import Derived.Shelf.SlSortCmp.Partition1
import Derived.Shelf.SlSortCmp.Pdq1
import Derived.Shelf.SlSortCmp.Whole1
import Derived.Shelf.SlSortCmp.NoneTotal
import Derived.Test.YtijninlbpifonaaGreatDoorProg
import Derived.Lib.SortBridge
set_option linter.unusedVariables false
set_option linter.unusedSimpArgs false
namespace Go.Proofs.YtijninlbpifonaaGreatDoor.E
set_option linter.unusedVariables false
set_option maxRecDepth 100000
theorem GP0 : type_of% @vX.eq_1 ∧ type_of% @vX.eq_2 ∧ type_of% @yv.eq_1 ∧ type_of% @yv.eq_2 ∧ type_of% @o9.eq_1 ∧ type_of% @o9.eq_2 ∧ type_of% @s8.eq_1 ∧ type_of% @s8.eq_2 ∧ type_of% @jM.eq_1 ∧ type_of% @jM.eq_2 ∧ type_of% @ren.rens.eq_1 ∧ type_of% @ren.rens.eq_2 ∧ type_of% @qB.eq_1 ∧ type_of% @qB.eq_2 ∧ type_of% @UD.eq_1 ∧ type_of% @yU.eq_1 ∧ type_of% @nI.eq_1 ∧ type_of% @nI.eq_2 ∧ type_of% @nH.eq_1 ∧ type_of% @nH.eq_2 ∧ type_of% @vc.eq_1 ∧ type_of% @vc.eq_2 ∧ type_of% @wy.eq_1 ∧ type_of% @wy.eq_2 ∧ type_of% @xb.eq_1 ∧ type_of% @yt.eq_1 ∧ type_of% @yu.eq_1 ∧ type_of% @xn.eq_1 ∧ type_of% @xV.eq_1 ∧ type_of% @nL.eq_1 ∧ type_of% @nL.eq_2 ∧ type_of% @hdL.eq_1 ∧ type_of% @hdL.eq_2 ∧ type_of% @yu.eq_2 ∧ type_of% @refs.refss.eq_1 ∧ type_of% @refs.refss.eq_2 ∧ type_of% @opv.eq_1 ∧ type_of% @opv.eq_2 ∧ type_of% @opv.eq_3 ∧ type_of% @opv.eq_4 ∧ type_of% @yo.eq_1 ∧ type_of% @yo.eq_2 ∧ type_of% @yo.eq_3 ∧ type_of% @r7.eq_1 ∧ type_of% @r7.eq_2 ∧ type_of% @Jb.eq_1 ∧ type_of% @pg.eq_1 ∧ type_of% @pg.eq_2 ∧ type_of% @yX.eq_1 ∧ type_of% @yX.eq_2 ∧ type_of% @yX.eq_3 ∧ type_of% @uY.eq_1 ∧ type_of% @fld.eq_1 ∧ type_of% @vS.eq_1 :=
 ⟨@vX.eq_1, @vX.eq_2, @yv.eq_1, @yv.eq_2, @o9.eq_1, @o9.eq_2, @s8.eq_1, @s8.eq_2, @jM.eq_1, @jM.eq_2, @ren.rens.eq_1, @ren.rens.eq_2, @qB.eq_1, @qB.eq_2, @UD.eq_1, @yU.eq_1, @nI.eq_1, @nI.eq_2, @nH.eq_1, @nH.eq_2, @vc.eq_1, @vc.eq_2, @wy.eq_1, @wy.eq_2, @xb.eq_1, @yt.eq_1, @yu.eq_1, @xn.eq_1, @xV.eq_1, @nL.eq_1, @nL.eq_2, @hdL.eq_1, @hdL.eq_2, @yu.eq_2, @refs.refss.eq_1, @refs.refss.eq_2, @opv.eq_1, @opv.eq_2, @opv.eq_3, @opv.eq_4, @yo.eq_1, @yo.eq_2, @yo.eq_3, @r7.eq_1, @r7.eq_2, @Jb.eq_1, @pg.eq_1, @pg.eq_2, @yX.eq_1, @yX.eq_2, @yX.eq_3, @uY.eq_1, @fld.eq_1, @vS.eq_1⟩
theorem GP1 : type_of% @uU.eq_1 ∧ type_of% @xH.eq_1 ∧ type_of% @uE.eq_1 ∧ type_of% @uE.eq_2 ∧ type_of% @uE.eq_3 ∧ type_of% @uE.eq_4 ∧ type_of% @uE.eq_5 ∧ type_of% @ghH.eq_1 ∧ type_of% @ghH.eq_2 ∧ type_of% @asArg.asArgs.eq_1 ∧ type_of% @asArg.asArgs.eq_2 ∧ type_of% @yl.snapVs.eq_1 ∧ type_of% @yl.snapVs.eq_2 ∧ type_of% @xl.eq_1 ∧ type_of% @xl.eq_2 ∧ type_of% @vG.eq_1 ∧ type_of% @vG.eq_2 ∧ type_of% @zc.flatVs.eq_1 ∧ type_of% @zc.flatVs.eq_2 ∧ type_of% @oU ∧ type_of% @yL.eq_1 ∧ type_of% @wB.eq_1 ∧ type_of% @yZ.eq_1 ∧ type_of% @oK.eq_1 ∧ type_of% @oK.eq_2 ∧ type_of% @o8.eq_1 ∧ type_of% @pd.eq_1 ∧ type_of% @jA.eq_1 ∧ type_of% @wg.eq_1 ∧ type_of% @wg.eq_2 ∧ type_of% @xm.eq_1 ∧ type_of% @xm.eq_2 ∧ type_of% @y9.eq_1 ∧ type_of% @app.eq_1 ∧ type_of% @kX.eq_1 ∧ type_of% @yz.gives.eq_1 ∧ type_of% @yz.gives.eq_2 ∧ type_of% @sM.eq_1 ∧ type_of% @fX.eq_1 ∧ type_of% @fX.eq_2 ∧ type_of% @wX.eq_1 ∧ type_of% @wX.eq_2 ∧ type_of% @wX.eq_3 ∧ type_of% @v8.eq_1 ∧ type_of% @v8.eq_2 ∧ type_of% @v8.eq_3 ∧ type_of% @v8.eq_4 ∧ type_of% @sP.eq_1 ∧ type_of% @sP.eq_2 ∧ type_of% @sP.eq_3 ∧ type_of% @yW.eq_1 :=
 ⟨@uU.eq_1, @xH.eq_1, @uE.eq_1, @uE.eq_2, @uE.eq_3, @uE.eq_4, @uE.eq_5, @ghH.eq_1, @ghH.eq_2, @asArg.asArgs.eq_1, @asArg.asArgs.eq_2, @yl.snapVs.eq_1, @yl.snapVs.eq_2, @xl.eq_1, @xl.eq_2, @vG.eq_1, @vG.eq_2, @zc.flatVs.eq_1, @zc.flatVs.eq_2, @oU, @yL.eq_1, @wB.eq_1, @yZ.eq_1, @oK.eq_1, @oK.eq_2, @o8.eq_1, @pd.eq_1, @jA.eq_1, @wg.eq_1, @wg.eq_2, @xm.eq_1, @xm.eq_2, @y9.eq_1, @app.eq_1, @kX.eq_1, @yz.gives.eq_1, @yz.gives.eq_2, @sM.eq_1, @fX.eq_1, @fX.eq_2, @wX.eq_1, @wX.eq_2, @wX.eq_3, @v8.eq_1, @v8.eq_2, @v8.eq_3, @v8.eq_4, @sP.eq_1, @sP.eq_2, @sP.eq_3, @yW.eq_1⟩
theorem GP2 : type_of% @yW.eq_2 ∧ type_of% @jI.eq_1 ∧ type_of% @tn.eq_1 ∧ type_of% @tn.eq_2 ∧ type_of% @mX ∧ type_of% @gg ∧ type_of% @pK_1 ∧ type_of% @pK_2 ∧ type_of% @idx_eq ∧ type_of% @fg ∧ type_of% @List.flatMap_nil.{0, 0} ∧ type_of% @List.flatMap_cons.{0, 0} ∧ type_of% @List.mem_cons.{0} ∧ type_of% @List.not_mem_nil.{0} ∧ type_of% @or_false ∧ type_of% @false_or ∧ type_of% @or_true ∧ type_of% @true_or ∧ type_of% @OPL ∧ type_of% @Option.toList_some.{0} ∧ type_of% @Option.toList_none.{0} ∧ type_of% @Wo ∧ type_of% @hX ∧ type_of% @hY ∧ type_of% @kv ∧ type_of% @ky ∧ type_of% @mi ∧ type_of% @jd ∧ type_of% @dF ∧ type_of% @dV ∧ type_of% @fy ∧ type_of% @fA ∧ type_of% @fB ∧ type_of% @kf ∧ type_of% @kg ∧ type_of% @kh ∧ type_of% @bG ∧ type_of% @bH ∧ type_of% @bI ∧ type_of% @Int.toNat_natCast ∧ type_of% @oF ∧ type_of% @ne_eq.{1} ∧ type_of% @List.isEmpty_nil.{0} ∧ type_of% @List.replicate_succ.{0} ∧ type_of% @List.replicate_zero.{0} ∧ type_of% @Nat.zero_mul ∧ type_of% @List.append_nil.{0} ∧ type_of% @oC :=
 ⟨@yW.eq_2, @jI.eq_1, @tn.eq_1, @tn.eq_2, @mX, @gg, @pK_1, @pK_2, @idx_eq, @fg, @List.flatMap_nil.{0, 0}, @List.flatMap_cons.{0, 0}, @List.mem_cons.{0}, @List.not_mem_nil.{0}, @or_false, @false_or, @or_true, @true_or, @OPL, @Option.toList_some.{0}, @Option.toList_none.{0}, @Wo, @hX, @hY, @kv, @ky, @mi, @jd, @dF, @dV, @fy, @fA, @fB, @kf, @kg, @kh, @bG, @bH, @bI, @Int.toNat_natCast, @oF, @ne_eq.{1}, @List.isEmpty_nil.{0}, @List.replicate_succ.{0}, @List.replicate_zero.{0}, @Nat.zero_mul, @List.append_nil.{0}, @oC⟩
theorem GP3 : type_of% @oE ∧ type_of% @iM ∧ type_of% @iN ∧ type_of% @iO ∧ type_of% @iP ∧ type_of% @ca ∧ type_of% @Option.map_some.{0, 0} ∧ type_of% @Option.map_none.{0, 0} ∧ type_of% @Option.bind_some.{0, 0} ∧ type_of% @Option.bind_none.{0, 0} ∧ type_of% @Option.getD_some.{0} ∧ type_of% @Option.getD_none.{0} ∧ type_of% @List.map_cons.{0, 0} ∧ type_of% @List.map_nil.{0, 0} ∧ type_of% @List.all_cons.{0} ∧ type_of% @List.all_nil.{0} ∧ type_of% @List.isEmpty_cons.{0} ∧ type_of% @List.length_nil.{0} ∧ type_of% @List.length_cons.{0} ∧ type_of% @List.nil_append.{0} ∧ type_of% @List.cons_append.{0} ∧ type_of% @List.getElem?_cons_zero.{0} ∧ type_of% @List.getElem?_cons_succ.{0} ∧ type_of% @List.set_cons_zero.{0} ∧ type_of% @List.set_cons_succ.{0} ∧ type_of% @List.drop_zero.{0} ∧ type_of% @List.drop_succ_cons.{0} ∧ type_of% @List.take_succ_cons.{0} ∧ type_of% @List.take_zero.{0} ∧ type_of% @List.drop_nil.{0} ∧ type_of% @List.take_nil.{0} ∧ type_of% @List.toList_toArray.{0} ∧ type_of% @Bool.and_true ∧ type_of% @Bool.not_true ∧ type_of% @Bool.not_false ∧ type_of% @Bool.false_or ∧ type_of% @Bool.or_false ∧ type_of% @Bool.or_true ∧ type_of% @Bool.true_or ∧ type_of% @Bool.and_false ∧ type_of% @Bool.true_and ∧ type_of% @Bool.false_and ∧ type_of% @Bool.false_eq_true ∧ type_of% @and_true ∧ type_of% @true_and ∧ type_of% @and_self ∧ type_of% @Option.some.injEq.{0} ∧ type_of% @ite_true.{1} :=
 ⟨@oE, @iM, @iN, @iO, @iP, @ca, @Option.map_some.{0, 0}, @Option.map_none.{0, 0}, @Option.bind_some.{0, 0}, @Option.bind_none.{0, 0}, @Option.getD_some.{0}, @Option.getD_none.{0}, @List.map_cons.{0, 0}, @List.map_nil.{0, 0}, @List.all_cons.{0}, @List.all_nil.{0}, @List.isEmpty_cons.{0}, @List.length_nil.{0}, @List.length_cons.{0}, @List.nil_append.{0}, @List.cons_append.{0}, @List.getElem?_cons_zero.{0}, @List.getElem?_cons_succ.{0}, @List.set_cons_zero.{0}, @List.set_cons_succ.{0}, @List.drop_zero.{0}, @List.drop_succ_cons.{0}, @List.take_succ_cons.{0}, @List.take_zero.{0}, @List.drop_nil.{0}, @List.take_nil.{0}, @List.toList_toArray.{0}, @Bool.and_true, @Bool.not_true, @Bool.not_false, @Bool.false_or, @Bool.or_false, @Bool.or_true, @Bool.true_or, @Bool.and_false, @Bool.true_and, @Bool.false_and, @Bool.false_eq_true, @and_true, @true_and, @and_self, @Option.some.injEq.{0}, @ite_true.{1}⟩
theorem GP4 : type_of% @ite_false.{1} ∧ type_of% @decide_true ∧ type_of% @decide_false ∧ type_of% @not_true_eq_false ∧ type_of% @not_false_eq_true ∧ type_of% @beq_self_eq_true.{0} ∧ type_of% @Nat.zero_add ∧ type_of% @Nat.add_zero ∧ type_of% @Nat.le_refl ∧ type_of% @Nat.not_lt_zero ∧ type_of% @Option.isNone_some.{0} ∧ type_of% @Option.isSome_some.{0} ∧ type_of% @cond_true.{1} ∧ type_of% @cond_false.{1} :=
 ⟨@ite_false.{1}, @decide_true, @decide_false, @not_true_eq_false, @not_false_eq_true, @beq_self_eq_true.{0}, @Nat.zero_add, @Nat.add_zero, @Nat.le_refl, @Nat.not_lt_zero, @Option.isNone_some.{0}, @Option.isSome_some.{0}, @cond_true.{1}, @cond_false.{1}⟩
theorem GA : type_of% @GP0 ∧ type_of% @GP1 ∧ type_of% @GP2 ∧ type_of% @GP3 ∧ type_of% @GP4 :=
 ⟨@GP0, @GP1, @GP2, @GP3, @GP4⟩
theorem GX0 : type_of% @xO.eq_1 ∧ type_of% @xO.eq_2 ∧ type_of% @xO.eq_3 ∧ type_of% @xO.eq_4 ∧ type_of% @xO.eq_5 ∧ type_of% @xO.eq_6 ∧ type_of% @xO.eq_7 ∧ type_of% @fY.eq_1 ∧ type_of% @fY.eq_2 ∧ type_of% @wV.eq_1 ∧ type_of% @E.load.eq_1 ∧ type_of% @E.load.eq_2 ∧ type_of% @E.store.eq_1 ∧ type_of% @vi.eq_1 ∧ type_of% @vi.eq_2 ∧ type_of% @vi.eq_3 ∧ type_of% @vi.eq_4 ∧ type_of% @vi.eq_5 ∧ type_of% @vi.eq_6 ∧ type_of% @vi.eq_7 ∧ type_of% @vi.eq_8 ∧ type_of% @vi.eq_9 ∧ type_of% @vi.eq_10 ∧ type_of% @vi.eq_11 ∧ type_of% @r5.eq_1 ∧ type_of% @r5.eq_2 ∧ type_of% @r5.eq_3 ∧ type_of% @r5.eq_4 ∧ type_of% @r5.eq_5 ∧ type_of% @r5.eq_6 ∧ type_of% @r5.eq_7 ∧ type_of% @zY.eq_1 ∧ type_of% @zY.eq_2 ∧ type_of% @zY.eq_3 ∧ type_of% @zY.eq_4 ∧ type_of% @zY.eq_5 ∧ type_of% @mV.eq_1 ∧ type_of% @mV.eq_2 ∧ type_of% @mV.eq_3 ∧ type_of% @mV.eq_4 ∧ type_of% @fnV.eq_1 ∧ type_of% @fnV.eq_2 ∧ type_of% @yl.eq_1 ∧ type_of% @yl.eq_2 ∧ type_of% @yl.eq_3 :=
 ⟨@xO.eq_1, @xO.eq_2, @xO.eq_3, @xO.eq_4, @xO.eq_5, @xO.eq_6, @xO.eq_7, @fY.eq_1, @fY.eq_2, @wV.eq_1, @E.load.eq_1, @E.load.eq_2, @E.store.eq_1, @vi.eq_1, @vi.eq_2, @vi.eq_3, @vi.eq_4, @vi.eq_5, @vi.eq_6, @vi.eq_7, @vi.eq_8, @vi.eq_9, @vi.eq_10, @vi.eq_11, @r5.eq_1, @r5.eq_2, @r5.eq_3, @r5.eq_4, @r5.eq_5, @r5.eq_6, @r5.eq_7, @zY.eq_1, @zY.eq_2, @zY.eq_3, @zY.eq_4, @zY.eq_5, @mV.eq_1, @mV.eq_2, @mV.eq_3, @mV.eq_4, @fnV.eq_1, @fnV.eq_2, @yl.eq_1, @yl.eq_2, @yl.eq_3⟩
theorem GX1 : type_of% @yl.eq_4 ∧ type_of% @yl.eq_5 ∧ type_of% @yl.eq_6 ∧ type_of% @yl.eq_7 ∧ type_of% @tj.eq_1 ∧ type_of% @tj.eq_2 ∧ type_of% @tj.eq_3 ∧ type_of% @tk.eq_1 ∧ type_of% @tk.eq_2 ∧ type_of% @tk.eq_3 ∧ type_of% @vH.eq_1 ∧ type_of% @vH.eq_2 ∧ type_of% @vH.eq_3 ∧ type_of% @bY.eq_1 ∧ type_of% @u5.eq_1 ∧ type_of% @u5.eq_2 ∧ type_of% @r9.eq_1 ∧ type_of% @r9.eq_2 ∧ type_of% @r9.eq_3 ∧ type_of% @wu.eq_1 ∧ type_of% @wu.eq_2 ∧ type_of% @wu.eq_3 ∧ type_of% @wu.eq_4 ∧ type_of% @UC.eq_1 ∧ type_of% @ao.eq_1 ∧ type_of% @qA.eq_1 ∧ type_of% @qA.eq_2 ∧ type_of% @yz.eq_1 ∧ type_of% @yz.eq_2 ∧ type_of% @yz.eq_3 ∧ type_of% @yz.eq_4 ∧ type_of% @yz.eq_5 ∧ type_of% @yz.eq_6 ∧ type_of% @UF.eq_1 ∧ type_of% @bX.eq_1 :=
 ⟨@yl.eq_4, @yl.eq_5, @yl.eq_6, @yl.eq_7, @tj.eq_1, @tj.eq_2, @tj.eq_3, @tk.eq_1, @tk.eq_2, @tk.eq_3, @vH.eq_1, @vH.eq_2, @vH.eq_3, @bY.eq_1, @u5.eq_1, @u5.eq_2, @r9.eq_1, @r9.eq_2, @r9.eq_3, @wu.eq_1, @wu.eq_2, @wu.eq_3, @wu.eq_4, @UC.eq_1, @ao.eq_1, @qA.eq_1, @qA.eq_2, @yz.eq_1, @yz.eq_2, @yz.eq_3, @yz.eq_4, @yz.eq_5, @yz.eq_6, @UF.eq_1, @bX.eq_1⟩
/-- the words' equations, but for what is left over -/
theorem GX : type_of% @GX0 ∧ type_of% @GX1 := ⟨@GX0, @GX1⟩
theorem LL : type_of% @List.length_cons.{0} ∧ type_of% @List.length_append.{0} ∧ type_of% @List.length_nil.{0} ∧ type_of% @List.length_map.{0, 0} := ⟨@List.length_cons.{0}, @List.length_append.{0}, @List.length_nil.{0}, @List.length_map.{0, 0}⟩
theorem GZ : type_of% @Int.cast_ofNat_Int ∧ type_of% @vr ∧ type_of% @ff ∧ type_of% @fe ∧ type_of% @Option.isSome_none.{0} := ⟨@Int.cast_ofNat_Int, @vr, @ff, @fe, @Option.isSome_none.{0}⟩
end Go.Proofs.YtijninlbpifonaaGreatDoor.E
/- Plain words about texts: digits, quotes, joins. Conditions: those of each lemma. -/
namespace Go.Proofs.YtijninlbpifonaaGreatDoor
set_option linter.unusedVariables false
set_option linter.unusedSimpArgs false
abbrev Str := List UInt8
abbrev B2 (a lo hi : Int) : Bool := decide (lo ≤ a) && decide (a ≤ hi)
/-- a byte's number -/
abbrev nb (b : UInt8) : Int := (b.toNat : Int)
theorem V2 (b : UInt8) : (b.toNat : Int) < 256 ∧ (0 : Int) ≤ (b.toNat : Int) := by have := b.toNat_lt; omega
/-- the parts between a byte -/
def yE (b : UInt8) : Str → List Str
 | [] => [[]]
 | x :: s => if x = b then [] :: yE b s else match yE b s with
  | p :: r => (x :: p) :: r
  | [] => [[x]]
end Go.Proofs.YtijninlbpifonaaGreatDoor
/- Lists of texts, trees: as the evaluator sees them; their sizes. Conditions: those of each lemma. -/
namespace Go.Proofs.YtijninlbpifonaaGreatDoor
open E
set_option linter.unusedSimpArgs false
set_option linter.unusedVariables false
set_option maxRecDepth 100000
/-- a list of texts -/
def strs (ks : List (List UInt8)) : List (List T) := ks.map fun s => [.str s]
def yh : List (List UInt8) → Nat
 | [] => 0
 | s :: ks => s.length + yh ks
theorem zh (ks : List (List UInt8)) : (strs ks).length = ks.length := by simp [strs]
theorem xX (ks : List (List UInt8)) (i : Nat) (h : i < ks.length) : (strs ks)[i]? = some [.str ks[i]] := by simp [strs, h]
theorem eM (ks : List (List UInt8)) (i : Nat) (h : i < ks.length) : yh (ks.drop i) = ks[i].length + yh (ks.drop (i + 1)) := by
 rw [List.drop_eq_getElem_cons h]; rfl
/-- a row filled up to a place -/
def vt (xs : List (List T)) (z : List T) (i : Nat) : List (List T) := xs.take i ++ List.replicate (xs.length - i) z
theorem nj (xs : List (List T)) (z : List T) : vt xs z 0 = List.replicate xs.length z := by simp [vt]
theorem lX (xs : List (List T)) (z : List T) : vt xs z xs.length = xs := by simp [vt]
theorem lW (xs : List (List T)) (z : List T) (i : Nat) (h : i < xs.length) : (vt xs z i)[i]? = some z := by
 unfold vt
 rw [List.getElem?_append_right (by simp; omega), List.getElem?_replicate, if_pos (by simp; omega)]
theorem lV (xs : List (List T)) (z : List T) (i : Nat) (h : i < xs.length) : (vt xs z i).set i xs[i] = vt xs z (i + 1) := by
 unfold vt
 apply List.ext_getElem?
 intro j
 rw [List.getElem?_set]
 by_cases hj : i = j
 · subst hj
   rw [if_pos rfl, if_pos (by simp; omega), List.getElem?_append_left (by simp; omega)]
   simp [h]
 · rw [if_neg hj]
   rcases Nat.lt_or_ge j i with hlt | hge
   · rw [List.getElem?_append_left (by simp; omega), List.getElem?_append_left (by simp; omega)]
     rw [List.getElem?_take, List.getElem?_take, if_pos hlt, if_pos (by omega)]
   · rw [List.getElem?_append_right (by simp; omega), List.getElem?_append_right (by simp; omega), List.getElem?_replicate, List.getElem?_replicate]
     simp only [List.length_take]
     by_cases hk : j < xs.length
     · rw [if_pos (by omega), if_pos (by omega)]
     · rw [if_neg (by omega), if_neg (by omega)]
inductive Tr where
 | mk (k n : Int) (s : List UInt8) (ks : List (List UInt8)) (cs : List Tr)
mutual
def Tr.enc : Tr → List T
 | .mk k n s ks cs => [.int .i64 k, .int .i64 n, .str s, .list 1 (strs ks), .list 5 (Tr.zu cs)]
def Tr.zu : List Tr → List (List T)
 | [] => []
 | c :: cs => Tr.enc c :: Tr.zu cs
end
mutual
def Tr.zT : Tr → Nat
 | .mk _ _ s ks cs => s.length + ks.length + yh ks + cs.length + Tr.zK cs
def Tr.zK : List Tr → Nat
 | [] => 0
 | c :: cs => Tr.zT c + Tr.zK cs
end
mutual
def Tr.ok : Tr → Prop
 | .mk _ _ s ks cs => s.length ≤ 9223372036854775807 ∧ ks.length ≤ 9223372036854775807 ∧ (∀ x ∈ ks, x.length ≤ 9223372036854775807) ∧ cs.length ≤ 9223372036854775807 ∧ Tr.oks cs
def Tr.oks : List Tr → Prop
 | [] => True
 | c :: cs => Tr.ok c ∧ Tr.oks cs
end
theorem Tr.jr : ∀ cs : List Tr, Tr.zu cs = cs.map Tr.enc
 | [] => rfl
 | c :: cs => by simp [Tr.zu, Tr.jr cs]
theorem Tr.zo (cs : List Tr) : (Tr.zu cs).length = cs.length := by simp [Tr.jr]
theorem Tr.yS (cs : List Tr) (i : Nat) (h : i < cs.length) : (Tr.zu cs)[i]? = some cs[i].enc := by simp [Tr.jr, h]
theorem Tr.x6 (cs : List Tr) (i : Nat) (h : i < cs.length) : Tr.zK (cs.drop i) = cs[i].zT + Tr.zK (cs.drop (i + 1)) := by
 rw [List.drop_eq_getElem_cons h]; rfl
theorem Tr.y7 : ∀ {cs : List Tr} {c : Tr}, c ∈ cs → c.zT ≤ Tr.zK cs
 | c' :: cs, c, h => by
  simp only [Tr.zK]
  rcases List.mem_cons.1 h with rfl | h
  · omega
  · have := Tr.y7 h; omega
end Go.Proofs.YtijninlbpifonaaGreatDoor
/- The shelf's contracts at this program, laid by the kit's own tool. Conditions: none. -/
namespace Go.Proofs
open Go.Shelf
def Tryz.pD : Go.Shelf.Ren := ⟨fun | 156 => 245 | 165 => 302 | 166 => 303 | 169 => 304 | 240 => 348 | 241 => 349 | 276 => 367 | 277 => 368 | n => n, fun | 31 => 22 | 9 => 9 | 3 => 3 | 4 => 4 | 0 => 0 | 20 => 20 | 72 => 250 | 76 => 207 | 70 => 248 | 37 => 50 | 75 => 206 | 127 => 288 | 164 => 302 | 5 => 5 | 80 => 252 | n => n, fun | n => n⟩
theorem Tryz.cR : Go.Proofs.Lays.n156 Tryz.prog Tryz.pD := {
 mixed := by kernel_rfl
 f156 := Tryz.func245.trans (congrArg some (by kernel_rfl))
 f165 := Tryz.func302.trans (congrArg some (by kernel_rfl))
 f166 := Tryz.func303.trans (congrArg some (by kernel_rfl))
 f169 := Tryz.func304.trans (congrArg some (by kernel_rfl))
 f240 := Tryz.func348.trans (congrArg some (by kernel_rfl))
 f241 := Tryz.func349.trans (congrArg some (by kernel_rfl))
 f276 := Tryz.func367.trans (congrArg some (by kernel_rfl))
 f277 := Tryz.func368.trans (congrArg some (by kernel_rfl))
 t0 := Tryz.underlying0
 a0 := Tryz.isAgg0
 z0 := Tryz.sizeOf0
 v0 := Tryz.zeroValue0
 t3 := Tryz.underlying3
 a3 := Tryz.isAgg3
 z3 := Tryz.sizeOf3
 v3 := Tryz.zeroValue3
 t4 := Tryz.underlying4
 a4 := Tryz.isAgg4
 z4 := Tryz.sizeOf4
 v4 := Tryz.zeroValue4
 t9 := Tryz.underlying9
 a9 := Tryz.isAgg9
 z9 := Tryz.sizeOf9
 v9 := Tryz.zeroValue9
 t20 := Tryz.underlying20
 a20 := Tryz.isAgg20
 z20 := Tryz.sizeOf20
 v20 := Tryz.zeroValue20
 t31 := Tryz.underlying22
 a31 := Tryz.isAgg22
 z31 := Tryz.sizeOf22
 v31 := Tryz.zeroValue22
 t37 := Tryz.underlying50
 a37 := Tryz.isAgg50
 z37 := Tryz.sizeOf50
 v37 := Tryz.zeroValue50
 t70 := Tryz.underlying248
 a70 := Tryz.isAgg248
 z70 := Tryz.sizeOf248
 v70 := Tryz.zeroValue248
 t72 := Tryz.underlying250
 a72 := Tryz.isAgg250
 z72 := Tryz.sizeOf250
 v72 := Tryz.zeroValue250
 t75 := Tryz.underlying206
 a75 := Tryz.isAgg206
 z75 := Tryz.sizeOf206
 v75 := Tryz.zeroValue206
 t76 := Tryz.underlying207
 a76 := Tryz.isAgg207
 z76 := Tryz.sizeOf207
 v76 := Tryz.zeroValue207
 t127 := Tryz.underlying288
 a127 := Tryz.isAgg288
 z127 := Tryz.sizeOf288
 v127 := Tryz.zeroValue288
 t164 := Tryz.underlying302
 a164 := Tryz.isAgg302
 z164 := Tryz.sizeOf302
 v164 := Tryz.zeroValue302 }
theorem Tryz.vJ : Builder.Extra Tryz.prog Tryz.pD := {
 sizeBuilder := by kernel_rfl
 liesBuilder := by kernel_rfl
 t5 := Tryz.underlying5
 a5 := Tryz.isAgg5
 z5 := Tryz.sizeOf5
 v5 := Tryz.zeroValue5
 infoByte := by kernel_rfl
 cellsByte := by kernel_rfl
 sizeByte := by kernel_rfl
 neB5 := by decide }
def Tryz.ib : Go.Shelf.Ren := ⟨fun | 106 => 222 | 213 => 279 | 265 => 331 | n => n, fun | 9 => 9 | 3 => 3 | n => n, fun | n => n⟩
theorem Tryz.VN : Go.Proofs.Lays.n106 Tryz.prog Tryz.ib := {
 mixed := by kernel_rfl
 f106 := Tryz.func222.trans (congrArg some (by kernel_rfl))
 f213 := Tryz.func279.trans (congrArg some (by kernel_rfl))
 f265 := Tryz.func331.trans (congrArg some (by kernel_rfl))
 t3 := Tryz.underlying3
 a3 := Tryz.isAgg3
 z3 := Tryz.sizeOf3
 v3 := Tryz.zeroValue3
 t9 := Tryz.underlying9
 a9 := Tryz.isAgg9
 z9 := Tryz.sizeOf9
 v9 := Tryz.zeroValue9 }
def Tryz.kJ : Go.Shelf.Ren := ⟨fun | 171 => 299 | 243 => 347 | 246 => 366 | 283 => 374 | 284 => 375 | 285 => 376 | 286 => 377 | 129 => 274 | 317 => 380 | 318 => 381 | 319 => 382 | 320 => 383 | 337 => 384 | 338 => 385 | n => n, fun | 3 => 3 | 9 => 9 | 2 => 2 | 4 => 4 | 171 => 315 | 0 => 0 | 53 => 234 | 37 => 50 | 5 => 5 | 173 => 317 | 212 => 321 | 51 => 232 | 20 => 20 | 213 => 322 | 46 => 188 | 232 => 324 | 233 => 325 | n => n, fun | 17 => 5 | 18 => 6 | 19 => 7 | n => n⟩
theorem Tryz.X7 : Go.Proofs.LaysM.n171 Tryz.prog Tryz.kJ := {
 mixed := by kernel_rfl
 f129 := Tryz.func274.trans (congrArg some (by kernel_rfl))
 f171 := Tryz.func299.trans (congrArg some (by kernel_rfl))
 f243 := Tryz.func347.trans (congrArg some (by kernel_rfl))
 f246 := Tryz.func366.trans (congrArg some (by kernel_rfl))
 f283 := Tryz.func374.trans (congrArg some (by kernel_rfl))
 f284 := Tryz.func375.trans (congrArg some (by kernel_rfl))
 f285 := Tryz.func376.trans (congrArg some (by kernel_rfl))
 f286 := Tryz.func377.trans (congrArg some (by kernel_rfl))
 f317 := Tryz.func380.trans (congrArg some (by kernel_rfl))
 f318 := Tryz.func381.trans (congrArg some (by kernel_rfl))
 f319 := Tryz.func382.trans (congrArg some (by kernel_rfl))
 f320 := Tryz.func383.trans (congrArg some (by kernel_rfl))
 f337 := Tryz.func384.trans (congrArg some (by kernel_rfl))
 f338 := Tryz.func385.trans (congrArg some (by kernel_rfl))
 t0 := Tryz.underlying0
 a0 := Tryz.isAgg0
 z0 := Tryz.sizeOf0
 v0 := Tryz.zeroValue0
 t2 := Tryz.underlying2
 a2 := Tryz.isAgg2
 z2 := Tryz.sizeOf2
 v2 := Tryz.zeroValue2
 t3 := Tryz.underlying3
 a3 := Tryz.isAgg3
 z3 := Tryz.sizeOf3
 v3 := Tryz.zeroValue3
 t4 := Tryz.underlying4
 a4 := Tryz.isAgg4
 z4 := Tryz.sizeOf4
 v4 := Tryz.zeroValue4
 t5 := Tryz.underlying5
 a5 := Tryz.isAgg5
 z5 := Tryz.sizeOf5
 v5 := Tryz.zeroValue5
 t9 := Tryz.underlying9
 a9 := Tryz.isAgg9
 z9 := Tryz.sizeOf9
 v9 := Tryz.zeroValue9
 t20 := Tryz.underlying20
 a20 := Tryz.isAgg20
 z20 := Tryz.sizeOf20
 v20 := Tryz.zeroValue20
 t37 := Tryz.underlying50
 a37 := Tryz.isAgg50
 z37 := Tryz.sizeOf50
 v37 := Tryz.zeroValue50
 t46 := Tryz.underlying188
 a46 := Tryz.isAgg188
 z46 := Tryz.sizeOf188
 v46 := Tryz.zeroValue188
 t51 := Tryz.underlying232
 a51 := Tryz.isAgg232
 z51 := Tryz.sizeOf232
 v51 := Tryz.zeroValue232
 t53 := Tryz.underlying234
 a53 := Tryz.isAgg234
 z53 := Tryz.sizeOf234
 v53 := Tryz.zeroValue234
 t171 := Tryz.underlying315
 a171 := Tryz.isAgg315
 z171 := Tryz.sizeOf315
 v171 := Tryz.zeroValue315
 t173 := Tryz.underlying317
 a173 := Tryz.isAgg317
 z173 := Tryz.sizeOf317
 v173 := Tryz.zeroValue317
 t212 := Tryz.underlying321
 a212 := Tryz.isAgg321
 z212 := Tryz.sizeOf321
 v212 := Tryz.zeroValue321
 t213 := Tryz.underlying322
 a213 := Tryz.isAgg322
 z213 := Tryz.sizeOf322
 t232 := Tryz.underlying324
 a232 := Tryz.isAgg324
 z232 := Tryz.sizeOf324
 v232 := Tryz.zeroValue324
 t233 := Tryz.underlying325
 a233 := Tryz.isAgg325
 z233 := Tryz.sizeOf325
 v233 := Tryz.zeroValue325
 g17 := by kernel_rfl
 g18 := by kernel_rfl
 g19 := by kernel_rfl
 i0 := by kernel_rfl
 i2 := by kernel_rfl
 i3 := by kernel_rfl
 i4 := by kernel_rfl
 i5 := by kernel_rfl
 i9 := by kernel_rfl
 i20 := by kernel_rfl
 i37 := by kernel_rfl
 i46 := by kernel_rfl
 i51 := by kernel_rfl
 i53 := by kernel_rfl
 i171 := by kernel_rfl
 i173 := by kernel_rfl
 i212 := by kernel_rfl
 i232 := by kernel_rfl
 i233 := by kernel_rfl
 m17 := by kernel_rfl
 m18 := by kernel_rfl
 m19 := by kernel_rfl }
def Tryz.kK : Go.Shelf.Ren := ⟨fun | 172 => 242 | 244 => 297 | 245 => 298 | 247 => 342 | 279 => 343 | 280 => 344 | 281 => 345 | 282 => 346 | 287 => 363 | 316 => 364 | 171 => 299 | 205 => 365 | 321 => 372 | 322 => 373 | 243 => 347 | 246 => 366 | 283 => 374 | 284 => 375 | 285 => 376 | 286 => 377 | 129 => 274 | 317 => 380 | 318 => 381 | 319 => 382 | 320 => 383 | 337 => 384 | 338 => 385 | n => n, fun | 9 => 9 | 3 => 3 | 75 => 206 | 76 => 207 | 4 => 4 | 5 => 5 | 167 => 282 | 37 => 50 | 0 => 0 | 85 => 283 | 2 => 2 | 168 => 285 | 53 => 234 | 175 => 296 | 46 => 188 | 210 => 299 | 127 => 288 | 145 => 314 | 143 => 312 | 21 => 21 | 171 => 315 | 173 => 317 | 212 => 321 | 51 => 232 | 20 => 20 | 213 => 322 | 232 => 324 | 233 => 325 | 80 => 252 | n => n, fun | 15 => 1 | 16 => 2 | 17 => 5 | 18 => 6 | 19 => 7 | n => n⟩
theorem Tryz.nV : Go.Proofs.LaysC.n172 Tryz.prog Tryz.kK := {
 mixed := by kernel_rfl
 f129 := Tryz.func274.trans (congrArg some (by kernel_rfl))
 f171 := Tryz.func299.trans (congrArg some (by kernel_rfl))
 f172 := Tryz.func242.trans (congrArg some (by kernel_rfl))
 f205 := Tryz.func365.trans (congrArg some (by kernel_rfl))
 f243 := Tryz.func347.trans (congrArg some (by kernel_rfl))
 f244 := Tryz.func297.trans (congrArg some (by kernel_rfl))
 f245 := Tryz.func298.trans (congrArg some (by kernel_rfl))
 f246 := Tryz.func366.trans (congrArg some (by kernel_rfl))
 f247 := Tryz.func342.trans (congrArg some (by kernel_rfl))
 f279 := Tryz.func343.trans (congrArg some (by kernel_rfl))
 f280 := Tryz.func344.trans (congrArg some (by kernel_rfl))
 f281 := Tryz.func345.trans (congrArg some (by kernel_rfl))
 f282 := Tryz.func346.trans (congrArg some (by kernel_rfl))
 f283 := Tryz.func374.trans (congrArg some (by kernel_rfl))
 f284 := Tryz.func375.trans (congrArg some (by kernel_rfl))
 f285 := Tryz.func376.trans (congrArg some (by kernel_rfl))
 f286 := Tryz.func377.trans (congrArg some (by kernel_rfl))
 f287 := Tryz.func363.trans (congrArg some (by kernel_rfl))
 f316 := Tryz.func364.trans (congrArg some (by kernel_rfl))
 f317 := Tryz.func380.trans (congrArg some (by kernel_rfl))
 f318 := Tryz.func381.trans (congrArg some (by kernel_rfl))
 f319 := Tryz.func382.trans (congrArg some (by kernel_rfl))
 f320 := Tryz.func383.trans (congrArg some (by kernel_rfl))
 f321 := Tryz.func372.trans (congrArg some (by kernel_rfl))
 f322 := Tryz.func373.trans (congrArg some (by kernel_rfl))
 f337 := Tryz.func384.trans (congrArg some (by kernel_rfl))
 f338 := Tryz.func385.trans (congrArg some (by kernel_rfl))
 t0 := Tryz.underlying0
 a0 := Tryz.isAgg0
 z0 := Tryz.sizeOf0
 v0 := Tryz.zeroValue0
 t2 := Tryz.underlying2
 a2 := Tryz.isAgg2
 z2 := Tryz.sizeOf2
 v2 := Tryz.zeroValue2
 t3 := Tryz.underlying3
 a3 := Tryz.isAgg3
 z3 := Tryz.sizeOf3
 v3 := Tryz.zeroValue3
 t4 := Tryz.underlying4
 a4 := Tryz.isAgg4
 z4 := Tryz.sizeOf4
 v4 := Tryz.zeroValue4
 t5 := Tryz.underlying5
 a5 := Tryz.isAgg5
 z5 := Tryz.sizeOf5
 v5 := Tryz.zeroValue5
 t9 := Tryz.underlying9
 a9 := Tryz.isAgg9
 z9 := Tryz.sizeOf9
 v9 := Tryz.zeroValue9
 t20 := Tryz.underlying20
 a20 := Tryz.isAgg20
 z20 := Tryz.sizeOf20
 v20 := Tryz.zeroValue20
 t21 := Tryz.underlying21
 a21 := Tryz.isAgg21
 z21 := Tryz.sizeOf21
 v21 := Tryz.zeroValue21
 t37 := Tryz.underlying50
 a37 := Tryz.isAgg50
 z37 := Tryz.sizeOf50
 v37 := Tryz.zeroValue50
 t46 := Tryz.underlying188
 a46 := Tryz.isAgg188
 z46 := Tryz.sizeOf188
 v46 := Tryz.zeroValue188
 t51 := Tryz.underlying232
 a51 := Tryz.isAgg232
 z51 := Tryz.sizeOf232
 v51 := Tryz.zeroValue232
 t53 := Tryz.underlying234
 a53 := Tryz.isAgg234
 z53 := Tryz.sizeOf234
 v53 := Tryz.zeroValue234
 t75 := Tryz.underlying206
 a75 := Tryz.isAgg206
 z75 := Tryz.sizeOf206
 v75 := Tryz.zeroValue206
 t76 := Tryz.underlying207
 a76 := Tryz.isAgg207
 z76 := Tryz.sizeOf207
 v76 := Tryz.zeroValue207
 t85 := Tryz.underlying283
 a85 := Tryz.isAgg283
 z85 := Tryz.sizeOf283
 v85 := Tryz.zeroValue283
 t127 := Tryz.underlying288
 a127 := Tryz.isAgg288
 z127 := Tryz.sizeOf288
 v127 := Tryz.zeroValue288
 t143 := Tryz.underlying312
 a143 := Tryz.isAgg312
 z143 := Tryz.sizeOf312
 v143 := Tryz.zeroValue312
 t145 := Tryz.underlying314
 a145 := Tryz.isAgg314
 z145 := Tryz.sizeOf314
 v145 := Tryz.zeroValue314
 t167 := Tryz.underlying282
 a167 := Tryz.isAgg282
 z167 := Tryz.sizeOf282
 v167 := Tryz.zeroValue282
 t168 := Tryz.underlying285
 a168 := Tryz.isAgg285
 z168 := Tryz.sizeOf285
 v168 := Tryz.zeroValue285
 t171 := Tryz.underlying315
 a171 := Tryz.isAgg315
 z171 := Tryz.sizeOf315
 v171 := Tryz.zeroValue315
 t173 := Tryz.underlying317
 a173 := Tryz.isAgg317
 z173 := Tryz.sizeOf317
 v173 := Tryz.zeroValue317
 t175 := Tryz.underlying296
 a175 := Tryz.isAgg296
 z175 := Tryz.sizeOf296
 v175 := Tryz.zeroValue296
 t210 := Tryz.underlying299
 a210 := Tryz.isAgg299
 z210 := Tryz.sizeOf299
 v210 := Tryz.zeroValue299
 t212 := Tryz.underlying321
 a212 := Tryz.isAgg321
 z212 := Tryz.sizeOf321
 v212 := Tryz.zeroValue321
 t213 := Tryz.underlying322
 a213 := Tryz.isAgg322
 z213 := Tryz.sizeOf322
 t232 := Tryz.underlying324
 a232 := Tryz.isAgg324
 z232 := Tryz.sizeOf324
 v232 := Tryz.zeroValue324
 t233 := Tryz.underlying325
 a233 := Tryz.isAgg325
 z233 := Tryz.sizeOf325
 v233 := Tryz.zeroValue325
 g15 := by kernel_rfl
 g16 := by kernel_rfl
 g17 := by kernel_rfl
 g18 := by kernel_rfl
 g19 := by kernel_rfl
 t80 := Tryz.underlying252
 a80 := Tryz.isAgg252
 z80 := Tryz.sizeOf252
 v80 := Tryz.zeroValue252
 i0 := by kernel_rfl
 i2 := by kernel_rfl
 i3 := by kernel_rfl
 i4 := by kernel_rfl
 i5 := by kernel_rfl
 i9 := by kernel_rfl
 i20 := by kernel_rfl
 i21 := by kernel_rfl
 i37 := by kernel_rfl
 i46 := by kernel_rfl
 i51 := by kernel_rfl
 i53 := by kernel_rfl
 i75 := by kernel_rfl
 i76 := by kernel_rfl
 i80 := by kernel_rfl
 i85 := by kernel_rfl
 i127 := by kernel_rfl
 i143 := by kernel_rfl
 i145 := by kernel_rfl
 i167 := by kernel_rfl
 i168 := by kernel_rfl
 i171 := by kernel_rfl
 i173 := by kernel_rfl
 i175 := by kernel_rfl
 i210 := by kernel_rfl
 i212 := by kernel_rfl
 i232 := by kernel_rfl
 i233 := by kernel_rfl
 m15 := by kernel_rfl
 m16 := by kernel_rfl
 m17 := by kernel_rfl
 m18 := by kernel_rfl
 m19 := by kernel_rfl
 c0 := by kernel_rfl
 c2 := by kernel_rfl
 c3 := by kernel_rfl
 c4 := by kernel_rfl
 c5 := by kernel_rfl
 c9 := by kernel_rfl
 c20 := by kernel_rfl
 c21 := by kernel_rfl
 c37 := by kernel_rfl
 c46 := by kernel_rfl
 c51 := by kernel_rfl
 c53 := by kernel_rfl
 c75 := by kernel_rfl
 c76 := by kernel_rfl
 c80 := by kernel_rfl
 c85 := by kernel_rfl
 c127 := by kernel_rfl
 c143 := by kernel_rfl
 c145 := by kernel_rfl
 c167 := by kernel_rfl
 c168 := by kernel_rfl
 c171 := by kernel_rfl
 c173 := by kernel_rfl
 c175 := by kernel_rfl
 c210 := by kernel_rfl
 c212 := by kernel_rfl
 c213 := by kernel_rfl
 c232 := by kernel_rfl
 c233 := by kernel_rfl }
def Tryz.uB : Go.Shelf.Ren := ⟨fun | 145 => 161 | 220 => 240 | 219 => 293 | 217 => 335 | 225 => 336 | 224 => 337 | 267 => 338 | 266 => 360 | 314 => 361 | n => n, fun | 9 => 9 | 4 => 4 | 59 => 150 | 3 => 3 | 5 => 5 | 46 => 188 | 146 => 238 | 51 => 232 | n => n, fun | 1 => 0 | n => n⟩
theorem Tryz.gI : Go.Proofs.LaysM.n145 Tryz.prog Tryz.uB := {
 mixed := by kernel_rfl
 f145 := Tryz.func161.trans (congrArg some (by kernel_rfl))
 f217 := Tryz.func335.trans (congrArg some (by kernel_rfl))
 f219 := Tryz.func293.trans (congrArg some (by kernel_rfl))
 f220 := Tryz.func240.trans (congrArg some (by kernel_rfl))
 f224 := Tryz.func337.trans (congrArg some (by kernel_rfl))
 f225 := Tryz.func336.trans (congrArg some (by kernel_rfl))
 f266 := Tryz.func360.trans (congrArg some (by kernel_rfl))
 f267 := Tryz.func338.trans (congrArg some (by kernel_rfl))
 f314 := Tryz.func361.trans (congrArg some (by kernel_rfl))
 t3 := Tryz.underlying3
 a3 := Tryz.isAgg3
 z3 := Tryz.sizeOf3
 v3 := Tryz.zeroValue3
 t4 := Tryz.underlying4
 a4 := Tryz.isAgg4
 z4 := Tryz.sizeOf4
 v4 := Tryz.zeroValue4
 t5 := Tryz.underlying5
 a5 := Tryz.isAgg5
 z5 := Tryz.sizeOf5
 v5 := Tryz.zeroValue5
 t9 := Tryz.underlying9
 a9 := Tryz.isAgg9
 z9 := Tryz.sizeOf9
 v9 := Tryz.zeroValue9
 t46 := Tryz.underlying188
 a46 := Tryz.isAgg188
 z46 := Tryz.sizeOf188
 v46 := Tryz.zeroValue188
 t51 := Tryz.underlying232
 a51 := Tryz.isAgg232
 z51 := Tryz.sizeOf232
 v51 := Tryz.zeroValue232
 t59 := Tryz.underlying150
 a59 := Tryz.isAgg150
 z59 := Tryz.sizeOf150
 v59 := Tryz.zeroValue150
 t146 := Tryz.underlying238
 a146 := Tryz.isAgg238
 z146 := Tryz.sizeOf238
 v146 := Tryz.zeroValue238
 g1 := by kernel_rfl
 i3 := by kernel_rfl
 i4 := by kernel_rfl
 i5 := by kernel_rfl
 i9 := by kernel_rfl
 i46 := by kernel_rfl
 i51 := by kernel_rfl
 i59 := by kernel_rfl
 i146 := by kernel_rfl
 m1 := by kernel_rfl
 s1_3 := fun w h => Go.Proofs.cell_of_shapedOpen_int (zero := #[.int .i64 0]) (t := 3) h (of_decide_eq_true (by kernel_rfl)) (by kernel_rfl) rfl (by kernel_rfl) (by kernel_rfl) Tryz.underlying3 }
def Tryz.ia : Go.Shelf.Ren := ⟨fun | 190 => 126 | 125 => 215 | 258 => 214 | 128 => 273 | 129 => 274 | 302 => 264 | 303 => 265 | 304 => 266 | 305 => 267 | 306 => 268 | 307 => 269 | 308 => 270 | 309 => 271 | 310 => 272 | 333 => 322 | 329 => 323 | 330 => 324 | 334 => 325 | 335 => 326 | 336 => 327 | 344 => 357 | n => n, fun | 31 => 22 | 9 => 9 | 3 => 3 | 46 => 188 | 0 => 0 | 51 => 232 | 53 => 234 | 4 => 4 | 183 => 225 | 182 => 224 | 131 => 229 | 5 => 5 | 218 => 270 | 222 => 274 | 228 => 292 | 229 => 293 | n => n, fun | n => n⟩
theorem Tryz.cQ : Go.Proofs.Lays.n190 Tryz.prog Tryz.ia := {
 mixed := by kernel_rfl
 f125 := Tryz.func215.trans (congrArg some (by kernel_rfl))
 f128 := Tryz.func273.trans (congrArg some (by kernel_rfl))
 f129 := Tryz.func274.trans (congrArg some (by kernel_rfl))
 f190 := Tryz.func126.trans (congrArg some (by kernel_rfl))
 f258 := Tryz.func214.trans (congrArg some (by kernel_rfl))
 f302 := Tryz.func264.trans (congrArg some (by kernel_rfl))
 f303 := Tryz.func265.trans (congrArg some (by kernel_rfl))
 f304 := Tryz.func266.trans (congrArg some (by kernel_rfl))
 f305 := Tryz.func267.trans (congrArg some (by kernel_rfl))
 f306 := Tryz.func268.trans (congrArg some (by kernel_rfl))
 f307 := Tryz.func269.trans (congrArg some (by kernel_rfl))
 f308 := Tryz.func270.trans (congrArg some (by kernel_rfl))
 f309 := Tryz.func271.trans (congrArg some (by kernel_rfl))
 f310 := Tryz.func272.trans (congrArg some (by kernel_rfl))
 f329 := Tryz.func323.trans (congrArg some (by kernel_rfl))
 f330 := Tryz.func324.trans (congrArg some (by kernel_rfl))
 f333 := Tryz.func322.trans (congrArg some (by kernel_rfl))
 f334 := Tryz.func325.trans (congrArg some (by kernel_rfl))
 f335 := Tryz.func326.trans (congrArg some (by kernel_rfl))
 f336 := Tryz.func327.trans (congrArg some (by kernel_rfl))
 f344 := Tryz.func357.trans (congrArg some (by kernel_rfl))
 t0 := Tryz.underlying0
 a0 := Tryz.isAgg0
 z0 := Tryz.sizeOf0
 v0 := Tryz.zeroValue0
 t3 := Tryz.underlying3
 a3 := Tryz.isAgg3
 z3 := Tryz.sizeOf3
 v3 := Tryz.zeroValue3
 t4 := Tryz.underlying4
 a4 := Tryz.isAgg4
 z4 := Tryz.sizeOf4
 v4 := Tryz.zeroValue4
 t5 := Tryz.underlying5
 a5 := Tryz.isAgg5
 z5 := Tryz.sizeOf5
 v5 := Tryz.zeroValue5
 t9 := Tryz.underlying9
 a9 := Tryz.isAgg9
 z9 := Tryz.sizeOf9
 v9 := Tryz.zeroValue9
 t31 := Tryz.underlying22
 a31 := Tryz.isAgg22
 z31 := Tryz.sizeOf22
 v31 := Tryz.zeroValue22
 t46 := Tryz.underlying188
 a46 := Tryz.isAgg188
 z46 := Tryz.sizeOf188
 v46 := Tryz.zeroValue188
 t51 := Tryz.underlying232
 a51 := Tryz.isAgg232
 z51 := Tryz.sizeOf232
 v51 := Tryz.zeroValue232
 t53 := Tryz.underlying234
 a53 := Tryz.isAgg234
 z53 := Tryz.sizeOf234
 v53 := Tryz.zeroValue234
 t131 := Tryz.underlying229
 a131 := Tryz.isAgg229
 z131 := Tryz.sizeOf229
 v131 := Tryz.zeroValue229
 t182 := Tryz.underlying224
 a182 := Tryz.isAgg224
 z182 := Tryz.sizeOf224
 v182 := Tryz.zeroValue224
 t183 := Tryz.underlying225
 a183 := Tryz.isAgg225
 z183 := Tryz.sizeOf225
 v183 := Tryz.zeroValue225
 t218 := Tryz.underlying270
 a218 := Tryz.isAgg270
 z218 := Tryz.sizeOf270
 v218 := Tryz.zeroValue270
 t222 := Tryz.underlying274
 a222 := Tryz.isAgg274
 z222 := Tryz.sizeOf274
 v222 := Tryz.zeroValue274
 t228 := Tryz.underlying292
 a228 := Tryz.isAgg292
 z228 := Tryz.sizeOf292
 v228 := Tryz.zeroValue292
 t229 := Tryz.underlying293
 a229 := Tryz.isAgg293
 z229 := Tryz.sizeOf293
 v229 := Tryz.zeroValue293 }
def Tryz.uA : Go.Shelf.Ren := ⟨fun | 146 => 162 | 221 => 241 | 268 => 294 | 138 => 295 | 143 => 296 | 195 => 339 | 197 => 340 | 218 => 341 | 219 => 293 | 260 => 362 | 217 => 335 | 225 => 336 | 224 => 337 | 267 => 338 | 266 => 360 | 314 => 361 | n => n, fun | 9 => 9 | 31 => 22 | 3 => 3 | 4 => 4 | 0 => 0 | 105 => 280 | 21 => 21 | 5 => 5 | 46 => 188 | 119 => 307 | 139 => 310 | 138 => 309 | 146 => 238 | 51 => 232 | n => n, fun | 1 => 0 | 3 => 3 | 4 => 4 | n => n⟩
theorem Tryz.gH : Go.Proofs.LaysM.n146 Tryz.prog Tryz.uA := {
 mixed := by kernel_rfl
 f138 := Tryz.func295.trans (congrArg some (by kernel_rfl))
 f143 := Tryz.func296.trans (congrArg some (by kernel_rfl))
 f146 := Tryz.func162.trans (congrArg some (by kernel_rfl))
 f195 := Tryz.func339.trans (congrArg some (by kernel_rfl))
 f197 := Tryz.func340.trans (congrArg some (by kernel_rfl))
 f217 := Tryz.func335.trans (congrArg some (by kernel_rfl))
 f218 := Tryz.func341.trans (congrArg some (by kernel_rfl))
 f219 := Tryz.func293.trans (congrArg some (by kernel_rfl))
 f221 := Tryz.func241.trans (congrArg some (by kernel_rfl))
 f224 := Tryz.func337.trans (congrArg some (by kernel_rfl))
 f225 := Tryz.func336.trans (congrArg some (by kernel_rfl))
 f260 := Tryz.func362.trans (congrArg some (by kernel_rfl))
 f266 := Tryz.func360.trans (congrArg some (by kernel_rfl))
 f267 := Tryz.func338.trans (congrArg some (by kernel_rfl))
 f268 := Tryz.func294.trans (congrArg some (by kernel_rfl))
 f314 := Tryz.func361.trans (congrArg some (by kernel_rfl))
 t0 := Tryz.underlying0
 a0 := Tryz.isAgg0
 z0 := Tryz.sizeOf0
 v0 := Tryz.zeroValue0
 t3 := Tryz.underlying3
 a3 := Tryz.isAgg3
 z3 := Tryz.sizeOf3
 v3 := Tryz.zeroValue3
 t4 := Tryz.underlying4
 a4 := Tryz.isAgg4
 z4 := Tryz.sizeOf4
 v4 := Tryz.zeroValue4
 t5 := Tryz.underlying5
 a5 := Tryz.isAgg5
 z5 := Tryz.sizeOf5
 v5 := Tryz.zeroValue5
 t9 := Tryz.underlying9
 a9 := Tryz.isAgg9
 z9 := Tryz.sizeOf9
 v9 := Tryz.zeroValue9
 t21 := Tryz.underlying21
 a21 := Tryz.isAgg21
 z21 := Tryz.sizeOf21
 v21 := Tryz.zeroValue21
 t31 := Tryz.underlying22
 a31 := Tryz.isAgg22
 z31 := Tryz.sizeOf22
 v31 := Tryz.zeroValue22
 t46 := Tryz.underlying188
 a46 := Tryz.isAgg188
 z46 := Tryz.sizeOf188
 v46 := Tryz.zeroValue188
 t51 := Tryz.underlying232
 a51 := Tryz.isAgg232
 z51 := Tryz.sizeOf232
 v51 := Tryz.zeroValue232
 t105 := Tryz.underlying280
 a105 := Tryz.isAgg280
 z105 := Tryz.sizeOf280
 v105 := Tryz.zeroValue280
 t119 := Tryz.underlying307
 a119 := Tryz.isAgg307
 z119 := Tryz.sizeOf307
 t138 := Tryz.underlying309
 a138 := Tryz.isAgg309
 z138 := Tryz.sizeOf309
 v138 := Tryz.zeroValue309
 t139 := Tryz.underlying310
 a139 := Tryz.isAgg310
 z139 := Tryz.sizeOf310
 v139 := Tryz.zeroValue310
 t146 := Tryz.underlying238
 a146 := Tryz.isAgg238
 z146 := Tryz.sizeOf238
 v146 := Tryz.zeroValue238
 g1 := by kernel_rfl
 g3 := by kernel_rfl
 g4 := by kernel_rfl
 i0 := by kernel_rfl
 i3 := by kernel_rfl
 i4 := by kernel_rfl
 i5 := by kernel_rfl
 i9 := by kernel_rfl
 i21 := by kernel_rfl
 i31 := by kernel_rfl
 i46 := by kernel_rfl
 i51 := by kernel_rfl
 i105 := by kernel_rfl
 i138 := by kernel_rfl
 i139 := by kernel_rfl
 i146 := by kernel_rfl
 m1 := by kernel_rfl
 s1_3 := fun w h => Go.Proofs.cell_of_shapedOpen_int (zero := #[.int .i64 0]) (t := 3) h (of_decide_eq_true (by kernel_rfl)) (by kernel_rfl) rfl (by kernel_rfl) (by kernel_rfl) Tryz.underlying3
 m3 := by kernel_rfl
 m4 := by kernel_rfl }
def Tryz.jZ : Go.Shelf.Ren := ⟨fun | 194 => 199 | n => n, fun | 31 => 22 | 9 => 9 | 3 => 3 | 4 => 4 | 0 => 0 | n => n, fun | n => n⟩
theorem Tryz.cP : Go.Proofs.Lays.n194 Tryz.prog Tryz.jZ := {
 mixed := by kernel_rfl
 f194 := Tryz.func199.trans (congrArg some (by kernel_rfl))
 t0 := Tryz.underlying0
 a0 := Tryz.isAgg0
 z0 := Tryz.sizeOf0
 v0 := Tryz.zeroValue0
 t3 := Tryz.underlying3
 a3 := Tryz.isAgg3
 z3 := Tryz.sizeOf3
 v3 := Tryz.zeroValue3
 t4 := Tryz.underlying4
 a4 := Tryz.isAgg4
 z4 := Tryz.sizeOf4
 v4 := Tryz.zeroValue4
 t9 := Tryz.underlying9
 a9 := Tryz.isAgg9
 z9 := Tryz.sizeOf9
 v9 := Tryz.zeroValue9
 t31 := Tryz.underlying22
 a31 := Tryz.isAgg22
 z31 := Tryz.sizeOf22
 v31 := Tryz.zeroValue22 }
end Go.Proofs
/- What the library's functions answer, by the kit's own contract. Conditions: those of each lemma. -/
namespace Go.Proofs
open Go.Shelf
theorem Tryz.join_none (a : Option Addr) (c : Nat) (sep : ByteArray) (w : World) :
 Calls Tryz.prog 245 #[.slice a 0 c, .string sep] w fun e w' => e = .returned (.string ⟨#[]⟩) ∧ w' = w := Any.strings_Join_none Tryz.cR Tryz.vJ a c sep w
theorem Tryz.join_some (bk o c : Nat) (xs : List ByteArray) (sep : ByteArray) (w : World)
 (hcells : ∀ (j : Nat) x, xs[j]? = some x → w.cell? ⟨bk, o + j, none⟩ = some (.string x))
 (hbk : bk < w.heap.size) (hN : xs.length ≤ 140737488355328) (hcap : xs.length ≤ c)
 (hlen : (Lib.join (xs.map (·.data.toList)) sep.data.toList).length ≤ 140737488355328) :
 Calls Tryz.prog 245 #[.slice (some ⟨bk, o, none⟩) xs.length c, .string sep] w fun e w' => e = .returned (.string ⟨(Lib.join (xs.map (·.data.toList)) sep.data.toList).toArray⟩) ∧ Go.RowKit.Below w.heap.size w w' :=
 Any.strings_Join Tryz.cR Tryz.vJ bk o c xs sep w hcells hbk hN hcap hlen
theorem Tryz.itoa (n : Int) (h0 : -9223372036854775808 ≤ n) (h1 : n ≤ 9223372036854775807) (w : World) (htab : Lib.TabIs Tryz.prog w "internal/strconv.uint64pow10" .u64 Lib.pow10Tab) :
 Calls Tryz.prog 299 #[.int .i64 n] w fun e w' => e = .returned (.string ⟨(Lib.itoa n).toArray⟩) ∧ ∃ k os, w' = Go.Sort.grow (w.drewN k) os := Any.strconv_Itoa Tryz.X7 n h0 h1 w htab
theorem Tryz.iq (w : World) (e : TypeId) (s : ByteArray) : Go.RowKit.Below w.heap.size w (Lib.bytesWorld w e s) :=
 ⟨rfl, rfl, rfl, by rw [Lib.bytesWorld_size]; omega, fun k hk => Lib.bytesWorld_at_old w e s k hk⟩
theorem Tryz.Us (s : ByteArray) (hmax : s.size ≤ 281474976710656) (v : Int) (h : Lib.atoiAll s.data.toList = .ok v) (w : World) :
 Calls Tryz.prog 242 #[.string s] w fun e w' => e = .returned (.tuple #[.int .i64 v, .nilIface]) ∧ Go.RowKit.Below w.heap.size w w' :=
 (Any.strconv_Atoi_ok Tryz.nV s (by omega) v h w).mono fun e w' ⟨h1, h2⟩ => ⟨h1, by
  rcases h2 with rfl | ⟨t, rfl⟩
  · exact Go.RowKit.Below.refl _ _
  · exact Tryz.iq _ _ _⟩
theorem Tryz.XO (s : ByteArray) (hlim : s.size ≤ 281474976710656) (h : Lib.atoiAll s.data.toList = Lib.NumEnd.syntax) (tp : TypeId) (p : Value) (w : World) (hvar : w.var? Tryz.prog "strconv.ErrSyntax" = some #[.iface tp p]) :
 Calls Tryz.prog 242 #[.string s] w fun e w' => ∃ t z, e = .returned (.tuple #[.int .i64 0, .iface t z]) ∧ Go.RowKit.Below w.heap.size w w' :=
 (Any.strconv_Atoi_syntax_var Tryz.nV s hlim h tp p w hvar).mono fun e w' ⟨N, h1, _, _, h2⟩ => ⟨_, _, h1, h2⟩
theorem Tryz.XP (s : ByteArray) (hlim : s.size ≤ 281474976710656) (h : Lib.atoiAll s.data.toList = .range) (tp : TypeId) (p : Value) (w : World) (hvar : w.var? Tryz.prog "strconv.ErrRange" = some #[.iface tp p]) :
 Calls Tryz.prog 242 #[.string s] w fun e w' => ∃ t z, e = .returned (.tuple #[.int .i64 (Lib.atoiSat s.data.toList), .iface t z]) ∧ Go.RowKit.Below w.heap.size w w' :=
 (Any.strconv_Atoi_range_var Tryz.nV s hlim h tp p w hvar).mono fun e w' ⟨N, h1, _, _, h2⟩ => ⟨_, _, h1, h2⟩
theorem Tryz.YR (a b : ByteArray) (w : World) : Calls Tryz.prog 222 #[.string a, .string b] w fun e w' => e = .returned (.int .i64 (Lib.compareBytes a.data.toList b.data.toList)) ∧ w' = w := Any.strings_Compare Tryz.VN a b w
end Go.Proofs
/- What the library's functions answer, as the evaluator takes it. Conditions: those of each lemma. -/
namespace Go.Proofs.YtijninlbpifonaaGreatDoor
open E
set_option linter.unusedSimpArgs false
set_option linter.unusedVariables false
set_option maxRecDepth 100000
/-- a list's texts -/
def strsOf : List (List T) → Option (List Str)
 | [] => some []
 | c :: r => match c with
  | [.str l] => (match strsOf r with | some ks => some (l :: ks) | none => none)
  | _ => none
theorem tC : ∀ ks : List Str, strsOf (strs ks) = some ks
 | [] => rfl
 | k :: ks => by
  have := tC ks
  simp only [strs] at this
  simp only [strs, List.map_cons, strsOf, this]
theorem sh : ∀ {es : List (List T)} {ks : List Str}, strsOf es = some ks → es = strs ks
 | [], ks, h => by simp only [strsOf] at h; cases h; rfl
 | c :: r, ks, h => by
  simp only [strsOf] at h
  split at h
  · split at h
    · rename_i ks' hk; cases h; rw [sh hk]; rfl
    · cases h
  · cases h
/-- what is shown by other means -/
def aa : List V → Option V
 | [.t (.list 1 es), .t (.str sep)] => match strsOf es with
  | some ks => if ks.length ≤ 140737488355328 ∧ (Lib.join ks sep).length ≤ 140737488355328 then some (.t (.str (Lib.join ks sep))) else none
  | none => none
 | _ => none
def me : List V → Option V
 | [.t (.str a), .t (.str b)] => some (.t (.int .i64 (Lib.compareBytes a b)))
 | _ => none
def ab : List V → Option V
 | [.t (.int .i64 n)] => if -9223372036854775808 ≤ n ∧ n ≤ 9223372036854775807 then some (.t (.str (Lib.itoa n))) else none
 | _ => none
def an : List V → Option V
 | [.t (.str s)] => if s.length ≤ 281474976710656 then (match Lib.atoiAll s with
  | .ok v => some (.tup [.t (.int .i64 v), .t .nili])
  | Lib.NumEnd.syntax => some (.tup [.t (.int .i64 0), .t .nni])
  | .range => some (.tup [.t (.int .i64 (Lib.atoiSat s)), .t .nni])) else none
 | _ => none
def UG : List V → Option V
 | [.t (.str s), .t (.str sep)] => if s.length < 4294967281 then some (.tup [.t (.str (Lib.cut s sep).1), .t (.str (Lib.cut s sep).2.1), .t (.bool (Lib.cut s sep).2.2)]) else none
 | _ => none
/-- the parts of a text -/
def mo (s sep : Str) : List Str := (Lib.splitB ⟨sep.toArray⟩ 0 (Lib.countB ⟨s.toArray⟩ ⟨sep.toArray⟩) ⟨s.toArray⟩).map (·.data.toList)
def jz : List V → Option V
 | [.t (.str s), .t (.str sep)] => if s.length < 4294967281 ∧ 1 ≤ sep.length then some (.t (.list 1 (strs (mo s sep)))) else none
 | _ => none
/-- a list of texts as it lies in memory -/
theorem Vr {w : World} {F : Nat → Prop} {u : Value} {ks : List Str} (h : RT w F u (.list 1 (strs ks))) :
 ∃ a c, u = .slice a ks.length c ∧ ks.length ≤ c ∧ (0 < ks.length → ∃ b o, a = some ⟨b, o, none⟩ ∧ F b ∧ ∀ (j : Nat) x, (ks.map fun l => (⟨l.toArray⟩ : ByteArray))[j]? = some x → w.cell? ⟨b, o + j, none⟩ = some (.string x)) := by
 cases h with
 | list a n c sz es g hn hc h0 hz hr =>
  rw [zh] at hn
  subst hn
  refine ⟨a, c, rfl, hc, fun hp => ?_⟩
  obtain ⟨b, o, e1, e2, e3⟩ := h0 hp
  refine ⟨b, o, e1, e2, fun j x hj => ?_⟩
  have hjl : j < ks.length := by have := (List.getElem?_eq_some_iff.1 hj).1; simpa using this
  have h1 := e3 j 0 hjl (by omega)
  have h2 := hr j 0 [.str ks[j]] (.str ks[j]) (xX ks j hjl) rfl
  rw [show o + (j * 1 + 0) = o + j by omega] at h1
  rw [h1]
  generalize g j 0 = gv at h2
  cases h2 with
  | str s _ hs =>
   simp [hjl] at hj
   rw [← hj, ← hs]
theorem vq {w w' : World} {F : Nat → Prop} (h : Go.RowKit.Below w.heap.size w w') (hF : ∀ b, F b → b < w.heap.size) : (∀ b, F b → b < w'.heap.size) ∧ Nxt (own fun b => w.heap.size ≤ b) w F zH w' F zH :=
 ⟨fun b hb => Nat.lt_of_lt_of_le (hF b hb) h.size, ⟨h.os, h.tape, h.output, h.size, fun b hb _ => h.block b hb, fun b hb => h.block b (hF b hb), fun _ hb => hb, fun _ hb => .inl hb, Ext.refl _, fun _ _ => rfl⟩⟩
/-- a function is as it is told -/
def j7 (W0 : World) (g : Nat) (e : List V → Option V) : Prop := ∀ args v, e args = some v →
 (∃ fn, Tryz.prog.funcs[g]? = some fn ∧ (fn.name == "runtime.NumGoroutine") = false ∧ fn.body.isNone = false) ∧
 ∀ (w : World) (F : Nat → Prop) (us : Array Value), wL W0 w F → (∀ b, F b → b < w.heap.size) → RVs w F zH us.toList args →
  Calls Tryz.prog g us w fun e w' => ∃ u F', e = .returned u ∧ RV w' F' zH u v ∧ (∀ b, F' b → b < w'.heap.size) ∧ Nxt (own fun b => w.heap.size ≤ b) w F zH w' F' zH
theorem VQ (W0 : World) : j7 W0 245 aa := by
 intro args v hv'
 unfold aa at hv'
 split at hv'
 · rename_i es sep
   split at hv'
   · rename_i ks hks
     split at hv'
     · rename_i hl
       cases hv'
       obtain rfl := sh hks
       refine ⟨⟨Tryz.f245, Tryz.func245, by kernel_rfl, by kernel_rfl⟩, fun w F us hB hF hu => ?_⟩
       obtain ⟨us⟩ := us
       change RVs w F zH us _ at hu
       cases hu with
       | cons h1 h2 =>
       cases h2 with
       | cons h2 h3 =>
       cases h3
       obtain ⟨s, rfl, hs⟩ := tc h2
       obtain ⟨a, c, rfl, hc, h0⟩ := Vr (UB h1)
       have hfin : ∀ (e : Ending) (w' : World), (e = .returned (.string ⟨(Lib.join ks sep).toArray⟩) ∧ Go.RowKit.Below w.heap.size w w') → ∃ u F', e = .returned u ∧ RV w' F' zH u (.t (.str (Lib.join ks sep))) ∧ (∀ b, F' b → b < w'.heap.size) ∧ Nxt (own fun b => w.heap.size ≤ b) w F zH w' F' zH := by
        rintro e w' ⟨rfl, hb⟩
        obtain ⟨k1, k2⟩ := vq hb hF
        exact ⟨_, F, rfl, .t _ _ (.str _ _ (by simp)), k1, k2⟩
       by_cases hk : ks.length = 0
       · have hk' : ks = [] := List.eq_nil_of_length_eq_zero hk
         subst hk'
         refine (Tryz.join_none a c s w).mono fun e w' ⟨h1, h2⟩ => hfin e w' ⟨?_, ?_⟩
         · rw [h1]; rfl
         · rw [h2]; exact Go.RowKit.Below.refl _ _
       · obtain ⟨b, o, rfl, hb, hcell⟩ := h0 (by omega)
         have hmap : (ks.map fun l => (⟨l.toArray⟩ : ByteArray)).map (·.data.toList) = ks := by
          rw [List.map_map]
          have : ((fun x : ByteArray => x.data.toList) ∘ fun l : List UInt8 => (⟨l.toArray⟩ : ByteArray)) = id := by funext l; simp
          rw [this]; simp
         have := Tryz.join_some b o c (ks.map fun l => (⟨l.toArray⟩ : ByteArray)) s w hcell (hF b hb) (by simpa using hl.1) (by simpa using hc) (by rw [hmap, hs]; exact hl.2)
         rw [hmap, hs, List.length_map] at this
         exact this.mono fun e w' h => hfin e w' h
     · cases hv'
   · cases hv'
 · cases hv'
theorem eG (W0 : World) : j7 W0 222 me := by
 intro args v hv'
 unfold me at hv'
 split at hv'
 · rename_i a b
   cases hv'
   refine ⟨⟨Tryz.f222, Tryz.func222, by kernel_rfl, by kernel_rfl⟩, fun w F us hB hF hu => ?_⟩
   obtain ⟨us⟩ := us
   change RVs w F zH us _ at hu
   cases hu with
   | cons h1 h2 =>
   cases h2 with
   | cons h2 h3 =>
   cases h3
   obtain ⟨s1, rfl, hs1⟩ := tc h1
   obtain ⟨s2, rfl, hs2⟩ := tc h2
   refine (Tryz.YR s1 s2 w).mono fun e w' h => ?_
   obtain ⟨rfl, rfl⟩ := h
   rw [hs1, hs2]
   exact ⟨_, F, rfl, .t _ _ (.int _ _), hF, Nxt.refl _ _ _ _⟩
 · cases hv'
theorem eO (w : World) (k : Nat) (os : Array Obj) : Go.RowKit.Below w.heap.size w (Go.Sort.grow (w.drewN k) os) :=
 ⟨rfl, rfl, rfl, by simp [Go.Sort.grow], fun b hb => by simp [Go.Sort.grow, Array.getElem?_append_left hb]⟩
theorem YG {W0 w : World} {F : Nat → Prop} {n : String} {k : IntKind} {zs : List Int} (hB : wL W0 w F) (h : Lib.TabIs Tryz.prog W0 n k zs) : Lib.TabIs Tryz.prog w n k zs := by
 unfold Lib.TabIs World.var? at *
 cases hg : Tryz.prog.globalNamed n with
 | none => simp [hg] at h
 | some g =>
  simp only [hg, Option.bind_some] at h ⊢
  have hlt : g < W0.heap.size := by
   refine Nat.lt_of_not_le fun hc => ?_
   rw [Array.getElem?_eq_none hc] at h
   cases h
  rw [hB.heap g hlt]
  exact h
theorem VR (W0 : World) (hT : Lib.TabIs Tryz.prog W0 "internal/strconv.uint64pow10" .u64 Lib.pow10Tab) : j7 W0 299 ab := by
 intro args v hv'
 unfold ab at hv'
 split at hv'
 · rename_i n
   split at hv'
   · rename_i hn
     cases hv'
     refine ⟨⟨Tryz.f299, Tryz.func299, by kernel_rfl, by kernel_rfl⟩, fun w F us hB hF hu => ?_⟩
     obtain ⟨us⟩ := us
     change RVs w F zH us _ at hu
     cases hu with
     | cons h1 h2 =>
     cases h2
     cases h1 with
     | t _ _ h1 =>
     cases h1
     refine (Tryz.itoa n hn.1 hn.2 w (YG hB hT)).mono fun e w' h => ?_
     obtain ⟨rfl, k, os, rfl⟩ := h
     obtain ⟨k1, k2⟩ := vq (eO w k os) hF
     exact ⟨_, F, rfl, .t _ _ (.str _ _ (by simp)), k1, k2⟩
   · cases hv'
 · cases hv'
theorem iQ {W0 w : World} {F : Nat → Prop} {n : String} {cs : Array Value} (hB : wL W0 w F) (h : W0.var? Tryz.prog n = some cs) : w.var? Tryz.prog n = some cs := by
 unfold World.var? at *
 cases hg : Tryz.prog.globalNamed n with
 | none => simp [hg] at h
 | some g =>
  simp only [hg, Option.bind_some] at h ⊢
  have hlt : g < W0.heap.size := by
   refine Nat.lt_of_not_le fun hc => ?_
   rw [Array.getElem?_eq_none hc] at h
   cases h
  rw [hB.heap g hlt]
  exact h
theorem dE {w : World} {F : Nat → Prop} {ρ : y6} {u1 u2 : Value} {x1 x2 : T} (h1 : RT w F u1 x1) (h2 : RT w F u2 x2) : RV w F ρ (.tuple #[u1, u2]) (.tup [.t x1, .t x2]) := by
 refine .tup _ _ (fun j => if j = 0 then u1 else u2) rfl (fun j hj => ?_) fun j x hj => ?_
 · match j, hj with
   | 0, _ => rfl
   | 1, _ => rfl
 · match j, hj with
   | 0, hj => cases hj; exact .t _ _ h1
   | 1, hj => cases hj; exact .t _ _ h2
   | j + 2, hj => simp at hj
theorem Ut (W0 : World) (hS : ∃ tp p, W0.var? Tryz.prog "strconv.ErrSyntax" = some #[.iface tp p]) (hR : ∃ tp p, W0.var? Tryz.prog "strconv.ErrRange" = some #[.iface tp p]) : j7 W0 242 an := by
 intro args v hv'
 unfold an at hv'
 split at hv'
 · rename_i l
   split at hv'
   · rename_i hl
     refine ⟨⟨Tryz.f242, Tryz.func242, by kernel_rfl, by kernel_rfl⟩, fun w F us hB hF hu => ?_⟩
     obtain ⟨us⟩ := us
     change RVs w F zH us _ at hu
     cases hu with
     | cons h1 h2 =>
     cases h2
     obtain ⟨s, rfl, hs⟩ := tc h1
     have hsz : s.size ≤ 281474976710656 := by
      have : s.data.toList.length = s.size := by simp
      rw [hs] at this
      omega
     obtain ⟨tS, pS, hS⟩ := hS
     obtain ⟨tR, pR, hR⟩ := hR
     split at hv'
     · rename_i n hn
       cases hv'
       refine (Tryz.Us s hsz n (by rw [hs]; exact hn) w).mono fun e w' h => ?_
       obtain ⟨rfl, hb⟩ := h
       obtain ⟨k1, k2⟩ := vq hb hF
       exact ⟨_, F, rfl, dE (.int _ _) .nili, k1, k2⟩
     · rename_i hn
       cases hv'
       refine (Tryz.XO s hsz (by rw [hs]; exact hn) tS pS w (iQ hB hS)).mono fun e w' h => ?_
       obtain ⟨t, z, rfl, hb⟩ := h
       obtain ⟨k1, k2⟩ := vq hb hF
       exact ⟨_, F, rfl, dE (.int _ _) (.nni t z), k1, k2⟩
     · rename_i hn
       cases hv'
       refine (Tryz.XP s hsz (by rw [hs]; exact hn) tR pR w (iQ hB hR)).mono fun e w' h => ?_
       obtain ⟨t, z, rfl, hb⟩ := h
       obtain ⟨k1, k2⟩ := vq hb hF
       rw [hs]
       exact ⟨_, F, rfl, dE (.int _ _) (.nni t z), k1, k2⟩
   · cases hv'
 · cases hv'
theorem ko {W0 w : World} {F : Nat → Prop} {a : Addr} {v : Value} (hB : wL W0 w F) (h : W0.cell? a = some v) : w.cell? a = some v := by
 have hlt : a.block < W0.heap.size := by
  refine Nat.lt_of_not_le fun hc => ?_
  simp [World.cell?, Array.getElem?_eq_none hc] at h
 unfold World.cell? at h ⊢
 rw [hB.heap _ hlt]
 exact h
theorem im (w : World) (n : Nat) : Go.RowKit.Below w.heap.size w (w.drewN n) := ⟨rfl, rfl, rfl, Nat.le_refl _, fun _ _ => rfl⟩
theorem YU {w : World} {F : Nat → Prop} {ρ : y6} {u1 u2 u3 : Value} {x1 x2 x3 : T} (h1 : RT w F u1 x1) (h2 : RT w F u2 x2) (h3 : RT w F u3 x3) : RV w F ρ (.tuple #[u1, u2, u3]) (.tup [.t x1, .t x2, .t x3]) := by
 refine .tup _ _ (fun j => if j = 0 then u1 else if j = 1 then u2 else u3) rfl (fun j hj => ?_) fun j x hj => ?_
 · match j, hj with
   | 0, _ => rfl
   | 1, _ => rfl
   | 2, _ => rfl
 · match j, hj with
   | 0, hj => cases hj; exact .t _ _ h1
   | 1, hj => cases hj; exact .t _ _ h2
   | 2, hj => cases hj; exact .t _ _ h3
   | j + 3, hj => simp at hj
theorem Tv (W0 : World) (hM : ∃ m, W0.cell? ⟨Tryz.uB.g 1, 0, none⟩ = some (.int .i64 m)) : j7 W0 161 UG := by
 intro args v hv'
 unfold UG at hv'
 split at hv'
 · rename_i l lsep
   split at hv'
   · rename_i hl
     cases hv'
     refine ⟨⟨Tryz.f161, Tryz.func161, by kernel_rfl, by kernel_rfl⟩, fun w F us hB hF hu => ?_⟩
     obtain ⟨us⟩ := us
     change RVs w F zH us _ at hu
     cases hu with
     | cons h1 h2 =>
     cases h2 with
     | cons h2 h3 =>
     cases h3
     obtain ⟨s, rfl, hs⟩ := tc h1
     obtain ⟨sep, rfl, hsep⟩ := tc h2
     have hsz : s.size < 4294967281 := by
      have : s.data.toList.length = s.size := by simp
      rw [hs] at this
      omega
     obtain ⟨m, hM⟩ := hM
     refine (Any.strings_Cut { Tryz.gI with } s sep m w hsz (ko hB hM)).mono fun e w' h => ?_
     rw [hs, hsep] at h
     obtain ⟨rfl, n, rfl⟩ := h
     obtain ⟨k1, k2⟩ := vq (im w n) hF
     exact ⟨_, F, rfl, YU (.str _ _ (by simp)) (.str _ _ (by simp)) (.bool _), k1, k2⟩
   · cases hv'
 · cases hv'
end Go.Proofs.YtijninlbpifonaaGreatDoor
/- What strings.Split answers, as the evaluator takes it. Conditions: those of each lemma. -/
namespace Go.Proofs.YtijninlbpifonaaGreatDoor
open E
set_option linter.unusedSimpArgs false
set_option linter.unusedVariables false
set_option maxRecDepth 100000
/-- a row of texts laid behind all -/
theorem aL (w : World) (F : Nat → Prop) (hF : ∀ b, F b → b < w.heap.size) (t : TypeId) (ps : List ByteArray) (n : Nat) (hn : ps.length = n) :
 RT (w.alloc (.cells (ps.map Value.string).toArray t)) (fun b => F b ∨ b = w.heap.size) (.slice (some ⟨w.heap.size, 0, none⟩) n n) (.list 1 (strs (ps.map (·.data.toList)))) := by
 have hcell : ∀ j, j < ps.length → (w.alloc (.cells (ps.map Value.string).toArray t)).cell? ⟨w.heap.size, j, none⟩ = some (.string (ps.getD j ByteArray.empty)) := fun j hj => by
  have ha : (w.alloc (.cells (ps.map Value.string).toArray t)).heap = w.heap.push (.cells (ps.map Value.string).toArray t) := rfl
  unfold World.cell?
  rw [ha]
  simp [hj, List.getD]
 generalize w.alloc (.cells (ps.map Value.string).toArray t) = w1 at *
 refine RT.list (F := fun b => F b ∨ b = w.heap.size) (some ⟨w.heap.size, 0, none⟩) n n 1 (strs (ps.map (·.data.toList))) (fun i _ => .string (ps.getD i ByteArray.empty)) (by rw [zh, List.length_map]; exact hn) (Nat.le_refl _) (fun _ => ⟨w.heap.size, 0, rfl, Or.inr rfl, fun i j hi hj => ?_⟩) (fun e he => ?_) fun i j cs x hi hj => ?_
 · obtain rfl : j = 0 := by omega
   rw [show 0 + (i * 1 + 0) = i by omega]
   exact hcell i (by omega)
 · simp only [strs, List.mem_map] at he
   obtain ⟨a, _, rfl⟩ := he
   rfl
 · simp only [strs, List.map_map, List.getElem?_map, Option.map_eq_some_iff] at hi
   obtain ⟨a, ha, rfl⟩ := hi
   match j, hj with
   | 0, hj =>
    simp [Function.comp] at hj
    subst hj
    have : ps.getD i ByteArray.empty = a := by simp [List.getD, ha]
    rw [this]
    exact .str _ _ rfl
   | j + 1, hj => simp at hj
theorem aI (w : World) (F : Nat → Prop) (hF : ∀ b, F b → b < w.heap.size) (o : Obj) : (∀ b, (F b ∨ b = w.heap.size) → b < (w.alloc o).heap.size) ∧ Nxt (own fun b => w.heap.size ≤ b) w F zH (w.alloc o) (fun b => F b ∨ b = w.heap.size) zH := by
 have ha : (w.alloc o).heap = w.heap.push o := rfl
 have hsz : (w.alloc o).heap.size = w.heap.size + 1 := by rw [ha, Array.size_push]
 have hold : ∀ b, b < w.heap.size → (w.alloc o).heap[b]? = w.heap[b]? := fun b hb => by
  rw [ha, Array.getElem?_push_lt hb, Array.getElem?_eq_getElem hb]
 refine ⟨fun b hb => ?_, rfl, rfl, rfl, by omega, fun b hb _ => hold b hb, fun b hb => hold b (hF b hb), fun _ hb => .inl hb, fun b hb => ?_, Ext.refl _, fun _ _ => rfl⟩
 · rcases hb with hb | rfl
   · have := hF b hb; omega
   · omega
 · rcases hb with hb | rfl
   · exact .inl hb
   · exact .inr (Nat.le_refl _)
theorem YJ (W0 : World) (hM : ∃ m, W0.cell? ⟨Tryz.uA.g 1, 0, none⟩ = some (.int .i64 m)) : j7 W0 162 jz := by
 intro args v hv'
 unfold jz at hv'
 split at hv'
 · rename_i l lsep
   split at hv'
   · rename_i hl
     cases hv'
     refine ⟨⟨Tryz.f162, Tryz.func162, by kernel_rfl, by kernel_rfl⟩, fun w F us hB hF hu => ?_⟩
     obtain ⟨us⟩ := us
     change RVs w F zH us _ at hu
     cases hu with
     | cons h1 h2 =>
     cases h2 with
     | cons h2 h3 =>
     cases h3
     obtain ⟨s, rfl, hs⟩ := tc h1
     obtain ⟨sep, rfl, hsep⟩ := tc h2
     have hsz : s.size < 4294967281 := by
      have : s.data.toList.length = s.size := by simp
      rw [hs] at this
      omega
     have hsp : 1 ≤ sep.size := by
      have : sep.data.toList.length = sep.size := by simp
      rw [hsep] at this
      omega
     obtain ⟨m, hM⟩ := hM
     refine (Any.strings_Split { Tryz.gH with } Tryz.gH.i9 s sep m w hsz (ko hB hM) hsp).mono fun e w' h => ?_
     have es : (⟨l.toArray⟩ : ByteArray) = s := by rw [← hs]
     have esep : (⟨lsep.toArray⟩ : ByteArray) = sep := by rw [← hsep]
     have hlen := Lib.splitB_all sep hsp 0 (Lib.countB s sep) s rfl
     unfold mo
     rw [es, esep]
     obtain ⟨rfl, rfl⟩ := h
     generalize Lib.splitB sep 0 (Lib.countB s sep) s = ps at *
     generalize Lib.countB s sep = n at *
     obtain ⟨k1, k2⟩ := aI w F hF (.cells (ps.map Value.string).toArray (Tryz.uA.t 9))
     exact ⟨_, fun b => F b ∨ b = w.heap.size, rfl, .t _ _ (aL w F hF _ ps (n + 1) hlen), k1, k2⟩
   · cases hv'
 · cases hv'
end Go.Proofs.YtijninlbpifonaaGreatDoor
/- slices.Sort at texts, by the kit's own contract: on rows. Conditions: those of each lemma. -/
namespace Go.Proofs.YtijninlbpifonaaGreatDoor
open E
set_option linter.unusedSimpArgs false
set_option linter.unusedVariables false
set_option maxRecDepth 100000
def w9 (ks : List Str) : List Str := ks.mergeSort fun x y => decide (x ≤ y)
theorem oJ (ks : List Str) : (w9 ks).Perm ks := List.mergeSort_perm _ _
theorem qG (ks : List Str) : (w9 ks).length = ks.length := (oJ ks).length_eq
def bW (args : List V) (h : Heap) : Option (V × Heap) :=
 match args, h with
 | [.sl 0 0 n cap], [.ts 1 es] => match strsOf es with
  | some ks => if n = ks.length ∧ ks.length ≤ 1073741824 then some (.tup [], [.ts 1 (strs (w9 ks))]) else none
  | none => none
 | _, _ => none
variable {w : World} {F : Nat → Prop} {ρ : y6} {Ow : Own} {h : Heap}
theorem tP (hS : St w F ρ Ow h) {w' : World} (h1 : w'.os = w.os) (h2 : w'.tape = w.tape) (h3 : w'.output = w.output) (h4 : w.heap.size ≤ w'.heap.size) (h5 : ∀ b, b < w.heap.size → w'.heap[b]? = w.heap[b]?) : St w' F ρ Ow h ∧ Nxt Ow w F ρ w' F ρ := by
 have hN : Nxt Ow w F ρ w' F ρ := ⟨h1, h2, h3, h4, fun b hb _ => h5 b hb, fun b hb => h5 b (hS.fsz b hb), fun _ x => x, fun _ x => .inl x, Ext.refl _, fun _ _ => rfl⟩
 refine ⟨hS.next hN hS.out (fun b hb => Nat.lt_of_lt_of_le (hS.fsz b hb) h4) (fun r b hr => .inl ⟨hr, fun L hL hw => ⟨h5 _ ((hS.blk r b hr).wY hw hL).2.2, ((hS.blk r b hr).wY hw hL).1⟩⟩)
  (hS.owned hN (fun b _ hF hlt _ => ⟨h5 b hlt, hF⟩) (fun r i j x ho => ⟨ho, fun L u hL hu => ?_⟩) fun r b L hr hw hL => .inr (hS.same (Ext.refl _) hr hw hL)), hN⟩
 obtain ⟨c, el', fr, q1, q2⟩ := hu
 exact ⟨c, el', fr, (h5 _ (Array.getElem?_eq_some_iff.1 q1).1).trans q1, q2⟩
theorem Tryz.ej (p : Option Addr) (cap : Nat) (w : World) : Calls Tryz.prog 126 #[.slice p 0 cap] w fun e w' => e = .returned (.tuple #[]) ∧ w' = w := Any.slices_Sort_string_none Tryz.cQ p cap w
theorem Tryz.ssort (blk off cap : Nat) (ss : List (List UInt8)) (w : World) (hH : Go.Sort.Holds encStr w blk off ss.toArray) (hblk : blk < w.heap.size) (hsz : ss.length < 4611686018427387904) :
 Calls Tryz.prog 126 #[.slice (some ⟨blk, off, none⟩) ss.length cap] w fun e w' =>
  e = .returned (.tuple #[]) ∧ ∃ n os, w' = Go.Sort.grow (Go.Sort.putRow encStr (Go.Sort.ahead w n) blk off (ss.mergeSort fun x y => decide (x ≤ y)).toArray) os := Any.slices_Sort_string Tryz.cQ blk off cap ss w hH hblk hsz
theorem Vo (W0 : World) : sf Tryz.prog W0 126 bW := by
 intro args h v h' hv
 unfold bW at hv
 split at hv
 · rename_i n cap es
   split at hv
   · rename_i ks hks
     split at hv
     · rename_i hn
       obtain ⟨hn, hlim⟩ := hn
       cases hv
       obtain rfl := sh hks
       refine ⟨⟨Tryz.f126, Tryz.func126, by kernel_rfl, by kernel_rfl⟩, fun Ow w F ρ us hB hS hO hu => ?_⟩
       obtain ⟨us⟩ := us
       change RVs w F ρ us _ at hu
       cases hu with
       | cons h1 h2 =>
       cases h2
       subst hn
       have htup' : ∀ {w' : World}, RV w' F ρ (.tuple #[]) (.tup []) := .tup _ _ (fun _ => undef) rfl (fun j hj => by simp at hj) fun j x hj => by simp at hj
       have htup : RV w F ρ (.tuple #[]) (.tup []) := htup'
       have none_case : ks = [] → ∀ (a : Option Addr) (c : Nat), Calls Tryz.prog 126 #[.slice a 0 c] w fun e w' => ∃ u F' ρ', e = .returned u ∧ RV w' F' ρ' u (.tup []) ∧ St w' F' ρ' Ow [.ts 1 (strs (w9 ks))] ∧ Nxt Ow w F zH w' F' zH ∧ ∀ r l, r < 1 → ρ r = some l → ρ' r = some l := fun hk a c => by
        subst hk
        refine (Tryz.ej a c w).mono fun e w' hp => ?_
        obtain ⟨rfl, rfl⟩ := hp
        exact ⟨_, F, ρ, rfl, htup, by rw [show w9 [] = [] by simp [w9]]; exact hS, Nxt.refl _ _ _ _, fun _ _ _ hl => hl⟩
       generalize hkl : ks.length = kl at h1
       cases h1 with
       | slP r cap a hρ hc => exact none_case (List.eq_nil_of_length_eq_zero hkl) a 0
       | sl r off len cap L a c hρ ha hl hnn hc0 hc1 hz =>
        by_cases hk0 : ks = []
        · subst hk0
          simp at hkl
          subst hkl
          exact none_case rfl a c
        · have hpos : 0 < ks.length := by cases ks with | nil => exact absurd rfl hk0 | cons x r => simp
          have hcne : c ≠ 0 := by omega
          obtain rfl := ha.resolve_right hcne
          rcases hS.blk 0 _ rfl with ⟨L', q1, q2, q3, q4, q5⟩ | ⟨q1, q2⟩
          · rw [q1] at hρ; cases hρ
            have hrow := q3
            obtain ⟨e1, e2, cc, el, fr, e3, e4, e5, e6, e7⟩ := q3
            rw [zh] at e1
            have hlt : L.b < w.heap.size := (Array.getElem?_eq_some_iff.1 e3).1
            have hcell : ∀ j (hj : j < ks.length), cc[L.o + j]? = some (encStr ks[j]) := fun j hj => by
             obtain ⟨u, hu, hr⟩ := e7 j 0 [.str ks[j]] (.str ks[j]) (xX ks j hj) rfl
             rw [q2, show L.o + (j * 1 + 0) = L.o + j by omega] at hu
             rw [hu]
             cases hr with
             | str s _ hs =>
              show some (Value.string s) = some (Value.string ⟨ks[j].toArray⟩)
              rw [← hs]
            have hzz : L.o + L.n ≤ L.z := by rw [q2, Nat.mul_one] at e6; exact e6
            have hH : Go.Sort.Holds encStr w L.b L.o ks.toArray := fun j hj => by
             have hj' : j < ks.length := by simpa using hj
             have hlen : L.o + j < cc.size := by rw [e4]; omega
             have hx := hcell j hj'
             refine ⟨?_, ?_⟩
             · unfold World.cell?
               rw [e3]
               simp [hx, hj']
             · unfold World.frozen?
               rw [e3]
               have := e5 (L.o + j) hlen
               simp only [decide_eq_false_iff_not, Bool.and_eq_false_iff, not_and, Nat.not_lt] at this ⊢
               first | exact this | simpa using this | (simp; omega)
            have hslen := qG ks
            refine Calls.mono (by
             have := Tryz.ssort L.b L.o c ks w hH hlt (by omega)
             rw [hkl] at this
             rw [show L.o + 0 * L.sz = L.o by omega]
             exact this) fun e w' hp => ?_
            obtain ⟨rfl, q, os, hw'⟩ := hp
            change w' = Go.Sort.grow (Go.Sort.putRow encStr (Go.Sort.ahead w q) L.b L.o (w9 ks).toArray) os at hw'
            rw [Lib.putRow_eq_setCells encStr w L.b L.o ks.toArray (w9 ks) q hH (by rw [hslen]; simp)] at hw'
            obtain ⟨hS1, hN1⟩ := tP (w' := w.drewN q) hS rfl rfl rfl (Nat.le_refl _) (fun _ _ => rfl)
            have hfit : L.o + ((w9 ks).map encStr).length ≤ cc.size := by rw [List.length_map, hslen, e4]; omega
            obtain ⟨c', k1, k2, k3⟩ := yH ((w9 ks).map encStr) L.b L.o (w.drewN q) cc el fr e3 hfit
            obtain ⟨hS2, hN2⟩ := tL (blk := .ts 1 (strs (w9 ks))) hS1 (r := 0) rfl rfl q1 L.o ((w9 ks).map encStr) (fun hN => .inl ⟨L, q1, q2, ⟨by rw [zh, hslen]; exact e1, fun e he => by
             simp only [strs, List.mem_map] at he
             obtain ⟨x, _, rfl⟩ := he
             exact q2.symm, c', el, fr, k1, by rw [k2, e4], fun k hk => e5 k (by rw [← k2]; exact hk), e6, fun i j cs x hi hj => by
              have hil := (List.getElem?_eq_some_iff.1 hi).1
              rw [zh] at hil
              rw [xX (w9 ks) i hil] at hi
              cases hi
              match j, hj with
              | 0, hj =>
               cases hj
               refine ⟨encStr (w9 ks)[i], ?_, .str _ _ (by simp)⟩
               rw [q2, show L.o + (i * 1 + 0) = L.o + i by omega, k3, if_pos ⟨by omega, by rw [List.length_map]; omega⟩, show L.o + i - L.o = i by omega]
               simp [hil]
              | j + 1, hj => simp at hj⟩, q4, q5⟩) (fun i j x ho => by
             obtain ⟨sz, es, cs, h1, _⟩ := ho
             simp at h1)
            obtain ⟨hS3, hN3⟩ := tP (w' := w') hS2 (by rw [hw']; rfl) (by rw [hw']; rfl) (by rw [hw']; rfl) (by rw [hw']; simp [Go.Sort.grow]) (fun b hb => by rw [hw']; simp only [Go.Sort.grow]; rw [Array.getElem?_append_left hb])
            exact ⟨_, F, ρ, rfl, htup', hS3, ((hN1.trans hN2).trans hN3).forget (Ext.refl _), fun _ _ _ hl => hl⟩
          · have : ks = [] := by
             have := congrArg List.length q2
             rw [zh] at this
             exact List.eq_nil_of_length_eq_zero this
            exact absurd this hk0
     · cases hv
   · cases hv
 · cases hv
end Go.Proofs.YtijninlbpifonaaGreatDoor
/- Rows of texts written anew by the library: slices.Compact by the kit's own contract. Conditions: those of each lemma. -/
namespace Go.Proofs.YtijninlbpifonaaGreatDoor
open E
set_option linter.unusedSimpArgs false
set_option linter.unusedVariables false
set_option maxRecDepth 100000
section
variable {w : World} {F : Nat → Prop} {ρ : y6} {Ow : Own} {h : Heap}
/-- a row of texts, as the library's contracts want it, and what is left where other texts are put there -/
theorem Vs {ks : List Str} (hS : St w F ρ Ow [.ts 1 (strs ks)]) (hk0 : ks ≠ []) {L : E.Loc} (hρ : ρ 0 = some (some L)) :
 Go.Sort.Holds encStr w L.b L.o ks.toArray ∧ L.b < w.heap.size ∧ L.sz = 1 ∧ L.n = ks.length ∧ ¬ F L.b ∧
 ∀ (ys : List Str) (q : Nat) (os : Array Obj) (w' : World), ys.length = ks.length → w' = Go.Sort.grow ((w.drewN q).setCells L.b L.o (ys.map encStr)) os → St w' F ρ Ow [.ts 1 (strs ys)] ∧ Nxt Ow w F zH w' F zH := by
 rcases hS.blk 0 _ rfl with ⟨L', q1, q2, q3, q4, q5⟩ | ⟨q1, q2⟩
 · rw [q1] at hρ; cases hρ
   have hrow := q3
   obtain ⟨e1, e2, cc, el, fr, e3, e4, e5, e6, e7⟩ := q3
   rw [zh] at e1
   have hlt : L.b < w.heap.size := (Array.getElem?_eq_some_iff.1 e3).1
   have hcell : ∀ j (hj : j < ks.length), cc[L.o + j]? = some (encStr ks[j]) := fun j hj => by
    obtain ⟨u, hu, hr⟩ := e7 j 0 [.str ks[j]] (.str ks[j]) (xX ks j hj) rfl
    rw [q2, show L.o + (j * 1 + 0) = L.o + j by omega] at hu
    rw [hu]
    cases hr with
    | str s _ hs =>
     show some (Value.string s) = some (Value.string ⟨ks[j].toArray⟩)
     rw [← hs]
   have hzz : L.o + L.n ≤ L.z := by rw [q2, Nat.mul_one] at e6; exact e6
   have hH : Go.Sort.Holds encStr w L.b L.o ks.toArray := fun j hj => by
    have hj' : j < ks.length := by simpa using hj
    have hlen : L.o + j < cc.size := by rw [e4]; omega
    have hx := hcell j hj'
    refine ⟨?_, ?_⟩
    · unfold World.cell?
      rw [e3]
      simp [hx, hj']
    · unfold World.frozen?
      rw [e3]
      have := e5 (L.o + j) hlen
      simp only [decide_eq_false_iff_not, Bool.and_eq_false_iff, not_and, Nat.not_lt] at this ⊢
      first | exact this | simpa using this | (simp; omega)
   refine ⟨hH, hlt, q2, e1.symm, q4, fun ys q os w' hys hw' => ?_⟩
   obtain ⟨hS1, hN1⟩ := tP (w' := w.drewN q) hS rfl rfl rfl (Nat.le_refl _) (fun _ _ => rfl)
   have hfit : L.o + (ys.map encStr).length ≤ cc.size := by rw [List.length_map, hys, e4]; omega
   obtain ⟨c', k1, k2, k3⟩ := yH (ys.map encStr) L.b L.o (w.drewN q) cc el fr e3 hfit
   obtain ⟨hS2, hN2⟩ := tL (blk := .ts 1 (strs ys)) hS1 (r := 0) rfl rfl q1 L.o (ys.map encStr) (fun hN => .inl ⟨L, q1, q2, ⟨by rw [zh, hys]; exact e1, fun e he => by
    simp only [strs, List.mem_map] at he
    obtain ⟨x, _, rfl⟩ := he
    exact q2.symm, c', el, fr, k1, by rw [k2, e4], fun k hk => e5 k (by rw [← k2]; exact hk), e6, fun i j cs x hi hj => by
     have hil := (List.getElem?_eq_some_iff.1 hi).1
     rw [zh] at hil
     rw [xX ys i hil] at hi
     cases hi
     match j, hj with
     | 0, hj =>
      cases hj
      refine ⟨encStr ys[i], ?_, .str _ _ (by simp)⟩
      rw [q2, show L.o + (i * 1 + 0) = L.o + i by omega, k3, if_pos ⟨by omega, by rw [List.length_map]; omega⟩, show L.o + i - L.o = i by omega]
      simp [hil]
     | j + 1, hj => simp at hj⟩, q4, q5⟩) (fun i j x ho => by
    obtain ⟨sz, es, cs, h1, _⟩ := ho
    simp at h1)
   obtain ⟨hS3, hN3⟩ := tP (w' := w') hS2 (by rw [hw']; rfl) (by rw [hw']; rfl) (by rw [hw']; rfl) (by rw [hw']; simp [Go.Sort.grow]) (fun b hb => by rw [hw']; simp only [Go.Sort.grow]; rw [Array.getElem?_append_left hb])
   exact ⟨hS3, ((hN1.trans hN2).trans hN3).forget (Ext.refl _)⟩
 · have : ks = [] := by
    have := congrArg List.length q2
    rw [zh] at this
    exact List.eq_nil_of_length_eq_zero this
   exact absurd this hk0
end
/-- neighbours that are one are one text; the rest of the row is emptied -/
def mE (ks : List Str) : List Str := Lib.compact ks ++ List.replicate (ks.length - (Lib.compact ks).length) []
theorem ns (ks : List Str) : (Lib.compact ks).length ≤ ks.length := by
 unfold Lib.compact Lib.compactUpTo
 rw [List.length_map]
 exact Nat.le_trans (List.length_filter_le _ _) (by simp)
theorem ki (ks : List Str) : (mE ks).length = ks.length := by
 have := ns ks
 unfold mE
 simp only [List.length_append, List.length_replicate]; omega
def Vb (args : List V) (h : Heap) : Option (V × Heap) :=
 match args, h with
 | [.sl 0 0 n cap], [.ts 1 es] => match strsOf es with
  | some ks => if n = ks.length ∧ ks.length ≤ 1073741824 then some (.sl 0 0 (Lib.compact ks).length cap, [.ts 1 (strs (mE ks))]) else none
  | none => none
 | _, _ => none
theorem Tryz.YS (blk off cap : Nat) (zs : List (List UInt8)) (w : World) (hH : Go.Sort.Holds encStr w blk off zs.toArray) (hsz : zs.length ≤ 9223372036854775807) (hcap : zs.length ≤ cap) :
 Calls Tryz.prog 199 #[.slice (some ⟨blk, off, none⟩) zs.length cap] w fun e w' => e = .returned (.slice (some ⟨blk, off, none⟩) (Lib.compact zs).length cap) ∧ ∃ q, w' = Go.Sort.putRow encStr (Go.Sort.ahead w q) blk off (Lib.compact zs ++ List.replicate (zs.length - (Lib.compact zs).length) []).toArray := Any.slices_Compact_string Tryz.cP blk off cap zs w hH hsz hcap
theorem Tryz.mH (a : Option Addr) (cap : Nat) (w : World) : Calls Tryz.prog 199 #[.slice a 0 cap] w fun e w' => e = .returned (.slice a 0 cap) ∧ w' = w := Any.slices_Compact_string_empty Tryz.cP a cap w
theorem U5 (W0 : World) : sf Tryz.prog W0 199 Vb := by
 intro args h v h' hv
 unfold Vb at hv
 split at hv
 · rename_i n cap es
   split at hv
   · rename_i ks hks
     split at hv
     · rename_i hn
       obtain ⟨hn, hlim⟩ := hn
       cases hv
       obtain rfl := sh hks
       refine ⟨⟨Tryz.f199, Tryz.func199, by kernel_rfl, by kernel_rfl⟩, fun Ow w F ρ us hB hS hO hu => ?_⟩
       obtain ⟨us⟩ := us
       change RVs w F ρ us _ at hu
       cases hu with
       | cons h1 h2 =>
       cases h2
       subst hn
       have none_case : ks = [] → ∀ (a : Option Addr) (c : Nat), RV w F ρ (.slice a 0 c) (.sl 0 0 0 cap) → Calls Tryz.prog 199 #[.slice a 0 c] w fun e w' => ∃ u F' ρ', e = .returned u ∧ RV w' F' ρ' u (.sl 0 0 (Lib.compact ks).length cap) ∧ St w' F' ρ' Ow [.ts 1 (strs (mE ks))] ∧ Nxt Ow w F zH w' F' zH ∧ ∀ r l, r < 1 → ρ r = some l → ρ' r = some l := fun hk a c hrv => by
        subst hk
        refine (Tryz.mH a c w).mono fun e w' hp => ?_
        obtain ⟨rfl, rfl⟩ := hp
        exact ⟨_, F, ρ, rfl, hrv, hS, Nxt.refl _ _ _ _, fun _ _ _ hl => hl⟩
       generalize hkl : ks.length = kl at h1
       cases h1 with
       | slP r cap a hρ hc => exact none_case (List.eq_nil_of_length_eq_zero hkl) a 0 (.slP _ _ _ hρ hc)
       | sl r off len cap L a c hρ ha hl hnn hc0 hc1 hz =>
        by_cases hk0 : ks = []
        · subst hk0
          simp at hkl
          subst hkl
          exact none_case rfl a c (.sl _ _ _ _ L _ _ hρ ha hl hnn hc0 hc1 hz)
        · have hpos : 0 < ks.length := by cases ks with | nil => exact absurd rfl hk0 | cons x r => simp
          have hcne : c ≠ 0 := by omega
          obtain rfl := ha.resolve_right hcne
          obtain ⟨hH, hlt, q2, q3, _, hput⟩ := Vs hS hk0 hρ
          have hcle := ns ks
          refine Calls.mono (by
           have := Tryz.YS L.b L.o c ks w hH (by omega) (by omega)
           rw [hkl] at this
           rw [show L.o + 0 * L.sz = L.o by omega]
           exact this) fun e w' hp => ?_
          obtain ⟨rfl, q, hw'⟩ := hp
          rw [← hkl] at hw'
          change w' = Go.Sort.putRow encStr (Go.Sort.ahead w q) L.b L.o (mE ks).toArray at hw'
          rw [Lib.putRow_eq_setCells encStr w L.b L.o ks.toArray (mE ks) q hH (by rw [ki]; simp)] at hw'
          obtain ⟨hS3, hN3⟩ := hput (mE ks) q #[] w' (ki ks) (by rw [hw']; simp)
          refine ⟨_, F, ρ, rfl, ?_, hS3, hN3, fun _ _ _ hl => hl⟩
          exact .sl 0 0 _ cap L _ c hρ (.inl (by rw [show L.o + 0 * L.sz = L.o by omega])) (by omega) (by omega) hc0 hc1 hz
     · cases hv
   · cases hv
 · cases hv
end Go.Proofs.YtijninlbpifonaaGreatDoor

/- Joined: E19 T1 T2 XL X1 X2 X3 X4 X6 LT. Conditions: those of each lemma. -/
import Derived.Test.YtonbkdklidfmfaaGreatDoorlG
import Derived.Shelf.Strings.Builder1
import Derived.Shelf.Strings.Builder2
import Derived.Shelf.Strings.OnBuilder
import Derived.Shelf.Small.Bits
import Derived.Shelf.Small.Strs
import Derived.Shelf.Strings.BuilderF
import Derived.Shelf.Strings.BuilderK
import Derived.Shelf.Utf8.RuneCount
import Derived.Shelf.Strings.Builder2Cap
import Derived.Shelf.Strconv.Atoi
import Derived.Shelf.Strconv.Itoa0
import Derived.Shelf.Strconv.Itoa1
import Derived.Shelf.LaysM
import Derived.Shelf.Strconv.Itoa2
import Derived.Shelf.Strconv.Itoa3
import Derived.Shelf.Strconv.AtoiErrFast
import Derived.Shelf.Strconv.ParseIntEmpty
import Derived.Shelf.Strconv.AtoiFail
import Derived.Shelf.Strconv.Clone
import Derived.Shelf.Strconv.SyntaxError
import Derived.Shelf.LaysC
import Derived.Shelf.Strconv.ToError
import Derived.Shelf.Strconv.AtoiErr
import Derived.Shelf.Strconv.ErrVar
import Derived.Shelf.Strconv.Lower
import Derived.Shelf.Strconv.ParseUint10
import Derived.Shelf.Strconv.ParseUint10Empty
import Derived.Shelf.Strconv.ParseUint10Any
import Derived.Shelf.Strconv.ParseInt10
import Derived.Shelf.Strconv.AtoiLong
import Derived.Shelf.Strconv.AtoiInnerAll
import Derived.Shelf.Strconv.RangeError
import Derived.Shelf.Strconv.ToErrorRange
import Derived.Shelf.Strconv.AtoiAll
import Derived.Shelf.Strconv.ErrVarAll
import Derived.Shelf.Strconv.ParseUintEmpty
import Derived.Shelf.Strconv.ParseUint10b64
import Derived.Shelf.Strconv.ParseUint10b32
import Derived.Shelf.Strconv.ParseUint10b16
import Derived.Shelf.Strconv.ParseUint10b8
import Derived.Shelf.Strconv.ParseUint10At
import Derived.Shelf.Strconv.ParseInt10At64
import Derived.Shelf.Strconv.ParseInt10At32
import Derived.Shelf.Strconv.ParseInt10At16
import Derived.Shelf.Strconv.ParseInt10At8
import Derived.Shelf.Strconv.ParseInt10All
import Derived.Shelf.Strings.Search1
import Derived.Shelf.Strings.Search2
import Derived.Shelf.Strings.Search3
import Derived.Shelf.Strings.Cut
import Derived.Shelf.Strings.Count
import Derived.Shelf.Strings.Shaped
import Derived.Shelf.Sort.Plain
import Derived.Shelf.Strings.Prefix
import Derived.Shelf.Strings.Split
import Derived.Shelf.Strings.SplitShaped
import Derived.Shelf.Unicode.Decode
import Derived.Shelf.Strings.RuneCount
import Derived.Shelf.Strings.Explode
import Derived.Shelf.Unicode.DecodeSlow
import Derived.Shelf.Unicode.DecodeAny
import Derived.Shelf.Strings.BuilderCap
import Derived.Shelf.Slices.Turned
import Derived.Shelf.Slices.Equal
import Derived.Ground.Names2Prog
import Derived.Shelf.Slices.Clone
import Derived.Shelf.Slices.CompactS
import Derived.Shelf.Slices.Cells
import Derived.Shelf.Slices.In.SortNone
import Derived.Shelf.Slices.Empties2
import Derived.Ground.SlgnProg
import Derived.Shelf.SlicesE.Clone
import Derived.Test.YtonbkdklidfmfaaGreatDoorProg
import Derived.Lib.SortBridge
import Derived.KernelRfl
set_option linter.unusedVariables false
set_option linter.unusedSimpArgs false
namespace Go.Proofs.YtonbkdklidfmfaaGreatDoor.E
set_option linter.unusedVariables false
set_option maxRecDepth 100000
theorem GP0 : type_of% @uS.eq_1 ∧ type_of% @uS.eq_2 ∧ type_of% @yS.eq_1 ∧ type_of% @yS.eq_2 ∧ type_of% @nw.eq_1 ∧ type_of% @nw.eq_2 ∧ type_of% @sX.eq_1 ∧ type_of% @sX.eq_2 ∧ type_of% @gz.eq_1 ∧ type_of% @gz.eq_2 ∧ type_of% @ren.rens.eq_1 ∧ type_of% @ren.rens.eq_2 ∧ type_of% @pU.eq_1 ∧ type_of% @pU.eq_2 ∧ type_of% @Rj.eq_1 ∧ type_of% @xx.eq_1 ∧ type_of% @nI.eq_1 ∧ type_of% @nI.eq_2 ∧ type_of% @nH.eq_1 ∧ type_of% @nH.eq_2 ∧ type_of% @vQ.eq_1 ∧ type_of% @vQ.eq_2 ∧ type_of% @vh.eq_1 ∧ type_of% @vh.eq_2 ∧ type_of% @xM.eq_1 ∧ type_of% @yR.eq_1 ∧ type_of% @yM.eq_1 ∧ type_of% @xZ.eq_1 ∧ type_of% @wF.eq_1 ∧ type_of% @nL.eq_1 ∧ type_of% @nL.eq_2 ∧ type_of% @hdL.eq_1 ∧ type_of% @hdL.eq_2 ∧ type_of% @yM.eq_2 ∧ type_of% @refs.refss.eq_1 ∧ type_of% @refs.refss.eq_2 ∧ type_of% @opv.eq_1 ∧ type_of% @opv.eq_2 ∧ type_of% @opv.eq_3 ∧ type_of% @opv.eq_4 ∧ type_of% @yF.eq_1 ∧ type_of% @yF.eq_2 ∧ type_of% @yF.eq_3 ∧ type_of% @qd.eq_1 ∧ type_of% @qd.eq_2 ∧ type_of% @J9.eq_1 ∧ type_of% @oH.eq_1 ∧ type_of% @oH.eq_2 ∧ type_of% @xF.eq_1 ∧ type_of% @xF.eq_2 ∧ type_of% @xF.eq_3 ∧ type_of% @se.eq_1 ∧ type_of% @fld.eq_1 ∧ type_of% @uN.eq_1 :=
 ⟨@uS.eq_1, @uS.eq_2, @yS.eq_1, @yS.eq_2, @nw.eq_1, @nw.eq_2, @sX.eq_1, @sX.eq_2, @gz.eq_1, @gz.eq_2, @ren.rens.eq_1, @ren.rens.eq_2, @pU.eq_1, @pU.eq_2, @Rj.eq_1, @xx.eq_1, @nI.eq_1, @nI.eq_2, @nH.eq_1, @nH.eq_2, @vQ.eq_1, @vQ.eq_2, @vh.eq_1, @vh.eq_2, @xM.eq_1, @yR.eq_1, @yM.eq_1, @xZ.eq_1, @wF.eq_1, @nL.eq_1, @nL.eq_2, @hdL.eq_1, @hdL.eq_2, @yM.eq_2, @refs.refss.eq_1, @refs.refss.eq_2, @opv.eq_1, @opv.eq_2, @opv.eq_3, @opv.eq_4, @yF.eq_1, @yF.eq_2, @yF.eq_3, @qd.eq_1, @qd.eq_2, @J9.eq_1, @oH.eq_1, @oH.eq_2, @xF.eq_1, @xF.eq_2, @xF.eq_3, @se.eq_1, @fld.eq_1, @uN.eq_1⟩
theorem GP1 : type_of% @sa.eq_1 ∧ type_of% @wo.eq_1 ∧ type_of% @tK.eq_1 ∧ type_of% @tK.eq_2 ∧ type_of% @tK.eq_3 ∧ type_of% @tK.eq_4 ∧ type_of% @tK.eq_5 ∧ type_of% @ghH.eq_1 ∧ type_of% @ghH.eq_2 ∧ type_of% @asArg.asArgs.eq_1 ∧ type_of% @asArg.asArgs.eq_2 ∧ type_of% @yE.snapVs.eq_1 ∧ type_of% @yE.snapVs.eq_2 ∧ type_of% @xV.eq_1 ∧ type_of% @xV.eq_2 ∧ type_of% @uB.eq_1 ∧ type_of% @uB.eq_2 ∧ type_of% @zc.flatVs.eq_1 ∧ type_of% @zc.flatVs.eq_2 ∧ type_of% @mn ∧ type_of% @x7.eq_1 ∧ type_of% @vj.eq_1 ∧ type_of% @xG.eq_1 ∧ type_of% @ma.eq_1 ∧ type_of% @ma.eq_2 ∧ type_of% @pV.eq_1 ∧ type_of% @qN.eq_1 ∧ type_of% @gf.eq_1 ∧ type_of% @wX.eq_1 ∧ type_of% @wX.eq_2 ∧ type_of% @xX.eq_1 ∧ type_of% @xX.eq_2 ∧ type_of% @yk.eq_1 ∧ type_of% @app.eq_1 ∧ type_of% @ir.eq_1 ∧ type_of% @yV.gives.eq_1 ∧ type_of% @yV.gives.eq_2 ∧ type_of% @rR.eq_1 ∧ type_of% @dY.eq_1 ∧ type_of% @dY.eq_2 ∧ type_of% @vI.eq_1 ∧ type_of% @vI.eq_2 ∧ type_of% @vI.eq_3 ∧ type_of% @vP.eq_1 ∧ type_of% @vP.eq_2 ∧ type_of% @vP.eq_3 ∧ type_of% @vP.eq_4 ∧ type_of% @rS.eq_1 ∧ type_of% @rS.eq_2 ∧ type_of% @rS.eq_3 ∧ type_of% @xE.eq_1 :=
 ⟨@sa.eq_1, @wo.eq_1, @tK.eq_1, @tK.eq_2, @tK.eq_3, @tK.eq_4, @tK.eq_5, @ghH.eq_1, @ghH.eq_2, @asArg.asArgs.eq_1, @asArg.asArgs.eq_2, @yE.snapVs.eq_1, @yE.snapVs.eq_2, @xV.eq_1, @xV.eq_2, @uB.eq_1, @uB.eq_2, @zc.flatVs.eq_1, @zc.flatVs.eq_2, @mn, @x7.eq_1, @vj.eq_1, @xG.eq_1, @ma.eq_1, @ma.eq_2, @pV.eq_1, @qN.eq_1, @gf.eq_1, @wX.eq_1, @wX.eq_2, @xX.eq_1, @xX.eq_2, @yk.eq_1, @app.eq_1, @ir.eq_1, @yV.gives.eq_1, @yV.gives.eq_2, @rR.eq_1, @dY.eq_1, @dY.eq_2, @vI.eq_1, @vI.eq_2, @vI.eq_3, @vP.eq_1, @vP.eq_2, @vP.eq_3, @vP.eq_4, @rS.eq_1, @rS.eq_2, @rS.eq_3, @xE.eq_1⟩
theorem GP2 : type_of% @xE.eq_2 ∧ type_of% @gu.eq_1 ∧ type_of% @su.eq_1 ∧ type_of% @su.eq_2 ∧ type_of% @km ∧ type_of% @ee ∧ type_of% @pK_1 ∧ type_of% @pK_2 ∧ type_of% @idx_eq ∧ type_of% @df ∧ type_of% @List.flatMap_nil.{0, 0} ∧ type_of% @List.flatMap_cons.{0, 0} ∧ type_of% @List.mem_cons.{0} ∧ type_of% @List.not_mem_nil.{0} ∧ type_of% @or_false ∧ type_of% @false_or ∧ type_of% @or_true ∧ type_of% @true_or ∧ type_of% @OPL ∧ type_of% @Option.toList_some.{0} ∧ type_of% @Option.toList_none.{0} ∧ type_of% @UI ∧ type_of% @fW ∧ type_of% @fX ∧ type_of% @jG ∧ type_of% @jH ∧ type_of% @lz ∧ type_of% @iH ∧ type_of% @bK ∧ type_of% @a8 ∧ type_of% @dw ∧ type_of% @dx ∧ type_of% @dy ∧ type_of% @jw ∧ type_of% @jx ∧ type_of% @jy ∧ type_of% @ZH ∧ type_of% @ZI ∧ type_of% @ZJ ∧ type_of% @Int.toNat_natCast ∧ type_of% @nU ∧ type_of% @ne_eq.{1} ∧ type_of% @List.isEmpty_nil.{0} ∧ type_of% @List.replicate_succ.{0} ∧ type_of% @List.replicate_zero.{0} ∧ type_of% @Nat.zero_mul ∧ type_of% @List.append_nil.{0} ∧ type_of% @nR :=
 ⟨@xE.eq_2, @gu.eq_1, @su.eq_1, @su.eq_2, @km, @ee, @pK_1, @pK_2, @idx_eq, @df, @List.flatMap_nil.{0, 0}, @List.flatMap_cons.{0, 0}, @List.mem_cons.{0}, @List.not_mem_nil.{0}, @or_false, @false_or, @or_true, @true_or, @OPL, @Option.toList_some.{0}, @Option.toList_none.{0}, @UI, @fW, @fX, @jG, @jH, @lz, @iH, @bK, @a8, @dw, @dx, @dy, @jw, @jx, @jy, @ZH, @ZI, @ZJ, @Int.toNat_natCast, @nU, @ne_eq.{1}, @List.isEmpty_nil.{0}, @List.replicate_succ.{0}, @List.replicate_zero.{0}, @Nat.zero_mul, @List.append_nil.{0}, @nR⟩
theorem GP3 : type_of% @nT ∧ type_of% @fG ∧ type_of% @fH ∧ type_of% @fI ∧ type_of% @fJ ∧ type_of% @ah ∧ type_of% @Option.map_some.{0, 0} ∧ type_of% @Option.map_none.{0, 0} ∧ type_of% @Option.bind_some.{0, 0} ∧ type_of% @Option.bind_none.{0, 0} ∧ type_of% @Option.getD_some.{0} ∧ type_of% @Option.getD_none.{0} ∧ type_of% @List.map_cons.{0, 0} ∧ type_of% @List.map_nil.{0, 0} ∧ type_of% @List.all_cons.{0} ∧ type_of% @List.all_nil.{0} ∧ type_of% @List.isEmpty_cons.{0} ∧ type_of% @List.length_nil.{0} ∧ type_of% @List.length_cons.{0} ∧ type_of% @List.nil_append.{0} ∧ type_of% @List.cons_append.{0} ∧ type_of% @List.getElem?_cons_zero.{0} ∧ type_of% @List.getElem?_cons_succ.{0} ∧ type_of% @List.set_cons_zero.{0} ∧ type_of% @List.set_cons_succ.{0} ∧ type_of% @List.drop_zero.{0} ∧ type_of% @List.drop_succ_cons.{0} ∧ type_of% @List.take_succ_cons.{0} ∧ type_of% @List.take_zero.{0} ∧ type_of% @List.drop_nil.{0} ∧ type_of% @List.take_nil.{0} ∧ type_of% @List.toList_toArray.{0} ∧ type_of% @Bool.and_true ∧ type_of% @Bool.not_true ∧ type_of% @Bool.not_false ∧ type_of% @Bool.false_or ∧ type_of% @Bool.or_false ∧ type_of% @Bool.or_true ∧ type_of% @Bool.true_or ∧ type_of% @Bool.and_false ∧ type_of% @Bool.true_and ∧ type_of% @Bool.false_and ∧ type_of% @Bool.false_eq_true ∧ type_of% @and_true ∧ type_of% @true_and ∧ type_of% @and_self ∧ type_of% @Option.some.injEq.{0} ∧ type_of% @ite_true.{1} :=
 ⟨@nT, @fG, @fH, @fI, @fJ, @ah, @Option.map_some.{0, 0}, @Option.map_none.{0, 0}, @Option.bind_some.{0, 0}, @Option.bind_none.{0, 0}, @Option.getD_some.{0}, @Option.getD_none.{0}, @List.map_cons.{0, 0}, @List.map_nil.{0, 0}, @List.all_cons.{0}, @List.all_nil.{0}, @List.isEmpty_cons.{0}, @List.length_nil.{0}, @List.length_cons.{0}, @List.nil_append.{0}, @List.cons_append.{0}, @List.getElem?_cons_zero.{0}, @List.getElem?_cons_succ.{0}, @List.set_cons_zero.{0}, @List.set_cons_succ.{0}, @List.drop_zero.{0}, @List.drop_succ_cons.{0}, @List.take_succ_cons.{0}, @List.take_zero.{0}, @List.drop_nil.{0}, @List.take_nil.{0}, @List.toList_toArray.{0}, @Bool.and_true, @Bool.not_true, @Bool.not_false, @Bool.false_or, @Bool.or_false, @Bool.or_true, @Bool.true_or, @Bool.and_false, @Bool.true_and, @Bool.false_and, @Bool.false_eq_true, @and_true, @true_and, @and_self, @Option.some.injEq.{0}, @ite_true.{1}⟩
theorem GP4 : type_of% @ite_false.{1} ∧ type_of% @decide_true ∧ type_of% @decide_false ∧ type_of% @not_true_eq_false ∧ type_of% @not_false_eq_true ∧ type_of% @beq_self_eq_true.{0} ∧ type_of% @Nat.zero_add ∧ type_of% @Nat.add_zero ∧ type_of% @Nat.le_refl ∧ type_of% @Nat.not_lt_zero ∧ type_of% @Option.isNone_some.{0} ∧ type_of% @Option.isSome_some.{0} ∧ type_of% @cond_true.{1} ∧ type_of% @cond_false.{1} :=
 ⟨@ite_false.{1}, @decide_true, @decide_false, @not_true_eq_false, @not_false_eq_true, @beq_self_eq_true.{0}, @Nat.zero_add, @Nat.add_zero, @Nat.le_refl, @Nat.not_lt_zero, @Option.isNone_some.{0}, @Option.isSome_some.{0}, @cond_true.{1}, @cond_false.{1}⟩
theorem GA : type_of% @GP0 ∧ type_of% @GP1 ∧ type_of% @GP2 ∧ type_of% @GP3 ∧ type_of% @GP4 :=
 ⟨@GP0, @GP1, @GP2, @GP3, @GP4⟩
theorem GX0 : type_of% @wz.eq_1 ∧ type_of% @wz.eq_2 ∧ type_of% @wz.eq_3 ∧ type_of% @wz.eq_4 ∧ type_of% @wz.eq_5 ∧ type_of% @wz.eq_6 ∧ type_of% @wz.eq_7 ∧ type_of% @dZ.eq_1 ∧ type_of% @dZ.eq_2 ∧ type_of% @vF.eq_1 ∧ type_of% @E.load.eq_1 ∧ type_of% @E.load.eq_2 ∧ type_of% @E.store.eq_1 ∧ type_of% @vV.eq_1 ∧ type_of% @vV.eq_2 ∧ type_of% @vV.eq_3 ∧ type_of% @vV.eq_4 ∧ type_of% @vV.eq_5 ∧ type_of% @vV.eq_6 ∧ type_of% @vV.eq_7 ∧ type_of% @vV.eq_8 ∧ type_of% @vV.eq_9 ∧ type_of% @vV.eq_10 ∧ type_of% @vV.eq_11 ∧ type_of% @qb.eq_1 ∧ type_of% @qb.eq_2 ∧ type_of% @qb.eq_3 ∧ type_of% @qb.eq_4 ∧ type_of% @qb.eq_5 ∧ type_of% @qb.eq_6 ∧ type_of% @qb.eq_7 ∧ type_of% @yd.eq_1 ∧ type_of% @yd.eq_2 ∧ type_of% @yd.eq_3 ∧ type_of% @yd.eq_4 ∧ type_of% @yd.eq_5 ∧ type_of% @kg.eq_1 ∧ type_of% @kg.eq_2 ∧ type_of% @kg.eq_3 ∧ type_of% @kg.eq_4 ∧ type_of% @fnV.eq_1 ∧ type_of% @fnV.eq_2 ∧ type_of% @yE.eq_1 ∧ type_of% @yE.eq_2 ∧ type_of% @yE.eq_3 :=
 ⟨@wz.eq_1, @wz.eq_2, @wz.eq_3, @wz.eq_4, @wz.eq_5, @wz.eq_6, @wz.eq_7, @dZ.eq_1, @dZ.eq_2, @vF.eq_1, @E.load.eq_1, @E.load.eq_2, @E.store.eq_1, @vV.eq_1, @vV.eq_2, @vV.eq_3, @vV.eq_4, @vV.eq_5, @vV.eq_6, @vV.eq_7, @vV.eq_8, @vV.eq_9, @vV.eq_10, @vV.eq_11, @qb.eq_1, @qb.eq_2, @qb.eq_3, @qb.eq_4, @qb.eq_5, @qb.eq_6, @qb.eq_7, @yd.eq_1, @yd.eq_2, @yd.eq_3, @yd.eq_4, @yd.eq_5, @kg.eq_1, @kg.eq_2, @kg.eq_3, @kg.eq_4, @fnV.eq_1, @fnV.eq_2, @yE.eq_1, @yE.eq_2, @yE.eq_3⟩
theorem GX1 : type_of% @yE.eq_4 ∧ type_of% @yE.eq_5 ∧ type_of% @yE.eq_6 ∧ type_of% @yE.eq_7 ∧ type_of% @so.eq_1 ∧ type_of% @so.eq_2 ∧ type_of% @so.eq_3 ∧ type_of% @sq.eq_1 ∧ type_of% @sq.eq_2 ∧ type_of% @sq.eq_3 ∧ type_of% @wS.eq_1 ∧ type_of% @wS.eq_2 ∧ type_of% @wS.eq_3 ∧ type_of% @wS.eq_4 ∧ type_of% @sr.eq_1 ∧ type_of% @sr.eq_2 ∧ type_of% @vS.eq_1 ∧ type_of% @vS.eq_2 ∧ type_of% @Y0.eq_1 ∧ type_of% @wD.eq_1 ∧ type_of% @wD.eq_2 ∧ type_of% @qf.eq_1 ∧ type_of% @qf.eq_2 ∧ type_of% @qf.eq_3 ∧ type_of% @vf.eq_1 ∧ type_of% @vf.eq_2 ∧ type_of% @vf.eq_3 ∧ type_of% @vf.eq_4 ∧ type_of% @Ri.eq_1 ∧ type_of% @Yf.eq_1 ∧ type_of% @pT.eq_1 ∧ type_of% @pT.eq_2 ∧ type_of% @yV.eq_1 ∧ type_of% @yV.eq_2 ∧ type_of% @yV.eq_3 ∧ type_of% @yV.eq_4 ∧ type_of% @yV.eq_5 ∧ type_of% @yV.eq_6 ∧ type_of% @Rl.eq_1 ∧ type_of% @ZZ.eq_1 :=
 ⟨@yE.eq_4, @yE.eq_5, @yE.eq_6, @yE.eq_7, @so.eq_1, @so.eq_2, @so.eq_3, @sq.eq_1, @sq.eq_2, @sq.eq_3, @wS.eq_1, @wS.eq_2, @wS.eq_3, @wS.eq_4, @sr.eq_1, @sr.eq_2, @vS.eq_1, @vS.eq_2, @Y0.eq_1, @wD.eq_1, @wD.eq_2, @qf.eq_1, @qf.eq_2, @qf.eq_3, @vf.eq_1, @vf.eq_2, @vf.eq_3, @vf.eq_4, @Ri.eq_1, @Yf.eq_1, @pT.eq_1, @pT.eq_2, @yV.eq_1, @yV.eq_2, @yV.eq_3, @yV.eq_4, @yV.eq_5, @yV.eq_6, @Rl.eq_1, @ZZ.eq_1⟩
/-- the words' equations, but for what is left over -/
theorem GX : type_of% @GX0 ∧ type_of% @GX1 := ⟨@GX0, @GX1⟩
theorem LL : type_of% @List.length_cons.{0} ∧ type_of% @List.length_append.{0} ∧ type_of% @List.length_nil.{0} ∧ type_of% @List.length_map.{0, 0} := ⟨@List.length_cons.{0}, @List.length_append.{0}, @List.length_nil.{0}, @List.length_map.{0, 0}⟩
theorem GZ : type_of% @Int.cast_ofNat_Int ∧ type_of% @u6 ∧ type_of% @de ∧ type_of% @dd ∧ type_of% @Option.isSome_none.{0} := ⟨@Int.cast_ofNat_Int, @u6, @de, @dd, @Option.isSome_none.{0}⟩
end Go.Proofs.YtonbkdklidfmfaaGreatDoor.E
/- Plain words about texts: digits, quotes, joins. Conditions: those of each lemma. -/
namespace Go.Proofs.YtonbkdklidfmfaaGreatDoor
set_option linter.unusedVariables false
set_option linter.unusedSimpArgs false
abbrev Str := List UInt8
abbrev B2 (a lo hi : Int) : Bool := decide (lo ≤ a) && decide (a ≤ hi)
/-- a byte's number -/
abbrev nb (b : UInt8) : Int := (b.toNat : Int)
theorem Tk (b : UInt8) : (b.toNat : Int) < 256 ∧ (0 : Int) ≤ (b.toNat : Int) := by have := b.toNat_lt; omega
/-- the parts between a byte -/
def xa (b : UInt8) : Str → List Str
 | [] => [[]]
 | x :: s => if x = b then [] :: xa b s else match xa b s with
  | p :: r => (x :: p) :: r
  | [] => [[x]]
end Go.Proofs.YtonbkdklidfmfaaGreatDoor
/- Lists of texts, trees: as the evaluator sees them; their sizes. Conditions: those of each lemma. -/
namespace Go.Proofs.YtonbkdklidfmfaaGreatDoor
open E
set_option linter.unusedSimpArgs false
set_option linter.unusedVariables false
set_option maxRecDepth 100000
/-- a list of texts -/
def strs (ks : List (List UInt8)) : List (List T) := ks.map fun s => [.str s]
def yb : List (List UInt8) → Nat
 | [] => 0
 | s :: ks => s.length + yb ks
theorem zh (ks : List (List UInt8)) : (strs ks).length = ks.length := by simp [strs]
theorem wi (ks : List (List UInt8)) (i : Nat) (h : i < ks.length) : (strs ks)[i]? = some [.str ks[i]] := by simp [strs, h]
theorem cS (ks : List (List UInt8)) (i : Nat) (h : i < ks.length) : yb (ks.drop i) = ks[i].length + yb (ks.drop (i + 1)) := by
 rw [List.drop_eq_getElem_cons h]; rfl
/-- a row filled up to a place -/
def ua (xs : List (List T)) (z : List T) (i : Nat) : List (List T) := xs.take i ++ List.replicate (xs.length - i) z
theorem mH (xs : List (List T)) (z : List T) : ua xs z 0 = List.replicate xs.length z := by simp [ua]
theorem jl (xs : List (List T)) (z : List T) : ua xs z xs.length = xs := by simp [ua]
theorem jk (xs : List (List T)) (z : List T) (i : Nat) (h : i < xs.length) : (ua xs z i)[i]? = some z := by
 unfold ua
 rw [List.getElem?_append_right (by simp; omega), List.getElem?_replicate, if_pos (by simp; omega)]
theorem jj (xs : List (List T)) (z : List T) (i : Nat) (h : i < xs.length) : (ua xs z i).set i xs[i] = ua xs z (i + 1) := by
 unfold ua
 apply List.ext_getElem?
 intro j
 rw [List.getElem?_set]
 by_cases hj : i = j
 · subst hj
   rw [if_pos rfl, if_pos (by simp; omega), List.getElem?_append_left (by simp; omega)]
   simp [h]
 · rw [if_neg hj]
   rcases Nat.lt_or_ge j i with hlt | hge
   · rw [List.getElem?_append_left (by simp; omega), List.getElem?_append_left (by simp; omega)]
     rw [List.getElem?_take, List.getElem?_take, if_pos hlt, if_pos (by omega)]
   · rw [List.getElem?_append_right (by simp; omega), List.getElem?_append_right (by simp; omega), List.getElem?_replicate, List.getElem?_replicate]
     simp only [List.length_take]
     by_cases hk : j < xs.length
     · rw [if_pos (by omega), if_pos (by omega)]
     · rw [if_neg (by omega), if_neg (by omega)]
inductive Tr where
 | mk (k n : Int) (s : List UInt8) (ks : List (List UInt8)) (cs : List Tr)
mutual
def Tr.enc : Tr → List T
 | .mk k n s ks cs => [.int .i64 k, .int .i64 n, .str s, .list 1 (strs ks), .list 5 (Tr.zi cs)]
def Tr.zi : List Tr → List (List T)
 | [] => []
 | c :: cs => Tr.enc c :: Tr.zi cs
end
mutual
def Tr.zV : Tr → Nat
 | .mk _ _ s ks cs => s.length + ks.length + yb ks + cs.length + Tr.zK cs
def Tr.zK : List Tr → Nat
 | [] => 0
 | c :: cs => Tr.zV c + Tr.zK cs
end
mutual
def Tr.ok : Tr → Prop
 | .mk _ _ s ks cs => s.length ≤ 9223372036854775807 ∧ ks.length ≤ 9223372036854775807 ∧ (∀ x ∈ ks, x.length ≤ 9223372036854775807) ∧ cs.length ≤ 9223372036854775807 ∧ Tr.oks cs
def Tr.oks : List Tr → Prop
 | [] => True
 | c :: cs => Tr.ok c ∧ Tr.oks cs
end
theorem Tr.iU : ∀ cs : List Tr, Tr.zi cs = cs.map Tr.enc
 | [] => rfl
 | c :: cs => by simp [Tr.zi, Tr.iU cs]
theorem Tr.zj (cs : List Tr) : (Tr.zi cs).length = cs.length := by simp [Tr.iU]
theorem Tr.xp (cs : List Tr) (i : Nat) (h : i < cs.length) : (Tr.zi cs)[i]? = some cs[i].enc := by simp [Tr.iU, h]
theorem Tr.xI (cs : List Tr) (i : Nat) (h : i < cs.length) : Tr.zK (cs.drop i) = cs[i].zV + Tr.zK (cs.drop (i + 1)) := by
 rw [List.drop_eq_getElem_cons h]; rfl
theorem Tr.yj : ∀ {cs : List Tr} {c : Tr}, c ∈ cs → c.zV ≤ Tr.zK cs
 | c' :: cs, c, h => by
  simp only [Tr.zK]
  rcases List.mem_cons.1 h with rfl | h
  · omega
  · have := Tr.yj h; omega
end Go.Proofs.YtonbkdklidfmfaaGreatDoor
/- The shelf's contracts at this program, laid by the kit's own tool. Conditions: none. -/
namespace Go.Proofs
open Go.Shelf
def Tryz.oZ : Go.Shelf.Ren := ⟨fun | 156 => 205 | 165 => 221 | 166 => 222 | 169 => 223 | 240 => 236 | 241 => 237 | 276 => 244 | 277 => 245 | n => n, fun | 31 => 22 | 9 => 9 | 3 => 3 | 4 => 4 | 0 => 0 | 20 => 20 | 72 => 202 | 76 => 193 | 70 => 200 | 37 => 40 | 75 => 192 | 127 => 212 | 164 => 223 | 5 => 5 | 80 => 204 | n => n, fun | n => n⟩
theorem Tryz.Z0 : Go.Proofs.Lays.n156 Tryz.prog Tryz.oZ := {
 mixed := by kernel_rfl
 f156 := Tryz.func205.trans (congrArg some (by kernel_rfl))
 f165 := Tryz.func221.trans (congrArg some (by kernel_rfl))
 f166 := Tryz.func222.trans (congrArg some (by kernel_rfl))
 f169 := Tryz.func223.trans (congrArg some (by kernel_rfl))
 f240 := Tryz.func236.trans (congrArg some (by kernel_rfl))
 f241 := Tryz.func237.trans (congrArg some (by kernel_rfl))
 f276 := Tryz.func244.trans (congrArg some (by kernel_rfl))
 f277 := Tryz.func245.trans (congrArg some (by kernel_rfl))
 t0 := Tryz.underlying0
 a0 := Tryz.isAgg0
 z0 := Tryz.sizeOf0
 v0 := Tryz.zeroValue0
 t3 := Tryz.underlying3
 a3 := Tryz.isAgg3
 z3 := Tryz.sizeOf3
 v3 := Tryz.zeroValue3
 t4 := Tryz.underlying4
 a4 := Tryz.isAgg4
 z4 := Tryz.sizeOf4
 v4 := Tryz.zeroValue4
 t9 := Tryz.underlying9
 a9 := Tryz.isAgg9
 z9 := Tryz.sizeOf9
 v9 := Tryz.zeroValue9
 t20 := Tryz.underlying20
 a20 := Tryz.isAgg20
 z20 := Tryz.sizeOf20
 v20 := Tryz.zeroValue20
 t31 := Tryz.underlying22
 a31 := Tryz.isAgg22
 z31 := Tryz.sizeOf22
 v31 := Tryz.zeroValue22
 t37 := Tryz.underlying40
 a37 := Tryz.isAgg40
 z37 := Tryz.sizeOf40
 v37 := Tryz.zeroValue40
 t70 := Tryz.underlying200
 a70 := Tryz.isAgg200
 z70 := Tryz.sizeOf200
 v70 := Tryz.zeroValue200
 t72 := Tryz.underlying202
 a72 := Tryz.isAgg202
 z72 := Tryz.sizeOf202
 v72 := Tryz.zeroValue202
 t75 := Tryz.underlying192
 a75 := Tryz.isAgg192
 z75 := Tryz.sizeOf192
 v75 := Tryz.zeroValue192
 t76 := Tryz.underlying193
 a76 := Tryz.isAgg193
 z76 := Tryz.sizeOf193
 v76 := Tryz.zeroValue193
 t127 := Tryz.underlying212
 a127 := Tryz.isAgg212
 z127 := Tryz.sizeOf212
 v127 := Tryz.zeroValue212
 t164 := Tryz.underlying223
 a164 := Tryz.isAgg223
 z164 := Tryz.sizeOf223
 v164 := Tryz.zeroValue223 }
theorem Tryz.uE : Builder.Extra Tryz.prog Tryz.oZ := {
 sizeBuilder := by kernel_rfl
 liesBuilder := by kernel_rfl
 t5 := Tryz.underlying5
 a5 := Tryz.isAgg5
 z5 := Tryz.sizeOf5
 v5 := Tryz.zeroValue5
 infoByte := by kernel_rfl
 cellsByte := by kernel_rfl
 sizeByte := by kernel_rfl
 neB5 := by decide }
def Tryz.gS : Go.Shelf.Ren := ⟨fun | 106 => 108 | 213 => 133 | 265 => 169 | n => n, fun | 9 => 9 | 3 => 3 | n => n, fun | n => n⟩
theorem Tryz.Sg : Go.Proofs.Lays.n106 Tryz.prog Tryz.gS := {
 mixed := by kernel_rfl
 f106 := Tryz.func108.trans (congrArg some (by kernel_rfl))
 f213 := Tryz.func133.trans (congrArg some (by kernel_rfl))
 f265 := Tryz.func169.trans (congrArg some (by kernel_rfl))
 t3 := Tryz.underlying3
 a3 := Tryz.isAgg3
 z3 := Tryz.sizeOf3
 v3 := Tryz.zeroValue3
 t9 := Tryz.underlying9
 a9 := Tryz.isAgg9
 z9 := Tryz.sizeOf9
 v9 := Tryz.zeroValue9 }
def Tryz.jS : Go.Shelf.Ren := ⟨fun | 171 => 217 | 243 => 235 | 246 => 243 | 283 => 248 | 284 => 249 | 285 => 250 | 286 => 251 | 129 => 147 | 317 => 252 | 318 => 253 | 319 => 254 | 320 => 255 | 337 => 256 | 338 => 257 | n => n, fun | 3 => 3 | 9 => 9 | 2 => 2 | 4 => 4 | 171 => 230 | 0 => 0 | 53 => 146 | 37 => 40 | 5 => 5 | 173 => 232 | 212 => 235 | 51 => 144 | 20 => 20 | 213 => 236 | 46 => 120 | 232 => 238 | 233 => 239 | n => n, fun | 17 => 5 | 18 => 6 | 19 => 7 | n => n⟩
theorem Tryz.WS : Go.Proofs.LaysM.n171 Tryz.prog Tryz.jS := {
 mixed := by kernel_rfl
 f129 := Tryz.func147.trans (congrArg some (by kernel_rfl))
 f171 := Tryz.func217.trans (congrArg some (by kernel_rfl))
 f243 := Tryz.func235.trans (congrArg some (by kernel_rfl))
 f246 := Tryz.func243.trans (congrArg some (by kernel_rfl))
 f283 := Tryz.func248.trans (congrArg some (by kernel_rfl))
 f284 := Tryz.func249.trans (congrArg some (by kernel_rfl))
 f285 := Tryz.func250.trans (congrArg some (by kernel_rfl))
 f286 := Tryz.func251.trans (congrArg some (by kernel_rfl))
 f317 := Tryz.func252.trans (congrArg some (by kernel_rfl))
 f318 := Tryz.func253.trans (congrArg some (by kernel_rfl))
 f319 := Tryz.func254.trans (congrArg some (by kernel_rfl))
 f320 := Tryz.func255.trans (congrArg some (by kernel_rfl))
 f337 := Tryz.func256.trans (congrArg some (by kernel_rfl))
 f338 := Tryz.func257.trans (congrArg some (by kernel_rfl))
 t0 := Tryz.underlying0
 a0 := Tryz.isAgg0
 z0 := Tryz.sizeOf0
 v0 := Tryz.zeroValue0
 t2 := Tryz.underlying2
 a2 := Tryz.isAgg2
 z2 := Tryz.sizeOf2
 v2 := Tryz.zeroValue2
 t3 := Tryz.underlying3
 a3 := Tryz.isAgg3
 z3 := Tryz.sizeOf3
 v3 := Tryz.zeroValue3
 t4 := Tryz.underlying4
 a4 := Tryz.isAgg4
 z4 := Tryz.sizeOf4
 v4 := Tryz.zeroValue4
 t5 := Tryz.underlying5
 a5 := Tryz.isAgg5
 z5 := Tryz.sizeOf5
 v5 := Tryz.zeroValue5
 t9 := Tryz.underlying9
 a9 := Tryz.isAgg9
 z9 := Tryz.sizeOf9
 v9 := Tryz.zeroValue9
 t20 := Tryz.underlying20
 a20 := Tryz.isAgg20
 z20 := Tryz.sizeOf20
 v20 := Tryz.zeroValue20
 t37 := Tryz.underlying40
 a37 := Tryz.isAgg40
 z37 := Tryz.sizeOf40
 v37 := Tryz.zeroValue40
 t46 := Tryz.underlying120
 a46 := Tryz.isAgg120
 z46 := Tryz.sizeOf120
 v46 := Tryz.zeroValue120
 t51 := Tryz.underlying144
 a51 := Tryz.isAgg144
 z51 := Tryz.sizeOf144
 v51 := Tryz.zeroValue144
 t53 := Tryz.underlying146
 a53 := Tryz.isAgg146
 z53 := Tryz.sizeOf146
 v53 := Tryz.zeroValue146
 t171 := Tryz.underlying230
 a171 := Tryz.isAgg230
 z171 := Tryz.sizeOf230
 v171 := Tryz.zeroValue230
 t173 := Tryz.underlying232
 a173 := Tryz.isAgg232
 z173 := Tryz.sizeOf232
 v173 := Tryz.zeroValue232
 t212 := Tryz.underlying235
 a212 := Tryz.isAgg235
 z212 := Tryz.sizeOf235
 v212 := Tryz.zeroValue235
 t213 := Tryz.underlying236
 a213 := Tryz.isAgg236
 z213 := Tryz.sizeOf236
 t232 := Tryz.underlying238
 a232 := Tryz.isAgg238
 z232 := Tryz.sizeOf238
 v232 := Tryz.zeroValue238
 t233 := Tryz.underlying239
 a233 := Tryz.isAgg239
 z233 := Tryz.sizeOf239
 v233 := Tryz.zeroValue239
 g17 := by kernel_rfl
 g18 := by kernel_rfl
 g19 := by kernel_rfl
 i0 := by kernel_rfl
 i2 := by kernel_rfl
 i3 := by kernel_rfl
 i4 := by kernel_rfl
 i5 := by kernel_rfl
 i9 := by kernel_rfl
 i20 := by kernel_rfl
 i37 := by kernel_rfl
 i46 := by kernel_rfl
 i51 := by kernel_rfl
 i53 := by kernel_rfl
 i171 := by kernel_rfl
 i173 := by kernel_rfl
 i212 := by kernel_rfl
 i232 := by kernel_rfl
 i233 := by kernel_rfl
 m17 := by kernel_rfl
 m18 := by kernel_rfl
 m19 := by kernel_rfl }
def Tryz.jT : Go.Shelf.Ren := ⟨fun | 172 => 202 | 244 => 215 | 245 => 216 | 247 => 230 | 279 => 231 | 280 => 232 | 281 => 233 | 282 => 234 | 287 => 240 | 316 => 241 | 171 => 217 | 205 => 242 | 321 => 246 | 322 => 247 | 243 => 235 | 246 => 243 | 283 => 248 | 284 => 249 | 285 => 250 | 286 => 251 | 129 => 147 | 317 => 252 | 318 => 253 | 319 => 254 | 320 => 255 | 337 => 256 | 338 => 257 | n => n, fun | 9 => 9 | 3 => 3 | 75 => 192 | 76 => 193 | 4 => 4 | 5 => 5 | 167 => 206 | 37 => 40 | 0 => 0 | 85 => 207 | 2 => 2 | 168 => 209 | 53 => 146 | 175 => 217 | 46 => 120 | 210 => 220 | 127 => 212 | 145 => 229 | 143 => 227 | 21 => 21 | 171 => 230 | 173 => 232 | 212 => 235 | 51 => 144 | 20 => 20 | 213 => 236 | 232 => 238 | 233 => 239 | 80 => 204 | n => n, fun | 15 => 3 | 16 => 4 | 17 => 5 | 18 => 6 | 19 => 7 | n => n⟩
theorem Tryz.lk : Go.Proofs.LaysC.n172 Tryz.prog Tryz.jT := {
 mixed := by kernel_rfl
 f129 := Tryz.func147.trans (congrArg some (by kernel_rfl))
 f171 := Tryz.func217.trans (congrArg some (by kernel_rfl))
 f172 := Tryz.func202.trans (congrArg some (by kernel_rfl))
 f205 := Tryz.func242.trans (congrArg some (by kernel_rfl))
 f243 := Tryz.func235.trans (congrArg some (by kernel_rfl))
 f244 := Tryz.func215.trans (congrArg some (by kernel_rfl))
 f245 := Tryz.func216.trans (congrArg some (by kernel_rfl))
 f246 := Tryz.func243.trans (congrArg some (by kernel_rfl))
 f247 := Tryz.func230.trans (congrArg some (by kernel_rfl))
 f279 := Tryz.func231.trans (congrArg some (by kernel_rfl))
 f280 := Tryz.func232.trans (congrArg some (by kernel_rfl))
 f281 := Tryz.func233.trans (congrArg some (by kernel_rfl))
 f282 := Tryz.func234.trans (congrArg some (by kernel_rfl))
 f283 := Tryz.func248.trans (congrArg some (by kernel_rfl))
 f284 := Tryz.func249.trans (congrArg some (by kernel_rfl))
 f285 := Tryz.func250.trans (congrArg some (by kernel_rfl))
 f286 := Tryz.func251.trans (congrArg some (by kernel_rfl))
 f287 := Tryz.func240.trans (congrArg some (by kernel_rfl))
 f316 := Tryz.func241.trans (congrArg some (by kernel_rfl))
 f317 := Tryz.func252.trans (congrArg some (by kernel_rfl))
 f318 := Tryz.func253.trans (congrArg some (by kernel_rfl))
 f319 := Tryz.func254.trans (congrArg some (by kernel_rfl))
 f320 := Tryz.func255.trans (congrArg some (by kernel_rfl))
 f321 := Tryz.func246.trans (congrArg some (by kernel_rfl))
 f322 := Tryz.func247.trans (congrArg some (by kernel_rfl))
 f337 := Tryz.func256.trans (congrArg some (by kernel_rfl))
 f338 := Tryz.func257.trans (congrArg some (by kernel_rfl))
 t0 := Tryz.underlying0
 a0 := Tryz.isAgg0
 z0 := Tryz.sizeOf0
 v0 := Tryz.zeroValue0
 t2 := Tryz.underlying2
 a2 := Tryz.isAgg2
 z2 := Tryz.sizeOf2
 v2 := Tryz.zeroValue2
 t3 := Tryz.underlying3
 a3 := Tryz.isAgg3
 z3 := Tryz.sizeOf3
 v3 := Tryz.zeroValue3
 t4 := Tryz.underlying4
 a4 := Tryz.isAgg4
 z4 := Tryz.sizeOf4
 v4 := Tryz.zeroValue4
 t5 := Tryz.underlying5
 a5 := Tryz.isAgg5
 z5 := Tryz.sizeOf5
 v5 := Tryz.zeroValue5
 t9 := Tryz.underlying9
 a9 := Tryz.isAgg9
 z9 := Tryz.sizeOf9
 v9 := Tryz.zeroValue9
 t20 := Tryz.underlying20
 a20 := Tryz.isAgg20
 z20 := Tryz.sizeOf20
 v20 := Tryz.zeroValue20
 t21 := Tryz.underlying21
 a21 := Tryz.isAgg21
 z21 := Tryz.sizeOf21
 v21 := Tryz.zeroValue21
 t37 := Tryz.underlying40
 a37 := Tryz.isAgg40
 z37 := Tryz.sizeOf40
 v37 := Tryz.zeroValue40
 t46 := Tryz.underlying120
 a46 := Tryz.isAgg120
 z46 := Tryz.sizeOf120
 v46 := Tryz.zeroValue120
 t51 := Tryz.underlying144
 a51 := Tryz.isAgg144
 z51 := Tryz.sizeOf144
 v51 := Tryz.zeroValue144
 t53 := Tryz.underlying146
 a53 := Tryz.isAgg146
 z53 := Tryz.sizeOf146
 v53 := Tryz.zeroValue146
 t75 := Tryz.underlying192
 a75 := Tryz.isAgg192
 z75 := Tryz.sizeOf192
 v75 := Tryz.zeroValue192
 t76 := Tryz.underlying193
 a76 := Tryz.isAgg193
 z76 := Tryz.sizeOf193
 v76 := Tryz.zeroValue193
 t85 := Tryz.underlying207
 a85 := Tryz.isAgg207
 z85 := Tryz.sizeOf207
 v85 := Tryz.zeroValue207
 t127 := Tryz.underlying212
 a127 := Tryz.isAgg212
 z127 := Tryz.sizeOf212
 v127 := Tryz.zeroValue212
 t143 := Tryz.underlying227
 a143 := Tryz.isAgg227
 z143 := Tryz.sizeOf227
 v143 := Tryz.zeroValue227
 t145 := Tryz.underlying229
 a145 := Tryz.isAgg229
 z145 := Tryz.sizeOf229
 v145 := Tryz.zeroValue229
 t167 := Tryz.underlying206
 a167 := Tryz.isAgg206
 z167 := Tryz.sizeOf206
 v167 := Tryz.zeroValue206
 t168 := Tryz.underlying209
 a168 := Tryz.isAgg209
 z168 := Tryz.sizeOf209
 v168 := Tryz.zeroValue209
 t171 := Tryz.underlying230
 a171 := Tryz.isAgg230
 z171 := Tryz.sizeOf230
 v171 := Tryz.zeroValue230
 t173 := Tryz.underlying232
 a173 := Tryz.isAgg232
 z173 := Tryz.sizeOf232
 v173 := Tryz.zeroValue232
 t175 := Tryz.underlying217
 a175 := Tryz.isAgg217
 z175 := Tryz.sizeOf217
 v175 := Tryz.zeroValue217
 t210 := Tryz.underlying220
 a210 := Tryz.isAgg220
 z210 := Tryz.sizeOf220
 v210 := Tryz.zeroValue220
 t212 := Tryz.underlying235
 a212 := Tryz.isAgg235
 z212 := Tryz.sizeOf235
 v212 := Tryz.zeroValue235
 t213 := Tryz.underlying236
 a213 := Tryz.isAgg236
 z213 := Tryz.sizeOf236
 t232 := Tryz.underlying238
 a232 := Tryz.isAgg238
 z232 := Tryz.sizeOf238
 v232 := Tryz.zeroValue238
 t233 := Tryz.underlying239
 a233 := Tryz.isAgg239
 z233 := Tryz.sizeOf239
 v233 := Tryz.zeroValue239
 g15 := by kernel_rfl
 g16 := by kernel_rfl
 g17 := by kernel_rfl
 g18 := by kernel_rfl
 g19 := by kernel_rfl
 t80 := Tryz.underlying204
 a80 := Tryz.isAgg204
 z80 := Tryz.sizeOf204
 v80 := Tryz.zeroValue204
 i0 := by kernel_rfl
 i2 := by kernel_rfl
 i3 := by kernel_rfl
 i4 := by kernel_rfl
 i5 := by kernel_rfl
 i9 := by kernel_rfl
 i20 := by kernel_rfl
 i21 := by kernel_rfl
 i37 := by kernel_rfl
 i46 := by kernel_rfl
 i51 := by kernel_rfl
 i53 := by kernel_rfl
 i75 := by kernel_rfl
 i76 := by kernel_rfl
 i80 := by kernel_rfl
 i85 := by kernel_rfl
 i127 := by kernel_rfl
 i143 := by kernel_rfl
 i145 := by kernel_rfl
 i167 := by kernel_rfl
 i168 := by kernel_rfl
 i171 := by kernel_rfl
 i173 := by kernel_rfl
 i175 := by kernel_rfl
 i210 := by kernel_rfl
 i212 := by kernel_rfl
 i232 := by kernel_rfl
 i233 := by kernel_rfl
 m15 := by kernel_rfl
 m16 := by kernel_rfl
 m17 := by kernel_rfl
 m18 := by kernel_rfl
 m19 := by kernel_rfl
 c0 := by kernel_rfl
 c2 := by kernel_rfl
 c3 := by kernel_rfl
 c4 := by kernel_rfl
 c5 := by kernel_rfl
 c9 := by kernel_rfl
 c20 := by kernel_rfl
 c21 := by kernel_rfl
 c37 := by kernel_rfl
 c46 := by kernel_rfl
 c51 := by kernel_rfl
 c53 := by kernel_rfl
 c75 := by kernel_rfl
 c76 := by kernel_rfl
 c80 := by kernel_rfl
 c85 := by kernel_rfl
 c127 := by kernel_rfl
 c143 := by kernel_rfl
 c145 := by kernel_rfl
 c167 := by kernel_rfl
 c168 := by kernel_rfl
 c171 := by kernel_rfl
 c173 := by kernel_rfl
 c175 := by kernel_rfl
 c210 := by kernel_rfl
 c212 := by kernel_rfl
 c213 := by kernel_rfl
 c232 := by kernel_rfl
 c233 := by kernel_rfl }
def Tryz.tH : Go.Shelf.Ren := ⟨fun | 145 => 185 | 220 => 201 | 219 => 214 | 217 => 226 | 225 => 227 | 224 => 228 | 267 => 229 | 266 => 238 | 314 => 239 | n => n, fun | 9 => 9 | 4 => 4 | 59 => 179 | 3 => 3 | 5 => 5 | 46 => 120 | 146 => 182 | 51 => 144 | n => n, fun | 1 => 0 | n => n⟩
theorem Tryz.eG : Go.Proofs.LaysM.n145 Tryz.prog Tryz.tH := {
 mixed := by kernel_rfl
 f145 := Tryz.func185.trans (congrArg some (by kernel_rfl))
 f217 := Tryz.func226.trans (congrArg some (by kernel_rfl))
 f219 := Tryz.func214.trans (congrArg some (by kernel_rfl))
 f220 := Tryz.func201.trans (congrArg some (by kernel_rfl))
 f224 := Tryz.func228.trans (congrArg some (by kernel_rfl))
 f225 := Tryz.func227.trans (congrArg some (by kernel_rfl))
 f266 := Tryz.func238.trans (congrArg some (by kernel_rfl))
 f267 := Tryz.func229.trans (congrArg some (by kernel_rfl))
 f314 := Tryz.func239.trans (congrArg some (by kernel_rfl))
 t3 := Tryz.underlying3
 a3 := Tryz.isAgg3
 z3 := Tryz.sizeOf3
 v3 := Tryz.zeroValue3
 t4 := Tryz.underlying4
 a4 := Tryz.isAgg4
 z4 := Tryz.sizeOf4
 v4 := Tryz.zeroValue4
 t5 := Tryz.underlying5
 a5 := Tryz.isAgg5
 z5 := Tryz.sizeOf5
 v5 := Tryz.zeroValue5
 t9 := Tryz.underlying9
 a9 := Tryz.isAgg9
 z9 := Tryz.sizeOf9
 v9 := Tryz.zeroValue9
 t46 := Tryz.underlying120
 a46 := Tryz.isAgg120
 z46 := Tryz.sizeOf120
 v46 := Tryz.zeroValue120
 t51 := Tryz.underlying144
 a51 := Tryz.isAgg144
 z51 := Tryz.sizeOf144
 v51 := Tryz.zeroValue144
 t59 := Tryz.underlying179
 a59 := Tryz.isAgg179
 z59 := Tryz.sizeOf179
 v59 := Tryz.zeroValue179
 t146 := Tryz.underlying182
 a146 := Tryz.isAgg182
 z146 := Tryz.sizeOf182
 v146 := Tryz.zeroValue182
 g1 := by kernel_rfl
 i3 := by kernel_rfl
 i4 := by kernel_rfl
 i5 := by kernel_rfl
 i9 := by kernel_rfl
 i46 := by kernel_rfl
 i51 := by kernel_rfl
 i59 := by kernel_rfl
 i146 := by kernel_rfl
 m1 := by kernel_rfl
 s1_3 := fun w h => Go.Proofs.cell_of_shapedOpen_int (zero := #[.int .i64 0]) (t := 3) h (of_decide_eq_true (by kernel_rfl)) (by kernel_rfl) rfl (by kernel_rfl) (by kernel_rfl) Tryz.underlying3 }
def Tryz.gR : Go.Shelf.Ren := ⟨fun | 190 => 79 | 125 => 118 | 258 => 117 | 128 => 146 | 129 => 147 | 302 => 137 | 303 => 138 | 304 => 139 | 305 => 140 | 306 => 141 | 307 => 142 | 308 => 143 | 309 => 144 | 310 => 145 | 333 => 174 | 329 => 175 | 330 => 176 | 334 => 177 | 335 => 178 | 336 => 179 | 344 => 193 | n => n, fun | 31 => 22 | 9 => 9 | 3 => 3 | 46 => 120 | 0 => 0 | 51 => 144 | 53 => 146 | 4 => 4 | 183 => 136 | 182 => 135 | 131 => 141 | 5 => 5 | 218 => 170 | 222 => 174 | 228 => 185 | 229 => 186 | n => n, fun | n => n⟩
theorem Tryz.aZ : Go.Proofs.Lays.n190 Tryz.prog Tryz.gR := {
 mixed := by kernel_rfl
 f125 := Tryz.func118.trans (congrArg some (by kernel_rfl))
 f128 := Tryz.func146.trans (congrArg some (by kernel_rfl))
 f129 := Tryz.func147.trans (congrArg some (by kernel_rfl))
 f190 := Tryz.func79.trans (congrArg some (by kernel_rfl))
 f258 := Tryz.func117.trans (congrArg some (by kernel_rfl))
 f302 := Tryz.func137.trans (congrArg some (by kernel_rfl))
 f303 := Tryz.func138.trans (congrArg some (by kernel_rfl))
 f304 := Tryz.func139.trans (congrArg some (by kernel_rfl))
 f305 := Tryz.func140.trans (congrArg some (by kernel_rfl))
 f306 := Tryz.func141.trans (congrArg some (by kernel_rfl))
 f307 := Tryz.func142.trans (congrArg some (by kernel_rfl))
 f308 := Tryz.func143.trans (congrArg some (by kernel_rfl))
 f309 := Tryz.func144.trans (congrArg some (by kernel_rfl))
 f310 := Tryz.func145.trans (congrArg some (by kernel_rfl))
 f329 := Tryz.func175.trans (congrArg some (by kernel_rfl))
 f330 := Tryz.func176.trans (congrArg some (by kernel_rfl))
 f333 := Tryz.func174.trans (congrArg some (by kernel_rfl))
 f334 := Tryz.func177.trans (congrArg some (by kernel_rfl))
 f335 := Tryz.func178.trans (congrArg some (by kernel_rfl))
 f336 := Tryz.func179.trans (congrArg some (by kernel_rfl))
 f344 := Tryz.func193.trans (congrArg some (by kernel_rfl))
 t0 := Tryz.underlying0
 a0 := Tryz.isAgg0
 z0 := Tryz.sizeOf0
 v0 := Tryz.zeroValue0
 t3 := Tryz.underlying3
 a3 := Tryz.isAgg3
 z3 := Tryz.sizeOf3
 v3 := Tryz.zeroValue3
 t4 := Tryz.underlying4
 a4 := Tryz.isAgg4
 z4 := Tryz.sizeOf4
 v4 := Tryz.zeroValue4
 t5 := Tryz.underlying5
 a5 := Tryz.isAgg5
 z5 := Tryz.sizeOf5
 v5 := Tryz.zeroValue5
 t9 := Tryz.underlying9
 a9 := Tryz.isAgg9
 z9 := Tryz.sizeOf9
 v9 := Tryz.zeroValue9
 t31 := Tryz.underlying22
 a31 := Tryz.isAgg22
 z31 := Tryz.sizeOf22
 v31 := Tryz.zeroValue22
 t46 := Tryz.underlying120
 a46 := Tryz.isAgg120
 z46 := Tryz.sizeOf120
 v46 := Tryz.zeroValue120
 t51 := Tryz.underlying144
 a51 := Tryz.isAgg144
 z51 := Tryz.sizeOf144
 v51 := Tryz.zeroValue144
 t53 := Tryz.underlying146
 a53 := Tryz.isAgg146
 z53 := Tryz.sizeOf146
 v53 := Tryz.zeroValue146
 t131 := Tryz.underlying141
 a131 := Tryz.isAgg141
 z131 := Tryz.sizeOf141
 v131 := Tryz.zeroValue141
 t182 := Tryz.underlying135
 a182 := Tryz.isAgg135
 z182 := Tryz.sizeOf135
 v182 := Tryz.zeroValue135
 t183 := Tryz.underlying136
 a183 := Tryz.isAgg136
 z183 := Tryz.sizeOf136
 v183 := Tryz.zeroValue136
 t218 := Tryz.underlying170
 a218 := Tryz.isAgg170
 z218 := Tryz.sizeOf170
 v218 := Tryz.zeroValue170
 t222 := Tryz.underlying174
 a222 := Tryz.isAgg174
 z222 := Tryz.sizeOf174
 v222 := Tryz.zeroValue174
 t228 := Tryz.underlying185
 a228 := Tryz.isAgg185
 z228 := Tryz.sizeOf185
 v228 := Tryz.zeroValue185
 t229 := Tryz.underlying186
 a229 := Tryz.isAgg186
 z229 := Tryz.sizeOf186
 v229 := Tryz.zeroValue186 }
def Tryz.tG : Go.Shelf.Ren := ⟨fun | 146 => 152 | 221 => 183 | 268 => 198 | 138 => 199 | 143 => 200 | 195 => 211 | 197 => 212 | 218 => 213 | 219 => 214 | 260 => 225 | 217 => 226 | 225 => 227 | 224 => 228 | 267 => 229 | 266 => 238 | 314 => 239 | n => n, fun | 9 => 9 | 31 => 22 | 3 => 3 | 4 => 4 | 0 => 0 | 105 => 197 | 21 => 21 | 5 => 5 | 46 => 120 | 119 => 213 | 139 => 216 | 138 => 215 | 146 => 182 | 51 => 144 | n => n, fun | 1 => 0 | 3 => 1 | 4 => 2 | n => n⟩
theorem Tryz.eF : Go.Proofs.LaysM.n146 Tryz.prog Tryz.tG := {
 mixed := by kernel_rfl
 f138 := Tryz.func199.trans (congrArg some (by kernel_rfl))
 f143 := Tryz.func200.trans (congrArg some (by kernel_rfl))
 f146 := Tryz.func152.trans (congrArg some (by kernel_rfl))
 f195 := Tryz.func211.trans (congrArg some (by kernel_rfl))
 f197 := Tryz.func212.trans (congrArg some (by kernel_rfl))
 f217 := Tryz.func226.trans (congrArg some (by kernel_rfl))
 f218 := Tryz.func213.trans (congrArg some (by kernel_rfl))
 f219 := Tryz.func214.trans (congrArg some (by kernel_rfl))
 f221 := Tryz.func183.trans (congrArg some (by kernel_rfl))
 f224 := Tryz.func228.trans (congrArg some (by kernel_rfl))
 f225 := Tryz.func227.trans (congrArg some (by kernel_rfl))
 f260 := Tryz.func225.trans (congrArg some (by kernel_rfl))
 f266 := Tryz.func238.trans (congrArg some (by kernel_rfl))
 f267 := Tryz.func229.trans (congrArg some (by kernel_rfl))
 f268 := Tryz.func198.trans (congrArg some (by kernel_rfl))
 f314 := Tryz.func239.trans (congrArg some (by kernel_rfl))
 t0 := Tryz.underlying0
 a0 := Tryz.isAgg0
 z0 := Tryz.sizeOf0
 v0 := Tryz.zeroValue0
 t3 := Tryz.underlying3
 a3 := Tryz.isAgg3
 z3 := Tryz.sizeOf3
 v3 := Tryz.zeroValue3
 t4 := Tryz.underlying4
 a4 := Tryz.isAgg4
 z4 := Tryz.sizeOf4
 v4 := Tryz.zeroValue4
 t5 := Tryz.underlying5
 a5 := Tryz.isAgg5
 z5 := Tryz.sizeOf5
 v5 := Tryz.zeroValue5
 t9 := Tryz.underlying9
 a9 := Tryz.isAgg9
 z9 := Tryz.sizeOf9
 v9 := Tryz.zeroValue9
 t21 := Tryz.underlying21
 a21 := Tryz.isAgg21
 z21 := Tryz.sizeOf21
 v21 := Tryz.zeroValue21
 t31 := Tryz.underlying22
 a31 := Tryz.isAgg22
 z31 := Tryz.sizeOf22
 v31 := Tryz.zeroValue22
 t46 := Tryz.underlying120
 a46 := Tryz.isAgg120
 z46 := Tryz.sizeOf120
 v46 := Tryz.zeroValue120
 t51 := Tryz.underlying144
 a51 := Tryz.isAgg144
 z51 := Tryz.sizeOf144
 v51 := Tryz.zeroValue144
 t105 := Tryz.underlying197
 a105 := Tryz.isAgg197
 z105 := Tryz.sizeOf197
 v105 := Tryz.zeroValue197
 t119 := Tryz.underlying213
 a119 := Tryz.isAgg213
 z119 := Tryz.sizeOf213
 t138 := Tryz.underlying215
 a138 := Tryz.isAgg215
 z138 := Tryz.sizeOf215
 v138 := Tryz.zeroValue215
 t139 := Tryz.underlying216
 a139 := Tryz.isAgg216
 z139 := Tryz.sizeOf216
 v139 := Tryz.zeroValue216
 t146 := Tryz.underlying182
 a146 := Tryz.isAgg182
 z146 := Tryz.sizeOf182
 v146 := Tryz.zeroValue182
 g1 := by kernel_rfl
 g3 := by kernel_rfl
 g4 := by kernel_rfl
 i0 := by kernel_rfl
 i3 := by kernel_rfl
 i4 := by kernel_rfl
 i5 := by kernel_rfl
 i9 := by kernel_rfl
 i21 := by kernel_rfl
 i31 := by kernel_rfl
 i46 := by kernel_rfl
 i51 := by kernel_rfl
 i105 := by kernel_rfl
 i138 := by kernel_rfl
 i139 := by kernel_rfl
 i146 := by kernel_rfl
 m1 := by kernel_rfl
 s1_3 := fun w h => Go.Proofs.cell_of_shapedOpen_int (zero := #[.int .i64 0]) (t := 3) h (of_decide_eq_true (by kernel_rfl)) (by kernel_rfl) rfl (by kernel_rfl) (by kernel_rfl) Tryz.underlying3
 m3 := by kernel_rfl
 m4 := by kernel_rfl }
def Tryz.gQ : Go.Shelf.Ren := ⟨fun | 194 => 105 | n => n, fun | 31 => 22 | 9 => 9 | 3 => 3 | 4 => 4 | 0 => 0 | n => n, fun | n => n⟩
theorem Tryz.aY : Go.Proofs.Lays.n194 Tryz.prog Tryz.gQ := {
 mixed := by kernel_rfl
 f194 := Tryz.func105.trans (congrArg some (by kernel_rfl))
 t0 := Tryz.underlying0
 a0 := Tryz.isAgg0
 z0 := Tryz.sizeOf0
 v0 := Tryz.zeroValue0
 t3 := Tryz.underlying3
 a3 := Tryz.isAgg3
 z3 := Tryz.sizeOf3
 v3 := Tryz.zeroValue3
 t4 := Tryz.underlying4
 a4 := Tryz.isAgg4
 z4 := Tryz.sizeOf4
 v4 := Tryz.zeroValue4
 t9 := Tryz.underlying9
 a9 := Tryz.isAgg9
 z9 := Tryz.sizeOf9
 v9 := Tryz.zeroValue9
 t31 := Tryz.underlying22
 a31 := Tryz.isAgg22
 z31 := Tryz.sizeOf22
 v31 := Tryz.zeroValue22 }
end Go.Proofs
/- What the library's functions answer, by the kit's own contract. Conditions: those of each lemma. -/
namespace Go.Proofs
open Go.Shelf
theorem Tryz.join_none (a : Option Addr) (c : Nat) (sep : ByteArray) (w : World) :
 Calls Tryz.prog 205 #[.slice a 0 c, .string sep] w fun e w' => e = .returned (.string ⟨#[]⟩) ∧ w' = w := Any.strings_Join_none Tryz.Z0 Tryz.uE a c sep w
theorem Tryz.join_some (bk o c : Nat) (xs : List ByteArray) (sep : ByteArray) (w : World)
 (hcells : ∀ (j : Nat) x, xs[j]? = some x → w.cell? ⟨bk, o + j, none⟩ = some (.string x))
 (hbk : bk < w.heap.size) (hN : xs.length ≤ 140737488355328) (hcap : xs.length ≤ c)
 (hlen : (Lib.join (xs.map (·.data.toList)) sep.data.toList).length ≤ 140737488355328) :
 Calls Tryz.prog 205 #[.slice (some ⟨bk, o, none⟩) xs.length c, .string sep] w fun e w' => e = .returned (.string ⟨(Lib.join (xs.map (·.data.toList)) sep.data.toList).toArray⟩) ∧ Go.RowKit.Below w.heap.size w w' :=
 Any.strings_Join Tryz.Z0 Tryz.uE bk o c xs sep w hcells hbk hN hcap hlen
theorem Tryz.itoa (n : Int) (h0 : -9223372036854775808 ≤ n) (h1 : n ≤ 9223372036854775807) (w : World) (htab : Lib.TabIs Tryz.prog w "internal/strconv.uint64pow10" .u64 Lib.pow10Tab) :
 Calls Tryz.prog 217 #[.int .i64 n] w fun e w' => e = .returned (.string ⟨(Lib.itoa n).toArray⟩) ∧ ∃ k os, w' = Go.Sort.grow (w.drewN k) os := Any.strconv_Itoa Tryz.WS n h0 h1 w htab
theorem Tryz.gZ (w : World) (e : TypeId) (s : ByteArray) : Go.RowKit.Below w.heap.size w (Lib.bytesWorld w e s) :=
 ⟨rfl, rfl, rfl, by rw [Lib.bytesWorld_size]; omega, fun k hk => Lib.bytesWorld_at_old w e s k hk⟩
theorem Tryz.R4 (s : ByteArray) (hmax : s.size ≤ 281474976710656) (v : Int) (h : Lib.atoiAll s.data.toList = .ok v) (w : World) :
 Calls Tryz.prog 202 #[.string s] w fun e w' => e = .returned (.tuple #[.int .i64 v, .nilIface]) ∧ Go.RowKit.Below w.heap.size w w' :=
 (Any.strconv_Atoi_ok Tryz.lk s (by omega) v h w).mono fun e w' ⟨h1, h2⟩ => ⟨h1, by
  rcases h2 with rfl | ⟨t, rfl⟩
  · exact Go.RowKit.Below.refl _ _
  · exact Tryz.gZ _ _ _⟩
theorem Tryz.VB (s : ByteArray) (hlim : s.size ≤ 281474976710656) (h : Lib.atoiAll s.data.toList = Lib.NumEnd.syntax) (tp : TypeId) (p : Value) (w : World) (hvar : w.var? Tryz.prog "strconv.ErrSyntax" = some #[.iface tp p]) :
 Calls Tryz.prog 202 #[.string s] w fun e w' => ∃ t z, e = .returned (.tuple #[.int .i64 0, .iface t z]) ∧ Go.RowKit.Below w.heap.size w w' :=
 (Any.strconv_Atoi_syntax_var Tryz.lk s hlim h tp p w hvar).mono fun e w' ⟨N, h1, _, _, h2⟩ => ⟨_, _, h1, h2⟩
theorem Tryz.VC (s : ByteArray) (hlim : s.size ≤ 281474976710656) (h : Lib.atoiAll s.data.toList = .range) (tp : TypeId) (p : Value) (w : World) (hvar : w.var? Tryz.prog "strconv.ErrRange" = some #[.iface tp p]) :
 Calls Tryz.prog 202 #[.string s] w fun e w' => ∃ t z, e = .returned (.tuple #[.int .i64 (Lib.atoiSat s.data.toList), .iface t z]) ∧ Go.RowKit.Below w.heap.size w w' :=
 (Any.strconv_Atoi_range_var Tryz.lk s hlim h tp p w hvar).mono fun e w' ⟨N, h1, _, _, h2⟩ => ⟨_, _, h1, h2⟩
theorem Tryz.WC (a b : ByteArray) (w : World) : Calls Tryz.prog 108 #[.string a, .string b] w fun e w' => e = .returned (.int .i64 (Lib.compareBytes a.data.toList b.data.toList)) ∧ w' = w := Any.strings_Compare Tryz.Sg a b w
end Go.Proofs
/- What the library's functions answer, as the evaluator takes it. Conditions: those of each lemma. -/
namespace Go.Proofs.YtonbkdklidfmfaaGreatDoor
open E
set_option linter.unusedSimpArgs false
set_option linter.unusedVariables false
set_option maxRecDepth 100000
/-- a list's texts -/
def strsOf : List (List T) → Option (List Str)
 | [] => some []
 | c :: r => match c with
  | [.str l] => (match strsOf r with | some ks => some (l :: ks) | none => none)
  | _ => none
theorem sB : ∀ ks : List Str, strsOf (strs ks) = some ks
 | [] => rfl
 | k :: ks => by
  have := sB ks
  simp only [strs] at this
  simp only [strs, List.map_cons, strsOf, this]
theorem r7 : ∀ {es : List (List T)} {ks : List Str}, strsOf es = some ks → es = strs ks
 | [], ks, h => by simp only [strsOf] at h; cases h; rfl
 | c :: r, ks, h => by
  simp only [strsOf] at h
  split at h
  · split at h
    · rename_i ks' hk; cases h; rw [r7 hk]; rfl
    · cases h
  · cases h
/-- what is shown by other means -/
def Y6 : List V → Option V
 | [.t (.list 1 es), .t (.str sep)] => match strsOf es with
  | some ks => if ks.length ≤ 140737488355328 ∧ (Lib.join ks sep).length ≤ 140737488355328 then some (.t (.str (Lib.join ks sep))) else none
  | none => none
 | _ => none
def lu : List V → Option V
 | [.t (.str a), .t (.str b)] => some (.t (.int .i64 (Lib.compareBytes a b)))
 | _ => none
def Y7 : List V → Option V
 | [.t (.int .i64 n)] => if -9223372036854775808 ≤ n ∧ n ≤ 9223372036854775807 then some (.t (.str (Lib.itoa n))) else none
 | _ => none
def Ye : List V → Option V
 | [.t (.str s)] => if s.length ≤ 281474976710656 then (match Lib.atoiAll s with
  | .ok v => some (.tup [.t (.int .i64 v), .t .nili])
  | Lib.NumEnd.syntax => some (.tup [.t (.int .i64 0), .t .nni])
  | .range => some (.tup [.t (.int .i64 (Lib.atoiSat s)), .t .nni])) else none
 | _ => none
def Rm : List V → Option V
 | [.t (.str s), .t (.str sep)] => if s.length < 4294967281 then some (.tup [.t (.str (Lib.cut s sep).1), .t (.str (Lib.cut s sep).2.1), .t (.bool (Lib.cut s sep).2.2)]) else none
 | _ => none
/-- the parts of a text -/
def lD (s sep : Str) : List Str := (Lib.splitB ⟨sep.toArray⟩ 0 (Lib.countB ⟨s.toArray⟩ ⟨sep.toArray⟩) ⟨s.toArray⟩).map (·.data.toList)
def gd : List V → Option V
 | [.t (.str s), .t (.str sep)] => if s.length < 4294967281 ∧ 1 ≤ sep.length then some (.t (.list 1 (strs (lD s sep)))) else none
 | _ => none
/-- a list of texts as it lies in memory -/
theorem TR {w : World} {F : Nat → Prop} {u : Value} {ks : List Str} (h : RT w F u (.list 1 (strs ks))) :
 ∃ a c, u = .slice a ks.length c ∧ ks.length ≤ c ∧ (0 < ks.length → ∃ b o, a = some ⟨b, o, none⟩ ∧ F b ∧ ∀ (j : Nat) x, (ks.map fun l => (⟨l.toArray⟩ : ByteArray))[j]? = some x → w.cell? ⟨b, o + j, none⟩ = some (.string x)) := by
 cases h with
 | list a n c sz es g hn hc h0 hz hr =>
  rw [zh] at hn
  subst hn
  refine ⟨a, c, rfl, hc, fun hp => ?_⟩
  obtain ⟨b, o, e1, e2, e3⟩ := h0 hp
  refine ⟨b, o, e1, e2, fun j x hj => ?_⟩
  have hjl : j < ks.length := by have := (List.getElem?_eq_some_iff.1 hj).1; simpa using this
  have h1 := e3 j 0 hjl (by omega)
  have h2 := hr j 0 [.str ks[j]] (.str ks[j]) (wi ks j hjl) rfl
  rw [show o + (j * 1 + 0) = o + j by omega] at h1
  rw [h1]
  generalize g j 0 = gv at h2
  cases h2 with
  | str s _ hs =>
   simp [hjl] at hj
   rw [← hj, ← hs]
theorem u5 {w w' : World} {F : Nat → Prop} (h : Go.RowKit.Below w.heap.size w w') (hF : ∀ b, F b → b < w.heap.size) : (∀ b, F b → b < w'.heap.size) ∧ Nxt (own fun b => w.heap.size ≤ b) w F zL w' F zL :=
 ⟨fun b hb => Nat.lt_of_lt_of_le (hF b hb) h.size, ⟨h.os, h.tape, h.output, h.size, fun b hb _ => h.block b hb, fun b hb => h.block b (hF b hb), fun _ hb => hb, fun _ hb => .inl hb, Ext.refl _, fun _ _ => rfl⟩⟩
/-- a function is as it is told -/
def iB (W0 : World) (g : Nat) (e : List V → Option V) : Prop := ∀ args v, e args = some v →
 (∃ fn, Tryz.prog.funcs[g]? = some fn ∧ (fn.name == "runtime.NumGoroutine") = false ∧ fn.body.isNone = false) ∧
 ∀ (w : World) (F : Nat → Prop) (us : Array Value), vv W0 w F → (∀ b, F b → b < w.heap.size) → RVs w F zL us.toList args →
  Calls Tryz.prog g us w fun e w' => ∃ u F', e = .returned u ∧ RV w' F' zL u v ∧ (∀ b, F' b → b < w'.heap.size) ∧ Nxt (own fun b => w.heap.size ≤ b) w F zL w' F' zL
theorem Sm (W0 : World) : iB W0 205 Y6 := by
 intro args v hv'
 unfold Y6 at hv'
 split at hv'
 · rename_i es sep
   split at hv'
   · rename_i ks hks
     split at hv'
     · rename_i hl
       cases hv'
       obtain rfl := r7 hks
       refine ⟨⟨Tryz.f205, Tryz.func205, by kernel_rfl, by kernel_rfl⟩, fun w F us hB hF hu => ?_⟩
       obtain ⟨us⟩ := us
       change RVs w F zL us _ at hu
       cases hu with
       | cons h1 h2 =>
       cases h2 with
       | cons h2 h3 =>
       cases h3
       obtain ⟨s, rfl, hs⟩ := sg h2
       obtain ⟨a, c, rfl, hc, h0⟩ := TR (Rh h1)
       have hfin : ∀ (e : Ending) (w' : World), (e = .returned (.string ⟨(Lib.join ks sep).toArray⟩) ∧ Go.RowKit.Below w.heap.size w w') → ∃ u F', e = .returned u ∧ RV w' F' zL u (.t (.str (Lib.join ks sep))) ∧ (∀ b, F' b → b < w'.heap.size) ∧ Nxt (own fun b => w.heap.size ≤ b) w F zL w' F' zL := by
        rintro e w' ⟨rfl, hb⟩
        obtain ⟨k1, k2⟩ := u5 hb hF
        exact ⟨_, F, rfl, .t _ _ (.str _ _ (by simp)), k1, k2⟩
       by_cases hk : ks.length = 0
       · have hk' : ks = [] := List.eq_nil_of_length_eq_zero hk
         subst hk'
         refine (Tryz.join_none a c s w).mono fun e w' ⟨h1, h2⟩ => hfin e w' ⟨?_, ?_⟩
         · rw [h1]; rfl
         · rw [h2]; exact Go.RowKit.Below.refl _ _
       · obtain ⟨b, o, rfl, hb, hcell⟩ := h0 (by omega)
         have hmap : (ks.map fun l => (⟨l.toArray⟩ : ByteArray)).map (·.data.toList) = ks := by
          rw [List.map_map]
          have : ((fun x : ByteArray => x.data.toList) ∘ fun l : List UInt8 => (⟨l.toArray⟩ : ByteArray)) = id := by funext l; simp
          rw [this]; simp
         have := Tryz.join_some b o c (ks.map fun l => (⟨l.toArray⟩ : ByteArray)) s w hcell (hF b hb) (by simpa using hl.1) (by simpa using hc) (by rw [hmap, hs]; exact hl.2)
         rw [hmap, hs, List.length_map] at this
         exact this.mono fun e w' h => hfin e w' h
     · cases hv'
   · cases hv'
 · cases hv'
theorem cL (W0 : World) : iB W0 108 lu := by
 intro args v hv'
 unfold lu at hv'
 split at hv'
 · rename_i a b
   cases hv'
   refine ⟨⟨Tryz.f108, Tryz.func108, by kernel_rfl, by kernel_rfl⟩, fun w F us hB hF hu => ?_⟩
   obtain ⟨us⟩ := us
   change RVs w F zL us _ at hu
   cases hu with
   | cons h1 h2 =>
   cases h2 with
   | cons h2 h3 =>
   cases h3
   obtain ⟨s1, rfl, hs1⟩ := sg h1
   obtain ⟨s2, rfl, hs2⟩ := sg h2
   refine (Tryz.WC s1 s2 w).mono fun e w' h => ?_
   obtain ⟨rfl, rfl⟩ := h
   rw [hs1, hs2]
   exact ⟨_, F, rfl, .t _ _ (.int _ _), hF, Nxt.refl _ _ _ _⟩
 · cases hv'
theorem cU (w : World) (k : Nat) (os : Array Obj) : Go.RowKit.Below w.heap.size w (Go.Sort.grow (w.drewN k) os) :=
 ⟨rfl, rfl, rfl, by simp [Go.Sort.grow], fun b hb => by simp [Go.Sort.grow, Array.getElem?_append_left hb]⟩
theorem Wp {W0 w : World} {F : Nat → Prop} {n : String} {k : IntKind} {zs : List Int} (hB : vv W0 w F) (h : Lib.TabIs Tryz.prog W0 n k zs) : Lib.TabIs Tryz.prog w n k zs := by
 unfold Lib.TabIs World.var? at *
 cases hg : Tryz.prog.globalNamed n with
 | none => simp [hg] at h
 | some g =>
  simp only [hg, Option.bind_some] at h ⊢
  have hlt : g < W0.heap.size := by
   refine Nat.lt_of_not_le fun hc => ?_
   rw [Array.getElem?_eq_none hc] at h
   cases h
  rw [hB.heap g hlt]
  exact h
theorem Sn (W0 : World) (hT : Lib.TabIs Tryz.prog W0 "internal/strconv.uint64pow10" .u64 Lib.pow10Tab) : iB W0 217 Y7 := by
 intro args v hv'
 unfold Y7 at hv'
 split at hv'
 · rename_i n
   split at hv'
   · rename_i hn
     cases hv'
     refine ⟨⟨Tryz.f217, Tryz.func217, by kernel_rfl, by kernel_rfl⟩, fun w F us hB hF hu => ?_⟩
     obtain ⟨us⟩ := us
     change RVs w F zL us _ at hu
     cases hu with
     | cons h1 h2 =>
     cases h2
     cases h1 with
     | t _ _ h1 =>
     cases h1
     refine (Tryz.itoa n hn.1 hn.2 w (Wp hB hT)).mono fun e w' h => ?_
     obtain ⟨rfl, k, os, rfl⟩ := h
     obtain ⟨k1, k2⟩ := u5 (cU w k os) hF
     exact ⟨_, F, rfl, .t _ _ (.str _ _ (by simp)), k1, k2⟩
   · cases hv'
 · cases hv'
theorem fK {W0 w : World} {F : Nat → Prop} {n : String} {cs : Array Value} (hB : vv W0 w F) (h : W0.var? Tryz.prog n = some cs) : w.var? Tryz.prog n = some cs := by
 unfold World.var? at *
 cases hg : Tryz.prog.globalNamed n with
 | none => simp [hg] at h
 | some g =>
  simp only [hg, Option.bind_some] at h ⊢
  have hlt : g < W0.heap.size := by
   refine Nat.lt_of_not_le fun hc => ?_
   rw [Array.getElem?_eq_none hc] at h
   cases h
  rw [hB.heap g hlt]
  exact h
theorem bJ {w : World} {F : Nat → Prop} {ρ : ye} {u1 u2 : Value} {x1 x2 : T} (h1 : RT w F u1 x1) (h2 : RT w F u2 x2) : RV w F ρ (.tuple #[u1, u2]) (.tup [.t x1, .t x2]) := by
 refine .tup _ _ (fun j => if j = 0 then u1 else u2) rfl (fun j hj => ?_) fun j x hj => ?_
 · match j, hj with
   | 0, _ => rfl
   | 1, _ => rfl
 · match j, hj with
   | 0, hj => cases hj; exact .t _ _ h1
   | 1, hj => cases hj; exact .t _ _ h2
   | j + 2, hj => simp at hj
theorem R5 (W0 : World) (hS : ∃ tp p, W0.var? Tryz.prog "strconv.ErrSyntax" = some #[.iface tp p]) (hR : ∃ tp p, W0.var? Tryz.prog "strconv.ErrRange" = some #[.iface tp p]) : iB W0 202 Ye := by
 intro args v hv'
 unfold Ye at hv'
 split at hv'
 · rename_i l
   split at hv'
   · rename_i hl
     refine ⟨⟨Tryz.f202, Tryz.func202, by kernel_rfl, by kernel_rfl⟩, fun w F us hB hF hu => ?_⟩
     obtain ⟨us⟩ := us
     change RVs w F zL us _ at hu
     cases hu with
     | cons h1 h2 =>
     cases h2
     obtain ⟨s, rfl, hs⟩ := sg h1
     have hsz : s.size ≤ 281474976710656 := by
      have : s.data.toList.length = s.size := by simp
      rw [hs] at this
      omega
     obtain ⟨tS, pS, hS⟩ := hS
     obtain ⟨tR, pR, hR⟩ := hR
     split at hv'
     · rename_i n hn
       cases hv'
       refine (Tryz.R4 s hsz n (by rw [hs]; exact hn) w).mono fun e w' h => ?_
       obtain ⟨rfl, hb⟩ := h
       obtain ⟨k1, k2⟩ := u5 hb hF
       exact ⟨_, F, rfl, bJ (.int _ _) .nili, k1, k2⟩
     · rename_i hn
       cases hv'
       refine (Tryz.VB s hsz (by rw [hs]; exact hn) tS pS w (fK hB hS)).mono fun e w' h => ?_
       obtain ⟨t, z, rfl, hb⟩ := h
       obtain ⟨k1, k2⟩ := u5 hb hF
       exact ⟨_, F, rfl, bJ (.int _ _) (.nni t z), k1, k2⟩
     · rename_i hn
       cases hv'
       refine (Tryz.VC s hsz (by rw [hs]; exact hn) tR pR w (fK hB hR)).mono fun e w' h => ?_
       obtain ⟨t, z, rfl, hb⟩ := h
       obtain ⟨k1, k2⟩ := u5 hb hF
       rw [hs]
       exact ⟨_, F, rfl, bJ (.int _ _) (.nni t z), k1, k2⟩
   · cases hv'
 · cases hv'
theorem jC {W0 w : World} {F : Nat → Prop} {a : Addr} {v : Value} (hB : vv W0 w F) (h : W0.cell? a = some v) : w.cell? a = some v := by
 have hlt : a.block < W0.heap.size := by
  refine Nat.lt_of_not_le fun hc => ?_
  simp [World.cell?, Array.getElem?_eq_none hc] at h
 unfold World.cell? at h ⊢
 rw [hB.heap _ hlt]
 exact h
theorem below_drewN (w : World) (n : Nat) : Go.RowKit.Below w.heap.size w (w.drewN n) := ⟨rfl, rfl, rfl, Nat.le_refl _, fun _ _ => rfl⟩
theorem WG {w : World} {F : Nat → Prop} {ρ : ye} {u1 u2 u3 : Value} {x1 x2 x3 : T} (h1 : RT w F u1 x1) (h2 : RT w F u2 x2) (h3 : RT w F u3 x3) : RV w F ρ (.tuple #[u1, u2, u3]) (.tup [.t x1, .t x2, .t x3]) := by
 refine .tup _ _ (fun j => if j = 0 then u1 else if j = 1 then u2 else u3) rfl (fun j hj => ?_) fun j x hj => ?_
 · match j, hj with
   | 0, _ => rfl
   | 1, _ => rfl
   | 2, _ => rfl
 · match j, hj with
   | 0, hj => cases hj; exact .t _ _ h1
   | 1, hj => cases hj; exact .t _ _ h2
   | 2, hj => cases hj; exact .t _ _ h3
   | j + 3, hj => simp at hj
theorem Ql (W0 : World) (hM : ∃ m, W0.cell? ⟨Tryz.tH.g 1, 0, none⟩ = some (.int .i64 m)) : iB W0 185 Rm := by
 intro args v hv'
 unfold Rm at hv'
 split at hv'
 · rename_i l lsep
   split at hv'
   · rename_i hl
     cases hv'
     refine ⟨⟨Tryz.f185, Tryz.func185, by kernel_rfl, by kernel_rfl⟩, fun w F us hB hF hu => ?_⟩
     obtain ⟨us⟩ := us
     change RVs w F zL us _ at hu
     cases hu with
     | cons h1 h2 =>
     cases h2 with
     | cons h2 h3 =>
     cases h3
     obtain ⟨s, rfl, hs⟩ := sg h1
     obtain ⟨sep, rfl, hsep⟩ := sg h2
     have hsz : s.size < 4294967281 := by
      have : s.data.toList.length = s.size := by simp
      rw [hs] at this
      omega
     obtain ⟨m, hM⟩ := hM
     refine (Any.strings_Cut { Tryz.eG with } s sep m w hsz (jC hB hM)).mono fun e w' h => ?_
     rw [hs, hsep] at h
     obtain ⟨rfl, n, rfl⟩ := h
     obtain ⟨k1, k2⟩ := u5 (below_drewN w n) hF
     exact ⟨_, F, rfl, WG (.str _ _ (by simp)) (.str _ _ (by simp)) (.bool _), k1, k2⟩
   · cases hv'
 · cases hv'
end Go.Proofs.YtonbkdklidfmfaaGreatDoor
/- What strings.Split answers, as the evaluator takes it. Conditions: those of each lemma. -/
namespace Go.Proofs.YtonbkdklidfmfaaGreatDoor
open E
set_option linter.unusedSimpArgs false
set_option linter.unusedVariables false
set_option maxRecDepth 100000
/-- a row of texts laid behind all -/
theorem YI (w : World) (F : Nat → Prop) (hF : ∀ b, F b → b < w.heap.size) (t : TypeId) (ps : List ByteArray) (n : Nat) (hn : ps.length = n) :
 RT (w.alloc (.cells (ps.map Value.string).toArray t)) (fun b => F b ∨ b = w.heap.size) (.slice (some ⟨w.heap.size, 0, none⟩) n n) (.list 1 (strs (ps.map (·.data.toList)))) := by
 have hcell : ∀ j, j < ps.length → (w.alloc (.cells (ps.map Value.string).toArray t)).cell? ⟨w.heap.size, j, none⟩ = some (.string (ps.getD j ByteArray.empty)) := fun j hj => by
  have ha : (w.alloc (.cells (ps.map Value.string).toArray t)).heap = w.heap.push (.cells (ps.map Value.string).toArray t) := rfl
  unfold World.cell?
  rw [ha]
  simp [hj, List.getD]
 generalize w.alloc (.cells (ps.map Value.string).toArray t) = w1 at *
 refine RT.list (F := fun b => F b ∨ b = w.heap.size) (some ⟨w.heap.size, 0, none⟩) n n 1 (strs (ps.map (·.data.toList))) (fun i _ => .string (ps.getD i ByteArray.empty)) (by rw [zh, List.length_map]; exact hn) (Nat.le_refl _) (fun _ => ⟨w.heap.size, 0, rfl, Or.inr rfl, fun i j hi hj => ?_⟩) (fun e he => ?_) fun i j cs x hi hj => ?_
 · obtain rfl : j = 0 := by omega
   rw [show 0 + (i * 1 + 0) = i by omega]
   exact hcell i (by omega)
 · simp only [strs, List.mem_map] at he
   obtain ⟨a, _, rfl⟩ := he
   rfl
 · simp only [strs, List.map_map, List.getElem?_map, Option.map_eq_some_iff] at hi
   obtain ⟨a, ha, rfl⟩ := hi
   match j, hj with
   | 0, hj =>
    simp [Function.comp] at hj
    subst hj
    have : ps.getD i ByteArray.empty = a := by simp [List.getD, ha]
    rw [this]
    exact .str _ _ rfl
   | j + 1, hj => simp at hj
theorem YA (w : World) (F : Nat → Prop) (hF : ∀ b, F b → b < w.heap.size) (o : Obj) : (∀ b, (F b ∨ b = w.heap.size) → b < (w.alloc o).heap.size) ∧ Nxt (own fun b => w.heap.size ≤ b) w F zL (w.alloc o) (fun b => F b ∨ b = w.heap.size) zL := by
 have ha : (w.alloc o).heap = w.heap.push o := rfl
 have hsz : (w.alloc o).heap.size = w.heap.size + 1 := by rw [ha, Array.size_push]
 have hold : ∀ b, b < w.heap.size → (w.alloc o).heap[b]? = w.heap[b]? := fun b hb => by
  rw [ha, Array.getElem?_push_lt hb, Array.getElem?_eq_getElem hb]
 refine ⟨fun b hb => ?_, rfl, rfl, rfl, by omega, fun b hb _ => hold b hb, fun b hb => hold b (hF b hb), fun _ hb => .inl hb, fun b hb => ?_, Ext.refl _, fun _ _ => rfl⟩
 · rcases hb with hb | rfl
   · have := hF b hb; omega
   · omega
 · rcases hb with hb | rfl
   · exact .inl hb
   · exact .inr (Nat.le_refl _)
theorem Wt (W0 : World) (hM : ∃ m, W0.cell? ⟨Tryz.tG.g 1, 0, none⟩ = some (.int .i64 m)) : iB W0 152 gd := by
 intro args v hv'
 unfold gd at hv'
 split at hv'
 · rename_i l lsep
   split at hv'
   · rename_i hl
     cases hv'
     refine ⟨⟨Tryz.f152, Tryz.func152, by kernel_rfl, by kernel_rfl⟩, fun w F us hB hF hu => ?_⟩
     obtain ⟨us⟩ := us
     change RVs w F zL us _ at hu
     cases hu with
     | cons h1 h2 =>
     cases h2 with
     | cons h2 h3 =>
     cases h3
     obtain ⟨s, rfl, hs⟩ := sg h1
     obtain ⟨sep, rfl, hsep⟩ := sg h2
     have hsz : s.size < 4294967281 := by
      have : s.data.toList.length = s.size := by simp
      rw [hs] at this
      omega
     have hsp : 1 ≤ sep.size := by
      have : sep.data.toList.length = sep.size := by simp
      rw [hsep] at this
      omega
     obtain ⟨m, hM⟩ := hM
     refine (Any.strings_Split { Tryz.eF with } Tryz.eF.i9 s sep m w hsz (jC hB hM) hsp).mono fun e w' h => ?_
     have es : (⟨l.toArray⟩ : ByteArray) = s := by rw [← hs]
     have esep : (⟨lsep.toArray⟩ : ByteArray) = sep := by rw [← hsep]
     have hlen := Lib.splitB_all sep hsp 0 (Lib.countB s sep) s rfl
     unfold lD
     rw [es, esep]
     obtain ⟨rfl, rfl⟩ := h
     generalize Lib.splitB sep 0 (Lib.countB s sep) s = ps at *
     generalize Lib.countB s sep = n at *
     obtain ⟨k1, k2⟩ := YA w F hF (.cells (ps.map Value.string).toArray (Tryz.tG.t 9))
     exact ⟨_, fun b => F b ∨ b = w.heap.size, rfl, .t _ _ (YI w F hF _ ps (n + 1) hlen), k1, k2⟩
   · cases hv'
 · cases hv'
end Go.Proofs.YtonbkdklidfmfaaGreatDoor
/- slices.Sort at texts, by the kit's own contract: on rows. Conditions: those of each lemma. -/
namespace Go.Proofs.YtonbkdklidfmfaaGreatDoor
open E
set_option linter.unusedSimpArgs false
set_option linter.unusedVariables false
set_option maxRecDepth 100000
def wR (ks : List Str) : List Str := ks.mergeSort fun x y => decide (x ≤ y)
theorem nY (ks : List Str) : (wR ks).Perm ks := List.mergeSort_perm _ _
theorem o6 (ks : List Str) : (wR ks).length = ks.length := (nY ks).length_eq
def ZW (args : List V) (h : Heap) : Option (V × Heap) :=
 match args, h with
 | [.sl 0 0 n cap], [.ts 1 es] => match strsOf es with
  | some ks => if n = ks.length ∧ ks.length ≤ 1073741824 then some (.tup [], [.ts 1 (strs (wR ks))]) else none
  | none => none
 | _, _ => none
variable {w : World} {F : Nat → Prop} {ρ : ye} {Ow : Own} {h : Heap}
theorem pr (hS : St w F ρ Ow h) {w' : World} (h1 : w'.os = w.os) (h2 : w'.tape = w.tape) (h3 : w'.output = w.output) (h4 : w.heap.size ≤ w'.heap.size) (h5 : ∀ b, b < w.heap.size → w'.heap[b]? = w.heap[b]?) : St w' F ρ Ow h ∧ Nxt Ow w F ρ w' F ρ := by
 have hN : Nxt Ow w F ρ w' F ρ := ⟨h1, h2, h3, h4, fun b hb _ => h5 b hb, fun b hb => h5 b (hS.fsz b hb), fun _ x => x, fun _ x => .inl x, Ext.refl _, fun _ _ => rfl⟩
 refine ⟨hS.next hN hS.out (fun b hb => Nat.lt_of_lt_of_le (hS.fsz b hb) h4) (fun r b hr => .inl ⟨hr, fun L hL hw => ⟨h5 _ ((hS.blk r b hr).vJ hw hL).2.2, ((hS.blk r b hr).vJ hw hL).1⟩⟩)
  (hS.owned hN (fun b _ hF hlt _ => ⟨h5 b hlt, hF⟩) (fun r i j x ho => ⟨ho, fun L u hL hu => ?_⟩) fun r b L hr hw hL => .inr (hS.same (Ext.refl _) hr hw hL)), hN⟩
 obtain ⟨c, el', fr, q1, q2⟩ := hu
 exact ⟨c, el', fr, (h5 _ (Array.getElem?_eq_some_iff.1 q1).1).trans q1, q2⟩
theorem Tryz.ck (p : Option Addr) (cap : Nat) (w : World) : Calls Tryz.prog 79 #[.slice p 0 cap] w fun e w' => e = .returned (.tuple #[]) ∧ w' = w := Any.slices_Sort_string_none Tryz.aZ p cap w
theorem Tryz.ssort (blk off cap : Nat) (ss : List (List UInt8)) (w : World) (hH : Go.Sort.Holds encStr w blk off ss.toArray) (hblk : blk < w.heap.size) (hsz : ss.length < 4611686018427387904) :
 Calls Tryz.prog 79 #[.slice (some ⟨blk, off, none⟩) ss.length cap] w fun e w' =>
  e = .returned (.tuple #[]) ∧ ∃ n os, w' = Go.Sort.grow (Go.Sort.putRow encStr (Go.Sort.ahead w n) blk off (ss.mergeSort fun x y => decide (x ≤ y)).toArray) os := Any.slices_Sort_string Tryz.aZ blk off cap ss w hH hblk hsz
theorem TO (W0 : World) : qP Tryz.prog W0 79 ZW := by
 intro args h v h' hv
 unfold ZW at hv
 split at hv
 · rename_i n cap es
   split at hv
   · rename_i ks hks
     split at hv
     · rename_i hn
       obtain ⟨hn, hlim⟩ := hn
       cases hv
       obtain rfl := r7 hks
       refine ⟨⟨Tryz.f79, Tryz.func79, by kernel_rfl, by kernel_rfl⟩, fun Ow w F ρ us hB hS hO hu => ?_⟩
       obtain ⟨us⟩ := us
       change RVs w F ρ us _ at hu
       cases hu with
       | cons h1 h2 =>
       cases h2
       subst hn
       have htup' : ∀ {w' : World}, RV w' F ρ (.tuple #[]) (.tup []) := .tup _ _ (fun _ => undef) rfl (fun j hj => by simp at hj) fun j x hj => by simp at hj
       have htup : RV w F ρ (.tuple #[]) (.tup []) := htup'
       have none_case : ks = [] → ∀ (a : Option Addr) (c : Nat), Calls Tryz.prog 79 #[.slice a 0 c] w fun e w' => ∃ u F' ρ', e = .returned u ∧ RV w' F' ρ' u (.tup []) ∧ St w' F' ρ' Ow [.ts 1 (strs (wR ks))] ∧ Nxt Ow w F zL w' F' zL ∧ ∀ r l, r < 1 → ρ r = some l → ρ' r = some l := fun hk a c => by
        subst hk
        refine (Tryz.ck a c w).mono fun e w' hp => ?_
        obtain ⟨rfl, rfl⟩ := hp
        exact ⟨_, F, ρ, rfl, htup, by rw [show wR [] = [] by simp [wR]]; exact hS, Nxt.refl _ _ _ _, fun _ _ _ hl => hl⟩
       generalize hkl : ks.length = kl at h1
       cases h1 with
       | slP r cap a hρ hc => exact none_case (List.eq_nil_of_length_eq_zero hkl) a 0
       | sl r off len cap L a c hρ ha hl hnn hc0 hc1 hz =>
        by_cases hk0 : ks = []
        · subst hk0
          simp at hkl
          subst hkl
          exact none_case rfl a c
        · have hpos : 0 < ks.length := by cases ks with | nil => exact absurd rfl hk0 | cons x r => simp
          have hcne : c ≠ 0 := by omega
          obtain rfl := ha.resolve_right hcne
          rcases hS.blk 0 _ rfl with ⟨L', q1, q2, q3, q4, q5⟩ | ⟨q1, q2⟩
          · rw [q1] at hρ; cases hρ
            have hrow := q3
            obtain ⟨e1, e2, cc, el, fr, e3, e4, e5, e6, e7⟩ := q3
            rw [zh] at e1
            have hlt : L.b < w.heap.size := (Array.getElem?_eq_some_iff.1 e3).1
            have hcell : ∀ j (hj : j < ks.length), cc[L.o + j]? = some (encStr ks[j]) := fun j hj => by
             obtain ⟨u, hu, hr⟩ := e7 j 0 [.str ks[j]] (.str ks[j]) (wi ks j hj) rfl
             rw [q2, show L.o + (j * 1 + 0) = L.o + j by omega] at hu
             rw [hu]
             cases hr with
             | str s _ hs =>
              show some (Value.string s) = some (Value.string ⟨ks[j].toArray⟩)
              rw [← hs]
            have hzz : L.o + L.n ≤ L.z := by rw [q2, Nat.mul_one] at e6; exact e6
            have hH : Go.Sort.Holds encStr w L.b L.o ks.toArray := fun j hj => by
             have hj' : j < ks.length := by simpa using hj
             have hlen : L.o + j < cc.size := by rw [e4]; omega
             have hx := hcell j hj'
             refine ⟨?_, ?_⟩
             · unfold World.cell?
               rw [e3]
               simp [hx, hj']
             · unfold World.frozen?
               rw [e3]
               have := e5 (L.o + j) hlen
               simp only [decide_eq_false_iff_not, Bool.and_eq_false_iff, not_and, Nat.not_lt] at this ⊢
               first | exact this | simpa using this | (simp; omega)
            have hslen := o6 ks
            refine Calls.mono (by
             have := Tryz.ssort L.b L.o c ks w hH hlt (by omega)
             rw [hkl] at this
             rw [show L.o + 0 * L.sz = L.o by omega]
             exact this) fun e w' hp => ?_
            obtain ⟨rfl, q, os, hw'⟩ := hp
            change w' = Go.Sort.grow (Go.Sort.putRow encStr (Go.Sort.ahead w q) L.b L.o (wR ks).toArray) os at hw'
            rw [Lib.putRow_eq_setCells encStr w L.b L.o ks.toArray (wR ks) q hH (by rw [hslen]; simp)] at hw'
            obtain ⟨hS1, hN1⟩ := pr (w' := w.drewN q) hS rfl rfl rfl (Nat.le_refl _) (fun _ _ => rfl)
            have hfit : L.o + ((wR ks).map encStr).length ≤ cc.size := by rw [List.length_map, hslen, e4]; omega
            obtain ⟨c', k1, k2, k3⟩ := xe ((wR ks).map encStr) L.b L.o (w.drewN q) cc el fr e3 hfit
            obtain ⟨hS2, hN2⟩ := sL (blk := .ts 1 (strs (wR ks))) hS1 (r := 0) rfl rfl q1 L.o ((wR ks).map encStr) (fun hN => .inl ⟨L, q1, q2, ⟨by rw [zh, hslen]; exact e1, fun e he => by
             simp only [strs, List.mem_map] at he
             obtain ⟨x, _, rfl⟩ := he
             exact q2.symm, c', el, fr, k1, by rw [k2, e4], fun k hk => e5 k (by rw [← k2]; exact hk), e6, fun i j cs x hi hj => by
              have hil := (List.getElem?_eq_some_iff.1 hi).1
              rw [zh] at hil
              rw [wi (wR ks) i hil] at hi
              cases hi
              match j, hj with
              | 0, hj =>
               cases hj
               refine ⟨encStr (wR ks)[i], ?_, .str _ _ (by simp)⟩
               rw [q2, show L.o + (i * 1 + 0) = L.o + i by omega, k3, if_pos ⟨by omega, by rw [List.length_map]; omega⟩, show L.o + i - L.o = i by omega]
               simp [hil]
              | j + 1, hj => simp at hj⟩, q4, q5⟩) (fun i j x ho => by
             obtain ⟨sz, es, cs, h1, _⟩ := ho
             simp at h1)
            obtain ⟨hS3, hN3⟩ := pr (w' := w') hS2 (by rw [hw']; rfl) (by rw [hw']; rfl) (by rw [hw']; rfl) (by rw [hw']; simp [Go.Sort.grow]) (fun b hb => by rw [hw']; simp only [Go.Sort.grow]; rw [Array.getElem?_append_left hb])
            exact ⟨_, F, ρ, rfl, htup', hS3, ((hN1.trans hN2).trans hN3).forget (Ext.refl _), fun _ _ _ hl => hl⟩
          · have : ks = [] := by
             have := congrArg List.length q2
             rw [zh] at this
             exact List.eq_nil_of_length_eq_zero this
            exact absurd this hk0
     · cases hv
   · cases hv
 · cases hv
end Go.Proofs.YtonbkdklidfmfaaGreatDoor
/- Rows of texts written anew by the library: slices.Compact by the kit's own contract. Conditions: those of each lemma. -/
namespace Go.Proofs.YtonbkdklidfmfaaGreatDoor
open E
set_option linter.unusedSimpArgs false
set_option linter.unusedVariables false
set_option maxRecDepth 100000
section
variable {w : World} {F : Nat → Prop} {ρ : ye} {Ow : Own} {h : Heap}
/-- a row of texts, as the library's contracts want it, and what is left where other texts are put there -/
theorem TS {ks : List Str} (hS : St w F ρ Ow [.ts 1 (strs ks)]) (hk0 : ks ≠ []) {L : E.Loc} (hρ : ρ 0 = some (some L)) :
 Go.Sort.Holds encStr w L.b L.o ks.toArray ∧ L.b < w.heap.size ∧ L.sz = 1 ∧ L.n = ks.length ∧ ¬ F L.b ∧
 ∀ (ys : List Str) (q : Nat) (os : Array Obj) (w' : World), ys.length = ks.length → w' = Go.Sort.grow ((w.drewN q).setCells L.b L.o (ys.map encStr)) os → St w' F ρ Ow [.ts 1 (strs ys)] ∧ Nxt Ow w F zL w' F zL := by
 rcases hS.blk 0 _ rfl with ⟨L', q1, q2, q3, q4, q5⟩ | ⟨q1, q2⟩
 · rw [q1] at hρ; cases hρ
   have hrow := q3
   obtain ⟨e1, e2, cc, el, fr, e3, e4, e5, e6, e7⟩ := q3
   rw [zh] at e1
   have hlt : L.b < w.heap.size := (Array.getElem?_eq_some_iff.1 e3).1
   have hcell : ∀ j (hj : j < ks.length), cc[L.o + j]? = some (encStr ks[j]) := fun j hj => by
    obtain ⟨u, hu, hr⟩ := e7 j 0 [.str ks[j]] (.str ks[j]) (wi ks j hj) rfl
    rw [q2, show L.o + (j * 1 + 0) = L.o + j by omega] at hu
    rw [hu]
    cases hr with
    | str s _ hs =>
     show some (Value.string s) = some (Value.string ⟨ks[j].toArray⟩)
     rw [← hs]
   have hzz : L.o + L.n ≤ L.z := by rw [q2, Nat.mul_one] at e6; exact e6
   have hH : Go.Sort.Holds encStr w L.b L.o ks.toArray := fun j hj => by
    have hj' : j < ks.length := by simpa using hj
    have hlen : L.o + j < cc.size := by rw [e4]; omega
    have hx := hcell j hj'
    refine ⟨?_, ?_⟩
    · unfold World.cell?
      rw [e3]
      simp [hx, hj']
    · unfold World.frozen?
      rw [e3]
      have := e5 (L.o + j) hlen
      simp only [decide_eq_false_iff_not, Bool.and_eq_false_iff, not_and, Nat.not_lt] at this ⊢
      first | exact this | simpa using this | (simp; omega)
   refine ⟨hH, hlt, q2, e1.symm, q4, fun ys q os w' hys hw' => ?_⟩
   obtain ⟨hS1, hN1⟩ := pr (w' := w.drewN q) hS rfl rfl rfl (Nat.le_refl _) (fun _ _ => rfl)
   have hfit : L.o + (ys.map encStr).length ≤ cc.size := by rw [List.length_map, hys, e4]; omega
   obtain ⟨c', k1, k2, k3⟩ := xe (ys.map encStr) L.b L.o (w.drewN q) cc el fr e3 hfit
   obtain ⟨hS2, hN2⟩ := sL (blk := .ts 1 (strs ys)) hS1 (r := 0) rfl rfl q1 L.o (ys.map encStr) (fun hN => .inl ⟨L, q1, q2, ⟨by rw [zh, hys]; exact e1, fun e he => by
    simp only [strs, List.mem_map] at he
    obtain ⟨x, _, rfl⟩ := he
    exact q2.symm, c', el, fr, k1, by rw [k2, e4], fun k hk => e5 k (by rw [← k2]; exact hk), e6, fun i j cs x hi hj => by
     have hil := (List.getElem?_eq_some_iff.1 hi).1
     rw [zh] at hil
     rw [wi ys i hil] at hi
     cases hi
     match j, hj with
     | 0, hj =>
      cases hj
      refine ⟨encStr ys[i], ?_, .str _ _ (by simp)⟩
      rw [q2, show L.o + (i * 1 + 0) = L.o + i by omega, k3, if_pos ⟨by omega, by rw [List.length_map]; omega⟩, show L.o + i - L.o = i by omega]
      simp [hil]
     | j + 1, hj => simp at hj⟩, q4, q5⟩) (fun i j x ho => by
    obtain ⟨sz, es, cs, h1, _⟩ := ho
    simp at h1)
   obtain ⟨hS3, hN3⟩ := pr (w' := w') hS2 (by rw [hw']; rfl) (by rw [hw']; rfl) (by rw [hw']; rfl) (by rw [hw']; simp [Go.Sort.grow]) (fun b hb => by rw [hw']; simp only [Go.Sort.grow]; rw [Array.getElem?_append_left hb])
   exact ⟨hS3, ((hN1.trans hN2).trans hN3).forget (Ext.refl _)⟩
 · have : ks = [] := by
    have := congrArg List.length q2
    rw [zh] at this
    exact List.eq_nil_of_length_eq_zero this
   exact absurd this hk0
end
/-- neighbours that are one are one text; the rest of the row is emptied -/
def lP (ks : List Str) : List Str := Lib.compact ks ++ List.replicate (ks.length - (Lib.compact ks).length) []
theorem mM (ks : List Str) : (Lib.compact ks).length ≤ ks.length := by
 unfold Lib.compact Lib.compactUpTo
 rw [List.length_map]
 exact Nat.le_trans (List.length_filter_le _ _) (by simp)
theorem jz (ks : List Str) : (lP ks).length = ks.length := by
 have := mM ks
 unfold lP
 simp only [List.length_append, List.length_replicate]; omega
def Ty (args : List V) (h : Heap) : Option (V × Heap) :=
 match args, h with
 | [.sl 0 0 n cap], [.ts 1 es] => match strsOf es with
  | some ks => if n = ks.length ∧ ks.length ≤ 1073741824 then some (.sl 0 0 (Lib.compact ks).length cap, [.ts 1 (strs (lP ks))]) else none
  | none => none
 | _, _ => none
theorem Tryz.WD (blk off cap : Nat) (zs : List (List UInt8)) (w : World) (hH : Go.Sort.Holds encStr w blk off zs.toArray) (hsz : zs.length ≤ 9223372036854775807) (hcap : zs.length ≤ cap) :
 Calls Tryz.prog 105 #[.slice (some ⟨blk, off, none⟩) zs.length cap] w fun e w' => e = .returned (.slice (some ⟨blk, off, none⟩) (Lib.compact zs).length cap) ∧ ∃ q, w' = Go.Sort.putRow encStr (Go.Sort.ahead w q) blk off (Lib.compact zs ++ List.replicate (zs.length - (Lib.compact zs).length) []).toArray := Any.slices_Compact_string Tryz.aY blk off cap zs w hH hsz hcap
theorem Tryz.lU (a : Option Addr) (cap : Nat) (w : World) : Calls Tryz.prog 105 #[.slice a 0 cap] w fun e w' => e = .returned (.slice a 0 cap) ∧ w' = w := Any.slices_Compact_string_empty Tryz.aY a cap w
theorem SC (W0 : World) : qP Tryz.prog W0 105 Ty := by
 intro args h v h' hv
 unfold Ty at hv
 split at hv
 · rename_i n cap es
   split at hv
   · rename_i ks hks
     split at hv
     · rename_i hn
       obtain ⟨hn, hlim⟩ := hn
       cases hv
       obtain rfl := r7 hks
       refine ⟨⟨Tryz.f105, Tryz.func105, by kernel_rfl, by kernel_rfl⟩, fun Ow w F ρ us hB hS hO hu => ?_⟩
       obtain ⟨us⟩ := us
       change RVs w F ρ us _ at hu
       cases hu with
       | cons h1 h2 =>
       cases h2
       subst hn
       have none_case : ks = [] → ∀ (a : Option Addr) (c : Nat), RV w F ρ (.slice a 0 c) (.sl 0 0 0 cap) → Calls Tryz.prog 105 #[.slice a 0 c] w fun e w' => ∃ u F' ρ', e = .returned u ∧ RV w' F' ρ' u (.sl 0 0 (Lib.compact ks).length cap) ∧ St w' F' ρ' Ow [.ts 1 (strs (lP ks))] ∧ Nxt Ow w F zL w' F' zL ∧ ∀ r l, r < 1 → ρ r = some l → ρ' r = some l := fun hk a c hrv => by
        subst hk
        refine (Tryz.lU a c w).mono fun e w' hp => ?_
        obtain ⟨rfl, rfl⟩ := hp
        exact ⟨_, F, ρ, rfl, hrv, hS, Nxt.refl _ _ _ _, fun _ _ _ hl => hl⟩
       generalize hkl : ks.length = kl at h1
       cases h1 with
       | slP r cap a hρ hc => exact none_case (List.eq_nil_of_length_eq_zero hkl) a 0 (.slP _ _ _ hρ hc)
       | sl r off len cap L a c hρ ha hl hnn hc0 hc1 hz =>
        by_cases hk0 : ks = []
        · subst hk0
          simp at hkl
          subst hkl
          exact none_case rfl a c (.sl _ _ _ _ L _ _ hρ ha hl hnn hc0 hc1 hz)
        · have hpos : 0 < ks.length := by cases ks with | nil => exact absurd rfl hk0 | cons x r => simp
          have hcne : c ≠ 0 := by omega
          obtain rfl := ha.resolve_right hcne
          obtain ⟨hH, hlt, q2, q3, _, hput⟩ := TS hS hk0 hρ
          have hcle := mM ks
          refine Calls.mono (by
           have := Tryz.WD L.b L.o c ks w hH (by omega) (by omega)
           rw [hkl] at this
           rw [show L.o + 0 * L.sz = L.o by omega]
           exact this) fun e w' hp => ?_
          obtain ⟨rfl, q, hw'⟩ := hp
          rw [← hkl] at hw'
          change w' = Go.Sort.putRow encStr (Go.Sort.ahead w q) L.b L.o (lP ks).toArray at hw'
          rw [Lib.putRow_eq_setCells encStr w L.b L.o ks.toArray (lP ks) q hH (by rw [jz]; simp)] at hw'
          obtain ⟨hS3, hN3⟩ := hput (lP ks) q #[] w' (jz ks) (by rw [hw']; simp)
          refine ⟨_, F, ρ, rfl, ?_, hS3, hN3, fun _ _ _ hl => hl⟩
          exact .sl 0 0 _ cap L _ c hρ (.inl (by rw [show L.o + 0 * L.sz = L.o by omega])) (by omega) (by omega) hc0 hc1 hz
     · cases hv
   · cases hv
 · cases hv
end Go.Proofs.YtonbkdklidfmfaaGreatDoor
/- Which slots the loops keep: tables written by a program of mine (live.py). Conditions: none. -/
namespace Go.Proofs.YtonbkdklidfmfaaGreatDoor
set_option maxRecDepth 100000
def Tn : List (Nat × Nat × List Nat) → Nat → Nat → List Nat
 | [], _, _ => []
 | (f', p', l) :: r, f, p => if f = f' ∧ p = p' then l else Tn r f p
def Se : List (Nat × Nat × List Nat) := [
 (8, 506, [0, 3, 4, 5, 6, 7]),
 (10, 506, [2, 4, 5, 96, 97]),
 (10, 62942, [2, 4, 5, 6, 41, 42, 43]),
 (10, 503786, [2, 4, 5, 8, 70, 71, 72]),
 (14, 506, [3, 5, 6, 7]),
 (15, 250, [5, 6, 27, 28, 29]),
 (16, 58, [0, 1, 5]),
 (17, 26, [0, 1, 5]),
 (18, 26, [0, 1, 5]),
 (23, 60, [2, 5, 6]),
 (27, 60, [2, 5, 6]),
 (31, 26, [1, 3]),
 (32, 26, [1, 6, 7, 8]),
 (35, 122, [0, 1, 5]),
 (36, 122, [0, 1, 5]),
 (38, 58, [1, 2, 3, 4]),
 (40, 26, [0, 1, 5, 7]),
 (42, 58, [1, 2, 4, 5, 6]),
 (42, 122, [1, 2, 4, 5, 7]),
 (42, 125242, [1, 2, 4, 5, 7, 8, 9]),
 (43, 58, [0, 3, 4]),
 (44, 58, [0, 3, 4]),
 (45, 58, [2, 3, 11, 12, 13]),
 (49, 122, [0, 1, 5, 6]),
 (50, 122, [0, 1, 5, 6]),
 (58, 58, [0, 1, 5]),
 (59, 26, [0, 1, 5]),
 (61, 58, [0, 1, 5]),
 (62, 26, [1, 2, 5]),
 (64, 58, [0, 1, 12, 13]),
 (67, 60, [0, 3]),
 (68, 28, [0, 1, 5]),
 (81, 26, [0, 1, 5]),
 (83, 26, [1, 3]),
 (84, 26, [1, 2, 5]),
 (86, 26, [1, 2, 7, 8, 9]),
 (87, 26, [0, 1, 7, 8]),
 (92, 58, [0, 1, 5, 6]),
 (96, 26, [0, 1, 7, 8]),
 (99, 122, [0, 1, 5, 6]),
 (102, 26, [0, 1, 5]),
 (104, 58, [0, 1, 12, 13]),
 (105, 58, [0, 3]),
 (105, 59690, [0, 3, 4, 5]),
 (116, 26, [0, 1, 7, 8]),
 (117, 14, [0, 1, 2, 3, 8, 9]),
 (120, 58, [0, 3, 4]),
 (120, 59706, [0, 3, 4, 5, 6]),
 (122, 26, [0, 3]),
 (123, 58, [0, 3, 10, 11, 12]),
 (126, 26, [0, 5, 6, 7]),
 (127, 122, [0, 1, 5]),
 (128, 58, [0, 3, 4]),
 (130, 26, [0, 1, 7, 8]),
 (131, 58, [0, 1, 5]),
 (135, 122, [1, 3, 4]),
 (137, 6, [0, 1, 2, 6]),
 (137, 402, [0, 1, 2, 6, 7]),
 (138, 122, [0, 6, 7, 8, 9]),
 (138, 126, [0, 6, 7, 10]),
 (139, 238, [0, 1, 6, 7, 8, 9]),
 (141, 14, [0, 6, 7]),
 (142, 58, [0, 1, 2, 7, 8]),
 (142, 3728, [0, 1, 2, 7, 8]),
 (142, 477674, [0, 1, 2, 7, 8, 9]),
 (142, 477690, [0, 1, 2, 7, 8, 10]),
 (144, 60, [0, 1, 9, 10]),
 (144, 960, [0, 1, 9, 10]),
 (144, 1924, [0, 1, 9, 10]),
 (145, 60, [0, 1, 10, 11]),
 (145, 124, [0, 1, 10, 11]),
 (145, 4092, [0, 1, 10, 11]),
 (145, 65472, [0, 1, 10, 11]),
 (145, 130948, [0, 1, 10, 11]),
 (148, 122, [0, 1, 5, 6, 7]),
 (154, 26, [0, 1, 7, 8]),
 (164, 26, [0, 1, 5]),
 (171, 26, [1, 3]),
 (172, 124, [0, 3, 4]),
 (174, 6, [0, 2, 3, 8]),
 (183, 2044, [0, 1, 2, 3, 9, 10]),
 (192, 26, [0, 3]),
 (194, 26, [0, 1, 5]),
 (195, 58, [0, 3, 4]),
 (197, 58, [2, 3, 5, 6]),
 (197, 250, [2, 3, 7]),
 (198, 250, [0, 1, 6, 7]),
 (199, 62, [0, 1, 5]),
 (204, 26, [1, 13, 14, 15]),
 (204, 58, [1, 24, 25, 26]),
 (205, 250, [0, 1, 5, 39, 40, 41]),
 (205, 4090, [1, 8, 63, 64, 65]),
 (208, 26, [0, 3]),
 (211, 26, [2, 4]),
 (214, 2044, [0, 1, 5, 6, 7, 8, 9, 10]),
 (215, 3770, [5, 6, 47, 48, 49]),
 (229, 250, [0, 1, 5, 6, 7, 8, 9]),
 (229, 1018, [0, 1, 5, 6, 7, 8, 10]),
 (239, 58, [0, 4, 5]),
 (239, 250, [4, 6, 7, 8]),
 (240, 32762, [1, 8, 9, 10, 11, 12, 13, 99, 100, 101]),
 (247, 508, [0, 3, 4, 5]),
 (250, 12, [0, 1, 4]),
 (251, 4060, [0, 1, 3, 4, 10, 11, 12, 13, 17]),
 (251, 16220, [0, 1, 3, 4, 10, 11, 12, 13, 14, 15, 16])]
def TZ : List (Nat × Nat × List Nat) := [
 (8, 506, [0, 3, 4, 5, 6]),
 (10, 506, [4, 5]),
 (10, 62942, [2, 4, 5]),
 (10, 503786, [2, 4, 5, 8]),
 (14, 506, [5]),
 (15, 250, [6]),
 (16, 58, [4]),
 (17, 26, [1]),
 (18, 26, [1, 4]),
 (23, 60, [5]),
 (27, 60, [5]),
 (31, 26, [1, 2]),
 (32, 26, [1, 2]),
 (35, 122, [1, 4]),
 (36, 122, [1, 4]),
 (38, 58, [2, 3]),
 (40, 26, [0, 5, 6]),
 (42, 58, [1, 2, 4, 5]),
 (42, 122, [4, 5]),
 (42, 125242, [1, 2, 4, 5, 7, 8]),
 (43, 58, [3]),
 (44, 58, [3]),
 (45, 58, [2, 3]),
 (49, 122, [0, 5]),
 (50, 122, [0, 5]),
 (58, 58, [4]),
 (59, 26, [1]),
 (61, 58, [4]),
 (62, 26, [4]),
 (64, 58, [4]),
 (67, 60, [3]),
 (68, 28, [0, 1, 5]),
 (81, 26, [4]),
 (83, 26, [1, 2]),
 (84, 26, [4]),
 (86, 26, [4]),
 (87, 26, [4]),
 (92, 58, [5]),
 (96, 26, [4]),
 (99, 122, [0, 5]),
 (102, 26, [1]),
 (104, 58, [4]),
 (105, 58, [0, 2]),
 (105, 59690, [0, 3]),
 (116, 26, [4]),
 (117, 14, []),
 (120, 58, [0, 2]),
 (120, 59706, [0, 2, 3, 4, 5]),
 (122, 26, [0, 2]),
 (123, 58, [0, 2]),
 (126, 26, [2]),
 (127, 122, [1, 4]),
 (128, 58, [3]),
 (130, 26, [4]),
 (131, 58, [4]),
 (135, 122, [3]),
 (137, 6, []),
 (137, 402, [0, 1, 2, 6]),
 (138, 122, [0, 6, 7, 8]),
 (138, 126, []),
 (139, 238, []),
 (141, 14, []),
 (142, 58, [6]),
 (142, 3728, [0, 1, 2, 7, 8]),
 (142, 477674, [0, 1, 2, 7, 8]),
 (142, 477690, [0, 1, 2, 7, 8]),
 (144, 60, [9]),
 (144, 960, [0, 1, 9, 10]),
 (144, 1924, [0, 1, 9, 10]),
 (145, 60, [0, 1, 10, 11]),
 (145, 124, [0, 1, 10, 11]),
 (145, 4092, [0, 1, 11]),
 (145, 65472, [0, 1, 10, 11]),
 (145, 130948, [0, 1, 10, 11]),
 (148, 122, [0, 5, 6]),
 (154, 26, [4]),
 (164, 26, [4]),
 (171, 26, [1, 2]),
 (172, 124, [0, 3]),
 (174, 6, []),
 (183, 2044, [0, 9, 10]),
 (192, 26, [0, 2]),
 (194, 26, [4]),
 (195, 58, [0, 2, 3]),
 (197, 58, [2, 3, 4]),
 (197, 250, [2, 3, 4]),
 (198, 250, [0, 1, 6]),
 (199, 62, [4]),
 (204, 26, [1, 2]),
 (204, 58, [1, 2]),
 (205, 250, [0, 1, 5]),
 (205, 4090, [8]),
 (208, 26, [0, 2]),
 (211, 26, [2]),
 (214, 2044, [4]),
 (215, 3770, [2, 3, 5, 6]),
 (229, 250, [0, 1, 5, 6, 7, 8]),
 (229, 1018, [4]),
 (239, 58, [0, 4]),
 (239, 250, [4, 6]),
 (240, 32762, [6, 7, 9, 12, 13]),
 (247, 508, [2, 3]),
 (250, 12, [0, 1, 4]),
 (251, 4060, [0, 1, 3, 4, 10, 11, 12, 13]),
 (251, 16220, [0, 1, 3, 4, 10, 11, 12, 13])]
def zB (f p : Nat) : List Nat := Tn Se f p
def zA (f p : Nat) : List Nat := Tn TZ f p
theorem Ug : zB 8 506 = [0, 3, 4, 5, 6, 7] := by kernel_rfl
theorem VM : zA 8 506 = [0, 3, 4, 5, 6] := by kernel_rfl
theorem Wh : zB 10 506 = [2, 4, 5, 96, 97] := by kernel_rfl
theorem XD : zA 10 506 = [4, 5] := by kernel_rfl
theorem fF : zB 10 62942 = [2, 4, 5, 6, 41, 42, 43] := by kernel_rfl
theorem ft : zA 10 62942 = [2, 4, 5] := by kernel_rfl
theorem im : zB 10 503786 = [2, 4, 5, 8, 70, 71, 72] := by kernel_rfl
theorem ib : zA 10 503786 = [2, 4, 5, 8] := by kernel_rfl
theorem W3 : zB 14 506 = [3, 5, 6, 7] := by kernel_rfl
theorem Xp : zA 14 506 = [5] := by kernel_rfl
theorem W1 : zB 15 250 = [5, 6, 27, 28, 29] := by kernel_rfl
theorem Xn : zA 15 250 = [6] := by kernel_rfl
theorem UG : zB 16 58 = [0, 1, 5] := by kernel_rfl
theorem Uc : zA 16 58 = [4] := by kernel_rfl
theorem UE : zB 17 26 = [0, 1, 5] := by kernel_rfl
theorem Ua : zA 17 26 = [1] := by kernel_rfl
theorem UD : zB 18 26 = [0, 1, 5] := by kernel_rfl
theorem U9 : zA 18 26 = [1, 4] := by kernel_rfl
theorem UC : zB 23 60 = [2, 5, 6] := by kernel_rfl
theorem U8 : zA 23 60 = [5] := by kernel_rfl
theorem UB : zB 27 60 = [2, 5, 6] := by kernel_rfl
theorem U7 : zA 27 60 = [5] := by kernel_rfl
theorem UA : zB 31 26 = [1, 3] := by kernel_rfl
theorem U6 : zA 31 26 = [1, 2] := by kernel_rfl
theorem Uz : zB 32 26 = [1, 6, 7, 8] := by kernel_rfl
theorem U5 : zA 32 26 = [1, 2] := by kernel_rfl
theorem XM : zB 35 122 = [0, 1, 5] := by kernel_rfl
theorem X9 : zA 35 122 = [1, 4] := by kernel_rfl
theorem XL : zB 36 122 = [0, 1, 5] := by kernel_rfl
theorem X8 : zA 36 122 = [1, 4] := by kernel_rfl
theorem Uy : zB 38 58 = [1, 2, 3, 4] := by kernel_rfl
theorem U4 : zA 38 58 = [2, 3] := by kernel_rfl
theorem Ux : zB 40 26 = [0, 1, 5, 7] := by kernel_rfl
theorem U3 : zA 40 26 = [0, 5, 6] := by kernel_rfl
theorem Uw : zB 42 58 = [1, 2, 4, 5, 6] := by kernel_rfl
theorem U2 : zA 42 58 = [1, 2, 4, 5] := by kernel_rfl
theorem XK : zB 42 122 = [1, 2, 4, 5, 7] := by kernel_rfl
theorem X7 : zA 42 122 = [4, 5] := by kernel_rfl
theorem ie : zB 42 125242 = [1, 2, 4, 5, 7, 8, 9] := by kernel_rfl
theorem jW : zA 42 125242 = [1, 2, 4, 5, 7, 8] := by kernel_rfl
theorem Uv : zB 43 58 = [0, 3, 4] := by kernel_rfl
theorem U1 : zA 43 58 = [3] := by kernel_rfl
theorem Uu : zB 44 58 = [0, 3, 4] := by kernel_rfl
theorem U0 : zA 44 58 = [3] := by kernel_rfl
theorem Ut : zB 45 58 = [2, 3, 11, 12, 13] := by kernel_rfl
theorem VZ : zA 45 58 = [2, 3] := by kernel_rfl
theorem XJ : zB 49 122 = [0, 1, 5, 6] := by kernel_rfl
theorem X6 : zA 49 122 = [0, 5] := by kernel_rfl
theorem XI : zB 50 122 = [0, 1, 5, 6] := by kernel_rfl
theorem X5 : zA 50 122 = [0, 5] := by kernel_rfl
theorem Us : zB 58 58 = [0, 1, 5] := by kernel_rfl
theorem VY : zA 58 58 = [4] := by kernel_rfl
theorem Ur : zB 59 26 = [0, 1, 5] := by kernel_rfl
theorem VX : zA 59 26 = [1] := by kernel_rfl
theorem Uq : zB 61 58 = [0, 1, 5] := by kernel_rfl
theorem VW : zA 61 58 = [4] := by kernel_rfl
theorem Up : zB 62 26 = [1, 2, 5] := by kernel_rfl
theorem VV : zA 62 26 = [4] := by kernel_rfl
theorem Uo : zB 64 58 = [0, 1, 12, 13] := by kernel_rfl
theorem VU : zA 64 58 = [4] := by kernel_rfl
theorem Un : zB 67 60 = [0, 3] := by kernel_rfl
theorem VT : zA 67 60 = [3] := by kernel_rfl
theorem Um : zB 68 28 = [0, 1, 5] := by kernel_rfl
theorem VS : zA 68 28 = [0, 1, 5] := by kernel_rfl
theorem Ul : zB 81 26 = [0, 1, 5] := by kernel_rfl
theorem VR : zA 81 26 = [4] := by kernel_rfl
theorem Uk : zB 83 26 = [1, 3] := by kernel_rfl
theorem VQ : zA 83 26 = [1, 2] := by kernel_rfl
theorem Uj : zB 84 26 = [1, 2, 5] := by kernel_rfl
theorem VP : zA 84 26 = [4] := by kernel_rfl
theorem Ui : zB 86 26 = [1, 2, 7, 8, 9] := by kernel_rfl
theorem VO : zA 86 26 = [4] := by kernel_rfl
theorem Uh : zB 87 26 = [0, 1, 7, 8] := by kernel_rfl
theorem VN : zA 87 26 = [4] := by kernel_rfl
theorem Uf : zB 92 58 = [0, 1, 5, 6] := by kernel_rfl
theorem VL : zA 92 58 = [5] := by kernel_rfl
theorem Ue : zB 96 26 = [0, 1, 7, 8] := by kernel_rfl
theorem VK : zA 96 26 = [4] := by kernel_rfl
theorem XH : zB 99 122 = [0, 1, 5, 6] := by kernel_rfl
theorem X4 : zA 99 122 = [0, 5] := by kernel_rfl
theorem Wk : zB 102 26 = [0, 1, 5] := by kernel_rfl
theorem XG : zA 102 26 = [1] := by kernel_rfl
theorem Wj : zB 104 58 = [0, 1, 12, 13] := by kernel_rfl
theorem XF : zA 104 58 = [4] := by kernel_rfl
theorem Wi : zB 105 58 = [0, 3] := by kernel_rfl
theorem XE : zA 105 58 = [0, 2] := by kernel_rfl
theorem iq : zB 105 59690 = [0, 3, 4, 5] := by kernel_rfl
theorem ic : zA 105 59690 = [0, 3] := by kernel_rfl
theorem Wg : zB 116 26 = [0, 1, 7, 8] := by kernel_rfl
theorem XC : zA 116 26 = [4] := by kernel_rfl
theorem Wf : zB 117 14 = [0, 1, 2, 3, 8, 9] := by kernel_rfl
theorem XB : zA 117 14 = [] := by kernel_rfl
theorem We : zB 120 58 = [0, 3, 4] := by kernel_rfl
theorem XA : zA 120 58 = [0, 2] := by kernel_rfl
theorem il : zB 120 59706 = [0, 3, 4, 5, 6] := by kernel_rfl
theorem ia : zA 120 59706 = [0, 2, 3, 4, 5] := by kernel_rfl
theorem Wd : zB 122 26 = [0, 3] := by kernel_rfl
theorem Xz : zA 122 26 = [0, 2] := by kernel_rfl
theorem Wc : zB 123 58 = [0, 3, 10, 11, 12] := by kernel_rfl
theorem Xy : zA 123 58 = [0, 2] := by kernel_rfl
theorem Wb : zB 126 26 = [0, 5, 6, 7] := by kernel_rfl
theorem Xx : zA 126 26 = [2] := by kernel_rfl
theorem bI : zB 127 122 = [0, 1, 5] := by kernel_rfl
theorem bm : zA 127 122 = [1, 4] := by kernel_rfl
theorem Wa : zB 128 58 = [0, 3, 4] := by kernel_rfl
theorem Xw : zA 128 58 = [3] := by kernel_rfl
theorem W9 : zB 130 26 = [0, 1, 7, 8] := by kernel_rfl
theorem Xv : zA 130 26 = [4] := by kernel_rfl
theorem W8 : zB 131 58 = [0, 1, 5] := by kernel_rfl
theorem Xu : zA 131 58 = [4] := by kernel_rfl
theorem bH : zB 135 122 = [1, 3, 4] := by kernel_rfl
theorem bj : zA 135 122 = [3] := by kernel_rfl
theorem UH : zB 137 6 = [0, 1, 2, 6] := by kernel_rfl
theorem Ud : zA 137 6 = [] := by kernel_rfl
theorem bG : zB 137 402 = [0, 1, 2, 6, 7] := by kernel_rfl
theorem bh : zA 137 402 = [0, 1, 2, 6] := by kernel_rfl
theorem bF : zB 138 122 = [0, 6, 7, 8, 9] := by kernel_rfl
theorem bf : zA 138 122 = [0, 6, 7, 8] := by kernel_rfl
theorem bE : zB 138 126 = [0, 6, 7, 10] := by kernel_rfl
theorem bc : zA 138 126 = [] := by kernel_rfl
theorem bD : zB 139 238 = [0, 1, 6, 7, 8, 9] := by kernel_rfl
theorem bb : zA 139 238 = [] := by kernel_rfl
theorem W7 : zB 141 14 = [0, 6, 7] := by kernel_rfl
theorem Xt : zA 141 14 = [] := by kernel_rfl
theorem W6 : zB 142 58 = [0, 1, 2, 7, 8] := by kernel_rfl
theorem Xs : zA 142 58 = [6] := by kernel_rfl
theorem fE : zB 142 3728 = [0, 1, 2, 7, 8] := by kernel_rfl
theorem fq : zA 142 3728 = [0, 1, 2, 7, 8] := by kernel_rfl
theorem kf : zB 142 477674 = [0, 1, 2, 7, 8, 9] := by kernel_rfl
theorem kc : zA 142 477674 = [0, 1, 2, 7, 8] := by kernel_rfl
theorem ke : zB 142 477690 = [0, 1, 2, 7, 8, 10] := by kernel_rfl
theorem kb : zA 142 477690 = [0, 1, 2, 7, 8] := by kernel_rfl
theorem W5 : zB 144 60 = [0, 1, 9, 10] := by kernel_rfl
theorem Xr : zA 144 60 = [9] := by kernel_rfl
theorem bC : zB 144 960 = [0, 1, 9, 10] := by kernel_rfl
theorem ba : zA 144 960 = [0, 1, 9, 10] := by kernel_rfl
theorem fD : zB 144 1924 = [0, 1, 9, 10] := by kernel_rfl
theorem fo : zA 144 1924 = [0, 1, 9, 10] := by kernel_rfl
theorem W4 : zB 145 60 = [0, 1, 10, 11] := by kernel_rfl
theorem Xq : zA 145 60 = [0, 1, 10, 11] := by kernel_rfl
theorem bB : zB 145 124 = [0, 1, 10, 11] := by kernel_rfl
theorem b9 : zA 145 124 = [0, 1, 10, 11] := by kernel_rfl
theorem fC : zB 145 4092 = [0, 1, 10, 11] := by kernel_rfl
theorem fm : zA 145 4092 = [0, 1, 11] := by kernel_rfl
theorem ik : zB 145 65472 = [0, 1, 10, 11] := by kernel_rfl
theorem jZ : zA 145 65472 = [0, 1, 10, 11] := by kernel_rfl
theorem kd : zB 145 130948 = [0, 1, 10, 11] := by kernel_rfl
theorem ka : zA 145 130948 = [0, 1, 10, 11] := by kernel_rfl
theorem bA : zB 148 122 = [0, 1, 5, 6, 7] := by kernel_rfl
theorem b8 : zA 148 122 = [0, 5, 6] := by kernel_rfl
theorem W2 : zB 154 26 = [0, 1, 7, 8] := by kernel_rfl
theorem Xo : zA 154 26 = [4] := by kernel_rfl
theorem XZ : zB 164 26 = [0, 1, 5] := by kernel_rfl
theorem Xm : zA 164 26 = [4] := by kernel_rfl
theorem XY : zB 171 26 = [1, 3] := by kernel_rfl
theorem Xl : zA 171 26 = [1, 2] := by kernel_rfl
theorem bz : zB 172 124 = [0, 3, 4] := by kernel_rfl
theorem b7 : zA 172 124 = [0, 3] := by kernel_rfl
theorem UF : zB 174 6 = [0, 2, 3, 8] := by kernel_rfl
theorem Ub : zA 174 6 = [] := by kernel_rfl
theorem fB : zB 183 2044 = [0, 1, 2, 3, 9, 10] := by kernel_rfl
theorem fl : zA 183 2044 = [0, 9, 10] := by kernel_rfl
theorem XX : zB 192 26 = [0, 3] := by kernel_rfl
theorem Xk : zA 192 26 = [0, 2] := by kernel_rfl
theorem XW : zB 194 26 = [0, 1, 5] := by kernel_rfl
theorem Xj : zA 194 26 = [4] := by kernel_rfl
theorem XV : zB 195 58 = [0, 3, 4] := by kernel_rfl
theorem Xi : zA 195 58 = [0, 2, 3] := by kernel_rfl
theorem XU : zB 197 58 = [2, 3, 5, 6] := by kernel_rfl
theorem Xh : zA 197 58 = [2, 3, 4] := by kernel_rfl
theorem bx : zB 197 250 = [2, 3, 7] := by kernel_rfl
theorem b6 : zA 197 250 = [2, 3, 4] := by kernel_rfl
theorem bw : zB 198 250 = [0, 1, 6, 7] := by kernel_rfl
theorem b5 : zA 198 250 = [0, 1, 6] := by kernel_rfl
theorem XT : zB 199 62 = [0, 1, 5] := by kernel_rfl
theorem Xg : zA 199 62 = [4] := by kernel_rfl
theorem XS : zB 204 26 = [1, 13, 14, 15] := by kernel_rfl
theorem Xf : zA 204 26 = [1, 2] := by kernel_rfl
theorem XR : zB 204 58 = [1, 24, 25, 26] := by kernel_rfl
theorem Xe : zA 204 58 = [1, 2] := by kernel_rfl
theorem br : zB 205 250 = [0, 1, 5, 39, 40, 41] := by kernel_rfl
theorem cZ : zA 205 250 = [0, 1, 5] := by kernel_rfl
theorem fA : zB 205 4090 = [1, 8, 63, 64, 65] := by kernel_rfl
theorem fk : zA 205 4090 = [8] := by kernel_rfl
theorem XQ : zB 208 26 = [0, 3] := by kernel_rfl
theorem Xd : zA 208 26 = [0, 2] := by kernel_rfl
theorem XP : zB 211 26 = [2, 4] := by kernel_rfl
theorem Xc : zA 211 26 = [2] := by kernel_rfl
theorem fy : zB 214 2044 = [0, 1, 5, 6, 7, 8, 9, 10] := by kernel_rfl
theorem fh : zA 214 2044 = [4] := by kernel_rfl
theorem fx : zB 215 3770 = [5, 6, 47, 48, 49] := by kernel_rfl
theorem fg : zA 215 3770 = [2, 3, 5, 6] := by kernel_rfl
theorem bq : zB 229 250 = [0, 1, 5, 6, 7, 8, 9] := by kernel_rfl
theorem cY : zA 229 250 = [0, 1, 5, 6, 7, 8] := by kernel_rfl
theorem fw : zB 229 1018 = [0, 1, 5, 6, 7, 8, 10] := by kernel_rfl
theorem ff : zA 229 1018 = [4] := by kernel_rfl
theorem XO : zB 239 58 = [0, 4, 5] := by kernel_rfl
theorem Xb : zA 239 58 = [0, 4] := by kernel_rfl
theorem bo : zB 239 250 = [4, 6, 7, 8] := by kernel_rfl
theorem cX : zA 239 250 = [4, 6] := by kernel_rfl
theorem ij : zB 240 32762 = [1, 8, 9, 10, 11, 12, 13, 99, 100, 101] := by kernel_rfl
theorem jY : zA 240 32762 = [6, 7, 9, 12, 13] := by kernel_rfl
theorem bn : zB 247 508 = [0, 3, 4, 5] := by kernel_rfl
theorem cW : zA 247 508 = [2, 3] := by kernel_rfl
theorem XN : zB 250 12 = [0, 1, 4] := by kernel_rfl
theorem Xa : zA 250 12 = [0, 1, 4] := by kernel_rfl
theorem fu : zB 251 4060 = [0, 1, 3, 4, 10, 11, 12, 13, 17] := by kernel_rfl
theorem fe : zA 251 4060 = [0, 1, 3, 4, 10, 11, 12, 13] := by kernel_rfl
theorem ig : zB 251 16220 = [0, 1, 3, 4, 10, 11, 12, 13, 14, 15, 16] := by kernel_rfl
theorem jX : zA 251 16220 = [0, 1, 3, 4, 10, 11, 12, 13] := by kernel_rfl
theorem LTS : zB 8 506 = [0, 3, 4, 5, 6, 7] ∧
 zA 8 506 = [0, 3, 4, 5, 6] ∧
 zB 10 506 = [2, 4, 5, 96, 97] ∧
 zA 10 506 = [4, 5] ∧
 zB 10 62942 = [2, 4, 5, 6, 41, 42, 43] ∧
 zA 10 62942 = [2, 4, 5] ∧
 zB 10 503786 = [2, 4, 5, 8, 70, 71, 72] ∧
 zA 10 503786 = [2, 4, 5, 8] ∧
 zB 14 506 = [3, 5, 6, 7] ∧
 zA 14 506 = [5] ∧
 zB 15 250 = [5, 6, 27, 28, 29] ∧
 zA 15 250 = [6] ∧
 zB 16 58 = [0, 1, 5] ∧
 zA 16 58 = [4] ∧
 zB 17 26 = [0, 1, 5] ∧
 zA 17 26 = [1] ∧
 zB 18 26 = [0, 1, 5] ∧
 zA 18 26 = [1, 4] ∧
 zB 23 60 = [2, 5, 6] ∧
 zA 23 60 = [5] ∧
 zB 27 60 = [2, 5, 6] ∧
 zA 27 60 = [5] ∧
 zB 31 26 = [1, 3] ∧
 zA 31 26 = [1, 2] ∧
 zB 32 26 = [1, 6, 7, 8] ∧
 zA 32 26 = [1, 2] ∧
 zB 35 122 = [0, 1, 5] ∧
 zA 35 122 = [1, 4] ∧
 zB 36 122 = [0, 1, 5] ∧
 zA 36 122 = [1, 4] ∧
 zB 38 58 = [1, 2, 3, 4] ∧
 zA 38 58 = [2, 3] ∧
 zB 40 26 = [0, 1, 5, 7] ∧
 zA 40 26 = [0, 5, 6] ∧
 zB 42 58 = [1, 2, 4, 5, 6] ∧
 zA 42 58 = [1, 2, 4, 5] ∧
 zB 42 122 = [1, 2, 4, 5, 7] ∧
 zA 42 122 = [4, 5] ∧
 zB 42 125242 = [1, 2, 4, 5, 7, 8, 9] ∧
 zA 42 125242 = [1, 2, 4, 5, 7, 8] ∧
 zB 43 58 = [0, 3, 4] ∧
 zA 43 58 = [3] ∧
 zB 44 58 = [0, 3, 4] ∧
 zA 44 58 = [3] ∧
 zB 45 58 = [2, 3, 11, 12, 13] ∧
 zA 45 58 = [2, 3] ∧
 zB 49 122 = [0, 1, 5, 6] ∧
 zA 49 122 = [0, 5] ∧
 zB 50 122 = [0, 1, 5, 6] ∧
 zA 50 122 = [0, 5] ∧
 zB 58 58 = [0, 1, 5] ∧
 zA 58 58 = [4] ∧
 zB 59 26 = [0, 1, 5] ∧
 zA 59 26 = [1] ∧
 zB 61 58 = [0, 1, 5] ∧
 zA 61 58 = [4] ∧
 zB 62 26 = [1, 2, 5] ∧
 zA 62 26 = [4] ∧
 zB 64 58 = [0, 1, 12, 13] ∧
 zA 64 58 = [4] ∧
 zB 67 60 = [0, 3] ∧
 zA 67 60 = [3] ∧
 zB 68 28 = [0, 1, 5] ∧
 zA 68 28 = [0, 1, 5] ∧
 zB 81 26 = [0, 1, 5] ∧
 zA 81 26 = [4] ∧
 zB 83 26 = [1, 3] ∧
 zA 83 26 = [1, 2] ∧
 zB 84 26 = [1, 2, 5] ∧
 zA 84 26 = [4] ∧
 zB 86 26 = [1, 2, 7, 8, 9] ∧
 zA 86 26 = [4] ∧
 zB 87 26 = [0, 1, 7, 8] ∧
 zA 87 26 = [4] ∧
 zB 92 58 = [0, 1, 5, 6] ∧
 zA 92 58 = [5] ∧
 zB 96 26 = [0, 1, 7, 8] ∧
 zA 96 26 = [4] ∧
 zB 99 122 = [0, 1, 5, 6] ∧
 zA 99 122 = [0, 5] ∧
 zB 102 26 = [0, 1, 5] ∧
 zA 102 26 = [1] ∧
 zB 104 58 = [0, 1, 12, 13] ∧
 zA 104 58 = [4] ∧
 zB 105 58 = [0, 3] ∧
 zA 105 58 = [0, 2] ∧
 zB 105 59690 = [0, 3, 4, 5] ∧
 zA 105 59690 = [0, 3] ∧
 zB 116 26 = [0, 1, 7, 8] ∧
 zA 116 26 = [4] ∧
 zB 117 14 = [0, 1, 2, 3, 8, 9] ∧
 zA 117 14 = [] ∧
 zB 120 58 = [0, 3, 4] ∧
 zA 120 58 = [0, 2] ∧
 zB 120 59706 = [0, 3, 4, 5, 6] ∧
 zA 120 59706 = [0, 2, 3, 4, 5] ∧
 zB 122 26 = [0, 3] ∧
 zA 122 26 = [0, 2] ∧
 zB 123 58 = [0, 3, 10, 11, 12] ∧
 zA 123 58 = [0, 2] ∧
 zB 126 26 = [0, 5, 6, 7] ∧
 zA 126 26 = [2] ∧
 zB 127 122 = [0, 1, 5] ∧
 zA 127 122 = [1, 4] ∧
 zB 128 58 = [0, 3, 4] ∧
 zA 128 58 = [3] ∧
 zB 130 26 = [0, 1, 7, 8] ∧
 zA 130 26 = [4] ∧
 zB 131 58 = [0, 1, 5] ∧
 zA 131 58 = [4] ∧
 zB 135 122 = [1, 3, 4] ∧
 zA 135 122 = [3] ∧
 zB 137 6 = [0, 1, 2, 6] ∧
 zA 137 6 = [] ∧
 zB 137 402 = [0, 1, 2, 6, 7] ∧
 zA 137 402 = [0, 1, 2, 6] ∧
 zB 138 122 = [0, 6, 7, 8, 9] ∧
 zA 138 122 = [0, 6, 7, 8] ∧
 zB 138 126 = [0, 6, 7, 10] ∧
 zA 138 126 = [] ∧
 zB 139 238 = [0, 1, 6, 7, 8, 9] ∧
 zA 139 238 = [] ∧
 zB 141 14 = [0, 6, 7] ∧
 zA 141 14 = [] ∧
 zB 142 58 = [0, 1, 2, 7, 8] ∧
 zA 142 58 = [6] ∧
 zB 142 3728 = [0, 1, 2, 7, 8] ∧
 zA 142 3728 = [0, 1, 2, 7, 8] ∧
 zB 142 477674 = [0, 1, 2, 7, 8, 9] ∧
 zA 142 477674 = [0, 1, 2, 7, 8] ∧
 zB 142 477690 = [0, 1, 2, 7, 8, 10] ∧
 zA 142 477690 = [0, 1, 2, 7, 8] ∧
 zB 144 60 = [0, 1, 9, 10] ∧
 zA 144 60 = [9] ∧
 zB 144 960 = [0, 1, 9, 10] ∧
 zA 144 960 = [0, 1, 9, 10] ∧
 zB 144 1924 = [0, 1, 9, 10] ∧
 zA 144 1924 = [0, 1, 9, 10] ∧
 zB 145 60 = [0, 1, 10, 11] ∧
 zA 145 60 = [0, 1, 10, 11] ∧
 zB 145 124 = [0, 1, 10, 11] ∧
 zA 145 124 = [0, 1, 10, 11] ∧
 zB 145 4092 = [0, 1, 10, 11] ∧
 zA 145 4092 = [0, 1, 11] ∧
 zB 145 65472 = [0, 1, 10, 11] ∧
 zA 145 65472 = [0, 1, 10, 11] ∧
 zB 145 130948 = [0, 1, 10, 11] ∧
 zA 145 130948 = [0, 1, 10, 11] ∧
 zB 148 122 = [0, 1, 5, 6, 7] ∧
 zA 148 122 = [0, 5, 6] ∧
 zB 154 26 = [0, 1, 7, 8] ∧
 zA 154 26 = [4] ∧
 zB 164 26 = [0, 1, 5] ∧
 zA 164 26 = [4] ∧
 zB 171 26 = [1, 3] ∧
 zA 171 26 = [1, 2] ∧
 zB 172 124 = [0, 3, 4] ∧
 zA 172 124 = [0, 3] ∧
 zB 174 6 = [0, 2, 3, 8] ∧
 zA 174 6 = [] ∧
 zB 183 2044 = [0, 1, 2, 3, 9, 10] ∧
 zA 183 2044 = [0, 9, 10] ∧
 zB 192 26 = [0, 3] ∧
 zA 192 26 = [0, 2] ∧
 zB 194 26 = [0, 1, 5] ∧
 zA 194 26 = [4] ∧
 zB 195 58 = [0, 3, 4] ∧
 zA 195 58 = [0, 2, 3] ∧
 zB 197 58 = [2, 3, 5, 6] ∧
 zA 197 58 = [2, 3, 4] ∧
 zB 197 250 = [2, 3, 7] ∧
 zA 197 250 = [2, 3, 4] ∧
 zB 198 250 = [0, 1, 6, 7] ∧
 zA 198 250 = [0, 1, 6] ∧
 zB 199 62 = [0, 1, 5] ∧
 zA 199 62 = [4] ∧
 zB 204 26 = [1, 13, 14, 15] ∧
 zA 204 26 = [1, 2] ∧
 zB 204 58 = [1, 24, 25, 26] ∧
 zA 204 58 = [1, 2] ∧
 zB 205 250 = [0, 1, 5, 39, 40, 41] ∧
 zA 205 250 = [0, 1, 5] ∧
 zB 205 4090 = [1, 8, 63, 64, 65] ∧
 zA 205 4090 = [8] ∧
 zB 208 26 = [0, 3] ∧
 zA 208 26 = [0, 2] ∧
 zB 211 26 = [2, 4] ∧
 zA 211 26 = [2] ∧
 zB 214 2044 = [0, 1, 5, 6, 7, 8, 9, 10] ∧
 zA 214 2044 = [4] ∧
 zB 215 3770 = [5, 6, 47, 48, 49] ∧
 zA 215 3770 = [2, 3, 5, 6] ∧
 zB 229 250 = [0, 1, 5, 6, 7, 8, 9] ∧
 zA 229 250 = [0, 1, 5, 6, 7, 8] ∧
 zB 229 1018 = [0, 1, 5, 6, 7, 8, 10] ∧
 zA 229 1018 = [4] ∧
 zB 239 58 = [0, 4, 5] ∧
 zA 239 58 = [0, 4] ∧
 zB 239 250 = [4, 6, 7, 8] ∧
 zA 239 250 = [4, 6] ∧
 zB 240 32762 = [1, 8, 9, 10, 11, 12, 13, 99, 100, 101] ∧
 zA 240 32762 = [6, 7, 9, 12, 13] ∧
 zB 247 508 = [0, 3, 4, 5] ∧
 zA 247 508 = [2, 3] ∧
 zB 250 12 = [0, 1, 4] ∧
 zA 250 12 = [0, 1, 4] ∧
 zB 251 4060 = [0, 1, 3, 4, 10, 11, 12, 13, 17] ∧
 zA 251 4060 = [0, 1, 3, 4, 10, 11, 12, 13] ∧
 zB 251 16220 = [0, 1, 3, 4, 10, 11, 12, 13, 14, 15, 16] ∧
 zA 251 16220 = [0, 1, 3, 4, 10, 11, 12, 13] := ⟨Ug, VM, Wh, XD, fF, ft, im, ib, W3, Xp, W1, Xn, UG, Uc, UE, Ua, UD, U9, UC, U8, UB, U7, UA, U6, Uz, U5, XM, X9, XL, X8, Uy, U4, Ux, U3, Uw, U2, XK, X7, ie, jW, Uv, U1, Uu, U0, Ut, VZ, XJ, X6, XI, X5, Us, VY, Ur, VX, Uq, VW, Up, VV, Uo, VU, Un, VT, Um, VS, Ul, VR, Uk, VQ, Uj, VP, Ui, VO, Uh, VN, Uf, VL, Ue, VK, XH, X4, Wk, XG, Wj, XF, Wi, XE, iq, ic, Wg, XC, Wf, XB, We, XA, il, ia, Wd, Xz, Wc, Xy, Wb, Xx, bI, bm, Wa, Xw, W9, Xv, W8, Xu, bH, bj, UH, Ud, bG, bh, bF, bf, bE, bc, bD, bb, W7, Xt, W6, Xs, fE, fq, kf, kc, ke, kb, W5, Xr, bC, ba, fD, fo, W4, Xq, bB, b9, fC, fm, ik, jZ, kd, ka, bA, b8, W2, Xo, XZ, Xm, XY, Xl, bz, b7, UF, Ub, fB, fl, XX, Xk, XW, Xj, XV, Xi, XU, Xh, bx, b6, bw, b5, XT, Xg, XS, Xf, XR, Xe, br, cZ, fA, fk, XQ, Xd, XP, Xc, fy, fh, fx, fg, bq, cY, fw, ff, XO, Xb, bo, cX, ij, jY, bn, cW, XN, Xa, fu, fe, ig, jX⟩
end Go.Proofs.YtonbkdklidfmfaaGreatDoor

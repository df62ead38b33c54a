/- Joined: E19 T1 T2 XL X1 X2 X3 X4 X6 LT. Conditions: those of each lemma. -/
import Derived.Test.YtonbkdklidfmfaaGreatDoorjG
import Derived.Shelf.Strings.Builder1
import Derived.Shelf.Strings.Builder2
import Derived.Shelf.Strings.OnBuilder
import Derived.Shelf.Small.Bits
import Derived.Shelf.Small.Strs
import Derived.Shelf.Strings.BuilderF
import Derived.Shelf.Strings.BuilderK
import Derived.Shelf.Utf8.RuneCount
import Derived.Shelf.Strings.Builder2Cap
import Derived.Shelf.Strconv.Atoi
import Derived.Shelf.Strconv.Itoa0
import Derived.Shelf.Strconv.Itoa1
import Derived.Shelf.LaysM
import Derived.Shelf.Strconv.Itoa2
import Derived.Shelf.Strconv.Itoa3
import Derived.Shelf.Strconv.AtoiErrFast
import Derived.Shelf.Strconv.ParseIntEmpty
import Derived.Shelf.Strconv.AtoiFail
import Derived.Shelf.Strconv.Clone
import Derived.Shelf.Strconv.SyntaxError
import Derived.Shelf.LaysC
import Derived.Shelf.Strconv.ToError
import Derived.Shelf.Strconv.AtoiErr
import Derived.Shelf.Strconv.ErrVar
import Derived.Shelf.Strconv.Lower
import Derived.Shelf.Strconv.ParseUint10
import Derived.Shelf.Strconv.ParseUint10Empty
import Derived.Shelf.Strconv.ParseUint10Any
import Derived.Shelf.Strconv.ParseInt10
import Derived.Shelf.Strconv.AtoiLong
import Derived.Shelf.Strconv.AtoiInnerAll
import Derived.Shelf.Strconv.RangeError
import Derived.Shelf.Strconv.ToErrorRange
import Derived.Shelf.Strconv.AtoiAll
import Derived.Shelf.Strconv.ErrVarAll
import Derived.Shelf.Strconv.ParseUintEmpty
import Derived.Shelf.Strconv.ParseUint10b64
import Derived.Shelf.Strconv.ParseUint10b32
import Derived.Shelf.Strconv.ParseUint10b16
import Derived.Shelf.Strconv.ParseUint10b8
import Derived.Shelf.Strconv.ParseUint10At
import Derived.Shelf.Strconv.ParseInt10At64
import Derived.Shelf.Strconv.ParseInt10At32
import Derived.Shelf.Strconv.ParseInt10At16
import Derived.Shelf.Strconv.ParseInt10At8
import Derived.Shelf.Strconv.ParseInt10All
import Derived.Shelf.Strings.Search1
import Derived.Shelf.Strings.Search2
import Derived.Shelf.Strings.Search3
import Derived.Shelf.Strings.Cut
import Derived.Shelf.Strings.Count
import Derived.Shelf.Strings.Shaped
import Derived.Shelf.Sort.Plain
import Derived.Shelf.Strings.Prefix
import Derived.Shelf.Strings.Split
import Derived.Shelf.Strings.SplitShaped
import Derived.Shelf.Unicode.Decode
import Derived.Shelf.Strings.RuneCount
import Derived.Shelf.Strings.Explode
import Derived.Shelf.Unicode.DecodeSlow
import Derived.Shelf.Unicode.DecodeAny
import Derived.Shelf.Strings.BuilderCap
import Derived.Shelf.Slices.Turned
import Derived.Shelf.Slices.Equal
import Derived.Ground.Names2Prog
import Derived.Shelf.Slices.Clone
import Derived.Shelf.Slices.CompactS
import Derived.Shelf.Slices.Cells
import Derived.Shelf.Slices.In.SortNone
import Derived.Shelf.Slices.Empties2
import Derived.Ground.SlgnProg
import Derived.Shelf.SlicesE.Clone
import Derived.Test.YtonbkdklidfmfaaGreatDoorProg
import Derived.Lib.SortBridge
import Derived.KernelRfl
set_option linter.unusedVariables false
set_option linter.unusedSimpArgs false
namespace Go.Proofs.YtonbkdklidfmfaaGreatDoor.E
set_option linter.unusedVariables false
set_option maxRecDepth 100000
theorem GP0 : type_of% @uO.eq_1 ∧ type_of% @uO.eq_2 ∧ type_of% @yJ.eq_1 ∧ type_of% @yJ.eq_2 ∧ type_of% @nq.eq_1 ∧ type_of% @nq.eq_2 ∧ type_of% @sR.eq_1 ∧ type_of% @sR.eq_2 ∧ type_of% @gi.eq_1 ∧ type_of% @gi.eq_2 ∧ type_of% @ren.rens.eq_1 ∧ type_of% @ren.rens.eq_2 ∧ type_of% @pN.eq_1 ∧ type_of% @pN.eq_2 ∧ type_of% @SG.eq_1 ∧ type_of% @xu.eq_1 ∧ type_of% @nI.eq_1 ∧ type_of% @nI.eq_2 ∧ type_of% @nH.eq_1 ∧ type_of% @nH.eq_2 ∧ type_of% @vL.eq_1 ∧ type_of% @vL.eq_2 ∧ type_of% @v7.eq_1 ∧ type_of% @v7.eq_2 ∧ type_of% @xJ.eq_1 ∧ type_of% @yI.eq_1 ∧ type_of% @yz.eq_1 ∧ type_of% @xT.eq_1 ∧ type_of% @wz.eq_1 ∧ type_of% @nL.eq_1 ∧ type_of% @nL.eq_2 ∧ type_of% @hdL.eq_1 ∧ type_of% @hdL.eq_2 ∧ type_of% @yz.eq_2 ∧ type_of% @refs.refss.eq_1 ∧ type_of% @refs.refss.eq_2 ∧ type_of% @opv.eq_1 ∧ type_of% @opv.eq_2 ∧ type_of% @opv.eq_3 ∧ type_of% @opv.eq_4 ∧ type_of% @yw.eq_1 ∧ type_of% @yw.eq_2 ∧ type_of% @yw.eq_3 ∧ type_of% @q9.eq_1 ∧ type_of% @q9.eq_2 ∧ type_of% @Kw.eq_1 ∧ type_of% @oC.eq_1 ∧ type_of% @oC.eq_2 ∧ type_of% @xD.eq_1 ∧ type_of% @xD.eq_2 ∧ type_of% @xD.eq_3 ∧ type_of% @s6.eq_1 ∧ type_of% @fld.eq_1 ∧ type_of% @uI.eq_1 :=
 ⟨@uO.eq_1, @uO.eq_2, @yJ.eq_1, @yJ.eq_2, @nq.eq_1, @nq.eq_2, @sR.eq_1, @sR.eq_2, @gi.eq_1, @gi.eq_2, @ren.rens.eq_1, @ren.rens.eq_2, @pN.eq_1, @pN.eq_2, @SG.eq_1, @xu.eq_1, @nI.eq_1, @nI.eq_2, @nH.eq_1, @nH.eq_2, @vL.eq_1, @vL.eq_2, @v7.eq_1, @v7.eq_2, @xJ.eq_1, @yI.eq_1, @yz.eq_1, @xT.eq_1, @wz.eq_1, @nL.eq_1, @nL.eq_2, @hdL.eq_1, @hdL.eq_2, @yz.eq_2, @refs.refss.eq_1, @refs.refss.eq_2, @opv.eq_1, @opv.eq_2, @opv.eq_3, @opv.eq_4, @yw.eq_1, @yw.eq_2, @yw.eq_3, @q9.eq_1, @q9.eq_2, @Kw.eq_1, @oC.eq_1, @oC.eq_2, @xD.eq_1, @xD.eq_2, @xD.eq_3, @s6.eq_1, @fld.eq_1, @uI.eq_1⟩
theorem GP1 : type_of% @tX.eq_1 ∧ type_of% @wg.eq_1 ∧ type_of% @tF.eq_1 ∧ type_of% @tF.eq_2 ∧ type_of% @tF.eq_3 ∧ type_of% @tF.eq_4 ∧ type_of% @tF.eq_5 ∧ type_of% @ghH.eq_1 ∧ type_of% @ghH.eq_2 ∧ type_of% @asArg.asArgs.eq_1 ∧ type_of% @asArg.asArgs.eq_2 ∧ type_of% @yv.snapVs.eq_1 ∧ type_of% @yv.snapVs.eq_2 ∧ type_of% @xR.eq_1 ∧ type_of% @xR.eq_2 ∧ type_of% @uw.eq_1 ∧ type_of% @uw.eq_2 ∧ type_of% @zc.flatVs.eq_1 ∧ type_of% @zc.flatVs.eq_2 ∧ type_of% @mh ∧ type_of% @yZ.eq_1 ∧ type_of% @vc.eq_1 ∧ type_of% @xE.eq_1 ∧ type_of% @nW.eq_1 ∧ type_of% @nW.eq_2 ∧ type_of% @pO.eq_1 ∧ type_of% @qL.eq_1 ∧ type_of% @iU.eq_1 ∧ type_of% @wQ.eq_1 ∧ type_of% @wQ.eq_2 ∧ type_of% @xS.eq_1 ∧ type_of% @xS.eq_2 ∧ type_of% @yk.eq_1 ∧ type_of% @app.eq_1 ∧ type_of% @ic.eq_1 ∧ type_of% @yR.gives.eq_1 ∧ type_of% @yR.gives.eq_2 ∧ type_of% @rM.eq_1 ∧ type_of% @dI.eq_1 ∧ type_of% @dI.eq_2 ∧ type_of% @vE.eq_1 ∧ type_of% @vE.eq_2 ∧ type_of% @vE.eq_3 ∧ type_of% @vK.eq_1 ∧ type_of% @vK.eq_2 ∧ type_of% @vK.eq_3 ∧ type_of% @vK.eq_4 ∧ type_of% @rO.eq_1 ∧ type_of% @rO.eq_2 ∧ type_of% @rO.eq_3 ∧ type_of% @xC.eq_1 :=
 ⟨@tX.eq_1, @wg.eq_1, @tF.eq_1, @tF.eq_2, @tF.eq_3, @tF.eq_4, @tF.eq_5, @ghH.eq_1, @ghH.eq_2, @asArg.asArgs.eq_1, @asArg.asArgs.eq_2, @yv.snapVs.eq_1, @yv.snapVs.eq_2, @xR.eq_1, @xR.eq_2, @uw.eq_1, @uw.eq_2, @zc.flatVs.eq_1, @zc.flatVs.eq_2, @mh, @yZ.eq_1, @vc.eq_1, @xE.eq_1, @nW.eq_1, @nW.eq_2, @pO.eq_1, @qL.eq_1, @iU.eq_1, @wQ.eq_1, @wQ.eq_2, @xS.eq_1, @xS.eq_2, @yk.eq_1, @app.eq_1, @ic.eq_1, @yR.gives.eq_1, @yR.gives.eq_2, @rM.eq_1, @dI.eq_1, @dI.eq_2, @vE.eq_1, @vE.eq_2, @vE.eq_3, @vK.eq_1, @vK.eq_2, @vK.eq_3, @vK.eq_4, @rO.eq_1, @rO.eq_2, @rO.eq_3, @xC.eq_1⟩
theorem GP2 : type_of% @xC.eq_2 ∧ type_of% @gb.eq_1 ∧ type_of% @sh.eq_1 ∧ type_of% @sh.eq_2 ∧ type_of% @kd ∧ type_of% @fM ∧ type_of% @pK_1 ∧ type_of% @pK_2 ∧ type_of% @idx_eq ∧ type_of% @eP ∧ type_of% @List.flatMap_nil.{0, 0} ∧ type_of% @List.flatMap_cons.{0, 0} ∧ type_of% @List.mem_cons.{0} ∧ type_of% @List.not_mem_nil.{0} ∧ type_of% @or_false ∧ type_of% @false_or ∧ type_of% @or_true ∧ type_of% @true_or ∧ type_of% @OPL ∧ type_of% @Option.toList_some.{0} ∧ type_of% @Option.toList_none.{0} ∧ type_of% @Uc ∧ type_of% @fG ∧ type_of% @fH ∧ type_of% @jx ∧ type_of% @jy ∧ type_of% @lq ∧ type_of% @iz ∧ type_of% @bf ∧ type_of% @bH ∧ type_of% @db ∧ type_of% @dc ∧ type_of% @dd ∧ type_of% @jl ∧ type_of% @jm ∧ type_of% @jn ∧ type_of% @Zh ∧ type_of% @Zi ∧ type_of% @Zj ∧ type_of% @Int.toNat_natCast ∧ type_of% @nQ ∧ type_of% @ne_eq.{1} ∧ type_of% @List.isEmpty_nil.{0} ∧ type_of% @List.replicate_succ.{0} ∧ type_of% @List.replicate_zero.{0} ∧ type_of% @Nat.zero_mul ∧ type_of% @List.append_nil.{0} ∧ type_of% @nN :=
 ⟨@xC.eq_2, @gb.eq_1, @sh.eq_1, @sh.eq_2, @kd, @fM, @pK_1, @pK_2, @idx_eq, @eP, @List.flatMap_nil.{0, 0}, @List.flatMap_cons.{0, 0}, @List.mem_cons.{0}, @List.not_mem_nil.{0}, @or_false, @false_or, @or_true, @true_or, @OPL, @Option.toList_some.{0}, @Option.toList_none.{0}, @Uc, @fG, @fH, @jx, @jy, @lq, @iz, @bf, @bH, @db, @dc, @dd, @jl, @jm, @jn, @Zh, @Zi, @Zj, @Int.toNat_natCast, @nQ, @ne_eq.{1}, @List.isEmpty_nil.{0}, @List.replicate_succ.{0}, @List.replicate_zero.{0}, @Nat.zero_mul, @List.append_nil.{0}, @nN⟩
theorem GP3 : type_of% @nP ∧ type_of% @fk ∧ type_of% @fl ∧ type_of% @fm ∧ type_of% @fo ∧ type_of% @bM ∧ type_of% @Option.map_some.{0, 0} ∧ type_of% @Option.map_none.{0, 0} ∧ type_of% @Option.bind_some.{0, 0} ∧ type_of% @Option.bind_none.{0, 0} ∧ type_of% @Option.getD_some.{0} ∧ type_of% @Option.getD_none.{0} ∧ type_of% @List.map_cons.{0, 0} ∧ type_of% @List.map_nil.{0, 0} ∧ type_of% @List.all_cons.{0} ∧ type_of% @List.all_nil.{0} ∧ type_of% @List.isEmpty_cons.{0} ∧ type_of% @List.length_nil.{0} ∧ type_of% @List.length_cons.{0} ∧ type_of% @List.nil_append.{0} ∧ type_of% @List.cons_append.{0} ∧ type_of% @List.getElem?_cons_zero.{0} ∧ type_of% @List.getElem?_cons_succ.{0} ∧ type_of% @List.set_cons_zero.{0} ∧ type_of% @List.set_cons_succ.{0} ∧ type_of% @List.drop_zero.{0} ∧ type_of% @List.drop_succ_cons.{0} ∧ type_of% @List.take_succ_cons.{0} ∧ type_of% @List.take_zero.{0} ∧ type_of% @List.drop_nil.{0} ∧ type_of% @List.take_nil.{0} ∧ type_of% @List.toList_toArray.{0} ∧ type_of% @Bool.and_true ∧ type_of% @Bool.not_true ∧ type_of% @Bool.not_false ∧ type_of% @Bool.false_or ∧ type_of% @Bool.or_false ∧ type_of% @Bool.or_true ∧ type_of% @Bool.true_or ∧ type_of% @Bool.and_false ∧ type_of% @Bool.true_and ∧ type_of% @Bool.false_and ∧ type_of% @Bool.false_eq_true ∧ type_of% @and_true ∧ type_of% @true_and ∧ type_of% @and_self ∧ type_of% @Option.some.injEq.{0} ∧ type_of% @ite_true.{1} :=
 ⟨@nP, @fk, @fl, @fm, @fo, @bM, @Option.map_some.{0, 0}, @Option.map_none.{0, 0}, @Option.bind_some.{0, 0}, @Option.bind_none.{0, 0}, @Option.getD_some.{0}, @Option.getD_none.{0}, @List.map_cons.{0, 0}, @List.map_nil.{0, 0}, @List.all_cons.{0}, @List.all_nil.{0}, @List.isEmpty_cons.{0}, @List.length_nil.{0}, @List.length_cons.{0}, @List.nil_append.{0}, @List.cons_append.{0}, @List.getElem?_cons_zero.{0}, @List.getElem?_cons_succ.{0}, @List.set_cons_zero.{0}, @List.set_cons_succ.{0}, @List.drop_zero.{0}, @List.drop_succ_cons.{0}, @List.take_succ_cons.{0}, @List.take_zero.{0}, @List.drop_nil.{0}, @List.take_nil.{0}, @List.toList_toArray.{0}, @Bool.and_true, @Bool.not_true, @Bool.not_false, @Bool.false_or, @Bool.or_false, @Bool.or_true, @Bool.true_or, @Bool.and_false, @Bool.true_and, @Bool.false_and, @Bool.false_eq_true, @and_true, @true_and, @and_self, @Option.some.injEq.{0}, @ite_true.{1}⟩
theorem GP4 : type_of% @ite_false.{1} ∧ type_of% @decide_true ∧ type_of% @decide_false ∧ type_of% @not_true_eq_false ∧ type_of% @not_false_eq_true ∧ type_of% @beq_self_eq_true.{0} ∧ type_of% @Nat.zero_add ∧ type_of% @Nat.add_zero ∧ type_of% @Nat.le_refl ∧ type_of% @Nat.not_lt_zero ∧ type_of% @Option.isNone_some.{0} ∧ type_of% @Option.isSome_some.{0} ∧ type_of% @cond_true.{1} ∧ type_of% @cond_false.{1} :=
 ⟨@ite_false.{1}, @decide_true, @decide_false, @not_true_eq_false, @not_false_eq_true, @beq_self_eq_true.{0}, @Nat.zero_add, @Nat.add_zero, @Nat.le_refl, @Nat.not_lt_zero, @Option.isNone_some.{0}, @Option.isSome_some.{0}, @cond_true.{1}, @cond_false.{1}⟩
theorem GA : type_of% @GP0 ∧ type_of% @GP1 ∧ type_of% @GP2 ∧ type_of% @GP3 ∧ type_of% @GP4 :=
 ⟨@GP0, @GP1, @GP2, @GP3, @GP4⟩
theorem GX0 : type_of% @wo.eq_1 ∧ type_of% @wo.eq_2 ∧ type_of% @wo.eq_3 ∧ type_of% @wo.eq_4 ∧ type_of% @wo.eq_5 ∧ type_of% @wo.eq_6 ∧ type_of% @wo.eq_7 ∧ type_of% @dJ.eq_1 ∧ type_of% @dJ.eq_2 ∧ type_of% @vB.eq_1 ∧ type_of% @E.load.eq_1 ∧ type_of% @E.load.eq_2 ∧ type_of% @E.store.eq_1 ∧ type_of% @vS.eq_1 ∧ type_of% @vS.eq_2 ∧ type_of% @vS.eq_3 ∧ type_of% @vS.eq_4 ∧ type_of% @vS.eq_5 ∧ type_of% @vS.eq_6 ∧ type_of% @vS.eq_7 ∧ type_of% @vS.eq_8 ∧ type_of% @vS.eq_9 ∧ type_of% @vS.eq_10 ∧ type_of% @vS.eq_11 ∧ type_of% @q7.eq_1 ∧ type_of% @q7.eq_2 ∧ type_of% @q7.eq_3 ∧ type_of% @q7.eq_4 ∧ type_of% @q7.eq_5 ∧ type_of% @q7.eq_6 ∧ type_of% @q7.eq_7 ∧ type_of% @yc.eq_1 ∧ type_of% @yc.eq_2 ∧ type_of% @yc.eq_3 ∧ type_of% @yc.eq_4 ∧ type_of% @yc.eq_5 ∧ type_of% @kb.eq_1 ∧ type_of% @kb.eq_2 ∧ type_of% @kb.eq_3 ∧ type_of% @kb.eq_4 ∧ type_of% @fnV.eq_1 ∧ type_of% @fnV.eq_2 ∧ type_of% @yv.eq_1 ∧ type_of% @yv.eq_2 ∧ type_of% @yv.eq_3 :=
 ⟨@wo.eq_1, @wo.eq_2, @wo.eq_3, @wo.eq_4, @wo.eq_5, @wo.eq_6, @wo.eq_7, @dJ.eq_1, @dJ.eq_2, @vB.eq_1, @E.load.eq_1, @E.load.eq_2, @E.store.eq_1, @vS.eq_1, @vS.eq_2, @vS.eq_3, @vS.eq_4, @vS.eq_5, @vS.eq_6, @vS.eq_7, @vS.eq_8, @vS.eq_9, @vS.eq_10, @vS.eq_11, @q7.eq_1, @q7.eq_2, @q7.eq_3, @q7.eq_4, @q7.eq_5, @q7.eq_6, @q7.eq_7, @yc.eq_1, @yc.eq_2, @yc.eq_3, @yc.eq_4, @yc.eq_5, @kb.eq_1, @kb.eq_2, @kb.eq_3, @kb.eq_4, @fnV.eq_1, @fnV.eq_2, @yv.eq_1, @yv.eq_2, @yv.eq_3⟩
theorem GX1 : type_of% @yv.eq_4 ∧ type_of% @yv.eq_5 ∧ type_of% @yv.eq_6 ∧ type_of% @yv.eq_7 ∧ type_of% @se.eq_1 ∧ type_of% @se.eq_2 ∧ type_of% @se.eq_3 ∧ type_of% @sf.eq_1 ∧ type_of% @sf.eq_2 ∧ type_of% @sf.eq_3 ∧ type_of% @wL.eq_1 ∧ type_of% @wL.eq_2 ∧ type_of% @wL.eq_3 ∧ type_of% @wL.eq_4 ∧ type_of% @sg.eq_1 ∧ type_of% @sg.eq_2 ∧ type_of% @vN.eq_1 ∧ type_of% @vN.eq_2 ∧ type_of% @ZF.eq_1 ∧ type_of% @wx.eq_1 ∧ type_of% @wx.eq_2 ∧ type_of% @qb.eq_1 ∧ type_of% @qb.eq_2 ∧ type_of% @qb.eq_3 ∧ type_of% @wY.eq_1 ∧ type_of% @wY.eq_2 ∧ type_of% @wY.eq_3 ∧ type_of% @wY.eq_4 ∧ type_of% @SF.eq_1 ∧ type_of% @ZT.eq_1 ∧ type_of% @pM.eq_1 ∧ type_of% @pM.eq_2 ∧ type_of% @yR.eq_1 ∧ type_of% @yR.eq_2 ∧ type_of% @yR.eq_3 ∧ type_of% @yR.eq_4 ∧ type_of% @yR.eq_5 ∧ type_of% @yR.eq_6 ∧ type_of% @SI.eq_1 ∧ type_of% @ZE.eq_1 :=
 ⟨@yv.eq_4, @yv.eq_5, @yv.eq_6, @yv.eq_7, @se.eq_1, @se.eq_2, @se.eq_3, @sf.eq_1, @sf.eq_2, @sf.eq_3, @wL.eq_1, @wL.eq_2, @wL.eq_3, @wL.eq_4, @sg.eq_1, @sg.eq_2, @vN.eq_1, @vN.eq_2, @ZF.eq_1, @wx.eq_1, @wx.eq_2, @qb.eq_1, @qb.eq_2, @qb.eq_3, @wY.eq_1, @wY.eq_2, @wY.eq_3, @wY.eq_4, @SF.eq_1, @ZT.eq_1, @pM.eq_1, @pM.eq_2, @yR.eq_1, @yR.eq_2, @yR.eq_3, @yR.eq_4, @yR.eq_5, @yR.eq_6, @SI.eq_1, @ZE.eq_1⟩
/-- the words' equations, but for what is left over -/
theorem GX : type_of% @GX0 ∧ type_of% @GX1 := ⟨@GX0, @GX1⟩
theorem LL : type_of% @List.length_cons.{0} ∧ type_of% @List.length_append.{0} ∧ type_of% @List.length_nil.{0} ∧ type_of% @List.length_map.{0, 0} := ⟨@List.length_cons.{0}, @List.length_append.{0}, @List.length_nil.{0}, @List.length_map.{0, 0}⟩
theorem GZ : type_of% @Int.cast_ofNat_Int ∧ type_of% @vZ ∧ type_of% @eO ∧ type_of% @eN ∧ type_of% @Option.isSome_none.{0} := ⟨@Int.cast_ofNat_Int, @vZ, @eO, @eN, @Option.isSome_none.{0}⟩
end Go.Proofs.YtonbkdklidfmfaaGreatDoor.E
/- Plain words about texts: digits, quotes, joins. Conditions: those of each lemma. -/
namespace Go.Proofs.YtonbkdklidfmfaaGreatDoor
set_option linter.unusedVariables false
set_option linter.unusedSimpArgs false
abbrev Str := List UInt8
abbrev B2 (a lo hi : Int) : Bool := decide (lo ≤ a) && decide (a ≤ hi)
/-- a byte's number -/
abbrev nb (b : UInt8) : Int := (b.toNat : Int)
theorem UN (b : UInt8) : (b.toNat : Int) < 256 ∧ (0 : Int) ≤ (b.toNat : Int) := by have := b.toNat_lt; omega
/-- the parts between a byte -/
def x7 (b : UInt8) : Str → List Str
 | [] => [[]]
 | x :: s => if x = b then [] :: x7 b s else match x7 b s with
  | p :: r => (x :: p) :: r
  | [] => [[x]]
end Go.Proofs.YtonbkdklidfmfaaGreatDoor
/- Lists of texts, trees: as the evaluator sees them; their sizes. Conditions: those of each lemma. -/
namespace Go.Proofs.YtonbkdklidfmfaaGreatDoor
open E
set_option linter.unusedSimpArgs false
set_option linter.unusedVariables false
set_option maxRecDepth 100000
/-- a list of texts -/
def strs (ks : List (List UInt8)) : List (List T) := ks.map fun s => [.str s]
def ya : List (List UInt8) → Nat
 | [] => 0
 | s :: ks => s.length + ya ks
theorem zi (ks : List (List UInt8)) : (strs ks).length = ks.length := by simp [strs]
theorem wa (ks : List (List UInt8)) (i : Nat) (h : i < ks.length) : (strs ks)[i]? = some [.str ks[i]] := by simp [strs, h]
theorem cw (ks : List (List UInt8)) (i : Nat) (h : i < ks.length) : ya (ks.drop i) = ks[i].length + ya (ks.drop (i + 1)) := by
 rw [List.drop_eq_getElem_cons h]; rfl
/-- a row filled up to a place -/
def u5 (xs : List (List T)) (z : List T) (i : Nat) : List (List T) := xs.take i ++ List.replicate (xs.length - i) z
theorem mB (xs : List (List T)) (z : List T) : u5 xs z 0 = List.replicate xs.length z := by simp [u5]
theorem jb (xs : List (List T)) (z : List T) : u5 xs z xs.length = xs := by simp [u5]
theorem ja (xs : List (List T)) (z : List T) (i : Nat) (h : i < xs.length) : (u5 xs z i)[i]? = some z := by
 unfold u5
 rw [List.getElem?_append_right (by simp; omega), List.getElem?_replicate, if_pos (by simp; omega)]
theorem j9 (xs : List (List T)) (z : List T) (i : Nat) (h : i < xs.length) : (u5 xs z i).set i xs[i] = u5 xs z (i + 1) := by
 unfold u5
 apply List.ext_getElem?
 intro j
 rw [List.getElem?_set]
 by_cases hj : i = j
 · subst hj
   rw [if_pos rfl, if_pos (by simp; omega), List.getElem?_append_left (by simp; omega)]
   simp [h]
 · rw [if_neg hj]
   rcases Nat.lt_or_ge j i with hlt | hge
   · rw [List.getElem?_append_left (by simp; omega), List.getElem?_append_left (by simp; omega)]
     rw [List.getElem?_take, List.getElem?_take, if_pos hlt, if_pos (by omega)]
   · rw [List.getElem?_append_right (by simp; omega), List.getElem?_append_right (by simp; omega), List.getElem?_replicate, List.getElem?_replicate]
     simp only [List.length_take]
     by_cases hk : j < xs.length
     · rw [if_pos (by omega), if_pos (by omega)]
     · rw [if_neg (by omega), if_neg (by omega)]
inductive Tr where
 | mk (k n : Int) (s : List UInt8) (ks : List (List UInt8)) (cs : List Tr)
mutual
def Tr.enc : Tr → List T
 | .mk k n s ks cs => [.int .i64 k, .int .i64 n, .str s, .list 1 (strs ks), .list 5 (Tr.zh cs)]
def Tr.zh : List Tr → List (List T)
 | [] => []
 | c :: cs => Tr.enc c :: Tr.zh cs
end
mutual
def Tr.zY : Tr → Nat
 | .mk _ _ s ks cs => s.length + ks.length + ya ks + cs.length + Tr.zJ cs
def Tr.zJ : List Tr → Nat
 | [] => 0
 | c :: cs => Tr.zY c + Tr.zJ cs
end
mutual
def Tr.ok : Tr → Prop
 | .mk _ _ s ks cs => s.length ≤ 9223372036854775807 ∧ ks.length ≤ 9223372036854775807 ∧ (∀ x ∈ ks, x.length ≤ 9223372036854775807) ∧ cs.length ≤ 9223372036854775807 ∧ Tr.oks cs
def Tr.oks : List Tr → Prop
 | [] => True
 | c :: cs => Tr.ok c ∧ Tr.oks cs
end
theorem Tr.iM : ∀ cs : List Tr, Tr.zh cs = cs.map Tr.enc
 | [] => rfl
 | c :: cs => by simp [Tr.zh, Tr.iM cs]
theorem Tr.zj (cs : List Tr) : (Tr.zh cs).length = cs.length := by simp [Tr.iM]
theorem Tr.xm (cs : List Tr) (i : Nat) (h : i < cs.length) : (Tr.zh cs)[i]? = some cs[i].enc := by simp [Tr.iM, h]
theorem Tr.xG (cs : List Tr) (i : Nat) (h : i < cs.length) : Tr.zJ (cs.drop i) = cs[i].zY + Tr.zJ (cs.drop (i + 1)) := by
 rw [List.drop_eq_getElem_cons h]; rfl
theorem Tr.ye : ∀ {cs : List Tr} {c : Tr}, c ∈ cs → c.zY ≤ Tr.zJ cs
 | c' :: cs, c, h => by
  simp only [Tr.zJ]
  rcases List.mem_cons.1 h with rfl | h
  · omega
  · have := Tr.ye h; omega
end Go.Proofs.YtonbkdklidfmfaaGreatDoor
/- The shelf's contracts at this program, laid by the kit's own tool. Conditions: none. -/
namespace Go.Proofs
open Go.Shelf
def Tryz.oU : Go.Shelf.Ren := ⟨fun | 156 => 205 | 165 => 221 | 166 => 222 | 169 => 223 | 240 => 236 | 241 => 237 | 276 => 244 | 277 => 245 | n => n, fun | 31 => 22 | 9 => 9 | 3 => 3 | 4 => 4 | 0 => 0 | 20 => 20 | 72 => 202 | 76 => 193 | 70 => 200 | 37 => 40 | 75 => 192 | 127 => 212 | 164 => 223 | 5 => 5 | 80 => 204 | n => n, fun | n => n⟩
theorem Tryz.aC : Go.Proofs.Lays.n156 Tryz.prog Tryz.oU := {
 mixed := by kernel_rfl
 f156 := Tryz.func205.trans (congrArg some (by kernel_rfl))
 f165 := Tryz.func221.trans (congrArg some (by kernel_rfl))
 f166 := Tryz.func222.trans (congrArg some (by kernel_rfl))
 f169 := Tryz.func223.trans (congrArg some (by kernel_rfl))
 f240 := Tryz.func236.trans (congrArg some (by kernel_rfl))
 f241 := Tryz.func237.trans (congrArg some (by kernel_rfl))
 f276 := Tryz.func244.trans (congrArg some (by kernel_rfl))
 f277 := Tryz.func245.trans (congrArg some (by kernel_rfl))
 t0 := Tryz.underlying0
 a0 := Tryz.isAgg0
 z0 := Tryz.sizeOf0
 v0 := Tryz.zeroValue0
 t3 := Tryz.underlying3
 a3 := Tryz.isAgg3
 z3 := Tryz.sizeOf3
 v3 := Tryz.zeroValue3
 t4 := Tryz.underlying4
 a4 := Tryz.isAgg4
 z4 := Tryz.sizeOf4
 v4 := Tryz.zeroValue4
 t9 := Tryz.underlying9
 a9 := Tryz.isAgg9
 z9 := Tryz.sizeOf9
 v9 := Tryz.zeroValue9
 t20 := Tryz.underlying20
 a20 := Tryz.isAgg20
 z20 := Tryz.sizeOf20
 v20 := Tryz.zeroValue20
 t31 := Tryz.underlying22
 a31 := Tryz.isAgg22
 z31 := Tryz.sizeOf22
 v31 := Tryz.zeroValue22
 t37 := Tryz.underlying40
 a37 := Tryz.isAgg40
 z37 := Tryz.sizeOf40
 v37 := Tryz.zeroValue40
 t70 := Tryz.underlying200
 a70 := Tryz.isAgg200
 z70 := Tryz.sizeOf200
 v70 := Tryz.zeroValue200
 t72 := Tryz.underlying202
 a72 := Tryz.isAgg202
 z72 := Tryz.sizeOf202
 v72 := Tryz.zeroValue202
 t75 := Tryz.underlying192
 a75 := Tryz.isAgg192
 z75 := Tryz.sizeOf192
 v75 := Tryz.zeroValue192
 t76 := Tryz.underlying193
 a76 := Tryz.isAgg193
 z76 := Tryz.sizeOf193
 v76 := Tryz.zeroValue193
 t127 := Tryz.underlying212
 a127 := Tryz.isAgg212
 z127 := Tryz.sizeOf212
 v127 := Tryz.zeroValue212
 t164 := Tryz.underlying223
 a164 := Tryz.isAgg223
 z164 := Tryz.sizeOf223
 v164 := Tryz.zeroValue223 }
theorem Tryz.uA : Builder.Extra Tryz.prog Tryz.oU := {
 sizeBuilder := by kernel_rfl
 liesBuilder := by kernel_rfl
 t5 := Tryz.underlying5
 a5 := Tryz.isAgg5
 z5 := Tryz.sizeOf5
 v5 := Tryz.zeroValue5
 infoByte := by kernel_rfl
 cellsByte := by kernel_rfl
 sizeByte := by kernel_rfl
 neB5 := by decide }
def Tryz.gC : Go.Shelf.Ren := ⟨fun | 106 => 108 | 213 => 133 | 265 => 169 | n => n, fun | 9 => 9 | 3 => 3 | n => n, fun | n => n⟩
theorem Tryz.TI : Go.Proofs.Lays.n106 Tryz.prog Tryz.gC := {
 mixed := by kernel_rfl
 f106 := Tryz.func108.trans (congrArg some (by kernel_rfl))
 f213 := Tryz.func133.trans (congrArg some (by kernel_rfl))
 f265 := Tryz.func169.trans (congrArg some (by kernel_rfl))
 t3 := Tryz.underlying3
 a3 := Tryz.isAgg3
 z3 := Tryz.sizeOf3
 v3 := Tryz.zeroValue3
 t9 := Tryz.underlying9
 a9 := Tryz.isAgg9
 z9 := Tryz.sizeOf9
 v9 := Tryz.zeroValue9 }
def Tryz.jJ : Go.Shelf.Ren := ⟨fun | 171 => 217 | 243 => 235 | 246 => 243 | 283 => 248 | 284 => 249 | 285 => 250 | 286 => 251 | 129 => 147 | 317 => 252 | 318 => 253 | 319 => 254 | 320 => 255 | 337 => 256 | 338 => 257 | n => n, fun | 3 => 3 | 9 => 9 | 2 => 2 | 4 => 4 | 171 => 230 | 0 => 0 | 53 => 146 | 37 => 40 | 5 => 5 | 173 => 232 | 212 => 235 | 51 => 144 | 20 => 20 | 213 => 236 | 46 => 120 | 232 => 238 | 233 => 239 | n => n, fun | 17 => 5 | 18 => 6 | 19 => 7 | n => n⟩
theorem Tryz.Wj : Go.Proofs.LaysM.n171 Tryz.prog Tryz.jJ := {
 mixed := by kernel_rfl
 f129 := Tryz.func147.trans (congrArg some (by kernel_rfl))
 f171 := Tryz.func217.trans (congrArg some (by kernel_rfl))
 f243 := Tryz.func235.trans (congrArg some (by kernel_rfl))
 f246 := Tryz.func243.trans (congrArg some (by kernel_rfl))
 f283 := Tryz.func248.trans (congrArg some (by kernel_rfl))
 f284 := Tryz.func249.trans (congrArg some (by kernel_rfl))
 f285 := Tryz.func250.trans (congrArg some (by kernel_rfl))
 f286 := Tryz.func251.trans (congrArg some (by kernel_rfl))
 f317 := Tryz.func252.trans (congrArg some (by kernel_rfl))
 f318 := Tryz.func253.trans (congrArg some (by kernel_rfl))
 f319 := Tryz.func254.trans (congrArg some (by kernel_rfl))
 f320 := Tryz.func255.trans (congrArg some (by kernel_rfl))
 f337 := Tryz.func256.trans (congrArg some (by kernel_rfl))
 f338 := Tryz.func257.trans (congrArg some (by kernel_rfl))
 t0 := Tryz.underlying0
 a0 := Tryz.isAgg0
 z0 := Tryz.sizeOf0
 v0 := Tryz.zeroValue0
 t2 := Tryz.underlying2
 a2 := Tryz.isAgg2
 z2 := Tryz.sizeOf2
 v2 := Tryz.zeroValue2
 t3 := Tryz.underlying3
 a3 := Tryz.isAgg3
 z3 := Tryz.sizeOf3
 v3 := Tryz.zeroValue3
 t4 := Tryz.underlying4
 a4 := Tryz.isAgg4
 z4 := Tryz.sizeOf4
 v4 := Tryz.zeroValue4
 t5 := Tryz.underlying5
 a5 := Tryz.isAgg5
 z5 := Tryz.sizeOf5
 v5 := Tryz.zeroValue5
 t9 := Tryz.underlying9
 a9 := Tryz.isAgg9
 z9 := Tryz.sizeOf9
 v9 := Tryz.zeroValue9
 t20 := Tryz.underlying20
 a20 := Tryz.isAgg20
 z20 := Tryz.sizeOf20
 v20 := Tryz.zeroValue20
 t37 := Tryz.underlying40
 a37 := Tryz.isAgg40
 z37 := Tryz.sizeOf40
 v37 := Tryz.zeroValue40
 t46 := Tryz.underlying120
 a46 := Tryz.isAgg120
 z46 := Tryz.sizeOf120
 v46 := Tryz.zeroValue120
 t51 := Tryz.underlying144
 a51 := Tryz.isAgg144
 z51 := Tryz.sizeOf144
 v51 := Tryz.zeroValue144
 t53 := Tryz.underlying146
 a53 := Tryz.isAgg146
 z53 := Tryz.sizeOf146
 v53 := Tryz.zeroValue146
 t171 := Tryz.underlying230
 a171 := Tryz.isAgg230
 z171 := Tryz.sizeOf230
 v171 := Tryz.zeroValue230
 t173 := Tryz.underlying232
 a173 := Tryz.isAgg232
 z173 := Tryz.sizeOf232
 v173 := Tryz.zeroValue232
 t212 := Tryz.underlying235
 a212 := Tryz.isAgg235
 z212 := Tryz.sizeOf235
 v212 := Tryz.zeroValue235
 t213 := Tryz.underlying236
 a213 := Tryz.isAgg236
 z213 := Tryz.sizeOf236
 t232 := Tryz.underlying238
 a232 := Tryz.isAgg238
 z232 := Tryz.sizeOf238
 v232 := Tryz.zeroValue238
 t233 := Tryz.underlying239
 a233 := Tryz.isAgg239
 z233 := Tryz.sizeOf239
 v233 := Tryz.zeroValue239
 g17 := by kernel_rfl
 g18 := by kernel_rfl
 g19 := by kernel_rfl
 i0 := by kernel_rfl
 i2 := by kernel_rfl
 i3 := by kernel_rfl
 i4 := by kernel_rfl
 i5 := by kernel_rfl
 i9 := by kernel_rfl
 i20 := by kernel_rfl
 i37 := by kernel_rfl
 i46 := by kernel_rfl
 i51 := by kernel_rfl
 i53 := by kernel_rfl
 i171 := by kernel_rfl
 i173 := by kernel_rfl
 i212 := by kernel_rfl
 i232 := by kernel_rfl
 i233 := by kernel_rfl
 m17 := by kernel_rfl
 m18 := by kernel_rfl
 m19 := by kernel_rfl }
def Tryz.jK : Go.Shelf.Ren := ⟨fun | 172 => 202 | 244 => 215 | 245 => 216 | 247 => 230 | 279 => 231 | 280 => 232 | 281 => 233 | 282 => 234 | 287 => 240 | 316 => 241 | 171 => 217 | 205 => 242 | 321 => 246 | 322 => 247 | 243 => 235 | 246 => 243 | 283 => 248 | 284 => 249 | 285 => 250 | 286 => 251 | 129 => 147 | 317 => 252 | 318 => 253 | 319 => 254 | 320 => 255 | 337 => 256 | 338 => 257 | n => n, fun | 9 => 9 | 3 => 3 | 75 => 192 | 76 => 193 | 4 => 4 | 5 => 5 | 167 => 206 | 37 => 40 | 0 => 0 | 85 => 207 | 2 => 2 | 168 => 209 | 53 => 146 | 175 => 217 | 46 => 120 | 210 => 220 | 127 => 212 | 145 => 229 | 143 => 227 | 21 => 21 | 171 => 230 | 173 => 232 | 212 => 235 | 51 => 144 | 20 => 20 | 213 => 236 | 232 => 238 | 233 => 239 | 80 => 204 | n => n, fun | 15 => 3 | 16 => 4 | 17 => 5 | 18 => 6 | 19 => 7 | n => n⟩
theorem Tryz.lb : Go.Proofs.LaysC.n172 Tryz.prog Tryz.jK := {
 mixed := by kernel_rfl
 f129 := Tryz.func147.trans (congrArg some (by kernel_rfl))
 f171 := Tryz.func217.trans (congrArg some (by kernel_rfl))
 f172 := Tryz.func202.trans (congrArg some (by kernel_rfl))
 f205 := Tryz.func242.trans (congrArg some (by kernel_rfl))
 f243 := Tryz.func235.trans (congrArg some (by kernel_rfl))
 f244 := Tryz.func215.trans (congrArg some (by kernel_rfl))
 f245 := Tryz.func216.trans (congrArg some (by kernel_rfl))
 f246 := Tryz.func243.trans (congrArg some (by kernel_rfl))
 f247 := Tryz.func230.trans (congrArg some (by kernel_rfl))
 f279 := Tryz.func231.trans (congrArg some (by kernel_rfl))
 f280 := Tryz.func232.trans (congrArg some (by kernel_rfl))
 f281 := Tryz.func233.trans (congrArg some (by kernel_rfl))
 f282 := Tryz.func234.trans (congrArg some (by kernel_rfl))
 f283 := Tryz.func248.trans (congrArg some (by kernel_rfl))
 f284 := Tryz.func249.trans (congrArg some (by kernel_rfl))
 f285 := Tryz.func250.trans (congrArg some (by kernel_rfl))
 f286 := Tryz.func251.trans (congrArg some (by kernel_rfl))
 f287 := Tryz.func240.trans (congrArg some (by kernel_rfl))
 f316 := Tryz.func241.trans (congrArg some (by kernel_rfl))
 f317 := Tryz.func252.trans (congrArg some (by kernel_rfl))
 f318 := Tryz.func253.trans (congrArg some (by kernel_rfl))
 f319 := Tryz.func254.trans (congrArg some (by kernel_rfl))
 f320 := Tryz.func255.trans (congrArg some (by kernel_rfl))
 f321 := Tryz.func246.trans (congrArg some (by kernel_rfl))
 f322 := Tryz.func247.trans (congrArg some (by kernel_rfl))
 f337 := Tryz.func256.trans (congrArg some (by kernel_rfl))
 f338 := Tryz.func257.trans (congrArg some (by kernel_rfl))
 t0 := Tryz.underlying0
 a0 := Tryz.isAgg0
 z0 := Tryz.sizeOf0
 v0 := Tryz.zeroValue0
 t2 := Tryz.underlying2
 a2 := Tryz.isAgg2
 z2 := Tryz.sizeOf2
 v2 := Tryz.zeroValue2
 t3 := Tryz.underlying3
 a3 := Tryz.isAgg3
 z3 := Tryz.sizeOf3
 v3 := Tryz.zeroValue3
 t4 := Tryz.underlying4
 a4 := Tryz.isAgg4
 z4 := Tryz.sizeOf4
 v4 := Tryz.zeroValue4
 t5 := Tryz.underlying5
 a5 := Tryz.isAgg5
 z5 := Tryz.sizeOf5
 v5 := Tryz.zeroValue5
 t9 := Tryz.underlying9
 a9 := Tryz.isAgg9
 z9 := Tryz.sizeOf9
 v9 := Tryz.zeroValue9
 t20 := Tryz.underlying20
 a20 := Tryz.isAgg20
 z20 := Tryz.sizeOf20
 v20 := Tryz.zeroValue20
 t21 := Tryz.underlying21
 a21 := Tryz.isAgg21
 z21 := Tryz.sizeOf21
 v21 := Tryz.zeroValue21
 t37 := Tryz.underlying40
 a37 := Tryz.isAgg40
 z37 := Tryz.sizeOf40
 v37 := Tryz.zeroValue40
 t46 := Tryz.underlying120
 a46 := Tryz.isAgg120
 z46 := Tryz.sizeOf120
 v46 := Tryz.zeroValue120
 t51 := Tryz.underlying144
 a51 := Tryz.isAgg144
 z51 := Tryz.sizeOf144
 v51 := Tryz.zeroValue144
 t53 := Tryz.underlying146
 a53 := Tryz.isAgg146
 z53 := Tryz.sizeOf146
 v53 := Tryz.zeroValue146
 t75 := Tryz.underlying192
 a75 := Tryz.isAgg192
 z75 := Tryz.sizeOf192
 v75 := Tryz.zeroValue192
 t76 := Tryz.underlying193
 a76 := Tryz.isAgg193
 z76 := Tryz.sizeOf193
 v76 := Tryz.zeroValue193
 t85 := Tryz.underlying207
 a85 := Tryz.isAgg207
 z85 := Tryz.sizeOf207
 v85 := Tryz.zeroValue207
 t127 := Tryz.underlying212
 a127 := Tryz.isAgg212
 z127 := Tryz.sizeOf212
 v127 := Tryz.zeroValue212
 t143 := Tryz.underlying227
 a143 := Tryz.isAgg227
 z143 := Tryz.sizeOf227
 v143 := Tryz.zeroValue227
 t145 := Tryz.underlying229
 a145 := Tryz.isAgg229
 z145 := Tryz.sizeOf229
 v145 := Tryz.zeroValue229
 t167 := Tryz.underlying206
 a167 := Tryz.isAgg206
 z167 := Tryz.sizeOf206
 v167 := Tryz.zeroValue206
 t168 := Tryz.underlying209
 a168 := Tryz.isAgg209
 z168 := Tryz.sizeOf209
 v168 := Tryz.zeroValue209
 t171 := Tryz.underlying230
 a171 := Tryz.isAgg230
 z171 := Tryz.sizeOf230
 v171 := Tryz.zeroValue230
 t173 := Tryz.underlying232
 a173 := Tryz.isAgg232
 z173 := Tryz.sizeOf232
 v173 := Tryz.zeroValue232
 t175 := Tryz.underlying217
 a175 := Tryz.isAgg217
 z175 := Tryz.sizeOf217
 v175 := Tryz.zeroValue217
 t210 := Tryz.underlying220
 a210 := Tryz.isAgg220
 z210 := Tryz.sizeOf220
 v210 := Tryz.zeroValue220
 t212 := Tryz.underlying235
 a212 := Tryz.isAgg235
 z212 := Tryz.sizeOf235
 v212 := Tryz.zeroValue235
 t213 := Tryz.underlying236
 a213 := Tryz.isAgg236
 z213 := Tryz.sizeOf236
 t232 := Tryz.underlying238
 a232 := Tryz.isAgg238
 z232 := Tryz.sizeOf238
 v232 := Tryz.zeroValue238
 t233 := Tryz.underlying239
 a233 := Tryz.isAgg239
 z233 := Tryz.sizeOf239
 v233 := Tryz.zeroValue239
 g15 := by kernel_rfl
 g16 := by kernel_rfl
 g17 := by kernel_rfl
 g18 := by kernel_rfl
 g19 := by kernel_rfl
 t80 := Tryz.underlying204
 a80 := Tryz.isAgg204
 z80 := Tryz.sizeOf204
 v80 := Tryz.zeroValue204
 i0 := by kernel_rfl
 i2 := by kernel_rfl
 i3 := by kernel_rfl
 i4 := by kernel_rfl
 i5 := by kernel_rfl
 i9 := by kernel_rfl
 i20 := by kernel_rfl
 i21 := by kernel_rfl
 i37 := by kernel_rfl
 i46 := by kernel_rfl
 i51 := by kernel_rfl
 i53 := by kernel_rfl
 i75 := by kernel_rfl
 i76 := by kernel_rfl
 i80 := by kernel_rfl
 i85 := by kernel_rfl
 i127 := by kernel_rfl
 i143 := by kernel_rfl
 i145 := by kernel_rfl
 i167 := by kernel_rfl
 i168 := by kernel_rfl
 i171 := by kernel_rfl
 i173 := by kernel_rfl
 i175 := by kernel_rfl
 i210 := by kernel_rfl
 i212 := by kernel_rfl
 i232 := by kernel_rfl
 i233 := by kernel_rfl
 m15 := by kernel_rfl
 m16 := by kernel_rfl
 m17 := by kernel_rfl
 m18 := by kernel_rfl
 m19 := by kernel_rfl
 c0 := by kernel_rfl
 c2 := by kernel_rfl
 c3 := by kernel_rfl
 c4 := by kernel_rfl
 c5 := by kernel_rfl
 c9 := by kernel_rfl
 c20 := by kernel_rfl
 c21 := by kernel_rfl
 c37 := by kernel_rfl
 c46 := by kernel_rfl
 c51 := by kernel_rfl
 c53 := by kernel_rfl
 c75 := by kernel_rfl
 c76 := by kernel_rfl
 c80 := by kernel_rfl
 c85 := by kernel_rfl
 c127 := by kernel_rfl
 c143 := by kernel_rfl
 c145 := by kernel_rfl
 c167 := by kernel_rfl
 c168 := by kernel_rfl
 c171 := by kernel_rfl
 c173 := by kernel_rfl
 c175 := by kernel_rfl
 c210 := by kernel_rfl
 c212 := by kernel_rfl
 c213 := by kernel_rfl
 c232 := by kernel_rfl
 c233 := by kernel_rfl }
def Tryz.tD : Go.Shelf.Ren := ⟨fun | 145 => 185 | 220 => 201 | 219 => 214 | 217 => 226 | 225 => 227 | 224 => 228 | 267 => 229 | 266 => 238 | 314 => 239 | n => n, fun | 9 => 9 | 4 => 4 | 59 => 179 | 3 => 3 | 5 => 5 | 46 => 120 | 146 => 182 | 51 => 144 | n => n, fun | 1 => 0 | n => n⟩
theorem Tryz.ek : Go.Proofs.LaysM.n145 Tryz.prog Tryz.tD := {
 mixed := by kernel_rfl
 f145 := Tryz.func185.trans (congrArg some (by kernel_rfl))
 f217 := Tryz.func226.trans (congrArg some (by kernel_rfl))
 f219 := Tryz.func214.trans (congrArg some (by kernel_rfl))
 f220 := Tryz.func201.trans (congrArg some (by kernel_rfl))
 f224 := Tryz.func228.trans (congrArg some (by kernel_rfl))
 f225 := Tryz.func227.trans (congrArg some (by kernel_rfl))
 f266 := Tryz.func238.trans (congrArg some (by kernel_rfl))
 f267 := Tryz.func229.trans (congrArg some (by kernel_rfl))
 f314 := Tryz.func239.trans (congrArg some (by kernel_rfl))
 t3 := Tryz.underlying3
 a3 := Tryz.isAgg3
 z3 := Tryz.sizeOf3
 v3 := Tryz.zeroValue3
 t4 := Tryz.underlying4
 a4 := Tryz.isAgg4
 z4 := Tryz.sizeOf4
 v4 := Tryz.zeroValue4
 t5 := Tryz.underlying5
 a5 := Tryz.isAgg5
 z5 := Tryz.sizeOf5
 v5 := Tryz.zeroValue5
 t9 := Tryz.underlying9
 a9 := Tryz.isAgg9
 z9 := Tryz.sizeOf9
 v9 := Tryz.zeroValue9
 t46 := Tryz.underlying120
 a46 := Tryz.isAgg120
 z46 := Tryz.sizeOf120
 v46 := Tryz.zeroValue120
 t51 := Tryz.underlying144
 a51 := Tryz.isAgg144
 z51 := Tryz.sizeOf144
 v51 := Tryz.zeroValue144
 t59 := Tryz.underlying179
 a59 := Tryz.isAgg179
 z59 := Tryz.sizeOf179
 v59 := Tryz.zeroValue179
 t146 := Tryz.underlying182
 a146 := Tryz.isAgg182
 z146 := Tryz.sizeOf182
 v146 := Tryz.zeroValue182
 g1 := by kernel_rfl
 i3 := by kernel_rfl
 i4 := by kernel_rfl
 i5 := by kernel_rfl
 i9 := by kernel_rfl
 i46 := by kernel_rfl
 i51 := by kernel_rfl
 i59 := by kernel_rfl
 i146 := by kernel_rfl
 m1 := by kernel_rfl
 s1_3 := fun w h => Go.Proofs.cell_of_shapedOpen_int (zero := #[.int .i64 0]) (t := 3) h (of_decide_eq_true (by kernel_rfl)) (by kernel_rfl) rfl (by kernel_rfl) (by kernel_rfl) Tryz.underlying3 }
def Tryz.gB : Go.Shelf.Ren := ⟨fun | 190 => 79 | 125 => 118 | 258 => 117 | 128 => 146 | 129 => 147 | 302 => 137 | 303 => 138 | 304 => 139 | 305 => 140 | 306 => 141 | 307 => 142 | 308 => 143 | 309 => 144 | 310 => 145 | 333 => 174 | 329 => 175 | 330 => 176 | 334 => 177 | 335 => 178 | 336 => 179 | 344 => 193 | n => n, fun | 31 => 22 | 9 => 9 | 3 => 3 | 46 => 120 | 0 => 0 | 51 => 144 | 53 => 146 | 4 => 4 | 183 => 136 | 182 => 135 | 131 => 141 | 5 => 5 | 218 => 170 | 222 => 174 | 228 => 185 | 229 => 186 | n => n, fun | n => n⟩
theorem Tryz.aB : Go.Proofs.Lays.n190 Tryz.prog Tryz.gB := {
 mixed := by kernel_rfl
 f125 := Tryz.func118.trans (congrArg some (by kernel_rfl))
 f128 := Tryz.func146.trans (congrArg some (by kernel_rfl))
 f129 := Tryz.func147.trans (congrArg some (by kernel_rfl))
 f190 := Tryz.func79.trans (congrArg some (by kernel_rfl))
 f258 := Tryz.func117.trans (congrArg some (by kernel_rfl))
 f302 := Tryz.func137.trans (congrArg some (by kernel_rfl))
 f303 := Tryz.func138.trans (congrArg some (by kernel_rfl))
 f304 := Tryz.func139.trans (congrArg some (by kernel_rfl))
 f305 := Tryz.func140.trans (congrArg some (by kernel_rfl))
 f306 := Tryz.func141.trans (congrArg some (by kernel_rfl))
 f307 := Tryz.func142.trans (congrArg some (by kernel_rfl))
 f308 := Tryz.func143.trans (congrArg some (by kernel_rfl))
 f309 := Tryz.func144.trans (congrArg some (by kernel_rfl))
 f310 := Tryz.func145.trans (congrArg some (by kernel_rfl))
 f329 := Tryz.func175.trans (congrArg some (by kernel_rfl))
 f330 := Tryz.func176.trans (congrArg some (by kernel_rfl))
 f333 := Tryz.func174.trans (congrArg some (by kernel_rfl))
 f334 := Tryz.func177.trans (congrArg some (by kernel_rfl))
 f335 := Tryz.func178.trans (congrArg some (by kernel_rfl))
 f336 := Tryz.func179.trans (congrArg some (by kernel_rfl))
 f344 := Tryz.func193.trans (congrArg some (by kernel_rfl))
 t0 := Tryz.underlying0
 a0 := Tryz.isAgg0
 z0 := Tryz.sizeOf0
 v0 := Tryz.zeroValue0
 t3 := Tryz.underlying3
 a3 := Tryz.isAgg3
 z3 := Tryz.sizeOf3
 v3 := Tryz.zeroValue3
 t4 := Tryz.underlying4
 a4 := Tryz.isAgg4
 z4 := Tryz.sizeOf4
 v4 := Tryz.zeroValue4
 t5 := Tryz.underlying5
 a5 := Tryz.isAgg5
 z5 := Tryz.sizeOf5
 v5 := Tryz.zeroValue5
 t9 := Tryz.underlying9
 a9 := Tryz.isAgg9
 z9 := Tryz.sizeOf9
 v9 := Tryz.zeroValue9
 t31 := Tryz.underlying22
 a31 := Tryz.isAgg22
 z31 := Tryz.sizeOf22
 v31 := Tryz.zeroValue22
 t46 := Tryz.underlying120
 a46 := Tryz.isAgg120
 z46 := Tryz.sizeOf120
 v46 := Tryz.zeroValue120
 t51 := Tryz.underlying144
 a51 := Tryz.isAgg144
 z51 := Tryz.sizeOf144
 v51 := Tryz.zeroValue144
 t53 := Tryz.underlying146
 a53 := Tryz.isAgg146
 z53 := Tryz.sizeOf146
 v53 := Tryz.zeroValue146
 t131 := Tryz.underlying141
 a131 := Tryz.isAgg141
 z131 := Tryz.sizeOf141
 v131 := Tryz.zeroValue141
 t182 := Tryz.underlying135
 a182 := Tryz.isAgg135
 z182 := Tryz.sizeOf135
 v182 := Tryz.zeroValue135
 t183 := Tryz.underlying136
 a183 := Tryz.isAgg136
 z183 := Tryz.sizeOf136
 v183 := Tryz.zeroValue136
 t218 := Tryz.underlying170
 a218 := Tryz.isAgg170
 z218 := Tryz.sizeOf170
 v218 := Tryz.zeroValue170
 t222 := Tryz.underlying174
 a222 := Tryz.isAgg174
 z222 := Tryz.sizeOf174
 v222 := Tryz.zeroValue174
 t228 := Tryz.underlying185
 a228 := Tryz.isAgg185
 z228 := Tryz.sizeOf185
 v228 := Tryz.zeroValue185
 t229 := Tryz.underlying186
 a229 := Tryz.isAgg186
 z229 := Tryz.sizeOf186
 v229 := Tryz.zeroValue186 }
def Tryz.tC : Go.Shelf.Ren := ⟨fun | 146 => 152 | 221 => 183 | 268 => 198 | 138 => 199 | 143 => 200 | 195 => 211 | 197 => 212 | 218 => 213 | 219 => 214 | 260 => 225 | 217 => 226 | 225 => 227 | 224 => 228 | 267 => 229 | 266 => 238 | 314 => 239 | n => n, fun | 9 => 9 | 31 => 22 | 3 => 3 | 4 => 4 | 0 => 0 | 105 => 197 | 21 => 21 | 5 => 5 | 46 => 120 | 119 => 213 | 139 => 216 | 138 => 215 | 146 => 182 | 51 => 144 | n => n, fun | 1 => 0 | 3 => 1 | 4 => 2 | n => n⟩
theorem Tryz.ej : Go.Proofs.LaysM.n146 Tryz.prog Tryz.tC := {
 mixed := by kernel_rfl
 f138 := Tryz.func199.trans (congrArg some (by kernel_rfl))
 f143 := Tryz.func200.trans (congrArg some (by kernel_rfl))
 f146 := Tryz.func152.trans (congrArg some (by kernel_rfl))
 f195 := Tryz.func211.trans (congrArg some (by kernel_rfl))
 f197 := Tryz.func212.trans (congrArg some (by kernel_rfl))
 f217 := Tryz.func226.trans (congrArg some (by kernel_rfl))
 f218 := Tryz.func213.trans (congrArg some (by kernel_rfl))
 f219 := Tryz.func214.trans (congrArg some (by kernel_rfl))
 f221 := Tryz.func183.trans (congrArg some (by kernel_rfl))
 f224 := Tryz.func228.trans (congrArg some (by kernel_rfl))
 f225 := Tryz.func227.trans (congrArg some (by kernel_rfl))
 f260 := Tryz.func225.trans (congrArg some (by kernel_rfl))
 f266 := Tryz.func238.trans (congrArg some (by kernel_rfl))
 f267 := Tryz.func229.trans (congrArg some (by kernel_rfl))
 f268 := Tryz.func198.trans (congrArg some (by kernel_rfl))
 f314 := Tryz.func239.trans (congrArg some (by kernel_rfl))
 t0 := Tryz.underlying0
 a0 := Tryz.isAgg0
 z0 := Tryz.sizeOf0
 v0 := Tryz.zeroValue0
 t3 := Tryz.underlying3
 a3 := Tryz.isAgg3
 z3 := Tryz.sizeOf3
 v3 := Tryz.zeroValue3
 t4 := Tryz.underlying4
 a4 := Tryz.isAgg4
 z4 := Tryz.sizeOf4
 v4 := Tryz.zeroValue4
 t5 := Tryz.underlying5
 a5 := Tryz.isAgg5
 z5 := Tryz.sizeOf5
 v5 := Tryz.zeroValue5
 t9 := Tryz.underlying9
 a9 := Tryz.isAgg9
 z9 := Tryz.sizeOf9
 v9 := Tryz.zeroValue9
 t21 := Tryz.underlying21
 a21 := Tryz.isAgg21
 z21 := Tryz.sizeOf21
 v21 := Tryz.zeroValue21
 t31 := Tryz.underlying22
 a31 := Tryz.isAgg22
 z31 := Tryz.sizeOf22
 v31 := Tryz.zeroValue22
 t46 := Tryz.underlying120
 a46 := Tryz.isAgg120
 z46 := Tryz.sizeOf120
 v46 := Tryz.zeroValue120
 t51 := Tryz.underlying144
 a51 := Tryz.isAgg144
 z51 := Tryz.sizeOf144
 v51 := Tryz.zeroValue144
 t105 := Tryz.underlying197
 a105 := Tryz.isAgg197
 z105 := Tryz.sizeOf197
 v105 := Tryz.zeroValue197
 t119 := Tryz.underlying213
 a119 := Tryz.isAgg213
 z119 := Tryz.sizeOf213
 t138 := Tryz.underlying215
 a138 := Tryz.isAgg215
 z138 := Tryz.sizeOf215
 v138 := Tryz.zeroValue215
 t139 := Tryz.underlying216
 a139 := Tryz.isAgg216
 z139 := Tryz.sizeOf216
 v139 := Tryz.zeroValue216
 t146 := Tryz.underlying182
 a146 := Tryz.isAgg182
 z146 := Tryz.sizeOf182
 v146 := Tryz.zeroValue182
 g1 := by kernel_rfl
 g3 := by kernel_rfl
 g4 := by kernel_rfl
 i0 := by kernel_rfl
 i3 := by kernel_rfl
 i4 := by kernel_rfl
 i5 := by kernel_rfl
 i9 := by kernel_rfl
 i21 := by kernel_rfl
 i31 := by kernel_rfl
 i46 := by kernel_rfl
 i51 := by kernel_rfl
 i105 := by kernel_rfl
 i138 := by kernel_rfl
 i139 := by kernel_rfl
 i146 := by kernel_rfl
 m1 := by kernel_rfl
 s1_3 := fun w h => Go.Proofs.cell_of_shapedOpen_int (zero := #[.int .i64 0]) (t := 3) h (of_decide_eq_true (by kernel_rfl)) (by kernel_rfl) rfl (by kernel_rfl) (by kernel_rfl) Tryz.underlying3
 m3 := by kernel_rfl
 m4 := by kernel_rfl }
def Tryz.gA : Go.Shelf.Ren := ⟨fun | 194 => 105 | n => n, fun | 31 => 22 | 9 => 9 | 3 => 3 | 4 => 4 | 0 => 0 | n => n, fun | n => n⟩
theorem Tryz.aA : Go.Proofs.Lays.n194 Tryz.prog Tryz.gA := {
 mixed := by kernel_rfl
 f194 := Tryz.func105.trans (congrArg some (by kernel_rfl))
 t0 := Tryz.underlying0
 a0 := Tryz.isAgg0
 z0 := Tryz.sizeOf0
 v0 := Tryz.zeroValue0
 t3 := Tryz.underlying3
 a3 := Tryz.isAgg3
 z3 := Tryz.sizeOf3
 v3 := Tryz.zeroValue3
 t4 := Tryz.underlying4
 a4 := Tryz.isAgg4
 z4 := Tryz.sizeOf4
 v4 := Tryz.zeroValue4
 t9 := Tryz.underlying9
 a9 := Tryz.isAgg9
 z9 := Tryz.sizeOf9
 v9 := Tryz.zeroValue9
 t31 := Tryz.underlying22
 a31 := Tryz.isAgg22
 z31 := Tryz.sizeOf22
 v31 := Tryz.zeroValue22 }
end Go.Proofs
/- What the library's functions answer, by the kit's own contract. Conditions: those of each lemma. -/
namespace Go.Proofs
open Go.Shelf
theorem Tryz.join_none (a : Option Addr) (c : Nat) (sep : ByteArray) (w : World) :
 Calls Tryz.prog 205 #[.slice a 0 c, .string sep] w fun e w' => e = .returned (.string ⟨#[]⟩) ∧ w' = w := Any.strings_Join_none Tryz.aC Tryz.uA a c sep w
theorem Tryz.join_some (bk o c : Nat) (xs : List ByteArray) (sep : ByteArray) (w : World)
 (hcells : ∀ (j : Nat) x, xs[j]? = some x → w.cell? ⟨bk, o + j, none⟩ = some (.string x))
 (hbk : bk < w.heap.size) (hN : xs.length ≤ 140737488355328) (hcap : xs.length ≤ c)
 (hlen : (Lib.join (xs.map (·.data.toList)) sep.data.toList).length ≤ 140737488355328) :
 Calls Tryz.prog 205 #[.slice (some ⟨bk, o, none⟩) xs.length c, .string sep] w fun e w' => e = .returned (.string ⟨(Lib.join (xs.map (·.data.toList)) sep.data.toList).toArray⟩) ∧ Go.RowKit.Below w.heap.size w w' :=
 Any.strings_Join Tryz.aC Tryz.uA bk o c xs sep w hcells hbk hN hcap hlen
theorem Tryz.itoa (n : Int) (h0 : -9223372036854775808 ≤ n) (h1 : n ≤ 9223372036854775807) (w : World) (htab : Lib.TabIs Tryz.prog w "internal/strconv.uint64pow10" .u64 Lib.pow10Tab) :
 Calls Tryz.prog 217 #[.int .i64 n] w fun e w' => e = .returned (.string ⟨(Lib.itoa n).toArray⟩) ∧ ∃ k os, w' = Go.Sort.grow (w.drewN k) os := Any.strconv_Itoa Tryz.Wj n h0 h1 w htab
theorem Tryz.gJ (w : World) (e : TypeId) (s : ByteArray) : Go.RowKit.Below w.heap.size w (Lib.bytesWorld w e s) :=
 ⟨rfl, rfl, rfl, by rw [Lib.bytesWorld_size]; omega, fun k hk => Lib.bytesWorld_at_old w e s k hk⟩
theorem Tryz.Su (s : ByteArray) (hmax : s.size ≤ 281474976710656) (v : Int) (h : Lib.atoiAll s.data.toList = .ok v) (w : World) :
 Calls Tryz.prog 202 #[.string s] w fun e w' => e = .returned (.tuple #[.int .i64 v, .nilIface]) ∧ Go.RowKit.Below w.heap.size w w' :=
 (Any.strconv_Atoi_ok Tryz.lb s (by omega) v h w).mono fun e w' ⟨h1, h2⟩ => ⟨h1, by
  rcases h2 with rfl | ⟨t, rfl⟩
  · exact Go.RowKit.Below.refl _ _
  · exact Tryz.gJ _ _ _⟩
theorem Tryz.V3 (s : ByteArray) (hlim : s.size ≤ 281474976710656) (h : Lib.atoiAll s.data.toList = Lib.NumEnd.syntax) (tp : TypeId) (p : Value) (w : World) (hvar : w.var? Tryz.prog "strconv.ErrSyntax" = some #[.iface tp p]) :
 Calls Tryz.prog 202 #[.string s] w fun e w' => ∃ t z, e = .returned (.tuple #[.int .i64 0, .iface t z]) ∧ Go.RowKit.Below w.heap.size w w' :=
 (Any.strconv_Atoi_syntax_var Tryz.lb s hlim h tp p w hvar).mono fun e w' ⟨N, h1, _, _, h2⟩ => ⟨_, _, h1, h2⟩
theorem Tryz.V4 (s : ByteArray) (hlim : s.size ≤ 281474976710656) (h : Lib.atoiAll s.data.toList = .range) (tp : TypeId) (p : Value) (w : World) (hvar : w.var? Tryz.prog "strconv.ErrRange" = some #[.iface tp p]) :
 Calls Tryz.prog 202 #[.string s] w fun e w' => ∃ t z, e = .returned (.tuple #[.int .i64 (Lib.atoiSat s.data.toList), .iface t z]) ∧ Go.RowKit.Below w.heap.size w w' :=
 (Any.strconv_Atoi_range_var Tryz.lb s hlim h tp p w hvar).mono fun e w' ⟨N, h1, _, _, h2⟩ => ⟨_, _, h1, h2⟩
theorem Tryz.W6 (a b : ByteArray) (w : World) : Calls Tryz.prog 108 #[.string a, .string b] w fun e w' => e = .returned (.int .i64 (Lib.compareBytes a.data.toList b.data.toList)) ∧ w' = w := Any.strings_Compare Tryz.TI a b w
end Go.Proofs
/- What the library's functions answer, as the evaluator takes it. Conditions: those of each lemma. -/
namespace Go.Proofs.YtonbkdklidfmfaaGreatDoor
open E
set_option linter.unusedSimpArgs false
set_option linter.unusedVariables false
set_option maxRecDepth 100000
/-- a list's texts -/
def strsOf : List (List T) → Option (List Str)
 | [] => some []
 | c :: r => match c with
  | [.str l] => (match strsOf r with | some ks => some (l :: ks) | none => none)
  | _ => none
theorem sr : ∀ ks : List Str, strsOf (strs ks) = some ks
 | [] => rfl
 | k :: ks => by
  have := sr ks
  simp only [strs] at this
  simp only [strs, List.map_cons, strsOf, this]
theorem sX : ∀ {es : List (List T)} {ks : List Str}, strsOf es = some ks → es = strs ks
 | [], ks, h => by simp only [strsOf] at h; cases h; rfl
 | c :: r, ks, h => by
  simp only [strsOf] at h
  split at h
  · split at h
    · rename_i ks' hk; cases h; rw [sX hk]; rfl
    · cases h
  · cases h
/-- what is shown by other means -/
def ZK : List V → Option V
 | [.t (.list 1 es), .t (.str sep)] => match strsOf es with
  | some ks => if ks.length ≤ 140737488355328 ∧ (Lib.join ks sep).length ≤ 140737488355328 then some (.t (.str (Lib.join ks sep))) else none
  | none => none
 | _ => none
def lj : List V → Option V
 | [.t (.str a), .t (.str b)] => some (.t (.int .i64 (Lib.compareBytes a b)))
 | _ => none
def ZL : List V → Option V
 | [.t (.int .i64 n)] => if -9223372036854775808 ≤ n ∧ n ≤ 9223372036854775807 then some (.t (.str (Lib.itoa n))) else none
 | _ => none
def ZS : List V → Option V
 | [.t (.str s)] => if s.length ≤ 281474976710656 then (match Lib.atoiAll s with
  | .ok v => some (.tup [.t (.int .i64 v), .t .nili])
  | Lib.NumEnd.syntax => some (.tup [.t (.int .i64 0), .t .nni])
  | .range => some (.tup [.t (.int .i64 (Lib.atoiSat s)), .t .nni])) else none
 | _ => none
def SJ : List V → Option V
 | [.t (.str s), .t (.str sep)] => if s.length < 4294967281 then some (.tup [.t (.str (Lib.cut s sep).1), .t (.str (Lib.cut s sep).2.1), .t (.bool (Lib.cut s sep).2.2)]) else none
 | _ => none
/-- the parts of a text -/
def ly (s sep : Str) : List Str := (Lib.splitB ⟨sep.toArray⟩ 0 (Lib.countB ⟨s.toArray⟩ ⟨sep.toArray⟩) ⟨s.toArray⟩).map (·.data.toList)
def iT : List V → Option V
 | [.t (.str s), .t (.str sep)] => if s.length < 4294967281 ∧ 1 ≤ sep.length then some (.t (.list 1 (strs (ly s sep)))) else none
 | _ => none
/-- a list of texts as it lies in memory -/
theorem Ti {w : World} {F : Nat → Prop} {u : Value} {ks : List Str} (h : RT w F u (.list 1 (strs ks))) :
 ∃ a c, u = .slice a ks.length c ∧ ks.length ≤ c ∧ (0 < ks.length → ∃ b o, a = some ⟨b, o, none⟩ ∧ F b ∧ ∀ (j : Nat) x, (ks.map fun l => (⟨l.toArray⟩ : ByteArray))[j]? = some x → w.cell? ⟨b, o + j, none⟩ = some (.string x)) := by
 cases h with
 | list a n c sz es g hn hc h0 hz hr =>
  rw [zi] at hn
  subst hn
  refine ⟨a, c, rfl, hc, fun hp => ?_⟩
  obtain ⟨b, o, e1, e2, e3⟩ := h0 hp
  refine ⟨b, o, e1, e2, fun j x hj => ?_⟩
  have hjl : j < ks.length := by have := (List.getElem?_eq_some_iff.1 hj).1; simpa using this
  have h1 := e3 j 0 hjl (by omega)
  have h2 := hr j 0 [.str ks[j]] (.str ks[j]) (wa ks j hjl) rfl
  rw [show o + (j * 1 + 0) = o + j by omega] at h1
  rw [h1]
  generalize g j 0 = gv at h2
  cases h2 with
  | str s _ hs =>
   simp [hjl] at hj
   rw [← hj, ← hs]
theorem vY {w w' : World} {F : Nat → Prop} (h : Go.RowKit.Below w.heap.size w w') (hF : ∀ b, F b → b < w.heap.size) : (∀ b, F b → b < w'.heap.size) ∧ Nxt (own fun b => w.heap.size ≤ b) w F zL w' F zL :=
 ⟨fun b hb => Nat.lt_of_lt_of_le (hF b hb) h.size, ⟨h.os, h.tape, h.output, h.size, fun b hb _ => h.block b hb, fun b hb => h.block b (hF b hb), fun _ hb => hb, fun _ hb => .inl hb, Ext.refl _, fun _ _ => rfl⟩⟩
/-- a function is as it is told -/
def ir (W0 : World) (g : Nat) (e : List V → Option V) : Prop := ∀ args v, e args = some v →
 (∃ fn, Tryz.prog.funcs[g]? = some fn ∧ (fn.name == "runtime.NumGoroutine") = false ∧ fn.body.isNone = false) ∧
 ∀ (w : World) (F : Nat → Prop) (us : Array Value), vo W0 w F → (∀ b, F b → b < w.heap.size) → RVs w F zL us.toList args →
  Calls Tryz.prog g us w fun e w' => ∃ u F', e = .returned u ∧ RV w' F' zL u v ∧ (∀ b, F' b → b < w'.heap.size) ∧ Nxt (own fun b => w.heap.size ≤ b) w F zL w' F' zL
theorem TN (W0 : World) : ir W0 205 ZK := by
 intro args v hv'
 unfold ZK at hv'
 split at hv'
 · rename_i es sep
   split at hv'
   · rename_i ks hks
     split at hv'
     · rename_i hl
       cases hv'
       obtain rfl := sX hks
       refine ⟨⟨Tryz.f205, Tryz.func205, by kernel_rfl, by kernel_rfl⟩, fun w F us hB hF hu => ?_⟩
       obtain ⟨us⟩ := us
       change RVs w F zL us _ at hu
       cases hu with
       | cons h1 h2 =>
       cases h2 with
       | cons h2 h3 =>
       cases h3
       obtain ⟨s, rfl, hs⟩ := s8 h2
       obtain ⟨a, c, rfl, hc, h0⟩ := Ti (SE h1)
       have hfin : ∀ (e : Ending) (w' : World), (e = .returned (.string ⟨(Lib.join ks sep).toArray⟩) ∧ Go.RowKit.Below w.heap.size w w') → ∃ u F', e = .returned u ∧ RV w' F' zL u (.t (.str (Lib.join ks sep))) ∧ (∀ b, F' b → b < w'.heap.size) ∧ Nxt (own fun b => w.heap.size ≤ b) w F zL w' F' zL := by
        rintro e w' ⟨rfl, hb⟩
        obtain ⟨k1, k2⟩ := vY hb hF
        exact ⟨_, F, rfl, .t _ _ (.str _ _ (by simp)), k1, k2⟩
       by_cases hk : ks.length = 0
       · have hk' : ks = [] := List.eq_nil_of_length_eq_zero hk
         subst hk'
         refine (Tryz.join_none a c s w).mono fun e w' ⟨h1, h2⟩ => hfin e w' ⟨?_, ?_⟩
         · rw [h1]; rfl
         · rw [h2]; exact Go.RowKit.Below.refl _ _
       · obtain ⟨b, o, rfl, hb, hcell⟩ := h0 (by omega)
         have hmap : (ks.map fun l => (⟨l.toArray⟩ : ByteArray)).map (·.data.toList) = ks := by
          rw [List.map_map]
          have : ((fun x : ByteArray => x.data.toList) ∘ fun l : List UInt8 => (⟨l.toArray⟩ : ByteArray)) = id := by funext l; simp
          rw [this]; simp
         have := Tryz.join_some b o c (ks.map fun l => (⟨l.toArray⟩ : ByteArray)) s w hcell (hF b hb) (by simpa using hl.1) (by simpa using hc) (by rw [hmap, hs]; exact hl.2)
         rw [hmap, hs, List.length_map] at this
         exact this.mono fun e w' h => hfin e w' h
     · cases hv'
   · cases hv'
 · cases hv'
theorem cn (W0 : World) : ir W0 108 lj := by
 intro args v hv'
 unfold lj at hv'
 split at hv'
 · rename_i a b
   cases hv'
   refine ⟨⟨Tryz.f108, Tryz.func108, by kernel_rfl, by kernel_rfl⟩, fun w F us hB hF hu => ?_⟩
   obtain ⟨us⟩ := us
   change RVs w F zL us _ at hu
   cases hu with
   | cons h1 h2 =>
   cases h2 with
   | cons h2 h3 =>
   cases h3
   obtain ⟨s1, rfl, hs1⟩ := s8 h1
   obtain ⟨s2, rfl, hs2⟩ := s8 h2
   refine (Tryz.W6 s1 s2 w).mono fun e w' h => ?_
   obtain ⟨rfl, rfl⟩ := h
   rw [hs1, hs2]
   exact ⟨_, F, rfl, .t _ _ (.int _ _), hF, Nxt.refl _ _ _ _⟩
 · cases hv'
theorem cy (w : World) (k : Nat) (os : Array Obj) : Go.RowKit.Below w.heap.size w (Go.Sort.grow (w.drewN k) os) :=
 ⟨rfl, rfl, rfl, by simp [Go.Sort.grow], fun b hb => by simp [Go.Sort.grow, Array.getElem?_append_left hb]⟩
theorem XT {W0 w : World} {F : Nat → Prop} {n : String} {k : IntKind} {zs : List Int} (hB : vo W0 w F) (h : Lib.TabIs Tryz.prog W0 n k zs) : Lib.TabIs Tryz.prog w n k zs := by
 unfold Lib.TabIs World.var? at *
 cases hg : Tryz.prog.globalNamed n with
 | none => simp [hg] at h
 | some g =>
  simp only [hg, Option.bind_some] at h ⊢
  have hlt : g < W0.heap.size := by
   refine Nat.lt_of_not_le fun hc => ?_
   rw [Array.getElem?_eq_none hc] at h
   cases h
  rw [hB.heap g hlt]
  exact h
theorem TO (W0 : World) (hT : Lib.TabIs Tryz.prog W0 "internal/strconv.uint64pow10" .u64 Lib.pow10Tab) : ir W0 217 ZL := by
 intro args v hv'
 unfold ZL at hv'
 split at hv'
 · rename_i n
   split at hv'
   · rename_i hn
     cases hv'
     refine ⟨⟨Tryz.f217, Tryz.func217, by kernel_rfl, by kernel_rfl⟩, fun w F us hB hF hu => ?_⟩
     obtain ⟨us⟩ := us
     change RVs w F zL us _ at hu
     cases hu with
     | cons h1 h2 =>
     cases h2
     cases h1 with
     | t _ _ h1 =>
     cases h1
     refine (Tryz.itoa n hn.1 hn.2 w (XT hB hT)).mono fun e w' h => ?_
     obtain ⟨rfl, k, os, rfl⟩ := h
     obtain ⟨k1, k2⟩ := vY (cy w k os) hF
     exact ⟨_, F, rfl, .t _ _ (.str _ _ (by simp)), k1, k2⟩
   · cases hv'
 · cases hv'
theorem fq {W0 w : World} {F : Nat → Prop} {n : String} {cs : Array Value} (hB : vo W0 w F) (h : W0.var? Tryz.prog n = some cs) : w.var? Tryz.prog n = some cs := by
 unfold World.var? at *
 cases hg : Tryz.prog.globalNamed n with
 | none => simp [hg] at h
 | some g =>
  simp only [hg, Option.bind_some] at h ⊢
  have hlt : g < W0.heap.size := by
   refine Nat.lt_of_not_le fun hc => ?_
   rw [Array.getElem?_eq_none hc] at h
   cases h
  rw [hB.heap g hlt]
  exact h
theorem bc {w : World} {F : Nat → Prop} {ρ : yd} {u1 u2 : Value} {x1 x2 : T} (h1 : RT w F u1 x1) (h2 : RT w F u2 x2) : RV w F ρ (.tuple #[u1, u2]) (.tup [.t x1, .t x2]) := by
 refine .tup _ _ (fun j => if j = 0 then u1 else u2) rfl (fun j hj => ?_) fun j x hj => ?_
 · match j, hj with
   | 0, _ => rfl
   | 1, _ => rfl
 · match j, hj with
   | 0, hj => cases hj; exact .t _ _ h1
   | 1, hj => cases hj; exact .t _ _ h2
   | j + 2, hj => simp at hj
theorem Sv (W0 : World) (hS : ∃ tp p, W0.var? Tryz.prog "strconv.ErrSyntax" = some #[.iface tp p]) (hR : ∃ tp p, W0.var? Tryz.prog "strconv.ErrRange" = some #[.iface tp p]) : ir W0 202 ZS := by
 intro args v hv'
 unfold ZS at hv'
 split at hv'
 · rename_i l
   split at hv'
   · rename_i hl
     refine ⟨⟨Tryz.f202, Tryz.func202, by kernel_rfl, by kernel_rfl⟩, fun w F us hB hF hu => ?_⟩
     obtain ⟨us⟩ := us
     change RVs w F zL us _ at hu
     cases hu with
     | cons h1 h2 =>
     cases h2
     obtain ⟨s, rfl, hs⟩ := s8 h1
     have hsz : s.size ≤ 281474976710656 := by
      have : s.data.toList.length = s.size := by simp
      rw [hs] at this
      omega
     obtain ⟨tS, pS, hS⟩ := hS
     obtain ⟨tR, pR, hR⟩ := hR
     split at hv'
     · rename_i n hn
       cases hv'
       refine (Tryz.Su s hsz n (by rw [hs]; exact hn) w).mono fun e w' h => ?_
       obtain ⟨rfl, hb⟩ := h
       obtain ⟨k1, k2⟩ := vY hb hF
       exact ⟨_, F, rfl, bc (.int _ _) .nili, k1, k2⟩
     · rename_i hn
       cases hv'
       refine (Tryz.V3 s hsz (by rw [hs]; exact hn) tS pS w (fq hB hS)).mono fun e w' h => ?_
       obtain ⟨t, z, rfl, hb⟩ := h
       obtain ⟨k1, k2⟩ := vY hb hF
       exact ⟨_, F, rfl, bc (.int _ _) (.nni t z), k1, k2⟩
     · rename_i hn
       cases hv'
       refine (Tryz.V4 s hsz (by rw [hs]; exact hn) tR pR w (fq hB hR)).mono fun e w' h => ?_
       obtain ⟨t, z, rfl, hb⟩ := h
       obtain ⟨k1, k2⟩ := vY hb hF
       rw [hs]
       exact ⟨_, F, rfl, bc (.int _ _) (.nni t z), k1, k2⟩
   · cases hv'
 · cases hv'
theorem js {W0 w : World} {F : Nat → Prop} {a : Addr} {v : Value} (hB : vo W0 w F) (h : W0.cell? a = some v) : w.cell? a = some v := by
 have hlt : a.block < W0.heap.size := by
  refine Nat.lt_of_not_le fun hc => ?_
  simp [World.cell?, Array.getElem?_eq_none hc] at h
 unfold World.cell? at h ⊢
 rw [hB.heap _ hlt]
 exact h
theorem below_drewN (w : World) (n : Nat) : Go.RowKit.Below w.heap.size w (w.drewN n) := ⟨rfl, rfl, rfl, Nat.le_refl _, fun _ _ => rfl⟩
theorem W9 {w : World} {F : Nat → Prop} {ρ : yd} {u1 u2 u3 : Value} {x1 x2 x3 : T} (h1 : RT w F u1 x1) (h2 : RT w F u2 x2) (h3 : RT w F u3 x3) : RV w F ρ (.tuple #[u1, u2, u3]) (.tup [.t x1, .t x2, .t x3]) := by
 refine .tup _ _ (fun j => if j = 0 then u1 else if j = 1 then u2 else u3) rfl (fun j hj => ?_) fun j x hj => ?_
 · match j, hj with
   | 0, _ => rfl
   | 1, _ => rfl
   | 2, _ => rfl
 · match j, hj with
   | 0, hj => cases hj; exact .t _ _ h1
   | 1, hj => cases hj; exact .t _ _ h2
   | 2, hj => cases hj; exact .t _ _ h3
   | j + 3, hj => simp at hj
theorem RG (W0 : World) (hM : ∃ m, W0.cell? ⟨Tryz.tD.g 1, 0, none⟩ = some (.int .i64 m)) : ir W0 185 SJ := by
 intro args v hv'
 unfold SJ at hv'
 split at hv'
 · rename_i l lsep
   split at hv'
   · rename_i hl
     cases hv'
     refine ⟨⟨Tryz.f185, Tryz.func185, by kernel_rfl, by kernel_rfl⟩, fun w F us hB hF hu => ?_⟩
     obtain ⟨us⟩ := us
     change RVs w F zL us _ at hu
     cases hu with
     | cons h1 h2 =>
     cases h2 with
     | cons h2 h3 =>
     cases h3
     obtain ⟨s, rfl, hs⟩ := s8 h1
     obtain ⟨sep, rfl, hsep⟩ := s8 h2
     have hsz : s.size < 4294967281 := by
      have : s.data.toList.length = s.size := by simp
      rw [hs] at this
      omega
     obtain ⟨m, hM⟩ := hM
     refine (Any.strings_Cut { Tryz.ek with } s sep m w hsz (js hB hM)).mono fun e w' h => ?_
     rw [hs, hsep] at h
     obtain ⟨rfl, n, rfl⟩ := h
     obtain ⟨k1, k2⟩ := vY (below_drewN w n) hF
     exact ⟨_, F, rfl, W9 (.str _ _ (by simp)) (.str _ _ (by simp)) (.bool _), k1, k2⟩
   · cases hv'
 · cases hv'
end Go.Proofs.YtonbkdklidfmfaaGreatDoor
/- What strings.Split answers, as the evaluator takes it. Conditions: those of each lemma. -/
namespace Go.Proofs.YtonbkdklidfmfaaGreatDoor
open E
set_option linter.unusedSimpArgs false
set_option linter.unusedVariables false
set_option maxRecDepth 100000
/-- a row of texts laid behind all -/
theorem Yh (w : World) (F : Nat → Prop) (hF : ∀ b, F b → b < w.heap.size) (t : TypeId) (ps : List ByteArray) (n : Nat) (hn : ps.length = n) :
 RT (w.alloc (.cells (ps.map Value.string).toArray t)) (fun b => F b ∨ b = w.heap.size) (.slice (some ⟨w.heap.size, 0, none⟩) n n) (.list 1 (strs (ps.map (·.data.toList)))) := by
 have hcell : ∀ j, j < ps.length → (w.alloc (.cells (ps.map Value.string).toArray t)).cell? ⟨w.heap.size, j, none⟩ = some (.string (ps.getD j ByteArray.empty)) := fun j hj => by
  have ha : (w.alloc (.cells (ps.map Value.string).toArray t)).heap = w.heap.push (.cells (ps.map Value.string).toArray t) := rfl
  unfold World.cell?
  rw [ha]
  simp [hj, List.getD]
 generalize w.alloc (.cells (ps.map Value.string).toArray t) = w1 at *
 refine RT.list (F := fun b => F b ∨ b = w.heap.size) (some ⟨w.heap.size, 0, none⟩) n n 1 (strs (ps.map (·.data.toList))) (fun i _ => .string (ps.getD i ByteArray.empty)) (by rw [zi, List.length_map]; exact hn) (Nat.le_refl _) (fun _ => ⟨w.heap.size, 0, rfl, Or.inr rfl, fun i j hi hj => ?_⟩) (fun e he => ?_) fun i j cs x hi hj => ?_
 · obtain rfl : j = 0 := by omega
   rw [show 0 + (i * 1 + 0) = i by omega]
   exact hcell i (by omega)
 · simp only [strs, List.mem_map] at he
   obtain ⟨a, _, rfl⟩ := he
   rfl
 · simp only [strs, List.map_map, List.getElem?_map, Option.map_eq_some_iff] at hi
   obtain ⟨a, ha, rfl⟩ := hi
   match j, hj with
   | 0, hj =>
    simp [Function.comp] at hj
    subst hj
    have : ps.getD i ByteArray.empty = a := by simp [List.getD, ha]
    rw [this]
    exact .str _ _ rfl
   | j + 1, hj => simp at hj
theorem Yd (w : World) (F : Nat → Prop) (hF : ∀ b, F b → b < w.heap.size) (o : Obj) : (∀ b, (F b ∨ b = w.heap.size) → b < (w.alloc o).heap.size) ∧ Nxt (own fun b => w.heap.size ≤ b) w F zL (w.alloc o) (fun b => F b ∨ b = w.heap.size) zL := by
 have ha : (w.alloc o).heap = w.heap.push o := rfl
 have hsz : (w.alloc o).heap.size = w.heap.size + 1 := by rw [ha, Array.size_push]
 have hold : ∀ b, b < w.heap.size → (w.alloc o).heap[b]? = w.heap[b]? := fun b hb => by
  rw [ha, Array.getElem?_push_lt hb, Array.getElem?_eq_getElem hb]
 refine ⟨fun b hb => ?_, rfl, rfl, rfl, by omega, fun b hb _ => hold b hb, fun b hb => hold b (hF b hb), fun _ hb => .inl hb, fun b hb => ?_, Ext.refl _, fun _ _ => rfl⟩
 · rcases hb with hb | rfl
   · have := hF b hb; omega
   · omega
 · rcases hb with hb | rfl
   · exact .inl hb
   · exact .inr (Nat.le_refl _)
theorem XW (W0 : World) (hM : ∃ m, W0.cell? ⟨Tryz.tC.g 1, 0, none⟩ = some (.int .i64 m)) : ir W0 152 iT := by
 intro args v hv'
 unfold iT at hv'
 split at hv'
 · rename_i l lsep
   split at hv'
   · rename_i hl
     cases hv'
     refine ⟨⟨Tryz.f152, Tryz.func152, by kernel_rfl, by kernel_rfl⟩, fun w F us hB hF hu => ?_⟩
     obtain ⟨us⟩ := us
     change RVs w F zL us _ at hu
     cases hu with
     | cons h1 h2 =>
     cases h2 with
     | cons h2 h3 =>
     cases h3
     obtain ⟨s, rfl, hs⟩ := s8 h1
     obtain ⟨sep, rfl, hsep⟩ := s8 h2
     have hsz : s.size < 4294967281 := by
      have : s.data.toList.length = s.size := by simp
      rw [hs] at this
      omega
     have hsp : 1 ≤ sep.size := by
      have : sep.data.toList.length = sep.size := by simp
      rw [hsep] at this
      omega
     obtain ⟨m, hM⟩ := hM
     refine (Any.strings_Split { Tryz.ej with } Tryz.ej.i9 s sep m w hsz (js hB hM) hsp).mono fun e w' h => ?_
     have es : (⟨l.toArray⟩ : ByteArray) = s := by rw [← hs]
     have esep : (⟨lsep.toArray⟩ : ByteArray) = sep := by rw [← hsep]
     have hlen := Lib.splitB_all sep hsp 0 (Lib.countB s sep) s rfl
     unfold ly
     rw [es, esep]
     obtain ⟨rfl, rfl⟩ := h
     generalize Lib.splitB sep 0 (Lib.countB s sep) s = ps at *
     generalize Lib.countB s sep = n at *
     obtain ⟨k1, k2⟩ := Yd w F hF (.cells (ps.map Value.string).toArray (Tryz.tC.t 9))
     exact ⟨_, fun b => F b ∨ b = w.heap.size, rfl, .t _ _ (Yh w F hF _ ps (n + 1) hlen), k1, k2⟩
   · cases hv'
 · cases hv'
end Go.Proofs.YtonbkdklidfmfaaGreatDoor
/- slices.Sort at texts, by the kit's own contract: on rows. Conditions: those of each lemma. -/
namespace Go.Proofs.YtonbkdklidfmfaaGreatDoor
open E
set_option linter.unusedSimpArgs false
set_option linter.unusedVariables false
set_option maxRecDepth 100000
def wK (ks : List Str) : List Str := ks.mergeSort fun x y => decide (x ≤ y)
theorem nU (ks : List Str) : (wK ks).Perm ks := List.mergeSort_perm _ _
theorem pX (ks : List Str) : (wK ks).length = ks.length := (nU ks).length_eq
def ZC (args : List V) (h : Heap) : Option (V × Heap) :=
 match args, h with
 | [.sl 0 0 n cap], [.ts 1 es] => match strsOf es with
  | some ks => if n = ks.length ∧ ks.length ≤ 1073741824 then some (.tup [], [.ts 1 (strs (wK ks))]) else none
  | none => none
 | _, _ => none
variable {w : World} {F : Nat → Prop} {ρ : yd} {Ow : Own} {h : Heap}
theorem pj (hS : St w F ρ Ow h) {w' : World} (h1 : w'.os = w.os) (h2 : w'.tape = w.tape) (h3 : w'.output = w.output) (h4 : w.heap.size ≤ w'.heap.size) (h5 : ∀ b, b < w.heap.size → w'.heap[b]? = w.heap[b]?) : St w' F ρ Ow h ∧ Nxt Ow w F ρ w' F ρ := by
 have hN : Nxt Ow w F ρ w' F ρ := ⟨h1, h2, h3, h4, fun b hb _ => h5 b hb, fun b hb => h5 b (hS.fsz b hb), fun _ x => x, fun _ x => .inl x, Ext.refl _, fun _ _ => rfl⟩
 refine ⟨hS.next hN hS.out (fun b hb => Nat.lt_of_lt_of_le (hS.fsz b hb) h4) (fun r b hr => .inl ⟨hr, fun L hL hw => ⟨h5 _ ((hS.blk r b hr).vF hw hL).2.2, ((hS.blk r b hr).vF hw hL).1⟩⟩)
  (hS.owned hN (fun b _ hF hlt _ => ⟨h5 b hlt, hF⟩) (fun r i j x ho => ⟨ho, fun L u hL hu => ?_⟩) fun r b L hr hw hL => .inr (hS.same (Ext.refl _) hr hw hL)), hN⟩
 obtain ⟨c, el', fr, q1, q2⟩ := hu
 exact ⟨c, el', fr, (h5 _ (Array.getElem?_eq_some_iff.1 q1).1).trans q1, q2⟩
theorem Tryz.dR (p : Option Addr) (cap : Nat) (w : World) : Calls Tryz.prog 79 #[.slice p 0 cap] w fun e w' => e = .returned (.tuple #[]) ∧ w' = w := Any.slices_Sort_string_none Tryz.aB p cap w
theorem Tryz.ssort (blk off cap : Nat) (ss : List (List UInt8)) (w : World) (hH : Go.Sort.Holds encStr w blk off ss.toArray) (hblk : blk < w.heap.size) (hsz : ss.length < 4611686018427387904) :
 Calls Tryz.prog 79 #[.slice (some ⟨blk, off, none⟩) ss.length cap] w fun e w' =>
  e = .returned (.tuple #[]) ∧ ∃ n os, w' = Go.Sort.grow (Go.Sort.putRow encStr (Go.Sort.ahead w n) blk off (ss.mergeSort fun x y => decide (x ≤ y)).toArray) os := Any.slices_Sort_string Tryz.aB blk off cap ss w hH hblk hsz
theorem Tf (W0 : World) : qM Tryz.prog W0 79 ZC := by
 intro args h v h' hv
 unfold ZC at hv
 split at hv
 · rename_i n cap es
   split at hv
   · rename_i ks hks
     split at hv
     · rename_i hn
       obtain ⟨hn, hlim⟩ := hn
       cases hv
       obtain rfl := sX hks
       refine ⟨⟨Tryz.f79, Tryz.func79, by kernel_rfl, by kernel_rfl⟩, fun Ow w F ρ us hB hS hO hu => ?_⟩
       obtain ⟨us⟩ := us
       change RVs w F ρ us _ at hu
       cases hu with
       | cons h1 h2 =>
       cases h2
       subst hn
       have htup' : ∀ {w' : World}, RV w' F ρ (.tuple #[]) (.tup []) := .tup _ _ (fun _ => undef) rfl (fun j hj => by simp at hj) fun j x hj => by simp at hj
       have htup : RV w F ρ (.tuple #[]) (.tup []) := htup'
       have none_case : ks = [] → ∀ (a : Option Addr) (c : Nat), Calls Tryz.prog 79 #[.slice a 0 c] w fun e w' => ∃ u F' ρ', e = .returned u ∧ RV w' F' ρ' u (.tup []) ∧ St w' F' ρ' Ow [.ts 1 (strs (wK ks))] ∧ Nxt Ow w F zL w' F' zL ∧ ∀ r l, r < 1 → ρ r = some l → ρ' r = some l := fun hk a c => by
        subst hk
        refine (Tryz.dR a c w).mono fun e w' hp => ?_
        obtain ⟨rfl, rfl⟩ := hp
        exact ⟨_, F, ρ, rfl, htup, by rw [show wK [] = [] by simp [wK]]; exact hS, Nxt.refl _ _ _ _, fun _ _ _ hl => hl⟩
       generalize hkl : ks.length = kl at h1
       cases h1 with
       | slP r cap a hρ hc => exact none_case (List.eq_nil_of_length_eq_zero hkl) a 0
       | sl r off len cap L a c hρ ha hl hnn hc0 hc1 hz =>
        by_cases hk0 : ks = []
        · subst hk0
          simp at hkl
          subst hkl
          exact none_case rfl a c
        · have hpos : 0 < ks.length := by cases ks with | nil => exact absurd rfl hk0 | cons x r => simp
          have hcne : c ≠ 0 := by omega
          obtain rfl := ha.resolve_right hcne
          rcases hS.blk 0 _ rfl with ⟨L', q1, q2, q3, q4, q5⟩ | ⟨q1, q2⟩
          · rw [q1] at hρ; cases hρ
            have hrow := q3
            obtain ⟨e1, e2, cc, el, fr, e3, e4, e5, e6, e7⟩ := q3
            rw [zi] at e1
            have hlt : L.b < w.heap.size := (Array.getElem?_eq_some_iff.1 e3).1
            have hcell : ∀ j (hj : j < ks.length), cc[L.o + j]? = some (encStr ks[j]) := fun j hj => by
             obtain ⟨u, hu, hr⟩ := e7 j 0 [.str ks[j]] (.str ks[j]) (wa ks j hj) rfl
             rw [q2, show L.o + (j * 1 + 0) = L.o + j by omega] at hu
             rw [hu]
             cases hr with
             | str s _ hs =>
              show some (Value.string s) = some (Value.string ⟨ks[j].toArray⟩)
              rw [← hs]
            have hzz : L.o + L.n ≤ L.z := by rw [q2, Nat.mul_one] at e6; exact e6
            have hH : Go.Sort.Holds encStr w L.b L.o ks.toArray := fun j hj => by
             have hj' : j < ks.length := by simpa using hj
             have hlen : L.o + j < cc.size := by rw [e4]; omega
             have hx := hcell j hj'
             refine ⟨?_, ?_⟩
             · unfold World.cell?
               rw [e3]
               simp [hx, hj']
             · unfold World.frozen?
               rw [e3]
               have := e5 (L.o + j) hlen
               simp only [decide_eq_false_iff_not, Bool.and_eq_false_iff, not_and, Nat.not_lt] at this ⊢
               first | exact this | simpa using this | (simp; omega)
            have hslen := pX ks
            refine Calls.mono (by
             have := Tryz.ssort L.b L.o c ks w hH hlt (by omega)
             rw [hkl] at this
             rw [show L.o + 0 * L.sz = L.o by omega]
             exact this) fun e w' hp => ?_
            obtain ⟨rfl, q, os, hw'⟩ := hp
            change w' = Go.Sort.grow (Go.Sort.putRow encStr (Go.Sort.ahead w q) L.b L.o (wK ks).toArray) os at hw'
            rw [Lib.putRow_eq_setCells encStr w L.b L.o ks.toArray (wK ks) q hH (by rw [hslen]; simp)] at hw'
            obtain ⟨hS1, hN1⟩ := pj (w' := w.drewN q) hS rfl rfl rfl (Nat.le_refl _) (fun _ _ => rfl)
            have hfit : L.o + ((wK ks).map encStr).length ≤ cc.size := by rw [List.length_map, hslen, e4]; omega
            obtain ⟨c', k1, k2, k3⟩ := xa ((wK ks).map encStr) L.b L.o (w.drewN q) cc el fr e3 hfit
            obtain ⟨hS2, hN2⟩ := sE (blk := .ts 1 (strs (wK ks))) hS1 (r := 0) rfl rfl q1 L.o ((wK ks).map encStr) (fun hN => .inl ⟨L, q1, q2, ⟨by rw [zi, hslen]; exact e1, fun e he => by
             simp only [strs, List.mem_map] at he
             obtain ⟨x, _, rfl⟩ := he
             exact q2.symm, c', el, fr, k1, by rw [k2, e4], fun k hk => e5 k (by rw [← k2]; exact hk), e6, fun i j cs x hi hj => by
              have hil := (List.getElem?_eq_some_iff.1 hi).1
              rw [zi] at hil
              rw [wa (wK ks) i hil] at hi
              cases hi
              match j, hj with
              | 0, hj =>
               cases hj
               refine ⟨encStr (wK ks)[i], ?_, .str _ _ (by simp)⟩
               rw [q2, show L.o + (i * 1 + 0) = L.o + i by omega, k3, if_pos ⟨by omega, by rw [List.length_map]; omega⟩, show L.o + i - L.o = i by omega]
               simp [hil]
              | j + 1, hj => simp at hj⟩, q4, q5⟩) (fun i j x ho => by
             obtain ⟨sz, es, cs, h1, _⟩ := ho
             simp at h1)
            obtain ⟨hS3, hN3⟩ := pj (w' := w') hS2 (by rw [hw']; rfl) (by rw [hw']; rfl) (by rw [hw']; rfl) (by rw [hw']; simp [Go.Sort.grow]) (fun b hb => by rw [hw']; simp only [Go.Sort.grow]; rw [Array.getElem?_append_left hb])
            exact ⟨_, F, ρ, rfl, htup', hS3, ((hN1.trans hN2).trans hN3).forget (Ext.refl _), fun _ _ _ hl => hl⟩
          · have : ks = [] := by
             have := congrArg List.length q2
             rw [zi] at this
             exact List.eq_nil_of_length_eq_zero this
            exact absurd this hk0
     · cases hv
   · cases hv
 · cases hv
end Go.Proofs.YtonbkdklidfmfaaGreatDoor
/- Rows of texts written anew by the library: slices.Compact by the kit's own contract. Conditions: those of each lemma. -/
namespace Go.Proofs.YtonbkdklidfmfaaGreatDoor
open E
set_option linter.unusedSimpArgs false
set_option linter.unusedVariables false
set_option maxRecDepth 100000
section
variable {w : World} {F : Nat → Prop} {ρ : yd} {Ow : Own} {h : Heap}
/-- a row of texts, as the library's contracts want it, and what is left where other texts are put there -/
theorem Tj {ks : List Str} (hS : St w F ρ Ow [.ts 1 (strs ks)]) (hk0 : ks ≠ []) {L : E.Loc} (hρ : ρ 0 = some (some L)) :
 Go.Sort.Holds encStr w L.b L.o ks.toArray ∧ L.b < w.heap.size ∧ L.sz = 1 ∧ L.n = ks.length ∧ ¬ F L.b ∧
 ∀ (ys : List Str) (q : Nat) (os : Array Obj) (w' : World), ys.length = ks.length → w' = Go.Sort.grow ((w.drewN q).setCells L.b L.o (ys.map encStr)) os → St w' F ρ Ow [.ts 1 (strs ys)] ∧ Nxt Ow w F zL w' F zL := by
 rcases hS.blk 0 _ rfl with ⟨L', q1, q2, q3, q4, q5⟩ | ⟨q1, q2⟩
 · rw [q1] at hρ; cases hρ
   have hrow := q3
   obtain ⟨e1, e2, cc, el, fr, e3, e4, e5, e6, e7⟩ := q3
   rw [zi] at e1
   have hlt : L.b < w.heap.size := (Array.getElem?_eq_some_iff.1 e3).1
   have hcell : ∀ j (hj : j < ks.length), cc[L.o + j]? = some (encStr ks[j]) := fun j hj => by
    obtain ⟨u, hu, hr⟩ := e7 j 0 [.str ks[j]] (.str ks[j]) (wa ks j hj) rfl
    rw [q2, show L.o + (j * 1 + 0) = L.o + j by omega] at hu
    rw [hu]
    cases hr with
    | str s _ hs =>
     show some (Value.string s) = some (Value.string ⟨ks[j].toArray⟩)
     rw [← hs]
   have hzz : L.o + L.n ≤ L.z := by rw [q2, Nat.mul_one] at e6; exact e6
   have hH : Go.Sort.Holds encStr w L.b L.o ks.toArray := fun j hj => by
    have hj' : j < ks.length := by simpa using hj
    have hlen : L.o + j < cc.size := by rw [e4]; omega
    have hx := hcell j hj'
    refine ⟨?_, ?_⟩
    · unfold World.cell?
      rw [e3]
      simp [hx, hj']
    · unfold World.frozen?
      rw [e3]
      have := e5 (L.o + j) hlen
      simp only [decide_eq_false_iff_not, Bool.and_eq_false_iff, not_and, Nat.not_lt] at this ⊢
      first | exact this | simpa using this | (simp; omega)
   refine ⟨hH, hlt, q2, e1.symm, q4, fun ys q os w' hys hw' => ?_⟩
   obtain ⟨hS1, hN1⟩ := pj (w' := w.drewN q) hS rfl rfl rfl (Nat.le_refl _) (fun _ _ => rfl)
   have hfit : L.o + (ys.map encStr).length ≤ cc.size := by rw [List.length_map, hys, e4]; omega
   obtain ⟨c', k1, k2, k3⟩ := xa (ys.map encStr) L.b L.o (w.drewN q) cc el fr e3 hfit
   obtain ⟨hS2, hN2⟩ := sE (blk := .ts 1 (strs ys)) hS1 (r := 0) rfl rfl q1 L.o (ys.map encStr) (fun hN => .inl ⟨L, q1, q2, ⟨by rw [zi, hys]; exact e1, fun e he => by
    simp only [strs, List.mem_map] at he
    obtain ⟨x, _, rfl⟩ := he
    exact q2.symm, c', el, fr, k1, by rw [k2, e4], fun k hk => e5 k (by rw [← k2]; exact hk), e6, fun i j cs x hi hj => by
     have hil := (List.getElem?_eq_some_iff.1 hi).1
     rw [zi] at hil
     rw [wa ys i hil] at hi
     cases hi
     match j, hj with
     | 0, hj =>
      cases hj
      refine ⟨encStr ys[i], ?_, .str _ _ (by simp)⟩
      rw [q2, show L.o + (i * 1 + 0) = L.o + i by omega, k3, if_pos ⟨by omega, by rw [List.length_map]; omega⟩, show L.o + i - L.o = i by omega]
      simp [hil]
     | j + 1, hj => simp at hj⟩, q4, q5⟩) (fun i j x ho => by
    obtain ⟨sz, es, cs, h1, _⟩ := ho
    simp at h1)
   obtain ⟨hS3, hN3⟩ := pj (w' := w') hS2 (by rw [hw']; rfl) (by rw [hw']; rfl) (by rw [hw']; rfl) (by rw [hw']; simp [Go.Sort.grow]) (fun b hb => by rw [hw']; simp only [Go.Sort.grow]; rw [Array.getElem?_append_left hb])
   exact ⟨hS3, ((hN1.trans hN2).trans hN3).forget (Ext.refl _)⟩
 · have : ks = [] := by
    have := congrArg List.length q2
    rw [zi] at this
    exact List.eq_nil_of_length_eq_zero this
   exact absurd this hk0
end
/-- neighbours that are one are one text; the rest of the row is emptied -/
def lI (ks : List Str) : List Str := Lib.compact ks ++ List.replicate (ks.length - (Lib.compact ks).length) []
theorem mG (ks : List Str) : (Lib.compact ks).length ≤ ks.length := by
 unfold Lib.compact Lib.compactUpTo
 rw [List.length_map]
 exact Nat.le_trans (List.length_filter_le _ _) (by simp)
theorem jo (ks : List Str) : (lI ks).length = ks.length := by
 have := mG ks
 unfold lI
 simp only [List.length_append, List.length_replicate]; omega
def T0 (args : List V) (h : Heap) : Option (V × Heap) :=
 match args, h with
 | [.sl 0 0 n cap], [.ts 1 es] => match strsOf es with
  | some ks => if n = ks.length ∧ ks.length ≤ 1073741824 then some (.sl 0 0 (Lib.compact ks).length cap, [.ts 1 (strs (lI ks))]) else none
  | none => none
 | _, _ => none
theorem Tryz.W7 (blk off cap : Nat) (zs : List (List UInt8)) (w : World) (hH : Go.Sort.Holds encStr w blk off zs.toArray) (hsz : zs.length ≤ 9223372036854775807) (hcap : zs.length ≤ cap) :
 Calls Tryz.prog 105 #[.slice (some ⟨blk, off, none⟩) zs.length cap] w fun e w' => e = .returned (.slice (some ⟨blk, off, none⟩) (Lib.compact zs).length cap) ∧ ∃ q, w' = Go.Sort.putRow encStr (Go.Sort.ahead w q) blk off (Lib.compact zs ++ List.replicate (zs.length - (Lib.compact zs).length) []).toArray := Any.slices_Compact_string Tryz.aA blk off cap zs w hH hsz hcap
theorem Tryz.lN (a : Option Addr) (cap : Nat) (w : World) : Calls Tryz.prog 105 #[.slice a 0 cap] w fun e w' => e = .returned (.slice a 0 cap) ∧ w' = w := Any.slices_Compact_string_empty Tryz.aA a cap w
theorem S1 (W0 : World) : qM Tryz.prog W0 105 T0 := by
 intro args h v h' hv
 unfold T0 at hv
 split at hv
 · rename_i n cap es
   split at hv
   · rename_i ks hks
     split at hv
     · rename_i hn
       obtain ⟨hn, hlim⟩ := hn
       cases hv
       obtain rfl := sX hks
       refine ⟨⟨Tryz.f105, Tryz.func105, by kernel_rfl, by kernel_rfl⟩, fun Ow w F ρ us hB hS hO hu => ?_⟩
       obtain ⟨us⟩ := us
       change RVs w F ρ us _ at hu
       cases hu with
       | cons h1 h2 =>
       cases h2
       subst hn
       have none_case : ks = [] → ∀ (a : Option Addr) (c : Nat), RV w F ρ (.slice a 0 c) (.sl 0 0 0 cap) → Calls Tryz.prog 105 #[.slice a 0 c] w fun e w' => ∃ u F' ρ', e = .returned u ∧ RV w' F' ρ' u (.sl 0 0 (Lib.compact ks).length cap) ∧ St w' F' ρ' Ow [.ts 1 (strs (lI ks))] ∧ Nxt Ow w F zL w' F' zL ∧ ∀ r l, r < 1 → ρ r = some l → ρ' r = some l := fun hk a c hrv => by
        subst hk
        refine (Tryz.lN a c w).mono fun e w' hp => ?_
        obtain ⟨rfl, rfl⟩ := hp
        exact ⟨_, F, ρ, rfl, hrv, hS, Nxt.refl _ _ _ _, fun _ _ _ hl => hl⟩
       generalize hkl : ks.length = kl at h1
       cases h1 with
       | slP r cap a hρ hc => exact none_case (List.eq_nil_of_length_eq_zero hkl) a 0 (.slP _ _ _ hρ hc)
       | sl r off len cap L a c hρ ha hl hnn hc0 hc1 hz =>
        by_cases hk0 : ks = []
        · subst hk0
          simp at hkl
          subst hkl
          exact none_case rfl a c (.sl _ _ _ _ L _ _ hρ ha hl hnn hc0 hc1 hz)
        · have hpos : 0 < ks.length := by cases ks with | nil => exact absurd rfl hk0 | cons x r => simp
          have hcne : c ≠ 0 := by omega
          obtain rfl := ha.resolve_right hcne
          obtain ⟨hH, hlt, q2, q3, _, hput⟩ := Tj hS hk0 hρ
          have hcle := mG ks
          refine Calls.mono (by
           have := Tryz.W7 L.b L.o c ks w hH (by omega) (by omega)
           rw [hkl] at this
           rw [show L.o + 0 * L.sz = L.o by omega]
           exact this) fun e w' hp => ?_
          obtain ⟨rfl, q, hw'⟩ := hp
          rw [← hkl] at hw'
          change w' = Go.Sort.putRow encStr (Go.Sort.ahead w q) L.b L.o (lI ks).toArray at hw'
          rw [Lib.putRow_eq_setCells encStr w L.b L.o ks.toArray (lI ks) q hH (by rw [jo]; simp)] at hw'
          obtain ⟨hS3, hN3⟩ := hput (lI ks) q #[] w' (jo ks) (by rw [hw']; simp)
          refine ⟨_, F, ρ, rfl, ?_, hS3, hN3, fun _ _ _ hl => hl⟩
          exact .sl 0 0 _ cap L _ c hρ (.inl (by rw [show L.o + 0 * L.sz = L.o by omega])) (by omega) (by omega) hc0 hc1 hz
     · cases hv
   · cases hv
 · cases hv
end Go.Proofs.YtonbkdklidfmfaaGreatDoor
/- Which slots the loops keep: tables written by a program of mine (live.py). Conditions: none. -/
namespace Go.Proofs.YtonbkdklidfmfaaGreatDoor
set_option maxRecDepth 100000
def UQ : List (Nat × Nat × List Nat) → Nat → Nat → List Nat
 | [], _, _ => []
 | (f', p', l) :: r, f, p => if f = f' ∧ p = p' then l else UQ r f p
def TG : List (Nat × Nat × List Nat) := [
 (8, 506, [0, 3, 4, 5, 6, 7]),
 (10, 506, [2, 4, 5, 96, 97]),
 (10, 62942, [2, 4, 5, 6, 41, 42, 43]),
 (10, 503786, [2, 4, 5, 8, 70, 71, 72]),
 (16, 58, [0, 1, 5]),
 (17, 26, [0, 1, 5]),
 (18, 26, [0, 1, 5]),
 (23, 60, [2, 5, 6]),
 (27, 60, [2, 5, 6]),
 (31, 26, [1, 3]),
 (32, 26, [1, 6, 7, 8]),
 (35, 122, [0, 1, 5]),
 (36, 122, [0, 1, 5]),
 (38, 58, [1, 2, 3, 4]),
 (40, 26, [0, 1, 5, 7]),
 (42, 58, [1, 2, 4, 5, 6]),
 (42, 122, [1, 2, 4, 5, 7]),
 (42, 125242, [1, 2, 4, 5, 7, 8, 9]),
 (43, 58, [0, 3, 4]),
 (44, 58, [0, 3, 4]),
 (45, 58, [2, 3, 11, 12, 13]),
 (49, 122, [0, 1, 5, 6]),
 (50, 122, [0, 1, 5, 6]),
 (58, 58, [0, 1, 5]),
 (59, 26, [0, 1, 5]),
 (60, 26, [0, 1, 5]),
 (61, 58, [0, 1, 5]),
 (62, 26, [1, 2, 5]),
 (64, 58, [0, 1, 12, 13]),
 (67, 60, [0, 3]),
 (68, 28, [0, 1, 5]),
 (81, 26, [0, 1, 5]),
 (83, 26, [1, 3]),
 (84, 26, [1, 2, 5]),
 (86, 26, [1, 2, 7, 8, 9]),
 (87, 26, [0, 1, 7, 8]),
 (92, 58, [0, 1, 5, 6]),
 (96, 26, [0, 1, 7, 8]),
 (99, 122, [0, 1, 5, 6]),
 (102, 26, [0, 1, 5]),
 (103, 26, [0, 1, 5]),
 (104, 58, [0, 1, 12, 13]),
 (105, 58, [0, 3]),
 (105, 59690, [0, 3, 4, 5]),
 (116, 26, [0, 1, 7, 8]),
 (117, 14, [0, 1, 2, 3, 8, 9]),
 (120, 58, [0, 3, 4]),
 (120, 59706, [0, 3, 4, 5, 6]),
 (122, 26, [0, 3]),
 (123, 58, [0, 3, 10, 11, 12]),
 (126, 26, [0, 5, 6, 7]),
 (127, 122, [0, 1, 5]),
 (128, 58, [0, 3, 4]),
 (130, 26, [0, 1, 7, 8]),
 (131, 58, [0, 1, 5]),
 (135, 122, [1, 3, 4]),
 (137, 6, [0, 1, 2, 6]),
 (137, 402, [0, 1, 2, 6, 7]),
 (138, 122, [0, 6, 7, 8, 9]),
 (138, 126, [0, 6, 7, 10]),
 (139, 238, [0, 1, 6, 7, 8, 9]),
 (141, 14, [0, 6, 7]),
 (142, 58, [0, 1, 2, 7, 8]),
 (142, 3728, [0, 1, 2, 7, 8]),
 (142, 477674, [0, 1, 2, 7, 8, 9]),
 (142, 477690, [0, 1, 2, 7, 8, 10]),
 (144, 60, [0, 1, 9, 10]),
 (144, 960, [0, 1, 9, 10]),
 (144, 1924, [0, 1, 9, 10]),
 (145, 60, [0, 1, 10, 11]),
 (145, 124, [0, 1, 10, 11]),
 (145, 4092, [0, 1, 10, 11]),
 (145, 65472, [0, 1, 10, 11]),
 (145, 130948, [0, 1, 10, 11]),
 (148, 122, [0, 1, 5, 6, 7]),
 (154, 26, [0, 1, 7, 8]),
 (164, 26, [0, 1, 5]),
 (171, 26, [1, 3]),
 (172, 124, [0, 3, 4]),
 (174, 6, [0, 2, 3, 8]),
 (183, 2044, [0, 1, 2, 3, 9, 10]),
 (192, 26, [0, 3]),
 (194, 26, [0, 1, 5]),
 (195, 58, [0, 3, 4]),
 (197, 58, [2, 3, 5, 6]),
 (197, 250, [2, 3, 7]),
 (198, 250, [0, 1, 6, 7]),
 (199, 62, [0, 1, 5]),
 (204, 26, [1, 13, 14, 15]),
 (204, 58, [1, 24, 25, 26]),
 (205, 250, [0, 1, 5, 39, 40, 41]),
 (205, 4090, [1, 8, 63, 64, 65]),
 (208, 26, [0, 3]),
 (211, 26, [2, 4]),
 (214, 2044, [0, 1, 5, 6, 7, 8, 9, 10]),
 (215, 3770, [5, 6, 47, 48, 49]),
 (229, 250, [0, 1, 5, 6, 7, 8, 9]),
 (229, 1018, [0, 1, 5, 6, 7, 8, 10]),
 (239, 58, [0, 4, 5]),
 (239, 250, [4, 6, 7, 8]),
 (240, 32762, [1, 8, 9, 10, 11, 12, 13, 99, 100, 101]),
 (247, 508, [0, 3, 4, 5]),
 (250, 12, [0, 1, 4]),
 (251, 4060, [0, 1, 3, 4, 10, 11, 12, 13, 17]),
 (251, 16220, [0, 1, 3, 4, 10, 11, 12, 13, 14, 15, 16])]
def Tq : List (Nat × Nat × List Nat) := [
 (8, 506, [0, 3, 4, 5, 6]),
 (10, 506, [4, 5]),
 (10, 62942, [2, 4, 5]),
 (10, 503786, [2, 4, 5, 8]),
 (16, 58, [4]),
 (17, 26, [1]),
 (18, 26, [1, 4]),
 (23, 60, [5]),
 (27, 60, [5]),
 (31, 26, [1, 2]),
 (32, 26, [1, 2]),
 (35, 122, [1, 4]),
 (36, 122, [1, 4]),
 (38, 58, [2, 3]),
 (40, 26, [0, 5, 6]),
 (42, 58, [1, 2, 4, 5]),
 (42, 122, [4, 5]),
 (42, 125242, [1, 2, 4, 5, 7, 8]),
 (43, 58, [3]),
 (44, 58, [3]),
 (45, 58, [2, 3]),
 (49, 122, [0, 5]),
 (50, 122, [0, 5]),
 (58, 58, [4]),
 (59, 26, [1]),
 (60, 26, [1, 4]),
 (61, 58, [4]),
 (62, 26, [4]),
 (64, 58, [4]),
 (67, 60, [3]),
 (68, 28, [0, 1, 5]),
 (81, 26, [4]),
 (83, 26, [1, 2]),
 (84, 26, [4]),
 (86, 26, [4]),
 (87, 26, [4]),
 (92, 58, [5]),
 (96, 26, [4]),
 (99, 122, [0, 5]),
 (102, 26, [1]),
 (103, 26, [1, 4]),
 (104, 58, [4]),
 (105, 58, [0, 2]),
 (105, 59690, [0, 3]),
 (116, 26, [4]),
 (117, 14, []),
 (120, 58, [0, 2]),
 (120, 59706, [0, 2, 3, 4, 5]),
 (122, 26, [0, 2]),
 (123, 58, [0, 2]),
 (126, 26, [2]),
 (127, 122, [1, 4]),
 (128, 58, [3]),
 (130, 26, [4]),
 (131, 58, [4]),
 (135, 122, [3]),
 (137, 6, []),
 (137, 402, [0, 1, 2, 6]),
 (138, 122, [0, 6, 7, 8]),
 (138, 126, []),
 (139, 238, []),
 (141, 14, []),
 (142, 58, [6]),
 (142, 3728, [0, 1, 2, 7, 8]),
 (142, 477674, [0, 1, 2, 7, 8]),
 (142, 477690, [0, 1, 2, 7, 8]),
 (144, 60, [9]),
 (144, 960, [0, 1, 9, 10]),
 (144, 1924, [0, 1, 9, 10]),
 (145, 60, [0, 1, 10, 11]),
 (145, 124, [0, 1, 10, 11]),
 (145, 4092, [0, 1, 11]),
 (145, 65472, [0, 1, 10, 11]),
 (145, 130948, [0, 1, 10, 11]),
 (148, 122, [0, 5, 6]),
 (154, 26, [4]),
 (164, 26, [4]),
 (171, 26, [1, 2]),
 (172, 124, [0, 3]),
 (174, 6, []),
 (183, 2044, [0, 9, 10]),
 (192, 26, [0, 2]),
 (194, 26, [4]),
 (195, 58, [0, 2, 3]),
 (197, 58, [2, 3, 4]),
 (197, 250, [2, 3, 4]),
 (198, 250, [0, 1, 6]),
 (199, 62, [4]),
 (204, 26, [1, 2]),
 (204, 58, [1, 2]),
 (205, 250, [0, 1, 5]),
 (205, 4090, [8]),
 (208, 26, [0, 2]),
 (211, 26, [2]),
 (214, 2044, [4]),
 (215, 3770, [2, 3, 5, 6]),
 (229, 250, [0, 1, 5, 6, 7, 8]),
 (229, 1018, [4]),
 (239, 58, [0, 4]),
 (239, 250, [4, 6]),
 (240, 32762, [6, 7, 9, 12, 13]),
 (247, 508, [2, 3]),
 (250, 12, [0, 1, 4]),
 (251, 4060, [0, 1, 3, 4, 10, 11, 12, 13]),
 (251, 16220, [0, 1, 3, 4, 10, 11, 12, 13])]
def zA (f p : Nat) : List Nat := UQ TG f p
def zz (f p : Nat) : List Nat := UQ Tq f p
theorem VJ : zA 8 506 = [0, 3, 4, 5, 6, 7] := by kernel_rfl
theorem Ve : zz 8 506 = [0, 3, 4, 5, 6] := by kernel_rfl
theorem XL : zA 10 506 = [2, 4, 5, 96, 97] := by kernel_rfl
theorem X9 : zz 10 506 = [4, 5] := by kernel_rfl
theorem fh : zA 10 62942 = [2, 4, 5, 6, 41, 42, 43] := by kernel_rfl
theorem gU : zz 10 62942 = [2, 4, 5] := by kernel_rfl
theorem ia : zA 10 503786 = [2, 4, 5, 8, 70, 71, 72] := by kernel_rfl
theorem jT : zz 10 503786 = [2, 4, 5, 8] := by kernel_rfl
theorem Ua : zA 16 58 = [0, 1, 5] := by kernel_rfl
theorem VF : zz 16 58 = [4] := by kernel_rfl
theorem U8 : zA 17 26 = [0, 1, 5] := by kernel_rfl
theorem VD : zz 17 26 = [1] := by kernel_rfl
theorem U7 : zA 18 26 = [0, 1, 5] := by kernel_rfl
theorem VC : zz 18 26 = [1, 4] := by kernel_rfl
theorem U6 : zA 23 60 = [2, 5, 6] := by kernel_rfl
theorem VB : zz 23 60 = [5] := by kernel_rfl
theorem U5 : zA 27 60 = [2, 5, 6] := by kernel_rfl
theorem VA : zz 27 60 = [5] := by kernel_rfl
theorem U4 : zA 31 26 = [1, 3] := by kernel_rfl
theorem Vz : zz 31 26 = [1, 2] := by kernel_rfl
theorem U3 : zA 32 26 = [1, 6, 7, 8] := by kernel_rfl
theorem Vy : zz 32 26 = [1, 2] := by kernel_rfl
theorem Xj : zA 35 122 = [0, 1, 5] := by kernel_rfl
theorem YH : zz 35 122 = [1, 4] := by kernel_rfl
theorem Xi : zA 36 122 = [0, 1, 5] := by kernel_rfl
theorem YG : zz 36 122 = [1, 4] := by kernel_rfl
theorem U2 : zA 38 58 = [1, 2, 3, 4] := by kernel_rfl
theorem Vx : zz 38 58 = [2, 3] := by kernel_rfl
theorem U1 : zA 40 26 = [0, 1, 5, 7] := by kernel_rfl
theorem Vw : zz 40 26 = [0, 5, 6] := by kernel_rfl
theorem U0 : zA 42 58 = [1, 2, 4, 5, 6] := by kernel_rfl
theorem Vv : zz 42 58 = [1, 2, 4, 5] := by kernel_rfl
theorem Xh : zA 42 122 = [1, 2, 4, 5, 7] := by kernel_rfl
theorem YF : zz 42 122 = [4, 5] := by kernel_rfl
theorem jV : zA 42 125242 = [1, 2, 4, 5, 7, 8, 9] := by kernel_rfl
theorem jO : zz 42 125242 = [1, 2, 4, 5, 7, 8] := by kernel_rfl
theorem VZ : zA 43 58 = [0, 3, 4] := by kernel_rfl
theorem Vu : zz 43 58 = [3] := by kernel_rfl
theorem VY : zA 44 58 = [0, 3, 4] := by kernel_rfl
theorem Vt : zz 44 58 = [3] := by kernel_rfl
theorem VX : zA 45 58 = [2, 3, 11, 12, 13] := by kernel_rfl
theorem Vs : zz 45 58 = [2, 3] := by kernel_rfl
theorem Xg : zA 49 122 = [0, 1, 5, 6] := by kernel_rfl
theorem YE : zz 49 122 = [0, 5] := by kernel_rfl
theorem Xf : zA 50 122 = [0, 1, 5, 6] := by kernel_rfl
theorem YD : zz 50 122 = [0, 5] := by kernel_rfl
theorem VW : zA 58 58 = [0, 1, 5] := by kernel_rfl
theorem Vr : zz 58 58 = [4] := by kernel_rfl
theorem VV : zA 59 26 = [0, 1, 5] := by kernel_rfl
theorem Vq : zz 59 26 = [1] := by kernel_rfl
theorem VU : zA 60 26 = [0, 1, 5] := by kernel_rfl
theorem Vp : zz 60 26 = [1, 4] := by kernel_rfl
theorem VT : zA 61 58 = [0, 1, 5] := by kernel_rfl
theorem Vo : zz 61 58 = [4] := by kernel_rfl
theorem VS : zA 62 26 = [1, 2, 5] := by kernel_rfl
theorem Vn : zz 62 26 = [4] := by kernel_rfl
theorem VR : zA 64 58 = [0, 1, 12, 13] := by kernel_rfl
theorem Vm : zz 64 58 = [4] := by kernel_rfl
theorem VQ : zA 67 60 = [0, 3] := by kernel_rfl
theorem Vl : zz 67 60 = [3] := by kernel_rfl
theorem VP : zA 68 28 = [0, 1, 5] := by kernel_rfl
theorem Vk : zz 68 28 = [0, 1, 5] := by kernel_rfl
theorem VO : zA 81 26 = [0, 1, 5] := by kernel_rfl
theorem Vj : zz 81 26 = [4] := by kernel_rfl
theorem VN : zA 83 26 = [1, 3] := by kernel_rfl
theorem Vi : zz 83 26 = [1, 2] := by kernel_rfl
theorem VM : zA 84 26 = [1, 2, 5] := by kernel_rfl
theorem Vh : zz 84 26 = [4] := by kernel_rfl
theorem VL : zA 86 26 = [1, 2, 7, 8, 9] := by kernel_rfl
theorem Vg : zz 86 26 = [4] := by kernel_rfl
theorem VK : zA 87 26 = [0, 1, 7, 8] := by kernel_rfl
theorem Vf : zz 87 26 = [4] := by kernel_rfl
theorem VI : zA 92 58 = [0, 1, 5, 6] := by kernel_rfl
theorem Vd : zz 92 58 = [5] := by kernel_rfl
theorem VH : zA 96 26 = [0, 1, 7, 8] := by kernel_rfl
theorem Vc : zz 96 26 = [4] := by kernel_rfl
theorem Xe : zA 99 122 = [0, 1, 5, 6] := by kernel_rfl
theorem YC : zz 99 122 = [0, 5] := by kernel_rfl
theorem XP : zA 102 26 = [0, 1, 5] := by kernel_rfl
theorem Xd : zz 102 26 = [1] := by kernel_rfl
theorem XO : zA 103 26 = [0, 1, 5] := by kernel_rfl
theorem Xc : zz 103 26 = [1, 4] := by kernel_rfl
theorem XN : zA 104 58 = [0, 1, 12, 13] := by kernel_rfl
theorem Xb : zz 104 58 = [4] := by kernel_rfl
theorem XM : zA 105 58 = [0, 3] := by kernel_rfl
theorem Xa : zz 105 58 = [0, 2] := by kernel_rfl
theorem ib : zA 105 59690 = [0, 3, 4, 5] := by kernel_rfl
theorem jU : zz 105 59690 = [0, 3] := by kernel_rfl
theorem XK : zA 116 26 = [0, 1, 7, 8] := by kernel_rfl
theorem X8 : zz 116 26 = [4] := by kernel_rfl
theorem XJ : zA 117 14 = [0, 1, 2, 3, 8, 9] := by kernel_rfl
theorem X7 : zz 117 14 = [] := by kernel_rfl
theorem XI : zA 120 58 = [0, 3, 4] := by kernel_rfl
theorem X6 : zz 120 58 = [0, 2] := by kernel_rfl
theorem jZ : zA 120 59706 = [0, 3, 4, 5, 6] := by kernel_rfl
theorem jS : zz 120 59706 = [0, 2, 3, 4, 5] := by kernel_rfl
theorem XH : zA 122 26 = [0, 3] := by kernel_rfl
theorem X5 : zz 122 26 = [0, 2] := by kernel_rfl
theorem XG : zA 123 58 = [0, 3, 10, 11, 12] := by kernel_rfl
theorem X4 : zz 123 58 = [0, 2] := by kernel_rfl
theorem XF : zA 126 26 = [0, 5, 6, 7] := by kernel_rfl
theorem X3 : zz 126 26 = [2] := by kernel_rfl
theorem bb : zA 127 122 = [0, 1, 5] := by kernel_rfl
theorem cQ : zz 127 122 = [1, 4] := by kernel_rfl
theorem XE : zA 128 58 = [0, 3, 4] := by kernel_rfl
theorem X2 : zz 128 58 = [3] := by kernel_rfl
theorem XD : zA 130 26 = [0, 1, 7, 8] := by kernel_rfl
theorem X1 : zz 130 26 = [4] := by kernel_rfl
theorem XC : zA 131 58 = [0, 1, 5] := by kernel_rfl
theorem X0 : zz 131 58 = [4] := by kernel_rfl
theorem ba : zA 135 122 = [1, 3, 4] := by kernel_rfl
theorem cP : zz 135 122 = [3] := by kernel_rfl
theorem Ub : zA 137 6 = [0, 1, 2, 6] := by kernel_rfl
theorem VG : zz 137 6 = [] := by kernel_rfl
theorem b9 : zA 137 402 = [0, 1, 2, 6, 7] := by kernel_rfl
theorem cO : zz 137 402 = [0, 1, 2, 6] := by kernel_rfl
theorem b8 : zA 138 122 = [0, 6, 7, 8, 9] := by kernel_rfl
theorem cN : zz 138 122 = [0, 6, 7, 8] := by kernel_rfl
theorem b7 : zA 138 126 = [0, 6, 7, 10] := by kernel_rfl
theorem cM : zz 138 126 = [] := by kernel_rfl
theorem b6 : zA 139 238 = [0, 1, 6, 7, 8, 9] := by kernel_rfl
theorem cL : zz 139 238 = [] := by kernel_rfl
theorem XB : zA 141 14 = [0, 6, 7] := by kernel_rfl
theorem YZ : zz 141 14 = [] := by kernel_rfl
theorem XA : zA 142 58 = [0, 1, 2, 7, 8] := by kernel_rfl
theorem YY : zz 142 58 = [6] := by kernel_rfl
theorem fg : zA 142 3728 = [0, 1, 2, 7, 8] := by kernel_rfl
theorem gT : zz 142 3728 = [0, 1, 2, 7, 8] := by kernel_rfl
theorem ka : zA 142 477674 = [0, 1, 2, 7, 8, 9] := by kernel_rfl
theorem lY : zz 142 477674 = [0, 1, 2, 7, 8] := by kernel_rfl
theorem k9 : zA 142 477690 = [0, 1, 2, 7, 8, 10] := by kernel_rfl
theorem lX : zz 142 477690 = [0, 1, 2, 7, 8] := by kernel_rfl
theorem Xz : zA 144 60 = [0, 1, 9, 10] := by kernel_rfl
theorem YX : zz 144 60 = [9] := by kernel_rfl
theorem b5 : zA 144 960 = [0, 1, 9, 10] := by kernel_rfl
theorem cJ : zz 144 960 = [0, 1, 9, 10] := by kernel_rfl
theorem ff : zA 144 1924 = [0, 1, 9, 10] := by kernel_rfl
theorem gS : zz 144 1924 = [0, 1, 9, 10] := by kernel_rfl
theorem Xy : zA 145 60 = [0, 1, 10, 11] := by kernel_rfl
theorem YW : zz 145 60 = [0, 1, 10, 11] := by kernel_rfl
theorem cZ : zA 145 124 = [0, 1, 10, 11] := by kernel_rfl
theorem cI : zz 145 124 = [0, 1, 10, 11] := by kernel_rfl
theorem fe : zA 145 4092 = [0, 1, 10, 11] := by kernel_rfl
theorem gR : zz 145 4092 = [0, 1, 11] := by kernel_rfl
theorem jY : zA 145 65472 = [0, 1, 10, 11] := by kernel_rfl
theorem jR : zz 145 65472 = [0, 1, 10, 11] := by kernel_rfl
theorem lZ : zA 145 130948 = [0, 1, 10, 11] := by kernel_rfl
theorem lW : zz 145 130948 = [0, 1, 10, 11] := by kernel_rfl
theorem cY : zA 148 122 = [0, 1, 5, 6, 7] := by kernel_rfl
theorem cH : zz 148 122 = [0, 5, 6] := by kernel_rfl
theorem Xx : zA 154 26 = [0, 1, 7, 8] := by kernel_rfl
theorem YV : zz 154 26 = [4] := by kernel_rfl
theorem Xw : zA 164 26 = [0, 1, 5] := by kernel_rfl
theorem YU : zz 164 26 = [4] := by kernel_rfl
theorem Xv : zA 171 26 = [1, 3] := by kernel_rfl
theorem YT : zz 171 26 = [1, 2] := by kernel_rfl
theorem cX : zA 172 124 = [0, 3, 4] := by kernel_rfl
theorem cG : zz 172 124 = [0, 3] := by kernel_rfl
theorem U9 : zA 174 6 = [0, 2, 3, 8] := by kernel_rfl
theorem VE : zz 174 6 = [] := by kernel_rfl
theorem fc : zA 183 2044 = [0, 1, 2, 3, 9, 10] := by kernel_rfl
theorem gQ : zz 183 2044 = [0, 9, 10] := by kernel_rfl
theorem Xu : zA 192 26 = [0, 3] := by kernel_rfl
theorem YS : zz 192 26 = [0, 2] := by kernel_rfl
theorem Xt : zA 194 26 = [0, 1, 5] := by kernel_rfl
theorem YR : zz 194 26 = [4] := by kernel_rfl
theorem Xs : zA 195 58 = [0, 3, 4] := by kernel_rfl
theorem YQ : zz 195 58 = [0, 2, 3] := by kernel_rfl
theorem Xr : zA 197 58 = [2, 3, 5, 6] := by kernel_rfl
theorem YP : zz 197 58 = [2, 3, 4] := by kernel_rfl
theorem cW : zA 197 250 = [2, 3, 7] := by kernel_rfl
theorem cF : zz 197 250 = [2, 3, 4] := by kernel_rfl
theorem cV : zA 198 250 = [0, 1, 6, 7] := by kernel_rfl
theorem cE : zz 198 250 = [0, 1, 6] := by kernel_rfl
theorem Xq : zA 199 62 = [0, 1, 5] := by kernel_rfl
theorem YO : zz 199 62 = [4] := by kernel_rfl
theorem Xp : zA 204 26 = [1, 13, 14, 15] := by kernel_rfl
theorem YN : zz 204 26 = [1, 2] := by kernel_rfl
theorem Xo : zA 204 58 = [1, 24, 25, 26] := by kernel_rfl
theorem YM : zz 204 58 = [1, 2] := by kernel_rfl
theorem cU : zA 205 250 = [0, 1, 5, 39, 40, 41] := by kernel_rfl
theorem cD : zz 205 250 = [0, 1, 5] := by kernel_rfl
theorem gZ : zA 205 4090 = [1, 8, 63, 64, 65] := by kernel_rfl
theorem gP : zz 205 4090 = [8] := by kernel_rfl
theorem Xn : zA 208 26 = [0, 3] := by kernel_rfl
theorem YL : zz 208 26 = [0, 2] := by kernel_rfl
theorem Xm : zA 211 26 = [2, 4] := by kernel_rfl
theorem YK : zz 211 26 = [2] := by kernel_rfl
theorem gY : zA 214 2044 = [0, 1, 5, 6, 7, 8, 9, 10] := by kernel_rfl
theorem gO : zz 214 2044 = [4] := by kernel_rfl
theorem gX : zA 215 3770 = [5, 6, 47, 48, 49] := by kernel_rfl
theorem gN : zz 215 3770 = [2, 3, 5, 6] := by kernel_rfl
theorem cT : zA 229 250 = [0, 1, 5, 6, 7, 8, 9] := by kernel_rfl
theorem cC : zz 229 250 = [0, 1, 5, 6, 7, 8] := by kernel_rfl
theorem gW : zA 229 1018 = [0, 1, 5, 6, 7, 8, 10] := by kernel_rfl
theorem gM : zz 229 1018 = [4] := by kernel_rfl
theorem Xl : zA 239 58 = [0, 4, 5] := by kernel_rfl
theorem YJ : zz 239 58 = [0, 4] := by kernel_rfl
theorem cS : zA 239 250 = [4, 6, 7, 8] := by kernel_rfl
theorem cB : zz 239 250 = [4, 6] := by kernel_rfl
theorem jX : zA 240 32762 = [1, 8, 9, 10, 11, 12, 13, 99, 100, 101] := by kernel_rfl
theorem jQ : zz 240 32762 = [6, 7, 9, 12, 13] := by kernel_rfl
theorem cR : zA 247 508 = [0, 3, 4, 5] := by kernel_rfl
theorem cA : zz 247 508 = [2, 3] := by kernel_rfl
theorem Xk : zA 250 12 = [0, 1, 4] := by kernel_rfl
theorem YI : zz 250 12 = [0, 1, 4] := by kernel_rfl
theorem gV : zA 251 4060 = [0, 1, 3, 4, 10, 11, 12, 13, 17] := by kernel_rfl
theorem gL : zz 251 4060 = [0, 1, 3, 4, 10, 11, 12, 13] := by kernel_rfl
theorem jW : zA 251 16220 = [0, 1, 3, 4, 10, 11, 12, 13, 14, 15, 16] := by kernel_rfl
theorem jP : zz 251 16220 = [0, 1, 3, 4, 10, 11, 12, 13] := by kernel_rfl
theorem LTS : zA 8 506 = [0, 3, 4, 5, 6, 7] ∧
 zz 8 506 = [0, 3, 4, 5, 6] ∧
 zA 10 506 = [2, 4, 5, 96, 97] ∧
 zz 10 506 = [4, 5] ∧
 zA 10 62942 = [2, 4, 5, 6, 41, 42, 43] ∧
 zz 10 62942 = [2, 4, 5] ∧
 zA 10 503786 = [2, 4, 5, 8, 70, 71, 72] ∧
 zz 10 503786 = [2, 4, 5, 8] ∧
 zA 16 58 = [0, 1, 5] ∧
 zz 16 58 = [4] ∧
 zA 17 26 = [0, 1, 5] ∧
 zz 17 26 = [1] ∧
 zA 18 26 = [0, 1, 5] ∧
 zz 18 26 = [1, 4] ∧
 zA 23 60 = [2, 5, 6] ∧
 zz 23 60 = [5] ∧
 zA 27 60 = [2, 5, 6] ∧
 zz 27 60 = [5] ∧
 zA 31 26 = [1, 3] ∧
 zz 31 26 = [1, 2] ∧
 zA 32 26 = [1, 6, 7, 8] ∧
 zz 32 26 = [1, 2] ∧
 zA 35 122 = [0, 1, 5] ∧
 zz 35 122 = [1, 4] ∧
 zA 36 122 = [0, 1, 5] ∧
 zz 36 122 = [1, 4] ∧
 zA 38 58 = [1, 2, 3, 4] ∧
 zz 38 58 = [2, 3] ∧
 zA 40 26 = [0, 1, 5, 7] ∧
 zz 40 26 = [0, 5, 6] ∧
 zA 42 58 = [1, 2, 4, 5, 6] ∧
 zz 42 58 = [1, 2, 4, 5] ∧
 zA 42 122 = [1, 2, 4, 5, 7] ∧
 zz 42 122 = [4, 5] ∧
 zA 42 125242 = [1, 2, 4, 5, 7, 8, 9] ∧
 zz 42 125242 = [1, 2, 4, 5, 7, 8] ∧
 zA 43 58 = [0, 3, 4] ∧
 zz 43 58 = [3] ∧
 zA 44 58 = [0, 3, 4] ∧
 zz 44 58 = [3] ∧
 zA 45 58 = [2, 3, 11, 12, 13] ∧
 zz 45 58 = [2, 3] ∧
 zA 49 122 = [0, 1, 5, 6] ∧
 zz 49 122 = [0, 5] ∧
 zA 50 122 = [0, 1, 5, 6] ∧
 zz 50 122 = [0, 5] ∧
 zA 58 58 = [0, 1, 5] ∧
 zz 58 58 = [4] ∧
 zA 59 26 = [0, 1, 5] ∧
 zz 59 26 = [1] ∧
 zA 60 26 = [0, 1, 5] ∧
 zz 60 26 = [1, 4] ∧
 zA 61 58 = [0, 1, 5] ∧
 zz 61 58 = [4] ∧
 zA 62 26 = [1, 2, 5] ∧
 zz 62 26 = [4] ∧
 zA 64 58 = [0, 1, 12, 13] ∧
 zz 64 58 = [4] ∧
 zA 67 60 = [0, 3] ∧
 zz 67 60 = [3] ∧
 zA 68 28 = [0, 1, 5] ∧
 zz 68 28 = [0, 1, 5] ∧
 zA 81 26 = [0, 1, 5] ∧
 zz 81 26 = [4] ∧
 zA 83 26 = [1, 3] ∧
 zz 83 26 = [1, 2] ∧
 zA 84 26 = [1, 2, 5] ∧
 zz 84 26 = [4] ∧
 zA 86 26 = [1, 2, 7, 8, 9] ∧
 zz 86 26 = [4] ∧
 zA 87 26 = [0, 1, 7, 8] ∧
 zz 87 26 = [4] ∧
 zA 92 58 = [0, 1, 5, 6] ∧
 zz 92 58 = [5] ∧
 zA 96 26 = [0, 1, 7, 8] ∧
 zz 96 26 = [4] ∧
 zA 99 122 = [0, 1, 5, 6] ∧
 zz 99 122 = [0, 5] ∧
 zA 102 26 = [0, 1, 5] ∧
 zz 102 26 = [1] ∧
 zA 103 26 = [0, 1, 5] ∧
 zz 103 26 = [1, 4] ∧
 zA 104 58 = [0, 1, 12, 13] ∧
 zz 104 58 = [4] ∧
 zA 105 58 = [0, 3] ∧
 zz 105 58 = [0, 2] ∧
 zA 105 59690 = [0, 3, 4, 5] ∧
 zz 105 59690 = [0, 3] ∧
 zA 116 26 = [0, 1, 7, 8] ∧
 zz 116 26 = [4] ∧
 zA 117 14 = [0, 1, 2, 3, 8, 9] ∧
 zz 117 14 = [] ∧
 zA 120 58 = [0, 3, 4] ∧
 zz 120 58 = [0, 2] ∧
 zA 120 59706 = [0, 3, 4, 5, 6] ∧
 zz 120 59706 = [0, 2, 3, 4, 5] ∧
 zA 122 26 = [0, 3] ∧
 zz 122 26 = [0, 2] ∧
 zA 123 58 = [0, 3, 10, 11, 12] ∧
 zz 123 58 = [0, 2] ∧
 zA 126 26 = [0, 5, 6, 7] ∧
 zz 126 26 = [2] ∧
 zA 127 122 = [0, 1, 5] ∧
 zz 127 122 = [1, 4] ∧
 zA 128 58 = [0, 3, 4] ∧
 zz 128 58 = [3] ∧
 zA 130 26 = [0, 1, 7, 8] ∧
 zz 130 26 = [4] ∧
 zA 131 58 = [0, 1, 5] ∧
 zz 131 58 = [4] ∧
 zA 135 122 = [1, 3, 4] ∧
 zz 135 122 = [3] ∧
 zA 137 6 = [0, 1, 2, 6] ∧
 zz 137 6 = [] ∧
 zA 137 402 = [0, 1, 2, 6, 7] ∧
 zz 137 402 = [0, 1, 2, 6] ∧
 zA 138 122 = [0, 6, 7, 8, 9] ∧
 zz 138 122 = [0, 6, 7, 8] ∧
 zA 138 126 = [0, 6, 7, 10] ∧
 zz 138 126 = [] ∧
 zA 139 238 = [0, 1, 6, 7, 8, 9] ∧
 zz 139 238 = [] ∧
 zA 141 14 = [0, 6, 7] ∧
 zz 141 14 = [] ∧
 zA 142 58 = [0, 1, 2, 7, 8] ∧
 zz 142 58 = [6] ∧
 zA 142 3728 = [0, 1, 2, 7, 8] ∧
 zz 142 3728 = [0, 1, 2, 7, 8] ∧
 zA 142 477674 = [0, 1, 2, 7, 8, 9] ∧
 zz 142 477674 = [0, 1, 2, 7, 8] ∧
 zA 142 477690 = [0, 1, 2, 7, 8, 10] ∧
 zz 142 477690 = [0, 1, 2, 7, 8] ∧
 zA 144 60 = [0, 1, 9, 10] ∧
 zz 144 60 = [9] ∧
 zA 144 960 = [0, 1, 9, 10] ∧
 zz 144 960 = [0, 1, 9, 10] ∧
 zA 144 1924 = [0, 1, 9, 10] ∧
 zz 144 1924 = [0, 1, 9, 10] ∧
 zA 145 60 = [0, 1, 10, 11] ∧
 zz 145 60 = [0, 1, 10, 11] ∧
 zA 145 124 = [0, 1, 10, 11] ∧
 zz 145 124 = [0, 1, 10, 11] ∧
 zA 145 4092 = [0, 1, 10, 11] ∧
 zz 145 4092 = [0, 1, 11] ∧
 zA 145 65472 = [0, 1, 10, 11] ∧
 zz 145 65472 = [0, 1, 10, 11] ∧
 zA 145 130948 = [0, 1, 10, 11] ∧
 zz 145 130948 = [0, 1, 10, 11] ∧
 zA 148 122 = [0, 1, 5, 6, 7] ∧
 zz 148 122 = [0, 5, 6] ∧
 zA 154 26 = [0, 1, 7, 8] ∧
 zz 154 26 = [4] ∧
 zA 164 26 = [0, 1, 5] ∧
 zz 164 26 = [4] ∧
 zA 171 26 = [1, 3] ∧
 zz 171 26 = [1, 2] ∧
 zA 172 124 = [0, 3, 4] ∧
 zz 172 124 = [0, 3] ∧
 zA 174 6 = [0, 2, 3, 8] ∧
 zz 174 6 = [] ∧
 zA 183 2044 = [0, 1, 2, 3, 9, 10] ∧
 zz 183 2044 = [0, 9, 10] ∧
 zA 192 26 = [0, 3] ∧
 zz 192 26 = [0, 2] ∧
 zA 194 26 = [0, 1, 5] ∧
 zz 194 26 = [4] ∧
 zA 195 58 = [0, 3, 4] ∧
 zz 195 58 = [0, 2, 3] ∧
 zA 197 58 = [2, 3, 5, 6] ∧
 zz 197 58 = [2, 3, 4] ∧
 zA 197 250 = [2, 3, 7] ∧
 zz 197 250 = [2, 3, 4] ∧
 zA 198 250 = [0, 1, 6, 7] ∧
 zz 198 250 = [0, 1, 6] ∧
 zA 199 62 = [0, 1, 5] ∧
 zz 199 62 = [4] ∧
 zA 204 26 = [1, 13, 14, 15] ∧
 zz 204 26 = [1, 2] ∧
 zA 204 58 = [1, 24, 25, 26] ∧
 zz 204 58 = [1, 2] ∧
 zA 205 250 = [0, 1, 5, 39, 40, 41] ∧
 zz 205 250 = [0, 1, 5] ∧
 zA 205 4090 = [1, 8, 63, 64, 65] ∧
 zz 205 4090 = [8] ∧
 zA 208 26 = [0, 3] ∧
 zz 208 26 = [0, 2] ∧
 zA 211 26 = [2, 4] ∧
 zz 211 26 = [2] ∧
 zA 214 2044 = [0, 1, 5, 6, 7, 8, 9, 10] ∧
 zz 214 2044 = [4] ∧
 zA 215 3770 = [5, 6, 47, 48, 49] ∧
 zz 215 3770 = [2, 3, 5, 6] ∧
 zA 229 250 = [0, 1, 5, 6, 7, 8, 9] ∧
 zz 229 250 = [0, 1, 5, 6, 7, 8] ∧
 zA 229 1018 = [0, 1, 5, 6, 7, 8, 10] ∧
 zz 229 1018 = [4] ∧
 zA 239 58 = [0, 4, 5] ∧
 zz 239 58 = [0, 4] ∧
 zA 239 250 = [4, 6, 7, 8] ∧
 zz 239 250 = [4, 6] ∧
 zA 240 32762 = [1, 8, 9, 10, 11, 12, 13, 99, 100, 101] ∧
 zz 240 32762 = [6, 7, 9, 12, 13] ∧
 zA 247 508 = [0, 3, 4, 5] ∧
 zz 247 508 = [2, 3] ∧
 zA 250 12 = [0, 1, 4] ∧
 zz 250 12 = [0, 1, 4] ∧
 zA 251 4060 = [0, 1, 3, 4, 10, 11, 12, 13, 17] ∧
 zz 251 4060 = [0, 1, 3, 4, 10, 11, 12, 13] ∧
 zA 251 16220 = [0, 1, 3, 4, 10, 11, 12, 13, 14, 15, 16] ∧
 zz 251 16220 = [0, 1, 3, 4, 10, 11, 12, 13] := ⟨VJ, Ve, XL, X9, fh, gU, ia, jT, Ua, VF, U8, VD, U7, VC, U6, VB, U5, VA, U4, Vz, U3, Vy, Xj, YH, Xi, YG, U2, Vx, U1, Vw, U0, Vv, Xh, YF, jV, jO, VZ, Vu, VY, Vt, VX, Vs, Xg, YE, Xf, YD, VW, Vr, VV, Vq, VU, Vp, VT, Vo, VS, Vn, VR, Vm, VQ, Vl, VP, Vk, VO, Vj, VN, Vi, VM, Vh, VL, Vg, VK, Vf, VI, Vd, VH, Vc, Xe, YC, XP, Xd, XO, Xc, XN, Xb, XM, Xa, ib, jU, XK, X8, XJ, X7, XI, X6, jZ, jS, XH, X5, XG, X4, XF, X3, bb, cQ, XE, X2, XD, X1, XC, X0, ba, cP, Ub, VG, b9, cO, b8, cN, b7, cM, b6, cL, XB, YZ, XA, YY, fg, gT, ka, lY, k9, lX, Xz, YX, b5, cJ, ff, gS, Xy, YW, cZ, cI, fe, gR, jY, jR, lZ, lW, cY, cH, Xx, YV, Xw, YU, Xv, YT, cX, cG, U9, VE, fc, gQ, Xu, YS, Xt, YR, Xs, YQ, Xr, YP, cW, cF, cV, cE, Xq, YO, Xp, YN, Xo, YM, cU, cD, gZ, gP, Xn, YL, Xm, YK, gY, gO, gX, gN, cT, cC, gW, gM, Xl, YJ, cS, cB, jX, jQ, cR, cA, Xk, YI, gV, gL, jW, jP⟩
end Go.Proofs.YtonbkdklidfmfaaGreatDoor

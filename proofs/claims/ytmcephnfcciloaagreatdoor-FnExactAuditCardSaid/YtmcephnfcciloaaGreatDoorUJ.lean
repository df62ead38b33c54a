/- Joined: K2 P2 K3 K4 K5 K6 G3 V5. Conditions: those of each lemma. -/
import Derived.Test.YtmcephnfcciloaaGreatDoorUI
import Derived.Test.YtmcephnfcciloaaGreatDoorUH
set_option linter.unusedVariables false
set_option linter.unusedSimpArgs false
namespace Go.Proofs.YtmcephnfcciloaaGreatDoor
open E
set_option linter.unusedSimpArgs false
set_option linter.unusedVariables false
set_option maxRecDepth 100000
theorem zY (h : Heap) (ids : List Nat) : reach h 3 ids = u9 h 3 ids := (sr h 3 ids).symm
theorem Tf (n : Int) : B2 n 0 999999999 = n9 n := rfl
/-- a version of bounded size -/
def Ver.sm (v : Ver) : Prop := v.pre.length + yk v.pre ≤ 2097152
theorem u0 {α : Type} [BEq α] (l : List α) : ((l.length : Int) == 0) = (l == []) := by
  cases l with
  | nil => rfl
  | cons x l =>
    have h1 : ((x :: l) == []) = false := rfl
    have h2 : (((x :: l).length : Int) == 0) = false := by rw [beq_eq_false_iff_ne]; simp only [List.length_cons]; omega
    rw [h1, h2]
theorem jQ {α : Type} [BEq α] (l : List α) : decide ((l.length : Int) > 0) = !(l == []) := by
  cases l with
  | nil => rfl
  | cons x l =>
    have h1 : ((x :: l) == []) = false := rfl
    have h2 : decide (((x :: l).length : Int) > 0) = true := by simp only [decide_eq_true_eq, List.length_cons]; omega
    rw [h1, h2]; rfl
theorem Vh (b : UInt8) : B2 (b.toNat : Int) 48 57 = isD b := cF b
theorem dt (a : Int) : zE (EV Tryz.prog pol) 185 [.t (.int .u8 a)] = some (.t (.bool (B2 a 97 122 || B2 a 65 90))) := by
  have h1 := kK a
  apply zu
  refine zw rfl Tryz.func185 rfl (by kernel_rfl) ?_
  unfold Tryz.f185
  cases h2 : B2 a 97 122 <;> rw [h2] at h1
  · unfold B2
    cases h3 : decide ((65 : Int) ≤ a) <;> simp (disch := ((try simp only [LL]); omega)) only [↓GO, ↓DRW, GA, ren, zB, zd, refs, zb, cst, zl, zH, z7, E.load, E.store, zG, isC, bin, zI, zJ, una, z8, za, zh, zK, blt, fnV, asArg, ze, zn, zo, zj, zi, zg, zk, zr, z6, zD, zF, mkS, zc, unN, zM, zm, zy, zC, zf, zN, zq, GS, Int.reduceToNat, Nat.reduceGT, ↓reduceIte, Nat.reduceAdd, Nat.reduceMul, Nat.reduceSub, Nat.reduceEqDiff, Nat.reduceLeDiff, Nat.reduceLT, Nat.reduceBEq, Int.reduceBEq, Int.reduceBNe, Int.reduceEq, Int.reduceLT, Int.reduceLE, Int.reduceGT, Int.reduceNeg, reduceCtorEq, GZ, h1, h3, ge_iff_le]
  · simp (disch := ((try simp only [LL]); omega)) only [↓GO, ↓DRW, GA, ren, zB, zd, refs, zb, cst, zl, zH, z7, E.load, E.store, zG, isC, bin, zI, zJ, una, z8, za, zh, zK, blt, fnV, asArg, ze, zn, zo, zj, zi, zg, zk, zr, z6, zD, zF, mkS, zc, unN, zM, zm, zy, zC, zf, zN, zq, GS, Int.reduceToNat, Nat.reduceGT, ↓reduceIte, Nat.reduceAdd, Nat.reduceMul, Nat.reduceSub, Nat.reduceEqDiff, Nat.reduceLeDiff, Nat.reduceLT, Nat.reduceBEq, Int.reduceBEq, Int.reduceBNe, Int.reduceEq, Int.reduceLT, Int.reduceLE, Int.reduceGT, Int.reduceNeg, reduceCtorEq, GZ, h1]
theorem S3 (b : UInt8) : zE (EV Tryz.prog pol) 184 [.t (.int .u8 (b.toNat : Int))] = some (.t (.bool (preB b))) := by
  have h1 := dt (b.toNat : Int)
  have h2 := pn (b.toNat : Int)
  apply zu
  refine zw rfl Tryz.func184 rfl (by kernel_rfl) ?_
  unfold Tryz.f184
  unfold preB
  simp only [nb]
  cases h3 : B2 (b.toNat : Int) 97 122 <;> cases h4 : B2 (b.toNat : Int) 65 90 <;> cases h5 : B2 (b.toNat : Int) 48 57 <;> rw [h3, h4] at h1 <;> rw [h5] at h2 <;>
    simp (disch := ((try simp only [LL]); omega)) only [↓GO, ↓DRW, GA, ren, zB, zd, refs, zb, cst, zl, zH, z7, E.load, E.store, zG, isC, bin, zI, zJ, una, z8, za, zh, zK, blt, fnV, asArg, ze, zn, zo, zj, zi, zg, zk, zr, z6, zD, zF, mkS, zc, unN, zM, zm, zy, zC, zf, zN, zq, GS, Int.reduceToNat, Nat.reduceGT, ↓reduceIte, Nat.reduceAdd, Nat.reduceMul, Nat.reduceSub, Nat.reduceEqDiff, Nat.reduceLeDiff, Nat.reduceLT, Nat.reduceBEq, Int.reduceBEq, Int.reduceBNe, Int.reduceEq, Int.reduceLT, Int.reduceLE, Int.reduceGT, Int.reduceNeg, reduceCtorEq, GZ, h1, h2]
theorem UM (b : UInt8) : zE (EV Tryz.prog pol) 123 [.t (.int .u8 (b.toNat : Int))] = some (.t (.bool (isD b))) := by
  rw [pn, Vh]
theorem jD (s : Str) (hl : s.length ≤ 9223372036854775807) : zE (EV Tryz.prog pol) 186 [.t (.str s)] = some (.t (.bool (isNum s))) := by
  have h := aT 123 isD UM s hl
  apply zu
  refine zw rfl Tryz.func186 rfl (by kernel_rfl) ?_
  unfold Tryz.f186
  unfold isNum
  cases h1 : (s == []) <;> simp (disch := ((try simp only [LL]); omega)) only [↓GO, ↓DRW, GA, ren, zB, zd, refs, zb, cst, zl, zH, z7, E.load, E.store, zG, isC, bin, zI, zJ, una, z8, za, zh, zK, blt, fnV, asArg, ze, zn, zo, zj, zi, zg, zk, zr, z6, zD, zF, mkS, zc, unN, zM, zm, zy, zC, zf, zN, zq, GS, Int.reduceToNat, Nat.reduceGT, ↓reduceIte, Nat.reduceAdd, Nat.reduceMul, Nat.reduceSub, Nat.reduceEqDiff, Nat.reduceLeDiff, Nat.reduceLT, Nat.reduceBEq, Int.reduceBEq, Int.reduceBNe, Int.reduceEq, Int.reduceLT, Int.reduceLE, Int.reduceGT, Int.reduceNeg, reduceCtorEq, GZ, h, h1, bne]
theorem Uh (x1 x2 x3 x4 : T) (a b c : Int) :
    EV Tryz.prog pol (.loop 164 26 0 [.ptr 0 0 0, .sl 1 0 3 (some 3), .t (.int .i64 3), .t (.int .i64 0)] [.vs 4 [[.t x1, .t x2, .t x3, .t x4]], .ts 1 [[.int .i64 a], [.int .i64 b], [.int .i64 c]]])
    = some (cond (n9 a && (n9 b && n9 c)) (.loop (.exit 0) [.ptr 0 0 0, .bad] [.vs 4 [[.t x1, .t x2, .t x3, .t x4]]]) (.loop .ret [.ptr 0 0 0, .t (.bool false)] [.vs 4 [[.t x1, .t x2, .t x3, .t x4]]])) := by
  have ha := uD a 0 999999999
  have hb := uD b 0 999999999
  have hc := uD c 0 999999999
  rw [Tf] at ha hb hc
  cases h1 : n9 a <;> rw [h1] at ha
  · refine zz Tryz.func164 rfl rfl ?_
    simp (disch := ((try simp only [LL]); omega)) only [↓GO, ↓DRW, GA, ren, zB, zd, refs, zb, cst, zl, zH, z7, E.load, E.store, zG, isC, bin, zI, zJ, una, z8, za, zh, zK, blt, fnV, asArg, ze, zn, zo, zj, zi, zg, zk, zr, z6, zD, zF, mkS, zc, unN, zM, zm, zy, zC, zf, zN, zq, GS, Int.reduceToNat, Nat.reduceGT, ↓reduceIte, Nat.reduceAdd, Nat.reduceMul, Nat.reduceSub, Nat.reduceEqDiff, Nat.reduceLeDiff, Nat.reduceLT, Nat.reduceBEq, Int.reduceBEq, Int.reduceBNe, Int.reduceEq, Int.reduceLT, Int.reduceLE, Int.reduceGT, Int.reduceNeg, reduceCtorEq, GZ, ha, zx, zY, Int.cast_ofNat_Int]
  · refine zz Tryz.func164 rfl rfl ?_
    simp (disch := ((try simp only [LL]); omega)) only [↓GO, ↓DRW, GA, ren, zB, zd, refs, zb, cst, zl, zH, z7, E.load, E.store, zG, isC, bin, zI, zJ, una, z8, za, zh, zK, blt, fnV, asArg, ze, zn, zo, zj, zi, zg, zk, zr, z6, zD, zF, mkS, zc, unN, zM, zm, zy, zC, zf, zN, zq, GS, Int.reduceToNat, Nat.reduceGT, ↓reduceIte, Nat.reduceAdd, Nat.reduceMul, Nat.reduceSub, Nat.reduceEqDiff, Nat.reduceLeDiff, Nat.reduceLT, Nat.reduceBEq, Int.reduceBEq, Int.reduceBNe, Int.reduceEq, Int.reduceLT, Int.reduceLE, Int.reduceGT, Int.reduceNeg, reduceCtorEq, GZ, ha, zx, zY, Int.cast_ofNat_Int]
    cases h2 : n9 b <;> rw [h2] at hb
    · refine zz Tryz.func164 rfl rfl ?_
      simp (disch := ((try simp only [LL]); omega)) only [↓GO, ↓DRW, GA, ren, zB, zd, refs, zb, cst, zl, zH, z7, E.load, E.store, zG, isC, bin, zI, zJ, una, z8, za, zh, zK, blt, fnV, asArg, ze, zn, zo, zj, zi, zg, zk, zr, z6, zD, zF, mkS, zc, unN, zM, zm, zy, zC, zf, zN, zq, GS, Int.reduceToNat, Nat.reduceGT, ↓reduceIte, Nat.reduceAdd, Nat.reduceMul, Nat.reduceSub, Nat.reduceEqDiff, Nat.reduceLeDiff, Nat.reduceLT, Nat.reduceBEq, Int.reduceBEq, Int.reduceBNe, Int.reduceEq, Int.reduceLT, Int.reduceLE, Int.reduceGT, Int.reduceNeg, reduceCtorEq, GZ, hb, zx, Int.zero_add, zY, Int.cast_ofNat_Int, Int.reduceAdd]
    · refine zz Tryz.func164 rfl rfl ?_
      simp (disch := ((try simp only [LL]); omega)) only [↓GO, ↓DRW, GA, ren, zB, zd, refs, zb, cst, zl, zH, z7, E.load, E.store, zG, isC, bin, zI, zJ, una, z8, za, zh, zK, blt, fnV, asArg, ze, zn, zo, zj, zi, zg, zk, zr, z6, zD, zF, mkS, zc, unN, zM, zm, zy, zC, zf, zN, zq, GS, Int.reduceToNat, Nat.reduceGT, ↓reduceIte, Nat.reduceAdd, Nat.reduceMul, Nat.reduceSub, Nat.reduceEqDiff, Nat.reduceLeDiff, Nat.reduceLT, Nat.reduceBEq, Int.reduceBEq, Int.reduceBNe, Int.reduceEq, Int.reduceLT, Int.reduceLE, Int.reduceGT, Int.reduceNeg, reduceCtorEq, GZ, hb, zx, Int.zero_add, zY, Int.cast_ofNat_Int, Int.reduceAdd]
      cases h3 : n9 c <;> rw [h3] at hc
      · refine zz Tryz.func164 rfl rfl ?_
        simp (disch := ((try simp only [LL]); omega)) only [↓GO, ↓DRW, GA, ren, zB, zd, refs, zb, cst, zl, zH, z7, E.load, E.store, zG, isC, bin, zI, zJ, una, z8, za, zh, zK, blt, fnV, asArg, ze, zn, zo, zj, zi, zg, zk, zr, z6, zD, zF, mkS, zc, unN, zM, zm, zy, zC, zf, zN, zq, GS, Int.reduceToNat, Nat.reduceGT, ↓reduceIte, Nat.reduceAdd, Nat.reduceMul, Nat.reduceSub, Nat.reduceEqDiff, Nat.reduceLeDiff, Nat.reduceLT, Nat.reduceBEq, Int.reduceBEq, Int.reduceBNe, Int.reduceEq, Int.reduceLT, Int.reduceLE, Int.reduceGT, Int.reduceNeg, reduceCtorEq, GZ, hc, zx, Int.zero_add, zY, Int.cast_ofNat_Int, Int.reduceAdd]
      · refine zz Tryz.func164 rfl rfl ?_
        simp (disch := ((try simp only [LL]); omega)) only [↓GO, ↓DRW, GA, ren, zB, zd, refs, zb, cst, zl, zH, z7, E.load, E.store, zG, isC, bin, zI, zJ, una, z8, za, zh, zK, blt, fnV, asArg, ze, zn, zo, zj, zi, zg, zk, zr, z6, zD, zF, mkS, zc, unN, zM, zm, zy, zC, zf, zN, zq, GS, Int.reduceToNat, Nat.reduceGT, ↓reduceIte, Nat.reduceAdd, Nat.reduceMul, Nat.reduceSub, Nat.reduceEqDiff, Nat.reduceLeDiff, Nat.reduceLT, Nat.reduceBEq, Int.reduceBEq, Int.reduceBNe, Int.reduceEq, Int.reduceLT, Int.reduceLE, Int.reduceGT, Int.reduceNeg, reduceCtorEq, GZ, hc, zx, Int.zero_add, zY, Int.cast_ofNat_Int, Int.reduceAdd]
        refine zz Tryz.func164 rfl rfl ?_
        simp (disch := ((try simp only [LL]); omega)) only [↓GO, ↓DRW, GA, ren, zB, zd, refs, zb, cst, zl, zH, z7, E.load, E.store, zG, isC, bin, zI, zJ, una, z8, za, zh, zK, blt, fnV, asArg, ze, zn, zo, zj, zi, zg, zk, zr, z6, zD, zF, mkS, zc, unN, zM, zm, zy, zC, zf, zN, zq, GS, Int.reduceToNat, Nat.reduceGT, ↓reduceIte, Nat.reduceAdd, Nat.reduceMul, Nat.reduceSub, Nat.reduceEqDiff, Nat.reduceLeDiff, Nat.reduceLT, Nat.reduceBEq, Int.reduceBEq, Int.reduceBNe, Int.reduceEq, Int.reduceLT, Int.reduceLE, Int.reduceGT, Int.reduceNeg, reduceCtorEq, GZ, zx, Int.zero_add, zY, Int.cast_ofNat_Int, Int.reduceAdd]
theorem bG (v : Ver) (hs : v.sm) : ∀ (rest pre : List Str), v.pre = pre ++ rest →
    EV Tryz.prog pol (.loop 164 58 0 [.ptr 0 0 0, .t (.list 1 (y6 v.pre)), .t (.int .i64 (v.pre.length : Int)), .t (.int .i64 (pre.length : Int))] [.vs 4 [v.enc.map .t]])
    = some (cond (rest.all wm) (.loop (.exit 2) [.ptr 0 0 0, .bad] [.vs 4 [v.enc.map .t]]) (.loop .ret [.ptr 0 0 0, .t (.bool false)] [.vs 4 [v.enc.map .t]]))
  | [], pre, hp => by
    have c : decide ((pre.length : Int) < (v.pre.length : Int)) = false := by simp [hp]
    refine zz Tryz.func164 rfl rfl ?_
    simp only [↓GO, ↓DRW, GA, ren, zB, zd, refs, zb, cst, zl, zH, z7, E.load, E.store, zG, isC, bin, zI, zJ, una, z8, za, zh, zK, blt, fnV, asArg, ze, zn, zo, zj, zi, zg, zk, zr, z6, zD, zF, mkS, zc, unN, zM, zm, zy, zC, zf, zN, zq, GS, Int.reduceToNat, Nat.reduceGT, ↓reduceIte, Nat.reduceAdd, Nat.reduceMul, Nat.reduceSub, Nat.reduceEqDiff, Nat.reduceLeDiff, Nat.reduceLT, Nat.reduceBEq, Int.reduceBEq, Int.reduceBNe, Int.reduceEq, Int.reduceLT, Int.reduceLE, Int.reduceGT, Int.reduceNeg, reduceCtorEq, c, Ver.enc]
  | x :: rest, pre, hp => by
    unfold Ver.sm at hs
    have c : decide ((pre.length : Int) < (v.pre.length : Int)) = true := by simp [hp]; omega
    have hget : (y6 v.pre)[pre.length]? = some [.str x] := by rw [hp]; exact xU pre x rest
    have hlen : pre.length + rest.length + 1 ≤ v.pre.length := by rw [hp]; simp; omega
    have hx : x.length ≤ 2097152 := by have := xX (ks := v.pre) (s := x) (by rw [hp]; simp); omega
    have IH := bG v hs rest (pre ++ [x]) (by rw [hp]; simp)
    rw [show ((pre ++ [x]).length : Int) = (pre.length : Int) + 1 by simp] at IH
    have h1 := uD (x.length : Int) 1 20
    have h2 := aT 184 preB S3 x (by omega)
    have h3 := jD x (by omega)
    have h4 := mU x (by omega)
    clear hp
    simp only [Ver.enc, List.map_cons, List.map_nil] at IH ⊢
    rw [List.all_cons, wm]
    have e4 : decide (zO x < 0) = !decide (0 ≤ zO x) := by
      rcases Int.lt_or_le (zO x) 0 with h | h
      · have a : ¬ (0 ≤ zO x) := by omega
        simp [h, a]
      · have a : ¬ (zO x < 0) := by omega
        simp [h, a]
    generalize B2 (x.length : Int) 1 20 = b1 at *
    generalize x.all preB = b2 at *
    generalize isNum x = b3 at *
    generalize zO x = rd at *
    generalize decide (0 ≤ rd) = b4 at *
    cases b1 <;> cases b2 <;> cases b3 <;> cases b4 <;> refine zz Tryz.func164 rfl rfl ?_ <;>
      simp (disch := ((try simp only [LL]); omega)) only [↓GO, ↓DRW, GA, ren, zB, zd, refs, zb, cst, zl, zH, z7, E.load, E.store, zG, isC, bin, zI, zJ, una, z8, za, zh, zK, blt, fnV, asArg, ze, zn, zo, zj, zi, zg, zk, zr, z6, zD, zF, mkS, zc, unN, zM, zm, zy, zC, zf, zN, zq, GS, Int.reduceToNat, Nat.reduceGT, ↓reduceIte, Nat.reduceAdd, Nat.reduceMul, Nat.reduceSub, Nat.reduceEqDiff, Nat.reduceLeDiff, Nat.reduceLT, Nat.reduceBEq, Int.reduceBEq, Int.reduceBNe, Int.reduceEq, Int.reduceLT, Int.reduceLE, Int.reduceGT, Int.reduceNeg, reduceCtorEq, GZ, c, hget, zx, h1, h2, h3, h4, e4, zP, IH, zY]
theorem TZ (v : Ver) (hs : v.sm) : zE (EV Tryz.prog pol) 164 [.agg (v.enc.map .t)] = some (.t (.bool (yv v))) := by
  have h1 := Uh (.int .i64 v.maj) (.int .i64 v.min) (.int .i64 v.pat) (.list 1 (y6 v.pre)) v.maj v.min v.pat
  have h2 := bG v hs v.pre [] rfl
  unfold Ver.sm at hs
  simp only [List.length_nil, Int.natCast_zero] at h2
  simp only [Ver.enc, List.map_cons, List.map_nil] at h1 h2 ⊢
  unfold yv
  generalize (n9 v.maj && (n9 v.min && n9 v.pat)) = b1 at *
  generalize v.pre.all wm = b2 at *
  apply zu
  refine zw rfl Tryz.func164 rfl (by kernel_rfl) ?_
  unfold Tryz.f164
  cases b1 <;> cases b2 <;> simp only [cond_true, cond_false] at h1 h2 <;>
    simp (disch := ((try simp only [LL]); omega)) only [↓GO, ↓DRW, GA, ren, zB, zd, refs, zb, cst, zl, zH, z7, E.load, E.store, zG, isC, bin, zI, zJ, una, z8, za, zh, zK, blt, fnV, asArg, ze, zn, zo, zj, zi, zg, zk, zr, z6, zD, zF, mkS, zc, unN, zM, zm, zy, zC, zf, zN, zq, GS, Int.reduceToNat, Nat.reduceGT, ↓reduceIte, Nat.reduceAdd, Nat.reduceMul, Nat.reduceSub, Nat.reduceEqDiff, Nat.reduceLeDiff, Nat.reduceLT, Nat.reduceBEq, Int.reduceBEq, Int.reduceBNe, Int.reduceEq, Int.reduceLT, Int.reduceLE, Int.reduceGT, Int.reduceNeg, reduceCtorEq, GZ, h1, h2, zP, zY, Int.cast_ofNat_Int]
theorem UN (b : UInt8) : zE (EV Tryz.prog pol) 193 [.t (.int .u8 (b.toNat : Int))] = some (.t (.bool (B2 (b.toNat : Int) 65 90))) := by
  have h := xN (b.toNat : Int) 65 90
  apply zu
  refine zw rfl Tryz.func193 rfl (by kernel_rfl) ?_
  unfold Tryz.f193
  simp (disch := ((try simp only [LL]); omega)) only [↓GO, ↓DRW, GA, ren, zB, zd, refs, zb, cst, zl, zH, z7, E.load, E.store, zG, isC, bin, zI, zJ, una, z8, za, zh, zK, blt, fnV, asArg, ze, zn, zo, zj, zi, zg, zk, zr, z6, zD, zF, mkS, zc, unN, zM, zm, zy, zC, zf, zN, zq, GS, Int.reduceToNat, Nat.reduceGT, ↓reduceIte, Nat.reduceAdd, Nat.reduceMul, Nat.reduceSub, Nat.reduceEqDiff, Nat.reduceLeDiff, Nat.reduceLT, Nat.reduceBEq, Int.reduceBEq, Int.reduceBNe, Int.reduceEq, Int.reduceLT, Int.reduceLE, Int.reduceGT, Int.reduceNeg, reduceCtorEq, GZ, h, conv, wrap_u8]
theorem Ve (s : Str) (hl : s.length ≤ 2097152) : ∀ (rest pre : Str), s = pre ++ rest →
    EV Tryz.prog pol (.loop 194 26 0 [.t (.str s), .t (.int .i64 (pre.length : Int))] []) = some (cond (rest.all isD) (.loop (.exit 0) [.t (.str s), .bad] []) (.loop .ret [.t (.str s), .t (.bool false)] []))
  | [], pre, hs => by
    have c : decide ((pre.length : Int) < (s.length : Int)) = false := by simp [hs]
    refine zz Tryz.func194 rfl rfl ?_
    simp only [↓GO, ↓DRW, GA, ren, zB, zd, refs, zb, cst, zl, zH, z7, E.load, E.store, zG, isC, bin, zI, zJ, una, z8, za, zh, zK, blt, fnV, asArg, ze, zn, zo, zj, zi, zg, zk, zr, z6, zD, zF, mkS, zc, unN, zM, zm, zy, zC, zf, zN, zq, GS, Int.reduceToNat, Nat.reduceGT, ↓reduceIte, Nat.reduceAdd, Nat.reduceMul, Nat.reduceSub, Nat.reduceEqDiff, Nat.reduceLeDiff, Nat.reduceLT, Nat.reduceBEq, Int.reduceBEq, Int.reduceBNe, Int.reduceEq, Int.reduceLT, Int.reduceLE, Int.reduceGT, Int.reduceNeg, reduceCtorEq, c]
  | b :: rest, pre, hs => by
    have c : decide ((pre.length : Int) < (s.length : Int)) = true := by simp [hs]; omega
    have hget : s[pre.length]? = some b := by rw [hs]; exact tn pre b rest
    have hlen : s.length = pre.length + rest.length + 1 := by rw [hs]; simp; omega
    have IH := Ve s hl rest (pre ++ [b]) (by rw [hs]; simp)
    rw [show ((pre ++ [b]).length : Int) = (pre.length : Int) + 1 by simp] at IH
    have hb := xN (b.toNat : Int) 48 57
    rw [Vh] at hb
    clear hs
    refine zz Tryz.func194 rfl rfl ?_
    cases h1 : isD b <;> rw [h1] at hb <;>
      simp (disch := ((try simp only [LL]); omega)) only [↓GO, ↓DRW, GA, ren, zB, zd, refs, zb, cst, zl, zH, z7, E.load, E.store, zG, isC, bin, zI, zJ, una, z8, za, zh, zK, blt, fnV, asArg, ze, zn, zo, zj, zi, zg, zk, zr, z6, zD, zF, mkS, zc, unN, zM, zm, zy, zC, zf, zN, zq, GS, Int.reduceToNat, Nat.reduceGT, ↓reduceIte, Nat.reduceAdd, Nat.reduceMul, Nat.reduceSub, Nat.reduceEqDiff, Nat.reduceLeDiff, Nat.reduceLT, Nat.reduceBEq, Int.reduceBEq, Int.reduceBNe, Int.reduceEq, Int.reduceLT, Int.reduceLE, Int.reduceGT, Int.reduceNeg, reduceCtorEq, GZ, c, hget, zx, conv, wrap_u8, hb, h1, IH]
theorem S8 (s : Str) (hl : s.length ≤ 2097152) : zE (EV Tryz.prog pol) 194 [.t (.str s)] = some (.t (.bool (isNum s))) := by
  have IH := Ve s hl s [] rfl
  simp only [List.length_nil, Int.natCast_zero] at IH
  apply zu
  refine zw rfl Tryz.func194 rfl (by kernel_rfl) ?_
  unfold Tryz.f194
  unfold isNum
  cases h1 : s.all isD <;> rw [h1] at IH <;> simp only [cond_true, cond_false] at IH <;>
    simp (disch := ((try simp only [LL]); omega)) only [↓GO, ↓DRW, GA, ren, zB, zd, refs, zb, cst, zl, zH, z7, E.load, E.store, zG, isC, bin, zI, zJ, una, z8, za, zh, zK, blt, fnV, asArg, ze, zn, zo, zj, zi, zg, zk, zr, z6, zD, zF, mkS, zc, unN, zM, zm, zy, zC, zf, zN, zq, GS, Int.reduceToNat, Nat.reduceGT, ↓reduceIte, Nat.reduceAdd, Nat.reduceMul, Nat.reduceSub, Nat.reduceEqDiff, Nat.reduceLeDiff, Nat.reduceLT, Nat.reduceBEq, Int.reduceBEq, Int.reduceBNe, Int.reduceEq, Int.reduceLT, Int.reduceLE, Int.reduceGT, Int.reduceNeg, reduceCtorEq, GZ, IH, bne]
theorem Vb (s : Str) (hl : s.length ≤ 2097152) : ∀ (rest pre : Str), s = pre ++ rest →
    EV Tryz.prog pol (.loop 175 26 0 [.t (.str s), .t (.int .i64 (pre.length : Int))] []) = some (cond (rest.all preB) (.loop (.exit 0) [.t (.str s), .bad] []) (.loop .ret [.t (.str s), .t (.bool false)] []))
  | [], pre, hs => by
    have c : decide ((pre.length : Int) < (s.length : Int)) = false := by simp [hs]
    refine zz Tryz.func175 rfl rfl ?_
    simp only [↓GO, ↓DRW, GA, ren, zB, zd, refs, zb, cst, zl, zH, z7, E.load, E.store, zG, isC, bin, zI, zJ, una, z8, za, zh, zK, blt, fnV, asArg, ze, zn, zo, zj, zi, zg, zk, zr, z6, zD, zF, mkS, zc, unN, zM, zm, zy, zC, zf, zN, zq, GS, Int.reduceToNat, Nat.reduceGT, ↓reduceIte, Nat.reduceAdd, Nat.reduceMul, Nat.reduceSub, Nat.reduceEqDiff, Nat.reduceLeDiff, Nat.reduceLT, Nat.reduceBEq, Int.reduceBEq, Int.reduceBNe, Int.reduceEq, Int.reduceLT, Int.reduceLE, Int.reduceGT, Int.reduceNeg, reduceCtorEq, c]
  | b :: rest, pre, hs => by
    have c : decide ((pre.length : Int) < (s.length : Int)) = true := by simp [hs]; omega
    have hget : s[pre.length]? = some b := by rw [hs]; exact tn pre b rest
    have hlen : s.length = pre.length + rest.length + 1 := by rw [hs]; simp; omega
    have IH := Vb s hl rest (pre ++ [b]) (by rw [hs]; simp)
    rw [show ((pre ++ [b]).length : Int) = (pre.length : Int) + 1 by simp] at IH
    have hb := oo b
    have hg := UN b
    clear hs
    refine zz Tryz.func175 rfl rfl ?_
    rw [List.all_cons, preB]
    simp only [nb] at *
    cases h1 : (B2 (b.toNat : Int) 97 122 || B2 (b.toNat : Int) 48 57) <;> rw [h1] at hb <;> cases h2 : B2 (b.toNat : Int) 65 90 <;> rw [h2] at hg <;> cases h3 : ((b.toNat : Int) == 45) <;>
      simp (disch := ((try simp only [LL]); omega)) only [↓GO, ↓DRW, GA, ren, zB, zd, refs, zb, cst, zl, zH, z7, E.load, E.store, zG, isC, bin, zI, zJ, una, z8, za, zh, zK, blt, fnV, asArg, ze, zn, zo, zj, zi, zg, zk, zr, z6, zD, zF, mkS, zc, unN, zM, zm, zy, zC, zf, zN, zq, GS, Int.reduceToNat, Nat.reduceGT, ↓reduceIte, Nat.reduceAdd, Nat.reduceMul, Nat.reduceSub, Nat.reduceEqDiff, Nat.reduceLeDiff, Nat.reduceLT, Nat.reduceBEq, Int.reduceBEq, Int.reduceBNe, Int.reduceEq, Int.reduceLT, Int.reduceLE, Int.reduceGT, Int.reduceNeg, reduceCtorEq, GZ, c, hget, zx, hb, hg, h3, bne, IH]
theorem S2 (s : Str) (hl : s.length ≤ 2097152) : zE (EV Tryz.prog pol) 175 [.t (.str s)] = some (.t (.bool (wm s))) := by
  have IH := Vb s hl s [] rfl
  simp only [List.length_nil, Int.natCast_zero] at IH
  have h1 := xN (s.length : Int) 1 20
  have h3 := S8 s hl
  have h4 := ja s (by omega)
  apply zu
  refine zw rfl Tryz.func175 rfl (by kernel_rfl) ?_
  unfold Tryz.f175
  unfold wm
  generalize B2 (s.length : Int) 1 20 = b1 at *
  generalize isNum s = b3 at *
  generalize zO s = rd at *
  cases ha : s.all preB <;> rw [ha] at IH <;> simp only [cond_true, cond_false] at IH <;> cases b1 <;> cases b3 <;>
    simp (disch := ((try simp only [LL]); omega)) only [↓GO, ↓DRW, GA, ren, zB, zd, refs, zb, cst, zl, zH, z7, E.load, E.store, zG, isC, bin, zI, zJ, una, z8, za, zh, zK, blt, fnV, asArg, ze, zn, zo, zj, zi, zg, zk, zr, z6, zD, zF, mkS, zc, unN, zM, zm, zy, zC, zf, zN, zq, GS, Int.reduceToNat, Nat.reduceGT, ↓reduceIte, Nat.reduceAdd, Nat.reduceMul, Nat.reduceSub, Nat.reduceEqDiff, Nat.reduceLeDiff, Nat.reduceLT, Nat.reduceBEq, Int.reduceBEq, Int.reduceBNe, Int.reduceEq, Int.reduceLT, Int.reduceLE, Int.reduceGT, Int.reduceNeg, reduceCtorEq, GZ, IH, h1, h3, h4, ge_iff_le]
theorem V7 (v : Ver) (hs : v.sm) : ∀ (rest pre : List Str), v.pre = pre ++ rest →
    EV Tryz.prog pol (.loop 153 26 0 [.ptr 0 0 0, .t (.int .i64 (pre.length : Int))] [.vs 4 [v.enc.map .t]])
    = some (cond (rest.all wm) (.loop (.exit 0) [.ptr 0 0 0, .bad] [.vs 4 [v.enc.map .t]]) (.loop .ret [.ptr 0 0 0, .t (.bool false)] [.vs 4 [v.enc.map .t]]))
  | [], pre, hp => by
    have c : decide ((pre.length : Int) < (v.pre.length : Int)) = false := by simp [hp]
    refine zz Tryz.func153 rfl rfl ?_
    simp only [↓GO, ↓DRW, GA, ren, zB, zd, refs, zb, cst, zl, zH, z7, E.load, E.store, zG, isC, bin, zI, zJ, una, z8, za, zh, zK, blt, fnV, asArg, ze, zn, zo, zj, zi, zg, zk, zr, z6, zD, zF, mkS, zc, unN, zM, zm, zy, zC, zf, zN, zq, GS, Int.reduceToNat, Nat.reduceGT, ↓reduceIte, Nat.reduceAdd, Nat.reduceMul, Nat.reduceSub, Nat.reduceEqDiff, Nat.reduceLeDiff, Nat.reduceLT, Nat.reduceBEq, Int.reduceBEq, Int.reduceBNe, Int.reduceEq, Int.reduceLT, Int.reduceLE, Int.reduceGT, Int.reduceNeg, reduceCtorEq, zP, c, Ver.enc]
  | x :: rest, pre, hp => by
    unfold Ver.sm at hs
    have c : decide ((pre.length : Int) < (v.pre.length : Int)) = true := by simp [hp]; omega
    have hget : (y6 v.pre)[pre.length]? = some [.str x] := by rw [hp]; exact xU pre x rest
    have hlen : pre.length + rest.length + 1 ≤ v.pre.length := by rw [hp]; simp; omega
    have hx : x.length ≤ 2097152 := by have := xX (ks := v.pre) (s := x) (by rw [hp]; simp); omega
    have IH := V7 v hs rest (pre ++ [x]) (by rw [hp]; simp)
    rw [show ((pre ++ [x]).length : Int) = (pre.length : Int) + 1 by simp] at IH
    have h1 := S2 x hx
    clear hp
    simp only [Ver.enc, List.map_cons, List.map_nil] at IH ⊢
    cases h2 : wm x <;> rw [h2] at h1 <;> refine zz Tryz.func153 rfl rfl ?_ <;>
      simp (disch := ((try simp only [LL]); omega)) only [↓GO, ↓DRW, GA, ren, zB, zd, refs, zb, cst, zl, zH, z7, E.load, E.store, zG, isC, bin, zI, zJ, una, z8, za, zh, zK, blt, fnV, asArg, ze, zn, zo, zj, zi, zg, zk, zr, z6, zD, zF, mkS, zc, unN, zM, zm, zy, zC, zf, zN, zq, GS, Int.reduceToNat, Nat.reduceGT, ↓reduceIte, Nat.reduceAdd, Nat.reduceMul, Nat.reduceSub, Nat.reduceEqDiff, Nat.reduceLeDiff, Nat.reduceLT, Nat.reduceBEq, Int.reduceBEq, Int.reduceBNe, Int.reduceEq, Int.reduceLT, Int.reduceLE, Int.reduceGT, Int.reduceNeg, reduceCtorEq, GZ, c, hget, zx, h1, h2, zP, IH, zY]
theorem cM (v : Ver) (hs : v.sm) : zE (EV Tryz.prog pol) 153 [.agg (v.enc.map .t)] = some (.t (.bool (yv v))) := by
  have h2 := V7 v hs v.pre [] rfl
  have ha := xN v.maj 0 999999999
  have hb := xN v.min 0 999999999
  have hc := xN v.pat 0 999999999
  rw [Tf] at ha hb hc
  unfold Ver.sm at hs
  simp only [List.length_nil, Int.natCast_zero] at h2
  simp only [Ver.enc, List.map_cons, List.map_nil] at h2 ⊢
  unfold yv
  generalize n9 v.maj = b1 at *
  generalize n9 v.min = b3 at *
  generalize n9 v.pat = b4 at *
  generalize v.pre.all wm = b2 at *
  apply zu
  refine zw rfl Tryz.func153 rfl (by kernel_rfl) ?_
  unfold Tryz.f153
  cases b2 <;> simp only [cond_true, cond_false] at h2 <;> cases b1 <;> cases b3 <;> cases b4 <;>
    simp (disch := ((try simp only [LL]); omega)) only [↓GO, ↓DRW, GA, ren, zB, zd, refs, zb, cst, zl, zH, z7, E.load, E.store, zG, isC, bin, zI, zJ, una, z8, za, zh, zK, blt, fnV, asArg, ze, zn, zo, zj, zi, zg, zk, zr, z6, zD, zF, mkS, zc, unN, zM, zm, zy, zC, zf, zN, zq, GS, Int.reduceToNat, Nat.reduceGT, ↓reduceIte, Nat.reduceAdd, Nat.reduceMul, Nat.reduceSub, Nat.reduceEqDiff, Nat.reduceLeDiff, Nat.reduceLT, Nat.reduceBEq, Int.reduceBEq, Int.reduceBNe, Int.reduceEq, Int.reduceLT, Int.reduceLE, Int.reduceGT, Int.reduceNeg, reduceCtorEq, GZ, h2, ha, hb, hc, zP, zY]
end Go.Proofs.YtmcephnfcciloaaGreatDoor
/- Digits and quotes, by both. Conditions: those of each lemma. -/
namespace Go.Proofs.YtmcephnfcciloaaGreatDoor
open E
set_option linter.unusedSimpArgs false
set_option linter.unusedVariables false
set_option maxRecDepth 100000
theorem yT {α : Type} {b : Bool} {x y r : Option α} (h : b = true) (hx : x = r) : (if b = true then x else y) = r := by rw [h]; exact hx
end Go.Proofs.YtmcephnfcciloaaGreatDoor
/- The text of a version, and back, by both. Conditions: those of each lemma. -/
namespace Go.Proofs.YtmcephnfcciloaaGreatDoor
open E
set_option linter.unusedSimpArgs false
set_option linter.unusedVariables false
set_option maxRecDepth 100000
theorem eO (c : Str) (x : Str) : ∀ pre : List Str, w8 c (pre ++ [x]) = cond (pre == []) ((c ++ [45]) ++ x) ((w8 c pre ++ [46]) ++ x)
  | [] => by simp [w8, Lib.join_one]
  | y :: l => by
    unfold w8
    rw [nz]
    simp
theorem lk (c : Str) (l : List Str) : (w8 c l).length ≤ c.length + yk l + l.length + 1 := by
  have h := join_le [46] l
  unfold w8
  cases l with
  | nil => simp only [show (([] : List Str) == []) = true from rfl, cond_true]; omega
  | cons x r =>
    simp only [beq_nil_cons, cond_false, List.length_append, List.length_cons, List.length_nil] at h ⊢
    omega
theorem ee {v : Ver} (h : yv v = true) : (ve v).length ≤ 29 := by
  obtain ⟨h1, h2, h3, _, _⟩ := w6 h
  have a := wy v.maj h1.1 h1.2
  have b := wy v.min h2.1 h2.2
  have c := wy v.pat h3.1 h3.2
  unfold ve
  simp only [List.length_append, List.length_cons, List.length_nil]
  omega
theorem uE (v : Ver) (hs : v.sm) : zE (EV Tryz.prog pol) 136 [.agg (v.enc.map .t)] = some (.t (.str (yb v))) := by
  have h1 := TZ v hs
  unfold Ver.sm at hs
  unfold yb
  cases ho : yv v with
  | false =>
    rw [ho] at h1
    simp only [Ver.enc, List.map_cons, List.map_nil] at h1 ⊢
    apply zu
    refine zw rfl Tryz.func136 rfl (by kernel_rfl) ?_
    unfold Tryz.f136
    simp (disch := ((try simp only [LL]); omega)) only [↓GO, ↓DRW, GA, ren, zB, zd, refs, zb, cst, zl, zH, z7, E.load, E.store, zG, isC, bin, zI, zJ, una, z8, za, zh, zK, blt, fnV, asArg, ze, zn, zo, zj, zi, zg, zk, zr, z6, zD, zF, mkS, zc, unN, zM, zm, zy, zC, zf, zN, zq, GS, Int.reduceToNat, Nat.reduceGT, ↓reduceIte, Nat.reduceAdd, Nat.reduceMul, Nat.reduceSub, Nat.reduceEqDiff, Nat.reduceLeDiff, Nat.reduceLT, Nat.reduceBEq, Int.reduceBEq, Int.reduceBNe, Int.reduceEq, Int.reduceLT, Int.reduceLE, Int.reduceGT, Int.reduceNeg, reduceCtorEq, GZ, h1]
  | true =>
    obtain ⟨q1, q2, q3, _, _⟩ := w6 ho
    have a := wy v.maj q1.1 q1.2
    have b := wy v.min q2.1 q2.2
    have c := wy v.pat q3.1 q3.2
    have d1 := jV v.maj q1.1 q1.2
    have d2 := jV v.min q2.1 q2.2
    have d3 := jV v.pat q3.1 q3.2
    have hj := join_le [46] v.pre
    simp only [List.length_cons, List.length_nil] at hj
    have h2 := S6 v.pre [46] (by omega) (by omega)
    have hg := jQ v.pre
    rw [ho] at h1
    unfold w8 ve
    simp only [Ver.enc, List.map_cons, List.map_nil] at h1 ⊢
    cases hp : (v.pre == []) <;> rw [hp] at hg <;> simp only [Bool.not_true, Bool.not_false] at hg
    · apply zu
      refine zw rfl Tryz.func136 rfl (by kernel_rfl) ?_
      unfold Tryz.f136
      simp (disch := ((try simp only [LL]); omega)) only [↓GO, ↓DRW, GA, ren, zB, zd, refs, zb, cst, zl, zH, z7, E.load, E.store, zG, isC, bin, zI, zJ, una, z8, za, zh, zK, blt, fnV, asArg, ze, zn, zo, zj, zi, zg, zk, zr, z6, zD, zF, mkS, zc, unN, zM, zm, zy, zC, zf, zN, zq, GS, Int.reduceToNat, Nat.reduceGT, ↓reduceIte, Nat.reduceAdd, Nat.reduceMul, Nat.reduceSub, Nat.reduceEqDiff, Nat.reduceLeDiff, Nat.reduceLT, Nat.reduceBEq, Int.reduceBEq, Int.reduceBNe, Int.reduceEq, Int.reduceLT, Int.reduceLE, Int.reduceGT, Int.reduceNeg, reduceCtorEq, GZ, h1, d1, d2, d3, h2, hg, wh, zP, List.append_assoc]
    · apply zu
      refine zw rfl Tryz.func136 rfl (by kernel_rfl) ?_
      unfold Tryz.f136
      simp (disch := ((try simp only [LL]); omega)) only [↓GO, ↓DRW, GA, ren, zB, zd, refs, zb, cst, zl, zH, z7, E.load, E.store, zG, isC, bin, zI, zJ, una, z8, za, zh, zK, blt, fnV, asArg, ze, zn, zo, zj, zi, zg, zk, zr, z6, zD, zF, mkS, zc, unN, zM, zm, zy, zC, zf, zN, zq, GS, Int.reduceToNat, Nat.reduceGT, ↓reduceIte, Nat.reduceAdd, Nat.reduceMul, Nat.reduceSub, Nat.reduceEqDiff, Nat.reduceLeDiff, Nat.reduceLT, Nat.reduceBEq, Int.reduceBEq, Int.reduceBNe, Int.reduceEq, Int.reduceLT, Int.reduceLE, Int.reduceGT, Int.reduceNeg, reduceCtorEq, GZ, h1, d1, d2, d3, h2, hg, wh, zP, List.append_assoc]
theorem Tg (v : Ver) (hs : v.sm) (c : Str) (hc : c.length ≤ 40) : ∀ (rest pre : List Str), v.pre = pre ++ rest →
    EV Tryz.prog pol (.loop 115 122 0 [.ptr 0 0 0, .t (.str (w8 c pre)), .t (.int .i64 (pre.length : Int))] [.vs 4 [v.enc.map .t]])
    = some (.loop (.exit 0) [.t (.str (w8 c v.pre))] [])
  | [], pre, hp => by
    have c : decide ((pre.length : Int) < (v.pre.length : Int)) = false := by simp [hp]
    have e : v.pre = pre := by simpa using hp
    refine zz Tryz.func115 rfl rfl ?_
    simp only [↓GO, ↓DRW, GA, ren, zB, zd, refs, zb, cst, zl, zH, z7, E.load, E.store, zG, isC, bin, zI, zJ, una, z8, za, zh, zK, blt, fnV, asArg, ze, zn, zo, zj, zi, zg, zk, zr, z6, zD, zF, mkS, zc, unN, zM, zm, zy, zC, zf, zN, zq, GS, Int.reduceToNat, Nat.reduceGT, ↓reduceIte, Nat.reduceAdd, Nat.reduceMul, Nat.reduceSub, Nat.reduceEqDiff, Nat.reduceLeDiff, Nat.reduceLT, Nat.reduceBEq, Int.reduceBEq, Int.reduceBNe, Int.reduceEq, Int.reduceLT, Int.reduceLE, Int.reduceGT, Int.reduceNeg, reduceCtorEq, zP, c, Ver.enc, zY]
    rw [e]
  | x :: rest, pre, hp => by
    unfold Ver.sm at hs
    have c2 : decide ((pre.length : Int) < (v.pre.length : Int)) = true := by simp [hp]; omega
    have hget : (y6 v.pre)[pre.length]? = some [.str x] := by rw [hp]; exact xU pre x rest
    have hlen : pre.length + rest.length + 1 ≤ v.pre.length := by rw [hp]; simp; omega
    have hbk : yk pre + x.length ≤ yk v.pre := by rw [hp, mG]; simp only [yk]; omega
    have ht := lk c pre
    have IH := Tg v hs c hc rest (pre ++ [x]) (by rw [hp]; simp)
    rw [show ((pre ++ [x]).length : Int) = (pre.length : Int) + 1 by simp, eO] at IH
    have he := u0 pre
    have e0 : (pre == []) = true → w8 c pre = c := fun h => by unfold w8; rw [h]; rfl
    clear hp
    simp only [Ver.enc, List.map_cons, List.map_nil] at IH ⊢
    cases h0 : (pre == []) <;> rw [h0] at he IH <;> simp only [cond_true, cond_false] at IH
    · refine zz Tryz.func115 rfl rfl ?_
      simp (disch := ((try simp only [LL]); omega)) only [↓GO, ↓DRW, GA, ren, zB, zd, refs, zb, cst, zl, zH, z7, E.load, E.store, zG, isC, bin, zI, zJ, una, z8, za, zh, zK, blt, fnV, asArg, ze, zn, zo, zj, zi, zg, zk, zr, z6, zD, zF, mkS, zc, unN, zM, zm, zy, zC, zf, zN, zq, GS, Int.reduceToNat, Nat.reduceGT, ↓reduceIte, Nat.reduceAdd, Nat.reduceMul, Nat.reduceSub, Nat.reduceEqDiff, Nat.reduceLeDiff, Nat.reduceLT, Nat.reduceBEq, Int.reduceBEq, Int.reduceBNe, Int.reduceEq, Int.reduceLT, Int.reduceLE, Int.reduceGT, Int.reduceNeg, reduceCtorEq, GZ, c2, hget, zx, he, zP, IH, zY, wh]
    · have e1 := e0 h0
      rw [e1]
      refine zz Tryz.func115 rfl rfl ?_
      simp (disch := ((try simp only [LL]); omega)) only [↓GO, ↓DRW, GA, ren, zB, zd, refs, zb, cst, zl, zH, z7, E.load, E.store, zG, isC, bin, zI, zJ, una, z8, za, zh, zK, blt, fnV, asArg, ze, zn, zo, zj, zi, zg, zk, zr, z6, zD, zF, mkS, zc, unN, zM, zm, zy, zC, zf, zN, zq, GS, Int.reduceToNat, Nat.reduceGT, ↓reduceIte, Nat.reduceAdd, Nat.reduceMul, Nat.reduceSub, Nat.reduceEqDiff, Nat.reduceLeDiff, Nat.reduceLT, Nat.reduceBEq, Int.reduceBEq, Int.reduceBNe, Int.reduceEq, Int.reduceLT, Int.reduceLE, Int.reduceGT, Int.reduceNeg, reduceCtorEq, GZ, c2, hget, zx, he, zP, IH, zY, wh]
theorem ei (v : Ver) (hs : v.sm) : zE (EV Tryz.prog pol) 115 [.agg (v.enc.map .t)] = some (.t (.str (yb v))) := by
  have h1 := cM v hs
  unfold yb
  cases ho : yv v with
  | false =>
    rw [ho] at h1
    simp only [Ver.enc, List.map_cons, List.map_nil] at h1 ⊢
    apply zu
    refine zw rfl Tryz.func115 rfl (by kernel_rfl) ?_
    unfold Tryz.f115
    simp (disch := ((try simp only [LL]); omega)) only [↓GO, ↓DRW, GA, ren, zB, zd, refs, zb, cst, zl, zH, z7, E.load, E.store, zG, isC, bin, zI, zJ, una, z8, za, zh, zK, blt, fnV, asArg, ze, zn, zo, zj, zi, zg, zk, zr, z6, zD, zF, mkS, zc, unN, zM, zm, zy, zC, zf, zN, zq, GS, Int.reduceToNat, Nat.reduceGT, ↓reduceIte, Nat.reduceAdd, Nat.reduceMul, Nat.reduceSub, Nat.reduceEqDiff, Nat.reduceLeDiff, Nat.reduceLT, Nat.reduceBEq, Int.reduceBEq, Int.reduceBNe, Int.reduceEq, Int.reduceLT, Int.reduceLE, Int.reduceGT, Int.reduceNeg, reduceCtorEq, GZ, h1]
  | true =>
    obtain ⟨q1, q2, q3, _, _⟩ := w6 ho
    have a := wy v.maj q1.1 q1.2
    have b := wy v.min q2.1 q2.2
    have c := wy v.pat q3.1 q3.2
    have d1 := jU v.maj q1.1 q1.2
    have d2 := jU v.min q2.1 q2.2
    have d3 := jU v.pat q3.1 q3.2
    have hc := ee ho
    have h2 := Tg v hs (ve v) (by omega) v.pre [] rfl
    rw [ho] at h1
    rw [show w8 (ve v) [] = ve v from rfl] at h2
    simp only [List.length_nil, Int.natCast_zero] at h2
    simp only [cond_true]
    generalize w8 (ve v) v.pre = tt at *
    unfold ve at h2
    simp only [Ver.enc, List.map_cons, List.map_nil] at h1 h2 ⊢
    apply zu
    refine zw rfl Tryz.func115 rfl (by kernel_rfl) ?_
    unfold Tryz.f115
    simp (disch := ((try simp only [LL]); omega)) only [↓GO, ↓DRW, GA, ren, zB, zd, refs, zb, cst, zl, zH, z7, E.load, E.store, zG, isC, bin, zI, zJ, una, z8, za, zh, zK, blt, fnV, asArg, ze, zn, zo, zj, zi, zg, zk, zr, z6, zD, zF, mkS, zc, unN, zM, zm, zy, zC, zf, zN, zq, GS, Int.reduceToNat, Nat.reduceGT, ↓reduceIte, Nat.reduceAdd, Nat.reduceMul, Nat.reduceSub, Nat.reduceEqDiff, Nat.reduceLeDiff, Nat.reduceLT, Nat.reduceBEq, Int.reduceBEq, Int.reduceBNe, Int.reduceEq, Int.reduceLT, Int.reduceLE, Int.reduceGT, Int.reduceNeg, reduceCtorEq, GZ, h1, d1, d2, d3, h2, wh, zY]
theorem ny {s : Str} (h : (yi 46 (yl 45 s).1).length ≠ 3) : xS s = none := by
  unfold xS
  split
  · rename_i a b c he; rw [he] at h; exact absurd rfl h
  · rfl
theorem mr {s : Str} {v : Ver} (h : xS s = some v) (hl : s.length ≤ 1048700) : v.sm ∧ v.maj ≤ 999999999 ∧ -1 ≤ v.maj ∧ v.min ≤ 999999999 ∧ -1 ≤ v.min ∧ v.pat ≤ 999999999 ∧ -1 ≤ v.pat := by
  unfold xS at h
  split at h
  · rename_i a b c he
    cases h
    have h1 := xo a
    have h2 := xo b
    have h3 := xo c
    refine ⟨?_, h1.2, h1.1, h2.2, h2.1, h3.2, h3.1⟩
    have := xL 46 (yl 45 s).2.1
    have h5 := (qt 45 s).2
    unfold Ver.sm
    cases (yl 45 s).2.2 with
    | true => simp only [cond_true]; omega
    | false => simp [yk]
  · cases h
theorem yW (s : Str) (hl : s.length ≤ 1048700) : (zA s).1.sm ∧ (zA s).1.maj ≤ 999999999 ∧ -1 ≤ (zA s).1.maj ∧ (zA s).1.min ≤ 999999999 ∧ -1 ≤ (zA s).1.min ∧ (zA s).1.pat ≤ 999999999 ∧ -1 ≤ (zA s).1.pat := by
  unfold zA
  cases hm : xS s with
  | none => simp [Ver.zero, Ver.sm, yk]
  | some v =>
    have := mr hm hl
    simp only
    cases (yb v == s) with
    | true => exact this
    | false => simp [Ver.zero, Ver.sm, yk]
def rvT (s : Str) : V := .tup [.agg ((zA s).1.enc.map .t), .t (.bool (zA s).2)]
theorem oA (s : Str) (hl : s.length ≤ 1048700) : zE (EV Tryz.prog pol) 99 [.t (.str s)] = some (rvT s) := by
  have h1 := Tx s [45] (by omega)
  rw [fZ] at h1
  have hl1 := qt 45 s
  have h2 := qG (yl 45 s).1 [46] (by omega) (by simp)
  have h3 := qG (yl 45 s).2.1 [46] (by omega) (by simp)
  rw [rm] at h2 h3
  unfold rvT zA
  by_cases hn : (yi 46 (yl 45 s).1).length = 3
  · obtain ⟨a, b, c, hp⟩ : ∃ a b c, yi 46 (yl 45 s).1 = [a, b, c] := by
      match hq : yi 46 (yl 45 s).1, hn with
      | [a, b, c], _ => exact ⟨a, b, c, rfl⟩
    have hm : xS s = some ⟨zO a, zO b, zO c, cond (yl 45 s).2.2 (yi 46 (yl 45 s).2.1) []⟩ := by unfold xS; rw [hp]
    have hne := gT hm
    have hsm := (mr hm hl).1
    have hbk := xL 46 (yl 45 s).1
    rw [hp] at h2 hbk
    simp only [yk] at hbk
    have d1 := mU a (by omega)
    have d2 := mU b (by omega)
    have d3 := mU c (by omega)
    have hv := uE _ hsm
    rw [hm]
    have hs0 : (s == []) = false := by rw [beq_eq_false_iff_ne]; exact hne
    simp only [Ver.enc, List.map_cons, List.map_nil, xj, yf] at hv h2 ⊢
    generalize zO a = ra at *
    generalize zO b = rb at *
    generalize zO c = rc at *
    cases hh : (yl 45 s).2.2 <;> rw [hh] at h1 hv <;> simp only [cond_true, cond_false, yf] at hv ⊢
    · generalize yb ⟨ra, rb, rc, []⟩ = tt at *
      clear hm hsm
      cases he : (tt == s)
      · apply zu
        refine zw rfl Tryz.func99 rfl (by kernel_rfl) ?_
        unfold Tryz.f99
        simp (disch := ((try simp only [LL]); omega)) only [↓GO, ↓DRW, GA, ren, zB, zd, refs, zb, cst, zl, zH, z7, E.load, E.store, zG, isC, bin, zI, zJ, una, z8, za, zh, zK, blt, fnV, asArg, ze, zn, zo, zj, zi, zg, zk, zr, z6, zD, zF, mkS, zc, unN, zM, zm, zy, zC, zf, zN, zq, GS, Int.reduceToNat, Nat.reduceGT, ↓reduceIte, Nat.reduceAdd, Nat.reduceMul, Nat.reduceSub, Nat.reduceEqDiff, Nat.reduceLeDiff, Nat.reduceLT, Nat.reduceBEq, Int.reduceBEq, Int.reduceBNe, Int.reduceEq, Int.reduceLT, Int.reduceLE, Int.reduceGT, Int.reduceNeg, reduceCtorEq, GZ, h1, h2, d1, d2, d3, hv, he, bne, hs0, Ver.zero, yf]
        refine yT (by kernel_rfl) ?_
        simp (disch := ((try simp only [LL]); omega)) only [↓GO, ↓DRW, GA, ren, zB, zd, refs, zb, cst, zl, zH, z7, E.load, E.store, zG, isC, bin, zI, zJ, una, z8, za, zh, zK, blt, fnV, asArg, ze, zn, zo, zj, zi, zg, zk, zr, z6, zD, zF, mkS, zc, unN, zM, zm, zy, zC, zf, zN, zq, GS, Int.reduceToNat, Nat.reduceGT, ↓reduceIte, Nat.reduceAdd, Nat.reduceMul, Nat.reduceSub, Nat.reduceEqDiff, Nat.reduceLeDiff, Nat.reduceLT, Nat.reduceBEq, Int.reduceBEq, Int.reduceBNe, Int.reduceEq, Int.reduceLT, Int.reduceLE, Int.reduceGT, Int.reduceNeg, reduceCtorEq, GZ, h1, h2, d1, d2, d3, hv, he, bne, hs0, Ver.zero, yf]
      · apply zu
        refine zw rfl Tryz.func99 rfl (by kernel_rfl) ?_
        unfold Tryz.f99
        simp (disch := ((try simp only [LL]); omega)) only [↓GO, ↓DRW, GA, ren, zB, zd, refs, zb, cst, zl, zH, z7, E.load, E.store, zG, isC, bin, zI, zJ, una, z8, za, zh, zK, blt, fnV, asArg, ze, zn, zo, zj, zi, zg, zk, zr, z6, zD, zF, mkS, zc, unN, zM, zm, zy, zC, zf, zN, zq, GS, Int.reduceToNat, Nat.reduceGT, ↓reduceIte, Nat.reduceAdd, Nat.reduceMul, Nat.reduceSub, Nat.reduceEqDiff, Nat.reduceLeDiff, Nat.reduceLT, Nat.reduceBEq, Int.reduceBEq, Int.reduceBNe, Int.reduceEq, Int.reduceLT, Int.reduceLE, Int.reduceGT, Int.reduceNeg, reduceCtorEq, GZ, h1, h2, d1, d2, d3, hv, he, bne, hs0, yf]
        refine yT (by kernel_rfl) ?_
        simp (disch := ((try simp only [LL]); omega)) only [↓GO, ↓DRW, GA, ren, zB, zd, refs, zb, cst, zl, zH, z7, E.load, E.store, zG, isC, bin, zI, zJ, una, z8, za, zh, zK, blt, fnV, asArg, ze, zn, zo, zj, zi, zg, zk, zr, z6, zD, zF, mkS, zc, unN, zM, zm, zy, zC, zf, zN, zq, GS, Int.reduceToNat, Nat.reduceGT, ↓reduceIte, Nat.reduceAdd, Nat.reduceMul, Nat.reduceSub, Nat.reduceEqDiff, Nat.reduceLeDiff, Nat.reduceLT, Nat.reduceBEq, Int.reduceBEq, Int.reduceBNe, Int.reduceEq, Int.reduceLT, Int.reduceLE, Int.reduceGT, Int.reduceNeg, reduceCtorEq, GZ, h1, h2, d1, d2, d3, hv, he, bne, hs0, yf]
    · generalize yb ⟨ra, rb, rc, yi 46 (yl 45 s).2.1⟩ = tt at *
      clear hm hsm
      generalize yi 46 (yl 45 s).2.1 = pp at *
      cases he : (tt == s)
      · apply zu
        refine zw rfl Tryz.func99 rfl (by kernel_rfl) ?_
        unfold Tryz.f99
        simp (disch := ((try simp only [LL]); omega)) only [↓GO, ↓DRW, GA, ren, zB, zd, refs, zb, cst, zl, zH, z7, E.load, E.store, zG, isC, bin, zI, zJ, una, z8, za, zh, zK, blt, fnV, asArg, ze, zn, zo, zj, zi, zg, zk, zr, z6, zD, zF, mkS, zc, unN, zM, zm, zy, zC, zf, zN, zq, GS, Int.reduceToNat, Nat.reduceGT, ↓reduceIte, Nat.reduceAdd, Nat.reduceMul, Nat.reduceSub, Nat.reduceEqDiff, Nat.reduceLeDiff, Nat.reduceLT, Nat.reduceBEq, Int.reduceBEq, Int.reduceBNe, Int.reduceEq, Int.reduceLT, Int.reduceLE, Int.reduceGT, Int.reduceNeg, reduceCtorEq, GZ, h1, h2, h3, d1, d2, d3, hv, he, bne, hs0, Ver.zero, yf]
        refine yT (by kernel_rfl) ?_
        simp (disch := ((try simp only [LL]); omega)) only [↓GO, ↓DRW, GA, ren, zB, zd, refs, zb, cst, zl, zH, z7, E.load, E.store, zG, isC, bin, zI, zJ, una, z8, za, zh, zK, blt, fnV, asArg, ze, zn, zo, zj, zi, zg, zk, zr, z6, zD, zF, mkS, zc, unN, zM, zm, zy, zC, zf, zN, zq, GS, Int.reduceToNat, Nat.reduceGT, ↓reduceIte, Nat.reduceAdd, Nat.reduceMul, Nat.reduceSub, Nat.reduceEqDiff, Nat.reduceLeDiff, Nat.reduceLT, Nat.reduceBEq, Int.reduceBEq, Int.reduceBNe, Int.reduceEq, Int.reduceLT, Int.reduceLE, Int.reduceGT, Int.reduceNeg, reduceCtorEq, GZ, h1, h2, h3, d1, d2, d3, hv, he, bne, hs0, Ver.zero, yf]
      · apply zu
        refine zw rfl Tryz.func99 rfl (by kernel_rfl) ?_
        unfold Tryz.f99
        simp (disch := ((try simp only [LL]); omega)) only [↓GO, ↓DRW, GA, ren, zB, zd, refs, zb, cst, zl, zH, z7, E.load, E.store, zG, isC, bin, zI, zJ, una, z8, za, zh, zK, blt, fnV, asArg, ze, zn, zo, zj, zi, zg, zk, zr, z6, zD, zF, mkS, zc, unN, zM, zm, zy, zC, zf, zN, zq, GS, Int.reduceToNat, Nat.reduceGT, ↓reduceIte, Nat.reduceAdd, Nat.reduceMul, Nat.reduceSub, Nat.reduceEqDiff, Nat.reduceLeDiff, Nat.reduceLT, Nat.reduceBEq, Int.reduceBEq, Int.reduceBNe, Int.reduceEq, Int.reduceLT, Int.reduceLE, Int.reduceGT, Int.reduceNeg, reduceCtorEq, GZ, h1, h2, h3, d1, d2, d3, hv, he, bne, hs0, yf]
        refine yT (by kernel_rfl) ?_
        simp (disch := ((try simp only [LL]); omega)) only [↓GO, ↓DRW, GA, ren, zB, zd, refs, zb, cst, zl, zH, z7, E.load, E.store, zG, isC, bin, zI, zJ, una, z8, za, zh, zK, blt, fnV, asArg, ze, zn, zo, zj, zi, zg, zk, zr, z6, zD, zF, mkS, zc, unN, zM, zm, zy, zC, zf, zN, zq, GS, Int.reduceToNat, Nat.reduceGT, ↓reduceIte, Nat.reduceAdd, Nat.reduceMul, Nat.reduceSub, Nat.reduceEqDiff, Nat.reduceLeDiff, Nat.reduceLT, Nat.reduceBEq, Int.reduceBEq, Int.reduceBNe, Int.reduceEq, Int.reduceLT, Int.reduceLE, Int.reduceGT, Int.reduceNeg, reduceCtorEq, GZ, h1, h2, h3, d1, d2, d3, hv, he, bne, hs0, yf]
  · have hm := ny hn
    rw [hm]
    have hc : (((yi 46 (yl 45 s).1).length : Int) == 3) = false := by rw [beq_eq_false_iff_ne]; omega
    generalize yi 46 (yl 45 s).1 = parts at *
    apply zu
    refine zw rfl Tryz.func99 rfl (by kernel_rfl) ?_
    unfold Tryz.f99
    simp (disch := ((try simp only [LL]); omega)) only [↓GO, ↓DRW, GA, ren, zB, zd, refs, zb, cst, zl, zH, z7, E.load, E.store, zG, isC, bin, zI, zJ, una, z8, za, zh, zK, blt, fnV, asArg, ze, zn, zo, zj, zi, zg, zk, zr, z6, zD, zF, mkS, zc, unN, zM, zm, zy, zC, zf, zN, zq, GS, Int.reduceToNat, Nat.reduceGT, ↓reduceIte, Nat.reduceAdd, Nat.reduceMul, Nat.reduceSub, Nat.reduceEqDiff, Nat.reduceLeDiff, Nat.reduceLT, Nat.reduceBEq, Int.reduceBEq, Int.reduceBNe, Int.reduceEq, Int.reduceLT, Int.reduceLE, Int.reduceGT, Int.reduceNeg, reduceCtorEq, GZ, h1, h2, hc, bne, zP, Ver.zero, Ver.enc, yf]
theorem l_at (s : Str) (b : UInt8) (hl : s.length ≤ 4194304) : ∀ (rest pre : Str), s = pre ++ rest →
    EV Tryz.prog pol (.loop 113 26 0 [.t (.str s), .t (.int .u8 (b.toNat : Int)), .t (.int .i64 (pre.length : Int))] []) = some (cond (yl b rest).2.2 (.loop .ret [.t (.int .i64 ((pre.length : Int) + ((yl b rest).1.length : Int)))] []) (.loop (.exit 0) [.bad] []))
  | [], pre, hs => by
    have c : decide ((pre.length : Int) < (s.length : Int)) = false := by simp [hs]
    refine zz Tryz.func113 rfl rfl ?_
    simp only [↓GO, ↓DRW, GA, ren, zB, zd, refs, zb, cst, zl, zH, z7, E.load, E.store, zG, isC, bin, zI, zJ, una, z8, za, zh, zK, blt, fnV, asArg, ze, zn, zo, zj, zi, zg, zk, zr, z6, zD, zF, mkS, zc, unN, zM, zm, zy, zC, zf, zN, zq, GS, Int.reduceToNat, Nat.reduceGT, ↓reduceIte, Nat.reduceAdd, Nat.reduceMul, Nat.reduceSub, Nat.reduceEqDiff, Nat.reduceLeDiff, Nat.reduceLT, Nat.reduceBEq, Int.reduceBEq, Int.reduceBNe, Int.reduceEq, Int.reduceLT, Int.reduceLE, Int.reduceGT, Int.reduceNeg, reduceCtorEq, c, yl]
  | x :: rest, pre, hs => by
    have c : decide ((pre.length : Int) < (s.length : Int)) = true := by simp [hs]; omega
    have hget : s[pre.length]? = some x := by rw [hs]; exact tn pre x rest
    have hlen : s.length = pre.length + rest.length + 1 := by rw [hs]; simp; omega
    have IH := l_at s b hl rest (pre ++ [x]) (by rw [hs]; simp)
    rw [show ((pre ++ [x]).length : Int) = (pre.length : Int) + 1 by simp] at IH
    rw [yl]
    clear hs
    by_cases hx : x = b
    · subst hx
      rw [if_pos rfl]
      refine zz Tryz.func113 rfl rfl ?_
      simp (disch := ((try simp only [LL]); omega)) only [↓GO, ↓DRW, GA, ren, zB, zd, refs, zb, cst, zl, zH, z7, E.load, E.store, zG, isC, bin, zI, zJ, una, z8, za, zh, zK, blt, fnV, asArg, ze, zn, zo, zj, zi, zg, zk, zr, z6, zD, zF, mkS, zc, unN, zM, zm, zy, zC, zf, zN, zq, GS, Int.reduceToNat, Nat.reduceGT, ↓reduceIte, Nat.reduceAdd, Nat.reduceMul, Nat.reduceSub, Nat.reduceEqDiff, Nat.reduceLeDiff, Nat.reduceLT, Nat.reduceBEq, Int.reduceBEq, Int.reduceBNe, Int.reduceEq, Int.reduceLT, Int.reduceLE, Int.reduceGT, Int.reduceNeg, reduceCtorEq, GZ, c, hget, zx, Int.natCast_zero, Int.add_zero]
    · have c2 : ((x.toNat : Int) == (b.toNat : Int)) = false := by
        rw [beq_eq_false_iff_ne]; intro e; exact hx (UInt8.toNat_inj.1 (by omega))
      rw [if_neg hx]
      rw [show (((x :: (yl b rest).1).length : Nat) : Int) = ((yl b rest).1.length : Int) + 1 by simp, show (pre.length : Int) + (((yl b rest).1.length : Int) + 1) = (pre.length : Int) + 1 + ((yl b rest).1.length : Int) by omega]
      refine zz Tryz.func113 rfl rfl ?_
      simp (disch := ((try simp only [LL]); omega)) only [↓GO, ↓DRW, GA, ren, zB, zd, refs, zb, cst, zl, zH, z7, E.load, E.store, zG, isC, bin, zI, zJ, una, z8, za, zh, zK, blt, fnV, asArg, ze, zn, zo, zj, zi, zg, zk, zr, z6, zD, zF, mkS, zc, unN, zM, zm, zy, zC, zf, zN, zq, GS, Int.reduceToNat, Nat.reduceGT, ↓reduceIte, Nat.reduceAdd, Nat.reduceMul, Nat.reduceSub, Nat.reduceEqDiff, Nat.reduceLeDiff, Nat.reduceLT, Nat.reduceBEq, Int.reduceBEq, Int.reduceBNe, Int.reduceEq, Int.reduceLT, Int.reduceLE, Int.reduceGT, Int.reduceNeg, reduceCtorEq, GZ, c, hget, zx, c2, IH]
def atV (b : UInt8) (s : Str) : Int := cond (yl b s).2.2 ((yl b s).1.length : Int) (-1)
theorem c_at (s : Str) (b : UInt8) (hl : s.length ≤ 4194304) : zE (EV Tryz.prog pol) 113 [.t (.str s), .t (.int .u8 (b.toNat : Int))] = some (.t (.int .i64 (atV b s))) := by
  have IH := l_at s b hl s [] rfl
  simp only [List.length_nil, Int.natCast_zero, Int.zero_add] at IH
  unfold atV
  apply zu
  refine zw rfl Tryz.func113 rfl (by kernel_rfl) ?_
  unfold Tryz.f113
  cases h : (yl b s).2.2 <;> rw [h] at IH <;> simp only [cond_true, cond_false] at IH <;> simp (disch := ((try simp only [LL]); omega)) only [↓GO, ↓DRW, GA, ren, zB, zd, refs, zb, cst, zl, zH, z7, E.load, E.store, zG, isC, bin, zI, zJ, una, z8, za, zh, zK, blt, fnV, asArg, ze, zn, zo, zj, zi, zg, zk, zr, z6, zD, zF, mkS, zc, unN, zM, zm, zy, zC, zf, zN, zq, GS, Int.reduceToNat, Nat.reduceGT, ↓reduceIte, Nat.reduceAdd, Nat.reduceMul, Nat.reduceSub, Nat.reduceEqDiff, Nat.reduceLeDiff, Nat.reduceLT, Nat.reduceBEq, Int.reduceBEq, Int.reduceBNe, Int.reduceEq, Int.reduceLT, Int.reduceLE, Int.reduceGT, Int.reduceNeg, reduceCtorEq, GZ, IH]
theorem oz (s : Str) (hl : s.length ≤ 1048700) : zE (EV Tryz.prog pol) 87 [.t (.str s)] = some (rvT s) := by
  have h1 := c_at s 45 (by omega)
  rw [show (((45 : UInt8)).toNat : Int) = 45 from rfl] at h1
  have hl1 := qt 45 s
  have h2 := mN (yl 45 s).1 46 (by omega)
  have h3 := mN (yl 45 s).2.1 46 (by omega)
  rw [show (((46 : UInt8)).toNat : Int) = 46 from rfl] at h2 h3
  have hce := sI 45 s
  unfold rvT zA
  unfold atV at h1
  have hA : (yl 45 s).2.2 = false → (yl 45 s).1 = s := fun h => by rw [h, cond_false, List.append_nil] at hce; exact hce.symm
  have hB : (yl 45 s).2.2 = true → s.take (yl 45 s).1.length = (yl 45 s).1 ∧ s.drop ((yl 45 s).1.length + 1) = (yl 45 s).2.1 ∧ (yl 45 s).1.length + 1 ≤ s.length := fun h => by
    rw [h, cond_true] at hce
    have e1 : s.take (yl 45 s).1.length = (yl 45 s).1 := by
      conv => lhs; arg 2; rw [hce]
      exact List.take_left
    have e2 : s.drop ((yl 45 s).1.length + 1) = (yl 45 s).2.1 := by
      conv => lhs; arg 2; rw [hce]
      rw [← List.drop_drop, List.drop_left]; rfl
    refine ⟨e1, e2, ?_⟩
    have := congrArg List.length hce
    rw [List.length_append, List.length_cons] at this
    omega
  clear hce
  by_cases hn : (yi 46 (yl 45 s).1).length = 3
  · obtain ⟨a, b, c, hp⟩ : ∃ a b c, yi 46 (yl 45 s).1 = [a, b, c] := by
      match hq : yi 46 (yl 45 s).1, hn with
      | [a, b, c], _ => exact ⟨a, b, c, rfl⟩
    have hm : xS s = some ⟨zO a, zO b, zO c, cond (yl 45 s).2.2 (yi 46 (yl 45 s).2.1) []⟩ := by unfold xS; rw [hp]
    have hsm := (mr hm hl).1
    have hbk := xL 46 (yl 45 s).1
    rw [hp] at h2 hbk
    simp only [yk] at hbk
    have d1 := ja a (by omega)
    have d2 := ja b (by omega)
    have d3 := ja c (by omega)
    have hv := ei _ hsm
    rw [hm]
    simp only [Ver.enc, List.map_cons, List.map_nil, xj, yf] at hv h2 ⊢
    generalize zO a = ra at *
    generalize zO b = rb at *
    generalize zO c = rc at *
    cases hh : (yl 45 s).2.2 <;> rw [hh] at h1 hv <;> simp only [cond_true, cond_false, yf] at hv h1 ⊢
    · have hA' := hA hh
      rw [hA'] at h2
      generalize yb ⟨ra, rb, rc, []⟩ = tt at *
      clear hm hsm hA hB hp
      cases he : (tt == s)
      · apply zu
        refine zw rfl Tryz.func87 rfl (by kernel_rfl) ?_
        unfold Tryz.f87
        simp (disch := ((try simp only [LL]); omega)) only [↓GO, ↓DRW, GA, ren, zB, zd, refs, zb, cst, zl, zH, z7, E.load, E.store, zG, isC, bin, zI, zJ, una, z8, za, zh, zK, blt, fnV, asArg, ze, zn, zo, zj, zi, zg, zk, zr, z6, zD, zF, mkS, zc, unN, zM, zm, zy, zC, zf, zN, zq, GS, Int.reduceToNat, Nat.reduceGT, ↓reduceIte, Nat.reduceAdd, Nat.reduceMul, Nat.reduceSub, Nat.reduceEqDiff, Nat.reduceLeDiff, Nat.reduceLT, Nat.reduceBEq, Int.reduceBEq, Int.reduceBNe, Int.reduceEq, Int.reduceLT, Int.reduceLE, Int.reduceGT, Int.reduceNeg, reduceCtorEq, GZ, h1, h2, d1, d2, d3, hv, he, bne, ge_iff_le, Ver.zero, yf]
      · apply zu
        refine zw rfl Tryz.func87 rfl (by kernel_rfl) ?_
        unfold Tryz.f87
        simp (disch := ((try simp only [LL]); omega)) only [↓GO, ↓DRW, GA, ren, zB, zd, refs, zb, cst, zl, zH, z7, E.load, E.store, zG, isC, bin, zI, zJ, una, z8, za, zh, zK, blt, fnV, asArg, ze, zn, zo, zj, zi, zg, zk, zr, z6, zD, zF, mkS, zc, unN, zM, zm, zy, zC, zf, zN, zq, GS, Int.reduceToNat, Nat.reduceGT, ↓reduceIte, Nat.reduceAdd, Nat.reduceMul, Nat.reduceSub, Nat.reduceEqDiff, Nat.reduceLeDiff, Nat.reduceLT, Nat.reduceBEq, Int.reduceBEq, Int.reduceBNe, Int.reduceEq, Int.reduceLT, Int.reduceLE, Int.reduceGT, Int.reduceNeg, reduceCtorEq, GZ, h1, h2, d1, d2, d3, hv, he, bne, ge_iff_le, yf]
    · obtain ⟨b1, b2, b3⟩ := hB hh
      generalize yb ⟨ra, rb, rc, yi 46 (yl 45 s).2.1⟩ = tt at *
      clear hm hsm hA hB hp
      generalize yi 46 (yl 45 s).2.1 = pp at *
      have g0 : decide ((0 : Int) ≤ ((yl 45 s).1.length : Int)) = true := by simp
      generalize (yl 45 s).2.1 = tl at *
      generalize (yl 45 s).1 = hd at *
      cases he : (tt == s)
      · apply zu
        refine zw rfl Tryz.func87 rfl (by kernel_rfl) ?_
        unfold Tryz.f87
        simp (disch := ((try simp only [LL]); omega)) only [↓GO, ↓DRW, GA, ren, zB, zd, refs, zb, cst, zl, zH, z7, E.load, E.store, zG, isC, bin, zI, zJ, una, z8, za, zh, zK, blt, fnV, asArg, ze, zn, zo, zj, zi, zg, zk, zr, z6, zD, zF, mkS, zc, unN, zM, zm, zy, zC, zf, zN, zq, GS, Int.reduceToNat, Nat.reduceGT, ↓reduceIte, Nat.reduceAdd, Nat.reduceMul, Nat.reduceSub, Nat.reduceEqDiff, Nat.reduceLeDiff, Nat.reduceLT, Nat.reduceBEq, Int.reduceBEq, Int.reduceBNe, Int.reduceEq, Int.reduceLT, Int.reduceLE, Int.reduceGT, Int.reduceNeg, reduceCtorEq, GZ, h1, h2, h3, d1, d2, d3, hv, he, bne, ge_iff_le, g0, b1, b2, zx, Ver.zero, yf]
      · apply zu
        refine zw rfl Tryz.func87 rfl (by kernel_rfl) ?_
        unfold Tryz.f87
        simp (disch := ((try simp only [LL]); omega)) only [↓GO, ↓DRW, GA, ren, zB, zd, refs, zb, cst, zl, zH, z7, E.load, E.store, zG, isC, bin, zI, zJ, una, z8, za, zh, zK, blt, fnV, asArg, ze, zn, zo, zj, zi, zg, zk, zr, z6, zD, zF, mkS, zc, unN, zM, zm, zy, zC, zf, zN, zq, GS, Int.reduceToNat, Nat.reduceGT, ↓reduceIte, Nat.reduceAdd, Nat.reduceMul, Nat.reduceSub, Nat.reduceEqDiff, Nat.reduceLeDiff, Nat.reduceLT, Nat.reduceBEq, Int.reduceBEq, Int.reduceBNe, Int.reduceEq, Int.reduceLT, Int.reduceLE, Int.reduceGT, Int.reduceNeg, reduceCtorEq, GZ, h1, h2, h3, d1, d2, d3, hv, he, bne, ge_iff_le, g0, b1, b2, zx]
  · have hm := ny hn
    rw [hm]
    have hc : (((yi 46 (yl 45 s).1).length : Int) == 3) = false := by rw [beq_eq_false_iff_ne]; omega
    cases hh : (yl 45 s).2.2 <;> rw [hh] at h1 <;> simp only [cond_true, cond_false] at h1
    · have hA' := hA hh
      rw [hA'] at h2 hc
      generalize yi 46 s = parts at *
      apply zu
      refine zw rfl Tryz.func87 rfl (by kernel_rfl) ?_
      unfold Tryz.f87
      simp (disch := ((try simp only [LL]); omega)) only [↓GO, ↓DRW, GA, ren, zB, zd, refs, zb, cst, zl, zH, z7, E.load, E.store, zG, isC, bin, zI, zJ, una, z8, za, zh, zK, blt, fnV, asArg, ze, zn, zo, zj, zi, zg, zk, zr, z6, zD, zF, mkS, zc, unN, zM, zm, zy, zC, zf, zN, zq, GS, Int.reduceToNat, Nat.reduceGT, ↓reduceIte, Nat.reduceAdd, Nat.reduceMul, Nat.reduceSub, Nat.reduceEqDiff, Nat.reduceLeDiff, Nat.reduceLT, Nat.reduceBEq, Int.reduceBEq, Int.reduceBNe, Int.reduceEq, Int.reduceLT, Int.reduceLE, Int.reduceGT, Int.reduceNeg, reduceCtorEq, GZ, h1, h2, hc, bne, ge_iff_le, zP, Ver.zero, Ver.enc, yf]
    · obtain ⟨b1, b2, b3⟩ := hB hh
      have g0 : decide ((0 : Int) ≤ ((yl 45 s).1.length : Int)) = true := by simp
      generalize yi 46 (yl 45 s).1 = parts at *
      generalize yi 46 (yl 45 s).2.1 = pp at *
      generalize (yl 45 s).2.1 = tl at *
      generalize (yl 45 s).1 = hd at *
      apply zu
      refine zw rfl Tryz.func87 rfl (by kernel_rfl) ?_
      unfold Tryz.f87
      simp (disch := ((try simp only [LL]); omega)) only [↓GO, ↓DRW, GA, ren, zB, zd, refs, zb, cst, zl, zH, z7, E.load, E.store, zG, isC, bin, zI, zJ, una, z8, za, zh, zK, blt, fnV, asArg, ze, zn, zo, zj, zi, zg, zk, zr, z6, zD, zF, mkS, zc, unN, zM, zm, zy, zC, zf, zN, zq, GS, Int.reduceToNat, Nat.reduceGT, ↓reduceIte, Nat.reduceAdd, Nat.reduceMul, Nat.reduceSub, Nat.reduceEqDiff, Nat.reduceLeDiff, Nat.reduceLT, Nat.reduceBEq, Int.reduceBEq, Int.reduceBNe, Int.reduceEq, Int.reduceLT, Int.reduceLE, Int.reduceGT, Int.reduceNeg, reduceCtorEq, GZ, h1, h2, h3, hc, bne, ge_iff_le, g0, b1, b2, zx, zP, Ver.zero, Ver.enc, yf]
end Go.Proofs.YtmcephnfcciloaaGreatDoor
/- The range of a version alone, by both. Conditions: those of each lemma. -/
namespace Go.Proofs.YtmcephnfcciloaaGreatDoor
open E
set_option linter.unusedSimpArgs false
set_option linter.unusedVariables false
set_option maxRecDepth 100000
theorem cV (a b c : Int) : Ver.sm ⟨a, b, c, [[48]]⟩ := by simp [Ver.sm, yk]
theorem mT (a b c : Int) : zE (EV Tryz.prog pol) 131 [.t (.int .i64 a), .t (.int .i64 b), .t (.int .i64 c)] = some (.t (.str (ye a b c))) := by
  have h := uE ⟨a, b, c, [[48]]⟩ (cV a b c)
  simp only [Ver.enc, List.map_cons, List.map_nil, xj, yf] at h
  unfold ye
  apply zu
  refine zw rfl Tryz.func131 rfl (by kernel_rfl) ?_
  unfold Tryz.f131
  simp (disch := ((try simp only [LL]); omega)) only [↓GO, ↓DRW, GA, ren, zB, zd, refs, zb, cst, zl, zH, z7, E.load, E.store, zG, isC, bin, zI, zJ, una, z8, za, zh, zK, blt, fnV, asArg, ze, zn, zo, zj, zi, zg, zk, zr, z6, zD, zF, mkS, zc, unN, zM, zm, zy, zC, zf, zN, zq, GS, Int.reduceToNat, Nat.reduceGT, ↓reduceIte, Nat.reduceAdd, Nat.reduceMul, Nat.reduceSub, Nat.reduceEqDiff, Nat.reduceLeDiff, Nat.reduceLT, Nat.reduceBEq, Int.reduceBEq, Int.reduceBNe, Int.reduceEq, Int.reduceLT, Int.reduceLE, Int.reduceGT, Int.reduceNeg, reduceCtorEq, GZ, h]
theorem aG (v : Ver) (hs : v.sm) (hp : v.pre.length + yk v.pre ≤ 2097150) (h0 : -1 ≤ v.pat) (h1 : v.pat ≤ 999999999) : zE (EV Tryz.prog pol) 124 [.agg (v.enc.map .t)] = some (.agg [.t (.str (yb v)), .t (.str (uJ v))]) := by
  have a1 := mT v.maj v.min (v.pat + 1)
  have a2 := uE v hs
  have hpv : (se v).sm := by
    unfold Ver.sm se
    simp only [List.length_append, List.length_cons, List.length_nil, mG, yk]; omega
  have a3 := uE (se v) hpv
  unfold Ver.sm at hs
  have a4 := XB (y6 v.pre) (by rw [zP]; omega)
  have ht : List.take (v.pre.length + 1) (y6 v.pre ++ [[T.str [48]]]) = y6 v.pre ++ [[T.str [48]]] := List.take_of_length_le (by simp [zP])
  have hg := jQ v.pre
  unfold uJ
  rw [show (se v).enc = [.int .i64 v.maj, .int .i64 v.min, .int .i64 v.pat, .list 1 (y6 v.pre ++ [[.str [48]]])] by unfold Ver.enc se; rw [uw]; rfl] at a3
  simp only [Ver.enc, List.map_cons, List.map_nil] at a2 a3 ⊢
  rw [zP] at a4
  generalize yb (se v) = tp at *
  generalize yb v = tv at *
  generalize ye v.maj v.min (v.pat + 1) = tz at *
  cases hb : (v.pre == []) <;> rw [hb] at hg <;> simp only [Bool.not_true, Bool.not_false] at hg
  · apply zu
    refine zw rfl Tryz.func124 rfl (by kernel_rfl) ?_
    unfold Tryz.f124
    simp (disch := ((try simp only [LL]); omega)) only [↓GO, ↓DRW, GA, ren, zB, zd, refs, zb, cst, zl, zH, z7, E.load, E.store, zG, isC, bin, zI, zJ, una, z8, za, zh, zK, blt, fnV, asArg, ze, zn, zo, zj, zi, zg, zk, zr, z6, zD, zF, mkS, zc, unN, zM, zm, zy, zC, zf, zN, zq, GS, Int.reduceToNat, Nat.reduceGT, ↓reduceIte, Nat.reduceAdd, Nat.reduceMul, Nat.reduceSub, Nat.reduceEqDiff, Nat.reduceLeDiff, Nat.reduceLT, Nat.reduceBEq, Int.reduceBEq, Int.reduceBNe, Int.reduceEq, Int.reduceLT, Int.reduceLE, Int.reduceGT, Int.reduceNeg, reduceCtorEq, GZ, a1, a2, a3, a4, ht, hg, zx, zP, wh, zY]
  · apply zu
    refine zw rfl Tryz.func124 rfl (by kernel_rfl) ?_
    unfold Tryz.f124
    simp (disch := ((try simp only [LL]); omega)) only [↓GO, ↓DRW, GA, ren, zB, zd, refs, zb, cst, zl, zH, z7, E.load, E.store, zG, isC, bin, zI, zJ, una, z8, za, zh, zK, blt, fnV, asArg, ze, zn, zo, zj, zi, zg, zk, zr, z6, zD, zF, mkS, zc, unN, zM, zm, zy, zC, zf, zN, zq, GS, Int.reduceToNat, Nat.reduceGT, ↓reduceIte, Nat.reduceAdd, Nat.reduceMul, Nat.reduceSub, Nat.reduceEqDiff, Nat.reduceLeDiff, Nat.reduceLT, Nat.reduceBEq, Int.reduceBEq, Int.reduceBNe, Int.reduceEq, Int.reduceLT, Int.reduceLE, Int.reduceGT, Int.reduceNeg, reduceCtorEq, GZ, a1, a2, a3, a4, ht, hg, zx, zP, wh, zY]
def exT (s : Str) : List (List T) := match x6 s with
  | some (l, h) => [[.str l, .str h]]
  | none => []
theorem pI (s : Str) (hl : s.length ≤ 1048700) : (zA s).1.pre.length + yk (zA s).1.pre ≤ 1048701 := by
  unfold zA
  cases hm : xS s with
  | none => simp [Ver.zero, yk]
  | some v =>
    have h : v.pre.length + yk v.pre ≤ 1048701 := by
      unfold xS at hm
      split at hm
      · cases hm
        have := xL 46 (yl 45 s).2.1
        have h5 := (qt 45 s).2
        cases (yl 45 s).2.2 with
        | true => simp only [cond_true]; omega
        | false => simp [yk]
      · cases hm
    simp only
    cases (yb v == s) with
    | true => exact h
    | false => simp [Ver.zero, yk]
theorem c_exI (s : Str) (hl : s.length ≤ 1048700) : zE (EV Tryz.prog pol) 92 [.t (.str s)] = some (.t (.list 2 (exT s))) := by
  have h1 := oA s hl
  obtain ⟨m1, m2, m3, m4, m5, m6, m7⟩ := yW s hl
  have hp := pI s hl
  have h2 := aG (zA s).1 m1 (by omega) m7 m6
  unfold exT x6
  unfold rvT at h1
  cases hk : (zA s).2 with
  | false =>
    rw [hk] at h1
    generalize (zA s).1 = v at *
    generalize yb v = tv at *
    generalize uJ v = hv at *
    simp only [Ver.enc, List.map_cons, List.map_nil] at h1 h2 ⊢
    apply zu
    refine zw rfl Tryz.func92 rfl (by kernel_rfl) ?_
    unfold Tryz.f92
    simp (disch := ((try simp only [LL]); omega)) only [↓GO, ↓DRW, GA, ren, zB, zd, refs, zb, cst, zl, zH, z7, E.load, E.store, zG, isC, bin, zI, zJ, una, z8, za, zh, zK, blt, fnV, asArg, ze, zn, zo, zj, zi, zg, zk, zr, z6, zD, zF, mkS, zc, unN, zM, zm, zy, zC, zf, zN, zq, GS, Int.reduceToNat, Nat.reduceGT, ↓reduceIte, Nat.reduceAdd, Nat.reduceMul, Nat.reduceSub, Nat.reduceEqDiff, Nat.reduceLeDiff, Nat.reduceLT, Nat.reduceBEq, Int.reduceBEq, Int.reduceBNe, Int.reduceEq, Int.reduceLT, Int.reduceLE, Int.reduceGT, Int.reduceNeg, reduceCtorEq, GZ, h1, h2]
  | true =>
    have ht := (yu hk).2.1
    rw [ht] at h2
    rw [hk] at h1
    generalize (zA s).1 = v at *
    generalize uJ v = hv at *
    simp only [Ver.enc, List.map_cons, List.map_nil] at h1 h2 ⊢
    cases he : (hv == [])
    · apply zu
      refine zw rfl Tryz.func92 rfl (by kernel_rfl) ?_
      unfold Tryz.f92
      simp (disch := ((try simp only [LL]); omega)) only [↓GO, ↓DRW, GA, ren, zB, zd, refs, zb, cst, zl, zH, z7, E.load, E.store, zG, isC, bin, zI, zJ, una, z8, za, zh, zK, blt, fnV, asArg, ze, zn, zo, zj, zi, zg, zk, zr, z6, zD, zF, mkS, zc, unN, zM, zm, zy, zC, zf, zN, zq, GS, Int.reduceToNat, Nat.reduceGT, ↓reduceIte, Nat.reduceAdd, Nat.reduceMul, Nat.reduceSub, Nat.reduceEqDiff, Nat.reduceLeDiff, Nat.reduceLT, Nat.reduceBEq, Int.reduceBEq, Int.reduceBNe, Int.reduceEq, Int.reduceLT, Int.reduceLE, Int.reduceGT, Int.reduceNeg, reduceCtorEq, GZ, h1, h2, he]
    · apply zu
      refine zw rfl Tryz.func92 rfl (by kernel_rfl) ?_
      unfold Tryz.f92
      simp (disch := ((try simp only [LL]); omega)) only [↓GO, ↓DRW, GA, ren, zB, zd, refs, zb, cst, zl, zH, z7, E.load, E.store, zG, isC, bin, zI, zJ, una, z8, za, zh, zK, blt, fnV, asArg, ze, zn, zo, zj, zi, zg, zk, zr, z6, zD, zF, mkS, zc, unN, zM, zm, zy, zC, zf, zN, zq, GS, Int.reduceToNat, Nat.reduceGT, ↓reduceIte, Nat.reduceAdd, Nat.reduceMul, Nat.reduceSub, Nat.reduceEqDiff, Nat.reduceLeDiff, Nat.reduceLT, Nat.reduceBEq, Int.reduceBEq, Int.reduceBNe, Int.reduceEq, Int.reduceLT, Int.reduceLE, Int.reduceGT, Int.reduceNeg, reduceCtorEq, GZ, h1, h2, he]
end Go.Proofs.YtmcephnfcciloaaGreatDoor
/- Versions compared, the next one, the range of one alone, by the reference. Conditions: those of each lemma. -/
namespace Go.Proofs.YtmcephnfcciloaaGreatDoor
open E
set_option linter.unusedSimpArgs false
set_option linter.unusedVariables false
set_option maxRecDepth 100000
theorem pB (a b : Int) : zE (EV Tryz.prog pol) 154 [.t (.int .i64 a), .t (.int .i64 b)] = some (.t (.int .i64 (x9 a b))) := by
  unfold x9
  cases h1 : decide (a < b) <;> cases h2 : decide (a > b)
  all_goals
    apply zu
    refine zw rfl Tryz.func154 rfl (by kernel_rfl) ?_
    unfold Tryz.f154
    simp (disch := ((try simp only [LL]); omega)) only [↓GO, ↓DRW, GA, ren, zB, zd, refs, zb, cst, zl, zH, z7, E.load, E.store, zG, isC, bin, zI, zJ, una, z8, za, zh, zK, blt, fnV, asArg, ze, zn, zo, zj, zi, zg, zk, zr, z6, zD, zF, mkS, zc, unN, zM, zm, zy, zC, zf, zN, zq, GS, Int.reduceToNat, Nat.reduceGT, ↓reduceIte, Nat.reduceAdd, Nat.reduceMul, Nat.reduceSub, Nat.reduceEqDiff, Nat.reduceLeDiff, Nat.reduceLT, Nat.reduceBEq, Int.reduceBEq, Int.reduceBNe, Int.reduceEq, Int.reduceLT, Int.reduceLE, Int.reduceGT, Int.reduceNeg, reduceCtorEq, GZ, h1, h2]
theorem UE (a b : Str) : zE (EV Tryz.prog pol) 176 [.t (.str a), .t (.str b)] = some (.t (.int .i64 (nN a b))) := by
  unfold nN
  cases h1 : Op.bytesLess a b <;> cases h2 : (a == b)
  all_goals
    apply zu
    refine zw rfl Tryz.func176 rfl (by kernel_rfl) ?_
    unfold Tryz.f176
    simp (disch := ((try simp only [LL]); omega)) only [↓GO, ↓DRW, GA, ren, zB, zd, refs, zb, cst, zl, zH, z7, E.load, E.store, zG, isC, bin, zI, zJ, una, z8, za, zh, zK, blt, fnV, asArg, ze, zn, zo, zj, zi, zg, zk, zr, z6, zD, zF, mkS, zc, unN, zM, zm, zy, zC, zf, zN, zq, GS, Int.reduceToNat, Nat.reduceGT, ↓reduceIte, Nat.reduceAdd, Nat.reduceMul, Nat.reduceSub, Nat.reduceEqDiff, Nat.reduceLeDiff, Nat.reduceLT, Nat.reduceBEq, Int.reduceBEq, Int.reduceBNe, Int.reduceEq, Int.reduceLT, Int.reduceLE, Int.reduceGT, Int.reduceNeg, reduceCtorEq, GZ, h1, h2]
theorem S4 (a b : Str) (ha : a.length ≤ 4194304) (hb : b.length ≤ 4194304) : zE (EV Tryz.prog pol) 155 [.t (.str a), .t (.str b)] = some (.t (.int .i64 (az a b))) := by
  have d1 := ja a (by omega)
  have d2 := ja b (by omega)
  have d3 := pB (zO a) (zO b)
  have d4 := UE a b
  unfold az
  generalize zO a = ra at *
  generalize zO b = rb at *
  cases h1 : decide (ra ≥ 0) <;> cases h2 : decide (rb ≥ 0)
  all_goals
    apply zu
    refine zw rfl Tryz.func155 rfl (by kernel_rfl) ?_
    unfold Tryz.f155
    simp (disch := ((try simp only [LL]); omega)) only [↓GO, ↓DRW, GA, ren, zB, zd, refs, zb, cst, zl, zH, z7, E.load, E.store, zG, isC, bin, zI, zJ, una, z8, za, zh, zK, blt, fnV, asArg, ze, zn, zo, zj, zi, zg, zk, zr, z6, zD, zF, mkS, zc, unN, zM, zm, zy, zC, zf, zN, zq, GS, Int.reduceToNat, Nat.reduceGT, ↓reduceIte, Nat.reduceAdd, Nat.reduceMul, Nat.reduceSub, Nat.reduceEqDiff, Nat.reduceLeDiff, Nat.reduceLT, Nat.reduceBEq, Int.reduceBEq, Int.reduceBNe, Int.reduceEq, Int.reduceLT, Int.reduceLE, Int.reduceGT, Int.reduceNeg, reduceCtorEq, GZ, d1, d2, d3, d4, h1, h2]
theorem TQ (x1 x2 x3 x4 y1 y2 y3 y4 : T) (a b c : Int) :
    EV Tryz.prog pol (.loop 117 58 0 [.ptr 0 0 0, .ptr 1 0 0, .sl 2 0 3 (some 3), .t (.int .i64 0)] [.vs 4 [[.t x1, .t x2, .t x3, .t x4]], .vs 4 [[.t y1, .t y2, .t y3, .t y4]], .ts 1 [[.int .i64 a], [.int .i64 b], [.int .i64 c]]])
    = some (cond (a == 0) (cond (b == 0) (cond (c == 0) (.loop (.exit 0) [.ptr 0 0 0, .ptr 1 0 0, .bad] [.vs 4 [[.t x1, .t x2, .t x3, .t x4]], .vs 4 [[.t y1, .t y2, .t y3, .t y4]]])
      (.loop .ret [.ptr 0 0 0, .ptr 1 0 0, .t (.int .i64 c)] [.vs 4 [[.t x1, .t x2, .t x3, .t x4]], .vs 4 [[.t y1, .t y2, .t y3, .t y4]]]))
      (.loop .ret [.ptr 0 0 0, .ptr 1 0 0, .t (.int .i64 b)] [.vs 4 [[.t x1, .t x2, .t x3, .t x4]], .vs 4 [[.t y1, .t y2, .t y3, .t y4]]]))
      (.loop .ret [.ptr 0 0 0, .ptr 1 0 0, .t (.int .i64 a)] [.vs 4 [[.t x1, .t x2, .t x3, .t x4]], .vs 4 [[.t y1, .t y2, .t y3, .t y4]]])) := by
  cases h1 : (a == 0)
  · refine zz Tryz.func117 rfl rfl ?_
    simp (disch := ((try simp only [LL]); omega)) only [↓GO, ↓DRW, GA, ren, zB, zd, refs, zb, cst, zl, zH, z7, E.load, E.store, zG, isC, bin, zI, zJ, una, z8, za, zh, zK, blt, fnV, asArg, ze, zn, zo, zj, zi, zg, zk, zr, z6, zD, zF, mkS, zc, unN, zM, zm, zy, zC, zf, zN, zq, GS, Int.reduceToNat, Nat.reduceGT, ↓reduceIte, Nat.reduceAdd, Nat.reduceMul, Nat.reduceSub, Nat.reduceEqDiff, Nat.reduceLeDiff, Nat.reduceLT, Nat.reduceBEq, Int.reduceBEq, Int.reduceBNe, Int.reduceEq, Int.reduceLT, Int.reduceLE, Int.reduceGT, Int.reduceNeg, reduceCtorEq, GZ, h1, bne, zx, zY]
  · refine zz Tryz.func117 rfl rfl ?_
    simp (disch := ((try simp only [LL]); omega)) only [↓GO, ↓DRW, GA, ren, zB, zd, refs, zb, cst, zl, zH, z7, E.load, E.store, zG, isC, bin, zI, zJ, una, z8, za, zh, zK, blt, fnV, asArg, ze, zn, zo, zj, zi, zg, zk, zr, z6, zD, zF, mkS, zc, unN, zM, zm, zy, zC, zf, zN, zq, GS, Int.reduceToNat, Nat.reduceGT, ↓reduceIte, Nat.reduceAdd, Nat.reduceMul, Nat.reduceSub, Nat.reduceEqDiff, Nat.reduceLeDiff, Nat.reduceLT, Nat.reduceBEq, Int.reduceBEq, Int.reduceBNe, Int.reduceEq, Int.reduceLT, Int.reduceLE, Int.reduceGT, Int.reduceNeg, reduceCtorEq, GZ, h1, bne, zx, zY, Int.zero_add]
    cases h2 : (b == 0)
    · refine zz Tryz.func117 rfl rfl ?_
      simp (disch := ((try simp only [LL]); omega)) only [↓GO, ↓DRW, GA, ren, zB, zd, refs, zb, cst, zl, zH, z7, E.load, E.store, zG, isC, bin, zI, zJ, una, z8, za, zh, zK, blt, fnV, asArg, ze, zn, zo, zj, zi, zg, zk, zr, z6, zD, zF, mkS, zc, unN, zM, zm, zy, zC, zf, zN, zq, GS, Int.reduceToNat, Nat.reduceGT, ↓reduceIte, Nat.reduceAdd, Nat.reduceMul, Nat.reduceSub, Nat.reduceEqDiff, Nat.reduceLeDiff, Nat.reduceLT, Nat.reduceBEq, Int.reduceBEq, Int.reduceBNe, Int.reduceEq, Int.reduceLT, Int.reduceLE, Int.reduceGT, Int.reduceNeg, reduceCtorEq, GZ, h2, bne, zx, zY]
    · refine zz Tryz.func117 rfl rfl ?_
      simp (disch := ((try simp only [LL]); omega)) only [↓GO, ↓DRW, GA, ren, zB, zd, refs, zb, cst, zl, zH, z7, E.load, E.store, zG, isC, bin, zI, zJ, una, z8, za, zh, zK, blt, fnV, asArg, ze, zn, zo, zj, zi, zg, zk, zr, z6, zD, zF, mkS, zc, unN, zM, zm, zy, zC, zf, zN, zq, GS, Int.reduceToNat, Nat.reduceGT, ↓reduceIte, Nat.reduceAdd, Nat.reduceMul, Nat.reduceSub, Nat.reduceEqDiff, Nat.reduceLeDiff, Nat.reduceLT, Nat.reduceBEq, Int.reduceBEq, Int.reduceBNe, Int.reduceEq, Int.reduceLT, Int.reduceLE, Int.reduceGT, Int.reduceNeg, reduceCtorEq, GZ, h2, bne, zx, zY, Int.reduceAdd]
      cases h3 : (c == 0)
      · refine zz Tryz.func117 rfl rfl ?_
        simp (disch := ((try simp only [LL]); omega)) only [↓GO, ↓DRW, GA, ren, zB, zd, refs, zb, cst, zl, zH, z7, E.load, E.store, zG, isC, bin, zI, zJ, una, z8, za, zh, zK, blt, fnV, asArg, ze, zn, zo, zj, zi, zg, zk, zr, z6, zD, zF, mkS, zc, unN, zM, zm, zy, zC, zf, zN, zq, GS, Int.reduceToNat, Nat.reduceGT, ↓reduceIte, Nat.reduceAdd, Nat.reduceMul, Nat.reduceSub, Nat.reduceEqDiff, Nat.reduceLeDiff, Nat.reduceLT, Nat.reduceBEq, Int.reduceBEq, Int.reduceBNe, Int.reduceEq, Int.reduceLT, Int.reduceLE, Int.reduceGT, Int.reduceNeg, reduceCtorEq, GZ, h3, bne, zx, zY]
      · refine zz Tryz.func117 rfl rfl ?_
        simp (disch := ((try simp only [LL]); omega)) only [↓GO, ↓DRW, GA, ren, zB, zd, refs, zb, cst, zl, zH, z7, E.load, E.store, zG, isC, bin, zI, zJ, una, z8, za, zh, zK, blt, fnV, asArg, ze, zn, zo, zj, zi, zg, zk, zr, z6, zD, zF, mkS, zc, unN, zM, zm, zy, zC, zf, zN, zq, GS, Int.reduceToNat, Nat.reduceGT, ↓reduceIte, Nat.reduceAdd, Nat.reduceMul, Nat.reduceSub, Nat.reduceEqDiff, Nat.reduceLeDiff, Nat.reduceLT, Nat.reduceBEq, Int.reduceBEq, Int.reduceBNe, Int.reduceEq, Int.reduceLT, Int.reduceLE, Int.reduceGT, Int.reduceNeg, reduceCtorEq, GZ, h3, bne, zx, zY, Int.reduceAdd]
        refine zz Tryz.func117 rfl rfl ?_
        simp (disch := ((try simp only [LL]); omega)) only [↓GO, ↓DRW, GA, ren, zB, zd, refs, zb, cst, zl, zH, z7, E.load, E.store, zG, isC, bin, zI, zJ, una, z8, za, zh, zK, blt, fnV, asArg, ze, zn, zo, zj, zi, zg, zk, zr, z6, zD, zF, mkS, zc, unN, zM, zm, zy, zC, zf, zN, zq, GS, Int.reduceToNat, Nat.reduceGT, ↓reduceIte, Nat.reduceAdd, Nat.reduceMul, Nat.reduceSub, Nat.reduceEqDiff, Nat.reduceLeDiff, Nat.reduceLT, Nat.reduceBEq, Int.reduceBEq, Int.reduceBNe, Int.reduceEq, Int.reduceLT, Int.reduceLE, Int.reduceGT, Int.reduceNeg, reduceCtorEq, GZ, zx, zY]
theorem Vf (a b : Ver) (ha : a.sm) (hb : b.sm) : ∀ (ra rb pa pb : List Str), a.pre = pa ++ ra → b.pre = pb ++ rb → pa.length = pb.length →
    EV Tryz.prog pol (.loop 117 250 0 [.ptr 0 0 0, .ptr 1 0 0, .t (.int .i64 (pa.length : Int))] [.vs 4 [a.enc.map .t], .vs 4 [b.enc.map .t]])
    = some (match rI ra rb with
      | some n => .loop .ret [.ptr 0 0 0, .ptr 1 0 0, .t (.int .i64 n)] [.vs 4 [a.enc.map .t], .vs 4 [b.enc.map .t]]
      | none => .loop (.exit 2) [.ptr 0 0 0, .ptr 1 0 0, .bad] [.vs 4 [a.enc.map .t], .vs 4 [b.enc.map .t]])
  | [], rb, pa, pb, h1, h2, h3 => by
    have c : decide ((pa.length : Int) < (a.pre.length : Int)) = false := by simp [h1]
    simp only [Ver.enc, List.map_cons, List.map_nil, rI]
    refine zz Tryz.func117 rfl rfl ?_
    simp (disch := ((try simp only [LL]); omega)) only [↓GO, ↓DRW, GA, ren, zB, zd, refs, zb, cst, zl, zH, z7, E.load, E.store, zG, isC, bin, zI, zJ, una, z8, za, zh, zK, blt, fnV, asArg, ze, zn, zo, zj, zi, zg, zk, zr, z6, zD, zF, mkS, zc, unN, zM, zm, zy, zC, zf, zN, zq, GS, Int.reduceToNat, Nat.reduceGT, ↓reduceIte, Nat.reduceAdd, Nat.reduceMul, Nat.reduceSub, Nat.reduceEqDiff, Nat.reduceLeDiff, Nat.reduceLT, Nat.reduceBEq, Int.reduceBEq, Int.reduceBNe, Int.reduceEq, Int.reduceLT, Int.reduceLE, Int.reduceGT, Int.reduceNeg, reduceCtorEq, GZ, zP, c, zY]
  | x :: ra, [], pa, pb, h1, h2, h3 => by
    have c : decide ((pa.length : Int) < (a.pre.length : Int)) = true := by simp [h1]; omega
    have c2 : decide ((pa.length : Int) < (b.pre.length : Int)) = false := by simp [h2]; omega
    simp only [Ver.enc, List.map_cons, List.map_nil, rI]
    refine zz Tryz.func117 rfl rfl ?_
    simp (disch := ((try simp only [LL]); omega)) only [↓GO, ↓DRW, GA, ren, zB, zd, refs, zb, cst, zl, zH, z7, E.load, E.store, zG, isC, bin, zI, zJ, una, z8, za, zh, zK, blt, fnV, asArg, ze, zn, zo, zj, zi, zg, zk, zr, z6, zD, zF, mkS, zc, unN, zM, zm, zy, zC, zf, zN, zq, GS, Int.reduceToNat, Nat.reduceGT, ↓reduceIte, Nat.reduceAdd, Nat.reduceMul, Nat.reduceSub, Nat.reduceEqDiff, Nat.reduceLeDiff, Nat.reduceLT, Nat.reduceBEq, Int.reduceBEq, Int.reduceBNe, Int.reduceEq, Int.reduceLT, Int.reduceLE, Int.reduceGT, Int.reduceNeg, reduceCtorEq, GZ, zP, c, c2, zY]
  | x :: ra, y :: rb, pa, pb, h1, h2, h3 => by
    unfold Ver.sm at ha hb
    have c : decide ((pa.length : Int) < (a.pre.length : Int)) = true := by simp [h1]; omega
    have c2 : decide ((pa.length : Int) < (b.pre.length : Int)) = true := by simp [h2]; omega
    have hg1 : (y6 a.pre)[pa.length]? = some [.str x] := by rw [h1]; exact xU pa x ra
    have hg2 : (y6 b.pre)[pa.length]? = some [.str y] := by rw [h2, h3]; exact xU pb y rb
    have hlen : pa.length + ra.length + 1 ≤ a.pre.length := by rw [h1]; simp; omega
    have hx : x.length ≤ 2097152 := by have := xX (ks := a.pre) (s := x) (by rw [h1]; simp); omega
    have hy : y.length ≤ 2097152 := by have := xX (ks := b.pre) (s := y) (by rw [h2]; simp); omega
    have hp := S4 x y (by omega) (by omega)
    have IH := Vf a b ha hb ra rb (pa ++ [x]) (pb ++ [y]) (by rw [h1]; simp) (by rw [h2]; simp) (by simp [h3])
    rw [show ((pa ++ [x]).length : Int) = (pa.length : Int) + 1 by simp] at IH
    clear h1 h2
    simp only [Ver.enc, List.map_cons, List.map_nil] at IH ⊢
    rw [rI]
    generalize az x y = n at *
    cases hn : (n == 0)
    · simp only [cond_false]
      refine zz Tryz.func117 rfl rfl ?_
      simp (disch := ((try simp only [LL]); omega)) only [↓GO, ↓DRW, GA, ren, zB, zd, refs, zb, cst, zl, zH, z7, E.load, E.store, zG, isC, bin, zI, zJ, una, z8, za, zh, zK, blt, fnV, asArg, ze, zn, zo, zj, zi, zg, zk, zr, z6, zD, zF, mkS, zc, unN, zM, zm, zy, zC, zf, zN, zq, GS, Int.reduceToNat, Nat.reduceGT, ↓reduceIte, Nat.reduceAdd, Nat.reduceMul, Nat.reduceSub, Nat.reduceEqDiff, Nat.reduceLeDiff, Nat.reduceLT, Nat.reduceBEq, Int.reduceBEq, Int.reduceBNe, Int.reduceEq, Int.reduceLT, Int.reduceLE, Int.reduceGT, Int.reduceNeg, reduceCtorEq, GZ, zP, c, c2, hg1, hg2, hp, hn, bne, zx, zY]
    · simp only [cond_true]
      refine zz Tryz.func117 rfl rfl ?_
      simp (disch := ((try simp only [LL]); omega)) only [↓GO, ↓DRW, GA, ren, zB, zd, refs, zb, cst, zl, zH, z7, E.load, E.store, zG, isC, bin, zI, zJ, una, z8, za, zh, zK, blt, fnV, asArg, ze, zn, zo, zj, zi, zg, zk, zr, z6, zD, zF, mkS, zc, unN, zM, zm, zy, zC, zf, zN, zq, GS, Int.reduceToNat, Nat.reduceGT, ↓reduceIte, Nat.reduceAdd, Nat.reduceMul, Nat.reduceSub, Nat.reduceEqDiff, Nat.reduceLeDiff, Nat.reduceLT, Nat.reduceBEq, Int.reduceBEq, Int.reduceBNe, Int.reduceEq, Int.reduceLT, Int.reduceLE, Int.reduceGT, Int.reduceNeg, reduceCtorEq, GZ, zP, c, c2, hg1, hg2, hp, hn, bne, zx, zY, IH]
theorem cN (a b : Ver) (ha : a.sm) (hb : b.sm) : zE (EV Tryz.prog pol) 117 [.agg (a.enc.map .t), .agg (b.enc.map .t)] = some (.t (.int .i64 (rN a b))) := by
  have d1 := pB a.maj b.maj
  have d2 := pB a.min b.min
  have d3 := pB a.pat b.pat
  have d4 := pB (b.pre.length : Int) (a.pre.length : Int)
  have d5 := pB (a.pre.length : Int) (b.pre.length : Int)
  have L2 := Vf a b ha hb a.pre b.pre [] [] rfl rfl rfl
  have L1 := TQ (.int .i64 a.maj) (.int .i64 a.min) (.int .i64 a.pat) (.list 1 (y6 a.pre)) (.int .i64 b.maj) (.int .i64 b.min) (.int .i64 b.pat) (.list 1 (y6 b.pre)) (x9 a.maj b.maj) (x9 a.min b.min) (x9 a.pat b.pat)
  have e1 := u0 a.pre
  have e2 := u0 b.pre
  unfold rN VE
  simp only [List.length_nil, Int.natCast_zero] at L2
  simp only [Ver.enc, List.map_cons, List.map_nil] at L1 L2 ⊢
  generalize x9 a.maj b.maj = n1 at *
  generalize x9 a.min b.min = n2 at *
  generalize x9 a.pat b.pat = n3 at *
  cases h1 : (n1 == 0) <;> rw [h1] at L1
  · simp only [cond_false] at L1
    apply zu
    refine zw rfl Tryz.func117 rfl (by kernel_rfl) ?_
    unfold Tryz.f117
    simp (disch := ((try simp only [LL]); omega)) only [↓GO, ↓DRW, GA, ren, zB, zd, refs, zb, cst, zl, zH, z7, E.load, E.store, zG, isC, bin, zI, zJ, una, z8, za, zh, zK, blt, fnV, asArg, ze, zn, zo, zj, zi, zg, zk, zr, z6, zD, zF, mkS, zc, unN, zM, zm, zy, zC, zf, zN, zq, GS, Int.reduceToNat, Nat.reduceGT, ↓reduceIte, Nat.reduceAdd, Nat.reduceMul, Nat.reduceSub, Nat.reduceEqDiff, Nat.reduceLeDiff, Nat.reduceLT, Nat.reduceBEq, Int.reduceBEq, Int.reduceBNe, Int.reduceEq, Int.reduceLT, Int.reduceLE, Int.reduceGT, Int.reduceNeg, reduceCtorEq, GZ, d1, d2, d3, L1, zY]
    refine yT (by kernel_rfl) ?_
    simp (disch := ((try simp only [LL]); omega)) only [↓GO, ↓DRW, GA, ren, zB, zd, refs, zb, cst, zl, zH, z7, E.load, E.store, zG, isC, bin, zI, zJ, una, z8, za, zh, zK, blt, fnV, asArg, ze, zn, zo, zj, zi, zg, zk, zr, z6, zD, zF, mkS, zc, unN, zM, zm, zy, zC, zf, zN, zq, GS, Int.reduceToNat, Nat.reduceGT, ↓reduceIte, Nat.reduceAdd, Nat.reduceMul, Nat.reduceSub, Nat.reduceEqDiff, Nat.reduceLeDiff, Nat.reduceLT, Nat.reduceBEq, Int.reduceBEq, Int.reduceBNe, Int.reduceEq, Int.reduceLT, Int.reduceLE, Int.reduceGT, Int.reduceNeg, reduceCtorEq, GZ, d1, d2, d3, L1, zY]
  · cases h2 : (n2 == 0) <;> rw [h2] at L1
    · simp only [cond_false, cond_true] at L1
      apply zu
      refine zw rfl Tryz.func117 rfl (by kernel_rfl) ?_
      unfold Tryz.f117
      simp (disch := ((try simp only [LL]); omega)) only [↓GO, ↓DRW, GA, ren, zB, zd, refs, zb, cst, zl, zH, z7, E.load, E.store, zG, isC, bin, zI, zJ, una, z8, za, zh, zK, blt, fnV, asArg, ze, zn, zo, zj, zi, zg, zk, zr, z6, zD, zF, mkS, zc, unN, zM, zm, zy, zC, zf, zN, zq, GS, Int.reduceToNat, Nat.reduceGT, ↓reduceIte, Nat.reduceAdd, Nat.reduceMul, Nat.reduceSub, Nat.reduceEqDiff, Nat.reduceLeDiff, Nat.reduceLT, Nat.reduceBEq, Int.reduceBEq, Int.reduceBNe, Int.reduceEq, Int.reduceLT, Int.reduceLE, Int.reduceGT, Int.reduceNeg, reduceCtorEq, GZ, d1, d2, d3, L1, zY]
      refine yT (by kernel_rfl) ?_
      simp (disch := ((try simp only [LL]); omega)) only [↓GO, ↓DRW, GA, ren, zB, zd, refs, zb, cst, zl, zH, z7, E.load, E.store, zG, isC, bin, zI, zJ, una, z8, za, zh, zK, blt, fnV, asArg, ze, zn, zo, zj, zi, zg, zk, zr, z6, zD, zF, mkS, zc, unN, zM, zm, zy, zC, zf, zN, zq, GS, Int.reduceToNat, Nat.reduceGT, ↓reduceIte, Nat.reduceAdd, Nat.reduceMul, Nat.reduceSub, Nat.reduceEqDiff, Nat.reduceLeDiff, Nat.reduceLT, Nat.reduceBEq, Int.reduceBEq, Int.reduceBNe, Int.reduceEq, Int.reduceLT, Int.reduceLE, Int.reduceGT, Int.reduceNeg, reduceCtorEq, GZ, d1, d2, d3, L1, zY]
    · cases h3 : (n3 == 0) <;> rw [h3] at L1
      · simp only [cond_false, cond_true] at L1
        apply zu
        refine zw rfl Tryz.func117 rfl (by kernel_rfl) ?_
        unfold Tryz.f117
        simp (disch := ((try simp only [LL]); omega)) only [↓GO, ↓DRW, GA, ren, zB, zd, refs, zb, cst, zl, zH, z7, E.load, E.store, zG, isC, bin, zI, zJ, una, z8, za, zh, zK, blt, fnV, asArg, ze, zn, zo, zj, zi, zg, zk, zr, z6, zD, zF, mkS, zc, unN, zM, zm, zy, zC, zf, zN, zq, GS, Int.reduceToNat, Nat.reduceGT, ↓reduceIte, Nat.reduceAdd, Nat.reduceMul, Nat.reduceSub, Nat.reduceEqDiff, Nat.reduceLeDiff, Nat.reduceLT, Nat.reduceBEq, Int.reduceBEq, Int.reduceBNe, Int.reduceEq, Int.reduceLT, Int.reduceLE, Int.reduceGT, Int.reduceNeg, reduceCtorEq, GZ, d1, d2, d3, L1, zY]
        refine yT (by kernel_rfl) ?_
        simp (disch := ((try simp only [LL]); omega)) only [↓GO, ↓DRW, GA, ren, zB, zd, refs, zb, cst, zl, zH, z7, E.load, E.store, zG, isC, bin, zI, zJ, una, z8, za, zh, zK, blt, fnV, asArg, ze, zn, zo, zj, zi, zg, zk, zr, z6, zD, zF, mkS, zc, unN, zM, zm, zy, zC, zf, zN, zq, GS, Int.reduceToNat, Nat.reduceGT, ↓reduceIte, Nat.reduceAdd, Nat.reduceMul, Nat.reduceSub, Nat.reduceEqDiff, Nat.reduceLeDiff, Nat.reduceLT, Nat.reduceBEq, Int.reduceBEq, Int.reduceBNe, Int.reduceEq, Int.reduceLT, Int.reduceLE, Int.reduceGT, Int.reduceNeg, reduceCtorEq, GZ, d1, d2, d3, L1, zY]
      · simp only [cond_true] at L1
        cases hs : rI a.pre b.pre <;> rw [hs] at L2 <;> simp only at L2 <;> cases h4 : (a.pre == []) <;> cases h5 : (b.pre == []) <;> rw [h4] at e1 <;> rw [h5] at e2
        all_goals
          apply zu
          refine zw rfl Tryz.func117 rfl (by kernel_rfl) ?_
          unfold Tryz.f117
          simp (disch := ((try simp only [LL]); omega)) only [↓GO, ↓DRW, GA, ren, zB, zd, refs, zb, cst, zl, zH, z7, E.load, E.store, zG, isC, bin, zI, zJ, una, z8, za, zh, zK, blt, fnV, asArg, ze, zn, zo, zj, zi, zg, zk, zr, z6, zD, zF, mkS, zc, unN, zM, zm, zy, zC, zf, zN, zq, GS, Int.reduceToNat, Nat.reduceGT, ↓reduceIte, Nat.reduceAdd, Nat.reduceMul, Nat.reduceSub, Nat.reduceEqDiff, Nat.reduceLeDiff, Nat.reduceLT, Nat.reduceBEq, Int.reduceBEq, Int.reduceBNe, Int.reduceEq, Int.reduceLT, Int.reduceLE, Int.reduceGT, Int.reduceNeg, reduceCtorEq, GZ, d1, d2, d3, d4, d5, L1, L2, zP, e1, e2, zY]
          refine yT (by kernel_rfl) ?_
          simp (disch := ((try simp only [LL]); omega)) only [↓GO, ↓DRW, GA, ren, zB, zd, refs, zb, cst, zl, zH, z7, E.load, E.store, zG, isC, bin, zI, zJ, una, z8, za, zh, zK, blt, fnV, asArg, ze, zn, zo, zj, zi, zg, zk, zr, z6, zD, zF, mkS, zc, unN, zM, zm, zy, zC, zf, zN, zq, GS, Int.reduceToNat, Nat.reduceGT, ↓reduceIte, Nat.reduceAdd, Nat.reduceMul, Nat.reduceSub, Nat.reduceEqDiff, Nat.reduceLeDiff, Nat.reduceLT, Nat.reduceBEq, Int.reduceBEq, Int.reduceBNe, Int.reduceEq, Int.reduceLT, Int.reduceLE, Int.reduceGT, Int.reduceNeg, reduceCtorEq, GZ, d1, d2, d3, d4, d5, L1, L2, zP, e1, e2, zY, Option.getD_some, Option.getD_none]
end Go.Proofs.YtmcephnfcciloaaGreatDoor
/- The next version, the range of one alone, by the reference. Conditions: those of each lemma. -/
namespace Go.Proofs.YtmcephnfcciloaaGreatDoor
open E
set_option linter.unusedSimpArgs false
set_option linter.unusedVariables false
set_option maxRecDepth 100000
theorem Ta (v : Ver) (p : Int) : (upV v p).sm := by
  unfold upV
  cases (p == 0) <;> cases (p == 1) <;> simp [Ver.sm, yk]
theorem Ua {v : Ver} (h : v.sm) (p : Int) : (wQ v p).sm := by
  unfold wQ
  cases (!(yv v) || !(B2 p 0 2)) <;> cases yv (upV v p) <;> simp only [cond_true, cond_false] <;> first | exact h | exact Ta v p
theorem S5 (v : Ver) (p : Int) (hs : v.sm) (hp : p = 0 ∨ p = 1 ∨ p = 2) (h1 : -1 ≤ v.maj ∧ v.maj ≤ 999999999) (h2 : -1 ≤ v.min ∧ v.min ≤ 999999999) (h3 : -1 ≤ v.pat ∧ v.pat ≤ 999999999) :
    zE (EV Tryz.prog pol) 174 [.agg (v.enc.map .t), .t (.int .i64 p)] = some (.agg ((wQ v p).enc.map .t)) := by
  have d1 := cM v hs
  have d2 := cM (upV v p) (Ta v p)
  have d3 := xN p 0 2
  have hb : B2 p 0 2 = true := by rcases hp with rfl | rfl | rfl <;> rfl
  have e1 := u0 v.pre
  have ht : List.take (0 + (y6 v.pre).length) (y6 v.pre) = y6 v.pre := List.take_of_length_le (by omega)
  have ht2 : List.take v.pre.length (y6 v.pre) = y6 v.pre := List.take_of_length_le (by rw [zP]; omega)
  unfold Ver.sm at hs
  rw [hb] at d3
  unfold wQ
  rw [hb]
  simp only [Bool.not_true, Bool.or_false]
  cases ho : yv v <;> rw [ho] at d1
  · simp only [Ver.enc, List.map_cons, List.map_nil, Bool.not_false, cond_true] at d1 ⊢
    apply zu
    refine zw rfl Tryz.func174 rfl (by kernel_rfl) ?_
    unfold Tryz.f174
    simp (disch := ((try simp only [LL]); omega)) only [↓GO, ↓DRW, GA, ren, zB, zd, refs, zb, cst, zl, zH, z7, E.load, E.store, zG, isC, bin, zI, zJ, una, z8, za, zh, zK, blt, fnV, asArg, ze, zn, zo, zj, zi, zg, zk, zr, z6, zD, zF, mkS, zc, unN, zM, zm, zy, zC, zf, zN, zq, GS, Int.reduceToNat, Nat.reduceGT, ↓reduceIte, Nat.reduceAdd, Nat.reduceMul, Nat.reduceSub, Nat.reduceEqDiff, Nat.reduceLeDiff, Nat.reduceLT, Nat.reduceBEq, Int.reduceBEq, Int.reduceBNe, Int.reduceEq, Int.reduceLT, Int.reduceLE, Int.reduceGT, Int.reduceNeg, reduceCtorEq, GZ, d1, zP, ht, ht2, wh]
  · simp only [Bool.not_true, cond_false]
    unfold upV at d2 ⊢
    rcases hp with rfl | rfl | rfl
    · simp only [show ((0 : Int) == 0) = true from rfl, cond_true] at d2 ⊢
      cases hu : yv ⟨v.maj + 1, 0, 0, []⟩ <;> rw [hu] at d2 <;> simp only [Ver.enc, List.map_cons, List.map_nil, yf, cond_true, cond_false] at d1 d2 ⊢
      all_goals
        apply zu
        refine zw rfl Tryz.func174 rfl (by kernel_rfl) ?_
        unfold Tryz.f174
        simp (disch := ((try simp only [LL]); omega)) only [↓GO, ↓DRW, GA, ren, zB, zd, refs, zb, cst, zl, zH, z7, E.load, E.store, zG, isC, bin, zI, zJ, una, z8, za, zh, zK, blt, fnV, asArg, ze, zn, zo, zj, zi, zg, zk, zr, z6, zD, zF, mkS, zc, unN, zM, zm, zy, zC, zf, zN, zq, GS, Int.reduceToNat, Nat.reduceGT, ↓reduceIte, Nat.reduceAdd, Nat.reduceMul, Nat.reduceSub, Nat.reduceEqDiff, Nat.reduceLeDiff, Nat.reduceLT, Nat.reduceBEq, Int.reduceBEq, Int.reduceBNe, Int.reduceEq, Int.reduceLT, Int.reduceLE, Int.reduceGT, Int.reduceNeg, reduceCtorEq, GZ, d1, d2, d3, zP, ht, ht2, wh, zx]
    · simp only [show ((1 : Int) == 0) = false from rfl, show ((1 : Int) == 1) = true from rfl, cond_true, cond_false] at d2 ⊢
      cases hu : yv ⟨v.maj, v.min + 1, 0, []⟩ <;> rw [hu] at d2 <;> simp only [Ver.enc, List.map_cons, List.map_nil, yf, cond_true, cond_false] at d1 d2 ⊢
      all_goals
        apply zu
        refine zw rfl Tryz.func174 rfl (by kernel_rfl) ?_
        unfold Tryz.f174
        simp (disch := ((try simp only [LL]); omega)) only [↓GO, ↓DRW, GA, ren, zB, zd, refs, zb, cst, zl, zH, z7, E.load, E.store, zG, isC, bin, zI, zJ, una, z8, za, zh, zK, blt, fnV, asArg, ze, zn, zo, zj, zi, zg, zk, zr, z6, zD, zF, mkS, zc, unN, zM, zm, zy, zC, zf, zN, zq, GS, Int.reduceToNat, Nat.reduceGT, ↓reduceIte, Nat.reduceAdd, Nat.reduceMul, Nat.reduceSub, Nat.reduceEqDiff, Nat.reduceLeDiff, Nat.reduceLT, Nat.reduceBEq, Int.reduceBEq, Int.reduceBNe, Int.reduceEq, Int.reduceLT, Int.reduceLE, Int.reduceGT, Int.reduceNeg, reduceCtorEq, GZ, d1, d2, d3, zP, ht, ht2, wh, zx]
    · simp only [show ((2 : Int) == 0) = false from rfl, show ((2 : Int) == 1) = false from rfl, cond_false] at d2 ⊢
      cases hq : (v.pre == []) <;> rw [hq] at e1 d2 <;> simp only [cond_true, cond_false] at d2 ⊢
      · cases hu : yv ⟨v.maj, v.min, v.pat, []⟩ <;> rw [hu] at d2 <;> simp only [Ver.enc, List.map_cons, List.map_nil, yf, cond_true, cond_false] at d1 d2 ⊢
        all_goals
          apply zu
          refine zw rfl Tryz.func174 rfl (by kernel_rfl) ?_
          unfold Tryz.f174
          simp (disch := ((try simp only [LL]); omega)) only [↓GO, ↓DRW, GA, ren, zB, zd, refs, zb, cst, zl, zH, z7, E.load, E.store, zG, isC, bin, zI, zJ, una, z8, za, zh, zK, blt, fnV, asArg, ze, zn, zo, zj, zi, zg, zk, zr, z6, zD, zF, mkS, zc, unN, zM, zm, zy, zC, zf, zN, zq, GS, Int.reduceToNat, Nat.reduceGT, ↓reduceIte, Nat.reduceAdd, Nat.reduceMul, Nat.reduceSub, Nat.reduceEqDiff, Nat.reduceLeDiff, Nat.reduceLT, Nat.reduceBEq, Int.reduceBEq, Int.reduceBNe, Int.reduceEq, Int.reduceLT, Int.reduceLE, Int.reduceGT, Int.reduceNeg, reduceCtorEq, GZ, d1, d2, d3, e1, zP, ht, ht2, wh, zx]
      · cases hu : yv ⟨v.maj, v.min, v.pat + 1, []⟩ <;> rw [hu] at d2 <;> simp only [Ver.enc, List.map_cons, List.map_nil, yf, cond_true, cond_false] at d1 d2 ⊢
        all_goals
          apply zu
          refine zw rfl Tryz.func174 rfl (by kernel_rfl) ?_
          unfold Tryz.f174
          simp (disch := ((try simp only [LL]); omega)) only [↓GO, ↓DRW, GA, ren, zB, zd, refs, zb, cst, zl, zH, z7, E.load, E.store, zG, isC, bin, zI, zJ, una, z8, za, zh, zK, blt, fnV, asArg, ze, zn, zo, zj, zi, zg, zk, zr, z6, zD, zF, mkS, zc, unN, zM, zm, zy, zC, zf, zN, zq, GS, Int.reduceToNat, Nat.reduceGT, ↓reduceIte, Nat.reduceAdd, Nat.reduceMul, Nat.reduceSub, Nat.reduceEqDiff, Nat.reduceLeDiff, Nat.reduceLT, Nat.reduceBEq, Int.reduceBEq, Int.reduceBNe, Int.reduceEq, Int.reduceLT, Int.reduceLE, Int.reduceGT, Int.reduceNeg, reduceCtorEq, GZ, d1, d2, d3, e1, zP, ht, ht2, wh, zx]
theorem jG (v : Ver) : (yY v).sm := by simp [yY, Ver.sm, yk]
theorem jE (v : Ver) (p : Int) (hs : v.sm) (hp : p = 0 ∨ p = 1 ∨ p = 2) (h1 : -1 ≤ v.maj ∧ v.maj ≤ 999999999) (h2 : -1 ≤ v.min ∧ v.min ≤ 999999999) (h3 : -1 ≤ v.pat ∧ v.pat ≤ 999999999) :
    zE (EV Tryz.prog pol) 150 [.agg (v.enc.map .t), .t (.int .i64 p)] = some (.tup [.t (.str (vk v p).1), .t (.bool (vk v p).2)]) := by
  have d1 := S5 (yY v) p (jG v) hp h1 h2 h3
  have d2 := cN (wQ (yY v) p) (yY v) (Ua (jG v) p) (jG v)
  have d3 := ei ⟨(wQ (yY v) p).maj, (wQ (yY v) p).min, (wQ (yY v) p).pat, [[48]]⟩ (cV _ _ _)
  unfold vk
  generalize rN (wQ (yY v) p) (yY v) = cm at *
  generalize yb ⟨(wQ (yY v) p).maj, (wQ (yY v) p).min, (wQ (yY v) p).pat, [[48]]⟩ = tx at *
  generalize wQ (yY v) p = nx at *
  simp only [Ver.enc, yY, List.map_cons, List.map_nil, xj, yf] at d1 d2 d3 ⊢
  cases hc : (cm == 0)
  all_goals
    apply zu
    refine zw rfl Tryz.func150 rfl (by kernel_rfl) ?_
    unfold Tryz.f150
    simp (disch := ((try simp only [LL]); omega)) only [↓GO, ↓DRW, GA, ren, zB, zd, refs, zb, cst, zl, zH, z7, E.load, E.store, zG, isC, bin, zI, zJ, una, z8, za, zh, zK, blt, fnV, asArg, ze, zn, zo, zj, zi, zg, zk, zr, z6, zD, zF, mkS, zc, unN, zM, zm, zy, zC, zf, zN, zq, GS, Int.reduceToNat, Nat.reduceGT, ↓reduceIte, Nat.reduceAdd, Nat.reduceMul, Nat.reduceSub, Nat.reduceEqDiff, Nat.reduceLeDiff, Nat.reduceLT, Nat.reduceBEq, Int.reduceBEq, Int.reduceBNe, Int.reduceEq, Int.reduceLT, Int.reduceLE, Int.reduceGT, Int.reduceNeg, reduceCtorEq, GZ, d1, d2, d3, hc, yf]
def alT (s : Str) : V := match x6 s with
  | some (l, h) => .tup [.agg [.t (.str l), .t (.str h)], .t (.bool true)]
  | none => .tup [.agg [.t (.str []), .t (.str [])], .t (.bool false)]
theorem eo (s : Str) (hl : s.length ≤ 1048600) : zE (EV Tryz.prog pol) 107 [.t (.str s)] = some (alT s) := by
  have d1 := oz s (by omega)
  have d2 := oz (s ++ [46, 48]) (by simp only [List.length_append, List.length_cons, List.length_nil]; omega)
  obtain ⟨m1, m2, m3, m4, m5, m6, m7⟩ := yW s (by omega)
  have d3 := jE (zA s).1 2 m1 (by omega) ⟨m3, m2⟩ ⟨m5, m4⟩ ⟨m7, m6⟩
  have hg := jQ (zA s).1.pre
  unfold rvT at d1 d2
  unfold alT x6 uJ
  cases hk : (zA s).2 with
  | false =>
    rw [hk] at d1
    generalize (zA s).1 = v at *
    simp only [Bool.false_and, cond_false]
    simp only [Ver.enc, List.map_cons, List.map_nil] at d1 ⊢
    apply zu
    refine zw rfl Tryz.func107 rfl (by kernel_rfl) ?_
    unfold Tryz.f107
    simp (disch := ((try simp only [LL]); omega)) only [↓GO, ↓DRW, GA, ren, zB, zd, refs, zb, cst, zl, zH, z7, E.load, E.store, zG, isC, bin, zI, zJ, una, z8, za, zh, zK, blt, fnV, asArg, ze, zn, zo, zj, zi, zg, zk, zr, z6, zD, zF, mkS, zc, unN, zM, zm, zy, zC, zf, zN, zq, GS, Int.reduceToNat, Nat.reduceGT, ↓reduceIte, Nat.reduceAdd, Nat.reduceMul, Nat.reduceSub, Nat.reduceEqDiff, Nat.reduceLeDiff, Nat.reduceLT, Nat.reduceBEq, Int.reduceBEq, Int.reduceBNe, Int.reduceEq, Int.reduceLT, Int.reduceLE, Int.reduceGT, Int.reduceNeg, reduceCtorEq, GZ, d1]
  | true =>
    have ho := (yu hk).2.2.1
    rw [hk] at d1
    cases hp : ((zA s).1.pre == []) with
    | true =>
      have hb := vK ho 2 (by omega)
      simp only [show ((2 : Int) == 0) = false from rfl, show ((2 : Int) == 1) = false from rfl, show ((2 : Int) == 2) = true from rfl, cond_true, cond_false] at hb
      rw [hb] at d3
      rw [hp] at hg
      simp only [Bool.not_true, cond_true, Bool.true_and] at hg ⊢
      generalize (zA s).1 = v at *
      generalize ye v.maj v.min (v.pat + 1) = zp at *
      simp only [Ver.enc, List.map_cons, List.map_nil] at d1 d3 ⊢
      clear d2 hb
      cases hz : (zp == []) <;> rw [hz] at d3 <;> simp only [Bool.not_true, Bool.not_false, cond_true, cond_false] at d3 ⊢
      all_goals
        apply zu
        refine zw rfl Tryz.func107 rfl (by kernel_rfl) ?_
        unfold Tryz.f107
        simp (disch := ((try simp only [LL]); omega)) only [↓GO, ↓DRW, GA, ren, zB, zd, refs, zb, cst, zl, zH, z7, E.load, E.store, zG, isC, bin, zI, zJ, una, z8, za, zh, zK, blt, fnV, asArg, ze, zn, zo, zj, zi, zg, zk, zr, z6, zD, zF, mkS, zc, unN, zM, zm, zy, zC, zf, zN, zq, GS, Int.reduceToNat, Nat.reduceGT, ↓reduceIte, Nat.reduceAdd, Nat.reduceMul, Nat.reduceSub, Nat.reduceEqDiff, Nat.reduceLeDiff, Nat.reduceLT, Nat.reduceBEq, Int.reduceBEq, Int.reduceBNe, Int.reduceEq, Int.reduceLT, Int.reduceLE, Int.reduceGT, Int.reduceNeg, reduceCtorEq, GZ, d1, d3, hg, zP]
    | false =>
      obtain ⟨r1, r2⟩ := ly hk (fun h => by rw [h] at hp; cases hp)
      rw [r1] at d2
      rw [hp] at hg
      simp only [Bool.not_false, cond_false, Bool.true_and] at hg ⊢
      rw [r2]
      generalize yv (se (zA s).1) = pk at *
      generalize se (zA s).1 = pv at *
      generalize (zA s).1 = v at *
      have hne : ((s ++ [46, 48]) == []) = false := by cases s <;> rfl
      simp only [Ver.enc, List.map_cons, List.map_nil] at d1 ⊢
      cases pk <;> simp only [Ver.enc, List.map_cons, List.map_nil, cond_true, cond_false, hne, Bool.not_false, show (([] : Str) == []) = true from rfl, Bool.not_true] at d2 ⊢
      all_goals
        apply zu
        refine zw rfl Tryz.func107 rfl (by kernel_rfl) ?_
        unfold Tryz.f107
        simp (disch := ((try simp only [LL]); omega)) only [↓GO, ↓DRW, GA, ren, zB, zd, refs, zb, cst, zl, zH, z7, E.load, E.store, zG, isC, bin, zI, zJ, una, z8, za, zh, zK, blt, fnV, asArg, ze, zn, zo, zj, zi, zg, zk, zr, z6, zD, zF, mkS, zc, unN, zM, zm, zy, zC, zf, zN, zq, GS, Int.reduceToNat, Nat.reduceGT, ↓reduceIte, Nat.reduceAdd, Nat.reduceMul, Nat.reduceSub, Nat.reduceEqDiff, Nat.reduceLeDiff, Nat.reduceLT, Nat.reduceBEq, Int.reduceBEq, Int.reduceBNe, Int.reduceEq, Int.reduceLT, Int.reduceLE, Int.reduceGT, Int.reduceNeg, reduceCtorEq, GZ, d1, d2, hg, zP, wh]
theorem c_exR (s : Str) (hl : s.length ≤ 1048600) : zE (EV Tryz.prog pol) 83 [.t (.str s)] = some (.t (.list 2 (exT s))) := by
  have d1 := eo s hl
  unfold exT
  unfold alT at d1
  cases he : x6 s with
  | none =>
    rw [he] at d1
    simp only at d1 ⊢
    apply zu
    refine zw rfl Tryz.func83 rfl (by kernel_rfl) ?_
    unfold Tryz.f83
    simp (disch := ((try simp only [LL]); omega)) only [↓GO, ↓DRW, GA, ren, zB, zd, refs, zb, cst, zl, zH, z7, E.load, E.store, zG, isC, bin, zI, zJ, una, z8, za, zh, zK, blt, fnV, asArg, ze, zn, zo, zj, zi, zg, zk, zr, z6, zD, zF, mkS, zc, unN, zM, zm, zy, zC, zf, zN, zq, GS, Int.reduceToNat, Nat.reduceGT, ↓reduceIte, Nat.reduceAdd, Nat.reduceMul, Nat.reduceSub, Nat.reduceEqDiff, Nat.reduceLeDiff, Nat.reduceLT, Nat.reduceBEq, Int.reduceBEq, Int.reduceBNe, Int.reduceEq, Int.reduceLT, Int.reduceLE, Int.reduceGT, Int.reduceNeg, reduceCtorEq, GZ, d1]
  | some x =>
    obtain ⟨l, h⟩ := x
    rw [he] at d1
    simp only at d1 ⊢
    apply zu
    refine zw rfl Tryz.func83 rfl (by kernel_rfl) ?_
    unfold Tryz.f83
    simp (disch := ((try simp only [LL]); omega)) only [↓GO, ↓DRW, GA, ren, zB, zd, refs, zb, cst, zl, zH, z7, E.load, E.store, zG, isC, bin, zI, zJ, una, z8, za, zh, zK, blt, fnV, asArg, ze, zn, zo, zj, zi, zg, zk, zr, z6, zD, zF, mkS, zc, unN, zM, zm, zy, zC, zf, zN, zq, GS, Int.reduceToNat, Nat.reduceGT, ↓reduceIte, Nat.reduceAdd, Nat.reduceMul, Nat.reduceSub, Nat.reduceEqDiff, Nat.reduceLeDiff, Nat.reduceLT, Nat.reduceBEq, Int.reduceBEq, Int.reduceBNe, Int.reduceEq, Int.reduceLT, Int.reduceLE, Int.reduceGT, Int.reduceNeg, reduceCtorEq, GZ, d1]
end Go.Proofs.YtmcephnfcciloaaGreatDoor
/- What the laws' own functions do over Bound, Notice: sizes, copies, comparisons. Conditions: those of each lemma. -/
namespace Go.Proofs.YtmcephnfcciloaaGreatDoor
open E
set_option linter.unusedSimpArgs false
set_option linter.unusedVariables false
set_option maxRecDepth 100000
structure yx where
  low : List UInt8
  high : List UInt8
def yx.enc (x : yx) : List T := [.str x.low, .str x.high]
def yx.zV (l : List yx) : List (List T) := l.map yx.enc
def yx.yh (x : yx) : Nat := x.low.length + x.high.length
def yx.ya : List yx → Nat
  | [] => 0
  | c :: cs => yx.yh c + yx.ya cs
def yx.ok (x : yx) : Prop := x.low.length ≤ 9223372036854775807 ∧ x.high.length ≤ 9223372036854775807
theorem yx.vZ (x : yx) : x.enc.length = 2 := rfl
theorem yx.v8 (x : yx) : x.enc.take 2 = x.enc := rfl
theorem yx.zR (cs : List yx) : (yx.zV cs).length = cs.length := by simp [yx.zV]
theorem yx.yR (cs : List yx) (i : Nat) (h : i < cs.length) : (yx.zV cs)[i]? = some cs[i].enc := by simp [yx.zV, h]
theorem yx.xi (cs : List yx) (i : Nat) (h : i < cs.length) : yx.ya (cs.drop i) = cs[i].yh + yx.ya (cs.drop (i + 1)) := by
  rw [List.drop_eq_getElem_cons h]; rfl
theorem yx.yp : ∀ {cs : List yx} {c : yx}, c ∈ cs → c.yh ≤ yx.ya cs
  | c' :: cs, c, h => by
    simp only [yx.ya]
    rcases List.mem_cons.1 h with rfl | h
    · omega
    · have := yx.yp h; omega
structure zt where
  name : List UInt8
  range : List UInt8
  text : List UInt8
def zt.enc (x : zt) : List T := [.str x.name, .str x.range, .str x.text]
def zt.zV (l : List zt) : List (List T) := l.map zt.enc
def zt.yh (x : zt) : Nat := x.name.length + x.range.length + x.text.length
def zt.ya : List zt → Nat
  | [] => 0
  | c :: cs => zt.yh c + zt.ya cs
def zt.ok (x : zt) : Prop := x.name.length ≤ 9223372036854775807 ∧ x.range.length ≤ 9223372036854775807 ∧ x.text.length ≤ 9223372036854775807
theorem zt.vZ (x : zt) : x.enc.length = 3 := rfl
theorem zt.v8 (x : zt) : x.enc.take 3 = x.enc := rfl
theorem zt.zR (cs : List zt) : (zt.zV cs).length = cs.length := by simp [zt.zV]
theorem zt.yR (cs : List zt) (i : Nat) (h : i < cs.length) : (zt.zV cs)[i]? = some cs[i].enc := by simp [zt.zV, h]
theorem zt.xi (cs : List zt) (i : Nat) (h : i < cs.length) : zt.ya (cs.drop i) = cs[i].yh + zt.ya (cs.drop (i + 1)) := by
  rw [List.drop_eq_getElem_cons h]; rfl
theorem zt.yp : ∀ {cs : List zt} {c : zt}, c ∈ cs → c.yh ≤ zt.ya cs
  | c' :: cs, c, h => by
    simp only [zt.ya]
    rcases List.mem_cons.1 h with rfl | h
    · omega
    · have := zt.yp h; omega
def mJ (x : zt) : Prop := ∀ n : Int, 0 ≤ n → n ≤ 1048576 → zE (EV Tryz.prog pol) 26 [.agg (x.enc.map .t), .t (.int .i64 n)] = some (.t (.int .i64 (left n x.yh)))
theorem nQ (x : zt) (ho : x.ok) : mJ x := by
  obtain ⟨name, range, text⟩ := x
  intro n h0 h1
  simp only [zt.ok] at ho
  simp only [zt.enc, List.map_cons, List.map_nil]
  apply zu
  refine zw rfl Tryz.func26 rfl (by kernel_rfl) ?_
  unfold Tryz.f26
  repeat' (first | (((first | with_reducible refine ub (fun hA => ?_) (fun hA => ?_) | with_reducible refine ua (fun hA => ?_) (fun hA => ?_)) <;> (try simp only [bne, Bool.not_eq_true', Bool.not_eq_false'] at hA) <;> (first | (have hP := Int.le_of_eq (eq_of_beq (α := Int) hA); have hQ := Int.le_of_eq (eq_of_beq (α := Int) hA).symm) | have hP := of_decide_eq_true hA | have hP := of_decide_eq_false hA | skip)) <;> (simp (disch := ((try simp only [LL]); omega)) only [↓GO, ↓DRW, GA, ren, zB, zd, refs, zb, cst, zl, zH, z7, E.load, E.store, zG, isC, bin, zI, zJ, una, z8, za, zh, zK, blt, fnV, asArg, ze, zn, zo, zj, zi, zg, zk, zr, z6, zD, zF, mkS, zc, unN, zM, zm, zy, zC, zf, zN, zq, GS, Int.reduceToNat, Nat.reduceGT, ↓reduceIte, Nat.reduceAdd, Nat.reduceMul, Nat.reduceSub, Nat.reduceEqDiff, Nat.reduceLeDiff, Nat.reduceLT, Nat.reduceBEq, Int.reduceBEq, Int.reduceBNe, Int.reduceEq, Int.reduceLT, Int.reduceLE, Int.reduceGT, Int.reduceNeg, reduceCtorEq, zx, bne, vX, wC, *])) | (simp (disch := ((try simp only [LL]); omega)) only [↓GO, ↓DRW, GA, ren, zB, zd, refs, zb, cst, zl, zH, z7, E.load, E.store, zG, isC, bin, zI, zJ, una, z8, za, zh, zK, blt, fnV, asArg, ze, zn, zo, zj, zi, zg, zk, zr, z6, zD, zF, mkS, zc, unN, zM, zm, zy, zC, zf, zN, zq, GS, Int.reduceToNat, Nat.reduceGT, ↓reduceIte, Nat.reduceAdd, Nat.reduceMul, Nat.reduceSub, Nat.reduceEqDiff, Nat.reduceLeDiff, Nat.reduceLT, Nat.reduceBEq, Int.reduceBEq, Int.reduceBNe, Int.reduceEq, Int.reduceLT, Int.reduceLE, Int.reduceGT, Int.reduceNeg, reduceCtorEq, zx, bne, vX, wC, *]))
  all_goals (refine uS ?_; simp only [zt.yh, and_true]; omega)
def uF (x : zt) : Prop := zE (EV Tryz.prog pol) 32 [.agg (x.enc.map .t)] = some (.agg (x.enc.map .t))
theorem nP (x : zt) (ho : x.yh ≤ 1048576) : uF x := by
  obtain ⟨name, range, text⟩ := x
  simp only [zt.yh] at ho
  simp only [uF, zt.enc, List.map_cons, List.map_nil]
  apply zu
  refine zw rfl Tryz.func32 rfl (by kernel_rfl) ?_
  unfold Tryz.f32
  simp only [↓GO, ↓DRW, GA, ren, zB, zd, refs, zb, cst, zl, zH, z7, E.load, E.store, zG, isC, bin, zI, zJ, una, z8, za, zh, zK, blt, fnV, asArg, ze, zn, zo, zj, zi, zg, zk, zr, z6, zD, zF, mkS, zc, unN, zM, zm, zy, zC, zf, zN, zq, GS, Int.reduceToNat, Nat.reduceGT, ↓reduceIte, Nat.reduceAdd, Nat.reduceMul, Nat.reduceSub, Nat.reduceEqDiff, Nat.reduceLeDiff, Nat.reduceLT, Nat.reduceBEq, Int.reduceBEq, Int.reduceBNe, Int.reduceEq, Int.reduceLT, Int.reduceLE, Int.reduceGT, Int.reduceNeg, reduceCtorEq]
def s9 (x : zt) : Prop := zE (EV Tryz.prog pol) 37 [.agg (x.enc.map .t), .agg (x.enc.map .t)] = some (.t (.bool true))
theorem du (x : zt) (ho : x.yh ≤ 1048576) : s9 x := by
  obtain ⟨name, range, text⟩ := x
  simp only [zt.yh] at ho
  simp only [s9, zt.enc, List.map_cons, List.map_nil]
  apply zu
  refine zw rfl Tryz.func37 rfl (by kernel_rfl) ?_
  unfold Tryz.f37
  simp only [↓GO, ↓DRW, GA, ren, zB, zd, refs, zb, cst, zl, zH, z7, E.load, E.store, zG, isC, bin, zI, zJ, una, z8, za, zh, zK, blt, fnV, asArg, ze, zn, zo, zj, zi, zg, zk, zr, z6, zD, zF, mkS, zc, unN, zM, zm, zy, zC, zf, zN, zq, GS, Int.reduceToNat, Nat.reduceGT, ↓reduceIte, Nat.reduceAdd, Nat.reduceMul, Nat.reduceSub, Nat.reduceEqDiff, Nat.reduceLeDiff, Nat.reduceLT, Nat.reduceBEq, Int.reduceBEq, Int.reduceBNe, Int.reduceEq, Int.reduceLT, Int.reduceLE, Int.reduceGT, Int.reduceNeg, reduceCtorEq, bne_self_eq_false]
end Go.Proofs.YtmcephnfcciloaaGreatDoor
/- Ranges, plain: both ways of reading them come to the same. Conditions: none. -/
namespace Go.Proofs.YtmcephnfcciloaaGreatDoor
open E
set_option linter.unusedVariables false
set_option linter.unusedSimpArgs false
set_option maxRecDepth 100000
def vb (b : UInt8) : Bool := isD b || (nb b == 46 || (nb b == 45 || preB b))
theorem vI {n : Int} (h : 0 ≤ n) : (Lib.itoa n).all isD = true ∧ Lib.itoa n ≠ [] := by
  obtain ⟨u, rfl⟩ : ∃ u : Nat, n = u := ⟨n.toNat, by omega⟩
  rw [Lib.itoa_nonneg]
  obtain ⟨a, _, c⟩ := vV u
  exact ⟨a, c⟩
theorem qJ {p q : UInt8 → Bool} (h : ∀ b, p b = true → q b = true) {l : Str} (hl : l.all p = true) : l.all q = true := by
  rw [List.all_eq_true] at hl ⊢
  exact fun x hx => h x (hl x hx)
theorem cE (b : UInt8) (h : isD b = true) : vb b = true := by unfold vb; rw [h]; rfl
theorem bf (b : UInt8) (h : preB b = true) : vb b = true := by unfold vb; rw [h]; simp
theorem Uk : ∀ l : List Str, (l.all fun p => p.all preB) = true → (Lib.join l [46]).all vb = true
  | [], _ => rfl
  | x :: r, h => by
    rw [Lib.join_cons]
    simp only [List.all_cons, Bool.and_eq_true] at h
    rw [List.all_append, qJ bf h.1, Bool.true_and]
    have hr := h.2
    clear h
    induction r with
    | nil => rfl
    | cons y r ih =>
      simp only [List.all_cons, Bool.and_eq_true] at hr
      have e : Lib.joinTail [46] (y :: r) = 46 :: (y ++ Lib.joinTail [46] r) := by simp [Lib.joinTail]
      rw [e, List.all_cons, List.all_append, qJ bf hr.1, ih hr.2]
      decide
theorem VO {v : Ver} (h : yv v = true) : (yb v).all vb = true ∧ ∃ b r, yb v = b :: r ∧ isD b = true := by
  obtain ⟨h1, h2, h3, h4, _⟩ := w6 h
  obtain ⟨a1, a2⟩ := vI h1.1
  obtain ⟨b1, b2⟩ := vI h2.1
  obtain ⟨c1, c2⟩ := vI h3.1
  have hp : (v.pre.all fun p => p.all preB) = true := by
    rw [List.all_eq_true] at h4 ⊢
    intro x hx
    have := h4 x hx
    unfold wm at this
    simp only [Bool.and_eq_true] at this
    exact this.2.1
  have hj := Uk v.pre hp
  have hcore : (ve v).all vb = true := by
    unfold ve
    simp only [List.all_append, qJ cE a1, qJ cE b1, qJ cE c1]
    decide
  refine ⟨?_, ?_⟩
  · unfold yb w8
    rw [h]
    simp only [cond_true]
    cases (v.pre == []) with
    | true => simpa using hcore
    | false =>
      simp only [cond_false, List.all_append, hcore, hj]
      decide
  · unfold yb w8 ve
    rw [h]
    simp only [cond_true]
    cases hi : Lib.itoa v.maj with
    | nil => exact absurd hi a2
    | cons b r =>
      rw [hi, List.all_cons, Bool.and_eq_true] at a1
      cases (v.pre == []) <;> exact ⟨b, _, rfl, a1.1⟩
/-- is a text a version's? -/
def isV (s : Str) : Bool := (zA s).2
theorem jP {s : Str} (h : isV s = true) : (∀ b ∈ s, vb b = true) ∧ ∃ b r, s = b :: r ∧ isD b = true := by
  obtain ⟨_, ht, ho, _⟩ := yu h
  obtain ⟨h1, h2⟩ := VO ho
  rw [ht] at h1 h2
  exact ⟨List.all_eq_true.1 h1, h2⟩
theorem mM {s : Str} {c : UInt8} (hc : vb c = false) (h : c ∈ s) : isV s = false := by
  cases hv : isV s with
  | false => rfl
  | true =>
    have := (jP hv).1 c h
    rw [hc] at this; cases this
theorem mw {b : UInt8} {r : Str} (hb : isD b = false) : isV (b :: r) = false := by
  cases hv : isV (b :: r) with
  | false => rfl
  | true =>
    obtain ⟨_, b', r', e, h⟩ := jP hv
    cases e
    rw [hb] at h; cases h
theorem oK : isV [] = false := by
  cases hv : isV [] with
  | false => rfl
  | true => obtain ⟨_, _, _, e, _⟩ := jP hv; cases e
theorem nJ (b : UInt8) : ∀ s : Str, (yi b s).length = s.count b + 1
  | [] => rfl
  | x :: s => by
    have ih := nJ b s
    by_cases h : x = b
    · subst h; rw [wg, List.length_cons, ih, List.count_cons_self]
    · cases hc : yi b s with
      | nil => exact absurd hc (yU b s)
      | cons p r =>
        rw [yF b x s p r h hc, List.count_cons_of_ne (by simpa using h)]
        rw [hc] at ih
        simpa using ih
theorem Zj {s : Str} (h : isV s = true) : 3 ≤ (yi 46 s).length := by
  obtain ⟨hm, _, _, _⟩ := yu h
  have he := sI 45 s
  have h3 : (yi 46 (yl 45 s).1).length = 3 := by
    unfold xS at hm
    split at hm
    · rename_i a b c hp; rw [hp]; rfl
    · cases hm
  rw [nJ] at h3 ⊢
  rw [he, List.count_append]; omega
/-- the parts of a list of two -/
theorem vJ {b : UInt8} : ∀ {s a : Str}, yi b s = [a] → s = a ∧ b ∉ a
  | [], a, h => by cases h; simp
  | x :: s, a, h => by
    by_cases hx : x = b
    · subst hx
      rw [wg] at h
      injection h with _ h2
      exact absurd h2 (yU x s)
    · cases hc : yi b s with
      | nil => exact absurd hc (yU b s)
      | cons p r =>
        rw [yF b x s p r hx hc] at h
        injection h with h1 h2
        subst h2
        obtain ⟨e1, e2⟩ := vJ hc
        subst h1
        refine ⟨by rw [e1], ?_⟩
        simp only [List.mem_cons, not_or]
        exact ⟨Ne.symm hx, e2⟩
theorem vy {b : UInt8} : ∀ {s a a' : Str} {r : List Str}, yi b s = a :: a' :: r → ∃ t, s = a ++ b :: t ∧ b ∉ a ∧ yi b t = a' :: r
  | [], a, a', r, h => by simp [yi] at h
  | x :: s, a, a', r, h => by
    by_cases hx : x = b
    · subst hx
      rw [wg] at h
      injection h with h1 h2
      subst h1
      exact ⟨s, rfl, by simp, h2⟩
    · cases hc : yi b s with
      | nil => exact absurd hc (yU b s)
      | cons p q =>
        rw [yF b x s p q hx hc] at h
        injection h with h1 h2
        subst h1 h2
        obtain ⟨t, e1, e2, e3⟩ := vy hc
        refine ⟨t, by rw [e1]; rfl, ?_, e3⟩
        simp only [List.mem_cons, not_or]
        exact ⟨Ne.symm hx, e2⟩
theorem xp {s : Str} (h : 0 ≤ zO s) : (∀ b ∈ s, isD b = true) ∧ Lib.itoa (zO s) = s ∧ zO s ≤ 999999999 ∧ s ≠ [] := by
  unfold zO at h ⊢
  split at h
  · rename_i v hv
    cases hc : ((decide (0 ≤ v) && decide (v ≤ 999999999)) && (Lib.itoa v == s)) with
    | false => rw [hc] at h; simp at h
    | true =>
      have hc' := hc
      simp only [Bool.and_eq_true, decide_eq_true_eq, beq_iff_eq] at hc'
      obtain ⟨⟨q1, q2⟩, q3⟩ := hc'
      obtain ⟨a, b⟩ := vI q1
      simp only [cond_true]
      rw [q3] at a b
      exact ⟨List.all_eq_true.1 a, q3, q2, b⟩
  · simp at h
theorem uQ {s : Str} {c : UInt8} (hc : isD c = false) (h : c ∈ s) : zO s = -1 := by
  have h1 := xo s
  by_cases h2 : 0 ≤ zO s
  · have := (xp h2).1 c h
    rw [hc] at this; cases this
  · omega
theorem rW : zO [48] = 0 := by
  have := (vw (u := 0) (by omega)).1
  rwa [show Lib.decDigits 0 = [48] by rw [Lib.decDigits_one (by omega)]; rfl] at this
theorem lX : Lib.itoa 0 = [48] := by
  have := Lib.itoa_nonneg 0
  rw [show ((0 : Nat) : Int) = 0 from rfl] at this
  rw [this, Lib.decDigits_one (by omega)]; rfl
def u7 (s : Str) : Option (Str × Str) := match yi 46 s with
  | [a] => cond (decide (0 ≤ zO a) && !(ye (zO a + 1) 0 0 == [])) (some (yb ⟨zO a, 0, 0, []⟩, ye (zO a + 1) 0 0)) none
  | [a, b] => cond ((decide (0 ≤ zO a) && decide (0 ≤ zO b)) && !(ye (zO a) (zO b + 1) 0 == [])) (some (yb ⟨zO a, zO b, 0, []⟩, ye (zO a) (zO b + 1) 0)) none
  | _ => none
def wv (s : Str) : Str := cond (((yi 46 s).length : Int) == 1) (s ++ [46, 48, 46, 48]) (s ++ [46, 48])
def wO (s : Str) : Option (Str × Str) :=
  cond (!(isV (wv s)) || (!(B2 ((yi 46 s).length : Int) 1 2) || !((zA (wv s)).1.pre == []))) none
    (cond (vk (zA (wv s)).1 (((yi 46 s).length : Int) - 1)).2 (some (wv s, (vk (zA (wv s)).1 (((yi 46 s).length : Int) - 1)).1)) none)
theorem fh {s : Str} (h : (45 : UInt8) ∈ s) (hv : isV s = true) : (zA s).1.pre ≠ [] := by
  obtain ⟨hm, _, _, _⟩ := yu hv
  have he := sI 45 s
  have hn := mC 45 s
  unfold xS at hm
  split at hm
  · injection hm with hm
    rw [← hm]
    cases hc : (yl 45 s).2.2 with
    | false =>
      rw [hc, cond_false, List.append_nil] at he
      rw [he] at h
      exact absurd h hn
    | true => exact yU 46 _
  · cases hm
theorem VB {s : Str} (h : ∀ b ∈ s, isD b = true) : (45 : UInt8) ∉ s := fun hm => by
  have := h 45 hm
  revert this; decide
theorem VA {s : Str} (h : ∀ b ∈ s, isD b = true) : (46 : UInt8) ∉ s := fun hm => by
  have := h 46 hm
  revert this; decide
/-- a text of numbers alone is read as they are -/
theorem ni {a b c s : Str} (hd : (45 : UInt8) ∉ s) (hc : yi 46 s = [a, b, c]) :
    zA s = cond (yb ⟨zO a, zO b, zO c, []⟩ == s) (⟨zO a, zO b, zO c, []⟩, true) (Ver.zero, false) := by
  unfold zA xS
  rw [aw 45 s hd]
  simp only
  rw [hc]
  simp only [cond_false]
theorem vT (a b c : Int) : yv ⟨a, b, c, []⟩ = (n9 a && (n9 b && n9 c)) := by simp [yv]
theorem px (s : Str) : n9 (zO s) = decide (0 ≤ zO s) := by
  have := xo s
  unfold n9 B2
  have : decide (zO s ≤ 999999999) = true := decide_eq_true this.2
  rw [this, Bool.and_true]
theorem uN {a b c : Int} (ha : n9 a = true) (hb : n9 b = true) (hc : n9 c = true) : yb ⟨a, b, c, []⟩ = Lib.itoa a ++ [46] ++ Lib.itoa b ++ [46] ++ Lib.itoa c := by
  unfold yb w8 ve
  rw [vT, ha, hb, hc]
  rfl
theorem gd {a b c : Int} (h : (n9 a && (n9 b && n9 c)) = false) : yb ⟨a, b, c, []⟩ = [] := by
  unfold yb
  rw [vT, h]; rfl
theorem sH : n9 0 = true := by decide
theorem oZ (s : Str) : wO s = u7 s := by
  unfold u7
  split
  · rename_i a hp
    obtain ⟨rfl, hn⟩ := vJ hp
    have hfull : wv s = s ++ [46, 48, 46, 48] := by unfold wv; rw [hp]; rfl
    unfold wO
    rw [hp, hfull]
    by_cases h45 : (45 : UInt8) ∈ s
    · have hd := uQ (c := 45) (by decide) h45
      rw [hd]
      have hr : (!(isV (s ++ [46, 48, 46, 48])) || (!(B2 (([s] : List Str).length : Int) 1 2) || !((zA (s ++ [46, 48, 46, 48])).1.pre == []))) = true := by
        cases hv : isV (s ++ [46, 48, 46, 48]) with
        | false => rfl
        | true =>
          have := fh (s := s ++ [46, 48, 46, 48]) (by simp [h45]) hv
          have h2 : ((zA (s ++ [46, 48, 46, 48])).1.pre == []) = false := by
            cases hx : (zA (s ++ [46, 48, 46, 48])).1.pre with
            | nil => exact absurd hx this
            | cons x y => rfl
          rw [h2]; simp
      rw [hr]; rfl
    · have h45' : (45 : UInt8) ∉ s ++ [46, 48, 46, 48] := by simp [h45]
      have hc3 : yi 46 (s ++ [46, 48, 46, 48]) = [s, [48], [48]] := by
        rw [show s ++ [46, 48, 46, 48] = s ++ 46 :: [48, 46, 48] from rfl, uB, hp]; rfl
      have hr := ni h45' hc3
      rw [rW] at hr
      unfold isV
      rw [hr]
      have hn9 := px s
      by_cases h0 : 0 ≤ zO s
      · obtain ⟨_, hi, _, _⟩ := xp h0
        have hn : n9 (zO s) = true := by rw [hn9]; exact decide_eq_true h0
        have ht := uN hn sH sH
        rw [hi, lX] at ht
        have he : (yb ⟨zO s, 0, 0, []⟩ == s ++ [46, 48, 46, 48]) = true := by rw [ht]; simp
        have hok : yv ⟨zO s, 0, 0, []⟩ = true := by rw [vT, hn]; rfl
        rw [he]
        simp only [cond_true]
        have hb := vK hok 0 (by omega)
        simp only [show ((0 : Int) == 0) = true from rfl, cond_true, show ((0 : Int) == 2) = false from rfl, cond_false] at hb
        rw [show (([s] : List Str).length : Int) - 1 = 0 from rfl, hb, decide_eq_true h0, ht]
        simp only [show B2 (([s] : List Str).length : Int) 1 2 = true from rfl, show (([] : List Str) == []) = true from rfl, Bool.not_true, Bool.or_false, cond_false, Bool.true_and]
        simp
      · have hn : (n9 (zO s) && (n9 0 && n9 0)) = false := by rw [hn9, decide_eq_false h0]; rfl
        rw [gd hn]
        have he : (([] : Str) == s ++ [46, 48, 46, 48]) = false := by rw [beq_eq_false_iff_ne]; intro e; have := congrArg List.length e; simp at this
        rw [he, decide_eq_false h0]
        rfl
  · rename_i a b hp
    obtain ⟨t, rfl, hna, hct⟩ := vy hp
    obtain ⟨rfl, hnb⟩ := vJ hct
    generalize hsd : a ++ 46 :: t = s at *
    have hfull : wv s = s ++ [46, 48] := by unfold wv; rw [hp]; rfl
    unfold wO
    rw [hp, hfull]
    by_cases h45 : (45 : UInt8) ∈ s
    · have hd : (decide (0 ≤ zO a) && decide (0 ≤ zO t)) = false := by
        rw [← hsd] at h45
        simp only [List.mem_append, List.mem_cons] at h45
        rcases h45 with h | h | h
        · rw [uQ (c := 45) (by decide) h]; rfl
        · exact absurd h (by decide)
        · rw [uQ (c := 45) (by decide) h]; simp
      rw [hd]
      have hr : (!(isV (s ++ [46, 48])) || (!(B2 (([a, t] : List Str).length : Int) 1 2) || !((zA (s ++ [46, 48])).1.pre == []))) = true := by
        cases hv : isV (s ++ [46, 48]) with
        | false => rfl
        | true =>
          have := fh (s := s ++ [46, 48]) (by simp [h45]) hv
          have h2 : ((zA (s ++ [46, 48])).1.pre == []) = false := by
            cases hx : (zA (s ++ [46, 48])).1.pre with
            | nil => exact absurd hx this
            | cons x y => rfl
          rw [h2]; simp
      rw [hr]; rfl
    · have h45' : (45 : UInt8) ∉ s ++ [46, 48] := by simp [h45]
      have hc3 : yi 46 (s ++ [46, 48]) = [a, t, [48]] := by
        rw [show s ++ [46, 48] = s ++ 46 :: [48] from rfl, uB, hp]; rfl
      have hr := ni h45' hc3
      rw [rW] at hr
      unfold isV
      rw [hr]
      have hna := px a
      have hnt := px t
      by_cases h0 : 0 ≤ zO a ∧ 0 ≤ zO t
      · obtain ⟨_, hi, _, _⟩ := xp h0.1
        obtain ⟨_, hj, _, _⟩ := xp h0.2
        have hn : n9 (zO a) = true := by rw [hna]; exact decide_eq_true h0.1
        have hm : n9 (zO t) = true := by rw [hnt]; exact decide_eq_true h0.2
        have ht := uN hn hm sH
        rw [hi, hj, lX] at ht
        have he : (yb ⟨zO a, zO t, 0, []⟩ == s ++ [46, 48]) = true := by rw [ht, ← hsd]; simp
        have hok : yv ⟨zO a, zO t, 0, []⟩ = true := by rw [vT, hn, hm]; rfl
        rw [he]
        simp only [cond_true]
        have hb := vK hok 1 (by omega)
        simp only [show ((1 : Int) == 0) = false from rfl, show ((1 : Int) == 1) = true from rfl, cond_true, show ((1 : Int) == 2) = false from rfl, cond_false] at hb
        rw [show (([a, t] : List Str).length : Int) - 1 = 1 from rfl, hb, decide_eq_true h0.1, decide_eq_true h0.2, eq_of_beq he]
        simp only [show B2 (([a, t] : List Str).length : Int) 1 2 = true from rfl, show (([] : List Str) == []) = true from rfl, Bool.not_true, Bool.or_false, cond_false, Bool.true_and]
      · have hd : (decide (0 ≤ zO a) && decide (0 ≤ zO t)) = false := by simpa using h0
        have hn : (n9 (zO a) && (n9 (zO t) && n9 0)) = false := by rw [hna, hnt, ← Bool.and_assoc, hd]; rfl
        rw [gd hn]
        have he : (([] : Str) == s ++ [46, 48]) = false := by rw [beq_eq_false_iff_ne]; intro e; have := congrArg List.length e; simp at this
        rw [he, hd]
        rfl
  · rename_i h1 h2
    have hlen : B2 ((yi 46 s).length : Int) 1 2 = false := by
      match hc : yi 46 s, h1, h2 with
      | [], _, _ => exact absurd hc (yU 46 s)
      | [a], h1, _ => exact absurd rfl (h1 a)
      | [a, b], _, h2 => exact absurd rfl (h2 a b)
      | a :: b :: c :: r, _, _ =>
        have : decide (((a :: b :: c :: r).length : Int) ≤ 2) = false := decide_eq_false (by simp only [List.length_cons]; omega)
        unfold B2; rw [this, Bool.and_false]
    unfold wO
    rw [hlen]
    simp
end Go.Proofs.YtmcephnfcciloaaGreatDoor

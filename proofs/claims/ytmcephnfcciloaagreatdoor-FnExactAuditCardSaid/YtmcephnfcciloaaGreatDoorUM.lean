/- Joined: K20 K21 K22 I2 K7 K8 K23. Conditions: those of each lemma. -/
import Derived.Test.YtmcephnfcciloaaGreatDoorUL
import Derived.Test.YtmcephnfcciloaaGreatDoorUK
import Derived.Test.YtmcephnfcciloaaGreatDoorUH
import Derived.Test.YtmcephnfcciloaaGreatDoorUJ
set_option linter.unusedVariables false
set_option linter.unusedSimpArgs false
namespace Go.Proofs.YtmcephnfcciloaaGreatDoor
open E
set_option linter.unusedSimpArgs false
set_option linter.unusedVariables false
set_option maxRecDepth 100000
theorem vz (a b : Int) : zE (EV Tryz.prog pol) 166 [.t (.int .i64 a), .t (.int .i64 b)] = some (.t (.int .i64 (x9 a b))) := by
  unfold x9
  cases h1 : decide (a < b) <;> cases h2 : decide (a > b)
  all_goals
    apply zu
    refine zw rfl Tryz.func166 rfl (by kernel_rfl) ?_
    unfold Tryz.f166
    simp (disch := ((try simp only [LL]); omega)) only [↓GO, ↓DRW, GA, ren, zB, zd, refs, zb, cst, zl, zH, z7, E.load, E.store, zG, isC, bin, zI, zJ, una, z8, za, zh, zK, blt, fnV, asArg, ze, zn, zo, zj, zi, zg, zk, zr, z6, zD, zF, mkS, zc, unN, zM, zm, zy, zC, zf, zN, zq, GS, Int.reduceToNat, Nat.reduceGT, ↓reduceIte, Nat.reduceAdd, Nat.reduceMul, Nat.reduceSub, Nat.reduceEqDiff, Nat.reduceLeDiff, Nat.reduceLT, Nat.reduceBEq, Int.reduceBEq, Int.reduceBNe, Int.reduceEq, Int.reduceLT, Int.reduceLE, Int.reduceGT, Int.reduceNeg, reduceCtorEq, GZ, h1, h2]
theorem bH : ∀ s : Str, s.length ≤ 4194304 → EV Tryz.prog pol (.loop 208 12 0 [.t (.str s), .t (.int .u8 48)] []) = some (.loop (.exit 0) [.t (.str (wb s))] [])
  | [], _ => by
    refine zz Tryz.func208 rfl rfl ?_
    simp (disch := ((try simp only [LL]); omega)) only [↓GO, ↓DRW, GA, ren, zB, zd, refs, zb, cst, zl, zH, z7, E.load, E.store, zG, isC, bin, zI, zJ, una, z8, za, zh, zK, blt, fnV, asArg, ze, zn, zo, zj, zi, zg, zk, zr, z6, zD, zF, mkS, zc, unN, zM, zm, zy, zC, zf, zN, zq, GS, Int.reduceToNat, Nat.reduceGT, ↓reduceIte, Nat.reduceAdd, Nat.reduceMul, Nat.reduceSub, Nat.reduceEqDiff, Nat.reduceLeDiff, Nat.reduceLT, Nat.reduceBEq, Int.reduceBEq, Int.reduceBNe, Int.reduceEq, Int.reduceLT, Int.reduceLE, Int.reduceGT, Int.reduceNeg, reduceCtorEq, GZ, List.length_nil, Int.natCast_zero]
    rfl
  | b :: s, h => by
    have c : decide (((s.length + 1 : Nat) : Int) > 0) = true := by apply decide_eq_true; omega
    have hb : ((b.toNat : Int) == 48) = (b == 48) := by
      rw [Bool.eq_iff_iff]
      simp only [beq_iff_eq]
      constructor
      · intro h; apply UInt8.toNat_inj.1; have : (48 : UInt8).toNat = 48 := rfl; omega
      · intro h; subst h; rfl
    have hcut : (1 : Int) ≤ ((s.length + 1 : Nat) : Int) := by omega
    cases hz : (b == 48) with
    | false =>
      rw [hz] at hb
      have e : wb (b :: s) = b :: s := by unfold wb; simp [List.dropWhile, hz]
      rw [e]
      refine zz Tryz.func208 rfl rfl ?_
      simp (disch := ((try simp only [LL]); omega)) only [↓GO, ↓DRW, GA, ren, zB, zd, refs, zb, cst, zl, zH, z7, E.load, E.store, zG, isC, bin, zI, zJ, una, z8, za, zh, zK, blt, fnV, asArg, ze, zn, zo, zj, zi, zg, zk, zr, z6, zD, zF, mkS, zc, unN, zM, zm, zy, zC, zf, zN, zq, GS, Int.reduceToNat, Nat.reduceGT, ↓reduceIte, Nat.reduceAdd, Nat.reduceMul, Nat.reduceSub, Nat.reduceEqDiff, Nat.reduceLeDiff, Nat.reduceLT, Nat.reduceBEq, Int.reduceBEq, Int.reduceBNe, Int.reduceEq, Int.reduceLT, Int.reduceLE, Int.reduceGT, Int.reduceNeg, reduceCtorEq, GZ, c, hb, hcut]
    | true =>
      rw [hz] at hb
      have IH := bH s (by simp only [List.length_cons] at h; omega)
      have e : wb (b :: s) = wb s := by unfold wb; simp [List.dropWhile, hz]
      rw [e]
      refine zz Tryz.func208 rfl rfl ?_
      simp (disch := ((try simp only [LL]); omega)) only [↓GO, ↓DRW, GA, ren, zB, zd, refs, zb, cst, zl, zH, z7, E.load, E.store, zG, isC, bin, zI, zJ, una, z8, za, zh, zK, blt, fnV, asArg, ze, zn, zo, zj, zi, zg, zk, zr, z6, zD, zF, mkS, zc, unN, zM, zm, zy, zC, zf, zN, zq, GS, Int.reduceToNat, Nat.reduceGT, ↓reduceIte, Nat.reduceAdd, Nat.reduceMul, Nat.reduceSub, Nat.reduceEqDiff, Nat.reduceLeDiff, Nat.reduceLT, Nat.reduceBEq, Int.reduceBEq, Int.reduceBNe, Int.reduceEq, Int.reduceLT, Int.reduceLE, Int.reduceGT, Int.reduceNeg, reduceCtorEq, GZ, c, hb, hcut, IH]
theorem aA (s : Str) (h : s.length ≤ 4194304) : zE (EV Tryz.prog pol) 190 [.t (.str s), .t (.str [48])] = some (.t (.str (wb s))) := by
  have L := bH s h
  have d : zE (EV Tryz.prog pol) 208 [.t (.str s), .t (.int .u8 48)] = some (.t (.str (wb s))) := by
    apply zu
    refine zw rfl Tryz.func208 rfl (by kernel_rfl) ?_
    unfold Tryz.f208
    simp (disch := ((try simp only [LL]); omega)) only [↓GO, ↓DRW, GA, ren, zB, zd, refs, zb, cst, zl, zH, z7, E.load, E.store, zG, isC, bin, zI, zJ, una, z8, za, zh, zK, blt, fnV, asArg, ze, zn, zo, zj, zi, zg, zk, zr, z6, zD, zF, mkS, zc, unN, zM, zm, zy, zC, zf, zN, zq, GS, Int.reduceToNat, Nat.reduceGT, ↓reduceIte, Nat.reduceAdd, Nat.reduceMul, Nat.reduceSub, Nat.reduceEqDiff, Nat.reduceLeDiff, Nat.reduceLT, Nat.reduceBEq, Int.reduceBEq, Int.reduceBNe, Int.reduceEq, Int.reduceLT, Int.reduceLE, Int.reduceGT, Int.reduceNeg, reduceCtorEq, GZ, L]
  cases hs : (s == []) with
  | true =>
    have : s = [] := by simpa using hs
    subst this
    apply zu
    refine zw rfl Tryz.func190 rfl (by kernel_rfl) ?_
    unfold Tryz.f190
    simp (disch := ((try simp only [LL]); omega)) only [↓GO, ↓DRW, GA, ren, zB, zd, refs, zb, cst, zl, zH, z7, E.load, E.store, zG, isC, bin, zI, zJ, una, z8, za, zh, zK, blt, fnV, asArg, ze, zn, zo, zj, zi, zg, zk, zr, z6, zD, zF, mkS, zc, unN, zM, zm, zy, zC, zf, zN, zq, GS, Int.reduceToNat, Nat.reduceGT, ↓reduceIte, Nat.reduceAdd, Nat.reduceMul, Nat.reduceSub, Nat.reduceEqDiff, Nat.reduceLeDiff, Nat.reduceLT, Nat.reduceBEq, Int.reduceBEq, Int.reduceBNe, Int.reduceEq, Int.reduceLT, Int.reduceLE, Int.reduceGT, Int.reduceNeg, reduceCtorEq, GZ, hs]
    rfl
  | false =>
    have h48 : (([48] : Str) == []) = false := rfl
    have h49 : ((UInt8.toNat 48 : Nat) : Int) = 48 := rfl
    have h50 : decide ((48 : Int) < 128) = true := rfl
    apply zu
    refine zw rfl Tryz.func190 rfl (by kernel_rfl) ?_
    unfold Tryz.f190
    simp (disch := ((try simp only [LL]); omega)) only [↓GO, ↓DRW, GA, ren, zB, zd, refs, zb, cst, zl, zH, z7, E.load, E.store, zG, isC, bin, zI, zJ, una, z8, za, zh, zK, blt, fnV, asArg, ze, zn, zo, zj, zi, zg, zk, zr, z6, zD, zF, mkS, zc, unN, zM, zm, zy, zC, zf, zN, zq, GS, Int.reduceToNat, Nat.reduceGT, ↓reduceIte, Nat.reduceAdd, Nat.reduceMul, Nat.reduceSub, Nat.reduceEqDiff, Nat.reduceLeDiff, Nat.reduceLT, Nat.reduceBEq, Int.reduceBEq, Int.reduceBNe, Int.reduceEq, Int.reduceLT, Int.reduceLE, Int.reduceGT, Int.reduceNeg, reduceCtorEq, GZ, hs, h48, h49, h50, d, List.length_cons, List.length_nil]
theorem XA (a b : Str) (ha : a.length ≤ 4194304) (hb : b.length ≤ 4194304) : zE (EV Tryz.prog pol) 167 [.t (.str a), .t (.str b)] = some (.t (.int .i64 (ay a b))) := by
  have d1 := jD a (by omega)
  have d2 := jD b (by omega)
  have d3 := aA a ha
  have d4 := aA b hb
  have d5 := vz ((wb a).length : Int) ((wb b).length : Int)
  have d6 := Vo a b
  have d7 := Vo (wb a) (wb b)
  rw [ef] at d6 d7
  unfold ay
  generalize wb a = ta at *
  generalize wb b = tb at *
  generalize x9 (ta.length : Int) (tb.length : Int) = n at *
  cases h1 : isNum a <;> cases h2 : isNum b <;> rw [h1] at d1 <;> rw [h2] at d2 <;> simp only [Bool.and_true, Bool.and_false, cond_true, cond_false]
  · apply zu
    refine zw rfl Tryz.func167 rfl (by kernel_rfl) ?_
    unfold Tryz.f167
    simp (disch := ((try simp only [LL]); omega)) only [↓GO, ↓DRW, GA, ren, zB, zd, refs, zb, cst, zl, zH, z7, E.load, E.store, zG, isC, bin, zI, zJ, una, z8, za, zh, zK, blt, fnV, asArg, ze, zn, zo, zj, zi, zg, zk, zr, z6, zD, zF, mkS, zc, unN, zM, zm, zy, zC, zf, zN, zq, GS, Int.reduceToNat, Nat.reduceGT, ↓reduceIte, Nat.reduceAdd, Nat.reduceMul, Nat.reduceSub, Nat.reduceEqDiff, Nat.reduceLeDiff, Nat.reduceLT, Nat.reduceBEq, Int.reduceBEq, Int.reduceBNe, Int.reduceEq, Int.reduceLT, Int.reduceLE, Int.reduceGT, Int.reduceNeg, reduceCtorEq, GZ, d1, d2, d6]
  · apply zu
    refine zw rfl Tryz.func167 rfl (by kernel_rfl) ?_
    unfold Tryz.f167
    simp (disch := ((try simp only [LL]); omega)) only [↓GO, ↓DRW, GA, ren, zB, zd, refs, zb, cst, zl, zH, z7, E.load, E.store, zG, isC, bin, zI, zJ, una, z8, za, zh, zK, blt, fnV, asArg, ze, zn, zo, zj, zi, zg, zk, zr, z6, zD, zF, mkS, zc, unN, zM, zm, zy, zC, zf, zN, zq, GS, Int.reduceToNat, Nat.reduceGT, ↓reduceIte, Nat.reduceAdd, Nat.reduceMul, Nat.reduceSub, Nat.reduceEqDiff, Nat.reduceLeDiff, Nat.reduceLT, Nat.reduceBEq, Int.reduceBEq, Int.reduceBNe, Int.reduceEq, Int.reduceLT, Int.reduceLE, Int.reduceGT, Int.reduceNeg, reduceCtorEq, GZ, d1, d2, d6]
  · apply zu
    refine zw rfl Tryz.func167 rfl (by kernel_rfl) ?_
    unfold Tryz.f167
    simp (disch := ((try simp only [LL]); omega)) only [↓GO, ↓DRW, GA, ren, zB, zd, refs, zb, cst, zl, zH, z7, E.load, E.store, zG, isC, bin, zI, zJ, una, z8, za, zh, zK, blt, fnV, asArg, ze, zn, zo, zj, zi, zg, zk, zr, z6, zD, zF, mkS, zc, unN, zM, zm, zy, zC, zf, zN, zq, GS, Int.reduceToNat, Nat.reduceGT, ↓reduceIte, Nat.reduceAdd, Nat.reduceMul, Nat.reduceSub, Nat.reduceEqDiff, Nat.reduceLeDiff, Nat.reduceLT, Nat.reduceBEq, Int.reduceBEq, Int.reduceBNe, Int.reduceEq, Int.reduceLT, Int.reduceLE, Int.reduceGT, Int.reduceNeg, reduceCtorEq, GZ, d1, d2, d6]
  · cases hn : (n == 0)
    all_goals
      simp only [cond_true, cond_false]
      apply zu
      refine zw rfl Tryz.func167 rfl (by kernel_rfl) ?_
      unfold Tryz.f167
      simp (disch := ((try simp only [LL]); omega)) only [↓GO, ↓DRW, GA, ren, zB, zd, refs, zb, cst, zl, zH, z7, E.load, E.store, zG, isC, bin, zI, zJ, una, z8, za, zh, zK, blt, fnV, asArg, ze, zn, zo, zj, zi, zg, zk, zr, z6, zD, zF, mkS, zc, unN, zM, zm, zy, zC, zf, zN, zq, GS, Int.reduceToNat, Nat.reduceGT, ↓reduceIte, Nat.reduceAdd, Nat.reduceMul, Nat.reduceSub, Nat.reduceEqDiff, Nat.reduceLeDiff, Nat.reduceLT, Nat.reduceBEq, Int.reduceBEq, Int.reduceBNe, Int.reduceEq, Int.reduceLT, Int.reduceLE, Int.reduceGT, Int.reduceNeg, reduceCtorEq, GZ, d1, d2, d3, d4, d5, d7, hn, bne]
theorem Uj (x1 x2 x3 x4 y1 y2 y3 y4 : T) (a b c : Int) :
    EV Tryz.prog pol (.loop 137 26 0 [.ptr 0 0 0, .ptr 1 0 0, .sl 2 0 3 (some 3), .t (.int .i64 3), .t (.int .i64 0)] [.vs 4 [[.t x1, .t x2, .t x3, .t x4]], .vs 4 [[.t y1, .t y2, .t y3, .t y4]], .ts 1 [[.int .i64 a], [.int .i64 b], [.int .i64 c]]])
    = some (cond (a == 0) (cond (b == 0) (cond (c == 0) (.loop (.exit 0) [.ptr 0 0 0, .ptr 1 0 0, .bad] [.vs 4 [[.t x1, .t x2, .t x3, .t x4]], .vs 4 [[.t y1, .t y2, .t y3, .t y4]]])
      (.loop .ret [.ptr 0 0 0, .ptr 1 0 0, .t (.int .i64 c)] [.vs 4 [[.t x1, .t x2, .t x3, .t x4]], .vs 4 [[.t y1, .t y2, .t y3, .t y4]]]))
      (.loop .ret [.ptr 0 0 0, .ptr 1 0 0, .t (.int .i64 b)] [.vs 4 [[.t x1, .t x2, .t x3, .t x4]], .vs 4 [[.t y1, .t y2, .t y3, .t y4]]]))
      (.loop .ret [.ptr 0 0 0, .ptr 1 0 0, .t (.int .i64 a)] [.vs 4 [[.t x1, .t x2, .t x3, .t x4]], .vs 4 [[.t y1, .t y2, .t y3, .t y4]]])) := by
  cases h1 : (a == 0)
  · refine zz Tryz.func137 rfl rfl ?_
    simp (disch := ((try simp only [LL]); omega)) only [↓GO, ↓DRW, GA, ren, zB, zd, refs, zb, cst, zl, zH, z7, E.load, E.store, zG, isC, bin, zI, zJ, una, z8, za, zh, zK, blt, fnV, asArg, ze, zn, zo, zj, zi, zg, zk, zr, z6, zD, zF, mkS, zc, unN, zM, zm, zy, zC, zf, zN, zq, GS, Int.reduceToNat, Nat.reduceGT, ↓reduceIte, Nat.reduceAdd, Nat.reduceMul, Nat.reduceSub, Nat.reduceEqDiff, Nat.reduceLeDiff, Nat.reduceLT, Nat.reduceBEq, Int.reduceBEq, Int.reduceBNe, Int.reduceEq, Int.reduceLT, Int.reduceLE, Int.reduceGT, Int.reduceNeg, reduceCtorEq, GZ, h1, bne, zx, zY]
  · refine zz Tryz.func137 rfl rfl ?_
    simp (disch := ((try simp only [LL]); omega)) only [↓GO, ↓DRW, GA, ren, zB, zd, refs, zb, cst, zl, zH, z7, E.load, E.store, zG, isC, bin, zI, zJ, una, z8, za, zh, zK, blt, fnV, asArg, ze, zn, zo, zj, zi, zg, zk, zr, z6, zD, zF, mkS, zc, unN, zM, zm, zy, zC, zf, zN, zq, GS, Int.reduceToNat, Nat.reduceGT, ↓reduceIte, Nat.reduceAdd, Nat.reduceMul, Nat.reduceSub, Nat.reduceEqDiff, Nat.reduceLeDiff, Nat.reduceLT, Nat.reduceBEq, Int.reduceBEq, Int.reduceBNe, Int.reduceEq, Int.reduceLT, Int.reduceLE, Int.reduceGT, Int.reduceNeg, reduceCtorEq, GZ, h1, bne, zx, zY, Int.zero_add]
    cases h2 : (b == 0)
    · refine zz Tryz.func137 rfl rfl ?_
      simp (disch := ((try simp only [LL]); omega)) only [↓GO, ↓DRW, GA, ren, zB, zd, refs, zb, cst, zl, zH, z7, E.load, E.store, zG, isC, bin, zI, zJ, una, z8, za, zh, zK, blt, fnV, asArg, ze, zn, zo, zj, zi, zg, zk, zr, z6, zD, zF, mkS, zc, unN, zM, zm, zy, zC, zf, zN, zq, GS, Int.reduceToNat, Nat.reduceGT, ↓reduceIte, Nat.reduceAdd, Nat.reduceMul, Nat.reduceSub, Nat.reduceEqDiff, Nat.reduceLeDiff, Nat.reduceLT, Nat.reduceBEq, Int.reduceBEq, Int.reduceBNe, Int.reduceEq, Int.reduceLT, Int.reduceLE, Int.reduceGT, Int.reduceNeg, reduceCtorEq, GZ, h2, bne, zx, zY]
    · refine zz Tryz.func137 rfl rfl ?_
      simp (disch := ((try simp only [LL]); omega)) only [↓GO, ↓DRW, GA, ren, zB, zd, refs, zb, cst, zl, zH, z7, E.load, E.store, zG, isC, bin, zI, zJ, una, z8, za, zh, zK, blt, fnV, asArg, ze, zn, zo, zj, zi, zg, zk, zr, z6, zD, zF, mkS, zc, unN, zM, zm, zy, zC, zf, zN, zq, GS, Int.reduceToNat, Nat.reduceGT, ↓reduceIte, Nat.reduceAdd, Nat.reduceMul, Nat.reduceSub, Nat.reduceEqDiff, Nat.reduceLeDiff, Nat.reduceLT, Nat.reduceBEq, Int.reduceBEq, Int.reduceBNe, Int.reduceEq, Int.reduceLT, Int.reduceLE, Int.reduceGT, Int.reduceNeg, reduceCtorEq, GZ, h2, bne, zx, zY, Int.reduceAdd]
      cases h3 : (c == 0)
      · refine zz Tryz.func137 rfl rfl ?_
        simp (disch := ((try simp only [LL]); omega)) only [↓GO, ↓DRW, GA, ren, zB, zd, refs, zb, cst, zl, zH, z7, E.load, E.store, zG, isC, bin, zI, zJ, una, z8, za, zh, zK, blt, fnV, asArg, ze, zn, zo, zj, zi, zg, zk, zr, z6, zD, zF, mkS, zc, unN, zM, zm, zy, zC, zf, zN, zq, GS, Int.reduceToNat, Nat.reduceGT, ↓reduceIte, Nat.reduceAdd, Nat.reduceMul, Nat.reduceSub, Nat.reduceEqDiff, Nat.reduceLeDiff, Nat.reduceLT, Nat.reduceBEq, Int.reduceBEq, Int.reduceBNe, Int.reduceEq, Int.reduceLT, Int.reduceLE, Int.reduceGT, Int.reduceNeg, reduceCtorEq, GZ, h3, bne, zx, zY]
      · refine zz Tryz.func137 rfl rfl ?_
        simp (disch := ((try simp only [LL]); omega)) only [↓GO, ↓DRW, GA, ren, zB, zd, refs, zb, cst, zl, zH, z7, E.load, E.store, zG, isC, bin, zI, zJ, una, z8, za, zh, zK, blt, fnV, asArg, ze, zn, zo, zj, zi, zg, zk, zr, z6, zD, zF, mkS, zc, unN, zM, zm, zy, zC, zf, zN, zq, GS, Int.reduceToNat, Nat.reduceGT, ↓reduceIte, Nat.reduceAdd, Nat.reduceMul, Nat.reduceSub, Nat.reduceEqDiff, Nat.reduceLeDiff, Nat.reduceLT, Nat.reduceBEq, Int.reduceBEq, Int.reduceBNe, Int.reduceEq, Int.reduceLT, Int.reduceLE, Int.reduceGT, Int.reduceNeg, reduceCtorEq, GZ, h3, bne, zx, zY, Int.reduceAdd]
        refine zz Tryz.func137 rfl rfl ?_
        simp (disch := ((try simp only [LL]); omega)) only [↓GO, ↓DRW, GA, ren, zB, zd, refs, zb, cst, zl, zH, z7, E.load, E.store, zG, isC, bin, zI, zJ, una, z8, za, zh, zK, blt, fnV, asArg, ze, zn, zo, zj, zi, zg, zk, zr, z6, zD, zF, mkS, zc, unN, zM, zm, zy, zC, zf, zN, zq, GS, Int.reduceToNat, Nat.reduceGT, ↓reduceIte, Nat.reduceAdd, Nat.reduceMul, Nat.reduceSub, Nat.reduceEqDiff, Nat.reduceLeDiff, Nat.reduceLT, Nat.reduceBEq, Int.reduceBEq, Int.reduceBNe, Int.reduceEq, Int.reduceLT, Int.reduceLE, Int.reduceGT, Int.reduceNeg, reduceCtorEq, GZ, zx, zY]
theorem bS (a b : Ver) (ha : a.sm) (hb : b.sm) (M : Nat) (hM : M = min a.pre.length b.pre.length) : ∀ (ra rb pa pb : List Str), a.pre = pa ++ ra → b.pre = pb ++ rb → pa.length = pb.length →
    EV Tryz.prog pol (.loop 137 122 0 [.ptr 0 0 0, .ptr 1 0 0, .t (.int .i64 (M : Int)), .t (.int .i64 (pa.length : Int))] [.vs 4 [a.enc.map .t], .vs 4 [b.enc.map .t]])
    = some (match sL ra rb with
      | some n => .loop .ret [.ptr 0 0 0, .ptr 1 0 0, .t (.int .i64 n)] [.vs 4 [a.enc.map .t], .vs 4 [b.enc.map .t]]
      | none => .loop (.exit 2) [.ptr 0 0 0, .ptr 1 0 0, .bad] [.vs 4 [a.enc.map .t], .vs 4 [b.enc.map .t]])
  | [], rb, pa, pb, h1, h2, h3 => by
    have l1 : a.pre.length = pa.length := by rw [h1]; simp
    have c : decide ((pa.length : Int) < (M : Int)) = false := by apply decide_eq_false; omega
    have e : sL [] rb = none := by unfold sL; rfl
    rw [e]
    simp only [Ver.enc, List.map_cons, List.map_nil]
    refine zz Tryz.func137 rfl rfl ?_
    simp (disch := ((try simp only [LL]); omega)) only [↓GO, ↓DRW, GA, ren, zB, zd, refs, zb, cst, zl, zH, z7, E.load, E.store, zG, isC, bin, zI, zJ, una, z8, za, zh, zK, blt, fnV, asArg, ze, zn, zo, zj, zi, zg, zk, zr, z6, zD, zF, mkS, zc, unN, zM, zm, zy, zC, zf, zN, zq, GS, Int.reduceToNat, Nat.reduceGT, ↓reduceIte, Nat.reduceAdd, Nat.reduceMul, Nat.reduceSub, Nat.reduceEqDiff, Nat.reduceLeDiff, Nat.reduceLT, Nat.reduceBEq, Int.reduceBEq, Int.reduceBNe, Int.reduceEq, Int.reduceLT, Int.reduceLE, Int.reduceGT, Int.reduceNeg, reduceCtorEq, GZ, zP, c, zY]
  | x :: ra, [], pa, pb, h1, h2, h3 => by
    have l2 : b.pre.length = pb.length := by rw [h2]; simp
    have c : decide ((pa.length : Int) < (M : Int)) = false := by apply decide_eq_false; omega
    rw [show sL (x :: ra) [] = none from rfl]
    simp only [Ver.enc, List.map_cons, List.map_nil]
    refine zz Tryz.func137 rfl rfl ?_
    simp (disch := ((try simp only [LL]); omega)) only [↓GO, ↓DRW, GA, ren, zB, zd, refs, zb, cst, zl, zH, z7, E.load, E.store, zG, isC, bin, zI, zJ, una, z8, za, zh, zK, blt, fnV, asArg, ze, zn, zo, zj, zi, zg, zk, zr, z6, zD, zF, mkS, zc, unN, zM, zm, zy, zC, zf, zN, zq, GS, Int.reduceToNat, Nat.reduceGT, ↓reduceIte, Nat.reduceAdd, Nat.reduceMul, Nat.reduceSub, Nat.reduceEqDiff, Nat.reduceLeDiff, Nat.reduceLT, Nat.reduceBEq, Int.reduceBEq, Int.reduceBNe, Int.reduceEq, Int.reduceLT, Int.reduceLE, Int.reduceGT, Int.reduceNeg, reduceCtorEq, GZ, zP, c, zY]
  | x :: ra, y :: rb, pa, pb, h1, h2, h3 => by
    unfold Ver.sm at ha hb
    have l1 : pa.length + ra.length + 1 = a.pre.length := by rw [h1]; simp; omega
    have l2 : pb.length + rb.length + 1 = b.pre.length := by rw [h2]; simp; omega
    have c : decide ((pa.length : Int) < (M : Int)) = true := by apply decide_eq_true; omega
    have hg1 : (y6 a.pre)[pa.length]? = some [.str x] := by rw [h1]; exact xU pa x ra
    have hg2 : (y6 b.pre)[pa.length]? = some [.str y] := by rw [h2, h3]; exact xU pb y rb
    have hx : x.length ≤ 2097152 := by have := xX (ks := a.pre) (s := x) (by rw [h1]; simp); omega
    have hy : y.length ≤ 2097152 := by have := xX (ks := b.pre) (s := y) (by rw [h2]; simp); omega
    have hp := XA x y (by omega) (by omega)
    have IH := bS a b ha hb M hM ra rb (pa ++ [x]) (pb ++ [y]) (by rw [h1]; simp) (by rw [h2]; simp) (by simp [h3])
    rw [show ((pa ++ [x]).length : Int) = (pa.length : Int) + 1 by simp] at IH
    clear h1 h2
    simp only [Ver.enc, List.map_cons, List.map_nil] at IH ⊢
    rw [sL]
    generalize ay x y = n at *
    cases hn : (n == 0)
    · simp only [cond_false]
      refine zz Tryz.func137 rfl rfl ?_
      simp (disch := ((try simp only [LL]); omega)) only [↓GO, ↓DRW, GA, ren, zB, zd, refs, zb, cst, zl, zH, z7, E.load, E.store, zG, isC, bin, zI, zJ, una, z8, za, zh, zK, blt, fnV, asArg, ze, zn, zo, zj, zi, zg, zk, zr, z6, zD, zF, mkS, zc, unN, zM, zm, zy, zC, zf, zN, zq, GS, Int.reduceToNat, Nat.reduceGT, ↓reduceIte, Nat.reduceAdd, Nat.reduceMul, Nat.reduceSub, Nat.reduceEqDiff, Nat.reduceLeDiff, Nat.reduceLT, Nat.reduceBEq, Int.reduceBEq, Int.reduceBNe, Int.reduceEq, Int.reduceLT, Int.reduceLE, Int.reduceGT, Int.reduceNeg, reduceCtorEq, GZ, zP, c, hg1, hg2, hp, hn, bne, zx, zY]
    · simp only [cond_true]
      refine zz Tryz.func137 rfl rfl ?_
      simp (disch := ((try simp only [LL]); omega)) only [↓GO, ↓DRW, GA, ren, zB, zd, refs, zb, cst, zl, zH, z7, E.load, E.store, zG, isC, bin, zI, zJ, una, z8, za, zh, zK, blt, fnV, asArg, ze, zn, zo, zj, zi, zg, zk, zr, z6, zD, zF, mkS, zc, unN, zM, zm, zy, zC, zf, zN, zq, GS, Int.reduceToNat, Nat.reduceGT, ↓reduceIte, Nat.reduceAdd, Nat.reduceMul, Nat.reduceSub, Nat.reduceEqDiff, Nat.reduceLeDiff, Nat.reduceLT, Nat.reduceBEq, Int.reduceBEq, Int.reduceBNe, Int.reduceEq, Int.reduceLT, Int.reduceLE, Int.reduceGT, Int.reduceNeg, reduceCtorEq, GZ, zP, c, hg1, hg2, hp, hn, bne, zx, zY, IH]
theorem US (a b : Ver) (ha : a.sm) (hb : b.sm) : zE (EV Tryz.prog pol) 137 [.agg (a.enc.map .t), .agg (b.enc.map .t)] = some (.t (.int .i64 (pq a b))) := by
  have d1 := vz a.maj b.maj
  have d2 := vz a.min b.min
  have d3 := vz a.pat b.pat
  have d4 := vz (b.pre.length : Int) (a.pre.length : Int)
  have d5 := vz (a.pre.length : Int) (b.pre.length : Int)
  obtain ⟨M, hM⟩ : ∃ M, M = min a.pre.length b.pre.length := ⟨_, rfl⟩
  have L2 := bS a b ha hb M hM a.pre b.pre [] [] rfl rfl rfl
  have L1 := Uj (.int .i64 a.maj) (.int .i64 a.min) (.int .i64 a.pat) (.list 1 (y6 a.pre)) (.int .i64 b.maj) (.int .i64 b.min) (.int .i64 b.pat) (.list 1 (y6 b.pre)) (x9 a.maj b.maj) (x9 a.min b.min) (x9 a.pat b.pat)
  have e1 := u0 a.pre
  have e2 := u0 b.pre
  have hm : (if (b.pre.length : Int) < (a.pre.length : Int) then (b.pre.length : Int) else (a.pre.length : Int)) = (M : Int) := by split <;> omega
  clear hM
  unfold pq
  simp only [List.length_nil, Int.natCast_zero] at L2
  simp only [Ver.enc, List.map_cons, List.map_nil] at L1 L2 ⊢
  generalize x9 a.maj b.maj = n1 at *
  generalize x9 a.min b.min = n2 at *
  generalize x9 a.pat b.pat = n3 at *
  cases h1 : (n1 == 0) <;> rw [h1] at L1
  · simp only [cond_false] at L1
    apply zu
    refine zw rfl Tryz.func137 rfl (by kernel_rfl) ?_
    unfold Tryz.f137
    simp (disch := ((try simp only [LL]); omega)) only [↓GO, ↓DRW, GA, ren, zB, zd, refs, zb, cst, zl, zH, z7, E.load, E.store, zG, isC, bin, zI, zJ, una, z8, za, zh, zK, blt, fnV, asArg, ze, zn, zo, zj, zi, zg, zk, zr, z6, zD, zF, mkS, zc, unN, zM, zm, zy, zC, zf, zN, zq, GS, Int.reduceToNat, Nat.reduceGT, ↓reduceIte, Nat.reduceAdd, Nat.reduceMul, Nat.reduceSub, Nat.reduceEqDiff, Nat.reduceLeDiff, Nat.reduceLT, Nat.reduceBEq, Int.reduceBEq, Int.reduceBNe, Int.reduceEq, Int.reduceLT, Int.reduceLE, Int.reduceGT, Int.reduceNeg, reduceCtorEq, GZ, d1, d2, d3, L1, zY]
    refine yT (by kernel_rfl) ?_
    simp (disch := ((try simp only [LL]); omega)) only [↓GO, ↓DRW, GA, ren, zB, zd, refs, zb, cst, zl, zH, z7, E.load, E.store, zG, isC, bin, zI, zJ, una, z8, za, zh, zK, blt, fnV, asArg, ze, zn, zo, zj, zi, zg, zk, zr, z6, zD, zF, mkS, zc, unN, zM, zm, zy, zC, zf, zN, zq, GS, Int.reduceToNat, Nat.reduceGT, ↓reduceIte, Nat.reduceAdd, Nat.reduceMul, Nat.reduceSub, Nat.reduceEqDiff, Nat.reduceLeDiff, Nat.reduceLT, Nat.reduceBEq, Int.reduceBEq, Int.reduceBNe, Int.reduceEq, Int.reduceLT, Int.reduceLE, Int.reduceGT, Int.reduceNeg, reduceCtorEq, GZ, d1, d2, d3, L1, zY]
  · cases h2 : (n2 == 0) <;> rw [h2] at L1
    · simp only [cond_false, cond_true] at L1
      apply zu
      refine zw rfl Tryz.func137 rfl (by kernel_rfl) ?_
      unfold Tryz.f137
      simp (disch := ((try simp only [LL]); omega)) only [↓GO, ↓DRW, GA, ren, zB, zd, refs, zb, cst, zl, zH, z7, E.load, E.store, zG, isC, bin, zI, zJ, una, z8, za, zh, zK, blt, fnV, asArg, ze, zn, zo, zj, zi, zg, zk, zr, z6, zD, zF, mkS, zc, unN, zM, zm, zy, zC, zf, zN, zq, GS, Int.reduceToNat, Nat.reduceGT, ↓reduceIte, Nat.reduceAdd, Nat.reduceMul, Nat.reduceSub, Nat.reduceEqDiff, Nat.reduceLeDiff, Nat.reduceLT, Nat.reduceBEq, Int.reduceBEq, Int.reduceBNe, Int.reduceEq, Int.reduceLT, Int.reduceLE, Int.reduceGT, Int.reduceNeg, reduceCtorEq, GZ, d1, d2, d3, L1, zY]
      refine yT (by kernel_rfl) ?_
      simp (disch := ((try simp only [LL]); omega)) only [↓GO, ↓DRW, GA, ren, zB, zd, refs, zb, cst, zl, zH, z7, E.load, E.store, zG, isC, bin, zI, zJ, una, z8, za, zh, zK, blt, fnV, asArg, ze, zn, zo, zj, zi, zg, zk, zr, z6, zD, zF, mkS, zc, unN, zM, zm, zy, zC, zf, zN, zq, GS, Int.reduceToNat, Nat.reduceGT, ↓reduceIte, Nat.reduceAdd, Nat.reduceMul, Nat.reduceSub, Nat.reduceEqDiff, Nat.reduceLeDiff, Nat.reduceLT, Nat.reduceBEq, Int.reduceBEq, Int.reduceBNe, Int.reduceEq, Int.reduceLT, Int.reduceLE, Int.reduceGT, Int.reduceNeg, reduceCtorEq, GZ, d1, d2, d3, L1, zY]
    · cases h3 : (n3 == 0) <;> rw [h3] at L1
      · simp only [cond_false, cond_true] at L1
        apply zu
        refine zw rfl Tryz.func137 rfl (by kernel_rfl) ?_
        unfold Tryz.f137
        simp (disch := ((try simp only [LL]); omega)) only [↓GO, ↓DRW, GA, ren, zB, zd, refs, zb, cst, zl, zH, z7, E.load, E.store, zG, isC, bin, zI, zJ, una, z8, za, zh, zK, blt, fnV, asArg, ze, zn, zo, zj, zi, zg, zk, zr, z6, zD, zF, mkS, zc, unN, zM, zm, zy, zC, zf, zN, zq, GS, Int.reduceToNat, Nat.reduceGT, ↓reduceIte, Nat.reduceAdd, Nat.reduceMul, Nat.reduceSub, Nat.reduceEqDiff, Nat.reduceLeDiff, Nat.reduceLT, Nat.reduceBEq, Int.reduceBEq, Int.reduceBNe, Int.reduceEq, Int.reduceLT, Int.reduceLE, Int.reduceGT, Int.reduceNeg, reduceCtorEq, GZ, d1, d2, d3, L1, zY]
        refine yT (by kernel_rfl) ?_
        simp (disch := ((try simp only [LL]); omega)) only [↓GO, ↓DRW, GA, ren, zB, zd, refs, zb, cst, zl, zH, z7, E.load, E.store, zG, isC, bin, zI, zJ, una, z8, za, zh, zK, blt, fnV, asArg, ze, zn, zo, zj, zi, zg, zk, zr, z6, zD, zF, mkS, zc, unN, zM, zm, zy, zC, zf, zN, zq, GS, Int.reduceToNat, Nat.reduceGT, ↓reduceIte, Nat.reduceAdd, Nat.reduceMul, Nat.reduceSub, Nat.reduceEqDiff, Nat.reduceLeDiff, Nat.reduceLT, Nat.reduceBEq, Int.reduceBEq, Int.reduceBNe, Int.reduceEq, Int.reduceLT, Int.reduceLE, Int.reduceGT, Int.reduceNeg, reduceCtorEq, GZ, d1, d2, d3, L1, zY]
      · simp only [cond_true] at L1
        cases hs : sL a.pre b.pre <;> rw [hs] at L2 <;> simp only at L2 <;> cases h4 : (a.pre == []) <;> cases h5 : (b.pre == []) <;> rw [h4] at e1 <;> rw [h5] at e2
        all_goals
          apply zu
          refine zw rfl Tryz.func137 rfl (by kernel_rfl) ?_
          unfold Tryz.f137
          simp (disch := ((try simp only [LL]); omega)) only [↓GO, ↓DRW, GA, ren, zB, zd, refs, zb, cst, zl, zH, z7, E.load, E.store, zG, isC, bin, zI, zJ, una, z8, za, zh, zK, blt, fnV, asArg, ze, zn, zo, zj, zi, zg, zk, zr, z6, zD, zF, mkS, zc, unN, zM, zm, zy, zC, zf, zN, zq, GS, Int.reduceToNat, Nat.reduceGT, ↓reduceIte, Nat.reduceAdd, Nat.reduceMul, Nat.reduceSub, Nat.reduceEqDiff, Nat.reduceLeDiff, Nat.reduceLT, Nat.reduceBEq, Int.reduceBEq, Int.reduceBNe, Int.reduceEq, Int.reduceLT, Int.reduceLE, Int.reduceGT, Int.reduceNeg, reduceCtorEq, GZ, d1, d2, d3, d4, d5, L1, L2, hm, zP, e1, e2, bne, Bool.beq_eq_decide_eq, zY]
          refine yT (by kernel_rfl) ?_
          simp (disch := ((try simp only [LL]); omega)) only [↓GO, ↓DRW, GA, ren, zB, zd, refs, zb, cst, zl, zH, z7, E.load, E.store, zG, isC, bin, zI, zJ, una, z8, za, zh, zK, blt, fnV, asArg, ze, zn, zo, zj, zi, zg, zk, zr, z6, zD, zF, mkS, zc, unN, zM, zm, zy, zC, zf, zN, zq, GS, Int.reduceToNat, Nat.reduceGT, ↓reduceIte, Nat.reduceAdd, Nat.reduceMul, Nat.reduceSub, Nat.reduceEqDiff, Nat.reduceLeDiff, Nat.reduceLT, Nat.reduceBEq, Int.reduceBEq, Int.reduceBNe, Int.reduceEq, Int.reduceLT, Int.reduceLE, Int.reduceGT, Int.reduceNeg, reduceCtorEq, GZ, d1, d2, d3, d4, d5, L1, L2, hm, zP, e1, e2, bne, zY, Option.getD_some, Option.getD_none]
theorem Ty (a b : Str) (ha : a.length ≤ 1048700) (hb : b.length ≤ 1048700) : zE (EV Tryz.prog pol) 100 [.t (.str a), .t (.str b)] = some (.t (.int .i64 (pq (zA a).1 (zA b).1))) := by
  have d1 := oA a ha
  have d2 := oA b hb
  have d3 := US (zA a).1 (zA b).1 (yW a ha).1 (yW b hb).1
  unfold rvT at d1 d2
  generalize pq (zA a).1 (zA b).1 = n at *
  generalize (zA a).1 = va at *
  generalize (zA b).1 = vb at *
  simp only [Ver.enc, List.map_cons, List.map_nil] at d1 d2 d3
  apply zu
  refine zw rfl Tryz.func100 rfl (by kernel_rfl) ?_
  unfold Tryz.f100
  simp (disch := ((try simp only [LL]); omega)) only [↓GO, ↓DRW, GA, ren, zB, zd, refs, zb, cst, zl, zH, z7, E.load, E.store, zG, isC, bin, zI, zJ, una, z8, za, zh, zK, blt, fnV, asArg, ze, zn, zo, zj, zi, zg, zk, zr, z6, zD, zF, mkS, zc, unN, zM, zm, zy, zC, zf, zN, zq, GS, Int.reduceToNat, Nat.reduceGT, ↓reduceIte, Nat.reduceAdd, Nat.reduceMul, Nat.reduceSub, Nat.reduceEqDiff, Nat.reduceLeDiff, Nat.reduceLT, Nat.reduceBEq, Int.reduceBEq, Int.reduceBNe, Int.reduceEq, Int.reduceLT, Int.reduceLE, Int.reduceGT, Int.reduceNeg, reduceCtorEq, GZ, d1, d2, d3, zY]
end Go.Proofs.YtmcephnfcciloaaGreatDoor
/- What is in a range, by both; what a notice tells of. Conditions: those of each lemma. -/
namespace Go.Proofs.YtmcephnfcciloaaGreatDoor
open E
set_option linter.unusedSimpArgs false
set_option linter.unusedVariables false
set_option maxRecDepth 100000
theorem a6 {α : Type} [BEq α] (l : List α) : decide ((l.length : Int) > 0) = !(l == []) := by
  cases l with
  | nil => rfl
  | cons x r => rw [beq_nil_cons]; simp only [Bool.not_false]; apply decide_eq_true; simp only [List.length_cons]; omega
set_option maxHeartbeats 16000000 in
theorem Tn (s : Str) (v : Ver) (hv : zA s = (v, true)) (hs : s.length ≤ 1048700) (l : List Bd) (hl : l.length ≤ 4194304) (hb : ∀ b ∈ l, b.1.length ≤ 1048700 ∧ b.2.length ≤ 1048700) : ∀ (rest pre : List Bd), l = pre ++ rest → ∃ x,
    EV Tryz.prog pol (.loop 66 122 0 [.t (.str s), .ptr 0 0 0, .t (.list 2 (bdT l)), .t (.int .i64 (l.length : Int)), .t (.int .i64 (pre.length : Int))] [.vs 4 [v.enc.map .t]])
      = some (cond (rest.any (pr v)) (.loop .ret [.t (.bool true)] []) (.loop (.exit 0) [x] []))
  | [], pre, h => by
    have c : decide ((pre.length : Int) < (l.length : Int)) = false := by simp [h]
    refine ⟨.bad, ?_⟩
    simp only [List.any_nil, cond_false, Ver.enc, List.map_cons, List.map_nil]
    refine zz Tryz.func66 rfl rfl ?_
    simp (disch := ((try simp only [LL]); omega)) only [↓GO, ↓DRW, GA, ren, zB, zd, refs, zb, cst, zl, zH, z7, E.load, E.store, zG, isC, bin, zI, zJ, una, z8, za, zh, zK, blt, fnV, asArg, ze, zn, zo, zj, zi, zg, zk, zr, z6, zD, zF, mkS, zc, unN, zM, zm, zy, zC, zf, zN, zq, GS, Int.reduceToNat, Nat.reduceGT, ↓reduceIte, Nat.reduceAdd, Nat.reduceMul, Nat.reduceSub, Nat.reduceEqDiff, Nat.reduceLeDiff, Nat.reduceLT, Nat.reduceBEq, Int.reduceBEq, Int.reduceBNe, Int.reduceEq, Int.reduceLT, Int.reduceLE, Int.reduceGT, Int.reduceNeg, reduceCtorEq, GZ, c, zY]
  | b :: rest, pre, h => by
    have c : decide ((pre.length : Int) < (l.length : Int)) = true := by simp [h]; omega
    have hget : (bdT l)[pre.length]? = some [.str b.1, .str b.2] := by rw [h]; exact wB (fun b : Bd => [T.str b.1, T.str b.2]) pre b rest
    have hlen : pre.length + rest.length + 1 ≤ l.length := by rw [h]; simp; omega
    obtain ⟨hb1, hb2⟩ := hb b (by rw [h]; simp)
    have d1 := Ty s b.1 hs hb1
    have d2 := Ty s b.2 hs hb2
    have d3 := oA b.1 hb1
    rw [hv] at d1 d2
    obtain ⟨x, IH⟩ := Tn s v hv hs l hl hb rest (pre ++ [b]) (by rw [h]; simp)
    rw [show ((pre ++ [b]).length : Int) = (pre.length : Int) + 1 by simp] at IH
    refine ⟨x, ?_⟩
    have e1 := u0 v.pre
    have e2 := a6 (zA b.1).1.pre
    rw [List.any_cons]
    generalize hR : rest.any (pr v) = R at *
    have ht : pr v b = cond ((!(b.1 == []) && decide (pq v (zA b.1).1 < 0)) || (!(b.2 == []) && decide (pq v (zA b.2).1 ≥ 0))) false
      (v.pre == [] || (!((zA b.1).1.pre == []) && ((zA b.1).1.maj == v.maj && ((zA b.1).1.min == v.min && (zA b.1).1.pat == v.pat)))) := rfl
    rw [ht]
    clear h hb hv ht hR
    obtain ⟨lo, hi⟩ := b
    unfold rvT at d3
    simp only at d1 d2 d3 e2 hget ⊢
    generalize (zA lo).2 = okl at *
    generalize pq v (zA lo).1 = n1 at *
    generalize pq v (zA hi).1 = n2 at *
    generalize (zA lo).1 = vl at *
    obtain ⟨maj, min, pat, pre'⟩ := v
    obtain ⟨maj2, min2, pat2, pre2⟩ := vl
    simp only [Ver.enc, List.map_cons, List.map_nil] at d3 IH e1 e2 ⊢
    have skip : ∀ (q : Bool), q = true → True := fun _ _ => trivial
    cases q1 : (lo == []) <;> cases q2 : decide (n1 < 0) <;> cases q3 : (hi == []) <;> cases q4 : decide (n2 ≥ 0) <;> simp only [Bool.not_true, Bool.not_false, Bool.and_true, Bool.true_and, Bool.false_and, Bool.and_false, Bool.or_false, Bool.or_true, cond_true, cond_false, Bool.false_or]
    all_goals first
      | (refine zz Tryz.func66 rfl rfl ?_
         simp (disch := ((try simp only [LL]); omega)) only [↓GO, ↓DRW, GA, ren, zB, zd, refs, zb, cst, zl, zH, z7, E.load, E.store, zG, isC, bin, zI, zJ, una, z8, za, zh, zK, blt, fnV, asArg, ze, zn, zo, zj, zi, zg, zk, zr, z6, zD, zF, mkS, zc, unN, zM, zm, zy, zC, zf, zN, zq, GS, Int.reduceToNat, Nat.reduceGT, ↓reduceIte, Nat.reduceAdd, Nat.reduceMul, Nat.reduceSub, Nat.reduceEqDiff, Nat.reduceLeDiff, Nat.reduceLT, Nat.reduceBEq, Int.reduceBEq, Int.reduceBNe, Int.reduceEq, Int.reduceLT, Int.reduceLE, Int.reduceGT, Int.reduceNeg, reduceCtorEq, GZ, c, hget, d1, d2, d3, q1, q2, q3, q4, e1, e2, bne, zP, zx, zY, IH]
         done)
      | (cases q5 : (pre' == []) <;> rw [q5] at e1
         · cases q6 : (pre2 == []) <;> rw [q6] at e2
           · cases q7 : (maj2 == maj)
             · refine zz Tryz.func66 rfl rfl ?_
               simp (disch := ((try simp only [LL]); omega)) only [↓GO, ↓DRW, GA, ren, zB, zd, refs, zb, cst, zl, zH, z7, E.load, E.store, zG, isC, bin, zI, zJ, una, z8, za, zh, zK, blt, fnV, asArg, ze, zn, zo, zj, zi, zg, zk, zr, z6, zD, zF, mkS, zc, unN, zM, zm, zy, zC, zf, zN, zq, GS, Int.reduceToNat, Nat.reduceGT, ↓reduceIte, Nat.reduceAdd, Nat.reduceMul, Nat.reduceSub, Nat.reduceEqDiff, Nat.reduceLeDiff, Nat.reduceLT, Nat.reduceBEq, Int.reduceBEq, Int.reduceBNe, Int.reduceEq, Int.reduceLT, Int.reduceLE, Int.reduceGT, Int.reduceNeg, reduceCtorEq, GZ, c, hget, d1, d2, d3, q1, q2, q3, q4, e1, e2, q7, bne, zP, zx, zY, IH, Bool.not_false, Bool.not_true, Bool.and_false, Bool.false_or]
             · cases q8 : (min2 == min)
               · refine zz Tryz.func66 rfl rfl ?_
                 simp (disch := ((try simp only [LL]); omega)) only [↓GO, ↓DRW, GA, ren, zB, zd, refs, zb, cst, zl, zH, z7, E.load, E.store, zG, isC, bin, zI, zJ, una, z8, za, zh, zK, blt, fnV, asArg, ze, zn, zo, zj, zi, zg, zk, zr, z6, zD, zF, mkS, zc, unN, zM, zm, zy, zC, zf, zN, zq, GS, Int.reduceToNat, Nat.reduceGT, ↓reduceIte, Nat.reduceAdd, Nat.reduceMul, Nat.reduceSub, Nat.reduceEqDiff, Nat.reduceLeDiff, Nat.reduceLT, Nat.reduceBEq, Int.reduceBEq, Int.reduceBNe, Int.reduceEq, Int.reduceLT, Int.reduceLE, Int.reduceGT, Int.reduceNeg, reduceCtorEq, GZ, c, hget, d1, d2, d3, q1, q2, q3, q4, e1, e2, q7, q8, bne, zP, zx, zY, IH, Bool.not_false, Bool.not_true, Bool.and_false, Bool.false_or]
               · cases q9 : (pat2 == pat)
                 all_goals
                   refine zz Tryz.func66 rfl rfl ?_
                   simp (disch := ((try simp only [LL]); omega)) only [↓GO, ↓DRW, GA, ren, zB, zd, refs, zb, cst, zl, zH, z7, E.load, E.store, zG, isC, bin, zI, zJ, una, z8, za, zh, zK, blt, fnV, asArg, ze, zn, zo, zj, zi, zg, zk, zr, z6, zD, zF, mkS, zc, unN, zM, zm, zy, zC, zf, zN, zq, GS, Int.reduceToNat, Nat.reduceGT, ↓reduceIte, Nat.reduceAdd, Nat.reduceMul, Nat.reduceSub, Nat.reduceEqDiff, Nat.reduceLeDiff, Nat.reduceLT, Nat.reduceBEq, Int.reduceBEq, Int.reduceBNe, Int.reduceEq, Int.reduceLT, Int.reduceLE, Int.reduceGT, Int.reduceNeg, reduceCtorEq, GZ, c, hget, d1, d2, d3, q1, q2, q3, q4, e1, e2, q7, q8, q9, bne, zP, zx, zY, IH, Bool.not_false, Bool.not_true, Bool.and_false, Bool.false_or]
           · refine zz Tryz.func66 rfl rfl ?_
             simp (disch := ((try simp only [LL]); omega)) only [↓GO, ↓DRW, GA, ren, zB, zd, refs, zb, cst, zl, zH, z7, E.load, E.store, zG, isC, bin, zI, zJ, una, z8, za, zh, zK, blt, fnV, asArg, ze, zn, zo, zj, zi, zg, zk, zr, z6, zD, zF, mkS, zc, unN, zM, zm, zy, zC, zf, zN, zq, GS, Int.reduceToNat, Nat.reduceGT, ↓reduceIte, Nat.reduceAdd, Nat.reduceMul, Nat.reduceSub, Nat.reduceEqDiff, Nat.reduceLeDiff, Nat.reduceLT, Nat.reduceBEq, Int.reduceBEq, Int.reduceBNe, Int.reduceEq, Int.reduceLT, Int.reduceLE, Int.reduceGT, Int.reduceNeg, reduceCtorEq, GZ, c, hget, d1, d2, d3, q1, q2, q3, q4, e1, e2, bne, zP, zx, zY, IH, Bool.not_false, Bool.not_true, Bool.and_false, Bool.false_or]
         · refine zz Tryz.func66 rfl rfl ?_
           simp (disch := ((try simp only [LL]); omega)) only [↓GO, ↓DRW, GA, ren, zB, zd, refs, zb, cst, zl, zH, z7, E.load, E.store, zG, isC, bin, zI, zJ, una, z8, za, zh, zK, blt, fnV, asArg, ze, zn, zo, zj, zi, zg, zk, zr, z6, zD, zF, mkS, zc, unN, zM, zm, zy, zC, zf, zN, zq, GS, Int.reduceToNat, Nat.reduceGT, ↓reduceIte, Nat.reduceAdd, Nat.reduceMul, Nat.reduceSub, Nat.reduceEqDiff, Nat.reduceLeDiff, Nat.reduceLT, Nat.reduceBEq, Int.reduceBEq, Int.reduceBNe, Int.reduceEq, Int.reduceLT, Int.reduceLE, Int.reduceGT, Int.reduceNeg, reduceCtorEq, GZ, c, hget, d1, d2, d3, q1, q2, q3, q4, e1, e2, bne, zP, zx, zY, IH, Bool.true_or])
end Go.Proofs.YtmcephnfcciloaaGreatDoor
/- What is in a range, by both; what a notice tells of. Conditions: those of each lemma. -/
namespace Go.Proofs.YtmcephnfcciloaaGreatDoor
open E
set_option linter.unusedSimpArgs false
set_option linter.unusedVariables false
set_option maxRecDepth 100000
def BdB (l : List Bd) : Prop := l.length ≤ 4194304 ∧ ∀ b ∈ l, b.1.length ≤ 1048600 ∧ b.2.length ≤ 1048600
theorem c_inI (s : Str) (hs : s.length ≤ 1048576) (l : List Bd) (hl : BdB l) : zE (EV Tryz.prog pol) 66 [.t (.str s), .t (.list 2 (bdT l))] = some (.t (.bool (inB s l))) := by
  have hb : ∀ b ∈ l, b.1.length ≤ 1048700 ∧ b.2.length ≤ 1048700 := fun b hb => by have := hl.2 b hb; omega
  have d1 := oA s (by omega)
  have d2 := Vp l hl.1 hb
  unfold rvT at d1
  unfold inB
  cases ho : (zA s).2 with
  | false =>
    rw [ho] at d1
    generalize (zA s).1 = v at *
    simp only [Bool.false_and]
    obtain ⟨maj, min, pat, pre⟩ := v
    simp only [Ver.enc, List.map_cons, List.map_nil] at d1
    apply zu
    refine zw rfl Tryz.func66 rfl (by kernel_rfl) ?_
    unfold Tryz.f66
    simp (disch := ((try simp only [LL]); omega)) only [↓GO, ↓DRW, GA, ren, zB, zd, refs, zb, cst, zl, zH, z7, E.load, E.store, zG, isC, bin, zI, zJ, una, z8, za, zh, zK, blt, fnV, asArg, ze, zn, zo, zj, zi, zg, zk, zr, z6, zD, zF, mkS, zc, unN, zM, zm, zy, zC, zf, zN, zq, GS, Int.reduceToNat, Nat.reduceGT, ↓reduceIte, Nat.reduceAdd, Nat.reduceMul, Nat.reduceSub, Nat.reduceEqDiff, Nat.reduceLeDiff, Nat.reduceLT, Nat.reduceBEq, Int.reduceBEq, Int.reduceBNe, Int.reduceEq, Int.reduceLT, Int.reduceLE, Int.reduceGT, Int.reduceNeg, reduceCtorEq, GZ, d1, zY]
  | true =>
    have hv : zA s = ((zA s).1, true) := by rw [← ho]
    have hvo := (yu ho).2.2.1
    obtain ⟨x, L⟩ := Tn s _ hv (by omega) l hl.1 hb l [] rfl
    rw [ho] at d1
    simp only [List.length_nil, Int.natCast_zero] at L
    cases hr : xk l with
    | false =>
      rw [hr] at d2
      generalize (zA s).1 = v at *
      simp only [Bool.true_and, Bool.false_and]
      obtain ⟨maj, min, pat, pre⟩ := v
      simp only [Ver.enc, List.map_cons, List.map_nil] at d1
      apply zu
      refine zw rfl Tryz.func66 rfl (by kernel_rfl) ?_
      unfold Tryz.f66
      simp (disch := ((try simp only [LL]); omega)) only [↓GO, ↓DRW, GA, ren, zB, zd, refs, zb, cst, zl, zH, z7, E.load, E.store, zG, isC, bin, zI, zJ, una, z8, za, zh, zK, blt, fnV, asArg, ze, zn, zo, zj, zi, zg, zk, zr, z6, zD, zF, mkS, zc, unN, zM, zm, zy, zC, zf, zN, zq, GS, Int.reduceToNat, Nat.reduceGT, ↓reduceIte, Nat.reduceAdd, Nat.reduceMul, Nat.reduceSub, Nat.reduceEqDiff, Nat.reduceLeDiff, Nat.reduceLT, Nat.reduceBEq, Int.reduceBEq, Int.reduceBNe, Int.reduceEq, Int.reduceLT, Int.reduceLE, Int.reduceGT, Int.reduceNeg, reduceCtorEq, GZ, d1, d2, zY]
    | true =>
      rw [hr] at d2
      have hall : (l.all fun b => isE b.1 && isE b.2) = true := by
        unfold xk at hr
        rw [Bool.and_eq_true] at hr
        exact hr.1
      rw [ew hvo l hall] at L
      generalize l.any (vL (zA s).1) = R at *
      generalize (zA s).1 = v at *
      simp only [Bool.true_and]
      obtain ⟨maj, min, pat, pre⟩ := v
      simp only [Ver.enc, List.map_cons, List.map_nil] at d1 L
      have hbl : (bdT l).length = l.length := xO l
      cases R <;> simp only [cond_true, cond_false] at L
      all_goals
        apply zu
        refine zw rfl Tryz.func66 rfl (by kernel_rfl) ?_
        unfold Tryz.f66
        simp (disch := ((try simp only [LL]); omega)) only [↓GO, ↓DRW, GA, ren, zB, zd, refs, zb, cst, zl, zH, z7, E.load, E.store, zG, isC, bin, zI, zJ, una, z8, za, zh, zK, blt, fnV, asArg, ze, zn, zo, zj, zi, zg, zk, zr, z6, zD, zF, mkS, zc, unN, zM, zm, zy, zC, zf, zN, zq, GS, Int.reduceToNat, Nat.reduceGT, ↓reduceIte, Nat.reduceAdd, Nat.reduceMul, Nat.reduceSub, Nat.reduceEqDiff, Nat.reduceLeDiff, Nat.reduceLT, Nat.reduceBEq, Int.reduceBEq, Int.reduceBNe, Int.reduceEq, Int.reduceLT, Int.reduceLE, Int.reduceGT, Int.reduceNeg, reduceCtorEq, GZ, d1, d2, L, hbl, zY]
set_option maxHeartbeats 16000000 in
theorem c_tkR (v : Ver) (hv : v.sm) (b : Bd) (hb : b.1.length ≤ 1048600 ∧ b.2.length ≤ 1048600) : zE (EV Tryz.prog pol) 89 [.agg [.t (.str b.1), .t (.str b.2)], .agg (v.enc.map .t)] = some (.t (.bool (vL v b))) := by
  obtain ⟨lo, hi⟩ := b
  simp only at hb ⊢
  have d1 := oz lo (by omega)
  have d2 := oz hi (by omega)
  have d3 := cN v (zA lo).1 hv (yW lo (by omega)).1
  have d4 := cN v (zA hi).1 hv (yW hi (by omega)).1
  have e1 := u0 v.pre
  have e2 := a6 (zA lo).1.pre
  have ht : vL v (lo, hi) = cond (((zA lo).2 && decide (rN v (zA lo).1 < 0)) || ((zA hi).2 && decide (rN v (zA hi).1 ≥ 0))) false
      (v.pre == [] || ((zA lo).2 && (!((zA lo).1.pre == []) && ((zA lo).1.maj == v.maj && ((zA lo).1.min == v.min && (zA lo).1.pat == v.pat))))) := rfl
  rw [ht]
  clear ht
  unfold rvT at d1 d2
  generalize (zA lo).2 = okl at *
  generalize (zA hi).2 = okh at *
  generalize rN v (zA lo).1 = n1 at *
  generalize rN v (zA hi).1 = n2 at *
  generalize (zA lo).1 = vl at *
  generalize (zA hi).1 = vh at *
  obtain ⟨maj, min, pat, pre'⟩ := v
  obtain ⟨maj2, min2, pat2, pre2⟩ := vl
  obtain ⟨maj3, min3, pat3, pre3⟩ := vh
  simp only [Ver.enc, List.map_cons, List.map_nil] at d1 d2 d3 d4 e1 e2 ⊢
  cases okl <;> cases q2 : decide (n1 < 0) <;> cases okh <;> cases q4 : decide (n2 ≥ 0) <;> simp only [Bool.and_true, Bool.true_and, Bool.false_and, Bool.and_false, Bool.or_false, Bool.or_true, cond_true, cond_false, Bool.false_or]
  all_goals first
    | (skip
       apply zu
       refine zw rfl Tryz.func89 rfl (by kernel_rfl) ?_
       unfold Tryz.f89
       simp (disch := ((try simp only [LL]); omega)) only [↓GO, ↓DRW, GA, ren, zB, zd, refs, zb, cst, zl, zH, z7, E.load, E.store, zG, isC, bin, zI, zJ, una, z8, za, zh, zK, blt, fnV, asArg, ze, zn, zo, zj, zi, zg, zk, zr, z6, zD, zF, mkS, zc, unN, zM, zm, zy, zC, zf, zN, zq, GS, Int.reduceToNat, Nat.reduceGT, ↓reduceIte, Nat.reduceAdd, Nat.reduceMul, Nat.reduceSub, Nat.reduceEqDiff, Nat.reduceLeDiff, Nat.reduceLT, Nat.reduceBEq, Int.reduceBEq, Int.reduceBNe, Int.reduceEq, Int.reduceLT, Int.reduceLE, Int.reduceGT, Int.reduceNeg, reduceCtorEq, GZ, d1, d2, d3, d4, q2, q4, e1, e2, bne, zP, zY]
       done)
    | (cases q5 : (pre' == []) <;> rw [q5] at e1
       · cases q6 : (pre2 == []) <;> rw [q6] at e2
         · cases q7 : (maj2 == maj)
           · apply zu
             refine zw rfl Tryz.func89 rfl (by kernel_rfl) ?_
             unfold Tryz.f89
             simp (disch := ((try simp only [LL]); omega)) only [↓GO, ↓DRW, GA, ren, zB, zd, refs, zb, cst, zl, zH, z7, E.load, E.store, zG, isC, bin, zI, zJ, una, z8, za, zh, zK, blt, fnV, asArg, ze, zn, zo, zj, zi, zg, zk, zr, z6, zD, zF, mkS, zc, unN, zM, zm, zy, zC, zf, zN, zq, GS, Int.reduceToNat, Nat.reduceGT, ↓reduceIte, Nat.reduceAdd, Nat.reduceMul, Nat.reduceSub, Nat.reduceEqDiff, Nat.reduceLeDiff, Nat.reduceLT, Nat.reduceBEq, Int.reduceBEq, Int.reduceBNe, Int.reduceEq, Int.reduceLT, Int.reduceLE, Int.reduceGT, Int.reduceNeg, reduceCtorEq, GZ, d1, d2, d3, d4, q2, q4, e1, e2, q7, bne, zP, zY, Bool.not_false, Bool.not_true, Bool.and_false, Bool.false_or]
           · cases q8 : (min2 == min)
             · apply zu
               refine zw rfl Tryz.func89 rfl (by kernel_rfl) ?_
               unfold Tryz.f89
               simp (disch := ((try simp only [LL]); omega)) only [↓GO, ↓DRW, GA, ren, zB, zd, refs, zb, cst, zl, zH, z7, E.load, E.store, zG, isC, bin, zI, zJ, una, z8, za, zh, zK, blt, fnV, asArg, ze, zn, zo, zj, zi, zg, zk, zr, z6, zD, zF, mkS, zc, unN, zM, zm, zy, zC, zf, zN, zq, GS, Int.reduceToNat, Nat.reduceGT, ↓reduceIte, Nat.reduceAdd, Nat.reduceMul, Nat.reduceSub, Nat.reduceEqDiff, Nat.reduceLeDiff, Nat.reduceLT, Nat.reduceBEq, Int.reduceBEq, Int.reduceBNe, Int.reduceEq, Int.reduceLT, Int.reduceLE, Int.reduceGT, Int.reduceNeg, reduceCtorEq, GZ, d1, d2, d3, d4, q2, q4, e1, e2, q7, q8, bne, zP, zY, Bool.not_false, Bool.not_true, Bool.and_false, Bool.false_or]
             · cases q9 : (pat2 == pat)
               all_goals
                 apply zu
                 refine zw rfl Tryz.func89 rfl (by kernel_rfl) ?_
                 unfold Tryz.f89
                 simp (disch := ((try simp only [LL]); omega)) only [↓GO, ↓DRW, GA, ren, zB, zd, refs, zb, cst, zl, zH, z7, E.load, E.store, zG, isC, bin, zI, zJ, una, z8, za, zh, zK, blt, fnV, asArg, ze, zn, zo, zj, zi, zg, zk, zr, z6, zD, zF, mkS, zc, unN, zM, zm, zy, zC, zf, zN, zq, GS, Int.reduceToNat, Nat.reduceGT, ↓reduceIte, Nat.reduceAdd, Nat.reduceMul, Nat.reduceSub, Nat.reduceEqDiff, Nat.reduceLeDiff, Nat.reduceLT, Nat.reduceBEq, Int.reduceBEq, Int.reduceBNe, Int.reduceEq, Int.reduceLT, Int.reduceLE, Int.reduceGT, Int.reduceNeg, reduceCtorEq, GZ, d1, d2, d3, d4, q2, q4, e1, e2, q7, q8, q9, bne, zP, zY, Bool.not_false, Bool.not_true, Bool.and_false, Bool.false_or]
         · apply zu
           refine zw rfl Tryz.func89 rfl (by kernel_rfl) ?_
           unfold Tryz.f89
           simp (disch := ((try simp only [LL]); omega)) only [↓GO, ↓DRW, GA, ren, zB, zd, refs, zb, cst, zl, zH, z7, E.load, E.store, zG, isC, bin, zI, zJ, una, z8, za, zh, zK, blt, fnV, asArg, ze, zn, zo, zj, zi, zg, zk, zr, z6, zD, zF, mkS, zc, unN, zM, zm, zy, zC, zf, zN, zq, GS, Int.reduceToNat, Nat.reduceGT, ↓reduceIte, Nat.reduceAdd, Nat.reduceMul, Nat.reduceSub, Nat.reduceEqDiff, Nat.reduceLeDiff, Nat.reduceLT, Nat.reduceBEq, Int.reduceBEq, Int.reduceBNe, Int.reduceEq, Int.reduceLT, Int.reduceLE, Int.reduceGT, Int.reduceNeg, reduceCtorEq, GZ, d1, d2, d3, d4, q2, q4, e1, e2, bne, zP, zY, Bool.not_false, Bool.not_true, Bool.and_false, Bool.false_or]
       · apply zu
         refine zw rfl Tryz.func89 rfl (by kernel_rfl) ?_
         unfold Tryz.f89
         simp (disch := ((try simp only [LL]); omega)) only [↓GO, ↓DRW, GA, ren, zB, zd, refs, zb, cst, zl, zH, z7, E.load, E.store, zG, isC, bin, zI, zJ, una, z8, za, zh, zK, blt, fnV, asArg, ze, zn, zo, zj, zi, zg, zk, zr, z6, zD, zF, mkS, zc, unN, zM, zm, zy, zC, zf, zN, zq, GS, Int.reduceToNat, Nat.reduceGT, ↓reduceIte, Nat.reduceAdd, Nat.reduceMul, Nat.reduceSub, Nat.reduceEqDiff, Nat.reduceLeDiff, Nat.reduceLT, Nat.reduceBEq, Int.reduceBEq, Int.reduceBNe, Int.reduceEq, Int.reduceLT, Int.reduceLE, Int.reduceGT, Int.reduceNeg, reduceCtorEq, GZ, d1, d2, d3, d4, q2, q4, e1, e2, bne, zP, zY, Bool.true_or])
theorem Tm (v : Ver) (hv : v.sm) (ok : Bool) (l : List Bd) (hl : BdB l) : ∀ (rest pre : List Bd), l = pre ++ rest → ∃ x,
    EV Tryz.prog pol (.loop 60 58 0 [.t (.list 2 (bdT l)), .ptr 0 0 0, .t (.bool ok), .t (.int .i64 (pre.length : Int))] [.vs 4 [v.enc.map .t]])
      = some (cond (ok && (xk l && rest.any (vL v))) (.loop .ret [.t (.bool true)] []) (.loop (.exit 0) [x] []))
  | [], pre, h => by
    have c : decide ((pre.length : Int) < (l.length : Int)) = false := by simp [h]
    refine ⟨.bad, ?_⟩
    simp only [List.any_nil, Bool.and_false, cond_false, Ver.enc, List.map_cons, List.map_nil]
    refine zz Tryz.func60 rfl rfl ?_
    simp (disch := ((try simp only [LL]); omega)) only [↓GO, ↓DRW, GA, ren, zB, zd, refs, zb, cst, zl, zH, z7, E.load, E.store, zG, isC, bin, zI, zJ, una, z8, za, zh, zK, blt, fnV, asArg, ze, zn, zo, zj, zi, zg, zk, zr, z6, zD, zF, mkS, zc, unN, zM, zm, zy, zC, zf, zN, zq, GS, Int.reduceToNat, Nat.reduceGT, ↓reduceIte, Nat.reduceAdd, Nat.reduceMul, Nat.reduceSub, Nat.reduceEqDiff, Nat.reduceLeDiff, Nat.reduceLT, Nat.reduceBEq, Int.reduceBEq, Int.reduceBNe, Int.reduceEq, Int.reduceLT, Int.reduceLE, Int.reduceGT, Int.reduceNeg, reduceCtorEq, GZ, c, xO, zY]
  | b :: rest, pre, h => by
    have c : decide ((pre.length : Int) < (l.length : Int)) = true := by simp [h]; omega
    have hget : (bdT l)[pre.length]? = some [.str b.1, .str b.2] := by rw [h]; exact wB (fun b : Bd => [T.str b.1, T.str b.2]) pre b rest
    have hlen : pre.length + rest.length + 1 ≤ l.length := by rw [h]; simp; omega
    have hll := hl.1
    have d1 := c_tkR v hv b (hl.2 b (by rw [h]; simp))
    have d2 := jR l hl.1 (fun b hb => by have := hl.2 b hb; omega)
    obtain ⟨x, IH⟩ := Tm v hv ok l hl rest (pre ++ [b]) (by rw [h]; simp)
    rw [show ((pre ++ [b]).length : Int) = (pre.length : Int) + 1 by simp] at IH
    refine ⟨x, ?_⟩
    rw [List.any_cons]
    generalize rest.any (vL v) = R at *
    generalize vL v b = t at *
    generalize xk l = rk at *
    clear h hl
    obtain ⟨lo, hi⟩ := b
    simp only at d1 hget
    obtain ⟨maj, min, pat, pre'⟩ := v
    simp only [Ver.enc, List.map_cons, List.map_nil] at d1 IH ⊢
    cases ok <;> cases rk <;> cases t <;> simp only [Bool.true_and, Bool.false_and, Bool.true_or, Bool.false_or, cond_true, cond_false] at IH ⊢
    all_goals
      refine zz Tryz.func60 rfl rfl ?_
      simp (disch := ((try simp only [LL]); omega)) only [↓GO, ↓DRW, GA, ren, zB, zd, refs, zb, cst, zl, zH, z7, E.load, E.store, zG, isC, bin, zI, zJ, una, z8, za, zh, zK, blt, fnV, asArg, ze, zn, zo, zj, zi, zg, zk, zr, z6, zD, zF, mkS, zc, unN, zM, zm, zy, zC, zf, zN, zq, GS, Int.reduceToNat, Nat.reduceGT, ↓reduceIte, Nat.reduceAdd, Nat.reduceMul, Nat.reduceSub, Nat.reduceEqDiff, Nat.reduceLeDiff, Nat.reduceLT, Nat.reduceBEq, Int.reduceBEq, Int.reduceBNe, Int.reduceEq, Int.reduceLT, Int.reduceLE, Int.reduceGT, Int.reduceNeg, reduceCtorEq, GZ, c, hget, d1, d2, xO, zx, zY, IH]
theorem c_inR (s : Str) (hs : s.length ≤ 1048576) (l : List Bd) (hl : BdB l) : zE (EV Tryz.prog pol) 60 [.t (.str s), .t (.list 2 (bdT l))] = some (.t (.bool (inB s l))) := by
  have d1 := oz s (by omega)
  obtain ⟨x, L⟩ := Tm (zA s).1 (yW s (by omega)).1 (zA s).2 l hl l [] rfl
  unfold rvT at d1
  unfold inB
  simp only [List.length_nil, Int.natCast_zero] at L
  generalize ((zA s).2 && (xk l && l.any (vL (zA s).1))) = R at *
  generalize (zA s).2 = ok at *
  generalize (zA s).1 = v at *
  obtain ⟨maj, min, pat, pre⟩ := v
  simp only [Ver.enc, List.map_cons, List.map_nil] at d1 L
  cases R <;> simp only [cond_true, cond_false] at L
  all_goals
    apply zu
    refine zw rfl Tryz.func60 rfl (by kernel_rfl) ?_
    unfold Tryz.f60
    simp (disch := ((try simp only [LL]); omega)) only [↓GO, ↓DRW, GA, ren, zB, zd, refs, zb, cst, zl, zH, z7, E.load, E.store, zG, isC, bin, zI, zJ, una, z8, za, zh, zK, blt, fnV, asArg, ze, zn, zo, zj, zi, zg, zk, zr, z6, zD, zF, mkS, zc, unN, zM, zm, zy, zC, zf, zN, zq, GS, Int.reduceToNat, Nat.reduceGT, ↓reduceIte, Nat.reduceAdd, Nat.reduceMul, Nat.reduceSub, Nat.reduceEqDiff, Nat.reduceLeDiff, Nat.reduceLT, Nat.reduceBEq, Int.reduceBEq, Int.reduceBNe, Int.reduceEq, Int.reduceLT, Int.reduceLE, Int.reduceGT, Int.reduceNeg, reduceCtorEq, GZ, d1, L, zY]
end Go.Proofs.YtmcephnfcciloaaGreatDoor
/- The library's searches, at packs and sums. Conditions: those of each lemma. -/
namespace Go.Proofs.YtmcephnfcciloaaGreatDoor
open E
set_option linter.unusedSimpArgs false
set_option linter.unusedVariables false
set_option maxRecDepth 100000
theorem pZ (g : Nat) (caps : List T) (p : zL → Bool) (es : List zL) (hl : es.length ≤ 4611686018427387904) (hp : ∀ x ∈ es, zE (EV Tryz.prog pol) g (.agg (x.enc.map .t) :: caps.map .t) = some (.t (.bool (p x)))) : ∀ (rest pre : List zL), es = pre ++ rest →
    EV Tryz.prog pol (.loop 75 26 0 [.t (.list 6 (zL.zV es)), .t (.fn g caps), .t (.int .i64 (es.length : Int)), .t (.int .i64 (pre.length : Int))] []) = some (match r8 p rest pre.length with | some i => .loop .ret [.t (.int .i64 (i : Int))] [] | none => .loop (.exit 0) [.bad] [])
  | [], pre, hs => by
    have c : decide ((pre.length : Int) < (es.length : Int)) = false := by simp [hs]
    refine zz Tryz.func75 rfl rfl ?_
    simp only [↓GO, ↓DRW, GA, ren, zB, zd, refs, zb, cst, zl, zH, z7, E.load, E.store, zG, isC, bin, zI, zJ, una, z8, za, zh, zK, blt, fnV, asArg, ze, zn, zo, zj, zi, zg, zk, zr, z6, zD, zF, mkS, zc, unN, zM, zm, zy, zC, zf, zN, zq, GS, Int.reduceToNat, Nat.reduceGT, ↓reduceIte, Nat.reduceAdd, Nat.reduceMul, Nat.reduceSub, Nat.reduceEqDiff, Nat.reduceLeDiff, Nat.reduceLT, Nat.reduceBEq, Int.reduceBEq, Int.reduceBNe, Int.reduceEq, Int.reduceLT, Int.reduceLE, Int.reduceGT, Int.reduceNeg, reduceCtorEq, c, r8]
  | b :: rest, pre, hs => by
    have c : decide ((pre.length : Int) < (es.length : Int)) = true := by simp [hs]; omega
    have hi : pre.length < es.length := by rw [hs]; simp
    have hget := zL.yR es pre.length hi
    have hgb : es[pre.length] = b := by simp [hs]
    rw [hgb] at hget
    have hb := hp b (by rw [hs]; simp)
    have e1 : (pre.length : Int) + 1 = ((pre ++ [b]).length : Int) := by simp
    have IH := pZ g caps p es hl hp rest (pre ++ [b]) (by rw [hs]; simp)
    refine zz Tryz.func75 rfl rfl ?_
    simp only [r8]
    cases hpb : p b with
    | true =>
      rw [hpb] at hb
      simp (disch := omega) only [↓GO, ↓DRW, GA, ren, zB, zd, refs, zb, cst, zl, zH, z7, E.load, E.store, zG, isC, bin, zI, zJ, una, z8, za, zh, zK, blt, fnV, asArg, ze, zn, zo, zj, zi, zg, zk, zr, z6, zD, zF, mkS, zc, unN, zM, zm, zy, zC, zf, zN, zq, GS, Int.reduceToNat, Nat.reduceGT, ↓reduceIte, Nat.reduceAdd, Nat.reduceMul, Nat.reduceSub, Nat.reduceEqDiff, Nat.reduceLeDiff, Nat.reduceLT, Nat.reduceBEq, Int.reduceBEq, Int.reduceBNe, Int.reduceEq, Int.reduceLT, Int.reduceLE, Int.reduceGT, Int.reduceNeg, reduceCtorEq, zL.zR, c, hget, zL.vZ, zL.v8, zx, hb]
    | false =>
      rw [hpb] at hb
      simp (disch := omega) only [↓GO, ↓DRW, GA, ren, zB, zd, refs, zb, cst, zl, zH, z7, E.load, E.store, zG, isC, bin, zI, zJ, una, z8, za, zh, zK, blt, fnV, asArg, ze, zn, zo, zj, zi, zg, zk, zr, z6, zD, zF, mkS, zc, unN, zM, zm, zy, zC, zf, zN, zq, GS, Int.reduceToNat, Nat.reduceGT, ↓reduceIte, Nat.reduceAdd, Nat.reduceMul, Nat.reduceSub, Nat.reduceEqDiff, Nat.reduceLeDiff, Nat.reduceLT, Nat.reduceBEq, Int.reduceBEq, Int.reduceBNe, Int.reduceEq, Int.reduceLT, Int.reduceLE, Int.reduceGT, Int.reduceNeg, reduceCtorEq, zL.zR, c, hget, zL.vZ, zL.v8, zx, hb]
      rw [e1, IH]
      simp
theorem ix (g : Nat) (caps : List T) (p : zL → Bool) (es : List zL) (hl : es.length ≤ 4611686018427387904) (hp : ∀ x ∈ es, zE (EV Tryz.prog pol) g (.agg (x.enc.map .t) :: caps.map .t) = some (.t (.bool (p x)))) :
    zE (EV Tryz.prog pol) 75 [.t (.list 6 (zL.zV es)), .t (.fn g caps)] = some (.t (.int .i64 (ixI (r8 p es 0)))) := by
  have IH := pZ g caps p es hl hp es [] rfl
  simp only [List.length_nil, Int.natCast_zero] at IH
  apply zu
  refine zw rfl Tryz.func75 rfl (by kernel_rfl) ?_
  unfold Tryz.f75
  cases hf : r8 p es 0 with
  | none => rw [hf] at IH; simp only [↓GO, ↓DRW, GA, ren, zB, zd, refs, zb, cst, zl, zH, z7, E.load, E.store, zG, isC, bin, zI, zJ, una, z8, za, zh, zK, blt, fnV, asArg, ze, zn, zo, zj, zi, zg, zk, zr, z6, zD, zF, mkS, zc, unN, zM, zm, zy, zC, zf, zN, zq, GS, Int.reduceToNat, Nat.reduceGT, ↓reduceIte, Nat.reduceAdd, Nat.reduceMul, Nat.reduceSub, Nat.reduceEqDiff, Nat.reduceLeDiff, Nat.reduceLT, Nat.reduceBEq, Int.reduceBEq, Int.reduceBNe, Int.reduceEq, Int.reduceLT, Int.reduceLE, Int.reduceGT, Int.reduceNeg, reduceCtorEq, zL.zR, IH, ixI]
  | some i => rw [hf] at IH; simp only [↓GO, ↓DRW, GA, ren, zB, zd, refs, zb, cst, zl, zH, z7, E.load, E.store, zG, isC, bin, zI, zJ, una, z8, za, zh, zK, blt, fnV, asArg, ze, zn, zo, zj, zi, zg, zk, zr, z6, zD, zF, mkS, zc, unN, zM, zm, zy, zC, zf, zN, zq, GS, Int.reduceToNat, Nat.reduceGT, ↓reduceIte, Nat.reduceAdd, Nat.reduceMul, Nat.reduceSub, Nat.reduceEqDiff, Nat.reduceLeDiff, Nat.reduceLT, Nat.reduceBEq, Int.reduceBEq, Int.reduceBNe, Int.reduceEq, Int.reduceLT, Int.reduceLE, Int.reduceGT, Int.reduceNeg, reduceCtorEq, zL.zR, IH, ixI]
end Go.Proofs.YtmcephnfcciloaaGreatDoor
/- Packs and graphs, by both. Conditions: those of each lemma. -/
namespace Go.Proofs.YtmcephnfcciloaaGreatDoor
open E
set_option linter.unusedSimpArgs false
set_option linter.unusedVariables false
set_option maxRecDepth 100000
theorem jT (p : zL) (hb : p.yh ≤ 4194304) : zE (EV Tryz.prog pol) 35 [.agg (p.enc.map .t)] = some (.t (.str (keyOf p))) := by
  obtain ⟨name, version, source, sums, dev, needs⟩ := p
  simp only [zL.yh] at hb
  simp only [zL.enc, List.map_cons, List.map_nil, keyOf]
  apply zu
  refine zw rfl Tryz.func35 rfl (by kernel_rfl) ?_
  unfold Tryz.f35
  simp (disch := ((try simp only [LL]); omega)) only [↓GO, ↓DRW, GA, ren, zB, zd, refs, zb, cst, zl, zH, z7, E.load, E.store, zG, isC, bin, zI, zJ, una, z8, za, zh, zK, blt, fnV, asArg, ze, zn, zo, zj, zi, zg, zk, zr, z6, zD, zF, mkS, zc, unN, zM, zm, zy, zC, zf, zN, zq, GS, Int.reduceToNat, Nat.reduceGT, ↓reduceIte, Nat.reduceAdd, Nat.reduceMul, Nat.reduceSub, Nat.reduceEqDiff, Nat.reduceLeDiff, Nat.reduceLT, Nat.reduceBEq, Int.reduceBEq, Int.reduceBNe, Int.reduceEq, Int.reduceLT, Int.reduceLE, Int.reduceGT, Int.reduceNeg, reduceCtorEq, GZ, wh]
theorem jS (p : zL) (hb : p.yh ≤ 4194304) : zE (EV Tryz.prog pol) 29 [.agg (p.enc.map .t)] = some (.t (.str (keyOf p))) := by
  obtain ⟨name, version, source, sums, dev, needs⟩ := p
  simp only [zL.yh] at hb
  simp only [zL.enc, List.map_cons, List.map_nil, keyOf]
  apply zu
  refine zw rfl Tryz.func29 rfl (by kernel_rfl) ?_
  unfold Tryz.f29
  simp (disch := ((try simp only [LL]); omega)) only [↓GO, ↓DRW, GA, ren, zB, zd, refs, zb, cst, zl, zH, z7, E.load, E.store, zG, isC, bin, zI, zJ, una, z8, za, zh, zK, blt, fnV, asArg, ze, zn, zo, zj, zi, zg, zk, zr, z6, zD, zF, mkS, zc, unN, zM, zm, zy, zC, zf, zN, zq, GS, Int.reduceToNat, Nat.reduceGT, ↓reduceIte, Nat.reduceAdd, Nat.reduceMul, Nat.reduceSub, Nat.reduceEqDiff, Nat.reduceLeDiff, Nat.reduceLT, Nat.reduceBEq, Int.reduceBEq, Int.reduceBNe, Int.reduceEq, Int.reduceLT, Int.reduceLE, Int.reduceGT, Int.reduceNeg, reduceCtorEq, GZ, wh]
theorem c_slI (a : Str) : zE (EV Tryz.prog pol) 126 [.t (.str a)] = some (.t (.int .i64 (ti a))) := by
  unfold ti Vy je h1S jd
  cases h1 : (a == [115, 104, 97, 49]) <;> cases h2 : (a == [115, 104, 97, 50, 53, 54]) <;> cases h3 : (a == [104, 49]) <;> cases h4 : (a == [115, 104, 97, 53, 49, 50])
  all_goals
    apply zu
    refine zw rfl Tryz.func126 rfl (by kernel_rfl) ?_
    unfold Tryz.f126
    simp (disch := ((try simp only [LL]); omega)) only [↓GO, ↓DRW, GA, ren, zB, zd, refs, zb, cst, zl, zH, z7, E.load, E.store, zG, isC, bin, zI, zJ, una, z8, za, zh, zK, blt, fnV, asArg, ze, zn, zo, zj, zi, zg, zk, zr, z6, zD, zF, mkS, zc, unN, zM, zm, zy, zC, zf, zN, zq, GS, Int.reduceToNat, Nat.reduceGT, ↓reduceIte, Nat.reduceAdd, Nat.reduceMul, Nat.reduceSub, Nat.reduceEqDiff, Nat.reduceLeDiff, Nat.reduceLT, Nat.reduceBEq, Int.reduceBEq, Int.reduceBNe, Int.reduceEq, Int.reduceLT, Int.reduceLE, Int.reduceGT, Int.reduceNeg, reduceCtorEq, GZ, h1, h2, h3, h4]
theorem c_slR (a : Str) : zE (EV Tryz.prog pol) 81 [.t (.str a)] = some (.t (.int .i64 (ti a))) := by
  unfold ti Vy je h1S jd
  cases h1 : (a == [115, 104, 97, 49]) <;> cases h2 : (a == [115, 104, 97, 50, 53, 54]) <;> cases h3 : (a == [104, 49]) <;> cases h4 : (a == [115, 104, 97, 53, 49, 50])
  all_goals
    apply zu
    refine zw rfl Tryz.func81 rfl (by kernel_rfl) ?_
    unfold Tryz.f81
    simp (disch := ((try simp only [LL]); omega)) only [↓GO, ↓DRW, GA, ren, zB, zd, refs, zb, cst, zl, zH, z7, E.load, E.store, zG, isC, bin, zI, zJ, una, z8, za, zh, zK, blt, fnV, asArg, ze, zn, zo, zj, zi, zg, zk, zr, z6, zD, zF, mkS, zc, unN, zM, zm, zy, zC, zf, zN, zq, GS, Int.reduceToNat, Nat.reduceGT, ↓reduceIte, Nat.reduceAdd, Nat.reduceMul, Nat.reduceSub, Nat.reduceEqDiff, Nat.reduceLeDiff, Nat.reduceLT, Nat.reduceBEq, Int.reduceBEq, Int.reduceBNe, Int.reduceEq, Int.reduceLT, Int.reduceLE, Int.reduceGT, Int.reduceNeg, reduceCtorEq, GZ, h1, h2, h3, h4]
theorem bI (es : List zZ) (hl : es.length ≤ 4194304) : ∀ (rest pre : List zZ), es = pre ++ rest →
    EV Tryz.prog pol (.loop 94 26 0 [.t (.list 2 (zZ.zV es)), .t (.list 2 (zZ.zV es)), .t (.int .i64 (es.length : Int)), .t (.int .i64 (pre.length : Int))] []) = some (cond (vi (pre.getLast?.map zZ.alg) rest) (.loop (.exit 0) [.bad] []) (.loop .ret [.t (.bool false)] []))
  | [], pre, hs => by
    have c : decide ((pre.length : Int) < (es.length : Int)) = false := by simp [hs]
    refine zz Tryz.func94 rfl rfl ?_
    simp (disch := ((try simp only [LL]); omega)) only [↓GO, ↓DRW, GA, ren, zB, zd, refs, zb, cst, zl, zH, z7, E.load, E.store, zG, isC, bin, zI, zJ, una, z8, za, zh, zK, blt, fnV, asArg, ze, zn, zo, zj, zi, zg, zk, zr, z6, zD, zF, mkS, zc, unN, zM, zm, zy, zC, zf, zN, zq, GS, Int.reduceToNat, Nat.reduceGT, ↓reduceIte, Nat.reduceAdd, Nat.reduceMul, Nat.reduceSub, Nat.reduceEqDiff, Nat.reduceLeDiff, Nat.reduceLT, Nat.reduceBEq, Int.reduceBEq, Int.reduceBNe, Int.reduceEq, Int.reduceLT, Int.reduceLE, Int.reduceGT, Int.reduceNeg, reduceCtorEq, GZ, c, vi]
  | x :: rest, pre, hs => by
    have c : decide ((pre.length : Int) < (es.length : Int)) = true := by simp [hs]; omega
    have hget : (zZ.zV es)[pre.length]? = some [.str x.alg, .str x.bytes] := by rw [hs]; exact wB zZ.enc pre x rest
    have hlen : pre.length + rest.length + 1 ≤ es.length := by rw [hs]; simp; omega
    have IH := bI es hl rest (pre ++ [x]) (by rw [hs]; simp)
    have hk := c_slI x.alg
    rw [show ((pre ++ [x]).length : Int) = (pre.length : Int) + 1 by simp, show (pre ++ [x]).getLast?.map zZ.alg = some x.alg by simp] at IH
    rw [vi]
    generalize ti x.alg = n at *
    rcases wj pre with rfl | ⟨pre', q, rfl⟩
    · clear hs
      simp only [List.length_nil, List.getLast?_nil, Option.map_none, vS, Int.natCast_zero, Int.zero_add] at *
      cases h1 : ((x.bytes.length : Int) == n)
      all_goals
        refine zz Tryz.func94 rfl rfl ?_
        simp (disch := ((try simp only [LL]); omega)) only [↓GO, ↓DRW, GA, ren, zB, zd, refs, zb, cst, zl, zH, z7, E.load, E.store, zG, isC, bin, zI, zJ, una, z8, za, zh, zK, blt, fnV, asArg, ze, zn, zo, zj, zi, zg, zk, zr, z6, zD, zF, mkS, zc, unN, zM, zm, zy, zC, zf, zN, zq, GS, Int.reduceToNat, Nat.reduceGT, ↓reduceIte, Nat.reduceAdd, Nat.reduceMul, Nat.reduceSub, Nat.reduceEqDiff, Nat.reduceLeDiff, Nat.reduceLT, Nat.reduceBEq, Int.reduceBEq, Int.reduceBNe, Int.reduceEq, Int.reduceLT, Int.reduceLE, Int.reduceGT, Int.reduceNeg, reduceCtorEq, GZ, zZ.zR, c, hget, zx, hk, h1, bne, IH, Int.zero_add]
    · have hprev : uG (zZ.zV es) (((pre' ++ [q]).length : Int) - 1) = some [.str q.alg, .str q.bytes] := by rw [hs]; exact uz zZ.enc pre' q (x :: rest)
      have hge : 1 ≤ (pre' ++ [q]).length := by simp
      have hgt : decide (((pre' ++ [q]).length : Int) > 0) = true := by simp only [decide_eq_true_eq]; omega
      have hcmp := qz x.alg q.alg
      rw [show (pre' ++ [q]).getLast?.map zZ.alg = some q.alg by simp]
      simp only [vS]
      clear hs
      generalize (pre' ++ [q]).length = m at *
      cases h1 : ((x.bytes.length : Int) == n) <;> cases h2 : Op.bytesLess q.alg x.alg <;> rw [h2] at hcmp
      all_goals
        refine zz Tryz.func94 rfl rfl ?_
        simp (disch := ((try simp only [LL]); omega)) only [↓GO, ↓DRW, GA, ren, zB, zd, refs, zb, cst, zl, zH, z7, E.load, E.store, zG, isC, bin, zI, zJ, una, z8, za, zh, zK, blt, fnV, asArg, ze, zn, zo, zj, zi, zg, zk, zr, z6, zD, zF, mkS, zc, unN, zM, zm, zy, zC, zf, zN, zq, GS, Int.reduceToNat, Nat.reduceGT, ↓reduceIte, Nat.reduceAdd, Nat.reduceMul, Nat.reduceSub, Nat.reduceEqDiff, Nat.reduceLeDiff, Nat.reduceLT, Nat.reduceBEq, Int.reduceBEq, Int.reduceBNe, Int.reduceEq, Int.reduceLT, Int.reduceLE, Int.reduceGT, Int.reduceNeg, reduceCtorEq, GZ, zZ.zR, c, hget, zx, hk, h1, bne, hgt, hprev, hcmp, IH]
theorem UG (es : List zZ) (hl : es.length ≤ 4194304) : zE (EV Tryz.prog pol) 94 [.t (.list 2 (zZ.zV es))] = some (.t (.bool (vi none es))) := by
  have IH := bI es hl es [] rfl
  simp only [List.length_nil, Int.natCast_zero, List.getLast?_nil, Option.map_none] at IH
  apply zu
  refine zw rfl Tryz.func94 rfl (by kernel_rfl) ?_
  unfold Tryz.f94
  cases h : vi none es <;> rw [h] at IH <;> simp only [cond_true, cond_false] at IH <;> simp (disch := ((try simp only [LL]); omega)) only [↓GO, ↓DRW, GA, ren, zB, zd, refs, zb, cst, zl, zH, z7, E.load, E.store, zG, isC, bin, zI, zJ, una, z8, za, zh, zK, blt, fnV, asArg, ze, zn, zo, zj, zi, zg, zk, zr, z6, zD, zF, mkS, zc, unN, zM, zm, zy, zC, zf, zN, zq, GS, Int.reduceToNat, Nat.reduceGT, ↓reduceIte, Nat.reduceAdd, Nat.reduceMul, Nat.reduceSub, Nat.reduceEqDiff, Nat.reduceLeDiff, Nat.reduceLT, Nat.reduceBEq, Int.reduceBEq, Int.reduceBNe, Int.reduceEq, Int.reduceLT, Int.reduceLE, Int.reduceGT, Int.reduceNeg, reduceCtorEq, GZ, zZ.zR, IH]
theorem bJ (p : zL) (hb : p.yh ≤ 4194304) : ∀ (rest pre : List zZ), p.sums = pre ++ rest →
    EV Tryz.prog pol (.loop 56 26 0 [.ptr 0 0 0, .t (.int .i64 (pre.length : Int))] [.vs 6 [p.enc.map .t]]) = some (cond (vi (pre.getLast?.map zZ.alg) rest) (.loop (.exit 0) [.ptr 0 0 0, .bad] [.vs 6 [p.enc.map .t]]) (.loop .ret [.ptr 0 0 0, .t (.bool false)] [.vs 6 [p.enc.map .t]]))
  | [], pre, hs => by
    have c : decide ((pre.length : Int) < (p.sums.length : Int)) = false := by simp [hs]
    simp only [zL.enc, List.map_cons, List.map_nil]
    refine zz Tryz.func56 rfl rfl ?_
    simp (disch := ((try simp only [LL]); omega)) only [↓GO, ↓DRW, GA, ren, zB, zd, refs, zb, cst, zl, zH, z7, E.load, E.store, zG, isC, bin, zI, zJ, una, z8, za, zh, zK, blt, fnV, asArg, ze, zn, zo, zj, zi, zg, zk, zr, z6, zD, zF, mkS, zc, unN, zM, zm, zy, zC, zf, zN, zq, GS, Int.reduceToNat, Nat.reduceGT, ↓reduceIte, Nat.reduceAdd, Nat.reduceMul, Nat.reduceSub, Nat.reduceEqDiff, Nat.reduceLeDiff, Nat.reduceLT, Nat.reduceBEq, Int.reduceBEq, Int.reduceBNe, Int.reduceEq, Int.reduceLT, Int.reduceLE, Int.reduceGT, Int.reduceNeg, reduceCtorEq, GZ, c, zZ.zR, vi, zY]
  | x :: rest, pre, hs => by
    have c : decide ((pre.length : Int) < (p.sums.length : Int)) = true := by simp [hs]; omega
    have hget : (zZ.zV p.sums)[pre.length]? = some [.str x.alg, .str x.bytes] := by rw [hs]; exact wB zZ.enc pre x rest
    have hlen : pre.length + rest.length + 1 ≤ p.sums.length := by rw [hs]; simp; omega
    have hpb : p.sums.length ≤ 4194304 := by unfold zL.yh at hb; omega
    have IH := bJ p hb rest (pre ++ [x]) (by rw [hs]; simp)
    have hk := c_slR x.alg
    rw [show ((pre ++ [x]).length : Int) = (pre.length : Int) + 1 by simp, show (pre ++ [x]).getLast?.map zZ.alg = some x.alg by simp] at IH
    rw [vi]
    have hco : ((x.bytes.length : Int) == ti x.alg) = (ti x.alg == (x.bytes.length : Int)) := Bool.beq_comm
    rw [hco]
    generalize ti x.alg = n at *
    simp only [zL.enc, List.map_cons, List.map_nil] at IH ⊢
    rcases wj pre with rfl | ⟨pre', q, rfl⟩
    · clear hs
      simp only [List.length_nil, List.getLast?_nil, Option.map_none, vS, Int.natCast_zero, Int.zero_add] at *
      cases h1 : (n == (x.bytes.length : Int))
      all_goals
        refine zz Tryz.func56 rfl rfl ?_
        simp (disch := ((try simp only [LL]); omega)) only [↓GO, ↓DRW, GA, ren, zB, zd, refs, zb, cst, zl, zH, z7, E.load, E.store, zG, isC, bin, zI, zJ, una, z8, za, zh, zK, blt, fnV, asArg, ze, zn, zo, zj, zi, zg, zk, zr, z6, zD, zF, mkS, zc, unN, zM, zm, zy, zC, zf, zN, zq, GS, Int.reduceToNat, Nat.reduceGT, ↓reduceIte, Nat.reduceAdd, Nat.reduceMul, Nat.reduceSub, Nat.reduceEqDiff, Nat.reduceLeDiff, Nat.reduceLT, Nat.reduceBEq, Int.reduceBEq, Int.reduceBNe, Int.reduceEq, Int.reduceLT, Int.reduceLE, Int.reduceGT, Int.reduceNeg, reduceCtorEq, GZ, zZ.zR, c, hget, zx, hk, h1, bne, IH, Int.zero_add, zY]
    · have hprev : uG (zZ.zV p.sums) (((pre' ++ [q]).length : Int) - 1) = some [.str q.alg, .str q.bytes] := by rw [hs]; exact uz zZ.enc pre' q (x :: rest)
      have hge : 1 ≤ (pre' ++ [q]).length := by simp
      have hgt : decide (((pre' ++ [q]).length : Int) > 0) = true := by simp only [decide_eq_true_eq]; omega
      rw [show (pre' ++ [q]).getLast?.map zZ.alg = some q.alg by simp]
      simp only [vS]
      clear hs
      generalize (pre' ++ [q]).length = m at *
      cases h1 : (n == (x.bytes.length : Int)) <;> cases h2 : Op.bytesLess q.alg x.alg
      all_goals
        refine zz Tryz.func56 rfl rfl ?_
        simp (disch := ((try simp only [LL]); omega)) only [↓GO, ↓DRW, GA, ren, zB, zd, refs, zb, cst, zl, zH, z7, E.load, E.store, zG, isC, bin, zI, zJ, una, z8, za, zh, zK, blt, fnV, asArg, ze, zn, zo, zj, zi, zg, zk, zr, z6, zD, zF, mkS, zc, unN, zM, zm, zy, zC, zf, zN, zq, GS, Int.reduceToNat, Nat.reduceGT, ↓reduceIte, Nat.reduceAdd, Nat.reduceMul, Nat.reduceSub, Nat.reduceEqDiff, Nat.reduceLeDiff, Nat.reduceLT, Nat.reduceBEq, Int.reduceBEq, Int.reduceBNe, Int.reduceEq, Int.reduceLT, Int.reduceLE, Int.reduceGT, Int.reduceNeg, reduceCtorEq, GZ, zZ.zR, c, hget, zx, hk, h1, bne, hgt, hprev, h2, IH, zY]
theorem Us (s : Str) : ((exT s).length : Int) = cond (x6 s).isSome 1 0 := by
  unfold exT
  cases x6 s <;> rfl
theorem UI (p : zL) (hb : p.yh ≤ 1048576) : zE (EV Tryz.prog pol) 56 [.agg (p.enc.map .t)] = some (.t (.bool (rT p))) := by
  have L := bJ p (by omega) p.sums [] rfl
  simp only [zL.yh] at hb
  have h1 := aB p.name (by omega)
  have h2 := c_exR p.version (by omega)
  have h3 := ej p.source (by omega)
  have h4 := Us p.version
  simp only [List.length_nil, Int.natCast_zero, List.getLast?_nil, Option.map_none] at L
  simp only [zL.enc, List.map_cons, List.map_nil] at L ⊢
  unfold rT
  generalize exT p.version = et at *
  generalize vi none p.sums = b1 at *
  generalize vj p.name = b2 at *
  generalize wz p.source = b3 at *
  generalize (x6 p.version).isSome = b4 at *
  cases b1 <;> simp only [cond_true, cond_false] at L <;> cases b2 <;> cases b4 <;> simp only [cond_true, cond_false] at h4 <;> cases b3
  all_goals
    apply zu
    refine zw rfl Tryz.func56 rfl (by kernel_rfl) ?_
    unfold Tryz.f56
    simp (disch := ((try simp only [LL]); omega)) only [↓GO, ↓DRW, GA, ren, zB, zd, refs, zb, cst, zl, zH, z7, E.load, E.store, zG, isC, bin, zI, zJ, una, z8, za, zh, zK, blt, fnV, asArg, ze, zn, zo, zj, zi, zg, zk, zr, z6, zD, zF, mkS, zc, unN, zM, zm, zy, zC, zf, zN, zq, GS, Int.reduceToNat, Nat.reduceGT, ↓reduceIte, Nat.reduceAdd, Nat.reduceMul, Nat.reduceSub, Nat.reduceEqDiff, Nat.reduceLeDiff, Nat.reduceLT, Nat.reduceBEq, Int.reduceBEq, Int.reduceBNe, Int.reduceEq, Int.reduceLT, Int.reduceLE, Int.reduceGT, Int.reduceNeg, reduceCtorEq, GZ, L, h1, h2, h3, h4, zY, zZ.zR]
theorem Xd (s : Str) : ((exT s).length : Int) = cond (x6 s).isSome 1 0 := by
  unfold exT
  cases x6 s <;> rfl
theorem UJ (p : zL) (hb : p.yh ≤ 1048576) : zE (EV Tryz.prog pol) 62 [.agg (p.enc.map .t)] = some (.t (.bool (rT p))) := by
  simp only [zL.yh] at hb
  have L := UG p.sums (by omega)
  have h1 := aC p.name (by omega)
  have h2 := c_exI p.version (by omega)
  have h3 := ek p.source (by omega)
  have h4 := Xd p.version
  simp only [zL.enc, List.map_cons, List.map_nil]
  unfold rT
  generalize exT p.version = et at *
  generalize vi none p.sums = b1 at *
  generalize vj p.name = b2 at *
  generalize wz p.source = b3 at *
  generalize (x6 p.version).isSome = b4 at *
  cases b1 <;> cases b2 <;> cases b4 <;> simp only [cond_true, cond_false] at h4 <;> cases b3
  all_goals
    apply zu
    refine zw rfl Tryz.func62 rfl (by kernel_rfl) ?_
    unfold Tryz.f62
    simp (disch := ((try simp only [LL]); omega)) only [↓GO, ↓DRW, GA, ren, zB, zd, refs, zb, cst, zl, zH, z7, E.load, E.store, zG, isC, bin, zI, zJ, una, z8, za, zh, zK, blt, fnV, asArg, ze, zn, zo, zj, zi, zg, zk, zr, z6, zD, zF, mkS, zc, unN, zM, zm, zy, zC, zf, zN, zq, GS, Int.reduceToNat, Nat.reduceGT, ↓reduceIte, Nat.reduceAdd, Nat.reduceMul, Nat.reduceSub, Nat.reduceEqDiff, Nat.reduceLeDiff, Nat.reduceLT, Nat.reduceBEq, Int.reduceBEq, Int.reduceBNe, Int.reduceEq, Int.reduceLT, Int.reduceLE, Int.reduceGT, Int.reduceNeg, reduceCtorEq, GZ, L, h1, h2, h3, h4, zY, zZ.zR]
/-- graphs of bounded size -/
def GB (g : zU) : Prop := g.yh ≤ 1048576
theorem GB.len {g : zU} (h : GB g) : g.packs.length ≤ 1048576 ∧ g.top.length + yk g.top ≤ 1048576 ∧ ∀ p ∈ g.packs, p.yh ≤ 1048576 := by
  unfold GB zU.yh at h
  refine ⟨by omega, by omega, fun p hp => ?_⟩
  have := zL.yp hp
  omega
theorem UQ (p : zL) (k : Str) (hb : p.yh ≤ 1048576) : zE (EV Tryz.prog pol) 78 [.agg (p.enc.map .t), .t (.fp [.str k])] = some (.t (.bool (keyOf p == k))) := by
  have h := jT p (by omega)
  simp only [zL.enc, List.map_cons, List.map_nil] at h ⊢
  apply zu
  refine zw rfl Tryz.func78 rfl (by kernel_rfl) ?_
  unfold Tryz.f78
  simp (disch := ((try simp only [LL]); omega)) only [↓GO, ↓DRW, GA, ren, zB, zd, refs, zb, cst, zl, zH, z7, E.load, E.store, zG, isC, bin, zI, zJ, una, z8, za, zh, zK, blt, fnV, asArg, ze, zn, zo, zj, zi, zg, zk, zr, z6, zD, zF, mkS, zc, unN, zM, zm, zy, zC, zf, zN, zq, GS, Int.reduceToNat, Nat.reduceGT, ↓reduceIte, Nat.reduceAdd, Nat.reduceMul, Nat.reduceSub, Nat.reduceEqDiff, Nat.reduceLeDiff, Nat.reduceLT, Nat.reduceBEq, Int.reduceBEq, Int.reduceBNe, Int.reduceEq, Int.reduceLT, Int.reduceLE, Int.reduceGT, Int.reduceNeg, reduceCtorEq, GZ, h]
theorem UP (g : zU) (k : Str) (hB : GB g) : zE (EV Tryz.prog pol) 52 [.agg (g.enc.map .t), .t (.str k)] = some (.t (.int .i64 (ixI (j8 g.packs k)))) := by
  obtain ⟨b1, b2, b3⟩ := hB.len
  have h := ix 78 [.fp [.str k]] (fun p => keyOf p == k) g.packs (by omega) (fun x hx => UQ x k (b3 x hx))
  simp only [zU.enc, List.map_cons, List.map_nil] at h ⊢
  unfold j8
  apply zu
  refine zw rfl Tryz.func52 rfl (by kernel_rfl) ?_
  unfold Tryz.f52
  simp (disch := ((try simp only [LL]); omega)) only [↓GO, ↓DRW, GA, ren, zB, zd, refs, zb, cst, zl, zH, z7, E.load, E.store, zG, isC, bin, zI, zJ, una, z8, za, zh, zK, blt, fnV, asArg, ze, zn, zo, zj, zi, zg, zk, zr, z6, zD, zF, mkS, zc, unN, zM, zm, zy, zC, zf, zN, zq, GS, Int.reduceToNat, Nat.reduceGT, ↓reduceIte, Nat.reduceAdd, Nat.reduceMul, Nat.reduceSub, Nat.reduceEqDiff, Nat.reduceLeDiff, Nat.reduceLT, Nat.reduceBEq, Int.reduceBEq, Int.reduceBNe, Int.reduceEq, Int.reduceLT, Int.reduceLE, Int.reduceGT, Int.reduceNeg, reduceCtorEq, GZ, h, zY]
theorem bR (g : zU) (k : Str) (hB : GB g) : ∀ (rest pre : List zL), g.packs = pre ++ rest →
    EV Tryz.prog pol (.loop 71 26 0 [.t (.str k), .ptr 0 0 0, .t (.int .i64 (pre.length : Int))] [.vs 2 [g.enc.map .t]]) = some (match r8 (fun p => keyOf p == k) rest pre.length with | some i => .loop .ret [.t (.int .i64 (i : Int))] [] | none => .loop (.exit 0) [.bad] [])
  | [], pre, hs => by
    have c : decide ((pre.length : Int) < (g.packs.length : Int)) = false := by simp [hs]
    simp only [zU.enc, List.map_cons, List.map_nil]
    refine zz Tryz.func71 rfl rfl ?_
    simp (disch := ((try simp only [LL]); omega)) only [↓GO, ↓DRW, GA, ren, zB, zd, refs, zb, cst, zl, zH, z7, E.load, E.store, zG, isC, bin, zI, zJ, una, z8, za, zh, zK, blt, fnV, asArg, ze, zn, zo, zj, zi, zg, zk, zr, z6, zD, zF, mkS, zc, unN, zM, zm, zy, zC, zf, zN, zq, GS, Int.reduceToNat, Nat.reduceGT, ↓reduceIte, Nat.reduceAdd, Nat.reduceMul, Nat.reduceSub, Nat.reduceEqDiff, Nat.reduceLeDiff, Nat.reduceLT, Nat.reduceBEq, Int.reduceBEq, Int.reduceBNe, Int.reduceEq, Int.reduceLT, Int.reduceLE, Int.reduceGT, Int.reduceNeg, reduceCtorEq, GZ, c, zL.zR, r8, zY]
  | x :: rest, pre, hs => by
    obtain ⟨b1, b2, b3⟩ := hB.len
    have c : decide ((pre.length : Int) < (g.packs.length : Int)) = true := by simp [hs]; omega
    have hget : (zL.zV g.packs)[pre.length]? = some x.enc := by rw [hs]; exact wB zL.enc pre x rest
    have hlen : pre.length + rest.length + 1 ≤ g.packs.length := by rw [hs]; simp; omega
    have hk := jS x (by have := b3 x (by rw [hs]; simp); omega)
    have IH := bR g k hB rest (pre ++ [x]) (by rw [hs]; simp)
    rw [show ((pre ++ [x]).length : Int) = (pre.length : Int) + 1 by simp, show (pre ++ [x]).length = pre.length + 1 by simp] at IH
    clear hs
    simp only [zU.enc, zL.enc, List.map_cons, List.map_nil] at hget hk IH ⊢
    rw [r8]
    cases h1 : (keyOf x == k)
    all_goals
      refine zz Tryz.func71 rfl rfl ?_
      simp (disch := ((try simp only [LL]); omega)) only [↓GO, ↓DRW, GA, ren, zB, zd, refs, zb, cst, zl, zH, z7, E.load, E.store, zG, isC, bin, zI, zJ, una, z8, za, zh, zK, blt, fnV, asArg, ze, zn, zo, zj, zi, zg, zk, zr, z6, zD, zF, mkS, zc, unN, zM, zm, zy, zC, zf, zN, zq, GS, Int.reduceToNat, Nat.reduceGT, ↓reduceIte, Nat.reduceAdd, Nat.reduceMul, Nat.reduceSub, Nat.reduceEqDiff, Nat.reduceLeDiff, Nat.reduceLT, Nat.reduceBEq, Int.reduceBEq, Int.reduceBNe, Int.reduceEq, Int.reduceLT, Int.reduceLE, Int.reduceGT, Int.reduceNeg, reduceCtorEq, GZ, c, zL.zR, hget, hk, h1, zx, IH, zY]
theorem UO (g : zU) (k : Str) (hB : GB g) : zE (EV Tryz.prog pol) 71 [.agg (g.enc.map .t), .t (.str k)] = some (.t (.int .i64 (ixI (j8 g.packs k)))) := by
  have L := bR g k hB g.packs [] rfl
  simp only [List.length_nil, Int.natCast_zero] at L
  simp only [zU.enc, List.map_cons, List.map_nil] at L ⊢
  unfold j8
  cases hf : r8 (fun p => keyOf p == k) g.packs 0 <;> rw [hf] at L <;> simp only at L
  all_goals
    apply zu
    refine zw rfl Tryz.func71 rfl (by kernel_rfl) ?_
    unfold Tryz.f71
    simp (disch := ((try simp only [LL]); omega)) only [↓GO, ↓DRW, GA, ren, zB, zd, refs, zb, cst, zl, zH, z7, E.load, E.store, zG, isC, bin, zI, zJ, una, z8, za, zh, zK, blt, fnV, asArg, ze, zn, zo, zj, zi, zg, zk, zr, z6, zD, zF, mkS, zc, unN, zM, zm, zy, zC, zf, zN, zq, GS, Int.reduceToNat, Nat.reduceGT, ↓reduceIte, Nat.reduceAdd, Nat.reduceMul, Nat.reduceSub, Nat.reduceEqDiff, Nat.reduceLeDiff, Nat.reduceLT, Nat.reduceBEq, Int.reduceBEq, Int.reduceBNe, Int.reduceEq, Int.reduceLT, Int.reduceLE, Int.reduceGT, Int.reduceNeg, reduceCtorEq, GZ, L, ixI, zY]
theorem bP (g : zU) (hB : GB g) (ks : List Str) (hl : ks.length ≤ 1048576) : ∀ (rest pre : List Str), ks = pre ++ rest →
    EV Tryz.prog pol (.loop 63 26 0 [.t (.list 1 (y6 ks)), .ptr 0 0 0, .t (.list 1 (y6 ks)), .t (.int .i64 (ks.length : Int)), .t (.int .i64 (pre.length : Int))] [.vs 2 [g.enc.map .t]]) = some (cond (xZ g.packs pre.getLast? rest) (.loop (.exit 0) [.bad] []) (.loop .ret [.t (.bool false)] []))
  | [], pre, hs => by
    have c : decide ((pre.length : Int) < (ks.length : Int)) = false := by simp [hs]
    simp only [zU.enc, List.map_cons, List.map_nil]
    refine zz Tryz.func63 rfl rfl ?_
    simp (disch := ((try simp only [LL]); omega)) only [↓GO, ↓DRW, GA, ren, zB, zd, refs, zb, cst, zl, zH, z7, E.load, E.store, zG, isC, bin, zI, zJ, una, z8, za, zh, zK, blt, fnV, asArg, ze, zn, zo, zj, zi, zg, zk, zr, z6, zD, zF, mkS, zc, unN, zM, zm, zy, zC, zf, zN, zq, GS, Int.reduceToNat, Nat.reduceGT, ↓reduceIte, Nat.reduceAdd, Nat.reduceMul, Nat.reduceSub, Nat.reduceEqDiff, Nat.reduceLeDiff, Nat.reduceLT, Nat.reduceBEq, Int.reduceBEq, Int.reduceBNe, Int.reduceEq, Int.reduceLT, Int.reduceLE, Int.reduceGT, Int.reduceNeg, reduceCtorEq, GZ, c, xZ, zY]
  | x :: rest, pre, hs => by
    have c : decide ((pre.length : Int) < (ks.length : Int)) = true := by simp [hs]; omega
    have hget : (y6 ks)[pre.length]? = some [.str x] := by rw [hs]; exact xU pre x rest
    have hlen : pre.length + rest.length + 1 ≤ ks.length := by rw [hs]; simp; omega
    have IH := bP g hB ks hl rest (pre ++ [x]) (by rw [hs]; simp)
    have hk := UP g x hB
    have hlt := Vg (fun p => keyOf p == x) g.packs
    rw [show ((pre ++ [x]).length : Int) = (pre.length : Int) + 1 by simp, show (pre ++ [x]).getLast? = some x by simp] at IH
    rw [xZ]
    unfold Ly
    unfold j8 at hk
    generalize ixI (r8 (fun p => keyOf p == x) g.packs 0) = n at *
    generalize (g.packs.any fun p => keyOf p == x) = b1 at *
    simp only [zU.enc, List.map_cons, List.map_nil] at hk IH ⊢
    rcases wj pre with rfl | ⟨pre', q, rfl⟩
    · clear hs
      simp only [List.length_nil, List.getLast?_nil, vS, Int.natCast_zero, Int.zero_add] at *
      cases b1 <;> simp only [Bool.not_true, Bool.not_false] at hlt
      all_goals
        refine zz Tryz.func63 rfl rfl ?_
        simp (disch := ((try simp only [LL]); omega)) only [↓GO, ↓DRW, GA, ren, zB, zd, refs, zb, cst, zl, zH, z7, E.load, E.store, zG, isC, bin, zI, zJ, una, z8, za, zh, zK, blt, fnV, asArg, ze, zn, zo, zj, zi, zg, zk, zr, z6, zD, zF, mkS, zc, unN, zM, zm, zy, zC, zf, zN, zq, GS, Int.reduceToNat, Nat.reduceGT, ↓reduceIte, Nat.reduceAdd, Nat.reduceMul, Nat.reduceSub, Nat.reduceEqDiff, Nat.reduceLeDiff, Nat.reduceLT, Nat.reduceBEq, Int.reduceBEq, Int.reduceBNe, Int.reduceEq, Int.reduceLT, Int.reduceLE, Int.reduceGT, Int.reduceNeg, reduceCtorEq, GZ, zP, c, hget, zx, hk, hlt, IH, Int.zero_add, zY]
    · have hprev : uG (y6 ks) (((pre' ++ [q]).length : Int) - 1) = some [.str q] := by rw [hs]; exact uz (fun s => [T.str s]) pre' q (x :: rest)
      have hge : 1 ≤ (pre' ++ [q]).length := by simp
      have hgt : decide (((pre' ++ [q]).length : Int) > 0) = true := by simp only [decide_eq_true_eq]; omega
      have hcmp := qz x q
      rw [show (pre' ++ [q]).getLast? = some q by simp]
      simp only [vS]
      clear hs
      generalize (pre' ++ [q]).length = m at *
      cases b1 <;> simp only [Bool.not_true, Bool.not_false] at hlt <;> cases h2 : Op.bytesLess q x <;> rw [h2] at hcmp
      all_goals
        refine zz Tryz.func63 rfl rfl ?_
        simp (disch := ((try simp only [LL]); omega)) only [↓GO, ↓DRW, GA, ren, zB, zd, refs, zb, cst, zl, zH, z7, E.load, E.store, zG, isC, bin, zI, zJ, una, z8, za, zh, zK, blt, fnV, asArg, ze, zn, zo, zj, zi, zg, zk, zr, z6, zD, zF, mkS, zc, unN, zM, zm, zy, zC, zf, zN, zq, GS, Int.reduceToNat, Nat.reduceGT, ↓reduceIte, Nat.reduceAdd, Nat.reduceMul, Nat.reduceSub, Nat.reduceEqDiff, Nat.reduceLeDiff, Nat.reduceLT, Nat.reduceBEq, Int.reduceBEq, Int.reduceBNe, Int.reduceEq, Int.reduceLT, Int.reduceLE, Int.reduceGT, Int.reduceNeg, reduceCtorEq, GZ, zP, c, hget, zx, hk, hlt, hgt, hprev, hcmp, IH, zY]
theorem aE (g : zU) (hB : GB g) (ks : List Str) (hl : ks.length ≤ 1048576) : zE (EV Tryz.prog pol) 63 [.agg (g.enc.map .t), .t (.list 1 (y6 ks))] = some (.t (.bool (xZ g.packs none ks))) := by
  have L := bP g hB ks hl ks [] rfl
  simp only [List.length_nil, Int.natCast_zero, List.getLast?_nil] at L
  simp only [zU.enc, List.map_cons, List.map_nil] at L ⊢
  cases h : xZ g.packs none ks <;> rw [h] at L <;> simp only [cond_true, cond_false] at L
  all_goals
    apply zu
    refine zw rfl Tryz.func63 rfl (by kernel_rfl) ?_
    unfold Tryz.f63
    simp (disch := ((try simp only [LL]); omega)) only [↓GO, ↓DRW, GA, ren, zB, zd, refs, zb, cst, zl, zH, z7, E.load, E.store, zG, isC, bin, zI, zJ, una, z8, za, zh, zK, blt, fnV, asArg, ze, zn, zo, zj, zi, zg, zk, zr, z6, zD, zF, mkS, zc, unN, zM, zm, zy, zC, zf, zN, zq, GS, Int.reduceToNat, Nat.reduceGT, ↓reduceIte, Nat.reduceAdd, Nat.reduceMul, Nat.reduceSub, Nat.reduceEqDiff, Nat.reduceLeDiff, Nat.reduceLT, Nat.reduceBEq, Int.reduceBEq, Int.reduceBNe, Int.reduceEq, Int.reduceLT, Int.reduceLE, Int.reduceGT, Int.reduceNeg, reduceCtorEq, GZ, L, zP, zY]
theorem bO (g : zU) (hB : GB g) (ks : List Str) (hl : ks.length ≤ 1048576) : ∀ (rest pre : List Str), ks = pre ++ rest →
    EV Tryz.prog pol (.loop 57 26 0 [.t (.list 1 (y6 ks)), .ptr 0 0 0, .t (.int .i64 (pre.length : Int))] [.vs 2 [g.enc.map .t]]) = some (cond (xZ g.packs pre.getLast? rest) (.loop (.exit 0) [.bad] []) (.loop .ret [.t (.bool false)] []))
  | [], pre, hs => by
    have c : decide ((pre.length : Int) < (ks.length : Int)) = false := by simp [hs]
    simp only [zU.enc, List.map_cons, List.map_nil]
    refine zz Tryz.func57 rfl rfl ?_
    simp (disch := ((try simp only [LL]); omega)) only [↓GO, ↓DRW, GA, ren, zB, zd, refs, zb, cst, zl, zH, z7, E.load, E.store, zG, isC, bin, zI, zJ, una, z8, za, zh, zK, blt, fnV, asArg, ze, zn, zo, zj, zi, zg, zk, zr, z6, zD, zF, mkS, zc, unN, zM, zm, zy, zC, zf, zN, zq, GS, Int.reduceToNat, Nat.reduceGT, ↓reduceIte, Nat.reduceAdd, Nat.reduceMul, Nat.reduceSub, Nat.reduceEqDiff, Nat.reduceLeDiff, Nat.reduceLT, Nat.reduceBEq, Int.reduceBEq, Int.reduceBNe, Int.reduceEq, Int.reduceLT, Int.reduceLE, Int.reduceGT, Int.reduceNeg, reduceCtorEq, GZ, c, zP, xZ, zY]
  | x :: rest, pre, hs => by
    have c : decide ((pre.length : Int) < (ks.length : Int)) = true := by simp [hs]; omega
    have hget : (y6 ks)[pre.length]? = some [.str x] := by rw [hs]; exact xU pre x rest
    have hlen : pre.length + rest.length + 1 ≤ ks.length := by rw [hs]; simp; omega
    have IH := bO g hB ks hl rest (pre ++ [x]) (by rw [hs]; simp)
    have hk := UO g x hB
    have hlt := Vg (fun p => keyOf p == x) g.packs
    rw [show ((pre ++ [x]).length : Int) = (pre.length : Int) + 1 by simp, show (pre ++ [x]).getLast? = some x by simp] at IH
    rw [xZ]
    unfold Ly
    unfold j8 at hk
    generalize ixI (r8 (fun p => keyOf p == x) g.packs 0) = n at *
    generalize (g.packs.any fun p => keyOf p == x) = b1 at *
    simp only [zU.enc, List.map_cons, List.map_nil] at hk IH ⊢
    rcases wj pre with rfl | ⟨pre', q, rfl⟩
    · clear hs
      simp only [List.length_nil, List.getLast?_nil, vS, Int.natCast_zero, Int.zero_add] at *
      cases b1 <;> simp only [Bool.not_true, Bool.not_false] at hlt
      all_goals
        refine zz Tryz.func57 rfl rfl ?_
        simp (disch := ((try simp only [LL]); omega)) only [↓GO, ↓DRW, GA, ren, zB, zd, refs, zb, cst, zl, zH, z7, E.load, E.store, zG, isC, bin, zI, zJ, una, z8, za, zh, zK, blt, fnV, asArg, ze, zn, zo, zj, zi, zg, zk, zr, z6, zD, zF, mkS, zc, unN, zM, zm, zy, zC, zf, zN, zq, GS, Int.reduceToNat, Nat.reduceGT, ↓reduceIte, Nat.reduceAdd, Nat.reduceMul, Nat.reduceSub, Nat.reduceEqDiff, Nat.reduceLeDiff, Nat.reduceLT, Nat.reduceBEq, Int.reduceBEq, Int.reduceBNe, Int.reduceEq, Int.reduceLT, Int.reduceLE, Int.reduceGT, Int.reduceNeg, reduceCtorEq, GZ, zP, c, hget, zx, hk, hlt, IH, Int.zero_add, zY]
    · have hprev : uG (y6 ks) (((pre' ++ [q]).length : Int) - 1) = some [.str q] := by rw [hs]; exact uz (fun s => [T.str s]) pre' q (x :: rest)
      have hge : 1 ≤ (pre' ++ [q]).length := by simp
      have hgt : decide (((pre' ++ [q]).length : Int) > 0) = true := by simp only [decide_eq_true_eq]; omega
      rw [show (pre' ++ [q]).getLast? = some q by simp]
      simp only [vS]
      clear hs
      generalize (pre' ++ [q]).length = m at *
      cases b1 <;> simp only [Bool.not_true, Bool.not_false] at hlt <;> cases h2 : Op.bytesLess q x
      all_goals
        refine zz Tryz.func57 rfl rfl ?_
        simp (disch := ((try simp only [LL]); omega)) only [↓GO, ↓DRW, GA, ren, zB, zd, refs, zb, cst, zl, zH, z7, E.load, E.store, zG, isC, bin, zI, zJ, una, z8, za, zh, zK, blt, fnV, asArg, ze, zn, zo, zj, zi, zg, zk, zr, z6, zD, zF, mkS, zc, unN, zM, zm, zy, zC, zf, zN, zq, GS, Int.reduceToNat, Nat.reduceGT, ↓reduceIte, Nat.reduceAdd, Nat.reduceMul, Nat.reduceSub, Nat.reduceEqDiff, Nat.reduceLeDiff, Nat.reduceLT, Nat.reduceBEq, Int.reduceBEq, Int.reduceBNe, Int.reduceEq, Int.reduceLT, Int.reduceLE, Int.reduceGT, Int.reduceNeg, reduceCtorEq, GZ, zP, c, hget, zx, hk, hlt, hgt, hprev, h2, IH, zY]
theorem aD (g : zU) (hB : GB g) (ks : List Str) (hl : ks.length ≤ 1048576) : zE (EV Tryz.prog pol) 57 [.agg (g.enc.map .t), .t (.list 1 (y6 ks))] = some (.t (.bool (xZ g.packs none ks))) := by
  have L := bO g hB ks hl ks [] rfl
  simp only [List.length_nil, Int.natCast_zero, List.getLast?_nil] at L
  simp only [zU.enc, List.map_cons, List.map_nil] at L ⊢
  cases h : xZ g.packs none ks <;> rw [h] at L <;> simp only [cond_true, cond_false] at L
  all_goals
    apply zu
    refine zw rfl Tryz.func57 rfl (by kernel_rfl) ?_
    unfold Tryz.f57
    simp (disch := ((try simp only [LL]); omega)) only [↓GO, ↓DRW, GA, ren, zB, zd, refs, zb, cst, zl, zH, z7, E.load, E.store, zG, isC, bin, zI, zJ, una, z8, za, zh, zK, blt, fnV, asArg, ze, zn, zo, zj, zi, zg, zk, zr, z6, zD, zF, mkS, zc, unN, zM, zm, zy, zC, zf, zN, zq, GS, Int.reduceToNat, Nat.reduceGT, ↓reduceIte, Nat.reduceAdd, Nat.reduceMul, Nat.reduceSub, Nat.reduceEqDiff, Nat.reduceLeDiff, Nat.reduceLT, Nat.reduceBEq, Int.reduceBEq, Int.reduceBNe, Int.reduceEq, Int.reduceLT, Int.reduceLE, Int.reduceGT, Int.reduceNeg, reduceCtorEq, GZ, L, zP, zY]
end Go.Proofs.YtmcephnfcciloaaGreatDoor
/- Is a graph right? By both. Conditions: those of each lemma. -/
namespace Go.Proofs.YtmcephnfcciloaaGreatDoor
open E
set_option linter.unusedSimpArgs false
set_option linter.unusedVariables false
set_option maxRecDepth 100000
theorem np {p : zL} {n : Nat} (h : p.yh ≤ n) : p.needs.length ≤ n ∧ yk p.needs ≤ n ∧ p.sums.length ≤ n ∧ zZ.ya p.sums ≤ n ∧ p.name.length ≤ n ∧ p.version.length ≤ n ∧ p.source.length ≤ n := by
  unfold zL.yh at h; omega
theorem Vd (g : zU) (hB : GB g) : ∀ (rest pre : List zL), g.packs = pre ++ rest →
    EV Tryz.prog pol (.loop 33 26 0 [.ptr 0 0 0, .t (.list 6 (zL.zV g.packs)), .t (.int .i64 (g.packs.length : Int)), .t (.int .i64 (pre.length : Int))] [.vs 2 [g.enc.map .t]]) = some (cond (wV g.packs (pre.getLast?.map keyOf) rest) (.loop (.exit 0) [.ptr 0 0 0, .bad] [.vs 2 [g.enc.map .t]]) (.loop .ret [.ptr 0 0 0, .t (.bool false)] [.vs 2 [g.enc.map .t]]))
  | [], pre, hs => by
    have c : decide ((pre.length : Int) < (g.packs.length : Int)) = false := by simp [hs]
    simp only [zU.enc, List.map_cons, List.map_nil]
    refine zz Tryz.func33 rfl rfl ?_
    simp (disch := ((try simp only [LL]); omega)) only [↓GO, ↓DRW, GA, ren, zB, zd, refs, zb, cst, zl, zH, z7, E.load, E.store, zG, isC, bin, zI, zJ, una, z8, za, zh, zK, blt, fnV, asArg, ze, zn, zo, zj, zi, zg, zk, zr, z6, zD, zF, mkS, zc, unN, zM, zm, zy, zC, zf, zN, zq, GS, Int.reduceToNat, Nat.reduceGT, ↓reduceIte, Nat.reduceAdd, Nat.reduceMul, Nat.reduceSub, Nat.reduceEqDiff, Nat.reduceLeDiff, Nat.reduceLT, Nat.reduceBEq, Int.reduceBEq, Int.reduceBNe, Int.reduceEq, Int.reduceLT, Int.reduceLE, Int.reduceGT, Int.reduceNeg, reduceCtorEq, GZ, c, wV, zY]
  | x :: rest, pre, hs => by
    obtain ⟨b1, b2, b3⟩ := hB.len
    have c : decide ((pre.length : Int) < (g.packs.length : Int)) = true := by simp [hs]; omega
    have hget : (zL.zV g.packs)[pre.length]? = some x.enc := by rw [hs]; exact wB zL.enc pre x rest
    have hlen : pre.length + rest.length + 1 ≤ g.packs.length := by rw [hs]; simp; omega
    have hxb := b3 x (by rw [hs]; simp)
    have IH := Vd g hB rest (pre ++ [x]) (by rw [hs]; simp)
    have h1 := UJ x hxb
    have h2 := jT x (by omega)
    have h3 := aE g hB x.needs (np hxb).1
    rw [show ((pre ++ [x]).length : Int) = (pre.length : Int) + 1 by simp, show (pre ++ [x]).getLast?.map keyOf = some (keyOf x) by simp] at IH
    rw [wV]
    generalize rT x = a1 at *
    generalize xZ g.packs none x.needs = a2 at *
    rcases wj pre with rfl | ⟨pre', q, rfl⟩
    · clear hs
      generalize keyOf x = kx at *
      simp only [List.length_nil, List.getLast?_nil, Option.map_none, vS, Int.natCast_zero, Int.zero_add] at *
      simp only [zU.enc, zL.enc, List.map_cons, List.map_nil] at hget h1 h2 h3 IH ⊢
      cases a1 <;> cases a2
      all_goals
        refine zz Tryz.func33 rfl rfl ?_
        simp (disch := ((try simp only [LL]); omega)) only [↓GO, ↓DRW, GA, ren, zB, zd, refs, zb, cst, zl, zH, z7, E.load, E.store, zG, isC, bin, zI, zJ, una, z8, za, zh, zK, blt, fnV, asArg, ze, zn, zo, zj, zi, zg, zk, zr, z6, zD, zF, mkS, zc, unN, zM, zm, zy, zC, zf, zN, zq, GS, Int.reduceToNat, Nat.reduceGT, ↓reduceIte, Nat.reduceAdd, Nat.reduceMul, Nat.reduceSub, Nat.reduceEqDiff, Nat.reduceLeDiff, Nat.reduceLT, Nat.reduceBEq, Int.reduceBEq, Int.reduceBNe, Int.reduceEq, Int.reduceLT, Int.reduceLE, Int.reduceGT, Int.reduceNeg, reduceCtorEq, GZ, zL.zR, c, hget, zx, h1, h2, h3, IH, Int.zero_add, zY]
    · have hprev : uG (zL.zV g.packs) (((pre' ++ [q]).length : Int) - 1) = some q.enc := by rw [hs]; exact uz zL.enc pre' q (x :: rest)
      have h4 := jT q (by have := b3 q (by rw [hs]; simp); omega)
      have hge : 1 ≤ (pre' ++ [q]).length := by simp
      have hgt : decide (((pre' ++ [q]).length : Int) > 0) = true := by simp only [decide_eq_true_eq]; omega
      have hcmp := qz (keyOf x) (keyOf q)
      rw [show (pre' ++ [q]).getLast?.map keyOf = some (keyOf q) by simp]
      simp only [vS]
      clear hs
      generalize (pre' ++ [q]).length = m at *
      generalize keyOf x = kx at *
      generalize keyOf q = kq at *
      simp only [zU.enc, zL.enc, List.map_cons, List.map_nil] at hget hprev h1 h2 h3 h4 IH ⊢
      cases a1 <;> cases a2 <;> cases h5 : Op.bytesLess kq kx <;> rw [h5] at hcmp
      all_goals
        refine zz Tryz.func33 rfl rfl ?_
        simp (disch := ((try simp only [LL]); omega)) only [↓GO, ↓DRW, GA, ren, zB, zd, refs, zb, cst, zl, zH, z7, E.load, E.store, zG, isC, bin, zI, zJ, una, z8, za, zh, zK, blt, fnV, asArg, ze, zn, zo, zj, zi, zg, zk, zr, z6, zD, zF, mkS, zc, unN, zM, zm, zy, zC, zf, zN, zq, GS, Int.reduceToNat, Nat.reduceGT, ↓reduceIte, Nat.reduceAdd, Nat.reduceMul, Nat.reduceSub, Nat.reduceEqDiff, Nat.reduceLeDiff, Nat.reduceLT, Nat.reduceBEq, Int.reduceBEq, Int.reduceBNe, Int.reduceEq, Int.reduceLT, Int.reduceLE, Int.reduceGT, Int.reduceNeg, reduceCtorEq, GZ, zL.zR, c, hget, zx, h1, h2, h3, h4, hgt, hprev, hcmp, IH, zY]
theorem Vr (g : zU) (hB : GB g) : zE (EV Tryz.prog pol) 33 [.agg (g.enc.map .t)] = some (.t (.bool (w7 g))) := by
  have L := Vd g hB g.packs [] rfl
  have h3 := aE g hB g.top (by have := hB.len; omega)
  simp only [List.length_nil, Int.natCast_zero, List.getLast?_nil, Option.map_none] at L
  simp only [zU.enc, List.map_cons, List.map_nil] at L h3 ⊢
  unfold w7
  generalize xZ g.packs none g.top = a2 at *
  cases h : wV g.packs none g.packs <;> rw [h] at L <;> simp only [cond_true, cond_false] at L <;> cases h4 : decide ((g.packs.length : Int) ≤ 40) <;> cases a2
  all_goals
    apply zu
    refine zw rfl Tryz.func33 rfl (by kernel_rfl) ?_
    unfold Tryz.f33
    simp (disch := ((try simp only [LL]); omega)) only [↓GO, ↓DRW, GA, ren, zB, zd, refs, zb, cst, zl, zH, z7, E.load, E.store, zG, isC, bin, zI, zJ, una, z8, za, zh, zK, blt, fnV, asArg, ze, zn, zo, zj, zi, zg, zk, zr, z6, zD, zF, mkS, zc, unN, zM, zm, zy, zC, zf, zN, zq, GS, Int.reduceToNat, Nat.reduceGT, ↓reduceIte, Nat.reduceAdd, Nat.reduceMul, Nat.reduceSub, Nat.reduceEqDiff, Nat.reduceLeDiff, Nat.reduceLT, Nat.reduceBEq, Int.reduceBEq, Int.reduceBNe, Int.reduceEq, Int.reduceLT, Int.reduceLE, Int.reduceGT, Int.reduceNeg, reduceCtorEq, GZ, L, zL.zR, h3, h4, zY]
theorem Vc (g : zU) (hB : GB g) : ∀ (rest pre : List zL), g.packs = pre ++ rest →
    EV Tryz.prog pol (.loop 27 26 0 [.ptr 0 0 0, .t (.int .i64 (pre.length : Int))] [.vs 2 [g.enc.map .t]]) = some (cond (wV g.packs (pre.getLast?.map keyOf) rest) (.loop (.exit 0) [.ptr 0 0 0, .bad] [.vs 2 [g.enc.map .t]]) (.loop .ret [.ptr 0 0 0, .t (.bool false)] [.vs 2 [g.enc.map .t]]))
  | [], pre, hs => by
    have c : decide ((pre.length : Int) < (g.packs.length : Int)) = false := by simp [hs]
    simp only [zU.enc, List.map_cons, List.map_nil]
    refine zz Tryz.func27 rfl rfl ?_
    simp (disch := ((try simp only [LL]); omega)) only [↓GO, ↓DRW, GA, ren, zB, zd, refs, zb, cst, zl, zH, z7, E.load, E.store, zG, isC, bin, zI, zJ, una, z8, za, zh, zK, blt, fnV, asArg, ze, zn, zo, zj, zi, zg, zk, zr, z6, zD, zF, mkS, zc, unN, zM, zm, zy, zC, zf, zN, zq, GS, Int.reduceToNat, Nat.reduceGT, ↓reduceIte, Nat.reduceAdd, Nat.reduceMul, Nat.reduceSub, Nat.reduceEqDiff, Nat.reduceLeDiff, Nat.reduceLT, Nat.reduceBEq, Int.reduceBEq, Int.reduceBNe, Int.reduceEq, Int.reduceLT, Int.reduceLE, Int.reduceGT, Int.reduceNeg, reduceCtorEq, GZ, c, zL.zR, wV, zY]
  | x :: rest, pre, hs => by
    obtain ⟨b1, b2, b3⟩ := hB.len
    have c : decide ((pre.length : Int) < (g.packs.length : Int)) = true := by simp [hs]; omega
    have hget : (zL.zV g.packs)[pre.length]? = some x.enc := by rw [hs]; exact wB zL.enc pre x rest
    have hlen : pre.length + rest.length + 1 ≤ g.packs.length := by rw [hs]; simp; omega
    have hxb := b3 x (by rw [hs]; simp)
    have IH := Vc g hB rest (pre ++ [x]) (by rw [hs]; simp)
    have h1 := UI x hxb
    have h2 := jS x (by omega)
    have h3 := aD g hB x.needs (np hxb).1
    rw [show ((pre ++ [x]).length : Int) = (pre.length : Int) + 1 by simp, show (pre ++ [x]).getLast?.map keyOf = some (keyOf x) by simp] at IH
    rw [wV]
    generalize rT x = a1 at *
    generalize xZ g.packs none x.needs = a2 at *
    rcases wj pre with rfl | ⟨pre', q, rfl⟩
    · clear hs
      generalize keyOf x = kx at *
      simp only [List.length_nil, List.getLast?_nil, Option.map_none, vS, Int.natCast_zero, Int.zero_add] at *
      simp only [zU.enc, zL.enc, List.map_cons, List.map_nil] at hget h1 h2 h3 IH ⊢
      cases a1 <;> cases a2
      all_goals
        refine zz Tryz.func27 rfl rfl ?_
        simp (disch := ((try simp only [LL]); omega)) only [↓GO, ↓DRW, GA, ren, zB, zd, refs, zb, cst, zl, zH, z7, E.load, E.store, zG, isC, bin, zI, zJ, una, z8, za, zh, zK, blt, fnV, asArg, ze, zn, zo, zj, zi, zg, zk, zr, z6, zD, zF, mkS, zc, unN, zM, zm, zy, zC, zf, zN, zq, GS, Int.reduceToNat, Nat.reduceGT, ↓reduceIte, Nat.reduceAdd, Nat.reduceMul, Nat.reduceSub, Nat.reduceEqDiff, Nat.reduceLeDiff, Nat.reduceLT, Nat.reduceBEq, Int.reduceBEq, Int.reduceBNe, Int.reduceEq, Int.reduceLT, Int.reduceLE, Int.reduceGT, Int.reduceNeg, reduceCtorEq, GZ, zL.zR, c, hget, zx, h1, h2, h3, IH, Int.zero_add, zY]
    · have hprev : uG (zL.zV g.packs) (((pre' ++ [q]).length : Int) - 1) = some q.enc := by rw [hs]; exact uz zL.enc pre' q (x :: rest)
      have h4 := jS q (by have := b3 q (by rw [hs]; simp); omega)
      have hge : 1 ≤ (pre' ++ [q]).length := by simp
      have hgt : decide (((pre' ++ [q]).length : Int) > 0) = true := by simp only [decide_eq_true_eq]; omega
      rw [show (pre' ++ [q]).getLast?.map keyOf = some (keyOf q) by simp]
      simp only [vS]
      clear hs
      generalize (pre' ++ [q]).length = m at *
      generalize keyOf x = kx at *
      generalize keyOf q = kq at *
      simp only [zU.enc, zL.enc, List.map_cons, List.map_nil] at hget hprev h1 h2 h3 h4 IH ⊢
      cases a1 <;> cases a2 <;> cases h5 : Op.bytesLess kq kx
      all_goals
        refine zz Tryz.func27 rfl rfl ?_
        simp (disch := ((try simp only [LL]); omega)) only [↓GO, ↓DRW, GA, ren, zB, zd, refs, zb, cst, zl, zH, z7, E.load, E.store, zG, isC, bin, zI, zJ, una, z8, za, zh, zK, blt, fnV, asArg, ze, zn, zo, zj, zi, zg, zk, zr, z6, zD, zF, mkS, zc, unN, zM, zm, zy, zC, zf, zN, zq, GS, Int.reduceToNat, Nat.reduceGT, ↓reduceIte, Nat.reduceAdd, Nat.reduceMul, Nat.reduceSub, Nat.reduceEqDiff, Nat.reduceLeDiff, Nat.reduceLT, Nat.reduceBEq, Int.reduceBEq, Int.reduceBNe, Int.reduceEq, Int.reduceLT, Int.reduceLE, Int.reduceGT, Int.reduceNeg, reduceCtorEq, GZ, zL.zR, c, hget, zx, h1, h2, h3, h4, hgt, hprev, h5, IH, zY]
theorem Vq (g : zU) (hB : GB g) : zE (EV Tryz.prog pol) 27 [.agg (g.enc.map .t)] = some (.t (.bool (w7 g))) := by
  have L := Vc g hB g.packs [] rfl
  have h3 := aD g hB g.top (by have := hB.len; omega)
  simp only [List.length_nil, Int.natCast_zero, List.getLast?_nil, Option.map_none] at L
  simp only [zU.enc, List.map_cons, List.map_nil] at L h3 ⊢
  unfold w7
  generalize xZ g.packs none g.top = a2 at *
  cases h : wV g.packs none g.packs <;> rw [h] at L <;> simp only [cond_true, cond_false] at L <;> cases h4 : decide ((g.packs.length : Int) ≤ 40) <;> cases a2
  all_goals
    apply zu
    refine zw rfl Tryz.func27 rfl (by kernel_rfl) ?_
    unfold Tryz.f27
    simp (disch := ((try simp only [LL]); omega)) only [↓GO, ↓DRW, GA, ren, zB, zd, refs, zb, cst, zl, zH, z7, E.load, E.store, zG, isC, bin, zI, zJ, una, z8, za, zh, zK, blt, fnV, asArg, ze, zn, zo, zj, zi, zg, zk, zr, z6, zD, zF, mkS, zc, unN, zM, zm, zy, zC, zf, zN, zq, GS, Int.reduceToNat, Nat.reduceGT, ↓reduceIte, Nat.reduceAdd, Nat.reduceMul, Nat.reduceSub, Nat.reduceEqDiff, Nat.reduceLeDiff, Nat.reduceLT, Nat.reduceBEq, Int.reduceBEq, Int.reduceBNe, Int.reduceEq, Int.reduceLT, Int.reduceLE, Int.reduceGT, Int.reduceNeg, reduceCtorEq, GZ, L, zL.zR, h3, h4, zY]
end Go.Proofs.YtmcephnfcciloaaGreatDoor
/- What notices tell of a graph, by both. Conditions: those of each lemma. -/
namespace Go.Proofs.YtmcephnfcciloaaGreatDoor
open E
set_option linter.unusedSimpArgs false
set_option linter.unusedVariables false
set_option maxRecDepth 100000
theorem lz {s : Str} {l : List Bd} (h : wq s = some l) : BdB l := by
  unfold wq at h
  cases hc : (decide ((s.length : Int) > 200) || decide (((yV 0 s).length : Int) > 8)) with
  | true => rw [hc] at h; cases h
  | false =>
    rw [hc, cond_false] at h
    have h1 := nT h
    have h2 := (sJ _ _ h).2
    simp only [Bool.or_eq_false_iff, decide_eq_false_iff_not] at hc
    exact ⟨by omega, fun b hb => by have := h1 b hb; omega⟩
theorem c_afI (n : zt) (hb : n.yh ≤ 1048576) (name ver : Str) (hn : name.length ≤ 1048576) (hv : ver.length ≤ 1048576) : zE (EV Tryz.prog pol) 34 [.agg (n.enc.map .t), .t (.str name), .t (.str ver)] = some (.t (.bool (afT n name ver))) := by
  have d1 := c_noI n hb
  have d2 := Tv n.range (by simp only [zt.yh] at hb; omega)
  rw [nk] at d2
  unfold afT
  have e : qW n = xI n := rfl
  rw [e]
  cases hr : wq n.range with
  | none =>
    have hno : xI n = false := by unfold xI; rw [hr]; rfl
    rw [hno] at d1 ⊢
    rw [hr] at d2
    simp only [Bool.false_and, rrT] at d2 ⊢
    obtain ⟨nm, rg, tx⟩ := n
    simp only [zt.enc, List.map_cons, List.map_nil] at d1 d2 ⊢
    apply zu
    refine zw rfl Tryz.func34 rfl (by kernel_rfl) ?_
    unfold Tryz.f34
    simp (disch := ((try simp only [LL]); omega)) only [↓GO, ↓DRW, GA, ren, zB, zd, refs, zb, cst, zl, zH, z7, E.load, E.store, zG, isC, bin, zI, zJ, una, z8, za, zh, zK, blt, fnV, asArg, ze, zn, zo, zj, zi, zg, zk, zr, z6, zD, zF, mkS, zc, unN, zM, zm, zy, zC, zf, zN, zq, GS, Int.reduceToNat, Nat.reduceGT, ↓reduceIte, Nat.reduceAdd, Nat.reduceMul, Nat.reduceSub, Nat.reduceEqDiff, Nat.reduceLeDiff, Nat.reduceLT, Nat.reduceBEq, Int.reduceBEq, Int.reduceBNe, Int.reduceEq, Int.reduceLT, Int.reduceLE, Int.reduceGT, Int.reduceNeg, reduceCtorEq, GZ, d1, d2, zY]
  | some l =>
    have d3 := c_inI ver hv l (lz hr)
    rw [hr] at d2
    simp only [rrT, Option.getD_some] at d2 ⊢
    generalize xI n = ok at *
    generalize inB ver l = t at *
    obtain ⟨nm, rg, tx⟩ := n
    simp only [zt.enc, List.map_cons, List.map_nil] at d1 d2 ⊢
    cases ok <;> cases q : (nm == name) <;> simp only [Bool.true_and, Bool.false_and]
    all_goals
      apply zu
      refine zw rfl Tryz.func34 rfl (by kernel_rfl) ?_
      unfold Tryz.f34
      simp (disch := ((try simp only [LL]); omega)) only [↓GO, ↓DRW, GA, ren, zB, zd, refs, zb, cst, zl, zH, z7, E.load, E.store, zG, isC, bin, zI, zJ, una, z8, za, zh, zK, blt, fnV, asArg, ze, zn, zo, zj, zi, zg, zk, zr, z6, zD, zF, mkS, zc, unN, zM, zm, zy, zC, zf, zN, zq, GS, Int.reduceToNat, Nat.reduceGT, ↓reduceIte, Nat.reduceAdd, Nat.reduceMul, Nat.reduceSub, Nat.reduceEqDiff, Nat.reduceLeDiff, Nat.reduceLT, Nat.reduceBEq, Int.reduceBEq, Int.reduceBNe, Int.reduceEq, Int.reduceLT, Int.reduceLE, Int.reduceGT, Int.reduceNeg, reduceCtorEq, GZ, d1, d2, d3, q, zY]
theorem c_afR (n : zt) (hb : n.yh ≤ 1048576) (name ver : Str) (hn : name.length ≤ 1048576) (hv : ver.length ≤ 1048576) : zE (EV Tryz.prog pol) 28 [.agg (n.enc.map .t), .t (.str name), .t (.str ver)] = some (.t (.bool (afT n name ver))) := by
  have d1 := c_noR n hb
  have d2 := Tu n.range (by simp only [zt.yh] at hb; omega)
  unfold afT
  have e : qW n = xI n := rfl
  rw [e]
  cases hr : wq n.range with
  | none =>
    have hno : xI n = false := by unfold xI; rw [hr]; rfl
    rw [hno] at d1 ⊢
    rw [hr] at d2
    simp only [Bool.false_and, rrT] at d2 ⊢
    obtain ⟨nm, rg, tx⟩ := n
    simp only [zt.enc, List.map_cons, List.map_nil] at d1 d2 ⊢
    apply zu
    refine zw rfl Tryz.func28 rfl (by kernel_rfl) ?_
    unfold Tryz.f28
    simp (disch := ((try simp only [LL]); omega)) only [↓GO, ↓DRW, GA, ren, zB, zd, refs, zb, cst, zl, zH, z7, E.load, E.store, zG, isC, bin, zI, zJ, una, z8, za, zh, zK, blt, fnV, asArg, ze, zn, zo, zj, zi, zg, zk, zr, z6, zD, zF, mkS, zc, unN, zM, zm, zy, zC, zf, zN, zq, GS, Int.reduceToNat, Nat.reduceGT, ↓reduceIte, Nat.reduceAdd, Nat.reduceMul, Nat.reduceSub, Nat.reduceEqDiff, Nat.reduceLeDiff, Nat.reduceLT, Nat.reduceBEq, Int.reduceBEq, Int.reduceBNe, Int.reduceEq, Int.reduceLT, Int.reduceLE, Int.reduceGT, Int.reduceNeg, reduceCtorEq, GZ, d1, d2, zY]
  | some l =>
    have d3 := c_inR ver hv l (lz hr)
    rw [hr] at d2
    simp only [rrT, Option.getD_some] at d2 ⊢
    generalize xI n = ok at *
    generalize inB ver l = t at *
    obtain ⟨nm, rg, tx⟩ := n
    simp only [zt.enc, List.map_cons, List.map_nil] at d1 d2 ⊢
    cases ok <;> cases q : (nm == name) <;> simp only [Bool.true_and, Bool.false_and]
    all_goals
      apply zu
      refine zw rfl Tryz.func28 rfl (by kernel_rfl) ?_
      unfold Tryz.f28
      simp (disch := ((try simp only [LL]); omega)) only [↓GO, ↓DRW, GA, ren, zB, zd, refs, zb, cst, zl, zH, z7, E.load, E.store, zG, isC, bin, zI, zJ, una, z8, za, zh, zK, blt, fnV, asArg, ze, zn, zo, zj, zi, zg, zk, zr, z6, zD, zF, mkS, zc, unN, zM, zm, zy, zC, zf, zN, zq, GS, Int.reduceToNat, Nat.reduceGT, ↓reduceIte, Nat.reduceAdd, Nat.reduceMul, Nat.reduceSub, Nat.reduceEqDiff, Nat.reduceLeDiff, Nat.reduceLT, Nat.reduceBEq, Int.reduceBEq, Int.reduceBNe, Int.reduceEq, Int.reduceLT, Int.reduceLE, Int.reduceGT, Int.reduceNeg, reduceCtorEq, GZ, d1, d2, d3, q, zY]
def auP (p : zL) (ns : List zt) : List Str := (ns.filter fun n => afT n p.name p.version).map fun n => (keyOf p ++ [32]) ++ n.text
theorem eu (p : zL) (n : zt) (ns : List zt) : auP p (n :: ns) = cond (afT n p.name p.version) (((keyOf p ++ [32]) ++ n.text) :: auP p ns) (auP p ns) := by
  unfold auP
  rw [List.filter_cons]
  cases afT n p.name p.version <;> rfl
theorem jH (p : zL) (ns : List zt) : (auP p ns).length ≤ ns.length := by
  unfold auP; rw [List.length_map]; exact List.length_filter_le _ _
theorem tO (ns : List zt) (p : zL) (ps : List zL) : x8 ns (p :: ps) = auP p ns ++ x8 ns ps := rfl
theorem nS (ns : List zt) : ∀ ps : List zL, (x8 ns ps).length ≤ ps.length * ns.length
  | [] => by simp [x8]
  | p :: ps => by
    rw [tO, List.length_append, List.length_cons, Nat.add_mul]
    have h1 := jH p ns
    have h2 := nS ns ps
    omega
theorem cC (ns : List zt) (hl : ns.length ≤ 1048576) (hb : ∀ n ∈ ns, n.yh ≤ 1048576) (p : zL) (hp : p.yh ≤ 1048576) (pl : T) (a b : T) (M : Nat) (hM : M ≤ 1099511627776) : ∀ (rest pre : List zt) (acc : List Str) (m : Nat) (cap : Option Nat), ns = pre ++ rest → m = acc.length → m + rest.length ≤ M → ∃ cap',
    EV Tryz.prog pol (.loop 11 31334 0 [.t (.list 3 (zt.zV ns)), .sl 0 0 m cap, .ptr 1 0 0, .t pl, .t a, .t b, .t (.list 3 (zt.zV ns)), .t (.int .i64 (ns.length : Int)), .t (.int .i64 (pre.length : Int))] [.ts 1 (y6 acc), .vs 6 [p.enc.map .t]])
      = some (.loop (.exit 2) [.t (.list 3 (zt.zV ns)), .sl 0 0 (m + (auP p rest).length) cap', .t pl, .t a, .t b] [.ts 1 (y6 (acc ++ auP p rest))])
  | [], pre, acc, m, cap, h, hm, hmM => by
    have c : decide ((pre.length : Int) < (ns.length : Int)) = false := by simp [h]
    refine ⟨cap, ?_⟩
    rw [show auP p [] = [] from rfl]
    simp only [List.append_nil, List.length_nil, Nat.add_zero, zL.enc, List.map_cons, List.map_nil]
    refine zz Tryz.func11 rfl rfl ?_
    simp (disch := ((try simp only [LL]); omega)) only [↓GO, ↓DRW, GA, ren, zB, zd, refs, zb, cst, zl, zH, z7, E.load, E.store, zG, isC, bin, zI, zJ, una, z8, za, zh, zK, blt, fnV, asArg, ze, zn, zo, zj, zi, zg, zk, zr, z6, zD, zF, mkS, zc, unN, zM, zm, zy, zC, zf, zN, zq, GS, Int.reduceToNat, Nat.reduceGT, ↓reduceIte, Nat.reduceAdd, Nat.reduceMul, Nat.reduceSub, Nat.reduceEqDiff, Nat.reduceLeDiff, Nat.reduceLT, Nat.reduceBEq, Int.reduceBEq, Int.reduceBNe, Int.reduceEq, Int.reduceLT, Int.reduceLE, Int.reduceGT, Int.reduceNeg, reduceCtorEq, GZ, c, zY]
  | n :: rest, pre, acc, m, cap, h, hm, hmM => by
    have c : decide ((pre.length : Int) < (ns.length : Int)) = true := by simp [h]; omega
    have hget : (zt.zV ns)[pre.length]? = some n.enc := by rw [h]; simp [zt.zV]
    have hlen : pre.length + rest.length + 1 ≤ ns.length := by rw [h]; simp; omega
    have hnb := hb n (by rw [h]; simp)
    have hpb := hp
    simp only [zL.yh] at hpb
    have d1 := c_afI n hnb p.name p.version (by omega) (by omega)
    have d2 := jT p (by omega)
    have hkl : (keyOf p).length ≤ 2097153 := by unfold keyOf; simp only [List.length_append, List.length_cons, List.length_nil]; omega
    have htl : n.text.length ≤ 1048576 := by simp only [zt.yh] at hnb; omega
    have hsl : (y6 acc).length = m := by rw [zP, hm]
    simp only [List.length_cons] at hmM
    have IH0 := cC ns hl hb p hp pl a b M hM rest (pre ++ [n]) acc m cap (by rw [h]; simp) hm (by omega)
    have IH1 := cC ns hl hb p hp pl a b M hM rest (pre ++ [n]) (acc ++ [(keyOf p ++ [32]) ++ n.text]) (m + 1) none (by rw [h]; simp) (by simp [hm]) (by omega)
    rw [show ((pre ++ [n]).length : Int) = (pre.length : Int) + 1 by simp] at IH0 IH1
    rw [show y6 (acc ++ [(keyOf p ++ [32]) ++ n.text]) = y6 acc ++ [[.str ((keyOf p ++ [32]) ++ n.text)]] by simp [y6]] at IH1
    rw [eu]
    clear h hb
    obtain ⟨nm, rg, tx⟩ := n
    obtain ⟨name, version, source, sums, dev, needs⟩ := p
    generalize keyOf ⟨name, version, source, sums, dev, needs⟩ = key at *
    generalize auP ⟨name, version, source, sums, dev, needs⟩ rest = R at *
    simp only [zt.enc, zL.enc, List.map_cons, List.map_nil] at d1 d2 hget IH0 IH1 htl ⊢
    cases q : afT ⟨nm, rg, tx⟩ name version with
    | false =>
      obtain ⟨cap', IH⟩ := IH0
      refine ⟨cap', ?_⟩
      rw [q] at d1
      simp only [cond_false]
      refine zz Tryz.func11 rfl rfl ?_
      simp (disch := ((try simp only [LL]); omega)) only [↓GO, ↓DRW, GA, ren, zB, zd, refs, zb, cst, zl, zH, z7, E.load, E.store, zG, isC, bin, zI, zJ, una, z8, za, zh, zK, blt, fnV, asArg, ze, zn, zo, zj, zi, zg, zk, zr, z6, zD, zF, mkS, zc, unN, zM, zm, zy, zC, zf, zN, zq, GS, Int.reduceToNat, Nat.reduceGT, ↓reduceIte, Nat.reduceAdd, Nat.reduceMul, Nat.reduceSub, Nat.reduceEqDiff, Nat.reduceLeDiff, Nat.reduceLT, Nat.reduceBEq, Int.reduceBEq, Int.reduceBNe, Int.reduceEq, Int.reduceLT, Int.reduceLE, Int.reduceGT, Int.reduceNeg, reduceCtorEq, GZ, c, hget, d1, zx, zY, IH]
    | true =>
      obtain ⟨cap', IH⟩ := IH1
      refine ⟨cap', ?_⟩
      rw [q] at d1
      simp only [cond_true, List.length_cons]
      rw [show m + (R.length + 1) = m + 1 + R.length by omega, show acc ++ (key ++ [32] ++ tx) :: R = (acc ++ [key ++ [32] ++ tx]) ++ R by simp]
      generalize (acc ++ [key ++ [32] ++ tx]) ++ R = Z at *
      refine zz Tryz.func11 rfl rfl ?_
      simp (disch := ((try simp only [LL]); omega)) only [↓GO, ↓DRW, GA, ren, zB, zd, refs, zb, cst, zl, zH, z7, E.load, E.store, zG, isC, bin, zI, zJ, una, z8, za, zh, zK, blt, fnV, asArg, ze, zn, zo, zj, zi, zg, zk, zr, z6, zD, zF, mkS, zc, unN, zM, zm, zy, zC, zf, zN, zq, GS, Int.reduceToNat, Nat.reduceGT, ↓reduceIte, Nat.reduceAdd, Nat.reduceMul, Nat.reduceSub, Nat.reduceEqDiff, Nat.reduceLeDiff, Nat.reduceLT, Nat.reduceBEq, Int.reduceBEq, Int.reduceBNe, Int.reduceEq, Int.reduceLT, Int.reduceLE, Int.reduceGT, Int.reduceNeg, reduceCtorEq, GZ, c, hget, d1, d2, zx, hsl, zY, IH, wh]
      refine yT (by kernel_rfl) ?_
      first | rfl | exact IH
end Go.Proofs.YtmcephnfcciloaaGreatDoor

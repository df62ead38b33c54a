/- Joined: K5 K6 G3 V5 V6 V7 I1 V3 K13 K14. Conditions: those of each lemma. -/
import Derived.Test.YtmcephnfcciloaaGreatDoorUI
import Derived.Test.YtmcephnfcciloaaGreatDoorUH
set_option linter.unusedVariables false
set_option linter.unusedSimpArgs false
namespace Go.Proofs.YtmcephnfcciloaaGreatDoor
open E
set_option linter.unusedSimpArgs false
set_option linter.unusedVariables false
set_option maxRecDepth 100000
theorem pB (a b : Int) : zE (EV Tryz.prog pol) 154 [.t (.int .i64 a), .t (.int .i64 b)] = some (.t (.int .i64 (x9 a b))) := by
  unfold x9
  cases h1 : decide (a < b) <;> cases h2 : decide (a > b)
  all_goals
    apply zu
    refine zw rfl Tryz.func154 rfl (by kernel_rfl) ?_
    unfold Tryz.f154
    simp (disch := ((try simp only [LL]); omega)) only [↓GO, ↓DRW, GA, ren, zB, zd, refs, zb, cst, zl, zH, z7, E.load, E.store, zG, isC, bin, zI, zJ, una, z8, za, zh, zK, blt, fnV, asArg, ze, zn, zo, zj, zi, zg, zk, zr, z6, zD, zF, E.mkS, zc, unN, zM, zm, zy, zC, zf, zN, zq, GS, simprocAttr, GZ, h1, h2]
theorem UE (a b : Str) : zE (EV Tryz.prog pol) 176 [.t (.str a), .t (.str b)] = some (.t (.int .i64 (nN a b))) := by
  unfold nN
  cases h1 : Op.bytesLess a b <;> cases h2 : (a == b)
  all_goals
    apply zu
    refine zw rfl Tryz.func176 rfl (by kernel_rfl) ?_
    unfold Tryz.f176
    simp (disch := ((try simp only [LL]); omega)) only [↓GO, ↓DRW, GA, ren, zB, zd, refs, zb, cst, zl, zH, z7, E.load, E.store, zG, isC, bin, zI, zJ, una, z8, za, zh, zK, blt, fnV, asArg, ze, zn, zo, zj, zi, zg, zk, zr, z6, zD, zF, E.mkS, zc, unN, zM, zm, zy, zC, zf, zN, zq, GS, simprocAttr, GZ, h1, h2]
theorem S4 (a b : Str) (ha : a.length ≤ 4194304) (hb : b.length ≤ 4194304) : zE (EV Tryz.prog pol) 155 [.t (.str a), .t (.str b)] = some (.t (.int .i64 (az a b))) := by
  have d1 := ja a (by omega)
  have d2 := ja b (by omega)
  have d3 := pB (zO a) (zO b)
  have d4 := UE a b
  unfold az
  generalize zO a = ra at *
  generalize zO b = rb at *
  cases h1 : decide (ra ≥ 0) <;> cases h2 : decide (rb ≥ 0)
  all_goals
    apply zu
    refine zw rfl Tryz.func155 rfl (by kernel_rfl) ?_
    unfold Tryz.f155
    simp (disch := ((try simp only [LL]); omega)) only [↓GO, ↓DRW, GA, ren, zB, zd, refs, zb, cst, zl, zH, z7, E.load, E.store, zG, isC, bin, zI, zJ, una, z8, za, zh, zK, blt, fnV, asArg, ze, zn, zo, zj, zi, zg, zk, zr, z6, zD, zF, E.mkS, zc, unN, zM, zm, zy, zC, zf, zN, zq, GS, simprocAttr, GZ, d1, d2, d3, d4, h1, h2]
theorem TQ (x1 x2 x3 x4 y1 y2 y3 y4 : T) (a b c : Int) :
    EV Tryz.prog pol (.loop 117 58 0 [.ptr 0 0 0, .ptr 1 0 0, .sl 2 0 3 (some 3), .t (.int .i64 0)] [.vs 4 [[.t x1, .t x2, .t x3, .t x4]], .vs 4 [[.t y1, .t y2, .t y3, .t y4]], .ts 1 [[.int .i64 a], [.int .i64 b], [.int .i64 c]]])
    = some (cond (a == 0) (cond (b == 0) (cond (c == 0) (.loop (.exit 0) [.ptr 0 0 0, .ptr 1 0 0, .bad] [.vs 4 [[.t x1, .t x2, .t x3, .t x4]], .vs 4 [[.t y1, .t y2, .t y3, .t y4]]])
      (.loop .ret [.ptr 0 0 0, .ptr 1 0 0, .t (.int .i64 c)] [.vs 4 [[.t x1, .t x2, .t x3, .t x4]], .vs 4 [[.t y1, .t y2, .t y3, .t y4]]]))
      (.loop .ret [.ptr 0 0 0, .ptr 1 0 0, .t (.int .i64 b)] [.vs 4 [[.t x1, .t x2, .t x3, .t x4]], .vs 4 [[.t y1, .t y2, .t y3, .t y4]]]))
      (.loop .ret [.ptr 0 0 0, .ptr 1 0 0, .t (.int .i64 a)] [.vs 4 [[.t x1, .t x2, .t x3, .t x4]], .vs 4 [[.t y1, .t y2, .t y3, .t y4]]])) := by
  cases h1 : (a == 0)
  · refine zz Tryz.func117 rfl rfl ?_
    simp (disch := ((try simp only [LL]); omega)) only [↓GO, ↓DRW, GA, ren, zB, zd, refs, zb, cst, zl, zH, z7, E.load, E.store, zG, isC, bin, zI, zJ, una, z8, za, zh, zK, blt, fnV, asArg, ze, zn, zo, zj, zi, zg, zk, zr, z6, zD, zF, E.mkS, zc, unN, zM, zm, zy, zC, zf, zN, zq, GS, simprocAttr, GZ, h1, bne, zx, zY]
  · refine zz Tryz.func117 rfl rfl ?_
    simp (disch := ((try simp only [LL]); omega)) only [↓GO, ↓DRW, GA, ren, zB, zd, refs, zb, cst, zl, zH, z7, E.load, E.store, zG, isC, bin, zI, zJ, una, z8, za, zh, zK, blt, fnV, asArg, ze, zn, zo, zj, zi, zg, zk, zr, z6, zD, zF, E.mkS, zc, unN, zM, zm, zy, zC, zf, zN, zq, GS, simprocAttr, GZ, h1, bne, zx, zY, Int.zero_add]
    cases h2 : (b == 0)
    · refine zz Tryz.func117 rfl rfl ?_
      simp (disch := ((try simp only [LL]); omega)) only [↓GO, ↓DRW, GA, ren, zB, zd, refs, zb, cst, zl, zH, z7, E.load, E.store, zG, isC, bin, zI, zJ, una, z8, za, zh, zK, blt, fnV, asArg, ze, zn, zo, zj, zi, zg, zk, zr, z6, zD, zF, E.mkS, zc, unN, zM, zm, zy, zC, zf, zN, zq, GS, simprocAttr, GZ, h2, bne, zx, zY]
    · refine zz Tryz.func117 rfl rfl ?_
      simp (disch := ((try simp only [LL]); omega)) only [↓GO, ↓DRW, GA, ren, zB, zd, refs, zb, cst, zl, zH, z7, E.load, E.store, zG, isC, bin, zI, zJ, una, z8, za, zh, zK, blt, fnV, asArg, ze, zn, zo, zj, zi, zg, zk, zr, z6, zD, zF, E.mkS, zc, unN, zM, zm, zy, zC, zf, zN, zq, GS, simprocAttr, GZ, h2, bne, zx, zY, Int.reduceAdd]
      cases h3 : (c == 0)
      · refine zz Tryz.func117 rfl rfl ?_
        simp (disch := ((try simp only [LL]); omega)) only [↓GO, ↓DRW, GA, ren, zB, zd, refs, zb, cst, zl, zH, z7, E.load, E.store, zG, isC, bin, zI, zJ, una, z8, za, zh, zK, blt, fnV, asArg, ze, zn, zo, zj, zi, zg, zk, zr, z6, zD, zF, E.mkS, zc, unN, zM, zm, zy, zC, zf, zN, zq, GS, simprocAttr, GZ, h3, bne, zx, zY]
      · refine zz Tryz.func117 rfl rfl ?_
        simp (disch := ((try simp only [LL]); omega)) only [↓GO, ↓DRW, GA, ren, zB, zd, refs, zb, cst, zl, zH, z7, E.load, E.store, zG, isC, bin, zI, zJ, una, z8, za, zh, zK, blt, fnV, asArg, ze, zn, zo, zj, zi, zg, zk, zr, z6, zD, zF, E.mkS, zc, unN, zM, zm, zy, zC, zf, zN, zq, GS, simprocAttr, GZ, h3, bne, zx, zY, Int.reduceAdd]
        refine zz Tryz.func117 rfl rfl ?_
        simp (disch := ((try simp only [LL]); omega)) only [↓GO, ↓DRW, GA, ren, zB, zd, refs, zb, cst, zl, zH, z7, E.load, E.store, zG, isC, bin, zI, zJ, una, z8, za, zh, zK, blt, fnV, asArg, ze, zn, zo, zj, zi, zg, zk, zr, z6, zD, zF, E.mkS, zc, unN, zM, zm, zy, zC, zf, zN, zq, GS, simprocAttr, GZ, zx, zY]
theorem Vf (a b : Ver) (ha : a.sm) (hb : b.sm) : ∀ (ra rb pa pb : List Str), a.pre = pa ++ ra → b.pre = pb ++ rb → pa.length = pb.length →
    EV Tryz.prog pol (.loop 117 250 0 [.ptr 0 0 0, .ptr 1 0 0, .t (.int .i64 (pa.length : Int))] [.vs 4 [a.enc.map .t], .vs 4 [b.enc.map .t]])
    = some (match rI ra rb with
      | some n => .loop .ret [.ptr 0 0 0, .ptr 1 0 0, .t (.int .i64 n)] [.vs 4 [a.enc.map .t], .vs 4 [b.enc.map .t]]
      | none => .loop (.exit 2) [.ptr 0 0 0, .ptr 1 0 0, .bad] [.vs 4 [a.enc.map .t], .vs 4 [b.enc.map .t]])
  | [], rb, pa, pb, h1, h2, h3 => by
    have c : decide ((pa.length : Int) < (a.pre.length : Int)) = false := by simp [h1]
    simp only [Ver.enc, List.map_cons, List.map_nil, rI]
    refine zz Tryz.func117 rfl rfl ?_
    simp (disch := ((try simp only [LL]); omega)) only [↓GO, ↓DRW, GA, ren, zB, zd, refs, zb, cst, zl, zH, z7, E.load, E.store, zG, isC, bin, zI, zJ, una, z8, za, zh, zK, blt, fnV, asArg, ze, zn, zo, zj, zi, zg, zk, zr, z6, zD, zF, E.mkS, zc, unN, zM, zm, zy, zC, zf, zN, zq, GS, simprocAttr, GZ, zP, c, zY]
  | x :: ra, [], pa, pb, h1, h2, h3 => by
    have c : decide ((pa.length : Int) < (a.pre.length : Int)) = true := by simp [h1]; omega
    have c2 : decide ((pa.length : Int) < (b.pre.length : Int)) = false := by simp [h2]; omega
    simp only [Ver.enc, List.map_cons, List.map_nil, rI]
    refine zz Tryz.func117 rfl rfl ?_
    simp (disch := ((try simp only [LL]); omega)) only [↓GO, ↓DRW, GA, ren, zB, zd, refs, zb, cst, zl, zH, z7, E.load, E.store, zG, isC, bin, zI, zJ, una, z8, za, zh, zK, blt, fnV, asArg, ze, zn, zo, zj, zi, zg, zk, zr, z6, zD, zF, E.mkS, zc, unN, zM, zm, zy, zC, zf, zN, zq, GS, simprocAttr, GZ, zP, c, c2, zY]
  | x :: ra, y :: rb, pa, pb, h1, h2, h3 => by
    unfold Ver.sm at ha hb
    have c : decide ((pa.length : Int) < (a.pre.length : Int)) = true := by simp [h1]; omega
    have c2 : decide ((pa.length : Int) < (b.pre.length : Int)) = true := by simp [h2]; omega
    have hg1 : (y6 a.pre)[pa.length]? = some [.str x] := by rw [h1]; exact xU pa x ra
    have hg2 : (y6 b.pre)[pa.length]? = some [.str y] := by rw [h2, h3]; exact xU pb y rb
    have hlen : pa.length + ra.length + 1 ≤ a.pre.length := by rw [h1]; simp; omega
    have hx : x.length ≤ 2097152 := by have := xX (ks := a.pre) (s := x) (by rw [h1]; simp); omega
    have hy : y.length ≤ 2097152 := by have := xX (ks := b.pre) (s := y) (by rw [h2]; simp); omega
    have hp := S4 x y (by omega) (by omega)
    have IH := Vf a b ha hb ra rb (pa ++ [x]) (pb ++ [y]) (by rw [h1]; simp) (by rw [h2]; simp) (by simp [h3])
    rw [show ((pa ++ [x]).length : Int) = (pa.length : Int) + 1 by simp] at IH
    clear h1 h2
    simp only [Ver.enc, List.map_cons, List.map_nil] at IH ⊢
    rw [rI]
    generalize az x y = n at *
    cases hn : (n == 0)
    · simp only [cond_false]
      refine zz Tryz.func117 rfl rfl ?_
      simp (disch := ((try simp only [LL]); omega)) only [↓GO, ↓DRW, GA, ren, zB, zd, refs, zb, cst, zl, zH, z7, E.load, E.store, zG, isC, bin, zI, zJ, una, z8, za, zh, zK, blt, fnV, asArg, ze, zn, zo, zj, zi, zg, zk, zr, z6, zD, zF, E.mkS, zc, unN, zM, zm, zy, zC, zf, zN, zq, GS, simprocAttr, GZ, zP, c, c2, hg1, hg2, hp, hn, bne, zx, zY]
    · simp only [cond_true]
      refine zz Tryz.func117 rfl rfl ?_
      simp (disch := ((try simp only [LL]); omega)) only [↓GO, ↓DRW, GA, ren, zB, zd, refs, zb, cst, zl, zH, z7, E.load, E.store, zG, isC, bin, zI, zJ, una, z8, za, zh, zK, blt, fnV, asArg, ze, zn, zo, zj, zi, zg, zk, zr, z6, zD, zF, E.mkS, zc, unN, zM, zm, zy, zC, zf, zN, zq, GS, simprocAttr, GZ, zP, c, c2, hg1, hg2, hp, hn, bne, zx, zY, IH]
theorem cN (a b : Ver) (ha : a.sm) (hb : b.sm) : zE (EV Tryz.prog pol) 117 [.agg (a.enc.map .t), .agg (b.enc.map .t)] = some (.t (.int .i64 (rN a b))) := by
  have d1 := pB a.maj b.maj
  have d2 := pB a.min b.min
  have d3 := pB a.pat b.pat
  have d4 := pB (b.pre.length : Int) (a.pre.length : Int)
  have d5 := pB (a.pre.length : Int) (b.pre.length : Int)
  have L2 := Vf a b ha hb a.pre b.pre [] [] rfl rfl rfl
  have L1 := TQ (.int .i64 a.maj) (.int .i64 a.min) (.int .i64 a.pat) (.list 1 (y6 a.pre)) (.int .i64 b.maj) (.int .i64 b.min) (.int .i64 b.pat) (.list 1 (y6 b.pre)) (x9 a.maj b.maj) (x9 a.min b.min) (x9 a.pat b.pat)
  have e1 := u0 a.pre
  have e2 := u0 b.pre
  unfold rN VE
  simp only [List.length_nil, Int.natCast_zero] at L2
  simp only [Ver.enc, List.map_cons, List.map_nil] at L1 L2 ⊢
  generalize x9 a.maj b.maj = n1 at *
  generalize x9 a.min b.min = n2 at *
  generalize x9 a.pat b.pat = n3 at *
  cases h1 : (n1 == 0) <;> rw [h1] at L1
  · simp only [cond_false] at L1
    apply zu
    refine zw rfl Tryz.func117 rfl (by kernel_rfl) ?_
    unfold Tryz.f117
    simp (disch := ((try simp only [LL]); omega)) only [↓GO, ↓DRW, GA, ren, zB, zd, refs, zb, cst, zl, zH, z7, E.load, E.store, zG, isC, bin, zI, zJ, una, z8, za, zh, zK, blt, fnV, asArg, ze, zn, zo, zj, zi, zg, zk, zr, z6, zD, zF, E.mkS, zc, unN, zM, zm, zy, zC, zf, zN, zq, GS, simprocAttr, GZ, d1, d2, d3, L1, zY]
    refine yT (by kernel_rfl) ?_
    simp (disch := ((try simp only [LL]); omega)) only [↓GO, ↓DRW, GA, ren, zB, zd, refs, zb, cst, zl, zH, z7, E.load, E.store, zG, isC, bin, zI, zJ, una, z8, za, zh, zK, blt, fnV, asArg, ze, zn, zo, zj, zi, zg, zk, zr, z6, zD, zF, E.mkS, zc, unN, zM, zm, zy, zC, zf, zN, zq, GS, simprocAttr, GZ, d1, d2, d3, L1, zY]
  · cases h2 : (n2 == 0) <;> rw [h2] at L1
    · simp only [cond_false, cond_true] at L1
      apply zu
      refine zw rfl Tryz.func117 rfl (by kernel_rfl) ?_
      unfold Tryz.f117
      simp (disch := ((try simp only [LL]); omega)) only [↓GO, ↓DRW, GA, ren, zB, zd, refs, zb, cst, zl, zH, z7, E.load, E.store, zG, isC, bin, zI, zJ, una, z8, za, zh, zK, blt, fnV, asArg, ze, zn, zo, zj, zi, zg, zk, zr, z6, zD, zF, E.mkS, zc, unN, zM, zm, zy, zC, zf, zN, zq, GS, simprocAttr, GZ, d1, d2, d3, L1, zY]
      refine yT (by kernel_rfl) ?_
      simp (disch := ((try simp only [LL]); omega)) only [↓GO, ↓DRW, GA, ren, zB, zd, refs, zb, cst, zl, zH, z7, E.load, E.store, zG, isC, bin, zI, zJ, una, z8, za, zh, zK, blt, fnV, asArg, ze, zn, zo, zj, zi, zg, zk, zr, z6, zD, zF, E.mkS, zc, unN, zM, zm, zy, zC, zf, zN, zq, GS, simprocAttr, GZ, d1, d2, d3, L1, zY]
    · cases h3 : (n3 == 0) <;> rw [h3] at L1
      · simp only [cond_false, cond_true] at L1
        apply zu
        refine zw rfl Tryz.func117 rfl (by kernel_rfl) ?_
        unfold Tryz.f117
        simp (disch := ((try simp only [LL]); omega)) only [↓GO, ↓DRW, GA, ren, zB, zd, refs, zb, cst, zl, zH, z7, E.load, E.store, zG, isC, bin, zI, zJ, una, z8, za, zh, zK, blt, fnV, asArg, ze, zn, zo, zj, zi, zg, zk, zr, z6, zD, zF, E.mkS, zc, unN, zM, zm, zy, zC, zf, zN, zq, GS, simprocAttr, GZ, d1, d2, d3, L1, zY]
        refine yT (by kernel_rfl) ?_
        simp (disch := ((try simp only [LL]); omega)) only [↓GO, ↓DRW, GA, ren, zB, zd, refs, zb, cst, zl, zH, z7, E.load, E.store, zG, isC, bin, zI, zJ, una, z8, za, zh, zK, blt, fnV, asArg, ze, zn, zo, zj, zi, zg, zk, zr, z6, zD, zF, E.mkS, zc, unN, zM, zm, zy, zC, zf, zN, zq, GS, simprocAttr, GZ, d1, d2, d3, L1, zY]
      · simp only [cond_true] at L1
        cases hs : rI a.pre b.pre <;> rw [hs] at L2 <;> simp only at L2 <;> cases h4 : (a.pre == []) <;> cases h5 : (b.pre == []) <;> rw [h4] at e1 <;> rw [h5] at e2
        all_goals
          apply zu
          refine zw rfl Tryz.func117 rfl (by kernel_rfl) ?_
          unfold Tryz.f117
          simp (disch := ((try simp only [LL]); omega)) only [↓GO, ↓DRW, GA, ren, zB, zd, refs, zb, cst, zl, zH, z7, E.load, E.store, zG, isC, bin, zI, zJ, una, z8, za, zh, zK, blt, fnV, asArg, ze, zn, zo, zj, zi, zg, zk, zr, z6, zD, zF, E.mkS, zc, unN, zM, zm, zy, zC, zf, zN, zq, GS, simprocAttr, GZ, d1, d2, d3, d4, d5, L1, L2, zP, e1, e2, zY]
          refine yT (by kernel_rfl) ?_
          simp (disch := ((try simp only [LL]); omega)) only [↓GO, ↓DRW, GA, ren, zB, zd, refs, zb, cst, zl, zH, z7, E.load, E.store, zG, isC, bin, zI, zJ, una, z8, za, zh, zK, blt, fnV, asArg, ze, zn, zo, zj, zi, zg, zk, zr, z6, zD, zF, E.mkS, zc, unN, zM, zm, zy, zC, zf, zN, zq, GS, simprocAttr, GZ, d1, d2, d3, d4, d5, L1, L2, zP, e1, e2, zY, Option.getD_some, Option.getD_none]
end Go.Proofs.YtmcephnfcciloaaGreatDoor
/- The next version, the range of one alone, by the reference. Conditions: those of each lemma. -/
namespace Go.Proofs.YtmcephnfcciloaaGreatDoor
open E
set_option linter.unusedSimpArgs false
set_option linter.unusedVariables false
set_option maxRecDepth 100000
theorem Ta (v : Ver) (p : Int) : (upV v p).sm := by
  unfold upV
  cases (p == 0) <;> cases (p == 1) <;> simp [Ver.sm, yk]
theorem Ua {v : Ver} (h : v.sm) (p : Int) : (wQ v p).sm := by
  unfold wQ
  cases (!(yv v) || !(B2 p 0 2)) <;> cases yv (upV v p) <;> simp only [cond_true, cond_false] <;> first | exact h | exact Ta v p
theorem S5 (v : Ver) (p : Int) (hs : v.sm) (hp : p = 0 ∨ p = 1 ∨ p = 2) (h1 : -1 ≤ v.maj ∧ v.maj ≤ 999999999) (h2 : -1 ≤ v.min ∧ v.min ≤ 999999999) (h3 : -1 ≤ v.pat ∧ v.pat ≤ 999999999) :
    zE (EV Tryz.prog pol) 174 [.agg (v.enc.map .t), .t (.int .i64 p)] = some (.agg ((wQ v p).enc.map .t)) := by
  have d1 := cM v hs
  have d2 := cM (upV v p) (Ta v p)
  have d3 := xN p 0 2
  have hb : B2 p 0 2 = true := by rcases hp with rfl | rfl | rfl <;> rfl
  have e1 := u0 v.pre
  have ht : List.take (0 + (y6 v.pre).length) (y6 v.pre) = y6 v.pre := List.take_of_length_le (by omega)
  have ht2 : List.take v.pre.length (y6 v.pre) = y6 v.pre := List.take_of_length_le (by rw [zP]; omega)
  unfold Ver.sm at hs
  rw [hb] at d3
  unfold wQ
  rw [hb]
  simp only [Bool.not_true, Bool.or_false]
  cases ho : yv v <;> rw [ho] at d1
  · simp only [Ver.enc, List.map_cons, List.map_nil, Bool.not_false, cond_true] at d1 ⊢
    apply zu
    refine zw rfl Tryz.func174 rfl (by kernel_rfl) ?_
    unfold Tryz.f174
    simp (disch := ((try simp only [LL]); omega)) only [↓GO, ↓DRW, GA, ren, zB, zd, refs, zb, cst, zl, zH, z7, E.load, E.store, zG, isC, bin, zI, zJ, una, z8, za, zh, zK, blt, fnV, asArg, ze, zn, zo, zj, zi, zg, zk, zr, z6, zD, zF, E.mkS, zc, unN, zM, zm, zy, zC, zf, zN, zq, GS, simprocAttr, GZ, d1, zP, ht, ht2, wh]
  · simp only [Bool.not_true, cond_false]
    unfold upV at d2 ⊢
    rcases hp with rfl | rfl | rfl
    · simp only [show ((0 : Int) == 0) = true from rfl, cond_true] at d2 ⊢
      cases hu : yv ⟨v.maj + 1, 0, 0, []⟩ <;> rw [hu] at d2 <;> simp only [Ver.enc, List.map_cons, List.map_nil, yf, cond_true, cond_false] at d1 d2 ⊢
      all_goals
        apply zu
        refine zw rfl Tryz.func174 rfl (by kernel_rfl) ?_
        unfold Tryz.f174
        simp (disch := ((try simp only [LL]); omega)) only [↓GO, ↓DRW, GA, ren, zB, zd, refs, zb, cst, zl, zH, z7, E.load, E.store, zG, isC, bin, zI, zJ, una, z8, za, zh, zK, blt, fnV, asArg, ze, zn, zo, zj, zi, zg, zk, zr, z6, zD, zF, E.mkS, zc, unN, zM, zm, zy, zC, zf, zN, zq, GS, simprocAttr, GZ, d1, d2, d3, zP, ht, ht2, wh, zx]
    · simp only [show ((1 : Int) == 0) = false from rfl, show ((1 : Int) == 1) = true from rfl, cond_true, cond_false] at d2 ⊢
      cases hu : yv ⟨v.maj, v.min + 1, 0, []⟩ <;> rw [hu] at d2 <;> simp only [Ver.enc, List.map_cons, List.map_nil, yf, cond_true, cond_false] at d1 d2 ⊢
      all_goals
        apply zu
        refine zw rfl Tryz.func174 rfl (by kernel_rfl) ?_
        unfold Tryz.f174
        simp (disch := ((try simp only [LL]); omega)) only [↓GO, ↓DRW, GA, ren, zB, zd, refs, zb, cst, zl, zH, z7, E.load, E.store, zG, isC, bin, zI, zJ, una, z8, za, zh, zK, blt, fnV, asArg, ze, zn, zo, zj, zi, zg, zk, zr, z6, zD, zF, E.mkS, zc, unN, zM, zm, zy, zC, zf, zN, zq, GS, simprocAttr, GZ, d1, d2, d3, zP, ht, ht2, wh, zx]
    · simp only [show ((2 : Int) == 0) = false from rfl, show ((2 : Int) == 1) = false from rfl, cond_false] at d2 ⊢
      cases hq : (v.pre == []) <;> rw [hq] at e1 d2 <;> simp only [cond_true, cond_false] at d2 ⊢
      · cases hu : yv ⟨v.maj, v.min, v.pat, []⟩ <;> rw [hu] at d2 <;> simp only [Ver.enc, List.map_cons, List.map_nil, yf, cond_true, cond_false] at d1 d2 ⊢
        all_goals
          apply zu
          refine zw rfl Tryz.func174 rfl (by kernel_rfl) ?_
          unfold Tryz.f174
          simp (disch := ((try simp only [LL]); omega)) only [↓GO, ↓DRW, GA, ren, zB, zd, refs, zb, cst, zl, zH, z7, E.load, E.store, zG, isC, bin, zI, zJ, una, z8, za, zh, zK, blt, fnV, asArg, ze, zn, zo, zj, zi, zg, zk, zr, z6, zD, zF, E.mkS, zc, unN, zM, zm, zy, zC, zf, zN, zq, GS, simprocAttr, GZ, d1, d2, d3, e1, zP, ht, ht2, wh, zx]
      · cases hu : yv ⟨v.maj, v.min, v.pat + 1, []⟩ <;> rw [hu] at d2 <;> simp only [Ver.enc, List.map_cons, List.map_nil, yf, cond_true, cond_false] at d1 d2 ⊢
        all_goals
          apply zu
          refine zw rfl Tryz.func174 rfl (by kernel_rfl) ?_
          unfold Tryz.f174
          simp (disch := ((try simp only [LL]); omega)) only [↓GO, ↓DRW, GA, ren, zB, zd, refs, zb, cst, zl, zH, z7, E.load, E.store, zG, isC, bin, zI, zJ, una, z8, za, zh, zK, blt, fnV, asArg, ze, zn, zo, zj, zi, zg, zk, zr, z6, zD, zF, E.mkS, zc, unN, zM, zm, zy, zC, zf, zN, zq, GS, simprocAttr, GZ, d1, d2, d3, e1, zP, ht, ht2, wh, zx]
theorem jG (v : Ver) : (yY v).sm := by simp [yY, Ver.sm, yk]
theorem jE (v : Ver) (p : Int) (hs : v.sm) (hp : p = 0 ∨ p = 1 ∨ p = 2) (h1 : -1 ≤ v.maj ∧ v.maj ≤ 999999999) (h2 : -1 ≤ v.min ∧ v.min ≤ 999999999) (h3 : -1 ≤ v.pat ∧ v.pat ≤ 999999999) :
    zE (EV Tryz.prog pol) 150 [.agg (v.enc.map .t), .t (.int .i64 p)] = some (.tup [.t (.str (vk v p).1), .t (.bool (vk v p).2)]) := by
  have d1 := S5 (yY v) p (jG v) hp h1 h2 h3
  have d2 := cN (wQ (yY v) p) (yY v) (Ua (jG v) p) (jG v)
  have d3 := ei ⟨(wQ (yY v) p).maj, (wQ (yY v) p).min, (wQ (yY v) p).pat, [[48]]⟩ (cV _ _ _)
  unfold vk
  generalize rN (wQ (yY v) p) (yY v) = cm at *
  generalize yb ⟨(wQ (yY v) p).maj, (wQ (yY v) p).min, (wQ (yY v) p).pat, [[48]]⟩ = tx at *
  generalize wQ (yY v) p = nx at *
  simp only [Ver.enc, yY, List.map_cons, List.map_nil, xj, yf] at d1 d2 d3 ⊢
  cases hc : (cm == 0)
  all_goals
    apply zu
    refine zw rfl Tryz.func150 rfl (by kernel_rfl) ?_
    unfold Tryz.f150
    simp (disch := ((try simp only [LL]); omega)) only [↓GO, ↓DRW, GA, ren, zB, zd, refs, zb, cst, zl, zH, z7, E.load, E.store, zG, isC, bin, zI, zJ, una, z8, za, zh, zK, blt, fnV, asArg, ze, zn, zo, zj, zi, zg, zk, zr, z6, zD, zF, E.mkS, zc, unN, zM, zm, zy, zC, zf, zN, zq, GS, simprocAttr, GZ, d1, d2, d3, hc, yf]
def alT (s : Str) : V := match x6 s with
  | some (l, h) => .tup [.agg [.t (.str l), .t (.str h)], .t (.bool true)]
  | none => .tup [.agg [.t (.str []), .t (.str [])], .t (.bool false)]
theorem eo (s : Str) (hl : s.length ≤ 1048600) : zE (EV Tryz.prog pol) 107 [.t (.str s)] = some (alT s) := by
  have d1 := oz s (by omega)
  have d2 := oz (s ++ [46, 48]) (by simp only [List.length_append, List.length_cons, List.length_nil]; omega)
  obtain ⟨m1, m2, m3, m4, m5, m6, m7⟩ := yW s (by omega)
  have d3 := jE (zA s).1 2 m1 (by omega) ⟨m3, m2⟩ ⟨m5, m4⟩ ⟨m7, m6⟩
  have hg := jQ (zA s).1.pre
  unfold rvT at d1 d2
  unfold alT x6 uJ
  cases hk : (zA s).2 with
  | false =>
    rw [hk] at d1
    generalize (zA s).1 = v at *
    simp only [Bool.false_and, cond_false]
    simp only [Ver.enc, List.map_cons, List.map_nil] at d1 ⊢
    apply zu
    refine zw rfl Tryz.func107 rfl (by kernel_rfl) ?_
    unfold Tryz.f107
    simp (disch := ((try simp only [LL]); omega)) only [↓GO, ↓DRW, GA, ren, zB, zd, refs, zb, cst, zl, zH, z7, E.load, E.store, zG, isC, bin, zI, zJ, una, z8, za, zh, zK, blt, fnV, asArg, ze, zn, zo, zj, zi, zg, zk, zr, z6, zD, zF, E.mkS, zc, unN, zM, zm, zy, zC, zf, zN, zq, GS, simprocAttr, GZ, d1]
  | true =>
    have ho := (yu hk).2.2.1
    rw [hk] at d1
    cases hp : ((zA s).1.pre == []) with
    | true =>
      have hb := vK ho 2 (by omega)
      simp only [show ((2 : Int) == 0) = false from rfl, show ((2 : Int) == 1) = false from rfl, show ((2 : Int) == 2) = true from rfl, cond_true, cond_false] at hb
      rw [hb] at d3
      rw [hp] at hg
      simp only [Bool.not_true, cond_true, Bool.true_and] at hg ⊢
      generalize (zA s).1 = v at *
      generalize ye v.maj v.min (v.pat + 1) = zp at *
      simp only [Ver.enc, List.map_cons, List.map_nil] at d1 d3 ⊢
      clear d2 hb
      cases hz : (zp == []) <;> rw [hz] at d3 <;> simp only [Bool.not_true, Bool.not_false, cond_true, cond_false] at d3 ⊢
      all_goals
        apply zu
        refine zw rfl Tryz.func107 rfl (by kernel_rfl) ?_
        unfold Tryz.f107
        simp (disch := ((try simp only [LL]); omega)) only [↓GO, ↓DRW, GA, ren, zB, zd, refs, zb, cst, zl, zH, z7, E.load, E.store, zG, isC, bin, zI, zJ, una, z8, za, zh, zK, blt, fnV, asArg, ze, zn, zo, zj, zi, zg, zk, zr, z6, zD, zF, E.mkS, zc, unN, zM, zm, zy, zC, zf, zN, zq, GS, simprocAttr, GZ, d1, d3, hg, zP]
    | false =>
      obtain ⟨r1, r2⟩ := ly hk (fun h => by rw [h] at hp; cases hp)
      rw [r1] at d2
      rw [hp] at hg
      simp only [Bool.not_false, cond_false, Bool.true_and] at hg ⊢
      rw [r2]
      generalize yv (se (zA s).1) = pk at *
      generalize se (zA s).1 = pv at *
      generalize (zA s).1 = v at *
      have hne : ((s ++ [46, 48]) == []) = false := by cases s <;> rfl
      simp only [Ver.enc, List.map_cons, List.map_nil] at d1 ⊢
      cases pk <;> simp only [Ver.enc, List.map_cons, List.map_nil, cond_true, cond_false, hne, Bool.not_false, show (([] : Str) == []) = true from rfl, Bool.not_true] at d2 ⊢
      all_goals
        apply zu
        refine zw rfl Tryz.func107 rfl (by kernel_rfl) ?_
        unfold Tryz.f107
        simp (disch := ((try simp only [LL]); omega)) only [↓GO, ↓DRW, GA, ren, zB, zd, refs, zb, cst, zl, zH, z7, E.load, E.store, zG, isC, bin, zI, zJ, una, z8, za, zh, zK, blt, fnV, asArg, ze, zn, zo, zj, zi, zg, zk, zr, z6, zD, zF, E.mkS, zc, unN, zM, zm, zy, zC, zf, zN, zq, GS, simprocAttr, GZ, d1, d2, hg, zP, wh]
theorem c_exR (s : Str) (hl : s.length ≤ 1048600) : zE (EV Tryz.prog pol) 83 [.t (.str s)] = some (.t (.list 2 (exT s))) := by
  have d1 := eo s hl
  unfold exT
  unfold alT at d1
  cases he : x6 s with
  | none =>
    rw [he] at d1
    simp only at d1 ⊢
    apply zu
    refine zw rfl Tryz.func83 rfl (by kernel_rfl) ?_
    unfold Tryz.f83
    simp (disch := ((try simp only [LL]); omega)) only [↓GO, ↓DRW, GA, ren, zB, zd, refs, zb, cst, zl, zH, z7, E.load, E.store, zG, isC, bin, zI, zJ, una, z8, za, zh, zK, blt, fnV, asArg, ze, zn, zo, zj, zi, zg, zk, zr, z6, zD, zF, E.mkS, zc, unN, zM, zm, zy, zC, zf, zN, zq, GS, simprocAttr, GZ, d1]
  | some x =>
    obtain ⟨l, h⟩ := x
    rw [he] at d1
    simp only at d1 ⊢
    apply zu
    refine zw rfl Tryz.func83 rfl (by kernel_rfl) ?_
    unfold Tryz.f83
    simp (disch := ((try simp only [LL]); omega)) only [↓GO, ↓DRW, GA, ren, zB, zd, refs, zb, cst, zl, zH, z7, E.load, E.store, zG, isC, bin, zI, zJ, una, z8, za, zh, zK, blt, fnV, asArg, ze, zn, zo, zj, zi, zg, zk, zr, z6, zD, zF, E.mkS, zc, unN, zM, zm, zy, zC, zf, zN, zq, GS, simprocAttr, GZ, d1]
end Go.Proofs.YtmcephnfcciloaaGreatDoor
/- What the laws' own functions do over Bound, Notice: sizes, copies, comparisons. Conditions: those of each lemma. -/
namespace Go.Proofs.YtmcephnfcciloaaGreatDoor
open E
set_option linter.unusedSimpArgs false
set_option linter.unusedVariables false
set_option maxRecDepth 100000
structure yx where
  low : List UInt8
  high : List UInt8
def yx.enc (x : yx) : List T := [.str x.low, .str x.high]
def yx.zV (l : List yx) : List (List T) := l.map yx.enc
def yx.yh (x : yx) : Nat := x.low.length + x.high.length
def yx.ya : List yx → Nat
  | [] => 0
  | c :: cs => yx.yh c + yx.ya cs
def yx.ok (x : yx) : Prop := x.low.length ≤ 9223372036854775807 ∧ x.high.length ≤ 9223372036854775807
theorem yx.vZ (x : yx) : x.enc.length = 2 := rfl
theorem yx.v8 (x : yx) : x.enc.take 2 = x.enc := rfl
theorem yx.zR (cs : List yx) : (yx.zV cs).length = cs.length := by simp [yx.zV]
theorem yx.yR (cs : List yx) (i : Nat) (h : i < cs.length) : (yx.zV cs)[i]? = some cs[i].enc := by simp [yx.zV, h]
theorem yx.xi (cs : List yx) (i : Nat) (h : i < cs.length) : yx.ya (cs.drop i) = cs[i].yh + yx.ya (cs.drop (i + 1)) := by
  rw [List.drop_eq_getElem_cons h]; rfl
theorem yx.yp : ∀ {cs : List yx} {c : yx}, c ∈ cs → c.yh ≤ yx.ya cs
  | c' :: cs, c, h => by
    simp only [yx.ya]
    rcases List.mem_cons.1 h with rfl | h
    · omega
    · have := yx.yp h; omega
structure zt where
  name : List UInt8
  range : List UInt8
  text : List UInt8
def zt.enc (x : zt) : List T := [.str x.name, .str x.range, .str x.text]
def zt.zV (l : List zt) : List (List T) := l.map zt.enc
def zt.yh (x : zt) : Nat := x.name.length + x.range.length + x.text.length
def zt.ya : List zt → Nat
  | [] => 0
  | c :: cs => zt.yh c + zt.ya cs
def zt.ok (x : zt) : Prop := x.name.length ≤ 9223372036854775807 ∧ x.range.length ≤ 9223372036854775807 ∧ x.text.length ≤ 9223372036854775807
theorem zt.vZ (x : zt) : x.enc.length = 3 := rfl
theorem zt.v8 (x : zt) : x.enc.take 3 = x.enc := rfl
theorem zt.zR (cs : List zt) : (zt.zV cs).length = cs.length := by simp [zt.zV]
theorem zt.yR (cs : List zt) (i : Nat) (h : i < cs.length) : (zt.zV cs)[i]? = some cs[i].enc := by simp [zt.zV, h]
theorem zt.xi (cs : List zt) (i : Nat) (h : i < cs.length) : zt.ya (cs.drop i) = cs[i].yh + zt.ya (cs.drop (i + 1)) := by
  rw [List.drop_eq_getElem_cons h]; rfl
theorem zt.yp : ∀ {cs : List zt} {c : zt}, c ∈ cs → c.yh ≤ zt.ya cs
  | c' :: cs, c, h => by
    simp only [zt.ya]
    rcases List.mem_cons.1 h with rfl | h
    · omega
    · have := zt.yp h; omega
def mJ (x : zt) : Prop := ∀ n : Int, 0 ≤ n → n ≤ 1048576 → zE (EV Tryz.prog pol) 26 [.agg (x.enc.map .t), .t (.int .i64 n)] = some (.t (.int .i64 (left n x.yh)))
theorem nQ (x : zt) (ho : x.ok) : mJ x := by
  obtain ⟨name, range, text⟩ := x
  intro n h0 h1
  simp only [zt.ok] at ho
  simp only [zt.enc, List.map_cons, List.map_nil]
  apply zu
  refine zw rfl Tryz.func26 rfl (by kernel_rfl) ?_
  unfold Tryz.f26
  repeat' (first | (((first | with_reducible refine ub (fun hA => ?_) (fun hA => ?_) | with_reducible refine ua (fun hA => ?_) (fun hA => ?_)) <;> (try simp only [bne, Bool.not_eq_true', Bool.not_eq_false'] at hA) <;> (first | (have hP := Int.le_of_eq (eq_of_beq (α := Int) hA); have hQ := Int.le_of_eq (eq_of_beq (α := Int) hA).symm) | have hP := of_decide_eq_true hA | have hP := of_decide_eq_false hA | skip)) <;> (simp (disch := ((try simp only [LL]); omega)) only [↓GO, ↓DRW, GA, ren, zB, zd, refs, zb, cst, zl, zH, z7, E.load, E.store, zG, isC, bin, zI, zJ, una, z8, za, zh, zK, blt, fnV, asArg, ze, zn, zo, zj, zi, zg, zk, zr, z6, zD, zF, E.mkS, zc, unN, zM, zm, zy, zC, zf, zN, zq, GS, simprocAttr, zx, bne, vX, wC, *])) | (simp (disch := ((try simp only [LL]); omega)) only [↓GO, ↓DRW, GA, ren, zB, zd, refs, zb, cst, zl, zH, z7, E.load, E.store, zG, isC, bin, zI, zJ, una, z8, za, zh, zK, blt, fnV, asArg, ze, zn, zo, zj, zi, zg, zk, zr, z6, zD, zF, E.mkS, zc, unN, zM, zm, zy, zC, zf, zN, zq, GS, simprocAttr, zx, bne, vX, wC, *]))
  all_goals (refine uS ?_; simp only [zt.yh, and_true]; omega)
def uF (x : zt) : Prop := zE (EV Tryz.prog pol) 32 [.agg (x.enc.map .t)] = some (.agg (x.enc.map .t))
theorem nP (x : zt) (ho : x.yh ≤ 1048576) : uF x := by
  obtain ⟨name, range, text⟩ := x
  simp only [zt.yh] at ho
  simp only [uF, zt.enc, List.map_cons, List.map_nil]
  apply zu
  refine zw rfl Tryz.func32 rfl (by kernel_rfl) ?_
  unfold Tryz.f32
  simp only [↓GO, ↓DRW, GA, ren, zB, zd, refs, zb, cst, zl, zH, z7, E.load, E.store, zG, isC, bin, zI, zJ, una, z8, za, zh, zK, blt, fnV, asArg, ze, zn, zo, zj, zi, zg, zk, zr, z6, zD, zF, E.mkS, zc, unN, zM, zm, zy, zC, zf, zN, zq, GS, simprocAttr]
def s9 (x : zt) : Prop := zE (EV Tryz.prog pol) 37 [.agg (x.enc.map .t), .agg (x.enc.map .t)] = some (.t (.bool true))
theorem du (x : zt) (ho : x.yh ≤ 1048576) : s9 x := by
  obtain ⟨name, range, text⟩ := x
  simp only [zt.yh] at ho
  simp only [s9, zt.enc, List.map_cons, List.map_nil]
  apply zu
  refine zw rfl Tryz.func37 rfl (by kernel_rfl) ?_
  unfold Tryz.f37
  simp only [↓GO, ↓DRW, GA, ren, zB, zd, refs, zb, cst, zl, zH, z7, E.load, E.store, zG, isC, bin, zI, zJ, una, z8, za, zh, zK, blt, fnV, asArg, ze, zn, zo, zj, zi, zg, zk, zr, z6, zD, zF, E.mkS, zc, unN, zM, zm, zy, zC, zf, zN, zq, GS, simprocAttr, bne_self_eq_false]
end Go.Proofs.YtmcephnfcciloaaGreatDoor
/- Ranges, plain: both ways of reading them come to the same. Conditions: none. -/
namespace Go.Proofs.YtmcephnfcciloaaGreatDoor
open E
set_option linter.unusedVariables false
set_option linter.unusedSimpArgs false
set_option maxRecDepth 100000
def vb (b : UInt8) : Bool := isD b || (nb b == 46 || (nb b == 45 || preB b))
theorem vI {n : Int} (h : 0 ≤ n) : (Lib.itoa n).all isD = true ∧ Lib.itoa n ≠ [] := by
  obtain ⟨u, rfl⟩ : ∃ u : Nat, n = u := ⟨n.toNat, by omega⟩
  rw [Lib.itoa_nonneg]
  obtain ⟨a, _, c⟩ := vV u
  exact ⟨a, c⟩
theorem qJ {p q : UInt8 → Bool} (h : ∀ b, p b = true → q b = true) {l : Str} (hl : l.all p = true) : l.all q = true := by
  rw [List.all_eq_true] at hl ⊢
  exact fun x hx => h x (hl x hx)
theorem cE (b : UInt8) (h : isD b = true) : vb b = true := by unfold vb; rw [h]; rfl
theorem bf (b : UInt8) (h : preB b = true) : vb b = true := by unfold vb; rw [h]; simp
theorem Uk : ∀ l : List Str, (l.all fun p => p.all preB) = true → (Lib.join l [46]).all vb = true
  | [], _ => rfl
  | x :: r, h => by
    rw [Lib.join_cons]
    simp only [List.all_cons, Bool.and_eq_true] at h
    rw [List.all_append, qJ bf h.1, Bool.true_and]
    have hr := h.2
    clear h
    induction r with
    | nil => rfl
    | cons y r ih =>
      simp only [List.all_cons, Bool.and_eq_true] at hr
      have e : Lib.joinTail [46] (y :: r) = 46 :: (y ++ Lib.joinTail [46] r) := by simp [Lib.joinTail]
      rw [e, List.all_cons, List.all_append, qJ bf hr.1, ih hr.2]
      decide
theorem VO {v : Ver} (h : yv v = true) : (yb v).all vb = true ∧ ∃ b r, yb v = b :: r ∧ isD b = true := by
  obtain ⟨h1, h2, h3, h4, _⟩ := w6 h
  obtain ⟨a1, a2⟩ := vI h1.1
  obtain ⟨b1, b2⟩ := vI h2.1
  obtain ⟨c1, c2⟩ := vI h3.1
  have hp : (v.pre.all fun p => p.all preB) = true := by
    rw [List.all_eq_true] at h4 ⊢
    intro x hx
    have := h4 x hx
    unfold wm at this
    simp only [Bool.and_eq_true] at this
    exact this.2.1
  have hj := Uk v.pre hp
  have hcore : (ve v).all vb = true := by
    unfold ve
    simp only [List.all_append, qJ cE a1, qJ cE b1, qJ cE c1]
    decide
  refine ⟨?_, ?_⟩
  · unfold yb w8
    rw [h]
    simp only [cond_true]
    cases (v.pre == []) with
    | true => simpa using hcore
    | false =>
      simp only [cond_false, List.all_append, hcore, hj]
      decide
  · unfold yb w8 ve
    rw [h]
    simp only [cond_true]
    cases hi : Lib.itoa v.maj with
    | nil => exact absurd hi a2
    | cons b r =>
      rw [hi, List.all_cons, Bool.and_eq_true] at a1
      cases (v.pre == []) <;> exact ⟨b, _, rfl, a1.1⟩
/-- is a text a version's? -/
def isV (s : Str) : Bool := (zA s).2
theorem jP {s : Str} (h : isV s = true) : (∀ b ∈ s, vb b = true) ∧ ∃ b r, s = b :: r ∧ isD b = true := by
  obtain ⟨_, ht, ho, _⟩ := yu h
  obtain ⟨h1, h2⟩ := VO ho
  rw [ht] at h1 h2
  exact ⟨List.all_eq_true.1 h1, h2⟩
theorem mM {s : Str} {c : UInt8} (hc : vb c = false) (h : c ∈ s) : isV s = false := by
  cases hv : isV s with
  | false => rfl
  | true =>
    have := (jP hv).1 c h
    rw [hc] at this; cases this
theorem mw {b : UInt8} {r : Str} (hb : isD b = false) : isV (b :: r) = false := by
  cases hv : isV (b :: r) with
  | false => rfl
  | true =>
    obtain ⟨_, b', r', e, h⟩ := jP hv
    cases e
    rw [hb] at h; cases h
theorem oK : isV [] = false := by
  cases hv : isV [] with
  | false => rfl
  | true => obtain ⟨_, _, _, e, _⟩ := jP hv; cases e
theorem nJ (b : UInt8) : ∀ s : Str, (yi b s).length = s.count b + 1
  | [] => rfl
  | x :: s => by
    have ih := nJ b s
    by_cases h : x = b
    · subst h; rw [wg, List.length_cons, ih, List.count_cons_self]
    · cases hc : yi b s with
      | nil => exact absurd hc (yU b s)
      | cons p r =>
        rw [yF b x s p r h hc, List.count_cons_of_ne (by simpa using h)]
        rw [hc] at ih
        simpa using ih
theorem Zj {s : Str} (h : isV s = true) : 3 ≤ (yi 46 s).length := by
  obtain ⟨hm, _, _, _⟩ := yu h
  have he := sI 45 s
  have h3 : (yi 46 (yl 45 s).1).length = 3 := by
    unfold xS at hm
    split at hm
    · rename_i a b c hp; rw [hp]; rfl
    · cases hm
  rw [nJ] at h3 ⊢
  rw [he, List.count_append]; omega
/-- the parts of a list of two -/
theorem vJ {b : UInt8} : ∀ {s a : Str}, yi b s = [a] → s = a ∧ b ∉ a
  | [], a, h => by cases h; simp
  | x :: s, a, h => by
    by_cases hx : x = b
    · subst hx
      rw [wg] at h
      injection h with _ h2
      exact absurd h2 (yU x s)
    · cases hc : yi b s with
      | nil => exact absurd hc (yU b s)
      | cons p r =>
        rw [yF b x s p r hx hc] at h
        injection h with h1 h2
        subst h2
        obtain ⟨e1, e2⟩ := vJ hc
        subst h1
        refine ⟨by rw [e1], ?_⟩
        simp only [List.mem_cons, not_or]
        exact ⟨Ne.symm hx, e2⟩
theorem vy {b : UInt8} : ∀ {s a a' : Str} {r : List Str}, yi b s = a :: a' :: r → ∃ t, s = a ++ b :: t ∧ b ∉ a ∧ yi b t = a' :: r
  | [], a, a', r, h => by simp [yi] at h
  | x :: s, a, a', r, h => by
    by_cases hx : x = b
    · subst hx
      rw [wg] at h
      injection h with h1 h2
      subst h1
      exact ⟨s, rfl, by simp, h2⟩
    · cases hc : yi b s with
      | nil => exact absurd hc (yU b s)
      | cons p q =>
        rw [yF b x s p q hx hc] at h
        injection h with h1 h2
        subst h1 h2
        obtain ⟨t, e1, e2, e3⟩ := vy hc
        refine ⟨t, by rw [e1]; rfl, ?_, e3⟩
        simp only [List.mem_cons, not_or]
        exact ⟨Ne.symm hx, e2⟩
theorem xp {s : Str} (h : 0 ≤ zO s) : (∀ b ∈ s, isD b = true) ∧ Lib.itoa (zO s) = s ∧ zO s ≤ 999999999 ∧ s ≠ [] := by
  unfold zO at h ⊢
  split at h
  · rename_i v hv
    cases hc : ((decide (0 ≤ v) && decide (v ≤ 999999999)) && (Lib.itoa v == s)) with
    | false => rw [hc] at h; simp at h
    | true =>
      have hc' := hc
      simp only [Bool.and_eq_true, decide_eq_true_eq, beq_iff_eq] at hc'
      obtain ⟨⟨q1, q2⟩, q3⟩ := hc'
      obtain ⟨a, b⟩ := vI q1
      simp only [cond_true]
      rw [q3] at a b
      exact ⟨List.all_eq_true.1 a, q3, q2, b⟩
  · simp at h
theorem uQ {s : Str} {c : UInt8} (hc : isD c = false) (h : c ∈ s) : zO s = -1 := by
  have h1 := xo s
  by_cases h2 : 0 ≤ zO s
  · have := (xp h2).1 c h
    rw [hc] at this; cases this
  · omega
theorem rW : zO [48] = 0 := by
  have := (vw (u := 0) (by omega)).1
  rwa [show Lib.decDigits 0 = [48] by rw [Lib.decDigits_one (by omega)]; rfl] at this
theorem lX : Lib.itoa 0 = [48] := by
  have := Lib.itoa_nonneg 0
  rw [show ((0 : Nat) : Int) = 0 from rfl] at this
  rw [this, Lib.decDigits_one (by omega)]; rfl
def u7 (s : Str) : Option (Str × Str) := match yi 46 s with
  | [a] => cond (decide (0 ≤ zO a) && !(ye (zO a + 1) 0 0 == [])) (some (yb ⟨zO a, 0, 0, []⟩, ye (zO a + 1) 0 0)) none
  | [a, b] => cond ((decide (0 ≤ zO a) && decide (0 ≤ zO b)) && !(ye (zO a) (zO b + 1) 0 == [])) (some (yb ⟨zO a, zO b, 0, []⟩, ye (zO a) (zO b + 1) 0)) none
  | _ => none
def wv (s : Str) : Str := cond (((yi 46 s).length : Int) == 1) (s ++ [46, 48, 46, 48]) (s ++ [46, 48])
def wO (s : Str) : Option (Str × Str) :=
  cond (!(isV (wv s)) || (!(B2 ((yi 46 s).length : Int) 1 2) || !((zA (wv s)).1.pre == []))) none
    (cond (vk (zA (wv s)).1 (((yi 46 s).length : Int) - 1)).2 (some (wv s, (vk (zA (wv s)).1 (((yi 46 s).length : Int) - 1)).1)) none)
theorem fh {s : Str} (h : (45 : UInt8) ∈ s) (hv : isV s = true) : (zA s).1.pre ≠ [] := by
  obtain ⟨hm, _, _, _⟩ := yu hv
  have he := sI 45 s
  have hn := mC 45 s
  unfold xS at hm
  split at hm
  · injection hm with hm
    rw [← hm]
    cases hc : (yl 45 s).2.2 with
    | false =>
      rw [hc, cond_false, List.append_nil] at he
      rw [he] at h
      exact absurd h hn
    | true => exact yU 46 _
  · cases hm
theorem VB {s : Str} (h : ∀ b ∈ s, isD b = true) : (45 : UInt8) ∉ s := fun hm => by
  have := h 45 hm
  revert this; decide
theorem VA {s : Str} (h : ∀ b ∈ s, isD b = true) : (46 : UInt8) ∉ s := fun hm => by
  have := h 46 hm
  revert this; decide
/-- a text of numbers alone is read as they are -/
theorem ni {a b c s : Str} (hd : (45 : UInt8) ∉ s) (hc : yi 46 s = [a, b, c]) :
    zA s = cond (yb ⟨zO a, zO b, zO c, []⟩ == s) (⟨zO a, zO b, zO c, []⟩, true) (Ver.zero, false) := by
  unfold zA xS
  rw [aw 45 s hd]
  simp only
  rw [hc]
  simp only [cond_false]
theorem vT (a b c : Int) : yv ⟨a, b, c, []⟩ = (n9 a && (n9 b && n9 c)) := by simp [yv]
theorem px (s : Str) : n9 (zO s) = decide (0 ≤ zO s) := by
  have := xo s
  unfold n9 B2
  have : decide (zO s ≤ 999999999) = true := decide_eq_true this.2
  rw [this, Bool.and_true]
theorem uN {a b c : Int} (ha : n9 a = true) (hb : n9 b = true) (hc : n9 c = true) : yb ⟨a, b, c, []⟩ = Lib.itoa a ++ [46] ++ Lib.itoa b ++ [46] ++ Lib.itoa c := by
  unfold yb w8 ve
  rw [vT, ha, hb, hc]
  rfl
theorem gd {a b c : Int} (h : (n9 a && (n9 b && n9 c)) = false) : yb ⟨a, b, c, []⟩ = [] := by
  unfold yb
  rw [vT, h]; rfl
theorem sH : n9 0 = true := by decide
theorem oZ (s : Str) : wO s = u7 s := by
  unfold u7
  split
  · rename_i a hp
    obtain ⟨rfl, hn⟩ := vJ hp
    have hfull : wv s = s ++ [46, 48, 46, 48] := by unfold wv; rw [hp]; rfl
    unfold wO
    rw [hp, hfull]
    by_cases h45 : (45 : UInt8) ∈ s
    · have hd := uQ (c := 45) (by decide) h45
      rw [hd]
      have hr : (!(isV (s ++ [46, 48, 46, 48])) || (!(B2 (([s] : List Str).length : Int) 1 2) || !((zA (s ++ [46, 48, 46, 48])).1.pre == []))) = true := by
        cases hv : isV (s ++ [46, 48, 46, 48]) with
        | false => rfl
        | true =>
          have := fh (s := s ++ [46, 48, 46, 48]) (by simp [h45]) hv
          have h2 : ((zA (s ++ [46, 48, 46, 48])).1.pre == []) = false := by
            cases hx : (zA (s ++ [46, 48, 46, 48])).1.pre with
            | nil => exact absurd hx this
            | cons x y => rfl
          rw [h2]; simp
      rw [hr]; rfl
    · have h45' : (45 : UInt8) ∉ s ++ [46, 48, 46, 48] := by simp [h45]
      have hc3 : yi 46 (s ++ [46, 48, 46, 48]) = [s, [48], [48]] := by
        rw [show s ++ [46, 48, 46, 48] = s ++ 46 :: [48, 46, 48] from rfl, uB, hp]; rfl
      have hr := ni h45' hc3
      rw [rW] at hr
      unfold isV
      rw [hr]
      have hn9 := px s
      by_cases h0 : 0 ≤ zO s
      · obtain ⟨_, hi, _, _⟩ := xp h0
        have hn : n9 (zO s) = true := by rw [hn9]; exact decide_eq_true h0
        have ht := uN hn sH sH
        rw [hi, lX] at ht
        have he : (yb ⟨zO s, 0, 0, []⟩ == s ++ [46, 48, 46, 48]) = true := by rw [ht]; simp
        have hok : yv ⟨zO s, 0, 0, []⟩ = true := by rw [vT, hn]; rfl
        rw [he]
        simp only [cond_true]
        have hb := vK hok 0 (by omega)
        simp only [show ((0 : Int) == 0) = true from rfl, cond_true, show ((0 : Int) == 2) = false from rfl, cond_false] at hb
        rw [show (([s] : List Str).length : Int) - 1 = 0 from rfl, hb, decide_eq_true h0, ht]
        simp only [show B2 (([s] : List Str).length : Int) 1 2 = true from rfl, show (([] : List Str) == []) = true from rfl, Bool.not_true, Bool.or_false, cond_false, Bool.true_and]
        simp
      · have hn : (n9 (zO s) && (n9 0 && n9 0)) = false := by rw [hn9, decide_eq_false h0]; rfl
        rw [gd hn]
        have he : (([] : Str) == s ++ [46, 48, 46, 48]) = false := by rw [beq_eq_false_iff_ne]; intro e; have := congrArg List.length e; simp at this
        rw [he, decide_eq_false h0]
        rfl
  · rename_i a b hp
    obtain ⟨t, rfl, hna, hct⟩ := vy hp
    obtain ⟨rfl, hnb⟩ := vJ hct
    generalize hsd : a ++ 46 :: t = s at *
    have hfull : wv s = s ++ [46, 48] := by unfold wv; rw [hp]; rfl
    unfold wO
    rw [hp, hfull]
    by_cases h45 : (45 : UInt8) ∈ s
    · have hd : (decide (0 ≤ zO a) && decide (0 ≤ zO t)) = false := by
        rw [← hsd] at h45
        simp only [List.mem_append, List.mem_cons] at h45
        rcases h45 with h | h | h
        · rw [uQ (c := 45) (by decide) h]; rfl
        · exact absurd h (by decide)
        · rw [uQ (c := 45) (by decide) h]; simp
      rw [hd]
      have hr : (!(isV (s ++ [46, 48])) || (!(B2 (([a, t] : List Str).length : Int) 1 2) || !((zA (s ++ [46, 48])).1.pre == []))) = true := by
        cases hv : isV (s ++ [46, 48]) with
        | false => rfl
        | true =>
          have := fh (s := s ++ [46, 48]) (by simp [h45]) hv
          have h2 : ((zA (s ++ [46, 48])).1.pre == []) = false := by
            cases hx : (zA (s ++ [46, 48])).1.pre with
            | nil => exact absurd hx this
            | cons x y => rfl
          rw [h2]; simp
      rw [hr]; rfl
    · have h45' : (45 : UInt8) ∉ s ++ [46, 48] := by simp [h45]
      have hc3 : yi 46 (s ++ [46, 48]) = [a, t, [48]] := by
        rw [show s ++ [46, 48] = s ++ 46 :: [48] from rfl, uB, hp]; rfl
      have hr := ni h45' hc3
      rw [rW] at hr
      unfold isV
      rw [hr]
      have hna := px a
      have hnt := px t
      by_cases h0 : 0 ≤ zO a ∧ 0 ≤ zO t
      · obtain ⟨_, hi, _, _⟩ := xp h0.1
        obtain ⟨_, hj, _, _⟩ := xp h0.2
        have hn : n9 (zO a) = true := by rw [hna]; exact decide_eq_true h0.1
        have hm : n9 (zO t) = true := by rw [hnt]; exact decide_eq_true h0.2
        have ht := uN hn hm sH
        rw [hi, hj, lX] at ht
        have he : (yb ⟨zO a, zO t, 0, []⟩ == s ++ [46, 48]) = true := by rw [ht, ← hsd]; simp
        have hok : yv ⟨zO a, zO t, 0, []⟩ = true := by rw [vT, hn, hm]; rfl
        rw [he]
        simp only [cond_true]
        have hb := vK hok 1 (by omega)
        simp only [show ((1 : Int) == 0) = false from rfl, show ((1 : Int) == 1) = true from rfl, cond_true, show ((1 : Int) == 2) = false from rfl, cond_false] at hb
        rw [show (([a, t] : List Str).length : Int) - 1 = 1 from rfl, hb, decide_eq_true h0.1, decide_eq_true h0.2, eq_of_beq he]
        simp only [show B2 (([a, t] : List Str).length : Int) 1 2 = true from rfl, show (([] : List Str) == []) = true from rfl, Bool.not_true, Bool.or_false, cond_false, Bool.true_and]
      · have hd : (decide (0 ≤ zO a) && decide (0 ≤ zO t)) = false := by simpa using h0
        have hn : (n9 (zO a) && (n9 (zO t) && n9 0)) = false := by rw [hna, hnt, ← Bool.and_assoc, hd]; rfl
        rw [gd hn]
        have he : (([] : Str) == s ++ [46, 48]) = false := by rw [beq_eq_false_iff_ne]; intro e; have := congrArg List.length e; simp at this
        rw [he, hd]
        rfl
  · rename_i h1 h2
    have hlen : B2 ((yi 46 s).length : Int) 1 2 = false := by
      match hc : yi 46 s, h1, h2 with
      | [], _, _ => exact absurd hc (yU 46 s)
      | [a], h1, _ => exact absurd rfl (h1 a)
      | [a, b], _, h2 => exact absurd rfl (h2 a b)
      | a :: b :: c :: r, _, _ =>
        have : decide (((a :: b :: c :: r).length : Int) ≤ 2) = false := decide_eq_false (by simp only [List.length_cons]; omega)
        unfold B2; rw [this, Bool.and_false]
    unfold wO
    rw [hlen]
    simp
end Go.Proofs.YtmcephnfcciloaaGreatDoor
/- Ranges, plain, the parts. Conditions: none. -/
namespace Go.Proofs.YtmcephnfcciloaaGreatDoor
open E
set_option linter.unusedVariables false
set_option linter.unusedSimpArgs false
set_option maxRecDepth 100000
/-- a text cut at ' <' -/
def xh : Str → Str × Str × Bool
  | [] => ([], [], false)
  | x :: r => if ([32, 60] : Str).isPrefixOf (x :: r) = true then ([], r.drop 1, true) else (x :: (xh r).1, (xh r).2.1, (xh r).2.2)
theorem fY : ∀ s : Str, Lib.cut s [32, 60] = xh s
  | [] => by simp [Lib.cut, xh, Lib.index]
  | x :: s => by
    have ih := fY s
    rw [xh]
    by_cases h : ([32, 60] : Str).isPrefixOf (x :: s) = true
    · rw [if_pos h]
      unfold Lib.cut
      rw [Lib.index, if_pos h]
      simp
    · rw [if_neg h, ← ih]
      unfold Lib.cut
      rw [Lib.index, if_neg h]
      have hge := Lib.index_ge s [32, 60]
      by_cases hm : Lib.index s [32, 60] = -1
      · rw [hm]; simp
      · obtain ⟨j, hj⟩ : ∃ j : Nat, Lib.index s [32, 60] = j := ⟨(Lib.index s [32, 60]).toNat, by omega⟩
        have hb : (((j : Nat) : Int) == -1) = false := by rw [beq_eq_false_iff_ne]; omega
        rw [hj, hb]
        simp only [Bool.false_eq_true, if_false]
        rw [if_pos (by omega), if_pos (by omega), show ((j : Int) + 1).toNat = j + 1 by omega]
        simp only [List.take_succ_cons, Int.toNat_natCast]
        rw [show j + 1 + ([32, 60] : Str).length = (j + ([32, 60] : Str).length) + 1 by simp only [List.length_cons, List.length_nil], List.drop_succ_cons]
theorem eA {x : UInt8} {r : Str} (h : ([32, 60] : Str).isPrefixOf (x :: r) = true) : x = 32 ∧ r = 60 :: r.drop 1 := by
  cases r with
  | nil => simp [List.isPrefixOf] at h
  | cons y r =>
    simp only [List.isPrefixOf, Bool.and_true, Bool.and_eq_true, beq_iff_eq] at h
    obtain ⟨h1, h2⟩ := h
    subst h1 h2
    exact ⟨rfl, rfl⟩
theorem jB : ∀ s : Str, s = (xh s).1 ++ cond (xh s).2.2 (32 :: 60 :: (xh s).2.1) []
  | [] => rfl
  | x :: s => by
    rw [xh]
    by_cases h : ([32, 60] : Str).isPrefixOf (x :: s) = true
    · obtain ⟨h1, h2⟩ := eA h
      rw [if_pos h]
      subst h1
      simp only [List.nil_append, cond_true]
      rw [← h2]
    · rw [if_neg h]
      have := jB s
      show x :: s = (x :: (xh s).1) ++ _
      rw [List.cons_append, ← this]
theorem jA : ∀ s : Str, (32 : UInt8) ∉ s → xh s = (s, [], false)
  | [], _ => rfl
  | x :: s, h => by
    simp only [List.mem_cons, not_or] at h
    have hp : ¬ ([32, 60] : Str).isPrefixOf (x :: s) = true := fun hp => h.1 (eA hp).1.symm
    rw [xh, if_neg hp, jA s h.2]
theorem ea (t : Str) : ∀ s : Str, (32 : UInt8) ∉ s → xh (s ++ 32 :: 60 :: t) = (s, t, true)
  | [], _ => by
    rw [List.nil_append, xh, if_pos (by simp [List.isPrefixOf])]; rfl
  | x :: s, h => by
    simp only [List.mem_cons, not_or] at h
    have hp : ¬ ([32, 60] : Str).isPrefixOf (x :: (s ++ 32 :: 60 :: t)) = true := fun hp => h.1 (eA hp).1.symm
    rw [List.cons_append, xh, if_neg hp, ea t s h.2]
theorem kF (t : Str) (ht : (32 : UInt8) ∉ t) (hn : ∀ r, t ≠ 60 :: r) : ∀ s : Str, (32 : UInt8) ∉ s → xh (s ++ 32 :: t) = (s ++ 32 :: t, [], false)
  | [], _ => by
    have hp : ¬ ([32, 60] : Str).isPrefixOf (32 :: t) = true := fun hp => hn _ (eA hp).2
    rw [List.nil_append, xh, if_neg hp, jA t ht]
  | x :: s, h => by
    simp only [List.mem_cons, not_or] at h
    have hp : ¬ ([32, 60] : Str).isPrefixOf (x :: (s ++ 32 :: t)) = true := fun hp => h.1 (eA hp).1.symm
    rw [List.cons_append, xh, if_neg hp, kF t ht hn s h.2]
abbrev Bd := Str × Str
def geP (s : Str) : Bool := ([62, 61] : Str).isPrefixOf s
def ltP (s : Str) : Bool := ([60] : Str).isPrefixOf s
def hdB (c : UInt8) : Str → Bool
  | [] => false
  | x :: _ => x == c
def pA (v : Ver) : Str := cond (decide (v.maj > 0)) (ye (v.maj + 1) 0 0) (cond (v.min == 0) (ye 0 0 (v.pat + 1)) (ye v.maj (v.min + 1) 0))
def wc (s : Str) : Bd × Bool := match yi 46 s with
  | [a] => cond (decide (0 ≤ zO a)) ((yb ⟨zO a, 0, 0, []⟩, ye (zO a + 1) 0 0), true) (([], []), false)
  | [a, b] => cond (decide (0 ≤ zO a) && decide (0 ≤ zO b)) ((yb ⟨zO a, zO b, 0, []⟩, ye (zO a) (zO b + 1) 0), true) (([], []), false)
  | _ => (([], []), false)
def Vx (s : Str) : Str := cond (hdB 94 s) (pA (zA (s.drop 1)).1) (ye (zA (s.drop 1)).1.maj ((zA (s.drop 1)).1.min + 1) 0)
def xC (s : Str) : Bd × Bool :=
  cond (s == [42]) (([], []), true)
  (cond (isV s) ((s, uJ (zA s).1), true)
  (cond (geP s) (((xh (s.drop 2)).1, (xh (s.drop 2)).2.1), isV (xh (s.drop 2)).1 && (!(xh (s.drop 2)).2.2 || isV (xh (s.drop 2)).2.1))
  (cond (ltP s) (([], s.drop 1), isV (s.drop 1))
  (cond (hdB 94 s || hdB 126 s) ((s.drop 1, Vx s), isV (s.drop 1))
  (wc s)))))
def sM (s : Str) : Bool := s == [42] || (ltP s || geP s)
def tC (s : Str) : Option Bd := cond (!((xC s).2) || (!(sM s) && (((xC s).1.1 == []) || ((xC s).1.2 == [])))) none (some (xC s).1)
def isE (s : Str) : Bool := isV s || s == []
def vO (v : Ver) : Int := cond (decide (v.maj > 0)) 0 (cond (decide (v.min > 0)) 1 2)
def geW (x : Str) : Bool := decide ((x.length : Int) > 2) && (x.take 2 == [62, 61])
def ltW (x : Str) : Bool := decide ((x.length : Int) > 1) && hdB 60 x
def u6 (s : Str) : Option Bd := match yi 32 s with
  | [x] => cond (geW x) (cond (isE (x.drop 2) && isE []) (some (x.drop 2, [])) none) (cond (ltW x) (cond (isE [] && isE (x.drop 1)) (some ([], x.drop 1)) none) none)
  | [x, y] => cond (geW x) (cond (ltW y) (cond (isE (x.drop 2) && isE (y.drop 1)) (some (x.drop 2, y.drop 1)) none) none) none
  | _ => none
def mR (v : Ver) (t : Str) (p : Int) : Option Bd := cond (vk v p).2 (some (t, (vk v p).1)) none
def xM (s : Str) : Option Bd :=
  cond (s == [42]) (some ([], []))
  (cond (decide ((s.length : Int) > 1) && (hdB 94 s || hdB 126 s)) (cond (!(isV (s.drop 1))) none (mR (zA (s.drop 1)).1 (s.drop 1) (cond (hdB 126 s) 1 (vO (zA (s.drop 1)).1))))
  (cond (decide ((s.length : Int) > 0) && (hdB 62 s || hdB 60 s)) (u6 s)
  (match x6 s with | some x => some x | none => wO s)))
theorem oL : isE [] = true := by simp [isE]
theorem TR {s : Str} (h : s ≠ []) : isE s = isV s := by
  unfold isE
  have : (s == []) = false := by
    cases s with
    | nil => exact absurd rfl h
    | cons x r => rfl
  rw [this, Bool.or_false]
theorem Xc {s : Str} (h : isV s = false) : x6 s = none := by
  unfold x6
  unfold isV at h
  rw [h]; rfl
theorem nd {s : Str} {c : UInt8} {a : Str} {r : List Str} (hp : yi 46 s = (c :: a) :: r) (hc : isD c = false) : u7 s = none := by
  have hd := uQ (s := c :: a) hc (by simp)
  have h0 : decide ((0 : Int) ≤ -1) = false := by decide
  unfold u7
  rw [hp]
  cases r with
  | nil => simp only [hd, h0, Bool.false_and, cond_false]
  | cons b r => cases r with
    | nil => simp only [hd, h0, Bool.false_and, cond_false]
    | cons _ _ => rfl
theorem n8 : u7 [] = none := by
  unfold u7
  have h0 : decide (0 ≤ zO []) = false := by
    apply decide_eq_false
    intro h
    exact (xp h).2.2.2 rfl
  rw [show yi 46 ([] : Str) = [[]] from rfl]
  simp only [h0, Bool.false_and, cond_false]
theorem fX {c : UInt8} {r : Str} (h : c ≠ 46) : ∃ a q, yi 46 (c :: r) = (c :: a) :: q := by
  cases hc : yi 46 r with
  | nil => exact absurd hc (yU 46 r)
  | cons p q => exact ⟨p, q, yF 46 c r p q h hc⟩
theorem oe {s : Str} (hb : xC s = wc s) (ho : sM s = false) : tC s = u7 s := by
  unfold tC
  rw [hb, ho]
  unfold wc u7
  match yi 46 s with
  | [] => rfl
  | [a] =>
    simp only
    cases h : decide (0 ≤ zO a) with
    | false => simp
    | true =>
      have hn : n9 (zO a) = true := by rw [px]; exact h
      have : (yb ⟨zO a, 0, 0, []⟩ == []) = false := by rw [uN hn sH sH]; simp
      simp only [cond_true, Bool.not_true, Bool.false_or, Bool.not_false, Bool.true_and, this]
      cases (ye (zO a + 1) 0 0 == []) <;> rfl
  | [a, b] =>
    simp only
    cases h : decide (0 ≤ zO a) with
    | false => simp
    | true =>
      cases h2 : decide (0 ≤ zO b) with
      | false => simp
      | true =>
        have hn : n9 (zO a) = true := by rw [px]; exact h
        have hm : n9 (zO b) = true := by rw [px]; exact h2
        have : (yb ⟨zO a, zO b, 0, []⟩ == []) = false := by rw [uN hn hm sH]; simp
        simp only [cond_true, Bool.not_true, Bool.false_or, Bool.not_false, Bool.true_and, Bool.and_self, this]
        cases (ye (zO a) (zO b + 1) 0 == []) <;> rfl
  | a :: b :: c :: r => rfl
theorem Uz {s : Str} (hv : isV s = true) : tC s = xM s := by
  obtain ⟨_, x, r, rfl, hx⟩ := jP hv
  have hne : ∀ c : UInt8, isD c = false → (x == c) = false := fun c hc => by
    rw [beq_eq_false_iff_ne]; intro e; subst e; rw [hx] at hc; cases hc
  have h42 := hne 42 (by decide)
  have h94 := hne 94 (by decide)
  have h126 := hne 126 (by decide)
  have h62 := hne 62 (by decide)
  have h60 := hne 60 (by decide)
  have hs : ((x :: r) == [42]) = false := by rw [beq_eq_false_iff_ne]; intro e; cases e; simp at h42
  have hge : geP (x :: r) = false := by
    cases r with
    | nil => simp [geP, List.isPrefixOf]
    | cons y r => simp only [geP, List.isPrefixOf]; rw [show ((62 : UInt8) == x) = false by rw [Bool.beq_comm]; exact h62]; rfl
  have hlt : ltP (x :: r) = false := by simp only [ltP, List.isPrefixOf]; rw [show ((60 : UInt8) == x) = false by rw [Bool.beq_comm]; exact h60]; rfl
  have hlong := Zj hv
  have hB : B2 ((yi 46 (x :: r)).length : Int) 1 2 = false := by
    have : decide (((yi 46 (x :: r)).length : Int) ≤ 2) = false := decide_eq_false (by omega)
    unfold B2; rw [this, Bool.and_false]
  have hsh : wO (x :: r) = none := by unfold wO; rw [hB]; simp
  unfold tC xM xC sM x6
  have hv' : (zA (x :: r)).2 = true := hv
  rw [hs, hv, hge, hlt, hv', hsh]
  simp only [hdB, h94, h126, h62, h60, cond_false, cond_true, Bool.or_false, Bool.and_false, Bool.not_true, Bool.not_false, Bool.false_or, Bool.true_and]
  rw [show ((x :: r) == []) = false from rfl]
  simp only [Bool.false_or]
  cases (uJ (zA (x :: r)).1 == []) <;> rfl
theorem nR {v : Ver} {t : Str} (ho : yv v = true) (b : Bool) : mR v t (cond (!b) 1 (vO v)) = cond (cond b (pA v) (ye v.maj (v.min + 1) 0) == []) none (some (t, cond b (pA v) (ye v.maj (v.min + 1) 0))) := by
  obtain ⟨h1, h2, h3, _, _⟩ := w6 ho
  unfold mR
  cases b with
  | false =>
    have hb := vK ho 1 (by omega)
    simp only [show ((1 : Int) == 0) = false from rfl, show ((1 : Int) == 1) = true from rfl, cond_true, show ((1 : Int) == 2) = false from rfl, cond_false] at hb
    simp only [Bool.not_false, cond_true, cond_false]
    rw [hb]
    cases (ye v.maj (v.min + 1) 0 == []) <;> rfl
  | true =>
    simp only [Bool.not_true, cond_true, cond_false]
    unfold vO pA
    cases h4 : decide (v.maj > 0) with
    | true =>
      have hb := vK ho 0 (by omega)
      simp only [show ((0 : Int) == 0) = true from rfl, cond_true, show ((0 : Int) == 2) = false from rfl, cond_false] at hb
      simp only [cond_true]
      rw [hb]
      cases (ye (v.maj + 1) 0 0 == []) <;> rfl
    | false =>
      have h5 : v.maj = 0 := by have := of_decide_eq_false h4; omega
      cases h6 : decide (v.min > 0) with
      | true =>
        have h7 : (v.min == 0) = false := by have := of_decide_eq_true h6; rw [beq_eq_false_iff_ne]; omega
        have hb := vK ho 1 (by omega)
        simp only [show ((1 : Int) == 0) = false from rfl, show ((1 : Int) == 1) = true from rfl, cond_true, show ((1 : Int) == 2) = false from rfl, cond_false] at hb
        simp only [cond_true, cond_false, h7]
        rw [hb]
        cases (ye v.maj (v.min + 1) 0 == []) <;> rfl
      | false =>
        have h7 : v.min = 0 := by have := of_decide_eq_false h6; omega
        have hb := vK ho 2 (by omega)
        simp only [show ((2 : Int) == 0) = false from rfl, show ((2 : Int) == 1) = false from rfl, show ((2 : Int) == 2) = true from rfl, cond_true, cond_false] at hb
        simp only [cond_false]
        rw [hb, h5, h7]
        simp only [show ((0 : Int) == 0) = true from rfl, cond_true]
        cases (ye 0 0 (v.pat + 1) == []) <;> rfl
theorem head_eq (c x : UInt8) (r : Str) : ([c] : Str).isPrefixOf (x :: r) = (x == c) := by
  simp only [List.isPrefixOf, Bool.and_true]; exact Bool.beq_comm
theorem jo (x : UInt8) (r : Str) : decide (((x :: r).length : Int) > 1) = !(r == []) := by
  cases r with
  | nil => rfl
  | cons y r =>
    have : ((y :: r) == []) = false := rfl
    rw [this]
    apply decide_eq_true
    simp only [List.length_cons]; omega
/-- what follows where no sign stands ahead -/
theorem qR {s : Str} (hv : isV s = false) : (match x6 s with | some x => some x | none => wO s) = u7 s := by
  rw [Xc hv]
  exact oZ s
theorem eh (x : UInt8) (r : Str) (hx : x = 94 ∨ x = 126) : tC (x :: r) = xM (x :: r) := by
  have hd : isD x = false := by rcases hx with rfl | rfl <;> decide
  have h42 : ((x :: r) == [42]) = false := by rw [beq_eq_false_iff_ne]; intro e; cases e; rcases hx with h | h <;> cases h
  have hv := mw (r := r) hd
  have hge : geP (x :: r) = false := by
    unfold geP
    rcases hx with rfl | rfl <;> cases r <;> simp [List.isPrefixOf]
  have hlt : ltP (x :: r) = false := by
    unfold ltP
    rcases hx with rfl | rfl <;> simp [List.isPrefixOf]
  have h1 : (hdB 94 (x :: r) || hdB 126 (x :: r)) = true := by rcases hx with rfl | rfl <;> rfl
  have h2 : hdB 126 (x :: r) = !(hdB 94 (x :: r)) := by rcases hx with rfl | rfl <;> rfl
  have h3 : (hdB 62 (x :: r) || hdB 60 (x :: r)) = false := by rcases hx with rfl | rfl <;> rfl
  cases hr : (r == []) with
  | true =>
    obtain rfl : r = [] := by
      cases r with
      | nil => rfl
      | cons y r => cases hr
    have hp : ∃ a q, yi 46 [x] = (x :: a) :: q := fX (by rcases hx with rfl | rfl <;> decide)
    obtain ⟨a, q, hp⟩ := hp
    have hsh := nd hp hd
    unfold tC xM xC sM
    rw [h42, hv, hge, hlt, h1, h3, jo, hr, qR hv, hsh]
    simp only [List.drop_succ_cons, List.drop_zero, oK]
    rfl
  | false =>
    unfold tC xM xC sM
    rw [h42, hv, hge, hlt, h1, jo, hr, h2]
    unfold Vx
    simp only [List.drop_succ_cons, List.drop_zero, cond_false, cond_true, Bool.or_false, Bool.not_false, Bool.true_and, Bool.not_true, Bool.false_and, hr, Bool.false_or]
    cases hvr : isV r with
    | false => rfl
    | true =>
      obtain ⟨_, _, ho, _⟩ := yu hvr
      rw [nR ho]
      simp only [Bool.not_true, Bool.false_or, cond_false]
theorem fJ (p : Str) : geW (62 :: 61 :: p) = !(p == []) := by
  unfold geW
  cases p with
  | nil => rfl
  | cons x p =>
    have : decide (((62 :: 61 :: x :: p : Str).length : Int) > 2) = true := by apply decide_eq_true; simp only [List.length_cons]; omega
    rw [this]; rfl
theorem gW (p : Str) : ltW (60 :: p) = !(p == []) := by
  unfold ltW
  rw [jo]
  simp [hdB]
theorem uT (p : Str) : (!(p == []) && isE p) = isV p := by
  cases p with
  | nil => rw [oK]; rfl
  | cons x r => rw [TR (by simp)]; rfl
theorem eY {s : Str} {c1 c2 : Str} {two : Bool} (h : xh s = (c1, c2, two)) (h32 : 2 ≤ s.count 32) : (isV c1 && (!two || isV c2)) = false := by
  have he := jB s
  rw [h] at he
  simp only at he
  cases two with
  | false =>
    rw [cond_false, List.append_nil] at he
    have : (32 : UInt8) ∈ c1 := by rw [← he]; exact List.count_pos_iff.1 (by omega)
    rw [mM (c := 32) (by decide) this]; rfl
  | true =>
    rw [cond_true] at he
    rw [he, List.count_append, List.count_cons_self, List.count_cons_of_ne (by decide)] at h32
    by_cases h1 : 0 < c1.count 32
    · rw [mM (c := 32) (by decide) (List.count_pos_iff.1 h1)]; rfl
    · rw [mM (s := c2) (c := 32) (by decide) (List.count_pos_iff.1 (by omega))]; simp
theorem TY (t : Str) : tC (62 :: 61 :: t) = xM (62 :: 61 :: t) := by
  have hv := mw (b := 62) (r := 61 :: t) (by decide)
  have hge : geP (62 :: 61 :: t) = true := by simp [geP, List.isPrefixOf]
  have h42 : ((62 :: 61 :: t : Str) == [42]) = false := rfl
  have hR : xM (62 :: 61 :: t) = u6 (62 :: 61 :: t) := by
    unfold xM
    rw [h42]
    simp only [hdB, show ((62 : UInt8) == 94) = false from rfl, show ((62 : UInt8) == 126) = false from rfl, show ((62 : UInt8) == 62) = true from rfl, Bool.or_false, Bool.and_false, cond_false, Bool.true_or, Bool.and_true]
    have : decide (((62 :: 61 :: t : Str).length : Int) > 0) = true := by apply decide_eq_true; simp only [List.length_cons]; omega
    rw [this]; rfl
  have hI : tC (62 :: 61 :: t) = cond (isV (xh t).1 && (!(xh t).2.2 || isV (xh t).2.1)) (some ((xh t).1, (xh t).2.1)) none := by
    unfold tC xC sM
    rw [h42, hv, hge]
    simp only [cond_false, cond_true, Bool.or_true, Bool.not_true, Bool.false_and, Bool.or_false, List.drop_succ_cons, List.drop_zero]
    cases (isV (xh t).1 && (!(xh t).2.2 || isV (xh t).2.1)) <;> rfl
  rw [hI, hR]
  unfold u6
  cases hc : yi 32 t with
  | nil => exact absurd hc (yU 32 t)
  | cons p q =>
    have hw : yi 32 (62 :: 61 :: t) = (62 :: 61 :: p) :: q := yF 32 62 (61 :: t) (61 :: p) q (by decide) (yF 32 61 t p q (by decide) hc)
    rw [hw]
    cases q with
    | nil =>
      obtain ⟨rfl, hn⟩ := vJ hc
      rw [jA t hn]
      simp only [fJ, List.drop_succ_cons, List.drop_zero, oL, Bool.and_true, Bool.not_false, Bool.true_or]
      have hl2 : ltW (62 :: 61 :: t) = false := by unfold ltW; simp [hdB]
      rw [← uT t, hl2]
      cases (t == []) with
      | true => rfl
      | false => rfl
    | cons y q =>
      obtain ⟨u, rfl, hn, hcu⟩ := vy hc
      cases q with
      | nil =>
        obtain ⟨rfl, hny⟩ := vJ hcu
        simp only [fJ, List.drop_succ_cons, List.drop_zero]
        by_cases hy : ∃ z, u = 60 :: z
        · obtain ⟨z, rfl⟩ := hy
          rw [ea z p hn]
          simp only [gW, List.drop_succ_cons, List.drop_zero, Bool.not_true, Bool.false_or]
          rw [← uT p, ← uT z]
          cases (p == []) <;> cases (z == []) <;> simp
        · rw [kF u hny (fun r hr => hy ⟨r, hr⟩) p hn]
          have h1 : isV (p ++ 32 :: u) = false := mM (c := 32) (by decide) (by simp)
          have h2 : ltW u = false := by
            unfold ltW
            cases u with
            | nil => rfl
            | cons c r =>
              have : (c == 60) = false := by rw [beq_eq_false_iff_ne]; intro e; exact hy ⟨r, by rw [e]⟩
              simp only [hdB, this, Bool.and_false]
          rw [h1, h2]
          simp
      | cons z q =>
        obtain ⟨w, rfl, hn2, _⟩ := vy hcu
        have h2 : 2 ≤ (p ++ 32 :: (y ++ 32 :: w)).count 32 := by
          simp only [List.count_append, List.count_cons_self]; omega
        have := eY (s := p ++ 32 :: (y ++ 32 :: w)) rfl h2
        rw [this]
        rfl
theorem TX (t : Str) : tC (60 :: t) = xM (60 :: t) := by
  have hv := mw (b := 60) (r := t) (by decide)
  have hge : geP (60 :: t) = false := by cases t <;> simp [geP, List.isPrefixOf]
  have hlt : ltP (60 :: t) = true := by simp [ltP, List.isPrefixOf]
  have h42 : ((60 :: t : Str) == [42]) = false := by rw [beq_eq_false_iff_ne]; intro e; cases e
  have hR : xM (60 :: t) = u6 (60 :: t) := by
    unfold xM
    rw [h42]
    simp only [hdB, show ((60 : UInt8) == 94) = false from rfl, show ((60 : UInt8) == 126) = false from rfl, show ((60 : UInt8) == 62) = false from rfl, show ((60 : UInt8) == 60) = true from rfl, Bool.or_false, Bool.and_false, cond_false, Bool.or_true, Bool.and_true]
    have : decide (((60 :: t : Str).length : Int) > 0) = true := by apply decide_eq_true; simp only [List.length_cons]; omega
    rw [this]; rfl
  have hI : tC (60 :: t) = cond (isV t) (some ([], t)) none := by
    unfold tC xC sM
    rw [h42, hv, hge, hlt]
    simp only [cond_false, cond_true, Bool.or_true, Bool.true_or, Bool.not_true, Bool.false_and, Bool.or_false, List.drop_succ_cons, List.drop_zero]
    cases isV t <;> rfl
  rw [hI, hR]
  unfold u6
  cases hc : yi 32 t with
  | nil => exact absurd hc (yU 32 t)
  | cons p q =>
    have hw : yi 32 (60 :: t) = (60 :: p) :: q := yF 32 60 t p q (by decide) hc
    have hg : geW (60 :: p) = false := by
      unfold geW
      cases p with
      | nil => rfl
      | cons a b => simp
    rw [hw]
    cases q with
    | nil =>
      obtain ⟨rfl, hn⟩ := vJ hc
      simp only [hg, cond_false, gW, List.drop_succ_cons, List.drop_zero, oL, Bool.true_and]
      rw [← uT t]
      cases (t == []) <;> rfl
    | cons y q =>
      obtain ⟨u, rfl, hn, hcu⟩ := vy hc
      have h1 : isV (p ++ 32 :: u) = false := mM (c := 32) (by decide) (by simp)
      rw [h1]
      cases q with
      | nil => simp only [hg, cond_false]
      | cons z q => rfl
theorem Zu (x : UInt8) (r : Str) (hv : isV (x :: r) = false) (h42 : ((x :: r) == [42]) = false) (h94 : x ≠ 94) (h126 : x ≠ 126) (h60 : x ≠ 60) (h62 : x = 62 → ∀ t, r ≠ 61 :: t) : tC (x :: r) = xM (x :: r) := by
  have e94 : (x == 94) = false := by rw [beq_eq_false_iff_ne]; exact h94
  have e126 : (x == 126) = false := by rw [beq_eq_false_iff_ne]; exact h126
  have e60 : (x == 60) = false := by rw [beq_eq_false_iff_ne]; exact h60
  have hge : geP (x :: r) = false := by
    unfold geP
    cases hg : ([62, 61] : Str).isPrefixOf (x :: r) with
    | false => rfl
    | true =>
      cases r with
      | nil => simp [List.isPrefixOf] at hg
      | cons y r =>
        simp only [List.isPrefixOf, Bool.and_true, Bool.and_eq_true, beq_iff_eq] at hg
        exact absurd (by rw [← hg.2]) (h62 hg.1.symm r)
  have hlt : ltP (x :: r) = false := by unfold ltP; rw [head_eq]; exact e60
  have hb : xC (x :: r) = wc (x :: r) := by
    unfold xC
    rw [h42, hv, hge, hlt]
    simp only [hdB, e94, e126, cond_false, Bool.or_false]
  have ho : sM (x :: r) = false := by unfold sM; rw [h42, hge, hlt]; rfl
  rw [oe hb ho]
  unfold xM
  rw [h42, qR hv]
  simp only [hdB, e94, e126, e60, Bool.or_false, Bool.and_false, cond_false]
  have hl : decide (((x :: r).length : Int) > 0) = true := by apply decide_eq_true; simp only [List.length_cons]; omega
  rw [hl, Bool.true_and]
  cases h : (x == 62) with
  | false => rfl
  | true =>
    have hx := eq_of_beq h
    subst hx
    obtain ⟨a, q, hp⟩ := fX (c := 62) (r := r) (by decide)
    rw [nd hp (by decide)]
    simp only [cond_true]
    unfold u6
    cases hc : yi 32 r with
    | nil => exact absurd hc (yU 32 r)
    | cons p w =>
      rw [yF 32 62 r p w (by decide) hc]
      have hg : geW (62 :: p) = false := by
        unfold geW
        cases p with
        | nil => rfl
        | cons y p =>
          have hr : ∃ t, r = y :: t := by
            cases w with
            | nil => obtain ⟨e, _⟩ := vJ hc; exact ⟨p, e⟩
            | cons w1 w2 => obtain ⟨t, e, _⟩ := vy hc; exact ⟨p ++ 32 :: t, e⟩
          obtain ⟨t, rfl⟩ := hr
          have hy : y ≠ 61 := fun e => h62 rfl t (by rw [e])
          have : ((List.take 2 (62 :: y :: p)) == [62, 61]) = false := by
            rw [beq_eq_false_iff_ne]; intro e; simp at e; exact hy e
          rw [this, Bool.and_false]
      cases w with
      | nil =>
        have hl2 : ltW (62 :: p) = false := by unfold ltW; simp [hdB]
        simp only [hg, hl2, cond_false]
      | cons y w => cases w with
        | nil => simp only [hg, cond_false]
        | cons _ _ => rfl
theorem UA : tC [] = xM [] := by
  have hb : xC [] = wc [] := by
    unfold xC
    rw [oK]; rfl
  rw [oe hb rfl, n8]
  unfold xM
  rw [qR oK, n8]
  rfl
theorem Xk : tC [42] = xM [42] := by
  unfold tC xM xC sM
  rfl
/-- both take a part alike -/
theorem Xl (s : Str) : tC s = xM s := by
  cases s with
  | nil => exact UA
  | cons x r =>
    by_cases h42 : ((x :: r) == [42]) = true
    · rw [eq_of_beq h42]; exact Xk
    · have h42' : ((x :: r) == [42]) = false := by simpa using h42
      cases hv : isV (x :: r) with
      | true => exact Uz hv
      | false =>
        by_cases h1 : x = 94
        · exact eh x r (.inl h1)
        · by_cases h2 : x = 126
          · exact eh x r (.inr h2)
          · by_cases h3 : x = 60
            · subst h3; exact TX r
            · by_cases h4 : x = 62 ∧ ∃ t, r = 61 :: t
              · obtain ⟨rfl, t, rfl⟩ := h4; exact TY t
              · exact Zu x r hv h42' h1 h2 h3 fun hx t ht => h4 ⟨hx, t, ht⟩
/-- what a part gives has versions for its ends -/
theorem vG {a b c : Int} (h : (ye a b c == []) = false) : isV (ye a b c) = true := by
  have hz := uM a b c
  rw [h] at hz
  have hn : (n9 a && (n9 b && n9 c)) = true := by
    cases hh : (n9 a && (n9 b && n9 c)) with
    | true => rfl
    | false => rw [hh] at hz; cases hz
  have hok : yv ⟨a, b, c, [[48]]⟩ = true := by rw [vB]; exact hn
  simp only [Bool.and_eq_true, pw] at hn
  obtain ⟨ha, hb, hc⟩ := hn
  obtain ⟨da, _⟩ := vI ha.1
  obtain ⟨db, _⟩ := vI hb.1
  obtain ⟨dc, _⟩ := vI hc.1
  have ht : ye a b c = (Lib.itoa a ++ 46 :: (Lib.itoa b ++ 46 :: Lib.itoa c)) ++ 45 :: [48] := by
    unfold ye yb w8 ve
    rw [hok]
    simp [Lib.join_one]
  have ra : zO (Lib.itoa a) = a := by
    obtain ⟨u, rfl⟩ : ∃ u : Nat, a = u := ⟨a.toNat, by omega⟩
    rw [Lib.itoa_nonneg]; exact (vw (by omega)).1
  have rb : zO (Lib.itoa b) = b := by
    obtain ⟨u, rfl⟩ : ∃ u : Nat, b = u := ⟨b.toNat, by omega⟩
    rw [Lib.itoa_nonneg]; exact (vw (by omega)).1
  have rc : zO (Lib.itoa c) = c := by
    obtain ⟨u, rfl⟩ : ∃ u : Nat, c = u := ⟨c.toNat, by omega⟩
    rw [Lib.itoa_nonneg]; exact (vw (by omega)).1
  have na := List.all_eq_true.1 da
  have nb := List.all_eq_true.1 db
  have nc := List.all_eq_true.1 dc
  have h45 : (45 : UInt8) ∉ Lib.itoa a ++ 46 :: (Lib.itoa b ++ 46 :: Lib.itoa c) := by
    simp only [List.mem_append, List.mem_cons, not_or]
    exact ⟨VB na, by decide, VB nb, by decide, VB nc⟩
  have hm : xS (ye a b c) = some ⟨a, b, c, [[48]]⟩ := by
    unfold xS
    rw [ht, mD 45 [48] _ h45]
    simp only
    rw [uB, oO 46 _ (VA na), uB, oO 46 _ (VA nb), oO 46 _ (VA nc)]
    simp only [List.cons_append, List.nil_append, cond_true]
    rw [ra, rb, rc]; rfl
  unfold isV zA
  rw [hm]
  simp only
  have : (yb ⟨a, b, c, [[48]]⟩ == ye a b c) = true := by unfold ye; simp
  rw [this]; rfl
theorem Zo {s : Str} {b : Bd} (h : x6 s = some b) : isV b.1 = true ∧ isV b.2 = true := by
  unfold x6 at h
  cases hv : (zA s).2 with
  | false => rw [hv] at h; cases h
  | true =>
    rw [hv] at h
    cases hh : (uJ (zA s).1 == []) with
    | true => rw [hh] at h; cases h
    | false =>
      rw [hh] at h
      simp only [Bool.not_false, Bool.and_self, cond_true] at h
      injection h with h
      subst h
      refine ⟨hv, ?_⟩
      show isV (uJ (zA s).1) = true
      unfold uJ at hh ⊢
      cases hp : ((zA s).1.pre == []) with
      | true => rw [hp] at hh; simp only [cond_true] at hh ⊢; exact vG hh
      | false =>
        rw [hp] at hh
        simp only [cond_false] at hh ⊢
        obtain ⟨r1, r2⟩ := ly hv (fun e => by rw [e] at hp; cases hp)
        cases hk : yv (se (zA s).1) with
        | false => rw [r2, hk] at hh; cases hh
        | true =>
          rw [r2, hk]
          simp only [cond_true]
          unfold isV
          rw [r1, hk]; rfl
theorem Z6 {s : Str} {b : Bd} (h : wO s = some b) : isV b.1 = true ∧ isV b.2 = true := by
  have hI := h
  rw [oZ] at hI
  refine ⟨?_, ?_⟩
  · unfold wO at h
    cases h1 : (!(isV (wv s)) || (!(B2 ((yi 46 s).length : Int) 1 2) || !((zA (wv s)).1.pre == []))) with
    | true => rw [h1] at h; cases h
    | false =>
      rw [h1] at h
      simp only [cond_false] at h
      cases h2 : (vk (zA (wv s)).1 (((yi 46 s).length : Int) - 1)).2 with
      | false => rw [h2] at h; cases h
      | true =>
        rw [h2] at h
        injection h with h
        subst h
        simp only [Bool.or_eq_false_iff, Bool.not_eq_false'] at h1
        exact h1.1
  · unfold u7 at hI
    split at hI
    · rename_i a _
      cases h1 : (decide (0 ≤ zO a) && !(ye (zO a + 1) 0 0 == [])) with
      | false => rw [h1] at hI; cases hI
      | true =>
        rw [h1] at hI
        injection hI with hI
        subst hI
        simp only [Bool.and_eq_true, Bool.not_eq_true'] at h1
        exact vG h1.2
    · rename_i a b _
      cases h1 : ((decide (0 ≤ zO a) && decide (0 ≤ zO b)) && !(ye (zO a) (zO b + 1) 0 == [])) with
      | false => rw [h1] at hI; cases hI
      | true =>
        rw [h1] at hI
        injection hI with hI
        subst hI
        simp only [Bool.and_eq_true, Bool.not_eq_true'] at h1
        exact vG h1.2
    · cases hI
theorem uH {α : Type} {b : Bool} {x y : α} (h : cond b (some x) none = some y) : b = true ∧ x = y := by
  cases b with
  | false => cases h
  | true => injection h with h; exact ⟨rfl, h⟩
theorem YZ {s : Str} {b : Bd} (h : xM s = some b) : isE b.1 = true ∧ isE b.2 = true := by
  have ofV : ∀ {t : Str}, isV t = true → isE t = true := fun {t} h => by unfold isE; rw [h]; rfl
  unfold xM at h
  cases h1 : (s == [42]) with
  | true => rw [h1] at h; injection h with h; subst h; exact ⟨oL, oL⟩
  | false =>
    rw [h1] at h
    simp only [cond_false] at h
    cases h2 : (decide ((s.length : Int) > 1) && (hdB 94 s || hdB 126 s)) with
    | true =>
      rw [h2] at h
      simp only [cond_true] at h
      cases hv : isV (s.drop 1) with
      | false => rw [hv] at h; cases h
      | true =>
        rw [hv] at h
        simp only [Bool.not_true, cond_false] at h
        obtain ⟨_, _, ho, _⟩ := yu hv
        have hh : hdB 126 s = !(hdB 94 s) := by
          cases s with
          | nil => simp [hdB] at h2
          | cons x r =>
            simp only [hdB, Bool.and_eq_true, Bool.or_eq_true, beq_iff_eq] at h2
            rcases h2.2 with e | e <;> rw [e] <;> rfl
        rw [hh, nR ho] at h
        have key : ∀ z : Str, cond (z == []) none (some (s.drop 1, z)) = some b → (∀ (hz : (z == []) = false), isV z = true) → isE b.1 = true ∧ isE b.2 = true := fun z hz hzv => by
          cases hn : (z == []) with
          | true => rw [hn] at hz; cases hz
          | false =>
            rw [hn] at hz
            injection hz with hz
            subst hz
            exact ⟨ofV hv, ofV (hzv hn)⟩
        refine key _ h fun hz => ?_
        cases hb : hdB 94 s with
        | false => rw [hb] at hz; simp only [cond_false] at hz ⊢; exact vG hz
        | true =>
          rw [hb] at hz
          simp only [cond_true] at hz ⊢
          unfold pA at hz ⊢
          cases h5 : decide ((zA (s.drop 1)).1.maj > 0) with
          | true => rw [h5] at hz; simp only [cond_true] at hz ⊢; exact vG hz
          | false =>
            rw [h5] at hz
            simp only [cond_false] at hz ⊢
            cases h6 : ((zA (s.drop 1)).1.min == 0) with
            | true => rw [h6] at hz; simp only [cond_true] at hz ⊢; exact vG hz
            | false => rw [h6] at hz; simp only [cond_false] at hz ⊢; exact vG hz
    | false =>
      rw [h2] at h
      simp only [cond_false] at h
      cases h3 : (decide ((s.length : Int) > 0) && (hdB 62 s || hdB 60 s)) with
      | true =>
        rw [h3] at h
        simp only [cond_true] at h
        unfold u6 at h
        split at h
        · rename_i x _
          cases hg : geW x with
          | true =>
            rw [hg] at h
            obtain ⟨q1, q2⟩ := uH h
            subst q2
            simpa using q1
          | false =>
            rw [hg] at h
            simp only [cond_false] at h
            cases hl : ltW x with
            | false => rw [hl] at h; cases h
            | true =>
              rw [hl] at h
              obtain ⟨q1, q2⟩ := uH h
              subst q2
              simpa using q1
        · rename_i x y _
          cases hg : geW x with
          | false => rw [hg] at h; cases h
          | true =>
            rw [hg] at h
            simp only [cond_true] at h
            cases hl : ltW y with
            | false => rw [hl] at h; cases h
            | true =>
              rw [hl] at h
              obtain ⟨q1, q2⟩ := uH h
              subst q2
              simpa using q1
        · cases h
      | false =>
        rw [h3] at h
        simp only [cond_false] at h
        cases hx : x6 s with
        | some x =>
          rw [hx] at h
          injection h with h
          subst h
          obtain ⟨q1, q2⟩ := Zo hx
          exact ⟨ofV q1, ofV q2⟩
        | none =>
          rw [hx] at h
          obtain ⟨q1, q2⟩ := Z6 h
          exact ⟨ofV q1, ofV q2⟩
end Go.Proofs.YtmcephnfcciloaaGreatDoor
/- Ranges, plain: a text cut at ' || ', the whole. Conditions: none. -/
namespace Go.Proofs.YtmcephnfcciloaaGreatDoor
open E
set_option linter.unusedVariables false
set_option linter.unusedSimpArgs false
set_option maxRecDepth 100000
def wI : Str := [32, 124, 124, 32]
/-- the parts between; so many bytes are passed over first -/
def yV : Nat → Str → List Str
  | _, [] => [[]]
  | 0, x :: r => if wI.isPrefixOf (x :: r) = true then [] :: yV 3 r else match yV 0 r with
    | p :: q => (x :: p) :: q
    | [] => [[x]]
  | k + 1, _ :: r => yV k r
theorem qF : ∀ (k : Nat) (s : Str), yV k s ≠ []
  | k, [] => by cases k <;> simp [yV]
  | 0, x :: r => by
    unfold yV
    split
    · simp
    · split <;> simp
  | k + 1, x :: r => by rw [yV]; exact qF k r
theorem kE : ∀ (k : Nat) (s : Str), k ≤ s.length → yV k s = yV 0 (s.drop k)
  | 0, s, _ => rfl
  | k + 1, [], h => by simp at h
  | k + 1, x :: r, h => by rw [yV, kE k r (by simpa using h)]; rfl
theorem Tc {s : Str} (h : wI.isPrefixOf s = true) : 4 ≤ s.length := by
  have : ∀ p s : Str, p.isPrefixOf s = true → p.length ≤ s.length := fun p => by
    induction p with
    | nil => intro s _; simp
    | cons a p ih =>
      intro s h
      cases s with
      | nil => simp [List.isPrefixOf] at h
      | cons b s =>
        simp only [List.isPrefixOf, Bool.and_eq_true] at h
        have := ih s h.2
        simp only [List.length_cons]; omega
  exact this wI s h
theorem mA (x : UInt8) (r : Str) (h : wI.isPrefixOf (x :: r) = true) : yV 0 (x :: r) = [] :: yV 3 r := by rw [yV, if_pos h]
theorem uj (x : UInt8) (r p : Str) (q : List Str) (h : wI.isPrefixOf (x :: r) = false) (e : yV 0 r = p :: q) : yV 0 (x :: r) = (x :: p) :: q := by
  rw [yV, if_neg (by rw [h]; simp), e]
theorem rl : ∀ (n : Nat) (s : Str), s.length ≤ n → Lib.split s wI = yV 0 s
  | n, [], _ => by
    unfold Lib.split
    rw [Lib.count_miss (by simp [Lib.index, wI])]; rfl
  | 0, x :: r, h => by simp at h
  | n + 1, x :: r, h => by
    simp only [List.length_cons] at h
    cases hp : wI.isPrefixOf (x :: r) with
    | true =>
      have h4 := Tc hp
      simp only [List.length_cons] at h4
      have hi : Lib.index (x :: r) wI = ((0 : Nat) : Int) := by rw [Lib.index, if_pos hp]; rfl
      have ih := rl n (r.drop 3) (by rw [List.length_drop]; omega)
      unfold Lib.split at ih ⊢
      rw [Lib.count_hit (by simp [wI]) hi, Nat.add_comm, Lib.splitK, hi]
      rw [mA x r hp, kE 3 r (by omega), ← ih]
      simp [wI]
    | false =>
      have ih := rl n r (by omega)
      have hix : Lib.index (x :: r) wI = if Lib.index r wI == -1 then -1 else Lib.index r wI + 1 := by
        rw [Lib.index, hp]; simp
      unfold Lib.split at ih ⊢
      by_cases hm : Lib.index r wI = -1
      · rw [Lib.count_miss hm] at ih
        rw [Lib.count_miss (by rw [hix, hm]; rfl), Lib.splitK]
        rw [Lib.splitK] at ih
        exact (uj x r r [] hp ih.symm).symm
      · have hge := Lib.index_ge r wI
        obtain ⟨j, hj⟩ : ∃ j : Nat, Lib.index r wI = j := ⟨(Lib.index r wI).toNat, by omega⟩
        have hb : (((j : Nat) : Int) == -1) = false := by rw [beq_eq_false_iff_ne]; omega
        have hb2 : (((j + 1 : Nat) : Int) == -1) = false := by rw [beq_eq_false_iff_ne]; omega
        have hj2 : Lib.index (x :: r) wI = ((j + 1 : Nat) : Int) := by rw [hix, hj, hb]; simp
        rw [Lib.count_hit (by simp [wI]) hj, Nat.add_comm, Lib.splitK, hj, hb] at ih
        rw [Lib.count_hit (by simp [wI]) hj2, Nat.add_comm, Lib.splitK, hj2, hb2]
        simp only [Bool.false_eq_true, if_false, Int.toNat_natCast, Nat.add_zero] at ih ⊢
        rw [List.take_succ_cons, show j + 1 + wI.length = (j + wI.length) + 1 by omega, List.drop_succ_cons]
        exact (uj x r _ _ hp ih.symm).symm
theorem uk : ∀ (k : Nat) (s : Str), yk (yV k s) + (yV k s).length ≤ s.length + 1
  | k, [] => by cases k <;> simp [yV, yk]
  | 0, x :: r => by
    cases hp : wI.isPrefixOf (x :: r) with
    | true =>
      have ih := uk 3 r
      rw [mA x r hp]
      simp only [yk, List.length_cons, List.length_nil] at ih ⊢; omega
    | false =>
      have ih := uk 0 r
      cases hc : yV 0 r with
      | nil => exact absurd hc (qF 0 r)
      | cons p q =>
        rw [hc] at ih
        rw [uj x r p q hp hc]
        simp only [yk, List.length_cons] at ih ⊢; omega
  | k + 1, x :: r => by
    have ih := uk k r
    rw [yV]
    simp only [List.length_cons]; omega
def vP : List Str → Option (List Bd)
  | [] => some []
  | p :: r => match xM p with
    | some b => (match vP r with | some bs => some (b :: bs) | none => none)
    | none => none
def wq (s : Str) : Option (List Bd) := cond (decide ((s.length : Int) > 200) || decide (((yV 0 s).length : Int) > 8)) none (vP (yV 0 s))
def xk (l : List Bd) : Bool := (l.all fun b => isE b.1 && isE b.2) && B2 (l.length : Int) 1 8
theorem sJ : ∀ (l : List Str) (r : List Bd), vP l = some r → (r.all fun b => isE b.1 && isE b.2) = true ∧ r.length = l.length
  | [], r, h => by cases h; exact ⟨rfl, rfl⟩
  | p :: l, r, h => by
    unfold vP at h
    cases hp : xM p with
    | none => rw [hp] at h; cases h
    | some b =>
      rw [hp] at h
      simp only at h
      cases hl : vP l with
      | none => rw [hl] at h; cases h
      | some bs =>
        rw [hl] at h
        cases h
        obtain ⟨h1, h2⟩ := sJ l bs hl
        obtain ⟨q1, q2⟩ := YZ hp
        refine ⟨?_, by simp [h2]⟩
        simp only [List.all_cons, q1, q2, h1]; rfl
/-- as the implementation asks -/
def jM (s : Str) : Option (List Bd) := cond (decide ((s.length : Int) > 200)) none (match vP (yV 0 s) with | some l => cond (xk l) (some l) none | none => none)
theorem nk (s : Str) : jM s = wq s := by
  unfold jM wq
  cases decide ((s.length : Int) > 200) with
  | true => rfl
  | false =>
    simp only [cond_false, Bool.false_or]
    cases ha : vP (yV 0 s) with
    | none => cases decide (((yV 0 s).length : Int) > 8) <;> rfl
    | some l =>
      obtain ⟨h1, h2⟩ := sJ _ _ ha
      have hn : 1 ≤ (yV 0 s).length := by
        cases hc : yV 0 s with
        | nil => exact absurd hc (qF 0 s)
        | cons p q => simp
      have hr : xk l = !decide (((yV 0 s).length : Int) > 8) := by
        unfold xk B2
        rw [h1, h2, Bool.true_and, decide_eq_true (show (1 : Int) ≤ ((yV 0 s).length : Int) by omega), Bool.true_and]
        by_cases h : ((yV 0 s).length : Int) ≤ 8
        · rw [decide_eq_true h, decide_eq_false (by omega)]; rfl
        · rw [decide_eq_false h, decide_eq_true (by omega)]; rfl
      simp only
      rw [hr]
      cases decide (((yV 0 s).length : Int) > 8) <;> rfl
end Go.Proofs.YtmcephnfcciloaaGreatDoor
/- The library's searches, at fields. Conditions: those of each lemma. -/
namespace Go.Proofs.YtmcephnfcciloaaGreatDoor
open E
set_option linter.unusedSimpArgs false
set_option linter.unusedVariables false
set_option maxRecDepth 100000
/-- the first place at which something holds -/
def r8 {α : Type} (p : α → Bool) : List α → Nat → Option Nat
  | [], _ => none
  | x :: r, n => if p x = true then some n else r8 p r (n + 1)
def ixI : Option Nat → Int
  | some n => (n : Int)
  | none => -1
theorem fN {α : Type} (p : α → Bool) : ∀ (l : List α) (n : Nat), (r8 p l n).isSome = l.any p
  | [], _ => rfl
  | x :: r, n => by
    simp only [r8, List.any_cons]
    split
    · rename_i h; simp [h]
    · rename_i h; rw [fN p r (n + 1)]; simp [h]
end Go.Proofs.YtmcephnfcciloaaGreatDoor
/- Packs and graphs, plain. Conditions: none. -/
namespace Go.Proofs.YtmcephnfcciloaaGreatDoor
open E
set_option linter.unusedVariables false
set_option linter.unusedSimpArgs false
set_option maxRecDepth 100000
def Vy : Str := [115, 104, 97, 49]
def je : Str := [115, 104, 97, 50, 53, 54]
def h1S : Str := [104, 49]
def jd : Str := [115, 104, 97, 53, 49, 50]
def ti (a : Str) : Int := cond (a == Vy) 20 (cond (a == je || a == h1S) 32 (cond (a == jd) 64 (-1)))
/-- is a text above the one ahead, if there is one? -/
def vS (prev : Option Str) (s : Str) : Bool := match prev with
  | none => true
  | some p => Op.bytesLess p s
def vi : Option Str → List zZ → Bool
  | _, [] => true
  | prev, s :: r => (((s.bytes.length : Int) == ti s.alg) && vS prev s.alg) && vi (some s.alg) r
def keyOf (p : zL) : Str := (p.name ++ [64]) ++ p.version
def Ly (ps : List zL) (k : Str) : Bool := ps.any fun p => keyOf p == k
def j8 (ps : List zL) (k : Str) : Option Nat := r8 (fun p => keyOf p == k) ps 0
def xZ (ps : List zL) : Option Str → List Str → Bool
  | _, [] => true
  | prev, k :: r => (Ly ps k && vS prev k) && xZ ps (some k) r
def rT (p : zL) : Bool := vj p.name && ((x6 p.version).isSome && (wz p.source && vi none p.sums))
def wV (ps : List zL) : Option Str → List zL → Bool
  | _, [] => true
  | prev, p :: r => (rT p && (vS prev (keyOf p) && xZ ps none p.needs)) && wV ps (some (keyOf p)) r
def w7 (g : zU) : Bool := wV g.packs none g.packs && (decide ((g.packs.length : Int) ≤ 40) && xZ g.packs none g.top)
theorem Vg {α : Type} (p : α → Bool) (l : List α) : decide (ixI (r8 p l 0) < 0) = !(l.any p) := by
  rw [← fN p l 0]
  cases r8 p l 0 with
  | none => rfl
  | some n =>
    have h : ¬ ((n : Int) < 0) := by omega
    show decide ((n : Int) < 0) = false
    exact decide_eq_false h
/-- the one ahead of a place -/
theorem uz {α : Type} (f : α → List T) (pre : List α) (q : α) (rest : List α) : uG ((pre ++ [q] ++ rest).map f) (((pre ++ [q]).length : Int) - 1) = some (f q) := by
  unfold uG
  rw [if_pos (by simp)]
  have e : (((pre ++ [q]).length : Int) - 1).toNat = pre.length := by simp
  rw [e]
  simp
theorem wB {α : Type} (f : α → List T) (pre : List α) (x : α) (rest : List α) : ((pre ++ x :: rest).map f)[pre.length]? = some (f x) := by simp
theorem wj {α : Type} (l : List α) : l = [] ∨ ∃ p q, l = p ++ [q] := by
  rcases List.eq_nil_or_concat l with h | ⟨p, q, h⟩
  · exact .inl h
  · exact .inr ⟨p, q, by rw [h, List.concat_eq_append]⟩
end Go.Proofs.YtmcephnfcciloaaGreatDoor
/- Ranges, by the implementation. Conditions: those of each lemma. -/
namespace Go.Proofs.YtmcephnfcciloaaGreatDoor
open E
set_option linter.unusedSimpArgs false
set_option linter.unusedVariables false
set_option maxRecDepth 100000
/-- bounds as the evaluator sees them -/
def bdT (l : List Bd) : List (List T) := l.map fun b => [.str b.1, .str b.2]
theorem xO (l : List Bd) : (bdT l).length = l.length := by simp [bdT]
theorem aI (a b : List Bd) : bdT (a ++ b) = bdT a ++ bdT b := by simp [bdT]
def bdV (b : Bd) : V := .agg [.t (.str b.1), .t (.str b.2)]
theorem V6 (s : Str) : (!(s == []) && !(isV s)) = !(isE s) := by
  unfold isE
  cases (s == []) <;> cases isV s <;> rfl
theorem qH (s : Str) (hl : s.length ≤ 1048700) : zE (EV Tryz.prog pol) 130 [.t (.str s)] = some (.t (.bool (isV s))) := by
  have h := oA s hl
  unfold rvT at h
  unfold isV
  generalize (zA s).1 = v at *
  generalize (zA s).2 = ok at *
  simp only [Ver.enc, List.map_cons, List.map_nil] at h
  apply zu
  refine zw rfl Tryz.func130 rfl (by kernel_rfl) ?_
  unfold Tryz.f130
  simp (disch := ((try simp only [LL]); omega)) only [↓GO, ↓DRW, GA, ren, zB, zd, refs, zb, cst, zl, zH, z7, E.load, E.store, zG, isC, bin, zI, zJ, una, z8, za, zh, zK, blt, fnV, asArg, ze, zn, zo, zj, zi, zg, zk, zr, z6, zD, zF, E.mkS, zc, unN, zM, zm, zy, zC, zf, zN, zq, GS, simprocAttr, GZ, h]
theorem Va (l : List Bd) (hl : l.length ≤ 4194304) (hb : ∀ b ∈ l, b.1.length ≤ 1048700 ∧ b.2.length ≤ 1048700) : ∀ (rest pre : List Bd), l = pre ++ rest →
    EV Tryz.prog pol (.loop 98 26 0 [.t (.list 2 (bdT l)), .t (.list 2 (bdT l)), .t (.int .i64 (l.length : Int)), .t (.int .i64 (pre.length : Int))] []) = some (cond (rest.all fun b => isE b.1 && isE b.2) (.loop (.exit 0) [.t (.list 2 (bdT l)), .bad] []) (.loop .ret [.t (.list 2 (bdT l)), .t (.bool false)] []))
  | [], pre, hs => by
    have c : decide ((pre.length : Int) < (l.length : Int)) = false := by simp [hs]
    simp only [List.all_nil, cond_true]
    refine zz Tryz.func98 rfl rfl ?_
    simp (disch := ((try simp only [LL]); omega)) only [↓GO, ↓DRW, GA, ren, zB, zd, refs, zb, cst, zl, zH, z7, E.load, E.store, zG, isC, bin, zI, zJ, una, z8, za, zh, zK, blt, fnV, asArg, ze, zn, zo, zj, zi, zg, zk, zr, z6, zD, zF, E.mkS, zc, unN, zM, zm, zy, zC, zf, zN, zq, GS, simprocAttr, GZ, c]
  | x :: rest, pre, hs => by
    have c : decide ((pre.length : Int) < (l.length : Int)) = true := by simp [hs]; omega
    have hget : (bdT l)[pre.length]? = some [.str x.1, .str x.2] := by rw [hs]; exact wB (fun b : Bd => [T.str b.1, T.str b.2]) pre x rest
    have hlen : pre.length + rest.length + 1 ≤ l.length := by rw [hs]; simp; omega
    have hx := hb x (by rw [hs]; simp)
    have h1 := qH x.1 hx.1
    have h2 := qH x.2 hx.2
    have e1 := V6 x.1
    have e2 := V6 x.2
    have IH := Va l hl hb rest (pre ++ [x]) (by rw [hs]; simp)
    rw [show ((pre ++ [x]).length : Int) = (pre.length : Int) + 1 by simp] at IH
    clear hs hb
    rw [List.all_cons]
    generalize isE x.1 = a1 at *
    generalize isE x.2 = a2 at *
    generalize isV x.1 = b1 at *
    generalize isV x.2 = b2 at *
    cases h3 : (x.1 == []) <;> cases h4 : (x.2 == []) <;> cases b1 <;> cases b2 <;> rw [h3] at e1 <;> rw [h4] at e2 <;> cases a1 <;> cases a2 <;> first
      | (exfalso; revert e1; decide)
      | (exfalso; revert e2; decide)
      | (refine zz Tryz.func98 rfl rfl ?_; simp (disch := ((try simp only [LL]); omega)) only [↓GO, ↓DRW, GA, ren, zB, zd, refs, zb, cst, zl, zH, z7, E.load, E.store, zG, isC, bin, zI, zJ, una, z8, za, zh, zK, blt, fnV, asArg, ze, zn, zo, zj, zi, zg, zk, zr, z6, zD, zF, E.mkS, zc, unN, zM, zm, zy, zC, zf, zN, zq, GS, simprocAttr, GZ, c, hget, h1, h2, h3, h4, bne, zx, xO, IH])
theorem Vp (l : List Bd) (hl : l.length ≤ 4194304) (hb : ∀ b ∈ l, b.1.length ≤ 1048700 ∧ b.2.length ≤ 1048700) : zE (EV Tryz.prog pol) 98 [.t (.list 2 (bdT l))] = some (.t (.bool (xk l))) := by
  have L := Va l hl hb l [] rfl
  have h := uD (l.length : Int) 1 8
  simp only [List.length_nil, Int.natCast_zero] at L
  unfold xk
  generalize B2 (l.length : Int) 1 8 = b2 at *
  cases ha : (l.all fun b => isE b.1 && isE b.2) <;> rw [ha] at L <;> simp only [cond_true, cond_false] at L
  all_goals
    apply zu
    refine zw rfl Tryz.func98 rfl (by kernel_rfl) ?_
    unfold Tryz.f98
    simp (disch := ((try simp only [LL]); omega)) only [↓GO, ↓DRW, GA, ren, zB, zd, refs, zb, cst, zl, zH, z7, E.load, E.store, zG, isC, bin, zI, zJ, una, z8, za, zh, zK, blt, fnV, asArg, ze, zn, zo, zj, zi, zg, zk, zr, z6, zD, zF, E.mkS, zc, unN, zM, zm, zy, zC, zf, zN, zq, GS, simprocAttr, GZ, L, h, xO]
theorem Zz (s : Str) (hl : s.length ≤ 1048700) : zE (EV Tryz.prog pol) 132 [.t (.str s)] = some (.tup [bdV (wc s).1, .t (.bool (wc s).2)]) := by
  have h1 := qG s [46] (by omega) (by simp)
  rw [rm] at h1
  have hbk := xL 46 s
  unfold wc
  match hp : yi 46 s with
  | [] => exact absurd hp (yU 46 s)
  | [a] =>
    rw [hp] at h1 hbk
    simp only [yk, List.length_cons, List.length_nil] at hbk
    have d1 := mU a (by omega)
    have hr := xo a
    have v1 := uE ⟨zO a, 0, 0, []⟩ (by simp [Ver.sm, yk])
    have v2 := mT (zO a) 1 0
    have v3 := mT (zO a + 1) 0 0
    have e0 : decide (zO a < 0) = !decide (0 ≤ zO a) := by
      by_cases h : zO a < 0
      · rw [decide_eq_true h, decide_eq_false (by omega)]; rfl
      · rw [decide_eq_false h, decide_eq_true (by omega)]; rfl
    simp only
    generalize yb ⟨zO a, 0, 0, []⟩ = t1 at *
    generalize ye (zO a) 1 0 = t2 at *
    generalize ye (zO a + 1) 0 0 = t3 at *
    generalize zO a = ra at *
    simp only [xj, yf, Ver.enc, List.map_cons, List.map_nil, bdV] at h1 v1 ⊢
    cases hd : decide (0 ≤ ra) <;> rw [hd] at e0 <;> simp only [Bool.not_true, Bool.not_false] at e0
    · have L : EV Tryz.prog pol (.loop 132 250 0 [.ptr 0 0 0, .t (.list 1 [[.str a]]), .sl 1 0 2 (some 2), .t (.list 1 [[.str a]]), .t (.int .i64 1), .t (.int .i64 0)] [.vs 2 [[.t (.str []), .t (.str [])]], .ts 1 [[.int .i64 0], [.int .i64 0]]])
          = some (.loop .ret [.ptr 0 0 0, .t (.bool false), .t (.list 1 [[.str a]]), .sl 1 0 2 (some 2)] [.vs 2 [[.t (.str []), .t (.str [])]], .ts 1 [[.int .i64 ra], [.int .i64 0]]]) := by
        refine zz Tryz.func132 rfl rfl ?_
        simp (disch := ((try simp only [LL]); omega)) only [↓GO, ↓DRW, GA, ren, zB, zd, refs, zb, cst, zl, zH, z7, E.load, E.store, zG, isC, bin, zI, zJ, una, z8, za, zh, zK, blt, fnV, asArg, ze, zn, zo, zj, zi, zg, zk, zr, z6, zD, zF, E.mkS, zc, unN, zM, zm, zy, zC, zf, zN, zq, GS, simprocAttr, GZ, d1, e0, zx, zY]
      apply zu
      refine zw rfl Tryz.func132 rfl (by kernel_rfl) ?_
      unfold Tryz.f132
      simp (disch := ((try simp only [LL]); omega)) only [↓GO, ↓DRW, GA, ren, zB, zd, refs, zb, cst, zl, zH, z7, E.load, E.store, zG, isC, bin, zI, zJ, una, z8, za, zh, zK, blt, fnV, asArg, ze, zn, zo, zj, zi, zg, zk, zr, z6, zD, zF, E.mkS, zc, unN, zM, zm, zy, zC, zf, zN, zq, GS, simprocAttr, GZ, h1, L, zY]
    · have L : EV Tryz.prog pol (.loop 132 250 0 [.ptr 0 0 0, .t (.list 1 [[.str a]]), .sl 1 0 2 (some 2), .t (.list 1 [[.str a]]), .t (.int .i64 1), .t (.int .i64 0)] [.vs 2 [[.t (.str []), .t (.str [])]], .ts 1 [[.int .i64 0], [.int .i64 0]]])
          = some (.loop (.exit 0) [.ptr 0 0 0, .bad, .t (.list 1 [[.str a]]), .sl 1 0 2 (some 2)] [.vs 2 [[.t (.str []), .t (.str [])]], .ts 1 [[.int .i64 ra], [.int .i64 0]]]) := by
        refine zz Tryz.func132 rfl rfl ?_
        simp (disch := ((try simp only [LL]); omega)) only [↓GO, ↓DRW, GA, ren, zB, zd, refs, zb, cst, zl, zH, z7, E.load, E.store, zG, isC, bin, zI, zJ, una, z8, za, zh, zK, blt, fnV, asArg, ze, zn, zo, zj, zi, zg, zk, zr, z6, zD, zF, E.mkS, zc, unN, zM, zm, zy, zC, zf, zN, zq, GS, simprocAttr, GZ, d1, e0, zx, zY, Int.reduceAdd]
        refine zz Tryz.func132 rfl rfl ?_
        simp (disch := ((try simp only [LL]); omega)) only [↓GO, ↓DRW, GA, ren, zB, zd, refs, zb, cst, zl, zH, z7, E.load, E.store, zG, isC, bin, zI, zJ, una, z8, za, zh, zK, blt, fnV, asArg, ze, zn, zo, zj, zi, zg, zk, zr, z6, zD, zF, E.mkS, zc, unN, zM, zm, zy, zC, zf, zN, zq, GS, simprocAttr, GZ, zY]
      apply zu
      refine zw rfl Tryz.func132 rfl (by kernel_rfl) ?_
      unfold Tryz.f132
      simp (disch := ((try simp only [LL]); omega)) only [↓GO, ↓DRW, GA, ren, zB, zd, refs, zb, cst, zl, zH, z7, E.load, E.store, zG, isC, bin, zI, zJ, una, z8, za, zh, zK, blt, fnV, asArg, ze, zn, zo, zj, zi, zg, zk, zr, z6, zD, zF, E.mkS, zc, unN, zM, zm, zy, zC, zf, zN, zq, GS, simprocAttr, GZ, h1, L, v1, v2, v3, zx, Int.reduceAdd, yf, zY]
      refine yT (by kernel_rfl) ?_
      simp (disch := ((try simp only [LL]); omega)) only [↓GO, ↓DRW, GA, ren, zB, zd, refs, zb, cst, zl, zH, z7, E.load, E.store, zG, isC, bin, zI, zJ, una, z8, za, zh, zK, blt, fnV, asArg, ze, zn, zo, zj, zi, zg, zk, zr, z6, zD, zF, E.mkS, zc, unN, zM, zm, zy, zC, zf, zN, zq, GS, simprocAttr, GZ, h1, L, v1, v2, v3, zx, Int.reduceAdd, yf, zY]
  | [a, b] =>
    rw [hp] at h1 hbk
    simp only [yk, List.length_cons, List.length_nil] at hbk
    have d1 := mU a (by omega)
    have d2 := mU b (by omega)
    have hr := xo a
    have hr2 := xo b
    have v1 := uE ⟨zO a, zO b, 0, []⟩ (by simp [Ver.sm, yk])
    have v2 := mT (zO a) (zO b + 1) 0
    have e0 : decide (zO a < 0) = !decide (0 ≤ zO a) := by
      by_cases h : zO a < 0
      · rw [decide_eq_true h, decide_eq_false (by omega)]; rfl
      · rw [decide_eq_false h, decide_eq_true (by omega)]; rfl
    have e1 : decide (zO b < 0) = !decide (0 ≤ zO b) := by
      by_cases h : zO b < 0
      · rw [decide_eq_true h, decide_eq_false (by omega)]; rfl
      · rw [decide_eq_false h, decide_eq_true (by omega)]; rfl
    simp only
    generalize yb ⟨zO a, zO b, 0, []⟩ = t1 at *
    generalize ye (zO a) (zO b + 1) 0 = t2 at *
    generalize zO a = ra at *
    generalize zO b = rb at *
    simp only [xj, yf, Ver.enc, List.map_cons, List.map_nil, bdV] at h1 v1 ⊢
    cases hd : decide (0 ≤ ra) <;> rw [hd] at e0 <;> simp only [Bool.not_true, Bool.not_false] at e0
    · have L : EV Tryz.prog pol (.loop 132 250 0 [.ptr 0 0 0, .t (.list 1 [[.str a], [.str b]]), .sl 1 0 2 (some 2), .t (.list 1 [[.str a], [.str b]]), .t (.int .i64 2), .t (.int .i64 0)] [.vs 2 [[.t (.str []), .t (.str [])]], .ts 1 [[.int .i64 0], [.int .i64 0]]])
          = some (.loop .ret [.ptr 0 0 0, .t (.bool false), .t (.list 1 [[.str a], [.str b]]), .sl 1 0 2 (some 2)] [.vs 2 [[.t (.str []), .t (.str [])]], .ts 1 [[.int .i64 ra], [.int .i64 0]]]) := by
        refine zz Tryz.func132 rfl rfl ?_
        simp (disch := ((try simp only [LL]); omega)) only [↓GO, ↓DRW, GA, ren, zB, zd, refs, zb, cst, zl, zH, z7, E.load, E.store, zG, isC, bin, zI, zJ, una, z8, za, zh, zK, blt, fnV, asArg, ze, zn, zo, zj, zi, zg, zk, zr, z6, zD, zF, E.mkS, zc, unN, zM, zm, zy, zC, zf, zN, zq, GS, simprocAttr, GZ, d1, e0, zx, zY]
      apply zu
      refine zw rfl Tryz.func132 rfl (by kernel_rfl) ?_
      unfold Tryz.f132
      simp (disch := ((try simp only [LL]); omega)) only [↓GO, ↓DRW, GA, ren, zB, zd, refs, zb, cst, zl, zH, z7, E.load, E.store, zG, isC, bin, zI, zJ, una, z8, za, zh, zK, blt, fnV, asArg, ze, zn, zo, zj, zi, zg, zk, zr, z6, zD, zF, E.mkS, zc, unN, zM, zm, zy, zC, zf, zN, zq, GS, simprocAttr, GZ, h1, L, zY]
    · cases he : decide (0 ≤ rb) <;> rw [he] at e1 <;> simp only [Bool.not_true, Bool.not_false] at e1
      · have L : EV Tryz.prog pol (.loop 132 250 0 [.ptr 0 0 0, .t (.list 1 [[.str a], [.str b]]), .sl 1 0 2 (some 2), .t (.list 1 [[.str a], [.str b]]), .t (.int .i64 2), .t (.int .i64 0)] [.vs 2 [[.t (.str []), .t (.str [])]], .ts 1 [[.int .i64 0], [.int .i64 0]]])
            = some (.loop .ret [.ptr 0 0 0, .t (.bool false), .t (.list 1 [[.str a], [.str b]]), .sl 1 0 2 (some 2)] [.vs 2 [[.t (.str []), .t (.str [])]], .ts 1 [[.int .i64 ra], [.int .i64 rb]]]) := by
          refine zz Tryz.func132 rfl rfl ?_
          simp (disch := ((try simp only [LL]); omega)) only [↓GO, ↓DRW, GA, ren, zB, zd, refs, zb, cst, zl, zH, z7, E.load, E.store, zG, isC, bin, zI, zJ, una, z8, za, zh, zK, blt, fnV, asArg, ze, zn, zo, zj, zi, zg, zk, zr, z6, zD, zF, E.mkS, zc, unN, zM, zm, zy, zC, zf, zN, zq, GS, simprocAttr, GZ, d1, e0, zx, zY, Int.reduceAdd]
          refine zz Tryz.func132 rfl rfl ?_
          simp (disch := ((try simp only [LL]); omega)) only [↓GO, ↓DRW, GA, ren, zB, zd, refs, zb, cst, zl, zH, z7, E.load, E.store, zG, isC, bin, zI, zJ, una, z8, za, zh, zK, blt, fnV, asArg, ze, zn, zo, zj, zi, zg, zk, zr, z6, zD, zF, E.mkS, zc, unN, zM, zm, zy, zC, zf, zN, zq, GS, simprocAttr, GZ, d2, e1, zx, zY]
        apply zu
        refine zw rfl Tryz.func132 rfl (by kernel_rfl) ?_
        unfold Tryz.f132
        simp (disch := ((try simp only [LL]); omega)) only [↓GO, ↓DRW, GA, ren, zB, zd, refs, zb, cst, zl, zH, z7, E.load, E.store, zG, isC, bin, zI, zJ, una, z8, za, zh, zK, blt, fnV, asArg, ze, zn, zo, zj, zi, zg, zk, zr, z6, zD, zF, E.mkS, zc, unN, zM, zm, zy, zC, zf, zN, zq, GS, simprocAttr, GZ, h1, L, zY]
      · have L : EV Tryz.prog pol (.loop 132 250 0 [.ptr 0 0 0, .t (.list 1 [[.str a], [.str b]]), .sl 1 0 2 (some 2), .t (.list 1 [[.str a], [.str b]]), .t (.int .i64 2), .t (.int .i64 0)] [.vs 2 [[.t (.str []), .t (.str [])]], .ts 1 [[.int .i64 0], [.int .i64 0]]])
            = some (.loop (.exit 0) [.ptr 0 0 0, .bad, .t (.list 1 [[.str a], [.str b]]), .sl 1 0 2 (some 2)] [.vs 2 [[.t (.str []), .t (.str [])]], .ts 1 [[.int .i64 ra], [.int .i64 rb]]]) := by
          refine zz Tryz.func132 rfl rfl ?_
          simp (disch := ((try simp only [LL]); omega)) only [↓GO, ↓DRW, GA, ren, zB, zd, refs, zb, cst, zl, zH, z7, E.load, E.store, zG, isC, bin, zI, zJ, una, z8, za, zh, zK, blt, fnV, asArg, ze, zn, zo, zj, zi, zg, zk, zr, z6, zD, zF, E.mkS, zc, unN, zM, zm, zy, zC, zf, zN, zq, GS, simprocAttr, GZ, d1, e0, zx, zY, Int.reduceAdd]
          refine zz Tryz.func132 rfl rfl ?_
          simp (disch := ((try simp only [LL]); omega)) only [↓GO, ↓DRW, GA, ren, zB, zd, refs, zb, cst, zl, zH, z7, E.load, E.store, zG, isC, bin, zI, zJ, una, z8, za, zh, zK, blt, fnV, asArg, ze, zn, zo, zj, zi, zg, zk, zr, z6, zD, zF, E.mkS, zc, unN, zM, zm, zy, zC, zf, zN, zq, GS, simprocAttr, GZ, d2, e1, zx, zY, Int.reduceAdd]
          refine zz Tryz.func132 rfl rfl ?_
          simp (disch := ((try simp only [LL]); omega)) only [↓GO, ↓DRW, GA, ren, zB, zd, refs, zb, cst, zl, zH, z7, E.load, E.store, zG, isC, bin, zI, zJ, una, z8, za, zh, zK, blt, fnV, asArg, ze, zn, zo, zj, zi, zg, zk, zr, z6, zD, zF, E.mkS, zc, unN, zM, zm, zy, zC, zf, zN, zq, GS, simprocAttr, GZ, zY]
        apply zu
        refine zw rfl Tryz.func132 rfl (by kernel_rfl) ?_
        unfold Tryz.f132
        simp (disch := ((try simp only [LL]); omega)) only [↓GO, ↓DRW, GA, ren, zB, zd, refs, zb, cst, zl, zH, z7, E.load, E.store, zG, isC, bin, zI, zJ, una, z8, za, zh, zK, blt, fnV, asArg, ze, zn, zo, zj, zi, zg, zk, zr, z6, zD, zF, E.mkS, zc, unN, zM, zm, zy, zC, zf, zN, zq, GS, simprocAttr, GZ, h1, L, v1, v2, zx, yf, zY]
        refine yT (by kernel_rfl) ?_
        simp (disch := ((try simp only [LL]); omega)) only [↓GO, ↓DRW, GA, ren, zB, zd, refs, zb, cst, zl, zH, z7, E.load, E.store, zG, isC, bin, zI, zJ, una, z8, za, zh, zK, blt, fnV, asArg, ze, zn, zo, zj, zi, zg, zk, zr, z6, zD, zF, E.mkS, zc, unN, zM, zm, zy, zC, zf, zN, zq, GS, simprocAttr, GZ, h1, L, v1, v2, zx, yf, zY]
  | a :: b :: c :: r =>
    rw [hp] at h1
    have hc : decide (((a :: b :: c :: r).length : Int) > 2) = true := by apply decide_eq_true; simp only [List.length_cons]; omega
    simp only [bdV]
    generalize a :: b :: c :: r = ps at *
    apply zu
    refine zw rfl Tryz.func132 rfl (by kernel_rfl) ?_
    unfold Tryz.f132
    simp (disch := ((try simp only [LL]); omega)) only [↓GO, ↓DRW, GA, ren, zB, zd, refs, zb, cst, zl, zH, z7, E.load, E.store, zG, isC, bin, zI, zJ, una, z8, za, zh, zK, blt, fnV, asArg, ze, zn, zo, zj, zi, zg, zk, zr, z6, zD, zF, E.mkS, zc, unN, zM, zm, zy, zC, zf, zN, zq, GS, simprocAttr, GZ, h1, hc, zP, zY]
theorem ZC (s p : Str) (hs : s.length ≤ 9223372036854775807) (hp : p.length ≤ 9223372036854775807) : zE (EV Tryz.prog pol) 160 [.t (.str s), .t (.str p)] = some (.tup [.t (.str (cond (p.isPrefixOf s) (s.drop p.length) s)), .t (.bool (p.isPrefixOf s))]) := by
  have h := po s p hs hp
  cases hb : p.isPrefixOf s with
  | false =>
    rw [hb] at h
    apply zu
    refine zw rfl Tryz.func160 rfl (by kernel_rfl) ?_
    unfold Tryz.f160
    simp (disch := ((try simp only [LL]); omega)) only [↓GO, ↓DRW, GA, ren, zB, zd, refs, zb, cst, zl, zH, z7, E.load, E.store, zG, isC, bin, zI, zJ, una, z8, za, zh, zK, blt, fnV, asArg, ze, zn, zo, zj, zi, zg, zk, zr, z6, zD, zF, E.mkS, zc, unN, zM, zm, zy, zC, zf, zN, zq, GS, simprocAttr, GZ, h]
  | true =>
    have h2 := mi hb
    rw [hb] at h
    apply zu
    refine zw rfl Tryz.func160 rfl (by kernel_rfl) ?_
    unfold Tryz.f160
    simp (disch := ((try simp only [LL]); omega)) only [↓GO, ↓DRW, GA, ren, zB, zd, refs, zb, cst, zl, zH, z7, E.load, E.store, zG, isC, bin, zI, zJ, una, z8, za, zh, zK, blt, fnV, asArg, ze, zn, zo, zj, zi, zg, zk, zr, z6, zD, zF, E.mkS, zc, unN, zM, zm, zy, zC, zf, zN, zq, GS, simprocAttr, GZ, h]
theorem en (s p : Str) (hs : s.length ≤ 9223372036854775807) (hp : p.length ≤ 9223372036854775807) : zE (EV Tryz.prog pol) 128 [.t (.str s), .t (.str p)] = some (.tup [.t (.str (cond (p.isPrefixOf s) (s.drop p.length) s)), .t (.bool (p.isPrefixOf s))]) := by
  have h := ZC s p hs hp
  apply zu
  refine zw rfl Tryz.func128 rfl (by kernel_rfl) ?_
  unfold Tryz.f128
  simp (disch := ((try simp only [LL]); omega)) only [↓GO, ↓DRW, GA, ren, zB, zd, refs, zb, cst, zl, zH, z7, E.load, E.store, zG, isC, bin, zI, zJ, una, z8, za, zh, zK, blt, fnV, asArg, ze, zn, zo, zj, zi, zg, zk, zr, z6, zD, zF, E.mkS, zc, unN, zM, zm, zy, zC, zf, zN, zq, GS, simprocAttr, GZ, h]
theorem Xi (s : Str) : (xh s).1.length ≤ s.length ∧ (xh s).2.1.length ≤ s.length := by
  have h := congrArg List.length (jB s)
  rw [List.length_append] at h
  cases hc : (xh s).2.2 with
  | true => rw [hc] at h; simp only [cond_true, List.length_cons] at h; omega
  | false =>
    have : (xh s).2.1 = [] := by
      have key : ∀ s : Str, (xh s).2.2 = false → (xh s).2.1 = [] := fun s => by
        induction s with
        | nil => intro _; rfl
        | cons x r ih =>
          intro h
          rw [xh] at h ⊢
          split at h
          · cases h
          · rename_i hx; rw [if_neg hx]; exact ih h
      exact key s hc
    rw [this]; rw [hc] at h; simp only [cond_false, List.length_nil] at h ⊢; omega
theorem XD (s : Str) (hl : s.length ≤ 1048600) : zE (EV Tryz.prog pol) 96 [.t (.str s)] = some (.tup [bdV (xC s).1, .t (.bool (xC s).2)]) := by
  unfold xC
  cases h42 : (s == [42]) with
  | true =>
    simp only [cond_true, bdV]
    apply zu
    refine zw rfl Tryz.func96 rfl (by kernel_rfl) ?_
    unfold Tryz.f96
    simp (disch := ((try simp only [LL]); omega)) only [↓GO, ↓DRW, GA, ren, zB, zd, refs, zb, cst, zl, zH, z7, E.load, E.store, zG, isC, bin, zI, zJ, una, z8, za, zh, zK, blt, fnV, asArg, ze, zn, zo, zj, zi, zg, zk, zr, z6, zD, zF, E.mkS, zc, unN, zM, zm, zy, zC, zf, zN, zq, GS, simprocAttr, GZ, h42]
  | false =>
    have hrv := oA s (by omega)
    obtain ⟨m1, m2, m3, m4, m5, m6, m7⟩ := yW s (by omega)
    have hpr := pI s (by omega)
    unfold rvT at hrv
    have hisv : (zA s).2 = isV s := rfl
    rw [hisv] at hrv
    simp only [cond_false]
    cases hv : isV s with
    | true =>
      have hal := aG (zA s).1 m1 (by omega) m7 m6
      rw [(yu (s := s) hv).2.1] at hal
      rw [hv] at hrv
      simp only [cond_true, bdV]
      generalize uJ (zA s).1 = hi at *
      generalize (zA s).1 = v at *
      simp only [Ver.enc, List.map_cons, List.map_nil] at hrv hal ⊢
      apply zu
      refine zw rfl Tryz.func96 rfl (by kernel_rfl) ?_
      unfold Tryz.f96
      simp (disch := ((try simp only [LL]); omega)) only [↓GO, ↓DRW, GA, ren, zB, zd, refs, zb, cst, zl, zH, z7, E.load, E.store, zG, isC, bin, zI, zJ, una, z8, za, zh, zK, blt, fnV, asArg, ze, zn, zo, zj, zi, zg, zk, zr, z6, zD, zF, E.mkS, zc, unN, zM, zm, zy, zC, zf, zN, zq, GS, simprocAttr, GZ, h42, hrv, hal]
    | false =>
      have hc1 := en s [62, 61] (by omega) (by simp)
      have hc2 := en s [60] (by omega) (by simp)
      have hc3 := Tx (s.drop 2) [32, 60] (by rw [List.length_drop]; omega)
      have hcl := Xi (s.drop 2)
      rw [List.length_drop] at hcl
      have hi1 := qH (xh (s.drop 2)).1 (by omega)
      have hi2 := qH (xh (s.drop 2)).2.1 (by omega)
      rw [fY] at hc3
      have hi3 := qH (s.drop 1) (by rw [List.length_drop]; omega)
      have hpt := Zz s (by omega)
      rw [hv] at hrv
      rw [show (([62, 61] : Str).isPrefixOf s) = geP s from rfl, show (([62, 61] : Str).length) = 2 from rfl] at hc1
      rw [show (([60] : Str).isPrefixOf s) = ltP s from rfl, show (([60] : Str).length) = 1 from rfl] at hc2
      generalize (zA s).1 = v at *
      simp only [Ver.enc, List.map_cons, List.map_nil] at hrv
      simp only [cond_false]
      cases hg : geP s with
      | true =>
        rw [hg] at hc1
        simp only [cond_true] at hc1 ⊢
        generalize isV (xh (s.drop 2)).1 = b1 at *
        generalize isV (xh (s.drop 2)).2.1 = b2 at *
        generalize (xh (s.drop 2)).1 = c1 at *
        generalize (xh (s.drop 2)).2.1 = c2 at *
        generalize (xh (s.drop 2)).2.2 = b3 at *
        simp only [bdV]
        cases b1 <;> cases b3 <;> cases b2
        all_goals
          apply zu
          refine zw rfl Tryz.func96 rfl (by kernel_rfl) ?_
          unfold Tryz.f96
          simp (disch := ((try simp only [LL]); omega)) only [↓GO, ↓DRW, GA, ren, zB, zd, refs, zb, cst, zl, zH, z7, E.load, E.store, zG, isC, bin, zI, zJ, una, z8, za, zh, zK, blt, fnV, asArg, ze, zn, zo, zj, zi, zg, zk, zr, z6, zD, zF, E.mkS, zc, unN, zM, zm, zy, zC, zf, zN, zq, GS, simprocAttr, GZ, h42, hrv, hc1, hc3, hi1, hi2]
      | false =>
        rw [hg] at hc1
        simp only [cond_false] at hc1 ⊢
        cases hlp : ltP s with
        | true =>
          rw [hlp] at hc2
          simp only [cond_true] at hc2 ⊢
          generalize isV (s.drop 1) = b1 at *
          simp only [bdV]
          apply zu
          refine zw rfl Tryz.func96 rfl (by kernel_rfl) ?_
          unfold Tryz.f96
          simp (disch := ((try simp only [LL]); omega)) only [↓GO, ↓DRW, GA, ren, zB, zd, refs, zb, cst, zl, zH, z7, E.load, E.store, zG, isC, bin, zI, zJ, una, z8, za, zh, zK, blt, fnV, asArg, ze, zn, zo, zj, zi, zg, zk, zr, z6, zD, zF, E.mkS, zc, unN, zM, zm, zy, zC, zf, zN, zq, GS, simprocAttr, GZ, h42, hrv, hc1, hc2, hi3]
        | false =>
          rw [hlp] at hc2
          simp only [cond_false] at hc2 ⊢
          cases s with
          | nil =>
            simp only [hdB, Bool.or_false, cond_false]
            generalize wc [] = pp at *
            simp only [bdV] at hpt ⊢
            have hn : (([] : Str) == []) = true := rfl
            apply zu
            refine zw rfl Tryz.func96 rfl (by kernel_rfl) ?_
            unfold Tryz.f96
            simp (disch := ((try simp only [LL]); omega)) only [↓GO, ↓DRW, GA, ren, zB, zd, refs, zb, cst, zl, zH, z7, E.load, E.store, zG, isC, bin, zI, zJ, una, z8, za, zh, zK, blt, fnV, asArg, ze, zn, zo, zj, zi, zg, zk, zr, z6, zD, zF, E.mkS, zc, unN, zM, zm, zy, zC, zf, zN, zq, GS, simprocAttr, GZ, h42, hrv, hc1, hc2, hn, bne, hpt]
          | cons x r =>
            have hn : ((x :: r) == []) = false := rfl
            have hg0 : (x :: r)[0]? = some x := rfl
            have hdr : (x :: r).drop 1 = r := rfl
            have hxl : 1 ≤ (x :: r).length := by simp
            have h94 : ((x.toNat : Int) == 94) = (x == 94) := by
              rw [Bool.eq_iff_iff]; simp only [beq_iff_eq]
              constructor
              · intro h; exact UInt8.toNat_inj.1 (by rw [show (94 : UInt8).toNat = 94 from rfl]; omega)
              · intro h; rw [h]; rfl
            have h126 : ((x.toNat : Int) == 126) = (x == 126) := by
              rw [Bool.eq_iff_iff]; simp only [beq_iff_eq]
              constructor
              · intro h; exact UInt8.toNat_inj.1 (by rw [show (126 : UInt8).toNat = 126 from rfl]; omega)
              · intro h; rw [h]; rfl
            have hrr := oA r (by simp only [List.length_cons] at hl; omega)
            obtain ⟨n1, n2, n3, n4, n5, n6, n7⟩ := yW r (by simp only [List.length_cons] at hl; omega)
            have z1 := mT (zA r).1.maj ((zA r).1.min + 1) 0
            have z2 := mT ((zA r).1.maj + 1) 0 0
            have z3 := mT 0 0 ((zA r).1.pat + 1)
            unfold rvT at hrr
            rw [show (zA r).2 = isV r from rfl] at hrr
            unfold Vx
            rw [hdr]
            simp only [hdB]
            clear hi3 hc3 hi1 hi2 hcl
            generalize x :: r = xr at *
            generalize isV r = b1 at *
            unfold pA
            generalize (zA r).1 = w at *
            generalize ye w.maj (w.min + 1) 0 = t1 at *
            generalize ye (w.maj + 1) 0 0 = t2 at *
            generalize ye 0 0 (w.pat + 1) = t3 at *
            generalize wc xr = pp at *
            simp only [Ver.enc, List.map_cons, List.map_nil, bdV] at hrr hpt ⊢
            cases e1 : (x == 94) <;> rw [e1] at h94
            · cases e2 : (x == 126) <;> rw [e2] at h126
              · apply zu
                refine zw rfl Tryz.func96 rfl (by kernel_rfl) ?_
                unfold Tryz.f96
                simp (disch := ((try simp only [LL]); omega)) only [↓GO, ↓DRW, GA, ren, zB, zd, refs, zb, cst, zl, zH, z7, E.load, E.store, zG, isC, bin, zI, zJ, una, z8, za, zh, zK, blt, fnV, asArg, ze, zn, zo, zj, zi, zg, zk, zr, z6, zD, zF, E.mkS, zc, unN, zM, zm, zy, zC, zf, zN, zq, GS, simprocAttr, GZ, h42, hrv, hc1, hc2, hn, bne, hg0, h94, h126, hpt]
              · apply zu
                refine zw rfl Tryz.func96 rfl (by kernel_rfl) ?_
                unfold Tryz.f96
                simp (disch := ((try simp only [LL]); omega)) only [↓GO, ↓DRW, GA, ren, zB, zd, refs, zb, cst, zl, zH, z7, E.load, E.store, zG, isC, bin, zI, zJ, una, z8, za, zh, zK, blt, fnV, asArg, ze, zn, zo, zj, zi, zg, zk, zr, z6, zD, zF, E.mkS, zc, unN, zM, zm, zy, zC, zf, zN, zq, GS, simprocAttr, GZ, h42, hrv, hc1, hc2, hn, bne, hg0, h94, h126, hdr, hrr, z1, zx]
            · cases e3 : decide (w.maj > 0)
              · cases e4 : (w.min == 0)
                all_goals
                  apply zu
                  refine zw rfl Tryz.func96 rfl (by kernel_rfl) ?_
                  unfold Tryz.f96
                  simp (disch := ((try simp only [LL]); omega)) only [↓GO, ↓DRW, GA, ren, zB, zd, refs, zb, cst, zl, zH, z7, E.load, E.store, zG, isC, bin, zI, zJ, una, z8, za, zh, zK, blt, fnV, asArg, ze, zn, zo, zj, zi, zg, zk, zr, z6, zD, zF, E.mkS, zc, unN, zM, zm, zy, zC, zf, zN, zq, GS, simprocAttr, GZ, h42, hrv, hc1, hc2, hn, bne, hg0, h94, hdr, hrr, z1, z2, z3, e3, e4, zx]
              · apply zu
                refine zw rfl Tryz.func96 rfl (by kernel_rfl) ?_
                unfold Tryz.f96
                simp (disch := ((try simp only [LL]); omega)) only [↓GO, ↓DRW, GA, ren, zB, zd, refs, zb, cst, zl, zH, z7, E.load, E.store, zG, isC, bin, zI, zJ, una, z8, za, zh, zK, blt, fnV, asArg, ze, zn, zo, zj, zi, zg, zk, zr, z6, zD, zF, E.mkS, zc, unN, zM, zm, zy, zC, zf, zN, zq, GS, simprocAttr, GZ, h42, hrv, hc1, hc2, hn, bne, hg0, h94, hdr, hrr, z1, z2, z3, e3, zx]
end Go.Proofs.YtmcephnfcciloaaGreatDoor
/- Ranges, by the implementation: the whole. Conditions: those of each lemma. -/
namespace Go.Proofs.YtmcephnfcciloaaGreatDoor
open E
set_option linter.unusedSimpArgs false
set_option linter.unusedVariables false
set_option maxRecDepth 100000
theorem gz : ∀ l : List Str, (l.all fun p => wm p) = true → yk l ≤ 20 * l.length
  | [], _ => by simp [yk]
  | p :: l, h => by
    simp only [List.all_cons, Bool.and_eq_true] at h
    have ih := gz l h.2
    have h1 := h.1
    unfold wm B2 at h1
    simp only [Bool.and_eq_true, decide_eq_true_eq] at h1
    have := h1.1.2
    simp only [yk, List.length_cons]
    omega
theorem mX {v : Ver} (h : yv v = true) : (yb v).length ≤ 140 := by
  obtain ⟨_, _, _, h4, h5⟩ := w6 h
  have h6 := gz v.pre h4
  have h7 := ee h
  have h8 := lk (ve v) v.pre
  unfold yb
  rw [h, cond_true]
  omega
theorem Zi {s : Str} (h : isV s = true) : s.length ≤ 140 := by
  obtain ⟨_, ht, ho, _⟩ := yu h
  have := mX ho
  rwa [ht] at this
theorem lZ {s : Str} (h : isE s = true) : s.length ≤ 140 := by
  unfold isE at h
  rw [Bool.or_eq_true] at h
  rcases h with h | h
  · exact Zi h
  · rw [eq_of_beq h]; simp
theorem nT {ps : List Str} {l : List Bd} (h : vP ps = some l) : ∀ b ∈ l, b.1.length ≤ 140 ∧ b.2.length ≤ 140 := fun b hb => by
  have h1 := (sJ ps l h).1
  rw [List.all_eq_true] at h1
  have h2 := h1 b hb
  rw [Bool.and_eq_true] at h2
  exact ⟨lZ h2.1, lZ h2.2⟩
theorem aY (s sep : Str) : sb s sep = Lib.split s sep := by
  unfold sb Lib.split Lib.countB
  rw [Lib.splitB_data]
/-- what a reading of ranges gives -/
def rrT : Option (List Bd) → V
  | some l => .tup [.t (.list 2 (bdT l)), .t (.bool true)]
  | none => .tup [.t (.list 2 []), .t (.bool false)]
/-- how the loop ends -/
def ou (ps : List Str) (acc : List Bd) (cap : Option Nat) (x : List Bd) : Option (List Bd) → xP
  | some bs => .loop (.exit 0) [.bad, .bad, .sl 0 0 (acc.length + bs.length) cap] [.ts 2 (bdT (acc ++ bs))]
  | none => .loop .ret [.nil 2, .t (.bool false), .sl 0 0 x.length cap] [.ts 2 (bdT x)]
set_option maxHeartbeats 4000000 in
theorem Tj (ps : List Str) (hl : ps.length ≤ 1048576) (hb : ∀ p ∈ ps, p.length ≤ 1048576) : ∀ (rest pre : List Str) (acc : List Bd) (cap : Option Nat) (m : Nat), ps = pre ++ rest → m = acc.length → acc.length = pre.length →
    ∃ cap' x, EV Tryz.prog pol (.loop 64 122 0 [.sl 0 0 m cap, .t (.list 1 (y6 ps)), .t (.int .i64 (ps.length : Int)), .t (.int .i64 (pre.length : Int))] [.ts 2 (bdT acc)]) = some (ou ps acc cap' x (vP rest))
  | [], pre, acc, cap, m, hs, hm, ha => by
    have c : decide ((pre.length : Int) < (ps.length : Int)) = false := by simp [hs]
    refine ⟨cap, [], ?_⟩
    simp only [vP, ou, List.append_nil, List.length_nil, Nat.add_zero]
    subst hm
    refine zz Tryz.func64 rfl rfl ?_
    simp (disch := ((try simp only [LL]); omega)) only [↓GO, ↓DRW, GA, ren, zB, zd, refs, zb, cst, zl, zH, z7, E.load, E.store, zG, isC, bin, zI, zJ, una, z8, za, zh, zK, blt, fnV, asArg, ze, zn, zo, zj, zi, zg, zk, zr, z6, zD, zF, E.mkS, zc, unN, zM, zm, zy, zC, zf, zN, zq, GS, simprocAttr, GZ, c, zY]
  | p :: rest, pre, acc, cap, m, hs, hm, ha => by
    have c : decide ((pre.length : Int) < (ps.length : Int)) = true := by simp [hs]; omega
    have hget : (y6 ps)[pre.length]? = some [.str p] := by rw [hs]; exact wB (fun s : Str => [T.str s]) pre p rest
    have hlen : pre.length + rest.length + 1 ≤ ps.length := by rw [hs]; simp; omega
    have hpb := hb p (by rw [hs]; simp)
    have hB := XD p (by omega)
    have h1 := mF p [60] (by omega) (by simp)
    have h2 := mF p [62, 61] (by omega) (by simp)
    rw [show ([60] : Str).isPrefixOf p = ltP p from rfl] at h1
    rw [show ([62, 61] : Str).isPrefixOf p = geP p from rfl] at h2
    have hchk := Xl p
    unfold tC sM at hchk
    have IHs := fun b => Tj ps hl hb rest (pre ++ [p]) (acc ++ [b]) none (m + 1) (by rw [hs]; simp) (by simp [hm]) (by simp [ha])
    rw [show ((pre ++ [p]).length : Int) = (pre.length : Int) + 1 by simp] at IHs
    have hol : (bdT acc).length = m := by rw [xO, hm]
    have hml : m ≤ 1048578 := by omega
    have hm0 := hm
    clear hs hb
    simp only [vP]
    rw [← hchk]
    clear hchk
    generalize xC p = bb at *
    obtain ⟨⟨lo, hi⟩, ok⟩ := bb
    simp only [bdV] at hB
    simp only
    cases h3 : (p == [42]) <;> cases h4 : ltP p <;> rw [h4] at h1 <;> cases h5 : geP p <;> rw [h5] at h2 <;> cases ok <;> cases e1 : (lo == []) <;> cases e2 : (hi == []) <;>
      simp only [Bool.or_true, Bool.true_or, Bool.or_false, Bool.false_or, Bool.not_true, Bool.not_false, Bool.and_true, Bool.true_and, Bool.and_false, Bool.false_and, cond_true, cond_false]
    all_goals first
      | (refine ⟨cap, acc, ?_⟩
         unfold ou
         rw [hm]
         refine zz Tryz.func64 rfl rfl ?_
         simp (disch := ((try simp only [LL]); omega)) only [↓GO, ↓DRW, GA, ren, zB, zd, refs, zb, cst, zl, zH, z7, E.load, E.store, zG, isC, bin, zI, zJ, una, z8, za, zh, zK, blt, fnV, asArg, ze, zn, zo, zj, zi, zg, zk, zr, z6, zD, zF, E.mkS, zc, unN, zM, zm, zy, zC, zf, zN, zq, GS, simprocAttr, GZ, c, hget, hB, h1, h2, h3, e1, e2, zx, hol, zY, wh]
         done)
      | (obtain ⟨cap', x, IH⟩ := IHs (lo, hi)
         refine ⟨cap', x, ?_⟩
         rw [aI, show bdT [(lo, hi)] = [[T.str lo, T.str hi]] from rfl] at IH
         rw [show ou ps (acc ++ [(lo, hi)]) cap' x (vP rest) = ou ps acc cap' x (match vP rest with | some bs => some ((lo, hi) :: bs) | none => none) by
           cases vP rest with
           | none => rfl
           | some bs => simp only [ou]; rw [List.append_assoc]; simp only [List.length_append, List.length_cons, List.length_nil, List.cons_append, List.nil_append]; rw [show acc.length + (0 + 1) + bs.length = acc.length + (bs.length + 1) by omega]] at IH
         refine zz Tryz.func64 rfl rfl ?_
         simp (disch := ((try simp only [LL]); omega)) only [↓GO, ↓DRW, GA, ren, zB, zd, refs, zb, cst, zl, zH, z7, E.load, E.store, zG, isC, bin, zI, zJ, una, z8, za, zh, zK, blt, fnV, asArg, ze, zn, zo, zj, zi, zg, zk, zr, z6, zD, zF, E.mkS, zc, unN, zM, zm, zy, zC, zf, zN, zq, GS, simprocAttr, GZ, c, hget, hB, h1, h2, h3, e1, e2, zx, hol, IH, zY, wh]
         try (cases vP rest <;> rfl))
theorem Tv (s : Str) (hl : s.length ≤ 1048576) : zE (EV Tryz.prog pol) 64 [.t (.str s)] = some (rrT (jM s)) := by
  unfold jM
  cases h200 : decide ((s.length : Int) > 200) with
  | true =>
    simp only [cond_true, rrT]
    apply zu
    refine zw rfl Tryz.func64 rfl (by kernel_rfl) ?_
    unfold Tryz.f64
    simp (disch := ((try simp only [LL]); omega)) only [↓GO, ↓DRW, GA, ren, zB, zd, refs, zb, cst, zl, zH, z7, E.load, E.store, zG, isC, bin, zI, zJ, una, z8, za, zh, zK, blt, fnV, asArg, ze, zn, zo, zj, zi, zg, zk, zr, z6, zD, zF, E.mkS, zc, unN, zM, zm, zy, zC, zf, zN, zq, GS, simprocAttr, GZ, h200]
  | false =>
    have h2 := of_decide_eq_false h200
    have h1 := qG s [32, 124, 124, 32] (by omega) (by simp)
    have hsp : sb s [32, 124, 124, 32] = yV 0 s := by
      rw [aY]; exact rl s.length s (Nat.le_refl _)
    rw [hsp] at h1
    have hbk := uk 0 s
    have hmem : ∀ p ∈ yV 0 s, p.length ≤ 1048576 := fun p hp => by have := xX hp; omega
    simp only [cond_false]
    generalize yV 0 s = ps at *
    obtain ⟨cap, x, L⟩ := Tj ps (by omega) hmem ps [] [] (some 0) 0 rfl rfl rfl
    rw [show bdT [] = [] from rfl] at L
    simp only [List.length_nil, Int.natCast_zero] at L
    cases ha : vP ps with
    | none =>
      rw [ha] at L
      simp only [ou, rrT] at L ⊢
      apply zu
      refine zw rfl Tryz.func64 rfl (by kernel_rfl) ?_
      unfold Tryz.f64
      simp (disch := ((try simp only [LL]); omega)) only [↓GO, ↓DRW, GA, ren, zB, zd, refs, zb, cst, zl, zH, z7, E.load, E.store, zG, isC, bin, zI, zJ, una, z8, za, zh, zK, blt, fnV, asArg, ze, zn, zo, zj, zi, zg, zk, zr, z6, zD, zF, E.mkS, zc, unN, zM, zm, zy, zC, zf, zN, zq, GS, simprocAttr, GZ, h200, h1, L, zP, zY]
    | some l =>
      have hsh := nT ha
      have hll := (sJ ps l ha).2
      rw [ha] at L
      simp only [ou, List.nil_append, List.length_nil, Nat.zero_add] at L ⊢
      have hr := Vp l (by omega) (fun b hb => by have := hsh b hb; omega)
      have ht : (bdT l).take l.length = bdT l := List.take_of_length_le (by rw [xO]; omega)
      cases hk : xk l <;> rw [hk] at hr <;> simp only [cond_true, cond_false, rrT]
      all_goals
        apply zu
        refine zw rfl Tryz.func64 rfl (by kernel_rfl) ?_
        unfold Tryz.f64
        simp (disch := ((try simp only [LL]); omega)) only [↓GO, ↓DRW, GA, ren, zB, zd, refs, zb, cst, zl, zH, z7, E.load, E.store, zG, isC, bin, zI, zJ, una, z8, za, zh, zK, blt, fnV, asArg, ze, zn, zo, zj, zi, zg, zk, zr, z6, zD, zF, E.mkS, zc, unN, zM, zm, zy, zC, zf, zN, zq, GS, simprocAttr, GZ, h200, h1, L, zP, hr, ht, xO, zY]
end Go.Proofs.YtmcephnfcciloaaGreatDoor

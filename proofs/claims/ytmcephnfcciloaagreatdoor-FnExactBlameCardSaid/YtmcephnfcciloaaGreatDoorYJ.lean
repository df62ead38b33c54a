/- Joined: K5 K6 G3 V5 V6 V7 I1 V3 K13 K14. Conditions: those of each lemma. -/
import Derived.Test.YtmcephnfcciloaaGreatDoorYI
import Derived.Test.YtmcephnfcciloaaGreatDoorYH
set_option linter.unusedVariables false
set_option linter.unusedSimpArgs false
namespace Go.Proofs.YtmcephnfcciloaaGreatDoor
open E
set_option linter.unusedSimpArgs false
set_option linter.unusedVariables false
set_option maxRecDepth 100000
theorem oe (a b : Int) : zC (EV Tryz.prog pol) 154 [.t (.int .i64 a), .t (.int .i64 b)] = some (.t (.int .i64 (xb a b))) := by
  unfold xb
  cases h1 : decide (a < b) <;> cases h2 : decide (a > b)
  all_goals
    apply zw
    refine zy rfl Tryz.func154 rfl (by kernel_rfl) ?_
    unfold Tryz.f154
    simp (disch := ((try simp only [LL]); omega)) only [↓GO, ↓DRW, GA, ren, zA, zd, refs, zb, cst, zl, zG, z7, E.load, E.store, zF, isC, bin, zH, zI, una, z8, za, zh, zJ, blt, fnV, asArg, ze, zn, zo, zj, zi, zg, zk, zr, z6, zD, zE, E.mkS, zc, unN, zK, zm, zz, zB, zf, zL, zq, GS, simprocAttr, GZ, h1, h2]
theorem Sh (a b : Str) : zC (EV Tryz.prog pol) 176 [.t (.str a), .t (.str b)] = some (.t (.int .i64 (mI a b))) := by
  unfold mI
  cases h1 : Op.bytesLess a b <;> cases h2 : (a == b)
  all_goals
    apply zw
    refine zy rfl Tryz.func176 rfl (by kernel_rfl) ?_
    unfold Tryz.f176
    simp (disch := ((try simp only [LL]); omega)) only [↓GO, ↓DRW, GA, ren, zA, zd, refs, zb, cst, zl, zG, z7, E.load, E.store, zF, isC, bin, zH, zI, una, z8, za, zh, zJ, blt, fnV, asArg, ze, zn, zo, zj, zi, zg, zk, zr, z6, zD, zE, E.mkS, zc, unN, zK, zm, zz, zB, zf, zL, zq, GS, simprocAttr, GZ, h1, h2]
theorem RN (a b : Str) (ha : a.length ≤ 4194304) (hb : b.length ≤ 4194304) : zC (EV Tryz.prog pol) 155 [.t (.str a), .t (.str b)] = some (.t (.int .i64 (ZC a b))) := by
  have d1 := jX a (by omega)
  have d2 := jX b (by omega)
  have d3 := oe (zP a) (zP b)
  have d4 := Sh a b
  unfold ZC
  generalize zP a = ra at *
  generalize zP b = rb at *
  cases h1 : decide (ra ≥ 0) <;> cases h2 : decide (rb ≥ 0)
  all_goals
    apply zw
    refine zy rfl Tryz.func155 rfl (by kernel_rfl) ?_
    unfold Tryz.f155
    simp (disch := ((try simp only [LL]); omega)) only [↓GO, ↓DRW, GA, ren, zA, zd, refs, zb, cst, zl, zG, z7, E.load, E.store, zF, isC, bin, zH, zI, una, z8, za, zh, zJ, blt, fnV, asArg, ze, zn, zo, zj, zi, zg, zk, zr, z6, zD, zE, E.mkS, zc, unN, zK, zm, zz, zB, zf, zL, zq, GS, simprocAttr, GZ, d1, d2, d3, d4, h1, h2]
theorem Rv (x1 x2 x3 x4 y1 y2 y3 y4 : T) (a b c : Int) :
    EV Tryz.prog pol (.loop 117 58 0 [.ptr 0 0 0, .ptr 1 0 0, .sl 2 0 3 (some 3), .t (.int .i64 0)] [.vs 4 [[.t x1, .t x2, .t x3, .t x4]], .vs 4 [[.t y1, .t y2, .t y3, .t y4]], .ts 1 [[.int .i64 a], [.int .i64 b], [.int .i64 c]]])
    = some (cond (a == 0) (cond (b == 0) (cond (c == 0) (.loop (.exit 0) [.ptr 0 0 0, .ptr 1 0 0, .bad] [.vs 4 [[.t x1, .t x2, .t x3, .t x4]], .vs 4 [[.t y1, .t y2, .t y3, .t y4]]])
      (.loop .ret [.ptr 0 0 0, .ptr 1 0 0, .t (.int .i64 c)] [.vs 4 [[.t x1, .t x2, .t x3, .t x4]], .vs 4 [[.t y1, .t y2, .t y3, .t y4]]]))
      (.loop .ret [.ptr 0 0 0, .ptr 1 0 0, .t (.int .i64 b)] [.vs 4 [[.t x1, .t x2, .t x3, .t x4]], .vs 4 [[.t y1, .t y2, .t y3, .t y4]]]))
      (.loop .ret [.ptr 0 0 0, .ptr 1 0 0, .t (.int .i64 a)] [.vs 4 [[.t x1, .t x2, .t x3, .t x4]], .vs 4 [[.t y1, .t y2, .t y3, .t y4]]])) := by
  cases h1 : (a == 0)
  · refine zu Tryz.func117 rfl rfl ?_
    simp (disch := ((try simp only [LL]); omega)) only [↓GO, ↓DRW, GA, ren, zA, zd, refs, zb, cst, zl, zG, z7, E.load, E.store, zF, isC, bin, zH, zI, una, z8, za, zh, zJ, blt, fnV, asArg, ze, zn, zo, zj, zi, zg, zk, zr, z6, zD, zE, E.mkS, zc, unN, zK, zm, zz, zB, zf, zL, zq, GS, simprocAttr, GZ, h1, bne, zx, zZ]
  · refine zu Tryz.func117 rfl rfl ?_
    simp (disch := ((try simp only [LL]); omega)) only [↓GO, ↓DRW, GA, ren, zA, zd, refs, zb, cst, zl, zG, z7, E.load, E.store, zF, isC, bin, zH, zI, una, z8, za, zh, zJ, blt, fnV, asArg, ze, zn, zo, zj, zi, zg, zk, zr, z6, zD, zE, E.mkS, zc, unN, zK, zm, zz, zB, zf, zL, zq, GS, simprocAttr, GZ, h1, bne, zx, zZ, Int.zero_add]
    cases h2 : (b == 0)
    · refine zu Tryz.func117 rfl rfl ?_
      simp (disch := ((try simp only [LL]); omega)) only [↓GO, ↓DRW, GA, ren, zA, zd, refs, zb, cst, zl, zG, z7, E.load, E.store, zF, isC, bin, zH, zI, una, z8, za, zh, zJ, blt, fnV, asArg, ze, zn, zo, zj, zi, zg, zk, zr, z6, zD, zE, E.mkS, zc, unN, zK, zm, zz, zB, zf, zL, zq, GS, simprocAttr, GZ, h2, bne, zx, zZ]
    · refine zu Tryz.func117 rfl rfl ?_
      simp (disch := ((try simp only [LL]); omega)) only [↓GO, ↓DRW, GA, ren, zA, zd, refs, zb, cst, zl, zG, z7, E.load, E.store, zF, isC, bin, zH, zI, una, z8, za, zh, zJ, blt, fnV, asArg, ze, zn, zo, zj, zi, zg, zk, zr, z6, zD, zE, E.mkS, zc, unN, zK, zm, zz, zB, zf, zL, zq, GS, simprocAttr, GZ, h2, bne, zx, zZ, Int.reduceAdd]
      cases h3 : (c == 0)
      · refine zu Tryz.func117 rfl rfl ?_
        simp (disch := ((try simp only [LL]); omega)) only [↓GO, ↓DRW, GA, ren, zA, zd, refs, zb, cst, zl, zG, z7, E.load, E.store, zF, isC, bin, zH, zI, una, z8, za, zh, zJ, blt, fnV, asArg, ze, zn, zo, zj, zi, zg, zk, zr, z6, zD, zE, E.mkS, zc, unN, zK, zm, zz, zB, zf, zL, zq, GS, simprocAttr, GZ, h3, bne, zx, zZ]
      · refine zu Tryz.func117 rfl rfl ?_
        simp (disch := ((try simp only [LL]); omega)) only [↓GO, ↓DRW, GA, ren, zA, zd, refs, zb, cst, zl, zG, z7, E.load, E.store, zF, isC, bin, zH, zI, una, z8, za, zh, zJ, blt, fnV, asArg, ze, zn, zo, zj, zi, zg, zk, zr, z6, zD, zE, E.mkS, zc, unN, zK, zm, zz, zB, zf, zL, zq, GS, simprocAttr, GZ, h3, bne, zx, zZ, Int.reduceAdd]
        refine zu Tryz.func117 rfl rfl ?_
        simp (disch := ((try simp only [LL]); omega)) only [↓GO, ↓DRW, GA, ren, zA, zd, refs, zb, cst, zl, zG, z7, E.load, E.store, zF, isC, bin, zH, zI, una, z8, za, zh, zJ, blt, fnV, asArg, ze, zn, zo, zj, zi, zg, zk, zr, z6, zD, zE, E.mkS, zc, unN, zK, zm, zz, zB, zf, zL, zq, GS, simprocAttr, GZ, zx, zZ]
theorem UI (a b : Ver) (ha : a.sm) (hb : b.sm) : ∀ (ra rb pa pb : List Str), a.pre = pa ++ ra → b.pre = pb ++ rb → pa.length = pb.length →
    EV Tryz.prog pol (.loop 117 250 0 [.ptr 0 0 0, .ptr 1 0 0, .t (.int .i64 (pa.length : Int))] [.vs 4 [a.enc.map .t], .vs 4 [b.enc.map .t]])
    = some (match qc ra rb with
      | some n => .loop .ret [.ptr 0 0 0, .ptr 1 0 0, .t (.int .i64 n)] [.vs 4 [a.enc.map .t], .vs 4 [b.enc.map .t]]
      | none => .loop (.exit 2) [.ptr 0 0 0, .ptr 1 0 0, .bad] [.vs 4 [a.enc.map .t], .vs 4 [b.enc.map .t]])
  | [], rb, pa, pb, h1, h2, h3 => by
    have c : decide ((pa.length : Int) < (a.pre.length : Int)) = false := by simp [h1]
    simp only [Ver.enc, List.map_cons, List.map_nil, qc]
    refine zu Tryz.func117 rfl rfl ?_
    simp (disch := ((try simp only [LL]); omega)) only [↓GO, ↓DRW, GA, ren, zA, zd, refs, zb, cst, zl, zG, z7, E.load, E.store, zF, isC, bin, zH, zI, una, z8, za, zh, zJ, blt, fnV, asArg, ze, zn, zo, zj, zi, zg, zk, zr, z6, zD, zE, E.mkS, zc, unN, zK, zm, zz, zB, zf, zL, zq, GS, simprocAttr, GZ, zO, c, zZ]
  | x :: ra, [], pa, pb, h1, h2, h3 => by
    have c : decide ((pa.length : Int) < (a.pre.length : Int)) = true := by simp [h1]; omega
    have c2 : decide ((pa.length : Int) < (b.pre.length : Int)) = false := by simp [h2]; omega
    simp only [Ver.enc, List.map_cons, List.map_nil, qc]
    refine zu Tryz.func117 rfl rfl ?_
    simp (disch := ((try simp only [LL]); omega)) only [↓GO, ↓DRW, GA, ren, zA, zd, refs, zb, cst, zl, zG, z7, E.load, E.store, zF, isC, bin, zH, zI, una, z8, za, zh, zJ, blt, fnV, asArg, ze, zn, zo, zj, zi, zg, zk, zr, z6, zD, zE, E.mkS, zc, unN, zK, zm, zz, zB, zf, zL, zq, GS, simprocAttr, GZ, zO, c, c2, zZ]
  | x :: ra, y :: rb, pa, pb, h1, h2, h3 => by
    unfold Ver.sm at ha hb
    have c : decide ((pa.length : Int) < (a.pre.length : Int)) = true := by simp [h1]; omega
    have c2 : decide ((pa.length : Int) < (b.pre.length : Int)) = true := by simp [h2]; omega
    have hg1 : (zV a.pre)[pa.length]? = some [.str x] := by rw [h1]; exact w8 pa x ra
    have hg2 : (zV b.pre)[pa.length]? = some [.str y] := by rw [h2, h3]; exact w8 pb y rb
    have hlen : pa.length + ra.length + 1 ≤ a.pre.length := by rw [h1]; simp; omega
    have hx : x.length ≤ 2097152 := by have := wb (ks := a.pre) (s := x) (by rw [h1]; simp); omega
    have hy : y.length ≤ 2097152 := by have := wb (ks := b.pre) (s := y) (by rw [h2]; simp); omega
    have hp := RN x y (by omega) (by omega)
    have IH := UI a b ha hb ra rb (pa ++ [x]) (pb ++ [y]) (by rw [h1]; simp) (by rw [h2]; simp) (by simp [h3])
    rw [show ((pa ++ [x]).length : Int) = (pa.length : Int) + 1 by simp] at IH
    clear h1 h2
    simp only [Ver.enc, List.map_cons, List.map_nil] at IH ⊢
    rw [qc]
    generalize ZC x y = n at *
    cases hn : (n == 0)
    · simp only [cond_false]
      refine zu Tryz.func117 rfl rfl ?_
      simp (disch := ((try simp only [LL]); omega)) only [↓GO, ↓DRW, GA, ren, zA, zd, refs, zb, cst, zl, zG, z7, E.load, E.store, zF, isC, bin, zH, zI, una, z8, za, zh, zJ, blt, fnV, asArg, ze, zn, zo, zj, zi, zg, zk, zr, z6, zD, zE, E.mkS, zc, unN, zK, zm, zz, zB, zf, zL, zq, GS, simprocAttr, GZ, zO, c, c2, hg1, hg2, hp, hn, bne, zx, zZ]
    · simp only [cond_true]
      refine zu Tryz.func117 rfl rfl ?_
      simp (disch := ((try simp only [LL]); omega)) only [↓GO, ↓DRW, GA, ren, zA, zd, refs, zb, cst, zl, zG, z7, E.load, E.store, zF, isC, bin, zH, zI, una, z8, za, zh, zJ, blt, fnV, asArg, ze, zn, zo, zj, zi, zg, zk, zr, z6, zD, zE, E.mkS, zc, unN, zK, zm, zz, zB, zf, zL, zq, GS, simprocAttr, GZ, zO, c, c2, hg1, hg2, hp, hn, bne, zx, zZ, IH]
theorem ab (a b : Ver) (ha : a.sm) (hb : b.sm) : zC (EV Tryz.prog pol) 117 [.agg (a.enc.map .t), .agg (b.enc.map .t)] = some (.t (.int .i64 (qj a b))) := by
  have d1 := oe a.maj b.maj
  have d2 := oe a.min b.min
  have d3 := oe a.pat b.pat
  have d4 := oe (b.pre.length : Int) (a.pre.length : Int)
  have d5 := oe (a.pre.length : Int) (b.pre.length : Int)
  have L2 := UI a b ha hb a.pre b.pre [] [] rfl rfl rfl
  have L1 := Rv (.int .i64 a.maj) (.int .i64 a.min) (.int .i64 a.pat) (.list 1 (zV a.pre)) (.int .i64 b.maj) (.int .i64 b.min) (.int .i64 b.pat) (.list 1 (zV b.pre)) (xb a.maj b.maj) (xb a.min b.min) (xb a.pat b.pat)
  have e1 := uk a.pre
  have e2 := uk b.pre
  unfold qj Tb
  simp only [List.length_nil, Int.natCast_zero] at L2
  simp only [Ver.enc, List.map_cons, List.map_nil] at L1 L2 ⊢
  generalize xb a.maj b.maj = n1 at *
  generalize xb a.min b.min = n2 at *
  generalize xb a.pat b.pat = n3 at *
  cases h1 : (n1 == 0) <;> rw [h1] at L1
  · simp only [cond_false] at L1
    apply zw
    refine zy rfl Tryz.func117 rfl (by kernel_rfl) ?_
    unfold Tryz.f117
    simp (disch := ((try simp only [LL]); omega)) only [↓GO, ↓DRW, GA, ren, zA, zd, refs, zb, cst, zl, zG, z7, E.load, E.store, zF, isC, bin, zH, zI, una, z8, za, zh, zJ, blt, fnV, asArg, ze, zn, zo, zj, zi, zg, zk, zr, z6, zD, zE, E.mkS, zc, unN, zK, zm, zz, zB, zf, zL, zq, GS, simprocAttr, GZ, d1, d2, d3, L1, zZ]
    refine yP (by kernel_rfl) ?_
    simp (disch := ((try simp only [LL]); omega)) only [↓GO, ↓DRW, GA, ren, zA, zd, refs, zb, cst, zl, zG, z7, E.load, E.store, zF, isC, bin, zH, zI, una, z8, za, zh, zJ, blt, fnV, asArg, ze, zn, zo, zj, zi, zg, zk, zr, z6, zD, zE, E.mkS, zc, unN, zK, zm, zz, zB, zf, zL, zq, GS, simprocAttr, GZ, d1, d2, d3, L1, zZ]
  · cases h2 : (n2 == 0) <;> rw [h2] at L1
    · simp only [cond_false, cond_true] at L1
      apply zw
      refine zy rfl Tryz.func117 rfl (by kernel_rfl) ?_
      unfold Tryz.f117
      simp (disch := ((try simp only [LL]); omega)) only [↓GO, ↓DRW, GA, ren, zA, zd, refs, zb, cst, zl, zG, z7, E.load, E.store, zF, isC, bin, zH, zI, una, z8, za, zh, zJ, blt, fnV, asArg, ze, zn, zo, zj, zi, zg, zk, zr, z6, zD, zE, E.mkS, zc, unN, zK, zm, zz, zB, zf, zL, zq, GS, simprocAttr, GZ, d1, d2, d3, L1, zZ]
      refine yP (by kernel_rfl) ?_
      simp (disch := ((try simp only [LL]); omega)) only [↓GO, ↓DRW, GA, ren, zA, zd, refs, zb, cst, zl, zG, z7, E.load, E.store, zF, isC, bin, zH, zI, una, z8, za, zh, zJ, blt, fnV, asArg, ze, zn, zo, zj, zi, zg, zk, zr, z6, zD, zE, E.mkS, zc, unN, zK, zm, zz, zB, zf, zL, zq, GS, simprocAttr, GZ, d1, d2, d3, L1, zZ]
    · cases h3 : (n3 == 0) <;> rw [h3] at L1
      · simp only [cond_false, cond_true] at L1
        apply zw
        refine zy rfl Tryz.func117 rfl (by kernel_rfl) ?_
        unfold Tryz.f117
        simp (disch := ((try simp only [LL]); omega)) only [↓GO, ↓DRW, GA, ren, zA, zd, refs, zb, cst, zl, zG, z7, E.load, E.store, zF, isC, bin, zH, zI, una, z8, za, zh, zJ, blt, fnV, asArg, ze, zn, zo, zj, zi, zg, zk, zr, z6, zD, zE, E.mkS, zc, unN, zK, zm, zz, zB, zf, zL, zq, GS, simprocAttr, GZ, d1, d2, d3, L1, zZ]
        refine yP (by kernel_rfl) ?_
        simp (disch := ((try simp only [LL]); omega)) only [↓GO, ↓DRW, GA, ren, zA, zd, refs, zb, cst, zl, zG, z7, E.load, E.store, zF, isC, bin, zH, zI, una, z8, za, zh, zJ, blt, fnV, asArg, ze, zn, zo, zj, zi, zg, zk, zr, z6, zD, zE, E.mkS, zc, unN, zK, zm, zz, zB, zf, zL, zq, GS, simprocAttr, GZ, d1, d2, d3, L1, zZ]
      · simp only [cond_true] at L1
        cases hs : qc a.pre b.pre <;> rw [hs] at L2 <;> simp only at L2 <;> cases h4 : (a.pre == []) <;> cases h5 : (b.pre == []) <;> rw [h4] at e1 <;> rw [h5] at e2
        all_goals
          apply zw
          refine zy rfl Tryz.func117 rfl (by kernel_rfl) ?_
          unfold Tryz.f117
          simp (disch := ((try simp only [LL]); omega)) only [↓GO, ↓DRW, GA, ren, zA, zd, refs, zb, cst, zl, zG, z7, E.load, E.store, zF, isC, bin, zH, zI, una, z8, za, zh, zJ, blt, fnV, asArg, ze, zn, zo, zj, zi, zg, zk, zr, z6, zD, zE, E.mkS, zc, unN, zK, zm, zz, zB, zf, zL, zq, GS, simprocAttr, GZ, d1, d2, d3, d4, d5, L1, L2, zO, e1, e2, zZ]
          refine yP (by kernel_rfl) ?_
          simp (disch := ((try simp only [LL]); omega)) only [↓GO, ↓DRW, GA, ren, zA, zd, refs, zb, cst, zl, zG, z7, E.load, E.store, zF, isC, bin, zH, zI, una, z8, za, zh, zJ, blt, fnV, asArg, ze, zn, zo, zj, zi, zg, zk, zr, z6, zD, zE, E.mkS, zc, unN, zK, zm, zz, zB, zf, zL, zq, GS, simprocAttr, GZ, d1, d2, d3, d4, d5, L1, L2, zO, e1, e2, zZ, Option.getD_some, Option.getD_none]
end Go.Proofs.YtmcephnfcciloaaGreatDoor
/- The next version, the range of one alone, by the reference. Conditions: those of each lemma. -/
namespace Go.Proofs.YtmcephnfcciloaaGreatDoor
open E
set_option linter.unusedSimpArgs false
set_option linter.unusedVariables false
set_option maxRecDepth 100000
theorem SL (v : Ver) (p : Int) : (upV v p).sm := by
  unfold upV
  cases (p == 0) <;> cases (p == 1) <;> simp [Ver.sm, yk]
theorem TK {v : Ver} (h : v.sm) (p : Int) : (v8 v p).sm := by
  unfold v8
  cases (!(yw v) || !(B2 p 0 2)) <;> cases yw (upV v p) <;> simp only [cond_true, cond_false] <;> first | exact h | exact SL v p
theorem RP (v : Ver) (p : Int) (hs : v.sm) (hp : p = 0 ∨ p = 1 ∨ p = 2) (h1 : -1 ≤ v.maj ∧ v.maj ≤ 999999999) (h2 : -1 ≤ v.min ∧ v.min ≤ 999999999) (h3 : -1 ≤ v.pat ∧ v.pat ≤ 999999999) :
    zC (EV Tryz.prog pol) 174 [.agg (v.enc.map .t), .t (.int .i64 p)] = some (.agg ((v8 v p).enc.map .t)) := by
  have d1 := a6 v hs
  have d2 := a6 (upV v p) (SL v p)
  have d3 := xX p 0 2
  have hb : B2 p 0 2 = true := by rcases hp with rfl | rfl | rfl <;> rfl
  have e1 := uk v.pre
  have ht : List.take (0 + (zV v.pre).length) (zV v.pre) = zV v.pre := List.take_of_length_le (by omega)
  have ht2 : List.take v.pre.length (zV v.pre) = zV v.pre := List.take_of_length_le (by rw [zO]; omega)
  unfold Ver.sm at hs
  rw [hb] at d3
  unfold v8
  rw [hb]
  simp only [Bool.not_true, Bool.or_false]
  cases ho : yw v <;> rw [ho] at d1
  · simp only [Ver.enc, List.map_cons, List.map_nil, Bool.not_false, cond_true] at d1 ⊢
    apply zw
    refine zy rfl Tryz.func174 rfl (by kernel_rfl) ?_
    unfold Tryz.f174
    simp (disch := ((try simp only [LL]); omega)) only [↓GO, ↓DRW, GA, ren, zA, zd, refs, zb, cst, zl, zG, z7, E.load, E.store, zF, isC, bin, zH, zI, una, z8, za, zh, zJ, blt, fnV, asArg, ze, zn, zo, zj, zi, zg, zk, zr, z6, zD, zE, E.mkS, zc, unN, zK, zm, zz, zB, zf, zL, zq, GS, simprocAttr, GZ, d1, zO, ht, ht2, xK]
  · simp only [Bool.not_true, cond_false]
    unfold upV at d2 ⊢
    rcases hp with rfl | rfl | rfl
    · simp only [show ((0 : Int) == 0) = true from rfl, cond_true] at d2 ⊢
      cases hu : yw ⟨v.maj + 1, 0, 0, []⟩ <;> rw [hu] at d2 <;> simp only [Ver.enc, List.map_cons, List.map_nil, yf, cond_true, cond_false] at d1 d2 ⊢
      all_goals
        apply zw
        refine zy rfl Tryz.func174 rfl (by kernel_rfl) ?_
        unfold Tryz.f174
        simp (disch := ((try simp only [LL]); omega)) only [↓GO, ↓DRW, GA, ren, zA, zd, refs, zb, cst, zl, zG, z7, E.load, E.store, zF, isC, bin, zH, zI, una, z8, za, zh, zJ, blt, fnV, asArg, ze, zn, zo, zj, zi, zg, zk, zr, z6, zD, zE, E.mkS, zc, unN, zK, zm, zz, zB, zf, zL, zq, GS, simprocAttr, GZ, d1, d2, d3, zO, ht, ht2, xK, zx]
    · simp only [show ((1 : Int) == 0) = false from rfl, show ((1 : Int) == 1) = true from rfl, cond_true, cond_false] at d2 ⊢
      cases hu : yw ⟨v.maj, v.min + 1, 0, []⟩ <;> rw [hu] at d2 <;> simp only [Ver.enc, List.map_cons, List.map_nil, yf, cond_true, cond_false] at d1 d2 ⊢
      all_goals
        apply zw
        refine zy rfl Tryz.func174 rfl (by kernel_rfl) ?_
        unfold Tryz.f174
        simp (disch := ((try simp only [LL]); omega)) only [↓GO, ↓DRW, GA, ren, zA, zd, refs, zb, cst, zl, zG, z7, E.load, E.store, zF, isC, bin, zH, zI, una, z8, za, zh, zJ, blt, fnV, asArg, ze, zn, zo, zj, zi, zg, zk, zr, z6, zD, zE, E.mkS, zc, unN, zK, zm, zz, zB, zf, zL, zq, GS, simprocAttr, GZ, d1, d2, d3, zO, ht, ht2, xK, zx]
    · simp only [show ((2 : Int) == 0) = false from rfl, show ((2 : Int) == 1) = false from rfl, cond_false] at d2 ⊢
      cases hq : (v.pre == []) <;> rw [hq] at e1 d2 <;> simp only [cond_true, cond_false] at d2 ⊢
      · cases hu : yw ⟨v.maj, v.min, v.pat, []⟩ <;> rw [hu] at d2 <;> simp only [Ver.enc, List.map_cons, List.map_nil, yf, cond_true, cond_false] at d1 d2 ⊢
        all_goals
          apply zw
          refine zy rfl Tryz.func174 rfl (by kernel_rfl) ?_
          unfold Tryz.f174
          simp (disch := ((try simp only [LL]); omega)) only [↓GO, ↓DRW, GA, ren, zA, zd, refs, zb, cst, zl, zG, z7, E.load, E.store, zF, isC, bin, zH, zI, una, z8, za, zh, zJ, blt, fnV, asArg, ze, zn, zo, zj, zi, zg, zk, zr, z6, zD, zE, E.mkS, zc, unN, zK, zm, zz, zB, zf, zL, zq, GS, simprocAttr, GZ, d1, d2, d3, e1, zO, ht, ht2, xK, zx]
      · cases hu : yw ⟨v.maj, v.min, v.pat + 1, []⟩ <;> rw [hu] at d2 <;> simp only [Ver.enc, List.map_cons, List.map_nil, yf, cond_true, cond_false] at d1 d2 ⊢
        all_goals
          apply zw
          refine zy rfl Tryz.func174 rfl (by kernel_rfl) ?_
          unfold Tryz.f174
          simp (disch := ((try simp only [LL]); omega)) only [↓GO, ↓DRW, GA, ren, zA, zd, refs, zb, cst, zl, zG, z7, E.load, E.store, zF, isC, bin, zH, zI, una, z8, za, zh, zJ, blt, fnV, asArg, ze, zn, zo, zj, zi, zg, zk, zr, z6, zD, zE, E.mkS, zc, unN, zK, zm, zz, zB, zf, zL, zq, GS, simprocAttr, GZ, d1, d2, d3, e1, zO, ht, ht2, xK, zx]
theorem iM (v : Ver) : (x8 v).sm := by simp [x8, Ver.sm, yk]
theorem iK (v : Ver) (p : Int) (hs : v.sm) (hp : p = 0 ∨ p = 1 ∨ p = 2) (h1 : -1 ≤ v.maj ∧ v.maj ≤ 999999999) (h2 : -1 ≤ v.min ∧ v.min ≤ 999999999) (h3 : -1 ≤ v.pat ∧ v.pat ≤ 999999999) :
    zC (EV Tryz.prog pol) 150 [.agg (v.enc.map .t), .t (.int .i64 p)] = some (.tup [.t (.str (vy v p).1), .t (.bool (vy v p).2)]) := by
  have d1 := RP (x8 v) p (iM v) hp h1 h2 h3
  have d2 := ab (v8 (x8 v) p) (x8 v) (TK (iM v) p) (iM v)
  have d3 := dA ⟨(v8 (x8 v) p).maj, (v8 (x8 v) p).min, (v8 (x8 v) p).pat, [[48]]⟩ (aq _ _ _)
  unfold vy
  generalize qj (v8 (x8 v) p) (x8 v) = cm at *
  generalize yb ⟨(v8 (x8 v) p).maj, (v8 (x8 v) p).min, (v8 (x8 v) p).pat, [[48]]⟩ = tx at *
  generalize v8 (x8 v) p = nx at *
  simp only [Ver.enc, x8, List.map_cons, List.map_nil, xp, yf] at d1 d2 d3 ⊢
  cases hc : (cm == 0)
  all_goals
    apply zw
    refine zy rfl Tryz.func150 rfl (by kernel_rfl) ?_
    unfold Tryz.f150
    simp (disch := ((try simp only [LL]); omega)) only [↓GO, ↓DRW, GA, ren, zA, zd, refs, zb, cst, zl, zG, z7, E.load, E.store, zF, isC, bin, zH, zI, una, z8, za, zh, zJ, blt, fnV, asArg, ze, zn, zo, zj, zi, zg, zk, zr, z6, zD, zE, E.mkS, zc, unN, zK, zm, zz, zB, zf, zL, zq, GS, simprocAttr, GZ, d1, d2, d3, hc, yf]
def alT (s : Str) : V := match x6 s with
  | some (l, h) => .tup [.agg [.t (.str l), .t (.str h)], .t (.bool true)]
  | none => .tup [.agg [.t (.str []), .t (.str [])], .t (.bool false)]
theorem dF (s : Str) (hl : s.length ≤ 1048600) : zC (EV Tryz.prog pol) 107 [.t (.str s)] = some (alT s) := by
  have d1 := ni s (by omega)
  have d2 := ni (s ++ [46, 48]) (by simp only [List.length_append, List.length_cons, List.length_nil]; omega)
  obtain ⟨m1, m2, m3, m4, m5, m6, m7⟩ := x7 s (by omega)
  have d3 := iK (zM s).1 2 m1 (by omega) ⟨m3, m2⟩ ⟨m5, m4⟩ ⟨m7, m6⟩
  have hg := iX (zM s).1.pre
  unfold rvT at d1 d2
  unfold alT x6 uY
  cases hk : (zM s).2 with
  | false =>
    rw [hk] at d1
    generalize (zM s).1 = v at *
    simp only [Bool.false_and, cond_false]
    simp only [Ver.enc, List.map_cons, List.map_nil] at d1 ⊢
    apply zw
    refine zy rfl Tryz.func107 rfl (by kernel_rfl) ?_
    unfold Tryz.f107
    simp (disch := ((try simp only [LL]); omega)) only [↓GO, ↓DRW, GA, ren, zA, zd, refs, zb, cst, zl, zG, z7, E.load, E.store, zF, isC, bin, zH, zI, una, z8, za, zh, zJ, blt, fnV, asArg, ze, zn, zo, zj, zi, zg, zk, zr, z6, zD, zE, E.mkS, zc, unN, zK, zm, zz, zB, zf, zL, zq, GS, simprocAttr, GZ, d1]
  | true =>
    have ho := (yv hk).2.2.1
    rw [hk] at d1
    cases hp : ((zM s).1.pre == []) with
    | true =>
      have hb := vX ho 2 (by omega)
      simp only [show ((2 : Int) == 0) = false from rfl, show ((2 : Int) == 1) = false from rfl, show ((2 : Int) == 2) = true from rfl, cond_true, cond_false] at hb
      rw [hb] at d3
      rw [hp] at hg
      simp only [Bool.not_true, cond_true, Bool.true_and] at hg ⊢
      generalize (zM s).1 = v at *
      generalize ye v.maj v.min (v.pat + 1) = zp at *
      simp only [Ver.enc, List.map_cons, List.map_nil] at d1 d3 ⊢
      clear d2 hb
      cases hz : (zp == []) <;> rw [hz] at d3 <;> simp only [Bool.not_true, Bool.not_false, cond_true, cond_false] at d3 ⊢
      all_goals
        apply zw
        refine zy rfl Tryz.func107 rfl (by kernel_rfl) ?_
        unfold Tryz.f107
        simp (disch := ((try simp only [LL]); omega)) only [↓GO, ↓DRW, GA, ren, zA, zd, refs, zb, cst, zl, zG, z7, E.load, E.store, zF, isC, bin, zH, zI, una, z8, za, zh, zJ, blt, fnV, asArg, ze, zn, zo, zj, zi, zg, zk, zr, z6, zD, zE, E.mkS, zc, unN, zK, zm, zz, zB, zf, zL, zq, GS, simprocAttr, GZ, d1, d3, hg, zO]
    | false =>
      obtain ⟨r1, r2⟩ := kv hk (fun h => by rw [h] at hp; cases hp)
      rw [r1] at d2
      rw [hp] at hg
      simp only [Bool.not_false, cond_false, Bool.true_and] at hg ⊢
      rw [r2]
      generalize yw (sD (zM s).1) = pk at *
      generalize sD (zM s).1 = pv at *
      generalize (zM s).1 = v at *
      have hne : ((s ++ [46, 48]) == []) = false := by cases s <;> rfl
      simp only [Ver.enc, List.map_cons, List.map_nil] at d1 ⊢
      cases pk <;> simp only [Ver.enc, List.map_cons, List.map_nil, cond_true, cond_false, hne, Bool.not_false, show (([] : Str) == []) = true from rfl, Bool.not_true] at d2 ⊢
      all_goals
        apply zw
        refine zy rfl Tryz.func107 rfl (by kernel_rfl) ?_
        unfold Tryz.f107
        simp (disch := ((try simp only [LL]); omega)) only [↓GO, ↓DRW, GA, ren, zA, zd, refs, zb, cst, zl, zG, z7, E.load, E.store, zF, isC, bin, zH, zI, una, z8, za, zh, zJ, blt, fnV, asArg, ze, zn, zo, zj, zi, zg, zk, zr, z6, zD, zE, E.mkS, zc, unN, zK, zm, zz, zB, zf, zL, zq, GS, simprocAttr, GZ, d1, d2, hg, zO, xK]
theorem c_exR (s : Str) (hl : s.length ≤ 1048600) : zC (EV Tryz.prog pol) 83 [.t (.str s)] = some (.t (.list 2 (exT s))) := by
  have d1 := dF s hl
  unfold exT
  unfold alT at d1
  cases he : x6 s with
  | none =>
    rw [he] at d1
    simp only at d1 ⊢
    apply zw
    refine zy rfl Tryz.func83 rfl (by kernel_rfl) ?_
    unfold Tryz.f83
    simp (disch := ((try simp only [LL]); omega)) only [↓GO, ↓DRW, GA, ren, zA, zd, refs, zb, cst, zl, zG, z7, E.load, E.store, zF, isC, bin, zH, zI, una, z8, za, zh, zJ, blt, fnV, asArg, ze, zn, zo, zj, zi, zg, zk, zr, z6, zD, zE, E.mkS, zc, unN, zK, zm, zz, zB, zf, zL, zq, GS, simprocAttr, GZ, d1]
  | some x =>
    obtain ⟨l, h⟩ := x
    rw [he] at d1
    simp only at d1 ⊢
    apply zw
    refine zy rfl Tryz.func83 rfl (by kernel_rfl) ?_
    unfold Tryz.f83
    simp (disch := ((try simp only [LL]); omega)) only [↓GO, ↓DRW, GA, ren, zA, zd, refs, zb, cst, zl, zG, z7, E.load, E.store, zF, isC, bin, zH, zI, una, z8, za, zh, zJ, blt, fnV, asArg, ze, zn, zo, zj, zi, zg, zk, zr, z6, zD, zE, E.mkS, zc, unN, zK, zm, zz, zB, zf, zL, zq, GS, simprocAttr, GZ, d1]
end Go.Proofs.YtmcephnfcciloaaGreatDoor
/- What the laws' own functions do over Bound, Notice: sizes, copies, comparisons. Conditions: those of each lemma. -/
namespace Go.Proofs.YtmcephnfcciloaaGreatDoor
open E
set_option linter.unusedSimpArgs false
set_option linter.unusedVariables false
set_option maxRecDepth 100000
structure yA where
  low : List UInt8
  high : List UInt8
def yA.enc (x : yA) : List T := [.str x.low, .str x.high]
def yA.zW (l : List yA) : List (List T) := l.map yA.enc
def yA.yg (x : yA) : Nat := x.low.length + x.high.length
def yA.ya : List yA → Nat
  | [] => 0
  | c :: cs => yA.yg c + yA.ya cs
def yA.ok (x : yA) : Prop := x.low.length ≤ 9223372036854775807 ∧ x.high.length ≤ 9223372036854775807
theorem yA.vg (x : yA) : x.enc.length = 2 := rfl
theorem yA.wo (x : yA) : x.enc.take 2 = x.enc := rfl
theorem yA.zT (cs : List yA) : (yA.zW cs).length = cs.length := by simp [yA.zW]
theorem yA.yT (cs : List yA) (i : Nat) (h : i < cs.length) : (yA.zW cs)[i]? = some cs[i].enc := by simp [yA.zW, h]
theorem yA.xm (cs : List yA) (i : Nat) (h : i < cs.length) : yA.ya (cs.drop i) = cs[i].yg + yA.ya (cs.drop (i + 1)) := by
  rw [List.drop_eq_getElem_cons h]; rfl
theorem yA.yq : ∀ {cs : List yA} {c : yA}, c ∈ cs → c.yg ≤ yA.ya cs
  | c' :: cs, c, h => by
    simp only [yA.ya]
    rcases List.mem_cons.1 h with rfl | h
    · omega
    · have := yA.yq h; omega
structure zt where
  name : List UInt8
  range : List UInt8
  text : List UInt8
def zt.enc (x : zt) : List T := [.str x.name, .str x.range, .str x.text]
def zt.zW (l : List zt) : List (List T) := l.map zt.enc
def zt.yg (x : zt) : Nat := x.name.length + x.range.length + x.text.length
def zt.ya : List zt → Nat
  | [] => 0
  | c :: cs => zt.yg c + zt.ya cs
def zt.ok (x : zt) : Prop := x.name.length ≤ 9223372036854775807 ∧ x.range.length ≤ 9223372036854775807 ∧ x.text.length ≤ 9223372036854775807
theorem zt.vg (x : zt) : x.enc.length = 3 := rfl
theorem zt.wo (x : zt) : x.enc.take 3 = x.enc := rfl
theorem zt.zT (cs : List zt) : (zt.zW cs).length = cs.length := by simp [zt.zW]
theorem zt.yT (cs : List zt) (i : Nat) (h : i < cs.length) : (zt.zW cs)[i]? = some cs[i].enc := by simp [zt.zW, h]
theorem zt.xm (cs : List zt) (i : Nat) (h : i < cs.length) : zt.ya (cs.drop i) = cs[i].yg + zt.ya (cs.drop (i + 1)) := by
  rw [List.drop_eq_getElem_cons h]; rfl
theorem zt.yq : ∀ {cs : List zt} {c : zt}, c ∈ cs → c.yg ≤ zt.ya cs
  | c' :: cs, c, h => by
    simp only [zt.ya]
    rcases List.mem_cons.1 h with rfl | h
    · omega
    · have := zt.yq h; omega
def lF (x : zt) : Prop := ∀ n : Int, 0 ≤ n → n ≤ 1048576 → zC (EV Tryz.prog pol) 26 [.agg (x.enc.map .t), .t (.int .i64 n)] = some (.t (.int .i64 (left n x.yg)))
theorem mL (x : zt) (ho : x.ok) : lF x := by
  obtain ⟨name, range, text⟩ := x
  intro n h0 h1
  simp only [zt.ok] at ho
  simp only [zt.enc, List.map_cons, List.map_nil]
  apply zw
  refine zy rfl Tryz.func26 rfl (by kernel_rfl) ?_
  unfold Tryz.f26
  repeat' (first | (((first | with_reducible refine uy (fun hA => ?_) (fun hA => ?_) | with_reducible refine uw (fun hA => ?_) (fun hA => ?_)) <;> (try simp only [bne, Bool.not_eq_true', Bool.not_eq_false'] at hA) <;> (first | (have hP := Int.le_of_eq (eq_of_beq (α := Int) hA); have hQ := Int.le_of_eq (eq_of_beq (α := Int) hA).symm) | have hP := of_decide_eq_true hA | have hP := of_decide_eq_false hA | skip)) <;> (simp (disch := ((try simp only [LL]); omega)) only [↓GO, ↓DRW, GA, ren, zA, zd, refs, zb, cst, zl, zG, z7, E.load, E.store, zF, isC, bin, zH, zI, una, z8, za, zh, zJ, blt, fnV, asArg, ze, zn, zo, zj, zi, zg, zk, zr, z6, zD, zE, E.mkS, zc, unN, zK, zm, zz, zB, zf, zL, zq, GS, simprocAttr, zx, bne, ug, wM, *])) | (simp (disch := ((try simp only [LL]); omega)) only [↓GO, ↓DRW, GA, ren, zA, zd, refs, zb, cst, zl, zG, z7, E.load, E.store, zF, isC, bin, zH, zI, una, z8, za, zh, zJ, blt, fnV, asArg, ze, zn, zo, zj, zi, zg, zk, zr, z6, zD, zE, E.mkS, zc, unN, zK, zm, zz, zB, zf, zL, zq, GS, simprocAttr, zx, bne, ug, wM, *]))
  all_goals (refine tn ?_; simp only [zt.yg, and_true]; omega)
def uU (x : zt) : Prop := zC (EV Tryz.prog pol) 32 [.agg (x.enc.map .t)] = some (.agg (x.enc.map .t))
theorem mK (x : zt) (ho : x.yg ≤ 1048576) : uU x := by
  obtain ⟨name, range, text⟩ := x
  simp only [zt.yg] at ho
  simp only [uU, zt.enc, List.map_cons, List.map_nil]
  apply zw
  refine zy rfl Tryz.func32 rfl (by kernel_rfl) ?_
  unfold Tryz.f32
  simp only [↓GO, ↓DRW, GA, ren, zA, zd, refs, zb, cst, zl, zG, z7, E.load, E.store, zF, isC, bin, zH, zI, una, z8, za, zh, zJ, blt, fnV, asArg, ze, zn, zo, zj, zi, zg, zk, zr, z6, zD, zE, E.mkS, zc, unN, zK, zm, zz, zB, zf, zL, zq, GS, simprocAttr]
def sx (x : zt) : Prop := zC (EV Tryz.prog pol) 37 [.agg (x.enc.map .t), .agg (x.enc.map .t)] = some (.t (.bool true))
theorem cH (x : zt) (ho : x.yg ≤ 1048576) : sx x := by
  obtain ⟨name, range, text⟩ := x
  simp only [zt.yg] at ho
  simp only [sx, zt.enc, List.map_cons, List.map_nil]
  apply zw
  refine zy rfl Tryz.func37 rfl (by kernel_rfl) ?_
  unfold Tryz.f37
  simp only [↓GO, ↓DRW, GA, ren, zA, zd, refs, zb, cst, zl, zG, z7, E.load, E.store, zF, isC, bin, zH, zI, una, z8, za, zh, zJ, blt, fnV, asArg, ze, zn, zo, zj, zi, zg, zk, zr, z6, zD, zE, E.mkS, zc, unN, zK, zm, zz, zB, zf, zL, zq, GS, simprocAttr, bne_self_eq_false]
end Go.Proofs.YtmcephnfcciloaaGreatDoor
/- Ranges, plain: both ways of reading them come to the same. Conditions: none. -/
namespace Go.Proofs.YtmcephnfcciloaaGreatDoor
open E
set_option linter.unusedVariables false
set_option linter.unusedSimpArgs false
set_option maxRecDepth 100000
def vb (b : UInt8) : Bool := isD b || (nb b == 46 || (nb b == 45 || preB b))
theorem vV {n : Int} (h : 0 ≤ n) : (Lib.itoa n).all isD = true ∧ Lib.itoa n ≠ [] := by
  obtain ⟨u, rfl⟩ : ∃ u : Nat, n = u := ⟨n.toNat, by omega⟩
  rw [Lib.itoa_nonneg]
  obtain ⟨a, _, c⟩ := ud u
  exact ⟨a, c⟩
theorem pg {p q : UInt8 → Bool} (h : ∀ b, p b = true → q b = true) {l : Str} (hl : l.all p = true) : l.all q = true := by
  rw [List.all_eq_true] at hl ⊢
  exact fun x hx => h x (hl x hx)
theorem bS (b : UInt8) (h : isD b = true) : vb b = true := by unfold vb; rw [h]; rfl
theorem aE (b : UInt8) (h : preB b = true) : vb b = true := by unfold vb; rw [h]; simp
theorem TV : ∀ l : List Str, (l.all fun p => p.all preB) = true → (Lib.join l [46]).all vb = true
  | [], _ => rfl
  | x :: r, h => by
    rw [Lib.join_cons]
    simp only [List.all_cons, Bool.and_eq_true] at h
    rw [List.all_append, pg aE h.1, Bool.true_and]
    have hr := h.2
    clear h
    induction r with
    | nil => rfl
    | cons y r ih =>
      simp only [List.all_cons, Bool.and_eq_true] at hr
      have e : Lib.joinTail [46] (y :: r) = 46 :: (y ++ Lib.joinTail [46] r) := by simp [Lib.joinTail]
      rw [e, List.all_cons, List.all_append, pg aE hr.1, ih hr.2]
      decide
theorem Tn {v : Ver} (h : yw v = true) : (yb v).all vb = true ∧ ∃ b r, yb v = b :: r ∧ isD b = true := by
  obtain ⟨h1, h2, h3, h4, _⟩ := wg h
  obtain ⟨a1, a2⟩ := vV h1.1
  obtain ⟨b1, b2⟩ := vV h2.1
  obtain ⟨c1, c2⟩ := vV h3.1
  have hp : (v.pre.all fun p => p.all preB) = true := by
    rw [List.all_eq_true] at h4 ⊢
    intro x hx
    have := h4 x hx
    unfold wA at this
    simp only [Bool.and_eq_true] at this
    exact this.2.1
  have hj := TV v.pre hp
  have hcore : (vr v).all vb = true := by
    unfold vr
    simp only [List.all_append, pg bS a1, pg bS b1, pg bS c1]
    decide
  refine ⟨?_, ?_⟩
  · unfold yb wh
    rw [h]
    simp only [cond_true]
    cases (v.pre == []) with
    | true => simpa using hcore
    | false =>
      simp only [cond_false, List.all_append, hcore, hj]
      decide
  · unfold yb wh vr
    rw [h]
    simp only [cond_true]
    cases hi : Lib.itoa v.maj with
    | nil => exact absurd hi a2
    | cons b r =>
      rw [hi, List.all_cons, Bool.and_eq_true] at a1
      cases (v.pre == []) <;> exact ⟨b, _, rfl, a1.1⟩
/-- is a text a version's? -/
def isV (s : Str) : Bool := (zM s).2
theorem iW {s : Str} (h : isV s = true) : (∀ b ∈ s, vb b = true) ∧ ∃ b r, s = b :: r ∧ isD b = true := by
  obtain ⟨_, ht, ho, _⟩ := yv h
  obtain ⟨h1, h2⟩ := Tn ho
  rw [ht] at h1 h2
  exact ⟨List.all_eq_true.1 h1, h2⟩
theorem o9 {s : Str} {c : UInt8} (hc : vb c = false) (h : c ∈ s) : isV s = false := by
  cases hv : isV s with
  | false => rfl
  | true =>
    have := (iW hv).1 c h
    rw [hc] at this; cases this
theorem lh {b : UInt8} {r : Str} (hb : isD b = false) : isV (b :: r) = false := by
  cases hv : isV (b :: r) with
  | false => rfl
  | true =>
    obtain ⟨_, b', r', e, h⟩ := iW hv
    cases e
    rw [hb] at h; cases h
theorem nz : isV [] = false := by
  cases hv : isV [] with
  | false => rfl
  | true => obtain ⟨_, _, _, e, _⟩ := iW hv; cases e
theorem mF (b : UInt8) : ∀ s : Str, (yi b s).length = s.count b + 1
  | [] => rfl
  | x :: s => by
    have ih := mF b s
    by_cases h : x = b
    · subst h; rw [wq, List.length_cons, ih, List.count_cons_self]
    · cases hc : yi b s with
      | nil => exact absurd hc (yX b s)
      | cons p r =>
        rw [yI b x s p r h hc, List.count_cons_of_ne (by simpa using h)]
        rw [hc] at ih
        simpa using ih
theorem Ys {s : Str} (h : isV s = true) : 3 ≤ (yi 46 s).length := by
  obtain ⟨hm, _, _, _⟩ := yv h
  have he := r6 45 s
  have h3 : (yi 46 (yl 45 s).1).length = 3 := by
    unfold w6 at hm
    split at hm
    · rename_i a b c hp; rw [hp]; rfl
    · cases hm
  rw [mF] at h3 ⊢
  rw [he, List.count_append]; omega
/-- the parts of a list of two -/
theorem vW {b : UInt8} : ∀ {s a : Str}, yi b s = [a] → s = a ∧ b ∉ a
  | [], a, h => by cases h; simp
  | x :: s, a, h => by
    by_cases hx : x = b
    · subst hx
      rw [wq] at h
      injection h with _ h2
      exact absurd h2 (yX x s)
    · cases hc : yi b s with
      | nil => exact absurd hc (yX b s)
      | cons p r =>
        rw [yI b x s p r hx hc] at h
        injection h with h1 h2
        subst h2
        obtain ⟨e1, e2⟩ := vW hc
        subst h1
        refine ⟨by rw [e1], ?_⟩
        simp only [List.mem_cons, not_or]
        exact ⟨Ne.symm hx, e2⟩
theorem vJ {b : UInt8} : ∀ {s a a' : Str} {r : List Str}, yi b s = a :: a' :: r → ∃ t, s = a ++ b :: t ∧ b ∉ a ∧ yi b t = a' :: r
  | [], a, a', r, h => by simp [yi] at h
  | x :: s, a, a', r, h => by
    by_cases hx : x = b
    · subst hx
      rw [wq] at h
      injection h with h1 h2
      subst h1
      exact ⟨s, rfl, by simp, h2⟩
    · cases hc : yi b s with
      | nil => exact absurd hc (yX b s)
      | cons p q =>
        rw [yI b x s p q hx hc] at h
        injection h with h1 h2
        subst h1 h2
        obtain ⟨t, e1, e2, e3⟩ := vJ hc
        refine ⟨t, by rw [e1]; rfl, ?_, e3⟩
        simp only [List.mem_cons, not_or]
        exact ⟨Ne.symm hx, e2⟩
theorem xz {s : Str} (h : 0 ≤ zP s) : (∀ b ∈ s, isD b = true) ∧ Lib.itoa (zP s) = s ∧ zP s ≤ 999999999 ∧ s ≠ [] := by
  unfold zP at h ⊢
  split at h
  · rename_i v hv
    cases hc : ((decide (0 ≤ v) && decide (v ≤ 999999999)) && (Lib.itoa v == s)) with
    | false => rw [hc] at h; simp at h
    | true =>
      have hc' := hc
      simp only [Bool.and_eq_true, decide_eq_true_eq, beq_iff_eq] at hc'
      obtain ⟨⟨q1, q2⟩, q3⟩ := hc'
      obtain ⟨a, b⟩ := vV q1
      simp only [cond_true]
      rw [q3] at a b
      exact ⟨List.all_eq_true.1 a, q3, q2, b⟩
  · simp at h
theorem tj {s : Str} {c : UInt8} (hc : isD c = false) (h : c ∈ s) : zP s = -1 := by
  have h1 := xy s
  by_cases h2 : 0 ≤ zP s
  · have := (xz h2).1 c h
    rw [hc] at this; cases this
  · omega
theorem qq : zP [48] = 0 := by
  have := (vH (u := 0) (by omega)).1
  rwa [show Lib.decDigits 0 = [48] by rw [Lib.decDigits_one (by omega)]; rfl] at this
theorem kX : Lib.itoa 0 = [48] := by
  have := Lib.itoa_nonneg 0
  rw [show ((0 : Nat) : Int) = 0 from rfl] at this
  rw [this, Lib.decDigits_one (by omega)]; rfl
def ur (s : Str) : Option (Str × Str) := match yi 46 s with
  | [a] => cond (decide (0 ≤ zP a) && !(ye (zP a + 1) 0 0 == [])) (some (yb ⟨zP a, 0, 0, []⟩, ye (zP a + 1) 0 0)) none
  | [a, b] => cond ((decide (0 ≤ zP a) && decide (0 ≤ zP b)) && !(ye (zP a) (zP b + 1) 0 == [])) (some (yb ⟨zP a, zP b, 0, []⟩, ye (zP a) (zP b + 1) 0)) none
  | _ => none
def wF (s : Str) : Str := cond (((yi 46 s).length : Int) == 1) (s ++ [46, 48, 46, 48]) (s ++ [46, 48])
def wY (s : Str) : Option (Str × Str) :=
  cond (!(isV (wF s)) || (!(B2 ((yi 46 s).length : Int) 1 2) || !((zM (wF s)).1.pre == []))) none
    (cond (vy (zM (wF s)).1 (((yi 46 s).length : Int) - 1)).2 (some (wF s, (vy (zM (wF s)).1 (((yi 46 s).length : Int) - 1)).1)) none)
theorem ez {s : Str} (h : (45 : UInt8) ∈ s) (hv : isV s = true) : (zM s).1.pre ≠ [] := by
  obtain ⟨hm, _, _, _⟩ := yv hv
  have he := r6 45 s
  have hn := lr 45 s
  unfold w6 at hm
  split at hm
  · injection hm with hm
    rw [← hm]
    cases hc : (yl 45 s).2.2 with
    | false =>
      rw [hc, cond_false, List.append_nil] at he
      rw [he] at h
      exact absurd h hn
    | true => exact yX 46 _
  · cases hm
theorem T7 {s : Str} (h : ∀ b ∈ s, isD b = true) : (45 : UInt8) ∉ s := fun hm => by
  have := h 45 hm
  revert this; decide
theorem T6 {s : Str} (h : ∀ b ∈ s, isD b = true) : (46 : UInt8) ∉ s := fun hm => by
  have := h 46 hm
  revert this; decide
/-- a text of numbers alone is read as they are -/
theorem nY {a b c s : Str} (hd : (45 : UInt8) ∉ s) (hc : yi 46 s = [a, b, c]) :
    zM s = cond (yb ⟨zP a, zP b, zP c, []⟩ == s) (⟨zP a, zP b, zP c, []⟩, true) (Ver.zero, false) := by
  unfold zM w6
  rw [Zz 45 s hd]
  simp only
  rw [hc]
  simp only [cond_false]
theorem ub (a b c : Int) : yw ⟨a, b, c, []⟩ = (n9 a && (n9 b && n9 c)) := by simp [yw]
theorem o8 (s : Str) : n9 (zP s) = decide (0 ≤ zP s) := by
  have := xy s
  unfold n9 B2
  have : decide (zP s ≤ 999999999) = true := decide_eq_true this.2
  rw [this, Bool.and_true]
theorem tg {a b c : Int} (ha : n9 a = true) (hb : n9 b = true) (hc : n9 c = true) : yb ⟨a, b, c, []⟩ = Lib.itoa a ++ [46] ++ Lib.itoa b ++ [46] ++ Lib.itoa c := by
  unfold yb wh vr
  rw [ub, ha, hb, hc]
  rfl
theorem fm {a b c : Int} (h : (n9 a && (n9 b && n9 c)) = false) : yb ⟨a, b, c, []⟩ = [] := by
  unfold yb
  rw [ub, h]; rfl
theorem r4 : n9 0 = true := by decide
theorem nS (s : Str) : wY s = ur s := by
  unfold ur
  split
  · rename_i a hp
    obtain ⟨rfl, hn⟩ := vW hp
    have hfull : wF s = s ++ [46, 48, 46, 48] := by unfold wF; rw [hp]; rfl
    unfold wY
    rw [hp, hfull]
    by_cases h45 : (45 : UInt8) ∈ s
    · have hd := tj (c := 45) (by decide) h45
      rw [hd]
      have hr : (!(isV (s ++ [46, 48, 46, 48])) || (!(B2 (([s] : List Str).length : Int) 1 2) || !((zM (s ++ [46, 48, 46, 48])).1.pre == []))) = true := by
        cases hv : isV (s ++ [46, 48, 46, 48]) with
        | false => rfl
        | true =>
          have := ez (s := s ++ [46, 48, 46, 48]) (by simp [h45]) hv
          have h2 : ((zM (s ++ [46, 48, 46, 48])).1.pre == []) = false := by
            cases hx : (zM (s ++ [46, 48, 46, 48])).1.pre with
            | nil => exact absurd hx this
            | cons x y => rfl
          rw [h2]; simp
      rw [hr]; rfl
    · have h45' : (45 : UInt8) ∉ s ++ [46, 48, 46, 48] := by simp [h45]
      have hc3 : yi 46 (s ++ [46, 48, 46, 48]) = [s, [48], [48]] := by
        rw [show s ++ [46, 48, 46, 48] = s ++ 46 :: [48, 46, 48] from rfl, uQ, hp]; rfl
      have hr := nY h45' hc3
      rw [qq] at hr
      unfold isV
      rw [hr]
      have hn9 := o8 s
      by_cases h0 : 0 ≤ zP s
      · obtain ⟨_, hi, _, _⟩ := xz h0
        have hn : n9 (zP s) = true := by rw [hn9]; exact decide_eq_true h0
        have ht := tg hn r4 r4
        rw [hi, kX] at ht
        have he : (yb ⟨zP s, 0, 0, []⟩ == s ++ [46, 48, 46, 48]) = true := by rw [ht]; simp
        have hok : yw ⟨zP s, 0, 0, []⟩ = true := by rw [ub, hn]; rfl
        rw [he]
        simp only [cond_true]
        have hb := vX hok 0 (by omega)
        simp only [show ((0 : Int) == 0) = true from rfl, cond_true, show ((0 : Int) == 2) = false from rfl, cond_false] at hb
        rw [show (([s] : List Str).length : Int) - 1 = 0 from rfl, hb, decide_eq_true h0, ht]
        simp only [show B2 (([s] : List Str).length : Int) 1 2 = true from rfl, show (([] : List Str) == []) = true from rfl, Bool.not_true, Bool.or_false, cond_false, Bool.true_and]
        simp
      · have hn : (n9 (zP s) && (n9 0 && n9 0)) = false := by rw [hn9, decide_eq_false h0]; rfl
        rw [fm hn]
        have he : (([] : Str) == s ++ [46, 48, 46, 48]) = false := by rw [beq_eq_false_iff_ne]; intro e; have := congrArg List.length e; simp at this
        rw [he, decide_eq_false h0]
        rfl
  · rename_i a b hp
    obtain ⟨t, rfl, hna, hct⟩ := vJ hp
    obtain ⟨rfl, hnb⟩ := vW hct
    generalize hsd : a ++ 46 :: t = s at *
    have hfull : wF s = s ++ [46, 48] := by unfold wF; rw [hp]; rfl
    unfold wY
    rw [hp, hfull]
    by_cases h45 : (45 : UInt8) ∈ s
    · have hd : (decide (0 ≤ zP a) && decide (0 ≤ zP t)) = false := by
        rw [← hsd] at h45
        simp only [List.mem_append, List.mem_cons] at h45
        rcases h45 with h | h | h
        · rw [tj (c := 45) (by decide) h]; rfl
        · exact absurd h (by decide)
        · rw [tj (c := 45) (by decide) h]; simp
      rw [hd]
      have hr : (!(isV (s ++ [46, 48])) || (!(B2 (([a, t] : List Str).length : Int) 1 2) || !((zM (s ++ [46, 48])).1.pre == []))) = true := by
        cases hv : isV (s ++ [46, 48]) with
        | false => rfl
        | true =>
          have := ez (s := s ++ [46, 48]) (by simp [h45]) hv
          have h2 : ((zM (s ++ [46, 48])).1.pre == []) = false := by
            cases hx : (zM (s ++ [46, 48])).1.pre with
            | nil => exact absurd hx this
            | cons x y => rfl
          rw [h2]; simp
      rw [hr]; rfl
    · have h45' : (45 : UInt8) ∉ s ++ [46, 48] := by simp [h45]
      have hc3 : yi 46 (s ++ [46, 48]) = [a, t, [48]] := by
        rw [show s ++ [46, 48] = s ++ 46 :: [48] from rfl, uQ, hp]; rfl
      have hr := nY h45' hc3
      rw [qq] at hr
      unfold isV
      rw [hr]
      have hna := o8 a
      have hnt := o8 t
      by_cases h0 : 0 ≤ zP a ∧ 0 ≤ zP t
      · obtain ⟨_, hi, _, _⟩ := xz h0.1
        obtain ⟨_, hj, _, _⟩ := xz h0.2
        have hn : n9 (zP a) = true := by rw [hna]; exact decide_eq_true h0.1
        have hm : n9 (zP t) = true := by rw [hnt]; exact decide_eq_true h0.2
        have ht := tg hn hm r4
        rw [hi, hj, kX] at ht
        have he : (yb ⟨zP a, zP t, 0, []⟩ == s ++ [46, 48]) = true := by rw [ht, ← hsd]; simp
        have hok : yw ⟨zP a, zP t, 0, []⟩ = true := by rw [ub, hn, hm]; rfl
        rw [he]
        simp only [cond_true]
        have hb := vX hok 1 (by omega)
        simp only [show ((1 : Int) == 0) = false from rfl, show ((1 : Int) == 1) = true from rfl, cond_true, show ((1 : Int) == 2) = false from rfl, cond_false] at hb
        rw [show (([a, t] : List Str).length : Int) - 1 = 1 from rfl, hb, decide_eq_true h0.1, decide_eq_true h0.2, eq_of_beq he]
        simp only [show B2 (([a, t] : List Str).length : Int) 1 2 = true from rfl, show (([] : List Str) == []) = true from rfl, Bool.not_true, Bool.or_false, cond_false, Bool.true_and]
      · have hd : (decide (0 ≤ zP a) && decide (0 ≤ zP t)) = false := by simpa using h0
        have hn : (n9 (zP a) && (n9 (zP t) && n9 0)) = false := by rw [hna, hnt, ← Bool.and_assoc, hd]; rfl
        rw [fm hn]
        have he : (([] : Str) == s ++ [46, 48]) = false := by rw [beq_eq_false_iff_ne]; intro e; have := congrArg List.length e; simp at this
        rw [he, hd]
        rfl
  · rename_i h1 h2
    have hlen : B2 ((yi 46 s).length : Int) 1 2 = false := by
      match hc : yi 46 s, h1, h2 with
      | [], _, _ => exact absurd hc (yX 46 s)
      | [a], h1, _ => exact absurd rfl (h1 a)
      | [a, b], _, h2 => exact absurd rfl (h2 a b)
      | a :: b :: c :: r, _, _ =>
        have : decide (((a :: b :: c :: r).length : Int) ≤ 2) = false := decide_eq_false (by simp only [List.length_cons]; omega)
        unfold B2; rw [this, Bool.and_false]
    unfold wY
    rw [hlen]
    simp
end Go.Proofs.YtmcephnfcciloaaGreatDoor
/- Ranges, plain, the parts. Conditions: none. -/
namespace Go.Proofs.YtmcephnfcciloaaGreatDoor
open E
set_option linter.unusedVariables false
set_option linter.unusedSimpArgs false
set_option maxRecDepth 100000
/-- a text cut at ' <' -/
def xl : Str → Str × Str × Bool
  | [] => ([], [], false)
  | x :: r => if ([32, 60] : Str).isPrefixOf (x :: r) = true then ([], r.drop 1, true) else (x :: (xl r).1, (xl r).2.1, (xl r).2.2)
theorem dq : ∀ s : Str, Lib.cut s [32, 60] = xl s
  | [] => by simp [Lib.cut, xl, Lib.index]
  | x :: s => by
    have ih := dq s
    rw [xl]
    by_cases h : ([32, 60] : Str).isPrefixOf (x :: s) = true
    · rw [if_pos h]
      unfold Lib.cut
      rw [Lib.index, if_pos h]
      simp
    · rw [if_neg h, ← ih]
      unfold Lib.cut
      rw [Lib.index, if_neg h]
      have hge := Lib.index_ge s [32, 60]
      by_cases hm : Lib.index s [32, 60] = -1
      · rw [hm]; simp
      · obtain ⟨j, hj⟩ : ∃ j : Nat, Lib.index s [32, 60] = j := ⟨(Lib.index s [32, 60]).toNat, by omega⟩
        have hb : (((j : Nat) : Int) == -1) = false := by rw [beq_eq_false_iff_ne]; omega
        rw [hj, hb]
        simp only [Bool.false_eq_true, if_false]
        rw [if_pos (by omega), if_pos (by omega), show ((j : Int) + 1).toNat = j + 1 by omega]
        simp only [List.take_succ_cons, Int.toNat_natCast]
        rw [show j + 1 + ([32, 60] : Str).length = (j + ([32, 60] : Str).length) + 1 by simp only [List.length_cons, List.length_nil], List.drop_succ_cons]
theorem dP {x : UInt8} {r : Str} (h : ([32, 60] : Str).isPrefixOf (x :: r) = true) : x = 32 ∧ r = 60 :: r.drop 1 := by
  cases r with
  | nil => simp [List.isPrefixOf] at h
  | cons y r =>
    simp only [List.isPrefixOf, Bool.and_true, Bool.and_eq_true, beq_iff_eq] at h
    obtain ⟨h1, h2⟩ := h
    subst h1 h2
    exact ⟨rfl, rfl⟩
theorem iG : ∀ s : Str, s = (xl s).1 ++ cond (xl s).2.2 (32 :: 60 :: (xl s).2.1) []
  | [] => rfl
  | x :: s => by
    rw [xl]
    by_cases h : ([32, 60] : Str).isPrefixOf (x :: s) = true
    · obtain ⟨h1, h2⟩ := dP h
      rw [if_pos h]
      subst h1
      simp only [List.nil_append, cond_true]
      rw [← h2]
    · rw [if_neg h]
      have := iG s
      show x :: s = (x :: (xl s).1) ++ _
      rw [List.cons_append, ← this]
theorem iF : ∀ s : Str, (32 : UInt8) ∉ s → xl s = (s, [], false)
  | [], _ => rfl
  | x :: s, h => by
    simp only [List.mem_cons, not_or] at h
    have hp : ¬ ([32, 60] : Str).isPrefixOf (x :: s) = true := fun hp => h.1 (dP hp).1.symm
    rw [xl, if_neg hp, iF s h.2]
theorem du (t : Str) : ∀ s : Str, (32 : UInt8) ∉ s → xl (s ++ 32 :: 60 :: t) = (s, t, true)
  | [], _ => by
    rw [List.nil_append, xl, if_pos (by simp [List.isPrefixOf])]; rfl
  | x :: s, h => by
    simp only [List.mem_cons, not_or] at h
    have hp : ¬ ([32, 60] : Str).isPrefixOf (x :: (s ++ 32 :: 60 :: t)) = true := fun hp => h.1 (dP hp).1.symm
    rw [List.cons_append, xl, if_neg hp, du t s h.2]
theorem jt (t : Str) (ht : (32 : UInt8) ∉ t) (hn : ∀ r, t ≠ 60 :: r) : ∀ s : Str, (32 : UInt8) ∉ s → xl (s ++ 32 :: t) = (s ++ 32 :: t, [], false)
  | [], _ => by
    have hp : ¬ ([32, 60] : Str).isPrefixOf (32 :: t) = true := fun hp => hn _ (dP hp).2
    rw [List.nil_append, xl, if_neg hp, iF t ht]
  | x :: s, h => by
    simp only [List.mem_cons, not_or] at h
    have hp : ¬ ([32, 60] : Str).isPrefixOf (x :: (s ++ 32 :: t)) = true := fun hp => h.1 (dP hp).1.symm
    rw [List.cons_append, xl, if_neg hp, jt t ht hn s h.2]
abbrev Bd := Str × Str
def geP (s : Str) : Bool := ([62, 61] : Str).isPrefixOf s
def ltP (s : Str) : Bool := ([60] : Str).isPrefixOf s
def hdB (c : UInt8) : Str → Bool
  | [] => false
  | x :: _ => x == c
def od (v : Ver) : Str := cond (decide (v.maj > 0)) (ye (v.maj + 1) 0 0) (cond (v.min == 0) (ye 0 0 (v.pat + 1)) (ye v.maj (v.min + 1) 0))
def wk (s : Str) : Bd × Bool := match yi 46 s with
  | [a] => cond (decide (0 ≤ zP a)) ((yb ⟨zP a, 0, 0, []⟩, ye (zP a + 1) 0 0), true) (([], []), false)
  | [a, b] => cond (decide (0 ≤ zP a) && decide (0 ≤ zP b)) ((yb ⟨zP a, zP b, 0, []⟩, ye (zP a) (zP b + 1) 0), true) (([], []), false)
  | _ => (([], []), false)
def T3 (s : Str) : Str := cond (hdB 94 s) (od (zM (s.drop 1)).1) (ye (zM (s.drop 1)).1.maj ((zM (s.drop 1)).1.min + 1) 0)
def xI (s : Str) : Bd × Bool :=
  cond (s == [42]) (([], []), true)
  (cond (isV s) ((s, uY (zM s).1), true)
  (cond (geP s) (((xl (s.drop 2)).1, (xl (s.drop 2)).2.1), isV (xl (s.drop 2)).1 && (!(xl (s.drop 2)).2.2 || isV (xl (s.drop 2)).2.1))
  (cond (ltP s) (([], s.drop 1), isV (s.drop 1))
  (cond (hdB 94 s || hdB 126 s) ((s.drop 1, T3 s), isV (s.drop 1))
  (wk s)))))
def rf (s : Str) : Bool := s == [42] || (ltP s || geP s)
def tT (s : Str) : Option Bd := cond (!((xI s).2) || (!(rf s) && (((xI s).1.1 == []) || ((xI s).1.2 == [])))) none (some (xI s).1)
def isE (s : Str) : Bool := isV s || s == []
def u6 (v : Ver) : Int := cond (decide (v.maj > 0)) 0 (cond (decide (v.min > 0)) 1 2)
def geW (x : Str) : Bool := decide ((x.length : Int) > 2) && (x.take 2 == [62, 61])
def ltW (x : Str) : Bool := decide ((x.length : Int) > 1) && hdB 60 x
def uq (s : Str) : Option Bd := match yi 32 s with
  | [x] => cond (geW x) (cond (isE (x.drop 2) && isE []) (some (x.drop 2, [])) none) (cond (ltW x) (cond (isE [] && isE (x.drop 1)) (some ([], x.drop 1)) none) none)
  | [x, y] => cond (geW x) (cond (ltW y) (cond (isE (x.drop 2) && isE (y.drop 1)) (some (x.drop 2, y.drop 1)) none) none) none
  | _ => none
def lN (v : Ver) (t : Str) (p : Int) : Option Bd := cond (vy v p).2 (some (t, (vy v p).1)) none
def xT (s : Str) : Option Bd :=
  cond (s == [42]) (some ([], []))
  (cond (decide ((s.length : Int) > 1) && (hdB 94 s || hdB 126 s)) (cond (!(isV (s.drop 1))) none (lN (zM (s.drop 1)).1 (s.drop 1) (cond (hdB 126 s) 1 (u6 (zM (s.drop 1)).1))))
  (cond (decide ((s.length : Int) > 0) && (hdB 62 s || hdB 60 s)) (uq s)
  (match x6 s with | some x => some x | none => wY s)))
theorem nA : isE [] = true := by simp [isE]
theorem Rw {s : Str} (h : s ≠ []) : isE s = isV s := by
  unfold isE
  have : (s == []) = false := by
    cases s with
    | nil => exact absurd rfl h
    | cons x r => rfl
  rw [this, Bool.or_false]
theorem eY {s : Str} (h : isV s = false) : x6 s = none := by
  unfold x6
  unfold isV at h
  rw [h]; rfl
theorem nU {s : Str} {c : UInt8} {a : Str} {r : List Str} (hp : yi 46 s = (c :: a) :: r) (hc : isD c = false) : ur s = none := by
  have hd := tj (s := c :: a) hc (by simp)
  have h0 : decide ((0 : Int) ≤ -1) = false := by decide
  unfold ur
  rw [hp]
  cases r with
  | nil => simp only [hd, h0, Bool.false_and, cond_false]
  | cons b r => cases r with
    | nil => simp only [hd, h0, Bool.false_and, cond_false]
    | cons _ _ => rfl
theorem nT : ur [] = none := by
  unfold ur
  have h0 : decide (0 ≤ zP []) = false := by
    apply decide_eq_false
    intro h
    exact (xz h).2.2.2 rfl
  rw [show yi 46 ([] : Str) = [[]] from rfl]
  simp only [h0, Bool.false_and, cond_false]
theorem dp {c : UInt8} {r : Str} (h : c ≠ 46) : ∃ a q, yi 46 (c :: r) = (c :: a) :: q := by
  cases hc : yi 46 r with
  | nil => exact absurd hc (yX 46 r)
  | cons p q => exact ⟨p, q, yI 46 c r p q h hc⟩
theorem oV {s : Str} (hb : xI s = wk s) (ho : rf s = false) : tT s = ur s := by
  unfold tT
  rw [hb, ho]
  unfold wk ur
  match yi 46 s with
  | [] => rfl
  | [a] =>
    simp only
    cases h : decide (0 ≤ zP a) with
    | false => simp
    | true =>
      have hn : n9 (zP a) = true := by rw [o8]; exact h
      have : (yb ⟨zP a, 0, 0, []⟩ == []) = false := by rw [tg hn r4 r4]; simp
      simp only [cond_true, Bool.not_true, Bool.false_or, Bool.not_false, Bool.true_and, this]
      cases (ye (zP a + 1) 0 0 == []) <;> rfl
  | [a, b] =>
    simp only
    cases h : decide (0 ≤ zP a) with
    | false => simp
    | true =>
      cases h2 : decide (0 ≤ zP b) with
      | false => simp
      | true =>
        have hn : n9 (zP a) = true := by rw [o8]; exact h
        have hm : n9 (zP b) = true := by rw [o8]; exact h2
        have : (yb ⟨zP a, zP b, 0, []⟩ == []) = false := by rw [tg hn hm r4]; simp
        simp only [cond_true, Bool.not_true, Bool.false_or, Bool.not_false, Bool.true_and, Bool.and_self, this]
        cases (ye (zP a) (zP b + 1) 0 == []) <;> rfl
  | a :: b :: c :: r => rfl
theorem Sc {s : Str} (hv : isV s = true) : tT s = xT s := by
  obtain ⟨_, x, r, rfl, hx⟩ := iW hv
  have hne : ∀ c : UInt8, isD c = false → (x == c) = false := fun c hc => by
    rw [beq_eq_false_iff_ne]; intro e; subst e; rw [hx] at hc; cases hc
  have h42 := hne 42 (by decide)
  have h94 := hne 94 (by decide)
  have h126 := hne 126 (by decide)
  have h62 := hne 62 (by decide)
  have h60 := hne 60 (by decide)
  have hs : ((x :: r) == [42]) = false := by rw [beq_eq_false_iff_ne]; intro e; cases e; simp at h42
  have hge : geP (x :: r) = false := by
    cases r with
    | nil => simp [geP, List.isPrefixOf]
    | cons y r => simp only [geP, List.isPrefixOf]; rw [show ((62 : UInt8) == x) = false by rw [Bool.beq_comm]; exact h62]; rfl
  have hlt : ltP (x :: r) = false := by simp only [ltP, List.isPrefixOf]; rw [show ((60 : UInt8) == x) = false by rw [Bool.beq_comm]; exact h60]; rfl
  have hlong := Ys hv
  have hB : B2 ((yi 46 (x :: r)).length : Int) 1 2 = false := by
    have : decide (((yi 46 (x :: r)).length : Int) ≤ 2) = false := decide_eq_false (by omega)
    unfold B2; rw [this, Bool.and_false]
  have hsh : wY (x :: r) = none := by unfold wY; rw [hB]; simp
  unfold tT xT xI rf x6
  have hv' : (zM (x :: r)).2 = true := hv
  rw [hs, hv, hge, hlt, hv', hsh]
  simp only [hdB, h94, h126, h62, h60, cond_false, cond_true, Bool.or_false, Bool.and_false, Bool.not_true, Bool.not_false, Bool.false_or, Bool.true_and]
  rw [show ((x :: r) == []) = false from rfl]
  simp only [Bool.false_or]
  cases (uY (zM (x :: r)).1 == []) <;> rfl
theorem mM {v : Ver} {t : Str} (ho : yw v = true) (b : Bool) : lN v t (cond (!b) 1 (u6 v)) = cond (cond b (od v) (ye v.maj (v.min + 1) 0) == []) none (some (t, cond b (od v) (ye v.maj (v.min + 1) 0))) := by
  obtain ⟨h1, h2, h3, _, _⟩ := wg ho
  unfold lN
  cases b with
  | false =>
    have hb := vX ho 1 (by omega)
    simp only [show ((1 : Int) == 0) = false from rfl, show ((1 : Int) == 1) = true from rfl, cond_true, show ((1 : Int) == 2) = false from rfl, cond_false] at hb
    simp only [Bool.not_false, cond_true, cond_false]
    rw [hb]
    cases (ye v.maj (v.min + 1) 0 == []) <;> rfl
  | true =>
    simp only [Bool.not_true, cond_true, cond_false]
    unfold u6 od
    cases h4 : decide (v.maj > 0) with
    | true =>
      have hb := vX ho 0 (by omega)
      simp only [show ((0 : Int) == 0) = true from rfl, cond_true, show ((0 : Int) == 2) = false from rfl, cond_false] at hb
      simp only [cond_true]
      rw [hb]
      cases (ye (v.maj + 1) 0 0 == []) <;> rfl
    | false =>
      have h5 : v.maj = 0 := by have := of_decide_eq_false h4; omega
      cases h6 : decide (v.min > 0) with
      | true =>
        have h7 : (v.min == 0) = false := by have := of_decide_eq_true h6; rw [beq_eq_false_iff_ne]; omega
        have hb := vX ho 1 (by omega)
        simp only [show ((1 : Int) == 0) = false from rfl, show ((1 : Int) == 1) = true from rfl, cond_true, show ((1 : Int) == 2) = false from rfl, cond_false] at hb
        simp only [cond_true, cond_false, h7]
        rw [hb]
        cases (ye v.maj (v.min + 1) 0 == []) <;> rfl
      | false =>
        have h7 : v.min = 0 := by have := of_decide_eq_false h6; omega
        have hb := vX ho 2 (by omega)
        simp only [show ((2 : Int) == 0) = false from rfl, show ((2 : Int) == 1) = false from rfl, show ((2 : Int) == 2) = true from rfl, cond_true, cond_false] at hb
        simp only [cond_false]
        rw [hb, h5, h7]
        simp only [show ((0 : Int) == 0) = true from rfl, cond_true]
        cases (ye 0 0 (v.pat + 1) == []) <;> rfl
theorem head_eq (c x : UInt8) (r : Str) : ([c] : Str).isPrefixOf (x :: r) = (x == c) := by
  simp only [List.isPrefixOf, Bool.and_true]; exact Bool.beq_comm
theorem ir (x : UInt8) (r : Str) : decide (((x :: r).length : Int) > 1) = !(r == []) := by
  cases r with
  | nil => rfl
  | cons y r =>
    have : ((y :: r) == []) = false := rfl
    rw [this]
    apply decide_eq_true
    simp only [List.length_cons]; omega
/-- what follows where no sign stands ahead -/
theorem pz {s : Str} (hv : isV s = false) : (match x6 s with | some x => some x | none => wY s) = ur s := by
  rw [eY hv]
  exact nS s
theorem dz (x : UInt8) (r : Str) (hx : x = 94 ∨ x = 126) : tT (x :: r) = xT (x :: r) := by
  have hd : isD x = false := by rcases hx with rfl | rfl <;> decide
  have h42 : ((x :: r) == [42]) = false := by rw [beq_eq_false_iff_ne]; intro e; cases e; rcases hx with h | h <;> cases h
  have hv := lh (r := r) hd
  have hge : geP (x :: r) = false := by
    unfold geP
    rcases hx with rfl | rfl <;> cases r <;> simp [List.isPrefixOf]
  have hlt : ltP (x :: r) = false := by
    unfold ltP
    rcases hx with rfl | rfl <;> simp [List.isPrefixOf]
  have h1 : (hdB 94 (x :: r) || hdB 126 (x :: r)) = true := by rcases hx with rfl | rfl <;> rfl
  have h2 : hdB 126 (x :: r) = !(hdB 94 (x :: r)) := by rcases hx with rfl | rfl <;> rfl
  have h3 : (hdB 62 (x :: r) || hdB 60 (x :: r)) = false := by rcases hx with rfl | rfl <;> rfl
  cases hr : (r == []) with
  | true =>
    obtain rfl : r = [] := by
      cases r with
      | nil => rfl
      | cons y r => cases hr
    have hp : ∃ a q, yi 46 [x] = (x :: a) :: q := dp (by rcases hx with rfl | rfl <;> decide)
    obtain ⟨a, q, hp⟩ := hp
    have hsh := nU hp hd
    unfold tT xT xI rf
    rw [h42, hv, hge, hlt, h1, h3, ir, hr, pz hv, hsh]
    simp only [List.drop_succ_cons, List.drop_zero, nz]
    rfl
  | false =>
    unfold tT xT xI rf
    rw [h42, hv, hge, hlt, h1, ir, hr, h2]
    unfold T3
    simp only [List.drop_succ_cons, List.drop_zero, cond_false, cond_true, Bool.or_false, Bool.not_false, Bool.true_and, Bool.not_true, Bool.false_and, hr, Bool.false_or]
    cases hvr : isV r with
    | false => rfl
    | true =>
      obtain ⟨_, _, ho, _⟩ := yv hvr
      rw [mM ho]
      simp only [Bool.not_true, Bool.false_or, cond_false]
theorem eT (p : Str) : geW (62 :: 61 :: p) = !(p == []) := by
  unfold geW
  cases p with
  | nil => rfl
  | cons x p =>
    have : decide (((62 :: 61 :: x :: p : Str).length : Int) > 2) = true := by apply decide_eq_true; simp only [List.length_cons]; omega
    rw [this]; rfl
theorem ej (p : Str) : ltW (60 :: p) = !(p == []) := by
  unfold ltW
  rw [ir]
  simp [hdB]
theorem tr (p : Str) : (!(p == []) && isE p) = isV p := by
  cases p with
  | nil => rw [nz]; rfl
  | cons x r => rw [Rw (by simp)]; rfl
theorem cu {s : Str} {c1 c2 : Str} {two : Bool} (h : xl s = (c1, c2, two)) (h32 : 2 ≤ s.count 32) : (isV c1 && (!two || isV c2)) = false := by
  have he := iG s
  rw [h] at he
  simp only at he
  cases two with
  | false =>
    rw [cond_false, List.append_nil] at he
    have : (32 : UInt8) ∈ c1 := by rw [← he]; exact List.count_pos_iff.1 (by omega)
    rw [o9 (c := 32) (by decide) this]; rfl
  | true =>
    rw [cond_true] at he
    rw [he, List.count_append, List.count_cons_self, List.count_cons_of_ne (by decide)] at h32
    by_cases h1 : 0 < c1.count 32
    · rw [o9 (c := 32) (by decide) (List.count_pos_iff.1 h1)]; rfl
    · rw [o9 (s := c2) (c := 32) (by decide) (List.count_pos_iff.1 (by omega))]; simp
theorem RF (t : Str) : tT (62 :: 61 :: t) = xT (62 :: 61 :: t) := by
  have hv := lh (b := 62) (r := 61 :: t) (by decide)
  have hge : geP (62 :: 61 :: t) = true := by simp [geP, List.isPrefixOf]
  have h42 : ((62 :: 61 :: t : Str) == [42]) = false := rfl
  have hR : xT (62 :: 61 :: t) = uq (62 :: 61 :: t) := by
    unfold xT
    rw [h42]
    simp only [hdB, show ((62 : UInt8) == 94) = false from rfl, show ((62 : UInt8) == 126) = false from rfl, show ((62 : UInt8) == 62) = true from rfl, Bool.or_false, Bool.and_false, cond_false, Bool.true_or, Bool.and_true]
    have : decide (((62 :: 61 :: t : Str).length : Int) > 0) = true := by apply decide_eq_true; simp only [List.length_cons]; omega
    rw [this]; rfl
  have hI : tT (62 :: 61 :: t) = cond (isV (xl t).1 && (!(xl t).2.2 || isV (xl t).2.1)) (some ((xl t).1, (xl t).2.1)) none := by
    unfold tT xI rf
    rw [h42, hv, hge]
    simp only [cond_false, cond_true, Bool.or_true, Bool.not_true, Bool.false_and, Bool.or_false, List.drop_succ_cons, List.drop_zero]
    cases (isV (xl t).1 && (!(xl t).2.2 || isV (xl t).2.1)) <;> rfl
  rw [hI, hR]
  unfold uq
  cases hc : yi 32 t with
  | nil => exact absurd hc (yX 32 t)
  | cons p q =>
    have hw : yi 32 (62 :: 61 :: t) = (62 :: 61 :: p) :: q := yI 32 62 (61 :: t) (61 :: p) q (by decide) (yI 32 61 t p q (by decide) hc)
    rw [hw]
    cases q with
    | nil =>
      obtain ⟨rfl, hn⟩ := vW hc
      rw [iF t hn]
      simp only [eT, List.drop_succ_cons, List.drop_zero, nA, Bool.and_true, Bool.not_false, Bool.true_or]
      have hl2 : ltW (62 :: 61 :: t) = false := by unfold ltW; simp [hdB]
      rw [← tr t, hl2]
      cases (t == []) with
      | true => rfl
      | false => rfl
    | cons y q =>
      obtain ⟨u, rfl, hn, hcu⟩ := vJ hc
      cases q with
      | nil =>
        obtain ⟨rfl, hny⟩ := vW hcu
        simp only [eT, List.drop_succ_cons, List.drop_zero]
        by_cases hy : ∃ z, u = 60 :: z
        · obtain ⟨z, rfl⟩ := hy
          rw [du z p hn]
          simp only [ej, List.drop_succ_cons, List.drop_zero, Bool.not_true, Bool.false_or]
          rw [← tr p, ← tr z]
          cases (p == []) <;> cases (z == []) <;> simp
        · rw [jt u hny (fun r hr => hy ⟨r, hr⟩) p hn]
          have h1 : isV (p ++ 32 :: u) = false := o9 (c := 32) (by decide) (by simp)
          have h2 : ltW u = false := by
            unfold ltW
            cases u with
            | nil => rfl
            | cons c r =>
              have : (c == 60) = false := by rw [beq_eq_false_iff_ne]; intro e; exact hy ⟨r, by rw [e]⟩
              simp only [hdB, this, Bool.and_false]
          rw [h1, h2]
          simp
      | cons z q =>
        obtain ⟨w, rfl, hn2, _⟩ := vJ hcu
        have h2 : 2 ≤ (p ++ 32 :: (y ++ 32 :: w)).count 32 := by
          simp only [List.count_append, List.count_cons_self]; omega
        have := cu (s := p ++ 32 :: (y ++ 32 :: w)) rfl h2
        rw [this]
        rfl
theorem RD (t : Str) : tT (60 :: t) = xT (60 :: t) := by
  have hv := lh (b := 60) (r := t) (by decide)
  have hge : geP (60 :: t) = false := by cases t <;> simp [geP, List.isPrefixOf]
  have hlt : ltP (60 :: t) = true := by simp [ltP, List.isPrefixOf]
  have h42 : ((60 :: t : Str) == [42]) = false := by rw [beq_eq_false_iff_ne]; intro e; cases e
  have hR : xT (60 :: t) = uq (60 :: t) := by
    unfold xT
    rw [h42]
    simp only [hdB, show ((60 : UInt8) == 94) = false from rfl, show ((60 : UInt8) == 126) = false from rfl, show ((60 : UInt8) == 62) = false from rfl, show ((60 : UInt8) == 60) = true from rfl, Bool.or_false, Bool.and_false, cond_false, Bool.or_true, Bool.and_true]
    have : decide (((60 :: t : Str).length : Int) > 0) = true := by apply decide_eq_true; simp only [List.length_cons]; omega
    rw [this]; rfl
  have hI : tT (60 :: t) = cond (isV t) (some ([], t)) none := by
    unfold tT xI rf
    rw [h42, hv, hge, hlt]
    simp only [cond_false, cond_true, Bool.or_true, Bool.true_or, Bool.not_true, Bool.false_and, Bool.or_false, List.drop_succ_cons, List.drop_zero]
    cases isV t <;> rfl
  rw [hI, hR]
  unfold uq
  cases hc : yi 32 t with
  | nil => exact absurd hc (yX 32 t)
  | cons p q =>
    have hw : yi 32 (60 :: t) = (60 :: p) :: q := yI 32 60 t p q (by decide) hc
    have hg : geW (60 :: p) = false := by
      unfold geW
      cases p with
      | nil => rfl
      | cons a b => simp
    rw [hw]
    cases q with
    | nil =>
      obtain ⟨rfl, hn⟩ := vW hc
      simp only [hg, cond_false, ej, List.drop_succ_cons, List.drop_zero, nA, Bool.true_and]
      rw [← tr t]
      cases (t == []) <;> rfl
    | cons y q =>
      obtain ⟨u, rfl, hn, hcu⟩ := vJ hc
      have h1 : isV (p ++ 32 :: u) = false := o9 (c := 32) (by decide) (by simp)
      rw [h1]
      cases q with
      | nil => simp only [hg, cond_false]
      | cons z q => rfl
theorem YF (x : UInt8) (r : Str) (hv : isV (x :: r) = false) (h42 : ((x :: r) == [42]) = false) (h94 : x ≠ 94) (h126 : x ≠ 126) (h60 : x ≠ 60) (h62 : x = 62 → ∀ t, r ≠ 61 :: t) : tT (x :: r) = xT (x :: r) := by
  have e94 : (x == 94) = false := by rw [beq_eq_false_iff_ne]; exact h94
  have e126 : (x == 126) = false := by rw [beq_eq_false_iff_ne]; exact h126
  have e60 : (x == 60) = false := by rw [beq_eq_false_iff_ne]; exact h60
  have hge : geP (x :: r) = false := by
    unfold geP
    cases hg : ([62, 61] : Str).isPrefixOf (x :: r) with
    | false => rfl
    | true =>
      cases r with
      | nil => simp [List.isPrefixOf] at hg
      | cons y r =>
        simp only [List.isPrefixOf, Bool.and_true, Bool.and_eq_true, beq_iff_eq] at hg
        exact absurd (by rw [← hg.2]) (h62 hg.1.symm r)
  have hlt : ltP (x :: r) = false := by unfold ltP; rw [head_eq]; exact e60
  have hb : xI (x :: r) = wk (x :: r) := by
    unfold xI
    rw [h42, hv, hge, hlt]
    simp only [hdB, e94, e126, cond_false, Bool.or_false]
  have ho : rf (x :: r) = false := by unfold rf; rw [h42, hge, hlt]; rfl
  rw [oV hb ho]
  unfold xT
  rw [h42, pz hv]
  simp only [hdB, e94, e126, e60, Bool.or_false, Bool.and_false, cond_false]
  have hl : decide (((x :: r).length : Int) > 0) = true := by apply decide_eq_true; simp only [List.length_cons]; omega
  rw [hl, Bool.true_and]
  cases h : (x == 62) with
  | false => rfl
  | true =>
    have hx := eq_of_beq h
    subst hx
    obtain ⟨a, q, hp⟩ := dp (c := 62) (r := r) (by decide)
    rw [nU hp (by decide)]
    simp only [cond_true]
    unfold uq
    cases hc : yi 32 r with
    | nil => exact absurd hc (yX 32 r)
    | cons p w =>
      rw [yI 32 62 r p w (by decide) hc]
      have hg : geW (62 :: p) = false := by
        unfold geW
        cases p with
        | nil => rfl
        | cons y p =>
          have hr : ∃ t, r = y :: t := by
            cases w with
            | nil => obtain ⟨e, _⟩ := vW hc; exact ⟨p, e⟩
            | cons w1 w2 => obtain ⟨t, e, _⟩ := vJ hc; exact ⟨p ++ 32 :: t, e⟩
          obtain ⟨t, rfl⟩ := hr
          have hy : y ≠ 61 := fun e => h62 rfl t (by rw [e])
          have : ((List.take 2 (62 :: y :: p)) == [62, 61]) = false := by
            rw [beq_eq_false_iff_ne]; intro e; simp at e; exact hy e
          rw [this, Bool.and_false]
      cases w with
      | nil =>
        have hl2 : ltW (62 :: p) = false := by unfold ltW; simp [hdB]
        simp only [hg, hl2, cond_false]
      | cons y w => cases w with
        | nil => simp only [hg, cond_false]
        | cons _ _ => rfl
theorem Sd : tT [] = xT [] := by
  have hb : xI [] = wk [] := by
    unfold xI
    rw [nz]; rfl
  rw [oV hb rfl, nT]
  unfold xT
  rw [pz nz, nT]
  rfl
theorem Wt : tT [42] = xT [42] := by
  unfold tT xT xI rf
  rfl
/-- both take a part alike -/
theorem Wu (s : Str) : tT s = xT s := by
  cases s with
  | nil => exact Sd
  | cons x r =>
    by_cases h42 : ((x :: r) == [42]) = true
    · rw [eq_of_beq h42]; exact Wt
    · have h42' : ((x :: r) == [42]) = false := by simpa using h42
      cases hv : isV (x :: r) with
      | true => exact Sc hv
      | false =>
        by_cases h1 : x = 94
        · exact dz x r (.inl h1)
        · by_cases h2 : x = 126
          · exact dz x r (.inr h2)
          · by_cases h3 : x = 60
            · subst h3; exact RD r
            · by_cases h4 : x = 62 ∧ ∃ t, r = 61 :: t
              · obtain ⟨rfl, t, rfl⟩ := h4; exact RF t
              · exact YF x r hv h42' h1 h2 h3 fun hx t ht => h4 ⟨hx, t, ht⟩
/-- what a part gives has versions for its ends -/
theorem vU {a b c : Int} (h : (ye a b c == []) = false) : isV (ye a b c) = true := by
  have hz := te a b c
  rw [h] at hz
  have hn : (n9 a && (n9 b && n9 c)) = true := by
    cases hh : (n9 a && (n9 b && n9 c)) with
    | true => rfl
    | false => rw [hh] at hz; cases hz
  have hok : yw ⟨a, b, c, [[48]]⟩ = true := by rw [vP]; exact hn
  simp only [Bool.and_eq_true, o7] at hn
  obtain ⟨ha, hb, hc⟩ := hn
  obtain ⟨da, _⟩ := vV ha.1
  obtain ⟨db, _⟩ := vV hb.1
  obtain ⟨dc, _⟩ := vV hc.1
  have ht : ye a b c = (Lib.itoa a ++ 46 :: (Lib.itoa b ++ 46 :: Lib.itoa c)) ++ 45 :: [48] := by
    unfold ye yb wh vr
    rw [hok]
    simp [Lib.join_one]
  have ra : zP (Lib.itoa a) = a := by
    obtain ⟨u, rfl⟩ : ∃ u : Nat, a = u := ⟨a.toNat, by omega⟩
    rw [Lib.itoa_nonneg]; exact (vH (by omega)).1
  have rb : zP (Lib.itoa b) = b := by
    obtain ⟨u, rfl⟩ : ∃ u : Nat, b = u := ⟨b.toNat, by omega⟩
    rw [Lib.itoa_nonneg]; exact (vH (by omega)).1
  have rc : zP (Lib.itoa c) = c := by
    obtain ⟨u, rfl⟩ : ∃ u : Nat, c = u := ⟨c.toNat, by omega⟩
    rw [Lib.itoa_nonneg]; exact (vH (by omega)).1
  have na := List.all_eq_true.1 da
  have nb := List.all_eq_true.1 db
  have nc := List.all_eq_true.1 dc
  have h45 : (45 : UInt8) ∉ Lib.itoa a ++ 46 :: (Lib.itoa b ++ 46 :: Lib.itoa c) := by
    simp only [List.mem_append, List.mem_cons, not_or]
    exact ⟨T7 na, by decide, T7 nb, by decide, T7 nc⟩
  have hm : w6 (ye a b c) = some ⟨a, b, c, [[48]]⟩ := by
    unfold w6
    rw [ht, lu 45 [48] _ h45]
    simp only
    rw [uQ, nD 46 _ (T6 na), uQ, nD 46 _ (T6 nb), nD 46 _ (T6 nc)]
    simp only [List.cons_append, List.nil_append, cond_true]
    rw [ra, rb, rc]; rfl
  unfold isV zM
  rw [hm]
  simp only
  have : (yb ⟨a, b, c, [[48]]⟩ == ye a b c) = true := by unfold ye; simp
  rw [this]; rfl
theorem Yy {s : Str} {b : Bd} (h : x6 s = some b) : isV b.1 = true ∧ isV b.2 = true := by
  unfold x6 at h
  cases hv : (zM s).2 with
  | false => rw [hv] at h; cases h
  | true =>
    rw [hv] at h
    cases hh : (uY (zM s).1 == []) with
    | true => rw [hh] at h; cases h
    | false =>
      rw [hh] at h
      simp only [Bool.not_false, Bool.and_self, cond_true] at h
      injection h with h
      subst h
      refine ⟨hv, ?_⟩
      show isV (uY (zM s).1) = true
      unfold uY at hh ⊢
      cases hp : ((zM s).1.pre == []) with
      | true => rw [hp] at hh; simp only [cond_true] at hh ⊢; exact vU hh
      | false =>
        rw [hp] at hh
        simp only [cond_false] at hh ⊢
        obtain ⟨r1, r2⟩ := kv hv (fun e => by rw [e] at hp; cases hp)
        cases hk : yw (sD (zM s).1) with
        | false => rw [r2, hk] at hh; cases hh
        | true =>
          rw [r2, hk]
          simp only [cond_true]
          unfold isV
          rw [r1, hk]; rfl
theorem Ye {s : Str} {b : Bd} (h : wY s = some b) : isV b.1 = true ∧ isV b.2 = true := by
  have hI := h
  rw [nS] at hI
  refine ⟨?_, ?_⟩
  · unfold wY at h
    cases h1 : (!(isV (wF s)) || (!(B2 ((yi 46 s).length : Int) 1 2) || !((zM (wF s)).1.pre == []))) with
    | true => rw [h1] at h; cases h
    | false =>
      rw [h1] at h
      simp only [cond_false] at h
      cases h2 : (vy (zM (wF s)).1 (((yi 46 s).length : Int) - 1)).2 with
      | false => rw [h2] at h; cases h
      | true =>
        rw [h2] at h
        injection h with h
        subst h
        simp only [Bool.or_eq_false_iff, Bool.not_eq_false'] at h1
        exact h1.1
  · unfold ur at hI
    split at hI
    · rename_i a _
      cases h1 : (decide (0 ≤ zP a) && !(ye (zP a + 1) 0 0 == [])) with
      | false => rw [h1] at hI; cases hI
      | true =>
        rw [h1] at hI
        injection hI with hI
        subst hI
        simp only [Bool.and_eq_true, Bool.not_eq_true'] at h1
        exact vU h1.2
    · rename_i a b _
      cases h1 : ((decide (0 ≤ zP a) && decide (0 ≤ zP b)) && !(ye (zP a) (zP b + 1) 0 == [])) with
      | false => rw [h1] at hI; cases hI
      | true =>
        rw [h1] at hI
        injection hI with hI
        subst hI
        simp only [Bool.and_eq_true, Bool.not_eq_true'] at h1
        exact vU h1.2
    · cases hI
theorem uW {α : Type} {b : Bool} {x y : α} (h : cond b (some x) none = some y) : b = true ∧ x = y := by
  cases b with
  | false => cases h
  | true => injection h with h; exact ⟨rfl, h⟩
theorem W9 {s : Str} {b : Bd} (h : xT s = some b) : isE b.1 = true ∧ isE b.2 = true := by
  have ofV : ∀ {t : Str}, isV t = true → isE t = true := fun {t} h => by unfold isE; rw [h]; rfl
  unfold xT at h
  cases h1 : (s == [42]) with
  | true => rw [h1] at h; injection h with h; subst h; exact ⟨nA, nA⟩
  | false =>
    rw [h1] at h
    simp only [cond_false] at h
    cases h2 : (decide ((s.length : Int) > 1) && (hdB 94 s || hdB 126 s)) with
    | true =>
      rw [h2] at h
      simp only [cond_true] at h
      cases hv : isV (s.drop 1) with
      | false => rw [hv] at h; cases h
      | true =>
        rw [hv] at h
        simp only [Bool.not_true, cond_false] at h
        obtain ⟨_, _, ho, _⟩ := yv hv
        have hh : hdB 126 s = !(hdB 94 s) := by
          cases s with
          | nil => simp [hdB] at h2
          | cons x r =>
            simp only [hdB, Bool.and_eq_true, Bool.or_eq_true, beq_iff_eq] at h2
            rcases h2.2 with e | e <;> rw [e] <;> rfl
        rw [hh, mM ho] at h
        have key : ∀ z : Str, cond (z == []) none (some (s.drop 1, z)) = some b → (∀ (hz : (z == []) = false), isV z = true) → isE b.1 = true ∧ isE b.2 = true := fun z hz hzv => by
          cases hn : (z == []) with
          | true => rw [hn] at hz; cases hz
          | false =>
            rw [hn] at hz
            injection hz with hz
            subst hz
            exact ⟨ofV hv, ofV (hzv hn)⟩
        refine key _ h fun hz => ?_
        cases hb : hdB 94 s with
        | false => rw [hb] at hz; simp only [cond_false] at hz ⊢; exact vU hz
        | true =>
          rw [hb] at hz
          simp only [cond_true] at hz ⊢
          unfold od at hz ⊢
          cases h5 : decide ((zM (s.drop 1)).1.maj > 0) with
          | true => rw [h5] at hz; simp only [cond_true] at hz ⊢; exact vU hz
          | false =>
            rw [h5] at hz
            simp only [cond_false] at hz ⊢
            cases h6 : ((zM (s.drop 1)).1.min == 0) with
            | true => rw [h6] at hz; simp only [cond_true] at hz ⊢; exact vU hz
            | false => rw [h6] at hz; simp only [cond_false] at hz ⊢; exact vU hz
    | false =>
      rw [h2] at h
      simp only [cond_false] at h
      cases h3 : (decide ((s.length : Int) > 0) && (hdB 62 s || hdB 60 s)) with
      | true =>
        rw [h3] at h
        simp only [cond_true] at h
        unfold uq at h
        split at h
        · rename_i x _
          cases hg : geW x with
          | true =>
            rw [hg] at h
            obtain ⟨q1, q2⟩ := uW h
            subst q2
            simpa using q1
          | false =>
            rw [hg] at h
            simp only [cond_false] at h
            cases hl : ltW x with
            | false => rw [hl] at h; cases h
            | true =>
              rw [hl] at h
              obtain ⟨q1, q2⟩ := uW h
              subst q2
              simpa using q1
        · rename_i x y _
          cases hg : geW x with
          | false => rw [hg] at h; cases h
          | true =>
            rw [hg] at h
            simp only [cond_true] at h
            cases hl : ltW y with
            | false => rw [hl] at h; cases h
            | true =>
              rw [hl] at h
              obtain ⟨q1, q2⟩ := uW h
              subst q2
              simpa using q1
        · cases h
      | false =>
        rw [h3] at h
        simp only [cond_false] at h
        cases hx : x6 s with
        | some x =>
          rw [hx] at h
          injection h with h
          subst h
          obtain ⟨q1, q2⟩ := Yy hx
          exact ⟨ofV q1, ofV q2⟩
        | none =>
          rw [hx] at h
          obtain ⟨q1, q2⟩ := Ye h
          exact ⟨ofV q1, ofV q2⟩
end Go.Proofs.YtmcephnfcciloaaGreatDoor
/- Ranges, plain: a text cut at ' || ', the whole. Conditions: none. -/
namespace Go.Proofs.YtmcephnfcciloaaGreatDoor
open E
set_option linter.unusedVariables false
set_option linter.unusedSimpArgs false
set_option maxRecDepth 100000
def wS : Str := [32, 124, 124, 32]
/-- the parts between; so many bytes are passed over first -/
def yY : Nat → Str → List Str
  | _, [] => [[]]
  | 0, x :: r => if wS.isPrefixOf (x :: r) = true then [] :: yY 3 r else match yY 0 r with
    | p :: q => (x :: p) :: q
    | [] => [[x]]
  | k + 1, _ :: r => yY k r
theorem qZ : ∀ (k : Nat) (s : Str), yY k s ≠ []
  | k, [] => by cases k <;> simp [yY]
  | 0, x :: r => by
    unfold yY
    split
    · simp
    · split <;> simp
  | k + 1, x :: r => by rw [yY]; exact qZ k r
theorem js : ∀ (k : Nat) (s : Str), k ≤ s.length → yY k s = yY 0 (s.drop k)
  | 0, s, _ => rfl
  | k + 1, [], h => by simp at h
  | k + 1, x :: r, h => by rw [yY, js k r (by simpa using h)]; rfl
theorem SN {s : Str} (h : wS.isPrefixOf s = true) : 4 ≤ s.length := by
  have : ∀ p s : Str, p.isPrefixOf s = true → p.length ≤ s.length := fun p => by
    induction p with
    | nil => intro s _; simp
    | cons a p ih =>
      intro s h
      cases s with
      | nil => simp [List.isPrefixOf] at h
      | cons b s =>
        simp only [List.isPrefixOf, Bool.and_eq_true] at h
        have := ih s h.2
        simp only [List.length_cons]; omega
  exact this wS s h
theorem lp (x : UInt8) (r : Str) (h : wS.isPrefixOf (x :: r) = true) : yY 0 (x :: r) = [] :: yY 3 r := by rw [yY, if_pos h]
theorem uG (x : UInt8) (r p : Str) (q : List Str) (h : wS.isPrefixOf (x :: r) = false) (e : yY 0 r = p :: q) : yY 0 (x :: r) = (x :: p) :: q := by
  rw [yY, if_neg (by rw [h]; simp), e]
theorem rK : ∀ (n : Nat) (s : Str), s.length ≤ n → Lib.split s wS = yY 0 s
  | n, [], _ => by
    unfold Lib.split
    rw [Lib.count_miss (by simp [Lib.index, wS])]; rfl
  | 0, x :: r, h => by simp at h
  | n + 1, x :: r, h => by
    simp only [List.length_cons] at h
    cases hp : wS.isPrefixOf (x :: r) with
    | true =>
      have h4 := SN hp
      simp only [List.length_cons] at h4
      have hi : Lib.index (x :: r) wS = ((0 : Nat) : Int) := by rw [Lib.index, if_pos hp]; rfl
      have ih := rK n (r.drop 3) (by rw [List.length_drop]; omega)
      unfold Lib.split at ih ⊢
      rw [Lib.count_hit (by simp [wS]) hi, Nat.add_comm, Lib.splitK, hi]
      rw [lp x r hp, js 3 r (by omega), ← ih]
      simp [wS]
    | false =>
      have ih := rK n r (by omega)
      have hix : Lib.index (x :: r) wS = if Lib.index r wS == -1 then -1 else Lib.index r wS + 1 := by
        rw [Lib.index, hp]; simp
      unfold Lib.split at ih ⊢
      by_cases hm : Lib.index r wS = -1
      · rw [Lib.count_miss hm] at ih
        rw [Lib.count_miss (by rw [hix, hm]; rfl), Lib.splitK]
        rw [Lib.splitK] at ih
        exact (uG x r r [] hp ih.symm).symm
      · have hge := Lib.index_ge r wS
        obtain ⟨j, hj⟩ : ∃ j : Nat, Lib.index r wS = j := ⟨(Lib.index r wS).toNat, by omega⟩
        have hb : (((j : Nat) : Int) == -1) = false := by rw [beq_eq_false_iff_ne]; omega
        have hb2 : (((j + 1 : Nat) : Int) == -1) = false := by rw [beq_eq_false_iff_ne]; omega
        have hj2 : Lib.index (x :: r) wS = ((j + 1 : Nat) : Int) := by rw [hix, hj, hb]; simp
        rw [Lib.count_hit (by simp [wS]) hj, Nat.add_comm, Lib.splitK, hj, hb] at ih
        rw [Lib.count_hit (by simp [wS]) hj2, Nat.add_comm, Lib.splitK, hj2, hb2]
        simp only [Bool.false_eq_true, if_false, Int.toNat_natCast, Nat.add_zero] at ih ⊢
        rw [List.take_succ_cons, show j + 1 + wS.length = (j + wS.length) + 1 by omega, List.drop_succ_cons]
        exact (uG x r _ _ hp ih.symm).symm
theorem uH : ∀ (k : Nat) (s : Str), yk (yY k s) + (yY k s).length ≤ s.length + 1
  | k, [] => by cases k <;> simp [yY, yk]
  | 0, x :: r => by
    cases hp : wS.isPrefixOf (x :: r) with
    | true =>
      have ih := uH 3 r
      rw [lp x r hp]
      simp only [yk, List.length_cons, List.length_nil] at ih ⊢; omega
    | false =>
      have ih := uH 0 r
      cases hc : yY 0 r with
      | nil => exact absurd hc (qZ 0 r)
      | cons p q =>
        rw [hc] at ih
        rw [uG x r p q hp hc]
        simp only [yk, List.length_cons] at ih ⊢; omega
  | k + 1, x :: r => by
    have ih := uH k r
    rw [yY]
    simp only [List.length_cons]; omega
def u7 : List Str → Option (List Bd)
  | [] => some []
  | p :: r => match xT p with
    | some b => (match u7 r with | some bs => some (b :: bs) | none => none)
    | none => none
def wD (s : Str) : Option (List Bd) := cond (decide ((s.length : Int) > 200) || decide (((yY 0 s).length : Int) > 8)) none (u7 (yY 0 s))
def xt (l : List Bd) : Bool := (l.all fun b => isE b.1 && isE b.2) && B2 (l.length : Int) 1 8
theorem r7 : ∀ (l : List Str) (r : List Bd), u7 l = some r → (r.all fun b => isE b.1 && isE b.2) = true ∧ r.length = l.length
  | [], r, h => by cases h; exact ⟨rfl, rfl⟩
  | p :: l, r, h => by
    unfold u7 at h
    cases hp : xT p with
    | none => rw [hp] at h; cases h
    | some b =>
      rw [hp] at h
      simp only at h
      cases hl : u7 l with
      | none => rw [hl] at h; cases h
      | some bs =>
        rw [hl] at h
        cases h
        obtain ⟨h1, h2⟩ := r7 l bs hl
        obtain ⟨q1, q2⟩ := W9 hp
        refine ⟨?_, by simp [h2]⟩
        simp only [List.all_cons, q1, q2, h1]; rfl
/-- as the implementation asks -/
def iR (s : Str) : Option (List Bd) := cond (decide ((s.length : Int) > 200)) none (match u7 (yY 0 s) with | some l => cond (xt l) (some l) none | none => none)
theorem me (s : Str) : iR s = wD s := by
  unfold iR wD
  cases decide ((s.length : Int) > 200) with
  | true => rfl
  | false =>
    simp only [cond_false, Bool.false_or]
    cases ha : u7 (yY 0 s) with
    | none => cases decide (((yY 0 s).length : Int) > 8) <;> rfl
    | some l =>
      obtain ⟨h1, h2⟩ := r7 _ _ ha
      have hn : 1 ≤ (yY 0 s).length := by
        cases hc : yY 0 s with
        | nil => exact absurd hc (qZ 0 s)
        | cons p q => simp
      have hr : xt l = !decide (((yY 0 s).length : Int) > 8) := by
        unfold xt B2
        rw [h1, h2, Bool.true_and, decide_eq_true (show (1 : Int) ≤ ((yY 0 s).length : Int) by omega), Bool.true_and]
        by_cases h : ((yY 0 s).length : Int) ≤ 8
        · rw [decide_eq_true h, decide_eq_false (by omega)]; rfl
        · rw [decide_eq_false h, decide_eq_true (by omega)]; rfl
      simp only
      rw [hr]
      cases decide (((yY 0 s).length : Int) > 8) <;> rfl
end Go.Proofs.YtmcephnfcciloaaGreatDoor
/- The library's searches, at fields. Conditions: those of each lemma. -/
namespace Go.Proofs.YtmcephnfcciloaaGreatDoor
open E
set_option linter.unusedSimpArgs false
set_option linter.unusedVariables false
set_option maxRecDepth 100000
/-- the first place at which something holds -/
def vv {α : Type} (p : α → Bool) : List α → Nat → Option Nat
  | [], _ => none
  | x :: r, n => if p x = true then some n else vv p r (n + 1)
def ixI : Option Nat → Int
  | some n => (n : Int)
  | none => -1
theorem ln {α : Type} (p : α → Bool) : ∀ (l : List α) (n : Nat), (vv p l n).isSome = l.any p
  | [], _ => rfl
  | x :: r, n => by
    simp only [vv, List.any_cons]
    split
    · rename_i h; simp [h]
    · rename_i h; rw [ln p r (n + 1)]; simp [h]
theorem TX {α : Type} (p : α → Bool) (l : List α) : decide (ixI (vv p l 0) ≥ 0) = l.any p := by
  rw [← ln p l 0]
  cases vv p l 0 with
  | none => rfl
  | some n => simp [ixI]
end Go.Proofs.YtmcephnfcciloaaGreatDoor
/- Packs and graphs, plain. Conditions: none. -/
namespace Go.Proofs.YtmcephnfcciloaaGreatDoor
open E
set_option linter.unusedVariables false
set_option linter.unusedSimpArgs false
set_option maxRecDepth 100000
def T4 : Str := [115, 104, 97, 49]
def ib : Str := [115, 104, 97, 50, 53, 54]
def h1S : Str := [104, 49]
def ia : Str := [115, 104, 97, 53, 49, 50]
def tK (a : Str) : Int := cond (a == T4) 20 (cond (a == ib || a == h1S) 32 (cond (a == ia) 64 (-1)))
/-- is a text above the one ahead, if there is one? -/
def vO (prev : Option Str) (s : Str) : Bool := match prev with
  | none => true
  | some p => Op.bytesLess p s
def vw : Option Str → List y6 → Bool
  | _, [] => true
  | prev, s :: r => (((s.bytes.length : Int) == tK s.alg) && vO prev s.alg) && vw (some s.alg) r
def keyOf (p : zN) : Str := (p.name ++ [64]) ++ p.version
def Tg (ps : List zN) (k : Str) : Bool := ps.any fun p => keyOf p == k
def pr (ps : List zN) (k : Str) : Option Nat := vv (fun p => keyOf p == k) ps 0
def xn (ps : List zN) : Option Str → List Str → Bool
  | _, [] => true
  | prev, k :: r => (Tg ps k && vO prev k) && xn ps (some k) r
def u0 (p : zN) : Bool := vx p.name && ((x6 p.version).isSome && (wJ p.source && vw none p.sums))
def wu (ps : List zN) : Option Str → List zN → Bool
  | _, [] => true
  | prev, p :: r => (u0 p && (vO prev (keyOf p) && xn ps none p.ym)) && wu ps (some (keyOf p)) r
def yH (g : zU) : Bool := wu g.packs none g.packs && (decide ((g.packs.length : Int) ≤ 40) && xn g.packs none g.top)
theorem UL {α : Type} (p : α → Bool) (l : List α) : decide (ixI (vv p l 0) < 0) = !(l.any p) := by
  rw [← ln p l 0]
  cases vv p l 0 with
  | none => rfl
  | some n =>
    have h : ¬ ((n : Int) < 0) := by omega
    show decide ((n : Int) < 0) = false
    exact decide_eq_false h
/-- the one ahead of a place -/
theorem uO {α : Type} (f : α → List T) (pre : List α) (q : α) (rest : List α) : uV ((pre ++ [q] ++ rest).map f) (((pre ++ [q]).length : Int) - 1) = some (f q) := by
  unfold uV
  rw [if_pos (by simp)]
  have e : (((pre ++ [q]).length : Int) - 1).toNat = pre.length := by simp
  rw [e]
  simp
theorem wL {α : Type} (f : α → List T) (pre : List α) (x : α) (rest : List α) : ((pre ++ x :: rest).map f)[pre.length]? = some (f x) := by simp
theorem TU (p : zN) : (keyOf p).length ≤ p.yg + 1 := by
  unfold keyOf zN.yg
  simp only [List.length_append, List.length_cons, List.length_nil]; omega
theorem wx {α : Type} (l : List α) : l = [] ∨ ∃ p q, l = p ++ [q] := by
  rcases List.eq_nil_or_concat l with h | ⟨p, q, h⟩
  · exact .inl h
  · exact .inr ⟨p, q, by rw [h, List.concat_eq_append]⟩
end Go.Proofs.YtmcephnfcciloaaGreatDoor
/- Ranges, by the implementation. Conditions: those of each lemma. -/
namespace Go.Proofs.YtmcephnfcciloaaGreatDoor
open E
set_option linter.unusedSimpArgs false
set_option linter.unusedVariables false
set_option maxRecDepth 100000
/-- bounds as the evaluator sees them -/
def bdT (l : List Bd) : List (List T) := l.map fun b => [.str b.1, .str b.2]
theorem xY (l : List Bd) : (bdT l).length = l.length := by simp [bdT]
theorem ZL (a b : List Bd) : bdT (a ++ b) = bdT a ++ bdT b := by simp [bdT]
def bdV (b : Bd) : V := .agg [.t (.str b.1), .t (.str b.2)]
theorem Ux (s : Str) : (!(s == []) && !(isV s)) = !(isE s) := by
  unfold isE
  cases (s == []) <;> cases isV s <;> rfl
theorem pd (s : Str) (hl : s.length ≤ 1048700) : zC (EV Tryz.prog pol) 130 [.t (.str s)] = some (.t (.bool (isV s))) := by
  have h := nj s hl
  unfold rvT at h
  unfold isV
  generalize (zM s).1 = v at *
  generalize (zM s).2 = ok at *
  simp only [Ver.enc, List.map_cons, List.map_nil] at h
  apply zw
  refine zy rfl Tryz.func130 rfl (by kernel_rfl) ?_
  unfold Tryz.f130
  simp (disch := ((try simp only [LL]); omega)) only [↓GO, ↓DRW, GA, ren, zA, zd, refs, zb, cst, zl, zG, z7, E.load, E.store, zF, isC, bin, zH, zI, una, z8, za, zh, zJ, blt, fnV, asArg, ze, zn, zo, zj, zi, zg, zk, zr, z6, zD, zE, E.mkS, zc, unN, zK, zm, zz, zB, zf, zL, zq, GS, simprocAttr, GZ, h]
theorem UD (l : List Bd) (hl : l.length ≤ 4194304) (hb : ∀ b ∈ l, b.1.length ≤ 1048700 ∧ b.2.length ≤ 1048700) : ∀ (rest pre : List Bd), l = pre ++ rest →
    EV Tryz.prog pol (.loop 98 26 0 [.t (.list 2 (bdT l)), .t (.list 2 (bdT l)), .t (.int .i64 (l.length : Int)), .t (.int .i64 (pre.length : Int))] []) = some (cond (rest.all fun b => isE b.1 && isE b.2) (.loop (.exit 0) [.t (.list 2 (bdT l)), .bad] []) (.loop .ret [.t (.list 2 (bdT l)), .t (.bool false)] []))
  | [], pre, hs => by
    have c : decide ((pre.length : Int) < (l.length : Int)) = false := by simp [hs]
    simp only [List.all_nil, cond_true]
    refine zu Tryz.func98 rfl rfl ?_
    simp (disch := ((try simp only [LL]); omega)) only [↓GO, ↓DRW, GA, ren, zA, zd, refs, zb, cst, zl, zG, z7, E.load, E.store, zF, isC, bin, zH, zI, una, z8, za, zh, zJ, blt, fnV, asArg, ze, zn, zo, zj, zi, zg, zk, zr, z6, zD, zE, E.mkS, zc, unN, zK, zm, zz, zB, zf, zL, zq, GS, simprocAttr, GZ, c]
  | x :: rest, pre, hs => by
    have c : decide ((pre.length : Int) < (l.length : Int)) = true := by simp [hs]; omega
    have hget : (bdT l)[pre.length]? = some [.str x.1, .str x.2] := by rw [hs]; exact wL (fun b : Bd => [T.str b.1, T.str b.2]) pre x rest
    have hlen : pre.length + rest.length + 1 ≤ l.length := by rw [hs]; simp; omega
    have hx := hb x (by rw [hs]; simp)
    have h1 := pd x.1 hx.1
    have h2 := pd x.2 hx.2
    have e1 := Ux x.1
    have e2 := Ux x.2
    have IH := UD l hl hb rest (pre ++ [x]) (by rw [hs]; simp)
    rw [show ((pre ++ [x]).length : Int) = (pre.length : Int) + 1 by simp] at IH
    clear hs hb
    rw [List.all_cons]
    generalize isE x.1 = a1 at *
    generalize isE x.2 = a2 at *
    generalize isV x.1 = b1 at *
    generalize isV x.2 = b2 at *
    cases h3 : (x.1 == []) <;> cases h4 : (x.2 == []) <;> cases b1 <;> cases b2 <;> rw [h3] at e1 <;> rw [h4] at e2 <;> cases a1 <;> cases a2 <;> first
      | (exfalso; revert e1; decide)
      | (exfalso; revert e2; decide)
      | (refine zu Tryz.func98 rfl rfl ?_; simp (disch := ((try simp only [LL]); omega)) only [↓GO, ↓DRW, GA, ren, zA, zd, refs, zb, cst, zl, zG, z7, E.load, E.store, zF, isC, bin, zH, zI, una, z8, za, zh, zJ, blt, fnV, asArg, ze, zn, zo, zj, zi, zg, zk, zr, z6, zD, zE, E.mkS, zc, unN, zK, zm, zz, zB, zf, zL, zq, GS, simprocAttr, GZ, c, hget, h1, h2, h3, h4, bne, zx, xY, IH])
theorem UU (l : List Bd) (hl : l.length ≤ 4194304) (hb : ∀ b ∈ l, b.1.length ≤ 1048700 ∧ b.2.length ≤ 1048700) : zC (EV Tryz.prog pol) 98 [.t (.list 2 (bdT l))] = some (.t (.bool (xt l))) := by
  have L := UD l hl hb l [] rfl
  have h := uS (l.length : Int) 1 8
  simp only [List.length_nil, Int.natCast_zero] at L
  unfold xt
  generalize B2 (l.length : Int) 1 8 = b2 at *
  cases ha : (l.all fun b => isE b.1 && isE b.2) <;> rw [ha] at L <;> simp only [cond_true, cond_false] at L
  all_goals
    apply zw
    refine zy rfl Tryz.func98 rfl (by kernel_rfl) ?_
    unfold Tryz.f98
    simp (disch := ((try simp only [LL]); omega)) only [↓GO, ↓DRW, GA, ren, zA, zd, refs, zb, cst, zl, zG, z7, E.load, E.store, zF, isC, bin, zH, zI, una, z8, za, zh, zJ, blt, fnV, asArg, ze, zn, zo, zj, zi, zg, zk, zr, z6, zD, zE, E.mkS, zc, unN, zK, zm, zz, zB, zf, zL, zq, GS, simprocAttr, GZ, L, h, xY]
theorem YK (s : Str) (hl : s.length ≤ 1048700) : zC (EV Tryz.prog pol) 132 [.t (.str s)] = some (.tup [bdV (wk s).1, .t (.bool (wk s).2)]) := by
  have h1 := pc s [46] (by omega) (by simp)
  rw [rL] at h1
  have hbk := xR 46 s
  unfold wk
  match hp : yi 46 s with
  | [] => exact absurd hp (yX 46 s)
  | [a] =>
    rw [hp] at h1 hbk
    simp only [yk, List.length_cons, List.length_nil] at hbk
    have d1 := lQ a (by omega)
    have hr := xy a
    have v1 := uT ⟨zP a, 0, 0, []⟩ (by simp [Ver.sm, yk])
    have v2 := lP (zP a) 1 0
    have v3 := lP (zP a + 1) 0 0
    have e0 : decide (zP a < 0) = !decide (0 ≤ zP a) := by
      by_cases h : zP a < 0
      · rw [decide_eq_true h, decide_eq_false (by omega)]; rfl
      · rw [decide_eq_false h, decide_eq_true (by omega)]; rfl
    simp only
    generalize yb ⟨zP a, 0, 0, []⟩ = t1 at *
    generalize ye (zP a) 1 0 = t2 at *
    generalize ye (zP a + 1) 0 0 = t3 at *
    generalize zP a = ra at *
    simp only [xp, yf, Ver.enc, List.map_cons, List.map_nil, bdV] at h1 v1 ⊢
    cases hd : decide (0 ≤ ra) <;> rw [hd] at e0 <;> simp only [Bool.not_true, Bool.not_false] at e0
    · have L : EV Tryz.prog pol (.loop 132 250 0 [.ptr 0 0 0, .t (.list 1 [[.str a]]), .sl 1 0 2 (some 2), .t (.list 1 [[.str a]]), .t (.int .i64 1), .t (.int .i64 0)] [.vs 2 [[.t (.str []), .t (.str [])]], .ts 1 [[.int .i64 0], [.int .i64 0]]])
          = some (.loop .ret [.ptr 0 0 0, .t (.bool false), .t (.list 1 [[.str a]]), .sl 1 0 2 (some 2)] [.vs 2 [[.t (.str []), .t (.str [])]], .ts 1 [[.int .i64 ra], [.int .i64 0]]]) := by
        refine zu Tryz.func132 rfl rfl ?_
        simp (disch := ((try simp only [LL]); omega)) only [↓GO, ↓DRW, GA, ren, zA, zd, refs, zb, cst, zl, zG, z7, E.load, E.store, zF, isC, bin, zH, zI, una, z8, za, zh, zJ, blt, fnV, asArg, ze, zn, zo, zj, zi, zg, zk, zr, z6, zD, zE, E.mkS, zc, unN, zK, zm, zz, zB, zf, zL, zq, GS, simprocAttr, GZ, d1, e0, zx, zZ]
      apply zw
      refine zy rfl Tryz.func132 rfl (by kernel_rfl) ?_
      unfold Tryz.f132
      simp (disch := ((try simp only [LL]); omega)) only [↓GO, ↓DRW, GA, ren, zA, zd, refs, zb, cst, zl, zG, z7, E.load, E.store, zF, isC, bin, zH, zI, una, z8, za, zh, zJ, blt, fnV, asArg, ze, zn, zo, zj, zi, zg, zk, zr, z6, zD, zE, E.mkS, zc, unN, zK, zm, zz, zB, zf, zL, zq, GS, simprocAttr, GZ, h1, L, zZ]
    · have L : EV Tryz.prog pol (.loop 132 250 0 [.ptr 0 0 0, .t (.list 1 [[.str a]]), .sl 1 0 2 (some 2), .t (.list 1 [[.str a]]), .t (.int .i64 1), .t (.int .i64 0)] [.vs 2 [[.t (.str []), .t (.str [])]], .ts 1 [[.int .i64 0], [.int .i64 0]]])
          = some (.loop (.exit 0) [.ptr 0 0 0, .bad, .t (.list 1 [[.str a]]), .sl 1 0 2 (some 2)] [.vs 2 [[.t (.str []), .t (.str [])]], .ts 1 [[.int .i64 ra], [.int .i64 0]]]) := by
        refine zu Tryz.func132 rfl rfl ?_
        simp (disch := ((try simp only [LL]); omega)) only [↓GO, ↓DRW, GA, ren, zA, zd, refs, zb, cst, zl, zG, z7, E.load, E.store, zF, isC, bin, zH, zI, una, z8, za, zh, zJ, blt, fnV, asArg, ze, zn, zo, zj, zi, zg, zk, zr, z6, zD, zE, E.mkS, zc, unN, zK, zm, zz, zB, zf, zL, zq, GS, simprocAttr, GZ, d1, e0, zx, zZ, Int.reduceAdd]
        refine zu Tryz.func132 rfl rfl ?_
        simp (disch := ((try simp only [LL]); omega)) only [↓GO, ↓DRW, GA, ren, zA, zd, refs, zb, cst, zl, zG, z7, E.load, E.store, zF, isC, bin, zH, zI, una, z8, za, zh, zJ, blt, fnV, asArg, ze, zn, zo, zj, zi, zg, zk, zr, z6, zD, zE, E.mkS, zc, unN, zK, zm, zz, zB, zf, zL, zq, GS, simprocAttr, GZ, zZ]
      apply zw
      refine zy rfl Tryz.func132 rfl (by kernel_rfl) ?_
      unfold Tryz.f132
      simp (disch := ((try simp only [LL]); omega)) only [↓GO, ↓DRW, GA, ren, zA, zd, refs, zb, cst, zl, zG, z7, E.load, E.store, zF, isC, bin, zH, zI, una, z8, za, zh, zJ, blt, fnV, asArg, ze, zn, zo, zj, zi, zg, zk, zr, z6, zD, zE, E.mkS, zc, unN, zK, zm, zz, zB, zf, zL, zq, GS, simprocAttr, GZ, h1, L, v1, v2, v3, zx, Int.reduceAdd, yf, zZ]
      refine yP (by kernel_rfl) ?_
      simp (disch := ((try simp only [LL]); omega)) only [↓GO, ↓DRW, GA, ren, zA, zd, refs, zb, cst, zl, zG, z7, E.load, E.store, zF, isC, bin, zH, zI, una, z8, za, zh, zJ, blt, fnV, asArg, ze, zn, zo, zj, zi, zg, zk, zr, z6, zD, zE, E.mkS, zc, unN, zK, zm, zz, zB, zf, zL, zq, GS, simprocAttr, GZ, h1, L, v1, v2, v3, zx, Int.reduceAdd, yf, zZ]
  | [a, b] =>
    rw [hp] at h1 hbk
    simp only [yk, List.length_cons, List.length_nil] at hbk
    have d1 := lQ a (by omega)
    have d2 := lQ b (by omega)
    have hr := xy a
    have hr2 := xy b
    have v1 := uT ⟨zP a, zP b, 0, []⟩ (by simp [Ver.sm, yk])
    have v2 := lP (zP a) (zP b + 1) 0
    have e0 : decide (zP a < 0) = !decide (0 ≤ zP a) := by
      by_cases h : zP a < 0
      · rw [decide_eq_true h, decide_eq_false (by omega)]; rfl
      · rw [decide_eq_false h, decide_eq_true (by omega)]; rfl
    have e1 : decide (zP b < 0) = !decide (0 ≤ zP b) := by
      by_cases h : zP b < 0
      · rw [decide_eq_true h, decide_eq_false (by omega)]; rfl
      · rw [decide_eq_false h, decide_eq_true (by omega)]; rfl
    simp only
    generalize yb ⟨zP a, zP b, 0, []⟩ = t1 at *
    generalize ye (zP a) (zP b + 1) 0 = t2 at *
    generalize zP a = ra at *
    generalize zP b = rb at *
    simp only [xp, yf, Ver.enc, List.map_cons, List.map_nil, bdV] at h1 v1 ⊢
    cases hd : decide (0 ≤ ra) <;> rw [hd] at e0 <;> simp only [Bool.not_true, Bool.not_false] at e0
    · have L : EV Tryz.prog pol (.loop 132 250 0 [.ptr 0 0 0, .t (.list 1 [[.str a], [.str b]]), .sl 1 0 2 (some 2), .t (.list 1 [[.str a], [.str b]]), .t (.int .i64 2), .t (.int .i64 0)] [.vs 2 [[.t (.str []), .t (.str [])]], .ts 1 [[.int .i64 0], [.int .i64 0]]])
          = some (.loop .ret [.ptr 0 0 0, .t (.bool false), .t (.list 1 [[.str a], [.str b]]), .sl 1 0 2 (some 2)] [.vs 2 [[.t (.str []), .t (.str [])]], .ts 1 [[.int .i64 ra], [.int .i64 0]]]) := by
        refine zu Tryz.func132 rfl rfl ?_
        simp (disch := ((try simp only [LL]); omega)) only [↓GO, ↓DRW, GA, ren, zA, zd, refs, zb, cst, zl, zG, z7, E.load, E.store, zF, isC, bin, zH, zI, una, z8, za, zh, zJ, blt, fnV, asArg, ze, zn, zo, zj, zi, zg, zk, zr, z6, zD, zE, E.mkS, zc, unN, zK, zm, zz, zB, zf, zL, zq, GS, simprocAttr, GZ, d1, e0, zx, zZ]
      apply zw
      refine zy rfl Tryz.func132 rfl (by kernel_rfl) ?_
      unfold Tryz.f132
      simp (disch := ((try simp only [LL]); omega)) only [↓GO, ↓DRW, GA, ren, zA, zd, refs, zb, cst, zl, zG, z7, E.load, E.store, zF, isC, bin, zH, zI, una, z8, za, zh, zJ, blt, fnV, asArg, ze, zn, zo, zj, zi, zg, zk, zr, z6, zD, zE, E.mkS, zc, unN, zK, zm, zz, zB, zf, zL, zq, GS, simprocAttr, GZ, h1, L, zZ]
    · cases he : decide (0 ≤ rb) <;> rw [he] at e1 <;> simp only [Bool.not_true, Bool.not_false] at e1
      · have L : EV Tryz.prog pol (.loop 132 250 0 [.ptr 0 0 0, .t (.list 1 [[.str a], [.str b]]), .sl 1 0 2 (some 2), .t (.list 1 [[.str a], [.str b]]), .t (.int .i64 2), .t (.int .i64 0)] [.vs 2 [[.t (.str []), .t (.str [])]], .ts 1 [[.int .i64 0], [.int .i64 0]]])
            = some (.loop .ret [.ptr 0 0 0, .t (.bool false), .t (.list 1 [[.str a], [.str b]]), .sl 1 0 2 (some 2)] [.vs 2 [[.t (.str []), .t (.str [])]], .ts 1 [[.int .i64 ra], [.int .i64 rb]]]) := by
          refine zu Tryz.func132 rfl rfl ?_
          simp (disch := ((try simp only [LL]); omega)) only [↓GO, ↓DRW, GA, ren, zA, zd, refs, zb, cst, zl, zG, z7, E.load, E.store, zF, isC, bin, zH, zI, una, z8, za, zh, zJ, blt, fnV, asArg, ze, zn, zo, zj, zi, zg, zk, zr, z6, zD, zE, E.mkS, zc, unN, zK, zm, zz, zB, zf, zL, zq, GS, simprocAttr, GZ, d1, e0, zx, zZ, Int.reduceAdd]
          refine zu Tryz.func132 rfl rfl ?_
          simp (disch := ((try simp only [LL]); omega)) only [↓GO, ↓DRW, GA, ren, zA, zd, refs, zb, cst, zl, zG, z7, E.load, E.store, zF, isC, bin, zH, zI, una, z8, za, zh, zJ, blt, fnV, asArg, ze, zn, zo, zj, zi, zg, zk, zr, z6, zD, zE, E.mkS, zc, unN, zK, zm, zz, zB, zf, zL, zq, GS, simprocAttr, GZ, d2, e1, zx, zZ]
        apply zw
        refine zy rfl Tryz.func132 rfl (by kernel_rfl) ?_
        unfold Tryz.f132
        simp (disch := ((try simp only [LL]); omega)) only [↓GO, ↓DRW, GA, ren, zA, zd, refs, zb, cst, zl, zG, z7, E.load, E.store, zF, isC, bin, zH, zI, una, z8, za, zh, zJ, blt, fnV, asArg, ze, zn, zo, zj, zi, zg, zk, zr, z6, zD, zE, E.mkS, zc, unN, zK, zm, zz, zB, zf, zL, zq, GS, simprocAttr, GZ, h1, L, zZ]
      · have L : EV Tryz.prog pol (.loop 132 250 0 [.ptr 0 0 0, .t (.list 1 [[.str a], [.str b]]), .sl 1 0 2 (some 2), .t (.list 1 [[.str a], [.str b]]), .t (.int .i64 2), .t (.int .i64 0)] [.vs 2 [[.t (.str []), .t (.str [])]], .ts 1 [[.int .i64 0], [.int .i64 0]]])
            = some (.loop (.exit 0) [.ptr 0 0 0, .bad, .t (.list 1 [[.str a], [.str b]]), .sl 1 0 2 (some 2)] [.vs 2 [[.t (.str []), .t (.str [])]], .ts 1 [[.int .i64 ra], [.int .i64 rb]]]) := by
          refine zu Tryz.func132 rfl rfl ?_
          simp (disch := ((try simp only [LL]); omega)) only [↓GO, ↓DRW, GA, ren, zA, zd, refs, zb, cst, zl, zG, z7, E.load, E.store, zF, isC, bin, zH, zI, una, z8, za, zh, zJ, blt, fnV, asArg, ze, zn, zo, zj, zi, zg, zk, zr, z6, zD, zE, E.mkS, zc, unN, zK, zm, zz, zB, zf, zL, zq, GS, simprocAttr, GZ, d1, e0, zx, zZ, Int.reduceAdd]
          refine zu Tryz.func132 rfl rfl ?_
          simp (disch := ((try simp only [LL]); omega)) only [↓GO, ↓DRW, GA, ren, zA, zd, refs, zb, cst, zl, zG, z7, E.load, E.store, zF, isC, bin, zH, zI, una, z8, za, zh, zJ, blt, fnV, asArg, ze, zn, zo, zj, zi, zg, zk, zr, z6, zD, zE, E.mkS, zc, unN, zK, zm, zz, zB, zf, zL, zq, GS, simprocAttr, GZ, d2, e1, zx, zZ, Int.reduceAdd]
          refine zu Tryz.func132 rfl rfl ?_
          simp (disch := ((try simp only [LL]); omega)) only [↓GO, ↓DRW, GA, ren, zA, zd, refs, zb, cst, zl, zG, z7, E.load, E.store, zF, isC, bin, zH, zI, una, z8, za, zh, zJ, blt, fnV, asArg, ze, zn, zo, zj, zi, zg, zk, zr, z6, zD, zE, E.mkS, zc, unN, zK, zm, zz, zB, zf, zL, zq, GS, simprocAttr, GZ, zZ]
        apply zw
        refine zy rfl Tryz.func132 rfl (by kernel_rfl) ?_
        unfold Tryz.f132
        simp (disch := ((try simp only [LL]); omega)) only [↓GO, ↓DRW, GA, ren, zA, zd, refs, zb, cst, zl, zG, z7, E.load, E.store, zF, isC, bin, zH, zI, una, z8, za, zh, zJ, blt, fnV, asArg, ze, zn, zo, zj, zi, zg, zk, zr, z6, zD, zE, E.mkS, zc, unN, zK, zm, zz, zB, zf, zL, zq, GS, simprocAttr, GZ, h1, L, v1, v2, zx, yf, zZ]
        refine yP (by kernel_rfl) ?_
        simp (disch := ((try simp only [LL]); omega)) only [↓GO, ↓DRW, GA, ren, zA, zd, refs, zb, cst, zl, zG, z7, E.load, E.store, zF, isC, bin, zH, zI, una, z8, za, zh, zJ, blt, fnV, asArg, ze, zn, zo, zj, zi, zg, zk, zr, z6, zD, zE, E.mkS, zc, unN, zK, zm, zz, zB, zf, zL, zq, GS, simprocAttr, GZ, h1, L, v1, v2, zx, yf, zZ]
  | a :: b :: c :: r =>
    rw [hp] at h1
    have hc : decide (((a :: b :: c :: r).length : Int) > 2) = true := by apply decide_eq_true; simp only [List.length_cons]; omega
    simp only [bdV]
    generalize a :: b :: c :: r = ps at *
    apply zw
    refine zy rfl Tryz.func132 rfl (by kernel_rfl) ?_
    unfold Tryz.f132
    simp (disch := ((try simp only [LL]); omega)) only [↓GO, ↓DRW, GA, ren, zA, zd, refs, zb, cst, zl, zG, z7, E.load, E.store, zF, isC, bin, zH, zI, una, z8, za, zh, zJ, blt, fnV, asArg, ze, zn, zo, zj, zi, zg, zk, zr, z6, zD, zE, E.mkS, zc, unN, zK, zm, zz, zB, zf, zL, zq, GS, simprocAttr, GZ, h1, hc, zO, zZ]
theorem YN (s p : Str) (hs : s.length ≤ 9223372036854775807) (hp : p.length ≤ 9223372036854775807) : zC (EV Tryz.prog pol) 160 [.t (.str s), .t (.str p)] = some (.tup [.t (.str (cond (p.isPrefixOf s) (s.drop p.length) s)), .t (.bool (p.isPrefixOf s))]) := by
  have h := pV s p hs hp
  cases hb : p.isPrefixOf s with
  | false =>
    rw [hb] at h
    apply zw
    refine zy rfl Tryz.func160 rfl (by kernel_rfl) ?_
    unfold Tryz.f160
    simp (disch := ((try simp only [LL]); omega)) only [↓GO, ↓DRW, GA, ren, zA, zd, refs, zb, cst, zl, zG, z7, E.load, E.store, zF, isC, bin, zH, zI, una, z8, za, zh, zJ, blt, fnV, asArg, ze, zn, zo, zj, zi, zg, zk, zr, z6, zD, zE, E.mkS, zc, unN, zK, zm, zz, zB, zf, zL, zq, GS, simprocAttr, GZ, h]
  | true =>
    have h2 := l0 hb
    rw [hb] at h
    apply zw
    refine zy rfl Tryz.func160 rfl (by kernel_rfl) ?_
    unfold Tryz.f160
    simp (disch := ((try simp only [LL]); omega)) only [↓GO, ↓DRW, GA, ren, zA, zd, refs, zb, cst, zl, zG, z7, E.load, E.store, zF, isC, bin, zH, zI, una, z8, za, zh, zJ, blt, fnV, asArg, ze, zn, zo, zj, zi, zg, zk, zr, z6, zD, zE, E.mkS, zc, unN, zK, zm, zz, zB, zf, zL, zq, GS, simprocAttr, GZ, h]
theorem dD (s p : Str) (hs : s.length ≤ 9223372036854775807) (hp : p.length ≤ 9223372036854775807) : zC (EV Tryz.prog pol) 128 [.t (.str s), .t (.str p)] = some (.tup [.t (.str (cond (p.isPrefixOf s) (s.drop p.length) s)), .t (.bool (p.isPrefixOf s))]) := by
  have h := YN s p hs hp
  apply zw
  refine zy rfl Tryz.func128 rfl (by kernel_rfl) ?_
  unfold Tryz.f128
  simp (disch := ((try simp only [LL]); omega)) only [↓GO, ↓DRW, GA, ren, zA, zd, refs, zb, cst, zl, zG, z7, E.load, E.store, zF, isC, bin, zH, zI, una, z8, za, zh, zJ, blt, fnV, asArg, ze, zn, zo, zj, zi, zg, zk, zr, z6, zD, zE, E.mkS, zc, unN, zK, zm, zz, zB, zf, zL, zq, GS, simprocAttr, GZ, h]
theorem Wr (s : Str) : (xl s).1.length ≤ s.length ∧ (xl s).2.1.length ≤ s.length := by
  have h := congrArg List.length (iG s)
  rw [List.length_append] at h
  cases hc : (xl s).2.2 with
  | true => rw [hc] at h; simp only [cond_true, List.length_cons] at h; omega
  | false =>
    have : (xl s).2.1 = [] := by
      have key : ∀ s : Str, (xl s).2.2 = false → (xl s).2.1 = [] := fun s => by
        induction s with
        | nil => intro _; rfl
        | cons x r ih =>
          intro h
          rw [xl] at h ⊢
          split at h
          · cases h
          · rename_i hx; rw [if_neg hx]; exact ih h
      exact key s hc
    rw [this]; rw [hc] at h; simp only [cond_false, List.length_nil] at h ⊢; omega
theorem WM (s : Str) (hl : s.length ≤ 1048600) : zC (EV Tryz.prog pol) 96 [.t (.str s)] = some (.tup [bdV (xI s).1, .t (.bool (xI s).2)]) := by
  unfold xI
  cases h42 : (s == [42]) with
  | true =>
    simp only [cond_true, bdV]
    apply zw
    refine zy rfl Tryz.func96 rfl (by kernel_rfl) ?_
    unfold Tryz.f96
    simp (disch := ((try simp only [LL]); omega)) only [↓GO, ↓DRW, GA, ren, zA, zd, refs, zb, cst, zl, zG, z7, E.load, E.store, zF, isC, bin, zH, zI, una, z8, za, zh, zJ, blt, fnV, asArg, ze, zn, zo, zj, zi, zg, zk, zr, z6, zD, zE, E.mkS, zc, unN, zK, zm, zz, zB, zf, zL, zq, GS, simprocAttr, GZ, h42]
  | false =>
    have hrv := nj s (by omega)
    obtain ⟨m1, m2, m3, m4, m5, m6, m7⟩ := x7 s (by omega)
    have hpr := ou s (by omega)
    unfold rvT at hrv
    have hisv : (zM s).2 = isV s := rfl
    rw [hisv] at hrv
    simp only [cond_false]
    cases hv : isV s with
    | true =>
      have hal := ZJ (zM s).1 m1 (by omega) m7 m6
      rw [(yv (s := s) hv).2.1] at hal
      rw [hv] at hrv
      simp only [cond_true, bdV]
      generalize uY (zM s).1 = hi at *
      generalize (zM s).1 = v at *
      simp only [Ver.enc, List.map_cons, List.map_nil] at hrv hal ⊢
      apply zw
      refine zy rfl Tryz.func96 rfl (by kernel_rfl) ?_
      unfold Tryz.f96
      simp (disch := ((try simp only [LL]); omega)) only [↓GO, ↓DRW, GA, ren, zA, zd, refs, zb, cst, zl, zG, z7, E.load, E.store, zF, isC, bin, zH, zI, una, z8, za, zh, zJ, blt, fnV, asArg, ze, zn, zo, zj, zi, zg, zk, zr, z6, zD, zE, E.mkS, zc, unN, zK, zm, zz, zB, zf, zL, zq, GS, simprocAttr, GZ, h42, hrv, hal]
    | false =>
      have hc1 := dD s [62, 61] (by omega) (by simp)
      have hc2 := dD s [60] (by omega) (by simp)
      have hc3 := Ra (s.drop 2) [32, 60] (by rw [List.length_drop]; omega)
      have hcl := Wr (s.drop 2)
      rw [List.length_drop] at hcl
      have hi1 := pd (xl (s.drop 2)).1 (by omega)
      have hi2 := pd (xl (s.drop 2)).2.1 (by omega)
      rw [dq] at hc3
      have hi3 := pd (s.drop 1) (by rw [List.length_drop]; omega)
      have hpt := YK s (by omega)
      rw [hv] at hrv
      rw [show (([62, 61] : Str).isPrefixOf s) = geP s from rfl, show (([62, 61] : Str).length) = 2 from rfl] at hc1
      rw [show (([60] : Str).isPrefixOf s) = ltP s from rfl, show (([60] : Str).length) = 1 from rfl] at hc2
      generalize (zM s).1 = v at *
      simp only [Ver.enc, List.map_cons, List.map_nil] at hrv
      simp only [cond_false]
      cases hg : geP s with
      | true =>
        rw [hg] at hc1
        simp only [cond_true] at hc1 ⊢
        generalize isV (xl (s.drop 2)).1 = b1 at *
        generalize isV (xl (s.drop 2)).2.1 = b2 at *
        generalize (xl (s.drop 2)).1 = c1 at *
        generalize (xl (s.drop 2)).2.1 = c2 at *
        generalize (xl (s.drop 2)).2.2 = b3 at *
        simp only [bdV]
        cases b1 <;> cases b3 <;> cases b2
        all_goals
          apply zw
          refine zy rfl Tryz.func96 rfl (by kernel_rfl) ?_
          unfold Tryz.f96
          simp (disch := ((try simp only [LL]); omega)) only [↓GO, ↓DRW, GA, ren, zA, zd, refs, zb, cst, zl, zG, z7, E.load, E.store, zF, isC, bin, zH, zI, una, z8, za, zh, zJ, blt, fnV, asArg, ze, zn, zo, zj, zi, zg, zk, zr, z6, zD, zE, E.mkS, zc, unN, zK, zm, zz, zB, zf, zL, zq, GS, simprocAttr, GZ, h42, hrv, hc1, hc3, hi1, hi2]
      | false =>
        rw [hg] at hc1
        simp only [cond_false] at hc1 ⊢
        cases hlp : ltP s with
        | true =>
          rw [hlp] at hc2
          simp only [cond_true] at hc2 ⊢
          generalize isV (s.drop 1) = b1 at *
          simp only [bdV]
          apply zw
          refine zy rfl Tryz.func96 rfl (by kernel_rfl) ?_
          unfold Tryz.f96
          simp (disch := ((try simp only [LL]); omega)) only [↓GO, ↓DRW, GA, ren, zA, zd, refs, zb, cst, zl, zG, z7, E.load, E.store, zF, isC, bin, zH, zI, una, z8, za, zh, zJ, blt, fnV, asArg, ze, zn, zo, zj, zi, zg, zk, zr, z6, zD, zE, E.mkS, zc, unN, zK, zm, zz, zB, zf, zL, zq, GS, simprocAttr, GZ, h42, hrv, hc1, hc2, hi3]
        | false =>
          rw [hlp] at hc2
          simp only [cond_false] at hc2 ⊢
          cases s with
          | nil =>
            simp only [hdB, Bool.or_false, cond_false]
            generalize wk [] = pp at *
            simp only [bdV] at hpt ⊢
            have hn : (([] : Str) == []) = true := rfl
            apply zw
            refine zy rfl Tryz.func96 rfl (by kernel_rfl) ?_
            unfold Tryz.f96
            simp (disch := ((try simp only [LL]); omega)) only [↓GO, ↓DRW, GA, ren, zA, zd, refs, zb, cst, zl, zG, z7, E.load, E.store, zF, isC, bin, zH, zI, una, z8, za, zh, zJ, blt, fnV, asArg, ze, zn, zo, zj, zi, zg, zk, zr, z6, zD, zE, E.mkS, zc, unN, zK, zm, zz, zB, zf, zL, zq, GS, simprocAttr, GZ, h42, hrv, hc1, hc2, hn, bne, hpt]
          | cons x r =>
            have hn : ((x :: r) == []) = false := rfl
            have hg0 : (x :: r)[0]? = some x := rfl
            have hdr : (x :: r).drop 1 = r := rfl
            have hxl : 1 ≤ (x :: r).length := by simp
            have h94 : ((x.toNat : Int) == 94) = (x == 94) := by
              rw [Bool.eq_iff_iff]; simp only [beq_iff_eq]
              constructor
              · intro h; exact UInt8.toNat_inj.1 (by rw [show (94 : UInt8).toNat = 94 from rfl]; omega)
              · intro h; rw [h]; rfl
            have h126 : ((x.toNat : Int) == 126) = (x == 126) := by
              rw [Bool.eq_iff_iff]; simp only [beq_iff_eq]
              constructor
              · intro h; exact UInt8.toNat_inj.1 (by rw [show (126 : UInt8).toNat = 126 from rfl]; omega)
              · intro h; rw [h]; rfl
            have hrr := nj r (by simp only [List.length_cons] at hl; omega)
            obtain ⟨n1, n2, n3, n4, n5, n6, n7⟩ := x7 r (by simp only [List.length_cons] at hl; omega)
            have z1 := lP (zM r).1.maj ((zM r).1.min + 1) 0
            have z2 := lP ((zM r).1.maj + 1) 0 0
            have z3 := lP 0 0 ((zM r).1.pat + 1)
            unfold rvT at hrr
            rw [show (zM r).2 = isV r from rfl] at hrr
            unfold T3
            rw [hdr]
            simp only [hdB]
            clear hi3 hc3 hi1 hi2 hcl
            generalize x :: r = xr at *
            generalize isV r = b1 at *
            unfold od
            generalize (zM r).1 = w at *
            generalize ye w.maj (w.min + 1) 0 = t1 at *
            generalize ye (w.maj + 1) 0 0 = t2 at *
            generalize ye 0 0 (w.pat + 1) = t3 at *
            generalize wk xr = pp at *
            simp only [Ver.enc, List.map_cons, List.map_nil, bdV] at hrr hpt ⊢
            cases e1 : (x == 94) <;> rw [e1] at h94
            · cases e2 : (x == 126) <;> rw [e2] at h126
              · apply zw
                refine zy rfl Tryz.func96 rfl (by kernel_rfl) ?_
                unfold Tryz.f96
                simp (disch := ((try simp only [LL]); omega)) only [↓GO, ↓DRW, GA, ren, zA, zd, refs, zb, cst, zl, zG, z7, E.load, E.store, zF, isC, bin, zH, zI, una, z8, za, zh, zJ, blt, fnV, asArg, ze, zn, zo, zj, zi, zg, zk, zr, z6, zD, zE, E.mkS, zc, unN, zK, zm, zz, zB, zf, zL, zq, GS, simprocAttr, GZ, h42, hrv, hc1, hc2, hn, bne, hg0, h94, h126, hpt]
              · apply zw
                refine zy rfl Tryz.func96 rfl (by kernel_rfl) ?_
                unfold Tryz.f96
                simp (disch := ((try simp only [LL]); omega)) only [↓GO, ↓DRW, GA, ren, zA, zd, refs, zb, cst, zl, zG, z7, E.load, E.store, zF, isC, bin, zH, zI, una, z8, za, zh, zJ, blt, fnV, asArg, ze, zn, zo, zj, zi, zg, zk, zr, z6, zD, zE, E.mkS, zc, unN, zK, zm, zz, zB, zf, zL, zq, GS, simprocAttr, GZ, h42, hrv, hc1, hc2, hn, bne, hg0, h94, h126, hdr, hrr, z1, zx]
            · cases e3 : decide (w.maj > 0)
              · cases e4 : (w.min == 0)
                all_goals
                  apply zw
                  refine zy rfl Tryz.func96 rfl (by kernel_rfl) ?_
                  unfold Tryz.f96
                  simp (disch := ((try simp only [LL]); omega)) only [↓GO, ↓DRW, GA, ren, zA, zd, refs, zb, cst, zl, zG, z7, E.load, E.store, zF, isC, bin, zH, zI, una, z8, za, zh, zJ, blt, fnV, asArg, ze, zn, zo, zj, zi, zg, zk, zr, z6, zD, zE, E.mkS, zc, unN, zK, zm, zz, zB, zf, zL, zq, GS, simprocAttr, GZ, h42, hrv, hc1, hc2, hn, bne, hg0, h94, hdr, hrr, z1, z2, z3, e3, e4, zx]
              · apply zw
                refine zy rfl Tryz.func96 rfl (by kernel_rfl) ?_
                unfold Tryz.f96
                simp (disch := ((try simp only [LL]); omega)) only [↓GO, ↓DRW, GA, ren, zA, zd, refs, zb, cst, zl, zG, z7, E.load, E.store, zF, isC, bin, zH, zI, una, z8, za, zh, zJ, blt, fnV, asArg, ze, zn, zo, zj, zi, zg, zk, zr, z6, zD, zE, E.mkS, zc, unN, zK, zm, zz, zB, zf, zL, zq, GS, simprocAttr, GZ, h42, hrv, hc1, hc2, hn, bne, hg0, h94, hdr, hrr, z1, z2, z3, e3, zx]
end Go.Proofs.YtmcephnfcciloaaGreatDoor
/- Ranges, by the implementation: the whole. Conditions: those of each lemma. -/
namespace Go.Proofs.YtmcephnfcciloaaGreatDoor
open E
set_option linter.unusedSimpArgs false
set_option linter.unusedVariables false
set_option maxRecDepth 100000
theorem fJ : ∀ l : List Str, (l.all fun p => wA p) = true → yk l ≤ 20 * l.length
  | [], _ => by simp [yk]
  | p :: l, h => by
    simp only [List.all_cons, Bool.and_eq_true] at h
    have ih := fJ l h.2
    have h1 := h.1
    unfold wA B2 at h1
    simp only [Bool.and_eq_true, decide_eq_true_eq] at h1
    have := h1.1.2
    simp only [yk, List.length_cons]
    omega
theorem lT {v : Ver} (h : yw v = true) : (yb v).length ≤ 140 := by
  obtain ⟨_, _, _, h4, h5⟩ := wg h
  have h6 := fJ v.pre h4
  have h7 := dw h
  have h8 := kj (vr v) v.pre
  unfold yb
  rw [h, cond_true]
  omega
theorem Yr {s : Str} (h : isV s = true) : s.length ≤ 140 := by
  obtain ⟨_, ht, ho, _⟩ := yv h
  have := lT ho
  rwa [ht] at this
theorem kZ {s : Str} (h : isE s = true) : s.length ≤ 140 := by
  unfold isE at h
  rw [Bool.or_eq_true] at h
  rcases h with h | h
  · exact Yr h
  · rw [eq_of_beq h]; simp
theorem mN {ps : List Str} {l : List Bd} (h : u7 ps = some l) : ∀ b ∈ l, b.1.length ≤ 140 ∧ b.2.length ≤ 140 := fun b hb => by
  have h1 := (r7 ps l h).1
  rw [List.all_eq_true] at h1
  have h2 := h1 b hb
  rw [Bool.and_eq_true] at h2
  exact ⟨kZ h2.1, kZ h2.2⟩
theorem Y7 (s sep : Str) : sA s sep = Lib.split s sep := by
  unfold sA Lib.split Lib.countB
  rw [Lib.splitB_data]
/-- what a reading of ranges gives -/
def rrT : Option (List Bd) → V
  | some l => .tup [.t (.list 2 (bdT l)), .t (.bool true)]
  | none => .tup [.t (.list 2 []), .t (.bool false)]
/-- how the loop ends -/
def nf (ps : List Str) (acc : List Bd) (cap : Option Nat) (x : List Bd) : Option (List Bd) → xS
  | some bs => .loop (.exit 0) [.bad, .bad, .sl 0 0 (acc.length + bs.length) cap] [.ts 2 (bdT (acc ++ bs))]
  | none => .loop .ret [.nil 2, .t (.bool false), .sl 0 0 x.length cap] [.ts 2 (bdT x)]
set_option maxHeartbeats 4000000 in
theorem SW (ps : List Str) (hl : ps.length ≤ 1048576) (hb : ∀ p ∈ ps, p.length ≤ 1048576) : ∀ (rest pre : List Str) (acc : List Bd) (cap : Option Nat) (m : Nat), ps = pre ++ rest → m = acc.length → acc.length = pre.length →
    ∃ cap' x, EV Tryz.prog pol (.loop 64 122 0 [.sl 0 0 m cap, .t (.list 1 (zV ps)), .t (.int .i64 (ps.length : Int)), .t (.int .i64 (pre.length : Int))] [.ts 2 (bdT acc)]) = some (nf ps acc cap' x (u7 rest))
  | [], pre, acc, cap, m, hs, hm, ha => by
    have c : decide ((pre.length : Int) < (ps.length : Int)) = false := by simp [hs]
    refine ⟨cap, [], ?_⟩
    simp only [u7, nf, List.append_nil, List.length_nil, Nat.add_zero]
    subst hm
    refine zu Tryz.func64 rfl rfl ?_
    simp (disch := ((try simp only [LL]); omega)) only [↓GO, ↓DRW, GA, ren, zA, zd, refs, zb, cst, zl, zG, z7, E.load, E.store, zF, isC, bin, zH, zI, una, z8, za, zh, zJ, blt, fnV, asArg, ze, zn, zo, zj, zi, zg, zk, zr, z6, zD, zE, E.mkS, zc, unN, zK, zm, zz, zB, zf, zL, zq, GS, simprocAttr, GZ, c, zZ]
  | p :: rest, pre, acc, cap, m, hs, hm, ha => by
    have c : decide ((pre.length : Int) < (ps.length : Int)) = true := by simp [hs]; omega
    have hget : (zV ps)[pre.length]? = some [.str p] := by rw [hs]; exact wL (fun s : Str => [T.str s]) pre p rest
    have hlen : pre.length + rest.length + 1 ≤ ps.length := by rw [hs]; simp; omega
    have hpb := hb p (by rw [hs]; simp)
    have hB := WM p (by omega)
    have h1 := lz p [60] (by omega) (by simp)
    have h2 := lz p [62, 61] (by omega) (by simp)
    rw [show ([60] : Str).isPrefixOf p = ltP p from rfl] at h1
    rw [show ([62, 61] : Str).isPrefixOf p = geP p from rfl] at h2
    have hchk := Wu p
    unfold tT rf at hchk
    have IHs := fun b => SW ps hl hb rest (pre ++ [p]) (acc ++ [b]) none (m + 1) (by rw [hs]; simp) (by simp [hm]) (by simp [ha])
    rw [show ((pre ++ [p]).length : Int) = (pre.length : Int) + 1 by simp] at IHs
    have hol : (bdT acc).length = m := by rw [xY, hm]
    have hml : m ≤ 1048578 := by omega
    have hm0 := hm
    clear hs hb
    simp only [u7]
    rw [← hchk]
    clear hchk
    generalize xI p = bb at *
    obtain ⟨⟨lo, hi⟩, ok⟩ := bb
    simp only [bdV] at hB
    simp only
    cases h3 : (p == [42]) <;> cases h4 : ltP p <;> rw [h4] at h1 <;> cases h5 : geP p <;> rw [h5] at h2 <;> cases ok <;> cases e1 : (lo == []) <;> cases e2 : (hi == []) <;>
      simp only [Bool.or_true, Bool.true_or, Bool.or_false, Bool.false_or, Bool.not_true, Bool.not_false, Bool.and_true, Bool.true_and, Bool.and_false, Bool.false_and, cond_true, cond_false]
    all_goals first
      | (refine ⟨cap, acc, ?_⟩
         unfold nf
         rw [hm]
         refine zu Tryz.func64 rfl rfl ?_
         simp (disch := ((try simp only [LL]); omega)) only [↓GO, ↓DRW, GA, ren, zA, zd, refs, zb, cst, zl, zG, z7, E.load, E.store, zF, isC, bin, zH, zI, una, z8, za, zh, zJ, blt, fnV, asArg, ze, zn, zo, zj, zi, zg, zk, zr, z6, zD, zE, E.mkS, zc, unN, zK, zm, zz, zB, zf, zL, zq, GS, simprocAttr, GZ, c, hget, hB, h1, h2, h3, e1, e2, zx, hol, zZ, xK]
         done)
      | (obtain ⟨cap', x, IH⟩ := IHs (lo, hi)
         refine ⟨cap', x, ?_⟩
         rw [ZL, show bdT [(lo, hi)] = [[T.str lo, T.str hi]] from rfl] at IH
         rw [show nf ps (acc ++ [(lo, hi)]) cap' x (u7 rest) = nf ps acc cap' x (match u7 rest with | some bs => some ((lo, hi) :: bs) | none => none) by
           cases u7 rest with
           | none => rfl
           | some bs => simp only [nf]; rw [List.append_assoc]; simp only [List.length_append, List.length_cons, List.length_nil, List.cons_append, List.nil_append]; rw [show acc.length + (0 + 1) + bs.length = acc.length + (bs.length + 1) by omega]] at IH
         refine zu Tryz.func64 rfl rfl ?_
         simp (disch := ((try simp only [LL]); omega)) only [↓GO, ↓DRW, GA, ren, zA, zd, refs, zb, cst, zl, zG, z7, E.load, E.store, zF, isC, bin, zH, zI, una, z8, za, zh, zJ, blt, fnV, asArg, ze, zn, zo, zj, zi, zg, zk, zr, z6, zD, zE, E.mkS, zc, unN, zK, zm, zz, zB, zf, zL, zq, GS, simprocAttr, GZ, c, hget, hB, h1, h2, h3, e1, e2, zx, hol, IH, zZ, xK]
         try (cases u7 rest <;> rfl))
theorem R8 (s : Str) (hl : s.length ≤ 1048576) : zC (EV Tryz.prog pol) 64 [.t (.str s)] = some (rrT (iR s)) := by
  unfold iR
  cases h200 : decide ((s.length : Int) > 200) with
  | true =>
    simp only [cond_true, rrT]
    apply zw
    refine zy rfl Tryz.func64 rfl (by kernel_rfl) ?_
    unfold Tryz.f64
    simp (disch := ((try simp only [LL]); omega)) only [↓GO, ↓DRW, GA, ren, zA, zd, refs, zb, cst, zl, zG, z7, E.load, E.store, zF, isC, bin, zH, zI, una, z8, za, zh, zJ, blt, fnV, asArg, ze, zn, zo, zj, zi, zg, zk, zr, z6, zD, zE, E.mkS, zc, unN, zK, zm, zz, zB, zf, zL, zq, GS, simprocAttr, GZ, h200]
  | false =>
    have h2 := of_decide_eq_false h200
    have h1 := pc s [32, 124, 124, 32] (by omega) (by simp)
    have hsp : sA s [32, 124, 124, 32] = yY 0 s := by
      rw [Y7]; exact rK s.length s (Nat.le_refl _)
    rw [hsp] at h1
    have hbk := uH 0 s
    have hmem : ∀ p ∈ yY 0 s, p.length ≤ 1048576 := fun p hp => by have := wb hp; omega
    simp only [cond_false]
    generalize yY 0 s = ps at *
    obtain ⟨cap, x, L⟩ := SW ps (by omega) hmem ps [] [] (some 0) 0 rfl rfl rfl
    rw [show bdT [] = [] from rfl] at L
    simp only [List.length_nil, Int.natCast_zero] at L
    cases ha : u7 ps with
    | none =>
      rw [ha] at L
      simp only [nf, rrT] at L ⊢
      apply zw
      refine zy rfl Tryz.func64 rfl (by kernel_rfl) ?_
      unfold Tryz.f64
      simp (disch := ((try simp only [LL]); omega)) only [↓GO, ↓DRW, GA, ren, zA, zd, refs, zb, cst, zl, zG, z7, E.load, E.store, zF, isC, bin, zH, zI, una, z8, za, zh, zJ, blt, fnV, asArg, ze, zn, zo, zj, zi, zg, zk, zr, z6, zD, zE, E.mkS, zc, unN, zK, zm, zz, zB, zf, zL, zq, GS, simprocAttr, GZ, h200, h1, L, zO, zZ]
    | some l =>
      have hsh := mN ha
      have hll := (r7 ps l ha).2
      rw [ha] at L
      simp only [nf, List.nil_append, List.length_nil, Nat.zero_add] at L ⊢
      have hr := UU l (by omega) (fun b hb => by have := hsh b hb; omega)
      have ht : (bdT l).take l.length = bdT l := List.take_of_length_le (by rw [xY]; omega)
      cases hk : xt l <;> rw [hk] at hr <;> simp only [cond_true, cond_false, rrT]
      all_goals
        apply zw
        refine zy rfl Tryz.func64 rfl (by kernel_rfl) ?_
        unfold Tryz.f64
        simp (disch := ((try simp only [LL]); omega)) only [↓GO, ↓DRW, GA, ren, zA, zd, refs, zb, cst, zl, zG, z7, E.load, E.store, zF, isC, bin, zH, zI, una, z8, za, zh, zJ, blt, fnV, asArg, ze, zn, zo, zj, zi, zg, zk, zr, z6, zD, zE, E.mkS, zc, unN, zK, zm, zz, zB, zf, zL, zq, GS, simprocAttr, GZ, h200, h1, L, zO, hr, ht, xY, zZ]
end Go.Proofs.YtmcephnfcciloaaGreatDoor

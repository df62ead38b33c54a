/- Joined: K8 K23 K24 B10 W9. Conditions: those of each lemma. -/
import Derived.Test.YtmcephnfcciloaaGreatDoorUL
import Derived.Test.YtmcephnfcciloaaGreatDoorUK
set_option linter.unusedVariables false
set_option linter.unusedSimpArgs false
namespace Go.Proofs.YtmcephnfcciloaaGreatDoor
open E
set_option linter.unusedSimpArgs false
set_option linter.unusedVariables false
set_option maxRecDepth 100000
theorem ni {p : zL} {n : Nat} (h : p.yh ≤ n) : p.needs.length ≤ n ∧ yk p.needs ≤ n ∧ p.sums.length ≤ n ∧ zZ.ya p.sums ≤ n ∧ p.name.length ≤ n ∧ p.version.length ≤ n ∧ p.source.length ≤ n := by
  unfold zL.yh at h; omega
theorem VT (g : zU) (hB : GB g) : ∀ (rest pre : List zL), g.packs = pre ++ rest →
    EV Tryz.prog pol (.loop 33 26 0 [.ptr 0 0 0, .t (.list 6 (zL.zV g.packs)), .t (.int .i64 (g.packs.length : Int)), .t (.int .i64 (pre.length : Int))] [.vs 2 [g.enc.map .t]]) = some (cond (wT g.packs (pre.getLast?.map keyOf) rest) (.loop (.exit 0) [.ptr 0 0 0, .bad] [.vs 2 [g.enc.map .t]]) (.loop .ret [.ptr 0 0 0, .t (.bool false)] [.vs 2 [g.enc.map .t]]))
  | [], pre, hs => by
    have c : decide ((pre.length : Int) < (g.packs.length : Int)) = false := by simp [hs]
    simp only [zU.enc, List.map_cons, List.map_nil]
    refine zz Tryz.func33 rfl rfl ?_
    simp (disch := ((try simp only [LL]); omega)) only [↓GO, ↓DRW, GA, ren, zB, zf, refs, zb, cst, zl, zH, z7, E.load, E.store, zG, isC, bin, zI, zJ, una, z8, za, zh, zK, blt, fnV, asArg, zd, zn, zo, zj, zi, zg, zk, zr, z6, zD, zF, mkS, zc, unN, zM, zm, zy, zC, ze, zN, zq, GS, Int.reduceToNat, Nat.reduceGT, ↓reduceIte, Nat.reduceAdd, Nat.reduceMul, Nat.reduceSub, Nat.reduceEqDiff, Nat.reduceLeDiff, Nat.reduceLT, Nat.reduceBEq, Int.reduceBEq, Int.reduceBNe, Int.reduceEq, Int.reduceLT, Int.reduceLE, Int.reduceGT, Int.reduceNeg, reduceCtorEq, GZ, c, wT, zY]
  | x :: rest, pre, hs => by
    obtain ⟨b1, b2, b3⟩ := hB.len
    have c : decide ((pre.length : Int) < (g.packs.length : Int)) = true := by simp [hs]; omega
    have hget : (zL.zV g.packs)[pre.length]? = some x.enc := by rw [hs]; exact wy zL.enc pre x rest
    have hlen : pre.length + rest.length + 1 ≤ g.packs.length := by rw [hs]; simp; omega
    have hxb := b3 x (by rw [hs]; simp)
    have IH := VT g hB rest (pre ++ [x]) (by rw [hs]; simp)
    have h1 := Tp x hxb
    have h2 := jT x (by omega)
    have h3 := aG g hB x.needs (ni hxb).1
    rw [show ((pre ++ [x]).length : Int) = (pre.length : Int) + 1 by simp, show (pre ++ [x]).getLast?.map keyOf = some (keyOf x) by simp] at IH
    rw [wT]
    generalize rK x = a1 at *
    generalize xX g.packs none x.needs = a2 at *
    rcases wh pre with rfl | ⟨pre', q, rfl⟩
    · clear hs
      generalize keyOf x = kx at *
      simp only [List.length_nil, List.getLast?_nil, Option.map_none, vR, Int.natCast_zero, Int.zero_add] at *
      simp only [zU.enc, zL.enc, List.map_cons, List.map_nil] at hget h1 h2 h3 IH ⊢
      cases a1 <;> cases a2
      all_goals
        refine zz Tryz.func33 rfl rfl ?_
        simp (disch := ((try simp only [LL]); omega)) only [↓GO, ↓DRW, GA, ren, zB, zf, refs, zb, cst, zl, zH, z7, E.load, E.store, zG, isC, bin, zI, zJ, una, z8, za, zh, zK, blt, fnV, asArg, zd, zn, zo, zj, zi, zg, zk, zr, z6, zD, zF, mkS, zc, unN, zM, zm, zy, zC, ze, zN, zq, GS, Int.reduceToNat, Nat.reduceGT, ↓reduceIte, Nat.reduceAdd, Nat.reduceMul, Nat.reduceSub, Nat.reduceEqDiff, Nat.reduceLeDiff, Nat.reduceLT, Nat.reduceBEq, Int.reduceBEq, Int.reduceBNe, Int.reduceEq, Int.reduceLT, Int.reduceLE, Int.reduceGT, Int.reduceNeg, reduceCtorEq, GZ, zL.zT, c, hget, zx, h1, h2, h3, IH, Int.zero_add, zY]
    · have hprev : uD (zL.zV g.packs) (((pre' ++ [q]).length : Int) - 1) = some q.enc := by rw [hs]; exact uu zL.enc pre' q (x :: rest)
      have h4 := jT q (by have := b3 q (by rw [hs]; simp); omega)
      have hge : 1 ≤ (pre' ++ [q]).length := by simp
      have hgt : decide (((pre' ++ [q]).length : Int) > 0) = true := by simp only [decide_eq_true_eq]; omega
      have hcmp := qq (keyOf x) (keyOf q)
      rw [show (pre' ++ [q]).getLast?.map keyOf = some (keyOf q) by simp]
      simp only [vR]
      clear hs
      generalize (pre' ++ [q]).length = m at *
      generalize keyOf x = kx at *
      generalize keyOf q = kq at *
      simp only [zU.enc, zL.enc, List.map_cons, List.map_nil] at hget hprev h1 h2 h3 h4 IH ⊢
      cases a1 <;> cases a2 <;> cases h5 : Op.bytesLess kq kx <;> rw [h5] at hcmp
      all_goals
        refine zz Tryz.func33 rfl rfl ?_
        simp (disch := ((try simp only [LL]); omega)) only [↓GO, ↓DRW, GA, ren, zB, zf, refs, zb, cst, zl, zH, z7, E.load, E.store, zG, isC, bin, zI, zJ, una, z8, za, zh, zK, blt, fnV, asArg, zd, zn, zo, zj, zi, zg, zk, zr, z6, zD, zF, mkS, zc, unN, zM, zm, zy, zC, ze, zN, zq, GS, Int.reduceToNat, Nat.reduceGT, ↓reduceIte, Nat.reduceAdd, Nat.reduceMul, Nat.reduceSub, Nat.reduceEqDiff, Nat.reduceLeDiff, Nat.reduceLT, Nat.reduceBEq, Int.reduceBEq, Int.reduceBNe, Int.reduceEq, Int.reduceLT, Int.reduceLE, Int.reduceGT, Int.reduceNeg, reduceCtorEq, GZ, zL.zT, c, hget, zx, h1, h2, h3, h4, hgt, hprev, hcmp, IH, zY]
theorem U7 (g : zU) (hB : GB g) : zE (EV Tryz.prog pol) 33 [.agg (g.enc.map .t)] = some (.t (.bool (w5 g))) := by
  have L := VT g hB g.packs [] rfl
  have h3 := aG g hB g.top (by have := hB.len; omega)
  simp only [List.length_nil, Int.natCast_zero, List.getLast?_nil, Option.map_none] at L
  simp only [zU.enc, List.map_cons, List.map_nil] at L h3 ⊢
  unfold w5
  generalize xX g.packs none g.top = a2 at *
  cases h : wT g.packs none g.packs <;> rw [h] at L <;> simp only [cond_true, cond_false] at L <;> cases h4 : decide ((g.packs.length : Int) ≤ 40) <;> cases a2
  all_goals
    apply zu
    refine zw rfl Tryz.func33 rfl (by kernel_rfl) ?_
    unfold Tryz.f33
    simp (disch := ((try simp only [LL]); omega)) only [↓GO, ↓DRW, GA, ren, zB, zf, refs, zb, cst, zl, zH, z7, E.load, E.store, zG, isC, bin, zI, zJ, una, z8, za, zh, zK, blt, fnV, asArg, zd, zn, zo, zj, zi, zg, zk, zr, z6, zD, zF, mkS, zc, unN, zM, zm, zy, zC, ze, zN, zq, GS, Int.reduceToNat, Nat.reduceGT, ↓reduceIte, Nat.reduceAdd, Nat.reduceMul, Nat.reduceSub, Nat.reduceEqDiff, Nat.reduceLeDiff, Nat.reduceLT, Nat.reduceBEq, Int.reduceBEq, Int.reduceBNe, Int.reduceEq, Int.reduceLT, Int.reduceLE, Int.reduceGT, Int.reduceNeg, reduceCtorEq, GZ, L, zL.zT, h3, h4, zY]
theorem VS (g : zU) (hB : GB g) : ∀ (rest pre : List zL), g.packs = pre ++ rest →
    EV Tryz.prog pol (.loop 27 26 0 [.ptr 0 0 0, .t (.int .i64 (pre.length : Int))] [.vs 2 [g.enc.map .t]]) = some (cond (wT g.packs (pre.getLast?.map keyOf) rest) (.loop (.exit 0) [.ptr 0 0 0, .bad] [.vs 2 [g.enc.map .t]]) (.loop .ret [.ptr 0 0 0, .t (.bool false)] [.vs 2 [g.enc.map .t]]))
  | [], pre, hs => by
    have c : decide ((pre.length : Int) < (g.packs.length : Int)) = false := by simp [hs]
    simp only [zU.enc, List.map_cons, List.map_nil]
    refine zz Tryz.func27 rfl rfl ?_
    simp (disch := ((try simp only [LL]); omega)) only [↓GO, ↓DRW, GA, ren, zB, zf, refs, zb, cst, zl, zH, z7, E.load, E.store, zG, isC, bin, zI, zJ, una, z8, za, zh, zK, blt, fnV, asArg, zd, zn, zo, zj, zi, zg, zk, zr, z6, zD, zF, mkS, zc, unN, zM, zm, zy, zC, ze, zN, zq, GS, Int.reduceToNat, Nat.reduceGT, ↓reduceIte, Nat.reduceAdd, Nat.reduceMul, Nat.reduceSub, Nat.reduceEqDiff, Nat.reduceLeDiff, Nat.reduceLT, Nat.reduceBEq, Int.reduceBEq, Int.reduceBNe, Int.reduceEq, Int.reduceLT, Int.reduceLE, Int.reduceGT, Int.reduceNeg, reduceCtorEq, GZ, c, zL.zT, wT, zY]
  | x :: rest, pre, hs => by
    obtain ⟨b1, b2, b3⟩ := hB.len
    have c : decide ((pre.length : Int) < (g.packs.length : Int)) = true := by simp [hs]; omega
    have hget : (zL.zV g.packs)[pre.length]? = some x.enc := by rw [hs]; exact wy zL.enc pre x rest
    have hlen : pre.length + rest.length + 1 ≤ g.packs.length := by rw [hs]; simp; omega
    have hxb := b3 x (by rw [hs]; simp)
    have IH := VS g hB rest (pre ++ [x]) (by rw [hs]; simp)
    have h1 := To x hxb
    have h2 := jS x (by omega)
    have h3 := aF g hB x.needs (ni hxb).1
    rw [show ((pre ++ [x]).length : Int) = (pre.length : Int) + 1 by simp, show (pre ++ [x]).getLast?.map keyOf = some (keyOf x) by simp] at IH
    rw [wT]
    generalize rK x = a1 at *
    generalize xX g.packs none x.needs = a2 at *
    rcases wh pre with rfl | ⟨pre', q, rfl⟩
    · clear hs
      generalize keyOf x = kx at *
      simp only [List.length_nil, List.getLast?_nil, Option.map_none, vR, Int.natCast_zero, Int.zero_add] at *
      simp only [zU.enc, zL.enc, List.map_cons, List.map_nil] at hget h1 h2 h3 IH ⊢
      cases a1 <;> cases a2
      all_goals
        refine zz Tryz.func27 rfl rfl ?_
        simp (disch := ((try simp only [LL]); omega)) only [↓GO, ↓DRW, GA, ren, zB, zf, refs, zb, cst, zl, zH, z7, E.load, E.store, zG, isC, bin, zI, zJ, una, z8, za, zh, zK, blt, fnV, asArg, zd, zn, zo, zj, zi, zg, zk, zr, z6, zD, zF, mkS, zc, unN, zM, zm, zy, zC, ze, zN, zq, GS, Int.reduceToNat, Nat.reduceGT, ↓reduceIte, Nat.reduceAdd, Nat.reduceMul, Nat.reduceSub, Nat.reduceEqDiff, Nat.reduceLeDiff, Nat.reduceLT, Nat.reduceBEq, Int.reduceBEq, Int.reduceBNe, Int.reduceEq, Int.reduceLT, Int.reduceLE, Int.reduceGT, Int.reduceNeg, reduceCtorEq, GZ, zL.zT, c, hget, zx, h1, h2, h3, IH, Int.zero_add, zY]
    · have hprev : uD (zL.zV g.packs) (((pre' ++ [q]).length : Int) - 1) = some q.enc := by rw [hs]; exact uu zL.enc pre' q (x :: rest)
      have h4 := jS q (by have := b3 q (by rw [hs]; simp); omega)
      have hge : 1 ≤ (pre' ++ [q]).length := by simp
      have hgt : decide (((pre' ++ [q]).length : Int) > 0) = true := by simp only [decide_eq_true_eq]; omega
      rw [show (pre' ++ [q]).getLast?.map keyOf = some (keyOf q) by simp]
      simp only [vR]
      clear hs
      generalize (pre' ++ [q]).length = m at *
      generalize keyOf x = kx at *
      generalize keyOf q = kq at *
      simp only [zU.enc, zL.enc, List.map_cons, List.map_nil] at hget hprev h1 h2 h3 h4 IH ⊢
      cases a1 <;> cases a2 <;> cases h5 : Op.bytesLess kq kx
      all_goals
        refine zz Tryz.func27 rfl rfl ?_
        simp (disch := ((try simp only [LL]); omega)) only [↓GO, ↓DRW, GA, ren, zB, zf, refs, zb, cst, zl, zH, z7, E.load, E.store, zG, isC, bin, zI, zJ, una, z8, za, zh, zK, blt, fnV, asArg, zd, zn, zo, zj, zi, zg, zk, zr, z6, zD, zF, mkS, zc, unN, zM, zm, zy, zC, ze, zN, zq, GS, Int.reduceToNat, Nat.reduceGT, ↓reduceIte, Nat.reduceAdd, Nat.reduceMul, Nat.reduceSub, Nat.reduceEqDiff, Nat.reduceLeDiff, Nat.reduceLT, Nat.reduceBEq, Int.reduceBEq, Int.reduceBNe, Int.reduceEq, Int.reduceLT, Int.reduceLE, Int.reduceGT, Int.reduceNeg, reduceCtorEq, GZ, zL.zT, c, hget, zx, h1, h2, h3, h4, hgt, hprev, h5, IH, zY]
theorem U6 (g : zU) (hB : GB g) : zE (EV Tryz.prog pol) 27 [.agg (g.enc.map .t)] = some (.t (.bool (w5 g))) := by
  have L := VS g hB g.packs [] rfl
  have h3 := aF g hB g.top (by have := hB.len; omega)
  simp only [List.length_nil, Int.natCast_zero, List.getLast?_nil, Option.map_none] at L
  simp only [zU.enc, List.map_cons, List.map_nil] at L h3 ⊢
  unfold w5
  generalize xX g.packs none g.top = a2 at *
  cases h : wT g.packs none g.packs <;> rw [h] at L <;> simp only [cond_true, cond_false] at L <;> cases h4 : decide ((g.packs.length : Int) ≤ 40) <;> cases a2
  all_goals
    apply zu
    refine zw rfl Tryz.func27 rfl (by kernel_rfl) ?_
    unfold Tryz.f27
    simp (disch := ((try simp only [LL]); omega)) only [↓GO, ↓DRW, GA, ren, zB, zf, refs, zb, cst, zl, zH, z7, E.load, E.store, zG, isC, bin, zI, zJ, una, z8, za, zh, zK, blt, fnV, asArg, zd, zn, zo, zj, zi, zg, zk, zr, z6, zD, zF, mkS, zc, unN, zM, zm, zy, zC, ze, zN, zq, GS, Int.reduceToNat, Nat.reduceGT, ↓reduceIte, Nat.reduceAdd, Nat.reduceMul, Nat.reduceSub, Nat.reduceEqDiff, Nat.reduceLeDiff, Nat.reduceLT, Nat.reduceBEq, Int.reduceBEq, Int.reduceBNe, Int.reduceEq, Int.reduceLT, Int.reduceLE, Int.reduceGT, Int.reduceNeg, reduceCtorEq, GZ, L, zL.zT, h3, h4, zY]
end Go.Proofs.YtmcephnfcciloaaGreatDoor
/- What notices tell of a graph, by both. Conditions: those of each lemma. -/
namespace Go.Proofs.YtmcephnfcciloaaGreatDoor
open E
set_option linter.unusedSimpArgs false
set_option linter.unusedVariables false
set_option maxRecDepth 100000
theorem lq {s : Str} {l : List Bd} (h : wm s = some l) : BdB l := by
  unfold wm at h
  cases hc : (decide ((s.length : Int) > 200) || decide (((yV 0 s).length : Int) > 8)) with
  | true => rw [hc] at h; cases h
  | false =>
    rw [hc, cond_false] at h
    have h1 := nO h
    have h2 := (sB _ _ h).2
    simp only [Bool.or_eq_false_iff, decide_eq_false_iff_not] at hc
    exact ⟨by omega, fun b hb => by have := h1 b hb; omega⟩
theorem c_afI (n : zt) (hb : n.yh ≤ 1048576) (name ver : Str) (hn : name.length ≤ 1048576) (hv : ver.length ≤ 1048576) : zE (EV Tryz.prog pol) 34 [.agg (n.enc.map .t), .t (.str name), .t (.str ver)] = some (.t (.bool (afT n name ver))) := by
  have d1 := c_noI n hb
  have d2 := Sa n.range (by simp only [zt.yh] at hb; omega)
  rw [ng] at d2
  unfold afT
  have e : qN n = xG n := rfl
  rw [e]
  cases hr : wm n.range with
  | none =>
    have hno : xG n = false := by unfold xG; rw [hr]; rfl
    rw [hno] at d1 ⊢
    rw [hr] at d2
    simp only [Bool.false_and, rrT] at d2 ⊢
    obtain ⟨nm, rg, tx⟩ := n
    simp only [zt.enc, List.map_cons, List.map_nil] at d1 d2 ⊢
    apply zu
    refine zw rfl Tryz.func34 rfl (by kernel_rfl) ?_
    unfold Tryz.f34
    simp (disch := ((try simp only [LL]); omega)) only [↓GO, ↓DRW, GA, ren, zB, zf, refs, zb, cst, zl, zH, z7, E.load, E.store, zG, isC, bin, zI, zJ, una, z8, za, zh, zK, blt, fnV, asArg, zd, zn, zo, zj, zi, zg, zk, zr, z6, zD, zF, mkS, zc, unN, zM, zm, zy, zC, ze, zN, zq, GS, Int.reduceToNat, Nat.reduceGT, ↓reduceIte, Nat.reduceAdd, Nat.reduceMul, Nat.reduceSub, Nat.reduceEqDiff, Nat.reduceLeDiff, Nat.reduceLT, Nat.reduceBEq, Int.reduceBEq, Int.reduceBNe, Int.reduceEq, Int.reduceLT, Int.reduceLE, Int.reduceGT, Int.reduceNeg, reduceCtorEq, GZ, d1, d2, zY]
  | some l =>
    have d3 := c_inI ver hv l (lq hr)
    rw [hr] at d2
    simp only [rrT, Option.getD_some] at d2 ⊢
    generalize xG n = ok at *
    generalize inB ver l = t at *
    obtain ⟨nm, rg, tx⟩ := n
    simp only [zt.enc, List.map_cons, List.map_nil] at d1 d2 ⊢
    cases ok <;> cases q : (nm == name) <;> simp only [Bool.true_and, Bool.false_and]
    all_goals
      apply zu
      refine zw rfl Tryz.func34 rfl (by kernel_rfl) ?_
      unfold Tryz.f34
      simp (disch := ((try simp only [LL]); omega)) only [↓GO, ↓DRW, GA, ren, zB, zf, refs, zb, cst, zl, zH, z7, E.load, E.store, zG, isC, bin, zI, zJ, una, z8, za, zh, zK, blt, fnV, asArg, zd, zn, zo, zj, zi, zg, zk, zr, z6, zD, zF, mkS, zc, unN, zM, zm, zy, zC, ze, zN, zq, GS, Int.reduceToNat, Nat.reduceGT, ↓reduceIte, Nat.reduceAdd, Nat.reduceMul, Nat.reduceSub, Nat.reduceEqDiff, Nat.reduceLeDiff, Nat.reduceLT, Nat.reduceBEq, Int.reduceBEq, Int.reduceBNe, Int.reduceEq, Int.reduceLT, Int.reduceLE, Int.reduceGT, Int.reduceNeg, reduceCtorEq, GZ, d1, d2, d3, q, zY]
theorem c_afR (n : zt) (hb : n.yh ≤ 1048576) (name ver : Str) (hn : name.length ≤ 1048576) (hv : ver.length ≤ 1048576) : zE (EV Tryz.prog pol) 28 [.agg (n.enc.map .t), .t (.str name), .t (.str ver)] = some (.t (.bool (afT n name ver))) := by
  have d1 := c_noR n hb
  have d2 := S9 n.range (by simp only [zt.yh] at hb; omega)
  unfold afT
  have e : qN n = xG n := rfl
  rw [e]
  cases hr : wm n.range with
  | none =>
    have hno : xG n = false := by unfold xG; rw [hr]; rfl
    rw [hno] at d1 ⊢
    rw [hr] at d2
    simp only [Bool.false_and, rrT] at d2 ⊢
    obtain ⟨nm, rg, tx⟩ := n
    simp only [zt.enc, List.map_cons, List.map_nil] at d1 d2 ⊢
    apply zu
    refine zw rfl Tryz.func28 rfl (by kernel_rfl) ?_
    unfold Tryz.f28
    simp (disch := ((try simp only [LL]); omega)) only [↓GO, ↓DRW, GA, ren, zB, zf, refs, zb, cst, zl, zH, z7, E.load, E.store, zG, isC, bin, zI, zJ, una, z8, za, zh, zK, blt, fnV, asArg, zd, zn, zo, zj, zi, zg, zk, zr, z6, zD, zF, mkS, zc, unN, zM, zm, zy, zC, ze, zN, zq, GS, Int.reduceToNat, Nat.reduceGT, ↓reduceIte, Nat.reduceAdd, Nat.reduceMul, Nat.reduceSub, Nat.reduceEqDiff, Nat.reduceLeDiff, Nat.reduceLT, Nat.reduceBEq, Int.reduceBEq, Int.reduceBNe, Int.reduceEq, Int.reduceLT, Int.reduceLE, Int.reduceGT, Int.reduceNeg, reduceCtorEq, GZ, d1, d2, zY]
  | some l =>
    have d3 := c_inR ver hv l (lq hr)
    rw [hr] at d2
    simp only [rrT, Option.getD_some] at d2 ⊢
    generalize xG n = ok at *
    generalize inB ver l = t at *
    obtain ⟨nm, rg, tx⟩ := n
    simp only [zt.enc, List.map_cons, List.map_nil] at d1 d2 ⊢
    cases ok <;> cases q : (nm == name) <;> simp only [Bool.true_and, Bool.false_and]
    all_goals
      apply zu
      refine zw rfl Tryz.func28 rfl (by kernel_rfl) ?_
      unfold Tryz.f28
      simp (disch := ((try simp only [LL]); omega)) only [↓GO, ↓DRW, GA, ren, zB, zf, refs, zb, cst, zl, zH, z7, E.load, E.store, zG, isC, bin, zI, zJ, una, z8, za, zh, zK, blt, fnV, asArg, zd, zn, zo, zj, zi, zg, zk, zr, z6, zD, zF, mkS, zc, unN, zM, zm, zy, zC, ze, zN, zq, GS, Int.reduceToNat, Nat.reduceGT, ↓reduceIte, Nat.reduceAdd, Nat.reduceMul, Nat.reduceSub, Nat.reduceEqDiff, Nat.reduceLeDiff, Nat.reduceLT, Nat.reduceBEq, Int.reduceBEq, Int.reduceBNe, Int.reduceEq, Int.reduceLT, Int.reduceLE, Int.reduceGT, Int.reduceNeg, reduceCtorEq, GZ, d1, d2, d3, q, zY]
def auP (p : zL) (ns : List zt) : List Str := (ns.filter fun n => afT n p.name p.version).map fun n => (keyOf p ++ [32]) ++ n.text
theorem eu (p : zL) (n : zt) (ns : List zt) : auP p (n :: ns) = cond (afT n p.name p.version) (((keyOf p ++ [32]) ++ n.text) :: auP p ns) (auP p ns) := by
  unfold auP
  rw [List.filter_cons]
  cases afT n p.name p.version <;> rfl
theorem jH (p : zL) (ns : List zt) : (auP p ns).length ≤ ns.length := by
  unfold auP; rw [List.length_map]; exact List.length_filter_le _ _
theorem tJ (ns : List zt) (p : zL) (ps : List zL) : x8 ns (p :: ps) = auP p ns ++ x8 ns ps := rfl
theorem nN (ns : List zt) : ∀ ps : List zL, (x8 ns ps).length ≤ ps.length * ns.length
  | [] => by simp [x8]
  | p :: ps => by
    rw [tJ, List.length_append, List.length_cons, Nat.add_mul]
    have h1 := jH p ns
    have h2 := nN ns ps
    omega
theorem cF (ns : List zt) (hl : ns.length ≤ 1048576) (hb : ∀ n ∈ ns, n.yh ≤ 1048576) (p : zL) (hp : p.yh ≤ 1048576) (pl : T) (a b : T) (M : Nat) (hM : M ≤ 1099511627776) : ∀ (rest pre : List zt) (acc : List Str) (m : Nat) (cap : Option Nat), ns = pre ++ rest → m = acc.length → m + rest.length ≤ M → ∃ cap',
    EV Tryz.prog pol (.loop 11 31334 0 [.t (.list 3 (zt.zV ns)), .sl 0 0 m cap, .ptr 1 0 0, .t pl, .t a, .t b, .t (.list 3 (zt.zV ns)), .t (.int .i64 (ns.length : Int)), .t (.int .i64 (pre.length : Int))] [.ts 1 (y6 acc), .vs 6 [p.enc.map .t]])
      = some (.loop (.exit 2) [.t (.list 3 (zt.zV ns)), .sl 0 0 (m + (auP p rest).length) cap', .t pl, .t a, .t b] [.ts 1 (y6 (acc ++ auP p rest))])
  | [], pre, acc, m, cap, h, hm, hmM => by
    have c : decide ((pre.length : Int) < (ns.length : Int)) = false := by simp [h]
    refine ⟨cap, ?_⟩
    rw [show auP p [] = [] from rfl]
    simp only [List.append_nil, List.length_nil, Nat.add_zero, zL.enc, List.map_cons, List.map_nil]
    refine zz Tryz.func11 rfl rfl ?_
    simp (disch := ((try simp only [LL]); omega)) only [↓GO, ↓DRW, GA, ren, zB, zf, refs, zb, cst, zl, zH, z7, E.load, E.store, zG, isC, bin, zI, zJ, una, z8, za, zh, zK, blt, fnV, asArg, zd, zn, zo, zj, zi, zg, zk, zr, z6, zD, zF, mkS, zc, unN, zM, zm, zy, zC, ze, zN, zq, GS, Int.reduceToNat, Nat.reduceGT, ↓reduceIte, Nat.reduceAdd, Nat.reduceMul, Nat.reduceSub, Nat.reduceEqDiff, Nat.reduceLeDiff, Nat.reduceLT, Nat.reduceBEq, Int.reduceBEq, Int.reduceBNe, Int.reduceEq, Int.reduceLT, Int.reduceLE, Int.reduceGT, Int.reduceNeg, reduceCtorEq, GZ, c, zY]
  | n :: rest, pre, acc, m, cap, h, hm, hmM => by
    have c : decide ((pre.length : Int) < (ns.length : Int)) = true := by simp [h]; omega
    have hget : (zt.zV ns)[pre.length]? = some n.enc := by rw [h]; simp [zt.zV]
    have hlen : pre.length + rest.length + 1 ≤ ns.length := by rw [h]; simp; omega
    have hnb := hb n (by rw [h]; simp)
    have hpb := hp
    simp only [zL.yh] at hpb
    have d1 := c_afI n hnb p.name p.version (by omega) (by omega)
    have d2 := jT p (by omega)
    have hkl : (keyOf p).length ≤ 2097153 := by unfold keyOf; simp only [List.length_append, List.length_cons, List.length_nil]; omega
    have htl : n.text.length ≤ 1048576 := by simp only [zt.yh] at hnb; omega
    have hsl : (y6 acc).length = m := by rw [zR, hm]
    simp only [List.length_cons] at hmM
    have IH0 := cF ns hl hb p hp pl a b M hM rest (pre ++ [n]) acc m cap (by rw [h]; simp) hm (by omega)
    have IH1 := cF ns hl hb p hp pl a b M hM rest (pre ++ [n]) (acc ++ [(keyOf p ++ [32]) ++ n.text]) (m + 1) none (by rw [h]; simp) (by simp [hm]) (by omega)
    rw [show ((pre ++ [n]).length : Int) = (pre.length : Int) + 1 by simp] at IH0 IH1
    rw [show y6 (acc ++ [(keyOf p ++ [32]) ++ n.text]) = y6 acc ++ [[.str ((keyOf p ++ [32]) ++ n.text)]] by simp [y6]] at IH1
    rw [eu]
    clear h hb
    obtain ⟨nm, rg, tx⟩ := n
    obtain ⟨name, version, source, sums, dev, needs⟩ := p
    generalize keyOf ⟨name, version, source, sums, dev, needs⟩ = key at *
    generalize auP ⟨name, version, source, sums, dev, needs⟩ rest = R at *
    simp only [zt.enc, zL.enc, List.map_cons, List.map_nil] at d1 d2 hget IH0 IH1 htl ⊢
    cases q : afT ⟨nm, rg, tx⟩ name version with
    | false =>
      obtain ⟨cap', IH⟩ := IH0
      refine ⟨cap', ?_⟩
      rw [q] at d1
      simp only [cond_false]
      refine zz Tryz.func11 rfl rfl ?_
      simp (disch := ((try simp only [LL]); omega)) only [↓GO, ↓DRW, GA, ren, zB, zf, refs, zb, cst, zl, zH, z7, E.load, E.store, zG, isC, bin, zI, zJ, una, z8, za, zh, zK, blt, fnV, asArg, zd, zn, zo, zj, zi, zg, zk, zr, z6, zD, zF, mkS, zc, unN, zM, zm, zy, zC, ze, zN, zq, GS, Int.reduceToNat, Nat.reduceGT, ↓reduceIte, Nat.reduceAdd, Nat.reduceMul, Nat.reduceSub, Nat.reduceEqDiff, Nat.reduceLeDiff, Nat.reduceLT, Nat.reduceBEq, Int.reduceBEq, Int.reduceBNe, Int.reduceEq, Int.reduceLT, Int.reduceLE, Int.reduceGT, Int.reduceNeg, reduceCtorEq, GZ, c, hget, d1, zx, zY, IH]
    | true =>
      obtain ⟨cap', IH⟩ := IH1
      refine ⟨cap', ?_⟩
      rw [q] at d1
      simp only [cond_true, List.length_cons]
      rw [show m + (R.length + 1) = m + 1 + R.length by omega, show acc ++ (key ++ [32] ++ tx) :: R = (acc ++ [key ++ [32] ++ tx]) ++ R by simp]
      generalize (acc ++ [key ++ [32] ++ tx]) ++ R = Z at *
      refine zz Tryz.func11 rfl rfl ?_
      simp (disch := ((try simp only [LL]); omega)) only [↓GO, ↓DRW, GA, ren, zB, zf, refs, zb, cst, zl, zH, z7, E.load, E.store, zG, isC, bin, zI, zJ, una, z8, za, zh, zK, blt, fnV, asArg, zd, zn, zo, zj, zi, zg, zk, zr, z6, zD, zF, mkS, zc, unN, zM, zm, zy, zC, ze, zN, zq, GS, Int.reduceToNat, Nat.reduceGT, ↓reduceIte, Nat.reduceAdd, Nat.reduceMul, Nat.reduceSub, Nat.reduceEqDiff, Nat.reduceLeDiff, Nat.reduceLT, Nat.reduceBEq, Int.reduceBEq, Int.reduceBNe, Int.reduceEq, Int.reduceLT, Int.reduceLE, Int.reduceGT, Int.reduceNeg, reduceCtorEq, GZ, c, hget, d1, d2, zx, hsl, zY, IH, wc]
      refine yQ (by kernel_rfl) ?_
      first | rfl | exact IH
end Go.Proofs.YtmcephnfcciloaaGreatDoor
/- What notices tell of a graph, by both: the functions. Conditions: those of each lemma. -/
namespace Go.Proofs.YtmcephnfcciloaaGreatDoor
open E
set_option linter.unusedSimpArgs false
set_option linter.unusedVariables false
set_option maxRecDepth 100000
def ti (g : zU) (ns : List zt) : List Str := cond (w5 g) (x8 ns g.packs) []
theorem S6 (ns : List zt) (hl : ns.length ≤ 1048576) (hb : ∀ n ∈ ns, n.yh ≤ 1048576) (ps : List zL) (hpl : ps.length ≤ 1048576) (hp : ∀ p ∈ ps, p.yh ≤ 1048576) : ∀ (rest pre : List zL) (acc : List Str) (m : Nat) (cap : Option Nat), ps = pre ++ rest → m = acc.length → m + rest.length * ns.length ≤ 1099511627776 → ∃ cap',
    EV Tryz.prog pol (.loop 11 122 0 [.t (.list 3 (zt.zV ns)), .sl 0 0 m cap, .t (.list 6 (zL.zV ps)), .t (.int .i64 (ps.length : Int)), .t (.int .i64 (pre.length : Int))] [.ts 1 (y6 acc)])
      = some (.loop (.exit 0) [.sl 0 0 (m + (x8 ns rest).length) cap'] [.ts 1 (y6 (acc ++ x8 ns rest))])
  | [], pre, acc, m, cap, h, hm, hmM => by
    have c : decide ((pre.length : Int) < (ps.length : Int)) = false := by simp [h]
    refine ⟨cap, ?_⟩
    rw [show x8 ns [] = [] from rfl]
    simp only [List.append_nil, List.length_nil, Nat.add_zero]
    refine zz Tryz.func11 rfl rfl ?_
    simp (disch := ((try simp only [LL]); omega)) only [↓GO, ↓DRW, GA, ren, zB, zf, refs, zb, cst, zl, zH, z7, E.load, E.store, zG, isC, bin, zI, zJ, una, z8, za, zh, zK, blt, fnV, asArg, zd, zn, zo, zj, zi, zg, zk, zr, z6, zD, zF, mkS, zc, unN, zM, zm, zy, zC, ze, zN, zq, GS, Int.reduceToNat, Nat.reduceGT, ↓reduceIte, Nat.reduceAdd, Nat.reduceMul, Nat.reduceSub, Nat.reduceEqDiff, Nat.reduceLeDiff, Nat.reduceLT, Nat.reduceBEq, Int.reduceBEq, Int.reduceBNe, Int.reduceEq, Int.reduceLT, Int.reduceLE, Int.reduceGT, Int.reduceNeg, reduceCtorEq, GZ, c, zY]
  | p :: rest, pre, acc, m, cap, h, hm, hmM => by
    have c : decide ((pre.length : Int) < (ps.length : Int)) = true := by simp [h]; omega
    have hget : (zL.zV ps)[pre.length]? = some p.enc := by rw [h]; simp [zL.zV]
    have hlen : pre.length + rest.length + 1 ≤ ps.length := by rw [h]; simp; omega
    have hpb := hp p (by rw [h]; simp)
    have hal := jH p ns
    rw [List.length_cons, Nat.add_mul, Nat.one_mul] at hmM
    obtain ⟨c1, L⟩ := cF ns hl hb p hpb (.list 6 (zL.zV ps)) (.int .i64 (ps.length : Int)) (.int .i64 (pre.length : Int)) 1099511627776 (by omega) ns [] acc m cap rfl hm (by omega)
    obtain ⟨c2, IH⟩ := S6 ns hl hb ps hpl hp rest (pre ++ [p]) (acc ++ auP p ns) (m + (auP p ns).length) c1 (by rw [h]; simp) (by simp [hm]) (by omega)
    rw [show ((pre ++ [p]).length : Int) = (pre.length : Int) + 1 by simp] at IH
    refine ⟨c2, ?_⟩
    rw [tJ, List.length_append, ← Nat.add_assoc, ← List.append_assoc]
    clear h hb hp
    obtain ⟨name, version, source, sums, dev, needs⟩ := p
    simp only [List.length_nil, Int.natCast_zero, zL.enc, List.map_cons, List.map_nil] at hget L IH ⊢
    generalize (acc ++ auP _ ns) ++ x8 ns rest = Z at *
    generalize acc ++ auP _ ns = Y at *
    refine zz Tryz.func11 rfl rfl ?_
    simp (disch := ((try simp only [LL]); omega)) only [↓GO, ↓DRW, GA, ren, zB, zf, refs, zb, cst, zl, zH, z7, E.load, E.store, zG, isC, bin, zI, zJ, una, z8, za, zh, zK, blt, fnV, asArg, zd, zn, zo, zj, zi, zg, zk, zr, z6, zD, zF, mkS, zc, unN, zM, zm, zy, zC, ze, zN, zq, GS, Int.reduceToNat, Nat.reduceGT, ↓reduceIte, Nat.reduceAdd, Nat.reduceMul, Nat.reduceSub, Nat.reduceEqDiff, Nat.reduceLeDiff, Nat.reduceLT, Nat.reduceBEq, Int.reduceBEq, Int.reduceBNe, Int.reduceEq, Int.reduceLT, Int.reduceLE, Int.reduceGT, Int.reduceNeg, reduceCtorEq, GZ, c, hget, L, zt.zT, zx, zY, IH]
theorem XQ (g : zU) (hB : GB g) (ns : List zt) (hg : w5 g = false) : EV Tryz.prog pol (.callO false 11 [.agg (g.enc.map .t), .t (.list 3 (zt.zV ns))] []) = some (.call (.nil 1) []) := by
  have d1 := U7 g hB
  rw [hg] at d1
  obtain ⟨top, packs⟩ := g
  simp only [zU.enc, List.map_cons, List.map_nil] at d1 ⊢
  refine yK Tryz.func11 rfl (by kernel_rfl) ?_
  unfold Tryz.f11
  simp (disch := ((try simp only [LL]); omega)) only [↓GO, ↓DRW, GA, ren, zB, zf, refs, zb, cst, zl, zH, z7, E.load, E.store, zG, isC, bin, zI, zJ, una, z8, za, zh, zK, blt, fnV, asArg, zd, zn, zo, zj, zi, zg, zk, zr, z6, zD, zF, mkS, zc, unN, zM, zm, zy, zC, ze, zN, zq, GS, Int.reduceToNat, Nat.reduceGT, ↓reduceIte, Nat.reduceAdd, Nat.reduceMul, Nat.reduceSub, Nat.reduceEqDiff, Nat.reduceLeDiff, Nat.reduceLT, Nat.reduceBEq, Int.reduceBEq, Int.reduceBNe, Int.reduceEq, Int.reduceLT, Int.reduceLE, Int.reduceGT, Int.reduceNeg, reduceCtorEq, GZ, d1, zY]
theorem ZE (g : zU) (hB : GB g) (ns : List zt) (hl : ns.length ≤ 1048576) (hb : ∀ n ∈ ns, n.yh ≤ 1048576) (hg : w5 g = true) : ∃ cap, EV Tryz.prog pol (.callO false 11 [.agg (g.enc.map .t), .t (.list 3 (zt.zV ns))] []) = some (.call (.sl 0 0 (x8 ns g.packs).length cap) [.ts 1 (y6 (x8 ns g.packs))]) := by
  have d1 := U7 g hB
  rw [hg] at d1
  obtain ⟨h1, h2, h3⟩ := hB.len
  have hmul : g.packs.length * ns.length ≤ 1048576 * 1048576 := Nat.mul_le_mul h1 hl
  obtain ⟨cap, L⟩ := S6 ns hl hb g.packs h1 h3 g.packs [] [] 0 (some 0) rfl rfl (by omega)
  refine ⟨cap, ?_⟩
  rw [show y6 [] = [] from rfl] at L
  obtain ⟨top, packs⟩ := g
  simp only [List.length_nil, Int.natCast_zero, Nat.zero_add, List.nil_append, zU.enc, List.map_cons, List.map_nil] at d1 L ⊢
  generalize x8 ns packs = Z at *
  refine yK Tryz.func11 rfl (by kernel_rfl) ?_
  unfold Tryz.f11
  simp (disch := ((try simp only [LL]); omega)) only [↓GO, ↓DRW, GA, ren, zB, zf, refs, zb, cst, zl, zH, z7, E.load, E.store, zG, isC, bin, zI, zJ, una, z8, za, zh, zK, blt, fnV, asArg, zd, zn, zo, zj, zi, zg, zk, zr, z6, zD, zF, mkS, zc, unN, zM, zm, zy, zC, ze, zN, zq, GS, Int.reduceToNat, Nat.reduceGT, ↓reduceIte, Nat.reduceAdd, Nat.reduceMul, Nat.reduceSub, Nat.reduceEqDiff, Nat.reduceLeDiff, Nat.reduceLT, Nat.reduceBEq, Int.reduceBEq, Int.reduceBNe, Int.reduceEq, Int.reduceLT, Int.reduceLE, Int.reduceGT, Int.reduceNeg, reduceCtorEq, GZ, d1, L, zL.zT, zY]
theorem cE (g : zU) (hB : GB g) (ns : List zt) (hl : ns.length ≤ 1048576) (hb : ∀ n ∈ ns, n.yh ≤ 1048576) (p : zL) (hp : p.yh ≤ 1048576) (i : Nat) (hi : i ≤ 1048576) (hgp : (zL.zV g.packs)[i]? = some p.enc) : ∀ (rest pre : List zt) (acc : List Str) (m : Nat) (cap : Option Nat), ns = pre ++ rest → m = acc.length → m + rest.length ≤ 1099511627776 → ∃ cap',
    EV Tryz.prog pol (.loop 8 3730 0 [.t (.list 3 (zt.zV ns)), .ptr 0 0 0, .sl 1 0 m cap, .t (.int .i64 (i : Int)), .t (.int .i64 (pre.length : Int))] [.vs 2 [g.enc.map .t], .ts 1 (y6 acc)])
      = some (.loop (.exit 2) [.t (.list 3 (zt.zV ns)), .ptr 0 0 0, .sl 1 0 (m + (auP p rest).length) cap', .t (.int .i64 (i : Int))] [.vs 2 [g.enc.map .t], .ts 1 (y6 (acc ++ auP p rest))])
  | [], pre, acc, m, cap, h, hm, hmM => by
    have c : decide ((pre.length : Int) < (ns.length : Int)) = false := by simp [h]
    refine ⟨cap, ?_⟩
    rw [show auP p [] = [] from rfl]
    simp only [List.append_nil, List.length_nil, Nat.add_zero, zU.enc, List.map_cons, List.map_nil]
    refine zz Tryz.func8 rfl rfl ?_
    simp (disch := ((try simp only [LL]); omega)) only [↓GO, ↓DRW, GA, ren, zB, zf, refs, zb, cst, zl, zH, z7, E.load, E.store, zG, isC, bin, zI, zJ, una, z8, za, zh, zK, blt, fnV, asArg, zd, zn, zo, zj, zi, zg, zk, zr, z6, zD, zF, mkS, zc, unN, zM, zm, zy, zC, ze, zN, zq, GS, Int.reduceToNat, Nat.reduceGT, ↓reduceIte, Nat.reduceAdd, Nat.reduceMul, Nat.reduceSub, Nat.reduceEqDiff, Nat.reduceLeDiff, Nat.reduceLT, Nat.reduceBEq, Int.reduceBEq, Int.reduceBNe, Int.reduceEq, Int.reduceLT, Int.reduceLE, Int.reduceGT, Int.reduceNeg, reduceCtorEq, GZ, c, zt.zT, zY]
  | n :: rest, pre, acc, m, cap, h, hm, hmM => by
    have c : decide ((pre.length : Int) < (ns.length : Int)) = true := by simp [h]; omega
    have hget : (zt.zV ns)[pre.length]? = some n.enc := by rw [h]; simp [zt.zV]
    have hlen : pre.length + rest.length + 1 ≤ ns.length := by rw [h]; simp; omega
    have hnb := hb n (by rw [h]; simp)
    have hpb := hp
    simp only [zL.yh] at hpb
    have d1 := c_afR n hnb p.name p.version (by omega) (by omega)
    have d2 := jS p (by omega)
    have hkl : (keyOf p).length ≤ 2097153 := by unfold keyOf; simp only [List.length_append, List.length_cons, List.length_nil]; omega
    have htl : n.text.length ≤ 1048576 := by simp only [zt.yh] at hnb; omega
    have hsl : (y6 acc).length = m := by rw [zR, hm]
    simp only [List.length_cons] at hmM
    have IH0 := cE g hB ns hl hb p hp i hi hgp rest (pre ++ [n]) acc m cap (by rw [h]; simp) hm (by omega)
    have IH1 := cE g hB ns hl hb p hp i hi hgp rest (pre ++ [n]) (acc ++ [(keyOf p ++ [32]) ++ n.text]) (m + 1) none (by rw [h]; simp) (by simp [hm]) (by omega)
    rw [show ((pre ++ [n]).length : Int) = (pre.length : Int) + 1 by simp] at IH0 IH1
    rw [show y6 (acc ++ [(keyOf p ++ [32]) ++ n.text]) = y6 acc ++ [[.str ((keyOf p ++ [32]) ++ n.text)]] by simp [y6]] at IH1
    rw [eu]
    clear h hb
    obtain ⟨top, packs⟩ := g
    simp only at hgp
    obtain ⟨nm, rg, tx⟩ := n
    obtain ⟨name, version, source, sums, dev, needs⟩ := p
    generalize keyOf ⟨name, version, source, sums, dev, needs⟩ = key at *
    generalize auP ⟨name, version, source, sums, dev, needs⟩ rest = R at *
    simp only [zt.enc, zL.enc, zU.enc, List.map_cons, List.map_nil] at d1 d2 hget hgp IH0 IH1 htl ⊢
    generalize zL.zV packs = PE at *
    cases q : afT ⟨nm, rg, tx⟩ name version with
    | false =>
      obtain ⟨cap', IH⟩ := IH0
      refine ⟨cap', ?_⟩
      rw [q] at d1
      simp only [cond_false]
      refine zz Tryz.func8 rfl rfl ?_
      simp (disch := ((try simp only [LL]); omega)) only [↓GO, ↓DRW, GA, ren, zB, zf, refs, zb, cst, zl, zH, z7, E.load, E.store, zG, isC, bin, zI, zJ, una, z8, za, zh, zK, blt, fnV, asArg, zd, zn, zo, zj, zi, zg, zk, zr, z6, zD, zF, mkS, zc, unN, zM, zm, zy, zC, ze, zN, zq, GS, Int.reduceToNat, Nat.reduceGT, ↓reduceIte, Nat.reduceAdd, Nat.reduceMul, Nat.reduceSub, Nat.reduceEqDiff, Nat.reduceLeDiff, Nat.reduceLT, Nat.reduceBEq, Int.reduceBEq, Int.reduceBNe, Int.reduceEq, Int.reduceLT, Int.reduceLE, Int.reduceGT, Int.reduceNeg, reduceCtorEq, GZ, c, hget, hgp, d1, zt.zT, zx, zY, IH]
    | true =>
      obtain ⟨cap', IH⟩ := IH1
      refine ⟨cap', ?_⟩
      rw [q] at d1
      simp only [cond_true, List.length_cons]
      rw [show m + (R.length + 1) = m + 1 + R.length by omega, show acc ++ (key ++ [32] ++ tx) :: R = (acc ++ [key ++ [32] ++ tx]) ++ R by simp]
      generalize (acc ++ [key ++ [32] ++ tx]) ++ R = Z at *
      refine zz Tryz.func8 rfl rfl ?_
      simp (disch := ((try simp only [LL]); omega)) only [↓GO, ↓DRW, GA, ren, zB, zf, refs, zb, cst, zl, zH, z7, E.load, E.store, zG, isC, bin, zI, zJ, una, z8, za, zh, zK, blt, fnV, asArg, zd, zn, zo, zj, zi, zg, zk, zr, z6, zD, zF, mkS, zc, unN, zM, zm, zy, zC, ze, zN, zq, GS, Int.reduceToNat, Nat.reduceGT, ↓reduceIte, Nat.reduceAdd, Nat.reduceMul, Nat.reduceSub, Nat.reduceEqDiff, Nat.reduceLeDiff, Nat.reduceLT, Nat.reduceBEq, Int.reduceBEq, Int.reduceBNe, Int.reduceEq, Int.reduceLT, Int.reduceLE, Int.reduceGT, Int.reduceNeg, reduceCtorEq, GZ, c, hget, hgp, d1, d2, zt.zT, zx, hsl, zY, IH, wc]
      refine yQ (by kernel_rfl) ?_
      first | rfl | exact IH
theorem S5 (g : zU) (hB : GB g) (hg : w5 g = true) (ns : List zt) (hl : ns.length ≤ 1048576) (hb : ∀ n ∈ ns, n.yh ≤ 1048576) : ∀ (rest pre : List zL) (acc : List Str) (m : Nat) (cap : Option Nat), g.packs = pre ++ rest → m = acc.length → m + rest.length * ns.length ≤ 1099511627776 → ∃ cap',
    EV Tryz.prog pol (.loop 8 58 0 [.t (.list 3 (zt.zV ns)), .ptr 0 0 0, .sl 1 0 m cap, .t (.int .i64 (pre.length : Int))] [.vs 2 [g.enc.map .t], .ts 1 (y6 acc)])
      = some (.loop (.exit 0) [.sl 0 0 (m + (x8 ns rest).length) cap'] [.ts 1 (y6 (acc ++ x8 ns rest))])
  | [], pre, acc, m, cap, h, hm, hmM => by
    have c : decide ((pre.length : Int) < (g.packs.length : Int)) = false := by simp [h]
    refine ⟨cap, ?_⟩
    rw [show x8 ns [] = [] from rfl]
    obtain ⟨top, packs⟩ := g
    simp only [List.append_nil, List.length_nil, Nat.add_zero, zU.enc, List.map_cons, List.map_nil] at c ⊢
    refine zz Tryz.func8 rfl rfl ?_
    simp (disch := ((try simp only [LL]); omega)) only [↓GO, ↓DRW, GA, ren, zB, zf, refs, zb, cst, zl, zH, z7, E.load, E.store, zG, isC, bin, zI, zJ, una, z8, za, zh, zK, blt, fnV, asArg, zd, zn, zo, zj, zi, zg, zk, zr, z6, zD, zF, mkS, zc, unN, zM, zm, zy, zC, ze, zN, zq, GS, Int.reduceToNat, Nat.reduceGT, ↓reduceIte, Nat.reduceAdd, Nat.reduceMul, Nat.reduceSub, Nat.reduceEqDiff, Nat.reduceLeDiff, Nat.reduceLT, Nat.reduceBEq, Int.reduceBEq, Int.reduceBNe, Int.reduceEq, Int.reduceLT, Int.reduceLE, Int.reduceGT, Int.reduceNeg, reduceCtorEq, GZ, c, zL.zT, zY]
  | p :: rest, pre, acc, m, cap, h, hm, hmM => by
    have c : decide ((pre.length : Int) < (g.packs.length : Int)) = true := by simp [h]; omega
    have hget : (zL.zV g.packs)[pre.length]? = some p.enc := by rw [h]; simp [zL.zV]
    have hlen : pre.length + rest.length + 1 ≤ g.packs.length := by rw [h]; simp; omega
    obtain ⟨q1, q2, q3⟩ := hB.len
    have hpb := q3 p (by rw [h]; simp)
    have hal := jH p ns
    have d1 := U6 g hB
    rw [hg] at d1
    rw [List.length_cons, Nat.add_mul, Nat.one_mul] at hmM
    obtain ⟨c1, L⟩ := cE g hB ns hl hb p hpb pre.length (by omega) hget ns [] acc m cap rfl hm (by omega)
    obtain ⟨c2, IH⟩ := S5 g hB hg ns hl hb rest (pre ++ [p]) (acc ++ auP p ns) (m + (auP p ns).length) c1 (by rw [h]; simp) (by simp [hm]) (by omega)
    rw [show ((pre ++ [p]).length : Int) = (pre.length : Int) + 1 by simp] at IH
    refine ⟨c2, ?_⟩
    rw [tJ, List.length_append, ← Nat.add_assoc, ← List.append_assoc]
    clear h hb hB hg hget
    obtain ⟨top, packs⟩ := g
    simp only at hlen q1
    simp only [List.length_nil, Int.natCast_zero, zU.enc, List.map_cons, List.map_nil] at c d1 L IH ⊢
    generalize (acc ++ auP _ ns) ++ x8 ns rest = Z at *
    generalize acc ++ auP _ ns = Y at *
    refine zz Tryz.func8 rfl rfl ?_
    simp (disch := ((try simp only [LL]); omega)) only [↓GO, ↓DRW, GA, ren, zB, zf, refs, zb, cst, zl, zH, z7, E.load, E.store, zG, isC, bin, zI, zJ, una, z8, za, zh, zK, blt, fnV, asArg, zd, zn, zo, zj, zi, zg, zk, zr, z6, zD, zF, mkS, zc, unN, zM, zm, zy, zC, ze, zN, zq, GS, Int.reduceToNat, Nat.reduceGT, ↓reduceIte, Nat.reduceAdd, Nat.reduceMul, Nat.reduceSub, Nat.reduceEqDiff, Nat.reduceLeDiff, Nat.reduceLT, Nat.reduceBEq, Int.reduceBEq, Int.reduceBNe, Int.reduceEq, Int.reduceLT, Int.reduceLE, Int.reduceGT, Int.reduceNeg, reduceCtorEq, GZ, c, d1, L, zL.zT, zx, zY, IH]
theorem c_auR (g : zU) (hB : GB g) (ns : List zt) (hl : ns.length ≤ 1048576) (hb : ∀ n ∈ ns, n.yh ≤ 1048576) : zE (EV Tryz.prog pol) 8 [.agg (g.enc.map .t), .t (.list 3 (zt.zV ns))] = some (.t (.list 1 (y6 (ti g ns)))) := by
  unfold ti
  cases hg : w5 g with
  | true =>
    obtain ⟨h1, h2, h3⟩ := hB.len
    have hmul : g.packs.length * ns.length ≤ 1048576 * 1048576 := Nat.mul_le_mul h1 hl
    obtain ⟨cap, L⟩ := S5 g hB hg ns hl hb g.packs [] [] 0 (some 0) rfl rfl (by omega)
    rw [show y6 [] = [] from rfl] at L
    obtain ⟨top, packs⟩ := g
    simp only [List.length_nil, Int.natCast_zero, Nat.zero_add, List.nil_append, zU.enc, List.map_cons, List.map_nil, cond_true] at L ⊢
    have ht : (y6 (x8 ns packs)).take (x8 ns packs).length = y6 (x8 ns packs) := by rw [← zR (x8 ns packs)]; simp
    generalize x8 ns packs = Z at *
    apply zu
    refine zw rfl Tryz.func8 rfl (by kernel_rfl) ?_
    unfold Tryz.f8
    simp (disch := ((try simp only [LL]); omega)) only [↓GO, ↓DRW, GA, ren, zB, zf, refs, zb, cst, zl, zH, z7, E.load, E.store, zG, isC, bin, zI, zJ, una, z8, za, zh, zK, blt, fnV, asArg, zd, zn, zo, zj, zi, zg, zk, zr, z6, zD, zF, mkS, zc, unN, zM, zm, zy, zC, ze, zN, zq, GS, Int.reduceToNat, Nat.reduceGT, ↓reduceIte, Nat.reduceAdd, Nat.reduceMul, Nat.reduceSub, Nat.reduceEqDiff, Nat.reduceLeDiff, Nat.reduceLT, Nat.reduceBEq, Int.reduceBEq, Int.reduceBNe, Int.reduceEq, Int.reduceLT, Int.reduceLE, Int.reduceGT, Int.reduceNeg, reduceCtorEq, GZ, L, ht, zY]
  | false =>
    have d1 := U6 g hB
    rw [hg] at d1
    have L : EV Tryz.prog pol (.loop 8 58 0 [.t (.list 3 (zt.zV ns)), .ptr 0 0 0, .sl 1 0 0 (some 0), .t (.int .i64 0)] [.vs 2 [g.enc.map .t], .ts 1 []])
        = some (.loop (.exit 0) [.sl 0 0 0 (some 0)] [.ts 1 []]) := by
      obtain ⟨top, packs⟩ := g
      simp only [zU.enc, List.map_cons, List.map_nil] at d1 ⊢
      cases c : decide ((0 : Int) < (packs.length : Int))
      all_goals
        refine zz Tryz.func8 rfl rfl ?_
        simp (disch := ((try simp only [LL]); omega)) only [↓GO, ↓DRW, GA, ren, zB, zf, refs, zb, cst, zl, zH, z7, E.load, E.store, zG, isC, bin, zI, zJ, una, z8, za, zh, zK, blt, fnV, asArg, zd, zn, zo, zj, zi, zg, zk, zr, z6, zD, zF, mkS, zc, unN, zM, zm, zy, zC, ze, zN, zq, GS, Int.reduceToNat, Nat.reduceGT, ↓reduceIte, Nat.reduceAdd, Nat.reduceMul, Nat.reduceSub, Nat.reduceEqDiff, Nat.reduceLeDiff, Nat.reduceLT, Nat.reduceBEq, Int.reduceBEq, Int.reduceBNe, Int.reduceEq, Int.reduceLT, Int.reduceLE, Int.reduceGT, Int.reduceNeg, reduceCtorEq, GZ, c, d1, zL.zT, zY]
    obtain ⟨top, packs⟩ := g
    simp only [zU.enc, List.map_cons, List.map_nil, cond_false] at L ⊢
    apply zu
    refine zw rfl Tryz.func8 rfl (by kernel_rfl) ?_
    unfold Tryz.f8
    simp (disch := ((try simp only [LL]); omega)) only [↓GO, ↓DRW, GA, ren, zB, zf, refs, zb, cst, zl, zH, z7, E.load, E.store, zG, isC, bin, zI, zJ, una, z8, za, zh, zK, blt, fnV, asArg, zd, zn, zo, zj, zi, zg, zk, zr, z6, zD, zF, mkS, zc, unN, zM, zm, zy, zC, ze, zN, zq, GS, Int.reduceToNat, Nat.reduceGT, ↓reduceIte, Nat.reduceAdd, Nat.reduceMul, Nat.reduceSub, Nat.reduceEqDiff, Nat.reduceLeDiff, Nat.reduceLT, Nat.reduceBEq, Int.reduceBEq, Int.reduceBNe, Int.reduceEq, Int.reduceLT, Int.reduceLE, Int.reduceGT, Int.reduceNeg, reduceCtorEq, GZ, L, zY]
    try rfl
end Go.Proofs.YtmcephnfcciloaaGreatDoor
/- The law of Audit. Conditions: those of each lemma. -/
namespace Go.Proofs.YtmcephnfcciloaaGreatDoor
open E
set_option linter.unusedSimpArgs false
set_option linter.unusedVariables false
set_option maxRecDepth 100000
theorem nR (ks : List Str) (n : Nat) (h : n = ks.length) : (y6 ks).take n = y6 ks := List.take_of_length_le (by rw [zR]; omega)
theorem YS (cs : List zL) (n : Nat) (h : n = cs.length) : (ocE (zL.zV cs)).take n = ocE (zL.zV cs) := List.take_of_length_le (by rw [qn, zL.zT]; omega)
theorem Uv (cs : List zt) (n : Nat) (h : n = cs.length) : (zt.zV cs).take n = zt.zV cs := List.take_of_length_le (by rw [zt.zT]; omega)
theorem dh {g : zU} (h : w5 g = true) : g.packs.length ≤ 40 := by
  unfold w5 at h
  simp only [Bool.and_eq_true, decide_eq_true_eq] at h
  omega
theorem dz (g : zU) (ns : List zt) (hl : ns.length ≤ 1048576) : (ti g ns).length ≤ 134217728 := by
  unfold ti
  cases hg : w5 g with
  | false => simp
  | true =>
    rw [cond_true]
    have h1 := nN ns g.packs
    have h2 : g.packs.length * ns.length ≤ 40 * 1048576 := Nat.mul_le_mul (dh hg) hl
    omega
set_option maxHeartbeats 16000000 in
theorem mW (g : zU) (ns : List zt) (ho : g.ok) (hon : ∀ n ∈ ns, n.ok) (hb : g.yh + (ns.length + zt.ya ns) ≤ 1048576) :
    EV Tryz.prog pol (.call 3 [.agg (g.enc.map .t), .t (.list 3 (zt.zV ns))] []) = some (.call (.t (.bool true)) []) := by
  have hB : GB g := by unfold GB; omega
  have hnb : ∀ n ∈ ns, n.yh ≤ 1048576 := fun n hn => by have := zt.yp hn; omega
  have hsz := kF g ho 1048576 (by omega) (by omega)
  rw [wz (by omega)] at hsz
  have hsz2 := o6 ns (by omega) (fun n hn => nL n (hon n hn)) (1048576 - (g.yh : Int)) (by omega) (by omega)
  rw [wz (by omega)] at hsz2
  have c2 : decide (1048576 - (g.yh : Int) < 0) = false := by apply decide_eq_false; omega
  have c3 : decide (1048576 - (g.yh : Int) - ((ns.length + zt.ya ns : Nat) : Int) < 0) = false := by apply decide_eq_false; omega
  have hto := SI g (by omega)
  have htO := SH g (by omega)
  have hno := iu ns (by omega) (fun n hn => nK n (hnb n hn))
  have hnO := Tj ns (by omega) (fun n hn => nK n (hnb n hn))
  have heqG := ZC g (by omega)
  have heqN := ix ns (by omega) (fun n hn => dt n (hnb n hn))
  have hR := c_auR g hB ns (by omega) hnb
  have hZl := dz g ns (by omega)
  have heqS := tI (ti g ns) hZl
  have hb' := hb
  obtain ⟨top, packs⟩ := g
  simp only [zU.yh] at hb'
  have hcn := eg packs
  have hM1 := Ts top packs (by omega) (by omega) top.length packs.length rfl rfl (some top.length) (some packs.length) 1 (by omega)
  have hM2 := XJ ns (by omega) (some ns.length) (1 + top.length + yJ packs) (by omega) ns.length rfl
  have g1 : decide (((1 + top.length + yJ packs + 3 * ns.length : Nat) : Int) < 0) = false := by apply decide_eq_false; omega
  have t1 := nR top top.length rfl
  have t2 := YS packs packs.length rfl
  have t3 := Uv ns ns.length rfl
  have hnl := zt.zT ns
  unfold jI at heqG
  unfold Kk at htO
  unfold Kl at hto
  rw [show ((1 : Nat) : Int) = 1 from rfl] at hM1
  cases hg : w5 ⟨top, packs⟩ with
  | true =>
    obtain ⟨cap, hI⟩ := ZE ⟨top, packs⟩ hB ns (by omega) hnb hg
    have e : ti ⟨top, packs⟩ ns = x8 ns packs := by unfold ti; rw [hg]; rfl
    rw [e] at hR heqS hZl
    simp only at hI
    generalize x8 ns packs = Z at *
    have hM3 := jC Z hZl cap 1 (by omega) Z.length rfl
    have hH := aH Z.length 1 hZl (by omega)
    rw [show ((1 : Nat) : Int) = 1 from rfl] at hM3 hH
    have g2 : decide (((1 + Z.length : Nat) : Int) < 0) = false := by apply decide_eq_false; omega
    have t4 := nR Z Z.length rfl
    have t5 := nR (mkS Z.length 1) Z.length (vo _ _).symm
    have f1 := vD Z
    clear ho hon hb hb' hnb hB hg hcn e
    generalize (zU.mk top packs).yh = bt at *
    generalize zt.ya ns = bn at *
    simp only [zU.enc, List.map_cons, List.map_nil] at hsz hto htO heqG hR hI hM1 ⊢
    generalize yJ packs = m0 at *
    generalize xD (1 + top.length) packs = mc at *
    generalize mkS Z.length 1 = msz at *
    generalize mkS top.length 1 = ms at *
    generalize tu ns.length (1 + top.length + m0) = mn at *
    refine zw rfl Tryz.func3 rfl (by kernel_rfl) ?_
    unfold Tryz.f3
    simp (disch := ((try simp only [LL]); omega)) only [↓GO, ↓DRW, GA, ren, zB, zf, refs, zb, cst, zl, zH, z7, E.load, E.store, zG, isC, bin, zI, zJ, una, z8, za, zh, zK, blt, fnV, asArg, zd, zn, zo, zj, zi, zg, zk, zr, z6, zD, zF, mkS, zc, unN, zM, zm, zy, zC, ze, zN, zq, GS, Int.reduceToNat, Nat.reduceGT, ↓reduceIte, Nat.reduceAdd, Nat.reduceMul, Nat.reduceSub, Nat.reduceEqDiff, Nat.reduceLeDiff, Nat.reduceLT, Nat.reduceBEq, Int.reduceBEq, Int.reduceBNe, Int.reduceEq, Int.reduceLT, Int.reduceLE, Int.reduceGT, Int.reduceNeg, reduceCtorEq, yO, yP, qz, sX, rG, rF, w7, mkO, tA, tm, v8, qv, yZ, sV, sS, xt, oc, oTs, oT, xf, xf.rowTs, tr, isL, Bool.not_false, Bool.true_and, Bool.and_true, Bool.and_self, List.flatMap_append, List.map_append, List.set_cons_zero, List.set_cons_succ, GZ, hsz, hsz2, c2, c3, hto, htO, hno, hnO, heqG, heqN, heqS, hR, hI, hM1, hM2, hM3, hH, g1, g2, t1, t2, t3, t4, t5, f1, List.drop_zero, nT, xx, yX, bne_self_eq_false, zY]
  | false =>
    have hI := XQ ⟨top, packs⟩ hB ns hg
    have e : ti ⟨top, packs⟩ ns = [] := by unfold ti; rw [hg]; rfl
    rw [e, show y6 [] = [] from rfl] at hR heqS
    have hM3 := XG 1
    have hH := aH 0 1 (by omega) (by omega)
    rw [Nat.add_zero, show ((1 : Nat) : Int) = 1 from rfl, show mkS 0 1 = [] from rfl, show y6 [] = [] from rfl] at hH
    clear ho hon hb hb' hnb hB hg hcn e hZl
    generalize (zU.mk top packs).yh = bt at *
    generalize zt.ya ns = bn at *
    simp only [zU.enc, List.map_cons, List.map_nil] at hsz hto htO heqG hR hI hM1 ⊢
    generalize yJ packs = m0 at *
    generalize xD (1 + top.length) packs = mc at *
    generalize mkS top.length 1 = ms at *
    generalize tu ns.length (1 + top.length + m0) = mn at *
    refine zw rfl Tryz.func3 rfl (by kernel_rfl) ?_
    unfold Tryz.f3
    simp (disch := ((try simp only [LL]); omega)) only [↓GO, ↓DRW, GA, ren, zB, zf, refs, zb, cst, zl, zH, z7, E.load, E.store, zG, isC, bin, zI, zJ, una, z8, za, zh, zK, blt, fnV, asArg, zd, zn, zo, zj, zi, zg, zk, zr, z6, zD, zF, mkS, zc, unN, zM, zm, zy, zC, ze, zN, zq, GS, Int.reduceToNat, Nat.reduceGT, ↓reduceIte, Nat.reduceAdd, Nat.reduceMul, Nat.reduceSub, Nat.reduceEqDiff, Nat.reduceLeDiff, Nat.reduceLT, Nat.reduceBEq, Int.reduceBEq, Int.reduceBNe, Int.reduceEq, Int.reduceLT, Int.reduceLE, Int.reduceGT, Int.reduceNeg, reduceCtorEq, yO, yP, qz, sX, rG, rF, w7, mkO, tA, tm, v8, qv, yZ, sV, sS, xt, oc, oTs, oT, xf, xf.rowTs, tr, isL, Bool.not_false, Bool.true_and, Bool.and_true, Bool.and_self, List.flatMap_append, List.map_append, List.set_cons_zero, List.set_cons_succ, GZ, hsz, hsz2, c2, c3, hto, htO, hno, hnO, heqG, heqN, heqS, hR, hI, hM1, hM2, hM3, hH, g1, t1, t2, t3, List.drop_zero, nT, xx, yX, bne_self_eq_false, zY]
theorem dp (g : zU) (ns : List zt) (ho : g.ok) (hl : ns.length ≤ 9223372036854775807) (hon : ∀ n ∈ ns, n.ok) :
    EV Tryz.prog pol (.call 3 [.agg (g.enc.map .t), .t (.list 3 (zt.zV ns))] []) = some (.call (.t (.bool true)) []) := by
  have hsz := kF g ho 1048576 (by omega) (by omega)
  by_cases hb1 : g.yh ≤ 1048576
  · by_cases hb : g.yh + (ns.length + zt.ya ns) ≤ 1048576
    · exact mW g ns ho hon hb
    · rw [wz (by omega)] at hsz
      have hsz2 := o6 ns hl (fun n hn => nL n (hon n hn)) (1048576 - (g.yh : Int)) (by omega) (by omega)
      have hle : left (1048576 - (g.yh : Int)) (ns.length + zt.ya ns) = -1 := if_pos (by omega)
      rw [hle] at hsz2
      have c2 : decide (1048576 - (g.yh : Int) < 0) = false := by apply decide_eq_false; omega
      clear hb hle ho hon
      obtain ⟨top, packs⟩ := g
      generalize (zU.mk top packs).yh = bt at *
      simp only [zU.enc, List.map_cons, List.map_nil] at hsz ⊢
      refine zw rfl Tryz.func3 rfl (by kernel_rfl) ?_
      unfold Tryz.f3
      simp (disch := ((try simp only [LL]); omega)) only [↓GO, ↓DRW, GA, ren, zB, zf, refs, zb, cst, zl, zH, z7, E.load, E.store, zG, isC, bin, zI, zJ, una, z8, za, zh, zK, blt, fnV, asArg, zd, zn, zo, zj, zi, zg, zk, zr, z6, zD, zF, mkS, zc, unN, zM, zm, zy, zC, ze, zN, zq, GS, Int.reduceToNat, Nat.reduceGT, ↓reduceIte, Nat.reduceAdd, Nat.reduceMul, Nat.reduceSub, Nat.reduceEqDiff, Nat.reduceLeDiff, Nat.reduceLT, Nat.reduceBEq, Int.reduceBEq, Int.reduceBNe, Int.reduceEq, Int.reduceLT, Int.reduceLE, Int.reduceGT, Int.reduceNeg, reduceCtorEq, yO, yP, qz, sX, rG, rF, w7, mkO, tA, tm, v8, qv, yZ, sV, sS, xt, oc, oTs, oT, xf, xf.rowTs, tr, isL, Bool.not_false, Bool.true_and, Bool.and_true, Bool.and_self, List.flatMap_append, List.map_append, List.set_cons_zero, List.set_cons_succ, GZ, hsz, hsz2, c2]
  · have hle : left 1048576 g.yh = -1 := if_pos (by omega)
    rw [hle] at hsz
    clear hb1 hle ho hon
    obtain ⟨top, packs⟩ := g
    simp only [zU.enc, List.map_cons, List.map_nil] at hsz ⊢
    refine zw rfl Tryz.func3 rfl (by kernel_rfl) ?_
    unfold Tryz.f3
    simp (disch := ((try simp only [LL]); omega)) only [↓GO, ↓DRW, GA, ren, zB, zf, refs, zb, cst, zl, zH, z7, E.load, E.store, zG, isC, bin, zI, zJ, una, z8, za, zh, zK, blt, fnV, asArg, zd, zn, zo, zj, zi, zg, zk, zr, z6, zD, zF, mkS, zc, unN, zM, zm, zy, zC, ze, zN, zq, GS, Int.reduceToNat, Nat.reduceGT, ↓reduceIte, Nat.reduceAdd, Nat.reduceMul, Nat.reduceSub, Nat.reduceEqDiff, Nat.reduceLeDiff, Nat.reduceLT, Nat.reduceBEq, Int.reduceBEq, Int.reduceBNe, Int.reduceEq, Int.reduceLT, Int.reduceLE, Int.reduceGT, Int.reduceNeg, reduceCtorEq, yO, yP, qz, sX, rG, rF, w7, mkO, tA, tm, v8, qv, yZ, sV, sS, xt, oc, oTs, oT, xf, xf.rowTs, tr, isL, Bool.not_false, Bool.true_and, Bool.and_true, Bool.and_self, List.flatMap_append, List.map_append, List.set_cons_zero, List.set_cons_succ, GZ, hsz]
end Go.Proofs.YtmcephnfcciloaaGreatDoor
/- The law of Audit at what is handed in. Conditions: none. -/
namespace Go.Proofs.YtmcephnfcciloaaGreatDoor
open E
theorem XW (xs : List V) (h : WTA Tryz.prog [25, 26] xs) : EV Tryz.prog pol (.call 3 xs []) = some (.call (.t (.bool true)) []) := by
  obtain ⟨g, ns, rfl, ho, hl, hon⟩ := eK h
  exact dp g ns ho hl hon
end Go.Proofs.YtmcephnfcciloaaGreatDoor

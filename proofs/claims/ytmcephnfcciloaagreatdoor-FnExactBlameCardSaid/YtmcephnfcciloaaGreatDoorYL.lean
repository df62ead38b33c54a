/- Joined: K7 K8 V4 K9 V8 V9 V10 V11 K25 K26 K20. Conditions: those of each lemma. -/
import Derived.Test.YtmcephnfcciloaaGreatDoorYJ
import Derived.Test.YtmcephnfcciloaaGreatDoorYK
import Derived.Test.YtmcephnfcciloaaGreatDoorYG
set_option linter.unusedVariables false
set_option linter.unusedSimpArgs false
namespace Go.Proofs.YtmcephnfcciloaaGreatDoor
open E
set_option linter.unusedSimpArgs false
set_option linter.unusedVariables false
set_option maxRecDepth 100000
theorem a8 (p : zN) (hb : p.yg ≤ 4194304) : zC (EV Tryz.prog pol) 35 [.agg (p.enc.map .t)] = some (.t (.str (keyOf p))) := by
  obtain ⟨name, version, source, sums, dev, ym⟩ := p
  simp only [zN.yg] at hb
  simp only [zN.enc, List.map_cons, List.map_nil, keyOf]
  apply zw
  refine zy rfl Tryz.func35 rfl (by kernel_rfl) ?_
  unfold Tryz.f35
  simp (disch := ((try simp only [LL]); omega)) only [↓GO, ↓DRW, GA, ren, zA, zd, refs, zb, cst, zl, zG, z7, E.load, E.store, zF, isC, bin, zH, zI, una, z8, za, zh, zJ, blt, fnV, asArg, ze, zn, zo, zj, zi, zg, zk, zr, z6, zD, zE, E.mkS, zc, unN, zK, zm, zz, zB, zf, zL, zq, GS, simprocAttr, GZ, xK]
theorem a7 (p : zN) (hb : p.yg ≤ 4194304) : zC (EV Tryz.prog pol) 29 [.agg (p.enc.map .t)] = some (.t (.str (keyOf p))) := by
  obtain ⟨name, version, source, sums, dev, ym⟩ := p
  simp only [zN.yg] at hb
  simp only [zN.enc, List.map_cons, List.map_nil, keyOf]
  apply zw
  refine zy rfl Tryz.func29 rfl (by kernel_rfl) ?_
  unfold Tryz.f29
  simp (disch := ((try simp only [LL]); omega)) only [↓GO, ↓DRW, GA, ren, zA, zd, refs, zb, cst, zl, zG, z7, E.load, E.store, zF, isC, bin, zH, zI, una, z8, za, zh, zJ, blt, fnV, asArg, ze, zn, zo, zj, zi, zg, zk, zr, z6, zD, zE, E.mkS, zc, unN, zK, zm, zz, zB, zf, zL, zq, GS, simprocAttr, GZ, xK]
theorem c_slI (a : Str) : zC (EV Tryz.prog pol) 126 [.t (.str a)] = some (.t (.int .i64 (tK a))) := by
  unfold tK T4 ib h1S ia
  cases h1 : (a == [115, 104, 97, 49]) <;> cases h2 : (a == [115, 104, 97, 50, 53, 54]) <;> cases h3 : (a == [104, 49]) <;> cases h4 : (a == [115, 104, 97, 53, 49, 50])
  all_goals
    apply zw
    refine zy rfl Tryz.func126 rfl (by kernel_rfl) ?_
    unfold Tryz.f126
    simp (disch := ((try simp only [LL]); omega)) only [↓GO, ↓DRW, GA, ren, zA, zd, refs, zb, cst, zl, zG, z7, E.load, E.store, zF, isC, bin, zH, zI, una, z8, za, zh, zJ, blt, fnV, asArg, ze, zn, zo, zj, zi, zg, zk, zr, z6, zD, zE, E.mkS, zc, unN, zK, zm, zz, zB, zf, zL, zq, GS, simprocAttr, GZ, h1, h2, h3, h4]
theorem c_slR (a : Str) : zC (EV Tryz.prog pol) 81 [.t (.str a)] = some (.t (.int .i64 (tK a))) := by
  unfold tK T4 ib h1S ia
  cases h1 : (a == [115, 104, 97, 49]) <;> cases h2 : (a == [115, 104, 97, 50, 53, 54]) <;> cases h3 : (a == [104, 49]) <;> cases h4 : (a == [115, 104, 97, 53, 49, 50])
  all_goals
    apply zw
    refine zy rfl Tryz.func81 rfl (by kernel_rfl) ?_
    unfold Tryz.f81
    simp (disch := ((try simp only [LL]); omega)) only [↓GO, ↓DRW, GA, ren, zA, zd, refs, zb, cst, zl, zG, z7, E.load, E.store, zF, isC, bin, zH, zI, una, z8, za, zh, zJ, blt, fnV, asArg, ze, zn, zo, zj, zi, zg, zk, zr, z6, zD, zE, E.mkS, zc, unN, zK, zm, zz, zB, zf, zL, zq, GS, simprocAttr, GZ, h1, h2, h3, h4]
theorem aX (es : List y6) (hl : es.length ≤ 4194304) : ∀ (rest pre : List y6), es = pre ++ rest →
    EV Tryz.prog pol (.loop 94 26 0 [.t (.list 2 (y6.zW es)), .t (.list 2 (y6.zW es)), .t (.int .i64 (es.length : Int)), .t (.int .i64 (pre.length : Int))] []) = some (cond (vw (pre.getLast?.map y6.alg) rest) (.loop (.exit 0) [.bad] []) (.loop .ret [.t (.bool false)] []))
  | [], pre, hs => by
    have c : decide ((pre.length : Int) < (es.length : Int)) = false := by simp [hs]
    refine zu Tryz.func94 rfl rfl ?_
    simp (disch := ((try simp only [LL]); omega)) only [↓GO, ↓DRW, GA, ren, zA, zd, refs, zb, cst, zl, zG, z7, E.load, E.store, zF, isC, bin, zH, zI, una, z8, za, zh, zJ, blt, fnV, asArg, ze, zn, zo, zj, zi, zg, zk, zr, z6, zD, zE, E.mkS, zc, unN, zK, zm, zz, zB, zf, zL, zq, GS, simprocAttr, GZ, c, vw]
  | x :: rest, pre, hs => by
    have c : decide ((pre.length : Int) < (es.length : Int)) = true := by simp [hs]; omega
    have hget : (y6.zW es)[pre.length]? = some [.str x.alg, .str x.bytes] := by rw [hs]; exact wL y6.enc pre x rest
    have hlen : pre.length + rest.length + 1 ≤ es.length := by rw [hs]; simp; omega
    have IH := aX es hl rest (pre ++ [x]) (by rw [hs]; simp)
    have hk := c_slI x.alg
    rw [show ((pre ++ [x]).length : Int) = (pre.length : Int) + 1 by simp, show (pre ++ [x]).getLast?.map y6.alg = some x.alg by simp] at IH
    rw [vw]
    generalize tK x.alg = n at *
    rcases wx pre with rfl | ⟨pre', q, rfl⟩
    · clear hs
      simp only [List.length_nil, List.getLast?_nil, Option.map_none, vO, Int.natCast_zero, Int.zero_add] at *
      cases h1 : ((x.bytes.length : Int) == n)
      all_goals
        refine zu Tryz.func94 rfl rfl ?_
        simp (disch := ((try simp only [LL]); omega)) only [↓GO, ↓DRW, GA, ren, zA, zd, refs, zb, cst, zl, zG, z7, E.load, E.store, zF, isC, bin, zH, zI, una, z8, za, zh, zJ, blt, fnV, asArg, ze, zn, zo, zj, zi, zg, zk, zr, z6, zD, zE, E.mkS, zc, unN, zK, zm, zz, zB, zf, zL, zq, GS, simprocAttr, GZ, y6.zT, c, hget, zx, hk, h1, bne, IH, Int.zero_add]
    · have hprev : uV (y6.zW es) (((pre' ++ [q]).length : Int) - 1) = some [.str q.alg, .str q.bytes] := by rw [hs]; exact uO y6.enc pre' q (x :: rest)
      have hge : 1 ≤ (pre' ++ [q]).length := by simp
      have hgt : decide (((pre' ++ [q]).length : Int) > 0) = true := by simp only [decide_eq_true_eq]; omega
      have hcmp := r5 x.alg q.alg
      rw [show (pre' ++ [q]).getLast?.map y6.alg = some q.alg by simp]
      simp only [vO]
      clear hs
      generalize (pre' ++ [q]).length = m at *
      cases h1 : ((x.bytes.length : Int) == n) <;> cases h2 : Op.bytesLess q.alg x.alg <;> rw [h2] at hcmp
      all_goals
        refine zu Tryz.func94 rfl rfl ?_
        simp (disch := ((try simp only [LL]); omega)) only [↓GO, ↓DRW, GA, ren, zA, zd, refs, zb, cst, zl, zG, z7, E.load, E.store, zF, isC, bin, zH, zI, una, z8, za, zh, zJ, blt, fnV, asArg, ze, zn, zo, zj, zi, zg, zk, zr, z6, zD, zE, E.mkS, zc, unN, zK, zm, zz, zB, zf, zL, zq, GS, simprocAttr, GZ, y6.zT, c, hget, zx, hk, h1, bne, hgt, hprev, hcmp, IH]
theorem Sj (es : List y6) (hl : es.length ≤ 4194304) : zC (EV Tryz.prog pol) 94 [.t (.list 2 (y6.zW es))] = some (.t (.bool (vw none es))) := by
  have IH := aX es hl es [] rfl
  simp only [List.length_nil, Int.natCast_zero, List.getLast?_nil, Option.map_none] at IH
  apply zw
  refine zy rfl Tryz.func94 rfl (by kernel_rfl) ?_
  unfold Tryz.f94
  cases h : vw none es <;> rw [h] at IH <;> simp only [cond_true, cond_false] at IH <;> simp (disch := ((try simp only [LL]); omega)) only [↓GO, ↓DRW, GA, ren, zA, zd, refs, zb, cst, zl, zG, z7, E.load, E.store, zF, isC, bin, zH, zI, una, z8, za, zh, zJ, blt, fnV, asArg, ze, zn, zo, zj, zi, zg, zk, zr, z6, zD, zE, E.mkS, zc, unN, zK, zm, zz, zB, zf, zL, zq, GS, simprocAttr, GZ, y6.zT, IH]
theorem aY (p : zN) (hb : p.yg ≤ 4194304) : ∀ (rest pre : List y6), p.sums = pre ++ rest →
    EV Tryz.prog pol (.loop 56 26 0 [.ptr 0 0 0, .t (.int .i64 (pre.length : Int))] [.vs 6 [p.enc.map .t]]) = some (cond (vw (pre.getLast?.map y6.alg) rest) (.loop (.exit 0) [.ptr 0 0 0, .bad] [.vs 6 [p.enc.map .t]]) (.loop .ret [.ptr 0 0 0, .t (.bool false)] [.vs 6 [p.enc.map .t]]))
  | [], pre, hs => by
    have c : decide ((pre.length : Int) < (p.sums.length : Int)) = false := by simp [hs]
    simp only [zN.enc, List.map_cons, List.map_nil]
    refine zu Tryz.func56 rfl rfl ?_
    simp (disch := ((try simp only [LL]); omega)) only [↓GO, ↓DRW, GA, ren, zA, zd, refs, zb, cst, zl, zG, z7, E.load, E.store, zF, isC, bin, zH, zI, una, z8, za, zh, zJ, blt, fnV, asArg, ze, zn, zo, zj, zi, zg, zk, zr, z6, zD, zE, E.mkS, zc, unN, zK, zm, zz, zB, zf, zL, zq, GS, simprocAttr, GZ, c, y6.zT, vw, zZ]
  | x :: rest, pre, hs => by
    have c : decide ((pre.length : Int) < (p.sums.length : Int)) = true := by simp [hs]; omega
    have hget : (y6.zW p.sums)[pre.length]? = some [.str x.alg, .str x.bytes] := by rw [hs]; exact wL y6.enc pre x rest
    have hlen : pre.length + rest.length + 1 ≤ p.sums.length := by rw [hs]; simp; omega
    have hpb : p.sums.length ≤ 4194304 := by unfold zN.yg at hb; omega
    have IH := aY p hb rest (pre ++ [x]) (by rw [hs]; simp)
    have hk := c_slR x.alg
    rw [show ((pre ++ [x]).length : Int) = (pre.length : Int) + 1 by simp, show (pre ++ [x]).getLast?.map y6.alg = some x.alg by simp] at IH
    rw [vw]
    have hco : ((x.bytes.length : Int) == tK x.alg) = (tK x.alg == (x.bytes.length : Int)) := Bool.beq_comm
    rw [hco]
    generalize tK x.alg = n at *
    simp only [zN.enc, List.map_cons, List.map_nil] at IH ⊢
    rcases wx pre with rfl | ⟨pre', q, rfl⟩
    · clear hs
      simp only [List.length_nil, List.getLast?_nil, Option.map_none, vO, Int.natCast_zero, Int.zero_add] at *
      cases h1 : (n == (x.bytes.length : Int))
      all_goals
        refine zu Tryz.func56 rfl rfl ?_
        simp (disch := ((try simp only [LL]); omega)) only [↓GO, ↓DRW, GA, ren, zA, zd, refs, zb, cst, zl, zG, z7, E.load, E.store, zF, isC, bin, zH, zI, una, z8, za, zh, zJ, blt, fnV, asArg, ze, zn, zo, zj, zi, zg, zk, zr, z6, zD, zE, E.mkS, zc, unN, zK, zm, zz, zB, zf, zL, zq, GS, simprocAttr, GZ, y6.zT, c, hget, zx, hk, h1, bne, IH, Int.zero_add, zZ]
    · have hprev : uV (y6.zW p.sums) (((pre' ++ [q]).length : Int) - 1) = some [.str q.alg, .str q.bytes] := by rw [hs]; exact uO y6.enc pre' q (x :: rest)
      have hge : 1 ≤ (pre' ++ [q]).length := by simp
      have hgt : decide (((pre' ++ [q]).length : Int) > 0) = true := by simp only [decide_eq_true_eq]; omega
      rw [show (pre' ++ [q]).getLast?.map y6.alg = some q.alg by simp]
      simp only [vO]
      clear hs
      generalize (pre' ++ [q]).length = m at *
      cases h1 : (n == (x.bytes.length : Int)) <;> cases h2 : Op.bytesLess q.alg x.alg
      all_goals
        refine zu Tryz.func56 rfl rfl ?_
        simp (disch := ((try simp only [LL]); omega)) only [↓GO, ↓DRW, GA, ren, zA, zd, refs, zb, cst, zl, zG, z7, E.load, E.store, zF, isC, bin, zH, zI, una, z8, za, zh, zJ, blt, fnV, asArg, ze, zn, zo, zj, zi, zg, zk, zr, z6, zD, zE, E.mkS, zc, unN, zK, zm, zz, zB, zf, zL, zq, GS, simprocAttr, GZ, y6.zT, c, hget, zx, hk, h1, bne, hgt, hprev, h2, IH, zZ]
theorem S4 (s : Str) : ((exT s).length : Int) = cond (x6 s).isSome 1 0 := by
  unfold exT
  cases x6 s <;> rfl
theorem Sl (p : zN) (hb : p.yg ≤ 1048576) : zC (EV Tryz.prog pol) 56 [.agg (p.enc.map .t)] = some (.t (.bool (u0 p))) := by
  have L := aY p (by omega) p.sums [] rfl
  simp only [zN.yg] at hb
  have h1 := ZE p.name (by omega)
  have h2 := c_exR p.version (by omega)
  have h3 := dB p.source (by omega)
  have h4 := S4 p.version
  simp only [List.length_nil, Int.natCast_zero, List.getLast?_nil, Option.map_none] at L
  simp only [zN.enc, List.map_cons, List.map_nil] at L ⊢
  unfold u0
  generalize exT p.version = et at *
  generalize vw none p.sums = b1 at *
  generalize vx p.name = b2 at *
  generalize wJ p.source = b3 at *
  generalize (x6 p.version).isSome = b4 at *
  cases b1 <;> simp only [cond_true, cond_false] at L <;> cases b2 <;> cases b4 <;> simp only [cond_true, cond_false] at h4 <;> cases b3
  all_goals
    apply zw
    refine zy rfl Tryz.func56 rfl (by kernel_rfl) ?_
    unfold Tryz.f56
    simp (disch := ((try simp only [LL]); omega)) only [↓GO, ↓DRW, GA, ren, zA, zd, refs, zb, cst, zl, zG, z7, E.load, E.store, zF, isC, bin, zH, zI, una, z8, za, zh, zJ, blt, fnV, asArg, ze, zn, zo, zj, zi, zg, zk, zr, z6, zD, zE, E.mkS, zc, unN, zK, zm, zz, zB, zf, zL, zq, GS, simprocAttr, GZ, L, h1, h2, h3, h4, zZ, y6.zT]
theorem Wm (s : Str) : ((exT s).length : Int) = cond (x6 s).isSome 1 0 := by
  unfold exT
  cases x6 s <;> rfl
theorem Sm (p : zN) (hb : p.yg ≤ 1048576) : zC (EV Tryz.prog pol) 62 [.agg (p.enc.map .t)] = some (.t (.bool (u0 p))) := by
  simp only [zN.yg] at hb
  have L := Sj p.sums (by omega)
  have h1 := ZF p.name (by omega)
  have h2 := c_exI p.version (by omega)
  have h3 := dC p.source (by omega)
  have h4 := Wm p.version
  simp only [zN.enc, List.map_cons, List.map_nil]
  unfold u0
  generalize exT p.version = et at *
  generalize vw none p.sums = b1 at *
  generalize vx p.name = b2 at *
  generalize wJ p.source = b3 at *
  generalize (x6 p.version).isSome = b4 at *
  cases b1 <;> cases b2 <;> cases b4 <;> simp only [cond_true, cond_false] at h4 <;> cases b3
  all_goals
    apply zw
    refine zy rfl Tryz.func62 rfl (by kernel_rfl) ?_
    unfold Tryz.f62
    simp (disch := ((try simp only [LL]); omega)) only [↓GO, ↓DRW, GA, ren, zA, zd, refs, zb, cst, zl, zG, z7, E.load, E.store, zF, isC, bin, zH, zI, una, z8, za, zh, zJ, blt, fnV, asArg, ze, zn, zo, zj, zi, zg, zk, zr, z6, zD, zE, E.mkS, zc, unN, zK, zm, zz, zB, zf, zL, zq, GS, simprocAttr, GZ, L, h1, h2, h3, h4, zZ, y6.zT]
/-- graphs of bounded size -/
def GB (g : zU) : Prop := g.yg ≤ 1048576
theorem GB.len {g : zU} (h : GB g) : g.packs.length ≤ 1048576 ∧ g.top.length + yk g.top ≤ 1048576 ∧ ∀ p ∈ g.packs, p.yg ≤ 1048576 := by
  unfold GB zU.yg at h
  refine ⟨by omega, by omega, fun p hp => ?_⟩
  have := zN.yq hp
  omega
theorem Su (p : zN) (k : Str) (hb : p.yg ≤ 1048576) : zC (EV Tryz.prog pol) 78 [.agg (p.enc.map .t), .t (.fp [.str k])] = some (.t (.bool (keyOf p == k))) := by
  have h := a8 p (by omega)
  simp only [zN.enc, List.map_cons, List.map_nil] at h ⊢
  apply zw
  refine zy rfl Tryz.func78 rfl (by kernel_rfl) ?_
  unfold Tryz.f78
  simp (disch := ((try simp only [LL]); omega)) only [↓GO, ↓DRW, GA, ren, zA, zd, refs, zb, cst, zl, zG, z7, E.load, E.store, zF, isC, bin, zH, zI, una, z8, za, zh, zJ, blt, fnV, asArg, ze, zn, zo, zj, zi, zg, zk, zr, z6, zD, zE, E.mkS, zc, unN, zK, zm, zz, zB, zf, zL, zq, GS, simprocAttr, GZ, h]
theorem iJ (g : zU) (k : Str) (hB : GB g) : zC (EV Tryz.prog pol) 52 [.agg (g.enc.map .t), .t (.str k)] = some (.t (.int .i64 (ixI (pr g.packs k)))) := by
  obtain ⟨b1, b2, b3⟩ := hB.len
  have h := gw 78 [.fp [.str k]] (fun p => keyOf p == k) g.packs (by omega) (fun x hx => Su x k (b3 x hx))
  simp only [zU.enc, List.map_cons, List.map_nil] at h ⊢
  unfold pr
  apply zw
  refine zy rfl Tryz.func52 rfl (by kernel_rfl) ?_
  unfold Tryz.f52
  simp (disch := ((try simp only [LL]); omega)) only [↓GO, ↓DRW, GA, ren, zA, zd, refs, zb, cst, zl, zG, z7, E.load, E.store, zF, isC, bin, zH, zI, una, z8, za, zh, zJ, blt, fnV, asArg, ze, zn, zo, zj, zi, zg, zk, zr, z6, zD, zE, E.mkS, zc, unN, zK, zm, zz, zB, zf, zL, zq, GS, simprocAttr, GZ, h, zZ]
theorem Z7 (g : zU) (k : Str) (hB : GB g) : ∀ (rest pre : List zN), g.packs = pre ++ rest →
    EV Tryz.prog pol (.loop 71 26 0 [.t (.str k), .ptr 0 0 0, .t (.int .i64 (pre.length : Int))] [.vs 2 [g.enc.map .t]]) = some (match vv (fun p => keyOf p == k) rest pre.length with | some i => .loop .ret [.t (.int .i64 (i : Int))] [] | none => .loop (.exit 0) [.bad] [])
  | [], pre, hs => by
    have c : decide ((pre.length : Int) < (g.packs.length : Int)) = false := by simp [hs]
    simp only [zU.enc, List.map_cons, List.map_nil]
    refine zu Tryz.func71 rfl rfl ?_
    simp (disch := ((try simp only [LL]); omega)) only [↓GO, ↓DRW, GA, ren, zA, zd, refs, zb, cst, zl, zG, z7, E.load, E.store, zF, isC, bin, zH, zI, una, z8, za, zh, zJ, blt, fnV, asArg, ze, zn, zo, zj, zi, zg, zk, zr, z6, zD, zE, E.mkS, zc, unN, zK, zm, zz, zB, zf, zL, zq, GS, simprocAttr, GZ, c, zN.zT, vv, zZ]
  | x :: rest, pre, hs => by
    obtain ⟨b1, b2, b3⟩ := hB.len
    have c : decide ((pre.length : Int) < (g.packs.length : Int)) = true := by simp [hs]; omega
    have hget : (zN.zW g.packs)[pre.length]? = some x.enc := by rw [hs]; exact wL zN.enc pre x rest
    have hlen : pre.length + rest.length + 1 ≤ g.packs.length := by rw [hs]; simp; omega
    have hk := a7 x (by have := b3 x (by rw [hs]; simp); omega)
    have IH := Z7 g k hB rest (pre ++ [x]) (by rw [hs]; simp)
    rw [show ((pre ++ [x]).length : Int) = (pre.length : Int) + 1 by simp, show (pre ++ [x]).length = pre.length + 1 by simp] at IH
    clear hs
    simp only [zU.enc, zN.enc, List.map_cons, List.map_nil] at hget hk IH ⊢
    rw [vv]
    cases h1 : (keyOf x == k)
    all_goals
      refine zu Tryz.func71 rfl rfl ?_
      simp (disch := ((try simp only [LL]); omega)) only [↓GO, ↓DRW, GA, ren, zA, zd, refs, zb, cst, zl, zG, z7, E.load, E.store, zF, isC, bin, zH, zI, una, z8, za, zh, zJ, blt, fnV, asArg, ze, zn, zo, zj, zi, zg, zk, zr, z6, zD, zE, E.mkS, zc, unN, zK, zm, zz, zB, zf, zL, zq, GS, simprocAttr, GZ, c, zN.zT, hget, hk, h1, zx, IH, zZ]
theorem ZI (g : zU) (k : Str) (hB : GB g) : zC (EV Tryz.prog pol) 71 [.agg (g.enc.map .t), .t (.str k)] = some (.t (.int .i64 (ixI (pr g.packs k)))) := by
  have L := Z7 g k hB g.packs [] rfl
  simp only [List.length_nil, Int.natCast_zero] at L
  simp only [zU.enc, List.map_cons, List.map_nil] at L ⊢
  unfold pr
  cases hf : vv (fun p => keyOf p == k) g.packs 0 <;> rw [hf] at L <;> simp only at L
  all_goals
    apply zw
    refine zy rfl Tryz.func71 rfl (by kernel_rfl) ?_
    unfold Tryz.f71
    simp (disch := ((try simp only [LL]); omega)) only [↓GO, ↓DRW, GA, ren, zA, zd, refs, zb, cst, zl, zG, z7, E.load, E.store, zF, isC, bin, zH, zI, una, z8, za, zh, zJ, blt, fnV, asArg, ze, zn, zo, zj, zi, zg, zk, zr, z6, zD, zE, E.mkS, zc, unN, zK, zm, zz, zB, zf, zL, zq, GS, simprocAttr, GZ, L, ixI, zZ]
theorem Z4 (g : zU) (hB : GB g) (ks : List Str) (hl : ks.length ≤ 1048576) : ∀ (rest pre : List Str), ks = pre ++ rest →
    EV Tryz.prog pol (.loop 63 26 0 [.t (.list 1 (zV ks)), .ptr 0 0 0, .t (.list 1 (zV ks)), .t (.int .i64 (ks.length : Int)), .t (.int .i64 (pre.length : Int))] [.vs 2 [g.enc.map .t]]) = some (cond (xn g.packs pre.getLast? rest) (.loop (.exit 0) [.bad] []) (.loop .ret [.t (.bool false)] []))
  | [], pre, hs => by
    have c : decide ((pre.length : Int) < (ks.length : Int)) = false := by simp [hs]
    simp only [zU.enc, List.map_cons, List.map_nil]
    refine zu Tryz.func63 rfl rfl ?_
    simp (disch := ((try simp only [LL]); omega)) only [↓GO, ↓DRW, GA, ren, zA, zd, refs, zb, cst, zl, zG, z7, E.load, E.store, zF, isC, bin, zH, zI, una, z8, za, zh, zJ, blt, fnV, asArg, ze, zn, zo, zj, zi, zg, zk, zr, z6, zD, zE, E.mkS, zc, unN, zK, zm, zz, zB, zf, zL, zq, GS, simprocAttr, GZ, c, xn, zZ]
  | x :: rest, pre, hs => by
    have c : decide ((pre.length : Int) < (ks.length : Int)) = true := by simp [hs]; omega
    have hget : (zV ks)[pre.length]? = some [.str x] := by rw [hs]; exact w8 pre x rest
    have hlen : pre.length + rest.length + 1 ≤ ks.length := by rw [hs]; simp; omega
    have IH := Z4 g hB ks hl rest (pre ++ [x]) (by rw [hs]; simp)
    have hk := iJ g x hB
    have hlt := UL (fun p => keyOf p == x) g.packs
    rw [show ((pre ++ [x]).length : Int) = (pre.length : Int) + 1 by simp, show (pre ++ [x]).getLast? = some x by simp] at IH
    rw [xn]
    unfold Tg
    unfold pr at hk
    generalize ixI (vv (fun p => keyOf p == x) g.packs 0) = n at *
    generalize (g.packs.any fun p => keyOf p == x) = b1 at *
    simp only [zU.enc, List.map_cons, List.map_nil] at hk IH ⊢
    rcases wx pre with rfl | ⟨pre', q, rfl⟩
    · clear hs
      simp only [List.length_nil, List.getLast?_nil, vO, Int.natCast_zero, Int.zero_add] at *
      cases b1 <;> simp only [Bool.not_true, Bool.not_false] at hlt
      all_goals
        refine zu Tryz.func63 rfl rfl ?_
        simp (disch := ((try simp only [LL]); omega)) only [↓GO, ↓DRW, GA, ren, zA, zd, refs, zb, cst, zl, zG, z7, E.load, E.store, zF, isC, bin, zH, zI, una, z8, za, zh, zJ, blt, fnV, asArg, ze, zn, zo, zj, zi, zg, zk, zr, z6, zD, zE, E.mkS, zc, unN, zK, zm, zz, zB, zf, zL, zq, GS, simprocAttr, GZ, zO, c, hget, zx, hk, hlt, IH, Int.zero_add, zZ]
    · have hprev : uV (zV ks) (((pre' ++ [q]).length : Int) - 1) = some [.str q] := by rw [hs]; exact uO (fun s => [T.str s]) pre' q (x :: rest)
      have hge : 1 ≤ (pre' ++ [q]).length := by simp
      have hgt : decide (((pre' ++ [q]).length : Int) > 0) = true := by simp only [decide_eq_true_eq]; omega
      have hcmp := r5 x q
      rw [show (pre' ++ [q]).getLast? = some q by simp]
      simp only [vO]
      clear hs
      generalize (pre' ++ [q]).length = m at *
      cases b1 <;> simp only [Bool.not_true, Bool.not_false] at hlt <;> cases h2 : Op.bytesLess q x <;> rw [h2] at hcmp
      all_goals
        refine zu Tryz.func63 rfl rfl ?_
        simp (disch := ((try simp only [LL]); omega)) only [↓GO, ↓DRW, GA, ren, zA, zd, refs, zb, cst, zl, zG, z7, E.load, E.store, zF, isC, bin, zH, zI, una, z8, za, zh, zJ, blt, fnV, asArg, ze, zn, zo, zj, zi, zg, zk, zr, z6, zD, zE, E.mkS, zc, unN, zK, zm, zz, zB, zf, zL, zq, GS, simprocAttr, GZ, zO, c, hget, zx, hk, hlt, hgt, hprev, hcmp, IH, zZ]
theorem ZH (g : zU) (hB : GB g) (ks : List Str) (hl : ks.length ≤ 1048576) : zC (EV Tryz.prog pol) 63 [.agg (g.enc.map .t), .t (.list 1 (zV ks))] = some (.t (.bool (xn g.packs none ks))) := by
  have L := Z4 g hB ks hl ks [] rfl
  simp only [List.length_nil, Int.natCast_zero, List.getLast?_nil] at L
  simp only [zU.enc, List.map_cons, List.map_nil] at L ⊢
  cases h : xn g.packs none ks <;> rw [h] at L <;> simp only [cond_true, cond_false] at L
  all_goals
    apply zw
    refine zy rfl Tryz.func63 rfl (by kernel_rfl) ?_
    unfold Tryz.f63
    simp (disch := ((try simp only [LL]); omega)) only [↓GO, ↓DRW, GA, ren, zA, zd, refs, zb, cst, zl, zG, z7, E.load, E.store, zF, isC, bin, zH, zI, una, z8, za, zh, zJ, blt, fnV, asArg, ze, zn, zo, zj, zi, zg, zk, zr, z6, zD, zE, E.mkS, zc, unN, zK, zm, zz, zB, zf, zL, zq, GS, simprocAttr, GZ, L, zO, zZ]
theorem Z3 (g : zU) (hB : GB g) (ks : List Str) (hl : ks.length ≤ 1048576) : ∀ (rest pre : List Str), ks = pre ++ rest →
    EV Tryz.prog pol (.loop 57 26 0 [.t (.list 1 (zV ks)), .ptr 0 0 0, .t (.int .i64 (pre.length : Int))] [.vs 2 [g.enc.map .t]]) = some (cond (xn g.packs pre.getLast? rest) (.loop (.exit 0) [.bad] []) (.loop .ret [.t (.bool false)] []))
  | [], pre, hs => by
    have c : decide ((pre.length : Int) < (ks.length : Int)) = false := by simp [hs]
    simp only [zU.enc, List.map_cons, List.map_nil]
    refine zu Tryz.func57 rfl rfl ?_
    simp (disch := ((try simp only [LL]); omega)) only [↓GO, ↓DRW, GA, ren, zA, zd, refs, zb, cst, zl, zG, z7, E.load, E.store, zF, isC, bin, zH, zI, una, z8, za, zh, zJ, blt, fnV, asArg, ze, zn, zo, zj, zi, zg, zk, zr, z6, zD, zE, E.mkS, zc, unN, zK, zm, zz, zB, zf, zL, zq, GS, simprocAttr, GZ, c, zO, xn, zZ]
  | x :: rest, pre, hs => by
    have c : decide ((pre.length : Int) < (ks.length : Int)) = true := by simp [hs]; omega
    have hget : (zV ks)[pre.length]? = some [.str x] := by rw [hs]; exact w8 pre x rest
    have hlen : pre.length + rest.length + 1 ≤ ks.length := by rw [hs]; simp; omega
    have IH := Z3 g hB ks hl rest (pre ++ [x]) (by rw [hs]; simp)
    have hk := ZI g x hB
    have hlt := UL (fun p => keyOf p == x) g.packs
    rw [show ((pre ++ [x]).length : Int) = (pre.length : Int) + 1 by simp, show (pre ++ [x]).getLast? = some x by simp] at IH
    rw [xn]
    unfold Tg
    unfold pr at hk
    generalize ixI (vv (fun p => keyOf p == x) g.packs 0) = n at *
    generalize (g.packs.any fun p => keyOf p == x) = b1 at *
    simp only [zU.enc, List.map_cons, List.map_nil] at hk IH ⊢
    rcases wx pre with rfl | ⟨pre', q, rfl⟩
    · clear hs
      simp only [List.length_nil, List.getLast?_nil, vO, Int.natCast_zero, Int.zero_add] at *
      cases b1 <;> simp only [Bool.not_true, Bool.not_false] at hlt
      all_goals
        refine zu Tryz.func57 rfl rfl ?_
        simp (disch := ((try simp only [LL]); omega)) only [↓GO, ↓DRW, GA, ren, zA, zd, refs, zb, cst, zl, zG, z7, E.load, E.store, zF, isC, bin, zH, zI, una, z8, za, zh, zJ, blt, fnV, asArg, ze, zn, zo, zj, zi, zg, zk, zr, z6, zD, zE, E.mkS, zc, unN, zK, zm, zz, zB, zf, zL, zq, GS, simprocAttr, GZ, zO, c, hget, zx, hk, hlt, IH, Int.zero_add, zZ]
    · have hprev : uV (zV ks) (((pre' ++ [q]).length : Int) - 1) = some [.str q] := by rw [hs]; exact uO (fun s => [T.str s]) pre' q (x :: rest)
      have hge : 1 ≤ (pre' ++ [q]).length := by simp
      have hgt : decide (((pre' ++ [q]).length : Int) > 0) = true := by simp only [decide_eq_true_eq]; omega
      rw [show (pre' ++ [q]).getLast? = some q by simp]
      simp only [vO]
      clear hs
      generalize (pre' ++ [q]).length = m at *
      cases b1 <;> simp only [Bool.not_true, Bool.not_false] at hlt <;> cases h2 : Op.bytesLess q x
      all_goals
        refine zu Tryz.func57 rfl rfl ?_
        simp (disch := ((try simp only [LL]); omega)) only [↓GO, ↓DRW, GA, ren, zA, zd, refs, zb, cst, zl, zG, z7, E.load, E.store, zF, isC, bin, zH, zI, una, z8, za, zh, zJ, blt, fnV, asArg, ze, zn, zo, zj, zi, zg, zk, zr, z6, zD, zE, E.mkS, zc, unN, zK, zm, zz, zB, zf, zL, zq, GS, simprocAttr, GZ, zO, c, hget, zx, hk, hlt, hgt, hprev, h2, IH, zZ]
theorem ZG (g : zU) (hB : GB g) (ks : List Str) (hl : ks.length ≤ 1048576) : zC (EV Tryz.prog pol) 57 [.agg (g.enc.map .t), .t (.list 1 (zV ks))] = some (.t (.bool (xn g.packs none ks))) := by
  have L := Z3 g hB ks hl ks [] rfl
  simp only [List.length_nil, Int.natCast_zero, List.getLast?_nil] at L
  simp only [zU.enc, List.map_cons, List.map_nil] at L ⊢
  cases h : xn g.packs none ks <;> rw [h] at L <;> simp only [cond_true, cond_false] at L
  all_goals
    apply zw
    refine zy rfl Tryz.func57 rfl (by kernel_rfl) ?_
    unfold Tryz.f57
    simp (disch := ((try simp only [LL]); omega)) only [↓GO, ↓DRW, GA, ren, zA, zd, refs, zb, cst, zl, zG, z7, E.load, E.store, zF, isC, bin, zH, zI, una, z8, za, zh, zJ, blt, fnV, asArg, ze, zn, zo, zj, zi, zg, zk, zr, z6, zD, zE, E.mkS, zc, unN, zK, zm, zz, zB, zf, zL, zq, GS, simprocAttr, GZ, L, zO, zZ]
end Go.Proofs.YtmcephnfcciloaaGreatDoor
/- Is a graph right? By both. Conditions: those of each lemma. -/
namespace Go.Proofs.YtmcephnfcciloaaGreatDoor
open E
set_option linter.unusedSimpArgs false
set_option linter.unusedVariables false
set_option maxRecDepth 100000
theorem mg {p : zN} {n : Nat} (h : p.yg ≤ n) : p.ym.length ≤ n ∧ yk p.ym ≤ n ∧ p.sums.length ≤ n ∧ y6.ya p.sums ≤ n ∧ p.name.length ≤ n ∧ p.version.length ≤ n ∧ p.source.length ≤ n := by
  unfold zN.yg at h; omega
theorem UG (g : zU) (hB : GB g) : ∀ (rest pre : List zN), g.packs = pre ++ rest →
    EV Tryz.prog pol (.loop 33 26 0 [.ptr 0 0 0, .t (.list 6 (zN.zW g.packs)), .t (.int .i64 (g.packs.length : Int)), .t (.int .i64 (pre.length : Int))] [.vs 2 [g.enc.map .t]]) = some (cond (wu g.packs (pre.getLast?.map keyOf) rest) (.loop (.exit 0) [.ptr 0 0 0, .bad] [.vs 2 [g.enc.map .t]]) (.loop .ret [.ptr 0 0 0, .t (.bool false)] [.vs 2 [g.enc.map .t]]))
  | [], pre, hs => by
    have c : decide ((pre.length : Int) < (g.packs.length : Int)) = false := by simp [hs]
    simp only [zU.enc, List.map_cons, List.map_nil]
    refine zu Tryz.func33 rfl rfl ?_
    simp (disch := ((try simp only [LL]); omega)) only [↓GO, ↓DRW, GA, ren, zA, zd, refs, zb, cst, zl, zG, z7, E.load, E.store, zF, isC, bin, zH, zI, una, z8, za, zh, zJ, blt, fnV, asArg, ze, zn, zo, zj, zi, zg, zk, zr, z6, zD, zE, E.mkS, zc, unN, zK, zm, zz, zB, zf, zL, zq, GS, simprocAttr, GZ, c, wu, zZ]
  | x :: rest, pre, hs => by
    obtain ⟨b1, b2, b3⟩ := hB.len
    have c : decide ((pre.length : Int) < (g.packs.length : Int)) = true := by simp [hs]; omega
    have hget : (zN.zW g.packs)[pre.length]? = some x.enc := by rw [hs]; exact wL zN.enc pre x rest
    have hlen : pre.length + rest.length + 1 ≤ g.packs.length := by rw [hs]; simp; omega
    have hxb := b3 x (by rw [hs]; simp)
    have IH := UG g hB rest (pre ++ [x]) (by rw [hs]; simp)
    have h1 := Sm x hxb
    have h2 := a8 x (by omega)
    have h3 := ZH g hB x.ym (mg hxb).1
    rw [show ((pre ++ [x]).length : Int) = (pre.length : Int) + 1 by simp, show (pre ++ [x]).getLast?.map keyOf = some (keyOf x) by simp] at IH
    rw [wu]
    generalize u0 x = a1 at *
    generalize xn g.packs none x.ym = a2 at *
    rcases wx pre with rfl | ⟨pre', q, rfl⟩
    · clear hs
      generalize keyOf x = kx at *
      simp only [List.length_nil, List.getLast?_nil, Option.map_none, vO, Int.natCast_zero, Int.zero_add] at *
      simp only [zU.enc, zN.enc, List.map_cons, List.map_nil] at hget h1 h2 h3 IH ⊢
      cases a1 <;> cases a2
      all_goals
        refine zu Tryz.func33 rfl rfl ?_
        simp (disch := ((try simp only [LL]); omega)) only [↓GO, ↓DRW, GA, ren, zA, zd, refs, zb, cst, zl, zG, z7, E.load, E.store, zF, isC, bin, zH, zI, una, z8, za, zh, zJ, blt, fnV, asArg, ze, zn, zo, zj, zi, zg, zk, zr, z6, zD, zE, E.mkS, zc, unN, zK, zm, zz, zB, zf, zL, zq, GS, simprocAttr, GZ, zN.zT, c, hget, zx, h1, h2, h3, IH, Int.zero_add, zZ]
    · have hprev : uV (zN.zW g.packs) (((pre' ++ [q]).length : Int) - 1) = some q.enc := by rw [hs]; exact uO zN.enc pre' q (x :: rest)
      have h4 := a8 q (by have := b3 q (by rw [hs]; simp); omega)
      have hge : 1 ≤ (pre' ++ [q]).length := by simp
      have hgt : decide (((pre' ++ [q]).length : Int) > 0) = true := by simp only [decide_eq_true_eq]; omega
      have hcmp := r5 (keyOf x) (keyOf q)
      rw [show (pre' ++ [q]).getLast?.map keyOf = some (keyOf q) by simp]
      simp only [vO]
      clear hs
      generalize (pre' ++ [q]).length = m at *
      generalize keyOf x = kx at *
      generalize keyOf q = kq at *
      simp only [zU.enc, zN.enc, List.map_cons, List.map_nil] at hget hprev h1 h2 h3 h4 IH ⊢
      cases a1 <;> cases a2 <;> cases h5 : Op.bytesLess kq kx <;> rw [h5] at hcmp
      all_goals
        refine zu Tryz.func33 rfl rfl ?_
        simp (disch := ((try simp only [LL]); omega)) only [↓GO, ↓DRW, GA, ren, zA, zd, refs, zb, cst, zl, zG, z7, E.load, E.store, zF, isC, bin, zH, zI, una, z8, za, zh, zJ, blt, fnV, asArg, ze, zn, zo, zj, zi, zg, zk, zr, z6, zD, zE, E.mkS, zc, unN, zK, zm, zz, zB, zf, zL, zq, GS, simprocAttr, GZ, zN.zT, c, hget, zx, h1, h2, h3, h4, hgt, hprev, hcmp, IH, zZ]
theorem UW (g : zU) (hB : GB g) : zC (EV Tryz.prog pol) 33 [.agg (g.enc.map .t)] = some (.t (.bool (yH g))) := by
  have L := UG g hB g.packs [] rfl
  have h3 := ZH g hB g.top (by have := hB.len; omega)
  simp only [List.length_nil, Int.natCast_zero, List.getLast?_nil, Option.map_none] at L
  simp only [zU.enc, List.map_cons, List.map_nil] at L h3 ⊢
  unfold yH
  generalize xn g.packs none g.top = a2 at *
  cases h : wu g.packs none g.packs <;> rw [h] at L <;> simp only [cond_true, cond_false] at L <;> cases h4 : decide ((g.packs.length : Int) ≤ 40) <;> cases a2
  all_goals
    apply zw
    refine zy rfl Tryz.func33 rfl (by kernel_rfl) ?_
    unfold Tryz.f33
    simp (disch := ((try simp only [LL]); omega)) only [↓GO, ↓DRW, GA, ren, zA, zd, refs, zb, cst, zl, zG, z7, E.load, E.store, zF, isC, bin, zH, zI, una, z8, za, zh, zJ, blt, fnV, asArg, ze, zn, zo, zj, zi, zg, zk, zr, z6, zD, zE, E.mkS, zc, unN, zK, zm, zz, zB, zf, zL, zq, GS, simprocAttr, GZ, L, zN.zT, h3, h4, zZ]
theorem UF (g : zU) (hB : GB g) : ∀ (rest pre : List zN), g.packs = pre ++ rest →
    EV Tryz.prog pol (.loop 27 26 0 [.ptr 0 0 0, .t (.int .i64 (pre.length : Int))] [.vs 2 [g.enc.map .t]]) = some (cond (wu g.packs (pre.getLast?.map keyOf) rest) (.loop (.exit 0) [.ptr 0 0 0, .bad] [.vs 2 [g.enc.map .t]]) (.loop .ret [.ptr 0 0 0, .t (.bool false)] [.vs 2 [g.enc.map .t]]))
  | [], pre, hs => by
    have c : decide ((pre.length : Int) < (g.packs.length : Int)) = false := by simp [hs]
    simp only [zU.enc, List.map_cons, List.map_nil]
    refine zu Tryz.func27 rfl rfl ?_
    simp (disch := ((try simp only [LL]); omega)) only [↓GO, ↓DRW, GA, ren, zA, zd, refs, zb, cst, zl, zG, z7, E.load, E.store, zF, isC, bin, zH, zI, una, z8, za, zh, zJ, blt, fnV, asArg, ze, zn, zo, zj, zi, zg, zk, zr, z6, zD, zE, E.mkS, zc, unN, zK, zm, zz, zB, zf, zL, zq, GS, simprocAttr, GZ, c, zN.zT, wu, zZ]
  | x :: rest, pre, hs => by
    obtain ⟨b1, b2, b3⟩ := hB.len
    have c : decide ((pre.length : Int) < (g.packs.length : Int)) = true := by simp [hs]; omega
    have hget : (zN.zW g.packs)[pre.length]? = some x.enc := by rw [hs]; exact wL zN.enc pre x rest
    have hlen : pre.length + rest.length + 1 ≤ g.packs.length := by rw [hs]; simp; omega
    have hxb := b3 x (by rw [hs]; simp)
    have IH := UF g hB rest (pre ++ [x]) (by rw [hs]; simp)
    have h1 := Sl x hxb
    have h2 := a7 x (by omega)
    have h3 := ZG g hB x.ym (mg hxb).1
    rw [show ((pre ++ [x]).length : Int) = (pre.length : Int) + 1 by simp, show (pre ++ [x]).getLast?.map keyOf = some (keyOf x) by simp] at IH
    rw [wu]
    generalize u0 x = a1 at *
    generalize xn g.packs none x.ym = a2 at *
    rcases wx pre with rfl | ⟨pre', q, rfl⟩
    · clear hs
      generalize keyOf x = kx at *
      simp only [List.length_nil, List.getLast?_nil, Option.map_none, vO, Int.natCast_zero, Int.zero_add] at *
      simp only [zU.enc, zN.enc, List.map_cons, List.map_nil] at hget h1 h2 h3 IH ⊢
      cases a1 <;> cases a2
      all_goals
        refine zu Tryz.func27 rfl rfl ?_
        simp (disch := ((try simp only [LL]); omega)) only [↓GO, ↓DRW, GA, ren, zA, zd, refs, zb, cst, zl, zG, z7, E.load, E.store, zF, isC, bin, zH, zI, una, z8, za, zh, zJ, blt, fnV, asArg, ze, zn, zo, zj, zi, zg, zk, zr, z6, zD, zE, E.mkS, zc, unN, zK, zm, zz, zB, zf, zL, zq, GS, simprocAttr, GZ, zN.zT, c, hget, zx, h1, h2, h3, IH, Int.zero_add, zZ]
    · have hprev : uV (zN.zW g.packs) (((pre' ++ [q]).length : Int) - 1) = some q.enc := by rw [hs]; exact uO zN.enc pre' q (x :: rest)
      have h4 := a7 q (by have := b3 q (by rw [hs]; simp); omega)
      have hge : 1 ≤ (pre' ++ [q]).length := by simp
      have hgt : decide (((pre' ++ [q]).length : Int) > 0) = true := by simp only [decide_eq_true_eq]; omega
      rw [show (pre' ++ [q]).getLast?.map keyOf = some (keyOf q) by simp]
      simp only [vO]
      clear hs
      generalize (pre' ++ [q]).length = m at *
      generalize keyOf x = kx at *
      generalize keyOf q = kq at *
      simp only [zU.enc, zN.enc, List.map_cons, List.map_nil] at hget hprev h1 h2 h3 h4 IH ⊢
      cases a1 <;> cases a2 <;> cases h5 : Op.bytesLess kq kx
      all_goals
        refine zu Tryz.func27 rfl rfl ?_
        simp (disch := ((try simp only [LL]); omega)) only [↓GO, ↓DRW, GA, ren, zA, zd, refs, zb, cst, zl, zG, z7, E.load, E.store, zF, isC, bin, zH, zI, una, z8, za, zh, zJ, blt, fnV, asArg, ze, zn, zo, zj, zi, zg, zk, zr, z6, zD, zE, E.mkS, zc, unN, zK, zm, zz, zB, zf, zL, zq, GS, simprocAttr, GZ, zN.zT, c, hget, zx, h1, h2, h3, h4, hgt, hprev, h5, IH, zZ]
theorem aa (g : zU) (hB : GB g) : zC (EV Tryz.prog pol) 27 [.agg (g.enc.map .t)] = some (.t (.bool (yH g))) := by
  have L := UF g hB g.packs [] rfl
  have h3 := ZG g hB g.top (by have := hB.len; omega)
  simp only [List.length_nil, Int.natCast_zero, List.getLast?_nil, Option.map_none] at L
  simp only [zU.enc, List.map_cons, List.map_nil] at L h3 ⊢
  unfold yH
  generalize xn g.packs none g.top = a2 at *
  cases h : wu g.packs none g.packs <;> rw [h] at L <;> simp only [cond_true, cond_false] at L <;> cases h4 : decide ((g.packs.length : Int) ≤ 40) <;> cases a2
  all_goals
    apply zw
    refine zy rfl Tryz.func27 rfl (by kernel_rfl) ?_
    unfold Tryz.f27
    simp (disch := ((try simp only [LL]); omega)) only [↓GO, ↓DRW, GA, ren, zA, zd, refs, zb, cst, zl, zG, z7, E.load, E.store, zF, isC, bin, zH, zI, una, z8, za, zh, zJ, blt, fnV, asArg, ze, zn, zo, zj, zi, zg, zk, zr, z6, zD, zE, E.mkS, zc, unN, zK, zm, zz, zB, zf, zL, zq, GS, simprocAttr, GZ, L, zN.zT, h3, h4, zZ]
end Go.Proofs.YtmcephnfcciloaaGreatDoor
/- The tables of a graph, plain. Conditions: none. -/
namespace Go.Proofs.YtmcephnfcciloaaGreatDoor
open E
set_option linter.unusedVariables false
set_option linter.unusedSimpArgs false
set_option maxRecDepth 100000
/-- the last place of a byte below a place -/
def po (b : UInt8) (s : Str) : Nat → Option Nat
  | 0 => none
  | n + 1 => if s[n]? = some b then some n else po b s n
def vk (k : Str) : Str × Str := match po 64 k k.length with
  | some n => (k.take n, k.drop (n + 1))
  | none => ([], [])
end Go.Proofs.YtmcephnfcciloaaGreatDoor
/- Keys cut, short names, by both. Conditions: those of each lemma. -/
namespace Go.Proofs.YtmcephnfcciloaaGreatDoor
open E
set_option linter.unusedSimpArgs false
set_option linter.unusedVariables false
set_option maxRecDepth 100000
theorem SS (s : Str) (hl : s.length ≤ 4611686018427387904) : ∀ n : Nat, n ≤ s.length →
    EV Tryz.prog pol (.loop 49 26 0 [.t (.str s), .t (.int .i64 ((n : Int) - 1))] []) = some (match po 64 s n with | some k => .loop .ret [.t (.str (s.take k)), .t (.str (s.drop (k + 1)))] [] | none => .loop (.exit 0) [.bad, .bad] [])
  | 0, hn => by
    have c : decide ((0 : Int) - 1 ≥ 0) = false := by decide
    refine zu Tryz.func49 rfl rfl ?_
    simp (disch := ((try simp only [LL]); omega)) only [↓GO, ↓DRW, GA, ren, zA, zd, refs, zb, cst, zl, zG, z7, E.load, E.store, zF, isC, bin, zH, zI, una, z8, za, zh, zJ, blt, fnV, asArg, ze, zn, zo, zj, zi, zg, zk, zr, z6, zD, zE, E.mkS, zc, unN, zK, zm, zz, zB, zf, zL, zq, GS, simprocAttr, GZ, c, po]
  | n + 1, hn => by
    have c : decide ((n : Int) ≥ 0) = true := by simp
    have e : ((n + 1 : Nat) : Int) - 1 = (n : Int) := by omega
    have IH := SS s hl n (by omega)
    rw [e, po]
    obtain ⟨x, hx⟩ : ∃ x, s[n]? = some x := ⟨s[n]'(by omega), by simp⟩
    rw [hx]
    by_cases h : x = 64
    · subst h
      have c3 : (((64 : UInt8)).toNat : Int) = 64 := rfl
      rw [if_pos rfl]
      refine zu Tryz.func49 rfl rfl ?_
      simp (disch := ((try simp only [LL]); omega)) only [↓GO, ↓DRW, GA, ren, zA, zd, refs, zb, cst, zl, zG, z7, E.load, E.store, zF, isC, bin, zH, zI, una, z8, za, zh, zJ, blt, fnV, asArg, ze, zn, zo, zj, zi, zg, zk, zr, z6, zD, zE, E.mkS, zc, unN, zK, zm, zz, zB, zf, zL, zq, GS, simprocAttr, GZ, c, hx, zx, c3]
    · have c2 : ((x.toNat : Int) == 64) = false := by
        rw [beq_eq_false_iff_ne]; intro e; exact h (UInt8.toNat_inj.1 (by rw [show (64 : UInt8).toNat = 64 from rfl]; omega))
      rw [if_neg (by simpa using h)]
      refine zu Tryz.func49 rfl rfl ?_
      simp (disch := ((try simp only [LL]); omega)) only [↓GO, ↓DRW, GA, ren, zA, zd, refs, zb, cst, zl, zG, z7, E.load, E.store, zF, isC, bin, zH, zI, una, z8, za, zh, zJ, blt, fnV, asArg, ze, zn, zo, zj, zi, zg, zk, zr, z6, zD, zE, E.mkS, zc, unN, zK, zm, zz, zB, zf, zL, zq, GS, simprocAttr, GZ, c, hx, zx, c2, IH]
theorem c_skR (k : Str) (hl : k.length ≤ 4611686018427387904) : zC (EV Tryz.prog pol) 49 [.t (.str k)] = some (.tup [.t (.str (vk k).1), .t (.str (vk k).2)]) := by
  have L := SS k hl k.length (Nat.le_refl _)
  unfold vk
  cases hc : po 64 k k.length <;> rw [hc] at L <;> simp only at L
  all_goals
    apply zw
    refine zy rfl Tryz.func49 rfl (by kernel_rfl) ?_
    unfold Tryz.f49
    simp (disch := ((try simp only [LL]); omega)) only [↓GO, ↓DRW, GA, ren, zA, zd, refs, zb, cst, zl, zG, z7, E.load, E.store, zF, isC, bin, zH, zI, una, z8, za, zh, zJ, blt, fnV, asArg, ze, zn, zo, zj, zi, zg, zk, zr, z6, zD, zE, E.mkS, zc, unN, zK, zm, zz, zB, zf, zL, zq, GS, simprocAttr, GZ, L, zx]
end Go.Proofs.YtmcephnfcciloaaGreatDoor
/- Versions compared, plain: both ways come to the same; what is in a range. Conditions: none. -/
namespace Go.Proofs.YtmcephnfcciloaaGreatDoor
open E
set_option linter.unusedVariables false
set_option linter.unusedSimpArgs false
set_option maxRecDepth 100000
/-- a number's digits, none for zero -/
def dg (u : Nat) : Str := cond (u == 0) [] (Lib.decDigits u)
theorem nC : dg 0 = [] := rfl
theorem bW {u : Nat} (h : 0 < u) : dg u = Lib.decDigits u := by
  unfold dg; rw [show (u == 0) = false by simp; omega]; rfl
theorem iC {u : Nat} (h : 0 < u) : dg u = dg (u / 10) ++ [UInt8.ofNat (48 + u % 10)] := by
  rw [bW h, Lib.decDigits]
  split
  · rename_i h10
    rw [show u / 10 = 0 by omega, nC, show u % 10 = u by omega]; rfl
  · rename_i h10
    rw [bW (show 0 < u / 10 by omega)]
theorem iD : ∀ (n u : Nat), u ≤ n → 0 < u → ∃ c r, dg u = c :: r ∧ (c == 48) = false
  | 0, u, h, h0 => by omega
  | n + 1, u, h, h0 => by
    rw [iC h0]
    by_cases h1 : 0 < u / 10
    · obtain ⟨c, r, e1, e2⟩ := iD n (u / 10) (by omega) h1
      exact ⟨c, r ++ [UInt8.ofNat (48 + u % 10)], by rw [e1]; rfl, e2⟩
    · rw [show u / 10 = 0 by omega, nC]
      refine ⟨_, [], rfl, ?_⟩
      have key : ∀ k : Fin 10, k.val ≠ 0 → (UInt8.ofNat (48 + k.val) == 48) = false := by decide +kernel
      exact key ⟨u % 10, by omega⟩ (by simp only; omega)
def ltL (x y : Str) : Bool := decide (x.length < y.length) || (decide (x.length = y.length) && Op.bytesLess x y)
theorem Yo : ∀ x : Str, Op.bytesLess x [] = false
  | [] => rfl
  | _ :: _ => rfl
theorem tI : ∀ x : Str, Op.bytesLess x x = false
  | [] => rfl
  | a :: x => by rw [wH, tI x]; simp
theorem ek (a b : UInt8) : ∀ x y : Str, x.length = y.length → Op.bytesLess (x ++ [a]) (y ++ [b]) = (Op.bytesLess x y || (x == y && decide (a < b)))
  | [], [], _ => by
    simp only [List.nil_append]
    rw [wH]
    simp [Op.bytesLess]
  | [], _ :: _, h => by simp at h
  | _ :: _, [], h => by simp at h
  | c :: x, d :: y, h => by
    have ih := ek a b x y (by simpa using h)
    rw [List.cons_append, List.cons_append, wH, wH, ih]
    have e : ((c :: x) == (d :: y)) = (c == d && x == y) := rfl
    rw [e]
    cases decide (c < d) <;> cases (c == d) <;> cases Op.bytesLess x y <;> cases (x == y) <;> cases decide (a < b) <;> rfl
theorem Wd (a b : UInt8) (x y : Str) : ltL (x ++ [a]) (y ++ [b]) = (ltL x y || (x == y && decide (a < b))) := by
  unfold ltL
  simp only [List.length_append, List.length_cons, List.length_nil]
  by_cases h1 : x.length = y.length
  · rw [ek a b x y h1]
    have e1 : decide (x.length + 1 < y.length + 1) = false := by apply decide_eq_false; omega
    have e2 : decide (x.length < y.length) = false := by apply decide_eq_false; omega
    have e3 : decide (x.length + 1 = y.length + 1) = true := by apply decide_eq_true; omega
    have e4 : decide (x.length = y.length) = true := by apply decide_eq_true; exact h1
    simp only [Nat.zero_add, e1, e2, e3, e4, Bool.false_or, Bool.true_and]
  · have e : (x == y) = false := by rw [beq_eq_false_iff_ne]; intro h; exact h1 (by rw [h])
    have e3 : decide (x.length + 1 = y.length + 1) = false := by apply decide_eq_false; omega
    have e4 : decide (x.length = y.length) = false := by apply decide_eq_false; exact h1
    have e5 : decide (x.length + 1 < y.length + 1) = decide (x.length < y.length) := by
      rw [Bool.eq_iff_iff]; simp only [decide_eq_true_eq]; omega
    simp only [Nat.zero_add, e, e3, e4, e5, Bool.false_and, Bool.or_false]
theorem aT (x : Str) : ltL x x = false := by unfold ltL; rw [tI]; simp
theorem Y1 : ∀ (n u w : Nat), u + w ≤ n → ltL (dg u) (dg w) = decide (u < w)
  | 0, u, w, h => by
    have h1 : u = 0 := by omega
    have h2 : w = 0 := by omega
    subst h1; subst h2; rfl
  | n + 1, u, w, h => by
    by_cases hw : w = 0
    · subst hw
      rw [nC]
      unfold ltL
      rw [Yo]; simp
    · by_cases hu : u = 0
      · subst hu
        obtain ⟨c, r, e, _⟩ := iD w w (Nat.le_refl _) (by omega)
        rw [nC, e]
        unfold ltL
        simp; omega
      · rw [iC (show 0 < u by omega), iC (show 0 < w by omega), Wd]
        have i1 := Y1 n (u / 10) (w / 10) (by omega)
        have i2 := Y1 n (w / 10) (u / 10) (by omega)
        have ed : decide (UInt8.ofNat (48 + u % 10) < UInt8.ofNat (48 + w % 10)) = decide (u % 10 < w % 10) := by
          have key : ∀ a b : Fin 10, decide (UInt8.ofNat (48 + a.val) < UInt8.ofNat (48 + b.val)) = decide (a.val < b.val) := by decide +kernel
          exact key ⟨u % 10, by omega⟩ ⟨w % 10, by omega⟩
        rw [i1, ed]
        by_cases he : u / 10 = w / 10
        · rw [he]
          simp only [beq_self_eq_true, Bool.true_and, Nat.lt_irrefl, decide_false, Bool.false_or]
          rw [Bool.eq_iff_iff]; simp only [decide_eq_true_eq]; omega
        · have hx : (dg (u / 10) == dg (w / 10)) = false := by
            rw [beq_eq_false_iff_ne]; intro hh
            rw [hh, aT] at i1
            rw [hh, aT] at i2
            have a1 := of_decide_eq_false i1.symm
            have a2 := of_decide_eq_false i2.symm
            omega
          rw [hx, Bool.false_and, Bool.or_false, Bool.eq_iff_iff]
          simp only [decide_eq_true_eq]; omega
/-- without zeros in front -/
def wj (s : Str) : Str := s.dropWhile (· == 48)
theorem nO (u : Nat) : wj (Lib.decDigits u) = dg u := by
  by_cases h : 0 < u
  · rw [← bW h]
    obtain ⟨c, r, e, e2⟩ := iD u u (Nat.le_refl _) h
    rw [e]; unfold wj; simp [List.dropWhile, e2]
  · have : u = 0 := by omega
    subst this
    rw [Lib.decDigits_one (by omega)]; rfl
def ZB (a b : Str) : Int := cond (isNum a && isNum b)
  (cond (xb ((wj a).length : Int) ((wj b).length : Int) == 0) (mI (wj a) (wj b)) (xb ((wj a).length : Int) ((wj b).length : Int)))
  (cond (isNum a) (-1) (cond (isNum b) 1 (mI a b)))
theorem kY {a : Str} (h : wA a = true) : isNum a = decide (zP a ≥ 0) := by
  unfold wA at h
  simp only [Bool.and_eq_true, Bool.or_eq_true, Bool.not_eq_true', decide_eq_true_eq] at h
  rcases h.2.2 with h1 | h1
  · rw [h1]
    symm
    apply decide_eq_false
    intro hg
    obtain ⟨a1, _, _, a4⟩ := xz (s := a) hg
    unfold isNum at h1
    have e1 : (a == []) = false := by simpa using a4
    have e2 : a.all isD = true := by rw [List.all_eq_true]; exact a1
    rw [e1, e2] at h1; cases h1
  · have e : decide (zP a ≥ 0) = true := decide_eq_true h1
    rw [e]
    obtain ⟨a1, _, _, a4⟩ := xz (s := a) h1
    unfold isNum
    have e1 : (a == []) = false := by simpa using a4
    have e2 : a.all isD = true := by rw [List.all_eq_true]; exact a1
    rw [e1, e2]; rfl
theorem mE {a : Str} (h : zP a ≥ 0) : ∃ u : Nat, zP a = u ∧ a = Lib.decDigits u := by
  obtain ⟨_, a2, _, _⟩ := xz (s := a) h
  obtain ⟨u, hu⟩ : ∃ u : Nat, zP a = u := ⟨(zP a).toNat, by omega⟩
  refine ⟨u, hu, ?_⟩
  rw [hu, Lib.itoa_nonneg] at a2
  exact a2.symm
theorem Sa (u w : Nat) : cond (xb ((dg u).length : Int) ((dg w).length : Int) == 0) (mI (dg u) (dg w)) (xb ((dg u).length : Int) ((dg w).length : Int)) = xb (u : Int) (w : Int) := by
  have h1 := Y1 (u + w) u w (Nat.le_refl _)
  have h2 := Y1 (u + w) w u (by omega)
  rw [uJ]
  unfold ltL at h1 h2
  rcases Nat.lt_trichotomy u w with h | h | h
  · have e : decide (u < w) = true := decide_eq_true h
    rw [e] at h1
    have r : xb (u : Int) (w : Int) = -1 := by unfold xb; rw [show decide ((u : Int) < (w : Int)) = true by apply decide_eq_true; omega]; rfl
    rw [r]
    rcases Nat.lt_trichotomy (dg u).length (dg w).length with g | g | g
    · have e1 : (((dg u).length : Int) == ((dg w).length : Int)) = false := by rw [beq_eq_false_iff_ne]; omega
      rw [e1, cond_false]
      unfold xb; rw [show decide (((dg u).length : Int) < ((dg w).length : Int)) = true by apply decide_eq_true; omega]; rfl
    · have e1 : (((dg u).length : Int) == ((dg w).length : Int)) = true := by rw [beq_iff_eq]; omega
      rw [e1, cond_true]
      have e2 : Op.bytesLess (dg u) (dg w) = true := by
        simp only [g, Nat.lt_irrefl, decide_false, Bool.false_or, decide_true, Bool.true_and] at h1; exact h1
      unfold mI; rw [e2]; rfl
    · exfalso
      have e1 : decide ((dg u).length < (dg w).length) = false := by apply decide_eq_false; omega
      have e2 : decide ((dg u).length = (dg w).length) = false := by apply decide_eq_false; omega
      rw [e1, e2] at h1; cases h1
  · subst h
    have e1 : (((dg u).length : Int) == ((dg u).length : Int)) = true := by simp
    rw [e1, cond_true]
    have r : xb (u : Int) (u : Int) = 0 := by unfold xb; simp
    rw [r]; unfold mI; rw [tI]; simp
  · have e : decide (w < u) = true := decide_eq_true h
    rw [e] at h2
    have r : xb (u : Int) (w : Int) = 1 := by
      unfold xb
      rw [show decide ((u : Int) < (w : Int)) = false by apply decide_eq_false; omega, show decide ((u : Int) > (w : Int)) = true by apply decide_eq_true; omega]; rfl
    rw [r]
    rcases Nat.lt_trichotomy (dg w).length (dg u).length with g | g | g
    · have e1 : (((dg u).length : Int) == ((dg w).length : Int)) = false := by rw [beq_eq_false_iff_ne]; omega
      rw [e1, cond_false]
      unfold xb
      rw [show decide (((dg u).length : Int) < ((dg w).length : Int)) = false by apply decide_eq_false; omega, show decide (((dg u).length : Int) > ((dg w).length : Int)) = true by apply decide_eq_true; omega]; rfl
    · have e1 : (((dg u).length : Int) == ((dg w).length : Int)) = true := by rw [beq_iff_eq]; omega
      rw [e1, cond_true]
      have e2 : Op.bytesLess (dg w) (dg u) = true := by
        simp only [g, Nat.lt_irrefl, decide_false, Bool.false_or, decide_true, Bool.true_and] at h2; exact h2
      have e3 := r5 (dg u) (dg w)
      rw [e2] at e3
      have e4 : Op.bytesLess (dg u) (dg w) = false := by
        cases hh : Op.bytesLess (dg u) (dg w) with
        | false => rfl
        | true => rw [hh] at e3; cases e3
      unfold mI; rw [e3, e4]; rfl
    · exfalso
      have e1 : decide ((dg w).length < (dg u).length) = false := by apply decide_eq_false; omega
      have e2 : decide ((dg w).length = (dg u).length) = false := by apply decide_eq_false; omega
      rw [e1, e2] at h2; cases h2
theorem Sb {a b : Str} (ha : wA a = true) (hb : wA b = true) : ZB a b = ZC a b := by
  unfold ZB ZC
  rw [kY ha, kY hb]
  cases h1 : decide (zP a ≥ 0) <;> cases h2 : decide (zP b ≥ 0) <;> simp only [Bool.and_true, Bool.and_false, Bool.true_and, Bool.false_and, cond_true, cond_false]
  obtain ⟨u, e1, e2⟩ := mE (of_decide_eq_true h1)
  obtain ⟨w, e3, e4⟩ := mE (of_decide_eq_true h2)
  rw [e1, e3, e2, e4, nO, nO]
  exact Sa u w
def r9 : List Str → List Str → Option Int
  | a :: l, b :: m => cond (ZB a b == 0) (r9 l m) (some (ZB a b))
  | _, _ => none
theorem fx : ∀ {a b : List Str}, (∀ x ∈ a, wA x = true) → (∀ x ∈ b, wA x = true) → r9 a b = qc a b
  | [], _, _, _ => by unfold r9 qc; rfl
  | _ :: _, [], _, _ => rfl
  | x :: a, y :: b, ha, hb => by
    rw [r9, qc, Sb (ha x (by simp)) (hb y (by simp)), fx (fun z hz => ha z (by simp [hz])) (fun z hz => hb z (by simp [hz]))]
def pY (a b : Ver) : Int :=
  cond (xb a.maj b.maj == 0) (cond (xb a.min b.min == 0) (cond (xb a.pat b.pat == 0)
    (cond ((a.pre == []) != (b.pre == [])) (xb (b.pre.length : Int) (a.pre.length : Int)) ((r9 a.pre b.pre).getD (xb (a.pre.length : Int) (b.pre.length : Int))))
    (xb a.pat b.pat)) (xb a.min b.min)) (xb a.maj b.maj)
theorem ZA {a b : Ver} (ha : yw a = true) (hb : yw b = true) : pY a b = qj a b := by
  have h1 := (wg ha).2.2.2.1
  have h2 := (wg hb).2.2.2.1
  rw [List.all_eq_true] at h1 h2
  have hs := fx h1 h2
  unfold pY qj Tb
  rw [hs]
  congr 3
  cases hx : a.pre with
  | nil =>
    cases hy : b.pre with
    | nil => rfl
    | cons y l => rfl
  | cons x k =>
    cases hy : b.pre with
    | nil => rfl
    | cons y l => rfl
end Go.Proofs.YtmcephnfcciloaaGreatDoor
/- What is in a range, what notices tell: plain; both ways come to the same. Conditions: none. -/
namespace Go.Proofs.YtmcephnfcciloaaGreatDoor
open E
set_option linter.unusedVariables false
set_option linter.unusedSimpArgs false
set_option maxRecDepth 100000
theorem dx : ∀ a b : Str, Lib.compareBytes a b = mI a b
  | [], [] => rfl
  | [], _ :: _ => rfl
  | _ :: _, [] => by simp [Lib.compareBytes, mI, Op.bytesLess]
  | a :: x, b :: y => by
    have ih := dx x y
    unfold mI at ih ⊢
    rw [Lib.compareBytes, wH, show ((a :: x) == (b :: y)) = (a == b && x == y) from rfl]
    by_cases h1 : a < b
    · rw [if_pos h1]; simp [h1]
    · rw [if_neg h1]
      by_cases h2 : b < a
      · have h3 : (a == b) = false := by
          rw [beq_eq_false_iff_ne]; intro h; subst h; exact h1 h2
        rw [if_pos h2]; simp [h1, h3]
      · have h3 : a = b := by
          apply UInt8.toNat_inj.1; simp only [UInt8.lt_iff_toNat_lt] at h1 h2; omega
        subst h3
        rw [if_neg h2, ih]
        simp only [decide_false, h1, Bool.false_or, beq_self_eq_true, Bool.true_and]
def ZT (v l : Ver) : Bool := !(l.pre == []) && (l.maj == v.maj && (l.min == v.min && l.pat == v.pat))
def vY (v : Ver) (b : Bd) : Bool :=
  cond (((zM b.1).2 && decide (qj v (zM b.1).1 < 0)) || ((zM b.2).2 && decide (qj v (zM b.2).1 ≥ 0))) false
    (v.pre == [] || ((zM b.1).2 && ZT v (zM b.1).1))
def o4 (v : Ver) (b : Bd) : Bool :=
  cond ((!(b.1 == []) && decide (pY v (zM b.1).1 < 0)) || (!(b.2 == []) && decide (pY v (zM b.2).1 ≥ 0))) false
    (v.pre == [] || ZT v (zM b.1).1)
theorem eB {s : Str} (h : isE s = true) : (!(s == [])) = (zM s).2 := by
  unfold isE at h
  cases hs : (s == []) with
  | false =>
    rw [hs, Bool.or_false] at h
    unfold isV at h
    rw [h]; rfl
  | true =>
    have : s = [] := by simpa using hs
    subst this
    cases hr : (zM []).2 with
    | false => rfl
    | true => exact absurd rfl (yv hr).2.2.2
theorem cb {v : Ver} (hv : yw v = true) {b : Bd} (h1 : isE b.1 = true) (h2 : isE b.2 = true) : o4 v b = vY v b := by
  unfold o4 vY
  rw [eB h1, eB h2]
  have e1 : ((zM b.1).2 && decide (pY v (zM b.1).1 < 0)) = ((zM b.1).2 && decide (qj v (zM b.1).1 < 0)) := by
    cases hr : (zM b.1).2 with
    | false => rfl
    | true => rw [ZA hv (yv hr).2.2.1]
  have e2 : ((zM b.2).2 && decide (pY v (zM b.2).1 ≥ 0)) = ((zM b.2).2 && decide (qj v (zM b.2).1 ≥ 0)) := by
    cases hr : (zM b.2).2 with
    | false => rfl
    | true => rw [ZA hv (yv hr).2.2.1]
  have e3 : ZT v (zM b.1).1 = ((zM b.1).2 && ZT v (zM b.1).1) := by
    cases hr : (zM b.1).2 with
    | false => rw [lU hr]; rfl
    | true => rfl
  rw [e1, e2, ← e3]
/-- is a version in a range? -/
def inB (s : Str) (l : List Bd) : Bool := (zM s).2 && (xt l && l.any (vY (zM s).1))
theorem dK {v : Ver} (hv : yw v = true) : ∀ (l : List Bd), (l.all fun b => isE b.1 && isE b.2) = true → l.any (o4 v) = l.any (vY v)
  | [], _ => rfl
  | b :: l, h => by
    simp only [List.all_cons, Bool.and_eq_true] at h
    rw [List.any_cons, List.any_cons, cb hv h.1.1 h.1.2, dK hv l h.2]
def pF (x : zt) : Bool := (wD x.range).isSome && (vx x.name && (wJ x.text && !(x.text == [])))
def afT (n : zt) (name ver : Str) : Bool := pF n && (n.name == name && inB ver ((wD n.range).getD []))
end Go.Proofs.YtmcephnfcciloaaGreatDoor
/- What one reaches in a graph, plain: both ways come to the same. Conditions: none. -/
namespace Go.Proofs.YtmcephnfcciloaaGreatDoor
open E
set_option linter.unusedVariables false
set_option linter.unusedSimpArgs false
set_option maxRecDepth 100000
theorem Uz : ∀ x y : Str, Op.bytesLess x y = decide (x < y)
  | [], [] => by simp [Op.bytesLess]
  | [], b :: y => by simp [Op.bytesLess]
  | a :: x, [] => by simp [Op.bytesLess]
  | a :: x, b :: y => by
    rw [wH, Uz x y, Bool.eq_iff_iff]
    simp only [Bool.or_eq_true, decide_eq_true_eq, Bool.and_eq_true, beq_iff_eq, List.cons_lt_cons_iff]
theorem iU (x y : Str) : decide (x ≤ y) = !(Op.bytesLess y x) := by
  rw [Uz, Bool.eq_iff_iff]
  simp only [decide_eq_true_eq, Bool.not_eq_true', decide_eq_false_iff_not]
  exact Iff.rfl
theorem en {x y : Str} (h1 : Op.bytesLess x y = false) (h2 : Op.bytesLess y x = false) : x = y := by
  have h := r5 x y
  rw [h1, h2] at h
  simpa using h
theorem uD : ∀ {x y z : Str}, Op.bytesLess x y = true → Op.bytesLess y z = true → Op.bytesLess x z = true
  | [], [], z, h1, _ => by simp [Op.bytesLess] at h1
  | _ :: _, [], z, h1, _ => by simp [Op.bytesLess] at h1
  | [], _ :: _, [], _, h2 => by simp [Op.bytesLess] at h2
  | [], _ :: _, _ :: _, _, _ => by simp [Op.bytesLess]
  | _ :: _, _ :: _, [], _, h2 => by simp [Op.bytesLess] at h2
  | a :: x, b :: y, c :: z, h1, h2 => by
    rw [wH] at h1 h2 ⊢
    simp only [Bool.or_eq_true, decide_eq_true_eq, Bool.and_eq_true, beq_iff_eq, UInt8.lt_iff_toNat_lt] at h1 h2 ⊢
    rcases h1 with h1 | ⟨rfl, h1⟩
    · rcases h2 with h2 | ⟨rfl, h2⟩
      · left; omega
      · left; exact h1
    · rcases h2 with h2 | ⟨rfl, h2⟩
      · left; exact h2
      · right; exact ⟨rfl, uD h1 h2⟩
theorem mq {x y z : Str} (h1 : Op.bytesLess y x = false) (h2 : Op.bytesLess z y = false) : Op.bytesLess z x = false := by
  cases h : Op.bytesLess z x with
  | false => rfl
  | true =>
    exfalso
    cases hyz : Op.bytesLess y z with
    | true => have := uD hyz h; rw [h1] at this; cases this
    | false =>
      have := en hyz h2
      subst this
      rw [h1] at h; cases h
def Asc (l : List Str) : Prop := l.Pairwise fun x y => Op.bytesLess y x = false
theorem dI : ∀ {a b : List Str}, Asc a → Asc b → a.Perm b → a = b
  | [], b, _, _, h => by simpa using h.symm
  | x :: a, [], _, _, h => by have := h.length_eq; simp at this
  | x :: a, y :: b, h1, h2, h => by
    have h1' := List.pairwise_cons.1 h1
    have h2' := List.pairwise_cons.1 h2
    have hxy : x = y := by
      have m1 : x ∈ y :: b := h.mem_iff.1 (by simp)
      have m2 : y ∈ x :: a := h.mem_iff.2 (by simp)
      rcases List.mem_cons.1 m1 with e | m1
      · exact e
      · rcases List.mem_cons.1 m2 with e | m2
        · exact e.symm
        · exact en (h2'.1 x m1) (h1'.1 y m2) |>.symm ▸ rfl
    subst hxy
    rw [dI h1'.2 h2'.2 (List.Perm.cons_inv h)]
theorem Y9 (l : List Str) : Asc (wz l) := by
  have := List.pairwise_mergeSort (le := fun x y : Str => decide (x ≤ y)) (fun a b c h1 h2 => by
    rw [iU] at *
    simp only [Bool.not_eq_true'] at *
    exact mq h1 h2) (fun a b => by
    rw [iU, iU]
    cases h1 : Op.bytesLess b a <;> cases h2 : Op.bytesLess a b <;> first | rfl | skip
    have := uD h1 h2
    rw [tI] at this; cases this) l
  refine List.Pairwise.imp (fun {a b} h => ?_) this
  rw [iU] at h
  simpa using h
theorem XV {a b : List Str} (hb : Asc b) (h : a.Perm b) : wz a = b := dI (Y9 a) hb ((nR a).trans h)
/-- a text put into its place -/
def yU : List Str → Str → List Str
  | [], s => [s]
  | x :: r, s => cond (Op.bytesLess x s) (x :: yU r s) (cond (x == s) (x :: r) (s :: x :: r))
def xe (l : List Str) (s : Str) : Bool := l.any (· == s)
theorem pW : ∀ (l : List Str) (s : Str), xe l s = false → (yU l s).Perm (l ++ [s])
  | [], s, _ => by simp [yU]
  | x :: r, s, h => by
    simp only [xe, List.any_cons, Bool.or_eq_false_iff] at h
    rw [yU, h.1]
    cases Op.bytesLess x s with
    | true => simp only [cond_true, List.cons_append]; exact (pW r s h.2).cons x
    | false => simp only [cond_false]; exact (List.perm_append_singleton s (x :: r)).symm
theorem lE : ∀ (l : List Str) (s y : Str), y ∈ yU l s → y ∈ l ∨ y = s
  | [], s, y, h => by simpa [yU] using h
  | x :: r, s, y, h => by
    rw [yU] at h
    cases h1 : Op.bytesLess x s with
    | true =>
      rw [h1, cond_true] at h
      rcases List.mem_cons.1 h with h | h
      · left; simp [h]
      · rcases lE r s y h with h | h
        · left; simp [h]
        · right; exact h
    | false =>
      rw [h1, cond_false] at h
      cases h2 : (x == s) with
      | true => rw [h2, cond_true] at h; left; exact h
      | false =>
        rw [h2, cond_false] at h
        rcases List.mem_cons.1 h with h | h
        · right; exact h
        · left; exact h
theorem dO : ∀ (l : List Str) (s : Str), Asc l → Asc (yU l s)
  | [], s, _ => by simp [yU, Asc]
  | x :: r, s, h => by
    have h' := List.pairwise_cons.1 h
    rw [yU]
    cases h1 : Op.bytesLess x s with
    | true =>
      simp only [cond_true]
      refine List.pairwise_cons.2 ⟨fun y hy => ?_, dO r s h'.2⟩
      rcases lE r s y hy with hy | rfl
      · exact h'.1 y hy
      · cases h2 : Op.bytesLess y x with
        | false => rfl
        | true => have := uD h1 h2; rw [tI] at this; cases this
    | false =>
      simp only [cond_false]
      cases h2 : (x == s) with
      | true => exact h
      | false =>
        simp only [cond_false]
        refine List.pairwise_cons.2 ⟨fun y hy => ?_, h⟩
        rcases List.mem_cons.1 hy with rfl | hy
        · exact h1
        · exact mq h1 (h'.1 y hy)
theorem YC {a b : List Str} (h : a.Perm b) (s : Str) : xe a s = xe b s := by
  unfold xe
  rw [Bool.eq_iff_iff, List.any_eq_true, List.any_eq_true]
  constructor
  · rintro ⟨x, h1, h2⟩; exact ⟨x, h.mem_iff.1 h1, h2⟩
  · rintro ⟨x, h1, h2⟩; exact ⟨x, h.mem_iff.2 h1, h2⟩
def vM (ps : List zN) (k : Str) : Option zN := match pr ps k with
  | some i => ps[i]?
  | none => none
/-- add: how a key is laid down -/
def yx (add : List Str → Str → List Str) (ps : List zN) : Nat → List Str → List Str → List Str
  | 0, out, _ => out
  | _ + 1, out, [] => out
  | n + 1, out, k :: w => match vM ps k with
    | none => yx add ps n out w
    | some p => cond (xe out k) (yx add ps n out w) (yx add ps n (add out k) (w ++ p.ym))
theorem tk (ps : List zN) : ∀ (n : Nat) (a b w : List Str), Asc b → a.Perm b → Asc (yx yU ps n b w) ∧ (yx (fun l s => l ++ [s]) ps n a w).Perm (yx yU ps n b w)
  | 0, a, b, w, hb, h => ⟨hb, h⟩
  | n + 1, a, b, [], hb, h => ⟨hb, h⟩
  | n + 1, a, b, k :: w, hb, h => by
    rw [yx, yx]
    cases vM ps k with
    | none => exact tk ps n a b w hb h
    | some p =>
      rw [YC h k]
      cases hc : xe b k with
      | true => exact tk ps n a b w hb h
      | false => exact tk ps n (a ++ [k]) (yU b k) (w ++ p.ym) (dO b k hb) ((h.append_right [k]).trans (pW b k hc).symm)
theorem nZ (ps : List zN) (n : Nat) (w : List Str) : wz (yx (fun l s => l ++ [s]) ps n [] w) = yx yU ps n [] w := by
  obtain ⟨h1, h2⟩ := tk ps n [] [] w (by simp [Asc]) (List.Perm.refl _)
  exact XV h1 h2
def muP (out : List Str) (p : zN) : Nat := cond (xe out (keyOf p)) 0 p.ym.length
def muS (ps : List zN) (out : List Str) : Nat := (ps.map (muP out)).sum
theorem pQ (l : List Str) (k s : Str) : xe (l ++ [k]) s = (xe l s || (k == s)) := by simp [xe]
theorem Uy (k : Str) (out out' : List Str) (h : ∀ s, xe out' s = (xe out s || (k == s))) : ∀ ps : List zN, muS ps out' ≤ muS ps out
  | [] => by simp [muS]
  | p :: ps => by
    have ih := Uy k out out' h ps
    unfold muS at ih ⊢
    simp only [List.map_cons, List.sum_cons]
    have : muP out' p ≤ muP out p := by
      unfold muP
      rw [h]
      cases xe out (keyOf p) <;> cases (k == keyOf p) <;> simp
    omega
theorem la (k : Str) (out out' : List Str) (h : ∀ s, xe out' s = (xe out s || (k == s))) (hk : xe out k = false) : ∀ (ps : List zN) (p : zN), p ∈ ps → keyOf p = k → muS ps out' + p.ym.length ≤ muS ps out
  | [], p, hp, _ => by simp at hp
  | q :: ps, p, hp, e => by
    unfold muS
    simp only [List.map_cons, List.sum_cons]
    rcases List.mem_cons.1 hp with rfl | hp
    · have h1 := Uy k out out' h ps
      unfold muS at h1
      have : muP out' p = 0 := by unfold muP; rw [h, e, beq_self_eq_true, Bool.or_true]; rfl
      have h2 : muP out p = p.ym.length := by unfold muP; rw [e, hk]; rfl
      omega
    · have h1 := la k out out' h hk ps p hp e
      unfold muS at h1
      have : muP out' q ≤ muP out q := by
        unfold muP
        rw [h]
        cases xe out (keyOf q) <;> cases (k == keyOf q) <;> simp
      omega
theorem lb : ∀ ps : List zN, muS ps [] ≤ zN.ya ps
  | [] => by simp [muS]
  | p :: ps => by
    have ih := lb ps
    unfold muS at ih ⊢
    simp only [List.map_cons, List.sum_cons, zN.ya]
    have : muP [] p ≤ p.yg := by
      unfold muP
      simp only [xe, List.any_nil, cond_false, zN.yg]; omega
    omega
theorem Zq {α : Type} (p : α → Bool) : ∀ (l : List α) (n i : Nat), vv p l n = some i → n ≤ i ∧ ∃ q, l[i - n]? = some q ∧ p q = true
  | [], n, i, h => by cases h
  | x :: r, n, i, h => by
    rw [vv] at h
    split at h
    · rename_i hx
      cases h
      exact ⟨Nat.le_refl _, x, by simp, hx⟩
    · obtain ⟨h1, q, h2, h3⟩ := Zq p r (n + 1) i h
      refine ⟨by omega, q, ?_, h3⟩
      rw [show i - n = (i - (n + 1)) + 1 by omega]
      simpa using h2
theorem jg {α : Type} {p : α → Bool} {l : List α} {i : Nat} (h : vv p l 0 = some i) : ∃ q, l[i]? = some q ∧ p q = true := by
  obtain ⟨_, q, h2, h3⟩ := Zq p l 0 i h
  exact ⟨q, by simpa using h2, h3⟩
theorem sw {ps : List zN} {k : Str} {p : zN} (h : vM ps k = some p) : p ∈ ps ∧ keyOf p = k ∧ ∃ i, pr ps k = some i ∧ ps[i]? = some p := by
  unfold vM at h
  split at h
  · rename_i i hi
    exact ⟨List.mem_of_getElem? h, by
      have := jg hi
      obtain ⟨q, h1, h2⟩ := this
      rw [h] at h1
      cases h1
      simpa using h2, i, hi, h⟩
  · cases h
theorem eW {ps : List zN} {k : Str} (h : vM ps k = none) : pr ps k = none := by
  unfold vM at h
  split at h
  · rename_i i hi
    obtain ⟨q, h1, h2⟩ := jg hi
    rw [h] at h1; cases h1
  · assumption
end Go.Proofs.YtmcephnfcciloaaGreatDoor
/- Who is to blame, plain: both ways come to the same. Conditions: none. -/
namespace Go.Proofs.YtmcephnfcciloaaGreatDoor
open E
set_option linter.unusedVariables false
set_option linter.unusedSimpArgs false
set_option maxRecDepth 100000
def xB : List Str → Str → Nat
  | [], _ => 0
  | x :: r, s => cond (Op.bytesLess x s) (xB r s + 1) 0
/-- does it stand at its place? -/
def atS (l : List Str) (s : Str) : Bool := l[xB l s]? == some s
theorem nv : ∀ (l : List Str) (s : Str), xB l s ≤ l.length
  | [], s => by simp [xB]
  | x :: r, s => by
    have := nv r s
    rw [xB]
    cases Op.bytesLess x s with
    | true => simp only [cond_true, List.length_cons]; omega
    | false => simp
theorem lD : ∀ (l : List Str) (s : Str), atS l s = true → yU l s = l
  | [], s, h => by simp [atS, xB] at h
  | x :: r, s, h => by
    unfold atS at h
    rw [xB] at h
    rw [yU]
    cases h1 : Op.bytesLess x s with
    | true =>
      rw [h1, cond_true, List.getElem?_cons_succ] at h
      simp only [cond_true]
      rw [lD r s h]
    | false =>
      rw [h1, cond_false] at h
      have : x = s := by simpa using h
      subst this
      simp
theorem nF : ∀ (l : List Str) (s : Str), atS l s = false → yU l s = l.take (xB l s) ++ s :: l.drop (xB l s)
  | [], s, h => by simp [yU, xB]
  | x :: r, s, h => by
    unfold atS at h
    rw [xB] at h ⊢
    rw [yU]
    cases h1 : Op.bytesLess x s with
    | true =>
      rw [h1, cond_true, List.getElem?_cons_succ] at h
      simp only [cond_true, List.take_succ_cons, List.drop_succ_cons, List.cons_append]
      rw [nF r s h]
    | false =>
      rw [h1, cond_false] at h
      have : (x == s) = false := by simpa using h
      simp [this]
theorem S8 {l : List Str} {s : Str} (h : xe l s = false) : atS l s = false := by
  cases ha : atS l s with
  | false => rfl
  | true =>
    unfold atS at ha
    have : l[xB l s]? = some s := by simpa using ha
    have hm := List.mem_of_getElem? this
    unfold xe at h
    rw [List.any_eq_false] at h
    exact absurd (by simp) (h s hm)
theorem kU (a v : Str) (hv : (64 : UInt8) ∉ v) : ∀ n, n ≤ v.length → po 64 (a ++ 64 :: v) (a.length + 1 + n) = some a.length
  | 0, _ => by simp [po]
  | n + 1, hn => by
    have e : (a ++ 64 :: v)[a.length + 1 + n]? = v[n]? := by
      rw [List.getElem?_append_right (by omega), show a.length + 1 + n - a.length = n + 1 by omega, List.getElem?_cons_succ]
    have ne : ¬ (v[n]? = some 64) := fun h => hv (List.mem_of_getElem? h)
    rw [show a.length + 1 + (n + 1) = (a.length + 1 + n) + 1 by omega, po, e, if_neg ne]
    exact kU a v hv n (by omega)
theorem jG (a v : Str) (hv : (64 : UInt8) ∉ v) : vk ((a ++ [64]) ++ v) = (a, v) := by
  have h := kU a v hv v.length (Nat.le_refl _)
  unfold vk
  rw [show (a ++ [64]) ++ v = a ++ 64 :: v by simp, show (a ++ 64 :: v).length = a.length + 1 + v.length by simp; omega, h]
  simp
theorem XP {v : Str} (h : (x6 v).isSome = true) : (64 : UInt8) ∉ v := by
  intro hm
  have h1 := o9 (c := 64) (by decide) hm
  rw [eY h1] at h
  cases h
theorem oq {p : zN} (h : u0 p = true) : vk (keyOf p) = (p.name, p.version) := by
  unfold u0 at h
  simp only [Bool.and_eq_true] at h
  exact jG p.name p.version (XP h.2.1)
theorem oy (ps : List zN) : ∀ (o : Option Str) (l : List zN), wu ps o l = true → ∀ p ∈ l, u0 p = true ∧ xn ps none p.ym = true
  | _, [], _, p, hp => by simp at hp
  | o, q :: r, h, p, hp => by
    rw [wu] at h
    simp only [Bool.and_eq_true] at h
    rcases List.mem_cons.1 hp with rfl | hp
    · exact ⟨h.1.1, h.1.2.2⟩
    · exact oy ps _ r h.2 p hp
theorem mv (ps : List zN) : ∀ (o : Option Str) (l : List Str), xn ps o l = true → (l.Pairwise fun x y => Op.bytesLess x y = true) ∧ (∀ k ∈ l, Tg ps k = true) ∧ ∀ k ∈ l, vO o k = true
  | o, [], _ => by simp
  | o, k :: r, h => by
    rw [xn] at h
    simp only [Bool.and_eq_true] at h
    obtain ⟨h1, h2, h3⟩ := mv ps (some k) r h.2
    refine ⟨List.pairwise_cons.2 ⟨fun y hy => h3 y hy, h1⟩, fun y hy => ?_, fun y hy => ?_⟩
    · rcases List.mem_cons.1 hy with rfl | hy
      · exact h.1.1
      · exact h2 y hy
    · rcases List.mem_cons.1 hy with rfl | hy
      · exact h.1.2
      · cases o with
        | none => rfl
        | some q => exact uD h.1.2 (h3 y hy)
def rI (ns : List zt) (r : Str) : Bool := ns.any fun n => afT n (vk r).1 (vk r).2
/-- a round of the reference -/
def blS (ns : List zt) (k : Str) : List Str → List Str → List Str
  | [], acc => acc
  | r :: rs, acc => blS ns k rs (cond (rI ns r) (yU acc k) acc)
theorem mP : ∀ (l : List Str) (s : Str), yU (yU l s) s = yU l s
  | [], s => by simp [yU, tI]
  | x :: r, s => by
    rw [yU]
    cases h1 : Op.bytesLess x s with
    | true => simp only [cond_true]; rw [yU, h1, cond_true, mP r s]
    | false =>
      simp only [cond_false]
      cases h2 : (x == s) with
      | true => simp only [cond_true]; rw [yU, h1, cond_false, h2, cond_true]
      | false => simp only [cond_false]; rw [yU, tI, cond_false, beq_self_eq_true, cond_true]
theorem hX (ns : List zt) (k : Str) : ∀ (rs acc : List Str), blS ns k rs acc = cond (rs.any (rI ns)) (yU acc k) acc
  | [], acc => rfl
  | r :: rs, acc => by
    rw [blS, List.any_cons]
    cases h : rI ns r with
    | true =>
      rw [cond_true, hX ns k rs, Bool.true_or, cond_true, mP]
      cases rs.any (rI ns) <;> rfl
    | false => rw [cond_false, hX ns k rs, Bool.false_or]
theorem dN : ∀ (l : List Str) (s : Str), (∀ x ∈ l, Op.bytesLess x s = true) → yU l s = l ++ [s]
  | [], s, _ => rfl
  | x :: r, s, h => by
    rw [yU, h x (by simp), cond_true, dN r s (fun y hy => h y (by simp [hy]))]
    rfl
/-- what is reached in a graph -/
def yN (ps : List zN) (w : List Str) : List Str := yx yU ps (w.length + muS ps []) [] w
def Tf (ps : List zN) (ns : List zt) (k : Str) : Bool := (yN ps [k]).any (rI ns)
/-- all rounds of the reference -/
def blR (ps : List zN) (ns : List zt) : List Str → List Str → List Str
  | [], acc => acc
  | k :: ks, acc => blR ps ns ks (blS ns k (yN ps [k]) acc)
theorem ae (ps : List zN) (ns : List zt) : ∀ (ks acc : List Str), (ks.Pairwise fun x y => Op.bytesLess x y = true) → (∀ x ∈ acc, ∀ y ∈ ks, Op.bytesLess x y = true) → blR ps ns ks acc = acc ++ ks.filter (Tf ps ns)
  | [], acc, _, _ => by simp [blR]
  | k :: ks, acc, h, ha => by
    obtain ⟨h1, h2⟩ := List.pairwise_cons.1 h
    rw [blR, hX, List.filter_cons, show (yN ps [k]).any (rI ns) = Tf ps ns k from rfl]
    cases hk : Tf ps ns k with
    | true =>
      rw [cond_true, dN acc k (fun x hx => ha x hx k (by simp)), ae ps ns ks _ h2 (fun x hx y hy => ?_)]
      · simp
      · rcases List.mem_append.1 hx with hx | hx
        · exact ha x hx y (by simp [hy])
        · have : x = k := by simpa using hx
          subst this
          exact h1 y hy
    | false =>
      rw [cond_false, ae ps ns ks _ h2 (fun x hx y hy => ha x hx y (by simp [hy]))]
      simp
/-- who is to blame -/
def UZ (g : zU) (ns : List zt) : List Str := g.top.filter (Tf g.packs ns)
theorem gm {g : zU} (h : yH g = true) : (g.top.Pairwise fun x y => Op.bytesLess x y = true) ∧ ∀ k ∈ g.top, Tg g.packs k = true := by
  unfold yH at h
  simp only [Bool.and_eq_true] at h
  obtain ⟨h1, h2, _⟩ := mv g.packs none g.top h.2.2
  exact ⟨h1, h2⟩
theorem rF {g : zU} (h : yH g = true) : ∀ p ∈ g.packs, u0 p = true ∧ xn g.packs none p.ym = true := by
  unfold yH at h
  simp only [Bool.and_eq_true] at h
  exact oy g.packs none g.packs h.1
theorem YP {g : zU} (ns : List zt) (h : yH g = true) : blR g.packs ns g.top [] = UZ g ns := by
  rw [ae g.packs ns g.top [] (gm h).1 (fun x hx => by simp at hx)]
  rfl
theorem qF (add : List Str → Str → List Str) (hadd : ∀ l s y, y ∈ add l s → y ∈ l ∨ y = s) (ps : List zN) : ∀ (n : Nat) (out w : List Str), (∀ k ∈ out, ∃ p, vM ps k = some p) → ∀ k ∈ yx add ps n out w, ∃ p, vM ps k = some p
  | 0, out, w, h, k, hk => h k hk
  | n + 1, out, [], h, k, hk => h k hk
  | n + 1, out, a :: w, h, k, hk => by
    rw [yx] at hk
    cases hf : vM ps a with
    | none => rw [hf] at hk; exact qF add hadd ps n out w h k hk
    | some p =>
      rw [hf] at hk
      simp only at hk
      cases hc : xe out a with
      | true => rw [hc, cond_true] at hk; exact qF add hadd ps n out w h k hk
      | false =>
        rw [hc, cond_false] at hk
        exact qF add hadd ps n (add out a) _ (fun y hy => by
          rcases hadd out a y hy with hy | rfl
          · exact h y hy
          · exact ⟨p, hf⟩) k hk
theorem ky (ps : List zN) (w : List Str) : ∀ k ∈ yN ps w, ∃ p, vM ps k = some p :=
  qF yU lE ps _ [] w (by simp)
/-- how many are not there yet -/
def uo (ps : List zN) (out : List Str) : Nat := ps.countP fun p => !(xe out (keyOf p))
theorem eo (k : Str) (out out' : List Str) (h : ∀ s, xe out' s = (xe out s || (k == s))) : ∀ ps : List zN, uo ps out' ≤ uo ps out
  | [] => by simp [uo]
  | p :: ps => by
    have ih := eo k out out' h ps
    unfold uo at ih ⊢
    simp only [List.countP_cons]
    rw [h (keyOf p)]
    cases xe out (keyOf p) <;> cases (k == keyOf p) <;> simp <;> omega
theorem tq (k : Str) (out out' : List Str) (h : ∀ s, xe out' s = (xe out s || (k == s))) (hk : xe out k = false) : ∀ (ps : List zN) (p : zN), p ∈ ps → keyOf p = k → uo ps out' + 1 ≤ uo ps out
  | [], p, hp, _ => by simp at hp
  | q :: ps, p, hp, e => by
    rcases List.mem_cons.1 hp with rfl | hp
    · have h1 := eo k out out' h ps
      unfold uo at h1 ⊢
      simp only [List.countP_cons]
      rw [h (keyOf p), e, hk, beq_self_eq_true]
      simp
      omega
    · have h1 := tq k out out' h hk ps p hp e
      unfold uo at h1 ⊢
      simp only [List.countP_cons]
      rw [h (keyOf q)]
      cases xe out (keyOf q) <;> cases (k == keyOf q) <;> simp <;> omega
theorem lv : ∀ (l : List Str) (k s : Str), xe (yU l k) s = (xe l s || (k == s))
  | [], k, s => by simp [yU, xe]
  | x :: r, k, s => by
    have ih := lv r k s
    unfold xe at ih ⊢
    rw [yU]
    cases h1 : Op.bytesLess x k with
    | true => simp only [cond_true, List.any_cons, ih, Bool.or_assoc]
    | false =>
      simp only [cond_false]
      cases h2 : (x == k) with
      | true =>
        have : x = k := by simpa using h2
        subst this
        simp only [cond_true, List.any_cons]
        cases (x == s) <;> simp
      | false =>
        simp only [cond_false, List.any_cons]
        cases (k == s) <;> cases (x == s) <;> simp
end Go.Proofs.YtmcephnfcciloaaGreatDoor
/- What one reaches, by both: the functions. Conditions: those of each lemma. -/
namespace Go.Proofs.YtmcephnfcciloaaGreatDoor
open E
set_option linter.unusedSimpArgs false
set_option linter.unusedVariables false
set_option maxRecDepth 100000
theorem uf {l : List Str} {i : Nat} {s : Str} (h : l[i]? = some s) : (zV l)[i]? = some [.str s] := by simp [zV, h]
theorem R1 (l : List Str) (hl : l.length ≤ 1048576) (s : Str) : ∀ (rest pre : List Str), l = pre ++ rest →
    EV Tryz.prog pol (.loop 70 26 0 [.t (.list 1 (zV l)), .t (.str s), .t (.int .i64 (pre.length : Int))] []) = some (cond (xe rest s) (.loop .ret [.t (.bool true)] []) (.loop (.exit 0) [.bad] []))
  | [], pre, h => by
    have c : decide ((pre.length : Int) < (l.length : Int)) = false := by simp [h]
    rw [show xe [] s = false from rfl, cond_false]
    refine zu Tryz.func70 rfl rfl ?_
    simp (disch := ((try simp only [LL]); omega)) only [↓GO, ↓DRW, GA, ren, zA, zd, refs, zb, cst, zl, zG, z7, E.load, E.store, zF, isC, bin, zH, zI, una, z8, za, zh, zJ, blt, fnV, asArg, ze, zn, zo, zj, zi, zg, zk, zr, z6, zD, zE, E.mkS, zc, unN, zK, zm, zz, zB, zf, zL, zq, GS, simprocAttr, GZ, c, zO, zZ]
  | x :: rest, pre, h => by
    have c : decide ((pre.length : Int) < (l.length : Int)) = true := by simp [h]; omega
    have hget : (zV l)[pre.length]? = some [.str x] := uf (by rw [h]; simp)
    have hlen : pre.length + rest.length + 1 ≤ l.length := by rw [h]; simp; omega
    have IH := R1 l hl s rest (pre ++ [x]) (by rw [h]; simp)
    rw [show ((pre ++ [x]).length : Int) = (pre.length : Int) + 1 by simp] at IH
    rw [show xe (x :: rest) s = ((x == s) || xe rest s) from rfl]
    clear h
    cases q : (x == s) with
    | true =>
      simp only [Bool.true_or, cond_true]
      refine zu Tryz.func70 rfl rfl ?_
      simp (disch := ((try simp only [LL]); omega)) only [↓GO, ↓DRW, GA, ren, zA, zd, refs, zb, cst, zl, zG, z7, E.load, E.store, zF, isC, bin, zH, zI, una, z8, za, zh, zJ, blt, fnV, asArg, ze, zn, zo, zj, zi, zg, zk, zr, z6, zD, zE, E.mkS, zc, unN, zK, zm, zz, zB, zf, zL, zq, GS, simprocAttr, GZ, c, hget, zO, q, zx, zZ]
    | false =>
      simp only [Bool.false_or]
      refine zu Tryz.func70 rfl rfl ?_
      simp (disch := ((try simp only [LL]); omega)) only [↓GO, ↓DRW, GA, ren, zA, zd, refs, zb, cst, zl, zG, z7, E.load, E.store, zF, isC, bin, zH, zI, una, z8, za, zh, zJ, blt, fnV, asArg, ze, zn, zo, zj, zi, zg, zk, zr, z6, zD, zE, E.mkS, zc, unN, zK, zm, zz, zB, zf, zL, zq, GS, simprocAttr, GZ, c, hget, zO, q, zx, zZ, IH]
theorem c_has (l : List Str) (hl : l.length ≤ 1048576) (s : Str) : zC (EV Tryz.prog pol) 70 [.t (.list 1 (zV l)), .t (.str s)] = some (.t (.bool (xe l s))) := by
  have L := R1 l hl s l [] rfl
  simp only [List.length_nil, Int.natCast_zero] at L
  cases q : xe l s <;> rw [q] at L <;> simp only [cond_true, cond_false] at L
  all_goals
    apply zw
    refine zy rfl Tryz.func70 rfl (by kernel_rfl) ?_
    unfold Tryz.f70
    simp (disch := ((try simp only [LL]); omega)) only [↓GO, ↓DRW, GA, ren, zA, zd, refs, zb, cst, zl, zG, z7, E.load, E.store, zF, isC, bin, zH, zI, una, z8, za, zh, zJ, blt, fnV, asArg, ze, zn, zo, zj, zi, zg, zk, zr, z6, zD, zE, E.mkS, zc, unN, zK, zm, zz, zB, zf, zL, zq, GS, simprocAttr, GZ, L, zO, zZ]
theorem T9 (l : List Str) (hl : l.length ≤ 1073741824) (s : Str) (n : Nat) (hn : n = l.length) (cap : Option Nat) : ∀ (rest pre : List Str), l = pre ++ rest →
    EV Tryz.prog pol (.loop 51 28 1 [.sl 0 0 n cap, .t (.str s), .t (.int .i64 (pre.length : Int))] [.ts 1 (zV l)]) = some (.loop (.exit 0) [.sl 0 0 n cap, .t (.str s), .t (.int .i64 ((pre.length + xB rest s : Nat) : Int))] [.ts 1 (zV l)])
  | [], pre, h => by
    have c : decide ((pre.length : Int) < (n : Int)) = false := by simp [hn, h]
    rw [show xB [] s = 0 from rfl, Nat.add_zero]
    refine zu Tryz.func51 rfl rfl ?_
    simp (disch := ((try simp only [LL]); omega)) only [↓GO, ↓DRW, GA, ren, zA, zd, refs, zb, cst, zl, zG, z7, E.load, E.store, zF, isC, bin, zH, zI, una, z8, za, zh, zJ, blt, fnV, asArg, ze, zn, zo, zj, zi, zg, zk, zr, z6, zD, zE, E.mkS, zc, unN, zK, zm, zz, zB, zf, zL, zq, GS, simprocAttr, GZ, c, zZ]
  | x :: rest, pre, h => by
    have c : decide ((pre.length : Int) < (n : Int)) = true := by simp [hn, h]; omega
    have c0 : decide ((0 : Int) ≤ (pre.length : Int)) = true := by simp
    have hget : (zV l)[pre.length]? = some [.str x] := uf (by rw [h]; simp)
    have hlen : pre.length + rest.length + 1 ≤ l.length := by rw [h]; simp; omega
    have IH := T9 l hl s n hn cap rest (pre ++ [x]) (by rw [h]; simp)
    rw [show ((pre ++ [x]).length : Int) = (pre.length : Int) + 1 by simp, show (pre ++ [x]).length + xB rest s = pre.length + (xB rest s + 1) by simp; omega] at IH
    rw [xB]
    clear h
    cases q : Op.bytesLess x s with
    | true =>
      simp only [cond_true]
      refine zu Tryz.func51 rfl rfl ?_
      simp (disch := ((try simp only [LL]); omega)) only [↓GO, ↓DRW, GA, ren, zA, zd, refs, zb, cst, zl, zG, z7, E.load, E.store, zF, isC, bin, zH, zI, una, z8, za, zh, zJ, blt, fnV, asArg, ze, zn, zo, zj, zi, zg, zk, zr, z6, zD, zE, E.mkS, zc, unN, zK, zm, zz, zB, zf, zL, zq, GS, simprocAttr, GZ, c, c0, hget, q, zx, zZ, IH]
    | false =>
      simp only [cond_false, Nat.add_zero]
      refine zu Tryz.func51 rfl rfl ?_
      simp (disch := ((try simp only [LL]); omega)) only [↓GO, ↓DRW, GA, ren, zA, zd, refs, zb, cst, zl, zG, z7, E.load, E.store, zF, isC, bin, zH, zI, una, z8, za, zh, zJ, blt, fnV, asArg, ze, zn, zo, zj, zi, zg, zk, zr, z6, zD, zE, E.mkS, zc, unN, zK, zm, zz, zB, zf, zL, zq, GS, simprocAttr, GZ, c, c0, hget, q, zx, zZ]
theorem RX (l : List Str) (hl : l.length ≤ 1073741824) (s : Str) (n : Nat) (hn : n = l.length) (cap : Option Nat) (h : atS l s = true) : EV Tryz.prog pol (.callO false 51 [.sl 0 0 n cap, .t (.str s)] [.ts 1 (zV l)]) = some (.call (.sl 0 0 n cap) [.ts 1 (zV l)]) := by
  have L := T9 l hl s n hn cap l [] rfl
  simp only [List.length_nil, Int.natCast_zero, Nat.zero_add] at L
  unfold atS at h
  have hat : l[xB l s]? = some s := by simpa using h
  have hget := uf hat
  have hlt : xB l s < l.length := (List.getElem?_eq_some_iff.1 hat).1
  have c : decide (((xB l s : Nat) : Int) < (n : Int)) = true := by rw [hn]; simpa using hlt
  have c0 : decide ((0 : Int) ≤ ((xB l s : Nat) : Int)) = true := by simp
  clear h hat
  generalize xB l s = p at *
  refine yM Tryz.func51 rfl (by kernel_rfl) ?_
  unfold Tryz.f51
  simp (disch := ((try simp only [LL]); omega)) only [↓GO, ↓DRW, GA, ren, zA, zd, refs, zb, cst, zl, zG, z7, E.load, E.store, zF, isC, bin, zH, zI, una, z8, za, zh, zJ, blt, fnV, asArg, ze, zn, zo, zj, zi, zg, zk, zr, z6, zD, zE, E.mkS, zc, unN, zK, zm, zz, zB, zf, zL, zq, GS, simprocAttr, GZ, L, c, c0, hget, beq_self_eq_true, zZ]
theorem UY (l : List Str) (hl : l.length ≤ 1073741824) (s : Str) (n : Nat) (hn : n = l.length) (cap : Option Nat) (h : atS l s = false) : EV Tryz.prog pol (.callO false 51 [.sl 0 0 n cap, .t (.str s)] [.ts 1 (zV l)]) = some (.call (.sl 1 0 (n + 1) none) [.ts 1 (zV l), .ts 1 (zV (yU l s))]) := by
  have L := T9 l hl s n hn cap l [] rfl
  simp only [List.length_nil, Int.natCast_zero, Nat.zero_add] at L
  rw [nF l s h]
  have hp := nv l s
  unfold atS at h
  have c0 : decide ((0 : Int) ≤ ((xB l s : Nat) : Int)) = true := by simp
  have hsl : (zV l).length = n := by rw [zO, hn]
  have e : zV (l.take (xB l s) ++ s :: l.drop (xB l s)) = ((zV l).take (xB l s) ++ [[.str s]]) ++ (zV l).drop (xB l s) := by simp [zV]
  rw [e]
  have hA1 : ((zV l).take (xB l s)).length = xB l s := by rw [List.length_take, hsl]; omega
  have hB0 : ((zV l).drop (xB l s)).take (n - xB l s) = (zV l).drop (xB l s) := List.take_of_length_le (by rw [List.length_drop, hsl]; omega)
  have hB1 : ((zV l).drop (xB l s)).length = n - xB l s := by rw [List.length_drop, hsl]
  have hE : xB l s + 1 + (n - xB l s) = n + 1 := by omega
  rw [← hn] at hp
  have hnl : n ≤ 1073741824 := by omega
  cases hx : l[xB l s]? with
  | none =>
    have hlt : l.length ≤ xB l s := List.getElem?_eq_none_iff.1 hx
    have c : decide (((xB l s : Nat) : Int) < (n : Int)) = false := by rw [hn]; simpa using hlt
    clear h hx e
    generalize xB l s = p at *
    generalize hA : (zV l).take p = A at *
    generalize hB : (zV l).drop p = B at *
    have hC : (A ++ [[T.str s]]).length = p + 1 := by simp [hA1]
    refine yM Tryz.func51 rfl (by kernel_rfl) ?_
    unfold Tryz.f51
    simp (disch := ((try simp only [LL]); omega)) only [↓GO, ↓DRW, GA, ren, zA, zd, refs, zb, cst, zl, zG, z7, E.load, E.store, zF, isC, bin, zH, zI, una, z8, za, zh, zJ, blt, fnV, asArg, ze, zn, zo, zj, zi, zg, zk, zr, z6, zD, zE, E.mkS, zc, unN, zK, zm, zz, zB, zf, zL, zq, GS, simprocAttr, GZ, L, c, c0, hsl, Nat.sub_zero, hA, hA1, hC, hB, hB0, hB1, hE, List.nil_append, Nat.zero_add, zZ, xK]
    refine yP (by kernel_rfl) ?_
    rfl
  | some x =>
    rw [hx] at h
    have q : (x == s) = false := by simpa using h
    have hget := uf hx
    have hlt : xB l s < l.length := (List.getElem?_eq_some_iff.1 hx).1
    have c : decide (((xB l s : Nat) : Int) < (n : Int)) = true := by rw [hn]; simpa using hlt
    clear h hx e
    generalize xB l s = p at *
    generalize hA : (zV l).take p = A at *
    generalize hB : (zV l).drop p = B at *
    have hC : (A ++ [[T.str s]]).length = p + 1 := by simp [hA1]
    refine yM Tryz.func51 rfl (by kernel_rfl) ?_
    unfold Tryz.f51
    simp (disch := ((try simp only [LL]); omega)) only [↓GO, ↓DRW, GA, ren, zA, zd, refs, zb, cst, zl, zG, z7, E.load, E.store, zF, isC, bin, zH, zI, una, z8, za, zh, zJ, blt, fnV, asArg, ze, zn, zo, zj, zi, zg, zk, zr, z6, zD, zE, E.mkS, zc, unN, zK, zm, zz, zB, zf, zL, zq, GS, simprocAttr, GZ, L, c, c0, hget, q, hsl, Nat.sub_zero, hA, hA1, hC, hB, hB0, hB1, hE, List.nil_append, Nat.zero_add, zZ, xK]
    refine yP (by kernel_rfl) ?_
    rfl
theorem Zb (k : Str) : ∀ (r : List Str) (i : Nat), decide (ixS k i r ≥ 0) = xe r k
  | [], i => rfl
  | x :: r, i => by
    rw [ixS, show xe (x :: r) k = ((x == k) || xe r k) from rfl]
    cases (x == k) with
    | true => simp
    | false => simp only [cond_false, Bool.false_or]; exact Zb k r (i + 1)
theorem c_con (l : List Str) (hl : l.length ≤ 1048576) (s : Str) : zC (EV Tryz.prog pol) 47 [.t (.list 1 (zV l)), .t (.str s)] = some (.t (.bool (xe l s))) := by
  have h1 := c_ix s l hl
  have h2 := Zb s l 0
  apply zw
  refine zy rfl Tryz.func47 rfl (by kernel_rfl) ?_
  unfold Tryz.f47
  simp (disch := ((try simp only [LL]); omega)) only [↓GO, ↓DRW, GA, ren, zA, zd, refs, zb, cst, zl, zG, z7, E.load, E.store, zF, isC, bin, zH, zI, una, z8, za, zh, zJ, blt, fnV, asArg, ze, zn, zo, zj, zi, zg, zk, zr, z6, zD, zE, E.mkS, zc, unN, zK, zm, zz, zB, zf, zL, zq, GS, simprocAttr, GZ, h1, h2, zZ]
end Go.Proofs.YtmcephnfcciloaaGreatDoor
/- What one reaches, by both. Conditions: those of each lemma. -/
namespace Go.Proofs.YtmcephnfcciloaaGreatDoor
open E
set_option linter.unusedSimpArgs false
set_option linter.unusedVariables false
set_option maxRecDepth 100000
def snS (l : List Str) (s : Str) : List Str := l ++ [s]
theorem rP (add : List Str → Str → List Str) (ps : List zN) (n : Nat) (out : List Str) : yx add ps n out [] = out := by cases n <;> rfl
theorem V1 {l : List Str} {s : Str} (h : xe l s = false) : (yU l s).length = l.length + 1 := by
  rw [(pW l s h).length_eq]; simp
theorem GB.ym {g : zU} (hB : GB g) {p : zN} (hp : p ∈ g.packs) : p.ym.length ≤ 1048576 := by
  obtain ⟨_, _, h3⟩ := hB.len
  have := h3 p hp
  simp only [zN.yg] at this; omega
theorem uC (ps : List zN) : ∀ (n : Nat) (out w : List Str), (yx snS ps n out w).length ≤ out.length + uo ps out
  | 0, out, w => by rw [yx]; omega
  | n + 1, out, [] => by rw [rP]; omega
  | n + 1, out, k :: w => by
    rw [yx]
    cases hf : vM ps k with
    | none => exact uC ps n out w
    | some p =>
      obtain ⟨hp, hkp, _⟩ := sw hf
      simp only
      cases hc : xe out k with
      | true => exact uC ps n out w
      | false =>
        have h1 := tq k out (out ++ [k]) (pQ out k) hc ps p hp hkp
        have h2 := uC ps n (snS out k) (w ++ p.ym)
        rw [cond_false]
        unfold snS at h2 ⊢
        simp only [List.length_append, List.length_cons, List.length_nil] at h2
        omega
theorem ZW (g : zU) (hB : GB g) : ∀ (n : Nat) (out w : List Str) (es : List (List T)) (m off len : Nat) (cap cap2 : Option Nat), w.length + muS g.packs out ≤ n → n ≤ 4194304 → m = out.length → m + uo g.packs out ≤ 1048576 → len = w.length → es.drop off = zV w → off + len = es.length → ∃ cap',
    EV Tryz.prog pol (.loop 44 60 0 [.ptr 0 0 0, .sl 1 0 m cap, .sl 2 off len cap2] [.vs 2 [g.enc.map .t], .ts 1 (zV out), .ts 1 es])
      = some (.loop (.exit 0) [.sl 0 0 (yx snS g.packs n out w).length cap'] [.ts 1 (zV (yx snS g.packs n out w))])
  | n, out, [], es, m, off, len, cap, cap2, hn, hN, hm, hk, hl, hd, ho => by
    have c : decide ((len : Int) > 0) = false := by rw [hl]; rfl
    refine ⟨cap, ?_⟩
    rw [rP]
    clear hB
    obtain ⟨top, packs⟩ := g
    simp only [zU.enc, List.map_cons, List.map_nil]
    rw [← hm]
    refine zu Tryz.func44 rfl rfl ?_
    simp (disch := ((try simp only [LL]); omega)) only [↓GO, ↓DRW, GA, ren, zA, zd, refs, zb, cst, zl, zG, z7, E.load, E.store, zF, isC, bin, zH, zI, una, z8, za, zh, zJ, blt, fnV, asArg, ze, zn, zo, zj, zi, zg, zk, zr, z6, zD, zE, E.mkS, zc, unN, zK, zm, zz, zB, zf, zL, zq, GS, simprocAttr, GZ, c, zZ]
  | 0, out, k :: w, es, m, off, len, cap, cap2, hn, hN, hm, hk, hl, hd, ho => by simp at hn
  | n + 1, out, k :: w, es, m, off, len, cap, cap2, hn, hN, hm, hk, hl, hd, ho => by
    have c : decide ((len : Int) > 0) = true := by rw [hl]; simp
    have hoff : es[off]? = some [.str k] := by
      have : (es.drop off)[0]? = some [.str k] := by rw [hd]; rfl
      simpa using this
    have hd1 : es.drop (off + 1) = zV w := by
      rw [← List.drop_drop, hd]; rfl
    have hl1 : len - 1 = w.length := by rw [hl]; rfl
    have hl2 : 1 ≤ len := by rw [hl]; simp
    have hl3 : (1 : Int) ≤ (len : Int) := by omega
    have hsl : (zV out).length = m := by rw [zO, hm]
    have htk : (zV out).take m = zV out := List.take_of_length_le (by omega)
    have hml : m ≤ 1048576 := by omega
    have hll : len ≤ 4194304 := by simp only [List.length_cons] at hl hn; omega
    have d1 := iJ g k hB
    have d2 := c_con out (by omega) k
    simp only [List.length_cons] at hn
    rw [yx]
    cases hf : vM g.packs k with
    | none =>
      rw [eW hf] at d1
      have c2 : decide ((-1 : Int) ≥ 0) = false := rfl
      simp only [ixI] at d1
      obtain ⟨cap', IH⟩ := ZW g hB n out w es m (off + 1) (len - 1) cap (cap2.map (· - 1)) (by omega) (by omega) hm hk hl1 hd1 (by omega)
      refine ⟨cap', ?_⟩
      simp only
      clear hB hf
      obtain ⟨top, packs⟩ := g
      simp only [zU.enc, List.map_cons, List.map_nil] at d1 IH ⊢
      generalize yx snS packs n out w = Z at *
      refine zu Tryz.func44 rfl rfl ?_
      simp (disch := ((try simp only [LL]); omega)) only [↓GO, ↓DRW, GA, ren, zA, zd, refs, zb, cst, zl, zG, z7, E.load, E.store, zF, isC, bin, zH, zI, una, z8, za, zh, zJ, blt, fnV, asArg, ze, zn, zo, zj, zi, zg, zk, zr, z6, zD, zE, E.mkS, zc, unN, zK, zm, zz, zB, zf, zL, zq, GS, simprocAttr, GZ, c, c2, hoff, d1, zZ, IH]
    | some p =>
      obtain ⟨hp, hkp, i, hi, hpi⟩ := sw hf
      rw [hi] at d1
      have c2 : decide ((i : Int) ≥ 0) = true := by simp
      have hnl := hB.ym hp
      have hget : (zN.zW g.packs)[i]? = some p.enc := by unfold zN.zW; rw [List.getElem?_map, hpi]; rfl
      simp only
      cases hc : xe out k with
      | true =>
        rw [hc] at d2
        obtain ⟨cap', IH⟩ := ZW g hB n out w es m (off + 1) (len - 1) cap (cap2.map (· - 1)) (by omega) (by omega) hm hk hl1 hd1 (by omega)
        refine ⟨cap', ?_⟩
        rw [cond_true]
        clear hB hf
        obtain ⟨top, packs⟩ := g
        simp only [zU.enc, List.map_cons, List.map_nil, ixI] at d1 IH ⊢
        generalize yx snS packs n out w = Z at *
        refine zu Tryz.func44 rfl rfl ?_
        simp (disch := ((try simp only [LL]); omega)) only [↓GO, ↓DRW, GA, ren, zA, zd, refs, zb, cst, zl, zG, z7, E.load, E.store, zF, isC, bin, zH, zI, una, z8, za, zh, zJ, blt, fnV, asArg, ze, zn, zo, zj, zi, zg, zk, zr, z6, zD, zE, E.mkS, zc, unN, zK, zm, zz, zB, zf, zL, zq, GS, simprocAttr, GZ, c, c2, hoff, d1, d2, htk, zZ, IH]
      | false =>
        rw [hc] at d2
        have h1 := la k out (out ++ [k]) (pQ out k) hc g.packs p hp hkp
        have h2 := tq k out (out ++ [k]) (pQ out k) hc g.packs p hp hkp
        obtain ⟨cap', IH⟩ := ZW g hB n (out ++ [k]) (w ++ p.ym) (zV w ++ zV p.ym) (m + 1) 0 (w.length + p.ym.length) none none (by rw [List.length_append]; omega) (by omega) (by simp [hm]) (by omega) (by simp) (by simp [zV]) (by rw [List.length_append, zO, zO]; omega)
        have ho1 : off + 1 + w.length = es.length := by omega
        refine ⟨cap', ?_⟩
        rw [cond_false, show snS out k = out ++ [k] from rfl]
        rw [show zV (out ++ [k]) = zV out ++ [[.str k]] by simp [zV]] at IH
        clear hB hf h1 h2 hp hi hpi
        obtain ⟨top, packs⟩ := g
        obtain ⟨name, version, source, sums, dev, ym⟩ := p
        simp only [zU.enc, zN.enc, List.map_cons, List.map_nil, ixI] at d1 hget IH hnl ⊢
        generalize yx snS packs n (out ++ [k]) (w ++ ym) = Z at *
        refine zu Tryz.func44 rfl rfl ?_
        simp (disch := ((try simp only [LL]); omega)) only [↓GO, ↓DRW, GA, ren, zA, zd, refs, zb, cst, zl, zG, z7, E.load, E.store, zF, isC, bin, zH, zI, una, z8, za, zh, zJ, blt, fnV, asArg, ze, zn, zo, zj, zi, zg, zk, zr, z6, zD, zE, E.mkS, zc, unN, zK, zm, zz, zB, zf, zL, zq, GS, simprocAttr, GZ, c, c2, hoff, d1, d2, htk, hget, hsl, hd1, hl1, ho1, zO, zZ, IH, xK]
theorem c_reI (g : zU) (hB : GB g) (w : List Str) (hw : w.length ≤ 1048576) (hg : yH g = true) : zC (EV Tryz.prog pol) 44 [.agg (g.enc.map .t), .t (.list 1 (zV w))] = some (.t (.list 1 (zV (yN g.packs w)))) := by
  have d1 := UW g hB
  rw [hg] at d1
  have d2 := dE (zV w) (by rw [zO]; omega)
  rw [zO] at d2
  have h1 := lb g.packs
  have h2 := hB
  unfold GB zU.yg at h2
  have h3 : uo g.packs [] ≤ g.packs.length := List.countP_le_length
  have h4 := hB.len
  obtain ⟨cap, L⟩ := ZW g hB (w.length + muS g.packs []) [] w (zV w) 0 0 w.length (some 0) none (Nat.le_refl _) (by omega) rfl (by omega) rfl rfl (by rw [zO]; omega)
  have e : wz (yx snS g.packs (w.length + muS g.packs []) [] w) = yN g.packs w := nZ g.packs _ w
  have hlen : (yx snS g.packs (w.length + muS g.packs []) [] w).length ≤ 1073741824 := by
    have := uC g.packs (w.length + muS g.packs []) [] w
    simp only [List.length_nil] at this
    omega
  have d3 := RJ _ hlen _ rfl cap
  rw [e] at d3
  have e2 : (yx snS g.packs (w.length + muS g.packs []) [] w).length = (yN g.packs w).length := by rw [← e, pB]
  rw [e2] at L d3
  have ht : (zV (yN g.packs w)).take (yN g.packs w).length = zV (yN g.packs w) := by rw [← zO (yN g.packs w)]; simp
  rw [show zV [] = [] from rfl] at L
  clear hB h1 h2 h3 h4 e e2 hlen
  obtain ⟨top, packs⟩ := g
  simp only [zU.enc, List.map_cons, List.map_nil] at d1 d3 ht L ⊢
  generalize yN packs w = Z at *
  generalize yx snS packs (w.length + muS packs []) [] w = Y at *
  apply zw
  refine zy rfl Tryz.func44 rfl (by kernel_rfl) ?_
  unfold Tryz.f44
  simp (disch := ((try simp only [LL]); omega)) only [↓GO, ↓DRW, GA, ren, zA, zd, refs, zb, cst, zl, zG, z7, E.load, E.store, zF, isC, bin, zH, zI, una, z8, za, zh, zJ, blt, fnV, asArg, ze, zn, zo, zj, zi, zg, zk, zr, z6, zD, zE, E.mkS, zc, unN, zK, zm, zz, zB, zf, zL, zq, GS, simprocAttr, GZ, d1, d2, d3, L, ht, zZ]
theorem WB (g : zU) (hB : GB g) (w : List Str) (hg : yH g = false) : zC (EV Tryz.prog pol) 44 [.agg (g.enc.map .t), .t (.list 1 (zV w))] = some (.t (.list 1 [])) := by
  have d1 := UW g hB
  rw [hg] at d1
  clear hB
  obtain ⟨top, packs⟩ := g
  simp only [zU.enc, List.map_cons, List.map_nil] at d1 ⊢
  apply zw
  refine zy rfl Tryz.func44 rfl (by kernel_rfl) ?_
  unfold Tryz.f44
  simp (disch := ((try simp only [LL]); omega)) only [↓GO, ↓DRW, GA, ren, zA, zd, refs, zb, cst, zl, zG, z7, E.load, E.store, zF, isC, bin, zH, zI, una, z8, za, zh, zJ, blt, fnV, asArg, ze, zn, zo, zj, zi, zg, zk, zr, z6, zD, zE, E.mkS, zc, unN, zK, zm, zz, zB, zf, zL, zq, GS, simprocAttr, GZ, d1, zZ]
theorem ZV (g : zU) (hB : GB g) (hg : yH g = true) : ∀ (n : Nat) (out w : List Str) (es : List (List T)) (m off len : Nat) (cap cap2 : Option Nat), w.length + muS g.packs out ≤ n → n ≤ 4194304 → m = out.length → m + uo g.packs out ≤ 1048576 → len = w.length → es.drop off = zV w → off + len = es.length → ∃ cap',
    EV Tryz.prog pol (.loop 42 60 0 [.ptr 0 0 0, .sl 1 0 m cap, .sl 2 off len cap2] [.vs 2 [g.enc.map .t], .ts 1 (zV out), .ts 1 es])
      = some (.loop (.exit 0) [.sl 0 0 (yx yU g.packs n out w).length cap'] [.ts 1 (zV (yx yU g.packs n out w))])
  | n, out, [], es, m, off, len, cap, cap2, hn, hN, hm, hk, hl, hd, ho => by
    have c : decide ((len : Int) > 0) = false := by rw [hl]; rfl
    refine ⟨cap, ?_⟩
    rw [rP]
    clear hB hg
    obtain ⟨top, packs⟩ := g
    simp only [zU.enc, List.map_cons, List.map_nil]
    rw [← hm]
    refine zu Tryz.func42 rfl rfl ?_
    simp (disch := ((try simp only [LL]); omega)) only [↓GO, ↓DRW, GA, ren, zA, zd, refs, zb, cst, zl, zG, z7, E.load, E.store, zF, isC, bin, zH, zI, una, z8, za, zh, zJ, blt, fnV, asArg, ze, zn, zo, zj, zi, zg, zk, zr, z6, zD, zE, E.mkS, zc, unN, zK, zm, zz, zB, zf, zL, zq, GS, simprocAttr, GZ, c, zZ]
  | 0, out, k :: w, es, m, off, len, cap, cap2, hn, hN, hm, hk, hl, hd, ho => by simp at hn
  | n + 1, out, k :: w, es, m, off, len, cap, cap2, hn, hN, hm, hk, hl, hd, ho => by
    have c : decide ((len : Int) > 0) = true := by rw [hl]; simp
    have hoff : es[off]? = some [.str k] := by
      have : (es.drop off)[0]? = some [.str k] := by rw [hd]; rfl
      simpa using this
    have hd1 : es.drop (off + 1) = zV w := by
      rw [← List.drop_drop, hd]; rfl
    have hl1 : len - 1 = w.length := by rw [hl]; rfl
    have hl2 : 1 ≤ len := by rw [hl]; simp
    have hl3 : (1 : Int) ≤ (len : Int) := by omega
    have hsl : (zV out).length = m := by rw [zO, hm]
    have htk : (zV out).take m = zV out := List.take_of_length_le (by omega)
    have hml : m ≤ 1048576 := by omega
    have hll : len ≤ 4194304 := by simp only [List.length_cons] at hl hn; omega
    have d0 := aa g hB
    rw [hg] at d0
    have d1 := ZI g k hB
    have d2 := c_has out (by omega) k
    simp only [List.length_cons] at hn
    rw [yx]
    cases hf : vM g.packs k with
    | none =>
      rw [eW hf] at d1
      have c2 : decide ((-1 : Int) < 0) = true := rfl
      simp only [ixI] at d1
      obtain ⟨cap', IH⟩ := ZV g hB hg n out w es m (off + 1) (len - 1) cap (cap2.map (· - 1)) (by omega) (by omega) hm hk hl1 hd1 (by omega)
      refine ⟨cap', ?_⟩
      simp only
      clear hB hf hg
      obtain ⟨top, packs⟩ := g
      simp only [zU.enc, List.map_cons, List.map_nil] at d0 d1 IH ⊢
      generalize yx yU packs n out w = Z at *
      refine zu Tryz.func42 rfl rfl ?_
      simp (disch := ((try simp only [LL]); omega)) only [↓GO, ↓DRW, GA, ren, zA, zd, refs, zb, cst, zl, zG, z7, E.load, E.store, zF, isC, bin, zH, zI, una, z8, za, zh, zJ, blt, fnV, asArg, ze, zn, zo, zj, zi, zg, zk, zr, z6, zD, zE, E.mkS, zc, unN, zK, zm, zz, zB, zf, zL, zq, GS, simprocAttr, GZ, c, c2, hoff, d0, d1, zZ, IH]
    | some p =>
      obtain ⟨hp, hkp, i, hi, hpi⟩ := sw hf
      rw [hi] at d1
      have c2 : decide ((i : Int) < 0) = false := by simp
      have hnl := hB.ym hp
      have hget : (zN.zW g.packs)[i]? = some p.enc := by unfold zN.zW; rw [List.getElem?_map, hpi]; rfl
      simp only
      cases hc : xe out k with
      | true =>
        rw [hc] at d2
        obtain ⟨cap', IH⟩ := ZV g hB hg n out w es m (off + 1) (len - 1) cap (cap2.map (· - 1)) (by omega) (by omega) hm hk hl1 hd1 (by omega)
        refine ⟨cap', ?_⟩
        rw [cond_true]
        clear hB hf hg
        obtain ⟨top, packs⟩ := g
        simp only [zU.enc, List.map_cons, List.map_nil, ixI] at d0 d1 IH ⊢
        generalize yx yU packs n out w = Z at *
        refine zu Tryz.func42 rfl rfl ?_
        simp (disch := ((try simp only [LL]); omega)) only [↓GO, ↓DRW, GA, ren, zA, zd, refs, zb, cst, zl, zG, z7, E.load, E.store, zF, isC, bin, zH, zI, una, z8, za, zh, zJ, blt, fnV, asArg, ze, zn, zo, zj, zi, zg, zk, zr, z6, zD, zE, E.mkS, zc, unN, zK, zm, zz, zB, zf, zL, zq, GS, simprocAttr, GZ, c, c2, hoff, d0, d1, d2, htk, zZ, IH]
      | false =>
        rw [hc] at d2
        have h1 := la k out (yU out k) (lv out k) hc g.packs p hp hkp
        have h2 := tq k out (yU out k) (lv out k) hc g.packs p hp hkp
        have d3 := UY out (by omega) k m hm cap (S8 hc)
        obtain ⟨cap', IH⟩ := ZV g hB hg n (yU out k) (w ++ p.ym) (zV w ++ zV p.ym) (m + 1) 0 (w.length + p.ym.length) none none (by rw [List.length_append]; omega) (by omega) (by rw [V1 hc, hm]) (by omega) (by simp) (by simp [zV]) (by rw [List.length_append, zO, zO]; omega)
        have ho1 : off + 1 + w.length = es.length := by omega
        refine ⟨cap', ?_⟩
        rw [cond_false]
        clear hB hf hg h1 h2 hp hi hpi
        obtain ⟨top, packs⟩ := g
        obtain ⟨name, version, source, sums, dev, ym⟩ := p
        simp only [zU.enc, zN.enc, List.map_cons, List.map_nil, ixI] at d0 d1 hget IH hnl ⊢
        generalize yx yU packs n (yU out k) (w ++ ym) = Z at *
        generalize yU out k = out' at *
        refine zu Tryz.func42 rfl rfl ?_
        simp (disch := ((try simp only [LL]); omega)) only [↓GO, ↓DRW, GA, ren, zA, zd, refs, zb, cst, zl, zG, z7, E.load, E.store, zF, isC, bin, zH, zI, una, z8, za, zh, zJ, blt, fnV, asArg, ze, zn, zo, zj, zi, zg, zk, zr, z6, zD, zE, E.mkS, zc, unN, zK, zm, zz, zB, zf, zL, zq, GS, simprocAttr, GZ, c, c2, hoff, d0, d1, d2, d3, hget, hsl, htk, hd1, hl1, ho1, zO, zZ, IH, xK]
theorem c_reR (g : zU) (hB : GB g) (w : List Str) (hw : w.length ≤ 1048576) (hg : yH g = true) : zC (EV Tryz.prog pol) 42 [.agg (g.enc.map .t), .t (.list 1 (zV w))] = some (.t (.list 1 (zV (yN g.packs w)))) := by
  have h1 := lb g.packs
  have h2 := hB
  unfold GB zU.yg at h2
  have h3 : uo g.packs [] ≤ g.packs.length := List.countP_le_length
  have h4 := hB.len
  obtain ⟨cap, L⟩ := ZV g hB hg (w.length + muS g.packs []) [] w (zV w) 0 0 w.length (some 0) none (Nat.le_refl _) (by omega) rfl (by omega) rfl rfl (by rw [zO]; omega)
  have e : yx yU g.packs (w.length + muS g.packs []) [] w = yN g.packs w := rfl
  rw [e] at L
  have ht : (zV (yN g.packs w)).take (yN g.packs w).length = zV (yN g.packs w) := by rw [← zO (yN g.packs w)]; simp
  rw [show zV [] = [] from rfl] at L
  clear hB h1 h2 h3 h4 e hg
  obtain ⟨top, packs⟩ := g
  simp only [zU.enc, List.map_cons, List.map_nil] at ht L ⊢
  generalize yN packs w = Z at *
  apply zw
  refine zy rfl Tryz.func42 rfl (by kernel_rfl) ?_
  unfold Tryz.f42
  simp (disch := ((try simp only [LL]); omega)) only [↓GO, ↓DRW, GA, ren, zA, zd, refs, zb, cst, zl, zG, z7, E.load, E.store, zF, isC, bin, zH, zI, una, z8, za, zh, zJ, blt, fnV, asArg, ze, zn, zo, zj, zi, zg, zk, zr, z6, zD, zE, E.mkS, zc, unN, zK, zm, zz, zB, zf, zL, zq, GS, simprocAttr, GZ, L, ht, zO, List.nil_append, Nat.zero_add, zZ, xK]
end Go.Proofs.YtmcephnfcciloaaGreatDoor
/- Versions compared by the implementation; what is in a range, by both; what a notice tells of. Conditions: those of each lemma. -/
namespace Go.Proofs.YtmcephnfcciloaaGreatDoor
open E
set_option linter.unusedSimpArgs false
set_option linter.unusedVariables false
set_option maxRecDepth 100000
theorem vK (a b : Int) : zC (EV Tryz.prog pol) 166 [.t (.int .i64 a), .t (.int .i64 b)] = some (.t (.int .i64 (xb a b))) := by
  unfold xb
  cases h1 : decide (a < b) <;> cases h2 : decide (a > b)
  all_goals
    apply zw
    refine zy rfl Tryz.func166 rfl (by kernel_rfl) ?_
    unfold Tryz.f166
    simp (disch := ((try simp only [LL]); omega)) only [↓GO, ↓DRW, GA, ren, zA, zd, refs, zb, cst, zl, zG, z7, E.load, E.store, zF, isC, bin, zH, zI, una, z8, za, zh, zJ, blt, fnV, asArg, ze, zn, zo, zj, zi, zg, zk, zr, z6, zD, zE, E.mkS, zc, unN, zK, zm, zz, zB, zf, zL, zq, GS, simprocAttr, GZ, h1, h2]
theorem aW : ∀ s : Str, s.length ≤ 4194304 → EV Tryz.prog pol (.loop 208 12 0 [.t (.str s), .t (.int .u8 48)] []) = some (.loop (.exit 0) [.t (.str (wj s))] [])
  | [], _ => by
    refine zu Tryz.func208 rfl rfl ?_
    simp (disch := ((try simp only [LL]); omega)) only [↓GO, ↓DRW, GA, ren, zA, zd, refs, zb, cst, zl, zG, z7, E.load, E.store, zF, isC, bin, zH, zI, una, z8, za, zh, zJ, blt, fnV, asArg, ze, zn, zo, zj, zi, zg, zk, zr, z6, zD, zE, E.mkS, zc, unN, zK, zm, zz, zB, zf, zL, zq, GS, simprocAttr, GZ, List.length_nil, Int.natCast_zero]
    rfl
  | b :: s, h => by
    have c : decide (((s.length + 1 : Nat) : Int) > 0) = true := by apply decide_eq_true; omega
    have hb : ((b.toNat : Int) == 48) = (b == 48) := by
      rw [Bool.eq_iff_iff]
      simp only [beq_iff_eq]
      constructor
      · intro h; apply UInt8.toNat_inj.1; have : (48 : UInt8).toNat = 48 := rfl; omega
      · intro h; subst h; rfl
    have hcut : (1 : Int) ≤ ((s.length + 1 : Nat) : Int) := by omega
    cases hz : (b == 48) with
    | false =>
      rw [hz] at hb
      have e : wj (b :: s) = b :: s := by unfold wj; simp [List.dropWhile, hz]
      rw [e]
      refine zu Tryz.func208 rfl rfl ?_
      simp (disch := ((try simp only [LL]); omega)) only [↓GO, ↓DRW, GA, ren, zA, zd, refs, zb, cst, zl, zG, z7, E.load, E.store, zF, isC, bin, zH, zI, una, z8, za, zh, zJ, blt, fnV, asArg, ze, zn, zo, zj, zi, zg, zk, zr, z6, zD, zE, E.mkS, zc, unN, zK, zm, zz, zB, zf, zL, zq, GS, simprocAttr, GZ, c, hb, hcut]
    | true =>
      rw [hz] at hb
      have IH := aW s (by simp only [List.length_cons] at h; omega)
      have e : wj (b :: s) = wj s := by unfold wj; simp [List.dropWhile, hz]
      rw [e]
      refine zu Tryz.func208 rfl rfl ?_
      simp (disch := ((try simp only [LL]); omega)) only [↓GO, ↓DRW, GA, ren, zA, zd, refs, zb, cst, zl, zG, z7, E.load, E.store, zF, isC, bin, zH, zI, una, z8, za, zh, zJ, blt, fnV, asArg, ze, zn, zo, zj, zi, zg, zk, zr, z6, zD, zE, E.mkS, zc, unN, zK, zm, zz, zB, zf, zL, zq, GS, simprocAttr, GZ, c, hb, hcut, IH]
theorem ZD (s : Str) (h : s.length ≤ 4194304) : zC (EV Tryz.prog pol) 190 [.t (.str s), .t (.str [48])] = some (.t (.str (wj s))) := by
  have L := aW s h
  have d : zC (EV Tryz.prog pol) 208 [.t (.str s), .t (.int .u8 48)] = some (.t (.str (wj s))) := by
    apply zw
    refine zy rfl Tryz.func208 rfl (by kernel_rfl) ?_
    unfold Tryz.f208
    simp (disch := ((try simp only [LL]); omega)) only [↓GO, ↓DRW, GA, ren, zA, zd, refs, zb, cst, zl, zG, z7, E.load, E.store, zF, isC, bin, zH, zI, una, z8, za, zh, zJ, blt, fnV, asArg, ze, zn, zo, zj, zi, zg, zk, zr, z6, zD, zE, E.mkS, zc, unN, zK, zm, zz, zB, zf, zL, zq, GS, simprocAttr, GZ, L]
  cases hs : (s == []) with
  | true =>
    have : s = [] := by simpa using hs
    subst this
    apply zw
    refine zy rfl Tryz.func190 rfl (by kernel_rfl) ?_
    unfold Tryz.f190
    simp (disch := ((try simp only [LL]); omega)) only [↓GO, ↓DRW, GA, ren, zA, zd, refs, zb, cst, zl, zG, z7, E.load, E.store, zF, isC, bin, zH, zI, una, z8, za, zh, zJ, blt, fnV, asArg, ze, zn, zo, zj, zi, zg, zk, zr, z6, zD, zE, E.mkS, zc, unN, zK, zm, zz, zB, zf, zL, zq, GS, simprocAttr, GZ, hs]
    rfl
  | false =>
    have h48 : (([48] : Str) == []) = false := rfl
    have h49 : ((UInt8.toNat 48 : Nat) : Int) = 48 := rfl
    have h50 : decide ((48 : Int) < 128) = true := rfl
    apply zw
    refine zy rfl Tryz.func190 rfl (by kernel_rfl) ?_
    unfold Tryz.f190
    simp (disch := ((try simp only [LL]); omega)) only [↓GO, ↓DRW, GA, ren, zA, zd, refs, zb, cst, zl, zG, z7, E.load, E.store, zF, isC, bin, zH, zI, una, z8, za, zh, zJ, blt, fnV, asArg, ze, zn, zo, zj, zi, zg, zk, zr, z6, zD, zE, E.mkS, zc, unN, zK, zm, zz, zB, zf, zL, zq, GS, simprocAttr, GZ, hs, h48, h49, h50, d, List.length_cons, List.length_nil]
theorem WK (a b : Str) (ha : a.length ≤ 4194304) (hb : b.length ≤ 4194304) : zC (EV Tryz.prog pol) 167 [.t (.str a), .t (.str b)] = some (.t (.int .i64 (ZB a b))) := by
  have d1 := iI a (by omega)
  have d2 := iI b (by omega)
  have d3 := ZD a ha
  have d4 := ZD b hb
  have d5 := vK ((wj a).length : Int) ((wj b).length : Int)
  have d6 := UT a b
  have d7 := UT (wj a) (wj b)
  rw [dx] at d6 d7
  unfold ZB
  generalize wj a = ta at *
  generalize wj b = tb at *
  generalize xb (ta.length : Int) (tb.length : Int) = n at *
  cases h1 : isNum a <;> cases h2 : isNum b <;> rw [h1] at d1 <;> rw [h2] at d2 <;> simp only [Bool.and_true, Bool.and_false, cond_true, cond_false]
  · apply zw
    refine zy rfl Tryz.func167 rfl (by kernel_rfl) ?_
    unfold Tryz.f167
    simp (disch := ((try simp only [LL]); omega)) only [↓GO, ↓DRW, GA, ren, zA, zd, refs, zb, cst, zl, zG, z7, E.load, E.store, zF, isC, bin, zH, zI, una, z8, za, zh, zJ, blt, fnV, asArg, ze, zn, zo, zj, zi, zg, zk, zr, z6, zD, zE, E.mkS, zc, unN, zK, zm, zz, zB, zf, zL, zq, GS, simprocAttr, GZ, d1, d2, d6]
  · apply zw
    refine zy rfl Tryz.func167 rfl (by kernel_rfl) ?_
    unfold Tryz.f167
    simp (disch := ((try simp only [LL]); omega)) only [↓GO, ↓DRW, GA, ren, zA, zd, refs, zb, cst, zl, zG, z7, E.load, E.store, zF, isC, bin, zH, zI, una, z8, za, zh, zJ, blt, fnV, asArg, ze, zn, zo, zj, zi, zg, zk, zr, z6, zD, zE, E.mkS, zc, unN, zK, zm, zz, zB, zf, zL, zq, GS, simprocAttr, GZ, d1, d2, d6]
  · apply zw
    refine zy rfl Tryz.func167 rfl (by kernel_rfl) ?_
    unfold Tryz.f167
    simp (disch := ((try simp only [LL]); omega)) only [↓GO, ↓DRW, GA, ren, zA, zd, refs, zb, cst, zl, zG, z7, E.load, E.store, zF, isC, bin, zH, zI, una, z8, za, zh, zJ, blt, fnV, asArg, ze, zn, zo, zj, zi, zg, zk, zr, z6, zD, zE, E.mkS, zc, unN, zK, zm, zz, zB, zf, zL, zq, GS, simprocAttr, GZ, d1, d2, d6]
  · cases hn : (n == 0)
    all_goals
      simp only [cond_true, cond_false]
      apply zw
      refine zy rfl Tryz.func167 rfl (by kernel_rfl) ?_
      unfold Tryz.f167
      simp (disch := ((try simp only [LL]); omega)) only [↓GO, ↓DRW, GA, ren, zA, zd, refs, zb, cst, zl, zG, z7, E.load, E.store, zF, isC, bin, zH, zI, una, z8, za, zh, zJ, blt, fnV, asArg, ze, zn, zo, zj, zi, zg, zk, zr, z6, zD, zE, E.mkS, zc, unN, zK, zm, zz, zB, zf, zL, zq, GS, simprocAttr, GZ, d1, d2, d3, d4, d5, d7, hn, bne]
theorem TT (x1 x2 x3 x4 y1 y2 y3 y4 : T) (a b c : Int) :
    EV Tryz.prog pol (.loop 137 26 0 [.ptr 0 0 0, .ptr 1 0 0, .sl 2 0 3 (some 3), .t (.int .i64 3), .t (.int .i64 0)] [.vs 4 [[.t x1, .t x2, .t x3, .t x4]], .vs 4 [[.t y1, .t y2, .t y3, .t y4]], .ts 1 [[.int .i64 a], [.int .i64 b], [.int .i64 c]]])
    = some (cond (a == 0) (cond (b == 0) (cond (c == 0) (.loop (.exit 0) [.ptr 0 0 0, .ptr 1 0 0, .bad] [.vs 4 [[.t x1, .t x2, .t x3, .t x4]], .vs 4 [[.t y1, .t y2, .t y3, .t y4]]])
      (.loop .ret [.ptr 0 0 0, .ptr 1 0 0, .t (.int .i64 c)] [.vs 4 [[.t x1, .t x2, .t x3, .t x4]], .vs 4 [[.t y1, .t y2, .t y3, .t y4]]]))
      (.loop .ret [.ptr 0 0 0, .ptr 1 0 0, .t (.int .i64 b)] [.vs 4 [[.t x1, .t x2, .t x3, .t x4]], .vs 4 [[.t y1, .t y2, .t y3, .t y4]]]))
      (.loop .ret [.ptr 0 0 0, .ptr 1 0 0, .t (.int .i64 a)] [.vs 4 [[.t x1, .t x2, .t x3, .t x4]], .vs 4 [[.t y1, .t y2, .t y3, .t y4]]])) := by
  cases h1 : (a == 0)
  · refine zu Tryz.func137 rfl rfl ?_
    simp (disch := ((try simp only [LL]); omega)) only [↓GO, ↓DRW, GA, ren, zA, zd, refs, zb, cst, zl, zG, z7, E.load, E.store, zF, isC, bin, zH, zI, una, z8, za, zh, zJ, blt, fnV, asArg, ze, zn, zo, zj, zi, zg, zk, zr, z6, zD, zE, E.mkS, zc, unN, zK, zm, zz, zB, zf, zL, zq, GS, simprocAttr, GZ, h1, bne, zx, zZ]
  · refine zu Tryz.func137 rfl rfl ?_
    simp (disch := ((try simp only [LL]); omega)) only [↓GO, ↓DRW, GA, ren, zA, zd, refs, zb, cst, zl, zG, z7, E.load, E.store, zF, isC, bin, zH, zI, una, z8, za, zh, zJ, blt, fnV, asArg, ze, zn, zo, zj, zi, zg, zk, zr, z6, zD, zE, E.mkS, zc, unN, zK, zm, zz, zB, zf, zL, zq, GS, simprocAttr, GZ, h1, bne, zx, zZ, Int.zero_add]
    cases h2 : (b == 0)
    · refine zu Tryz.func137 rfl rfl ?_
      simp (disch := ((try simp only [LL]); omega)) only [↓GO, ↓DRW, GA, ren, zA, zd, refs, zb, cst, zl, zG, z7, E.load, E.store, zF, isC, bin, zH, zI, una, z8, za, zh, zJ, blt, fnV, asArg, ze, zn, zo, zj, zi, zg, zk, zr, z6, zD, zE, E.mkS, zc, unN, zK, zm, zz, zB, zf, zL, zq, GS, simprocAttr, GZ, h2, bne, zx, zZ]
    · refine zu Tryz.func137 rfl rfl ?_
      simp (disch := ((try simp only [LL]); omega)) only [↓GO, ↓DRW, GA, ren, zA, zd, refs, zb, cst, zl, zG, z7, E.load, E.store, zF, isC, bin, zH, zI, una, z8, za, zh, zJ, blt, fnV, asArg, ze, zn, zo, zj, zi, zg, zk, zr, z6, zD, zE, E.mkS, zc, unN, zK, zm, zz, zB, zf, zL, zq, GS, simprocAttr, GZ, h2, bne, zx, zZ, Int.reduceAdd]
      cases h3 : (c == 0)
      · refine zu Tryz.func137 rfl rfl ?_
        simp (disch := ((try simp only [LL]); omega)) only [↓GO, ↓DRW, GA, ren, zA, zd, refs, zb, cst, zl, zG, z7, E.load, E.store, zF, isC, bin, zH, zI, una, z8, za, zh, zJ, blt, fnV, asArg, ze, zn, zo, zj, zi, zg, zk, zr, z6, zD, zE, E.mkS, zc, unN, zK, zm, zz, zB, zf, zL, zq, GS, simprocAttr, GZ, h3, bne, zx, zZ]
      · refine zu Tryz.func137 rfl rfl ?_
        simp (disch := ((try simp only [LL]); omega)) only [↓GO, ↓DRW, GA, ren, zA, zd, refs, zb, cst, zl, zG, z7, E.load, E.store, zF, isC, bin, zH, zI, una, z8, za, zh, zJ, blt, fnV, asArg, ze, zn, zo, zj, zi, zg, zk, zr, z6, zD, zE, E.mkS, zc, unN, zK, zm, zz, zB, zf, zL, zq, GS, simprocAttr, GZ, h3, bne, zx, zZ, Int.reduceAdd]
        refine zu Tryz.func137 rfl rfl ?_
        simp (disch := ((try simp only [LL]); omega)) only [↓GO, ↓DRW, GA, ren, zA, zd, refs, zb, cst, zl, zG, z7, E.load, E.store, zF, isC, bin, zH, zI, una, z8, za, zh, zJ, blt, fnV, asArg, ze, zn, zo, zj, zi, zg, zk, zr, z6, zD, zE, E.mkS, zc, unN, zK, zm, zz, zB, zf, zL, zq, GS, simprocAttr, GZ, zx, zZ]
theorem Z8 (a b : Ver) (ha : a.sm) (hb : b.sm) (M : Nat) (hM : M = min a.pre.length b.pre.length) : ∀ (ra rb pa pb : List Str), a.pre = pa ++ ra → b.pre = pb ++ rb → pa.length = pb.length →
    EV Tryz.prog pol (.loop 137 122 0 [.ptr 0 0 0, .ptr 1 0 0, .t (.int .i64 (M : Int)), .t (.int .i64 (pa.length : Int))] [.vs 4 [a.enc.map .t], .vs 4 [b.enc.map .t]])
    = some (match r9 ra rb with
      | some n => .loop .ret [.ptr 0 0 0, .ptr 1 0 0, .t (.int .i64 n)] [.vs 4 [a.enc.map .t], .vs 4 [b.enc.map .t]]
      | none => .loop (.exit 2) [.ptr 0 0 0, .ptr 1 0 0, .bad] [.vs 4 [a.enc.map .t], .vs 4 [b.enc.map .t]])
  | [], rb, pa, pb, h1, h2, h3 => by
    have l1 : a.pre.length = pa.length := by rw [h1]; simp
    have c : decide ((pa.length : Int) < (M : Int)) = false := by apply decide_eq_false; omega
    have e : r9 [] rb = none := by unfold r9; rfl
    rw [e]
    simp only [Ver.enc, List.map_cons, List.map_nil]
    refine zu Tryz.func137 rfl rfl ?_
    simp (disch := ((try simp only [LL]); omega)) only [↓GO, ↓DRW, GA, ren, zA, zd, refs, zb, cst, zl, zG, z7, E.load, E.store, zF, isC, bin, zH, zI, una, z8, za, zh, zJ, blt, fnV, asArg, ze, zn, zo, zj, zi, zg, zk, zr, z6, zD, zE, E.mkS, zc, unN, zK, zm, zz, zB, zf, zL, zq, GS, simprocAttr, GZ, zO, c, zZ]
  | x :: ra, [], pa, pb, h1, h2, h3 => by
    have l2 : b.pre.length = pb.length := by rw [h2]; simp
    have c : decide ((pa.length : Int) < (M : Int)) = false := by apply decide_eq_false; omega
    rw [show r9 (x :: ra) [] = none from rfl]
    simp only [Ver.enc, List.map_cons, List.map_nil]
    refine zu Tryz.func137 rfl rfl ?_
    simp (disch := ((try simp only [LL]); omega)) only [↓GO, ↓DRW, GA, ren, zA, zd, refs, zb, cst, zl, zG, z7, E.load, E.store, zF, isC, bin, zH, zI, una, z8, za, zh, zJ, blt, fnV, asArg, ze, zn, zo, zj, zi, zg, zk, zr, z6, zD, zE, E.mkS, zc, unN, zK, zm, zz, zB, zf, zL, zq, GS, simprocAttr, GZ, zO, c, zZ]
  | x :: ra, y :: rb, pa, pb, h1, h2, h3 => by
    unfold Ver.sm at ha hb
    have l1 : pa.length + ra.length + 1 = a.pre.length := by rw [h1]; simp; omega
    have l2 : pb.length + rb.length + 1 = b.pre.length := by rw [h2]; simp; omega
    have c : decide ((pa.length : Int) < (M : Int)) = true := by apply decide_eq_true; omega
    have hg1 : (zV a.pre)[pa.length]? = some [.str x] := by rw [h1]; exact w8 pa x ra
    have hg2 : (zV b.pre)[pa.length]? = some [.str y] := by rw [h2, h3]; exact w8 pb y rb
    have hx : x.length ≤ 2097152 := by have := wb (ks := a.pre) (s := x) (by rw [h1]; simp); omega
    have hy : y.length ≤ 2097152 := by have := wb (ks := b.pre) (s := y) (by rw [h2]; simp); omega
    have hp := WK x y (by omega) (by omega)
    have IH := Z8 a b ha hb M hM ra rb (pa ++ [x]) (pb ++ [y]) (by rw [h1]; simp) (by rw [h2]; simp) (by simp [h3])
    rw [show ((pa ++ [x]).length : Int) = (pa.length : Int) + 1 by simp] at IH
    clear h1 h2
    simp only [Ver.enc, List.map_cons, List.map_nil] at IH ⊢
    rw [r9]
    generalize ZB x y = n at *
    cases hn : (n == 0)
    · simp only [cond_false]
      refine zu Tryz.func137 rfl rfl ?_
      simp (disch := ((try simp only [LL]); omega)) only [↓GO, ↓DRW, GA, ren, zA, zd, refs, zb, cst, zl, zG, z7, E.load, E.store, zF, isC, bin, zH, zI, una, z8, za, zh, zJ, blt, fnV, asArg, ze, zn, zo, zj, zi, zg, zk, zr, z6, zD, zE, E.mkS, zc, unN, zK, zm, zz, zB, zf, zL, zq, GS, simprocAttr, GZ, zO, c, hg1, hg2, hp, hn, bne, zx, zZ]
    · simp only [cond_true]
      refine zu Tryz.func137 rfl rfl ?_
      simp (disch := ((try simp only [LL]); omega)) only [↓GO, ↓DRW, GA, ren, zA, zd, refs, zb, cst, zl, zG, z7, E.load, E.store, zF, isC, bin, zH, zI, una, z8, za, zh, zJ, blt, fnV, asArg, ze, zn, zo, zj, zi, zg, zk, zr, z6, zD, zE, E.mkS, zc, unN, zK, zm, zz, zB, zf, zL, zq, GS, simprocAttr, GZ, zO, c, hg1, hg2, hp, hn, bne, zx, zZ, IH]
theorem Sw (a b : Ver) (ha : a.sm) (hb : b.sm) : zC (EV Tryz.prog pol) 137 [.agg (a.enc.map .t), .agg (b.enc.map .t)] = some (.t (.int .i64 (pY a b))) := by
  have d1 := vK a.maj b.maj
  have d2 := vK a.min b.min
  have d3 := vK a.pat b.pat
  have d4 := vK (b.pre.length : Int) (a.pre.length : Int)
  have d5 := vK (a.pre.length : Int) (b.pre.length : Int)
  obtain ⟨M, hM⟩ : ∃ M, M = min a.pre.length b.pre.length := ⟨_, rfl⟩
  have L2 := Z8 a b ha hb M hM a.pre b.pre [] [] rfl rfl rfl
  have L1 := TT (.int .i64 a.maj) (.int .i64 a.min) (.int .i64 a.pat) (.list 1 (zV a.pre)) (.int .i64 b.maj) (.int .i64 b.min) (.int .i64 b.pat) (.list 1 (zV b.pre)) (xb a.maj b.maj) (xb a.min b.min) (xb a.pat b.pat)
  have e1 := uk a.pre
  have e2 := uk b.pre
  have hm : (if (b.pre.length : Int) < (a.pre.length : Int) then (b.pre.length : Int) else (a.pre.length : Int)) = (M : Int) := by split <;> omega
  clear hM
  unfold pY
  simp only [List.length_nil, Int.natCast_zero] at L2
  simp only [Ver.enc, List.map_cons, List.map_nil] at L1 L2 ⊢
  generalize xb a.maj b.maj = n1 at *
  generalize xb a.min b.min = n2 at *
  generalize xb a.pat b.pat = n3 at *
  cases h1 : (n1 == 0) <;> rw [h1] at L1
  · simp only [cond_false] at L1
    apply zw
    refine zy rfl Tryz.func137 rfl (by kernel_rfl) ?_
    unfold Tryz.f137
    simp (disch := ((try simp only [LL]); omega)) only [↓GO, ↓DRW, GA, ren, zA, zd, refs, zb, cst, zl, zG, z7, E.load, E.store, zF, isC, bin, zH, zI, una, z8, za, zh, zJ, blt, fnV, asArg, ze, zn, zo, zj, zi, zg, zk, zr, z6, zD, zE, E.mkS, zc, unN, zK, zm, zz, zB, zf, zL, zq, GS, simprocAttr, GZ, d1, d2, d3, L1, zZ]
    refine yP (by kernel_rfl) ?_
    simp (disch := ((try simp only [LL]); omega)) only [↓GO, ↓DRW, GA, ren, zA, zd, refs, zb, cst, zl, zG, z7, E.load, E.store, zF, isC, bin, zH, zI, una, z8, za, zh, zJ, blt, fnV, asArg, ze, zn, zo, zj, zi, zg, zk, zr, z6, zD, zE, E.mkS, zc, unN, zK, zm, zz, zB, zf, zL, zq, GS, simprocAttr, GZ, d1, d2, d3, L1, zZ]
  · cases h2 : (n2 == 0) <;> rw [h2] at L1
    · simp only [cond_false, cond_true] at L1
      apply zw
      refine zy rfl Tryz.func137 rfl (by kernel_rfl) ?_
      unfold Tryz.f137
      simp (disch := ((try simp only [LL]); omega)) only [↓GO, ↓DRW, GA, ren, zA, zd, refs, zb, cst, zl, zG, z7, E.load, E.store, zF, isC, bin, zH, zI, una, z8, za, zh, zJ, blt, fnV, asArg, ze, zn, zo, zj, zi, zg, zk, zr, z6, zD, zE, E.mkS, zc, unN, zK, zm, zz, zB, zf, zL, zq, GS, simprocAttr, GZ, d1, d2, d3, L1, zZ]
      refine yP (by kernel_rfl) ?_
      simp (disch := ((try simp only [LL]); omega)) only [↓GO, ↓DRW, GA, ren, zA, zd, refs, zb, cst, zl, zG, z7, E.load, E.store, zF, isC, bin, zH, zI, una, z8, za, zh, zJ, blt, fnV, asArg, ze, zn, zo, zj, zi, zg, zk, zr, z6, zD, zE, E.mkS, zc, unN, zK, zm, zz, zB, zf, zL, zq, GS, simprocAttr, GZ, d1, d2, d3, L1, zZ]
    · cases h3 : (n3 == 0) <;> rw [h3] at L1
      · simp only [cond_false, cond_true] at L1
        apply zw
        refine zy rfl Tryz.func137 rfl (by kernel_rfl) ?_
        unfold Tryz.f137
        simp (disch := ((try simp only [LL]); omega)) only [↓GO, ↓DRW, GA, ren, zA, zd, refs, zb, cst, zl, zG, z7, E.load, E.store, zF, isC, bin, zH, zI, una, z8, za, zh, zJ, blt, fnV, asArg, ze, zn, zo, zj, zi, zg, zk, zr, z6, zD, zE, E.mkS, zc, unN, zK, zm, zz, zB, zf, zL, zq, GS, simprocAttr, GZ, d1, d2, d3, L1, zZ]
        refine yP (by kernel_rfl) ?_
        simp (disch := ((try simp only [LL]); omega)) only [↓GO, ↓DRW, GA, ren, zA, zd, refs, zb, cst, zl, zG, z7, E.load, E.store, zF, isC, bin, zH, zI, una, z8, za, zh, zJ, blt, fnV, asArg, ze, zn, zo, zj, zi, zg, zk, zr, z6, zD, zE, E.mkS, zc, unN, zK, zm, zz, zB, zf, zL, zq, GS, simprocAttr, GZ, d1, d2, d3, L1, zZ]
      · simp only [cond_true] at L1
        cases hs : r9 a.pre b.pre <;> rw [hs] at L2 <;> simp only at L2 <;> cases h4 : (a.pre == []) <;> cases h5 : (b.pre == []) <;> rw [h4] at e1 <;> rw [h5] at e2
        all_goals
          apply zw
          refine zy rfl Tryz.func137 rfl (by kernel_rfl) ?_
          unfold Tryz.f137
          simp (disch := ((try simp only [LL]); omega)) only [↓GO, ↓DRW, GA, ren, zA, zd, refs, zb, cst, zl, zG, z7, E.load, E.store, zF, isC, bin, zH, zI, una, z8, za, zh, zJ, blt, fnV, asArg, ze, zn, zo, zj, zi, zg, zk, zr, z6, zD, zE, E.mkS, zc, unN, zK, zm, zz, zB, zf, zL, zq, GS, simprocAttr, GZ, d1, d2, d3, d4, d5, L1, L2, hm, zO, e1, e2, bne, Bool.beq_eq_decide_eq, zZ]
          refine yP (by kernel_rfl) ?_
          simp (disch := ((try simp only [LL]); omega)) only [↓GO, ↓DRW, GA, ren, zA, zd, refs, zb, cst, zl, zG, z7, E.load, E.store, zF, isC, bin, zH, zI, una, z8, za, zh, zJ, blt, fnV, asArg, ze, zn, zo, zj, zi, zg, zk, zr, z6, zD, zE, E.mkS, zc, unN, zK, zm, zz, zB, zf, zL, zq, GS, simprocAttr, GZ, d1, d2, d3, d4, d5, L1, L2, hm, zO, e1, e2, bne, zZ, Option.getD_some, Option.getD_none]
theorem Rb (a b : Str) (ha : a.length ≤ 1048700) (hb : b.length ≤ 1048700) : zC (EV Tryz.prog pol) 100 [.t (.str a), .t (.str b)] = some (.t (.int .i64 (pY (zM a).1 (zM b).1))) := by
  have d1 := nj a ha
  have d2 := nj b hb
  have d3 := Sw (zM a).1 (zM b).1 (x7 a ha).1 (x7 b hb).1
  unfold rvT at d1 d2
  generalize pY (zM a).1 (zM b).1 = n at *
  generalize (zM a).1 = va at *
  generalize (zM b).1 = vb at *
  simp only [Ver.enc, List.map_cons, List.map_nil] at d1 d2 d3
  apply zw
  refine zy rfl Tryz.func100 rfl (by kernel_rfl) ?_
  unfold Tryz.f100
  simp (disch := ((try simp only [LL]); omega)) only [↓GO, ↓DRW, GA, ren, zA, zd, refs, zb, cst, zl, zG, z7, E.load, E.store, zF, isC, bin, zH, zI, una, z8, za, zh, zJ, blt, fnV, asArg, ze, zn, zo, zj, zi, zg, zk, zr, z6, zD, zE, E.mkS, zc, unN, zK, zm, zz, zB, zf, zL, zq, GS, simprocAttr, GZ, d1, d2, d3, zZ]
end Go.Proofs.YtmcephnfcciloaaGreatDoor

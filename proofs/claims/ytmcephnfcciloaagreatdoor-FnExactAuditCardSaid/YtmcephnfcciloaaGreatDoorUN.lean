/- Joined: K24 B10 W9. Conditions: those of each lemma. -/
import Derived.Test.YtmcephnfcciloaaGreatDoorUM
import Derived.Test.YtmcephnfcciloaaGreatDoorUL
set_option linter.unusedVariables false
set_option linter.unusedSimpArgs false
namespace Go.Proofs.YtmcephnfcciloaaGreatDoor
open E
set_option linter.unusedSimpArgs false
set_option linter.unusedVariables false
set_option maxRecDepth 100000
def tm (g : zU) (ns : List zt) : List Str := cond (w7 g) (x8 ns g.packs) []
theorem Tq (ns : List zt) (hl : ns.length ≤ 1048576) (hb : ∀ n ∈ ns, n.yh ≤ 1048576) (ps : List zL) (hpl : ps.length ≤ 1048576) (hp : ∀ p ∈ ps, p.yh ≤ 1048576) : ∀ (rest pre : List zL) (acc : List Str) (m : Nat) (cap : Option Nat), ps = pre ++ rest → m = acc.length → m + rest.length * ns.length ≤ 1099511627776 → ∃ cap',
    EV Tryz.prog pol (.loop 11 122 0 [.t (.list 3 (zt.zV ns)), .sl 0 0 m cap, .t (.list 6 (zL.zV ps)), .t (.int .i64 (ps.length : Int)), .t (.int .i64 (pre.length : Int))] [.ts 1 (y6 acc)])
      = some (.loop (.exit 0) [.sl 0 0 (m + (x8 ns rest).length) cap'] [.ts 1 (y6 (acc ++ x8 ns rest))])
  | [], pre, acc, m, cap, h, hm, hmM => by
    have c : decide ((pre.length : Int) < (ps.length : Int)) = false := by simp [h]
    refine ⟨cap, ?_⟩
    rw [show x8 ns [] = [] from rfl]
    simp only [List.append_nil, List.length_nil, Nat.add_zero]
    refine zz Tryz.func11 rfl rfl ?_
    simp (disch := ((try simp only [LL]); omega)) only [↓GO, ↓DRW, GA, ren, zB, zd, refs, zb, cst, zl, zH, z7, E.load, E.store, zG, isC, bin, zI, zJ, una, z8, za, zh, zK, blt, fnV, asArg, ze, zn, zo, zj, zi, zg, zk, zr, z6, zD, zF, mkS, zc, unN, zM, zm, zy, zC, zf, zN, zq, GS, Int.reduceToNat, Nat.reduceGT, ↓reduceIte, Nat.reduceAdd, Nat.reduceMul, Nat.reduceSub, Nat.reduceEqDiff, Nat.reduceLeDiff, Nat.reduceLT, Nat.reduceBEq, Int.reduceBEq, Int.reduceBNe, Int.reduceEq, Int.reduceLT, Int.reduceLE, Int.reduceGT, Int.reduceNeg, reduceCtorEq, GZ, c, zY]
  | p :: rest, pre, acc, m, cap, h, hm, hmM => by
    have c : decide ((pre.length : Int) < (ps.length : Int)) = true := by simp [h]; omega
    have hget : (zL.zV ps)[pre.length]? = some p.enc := by rw [h]; simp [zL.zV]
    have hlen : pre.length + rest.length + 1 ≤ ps.length := by rw [h]; simp; omega
    have hpb := hp p (by rw [h]; simp)
    have hal := jH p ns
    rw [List.length_cons, Nat.add_mul, Nat.one_mul] at hmM
    obtain ⟨c1, L⟩ := cC ns hl hb p hpb (.list 6 (zL.zV ps)) (.int .i64 (ps.length : Int)) (.int .i64 (pre.length : Int)) 1099511627776 (by omega) ns [] acc m cap rfl hm (by omega)
    obtain ⟨c2, IH⟩ := Tq ns hl hb ps hpl hp rest (pre ++ [p]) (acc ++ auP p ns) (m + (auP p ns).length) c1 (by rw [h]; simp) (by simp [hm]) (by omega)
    rw [show ((pre ++ [p]).length : Int) = (pre.length : Int) + 1 by simp] at IH
    refine ⟨c2, ?_⟩
    rw [tO, List.length_append, ← Nat.add_assoc, ← List.append_assoc]
    clear h hb hp
    obtain ⟨name, version, source, sums, dev, needs⟩ := p
    simp only [List.length_nil, Int.natCast_zero, zL.enc, List.map_cons, List.map_nil] at hget L IH ⊢
    generalize (acc ++ auP _ ns) ++ x8 ns rest = Z at *
    generalize acc ++ auP _ ns = Y at *
    refine zz Tryz.func11 rfl rfl ?_
    simp (disch := ((try simp only [LL]); omega)) only [↓GO, ↓DRW, GA, ren, zB, zd, refs, zb, cst, zl, zH, z7, E.load, E.store, zG, isC, bin, zI, zJ, una, z8, za, zh, zK, blt, fnV, asArg, ze, zn, zo, zj, zi, zg, zk, zr, z6, zD, zF, mkS, zc, unN, zM, zm, zy, zC, zf, zN, zq, GS, Int.reduceToNat, Nat.reduceGT, ↓reduceIte, Nat.reduceAdd, Nat.reduceMul, Nat.reduceSub, Nat.reduceEqDiff, Nat.reduceLeDiff, Nat.reduceLT, Nat.reduceBEq, Int.reduceBEq, Int.reduceBNe, Int.reduceEq, Int.reduceLT, Int.reduceLE, Int.reduceGT, Int.reduceNeg, reduceCtorEq, GZ, c, hget, L, zt.zR, zx, zY, IH]
theorem XE (g : zU) (hB : GB g) (ns : List zt) (hg : w7 g = false) : EV Tryz.prog pol (.callO false 11 [.agg (g.enc.map .t), .t (.list 3 (zt.zV ns))] []) = some (.call (.nil 1) []) := by
  have d1 := Vr g hB
  rw [hg] at d1
  obtain ⟨top, packs⟩ := g
  simp only [zU.enc, List.map_cons, List.map_nil] at d1 ⊢
  refine yK Tryz.func11 rfl (by kernel_rfl) ?_
  unfold Tryz.f11
  simp (disch := ((try simp only [LL]); omega)) only [↓GO, ↓DRW, GA, ren, zB, zd, refs, zb, cst, zl, zH, z7, E.load, E.store, zG, isC, bin, zI, zJ, una, z8, za, zh, zK, blt, fnV, asArg, ze, zn, zo, zj, zi, zg, zk, zr, z6, zD, zF, mkS, zc, unN, zM, zm, zy, zC, zf, zN, zq, GS, Int.reduceToNat, Nat.reduceGT, ↓reduceIte, Nat.reduceAdd, Nat.reduceMul, Nat.reduceSub, Nat.reduceEqDiff, Nat.reduceLeDiff, Nat.reduceLT, Nat.reduceBEq, Int.reduceBEq, Int.reduceBNe, Int.reduceEq, Int.reduceLT, Int.reduceLE, Int.reduceGT, Int.reduceNeg, reduceCtorEq, GZ, d1, zY]
theorem ZD (g : zU) (hB : GB g) (ns : List zt) (hl : ns.length ≤ 1048576) (hb : ∀ n ∈ ns, n.yh ≤ 1048576) (hg : w7 g = true) : ∃ cap, EV Tryz.prog pol (.callO false 11 [.agg (g.enc.map .t), .t (.list 3 (zt.zV ns))] []) = some (.call (.sl 0 0 (x8 ns g.packs).length cap) [.ts 1 (y6 (x8 ns g.packs))]) := by
  have d1 := Vr g hB
  rw [hg] at d1
  obtain ⟨h1, h2, h3⟩ := hB.len
  have hmul : g.packs.length * ns.length ≤ 1048576 * 1048576 := Nat.mul_le_mul h1 hl
  obtain ⟨cap, L⟩ := Tq ns hl hb g.packs h1 h3 g.packs [] [] 0 (some 0) rfl rfl (by omega)
  refine ⟨cap, ?_⟩
  rw [show y6 [] = [] from rfl] at L
  obtain ⟨top, packs⟩ := g
  simp only [List.length_nil, Int.natCast_zero, Nat.zero_add, List.nil_append, zU.enc, List.map_cons, List.map_nil] at d1 L ⊢
  generalize x8 ns packs = Z at *
  refine yK Tryz.func11 rfl (by kernel_rfl) ?_
  unfold Tryz.f11
  simp (disch := ((try simp only [LL]); omega)) only [↓GO, ↓DRW, GA, ren, zB, zd, refs, zb, cst, zl, zH, z7, E.load, E.store, zG, isC, bin, zI, zJ, una, z8, za, zh, zK, blt, fnV, asArg, ze, zn, zo, zj, zi, zg, zk, zr, z6, zD, zF, mkS, zc, unN, zM, zm, zy, zC, zf, zN, zq, GS, Int.reduceToNat, Nat.reduceGT, ↓reduceIte, Nat.reduceAdd, Nat.reduceMul, Nat.reduceSub, Nat.reduceEqDiff, Nat.reduceLeDiff, Nat.reduceLT, Nat.reduceBEq, Int.reduceBEq, Int.reduceBNe, Int.reduceEq, Int.reduceLT, Int.reduceLE, Int.reduceGT, Int.reduceNeg, reduceCtorEq, GZ, d1, L, zL.zR, zY]
theorem cB (g : zU) (hB : GB g) (ns : List zt) (hl : ns.length ≤ 1048576) (hb : ∀ n ∈ ns, n.yh ≤ 1048576) (p : zL) (hp : p.yh ≤ 1048576) (i : Nat) (hi : i ≤ 1048576) (hgp : (zL.zV g.packs)[i]? = some p.enc) : ∀ (rest pre : List zt) (acc : List Str) (m : Nat) (cap : Option Nat), ns = pre ++ rest → m = acc.length → m + rest.length ≤ 1099511627776 → ∃ cap',
    EV Tryz.prog pol (.loop 8 3730 0 [.t (.list 3 (zt.zV ns)), .ptr 0 0 0, .sl 1 0 m cap, .t (.int .i64 (i : Int)), .t (.int .i64 (pre.length : Int))] [.vs 2 [g.enc.map .t], .ts 1 (y6 acc)])
      = some (.loop (.exit 2) [.t (.list 3 (zt.zV ns)), .ptr 0 0 0, .sl 1 0 (m + (auP p rest).length) cap', .t (.int .i64 (i : Int))] [.vs 2 [g.enc.map .t], .ts 1 (y6 (acc ++ auP p rest))])
  | [], pre, acc, m, cap, h, hm, hmM => by
    have c : decide ((pre.length : Int) < (ns.length : Int)) = false := by simp [h]
    refine ⟨cap, ?_⟩
    rw [show auP p [] = [] from rfl]
    simp only [List.append_nil, List.length_nil, Nat.add_zero, zU.enc, List.map_cons, List.map_nil]
    refine zz Tryz.func8 rfl rfl ?_
    simp (disch := ((try simp only [LL]); omega)) only [↓GO, ↓DRW, GA, ren, zB, zd, refs, zb, cst, zl, zH, z7, E.load, E.store, zG, isC, bin, zI, zJ, una, z8, za, zh, zK, blt, fnV, asArg, ze, zn, zo, zj, zi, zg, zk, zr, z6, zD, zF, mkS, zc, unN, zM, zm, zy, zC, zf, zN, zq, GS, Int.reduceToNat, Nat.reduceGT, ↓reduceIte, Nat.reduceAdd, Nat.reduceMul, Nat.reduceSub, Nat.reduceEqDiff, Nat.reduceLeDiff, Nat.reduceLT, Nat.reduceBEq, Int.reduceBEq, Int.reduceBNe, Int.reduceEq, Int.reduceLT, Int.reduceLE, Int.reduceGT, Int.reduceNeg, reduceCtorEq, GZ, c, zt.zR, zY]
  | n :: rest, pre, acc, m, cap, h, hm, hmM => by
    have c : decide ((pre.length : Int) < (ns.length : Int)) = true := by simp [h]; omega
    have hget : (zt.zV ns)[pre.length]? = some n.enc := by rw [h]; simp [zt.zV]
    have hlen : pre.length + rest.length + 1 ≤ ns.length := by rw [h]; simp; omega
    have hnb := hb n (by rw [h]; simp)
    have hpb := hp
    simp only [zL.yh] at hpb
    have d1 := c_afR n hnb p.name p.version (by omega) (by omega)
    have d2 := jS p (by omega)
    have hkl : (keyOf p).length ≤ 2097153 := by unfold keyOf; simp only [List.length_append, List.length_cons, List.length_nil]; omega
    have htl : n.text.length ≤ 1048576 := by simp only [zt.yh] at hnb; omega
    have hsl : (y6 acc).length = m := by rw [zP, hm]
    simp only [List.length_cons] at hmM
    have IH0 := cB g hB ns hl hb p hp i hi hgp rest (pre ++ [n]) acc m cap (by rw [h]; simp) hm (by omega)
    have IH1 := cB g hB ns hl hb p hp i hi hgp rest (pre ++ [n]) (acc ++ [(keyOf p ++ [32]) ++ n.text]) (m + 1) none (by rw [h]; simp) (by simp [hm]) (by omega)
    rw [show ((pre ++ [n]).length : Int) = (pre.length : Int) + 1 by simp] at IH0 IH1
    rw [show y6 (acc ++ [(keyOf p ++ [32]) ++ n.text]) = y6 acc ++ [[.str ((keyOf p ++ [32]) ++ n.text)]] by simp [y6]] at IH1
    rw [eu]
    clear h hb
    obtain ⟨top, packs⟩ := g
    simp only at hgp
    obtain ⟨nm, rg, tx⟩ := n
    obtain ⟨name, version, source, sums, dev, needs⟩ := p
    generalize keyOf ⟨name, version, source, sums, dev, needs⟩ = key at *
    generalize auP ⟨name, version, source, sums, dev, needs⟩ rest = R at *
    simp only [zt.enc, zL.enc, zU.enc, List.map_cons, List.map_nil] at d1 d2 hget hgp IH0 IH1 htl ⊢
    generalize zL.zV packs = PE at *
    cases q : afT ⟨nm, rg, tx⟩ name version with
    | false =>
      obtain ⟨cap', IH⟩ := IH0
      refine ⟨cap', ?_⟩
      rw [q] at d1
      simp only [cond_false]
      refine zz Tryz.func8 rfl rfl ?_
      simp (disch := ((try simp only [LL]); omega)) only [↓GO, ↓DRW, GA, ren, zB, zd, refs, zb, cst, zl, zH, z7, E.load, E.store, zG, isC, bin, zI, zJ, una, z8, za, zh, zK, blt, fnV, asArg, ze, zn, zo, zj, zi, zg, zk, zr, z6, zD, zF, mkS, zc, unN, zM, zm, zy, zC, zf, zN, zq, GS, Int.reduceToNat, Nat.reduceGT, ↓reduceIte, Nat.reduceAdd, Nat.reduceMul, Nat.reduceSub, Nat.reduceEqDiff, Nat.reduceLeDiff, Nat.reduceLT, Nat.reduceBEq, Int.reduceBEq, Int.reduceBNe, Int.reduceEq, Int.reduceLT, Int.reduceLE, Int.reduceGT, Int.reduceNeg, reduceCtorEq, GZ, c, hget, hgp, d1, zt.zR, zx, zY, IH]
    | true =>
      obtain ⟨cap', IH⟩ := IH1
      refine ⟨cap', ?_⟩
      rw [q] at d1
      simp only [cond_true, List.length_cons]
      rw [show m + (R.length + 1) = m + 1 + R.length by omega, show acc ++ (key ++ [32] ++ tx) :: R = (acc ++ [key ++ [32] ++ tx]) ++ R by simp]
      generalize (acc ++ [key ++ [32] ++ tx]) ++ R = Z at *
      refine zz Tryz.func8 rfl rfl ?_
      simp (disch := ((try simp only [LL]); omega)) only [↓GO, ↓DRW, GA, ren, zB, zd, refs, zb, cst, zl, zH, z7, E.load, E.store, zG, isC, bin, zI, zJ, una, z8, za, zh, zK, blt, fnV, asArg, ze, zn, zo, zj, zi, zg, zk, zr, z6, zD, zF, mkS, zc, unN, zM, zm, zy, zC, zf, zN, zq, GS, Int.reduceToNat, Nat.reduceGT, ↓reduceIte, Nat.reduceAdd, Nat.reduceMul, Nat.reduceSub, Nat.reduceEqDiff, Nat.reduceLeDiff, Nat.reduceLT, Nat.reduceBEq, Int.reduceBEq, Int.reduceBNe, Int.reduceEq, Int.reduceLT, Int.reduceLE, Int.reduceGT, Int.reduceNeg, reduceCtorEq, GZ, c, hget, hgp, d1, d2, zt.zR, zx, hsl, zY, IH, wh]
      refine yT (by kernel_rfl) ?_
      first | rfl | exact IH
theorem Tp (g : zU) (hB : GB g) (hg : w7 g = true) (ns : List zt) (hl : ns.length ≤ 1048576) (hb : ∀ n ∈ ns, n.yh ≤ 1048576) : ∀ (rest pre : List zL) (acc : List Str) (m : Nat) (cap : Option Nat), g.packs = pre ++ rest → m = acc.length → m + rest.length * ns.length ≤ 1099511627776 → ∃ cap',
    EV Tryz.prog pol (.loop 8 58 0 [.t (.list 3 (zt.zV ns)), .ptr 0 0 0, .sl 1 0 m cap, .t (.int .i64 (pre.length : Int))] [.vs 2 [g.enc.map .t], .ts 1 (y6 acc)])
      = some (.loop (.exit 0) [.sl 0 0 (m + (x8 ns rest).length) cap'] [.ts 1 (y6 (acc ++ x8 ns rest))])
  | [], pre, acc, m, cap, h, hm, hmM => by
    have c : decide ((pre.length : Int) < (g.packs.length : Int)) = false := by simp [h]
    refine ⟨cap, ?_⟩
    rw [show x8 ns [] = [] from rfl]
    obtain ⟨top, packs⟩ := g
    simp only [List.append_nil, List.length_nil, Nat.add_zero, zU.enc, List.map_cons, List.map_nil] at c ⊢
    refine zz Tryz.func8 rfl rfl ?_
    simp (disch := ((try simp only [LL]); omega)) only [↓GO, ↓DRW, GA, ren, zB, zd, refs, zb, cst, zl, zH, z7, E.load, E.store, zG, isC, bin, zI, zJ, una, z8, za, zh, zK, blt, fnV, asArg, ze, zn, zo, zj, zi, zg, zk, zr, z6, zD, zF, mkS, zc, unN, zM, zm, zy, zC, zf, zN, zq, GS, Int.reduceToNat, Nat.reduceGT, ↓reduceIte, Nat.reduceAdd, Nat.reduceMul, Nat.reduceSub, Nat.reduceEqDiff, Nat.reduceLeDiff, Nat.reduceLT, Nat.reduceBEq, Int.reduceBEq, Int.reduceBNe, Int.reduceEq, Int.reduceLT, Int.reduceLE, Int.reduceGT, Int.reduceNeg, reduceCtorEq, GZ, c, zL.zR, zY]
  | p :: rest, pre, acc, m, cap, h, hm, hmM => by
    have c : decide ((pre.length : Int) < (g.packs.length : Int)) = true := by simp [h]; omega
    have hget : (zL.zV g.packs)[pre.length]? = some p.enc := by rw [h]; simp [zL.zV]
    have hlen : pre.length + rest.length + 1 ≤ g.packs.length := by rw [h]; simp; omega
    obtain ⟨q1, q2, q3⟩ := hB.len
    have hpb := q3 p (by rw [h]; simp)
    have hal := jH p ns
    have d1 := Vq g hB
    rw [hg] at d1
    rw [List.length_cons, Nat.add_mul, Nat.one_mul] at hmM
    obtain ⟨c1, L⟩ := cB g hB ns hl hb p hpb pre.length (by omega) hget ns [] acc m cap rfl hm (by omega)
    obtain ⟨c2, IH⟩ := Tp g hB hg ns hl hb rest (pre ++ [p]) (acc ++ auP p ns) (m + (auP p ns).length) c1 (by rw [h]; simp) (by simp [hm]) (by omega)
    rw [show ((pre ++ [p]).length : Int) = (pre.length : Int) + 1 by simp] at IH
    refine ⟨c2, ?_⟩
    rw [tO, List.length_append, ← Nat.add_assoc, ← List.append_assoc]
    clear h hb hB hg hget
    obtain ⟨top, packs⟩ := g
    simp only at hlen q1
    simp only [List.length_nil, Int.natCast_zero, zU.enc, List.map_cons, List.map_nil] at c d1 L IH ⊢
    generalize (acc ++ auP _ ns) ++ x8 ns rest = Z at *
    generalize acc ++ auP _ ns = Y at *
    refine zz Tryz.func8 rfl rfl ?_
    simp (disch := ((try simp only [LL]); omega)) only [↓GO, ↓DRW, GA, ren, zB, zd, refs, zb, cst, zl, zH, z7, E.load, E.store, zG, isC, bin, zI, zJ, una, z8, za, zh, zK, blt, fnV, asArg, ze, zn, zo, zj, zi, zg, zk, zr, z6, zD, zF, mkS, zc, unN, zM, zm, zy, zC, zf, zN, zq, GS, Int.reduceToNat, Nat.reduceGT, ↓reduceIte, Nat.reduceAdd, Nat.reduceMul, Nat.reduceSub, Nat.reduceEqDiff, Nat.reduceLeDiff, Nat.reduceLT, Nat.reduceBEq, Int.reduceBEq, Int.reduceBNe, Int.reduceEq, Int.reduceLT, Int.reduceLE, Int.reduceGT, Int.reduceNeg, reduceCtorEq, GZ, c, d1, L, zL.zR, zx, zY, IH]
theorem c_auR (g : zU) (hB : GB g) (ns : List zt) (hl : ns.length ≤ 1048576) (hb : ∀ n ∈ ns, n.yh ≤ 1048576) : zE (EV Tryz.prog pol) 8 [.agg (g.enc.map .t), .t (.list 3 (zt.zV ns))] = some (.t (.list 1 (y6 (tm g ns)))) := by
  unfold tm
  cases hg : w7 g with
  | true =>
    obtain ⟨h1, h2, h3⟩ := hB.len
    have hmul : g.packs.length * ns.length ≤ 1048576 * 1048576 := Nat.mul_le_mul h1 hl
    obtain ⟨cap, L⟩ := Tp g hB hg ns hl hb g.packs [] [] 0 (some 0) rfl rfl (by omega)
    rw [show y6 [] = [] from rfl] at L
    obtain ⟨top, packs⟩ := g
    simp only [List.length_nil, Int.natCast_zero, Nat.zero_add, List.nil_append, zU.enc, List.map_cons, List.map_nil, cond_true] at L ⊢
    have ht : (y6 (x8 ns packs)).take (x8 ns packs).length = y6 (x8 ns packs) := by rw [← zP (x8 ns packs)]; simp
    generalize x8 ns packs = Z at *
    apply zu
    refine zw rfl Tryz.func8 rfl (by kernel_rfl) ?_
    unfold Tryz.f8
    simp (disch := ((try simp only [LL]); omega)) only [↓GO, ↓DRW, GA, ren, zB, zd, refs, zb, cst, zl, zH, z7, E.load, E.store, zG, isC, bin, zI, zJ, una, z8, za, zh, zK, blt, fnV, asArg, ze, zn, zo, zj, zi, zg, zk, zr, z6, zD, zF, mkS, zc, unN, zM, zm, zy, zC, zf, zN, zq, GS, Int.reduceToNat, Nat.reduceGT, ↓reduceIte, Nat.reduceAdd, Nat.reduceMul, Nat.reduceSub, Nat.reduceEqDiff, Nat.reduceLeDiff, Nat.reduceLT, Nat.reduceBEq, Int.reduceBEq, Int.reduceBNe, Int.reduceEq, Int.reduceLT, Int.reduceLE, Int.reduceGT, Int.reduceNeg, reduceCtorEq, GZ, L, ht, zY]
  | false =>
    have d1 := Vq g hB
    rw [hg] at d1
    have L : EV Tryz.prog pol (.loop 8 58 0 [.t (.list 3 (zt.zV ns)), .ptr 0 0 0, .sl 1 0 0 (some 0), .t (.int .i64 0)] [.vs 2 [g.enc.map .t], .ts 1 []])
        = some (.loop (.exit 0) [.sl 0 0 0 (some 0)] [.ts 1 []]) := by
      obtain ⟨top, packs⟩ := g
      simp only [zU.enc, List.map_cons, List.map_nil] at d1 ⊢
      cases c : decide ((0 : Int) < (packs.length : Int))
      all_goals
        refine zz Tryz.func8 rfl rfl ?_
        simp (disch := ((try simp only [LL]); omega)) only [↓GO, ↓DRW, GA, ren, zB, zd, refs, zb, cst, zl, zH, z7, E.load, E.store, zG, isC, bin, zI, zJ, una, z8, za, zh, zK, blt, fnV, asArg, ze, zn, zo, zj, zi, zg, zk, zr, z6, zD, zF, mkS, zc, unN, zM, zm, zy, zC, zf, zN, zq, GS, Int.reduceToNat, Nat.reduceGT, ↓reduceIte, Nat.reduceAdd, Nat.reduceMul, Nat.reduceSub, Nat.reduceEqDiff, Nat.reduceLeDiff, Nat.reduceLT, Nat.reduceBEq, Int.reduceBEq, Int.reduceBNe, Int.reduceEq, Int.reduceLT, Int.reduceLE, Int.reduceGT, Int.reduceNeg, reduceCtorEq, GZ, c, d1, zL.zR, zY]
    obtain ⟨top, packs⟩ := g
    simp only [zU.enc, List.map_cons, List.map_nil, cond_false] at L ⊢
    apply zu
    refine zw rfl Tryz.func8 rfl (by kernel_rfl) ?_
    unfold Tryz.f8
    simp (disch := ((try simp only [LL]); omega)) only [↓GO, ↓DRW, GA, ren, zB, zd, refs, zb, cst, zl, zH, z7, E.load, E.store, zG, isC, bin, zI, zJ, una, z8, za, zh, zK, blt, fnV, asArg, ze, zn, zo, zj, zi, zg, zk, zr, z6, zD, zF, mkS, zc, unN, zM, zm, zy, zC, zf, zN, zq, GS, Int.reduceToNat, Nat.reduceGT, ↓reduceIte, Nat.reduceAdd, Nat.reduceMul, Nat.reduceSub, Nat.reduceEqDiff, Nat.reduceLeDiff, Nat.reduceLT, Nat.reduceBEq, Int.reduceBEq, Int.reduceBNe, Int.reduceEq, Int.reduceLT, Int.reduceLE, Int.reduceGT, Int.reduceNeg, reduceCtorEq, GZ, L, zY]
    try rfl
end Go.Proofs.YtmcephnfcciloaaGreatDoor
/- The law of Audit. Conditions: those of each lemma. -/
namespace Go.Proofs.YtmcephnfcciloaaGreatDoor
open E
set_option linter.unusedSimpArgs false
set_option linter.unusedVariables false
set_option maxRecDepth 100000
theorem nW (ks : List Str) (n : Nat) (h : n = ks.length) : (y6 ks).take n = y6 ks := List.take_of_length_le (by rw [zP]; omega)
theorem YH (cs : List zL) (n : Nat) (h : n = cs.length) : (ocE (zL.zV cs)).take n = ocE (zL.zV cs) := List.take_of_length_le (by rw [qw, zL.zR]; omega)
theorem VP (cs : List zt) (n : Nat) (h : n = cs.length) : (zt.zV cs).take n = zt.zV cs := List.take_of_length_le (by rw [zt.zR]; omega)
theorem di {g : zU} (h : w7 g = true) : g.packs.length ≤ 40 := by
  unfold w7 at h
  simp only [Bool.and_eq_true, decide_eq_true_eq] at h
  omega
theorem dA (g : zU) (ns : List zt) (hl : ns.length ≤ 1048576) : (tm g ns).length ≤ 134217728 := by
  unfold tm
  cases hg : w7 g with
  | false => simp
  | true =>
    rw [cond_true]
    have h1 := nS ns g.packs
    have h2 : g.packs.length * ns.length ≤ 40 * 1048576 := Nat.mul_le_mul (di hg) hl
    omega
set_option maxHeartbeats 16000000 in
theorem l0 (g : zU) (ns : List zt) (ho : g.ok) (hon : ∀ n ∈ ns, n.ok) (hb : g.yh + (ns.length + zt.ya ns) ≤ 1048576) :
    EV Tryz.prog pol (.call 3 [.agg (g.enc.map .t), .t (.list 3 (zt.zV ns))] []) = some (.call (.t (.bool true)) []) := by
  have hB : GB g := by unfold GB; omega
  have hnb : ∀ n ∈ ns, n.yh ≤ 1048576 := fun n hn => by have := zt.yp hn; omega
  have hsz := kJ g ho 1048576 (by omega) (by omega)
  rw [wC (by omega)] at hsz
  have hsz2 := om ns (by omega) (fun n hn => nQ n (hon n hn)) (1048576 - (g.yh : Int)) (by omega) (by omega)
  rw [wC (by omega)] at hsz2
  have c2 : decide (1048576 - (g.yh : Int) < 0) = false := by apply decide_eq_false; omega
  have c3 : decide (1048576 - (g.yh : Int) - ((ns.length + zt.ya ns : Nat) : Int) < 0) = false := by apply decide_eq_false; omega
  have hto := S1 g (by omega)
  have htO := S0 g (by omega)
  have hno := iw ns (by omega) (fun n hn => nP n (hnb n hn))
  have hnO := UD ns (by omega) (fun n hn => nP n (hnb n hn))
  have heqG := ZB g (by omega)
  have heqN := iy ns (by omega) (fun n hn => du n (hnb n hn))
  have hR := c_auR g hB ns (by omega) hnb
  have hZl := dA g ns (by omega)
  have heqS := tN (tm g ns) hZl
  have hb' := hb
  obtain ⟨top, packs⟩ := g
  simp only [zU.yh] at hb'
  have hcn := eg packs
  have hM1 := UL top packs (by omega) (by omega) top.length packs.length rfl rfl (some top.length) (some packs.length) 1 (by omega)
  have hM2 := Xx ns (by omega) (some ns.length) (1 + top.length + yJ packs) (by omega) ns.length rfl
  have g1 : decide (((1 + top.length + yJ packs + 3 * ns.length : Nat) : Int) < 0) = false := by apply decide_eq_false; omega
  have t1 := nW top top.length rfl
  have t2 := YH packs packs.length rfl
  have t3 := VP ns ns.length rfl
  have hnl := zt.zR ns
  unfold jI at heqG
  unfold LC at htO
  unfold LD at hto
  rw [show ((1 : Nat) : Int) = 1 from rfl] at hM1
  cases hg : w7 ⟨top, packs⟩ with
  | true =>
    obtain ⟨cap, hI⟩ := ZD ⟨top, packs⟩ hB ns (by omega) hnb hg
    have e : tm ⟨top, packs⟩ ns = x8 ns packs := by unfold tm; rw [hg]; rfl
    rw [e] at hR heqS hZl
    simp only at hI
    generalize x8 ns packs = Z at *
    have hM3 := jC Z hZl cap 1 (by omega) Z.length rfl
    have hH := aF Z.length 1 hZl (by omega)
    rw [show ((1 : Nat) : Int) = 1 from rfl] at hM3 hH
    have g2 : decide (((1 + Z.length : Nat) : Int) < 0) = false := by apply decide_eq_false; omega
    have t4 := nW Z Z.length rfl
    have t5 := nW (mkS Z.length 1) Z.length (vr _ _).symm
    have f1 := vF Z
    clear ho hon hb hb' hnb hB hg hcn e
    generalize (zU.mk top packs).yh = bt at *
    generalize zt.ya ns = bn at *
    simp only [zU.enc, List.map_cons, List.map_nil] at hsz hto htO heqG hR hI hM1 ⊢
    generalize yJ packs = m0 at *
    generalize xE (1 + top.length) packs = mc at *
    generalize mkS Z.length 1 = msz at *
    generalize mkS top.length 1 = ms at *
    generalize tB ns.length (1 + top.length + m0) = mn at *
    refine zw rfl Tryz.func3 rfl (by kernel_rfl) ?_
    unfold Tryz.f3
    simp (disch := ((try simp only [LL]); omega)) only [↓GO, ↓DRW, GA, ren, zB, zd, refs, zb, cst, zl, zH, z7, E.load, E.store, zG, isC, bin, zI, zJ, una, z8, za, zh, zK, blt, fnV, asArg, ze, zn, zo, zj, zi, zg, zk, zr, z6, zD, zF, mkS, zc, unN, zM, zm, zy, zC, zf, zN, zq, GS, Int.reduceToNat, Nat.reduceGT, ↓reduceIte, Nat.reduceAdd, Nat.reduceMul, Nat.reduceSub, Nat.reduceEqDiff, Nat.reduceLeDiff, Nat.reduceLT, Nat.reduceBEq, Int.reduceBEq, Int.reduceBNe, Int.reduceEq, Int.reduceLT, Int.reduceLE, Int.reduceGT, Int.reduceNeg, reduceCtorEq, yO, yP, qI, r9, rP, rO, w9, mkO, tD, tr, vd, qC, yZ, r7, r4, xu, oc, oTs, oT, xf, xf.rowTs, tA, isL, Bool.not_false, Bool.true_and, Bool.and_true, Bool.and_self, List.flatMap_append, List.map_append, List.set_cons_zero, List.set_cons_succ, GZ, hsz, hsz2, c2, c3, hto, htO, hno, hnO, heqG, heqN, heqS, hR, hI, hM1, hM2, hM3, hH, g1, g2, t1, t2, t3, t4, t5, f1, List.drop_zero, nY, xy, yX, bne_self_eq_false, zY]
  | false =>
    have hI := XE ⟨top, packs⟩ hB ns hg
    have e : tm ⟨top, packs⟩ ns = [] := by unfold tm; rw [hg]; rfl
    rw [e, show y6 [] = [] from rfl] at hR heqS
    have hM3 := Xu 1
    have hH := aF 0 1 (by omega) (by omega)
    rw [Nat.add_zero, show ((1 : Nat) : Int) = 1 from rfl, show mkS 0 1 = [] from rfl, show y6 [] = [] from rfl] at hH
    clear ho hon hb hb' hnb hB hg hcn e hZl
    generalize (zU.mk top packs).yh = bt at *
    generalize zt.ya ns = bn at *
    simp only [zU.enc, List.map_cons, List.map_nil] at hsz hto htO heqG hR hI hM1 ⊢
    generalize yJ packs = m0 at *
    generalize xE (1 + top.length) packs = mc at *
    generalize mkS top.length 1 = ms at *
    generalize tB ns.length (1 + top.length + m0) = mn at *
    refine zw rfl Tryz.func3 rfl (by kernel_rfl) ?_
    unfold Tryz.f3
    simp (disch := ((try simp only [LL]); omega)) only [↓GO, ↓DRW, GA, ren, zB, zd, refs, zb, cst, zl, zH, z7, E.load, E.store, zG, isC, bin, zI, zJ, una, z8, za, zh, zK, blt, fnV, asArg, ze, zn, zo, zj, zi, zg, zk, zr, z6, zD, zF, mkS, zc, unN, zM, zm, zy, zC, zf, zN, zq, GS, Int.reduceToNat, Nat.reduceGT, ↓reduceIte, Nat.reduceAdd, Nat.reduceMul, Nat.reduceSub, Nat.reduceEqDiff, Nat.reduceLeDiff, Nat.reduceLT, Nat.reduceBEq, Int.reduceBEq, Int.reduceBNe, Int.reduceEq, Int.reduceLT, Int.reduceLE, Int.reduceGT, Int.reduceNeg, reduceCtorEq, yO, yP, qI, r9, rP, rO, w9, mkO, tD, tr, vd, qC, yZ, r7, r4, xu, oc, oTs, oT, xf, xf.rowTs, tA, isL, Bool.not_false, Bool.true_and, Bool.and_true, Bool.and_self, List.flatMap_append, List.map_append, List.set_cons_zero, List.set_cons_succ, GZ, hsz, hsz2, c2, c3, hto, htO, hno, hnO, heqG, heqN, heqS, hR, hI, hM1, hM2, hM3, hH, g1, t1, t2, t3, List.drop_zero, nY, xy, yX, bne_self_eq_false, zY]
theorem dq (g : zU) (ns : List zt) (ho : g.ok) (hl : ns.length ≤ 9223372036854775807) (hon : ∀ n ∈ ns, n.ok) :
    EV Tryz.prog pol (.call 3 [.agg (g.enc.map .t), .t (.list 3 (zt.zV ns))] []) = some (.call (.t (.bool true)) []) := by
  have hsz := kJ g ho 1048576 (by omega) (by omega)
  by_cases hb1 : g.yh ≤ 1048576
  · by_cases hb : g.yh + (ns.length + zt.ya ns) ≤ 1048576
    · exact l0 g ns ho hon hb
    · rw [wC (by omega)] at hsz
      have hsz2 := om ns hl (fun n hn => nQ n (hon n hn)) (1048576 - (g.yh : Int)) (by omega) (by omega)
      have hle : left (1048576 - (g.yh : Int)) (ns.length + zt.ya ns) = -1 := if_pos (by omega)
      rw [hle] at hsz2
      have c2 : decide (1048576 - (g.yh : Int) < 0) = false := by apply decide_eq_false; omega
      clear hb hle ho hon
      obtain ⟨top, packs⟩ := g
      generalize (zU.mk top packs).yh = bt at *
      simp only [zU.enc, List.map_cons, List.map_nil] at hsz ⊢
      refine zw rfl Tryz.func3 rfl (by kernel_rfl) ?_
      unfold Tryz.f3
      simp (disch := ((try simp only [LL]); omega)) only [↓GO, ↓DRW, GA, ren, zB, zd, refs, zb, cst, zl, zH, z7, E.load, E.store, zG, isC, bin, zI, zJ, una, z8, za, zh, zK, blt, fnV, asArg, ze, zn, zo, zj, zi, zg, zk, zr, z6, zD, zF, mkS, zc, unN, zM, zm, zy, zC, zf, zN, zq, GS, Int.reduceToNat, Nat.reduceGT, ↓reduceIte, Nat.reduceAdd, Nat.reduceMul, Nat.reduceSub, Nat.reduceEqDiff, Nat.reduceLeDiff, Nat.reduceLT, Nat.reduceBEq, Int.reduceBEq, Int.reduceBNe, Int.reduceEq, Int.reduceLT, Int.reduceLE, Int.reduceGT, Int.reduceNeg, reduceCtorEq, yO, yP, qI, r9, rP, rO, w9, mkO, tD, tr, vd, qC, yZ, r7, r4, xu, oc, oTs, oT, xf, xf.rowTs, tA, isL, Bool.not_false, Bool.true_and, Bool.and_true, Bool.and_self, List.flatMap_append, List.map_append, List.set_cons_zero, List.set_cons_succ, GZ, hsz, hsz2, c2]
  · have hle : left 1048576 g.yh = -1 := if_pos (by omega)
    rw [hle] at hsz
    clear hb1 hle ho hon
    obtain ⟨top, packs⟩ := g
    simp only [zU.enc, List.map_cons, List.map_nil] at hsz ⊢
    refine zw rfl Tryz.func3 rfl (by kernel_rfl) ?_
    unfold Tryz.f3
    simp (disch := ((try simp only [LL]); omega)) only [↓GO, ↓DRW, GA, ren, zB, zd, refs, zb, cst, zl, zH, z7, E.load, E.store, zG, isC, bin, zI, zJ, una, z8, za, zh, zK, blt, fnV, asArg, ze, zn, zo, zj, zi, zg, zk, zr, z6, zD, zF, mkS, zc, unN, zM, zm, zy, zC, zf, zN, zq, GS, Int.reduceToNat, Nat.reduceGT, ↓reduceIte, Nat.reduceAdd, Nat.reduceMul, Nat.reduceSub, Nat.reduceEqDiff, Nat.reduceLeDiff, Nat.reduceLT, Nat.reduceBEq, Int.reduceBEq, Int.reduceBNe, Int.reduceEq, Int.reduceLT, Int.reduceLE, Int.reduceGT, Int.reduceNeg, reduceCtorEq, yO, yP, qI, r9, rP, rO, w9, mkO, tD, tr, vd, qC, yZ, r7, r4, xu, oc, oTs, oT, xf, xf.rowTs, tA, isL, Bool.not_false, Bool.true_and, Bool.and_true, Bool.and_self, List.flatMap_append, List.map_append, List.set_cons_zero, List.set_cons_succ, GZ, hsz]
end Go.Proofs.YtmcephnfcciloaaGreatDoor
/- The law of Audit at what is handed in. Conditions: none. -/
namespace Go.Proofs.YtmcephnfcciloaaGreatDoor
open E
theorem XK (xs : List V) (h : WTA Tryz.prog [25, 26] xs) : EV Tryz.prog pol (.call 3 xs []) = some (.call (.t (.bool true)) []) := by
  obtain ⟨g, ns, rfl, ho, hl, hon⟩ := eL h
  exact dq g ns ho hl hon
end Go.Proofs.YtmcephnfcciloaaGreatDoor

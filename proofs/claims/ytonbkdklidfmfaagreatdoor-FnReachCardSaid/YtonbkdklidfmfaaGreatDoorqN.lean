/- Joined: J11 B6 V14 K26 K37 K38 J12 V20 K48 W15. Conditions: those of each lemma. -/
import Derived.Test.YtonbkdklidfmfaaGreatDoorqM
import Derived.Test.YtonbkdklidfmfaaGreatDoorqL
import Derived.Test.YtonbkdklidfmfaaGreatDoorqJ
set_option linter.unusedVariables false
set_option linter.unusedSimpArgs false
namespace Go.Proofs.YtonbkdklidfmfaaGreatDoor
open E
set_option linter.unusedSimpArgs false
set_option linter.unusedVariables false
set_option maxRecDepth 100000
theorem Sw (code : List Int) (hb : okB code) : ∃ g : zz, GSm g ∧ zo (EV Tryz.prog pol) 24 [.t (.list 1 (xg code))] = some (.agg (g.enc.map .t)) := by
 obtain ⟨h, d0⟩ := Ro code hb
 obtain ⟨c1, g, hc1, hg, d1⟩ := Rr code hb (0, h) (Nat.zero_le _)
 refine ⟨g, hg, ?_⟩
 simp only [zz.enc, List.map_cons, List.map_nil] at d1 ⊢
 unfold cuR at *
 simp only [Int.natCast_zero] at d0 d1
 clear hb hg
 apply zw
 refine zy rfl Tryz.func24 rfl (by kernel_rfl) ?_
 unfold Tryz.f24
 simp (maxSteps := 1000000) (disch := ((try simp only [LL]); omega)) only [↓GO, ↓DRW, GA, GX, ren, zm, za, refs, z8, cst, zq, isC, bin, una, z6, zd, blt, asArg, zg, zc, zf, z1, E.mkS, unN, ze, zn, zb, GS, simprocAttr, zH, zI, x8, yX, x6, x5, x9, gh1, yW, yN, yQ, zW, mkO, yC, yr, yt, mvC, unO, ye, x7, yZ, yU, zN, yV, yT, y8, oc, oTs, oT, zS, zS.rowTs, yP, isL, Bool.not_false, Bool.true_and, Bool.and_true, Bool.and_self, List.flatMap_append, List.map_append, List.set_cons_zero, List.set_cons_succ, GZ, d0, d1, zD]
theorem Rq (code : List Int) : zo (EV Tryz.prog pol) 21 [.t (.list 1 (xg code))] = some (.t (.bool (decide ((code.length : Int) > 1048576)))) := by
 have hl := wm code
 apply zw
 refine zy rfl Tryz.func21 rfl (by kernel_rfl) ?_
 unfold Tryz.f21
 simp (disch := ((try simp only [LL]); omega)) only [↓GO, ↓DRW, GA, GX, ren, zm, za, refs, z8, cst, zq, isC, bin, una, z6, zd, blt, asArg, zg, zc, zf, z1, E.mkS, unN, ze, zn, zb, GS, simprocAttr, GZ, hl, zD]
theorem aS (a : List Str) (hl : a.length ≤ 1048576) : ∀ (rest pre : List Str), a = pre ++ rest →
 EV Tryz.prog pol (.loop 26 58 0 [.t (.list 1 (strs a)), .t (.list 1 (strs a)), .t (.int .i64 (pre.length : Int))] []) = some (.loop (.exit 0) [.bad] [])
 | [], pre, hs => by
  have c : decide ((pre.length : Int) < (a.length : Int)) = false := by simp [hs]
  refine zj Tryz.func26 rfl rfl ?_
  simp (disch := ((try simp only [LL]); omega)) only [↓GO, ↓DRW, GA, GX, ren, zm, za, refs, z8, cst, zq, isC, bin, una, z6, zd, blt, asArg, zg, zc, zf, z1, E.mkS, unN, ze, zn, zb, GS, simprocAttr, GZ, c, zi, zD]
 | x :: rest, pre, hs => by
  have c : decide ((pre.length : Int) < (a.length : Int)) = true := by simp [hs]; omega
  have hget : (strs a)[pre.length]? = some [.str x] := by rw [hs]; exact xl pre x rest
  have hlen : pre.length + rest.length + 1 ≤ a.length := by rw [hs]; simp; omega
  have IH := aS a hl rest (pre ++ [x]) (by rw [hs]; simp)
  rw [show ((pre ++ [x]).length : Int) = (pre.length : Int) + 1 by simp] at IH
  clear hs
  refine zj Tryz.func26 rfl rfl ?_
  simp (disch := ((try simp only [LL]); omega)) only [↓GO, ↓DRW, GA, GX, ren, zm, za, refs, z8, cst, zq, isC, bin, una, z6, zd, blt, asArg, zg, zc, zf, z1, E.mkS, unN, ze, zn, zb, GS, simprocAttr, GZ, c, zi, hget, bne_self_eq_false, beq_self_eq_true, bne, Bool.not_true, zk, zD, IH]
theorem nA (a : List Str) (hl : a.length ≤ 1048576) : zo (EV Tryz.prog pol) 26 [.t (.list 1 (strs a)), .t (.list 1 (strs a))] = some (.t (.bool true)) := by
 have L := aS a hl a [] rfl
 simp only [List.length_nil, Int.natCast_zero] at L
 have c1 : ((a.length : Int) != (a.length : Int)) = false := by simp
 apply zw
 refine zy rfl Tryz.func26 rfl (by kernel_rfl) ?_
 unfold Tryz.f26
 simp (disch := ((try simp only [LL]); omega)) only [↓GO, ↓DRW, GA, GX, ren, zm, za, refs, z8, cst, zq, isC, bin, una, z6, zd, blt, asArg, zg, zc, zf, z1, E.mkS, unN, ze, zn, zb, GS, simprocAttr, GZ, L, c1, zi, bne_self_eq_false, beq_self_eq_true, bne, Bool.not_true, zD]
theorem Ux (r : List Str) (s : Str) (hl : r.length ≤ 1048576) : ∀ (rest pre : List Str), r = pre ++ rest → s ∈ rest →
 EV Tryz.prog pol (.loop 34 26 0 [.t (.list 1 (strs r)), .t (.str s), .t (.int .i64 (pre.length : Int))] []) = some (.loop .ret [.t (.bool true)] [])
 | [], pre, hs, hm => by simp at hm
 | x :: rest, pre, hs, hm => by
  have c : decide ((pre.length : Int) < (r.length : Int)) = true := by simp [hs]; omega
  have hget : (strs r)[pre.length]? = some [.str x] := by rw [hs]; exact xl pre x rest
  have hlen : pre.length + rest.length + 1 ≤ r.length := by rw [hs]; simp; omega
  cases q : (x == s) with
  | true =>
   clear hs
   refine zj Tryz.func34 rfl rfl ?_
   simp (disch := ((try simp only [LL]); omega)) only [↓GO, ↓DRW, GA, GX, ren, zm, za, refs, z8, cst, zq, isC, bin, una, z6, zd, blt, asArg, zg, zc, zf, z1, E.mkS, unN, ze, zn, zb, GS, simprocAttr, GZ, c, zi, hget, q, zD]
  | false =>
   have hm2 : s ∈ rest := by
    rcases List.mem_cons.1 hm with h | h
    · subst h; simp at q
    · exact h
   have IH := Ux r s hl rest (pre ++ [x]) (by rw [hs]; simp) hm2
   rw [show ((pre ++ [x]).length : Int) = (pre.length : Int) + 1 by simp] at IH
   clear hs
   refine zj Tryz.func34 rfl rfl ?_
   simp (disch := ((try simp only [LL]); omega)) only [↓GO, ↓DRW, GA, GX, ren, zm, za, refs, z8, cst, zq, isC, bin, una, z6, zd, blt, asArg, zg, zc, zf, z1, E.mkS, unN, ze, zn, zb, GS, simprocAttr, GZ, c, zi, hget, q, zk, zD, IH]
theorem Qe (r : List Str) (s : Str) (hl : r.length ≤ 1048576) (hm : s ∈ r) : zo (EV Tryz.prog pol) 34 [.t (.list 1 (strs r)), .t (.str s)] = some (.t (.bool true)) := by
 have L := Ux r s hl r [] rfl hm
 simp only [List.length_nil, Int.natCast_zero] at L
 apply zw
 refine zy rfl Tryz.func34 rfl (by kernel_rfl) ?_
 unfold Tryz.f34
 simp (disch := ((try simp only [LL]); omega)) only [↓GO, ↓DRW, GA, GX, ren, zm, za, refs, z8, cst, zq, isC, bin, una, z6, zd, blt, asArg, zg, zc, zf, z1, E.mkS, unN, ze, zn, zb, GS, simprocAttr, GZ, L, zD]
theorem eD (r : List Str) (hl : r.length ≤ 1048576) : ∀ (rest pre : List Str) (x : Str), r = pre ++ x :: rest → rQ (x :: rest) →
 EV Tryz.prog pol (.loop 30 26 0 [.t (.list 1 (strs r)), .t (.int .i64 ((pre.length : Int) + 1))] []) = some (.loop (.exit 0) [.bad] [])
 | [], pre, x, hs, ha => by
  have c : decide ((pre.length : Int) + 1 < (r.length : Int)) = false := by simp [hs]
  refine zj Tryz.func30 rfl rfl ?_
  simp (disch := ((try simp only [LL]); omega)) only [↓GO, ↓DRW, GA, GX, ren, zm, za, refs, z8, cst, zq, isC, bin, una, z6, zd, blt, asArg, zg, zc, zf, z1, E.mkS, unN, ze, zn, zb, GS, simprocAttr, GZ, c, zi, zD]
 | y :: rest, pre, x, hs, ha => by
  have c : decide ((pre.length : Int) + 1 < (r.length : Int)) = true := by simp [hs]; omega
  have hget : (strs r)[pre.length]? = some [.str x] := by rw [hs]; exact xl pre x (y :: rest)
  have hget2 : (strs r)[pre.length + 1]? = some [.str y] := by
   have := xl (pre ++ [x]) y rest
   rw [show pre ++ [x] ++ y :: rest = r by rw [hs]; simp, show (pre ++ [x]).length = pre.length + 1 by simp] at this
   exact this
  have hlen : pre.length + rest.length + 2 ≤ r.length := by rw [hs]; simp; omega
  have q : Op.bytesLess x y = true := (List.pairwise_cons.1 ha).1 y (by simp)
  have IH := eD r hl rest (pre ++ [x]) y (by rw [hs]; simp) (List.pairwise_cons.1 ha).2
  rw [show ((pre ++ [x]).length : Int) = (pre.length : Int) + 1 by simp] at IH
  have e1 : ((pre.length : Int) + 1 - 1) = (pre.length : Int) := by omega
  have e2 : ((pre.length : Int) + 1).toNat = pre.length + 1 := by omega
  have hgE : uH (strs r) ((pre.length : Int) + 1) = some [T.str y] := by
   rw [show ((pre.length : Int) + 1) = ((pre.length + 1 : Nat) : Int) by omega]; unfold uH; simp [hget2]; omega
  have c0 : decide ((0 : Int) ≤ (pre.length : Int)) = true := by apply decide_eq_true; omega
  have c1 : decide ((pre.length : Int) < (r.length : Int)) = true := by apply decide_eq_true; omega
  have c2 : decide ((0 : Int) ≤ (pre.length : Int) + 1) = true := by apply decide_eq_true; omega
  clear hs
  refine zj Tryz.func30 rfl rfl ?_
  simp (disch := ((try simp only [LL]); omega)) only [↓GO, ↓DRW, GA, GX, ren, zm, za, refs, z8, cst, zq, isC, bin, una, z6, zd, blt, asArg, zg, zc, zf, z1, E.mkS, unN, ze, zn, zb, GS, simprocAttr, GZ, c, c0, c1, c2, e1, e2, zi, hget, hget2, hgE, q, Bool.not_true, zk, zD, IH]
theorem Wv (r : List Str) (hl : r.length ≤ 1048576) (ha : rQ r) : zo (EV Tryz.prog pol) 30 [.t (.list 1 (strs r))] = some (.t (.bool true)) := by
 have L : EV Tryz.prog pol (.loop 30 26 0 [.t (.list 1 (strs r)), .t (.int .i64 1)] []) = some (.loop (.exit 0) [.bad] []) := by
  cases r with
  | nil =>
   refine zj Tryz.func30 rfl rfl ?_
   simp (disch := ((try simp only [LL]); omega)) only [↓GO, ↓DRW, GA, GX, ren, zm, za, refs, z8, cst, zq, isC, bin, una, z6, zd, blt, asArg, zg, zc, zf, z1, E.mkS, unN, ze, zn, zb, GS, simprocAttr, GZ, zD, strs, List.map_nil]
  | cons x rest =>
   have := eD (x :: rest) hl rest [] x rfl ha
   simp only [List.length_nil, Int.natCast_zero, Int.zero_add] at this
   exact this
 apply zw
 refine zy rfl Tryz.func30 rfl (by kernel_rfl) ?_
 unfold Tryz.f30
 simp (disch := ((try simp only [LL]); omega)) only [↓GO, ↓DRW, GA, GX, ren, zm, za, refs, z8, cst, zq, isC, bin, una, z6, zd, blt, asArg, zg, zc, zf, z1, E.mkS, unN, ze, zn, zb, GS, simprocAttr, GZ, L, zD]
theorem aT (x : z7) (hl : x.sums.length ≤ 1048576) : ∀ (rest pre : List zC), x.sums = pre ++ rest →
 EV Tryz.prog pol (.loop 82 58 0 [.ptr 0 0 0, .ptr 1 0 0, .t (.int .i64 (pre.length : Int))] [.vs 6 [x.enc.map .t], .vs 6 [x.enc.map .t]]) = some (.loop (.exit 0) [.bad] [])
 | [], pre, hs => by
  have c : decide ((pre.length : Int) < (x.sums.length : Int)) = false := by simp [hs]
  have hsl := zC.zu x.sums
  obtain ⟨name, version, source, sums, dev, zr⟩ := x
  simp only [z7.enc, List.map_cons, List.map_nil] at *
  clear hs
  generalize zC.zh sums = E0 at *
  refine zj Tryz.func82 rfl rfl ?_
  simp (disch := ((try simp only [LL]); omega)) only [↓GO, ↓DRW, GA, GX, ren, zm, za, refs, z8, cst, zq, isC, bin, una, z6, zd, blt, asArg, zg, zc, zf, z1, E.mkS, unN, ze, zn, zb, GS, simprocAttr, GZ, c, hsl, zD]
 | y :: rest, pre, hs => by
  have c : decide ((pre.length : Int) < (x.sums.length : Int)) = true := by simp [hs]; omega
  have hget : (zC.zh x.sums)[pre.length]? = some [.str y.alg, .str y.bytes] := by rw [hs]; unfold zC.zh; simp [zC.enc]
  have hlen : pre.length + rest.length + 1 ≤ x.sums.length := by rw [hs]; simp; omega
  have hsl := zC.zu x.sums
  have IH := aT x hl rest (pre ++ [y]) (by rw [hs]; simp)
  rw [show ((pre ++ [y]).length : Int) = (pre.length : Int) + 1 by simp] at IH
  obtain ⟨name, version, source, sums, dev, zr⟩ := x
  simp only [z7.enc, List.map_cons, List.map_nil] at *
  clear hs
  generalize zC.zh sums = E0 at *
  refine zj Tryz.func82 rfl rfl ?_
  simp (disch := ((try simp only [LL]); omega)) only [↓GO, ↓DRW, GA, GX, ren, zm, za, refs, z8, cst, zq, isC, bin, una, z6, zd, blt, asArg, zg, zc, zf, z1, E.mkS, unN, ze, zn, zb, GS, simprocAttr, GZ, c, hsl, hget, bne_self_eq_false, beq_self_eq_true, bne, Bool.not_true, zk, zD, IH]
theorem Si (x : z7) (hb : x.y7 ≤ 1048576) : zo (EV Tryz.prog pol) 82 [.agg (x.enc.map .t), .agg (x.enc.map .t)] = some (.t (.bool true)) := by
 have L := aT x (by simp only [z7.y7] at hb; omega) x.sums [] rfl
 have d1 := nA x.zr (by simp only [z7.y7] at hb; omega)
 have hsl := zC.zu x.sums
 have c1 : ((x.sums.length : Int) != (x.sums.length : Int)) = false := by simp
 simp only [List.length_nil, Int.natCast_zero] at L
 obtain ⟨name, version, source, sums, dev, zr⟩ := x
 simp only [z7.enc, List.map_cons, List.map_nil] at *
 generalize zC.zh sums = E0 at *
 apply zw
 refine zy rfl Tryz.func82 rfl (by kernel_rfl) ?_
 unfold Tryz.f82
 simp (disch := ((try simp only [LL]); omega)) only [↓GO, ↓DRW, GA, GX, ren, zm, za, refs, z8, cst, zq, isC, bin, una, z6, zd, blt, asArg, zg, zc, zf, z1, E.mkS, unN, ze, zn, zb, GS, simprocAttr, GZ, L, d1, hsl, c1, bne_self_eq_false, beq_self_eq_true, bne, Bool.not_true, Bool.xor_self, zD]
theorem Ut (g : zz) (hB : GB g) : ∀ (rest pre : List z7), g.packs = pre ++ rest →
 EV Tryz.prog pol (.loop 28 58 0 [.ptr 0 0 0, .ptr 1 0 0, .t (.int .i64 (pre.length : Int))] [.vs 2 [g.enc.map .t], .vs 2 [g.enc.map .t]]) = some (.loop (.exit 0) [.bad] [])
 | [], pre, hs => by
  have c : decide ((pre.length : Int) < (g.packs.length : Int)) = false := by simp [hs]
  simp only [zz.enc, List.map_cons, List.map_nil]
  refine zj Tryz.func28 rfl rfl ?_
  simp (disch := ((try simp only [LL]); omega)) only [↓GO, ↓DRW, GA, GX, ren, zm, za, refs, z8, cst, zq, isC, bin, una, z6, zd, blt, asArg, zg, zc, zf, z1, E.mkS, unN, ze, zn, zb, GS, simprocAttr, GZ, c, z7.zu, zD]
 | x :: rest, pre, hs => by
  obtain ⟨b1, b2, b3⟩ := hB.len
  have c : decide ((pre.length : Int) < (g.packs.length : Int)) = true := by simp [hs]; omega
  have hget : (z7.zh g.packs)[pre.length]? = some x.enc := by rw [hs]; exact r9 z7.enc pre x rest
  have hlen : pre.length + rest.length + 1 ≤ g.packs.length := by rw [hs]; simp; omega
  have hk := Si x (b3 x (by rw [hs]; simp))
  have IH := Ut g hB rest (pre ++ [x]) (by rw [hs]; simp)
  rw [show ((pre ++ [x]).length : Int) = (pre.length : Int) + 1 by simp] at IH
  clear hs
  simp only [zz.enc, z7.enc, List.map_cons, List.map_nil] at hget hk IH ⊢
  refine zj Tryz.func28 rfl rfl ?_
  simp (disch := ((try simp only [LL]); omega)) only [↓GO, ↓DRW, GA, GX, ren, zm, za, refs, z8, cst, zq, isC, bin, una, z6, zd, blt, asArg, zg, zc, zf, z1, E.mkS, unN, ze, zn, zb, GS, simprocAttr, GZ, c, z7.zu, hget, hk, Bool.not_true, zk, zD, IH]
theorem Q4 (g : zz) (hB : GB g) : zo (EV Tryz.prog pol) 28 [.agg (g.enc.map .t), .agg (g.enc.map .t)] = some (.t (.bool true)) := by
 have L := Ut g hB g.packs [] rfl
 obtain ⟨b1, b2, b3⟩ := hB.len
 have d1 := nA g.top (by omega)
 have c1 : ((g.packs.length : Int) != (g.packs.length : Int)) = false := by simp
 simp only [List.length_nil, Int.natCast_zero] at L
 simp only [zz.enc, List.map_cons, List.map_nil] at L ⊢
 apply zw
 refine zy rfl Tryz.func28 rfl (by kernel_rfl) ?_
 unfold Tryz.f28
 simp (disch := ((try simp only [LL]); omega)) only [↓GO, ↓DRW, GA, GX, ren, zm, za, refs, z8, cst, zq, isC, bin, una, z6, zd, blt, asArg, zg, zc, zf, z1, E.mkS, unN, ze, zn, zb, GS, simprocAttr, GZ, L, d1, c1, z7.zu, bne_self_eq_false, beq_self_eq_true, bne, Bool.not_true, zD]
end Go.Proofs.YtonbkdklidfmfaaGreatDoor
/- Graphs copied by the implementation. Conditions: those of each lemma. -/
namespace Go.Proofs.YtonbkdklidfmfaaGreatDoor
open E
set_option linter.unusedSimpArgs false
set_option linter.unusedVariables false
set_option maxRecDepth 100000
theorem UE (top : List Str) (cs : List z7) (hl : cs.length ≤ 1048576) (hkl : top.length ≤ 1048576) (hb : ∀ c ∈ cs, c.y7 ≤ 1048576) : ∀ (rest pre : List z7) (m : Nat), cs = pre ++ rest → m = pre.length →
 EV Tryz.prog pol (.loop 45 58 0 [.ptr 0 0 0, .ptr 1 0 0, .t (.list 6 (z7.zh cs)), .t (.int .i64 (cs.length : Int)), .t (.int .i64 (pre.length : Int))] [.vs 2 [zG], .vs 2 [[.sl 2 0 top.length none, .sl 3 0 m none]], .ts 1 (strs top), .vs 6 (ocE (z7.zh pre))])
  = some (.loop (.exit 0) [.ptr 0 0 0, .ptr 1 0 0] [.vs 2 [zG], .vs 2 [[.sl 2 0 top.length none, .sl 3 0 cs.length none]], .ts 1 (strs top), .vs 6 (ocE (z7.zh cs))])
 | [], pre, m, hs, hm => by
  have c : decide ((pre.length : Int) < (cs.length : Int)) = false := by simp [hs]
  have e : cs = pre := by simpa using hs
  simp only [zG]
  refine zj Tryz.func45 rfl rfl ?_
  simp (disch := ((try simp only [LL]); omega)) only [↓GO, ↓DRW, GA, GX, ren, zm, za, refs, z8, cst, zq, isC, bin, una, z6, zd, blt, asArg, zg, zc, zf, z1, E.mkS, unN, ze, zn, zb, GS, simprocAttr, zH, zI, x8, yX, x6, x5, x9, gh1, yW, yN, yQ, zW, mkO, yC, yr, yt, mvC, unO, ye, x7, yZ, yU, zN, yV, yT, y8, oc, oTs, oT, zS, zS.rowTs, yP, isL, Bool.not_false, Bool.true_and, Bool.and_true, Bool.and_self, List.flatMap_append, List.map_append, List.set_cons_zero, List.set_cons_succ, GZ, c, z7.zu, wa, xH, zD]
  rw [hm, ← e]
 | x :: rest, pre, m, hs, hm => by
  have c : decide ((pre.length : Int) < (cs.length : Int)) = true := by simp [hs]; omega
  have c0 : decide ((0 : Int) ≤ (pre.length : Int)) = true := by simp
  have hget : (z7.zh cs)[pre.length]? = some x.enc := by rw [hs]; simp [z7.zh]
  have hlen : pre.length + rest.length + 1 ≤ cs.length := by rw [hs]; simp; omega
  have hbx := hb x (by rw [hs]; simp)
  have IH := UE top cs hl hkl hb rest (pre ++ [x]) (m + 1) (by rw [hs]; simp) (by simp [hm])
  rw [q7, TE, show ((pre ++ [x]).length : Int) = (pre.length : Int) + 1 by simp] at IH
  have hol : (ocE (z7.zh pre)).length = m := by rw [yA, z7.zu, hm]
  have hml : m ≤ 1048576 := by omega
  have hA := xH (z7.zh pre)
  have hR := fun r => wa r (z7.zh pre)
  have hm1 : m + 1 - 1 = m := by omega
  have hm0 : ¬ (m + 1 = 0) := by omega
  clear hs
  obtain ⟨name, version, source, sums, dev, zr⟩ := x
  simp only [z7.y7] at hbx
  have d1 := dz (zC.zh sums) (by rw [zC.zu]; omega)
  have d2 := tc (strs zr) (by rw [zi]; omega)
  rw [zC.zu] at d1
  rw [zi] at d2
  have hf1 := xc sums
  have hf2 := yB zr
  have hg1 := fun y => vI (ocE (z7.zh pre)) [] y m hol
  have hs1 := fun y z => vl (ocE (z7.zh pre)) [] y z m hol
  have hle : ∀ y : List V, (ocE (z7.zh pre) ++ [y]).length = m + 1 := fun y => by simp [hol]
  simp only [z7.enc, List.map_cons, List.map_nil, zG, sw, TD, oc] at hget IH ⊢
  generalize ocE (z7.zh pre) = A at *
  refine zj Tryz.func45 rfl rfl ?_
  simp (disch := ((try simp only [LL]); omega)) only [↓GO, ↓DRW, GA, GX, ren, zm, za, refs, z8, cst, zq, isC, bin, una, z6, zd, blt, asArg, zg, zc, zf, z1, E.mkS, unN, ze, zn, zb, GS, simprocAttr, zH, zI, x8, yX, x6, x5, x9, gh1, yW, yN, yQ, zW, mkO, yC, yr, yt, mvC, unO, ye, x7, yZ, yU, zN, yV, yT, y8, oc, oTs, oT, zS, zS.rowTs, yP, isL, Bool.not_false, Bool.true_and, Bool.and_true, Bool.and_self, List.flatMap_append, List.map_append, List.set_cons_zero, List.set_cons_succ, GZ, c, c0, z7.zu, zC.zu, hget, d1, d2, zk, hol, hA, hR, hm1, hm0, if_false, hg1, hs1, hle, hf1, hf2, zi, yA, wa, xH, IH, zD, ya]
  refine zQ (by kernel_rfl) ?_
  rfl
theorem mE (top : List Str) (hkl : top.length ≤ 1048576) :
 EV Tryz.prog pol (.callO false 45 [.agg [.t (.list 1 (strs top)), .t (.list 6 [])]] []) = some (.call (.agg [.sl 0 0 top.length none, .nil 6]) [.ts 1 (strs top)]) := by
 have L : EV Tryz.prog pol (.loop 45 58 0 [.ptr 0 0 0, .ptr 1 0 0, .t (.list 6 []), .t (.int .i64 0), .t (.int .i64 0)] [.vs 2 [zG], .vs 2 [[.sl 2 0 top.length none, .nil 6]], .ts 1 (strs top)])
  = some (.loop (.exit 0) [.ptr 0 0 0, .ptr 1 0 0] [.vs 2 [zG], .vs 2 [[.sl 2 0 top.length none, .nil 6]], .ts 1 (strs top)]) := by
  simp only [zG]
  refine zj Tryz.func45 rfl rfl ?_
  simp (disch := ((try simp only [LL]); omega)) only [↓GO, ↓DRW, GA, GX, ren, zm, za, refs, z8, cst, zq, isC, bin, una, z6, zd, blt, asArg, zg, zc, zf, z1, E.mkS, unN, ze, zn, zb, GS, simprocAttr, zH, zI, x8, yX, x6, x5, x9, gh1, yW, yN, yQ, zW, mkO, yC, yr, yt, mvC, unO, ye, x7, yZ, yU, zN, yV, yT, y8, oc, oTs, oT, zS, zS.rowTs, yP, isL, Bool.not_false, Bool.true_and, Bool.and_true, Bool.and_self, List.flatMap_append, List.map_append, List.set_cons_zero, List.set_cons_succ, GZ, zD]
 have d2 := tc (strs top) (by rw [zi]; omega)
 rw [zi] at d2
 simp only [zG] at L
 refine zJ Tryz.func45 rfl (by kernel_rfl) ?_
 unfold Tryz.f45
 simp (disch := ((try simp only [LL]); omega)) only [↓GO, ↓DRW, GA, GX, ren, zm, za, refs, z8, cst, zq, isC, bin, una, z6, zd, blt, asArg, zg, zc, zf, z1, E.mkS, unN, ze, zn, zb, GS, simprocAttr, zH, zI, x8, yX, x6, x5, x9, gh1, yW, yN, yQ, zW, mkO, yC, yr, yt, mvC, unO, ye, x7, yZ, yU, zN, yV, yT, y8, oc, oTs, oT, zS, zS.rowTs, yP, isL, Bool.not_false, Bool.true_and, Bool.and_true, Bool.and_self, List.flatMap_append, List.map_append, List.set_cons_zero, List.set_cons_succ, GZ, d2, L, List.length_nil, Int.natCast_zero, zi, zD, ya]
theorem n7 (top : List Str) (x : z7) (rest : List z7) (hkl : top.length ≤ 1048576) (hl : (x :: rest).length ≤ 1048576) (hb : ∀ c ∈ x :: rest, c.y7 ≤ 1048576) :
 EV Tryz.prog pol (.callO false 45 [.agg [.t (.list 1 (strs top)), .t (.list 6 (z7.zh (x :: rest)))]] []) = some (.call (.agg [.sl 0 0 top.length none, .sl 1 0 (x :: rest).length none]) [.ts 1 (strs top), .vs 6 (ocE (z7.zh (x :: rest)))]) := by
 have hbx := hb x (by simp)
 have L := UE top (x :: rest) (by omega) (by omega) hb rest [x] 1 rfl rfl
 have L0 : EV Tryz.prog pol (.loop 45 58 0 [.ptr 0 0 0, .ptr 1 0 0, .t (.list 6 (z7.zh (x :: rest))), .t (.int .i64 ((x :: rest).length : Int)), .t (.int .i64 0)] [.vs 2 [zG], .vs 2 [[.sl 2 0 top.length none, .nil 6]], .ts 1 (strs top)])
  = some (.loop (.exit 0) [.ptr 0 0 0, .ptr 1 0 0] [.vs 2 [zG], .vs 2 [[.sl 2 0 top.length none, .sl 3 0 (x :: rest).length none]], .ts 1 (strs top), .vs 6 (ocE (z7.zh (x :: rest)))]) := by
  have c : decide ((0 : Int) < ((x :: rest).length : Int)) = true := by apply decide_eq_true; simp only [List.length_cons]; omega
  have hget : (z7.zh (x :: rest))[0]? = some x.enc := rfl
  rw [show ocE (z7.zh [x]) = [x.enc.map oc] from rfl] at L
  obtain ⟨name, version, source, sums, dev, zr⟩ := x
  simp only [z7.y7] at hbx
  have d1 := dz (zC.zh sums) (by rw [zC.zu]; omega)
  have d2 := tc (strs zr) (by rw [zi]; omega)
  rw [zC.zu] at d1
  rw [zi] at d2
  have hf1 := xc sums
  have hf2 := yB zr
  simp only [z7.enc, List.map_cons, List.map_nil, zG, List.length_cons, List.length_nil, Nat.zero_add, oc, Int.natCast_one] at hget L ⊢
  generalize hcs : z7.mk name version source sums dev zr :: rest = cs at *
  simp only [← List.length_cons (a := z7.mk name version source sums dev zr), hcs] at *
  refine zj Tryz.func45 rfl rfl ?_
  simp (disch := ((try simp only [LL]); omega)) only [↓GO, ↓DRW, GA, GX, ren, zm, za, refs, z8, cst, zq, isC, bin, una, z6, zd, blt, asArg, zg, zc, zf, z1, E.mkS, unN, ze, zn, zb, GS, simprocAttr, zH, zI, x8, yX, x6, x5, x9, gh1, yW, yN, yQ, zW, mkO, yC, yr, yt, mvC, unO, ye, x7, yZ, yU, zN, yV, yT, y8, oc, oTs, oT, zS, zS.rowTs, yP, isL, Bool.not_false, Bool.true_and, Bool.and_true, Bool.and_self, List.flatMap_append, List.map_append, List.set_cons_zero, List.set_cons_succ, GZ, c, z7.zu, zC.zu, vP, hget, d1, d2, zk, Int.reduceAdd, if_false, hf1, hf2, L, zi, zD, ya, List.length_nil, Int.natCast_zero]
  refine zQ (by kernel_rfl) ?_
  rfl
 have d2 := tc (strs top) (by rw [zi]; omega)
 rw [zi] at d2
 clear L
 generalize x :: rest = cs at *
 simp only [zG] at L0
 refine zJ Tryz.func45 rfl (by kernel_rfl) ?_
 unfold Tryz.f45
 simp (disch := ((try simp only [LL]); omega)) only [↓GO, ↓DRW, GA, GX, ren, zm, za, refs, z8, cst, zq, isC, bin, una, z6, zd, blt, asArg, zg, zc, zf, z1, E.mkS, unN, ze, zn, zb, GS, simprocAttr, zH, zI, x8, yX, x6, x5, x9, gh1, yW, yN, yQ, zW, mkO, yC, yr, yt, mvC, unO, ye, x7, yZ, yU, zN, yV, yT, y8, oc, oTs, oT, zS, zS.rowTs, yP, isL, Bool.not_false, Bool.true_and, Bool.and_true, Bool.and_self, List.flatMap_append, List.map_append, List.set_cons_zero, List.set_cons_succ, GZ, d2, L0, zi, z7.zu, wa, xH, zD, ya]
end Go.Proofs.YtonbkdklidfmfaaGreatDoor
/- What is reached is closed; graphs pruned, plain: both ways come to the same. Conditions: none. -/
namespace Go.Proofs.YtonbkdklidfmfaaGreatDoor
open E
set_option linter.unusedVariables false
set_option linter.unusedSimpArgs false
set_option maxRecDepth 100000
theorem pe (l : List Str) (s : Str) : yg l s = true ↔ s ∈ l := by simp [yg]
theorem vQ (ps : List z7) (k : Str) : kb ps k = (yG ps k).isSome := by
 unfold yG
 have h := qZ (fun p => keyOf p == k) ps 0
 unfold kb
 rw [← h]
 show (tW ps k).isSome = _
 cases hk : tW ps k with
 | none => rfl
 | some i =>
  obtain ⟨q, h1, _⟩ := o0 hk
  simp only [Option.isSome_some, h1]
theorem vV (ps : List z7) : ∀ (n : Nat) (out w : List Str), w.length + muS ps out ≤ n →
 (∀ k ∈ out, k ∈ y9 xp ps n out w) ∧ (∀ k ∈ w, (yG ps k).isSome = true → k ∈ y9 xp ps n out w) ∧
 ((∀ k p m, k ∈ out → yG ps k = some p → m ∈ p.zr → (yG ps m).isSome = true → m ∈ out ∨ m ∈ w) →
  ∀ k p m, k ∈ y9 xp ps n out w → yG ps k = some p → m ∈ p.zr → (yG ps m).isSome = true → m ∈ y9 xp ps n out w)
 | 0, out, w, hn => by
  have hw : w = [] := List.eq_nil_of_length_eq_zero (by omega)
  subst hw
  rw [y9]
  exact ⟨fun k h => h, fun k h => by simp at h, fun hc k p m h1 h2 h3 h4 => (hc k p m h1 h2 h3 h4).elim id fun h => by simp at h⟩
 | n + 1, out, [], hn => by
  rw [y9]
  exact ⟨fun k h => h, fun k h => by simp at h, fun hc k p m h1 h2 h3 h4 => (hc k p m h1 h2 h3 h4).elim id fun h => by simp at h⟩
 | n + 1, out, k0 :: w, hn => by
  simp only [List.length_cons] at hn
  rw [y9]
  cases hf : yG ps k0 with
  | none =>
   obtain ⟨i1, i2, i3⟩ := vV ps n out w (by omega)
   refine ⟨i1, fun k hk hs => ?_, fun hc => i3 fun k p m h1 h2 h3 h4 => ?_⟩
   · rcases List.mem_cons.1 hk with rfl | hk
     · rw [hf] at hs; cases hs
     · exact i2 k hk hs
   · rcases hc k p m h1 h2 h3 h4 with h | h
     · exact .inl h
     · rcases List.mem_cons.1 h with rfl | h
       · rw [hf] at h4; cases h4
       · exact .inr h
  | some p0 =>
   simp only
   cases hc0 : yg out k0 with
   | true =>
    have hin := (pe out k0).1 hc0
    obtain ⟨i1, i2, i3⟩ := vV ps n out w (by omega)
    rw [cond_true]
    refine ⟨i1, fun k hk hs => ?_, fun hc => i3 fun k p m h1 h2 h3 h4 => ?_⟩
    · rcases List.mem_cons.1 hk with rfl | hk
      · exact i1 _ hin
      · exact i2 k hk hs
    · rcases hc k p m h1 h2 h3 h4 with h | h
      · exact .inl h
      · rcases List.mem_cons.1 h with rfl | h
        · exact .inl hin
        · exact .inr h
   | false =>
    obtain ⟨hp, hkp, _⟩ := wk hf
    have hmu := qT k0 out (xp out k0) (pf out k0) hc0 ps p0 hp hkp
    obtain ⟨i1, i2, i3⟩ := vV ps n (xp out k0) (w ++ p0.zr) (by rw [List.length_append]; omega)
    rw [cond_false]
    refine ⟨fun k hk => i1 k ((vw out k0 k).2 (.inl hk)), fun k hk hs => ?_, fun hc => i3 fun k p m h1 h2 h3 h4 => ?_⟩
    · rcases List.mem_cons.1 hk with rfl | hk
      · exact i1 _ ((vw out _ _).2 (.inr rfl))
      · exact i2 k (List.mem_append.2 (.inl hk)) hs
    · rcases (vw out k0 k).1 h1 with h1 | rfl
      · rcases hc k p m h1 h2 h3 h4 with h | h
        · exact .inl ((vw out k0 m).2 (.inl h))
        · rcases List.mem_cons.1 h with rfl | h
          · exact .inl ((vw out _ _).2 (.inr rfl))
          · exact .inr (List.mem_append.2 (.inl h))
      · rw [hf] at h2
        cases h2
        exact .inr (List.mem_append.2 (.inr h3))
theorem vU (ps : List z7) (w : List Str) : ∀ k ∈ w, (yG ps k).isSome = true → k ∈ zU ps w := (vV ps (w.length + muS ps []) [] w (Nat.le_refl _)).2.1
theorem vd (ps : List z7) (w : List Str) : ∀ k p m, k ∈ zU ps w → yG ps k = some p → m ∈ p.zr → (yG ps m).isSome = true → m ∈ zU ps w :=
 (vV ps (w.length + muS ps []) [] w (Nat.le_refl _)).2.2 fun k p m h => by simp at h
theorem qj (a s : Str) : wL (some a) s = Op.bytesLess a s := rfl
theorem oD (ps : List z7) : ∀ (o : Option Str) (l : List z7), xF ps o l = true → (l.Pairwise fun x y => Op.bytesLess (keyOf x) (keyOf y) = true) ∧ ∀ p ∈ l, wL o (keyOf p) = true
 | o, [], _ => ⟨List.Pairwise.nil, fun p hp => by simp at hp⟩
 | o, p :: r, h => by
  rw [xF] at h
  simp only [Bool.and_eq_true] at h
  obtain ⟨⟨_, h1, _⟩, h2⟩ := h
  obtain ⟨k1, k2⟩ := oD ps (some (keyOf p)) r h2
  refine ⟨List.pairwise_cons.2 ⟨fun q hq => by have := k2 q hq; rwa [qj] at this, k1⟩, fun q hq => ?_⟩
  rcases List.mem_cons.1 hq with rfl | hq
  · exact h1
  · have h3 := k2 q hq
    rw [qj] at h3
    cases o with
    | none => rfl
    | some a => rw [qj] at h1 ⊢; exact xT h1 h3
def jE (l : List z7) : Prop := l.Pairwise fun x y => Op.bytesLess (keyOf x) (keyOf y) = true
theorem jE.key : ∀ {l : List z7}, jE l → ∀ p ∈ l, ∀ q ∈ l, keyOf p = keyOf q → p = q
 | [], _, p, hp, q, hq, e => by simp at hp
 | x :: r, h, p, hp, q, hq, e => by
  obtain ⟨h1, h2⟩ := List.pairwise_cons.1 h
  rcases List.mem_cons.1 hp with rfl | hp <;> rcases List.mem_cons.1 hq with rfl | hq
  · rfl
  · have := h1 q hq; rw [e, wQ] at this; cases this
  · have := h1 p (by assumption); rw [e, wQ] at this; cases this
  · exact jE.key h2 p hp q hq e
theorem sf {g : zz} (h : zZ g = true) : jE g.packs := by
 unfold zZ at h
 simp only [Bool.and_eq_true] at h
 exact (oD g.packs none g.packs h.1).1
theorem tB {ps : List z7} (h : jE ps) {p : z7} (hp : p ∈ ps) : yG ps (keyOf p) = some p := by
 have hs : (yG ps (keyOf p)).isSome = true := by
  rw [← vQ]
  unfold kb
  rw [List.any_eq_true]
  exact ⟨p, hp, by simp⟩
 obtain ⟨q, hq⟩ := Option.isSome_iff_exists.1 hs
 obtain ⟨h1, h2, _⟩ := wk hq
 rw [hq, h.key q h1 p hp h2]
def na (keys : List Str) (p : z7) : z7 := ⟨p.name, p.version, p.source, p.sums, p.dev, p.zr.filter (yg keys)⟩
def xV (keys : List Str) (ps : List z7) : List z7 := (ps.filter fun p => yg keys (keyOf p)).map (na keys)
def ZK (g : zz) (keys : List Str) : zz := ⟨g.top.filter (yg keys), xV keys g.packs⟩
def xE (keys : List Str) (ps : List z7) : List z7 := ps.filter fun p => yg keys (keyOf p)
def yO (g : zz) : zz := cond (zZ g) ⟨g.top, xE (zU g.packs g.top) g.packs⟩ g
theorem filter_all {α : Type} (f : α → Bool) : ∀ l : List α, (∀ x ∈ l, f x = true) → l.filter f = l := fun l h => List.filter_eq_self.2 h
theorem cj {g : zz} (h : zZ g = true) : ZK g (zU g.packs g.top) = yO g := by
 have hasc := sf h
 have hpk := ve h
 have htop : ∀ k ∈ g.top, kb g.packs k = true := by
  have h' := h
  unfold zZ at h'
  simp only [Bool.and_eq_true] at h'
  exact (wW g.packs none g.top h'.2.2).2.1
 unfold yO ZK
 rw [h, cond_true]
 congr 1
 · refine filter_all _ _ fun k hk => ?_
   rw [pe]
   exact vU _ _ k hk (by rw [← vQ]; exact htop k hk)
 · unfold xV xE
   conv => rhs; rw [← List.map_id (g.packs.filter _)]
   refine List.map_congr_left fun p hp => ?_
   obtain ⟨hp1, hp2⟩ := List.mem_filter.1 hp
   have e : p.zr.filter (yg (zU g.packs g.top)) = p.zr := filter_all _ _ fun k hk => by
    rw [pe] at hp2 ⊢
    refine vd _ _ (keyOf p) p k hp2 (tB hasc hp1) hk ?_
    rw [← vQ]
    exact (wW g.packs none p.zr (hpk p hp1).2).2.1 k hk
   unfold na
   rw [e]
   rfl
end Go.Proofs.YtonbkdklidfmfaaGreatDoor
/- What one reaches, by both. Conditions: those of each lemma. -/
namespace Go.Proofs.YtonbkdklidfmfaaGreatDoor
open E
set_option linter.unusedSimpArgs false
set_option linter.unusedVariables false
set_option maxRecDepth 100000
def snS (l : List Str) (s : Str) : List Str := l ++ [s]
theorem rY (add : List Str → Str → List Str) (ps : List z7) (n : Nat) (out : List Str) : y9 add ps n out [] = out := by cases n <;> rfl
theorem V2 {l : List Str} {s : Str} (h : yg l s = false) : (xp l s).length = l.length + 1 := by
 rw [(oe l s h).length_eq]; simp
theorem GB.zr {g : zz} (hB : GB g) {p : z7} (hp : p ∈ g.packs) : p.zr.length ≤ 1048576 := by
 obtain ⟨_, _, h3⟩ := hB.len
 have := h3 p hp
 simp only [z7.y7] at this; omega
theorem uK (ps : List z7) : ∀ (n : Nat) (out w : List Str), (y9 snS ps n out w).length ≤ out.length + uy ps out
 | 0, out, w => by rw [y9]; omega
 | n + 1, out, [] => by rw [rY]; omega
 | n + 1, out, k :: w => by
  rw [y9]
  cases hf : yG ps k with
  | none => exact uK ps n out w
  | some p =>
   obtain ⟨hp, hkp, _⟩ := wk hf
   simp only
   cases hc : yg out k with
   | true => exact uK ps n out w
   | false =>
    have h1 := tw k out (out ++ [k]) (o9 out k) hc ps p hp hkp
    have h2 := uK ps n (snS out k) (w ++ p.zr)
    rw [cond_false]
    unfold snS at h2 ⊢
    simp only [List.length_append, List.length_cons, List.length_nil] at h2
    omega
theorem ZN (g : zz) (hB : GB g) : ∀ (n : Nat) (out w : List Str) (es : List (List T)) (m off len : Nat) (cap cap2 : Option Nat), w.length + muS g.packs out ≤ n → n ≤ 4194304 → m = out.length → m + uy g.packs out ≤ 1048576 → len = w.length → es.drop off = strs w → off + len = es.length → ∃ cap',
 EV Tryz.prog pol (.loop 23 60 0 [.ptr 0 0 0, .sl 1 0 m cap, .sl 2 off len cap2] [.vs 2 [g.enc.map .t], .ts 1 (strs out), .ts 1 es])
  = some (.loop (.exit 0) [.sl 0 0 (y9 snS g.packs n out w).length cap'] [.ts 1 (strs (y9 snS g.packs n out w))])
 | n, out, [], es, m, off, len, cap, cap2, hn, hN, hm, hk, hl, hd, ho => by
  have c : decide ((len : Int) > 0) = false := by rw [hl]; rfl
  refine ⟨cap, ?_⟩
  rw [rY]
  clear hB
  obtain ⟨top, packs⟩ := g
  simp only [zz.enc, List.map_cons, List.map_nil]
  rw [← hm]
  refine zj Tryz.func23 rfl rfl ?_
  simp (disch := ((try simp only [LL]); omega)) only [↓GO, ↓DRW, GA, GX, ren, zm, za, refs, z8, cst, zq, isC, bin, una, z6, zd, blt, asArg, zg, zc, zf, z1, E.mkS, unN, ze, zn, zb, GS, simprocAttr, GZ, c, zD]
 | 0, out, k :: w, es, m, off, len, cap, cap2, hn, hN, hm, hk, hl, hd, ho => by simp at hn
 | n + 1, out, k :: w, es, m, off, len, cap, cap2, hn, hN, hm, hk, hl, hd, ho => by
  have c : decide ((len : Int) > 0) = true := by rw [hl]; simp
  have hoff : es[off]? = some [.str k] := by
   have : (es.drop off)[0]? = some [.str k] := by rw [hd]; rfl
   simpa using this
  have hd1 : es.drop (off + 1) = strs w := by
   rw [← List.drop_drop, hd]; rfl
  have hl1 : len - 1 = w.length := by rw [hl]; rfl
  have hl2 : 1 ≤ len := by rw [hl]; simp
  have hl3 : (1 : Int) ≤ (len : Int) := by omega
  have hsl : (strs out).length = m := by rw [zi, hm]
  have htk : (strs out).take m = strs out := List.take_of_length_le (by omega)
  have hml : m ≤ 1048576 := by omega
  have hll : len ≤ 4194304 := by simp only [List.length_cons] at hl hn; omega
  have d1 := iV g k hB
  have d2 := Rp out (by omega) k
  simp only [List.length_cons] at hn
  rw [y9]
  cases hf : yG g.packs k with
  | none =>
   rw [dc hf] at d1
   have c2 : decide ((-1 : Int) ≥ 0) = false := rfl
   simp only [ixI] at d1
   obtain ⟨cap', IH⟩ := ZN g hB n out w es m (off + 1) (len - 1) cap (cap2.map (· - 1)) (by omega) (by omega) hm hk hl1 hd1 (by omega)
   refine ⟨cap', ?_⟩
   simp only
   clear hB hf
   obtain ⟨top, packs⟩ := g
   simp only [zz.enc, List.map_cons, List.map_nil] at d1 IH ⊢
   generalize y9 snS packs n out w = Z at *
   refine zj Tryz.func23 rfl rfl ?_
   simp (disch := ((try simp only [LL]); omega)) only [↓GO, ↓DRW, GA, GX, ren, zm, za, refs, z8, cst, zq, isC, bin, una, z6, zd, blt, asArg, zg, zc, zf, z1, E.mkS, unN, ze, zn, zb, GS, simprocAttr, GZ, c, c2, hoff, d1, zD, IH]
  | some p =>
   obtain ⟨hp, hkp, i, hi, hpi⟩ := wk hf
   rw [hi] at d1
   have c2 : decide ((i : Int) ≥ 0) = true := by simp
   have hnl := hB.zr hp
   have hget : (z7.zh g.packs)[i]? = some p.enc := by unfold z7.zh; rw [List.getElem?_map, hpi]; rfl
   simp only
   cases hc : yg out k with
   | true =>
    rw [hc] at d2
    obtain ⟨cap', IH⟩ := ZN g hB n out w es m (off + 1) (len - 1) cap (cap2.map (· - 1)) (by omega) (by omega) hm hk hl1 hd1 (by omega)
    refine ⟨cap', ?_⟩
    rw [cond_true]
    clear hB hf
    obtain ⟨top, packs⟩ := g
    simp only [zz.enc, List.map_cons, List.map_nil, ixI] at d1 IH ⊢
    generalize y9 snS packs n out w = Z at *
    refine zj Tryz.func23 rfl rfl ?_
    simp (disch := ((try simp only [LL]); omega)) only [↓GO, ↓DRW, GA, GX, ren, zm, za, refs, z8, cst, zq, isC, bin, una, z6, zd, blt, asArg, zg, zc, zf, z1, E.mkS, unN, ze, zn, zb, GS, simprocAttr, GZ, c, c2, hoff, d1, d2, htk, zD, IH]
   | false =>
    rw [hc] at d2
    have h1 := qT k out (out ++ [k]) (o9 out k) hc g.packs p hp hkp
    have h2 := tw k out (out ++ [k]) (o9 out k) hc g.packs p hp hkp
    obtain ⟨cap', IH⟩ := ZN g hB n (out ++ [k]) (w ++ p.zr) (strs w ++ strs p.zr) (m + 1) 0 (w.length + p.zr.length) none none (by rw [List.length_append]; omega) (by omega) (by simp [hm]) (by omega) (by simp) (by simp [strs]) (by rw [List.length_append, zi, zi]; omega)
    have ho1 : off + 1 + w.length = es.length := by omega
    refine ⟨cap', ?_⟩
    rw [cond_false, show snS out k = out ++ [k] from rfl]
    rw [show strs (out ++ [k]) = strs out ++ [[.str k]] by simp [strs]] at IH
    clear hB hf h1 h2 hp hi hpi
    obtain ⟨top, packs⟩ := g
    obtain ⟨name, version, source, sums, dev, zr⟩ := p
    simp only [zz.enc, z7.enc, List.map_cons, List.map_nil, ixI] at d1 hget IH hnl ⊢
    generalize y9 snS packs n (out ++ [k]) (w ++ zr) = Z at *
    refine zj Tryz.func23 rfl rfl ?_
    simp (disch := ((try simp only [LL]); omega)) only [↓GO, ↓DRW, GA, GX, ren, zm, za, refs, z8, cst, zq, isC, bin, una, z6, zd, blt, asArg, zg, zc, zf, z1, E.mkS, unN, ze, zn, zb, GS, simprocAttr, GZ, c, c2, hoff, d1, d2, htk, hget, hsl, hd1, hl1, ho1, zi, zD, IH, ya]
theorem dO (g : zz) (hB : GB g) (w : List Str) (hw : w.length ≤ 1048576) (hg : zZ g = true) : zo (EV Tryz.prog pol) 23 [.agg (g.enc.map .t), .t (.list 1 (strs w))] = some (.t (.list 1 (strs (zU g.packs w)))) := by
 have d1 := qt g hB
 rw [hg] at d1
 have d2 := tc (strs w) (by rw [zi]; omega)
 rw [zi] at d2
 have h1 := mV g.packs
 have h2 := hB
 unfold GB zz.y7 at h2
 have h3 : uy g.packs [] ≤ g.packs.length := List.countP_le_length
 have h4 := hB.len
 obtain ⟨cap, L⟩ := ZN g hB (w.length + muS g.packs []) [] w (strs w) 0 0 w.length (some 0) none (Nat.le_refl _) (by omega) rfl (by omega) rfl rfl (by rw [zi]; omega)
 have e : wz (y9 snS g.packs (w.length + muS g.packs []) [] w) = zU g.packs w := nX g.packs _ w
 have hlen : (y9 snS g.packs (w.length + muS g.packs []) [] w).length ≤ 1073741824 := by
  have := uK g.packs (w.length + muS g.packs []) [] w
  simp only [List.length_nil] at this
  omega
 have d3 := Q3 _ hlen _ rfl cap
 rw [e] at d3
 have e2 : (y9 snS g.packs (w.length + muS g.packs []) [] w).length = (zU g.packs w).length := by rw [← e, pL]
 rw [e2] at L d3
 have ht : (strs (zU g.packs w)).take (zU g.packs w).length = strs (zU g.packs w) := by rw [← zi (zU g.packs w)]; simp
 rw [show strs [] = [] from rfl] at L
 clear hB h1 h2 h3 h4 e e2 hlen
 obtain ⟨top, packs⟩ := g
 simp only [zz.enc, List.map_cons, List.map_nil] at d1 d3 ht L ⊢
 generalize zU packs w = Z at *
 generalize y9 snS packs (w.length + muS packs []) [] w = Y at *
 apply zw
 refine zy rfl Tryz.func23 rfl (by kernel_rfl) ?_
 unfold Tryz.f23
 simp (disch := ((try simp only [LL]); omega)) only [↓GO, ↓DRW, GA, GX, ren, zm, za, refs, z8, cst, zq, isC, bin, una, z6, zd, blt, asArg, zg, zc, zf, z1, E.mkS, unN, ze, zn, zb, GS, simprocAttr, GZ, d1, d2, d3, L, ht, zD]
theorem Wy (g : zz) (hB : GB g) (w : List Str) (hg : zZ g = false) : zo (EV Tryz.prog pol) 23 [.agg (g.enc.map .t), .t (.list 1 (strs w))] = some (.t (.list 1 [])) := by
 have d1 := qt g hB
 rw [hg] at d1
 clear hB
 obtain ⟨top, packs⟩ := g
 simp only [zz.enc, List.map_cons, List.map_nil] at d1 ⊢
 apply zw
 refine zy rfl Tryz.func23 rfl (by kernel_rfl) ?_
 unfold Tryz.f23
 simp (disch := ((try simp only [LL]); omega)) only [↓GO, ↓DRW, GA, GX, ren, zm, za, refs, z8, cst, zq, isC, bin, una, z6, zd, blt, asArg, zg, zc, zf, z1, E.mkS, unN, ze, zn, zb, GS, simprocAttr, GZ, d1, zD]
theorem ZM (g : zz) (hB : GB g) (hg : zZ g = true) : ∀ (n : Nat) (out w : List Str) (es : List (List T)) (m off len : Nat) (cap cap2 : Option Nat), w.length + muS g.packs out ≤ n → n ≤ 4194304 → m = out.length → m + uy g.packs out ≤ 1048576 → len = w.length → es.drop off = strs w → off + len = es.length → ∃ cap',
 EV Tryz.prog pol (.loop 27 60 0 [.ptr 0 0 0, .sl 1 0 m cap, .sl 2 off len cap2] [.vs 2 [g.enc.map .t], .ts 1 (strs out), .ts 1 es])
  = some (.loop (.exit 0) [.sl 0 0 (y9 xp g.packs n out w).length cap'] [.ts 1 (strs (y9 xp g.packs n out w))])
 | n, out, [], es, m, off, len, cap, cap2, hn, hN, hm, hk, hl, hd, ho => by
  have c : decide ((len : Int) > 0) = false := by rw [hl]; rfl
  refine ⟨cap, ?_⟩
  rw [rY]
  clear hB hg
  obtain ⟨top, packs⟩ := g
  simp only [zz.enc, List.map_cons, List.map_nil]
  rw [← hm]
  refine zj Tryz.func27 rfl rfl ?_
  simp (disch := ((try simp only [LL]); omega)) only [↓GO, ↓DRW, GA, GX, ren, zm, za, refs, z8, cst, zq, isC, bin, una, z6, zd, blt, asArg, zg, zc, zf, z1, E.mkS, unN, ze, zn, zb, GS, simprocAttr, GZ, c, zD]
 | 0, out, k :: w, es, m, off, len, cap, cap2, hn, hN, hm, hk, hl, hd, ho => by simp at hn
 | n + 1, out, k :: w, es, m, off, len, cap, cap2, hn, hN, hm, hk, hl, hd, ho => by
  have c : decide ((len : Int) > 0) = true := by rw [hl]; simp
  have hoff : es[off]? = some [.str k] := by
   have : (es.drop off)[0]? = some [.str k] := by rw [hd]; rfl
   simpa using this
  have hd1 : es.drop (off + 1) = strs w := by
   rw [← List.drop_drop, hd]; rfl
  have hl1 : len - 1 = w.length := by rw [hl]; rfl
  have hl2 : 1 ≤ len := by rw [hl]; simp
  have hl3 : (1 : Int) ≤ (len : Int) := by omega
  have hsl : (strs out).length = m := by rw [zi, hm]
  have htk : (strs out).take m = strs out := List.take_of_length_le (by omega)
  have hml : m ≤ 1048576 := by omega
  have hll : len ≤ 4194304 := by simp only [List.length_cons] at hl hn; omega
  have d0 := lz g hB
  rw [hg] at d0
  have d1 := iU g k hB
  have d2 := ZU out (by omega) k
  simp only [List.length_cons] at hn
  rw [y9]
  cases hf : yG g.packs k with
  | none =>
   rw [dc hf] at d1
   have c2 : decide ((-1 : Int) < 0) = true := rfl
   simp only [ixI] at d1
   obtain ⟨cap', IH⟩ := ZM g hB hg n out w es m (off + 1) (len - 1) cap (cap2.map (· - 1)) (by omega) (by omega) hm hk hl1 hd1 (by omega)
   refine ⟨cap', ?_⟩
   simp only
   clear hB hf hg
   obtain ⟨top, packs⟩ := g
   simp only [zz.enc, List.map_cons, List.map_nil] at d0 d1 IH ⊢
   generalize y9 xp packs n out w = Z at *
   refine zj Tryz.func27 rfl rfl ?_
   simp (disch := ((try simp only [LL]); omega)) only [↓GO, ↓DRW, GA, GX, ren, zm, za, refs, z8, cst, zq, isC, bin, una, z6, zd, blt, asArg, zg, zc, zf, z1, E.mkS, unN, ze, zn, zb, GS, simprocAttr, GZ, c, c2, hoff, d0, d1, zD, IH]
  | some p =>
   obtain ⟨hp, hkp, i, hi, hpi⟩ := wk hf
   rw [hi] at d1
   have c2 : decide ((i : Int) < 0) = false := by simp
   have hnl := hB.zr hp
   have hget : (z7.zh g.packs)[i]? = some p.enc := by unfold z7.zh; rw [List.getElem?_map, hpi]; rfl
   simp only
   cases hc : yg out k with
   | true =>
    rw [hc] at d2
    obtain ⟨cap', IH⟩ := ZM g hB hg n out w es m (off + 1) (len - 1) cap (cap2.map (· - 1)) (by omega) (by omega) hm hk hl1 hd1 (by omega)
    refine ⟨cap', ?_⟩
    rw [cond_true]
    clear hB hf hg
    obtain ⟨top, packs⟩ := g
    simp only [zz.enc, List.map_cons, List.map_nil, ixI] at d0 d1 IH ⊢
    generalize y9 xp packs n out w = Z at *
    refine zj Tryz.func27 rfl rfl ?_
    simp (disch := ((try simp only [LL]); omega)) only [↓GO, ↓DRW, GA, GX, ren, zm, za, refs, z8, cst, zq, isC, bin, una, z6, zd, blt, asArg, zg, zc, zf, z1, E.mkS, unN, ze, zn, zb, GS, simprocAttr, GZ, c, c2, hoff, d0, d1, d2, htk, zD, IH]
   | false =>
    rw [hc] at d2
    have h1 := qT k out (xp out k) (pf out k) hc g.packs p hp hkp
    have h2 := tw k out (xp out k) (pf out k) hc g.packs p hp hkp
    have d3 := Qk out (by omega) k m hm cap (Sa hc)
    obtain ⟨cap', IH⟩ := ZM g hB hg n (xp out k) (w ++ p.zr) (strs w ++ strs p.zr) (m + 1) 0 (w.length + p.zr.length) none none (by rw [List.length_append]; omega) (by omega) (by rw [V2 hc, hm]) (by omega) (by simp) (by simp [strs]) (by rw [List.length_append, zi, zi]; omega)
    have ho1 : off + 1 + w.length = es.length := by omega
    refine ⟨cap', ?_⟩
    rw [cond_false]
    clear hB hf hg h1 h2 hp hi hpi
    obtain ⟨top, packs⟩ := g
    obtain ⟨name, version, source, sums, dev, zr⟩ := p
    simp only [zz.enc, z7.enc, List.map_cons, List.map_nil, ixI] at d0 d1 hget IH hnl ⊢
    generalize y9 xp packs n (xp out k) (w ++ zr) = Z at *
    generalize xp out k = out' at *
    refine zj Tryz.func27 rfl rfl ?_
    simp (disch := ((try simp only [LL]); omega)) only [↓GO, ↓DRW, GA, GX, ren, zm, za, refs, z8, cst, zq, isC, bin, una, z6, zd, blt, asArg, zg, zc, zf, z1, E.mkS, unN, ze, zn, zb, GS, simprocAttr, GZ, c, c2, hoff, d0, d1, d2, d3, hget, hsl, htk, hd1, hl1, ho1, zi, zD, IH, ya]
theorem Rn (g : zz) (hB : GB g) (w : List Str) (hw : w.length ≤ 1048576) (hg : zZ g = true) : zo (EV Tryz.prog pol) 27 [.agg (g.enc.map .t), .t (.list 1 (strs w))] = some (.t (.list 1 (strs (zU g.packs w)))) := by
 have h1 := mV g.packs
 have h2 := hB
 unfold GB zz.y7 at h2
 have h3 : uy g.packs [] ≤ g.packs.length := List.countP_le_length
 have h4 := hB.len
 obtain ⟨cap, L⟩ := ZM g hB hg (w.length + muS g.packs []) [] w (strs w) 0 0 w.length (some 0) none (Nat.le_refl _) (by omega) rfl (by omega) rfl rfl (by rw [zi]; omega)
 have e : y9 xp g.packs (w.length + muS g.packs []) [] w = zU g.packs w := rfl
 rw [e] at L
 have ht : (strs (zU g.packs w)).take (zU g.packs w).length = strs (zU g.packs w) := by rw [← zi (zU g.packs w)]; simp
 rw [show strs [] = [] from rfl] at L
 clear hB h1 h2 h3 h4 e hg
 obtain ⟨top, packs⟩ := g
 simp only [zz.enc, List.map_cons, List.map_nil] at ht L ⊢
 generalize zU packs w = Z at *
 apply zw
 refine zy rfl Tryz.func27 rfl (by kernel_rfl) ?_
 unfold Tryz.f27
 simp (disch := ((try simp only [LL]); omega)) only [↓GO, ↓DRW, GA, GX, ren, zm, za, refs, z8, cst, zq, isC, bin, una, z6, zd, blt, asArg, zg, zc, zf, z1, E.mkS, unN, ze, zn, zb, GS, simprocAttr, GZ, L, ht, zi, List.nil_append, Nat.zero_add, zD, ya]
end Go.Proofs.YtonbkdklidfmfaaGreatDoor
/- Graphs pruned, the law's own way. Conditions: those of each lemma. -/
namespace Go.Proofs.YtonbkdklidfmfaaGreatDoor
open E
set_option linter.unusedSimpArgs false
set_option linter.unusedVariables false
set_option maxRecDepth 100000
theorem T6 (keys : List Str) (hk : keys.length ≤ 1048576) (top : List Str) (hl : top.length ≤ 1048576) (cs : List z7) : ∀ (rest pre acc : List Str) (m : Nat), top = pre ++ rest → m = acc.length → m + rest.length ≤ 1073741824 →
 EV Tryz.prog pol (.loop 42 58 0 [.t (.list 1 (strs keys)), .ptr 0 0 0, .ptr 1 0 0, .ptr 2 0 0, .t (.int .i64 (pre.length : Int))] [.vs 2 [[.t (.list 1 (strs top)), .t (.list 6 (z7.zh cs))]], .vs 2 [zG], .vs 2 [[.sl 3 0 m none, .sl 4 0 0 none]], .ts 1 (strs acc), .ts 6 []])
  = some (.loop (.exit 0) [.t (.list 1 (strs keys)), .ptr 0 0 0, .ptr 1 0 0, .ptr 2 0 0] [.vs 2 [[.t (.list 1 (strs top)), .t (.list 6 (z7.zh cs))]], .vs 2 [zG], .vs 2 [[.sl 3 0 (acc ++ rest.filter (yg keys)).length none, .sl 4 0 0 none]], .ts 1 (strs (acc ++ rest.filter (yg keys))), .ts 6 []])
 | [], pre, acc, m, h, hm, hmM => by
  have c : decide ((pre.length : Int) < (top.length : Int)) = false := by simp [h]
  rw [List.filter_nil, List.append_nil, ← hm]
  simp only [zG]
  refine zj Tryz.func42 rfl rfl ?_
  simp (disch := ((try simp only [LL]); omega)) only [↓GO, ↓DRW, GA, GX, ren, zm, za, refs, z8, cst, zq, isC, bin, una, z6, zd, blt, asArg, zg, zc, zf, z1, E.mkS, unN, ze, zn, zb, GS, simprocAttr, GZ, c, zi, zD]
 | x :: rest, pre, acc, m, h, hm, hmM => by
  have c : decide ((pre.length : Int) < (top.length : Int)) = true := by simp [h]; omega
  have c0 : decide ((0 : Int) ≤ (pre.length : Int)) = true := by simp
  have hget : (strs top)[pre.length]? = some [.str x] := vH (by rw [h]; simp)
  have hlen : pre.length + rest.length + 1 ≤ top.length := by rw [h]; simp; omega
  have hsl : (strs acc).length = m := by rw [zi, hm]
  simp only [List.length_cons] at hmM
  have d1 := ZU keys hk x
  rw [List.filter_cons]
  cases q : yg keys x with
  | true =>
   rw [q] at d1
   have IH := T6 keys hk top hl cs rest (pre ++ [x]) (acc ++ [x]) (m + 1) (by rw [h]; simp) (by simp [hm]) (by omega)
   rw [show ((pre ++ [x]).length : Int) = (pre.length : Int) + 1 by simp, show strs (acc ++ [x]) = strs acc ++ [[.str x]] by simp [strs], List.append_assoc, show [x] ++ rest.filter (yg keys) = x :: rest.filter (yg keys) from rfl] at IH
   simp only [if_true, zG] at IH ⊢
   clear h hk
   generalize acc ++ x :: rest.filter (yg keys) = Z at *
   refine zj Tryz.func42 rfl rfl ?_
   simp (disch := ((try simp only [LL]); omega)) only [↓GO, ↓DRW, GA, GX, ren, zm, za, refs, z8, cst, zq, isC, bin, una, z6, zd, blt, asArg, zg, zc, zf, z1, E.mkS, unN, ze, zn, zb, GS, simprocAttr, GZ, c, c0, zi, hget, d1, zk, hsl, zD, IH, ya]
   refine zQ (by kernel_rfl) ?_
   first | exact IH | simp (disch := ((try simp only [LL]); omega)) only [↓GO, ↓DRW, GA, GX, ren, zm, za, refs, z8, cst, zq, isC, bin, una, z6, zd, blt, asArg, zg, zc, zf, z1, E.mkS, unN, ze, zn, zb, GS, simprocAttr, GZ, IH, zk, zD]
  | false =>
   rw [q] at d1
   have IH := T6 keys hk top hl cs rest (pre ++ [x]) acc m (by rw [h]; simp) hm (by omega)
   rw [show ((pre ++ [x]).length : Int) = (pre.length : Int) + 1 by simp] at IH
   simp only [Bool.false_eq_true, if_false, zG] at IH ⊢
   clear h hk
   generalize acc ++ rest.filter (yg keys) = Z at *
   refine zj Tryz.func42 rfl rfl ?_
   simp (disch := ((try simp only [LL]); omega)) only [↓GO, ↓DRW, GA, GX, ren, zm, za, refs, z8, cst, zq, isC, bin, una, z6, zd, blt, asArg, zg, zc, zf, z1, E.mkS, unN, ze, zn, zb, GS, simprocAttr, GZ, c, c0, zi, hget, d1, zk, hsl, zD, IH, ya]
theorem T8 (keys : List Str) (hk : keys.length ≤ 1048576) (gt gp : T) (cs : List z7) (hgp : gp = .list 6 (z7.zh cs)) (p : z7) (hnl : p.zr.length ≤ 1048576) (i : Nat) (hi : cs[i]? = some p) (e1 e2 e3 e4 e5 : T) (mt mp : Nat) (A B : List (List T)) : ∀ (rest pre acc : List Str) (m : Nat) (cap : Option Nat), p.zr = pre ++ rest → m = acc.length → m + rest.length ≤ 1073741824 → ∃ cap',
 EV Tryz.prog pol (.loop 42 125242 0 [.t (.list 1 (strs keys)), .ptr 0 0 0, .ptr 1 0 0, .ptr 2 0 0, .t (.int .i64 (i : Int)), .ptr 3 0 0, .t (.int .i64 (pre.length : Int))] [.vs 2 [[.t gt, .t gp]], .vs 2 [zG], .vs 2 [[.sl 4 0 mt none, .sl 5 0 mp none]], .vs 6 [[.t e1, .t e2, .t e3, .t e4, .t e5, .sl 6 0 m cap]], .ts 1 A, .ts 6 B, .ts 1 (strs acc)])
  = some (.loop (.exit 4) [.t (.list 1 (strs keys)), .ptr 0 0 0, .ptr 1 0 0, .ptr 2 0 0, .t (.int .i64 (i : Int)), .ptr 3 0 0] [.vs 2 [[.t gt, .t gp]], .vs 2 [zG], .vs 2 [[.sl 4 0 mt none, .sl 5 0 mp none]], .vs 6 [[.t e1, .t e2, .t e3, .t e4, .t e5, .sl 6 0 (acc ++ rest.filter (yg keys)).length cap']], .ts 1 A, .ts 6 B, .ts 1 (strs (acc ++ rest.filter (yg keys)))])
 | [], pre, acc, m, cap, h, hm, hmM => by
  have c : decide ((pre.length : Int) < (p.zr.length : Int)) = false := by simp [h]
  have ci : decide ((0 : Int) ≤ (i : Int)) = true := by simp
  have hpi : (z7.zh cs)[i]? = some p.enc := by unfold z7.zh; rw [List.getElem?_map, hi]; rfl
  have hil : i < cs.length := by have := List.getElem?_eq_some_iff.1 hi; exact this.1
  refine ⟨cap, ?_⟩
  rw [List.filter_nil, List.append_nil, ← hm]
  clear h hi hk
  obtain ⟨name, version, source, sums, dev, zr⟩ := p
  simp only [z7.enc, zG] at hpi c ⊢
  subst hgp
  refine zj Tryz.func42 rfl rfl ?_
  simp (disch := ((try simp only [LL]); omega)) only [↓GO, ↓DRW, GA, GX, ren, zm, za, refs, z8, cst, zq, isC, bin, una, z6, zd, blt, asArg, zg, zc, zf, z1, E.mkS, unN, ze, zn, zb, GS, simprocAttr, GZ, c, ci, zi, hpi, zD]
 | x :: rest, pre, acc, m, cap, h, hm, hmM => by
  have c : decide ((pre.length : Int) < (p.zr.length : Int)) = true := by simp [h]; omega
  have c0 : decide ((0 : Int) ≤ (pre.length : Int)) = true := by simp
  have ci : decide ((0 : Int) ≤ (i : Int)) = true := by simp
  have hpi : (z7.zh cs)[i]? = some p.enc := by unfold z7.zh; rw [List.getElem?_map, hi]; rfl
  have hget : (strs p.zr)[pre.length]? = some [.str x] := vH (by rw [h]; simp)
  have hlen : pre.length + rest.length + 1 ≤ p.zr.length := by rw [h]; simp; omega
  have hsl : (strs acc).length = m := by rw [zi, hm]
  simp only [List.length_cons] at hmM
  have d1 := ZU keys hk x
  rw [List.filter_cons]
  cases q : yg keys x with
  | true =>
   rw [q] at d1
   obtain ⟨cap', IH⟩ := T8 keys hk gt gp cs hgp p hnl i hi e1 e2 e3 e4 e5 mt mp A B rest (pre ++ [x]) (acc ++ [x]) (m + 1) none (by rw [h]; simp) (by simp [hm]) (by omega)
   rw [show ((pre ++ [x]).length : Int) = (pre.length : Int) + 1 by simp, show strs (acc ++ [x]) = strs acc ++ [[.str x]] by simp [strs], List.append_assoc, show [x] ++ rest.filter (yg keys) = x :: rest.filter (yg keys) from rfl] at IH
   simp only [if_true, zG] at IH ⊢
   refine ⟨cap', ?_⟩
   clear h hk hi
   generalize acc ++ x :: rest.filter (yg keys) = Z at *
   obtain ⟨name, version, source, sums, dev, zr⟩ := p
   simp only [z7.enc] at hpi c hget hlen hnl ⊢
   subst hgp
   refine zj Tryz.func42 rfl rfl ?_
   simp (disch := ((try simp only [LL]); omega)) only [↓GO, ↓DRW, GA, GX, ren, zm, za, refs, z8, cst, zq, isC, bin, una, z6, zd, blt, asArg, zg, zc, zf, z1, E.mkS, unN, ze, zn, zb, GS, simprocAttr, GZ, c, c0, ci, zi, hget, hpi, d1, zk, hsl, zD, IH, ya]
   refine zQ (by kernel_rfl) ?_
   first | exact IH | simp (disch := ((try simp only [LL]); omega)) only [↓GO, ↓DRW, GA, GX, ren, zm, za, refs, z8, cst, zq, isC, bin, una, z6, zd, blt, asArg, zg, zc, zf, z1, E.mkS, unN, ze, zn, zb, GS, simprocAttr, GZ, IH, zk, zD]
  | false =>
   rw [q] at d1
   obtain ⟨cap', IH⟩ := T8 keys hk gt gp cs hgp p hnl i hi e1 e2 e3 e4 e5 mt mp A B rest (pre ++ [x]) acc m cap (by rw [h]; simp) hm (by omega)
   rw [show ((pre ++ [x]).length : Int) = (pre.length : Int) + 1 by simp] at IH
   simp only [Bool.false_eq_true, if_false, zG] at IH ⊢
   refine ⟨cap', ?_⟩
   clear h hk hi
   generalize acc ++ rest.filter (yg keys) = Z at *
   obtain ⟨name, version, source, sums, dev, zr⟩ := p
   simp only [z7.enc] at hpi c hget hlen hnl ⊢
   subst hgp
   refine zj Tryz.func42 rfl rfl ?_
   simp (disch := ((try simp only [LL]); omega)) only [↓GO, ↓DRW, GA, GX, ren, zm, za, refs, z8, cst, zq, isC, bin, una, z6, zd, blt, asArg, zg, zc, zf, z1, E.mkS, unN, ze, zn, zb, GS, simprocAttr, GZ, c, c0, ci, zi, hget, hpi, d1, zk, hsl, zD, IH, ya]
theorem gF (keys : List Str) (p : z7) (r : List z7) : xV keys (p :: r) = cond (yg keys (keyOf p)) (na keys p :: xV keys r) (xV keys r) := by
 unfold xV
 rw [List.filter_cons]
 cases yg keys (keyOf p) <;> rfl
theorem T7 (keys : List Str) (hk : keys.length ≤ 1048576) (gt : T) (cs : List z7) (hl : cs.length ≤ 1048576) (hb : ∀ c ∈ cs, c.y7 ≤ 1048576) (mt : Nat) (A : List (List T)) : ∀ (rest pre acc : List z7) (m : Nat), cs = pre ++ rest → m = acc.length → m + rest.length ≤ 1073741824 →
 EV Tryz.prog pol (.loop 42 122 0 [.t (.list 1 (strs keys)), .ptr 0 0 0, .ptr 1 0 0, .ptr 2 0 0, .t (.int .i64 (pre.length : Int))] [.vs 2 [[.t gt, .t (.list 6 (z7.zh cs))]], .vs 2 [zG], .vs 2 [[.sl 3 0 mt none, .sl 4 0 m none]], .ts 1 A, .ts 6 (z7.zh acc)])
  = some (.loop (.exit 2) [.ptr 0 0 0, .ptr 1 0 0] [.vs 2 [zG], .vs 2 [[.sl 2 0 mt none, .sl 3 0 (acc ++ xV keys rest).length none]], .ts 1 A, .ts 6 (z7.zh (acc ++ xV keys rest))])
 | [], pre, acc, m, h, hm, hmM => by
  have c : decide ((pre.length : Int) < (cs.length : Int)) = false := by simp [h]
  rw [show xV keys [] = [] from rfl, List.append_nil, ← hm]
  simp only [zG]
  refine zj Tryz.func42 rfl rfl ?_
  simp (disch := ((try simp only [LL]); omega)) only [↓GO, ↓DRW, GA, GX, ren, zm, za, refs, z8, cst, zq, isC, bin, una, z6, zd, blt, asArg, zg, zc, zf, z1, E.mkS, unN, ze, zn, zb, GS, simprocAttr, GZ, c, z7.zu, zD]
 | x :: rest, pre, acc, m, h, hm, hmM => by
  have c : decide ((pre.length : Int) < (cs.length : Int)) = true := by simp [h]; omega
  have c0 : decide ((0 : Int) ≤ (pre.length : Int)) = true := by simp
  have hix : cs[pre.length]? = some x := by rw [h]; simp
  have hget : (z7.zh cs)[pre.length]? = some x.enc := by rw [h]; simp [z7.zh]
  have hlen : pre.length + rest.length + 1 ≤ cs.length := by rw [h]; simp; omega
  have hsl : (z7.zh acc).length = m := by rw [z7.zu, hm]
  simp only [List.length_cons] at hmM
  have hxb := hb x (by rw [h]; simp)
  have d1 := uD x (by omega)
  have d2 := ZU keys hk (keyOf x)
  have d3 := bV x hxb
  rw [gF]
  cases q : yg keys (keyOf x) with
  | true =>
   rw [q] at d2
   have IH := T7 keys hk gt cs hl hb mt A rest (pre ++ [x]) (acc ++ [na keys x]) (m + 1) (by rw [h]; simp) (by simp [hm]) (by omega)
   have hnl : x.zr.length ≤ 1048576 := by unfold z7.y7 at hxb; omega
   obtain ⟨cap', L⟩ := T8 keys hk gt (.list 6 (z7.zh cs)) cs rfl x hnl pre.length hix (.str x.name) (.str x.version) (.str x.source) (.list 2 (zC.zh x.sums)) (.bool x.dev) mt m A (z7.zh acc) x.zr [] [] 0 (some 0) rfl rfl (by omega)
   rw [show ((pre ++ [x]).length : Int) = (pre.length : Int) + 1 by simp, q7, List.append_assoc, show [na keys x] ++ xV keys rest = na keys x :: xV keys rest from rfl] at IH
   simp only [cond_true, zG, List.nil_append, List.length_nil, Int.natCast_zero, show strs [] = [] from rfl] at IH L ⊢
   have ht : (strs (x.zr.filter (yg keys))).take (x.zr.filter (yg keys)).length = strs (x.zr.filter (yg keys)) := by rw [← zi (x.zr.filter (yg keys))]; simp
   generalize acc ++ na keys x :: xV keys rest = Z at *
   clear h hk hix hb hxb
   obtain ⟨name, version, source, sums, dev, zr⟩ := x
   simp only [z7.enc, na, List.map_cons, List.map_nil] at d1 d2 d3 hget IH L ht ⊢
   generalize zr.filter (yg keys) = nf at *
   refine zj Tryz.func42 rfl rfl ?_
   simp (disch := ((try simp only [LL]); omega)) only [↓GO, ↓DRW, GA, GX, ren, zm, za, refs, z8, cst, zq, isC, bin, una, z6, zd, blt, asArg, zg, zc, zf, z1, E.mkS, unN, ze, zn, zb, GS, simprocAttr, GZ, c, c0, z7.zu, hget, d1, d2, d3, L, ht, zk, hsl, zD, IH, ya]
  | false =>
   rw [q] at d2
   have IH := T7 keys hk gt cs hl hb mt A rest (pre ++ [x]) acc m (by rw [h]; simp) hm (by omega)
   rw [show ((pre ++ [x]).length : Int) = (pre.length : Int) + 1 by simp] at IH
   simp only [cond_false, zG] at IH ⊢
   generalize acc ++ xV keys rest = Z at *
   clear h hk hix hb hxb
   obtain ⟨name, version, source, sums, dev, zr⟩ := x
   simp only [z7.enc, List.map_cons, List.map_nil] at d1 d2 d3 hget ⊢
   refine zj Tryz.func42 rfl rfl ?_
   simp (disch := ((try simp only [LL]); omega)) only [↓GO, ↓DRW, GA, GX, ren, zm, za, refs, z8, cst, zq, isC, bin, una, z6, zd, blt, asArg, zg, zc, zf, z1, E.mkS, unN, ze, zn, zb, GS, simprocAttr, GZ, c, c0, z7.zu, hget, d1, d2, zk, hsl, zD, IH, ya]
theorem c_onR (g : zz) (hB : GB g) (keys : List Str) (hk : keys.length ≤ 1048576) : zo (EV Tryz.prog pol) 42 [.agg (g.enc.map .t), .t (.list 1 (strs keys))] = some (.agg ((ZK g keys).enc.map .t)) := by
 have hb := hB.len
 obtain ⟨top, packs⟩ := g
 simp only at hb
 have L1 := T6 keys hk top (by omega) packs top [] [] 0 rfl rfl (by omega)
 have L2 := T7 keys hk (.list 1 (strs top)) packs (by omega) hb.2.2 (top.filter (yg keys)).length (strs (top.filter (yg keys))) packs [] [] 0 rfl rfl (by omega)
 have ht1 : (strs (top.filter (yg keys))).take (top.filter (yg keys)).length = strs (top.filter (yg keys)) := by rw [← zi (top.filter (yg keys))]; simp
 have ht2 : (z7.zh (xV keys packs)).take (xV keys packs).length = z7.zh (xV keys packs) := by rw [← z7.zu (xV keys packs)]; simp
 simp only [ZK, zz.enc, List.map_cons, List.map_nil, zG, List.nil_append, List.length_nil, Int.natCast_zero, show strs [] = [] from rfl, show z7.zh [] = [] from rfl] at L1 L2 ⊢
 generalize top.filter (yg keys) = Z1 at *
 generalize xV keys packs = Z2 at *
 clear hB hb hk
 apply zw
 refine zy rfl Tryz.func42 rfl (by kernel_rfl) ?_
 unfold Tryz.f42
 simp (disch := ((try simp only [LL]); omega)) only [↓GO, ↓DRW, GA, GX, ren, zm, za, refs, z8, cst, zq, isC, bin, una, z6, zd, blt, asArg, zg, zc, zf, z1, E.mkS, unN, ze, zn, zb, GS, simprocAttr, zH, zI, x8, yX, x6, x5, x9, gh1, yW, yN, yQ, zW, mkO, yC, yr, yt, mvC, unO, ye, x7, yZ, yU, zN, yV, yT, y8, oc, oTs, oT, zS, zS.rowTs, yP, isL, Bool.not_false, Bool.true_and, Bool.and_true, Bool.and_self, List.flatMap_append, List.map_append, List.set_cons_zero, List.set_cons_succ, GZ, L1, L2, ht1, ht2, show ry ([] : List (List T)) = true from rfl, zD]
theorem pN (ps : List z7) (w : List Str) : (zU ps w).length ≤ ps.length := by
 have e : wz (y9 snS ps (w.length + muS ps []) [] w) = zU ps w := nX ps _ w
 have h1 := uK ps (w.length + muS ps []) [] w
 have h3 : uy ps [] ≤ ps.length := List.countP_le_length
 rw [← e, pL]
 simp only [List.length_nil] at h1
 omega
theorem Sx (g : zz) (hB : GB g) : zo (EV Tryz.prog pol) 38 [.agg (g.enc.map .t)] = some (.agg (g.enc.map .t)) := by
 have hb := hB.len
 obtain ⟨top, packs⟩ := g
 simp only at hb
 have t1 : (strs top).take top.length = strs top := by rw [← zi top]; simp
 cases packs with
 | nil =>
  have L : EV Tryz.prog pol (.loop 38 58 0 [.ptr 0 0 0, .ptr 1 0 0, .ptr 2 0 0, .t (.int .i64 0)] [.vs 2 [[.t (.list 1 (strs top)), .t (.list 6 [])]], .vs 2 [zG], .vs 2 [[.sl 3 0 top.length none, .nil 6]], .ts 1 (strs top)])
   = some (.loop (.exit 0) [.ptr 0 0 0, .ptr 1 0 0] [.vs 2 [zG], .vs 2 [[.sl 2 0 top.length none, .nil 6]], .ts 1 (strs top)]) := by
   simp only [zG]
   refine zj Tryz.func38 rfl rfl ?_
   simp (disch := ((try simp only [LL]); omega)) only [↓GO, ↓DRW, GA, GX, ren, zm, za, refs, z8, cst, zq, isC, bin, una, z6, zd, blt, asArg, zg, zc, zf, z1, E.mkS, unN, ze, zn, zb, GS, simprocAttr, GZ, zD, List.length_nil, Int.natCast_zero]
  simp only [zz.enc, z7.zh, List.map_cons, List.map_nil, zG] at L ⊢
  apply zw
  refine zy rfl Tryz.func38 rfl (by kernel_rfl) ?_
  unfold Tryz.f38
  simp (disch := ((try simp only [LL]); omega)) only [↓GO, ↓DRW, GA, GX, ren, zm, za, refs, z8, cst, zq, isC, bin, una, z6, zd, blt, asArg, zg, zc, zf, z1, E.mkS, unN, ze, zn, zb, GS, simprocAttr, GZ, L, t1, zi, zD, ya]
  try (refine zQ (by kernel_rfl) ?_; rfl)
 | cons x rest =>
  have hcx := bV x (hb.2.2 x (by simp))
  have L := UD top (x :: rest) (by omega) (by omega) hb.2.2 rest [x] 1 rfl rfl
  have L0 : EV Tryz.prog pol (.loop 38 58 0 [.ptr 0 0 0, .ptr 1 0 0, .ptr 2 0 0, .t (.int .i64 0)] [.vs 2 [[.t (.list 1 (strs top)), .t (.list 6 (z7.zh (x :: rest)))]], .vs 2 [zG], .vs 2 [[.sl 3 0 top.length none, .nil 6]], .ts 1 (strs top)])
   = some (.loop (.exit 0) [.ptr 0 0 0, .ptr 1 0 0] [.vs 2 [zG], .vs 2 [[.sl 2 0 top.length none, .sl 3 0 (x :: rest).length none]], .ts 1 (strs top), .ts 6 (z7.zh (x :: rest))]) := by
   have c : decide ((0 : Int) < ((x :: rest).length : Int)) = true := by apply decide_eq_true; simp only [List.length_cons]; omega
   have hget : (z7.zh (x :: rest))[0]? = some x.enc := rfl
   rw [show z7.zh [x] = [x.enc] from rfl] at L
   obtain ⟨name, version, source, sums, dev, zr⟩ := x
   simp only [z7.enc, List.map_cons, List.map_nil, zG, List.length_cons, List.length_nil, Nat.zero_add] at hcx hget L ⊢
   generalize z7.mk name version source sums dev zr :: rest = cs at *
   refine zj Tryz.func38 rfl rfl ?_
   simp (disch := ((try simp only [LL]); omega)) only [↓GO, ↓DRW, GA, GX, ren, zm, za, refs, z8, cst, zq, isC, bin, una, z6, zd, blt, asArg, zg, zc, zf, z1, E.mkS, unN, ze, zn, zb, GS, simprocAttr, GZ, c, z7.zu, vP, hget, hcx, zk, Int.reduceAdd, L, zD, ya, List.length_nil, Int.natCast_zero]
   try (refine zQ (by kernel_rfl) ?_; first | rfl | exact L)
  clear L
  have t2 : (z7.zh (x :: rest)).take (x :: rest).length = z7.zh (x :: rest) := by rw [← z7.zu (x :: rest)]; simp
  generalize x :: rest = cs at *
  simp only [zz.enc, List.map_cons, List.map_nil, zG] at L0 ⊢
  apply zw
  refine zy rfl Tryz.func38 rfl (by kernel_rfl) ?_
  unfold Tryz.f38
  simp (disch := ((try simp only [LL]); omega)) only [↓GO, ↓DRW, GA, GX, ren, zm, za, refs, z8, cst, zq, isC, bin, una, z6, zd, blt, asArg, zg, zc, zf, z1, E.mkS, unN, ze, zn, zb, GS, simprocAttr, GZ, L0, t1, t2, zi, zD, ya]
  try (refine zQ (by kernel_rfl) ?_; rfl)
theorem c_prR (g : zz) (hB : GB g) : zo (EV Tryz.prog pol) 29 [.agg (g.enc.map .t)] = some (.agg ((yO g).enc.map .t)) := by
 have d1 := lz g hB
 cases q : zZ g with
 | true =>
  have hb := hB.len
  rw [q] at d1
  have d2 := Rn g hB g.top (by omega) q
  have hk : (zU g.packs g.top).length ≤ 1048576 := Nat.le_trans (pN g.packs g.top) hb.1
  have d3 := c_onR g hB (zU g.packs g.top) hk
  rw [cj q] at d3
  generalize yO g = Z at *
  clear hB hb hk q
  obtain ⟨top, packs⟩ := g
  obtain ⟨zt, zp⟩ := Z
  simp only [zz.enc, List.map_cons, List.map_nil] at d1 d2 d3 ⊢
  apply zw
  refine zy rfl Tryz.func29 rfl (by kernel_rfl) ?_
  unfold Tryz.f29
  simp (disch := ((try simp only [LL]); omega)) only [↓GO, ↓DRW, GA, GX, ren, zm, za, refs, z8, cst, zq, isC, bin, una, z6, zd, blt, asArg, zg, zc, zf, z1, E.mkS, unN, ze, zn, zb, GS, simprocAttr, GZ, d1, d2, d3, zD]
  try (refine zQ (by kernel_rfl) ?_; rfl)
 | false =>
  rw [q] at d1
  have d2 := Sx g hB
  rw [show yO g = g by unfold yO; rw [q]; rfl]
  clear hB q
  obtain ⟨top, packs⟩ := g
  simp only [zz.enc, List.map_cons, List.map_nil] at d1 d2 ⊢
  apply zw
  refine zy rfl Tryz.func29 rfl (by kernel_rfl) ?_
  unfold Tryz.f29
  simp (disch := ((try simp only [LL]); omega)) only [↓GO, ↓DRW, GA, GX, ren, zm, za, refs, z8, cst, zq, isC, bin, una, z6, zd, blt, asArg, zg, zc, zf, z1, E.mkS, unN, ze, zn, zb, GS, simprocAttr, GZ, d1, d2, zD]
end Go.Proofs.YtonbkdklidfmfaaGreatDoor
/- Graphs pruned, the program's way. Conditions: those of each lemma. -/
namespace Go.Proofs.YtonbkdklidfmfaaGreatDoor
open E
set_option linter.unusedSimpArgs false
set_option linter.unusedVariables false
set_option maxRecDepth 100000
theorem Q8 (keys : List Str) (hk : keys.length ≤ 1048576) (x : z7) (hb : x.y7 ≤ 1048576) : zo (EV Tryz.prog pol) 80 (.agg (x.enc.map .t) :: [.t (.fp [.list 1 (strs keys)])]) = some (.t (.bool (!yg keys (keyOf x)))) := by
 have d1 := gf x (by omega)
 have d2 := Rp keys hk (keyOf x)
 clear hb hk
 obtain ⟨name, version, source, sums, dev, zr⟩ := x
 simp only [z7.enc, List.map_cons, List.map_nil] at d1 d2 ⊢
 apply zw
 refine zy rfl Tryz.func80 rfl (by kernel_rfl) ?_
 unfold Tryz.f80
 simp (disch := ((try simp only [LL]); omega)) only [↓GO, ↓DRW, GA, GX, ren, zm, za, refs, z8, cst, zq, isC, bin, una, z6, zd, blt, asArg, zg, zc, zf, z1, E.mkS, unN, ze, zn, zb, GS, simprocAttr, GZ, d1, d2, zD]
 try (refine zQ (by kernel_rfl) ?_; first | rfl | simp (disch := ((try simp only [LL]); omega)) only [↓GO, ↓DRW, GA, GX, ren, zm, za, refs, z8, cst, zq, isC, bin, una, z6, zd, blt, asArg, zg, zc, zf, z1, E.mkS, unN, ze, zn, zb, GS, simprocAttr, GZ, d1, d2, zD])
theorem en : ∀ l : List z7, jD (ocE (z7.zh l)) = some (z7.zh l)
 | [] => rfl
 | x :: l => by
  rw [show ocE (z7.zh (x :: l)) = x.enc.map oc :: ocE (z7.zh l) from rfl, show z7.zh (x :: l) = x.enc :: z7.zh l from rfl]
  have h : oTs (x.enc.map oc) = some x.enc := rfl
  simp only [jD, h, en l]
theorem lP (keys : List Str) (ps : List z7) : (ps.filter fun x => !!yg keys (keyOf x)) = xE keys ps := by
 unfold xE
 congr 1
 funext x
 cases yg keys (keyOf x) <;> rfl
theorem Qg (g : Nat) (cell : T) : EV Tryz.prog pol (.callO false 50 [.nil 6, .fn g [.ptr 0 0 0]] [.vs 1 [[.t cell]]]) = some (.call (.nil 6) [.vs 1 [[.t cell]]]) := by
 have d1 := si g [.fp [cell]] (fun _ => false) [] (by simp) (fun x hx => by simp at hx)
 rw [show ixI (vZ (fun _ => false) ([] : List z7) 0) = -1 from rfl, show z7.zh [] = [] from rfl] at d1
 refine zJ Tryz.func50 rfl (by kernel_rfl) ?_
 unfold Tryz.f50
 simp (disch := ((try simp only [LL]); omega)) only [↓GO, ↓DRW, GA, GX, ren, zm, za, refs, z8, cst, zq, isC, bin, una, z6, zd, blt, asArg, zg, zc, zf, z1, E.mkS, unN, ze, zn, zb, GS, simprocAttr, zH, zI, x8, yX, x6, x5, x9, gh1, yW, yN, yQ, zW, mkO, yC, yr, yt, mvC, unO, ye, x7, yZ, yU, zN, yV, yT, y8, oc, oTs, oT, zS, zS.rowTs, yP, isL, Bool.not_false, Bool.true_and, Bool.and_true, Bool.and_self, List.flatMap_append, List.map_append, List.set_cons_zero, List.set_cons_succ, GZ, d1, vG, List.drop_zero, beq_self_eq_true, zD]
end Go.Proofs.YtonbkdklidfmfaaGreatDoor
/- Prune with frozen values; the reference's Reach at what is no graph. Conditions: those of each lemma. -/
namespace Go.Proofs.YtonbkdklidfmfaaGreatDoor
open E
set_option linter.unusedSimpArgs false
set_option linter.unusedVariables false
set_option maxRecDepth 100000
set_option maxHeartbeats 4000000 in
theorem cE (top : List Str) (p : z7) (rest : List z7) (hB : GB ⟨top, p :: rest⟩) (ho : zZ ⟨top, p :: rest⟩ = true) :
 zo (EV Tryz.prog pol) 25 [.agg [.t (.list 1 (strs top)), .t (.list 6 (z7.zh (p :: rest)))]] = some (.agg [.t (.list 1 (strs top)), .t (.list 6 (z7.zh (xE (zU (p :: rest) top) (p :: rest))))]) := by
 have hb := hB.len
 simp only at hb
 have hcp := n7 top p rest (by omega) (by omega) hb.2.2
 have d1 := qt _ hB
 rw [ho] at d1
 have d2 := dO _ hB top (by omega) ho
 simp only at d2
 have hkl := pN (p :: rest) top
 generalize hcs : p :: rest = cs at *
 generalize zU cs top = keys at *
 obtain ⟨J', hJr, hJ', d3⟩ := Qh 80 (.list 1 (strs keys)) (fun x => !yg keys (keyOf x)) cs (by omega) (fun x hx => Q8 keys (by omega) x (hb.2.2 x hx)) cs.length rfl none
 rw [lP] at d3 hJ'
 generalize xE keys cs = Z at *
 have hZl : (ocE (z7.zh Z)).length = Z.length := by rw [yA, z7.zu]
 have htk : (ocE (z7.zh Z) ++ J').take Z.length = ocE (z7.zh Z) := by rw [← hZl]; simp
 have hle : Z.length ≤ (ocE (z7.zh Z) ++ J').length := by rw [List.length_append, hZl]; omega
 have ht1 : (strs top).take top.length = strs top := by rw [← zi top]; simp
 have f2 := rW Z
 have hA := ur (xb Z) hJr
 obtain ⟨h1, h2, _⟩ := hA
 simp only [zz.enc, List.map_cons, List.map_nil] at d1 d2
 clear hB hb ho hkl hJ' hcs hJr
 have hot : jD (ocE (z7.zh Z)) = some (z7.zh Z) := en Z
 have hgE := ly (z7.zh Z)
 have htE : (z7.zh Z).take Z.length = z7.zh Z := List.take_of_length_le (by rw [z7.zu]; exact Nat.le_refl _)
 have hT1 := ht1
 have hoc : (z7.zh Z).map (fun e => e.map oc) = ocE (z7.zh Z) := rfl
 by_cases hq : (ocE (z7.zh Z) ++ J').length = Z.length
 · have hE : ocE (z7.zh Z) ++ J' = ocE (z7.zh Z) := by have h := htk; rw [List.take_of_length_le (by omega)] at h; exact h
   rw [hE] at d3
   apply zw
   refine zy rfl Tryz.func25 rfl (by kernel_rfl) ?_
   unfold Tryz.f25
   simp (disch := ((try simp only [LL]); omega)) only [↓GO, ↓DRW, GA, GX, ren, zm, za, refs, z8, cst, zq, isC, bin, una, z6, zd, blt, asArg, zg, zc, zf, z1, E.mkS, unN, ze, zn, zb, GS, simprocAttr, zH, zI, x8, yX, x6, x5, x9, gh1, yW, yN, yQ, zW, mkO, yC, yr, yt, mvC, unO, ye, x7, yZ, yU, zN, yV, yT, y8, oc, oTs, oT, zS, zS.rowTs, yP, isL, Bool.not_false, Bool.true_and, Bool.and_true, Bool.and_self, List.flatMap_append, List.map_append, List.set_cons_zero, List.set_cons_succ, GZ, hcp, hgE, htE, hT1, d1, d2, d3, hot, hoc, ht1, f2, wa, xH, yA, z7.zu, List.drop_zero, vG, zD]
 · generalize ocE (z7.zh Z) ++ J' = E1 at *
   have hq' : (E1.length = Z.length) = False := eq_false hq
   apply zw
   refine zy rfl Tryz.func25 rfl (by kernel_rfl) ?_
   unfold Tryz.f25
   simp (disch := ((try simp only [LL]); omega)) only [↓GO, ↓DRW, GA, GX, ren, zm, za, refs, z8, cst, zq, isC, bin, una, z6, zd, blt, asArg, zg, zc, zf, z1, E.mkS, unN, ze, zn, zb, GS, simprocAttr, zH, zI, x8, yX, x6, x5, x9, gh1, yW, yN, yQ, zW, mkO, yC, yr, yt, mvC, unO, ye, x7, yZ, yU, zN, yV, yT, y8, oc, oTs, oT, zS, zS.rowTs, yP, isL, Bool.not_false, Bool.true_and, Bool.and_true, Bool.and_self, List.flatMap_append, List.map_append, List.set_cons_zero, List.set_cons_succ, GZ, hcp, hgE, htE, hT1, d1, d2, d3, h1, h2, hq', htk, hle, hot, hoc, ht1, f2, wa, xH, yA, z7.zu, List.drop_zero, vG, zD]
theorem WA (top : List Str) (p : z7) (rest : List z7) (hB : GB ⟨top, p :: rest⟩) (ho : zZ ⟨top, p :: rest⟩ = false) :
 zo (EV Tryz.prog pol) 25 [.agg [.t (.list 1 (strs top)), .t (.list 6 (z7.zh (p :: rest)))]] = some (.agg [.t (.list 1 (strs top)), .t (.list 6 (z7.zh (p :: rest)))]) := by
 have hb := hB.len
 simp only at hb
 have hcp := n7 top p rest (by omega) (by omega) hb.2.2
 have d1 := qt _ hB
 rw [ho] at d1
 generalize hcs : p :: rest = cs at *
 have hgE := ly (z7.zh cs)
 have htE : (z7.zh cs).take cs.length = z7.zh cs := List.take_of_length_le (by rw [z7.zu]; exact Nat.le_refl _)
 have hT1 : (strs top).take top.length = strs top := by rw [← zi top]; simp
 simp only [zz.enc, List.map_cons, List.map_nil] at d1
 clear hB hb ho hcs
 apply zw
 refine zy rfl Tryz.func25 rfl (by kernel_rfl) ?_
 unfold Tryz.f25
 simp (disch := ((try simp only [LL]); omega)) only [↓GO, ↓DRW, GA, GX, ren, zm, za, refs, z8, cst, zq, isC, bin, una, z6, zd, blt, asArg, zg, zc, zf, z1, E.mkS, unN, ze, zn, zb, GS, simprocAttr, zH, zI, x8, yX, x6, x5, x9, gh1, yW, yN, yQ, zW, mkO, yC, yr, yt, mvC, unO, ye, x7, yZ, yU, zN, yV, yT, y8, oc, oTs, oT, zS, zS.rowTs, yP, isL, Bool.not_false, Bool.true_and, Bool.and_true, Bool.and_self, List.flatMap_append, List.map_append, List.set_cons_zero, List.set_cons_succ, GZ, hcp, hgE, htE, hT1, d1, wa, xH, yA, z7.zu, List.drop_zero, zD]
theorem Wz (top : List Str) (hB : GB ⟨top, []⟩) (ho : zZ ⟨top, []⟩ = false) :
 zo (EV Tryz.prog pol) 25 [.agg [.t (.list 1 (strs top)), .t (.list 6 [])]] = some (.agg [.t (.list 1 (strs top)), .t (.list 6 [])]) := by
 have hb := hB.len
 simp only at hb
 have hcp := mE top (by omega)
 have d1 := qt _ hB
 rw [ho] at d1
 simp only [zz.enc, List.map_cons, List.map_nil, show z7.zh [] = [] from rfl] at d1
 have hT1 : (strs top).take top.length = strs top := by rw [← zi top]; simp
 have hgE : gvE [] = some [] := rfl
 have htE : ([] : List (List T)).take 0 = [] := rfl
 clear hB hb ho
 apply zw
 refine zy rfl Tryz.func25 rfl (by kernel_rfl) ?_
 unfold Tryz.f25
 simp (disch := ((try simp only [LL]); omega)) only [↓GO, ↓DRW, GA, GX, ren, zm, za, refs, z8, cst, zq, isC, bin, una, z6, zd, blt, asArg, zg, zc, zf, z1, E.mkS, unN, ze, zn, zb, GS, simprocAttr, zH, zI, x8, yX, x6, x5, x9, gh1, yW, yN, yQ, zW, mkO, yC, yr, yt, mvC, unO, ye, x7, yZ, yU, zN, yV, yT, y8, oc, oTs, oT, zS, zS.rowTs, yP, isL, Bool.not_false, Bool.true_and, Bool.and_true, Bool.and_self, List.flatMap_append, List.map_append, List.set_cons_zero, List.set_cons_succ, GZ, hcp, hgE, htE, hT1, d1, List.drop_zero, zD]
theorem Yy (top : List Str) (hB : GB ⟨top, []⟩) (ho : zZ ⟨top, []⟩ = true) :
 zo (EV Tryz.prog pol) 25 [.agg [.t (.list 1 (strs top)), .t (.list 6 (z7.zh []))]] = some (.agg [.t (.list 1 (strs top)), .t (.list 6 (z7.zh (xE (zU [] top) [])))]) := by
 have hb := hB.len
 simp only at hb
 have hcp := mE top (by omega)
 have d1 := qt _ hB
 rw [ho] at d1
 have d2 := dO _ hB top (by omega) ho
 simp only at d2
 rw [show xE (zU [] top) [] = [] from rfl]
 have d3 := Qg 80 (.list 1 (strs (zU [] top)))
 generalize zU [] top = keys at *
 simp only [zz.enc, List.map_cons, List.map_nil, show z7.zh [] = [] from rfl, show ocE [] = [] from rfl, List.length_nil] at d1 d2 ⊢
 have ht1 : (strs top).take top.length = strs top := by rw [← zi top]; simp
 have hT1 := ht1
 have hgE : gvE [] = some [] := rfl
 have htE : ([] : List (List T)).take 0 = [] := rfl
 clear hB hb ho
 apply zw
 refine zy rfl Tryz.func25 rfl (by kernel_rfl) ?_
 unfold Tryz.f25
 simp (disch := ((try simp only [LL]); omega)) only [↓GO, ↓DRW, GA, GX, ren, zm, za, refs, z8, cst, zq, isC, bin, una, z6, zd, blt, asArg, zg, zc, zf, z1, E.mkS, unN, ze, zn, zb, GS, simprocAttr, zH, zI, x8, yX, x6, x5, x9, gh1, yW, yN, yQ, zW, mkO, yC, yr, yt, mvC, unO, ye, x7, yZ, yU, zN, yV, yT, y8, oc, oTs, oT, zS, zS.rowTs, yP, isL, Bool.not_false, Bool.true_and, Bool.and_true, Bool.and_self, List.flatMap_append, List.map_append, List.set_cons_zero, List.set_cons_succ, GZ, hcp, hgE, htE, hT1, d1, d2, d3, ht1, List.drop_zero, vG, zD]
theorem c_prp (g : zz) (hB : GB g) : zo (EV Tryz.prog pol) 25 [.agg (g.enc.map .t)] = some (.agg ((yO g).enc.map .t)) := by
 obtain ⟨top, ps⟩ := g
 unfold yO
 cases ho : zZ ⟨top, ps⟩ with
 | true => cases ps with
  | nil => exact Yy top hB ho
  | cons p rest => exact cE top p rest hB ho
 | false => cases ps with
  | nil => exact Wz top hB ho
  | cons p rest => exact WA top p rest hB ho
theorem We (g : zz) (hB : GB g) (hg : zZ g = false) (w : List Str) (cap cap2 : Option Nat) :
 EV Tryz.prog pol (.loop 27 60 0 [.ptr 0 0 0, .sl 1 0 0 cap, .sl 2 0 w.length cap2] [.vs 2 [g.enc.map .t], .ts 1 [], .ts 1 (strs w)]) = some (.loop (.exit 0) [.sl 0 0 0 cap] [.ts 1 []]) := by
 have d1 := lz g hB
 rw [hg] at d1
 clear hB
 obtain ⟨top, packs⟩ := g
 simp only [zz.enc, List.map_cons, List.map_nil] at d1 ⊢
 cases w with
 | nil =>
  refine zj Tryz.func27 rfl rfl ?_
  simp (disch := ((try simp only [LL]); omega)) only [↓GO, ↓DRW, GA, GX, ren, zm, za, refs, z8, cst, zq, isC, bin, una, z6, zd, blt, asArg, zg, zc, zf, z1, E.mkS, unN, ze, zn, zb, GS, simprocAttr, GZ, d1, List.length_nil, zD]
 | cons x r =>
  have c : decide (((x :: r).length : Int) > 0) = true := by apply decide_eq_true; simp
  have c2 : decide ((0 : Int) < ((x :: r).length : Int)) = true := by apply decide_eq_true; simp
  generalize x :: r = w at *
  refine zj Tryz.func27 rfl rfl ?_
  simp (disch := ((try simp only [LL]); omega)) only [↓GO, ↓DRW, GA, GX, ren, zm, za, refs, z8, cst, zq, isC, bin, una, z6, zd, blt, asArg, zg, zc, zf, z1, E.mkS, unN, ze, zn, zb, GS, simprocAttr, GZ, d1, c, c2, zD]
theorem Wx (g : zz) (hB : GB g) (w : List Str) (hw : w.length ≤ 1048576) (hg : zZ g = false) : zo (EV Tryz.prog pol) 27 [.agg (g.enc.map .t), .t (.list 1 (strs w))] = some (.t (.list 1 [])) := by
 have L := We g hB hg w (some 0) none
 clear hB
 obtain ⟨top, packs⟩ := g
 simp only [zz.enc, List.map_cons, List.map_nil] at L ⊢
 apply zw
 refine zy rfl Tryz.func27 rfl (by kernel_rfl) ?_
 unfold Tryz.f27
 simp (disch := ((try simp only [LL]); omega)) only [↓GO, ↓DRW, GA, GX, ren, zm, za, refs, z8, cst, zq, isC, bin, una, z6, zd, blt, asArg, zg, zc, zf, z1, E.mkS, unN, ze, zn, zb, GS, simprocAttr, GZ, L, zi, List.nil_append, Nat.zero_add, zD, ya]
end Go.Proofs.YtonbkdklidfmfaaGreatDoor
/- What is reached, and a graph pruned, in plain Lean. Conditions: those of each lemma. -/
namespace Go.Proofs.YtonbkdklidfmfaaGreatDoor
open E
set_option linter.unusedSimpArgs false
set_option linter.unusedVariables false
theorem uf (ps : List z7) : ∀ (n : Nat) (out w : List Str), rQ out → rQ (y9 xp ps n out w)
 | 0, out, w, h => h
 | n + 1, out, [], h => h
 | n + 1, out, k :: w, h => by
  rw [y9]
  cases hf : yG ps k with
  | none => exact uf ps n out w h
  | some p =>
   simp only
   cases yg out k with
   | true => exact uf ps n out w h
   | false => exact uf ps n _ _ (jz out k h)
theorem ue (ps : List z7) (w : List Str) : rQ (zU ps w) := uf ps _ [] w (by simp [rQ])
theorem vE (ps : List z7) (S : Str → Prop) (hc : ∀ k p m, S k → yG ps k = some p → m ∈ p.zr → (yG ps m).isSome = true → S m) :
 ∀ (n : Nat) (out w : List Str), (∀ k ∈ out, S k) → (∀ k ∈ w, (yG ps k).isSome = true → S k) → ∀ k ∈ y9 xp ps n out w, S k
 | 0, out, w, ho, hw, k, hk => ho k hk
 | n + 1, out, [], ho, hw, k, hk => ho k hk
 | n + 1, out, a :: w, ho, hw, k, hk => by
  rw [y9] at hk
  cases hf : yG ps a with
  | none => rw [hf] at hk; exact vE ps S hc n out w ho (fun x hx => hw x (by simp [hx])) k hk
  | some p =>
   rw [hf] at hk
   simp only at hk
   have ha : S a := hw a (by simp) (by rw [hf]; rfl)
   cases hq : yg out a with
   | true => rw [hq, cond_true] at hk; exact vE ps S hc n out w ho (fun x hx => hw x (by simp [hx])) k hk
   | false =>
    rw [hq, cond_false] at hk
    refine vE ps S hc n (xp out a) (w ++ p.zr) (fun x hx => ?_) (fun x hx hs => ?_) k hk
    · rcases (vw out a x).1 hx with hx | rfl
      · exact ho x hx
      · exact ha
    · rcases List.mem_append.1 hx with hx | hx
      · exact hw x (by simp [hx]) hs
      · exact hc a p x ha hf hx hs
theorem qw (ps : List z7) (w : List Str) (S : Str → Prop) (hc : ∀ k p m, S k → yG ps k = some p → m ∈ p.zr → (yG ps m).isSome = true → S m) (hw : ∀ k ∈ w, (yG ps k).isSome = true → S k) : ∀ k ∈ zU ps w, S k :=
 vE ps S hc _ [] w (by simp) hw
theorem gD (ps : List z7) (w : List Str) {k : Str} (h : k ∈ zU ps w) : (yG ps k).isSome = true := by
 obtain ⟨p, hp⟩ := wZ ps w k h
 rw [hp]; rfl
theorem jJ (ps : List z7) (w : List Str) : zU ps (zU ps w) = zU ps w :=
 rQ.uniq (ue _ _) (ue _ _) fun k => ⟨qw ps (zU ps w) (fun k => k ∈ zU ps w) (fun k p m h1 h2 h3 h4 => vd ps w k p m h1 h2 h3 h4) (fun k hk _ => hk) k,
  fun hk => vU ps _ k hk (gD ps w hk)⟩
theorem ck {g : zz} (h : zZ g = true) {p : z7} (hp : p ∈ g.packs) {m : Str} (hm : m ∈ p.zr) : (yG g.packs m).isSome = true := by
 rw [← vQ]
 exact (wW g.packs none p.zr (ve h p hp).2).2.1 m hm
theorem sd {g : zz} (h : zZ g = true) (w : List Str) {k m : Str} {p : z7} (hk : k ∈ zU g.packs w) (hp : yG g.packs k = some p) (hm : m ∈ p.zr) : m ∈ zU g.packs w :=
 vd g.packs w k p m hk hp hm (ck h (wk hp).1 hm)
theorem tA {keys : List Str} {ps : List z7} {p : z7} : p ∈ xE keys ps ↔ p ∈ ps ∧ keyOf p ∈ keys := by
 unfold xE
 rw [List.mem_filter, pe]
theorem qc {keys : List Str} {ps : List z7} (h : jE ps) : jE (xE keys ps) := List.Pairwise.filter _ h
theorem qe {keys : List Str} {ps : List z7} (h : jE ps) {k : Str} (hk : k ∈ keys) {p : z7} (hp : yG ps k = some p) : yG (xE keys ps) k = some p := by
 obtain ⟨h1, h2, _⟩ := wk hp
 have := tB (qc (keys := keys) h) (tA.2 ⟨h1, by rw [h2]; exact hk⟩)
 rw [h2] at this
 exact this
theorem ct {keys : List Str} {ps : List z7} (h : jE ps) {k : Str} {p : z7} (hp : yG (xE keys ps) k = some p) : yG ps k = some p ∧ k ∈ keys := by
 obtain ⟨h1, h2, _⟩ := wk hp
 obtain ⟨h3, h4⟩ := tA.1 h1
 have := tB h h3
 rw [h2] at this h4
 exact ⟨this, h4⟩
theorem nZ (ps : List z7) : ∀ (o : Option Str) (l : List z7), (∀ p ∈ l, uB p = true ∧ xh ps none p.zr = true) → jE l → (∀ p ∈ l, wL o (keyOf p) = true) → xF ps o l = true
 | o, [], _, _, _ => rfl
 | o, p :: r, h, ha, ho => by
  obtain ⟨h1, h2⟩ := List.pairwise_cons.1 ha
  obtain ⟨h3, h4⟩ := h p (by simp)
  rw [xF, h3, ho p (by simp), h4, nZ ps (some (keyOf p)) r (fun q hq => h q (by simp [hq])) h2 (fun q hq => h1 q hq)]
  rfl
theorem pV (ps : List z7) : ∀ (o : Option Str) (l : List Str), (l.Pairwise fun x y => Op.bytesLess x y = true) → (∀ k ∈ l, kb ps k = true) → (∀ k ∈ l, wL o k = true) → xh ps o l = true
 | o, [], _, _, _ => rfl
 | o, k :: r, ha, hh, ho => by
  obtain ⟨h1, h2⟩ := List.pairwise_cons.1 ha
  rw [xh, hh k (by simp), ho k (by simp), pV ps (some k) r h2 (fun q hq => hh q (by simp [hq])) (fun q hq => h1 q hq)]
  rfl
theorem fR {g : zz} (h : zZ g = true) : zZ (yO g) = true := by
 have hasc := sf h
 have hpk := ve h
 have htop := oS h
 obtain ⟨top, ps⟩ := g
 have hh := h
 unfold yO
 rw [h, cond_true]
 simp only at hasc hpk htop ⊢
 have hin : ∀ k, k ∈ zU ps top → kb (xE (zU ps top) ps) k = true := fun k hk => by
  obtain ⟨p, hp⟩ := wZ ps top k hk
  rw [vQ, qe hasc hk hp]
  rfl
 unfold zZ at h ⊢
 simp only [Bool.and_eq_true, decide_eq_true_eq] at h ⊢
 refine ⟨nZ _ none _ (fun p hp => ?_) (qc hasc) (fun p _ => rfl), ?_, pV _ none _ htop.1 (fun k hk => hin k (vU ps top k hk (by rw [← vQ]; exact htop.2 k hk))) (fun _ _ => rfl)⟩
 · obtain ⟨h1, h2⟩ := tA.1 hp
   obtain ⟨h3, h4⟩ := hpk p h1
   have hk := wW ps none p.zr h4
   refine ⟨h3, pV _ none _ hk.1 (fun m hm => hin m ?_) (fun _ _ => rfl)⟩
   exact sd hh top h2 (tB hasc h1) hm
 · have : (xE (zU ps top) ps).length ≤ ps.length := List.length_filter_le _ _
   omega
theorem Yc {g : zz} (h : zZ g = true) : (zU (yO g).packs (yO g).top).length = (yO g).packs.length := by
 have hasc := sf h
 have hpk := ve h
 have htop := oS h
 obtain ⟨top, ps⟩ := g
 have hh := h
 unfold yO
 rw [h, cond_true]
 simp only at hasc hpk htop ⊢
 have hq := qc (keys := zU ps top) hasc
 have e : zU (xE (zU ps top) ps) top = (xE (zU ps top) ps).map keyOf := by
  refine rQ.uniq (ue _ _) (List.pairwise_map.2 hq) fun k => ⟨fun hk => ?_, fun hk => ?_⟩
  · obtain ⟨p, hp⟩ := wZ _ _ k hk
    obtain ⟨h1, h2, _⟩ := wk hp
    exact List.mem_map.2 ⟨p, h1, h2⟩
  · obtain ⟨p, hp, rfl⟩ := List.mem_map.1 hk
    obtain ⟨h1, h2⟩ := tA.1 hp
    refine qw ps top (fun k => k ∈ zU (xE (zU ps top) ps) top) (fun k p m h3 h4 h5 h6 => ?_) (fun k hk hs => ?_) _ h2
    · obtain ⟨p', hp'⟩ := wZ _ _ k h3
      obtain ⟨q1, q2⟩ := ct hasc hp'
      rw [h4] at q1
      cases q1
      have hm := sd hh top q2 h4 h5
      obtain ⟨pm, hpm⟩ := wZ ps top m hm
      exact vd _ _ k p m h3 hp' h5 (by rw [qe hasc hm hpm]; rfl)
    · have hk' := vU ps top k hk hs
      obtain ⟨pm, hpm⟩ := wZ ps top k hk'
      exact vU _ _ k hk (by rw [qe hasc hk' hpm]; rfl)
 rw [e, List.length_map]
end Go.Proofs.YtonbkdklidfmfaaGreatDoor
/- The law of Reach. Conditions: those of each lemma. -/
namespace Go.Proofs.YtonbkdklidfmfaaGreatDoor
open E
set_option linter.unusedSimpArgs false
set_option linter.unusedVariables false
set_option maxRecDepth 100000
theorem oQ (keys : List Str) : ∀ cs : List z7, (xE keys cs).length ≤ cs.length ∧ z7.yi (xE keys cs) ≤ z7.yi cs
 | [] => ⟨Nat.le_refl _, Nat.le_refl _⟩
 | p :: r => by
  have ih := oQ keys r
  unfold xE at ih ⊢
  rw [List.filter_cons]
  cases yg keys (keyOf p) with
  | true => simp only [if_true, List.length_cons, z7.yi]; omega
  | false => simp only [Bool.false_eq_true, if_false, List.length_cons, z7.yi]; omega
theorem W4 {g : zz} (h : GB g) : GB (yO g) := by
 obtain ⟨top, ps⟩ := g
 unfold yO
 cases zZ ⟨top, ps⟩ with
 | false => exact h
 | true =>
  have := oQ (zU ps top) ps
  unfold GB zz.y7 at h ⊢
  simp only [cond_true] at h ⊢
  omega
theorem Uw (g : zz) (r ns : List Str) (i : Nat) (hr : r.length ≤ 1048576) (hn : ns.length ≤ 1048576) (hin : ∀ m ∈ ns, m ∈ r) : ∀ (rest pre : List Str), ns = pre ++ rest →
 EV Tryz.prog pol (.loop 6 2096422 0 [.ptr 0 0 0, .t (.list 1 (strs r)), .t (.int .i64 (i : Int)), .t (.list 1 (strs ns)), .t (.int .i64 (pre.length : Int))] [.vs 2 [g.enc.map .t]])
  = some (.loop (.exit 2) [.bad, .ptr 0 0 0, .t (.list 1 (strs r)), .t (.int .i64 (i : Int))] [.vs 2 [g.enc.map .t]])
 | [], pre, hs => by
  have c : decide ((pre.length : Int) < (ns.length : Int)) = false := by simp [hs]
  simp only [zz.enc, List.map_cons, List.map_nil]
  refine zj Tryz.func6 rfl rfl ?_
  simp (disch := ((try simp only [LL]); omega)) only [↓GO, ↓DRW, GA, GX, ren, zm, za, refs, z8, cst, zq, isC, bin, una, z6, zd, blt, asArg, zg, zc, zf, z1, E.mkS, unN, ze, zn, zb, GS, simprocAttr, GZ, c, zi, zD]
 | x :: rest, pre, hs => by
  have c : decide ((pre.length : Int) < (ns.length : Int)) = true := by simp [hs]; omega
  have hget : (strs ns)[pre.length]? = some [.str x] := by rw [hs]; exact xl pre x rest
  have hlen : pre.length + rest.length + 1 ≤ ns.length := by rw [hs]; simp; omega
  have d := Qe r x hr (hin x (by rw [hs]; simp))
  have IH := Uw g r ns i hr hn hin rest (pre ++ [x]) (by rw [hs]; simp)
  rw [show ((pre ++ [x]).length : Int) = (pre.length : Int) + 1 by simp] at IH
  clear hs
  simp only [zz.enc, List.map_cons, List.map_nil] at IH ⊢
  refine zj Tryz.func6 rfl rfl ?_
  simp (disch := ((try simp only [LL]); omega)) only [↓GO, ↓DRW, GA, GX, ren, zm, za, refs, z8, cst, zq, isC, bin, una, z6, zd, blt, asArg, zg, zc, zf, z1, E.mkS, unN, ze, zn, zb, GS, simprocAttr, GZ, c, zi, hget, d, Bool.not_true, zk, zD, IH]
theorem Uv (g : zz) (hB : GB g) (r : List Str) (hr : r.length ≤ 1048576) (hin : ∀ k ∈ r, ∃ p, yG g.packs k = some p ∧ ∀ m ∈ p.zr, m ∈ r) : ∀ (rest pre : List Str), r = pre ++ rest →
 EV Tryz.prog pol (.loop 6 16378 0 [.ptr 0 0 0, .t (.list 1 (strs r)), .t (.int .i64 (pre.length : Int))] [.vs 2 [g.enc.map .t]])
  = some (.loop (.exit 0) [.bad, .ptr 0 0 0, .t (.list 1 (strs r))] [.vs 2 [g.enc.map .t]])
 | [], pre, hs => by
  have c : decide ((pre.length : Int) < (r.length : Int)) = false := by simp [hs]
  simp only [zz.enc, List.map_cons, List.map_nil]
  refine zj Tryz.func6 rfl rfl ?_
  simp (disch := ((try simp only [LL]); omega)) only [↓GO, ↓DRW, GA, GX, ren, zm, za, refs, z8, cst, zq, isC, bin, una, z6, zd, blt, asArg, zg, zc, zf, z1, E.mkS, unN, ze, zn, zb, GS, simprocAttr, GZ, c, zi, zD]
 | x :: rest, pre, hs => by
  have c : decide ((pre.length : Int) < (r.length : Int)) = true := by simp [hs]; omega
  have hget : (strs r)[pre.length]? = some [.str x] := by rw [hs]; exact xl pre x rest
  have hlen : pre.length + rest.length + 1 ≤ r.length := by rw [hs]; simp; omega
  obtain ⟨p, hp, hm⟩ := hin x (by rw [hs]; simp)
  obtain ⟨hp1, hp2, j, hj, hpj⟩ := wk hp
  have d1 := iV g x hB
  rw [hj] at d1
  have hgp : (z7.zh g.packs)[j]? = some p.enc := by unfold z7.zh; rw [List.getElem?_map, hpj]; rfl
  have hpb := hB.len.2.2 p hp1
  have L := Uw g r p.zr pre.length hr (by simp only [z7.y7] at hpb; omega) hm p.zr [] rfl
  have IH := Uv g hB r hr hin rest (pre ++ [x]) (by rw [hs]; simp)
  rw [show ((pre ++ [x]).length : Int) = (pre.length : Int) + 1 by simp] at IH
  simp only [List.length_nil, Int.natCast_zero, ixI] at L d1
  clear hs hB hin hpb hp hp1 hp2 hj hpj hm
  obtain ⟨name, version, source, sums, dev, zr⟩ := p
  simp only [zz.enc, z7.enc, List.map_cons, List.map_nil] at d1 hgp L IH ⊢
  refine zj Tryz.func6 rfl rfl ?_
  simp (disch := ((try simp only [LL]); omega)) only [↓GO, ↓DRW, GA, GX, ren, zm, za, refs, z8, cst, zq, isC, bin, una, z6, zd, blt, asArg, zg, zc, zf, z1, E.mkS, unN, ze, zn, zb, GS, simprocAttr, GZ, c, zi, hget, d1, hgp, L, zk, zD, IH]
set_option maxHeartbeats 8000000 in
theorem lQ (code : List Int) (hb : okB code) : zo (EV Tryz.prog pol) 6 [.t (.list 1 (xg code))] = some (.t (.bool true)) := by
 obtain ⟨g, ks, hg, hk1, hk2, d2⟩ := Sv code hb
 obtain ⟨p, hp, d3⟩ := Sw code hb
 have d1 := Rq code
 have hlen := hb.1
 rw [show decide ((code.length : Int) > 1048576) = false by apply decide_eq_false; omega] at d1
 have hBg : GB g := by have := hg.2; unfold GB; omega
 have hBp : GB p := by have := hp.2; unfold GB; omega
 have hBq := W4 hBp
 have d6 := c_prp p hBp
 have d7 := c_prR p hBp
 have d9 := Q4 (yO p) hBq
 have d11 := lz p hBp
 have d15 := lz g hBg
 have hgl := hBg.len
 have hpl := hBp.len
 have hrl := pN g.packs ks
 have tail : ∀ (r : List Str), r.length ≤ 1048576 → rQ r → zo (EV Tryz.prog pol) 23 [.agg (g.enc.map .t), .t (.list 1 (strs ks))] = some (.t (.list 1 (strs r))) → zo (EV Tryz.prog pol) 27 [.agg (g.enc.map .t), .t (.list 1 (strs ks))] = some (.t (.list 1 (strs r))) →
  (zZ p = true → (zZ g = true → (∃ L, (EV Tryz.prog pol (.loop 6 16378 0 [.ptr 0 0 0, .t (.list 1 (strs r)), .t (.int .i64 0)] [.vs 2 [g.enc.map .t]]) = some L) ∧ L = .loop (.exit 0) [.bad, .ptr 0 0 0, .t (.list 1 (strs r))] [.vs 2 [g.enc.map .t]]) ∧ zo (EV Tryz.prog pol) 23 [.agg (g.enc.map .t), .t (.list 1 (strs r))] = some (.t (.list 1 (strs r)))) ∧ (zZ g = false → r = [])) →
  zo (EV Tryz.prog pol) 6 [.t (.list 1 (xg code))] = some (.t (.bool true)) := fun r hr ha d4 d5 hcase => by
  have d8 := nA r hr
  have d10 := Wv r hr ha
  cases hop : zZ p with
  | false =>
   have hq : yO p = p := by unfold yO; rw [hop]; rfl
   rw [hq] at d6 d7 d9
   rw [hop] at d11
   clear hcase hb hBg hBp hBq ha hop hq d15 hgl hpl
   obtain ⟨top, ps⟩ := g
   obtain ⟨top', ps'⟩ := p
   simp only [zz.enc, List.map_cons, List.map_nil] at d2 d3 d4 d5 d6 d7 d9 d11 ⊢
   apply zw
   refine zy rfl Tryz.func6 rfl (by kernel_rfl) ?_
   unfold Tryz.f6
   simp (maxSteps := 1000000) (disch := ((try simp only [LL]); omega)) only [↓GO, ↓DRW, GA, GX, ren, zm, za, refs, z8, cst, zq, isC, bin, una, z6, zd, blt, asArg, zg, zc, zf, z1, E.mkS, unN, ze, zn, zb, GS, simprocAttr, zH, zI, x8, yX, x6, x5, x9, gh1, yW, yN, yQ, zW, mkO, yC, yr, yt, mvC, unO, ye, x7, yZ, yU, zN, yV, yT, y8, oc, oTs, oT, zS, zS.rowTs, yP, isL, Bool.not_false, Bool.true_and, Bool.and_true, Bool.and_self, List.flatMap_append, List.map_append, List.set_cons_zero, List.set_cons_succ, GZ, d1, d2, d3, d4, d5, d6, d7, d8, d9, d10, d11, Bool.not_true, Bool.not_false, zD]
  | true =>
   have d12 := qt (yO p) hBq
   rw [fR hop] at d12
   have d13 := dO (yO p) hBq (yO p).top (by have := hBq.len.2.1; omega) (fR hop)
   have hlq := Yc hop
   have htq : (yO p).top = p.top := by unfold yO; rw [hop]; rfl
   have d14 := nA p.top (by have := hpl.2.1; omega)
   rw [hop] at d11
   obtain ⟨k1, k2⟩ := hcase hop
   have cq : (((zU (yO p).packs (yO p).top).length : Int) != ((yO p).packs.length : Int)) = false := by rw [hlq]; simp
   cases hog : zZ g with
   | false =>
    obtain rfl := k2 hog
    rw [hog] at d15
    clear k1 k2 hcase hb hBg hBp hBq ha hop hog hgl hpl hlq
    generalize yO p = q at *
    obtain ⟨top, ps⟩ := g
    obtain ⟨top', ps'⟩ := p
    obtain ⟨top2, ps2⟩ := q
    simp only at htq
    subst htq
    simp only [zz.enc, List.map_cons, List.map_nil] at d2 d3 d4 d5 d6 d7 d9 d11 d12 d13 d14 d15 cq ⊢
    have e0 : ((([] : List Str).length : Int) == 0) = true := rfl
    generalize zU ps2 top2 = rq at *
    simp only [show strs [] = [] from rfl] at d4 d5 d8 d10
    apply zw
    refine zy rfl Tryz.func6 rfl (by kernel_rfl) ?_
    unfold Tryz.f6
    simp (maxSteps := 1000000) (disch := ((try simp only [LL]); omega)) only [↓GO, ↓DRW, GA, GX, ren, zm, za, refs, z8, cst, zq, isC, bin, una, z6, zd, blt, asArg, zg, zc, zf, z1, E.mkS, unN, ze, zn, zb, GS, simprocAttr, zH, zI, x8, yX, x6, x5, x9, gh1, yW, yN, yQ, zW, mkO, yC, yr, yt, mvC, unO, ye, x7, yZ, yU, zN, yV, yT, y8, oc, oTs, oT, zS, zS.rowTs, yP, isL, Bool.not_false, Bool.true_and, Bool.and_true, Bool.and_self, List.flatMap_append, List.map_append, List.set_cons_zero, List.set_cons_succ, GZ, d1, d2, d3, d4, d5, d6, d7, d8, d9, d10, d11, d12, d13, d14, d15, cq, e0, zi, z7.zu, List.length_nil, Bool.not_true, Bool.not_false, zD]
   | true =>
    obtain ⟨⟨L, hL, hL2⟩, d16⟩ := k1 hog
    subst hL2
    rw [hog] at d15
    clear k1 k2 hcase hb hBg hBp hBq ha hop hog hgl hpl hlq
    generalize yO p = q at *
    obtain ⟨top, ps⟩ := g
    obtain ⟨top', ps'⟩ := p
    obtain ⟨top2, ps2⟩ := q
    simp only at htq
    subst htq
    simp only [zz.enc, List.map_cons, List.map_nil] at d2 d3 d4 d5 d6 d7 d9 d11 d12 d13 d14 d15 d16 cq hL ⊢
    generalize zU ps2 top2 = rq at *
    apply zw
    refine zy rfl Tryz.func6 rfl (by kernel_rfl) ?_
    unfold Tryz.f6
    simp (maxSteps := 1000000) (disch := ((try simp only [LL]); omega)) only [↓GO, ↓DRW, GA, GX, ren, zm, za, refs, z8, cst, zq, isC, bin, una, z6, zd, blt, asArg, zg, zc, zf, z1, E.mkS, unN, ze, zn, zb, GS, simprocAttr, zH, zI, x8, yX, x6, x5, x9, gh1, yW, yN, yQ, zW, mkO, yC, yr, yt, mvC, unO, ye, x7, yZ, yU, zN, yV, yT, y8, oc, oTs, oT, zS, zS.rowTs, yP, isL, Bool.not_false, Bool.true_and, Bool.and_true, Bool.and_self, List.flatMap_append, List.map_append, List.set_cons_zero, List.set_cons_succ, GZ, d1, d2, d3, d4, d5, d6, d7, d8, d9, d10, d11, d12, d13, d14, d15, d16, cq, hL, zi, z7.zu, Bool.not_true, Bool.not_false, zD]
 cases hog : zZ g with
 | false =>
  exact tail [] (by simp) (by simp [rQ]) (Wy g hBg ks hog) (Wx g hBg ks (by omega) hog) fun _ => ⟨fun h => (by rw [hog] at h; cases h), fun _ => rfl⟩
 | true =>
  have hrl' : (zU g.packs ks).length ≤ 1048576 := by omega
  refine tail (zU g.packs ks) hrl' (ue _ _) (dO g hBg ks (by omega) hog) (Rn g hBg ks (by omega) hog) fun _ => ⟨fun _ => ⟨⟨_, ?_, rfl⟩, ?_⟩, fun h => (by rw [hog] at h; cases h)⟩
  · have := Uv g hBg (zU g.packs ks) hrl' (fun k hk => by
     obtain ⟨p, hp⟩ := wZ _ _ k hk
     exact ⟨p, hp, fun m hm => sd hog ks hk hp hm⟩) (zU g.packs ks) [] rfl
    simp only [List.length_nil, Int.natCast_zero] at this
    exact this
  · have := dO g hBg (zU g.packs ks) hrl' hog
    rw [jJ] at this
    exact this
theorem cF (code : List Int) (hc : ∀ b ∈ code, 0 ≤ b ∧ b ≤ 255) : zo (EV Tryz.prog pol) 6 [.t (.list 1 (xg code))] = some (.t (.bool true)) := by
 by_cases h : code.length ≤ 1048576
 · exact lQ code ⟨h, hc⟩
 · have d1 := Rq code
   rw [show decide ((code.length : Int) > 1048576) = true by apply decide_eq_true; omega] at d1
   apply zw
   refine zy rfl Tryz.func6 rfl (by kernel_rfl) ?_
   unfold Tryz.f6
   simp (maxSteps := 1000000) (disch := ((try simp only [LL]); omega)) only [↓GO, ↓DRW, GA, GX, ren, zm, za, refs, z8, cst, zq, isC, bin, una, z6, zd, blt, asArg, zg, zc, zf, z1, E.mkS, unN, ze, zn, zb, GS, simprocAttr, zH, zI, x8, yX, x6, x5, x9, gh1, yW, yN, yQ, zW, mkO, yC, yr, yt, mvC, unO, ye, x7, yZ, yU, zN, yV, yT, y8, oc, oTs, oT, zS, zS.rowTs, yP, isL, Bool.not_false, Bool.true_and, Bool.and_true, Bool.and_self, List.flatMap_append, List.map_append, List.set_cons_zero, List.set_cons_succ, GZ, d1, zD]
end Go.Proofs.YtonbkdklidfmfaaGreatDoor
/- The law FnReach at what is handed in. Conditions: none. -/
namespace Go.Proofs.YtonbkdklidfmfaaGreatDoor
open E
set_option linter.unusedSimpArgs false
set_option linter.unusedVariables false
set_option maxRecDepth 100000
theorem V3 {cs : List T} (h : WT Tryz.prog 40 cs) : ∃ bs : List Int, cs = [.list 1 (xg bs)] ∧ ∀ b ∈ bs, 0 ≤ b ∧ b ≤ 255 := by
 obtain ⟨es, e1, e2, e3⟩ := h.Wi Tryz.underlying40
 have k0 : Tryz.prog.cellsOf 5 = 1 := by kernel_rfl
 have key : ∀ es : List (List T), (∀ c ∈ es, WT Tryz.prog 5 c) → ∃ bs : List Int, es = xg bs ∧ ∀ b ∈ bs, 0 ≤ b ∧ b ≤ 255 := fun es => by
  induction es with
  | nil => exact fun _ => ⟨[], rfl, fun b hb => by simp at hb⟩
  | cons c es ih =>
   intro h
   obtain ⟨bs, a1, a2⟩ := ih fun c' hc => h c' (by simp [hc])
   obtain ⟨n, a3, a4⟩ := (h c (by simp)).TX Tryz.underlying5
   refine ⟨n :: bs, by simp [xg, a1, a3], fun b hb => ?_⟩
   rcases List.mem_cons.1 hb with rfl | hb
   · simp [Lit.wf, IntKind.min, IntKind.max, IntKind.bits, IntKind.signed] at a4
     omega
   · exact a2 b hb
 obtain ⟨bs, a1, a2⟩ := key es e3
 subst a1
 exact ⟨bs, by rw [e1, k0], a2⟩
theorem W3 (xs : List V) (h : WTA Tryz.prog [40] xs) : EV Tryz.prog pol (.call 6 xs []) = some (.call (.t (.bool true)) []) := by
 obtain ⟨cs, v, vs, rfl, h1, h2, h3⟩ := h.Wj
 have := h3.TW
 subst this
 obtain ⟨bs, rfl, hb⟩ := V3 h1
 have e0 : zM Tryz.prog 40 = false := by kernel_rfl
 rw [e0] at h2
 simp [zd] at h2
 subst h2
 have hq := cF bs hb
 unfold zo at hq
 split at hq
 · rename_i v he; cases hq; exact he
 · cases hq
end Go.Proofs.YtonbkdklidfmfaaGreatDoor

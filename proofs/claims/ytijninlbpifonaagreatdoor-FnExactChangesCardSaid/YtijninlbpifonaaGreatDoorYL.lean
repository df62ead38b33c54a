/- Joined: K7 K8 V4 K9 G3 V5 V6 V7 V8 V9 V10 V11 K25 I4 V12 V13. Conditions: those of each lemma. -/
import Derived.Test.YtijninlbpifonaaGreatDoorYK
import Derived.Test.YtijninlbpifonaaGreatDoorYI
import Derived.Test.YtijninlbpifonaaGreatDoorYJ
import Derived.Test.YtijninlbpifonaaGreatDoorYH
set_option linter.unusedVariables false
set_option linter.unusedSimpArgs false
namespace Go.Proofs.YtijninlbpifonaaGreatDoor
open E
set_option linter.unusedSimpArgs false
set_option linter.unusedVariables false
set_option maxRecDepth 100000
theorem gB (p : zg) (hb : p.zO ≤ 4194304) : zk (EV Tryz.prog pol) 50 [.agg (p.enc.map .t)] = some (.t (.str (keyOf p))) := by
 obtain ⟨name, version, source, sums, dev, needs⟩ := p
 simp only [zg.zO] at hb
 simp only [zg.enc, List.map_cons, List.map_nil, keyOf]
 apply zq
 refine zr rfl Tryz.func50 rfl (by kernel_rfl) ?_
 unfold Tryz.f50
 simp (disch := ((try simp only [LL]); omega)) only [↓GO, ↓DRW, GA, GX, ren, zm, z8, refs, z7, cst, zo, isC, bin, una, z6, zc, blt, asArg, ze, zb, zf, z1, E.mkS, unN, zd, zn, za, GS, simprocAttr, GZ, xf]
theorem gA (p : zg) (hb : p.zO ≤ 4194304) : zk (EV Tryz.prog pol) 114 [.agg (p.enc.map .t)] = some (.t (.str (keyOf p))) := by
 obtain ⟨name, version, source, sums, dev, needs⟩ := p
 simp only [zg.zO] at hb
 simp only [zg.enc, List.map_cons, List.map_nil, keyOf]
 apply zq
 refine zr rfl Tryz.func114 rfl (by kernel_rfl) ?_
 unfold Tryz.f114
 simp (disch := ((try simp only [LL]); omega)) only [↓GO, ↓DRW, GA, GX, ren, zm, z8, refs, z7, cst, zo, isC, bin, una, z6, zc, blt, asArg, ze, zb, zf, z1, E.mkS, unN, zd, zn, za, GS, simprocAttr, GZ, xf]
theorem c_slI (a : Str) : zk (EV Tryz.prog pol) 277 [.t (.str a)] = some (.t (.int .i64 (tB a))) := by
 unfold tB Sm iO h1S iN
 cases h1 : (a == [115, 104, 97, 49]) <;> cases h2 : (a == [115, 104, 97, 50, 53, 54]) <;> cases h3 : (a == [104, 49]) <;> cases h4 : (a == [115, 104, 97, 53, 49, 50])
 all_goals
  apply zq
  refine zr rfl Tryz.func277 rfl (by kernel_rfl) ?_
  unfold Tryz.f277
  simp (disch := ((try simp only [LL]); omega)) only [↓GO, ↓DRW, GA, GX, ren, zm, z8, refs, z7, cst, zo, isC, bin, una, z6, zc, blt, asArg, ze, zb, zf, z1, E.mkS, unN, zd, zn, za, GS, simprocAttr, GZ, h1, h2, h3, h4]
theorem c_slR (a : Str) : zk (EV Tryz.prog pol) 216 [.t (.str a)] = some (.t (.int .i64 (tB a))) := by
 unfold tB Sm iO h1S iN
 cases h1 : (a == [115, 104, 97, 49]) <;> cases h2 : (a == [115, 104, 97, 50, 53, 54]) <;> cases h3 : (a == [104, 49]) <;> cases h4 : (a == [115, 104, 97, 53, 49, 50])
 all_goals
  apply zq
  refine zr rfl Tryz.func216 rfl (by kernel_rfl) ?_
  unfold Tryz.f216
  simp (disch := ((try simp only [LL]); omega)) only [↓GO, ↓DRW, GA, GX, ren, zm, z8, refs, z7, cst, zo, isC, bin, una, z6, zc, blt, asArg, ze, zb, zf, z1, E.mkS, unN, zd, zn, za, GS, simprocAttr, GZ, h1, h2, h3, h4]
theorem ZC (es : List zF) (hl : es.length ≤ 4194304) : ∀ (rest pre : List zF), es = pre ++ rest →
 EV Tryz.prog pol (.loop 219 26 0 [.t (.list 2 (zF.zA es)), .t (.list 2 (zF.zA es)), .t (.int .i64 (es.length : Int)), .t (.int .i64 (pre.length : Int))] []) = some (cond (vg (pre.getLast?.map zF.alg) rest) (.loop (.exit 0) [.bad] []) (.loop .ret [.t (.bool false)] []))
 | [], pre, hs => by
  have c : decide ((pre.length : Int) < (es.length : Int)) = false := by simp [hs]
  refine zh Tryz.func219 rfl rfl ?_
  simp (disch := ((try simp only [LL]); omega)) only [↓GO, ↓DRW, GA, GX, ren, zm, z8, refs, z7, cst, zo, isC, bin, una, z6, zc, blt, asArg, ze, zb, zf, z1, E.mkS, unN, zd, zn, za, GS, simprocAttr, GZ, c, vg]
 | x :: rest, pre, hs => by
  have c : decide ((pre.length : Int) < (es.length : Int)) = true := by simp [hs]; omega
  have hget : (zF.zA es)[pre.length]? = some [.str x.alg, .str x.bytes] := by rw [hs]; exact pe zF.enc pre x rest
  have hlen : pre.length + rest.length + 1 ≤ es.length := by rw [hs]; simp; omega
  have IH := ZC es hl rest (pre ++ [x]) (by rw [hs]; simp)
  have hk := c_slI x.alg
  rw [show ((pre ++ [x]).length : Int) = (pre.length : Int) + 1 by simp, show (pre ++ [x]).getLast?.map zF.alg = some x.alg by simp] at IH
  rw [vg]
  generalize tB x.alg = n at *
  rcases w5 pre with rfl | ⟨pre', q, rfl⟩
  · clear hs
    simp only [List.length_nil, List.getLast?_nil, Option.map_none, vZ, Int.natCast_zero, Int.zero_add] at *
    cases h1 : ((x.bytes.length : Int) == n)
    all_goals
     refine zh Tryz.func219 rfl rfl ?_
     simp (disch := ((try simp only [LL]); omega)) only [↓GO, ↓DRW, GA, GX, ren, zm, z8, refs, z7, cst, zo, isC, bin, una, z6, zc, blt, asArg, ze, zb, zf, z1, E.mkS, unN, zd, zn, za, GS, simprocAttr, GZ, zF.zx, c, hget, zi, hk, h1, bne, IH, Int.zero_add]
  · have hprev : vJ (zF.zA es) (((pre' ++ [q]).length : Int) - 1) = some [.str q.alg, .str q.bytes] := by rw [hs]; exact uK zF.enc pre' q (x :: rest)
    have hge : 1 ≤ (pre' ++ [q]).length := by simp
    have hgt : decide (((pre' ++ [q]).length : Int) > 0) = true := by simp only [decide_eq_true_eq]; omega
    have hcmp := rl x.alg q.alg
    rw [show (pre' ++ [q]).getLast?.map zF.alg = some q.alg by simp]
    simp only [vZ]
    clear hs
    generalize (pre' ++ [q]).length = m at *
    cases h1 : ((x.bytes.length : Int) == n) <;> cases h2 : Op.bytesLess q.alg x.alg <;> rw [h2] at hcmp
    all_goals
     refine zh Tryz.func219 rfl rfl ?_
     simp (disch := ((try simp only [LL]); omega)) only [↓GO, ↓DRW, GA, GX, ren, zm, z8, refs, z7, cst, zo, isC, bin, una, z6, zc, blt, asArg, ze, zb, zf, z1, E.mkS, unN, zd, zn, za, GS, simprocAttr, GZ, zF.zx, c, hget, zi, hk, h1, bne, hgt, hprev, hcmp, IH]
theorem RQ (es : List zF) (hl : es.length ≤ 4194304) : zk (EV Tryz.prog pol) 219 [.t (.list 2 (zF.zA es))] = some (.t (.bool (vg none es))) := by
 have IH := ZC es hl es [] rfl
 simp only [List.length_nil, Int.natCast_zero, List.getLast?_nil, Option.map_none] at IH
 apply zq
 refine zr rfl Tryz.func219 rfl (by kernel_rfl) ?_
 unfold Tryz.f219
 cases h : vg none es <;> rw [h] at IH <;> simp only [cond_true, cond_false] at IH <;> simp (disch := ((try simp only [LL]); omega)) only [↓GO, ↓DRW, GA, GX, ren, zm, z8, refs, z7, cst, zo, isC, bin, una, z6, zc, blt, asArg, ze, zb, zf, z1, E.mkS, unN, zd, zn, za, GS, simprocAttr, GZ, zF.zx, IH]
theorem ZD (p : zg) (hb : p.zO ≤ 4194304) : ∀ (rest pre : List zF), p.sums = pre ++ rest →
 EV Tryz.prog pol (.loop 129 26 0 [.ptr 0 0 0, .t (.int .i64 (pre.length : Int))] [.vs 6 [p.enc.map .t]]) = some (cond (vg (pre.getLast?.map zF.alg) rest) (.loop (.exit 0) [.ptr 0 0 0, .bad] [.vs 6 [p.enc.map .t]]) (.loop .ret [.ptr 0 0 0, .t (.bool false)] [.vs 6 [p.enc.map .t]]))
 | [], pre, hs => by
  have c : decide ((pre.length : Int) < (p.sums.length : Int)) = false := by simp [hs]
  simp only [zg.enc, List.map_cons, List.map_nil]
  refine zh Tryz.func129 rfl rfl ?_
  simp (disch := ((try simp only [LL]); omega)) only [↓GO, ↓DRW, GA, GX, ren, zm, z8, refs, z7, cst, zo, isC, bin, una, z6, zc, blt, asArg, ze, zb, zf, z1, E.mkS, unN, zd, zn, za, GS, simprocAttr, GZ, c, zF.zx, vg, zD]
 | x :: rest, pre, hs => by
  have c : decide ((pre.length : Int) < (p.sums.length : Int)) = true := by simp [hs]; omega
  have hget : (zF.zA p.sums)[pre.length]? = some [.str x.alg, .str x.bytes] := by rw [hs]; exact pe zF.enc pre x rest
  have hlen : pre.length + rest.length + 1 ≤ p.sums.length := by rw [hs]; simp; omega
  have hpb : p.sums.length ≤ 4194304 := by unfold zg.zO at hb; omega
  have IH := ZD p hb rest (pre ++ [x]) (by rw [hs]; simp)
  have hk := c_slR x.alg
  rw [show ((pre ++ [x]).length : Int) = (pre.length : Int) + 1 by simp, show (pre ++ [x]).getLast?.map zF.alg = some x.alg by simp] at IH
  rw [vg]
  have hco : ((x.bytes.length : Int) == tB x.alg) = (tB x.alg == (x.bytes.length : Int)) := Bool.beq_comm
  rw [hco]
  generalize tB x.alg = n at *
  simp only [zg.enc, List.map_cons, List.map_nil] at IH ⊢
  rcases w5 pre with rfl | ⟨pre', q, rfl⟩
  · clear hs
    simp only [List.length_nil, List.getLast?_nil, Option.map_none, vZ, Int.natCast_zero, Int.zero_add] at *
    cases h1 : (n == (x.bytes.length : Int))
    all_goals
     refine zh Tryz.func129 rfl rfl ?_
     simp (disch := ((try simp only [LL]); omega)) only [↓GO, ↓DRW, GA, GX, ren, zm, z8, refs, z7, cst, zo, isC, bin, una, z6, zc, blt, asArg, ze, zb, zf, z1, E.mkS, unN, zd, zn, za, GS, simprocAttr, GZ, zF.zx, c, hget, zi, hk, h1, bne, IH, Int.zero_add, zD]
  · have hprev : vJ (zF.zA p.sums) (((pre' ++ [q]).length : Int) - 1) = some [.str q.alg, .str q.bytes] := by rw [hs]; exact uK zF.enc pre' q (x :: rest)
    have hge : 1 ≤ (pre' ++ [q]).length := by simp
    have hgt : decide (((pre' ++ [q]).length : Int) > 0) = true := by simp only [decide_eq_true_eq]; omega
    rw [show (pre' ++ [q]).getLast?.map zF.alg = some q.alg by simp]
    simp only [vZ]
    clear hs
    generalize (pre' ++ [q]).length = m at *
    cases h1 : (n == (x.bytes.length : Int)) <;> cases h2 : Op.bytesLess q.alg x.alg
    all_goals
     refine zh Tryz.func129 rfl rfl ?_
     simp (disch := ((try simp only [LL]); omega)) only [↓GO, ↓DRW, GA, GX, ren, zm, z8, refs, z7, cst, zo, isC, bin, una, z6, zc, blt, asArg, ze, zb, zf, z1, E.mkS, unN, zd, zn, za, GS, simprocAttr, GZ, zF.zx, c, hget, zi, hk, h1, bne, hgt, hprev, h2, IH, zD]
theorem Ry (s : Str) : ((exT s).length : Int) = cond (vh s).isSome 1 0 := by
 unfold exT
 cases vh s <;> rfl
theorem RS (p : zg) (hb : p.zO ≤ 1048576) : zk (EV Tryz.prog pol) 129 [.agg (p.enc.map .t)] = some (.t (.bool (qu p))) := by
 have L := ZD p (by omega) p.sums [] rfl
 simp only [zg.zO] at hb
 have h1 := RW p.name (by omega)
 have h2 := c_exR p.version (by omega)
 have h3 := Uy p.source (by omega)
 have h4 := Ry p.version
 simp only [List.length_nil, Int.natCast_zero, List.getLast?_nil, Option.map_none] at L
 simp only [zg.enc, List.map_cons, List.map_nil] at L ⊢
 unfold qu
 generalize exT p.version = et at *
 generalize vg none p.sums = b1 at *
 generalize sH p.name = b2 at *
 generalize tu p.source = b3 at *
 generalize (vh p.version).isSome = b4 at *
 cases b1 <;> simp only [cond_true, cond_false] at L <;> cases b2 <;> cases b4 <;> simp only [cond_true, cond_false] at h4 <;> cases b3
 all_goals
  apply zq
  refine zr rfl Tryz.func129 rfl (by kernel_rfl) ?_
  unfold Tryz.f129
  simp (disch := ((try simp only [LL]); omega)) only [↓GO, ↓DRW, GA, GX, ren, zm, z8, refs, z7, cst, zo, isC, bin, una, z6, zc, blt, asArg, ze, zb, zf, z1, E.mkS, unN, zd, zn, za, GS, simprocAttr, GZ, L, h1, h2, h3, h4, zD, zF.zx]
theorem Ui (s : Str) : ((exT s).length : Int) = cond (vh s).isSome 1 0 := by
 unfold exT
 cases vh s <;> rfl
theorem RU (p : zg) (hb : p.zO ≤ 1048576) : zk (EV Tryz.prog pol) 131 [.agg (p.enc.map .t)] = some (.t (.bool (qu p))) := by
 simp only [zg.zO] at hb
 have L := RQ p.sums (by omega)
 have h1 := RX p.name (by omega)
 have h2 := c_exI p.version (by omega)
 have h3 := Uz p.source (by omega)
 have h4 := Ui p.version
 simp only [zg.enc, List.map_cons, List.map_nil]
 unfold qu
 generalize exT p.version = et at *
 generalize vg none p.sums = b1 at *
 generalize sH p.name = b2 at *
 generalize tu p.source = b3 at *
 generalize (vh p.version).isSome = b4 at *
 cases b1 <;> cases b2 <;> cases b4 <;> simp only [cond_true, cond_false] at h4 <;> cases b3
 all_goals
  apply zq
  refine zr rfl Tryz.func131 rfl (by kernel_rfl) ?_
  unfold Tryz.f131
  simp (disch := ((try simp only [LL]); omega)) only [↓GO, ↓DRW, GA, GX, ren, zm, z8, refs, z7, cst, zo, isC, bin, una, z6, zc, blt, asArg, ze, zb, zf, z1, E.mkS, unN, zd, zn, za, GS, simprocAttr, GZ, L, h1, h2, h3, h4, zD, zF.zx]
/-- graphs of bounded size -/
def GB (g : zy) : Prop := g.zO ≤ 1048576
theorem GB.len {g : zy} (h : GB g) : g.packs.length ≤ 1048576 ∧ g.top.length + ya g.top ≤ 1048576 ∧ ∀ p ∈ g.packs, p.zO ≤ 1048576 := by
 unfold GB zy.zO at h
 refine ⟨by omega, by omega, fun p hp => ?_⟩
 have := zg.zY hp
 omega
theorem Q2 (p : zg) (k : Str) (hb : p.zO ≤ 1048576) : zk (EV Tryz.prog pol) 134 [.agg (p.enc.map .t), .t (.fp [.str k])] = some (.t (.bool (keyOf p == k))) := by
 have h := gB p (by omega)
 simp only [zg.enc, List.map_cons, List.map_nil] at h ⊢
 apply zq
 refine zr rfl Tryz.func134 rfl (by kernel_rfl) ?_
 unfold Tryz.f134
 simp (disch := ((try simp only [LL]); omega)) only [↓GO, ↓DRW, GA, GX, ren, zm, z8, refs, z7, cst, zo, isC, bin, una, z6, zc, blt, asArg, ze, zb, zf, z1, E.mkS, unN, zd, zn, za, GS, simprocAttr, GZ, h]
theorem Yp (g : zy) (k : Str) (hB : GB g) : zk (EV Tryz.prog pol) 45 [.agg (g.enc.map .t), .t (.str k)] = some (.t (.int .i64 (ixI (py g.packs k)))) := by
 obtain ⟨b1, b2, b3⟩ := hB.len
 have h := fc 134 [.fp [.str k]] (fun p => keyOf p == k) g.packs (by omega) (fun x hx => Q2 x k (b3 x hx))
 simp only [zy.enc, List.map_cons, List.map_nil] at h ⊢
 unfold py
 apply zq
 refine zr rfl Tryz.func45 rfl (by kernel_rfl) ?_
 unfold Tryz.f45
 simp (disch := ((try simp only [LL]); omega)) only [↓GO, ↓DRW, GA, GX, ren, zm, z8, refs, z7, cst, zo, isC, bin, una, z6, zc, blt, asArg, ze, zb, zf, z1, E.mkS, unN, zd, zn, za, GS, simprocAttr, GZ, h, tV, zD]
theorem ZK (g : zy) (k : Str) (hB : GB g) : ∀ (rest pre : List zg), g.packs = pre ++ rest →
 EV Tryz.prog pol (.loop 113 26 0 [.t (.str k), .ptr 0 0 0, .t (.int .i64 (pre.length : Int))] [.vs 2 [g.enc.map .t]]) = some (match wJ (fun p => keyOf p == k) rest pre.length with | some i => .loop .ret [.t (.int .i64 (i : Int))] [] | none => .loop (.exit 0) [.bad] [])
 | [], pre, hs => by
  have c : decide ((pre.length : Int) < (g.packs.length : Int)) = false := by simp [hs]
  simp only [zy.enc, List.map_cons, List.map_nil]
  refine zh Tryz.func113 rfl rfl ?_
  simp (disch := ((try simp only [LL]); omega)) only [↓GO, ↓DRW, GA, GX, ren, zm, z8, refs, z7, cst, zo, isC, bin, una, z6, zc, blt, asArg, ze, zb, zf, z1, E.mkS, unN, zd, zn, za, GS, simprocAttr, GZ, c, zg.zx, wJ, zD]
 | x :: rest, pre, hs => by
  obtain ⟨b1, b2, b3⟩ := hB.len
  have c : decide ((pre.length : Int) < (g.packs.length : Int)) = true := by simp [hs]; omega
  have hget : (zg.zA g.packs)[pre.length]? = some x.enc := by rw [hs]; exact pe zg.enc pre x rest
  have hlen : pre.length + rest.length + 1 ≤ g.packs.length := by rw [hs]; simp; omega
  have hk := gA x (by have := b3 x (by rw [hs]; simp); omega)
  have IH := ZK g k hB rest (pre ++ [x]) (by rw [hs]; simp)
  rw [show ((pre ++ [x]).length : Int) = (pre.length : Int) + 1 by simp, show (pre ++ [x]).length = pre.length + 1 by simp] at IH
  clear hs
  simp only [zy.enc, zg.enc, List.map_cons, List.map_nil] at hget hk IH ⊢
  rw [wJ]
  cases h1 : (keyOf x == k)
  all_goals
   refine zh Tryz.func113 rfl rfl ?_
   simp (disch := ((try simp only [LL]); omega)) only [↓GO, ↓DRW, GA, GX, ren, zm, z8, refs, z7, cst, zo, isC, bin, una, z6, zc, blt, asArg, ze, zb, zf, z1, E.mkS, unN, zd, zn, za, GS, simprocAttr, GZ, c, zg.zx, hget, hk, h1, zi, IH, zD]
theorem Yo (g : zy) (k : Str) (hB : GB g) : zk (EV Tryz.prog pol) 113 [.agg (g.enc.map .t), .t (.str k)] = some (.t (.int .i64 (ixI (py g.packs k)))) := by
 have L := ZK g k hB g.packs [] rfl
 simp only [List.length_nil, Int.natCast_zero] at L
 simp only [zy.enc, List.map_cons, List.map_nil] at L ⊢
 unfold py
 cases hf : wJ (fun p => keyOf p == k) g.packs 0 <;> rw [hf] at L <;> simp only at L
 all_goals
  apply zq
  refine zr rfl Tryz.func113 rfl (by kernel_rfl) ?_
  unfold Tryz.f113
  simp (disch := ((try simp only [LL]); omega)) only [↓GO, ↓DRW, GA, GX, ren, zm, z8, refs, z7, cst, zo, isC, bin, una, z6, zc, blt, asArg, ze, zb, zf, z1, E.mkS, unN, zd, zn, za, GS, simprocAttr, GZ, L, ixI, zD]
theorem ZJ (g : zy) (hB : GB g) (ks : List Str) (hl : ks.length ≤ 1048576) : ∀ (rest pre : List Str), ks = pre ++ rest →
 EV Tryz.prog pol (.loop 132 26 0 [.t (.list 1 (strs ks)), .ptr 0 0 0, .t (.list 1 (strs ks)), .t (.int .i64 (ks.length : Int)), .t (.int .i64 (pre.length : Int))] [.vs 2 [g.enc.map .t]]) = some (cond (xM g.packs pre.getLast? rest) (.loop (.exit 0) [.bad] []) (.loop .ret [.t (.bool false)] []))
 | [], pre, hs => by
  have c : decide ((pre.length : Int) < (ks.length : Int)) = false := by simp [hs]
  simp only [zy.enc, List.map_cons, List.map_nil]
  refine zh Tryz.func132 rfl rfl ?_
  simp (disch := ((try simp only [LL]); omega)) only [↓GO, ↓DRW, GA, GX, ren, zm, z8, refs, z7, cst, zo, isC, bin, una, z6, zc, blt, asArg, ze, zb, zf, z1, E.mkS, unN, zd, zn, za, GS, simprocAttr, GZ, c, xM, zD]
 | x :: rest, pre, hs => by
  have c : decide ((pre.length : Int) < (ks.length : Int)) = true := by simp [hs]; omega
  have hget : (strs ks)[pre.length]? = some [.str x] := by rw [hs]; exact xJ pre x rest
  have hlen : pre.length + rest.length + 1 ≤ ks.length := by rw [hs]; simp; omega
  have IH := ZJ g hB ks hl rest (pre ++ [x]) (by rw [hs]; simp)
  have hk := Yp g x hB
  have hlt := S1 (fun p => keyOf p == x) g.packs
  rw [show ((pre ++ [x]).length : Int) = (pre.length : Int) + 1 by simp, show (pre ++ [x]).getLast? = some x by simp] at IH
  rw [xM]
  unfold GY
  unfold py at hk
  generalize ixI (wJ (fun p => keyOf p == x) g.packs 0) = n at *
  generalize (g.packs.any fun p => keyOf p == x) = b1 at *
  simp only [zy.enc, List.map_cons, List.map_nil] at hk IH ⊢
  rcases w5 pre with rfl | ⟨pre', q, rfl⟩
  · clear hs
    simp only [List.length_nil, List.getLast?_nil, vZ, Int.natCast_zero, Int.zero_add] at *
    cases b1 <;> simp only [Bool.not_true, Bool.not_false] at hlt
    all_goals
     refine zh Tryz.func132 rfl rfl ?_
     simp (disch := ((try simp only [LL]); omega)) only [↓GO, ↓DRW, GA, GX, ren, zm, z8, refs, z7, cst, zo, isC, bin, una, z6, zc, blt, asArg, ze, zb, zf, z1, E.mkS, unN, zd, zn, za, GS, simprocAttr, GZ, zj, c, hget, zi, hk, hlt, IH, Int.zero_add, zD]
  · have hprev : vJ (strs ks) (((pre' ++ [q]).length : Int) - 1) = some [.str q] := by rw [hs]; exact uK (fun s => [T.str s]) pre' q (x :: rest)
    have hge : 1 ≤ (pre' ++ [q]).length := by simp
    have hgt : decide (((pre' ++ [q]).length : Int) > 0) = true := by simp only [decide_eq_true_eq]; omega
    have hcmp := rl x q
    rw [show (pre' ++ [q]).getLast? = some q by simp]
    simp only [vZ]
    clear hs
    generalize (pre' ++ [q]).length = m at *
    cases b1 <;> simp only [Bool.not_true, Bool.not_false] at hlt <;> cases h2 : Op.bytesLess q x <;> rw [h2] at hcmp
    all_goals
     refine zh Tryz.func132 rfl rfl ?_
     simp (disch := ((try simp only [LL]); omega)) only [↓GO, ↓DRW, GA, GX, ren, zm, z8, refs, z7, cst, zo, isC, bin, una, z6, zc, blt, asArg, ze, zb, zf, z1, E.mkS, unN, zd, zn, za, GS, simprocAttr, GZ, zj, c, hget, zi, hk, hlt, hgt, hprev, hcmp, IH, zD]
theorem Yn (g : zy) (hB : GB g) (ks : List Str) (hl : ks.length ≤ 1048576) : zk (EV Tryz.prog pol) 132 [.agg (g.enc.map .t), .t (.list 1 (strs ks))] = some (.t (.bool (xM g.packs none ks))) := by
 have L := ZJ g hB ks hl ks [] rfl
 simp only [List.length_nil, Int.natCast_zero, List.getLast?_nil] at L
 simp only [zy.enc, List.map_cons, List.map_nil] at L ⊢
 cases h : xM g.packs none ks <;> rw [h] at L <;> simp only [cond_true, cond_false] at L
 all_goals
  apply zq
  refine zr rfl Tryz.func132 rfl (by kernel_rfl) ?_
  unfold Tryz.f132
  simp (disch := ((try simp only [LL]); omega)) only [↓GO, ↓DRW, GA, GX, ren, zm, z8, refs, z7, cst, zo, isC, bin, una, z6, zc, blt, asArg, ze, zb, zf, z1, E.mkS, unN, zd, zn, za, GS, simprocAttr, GZ, L, zj, zD]
theorem ZI (g : zy) (hB : GB g) (ks : List Str) (hl : ks.length ≤ 1048576) : ∀ (rest pre : List Str), ks = pre ++ rest →
 EV Tryz.prog pol (.loop 130 26 0 [.t (.list 1 (strs ks)), .ptr 0 0 0, .t (.int .i64 (pre.length : Int))] [.vs 2 [g.enc.map .t]]) = some (cond (xM g.packs pre.getLast? rest) (.loop (.exit 0) [.bad] []) (.loop .ret [.t (.bool false)] []))
 | [], pre, hs => by
  have c : decide ((pre.length : Int) < (ks.length : Int)) = false := by simp [hs]
  simp only [zy.enc, List.map_cons, List.map_nil]
  refine zh Tryz.func130 rfl rfl ?_
  simp (disch := ((try simp only [LL]); omega)) only [↓GO, ↓DRW, GA, GX, ren, zm, z8, refs, z7, cst, zo, isC, bin, una, z6, zc, blt, asArg, ze, zb, zf, z1, E.mkS, unN, zd, zn, za, GS, simprocAttr, GZ, c, zj, xM, zD]
 | x :: rest, pre, hs => by
  have c : decide ((pre.length : Int) < (ks.length : Int)) = true := by simp [hs]; omega
  have hget : (strs ks)[pre.length]? = some [.str x] := by rw [hs]; exact xJ pre x rest
  have hlen : pre.length + rest.length + 1 ≤ ks.length := by rw [hs]; simp; omega
  have IH := ZI g hB ks hl rest (pre ++ [x]) (by rw [hs]; simp)
  have hk := Yo g x hB
  have hlt := S1 (fun p => keyOf p == x) g.packs
  rw [show ((pre ++ [x]).length : Int) = (pre.length : Int) + 1 by simp, show (pre ++ [x]).getLast? = some x by simp] at IH
  rw [xM]
  unfold GY
  unfold py at hk
  generalize ixI (wJ (fun p => keyOf p == x) g.packs 0) = n at *
  generalize (g.packs.any fun p => keyOf p == x) = b1 at *
  simp only [zy.enc, List.map_cons, List.map_nil] at hk IH ⊢
  rcases w5 pre with rfl | ⟨pre', q, rfl⟩
  · clear hs
    simp only [List.length_nil, List.getLast?_nil, vZ, Int.natCast_zero, Int.zero_add] at *
    cases b1 <;> simp only [Bool.not_true, Bool.not_false] at hlt
    all_goals
     refine zh Tryz.func130 rfl rfl ?_
     simp (disch := ((try simp only [LL]); omega)) only [↓GO, ↓DRW, GA, GX, ren, zm, z8, refs, z7, cst, zo, isC, bin, una, z6, zc, blt, asArg, ze, zb, zf, z1, E.mkS, unN, zd, zn, za, GS, simprocAttr, GZ, zj, c, hget, zi, hk, hlt, IH, Int.zero_add, zD]
  · have hprev : vJ (strs ks) (((pre' ++ [q]).length : Int) - 1) = some [.str q] := by rw [hs]; exact uK (fun s => [T.str s]) pre' q (x :: rest)
    have hge : 1 ≤ (pre' ++ [q]).length := by simp
    have hgt : decide (((pre' ++ [q]).length : Int) > 0) = true := by simp only [decide_eq_true_eq]; omega
    rw [show (pre' ++ [q]).getLast? = some q by simp]
    simp only [vZ]
    clear hs
    generalize (pre' ++ [q]).length = m at *
    cases b1 <;> simp only [Bool.not_true, Bool.not_false] at hlt <;> cases h2 : Op.bytesLess q x
    all_goals
     refine zh Tryz.func130 rfl rfl ?_
     simp (disch := ((try simp only [LL]); omega)) only [↓GO, ↓DRW, GA, GX, ren, zm, z8, refs, z7, cst, zo, isC, bin, una, z6, zc, blt, asArg, ze, zb, zf, z1, E.mkS, unN, zd, zn, za, GS, simprocAttr, GZ, zj, c, hget, zi, hk, hlt, hgt, hprev, h2, IH, zD]
theorem Ym (g : zy) (hB : GB g) (ks : List Str) (hl : ks.length ≤ 1048576) : zk (EV Tryz.prog pol) 130 [.agg (g.enc.map .t), .t (.list 1 (strs ks))] = some (.t (.bool (xM g.packs none ks))) := by
 have L := ZI g hB ks hl ks [] rfl
 simp only [List.length_nil, Int.natCast_zero, List.getLast?_nil] at L
 simp only [zy.enc, List.map_cons, List.map_nil] at L ⊢
 cases h : xM g.packs none ks <;> rw [h] at L <;> simp only [cond_true, cond_false] at L
 all_goals
  apply zq
  refine zr rfl Tryz.func130 rfl (by kernel_rfl) ?_
  unfold Tryz.f130
  simp (disch := ((try simp only [LL]); omega)) only [↓GO, ↓DRW, GA, GX, ren, zm, z8, refs, z7, cst, zo, isC, bin, una, z6, zc, blt, asArg, ze, zb, zf, z1, E.mkS, unN, zd, zn, za, GS, simprocAttr, GZ, L, zj, zD]
end Go.Proofs.YtijninlbpifonaaGreatDoor
/- Is a graph right? By both. Conditions: those of each lemma. -/
namespace Go.Proofs.YtijninlbpifonaaGreatDoor
open E
set_option linter.unusedSimpArgs false
set_option linter.unusedVariables false
set_option maxRecDepth 100000
theorem mf {p : zg} {n : Nat} (h : p.zO ≤ n) : p.needs.length ≤ n ∧ ya p.needs ≤ n ∧ p.sums.length ≤ n ∧ zF.zL p.sums ≤ n ∧ p.name.length ≤ n ∧ p.version.length ≤ n ∧ p.source.length ≤ n := by
 unfold zg.zO at h; omega
theorem TV (g : zy) (hB : GB g) : ∀ (rest pre : List zg), g.packs = pre ++ rest →
 EV Tryz.prog pol (.loop 44 26 0 [.ptr 0 0 0, .t (.list 6 (zg.zA g.packs)), .t (.int .i64 (g.packs.length : Int)), .t (.int .i64 (pre.length : Int))] [.vs 2 [g.enc.map .t]]) = some (cond (wS g.packs (pre.getLast?.map keyOf) rest) (.loop (.exit 0) [.ptr 0 0 0, .bad] [.vs 2 [g.enc.map .t]]) (.loop .ret [.ptr 0 0 0, .t (.bool false)] [.vs 2 [g.enc.map .t]]))
 | [], pre, hs => by
  have c : decide ((pre.length : Int) < (g.packs.length : Int)) = false := by simp [hs]
  simp only [zy.enc, List.map_cons, List.map_nil]
  refine zh Tryz.func44 rfl rfl ?_
  simp (disch := ((try simp only [LL]); omega)) only [↓GO, ↓DRW, GA, GX, ren, zm, z8, refs, z7, cst, zo, isC, bin, una, z6, zc, blt, asArg, ze, zb, zf, z1, E.mkS, unN, zd, zn, za, GS, simprocAttr, GZ, c, wS, zD]
 | x :: rest, pre, hs => by
  obtain ⟨b1, b2, b3⟩ := hB.len
  have c : decide ((pre.length : Int) < (g.packs.length : Int)) = true := by simp [hs]; omega
  have hget : (zg.zA g.packs)[pre.length]? = some x.enc := by rw [hs]; exact pe zg.enc pre x rest
  have hlen : pre.length + rest.length + 1 ≤ g.packs.length := by rw [hs]; simp; omega
  have hxb := b3 x (by rw [hs]; simp)
  have IH := TV g hB rest (pre ++ [x]) (by rw [hs]; simp)
  have h1 := RU x hxb
  have h2 := gB x (by omega)
  have h3 := Yn g hB x.needs (mf hxb).1
  rw [show ((pre ++ [x]).length : Int) = (pre.length : Int) + 1 by simp, show (pre ++ [x]).getLast?.map keyOf = some (keyOf x) by simp] at IH
  rw [wS]
  generalize qu x = a1 at *
  generalize xM g.packs none x.needs = a2 at *
  rcases w5 pre with rfl | ⟨pre', q, rfl⟩
  · clear hs
    generalize keyOf x = kx at *
    simp only [List.length_nil, List.getLast?_nil, Option.map_none, vZ, Int.natCast_zero, Int.zero_add] at *
    simp only [zy.enc, zg.enc, List.map_cons, List.map_nil] at hget h1 h2 h3 IH ⊢
    cases a1 <;> cases a2
    all_goals
     refine zh Tryz.func44 rfl rfl ?_
     simp (disch := ((try simp only [LL]); omega)) only [↓GO, ↓DRW, GA, GX, ren, zm, z8, refs, z7, cst, zo, isC, bin, una, z6, zc, blt, asArg, ze, zb, zf, z1, E.mkS, unN, zd, zn, za, GS, simprocAttr, GZ, zg.zx, c, hget, zi, h1, h2, h3, IH, Int.zero_add, zD]
  · have hprev : vJ (zg.zA g.packs) (((pre' ++ [q]).length : Int) - 1) = some q.enc := by rw [hs]; exact uK zg.enc pre' q (x :: rest)
    have h4 := gB q (by have := b3 q (by rw [hs]; simp); omega)
    have hge : 1 ≤ (pre' ++ [q]).length := by simp
    have hgt : decide (((pre' ++ [q]).length : Int) > 0) = true := by simp only [decide_eq_true_eq]; omega
    have hcmp := rl (keyOf x) (keyOf q)
    rw [show (pre' ++ [q]).getLast?.map keyOf = some (keyOf q) by simp]
    simp only [vZ]
    clear hs
    generalize (pre' ++ [q]).length = m at *
    generalize keyOf x = kx at *
    generalize keyOf q = kq at *
    simp only [zy.enc, zg.enc, List.map_cons, List.map_nil] at hget hprev h1 h2 h3 h4 IH ⊢
    cases a1 <;> cases a2 <;> cases h5 : Op.bytesLess kq kx <;> rw [h5] at hcmp
    all_goals
     refine zh Tryz.func44 rfl rfl ?_
     simp (disch := ((try simp only [LL]); omega)) only [↓GO, ↓DRW, GA, GX, ren, zm, z8, refs, z7, cst, zo, isC, bin, una, z6, zc, blt, asArg, ze, zb, zf, z1, E.mkS, unN, zd, zn, za, GS, simprocAttr, GZ, zg.zx, c, hget, zi, h1, h2, h3, h4, hgt, hprev, hcmp, IH, zD]
theorem sJ (g : zy) (hB : GB g) : zk (EV Tryz.prog pol) 44 [.agg (g.enc.map .t)] = some (.t (.bool (y7 g))) := by
 have L := TV g hB g.packs [] rfl
 have h3 := Yn g hB g.top (by have := hB.len; omega)
 simp only [List.length_nil, Int.natCast_zero, List.getLast?_nil, Option.map_none] at L
 simp only [zy.enc, List.map_cons, List.map_nil] at L h3 ⊢
 unfold y7
 generalize xM g.packs none g.top = a2 at *
 cases h : wS g.packs none g.packs <;> rw [h] at L <;> simp only [cond_true, cond_false] at L <;> cases h4 : decide ((g.packs.length : Int) ≤ 40) <;> cases a2
 all_goals
  apply zq
  refine zr rfl Tryz.func44 rfl (by kernel_rfl) ?_
  unfold Tryz.f44
  simp (disch := ((try simp only [LL]); omega)) only [↓GO, ↓DRW, GA, GX, ren, zm, z8, refs, z7, cst, zo, isC, bin, una, z6, zc, blt, asArg, ze, zb, zf, z1, E.mkS, unN, zd, zn, za, GS, simprocAttr, GZ, L, zg.zx, h3, h4, zD]
theorem TU (g : zy) (hB : GB g) : ∀ (rest pre : List zg), g.packs = pre ++ rest →
 EV Tryz.prog pol (.loop 43 26 0 [.ptr 0 0 0, .t (.int .i64 (pre.length : Int))] [.vs 2 [g.enc.map .t]]) = some (cond (wS g.packs (pre.getLast?.map keyOf) rest) (.loop (.exit 0) [.ptr 0 0 0, .bad] [.vs 2 [g.enc.map .t]]) (.loop .ret [.ptr 0 0 0, .t (.bool false)] [.vs 2 [g.enc.map .t]]))
 | [], pre, hs => by
  have c : decide ((pre.length : Int) < (g.packs.length : Int)) = false := by simp [hs]
  simp only [zy.enc, List.map_cons, List.map_nil]
  refine zh Tryz.func43 rfl rfl ?_
  simp (disch := ((try simp only [LL]); omega)) only [↓GO, ↓DRW, GA, GX, ren, zm, z8, refs, z7, cst, zo, isC, bin, una, z6, zc, blt, asArg, ze, zb, zf, z1, E.mkS, unN, zd, zn, za, GS, simprocAttr, GZ, c, zg.zx, wS, zD]
 | x :: rest, pre, hs => by
  obtain ⟨b1, b2, b3⟩ := hB.len
  have c : decide ((pre.length : Int) < (g.packs.length : Int)) = true := by simp [hs]; omega
  have hget : (zg.zA g.packs)[pre.length]? = some x.enc := by rw [hs]; exact pe zg.enc pre x rest
  have hlen : pre.length + rest.length + 1 ≤ g.packs.length := by rw [hs]; simp; omega
  have hxb := b3 x (by rw [hs]; simp)
  have IH := TU g hB rest (pre ++ [x]) (by rw [hs]; simp)
  have h1 := RS x hxb
  have h2 := gA x (by omega)
  have h3 := Ym g hB x.needs (mf hxb).1
  rw [show ((pre ++ [x]).length : Int) = (pre.length : Int) + 1 by simp, show (pre ++ [x]).getLast?.map keyOf = some (keyOf x) by simp] at IH
  rw [wS]
  generalize qu x = a1 at *
  generalize xM g.packs none x.needs = a2 at *
  rcases w5 pre with rfl | ⟨pre', q, rfl⟩
  · clear hs
    generalize keyOf x = kx at *
    simp only [List.length_nil, List.getLast?_nil, Option.map_none, vZ, Int.natCast_zero, Int.zero_add] at *
    simp only [zy.enc, zg.enc, List.map_cons, List.map_nil] at hget h1 h2 h3 IH ⊢
    cases a1 <;> cases a2
    all_goals
     refine zh Tryz.func43 rfl rfl ?_
     simp (disch := ((try simp only [LL]); omega)) only [↓GO, ↓DRW, GA, GX, ren, zm, z8, refs, z7, cst, zo, isC, bin, una, z6, zc, blt, asArg, ze, zb, zf, z1, E.mkS, unN, zd, zn, za, GS, simprocAttr, GZ, zg.zx, c, hget, zi, h1, h2, h3, IH, Int.zero_add, zD]
  · have hprev : vJ (zg.zA g.packs) (((pre' ++ [q]).length : Int) - 1) = some q.enc := by rw [hs]; exact uK zg.enc pre' q (x :: rest)
    have h4 := gA q (by have := b3 q (by rw [hs]; simp); omega)
    have hge : 1 ≤ (pre' ++ [q]).length := by simp
    have hgt : decide (((pre' ++ [q]).length : Int) > 0) = true := by simp only [decide_eq_true_eq]; omega
    rw [show (pre' ++ [q]).getLast?.map keyOf = some (keyOf q) by simp]
    simp only [vZ]
    clear hs
    generalize (pre' ++ [q]).length = m at *
    generalize keyOf x = kx at *
    generalize keyOf q = kq at *
    simp only [zy.enc, zg.enc, List.map_cons, List.map_nil] at hget hprev h1 h2 h3 h4 IH ⊢
    cases a1 <;> cases a2 <;> cases h5 : Op.bytesLess kq kx
    all_goals
     refine zh Tryz.func43 rfl rfl ?_
     simp (disch := ((try simp only [LL]); omega)) only [↓GO, ↓DRW, GA, GX, ren, zm, z8, refs, z7, cst, zo, isC, bin, una, z6, zc, blt, asArg, ze, zb, zf, z1, E.mkS, unN, zd, zn, za, GS, simprocAttr, GZ, zg.zx, c, hget, zi, h1, h2, h3, h4, hgt, hprev, h5, IH, zD]
theorem Sf (g : zy) (hB : GB g) : zk (EV Tryz.prog pol) 43 [.agg (g.enc.map .t)] = some (.t (.bool (y7 g))) := by
 have L := TU g hB g.packs [] rfl
 have h3 := Ym g hB g.top (by have := hB.len; omega)
 simp only [List.length_nil, Int.natCast_zero, List.getLast?_nil, Option.map_none] at L
 simp only [zy.enc, List.map_cons, List.map_nil] at L h3 ⊢
 unfold y7
 generalize xM g.packs none g.top = a2 at *
 cases h : wS g.packs none g.packs <;> rw [h] at L <;> simp only [cond_true, cond_false] at L <;> cases h4 : decide ((g.packs.length : Int) ≤ 40) <;> cases a2
 all_goals
  apply zq
  refine zr rfl Tryz.func43 rfl (by kernel_rfl) ?_
  unfold Tryz.f43
  simp (disch := ((try simp only [LL]); omega)) only [↓GO, ↓DRW, GA, GX, ren, zm, z8, refs, z7, cst, zo, isC, bin, una, z6, zc, blt, asArg, ze, zb, zf, z1, E.mkS, unN, zd, zn, za, GS, simprocAttr, GZ, L, zg.zx, h3, h4, zD]
end Go.Proofs.YtijninlbpifonaaGreatDoor
/- The tables of a graph, plain. Conditions: none. -/
namespace Go.Proofs.YtijninlbpifonaaGreatDoor
open E
set_option linter.unusedVariables false
set_option linter.unusedSimpArgs false
set_option maxRecDepth 100000
end Go.Proofs.YtijninlbpifonaaGreatDoor
/- Keys cut, short names, by both. Conditions: those of each lemma. -/
namespace Go.Proofs.YtijninlbpifonaaGreatDoor
open E
set_option linter.unusedSimpArgs false
set_option linter.unusedVariables false
set_option maxRecDepth 100000
end Go.Proofs.YtijninlbpifonaaGreatDoor
/- What the laws' own functions do over Bound, Notice: sizes, copies, comparisons. Conditions: those of each lemma. -/
namespace Go.Proofs.YtijninlbpifonaaGreatDoor
open E
set_option linter.unusedSimpArgs false
set_option linter.unusedVariables false
set_option maxRecDepth 100000
structure yi where
 low : List UInt8
 high : List UInt8
def yi.enc (x : yi) : List T := [.str x.low, .str x.high]
def yi.zA (l : List yi) : List (List T) := l.map yi.enc
def yi.zO (x : yi) : Nat := x.low.length + x.high.length
def yi.zL : List yi → Nat
 | [] => 0
 | c :: cs => yi.zO c + yi.zL cs
def yi.ok (x : yi) : Prop := x.low.length ≤ 9223372036854775807 ∧ x.high.length ≤ 9223372036854775807
theorem yi.vq (x : yi) : x.enc.length = 2 := rfl
theorem yi.wg (x : yi) : x.enc.take 2 = x.enc := rfl
theorem yi.zx (cs : List yi) : (yi.zA cs).length = cs.length := by simp [yi.zA]
theorem yi.yR (cs : List yi) (i : Nat) (h : i < cs.length) : (yi.zA cs)[i]? = some cs[i].enc := by simp [yi.zA, h]
theorem yi.x9 (cs : List yi) (i : Nat) (h : i < cs.length) : yi.zL (cs.drop i) = cs[i].zO + yi.zL (cs.drop (i + 1)) := by
 rw [List.drop_eq_getElem_cons h]; rfl
theorem yi.zY : ∀ {cs : List yi} {c : yi}, c ∈ cs → c.zO ≤ yi.zL cs
 | c' :: cs, c, h => by
  simp only [yi.zL]
  rcases List.mem_cons.1 h with rfl | h
  · omega
  · have := yi.zY h; omega
structure zS where
 name : List UInt8
 range : List UInt8
 text : List UInt8
def zS.enc (x : zS) : List T := [.str x.name, .str x.range, .str x.text]
def zS.zA (l : List zS) : List (List T) := l.map zS.enc
def zS.zO (x : zS) : Nat := x.name.length + x.range.length + x.text.length
def zS.zL : List zS → Nat
 | [] => 0
 | c :: cs => zS.zO c + zS.zL cs
def zS.ok (x : zS) : Prop := x.name.length ≤ 9223372036854775807 ∧ x.range.length ≤ 9223372036854775807 ∧ x.text.length ≤ 9223372036854775807
theorem zS.vq (x : zS) : x.enc.length = 3 := rfl
theorem zS.wg (x : zS) : x.enc.take 3 = x.enc := rfl
theorem zS.zx (cs : List zS) : (zS.zA cs).length = cs.length := by simp [zS.zA]
theorem zS.yR (cs : List zS) (i : Nat) (h : i < cs.length) : (zS.zA cs)[i]? = some cs[i].enc := by simp [zS.zA, h]
theorem zS.x9 (cs : List zS) (i : Nat) (h : i < cs.length) : zS.zL (cs.drop i) = cs[i].zO + zS.zL (cs.drop (i + 1)) := by
 rw [List.drop_eq_getElem_cons h]; rfl
theorem zS.zY : ∀ {cs : List zS} {c : zS}, c ∈ cs → c.zO ≤ zS.zL cs
 | c' :: cs, c, h => by
  simp only [zS.zL]
  rcases List.mem_cons.1 h with rfl | h
  · omega
  · have := zS.zY h; omega
def cj (x : zS) : Prop := zk (EV Tryz.prog pol) 102 [.agg (x.enc.map .t), .agg (x.enc.map .t)] = some (.t (.bool true))
theorem c_eqNotice (x : zS) (ho : x.zO ≤ 1048576) : cj x := by
 obtain ⟨name, range, text⟩ := x
 simp only [zS.zO] at ho
 simp only [cj, zS.enc, List.map_cons, List.map_nil]
 apply zq
 refine zr rfl Tryz.func102 rfl (by kernel_rfl) ?_
 unfold Tryz.f102
 simp only [↓GO, ↓DRW, GA, GX, ren, zm, z8, refs, z7, cst, zo, isC, bin, una, z6, zc, blt, asArg, ze, zb, zf, z1, E.mkS, unN, zd, zn, za, GS, simprocAttr, bne_self_eq_false]
end Go.Proofs.YtijninlbpifonaaGreatDoor
/- Ranges, plain: both ways of reading them come to the same. Conditions: none. -/
namespace Go.Proofs.YtijninlbpifonaaGreatDoor
open E
set_option linter.unusedVariables false
set_option linter.unusedSimpArgs false
set_option maxRecDepth 100000
def vb (b : UInt8) : Bool := isD b || (nb b == 46 || (nb b == 45 || preB b))
theorem U8 {n : Int} (h : 0 ≤ n) : (Lib.itoa n).all isD = true ∧ Lib.itoa n ≠ [] := by
 obtain ⟨u, rfl⟩ : ∃ u : Nat, n = u := ⟨n.toNat, by omega⟩
 rw [Lib.itoa_nonneg]
 obtain ⟨a, _, c⟩ := ua u
 exact ⟨a, c⟩
/-- is a text a version's? -/
def isV (s : Str) : Bool := (zE s).2
theorem wP {s : Str} (h : 0 ≤ zH s) : (∀ b ∈ s, isD b = true) ∧ Lib.itoa (zH s) = s ∧ zH s ≤ 999999999 ∧ s ≠ [] := by
 unfold zH at h ⊢
 split at h
 · rename_i v hv
   cases hc : ((decide (0 ≤ v) && decide (v ≤ 999999999)) && (Lib.itoa v == s)) with
   | false => rw [hc] at h; simp at h
   | true =>
    have hc' := hc
    simp only [Bool.and_eq_true, decide_eq_true_eq, beq_iff_eq] at hc'
    obtain ⟨⟨q1, q2⟩, q3⟩ := hc'
    obtain ⟨a, b⟩ := U8 q1
    simp only [cond_true]
    rw [q3] at a b
    exact ⟨List.all_eq_true.1 a, q3, q2, b⟩
 · simp at h
end Go.Proofs.YtijninlbpifonaaGreatDoor
/- Ranges, plain, the parts. Conditions: none. -/
namespace Go.Proofs.YtijninlbpifonaaGreatDoor
open E
set_option linter.unusedVariables false
set_option linter.unusedSimpArgs false
set_option maxRecDepth 100000
end Go.Proofs.YtijninlbpifonaaGreatDoor
/- Ranges, plain: a text cut at ' || ', the whole. Conditions: none. -/
namespace Go.Proofs.YtijninlbpifonaaGreatDoor
open E
set_option linter.unusedVariables false
set_option linter.unusedSimpArgs false
set_option maxRecDepth 100000
end Go.Proofs.YtijninlbpifonaaGreatDoor
/- Versions compared, plain: both ways come to the same; what is in a range. Conditions: none. -/
namespace Go.Proofs.YtijninlbpifonaaGreatDoor
open E
set_option linter.unusedVariables false
set_option linter.unusedSimpArgs false
set_option maxRecDepth 100000
/-- a number's digits, none for zero -/
def dg (u : Nat) : Str := cond (u == 0) [] (Lib.decDigits u)
theorem nG : dg 0 = [] := rfl
theorem aH {u : Nat} (h : 0 < u) : dg u = Lib.decDigits u := by
 unfold dg; rw [show (u == 0) = false by simp; omega]; rfl
theorem gb {u : Nat} (h : 0 < u) : dg u = dg (u / 10) ++ [UInt8.ofNat (48 + u % 10)] := by
 rw [aH h, Lib.decDigits]
 split
 · rename_i h10
   rw [show u / 10 = 0 by omega, nG, show u % 10 = u by omega]; rfl
 · rename_i h10
   rw [aH (show 0 < u / 10 by omega)]
theorem gd : ∀ (n u : Nat), u ≤ n → 0 < u → ∃ c r, dg u = c :: r ∧ (c == 48) = false
 | 0, u, h, h0 => by omega
 | n + 1, u, h, h0 => by
  rw [gb h0]
  by_cases h1 : 0 < u / 10
  · obtain ⟨c, r, e1, e2⟩ := gd n (u / 10) (by omega) h1
    exact ⟨c, r ++ [UInt8.ofNat (48 + u % 10)], by rw [e1]; rfl, e2⟩
  · rw [show u / 10 = 0 by omega, nG]
    refine ⟨_, [], rfl, ?_⟩
    have key : ∀ k : Fin 10, k.val ≠ 0 → (UInt8.ofNat (48 + k.val) == 48) = false := by decide +kernel
    exact key ⟨u % 10, by omega⟩ (by simp only; omega)
def ltL (x y : Str) : Bool := decide (x.length < y.length) || (decide (x.length = y.length) && Op.bytesLess x y)
theorem Xf : ∀ x : Str, Op.bytesLess x [] = false
 | [] => rfl
 | _ :: _ => rfl
theorem xY : ∀ x : Str, Op.bytesLess x x = false
 | [] => rfl
 | a :: x => by rw [wc, xY x]; simp
theorem eQ (a b : UInt8) : ∀ x y : Str, x.length = y.length → Op.bytesLess (x ++ [a]) (y ++ [b]) = (Op.bytesLess x y || (x == y && decide (a < b)))
 | [], [], _ => by
  simp only [List.nil_append]
  rw [wc]
  simp [Op.bytesLess]
 | [], _ :: _, h => by simp at h
 | _ :: _, [], h => by simp at h
 | c :: x, d :: y, h => by
  have ih := eQ a b x y (by simpa using h)
  rw [List.cons_append, List.cons_append, wc, wc, ih]
  have e : ((c :: x) == (d :: y)) = (c == d && x == y) := rfl
  rw [e]
  cases decide (c < d) <;> cases (c == d) <;> cases Op.bytesLess x y <;> cases (x == y) <;> cases decide (a < b) <;> rfl
theorem U5 (a b : UInt8) (x y : Str) : ltL (x ++ [a]) (y ++ [b]) = (ltL x y || (x == y && decide (a < b))) := by
 unfold ltL
 simp only [List.length_append, List.length_cons, List.length_nil]
 by_cases h1 : x.length = y.length
 · rw [eQ a b x y h1]
   have e1 : decide (x.length + 1 < y.length + 1) = false := by apply decide_eq_false; omega
   have e2 : decide (x.length < y.length) = false := by apply decide_eq_false; omega
   have e3 : decide (x.length + 1 = y.length + 1) = true := by apply decide_eq_true; omega
   have e4 : decide (x.length = y.length) = true := by apply decide_eq_true; exact h1
   simp only [Nat.zero_add, e1, e2, e3, e4, Bool.false_or, Bool.true_and]
 · have e : (x == y) = false := by rw [beq_eq_false_iff_ne]; intro h; exact h1 (by rw [h])
   have e3 : decide (x.length + 1 = y.length + 1) = false := by apply decide_eq_false; omega
   have e4 : decide (x.length = y.length) = false := by apply decide_eq_false; exact h1
   have e5 : decide (x.length + 1 < y.length + 1) = decide (x.length < y.length) := by
    rw [Bool.eq_iff_iff]; simp only [decide_eq_true_eq]; omega
   simp only [Nat.zero_add, e, e3, e4, e5, Bool.false_and, Bool.or_false]
theorem Zu (x : Str) : ltL x x = false := by unfold ltL; rw [xY]; simp
theorem YJ : ∀ (n u w : Nat), u + w ≤ n → ltL (dg u) (dg w) = decide (u < w)
 | 0, u, w, h => by
  have h1 : u = 0 := by omega
  have h2 : w = 0 := by omega
  subst h1; subst h2; rfl
 | n + 1, u, w, h => by
  by_cases hw : w = 0
  · subst hw
    rw [nG]
    unfold ltL
    rw [Xf]; simp
  · by_cases hu : u = 0
    · subst hu
      obtain ⟨c, r, e, _⟩ := gd w w (Nat.le_refl _) (by omega)
      rw [nG, e]
      unfold ltL
      simp; omega
    · rw [gb (show 0 < u by omega), gb (show 0 < w by omega), U5]
      have i1 := YJ n (u / 10) (w / 10) (by omega)
      have i2 := YJ n (w / 10) (u / 10) (by omega)
      have ed : decide (UInt8.ofNat (48 + u % 10) < UInt8.ofNat (48 + w % 10)) = decide (u % 10 < w % 10) := by
       have key : ∀ a b : Fin 10, decide (UInt8.ofNat (48 + a.val) < UInt8.ofNat (48 + b.val)) = decide (a.val < b.val) := by decide +kernel
       exact key ⟨u % 10, by omega⟩ ⟨w % 10, by omega⟩
      rw [i1, ed]
      by_cases he : u / 10 = w / 10
      · rw [he]
        simp only [beq_self_eq_true, Bool.true_and, Nat.lt_irrefl, decide_false, Bool.false_or]
        rw [Bool.eq_iff_iff]; simp only [decide_eq_true_eq]; omega
      · have hx : (dg (u / 10) == dg (w / 10)) = false := by
         rw [beq_eq_false_iff_ne]; intro hh
         rw [hh, Zu] at i1
         rw [hh, Zu] at i2
         have a1 := of_decide_eq_false i1.symm
         have a2 := of_decide_eq_false i2.symm
         omega
        rw [hx, Bool.false_and, Bool.or_false, Bool.eq_iff_iff]
        simp only [decide_eq_true_eq]; omega
/-- without zeros in front -/
def xT (s : Str) : Str := s.dropWhile (· == 48)
theorem nV (u : Nat) : xT (Lib.decDigits u) = dg u := by
 by_cases h : 0 < u
 · rw [← aH h]
   obtain ⟨c, r, e, e2⟩ := gd u u (Nat.le_refl _) h
   rw [e]; unfold xT; simp [List.dropWhile, e2]
 · have : u = 0 := by omega
   subst this
   rw [Lib.decDigits_one (by omega)]; rfl
def Yh (a b : Str) : Int := cond (isNum a && isNum b)
 (cond (yE ((xT a).length : Int) ((xT b).length : Int) == 0) (rT (xT a) (xT b)) (yE ((xT a).length : Int) ((xT b).length : Int)))
 (cond (isNum a) (-1) (cond (isNum b) 1 (rT a b)))
theorem j9 {a : Str} (h : wL a = true) : isNum a = decide (zH a ≥ 0) := by
 unfold wL at h
 simp only [Bool.and_eq_true, Bool.or_eq_true, Bool.not_eq_true', decide_eq_true_eq] at h
 rcases h.2.2 with h1 | h1
 · rw [h1]
   symm
   apply decide_eq_false
   intro hg
   obtain ⟨a1, _, _, a4⟩ := wP (s := a) hg
   unfold isNum at h1
   have e1 : (a == []) = false := by simpa using a4
   have e2 : a.all isD = true := by rw [List.all_eq_true]; exact a1
   rw [e1, e2] at h1; cases h1
 · have e : decide (zH a ≥ 0) = true := decide_eq_true h1
   rw [e]
   obtain ⟨a1, _, _, a4⟩ := wP (s := a) h1
   unfold isNum
   have e1 : (a == []) = false := by simpa using a4
   have e2 : a.all isD = true := by rw [List.all_eq_true]; exact a1
   rw [e1, e2]; rfl
theorem mG {a : Str} (h : zH a ≥ 0) : ∃ u : Nat, zH a = u ∧ a = Lib.decDigits u := by
 obtain ⟨_, a2, _, _⟩ := wP (s := a) h
 obtain ⟨u, hu⟩ : ∃ u : Nat, zH a = u := ⟨(zH a).toNat, by omega⟩
 refine ⟨u, hu, ?_⟩
 rw [hu, Lib.itoa_nonneg] at a2
 exact a2.symm
theorem RH (u w : Nat) : cond (yE ((dg u).length : Int) ((dg w).length : Int) == 0) (rT (dg u) (dg w)) (yE ((dg u).length : Int) ((dg w).length : Int)) = yE (u : Int) (w : Int) := by
 have h1 := YJ (u + w) u w (Nat.le_refl _)
 have h2 := YJ (u + w) w u (by omega)
 rw [vA]
 unfold ltL at h1 h2
 rcases Nat.lt_trichotomy u w with h | h | h
 · have e : decide (u < w) = true := decide_eq_true h
   rw [e] at h1
   have r : yE (u : Int) (w : Int) = -1 := by unfold yE; rw [show decide ((u : Int) < (w : Int)) = true by apply decide_eq_true; omega]; rfl
   rw [r]
   rcases Nat.lt_trichotomy (dg u).length (dg w).length with g | g | g
   · have e1 : (((dg u).length : Int) == ((dg w).length : Int)) = false := by rw [beq_eq_false_iff_ne]; omega
     rw [e1, cond_false]
     unfold yE; rw [show decide (((dg u).length : Int) < ((dg w).length : Int)) = true by apply decide_eq_true; omega]; rfl
   · have e1 : (((dg u).length : Int) == ((dg w).length : Int)) = true := by rw [beq_iff_eq]; omega
     rw [e1, cond_true]
     have e2 : Op.bytesLess (dg u) (dg w) = true := by
      simp only [g, Nat.lt_irrefl, decide_false, Bool.false_or, decide_true, Bool.true_and] at h1; exact h1
     unfold rT; rw [e2]; rfl
   · exfalso
     have e1 : decide ((dg u).length < (dg w).length) = false := by apply decide_eq_false; omega
     have e2 : decide ((dg u).length = (dg w).length) = false := by apply decide_eq_false; omega
     rw [e1, e2] at h1; cases h1
 · subst h
   have e1 : (((dg u).length : Int) == ((dg u).length : Int)) = true := by simp
   rw [e1, cond_true]
   have r : yE (u : Int) (u : Int) = 0 := by unfold yE; simp
   rw [r]; unfold rT; rw [xY]; simp
 · have e : decide (w < u) = true := decide_eq_true h
   rw [e] at h2
   have r : yE (u : Int) (w : Int) = 1 := by
    unfold yE
    rw [show decide ((u : Int) < (w : Int)) = false by apply decide_eq_false; omega, show decide ((u : Int) > (w : Int)) = true by apply decide_eq_true; omega]; rfl
   rw [r]
   rcases Nat.lt_trichotomy (dg w).length (dg u).length with g | g | g
   · have e1 : (((dg u).length : Int) == ((dg w).length : Int)) = false := by rw [beq_eq_false_iff_ne]; omega
     rw [e1, cond_false]
     unfold yE
     rw [show decide (((dg u).length : Int) < ((dg w).length : Int)) = false by apply decide_eq_false; omega, show decide (((dg u).length : Int) > ((dg w).length : Int)) = true by apply decide_eq_true; omega]; rfl
   · have e1 : (((dg u).length : Int) == ((dg w).length : Int)) = true := by rw [beq_iff_eq]; omega
     rw [e1, cond_true]
     have e2 : Op.bytesLess (dg w) (dg u) = true := by
      simp only [g, Nat.lt_irrefl, decide_false, Bool.false_or, decide_true, Bool.true_and] at h2; exact h2
     have e3 := rl (dg u) (dg w)
     rw [e2] at e3
     have e4 : Op.bytesLess (dg u) (dg w) = false := by
      cases hh : Op.bytesLess (dg u) (dg w) with
      | false => rfl
      | true => rw [hh] at e3; cases e3
     unfold rT; rw [e3, e4]; rfl
   · exfalso
     have e1 : decide ((dg w).length < (dg u).length) = false := by apply decide_eq_false; omega
     have e2 : decide ((dg w).length = (dg u).length) = false := by apply decide_eq_false; omega
     rw [e1, e2] at h2; cases h2
theorem RJ {a b : Str} (ha : wL a = true) (hb : wL b = true) : Yh a b = ud a b := by
 unfold Yh ud
 rw [j9 ha, j9 hb]
 cases h1 : decide (zH a ≥ 0) <;> cases h2 : decide (zH b ≥ 0) <;> simp only [Bool.and_true, Bool.and_false, Bool.true_and, Bool.false_and, cond_true, cond_false]
 obtain ⟨u, e1, e2⟩ := mG (of_decide_eq_true h1)
 obtain ⟨w, e3, e4⟩ := mG (of_decide_eq_true h2)
 rw [e1, e3, e2, e4, nV, nV]
 exact RH u w
def ru : List Str → List Str → Option Int
 | a :: l, b :: m => cond (Yh a b == 0) (ru l m) (some (Yh a b))
 | _, _ => none
theorem ee : ∀ {a b : List Str}, (∀ x ∈ a, wL x = true) → (∀ x ∈ b, wL x = true) → ru a b = uf a b
 | [], _, _, _ => by unfold ru uf; rfl
 | _ :: _, [], _, _ => rfl
 | x :: a, y :: b, ha, hb => by
  rw [ru, uf, RJ (ha x (by simp)) (hb y (by simp)), ee (fun z hz => ha z (by simp [hz])) (fun z hz => hb z (by simp [hz]))]
def VD (a b : Ver) : Int :=
 cond (yE a.maj b.maj == 0) (cond (yE a.min b.min == 0) (cond (yE a.pat b.pat == 0)
  (cond ((a.pre == []) != (b.pre == [])) (yE (b.pre.length : Int) (a.pre.length : Int)) ((ru a.pre b.pre).getD (yE (a.pre.length : Int) (b.pre.length : Int))))
  (yE a.pat b.pat)) (yE a.min b.min)) (yE a.maj b.maj)
theorem Yg {a b : Ver} (ha : yA a = true) (hb : yA b = true) : VD a b = mL a b := by
 have h1 := (vr ha).2.2.2.1
 have h2 := (vr hb).2.2.2.1
 rw [List.all_eq_true] at h1 h2
 have hs := ee h1 h2
 unfold VD mL vc
 rw [hs]
 congr 3
 cases hx : a.pre with
 | nil =>
  cases hy : b.pre with
  | nil => rfl
  | cons y l => rfl
 | cons x k =>
  cases hy : b.pre with
  | nil => rfl
  | cons y l => rfl
end Go.Proofs.YtijninlbpifonaaGreatDoor
/- What is in a range, what notices tell: plain; both ways come to the same. Conditions: none. -/
namespace Go.Proofs.YtijninlbpifonaaGreatDoor
open E
set_option linter.unusedVariables false
set_option linter.unusedSimpArgs false
set_option maxRecDepth 100000
theorem dU : ∀ a b : Str, Lib.compareBytes a b = rT a b
 | [], [] => rfl
 | [], _ :: _ => rfl
 | _ :: _, [] => by simp [Lib.compareBytes, rT, Op.bytesLess]
 | a :: x, b :: y => by
  have ih := dU x y
  unfold rT at ih ⊢
  rw [Lib.compareBytes, wc, show ((a :: x) == (b :: y)) = (a == b && x == y) from rfl]
  by_cases h1 : a < b
  · rw [if_pos h1]; simp [h1]
  · rw [if_neg h1]
    by_cases h2 : b < a
    · have h3 : (a == b) = false := by
       rw [beq_eq_false_iff_ne]; intro h; subst h; exact h1 h2
      rw [if_pos h2]; simp [h1, h3]
    · have h3 : a = b := by
       apply UInt8.toNat_inj.1; simp only [UInt8.lt_iff_toNat_lt] at h1 h2; omega
      subst h3
      rw [if_neg h2, ih]
      simp only [decide_false, h1, Bool.false_or, beq_self_eq_true, Bool.true_and]
end Go.Proofs.YtijninlbpifonaaGreatDoor
/- What one reaches in a graph, plain: both ways come to the same. Conditions: none. -/
namespace Go.Proofs.YtijninlbpifonaaGreatDoor
open E
set_option linter.unusedVariables false
set_option linter.unusedSimpArgs false
set_option maxRecDepth 100000
theorem TP : ∀ x y : Str, Op.bytesLess x y = decide (x < y)
 | [], [] => by simp [Op.bytesLess]
 | [], b :: y => by simp [Op.bytesLess]
 | a :: x, [] => by simp [Op.bytesLess]
 | a :: x, b :: y => by
  rw [wc, TP x y, Bool.eq_iff_iff]
  simp only [Bool.or_eq_true, decide_eq_true_eq, Bool.and_eq_true, beq_iff_eq, List.cons_lt_cons_iff]
theorem gy (x y : Str) : decide (x ≤ y) = !(Op.bytesLess y x) := by
 rw [TP, Bool.eq_iff_iff]
 simp only [decide_eq_true_eq, Bool.not_eq_true', decide_eq_false_iff_not]
 exact Iff.rfl
theorem sv {x y : Str} (h1 : Op.bytesLess x y = false) (h2 : Op.bytesLess y x = false) : x = y := by
 have h := rl x y
 rw [h1, h2] at h
 simpa using h
theorem w7 : ∀ {x y z : Str}, Op.bytesLess x y = true → Op.bytesLess y z = true → Op.bytesLess x z = true
 | [], [], z, h1, _ => by simp [Op.bytesLess] at h1
 | _ :: _, [], z, h1, _ => by simp [Op.bytesLess] at h1
 | [], _ :: _, [], _, h2 => by simp [Op.bytesLess] at h2
 | [], _ :: _, _ :: _, _, _ => by simp [Op.bytesLess]
 | _ :: _, _ :: _, [], _, h2 => by simp [Op.bytesLess] at h2
 | a :: x, b :: y, c :: z, h1, h2 => by
  rw [wc] at h1 h2 ⊢
  simp only [Bool.or_eq_true, decide_eq_true_eq, Bool.and_eq_true, beq_iff_eq, UInt8.lt_iff_toNat_lt] at h1 h2 ⊢
  rcases h1 with h1 | ⟨rfl, h1⟩
  · rcases h2 with h2 | ⟨rfl, h2⟩
    · left; omega
    · left; exact h1
  · rcases h2 with h2 | ⟨rfl, h2⟩
    · left; exact h2
    · right; exact ⟨rfl, w7 h1 h2⟩
theorem cP {x y z : Str} (h1 : Op.bytesLess y x = false) (h2 : Op.bytesLess z y = false) : Op.bytesLess z x = false := by
 cases h : Op.bytesLess z x with
 | false => rfl
 | true =>
  exfalso
  cases hyz : Op.bytesLess y z with
  | true => have := w7 hyz h; rw [h1] at this; cases this
  | false =>
   have := sv hyz h2
   subst this
   rw [h1] at h; cases h
def Asc (l : List Str) : Prop := l.Pairwise fun x y => Op.bytesLess y x = false
theorem X0 (l : List Str) : Asc (xH l) := by
 have := List.pairwise_mergeSort (le := fun x y : Str => decide (x ≤ y)) (fun a b c h1 h2 => by
  rw [gy] at *
  simp only [Bool.not_eq_true'] at *
  exact cP h1 h2) (fun a b => by
  rw [gy, gy]
  cases h1 : Op.bytesLess b a <;> cases h2 : Op.bytesLess a b <;> first | rfl | skip
  have := w7 h1 h2
  rw [xY] at this; cases this) l
 refine List.Pairwise.imp (fun {a b} h => ?_) this
 rw [gy] at h
 simpa using h
/-- a text put into its place -/
def wA : List Str → Str → List Str
 | [], s => [s]
 | x :: r, s => cond (Op.bytesLess x s) (x :: wA r s) (cond (x == s) (x :: r) (s :: x :: r))
def vm (l : List Str) (s : Str) : Bool := l.any (· == s)
theorem pZ : ∀ (l : List Str) (s : Str), vm l s = false → (wA l s).Perm (l ++ [s])
 | [], s, _ => by simp [wA]
 | x :: r, s, h => by
  simp only [vm, List.any_cons, Bool.or_eq_false_iff] at h
  rw [wA, h.1]
  cases Op.bytesLess x s with
  | true => simp only [cond_true, List.cons_append]; exact (pZ r s h.2).cons x
  | false => simp only [cond_false]; exact (List.perm_append_singleton s (x :: r)).symm
def nn (ps : List zg) (k : Str) : Option zg := match py ps k with
 | some i => ps[i]?
 | none => none
theorem Y5 {α : Type} (p : α → Bool) : ∀ (l : List α) (n i : Nat), wJ p l n = some i → n ≤ i ∧ ∃ q, l[i - n]? = some q ∧ p q = true
 | [], n, i, h => by cases h
 | x :: r, n, i, h => by
  rw [wJ] at h
  split at h
  · rename_i hx
    cases h
    exact ⟨Nat.le_refl _, x, by simp, hx⟩
  · obtain ⟨h1, q, h2, h3⟩ := Y5 p r (n + 1) i h
    refine ⟨by omega, q, ?_, h3⟩
    rw [show i - n = (i - (n + 1)) + 1 by omega]
    simpa using h2
theorem jt {α : Type} {p : α → Bool} {l : List α} {i : Nat} (h : wJ p l 0 = some i) : ∃ q, l[i]? = some q ∧ p q = true := by
 obtain ⟨_, q, h2, h3⟩ := Y5 p l 0 i h
 exact ⟨q, by simpa using h2, h3⟩
theorem dB {ps : List zg} {k : Str} {p : zg} (h : nn ps k = some p) : p ∈ ps ∧ keyOf p = k ∧ ∃ i, py ps k = some i ∧ ps[i]? = some p := by
 unfold nn at h
 split at h
 · rename_i i hi
   exact ⟨List.mem_of_getElem? h, by
    have := jt hi
    obtain ⟨q, h1, h2⟩ := this
    rw [h] at h1
    cases h1
    simpa using h2, i, hi, h⟩
 · cases h
theorem dC {ps : List zg} {k : Str} (h : nn ps k = none) : py ps k = none := by
 unfold nn at h
 split at h
 · rename_i i hi
   obtain ⟨q, h1, h2⟩ := jt hi
   rw [h] at h1; cases h1
 · assumption
end Go.Proofs.YtijninlbpifonaaGreatDoor
/- Who is to blame, plain: both ways come to the same. Conditions: none. -/
namespace Go.Proofs.YtijninlbpifonaaGreatDoor
open E
set_option linter.unusedVariables false
set_option linter.unusedSimpArgs false
set_option maxRecDepth 100000
def xo : List Str → Str → Nat
 | [], _ => 0
 | x :: r, s => cond (Op.bytesLess x s) (xo r s + 1) 0
/-- does it stand at its place? -/
def atS (l : List Str) (s : Str) : Bool := l[xo l s]? == some s
theorem iU : ∀ (l : List Str) (s : Str), xo l s ≤ l.length
 | [], s => by simp [xo]
 | x :: r, s => by
  have := iU r s
  rw [xo]
  cases Op.bytesLess x s with
  | true => simp only [cond_true, List.length_cons]; omega
  | false => simp
theorem lG : ∀ (l : List Str) (s : Str), atS l s = true → wA l s = l
 | [], s, h => by simp [atS, xo] at h
 | x :: r, s, h => by
  unfold atS at h
  rw [xo] at h
  rw [wA]
  cases h1 : Op.bytesLess x s with
  | true =>
   rw [h1, cond_true, List.getElem?_cons_succ] at h
   simp only [cond_true]
   rw [lG r s h]
  | false =>
   rw [h1, cond_false] at h
   have : x = s := by simpa using h
   subst this
   simp
theorem gm : ∀ (l : List Str) (s : Str), atS l s = false → wA l s = l.take (xo l s) ++ s :: l.drop (xo l s)
 | [], s, h => by simp [wA, xo]
 | x :: r, s, h => by
  unfold atS at h
  rw [xo] at h ⊢
  rw [wA]
  cases h1 : Op.bytesLess x s with
  | true =>
   rw [h1, cond_true, List.getElem?_cons_succ] at h
   simp only [cond_true, List.take_succ_cons, List.drop_succ_cons, List.cons_append]
   rw [gm r s h]
  | false =>
   rw [h1, cond_false] at h
   have : (x == s) = false := by simpa using h
   simp [this]
end Go.Proofs.YtijninlbpifonaaGreatDoor
/- What one reaches, by both: the functions. Conditions: those of each lemma. -/
namespace Go.Proofs.YtijninlbpifonaaGreatDoor
open E
set_option linter.unusedSimpArgs false
set_option linter.unusedVariables false
set_option maxRecDepth 100000
theorem yV {l : List Str} {i : Nat} {s : Str} (h : l[i]? = some s) : (strs l)[i]? = some [.str s] := by simp [strs, h]
theorem QB (l : List Str) (hl : l.length ≤ 1048576) (s : Str) : ∀ (rest pre : List Str), l = pre ++ rest →
 EV Tryz.prog pol (.loop 127 26 0 [.t (.list 1 (strs l)), .t (.str s), .t (.int .i64 (pre.length : Int))] []) = some (cond (vm rest s) (.loop .ret [.t (.bool true)] []) (.loop (.exit 0) [.bad] []))
 | [], pre, h => by
  have c : decide ((pre.length : Int) < (l.length : Int)) = false := by simp [h]
  rw [show vm [] s = false from rfl, cond_false]
  refine zh Tryz.func127 rfl rfl ?_
  simp (disch := ((try simp only [LL]); omega)) only [↓GO, ↓DRW, GA, GX, ren, zm, z8, refs, z7, cst, zo, isC, bin, una, z6, zc, blt, asArg, ze, zb, zf, z1, E.mkS, unN, zd, zn, za, GS, simprocAttr, GZ, c, zj, zD]
 | x :: rest, pre, h => by
  have c : decide ((pre.length : Int) < (l.length : Int)) = true := by simp [h]; omega
  have hget : (strs l)[pre.length]? = some [.str x] := yV (by rw [h]; simp)
  have hlen : pre.length + rest.length + 1 ≤ l.length := by rw [h]; simp; omega
  have IH := QB l hl s rest (pre ++ [x]) (by rw [h]; simp)
  rw [show ((pre ++ [x]).length : Int) = (pre.length : Int) + 1 by simp] at IH
  rw [show vm (x :: rest) s = ((x == s) || vm rest s) from rfl]
  clear h
  cases q : (x == s) with
  | true =>
   simp only [Bool.true_or, cond_true]
   refine zh Tryz.func127 rfl rfl ?_
   simp (disch := ((try simp only [LL]); omega)) only [↓GO, ↓DRW, GA, GX, ren, zm, z8, refs, z7, cst, zo, isC, bin, una, z6, zc, blt, asArg, ze, zb, zf, z1, E.mkS, unN, zd, zn, za, GS, simprocAttr, GZ, c, hget, zj, q, zi, zD]
  | false =>
   simp only [Bool.false_or]
   refine zh Tryz.func127 rfl rfl ?_
   simp (disch := ((try simp only [LL]); omega)) only [↓GO, ↓DRW, GA, GX, ren, zm, z8, refs, z7, cst, zo, isC, bin, una, z6, zc, blt, asArg, ze, zb, zf, z1, E.mkS, unN, zd, zn, za, GS, simprocAttr, GZ, c, hget, zj, q, zi, zD, IH]
theorem c_has (l : List Str) (hl : l.length ≤ 1048576) (s : Str) : zk (EV Tryz.prog pol) 127 [.t (.list 1 (strs l)), .t (.str s)] = some (.t (.bool (vm l s))) := by
 have L := QB l hl s l [] rfl
 simp only [List.length_nil, Int.natCast_zero] at L
 cases q : vm l s <;> rw [q] at L <;> simp only [cond_true, cond_false] at L
 all_goals
  apply zq
  refine zr rfl Tryz.func127 rfl (by kernel_rfl) ?_
  unfold Tryz.f127
  simp (disch := ((try simp only [LL]); omega)) only [↓GO, ↓DRW, GA, GX, ren, zm, z8, refs, z7, cst, zo, isC, bin, una, z6, zc, blt, asArg, ze, zb, zf, z1, E.mkS, unN, zd, zn, za, GS, simprocAttr, GZ, L, zj, zD]
theorem Sw (l : List Str) (hl : l.length ≤ 1073741824) (s : Str) (n : Nat) (hn : n = l.length) (cap : Option Nat) : ∀ (rest pre : List Str), l = pre ++ rest →
 EV Tryz.prog pol (.loop 128 28 1 [.sl 0 0 n cap, .t (.str s), .t (.int .i64 (pre.length : Int))] [.ts 1 (strs l)]) = some (.loop (.exit 0) [.sl 0 0 n cap, .t (.str s), .t (.int .i64 ((pre.length + xo rest s : Nat) : Int))] [.ts 1 (strs l)])
 | [], pre, h => by
  have c : decide ((pre.length : Int) < (n : Int)) = false := by simp [hn, h]
  rw [show xo [] s = 0 from rfl, Nat.add_zero]
  refine zh Tryz.func128 rfl rfl ?_
  simp (disch := ((try simp only [LL]); omega)) only [↓GO, ↓DRW, GA, GX, ren, zm, z8, refs, z7, cst, zo, isC, bin, una, z6, zc, blt, asArg, ze, zb, zf, z1, E.mkS, unN, zd, zn, za, GS, simprocAttr, GZ, c, zD]
 | x :: rest, pre, h => by
  have c : decide ((pre.length : Int) < (n : Int)) = true := by simp [hn, h]; omega
  have c0 : decide ((0 : Int) ≤ (pre.length : Int)) = true := by simp
  have hget : (strs l)[pre.length]? = some [.str x] := yV (by rw [h]; simp)
  have hlen : pre.length + rest.length + 1 ≤ l.length := by rw [h]; simp; omega
  have IH := Sw l hl s n hn cap rest (pre ++ [x]) (by rw [h]; simp)
  rw [show ((pre ++ [x]).length : Int) = (pre.length : Int) + 1 by simp, show (pre ++ [x]).length + xo rest s = pre.length + (xo rest s + 1) by simp; omega] at IH
  rw [xo]
  clear h
  cases q : Op.bytesLess x s with
  | true =>
   simp only [cond_true]
   refine zh Tryz.func128 rfl rfl ?_
   simp (disch := ((try simp only [LL]); omega)) only [↓GO, ↓DRW, GA, GX, ren, zm, z8, refs, z7, cst, zo, isC, bin, una, z6, zc, blt, asArg, ze, zb, zf, z1, E.mkS, unN, zd, zn, za, GS, simprocAttr, GZ, c, c0, hget, q, zi, zD, IH]
  | false =>
   simp only [cond_false, Nat.add_zero]
   refine zh Tryz.func128 rfl rfl ?_
   simp (disch := ((try simp only [LL]); omega)) only [↓GO, ↓DRW, GA, GX, ren, zm, z8, refs, z7, cst, zo, isC, bin, una, z6, zc, blt, asArg, ze, zb, zf, z1, E.mkS, unN, zd, zn, za, GS, simprocAttr, GZ, c, c0, hget, q, zi, zD]
theorem Sh (l : List Str) (hl : l.length ≤ 1073741824) (s : Str) (n : Nat) (hn : n = l.length) (cap : Option Nat) (h : atS l s = true) : EV Tryz.prog pol (.callO false 128 [.sl 0 0 n cap, .t (.str s)] [.ts 1 (strs l)]) = some (.call (.sl 0 0 n cap) [.ts 1 (strs l)]) := by
 have L := Sw l hl s n hn cap l [] rfl
 simp only [List.length_nil, Int.natCast_zero, Nat.zero_add] at L
 unfold atS at h
 have hat : l[xo l s]? = some s := by simpa using h
 have hget := yV hat
 have hlt : xo l s < l.length := (List.getElem?_eq_some_iff.1 hat).1
 have c : decide (((xo l s : Nat) : Int) < (n : Int)) = true := by rw [hn]; simpa using hlt
 have c0 : decide ((0 : Int) ≤ ((xo l s : Nat) : Int)) = true := by simp
 clear h hat
 generalize xo l s = p at *
 refine yf Tryz.func128 rfl (by kernel_rfl) ?_
 unfold Tryz.f128
 simp (disch := ((try simp only [LL]); omega)) only [↓GO, ↓DRW, GA, GX, ren, zm, z8, refs, z7, cst, zo, isC, bin, una, z6, zc, blt, asArg, ze, zb, zf, z1, E.mkS, unN, zd, zn, za, GS, simprocAttr, GZ, L, c, c0, hget, beq_self_eq_true, zD]
theorem Si (l : List Str) (hl : l.length ≤ 1073741824) (s : Str) (n : Nat) (hn : n = l.length) (cap : Option Nat) (h : atS l s = false) : EV Tryz.prog pol (.callO false 128 [.sl 0 0 n cap, .t (.str s)] [.ts 1 (strs l)]) = some (.call (.sl 1 0 (n + 1) none) [.ts 1 (strs l), .ts 1 (strs (wA l s))]) := by
 have L := Sw l hl s n hn cap l [] rfl
 simp only [List.length_nil, Int.natCast_zero, Nat.zero_add] at L
 rw [gm l s h]
 have hp := iU l s
 unfold atS at h
 have c0 : decide ((0 : Int) ≤ ((xo l s : Nat) : Int)) = true := by simp
 have hsl : (strs l).length = n := by rw [zj, hn]
 have e : strs (l.take (xo l s) ++ s :: l.drop (xo l s)) = ((strs l).take (xo l s) ++ [[.str s]]) ++ (strs l).drop (xo l s) := by simp [strs]
 rw [e]
 have hA1 : ((strs l).take (xo l s)).length = xo l s := by rw [List.length_take, hsl]; omega
 have hB0 : ((strs l).drop (xo l s)).take (n - xo l s) = (strs l).drop (xo l s) := List.take_of_length_le (by rw [List.length_drop, hsl]; omega)
 have hB1 : ((strs l).drop (xo l s)).length = n - xo l s := by rw [List.length_drop, hsl]
 have hE : xo l s + 1 + (n - xo l s) = n + 1 := by omega
 rw [← hn] at hp
 have hnl : n ≤ 1073741824 := by omega
 cases hx : l[xo l s]? with
 | none =>
  have hlt : l.length ≤ xo l s := List.getElem?_eq_none_iff.1 hx
  have c : decide (((xo l s : Nat) : Int) < (n : Int)) = false := by rw [hn]; simpa using hlt
  clear h hx e
  generalize xo l s = p at *
  generalize hA : (strs l).take p = A at *
  generalize hB : (strs l).drop p = B at *
  have hC : (A ++ [[T.str s]]).length = p + 1 := by simp [hA1]
  refine yf Tryz.func128 rfl (by kernel_rfl) ?_
  unfold Tryz.f128
  simp (disch := ((try simp only [LL]); omega)) only [↓GO, ↓DRW, GA, GX, ren, zm, z8, refs, z7, cst, zo, isC, bin, una, z6, zc, blt, asArg, ze, zb, zf, z1, E.mkS, unN, zd, zn, za, GS, simprocAttr, GZ, L, c, c0, hsl, Nat.sub_zero, hA, hA1, hC, hB, hB0, hB1, hE, List.nil_append, Nat.zero_add, zD, xf]
  refine yJ (by kernel_rfl) ?_
  rfl
 | some x =>
  rw [hx] at h
  have q : (x == s) = false := by simpa using h
  have hget := yV hx
  have hlt : xo l s < l.length := (List.getElem?_eq_some_iff.1 hx).1
  have c : decide (((xo l s : Nat) : Int) < (n : Int)) = true := by rw [hn]; simpa using hlt
  clear h hx e
  generalize xo l s = p at *
  generalize hA : (strs l).take p = A at *
  generalize hB : (strs l).drop p = B at *
  have hC : (A ++ [[T.str s]]).length = p + 1 := by simp [hA1]
  refine yf Tryz.func128 rfl (by kernel_rfl) ?_
  unfold Tryz.f128
  simp (disch := ((try simp only [LL]); omega)) only [↓GO, ↓DRW, GA, GX, ren, zm, z8, refs, z7, cst, zo, isC, bin, una, z6, zc, blt, asArg, ze, zb, zf, z1, E.mkS, unN, zd, zn, za, GS, simprocAttr, GZ, L, c, c0, hget, q, hsl, Nat.sub_zero, hA, hA1, hC, hB, hB0, hB1, hE, List.nil_append, Nat.zero_add, zD, xf]
  refine yJ (by kernel_rfl) ?_
  rfl
theorem ZO (k : Str) : ∀ (r : List Str) (i : Nat), decide (ixS k i r ≥ 0) = vm r k
 | [], i => rfl
 | x :: r, i => by
  rw [ixS, show vm (x :: r) k = ((x == k) || vm r k) from rfl]
  cases (x == k) with
  | true => simp
  | false => simp only [cond_false, Bool.false_or]; exact ZO k r (i + 1)
theorem c_con (l : List Str) (hl : l.length ≤ 1048576) (s : Str) : zk (EV Tryz.prog pol) 108 [.t (.list 1 (strs l)), .t (.str s)] = some (.t (.bool (vm l s))) := by
 have h1 := c_ix s l hl
 have h2 := ZO s l 0
 apply zq
 refine zr rfl Tryz.func108 rfl (by kernel_rfl) ?_
 unfold Tryz.f108
 simp (disch := ((try simp only [LL]); omega)) only [↓GO, ↓DRW, GA, GX, ren, zm, z8, refs, z7, cst, zo, isC, bin, una, z6, zc, blt, asArg, ze, zb, zf, z1, E.mkS, unN, zd, zn, za, GS, simprocAttr, GZ, h1, h2, zD]
end Go.Proofs.YtijninlbpifonaaGreatDoor
/- slices.IndexFunc at texts. Conditions: those of each lemma. -/
namespace Go.Proofs.YtijninlbpifonaaGreatDoor
open E
set_option linter.unusedSimpArgs false
set_option linter.unusedVariables false
set_option maxRecDepth 100000
theorem rO (g : Nat) (caps : List T) (p : Str → Bool) (es : List Str) (hl : es.length ≤ 4611686018427387904) (hp : ∀ x ∈ es, zk (EV Tryz.prog pol) g (.t (.str x) :: caps.map .t) = some (.t (.bool (p x)))) : ∀ (rest pre : List Str), es = pre ++ rest →
 EV Tryz.prog pol (.loop 249 26 0 [.t (.list 1 (strs es)), .t (.fn g caps), .t (.int .i64 (es.length : Int)), .t (.int .i64 (pre.length : Int))] []) = some (match wJ p rest pre.length with | some i => .loop .ret [.t (.int .i64 (i : Int))] [] | none => .loop (.exit 0) [.bad] [])
 | [], pre, hs => by
  have c : decide ((pre.length : Int) < (es.length : Int)) = false := by simp [hs]
  refine zh Tryz.func249 rfl rfl ?_
  simp only [↓GO, ↓DRW, GA, GX, ren, zm, z8, refs, z7, cst, zo, isC, bin, una, z6, zc, blt, asArg, ze, zb, zf, z1, E.mkS, unN, zd, zn, za, GS, simprocAttr, c, wJ]
 | b :: rest, pre, hs => by
  have c : decide ((pre.length : Int) < (es.length : Int)) = true := by simp [hs]; omega
  have hi : pre.length < es.length := by rw [hs]; simp
  have hget := yG es pre.length hi
  have hgb : es[pre.length] = b := by simp [hs]
  rw [hgb] at hget
  have hb := hp b (by rw [hs]; simp)
  have e1 : (pre.length : Int) + 1 = ((pre ++ [b]).length : Int) := by simp
  have IH := rO g caps p es hl hp rest (pre ++ [b]) (by rw [hs]; simp)
  refine zh Tryz.func249 rfl rfl ?_
  simp only [wJ]
  cases hpb : p b with
  | true =>
   rw [hpb] at hb
   simp (disch := omega) only [↓GO, ↓DRW, GA, GX, ren, zm, z8, refs, z7, cst, zo, isC, bin, una, z6, zc, blt, asArg, ze, zb, zf, z1, E.mkS, unN, zd, zn, za, GS, simprocAttr, zj, c, hget, zi, hb]
  | false =>
   rw [hpb] at hb
   simp (disch := omega) only [↓GO, ↓DRW, GA, GX, ren, zm, z8, refs, z7, cst, zo, isC, bin, una, z6, zc, blt, asArg, ze, zb, zf, z1, E.mkS, unN, zd, zn, za, GS, simprocAttr, zj, c, hget, zi, hb]
   rw [e1, IH]
   simp
theorem kb (g : Nat) (caps : List T) (p : Str → Bool) (es : List Str) (hl : es.length ≤ 4611686018427387904) (hp : ∀ x ∈ es, zk (EV Tryz.prog pol) g (.t (.str x) :: caps.map .t) = some (.t (.bool (p x)))) :
 zk (EV Tryz.prog pol) 249 [.t (.list 1 (strs es)), .t (.fn g caps)] = some (.t (.int .i64 (ixI (wJ p es 0)))) := by
 have IH := rO g caps p es hl hp es [] rfl
 simp only [List.length_nil, Int.natCast_zero] at IH
 apply zq
 refine zr rfl Tryz.func249 rfl (by kernel_rfl) ?_
 unfold Tryz.f249
 cases hf : wJ p es 0 with
 | none => rw [hf] at IH; simp only [↓GO, ↓DRW, GA, GX, ren, zm, z8, refs, z7, cst, zo, isC, bin, una, z6, zc, blt, asArg, ze, zb, zf, z1, E.mkS, unN, zd, zn, za, GS, simprocAttr, zj, IH, ixI]
 | some i => rw [hf] at IH; simp only [↓GO, ↓DRW, GA, GX, ren, zm, z8, refs, z7, cst, zo, isC, bin, una, z6, zc, blt, asArg, ze, zb, zf, z1, E.mkS, unN, zd, zn, za, GS, simprocAttr, zj, IH, ixI]
end Go.Proofs.YtijninlbpifonaaGreatDoor
/- Versions in order, plain: one order, all that is sorted is the same. Conditions: none. -/
namespace Go.Proofs.YtijninlbpifonaaGreatDoor
open E
set_option linter.unusedVariables false
set_option linter.unusedSimpArgs false
set_option maxRecDepth 100000
structure Cmp {α : Type} (p : α → Prop) (c : α → α → Int) : Prop where
 anti : ∀ x y, p x → p y → c y x = - c x y
 trans : ∀ x y z, p x → p y → p z → c x y < 0 → c y z < 0 → c x z < 0
 sep : ∀ x y, p x → p y → c x y = 0 → x = y
theorem Cmp.refl {α : Type} {p : α → Prop} {c : α → α → Int} (h : Cmp p c) {x : α} (hx : p x) : c x x = 0 := by
 have := h.anti x x hx hx; omega
theorem Cmp.QH {α β : Type} {p : β → Prop} {c : β → β → Int} (h : Cmp p c) (f : α → β) (q : α → Prop) (hp : ∀ x, q x → p (f x)) (hi : ∀ x y, q x → q y → f x = f y → x = y) : Cmp q fun x y => c (f x) (f y) :=
 ⟨fun x y hx hy => h.anti _ _ (hp x hx) (hp y hy), fun x y z hx hy hz => h.trans _ _ _ (hp x hx) (hp y hy) (hp z hz), fun x y hx hy e => hi x y hx hy (h.sep _ _ (hp x hx) (hp y hy) e)⟩
theorem Cmp.lex {α β : Type} {p : α → Prop} {q : β → Prop} {c : α → α → Int} {d : β → β → Int} (h : Cmp p c) (k : Cmp q d) : Cmp (fun x : α × β => p x.1 ∧ q x.2) fun x y => cond (c x.1 y.1 == 0) (d x.2 y.2) (c x.1 y.1) := by
 refine ⟨fun x y hx hy => ?_, fun x y z hx hy hz h1 h2 => ?_, fun x y hx hy e => ?_⟩
 · have ha := h.anti x.1 y.1 hx.1 hy.1
   cases hc : (c x.1 y.1 == 0) with
   | true =>
    have h0 : c x.1 y.1 = 0 := by simpa using hc
    rw [ha, h0, show ((-0 : Int) == 0) = true from rfl, cond_true, cond_true]
    exact k.anti _ _ hx.2 hy.2
   | false =>
    have h0 : c x.1 y.1 ≠ 0 := by simpa using hc
    have h1 : (c y.1 x.1 == 0) = false := by rw [beq_eq_false_iff_ne, ha]; omega
    rw [h1, cond_false, cond_false, ha]
 · cases hxy : (c x.1 y.1 == 0) with
   | true =>
    have e1 := h.sep _ _ hx.1 hy.1 (by simpa using hxy)
    rw [hxy, cond_true] at h1
    rw [e1]
    cases hyz : (c y.1 z.1 == 0) with
    | true => rw [hyz, cond_true] at h2; rw [cond_true]; exact k.trans _ _ _ hx.2 hy.2 hz.2 h1 h2
    | false => rw [hyz, cond_false] at h2; rw [cond_false]; exact h2
   | false =>
    rw [hxy, cond_false] at h1
    cases hyz : (c y.1 z.1 == 0) with
    | true =>
     have e1 := h.sep _ _ hy.1 hz.1 (by simpa using hyz)
     rw [← e1, hxy, cond_false]; exact h1
    | false =>
     rw [hyz, cond_false] at h2
     have h3 := h.trans _ _ _ hx.1 hy.1 hz.1 h1 h2
     have : (c x.1 z.1 == 0) = false := by rw [beq_eq_false_iff_ne]; omega
     rw [this, cond_false]; exact h3
 · cases hc : (c x.1 y.1 == 0) with
   | true =>
    rw [hc, cond_true] at e
    have e1 := h.sep _ _ hx.1 hy.1 (by simpa using hc)
    have e2 := k.sep _ _ hx.2 hy.2 e
    exact Prod.ext e1 e2
   | false => rw [hc, cond_false] at e; rw [e] at hc; cases hc
theorem ue {a b : Int} : yE a b < 0 ↔ a < b := by
 unfold yE
 by_cases h1 : a < b
 · simp [h1]
 · by_cases h2 : b < a
   · simp [h1, h2]
   · simp [h1, h2]
theorem uF (a b : Int) : yE b a = - yE a b := by
 unfold yE
 by_cases h1 : a < b
 · have h2 : ¬ b < a := by omega
   simp [h1, h2]
 · by_cases h2 : b < a
   · simp [h1, h2]
   · simp [h1, h2]
theorem xO : Cmp (fun _ => True) yE :=
 ⟨fun x y _ _ => uF x y, fun x y z _ _ _ h1 h2 => by rw [ue] at *; omega, fun x y _ _ e => by have := vA x y; rw [e] at this; simpa using this.symm⟩
theorem RI {a b : Str} : rT a b < 0 ↔ Op.bytesLess a b = true := by
 unfold rT
 cases Op.bytesLess a b with
 | true => simp
 | false => cases (a == b) <;> simp
theorem pX : Cmp (fun _ => True) rT := by
 refine ⟨fun x y _ _ => ?_, fun x y z _ _ _ h1 h2 => ?_, fun x y _ _ e => ?_⟩
 · unfold rT
   cases h1 : Op.bytesLess x y with
   | true =>
    have h2 : Op.bytesLess y x = false := by
     cases h : Op.bytesLess y x with
     | false => rfl
     | true => have := w7 h1 h; rw [xY] at this; cases this
    have h3 : (y == x) = false := by
     rw [beq_eq_false_iff_ne]; intro e; subst e; rw [xY] at h1; cases h1
    rw [h2, h3]; rfl
   | false =>
    cases h2 : Op.bytesLess y x with
    | true =>
     have h3 : (x == y) = false := by
      rw [beq_eq_false_iff_ne]; intro e; subst e; rw [xY] at h2; cases h2
     rw [h3]; rfl
    | false =>
     have := sv h1 h2
     subst this
     simp
 · rw [RI] at *; exact w7 h1 h2
 · unfold rT at e
   cases h1 : Op.bytesLess x y with
   | true => rw [h1] at e; cases e
   | false =>
    rw [h1] at e
    cases h2 : (x == y) with
    | true => simpa using h2
    | false => rw [h2] at e; cases e
/-- a part's place: a number ahead of all words -/
theorem uE : Cmp (fun _ => True) ud := by
 have inj : ∀ {x y : Str}, 0 ≤ zH x → zH x = zH y → x = y := fun {x y} h e => by
  have h1 := (wP h).2.1
  have h2 := (wP (s := y) (by rw [← e]; exact h)).2.1
  rw [← h1, ← h2, e]
 refine ⟨fun x y _ _ => ?_, fun x y z _ _ _ h1 h2 => ?_, fun x y _ _ e => ?_⟩
 · unfold ud
   cases decide (zH x ≥ 0) <;> cases decide (zH y ≥ 0) <;> simp only [Bool.and_true, Bool.and_false, Bool.true_and, Bool.false_and, cond_true, cond_false]
   all_goals first | exact pX.anti x y trivial trivial | exact uF _ _ | rfl
 · unfold ud at *
   cases hx : decide (zH x ≥ 0) <;> cases hy : decide (zH y ≥ 0) <;> cases hz : decide (zH z ≥ 0) <;> simp only [hx, hy, hz, Bool.and_true, Bool.and_false, Bool.true_and, Bool.false_and, cond_true, cond_false] at *
   all_goals first | exact pX.trans x y z trivial trivial trivial h1 h2 | exact xO.trans _ _ _ trivial trivial trivial h1 h2 | omega
 · unfold ud at e
   cases hx : decide (zH x ≥ 0) <;> cases hy : decide (zH y ≥ 0) <;> simp only [hx, hy, Bool.and_true, Bool.and_false, Bool.true_and, Bool.false_and, cond_true, cond_false] at e
   all_goals try omega
   · exact pX.sep x y trivial trivial e
   · exact inj (of_decide_eq_true hx) (xO.sep _ _ trivial trivial e)
theorem tm (a b : Str) (l m : List Str) : vc (a :: l) (b :: m) = cond (ud a b == 0) (vc l m) (ud a b) := by
 unfold vc
 rw [uf]
 cases (ud a b == 0) with
 | true =>
  simp only [cond_true, List.length_cons]
  cases uf l m with
  | some x => rfl
  | none =>
   simp only [Option.getD_none]
   unfold yE
   rw [show decide (((l.length + 1 : Nat) : Int) < ((m.length + 1 : Nat) : Int)) = decide ((l.length : Int) < (m.length : Int)) by rw [Bool.eq_iff_iff]; simp,
    show decide (((l.length + 1 : Nat) : Int) > ((m.length + 1 : Nat) : Int)) = decide ((l.length : Int) > (m.length : Int)) by rw [Bool.eq_iff_iff]; simp]
 | false => rfl
theorem r5 (m : List Str) : vc [] m = yE 0 (m.length : Int) := by unfold vc uf; rfl
theorem wE (l : List Str) : vc l [] = yE (l.length : Int) 0 := by unfold vc uf; cases l <;> rfl
theorem mM : ∀ l m : List Str, vc m l = - vc l m
 | [], m => by rw [r5, wE]; exact uF _ _
 | a :: l, [] => by rw [r5, wE]; exact uF _ _
 | a :: l, b :: m => by
  have h := uE.anti a b trivial trivial
  rw [tm, tm]
  cases hc : (ud a b == 0) with
  | true =>
   have h0 : ud a b = 0 := by simpa using hc
   rw [h, h0, show ((-0 : Int) == 0) = true from rfl, cond_true, cond_true]
   exact mM l m
  | false =>
   have h0 : ud a b ≠ 0 := by simpa using hc
   have h1 : (ud b a == 0) = false := by rw [beq_eq_false_iff_ne, h]; omega
   rw [h1, cond_false, cond_false, h]
theorem jH : ∀ l m : List Str, vc l m = 0 → l = m
 | [], m, e => by
  rw [r5] at e
  have := xO.sep _ _ trivial trivial e
  cases m with
  | nil => rfl
  | cons b m => simp at this; omega
 | a :: l, [], e => by
  rw [wE] at e
  have := xO.sep _ _ trivial trivial e
  simp at this; omega
 | a :: l, b :: m, e => by
  rw [tm] at e
  cases hc : (ud a b == 0) with
  | true =>
   rw [hc, cond_true] at e
   rw [uE.sep a b trivial trivial (by simpa using hc), jH l m e]
  | false => rw [hc, cond_false] at e; rw [e] at hc; cases hc
theorem oZ : ∀ l m k : List Str, vc l m < 0 → vc m k < 0 → vc l k < 0
 | [], [], k, h1, h2 => h2
 | [], b :: m, [], h1, h2 => by rw [wE, ue] at h2; simp at h2; omega
 | [], b :: m, c :: k, h1, h2 => by rw [r5, ue]; simp
 | a :: l, [], k, h1, h2 => by rw [wE, ue] at h1; simp at h1; omega
 | a :: l, b :: m, [], h1, h2 => by rw [wE, ue] at h2; simp at h2; omega
 | a :: l, b :: m, c :: k, h1, h2 => by
  rw [tm] at *
  cases hxy : (ud a b == 0) with
  | true =>
   have e1 := uE.sep a b trivial trivial (by simpa using hxy)
   subst e1
   rw [hxy, cond_true] at h1
   cases hyz : (ud a c == 0) with
   | true => rw [hyz, cond_true] at h2; rw [cond_true]; exact oZ l m k h1 h2
   | false => rw [hyz, cond_false] at h2; rw [cond_false]; exact h2
  | false =>
   rw [hxy, cond_false] at h1
   cases hyz : (ud b c == 0) with
   | true =>
    have e1 := uE.sep b c trivial trivial (by simpa using hyz)
    subst e1
    rw [hxy, cond_false]; exact h1
   | false =>
    rw [hyz, cond_false] at h2
    have h3 := uE.trans a b c trivial trivial trivial h1 h2
    have : (ud a c == 0) = false := by rw [beq_eq_false_iff_ne]; omega
    rw [this, cond_false]; exact h3
/-- what stands behind the numbers: nothing is above all -/
def YL (a b : List Str) : Int := cond (a == [] || b == []) (yE (b.length : Int) (a.length : Int)) (vc a b)
theorem cZ : Cmp (fun _ => True) YL := by
 refine ⟨fun x y _ _ => ?_, fun x y z _ _ _ h1 h2 => ?_, fun x y _ _ e => ?_⟩
 · unfold YL
   rw [Bool.or_comm]
   cases (x == [] || y == []) with
   | true => exact uF _ _
   | false => exact mM x y
 · unfold YL at *
   cases x with
   | nil =>
    simp only [beq_self_eq_true, Bool.true_or, cond_true, ue, List.length_nil] at h1
    omega
   | cons a x =>
    cases y with
    | nil =>
     simp only [beq_self_eq_true, Bool.true_or, cond_true, ue, List.length_nil] at h2
     omega
    | cons b y =>
     cases z with
     | nil =>
      simp only [beq_self_eq_true, Bool.or_true, cond_true, ue, List.length_nil, List.length_cons]
      omega
     | cons c z =>
      rw [show ((a :: x == []) || (b :: y == [])) = false from rfl, cond_false] at h1
      rw [show ((b :: y == []) || (c :: z == [])) = false from rfl, cond_false] at h2
      rw [show ((a :: x == []) || (c :: z == [])) = false from rfl, cond_false]
      exact oZ _ _ _ h1 h2
 · unfold YL at e
   cases x with
   | nil =>
    simp only [beq_self_eq_true, Bool.true_or, cond_true, List.length_nil] at e
    have := xO.sep _ _ trivial trivial e
    cases y with
    | nil => rfl
    | cons b y => simp at this; omega
   | cons a x =>
    cases y with
    | nil =>
     simp only [beq_self_eq_true, Bool.or_true, cond_true, List.length_nil] at e
     have := xO.sep _ _ trivial trivial e
     simp at this; omega
    | cons b y =>
     rw [show ((a :: x == []) || (b :: y == [])) = false from rfl, cond_false] at e
     exact jH _ _ e
theorem Xo : Cmp (fun _ => True) mL := by
 have h := (xO.lex (xO.lex (xO.lex cZ))).QH (fun v : Ver => (v.maj, v.min, v.pat, v.pre)) (fun _ => True) (fun _ _ => ⟨trivial, trivial, trivial, trivial⟩) (fun x y _ _ e => by
  obtain ⟨a, b, c, d⟩ := x
  obtain ⟨a', b', c', d'⟩ := y
  simp only [Prod.mk.injEq] at e
  obtain ⟨rfl, rfl, rfl, rfl⟩ := e
  rfl)
 exact h
/-- texts of versions compared -/
def xi (s t : Str) : Int := mL (zE s).1 (zE t).1
theorem yp : Cmp (fun s => isV s = true) xi :=
 Xo.QH (fun s => (zE s).1) _ (fun _ _ => trivial) fun x y hx hy e => by
  have h1 := (yO hx).2.1
  have h2 := (yO hy).2.1
  rw [← h1, ← h2, e]
def pq (l : List Str) : Prop := l.Pairwise fun x y => xi x y < 0
def Yy (l : List Str) : Prop := ∀ s ∈ l, isV s = true
theorem pq.uniq : ∀ {a b : List Str}, Yy a → Yy b → pq a → pq b → (∀ s, s ∈ a ↔ s ∈ b) → a = b
 | [], [], _, _, _, _, _ => rfl
 | [], y :: b, _, _, _, _, h => by have := (h y).2 (by simp); simp at this
 | x :: a, [], _, _, _, _, h => by have := (h x).1 (by simp); simp at this
 | x :: a, y :: b, va, vb, h1, h2, h => by
  obtain ⟨p1, p2⟩ := List.pairwise_cons.1 h1
  obtain ⟨q1, q2⟩ := List.pairwise_cons.1 h2
  have hxy : x = y := by
   rcases List.mem_cons.1 ((h x).1 (by simp)) with e | m1
   · exact e
   · rcases List.mem_cons.1 ((h y).2 (by simp)) with e | m2
     · exact e.symm
     · have a1 := p1 y m2
       have a2 := q1 x m1
       have := yp.anti x y (va x (by simp)) (vb y (by simp))
       omega
  subst hxy
  have hx := va x (by simp)
  have hr := yp.refl hx
  rw [pq.uniq (fun s hs => va s (by simp [hs])) (fun s hs => vb s (by simp [hs])) p2 q2 fun s => ?_]
  constructor
  · intro hs
    rcases List.mem_cons.1 ((h s).1 (by simp [hs])) with rfl | m
    · have := p1 s hs; omega
    · exact m
  · intro hs
    rcases List.mem_cons.1 ((h s).2 (by simp [hs])) with rfl | m
    · have := q1 s hs; omega
    · exact m
/-- where a version goes -/
def xj : List Str → Str → Nat
 | [], _ => 0
 | x :: r, s => cond (decide (xi x s ≥ 0)) 0 (xj r s + 1)
def Yr (l : List Str) (s : Str) : Bool := l[xj l s]? == some s
def tK (l : List Str) (s : Str) : List Str := cond (Yr l s) l (l.take (xj l s) ++ s :: l.drop (xj l s))
theorem iT : ∀ (l : List Str) (s : Str), xj l s ≤ l.length
 | [], s => by simp [xj]
 | x :: r, s => by
  have := iT r s
  rw [xj]
  cases decide (xi x s ≥ 0) with
  | true => simp
  | false => simp only [cond_false, List.length_cons]; omega
theorem ja (x : Str) (r : List Str) (s : Str) : tK (x :: r) s = cond (decide (xi x s ≥ 0)) (cond (x == s) (x :: r) (s :: x :: r)) (x :: tK r s) := by
 unfold tK Yr
 rw [xj]
 cases decide (xi x s ≥ 0) with
 | true =>
  simp only [cond_true, List.getElem?_cons_zero, List.take_zero, List.drop_zero, List.nil_append]
  rfl
 | false =>
  simp only [cond_false, List.getElem?_cons_succ, List.take_succ_cons, List.drop_succ_cons, List.cons_append]
  cases (r[xj r s]? == some s) <;> rfl
theorem sy : ∀ (l : List Str) (s y : Str), y ∈ tK l s ↔ y ∈ l ∨ y = s
 | [], s, y => by simp [tK, Yr, xj]
 | x :: r, s, y => by
  rw [ja]
  cases decide (xi x s ≥ 0) with
  | true =>
   rw [cond_true]
   cases h2 : (x == s) with
   | true =>
    have : x = s := by simpa using h2
    subst this
    simp only [cond_true, List.mem_cons]
    exact ⟨fun h => .inl h, fun h => h.elim id fun e => .inl e⟩
   | false =>
    rw [cond_false]
    simp only [List.mem_cons]
    constructor
    · rintro (h | h | h)
      · exact .inr h
      · exact .inl (.inl h)
      · exact .inl (.inr h)
    · rintro ((h | h) | h)
      · exact .inr (.inl h)
      · exact .inr (.inr h)
      · exact .inl h
  | false =>
   rw [cond_false]
   simp only [List.mem_cons, sy r s y, or_assoc]
theorem dc : ∀ (l : List Str) (s : Str), Yy l → isV s = true → pq l → pq (tK l s)
 | [], s, _, _, _ => by simp [tK, Yr, xj, pq]
 | x :: r, s, hv, hs, h => by
  obtain ⟨p1, p2⟩ := List.pairwise_cons.1 h
  have hx := hv x (by simp)
  rw [ja]
  cases h1 : decide (xi x s ≥ 0) with
  | true =>
   rw [cond_true]
   cases h2 : (x == s) with
   | true => exact h
   | false =>
    rw [cond_false]
    have h3 := of_decide_eq_true h1
    have h4 : xi x s ≠ 0 := fun e => by rw [yp.sep x s hx hs e] at h2; simp at h2
    have h5 := yp.anti x s hx hs
    refine List.pairwise_cons.2 ⟨fun y hy => ?_, h⟩
    rcases List.mem_cons.1 hy with rfl | hy
    · omega
    · exact yp.trans s x y hs hx (hv y (by simp [hy])) (by omega) (p1 y hy)
  | false =>
   rw [cond_false]
   have h3 := of_decide_eq_false h1
   refine List.pairwise_cons.2 ⟨fun y hy => ?_, dc r s (fun z hz => hv z (by simp [hz])) hs p2⟩
   rcases (sy r s y).1 hy with hy | rfl
   · exact p1 y hy
   · omega
/-- the reference's: one by one -/
def xa : List Str → List Str → List Str
 | out, [] => out
 | out, s :: r => xa (cond (isV s) (tK out s) out) r
theorem sM : ∀ (l out : List Str), Yy out → pq out → Yy (xa out l) ∧ pq (xa out l) ∧ ∀ y, y ∈ xa out l ↔ y ∈ out ∨ (y ∈ l ∧ isV y = true)
 | [], out, h1, h2 => ⟨h1, h2, fun y => by simp [xa]⟩
 | s :: r, out, h1, h2 => by
  rw [xa]
  cases hs : isV s with
  | true =>
   rw [cond_true]
   obtain ⟨k1, k2, k3⟩ := sM r (tK out s) (fun y hy => by
    rcases (sy out s y).1 hy with hy | rfl
    · exact h1 y hy
    · exact hs) (dc out s h1 hs h2)
   refine ⟨k1, k2, fun y => ?_⟩
   rw [k3, sy]
   simp only [List.mem_cons]
   constructor
   · rintro ((h | rfl) | ⟨h, hv⟩)
     · exact .inl h
     · exact .inr ⟨.inl rfl, hs⟩
     · exact .inr ⟨.inr h, hv⟩
   · rintro (h | ⟨rfl | h, hv⟩)
     · exact .inl (.inl h)
     · exact .inl (.inr rfl)
     · exact .inr ⟨h, hv⟩
  | false =>
   rw [cond_false]
   obtain ⟨k1, k2, k3⟩ := sM r out h1 h2
   refine ⟨k1, k2, fun y => ?_⟩
   rw [k3]
   simp only [List.mem_cons]
   constructor
   · rintro (h | ⟨h, hv⟩)
     · exact .inl h
     · exact .inr ⟨.inr h, hv⟩
   · rintro (h | ⟨rfl | h, hv⟩)
     · exact .inl h
     · rw [hs] at hv; cases hv
     · exact .inr ⟨h, hv⟩
/-- neighbours that are one -/
def v8 : List Str → List Str
 | [] => []
 | [x] => [x]
 | x :: y :: r => cond (x == y) (v8 (y :: r)) (x :: v8 (y :: r))
theorem wG : ∀ (l : List Str) (s : Str), s ∈ v8 l ↔ s ∈ l
 | [], s => Iff.rfl
 | [x], s => Iff.rfl
 | x :: y :: r, s => by
  rw [v8]
  have ih := wG (y :: r) s
  cases h : (x == y) with
  | true =>
   have : x = y := by simpa using h
   subst this
   rw [cond_true, ih]
   simp
  | false => rw [cond_false, List.mem_cons, ih, List.mem_cons (a := s) (b := x)]
theorem jG : ∀ (l : List Str), Yy l → (l.Pairwise fun x y => xi x y ≤ 0) → pq (v8 l)
 | [], _, _ => by simp [v8, pq]
 | [x], _, _ => by simp [v8, pq]
 | x :: y :: r, hv, h => by
  obtain ⟨p1, p2⟩ := List.pairwise_cons.1 h
  have ih := jG (y :: r) (fun s hs => hv s (by simp at hs ⊢; right; exact hs)) p2
  rw [v8]
  cases hxy : (x == y) with
  | true => exact ih
  | false =>
   rw [cond_false]
   refine List.pairwise_cons.2 ⟨fun z hz => ?_, ih⟩
   rw [wG] at hz
   have hx := hv x (by simp)
   have hy := hv y (by simp)
   have h1 := p1 y (by simp)
   have h2 : xi x y ≠ 0 := fun e => by rw [yp.sep x y hx hy e] at hxy; simp at hxy
   rcases List.mem_cons.1 hz with rfl | hz'
   · omega
   · have h3 := (List.pairwise_cons.1 p2).1 z hz'
     have hzv := hv z (by simp [hz'])
     by_cases h4 : xi y z = 0
     · rw [← yp.sep y z hy hzv h4]; omega
     · exact yp.trans x y z hx hy hzv (by omega) (by omega)
/-- the same, however it is sorted -/
theorem YY (l m : List Str) (hp : m.Perm (l.filter isV)) (hm : m.Pairwise fun x y => xi x y ≤ 0) : v8 m = xa [] l := by
 obtain ⟨k1, k2, k3⟩ := sM l [] (fun s hs => by simp at hs) (by simp [pq])
 have hv : Yy m := fun s hs => by
  have := hp.mem_iff.1 hs
  exact (List.mem_filter.1 this).2
 refine pq.uniq (fun s hs => hv s ((wG m s).1 hs)) k1 (jG m hv hm) k2 fun s => ?_
 rw [wG, hp.mem_iff, List.mem_filter, k3]
 simp
end Go.Proofs.YtijninlbpifonaaGreatDoor
/- Names in order, changes between graphs, plain: both ways come to the same. Conditions: none. -/
namespace Go.Proofs.YtijninlbpifonaaGreatDoor
open E
set_option linter.unusedVariables false
set_option linter.unusedSimpArgs false
set_option maxRecDepth 100000
def o7 (l : List Str) : Prop := l.Pairwise fun x y => Op.bytesLess x y = true
theorem P6 {x y : Str} (h : Op.bytesLess x y = true) : Op.bytesLess y x = false := by
 cases h2 : Op.bytesLess y x with
 | false => rfl
 | true => have := w7 h h2; rw [xY] at this; cases this
theorem o7.uniq : ∀ {a b : List Str}, o7 a → o7 b → (∀ s, s ∈ a ↔ s ∈ b) → a = b
 | [], [], _, _, _ => rfl
 | [], y :: b, _, _, h => by have := (h y).2 (by simp); simp at this
 | x :: a, [], _, _, h => by have := (h x).1 (by simp); simp at this
 | x :: a, y :: b, h1, h2, h => by
  obtain ⟨p1, p2⟩ := List.pairwise_cons.1 h1
  obtain ⟨q1, q2⟩ := List.pairwise_cons.1 h2
  have hxy : x = y := by
   rcases List.mem_cons.1 ((h x).1 (by simp)) with e | m1
   · exact e
   · rcases List.mem_cons.1 ((h y).2 (by simp)) with e | m2
     · exact e.symm
     · have a1 := P6 (p1 y m2)
       have a2 := q1 x m1
       rw [a2] at a1; cases a1
  subst hxy
  rw [o7.uniq p2 q2 fun s => ?_]
  constructor
  · intro hs
    rcases List.mem_cons.1 ((h s).1 (by simp [hs])) with rfl | m
    · have := p1 s hs; rw [xY] at this; cases this
    · exact m
  · intro hs
    rcases List.mem_cons.1 ((h s).2 (by simp [hs])) with rfl | m
    · have := q1 s hs; rw [xY] at this; cases this
    · exact m
theorem lH : ∀ (l : List Str) (s y : Str), y ∈ wA l s ↔ y ∈ l ∨ y = s
 | [], s, y => by simp [wA]
 | x :: r, s, y => by
  rw [wA]
  cases h1 : Op.bytesLess x s with
  | true => rw [cond_true, List.mem_cons, lH r s y, List.mem_cons, or_assoc]
  | false =>
   rw [cond_false]
   cases h2 : (x == s) with
   | true =>
    have : x = s := by simpa using h2
    subst this
    rw [cond_true, List.mem_cons]
    constructor
    · exact .inl
    · rintro (h | h)
      · exact h
      · exact .inl h
   | false => rw [cond_false, List.mem_cons]; exact Or.comm
theorem jR : ∀ (l : List Str) (s : Str), o7 l → o7 (wA l s)
 | [], s, _ => by simp [wA, o7]
 | x :: r, s, h => by
  have h' := List.pairwise_cons.1 h
  rw [wA]
  cases h1 : Op.bytesLess x s with
  | true =>
   simp only [cond_true]
   refine List.pairwise_cons.2 ⟨fun y hy => ?_, jR r s h'.2⟩
   rcases (lH r s y).1 hy with hy | rfl
   · exact h'.1 y hy
   · exact h1
  | false =>
   simp only [cond_false]
   cases h2 : (x == s) with
   | true => exact h
   | false =>
    simp only [cond_false]
    have hsx : Op.bytesLess s x = true := by
     cases h3 : Op.bytesLess s x with
     | true => rfl
     | false => rw [sv h1 h3] at h2; simp at h2
    refine List.pairwise_cons.2 ⟨fun y hy => ?_, h⟩
    rcases List.mem_cons.1 hy with rfl | hy
    · exact hsx
    · exact w7 hsx (h'.1 y hy)
def yN (out l : List Str) : List Str := l.foldl wA out
theorem u6 (out : List Str) (x : Str) (l : List Str) : yN out (x :: l) = yN (wA out x) l := rfl
theorem bj (out l m : List Str) : yN out (l ++ m) = yN (yN out l) m := List.foldl_append
theorem jS : ∀ (l out : List Str), o7 out → o7 (yN out l) ∧ ∀ y, y ∈ yN out l ↔ y ∈ out ∨ y ∈ l
 | [], out, h => ⟨h, fun y => by simp [yN]⟩
 | x :: l, out, h => by
  obtain ⟨k1, k2⟩ := jS l (wA out x) (jR out x h)
  refine ⟨k1, fun y => ?_⟩
  rw [u6, k2, lH, List.mem_cons, or_assoc]
theorem qk : ∀ (l out : List Str), (yN out l).length ≤ out.length + l.length
 | [], out => by simp [yN]
 | x :: l, out => by
  have h := qk l (wA out x)
  have h2 : (wA out x).length ≤ out.length + 1 := by
   cases hc : vm out x with
   | false => rw [(pZ out x hc).length_eq]; simp
   | true =>
    clear h
    induction out with
    | nil => simp [wA]
    | cons y r ih =>
     rw [wA]
     cases Op.bytesLess y x with
     | true =>
      simp only [cond_true, List.length_cons]
      cases hr : vm r x with
      | true => have := ih hr; omega
      | false => rw [(pZ r x hr).length_eq]; simp
     | false => cases (y == x) <;> simp
  rw [u6, List.length_cons]; omega
theorem mJ : ∀ (l : List Str), Asc l → o7 (v8 l)
 | [], _ => by simp [v8, o7]
 | [x], _ => by simp [v8, o7]
 | x :: y :: r, h => by
  obtain ⟨p1, p2⟩ := List.pairwise_cons.1 h
  have ih := mJ (y :: r) p2
  rw [v8]
  cases hxy : (x == y) with
  | true => exact ih
  | false =>
   rw [cond_false]
   have hlt : Op.bytesLess x y = true := by
    cases h3 : Op.bytesLess x y with
    | true => rfl
    | false => rw [sv h3 (p1 y (by simp))] at hxy; simp at hxy
   refine List.pairwise_cons.2 ⟨fun z hz => ?_, ih⟩
   rw [wG] at hz
   rcases List.mem_cons.1 hz with rfl | hz'
   · exact hlt
   · have h3 := (List.pairwise_cons.1 p2).1 z hz'
     cases h4 : Op.bytesLess y z with
     | true => exact w7 hlt h4
     | false => rw [← sv h4 h3]; exact hlt
/-- what is sorted, each once -/
def uj (l : List Str) : List Str := v8 (xH l)
theorem nU (l : List Str) : uj l = yN [] l := by
 obtain ⟨k1, k2⟩ := jS l [] (by simp [o7])
 refine o7.uniq (mJ _ (X0 l)) k1 fun s => ?_
 unfold uj
 rw [wG, (rW l).mem_iff, k2]
 simp
theorem cE (l : List Str) (s : Str) : s ∈ uj l ↔ s ∈ l := by
 unfold uj
 rw [wG, (rW l).mem_iff]
/-- what is not in another list -/
def woS (a b : List Str) : List Str := a.filter fun s => !(vm b s)
theorem nt (a b : List Str) : (woS a b).length ≤ a.length := List.length_filter_le _ _
def vf (name : Str) (old new : List Str) (i : Nat) : zl :=
 match old[i]?, new[i]? with
 | some o, some n => cond (decide (xi o n < 0)) ⟨2, name, o, n⟩ ⟨3, name, o, n⟩
 | some o, none => ⟨1, name, o, []⟩
 | none, some n => ⟨0, name, [], n⟩
 | none, none => ⟨3, name, [], []⟩
def cA (name : Str) (old new : List Str) : List zl := (List.range (max old.length new.length)).map (vf name old new)
theorem sC (name : Str) (old new : List Str) : (cA name old new).length = max old.length new.length := by simp [cA]
def xx (l : List zF) : List (List Str) := l.map fun s => [s.alg, s.bytes]
def tC (p q : zg) : Bool := p.name == q.name && (p.version == q.version && (p.source == q.source && (p.dev == q.dev && ((xx p.sums == xx q.sums) && (p.needs == q.needs)))))
def wz (b : zy) (p : zg) : List zl :=
 match nn b.packs (keyOf p) with
 | some q => cond (tC p q) [] [⟨4, p.name, p.version, p.version⟩]
 | none => []
def yb (a b : zy) : List Str := uj ((a.packs ++ b.packs).map (·.name))
end Go.Proofs.YtijninlbpifonaaGreatDoor

/- Joined: K32 V15 K33 K13 K14 K15 K16 K17 K18 K19 K20 D1 E20 K28. Conditions: those of each lemma. -/
import Derived.Test.YtijninlbpifonaaGreatDoorYL
import Derived.Test.YtijninlbpifonaaGreatDoorYH
import Derived.Test.YtijninlbpifonaaGreatDoorYK
import GoSem.Step
import Derived.Calls
import Derived.Test.YtijninlbpifonaaGreatDoorYG
import Derived.Shelf.SlSortCmp.NoneTotal
import Derived.Lib.SortBridge
set_option linter.unusedVariables false
set_option linter.unusedSimpArgs false
namespace Go.Proofs.YtijninlbpifonaaGreatDoor
open E
set_option linter.unusedSimpArgs false
set_option linter.unusedVariables false
set_option maxRecDepth 100000
theorem QD (a b : List Str) (hl : a.length ≤ 4194304) : ∀ (ra rb pa pb : List Str), a = pa ++ ra → b = pb ++ rb → pa.length = pb.length → ra.length = rb.length →
 EV Tryz.prog pol (.loop 182 58 0 [.t (.list 1 (strs a)), .t (.list 1 (strs b)), .t (.int .i64 (a.length : Int)), .t (.int .i64 (pa.length : Int))] []) = some (cond (ra == rb) (.loop (.exit 0) [.bad] []) (.loop .ret [.t (.bool false)] []))
 | [], [], pa, pb, ha, hb, hp, hr => by
  have c : decide ((pa.length : Int) < (a.length : Int)) = false := by simp [ha]
  rw [show (([] : List Str) == []) = true from rfl, cond_true]
  refine zh Tryz.func182 rfl rfl ?_
  simp (disch := ((try simp only [LL]); omega)) only [↓GO, ↓DRW, GA, GX, ren, zm, z8, refs, z7, cst, zo, isC, bin, una, z6, zc, blt, asArg, ze, zb, zf, z1, E.mkS, unN, zd, zn, za, GS, simprocAttr, GZ, c, zD]
 | [], _ :: _, pa, pb, ha, hb, hp, hr => by simp at hr
 | _ :: _, [], pa, pb, ha, hb, hp, hr => by simp at hr
 | x :: ra, y :: rb, pa, pb, ha, hb, hp, hr => by
  have c : decide ((pa.length : Int) < (a.length : Int)) = true := by simp [ha]; omega
  have hg1 : (strs a)[pa.length]? = some [.str x] := yV (by rw [ha]; simp)
  have hg2 : (strs b)[pa.length]? = some [.str y] := yV (by rw [hb, hp]; simp)
  have hlen : pa.length + ra.length + 1 ≤ a.length := by rw [ha]; simp; omega
  have IH := QD a b hl ra rb (pa ++ [x]) (pb ++ [y]) (by rw [ha]; simp) (by rw [hb]; simp) (by simp [hp]) (by simpa using hr)
  rw [show ((pa ++ [x]).length : Int) = (pa.length : Int) + 1 by simp] at IH
  rw [List.cons_beq_cons]
  clear ha hb
  cases q : (x == y) with
  | true =>
   rw [Bool.true_and]
   refine zh Tryz.func182 rfl rfl ?_
   simp (disch := ((try simp only [LL]); omega)) only [↓GO, ↓DRW, GA, GX, ren, zm, z8, refs, z7, cst, zo, isC, bin, una, z6, zc, blt, asArg, ze, zb, zf, z1, E.mkS, unN, zd, zn, za, GS, simprocAttr, GZ, c, hg1, hg2, q, bne, Bool.not_true, zi, zD, IH]
  | false =>
   rw [Bool.false_and, cond_false]
   refine zh Tryz.func182 rfl rfl ?_
   simp (disch := ((try simp only [LL]); omega)) only [↓GO, ↓DRW, GA, GX, ren, zm, z8, refs, z7, cst, zo, isC, bin, una, z6, zc, blt, asArg, ze, zb, zf, z1, E.mkS, unN, zd, zn, za, GS, simprocAttr, GZ, c, hg1, hg2, q, bne, Bool.not_false, zi, zD]
theorem UQ {a b : List Str} (h : a.length ≠ b.length) : (a == b) = false := by
 rw [beq_eq_false_iff_ne]; intro e; exact h (by rw [e])
theorem c_eqI (a b : List Str) (hl : a.length ≤ 4194304) : zk (EV Tryz.prog pol) 182 [.t (.list 1 (strs a)), .t (.list 1 (strs b))] = some (.t (.bool (a == b))) := by
 by_cases hn : a.length = b.length
 · have L := QD a b hl a b [] [] rfl rfl rfl hn
   simp only [List.length_nil, Int.natCast_zero] at L
   have c : ((a.length : Int) != (b.length : Int)) = false := by rw [hn]; simp
   cases q : (a == b) <;> rw [q] at L <;> simp only [cond_true, cond_false] at L
   all_goals
    apply zq
    refine zr rfl Tryz.func182 rfl (by kernel_rfl) ?_
    unfold Tryz.f182
    simp (disch := ((try simp only [LL]); omega)) only [↓GO, ↓DRW, GA, GX, ren, zm, z8, refs, z7, cst, zo, isC, bin, una, z6, zc, blt, asArg, ze, zb, zf, z1, E.mkS, unN, zd, zn, za, GS, simprocAttr, GZ, L, zj, c, zD]
 · have c : ((a.length : Int) != (b.length : Int)) = true := by simp; omega
   rw [UQ hn]
   apply zq
   refine zr rfl Tryz.func182 rfl (by kernel_rfl) ?_
   unfold Tryz.f182
   simp (disch := ((try simp only [LL]); omega)) only [↓GO, ↓DRW, GA, GX, ren, zm, z8, refs, z7, cst, zo, isC, bin, una, z6, zc, blt, asArg, ze, zb, zf, z1, E.mkS, unN, zd, zn, za, GS, simprocAttr, GZ, zj, c, zD]
theorem QC (a b : List Str) (hl : a.length ≤ 4194304) : ∀ (ra rb pa pb : List Str), a = pa ++ ra → b = pb ++ rb → pa.length = pb.length → ra.length = rb.length →
 EV Tryz.prog pol (.loop 180 58 0 [.t (.list 1 (strs a)), .t (.list 1 (strs b)), .t (.int .i64 (pa.length : Int))] []) = some (cond (ra == rb) (.loop (.exit 0) [.bad] []) (.loop .ret [.t (.bool false)] []))
 | [], [], pa, pb, ha, hb, hp, hr => by
  have c : decide ((pa.length : Int) < (a.length : Int)) = false := by simp [ha]
  rw [show (([] : List Str) == []) = true from rfl, cond_true]
  refine zh Tryz.func180 rfl rfl ?_
  simp (disch := ((try simp only [LL]); omega)) only [↓GO, ↓DRW, GA, GX, ren, zm, z8, refs, z7, cst, zo, isC, bin, una, z6, zc, blt, asArg, ze, zb, zf, z1, E.mkS, unN, zd, zn, za, GS, simprocAttr, GZ, c, zj, zD]
 | [], _ :: _, pa, pb, ha, hb, hp, hr => by simp at hr
 | _ :: _, [], pa, pb, ha, hb, hp, hr => by simp at hr
 | x :: ra, y :: rb, pa, pb, ha, hb, hp, hr => by
  have c : decide ((pa.length : Int) < (a.length : Int)) = true := by simp [ha]; omega
  have hg1 : (strs a)[pa.length]? = some [.str x] := yV (by rw [ha]; simp)
  have hg2 : (strs b)[pa.length]? = some [.str y] := yV (by rw [hb, hp]; simp)
  have hlen : pa.length + ra.length + 1 ≤ a.length := by rw [ha]; simp; omega
  have IH := QC a b hl ra rb (pa ++ [x]) (pb ++ [y]) (by rw [ha]; simp) (by rw [hb]; simp) (by simp [hp]) (by simpa using hr)
  rw [show ((pa ++ [x]).length : Int) = (pa.length : Int) + 1 by simp] at IH
  rw [List.cons_beq_cons]
  clear ha hb
  cases q : (x == y) with
  | true =>
   rw [Bool.true_and]
   refine zh Tryz.func180 rfl rfl ?_
   simp (disch := ((try simp only [LL]); omega)) only [↓GO, ↓DRW, GA, GX, ren, zm, z8, refs, z7, cst, zo, isC, bin, una, z6, zc, blt, asArg, ze, zb, zf, z1, E.mkS, unN, zd, zn, za, GS, simprocAttr, GZ, c, hg1, hg2, zj, q, bne, Bool.not_true, zi, zD, IH]
  | false =>
   rw [Bool.false_and, cond_false]
   refine zh Tryz.func180 rfl rfl ?_
   simp (disch := ((try simp only [LL]); omega)) only [↓GO, ↓DRW, GA, GX, ren, zm, z8, refs, z7, cst, zo, isC, bin, una, z6, zc, blt, asArg, ze, zb, zf, z1, E.mkS, unN, zd, zn, za, GS, simprocAttr, GZ, c, hg1, hg2, zj, q, bne, Bool.not_false, zi, zD]
theorem c_eqR (a b : List Str) (hl : a.length ≤ 4194304) : zk (EV Tryz.prog pol) 180 [.t (.list 1 (strs a)), .t (.list 1 (strs b))] = some (.t (.bool (a == b))) := by
 by_cases hn : a.length = b.length
 · have L := QC a b hl a b [] [] rfl rfl rfl hn
   simp only [List.length_nil, Int.natCast_zero] at L
   have c : ((a.length : Int) != (b.length : Int)) = false := by rw [hn]; simp
   cases q : (a == b) <;> rw [q] at L <;> simp only [cond_true, cond_false] at L
   all_goals
    apply zq
    refine zr rfl Tryz.func180 rfl (by kernel_rfl) ?_
    unfold Tryz.f180
    simp (disch := ((try simp only [LL]); omega)) only [↓GO, ↓DRW, GA, GX, ren, zm, z8, refs, z7, cst, zo, isC, bin, una, z6, zc, blt, asArg, ze, zb, zf, z1, E.mkS, unN, zd, zn, za, GS, simprocAttr, GZ, L, zj, c, zD]
 · have c : ((a.length : Int) != (b.length : Int)) = true := by simp; omega
   have hf : (a == b) = false := by rw [beq_eq_false_iff_ne]; intro e; exact hn (by rw [e])
   rw [hf]
   apply zq
   refine zr rfl Tryz.func180 rfl (by kernel_rfl) ?_
   unfold Tryz.f180
   simp (disch := ((try simp only [LL]); omega)) only [↓GO, ↓DRW, GA, GX, ren, zm, z8, refs, z7, cst, zo, isC, bin, una, z6, zc, blt, asArg, ze, zb, zf, z1, E.mkS, unN, zd, zn, za, GS, simprocAttr, GZ, zj, c, zD]
theorem uZ (x : zF) (r : List zF) : xx (x :: r) = [x.alg, x.bytes] :: xx r := rfl
theorem sL (l : List zF) : (xx l).length = l.length := by simp [xx]
theorem gp {l : List zF} {i : Nat} {s : zF} (h : l[i]? = some s) : (zF.zA l)[i]? = some [.str s.alg, .str s.bytes] := by simp [zF.zA, zF.enc, h]
theorem TW (a b : List zF) (hl : a.length ≤ 4194304) : ∀ (ra rb pa pb : List zF), a = pa ++ ra → b = pb ++ rb → pa.length = pb.length → ra.length = rb.length →
 EV Tryz.prog pol (.loop 210 58 0 [.t (.list 2 (zF.zA a)), .t (.list 2 (zF.zA b)), .t (.int .i64 (a.length : Int)), .t (.int .i64 (pa.length : Int))] []) = some (cond (xx ra == xx rb) (.loop (.exit 0) [.bad] []) (.loop .ret [.t (.bool false)] []))
 | [], [], pa, pb, ha, hb, hp, hr => by
  have c : decide ((pa.length : Int) < (a.length : Int)) = false := by simp [ha]
  rw [show (xx [] == xx []) = true from rfl, cond_true]
  refine zh Tryz.func210 rfl rfl ?_
  simp (disch := ((try simp only [LL]); omega)) only [↓GO, ↓DRW, GA, GX, ren, zm, z8, refs, z7, cst, zo, isC, bin, una, z6, zc, blt, asArg, ze, zb, zf, z1, E.mkS, unN, zd, zn, za, GS, simprocAttr, GZ, c, zD]
 | [], _ :: _, pa, pb, ha, hb, hp, hr => by simp at hr
 | _ :: _, [], pa, pb, ha, hb, hp, hr => by simp at hr
 | x :: ra, y :: rb, pa, pb, ha, hb, hp, hr => by
  have c : decide ((pa.length : Int) < (a.length : Int)) = true := by simp [ha]; omega
  have hg1 : (zF.zA a)[pa.length]? = some [.str x.alg, .str x.bytes] := gp (by rw [ha]; simp)
  have hg2 : (zF.zA b)[pa.length]? = some [.str y.alg, .str y.bytes] := gp (by rw [hb, hp]; simp)
  have hlen : pa.length + ra.length + 1 ≤ a.length := by rw [ha]; simp; omega
  have IH := TW a b hl ra rb (pa ++ [x]) (pb ++ [y]) (by rw [ha]; simp) (by rw [hb]; simp) (by simp [hp]) (by simpa using hr)
  rw [show ((pa ++ [x]).length : Int) = (pa.length : Int) + 1 by simp] at IH
  rw [uZ, uZ, List.cons_beq_cons]
  clear ha hb
  cases q : ([x.alg, x.bytes] == [y.alg, y.bytes]) with
  | true =>
   rw [Bool.true_and]
   refine zh Tryz.func210 rfl rfl ?_
   simp (disch := ((try simp only [LL]); omega)) only [↓GO, ↓DRW, GA, GX, ren, zm, z8, refs, z7, cst, zo, isC, bin, una, z6, zc, blt, asArg, ze, zb, zf, z1, E.mkS, unN, zd, zn, za, GS, simprocAttr, GZ, c, hg1, hg2, q, bne, Bool.not_true, zi, zD, IH, List.length_cons, List.length_nil, Nat.zero_add, Nat.reduceAdd, and_self, if_true]
  | false =>
   rw [Bool.false_and, cond_false]
   refine zh Tryz.func210 rfl rfl ?_
   simp (disch := ((try simp only [LL]); omega)) only [↓GO, ↓DRW, GA, GX, ren, zm, z8, refs, z7, cst, zo, isC, bin, una, z6, zc, blt, asArg, ze, zb, zf, z1, E.mkS, unN, zd, zn, za, GS, simprocAttr, GZ, c, hg1, hg2, q, bne, Bool.not_false, zi, zD, List.length_cons, List.length_nil, Nat.zero_add, Nat.reduceAdd, and_self, if_true]
theorem Po (a b : List zF) (hl : a.length ≤ 4194304) : zk (EV Tryz.prog pol) 210 [.t (.list 2 (zF.zA a)), .t (.list 2 (zF.zA b))] = some (.t (.bool (xx a == xx b))) := by
 by_cases hn : a.length = b.length
 · have L := TW a b hl a b [] [] rfl rfl rfl hn
   simp only [List.length_nil, Int.natCast_zero] at L
   have c : ((a.length : Int) != (b.length : Int)) = false := by rw [hn]; simp
   cases q : (xx a == xx b) <;> rw [q] at L <;> simp only [cond_true, cond_false] at L
   all_goals
    apply zq
    refine zr rfl Tryz.func210 rfl (by kernel_rfl) ?_
    unfold Tryz.f210
    simp (disch := ((try simp only [LL]); omega)) only [↓GO, ↓DRW, GA, GX, ren, zm, z8, refs, z7, cst, zo, isC, bin, una, z6, zc, blt, asArg, ze, zb, zf, z1, E.mkS, unN, zd, zn, za, GS, simprocAttr, GZ, L, zF.zx, c, zD]
 · have c : ((a.length : Int) != (b.length : Int)) = true := by simp; omega
   have hf : (xx a == xx b) = false := by rw [beq_eq_false_iff_ne]; intro e; exact hn (by rw [← sL a, e, sL])
   rw [hf]
   apply zq
   refine zr rfl Tryz.func210 rfl (by kernel_rfl) ?_
   unfold Tryz.f210
   simp (disch := ((try simp only [LL]); omega)) only [↓GO, ↓DRW, GA, GX, ren, zm, z8, refs, z7, cst, zo, isC, bin, una, z6, zc, blt, asArg, ze, zb, zf, z1, E.mkS, unN, zd, zn, za, GS, simprocAttr, GZ, zF.zx, c, zD]
theorem pJ {p : zg} {n : Nat} (h : p.zO ≤ n) : p.sums.length ≤ n ∧ p.needs.length ≤ n := by
 simp only [zg.zO] at h; omega
theorem c_spI (p q : zg) (hp : p.zO ≤ 1048576) : zk (EV Tryz.prog pol) 118 [.agg (p.enc.map .t), .agg (q.enc.map .t)] = some (.t (.bool (tC p q))) := by
 obtain ⟨hp1, hp2⟩ := pJ hp
 have d1 := Po p.sums q.sums (by omega)
 have d2 := c_eqI p.needs q.needs (by omega)
 unfold tC
 obtain ⟨name, version, source, sums, dev, needs⟩ := p
 obtain ⟨name', version', source', sums', dev', needs'⟩ := q
 simp only [zg.enc, List.map_cons, List.map_nil] at d1 d2 ⊢
 clear hp hp1 hp2
 apply zq
 refine zr rfl Tryz.func118 rfl (by kernel_rfl) ?_
 unfold Tryz.f118
 cases q1 : (name == name') with
 | false => simp (disch := ((try simp only [LL]); omega)) only [↓GO, ↓DRW, GA, GX, ren, zm, z8, refs, z7, cst, zo, isC, bin, una, z6, zc, blt, asArg, ze, zb, zf, z1, E.mkS, unN, zd, zn, za, GS, simprocAttr, GZ, q1, zD, Bool.false_and]
 | true =>
  cases q2 : (version == version') with
  | false => simp (disch := ((try simp only [LL]); omega)) only [↓GO, ↓DRW, GA, GX, ren, zm, z8, refs, z7, cst, zo, isC, bin, una, z6, zc, blt, asArg, ze, zb, zf, z1, E.mkS, unN, zd, zn, za, GS, simprocAttr, GZ, q1, q2, zD, Bool.false_and, Bool.true_and]
  | true =>
   cases q3 : (source == source') with
   | false => simp (disch := ((try simp only [LL]); omega)) only [↓GO, ↓DRW, GA, GX, ren, zm, z8, refs, z7, cst, zo, isC, bin, una, z6, zc, blt, asArg, ze, zb, zf, z1, E.mkS, unN, zd, zn, za, GS, simprocAttr, GZ, q1, q2, q3, zD, Bool.false_and, Bool.true_and]
   | true =>
    cases q4 : (dev == dev') with
    | false => simp (disch := ((try simp only [LL]); omega)) only [↓GO, ↓DRW, GA, GX, ren, zm, z8, refs, z7, cst, zo, isC, bin, una, z6, zc, blt, asArg, ze, zb, zf, z1, E.mkS, unN, zd, zn, za, GS, simprocAttr, GZ, q1, q2, q3, q4, zD, Bool.false_and, Bool.true_and]
    | true =>
     cases q5 : (xx sums == xx sums') with
     | false => rw [q5] at d1; simp (disch := ((try simp only [LL]); omega)) only [↓GO, ↓DRW, GA, GX, ren, zm, z8, refs, z7, cst, zo, isC, bin, una, z6, zc, blt, asArg, ze, zb, zf, z1, E.mkS, unN, zd, zn, za, GS, simprocAttr, GZ, q1, q2, q3, q4, d1, zD, Bool.false_and, Bool.true_and]
     | true => rw [q5] at d1; simp (disch := ((try simp only [LL]); omega)) only [↓GO, ↓DRW, GA, GX, ren, zm, z8, refs, z7, cst, zo, isC, bin, una, z6, zc, blt, asArg, ze, zb, zf, z1, E.mkS, unN, zd, zn, za, GS, simprocAttr, GZ, q1, q2, q3, q4, d1, d2, zD, Bool.true_and]
theorem Qw (p q : zg) (hp : p.zO ≤ 1048576) : ∀ (ra rb pa pb : List zF), p.sums = pa ++ ra → q.sums = pb ++ rb → pa.length = pb.length → ra.length = rb.length →
 EV Tryz.prog pol (.loop 115 58 0 [.ptr 0 0 0, .ptr 1 0 0, .t (.int .i64 (pa.length : Int))] [.vs 6 [p.enc.map .t], .vs 6 [q.enc.map .t]]) = some (cond (xx ra == xx rb) (.loop (.exit 0) [.bad] []) (.loop .ret [.t (.bool false)] []))
 | [], [], pa, pb, ha, hb, hpl, hr => by
  have c : decide ((pa.length : Int) < (p.sums.length : Int)) = false := by simp [ha]
  rw [show (xx [] == xx []) = true from rfl, cond_true]
  obtain ⟨name, version, source, sums, dev, needs⟩ := p
  obtain ⟨name', version', source', sums', dev', needs'⟩ := q
  simp only [zg.enc, List.map_cons, List.map_nil] at c ⊢
  refine zh Tryz.func115 rfl rfl ?_
  simp (disch := ((try simp only [LL]); omega)) only [↓GO, ↓DRW, GA, GX, ren, zm, z8, refs, z7, cst, zo, isC, bin, una, z6, zc, blt, asArg, ze, zb, zf, z1, E.mkS, unN, zd, zn, za, GS, simprocAttr, GZ, c, zF.zx, zD]
 | [], _ :: _, pa, pb, ha, hb, hpl, hr => by simp at hr
 | _ :: _, [], pa, pb, ha, hb, hpl, hr => by simp at hr
 | x :: ra, y :: rb, pa, pb, ha, hb, hpl, hr => by
  have c : decide ((pa.length : Int) < (p.sums.length : Int)) = true := by simp [ha]; omega
  have hg1 : (zF.zA p.sums)[pa.length]? = some [.str x.alg, .str x.bytes] := gp (by rw [ha]; simp)
  have hg2 : (zF.zA q.sums)[pa.length]? = some [.str y.alg, .str y.bytes] := gp (by rw [hb, hpl]; simp)
  have hlen : pa.length + ra.length + 1 ≤ p.sums.length := by rw [ha]; simp; omega
  have hsl := (pJ hp).1
  have IH := Qw p q hp ra rb (pa ++ [x]) (pb ++ [y]) (by rw [ha]; simp) (by rw [hb]; simp) (by simp [hpl]) (by simpa using hr)
  rw [show ((pa ++ [x]).length : Int) = (pa.length : Int) + 1 by simp] at IH
  rw [uZ, uZ, List.cons_beq_cons]
  clear ha hb hp
  obtain ⟨name, version, source, sums, dev, needs⟩ := p
  obtain ⟨name', version', source', sums', dev', needs'⟩ := q
  simp only [zg.enc, List.map_cons, List.map_nil] at c hg1 hg2 hlen hsl IH ⊢
  cases q1 : ([x.alg, x.bytes] == [y.alg, y.bytes]) with
  | true =>
   rw [Bool.true_and]
   refine zh Tryz.func115 rfl rfl ?_
   simp (disch := ((try simp only [LL]); omega)) only [↓GO, ↓DRW, GA, GX, ren, zm, z8, refs, z7, cst, zo, isC, bin, una, z6, zc, blt, asArg, ze, zb, zf, z1, E.mkS, unN, zd, zn, za, GS, simprocAttr, GZ, c, hg1, hg2, q1, zF.zx, bne, Bool.not_true, zi, zD, IH, List.length_cons, List.length_nil, Nat.zero_add, Nat.reduceAdd, and_self, if_true]
  | false =>
   rw [Bool.false_and, cond_false]
   refine zh Tryz.func115 rfl rfl ?_
   simp (disch := ((try simp only [LL]); omega)) only [↓GO, ↓DRW, GA, GX, ren, zm, z8, refs, z7, cst, zo, isC, bin, una, z6, zc, blt, asArg, ze, zb, zf, z1, E.mkS, unN, zd, zn, za, GS, simprocAttr, GZ, c, hg1, hg2, q1, zF.zx, bne, Bool.not_false, zi, zD, List.length_cons, List.length_nil, Nat.zero_add, Nat.reduceAdd, and_self, if_true]
theorem c_spR (p q : zg) (hp : p.zO ≤ 1048576) : zk (EV Tryz.prog pol) 115 [.agg (p.enc.map .t), .agg (q.enc.map .t)] = some (.t (.bool (tC p q))) := by
 obtain ⟨hp1, hp2⟩ := pJ hp
 have d2 := c_eqR p.needs q.needs (by omega)
 have L : p.sums.length = q.sums.length → _ := Qw p q hp p.sums q.sums [] [] rfl rfl rfl
 have hne : p.sums.length ≠ q.sums.length → (xx p.sums == xx q.sums) = false := fun hn => by rw [beq_eq_false_iff_ne]; intro e; exact hn (by rw [← sL p.sums, e, sL])
 unfold tC
 clear hp
 obtain ⟨name, version, source, sums, dev, needs⟩ := p
 obtain ⟨name', version', source', sums', dev', needs'⟩ := q
 simp only [zg.enc, List.map_cons, List.map_nil, List.length_nil, Int.natCast_zero] at L d2 hne ⊢
 apply zq
 refine zr rfl Tryz.func115 rfl (by kernel_rfl) ?_
 unfold Tryz.f115
 cases q1 : (name == name') with
 | false => simp (disch := ((try simp only [LL]); omega)) only [↓GO, ↓DRW, GA, GX, ren, zm, z8, refs, z7, cst, zo, isC, bin, una, z6, zc, blt, asArg, ze, zb, zf, z1, E.mkS, unN, zd, zn, za, GS, simprocAttr, GZ, q1, zD, bne, Bool.not_false, Bool.false_and]
 | true =>
  cases q2 : (version == version') with
  | false => simp (disch := ((try simp only [LL]); omega)) only [↓GO, ↓DRW, GA, GX, ren, zm, z8, refs, z7, cst, zo, isC, bin, una, z6, zc, blt, asArg, ze, zb, zf, z1, E.mkS, unN, zd, zn, za, GS, simprocAttr, GZ, q1, q2, zD, bne, Bool.not_false, Bool.not_true, Bool.false_and, Bool.true_and]
  | true =>
   cases q3 : (source == source') with
   | false => simp (disch := ((try simp only [LL]); omega)) only [↓GO, ↓DRW, GA, GX, ren, zm, z8, refs, z7, cst, zo, isC, bin, una, z6, zc, blt, asArg, ze, zb, zf, z1, E.mkS, unN, zd, zn, za, GS, simprocAttr, GZ, q1, q2, q3, zD, bne, Bool.not_false, Bool.not_true, Bool.false_and, Bool.true_and]
   | true =>
    cases q4 : (dev == dev') with
    | false => simp (disch := ((try simp only [LL]); omega)) only [↓GO, ↓DRW, GA, GX, ren, zm, z8, refs, z7, cst, zo, isC, bin, una, z6, zc, blt, asArg, ze, zb, zf, z1, E.mkS, unN, zd, zn, za, GS, simprocAttr, GZ, q1, q2, q3, q4, zD, bne, Bool.not_false, Bool.not_true, Bool.false_and, Bool.true_and]
    | true =>
     by_cases hn : sums.length = sums'.length
     · have c : ((sums.length : Int) == (sums'.length : Int)) = true := by rw [hn]; simp
       have L' := L hn
       cases q6 : (needs == needs') with
       | false => rw [q6] at d2; simp (disch := ((try simp only [LL]); omega)) only [↓GO, ↓DRW, GA, GX, ren, zm, z8, refs, z7, cst, zo, isC, bin, una, z6, zc, blt, asArg, ze, zb, zf, z1, E.mkS, unN, zd, zn, za, GS, simprocAttr, GZ, q1, q2, q3, q4, c, d2, zF.zx, zD, bne, Bool.not_false, Bool.not_true, Bool.true_and, Bool.and_false]
       | true =>
        rw [q6] at d2
        cases q5 : (xx sums == xx sums') <;> rw [q5] at L' <;> simp only [cond_true, cond_false] at L'
        all_goals simp (disch := ((try simp only [LL]); omega)) only [↓GO, ↓DRW, GA, GX, ren, zm, z8, refs, z7, cst, zo, isC, bin, una, z6, zc, blt, asArg, ze, zb, zf, z1, E.mkS, unN, zd, zn, za, GS, simprocAttr, GZ, q1, q2, q3, q4, c, d2, L', zF.zx, zD, bne, Bool.not_false, Bool.not_true, Bool.true_and, Bool.and_true]
     · have c : ((sums.length : Int) == (sums'.length : Int)) = false := by simp; omega
       rw [hne hn]
       simp (disch := ((try simp only [LL]); omega)) only [↓GO, ↓DRW, GA, GX, ren, zm, z8, refs, z7, cst, zo, isC, bin, una, z6, zc, blt, asArg, ze, zb, zf, z1, E.mkS, unN, zd, zn, za, GS, simprocAttr, GZ, q1, q2, q3, q4, c, zF.zx, zD, bne, Bool.not_false, Bool.not_true, Bool.true_and, Bool.false_and]
theorem fP (x : Str) (r b : List Str) : woS (x :: r) b = cond (vm b x) (woS r b) (x :: woS r b) := by
 unfold woS
 rw [List.filter_cons]
 cases vm b x <;> rfl
theorem Su (a b : List Str) (ha : a.length ≤ 1048576) (hb : b.length ≤ 1048576) : ∀ (rest pre : List Str) (acc : List Str) (m : Nat) (cap : Option Nat), a = pre ++ rest → m = acc.length → m + rest.length ≤ 1073741824 → ∃ cap',
 EV Tryz.prog pol (.loop 206 58 0 [.t (.list 1 (strs a)), .t (.list 1 (strs b)), .sl 0 0 m cap, .t (.int .i64 (pre.length : Int))] [.ts 1 (strs acc)])
  = some (.loop (.exit 0) [.sl 0 0 (acc ++ woS rest b).length cap'] [.ts 1 (strs (acc ++ woS rest b))])
 | [], pre, acc, m, cap, h, hm, hmM => by
  have c : decide ((pre.length : Int) < (a.length : Int)) = false := by simp [h]
  refine ⟨cap, ?_⟩
  rw [show woS [] b = [] from rfl, List.append_nil, ← hm]
  refine zh Tryz.func206 rfl rfl ?_
  simp (disch := ((try simp only [LL]); omega)) only [↓GO, ↓DRW, GA, GX, ren, zm, z8, refs, z7, cst, zo, isC, bin, una, z6, zc, blt, asArg, ze, zb, zf, z1, E.mkS, unN, zd, zn, za, GS, simprocAttr, GZ, c, zj, zD]
 | x :: rest, pre, acc, m, cap, h, hm, hmM => by
  have c : decide ((pre.length : Int) < (a.length : Int)) = true := by simp [h]; omega
  have hget : (strs a)[pre.length]? = some [.str x] := yV (by rw [h]; simp)
  have hlen : pre.length + rest.length + 1 ≤ a.length := by rw [h]; simp; omega
  have hsl : (strs acc).length = m := by rw [zj, hm]
  have d1 := c_has b (by omega) x
  simp only [List.length_cons] at hmM
  rw [fP]
  cases q : vm b x with
  | true =>
   rw [q] at d1
   obtain ⟨cap', IH⟩ := Su a b ha hb rest (pre ++ [x]) acc m cap (by rw [h]; simp) hm (by omega)
   rw [show ((pre ++ [x]).length : Int) = (pre.length : Int) + 1 by simp] at IH
   refine ⟨cap', ?_⟩
   rw [cond_true]
   clear h
   generalize acc ++ woS rest b = Z at *
   refine zh Tryz.func206 rfl rfl ?_
   simp (disch := ((try simp only [LL]); omega)) only [↓GO, ↓DRW, GA, GX, ren, zm, z8, refs, z7, cst, zo, isC, bin, una, z6, zc, blt, asArg, ze, zb, zf, z1, E.mkS, unN, zd, zn, za, GS, simprocAttr, GZ, c, hget, d1, zj, zi, Bool.not_true, zD, IH]
  | false =>
   rw [q] at d1
   obtain ⟨cap', IH⟩ := Su a b ha hb rest (pre ++ [x]) (acc ++ [x]) (m + 1) none (by rw [h]; simp) (by simp [hm]) (by omega)
   rw [show ((pre ++ [x]).length : Int) = (pre.length : Int) + 1 by simp] at IH
   rw [show strs (acc ++ [x]) = strs acc ++ [[.str x]] by simp [strs]] at IH
   refine ⟨cap', ?_⟩
   rw [cond_false, show acc ++ x :: woS rest b = (acc ++ [x]) ++ woS rest b by simp]
   clear h
   generalize (acc ++ [x]) ++ woS rest b = Z at *
   refine zh Tryz.func206 rfl rfl ?_
   simp (disch := ((try simp only [LL]); omega)) only [↓GO, ↓DRW, GA, GX, ren, zm, z8, refs, z7, cst, zo, isC, bin, una, z6, zc, blt, asArg, ze, zb, zf, z1, E.mkS, unN, zd, zn, za, GS, simprocAttr, GZ, c, hget, d1, zj, hsl, zi, Bool.not_false, zD, IH, xf]
theorem QN (a b : List Str) (ha : a.length ≤ 1048576) (hb : b.length ≤ 1048576) : zk (EV Tryz.prog pol) 206 [.t (.list 1 (strs a)), .t (.list 1 (strs b))] = some (.t (.list 1 (strs (woS a b)))) := by
 obtain ⟨cap, L⟩ := Su a b ha hb a [] [] 0 (some 0) rfl rfl (by omega)
 have ht : (strs (woS a b)).take (woS a b).length = strs (woS a b) := by rw [← zj (woS a b)]; simp
 simp only [List.length_nil, Int.natCast_zero, show strs [] = [] from rfl, List.nil_append] at L
 generalize woS a b = Z at *
 apply zq
 refine zr rfl Tryz.func206 rfl (by kernel_rfl) ?_
 unfold Tryz.f206
 simp (disch := ((try simp only [LL]); omega)) only [↓GO, ↓DRW, GA, GX, ren, zm, z8, refs, z7, cst, zo, isC, bin, una, z6, zc, blt, asArg, ze, zb, zf, z1, E.mkS, unN, zd, zn, za, GS, simprocAttr, GZ, L, ht, zD]
theorem QJ (b : List Str) (hb : b.length ≤ 1048576) (x : Str) : zk (EV Tryz.prog pol) 209 [.t (.str x), .t (.fp [.list 1 (strs b)])] = some (.t (.bool (vm b x))) := by
 have d1 := c_con b hb x
 apply zq
 refine zr rfl Tryz.func209 rfl (by kernel_rfl) ?_
 unfold Tryz.f209
 simp (disch := ((try simp only [LL]); omega)) only [↓GO, ↓DRW, GA, GX, ren, zm, z8, refs, z7, cst, zo, isC, bin, una, z6, zc, blt, asArg, ze, zb, zf, z1, E.mkS, unN, zd, zn, za, GS, simprocAttr, GZ, d1, zD]
theorem Sv (l b : List Str) (hl : l.length ≤ 1048576) (hb : b.length ≤ 1048576) (cap : Option Nat) (n : Nat) (hn : n = l.length) : ∀ (R K J : List Str), 1 ≤ J.length → K.length + J.length + R.length = l.length → ∃ J', (K ++ woS R b).length + J'.length = l.length ∧ 
 EV Tryz.prog pol (.loop 172 122 2 [.sl 0 0 n cap, .fn 209 [.ptr 1 0 0], .t (.int .i64 (K.length : Int)), .t (.int .i64 ((K.length + J.length : Nat) : Int))] [.ts 1 (strs (K ++ J ++ R)), .vs 1 [[.t (.list 1 (strs b))]]])
  = some (.loop (.exit 0) [.sl 0 0 n cap, .t (.int .i64 ((K ++ woS R b).length : Int))] [.ts 1 (strs (K ++ woS R b ++ J')), .vs 1 [[.t (.list 1 (strs b))]]])
 | [], K, J, hJ, hlen => by
  have c : decide (((K.length + J.length : Nat) : Int) < (n : Int)) = false := by simp at hlen; apply decide_eq_false; omega
  refine ⟨J, by simp at hlen; simpa [woS] using hlen, ?_⟩
  rw [show woS [] b = [] from rfl]
  simp only [List.append_nil]
  refine zh Tryz.func172 rfl rfl ?_
  simp (disch := ((try simp only [LL]); omega)) only [↓GO, ↓DRW, GA, GX, ren, zm, z8, refs, z7, cst, zo, isC, bin, una, z6, zc, blt, asArg, ze, zb, zf, z1, E.mkS, unN, zd, zn, za, GS, simprocAttr, yj, yk, tM, uA, uQ, uP, tN, gh1, uz, vK, vT, xc, mkO, vU, vL, xV, tL, yz, uy, uw, yK, oc, oTs, oT, yH, yH.rowTs, vS, isL, Bool.not_false, Bool.true_and, Bool.and_true, Bool.and_self, List.flatMap_append, List.map_append, List.set_cons_zero, List.set_cons_succ, GZ, c, zD]
 | x :: R, K, J, hJ, hlen => by
  simp only [List.length_cons] at hlen
  have c : decide (((K.length + J.length : Nat) : Int) < (n : Int)) = true := by apply decide_eq_true; omega
  have c0 : decide ((0 : Int) ≤ ((K.length + J.length : Nat) : Int)) = true := by apply decide_eq_true; omega
  have c1 : decide ((0 : Int) ≤ (K.length : Int)) = true := by apply decide_eq_true; omega
  have c2 : decide ((K.length : Int) < (n : Int)) = true := by apply decide_eq_true; omega
  have hget : (strs (K ++ J ++ x :: R))[K.length + J.length]? = some [.str x] := yV (by rw [← List.length_append]; simp)
  have d1 := QJ b hb x
  rw [fP]
  cases q : vm b x with
  | true =>
   rw [q] at d1
   obtain ⟨J', hJ', IH⟩ := Sv l b hl hb cap n hn R K (J ++ [x]) (by simp) (by simp; omega)
   rw [show K ++ (J ++ [x]) ++ R = K ++ J ++ x :: R by simp, show ((K.length + (J ++ [x]).length : Nat) : Int) = ((K.length + J.length : Nat) : Int) + 1 by simp; omega] at IH
   refine ⟨J', hJ', ?_⟩
   rw [cond_true]
   generalize strs (K ++ J ++ x :: R) = E0 at *
   generalize K ++ woS R b = Z at *
   generalize hkj : K.length + J.length = kj at *
   refine zh Tryz.func172 rfl rfl ?_
   simp (disch := ((try simp only [LL]); omega)) only [↓GO, ↓DRW, GA, GX, ren, zm, z8, refs, z7, cst, zo, isC, bin, una, z6, zc, blt, asArg, ze, zb, zf, z1, E.mkS, unN, zd, zn, za, GS, simprocAttr, yj, yk, tM, uA, uQ, uP, tN, gh1, uz, vK, vT, xc, mkO, vU, vL, xV, tL, yz, uy, uw, yK, oc, oTs, oT, yH, yH.rowTs, vS, isL, Bool.not_false, Bool.true_and, Bool.and_true, Bool.and_self, List.flatMap_append, List.map_append, List.set_cons_zero, List.set_cons_succ, GZ, c, c0, hget, d1, zi, Bool.not_true, zD, IH]
  | false =>
   rw [q] at d1
   obtain ⟨j0, Jt, rfl⟩ : ∃ j0 Jt, J = j0 :: Jt := by cases J with | nil => simp at hJ | cons a t => exact ⟨a, t, rfl⟩
   obtain ⟨J', hJ', IH⟩ := Sv l b hl hb cap n hn R (K ++ [x]) (Jt ++ [x]) (by simp) (by simp at hlen ⊢; omega)
   have hset : (strs (K ++ j0 :: Jt ++ x :: R)).set K.length [.str x] = strs (K ++ [x] ++ (Jt ++ [x]) ++ R) := by
    have e1 : strs (K ++ j0 :: Jt ++ x :: R) = strs K ++ [.str j0] :: strs (Jt ++ x :: R) := by simp [strs]
    have e2 : strs (K ++ [x] ++ (Jt ++ [x]) ++ R) = strs K ++ [.str x] :: strs (Jt ++ x :: R) := by simp [strs]
    rw [e1, e2, List.set_append_right _ _ (by rw [zj]; exact Nat.le_refl _), zj, Nat.sub_self]
    rfl
   have hg0 : (strs (K ++ j0 :: Jt ++ x :: R))[K.length]? = some [.str j0] := yV (by simp)
   rw [show ((K ++ [x]).length : Int) = (K.length : Int) + 1 by simp, show (((K ++ [x]).length + (Jt ++ [x]).length : Nat) : Int) = ((K.length + (j0 :: Jt).length : Nat) : Int) + 1 by simp; omega] at IH
   refine ⟨J', by rw [cond_false]; simpa using hJ', ?_⟩
   rw [cond_false, show K ++ x :: woS R b = K ++ [x] ++ woS R b by simp]
   rw [← hset] at IH
   clear hset hJ'
   generalize strs (K ++ j0 :: Jt ++ x :: R) = E0 at *
   generalize K ++ [x] ++ woS R b = Z at *
   have hkj2 : K.length + (j0 :: Jt).length ≤ 1048576 := by omega
   generalize hkj : K.length + (j0 :: Jt).length = kj at *
   have hkl : K.length ≤ 1048576 := by omega
   generalize K.length = kl at *
   refine zh Tryz.func172 rfl rfl ?_
   simp (disch := ((try simp only [LL]); omega)) only [↓GO, ↓DRW, GA, GX, ren, zm, z8, refs, z7, cst, zo, isC, bin, una, z6, zc, blt, asArg, ze, zb, zf, z1, E.mkS, unN, zd, zn, za, GS, simprocAttr, yj, yk, tM, uA, uQ, uP, tN, gh1, uz, vK, vT, xc, mkO, vU, vL, xV, tL, yz, uy, uw, yK, oc, oTs, oT, yH, yH.rowTs, vS, isL, Bool.not_false, Bool.true_and, Bool.and_true, Bool.and_self, List.flatMap_append, List.map_append, List.set_cons_zero, List.set_cons_succ, GZ, c, c0, c1, c2, hget, hg0, d1, zi, Bool.not_false, zD, IH]
theorem rE {b l : List Str} (h : wJ (fun x => vm b x) l 0 = none) : woS l b = l := by
 have h2 := lu (fun x => vm b x) l 0
 rw [h] at h2
 unfold woS
 refine List.filter_eq_self.2 fun x hx => ?_
 cases hc : vm b x with
 | false => rfl
 | true =>
  have : l.any (fun x => vm b x) = true := List.any_eq_true.2 ⟨x, hx, hc⟩
  rw [this] at h2; cases h2
theorem mB {α : Type} (p : α → Bool) : ∀ (l : List α) (n i : Nat), wJ p l n = some i → ∃ pre x post, l = pre ++ x :: post ∧ n + pre.length = i ∧ p x = true ∧ ∀ y ∈ pre, p y = false
 | [], n, i, h => by cases h
 | x :: r, n, i, h => by
  rw [wJ] at h
  split at h
  · rename_i hx
    cases h
    exact ⟨[], x, r, rfl, rfl, hx, fun y hy => by simp at hy⟩
  · rename_i hx
    obtain ⟨pre, y, post, e1, e2, e3, e4⟩ := mB p r (n + 1) i h
    refine ⟨x :: pre, y, post, by rw [e1]; rfl, by simp; omega, e3, fun z hz => ?_⟩
    rcases List.mem_cons.1 hz with rfl | hz
    · simpa using hx
    · exact e4 z hz
theorem c_dfS (l b : List Str) (hl : l.length ≤ 1048576) (hb : b.length ≤ 1048576) (cap : Option Nat) (n : Nat) (hn : n = l.length) : ∃ J', (woS l b).length + J'.length = l.length ∧
 EV Tryz.prog pol (.callO false 172 [.sl 0 0 n cap, .fn 209 [.ptr 1 0 0]] [.ts 1 (strs l), .vs 1 [[.t (.list 1 (strs b))]]])
  = some (.call (.sl 0 0 (woS l b).length cap) [.ts 1 (strs (woS l b ++ J')), .vs 1 [[.t (.list 1 (strs b))]]]) := by
 have d1 := kb 209 [.fp [.list 1 (strs b)]] (fun x => vm b x) l (by omega) (fun x _ => QJ b hb x)
 have ht : (strs l).take n = strs l := List.take_of_length_le (by rw [zj]; omega)
 cases hf : wJ (fun x => vm b x) l 0 with
 | none =>
  rw [hf] at d1
  refine ⟨[], by rw [rE hf]; simp, ?_⟩
  rw [rE hf, List.append_nil, ← hn]
  simp only [ixI] at d1
  refine yf Tryz.func172 rfl (by kernel_rfl) ?_
  unfold Tryz.f172
  simp (disch := ((try simp only [LL]); omega)) only [↓GO, ↓DRW, GA, GX, ren, zm, z8, refs, z7, cst, zo, isC, bin, una, z6, zc, blt, asArg, ze, zb, zf, z1, E.mkS, unN, zd, zn, za, GS, simprocAttr, yj, yk, tM, uA, uQ, uP, tN, gh1, uz, vK, vT, xc, mkO, vU, vL, xV, tL, yz, uy, uw, yK, oc, oTs, oT, yH, yH.rowTs, vS, isL, Bool.not_false, Bool.true_and, Bool.and_true, Bool.and_self, List.flatMap_append, List.map_append, List.set_cons_zero, List.set_cons_succ, GZ, d1, tV, ht, beq_self_eq_true, zD]
 | some i =>
  rw [hf] at d1
  obtain ⟨pre, x, post, e1, e2, e3, e4⟩ := mB _ l 0 i hf
  simp only [Nat.zero_add] at e2
  have hw : woS l b = pre ++ woS post b := by
   rw [e1]
   unfold woS
   rw [List.filter_append, List.filter_cons, e3]
   simp only [Bool.not_true, Bool.false_eq_true, if_false]
   congr 1
   exact List.filter_eq_self.2 fun y hy => by rw [e4 y hy]; rfl
  have hlen : pre.length + 1 + post.length = l.length := by have h9 := congrArg List.length e1; simp at h9; omega
  have hmap : Option.map (fun x : Nat => x) cap = cap := by cases cap <;> rfl
  obtain ⟨J', hJ', L⟩ := Sv l b hl hb cap n hn post pre [x] (by simp) (by simpa using hlen)
  rw [show pre ++ [x] ++ post = l by rw [e1]; simp, show ((pre.length + [x].length : Nat) : Int) = (pre.length : Int) + 1 by simp, e2] at L
  have c0 : ((i : Int) == -1) = false := by rw [beq_eq_false_iff_ne]; omega
  have hwl : (woS l b).length ≤ n := by rw [hn]; exact nt l b
  rw [← hw] at L hJ'
  have htk : (strs (woS l b ++ J')).take (woS l b).length = strs (woS l b) := by rw [show strs (woS l b ++ J') = strs (woS l b) ++ strs J' by simp [strs], ← zj (woS l b)]; simp
  have hdk : (strs (woS l b ++ J')).drop ((woS l b).length + (n - (woS l b).length)) = [] := List.drop_of_length_le (by rw [zj, List.length_append]; omega)
  have hEl : (strs (woS l b ++ J')).length = n := by rw [zj, List.length_append, hn]; exact hJ'
  have hrp : strs (woS l b) ++ List.replicate (n - (woS l b).length) [.str []] = strs (woS l b ++ List.replicate (n - (woS l b).length) []) := by simp [strs]
  refine ⟨List.replicate (n - (woS l b).length) [], by rw [List.length_replicate]; omega, ?_⟩
  rw [← hrp]
  have hil : i ≤ 1048576 := by omega
  have hnl : n ≤ 1048576 := by omega
  simp only [ixI] at d1
  clear hw hJ' hrp e1 hf e4 e3 hlen
  generalize strs (woS l b ++ J') = E1 at *
  generalize woS l b = Z at *
  have c1 : Z.length + (n - Z.length) ≤ n := by omega
  refine yf Tryz.func172 rfl (by kernel_rfl) ?_
  unfold Tryz.f172
  simp (disch := ((try simp only [LL]); omega)) only [↓GO, ↓DRW, GA, GX, ren, zm, z8, refs, z7, cst, zo, isC, bin, una, z6, zc, blt, asArg, ze, zb, zf, z1, E.mkS, unN, zd, zn, za, GS, simprocAttr, yj, yk, tM, uA, uQ, uP, tN, gh1, uz, vK, vT, xc, mkO, vU, vL, xV, tL, yz, uy, uw, yK, oc, oTs, oT, yH, yH.rowTs, vS, isL, Bool.not_false, Bool.true_and, Bool.and_true, Bool.and_self, List.flatMap_append, List.map_append, List.set_cons_zero, List.set_cons_succ, GZ, d1, tV, ht, c0, L, hEl, htk, hdk, zi, List.append_nil, zD, Nat.zero_add, Nat.sub_zero, c1, and_self, if_true, List.append_assoc, hmap]
theorem QI (a b : List Str) (ha : a.length ≤ 1048576) (hb : b.length ≤ 1048576) : zk (EV Tryz.prog pol) 117 [.t (.list 1 (strs a)), .t (.list 1 (strs b))] = some (.t (.list 1 (strs (woS a b)))) := by
 have d1 := lz (strs a) (by rw [zj]; omega)
 rw [zj] at d1
 obtain ⟨J', hJ, d2⟩ := c_dfS a b ha hb none a.length rfl
 have ht : (strs (woS a b ++ J')).take (woS a b).length = strs (woS a b) := by rw [show strs (woS a b ++ J') = strs (woS a b) ++ strs J' by simp [strs], ← zj (woS a b)]; simp
 generalize strs (woS a b ++ J') = E1 at *
 generalize woS a b = Z at *
 apply zq
 refine zr rfl Tryz.func117 rfl (by kernel_rfl) ?_
 unfold Tryz.f117
 simp (disch := ((try simp only [LL]); omega)) only [↓GO, ↓DRW, GA, GX, ren, zm, z8, refs, z7, cst, zo, isC, bin, una, z6, zc, blt, asArg, ze, zb, zf, z1, E.mkS, unN, zd, zn, za, GS, simprocAttr, GZ, d1, tV, d2, ht, zD]
end Go.Proofs.YtijninlbpifonaaGreatDoor
/- Neighbours that are one, as the library's contract says it, plain. Conditions: none. -/
namespace Go.Proofs.YtijninlbpifonaaGreatDoor
open E
set_option linter.unusedVariables false
set_option linter.unusedSimpArgs false
set_option maxRecDepth 100000
def rC : Option Str → List Str → List Str
 | _, [] => []
 | p, x :: r => if p = some x then rC (some x) r else x :: rC (some x) r
theorem mK : ∀ (l : List Str) (p : Option Str) (y : Str), rC p (l ++ [y]) = rC p l ++ if (match l.getLast? with | some z => some z | none => p) = some y then [] else [y]
 | [], p, y => by
  show (if p = some y then [] else [y]) = [] ++ (if p = some y then [] else [y])
  rfl
 | x :: r, p, y => by
  have ih := mK r (some x) y
  have e : (match (x :: r).getLast? with | some z => some z | none => p) = (match r.getLast? with | some z => some z | none => some x) := by
   cases r with
   | nil => rfl
   | cons z r =>
    rw [List.getLast?_cons_cons]
    cases h : (z :: r).getLast? with
    | some w => rfl
    | none => simp at h
  rw [List.cons_append, rC, rC, ih, e]
  split
  · rfl
  · rfl
theorem jF (zs : List Str) : ∀ m, m ≤ zs.length → Lib.compactUpTo zs.toArray m = rC none (zs.take m)
 | 0, _ => by simp [Lib.compactUpTo, rC]
 | m + 1, h => by
  rw [Lib.compactUpTo_succ, jF zs m (by omega)]
  have hm : m < zs.length := by omega
  have e : zs.take (m + 1) = zs.take m ++ [zs[m]] := by rw [List.take_succ_eq_append_getElem hm]
  rw [e, mK]
  congr 1
  have e2 : zs.toArray[m]! = zs[m] := by simp [hm]
  rw [e2]
  cases m with
  | zero => simp [Lib.keeps]
  | succ k =>
   have e3 : (zs.take (k + 1)).getLast? = some zs[k] := by
    rw [List.take_succ_eq_append_getElem (show k < zs.length by omega)]
    exact List.getLast?_concat
   have e4 : zs.toArray[k + 1 - 1]! = zs[k] := by simp [show k < zs.length by omega]
   rw [e3]
   unfold Lib.keeps
   rw [e2, e4]
   by_cases hx : zs[k] = zs[k + 1]
   · simp [hx]
   · have hx' : zs[k + 1] ≠ zs[k] := fun e => hx e.symm
     simp [hx, hx']
theorem Yf : ∀ (x : Str) (r : List Str), v8 (x :: r) = x :: rC (some x) r
 | x, [] => rfl
 | x, y :: r => by
  rw [v8, Yf y r, rC]
  cases h : (x == y) with
  | true =>
   have : x = y := by simpa using h
   subst this
   simp
  | false =>
   have : ¬ (some x = some y) := by simpa using h
   rw [if_neg this]
   rfl
theorem jE (zs : List Str) : Lib.compact zs = v8 zs := by
 unfold Lib.compact
 rw [jF zs zs.length (Nat.le_refl _), List.take_length]
 cases zs with
 | nil => rfl
 | cons x r => rw [Yf, rC]; simp
end Go.Proofs.YtijninlbpifonaaGreatDoor
/- Names of two graphs' packs, by both; two lists in one, in order. Conditions: those of each lemma. -/
namespace Go.Proofs.YtijninlbpifonaaGreatDoor
open E
set_option linter.unusedSimpArgs false
set_option linter.unusedVariables false
set_option maxRecDepth 100000
theorem UH (a b : List zg) (ha : a.length ≤ 1048576) (hb : b.length ≤ 1048576) : zk (EV Tryz.prog pol) 208 [.t (.list 1 [[.list 6 (zg.zA a)], [.list 6 (zg.zA b)]])] = some (.t (.list 6 (zg.zA (a ++ b)))) := by
 have d1 := Pn (a.length + b.length) (by omega)
 have w1 : IntKind.i64.wrap ((a.length : Int) + (b.length : Int)) = ((a.length + b.length : Nat) : Int) := by rw [zi (by omega)]; omega
 have w0 : IntKind.i64.wrap (0 + (a.length : Int)) = (a.length : Int) := by rw [zi (by omega)]; omega
 have n1 : decide ((a.length : Int) < 0) = false := by apply decide_eq_false; omega
 have n2 : decide (((a.length + b.length : Nat) : Int) < 0) = false := by apply decide_eq_false; omega
 have hal := zg.zx a
 have hbl := zg.zx b
 have e : zg.zA (a ++ b) = zg.zA a ++ zg.zA b := by simp [zg.zA]
 rw [e]
 have ht : (zg.zA a ++ zg.zA b).take (a.length + b.length) = zg.zA a ++ zg.zA b := List.take_of_length_le (by rw [List.length_append, hal, hbl]; exact Nat.le_refl _)
 generalize zg.zA a = A at *
 generalize zg.zA b = B at *
 have g2 : vJ [[T.list 6 A], [T.list 6 B]] 2 = none := rfl
 have A2 : ∀ s : Int, EV Tryz.prog pol (.loop 208 58 0 [.t (.list 1 [[.list 6 A], [.list 6 B]]), .t (.int .i64 s), .t (.list 1 [[.list 6 A], [.list 6 B]]), .t (.int .i64 2), .t (.int .i64 2)] []) = some (.loop (.exit 0) [.t (.list 1 [[.list 6 A], [.list 6 B]]), .t (.int .i64 s)] []) := fun s => by
  have c : decide ((2 : Int) < 2) = false := rfl
  refine zh Tryz.func208 rfl rfl ?_
  simp (disch := ((try simp only [LL]); omega)) only [↓GO, ↓DRW, GA, GX, ren, zm, z8, refs, z7, cst, zo, isC, bin, una, z6, zc, blt, asArg, ze, zb, zf, z1, E.mkS, unN, zd, zn, za, GS, simprocAttr, GZ, c, zD]
 have A1 : EV Tryz.prog pol (.loop 208 58 0 [.t (.list 1 [[.list 6 A], [.list 6 B]]), .t (.int .i64 (a.length : Int)), .t (.list 1 [[.list 6 A], [.list 6 B]]), .t (.int .i64 2), .t (.int .i64 1)] []) = some (.loop (.exit 0) [.t (.list 1 [[.list 6 A], [.list 6 B]]), .t (.int .i64 ((a.length + b.length : Nat) : Int))] []) := by
  have c : decide ((1 : Int) < 2) = true := rfl
  have g1 : vJ [[T.list 6 A], [T.list 6 B]] 1 = some [.list 6 B] := rfl
  have w2 : IntKind.i64.wrap 2 = 2 := rfl
  have IH := A2 ((a.length + b.length : Nat) : Int)
  refine zh Tryz.func208 rfl rfl ?_
  simp (disch := ((try simp only [LL]); omega)) only [↓GO, ↓DRW, GA, GX, ren, zm, z8, refs, z7, cst, zo, isC, bin, una, z6, zc, blt, asArg, ze, zb, zf, z1, E.mkS, unN, zd, zn, za, GS, simprocAttr, GZ, c, g1, hbl, w1, n2, w2, IH, zD]
 have A0 : EV Tryz.prog pol (.loop 208 58 0 [.t (.list 1 [[.list 6 A], [.list 6 B]]), .t (.int .i64 0), .t (.list 1 [[.list 6 A], [.list 6 B]]), .t (.int .i64 2), .t (.int .i64 0)] []) = some (.loop (.exit 0) [.t (.list 1 [[.list 6 A], [.list 6 B]]), .t (.int .i64 ((a.length + b.length : Nat) : Int))] []) := by
  have c : decide ((0 : Int) < 2) = true := rfl
  have g1 : vJ [[T.list 6 A], [T.list 6 B]] 0 = some [.list 6 A] := rfl
  have w2 : IntKind.i64.wrap 1 = 1 := rfl
  refine zh Tryz.func208 rfl rfl ?_
  simp (disch := ((try simp only [LL]); omega)) only [↓GO, ↓DRW, GA, GX, ren, zm, z8, refs, z7, cst, zo, isC, bin, una, z6, zc, blt, asArg, ze, zb, zf, z1, E.mkS, unN, zd, zn, za, GS, simprocAttr, GZ, c, g1, hal, w0, n1, w2, A1, zD]
 have B2 : ∀ (es : List (List T)) (n : Nat) (cap : Option Nat), EV Tryz.prog pol (.loop 208 250 0 [.sl 0 0 n cap, .t (.list 1 [[.list 6 A], [.list 6 B]]), .t (.int .i64 2), .t (.int .i64 2)] [.ts 6 es]) = some (.loop (.exit 2) [.sl 0 0 n cap] [.ts 6 es]) := fun es n cap => by
  have c : decide ((2 : Int) < 2) = false := rfl
  refine zh Tryz.func208 rfl rfl ?_
  simp (disch := ((try simp only [LL]); omega)) only [↓GO, ↓DRW, GA, GX, ren, zm, z8, refs, z7, cst, zo, isC, bin, una, z6, zc, blt, asArg, ze, zb, zf, z1, E.mkS, unN, zd, zn, za, GS, simprocAttr, GZ, c, zD]
 have B1 : ∀ (cap : Option Nat), EV Tryz.prog pol (.loop 208 250 0 [.sl 0 0 a.length cap, .t (.list 1 [[.list 6 A], [.list 6 B]]), .t (.int .i64 2), .t (.int .i64 1)] [.ts 6 A]) = some (.loop (.exit 2) [.sl 0 0 (a.length + b.length) none] [.ts 6 (A ++ B)]) := fun cap => by
  have c : decide ((1 : Int) < 2) = true := rfl
  have g1 : vJ [[T.list 6 A], [T.list 6 B]] 1 = some [.list 6 B] := rfl
  have w2 : IntKind.i64.wrap 2 = 2 := rfl
  have IH := B2 (A ++ B) (a.length + b.length) none
  refine zh Tryz.func208 rfl rfl ?_
  simp (disch := ((try simp only [LL]); omega)) only [↓GO, ↓DRW, GA, GX, ren, zm, z8, refs, z7, cst, zo, isC, bin, una, z6, zc, blt, asArg, ze, zb, zf, z1, E.mkS, unN, zd, zn, za, GS, simprocAttr, GZ, c, g1, hal, hbl, w2, IH, zD, xf]
 have B0 : EV Tryz.prog pol (.loop 208 250 0 [.sl 0 0 0 none, .t (.list 1 [[.list 6 A], [.list 6 B]]), .t (.int .i64 2), .t (.int .i64 0)] [.ts 6 []]) = some (.loop (.exit 2) [.sl 0 0 (a.length + b.length) none] [.ts 6 (A ++ B)]) := by
  have c : decide ((0 : Int) < 2) = true := rfl
  have g1 : vJ [[T.list 6 A], [T.list 6 B]] 0 = some [.list 6 A] := rfl
  have w2 : IntKind.i64.wrap 1 = 1 := rfl
  have IH := B1 none
  refine zh Tryz.func208 rfl rfl ?_
  simp (disch := ((try simp only [LL]); omega)) only [↓GO, ↓DRW, GA, GX, ren, zm, z8, refs, z7, cst, zo, isC, bin, una, z6, zc, blt, asArg, ze, zb, zf, z1, E.mkS, unN, zd, zn, za, GS, simprocAttr, GZ, c, g1, hal, w2, IH, zD, xf, List.nil_append, Nat.zero_add, List.length_nil]
 apply zq
 refine zr rfl Tryz.func208 rfl (by kernel_rfl) ?_
 unfold Tryz.f208
 simp (disch := ((try simp only [LL]); omega)) only [↓GO, ↓DRW, GA, GX, ren, zm, z8, refs, z7, cst, zo, isC, bin, una, z6, zc, blt, asArg, ze, zb, zf, z1, E.mkS, unN, zd, zn, za, GS, simprocAttr, GZ, A0, B0, d1, ht, zD]
theorem c_unI (a b : List Str) (ha : a.length ≤ 4194304) (hb : b.length ≤ 4194304) : zk (EV Tryz.prog pol) 137 [.t (.list 1 (strs a)), .t (.list 1 (strs b))] = some (.t (.list 1 (strs (uj (a ++ b))))) := by
 have d1 := lz (strs a) (by rw [zj]; omega)
 rw [zj] at d1
 have hl : (a ++ b).length ≤ 8388608 := by rw [List.length_append]; omega
 have d2 := Pf (a ++ b) (by omega) (a.length + b.length) (by simp) none
 have hsl := kF (a ++ b)
 have d3 := Sg (xH (a ++ b)) (by omega) (a.length + b.length) (by rw [hsl]; simp) none
 have e1 : strs (a ++ b) = strs a ++ strs b := by simp [strs]
 rw [e1] at d2
 have ht : (strs (vY (xH (a ++ b)))).take (Lib.compact (xH (a ++ b))).length = strs (uj (a ++ b)) := by
  unfold vY strs uj
  rw [← jE, ← List.map_take, List.take_left]
 generalize strs (vY (xH (a ++ b))) = C at *
 generalize (Lib.compact (xH (a ++ b))).length = cl at *
 generalize strs (xH (a ++ b)) = Z at *
 generalize strs (uj (a ++ b)) = U at *
 have hal := zj a
 have hbl := zj b
 apply zq
 refine zr rfl Tryz.func137 rfl (by kernel_rfl) ?_
 unfold Tryz.f137
 simp (disch := ((try simp only [LL]); omega)) only [↓GO, ↓DRW, GA, GX, ren, zm, z8, refs, z7, cst, zo, isC, bin, una, z6, zc, blt, asArg, ze, zb, zf, z1, E.mkS, unN, zd, zn, za, GS, simprocAttr, GZ, d1, d2, d3, ht, hal, hbl, zD, xf]
theorem Qz (cs : List zg) (hl : cs.length ≤ 4194304) : ∀ (rest pre : List zg) (acc : List Str) (m : Nat) (cap : Option Nat), cs = pre ++ rest → m = acc.length → m + rest.length ≤ 1073741824 → ∃ cap',
 EV Tryz.prog pol (.loop 116 58 0 [.sl 0 0 m cap, .t (.list 6 (zg.zA cs)), .t (.int .i64 (cs.length : Int)), .t (.int .i64 (pre.length : Int))] [.ts 1 (strs acc)])
  = some (.loop (.exit 0) [.sl 0 0 (m + rest.length) cap'] [.ts 1 (strs (acc ++ rest.map (·.name)))])
 | [], pre, acc, m, cap, h, hm, hmM => by
  have c : decide ((pre.length : Int) < (cs.length : Int)) = false := by simp [h]
  refine ⟨cap, ?_⟩
  simp only [List.map_nil, List.append_nil, List.length_nil, Nat.add_zero]
  refine zh Tryz.func116 rfl rfl ?_
  simp (disch := ((try simp only [LL]); omega)) only [↓GO, ↓DRW, GA, GX, ren, zm, z8, refs, z7, cst, zo, isC, bin, una, z6, zc, blt, asArg, ze, zb, zf, z1, E.mkS, unN, zd, zn, za, GS, simprocAttr, GZ, c, zD]
 | p :: rest, pre, acc, m, cap, h, hm, hmM => by
  have c : decide ((pre.length : Int) < (cs.length : Int)) = true := by simp [h]; omega
  have hget : (zg.zA cs)[pre.length]? = some p.enc := by rw [h]; simp [zg.zA]
  have hlen : pre.length + rest.length + 1 ≤ cs.length := by rw [h]; simp; omega
  have hsl : (strs acc).length = m := by rw [zj, hm]
  simp only [List.length_cons] at hmM
  obtain ⟨cap', IH⟩ := Qz cs hl rest (pre ++ [p]) (acc ++ [p.name]) (m + 1) none (by rw [h]; simp) (by simp [hm]) (by omega)
  rw [show ((pre ++ [p]).length : Int) = (pre.length : Int) + 1 by simp] at IH
  rw [show strs (acc ++ [p.name]) = strs acc ++ [[.str p.name]] by simp [strs]] at IH
  refine ⟨cap', ?_⟩
  rw [List.map_cons, List.length_cons, show m + (rest.length + 1) = m + 1 + rest.length by omega, show acc ++ p.name :: rest.map (·.name) = (acc ++ [p.name]) ++ rest.map (·.name) by simp]
  clear h
  generalize (acc ++ [p.name]) ++ rest.map (·.name) = Z at *
  obtain ⟨pn, version, source, sums, dev, needs⟩ := p
  simp only [zg.enc] at hget IH
  refine zh Tryz.func116 rfl rfl ?_
  simp (disch := ((try simp only [LL]); omega)) only [↓GO, ↓DRW, GA, GX, ren, zm, z8, refs, z7, cst, zo, isC, bin, una, z6, zc, blt, asArg, ze, zb, zf, z1, E.mkS, unN, zd, zn, za, GS, simprocAttr, GZ, c, hget, zi, hsl, zD, IH, xf]
theorem QM (a b : zy) (ha : GB a) (hb : GB b) : zk (EV Tryz.prog pol) 116 [.agg (a.enc.map .t), .agg (b.enc.map .t)] = some (.t (.list 1 (strs (yb a b)))) := by
 have h1 := ha.len.1
 have h2 := hb.len.1
 have d1 := UH a.packs b.packs h1 h2
 have hl : (a.packs ++ b.packs).length ≤ 2097152 := by rw [List.length_append]; omega
 obtain ⟨cap, L⟩ := Qz (a.packs ++ b.packs) (by omega) (a.packs ++ b.packs) [] [] 0 (some 0) rfl rfl (by omega)
 have d2 := c_unI ((a.packs ++ b.packs).map (·.name)) [] (by rw [List.length_map]; omega) (by simp)
 rw [List.append_nil] at d2
 simp only [List.length_nil, Int.natCast_zero, show strs [] = [] from rfl, List.nil_append, Nat.zero_add] at L d2
 unfold yb
 have ht : (strs ((a.packs ++ b.packs).map (·.name))).take (a.packs ++ b.packs).length = strs ((a.packs ++ b.packs).map (·.name)) := List.take_of_length_le (by rw [zj, List.length_map]; exact Nat.le_refl _)
 clear ha hb h1 h2
 obtain ⟨ta, pa⟩ := a
 obtain ⟨tb, pb⟩ := b
 simp only [zy.enc, List.map_cons, List.map_nil] at d1 d2 L ht hl ⊢
 have hal := zg.zx (pa ++ pb)
 generalize uj ((pa ++ pb).map (·.name)) = U at *
 generalize (pa ++ pb).map (·.name) = M at *
 generalize pa ++ pb = cs at *
 apply zq
 refine zr rfl Tryz.func116 rfl (by kernel_rfl) ?_
 unfold Tryz.f116
 simp (disch := ((try simp only [LL]); omega)) only [↓GO, ↓DRW, GA, GX, ren, zm, z8, refs, z7, cst, zo, isC, bin, una, z6, zc, blt, asArg, ze, zb, zf, z1, E.mkS, unN, zd, zn, za, GS, simprocAttr, GZ, d1, d2, L, ht, hal, zD]
theorem Ys {l : List Str} {s : Str} (h : atS l s = false) : (wA l s).length = l.length + 1 := by
 rw [gm l s h]
 have := iU l s
 simp only [List.length_append, List.length_take, List.length_cons, List.length_drop]; omega
theorem az (a b : zy) (ha : GB a) : ∀ (rest pre : List zg) (acc : List Str) (m : Nat) (cap : Option Nat), a.packs = pre ++ rest → m = acc.length → m + rest.length ≤ 2097152 → ∃ cap',
 EV Tryz.prog pol (.loop 111 58 0 [.ptr 0 0 0, .ptr 1 0 0, .sl 2 0 m cap, .t (.int .i64 (pre.length : Int))] [.vs 2 [a.enc.map .t], .vs 2 [b.enc.map .t], .ts 1 (strs acc)])
  = some (.loop (.exit 0) [.ptr 0 0 0, .sl 1 0 (yN acc (rest.map (·.name))).length cap'] [.vs 2 [b.enc.map .t], .ts 1 (strs (yN acc (rest.map (·.name))))])
 | [], pre, acc, m, cap, h, hm, hmM => by
  have c : decide ((pre.length : Int) < (a.packs.length : Int)) = false := by simp [h]
  refine ⟨cap, ?_⟩
  rw [List.map_nil, show yN acc [] = acc from rfl, ← hm]
  clear ha
  obtain ⟨ta, pa⟩ := a
  obtain ⟨tb, pb⟩ := b
  simp only [zy.enc, List.map_cons, List.map_nil] at c ⊢
  refine zh Tryz.func111 rfl rfl ?_
  simp (disch := ((try simp only [LL]); omega)) only [↓GO, ↓DRW, GA, GX, ren, zm, z8, refs, z7, cst, zo, isC, bin, una, z6, zc, blt, asArg, ze, zb, zf, z1, E.mkS, unN, zd, zn, za, GS, simprocAttr, GZ, c, zg.zx, zD]
 | p :: rest, pre, acc, m, cap, h, hm, hmM => by
  have c : decide ((pre.length : Int) < (a.packs.length : Int)) = true := by simp [h]; omega
  have hget : (zg.zA a.packs)[pre.length]? = some p.enc := by rw [h]; simp [zg.zA]
  have hlen : pre.length + rest.length + 1 ≤ a.packs.length := by rw [h]; simp; omega
  have hpl := ha.len.1
  simp only [List.length_cons] at hmM
  rw [List.map_cons, u6]
  cases q : atS acc p.name with
  | true =>
   have d1 := Sh acc (by omega) p.name m hm cap q
   have e := lG acc p.name q
   obtain ⟨cap', IH⟩ := az a b ha rest (pre ++ [p]) acc m cap (by rw [h]; simp) hm (by omega)
   rw [show ((pre ++ [p]).length : Int) = (pre.length : Int) + 1 by simp] at IH
   refine ⟨cap', ?_⟩
   rw [e]
   clear h ha e
   generalize yN acc (rest.map (·.name)) = Z at *
   obtain ⟨ta, pa⟩ := a
   obtain ⟨tb, pb⟩ := b
   obtain ⟨pn, version, source, sums, dev, needs⟩ := p
   simp only [zy.enc, zg.enc, List.map_cons, List.map_nil] at c hget hpl hlen IH d1 ⊢
   refine zh Tryz.func111 rfl rfl ?_
   simp (disch := ((try simp only [LL]); omega)) only [↓GO, ↓DRW, GA, GX, ren, zm, z8, refs, z7, cst, zo, isC, bin, una, z6, zc, blt, asArg, ze, zb, zf, z1, E.mkS, unN, zd, zn, za, GS, simprocAttr, GZ, c, hget, zg.zx, zi, d1, zD, IH]
  | false =>
   have d1 := Si acc (by omega) p.name m hm cap q
   obtain ⟨cap', IH⟩ := az a b ha rest (pre ++ [p]) (wA acc p.name) (m + 1) none (by rw [h]; simp) (by rw [Ys q, hm]) (by omega)
   rw [show ((pre ++ [p]).length : Int) = (pre.length : Int) + 1 by simp] at IH
   refine ⟨cap', ?_⟩
   clear h ha
   generalize yN (wA acc p.name) (rest.map (·.name)) = Z at *
   generalize wA acc p.name = acc' at *
   obtain ⟨ta, pa⟩ := a
   obtain ⟨tb, pb⟩ := b
   obtain ⟨pn, version, source, sums, dev, needs⟩ := p
   simp only [zy.enc, zg.enc, List.map_cons, List.map_nil] at c hget hpl hlen IH d1 ⊢
   refine zh Tryz.func111 rfl rfl ?_
   simp (disch := ((try simp only [LL]); omega)) only [↓GO, ↓DRW, GA, GX, ren, zm, z8, refs, z7, cst, zo, isC, bin, una, z6, zc, blt, asArg, ze, zb, zf, z1, E.mkS, unN, zd, zn, za, GS, simprocAttr, GZ, c, hget, zg.zx, zi, d1, zD, IH]
theorem ay (b : zy) (hb : GB b) : ∀ (rest pre : List zg) (acc : List Str) (m : Nat) (cap : Option Nat), b.packs = pre ++ rest → m = acc.length → m + rest.length ≤ 4194304 → ∃ cap',
 EV Tryz.prog pol (.loop 111 122 0 [.ptr 0 0 0, .sl 1 0 m cap, .t (.int .i64 (pre.length : Int))] [.vs 2 [b.enc.map .t], .ts 1 (strs acc)])
  = some (.loop (.exit 2) [.sl 0 0 (yN acc (rest.map (·.name))).length cap'] [.ts 1 (strs (yN acc (rest.map (·.name))))])
 | [], pre, acc, m, cap, h, hm, hmM => by
  have c : decide ((pre.length : Int) < (b.packs.length : Int)) = false := by simp [h]
  refine ⟨cap, ?_⟩
  rw [List.map_nil, show yN acc [] = acc from rfl, ← hm]
  clear hb
  obtain ⟨tb, pb⟩ := b
  simp only [zy.enc, List.map_cons, List.map_nil] at c ⊢
  refine zh Tryz.func111 rfl rfl ?_
  simp (disch := ((try simp only [LL]); omega)) only [↓GO, ↓DRW, GA, GX, ren, zm, z8, refs, z7, cst, zo, isC, bin, una, z6, zc, blt, asArg, ze, zb, zf, z1, E.mkS, unN, zd, zn, za, GS, simprocAttr, GZ, c, zg.zx, zD]
 | p :: rest, pre, acc, m, cap, h, hm, hmM => by
  have c : decide ((pre.length : Int) < (b.packs.length : Int)) = true := by simp [h]; omega
  have hget : (zg.zA b.packs)[pre.length]? = some p.enc := by rw [h]; simp [zg.zA]
  have hlen : pre.length + rest.length + 1 ≤ b.packs.length := by rw [h]; simp; omega
  have hpl := hb.len.1
  simp only [List.length_cons] at hmM
  rw [List.map_cons, u6]
  cases q : atS acc p.name with
  | true =>
   have d1 := Sh acc (by omega) p.name m hm cap q
   have e := lG acc p.name q
   obtain ⟨cap', IH⟩ := ay b hb rest (pre ++ [p]) acc m cap (by rw [h]; simp) hm (by omega)
   rw [show ((pre ++ [p]).length : Int) = (pre.length : Int) + 1 by simp] at IH
   refine ⟨cap', ?_⟩
   rw [e]
   clear h hb e
   generalize yN acc (rest.map (·.name)) = Z at *
   obtain ⟨tb, pb⟩ := b
   obtain ⟨pn, version, source, sums, dev, needs⟩ := p
   simp only [zy.enc, zg.enc, List.map_cons, List.map_nil] at c hget hpl hlen IH d1 ⊢
   refine zh Tryz.func111 rfl rfl ?_
   simp (disch := ((try simp only [LL]); omega)) only [↓GO, ↓DRW, GA, GX, ren, zm, z8, refs, z7, cst, zo, isC, bin, una, z6, zc, blt, asArg, ze, zb, zf, z1, E.mkS, unN, zd, zn, za, GS, simprocAttr, GZ, c, hget, zg.zx, zi, d1, zD, IH]
  | false =>
   have d1 := Si acc (by omega) p.name m hm cap q
   obtain ⟨cap', IH⟩ := ay b hb rest (pre ++ [p]) (wA acc p.name) (m + 1) none (by rw [h]; simp) (by rw [Ys q, hm]) (by omega)
   rw [show ((pre ++ [p]).length : Int) = (pre.length : Int) + 1 by simp] at IH
   refine ⟨cap', ?_⟩
   clear h hb
   generalize yN (wA acc p.name) (rest.map (·.name)) = Z at *
   generalize wA acc p.name = acc' at *
   obtain ⟨tb, pb⟩ := b
   obtain ⟨pn, version, source, sums, dev, needs⟩ := p
   simp only [zy.enc, zg.enc, List.map_cons, List.map_nil] at c hget hpl hlen IH d1 ⊢
   refine zh Tryz.func111 rfl rfl ?_
   simp (disch := ((try simp only [LL]); omega)) only [↓GO, ↓DRW, GA, GX, ren, zm, z8, refs, z7, cst, zo, isC, bin, una, z6, zc, blt, asArg, ze, zb, zf, z1, E.mkS, unN, zd, zn, za, GS, simprocAttr, GZ, c, hget, zg.zx, zi, d1, zD, IH]
theorem c_nmR (a b : zy) (ha : GB a) (hb : GB b) : zk (EV Tryz.prog pol) 111 [.agg (a.enc.map .t), .agg (b.enc.map .t)] = some (.t (.list 1 (strs (yb a b)))) := by
 have h1 := ha.len.1
 have h2 := hb.len.1
 have hal := qk (a.packs.map (·.name)) []
 simp only [List.length_nil, List.length_map, Nat.zero_add] at hal
 obtain ⟨cap1, L1⟩ := az a b ha a.packs [] [] 0 (some 0) rfl rfl (by omega)
 obtain ⟨cap2, L2⟩ := ay b hb b.packs [] (yN [] (a.packs.map (·.name))) _ cap1 rfl rfl (by omega)
 have e : yN (yN [] (a.packs.map (·.name))) (b.packs.map (·.name)) = yb a b := by
  unfold yb
  rw [nU, List.map_append, bj]
 rw [e] at L2
 have ht : (strs (yb a b)).take (yb a b).length = strs (yb a b) := by rw [← zj (yb a b)]; simp
 simp only [List.length_nil, Int.natCast_zero, show strs [] = [] from rfl] at L1 L2
 clear ha hb e
 generalize yb a b = U at *
 generalize yN [] (a.packs.map (·.name)) = M at *
 obtain ⟨ta, pa⟩ := a
 obtain ⟨tb, pb⟩ := b
 simp only [zy.enc, List.map_cons, List.map_nil] at L1 L2 ⊢
 apply zq
 refine zr rfl Tryz.func111 rfl (by kernel_rfl) ?_
 unfold Tryz.f111
 simp (disch := ((try simp only [LL]); omega)) only [↓GO, ↓DRW, GA, GX, ren, zm, z8, refs, z7, cst, zo, isC, bin, una, z6, zc, blt, asArg, ze, zb, zf, z1, E.mkS, unN, zd, zn, za, GS, simprocAttr, GZ, L1, L2, ht, zD]
end Go.Proofs.YtijninlbpifonaaGreatDoor
/- Ranges, by the implementation. Conditions: those of each lemma. -/
namespace Go.Proofs.YtijninlbpifonaaGreatDoor
open E
set_option linter.unusedSimpArgs false
set_option linter.unusedVariables false
set_option maxRecDepth 100000
theorem RZ (s : Str) (hl : s.length ≤ 1048700) : zk (EV Tryz.prog pol) 197 [.t (.str s)] = some (.t (.bool (isV s))) := by
 have h := YM s hl
 unfold rvT at h
 unfold isV
 generalize (zE s).1 = v at *
 generalize (zE s).2 = ok at *
 simp only [Ver.enc, List.map_cons, List.map_nil] at h
 apply zq
 refine zr rfl Tryz.func197 rfl (by kernel_rfl) ?_
 unfold Tryz.f197
 simp (disch := ((try simp only [LL]); omega)) only [↓GO, ↓DRW, GA, GX, ren, zm, z8, refs, z7, cst, zo, isC, bin, una, z6, zc, blt, asArg, ze, zb, zf, z1, E.mkS, unN, zd, zn, za, GS, simprocAttr, GZ, h]
end Go.Proofs.YtijninlbpifonaaGreatDoor
/- Ranges, by the implementation: the whole. Conditions: those of each lemma. -/
namespace Go.Proofs.YtijninlbpifonaaGreatDoor
open E
set_option linter.unusedSimpArgs false
set_option linter.unusedVariables false
set_option maxRecDepth 100000
end Go.Proofs.YtijninlbpifonaaGreatDoor
/- Ranges, by the reference: parts and bounds. Conditions: those of each lemma. -/
namespace Go.Proofs.YtijninlbpifonaaGreatDoor
open E
set_option linter.unusedSimpArgs false
set_option linter.unusedVariables false
set_option maxRecDepth 100000
theorem hd_eq (x : UInt8) (c : UInt8) : ((x.toNat : Int) == (c.toNat : Int)) = (x == c) := by
 rw [Bool.eq_iff_iff]; simp only [beq_iff_eq]
 constructor
 · intro h; exact UInt8.toNat_inj.1 (by omega)
 · intro h; rw [h]
end Go.Proofs.YtijninlbpifonaaGreatDoor
/- Ranges, by the reference: signs, parts. Conditions: those of each lemma. -/
namespace Go.Proofs.YtijninlbpifonaaGreatDoor
open E
set_option linter.unusedSimpArgs false
set_option linter.unusedVariables false
set_option maxRecDepth 100000
end Go.Proofs.YtijninlbpifonaaGreatDoor
/- Ranges, by the reference: the whole. Conditions: those of each lemma. -/
namespace Go.Proofs.YtijninlbpifonaaGreatDoor
open E
set_option linter.unusedSimpArgs false
set_option linter.unusedVariables false
set_option maxRecDepth 100000
end Go.Proofs.YtijninlbpifonaaGreatDoor
/- Ranges, by the reference: parts cut, all; notices. Conditions: those of each lemma. -/
namespace Go.Proofs.YtijninlbpifonaaGreatDoor
open E
set_option linter.unusedSimpArgs false
set_option linter.unusedVariables false
set_option maxRecDepth 100000
end Go.Proofs.YtijninlbpifonaaGreatDoor
/- Ranges, by the reference: the whole; notices; the law. Conditions: those of each lemma. -/
namespace Go.Proofs.YtijninlbpifonaaGreatDoor
open E
set_option linter.unusedSimpArgs false
set_option linter.unusedVariables false
set_option maxRecDepth 100000
end Go.Proofs.YtijninlbpifonaaGreatDoor
/- Versions compared by the implementation; what is in a range, by both; what a notice tells of. Conditions: those of each lemma. -/
namespace Go.Proofs.YtijninlbpifonaaGreatDoor
open E
set_option linter.unusedSimpArgs false
set_option linter.unusedVariables false
set_option maxRecDepth 100000
theorem vB (a b : Int) : zk (EV Tryz.prog pol) 165 [.t (.int .i64 a), .t (.int .i64 b)] = some (.t (.int .i64 (yE a b))) := by
 unfold yE
 cases h1 : decide (a < b) <;> cases h2 : decide (a > b)
 all_goals
  apply zq
  refine zr rfl Tryz.func165 rfl (by kernel_rfl) ?_
  unfold Tryz.f165
  simp (disch := ((try simp only [LL]); omega)) only [↓GO, ↓DRW, GA, GX, ren, zm, z8, refs, z7, cst, zo, isC, bin, una, z6, zc, blt, asArg, ze, zb, zf, z1, E.mkS, unN, zd, zn, za, GS, simprocAttr, GZ, h1, h2]
theorem ZB : ∀ s : Str, s.length ≤ 4194304 → EV Tryz.prog pol (.loop 305 12 0 [.t (.str s), .t (.int .u8 48)] []) = some (.loop (.exit 0) [.t (.str (xT s))] [])
 | [], _ => by
  refine zh Tryz.func305 rfl rfl ?_
  simp (disch := ((try simp only [LL]); omega)) only [↓GO, ↓DRW, GA, GX, ren, zm, z8, refs, z7, cst, zo, isC, bin, una, z6, zc, blt, asArg, ze, zb, zf, z1, E.mkS, unN, zd, zn, za, GS, simprocAttr, GZ, List.length_nil, Int.natCast_zero]
  rfl
 | b :: s, h => by
  have c : decide (((s.length + 1 : Nat) : Int) > 0) = true := by apply decide_eq_true; omega
  have hb : ((b.toNat : Int) == 48) = (b == 48) := by
   rw [Bool.eq_iff_iff]
   simp only [beq_iff_eq]
   constructor
   · intro h; apply UInt8.toNat_inj.1; have : (48 : UInt8).toNat = 48 := rfl; omega
   · intro h; subst h; rfl
  have hcut : (1 : Int) ≤ ((s.length + 1 : Nat) : Int) := by omega
  cases hz : (b == 48) with
  | false =>
   rw [hz] at hb
   have e : xT (b :: s) = b :: s := by unfold xT; simp [List.dropWhile, hz]
   rw [e]
   refine zh Tryz.func305 rfl rfl ?_
   simp (disch := ((try simp only [LL]); omega)) only [↓GO, ↓DRW, GA, GX, ren, zm, z8, refs, z7, cst, zo, isC, bin, una, z6, zc, blt, asArg, ze, zb, zf, z1, E.mkS, unN, zd, zn, za, GS, simprocAttr, GZ, c, hb, hcut]
  | true =>
   rw [hz] at hb
   have IH := ZB s (by simp only [List.length_cons] at h; omega)
   have e : xT (b :: s) = xT s := by unfold xT; simp [List.dropWhile, hz]
   rw [e]
   refine zh Tryz.func305 rfl rfl ?_
   simp (disch := ((try simp only [LL]); omega)) only [↓GO, ↓DRW, GA, GX, ren, zm, z8, refs, z7, cst, zo, isC, bin, una, z6, zc, blt, asArg, ze, zb, zf, z1, E.mkS, unN, zd, zn, za, GS, simprocAttr, GZ, c, hb, hcut, IH]
theorem Yj (s : Str) (h : s.length ≤ 4194304) : zk (EV Tryz.prog pol) 247 [.t (.str s), .t (.str [48])] = some (.t (.str (xT s))) := by
 have L := ZB s h
 have d : zk (EV Tryz.prog pol) 305 [.t (.str s), .t (.int .u8 48)] = some (.t (.str (xT s))) := by
  apply zq
  refine zr rfl Tryz.func305 rfl (by kernel_rfl) ?_
  unfold Tryz.f305
  simp (disch := ((try simp only [LL]); omega)) only [↓GO, ↓DRW, GA, GX, ren, zm, z8, refs, z7, cst, zo, isC, bin, una, z6, zc, blt, asArg, ze, zb, zf, z1, E.mkS, unN, zd, zn, za, GS, simprocAttr, GZ, L]
 cases hs : (s == []) with
 | true =>
  have : s = [] := by simpa using hs
  subst this
  apply zq
  refine zr rfl Tryz.func247 rfl (by kernel_rfl) ?_
  unfold Tryz.f247
  simp (disch := ((try simp only [LL]); omega)) only [↓GO, ↓DRW, GA, GX, ren, zm, z8, refs, z7, cst, zo, isC, bin, una, z6, zc, blt, asArg, ze, zb, zf, z1, E.mkS, unN, zd, zn, za, GS, simprocAttr, GZ, hs]
  rfl
 | false =>
  have h48 : (([48] : Str) == []) = false := rfl
  have h49 : ((UInt8.toNat 48 : Nat) : Int) = 48 := rfl
  have h50 : decide ((48 : Int) < 128) = true := rfl
  apply zq
  refine zr rfl Tryz.func247 rfl (by kernel_rfl) ?_
  unfold Tryz.f247
  simp (disch := ((try simp only [LL]); omega)) only [↓GO, ↓DRW, GA, GX, ren, zm, z8, refs, z7, cst, zo, isC, bin, una, z6, zc, blt, asArg, ze, zb, zf, z1, E.mkS, unN, zd, zn, za, GS, simprocAttr, GZ, hs, h48, h49, h50, d, List.length_cons, List.length_nil]
theorem UI (a b : Str) (ha : a.length ≤ 4194304) (hb : b.length ≤ 4194304) : zk (EV Tryz.prog pol) 166 [.t (.str a), .t (.str b)] = some (.t (.int .i64 (Yh a b))) := by
 have d1 := gj a (by omega)
 have d2 := gj b (by omega)
 have d3 := Yj a ha
 have d4 := Yj b hb
 have d5 := vB ((xT a).length : Int) ((xT b).length : Int)
 have d6 := Se a b
 have d7 := Se (xT a) (xT b)
 rw [dU] at d6 d7
 unfold Yh
 generalize xT a = ta at *
 generalize xT b = tb at *
 generalize yE (ta.length : Int) (tb.length : Int) = n at *
 cases h1 : isNum a <;> cases h2 : isNum b <;> rw [h1] at d1 <;> rw [h2] at d2 <;> simp only [Bool.and_true, Bool.and_false, cond_true, cond_false]
 · apply zq
   refine zr rfl Tryz.func166 rfl (by kernel_rfl) ?_
   unfold Tryz.f166
   simp (disch := ((try simp only [LL]); omega)) only [↓GO, ↓DRW, GA, GX, ren, zm, z8, refs, z7, cst, zo, isC, bin, una, z6, zc, blt, asArg, ze, zb, zf, z1, E.mkS, unN, zd, zn, za, GS, simprocAttr, GZ, d1, d2, d6]
 · apply zq
   refine zr rfl Tryz.func166 rfl (by kernel_rfl) ?_
   unfold Tryz.f166
   simp (disch := ((try simp only [LL]); omega)) only [↓GO, ↓DRW, GA, GX, ren, zm, z8, refs, z7, cst, zo, isC, bin, una, z6, zc, blt, asArg, ze, zb, zf, z1, E.mkS, unN, zd, zn, za, GS, simprocAttr, GZ, d1, d2, d6]
 · apply zq
   refine zr rfl Tryz.func166 rfl (by kernel_rfl) ?_
   unfold Tryz.f166
   simp (disch := ((try simp only [LL]); omega)) only [↓GO, ↓DRW, GA, GX, ren, zm, z8, refs, z7, cst, zo, isC, bin, una, z6, zc, blt, asArg, ze, zb, zf, z1, E.mkS, unN, zd, zn, za, GS, simprocAttr, GZ, d1, d2, d6]
 · cases hn : (n == 0)
   all_goals
    simp only [cond_true, cond_false]
    apply zq
    refine zr rfl Tryz.func166 rfl (by kernel_rfl) ?_
    unfold Tryz.f166
    simp (disch := ((try simp only [LL]); omega)) only [↓GO, ↓DRW, GA, GX, ren, zm, z8, refs, z7, cst, zo, isC, bin, una, z6, zc, blt, asArg, ze, zb, zf, z1, E.mkS, unN, zd, zn, za, GS, simprocAttr, GZ, d1, d2, d3, d4, d5, d7, hn, bne]
theorem Rm (x1 x2 x3 x4 y1 y2 y3 y4 : T) (a b c : Int) :
 EV Tryz.prog pol (.loop 72 26 0 [.ptr 0 0 0, .ptr 1 0 0, .sl 2 0 3 (some 3), .t (.int .i64 3), .t (.int .i64 0)] [.vs 4 [[.t x1, .t x2, .t x3, .t x4]], .vs 4 [[.t y1, .t y2, .t y3, .t y4]], .ts 1 [[.int .i64 a], [.int .i64 b], [.int .i64 c]]])
 = some (cond (a == 0) (cond (b == 0) (cond (c == 0) (.loop (.exit 0) [.ptr 0 0 0, .ptr 1 0 0, .bad] [.vs 4 [[.t x1, .t x2, .t x3, .t x4]], .vs 4 [[.t y1, .t y2, .t y3, .t y4]]])
  (.loop .ret [.ptr 0 0 0, .ptr 1 0 0, .t (.int .i64 c)] [.vs 4 [[.t x1, .t x2, .t x3, .t x4]], .vs 4 [[.t y1, .t y2, .t y3, .t y4]]]))
  (.loop .ret [.ptr 0 0 0, .ptr 1 0 0, .t (.int .i64 b)] [.vs 4 [[.t x1, .t x2, .t x3, .t x4]], .vs 4 [[.t y1, .t y2, .t y3, .t y4]]]))
  (.loop .ret [.ptr 0 0 0, .ptr 1 0 0, .t (.int .i64 a)] [.vs 4 [[.t x1, .t x2, .t x3, .t x4]], .vs 4 [[.t y1, .t y2, .t y3, .t y4]]])) := by
 cases h1 : (a == 0)
 · refine zh Tryz.func72 rfl rfl ?_
   simp (disch := ((try simp only [LL]); omega)) only [↓GO, ↓DRW, GA, GX, ren, zm, z8, refs, z7, cst, zo, isC, bin, una, z6, zc, blt, asArg, ze, zb, zf, z1, E.mkS, unN, zd, zn, za, GS, simprocAttr, GZ, h1, bne, zi, zD]
 · refine zh Tryz.func72 rfl rfl ?_
   simp (disch := ((try simp only [LL]); omega)) only [↓GO, ↓DRW, GA, GX, ren, zm, z8, refs, z7, cst, zo, isC, bin, una, z6, zc, blt, asArg, ze, zb, zf, z1, E.mkS, unN, zd, zn, za, GS, simprocAttr, GZ, h1, bne, zi, zD, Int.zero_add]
   cases h2 : (b == 0)
   · refine zh Tryz.func72 rfl rfl ?_
     simp (disch := ((try simp only [LL]); omega)) only [↓GO, ↓DRW, GA, GX, ren, zm, z8, refs, z7, cst, zo, isC, bin, una, z6, zc, blt, asArg, ze, zb, zf, z1, E.mkS, unN, zd, zn, za, GS, simprocAttr, GZ, h2, bne, zi, zD]
   · refine zh Tryz.func72 rfl rfl ?_
     simp (disch := ((try simp only [LL]); omega)) only [↓GO, ↓DRW, GA, GX, ren, zm, z8, refs, z7, cst, zo, isC, bin, una, z6, zc, blt, asArg, ze, zb, zf, z1, E.mkS, unN, zd, zn, za, GS, simprocAttr, GZ, h2, bne, zi, zD, Int.reduceAdd]
     cases h3 : (c == 0)
     · refine zh Tryz.func72 rfl rfl ?_
       simp (disch := ((try simp only [LL]); omega)) only [↓GO, ↓DRW, GA, GX, ren, zm, z8, refs, z7, cst, zo, isC, bin, una, z6, zc, blt, asArg, ze, zb, zf, z1, E.mkS, unN, zd, zn, za, GS, simprocAttr, GZ, h3, bne, zi, zD]
     · refine zh Tryz.func72 rfl rfl ?_
       simp (disch := ((try simp only [LL]); omega)) only [↓GO, ↓DRW, GA, GX, ren, zm, z8, refs, z7, cst, zo, isC, bin, una, z6, zc, blt, asArg, ze, zb, zf, z1, E.mkS, unN, zd, zn, za, GS, simprocAttr, GZ, h3, bne, zi, zD, Int.reduceAdd]
       refine zh Tryz.func72 rfl rfl ?_
       simp (disch := ((try simp only [LL]); omega)) only [↓GO, ↓DRW, GA, GX, ren, zm, z8, refs, z7, cst, zo, isC, bin, una, z6, zc, blt, asArg, ze, zb, zf, z1, E.mkS, unN, zd, zn, za, GS, simprocAttr, GZ, zi, zD]
theorem ZL (a b : Ver) (ha : a.sm) (hb : b.sm) (M : Nat) (hM : M = min a.pre.length b.pre.length) : ∀ (ra rb pa pb : List Str), a.pre = pa ++ ra → b.pre = pb ++ rb → pa.length = pb.length →
 EV Tryz.prog pol (.loop 72 122 0 [.ptr 0 0 0, .ptr 1 0 0, .t (.int .i64 (M : Int)), .t (.int .i64 (pa.length : Int))] [.vs 4 [a.enc.map .t], .vs 4 [b.enc.map .t]])
 = some (match ru ra rb with
  | some n => .loop .ret [.ptr 0 0 0, .ptr 1 0 0, .t (.int .i64 n)] [.vs 4 [a.enc.map .t], .vs 4 [b.enc.map .t]]
  | none => .loop (.exit 2) [.ptr 0 0 0, .ptr 1 0 0, .bad] [.vs 4 [a.enc.map .t], .vs 4 [b.enc.map .t]])
 | [], rb, pa, pb, h1, h2, h3 => by
  have l1 : a.pre.length = pa.length := by rw [h1]; simp
  have c : decide ((pa.length : Int) < (M : Int)) = false := by apply decide_eq_false; omega
  have e : ru [] rb = none := by unfold ru; rfl
  rw [e]
  simp only [Ver.enc, List.map_cons, List.map_nil]
  refine zh Tryz.func72 rfl rfl ?_
  simp (disch := ((try simp only [LL]); omega)) only [↓GO, ↓DRW, GA, GX, ren, zm, z8, refs, z7, cst, zo, isC, bin, una, z6, zc, blt, asArg, ze, zb, zf, z1, E.mkS, unN, zd, zn, za, GS, simprocAttr, GZ, zj, c, zD]
 | x :: ra, [], pa, pb, h1, h2, h3 => by
  have l2 : b.pre.length = pb.length := by rw [h2]; simp
  have c : decide ((pa.length : Int) < (M : Int)) = false := by apply decide_eq_false; omega
  rw [show ru (x :: ra) [] = none from rfl]
  simp only [Ver.enc, List.map_cons, List.map_nil]
  refine zh Tryz.func72 rfl rfl ?_
  simp (disch := ((try simp only [LL]); omega)) only [↓GO, ↓DRW, GA, GX, ren, zm, z8, refs, z7, cst, zo, isC, bin, una, z6, zc, blt, asArg, ze, zb, zf, z1, E.mkS, unN, zd, zn, za, GS, simprocAttr, GZ, zj, c, zD]
 | x :: ra, y :: rb, pa, pb, h1, h2, h3 => by
  unfold Ver.sm at ha hb
  have l1 : pa.length + ra.length + 1 = a.pre.length := by rw [h1]; simp; omega
  have l2 : pb.length + rb.length + 1 = b.pre.length := by rw [h2]; simp; omega
  have c : decide ((pa.length : Int) < (M : Int)) = true := by apply decide_eq_true; omega
  have hg1 : (strs a.pre)[pa.length]? = some [.str x] := by rw [h1]; exact xJ pa x ra
  have hg2 : (strs b.pre)[pa.length]? = some [.str y] := by rw [h2, h3]; exact xJ pb y rb
  have hx : x.length ≤ 2097152 := by have := wh (ks := a.pre) (s := x) (by rw [h1]; simp); omega
  have hy : y.length ≤ 2097152 := by have := wh (ks := b.pre) (s := y) (by rw [h2]; simp); omega
  have hp := UI x y (by omega) (by omega)
  have IH := ZL a b ha hb M hM ra rb (pa ++ [x]) (pb ++ [y]) (by rw [h1]; simp) (by rw [h2]; simp) (by simp [h3])
  rw [show ((pa ++ [x]).length : Int) = (pa.length : Int) + 1 by simp] at IH
  clear h1 h2
  simp only [Ver.enc, List.map_cons, List.map_nil] at IH ⊢
  rw [ru]
  generalize Yh x y = n at *
  cases hn : (n == 0)
  · simp only [cond_false]
    refine zh Tryz.func72 rfl rfl ?_
    simp (disch := ((try simp only [LL]); omega)) only [↓GO, ↓DRW, GA, GX, ren, zm, z8, refs, z7, cst, zo, isC, bin, una, z6, zc, blt, asArg, ze, zb, zf, z1, E.mkS, unN, zd, zn, za, GS, simprocAttr, GZ, zj, c, hg1, hg2, hp, hn, bne, zi, zD]
  · simp only [cond_true]
    refine zh Tryz.func72 rfl rfl ?_
    simp (disch := ((try simp only [LL]); omega)) only [↓GO, ↓DRW, GA, GX, ren, zm, z8, refs, z7, cst, zo, isC, bin, una, z6, zc, blt, asArg, ze, zb, zf, z1, E.mkS, unN, zd, zn, za, GS, simprocAttr, GZ, zj, c, hg1, hg2, hp, hn, bne, zi, zD, IH]
theorem Q4 (a b : Ver) (ha : a.sm) (hb : b.sm) : zk (EV Tryz.prog pol) 72 [.agg (a.enc.map .t), .agg (b.enc.map .t)] = some (.t (.int .i64 (VD a b))) := by
 have d1 := vB a.maj b.maj
 have d2 := vB a.min b.min
 have d3 := vB a.pat b.pat
 have d4 := vB (b.pre.length : Int) (a.pre.length : Int)
 have d5 := vB (a.pre.length : Int) (b.pre.length : Int)
 obtain ⟨M, hM⟩ : ∃ M, M = min a.pre.length b.pre.length := ⟨_, rfl⟩
 have L2 := ZL a b ha hb M hM a.pre b.pre [] [] rfl rfl rfl
 have L1 := Rm (.int .i64 a.maj) (.int .i64 a.min) (.int .i64 a.pat) (.list 1 (strs a.pre)) (.int .i64 b.maj) (.int .i64 b.min) (.int .i64 b.pat) (.list 1 (strs b.pre)) (yE a.maj b.maj) (yE a.min b.min) (yE a.pat b.pat)
 have e1 := rq a.pre
 have e2 := rq b.pre
 have hm : (if (b.pre.length : Int) < (a.pre.length : Int) then (b.pre.length : Int) else (a.pre.length : Int)) = (M : Int) := by split <;> omega
 clear hM
 unfold VD
 simp only [List.length_nil, Int.natCast_zero] at L2
 simp only [Ver.enc, List.map_cons, List.map_nil] at L1 L2 ⊢
 generalize yE a.maj b.maj = n1 at *
 generalize yE a.min b.min = n2 at *
 generalize yE a.pat b.pat = n3 at *
 cases h1 : (n1 == 0) <;> rw [h1] at L1
 · simp only [cond_false] at L1
   apply zq
   refine zr rfl Tryz.func72 rfl (by kernel_rfl) ?_
   unfold Tryz.f72
   simp (disch := ((try simp only [LL]); omega)) only [↓GO, ↓DRW, GA, GX, ren, zm, z8, refs, z7, cst, zo, isC, bin, una, z6, zc, blt, asArg, ze, zb, zf, z1, E.mkS, unN, zd, zn, za, GS, simprocAttr, GZ, d1, d2, d3, L1, zD]
   refine yJ (by kernel_rfl) ?_
   simp (disch := ((try simp only [LL]); omega)) only [↓GO, ↓DRW, GA, GX, ren, zm, z8, refs, z7, cst, zo, isC, bin, una, z6, zc, blt, asArg, ze, zb, zf, z1, E.mkS, unN, zd, zn, za, GS, simprocAttr, GZ, d1, d2, d3, L1, zD]
 · cases h2 : (n2 == 0) <;> rw [h2] at L1
   · simp only [cond_false, cond_true] at L1
     apply zq
     refine zr rfl Tryz.func72 rfl (by kernel_rfl) ?_
     unfold Tryz.f72
     simp (disch := ((try simp only [LL]); omega)) only [↓GO, ↓DRW, GA, GX, ren, zm, z8, refs, z7, cst, zo, isC, bin, una, z6, zc, blt, asArg, ze, zb, zf, z1, E.mkS, unN, zd, zn, za, GS, simprocAttr, GZ, d1, d2, d3, L1, zD]
     refine yJ (by kernel_rfl) ?_
     simp (disch := ((try simp only [LL]); omega)) only [↓GO, ↓DRW, GA, GX, ren, zm, z8, refs, z7, cst, zo, isC, bin, una, z6, zc, blt, asArg, ze, zb, zf, z1, E.mkS, unN, zd, zn, za, GS, simprocAttr, GZ, d1, d2, d3, L1, zD]
   · cases h3 : (n3 == 0) <;> rw [h3] at L1
     · simp only [cond_false, cond_true] at L1
       apply zq
       refine zr rfl Tryz.func72 rfl (by kernel_rfl) ?_
       unfold Tryz.f72
       simp (disch := ((try simp only [LL]); omega)) only [↓GO, ↓DRW, GA, GX, ren, zm, z8, refs, z7, cst, zo, isC, bin, una, z6, zc, blt, asArg, ze, zb, zf, z1, E.mkS, unN, zd, zn, za, GS, simprocAttr, GZ, d1, d2, d3, L1, zD]
       refine yJ (by kernel_rfl) ?_
       simp (disch := ((try simp only [LL]); omega)) only [↓GO, ↓DRW, GA, GX, ren, zm, z8, refs, z7, cst, zo, isC, bin, una, z6, zc, blt, asArg, ze, zb, zf, z1, E.mkS, unN, zd, zn, za, GS, simprocAttr, GZ, d1, d2, d3, L1, zD]
     · simp only [cond_true] at L1
       cases hs : ru a.pre b.pre <;> rw [hs] at L2 <;> simp only at L2 <;> cases h4 : (a.pre == []) <;> cases h5 : (b.pre == []) <;> rw [h4] at e1 <;> rw [h5] at e2
       all_goals
        apply zq
        refine zr rfl Tryz.func72 rfl (by kernel_rfl) ?_
        unfold Tryz.f72
        simp (disch := ((try simp only [LL]); omega)) only [↓GO, ↓DRW, GA, GX, ren, zm, z8, refs, z7, cst, zo, isC, bin, una, z6, zc, blt, asArg, ze, zb, zf, z1, E.mkS, unN, zd, zn, za, GS, simprocAttr, GZ, d1, d2, d3, d4, d5, L1, L2, hm, zj, e1, e2, bne, Bool.beq_eq_decide_eq, zD]
        refine yJ (by kernel_rfl) ?_
        simp (disch := ((try simp only [LL]); omega)) only [↓GO, ↓DRW, GA, GX, ren, zm, z8, refs, z7, cst, zo, isC, bin, una, z6, zc, blt, asArg, ze, zb, zf, z1, E.mkS, unN, zd, zn, za, GS, simprocAttr, GZ, d1, d2, d3, d4, d5, L1, L2, hm, zj, e1, e2, bne, zD, Option.getD_some, Option.getD_none]
theorem QO (a b : Str) (ha : a.length ≤ 1048700) (hb : b.length ≤ 1048700) : zk (EV Tryz.prog pol) 97 [.t (.str a), .t (.str b)] = some (.t (.int .i64 (VD (zE a).1 (zE b).1))) := by
 have d1 := YM a ha
 have d2 := YM b hb
 have d3 := Q4 (zE a).1 (zE b).1 (xG a ha).1 (xG b hb).1
 unfold rvT at d1 d2
 generalize VD (zE a).1 (zE b).1 = n at *
 generalize (zE a).1 = va at *
 generalize (zE b).1 = vb at *
 simp only [Ver.enc, List.map_cons, List.map_nil] at d1 d2 d3
 apply zq
 refine zr rfl Tryz.func97 rfl (by kernel_rfl) ?_
 unfold Tryz.f97
 simp (disch := ((try simp only [LL]); omega)) only [↓GO, ↓DRW, GA, GX, ren, zm, z8, refs, z7, cst, zo, isC, bin, una, z6, zc, blt, asArg, ze, zb, zf, z1, E.mkS, unN, zd, zn, za, GS, simprocAttr, GZ, d1, d2, d3, zD]
end Go.Proofs.YtijninlbpifonaaGreatDoor
/- What is drawn never goes back. Conditions: those of each lemma. -/
namespace Go.Proofs.YtijninlbpifonaaGreatDoor.Dr
open Go
set_option linter.unusedVariables false
set_option linter.unusedSimpArgs false
def rwd {α : Type} : Result α → World
 | .ok _ w => w
 | .halt _ w => w
theorem Pv {α : Type} : ∀ (a : Ask α) (w : World), w.drawn ≤ (w.ask a).2.drawn := by
 intro a
 induction a with
 | done a => intro w; exact Nat.le_refl _
 | ask what range k ih =>
  intro w
  unfold World.ask
  simp only
  split
  · exact ih _ w
  · exact Nat.le_trans (Nat.le_succ _) (ih _ { w with drawn := w.drawn + 1 })
theorem TE (w : World) (c : Sys) : w.drawn ≤ (w.sys c).2.drawn := by
 have h := Pv (Kernel.perform c w.os) w
 unfold World.sys
 generalize w.ask (Kernel.perform c w.os) = x at h
 obtain ⟨⟨r, os⟩, w'⟩ := x
 cases r <;> first | exact h | exact Nat.le_refl _
theorem SF {p : Program} {w : World} {at_ : Addr} {u : TypeId} {k : Addr} {v : Value} {b : Bool} {x : World × List Addr} (h : w.viewStore p at_ u k v b = .ok x) : x.1.drawn = w.drawn := by
 unfold World.viewStore at h
 simp only [bind, Except.bind, pure, Except.pure] at h
 repeat' first
  | (cases h; rfl)
  | (cases h; done)
  | split at h
theorem S9 {p : Program} {w : World} {a : Addr} {v : Value} {b : Bool} {x : World × List Addr} (h : w.farStore p a v b = .ok x) : x.1.drawn = w.drawn := by
 unfold World.farStore at h
 split at h
 · split at h
   · rename_i hv
     cases h
     exact SF hv
   · cases h
 · cases h
theorem ji (w : World) (a : Addr) (n : Nat) : (w.freeze a n).drawn = w.drawn := by
 unfold World.freeze; split <;> rfl
theorem vn {α : Type} (p : Program) : ∀ (m : Sem α) (w : World) (es : Array Event), w.drawn ≤ (rwd (m.runT p w es).1).drawn := by
 intro m
 induction m with
 | pure a => intro w es; exact Nat.le_refl _
 | load m a k ih =>
  intro w es
  unfold Sem.runT
  split
  · exact ih _ _ _
  · split
    · exact ih _ _ _
    · exact Nat.le_refl _
 | store m a v k ih =>
  intro w es
  have key : ∀ v : Value, (∀ x, v ≠ .agg x) → (∀ x, v ≠ .tuple x) → w.drawn ≤ (rwd (Sem.runT p (.store m a v k) w es).1).drawn := fun v h1 h2 => by
   rw [Sem.runT]
   · split
     · split
       · exact Nat.le_refl _
       · exact ih (w.setCell a v) _
     · split
       · rename_i hf
         have := S9 hf
         simp only at this
         rw [← this]
         exact ih _ _
       · exact Nat.le_refl _
   · exact fun x => h1 x
   · exact fun x => h2 x
  cases v with
  | agg x => exact Nat.le_refl _
  | tuple x => exact Nat.le_refl _
  | _ => exact key _ (fun x hx => by cases hx) (fun x hx => by cases hx)
 | new o k ih => intro w es; exact ih w.heap.size { w with heap := w.heap.push o } es
 | shape r k ih => intro w es; exact ih _ _ _
 | freeze a n k ih => intro w es; have := ih (w.freeze a n) es; rw [ji] at this; exact this
 | frozen a k ih => intro w es; exact ih _ _ _
 | getObj r k ih =>
  intro w es
  unfold Sem.runT
  split <;> first | exact Nat.le_refl _ | exact ih _ _ _
 | setObj r o k ih =>
  intro w es
  unfold Sem.runT
  split <;> first | exact Nat.le_refl _ | exact ih { w with heap := w.heap.setIfInBounds r o } _
 | choose q k ih =>
  intro w es
  unfold Sem.runT
  split
  · exact ih _ _ _
  · exact Nat.le_trans (Nat.le_succ _) (ih _ { w with drawn := w.drawn + 1 } _)
 | sys c k ih => intro w es; exact Nat.le_trans (TE w c) (ih _ _ _)
 | program k ih => intro w es; exact ih _ _ _
 | mark mk k ih => intro w es; exact ih _ _
 | halt h => intro w es; exact Nat.le_refl _
theorem TH {α : Type} (p : Program) : ∀ (m : Sem α) (w : World), w.drawn ≤ (rwd (m.run p w)).drawn := by
 intro m
 induction m with
 | pure a => intro w; exact Nat.le_refl _
 | load m a k ih =>
  intro w
  unfold Sem.run
  split
  · exact ih _ _
  · split
    · exact ih _ _
    · exact Nat.le_refl _
 | store m a v k ih =>
  intro w
  have key : ∀ v : Value, (∀ x, v ≠ .agg x) → (∀ x, v ≠ .tuple x) → w.drawn ≤ (rwd (Sem.run p (.store m a v k) w)).drawn := fun v h1 h2 => by
   rw [Sem.run]
   · split
     · split
       · exact Nat.le_refl _
       · exact ih (w.setCell a v)
     · split
       · rename_i hf
         have := S9 hf
         simp only at this
         rw [← this]
         exact ih _
       · exact Nat.le_refl _
   · exact fun x => h1 x
   · exact fun x => h2 x
  cases v with
  | agg x => exact Nat.le_refl _
  | tuple x => exact Nat.le_refl _
  | _ => exact key _ (fun x hx => by cases hx) (fun x hx => by cases hx)
 | new o k ih => intro w; exact ih w.heap.size { w with heap := w.heap.push o }
 | shape r k ih => intro w; exact ih _ _
 | freeze a n k ih => intro w; have := ih (w.freeze a n); rw [ji] at this; exact this
 | frozen a k ih => intro w; exact ih _ _
 | getObj r k ih =>
  intro w
  unfold Sem.run
  split <;> first | exact Nat.le_refl _ | exact ih _ _
 | setObj r o k ih =>
  intro w
  unfold Sem.run
  split <;> first | exact Nat.le_refl _ | exact ih { w with heap := w.heap.setIfInBounds r o }
 | choose q k ih =>
  intro w
  unfold Sem.run
  split
  · exact ih _ _
  · exact Nat.le_trans (Nat.le_succ _) (ih _ { w with drawn := w.drawn + 1 })
 | sys c k ih => intro w; exact Nat.le_trans (TE w c) (ih _ _)
 | program k ih => intro w; exact ih _ _
 | mark mk k ih => intro w; exact ih _
 | halt h => intro w; exact Nat.le_refl _
theorem yY {α : Type} {p : Program} {m : Sem α} {w w' : World} {a : α} (h : m.run p w = .ok a w') : w.drawn ≤ w'.drawn := by
 have := TH p m w
 rw [h] at this; exact this
theorem SQ {α : Type} {p : Program} {m : Sem α} {w w' : World} {a : α} {es es' : Array Event} (h : m.runT p w es = (.ok a w', es')) : w.drawn ≤ w'.drawn := by
 have := vn p m w es
 rw [h] at this; exact this
theorem X5 {α : Type} {p : Program} {m : Sem α} {w w' : World} {a : Halt} {es es' : Array Event} (h : m.runT p w es = (.halt a w', es')) : w.drawn ≤ w'.drawn := by
 have := vn p m w es
 rw [h] at this; exact this
theorem aF {α : Type} {p : Program} {m : Sem α} {w w' : World} {a : α} {es : Array Event} (h : (m.runT p w es).1 = .ok a w') : w.drawn ≤ w'.drawn := by
 have := vn p m w es
 rw [h] at this; exact this
theorem Uh {α : Type} {p : Program} {m : Sem α} {w w' : World} {a : Halt} {es : Array Event} (h : (m.runT p w es).1 = .halt a w') : w.drawn ≤ w'.drawn := by
 have := vn p m w es
 rw [h] at this; exact this
/-- a goroutine's step does not go back in what is drawn -/
def GE (d : Nat) : GStep → Prop
 | .go _ w _ => d ≤ w.drawn
 | .comm _ _ _ _ w _ => d ≤ w.drawn
 | .spawn _ _ w _ => d ≤ w.drawn
 | .count _ w _ => d ≤ w.drawn
 | .timer _ _ w _ => d ≤ w.drawn
 | .alone _ _ w _ => d ≤ w.drawn
 | .newcoro _ _ _ w _ => d ≤ w.drawn
 | .coroswitch _ _ _ w _ => d ≤ w.drawn
 | .collect _ w _ => d ≤ w.drawn
 | .watch _ w _ => d ≤ w.drawn
 | .ended _ _ _ => True
theorem uO {d : Nat} {es : Array Event} {s : GStep} (h : GE d s) : GE d (s.after es) := by cases s <;> exact h
def SE (d : Nat) : Stepped → Prop
 | .next m => d ≤ m.world.drawn
 | .ended _ _ => True
theorem cX (d : Nat) (w : World) (fd : Nat) (t : ByteArray) (o : Outcome) : GE d (endWith w fd t o) := by
 unfold endWith
 simp only
 repeat' first | exact trivial | split
theorem Up {d : Nat} {w : World} (h : d ≤ w.drawn) (fr : Frame) (l : List ByteArray) (m : String) (b : Bool) : GE d (dieOf fr l m b w) := h
theorem sd {d : Nat} {w : World} (h : d ≤ w.drawn) (fr : Frame) (m : String) : GE d (endThrow fr m w) := h
theorem tY {d : Nat} {w : World} (h : d ≤ w.drawn) (p : Program) (fr : Frame) (v : Value) : GE d (endPrinting p fr v w) := by
 unfold endPrinting
 simp only
 repeat' first | exact trivial | exact sd h _ _ | split
theorem oX {d : Nat} {w : World} (h : d ≤ w.drawn) (p : Program) (fr : Frame) (cs : List Frame) (dy : Option Dying) (m : String) : GE d (endFatal p fr cs dy m w) := by
 unfold endFatal
 simp only
 split
 · rename_i hr; exact Up (Nat.le_trans h (yY hr)) _ _ _ _
 · exact trivial
 · exact trivial
theorem cC {d : Nat} {w : World} (h : d ≤ w.drawn) (p : Program) (fr : Frame) (dy : Dying) (f : Fatal) : GE d (writeOn p fr dy f w) := by
 unfold writeOn
 simp only
 split
 · exact trivial
 · split
   · rename_i hr
     exact Nat.le_trans h (SQ hr)
   · rename_i hr
     exact Nat.le_trans h (X5 hr)
   · exact trivial
   · exact trivial
theorem P9 {d : Nat} {w : World} (h : d ≤ w.drawn) (p : Program) (fr : Frame) (dy : Dying) : GE d (die p fr dy w) := by
 unfold die
 split
 · exact cC h _ _ _ _
 · split
   · split
     · exact h
     · exact cX _ _ _ _ _
   · simp only
     split
     · exact h
     · split
       · rename_i hr; exact Nat.le_trans h (yY hr)
       · exact trivial
     · rename_i t recv name _
       have hx := vn p (invoke (.fn (.method name) #[]) #[.iface t recv]) w #[]
       generalize (invoke (.fn (.method name) #[]) #[.iface t recv]).runT p w #[] = x at hx
       obtain ⟨r, es⟩ := x
       refine uO ?_
       simp only at hx ⊢
       split
       · exact Nat.le_trans h hx
       · exact Nat.le_trans h hx
       · exact trivial
       · exact tY (Nat.le_trans h hx) _ _ _
       · exact trivial
     · exact trivial
theorem se {d : Nat} {w : World} (h : d ≤ w.drawn) (p : Program) (b : Bool) (fr : Frame) (cs : List Frame) (dy : Option Dying) (v : Value) : GE d (doReturn p b fr cs dy v w) := by
 unfold doReturn
 repeat' first | exact trivial | exact h | split
theorem nh {d : Nat} {w : World} (h : d ≤ w.drawn) (p : Program) (fr : Frame) (cs : List Frame) (dy : Option Dying) (df : Deferred) : GE d (callDeferred p fr cs dy df w) := by
 unfold callDeferred
 have hx := vn p (invoke df.target df.args) w #[]
 generalize (invoke df.target df.args).runT p w #[] = x at hx
 obtain ⟨r, es⟩ := x
 simp only at hx ⊢
 have hy := Nat.le_trans h hx
 clear hx h
 repeat' first | exact trivial | exact hy | exact oX hy _ _ _ _ _ | exact sd hy _ _ | refine uO ?_ | split
theorem YR {d : Nat} {w : World} (h : d ≤ w.drawn) (p : Program) (b : Bool) (fr : Frame) (cs : List Frame) (dy : Option Dying) : GE d (unwind p b fr cs dy w) := by
 unfold unwind
 split
 · rename_i block _ _ _
   have hx := vn p (Instr.takeDeferred block) w #[]
   generalize (Instr.takeDeferred block).runT p w #[] = x at hx
   obtain ⟨r, es⟩ := x
   refine uO ?_
   simp only at hx ⊢
   split
   · exact Nat.le_trans h hx
   · exact trivial
 · exact nh h _ _ _ _ _
 · split
   · exact trivial
   · repeat' first
      | exact trivial
      | exact h
      | (rename_i hr; exact Nat.le_trans h (yY hr))
      | exact tY h _ _ _
      | split
   · split
     · exact se h _ _ _ _ _ _
     · rename_i fn _
       have hx := vn p (results fn fr.tmps) w #[]
       generalize (results fn fr.tmps).runT p w #[] = x at hx
       obtain ⟨r, es⟩ := x
       refine uO ?_
       simp only at hx ⊢
       split
       · exact se (Nat.le_trans h hx) _ _ _ _ _ _
       · exact trivial
       · exact trivial
theorem Un {d : Nat} {w : World} (h : d ≤ w.drawn) (p : Program) (fr : Frame) (cs : List Frame) (dy : Option Dying) (g : Nat) : GE d (early p fr cs dy g w) := by
 have hn : ∀ w : World, d ≤ w.drawn → GE d (match w.heap[g]? with
  | some (.pending c elem) => .go { frame := fr, callers := cs, status := .running, dying := dy } { w with heap := w.heap.setIfInBounds g (.cells c elem) }
  | _ => .ended (.stuck "early: the variable does not wait" (fr.pos p)) w) := fun w hw => by
  split
  · exact hw
  · exact trivial
 unfold early
 simp only
 repeat' first
  | exact trivial
  | exact hn _ h
  | exact h
  | (rename_i hr; exact hn _ (Nat.le_trans h (yY hr)))
  | (rename_i hr; exact Nat.le_trans h (yY hr))
  | split
theorem lD {d : Nat} {w : World} (h : d ≤ w.drawn) (p : Program) (b l : Bool) (fr : Frame) (cs : List Frame) (dy : Option Dying) (s : Sem Next) : GE d (stepG.apply p l fr cs dy s w) := by
 unfold stepG.apply
 have hx : w.drawn ≤ (rwd ((if l = true then s.runT p w #[] else (s.run p w, #[])).1)).drawn := by
  split
  · exact vn p s w #[]
  · exact TH p s w
 generalize (if l = true then s.runT p w #[] else (s.run p w, #[])) = x at hx
 obtain ⟨r, es⟩ := x
 simp only at hx ⊢
 have hy := Nat.le_trans h hx
 clear hx h
 refine uO ?_
 repeat' first | exact trivial | exact hy | exact oX hy _ _ _ _ _ | exact sd hy _ _ | exact Un hy _ _ _ _ _ | split
theorem SZ {d : Nat} {w : World} (h : d ≤ w.drawn) (p : Program) (l : Bool) (fr : Frame) (cs : List Frame) (dy : Option Dying) : GE d (stepG.oper p l fr cs dy w) := by
 unfold stepG.oper
 split
 · exact trivial
 · split <;> exact lD h p true l _ _ _ _
theorem Rx {d : Nat} {w : World} (h : d ≤ w.drawn) (p : Program) (b l : Bool) (fr : Frame) (cs : List Frame) (dy : Option Dying) : GE d (stepG.exec p b l fr cs dy w) := by
 unfold stepG.exec
 simp only
 repeat' first
  | exact trivial
  | exact h
  | exact lD h _ true _ _ _ _ _
  | exact SZ h _ _ _ _ _
  | exact se (Nat.le_trans h (aF (by assumption))) _ _ _ _ _ _
  | exact lD (Nat.le_trans h (aF (by assumption))) _ true _ _ _ _ _
  | exact Nat.le_trans h (aF (by assumption))
  | exact Nat.le_trans h (Uh (by assumption))
  | exact Nat.le_trans h (yY (by assumption))
  | refine uO ?_
  | split
  | (unfold Option.elim; split)
theorem VJ (p : Program) (b : Bool) (g : Goroutine) (w : World) (l : Bool) : GE w.drawn (stepG p b g w l) := by
 unfold stepG
 simp only
 split
 · exact P9 (Nat.le_refl _) _ _ _
 · exact Rx (Nat.le_refl _) _ _ _ _ _ _
 · exact YR (Nat.le_refl _) _ _ _ _ _
theorem nN (p : Program) (rest : Rest) (gs : Array Goroutine) (i : Nat) (g : Goroutine) (cases : Array CommCase) (blocking : Bool) (shape : CommShape) {d : Nat} {w : World} (h : d ≤ w.drawn) : SE d (communicate p rest gs i g cases blocking shape w).1 := by
 have hw : ∀ w', waitingAt rest cases w = some w' → w'.drawn = w.drawn := fun w' hw => by
  unfold waitingAt at hw
  repeat' first | (cases hw; rfl) | (cases hw; done) | split at hw
 unfold communicate
 simp only
 repeat' first
  | exact trivial
  | exact h
  | (simp only [SE]; first
   | exact h
   | exact Nat.le_trans h (Nat.le_of_eq (hw _ (by assumption)).symm)
   | exact Nat.le_trans h (yY (by assumption))
   | exact Nat.le_trans h (Nat.le_trans (yY (by assumption)) (yY (by assumption))))
  | split
theorem Zv (p : Program) (gs : Array Goroutine) (rest : Rest) {d : Nat} {w : World} (h : d ≤ w.drawn) : SE d (look p gs rest w) := by
 unfold look
 simp only
 repeat' first
  | exact trivial
  | (simp only [SE]; exact Nat.le_trans h (yY (by assumption)))
  | split
theorem VF {m m' : Machine} {op : TimerOp} {v : Value} (h : timerOp m op = .ok (v, m')) : m'.world.drawn = m.world.drawn := by
 have hdr : ∀ (w : World) (c : Nat), (drain w c).2.drawn = w.drawn := fun w c => by unfold drain; split <;> rfl
 have hre : ∀ (m : Machine) (k : Nat) (t : Timer) (a b : Nat), (retime m k t a b).2.world.drawn = m.world.drawn := fun m k t a b => by
  unfold retime
  simp only
  split
  · exact hdr _ _
  · rfl
 have hnm : ∀ (m0 : Machine) (var : Addr) (f : Nat → Timer → Value × Machine) (v : Value) (m' : Machine), timerOp.named m0 var f = .ok (v, m') → (∀ k t, (f k t).2.world.drawn = m.world.drawn) → m'.world.drawn = m.world.drawn := fun m0 var f v m' hx hf => by
  unfold timerOp.named at hx
  split at hx
  · rename_i k _
    have h1 := hf k (m0.rest.timers.getD k default)
    simp only [Except.ok.injEq] at hx
    rw [hx] at h1
    exact h1
  · cases hx
 unfold timerOp at h
 split at h
 · split at h
   · simp only [Except.ok.injEq, Prod.mk.injEq] at h; obtain ⟨_, rfl⟩ := h; rfl
   · split at h
     · split at h
       · cases h
       · simp only [Except.ok.injEq, Prod.mk.injEq] at h; obtain ⟨_, rfl⟩ := h; rfl
     · cases h
 · exact hnm _ _ _ _ _ h fun k t => hre _ _ _ _ _
 · split at h
   · rename_i m1 ho
     have : m1.world.drawn = m.world.drawn := by
      unfold timerOp.opened at ho
      repeat' first | (cases ho; rfl) | (cases ho; done) | split at ho
     exact hnm _ _ _ _ _ h fun k t => (hre _ _ _ _ _).trans this
   · cases h
 · simp only [Except.ok.injEq, Prod.mk.injEq] at h; obtain ⟨_, rfl⟩ := h; rfl
theorem VS (p : Program) {d : Nat} {m : Machine} (k : Nat) (h : d ≤ m.world.drawn) : SE d (serve p m k) := by
 unfold serve
 simp only
 repeat' first | exact trivial | exact h | split
def ME (d : Nat) : Move → Prop
 | .goroutine m _ => d ≤ m.world.drawn
 | .machine s _ => SE d s
theorem Z1 {α β : Type} {p : Program} {r : Sem α} {s : Sem β} {w0 w1 w2 : World} {gs : Array Goroutine} {rest : Rest} {t : Nat} {k : α} {n : β} (h1 : r.run p w0 = .ok k w1) (h2 : s.run p (Machine.advanceTo { world := w1, gs, rest } t).world = .ok n w2) : w0.drawn ≤ w2.drawn :=
 by have h3 := yY h2; exact Nat.le_trans (yY h1) h3
theorem lB (p : Program) {d : Nat} {m : Machine} (h : d ≤ m.world.drawn) : ME d (askOn p m) := by
 unfold askOn
 simp only
 split
 · exact trivial
 · rename_i k w1 h1
   have d1 := Nat.le_trans h (yY h1)
   clear h1 h
   split
   · exact VS p _ d1
   · repeat' first
      | exact trivial
      | (simp only [ME, SE, Machine.advanceTo]; first
       | exact d1
       | exact Nat.le_trans d1 (yY (by assumption))
       | exact Nat.le_trans d1 (Z1 (by assumption) (by assumption))
       | exact Nat.le_trans d1 (Nat.le_trans (Z1 (by assumption) (by assumption)) (yY (by assumption)))
       | exact Nat.le_trans d1 (Nat.le_trans (yY (by assumption)) (yY (by assumption)))
       | exact Nat.le_trans d1 (Nat.le_trans (yY (by assumption)) (Nat.le_trans (yY (by assumption)) (yY (by assumption)))))
      | split
theorem Pw (p : Program) {d : Nat} {m : Machine} (h : d ≤ m.world.drawn) : ME d (ask p m) := by
 unfold ask
 split
 · split
   · exact trivial
   · rename_i w h1
     have hl := Zv p m.gs m.rest (Nat.le_trans h (yY h1))
     split
     · rename_i m' hm
       rw [hm] at hl
       exact lB p hl
     · exact hl
   · rename_i h1
     exact lB p (Nat.le_trans h (yY h1))
 · exact lB p h
theorem Rc (p : Program) {d : Nat} {m : Machine} (h : d ≤ m.world.drawn) : ME d (move p m) := by
 unfold move
 repeat' first | exact trivial | exact h | exact Pw p h | split
theorem SR (p : Program) (m : Machine) (i : Nat) (b : Bool) : SE m.world.drawn (runT p m i b).1 := by
 simp only [runT]
 generalize m.gs.swapAt! _ _ = gg
 have hg := VJ p (i == 0) gg.1 m.world b
 generalize stepG p _ gg.1 m.world b = s at hg
 cases s with
 | ended o w es => exact trivial
 | comm g cs bl sh w es => exact nN _ _ _ _ _ _ _ _ hg
 | go g w es => exact hg
 | spawn g c w es => exact hg
 | count g w es => simp only; split <;> first | exact trivial | exact hg
 | alone g on w es => exact hg
 | collect g w es => exact Zv _ _ _ hg
 | watch g w es => exact hg
 | newcoro g c d w es => exact hg
 | coroswitch g c e w es =>
  simp only
  repeat' first | exact trivial | exact hg | split
 | timer g op w es =>
  simp only
  split
  · rename_i ht
    have := VF ht
    exact Nat.le_trans hg (Nat.le_of_eq this.symm)
  · repeat' first | exact trivial | exact hg | split
  · exact trivial
  · exact trivial
theorem SK (p : Program) (m : Machine) : SE m.world.drawn (step p m) := by
 unfold step stepT
 have h := Rc p (Nat.le_refl m.world.drawn)
 split
 · rename_i m' i hm
   rw [hm] at h
   have h2 := SR p m' i true
   generalize (runT p m' i true).1 = s at h2
   cases s with
   | next m2 => exact Nat.le_trans h h2
   | ended o w => exact trivial
 · rename_i hm
   rw [hm] at h
   exact h
theorem Z2 (p : Program) : ∀ (n : Nat) (m m' : Machine), runN p n m = .next m' → m.world.drawn ≤ m'.world.drawn
 | 0, m, m', h => by cases h; exact Nat.le_refl _
 | n + 1, m, m', h => by
  unfold runN at h
  have hs := SK p m
  split at h
  · rename_i m1 h1
    rw [h1] at hs
    exact Nat.le_trans hs (Z2 p n m1 m' h)
  · rename_i hx
    exact absurd h (hx m')
/-- a call does not go back in what is drawn -/
theorem gY {P : Program} {f : FuncId} {args : Array Value} {w : World} {Q : Ending → World → Prop} (h : Calls P f args w Q) (hQ : ∀ e w', Q e w' → ∃ v, e = .returned v) : Calls P f args w fun e w' => Q e w' ∧ w.drawn ≤ w'.drawn := by
 intro cs
 obtain ⟨e, w', fr, h1, h2, h3, h4⟩ := h cs
 refine ⟨e, w', fr, ⟨h1, ?_⟩, h2, h3, h4⟩
 obtain ⟨v, rfl⟩ := hQ e w' h1
 obtain ⟨n, hn⟩ := h2
 exact Z2 P n _ _ hn
end Go.Proofs.YtijninlbpifonaaGreatDoor.Dr
/- What is shown by other means, more of it: answers stay. Conditions: those of each lemma. -/
namespace Go.Proofs.YtijninlbpifonaaGreatDoor.E
set_option linter.unusedVariables false
set_option linter.unusedSimpArgs false
variable {P : Program}
section
variable {pm : Nat → Nat → PM} {live outs : Nat → Nat → List Nat} {no no2 dr ow : Nat → Bool} {ext : Nat → List V → Option V} {extO extO2 : Nat → List V → Heap → Option (V × Heap)} {gh : Nat → Nat → List Gh} {dm : Nat → Nat → Bool}
theorem mE (rec : Rec) (f : Nat) (N : Option Nat) (ops : Array Oper) (o : Oper) (e : Env) (h : Heap) : vE P ⟨pm, live, outs, no, dr, ext, extO, ow, gh, dm⟩ rec f N ops o e h = vE P ⟨pm, live, outs, no2, dr, ext, extO2, ow, gh, dm⟩ rec f N ops o e h := rfl
theorem oV (rec : Rec) (f : Nat) (ops : Array Oper) (o : Oper) (e : Env) (h : Heap) : xC P ⟨pm, live, outs, no, dr, ext, extO, ow, gh, dm⟩ rec f ops o e h = xC P ⟨pm, live, outs, no2, dr, ext, extO2, ow, gh, dm⟩ rec f ops o e h := rfl
theorem mC (rec : Rec) (f : Nat) (ops : Array Oper) : ∀ (l : List Oper) (e : Env) (h : Heap), uU P ⟨pm, live, outs, no, dr, ext, extO, ow, gh, dm⟩ rec f ops l e h = uU P ⟨pm, live, outs, no2, dr, ext, extO2, ow, gh, dm⟩ rec f ops l e h
 | [], e, h => rfl
 | o :: l, e, h => by
  simp only [uU, oV (no2 := no2) (extO2 := extO2) (no := no) (extO := extO)]
  cases xC P ⟨pm, live, outs, no2, dr, ext, extO2, ow, gh, dm⟩ rec f ops o e h with
  | none => rfl
  | some x => exact mC rec f ops l x.1 x.2
theorem oS (rec : Rec) (f : Nat) (ops : Array Oper) : ∀ (l : List Oper) (e : Env) (h : Heap), xR P ⟨pm, live, outs, no, dr, ext, extO, ow, gh, dm⟩ rec f ops l e h = xR P ⟨pm, live, outs, no2, dr, ext, extO2, ow, gh, dm⟩ rec f ops l e h
 | [], e, h => rfl
 | o :: l, e, h => by
  simp only [xR, mE (no2 := no2) (extO2 := extO2) (no := no) (extO := extO)]
  cases vE P ⟨pm, live, outs, no2, dr, ext, extO2, ow, gh, dm⟩ rec f none ops o e h with
  | none => rfl
  | some x => exact oS rec f ops l x.1 x.2
theorem dH (rec : Rec) (f : Nat) (ops : Array Oper) : ∀ (Ns : List (Option Nat)) (l : List Oper) (e : Env) (h : Heap), evD P ⟨pm, live, outs, no, dr, ext, extO, ow, gh, dm⟩ rec f ops Ns l e h = evD P ⟨pm, live, outs, no2, dr, ext, extO2, ow, gh, dm⟩ rec f ops Ns l e h
 | [], [], e, h => rfl
 | [], _ :: _, e, h => rfl
 | _ :: _, [], e, h => rfl
 | N :: Ns, o :: l, e, h => by
  simp only [evD, mE (no2 := no2) (extO2 := extO2) (no := no) (extO := extO)]
  cases vE P ⟨pm, live, outs, no2, dr, ext, extO2, ow, gh, dm⟩ rec f N ops o e h with
  | none => rfl
  | some x => simp only [dH rec f ops Ns l x.1 x.2]
theorem dE (rec : Rec) (f : Nat) (ops : Array Oper) : ∀ (l : List Oper) (e : Env) (h : Heap), evR P ⟨pm, live, outs, no, dr, ext, extO, ow, gh, dm⟩ rec f ops l e h = evR P ⟨pm, live, outs, no2, dr, ext, extO2, ow, gh, dm⟩ rec f ops l e h
 | [], e, h => rfl
 | o :: l, e, h => by
  simp only [evR, oV (no2 := no2) (extO2 := extO2) (no := no) (extO := extO)]
  cases xC P ⟨pm, live, outs, no2, dr, ext, extO2, ow, gh, dm⟩ rec f ops o e h with
  | none => rfl
  | some x => simp only [dE rec f ops l x.1 x.2]
theorem pM (f : Nat) : ∀ (b : Nat) (l : List Oper), wy ⟨pm, live, outs, no, dr, ext, extO, ow, gh, dm⟩ f b l = wy ⟨pm, live, outs, no2, dr, ext, extO2, ow, gh, dm⟩ f b l
 | _, [] => rfl
 | b, o :: l => by
  simp only [wy, show yS ⟨pm, live, outs, no, dr, ext, extO, ow, gh, dm⟩ f o = yS ⟨pm, live, outs, no2, dr, ext, extO2, ow, gh, dm⟩ f o from rfl, pM f (b + 1) l, pM f b l]
theorem oY (f : Nat) : ∀ (l : List Oper), xN ⟨pm, live, outs, no, dr, ext, extO, ow, gh, dm⟩ f l = xN ⟨pm, live, outs, no2, dr, ext, extO2, ow, gh, dm⟩ f l
 | [] => rfl
 | o :: l => by
  simp only [xN, show yS ⟨pm, live, outs, no, dr, ext, extO, ow, gh, dm⟩ f o = yS ⟨pm, live, outs, no2, dr, ext, extO2, ow, gh, dm⟩ f o from rfl, oY f l]
theorem gW (rec : Rec) (f : Nat) (ops : Array Oper) (e : Env) (h : Heap) : vR P ⟨pm, live, outs, no, dr, ext, extO, ow, gh, dm⟩ rec f ops e h = vR P ⟨pm, live, outs, no2, dr, ext, extO2, ow, gh, dm⟩ rec f ops e h := by
 unfold vR
 rw [dH (no2 := no2) (extO2 := extO2), pM (no2 := no2) (extO2 := extO2), oY (no2 := no2) (extO2 := extO2)]
 rfl
theorem Uj (rec : Rec) (f : Nat) (ops : Array Oper) (e : Env) (h : Heap) : evZ P ⟨pm, live, outs, no, dr, ext, extO, ow, gh, dm⟩ rec f ops e h = evZ P ⟨pm, live, outs, no2, dr, ext, extO2, ow, gh, dm⟩ rec f ops e h := by
 unfold evZ
 rw [dE (no2 := no2) (extO2 := extO2)]
 rfl
theorem wX (rec : Rec) (f m : Nat) : ∀ (c : Code) (p : Nat) (e : Env) (h : Heap), evC P ⟨pm, live, outs, no, dr, ext, extO, ow, gh, dm⟩ rec f m c p e h = evC P ⟨pm, live, outs, no2, dr, ext, extO2, ow, gh, dm⟩ rec f m c p e h
 | .skip, p, e, h => rfl
 | .exit _, p, e, h => rfl
 | .ret, p, e, h => rfl
 | .seq a b, p, e, h => by
  simp only [evC, wX rec f m a (2 * p) e h]
  cases evC P ⟨pm, live, outs, no2, dr, ext, extO2, ow, gh, dm⟩ rec f m a (2 * p) e h with
  | none => rfl
  | some x =>
   obtain ⟨x, e', h'⟩ := x
   cases x with
   | normal => exact wX rec f m b (2 * p + 1) e' h'
   | _ => rfl
 | .cond c a b, p, e, h => by simp only [evC, wX rec f m a (2 * p) e h, wX rec f m b (2 * p + 1) e h]
 | .block id c, p, e, h => by simp only [evC, wX rec f m c (2 * p) e h]
 | .loop _, p, e, h => rfl
 | .region id ops draw, p, e, h => by
  simp only [evC, gW (no2 := no2) (extO2 := extO2) (no := no) (extO := extO), Uj (no2 := no2) (extO2 := extO2) (no := no) (extO := extO), oS (no2 := no2) (extO2 := extO2) (no := no) (extO := extO), mC (no2 := no2) (extO2 := extO2) (no := no) (extO := extO)]
  rfl
 | .rangeFunc _ _ _ _, p, e, h => rfl
 | .scope _, p, e, h => rfl
 | .label _, p, e, h => rfl
 | .goto _, p, e, h => rfl
 | .refuse _, p, e, h => rfl
theorem YV (hn : ∀ f, no2 f = true → no f = true) (hx : ∀ f, no f = true ∨ ∀ args h, extO2 f args h = extO f args h) (ho : ∀ f, no f = true → (∀ args h, extO2 f args h = extO f args h) ∨ ∀ args h, extO f args h = none) {rec rec2 : Rec} (hr : Le rec rec2) :
 Le (step P ⟨pm, live, outs, no, dr, ext, extO, ow, gh, dm⟩ rec) (step P ⟨pm, live, outs, no2, dr, ext, extO2, ow, gh, dm⟩ rec2) := by
 intro req r h
 refine (pE req).mono rec rec2 hr r ?_
 cases req with
 | call f args hp =>
  simp only [step] at h ⊢
  cases hxx : ext f args with
  | some v => rw [hxx] at h; exact h
  | none =>
   rw [hxx] at h
   simp only at h ⊢
   cases hf : P.funcs[f]? with
   | none => rw [hf] at h; cases h
   | some fn =>
    rw [hf] at h
    simp only at h ⊢
    cases hb : fn.body with
    | none => rw [hb] at h; cases h
    | some c =>
     rw [hb] at h
     simp only at h ⊢
     split at h
     · cases h
     · rename_i hc
       simp only [Bool.or_eq_true, not_or] at hc
       have hc2 : ¬ ((no2 f || fn.name == "runtime.NumGoroutine" || decide (fn.ntmps < args.length)) = true) := by
        simp only [Bool.or_eq_true, not_or]
        exact ⟨⟨fun x => hc.1.1 (hn f x), hc.1.2⟩, hc.2⟩
       rw [if_neg hc2, ← wX (no := no) (extO := extO)]
       exact h
 | callO gv f args hp =>
  simp only [step] at h ⊢
  by_cases hsame : ∀ args h, extO2 f args h = extO f args h
  · rw [hsame]
    cases hxx : extO f args hp with
    | some v => rw [hxx] at h; exact h
    | none =>
     rw [hxx] at h
     simp only at h ⊢
     cases hf : P.funcs[f]? with
     | none => rw [hf] at h; cases h
     | some fn =>
      rw [hf] at h
      simp only at h ⊢
      cases hb : fn.body with
      | none => rw [hb] at h; cases h
      | some c =>
       rw [hb] at h
       simp only at h ⊢
       split at h
       · cases h
       · rename_i hc
         simp only [Bool.or_eq_true, not_or] at hc
         have hc2 : ¬ ((no2 f || fn.name == "runtime.NumGoroutine" || decide (fn.ntmps < args.length)) = true) := by
          simp only [Bool.or_eq_true, not_or]
          exact ⟨⟨fun x => hc.1.1 (hn f x), hc.1.2⟩, hc.2⟩
         rw [if_neg hc2, ← wX (no := no) (extO := extO)]
         exact h
  · exfalso
    have hno : no f = true := (hx f).resolve_right hsame
    have hnx := (ho f hno).resolve_left hsame
    rw [hnx] at h
    simp only at h
    cases hf : P.funcs[f]? with
    | none => rw [hf] at h; cases h
    | some fn =>
     rw [hf] at h
     simp only at h
     cases hb : fn.body with
     | none => rw [hb] at h; cases h
     | some c =>
      rw [hb] at h
      simp only [hno, Bool.true_or, if_true] at h
      cases h
 | loop f p m vals hp =>
  simp only [step] at h ⊢
  cases hf : P.funcs[f]? with
  | none => rw [hf] at h; cases h
  | some fn =>
   rw [hf] at h
   simp only at h ⊢
   cases hb : fn.body with
   | none => rw [hb] at h; cases h
   | some c =>
    rw [hb] at h
    simp only at h ⊢
    split at h
    · rw [← wX (no := no) (extO := extO)]
      exact h
    · cases h
theorem ZP (hn : ∀ f, no2 f = true → no f = true) (hx : ∀ f, no f = true ∨ ∀ args h, extO2 f args h = extO f args h) (ho : ∀ f, no f = true → (∀ args h, extO2 f args h = extO f args h) ∨ ∀ args h, extO f args h = none) :
 ∀ n, Le (it P ⟨pm, live, outs, no, dr, ext, extO, ow, gh, dm⟩ n) (it P ⟨pm, live, outs, no2, dr, ext, extO2, ow, gh, dm⟩ n)
 | 0 => fun req r h => by cases h
 | n + 1 => YV hn hx ho (ZP hn hx ho n)
end
/-- what the evaluator answers stays, where more is shown by other means of functions that it did not enter -/
theorem Qh {pol : Pol} {no2 : Nat → Bool} {extO2 : Nat → List V → Heap → Option (V × Heap)} (hn : ∀ f, no2 f = true → pol.no f = true) (hx : ∀ f, pol.no f = true ∨ ∀ args h, extO2 f args h = pol.extO f args h) (ho : ∀ f, pol.no f = true → (∀ args h, extO2 f args h = pol.extO f args h) ∨ ∀ args h, pol.extO f args h = none)
 {req : Req} {r : xB} (h : EV P pol req = some r) : EV P { pol with no := no2, extO := extO2 } req = some r := by
 obtain ⟨pm, live, outs, no, dr, ext, extO, ow, gh, dm⟩ := pol
 obtain ⟨n, hn'⟩ := Sz h
 exact QP (ZP hn hx ho n req r hn')
end Go.Proofs.YtijninlbpifonaaGreatDoor.E
/- slices.SortFunc at texts of versions, by the kit's own contract: on rows; what is shown before stays. Conditions: those of each lemma. -/
namespace Go.Proofs.YtijninlbpifonaaGreatDoor
open E
set_option linter.unusedSimpArgs false
set_option linter.unusedVariables false
set_option maxRecDepth 100000
/-- a text of a version, not too long -/
def vok (s : Str) : Bool := isV s && decide (s.length ≤ 1048700)
abbrev VT := { s : Str // vok s = true }
instance : Inhabited VT := ⟨⟨[48, 46, 48, 46, 48], by decide +kernel⟩⟩
def o6 (x : VT) : Value := encStr x.1
def cfT (x y : VT) : Int := xi x.1 y.1
theorem VT.v (x : VT) : isV x.1 = true := by
 have := x.2
 unfold vok at this
 simp only [Bool.and_eq_true] at this
 exact this.1
theorem VT.l (x : VT) : x.1.length ≤ 1048700 := by
 have := x.2
 unfold vok at this
 simp only [Bool.and_eq_true, decide_eq_true_eq] at this
 exact this.2
theorem ltT (x y : VT) : ltOf cfT x y = decide (xi x.1 y.1 < 0) := rfl
theorem Qi : Go.Sort.SWO (ltOf cfT) where
 irrefl x := by
  rw [ltT]
  have := yp.refl x.v
  apply decide_eq_false; omega
 trans x y z h1 h2 := by
  rw [ltT] at *
  exact decide_eq_true (yp.trans _ _ _ x.v y.v z.v (of_decide_eq_true h1) (of_decide_eq_true h2))
 ntrans x y z h1 h2 := by
  rw [ltT] at *
  have k1 := of_decide_eq_false h1
  have k2 := of_decide_eq_false h2
  apply decide_eq_false
  intro h3
  by_cases e : xi x.1 y.1 = 0
  · have := yp.sep _ _ x.v y.v e
    rw [this] at h3
    exact k2 h3
  · have h4 := yp.anti _ _ x.v y.v
    exact k2 (yp.trans _ _ _ y.v x.v z.v (by omega) h3)
theorem totT (x y : VT) (h1 : ltOf cfT x y = false) (h2 : ltOf cfT y x = false) : x = y := by
 rw [ltT] at *
 have k1 := of_decide_eq_false h1
 have k2 := of_decide_eq_false h2
 have h4 := yp.anti _ _ x.v y.v
 exact Subtype.ext (yp.sep _ _ x.v y.v (by omega))
def vts (ks : List Str) (h : ks.all vok = true) : List VT := ks.attach.map fun x => ⟨x.1, List.all_eq_true.1 h x.1 x.2⟩
theorem iM (ks : List Str) (h : ks.all vok = true) : (vts ks h).map (·.1) = ks := by
 unfold vts
 rw [List.map_map]
 exact List.attach_map_subtype_val ks
theorem nv (ks : List Str) (h : ks.all vok = true) : (vts ks h).length = ks.length := by
 have := congrArg List.length (iM ks h)
 simpa using this
/-- versions in order -/
def xU (ks : List Str) (h : ks.all vok = true) : List Str := ((vts ks h).mergeSort fun x y => !(ltOf cfT) y x).map (·.1)
theorem pF (ks : List Str) (h : ks.all vok = true) : (xU ks h).length = ks.length := by
 unfold xU
 rw [List.length_map, List.length_mergeSort, nv]
theorem cJ (ks : List Str) (h : ks.all vok = true) : (xU ks h).Perm ks := by
 have h1 := (List.mergeSort_perm (vts ks h) fun x y => !(ltOf cfT) y x).map (·.1)
 rw [iM] at h1
 exact h1
theorem YZ (ks : List Str) (h : ks.all vok = true) : (xU ks h).Pairwise fun x y => xi x y ≤ 0 := by
 unfold xU
 rw [List.pairwise_map]
 have := List.pairwise_mergeSort (le := fun x y : VT => !(ltOf cfT) y x) (fun a b c h1 h2 => by
  simp only [Bool.not_eq_true'] at *
  exact Qi.ntrans _ _ _ h2 h1) (fun a b => by
  cases h1 : ltOf cfT b a with
  | false => rfl
  | true =>
   have h2 : ltOf cfT a b = false := by
    cases h3 : ltOf cfT a b with
    | false => rfl
    | true => have := Qi.trans _ _ _ h1 h3; rw [Qi.irrefl] at this; cases this
   rw [h2]; rfl) (vts ks h)
 refine this.imp fun {a b} hab => ?_
 simp only [Bool.not_eq_true', ltT] at hab
 have k1 := of_decide_eq_false hab
 have h4 := yp.anti _ _ b.v a.v
 omega
def gr (args : List V) (h : Heap) : Option (V × Heap) :=
 match args, h with
 | [.sl 0 0 n cap, .t (.fn g [])], [.ts 1 es] => match strsOf es with
  | some ks => if hk : ks.all vok = true then (if g = 97 ∧ n = ks.length ∧ ks.length ≤ 1073741824 then some (.tup [], [.ts 1 (strs (xU ks hk))]) else none) else none
  | none => none
 | _, _ => none
theorem Rr {W w' : World} (h1 : w'.os = W.os) (h2 : w'.tape = W.tape) (h3 : w'.output = W.output) (h4 : W.heap.size ≤ w'.heap.size) (h5 : ∀ b, b < W.heap.size → w'.heap[b]? = W.heap[b]?) (h6 : W.drawn ≤ w'.drawn) :
 w' = Go.Sort.grow (W.drewN (w'.drawn - W.drawn)) (w'.heap.extract W.heap.size w'.heap.size) := by
 have e : w'.heap = W.heap ++ w'.heap.extract W.heap.size w'.heap.size := by
  apply Array.ext_getElem?
  intro b
  by_cases hb : b < W.heap.size
  · rw [h5 b hb, Array.getElem?_append_left hb]
  · rw [Array.getElem?_append_right (by omega), Array.getElem?_extract]
    by_cases hb2 : b < w'.heap.size
    · rw [if_pos (by omega), show W.heap.size + (b - W.heap.size) = b by omega]
    · rw [if_neg (by omega), Array.getElem?_eq_none (by omega)]
 obtain ⟨hp, tp, dr, os, ou⟩ := w'
 obtain ⟨hp0, tp0, dr0, os0, ou0⟩ := W
 simp only at h1 h2 h3 h4 h6 e
 subst h1; subst h2; subst h3
 unfold Go.Sort.grow World.drewN
 simp only
 rw [← e, show dr0 + (dr - dr0) = dr by omega]
theorem Us {W0 : World} (hL : qw W0) {F : Nat → Prop} {w : World} (hB : wm W0 w F) {blk : Nat} (hblk : W0.heap.size ≤ blk) (off size : Nat) : CmpLays1 Tryz.prog 97 #[] o6 cfT blk off size w := by
 intro m os dk hs x y
 have hc := QO x.1 y.1 x.l y.l
 rw [Yg (yO x.v).2.2.1 (yO y.v).2.2.1] at hc
 change zk (EV Tryz.prog pol) 97 [.t (.str x.1), .t (.str y.1)] = some (.t (.int .i64 (cfT x y))) at hc
 have hv : EV Tryz.prog pol (.call 97 [.t (.str x.1), .t (.str y.1)] []) = some (.call (.t (.int .i64 (cfT x y))) []) := by
  unfold zk at hc
  split at hc
  · rename_i v hv
    cases hc
    exact hv
  · cases hc
 have hW : wm W0 (_root_.Go.Proofs.sortWorld o6 w blk off m dk os) (fun b => b < W0.heap.size) := by
  refine ⟨?_, fun b hb => hb, fun b hb => ?_⟩
  · have := hB.size
    unfold _root_.Go.Proofs.sortWorld Go.Sort.grow
    simp only [Array.size_append]
    have : (Go.Sort.putRow o6 (Go.Sort.ahead w m) blk off dk).heap.size = w.heap.size := by simp [Go.Sort.putRow, Go.Sort.mapBlock, Go.Sort.ahead]
    omega
  · have hs := hB.size
    have h0 : (Go.Sort.putRow o6 (Go.Sort.ahead w m) blk off dk).heap.size = w.heap.size := by simp [Go.Sort.putRow, Go.Sort.mapBlock, Go.Sort.ahead]
    unfold _root_.Go.Proofs.sortWorld Go.Sort.grow
    simp only
    rw [Array.getElem?_append_left (by omega), ← hB.heap b hb]
    unfold Go.Sort.putRow Go.Sort.mapBlock
    simp only
    rw [Array.getElem?_modify, if_neg (by omega)]
    rfl
 have h := Yx (Sa W0 hL) lL hv (_root_.Go.Proofs.sortWorld o6 w blk off m dk os) (fun b => b < W0.heap.size) #[o6 x, o6 y] hW (fun b hb => Nat.lt_of_lt_of_le hb hW.size) (.cons (.t _ _ (.str _ _ (by simp [o6]))) (.cons (.t _ _ (.str _ _ (by simp [o6]))) .nil))
 refine (Dr.gY h (by rintro e w' ⟨u, F', rfl, _⟩; exact ⟨u, rfl⟩)).mono ?_
 rintro e w' ⟨⟨u, F', rfl, hu, _, hN⟩, hd⟩
 cases hu with
 | t _ _ ht =>
  cases ht
  exact ⟨rfl, _, _, Rr hN.os hN.tape hN.output hN.size (fun b hb => hN.keep b hb (Nat.not_le.2 hb)) hd⟩
theorem S4 {w : World} {b o : Nat} {ks : List Str} (h : ks.all vok = true) (hH : Go.Sort.Holds encStr w b o ks.toArray) : Go.Sort.Holds o6 w b o (vts ks h).toArray := by
 intro j hj
 have hj' : j < ks.length := by rw [← nv ks h]; simpa using hj
 have hx := hH j (by simpa using hj')
 have hjv : j < (vts ks h).length := by rw [nv]; exact hj'
 have e : (vts ks h)[j].1 = ks[j] := by
  have h1 := congrArg (·[j]?) (iM ks h)
  simp only [List.getElem?_map, List.getElem?_eq_getElem hjv, List.getElem?_eq_getElem hj', Option.map_some] at h1
  exact Option.some.inj h1
 have e1 : ((vts ks h).toArray)[j]! = (vts ks h)[j] := by simp [hjv]
 have e2 : (ks.toArray)[j]! = ks[j] := by simp [hj']
 rw [e2] at hx
 rw [e1]
 unfold o6
 rw [e]
 exact hx
theorem VL (W0 : World) (hL : qw W0) : tI Tryz.prog W0 198 gr := by
 intro args h v h' hv
 unfold gr at hv
 split at hv
 · rename_i n cap g es
   split at hv
   · rename_i ks hks
     split at hv
     · rename_i hk
       split at hv
       · rename_i hn
         obtain ⟨rfl, hn, hlim⟩ := hn
         cases hv
         obtain rfl := uB hks
         refine ⟨⟨Tryz.f198, Tryz.func198, by kernel_rfl, by kernel_rfl⟩, fun Ow w F ρ us hB hS hO hu => ?_⟩
         obtain ⟨us⟩ := us
         change RVs w F ρ us _ at hu
         cases hu with
         | cons h1 h2 =>
         cases h2 with
         | cons h3 h4 =>
         cases h4
         cases h3 with
         | t _ _ h3 =>
         cases h3 with
         | fn _ _ vs hvs gg hgg hrr =>
         obtain rfl : vs = #[] := Array.eq_empty_of_size_eq_zero (by simpa using hvs)
         subst hn
         have htup' : ∀ {w' : World}, RV w' F ρ (.tuple #[]) (.tup []) := .tup _ _ (fun _ => undef) rfl (fun j hj => by simp at hj) fun j x hj => by simp at hj
         have none_case : ks = [] → ∀ (a : Option Addr) (c : Nat), Calls Tryz.prog 198 #[.slice a 0 c, .func (.func 97) #[] #[]] w fun e w' => ∃ u F' ρ', e = .returned u ∧ RV w' F' ρ' u (.tup []) ∧ St w' F' ρ' Ow [.ts 1 (strs (xU ks hk))] ∧ Nxt Ow w F zI w' F' zI ∧ ∀ r l, r < 1 → ρ r = some l → ρ' r = some l := fun hk0 a c => by
          subst hk0
          refine (AnyF.slices_SortFunc_none (P := Tryz.prog) (ρ := Tryz.vF) Tryz.nM a c (.func (.func 97) #[] #[]) w).mono fun e w' hp => ?_
          obtain ⟨rfl, rfl⟩ := hp
          have e0 : xU [] hk = [] := List.eq_nil_of_length_eq_zero (pF [] hk)
          exact ⟨_, F, ρ, rfl, htup', by rw [e0]; exact hS, Nxt.refl _ _ _ _, fun _ _ _ hl => hl⟩
         generalize hkl : ks.length = kl at h1
         cases h1 with
         | slP r cap a hρ hc => exact none_case (List.eq_nil_of_length_eq_zero hkl) a 0
         | sl r off len cap L a c hρ ha hl hnn hc0 hc1 hz =>
          by_cases hk0 : ks = []
          · subst hk0
            simp at hkl
            subst hkl
            exact none_case rfl a c
          · have hpos : 0 < ks.length := by cases ks with | nil => exact absurd rfl hk0 | cons x r => simp
            have hcne : c ≠ 0 := by omega
            obtain rfl := ha.resolve_right hcne
            obtain ⟨hH, hlt, q2, q3, hnF, hput⟩ := Z6 hS hk0 hρ
            have hge : W0.heap.size ≤ L.b := Nat.le_of_not_lt fun x => hnF (hB.F _ x)
            have hsz : (vts ks hk).toArray.size = ks.length := by simp [nv]
            have eg : ∀ args w, (callFunc 97 args).run Tryz.prog w = .ok (.enter 97 args) w := enters_of Tryz.func97 (by kernel_rfl) rfl
            refine Calls.mono (by
             have := Any.slices_SortFunc_total Tryz.lX o6 (fun _ => rfl) cfT Qi 97 #[] L.b L.o c (vts ks hk).toArray w eg (Us hL hB hge L.o _) (S4 hk hH) hlt (by omega) totT
             rw [hsz, hkl] at this
             rw [show L.o + 0 * L.sz = L.o by omega]
             exact this) fun e w' hp => ?_
            obtain ⟨rfl, q, os, hw'⟩ := hp
            unfold _root_.Go.Proofs.sortWorld at hw'
            rw [Lib.putRow_eq_setCells o6 w L.b L.o (vts ks hk).toArray _ q (S4 hk hH) (by simp)] at hw'
            have em : ((vts ks hk).toArray.toList.mergeSort fun x y => !(ltOf cfT) y x).map o6 = (xU ks hk).map encStr := by
             unfold xU
             rw [List.map_map]
             rfl
            rw [em] at hw'
            obtain ⟨hS3, hN3⟩ := hput (xU ks hk) q os w' (pF ks hk) hw'
            exact ⟨_, F, ρ, rfl, htup', hS3, hN3, fun _ _ _ hl => hl⟩
       · cases hv
     · cases hv
   · cases hv
 · cases hv
def tF (f : Nat) (args : List V) (h : Heap) : Option (V × Heap) := if f = 198 then gr args h else ug f args h
noncomputable def xp : Pol := { pol with no := cw.no, extO := tF }
theorem SX : ∀ f fn c, xp.no f = false → Tryz.prog.funcs[f]? = some fn → fn.body = some c → yM (po Tryz.prog xp f) fn.ntmps c = true := Zd
theorem Rw (W0 : World) (hL : qw W0) : nq Tryz.prog W0 xp := by
 refine ⟨(Sa W0 hL).p, fun g => ?_⟩
 intro args h v h' hv
 have hv' : tF g args h = some (v, h') := hv
 clear hv
 unfold tF at hv'
 by_cases hg : g = 198
 · subst hg
   rw [if_pos rfl] at hv'
   exact VL W0 hL args h v h' hv'
 · rw [if_neg hg] at hv'
   exact Y6 W0 hL g args h v h' hv'
theorem noS : ug 198 = fun _ _ => none := by
 funext args h
 unfold ug
 simp (config := { decide := true }) only [if_true, if_false, reduceIte]
theorem mO {req : Req} {r : xB} (h : EV Tryz.prog pol req = some r) : EV Tryz.prog xp req = some r := by
 refine Qh (pol := pol) (fun f hf => ?_) (fun f => ?_) (fun f hf => ?_) h
 · show (cw.no f || _) = true
   rw [hf]; rfl
 · by_cases hf : f = 198
   · left
     show (cw.no f || f == 198) = true
     rw [hf]; simp
   · right
     intro args hp
     show tF f args hp = ug f args hp
     unfold tF
     rw [if_neg hf]
 · by_cases hf' : f = 198
   · right
     intro args hp
     subst hf'
     show ug 198 args hp = none
     rw [noS]
   · left
     intro args hp
     show tF f args hp = ug f args hp
     unfold tF
     rw [if_neg hf']
theorem mP {g : Nat} {args : List V} {v : V} (h : zk (EV Tryz.prog pol) g args = some v) : zk (EV Tryz.prog xp) g args = some v := by
 unfold zk at h ⊢
 split at h
 · rename_i v' hv
   cases h
   rw [mO hv]
 · cases h
theorem yx : ∀ (rc : Rec) (f m p n : Nat) (fs : List Fr) (k : sK) (e : Env) (h : Heap) (l : List Oper), goC ⟨Tryz.prog, xp, rc, f, m⟩ (.region n l.toArray true) p fs k e h = goD ⟨Tryz.prog, xp, rc, f, m⟩ (l.all (ym xp f)) (o4 f && dmT f n) l fs k e h := fun _ _ _ _ _ _ _ _ _ _ => lp _ _ _ _ _ _ _ _ rfl
theorem LVS2 : ∀ f p, xp.live f p = zw f p := fun _ _ => rfl
theorem OVS2 : ∀ f p, xp.outs f p = zu f p := fun _ _ => rfl
theorem PMS2 : ∀ f d, xp.pm f d = pmT f d := fun _ _ => rfl
theorem OWS2 : ∀ f, xp.own f = o4 f := fun _ => rfl
theorem DMS2 : ∀ f n, xp.dm f n = dmT f n := fun _ _ => rfl
theorem GHS2 : ∀ f n, xp.gh f n = ghT f n := fun _ _ => rfl
theorem GS2 : type_of% @LVS2 ∧ type_of% @OVS2 ∧ type_of% @LTS ∧ type_of% @TYS ∧ type_of% @PMS2 ∧ type_of% @OWS2 ∧ type_of% @GHS2 ∧ type_of% @DMS2 ∧ type_of% @pmT.eq_1 ∧ type_of% @o4.eq_1 ∧ type_of% @ghT.eq_1 ∧ type_of% @dmT.eq_1 := ⟨@LVS2, @OVS2, @LTS, @TYS, @PMS2, @OWS2, @GHS2, @DMS2, @pmT.eq_1, @o4.eq_1, @ghT.eq_1, @dmT.eq_1⟩
theorem RR (ks : List Str) (hk : ks.all vok = true) (h : ks.length ≤ 1073741824) (n : Nat) (hn : n = ks.length) (cap : Option Nat) : EV Tryz.prog xp (.callO false 198 [.sl 0 0 n cap, .t (.fn 97 [])] [.ts 1 (strs ks)]) = some (.call (.tup []) [.ts 1 (strs (xU ks hk))]) :=
 pt (x := (.tup [], [.ts 1 (strs (xU ks hk))])) (by
  show tF 198 [.sl 0 0 n cap, .t (.fn 97 [])] [.ts 1 (strs ks)] = _
  unfold tF
  rw [if_pos rfl]
  simp only [gr, wO]
  rw [dif_pos hk, if_pos ⟨trivial, hn, h⟩])
end Go.Proofs.YtijninlbpifonaaGreatDoor

/- Joined: K37 K38 K41 V16 K39 K40 V17 K42 K43. Conditions: those of each lemma. -/
import Derived.Test.YtonbkdklidfmfaaGreatDoorjJ
import Derived.Test.YtonbkdklidfmfaaGreatDoorjL
set_option linter.unusedVariables false
set_option linter.unusedSimpArgs false
namespace Go.Proofs.YtonbkdklidfmfaaGreatDoor
open E
set_option linter.unusedSimpArgs false
set_option linter.unusedVariables false
set_option maxRecDepth 100000
theorem UT (keys : List Str) (hk : keys.length ≤ 1048576) (top : List Str) (hl : top.length ≤ 1048576) (cs : List z1) : ∀ (rest pre acc : List Str) (m : Nat), top = pre ++ rest → m = acc.length → m + rest.length ≤ 1073741824 →
 EV Tryz.prog pol (.loop 42 58 0 [.t (.list 1 (strs keys)), .ptr 0 0 0, .ptr 1 0 0, .ptr 2 0 0, .t (.int .i64 (pre.length : Int))] [.vs 2 [[.t (.list 1 (strs top)), .t (.list 6 (z1.zh cs))]], .vs 2 [zG], .vs 2 [[.sl 3 0 m none, .sl 4 0 0 none]], .ts 1 (strs acc), .ts 6 []])
  = some (.loop (.exit 0) [.t (.list 1 (strs keys)), .ptr 0 0 0, .ptr 1 0 0, .ptr 2 0 0] [.vs 2 [[.t (.list 1 (strs top)), .t (.list 6 (z1.zh cs))]], .vs 2 [zG], .vs 2 [[.sl 3 0 (acc ++ rest.filter (yj keys)).length none, .sl 4 0 0 none]], .ts 1 (strs (acc ++ rest.filter (yj keys))), .ts 6 []])
 | [], pre, acc, m, h, hm, hmM => by
  have c : decide ((pre.length : Int) < (top.length : Int)) = false := by simp [h]
  rw [List.filter_nil, List.append_nil, ← hm]
  simp only [zG]
  refine zk Tryz.func42 rfl rfl ?_
  simp (disch := ((try simp only [LL]); omega)) only [↓GO, ↓DRW, GA, GX, ren, zo, za, refs, z8, cst, zr, isC, bin, una, z7, zd, blt, asArg, zg, zc, zf, z6, E.mkS, unN, ze, zq, zb, GS, simprocAttr, GZ, c, zi, zH]
 | x :: rest, pre, acc, m, h, hm, hmM => by
  have c : decide ((pre.length : Int) < (top.length : Int)) = true := by simp [h]; omega
  have c0 : decide ((0 : Int) ≤ (pre.length : Int)) = true := by simp
  have hget : (strs top)[pre.length]? = some [.str x] := wT (by rw [h]; simp)
  have hlen : pre.length + rest.length + 1 ≤ top.length := by rw [h]; simp; omega
  have hsl : (strs acc).length = m := by rw [zi, hm]
  simp only [List.length_cons] at hmM
  have d1 := ZQ keys hk x
  rw [List.filter_cons]
  cases q : yj keys x with
  | true =>
   rw [q] at d1
   have IH := UT keys hk top hl cs rest (pre ++ [x]) (acc ++ [x]) (m + 1) (by rw [h]; simp) (by simp [hm]) (by omega)
   rw [show ((pre ++ [x]).length : Int) = (pre.length : Int) + 1 by simp, show strs (acc ++ [x]) = strs acc ++ [[.str x]] by simp [strs], List.append_assoc, show [x] ++ rest.filter (yj keys) = x :: rest.filter (yj keys) from rfl] at IH
   simp only [if_true, zG] at IH ⊢
   clear h hk
   generalize acc ++ x :: rest.filter (yj keys) = Z at *
   refine zk Tryz.func42 rfl rfl ?_
   simp (disch := ((try simp only [LL]); omega)) only [↓GO, ↓DRW, GA, GX, ren, zo, za, refs, z8, cst, zr, isC, bin, una, z7, zd, blt, asArg, zg, zc, zf, z6, E.mkS, unN, ze, zq, zb, GS, simprocAttr, GZ, c, c0, zi, hget, d1, zn, hsl, zH, IH, xb]
   refine x5 (by kernel_rfl) ?_
   first | exact IH | simp (disch := ((try simp only [LL]); omega)) only [↓GO, ↓DRW, GA, GX, ren, zo, za, refs, z8, cst, zr, isC, bin, una, z7, zd, blt, asArg, zg, zc, zf, z6, E.mkS, unN, ze, zq, zb, GS, simprocAttr, GZ, IH, zn, zH]
  | false =>
   rw [q] at d1
   have IH := UT keys hk top hl cs rest (pre ++ [x]) acc m (by rw [h]; simp) hm (by omega)
   rw [show ((pre ++ [x]).length : Int) = (pre.length : Int) + 1 by simp] at IH
   simp only [Bool.false_eq_true, if_false, zG] at IH ⊢
   clear h hk
   generalize acc ++ rest.filter (yj keys) = Z at *
   refine zk Tryz.func42 rfl rfl ?_
   simp (disch := ((try simp only [LL]); omega)) only [↓GO, ↓DRW, GA, GX, ren, zo, za, refs, z8, cst, zr, isC, bin, una, z7, zd, blt, asArg, zg, zc, zf, z6, E.mkS, unN, ze, zq, zb, GS, simprocAttr, GZ, c, c0, zi, hget, d1, zn, hsl, zH, IH, xb]
theorem UW (keys : List Str) (hk : keys.length ≤ 1048576) (gt gp : T) (cs : List z1) (hgp : gp = .list 6 (z1.zh cs)) (p : z1) (hnl : p.zC.length ≤ 1048576) (i : Nat) (hi : cs[i]? = some p) (e1 e2 e3 e4 e5 : T) (mt mp : Nat) (A B : List (List T)) : ∀ (rest pre acc : List Str) (m : Nat) (cap : Option Nat), p.zC = pre ++ rest → m = acc.length → m + rest.length ≤ 1073741824 → ∃ cap',
 EV Tryz.prog pol (.loop 42 125242 0 [.t (.list 1 (strs keys)), .ptr 0 0 0, .ptr 1 0 0, .ptr 2 0 0, .t (.int .i64 (i : Int)), .ptr 3 0 0, .t (.int .i64 (pre.length : Int))] [.vs 2 [[.t gt, .t gp]], .vs 2 [zG], .vs 2 [[.sl 4 0 mt none, .sl 5 0 mp none]], .vs 6 [[.t e1, .t e2, .t e3, .t e4, .t e5, .sl 6 0 m cap]], .ts 1 A, .ts 6 B, .ts 1 (strs acc)])
  = some (.loop (.exit 4) [.t (.list 1 (strs keys)), .ptr 0 0 0, .ptr 1 0 0, .ptr 2 0 0, .t (.int .i64 (i : Int)), .ptr 3 0 0] [.vs 2 [[.t gt, .t gp]], .vs 2 [zG], .vs 2 [[.sl 4 0 mt none, .sl 5 0 mp none]], .vs 6 [[.t e1, .t e2, .t e3, .t e4, .t e5, .sl 6 0 (acc ++ rest.filter (yj keys)).length cap']], .ts 1 A, .ts 6 B, .ts 1 (strs (acc ++ rest.filter (yj keys)))])
 | [], pre, acc, m, cap, h, hm, hmM => by
  have c : decide ((pre.length : Int) < (p.zC.length : Int)) = false := by simp [h]
  have ci : decide ((0 : Int) ≤ (i : Int)) = true := by simp
  have hpi : (z1.zh cs)[i]? = some p.enc := by unfold z1.zh; rw [List.getElem?_map, hi]; rfl
  have hil : i < cs.length := by have := List.getElem?_eq_some_iff.1 hi; exact this.1
  refine ⟨cap, ?_⟩
  rw [List.filter_nil, List.append_nil, ← hm]
  clear h hi hk
  obtain ⟨name, version, source, sums, dev, zC⟩ := p
  simp only [z1.enc, zG] at hpi c ⊢
  subst hgp
  refine zk Tryz.func42 rfl rfl ?_
  simp (disch := ((try simp only [LL]); omega)) only [↓GO, ↓DRW, GA, GX, ren, zo, za, refs, z8, cst, zr, isC, bin, una, z7, zd, blt, asArg, zg, zc, zf, z6, E.mkS, unN, ze, zq, zb, GS, simprocAttr, GZ, c, ci, zi, hpi, zH]
 | x :: rest, pre, acc, m, cap, h, hm, hmM => by
  have c : decide ((pre.length : Int) < (p.zC.length : Int)) = true := by simp [h]; omega
  have c0 : decide ((0 : Int) ≤ (pre.length : Int)) = true := by simp
  have ci : decide ((0 : Int) ≤ (i : Int)) = true := by simp
  have hpi : (z1.zh cs)[i]? = some p.enc := by unfold z1.zh; rw [List.getElem?_map, hi]; rfl
  have hget : (strs p.zC)[pre.length]? = some [.str x] := wT (by rw [h]; simp)
  have hlen : pre.length + rest.length + 1 ≤ p.zC.length := by rw [h]; simp; omega
  have hsl : (strs acc).length = m := by rw [zi, hm]
  simp only [List.length_cons] at hmM
  have d1 := ZQ keys hk x
  rw [List.filter_cons]
  cases q : yj keys x with
  | true =>
   rw [q] at d1
   obtain ⟨cap', IH⟩ := UW keys hk gt gp cs hgp p hnl i hi e1 e2 e3 e4 e5 mt mp A B rest (pre ++ [x]) (acc ++ [x]) (m + 1) none (by rw [h]; simp) (by simp [hm]) (by omega)
   rw [show ((pre ++ [x]).length : Int) = (pre.length : Int) + 1 by simp, show strs (acc ++ [x]) = strs acc ++ [[.str x]] by simp [strs], List.append_assoc, show [x] ++ rest.filter (yj keys) = x :: rest.filter (yj keys) from rfl] at IH
   simp only [if_true, zG] at IH ⊢
   refine ⟨cap', ?_⟩
   clear h hk hi
   generalize acc ++ x :: rest.filter (yj keys) = Z at *
   obtain ⟨name, version, source, sums, dev, zC⟩ := p
   simp only [z1.enc] at hpi c hget hlen hnl ⊢
   subst hgp
   refine zk Tryz.func42 rfl rfl ?_
   simp (disch := ((try simp only [LL]); omega)) only [↓GO, ↓DRW, GA, GX, ren, zo, za, refs, z8, cst, zr, isC, bin, una, z7, zd, blt, asArg, zg, zc, zf, z6, E.mkS, unN, ze, zq, zb, GS, simprocAttr, GZ, c, c0, ci, zi, hget, hpi, d1, zn, hsl, zH, IH, xb]
   refine x5 (by kernel_rfl) ?_
   first | exact IH | simp (disch := ((try simp only [LL]); omega)) only [↓GO, ↓DRW, GA, GX, ren, zo, za, refs, z8, cst, zr, isC, bin, una, z7, zd, blt, asArg, zg, zc, zf, z6, E.mkS, unN, ze, zq, zb, GS, simprocAttr, GZ, IH, zn, zH]
  | false =>
   rw [q] at d1
   obtain ⟨cap', IH⟩ := UW keys hk gt gp cs hgp p hnl i hi e1 e2 e3 e4 e5 mt mp A B rest (pre ++ [x]) acc m cap (by rw [h]; simp) hm (by omega)
   rw [show ((pre ++ [x]).length : Int) = (pre.length : Int) + 1 by simp] at IH
   simp only [Bool.false_eq_true, if_false, zG] at IH ⊢
   refine ⟨cap', ?_⟩
   clear h hk hi
   generalize acc ++ rest.filter (yj keys) = Z at *
   obtain ⟨name, version, source, sums, dev, zC⟩ := p
   simp only [z1.enc] at hpi c hget hlen hnl ⊢
   subst hgp
   refine zk Tryz.func42 rfl rfl ?_
   simp (disch := ((try simp only [LL]); omega)) only [↓GO, ↓DRW, GA, GX, ren, zo, za, refs, z8, cst, zr, isC, bin, una, z7, zd, blt, asArg, zg, zc, zf, z6, E.mkS, unN, ze, zq, zb, GS, simprocAttr, GZ, c, c0, ci, zi, hget, hpi, d1, zn, hsl, zH, IH, xb]
theorem gy (keys : List Str) (p : z1) (r : List z1) : xg keys (p :: r) = cond (yj keys (keyOf p)) (rJ keys p :: xg keys r) (xg keys r) := by
 unfold xg
 rw [List.filter_cons]
 cases yj keys (keyOf p) <;> rfl
theorem UU (keys : List Str) (hk : keys.length ≤ 1048576) (gt : T) (cs : List z1) (hl : cs.length ≤ 1048576) (hb : ∀ c ∈ cs, c.zY ≤ 1048576) (mt : Nat) (A : List (List T)) : ∀ (rest pre acc : List z1) (m : Nat), cs = pre ++ rest → m = acc.length → m + rest.length ≤ 1073741824 →
 EV Tryz.prog pol (.loop 42 122 0 [.t (.list 1 (strs keys)), .ptr 0 0 0, .ptr 1 0 0, .ptr 2 0 0, .t (.int .i64 (pre.length : Int))] [.vs 2 [[.t gt, .t (.list 6 (z1.zh cs))]], .vs 2 [zG], .vs 2 [[.sl 3 0 mt none, .sl 4 0 m none]], .ts 1 A, .ts 6 (z1.zh acc)])
  = some (.loop (.exit 2) [.ptr 0 0 0, .ptr 1 0 0] [.vs 2 [zG], .vs 2 [[.sl 2 0 mt none, .sl 3 0 (acc ++ xg keys rest).length none]], .ts 1 A, .ts 6 (z1.zh (acc ++ xg keys rest))])
 | [], pre, acc, m, h, hm, hmM => by
  have c : decide ((pre.length : Int) < (cs.length : Int)) = false := by simp [h]
  rw [show xg keys [] = [] from rfl, List.append_nil, ← hm]
  simp only [zG]
  refine zk Tryz.func42 rfl rfl ?_
  simp (disch := ((try simp only [LL]); omega)) only [↓GO, ↓DRW, GA, GX, ren, zo, za, refs, z8, cst, zr, isC, bin, una, z7, zd, blt, asArg, zg, zc, zf, z6, E.mkS, unN, ze, zq, zb, GS, simprocAttr, GZ, c, z1.zj, zH]
 | x :: rest, pre, acc, m, h, hm, hmM => by
  have c : decide ((pre.length : Int) < (cs.length : Int)) = true := by simp [h]; omega
  have c0 : decide ((0 : Int) ≤ (pre.length : Int)) = true := by simp
  have hix : cs[pre.length]? = some x := by rw [h]; simp
  have hget : (z1.zh cs)[pre.length]? = some x.enc := by rw [h]; simp [z1.zh]
  have hlen : pre.length + rest.length + 1 ≤ cs.length := by rw [h]; simp; omega
  have hsl : (z1.zh acc).length = m := by rw [z1.zj, hm]
  simp only [List.length_cons] at hmM
  have hxb := hb x (by rw [h]; simp)
  have d1 := oB x (by omega)
  have d2 := ZQ keys hk (keyOf x)
  have d3 := ga x hxb
  rw [gy]
  cases q : yj keys (keyOf x) with
  | true =>
   rw [q] at d2
   have IH := UU keys hk gt cs hl hb mt A rest (pre ++ [x]) (acc ++ [rJ keys x]) (m + 1) (by rw [h]; simp) (by simp [hm]) (by omega)
   have hnl : x.zC.length ≤ 1048576 := by unfold z1.zY at hxb; omega
   obtain ⟨cap', L⟩ := UW keys hk gt (.list 6 (z1.zh cs)) cs rfl x hnl pre.length hix (.str x.name) (.str x.version) (.str x.source) (.list 2 (zy.zh x.sums)) (.bool x.dev) mt m A (z1.zh acc) x.zC [] [] 0 (some 0) rfl rfl (by omega)
   rw [show ((pre ++ [x]).length : Int) = (pre.length : Int) + 1 by simp, uc, List.append_assoc, show [rJ keys x] ++ xg keys rest = rJ keys x :: xg keys rest from rfl] at IH
   simp only [cond_true, zG, List.nil_append, List.length_nil, Int.natCast_zero, show strs [] = [] from rfl] at IH L ⊢
   have ht : (strs (x.zC.filter (yj keys))).take (x.zC.filter (yj keys)).length = strs (x.zC.filter (yj keys)) := by rw [← zi (x.zC.filter (yj keys))]; simp
   generalize acc ++ rJ keys x :: xg keys rest = Z at *
   clear h hk hix hb hxb
   obtain ⟨name, version, source, sums, dev, zC⟩ := x
   simp only [z1.enc, rJ, List.map_cons, List.map_nil] at d1 d2 d3 hget IH L ht ⊢
   generalize zC.filter (yj keys) = nf at *
   refine zk Tryz.func42 rfl rfl ?_
   simp (disch := ((try simp only [LL]); omega)) only [↓GO, ↓DRW, GA, GX, ren, zo, za, refs, z8, cst, zr, isC, bin, una, z7, zd, blt, asArg, zg, zc, zf, z6, E.mkS, unN, ze, zq, zb, GS, simprocAttr, GZ, c, c0, z1.zj, hget, d1, d2, d3, L, ht, zn, hsl, zH, IH, xb]
  | false =>
   rw [q] at d2
   have IH := UU keys hk gt cs hl hb mt A rest (pre ++ [x]) acc m (by rw [h]; simp) hm (by omega)
   rw [show ((pre ++ [x]).length : Int) = (pre.length : Int) + 1 by simp] at IH
   simp only [cond_false, zG] at IH ⊢
   generalize acc ++ xg keys rest = Z at *
   clear h hk hix hb hxb
   obtain ⟨name, version, source, sums, dev, zC⟩ := x
   simp only [z1.enc, List.map_cons, List.map_nil] at d1 d2 d3 hget ⊢
   refine zk Tryz.func42 rfl rfl ?_
   simp (disch := ((try simp only [LL]); omega)) only [↓GO, ↓DRW, GA, GX, ren, zo, za, refs, z8, cst, zr, isC, bin, una, z7, zd, blt, asArg, zg, zc, zf, z6, E.mkS, unN, ze, zq, zb, GS, simprocAttr, GZ, c, c0, z1.zj, hget, d1, d2, zn, hsl, zH, IH, xb]
theorem R9 (g : zx) (hB : GB g) (keys : List Str) (hk : keys.length ≤ 1048576) : zm (EV Tryz.prog pol) 42 [.agg (g.enc.map .t), .t (.list 1 (strs keys))] = some (.agg ((uy g keys).enc.map .t)) := by
 have hb := hB.len
 obtain ⟨top, packs⟩ := g
 simp only at hb
 have L1 := UT keys hk top (by omega) packs top [] [] 0 rfl rfl (by omega)
 have L2 := UU keys hk (.list 1 (strs top)) packs (by omega) hb.2.2 (top.filter (yj keys)).length (strs (top.filter (yj keys))) packs [] [] 0 rfl rfl (by omega)
 have ht1 : (strs (top.filter (yj keys))).take (top.filter (yj keys)).length = strs (top.filter (yj keys)) := by rw [← zi (top.filter (yj keys))]; simp
 have ht2 : (z1.zh (xg keys packs)).take (xg keys packs).length = z1.zh (xg keys packs) := by rw [← z1.zj (xg keys packs)]; simp
 simp only [uy, zx.enc, List.map_cons, List.map_nil, zG, List.nil_append, List.length_nil, Int.natCast_zero, show strs [] = [] from rfl, show z1.zh [] = [] from rfl] at L1 L2 ⊢
 generalize top.filter (yj keys) = Z1 at *
 generalize xg keys packs = Z2 at *
 clear hB hb hk
 apply zu
 refine zw rfl Tryz.func42 rfl (by kernel_rfl) ?_
 unfold Tryz.f42
 simp (disch := ((try simp only [LL]); omega)) only [↓GO, ↓DRW, GA, GX, ren, zo, za, refs, z8, cst, zr, isC, bin, una, z7, zd, blt, asArg, zg, zc, zf, z6, E.mkS, unN, ze, zq, zb, GS, simprocAttr, zD, zE, yT, yN, yP, yO, yU, gh1, yM, yA, yG, zR, mkO, yH, yB, y7, yS, zK, yL, yK, y9, oc, oTs, oT, zO, zO.rowTs, yF, isL, Bool.not_false, Bool.true_and, Bool.and_true, Bool.and_self, List.flatMap_append, List.map_append, List.set_cons_zero, List.set_cons_succ, GZ, L1, L2, ht1, ht2, show vJ ([] : List (List T)) = true from rfl, zH]
theorem ky (ps : List z1) (w : List Str) : (yb ps w).length ≤ ps.length := by
 have e : wK (yr snS ps (w.length + muS ps []) [] w) = yb ps w := ma ps _ w
 have h1 := uU ps (w.length + muS ps []) [] w
 have h3 : uL ps [] ≤ ps.length := List.countP_le_length
 rw [← e, pX]
 simp only [List.length_nil] at h1
 omega
theorem Zu (g : zx) (hB : GB g) : zm (EV Tryz.prog pol) 38 [.agg (g.enc.map .t)] = some (.agg (g.enc.map .t)) := by
 have hb := hB.len
 obtain ⟨top, packs⟩ := g
 simp only at hb
 have t1 : (strs top).take top.length = strs top := by rw [← zi top]; simp
 cases packs with
 | nil =>
  have L : EV Tryz.prog pol (.loop 38 58 0 [.ptr 0 0 0, .ptr 1 0 0, .ptr 2 0 0, .t (.int .i64 0)] [.vs 2 [[.t (.list 1 (strs top)), .t (.list 6 [])]], .vs 2 [zG], .vs 2 [[.sl 3 0 top.length none, .nil 6]], .ts 1 (strs top)])
   = some (.loop (.exit 0) [.ptr 0 0 0, .ptr 1 0 0] [.vs 2 [zG], .vs 2 [[.sl 2 0 top.length none, .nil 6]], .ts 1 (strs top)]) := by
   simp only [zG]
   refine zk Tryz.func38 rfl rfl ?_
   simp (disch := ((try simp only [LL]); omega)) only [↓GO, ↓DRW, GA, GX, ren, zo, za, refs, z8, cst, zr, isC, bin, una, z7, zd, blt, asArg, zg, zc, zf, z6, E.mkS, unN, ze, zq, zb, GS, simprocAttr, GZ, zH, List.length_nil, Int.natCast_zero]
  simp only [zx.enc, z1.zh, List.map_cons, List.map_nil, zG] at L ⊢
  apply zu
  refine zw rfl Tryz.func38 rfl (by kernel_rfl) ?_
  unfold Tryz.f38
  simp (disch := ((try simp only [LL]); omega)) only [↓GO, ↓DRW, GA, GX, ren, zo, za, refs, z8, cst, zr, isC, bin, una, z7, zd, blt, asArg, zg, zc, zf, z6, E.mkS, unN, ze, zq, zb, GS, simprocAttr, GZ, L, t1, zi, zH, xb]
  try (refine x5 (by kernel_rfl) ?_; rfl)
 | cons x rest =>
  have hcx := ga x (hb.2.2 x (by simp))
  have L := Uy top (x :: rest) (by omega) (by omega) hb.2.2 rest [x] 1 rfl rfl
  have L0 : EV Tryz.prog pol (.loop 38 58 0 [.ptr 0 0 0, .ptr 1 0 0, .ptr 2 0 0, .t (.int .i64 0)] [.vs 2 [[.t (.list 1 (strs top)), .t (.list 6 (z1.zh (x :: rest)))]], .vs 2 [zG], .vs 2 [[.sl 3 0 top.length none, .nil 6]], .ts 1 (strs top)])
   = some (.loop (.exit 0) [.ptr 0 0 0, .ptr 1 0 0] [.vs 2 [zG], .vs 2 [[.sl 2 0 top.length none, .sl 3 0 (x :: rest).length none]], .ts 1 (strs top), .ts 6 (z1.zh (x :: rest))]) := by
   have c : decide ((0 : Int) < ((x :: rest).length : Int)) = true := by apply decide_eq_true; simp only [List.length_cons]; omega
   have hget : (z1.zh (x :: rest))[0]? = some x.enc := rfl
   rw [show z1.zh [x] = [x.enc] from rfl] at L
   obtain ⟨name, version, source, sums, dev, zC⟩ := x
   simp only [z1.enc, List.map_cons, List.map_nil, zG, List.length_cons, List.length_nil, Nat.zero_add] at hcx hget L ⊢
   generalize z1.mk name version source sums dev zC :: rest = cs at *
   refine zk Tryz.func38 rfl rfl ?_
   simp (disch := ((try simp only [LL]); omega)) only [↓GO, ↓DRW, GA, GX, ren, zo, za, refs, z8, cst, zr, isC, bin, una, z7, zd, blt, asArg, zg, zc, zf, z6, E.mkS, unN, ze, zq, zb, GS, simprocAttr, GZ, c, z1.zj, vZ, hget, hcx, zn, Int.reduceAdd, L, zH, xb, List.length_nil, Int.natCast_zero]
   try (refine x5 (by kernel_rfl) ?_; first | rfl | exact L)
  clear L
  have t2 : (z1.zh (x :: rest)).take (x :: rest).length = z1.zh (x :: rest) := by rw [← z1.zj (x :: rest)]; simp
  generalize x :: rest = cs at *
  simp only [zx.enc, List.map_cons, List.map_nil, zG] at L0 ⊢
  apply zu
  refine zw rfl Tryz.func38 rfl (by kernel_rfl) ?_
  unfold Tryz.f38
  simp (disch := ((try simp only [LL]); omega)) only [↓GO, ↓DRW, GA, GX, ren, zo, za, refs, z8, cst, zr, isC, bin, una, z7, zd, blt, asArg, zg, zc, zf, z6, E.mkS, unN, ze, zq, zb, GS, simprocAttr, GZ, L0, t1, t2, zi, zH, xb]
  try (refine x5 (by kernel_rfl) ?_; rfl)
theorem c_prR (g : zx) (hB : GB g) : zm (EV Tryz.prog pol) 29 [.agg (g.enc.map .t)] = some (.agg ((uo g).enc.map .t)) := by
 have d1 := hU g hB
 cases q : ym g with
 | true =>
  have hb := hB.len
  rw [q] at d1
  have d2 := c_reR g hB g.top (by omega) q
  have hk : (yb g.packs g.top).length ≤ 1048576 := Nat.le_trans (ky g.packs g.top) hb.1
  have d3 := R9 g hB (yb g.packs g.top) hk
  rw [dV q] at d3
  generalize uo g = Z at *
  clear hB hb hk q
  obtain ⟨top, packs⟩ := g
  obtain ⟨zt, zp⟩ := Z
  simp only [zx.enc, List.map_cons, List.map_nil] at d1 d2 d3 ⊢
  apply zu
  refine zw rfl Tryz.func29 rfl (by kernel_rfl) ?_
  unfold Tryz.f29
  simp (disch := ((try simp only [LL]); omega)) only [↓GO, ↓DRW, GA, GX, ren, zo, za, refs, z8, cst, zr, isC, bin, una, z7, zd, blt, asArg, zg, zc, zf, z6, E.mkS, unN, ze, zq, zb, GS, simprocAttr, GZ, d1, d2, d3, zH]
  try (refine x5 (by kernel_rfl) ?_; rfl)
 | false =>
  rw [q] at d1
  have d2 := Zu g hB
  rw [show uo g = g by unfold uo; rw [q]; rfl]
  clear hB q
  obtain ⟨top, packs⟩ := g
  simp only [zx.enc, List.map_cons, List.map_nil] at d1 d2 ⊢
  apply zu
  refine zw rfl Tryz.func29 rfl (by kernel_rfl) ?_
  unfold Tryz.f29
  simp (disch := ((try simp only [LL]); omega)) only [↓GO, ↓DRW, GA, GX, ren, zo, za, refs, z8, cst, zr, isC, bin, una, z7, zd, blt, asArg, zg, zc, zf, z6, E.mkS, unN, ze, zq, zb, GS, simprocAttr, GZ, d1, d2, zH]
end Go.Proofs.YtonbkdklidfmfaaGreatDoor
/- Graphs pruned, the program's way. Conditions: those of each lemma. -/
namespace Go.Proofs.YtonbkdklidfmfaaGreatDoor
open E
set_option linter.unusedSimpArgs false
set_option linter.unusedVariables false
set_option maxRecDepth 100000
theorem RR (keys : List Str) (hk : keys.length ≤ 1048576) (x : z1) (hb : x.zY ≤ 1048576) : zm (EV Tryz.prog pol) 80 (.agg (x.enc.map .t) :: [.t (.fp [.list 1 (strs keys)])]) = some (.t (.bool (!yj keys (keyOf x)))) := by
 have d1 := iZ x (by omega)
 have d2 := Rc keys hk (keyOf x)
 clear hb hk
 obtain ⟨name, version, source, sums, dev, zC⟩ := x
 simp only [z1.enc, List.map_cons, List.map_nil] at d1 d2 ⊢
 apply zu
 refine zw rfl Tryz.func80 rfl (by kernel_rfl) ?_
 unfold Tryz.f80
 simp (disch := ((try simp only [LL]); omega)) only [↓GO, ↓DRW, GA, GX, ren, zo, za, refs, z8, cst, zr, isC, bin, una, z7, zd, blt, asArg, zg, zc, zf, z6, E.mkS, unN, ze, zq, zb, GS, simprocAttr, GZ, d1, d2, zH]
 try (refine x5 (by kernel_rfl) ?_; first | rfl | simp (disch := ((try simp only [LL]); omega)) only [↓GO, ↓DRW, GA, GX, ren, zo, za, refs, z8, cst, zr, isC, bin, una, z7, zd, blt, asArg, zg, zc, zf, z6, E.mkS, unN, ze, zq, zb, GS, simprocAttr, GZ, d1, d2, zH])
theorem ug : ∀ l : List z1, vd (ocE (z1.zh l)) = some (z1.zh l)
 | [] => rfl
 | x :: l => by
  rw [show ocE (z1.zh (x :: l)) = x.enc.map oc :: ocE (z1.zh l) from rfl, show z1.zh (x :: l) = x.enc :: z1.zh l from rfl]
  have h : oTs (x.enc.map oc) = some x.enc := rfl
  simp only [vd, h, ug l]
theorem lT (keys : List Str) (ps : List z1) : (ps.filter fun x => !!yj keys (keyOf x)) = xe keys ps := by
 unfold xe
 congr 1
 funext x
 cases yj keys (keyOf x) <;> rfl
set_option maxHeartbeats 4000000 in
theorem cr (top : List Str) (p : z1) (rest : List z1) (hB : GB ⟨top, p :: rest⟩) (ho : ym ⟨top, p :: rest⟩ = true) :
 EV Tryz.prog pol (.callO false 25 [.agg [.t (.list 1 (strs top)), .t (.list 6 (z1.zh (p :: rest)))]] []) = some (.call (.agg [.sl 0 0 top.length none, .sl 1 0 (xe (yb (p :: rest) top) (p :: rest)).length none]) [.ts 1 (strs top), .vs 6 (ocE (z1.zh (xe (yb (p :: rest) top) (p :: rest))))]) := by
 have hb := hB.len
 simp only at hb
 have hcp := nk top p rest (by omega) (by omega) hb.2.2
 have d1 := sW _ hB
 rw [ho] at d1
 have d2 := R6 _ hB top (by omega) ho
 simp only at d2
 have hkl := ky (p :: rest) top
 generalize hcs : p :: rest = cs at *
 generalize yb cs top = keys at *
 obtain ⟨J', hJr, hJ', d3⟩ := Q2 80 (.list 1 (strs keys)) (fun x => !yj keys (keyOf x)) cs (by omega) (fun x hx => RR keys (by omega) x (hb.2.2 x hx)) cs.length rfl none
 rw [lT] at d3 hJ'
 generalize xe keys cs = Z at *
 have hZl : (ocE (z1.zh Z)).length = Z.length := by rw [zT, z1.zj]
 have htk : (ocE (z1.zh Z) ++ J').take Z.length = ocE (z1.zh Z) := by rw [← hZl]; simp
 have hle : Z.length ≤ (ocE (z1.zh Z) ++ J').length := by rw [List.length_append, hZl]; omega
 have ht1 : (strs top).take top.length = strs top := by rw [← zi top]; simp
 have f2 := ve Z
 have hA := xF (x8 Z) hJr
 obtain ⟨h1, h2, _⟩ := hA
 simp only [zx.enc, List.map_cons, List.map_nil] at d1 d2
 clear hB hb ho hkl hJ' hcs hJr
 have hot : vd (ocE (z1.zh Z)) = some (z1.zh Z) := ug Z
 have hoc : (z1.zh Z).map (fun e => e.map oc) = ocE (z1.zh Z) := rfl
 by_cases hq : (ocE (z1.zh Z) ++ J').length = Z.length
 · have hE : ocE (z1.zh Z) ++ J' = ocE (z1.zh Z) := by have h := htk; rw [List.take_of_length_le (by omega)] at h; exact h
   rw [hE] at d3
   refine zP Tryz.func25 rfl (by kernel_rfl) ?_
   unfold Tryz.f25
   simp (disch := ((try simp only [LL]); omega)) only [↓GO, ↓DRW, GA, GX, ren, zo, za, refs, z8, cst, zr, isC, bin, una, z7, zd, blt, asArg, zg, zc, zf, z6, E.mkS, unN, ze, zq, zb, GS, simprocAttr, zD, zE, yT, yN, yP, yO, yU, gh1, yM, yA, yG, zR, mkO, yH, yB, y7, yS, zK, yL, yK, y9, oc, oTs, oT, zO, zO.rowTs, yF, isL, Bool.not_false, Bool.true_and, Bool.and_true, Bool.and_self, List.flatMap_append, List.map_append, List.set_cons_zero, List.set_cons_succ, GZ, hcp, d1, d2, d3, hot, hoc, ht1, f2, y6, zU, zT, z1.zj, List.drop_zero, wx, zH]
 · generalize ocE (z1.zh Z) ++ J' = E1 at *
   have hq' : (E1.length = Z.length) = False := eq_false hq
   refine zP Tryz.func25 rfl (by kernel_rfl) ?_
   unfold Tryz.f25
   simp (disch := ((try simp only [LL]); omega)) only [↓GO, ↓DRW, GA, GX, ren, zo, za, refs, z8, cst, zr, isC, bin, una, z7, zd, blt, asArg, zg, zc, zf, z6, E.mkS, unN, ze, zq, zb, GS, simprocAttr, zD, zE, yT, yN, yP, yO, yU, gh1, yM, yA, yG, zR, mkO, yH, yB, y7, yS, zK, yL, yK, y9, oc, oTs, oT, zO, zO.rowTs, yF, isL, Bool.not_false, Bool.true_and, Bool.and_true, Bool.and_self, List.flatMap_append, List.map_append, List.set_cons_zero, List.set_cons_succ, GZ, hcp, d1, d2, d3, h1, h2, hq', htk, hle, hot, hoc, ht1, f2, y6, zU, zT, z1.zj, List.drop_zero, wx, zH]
theorem Q1 (g : Nat) (cell : T) : EV Tryz.prog pol (.callO false 50 [.nil 6, .fn g [.ptr 0 0 0]] [.vs 1 [[.t cell]]]) = some (.call (.nil 6) [.vs 1 [[.t cell]]]) := by
 have d1 := vz g [.fp [cell]] (fun _ => false) [] (by simp) (fun x hx => by simp at hx)
 rw [show ixI (xN (fun _ => false) ([] : List z1) 0) = -1 from rfl, show z1.zh [] = [] from rfl] at d1
 refine zP Tryz.func50 rfl (by kernel_rfl) ?_
 unfold Tryz.f50
 simp (disch := ((try simp only [LL]); omega)) only [↓GO, ↓DRW, GA, GX, ren, zo, za, refs, z8, cst, zr, isC, bin, una, z7, zd, blt, asArg, zg, zc, zf, z6, E.mkS, unN, ze, zq, zb, GS, simprocAttr, zD, zE, yT, yN, yP, yO, yU, gh1, yM, yA, yG, zR, mkO, yH, yB, y7, yS, zK, yL, yK, y9, oc, oTs, oT, zO, zO.rowTs, yF, isL, Bool.not_false, Bool.true_and, Bool.and_true, Bool.and_self, List.flatMap_append, List.map_append, List.set_cons_zero, List.set_cons_succ, GZ, d1, wx, List.drop_zero, beq_self_eq_true, zH]
theorem Yy (top : List Str) (hB : GB ⟨top, []⟩) (ho : ym ⟨top, []⟩ = true) :
 EV Tryz.prog pol (.callO false 25 [.agg [.t (.list 1 (strs top)), .t (.list 6 (z1.zh []))]] []) = some (.call (.agg [.sl 0 0 top.length none, .sl 1 0 (xe (yb [] top) []).length none]) [.ts 1 (strs top), .vs 6 (ocE (z1.zh (xe (yb [] top) [])))]) := by
 have hb := hB.len
 simp only at hb
 have hcp := mL top (by omega)
 have d1 := sW _ hB
 rw [ho] at d1
 have d2 := R6 _ hB top (by omega) ho
 simp only at d2
 rw [show xe (yb [] top) [] = [] from rfl]
 have d3 := Q1 80 (.list 1 (strs (yb [] top)))
 generalize yb [] top = keys at *
 simp only [zx.enc, List.map_cons, List.map_nil, show z1.zh [] = [] from rfl, show ocE [] = [] from rfl, List.length_nil] at d1 d2 ⊢
 have ht1 : (strs top).take top.length = strs top := by rw [← zi top]; simp
 clear hB hb ho
 refine zP Tryz.func25 rfl (by kernel_rfl) ?_
 unfold Tryz.f25
 simp (disch := ((try simp only [LL]); omega)) only [↓GO, ↓DRW, GA, GX, ren, zo, za, refs, z8, cst, zr, isC, bin, una, z7, zd, blt, asArg, zg, zc, zf, z6, E.mkS, unN, ze, zq, zb, GS, simprocAttr, zD, zE, yT, yN, yP, yO, yU, gh1, yM, yA, yG, zR, mkO, yH, yB, y7, yS, zK, yL, yK, y9, oc, oTs, oT, zO, zO.rowTs, yF, isL, Bool.not_false, Bool.true_and, Bool.and_true, Bool.and_self, List.flatMap_append, List.map_append, List.set_cons_zero, List.set_cons_succ, GZ, hcp, d1, d2, d3, ht1, List.drop_zero, wx, zH]
end Go.Proofs.YtonbkdklidfmfaaGreatDoor
/- slices.DeleteFunc at packs that own their memory, the function without what it has from outside. Conditions: those of each lemma. -/
namespace Go.Proofs.YtonbkdklidfmfaaGreatDoor
open E
set_option linter.unusedSimpArgs false
set_option linter.unusedVariables false
set_option maxRecDepth 100000
set_option maxHeartbeats 4000000 in
theorem bq (g : Nat) (p : z1 → Bool) (l : List z1) (hl : l.length ≤ 1048576) (hp : ∀ x ∈ l, zm (EV Tryz.prog pol) g (.agg (x.enc.map .t) :: []) = some (.t (.bool (p x)))) (n : Nat) (hn : n = l.length) (cap : Option Nat) :
 ∀ (R K : List z1) (J : List (List V)), (∀ x ∈ R, x ∈ l) → 1 ≤ J.length → noR J → K.length + J.length + R.length = l.length → ∃ J', noR J' ∧ (K ++ R.filter fun x => !p x).length + J'.length = l.length ∧
 EV Tryz.prog pol (.loop 50 122 1 [.sl 0 0 n cap, .t (.fn g []), .t (.int .i64 (K.length : Int)), .t (.int .i64 ((K.length + J.length : Nat) : Int))] [.vs 6 (ocE (z1.zh K) ++ J ++ ocE (z1.zh R))])
  = some (.loop (.exit 0) [.sl 0 0 n cap, .t (.int .i64 ((K ++ R.filter fun x => !p x).length : Int))] [.vs 6 (ocE (z1.zh (K ++ R.filter fun x => !p x)) ++ J')])
 | [], K, J, hR, hJ, hJr, hlen => by
  have c : decide (((K.length + J.length : Nat) : Int) < (n : Int)) = false := by simp at hlen; apply decide_eq_false; omega
  refine ⟨J, hJr, by simp at hlen; simpa using hlen, ?_⟩
  have hE := xF (x8 K) hJr
  simp only [List.filter_nil, List.append_nil, show ocE (z1.zh []) = [] from rfl]
  obtain ⟨h1, h2, _⟩ := hE
  generalize ocE (z1.zh K) ++ J = E0 at *
  refine zk Tryz.func50 rfl rfl ?_
  simp (disch := ((try simp only [LL]); omega)) only [↓GO, ↓DRW, GA, GX, ren, zo, za, refs, z8, cst, zr, isC, bin, una, z7, zd, blt, asArg, zg, zc, zf, z6, E.mkS, unN, ze, zq, zb, GS, simprocAttr, zD, zE, yT, yN, yP, yO, yU, gh1, yM, yA, yG, zR, mkO, yH, yB, y7, yS, zK, yL, yK, y9, oc, oTs, oT, zO, zO.rowTs, yF, isL, Bool.not_false, Bool.true_and, Bool.and_true, Bool.and_self, List.flatMap_append, List.map_append, List.set_cons_zero, List.set_cons_succ, GZ, c, h1, h2, zH]
 | x :: R, K, J, hR, hJ, hJr, hlen => by
  simp only [List.length_cons] at hlen
  have c : decide (((K.length + J.length : Nat) : Int) < (n : Int)) = true := by apply decide_eq_true; omega
  have c0 : decide ((0 : Int) ≤ ((K.length + J.length : Nat) : Int)) = true := by apply decide_eq_true; omega
  have c00 : (0 : Int) ≤ ((K.length + J.length : Nat) : Int) := by omega
  have c1 : decide ((0 : Int) ≤ (K.length : Int)) = true := by apply decide_eq_true; omega
  have c11 : (0 : Int) ≤ (K.length : Int) := by omega
  have c2 : decide ((K.length : Int) < (n : Int)) = true := by apply decide_eq_true; omega
  have d1 := hp x (hR x (by simp))
  have hkl : K.length + J.length ≤ 1048576 := by omega
  have hPl : (ocE (z1.zh K) ++ J).length = K.length + J.length := by rw [List.length_append, zT, z1.zj]
  have hPr := xF (x8 K) hJr
  have hBr := x8 R
  have hf1 := xl x.sums
  have hf2 := yq x.zC
  have hs1 := zy.zj x.sums
  have hs2 := zi x.zC
  rw [dC, List.filter_cons]
  cases q : p x with
  | true =>
   rw [q] at d1
   obtain ⟨J', hJ1, hJ2, IH⟩ := bq g p l hl hp n hn cap R K (J ++ [fgP x]) (fun y hy => hR y (by simp [hy])) (by simp) (xF hJr (oy x)) (by simp; omega)
   rw [show ocE (z1.zh K) ++ (J ++ [fgP x]) ++ ocE (z1.zh R) = (ocE (z1.zh K) ++ J) ++ fgP x :: ocE (z1.zh R) by simp, show ((K.length + (J ++ [fgP x]).length : Nat) : Int) = ((K.length + J.length : Nat) : Int) + 1 by simp; omega] at IH
   refine ⟨J', hJ1, by simpa using hJ2, ?_⟩
   simp only [Bool.not_true, Bool.false_eq_true, if_false]
   obtain ⟨hP1, hP2, _⟩ := hPr
   obtain ⟨hB1, hB2, _⟩ := hBr
   have hg := fun y => xH (ocE (z1.zh K) ++ J) (ocE (z1.zh R)) y (K.length + J.length) hPl
   have hs := fun y z => xt (ocE (z1.zh K) ++ J) (ocE (z1.zh R)) y z (K.length + J.length) hPl
   obtain ⟨name, version, source, sums, dev, zC⟩ := x
   simp only [fgP, z1.enc, List.map_cons, List.map_nil] at d1 IH hf1 hf2 hs1 hs2 ⊢
   clear hJ hlen hJr hJ1 hJ2 hp hR
   generalize ocE (z1.zh (K ++ R.filter fun x => !p x)) ++ J' = Z at *
   generalize (K ++ R.filter fun x => !p x).length = zl at *
   generalize ocE (z1.zh K) ++ J = P at *
   generalize ocE (z1.zh R) = B at *
   generalize zy.zh sums = es1 at *
   generalize strs zC = es2 at *
   have hk1 := List.take_of_length_le (Nat.le_of_eq hs1)
   have hk2 := List.take_of_length_le (Nat.le_of_eq hs2)
   generalize sums.length = n1 at *
   generalize zC.length = n2 at *
   generalize K.length = kl at *
   generalize hkj : kl + J.length = kj at *
   refine zk Tryz.func50 rfl rfl ?_
   simp (disch := ((try simp only [LL]); omega)) only [↓GO, ↓DRW, GA, GX, ren, zo, za, refs, z8, cst, zr, isC, bin, una, z7, zd, blt, asArg, zg, zc, zf, z6, E.mkS, unN, ze, zq, zb, GS, simprocAttr, zD, zE, yT, yN, yP, yO, yU, gh1, yM, yA, yG, zR, mkO, yH, yB, y7, yS, zK, yL, yK, y9, oc, oTs, oT, zO, zO.rowTs, yF, isL, Bool.not_false, Bool.true_and, Bool.and_true, Bool.and_self, List.flatMap_append, List.map_append, List.set_cons_zero, List.set_cons_succ, GZ, c, c0, c00, if_true, Int.toNat_natCast, hg, hs, hf1, hf2, hs1, hs2, hk1, hk2, d1, hP1, hP2, hB1, hB2, zn, Bool.not_true, zH, IH]
  | false =>
   rw [q] at d1
   obtain ⟨j0, Jt, rfl⟩ : ∃ j0 Jt, J = j0 :: Jt := by cases J with | nil => simp at hJ | cons a t => exact ⟨a, t, rfl⟩
   have hJt := ea hJr
   obtain ⟨J', hJ1, hJ2, IH⟩ := bq g p l hl hp n hn cap R (K ++ [x]) (Jt ++ [fgP x]) (fun y hy => hR y (by simp [hy])) (by simp) (xF hJt (oy x)) (by simp at hlen ⊢; omega)
   rw [show ocE (z1.zh (K ++ [x])) ++ (Jt ++ [fgP x]) ++ ocE (z1.zh R) = (ocE (z1.zh K) ++ [V.t (.str x.name), .t (.str x.version), .t (.str x.source), .o (.list 2 (zy.zh x.sums)), .t (.bool x.dev), .o (.list 1 (strs x.zC))] :: Jt) ++ fgP x :: ocE (z1.zh R) by rw [wB, show ocE (z1.zh [x]) = [[V.t (.str x.name), .t (.str x.version), .t (.str x.source), .o (.list 2 (zy.zh x.sums)), .t (.bool x.dev), .o (.list 1 (strs x.zC))]] from rfl]; simp,
    show ((K ++ [x]).length : Int) = (K.length : Int) + 1 by simp, show (((K ++ [x]).length + (Jt ++ [fgP x]).length : Nat) : Int) = ((K.length + (j0 :: Jt).length : Nat) : Int) + 1 by simp; omega] at IH
   refine ⟨J', hJ1, by simpa using hJ2, ?_⟩
   simp only [Bool.not_false, if_true]
   rw [show K ++ x :: R.filter (fun x => !p x) = (K ++ [x]) ++ R.filter fun x => !p x by simp]
   have hj1 : refs.refss j0 = [] := by have := hJr.1; rw [List.flatMap_cons, List.append_eq_nil_iff] at this; exact this.1
   have hj2 : ∀ f, ren.rens f j0 = j0 := fun f => by have := hJr.2.1 f; rw [List.map_cons] at this; exact (List.cons.inj this).1
   obtain ⟨hB1, hB2, _⟩ := hBr
   have hKl : (ocE (z1.zh K)).length = K.length := by rw [zT, z1.zj]
   have hA := x8 K
   have hQl : ∀ z, (ocE (z1.zh K) ++ z :: Jt).length = K.length + (j0 :: Jt).length := fun z => by simp [zT, z1.zj]
   have hg3 := fun z y => xH (ocE (z1.zh K) ++ z :: Jt) (ocE (z1.zh R)) y (K.length + (j0 :: Jt).length) (hQl z)
   have hs4 := fun z y y' => xt (ocE (z1.zh K) ++ z :: Jt) (ocE (z1.zh R)) y y' (K.length + (j0 :: Jt).length) (hQl z)
   have hs2' : ∀ y z, (ocE (z1.zh K) ++ j0 :: Jt ++ y :: ocE (z1.zh R)).set K.length z = (ocE (z1.zh K) ++ z :: Jt) ++ y :: ocE (z1.zh R) := fun y z => by
    rw [List.append_assoc, List.cons_append, xt _ _ _ _ _ hKl, List.append_assoc, List.cons_append]
   have hg2' : ∀ y z, ((ocE (z1.zh K) ++ z :: Jt) ++ y :: ocE (z1.zh R))[K.length]? = some z := fun y z => by rw [List.append_assoc, List.cons_append]; exact xH _ _ _ _ hKl
   have hs3' : ∀ y z z', ((ocE (z1.zh K) ++ z :: Jt) ++ y :: ocE (z1.zh R)).set K.length z' = (ocE (z1.zh K) ++ z' :: Jt) ++ y :: ocE (z1.zh R) := fun y z z' => by
    rw [List.append_assoc, List.cons_append, xt _ _ _ _ _ hKl, List.append_assoc, List.cons_append]
   obtain ⟨Q, hQ⟩ : ∃ Q : List V → List (List V), ∀ z, Q z = ocE (z1.zh K) ++ z :: Jt := ⟨_, fun _ => rfl⟩
   have hQ1 : ∀ z, (Q z).flatMap refs.refss = refs.refss z := fun z => by rw [hQ, List.flatMap_append, List.flatMap_cons, hA.1, hJt.1]; simp
   have hQ2 : ∀ z f, (Q z).map (ren.rens f) = Q (ren.rens f z) := fun z f => by rw [hQ, hQ, List.map_append, List.map_cons, hA.2.1, hJt.2.1]
   have hj0l : j0.length = 6 := hJr.2.2 j0 (by simp)
   have hj6 : 6 ≤ j0.length := by omega
   have hd6 : j0.drop 6 = [] := List.drop_of_length_le (by omega)
   clear hj0l
   simp only [← hQ] at hg3 hs4 hs2' hg2' hs3' IH ⊢
   clear hQ hQl hJt hA hKl hPr hPl
   obtain ⟨name, version, source, sums, dev, zC⟩ := x
   simp only [fgP, z1.enc, List.map_cons, List.map_nil] at d1 IH hf1 hf2 hs1 hs2 ⊢
   clear hJ hlen hJr hJ1 hJ2 hp hR
   generalize ocE (z1.zh ((K ++ [z1.mk name version source sums dev zC]) ++ R.filter fun x => !p x)) ++ J' = Z at *
   generalize ((K ++ [z1.mk name version source sums dev zC]) ++ R.filter fun x => !p x).length = zl at *
   generalize ocE (z1.zh R) = B at *
   generalize zy.zh sums = es1 at *
   generalize strs zC = es2 at *
   have hk1 := List.take_of_length_le (Nat.le_of_eq hs1)
   have hk2 := List.take_of_length_le (Nat.le_of_eq hs2)
   generalize sums.length = n1 at *
   generalize zC.length = n2 at *
   generalize K.length = kl at *
   generalize hkj : kl + (j0 :: Jt).length = kj at *
   have hkk : ¬ (kl = kj) := by rw [← hkj]; simp
   refine zk Tryz.func50 rfl rfl ?_
   simp (maxSteps := 1000000) (disch := ((try simp only [LL]); omega)) only [↓GO, ↓DRW, GA, GX, ren, zo, za, refs, z8, cst, zr, isC, bin, una, z7, zd, blt, asArg, zg, zc, zf, z6, E.mkS, unN, ze, zq, zb, GS, simprocAttr, zD, zE, yT, yN, yP, yO, yU, gh1, yM, yA, yG, zR, mkO, yH, yB, y7, yS, zK, yL, yK, y9, oc, oTs, oT, zO, zO.rowTs, yF, isL, Bool.not_false, Bool.true_and, Bool.and_true, Bool.and_self, List.flatMap_append, List.map_append, List.set_cons_zero, List.set_cons_succ, GZ, c, c0, c00, c1, c11, c2, if_true, Int.toNat_natCast, hg2', hs3', hg3, hs4, hQ1, hQ2, hj1, hj2, hj6, hd6, hf1, hf2, hs1, hs2, hk1, hk2, d1, hB1, hB2, zn, Bool.not_false, zH, IH]
theorem UK (g : Nat) (p : z1 → Bool) (l : List z1) (hl : l.length ≤ 1048576) (hp : ∀ x ∈ l, zm (EV Tryz.prog pol) g (.agg (x.enc.map .t) :: []) = some (.t (.bool (p x)))) (n : Nat) (hn : n = l.length) (cap : Option Nat) :
 ∃ J', noR J' ∧ (l.filter fun x => !p x).length + J'.length = l.length ∧
 EV Tryz.prog pol (.callO false 50 [.sl 0 0 n cap, .t (.fn g [])] [.vs 6 (ocE (z1.zh l))])
  = some (.call (.sl 0 0 (l.filter fun x => !p x).length cap) [.vs 6 (ocE (z1.zh (l.filter fun x => !p x)) ++ J')]) := by
 have d1 := vz g [] p l (by omega) hp
 have ht : (ocE (z1.zh l)).take n = ocE (z1.zh l) := List.take_of_length_le (by rw [zT, z1.zj]; omega)
 have f2 := ve l
 cases hf : xN p l 0 with
 | none =>
  rw [hf] at d1
  have hw := Z9 p l hf
  refine ⟨[], pC, by rw [hw]; simp, ?_⟩
  rw [hw, List.append_nil, ← hn]
  simp only [ixI] at d1
  refine zP Tryz.func50 rfl (by kernel_rfl) ?_
  unfold Tryz.f50
  simp (disch := ((try simp only [LL]); omega)) only [↓GO, ↓DRW, GA, GX, ren, zo, za, refs, z8, cst, zr, isC, bin, una, z7, zd, blt, asArg, zg, zc, zf, z6, E.mkS, unN, ze, zq, zb, GS, simprocAttr, zD, zE, yT, yN, yP, yO, yU, gh1, yM, yA, yG, zR, mkO, yH, yB, y7, yS, zK, yL, yK, y9, oc, oTs, oT, zO, zO.rowTs, yF, isL, Bool.not_false, Bool.true_and, Bool.and_true, Bool.and_self, List.flatMap_append, List.map_append, List.set_cons_zero, List.set_cons_succ, GZ, d1, wx, ht, f2, uf, y6, zU, List.drop_zero, beq_self_eq_true, zH]
 | some i =>
  rw [hf] at d1
  obtain ⟨pre, x, post, e1, e2, e3, e4⟩ := qx _ l 0 i hf
  simp only [Nat.zero_add] at e2
  have hw : (l.filter fun x => !p x) = pre ++ post.filter fun x => !p x := by
   rw [e1, List.filter_append, List.filter_cons, e3]
   simp only [Bool.not_true, Bool.false_eq_true, if_false]
   congr 1
   exact List.filter_eq_self.2 fun y hy => by rw [e4 y hy]; rfl
  have hlen : pre.length + 1 + post.length = l.length := by have h9 := congrArg List.length e1; simp at h9; omega
  have hmap : Option.map (fun x : Nat => x) cap = cap := by cases cap <;> rfl
  obtain ⟨J', hJr, hJ', L⟩ := bq g p l hl hp n hn cap post pre (ocE (z1.zh [x])) (fun y hy => by rw [e1]; simp [hy]) (by rw [zT, z1.zj]; exact Nat.le_refl _) (x8 _) (by rw [zT, z1.zj]; simpa using hlen)
  rw [← wB, ← wB, show pre ++ [x] ++ post = l by rw [e1]; simp, show ((pre.length + (ocE (z1.zh [x])).length : Nat) : Int) = (pre.length : Int) + 1 by rw [zT, z1.zj]; rfl, e2] at L
  have c0 : ((i : Int) == -1) = false := by rw [beq_eq_false_iff_ne]; omega
  rw [← hw] at L hJ'
  have hwl : (l.filter fun x => !p x).length ≤ n := by omega
  generalize hZ : (l.filter fun x => !p x) = Z at *
  have hZl : (ocE (z1.zh Z)).length = Z.length := by rw [zT, z1.zj]
  have htk : (ocE (z1.zh Z) ++ J').take Z.length = ocE (z1.zh Z) := by rw [← hZl]; simp
  have hdk : (ocE (z1.zh Z) ++ J').drop (Z.length + (n - Z.length)) = [] := List.drop_of_length_le (by rw [List.length_append, hZl]; omega)
  have hEl : (ocE (z1.zh Z) ++ J').length = n := by rw [List.length_append, hZl, hn]; exact hJ'
  have hE := xF (x8 Z) hJr
  obtain ⟨h1, h2, _⟩ := hE
  refine ⟨List.replicate (n - Z.length) zPk, ZG _, by rw [List.length_replicate]; omega, ?_⟩
  obtain ⟨h3, h4, _⟩ := xF (x8 Z) (ZG (n - Z.length))
  have hil : i ≤ 1048576 := by omega
  have hnl : n ≤ 1048576 := by omega
  simp only [ixI] at d1
  clear hw hJ' e1 hf e4 e3 hlen hp hl
  have c1 : Z.length + (n - Z.length) ≤ n := by omega
  simp only [zPk] at h3 h4 ⊢
  generalize ocE (z1.zh Z) ++ J' = E1 at *
  generalize ocE (z1.zh Z) = E2 at *
  refine zP Tryz.func50 rfl (by kernel_rfl) ?_
  unfold Tryz.f50
  simp (disch := ((try simp only [LL]); omega)) only [↓GO, ↓DRW, GA, GX, ren, zo, za, refs, z8, cst, zr, isC, bin, una, z7, zd, blt, asArg, zg, zc, zf, z6, E.mkS, unN, ze, zq, zb, GS, simprocAttr, zD, zE, yT, yN, yP, yO, yU, gh1, yM, yA, yG, zR, mkO, yH, yB, y7, yS, zK, yL, yK, y9, oc, oTs, oT, zO, zO.rowTs, yF, isL, Bool.not_false, Bool.true_and, Bool.and_true, Bool.and_self, List.flatMap_append, List.map_append, List.set_cons_zero, List.set_cons_succ, GZ, d1, wx, ht, f2, uf, y6, zU, List.drop_zero, c0, L, hEl, htk, hdk, h1, h2, h3, h4, zn, List.append_nil, zH, Nat.zero_add, Nat.sub_zero, c1, and_self, if_true, List.append_assoc, hmap]
end Go.Proofs.YtonbkdklidfmfaaGreatDoor
/- What a format keeps of a graph, plain. Conditions: none. -/
namespace Go.Proofs.YtonbkdklidfmfaaGreatDoor
open E
set_option linter.unusedVariables false
set_option linter.unusedSimpArgs false
set_option maxRecDepth 100000
def sH1 : Str := [104, 49]
def T2 : Str := [115, 104, 97, 50, 53, 54]
def xi : Str := [114, 111, 111, 116]
/-- a sum is kept -/
def xo (f : Int) (x : zy) : Bool := cond (f == 2 || f == 4) (x.alg == T2) (cond (f == 3) (x.alg == sH1) (!(x.alg == sH1)))
def u0 (f : Int) : Prop := f = 0 ∨ f = 1 ∨ f = 2 ∨ f = 3 ∨ f = 4
/-- a pack as a format keeps it -/
def zS (f : Int) (p : z1) : z1 := ⟨p.name, p.version, cond (f == 3 || f == 4) [] p.source, p.sums.filter (xo f), cond (f == 1 || f == 2 || f == 3) false p.dev, cond (f == 3 || f == 4) [] p.zC⟩
def xW (p q : z1) : Bool := q.name == p.name && q.dev == p.dev
/-- a pack is not kept, these being kept -/
def vu (f : Int) (acc : List z1) (p : z1) : Bool := (f == 4 && acc.any (xW p)) || ((f == 2 && p.name == xi) || (f == 3 && p.sums.isEmpty))
def xn (f : Int) : List z1 → List z1 → List z1
 | acc, [] => acc
 | acc, p :: r => cond (vu f acc (zS f p)) (xn f acc r) (xn f (acc ++ [zS f p]) r)
theorem r8 (f : Int) : ∀ (r acc : List z1), (xn f acc r).length ≤ acc.length + r.length
 | [], acc => by rw [xn]; simp
 | p :: r, acc => by
  rw [xn]
  cases vu f acc (zS f p) with
  | true => have := r8 f r acc; rw [cond_true]; simp; omega
  | false => have := r8 f r (acc ++ [zS f p]); rw [cond_false]; simp at this ⊢; omega
end Go.Proofs.YtonbkdklidfmfaaGreatDoor
/- What a format keeps of a graph, the law's own way. Conditions: those of each lemma. -/
namespace Go.Proofs.YtonbkdklidfmfaaGreatDoor
open E
set_option linter.unusedSimpArgs false
set_option linter.unusedVariables false
set_option maxRecDepth 100000
theorem UX (f : Int) (hf : u0 f) (ss : List zy) (hl : ss.length ≤ 1048576) : ∀ (rest pre acc : List zy) (m : Nat) (cap : Option Nat), ss = pre ++ rest → m = acc.length → m + rest.length ≤ 1073741824 → ∃ cap',
 EV Tryz.prog pol (.loop 92 58 0 [.t (.int .i64 f), .t (.list 2 (zy.zh ss)), .sl 0 0 m cap, .t (.int .i64 (pre.length : Int))] [.ts 2 (zy.zh acc)])
  = some (.loop (.exit 0) [.sl 0 0 (acc ++ rest.filter (xo f)).length cap'] [.ts 2 (zy.zh (acc ++ rest.filter (xo f)))])
 | [], pre, acc, m, cap, h, hm, hmM => by
  have c : decide ((pre.length : Int) < (ss.length : Int)) = false := by simp [h]
  refine ⟨cap, ?_⟩
  rw [List.filter_nil, List.append_nil, ← hm]
  refine zk Tryz.func92 rfl rfl ?_
  simp (disch := ((try simp only [LL]); omega)) only [↓GO, ↓DRW, GA, GX, ren, zo, za, refs, z8, cst, zr, isC, bin, una, z7, zd, blt, asArg, zg, zc, zf, z6, E.mkS, unN, ze, zq, zb, GS, simprocAttr, GZ, c, zy.zj, zH]
 | x :: rest, pre, acc, m, cap, h, hm, hmM => by
  have c : decide ((pre.length : Int) < (ss.length : Int)) = true := by simp [h]; omega
  have c0 : decide ((0 : Int) ≤ (pre.length : Int)) = true := by simp
  have hget : (zy.zh ss)[pre.length]? = some x.enc := by rw [h]; simp [zy.zh]
  have hlen : pre.length + rest.length + 1 ≤ ss.length := by rw [h]; simp; omega
  have hsl : (zy.zh acc).length = m := by rw [show (zy.zh acc).length = acc.length by simp [zy.zh], hm]
  have hsl2 : (zy.zh ss).length = ss.length := by simp [zy.zh]
  simp only [List.length_cons] at hmM
  have k : xo f x = cond (f == 2 || f == 4) (x.alg == T2) (cond (f == 3) (x.alg == sH1) (!(x.alg == sH1))) := rfl
  rw [List.filter_cons]
  cases q : xo f x with
  | true =>
   rw [q] at k
   obtain ⟨cap', IH⟩ := UX f hf ss hl rest (pre ++ [x]) (acc ++ [x]) (m + 1) none (by rw [h]; simp) (by simp [hm]) (by omega)
   rw [show ((pre ++ [x]).length : Int) = (pre.length : Int) + 1 by simp, show zy.zh (acc ++ [x]) = zy.zh acc ++ [x.enc] by simp [zy.zh], List.append_assoc, show [x] ++ rest.filter (xo f) = x :: rest.filter (xo f) from rfl] at IH
   simp only [if_true] at IH ⊢
   refine ⟨cap', ?_⟩
   generalize acc ++ x :: rest.filter (xo f) = Z at *
   clear h
   obtain ⟨alg, bytes⟩ := x
   simp only [zy.enc, T2, sH1] at hget IH k ⊢
   rcases hf with rfl | rfl | rfl | rfl | rfl <;> simp only [Int.reduceBEq, Bool.or_false, Bool.or_true, Bool.false_or, cond_true, cond_false] at k <;>
    (cases q1 : (alg == [104, 49]) <;> cases q2 : (alg == [115, 104, 97, 50, 53, 54]) <;> simp only [q1, q2, Bool.not_true, Bool.not_false, reduceCtorEq] at k)
   all_goals
    refine zk Tryz.func92 rfl rfl ?_
    simp (disch := ((try simp only [LL]); omega)) only [↓GO, ↓DRW, GA, GX, ren, zo, za, refs, z8, cst, zr, isC, bin, una, z7, zd, blt, asArg, zg, zc, zf, z6, E.mkS, unN, ze, zq, zb, GS, simprocAttr, GZ, c, c0, hsl2, hget, q1, q2, bne, Bool.not_true, Bool.not_false, zn, hsl, zH, IH, xb]
  | false =>
   rw [q] at k
   obtain ⟨cap', IH⟩ := UX f hf ss hl rest (pre ++ [x]) acc m cap (by rw [h]; simp) hm (by omega)
   rw [show ((pre ++ [x]).length : Int) = (pre.length : Int) + 1 by simp] at IH
   simp only [Bool.false_eq_true, if_false] at IH ⊢
   refine ⟨cap', ?_⟩
   generalize acc ++ rest.filter (xo f) = Z at *
   clear h
   obtain ⟨alg, bytes⟩ := x
   simp only [zy.enc, T2, sH1] at hget IH k ⊢
   rcases hf with rfl | rfl | rfl | rfl | rfl <;> simp only [Int.reduceBEq, Bool.or_false, Bool.or_true, Bool.false_or, cond_true, cond_false] at k <;>
    (cases q1 : (alg == [104, 49]) <;> cases q2 : (alg == [115, 104, 97, 50, 53, 54]) <;> simp only [q1, q2, Bool.not_true, Bool.not_false, reduceCtorEq] at k)
   all_goals
    refine zk Tryz.func92 rfl rfl ?_
    simp (disch := ((try simp only [LL]); omega)) only [↓GO, ↓DRW, GA, GX, ren, zo, za, refs, z8, cst, zr, isC, bin, una, z7, zd, blt, asArg, zg, zc, zf, z6, E.mkS, unN, ze, zq, zb, GS, simprocAttr, GZ, c, c0, hsl2, hget, q1, q2, bne, Bool.not_true, Bool.not_false, zn, hsl, zH, IH, xb]
theorem c_kpR (f : Int) (hf : u0 f) (ss : List zy) (hl : ss.length ≤ 1048576) : zm (EV Tryz.prog pol) 92 [.t (.int .i64 f), .t (.list 2 (zy.zh ss))] = some (.t (.list 2 (zy.zh (ss.filter (xo f))))) := by
 obtain ⟨cap, L⟩ := UX f hf ss hl ss [] [] 0 (some 0) rfl rfl (by omega)
 have ht : (zy.zh (ss.filter (xo f))).take (ss.filter (xo f)).length = zy.zh (ss.filter (xo f)) := List.take_of_length_le (by simp [zy.zh])
 simp only [List.length_nil, Int.natCast_zero, List.nil_append, show zy.zh [] = [] from rfl] at L
 generalize ss.filter (xo f) = Z at *
 apply zu
 refine zw rfl Tryz.func92 rfl (by kernel_rfl) ?_
 unfold Tryz.f92
 simp (disch := ((try simp only [LL]); omega)) only [↓GO, ↓DRW, GA, GX, ren, zo, za, refs, z8, cst, zr, isC, bin, una, z7, zd, blt, asArg, zg, zc, zf, z6, E.mkS, unN, ze, zq, zb, GS, simprocAttr, GZ, L, ht, zH]
theorem R7 (f : Int) (hf : u0 f) (p : z1) (hb : p.zY ≤ 1048576) : zm (EV Tryz.prog pol) 39 [.t (.int .i64 f), .agg (p.enc.map .t)] = some (.agg ((zS f p).enc.map .t)) := by
 have d1 := ga p hb
 have d2 := c_kpR f hf p.sums (by unfold z1.zY at hb; omega)
 obtain ⟨name, version, source, sums, dev, zC⟩ := p
 simp only [z1.enc, zS, List.map_cons, List.map_nil] at d1 d2 ⊢
 generalize sums.filter (xo f) = Z at *
 rcases hf with rfl | rfl | rfl | rfl | rfl <;> simp only [Int.reduceBEq, Bool.or_false, Bool.or_true, Bool.false_or, cond_true, cond_false]
 all_goals
  apply zu
  refine zw rfl Tryz.func39 rfl (by kernel_rfl) ?_
  unfold Tryz.f39
  simp (disch := ((try simp only [LL]); omega)) only [↓GO, ↓DRW, GA, GX, ren, zo, za, refs, z8, cst, zr, isC, bin, una, z7, zd, blt, asArg, zg, zc, zf, z6, E.mkS, unN, ze, zq, zb, GS, simprocAttr, GZ, d1, d2, zH, show strs [] = [] from rfl]
theorem SW (acc : List z1) (hl : acc.length ≤ 1048576) (p : z1) : ∀ (rest pre : List z1), acc = pre ++ rest →
 EV Tryz.prog pol (.loop 40 26 0 [.t (.int .i64 4), .t (.list 6 (z1.zh acc)), .ptr 0 0 0, .t (.int .i64 (pre.length : Int))] [.vs 6 [p.enc.map .t]])
  = some (cond (rest.any (xW p)) (.loop .ret [.t (.int .i64 4), .ptr 0 0 0, .t (.bool true)] [.vs 6 [p.enc.map .t]]) (.loop (.exit 0) [.t (.int .i64 4), .ptr 0 0 0, .bad] [.vs 6 [p.enc.map .t]]))
 | [], pre, h => by
  have c : decide ((pre.length : Int) < (acc.length : Int)) = false := by simp [h]
  clear h
  obtain ⟨name, version, source, sums, dev, zC⟩ := p
  simp only [z1.enc, List.map_cons, List.map_nil]
  refine zk Tryz.func40 rfl rfl ?_
  simp (disch := ((try simp only [LL]); omega)) only [↓GO, ↓DRW, GA, GX, ren, zo, za, refs, z8, cst, zr, isC, bin, una, z7, zd, blt, asArg, zg, zc, zf, z6, E.mkS, unN, ze, zq, zb, GS, simprocAttr, GZ, c, z1.zj, zH, List.any_nil, cond_false]
 | x :: rest, pre, h => by
  have c : decide ((pre.length : Int) < (acc.length : Int)) = true := by simp [h]; omega
  have c0 : decide ((0 : Int) ≤ (pre.length : Int)) = true := by simp
  have hget : (z1.zh acc)[pre.length]? = some x.enc := by rw [h]; simp [z1.zh]
  have hlen : pre.length + rest.length + 1 ≤ acc.length := by rw [h]; simp; omega
  have IH := SW acc hl p rest (pre ++ [x]) (by rw [h]; simp)
  rw [show ((pre ++ [x]).length : Int) = (pre.length : Int) + 1 by simp] at IH
  rw [List.any_cons, show xW p x = (x.name == p.name && x.dev == p.dev) from rfl]
  clear h
  generalize rest.any (xW p) = an at *
  obtain ⟨n1, v1, s1, m1, d1, k1⟩ := x
  obtain ⟨n2, v2, s2, m2, d2, k2⟩ := p
  simp only [z1.enc, List.map_cons, List.map_nil] at hget IH ⊢
  cases q1 : (n1 == n2) <;> cases q2 : (d1 == d2) <;> simp only [Bool.true_and, Bool.false_and, Bool.true_or, Bool.false_or, cond_true]
  all_goals
   refine zk Tryz.func40 rfl rfl ?_
   simp (disch := ((try simp only [LL]); omega)) only [↓GO, ↓DRW, GA, GX, ren, zo, za, refs, z8, cst, zr, isC, bin, una, z7, zd, blt, asArg, zg, zc, zf, z6, E.mkS, unN, ze, zq, zb, GS, simprocAttr, GZ, c, c0, z1.zj, hget, q1, q2, zn, zH, IH]
   try (refine x5 (by kernel_rfl) ?_; first | rfl | simp (disch := ((try simp only [LL]); omega)) only [↓GO, ↓DRW, GA, GX, ren, zo, za, refs, z8, cst, zr, isC, bin, una, z7, zd, blt, asArg, zg, zc, zf, z6, E.mkS, unN, ze, zq, zb, GS, simprocAttr, GZ, IH, zn, zH])
theorem Ra (f : Int) (hf : u0 f) (acc : List z1) (hl : acc.length ≤ 1048576) (p : z1) : zm (EV Tryz.prog pol) 40 [.t (.int .i64 f), .t (.list 6 (z1.zh acc)), .agg (p.enc.map .t)] = some (.t (.bool (vu f acc p))) := by
 have L4 := SW acc hl p acc [] rfl
 have he : (((zy.zh p.sums).length : Int) == 0) = p.sums.isEmpty := by
  rw [show (zy.zh p.sums).length = p.sums.length by simp [zy.zh]]
  cases p.sums with
  | nil => rfl
  | cons a r => simp; omega
 have hg : vu f acc p = ((f == 4 && acc.any (xW p)) || ((f == 2 && p.name == xi) || (f == 3 && p.sums.isEmpty))) := rfl
 rw [hg]
 clear hg
 simp only [List.length_nil, Int.natCast_zero] at L4
 generalize acc.any (xW p) = an at *
 obtain ⟨name, version, source, sums, dev, zC⟩ := p
 simp only [z1.enc, List.map_cons, List.map_nil, xi] at L4 he ⊢
 generalize sums.isEmpty = em at *
 have h0 : u0 f → (f == 4) = false → EV Tryz.prog pol (.loop 40 26 0 [.t (.int .i64 f), .t (.list 6 (z1.zh acc)), .ptr 0 0 0, .t (.int .i64 0)] [.vs 6 [[.t (.str name), .t (.str version), .t (.str source), .t (.list 2 (zy.zh sums)), .t (.bool dev), .t (.list 1 (strs zC))]]])
  = some (.loop (.exit 0) [.t (.int .i64 f), .ptr 0 0 0, .bad] [.vs 6 [[.t (.str name), .t (.str version), .t (.str source), .t (.list 2 (zy.zh sums)), .t (.bool dev), .t (.list 1 (strs zC))]]]) := by
  intro _ h4
  cases hq : decide ((0 : Int) < (acc.length : Int))
  all_goals
   refine zk Tryz.func40 rfl rfl ?_
   simp (disch := ((try simp only [LL]); omega)) only [↓GO, ↓DRW, GA, GX, ren, zo, za, refs, z8, cst, zr, isC, bin, una, z7, zd, blt, asArg, zg, zc, zf, z6, E.mkS, unN, ze, zq, zb, GS, simprocAttr, GZ, hq, h4, z1.zj, zH]
 have hw := hf
 rcases hf with rfl | rfl | rfl | rfl | rfl
 · have L := h0 hw rfl
   simp only [Int.reduceBEq, Bool.false_and, Bool.false_or, Bool.or_false]
   apply zu
   refine zw rfl Tryz.func40 rfl (by kernel_rfl) ?_
   unfold Tryz.f40
   simp (disch := ((try simp only [LL]); omega)) only [↓GO, ↓DRW, GA, GX, ren, zo, za, refs, z8, cst, zr, isC, bin, una, z7, zd, blt, asArg, zg, zc, zf, z6, E.mkS, unN, ze, zq, zb, GS, simprocAttr, GZ, L, zH]
 · have L := h0 hw rfl
   simp only [Int.reduceBEq, Bool.false_and, Bool.false_or, Bool.or_false]
   apply zu
   refine zw rfl Tryz.func40 rfl (by kernel_rfl) ?_
   unfold Tryz.f40
   simp (disch := ((try simp only [LL]); omega)) only [↓GO, ↓DRW, GA, GX, ren, zo, za, refs, z8, cst, zr, isC, bin, una, z7, zd, blt, asArg, zg, zc, zf, z6, E.mkS, unN, ze, zq, zb, GS, simprocAttr, GZ, L, zH]
 · have L := h0 hw rfl
   simp only [Int.reduceBEq, Bool.false_and, Bool.true_and, Bool.false_or, Bool.or_false]
   cases q1 : (name == [114, 111, 111, 116])
   all_goals
    apply zu
    refine zw rfl Tryz.func40 rfl (by kernel_rfl) ?_
    unfold Tryz.f40
    simp (disch := ((try simp only [LL]); omega)) only [↓GO, ↓DRW, GA, GX, ren, zo, za, refs, z8, cst, zr, isC, bin, una, z7, zd, blt, asArg, zg, zc, zf, z6, E.mkS, unN, ze, zq, zb, GS, simprocAttr, GZ, L, q1, zH]
 · have L := h0 hw rfl
   simp only [Int.reduceBEq, Bool.false_and, Bool.true_and, Bool.false_or, Bool.or_false]
   apply zu
   refine zw rfl Tryz.func40 rfl (by kernel_rfl) ?_
   unfold Tryz.f40
   simp (disch := ((try simp only [LL]); omega)) only [↓GO, ↓DRW, GA, GX, ren, zo, za, refs, z8, cst, zr, isC, bin, una, z7, zd, blt, asArg, zg, zc, zf, z6, E.mkS, unN, ze, zq, zb, GS, simprocAttr, GZ, L, he, zH]
 · simp only [Int.reduceBEq, Bool.false_and, Bool.true_and, Bool.false_or, Bool.or_false]
   cases an with
   | true =>
    rw [cond_true] at L4
    apply zu
    refine zw rfl Tryz.func40 rfl (by kernel_rfl) ?_
    unfold Tryz.f40
    simp (disch := ((try simp only [LL]); omega)) only [↓GO, ↓DRW, GA, GX, ren, zo, za, refs, z8, cst, zr, isC, bin, una, z7, zd, blt, asArg, zg, zc, zf, z6, E.mkS, unN, ze, zq, zb, GS, simprocAttr, GZ, L4, zH]
   | false =>
    rw [cond_false] at L4
    apply zu
    refine zw rfl Tryz.func40 rfl (by kernel_rfl) ?_
    unfold Tryz.f40
    simp (disch := ((try simp only [LL]); omega)) only [↓GO, ↓DRW, GA, GX, ren, zo, za, refs, z8, cst, zr, isC, bin, una, z7, zd, blt, asArg, zg, zc, zf, z6, E.mkS, unN, ze, zq, zb, GS, simprocAttr, GZ, L4, zH]
end Go.Proofs.YtonbkdklidfmfaaGreatDoor
/- Project, the law's own way. Conditions: those of each lemma. -/
namespace Go.Proofs.YtonbkdklidfmfaaGreatDoor
open E
set_option linter.unusedSimpArgs false
set_option linter.unusedVariables false
set_option maxRecDepth 100000
def yu (l : List z1) : List Str := l.map keyOf
theorem rm (l : List z1) : (yu l).length = l.length := by simp [yu]
theorem cd (l : List z1) (p : z1) : strs (yu (l ++ [p])) = strs (yu l) ++ [[.str (keyOf p)]] := by simp [yu, strs]
theorem qu (q : zy → Bool) : ∀ l : List zy, (l.filter q).length ≤ l.length ∧ zy.zJ (l.filter q) ≤ zy.zJ l
 | [] => ⟨Nat.le_refl _, Nat.le_refl _⟩
 | x :: r => by
  have ih := qu q r
  rw [List.filter_cons]
  cases q x with
  | true => simp only [if_true, List.length_cons, zy.zJ]; omega
  | false => simp only [Bool.false_eq_true, if_false, List.length_cons, zy.zJ]; omega
theorem tL (f : Int) (p : z1) : (zS f p).zY ≤ p.zY := by
 have h := qu (xo f) p.sums
 unfold zS
 cases (f == 3 || f == 4) <;> simp only [cond_true, cond_false, z1.zY, List.length_nil, ya] <;> omega
theorem sx (f : Int) : ∀ r acc : List z1, z1.zJ (xn f acc r) ≤ z1.zJ acc + z1.zJ r
 | [], acc => by rw [xn]; simp [z1.zJ]
 | p :: r, acc => by
  have hp := tL f p
  rw [xn]
  cases vu f acc (zS f p) with
  | true => have := sx f r acc; rw [cond_true]; simp only [z1.zJ]; omega
  | false =>
   have h1 := sx f r (acc ++ [zS f p])
   have h2 : ∀ a : List z1, z1.zJ (a ++ [zS f p]) = z1.zJ a + (zS f p).zY := by
    intro a
    induction a with
    | nil => simp [z1.zJ]
    | cons x t ih => simp only [List.cons_append, z1.zJ, ih]; omega
   rw [h2] at h1
   rw [cond_false]; simp only [z1.zJ]; omega
set_option maxHeartbeats 1000000 in
theorem UR (f : Int) (hf : u0 f) (gt : T) (cs : List z1) (hl : cs.length ≤ 1048576) (hb : ∀ c ∈ cs, c.zY ≤ 1048576) : ∀ (rest pre acc : List z1) (m : Nat) (cap : Option Nat), cs = pre ++ rest → m = acc.length → acc ≠ [] → m + rest.length ≤ 1048576 → ∃ cap',
 EV Tryz.prog pol (.loop 8 506 0 [.t (.int .i64 f), .ptr 0 0 0, .ptr 1 0 0, .ptr 2 0 0, .sl 3 0 m cap, .t (.int .i64 (pre.length : Int))] [.vs 2 [[.t gt, .t (.list 6 (z1.zh cs))]], .vs 2 [zG], .vs 2 [[.nil 1, .sl 4 0 m none]], .ts 1 (strs (yu acc)), .ts 6 (z1.zh acc)])
  = some (.loop (.exit 0) [.t (.int .i64 f), .ptr 0 0 0, .ptr 1 0 0, .ptr 2 0 0, .sl 3 0 (xn f acc rest).length cap'] [.vs 2 [[.t gt, .t (.list 6 (z1.zh cs))]], .vs 2 [zG], .vs 2 [[.nil 1, .sl 4 0 (xn f acc rest).length none]], .ts 1 (strs (yu (xn f acc rest))), .ts 6 (z1.zh (xn f acc rest))])
 | [], pre, acc, m, cap, h, hm, hn, hmM => by
  have c : decide ((pre.length : Int) < (cs.length : Int)) = false := by simp [h]
  refine ⟨cap, ?_⟩
  rw [xn, ← hm]
  simp only [zG]
  refine zk Tryz.func8 rfl rfl ?_
  simp (disch := ((try simp only [LL]); omega)) only [↓GO, ↓DRW, GA, GX, ren, zo, za, refs, z8, cst, zr, isC, bin, una, z7, zd, blt, asArg, zg, zc, zf, z6, E.mkS, unN, ze, zq, zb, GS, simprocAttr, GZ, c, z1.zj, zH]
 | x :: rest, pre, acc, m, cap, h, hm, hn, hmM => by
  have c : decide ((pre.length : Int) < (cs.length : Int)) = true := by simp [h]; omega
  have c0 : decide ((0 : Int) ≤ (pre.length : Int)) = true := by simp
  have hget : (z1.zh cs)[pre.length]? = some x.enc := by rw [h]; simp [z1.zh]
  have hlen : pre.length + rest.length + 1 ≤ cs.length := by rw [h]; simp; omega
  have hsl : (z1.zh acc).length = m := by rw [z1.zj, hm]
  have hkl : (strs (yu acc)).length = m := by rw [zi, rm, hm]
  have htk : (z1.zh acc).take m = z1.zh acc := List.take_of_length_le (by omega)
  simp only [List.length_cons] at hmM
  have hxb := hb x (by rw [h]; simp)
  have hpb := tL f x
  have d1 := R7 f hf x hxb
  have d2 := Ra f hf acc (by omega) (zS f x)
  have d3 := oB (zS f x) (by omega)
  rw [xn]
  cases q : vu f acc (zS f x) with
  | true =>
   rw [q] at d2
   obtain ⟨cap', IH⟩ := UR f hf gt cs hl hb rest (pre ++ [x]) acc m cap (by rw [h]; simp) hm hn (by omega)
   rw [show ((pre ++ [x]).length : Int) = (pre.length : Int) + 1 by simp] at IH
   refine ⟨cap', ?_⟩
   simp only [cond_true, zG] at IH ⊢
   generalize xn f acc rest = Z at *
   generalize zS f x = y at *
   clear h hb hf q
   obtain ⟨name, version, source, sums, dev, zC⟩ := x
   obtain ⟨name', version', source', sums', dev', needs'⟩ := y
   simp only [z1.enc, List.map_cons, List.map_nil] at d1 d2 d3 hget ⊢
   refine zk Tryz.func8 rfl rfl ?_
   simp (disch := ((try simp only [LL]); omega)) only [↓GO, ↓DRW, GA, GX, ren, zo, za, refs, z8, cst, zr, isC, bin, una, z7, zd, blt, asArg, zg, zc, zf, z6, E.mkS, unN, ze, zq, zb, GS, simprocAttr, GZ, c, c0, z1.zj, hget, d1, d2, d3, htk, zn, hsl, hkl, zH, IH, xb]
  | false =>
   rw [q] at d2
   obtain ⟨cap', IH⟩ := UR f hf gt cs hl hb rest (pre ++ [x]) (acc ++ [zS f x]) (m + 1) none (by rw [h]; simp) (by simp [hm]) (by simp) (by omega)
   rw [show ((pre ++ [x]).length : Int) = (pre.length : Int) + 1 by simp, uc, cd] at IH
   refine ⟨cap', ?_⟩
   simp only [cond_false, zG] at IH ⊢
   generalize xn f (acc ++ [zS f x]) rest = Z at *
   generalize zS f x = y at *
   clear h hb hf q
   obtain ⟨name, version, source, sums, dev, zC⟩ := x
   obtain ⟨name', version', source', sums', dev', needs'⟩ := y
   simp only [z1.enc, List.map_cons, List.map_nil] at d1 d2 d3 hget IH ⊢
   refine zk Tryz.func8 rfl rfl ?_
   simp (disch := ((try simp only [LL]); omega)) only [↓GO, ↓DRW, GA, GX, ren, zo, za, refs, z8, cst, zr, isC, bin, una, z7, zd, blt, asArg, zg, zc, zf, z6, E.mkS, unN, ze, zq, zb, GS, simprocAttr, GZ, c, c0, z1.zj, hget, d1, d2, d3, htk, zn, hsl, hkl, zH, IH, xb]
set_option maxHeartbeats 1000000 in
theorem Ut (f : Int) (hf : u0 f) (gt : T) (cs : List z1) (hl : cs.length ≤ 1048576) (hb : ∀ c ∈ cs, c.zY ≤ 1048576) : ∀ (rest pre : List z1) (cap : Option Nat), cs = pre ++ rest →
 (xn f [] rest = [] ∧ ∃ cap', EV Tryz.prog pol (.loop 8 506 0 [.t (.int .i64 f), .ptr 0 0 0, .ptr 1 0 0, .ptr 2 0 0, .sl 3 0 0 cap, .t (.int .i64 (pre.length : Int))] [.vs 2 [[.t gt, .t (.list 6 (z1.zh cs))]], .vs 2 [zG], .vs 2 [[.nil 1, .nil 6]], .ts 1 []])
  = some (.loop (.exit 0) [.t (.int .i64 f), .ptr 0 0 0, .ptr 1 0 0, .ptr 2 0 0, .sl 3 0 0 cap'] [.vs 2 [[.t gt, .t (.list 6 (z1.zh cs))]], .vs 2 [zG], .vs 2 [[.nil 1, .nil 6]], .ts 1 []])) ∨
 ∃ cap', EV Tryz.prog pol (.loop 8 506 0 [.t (.int .i64 f), .ptr 0 0 0, .ptr 1 0 0, .ptr 2 0 0, .sl 3 0 0 cap, .t (.int .i64 (pre.length : Int))] [.vs 2 [[.t gt, .t (.list 6 (z1.zh cs))]], .vs 2 [zG], .vs 2 [[.nil 1, .nil 6]], .ts 1 []])
  = some (.loop (.exit 0) [.t (.int .i64 f), .ptr 0 0 0, .ptr 1 0 0, .ptr 2 0 0, .sl 3 0 (xn f [] rest).length cap'] [.vs 2 [[.t gt, .t (.list 6 (z1.zh cs))]], .vs 2 [zG], .vs 2 [[.nil 1, .sl 4 0 (xn f [] rest).length none]], .ts 1 (strs (yu (xn f [] rest))), .ts 6 (z1.zh (xn f [] rest))])
 | [], pre, cap, h => by
  have c : decide ((pre.length : Int) < (cs.length : Int)) = false := by simp [h]
  refine .inl ⟨rfl, cap, ?_⟩
  simp only [zG]
  refine zk Tryz.func8 rfl rfl ?_
  simp (disch := ((try simp only [LL]); omega)) only [↓GO, ↓DRW, GA, GX, ren, zo, za, refs, z8, cst, zr, isC, bin, una, z7, zd, blt, asArg, zg, zc, zf, z6, E.mkS, unN, ze, zq, zb, GS, simprocAttr, GZ, c, z1.zj, zH]
 | x :: rest, pre, cap, h => by
  have c : decide ((pre.length : Int) < (cs.length : Int)) = true := by simp [h]; omega
  have c0 : decide ((0 : Int) ≤ (pre.length : Int)) = true := by simp
  have hget : (z1.zh cs)[pre.length]? = some x.enc := by rw [h]; simp [z1.zh]
  have hlen : pre.length + rest.length + 1 ≤ cs.length := by rw [h]; simp; omega
  have hxb := hb x (by rw [h]; simp)
  have hpb := tL f x
  have d1 := R7 f hf x hxb
  have d2 := Ra f hf [] (by simp) (zS f x)
  have d3 := oB (zS f x) (by omega)
  rw [xn]
  cases q : vu f [] (zS f x) with
  | true =>
   rw [q] at d2
   have IH := Ut f hf gt cs hl hb rest (pre ++ [x]) cap (by rw [h]; simp)
   rw [show ((pre ++ [x]).length : Int) = (pre.length : Int) + 1 by simp] at IH
   rw [cond_true]
   simp only [show z1.zh [] = [] from rfl] at d2
   generalize xn f [] rest = Z at *
   generalize zS f x = y at *
   have hpre : pre.length ≤ 1048576 := by omega
   clear h hb hf q
   obtain ⟨name, version, source, sums, dev, zC⟩ := x
   obtain ⟨name', version', source', sums', dev', needs'⟩ := y
   simp only [z1.enc, List.map_cons, List.map_nil, zG] at d1 d2 d3 hget IH ⊢
   rcases IH with ⟨e, cap', IH⟩ | ⟨cap', IH⟩
   · refine .inl ⟨e, cap', ?_⟩
     refine zk Tryz.func8 rfl rfl ?_
     simp (disch := ((try simp only [LL]); omega)) only [↓GO, ↓DRW, GA, GX, ren, zo, za, refs, z8, cst, zr, isC, bin, una, z7, zd, blt, asArg, zg, zc, zf, z6, E.mkS, unN, ze, zq, zb, GS, simprocAttr, GZ, c, c0, z1.zj, hget, d1, d2, d3, zn, zH, IH, xb]
   · refine .inr ⟨cap', ?_⟩
     refine zk Tryz.func8 rfl rfl ?_
     simp (disch := ((try simp only [LL]); omega)) only [↓GO, ↓DRW, GA, GX, ren, zo, za, refs, z8, cst, zr, isC, bin, una, z7, zd, blt, asArg, zg, zc, zf, z6, E.mkS, unN, ze, zq, zb, GS, simprocAttr, GZ, c, c0, z1.zj, hget, d1, d2, d3, zn, zH, IH, xb]
  | false =>
   rw [q] at d2
   obtain ⟨cap', IH⟩ := UR f hf gt cs hl hb rest (pre ++ [x]) [zS f x] 1 none (by rw [h]; simp) rfl (by simp) (by omega)
   rw [show ((pre ++ [x]).length : Int) = (pre.length : Int) + 1 by simp, show z1.zh [zS f x] = [(zS f x).enc] from rfl, show strs (yu [zS f x]) = [[.str (keyOf (zS f x))]] from rfl] at IH
   refine .inr ⟨cap', ?_⟩
   simp only [cond_false, zG, List.nil_append, show z1.zh [] = [] from rfl] at d2 IH ⊢
   generalize xn f [zS f x] rest = Z at *
   generalize zS f x = y at *
   clear h hb hf q
   obtain ⟨name, version, source, sums, dev, zC⟩ := x
   obtain ⟨name', version', source', sums', dev', needs'⟩ := y
   simp only [z1.enc, List.map_cons, List.map_nil] at d1 d2 d3 hget IH ⊢
   refine zk Tryz.func8 rfl rfl ?_
   simp (disch := ((try simp only [LL]); omega)) only [↓GO, ↓DRW, GA, GX, ren, zo, za, refs, z8, cst, zr, isC, bin, una, z7, zd, blt, asArg, zg, zc, zf, z6, E.mkS, unN, ze, zq, zb, GS, simprocAttr, GZ, c, c0, z1.zj, hget, d1, d2, d3, zn, zH, IH, xb, List.length_nil]
def vv (f : Int) : Bool := decide (0 ≤ f) && decide (f ≤ 4)
theorem pt {f : Int} (h : vv f = true) : u0 f := by
 unfold vv at h
 simp only [Bool.and_eq_true, decide_eq_true_eq] at h
 unfold u0
 omega
theorem ue {α : Type} (a b c d e : α) : uS [a, b, c, d, e] 3 = some d := rfl
theorem uW {α : Type} (a b c d e : α) : uS [a, b, c, d, e] 4 = some e := rfl
theorem RU : zm (EV Tryz.prog pol) 91 [] = some (.t (.list 1 [[.str [110, 111, 100, 101]], [.str [121, 97, 114, 110]], [.str [99, 97, 114, 103, 111]], [.str [103, 111]], [.str [112, 105, 112]]])) := by
 apply zu
 refine zw rfl Tryz.func91 rfl (by kernel_rfl) ?_
 unfold Tryz.f91
 simp (disch := ((try simp only [LL]); omega)) only [↓GO, ↓DRW, GA, GX, ren, zo, za, refs, z8, cst, zr, isC, bin, una, z7, zd, blt, asArg, zg, zc, zf, z6, E.mkS, unN, ze, zq, zb, GS, simprocAttr, GZ, zH]
theorem Rb (f : Int) : ∃ s, zm (EV Tryz.prog pol) 37 [.t (.int .i64 f)] = some (.t (.str s)) ∧ (s == []) = !vv f := by
 have d1 := wk f 0 4
 have d2 := RU
 have e : B2 f 0 4 = vv f := by unfold vv B2; rfl
 rw [e] at d1
 cases q : vv f with
 | false =>
  rw [q] at d1
  refine ⟨[], ?_, rfl⟩
  apply zu
  refine zw rfl Tryz.func37 rfl (by kernel_rfl) ?_
  unfold Tryz.f37
  simp (disch := ((try simp only [LL]); omega)) only [↓GO, ↓DRW, GA, GX, ren, zo, za, refs, z8, cst, zr, isC, bin, una, z7, zd, blt, asArg, zg, zc, zf, z6, E.mkS, unN, ze, zq, zb, GS, simprocAttr, GZ, d1, zH]
 | true =>
  rw [q] at d1
  rcases pt q with rfl | rfl | rfl | rfl | rfl
  · refine ⟨[110, 111, 100, 101], ?_, rfl⟩
    apply zu
    refine zw rfl Tryz.func37 rfl (by kernel_rfl) ?_
    unfold Tryz.f37
    simp (disch := ((try simp only [LL]); omega)) only [↓GO, ↓DRW, GA, GX, ren, zo, za, refs, z8, cst, zr, isC, bin, una, z7, zd, blt, asArg, zg, zc, zf, z6, E.mkS, unN, ze, zq, zb, GS, simprocAttr, GZ, d1, d2, ue, uW, zH]
  · refine ⟨[121, 97, 114, 110], ?_, rfl⟩
    apply zu
    refine zw rfl Tryz.func37 rfl (by kernel_rfl) ?_
    unfold Tryz.f37
    simp (disch := ((try simp only [LL]); omega)) only [↓GO, ↓DRW, GA, GX, ren, zo, za, refs, z8, cst, zr, isC, bin, una, z7, zd, blt, asArg, zg, zc, zf, z6, E.mkS, unN, ze, zq, zb, GS, simprocAttr, GZ, d1, d2, ue, uW, zH]
  · refine ⟨[99, 97, 114, 103, 111], ?_, rfl⟩
    apply zu
    refine zw rfl Tryz.func37 rfl (by kernel_rfl) ?_
    unfold Tryz.f37
    simp (disch := ((try simp only [LL]); omega)) only [↓GO, ↓DRW, GA, GX, ren, zo, za, refs, z8, cst, zr, isC, bin, una, z7, zd, blt, asArg, zg, zc, zf, z6, E.mkS, unN, ze, zq, zb, GS, simprocAttr, GZ, d1, d2, ue, uW, zH]
  · refine ⟨[103, 111], ?_, rfl⟩
    apply zu
    refine zw rfl Tryz.func37 rfl (by kernel_rfl) ?_
    unfold Tryz.f37
    simp (disch := ((try simp only [LL]); omega)) only [↓GO, ↓DRW, GA, GX, ren, zo, za, refs, z8, cst, zr, isC, bin, una, z7, zd, blt, asArg, zg, zc, zf, z6, E.mkS, unN, ze, zq, zb, GS, simprocAttr, GZ, d1, d2, ue, uW, zH]
  · refine ⟨[112, 105, 112], ?_, rfl⟩
    apply zu
    refine zw rfl Tryz.func37 rfl (by kernel_rfl) ?_
    unfold Tryz.f37
    simp (disch := ((try simp only [LL]); omega)) only [↓GO, ↓DRW, GA, GX, ren, zo, za, refs, z8, cst, zr, isC, bin, una, z7, zd, blt, asArg, zg, zc, zf, z6, E.mkS, unN, ze, zq, zb, GS, simprocAttr, GZ, d1, d2, ue, uW, zH]
def wq (f : Int) (g : zx) : zx := cond (f == 0) (uo g) g
def yY (f : Int) (g : zx) : List z1 := xn f [] (wq f g).packs
def rI (f : Int) (g : zx) : zx := ⟨cond (f == 0 || f == 2) (wq f g).top [], yY f g⟩
theorem n4 (keys : List Str) : ∀ cs : List z1, (xe keys cs).length ≤ cs.length ∧ z1.zJ (xe keys cs) ≤ z1.zJ cs
 | [] => ⟨Nat.le_refl _, Nat.le_refl _⟩
 | p :: r => by
  have ih := n4 keys r
  unfold xe at ih ⊢
  rw [List.filter_cons]
  cases yj keys (keyOf p) with
  | true => simp only [if_true, List.length_cons, z1.zJ]; omega
  | false => simp only [Bool.false_eq_true, if_false, List.length_cons, z1.zJ]; omega
theorem Zw (f : Int) (g : zx) (hB : GB g) : GB (wq f g) := by
 have hk := n4 (yb g.packs g.top) g.packs
 unfold GB zx.zY at hB ⊢
 unfold wq uo
 cases (f == 0) with
 | false => exact hB
 | true =>
  rw [cond_true]
  cases ym g with
  | false => exact hB
  | true => rw [cond_true]; simp only; omega
theorem Tm (f : Int) (g : zx) (hB : GB g) : GB (rI f g) := by
 have h := Zw f g hB
 have h1 := r8 f (wq f g).packs []
 have h2 := sx f (wq f g).packs []
 unfold GB zx.zY at h ⊢
 unfold rI yY
 simp only [z1.zJ, List.length_nil] at h1 h2
 cases (f == 0 || f == 2) with
 | false => simp only [cond_false, List.length_nil, ya]; omega
 | true => simp only [cond_true]; omega
theorem WI (f : Int) (g : zx) (hB : GB g) (h : (vv f && ym g) = false) : zm (EV Tryz.prog pol) 8 [.t (.int .i64 f), .agg (g.enc.map .t)] = some (.agg (g.enc.map .t)) := by
 obtain ⟨s, d1, e1⟩ := Rb f
 have d2 := hU g hB
 have d3 := Zu g hB
 obtain ⟨top, packs⟩ := g
 simp only [zx.enc, List.map_cons, List.map_nil] at d2 d3 ⊢
 cases q : vv f with
 | false =>
  rw [q] at e1
  apply zu
  refine zw rfl Tryz.func8 rfl (by kernel_rfl) ?_
  unfold Tryz.f8
  simp (disch := ((try simp only [LL]); omega)) only [↓GO, ↓DRW, GA, GX, ren, zo, za, refs, z8, cst, zr, isC, bin, una, z7, zd, blt, asArg, zg, zc, zf, z6, E.mkS, unN, ze, zq, zb, GS, simprocAttr, GZ, d1, e1, d3, Bool.not_false, zH]
 | true =>
  rw [q] at e1 h
  rw [Bool.true_and] at h
  rw [h] at d2
  apply zu
  refine zw rfl Tryz.func8 rfl (by kernel_rfl) ?_
  unfold Tryz.f8
  simp (disch := ((try simp only [LL]); omega)) only [↓GO, ↓DRW, GA, GX, ren, zo, za, refs, z8, cst, zr, isC, bin, una, z7, zd, blt, asArg, zg, zc, zf, z6, E.mkS, unN, ze, zq, zb, GS, simprocAttr, GZ, d1, e1, d2, d3, Bool.not_true, zH]
set_option maxHeartbeats 2000000 in
theorem c_pjR (f : Int) (hf : vv f = true) (g : zx) (hB : GB g) (hg : ym g = true) :
 zm (EV Tryz.prog pol) 8 [.t (.int .i64 f), .agg (g.enc.map .t)] = some (.agg ((uy (rI f g) (yu (yY f g))).enc.map .t)) := by
 obtain ⟨s, d1, e1⟩ := Rb f
 rw [hf] at e1
 have d2 := hU g hB
 rw [hg] at d2
 have d3 := c_prR g hB
 have hf' := pt hf
 have hb := (Zw f g hB).len
 have hpl := r8 f (wq f g).packs []
 have d4 := R9 (rI f g) (Tm f g hB) (yu (yY f g)) (by rw [rm]; unfold yY; simp only [List.length_nil] at hpl; omega)
 have L := Ut f hf' (.list 1 (strs (wq f g).top)) (wq f g).packs (by omega) hb.2.2 (wq f g).packs [] (some 0) rfl
 rw [show xn f [] (wq f g).packs = yY f g from rfl] at L
 have hbt : (wq f g).top.length ≤ 1048576 := by omega
 have ht1 : (strs (wq f g).top).take (wq f g).top.length = strs (wq f g).top := by rw [← zi (wq f g).top]; simp
 have ht2 : (z1.zh (yY f g)).take (yY f g).length = z1.zh (yY f g) := by rw [← z1.zj (yY f g)]; simp
 have ht3 : (strs (yu (yY f g))).take (yY f g).length = strs (yu (yY f g)) := by rw [← rm (yY f g), ← zi (yu (yY f g))]; simp
 have e0 : (f == 0) = true → wq f g = uo g := fun h => by unfold wq; rw [h]; rfl
 have e2 : (f == 0) = false → wq f g = g := fun h => by unfold wq; rw [h]; rfl
 unfold rI at d4 ⊢
 simp only [List.length_nil, Int.natCast_zero, zG] at L
 rw [Bool.not_true] at e1
 clear hb hpl ht2 ht3
 have hKs := z1.zj (yY f g)
 have hKk := rm (yY f g)
 generalize yY f g = K at *
 have ht2 : (z1.zh K).take K.length = z1.zh K := List.take_of_length_le (by omega)
 have ht3 : (strs (yu K)).take K.length = strs (yu K) := List.take_of_length_le (by rw [zi]; omega)
 generalize wq f g = bg at *
 have hgg : (f == 0) = true → zm (EV Tryz.prog pol) 29 [.agg (g.enc.map .t)] = some (.agg (bg.enc.map .t)) := fun h => by rw [e0 h]; exact d3
 clear d3 e0
 rcases hf' with rfl | rfl | rfl | rfl | rfl
 all_goals
  simp only [Int.reduceBEq, Bool.true_or, Bool.or_true, Bool.false_or, Bool.or_false, cond_true, cond_false, true_implies, Bool.false_eq_true, false_implies] at d4 hgg e2 ⊢
 · generalize uy ⟨bg.top, K⟩ (yu K) = R at *
   obtain ⟨top, packs⟩ := g
   obtain ⟨bt, bp⟩ := bg
   obtain ⟨rt, rp⟩ := R
   simp only [zx.enc, List.map_cons, List.map_nil] at d2 hgg d4 L ht1 hbt ⊢
   rcases L with ⟨eK, cap', L⟩ | ⟨cap', L⟩
   · subst eK
     simp only [show z1.zh [] = [] from rfl, show strs (yu []) = [] from rfl] at d4
     apply zu
     refine zw rfl Tryz.func8 rfl (by kernel_rfl) ?_
     unfold Tryz.f8
     simp (disch := ((try simp only [LL]); omega)) only [↓GO, ↓DRW, GA, GX, ren, zo, za, refs, z8, cst, zr, isC, bin, una, z7, zd, blt, asArg, zg, zc, zf, z6, E.mkS, unN, ze, zq, zb, GS, simprocAttr, GZ, d1, e1, d2, hgg, L, d4, ht1, zi, xb, zH]
   · apply zu
     refine zw rfl Tryz.func8 rfl (by kernel_rfl) ?_
     unfold Tryz.f8
     simp (disch := ((try simp only [LL]); omega)) only [↓GO, ↓DRW, GA, GX, ren, zo, za, refs, z8, cst, zr, isC, bin, una, z7, zd, blt, asArg, zg, zc, zf, z6, E.mkS, unN, ze, zq, zb, GS, simprocAttr, GZ, d1, e1, d2, hgg, L, d4, ht1, ht2, ht3, zi, xb, zH]
 · subst e2
   generalize uy ⟨[], K⟩ (yu K) = R at *
   obtain ⟨bt, bp⟩ := bg
   obtain ⟨rt, rp⟩ := R
   simp only [zx.enc, List.map_cons, List.map_nil, show strs [] = [] from rfl] at d2 d4 L ht1 hbt ⊢
   rcases L with ⟨eK, cap', L⟩ | ⟨cap', L⟩
   · subst eK
     simp only [show z1.zh [] = [] from rfl, show strs (yu []) = [] from rfl] at d4
     apply zu
     refine zw rfl Tryz.func8 rfl (by kernel_rfl) ?_
     unfold Tryz.f8
     simp (disch := ((try simp only [LL]); omega)) only [↓GO, ↓DRW, GA, GX, ren, zo, za, refs, z8, cst, zr, isC, bin, una, z7, zd, blt, asArg, zg, zc, zf, z6, E.mkS, unN, ze, zq, zb, GS, simprocAttr, GZ, d1, e1, d2, L, d4, ht1, zi, xb, zH]
   · apply zu
     refine zw rfl Tryz.func8 rfl (by kernel_rfl) ?_
     unfold Tryz.f8
     simp (disch := ((try simp only [LL]); omega)) only [↓GO, ↓DRW, GA, GX, ren, zo, za, refs, z8, cst, zr, isC, bin, una, z7, zd, blt, asArg, zg, zc, zf, z6, E.mkS, unN, ze, zq, zb, GS, simprocAttr, GZ, d1, e1, d2, L, d4, ht1, ht2, ht3, zi, xb, zH]
 · subst e2
   generalize uy ⟨bg.top, K⟩ (yu K) = R at *
   obtain ⟨bt, bp⟩ := bg
   obtain ⟨rt, rp⟩ := R
   simp only [zx.enc, List.map_cons, List.map_nil, show strs [] = [] from rfl] at d2 d4 L ht1 hbt ⊢
   rcases L with ⟨eK, cap', L⟩ | ⟨cap', L⟩
   · subst eK
     simp only [show z1.zh [] = [] from rfl, show strs (yu []) = [] from rfl] at d4
     apply zu
     refine zw rfl Tryz.func8 rfl (by kernel_rfl) ?_
     unfold Tryz.f8
     simp (disch := ((try simp only [LL]); omega)) only [↓GO, ↓DRW, GA, GX, ren, zo, za, refs, z8, cst, zr, isC, bin, una, z7, zd, blt, asArg, zg, zc, zf, z6, E.mkS, unN, ze, zq, zb, GS, simprocAttr, GZ, d1, e1, d2, L, d4, ht1, zi, xb, zH]
   · apply zu
     refine zw rfl Tryz.func8 rfl (by kernel_rfl) ?_
     unfold Tryz.f8
     simp (disch := ((try simp only [LL]); omega)) only [↓GO, ↓DRW, GA, GX, ren, zo, za, refs, z8, cst, zr, isC, bin, una, z7, zd, blt, asArg, zg, zc, zf, z6, E.mkS, unN, ze, zq, zb, GS, simprocAttr, GZ, d1, e1, d2, L, d4, ht1, ht2, ht3, zi, xb, zH]
 all_goals
  subst e2
  generalize uy ⟨[], K⟩ (yu K) = R at *
  obtain ⟨bt, bp⟩ := bg
  obtain ⟨rt, rp⟩ := R
  simp only [zx.enc, List.map_cons, List.map_nil, show strs [] = [] from rfl] at d2 d4 L ht1 hbt ⊢
  rcases L with ⟨eK, cap', L⟩ | ⟨cap', L⟩
  · subst eK
    simp only [show z1.zh [] = [] from rfl, show strs (yu []) = [] from rfl] at d4
    apply zu
    refine zw rfl Tryz.func8 rfl (by kernel_rfl) ?_
    unfold Tryz.f8
    simp (disch := ((try simp only [LL]); omega)) only [↓GO, ↓DRW, GA, GX, ren, zo, za, refs, z8, cst, zr, isC, bin, una, z7, zd, blt, asArg, zg, zc, zf, z6, E.mkS, unN, ze, zq, zb, GS, simprocAttr, GZ, d1, e1, d2, L, d4, ht1, zi, xb, zH]
  · apply zu
    refine zw rfl Tryz.func8 rfl (by kernel_rfl) ?_
    unfold Tryz.f8
    simp (disch := ((try simp only [LL]); omega)) only [↓GO, ↓DRW, GA, GX, ren, zo, za, refs, z8, cst, zr, isC, bin, una, z7, zd, blt, asArg, zg, zc, zf, z6, E.mkS, unN, ze, zq, zb, GS, simprocAttr, GZ, d1, e1, d2, L, d4, ht1, ht2, ht3, zi, xb, zH]
end Go.Proofs.YtonbkdklidfmfaaGreatDoor
/- What a format keeps of a graph, plain: both ways come to the same. Conditions: none. -/
namespace Go.Proofs.YtonbkdklidfmfaaGreatDoor
open E
set_option linter.unusedVariables false
set_option linter.unusedSimpArgs false
set_option maxRecDepth 100000
def rootKey (k : Str) : Bool := (vD k).1 == xi
def xw (p : z1) : z1 := ⟨p.name, p.version, p.source, p.sums, p.dev, p.zC.filter fun k => !rootKey k⟩
def xk (a : Str) (p : z1) : Bool := p.sums.any fun s => s.alg == a
def wF : List z1 → List z1 → List z1
 | acc, [] => acc
 | acc, p :: r => cond (acc.any (xW p)) (wF acc r) (wF (acc ++ [p]) r)
def T3 (f : Int) (g : zx) : List z1 :=
 cond (f == 0) (xe (yb g.packs g.top) g.packs) (cond (f == 2) ((g.packs.filter fun p => !(p.name == xi)).map xw) (cond (f == 3) (g.packs.filter (xk sH1)) (cond (f == 4) (wF [] g.packs) g.packs)))
def SD (f : Int) (g : zx) : List Str := cond (f == 0) g.top (cond (f == 2) (g.top.filter fun k => !rootKey k) [])
/-- the program's way -/
def rL (f : Int) (g : zx) : zx := ⟨SD f g, (T3 f g).map (zS f)⟩
theorem o8 (f : Int) (l : List z1) : yu (l.map (zS f)) = yu l := by
 unfold yu
 rw [List.map_map]
 rfl
theorem uV (l : List z1) (k : Str) : k ∈ yu l ↔ ∃ p ∈ l, keyOf p = k := by simp [yu]
theorem oM (K : List z1) : xg (yu K) K = K.map (rJ (yu K)) := by
 unfold xg
 rw [filter_all]
 intro x hx
 rw [wD, uV]
 exact ⟨x, hx, rfl⟩
theorem vf (f : Int) (hf : (f == 4) = false) : ∀ r acc : List z1, xn f acc r = acc ++ (r.map (zS f)).filter (fun p => !vu f [] p)
 | [], acc => by simp [xn]
 | p :: r, acc => by
  have e : vu f acc (zS f p) = vu f [] (zS f p) := by unfold vu; rw [hf]; simp
  rw [xn, e, List.map_cons, List.filter_cons]
  cases vu f [] (zS f p) with
  | true => rw [cond_true, vf f hf r acc]; simp
  | false => rw [cond_false, vf f hf r (acc ++ [zS f p])]; simp
theorem gone4 (acc : List z1) (p : z1) : vu 4 (acc.map (zS 4)) (zS 4 p) = acc.any (xW p) := by
 unfold vu
 have h : (acc.map (zS 4)).any (xW (zS 4 p)) = acc.any (xW p) := by
  rw [List.any_map]
  rfl
 rw [h]
 simp
theorem iA : ∀ r acc : List z1, xn 4 (acc.map (zS 4)) r = (wF acc r).map (zS 4)
 | [], acc => by rw [xn, wF]
 | p :: r, acc => by
  rw [xn, wF, gone4]
  cases acc.any (xW p) with
  | true => rw [cond_true, cond_true, iA r acc]
  | false =>
   rw [cond_false, cond_false, ← iA r (acc ++ [p])]
   simp
theorem mu {ps : List z1} {l : List Str} (h : xx ps none l = true) : ∀ k ∈ l, ∃ q ∈ ps, keyOf q = k := fun k hk => by
 have h1 := (tO ps none l h).2.1 k hk
 unfold gj at h1
 rw [List.any_eq_true] at h1
 obtain ⟨q, h2, h3⟩ := h1
 exact ⟨q, h2, by simpa using h3⟩
theorem topOk {g : zx} (h : ym g = true) : xx g.packs none g.top = true := by
 unfold ym at h
 simp only [Bool.and_eq_true] at h
 exact h.2.2
theorem Ye {K : List z1} {p : z1} (h : ∀ k ∈ p.zC, k ∈ yu K) : rJ (yu K) p = p := by
 have e : p.zC.filter (yj (yu K)) = p.zC := filter_all _ _ fun k hk => (wD _ _).2 (h k hk)
 unfold rJ
 rw [e]
theorem ph {K : List z1} (h : ∀ p ∈ K, ∀ k ∈ p.zC, k ∈ yu K) : xg (yu K) K = K := by
 rw [oM]
 conv => rhs; rw [← List.map_id K]
 exact List.map_congr_left fun p hp => Ye (h p hp)
theorem fB {g : zx} (hg : ym g = true) {k : Str} (hk : ∃ q ∈ g.packs, keyOf q = k) : yj (yu (g.packs.filter fun p => !(p.name == xi))) k = !rootKey k := by
 obtain ⟨q, hq, rfl⟩ := hk
 have hr : rootKey (keyOf q) = (q.name == xi) := by
  unfold rootKey
  rw [gq (uF hg q hq).1]
 rw [hr]
 cases hn : q.name == xi with
 | true =>
  cases hc : yj (yu (g.packs.filter fun p => !(p.name == xi))) (keyOf q) with
  | false => rfl
  | true =>
   rw [wD, uV] at hc
   obtain ⟨p, hp, e⟩ := hc
   obtain ⟨hp1, hp2⟩ := List.mem_filter.1 hp
   have := (uC hg).key p hp1 q hq e
   subst this
   rw [hn] at hp2
   cases hp2
 | false =>
  rw [Bool.not_false, wD, uV]
  exact ⟨q, List.mem_filter.2 ⟨hq, by rw [hn]; rfl⟩, rfl⟩
theorem jL (f : Int) (r : z1 → Bool) (hr : ∀ p, r (zS f p) = r p) (l : List z1) : (l.map (zS f)).filter r = (l.filter r).map (zS f) := by
 rw [List.filter_map]
 congr 1
 exact List.filter_congr fun x _ => hr x
theorem RA (p : z1) : (zS 3 p).sums.isEmpty = !xk sH1 p := by
 show (p.sums.filter (xo 3)).isEmpty = _
 unfold xk
 generalize p.sums = l
 induction l with
 | nil => rfl
 | cons s r ih =>
  rw [List.filter_cons, List.any_cons]
  have h : xo 3 s = (s.alg == sH1) := rfl
  rw [h]
  cases s.alg == sH1 with
  | true => rfl
  | false => simpa using ih
theorem Un {f : Int} (hf : f = 3 ∨ f = 4) (l : List z1) : ∀ p ∈ l.map (zS f), ∀ k ∈ p.zC, k ∈ yu (l.map (zS f)) := fun p hp k hk => by
 obtain ⟨q, _, rfl⟩ := List.mem_map.1 hp
 rcases hf with rfl | rfl
 · simp [zS] at hk
 · simp [zS] at hk
theorem Y9 (f : Int) (hf : u0 f) (g : zx) (hg : ym g = true) : uy (rI f g) (yu (yY f g)) = rL f g := by
 have hpk := uF hg
 have htop := mu (topOk hg)
 have hneed : ∀ p ∈ g.packs, ∀ k ∈ p.zC, ∃ q ∈ g.packs, keyOf q = k := fun p hp => mu (hpk p hp).2
 rcases hf with rfl | rfl | rfl | rfl | rfl
 · have hb : wq 0 g = ⟨g.top, xe (yb g.packs g.top) g.packs⟩ := by
    show uo g = _
    unfold uo; rw [hg]; rfl
   have hK : yY 0 g = (xe (yb g.packs g.top) g.packs).map (zS 0) := by
    unfold yY
    rw [vf 0 rfl, hb, List.nil_append]
    exact filter_all _ _ fun x _ => rfl
   have hin : ∀ k, k ∈ yb g.packs g.top → (∃ q ∈ g.packs, keyOf q = k) → k ∈ yu (yY 0 g) := fun k h1 ⟨q, h2, h3⟩ => by
    rw [hK, o8, uV]
    exact ⟨q, List.mem_filter.2 ⟨h2, by rw [wD, h3]; exact h1⟩, h3⟩
   have hfs : ∀ k, (∃ q ∈ g.packs, keyOf q = k) → (wm g.packs k).isSome = true := fun k ⟨q, h2, h3⟩ => by
    rw [← h3, qt (uC hg) h2]; rfl
   unfold rL uy rI
   show zx.mk ((wq 0 g).top.filter _) (xg (yu (yY 0 g)) (yY 0 g)) = zx.mk g.top ((xe (yb g.packs g.top) g.packs).map (zS 0))
   congr 1
   · rw [hb]
     exact filter_all _ _ fun k hk => (wD _ _).2 (hin k (mb _ _ k hk (hfs k (htop k hk))) (htop k hk))
   · rw [← hK]
     refine ph fun p hp k hk => ?_
     rw [hK] at hp
     obtain ⟨q, hq, rfl⟩ := List.mem_map.1 hp
     obtain ⟨hq1, hq2⟩ := List.mem_filter.1 hq
     rw [wD] at hq2
     have hk' : k ∈ q.zC := hk
     have hx := hneed q hq1 k hk'
     exact hin k (rW _ _ (keyOf q) q k hq2 (qt (uC hg) hq1) hk' (hfs k hx)) hx
 · have hK : yY 1 g = g.packs.map (zS 1) := by
    unfold yY
    rw [vf 1 rfl, List.nil_append]
    exact filter_all _ _ fun x _ => rfl
   unfold rL uy rI
   show zx.mk (List.filter _ []) (xg (yu (yY 1 g)) (yY 1 g)) = zx.mk [] (g.packs.map (zS 1))
   congr 1
   rw [← hK]
   refine ph fun p hp k hk => ?_
   rw [hK] at hp ⊢
   obtain ⟨q, hq, rfl⟩ := List.mem_map.1 hp
   rw [o8, uV]
   exact hneed q hq k hk
 · have hK : yY 2 g = (g.packs.filter fun p => !(p.name == xi)).map (zS 2) := by
    unfold yY
    rw [vf 2 rfl, List.nil_append]
    exact jL 2 (fun p => !vu 2 [] p) (fun _ => rfl) g.packs |>.trans (by
     congr 1
     refine List.filter_congr fun p _ => ?_
     simp [vu])
   unfold rL uy rI
   show zx.mk (g.top.filter (yj (yu (yY 2 g)))) (xg (yu (yY 2 g)) (yY 2 g)) = zx.mk (g.top.filter fun k => !rootKey k) (((g.packs.filter fun p => !(p.name == xi)).map xw).map (zS 2))
   have hkk : yu (yY 2 g) = yu (g.packs.filter fun p => !(p.name == xi)) := by rw [hK, o8]
   rw [oM, hkk, hK]
   congr 1
   · exact List.filter_congr fun k hk => fB hg (htop k hk)
   · rw [List.map_map, List.map_map]
     refine List.map_congr_left fun p hp => ?_
     obtain ⟨hp1, _⟩ := List.mem_filter.1 hp
     have e : p.zC.filter (yj (yu (g.packs.filter fun p => !(p.name == xi)))) = p.zC.filter fun k => !rootKey k := List.filter_congr fun k hk => fB hg (hneed p hp1 k hk)
     show z1.mk _ _ _ _ _ (p.zC.filter _) = z1.mk _ _ _ _ _ _
     rw [e]
     rfl
 · have hK : yY 3 g = (g.packs.filter (xk sH1)).map (zS 3) := by
    unfold yY
    rw [vf 3 rfl, List.nil_append]
    rw [List.filter_map]
    congr 1
    refine List.filter_congr fun p _ => ?_
    show (!vu 3 [] (zS 3 p)) = _
    have h := RA p
    unfold vu
    rw [h]
    simp
   unfold rL uy rI
   show zx.mk (List.filter _ []) (xg (yu (yY 3 g)) (yY 3 g)) = zx.mk [] ((g.packs.filter (xk sH1)).map (zS 3))
   congr 1
   rw [hK]
   exact ph (Un (.inl rfl) _)
 · have hK : yY 4 g = (wF [] g.packs).map (zS 4) := iA g.packs []
   unfold rL uy rI
   show zx.mk (List.filter _ []) (xg (yu (yY 4 g)) (yY 4 g)) = zx.mk [] ((wF [] g.packs).map (zS 4))
   congr 1
   rw [hK]
   exact ph (Un (.inr rfl) _)
end Go.Proofs.YtonbkdklidfmfaaGreatDoor
/- slices.DeleteFunc at texts and sums. Conditions: those of each lemma. -/
namespace Go.Proofs.YtonbkdklidfmfaaGreatDoor
open E
set_option linter.unusedSimpArgs false
set_option linter.unusedVariables false
set_option maxRecDepth 100000
theorem jd {α : Type} {p : α → Bool} {l : List α} {i : Nat} {pre post : List α} {x : α} (e1 : l = pre ++ x :: post) (e3 : p x = true) (e4 : ∀ y ∈ pre, p y = false) : (l.filter fun x => !p x) = pre ++ post.filter fun x => !p x := by
 rw [e1, List.filter_append, List.filter_cons, e3]
 simp only [Bool.not_true, Bool.false_eq_true, if_false]
 congr 1
 exact List.filter_eq_self.2 fun y hy => by rw [e4 y hy]; rfl
theorem sB {α : Type} (p : α → Bool) : ∀ (l : List α) (n i : Nat), xN p l n = some i → ∃ pre x post, l = pre ++ x :: post ∧ n + pre.length = i ∧ p x = true ∧ ∀ y ∈ pre, p y = false
 | [], n, i, h => by cases h
 | x :: r, n, i, h => by
  rw [xN] at h
  split at h
  · rename_i hx
    cases h
    exact ⟨[], x, r, rfl, rfl, hx, fun y hy => by simp at hy⟩
  · rename_i hx
    obtain ⟨pre, y, post, e1, e2, e3, e4⟩ := sB p r (n + 1) i h
    refine ⟨x :: pre, y, post, by rw [e1]; rfl, by simp; omega, e3, fun z hz => ?_⟩
    rcases List.mem_cons.1 hz with rfl | hz
    · simpa using hx
    · exact e4 z hz
theorem eU {α : Type} (p : α → Bool) (l : List α) (h : xN p l 0 = none) : l.filter (fun x => !p x) = l := by
 have h2 := tq p l 0
 rw [h] at h2
 refine List.filter_eq_self.2 fun x hx => ?_
 cases hc : p x with
 | false => rfl
 | true =>
  have : l.any p = true := List.any_eq_true.2 ⟨x, hx, hc⟩
  rw [this] at h2; cases h2
theorem qB : ∀ {ks : List Str} {s : Str}, s ∈ ks → s.length ≤ ya ks
 | k :: r, s, h => by
  rw [ya]
  rcases List.mem_cons.1 h with rfl | h
  · omega
  · have := qB h; omega
theorem qv (q : Str → Bool) : ∀ l : List Str, (l.filter q).length + ya (l.filter q) ≤ l.length + ya l
 | [] => Nat.le_refl _
 | x :: r => by
  have ih := qv q r
  have e : ∀ t : List Str, ya (x :: t) = x.length + ya t := fun _ => rfl
  cases h : q x with
  | true => rw [List.filter_cons_of_pos h, e, e, List.length_cons, List.length_cons]; omega
  | false => rw [List.filter_cons_of_neg (by rw [h]; decide), e, List.length_cons]; omega
theorem bn (g : Nat) (p : Str → Bool) (l : List Str) (hl : l.length ≤ 1048576) (hp : ∀ x ∈ l, zm (EV Tryz.prog pol) g (.t (.str x) :: []) = some (.t (.bool (p x)))) (cap : Option Nat) (n : Nat) (hn : n = l.length) : ∀ (R K J : List Str), (∀ x ∈ R, x ∈ l) → 1 ≤ J.length → K.length + J.length + R.length = l.length → ∃ J', (K ++ R.filter fun x => !p x).length + J'.length = l.length ∧
 EV Tryz.prog pol (.loop 49 122 1 [.sl 0 0 n cap, .t (.fn g []), .t (.int .i64 (K.length : Int)), .t (.int .i64 ((K.length + J.length : Nat) : Int))] [.ts 1 (strs (K ++ J ++ R))])
  = some (.loop (.exit 0) [.sl 0 0 n cap, .t (.int .i64 ((K ++ R.filter fun x => !p x).length : Int))] [.ts 1 (strs ((K ++ R.filter fun x => !p x) ++ J'))])
 | [], K, J, hR, hJ, hlen => by
  have c : decide (((K.length + J.length : Nat) : Int) < (n : Int)) = false := by simp at hlen; apply decide_eq_false; omega
  refine ⟨J, by simp at hlen; simpa using hlen, ?_⟩
  simp only [List.filter_nil, List.append_nil]
  refine zk Tryz.func49 rfl rfl ?_
  simp (disch := ((try simp only [LL]); omega)) only [↓GO, ↓DRW, GA, GX, ren, zo, za, refs, z8, cst, zr, isC, bin, una, z7, zd, blt, asArg, zg, zc, zf, z6, E.mkS, unN, ze, zq, zb, GS, simprocAttr, zD, zE, yT, yN, yP, yO, yU, gh1, yM, yA, yG, zR, mkO, yH, yB, y7, yS, zK, yL, yK, y9, oc, oTs, oT, zO, zO.rowTs, yF, isL, Bool.not_false, Bool.true_and, Bool.and_true, Bool.and_self, List.flatMap_append, List.map_append, List.set_cons_zero, List.set_cons_succ, GZ, c, zH]
 | x :: R, K, J, hR, hJ, hlen => by
  simp only [List.length_cons] at hlen
  have c : decide (((K.length + J.length : Nat) : Int) < (n : Int)) = true := by apply decide_eq_true; omega
  have c0 : decide ((0 : Int) ≤ ((K.length + J.length : Nat) : Int)) = true := by apply decide_eq_true; omega
  have c1 : decide ((0 : Int) ≤ (K.length : Int)) = true := by apply decide_eq_true; omega
  have c2 : decide ((K.length : Int) < (n : Int)) = true := by apply decide_eq_true; omega
  have hget : (strs (K ++ J ++ x :: R))[K.length + J.length]? = some [.str x] := wT (by rw [← List.length_append]; simp)
  have d1 := hp x (hR x (by simp))
  rw [List.filter_cons]
  cases q : p x with
  | true =>
   rw [q] at d1
   obtain ⟨J', hJ', IH⟩ := bn g p l hl hp cap n hn R K (J ++ [x]) (fun y hy => hR y (by simp [hy])) (by simp) (by simp; omega)
   rw [show K ++ (J ++ [x]) ++ R = K ++ J ++ x :: R by simp, show ((K.length + (J ++ [x]).length : Nat) : Int) = ((K.length + J.length : Nat) : Int) + 1 by simp; omega] at IH
   simp only [Bool.not_true, Bool.false_eq_true, if_false]
   refine ⟨J', hJ', ?_⟩
   generalize strs (K ++ J ++ x :: R) = E0 at *
   generalize K ++ R.filter (fun x => !p x) = Z at *
   generalize hkj : K.length + J.length = kj at *
   refine zk Tryz.func49 rfl rfl ?_
   simp (disch := ((try simp only [LL]); omega)) only [↓GO, ↓DRW, GA, GX, ren, zo, za, refs, z8, cst, zr, isC, bin, una, z7, zd, blt, asArg, zg, zc, zf, z6, E.mkS, unN, ze, zq, zb, GS, simprocAttr, zD, zE, yT, yN, yP, yO, yU, gh1, yM, yA, yG, zR, mkO, yH, yB, y7, yS, zK, yL, yK, y9, oc, oTs, oT, zO, zO.rowTs, yF, isL, Bool.not_false, Bool.true_and, Bool.and_true, Bool.and_self, List.flatMap_append, List.map_append, List.set_cons_zero, List.set_cons_succ, GZ, c, c0, hget, d1, zn, Bool.not_true, zH, IH]
  | false =>
   rw [q] at d1
   obtain ⟨j0, Jt, rfl⟩ : ∃ j0 Jt, J = j0 :: Jt := by cases J with | nil => simp at hJ | cons a t => exact ⟨a, t, rfl⟩
   obtain ⟨J', hJ', IH⟩ := bn g p l hl hp cap n hn R (K ++ [x]) (Jt ++ [x]) (fun y hy => hR y (by simp [hy])) (by simp) (by simp at hlen ⊢; omega)
   have hset : (strs (K ++ j0 :: Jt ++ x :: R)).set K.length [.str x] = strs (K ++ [x] ++ (Jt ++ [x]) ++ R) := by
    have e1 : strs (K ++ j0 :: Jt ++ x :: R) = strs K ++ [.str j0] :: strs (Jt ++ x :: R) := by simp [strs]
    have e2 : strs (K ++ [x] ++ (Jt ++ [x]) ++ R) = strs K ++ [.str x] :: strs (Jt ++ x :: R) := by simp [strs]
    rw [e1, e2, List.set_append_right _ _ (by rw [zi]; exact Nat.le_refl _), zi, Nat.sub_self]
    rfl
   have hg0 : (strs (K ++ j0 :: Jt ++ x :: R))[K.length]? = some [.str j0] := wT (by simp)
   rw [show ((K ++ [x]).length : Int) = (K.length : Int) + 1 by simp, show (((K ++ [x]).length + (Jt ++ [x]).length : Nat) : Int) = ((K.length + (j0 :: Jt).length : Nat) : Int) + 1 by simp; omega] at IH
   simp only [Bool.not_false, if_true]
   refine ⟨J', by simpa using hJ', ?_⟩
   rw [show K ++ x :: R.filter (fun x => !p x) = K ++ [x] ++ R.filter (fun x => !p x) by simp]
   rw [← hset] at IH
   clear hset hJ'
   generalize strs (K ++ j0 :: Jt ++ x :: R) = E0 at *
   generalize K ++ [x] ++ R.filter (fun x => !p x) = Z at *
   have hkj2 : K.length + (j0 :: Jt).length ≤ 1048576 := by omega
   generalize hkj : K.length + (j0 :: Jt).length = kj at *
   have hkl : K.length ≤ 1048576 := by omega
   generalize K.length = kl at *
   refine zk Tryz.func49 rfl rfl ?_
   simp (disch := ((try simp only [LL]); omega)) only [↓GO, ↓DRW, GA, GX, ren, zo, za, refs, z8, cst, zr, isC, bin, una, z7, zd, blt, asArg, zg, zc, zf, z6, E.mkS, unN, ze, zq, zb, GS, simprocAttr, zD, zE, yT, yN, yP, yO, yU, gh1, yM, yA, yG, zR, mkO, yH, yB, y7, yS, zK, yL, yK, y9, oc, oTs, oT, zO, zO.rowTs, yF, isL, Bool.not_false, Bool.true_and, Bool.and_true, Bool.and_self, List.flatMap_append, List.map_append, List.set_cons_zero, List.set_cons_succ, GZ, c, c0, c1, c2, hget, hg0, d1, zn, Bool.not_false, zH, IH]
theorem UJ (g : Nat) (p : Str → Bool) (l : List Str) (hl : l.length ≤ 1048576) (hp : ∀ x ∈ l, zm (EV Tryz.prog pol) g (.t (.str x) :: []) = some (.t (.bool (p x)))) (cap : Option Nat) (n : Nat) (hn : n = l.length) : ∃ J', (l.filter fun x => !p x).length + J'.length = l.length ∧
 EV Tryz.prog pol (.callO false 49 [.sl 0 0 n cap, .t (.fn g [])] [.ts 1 (strs l)])
  = some (.call (.sl 0 0 (l.filter fun x => !p x).length cap) [.ts 1 (strs ((l.filter fun x => !p x) ++ J'))]) := by
 have d1 := lU g [] p l (by omega) hp
 have ht : (strs l).take n = strs l := List.take_of_length_le (by rw [zi]; omega)
 cases hf : xN p l 0 with
 | none =>
  rw [hf] at d1
  have hw := eU p l hf
  refine ⟨[], by rw [hw]; simp, ?_⟩
  rw [hw, List.append_nil, ← hn]
  simp only [ixI] at d1
  refine zP Tryz.func49 rfl (by kernel_rfl) ?_
  unfold Tryz.f49
  simp (disch := ((try simp only [LL]); omega)) only [↓GO, ↓DRW, GA, GX, ren, zo, za, refs, z8, cst, zr, isC, bin, una, z7, zd, blt, asArg, zg, zc, zf, z6, E.mkS, unN, ze, zq, zb, GS, simprocAttr, zD, zE, yT, yN, yP, yO, yU, gh1, yM, yA, yG, zR, mkO, yH, yB, y7, yS, zK, yL, yK, y9, oc, oTs, oT, zO, zO.rowTs, yF, isL, Bool.not_false, Bool.true_and, Bool.and_true, Bool.and_self, List.flatMap_append, List.map_append, List.set_cons_zero, List.set_cons_succ, GZ, d1, wx, ht, beq_self_eq_true, zH]
 | some i =>
  rw [hf] at d1
  obtain ⟨pre, x, post, e1, e2, e3, e4⟩ := sB _ l 0 i hf
  simp only [Nat.zero_add] at e2
  have hw := jd (i := i) e1 e3 e4
  have hlen : pre.length + 1 + post.length = l.length := by have h9 := congrArg List.length e1; simp at h9; omega
  have hmap : Option.map (fun x : Nat => x) cap = cap := by cases cap <;> rfl
  obtain ⟨J', hJ', L⟩ := bn g p l hl hp cap n hn post pre [x] (fun y hy => by rw [e1]; simp [hy]) (by simp) (by simpa using hlen)
  rw [show pre ++ [x] ++ post = l by rw [e1]; simp, show ((pre.length + [x].length : Nat) : Int) = (pre.length : Int) + 1 by simp, e2] at L
  have c0 : ((i : Int) == -1) = false := by rw [beq_eq_false_iff_ne]; omega
  have hwl : (l.filter fun x => !p x).length ≤ n := by rw [hn]; exact List.length_filter_le _ _
  rw [← hw] at L hJ'
  generalize (l.filter fun x => !p x) = Z at *
  have htk : (strs (Z ++ J')).take Z.length = strs Z := by rw [show strs (Z ++ J') = strs Z ++ strs J' by simp [strs], ← zi Z]; simp
  have hdk : (strs (Z ++ J')).drop (Z.length + (n - Z.length)) = [] := List.drop_of_length_le (by rw [zi, List.length_append]; omega)
  have hEl : (strs (Z ++ J')).length = n := by rw [zi, List.length_append, hn]; exact hJ'
  have hrp : strs Z ++ List.replicate (n - Z.length) [.str []] = strs (Z ++ List.replicate (n - Z.length) []) := by simp [strs]
  refine ⟨List.replicate (n - Z.length) [], by rw [List.length_replicate]; omega, ?_⟩
  rw [← hrp]
  have hil : i ≤ 1048576 := by omega
  have hnl : n ≤ 1048576 := by omega
  simp only [ixI] at d1
  clear hw hJ' hrp e1 hf e4 e3 hlen hp
  generalize strs (Z ++ J') = E1 at *
  have c1 : Z.length + (n - Z.length) ≤ n := by omega
  refine zP Tryz.func49 rfl (by kernel_rfl) ?_
  unfold Tryz.f49
  simp (disch := ((try simp only [LL]); omega)) only [↓GO, ↓DRW, GA, GX, ren, zo, za, refs, z8, cst, zr, isC, bin, una, z7, zd, blt, asArg, zg, zc, zf, z6, E.mkS, unN, ze, zq, zb, GS, simprocAttr, zD, zE, yT, yN, yP, yO, yU, gh1, yM, yA, yG, zR, mkO, yH, yB, y7, yS, zK, yL, yK, y9, oc, oTs, oT, zO, zO.rowTs, yF, isL, Bool.not_false, Bool.true_and, Bool.and_true, Bool.and_self, List.flatMap_append, List.map_append, List.set_cons_zero, List.set_cons_succ, GZ, d1, wx, ht, c0, L, hEl, htk, hdk, zn, List.append_nil, zH, Nat.zero_add, Nat.sub_zero, c1, and_self, if_true, List.append_assoc, hmap]
theorem kr (a b : List zy) : zy.zh (a ++ b) = zy.zh a ++ zy.zh b := by simp [zy.zh]
theorem bN {l : List zy} {i : Nat} {s : zy} (h : l[i]? = some s) : (zy.zh l)[i]? = some [.str s.alg, .str s.bytes] := by simp [zy.zh, zy.enc, h]
theorem UY (g k : Nat) (cell : T) (p : zy → Bool) (l : List zy) (hl : l.length ≤ 1048576) (hp : ∀ x ∈ l, zm (EV Tryz.prog pol) g (.agg (x.enc.map .t) :: [.t (.fp [.fn k [.fp [cell]]])]) = some (.t (.bool (p x)))) (cap : Option Nat) (n : Nat) (hn : n = l.length) : ∀ (R K J : List zy), (∀ x ∈ R, x ∈ l) → 1 ≤ J.length → K.length + J.length + R.length = l.length → ∃ J', (K ++ R.filter fun x => !p x).length + J'.length = l.length ∧
 EV Tryz.prog pol (.loop 99 122 3 [.sl 0 0 n cap, .fn g [.ptr 1 0 0], .t (.int .i64 (K.length : Int)), .t (.int .i64 ((K.length + J.length : Nat) : Int))] [.ts 2 (zy.zh (K ++ J ++ R)), .vs 1 [[.fn k [.ptr 2 0 0]]], .vs 1 [[.t cell]]])
  = some (.loop (.exit 0) [.sl 0 0 n cap, .t (.int .i64 ((K ++ R.filter fun x => !p x).length : Int))] [.ts 2 (zy.zh ((K ++ R.filter fun x => !p x) ++ J')), .vs 1 [[.fn k [.ptr 2 0 0]]], .vs 1 [[.t cell]]])
 | [], K, J, hR, hJ, hlen => by
  have c : decide (((K.length + J.length : Nat) : Int) < (n : Int)) = false := by simp at hlen; apply decide_eq_false; omega
  refine ⟨J, by simp at hlen; simpa using hlen, ?_⟩
  simp only [List.filter_nil, List.append_nil]
  refine zk Tryz.func99 rfl rfl ?_
  simp (disch := ((try simp only [LL]); omega)) only [↓GO, ↓DRW, GA, GX, ren, zo, za, refs, z8, cst, zr, isC, bin, una, z7, zd, blt, asArg, zg, zc, zf, z6, E.mkS, unN, ze, zq, zb, GS, simprocAttr, zD, zE, yT, yN, yP, yO, yU, gh1, yM, yA, yG, zR, mkO, yH, yB, y7, yS, zK, yL, yK, y9, oc, oTs, oT, zO, zO.rowTs, yF, isL, Bool.not_false, Bool.true_and, Bool.and_true, Bool.and_self, List.flatMap_append, List.map_append, List.set_cons_zero, List.set_cons_succ, GZ, c, zH]
 | x :: R, K, J, hR, hJ, hlen => by
  simp only [List.length_cons] at hlen
  have c : decide (((K.length + J.length : Nat) : Int) < (n : Int)) = true := by apply decide_eq_true; omega
  have c0 : decide ((0 : Int) ≤ ((K.length + J.length : Nat) : Int)) = true := by apply decide_eq_true; omega
  have c1 : decide ((0 : Int) ≤ (K.length : Int)) = true := by apply decide_eq_true; omega
  have c2 : decide ((K.length : Int) < (n : Int)) = true := by apply decide_eq_true; omega
  have hget : (zy.zh (K ++ J ++ x :: R))[K.length + J.length]? = some [.str x.alg, .str x.bytes] := bN (by rw [← List.length_append]; simp)
  have d1 := hp x (hR x (by simp))
  rw [List.filter_cons]
  cases q : p x with
  | true =>
   rw [q] at d1
   obtain ⟨J', hJ', IH⟩ := UY g k cell p l hl hp cap n hn R K (J ++ [x]) (fun y hy => hR y (by simp [hy])) (by simp) (by simp; omega)
   rw [show K ++ (J ++ [x]) ++ R = K ++ J ++ x :: R by simp, show ((K.length + (J ++ [x]).length : Nat) : Int) = ((K.length + J.length : Nat) : Int) + 1 by simp; omega] at IH
   simp only [Bool.not_true, Bool.false_eq_true, if_false]
   refine ⟨J', hJ', ?_⟩
   simp only [zy.enc, List.map_cons, List.map_nil] at d1
   generalize zy.zh (K ++ J ++ x :: R) = E0 at *
   generalize K ++ R.filter (fun x => !p x) = Z at *
   generalize hkj : K.length + J.length = kj at *
   refine zk Tryz.func99 rfl rfl ?_
   simp (disch := ((try simp only [LL]); omega)) only [↓GO, ↓DRW, GA, GX, ren, zo, za, refs, z8, cst, zr, isC, bin, una, z7, zd, blt, asArg, zg, zc, zf, z6, E.mkS, unN, ze, zq, zb, GS, simprocAttr, zD, zE, yT, yN, yP, yO, yU, gh1, yM, yA, yG, zR, mkO, yH, yB, y7, yS, zK, yL, yK, y9, oc, oTs, oT, zO, zO.rowTs, yF, isL, Bool.not_false, Bool.true_and, Bool.and_true, Bool.and_self, List.flatMap_append, List.map_append, List.set_cons_zero, List.set_cons_succ, GZ, c, c0, hget, d1, zn, Bool.not_true, zH, IH]
  | false =>
   rw [q] at d1
   obtain ⟨j0, Jt, rfl⟩ : ∃ j0 Jt, J = j0 :: Jt := by cases J with | nil => simp at hJ | cons a t => exact ⟨a, t, rfl⟩
   obtain ⟨J', hJ', IH⟩ := UY g k cell p l hl hp cap n hn R (K ++ [x]) (Jt ++ [x]) (fun y hy => hR y (by simp [hy])) (by simp) (by simp at hlen ⊢; omega)
   have hset : (zy.zh (K ++ j0 :: Jt ++ x :: R)).set K.length [.str x.alg, .str x.bytes] = zy.zh (K ++ [x] ++ (Jt ++ [x]) ++ R) := by
    have e1 : zy.zh (K ++ j0 :: Jt ++ x :: R) = zy.zh K ++ j0.enc :: zy.zh (Jt ++ x :: R) := by simp [zy.zh]
    have e2 : zy.zh (K ++ [x] ++ (Jt ++ [x]) ++ R) = zy.zh K ++ x.enc :: zy.zh (Jt ++ x :: R) := by simp [zy.zh]
    rw [e1, e2, List.set_append_right _ _ (by rw [zy.zj]; exact Nat.le_refl _), zy.zj, Nat.sub_self]
    rfl
   have hg0 : (zy.zh (K ++ j0 :: Jt ++ x :: R))[K.length]? = some [.str j0.alg, .str j0.bytes] := bN (by simp)
   rw [show ((K ++ [x]).length : Int) = (K.length : Int) + 1 by simp, show (((K ++ [x]).length + (Jt ++ [x]).length : Nat) : Int) = ((K.length + (j0 :: Jt).length : Nat) : Int) + 1 by simp; omega] at IH
   simp only [Bool.not_false, if_true]
   refine ⟨J', by simpa using hJ', ?_⟩
   rw [show K ++ x :: R.filter (fun x => !p x) = K ++ [x] ++ R.filter (fun x => !p x) by simp]
   rw [← hset] at IH
   clear hset hJ'
   simp only [zy.enc, List.map_cons, List.map_nil] at d1
   generalize zy.zh (K ++ j0 :: Jt ++ x :: R) = E0 at *
   generalize K ++ [x] ++ R.filter (fun x => !p x) = Z at *
   have hkj2 : K.length + (j0 :: Jt).length ≤ 1048576 := by omega
   generalize hkj : K.length + (j0 :: Jt).length = kj at *
   have hkl : K.length ≤ 1048576 := by omega
   generalize K.length = kl at *
   refine zk Tryz.func99 rfl rfl ?_
   simp (disch := ((try simp only [LL]); omega)) only [↓GO, ↓DRW, GA, GX, ren, zo, za, refs, z8, cst, zr, isC, bin, una, z7, zd, blt, asArg, zg, zc, zf, z6, E.mkS, unN, ze, zq, zb, GS, simprocAttr, zD, zE, yT, yN, yP, yO, yU, gh1, yM, yA, yG, zR, mkO, yH, yB, y7, yS, zK, yL, yK, y9, oc, oTs, oT, zO, zO.rowTs, yF, isL, Bool.not_false, Bool.true_and, Bool.and_true, Bool.and_self, List.flatMap_append, List.map_append, List.set_cons_zero, List.set_cons_succ, GZ, c, c0, c1, c2, hget, hg0, d1, zn, Bool.not_false, zH, IH]
theorem c_dfM (g k : Nat) (cell : T) (p : zy → Bool) (l : List zy) (hl : l.length ≤ 1048576) (hp : ∀ x ∈ l, zm (EV Tryz.prog pol) g (.agg (x.enc.map .t) :: [.t (.fp [.fn k [.fp [cell]]])]) = some (.t (.bool (p x)))) (cap : Option Nat) (n : Nat) (hn : n = l.length) : ∃ J', (l.filter fun x => !p x).length + J'.length = l.length ∧
 EV Tryz.prog pol (.callO false 99 [.sl 0 0 n cap, .fn g [.ptr 1 0 0]] [.ts 2 (zy.zh l), .vs 1 [[.fn k [.ptr 2 0 0]]], .vs 1 [[.t cell]]])
  = some (.call (.sl 0 0 (l.filter fun x => !p x).length cap) [.ts 2 (zy.zh ((l.filter fun x => !p x) ++ J')), .vs 1 [[.fn k [.ptr 2 0 0]]], .vs 1 [[.t cell]]]) := by
 have d1 := mK g [.fp [.fn k [.fp [cell]]]] p l (by omega) hp
 have ht : (zy.zh l).take n = zy.zh l := List.take_of_length_le (by rw [zy.zj]; omega)
 cases hf : xN p l 0 with
 | none =>
  rw [hf] at d1
  have hw := eU p l hf
  refine ⟨[], by rw [hw]; simp, ?_⟩
  rw [hw, List.append_nil, ← hn]
  simp only [ixI] at d1
  refine zP Tryz.func99 rfl (by kernel_rfl) ?_
  unfold Tryz.f99
  simp (disch := ((try simp only [LL]); omega)) only [↓GO, ↓DRW, GA, GX, ren, zo, za, refs, z8, cst, zr, isC, bin, una, z7, zd, blt, asArg, zg, zc, zf, z6, E.mkS, unN, ze, zq, zb, GS, simprocAttr, zD, zE, yT, yN, yP, yO, yU, gh1, yM, yA, yG, zR, mkO, yH, yB, y7, yS, zK, yL, yK, y9, oc, oTs, oT, zO, zO.rowTs, yF, isL, Bool.not_false, Bool.true_and, Bool.and_true, Bool.and_self, List.flatMap_append, List.map_append, List.set_cons_zero, List.set_cons_succ, GZ, d1, wx, ht, beq_self_eq_true, zH]
 | some i =>
  rw [hf] at d1
  obtain ⟨pre, x, post, e1, e2, e3, e4⟩ := sB _ l 0 i hf
  simp only [Nat.zero_add] at e2
  have hw := jd (i := i) e1 e3 e4
  have hlen : pre.length + 1 + post.length = l.length := by have h9 := congrArg List.length e1; simp at h9; omega
  have hmap : Option.map (fun x : Nat => x) cap = cap := by cases cap <;> rfl
  obtain ⟨J', hJ', L⟩ := UY g k cell p l hl hp cap n hn post pre [x] (fun y hy => by rw [e1]; simp [hy]) (by simp) (by simpa using hlen)
  rw [show pre ++ [x] ++ post = l by rw [e1]; simp, show ((pre.length + [x].length : Nat) : Int) = (pre.length : Int) + 1 by simp, e2] at L
  have c0 : ((i : Int) == -1) = false := by rw [beq_eq_false_iff_ne]; omega
  have hwl : (l.filter fun x => !p x).length ≤ n := by rw [hn]; exact List.length_filter_le _ _
  rw [← hw] at L hJ'
  generalize (l.filter fun x => !p x) = Z at *
  have htk : (zy.zh (Z ++ J')).take Z.length = zy.zh Z := by rw [kr, ← zy.zj Z]; simp
  have hdk : (zy.zh (Z ++ J')).drop (Z.length + (n - Z.length)) = [] := List.drop_of_length_le (by rw [zy.zj, List.length_append]; omega)
  have hEl : (zy.zh (Z ++ J')).length = n := by rw [zy.zj, List.length_append, hn]; exact hJ'
  have hrp : zy.zh Z ++ List.replicate (n - Z.length) [.str [], .str []] = zy.zh (Z ++ List.replicate (n - Z.length) ⟨[], []⟩) := by simp [zy.zh, zy.enc]
  refine ⟨List.replicate (n - Z.length) ⟨[], []⟩, by rw [List.length_replicate]; omega, ?_⟩
  rw [← hrp]
  have hil : i ≤ 1048576 := by omega
  have hnl : n ≤ 1048576 := by omega
  simp only [ixI] at d1
  clear hw hJ' hrp e1 hf e4 e3 hlen hp
  generalize zy.zh (Z ++ J') = E1 at *
  have c1 : Z.length + (n - Z.length) ≤ n := by omega
  refine zP Tryz.func99 rfl (by kernel_rfl) ?_
  unfold Tryz.f99
  simp (disch := ((try simp only [LL]); omega)) only [↓GO, ↓DRW, GA, GX, ren, zo, za, refs, z8, cst, zr, isC, bin, una, z7, zd, blt, asArg, zg, zc, zf, z6, E.mkS, unN, ze, zq, zb, GS, simprocAttr, zD, zE, yT, yN, yP, yO, yU, gh1, yM, yA, yG, zR, mkO, yH, yB, y7, yS, zK, yL, yK, y9, oc, oTs, oT, zO, zO.rowTs, yF, isL, Bool.not_false, Bool.true_and, Bool.and_true, Bool.and_self, List.flatMap_append, List.map_append, List.set_cons_zero, List.set_cons_succ, GZ, d1, wx, ht, c0, L, hEl, htk, hdk, zn, List.append_nil, zH, Nat.zero_add, Nat.sub_zero, c1, and_self, if_true, List.append_assoc, hmap]
end Go.Proofs.YtonbkdklidfmfaaGreatDoor
/- Project's parts, the program's way. Conditions: those of each lemma. -/
namespace Go.Proofs.YtonbkdklidfmfaaGreatDoor
open E
set_option linter.unusedSimpArgs false
set_option linter.unusedVariables false
set_option maxRecDepth 100000
theorem WK (k : Str) (hl : k.length ≤ 4611686018427387904) : zm (EV Tryz.prog pol) 48 [.t (.str k)] = some (.t (.str (vD k).1)) := by
 have d1 := c_skI k hl
 apply zu
 refine zw rfl Tryz.func48 rfl (by kernel_rfl) ?_
 unfold Tryz.f48
 simp (disch := ((try simp only [LL]); omega)) only [↓GO, ↓DRW, GA, GX, ren, zo, za, refs, z8, cst, zr, isC, bin, una, z7, zd, blt, asArg, zg, zc, zf, z6, E.mkS, unN, ze, zq, zb, GS, simprocAttr, GZ, d1, zH]
theorem R8 (k : Str) (hl : k.length ≤ 4611686018427387904) : zm (EV Tryz.prog pol) 47 (.t (.str k) :: []) = some (.t (.bool (rootKey k))) := by
 have d1 := WK k hl
 unfold rootKey xi
 apply zu
 refine zw rfl Tryz.func47 rfl (by kernel_rfl) ?_
 unfold Tryz.f47
 simp (disch := ((try simp only [LL]); omega)) only [↓GO, ↓DRW, GA, GX, ren, zo, za, refs, z8, cst, zr, isC, bin, una, z7, zd, blt, asArg, zg, zc, zf, z6, E.mkS, unN, ze, zq, zb, GS, simprocAttr, GZ, d1, zH]
theorem c_pj2 (x : z1) : zm (EV Tryz.prog pol) 51 (.agg (x.enc.map .t) :: []) = some (.t (.bool (x.name == xi))) := by
 obtain ⟨name, version, source, sums, dev, zC⟩ := x
 simp only [z1.enc, List.map_cons, List.map_nil, xi]
 apply zu
 refine zw rfl Tryz.func51 rfl (by kernel_rfl) ?_
 unfold Tryz.f51
 simp (disch := ((try simp only [LL]); omega)) only [↓GO, ↓DRW, GA, GX, ren, zo, za, refs, z8, cst, zr, isC, bin, una, z7, zd, blt, asArg, zg, zc, zf, z6, E.mkS, unN, ze, zq, zb, GS, simprocAttr, GZ, zH]
theorem c_hs1 (a : Str) (s : zy) : zm (EV Tryz.prog pol) 98 (.agg (s.enc.map .t) :: [.t (.fp [.str a])]) = some (.t (.bool (s.alg == a))) := by
 obtain ⟨alg, bytes⟩ := s
 simp only [zy.enc, List.map_cons, List.map_nil]
 apply zu
 refine zw rfl Tryz.func98 rfl (by kernel_rfl) ?_
 unfold Tryz.f98
 simp (disch := ((try simp only [LL]); omega)) only [↓GO, ↓DRW, GA, GX, ren, zo, za, refs, z8, cst, zr, isC, bin, una, z7, zd, blt, asArg, zg, zc, zf, z6, E.mkS, unN, ze, zq, zb, GS, simprocAttr, GZ, zH]
theorem RZ (x : z1) (hb : x.zY ≤ 1048576) (a : Str) : zm (EV Tryz.prog pol) 53 [.agg (x.enc.map .t), .t (.str a)] = some (.t (.bool (xk a x))) := by
 have d1 := cu 98 [.fp [.str a]] (fun s => s.alg == a) x.sums (by unfold z1.zY at hb; omega) fun s _ => c_hs1 a s
 unfold xk
 generalize (x.sums.any fun s => s.alg == a) = b at *
 obtain ⟨name, version, source, sums, dev, zC⟩ := x
 simp only [z1.enc, List.map_cons, List.map_nil] at d1 ⊢
 apply zu
 refine zw rfl Tryz.func53 rfl (by kernel_rfl) ?_
 unfold Tryz.f53
 simp (disch := ((try simp only [LL]); omega)) only [↓GO, ↓DRW, GA, GX, ren, zo, za, refs, z8, cst, zr, isC, bin, una, z7, zd, blt, asArg, zg, zc, zf, z6, E.mkS, unN, ze, zq, zb, GS, simprocAttr, GZ, d1, wx, zH]
theorem c_pj3 (x : z1) (hb : x.zY ≤ 1048576) : zm (EV Tryz.prog pol) 52 (.agg (x.enc.map .t) :: []) = some (.t (.bool (!xk sH1 x))) := by
 have d1 := RZ x hb sH1
 obtain ⟨name, version, source, sums, dev, zC⟩ := x
 simp only [z1.enc, List.map_cons, List.map_nil, sH1] at d1 ⊢
 apply zu
 refine zw rfl Tryz.func52 rfl (by kernel_rfl) ?_
 unfold Tryz.f52
 simp (disch := ((try simp only [LL]); omega)) only [↓GO, ↓DRW, GA, GX, ren, zo, za, refs, z8, cst, zr, isC, bin, una, z7, zd, blt, asArg, zg, zc, zf, z6, E.mkS, unN, ze, zq, zb, GS, simprocAttr, GZ, d1, zH]
theorem c_pj4 (p x : z1) : zm (EV Tryz.prog pol) 55 (.agg (x.enc.map .t) :: [.t (.fp p.enc)]) = some (.t (.bool (xW p x))) := by
 unfold xW
 obtain ⟨name, version, source, sums, dev, zC⟩ := p
 obtain ⟨name', version', source', sums', dev', needs'⟩ := x
 simp only [z1.enc, List.map_cons, List.map_nil]
 cases q : (name' == name) with
 | true =>
  apply zu
  refine zw rfl Tryz.func55 rfl (by kernel_rfl) ?_
  unfold Tryz.f55
  simp (disch := ((try simp only [LL]); omega)) only [↓GO, ↓DRW, GA, GX, ren, zo, za, refs, z8, cst, zr, isC, bin, una, z7, zd, blt, asArg, zg, zc, zf, z6, E.mkS, unN, ze, zq, zb, GS, simprocAttr, GZ, q, zH]
 | false =>
  apply zu
  refine zw rfl Tryz.func55 rfl (by kernel_rfl) ?_
  unfold Tryz.f55
  simp (disch := ((try simp only [LL]); omega)) only [↓GO, ↓DRW, GA, GX, ren, zo, za, refs, z8, cst, zr, isC, bin, una, z7, zd, blt, asArg, zg, zc, zf, z6, E.mkS, unN, ze, zq, zb, GS, simprocAttr, GZ, q, zH]
theorem c_pj5 (f : Int) (hf : u0 f) (s : zy) : zm (EV Tryz.prog pol) 57 [.t (.str s.alg), .t (.fp [.int .i64 f])] = some (.t (.bool (xo f s))) := by
 obtain ⟨alg, bytes⟩ := s
 unfold xo T2 sH1
 rcases hf with rfl | rfl | rfl | rfl | rfl
 all_goals
  simp only [Int.reduceBEq, Bool.or_false, Bool.or_true, Bool.false_or, cond_true, cond_false]
  apply zu
  refine zw rfl Tryz.func57 rfl (by kernel_rfl) ?_
  unfold Tryz.f57
  simp (disch := ((try simp only [LL]); omega)) only [↓GO, ↓DRW, GA, GX, ren, zo, za, refs, z8, cst, zr, isC, bin, una, z7, zd, blt, asArg, zg, zc, zf, z6, E.mkS, unN, ze, zq, zb, GS, simprocAttr, GZ, bne, zH]
theorem c_os1 (f : Int) (hf : u0 f) (s : zy) : zm (EV Tryz.prog pol) 100 (.agg (s.enc.map .t) :: [.t (.fp [.fn 57 [.fp [.int .i64 f]]])]) = some (.t (.bool (!xo f s))) := by
 have d1 := c_pj5 f hf s
 obtain ⟨alg, bytes⟩ := s
 simp only [zy.enc, List.map_cons, List.map_nil] at d1 ⊢
 apply zu
 refine zw rfl Tryz.func100 rfl (by kernel_rfl) ?_
 unfold Tryz.f100
 simp (disch := ((try simp only [LL]); omega)) only [↓GO, ↓DRW, GA, GX, ren, zo, za, refs, z8, cst, zr, isC, bin, una, z7, zd, blt, asArg, zg, zc, zf, z6, E.mkS, unN, ze, zq, zb, GS, simprocAttr, GZ, d1, zH]
theorem TL (f : Int) (l : List zy) : (l.filter fun x => !(!xo f x)) = l.filter (xo f) := by
 congr 1
 funext x
 rw [Bool.not_not]
theorem c_osI (f : Int) (hf : u0 f) (A B : List (List V)) (hA : noR A) (hB : noR B) (i : Nat) (hi : A.length = i) (x : z1) (hb : x.zY ≤ 1048576) (n : Nat) (hn : n = x.sums.length) : ∃ J, (x.sums.filter (xo f)).length + J.length = x.sums.length ∧
 EV Tryz.prog pol (.callO false 56 [.ptr 0 i 0, .fn 57 [.ptr 1 0 0]] [.vs 6 (A ++ [.t (.str x.name), .t (.str x.version), .t (.str x.source), .sl 2 0 n none, .t (.bool x.dev), .o (.list 1 (strs x.zC))] :: B), .vs 1 [[.t (.int .i64 f)]], .ts 2 (zy.zh x.sums)])
  = some (.call (.tup []) [.vs 6 (A ++ [.t (.str x.name), .t (.str x.version), .t (.str x.source), .sl 2 0 (x.sums.filter (xo f)).length none, .t (.bool x.dev), .o (.list 1 (strs x.zC))] :: B), .vs 1 [[.t (.int .i64 f)]], .ts 2 (zy.zh (x.sums.filter (xo f) ++ J))]) := by
 obtain ⟨J, hJ, d1⟩ := c_dfM 100 57 (.int .i64 f) (fun s => !xo f s) x.sums (by unfold z1.zY at hb; omega) (fun s _ => c_os1 f hf s) none n hn
 rw [TL] at d1 hJ
 refine ⟨J, hJ, ?_⟩
 obtain ⟨hA1, hA2, _⟩ := hA
 obtain ⟨hB1, hB2, _⟩ := hB
 have hg := fun y => xH A B y i hi
 have hs := fun y z => xt A B y z i hi
 generalize zy.zh (x.sums.filter (xo f) ++ J) = E1 at *
 generalize (x.sums.filter (xo f)).length = z at *
 obtain ⟨name, version, source, sums, dev, zC⟩ := x
 simp only at d1 ⊢
 generalize zy.zh sums = E0 at *
 generalize strs zC = E2 at *
 clear hJ hb hi hn
 refine zP Tryz.func56 rfl (by kernel_rfl) ?_
 unfold Tryz.f56
 simp (disch := ((try simp only [LL]); omega)) only [↓GO, ↓DRW, GA, GX, ren, zo, za, refs, z8, cst, zr, isC, bin, una, z7, zd, blt, asArg, zg, zc, zf, z6, E.mkS, unN, ze, zq, zb, GS, simprocAttr, zD, zE, yT, yN, yP, yO, yU, gh1, yM, yA, yG, zR, mkO, yH, yB, y7, yS, zK, yL, yK, y9, oc, oTs, oT, zO, zO.rowTs, yF, isL, Bool.not_false, Bool.true_and, Bool.and_true, Bool.and_self, List.flatMap_append, List.map_append, List.set_cons_zero, List.set_cons_succ, GZ, d1, hg, hs, hA1, hA2, hB1, hB2, zH]
set_option maxHeartbeats 4000000 in
theorem SS (f : Int) (tT : List (List T)) (nt : Nat) (n : Nat) : ∀ (rest pre : List z1), n = pre.length + rest.length → n ≤ 1048576 → (∀ x ∈ rest, x.zY ≤ 1048576) →
 EV Tryz.prog pol (.loop 10 62942 0 [.ptr 0 0 0, .ptr 1 0 0, .ptr 2 0 0, .t (.fn 47 []), .sl 3 0 n none, .t (.int .i64 (n : Int)), .t (.int .i64 (pre.length : Int))] [.vs 1 [[.t (.int .i64 f)]], .vs 2 [zG], .vs 2 [[.sl 4 0 nt none, .sl 3 0 n none]], .vs 6 (ocE (z1.zh pre) ++ ocE (z1.zh rest)), .ts 1 tT])
  = some (.loop (.exit 1) [.ptr 0 0 0, .ptr 1 0 0, .ptr 2 0 0] [.vs 1 [[.t (.int .i64 f)]], .vs 2 [zG], .vs 2 [[.sl 3 0 nt none, .sl 4 0 n none]], .ts 1 tT, .vs 6 (ocE (z1.zh (pre ++ rest.map xw)))])
 | [], pre, hn, hM, hb => by
  have c : decide ((pre.length : Int) < (n : Int)) = false := by simp at hn; apply decide_eq_false; omega
  obtain ⟨h1, h2, _⟩ := x8 pre
  rw [List.map_nil, List.append_nil, show ocE (z1.zh []) = [] from rfl, List.append_nil]
  generalize ocE (z1.zh pre) = E0 at *
  simp only [zG]
  refine zk Tryz.func10 rfl rfl ?_
  simp (disch := ((try simp only [LL]); omega)) only [↓GO, ↓DRW, GA, GX, ren, zo, za, refs, z8, cst, zr, isC, bin, una, z7, zd, blt, asArg, zg, zc, zf, z6, E.mkS, unN, ze, zq, zb, GS, simprocAttr, zD, zE, yT, yN, yP, yO, yU, gh1, yM, yA, yG, zR, mkO, yH, yB, y7, yS, zK, yL, yK, y9, oc, oTs, oT, zO, zO.rowTs, yF, isL, Bool.not_false, Bool.true_and, Bool.and_true, Bool.and_self, List.flatMap_append, List.map_append, List.set_cons_zero, List.set_cons_succ, GZ, c, h1, h2, zH]
 | x :: rest, pre, hn, hM, hb => by
  simp only [List.length_cons] at hn
  have c : decide ((pre.length : Int) < (n : Int)) = true := by apply decide_eq_true; omega
  have c0 : decide ((0 : Int) ≤ (pre.length : Int)) = true := by apply decide_eq_true; omega
  have c00 : (0 : Int) ≤ (pre.length : Int) := by omega
  have hpl : pre.length ≤ 1048576 := by omega
  have hPl : (ocE (z1.zh pre)).length = pre.length := by rw [zT, z1.zj]
  have IH := SS f tT nt n rest (pre ++ [xw x]) (by simp; omega) hM (fun y hy => hb y (by simp [hy]))
  rw [wB, show ocE (z1.zh [xw x]) = [[V.t (.str x.name), .t (.str x.version), .t (.str x.source), .o (.list 2 (zy.zh x.sums)), .t (.bool x.dev), .o (.list 1 (strs (x.zC.filter fun k => !rootKey k)))]] from rfl, show ((pre ++ [xw x]).length : Int) = (pre.length : Int) + 1 by simp, List.append_assoc, List.singleton_append, List.append_assoc, List.singleton_append] at IH
  rw [dC, List.map_cons]
  have hxb := hb x (by simp)
  have hnl : x.zC.length ≤ 1048576 := by unfold z1.zY at hxb; omega
  obtain ⟨J, hJ, d1⟩ := UJ 47 rootKey x.zC hnl (fun k hk => R8 k (by have := qB hk; unfold z1.zY at hxb; omega)) none x.zC.length rfl
  obtain ⟨hA1, hA2, _⟩ := x8 pre
  obtain ⟨hB1, hB2, _⟩ := x8 rest
  have hg := fun y => xH (ocE (z1.zh pre)) (ocE (z1.zh rest)) y pre.length hPl
  have hs := fun y z => xt (ocE (z1.zh pre)) (ocE (z1.zh rest)) y z pre.length hPl
  have hf2 := yq x.zC
  have hs2 := zi x.zC
  have hk2 : (strs x.zC).take x.zC.length = strs x.zC := List.take_of_length_le (by rw [hs2]; exact Nat.le_refl _)
  generalize (x.zC.filter fun k => !rootKey k) = Z at *
  have hE : (strs (Z ++ J)).take Z.length = strs Z := by rw [show strs (Z ++ J) = strs Z ++ strs J by simp [strs], ← zi Z]; simp
  have hEf := yq Z
  have hEf1 := yq (Z ++ J)
  have hEl : (strs (Z ++ J)).length = Z.length + J.length := by rw [zi, List.length_append]
  have hZl : Z.length ≤ (strs (Z ++ J)).length := by omega
  obtain ⟨name, version, source, sums, dev, zC⟩ := x
  simp only at IH d1 hf2 hs2 hk2 hnl hJ ⊢
  generalize ocE (z1.zh (pre ++ xw (z1.mk name version source sums dev zC) :: rest.map xw)) = R at *
  generalize ocE (z1.zh pre) = P at *
  generalize ocE (z1.zh rest) = B at *
  generalize zy.zh sums = es1 at *
  clear hb hxb hPl hn
  simp only [zG] at IH ⊢
  by_cases hq : (strs (Z ++ J)).length = Z.length
  · have hJ0 : J = [] := List.eq_nil_of_length_eq_zero (by omega)
    subst hJ0
    rw [List.append_nil] at *
    generalize strs Z = E1 at *
    generalize strs zC = E2 at *
    generalize pre.length = kl at *
    refine zk Tryz.func10 rfl rfl ?_
    simp (maxSteps := 1000000) (disch := ((try simp only [LL]); omega)) only [↓GO, ↓DRW, GA, GX, ren, zo, za, refs, z8, cst, zr, isC, bin, una, z7, zd, blt, asArg, zg, zc, zf, z6, E.mkS, unN, ze, zq, zb, GS, simprocAttr, zD, zE, yT, yN, yP, yO, yU, gh1, yM, yA, yG, zR, mkO, yH, yB, y7, yS, zK, yL, yK, y9, oc, oTs, oT, zO, zO.rowTs, yF, isL, Bool.not_false, Bool.true_and, Bool.and_true, Bool.and_self, List.flatMap_append, List.map_append, List.set_cons_zero, List.set_cons_succ, GZ, c, c0, c00, if_true, Int.toNat_natCast, hg, hs, hf2, hs2, hk2, d1, hA1, hA2, hB1, hB2, hEf, hq, zn, zH, IH]
    all_goals (refine x5 (by kernel_rfl) ?_; rfl)
  · have hq' : ((strs (Z ++ J)).length = Z.length) = False := eq_false hq
    generalize strs (Z ++ J) = E0 at *
    generalize strs Z = E1 at *
    generalize strs zC = E2 at *
    generalize pre.length = kl at *
    refine zk Tryz.func10 rfl rfl ?_
    simp (maxSteps := 1000000) (disch := ((try simp only [LL]); omega)) only [↓GO, ↓DRW, GA, GX, ren, zo, za, refs, z8, cst, zr, isC, bin, una, z7, zd, blt, asArg, zg, zc, zf, z6, E.mkS, unN, ze, zq, zb, GS, simprocAttr, zD, zE, yT, yN, yP, yO, yU, gh1, yM, yA, yG, zR, mkO, yH, yB, y7, yS, zK, yL, yK, y9, oc, oTs, oT, zO, zO.rowTs, yF, isL, Bool.not_false, Bool.true_and, Bool.and_true, Bool.and_self, List.flatMap_append, List.map_append, List.set_cons_zero, List.set_cons_succ, GZ, c, c0, c00, if_true, Int.toNat_natCast, hg, hs, hf2, hs2, hk2, d1, hA1, hA2, hB1, hB2, hEf, hE, hq', hZl, false_and, if_false, zn, zH, IH]
    all_goals (refine x5 (by kernel_rfl) ?_; rfl)
end Go.Proofs.YtonbkdklidfmfaaGreatDoor

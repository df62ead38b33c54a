/- Joined: K2 P2 K3 K4 K5 K6 G3 V5 V6. Conditions: those of each lemma. -/
import Derived.Test.YtijninlbpifonaaGreatDoorZI
import Derived.Test.YtijninlbpifonaaGreatDoorZH
set_option linter.unusedVariables false
set_option linter.unusedSimpArgs false
namespace Go.Proofs.YtijninlbpifonaaGreatDoor
open E
set_option linter.unusedSimpArgs false
set_option linter.unusedVariables false
set_option maxRecDepth 100000
theorem y6 (h : Heap) (ids : List Nat) : reach h 3 ids = uo h 3 ids := (sS h 3 ids).symm
theorem RF (n : Int) : B2 n 0 999999999 = n9 n := rfl
/-- a version of bounded size -/
def Ver.sm (v : Ver) : Prop := v.pre.length + yj v.pre ≤ 2097152
theorem ud {α : Type} [BEq α] (l : List α) : ((l.length : Int) == 0) = (l == []) := by
 cases l with
 | nil => rfl
 | cons x l =>
  have h1 : ((x :: l) == []) = false := rfl
  have h2 : (((x :: l).length : Int) == 0) = false := by rw [beq_eq_false_iff_ne]; simp only [List.length_cons]; omega
  rw [h1, h2]
theorem gu {α : Type} [BEq α] (l : List α) : decide ((l.length : Int) > 0) = !(l == []) := by
 cases l with
 | nil => rfl
 | cons x l =>
  have h1 : ((x :: l) == []) = false := rfl
  have h2 : decide (((x :: l).length : Int) > 0) = true := by simp only [decide_eq_true_eq, List.length_cons]; omega
  rw [h1, h2]; rfl
theorem Tj (b : UInt8) : B2 (b.toNat : Int) 48 57 = isD b := aR b
theorem bj (a : Int) : zE (EV Tryz.prog pol) 301 [.t (.int .u8 a)] = some (.t (.bool (B2 a 97 122 || B2 a 65 90))) := by
 have h1 := jJ a
 apply zz
 refine zA rfl Tryz.func301 rfl (by kernel_rfl) ?_
 unfold Tryz.f301
 cases h2 : B2 a 97 122 <;> rw [h2] at h1
 · unfold B2
   cases h3 : decide ((65 : Int) ≤ a) <;> simp (disch := ((try simp only [LL]); omega)) only [↓GO, ↓DRW, GA, ren, zG, zd, refs, zb, cst, zl, zM, z7, E.load, E.store, zL, isC, bin, zN, zO, una, z8, za, zh, zP, blt, fnV, asArg, ze, zn, zo, zj, zm, zg, zk, zu, z6, zK, zJ, E.mkS, zc, unN, zQ, zi, zw, zq, zC, zI, zf, zR, zr, GS, simprocAttr, GZ, h1, h3, ge_iff_le]
 · simp (disch := ((try simp only [LL]); omega)) only [↓GO, ↓DRW, GA, ren, zG, zd, refs, zb, cst, zl, zM, z7, E.load, E.store, zL, isC, bin, zN, zO, una, z8, za, zh, zP, blt, fnV, asArg, ze, zn, zo, zj, zm, zg, zk, zu, z6, zK, zJ, E.mkS, zc, unN, zQ, zi, zw, zq, zC, zI, zf, zR, zr, GS, simprocAttr, GZ, h1]
theorem Qy (b : UInt8) : zE (EV Tryz.prog pol) 300 [.t (.int .u8 (b.toNat : Int))] = some (.t (.bool (preB b))) := by
 have h1 := bj (b.toNat : Int)
 have h2 := o8 (b.toNat : Int)
 apply zz
 refine zA rfl Tryz.func300 rfl (by kernel_rfl) ?_
 unfold Tryz.f300
 unfold preB
 simp only [nb]
 cases h3 : B2 (b.toNat : Int) 97 122 <;> cases h4 : B2 (b.toNat : Int) 65 90 <;> cases h5 : B2 (b.toNat : Int) 48 57 <;> rw [h3, h4] at h1 <;> rw [h5] at h2 <;>
  simp (disch := ((try simp only [LL]); omega)) only [↓GO, ↓DRW, GA, ren, zG, zd, refs, zb, cst, zl, zM, z7, E.load, E.store, zL, isC, bin, zN, zO, una, z8, za, zh, zP, blt, fnV, asArg, ze, zn, zo, zj, zm, zg, zk, zu, z6, zK, zJ, E.mkS, zc, unN, zQ, zi, zw, zq, zC, zI, zf, zR, zr, GS, simprocAttr, GZ, h1, h2]
theorem Rb (b : UInt8) : zE (EV Tryz.prog pol) 234 [.t (.int .u8 (b.toNat : Int))] = some (.t (.bool (isD b))) := by
 rw [o8, Tj]
theorem hZ (s : Str) (hl : s.length ≤ 9223372036854775807) : zE (EV Tryz.prog pol) 246 [.t (.str s)] = some (.t (.bool (isNum s))) := by
 have h := YF 234 isD Rb s hl
 apply zz
 refine zA rfl Tryz.func246 rfl (by kernel_rfl) ?_
 unfold Tryz.f246
 unfold isNum
 cases h1 : (s == []) <;> simp (disch := ((try simp only [LL]); omega)) only [↓GO, ↓DRW, GA, ren, zG, zd, refs, zb, cst, zl, zM, z7, E.load, E.store, zL, isC, bin, zN, zO, una, z8, za, zh, zP, blt, fnV, asArg, ze, zn, zo, zj, zm, zg, zk, zu, z6, zK, zJ, E.mkS, zc, unN, zQ, zi, zw, zq, zC, zI, zf, zR, zr, GS, simprocAttr, GZ, h, h1, bne]
theorem Sy (x1 x2 x3 x4 : T) (a b c : Int) :
 EV Tryz.prog pol (.loop 244 26 0 [.ptr 0 0 0, .sl 1 0 3 (some 3), .t (.int .i64 3), .t (.int .i64 0)] [.vs 4 [[.t x1, .t x2, .t x3, .t x4]], .ts 1 [[.int .i64 a], [.int .i64 b], [.int .i64 c]]])
 = some (cond (n9 a && (n9 b && n9 c)) (.loop (.exit 0) [.ptr 0 0 0, .bad] [.vs 4 [[.t x1, .t x2, .t x3, .t x4]]]) (.loop .ret [.ptr 0 0 0, .t (.bool false)] [.vs 4 [[.t x1, .t x2, .t x3, .t x4]]])) := by
 have ha := uT a 0 999999999
 have hb := uT b 0 999999999
 have hc := uT c 0 999999999
 rw [RF] at ha hb hc
 cases h1 : n9 a <;> rw [h1] at ha
 · refine zD Tryz.func244 rfl rfl ?_
   simp (disch := ((try simp only [LL]); omega)) only [↓GO, ↓DRW, GA, ren, zG, zd, refs, zb, cst, zl, zM, z7, E.load, E.store, zL, isC, bin, zN, zO, una, z8, za, zh, zP, blt, fnV, asArg, ze, zn, zo, zj, zm, zg, zk, zu, z6, zK, zJ, E.mkS, zc, unN, zQ, zi, zw, zq, zC, zI, zf, zR, zr, GS, simprocAttr, GZ, ha, zB, y6, Int.cast_ofNat_Int]
 · refine zD Tryz.func244 rfl rfl ?_
   simp (disch := ((try simp only [LL]); omega)) only [↓GO, ↓DRW, GA, ren, zG, zd, refs, zb, cst, zl, zM, z7, E.load, E.store, zL, isC, bin, zN, zO, una, z8, za, zh, zP, blt, fnV, asArg, ze, zn, zo, zj, zm, zg, zk, zu, z6, zK, zJ, E.mkS, zc, unN, zQ, zi, zw, zq, zC, zI, zf, zR, zr, GS, simprocAttr, GZ, ha, zB, y6, Int.cast_ofNat_Int]
   cases h2 : n9 b <;> rw [h2] at hb
   · refine zD Tryz.func244 rfl rfl ?_
     simp (disch := ((try simp only [LL]); omega)) only [↓GO, ↓DRW, GA, ren, zG, zd, refs, zb, cst, zl, zM, z7, E.load, E.store, zL, isC, bin, zN, zO, una, z8, za, zh, zP, blt, fnV, asArg, ze, zn, zo, zj, zm, zg, zk, zu, z6, zK, zJ, E.mkS, zc, unN, zQ, zi, zw, zq, zC, zI, zf, zR, zr, GS, simprocAttr, GZ, hb, zB, Int.zero_add, y6, Int.cast_ofNat_Int, Int.reduceAdd]
   · refine zD Tryz.func244 rfl rfl ?_
     simp (disch := ((try simp only [LL]); omega)) only [↓GO, ↓DRW, GA, ren, zG, zd, refs, zb, cst, zl, zM, z7, E.load, E.store, zL, isC, bin, zN, zO, una, z8, za, zh, zP, blt, fnV, asArg, ze, zn, zo, zj, zm, zg, zk, zu, z6, zK, zJ, E.mkS, zc, unN, zQ, zi, zw, zq, zC, zI, zf, zR, zr, GS, simprocAttr, GZ, hb, zB, Int.zero_add, y6, Int.cast_ofNat_Int, Int.reduceAdd]
     cases h3 : n9 c <;> rw [h3] at hc
     · refine zD Tryz.func244 rfl rfl ?_
       simp (disch := ((try simp only [LL]); omega)) only [↓GO, ↓DRW, GA, ren, zG, zd, refs, zb, cst, zl, zM, z7, E.load, E.store, zL, isC, bin, zN, zO, una, z8, za, zh, zP, blt, fnV, asArg, ze, zn, zo, zj, zm, zg, zk, zu, z6, zK, zJ, E.mkS, zc, unN, zQ, zi, zw, zq, zC, zI, zf, zR, zr, GS, simprocAttr, GZ, hc, zB, Int.zero_add, y6, Int.cast_ofNat_Int, Int.reduceAdd]
     · refine zD Tryz.func244 rfl rfl ?_
       simp (disch := ((try simp only [LL]); omega)) only [↓GO, ↓DRW, GA, ren, zG, zd, refs, zb, cst, zl, zM, z7, E.load, E.store, zL, isC, bin, zN, zO, una, z8, za, zh, zP, blt, fnV, asArg, ze, zn, zo, zj, zm, zg, zk, zu, z6, zK, zJ, E.mkS, zc, unN, zQ, zi, zw, zq, zC, zI, zf, zR, zr, GS, simprocAttr, GZ, hc, zB, Int.zero_add, y6, Int.cast_ofNat_Int, Int.reduceAdd]
       refine zD Tryz.func244 rfl rfl ?_
       simp (disch := ((try simp only [LL]); omega)) only [↓GO, ↓DRW, GA, ren, zG, zd, refs, zb, cst, zl, zM, z7, E.load, E.store, zL, isC, bin, zN, zO, una, z8, za, zh, zP, blt, fnV, asArg, ze, zn, zo, zj, zm, zg, zk, zu, z6, zK, zJ, E.mkS, zc, unN, zQ, zi, zw, zq, zC, zI, zf, zR, zr, GS, simprocAttr, GZ, zB, Int.zero_add, y6, Int.cast_ofNat_Int, Int.reduceAdd]
theorem ZK (v : Ver) (hs : v.sm) : ∀ (rest pre : List Str), v.pre = pre ++ rest →
 EV Tryz.prog pol (.loop 244 58 0 [.ptr 0 0 0, .t (.list 1 (strs v.pre)), .t (.int .i64 (v.pre.length : Int)), .t (.int .i64 (pre.length : Int))] [.vs 4 [v.enc.map .t]])
 = some (cond (rest.all wi) (.loop (.exit 2) [.ptr 0 0 0, .bad] [.vs 4 [v.enc.map .t]]) (.loop .ret [.ptr 0 0 0, .t (.bool false)] [.vs 4 [v.enc.map .t]]))
 | [], pre, hp => by
  have c : decide ((pre.length : Int) < (v.pre.length : Int)) = false := by simp [hp]
  refine zD Tryz.func244 rfl rfl ?_
  simp only [↓GO, ↓DRW, GA, ren, zG, zd, refs, zb, cst, zl, zM, z7, E.load, E.store, zL, isC, bin, zN, zO, una, z8, za, zh, zP, blt, fnV, asArg, ze, zn, zo, zj, zm, zg, zk, zu, z6, zK, zJ, E.mkS, zc, unN, zQ, zi, zw, zq, zC, zI, zf, zR, zr, GS, simprocAttr, c, Ver.enc]
 | x :: rest, pre, hp => by
  unfold Ver.sm at hs
  have c : decide ((pre.length : Int) < (v.pre.length : Int)) = true := by simp [hp]; omega
  have hget : (strs v.pre)[pre.length]? = some [.str x] := by rw [hp]; exact wz pre x rest
  have hlen : pre.length + rest.length + 1 ≤ v.pre.length := by rw [hp]; simp; omega
  have hx : x.length ≤ 2097152 := by have := xW (ks := v.pre) (s := x) (by rw [hp]; simp); omega
  have IH := ZK v hs rest (pre ++ [x]) (by rw [hp]; simp)
  rw [show ((pre ++ [x]).length : Int) = (pre.length : Int) + 1 by simp] at IH
  have h1 := uT (x.length : Int) 1 20
  have h2 := YF 300 preB Qy x (by omega)
  have h3 := hZ x (by omega)
  have h4 := lY x (by omega)
  clear hp
  simp only [Ver.enc, List.map_cons, List.map_nil] at IH ⊢
  rw [List.all_cons, wi]
  have e4 : decide (zF x < 0) = !decide (0 ≤ zF x) := by
   rcases Int.lt_or_le (zF x) 0 with h | h
   · have a : ¬ (0 ≤ zF x) := by omega
     simp [h, a]
   · have a : ¬ (zF x < 0) := by omega
     simp [h, a]
  generalize B2 (x.length : Int) 1 20 = b1 at *
  generalize x.all preB = b2 at *
  generalize isNum x = b3 at *
  generalize zF x = rd at *
  generalize decide (0 ≤ rd) = b4 at *
  cases b1 <;> cases b2 <;> cases b3 <;> cases b4 <;> refine zD Tryz.func244 rfl rfl ?_ <;>
   simp (disch := ((try simp only [LL]); omega)) only [↓GO, ↓DRW, GA, ren, zG, zd, refs, zb, cst, zl, zM, z7, E.load, E.store, zL, isC, bin, zN, zO, una, z8, za, zh, zP, blt, fnV, asArg, ze, zn, zo, zj, zm, zg, zk, zu, z6, zK, zJ, E.mkS, zc, unN, zQ, zi, zw, zq, zC, zI, zf, zR, zr, GS, simprocAttr, GZ, c, hget, zB, h1, h2, h3, h4, e4, zH, IH, y6]
theorem Qu (v : Ver) (hs : v.sm) : zE (EV Tryz.prog pol) 244 [.agg (v.enc.map .t)] = some (.t (.bool (yz v))) := by
 have h1 := Sy (.int .i64 v.maj) (.int .i64 v.min) (.int .i64 v.pat) (.list 1 (strs v.pre)) v.maj v.min v.pat
 have h2 := ZK v hs v.pre [] rfl
 unfold Ver.sm at hs
 simp only [List.length_nil, Int.natCast_zero] at h2
 simp only [Ver.enc, List.map_cons, List.map_nil] at h1 h2 ⊢
 unfold yz
 generalize (n9 v.maj && (n9 v.min && n9 v.pat)) = b1 at *
 generalize v.pre.all wi = b2 at *
 apply zz
 refine zA rfl Tryz.func244 rfl (by kernel_rfl) ?_
 unfold Tryz.f244
 cases b1 <;> cases b2 <;> simp only [cond_true, cond_false] at h1 h2 <;>
  simp (disch := ((try simp only [LL]); omega)) only [↓GO, ↓DRW, GA, ren, zG, zd, refs, zb, cst, zl, zM, z7, E.load, E.store, zL, isC, bin, zN, zO, una, z8, za, zh, zP, blt, fnV, asArg, ze, zn, zo, zj, zm, zg, zk, zu, z6, zK, zJ, E.mkS, zc, unN, zQ, zi, zw, zq, zC, zI, zf, zR, zr, GS, simprocAttr, GZ, h1, h2, zH, y6, Int.cast_ofNat_Int]
theorem Rc (b : UInt8) : zE (EV Tryz.prog pol) 352 [.t (.int .u8 (b.toNat : Int))] = some (.t (.bool (B2 (b.toNat : Int) 65 90))) := by
 have h := xP (b.toNat : Int) 65 90
 apply zz
 refine zA rfl Tryz.func352 rfl (by kernel_rfl) ?_
 unfold Tryz.f352
 simp (disch := ((try simp only [LL]); omega)) only [↓GO, ↓DRW, GA, ren, zG, zd, refs, zb, cst, zl, zM, z7, E.load, E.store, zL, isC, bin, zN, zO, una, z8, za, zh, zP, blt, fnV, asArg, ze, zn, zo, zj, zm, zg, zk, zu, z6, zK, zJ, E.mkS, zc, unN, zQ, zi, zw, zq, zC, zI, zf, zR, zr, GS, simprocAttr, GZ, h, conv, wrap_u8]
theorem Tg (s : Str) (hl : s.length ≤ 2097152) : ∀ (rest pre : Str), s = pre ++ rest →
 EV Tryz.prog pol (.loop 353 26 0 [.t (.str s), .t (.int .i64 (pre.length : Int))] []) = some (cond (rest.all isD) (.loop (.exit 0) [.t (.str s), .bad] []) (.loop .ret [.t (.str s), .t (.bool false)] []))
 | [], pre, hs => by
  have c : decide ((pre.length : Int) < (s.length : Int)) = false := by simp [hs]
  refine zD Tryz.func353 rfl rfl ?_
  simp only [↓GO, ↓DRW, GA, ren, zG, zd, refs, zb, cst, zl, zM, z7, E.load, E.store, zL, isC, bin, zN, zO, una, z8, za, zh, zP, blt, fnV, asArg, ze, zn, zo, zj, zm, zg, zk, zu, z6, zK, zJ, E.mkS, zc, unN, zQ, zi, zw, zq, zC, zI, zf, zR, zr, GS, simprocAttr, c]
 | b :: rest, pre, hs => by
  have c : decide ((pre.length : Int) < (s.length : Int)) = true := by simp [hs]; omega
  have hget : s[pre.length]? = some b := by rw [hs]; exact tM pre b rest
  have hlen : s.length = pre.length + rest.length + 1 := by rw [hs]; simp; omega
  have IH := Tg s hl rest (pre ++ [b]) (by rw [hs]; simp)
  rw [show ((pre ++ [b]).length : Int) = (pre.length : Int) + 1 by simp] at IH
  have hb := xP (b.toNat : Int) 48 57
  rw [Tj] at hb
  clear hs
  refine zD Tryz.func353 rfl rfl ?_
  cases h1 : isD b <;> rw [h1] at hb <;>
   simp (disch := ((try simp only [LL]); omega)) only [↓GO, ↓DRW, GA, ren, zG, zd, refs, zb, cst, zl, zM, z7, E.load, E.store, zL, isC, bin, zN, zO, una, z8, za, zh, zP, blt, fnV, asArg, ze, zn, zo, zj, zm, zg, zk, zu, z6, zK, zJ, E.mkS, zc, unN, zQ, zi, zw, zq, zC, zI, zf, zR, zr, GS, simprocAttr, GZ, c, hget, zB, conv, wrap_u8, hb, h1, IH]
theorem QD (s : Str) (hl : s.length ≤ 2097152) : zE (EV Tryz.prog pol) 353 [.t (.str s)] = some (.t (.bool (isNum s))) := by
 have IH := Tg s hl s [] rfl
 simp only [List.length_nil, Int.natCast_zero] at IH
 apply zz
 refine zA rfl Tryz.func353 rfl (by kernel_rfl) ?_
 unfold Tryz.f353
 unfold isNum
 cases h1 : s.all isD <;> rw [h1] at IH <;> simp only [cond_true, cond_false] at IH <;>
  simp (disch := ((try simp only [LL]); omega)) only [↓GO, ↓DRW, GA, ren, zG, zd, refs, zb, cst, zl, zM, z7, E.load, E.store, zL, isC, bin, zN, zO, una, z8, za, zh, zP, blt, fnV, asArg, ze, zn, zo, zj, zm, zg, zk, zu, z6, zK, zJ, E.mkS, zc, unN, zQ, zi, zw, zq, zC, zI, zf, zR, zr, GS, simprocAttr, GZ, IH, bne]
theorem Tf (s : Str) (hl : s.length ≤ 2097152) : ∀ (rest pre : Str), s = pre ++ rest →
 EV Tryz.prog pol (.loop 311 26 0 [.t (.str s), .t (.int .i64 (pre.length : Int))] []) = some (cond (rest.all preB) (.loop (.exit 0) [.t (.str s), .bad] []) (.loop .ret [.t (.str s), .t (.bool false)] []))
 | [], pre, hs => by
  have c : decide ((pre.length : Int) < (s.length : Int)) = false := by simp [hs]
  refine zD Tryz.func311 rfl rfl ?_
  simp only [↓GO, ↓DRW, GA, ren, zG, zd, refs, zb, cst, zl, zM, z7, E.load, E.store, zL, isC, bin, zN, zO, una, z8, za, zh, zP, blt, fnV, asArg, ze, zn, zo, zj, zm, zg, zk, zu, z6, zK, zJ, E.mkS, zc, unN, zQ, zi, zw, zq, zC, zI, zf, zR, zr, GS, simprocAttr, c]
 | b :: rest, pre, hs => by
  have c : decide ((pre.length : Int) < (s.length : Int)) = true := by simp [hs]; omega
  have hget : s[pre.length]? = some b := by rw [hs]; exact tM pre b rest
  have hlen : s.length = pre.length + rest.length + 1 := by rw [hs]; simp; omega
  have IH := Tf s hl rest (pre ++ [b]) (by rw [hs]; simp)
  rw [show ((pre ++ [b]).length : Int) = (pre.length : Int) + 1 by simp] at IH
  have hb := np b
  have hg := Rc b
  clear hs
  refine zD Tryz.func311 rfl rfl ?_
  rw [List.all_cons, preB]
  simp only [nb] at *
  cases h1 : (B2 (b.toNat : Int) 97 122 || B2 (b.toNat : Int) 48 57) <;> rw [h1] at hb <;> cases h2 : B2 (b.toNat : Int) 65 90 <;> rw [h2] at hg <;> cases h3 : ((b.toNat : Int) == 45) <;>
   simp (disch := ((try simp only [LL]); omega)) only [↓GO, ↓DRW, GA, ren, zG, zd, refs, zb, cst, zl, zM, z7, E.load, E.store, zL, isC, bin, zN, zO, una, z8, za, zh, zP, blt, fnV, asArg, ze, zn, zo, zj, zm, zg, zk, zu, z6, zK, zJ, E.mkS, zc, unN, zQ, zi, zw, zq, zC, zI, zf, zR, zr, GS, simprocAttr, GZ, c, hget, zB, hb, hg, h3, bne, IH]
theorem Qx (s : Str) (hl : s.length ≤ 2097152) : zE (EV Tryz.prog pol) 311 [.t (.str s)] = some (.t (.bool (wi s))) := by
 have IH := Tf s hl s [] rfl
 simp only [List.length_nil, Int.natCast_zero] at IH
 have h1 := xP (s.length : Int) 1 20
 have h3 := QD s hl
 have h4 := iC s (by omega)
 apply zz
 refine zA rfl Tryz.func311 rfl (by kernel_rfl) ?_
 unfold Tryz.f311
 unfold wi
 generalize B2 (s.length : Int) 1 20 = b1 at *
 generalize isNum s = b3 at *
 generalize zF s = rd at *
 cases ha : s.all preB <;> rw [ha] at IH <;> simp only [cond_true, cond_false] at IH <;> cases b1 <;> cases b3 <;>
  simp (disch := ((try simp only [LL]); omega)) only [↓GO, ↓DRW, GA, ren, zG, zd, refs, zb, cst, zl, zM, z7, E.load, E.store, zL, isC, bin, zN, zO, una, z8, za, zh, zP, blt, fnV, asArg, ze, zn, zo, zj, zm, zg, zk, zu, z6, zK, zJ, E.mkS, zc, unN, zQ, zi, zw, zq, zC, zI, zf, zR, zr, GS, simprocAttr, GZ, IH, h1, h3, h4, ge_iff_le]
theorem Ta (v : Ver) (hs : v.sm) : ∀ (rest pre : List Str), v.pre = pre ++ rest →
 EV Tryz.prog pol (.loop 257 26 0 [.ptr 0 0 0, .t (.int .i64 (pre.length : Int))] [.vs 4 [v.enc.map .t]])
 = some (cond (rest.all wi) (.loop (.exit 0) [.ptr 0 0 0, .bad] [.vs 4 [v.enc.map .t]]) (.loop .ret [.ptr 0 0 0, .t (.bool false)] [.vs 4 [v.enc.map .t]]))
 | [], pre, hp => by
  have c : decide ((pre.length : Int) < (v.pre.length : Int)) = false := by simp [hp]
  refine zD Tryz.func257 rfl rfl ?_
  simp only [↓GO, ↓DRW, GA, ren, zG, zd, refs, zb, cst, zl, zM, z7, E.load, E.store, zL, isC, bin, zN, zO, una, z8, za, zh, zP, blt, fnV, asArg, ze, zn, zo, zj, zm, zg, zk, zu, z6, zK, zJ, E.mkS, zc, unN, zQ, zi, zw, zq, zC, zI, zf, zR, zr, GS, simprocAttr, zH, c, Ver.enc]
 | x :: rest, pre, hp => by
  unfold Ver.sm at hs
  have c : decide ((pre.length : Int) < (v.pre.length : Int)) = true := by simp [hp]; omega
  have hget : (strs v.pre)[pre.length]? = some [.str x] := by rw [hp]; exact wz pre x rest
  have hlen : pre.length + rest.length + 1 ≤ v.pre.length := by rw [hp]; simp; omega
  have hx : x.length ≤ 2097152 := by have := xW (ks := v.pre) (s := x) (by rw [hp]; simp); omega
  have IH := Ta v hs rest (pre ++ [x]) (by rw [hp]; simp)
  rw [show ((pre ++ [x]).length : Int) = (pre.length : Int) + 1 by simp] at IH
  have h1 := Qx x hx
  clear hp
  simp only [Ver.enc, List.map_cons, List.map_nil] at IH ⊢
  cases h2 : wi x <;> rw [h2] at h1 <;> refine zD Tryz.func257 rfl rfl ?_ <;>
   simp (disch := ((try simp only [LL]); omega)) only [↓GO, ↓DRW, GA, ren, zG, zd, refs, zb, cst, zl, zM, z7, E.load, E.store, zL, isC, bin, zN, zO, una, z8, za, zh, zP, blt, fnV, asArg, ze, zn, zo, zj, zm, zg, zk, zu, z6, zK, zJ, E.mkS, zc, unN, zQ, zi, zw, zq, zC, zI, zf, zR, zr, GS, simprocAttr, GZ, c, hget, zB, h1, h2, zH, IH, y6]
theorem aY (v : Ver) (hs : v.sm) : zE (EV Tryz.prog pol) 257 [.agg (v.enc.map .t)] = some (.t (.bool (yz v))) := by
 have h2 := Ta v hs v.pre [] rfl
 have ha := xP v.maj 0 999999999
 have hb := xP v.min 0 999999999
 have hc := xP v.pat 0 999999999
 rw [RF] at ha hb hc
 unfold Ver.sm at hs
 simp only [List.length_nil, Int.natCast_zero] at h2
 simp only [Ver.enc, List.map_cons, List.map_nil] at h2 ⊢
 unfold yz
 generalize n9 v.maj = b1 at *
 generalize n9 v.min = b3 at *
 generalize n9 v.pat = b4 at *
 generalize v.pre.all wi = b2 at *
 apply zz
 refine zA rfl Tryz.func257 rfl (by kernel_rfl) ?_
 unfold Tryz.f257
 cases b2 <;> simp only [cond_true, cond_false] at h2 <;> cases b1 <;> cases b3 <;> cases b4 <;>
  simp (disch := ((try simp only [LL]); omega)) only [↓GO, ↓DRW, GA, ren, zG, zd, refs, zb, cst, zl, zM, z7, E.load, E.store, zL, isC, bin, zN, zO, una, z8, za, zh, zP, blt, fnV, asArg, ze, zn, zo, zj, zm, zg, zk, zu, z6, zK, zJ, E.mkS, zc, unN, zQ, zi, zw, zq, zC, zI, zf, zR, zr, GS, simprocAttr, GZ, h2, ha, hb, hc, zH, y6]
end Go.Proofs.YtijninlbpifonaaGreatDoor
/- Digits and quotes, by both. Conditions: those of each lemma. -/
namespace Go.Proofs.YtijninlbpifonaaGreatDoor
open E
set_option linter.unusedSimpArgs false
set_option linter.unusedVariables false
set_option maxRecDepth 100000
theorem yZ {α : Type} {b : Bool} {x y r : Option α} (h : b = true) (hx : x = r) : (if b = true then x else y) = r := by rw [h]; exact hx
end Go.Proofs.YtijninlbpifonaaGreatDoor
/- The text of a version, and back, by both. Conditions: those of each lemma. -/
namespace Go.Proofs.YtijninlbpifonaaGreatDoor
open E
set_option linter.unusedSimpArgs false
set_option linter.unusedVariables false
set_option maxRecDepth 100000
theorem cG (c : Str) (x : Str) : ∀ pre : List Str, w6 c (pre ++ [x]) = cond (pre == []) ((c ++ [45]) ++ x) ((w6 c pre ++ [46]) ++ x)
 | [] => by simp [w6, Lib.join_one]
 | y :: l => by
  unfold w6
  rw [mA]
  simp
theorem kF (c : Str) (l : List Str) : (w6 c l).length ≤ c.length + yj l + l.length + 1 := by
 have h := join_le [46] l
 unfold w6
 cases l with
 | nil => simp only [show (([] : List Str) == []) = true from rfl, cond_true]; omega
 | cons x r =>
  simp only [beq_nil_cons, cond_false, List.length_append, List.length_cons, List.length_nil] at h ⊢
  omega
theorem dS {v : Ver} (h : yz v = true) : (vf v).length ≤ 29 := by
 obtain ⟨h1, h2, h3, _, _⟩ := w3 h
 have a := wA v.maj h1.1 h1.2
 have b := wA v.min h2.1 h2.2
 have c := wA v.pat h3.1 h3.2
 unfold vf
 simp only [List.length_append, List.length_cons, List.length_nil]
 omega
theorem uU (v : Ver) (hs : v.sm) : zE (EV Tryz.prog pol) 164 [.agg (v.enc.map .t)] = some (.t (.str (yc v))) := by
 have h1 := Qu v hs
 unfold Ver.sm at hs
 unfold yc
 cases ho : yz v with
 | false =>
  rw [ho] at h1
  simp only [Ver.enc, List.map_cons, List.map_nil] at h1 ⊢
  apply zz
  refine zA rfl Tryz.func164 rfl (by kernel_rfl) ?_
  unfold Tryz.f164
  simp (disch := ((try simp only [LL]); omega)) only [↓GO, ↓DRW, GA, ren, zG, zd, refs, zb, cst, zl, zM, z7, E.load, E.store, zL, isC, bin, zN, zO, una, z8, za, zh, zP, blt, fnV, asArg, ze, zn, zo, zj, zm, zg, zk, zu, z6, zK, zJ, E.mkS, zc, unN, zQ, zi, zw, zq, zC, zI, zf, zR, zr, GS, simprocAttr, GZ, h1]
 | true =>
  obtain ⟨q1, q2, q3, _, _⟩ := w3 ho
  have a := wA v.maj q1.1 q1.2
  have b := wA v.min q2.1 q2.2
  have c := wA v.pat q3.1 q3.2
  have d1 := gy v.maj q1.1 q1.2
  have d2 := gy v.min q2.1 q2.2
  have d3 := gy v.pat q3.1 q3.2
  have hj := join_le [46] v.pre
  simp only [List.length_cons, List.length_nil] at hj
  have h2 := QB v.pre [46] (by omega) (by omega)
  have hg := gu v.pre
  rw [ho] at h1
  unfold w6 vf
  simp only [Ver.enc, List.map_cons, List.map_nil] at h1 ⊢
  cases hp : (v.pre == []) <;> rw [hp] at hg <;> simp only [Bool.not_true, Bool.not_false] at hg
  · apply zz
    refine zA rfl Tryz.func164 rfl (by kernel_rfl) ?_
    unfold Tryz.f164
    simp (disch := ((try simp only [LL]); omega)) only [↓GO, ↓DRW, GA, ren, zG, zd, refs, zb, cst, zl, zM, z7, E.load, E.store, zL, isC, bin, zN, zO, una, z8, za, zh, zP, blt, fnV, asArg, ze, zn, zo, zj, zm, zg, zk, zu, z6, zK, zJ, E.mkS, zc, unN, zQ, zi, zw, zq, zC, zI, zf, zR, zr, GS, simprocAttr, GZ, h1, d1, d2, d3, h2, hg, wk, zH, List.append_assoc]
  · apply zz
    refine zA rfl Tryz.func164 rfl (by kernel_rfl) ?_
    unfold Tryz.f164
    simp (disch := ((try simp only [LL]); omega)) only [↓GO, ↓DRW, GA, ren, zG, zd, refs, zb, cst, zl, zM, z7, E.load, E.store, zL, isC, bin, zN, zO, una, z8, za, zh, zP, blt, fnV, asArg, ze, zn, zo, zj, zm, zg, zk, zu, z6, zK, zJ, E.mkS, zc, unN, zQ, zi, zw, zq, zC, zI, zf, zR, zr, GS, simprocAttr, GZ, h1, d1, d2, d3, h2, hg, wk, zH, List.append_assoc]
theorem RG (v : Ver) (hs : v.sm) (c : Str) (hc : c.length ≤ 40) : ∀ (rest pre : List Str), v.pre = pre ++ rest →
 EV Tryz.prog pol (.loop 193 122 0 [.ptr 0 0 0, .t (.str (w6 c pre)), .t (.int .i64 (pre.length : Int))] [.vs 4 [v.enc.map .t]])
 = some (.loop (.exit 0) [.t (.str (w6 c v.pre))] [])
 | [], pre, hp => by
  have c : decide ((pre.length : Int) < (v.pre.length : Int)) = false := by simp [hp]
  have e : v.pre = pre := by simpa using hp
  refine zD Tryz.func193 rfl rfl ?_
  simp only [↓GO, ↓DRW, GA, ren, zG, zd, refs, zb, cst, zl, zM, z7, E.load, E.store, zL, isC, bin, zN, zO, una, z8, za, zh, zP, blt, fnV, asArg, ze, zn, zo, zj, zm, zg, zk, zu, z6, zK, zJ, E.mkS, zc, unN, zQ, zi, zw, zq, zC, zI, zf, zR, zr, GS, simprocAttr, zH, c, Ver.enc, y6]
  rw [e]
 | x :: rest, pre, hp => by
  unfold Ver.sm at hs
  have c2 : decide ((pre.length : Int) < (v.pre.length : Int)) = true := by simp [hp]; omega
  have hget : (strs v.pre)[pre.length]? = some [.str x] := by rw [hp]; exact wz pre x rest
  have hlen : pre.length + rest.length + 1 ≤ v.pre.length := by rw [hp]; simp; omega
  have hbk : yj pre + x.length ≤ yj v.pre := by rw [hp, lD]; simp only [yj]; omega
  have ht := kF c pre
  have IH := RG v hs c hc rest (pre ++ [x]) (by rw [hp]; simp)
  rw [show ((pre ++ [x]).length : Int) = (pre.length : Int) + 1 by simp, cG] at IH
  have he := ud pre
  have e0 : (pre == []) = true → w6 c pre = c := fun h => by unfold w6; rw [h]; rfl
  clear hp
  simp only [Ver.enc, List.map_cons, List.map_nil] at IH ⊢
  cases h0 : (pre == []) <;> rw [h0] at he IH <;> simp only [cond_true, cond_false] at IH
  · refine zD Tryz.func193 rfl rfl ?_
    simp (disch := ((try simp only [LL]); omega)) only [↓GO, ↓DRW, GA, ren, zG, zd, refs, zb, cst, zl, zM, z7, E.load, E.store, zL, isC, bin, zN, zO, una, z8, za, zh, zP, blt, fnV, asArg, ze, zn, zo, zj, zm, zg, zk, zu, z6, zK, zJ, E.mkS, zc, unN, zQ, zi, zw, zq, zC, zI, zf, zR, zr, GS, simprocAttr, GZ, c2, hget, zB, he, zH, IH, y6, wk]
  · have e1 := e0 h0
    rw [e1]
    refine zD Tryz.func193 rfl rfl ?_
    simp (disch := ((try simp only [LL]); omega)) only [↓GO, ↓DRW, GA, ren, zG, zd, refs, zb, cst, zl, zM, z7, E.load, E.store, zL, isC, bin, zN, zO, una, z8, za, zh, zP, blt, fnV, asArg, ze, zn, zo, zj, zm, zg, zk, zu, z6, zK, zJ, E.mkS, zc, unN, zQ, zi, zw, zq, zC, zI, zf, zR, zr, GS, simprocAttr, GZ, c2, hget, zB, he, zH, IH, y6, wk]
theorem dV (v : Ver) (hs : v.sm) : zE (EV Tryz.prog pol) 193 [.agg (v.enc.map .t)] = some (.t (.str (yc v))) := by
 have h1 := aY v hs
 unfold yc
 cases ho : yz v with
 | false =>
  rw [ho] at h1
  simp only [Ver.enc, List.map_cons, List.map_nil] at h1 ⊢
  apply zz
  refine zA rfl Tryz.func193 rfl (by kernel_rfl) ?_
  unfold Tryz.f193
  simp (disch := ((try simp only [LL]); omega)) only [↓GO, ↓DRW, GA, ren, zG, zd, refs, zb, cst, zl, zM, z7, E.load, E.store, zL, isC, bin, zN, zO, una, z8, za, zh, zP, blt, fnV, asArg, ze, zn, zo, zj, zm, zg, zk, zu, z6, zK, zJ, E.mkS, zc, unN, zQ, zi, zw, zq, zC, zI, zf, zR, zr, GS, simprocAttr, GZ, h1]
 | true =>
  obtain ⟨q1, q2, q3, _, _⟩ := w3 ho
  have a := wA v.maj q1.1 q1.2
  have b := wA v.min q2.1 q2.2
  have c := wA v.pat q3.1 q3.2
  have d1 := gx v.maj q1.1 q1.2
  have d2 := gx v.min q2.1 q2.2
  have d3 := gx v.pat q3.1 q3.2
  have hc := dS ho
  have h2 := RG v hs (vf v) (by omega) v.pre [] rfl
  rw [ho] at h1
  rw [show w6 (vf v) [] = vf v from rfl] at h2
  simp only [List.length_nil, Int.natCast_zero] at h2
  simp only [cond_true]
  generalize w6 (vf v) v.pre = tt at *
  unfold vf at h2
  simp only [Ver.enc, List.map_cons, List.map_nil] at h1 h2 ⊢
  apply zz
  refine zA rfl Tryz.func193 rfl (by kernel_rfl) ?_
  unfold Tryz.f193
  simp (disch := ((try simp only [LL]); omega)) only [↓GO, ↓DRW, GA, ren, zG, zd, refs, zb, cst, zl, zM, z7, E.load, E.store, zL, isC, bin, zN, zO, una, z8, za, zh, zP, blt, fnV, asArg, ze, zn, zo, zj, zm, zg, zk, zu, z6, zK, zJ, E.mkS, zc, unN, zQ, zi, zw, zq, zC, zI, zf, zR, zr, GS, simprocAttr, GZ, h1, d1, d2, d3, h2, wk, y6]
theorem mz {s : Str} (h : (yk 46 (yo 45 s).1).length ≠ 3) : xT s = none := by
 unfold xT
 split
 · rename_i a b c he; rw [he] at h; exact absurd rfl h
 · rfl
theorem lj {s : Str} {v : Ver} (h : xT s = some v) (hl : s.length ≤ 1048700) : v.sm ∧ v.maj ≤ 999999999 ∧ -1 ≤ v.maj ∧ v.min ≤ 999999999 ∧ -1 ≤ v.min ∧ v.pat ≤ 999999999 ∧ -1 ≤ v.pat := by
 unfold xT at h
 split at h
 · rename_i a b c he
   cases h
   have h1 := xx a
   have h2 := xx b
   have h3 := xx c
   refine ⟨?_, h1.2, h1.1, h2.2, h2.1, h3.2, h3.1⟩
   have := xK 46 (yo 45 s).2.1
   have h5 := (pe 45 s).2
   unfold Ver.sm
   cases (yo 45 s).2.2 with
   | true => simp only [cond_true]; omega
   | false => simp [yj]
 · cases h
theorem yO (s : Str) (hl : s.length ≤ 1048700) : (zx s).1.sm ∧ (zx s).1.maj ≤ 999999999 ∧ -1 ≤ (zx s).1.maj ∧ (zx s).1.min ≤ 999999999 ∧ -1 ≤ (zx s).1.min ∧ (zx s).1.pat ≤ 999999999 ∧ -1 ≤ (zx s).1.pat := by
 unfold zx
 cases hm : xT s with
 | none => simp [Ver.zero, Ver.sm, yj]
 | some v =>
  have := lj hm hl
  simp only
  cases (yc v == s) with
  | true => exact this
  | false => simp [Ver.zero, Ver.sm, yj]
def rvT (s : Str) : V := .tup [.agg ((zx s).1.enc.map .t), .t (.bool (zx s).2)]
theorem lX (s : Str) (hl : s.length ≤ 1048700) : zE (EV Tryz.prog pol) 71 [.t (.str s)] = some (rvT s) := by
 have h1 := Q2 s [45] (by omega)
 rw [dP] at h1
 have hl1 := pe 45 s
 have h2 := pw (yo 45 s).1 [46] (by omega) (by simp)
 have h3 := pw (yo 45 s).2.1 [46] (by omega) (by simp)
 rw [rY] at h2 h3
 unfold rvT zx
 by_cases hn : (yk 46 (yo 45 s).1).length = 3
 · obtain ⟨a, b, c, hp⟩ : ∃ a b c, yk 46 (yo 45 s).1 = [a, b, c] := by
    match hq : yk 46 (yo 45 s).1, hn with
    | [a, b, c], _ => exact ⟨a, b, c, rfl⟩
   have hm : xT s = some ⟨zF a, zF b, zF c, cond (yo 45 s).2.2 (yk 46 (yo 45 s).2.1) []⟩ := by unfold xT; rw [hp]
   have hne := eK hm
   have hsm := (lj hm hl).1
   have hbk := xK 46 (yo 45 s).1
   rw [hp] at h2 hbk
   simp only [yj] at hbk
   have d1 := lY a (by omega)
   have d2 := lY b (by omega)
   have d3 := lY c (by omega)
   have hv := uU _ hsm
   rw [hm]
   have hs0 : (s == []) = false := by rw [beq_eq_false_iff_ne]; exact hne
   simp only [Ver.enc, List.map_cons, List.map_nil, xm, yi] at hv h2 ⊢
   generalize zF a = ra at *
   generalize zF b = rb at *
   generalize zF c = rc at *
   cases hh : (yo 45 s).2.2 <;> rw [hh] at h1 hv <;> simp only [cond_true, cond_false, yi] at hv ⊢
   · generalize yc ⟨ra, rb, rc, []⟩ = tt at *
     clear hm hsm
     cases he : (tt == s)
     · apply zz
       refine zA rfl Tryz.func71 rfl (by kernel_rfl) ?_
       unfold Tryz.f71
       simp (disch := ((try simp only [LL]); omega)) only [↓GO, ↓DRW, GA, ren, zG, zd, refs, zb, cst, zl, zM, z7, E.load, E.store, zL, isC, bin, zN, zO, una, z8, za, zh, zP, blt, fnV, asArg, ze, zn, zo, zj, zm, zg, zk, zu, z6, zK, zJ, E.mkS, zc, unN, zQ, zi, zw, zq, zC, zI, zf, zR, zr, GS, simprocAttr, GZ, h1, h2, d1, d2, d3, hv, he, bne, hs0, Ver.zero, yi]
       refine yZ (by kernel_rfl) ?_
       simp (disch := ((try simp only [LL]); omega)) only [↓GO, ↓DRW, GA, ren, zG, zd, refs, zb, cst, zl, zM, z7, E.load, E.store, zL, isC, bin, zN, zO, una, z8, za, zh, zP, blt, fnV, asArg, ze, zn, zo, zj, zm, zg, zk, zu, z6, zK, zJ, E.mkS, zc, unN, zQ, zi, zw, zq, zC, zI, zf, zR, zr, GS, simprocAttr, GZ, h1, h2, d1, d2, d3, hv, he, bne, hs0, Ver.zero, yi]
     · apply zz
       refine zA rfl Tryz.func71 rfl (by kernel_rfl) ?_
       unfold Tryz.f71
       simp (disch := ((try simp only [LL]); omega)) only [↓GO, ↓DRW, GA, ren, zG, zd, refs, zb, cst, zl, zM, z7, E.load, E.store, zL, isC, bin, zN, zO, una, z8, za, zh, zP, blt, fnV, asArg, ze, zn, zo, zj, zm, zg, zk, zu, z6, zK, zJ, E.mkS, zc, unN, zQ, zi, zw, zq, zC, zI, zf, zR, zr, GS, simprocAttr, GZ, h1, h2, d1, d2, d3, hv, he, bne, hs0, yi]
       refine yZ (by kernel_rfl) ?_
       simp (disch := ((try simp only [LL]); omega)) only [↓GO, ↓DRW, GA, ren, zG, zd, refs, zb, cst, zl, zM, z7, E.load, E.store, zL, isC, bin, zN, zO, una, z8, za, zh, zP, blt, fnV, asArg, ze, zn, zo, zj, zm, zg, zk, zu, z6, zK, zJ, E.mkS, zc, unN, zQ, zi, zw, zq, zC, zI, zf, zR, zr, GS, simprocAttr, GZ, h1, h2, d1, d2, d3, hv, he, bne, hs0, yi]
   · generalize yc ⟨ra, rb, rc, yk 46 (yo 45 s).2.1⟩ = tt at *
     clear hm hsm
     generalize yk 46 (yo 45 s).2.1 = pp at *
     cases he : (tt == s)
     · apply zz
       refine zA rfl Tryz.func71 rfl (by kernel_rfl) ?_
       unfold Tryz.f71
       simp (disch := ((try simp only [LL]); omega)) only [↓GO, ↓DRW, GA, ren, zG, zd, refs, zb, cst, zl, zM, z7, E.load, E.store, zL, isC, bin, zN, zO, una, z8, za, zh, zP, blt, fnV, asArg, ze, zn, zo, zj, zm, zg, zk, zu, z6, zK, zJ, E.mkS, zc, unN, zQ, zi, zw, zq, zC, zI, zf, zR, zr, GS, simprocAttr, GZ, h1, h2, h3, d1, d2, d3, hv, he, bne, hs0, Ver.zero, yi]
       refine yZ (by kernel_rfl) ?_
       simp (disch := ((try simp only [LL]); omega)) only [↓GO, ↓DRW, GA, ren, zG, zd, refs, zb, cst, zl, zM, z7, E.load, E.store, zL, isC, bin, zN, zO, una, z8, za, zh, zP, blt, fnV, asArg, ze, zn, zo, zj, zm, zg, zk, zu, z6, zK, zJ, E.mkS, zc, unN, zQ, zi, zw, zq, zC, zI, zf, zR, zr, GS, simprocAttr, GZ, h1, h2, h3, d1, d2, d3, hv, he, bne, hs0, Ver.zero, yi]
     · apply zz
       refine zA rfl Tryz.func71 rfl (by kernel_rfl) ?_
       unfold Tryz.f71
       simp (disch := ((try simp only [LL]); omega)) only [↓GO, ↓DRW, GA, ren, zG, zd, refs, zb, cst, zl, zM, z7, E.load, E.store, zL, isC, bin, zN, zO, una, z8, za, zh, zP, blt, fnV, asArg, ze, zn, zo, zj, zm, zg, zk, zu, z6, zK, zJ, E.mkS, zc, unN, zQ, zi, zw, zq, zC, zI, zf, zR, zr, GS, simprocAttr, GZ, h1, h2, h3, d1, d2, d3, hv, he, bne, hs0, yi]
       refine yZ (by kernel_rfl) ?_
       simp (disch := ((try simp only [LL]); omega)) only [↓GO, ↓DRW, GA, ren, zG, zd, refs, zb, cst, zl, zM, z7, E.load, E.store, zL, isC, bin, zN, zO, una, z8, za, zh, zP, blt, fnV, asArg, ze, zn, zo, zj, zm, zg, zk, zu, z6, zK, zJ, E.mkS, zc, unN, zQ, zi, zw, zq, zC, zI, zf, zR, zr, GS, simprocAttr, GZ, h1, h2, h3, d1, d2, d3, hv, he, bne, hs0, yi]
 · have hm := mz hn
   rw [hm]
   have hc : (((yk 46 (yo 45 s).1).length : Int) == 3) = false := by rw [beq_eq_false_iff_ne]; omega
   generalize yk 46 (yo 45 s).1 = parts at *
   apply zz
   refine zA rfl Tryz.func71 rfl (by kernel_rfl) ?_
   unfold Tryz.f71
   simp (disch := ((try simp only [LL]); omega)) only [↓GO, ↓DRW, GA, ren, zG, zd, refs, zb, cst, zl, zM, z7, E.load, E.store, zL, isC, bin, zN, zO, una, z8, za, zh, zP, blt, fnV, asArg, ze, zn, zo, zj, zm, zg, zk, zu, z6, zK, zJ, E.mkS, zc, unN, zQ, zi, zw, zq, zC, zI, zf, zR, zr, GS, simprocAttr, GZ, h1, h2, hc, bne, zH, Ver.zero, Ver.enc, yi]
theorem l_at (s : Str) (b : UInt8) (hl : s.length ≤ 4194304) : ∀ (rest pre : Str), s = pre ++ rest →
 EV Tryz.prog pol (.loop 190 26 0 [.t (.str s), .t (.int .u8 (b.toNat : Int)), .t (.int .i64 (pre.length : Int))] []) = some (cond (yo b rest).2.2 (.loop .ret [.t (.int .i64 ((pre.length : Int) + ((yo b rest).1.length : Int)))] []) (.loop (.exit 0) [.bad] []))
 | [], pre, hs => by
  have c : decide ((pre.length : Int) < (s.length : Int)) = false := by simp [hs]
  refine zD Tryz.func190 rfl rfl ?_
  simp only [↓GO, ↓DRW, GA, ren, zG, zd, refs, zb, cst, zl, zM, z7, E.load, E.store, zL, isC, bin, zN, zO, una, z8, za, zh, zP, blt, fnV, asArg, ze, zn, zo, zj, zm, zg, zk, zu, z6, zK, zJ, E.mkS, zc, unN, zQ, zi, zw, zq, zC, zI, zf, zR, zr, GS, simprocAttr, c, yo]
 | x :: rest, pre, hs => by
  have c : decide ((pre.length : Int) < (s.length : Int)) = true := by simp [hs]; omega
  have hget : s[pre.length]? = some x := by rw [hs]; exact tM pre x rest
  have hlen : s.length = pre.length + rest.length + 1 := by rw [hs]; simp; omega
  have IH := l_at s b hl rest (pre ++ [x]) (by rw [hs]; simp)
  rw [show ((pre ++ [x]).length : Int) = (pre.length : Int) + 1 by simp] at IH
  rw [yo]
  clear hs
  by_cases hx : x = b
  · subst hx
    rw [if_pos rfl]
    refine zD Tryz.func190 rfl rfl ?_
    simp (disch := ((try simp only [LL]); omega)) only [↓GO, ↓DRW, GA, ren, zG, zd, refs, zb, cst, zl, zM, z7, E.load, E.store, zL, isC, bin, zN, zO, una, z8, za, zh, zP, blt, fnV, asArg, ze, zn, zo, zj, zm, zg, zk, zu, z6, zK, zJ, E.mkS, zc, unN, zQ, zi, zw, zq, zC, zI, zf, zR, zr, GS, simprocAttr, GZ, c, hget, zB, Int.natCast_zero, Int.add_zero]
  · have c2 : ((x.toNat : Int) == (b.toNat : Int)) = false := by
     rw [beq_eq_false_iff_ne]; intro e; exact hx (UInt8.toNat_inj.1 (by omega))
    rw [if_neg hx]
    rw [show (((x :: (yo b rest).1).length : Nat) : Int) = ((yo b rest).1.length : Int) + 1 by simp, show (pre.length : Int) + (((yo b rest).1.length : Int) + 1) = (pre.length : Int) + 1 + ((yo b rest).1.length : Int) by omega]
    refine zD Tryz.func190 rfl rfl ?_
    simp (disch := ((try simp only [LL]); omega)) only [↓GO, ↓DRW, GA, ren, zG, zd, refs, zb, cst, zl, zM, z7, E.load, E.store, zL, isC, bin, zN, zO, una, z8, za, zh, zP, blt, fnV, asArg, ze, zn, zo, zj, zm, zg, zk, zu, z6, zK, zJ, E.mkS, zc, unN, zQ, zi, zw, zq, zC, zI, zf, zR, zr, GS, simprocAttr, GZ, c, hget, zB, c2, IH]
def atV (b : UInt8) (s : Str) : Int := cond (yo b s).2.2 ((yo b s).1.length : Int) (-1)
theorem c_at (s : Str) (b : UInt8) (hl : s.length ≤ 4194304) : zE (EV Tryz.prog pol) 190 [.t (.str s), .t (.int .u8 (b.toNat : Int))] = some (.t (.int .i64 (atV b s))) := by
 have IH := l_at s b hl s [] rfl
 simp only [List.length_nil, Int.natCast_zero, Int.zero_add] at IH
 unfold atV
 apply zz
 refine zA rfl Tryz.func190 rfl (by kernel_rfl) ?_
 unfold Tryz.f190
 cases h : (yo b s).2.2 <;> rw [h] at IH <;> simp only [cond_true, cond_false] at IH <;> simp (disch := ((try simp only [LL]); omega)) only [↓GO, ↓DRW, GA, ren, zG, zd, refs, zb, cst, zl, zM, z7, E.load, E.store, zL, isC, bin, zN, zO, una, z8, za, zh, zP, blt, fnV, asArg, ze, zn, zo, zj, zm, zg, zk, zu, z6, zK, zJ, E.mkS, zc, unN, zQ, zi, zw, zq, zC, zI, zf, zR, zr, GS, simprocAttr, GZ, IH]
theorem tV (s : Str) (hl : s.length ≤ 1048700) : zE (EV Tryz.prog pol) 90 [.t (.str s)] = some (rvT s) := by
 have h1 := c_at s 45 (by omega)
 rw [show (((45 : UInt8)).toNat : Int) = 45 from rfl] at h1
 have hl1 := pe 45 s
 have h2 := lP (yo 45 s).1 46 (by omega)
 have h3 := lP (yo 45 s).2.1 46 (by omega)
 rw [show (((46 : UInt8)).toNat : Int) = 46 from rfl] at h2 h3
 have hce := ru 45 s
 unfold rvT zx
 unfold atV at h1
 have hA : (yo 45 s).2.2 = false → (yo 45 s).1 = s := fun h => by rw [h, cond_false, List.append_nil] at hce; exact hce.symm
 have hB : (yo 45 s).2.2 = true → s.take (yo 45 s).1.length = (yo 45 s).1 ∧ s.drop ((yo 45 s).1.length + 1) = (yo 45 s).2.1 ∧ (yo 45 s).1.length + 1 ≤ s.length := fun h => by
  rw [h, cond_true] at hce
  have e1 : s.take (yo 45 s).1.length = (yo 45 s).1 := by
   conv => lhs; arg 2; rw [hce]
   exact List.take_left
  have e2 : s.drop ((yo 45 s).1.length + 1) = (yo 45 s).2.1 := by
   conv => lhs; arg 2; rw [hce]
   rw [← List.drop_drop, List.drop_left]; rfl
  refine ⟨e1, e2, ?_⟩
  have := congrArg List.length hce
  rw [List.length_append, List.length_cons] at this
  omega
 clear hce
 by_cases hn : (yk 46 (yo 45 s).1).length = 3
 · obtain ⟨a, b, c, hp⟩ : ∃ a b c, yk 46 (yo 45 s).1 = [a, b, c] := by
    match hq : yk 46 (yo 45 s).1, hn with
    | [a, b, c], _ => exact ⟨a, b, c, rfl⟩
   have hm : xT s = some ⟨zF a, zF b, zF c, cond (yo 45 s).2.2 (yk 46 (yo 45 s).2.1) []⟩ := by unfold xT; rw [hp]
   have hsm := (lj hm hl).1
   have hbk := xK 46 (yo 45 s).1
   rw [hp] at h2 hbk
   simp only [yj] at hbk
   have d1 := iC a (by omega)
   have d2 := iC b (by omega)
   have d3 := iC c (by omega)
   have hv := dV _ hsm
   rw [hm]
   simp only [Ver.enc, List.map_cons, List.map_nil, xm, yi] at hv h2 ⊢
   generalize zF a = ra at *
   generalize zF b = rb at *
   generalize zF c = rc at *
   cases hh : (yo 45 s).2.2 <;> rw [hh] at h1 hv <;> simp only [cond_true, cond_false, yi] at hv h1 ⊢
   · have hA' := hA hh
     rw [hA'] at h2
     generalize yc ⟨ra, rb, rc, []⟩ = tt at *
     clear hm hsm hA hB hp
     cases he : (tt == s)
     · apply zz
       refine zA rfl Tryz.func90 rfl (by kernel_rfl) ?_
       unfold Tryz.f90
       simp (disch := ((try simp only [LL]); omega)) only [↓GO, ↓DRW, GA, ren, zG, zd, refs, zb, cst, zl, zM, z7, E.load, E.store, zL, isC, bin, zN, zO, una, z8, za, zh, zP, blt, fnV, asArg, ze, zn, zo, zj, zm, zg, zk, zu, z6, zK, zJ, E.mkS, zc, unN, zQ, zi, zw, zq, zC, zI, zf, zR, zr, GS, simprocAttr, GZ, h1, h2, d1, d2, d3, hv, he, bne, ge_iff_le, Ver.zero, yi]
     · apply zz
       refine zA rfl Tryz.func90 rfl (by kernel_rfl) ?_
       unfold Tryz.f90
       simp (disch := ((try simp only [LL]); omega)) only [↓GO, ↓DRW, GA, ren, zG, zd, refs, zb, cst, zl, zM, z7, E.load, E.store, zL, isC, bin, zN, zO, una, z8, za, zh, zP, blt, fnV, asArg, ze, zn, zo, zj, zm, zg, zk, zu, z6, zK, zJ, E.mkS, zc, unN, zQ, zi, zw, zq, zC, zI, zf, zR, zr, GS, simprocAttr, GZ, h1, h2, d1, d2, d3, hv, he, bne, ge_iff_le, yi]
   · obtain ⟨b1, b2, b3⟩ := hB hh
     generalize yc ⟨ra, rb, rc, yk 46 (yo 45 s).2.1⟩ = tt at *
     clear hm hsm hA hB hp
     generalize yk 46 (yo 45 s).2.1 = pp at *
     have g0 : decide ((0 : Int) ≤ ((yo 45 s).1.length : Int)) = true := by simp
     generalize (yo 45 s).2.1 = tl at *
     generalize (yo 45 s).1 = hd at *
     cases he : (tt == s)
     · apply zz
       refine zA rfl Tryz.func90 rfl (by kernel_rfl) ?_
       unfold Tryz.f90
       simp (disch := ((try simp only [LL]); omega)) only [↓GO, ↓DRW, GA, ren, zG, zd, refs, zb, cst, zl, zM, z7, E.load, E.store, zL, isC, bin, zN, zO, una, z8, za, zh, zP, blt, fnV, asArg, ze, zn, zo, zj, zm, zg, zk, zu, z6, zK, zJ, E.mkS, zc, unN, zQ, zi, zw, zq, zC, zI, zf, zR, zr, GS, simprocAttr, GZ, h1, h2, h3, d1, d2, d3, hv, he, bne, ge_iff_le, g0, b1, b2, zB, Ver.zero, yi]
     · apply zz
       refine zA rfl Tryz.func90 rfl (by kernel_rfl) ?_
       unfold Tryz.f90
       simp (disch := ((try simp only [LL]); omega)) only [↓GO, ↓DRW, GA, ren, zG, zd, refs, zb, cst, zl, zM, z7, E.load, E.store, zL, isC, bin, zN, zO, una, z8, za, zh, zP, blt, fnV, asArg, ze, zn, zo, zj, zm, zg, zk, zu, z6, zK, zJ, E.mkS, zc, unN, zQ, zi, zw, zq, zC, zI, zf, zR, zr, GS, simprocAttr, GZ, h1, h2, h3, d1, d2, d3, hv, he, bne, ge_iff_le, g0, b1, b2, zB]
 · have hm := mz hn
   rw [hm]
   have hc : (((yk 46 (yo 45 s).1).length : Int) == 3) = false := by rw [beq_eq_false_iff_ne]; omega
   cases hh : (yo 45 s).2.2 <;> rw [hh] at h1 <;> simp only [cond_true, cond_false] at h1
   · have hA' := hA hh
     rw [hA'] at h2 hc
     generalize yk 46 s = parts at *
     apply zz
     refine zA rfl Tryz.func90 rfl (by kernel_rfl) ?_
     unfold Tryz.f90
     simp (disch := ((try simp only [LL]); omega)) only [↓GO, ↓DRW, GA, ren, zG, zd, refs, zb, cst, zl, zM, z7, E.load, E.store, zL, isC, bin, zN, zO, una, z8, za, zh, zP, blt, fnV, asArg, ze, zn, zo, zj, zm, zg, zk, zu, z6, zK, zJ, E.mkS, zc, unN, zQ, zi, zw, zq, zC, zI, zf, zR, zr, GS, simprocAttr, GZ, h1, h2, hc, bne, ge_iff_le, zH, Ver.zero, Ver.enc, yi]
   · obtain ⟨b1, b2, b3⟩ := hB hh
     have g0 : decide ((0 : Int) ≤ ((yo 45 s).1.length : Int)) = true := by simp
     generalize yk 46 (yo 45 s).1 = parts at *
     generalize yk 46 (yo 45 s).2.1 = pp at *
     generalize (yo 45 s).2.1 = tl at *
     generalize (yo 45 s).1 = hd at *
     apply zz
     refine zA rfl Tryz.func90 rfl (by kernel_rfl) ?_
     unfold Tryz.f90
     simp (disch := ((try simp only [LL]); omega)) only [↓GO, ↓DRW, GA, ren, zG, zd, refs, zb, cst, zl, zM, z7, E.load, E.store, zL, isC, bin, zN, zO, una, z8, za, zh, zP, blt, fnV, asArg, ze, zn, zo, zj, zm, zg, zk, zu, z6, zK, zJ, E.mkS, zc, unN, zQ, zi, zw, zq, zC, zI, zf, zR, zr, GS, simprocAttr, GZ, h1, h2, h3, hc, bne, ge_iff_le, g0, b1, b2, zB, zH, Ver.zero, Ver.enc, yi]
end Go.Proofs.YtijninlbpifonaaGreatDoor
/- The range of a version alone, by both. Conditions: those of each lemma. -/
namespace Go.Proofs.YtijninlbpifonaaGreatDoor
open E
set_option linter.unusedSimpArgs false
set_option linter.unusedVariables false
set_option maxRecDepth 100000
theorem Z7 (a b c : Int) : Ver.sm ⟨a, b, c, [[48]]⟩ := by simp [Ver.sm, yj]
theorem lW (a b c : Int) : zE (EV Tryz.prog pol) 283 [.t (.int .i64 a), .t (.int .i64 b), .t (.int .i64 c)] = some (.t (.str (yg a b c))) := by
 have h := uU ⟨a, b, c, [[48]]⟩ (Z7 a b c)
 simp only [Ver.enc, List.map_cons, List.map_nil, xm, yi] at h
 unfold yg
 apply zz
 refine zA rfl Tryz.func283 rfl (by kernel_rfl) ?_
 unfold Tryz.f283
 simp (disch := ((try simp only [LL]); omega)) only [↓GO, ↓DRW, GA, ren, zG, zd, refs, zb, cst, zl, zM, z7, E.load, E.store, zL, isC, bin, zN, zO, una, z8, za, zh, zP, blt, fnV, asArg, ze, zn, zo, zj, zm, zg, zk, zu, z6, zK, zJ, E.mkS, zc, unN, zQ, zi, zw, zq, zC, zI, zf, zR, zr, GS, simprocAttr, GZ, h]
theorem Rh (v : Ver) (hs : v.sm) (hp : v.pre.length + yj v.pre ≤ 2097150) (h0 : -1 ≤ v.pat) (h1 : v.pat ≤ 999999999) : zE (EV Tryz.prog pol) 276 [.agg (v.enc.map .t)] = some (.agg [.t (.str (yc v)), .t (.str (rE v))]) := by
 have a1 := lW v.maj v.min (v.pat + 1)
 have a2 := uU v hs
 have hpv : (sJ v).sm := by
  unfold Ver.sm sJ
  simp only [List.length_append, List.length_cons, List.length_nil, lD, yj]; omega
 have a3 := uU (sJ v) hpv
 unfold Ver.sm at hs
 have a4 := U5 (strs v.pre) (by rw [zH]; omega)
 have ht : List.take (v.pre.length + 1) (strs v.pre ++ [[T.str [48]]]) = strs v.pre ++ [[T.str [48]]] := List.take_of_length_le (by simp [zH])
 have hg := gu v.pre
 unfold rE
 rw [show (sJ v).enc = [.int .i64 v.maj, .int .i64 v.min, .int .i64 v.pat, .list 1 (strs v.pre ++ [[.str [48]]])] by unfold Ver.enc sJ; rw [uN]; rfl] at a3
 simp only [Ver.enc, List.map_cons, List.map_nil] at a2 a3 ⊢
 rw [zH] at a4
 generalize yc (sJ v) = tp at *
 generalize yc v = tv at *
 generalize yg v.maj v.min (v.pat + 1) = tz at *
 cases hb : (v.pre == []) <;> rw [hb] at hg <;> simp only [Bool.not_true, Bool.not_false] at hg
 · apply zz
   refine zA rfl Tryz.func276 rfl (by kernel_rfl) ?_
   unfold Tryz.f276
   simp (disch := ((try simp only [LL]); omega)) only [↓GO, ↓DRW, GA, ren, zG, zd, refs, zb, cst, zl, zM, z7, E.load, E.store, zL, isC, bin, zN, zO, una, z8, za, zh, zP, blt, fnV, asArg, ze, zn, zo, zj, zm, zg, zk, zu, z6, zK, zJ, E.mkS, zc, unN, zQ, zi, zw, zq, zC, zI, zf, zR, zr, GS, simprocAttr, GZ, a1, a2, a3, a4, ht, hg, zB, zH, wk, y6]
 · apply zz
   refine zA rfl Tryz.func276 rfl (by kernel_rfl) ?_
   unfold Tryz.f276
   simp (disch := ((try simp only [LL]); omega)) only [↓GO, ↓DRW, GA, ren, zG, zd, refs, zb, cst, zl, zM, z7, E.load, E.store, zL, isC, bin, zN, zO, una, z8, za, zh, zP, blt, fnV, asArg, ze, zn, zo, zj, zm, zg, zk, zu, z6, zK, zJ, E.mkS, zc, unN, zQ, zi, zw, zq, zC, zI, zf, zR, zr, GS, simprocAttr, GZ, a1, a2, a3, a4, ht, hg, zB, zH, wk, y6]
theorem gH (s : Str) (hl : s.length ≤ 1048700) : (zx s).1.pre.length + yj (zx s).1.pre ≤ 1048701 := by
 unfold zx
 cases hm : xT s with
 | none => simp [Ver.zero, yj]
 | some v =>
  have h : v.pre.length + yj v.pre ≤ 1048701 := by
   unfold xT at hm
   split at hm
   · cases hm
     have := xK 46 (yo 45 s).2.1
     have h5 := (pe 45 s).2
     cases (yo 45 s).2.2 with
     | true => simp only [cond_true]; omega
     | false => simp [yj]
   · cases hm
  simp only
  cases (yc v == s) with
  | true => exact h
  | false => simp [Ver.zero, yj]
end Go.Proofs.YtijninlbpifonaaGreatDoor
/- Versions compared, the next one, the range of one alone, by the reference. Conditions: those of each lemma. -/
namespace Go.Proofs.YtijninlbpifonaaGreatDoor
open E
set_option linter.unusedSimpArgs false
set_option linter.unusedVariables false
set_option maxRecDepth 100000
theorem ov (a b : Int) : zE (EV Tryz.prog pol) 194 [.t (.int .i64 a), .t (.int .i64 b)] = some (.t (.int .i64 (yR a b))) := by
 unfold yR
 cases h1 : decide (a < b) <;> cases h2 : decide (a > b)
 all_goals
  apply zz
  refine zA rfl Tryz.func194 rfl (by kernel_rfl) ?_
  unfold Tryz.f194
  simp (disch := ((try simp only [LL]); omega)) only [↓GO, ↓DRW, GA, ren, zG, zd, refs, zb, cst, zl, zM, z7, E.load, E.store, zL, isC, bin, zN, zO, una, z8, za, zh, zP, blt, fnV, asArg, ze, zn, zo, zj, zm, zg, zk, zu, z6, zK, zJ, E.mkS, zc, unN, zQ, zi, zw, zq, zC, zI, zf, zR, zr, GS, simprocAttr, GZ, h1, h2]
theorem R4 (a b : Str) : zE (EV Tryz.prog pol) 258 [.t (.str a), .t (.str b)] = some (.t (.int .i64 (rV a b))) := by
 unfold rV
 cases h1 : Op.bytesLess a b <;> cases h2 : (a == b)
 all_goals
  apply zz
  refine zA rfl Tryz.func258 rfl (by kernel_rfl) ?_
  unfold Tryz.f258
  simp (disch := ((try simp only [LL]); omega)) only [↓GO, ↓DRW, GA, ren, zG, zd, refs, zb, cst, zl, zM, z7, E.load, E.store, zL, isC, bin, zN, zO, una, z8, za, zh, zP, blt, fnV, asArg, ze, zn, zo, zj, zm, zg, zk, zu, z6, zK, zJ, E.mkS, zc, unN, zQ, zi, zw, zq, zC, zI, zf, zR, zr, GS, simprocAttr, GZ, h1, h2]
theorem Qz (a b : Str) (ha : a.length ≤ 4194304) (hb : b.length ≤ 4194304) : zE (EV Tryz.prog pol) 195 [.t (.str a), .t (.str b)] = some (.t (.int .i64 (ub a b))) := by
 have d1 := iC a (by omega)
 have d2 := iC b (by omega)
 have d3 := ov (zF a) (zF b)
 have d4 := R4 a b
 unfold ub
 generalize zF a = ra at *
 generalize zF b = rb at *
 cases h1 : decide (ra ≥ 0) <;> cases h2 : decide (rb ≥ 0)
 all_goals
  apply zz
  refine zA rfl Tryz.func195 rfl (by kernel_rfl) ?_
  unfold Tryz.f195
  simp (disch := ((try simp only [LL]); omega)) only [↓GO, ↓DRW, GA, ren, zG, zd, refs, zb, cst, zl, zM, z7, E.load, E.store, zL, isC, bin, zN, zO, una, z8, za, zh, zP, blt, fnV, asArg, ze, zn, zo, zj, zm, zg, zk, zu, z6, zK, zJ, E.mkS, zc, unN, zQ, zi, zw, zq, zC, zI, zf, zR, zr, GS, simprocAttr, GZ, d1, d2, d3, d4, h1, h2]
theorem Qk (x1 x2 x3 x4 y1 y2 y3 y4 : T) (a b c : Int) :
 EV Tryz.prog pol (.loop 92 58 0 [.ptr 0 0 0, .ptr 1 0 0, .sl 2 0 3 (some 3), .t (.int .i64 0)] [.vs 4 [[.t x1, .t x2, .t x3, .t x4]], .vs 4 [[.t y1, .t y2, .t y3, .t y4]], .ts 1 [[.int .i64 a], [.int .i64 b], [.int .i64 c]]])
 = some (cond (a == 0) (cond (b == 0) (cond (c == 0) (.loop (.exit 0) [.ptr 0 0 0, .ptr 1 0 0, .bad] [.vs 4 [[.t x1, .t x2, .t x3, .t x4]], .vs 4 [[.t y1, .t y2, .t y3, .t y4]]])
  (.loop .ret [.ptr 0 0 0, .ptr 1 0 0, .t (.int .i64 c)] [.vs 4 [[.t x1, .t x2, .t x3, .t x4]], .vs 4 [[.t y1, .t y2, .t y3, .t y4]]]))
  (.loop .ret [.ptr 0 0 0, .ptr 1 0 0, .t (.int .i64 b)] [.vs 4 [[.t x1, .t x2, .t x3, .t x4]], .vs 4 [[.t y1, .t y2, .t y3, .t y4]]]))
  (.loop .ret [.ptr 0 0 0, .ptr 1 0 0, .t (.int .i64 a)] [.vs 4 [[.t x1, .t x2, .t x3, .t x4]], .vs 4 [[.t y1, .t y2, .t y3, .t y4]]])) := by
 cases h1 : (a == 0)
 · refine zD Tryz.func92 rfl rfl ?_
   simp (disch := ((try simp only [LL]); omega)) only [↓GO, ↓DRW, GA, ren, zG, zd, refs, zb, cst, zl, zM, z7, E.load, E.store, zL, isC, bin, zN, zO, una, z8, za, zh, zP, blt, fnV, asArg, ze, zn, zo, zj, zm, zg, zk, zu, z6, zK, zJ, E.mkS, zc, unN, zQ, zi, zw, zq, zC, zI, zf, zR, zr, GS, simprocAttr, GZ, h1, bne, zB, y6]
 · refine zD Tryz.func92 rfl rfl ?_
   simp (disch := ((try simp only [LL]); omega)) only [↓GO, ↓DRW, GA, ren, zG, zd, refs, zb, cst, zl, zM, z7, E.load, E.store, zL, isC, bin, zN, zO, una, z8, za, zh, zP, blt, fnV, asArg, ze, zn, zo, zj, zm, zg, zk, zu, z6, zK, zJ, E.mkS, zc, unN, zQ, zi, zw, zq, zC, zI, zf, zR, zr, GS, simprocAttr, GZ, h1, bne, zB, y6, Int.zero_add]
   cases h2 : (b == 0)
   · refine zD Tryz.func92 rfl rfl ?_
     simp (disch := ((try simp only [LL]); omega)) only [↓GO, ↓DRW, GA, ren, zG, zd, refs, zb, cst, zl, zM, z7, E.load, E.store, zL, isC, bin, zN, zO, una, z8, za, zh, zP, blt, fnV, asArg, ze, zn, zo, zj, zm, zg, zk, zu, z6, zK, zJ, E.mkS, zc, unN, zQ, zi, zw, zq, zC, zI, zf, zR, zr, GS, simprocAttr, GZ, h2, bne, zB, y6]
   · refine zD Tryz.func92 rfl rfl ?_
     simp (disch := ((try simp only [LL]); omega)) only [↓GO, ↓DRW, GA, ren, zG, zd, refs, zb, cst, zl, zM, z7, E.load, E.store, zL, isC, bin, zN, zO, una, z8, za, zh, zP, blt, fnV, asArg, ze, zn, zo, zj, zm, zg, zk, zu, z6, zK, zJ, E.mkS, zc, unN, zQ, zi, zw, zq, zC, zI, zf, zR, zr, GS, simprocAttr, GZ, h2, bne, zB, y6, Int.reduceAdd]
     cases h3 : (c == 0)
     · refine zD Tryz.func92 rfl rfl ?_
       simp (disch := ((try simp only [LL]); omega)) only [↓GO, ↓DRW, GA, ren, zG, zd, refs, zb, cst, zl, zM, z7, E.load, E.store, zL, isC, bin, zN, zO, una, z8, za, zh, zP, blt, fnV, asArg, ze, zn, zo, zj, zm, zg, zk, zu, z6, zK, zJ, E.mkS, zc, unN, zQ, zi, zw, zq, zC, zI, zf, zR, zr, GS, simprocAttr, GZ, h3, bne, zB, y6]
     · refine zD Tryz.func92 rfl rfl ?_
       simp (disch := ((try simp only [LL]); omega)) only [↓GO, ↓DRW, GA, ren, zG, zd, refs, zb, cst, zl, zM, z7, E.load, E.store, zL, isC, bin, zN, zO, una, z8, za, zh, zP, blt, fnV, asArg, ze, zn, zo, zj, zm, zg, zk, zu, z6, zK, zJ, E.mkS, zc, unN, zQ, zi, zw, zq, zC, zI, zf, zR, zr, GS, simprocAttr, GZ, h3, bne, zB, y6, Int.reduceAdd]
       refine zD Tryz.func92 rfl rfl ?_
       simp (disch := ((try simp only [LL]); omega)) only [↓GO, ↓DRW, GA, ren, zG, zd, refs, zb, cst, zl, zM, z7, E.load, E.store, zL, isC, bin, zN, zO, una, z8, za, zh, zP, blt, fnV, asArg, ze, zn, zo, zj, zm, zg, zk, zu, z6, zK, zJ, E.mkS, zc, unN, zQ, zi, zw, zq, zC, zI, zf, zR, zr, GS, simprocAttr, GZ, zB, y6]
theorem Th (a b : Ver) (ha : a.sm) (hb : b.sm) : ∀ (ra rb pa pb : List Str), a.pre = pa ++ ra → b.pre = pb ++ rb → pa.length = pb.length →
 EV Tryz.prog pol (.loop 92 250 0 [.ptr 0 0 0, .ptr 1 0 0, .t (.int .i64 (pa.length : Int))] [.vs 4 [a.enc.map .t], .vs 4 [b.enc.map .t]])
 = some (match uf ra rb with
  | some n => .loop .ret [.ptr 0 0 0, .ptr 1 0 0, .t (.int .i64 n)] [.vs 4 [a.enc.map .t], .vs 4 [b.enc.map .t]]
  | none => .loop (.exit 2) [.ptr 0 0 0, .ptr 1 0 0, .bad] [.vs 4 [a.enc.map .t], .vs 4 [b.enc.map .t]])
 | [], rb, pa, pb, h1, h2, h3 => by
  have c : decide ((pa.length : Int) < (a.pre.length : Int)) = false := by simp [h1]
  simp only [Ver.enc, List.map_cons, List.map_nil, uf]
  refine zD Tryz.func92 rfl rfl ?_
  simp (disch := ((try simp only [LL]); omega)) only [↓GO, ↓DRW, GA, ren, zG, zd, refs, zb, cst, zl, zM, z7, E.load, E.store, zL, isC, bin, zN, zO, una, z8, za, zh, zP, blt, fnV, asArg, ze, zn, zo, zj, zm, zg, zk, zu, z6, zK, zJ, E.mkS, zc, unN, zQ, zi, zw, zq, zC, zI, zf, zR, zr, GS, simprocAttr, GZ, zH, c, y6]
 | x :: ra, [], pa, pb, h1, h2, h3 => by
  have c : decide ((pa.length : Int) < (a.pre.length : Int)) = true := by simp [h1]; omega
  have c2 : decide ((pa.length : Int) < (b.pre.length : Int)) = false := by simp [h2]; omega
  simp only [Ver.enc, List.map_cons, List.map_nil, uf]
  refine zD Tryz.func92 rfl rfl ?_
  simp (disch := ((try simp only [LL]); omega)) only [↓GO, ↓DRW, GA, ren, zG, zd, refs, zb, cst, zl, zM, z7, E.load, E.store, zL, isC, bin, zN, zO, una, z8, za, zh, zP, blt, fnV, asArg, ze, zn, zo, zj, zm, zg, zk, zu, z6, zK, zJ, E.mkS, zc, unN, zQ, zi, zw, zq, zC, zI, zf, zR, zr, GS, simprocAttr, GZ, zH, c, c2, y6]
 | x :: ra, y :: rb, pa, pb, h1, h2, h3 => by
  unfold Ver.sm at ha hb
  have c : decide ((pa.length : Int) < (a.pre.length : Int)) = true := by simp [h1]; omega
  have c2 : decide ((pa.length : Int) < (b.pre.length : Int)) = true := by simp [h2]; omega
  have hg1 : (strs a.pre)[pa.length]? = some [.str x] := by rw [h1]; exact wz pa x ra
  have hg2 : (strs b.pre)[pa.length]? = some [.str y] := by rw [h2, h3]; exact wz pb y rb
  have hlen : pa.length + ra.length + 1 ≤ a.pre.length := by rw [h1]; simp; omega
  have hx : x.length ≤ 2097152 := by have := xW (ks := a.pre) (s := x) (by rw [h1]; simp); omega
  have hy : y.length ≤ 2097152 := by have := xW (ks := b.pre) (s := y) (by rw [h2]; simp); omega
  have hp := Qz x y (by omega) (by omega)
  have IH := Th a b ha hb ra rb (pa ++ [x]) (pb ++ [y]) (by rw [h1]; simp) (by rw [h2]; simp) (by simp [h3])
  rw [show ((pa ++ [x]).length : Int) = (pa.length : Int) + 1 by simp] at IH
  clear h1 h2
  simp only [Ver.enc, List.map_cons, List.map_nil] at IH ⊢
  rw [uf]
  generalize ub x y = n at *
  cases hn : (n == 0)
  · simp only [cond_false]
    refine zD Tryz.func92 rfl rfl ?_
    simp (disch := ((try simp only [LL]); omega)) only [↓GO, ↓DRW, GA, ren, zG, zd, refs, zb, cst, zl, zM, z7, E.load, E.store, zL, isC, bin, zN, zO, una, z8, za, zh, zP, blt, fnV, asArg, ze, zn, zo, zj, zm, zg, zk, zu, z6, zK, zJ, E.mkS, zc, unN, zQ, zi, zw, zq, zC, zI, zf, zR, zr, GS, simprocAttr, GZ, zH, c, c2, hg1, hg2, hp, hn, bne, zB, y6]
  · simp only [cond_true]
    refine zD Tryz.func92 rfl rfl ?_
    simp (disch := ((try simp only [LL]); omega)) only [↓GO, ↓DRW, GA, ren, zG, zd, refs, zb, cst, zl, zM, z7, E.load, E.store, zL, isC, bin, zN, zO, una, z8, za, zh, zP, blt, fnV, asArg, ze, zn, zo, zj, zm, zg, zk, zu, z6, zK, zJ, E.mkS, zc, unN, zQ, zi, zw, zq, zC, zI, zf, zR, zr, GS, simprocAttr, GZ, zH, c, c2, hg1, hg2, hp, hn, bne, zB, y6, IH]
theorem lQ (a b : Ver) (ha : a.sm) (hb : b.sm) : zE (EV Tryz.prog pol) 92 [.agg (a.enc.map .t), .agg (b.enc.map .t)] = some (.t (.int .i64 (uz a b))) := by
 have d1 := ov a.maj b.maj
 have d2 := ov a.min b.min
 have d3 := ov a.pat b.pat
 have d4 := ov (b.pre.length : Int) (a.pre.length : Int)
 have d5 := ov (a.pre.length : Int) (b.pre.length : Int)
 have L2 := Th a b ha hb a.pre b.pre [] [] rfl rfl rfl
 have L1 := Qk (.int .i64 a.maj) (.int .i64 a.min) (.int .i64 a.pat) (.list 1 (strs a.pre)) (.int .i64 b.maj) (.int .i64 b.min) (.int .i64 b.pat) (.list 1 (strs b.pre)) (yR a.maj b.maj) (yR a.min b.min) (yR a.pat b.pat)
 have e1 := ud a.pre
 have e2 := ud b.pre
 unfold uz vg
 simp only [List.length_nil, Int.natCast_zero] at L2
 simp only [Ver.enc, List.map_cons, List.map_nil] at L1 L2 ⊢
 generalize yR a.maj b.maj = n1 at *
 generalize yR a.min b.min = n2 at *
 generalize yR a.pat b.pat = n3 at *
 cases h1 : (n1 == 0) <;> rw [h1] at L1
 · simp only [cond_false] at L1
   apply zz
   refine zA rfl Tryz.func92 rfl (by kernel_rfl) ?_
   unfold Tryz.f92
   simp (disch := ((try simp only [LL]); omega)) only [↓GO, ↓DRW, GA, ren, zG, zd, refs, zb, cst, zl, zM, z7, E.load, E.store, zL, isC, bin, zN, zO, una, z8, za, zh, zP, blt, fnV, asArg, ze, zn, zo, zj, zm, zg, zk, zu, z6, zK, zJ, E.mkS, zc, unN, zQ, zi, zw, zq, zC, zI, zf, zR, zr, GS, simprocAttr, GZ, d1, d2, d3, L1, y6]
   refine yZ (by kernel_rfl) ?_
   simp (disch := ((try simp only [LL]); omega)) only [↓GO, ↓DRW, GA, ren, zG, zd, refs, zb, cst, zl, zM, z7, E.load, E.store, zL, isC, bin, zN, zO, una, z8, za, zh, zP, blt, fnV, asArg, ze, zn, zo, zj, zm, zg, zk, zu, z6, zK, zJ, E.mkS, zc, unN, zQ, zi, zw, zq, zC, zI, zf, zR, zr, GS, simprocAttr, GZ, d1, d2, d3, L1, y6]
 · cases h2 : (n2 == 0) <;> rw [h2] at L1
   · simp only [cond_false, cond_true] at L1
     apply zz
     refine zA rfl Tryz.func92 rfl (by kernel_rfl) ?_
     unfold Tryz.f92
     simp (disch := ((try simp only [LL]); omega)) only [↓GO, ↓DRW, GA, ren, zG, zd, refs, zb, cst, zl, zM, z7, E.load, E.store, zL, isC, bin, zN, zO, una, z8, za, zh, zP, blt, fnV, asArg, ze, zn, zo, zj, zm, zg, zk, zu, z6, zK, zJ, E.mkS, zc, unN, zQ, zi, zw, zq, zC, zI, zf, zR, zr, GS, simprocAttr, GZ, d1, d2, d3, L1, y6]
     refine yZ (by kernel_rfl) ?_
     simp (disch := ((try simp only [LL]); omega)) only [↓GO, ↓DRW, GA, ren, zG, zd, refs, zb, cst, zl, zM, z7, E.load, E.store, zL, isC, bin, zN, zO, una, z8, za, zh, zP, blt, fnV, asArg, ze, zn, zo, zj, zm, zg, zk, zu, z6, zK, zJ, E.mkS, zc, unN, zQ, zi, zw, zq, zC, zI, zf, zR, zr, GS, simprocAttr, GZ, d1, d2, d3, L1, y6]
   · cases h3 : (n3 == 0) <;> rw [h3] at L1
     · simp only [cond_false, cond_true] at L1
       apply zz
       refine zA rfl Tryz.func92 rfl (by kernel_rfl) ?_
       unfold Tryz.f92
       simp (disch := ((try simp only [LL]); omega)) only [↓GO, ↓DRW, GA, ren, zG, zd, refs, zb, cst, zl, zM, z7, E.load, E.store, zL, isC, bin, zN, zO, una, z8, za, zh, zP, blt, fnV, asArg, ze, zn, zo, zj, zm, zg, zk, zu, z6, zK, zJ, E.mkS, zc, unN, zQ, zi, zw, zq, zC, zI, zf, zR, zr, GS, simprocAttr, GZ, d1, d2, d3, L1, y6]
       refine yZ (by kernel_rfl) ?_
       simp (disch := ((try simp only [LL]); omega)) only [↓GO, ↓DRW, GA, ren, zG, zd, refs, zb, cst, zl, zM, z7, E.load, E.store, zL, isC, bin, zN, zO, una, z8, za, zh, zP, blt, fnV, asArg, ze, zn, zo, zj, zm, zg, zk, zu, z6, zK, zJ, E.mkS, zc, unN, zQ, zi, zw, zq, zC, zI, zf, zR, zr, GS, simprocAttr, GZ, d1, d2, d3, L1, y6]
     · simp only [cond_true] at L1
       cases hs : uf a.pre b.pre <;> rw [hs] at L2 <;> simp only at L2 <;> cases h4 : (a.pre == []) <;> cases h5 : (b.pre == []) <;> rw [h4] at e1 <;> rw [h5] at e2
       all_goals
        apply zz
        refine zA rfl Tryz.func92 rfl (by kernel_rfl) ?_
        unfold Tryz.f92
        simp (disch := ((try simp only [LL]); omega)) only [↓GO, ↓DRW, GA, ren, zG, zd, refs, zb, cst, zl, zM, z7, E.load, E.store, zL, isC, bin, zN, zO, una, z8, za, zh, zP, blt, fnV, asArg, ze, zn, zo, zj, zm, zg, zk, zu, z6, zK, zJ, E.mkS, zc, unN, zQ, zi, zw, zq, zC, zI, zf, zR, zr, GS, simprocAttr, GZ, d1, d2, d3, d4, d5, L1, L2, zH, e1, e2, y6]
        refine yZ (by kernel_rfl) ?_
        simp (disch := ((try simp only [LL]); omega)) only [↓GO, ↓DRW, GA, ren, zG, zd, refs, zb, cst, zl, zM, z7, E.load, E.store, zL, isC, bin, zN, zO, una, z8, za, zh, zP, blt, fnV, asArg, ze, zn, zo, zj, zm, zg, zk, zu, z6, zK, zJ, E.mkS, zc, unN, zQ, zi, zw, zq, zC, zI, zf, zR, zr, GS, simprocAttr, GZ, d1, d2, d3, d4, d5, L1, L2, zH, e1, e2, y6, Option.getD_some, Option.getD_none]
end Go.Proofs.YtijninlbpifonaaGreatDoor
/- The next version, the range of one alone, by the reference. Conditions: those of each lemma. -/
namespace Go.Proofs.YtijninlbpifonaaGreatDoor
open E
set_option linter.unusedSimpArgs false
set_option linter.unusedVariables false
set_option maxRecDepth 100000
theorem Ry (v : Ver) (p : Int) : (upV v p).sm := by
 unfold upV
 cases (p == 0) <;> cases (p == 1) <;> simp [Ver.sm, yj]
theorem Sk {v : Ver} (h : v.sm) (p : Int) : (wR v p).sm := by
 unfold wR
 cases (!(yz v) || !(B2 p 0 2)) <;> cases yz (upV v p) <;> simp only [cond_true, cond_false] <;> first | exact h | exact Ry v p
theorem QA (v : Ver) (p : Int) (hs : v.sm) (hp : p = 0 ∨ p = 1 ∨ p = 2) (h1 : -1 ≤ v.maj ∧ v.maj ≤ 999999999) (h2 : -1 ≤ v.min ∧ v.min ≤ 999999999) (h3 : -1 ≤ v.pat ∧ v.pat ≤ 999999999) :
 zE (EV Tryz.prog pol) 358 [.agg (v.enc.map .t), .t (.int .i64 p)] = some (.agg ((wR v p).enc.map .t)) := by
 have d1 := aY v hs
 have d2 := aY (upV v p) (Ry v p)
 have d3 := xP p 0 2
 have hb : B2 p 0 2 = true := by rcases hp with rfl | rfl | rfl <;> rfl
 have e1 := ud v.pre
 have ht : List.take (0 + (strs v.pre).length) (strs v.pre) = strs v.pre := List.take_of_length_le (by omega)
 have ht2 : List.take v.pre.length (strs v.pre) = strs v.pre := List.take_of_length_le (by rw [zH]; omega)
 unfold Ver.sm at hs
 rw [hb] at d3
 unfold wR
 rw [hb]
 simp only [Bool.not_true, Bool.or_false]
 cases ho : yz v <;> rw [ho] at d1
 · simp only [Ver.enc, List.map_cons, List.map_nil, Bool.not_false, cond_true] at d1 ⊢
   apply zz
   refine zA rfl Tryz.func358 rfl (by kernel_rfl) ?_
   unfold Tryz.f358
   simp (disch := ((try simp only [LL]); omega)) only [↓GO, ↓DRW, GA, ren, zG, zd, refs, zb, cst, zl, zM, z7, E.load, E.store, zL, isC, bin, zN, zO, una, z8, za, zh, zP, blt, fnV, asArg, ze, zn, zo, zj, zm, zg, zk, zu, z6, zK, zJ, E.mkS, zc, unN, zQ, zi, zw, zq, zC, zI, zf, zR, zr, GS, simprocAttr, GZ, d1, zH, ht, ht2, wk]
 · simp only [Bool.not_true, cond_false]
   unfold upV at d2 ⊢
   rcases hp with rfl | rfl | rfl
   · simp only [show ((0 : Int) == 0) = true from rfl, cond_true] at d2 ⊢
     cases hu : yz ⟨v.maj + 1, 0, 0, []⟩ <;> rw [hu] at d2 <;> simp only [Ver.enc, List.map_cons, List.map_nil, yi, cond_true, cond_false] at d1 d2 ⊢
     all_goals
      apply zz
      refine zA rfl Tryz.func358 rfl (by kernel_rfl) ?_
      unfold Tryz.f358
      simp (disch := ((try simp only [LL]); omega)) only [↓GO, ↓DRW, GA, ren, zG, zd, refs, zb, cst, zl, zM, z7, E.load, E.store, zL, isC, bin, zN, zO, una, z8, za, zh, zP, blt, fnV, asArg, ze, zn, zo, zj, zm, zg, zk, zu, z6, zK, zJ, E.mkS, zc, unN, zQ, zi, zw, zq, zC, zI, zf, zR, zr, GS, simprocAttr, GZ, d1, d2, d3, zH, ht, ht2, wk, zB]
   · simp only [show ((1 : Int) == 0) = false from rfl, show ((1 : Int) == 1) = true from rfl, cond_true, cond_false] at d2 ⊢
     cases hu : yz ⟨v.maj, v.min + 1, 0, []⟩ <;> rw [hu] at d2 <;> simp only [Ver.enc, List.map_cons, List.map_nil, yi, cond_true, cond_false] at d1 d2 ⊢
     all_goals
      apply zz
      refine zA rfl Tryz.func358 rfl (by kernel_rfl) ?_
      unfold Tryz.f358
      simp (disch := ((try simp only [LL]); omega)) only [↓GO, ↓DRW, GA, ren, zG, zd, refs, zb, cst, zl, zM, z7, E.load, E.store, zL, isC, bin, zN, zO, una, z8, za, zh, zP, blt, fnV, asArg, ze, zn, zo, zj, zm, zg, zk, zu, z6, zK, zJ, E.mkS, zc, unN, zQ, zi, zw, zq, zC, zI, zf, zR, zr, GS, simprocAttr, GZ, d1, d2, d3, zH, ht, ht2, wk, zB]
   · simp only [show ((2 : Int) == 0) = false from rfl, show ((2 : Int) == 1) = false from rfl, cond_false] at d2 ⊢
     cases hq : (v.pre == []) <;> rw [hq] at e1 d2 <;> simp only [cond_true, cond_false] at d2 ⊢
     · cases hu : yz ⟨v.maj, v.min, v.pat, []⟩ <;> rw [hu] at d2 <;> simp only [Ver.enc, List.map_cons, List.map_nil, yi, cond_true, cond_false] at d1 d2 ⊢
       all_goals
        apply zz
        refine zA rfl Tryz.func358 rfl (by kernel_rfl) ?_
        unfold Tryz.f358
        simp (disch := ((try simp only [LL]); omega)) only [↓GO, ↓DRW, GA, ren, zG, zd, refs, zb, cst, zl, zM, z7, E.load, E.store, zL, isC, bin, zN, zO, una, z8, za, zh, zP, blt, fnV, asArg, ze, zn, zo, zj, zm, zg, zk, zu, z6, zK, zJ, E.mkS, zc, unN, zQ, zi, zw, zq, zC, zI, zf, zR, zr, GS, simprocAttr, GZ, d1, d2, d3, e1, zH, ht, ht2, wk, zB]
     · cases hu : yz ⟨v.maj, v.min, v.pat + 1, []⟩ <;> rw [hu] at d2 <;> simp only [Ver.enc, List.map_cons, List.map_nil, yi, cond_true, cond_false] at d1 d2 ⊢
       all_goals
        apply zz
        refine zA rfl Tryz.func358 rfl (by kernel_rfl) ?_
        unfold Tryz.f358
        simp (disch := ((try simp only [LL]); omega)) only [↓GO, ↓DRW, GA, ren, zG, zd, refs, zb, cst, zl, zM, z7, E.load, E.store, zL, isC, bin, zN, zO, una, z8, za, zh, zP, blt, fnV, asArg, ze, zn, zo, zj, zm, zg, zk, zu, z6, zK, zJ, E.mkS, zc, unN, zQ, zi, zw, zq, zC, zI, zf, zR, zr, GS, simprocAttr, GZ, d1, d2, d3, e1, zH, ht, ht2, wk, zB]
theorem gd (v : Ver) : (x8 v).sm := by simp [x8, Ver.sm, yj]
theorem ga (v : Ver) (p : Int) (hs : v.sm) (hp : p = 0 ∨ p = 1 ∨ p = 2) (h1 : -1 ≤ v.maj ∧ v.maj ≤ 999999999) (h2 : -1 ≤ v.min ∧ v.min ≤ 999999999) (h3 : -1 ≤ v.pat ∧ v.pat ≤ 999999999) :
 zE (EV Tryz.prog pol) 328 [.agg (v.enc.map .t), .t (.int .i64 p)] = some (.tup [.t (.str (vj v p).1), .t (.bool (vj v p).2)]) := by
 have d1 := QA (x8 v) p (gd v) hp h1 h2 h3
 have d2 := lQ (wR (x8 v) p) (x8 v) (Sk (gd v) p) (gd v)
 have d3 := dV ⟨(wR (x8 v) p).maj, (wR (x8 v) p).min, (wR (x8 v) p).pat, [[48]]⟩ (Z7 _ _ _)
 unfold vj
 generalize uz (wR (x8 v) p) (x8 v) = cm at *
 generalize yc ⟨(wR (x8 v) p).maj, (wR (x8 v) p).min, (wR (x8 v) p).pat, [[48]]⟩ = tx at *
 generalize wR (x8 v) p = nx at *
 simp only [Ver.enc, x8, List.map_cons, List.map_nil, xm, yi] at d1 d2 d3 ⊢
 cases hc : (cm == 0)
 all_goals
  apply zz
  refine zA rfl Tryz.func328 rfl (by kernel_rfl) ?_
  unfold Tryz.f328
  simp (disch := ((try simp only [LL]); omega)) only [↓GO, ↓DRW, GA, ren, zG, zd, refs, zb, cst, zl, zM, z7, E.load, E.store, zL, isC, bin, zN, zO, una, z8, za, zh, zP, blt, fnV, asArg, ze, zn, zo, zj, zm, zg, zk, zu, z6, zK, zJ, E.mkS, zc, unN, zQ, zi, zw, zq, zC, zI, zf, zR, zr, GS, simprocAttr, GZ, d1, d2, d3, hc, yi]
def alT (s : Str) : V := match wS s with
 | some (l, h) => .tup [.agg [.t (.str l), .t (.str h)], .t (.bool true)]
 | none => .tup [.agg [.t (.str []), .t (.str [])], .t (.bool false)]
theorem U8 (s : Str) (hl : s.length ≤ 1048600) : zE (EV Tryz.prog pol) 275 [.t (.str s)] = some (alT s) := by
 have d1 := tV s (by omega)
 have d2 := tV (s ++ [46, 48]) (by simp only [List.length_append, List.length_cons, List.length_nil]; omega)
 obtain ⟨m1, m2, m3, m4, m5, m6, m7⟩ := yO s (by omega)
 have d3 := ga (zx s).1 2 m1 (by omega) ⟨m3, m2⟩ ⟨m5, m4⟩ ⟨m7, m6⟩
 have hg := gu (zx s).1.pre
 unfold rvT at d1 d2
 unfold alT wS rE
 cases hk : (zx s).2 with
 | false =>
  rw [hk] at d1
  generalize (zx s).1 = v at *
  simp only [Bool.false_and, cond_false]
  simp only [Ver.enc, List.map_cons, List.map_nil] at d1 ⊢
  apply zz
  refine zA rfl Tryz.func275 rfl (by kernel_rfl) ?_
  unfold Tryz.f275
  simp (disch := ((try simp only [LL]); omega)) only [↓GO, ↓DRW, GA, ren, zG, zd, refs, zb, cst, zl, zM, z7, E.load, E.store, zL, isC, bin, zN, zO, una, z8, za, zh, zP, blt, fnV, asArg, ze, zn, zo, zj, zm, zg, zk, zu, z6, zK, zJ, E.mkS, zc, unN, zQ, zi, zw, zq, zC, zI, zf, zR, zr, GS, simprocAttr, GZ, d1]
 | true =>
  have ho := (yl hk).2.2.1
  rw [hk] at d1
  cases hp : ((zx s).1.pre == []) with
  | true =>
   have hb := vL ho 2 (by omega)
   simp only [show ((2 : Int) == 0) = false from rfl, show ((2 : Int) == 1) = false from rfl, show ((2 : Int) == 2) = true from rfl, cond_true, cond_false] at hb
   rw [hb] at d3
   rw [hp] at hg
   simp only [Bool.not_true, cond_true, Bool.true_and] at hg ⊢
   generalize (zx s).1 = v at *
   generalize yg v.maj v.min (v.pat + 1) = zp at *
   simp only [Ver.enc, List.map_cons, List.map_nil] at d1 d3 ⊢
   clear d2 hb
   cases hz : (zp == []) <;> rw [hz] at d3 <;> simp only [Bool.not_true, Bool.not_false, cond_true, cond_false] at d3 ⊢
   all_goals
    apply zz
    refine zA rfl Tryz.func275 rfl (by kernel_rfl) ?_
    unfold Tryz.f275
    simp (disch := ((try simp only [LL]); omega)) only [↓GO, ↓DRW, GA, ren, zG, zd, refs, zb, cst, zl, zM, z7, E.load, E.store, zL, isC, bin, zN, zO, una, z8, za, zh, zP, blt, fnV, asArg, ze, zn, zo, zj, zm, zg, zk, zu, z6, zK, zJ, E.mkS, zc, unN, zQ, zi, zw, zq, zC, zI, zf, zR, zr, GS, simprocAttr, GZ, d1, d3, hg, zH]
  | false =>
   obtain ⟨r1, r2⟩ := kL hk (fun h => by rw [h] at hp; cases hp)
   rw [r1] at d2
   rw [hp] at hg
   simp only [Bool.not_false, cond_false, Bool.true_and] at hg ⊢
   rw [r2]
   generalize yz (sJ (zx s).1) = pk at *
   generalize sJ (zx s).1 = pv at *
   generalize (zx s).1 = v at *
   have hne : ((s ++ [46, 48]) == []) = false := by cases s <;> rfl
   simp only [Ver.enc, List.map_cons, List.map_nil] at d1 ⊢
   cases pk <;> simp only [Ver.enc, List.map_cons, List.map_nil, cond_true, cond_false, hne, Bool.not_false, show (([] : Str) == []) = true from rfl, Bool.not_true] at d2 ⊢
   all_goals
    apply zz
    refine zA rfl Tryz.func275 rfl (by kernel_rfl) ?_
    unfold Tryz.f275
    simp (disch := ((try simp only [LL]); omega)) only [↓GO, ↓DRW, GA, ren, zG, zd, refs, zb, cst, zl, zM, z7, E.load, E.store, zL, isC, bin, zN, zO, una, z8, za, zh, zP, blt, fnV, asArg, ze, zn, zo, zj, zm, zg, zk, zu, z6, zK, zJ, E.mkS, zc, unN, zQ, zi, zw, zq, zC, zI, zf, zR, zr, GS, simprocAttr, GZ, d1, d2, hg, zH, wk]
end Go.Proofs.YtijninlbpifonaaGreatDoor
/- What the laws' own functions do over Bound, Notice: sizes, copies, comparisons. Conditions: those of each lemma. -/
namespace Go.Proofs.YtijninlbpifonaaGreatDoor
open E
set_option linter.unusedSimpArgs false
set_option linter.unusedVariables false
set_option maxRecDepth 100000
structure yD where
 low : List UInt8
 high : List UInt8
def yD.enc (x : yD) : List T := [.str x.low, .str x.high]
def yD.yb (l : List yD) : List (List T) := l.map yD.enc
def yD.yp (x : yD) : Nat := x.low.length + x.high.length
def yD.ya : List yD → Nat
 | [] => 0
 | c :: cs => yD.yp c + yD.ya cs
def yD.ok (x : yD) : Prop := x.low.length ≤ 9223372036854775807 ∧ x.high.length ≤ 9223372036854775807
theorem yD.ua (x : yD) : x.enc.length = 2 := rfl
theorem yD.vd (x : yD) : x.enc.take 2 = x.enc := rfl
theorem yD.zY (cs : List yD) : (yD.yb cs).length = cs.length := by simp [yD.yb]
theorem yD.yW (cs : List yD) (i : Nat) (h : i < cs.length) : (yD.yb cs)[i]? = some cs[i].enc := by simp [yD.yb, h]
theorem yD.xj (cs : List yD) (i : Nat) (h : i < cs.length) : yD.ya (cs.drop i) = cs[i].yp + yD.ya (cs.drop (i + 1)) := by
 rw [List.drop_eq_getElem_cons h]; rfl
theorem yD.yw : ∀ {cs : List yD} {c : yD}, c ∈ cs → c.yp ≤ yD.ya cs
 | c' :: cs, c, h => by
  simp only [yD.ya]
  rcases List.mem_cons.1 h with rfl | h
  · omega
  · have := yD.yw h; omega
structure zy where
 name : List UInt8
 range : List UInt8
 text : List UInt8
def zy.enc (x : zy) : List T := [.str x.name, .str x.range, .str x.text]
def zy.yb (l : List zy) : List (List T) := l.map zy.enc
def zy.yp (x : zy) : Nat := x.name.length + x.range.length + x.text.length
def zy.ya : List zy → Nat
 | [] => 0
 | c :: cs => zy.yp c + zy.ya cs
def zy.ok (x : zy) : Prop := x.name.length ≤ 9223372036854775807 ∧ x.range.length ≤ 9223372036854775807 ∧ x.text.length ≤ 9223372036854775807
theorem zy.ua (x : zy) : x.enc.length = 3 := rfl
theorem zy.vd (x : zy) : x.enc.take 3 = x.enc := rfl
theorem zy.zY (cs : List zy) : (zy.yb cs).length = cs.length := by simp [zy.yb]
theorem zy.yW (cs : List zy) (i : Nat) (h : i < cs.length) : (zy.yb cs)[i]? = some cs[i].enc := by simp [zy.yb, h]
theorem zy.xj (cs : List zy) (i : Nat) (h : i < cs.length) : zy.ya (cs.drop i) = cs[i].yp + zy.ya (cs.drop (i + 1)) := by
 rw [List.drop_eq_getElem_cons h]; rfl
theorem zy.yw : ∀ {cs : List zy} {c : zy}, c ∈ cs → c.yp ≤ zy.ya cs
 | c' :: cs, c, h => by
  simp only [zy.ya]
  rcases List.mem_cons.1 h with rfl | h
  · omega
  · have := zy.yw h; omega
def lJ (x : zy) : Prop := ∀ n : Int, 0 ≤ n → n ≤ 1048576 → zE (EV Tryz.prog pol) 88 [.agg (x.enc.map .t), .t (.int .i64 n)] = some (.t (.int .i64 (left n x.yp)))
theorem qm (x : zy) (ho : x.ok) : lJ x := by
 obtain ⟨name, range, text⟩ := x
 intro n h0 h1
 simp only [zy.ok] at ho
 simp only [zy.enc, List.map_cons, List.map_nil]
 apply zz
 refine zA rfl Tryz.func88 rfl (by kernel_rfl) ?_
 unfold Tryz.f88
 repeat' (first | (((first | with_reducible refine ur (fun hA => ?_) (fun hA => ?_) | with_reducible refine uq (fun hA => ?_) (fun hA => ?_)) <;> (try simp only [bne, Bool.not_eq_true', Bool.not_eq_false'] at hA) <;> (first | (have hP := Int.le_of_eq (eq_of_beq (α := Int) hA); have hQ := Int.le_of_eq (eq_of_beq (α := Int) hA).symm) | have hP := of_decide_eq_true hA | have hP := of_decide_eq_false hA | skip)) <;> (simp (disch := ((try simp only [LL]); omega)) only [↓GO, ↓DRW, GA, ren, zG, zd, refs, zb, cst, zl, zM, z7, E.load, E.store, zL, isC, bin, zN, zO, una, z8, za, zh, zP, blt, fnV, asArg, ze, zn, zo, zj, zm, zg, zk, zu, z6, zK, zJ, E.mkS, zc, unN, zQ, zi, zw, zq, zC, zI, zf, zR, zr, GS, simprocAttr, zB, bne, u7, xO, *])) | (simp (disch := ((try simp only [LL]); omega)) only [↓GO, ↓DRW, GA, ren, zG, zd, refs, zb, cst, zl, zM, z7, E.load, E.store, zL, isC, bin, zN, zO, una, z8, za, zh, zP, blt, fnV, asArg, ze, zn, zo, zj, zm, zg, zk, zu, z6, zK, zJ, E.mkS, zc, unN, zQ, zi, zw, zq, zC, zI, zf, zR, zr, GS, simprocAttr, zB, bne, u7, xO, *]))
 all_goals (refine tr ?_; simp only [zy.yp, and_true]; omega)
def sE (x : zy) : Prop := zE (EV Tryz.prog pol) 95 [.agg (x.enc.map .t)] = some (.agg (x.enc.map .t))
theorem bh (x : zy) (ho : x.yp ≤ 1048576) : sE x := by
 obtain ⟨name, range, text⟩ := x
 simp only [zy.yp] at ho
 simp only [sE, zy.enc, List.map_cons, List.map_nil]
 apply zz
 refine zA rfl Tryz.func95 rfl (by kernel_rfl) ?_
 unfold Tryz.f95
 simp only [↓GO, ↓DRW, GA, ren, zG, zd, refs, zb, cst, zl, zM, z7, E.load, E.store, zL, isC, bin, zN, zO, una, z8, za, zh, zP, blt, fnV, asArg, ze, zn, zo, zj, zm, zg, zk, zu, z6, zK, zJ, E.mkS, zc, unN, zQ, zi, zw, zq, zC, zI, zf, zR, zr, GS, simprocAttr]
def sF (x : zy) : Prop := zE (EV Tryz.prog pol) 102 [.agg (x.enc.map .t), .agg (x.enc.map .t)] = some (.t (.bool true))
theorem bm (x : zy) (ho : x.yp ≤ 1048576) : sF x := by
 obtain ⟨name, range, text⟩ := x
 simp only [zy.yp] at ho
 simp only [sF, zy.enc, List.map_cons, List.map_nil]
 apply zz
 refine zA rfl Tryz.func102 rfl (by kernel_rfl) ?_
 unfold Tryz.f102
 simp only [↓GO, ↓DRW, GA, ren, zG, zd, refs, zb, cst, zl, zM, z7, E.load, E.store, zL, isC, bin, zN, zO, una, z8, za, zh, zP, blt, fnV, asArg, ze, zn, zo, zj, zm, zg, zk, zu, z6, zK, zJ, E.mkS, zc, unN, zQ, zi, zw, zq, zC, zI, zf, zR, zr, GS, simprocAttr, bne_self_eq_false]
end Go.Proofs.YtijninlbpifonaaGreatDoor
/- Ranges, plain: both ways of reading them come to the same. Conditions: none. -/
namespace Go.Proofs.YtijninlbpifonaaGreatDoor
open E
set_option linter.unusedVariables false
set_option linter.unusedSimpArgs false
set_option maxRecDepth 100000
def vb (b : UInt8) : Bool := isD b || (nb b == 46 || (nb b == 45 || preB b))
theorem vJ {n : Int} (h : 0 ≤ n) : (Lib.itoa n).all isD = true ∧ Lib.itoa n ≠ [] := by
 obtain ⟨u, rfl⟩ : ∃ u : Nat, n = u := ⟨n.toNat, by omega⟩
 rw [Lib.itoa_nonneg]
 obtain ⟨a, _, c⟩ := u0 u
 exact ⟨a, c⟩
theorem px {p q : UInt8 → Bool} (h : ∀ b, p b = true → q b = true) {l : Str} (hl : l.all p = true) : l.all q = true := by
 rw [List.all_eq_true] at hl ⊢
 exact fun x hx => h x (hl x hx)
theorem aQ (b : UInt8) (h : isD b = true) : vb b = true := by unfold vb; rw [h]; rfl
theorem Zn (b : UInt8) (h : preB b = true) : vb b = true := by unfold vb; rw [h]; simp
theorem SB : ∀ l : List Str, (l.all fun p => p.all preB) = true → (Lib.join l [46]).all vb = true
 | [], _ => rfl
 | x :: r, h => by
  rw [Lib.join_cons]
  simp only [List.all_cons, Bool.and_eq_true] at h
  rw [List.all_append, px Zn h.1, Bool.true_and]
  have hr := h.2
  clear h
  induction r with
  | nil => rfl
  | cons y r ih =>
   simp only [List.all_cons, Bool.and_eq_true] at hr
   have e : Lib.joinTail [46] (y :: r) = 46 :: (y ++ Lib.joinTail [46] r) := by simp [Lib.joinTail]
   rw [e, List.all_cons, List.all_append, px Zn hr.1, ih hr.2]
   decide
theorem TU {v : Ver} (h : yz v = true) : (yc v).all vb = true ∧ ∃ b r, yc v = b :: r ∧ isD b = true := by
 obtain ⟨h1, h2, h3, h4, _⟩ := w3 h
 obtain ⟨a1, a2⟩ := vJ h1.1
 obtain ⟨b1, b2⟩ := vJ h2.1
 obtain ⟨c1, c2⟩ := vJ h3.1
 have hp : (v.pre.all fun p => p.all preB) = true := by
  rw [List.all_eq_true] at h4 ⊢
  intro x hx
  have := h4 x hx
  unfold wi at this
  simp only [Bool.and_eq_true] at this
  exact this.2.1
 have hj := SB v.pre hp
 have hcore : (vf v).all vb = true := by
  unfold vf
  simp only [List.all_append, px aQ a1, px aQ b1, px aQ c1]
  decide
 refine ⟨?_, ?_⟩
 · unfold yc w6
   rw [h]
   simp only [cond_true]
   cases (v.pre == []) with
   | true => simpa using hcore
   | false =>
    simp only [cond_false, List.all_append, hcore, hj]
    decide
 · unfold yc w6 vf
   rw [h]
   simp only [cond_true]
   cases hi : Lib.itoa v.maj with
   | nil => exact absurd hi a2
   | cons b r =>
    rw [hi, List.all_cons, Bool.and_eq_true] at a1
    cases (v.pre == []) <;> exact ⟨b, _, rfl, a1.1⟩
/-- is a text a version's? -/
def isV (s : Str) : Bool := (zx s).2
theorem gr {s : Str} (h : isV s = true) : (∀ b ∈ s, vb b = true) ∧ ∃ b r, s = b :: r ∧ isD b = true := by
 obtain ⟨_, ht, ho, _⟩ := yl h
 obtain ⟨h1, h2⟩ := TU ho
 rw [ht] at h1 h2
 exact ⟨List.all_eq_true.1 h1, h2⟩
theorem lO {s : Str} {c : UInt8} (hc : vb c = false) (h : c ∈ s) : isV s = false := by
 cases hv : isV s with
 | false => rfl
 | true =>
  have := (gr hv).1 c h
  rw [hc] at this; cases this
theorem lp {b : UInt8} {r : Str} (hb : isD b = false) : isV (b :: r) = false := by
 cases hv : isV (b :: r) with
 | false => rfl
 | true =>
  obtain ⟨_, b', r', e, h⟩ := gr hv
  cases e
  rw [hb] at h; cases h
theorem nN : isV [] = false := by
 cases hv : isV [] with
 | false => rfl
 | true => obtain ⟨_, _, _, e, _⟩ := gr hv; cases e
theorem mM (b : UInt8) : ∀ s : Str, (yk b s).length = s.count b + 1
 | [] => rfl
 | x :: s => by
  have ih := mM b s
  by_cases h : x = b
  · subst h; rw [we, List.length_cons, ih, List.count_cons_self]
  · cases hc : yk b s with
    | nil => exact absurd hc (x5 b s)
    | cons p r =>
     rw [yJ b x s p r h hc, List.count_cons_of_ne (by simpa using h)]
     rw [hc] at ih
     simpa using ih
theorem Xa {s : Str} (h : isV s = true) : 3 ≤ (yk 46 s).length := by
 obtain ⟨hm, _, _, _⟩ := yl h
 have he := ru 45 s
 have h3 : (yk 46 (yo 45 s).1).length = 3 := by
  unfold xT at hm
  split at hm
  · rename_i a b c hp; rw [hp]; rfl
  · cases hm
 rw [mM] at h3 ⊢
 rw [he, List.count_append]; omega
/-- the parts of a list of two -/
theorem vK {b : UInt8} : ∀ {s a : Str}, yk b s = [a] → s = a ∧ b ∉ a
 | [], a, h => by cases h; simp
 | x :: s, a, h => by
  by_cases hx : x = b
  · subst hx
    rw [we] at h
    injection h with _ h2
    exact absurd h2 (x5 x s)
  · cases hc : yk b s with
    | nil => exact absurd hc (x5 b s)
    | cons p r =>
     rw [yJ b x s p r hx hc] at h
     injection h with h1 h2
     subst h2
     obtain ⟨e1, e2⟩ := vK hc
     subst h1
     refine ⟨by rw [e1], ?_⟩
     simp only [List.mem_cons, not_or]
     exact ⟨Ne.symm hx, e2⟩
theorem vv {b : UInt8} : ∀ {s a a' : Str} {r : List Str}, yk b s = a :: a' :: r → ∃ t, s = a ++ b :: t ∧ b ∉ a ∧ yk b t = a' :: r
 | [], a, a', r, h => by simp [yk] at h
 | x :: s, a, a', r, h => by
  by_cases hx : x = b
  · subst hx
    rw [we] at h
    injection h with h1 h2
    subst h1
    exact ⟨s, rfl, by simp, h2⟩
  · cases hc : yk b s with
    | nil => exact absurd hc (x5 b s)
    | cons p q =>
     rw [yJ b x s p q hx hc] at h
     injection h with h1 h2
     subst h1 h2
     obtain ⟨t, e1, e2, e3⟩ := vv hc
     refine ⟨t, by rw [e1]; rfl, ?_, e3⟩
     simp only [List.mem_cons, not_or]
     exact ⟨Ne.symm hx, e2⟩
theorem yX {s : Str} (h : 0 ≤ zF s) : (∀ b ∈ s, isD b = true) ∧ Lib.itoa (zF s) = s ∧ zF s ≤ 999999999 ∧ s ≠ [] := by
 unfold zF at h ⊢
 split at h
 · rename_i v hv
   cases hc : ((decide (0 ≤ v) && decide (v ≤ 999999999)) && (Lib.itoa v == s)) with
   | false => rw [hc] at h; simp at h
   | true =>
    have hc' := hc
    simp only [Bool.and_eq_true, decide_eq_true_eq, beq_iff_eq] at hc'
    obtain ⟨⟨q1, q2⟩, q3⟩ := hc'
    obtain ⟨a, b⟩ := vJ q1
    simp only [cond_true]
    rw [q3] at a b
    exact ⟨List.all_eq_true.1 a, q3, q2, b⟩
 · simp at h
theorem tn {s : Str} {c : UInt8} (hc : isD c = false) (h : c ∈ s) : zF s = -1 := by
 have h1 := xx s
 by_cases h2 : 0 ≤ zF s
 · have := (yX h2).1 c h
   rw [hc] at this; cases this
 · omega
theorem qC : zF [48] = 0 := by
 have := (vt (u := 0) (by omega)).1
 rwa [show Lib.decDigits 0 = [48] by rw [Lib.decDigits_one (by omega)]; rfl] at this
theorem j6 : Lib.itoa 0 = [48] := by
 have := Lib.itoa_nonneg 0
 rw [show ((0 : Nat) : Int) = 0 from rfl] at this
 rw [this, Lib.decDigits_one (by omega)]; rfl
def uj (s : Str) : Option (Str × Str) := match yk 46 s with
 | [a] => cond (decide (0 ≤ zF a) && !(yg (zF a + 1) 0 0 == [])) (some (yc ⟨zF a, 0, 0, []⟩, yg (zF a + 1) 0 0)) none
 | [a, b] => cond ((decide (0 ≤ zF a) && decide (0 ≤ zF b)) && !(yg (zF a) (zF b + 1) 0 == [])) (some (yc ⟨zF a, zF b, 0, []⟩, yg (zF a) (zF b + 1) 0)) none
 | _ => none
def wx (s : Str) : Str := cond (((yk 46 s).length : Int) == 1) (s ++ [46, 48, 46, 48]) (s ++ [46, 48])
def wP (s : Str) : Option (Str × Str) :=
 cond (!(isV (wx s)) || (!(B2 ((yk 46 s).length : Int) 1 2) || !((zx (wx s)).1.pre == []))) none
  (cond (vj (zx (wx s)).1 (((yk 46 s).length : Int) - 1)).2 (some (wx s, (vj (zx (wx s)).1 (((yk 46 s).length : Int) - 1)).1)) none)
theorem eT {s : Str} (h : (45 : UInt8) ∈ s) (hv : isV s = true) : (zx s).1.pre ≠ [] := by
 obtain ⟨hm, _, _, _⟩ := yl hv
 have he := ru 45 s
 have hn := lA 45 s
 unfold xT at hm
 split at hm
 · injection hm with hm
   rw [← hm]
   cases hc : (yo 45 s).2.2 with
   | false =>
    rw [hc, cond_false, List.append_nil] at he
    rw [he] at h
    exact absurd h hn
   | true => exact x5 46 _
 · cases hm
theorem TD {s : Str} (h : ∀ b ∈ s, isD b = true) : (45 : UInt8) ∉ s := fun hm => by
 have := h 45 hm
 revert this; decide
theorem TC {s : Str} (h : ∀ b ∈ s, isD b = true) : (46 : UInt8) ∉ s := fun hm => by
 have := h 46 hm
 revert this; decide
/-- a text of numbers alone is read as they are -/
theorem ml {a b c s : Str} (hd : (45 : UInt8) ∉ s) (hc : yk 46 s = [a, b, c]) :
 zx s = cond (yc ⟨zF a, zF b, zF c, []⟩ == s) (⟨zF a, zF b, zF c, []⟩, true) (Ver.zero, false) := by
 unfold zx xT
 rw [Yg 45 s hd]
 simp only
 rw [hc]
 simp only [cond_false]
theorem vU (a b c : Int) : yz ⟨a, b, c, []⟩ = (n9 a && (n9 b && n9 c)) := by simp [yz]
theorem om (s : Str) : n9 (zF s) = decide (0 ≤ zF s) := by
 have := xx s
 unfold n9 B2
 have : decide (zF s ≤ 999999999) = true := decide_eq_true this.2
 rw [this, Bool.and_true]
theorem tj {a b c : Int} (ha : n9 a = true) (hb : n9 b = true) (hc : n9 c = true) : yc ⟨a, b, c, []⟩ = Lib.itoa a ++ [46] ++ Lib.itoa b ++ [46] ++ Lib.itoa c := by
 unfold yc w6 vf
 rw [vU, ha, hb, hc]
 rfl
theorem fT {a b c : Int} (h : (n9 a && (n9 b && n9 c)) = false) : yc ⟨a, b, c, []⟩ = [] := by
 unfold yc
 rw [vU, h]; rfl
theorem rp : n9 0 = true := by decide
theorem me (s : Str) : wP s = uj s := by
 unfold uj
 split
 · rename_i a hp
   obtain ⟨rfl, hn⟩ := vK hp
   have hfull : wx s = s ++ [46, 48, 46, 48] := by unfold wx; rw [hp]; rfl
   unfold wP
   rw [hp, hfull]
   by_cases h45 : (45 : UInt8) ∈ s
   · have hd := tn (c := 45) (by decide) h45
     rw [hd]
     have hr : (!(isV (s ++ [46, 48, 46, 48])) || (!(B2 (([s] : List Str).length : Int) 1 2) || !((zx (s ++ [46, 48, 46, 48])).1.pre == []))) = true := by
      cases hv : isV (s ++ [46, 48, 46, 48]) with
      | false => rfl
      | true =>
       have := eT (s := s ++ [46, 48, 46, 48]) (by simp [h45]) hv
       have h2 : ((zx (s ++ [46, 48, 46, 48])).1.pre == []) = false := by
        cases hx : (zx (s ++ [46, 48, 46, 48])).1.pre with
        | nil => exact absurd hx this
        | cons x y => rfl
       rw [h2]; simp
     rw [hr]; rfl
   · have h45' : (45 : UInt8) ∉ s ++ [46, 48, 46, 48] := by simp [h45]
     have hc3 : yk 46 (s ++ [46, 48, 46, 48]) = [s, [48], [48]] := by
      rw [show s ++ [46, 48, 46, 48] = s ++ 46 :: [48, 46, 48] from rfl, uR, hp]; rfl
     have hr := ml h45' hc3
     rw [qC] at hr
     unfold isV
     rw [hr]
     have hn9 := om s
     by_cases h0 : 0 ≤ zF s
     · obtain ⟨_, hi, _, _⟩ := yX h0
       have hn : n9 (zF s) = true := by rw [hn9]; exact decide_eq_true h0
       have ht := tj hn rp rp
       rw [hi, j6] at ht
       have he : (yc ⟨zF s, 0, 0, []⟩ == s ++ [46, 48, 46, 48]) = true := by rw [ht]; simp
       have hok : yz ⟨zF s, 0, 0, []⟩ = true := by rw [vU, hn]; rfl
       rw [he]
       simp only [cond_true]
       have hb := vL hok 0 (by omega)
       simp only [show ((0 : Int) == 0) = true from rfl, cond_true, show ((0 : Int) == 2) = false from rfl, cond_false] at hb
       rw [show (([s] : List Str).length : Int) - 1 = 0 from rfl, hb, decide_eq_true h0, ht]
       simp only [show B2 (([s] : List Str).length : Int) 1 2 = true from rfl, show (([] : List Str) == []) = true from rfl, Bool.not_true, Bool.or_false, cond_false, Bool.true_and]
       simp
     · have hn : (n9 (zF s) && (n9 0 && n9 0)) = false := by rw [hn9, decide_eq_false h0]; rfl
       rw [fT hn]
       have he : (([] : Str) == s ++ [46, 48, 46, 48]) = false := by rw [beq_eq_false_iff_ne]; intro e; have := congrArg List.length e; simp at this
       rw [he, decide_eq_false h0]
       rfl
 · rename_i a b hp
   obtain ⟨t, rfl, hna, hct⟩ := vv hp
   obtain ⟨rfl, hnb⟩ := vK hct
   generalize hsd : a ++ 46 :: t = s at *
   have hfull : wx s = s ++ [46, 48] := by unfold wx; rw [hp]; rfl
   unfold wP
   rw [hp, hfull]
   by_cases h45 : (45 : UInt8) ∈ s
   · have hd : (decide (0 ≤ zF a) && decide (0 ≤ zF t)) = false := by
      rw [← hsd] at h45
      simp only [List.mem_append, List.mem_cons] at h45
      rcases h45 with h | h | h
      · rw [tn (c := 45) (by decide) h]; rfl
      · exact absurd h (by decide)
      · rw [tn (c := 45) (by decide) h]; simp
     rw [hd]
     have hr : (!(isV (s ++ [46, 48])) || (!(B2 (([a, t] : List Str).length : Int) 1 2) || !((zx (s ++ [46, 48])).1.pre == []))) = true := by
      cases hv : isV (s ++ [46, 48]) with
      | false => rfl
      | true =>
       have := eT (s := s ++ [46, 48]) (by simp [h45]) hv
       have h2 : ((zx (s ++ [46, 48])).1.pre == []) = false := by
        cases hx : (zx (s ++ [46, 48])).1.pre with
        | nil => exact absurd hx this
        | cons x y => rfl
       rw [h2]; simp
     rw [hr]; rfl
   · have h45' : (45 : UInt8) ∉ s ++ [46, 48] := by simp [h45]
     have hc3 : yk 46 (s ++ [46, 48]) = [a, t, [48]] := by
      rw [show s ++ [46, 48] = s ++ 46 :: [48] from rfl, uR, hp]; rfl
     have hr := ml h45' hc3
     rw [qC] at hr
     unfold isV
     rw [hr]
     have hna := om a
     have hnt := om t
     by_cases h0 : 0 ≤ zF a ∧ 0 ≤ zF t
     · obtain ⟨_, hi, _, _⟩ := yX h0.1
       obtain ⟨_, hj, _, _⟩ := yX h0.2
       have hn : n9 (zF a) = true := by rw [hna]; exact decide_eq_true h0.1
       have hm : n9 (zF t) = true := by rw [hnt]; exact decide_eq_true h0.2
       have ht := tj hn hm rp
       rw [hi, hj, j6] at ht
       have he : (yc ⟨zF a, zF t, 0, []⟩ == s ++ [46, 48]) = true := by rw [ht, ← hsd]; simp
       have hok : yz ⟨zF a, zF t, 0, []⟩ = true := by rw [vU, hn, hm]; rfl
       rw [he]
       simp only [cond_true]
       have hb := vL hok 1 (by omega)
       simp only [show ((1 : Int) == 0) = false from rfl, show ((1 : Int) == 1) = true from rfl, cond_true, show ((1 : Int) == 2) = false from rfl, cond_false] at hb
       rw [show (([a, t] : List Str).length : Int) - 1 = 1 from rfl, hb, decide_eq_true h0.1, decide_eq_true h0.2, eq_of_beq he]
       simp only [show B2 (([a, t] : List Str).length : Int) 1 2 = true from rfl, show (([] : List Str) == []) = true from rfl, Bool.not_true, Bool.or_false, cond_false, Bool.true_and]
     · have hd : (decide (0 ≤ zF a) && decide (0 ≤ zF t)) = false := by simpa using h0
       have hn : (n9 (zF a) && (n9 (zF t) && n9 0)) = false := by rw [hna, hnt, ← Bool.and_assoc, hd]; rfl
       rw [fT hn]
       have he : (([] : Str) == s ++ [46, 48]) = false := by rw [beq_eq_false_iff_ne]; intro e; have := congrArg List.length e; simp at this
       rw [he, hd]
       rfl
 · rename_i h1 h2
   have hlen : B2 ((yk 46 s).length : Int) 1 2 = false := by
    match hc : yk 46 s, h1, h2 with
    | [], _, _ => exact absurd hc (x5 46 s)
    | [a], h1, _ => exact absurd rfl (h1 a)
    | [a, b], _, h2 => exact absurd rfl (h2 a b)
    | a :: b :: c :: r, _, _ =>
     have : decide (((a :: b :: c :: r).length : Int) ≤ 2) = false := decide_eq_false (by simp only [List.length_cons]; omega)
     unfold B2; rw [this, Bool.and_false]
   unfold wP
   rw [hlen]
   simp
end Go.Proofs.YtijninlbpifonaaGreatDoor
/- Ranges, plain, the parts. Conditions: none. -/
namespace Go.Proofs.YtijninlbpifonaaGreatDoor
open E
set_option linter.unusedVariables false
set_option linter.unusedSimpArgs false
set_option maxRecDepth 100000
/-- a text cut at ' <' -/
def xi : Str → Str × Str × Bool
 | [] => ([], [], false)
 | x :: r => if ([32, 60] : Str).isPrefixOf (x :: r) = true then ([], r.drop 1, true) else (x :: (xi r).1, (xi r).2.1, (xi r).2.2)
theorem dO : ∀ s : Str, Lib.cut s [32, 60] = xi s
 | [] => by simp [Lib.cut, xi, Lib.index]
 | x :: s => by
  have ih := dO s
  rw [xi]
  by_cases h : ([32, 60] : Str).isPrefixOf (x :: s) = true
  · rw [if_pos h]
    unfold Lib.cut
    rw [Lib.index, if_pos h]
    simp
  · rw [if_neg h, ← ih]
    unfold Lib.cut
    rw [Lib.index, if_neg h]
    have hge := Lib.index_ge s [32, 60]
    by_cases hm : Lib.index s [32, 60] = -1
    · rw [hm]; simp
    · obtain ⟨j, hj⟩ : ∃ j : Nat, Lib.index s [32, 60] = j := ⟨(Lib.index s [32, 60]).toNat, by omega⟩
      have hb : (((j : Nat) : Int) == -1) = false := by rw [beq_eq_false_iff_ne]; omega
      rw [hj, hb]
      simp only [Bool.false_eq_true, if_false]
      rw [if_pos (by omega), if_pos (by omega), show ((j : Int) + 1).toNat = j + 1 by omega]
      simp only [List.take_succ_cons, Int.toNat_natCast]
      rw [show j + 1 + ([32, 60] : Str).length = (j + ([32, 60] : Str).length) + 1 by simp only [List.length_cons, List.length_nil], List.drop_succ_cons]
theorem cg {x : UInt8} {r : Str} (h : ([32, 60] : Str).isPrefixOf (x :: r) = true) : x = 32 ∧ r = 60 :: r.drop 1 := by
 cases r with
 | nil => simp [List.isPrefixOf] at h
 | cons y r =>
  simp only [List.isPrefixOf, Bool.and_true, Bool.and_eq_true, beq_iff_eq] at h
  obtain ⟨h1, h2⟩ := h
  subst h1 h2
  exact ⟨rfl, rfl⟩
theorem hY : ∀ s : Str, s = (xi s).1 ++ cond (xi s).2.2 (32 :: 60 :: (xi s).2.1) []
 | [] => rfl
 | x :: s => by
  rw [xi]
  by_cases h : ([32, 60] : Str).isPrefixOf (x :: s) = true
  · obtain ⟨h1, h2⟩ := cg h
    rw [if_pos h]
    subst h1
    simp only [List.nil_append, cond_true]
    rw [← h2]
  · rw [if_neg h]
    have := hY s
    show x :: s = (x :: (xi s).1) ++ _
    rw [List.cons_append, ← this]
theorem hX : ∀ s : Str, (32 : UInt8) ∉ s → xi s = (s, [], false)
 | [], _ => rfl
 | x :: s, h => by
  simp only [List.mem_cons, not_or] at h
  have hp : ¬ ([32, 60] : Str).isPrefixOf (x :: s) = true := fun hp => h.1 (cg hp).1.symm
  rw [xi, if_neg hp, hX s h.2]
theorem dQ (t : Str) : ∀ s : Str, (32 : UInt8) ∉ s → xi (s ++ 32 :: 60 :: t) = (s, t, true)
 | [], _ => by
  rw [List.nil_append, xi, if_pos (by simp [List.isPrefixOf])]; rfl
 | x :: s, h => by
  simp only [List.mem_cons, not_or] at h
  have hp : ¬ ([32, 60] : Str).isPrefixOf (x :: (s ++ 32 :: 60 :: t)) = true := fun hp => h.1 (cg hp).1.symm
  rw [List.cons_append, xi, if_neg hp, dQ t s h.2]
theorem jB (t : Str) (ht : (32 : UInt8) ∉ t) (hn : ∀ r, t ≠ 60 :: r) : ∀ s : Str, (32 : UInt8) ∉ s → xi (s ++ 32 :: t) = (s ++ 32 :: t, [], false)
 | [], _ => by
  have hp : ¬ ([32, 60] : Str).isPrefixOf (32 :: t) = true := fun hp => hn _ (cg hp).2
  rw [List.nil_append, xi, if_neg hp, hX t ht]
 | x :: s, h => by
  simp only [List.mem_cons, not_or] at h
  have hp : ¬ ([32, 60] : Str).isPrefixOf (x :: (s ++ 32 :: t)) = true := fun hp => h.1 (cg hp).1.symm
  rw [List.cons_append, xi, if_neg hp, jB t ht hn s h.2]
abbrev Bd := Str × Str
def geP (s : Str) : Bool := ([62, 61] : Str).isPrefixOf s
def ltP (s : Str) : Bool := ([60] : Str).isPrefixOf s
def hdB (c : UInt8) : Str → Bool
 | [] => false
 | x :: _ => x == c
def ot (v : Ver) : Str := cond (decide (v.maj > 0)) (yg (v.maj + 1) 0 0) (cond (v.min == 0) (yg 0 0 (v.pat + 1)) (yg v.maj (v.min + 1) 0))
def wc (s : Str) : Bd × Bool := match yk 46 s with
 | [a] => cond (decide (0 ≤ zF a)) ((yc ⟨zF a, 0, 0, []⟩, yg (zF a + 1) 0 0), true) (([], []), false)
 | [a, b] => cond (decide (0 ≤ zF a) && decide (0 ≤ zF b)) ((yc ⟨zF a, zF b, 0, []⟩, yg (zF a) (zF b + 1) 0), true) (([], []), false)
 | _ => (([], []), false)
def TA (s : Str) : Str := cond (hdB 94 s) (ot (zx (s.drop 1)).1) (yg (zx (s.drop 1)).1.maj ((zx (s.drop 1)).1.min + 1) 0)
def xD (s : Str) : Bd × Bool :=
 cond (s == [42]) (([], []), true)
 (cond (isV s) ((s, rE (zx s).1), true)
 (cond (geP s) (((xi (s.drop 2)).1, (xi (s.drop 2)).2.1), isV (xi (s.drop 2)).1 && (!(xi (s.drop 2)).2.2 || isV (xi (s.drop 2)).2.1))
 (cond (ltP s) (([], s.drop 1), isV (s.drop 1))
 (cond (hdB 94 s || hdB 126 s) ((s.drop 1, TA s), isV (s.drop 1))
 (wc s)))))
def rC (s : Str) : Bool := s == [42] || (ltP s || geP s)
def tW (s : Str) : Option Bd := cond (!((xD s).2) || (!(rC s) && (((xD s).1.1 == []) || ((xD s).1.2 == [])))) none (some (xD s).1)
def isE (s : Str) : Bool := isV s || s == []
def vQ (v : Ver) : Int := cond (decide (v.maj > 0)) 0 (cond (decide (v.min > 0)) 1 2)
def geW (x : Str) : Bool := decide ((x.length : Int) > 2) && (x.take 2 == [62, 61])
def ltW (x : Str) : Bool := decide ((x.length : Int) > 1) && hdB 60 x
def ug (s : Str) : Option Bd := match yk 32 s with
 | [x] => cond (geW x) (cond (isE (x.drop 2) && isE []) (some (x.drop 2, [])) none) (cond (ltW x) (cond (isE [] && isE (x.drop 1)) (some ([], x.drop 1)) none) none)
 | [x, y] => cond (geW x) (cond (ltW y) (cond (isE (x.drop 2) && isE (y.drop 1)) (some (x.drop 2, y.drop 1)) none) none) none
 | _ => none
def lU (v : Ver) (t : Str) (p : Int) : Option Bd := cond (vj v p).2 (some (t, (vj v p).1)) none
def xL (s : Str) : Option Bd :=
 cond (s == [42]) (some ([], []))
 (cond (decide ((s.length : Int) > 1) && (hdB 94 s || hdB 126 s)) (cond (!(isV (s.drop 1))) none (lU (zx (s.drop 1)).1 (s.drop 1) (cond (hdB 126 s) 1 (vQ (zx (s.drop 1)).1))))
 (cond (decide ((s.length : Int) > 0) && (hdB 62 s || hdB 60 s)) (ug s)
 (match wS s with | some x => some x | none => wP s)))
theorem nO : isE [] = true := by simp [isE]
theorem Ql {s : Str} (h : s ≠ []) : isE s = isV s := by
 unfold isE
 have : (s == []) = false := by
  cases s with
  | nil => exact absurd rfl h
  | cons x r => rfl
 rw [this, Bool.or_false]
theorem VE {s : Str} (h : isV s = false) : wS s = none := by
 unfold wS
 unfold isV at h
 rw [h]; rfl
theorem mg {s : Str} {c : UInt8} {a : Str} {r : List Str} (hp : yk 46 s = (c :: a) :: r) (hc : isD c = false) : uj s = none := by
 have hd := tn (s := c :: a) hc (by simp)
 have h0 : decide ((0 : Int) ≤ -1) = false := by decide
 unfold uj
 rw [hp]
 cases r with
 | nil => simp only [hd, h0, Bool.false_and, cond_false]
 | cons b r => cases r with
  | nil => simp only [hd, h0, Bool.false_and, cond_false]
  | cons _ _ => rfl
theorem mf : uj [] = none := by
 unfold uj
 have h0 : decide (0 ≤ zF []) = false := by
  apply decide_eq_false
  intro h
  exact (yX h).2.2.2 rfl
 rw [show yk 46 ([] : Str) = [[]] from rfl]
 simp only [h0, Bool.false_and, cond_false]
theorem dN {c : UInt8} {r : Str} (h : c ≠ 46) : ∃ a q, yk 46 (c :: r) = (c :: a) :: q := by
 cases hc : yk 46 r with
 | nil => exact absurd hc (x5 46 r)
 | cons p q => exact ⟨p, q, yJ 46 c r p q h hc⟩
theorem nk {s : Str} (hb : xD s = wc s) (ho : rC s = false) : tW s = uj s := by
 unfold tW
 rw [hb, ho]
 unfold wc uj
 match yk 46 s with
 | [] => rfl
 | [a] =>
  simp only
  cases h : decide (0 ≤ zF a) with
  | false => simp
  | true =>
   have hn : n9 (zF a) = true := by rw [om]; exact h
   have : (yc ⟨zF a, 0, 0, []⟩ == []) = false := by rw [tj hn rp rp]; simp
   simp only [cond_true, Bool.not_true, Bool.false_or, Bool.not_false, Bool.true_and, this]
   cases (yg (zF a + 1) 0 0 == []) <;> rfl
 | [a, b] =>
  simp only
  cases h : decide (0 ≤ zF a) with
  | false => simp
  | true =>
   cases h2 : decide (0 ≤ zF b) with
   | false => simp
   | true =>
    have hn : n9 (zF a) = true := by rw [om]; exact h
    have hm : n9 (zF b) = true := by rw [om]; exact h2
    have : (yc ⟨zF a, zF b, 0, []⟩ == []) = false := by rw [tj hn hm rp]; simp
    simp only [cond_true, Bool.not_true, Bool.false_or, Bool.not_false, Bool.true_and, Bool.and_self, this]
    cases (yg (zF a) (zF b + 1) 0 == []) <;> rfl
 | a :: b :: c :: r => rfl
theorem R0 {s : Str} (hv : isV s = true) : tW s = xL s := by
 obtain ⟨_, x, r, rfl, hx⟩ := gr hv
 have hne : ∀ c : UInt8, isD c = false → (x == c) = false := fun c hc => by
  rw [beq_eq_false_iff_ne]; intro e; subst e; rw [hx] at hc; cases hc
 have h42 := hne 42 (by decide)
 have h94 := hne 94 (by decide)
 have h126 := hne 126 (by decide)
 have h62 := hne 62 (by decide)
 have h60 := hne 60 (by decide)
 have hs : ((x :: r) == [42]) = false := by rw [beq_eq_false_iff_ne]; intro e; cases e; simp at h42
 have hge : geP (x :: r) = false := by
  cases r with
  | nil => simp [geP, List.isPrefixOf]
  | cons y r => simp only [geP, List.isPrefixOf]; rw [show ((62 : UInt8) == x) = false by rw [Bool.beq_comm]; exact h62]; rfl
 have hlt : ltP (x :: r) = false := by simp only [ltP, List.isPrefixOf]; rw [show ((60 : UInt8) == x) = false by rw [Bool.beq_comm]; exact h60]; rfl
 have hlong := Xa hv
 have hB : B2 ((yk 46 (x :: r)).length : Int) 1 2 = false := by
  have : decide (((yk 46 (x :: r)).length : Int) ≤ 2) = false := decide_eq_false (by omega)
  unfold B2; rw [this, Bool.and_false]
 have hsh : wP (x :: r) = none := by unfold wP; rw [hB]; simp
 unfold tW xL xD rC wS
 have hv' : (zx (x :: r)).2 = true := hv
 rw [hs, hv, hge, hlt, hv', hsh]
 simp only [hdB, h94, h126, h62, h60, cond_false, cond_true, Bool.or_false, Bool.and_false, Bool.not_true, Bool.not_false, Bool.false_or, Bool.true_and]
 rw [show ((x :: r) == []) = false from rfl]
 simp only [Bool.false_or]
 cases (rE (zx (x :: r)).1 == []) <;> rfl
theorem mT {v : Ver} {t : Str} (ho : yz v = true) (b : Bool) : lU v t (cond (!b) 1 (vQ v)) = cond (cond b (ot v) (yg v.maj (v.min + 1) 0) == []) none (some (t, cond b (ot v) (yg v.maj (v.min + 1) 0))) := by
 obtain ⟨h1, h2, h3, _, _⟩ := w3 ho
 unfold lU
 cases b with
 | false =>
  have hb := vL ho 1 (by omega)
  simp only [show ((1 : Int) == 0) = false from rfl, show ((1 : Int) == 1) = true from rfl, cond_true, show ((1 : Int) == 2) = false from rfl, cond_false] at hb
  simp only [Bool.not_false, cond_true, cond_false]
  rw [hb]
  cases (yg v.maj (v.min + 1) 0 == []) <;> rfl
 | true =>
  simp only [Bool.not_true, cond_true, cond_false]
  unfold vQ ot
  cases h4 : decide (v.maj > 0) with
  | true =>
   have hb := vL ho 0 (by omega)
   simp only [show ((0 : Int) == 0) = true from rfl, cond_true, show ((0 : Int) == 2) = false from rfl, cond_false] at hb
   simp only [cond_true]
   rw [hb]
   cases (yg (v.maj + 1) 0 0 == []) <;> rfl
  | false =>
   have h5 : v.maj = 0 := by have := of_decide_eq_false h4; omega
   cases h6 : decide (v.min > 0) with
   | true =>
    have h7 : (v.min == 0) = false := by have := of_decide_eq_true h6; rw [beq_eq_false_iff_ne]; omega
    have hb := vL ho 1 (by omega)
    simp only [show ((1 : Int) == 0) = false from rfl, show ((1 : Int) == 1) = true from rfl, cond_true, show ((1 : Int) == 2) = false from rfl, cond_false] at hb
    simp only [cond_true, cond_false, h7]
    rw [hb]
    cases (yg v.maj (v.min + 1) 0 == []) <;> rfl
   | false =>
    have h7 : v.min = 0 := by have := of_decide_eq_false h6; omega
    have hb := vL ho 2 (by omega)
    simp only [show ((2 : Int) == 0) = false from rfl, show ((2 : Int) == 1) = false from rfl, show ((2 : Int) == 2) = true from rfl, cond_true, cond_false] at hb
    simp only [cond_false]
    rw [hb, h5, h7]
    simp only [show ((0 : Int) == 0) = true from rfl, cond_true]
    cases (yg 0 0 (v.pat + 1) == []) <;> rfl
theorem head_eq (c x : UInt8) (r : Str) : ([c] : Str).isPrefixOf (x :: r) = (x == c) := by
 simp only [List.isPrefixOf, Bool.and_true]; exact Bool.beq_comm
theorem iR (x : UInt8) (r : Str) : decide (((x :: r).length : Int) > 1) = !(r == []) := by
 cases r with
 | nil => rfl
 | cons y r =>
  have : ((y :: r) == []) = false := rfl
  rw [this]
  apply decide_eq_true
  simp only [List.length_cons]; omega
/-- what follows where no sign stands ahead -/
theorem pF {s : Str} (hv : isV s = false) : (match wS s with | some x => some x | none => wP s) = uj s := by
 rw [VE hv]
 exact me s
theorem dU (x : UInt8) (r : Str) (hx : x = 94 ∨ x = 126) : tW (x :: r) = xL (x :: r) := by
 have hd : isD x = false := by rcases hx with rfl | rfl <;> decide
 have h42 : ((x :: r) == [42]) = false := by rw [beq_eq_false_iff_ne]; intro e; cases e; rcases hx with h | h <;> cases h
 have hv := lp (r := r) hd
 have hge : geP (x :: r) = false := by
  unfold geP
  rcases hx with rfl | rfl <;> cases r <;> simp [List.isPrefixOf]
 have hlt : ltP (x :: r) = false := by
  unfold ltP
  rcases hx with rfl | rfl <;> simp [List.isPrefixOf]
 have h1 : (hdB 94 (x :: r) || hdB 126 (x :: r)) = true := by rcases hx with rfl | rfl <;> rfl
 have h2 : hdB 126 (x :: r) = !(hdB 94 (x :: r)) := by rcases hx with rfl | rfl <;> rfl
 have h3 : (hdB 62 (x :: r) || hdB 60 (x :: r)) = false := by rcases hx with rfl | rfl <;> rfl
 cases hr : (r == []) with
 | true =>
  obtain rfl : r = [] := by
   cases r with
   | nil => rfl
   | cons y r => cases hr
  have hp : ∃ a q, yk 46 [x] = (x :: a) :: q := dN (by rcases hx with rfl | rfl <;> decide)
  obtain ⟨a, q, hp⟩ := hp
  have hsh := mg hp hd
  unfold tW xL xD rC
  rw [h42, hv, hge, hlt, h1, h3, iR, hr, pF hv, hsh]
  simp only [List.drop_succ_cons, List.drop_zero, nN]
  rfl
 | false =>
  unfold tW xL xD rC
  rw [h42, hv, hge, hlt, h1, iR, hr, h2]
  unfold TA
  simp only [List.drop_succ_cons, List.drop_zero, cond_false, cond_true, Bool.or_false, Bool.not_false, Bool.true_and, Bool.not_true, Bool.false_and, hr, Bool.false_or]
  cases hvr : isV r with
  | false => rfl
  | true =>
   obtain ⟨_, _, ho, _⟩ := yl hvr
   rw [mT ho]
   simp only [Bool.not_true, Bool.false_or, cond_false]
theorem dw (p : Str) : geW (62 :: 61 :: p) = !(p == []) := by
 unfold geW
 cases p with
 | nil => rfl
 | cons x p =>
  have : decide (((62 :: 61 :: x :: p : Str).length : Int) > 2) = true := by apply decide_eq_true; simp only [List.length_cons]; omega
  rw [this]; rfl
theorem eL (p : Str) : ltW (60 :: p) = !(p == []) := by
 unfold ltW
 rw [iR]
 simp [hdB]
theorem tu (p : Str) : (!(p == []) && isE p) = isV p := by
 cases p with
 | nil => rw [nN]; rfl
 | cons x r => rw [Ql (by simp)]; rfl
theorem cW {s : Str} {c1 c2 : Str} {two : Bool} (h : xi s = (c1, c2, two)) (h32 : 2 ≤ s.count 32) : (isV c1 && (!two || isV c2)) = false := by
 have he := hY s
 rw [h] at he
 simp only at he
 cases two with
 | false =>
  rw [cond_false, List.append_nil] at he
  have : (32 : UInt8) ∈ c1 := by rw [← he]; exact List.count_pos_iff.1 (by omega)
  rw [lO (c := 32) (by decide) this]; rfl
 | true =>
  rw [cond_true] at he
  rw [he, List.count_append, List.count_cons_self, List.count_cons_of_ne (by decide)] at h32
  by_cases h1 : 0 < c1.count 32
  · rw [lO (c := 32) (by decide) (List.count_pos_iff.1 h1)]; rfl
  · rw [lO (s := c2) (c := 32) (by decide) (List.count_pos_iff.1 (by omega))]; simp
theorem Qt (t : Str) : tW (62 :: 61 :: t) = xL (62 :: 61 :: t) := by
 have hv := lp (b := 62) (r := 61 :: t) (by decide)
 have hge : geP (62 :: 61 :: t) = true := by simp [geP, List.isPrefixOf]
 have h42 : ((62 :: 61 :: t : Str) == [42]) = false := rfl
 have hR : xL (62 :: 61 :: t) = ug (62 :: 61 :: t) := by
  unfold xL
  rw [h42]
  simp only [hdB, show ((62 : UInt8) == 94) = false from rfl, show ((62 : UInt8) == 126) = false from rfl, show ((62 : UInt8) == 62) = true from rfl, Bool.or_false, Bool.and_false, cond_false, Bool.true_or, Bool.and_true]
  have : decide (((62 :: 61 :: t : Str).length : Int) > 0) = true := by apply decide_eq_true; simp only [List.length_cons]; omega
  rw [this]; rfl
 have hI : tW (62 :: 61 :: t) = cond (isV (xi t).1 && (!(xi t).2.2 || isV (xi t).2.1)) (some ((xi t).1, (xi t).2.1)) none := by
  unfold tW xD rC
  rw [h42, hv, hge]
  simp only [cond_false, cond_true, Bool.or_true, Bool.not_true, Bool.false_and, Bool.or_false, List.drop_succ_cons, List.drop_zero]
  cases (isV (xi t).1 && (!(xi t).2.2 || isV (xi t).2.1)) <;> rfl
 rw [hI, hR]
 unfold ug
 cases hc : yk 32 t with
 | nil => exact absurd hc (x5 32 t)
 | cons p q =>
  have hw : yk 32 (62 :: 61 :: t) = (62 :: 61 :: p) :: q := yJ 32 62 (61 :: t) (61 :: p) q (by decide) (yJ 32 61 t p q (by decide) hc)
  rw [hw]
  cases q with
  | nil =>
   obtain ⟨rfl, hn⟩ := vK hc
   rw [hX t hn]
   simp only [dw, List.drop_succ_cons, List.drop_zero, nO, Bool.and_true, Bool.not_false, Bool.true_or]
   have hl2 : ltW (62 :: 61 :: t) = false := by unfold ltW; simp [hdB]
   rw [← tu t, hl2]
   cases (t == []) with
   | true => rfl
   | false => rfl
  | cons y q =>
   obtain ⟨u, rfl, hn, hcu⟩ := vv hc
   cases q with
   | nil =>
    obtain ⟨rfl, hny⟩ := vK hcu
    simp only [dw, List.drop_succ_cons, List.drop_zero]
    by_cases hy : ∃ z, u = 60 :: z
    · obtain ⟨z, rfl⟩ := hy
      rw [dQ z p hn]
      simp only [eL, List.drop_succ_cons, List.drop_zero, Bool.not_true, Bool.false_or]
      rw [← tu p, ← tu z]
      cases (p == []) <;> cases (z == []) <;> simp
    · rw [jB u hny (fun r hr => hy ⟨r, hr⟩) p hn]
      have h1 : isV (p ++ 32 :: u) = false := lO (c := 32) (by decide) (by simp)
      have h2 : ltW u = false := by
       unfold ltW
       cases u with
       | nil => rfl
       | cons c r =>
        have : (c == 60) = false := by rw [beq_eq_false_iff_ne]; intro e; exact hy ⟨r, by rw [e]⟩
        simp only [hdB, this, Bool.and_false]
      rw [h1, h2]
      simp
   | cons z q =>
    obtain ⟨w, rfl, hn2, _⟩ := vv hcu
    have h2 : 2 ≤ (p ++ 32 :: (y ++ 32 :: w)).count 32 := by
     simp only [List.count_append, List.count_cons_self]; omega
    have := cW (s := p ++ 32 :: (y ++ 32 :: w)) rfl h2
    rw [this]
    rfl
theorem Qs (t : Str) : tW (60 :: t) = xL (60 :: t) := by
 have hv := lp (b := 60) (r := t) (by decide)
 have hge : geP (60 :: t) = false := by cases t <;> simp [geP, List.isPrefixOf]
 have hlt : ltP (60 :: t) = true := by simp [ltP, List.isPrefixOf]
 have h42 : ((60 :: t : Str) == [42]) = false := by rw [beq_eq_false_iff_ne]; intro e; cases e
 have hR : xL (60 :: t) = ug (60 :: t) := by
  unfold xL
  rw [h42]
  simp only [hdB, show ((60 : UInt8) == 94) = false from rfl, show ((60 : UInt8) == 126) = false from rfl, show ((60 : UInt8) == 62) = false from rfl, show ((60 : UInt8) == 60) = true from rfl, Bool.or_false, Bool.and_false, cond_false, Bool.or_true, Bool.and_true]
  have : decide (((60 :: t : Str).length : Int) > 0) = true := by apply decide_eq_true; simp only [List.length_cons]; omega
  rw [this]; rfl
 have hI : tW (60 :: t) = cond (isV t) (some ([], t)) none := by
  unfold tW xD rC
  rw [h42, hv, hge, hlt]
  simp only [cond_false, cond_true, Bool.or_true, Bool.true_or, Bool.not_true, Bool.false_and, Bool.or_false, List.drop_succ_cons, List.drop_zero]
  cases isV t <;> rfl
 rw [hI, hR]
 unfold ug
 cases hc : yk 32 t with
 | nil => exact absurd hc (x5 32 t)
 | cons p q =>
  have hw : yk 32 (60 :: t) = (60 :: p) :: q := yJ 32 60 t p q (by decide) hc
  have hg : geW (60 :: p) = false := by
   unfold geW
   cases p with
   | nil => rfl
   | cons a b => simp
  rw [hw]
  cases q with
  | nil =>
   obtain ⟨rfl, hn⟩ := vK hc
   simp only [hg, cond_false, eL, List.drop_succ_cons, List.drop_zero, nO, Bool.true_and]
   rw [← tu t]
   cases (t == []) <;> rfl
  | cons y q =>
   obtain ⟨u, rfl, hn, hcu⟩ := vv hc
   have h1 : isV (p ++ 32 :: u) = false := lO (c := 32) (by decide) (by simp)
   rw [h1]
   cases q with
   | nil => simp only [hg, cond_false]
   | cons z q => rfl
theorem Xo (x : UInt8) (r : Str) (hv : isV (x :: r) = false) (h42 : ((x :: r) == [42]) = false) (h94 : x ≠ 94) (h126 : x ≠ 126) (h60 : x ≠ 60) (h62 : x = 62 → ∀ t, r ≠ 61 :: t) : tW (x :: r) = xL (x :: r) := by
 have e94 : (x == 94) = false := by rw [beq_eq_false_iff_ne]; exact h94
 have e126 : (x == 126) = false := by rw [beq_eq_false_iff_ne]; exact h126
 have e60 : (x == 60) = false := by rw [beq_eq_false_iff_ne]; exact h60
 have hge : geP (x :: r) = false := by
  unfold geP
  cases hg : ([62, 61] : Str).isPrefixOf (x :: r) with
  | false => rfl
  | true =>
   cases r with
   | nil => simp [List.isPrefixOf] at hg
   | cons y r =>
    simp only [List.isPrefixOf, Bool.and_true, Bool.and_eq_true, beq_iff_eq] at hg
    exact absurd (by rw [← hg.2]) (h62 hg.1.symm r)
 have hlt : ltP (x :: r) = false := by unfold ltP; rw [head_eq]; exact e60
 have hb : xD (x :: r) = wc (x :: r) := by
  unfold xD
  rw [h42, hv, hge, hlt]
  simp only [hdB, e94, e126, cond_false, Bool.or_false]
 have ho : rC (x :: r) = false := by unfold rC; rw [h42, hge, hlt]; rfl
 rw [nk hb ho]
 unfold xL
 rw [h42, pF hv]
 simp only [hdB, e94, e126, e60, Bool.or_false, Bool.and_false, cond_false]
 have hl : decide (((x :: r).length : Int) > 0) = true := by apply decide_eq_true; simp only [List.length_cons]; omega
 rw [hl, Bool.true_and]
 cases h : (x == 62) with
 | false => rfl
 | true =>
  have hx := eq_of_beq h
  subst hx
  obtain ⟨a, q, hp⟩ := dN (c := 62) (r := r) (by decide)
  rw [mg hp (by decide)]
  simp only [cond_true]
  unfold ug
  cases hc : yk 32 r with
  | nil => exact absurd hc (x5 32 r)
  | cons p w =>
   rw [yJ 32 62 r p w (by decide) hc]
   have hg : geW (62 :: p) = false := by
    unfold geW
    cases p with
    | nil => rfl
    | cons y p =>
     have hr : ∃ t, r = y :: t := by
      cases w with
      | nil => obtain ⟨e, _⟩ := vK hc; exact ⟨p, e⟩
      | cons w1 w2 => obtain ⟨t, e, _⟩ := vv hc; exact ⟨p ++ 32 :: t, e⟩
     obtain ⟨t, rfl⟩ := hr
     have hy : y ≠ 61 := fun e => h62 rfl t (by rw [e])
     have : ((List.take 2 (62 :: y :: p)) == [62, 61]) = false := by
      rw [beq_eq_false_iff_ne]; intro e; simp at e; exact hy e
     rw [this, Bool.and_false]
   cases w with
   | nil =>
    have hl2 : ltW (62 :: p) = false := by unfold ltW; simp [hdB]
    simp only [hg, hl2, cond_false]
   | cons y w => cases w with
    | nil => simp only [hg, cond_false]
    | cons _ _ => rfl
theorem R1 : tW [] = xL [] := by
 have hb : xD [] = wc [] := by
  unfold xD
  rw [nN]; rfl
 rw [nk hb rfl, mf]
 unfold xL
 rw [pF nN, mf]
 rfl
theorem VP : tW [42] = xL [42] := by
 unfold tW xL xD rC
 rfl
/-- both take a part alike -/
theorem VQ (s : Str) : tW s = xL s := by
 cases s with
 | nil => exact R1
 | cons x r =>
  by_cases h42 : ((x :: r) == [42]) = true
  · rw [eq_of_beq h42]; exact VP
  · have h42' : ((x :: r) == [42]) = false := by simpa using h42
    cases hv : isV (x :: r) with
    | true => exact R0 hv
    | false =>
     by_cases h1 : x = 94
     · exact dU x r (.inl h1)
     · by_cases h2 : x = 126
       · exact dU x r (.inr h2)
       · by_cases h3 : x = 60
         · subst h3; exact Qs r
         · by_cases h4 : x = 62 ∧ ∃ t, r = 61 :: t
           · obtain ⟨rfl, t, rfl⟩ := h4; exact Qt t
           · exact Xo x r hv h42' h1 h2 h3 fun hx t ht => h4 ⟨hx, t, ht⟩
/-- what a part gives has versions for its ends -/
theorem vI {a b c : Int} (h : (yg a b c == []) = false) : isV (yg a b c) = true := by
 have hz := ti a b c
 rw [h] at hz
 have hn : (n9 a && (n9 b && n9 c)) = true := by
  cases hh : (n9 a && (n9 b && n9 c)) with
  | true => rfl
  | false => rw [hh] at hz; cases hz
 have hok : yz ⟨a, b, c, [[48]]⟩ = true := by rw [vD]; exact hn
 simp only [Bool.and_eq_true, oh] at hn
 obtain ⟨ha, hb, hc⟩ := hn
 obtain ⟨da, _⟩ := vJ ha.1
 obtain ⟨db, _⟩ := vJ hb.1
 obtain ⟨dc, _⟩ := vJ hc.1
 have ht : yg a b c = (Lib.itoa a ++ 46 :: (Lib.itoa b ++ 46 :: Lib.itoa c)) ++ 45 :: [48] := by
  unfold yg yc w6 vf
  rw [hok]
  simp [Lib.join_one]
 have ra : zF (Lib.itoa a) = a := by
  obtain ⟨u, rfl⟩ : ∃ u : Nat, a = u := ⟨a.toNat, by omega⟩
  rw [Lib.itoa_nonneg]; exact (vt (by omega)).1
 have rb : zF (Lib.itoa b) = b := by
  obtain ⟨u, rfl⟩ : ∃ u : Nat, b = u := ⟨b.toNat, by omega⟩
  rw [Lib.itoa_nonneg]; exact (vt (by omega)).1
 have rc : zF (Lib.itoa c) = c := by
  obtain ⟨u, rfl⟩ : ∃ u : Nat, c = u := ⟨c.toNat, by omega⟩
  rw [Lib.itoa_nonneg]; exact (vt (by omega)).1
 have na := List.all_eq_true.1 da
 have nb := List.all_eq_true.1 db
 have nc := List.all_eq_true.1 dc
 have h45 : (45 : UInt8) ∉ Lib.itoa a ++ 46 :: (Lib.itoa b ++ 46 :: Lib.itoa c) := by
  simp only [List.mem_append, List.mem_cons, not_or]
  exact ⟨TD na, by decide, TD nb, by decide, TD nc⟩
 have hm : xT (yg a b c) = some ⟨a, b, c, [[48]]⟩ := by
  unfold xT
  rw [ht, lB 45 [48] _ h45]
  simp only
  rw [uR, nR 46 _ (TC na), uR, nR 46 _ (TC nb), nR 46 _ (TC nc)]
  simp only [List.cons_append, List.nil_append, cond_true]
  rw [ra, rb, rc]; rfl
 unfold isV zx
 rw [hm]
 simp only
 have : (yc ⟨a, b, c, [[48]]⟩ == yg a b c) = true := by unfold yg; simp
 rw [this]; rfl
theorem Xe {s : Str} {b : Bd} (h : wS s = some b) : isV b.1 = true ∧ isV b.2 = true := by
 unfold wS at h
 cases hv : (zx s).2 with
 | false => rw [hv] at h; cases h
 | true =>
  rw [hv] at h
  cases hh : (rE (zx s).1 == []) with
  | true => rw [hh] at h; cases h
  | false =>
   rw [hh] at h
   simp only [Bool.not_false, Bool.and_self, cond_true] at h
   injection h with h
   subst h
   refine ⟨hv, ?_⟩
   show isV (rE (zx s).1) = true
   unfold rE at hh ⊢
   cases hp : ((zx s).1.pre == []) with
   | true => rw [hp] at hh; simp only [cond_true] at hh ⊢; exact vI hh
   | false =>
    rw [hp] at hh
    simp only [cond_false] at hh ⊢
    obtain ⟨r1, r2⟩ := kL hv (fun e => by rw [e] at hp; cases hp)
    cases hk : yz (sJ (zx s).1) with
    | false => rw [r2, hk] at hh; cases hh
    | true =>
     rw [r2, hk]
     simp only [cond_true]
     unfold isV
     rw [r1, hk]; rfl
theorem YV {s : Str} {b : Bd} (h : wP s = some b) : isV b.1 = true ∧ isV b.2 = true := by
 have hI := h
 rw [me] at hI
 refine ⟨?_, ?_⟩
 · unfold wP at h
   cases h1 : (!(isV (wx s)) || (!(B2 ((yk 46 s).length : Int) 1 2) || !((zx (wx s)).1.pre == []))) with
   | true => rw [h1] at h; cases h
   | false =>
    rw [h1] at h
    simp only [cond_false] at h
    cases h2 : (vj (zx (wx s)).1 (((yk 46 s).length : Int) - 1)).2 with
    | false => rw [h2] at h; cases h
    | true =>
     rw [h2] at h
     injection h with h
     subst h
     simp only [Bool.or_eq_false_iff, Bool.not_eq_false'] at h1
     exact h1.1
 · unfold uj at hI
   split at hI
   · rename_i a _
     cases h1 : (decide (0 ≤ zF a) && !(yg (zF a + 1) 0 0 == [])) with
     | false => rw [h1] at hI; cases hI
     | true =>
      rw [h1] at hI
      injection hI with hI
      subst hI
      simp only [Bool.and_eq_true, Bool.not_eq_true'] at h1
      exact vI h1.2
   · rename_i a b _
     cases h1 : ((decide (0 ≤ zF a) && decide (0 ≤ zF b)) && !(yg (zF a) (zF b + 1) 0 == [])) with
     | false => rw [h1] at hI; cases hI
     | true =>
      rw [h1] at hI
      injection hI with hI
      subst hI
      simp only [Bool.and_eq_true, Bool.not_eq_true'] at h1
      exact vI h1.2
   · cases hI
theorem uW {α : Type} {b : Bool} {x y : α} (h : cond b (some x) none = some y) : b = true ∧ x = y := by
 cases b with
 | false => cases h
 | true => injection h with h; exact ⟨rfl, h⟩
theorem Vm {s : Str} {b : Bd} (h : xL s = some b) : isE b.1 = true ∧ isE b.2 = true := by
 have ofV : ∀ {t : Str}, isV t = true → isE t = true := fun {t} h => by unfold isE; rw [h]; rfl
 unfold xL at h
 cases h1 : (s == [42]) with
 | true => rw [h1] at h; injection h with h; subst h; exact ⟨nO, nO⟩
 | false =>
  rw [h1] at h
  simp only [cond_false] at h
  cases h2 : (decide ((s.length : Int) > 1) && (hdB 94 s || hdB 126 s)) with
  | true =>
   rw [h2] at h
   simp only [cond_true] at h
   cases hv : isV (s.drop 1) with
   | false => rw [hv] at h; cases h
   | true =>
    rw [hv] at h
    simp only [Bool.not_true, cond_false] at h
    obtain ⟨_, _, ho, _⟩ := yl hv
    have hh : hdB 126 s = !(hdB 94 s) := by
     cases s with
     | nil => simp [hdB] at h2
     | cons x r =>
      simp only [hdB, Bool.and_eq_true, Bool.or_eq_true, beq_iff_eq] at h2
      rcases h2.2 with e | e <;> rw [e] <;> rfl
    rw [hh, mT ho] at h
    have key : ∀ z : Str, cond (z == []) none (some (s.drop 1, z)) = some b → (∀ (hz : (z == []) = false), isV z = true) → isE b.1 = true ∧ isE b.2 = true := fun z hz hzv => by
     cases hn : (z == []) with
     | true => rw [hn] at hz; cases hz
     | false =>
      rw [hn] at hz
      injection hz with hz
      subst hz
      exact ⟨ofV hv, ofV (hzv hn)⟩
    refine key _ h fun hz => ?_
    cases hb : hdB 94 s with
    | false => rw [hb] at hz; simp only [cond_false] at hz ⊢; exact vI hz
    | true =>
     rw [hb] at hz
     simp only [cond_true] at hz ⊢
     unfold ot at hz ⊢
     cases h5 : decide ((zx (s.drop 1)).1.maj > 0) with
     | true => rw [h5] at hz; simp only [cond_true] at hz ⊢; exact vI hz
     | false =>
      rw [h5] at hz
      simp only [cond_false] at hz ⊢
      cases h6 : ((zx (s.drop 1)).1.min == 0) with
      | true => rw [h6] at hz; simp only [cond_true] at hz ⊢; exact vI hz
      | false => rw [h6] at hz; simp only [cond_false] at hz ⊢; exact vI hz
  | false =>
   rw [h2] at h
   simp only [cond_false] at h
   cases h3 : (decide ((s.length : Int) > 0) && (hdB 62 s || hdB 60 s)) with
   | true =>
    rw [h3] at h
    simp only [cond_true] at h
    unfold ug at h
    split at h
    · rename_i x _
      cases hg : geW x with
      | true =>
       rw [hg] at h
       obtain ⟨q1, q2⟩ := uW h
       subst q2
       simpa using q1
      | false =>
       rw [hg] at h
       simp only [cond_false] at h
       cases hl : ltW x with
       | false => rw [hl] at h; cases h
       | true =>
        rw [hl] at h
        obtain ⟨q1, q2⟩ := uW h
        subst q2
        simpa using q1
    · rename_i x y _
      cases hg : geW x with
      | false => rw [hg] at h; cases h
      | true =>
       rw [hg] at h
       simp only [cond_true] at h
       cases hl : ltW y with
       | false => rw [hl] at h; cases h
       | true =>
        rw [hl] at h
        obtain ⟨q1, q2⟩ := uW h
        subst q2
        simpa using q1
    · cases h
   | false =>
    rw [h3] at h
    simp only [cond_false] at h
    cases hx : wS s with
    | some x =>
     rw [hx] at h
     injection h with h
     subst h
     obtain ⟨q1, q2⟩ := Xe hx
     exact ⟨ofV q1, ofV q2⟩
    | none =>
     rw [hx] at h
     obtain ⟨q1, q2⟩ := YV h
     exact ⟨ofV q1, ofV q2⟩
end Go.Proofs.YtijninlbpifonaaGreatDoor

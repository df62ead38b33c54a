/- Joined: K2 J2 J3 P2 K3 J4 K4 K5 K6 I1 I2. Conditions: those of each lemma. -/
import Derived.Test.YtonbkdklidfmfaaGreatDoorqJ
set_option linter.unusedVariables false
set_option linter.unusedSimpArgs false
namespace Go.Proofs.YtonbkdklidfmfaaGreatDoor
open E
set_option linter.unusedSimpArgs false
set_option linter.unusedVariables false
set_option maxRecDepth 100000
theorem zD (h : Heap) (ids : List Nat) : reach h 3 ids = uA h 3 ids := (sS h 3 ids).symm
theorem R2 (n : Int) : B2 n 0 999999999 = n9 n := rfl
def Ver.sm (v : Ver) : Prop := v.pre.length + yl v.pre ≤ 2097152
theorem nC {α : Type} [BEq α] (l : List α) : ((l.length : Int) == 0) = (l == []) := by
 cases l with
 | nil => rfl
 | cons x l =>
  have h1 : ((x :: l) == []) = false := rfl
  have h2 : (((x :: l).length : Int) == 0) = false := by rw [beq_eq_false_iff_ne]; simp only [List.length_cons]; omega
  rw [h1, h2]
theorem bL {α : Type} [BEq α] (l : List α) : decide ((l.length : Int) > 0) = !(l == []) := by
 cases l with
 | nil => rfl
 | cons x l =>
  have h1 : ((x :: l) == []) = false := rfl
  have h2 : decide (((x :: l).length : Int) > 0) = true := by simp only [decide_eq_true_eq, List.length_cons]; omega
  rw [h1, h2]; rfl
theorem UH (b : UInt8) : B2 (b.toNat : Int) 48 57 = isD b := bK b
theorem cH (a : Int) : zo (EV Tryz.prog pol) 219 [.t (.int .u8 a)] = some (.t (.bool (B2 a 97 122 || B2 a 65 90))) := by
 have h1 := jr a
 apply zw
 refine zy rfl Tryz.func219 rfl (by kernel_rfl) ?_
 unfold Tryz.f219
 cases h2 : B2 a 97 122 <;> rw [h2] at h1
 · unfold B2
   cases h3 : decide ((65 : Int) ≤ a) <;> simp (disch := ((try simp only [LL]); omega)) only [↓GO, ↓DRW, GA, GX, ren, zm, za, refs, z8, cst, zq, isC, bin, una, z6, zd, blt, asArg, zg, zc, zf, z1, E.mkS, unN, ze, zn, zb, GS, simprocAttr, GZ, h1, h3, ge_iff_le]
 · simp (disch := ((try simp only [LL]); omega)) only [↓GO, ↓DRW, GA, GX, ren, zm, za, refs, z8, cst, zq, isC, bin, una, z6, zd, blt, asArg, zg, zc, zf, z1, E.mkS, unN, ze, zn, zb, GS, simprocAttr, GZ, h1]
theorem Q7 (b : UInt8) : zo (EV Tryz.prog pol) 218 [.t (.int .u8 (b.toNat : Int))] = some (.t (.bool (preB b))) := by
 have h1 := cH (b.toNat : Int)
 have h2 := od (b.toNat : Int)
 apply zw
 refine zy rfl Tryz.func218 rfl (by kernel_rfl) ?_
 unfold Tryz.f218
 unfold preB
 simp only [nb]
 cases h3 : B2 (b.toNat : Int) 97 122 <;> cases h4 : B2 (b.toNat : Int) 65 90 <;> cases h5 : B2 (b.toNat : Int) 48 57 <;> rw [h3, h4] at h1 <;> rw [h5] at h2 <;>
  simp (disch := ((try simp only [LL]); omega)) only [↓GO, ↓DRW, GA, GX, ren, zm, za, refs, z8, cst, zq, isC, bin, una, z6, zd, blt, asArg, zg, zc, zf, z1, E.mkS, unN, ze, zn, zb, GS, simprocAttr, GZ, h1, h2]
theorem Sq (b : UInt8) : zo (EV Tryz.prog pol) 157 [.t (.int .u8 (b.toNat : Int))] = some (.t (.bool (isD b))) := by
 rw [od, UH]
theorem Sp (s : Str) (hl : s.length ≤ 9223372036854775807) : zo (EV Tryz.prog pol) 220 [.t (.str s)] = some (.t (.bool (isNum s))) := by
 have h := ZV 157 isD Sq s hl
 apply zw
 refine zy rfl Tryz.func220 rfl (by kernel_rfl) ?_
 unfold Tryz.f220
 unfold isNum
 cases h1 : (s == []) <;> simp (disch := ((try simp only [LL]); omega)) only [↓GO, ↓DRW, GA, GX, ren, zm, za, refs, z8, cst, zq, isC, bin, una, z6, zd, blt, asArg, zg, zc, zf, z1, E.mkS, unN, ze, zn, zb, GS, simprocAttr, GZ, h, h1, bne]
theorem TS (x1 x2 x3 x4 : T) (a b c : Int) :
 EV Tryz.prog pol (.loop 204 26 0 [.ptr 0 0 0, .sl 1 0 3 (some 3), .t (.int .i64 3), .t (.int .i64 0)] [.vs 4 [[.t x1, .t x2, .t x3, .t x4]], .ts 1 [[.int .i64 a], [.int .i64 b], [.int .i64 c]]])
 = some (cond (n9 a && (n9 b && n9 c)) (.loop (.exit 0) [.ptr 0 0 0, .bad] [.vs 4 [[.t x1, .t x2, .t x3, .t x4]]]) (.loop .ret [.ptr 0 0 0, .t (.bool false)] [.vs 4 [[.t x1, .t x2, .t x3, .t x4]]])) := by
 have ha := sE a 0 999999999
 have hb := sE b 0 999999999
 have hc := sE c 0 999999999
 rw [R2] at ha hb hc
 cases h1 : n9 a <;> rw [h1] at ha
 · refine zj Tryz.func204 rfl rfl ?_
   simp (disch := ((try simp only [LL]); omega)) only [↓GO, ↓DRW, GA, GX, ren, zm, za, refs, z8, cst, zq, isC, bin, una, z6, zd, blt, asArg, zg, zc, zf, z1, E.mkS, unN, ze, zn, zb, GS, simprocAttr, GZ, ha, zk, zD, Int.cast_ofNat_Int]
 · refine zj Tryz.func204 rfl rfl ?_
   simp (disch := ((try simp only [LL]); omega)) only [↓GO, ↓DRW, GA, GX, ren, zm, za, refs, z8, cst, zq, isC, bin, una, z6, zd, blt, asArg, zg, zc, zf, z1, E.mkS, unN, ze, zn, zb, GS, simprocAttr, GZ, ha, zk, zD, Int.cast_ofNat_Int]
   cases h2 : n9 b <;> rw [h2] at hb
   · refine zj Tryz.func204 rfl rfl ?_
     simp (disch := ((try simp only [LL]); omega)) only [↓GO, ↓DRW, GA, GX, ren, zm, za, refs, z8, cst, zq, isC, bin, una, z6, zd, blt, asArg, zg, zc, zf, z1, E.mkS, unN, ze, zn, zb, GS, simprocAttr, GZ, hb, zk, Int.zero_add, zD, Int.cast_ofNat_Int, Int.reduceAdd]
   · refine zj Tryz.func204 rfl rfl ?_
     simp (disch := ((try simp only [LL]); omega)) only [↓GO, ↓DRW, GA, GX, ren, zm, za, refs, z8, cst, zq, isC, bin, una, z6, zd, blt, asArg, zg, zc, zf, z1, E.mkS, unN, ze, zn, zb, GS, simprocAttr, GZ, hb, zk, Int.zero_add, zD, Int.cast_ofNat_Int, Int.reduceAdd]
     cases h3 : n9 c <;> rw [h3] at hc
     · refine zj Tryz.func204 rfl rfl ?_
       simp (disch := ((try simp only [LL]); omega)) only [↓GO, ↓DRW, GA, GX, ren, zm, za, refs, z8, cst, zq, isC, bin, una, z6, zd, blt, asArg, zg, zc, zf, z1, E.mkS, unN, ze, zn, zb, GS, simprocAttr, GZ, hc, zk, Int.zero_add, zD, Int.cast_ofNat_Int, Int.reduceAdd]
     · refine zj Tryz.func204 rfl rfl ?_
       simp (disch := ((try simp only [LL]); omega)) only [↓GO, ↓DRW, GA, GX, ren, zm, za, refs, z8, cst, zq, isC, bin, una, z6, zd, blt, asArg, zg, zc, zf, z1, E.mkS, unN, ze, zn, zb, GS, simprocAttr, GZ, hc, zk, Int.zero_add, zD, Int.cast_ofNat_Int, Int.reduceAdd]
       refine zj Tryz.func204 rfl rfl ?_
       simp (disch := ((try simp only [LL]); omega)) only [↓GO, ↓DRW, GA, GX, ren, zm, za, refs, z8, cst, zq, isC, bin, una, z6, zd, blt, asArg, zg, zc, zf, z1, E.mkS, unN, ze, zn, zb, GS, simprocAttr, GZ, zk, Int.zero_add, zD, Int.cast_ofNat_Int, Int.reduceAdd]
theorem aQ (v : Ver) (hs : v.sm) : ∀ (rest pre : List Str), v.pre = pre ++ rest →
 EV Tryz.prog pol (.loop 204 58 0 [.ptr 0 0 0, .t (.list 1 (strs v.pre)), .t (.int .i64 (v.pre.length : Int)), .t (.int .i64 (pre.length : Int))] [.vs 4 [v.enc.map .t]])
 = some (cond (rest.all tU) (.loop (.exit 2) [.ptr 0 0 0, .bad] [.vs 4 [v.enc.map .t]]) (.loop .ret [.ptr 0 0 0, .t (.bool false)] [.vs 4 [v.enc.map .t]]))
 | [], pre, hp => by
  have c : decide ((pre.length : Int) < (v.pre.length : Int)) = false := by simp [hp]
  refine zj Tryz.func204 rfl rfl ?_
  simp only [↓GO, ↓DRW, GA, GX, ren, zm, za, refs, z8, cst, zq, isC, bin, una, z6, zd, blt, asArg, zg, zc, zf, z1, E.mkS, unN, ze, zn, zb, GS, simprocAttr, c, Ver.enc]
 | x :: rest, pre, hp => by
  unfold Ver.sm at hs
  have c : decide ((pre.length : Int) < (v.pre.length : Int)) = true := by simp [hp]; omega
  have hget : (strs v.pre)[pre.length]? = some [.str x] := by rw [hp]; exact xl pre x rest
  have hlen : pre.length + rest.length + 1 ≤ v.pre.length := by rw [hp]; simp; omega
  have hx : x.length ≤ 2097152 := by have := u5 (ks := v.pre) (s := x) (by rw [hp]; simp); omega
  have IH := aQ v hs rest (pre ++ [x]) (by rw [hp]; simp)
  rw [show ((pre ++ [x]).length : Int) = (pre.length : Int) + 1 by simp] at IH
  have h1 := sE (x.length : Int) 1 20
  have h2 := ZV 218 preB Q7 x (by omega)
  have h3 := Sp x (by omega)
  have h4 := ZT x (by omega)
  clear hp
  simp only [Ver.enc, List.map_cons, List.map_nil] at IH ⊢
  rw [List.all_cons, tU]
  have e4 : decide (zO x < 0) = !decide (0 ≤ zO x) := by
   rcases Int.lt_or_le (zO x) 0 with h | h
   · have a : ¬ (0 ≤ zO x) := by omega
     simp [h, a]
   · have a : ¬ (zO x < 0) := by omega
     simp [h, a]
  generalize B2 (x.length : Int) 1 20 = b1 at *
  generalize x.all preB = b2 at *
  generalize isNum x = b3 at *
  generalize zO x = rd at *
  generalize decide (0 ≤ rd) = b4 at *
  cases b1 <;> cases b2 <;> cases b3 <;> cases b4 <;> refine zj Tryz.func204 rfl rfl ?_ <;>
   simp (disch := ((try simp only [LL]); omega)) only [↓GO, ↓DRW, GA, GX, ren, zm, za, refs, z8, cst, zq, isC, bin, una, z6, zd, blt, asArg, zg, zc, zf, z1, E.mkS, unN, ze, zn, zb, GS, simprocAttr, GZ, c, hget, zk, h1, h2, h3, h4, e4, zi, IH, zD]
theorem Q0 (v : Ver) (hs : v.sm) : zo (EV Tryz.prog pol) 204 [.agg (v.enc.map .t)] = some (.t (.bool (yR v))) := by
 have h1 := TS (.int .i64 v.maj) (.int .i64 v.min) (.int .i64 v.pat) (.list 1 (strs v.pre)) v.maj v.min v.pat
 have h2 := aQ v hs v.pre [] rfl
 unfold Ver.sm at hs
 simp only [List.length_nil, Int.natCast_zero] at h2
 simp only [Ver.enc, List.map_cons, List.map_nil] at h1 h2 ⊢
 unfold yR
 generalize (n9 v.maj && (n9 v.min && n9 v.pat)) = b1 at *
 generalize v.pre.all tU = b2 at *
 apply zw
 refine zy rfl Tryz.func204 rfl (by kernel_rfl) ?_
 unfold Tryz.f204
 cases b1 <;> cases b2 <;> simp only [cond_true, cond_false] at h1 h2 <;>
  simp (disch := ((try simp only [LL]); omega)) only [↓GO, ↓DRW, GA, GX, ren, zm, za, refs, z8, cst, zq, isC, bin, una, z6, zd, blt, asArg, zg, zc, zf, z1, E.mkS, unN, ze, zn, zb, GS, simprocAttr, GZ, h1, h2, zi, zD, Int.cast_ofNat_Int]
theorem Sr (b : UInt8) : zo (EV Tryz.prog pol) 207 [.t (.int .u8 (b.toNat : Int))] = some (.t (.bool (B2 (b.toNat : Int) 65 90))) := by
 have h := wq (b.toNat : Int) 65 90
 apply zw
 refine zy rfl Tryz.func207 rfl (by kernel_rfl) ?_
 unfold Tryz.f207
 simp (disch := ((try simp only [LL]); omega)) only [↓GO, ↓DRW, GA, GX, ren, zm, za, refs, z8, cst, zq, isC, bin, una, z6, zd, blt, asArg, zg, zc, zf, z1, E.mkS, unN, ze, zn, zb, GS, simprocAttr, GZ, h, conv, wrap_u8]
theorem UC (s : Str) (hl : s.length ≤ 2097152) : ∀ (rest pre : Str), s = pre ++ rest →
 EV Tryz.prog pol (.loop 208 26 0 [.t (.str s), .t (.int .i64 (pre.length : Int))] []) = some (cond (rest.all isD) (.loop (.exit 0) [.t (.str s), .bad] []) (.loop .ret [.t (.str s), .t (.bool false)] []))
 | [], pre, hs => by
  have c : decide ((pre.length : Int) < (s.length : Int)) = false := by simp [hs]
  refine zj Tryz.func208 rfl rfl ?_
  simp only [↓GO, ↓DRW, GA, GX, ren, zm, za, refs, z8, cst, zq, isC, bin, una, z6, zd, blt, asArg, zg, zc, zf, z1, E.mkS, unN, ze, zn, zb, GS, simprocAttr, c]
 | b :: rest, pre, hs => by
  have c : decide ((pre.length : Int) < (s.length : Int)) = true := by simp [hs]; omega
  have hget : s[pre.length]? = some b := by rw [hs]; exact tN pre b rest
  have hlen : s.length = pre.length + rest.length + 1 := by rw [hs]; simp; omega
  have IH := UC s hl rest (pre ++ [b]) (by rw [hs]; simp)
  rw [show ((pre ++ [b]).length : Int) = (pre.length : Int) + 1 by simp] at IH
  have hb := wq (b.toNat : Int) 48 57
  rw [UH] at hb
  clear hs
  refine zj Tryz.func208 rfl rfl ?_
  cases h1 : isD b <;> rw [h1] at hb <;>
   simp (disch := ((try simp only [LL]); omega)) only [↓GO, ↓DRW, GA, GX, ren, zm, za, refs, z8, cst, zq, isC, bin, una, z6, zd, blt, asArg, zg, zc, zf, z1, E.mkS, unN, ze, zn, zb, GS, simprocAttr, GZ, c, hget, zk, conv, wrap_u8, hb, h1, IH]
theorem Qf (s : Str) (hl : s.length ≤ 2097152) : zo (EV Tryz.prog pol) 208 [.t (.str s)] = some (.t (.bool (isNum s))) := by
 have IH := UC s hl s [] rfl
 simp only [List.length_nil, Int.natCast_zero] at IH
 apply zw
 refine zy rfl Tryz.func208 rfl (by kernel_rfl) ?_
 unfold Tryz.f208
 unfold isNum
 cases h1 : s.all isD <;> rw [h1] at IH <;> simp only [cond_true, cond_false] at IH <;>
  simp (disch := ((try simp only [LL]); omega)) only [↓GO, ↓DRW, GA, GX, ren, zm, za, refs, z8, cst, zq, isC, bin, una, z6, zd, blt, asArg, zg, zc, zf, z1, E.mkS, unN, ze, zn, zb, GS, simprocAttr, GZ, IH, bne]
theorem Uu (s : Str) (hl : s.length ≤ 2097152) : ∀ (rest pre : Str), s = pre ++ rest →
 EV Tryz.prog pol (.loop 192 26 0 [.t (.str s), .t (.int .i64 (pre.length : Int))] []) = some (cond (rest.all preB) (.loop (.exit 0) [.t (.str s), .bad] []) (.loop .ret [.t (.str s), .t (.bool false)] []))
 | [], pre, hs => by
  have c : decide ((pre.length : Int) < (s.length : Int)) = false := by simp [hs]
  refine zj Tryz.func192 rfl rfl ?_
  simp only [↓GO, ↓DRW, GA, GX, ren, zm, za, refs, z8, cst, zq, isC, bin, una, z6, zd, blt, asArg, zg, zc, zf, z1, E.mkS, unN, ze, zn, zb, GS, simprocAttr, c]
 | b :: rest, pre, hs => by
  have c : decide ((pre.length : Int) < (s.length : Int)) = true := by simp [hs]; omega
  have hget : s[pre.length]? = some b := by rw [hs]; exact tN pre b rest
  have hlen : s.length = pre.length + rest.length + 1 := by rw [hs]; simp; omega
  have IH := Uu s hl rest (pre ++ [b]) (by rw [hs]; simp)
  rw [show ((pre ++ [b]).length : Int) = (pre.length : Int) + 1 by simp] at IH
  have hb := n5 b
  have hg := Sr b
  clear hs
  refine zj Tryz.func192 rfl rfl ?_
  rw [List.all_cons, preB]
  simp only [nb] at *
  cases h1 : (B2 (b.toNat : Int) 97 122 || B2 (b.toNat : Int) 48 57) <;> rw [h1] at hb <;> cases h2 : B2 (b.toNat : Int) 65 90 <;> rw [h2] at hg <;> cases h3 : ((b.toNat : Int) == 45) <;>
   simp (disch := ((try simp only [LL]); omega)) only [↓GO, ↓DRW, GA, GX, ren, zm, za, refs, z8, cst, zq, isC, bin, una, z6, zd, blt, asArg, zg, zc, zf, z1, E.mkS, unN, ze, zn, zb, GS, simprocAttr, GZ, c, hget, zk, hb, hg, h3, bne, IH]
theorem Q6 (s : Str) (hl : s.length ≤ 2097152) : zo (EV Tryz.prog pol) 192 [.t (.str s)] = some (.t (.bool (tU s))) := by
 have IH := Uu s hl s [] rfl
 simp only [List.length_nil, Int.natCast_zero] at IH
 have h1 := wq (s.length : Int) 1 20
 have h3 := Qf s hl
 have h4 := iq s (by omega)
 apply zw
 refine zy rfl Tryz.func192 rfl (by kernel_rfl) ?_
 unfold Tryz.f192
 unfold tU
 generalize B2 (s.length : Int) 1 20 = b1 at *
 generalize isNum s = b3 at *
 generalize zO s = rd at *
 cases ha : s.all preB <;> rw [ha] at IH <;> simp only [cond_true, cond_false] at IH <;> cases b1 <;> cases b3 <;>
  simp (disch := ((try simp only [LL]); omega)) only [↓GO, ↓DRW, GA, GX, ren, zm, za, refs, z8, cst, zq, isC, bin, una, z6, zd, blt, asArg, zg, zc, zf, z1, E.mkS, unN, ze, zn, zb, GS, simprocAttr, GZ, IH, h1, h3, h4, ge_iff_le]
theorem Us (v : Ver) (hs : v.sm) : ∀ (rest pre : List Str), v.pre = pre ++ rest →
 EV Tryz.prog pol (.loop 171 26 0 [.ptr 0 0 0, .t (.int .i64 (pre.length : Int))] [.vs 4 [v.enc.map .t]])
 = some (cond (rest.all tU) (.loop (.exit 0) [.ptr 0 0 0, .bad] [.vs 4 [v.enc.map .t]]) (.loop .ret [.ptr 0 0 0, .t (.bool false)] [.vs 4 [v.enc.map .t]]))
 | [], pre, hp => by
  have c : decide ((pre.length : Int) < (v.pre.length : Int)) = false := by simp [hp]
  refine zj Tryz.func171 rfl rfl ?_
  simp only [↓GO, ↓DRW, GA, GX, ren, zm, za, refs, z8, cst, zq, isC, bin, una, z6, zd, blt, asArg, zg, zc, zf, z1, E.mkS, unN, ze, zn, zb, GS, simprocAttr, zi, c, Ver.enc]
 | x :: rest, pre, hp => by
  unfold Ver.sm at hs
  have c : decide ((pre.length : Int) < (v.pre.length : Int)) = true := by simp [hp]; omega
  have hget : (strs v.pre)[pre.length]? = some [.str x] := by rw [hp]; exact xl pre x rest
  have hlen : pre.length + rest.length + 1 ≤ v.pre.length := by rw [hp]; simp; omega
  have hx : x.length ≤ 2097152 := by have := u5 (ks := v.pre) (s := x) (by rw [hp]; simp); omega
  have IH := Us v hs rest (pre ++ [x]) (by rw [hp]; simp)
  rw [show ((pre ++ [x]).length : Int) = (pre.length : Int) + 1 by simp] at IH
  have h1 := Q6 x hx
  clear hp
  simp only [Ver.enc, List.map_cons, List.map_nil] at IH ⊢
  cases h2 : tU x <;> rw [h2] at h1 <;> refine zj Tryz.func171 rfl rfl ?_ <;>
   simp (disch := ((try simp only [LL]); omega)) only [↓GO, ↓DRW, GA, GX, ren, zm, za, refs, z8, cst, zq, isC, bin, una, z6, zd, blt, asArg, zg, zc, zf, z1, E.mkS, unN, ze, zn, zb, GS, simprocAttr, GZ, c, hget, zk, h1, h2, zi, IH, zD]
theorem bT (v : Ver) (hs : v.sm) : zo (EV Tryz.prog pol) 171 [.agg (v.enc.map .t)] = some (.t (.bool (yR v))) := by
 have h2 := Us v hs v.pre [] rfl
 have ha := wq v.maj 0 999999999
 have hb := wq v.min 0 999999999
 have hc := wq v.pat 0 999999999
 rw [R2] at ha hb hc
 unfold Ver.sm at hs
 simp only [List.length_nil, Int.natCast_zero] at h2
 simp only [Ver.enc, List.map_cons, List.map_nil] at h2 ⊢
 unfold yR
 generalize n9 v.maj = b1 at *
 generalize n9 v.min = b3 at *
 generalize n9 v.pat = b4 at *
 generalize v.pre.all tU = b2 at *
 apply zw
 refine zy rfl Tryz.func171 rfl (by kernel_rfl) ?_
 unfold Tryz.f171
 cases b2 <;> simp only [cond_true, cond_false] at h2 <;> cases b1 <;> cases b3 <;> cases b4 <;>
  simp (disch := ((try simp only [LL]); omega)) only [↓GO, ↓DRW, GA, GX, ren, zm, za, refs, z8, cst, zq, isC, bin, una, z6, zd, blt, asArg, zg, zc, zf, z1, E.mkS, unN, ze, zn, zb, GS, simprocAttr, GZ, h2, ha, hb, hc, zi, zD]
end Go.Proofs.YtonbkdklidfmfaaGreatDoor
/- The draws' small functions. Conditions: those of each lemma. -/
namespace Go.Proofs.YtonbkdklidfmfaaGreatDoor
open E
set_option linter.unusedSimpArgs false
set_option linter.unusedVariables false
set_option maxRecDepth 100000
def xg (bs : List Int) : List (List T) := bs.map fun b => [.int .u8 b]
theorem wm (bs : List Int) : (xg bs).length = bs.length := by simp [xg]
def okB (bs : List Int) : Prop := bs.length ≤ 1048576 ∧ ∀ b ∈ bs, 0 ≤ b ∧ b ≤ 255
def cuR (bs : List Int) (c : Cs) : Blk := .vs 3 [[.t (.list 1 (xg bs)), .t (.int .i64 (c.1 : Int)), .t (.int .i64 c.2)]]
def cok (bs : List Int) (c : Cs) : Prop := c.1 ≤ bs.length
theorem sh33 (x : Int) : lv .shr .i64 x 33 = some (x.fdiv (2 ^ 33)) := rfl
theorem sh45 (x : Int) : lv .shr .i64 x 45 = some (x.fdiv (2 ^ 45)) := rfl
theorem ixor (x y : Int) : vu .xor .i64 x y = some (.int .i64 (SV x y)) := rfl
theorem JT (x y : Int) : vu .and .i64 x y = some (.int .i64 (iu x y)) := rfl
set_option maxHeartbeats 2000000 in
theorem UO (bs : List Int) (hb : okB bs) (c : Cs) (hc : cok bs c) : EV Tryz.prog pol (.callO false 112 [.ptr 0 0 0] [cuR bs c]) = some (.call (.t (.int .i64 (nxI bs c))) [cuR bs (nxC bs c)]) := by
 obtain ⟨i, h⟩ := c
 unfold cok at hc
 obtain ⟨hl, hb⟩ := hb
 have hel := wm bs
 have c0 : decide ((0 : Int) ≤ (i : Int)) = true := by apply decide_eq_true; omega
 unfold cuR nxI nxC JS lcg w64 lcA lcC
 simp only at hc ⊢
 cases hg : bs[i]? with
 | some b =>
  have hil := (List.getElem?_eq_some_iff.1 hg).1
  have c1 : decide ((i : Int) < (bs.length : Int)) = true := by apply decide_eq_true; omega
  have hget : (xg bs)[i]? = some [.int .u8 b] := by unfold xg; rw [List.getElem?_map, hg]; rfl
  have hbb := hb b (List.mem_of_getElem? hg)
  simp only
  rw [show ((i + 1 : Nat) : Int) = (i : Int) + 1 by omega]
  generalize xg bs = E0 at *
  generalize bs.length = n at *
  clear hg hb
  refine zJ Tryz.func112 rfl (by kernel_rfl) ?_
  unfold Tryz.f112
  simp (disch := ((try simp only [LL]); omega)) only [↓GO, ↓DRW, GA, GX, ren, zm, za, refs, z8, cst, zq, isC, bin, una, z6, zd, blt, asArg, zg, zc, zf, z1, E.mkS, unN, ze, zn, zb, GS, simprocAttr, GZ, c0, c1, hel, hget, sh33, sh45, ixor, JT, conv, zk, zD]
 | none =>
  have hil := List.getElem?_eq_none_iff.1 hg
  have c1 : decide ((i : Int) < (bs.length : Int)) = false := by apply decide_eq_false; omega
  simp only
  generalize xg bs = E0 at *
  generalize bs.length = n at *
  clear hg hb
  refine zJ Tryz.func112 rfl (by kernel_rfl) ?_
  unfold Tryz.f112
  simp (disch := ((try simp only [LL]); omega)) only [↓GO, ↓DRW, GA, GX, ren, zm, za, refs, z8, cst, zq, isC, bin, una, z6, zd, blt, asArg, zg, zc, zf, z1, E.mkS, unN, ze, zn, zb, GS, simprocAttr, GZ, c0, c1, hel, sh33, sh45, ixor, JT, zk, zD]
theorem tmodN (a n : Nat) : Int.tmod (a : Int) (n : Int) = ((a % n : Nat) : Int) := (Int.ofNat_tmod a n).symm
theorem lI (bs : List Int) (hb : okB bs) (c : Cs) (hc : cok bs c) (n : Nat) (h1 : 1 ≤ n) (h2 : n ≤ 256) : EV Tryz.prog pol (.callO false 75 [.ptr 0 0 0, .t (.int .i64 (n : Int))] [cuR bs c]) = some (.call (.t (.int .i64 ((nxN bs c % n : Nat) : Int))) [cuR bs (nxC bs c)]) := by
 have d := UO bs hb c hc
 rw [Ul] at d
 have c1 : decide ((n : Int) ≤ 0) = false := by apply decide_eq_false; omega
 have c2 : decide ((n : Int) ≤ 256) = true := by apply decide_eq_true; omega
 have c3 : ((n : Int) = 0) = False := eq_false (by omega)
 unfold cuR at d ⊢
 generalize nxN bs c = x at *
 generalize nxC bs c = c' at *
 refine zJ Tryz.func75 rfl (by kernel_rfl) ?_
 unfold Tryz.f75
 simp (disch := ((try simp only [LL]); omega)) only [↓GO, ↓DRW, GA, GX, ren, zm, za, refs, z8, cst, zq, isC, bin, una, z6, zd, blt, asArg, zg, zc, zf, z1, E.mkS, unN, ze, zn, zb, GS, simprocAttr, GZ, c1, c2, c3, if_false, d, tmodN, zk, zD]
theorem rA (bs : List Int) (hb : okB bs) (c : Cs) (hc : cok bs c) (n : Nat) (h1 : 1 ≤ n) (h2 : n ≤ 256) : ∃ (k : Nat) (c' : Cs), k < n ∧ cok bs c' ∧ EV Tryz.prog pol (.callO false 75 [.ptr 0 0 0, .t (.int .i64 (n : Int))] [cuR bs c]) = some (.call (.t (.int .i64 (k : Int))) [cuR bs c']) :=
 ⟨_, _, Nat.mod_lt _ h1, Um bs c hc, lI bs hb c hc n h1 h2⟩
theorem vC (bs : List Int) (hb : okB bs) (c : Cs) (hc : cok bs c) (n : Nat) (h1 : 1 ≤ n) (h2 : n ≤ 256) : ∃ (b : Bool) (c' : Cs), cok bs c' ∧ EV Tryz.prog pol (.callO false 113 [.ptr 0 0 0, .t (.int .i64 (n : Int))] [cuR bs c]) = some (.call (.t (.bool b)) [cuR bs c']) := by
 obtain ⟨k, c', _, hc', d⟩ := rA bs hb c hc n h1 h2
 refine ⟨((k : Int) == 0), c', hc', ?_⟩
 unfold cuR at d ⊢
 refine zJ Tryz.func113 rfl (by kernel_rfl) ?_
 unfold Tryz.f113
 simp (disch := ((try simp only [LL]); omega)) only [↓GO, ↓DRW, GA, GX, ren, zm, za, refs, z8, cst, zq, isC, bin, una, z6, zd, blt, asArg, zg, zc, zf, z1, E.mkS, unN, ze, zn, zb, GS, simprocAttr, GZ, d, zD]
theorem uC (bs : List Int) (hb : okB bs) (c : Cs) (hc : cok bs c) (ks : List Str) (n : Nat) (hn : n = ks.length) (h1 : 1 ≤ n) (h2 : n ≤ 256) (cap : Option Nat) : ∃ (s : Str) (c' : Cs), s ∈ ks ∧ cok bs c' ∧
 EV Tryz.prog pol (.callO false 111 [.ptr 0 0 0, .sl 1 0 n cap] [cuR bs c, .ts 1 (strs ks)]) = some (.call (.t (.str s)) [cuR bs c', .ts 1 (strs ks)]) := by
 obtain ⟨k, c', hk, hc', d⟩ := rA bs hb c hc n h1 h2
 have hkl : k < ks.length := by omega
 have hg := List.getElem?_eq_getElem hkl
 have hget : (strs ks)[k]? = some [.str ks[k]] := by unfold strs; rw [List.getElem?_map, hg]; rfl
 have c0 : decide ((0 : Int) ≤ (k : Int)) = true := by apply decide_eq_true; omega
 have c1 : decide ((k : Int) < (n : Int)) = true := by apply decide_eq_true; omega
 have c00 : (0 : Int) ≤ (k : Int) := by omega
 refine ⟨ks[k], c', List.getElem_mem hkl, hc', ?_⟩
 generalize ks[k] = s at *
 generalize strs ks = E0 at *
 clear hg hkl
 unfold cuR at d ⊢
 refine zJ Tryz.func111 rfl (by kernel_rfl) ?_
 unfold Tryz.f111
 simp (disch := ((try simp only [LL]); omega)) only [↓GO, ↓DRW, GA, GX, ren, zm, za, refs, z8, cst, zq, isC, bin, una, z6, zd, blt, asArg, zg, zc, zf, z1, E.mkS, unN, ze, zn, zb, GS, simprocAttr, GZ, d, c0, c1, hget, zD]
def pE (l : List Int) : List (List T) := l.map fun x => [.int .i64 x]
theorem rk (bs : List Int) (hb : okB bs) (c : Cs) (hc : cok bs c) (ks : List Int) (n : Nat) (hn : n = ks.length) (h1 : 1 ≤ n) (h2 : n ≤ 256) (cap : Option Nat) : ∃ (s : Int) (c' : Cs), s ∈ ks ∧ cok bs c' ∧
 EV Tryz.prog pol (.callO false 173 [.ptr 0 0 0, .sl 1 0 n cap] [cuR bs c, .ts 1 (pE ks)]) = some (.call (.t (.int .i64 s)) [cuR bs c', .ts 1 (pE ks)]) := by
 obtain ⟨k, c', hk, hc', d⟩ := rA bs hb c hc n h1 h2
 have hkl : k < ks.length := by omega
 have hg := List.getElem?_eq_getElem hkl
 have hget : (pE ks)[k]? = some [.int .i64 ks[k]] := by unfold pE; rw [List.getElem?_map, hg]; rfl
 have c0 : decide ((0 : Int) ≤ (k : Int)) = true := by apply decide_eq_true; omega
 have c1 : decide ((k : Int) < (n : Int)) = true := by apply decide_eq_true; omega
 refine ⟨ks[k], c', List.getElem_mem hkl, hc', ?_⟩
 generalize ks[k] = s at *
 generalize pE ks = E0 at *
 clear hg hkl
 unfold cuR at d ⊢
 refine zJ Tryz.func173 rfl (by kernel_rfl) ?_
 unfold Tryz.f173
 simp (disch := ((try simp only [LL]); omega)) only [↓GO, ↓DRW, GA, GX, ren, zm, za, refs, z8, cst, zq, isC, bin, una, z6, zd, blt, asArg, zg, zc, zf, z1, E.mkS, unN, ze, zn, zb, GS, simprocAttr, GZ, d, c0, c1, hget, zD]
theorem UN (bs : List Int) (hb : okB bs) (c : Cs) (hc : cok bs c) : ∃ (s : Str) (c' : Cs), s.length ≤ 32 ∧ cok bs c' ∧ EV Tryz.prog pol (.callO false 114 [.ptr 0 0 0] [cuR bs c]) = some (.call (.t (.str s)) [cuR bs c']) := by
 obtain ⟨s, c', hs, hc', d⟩ := uC bs hb c hc [[97], [98], [99, 111, 114, 101], [108, 101, 102, 116, 45, 112, 97, 100], [64, 111, 114, 103, 47, 117, 105], [103, 111, 108, 97, 110, 103, 46, 111, 114, 103, 47, 120, 47, 116, 101, 120, 116], [108, 105, 98, 95, 99], [122, 101, 100]] 8 rfl (by decide) (by decide) (some 8)
 refine ⟨s, c', ?_, hc', ?_⟩
 · simp only [List.mem_cons, List.not_mem_nil, or_false] at hs
   rcases hs with rfl | rfl | rfl | rfl | rfl | rfl | rfl | rfl <;> decide
 · clear hs
   simp only [strs, List.map_cons, List.map_nil] at d
   unfold cuR at d ⊢
   refine zJ Tryz.func114 rfl (by kernel_rfl) ?_
   unfold Tryz.f114
   simp (disch := ((try simp only [LL]); omega)) only [↓GO, ↓DRW, GA, GX, ren, zm, za, refs, z8, cst, zq, isC, bin, una, z6, zd, blt, asArg, zg, zc, zf, z1, E.mkS, unN, ze, zn, zb, GS, simprocAttr, GZ, d, zD]
theorem c_odd (bs : List Int) (hb : okB bs) (c : Cs) (hc : cok bs c) : ∃ (s : Str) (c' : Cs), s.length ≤ 32 ∧ cok bs c' ∧ EV Tryz.prog pol (.callO false 110 [.ptr 0 0 0] [cuR bs c]) = some (.call (.t (.str s)) [cuR bs c']) := by
 obtain ⟨s, c', hs, hc', d⟩ := uC bs hb c hc [[], [65], [97, 47, 47, 98], [47, 97], [97, 64, 98], [64], [64, 97], [97, 32, 98], [97, 47, 64, 98], [46], [120, 47], [120, 47, 110, 111, 100, 101, 95, 109, 111, 100, 117, 108, 101, 115, 47, 121]] 12 rfl (by decide) (by decide) (some 12)
 refine ⟨s, c', ?_, hc', ?_⟩
 · simp only [List.mem_cons, List.not_mem_nil, or_false] at hs
   rcases hs with rfl | rfl | rfl | rfl | rfl | rfl | rfl | rfl | rfl | rfl | rfl | rfl <;> decide
 · clear hs
   simp only [strs, List.map_cons, List.map_nil] at d
   unfold cuR at d ⊢
   refine zJ Tryz.func110 rfl (by kernel_rfl) ?_
   unfold Tryz.f110
   simp (disch := ((try simp only [LL]); omega)) only [↓GO, ↓DRW, GA, GX, ren, zm, za, refs, z8, cst, zq, isC, bin, una, z6, zd, blt, asArg, zg, zc, zf, z1, E.mkS, unN, ze, zn, zb, GS, simprocAttr, GZ, d, zD]
theorem R8 (code : List Int) (hb : okB code) : ∀ (rest pre : List Int) (h : Int), code = pre ++ rest → ∃ h' : Int,
 EV Tryz.prog pol (.loop 73 58 0 [.t (.list 1 (xg code)), .t (.int .i64 h), .t (.int .i64 (pre.length : Int))] []) = some (.loop (.exit 0) [.t (.list 1 (xg code)), .t (.int .i64 h')] [])
 | [], pre, h, hs => by
  have c : decide ((pre.length : Int) < (code.length : Int)) = false := by simp [hs]
  have hel := wm code
  refine ⟨h, ?_⟩
  generalize xg code = E0 at *
  refine zj Tryz.func73 rfl rfl ?_
  simp (disch := ((try simp only [LL]); omega)) only [↓GO, ↓DRW, GA, GX, ren, zm, za, refs, z8, cst, zq, isC, bin, una, z6, zd, blt, asArg, zg, zc, zf, z1, E.mkS, unN, ze, zn, zb, GS, simprocAttr, GZ, c, hel, zD]
 | x :: rest, pre, h, hs => by
  have c : decide ((pre.length : Int) < (code.length : Int)) = true := by simp [hs]; omega
  have c0 : decide ((0 : Int) ≤ (pre.length : Int)) = true := by simp
  have hlen : pre.length + rest.length + 1 ≤ code.length := by rw [hs]; simp; omega
  have hcl := hb.1
  have hxb := hb.2 x (by rw [hs]; simp)
  have hget : (xg code)[pre.length]? = some [.int .u8 x] := by rw [hs]; simp [xg]
  have hel := wm code
  cases q : decide ((pre.length : Int) < 4000) with
  | false =>
   refine ⟨h, ?_⟩
   generalize xg code = E0 at *
   refine zj Tryz.func73 rfl rfl ?_
   simp (disch := ((try simp only [LL]); omega)) only [↓GO, ↓DRW, GA, GX, ren, zm, za, refs, z8, cst, zq, isC, bin, una, z6, zd, blt, asArg, zg, zc, zf, z1, E.mkS, unN, ze, zn, zb, GS, simprocAttr, GZ, c, hel, q, zD]
  | true =>
   obtain ⟨h', IH⟩ := R8 code hb rest (pre ++ [x]) (iu (IntKind.i64.wrap (IntKind.i64.wrap (IntKind.i64.wrap (h * 131) + x) + 7)) 1073741823) (by rw [hs]; simp)
   rw [show ((pre ++ [x]).length : Int) = (pre.length : Int) + 1 by simp] at IH
   refine ⟨h', ?_⟩
   generalize xg code = E0 at *
   clear hs
   refine zj Tryz.func73 rfl rfl ?_
   simp (disch := ((try simp only [LL]); omega)) only [↓GO, ↓DRW, GA, GX, ren, zm, za, refs, z8, cst, zq, isC, bin, una, z6, zd, blt, asArg, zg, zc, zf, z1, E.mkS, unN, ze, zn, zb, GS, simprocAttr, GZ, c, c0, hel, q, hget, JT, conv, zk, zD, IH]
theorem Ro (code : List Int) (hb : okB code) : ∃ h : Int, EV Tryz.prog pol (.callO false 73 [.t (.list 1 (xg code))] []) = some (.call (.ptr 0 0 0) [cuR code (0, h)]) := by
 obtain ⟨h', L⟩ := R8 code hb code [] (445445 + (code.length : Int)) rfl
 refine ⟨h', ?_⟩
 have hel := wm code
 have hcl := hb.1
 unfold cuR
 simp only [List.length_nil, Int.natCast_zero] at L ⊢
 generalize xg code = E0 at *
 refine zJ Tryz.func73 rfl (by kernel_rfl) ?_
 unfold Tryz.f73
 simp (disch := ((try simp only [LL]); omega)) only [↓GO, ↓DRW, GA, GX, ren, zm, za, refs, z8, cst, zq, isC, bin, una, z6, zd, blt, asArg, zg, zc, zf, z1, E.mkS, unN, ze, zn, zb, GS, simprocAttr, GZ, hel, zk, L, zD]
end Go.Proofs.YtonbkdklidfmfaaGreatDoor
/- Drawn texts: the loop ends. Conditions: those of each lemma. -/
namespace Go.Proofs.YtonbkdklidfmfaaGreatDoor
open E
set_option linter.unusedSimpArgs false
set_option linter.unusedVariables false
set_option maxRecDepth 100000
def okO (o : List Int) : Prop := ∀ b ∈ o, 0 ≤ b ∧ b ≤ 255
noncomputable def txR (bs : List Int) (n : Nat) (o : List Int) (c : Cs) (cap : Option Nat) : Option xY :=
 EV Tryz.prog pol (.loop 191 28 1 [.ptr 0 0 0, .t (.int .i64 (n : Int)), .sl 1 0 o.length cap] [cuR bs c, .ts 1 (xg o)])
theorem R5 (bs : List Int) (n : Nat) (c : Cs) (x : Int) (K : Nat) (hK : K ≤ 256) : ∀ (k i : Nat) (o : List Int) (cap : Option Nat), i + k = K → o.length + k ≤ 1048576 → ∃ cap',
 EV Tryz.prog pol (.loop 191 232174 1 [.ptr 0 0 0, .t (.int .i64 (n : Int)), .sl 1 0 o.length cap, .t (.int .i64 (K : Int)), .t (.int .u8 x), .t (.int .i64 (i : Int))] [cuR bs c, .ts 1 (xg o)])
  = some (.loop (.exit 3) [.ptr 0 0 0, .t (.int .i64 (n : Int)), .sl 1 0 (o ++ List.replicate k x).length cap'] [cuR bs c, .ts 1 (xg (o ++ List.replicate k x))])
 | 0, i, o, cap, hi, ho => by
  have c0 : decide ((i : Int) < (K : Int)) = false := by apply decide_eq_false; omega
  refine ⟨cap, ?_⟩
  rw [List.replicate_zero, List.append_nil]
  unfold cuR
  refine zj Tryz.func191 rfl rfl ?_
  simp (disch := ((try simp only [LL]); omega)) only [↓GO, ↓DRW, GA, GX, ren, zm, za, refs, z8, cst, zq, isC, bin, una, z6, zd, blt, asArg, zg, zc, zf, z1, E.mkS, unN, ze, zn, zb, GS, simprocAttr, GZ, c0, zD]
 | k + 1, i, o, cap, hi, ho => by
  have c0 : decide ((i : Int) < (K : Int)) = true := by apply decide_eq_true; omega
  have hol := wm o
  obtain ⟨cap', IH⟩ := R5 bs n c x K hK k (i + 1) (o ++ [x]) none (by omega) (by
   simp only [List.length_append, List.length_cons, List.length_nil]; omega)
  refine ⟨cap', ?_⟩
  rw [show ((i + 1 : Nat) : Int) = (i : Int) + 1 by omega, show xg (o ++ [x]) = xg o ++ [[.int .u8 x]] by simp [xg], List.length_append, List.length_singleton] at IH
  rw [List.replicate_succ, show o ++ x :: List.replicate k x = (o ++ [x]) ++ List.replicate k x by simp]
  generalize (o ++ [x]) ++ List.replicate k x = Z at *
  unfold cuR at *
  refine zj Tryz.func191 rfl rfl ?_
  simp (disch := ((try simp only [LL]); omega)) only [↓GO, ↓DRW, GA, GX, ren, zm, za, refs, z8, cst, zq, isC, bin, una, z6, zd, blt, asArg, zg, zc, zf, z1, E.mkS, unN, ze, zn, zb, GS, simprocAttr, GZ, c0, hol, zk, ya, zD, IH]
def cpO (fr : Nat) : Nat → Nat → List Int → List Int
 | 0, i, o => o
 | k + 1, i, o => cpO fr k (i + 1) (o ++ [o.getD (fr + i) 0])
theorem Zu (fr : Nat) : ∀ (k i : Nat) (o : List Int), (cpO fr k i o).length = o.length + k
 | 0, i, o => rfl
 | k + 1, i, o => by rw [cpO, Zu fr k, List.length_append, List.length_singleton]; omega
theorem iz {o : List Int} (h : okO o) {x : Int} (hx : 0 ≤ x ∧ x ≤ 255) : okO (o ++ [x]) := fun b hb => (List.mem_append.1 hb).elim (h b) fun e => by simp at e; subst e; exact hx
theorem S0 {o : List Int} (h : okO o) (i : Nat) : 0 ≤ o.getD i 0 ∧ o.getD i 0 ≤ 255 := by
 rw [List.getD_eq_getElem?_getD]
 cases hg : o[i]? with
 | none => simp
 | some x => exact h x (List.mem_of_getElem? hg)
theorem UL (fr : Nat) : ∀ (k i : Nat) (o : List Int), okO o → okO (cpO fr k i o)
 | 0, i, o, h => h
 | k + 1, i, o, h => UL fr k (i + 1) _ (iz h (S0 h _))
theorem R4 (bs : List Int) (n : Nat) (c : Cs) (fr : Nat) (K : Nat) (hK : K ≤ 256) : ∀ (k i : Nat) (o : List Int) (cap : Option Nat), i + k = K → o.length + k ≤ 1048576 → fr + i < o.length → ∃ (cap' : Option Nat),
 EV Tryz.prog pol (.loop 191 3714990 1 [.ptr 0 0 0, .t (.int .i64 (n : Int)), .sl 1 0 o.length cap, .t (.int .i64 (fr : Int)), .t (.int .i64 (K : Int)), .t (.int .i64 (i : Int))] [cuR bs c, .ts 1 (xg o)])
  = some (.loop (.exit 5) [.ptr 0 0 0, .t (.int .i64 (n : Int)), .sl 1 0 (cpO fr k i o).length cap'] [cuR bs c, .ts 1 (xg (cpO fr k i o))])
 | 0, i, o, cap, hi, ho, hf => by
  have c0 : decide ((i : Int) < (K : Int)) = false := by apply decide_eq_false; omega
  refine ⟨cap, ?_⟩
  rw [cpO]
  unfold cuR
  refine zj Tryz.func191 rfl rfl ?_
  simp (disch := ((try simp only [LL]); omega)) only [↓GO, ↓DRW, GA, GX, ren, zm, za, refs, z8, cst, zq, isC, bin, una, z6, zd, blt, asArg, zg, zc, zf, z1, E.mkS, unN, ze, zn, zb, GS, simprocAttr, GZ, c0, zD]
 | k + 1, i, o, cap, hi, ho, hf => by
  have c0 : decide ((i : Int) < (K : Int)) = true := by apply decide_eq_true; omega
  have c1 : decide (((fr + i : Nat) : Int) < (o.length : Int)) = true := by apply decide_eq_true; omega
  have c2 : decide ((0 : Int) ≤ ((fr + i : Nat) : Int)) = true := by apply decide_eq_true; omega
  have hol := wm o
  have hg : o[fr + i]? = some (o.getD (fr + i) 0) := by rw [List.getD_eq_getElem?_getD, List.getElem?_eq_getElem hf]; rfl
  have hget : (xg o)[fr + i]? = some [.int .u8 (o.getD (fr + i) 0)] := by unfold xg; rw [List.getElem?_map, hg]; rfl
  rw [cpO]
  generalize o.getD (fr + i) 0 = x at *
  obtain ⟨cap', IH⟩ := R4 bs n c fr K hK k (i + 1) (o ++ [x]) none (by omega) (by
   simp only [List.length_append, List.length_cons, List.length_nil]; omega) (by simp; omega)
  refine ⟨cap', ?_⟩
  rw [show ((i + 1 : Nat) : Int) = (i : Int) + 1 by omega, show xg (o ++ [x]) = xg o ++ [[.int .u8 x]] by simp [xg], List.length_append, List.length_singleton] at IH
  have hfi : (fr : Int) + (i : Int) = ((fr + i : Nat) : Int) := by omega
  generalize cpO fr k (i + 1) (o ++ [x]) = Z at *
  unfold cuR at *
  generalize Z.length = zl at *
  generalize o.length = ol at *
  refine zj Tryz.func191 rfl rfl ?_
  simp (disch := ((try simp only [LL]); omega)) only [↓GO, ↓DRW, GA, GX, ren, zm, za, refs, z8, cst, zq, isC, bin, una, z6, zd, blt, asArg, zg, zc, zf, z1, E.mkS, unN, ze, zn, zb, GS, simprocAttr, GZ, c0, hol, zk, hfi, c1, c2, hget, ya, zD, IH]
def TxG (bs : List Int) (n : Nat) (o : List Int) (c : Cs) : Prop := ∀ cap, ∃ (o' : List Int) (c' : Cs) (cap' : Option Nat), n ≤ o'.length ∧ o'.length ≤ n + 32 ∧ okO o' ∧ cok bs c' ∧
 txR bs n o c cap = some (.loop (.exit 0) [.t (.int .i64 (n : Int)), .sl 1 0 o'.length cap'] [cuR bs c', .ts 1 (xg o')])
theorem U0 (bs : List Int) (n : Nat) (o : List Int) (c : Cs) (hok : okO o) (hc : cok bs c) (h : n ≤ o.length) (h2 : o.length ≤ n + 32) : TxG bs n o c := fun cap => by
 have c0 : decide ((o.length : Int) < (n : Int)) = false := by apply decide_eq_false; omega
 refine ⟨o, c, cap, h, h2, hok, hc, ?_⟩
 have hol := wm o
 unfold txR cuR
 refine zj Tryz.func191 rfl rfl ?_
 simp (disch := ((try simp only [LL]); omega)) only [↓GO, ↓DRW, GA, GX, ren, zm, za, refs, z8, cst, zq, isC, bin, una, z6, zd, blt, asArg, zg, zc, zf, z1, E.mkS, unN, ze, zn, zb, GS, simprocAttr, GZ, c0, zD]
theorem lH (bs : List Int) : ∀ (j : Nat) (c : Cs), cok bs c → cok bs (xw bs j c)
 | 0, c, h => h
 | j + 1, c, h => lH bs j _ (Um bs c h)
set_option maxHeartbeats 4000000 in
theorem Ti (bs : List Int) (hb : okB bs) (n : Nat) (hn : n ≤ 64) (o : List Int) (c : Cs) (hok : okO o) (hc : cok bs c) (hlt : o.length < n) : ∃ (o1 : List Int) (j : Nat), 1 ≤ j ∧ j ≤ 3 ∧ okO o1 ∧ o.length ≤ o1.length ∧ o1.length ≤ o.length + 20 ∧
 (o1.length = o.length → o1 = o ∧ (nxN bs c % 5 = 1 ∨ nxN bs c % 5 = 2)) ∧ (TxG bs n o1 (xw bs j c) → TxG bs n o c) := by
 have c0 : decide ((o.length : Int) < (n : Int)) = true := by apply decide_eq_true; omega
 have hol := wm o
 have d1 := lI bs hb c hc 5 (by decide) (by decide)
 have hc1 := lH bs 1 c hc
 have hc2 := lH bs 2 c hc
 have hc3 := lH bs 3 c hc
 have q1 : nxC bs c = xw bs 1 c := rfl
 have q2 : nxC bs (xw bs 1 c) = xw bs 2 c := rfl
 have q3 : nxC bs (xw bs 2 c) = xw bs 3 c := rfl
 rw [q1] at d1
 have h5 : nxN bs c % 5 < 5 := Nat.mod_lt _ (by decide)
 have hv : nxN bs c % 5 = 0 ∨ nxN bs c % 5 = 1 ∨ nxN bs c % 5 = 2 ∨ nxN bs c % 5 = 3 ∨ nxN bs c % 5 = 4 := by omega
 rcases hv with hv | hv | hv | hv | hv <;> rw [hv] at d1 <;> simp only [Int.cast_ofNat_Int, Int.natCast_zero, Int.natCast_one] at d1
 · have d2 := UO bs hb _ hc1
   rw [q2, Ul] at d2
   have hle := RL bs (xw bs 1 c)
   refine ⟨o ++ [(nxN bs (xw bs 1 c) : Int)], 2, by decide, by decide, iz hok (by omega), by simp, by simp, fun h => by simp at h, fun H cap => ?_⟩
   obtain ⟨o', c', cap', e1, e2, e3, e4, e⟩ := H none
   refine ⟨o', c', cap', e1, e2, e3, e4, ?_⟩
   unfold txR at e ⊢
   rw [show xg (o ++ [(nxN bs (xw bs 1 c) : Int)]) = xg o ++ [[.int .u8 (nxN bs (xw bs 1 c) : Int)]] by simp [xg], List.length_append, List.length_singleton] at e
   generalize nxN bs (xw bs 1 c) = x at *
   generalize xw bs 1 c = k1 at *
   generalize xw bs 2 c = k2 at *
   unfold cuR at *
   generalize o'.length = ol' at *
   generalize o.length = ol at *
   have hu : IntKind.u8.wrap (x : Int) = (x : Int) := IntWalk.u8_in _ (by omega)
   refine zj Tryz.func191 rfl rfl ?_
   simp (disch := ((try simp only [LL]); omega)) only [↓GO, ↓DRW, GA, GX, ren, zm, za, refs, z8, cst, zq, isC, bin, una, z6, zd, blt, asArg, zg, zc, zf, z1, E.mkS, unN, ze, zn, zb, GS, simprocAttr, GZ, c0, d1, d2, hol, conv, hu, zk, ya, zD, e]
 · have d2 := lI bs hb _ hc1 9 (by decide) (by decide)
   have d3 := lI bs hb _ hc2 4 (by decide) (by decide)
   rw [q2] at d2
   rw [q3] at d3
   simp only [Int.cast_ofNat_Int, Int.natCast_zero, Int.natCast_one] at d2 d3
   have h9 : nxN bs (xw bs 1 c) % 9 < 9 := Nat.mod_lt _ (by decide)
   have h4 : nxN bs (xw bs 2 c) % 4 < 4 := Nat.mod_lt _ (by decide)
   generalize nxN bs (xw bs 1 c) % 9 = K at *
   generalize nxN bs (xw bs 2 c) % 4 = y at *
   refine ⟨o ++ List.replicate K ((97 : Int) + (y : Int)), 3, by decide, by decide, fun b hb' => (List.mem_append.1 hb').elim (hok b) fun h => by rw [List.eq_of_mem_replicate h]; omega, by simp, by simp; omega, fun h => ⟨by
    simp at h; subst h; simp, .inl hv⟩, fun H cap => ?_⟩
   obtain ⟨cap1, L⟩ := R5 bs n (xw bs 3 c) ((97 : Int) + (y : Int)) K (by omega) K 0 o cap (by omega) (by omega)
   obtain ⟨o', c', cap', e1, e2, e3, e4, e⟩ := H cap1
   refine ⟨o', c', cap', e1, e2, e3, e4, ?_⟩
   unfold txR at e ⊢
   simp only [Int.natCast_zero] at L
   generalize o ++ List.replicate K ((97 : Int) + (y : Int)) = Z at *
   generalize xw bs 1 c = k1 at *
   generalize xw bs 2 c = k2 at *
   generalize xw bs 3 c = k3 at *
   unfold cuR at *
   generalize o'.length = ol' at *
   generalize o.length = ol at *
   generalize Z.length = zl at *
   have hu : IntKind.u8.wrap ((97 : Int) + (y : Int)) = (97 : Int) + (y : Int) := IntWalk.u8_in _ (by omega)
   refine zj Tryz.func191 rfl rfl ?_
   simp (disch := ((try simp only [LL]); omega)) only [↓GO, ↓DRW, GA, GX, ren, zm, za, refs, z8, cst, zq, isC, bin, una, z6, zd, blt, asArg, zg, zc, zf, z1, E.mkS, unN, ze, zn, zb, GS, simprocAttr, GZ, c0, d1, d2, d3, hol, conv, hu, zk, ya, zD, L, e]
 · by_cases hz : o.length = 0
   · obtain rfl : o = [] := List.eq_nil_of_length_eq_zero hz
     refine ⟨[], 1, by decide, by decide, hok, Nat.le_refl _, by simp, fun _ => ⟨rfl, .inr hv⟩, fun H cap => ?_⟩
     obtain ⟨o', c', cap', e1, e2, e3, e4, e⟩ := H cap
     refine ⟨o', c', cap', e1, e2, e3, e4, ?_⟩
     unfold txR at e ⊢
     generalize xw bs 1 c = k1 at *
     simp only [List.length_nil, Int.natCast_zero, show xg [] = [] from rfl] at c0 e ⊢
     unfold cuR at *
     generalize o'.length = ol' at *
     refine zj Tryz.func191 rfl rfl ?_
     simp (disch := ((try simp only [LL]); omega)) only [↓GO, ↓DRW, GA, GX, ren, zm, za, refs, z8, cst, zq, isC, bin, una, z6, zd, blt, asArg, zg, zc, zf, z1, E.mkS, unN, ze, zn, zb, GS, simprocAttr, GZ, c0, d1, zk, zD, e]
   · have cz : decide ((o.length : Int) > 0) = true := by apply decide_eq_true; omega
     have d2 := lI bs hb _ hc1 o.length (by omega) (by omega)
     have d3 := lI bs hb _ hc2 20 (by decide) (by decide)
     rw [q2] at d2
     rw [q3] at d3
     simp only [Int.cast_ofNat_Int, Int.natCast_zero, Int.natCast_one] at d3
     have h9 : nxN bs (xw bs 1 c) % o.length < o.length := Nat.mod_lt _ (by omega)
     have h4 : nxN bs (xw bs 2 c) % 20 < 20 := Nat.mod_lt _ (by decide)
     generalize nxN bs (xw bs 1 c) % o.length = fr at *
     generalize nxN bs (xw bs 2 c) % 20 = K at *
     have g1 := Zu fr K 0 o
     refine ⟨cpO fr K 0 o, 3, by decide, by decide, UL fr K 0 o hok, by omega, by omega, fun h => ⟨?_, .inr hv⟩, fun H cap => ?_⟩
     · obtain rfl : K = 0 := by omega
       rfl
     obtain ⟨cap1, L⟩ := R4 bs n (xw bs 3 c) fr K (by omega) K 0 o cap (by omega) (by omega) (by omega)
     generalize cpO fr K 0 o = o1 at *
     obtain ⟨o', c', cap', e1, e2, e3, e4, e⟩ := H cap1
     refine ⟨o', c', cap', e1, e2, e3, e4, ?_⟩
     unfold txR at e ⊢
     simp only [Int.natCast_zero] at L
     generalize xw bs 1 c = k1 at *
     generalize xw bs 2 c = k2 at *
     generalize xw bs 3 c = k3 at *
     unfold cuR at *
     generalize o'.length = ol' at *
     generalize o.length = ol at *
     generalize o1.length = zl at *
     refine zj Tryz.func191 rfl rfl ?_
     simp (disch := ((try simp only [LL]); omega)) only [↓GO, ↓DRW, GA, GX, ren, zm, za, refs, z8, cst, zq, isC, bin, una, z6, zd, blt, asArg, zg, zc, zf, z1, E.mkS, unN, ze, zn, zb, GS, simprocAttr, GZ, c0, cz, d1, d2, d3, hol, conv, zk, ya, zD, L, e]
 all_goals
  have d2 := lI bs hb _ hc1 26 (by decide) (by decide)
  rw [q2] at d2
  simp only [Int.cast_ofNat_Int, Int.natCast_zero, Int.natCast_one] at d2
  have h9 : nxN bs (xw bs 1 c) % 26 < 26 := Nat.mod_lt _ (by decide)
  generalize nxN bs (xw bs 1 c) % 26 = y at *
  refine ⟨o ++ [(97 : Int) + (y : Int)], 2, by decide, by decide, iz hok (by omega), by simp, by simp, fun h => by simp at h, fun H cap => ?_⟩
  obtain ⟨o', c', cap', e1, e2, e3, e4, e⟩ := H none
  refine ⟨o', c', cap', e1, e2, e3, e4, ?_⟩
  unfold txR at e ⊢
  rw [show xg (o ++ [(97 : Int) + (y : Int)]) = xg o ++ [[.int .u8 ((97 : Int) + (y : Int))]] by simp [xg], List.length_append, List.length_singleton] at e
  generalize xw bs 1 c = k1 at *
  generalize xw bs 2 c = k2 at *
  unfold cuR at *
  generalize o'.length = ol' at *
  generalize o.length = ol at *
  have hu : IntKind.u8.wrap ((97 : Int) + (y : Int)) = (97 : Int) + (y : Int) := IntWalk.u8_in _ (by omega)
  refine zj Tryz.func191 rfl rfl ?_
  simp (disch := ((try simp only [LL]); omega)) only [↓GO, ↓DRW, GA, GX, ren, zm, za, refs, z8, cst, zq, isC, bin, una, z6, zd, blt, asArg, zg, zc, zf, z1, E.mkS, unN, ze, zn, zb, GS, simprocAttr, GZ, c0, d1, d2, hol, conv, hu, zk, ya, zD, e]
def JR (bs : List Int) (c : Cs) : Prop := c = ql bs ∨ c = nxC bs (ql bs) ∨ c = nxC bs (nxC bs (ql bs))
theorem Td {bs : List Int} {c : Cs} (h : JR bs c) : ¬ (nxN bs c % 5 = 1 ∨ nxN bs c % 5 = 2) := by
 obtain ⟨h1, h2, h3⟩ := XJ bs
 rcases h with rfl | rfl | rfl
 · rw [h1]; decide
 · rw [h2]; decide
 · rw [h3]; decide
theorem Rv (bs : List Int) (hb : okB bs) (n : Nat) (hn : n ≤ 64) : ∀ (d : Nat) (o : List Int) (c : Cs), n - o.length ≤ d → okO o → cok bs c → o.length ≤ n + 32 → TxG bs n o c := by
 intro d
 induction d with
 | zero => exact fun o c hd hok hc h32 => U0 bs n o c hok hc (by omega) h32
 | succ d ihd =>
  intro o c hd hok hc h32
  by_cases hlt : o.length < n
  · have main : ∀ (m : Nat) (c : Cs), cok bs c → (xw bs m c = ql bs ∨ JR bs c) → TxG bs n o c := by
     intro m
     induction m using Nat.strongRecOn with
     | _ m ih =>
      intro c hc hm
      obtain ⟨o1, j, j1, j3, k1, k2, k3, k4, k5⟩ := Ti bs hb n hn o c hok hc hlt
      refine k5 ?_
      by_cases hg : o1.length = o.length
      · obtain ⟨rfl, hx⟩ := k4 hg
        have hnz : ¬ JR bs c := fun hz => Td hz hx
        have hm' := hm.resolve_right hnz
        have hm0 : m ≠ 0 := fun e => hnz (.inl (by subst e; exact hm'))
        by_cases hjm : j ≤ m
        · refine ih (m - j) (by omega) _ (lH bs j c hc) (.inl ?_)
          rw [← sx, show j + (m - j) = m by omega]; exact hm'
        · refine ih 0 (by omega) _ (lH bs j c hc) (.inr ?_)
          have e : xw bs j c = xw bs (j - m) (ql bs) := by rw [← hm', ← sx]; congr 1; omega
          rw [e]
          have hj : j - m = 1 ∨ j - m = 2 := by omega
          rcases hj with h | h <;> rw [h]
          · exact .inr (.inl rfl)
          · exact .inr (.inr rfl)
      · exact ihd o1 _ (by omega) k1 (lH bs j c hc) (by omega)
    obtain ⟨m, hm⟩ := dY bs c hc
    exact main m c hc (.inl hm)
  · exact U0 bs n o c hok hc (by omega) h32
theorem UP : ∀ o : List Int, bytesOf (xg o) = some o
 | [] => rfl
 | x :: o => by
  rw [show xg (x :: o) = [.int .u8 x] :: xg o from rfl]
  simp only [bytesOf, UP o]
theorem Yn (o : List Int) (n : Nat) : (xg o).take n = xg (o.take n) := by simp [xg]
theorem Q1 (bs : List Int) (hb : okB bs) (c : Cs) (hc : cok bs c) (n : Nat) (hn : n ≤ 64) : ∃ (s : Str) (c' : Cs), s.length = n ∧ cok bs c' ∧ EV Tryz.prog pol (.callO false 191 [.ptr 0 0 0, .t (.int .i64 (n : Int))] [cuR bs c]) = some (.call (.t (.str s)) [cuR bs c']) := by
 obtain ⟨o', c', cap', e1, e2, e3, e4, e⟩ := Rv bs hb n hn n [] c (by simp) (fun b hb => by simp at hb) hc (by simp) (some 0)
 refine ⟨(o'.take n).map fun b => UInt8.ofNat b.toNat, c', by simp; omega, e4, ?_⟩
 have c1 : (0 : Int) ≤ (n : Int) ∧ (n : Int) ≤ (o'.length : Int) := ⟨by omega, by omega⟩
 have hel := wm o'
 have ht := Yn o' n
 have hy := UP (o'.take n)
 unfold txR at e
 simp only [List.length_nil, show xg [] = [] from rfl] at e
 generalize o'.take n = Z at *
 unfold cuR at *
 generalize o'.length = ol at *
 refine zJ Tryz.func191 rfl (by kernel_rfl) ?_
 unfold Tryz.f191
 simp (disch := ((try simp only [LL]); omega)) only [↓GO, ↓DRW, GA, GX, ren, zm, za, refs, z8, cst, zq, isC, bin, una, z6, zd, blt, asArg, zg, zc, zf, z1, E.mkS, unN, ze, zn, zb, GS, simprocAttr, GZ, e, conv, v8, ht, hy, c1, Int.toNat_natCast, List.drop_zero, Nat.sub_zero, zD]
end Go.Proofs.YtonbkdklidfmfaaGreatDoor
/- Digits and quotes, by both. Conditions: those of each lemma. -/
namespace Go.Proofs.YtonbkdklidfmfaaGreatDoor
open E
set_option linter.unusedSimpArgs false
set_option linter.unusedVariables false
set_option maxRecDepth 100000
theorem zQ {α : Type} {b : Bool} {x y r : Option α} (h : b = true) (hx : x = r) : (if b = true then x else y) = r := by rw [h]; exact hx
end Go.Proofs.YtonbkdklidfmfaaGreatDoor
/- The text of a version, and back, by both. Conditions: those of each lemma. -/
namespace Go.Proofs.YtonbkdklidfmfaaGreatDoor
open E
set_option linter.unusedSimpArgs false
set_option linter.unusedVariables false
set_option maxRecDepth 100000
theorem dX (c : Str) (x : Str) : ∀ pre : List Str, wU c (pre ++ [x]) = cond (pre == []) ((c ++ [45]) ++ x) ((wU c pre ++ [46]) ++ x)
 | [] => by simp [wU, Lib.join_one]
 | y :: l => by
  unfold wU
  rw [mm]
  simp
theorem kf (c : Str) (l : List Str) : (wU c l).length ≤ c.length + yl l + l.length + 1 := by
 have h := join_le [46] l
 unfold wU
 cases l with
 | nil => simp only [show (([] : List Str) == []) = true from rfl, cond_true]; omega
 | cons x r =>
  simp only [beq_nil_cons, cond_false, List.length_append, List.length_cons, List.length_nil] at h ⊢
  omega
theorem dy {v : Ver} (h : yR v = true) : (tZ v).length ≤ 29 := by
 obtain ⟨h1, h2, h3, _, _⟩ := sL h
 have a := wM v.maj h1.1 h1.2
 have b := wM v.min h2.1 h2.2
 have c := wM v.pat h3.1 h3.2
 unfold tZ
 simp only [List.length_append, List.length_cons, List.length_nil]
 omega
theorem pg (v : Ver) (hs : v.sm) : zo (EV Tryz.prog pol) 187 [.agg (v.enc.map .t)] = some (.t (.str (yd v))) := by
 have h1 := Q0 v hs
 unfold Ver.sm at hs
 unfold yd
 cases ho : yR v with
 | false =>
  rw [ho] at h1
  simp only [Ver.enc, List.map_cons, List.map_nil] at h1 ⊢
  apply zw
  refine zy rfl Tryz.func187 rfl (by kernel_rfl) ?_
  unfold Tryz.f187
  simp (disch := ((try simp only [LL]); omega)) only [↓GO, ↓DRW, GA, GX, ren, zm, za, refs, z8, cst, zq, isC, bin, una, z6, zd, blt, asArg, zg, zc, zf, z1, E.mkS, unN, ze, zn, zb, GS, simprocAttr, GZ, h1]
 | true =>
  obtain ⟨q1, q2, q3, _, _⟩ := sL ho
  have a := wM v.maj q1.1 q1.2
  have b := wM v.min q2.1 q2.2
  have c := wM v.pat q3.1 q3.2
  have d1 := gi v.maj q1.1 q1.2
  have d2 := gi v.min q2.1 q2.2
  have d3 := gi v.pat q3.1 q3.2
  have hj := join_le [46] v.pre
  simp only [List.length_cons, List.length_nil] at hj
  have h2 := Qc v.pre [46] (by omega) (by omega)
  have hg := bL v.pre
  rw [ho] at h1
  unfold wU tZ
  simp only [Ver.enc, List.map_cons, List.map_nil] at h1 ⊢
  cases hp : (v.pre == []) <;> rw [hp] at hg <;> simp only [Bool.not_true, Bool.not_false] at hg
  · apply zw
    refine zy rfl Tryz.func187 rfl (by kernel_rfl) ?_
    unfold Tryz.f187
    simp (disch := ((try simp only [LL]); omega)) only [↓GO, ↓DRW, GA, GX, ren, zm, za, refs, z8, cst, zq, isC, bin, una, z6, zd, blt, asArg, zg, zc, zf, z1, E.mkS, unN, ze, zn, zb, GS, simprocAttr, GZ, h1, d1, d2, d3, h2, hg, ya, zi, List.append_assoc]
  · apply zw
    refine zy rfl Tryz.func187 rfl (by kernel_rfl) ?_
    unfold Tryz.f187
    simp (disch := ((try simp only [LL]); omega)) only [↓GO, ↓DRW, GA, GX, ren, zm, za, refs, z8, cst, zq, isC, bin, una, z6, zd, blt, asArg, zg, zc, zf, z1, E.mkS, unN, ze, zn, zb, GS, simprocAttr, GZ, h1, d1, d2, d3, h2, hg, ya, zi, List.append_assoc]
theorem R3 (v : Ver) (hs : v.sm) (c : Str) (hc : c.length ≤ 40) : ∀ (rest pre : List Str), v.pre = pre ++ rest →
 EV Tryz.prog pol (.loop 135 122 0 [.ptr 0 0 0, .t (.str (wU c pre)), .t (.int .i64 (pre.length : Int))] [.vs 4 [v.enc.map .t]])
 = some (.loop (.exit 0) [.t (.str (wU c v.pre))] [])
 | [], pre, hp => by
  have c : decide ((pre.length : Int) < (v.pre.length : Int)) = false := by simp [hp]
  have e : v.pre = pre := by simpa using hp
  refine zj Tryz.func135 rfl rfl ?_
  simp only [↓GO, ↓DRW, GA, GX, ren, zm, za, refs, z8, cst, zq, isC, bin, una, z6, zd, blt, asArg, zg, zc, zf, z1, E.mkS, unN, ze, zn, zb, GS, simprocAttr, zi, c, Ver.enc, zD]
  rw [e]
 | x :: rest, pre, hp => by
  unfold Ver.sm at hs
  have c2 : decide ((pre.length : Int) < (v.pre.length : Int)) = true := by simp [hp]; omega
  have hget : (strs v.pre)[pre.length]? = some [.str x] := by rw [hp]; exact xl pre x rest
  have hlen : pre.length + rest.length + 1 ≤ v.pre.length := by rw [hp]; simp; omega
  have hbk : yl pre + x.length ≤ yl v.pre := by rw [hp, lg]; simp only [yl]; omega
  have ht := kf c pre
  have IH := R3 v hs c hc rest (pre ++ [x]) (by rw [hp]; simp)
  rw [show ((pre ++ [x]).length : Int) = (pre.length : Int) + 1 by simp, dX] at IH
  have he := nC pre
  have e0 : (pre == []) = true → wU c pre = c := fun h => by unfold wU; rw [h]; rfl
  clear hp
  simp only [Ver.enc, List.map_cons, List.map_nil] at IH ⊢
  cases h0 : (pre == []) <;> rw [h0] at he IH <;> simp only [cond_true, cond_false] at IH
  · refine zj Tryz.func135 rfl rfl ?_
    simp (disch := ((try simp only [LL]); omega)) only [↓GO, ↓DRW, GA, GX, ren, zm, za, refs, z8, cst, zq, isC, bin, una, z6, zd, blt, asArg, zg, zc, zf, z1, E.mkS, unN, ze, zn, zb, GS, simprocAttr, GZ, c2, hget, zk, he, zi, IH, zD, ya]
  · have e1 := e0 h0
    rw [e1]
    refine zj Tryz.func135 rfl rfl ?_
    simp (disch := ((try simp only [LL]); omega)) only [↓GO, ↓DRW, GA, GX, ren, zm, za, refs, z8, cst, zq, isC, bin, una, z6, zd, blt, asArg, zg, zc, zf, z1, E.mkS, unN, ze, zn, zb, GS, simprocAttr, GZ, c2, hget, zk, he, zi, IH, zD, ya]
theorem lf (v : Ver) (hs : v.sm) : zo (EV Tryz.prog pol) 135 [.agg (v.enc.map .t)] = some (.t (.str (yd v))) := by
 have h1 := bT v hs
 unfold yd
 cases ho : yR v with
 | false =>
  rw [ho] at h1
  simp only [Ver.enc, List.map_cons, List.map_nil] at h1 ⊢
  apply zw
  refine zy rfl Tryz.func135 rfl (by kernel_rfl) ?_
  unfold Tryz.f135
  simp (disch := ((try simp only [LL]); omega)) only [↓GO, ↓DRW, GA, GX, ren, zm, za, refs, z8, cst, zq, isC, bin, una, z6, zd, blt, asArg, zg, zc, zf, z1, E.mkS, unN, ze, zn, zb, GS, simprocAttr, GZ, h1]
 | true =>
  obtain ⟨q1, q2, q3, _, _⟩ := sL ho
  have a := wM v.maj q1.1 q1.2
  have b := wM v.min q2.1 q2.2
  have c := wM v.pat q3.1 q3.2
  have d1 := gg v.maj q1.1 q1.2
  have d2 := gg v.min q2.1 q2.2
  have d3 := gg v.pat q3.1 q3.2
  have hc := dy ho
  have h2 := R3 v hs (tZ v) (by omega) v.pre [] rfl
  rw [ho] at h1
  rw [show wU (tZ v) [] = tZ v from rfl] at h2
  simp only [List.length_nil, Int.natCast_zero] at h2
  simp only [cond_true]
  generalize wU (tZ v) v.pre = tt at *
  unfold tZ at h2
  simp only [Ver.enc, List.map_cons, List.map_nil] at h1 h2 ⊢
  apply zw
  refine zy rfl Tryz.func135 rfl (by kernel_rfl) ?_
  unfold Tryz.f135
  simp (disch := ((try simp only [LL]); omega)) only [↓GO, ↓DRW, GA, GX, ren, zm, za, refs, z8, cst, zq, isC, bin, una, z6, zd, blt, asArg, zg, zc, zf, z1, E.mkS, unN, ze, zn, zb, GS, simprocAttr, GZ, h1, d1, d2, d3, h2, ya, zD]
theorem ml {s : Str} (h : (yS 46 (yc 45 s).1).length ≠ 3) : vj s = none := by
 unfold vj
 split
 · rename_i a b c he; rw [he] at h; exact absurd rfl h
 · rfl
theorem mW {s : Str} {v : Ver} (h : vj s = some v) (hl : s.length ≤ 1048700) : v.sm ∧ v.maj ≤ 999999999 ∧ -1 ≤ v.maj ∧ v.min ≤ 999999999 ∧ -1 ≤ v.min ∧ v.pat ≤ 999999999 ∧ -1 ≤ v.pat := by
 unfold vj at h
 split at h
 · rename_i a b c he
   cases h
   have h1 := sb a
   have h2 := sb b
   have h3 := sb c
   refine ⟨?_, h1.2, h1.1, h2.2, h2.1, h3.2, h3.1⟩
   have := vc 46 (yc 45 s).2.1
   have h5 := (pd 45 s).2
   unfold Ver.sm
   cases (yc 45 s).2.2 with
   | true => simp only [cond_true]; omega
   | false => simp [yl]
 · cases h
theorem nW (s : Str) (hl : s.length ≤ 1048700) : (zT s).1.sm ∧ (zT s).1.maj ≤ 999999999 ∧ -1 ≤ (zT s).1.maj ∧ (zT s).1.min ≤ 999999999 ∧ -1 ≤ (zT s).1.min ∧ (zT s).1.pat ≤ 999999999 ∧ -1 ≤ (zT s).1.pat := by
 unfold zT
 cases hm : vj s with
 | none => simp [Ver.zero, Ver.sm, yl]
 | some v =>
  have := mW hm hl
  simp only
  cases (yd v == s) with
  | true => exact this
  | false => simp [Ver.zero, Ver.sm, yl]
def rvT (s : Str) : V := .tup [.agg ((zT s).1.enc.map .t), .t (.bool (zT s).2)]
theorem c_rvI (s : Str) (hl : s.length ≤ 1048700) : zo (EV Tryz.prog pol) 158 [.t (.str s)] = some (rvT s) := by
 have h1 := c_cut s [45] (by omega)
 rw [dq] at h1
 have hl1 := pd 45 s
 have h2 := iT (yc 45 s).1 [46] (by omega) (by simp)
 have h3 := iT (yc 45 s).2.1 [46] (by omega) (by simp)
 rw [nP] at h2 h3
 unfold rvT zT
 by_cases hn : (yS 46 (yc 45 s).1).length = 3
 · obtain ⟨a, b, c, hp⟩ : ∃ a b c, yS 46 (yc 45 s).1 = [a, b, c] := by
    match hq : yS 46 (yc 45 s).1, hn with
    | [a, b, c], _ => exact ⟨a, b, c, rfl⟩
   have hm : vj s = some ⟨zO a, zO b, zO c, cond (yc 45 s).2.2 (yS 46 (yc 45 s).2.1) []⟩ := by unfold vj; rw [hp]
   have hne := ey hm
   have hsm := (mW hm hl).1
   have hbk := vc 46 (yc 45 s).1
   rw [hp] at h2 hbk
   simp only [yl] at hbk
   have d1 := ZT a (by omega)
   have d2 := ZT b (by omega)
   have d3 := ZT c (by omega)
   have hv := pg _ hsm
   rw [hm]
   have hs0 : (s == []) = false := by rw [beq_eq_false_iff_ne]; exact hne
   simp only [Ver.enc, List.map_cons, List.map_nil, vM, yh] at hv h2 ⊢
   generalize zO a = ra at *
   generalize zO b = rb at *
   generalize zO c = rc at *
   cases hh : (yc 45 s).2.2 <;> rw [hh] at h1 hv <;> simp only [cond_true, cond_false, yh] at hv ⊢
   · generalize yd ⟨ra, rb, rc, []⟩ = tt at *
     clear hm hsm
     cases he : (tt == s)
     · apply zw
       refine zy rfl Tryz.func158 rfl (by kernel_rfl) ?_
       unfold Tryz.f158
       simp (disch := ((try simp only [LL]); omega)) only [↓GO, ↓DRW, GA, GX, ren, zm, za, refs, z8, cst, zq, isC, bin, una, z6, zd, blt, asArg, zg, zc, zf, z1, E.mkS, unN, ze, zn, zb, GS, simprocAttr, GZ, h1, h2, d1, d2, d3, hv, he, bne, hs0, Ver.zero, yh]
       refine zQ (by kernel_rfl) ?_
       simp (disch := ((try simp only [LL]); omega)) only [↓GO, ↓DRW, GA, GX, ren, zm, za, refs, z8, cst, zq, isC, bin, una, z6, zd, blt, asArg, zg, zc, zf, z1, E.mkS, unN, ze, zn, zb, GS, simprocAttr, GZ, h1, h2, d1, d2, d3, hv, he, bne, hs0, Ver.zero, yh]
     · apply zw
       refine zy rfl Tryz.func158 rfl (by kernel_rfl) ?_
       unfold Tryz.f158
       simp (disch := ((try simp only [LL]); omega)) only [↓GO, ↓DRW, GA, GX, ren, zm, za, refs, z8, cst, zq, isC, bin, una, z6, zd, blt, asArg, zg, zc, zf, z1, E.mkS, unN, ze, zn, zb, GS, simprocAttr, GZ, h1, h2, d1, d2, d3, hv, he, bne, hs0, yh]
       refine zQ (by kernel_rfl) ?_
       simp (disch := ((try simp only [LL]); omega)) only [↓GO, ↓DRW, GA, GX, ren, zm, za, refs, z8, cst, zq, isC, bin, una, z6, zd, blt, asArg, zg, zc, zf, z1, E.mkS, unN, ze, zn, zb, GS, simprocAttr, GZ, h1, h2, d1, d2, d3, hv, he, bne, hs0, yh]
   · generalize yd ⟨ra, rb, rc, yS 46 (yc 45 s).2.1⟩ = tt at *
     clear hm hsm
     generalize yS 46 (yc 45 s).2.1 = pp at *
     cases he : (tt == s)
     · apply zw
       refine zy rfl Tryz.func158 rfl (by kernel_rfl) ?_
       unfold Tryz.f158
       simp (disch := ((try simp only [LL]); omega)) only [↓GO, ↓DRW, GA, GX, ren, zm, za, refs, z8, cst, zq, isC, bin, una, z6, zd, blt, asArg, zg, zc, zf, z1, E.mkS, unN, ze, zn, zb, GS, simprocAttr, GZ, h1, h2, h3, d1, d2, d3, hv, he, bne, hs0, Ver.zero, yh]
       refine zQ (by kernel_rfl) ?_
       simp (disch := ((try simp only [LL]); omega)) only [↓GO, ↓DRW, GA, GX, ren, zm, za, refs, z8, cst, zq, isC, bin, una, z6, zd, blt, asArg, zg, zc, zf, z1, E.mkS, unN, ze, zn, zb, GS, simprocAttr, GZ, h1, h2, h3, d1, d2, d3, hv, he, bne, hs0, Ver.zero, yh]
     · apply zw
       refine zy rfl Tryz.func158 rfl (by kernel_rfl) ?_
       unfold Tryz.f158
       simp (disch := ((try simp only [LL]); omega)) only [↓GO, ↓DRW, GA, GX, ren, zm, za, refs, z8, cst, zq, isC, bin, una, z6, zd, blt, asArg, zg, zc, zf, z1, E.mkS, unN, ze, zn, zb, GS, simprocAttr, GZ, h1, h2, h3, d1, d2, d3, hv, he, bne, hs0, yh]
       refine zQ (by kernel_rfl) ?_
       simp (disch := ((try simp only [LL]); omega)) only [↓GO, ↓DRW, GA, GX, ren, zm, za, refs, z8, cst, zq, isC, bin, una, z6, zd, blt, asArg, zg, zc, zf, z1, E.mkS, unN, ze, zn, zb, GS, simprocAttr, GZ, h1, h2, h3, d1, d2, d3, hv, he, bne, hs0, yh]
 · have hm := ml hn
   rw [hm]
   have hc : (((yS 46 (yc 45 s).1).length : Int) == 3) = false := by rw [beq_eq_false_iff_ne]; omega
   generalize yS 46 (yc 45 s).1 = parts at *
   apply zw
   refine zy rfl Tryz.func158 rfl (by kernel_rfl) ?_
   unfold Tryz.f158
   simp (disch := ((try simp only [LL]); omega)) only [↓GO, ↓DRW, GA, GX, ren, zm, za, refs, z8, cst, zq, isC, bin, una, z6, zd, blt, asArg, zg, zc, zf, z1, E.mkS, unN, ze, zn, zb, GS, simprocAttr, GZ, h1, h2, hc, bne, zi, Ver.zero, Ver.enc, yh]
theorem l_at (s : Str) (b : UInt8) (hl : s.length ≤ 4194304) : ∀ (rest pre : Str), s = pre ++ rest →
 EV Tryz.prog pol (.loop 194 26 0 [.t (.str s), .t (.int .u8 (b.toNat : Int)), .t (.int .i64 (pre.length : Int))] []) = some (cond (yc b rest).2.2 (.loop .ret [.t (.int .i64 ((pre.length : Int) + ((yc b rest).1.length : Int)))] []) (.loop (.exit 0) [.bad] []))
 | [], pre, hs => by
  have c : decide ((pre.length : Int) < (s.length : Int)) = false := by simp [hs]
  refine zj Tryz.func194 rfl rfl ?_
  simp only [↓GO, ↓DRW, GA, GX, ren, zm, za, refs, z8, cst, zq, isC, bin, una, z6, zd, blt, asArg, zg, zc, zf, z1, E.mkS, unN, ze, zn, zb, GS, simprocAttr, c, yc]
 | x :: rest, pre, hs => by
  have c : decide ((pre.length : Int) < (s.length : Int)) = true := by simp [hs]; omega
  have hget : s[pre.length]? = some x := by rw [hs]; exact tN pre x rest
  have hlen : s.length = pre.length + rest.length + 1 := by rw [hs]; simp; omega
  have IH := l_at s b hl rest (pre ++ [x]) (by rw [hs]; simp)
  rw [show ((pre ++ [x]).length : Int) = (pre.length : Int) + 1 by simp] at IH
  rw [yc]
  clear hs
  by_cases hx : x = b
  · subst hx
    rw [if_pos rfl]
    refine zj Tryz.func194 rfl rfl ?_
    simp (disch := ((try simp only [LL]); omega)) only [↓GO, ↓DRW, GA, GX, ren, zm, za, refs, z8, cst, zq, isC, bin, una, z6, zd, blt, asArg, zg, zc, zf, z1, E.mkS, unN, ze, zn, zb, GS, simprocAttr, GZ, c, hget, zk, Int.natCast_zero, Int.add_zero]
  · have c2 : ((x.toNat : Int) == (b.toNat : Int)) = false := by
     rw [beq_eq_false_iff_ne]; intro e; exact hx (UInt8.toNat_inj.1 (by omega))
    rw [if_neg hx]
    rw [show (((x :: (yc b rest).1).length : Nat) : Int) = ((yc b rest).1.length : Int) + 1 by simp, show (pre.length : Int) + (((yc b rest).1.length : Int) + 1) = (pre.length : Int) + 1 + ((yc b rest).1.length : Int) by omega]
    refine zj Tryz.func194 rfl rfl ?_
    simp (disch := ((try simp only [LL]); omega)) only [↓GO, ↓DRW, GA, GX, ren, zm, za, refs, z8, cst, zq, isC, bin, una, z6, zd, blt, asArg, zg, zc, zf, z1, E.mkS, unN, ze, zn, zb, GS, simprocAttr, GZ, c, hget, zk, c2, IH]
def atV (b : UInt8) (s : Str) : Int := cond (yc b s).2.2 ((yc b s).1.length : Int) (-1)
theorem c_at (s : Str) (b : UInt8) (hl : s.length ≤ 4194304) : zo (EV Tryz.prog pol) 194 [.t (.str s), .t (.int .u8 (b.toNat : Int))] = some (.t (.int .i64 (atV b s))) := by
 have IH := l_at s b hl s [] rfl
 simp only [List.length_nil, Int.natCast_zero, Int.zero_add] at IH
 unfold atV
 apply zw
 refine zy rfl Tryz.func194 rfl (by kernel_rfl) ?_
 unfold Tryz.f194
 cases h : (yc b s).2.2 <;> rw [h] at IH <;> simp only [cond_true, cond_false] at IH <;> simp (disch := ((try simp only [LL]); omega)) only [↓GO, ↓DRW, GA, GX, ren, zm, za, refs, z8, cst, zq, isC, bin, una, z6, zd, blt, asArg, zg, zc, zf, z1, E.mkS, unN, ze, zn, zb, GS, simprocAttr, GZ, IH]
theorem Rm (s : Str) (hl : s.length ≤ 1048700) : zo (EV Tryz.prog pol) 180 [.t (.str s)] = some (rvT s) := by
 have h1 := c_at s 45 (by omega)
 rw [show (((45 : UInt8)).toNat : Int) = 45 from rfl] at h1
 have hl1 := pd 45 s
 have h2 := bU (yc 45 s).1 46 (by omega)
 have h3 := bU (yc 45 s).2.1 46 (by omega)
 rw [show (((46 : UInt8)).toNat : Int) = 46 from rfl] at h2 h3
 have hce := nz 45 s
 unfold rvT zT
 unfold atV at h1
 have hA : (yc 45 s).2.2 = false → (yc 45 s).1 = s := fun h => by rw [h, cond_false, List.append_nil] at hce; exact hce.symm
 have hB : (yc 45 s).2.2 = true → s.take (yc 45 s).1.length = (yc 45 s).1 ∧ s.drop ((yc 45 s).1.length + 1) = (yc 45 s).2.1 ∧ (yc 45 s).1.length + 1 ≤ s.length := fun h => by
  rw [h, cond_true] at hce
  have e1 : s.take (yc 45 s).1.length = (yc 45 s).1 := by
   conv => lhs; arg 2; rw [hce]
   exact List.take_left
  have e2 : s.drop ((yc 45 s).1.length + 1) = (yc 45 s).2.1 := by
   conv => lhs; arg 2; rw [hce]
   rw [← List.drop_drop, List.drop_left]; rfl
  refine ⟨e1, e2, ?_⟩
  have := congrArg List.length hce
  rw [List.length_append, List.length_cons] at this
  omega
 clear hce
 by_cases hn : (yS 46 (yc 45 s).1).length = 3
 · obtain ⟨a, b, c, hp⟩ : ∃ a b c, yS 46 (yc 45 s).1 = [a, b, c] := by
    match hq : yS 46 (yc 45 s).1, hn with
    | [a, b, c], _ => exact ⟨a, b, c, rfl⟩
   have hm : vj s = some ⟨zO a, zO b, zO c, cond (yc 45 s).2.2 (yS 46 (yc 45 s).2.1) []⟩ := by unfold vj; rw [hp]
   have hsm := (mW hm hl).1
   have hbk := vc 46 (yc 45 s).1
   rw [hp] at h2 hbk
   simp only [yl] at hbk
   have d1 := iq a (by omega)
   have d2 := iq b (by omega)
   have d3 := iq c (by omega)
   have hv := lf _ hsm
   rw [hm]
   simp only [Ver.enc, List.map_cons, List.map_nil, vM, yh] at hv h2 ⊢
   generalize zO a = ra at *
   generalize zO b = rb at *
   generalize zO c = rc at *
   cases hh : (yc 45 s).2.2 <;> rw [hh] at h1 hv <;> simp only [cond_true, cond_false, yh] at hv h1 ⊢
   · have hA' := hA hh
     rw [hA'] at h2
     generalize yd ⟨ra, rb, rc, []⟩ = tt at *
     clear hm hsm hA hB hp
     cases he : (tt == s)
     · apply zw
       refine zy rfl Tryz.func180 rfl (by kernel_rfl) ?_
       unfold Tryz.f180
       simp (disch := ((try simp only [LL]); omega)) only [↓GO, ↓DRW, GA, GX, ren, zm, za, refs, z8, cst, zq, isC, bin, una, z6, zd, blt, asArg, zg, zc, zf, z1, E.mkS, unN, ze, zn, zb, GS, simprocAttr, GZ, h1, h2, d1, d2, d3, hv, he, bne, ge_iff_le, Ver.zero, yh]
     · apply zw
       refine zy rfl Tryz.func180 rfl (by kernel_rfl) ?_
       unfold Tryz.f180
       simp (disch := ((try simp only [LL]); omega)) only [↓GO, ↓DRW, GA, GX, ren, zm, za, refs, z8, cst, zq, isC, bin, una, z6, zd, blt, asArg, zg, zc, zf, z1, E.mkS, unN, ze, zn, zb, GS, simprocAttr, GZ, h1, h2, d1, d2, d3, hv, he, bne, ge_iff_le, yh]
   · obtain ⟨b1, b2, b3⟩ := hB hh
     generalize yd ⟨ra, rb, rc, yS 46 (yc 45 s).2.1⟩ = tt at *
     clear hm hsm hA hB hp
     generalize yS 46 (yc 45 s).2.1 = pp at *
     have g0 : decide ((0 : Int) ≤ ((yc 45 s).1.length : Int)) = true := by simp
     generalize (yc 45 s).2.1 = tl at *
     generalize (yc 45 s).1 = hd at *
     cases he : (tt == s)
     · apply zw
       refine zy rfl Tryz.func180 rfl (by kernel_rfl) ?_
       unfold Tryz.f180
       simp (disch := ((try simp only [LL]); omega)) only [↓GO, ↓DRW, GA, GX, ren, zm, za, refs, z8, cst, zq, isC, bin, una, z6, zd, blt, asArg, zg, zc, zf, z1, E.mkS, unN, ze, zn, zb, GS, simprocAttr, GZ, h1, h2, h3, d1, d2, d3, hv, he, bne, ge_iff_le, g0, b1, b2, zk, Ver.zero, yh]
     · apply zw
       refine zy rfl Tryz.func180 rfl (by kernel_rfl) ?_
       unfold Tryz.f180
       simp (disch := ((try simp only [LL]); omega)) only [↓GO, ↓DRW, GA, GX, ren, zm, za, refs, z8, cst, zq, isC, bin, una, z6, zd, blt, asArg, zg, zc, zf, z1, E.mkS, unN, ze, zn, zb, GS, simprocAttr, GZ, h1, h2, h3, d1, d2, d3, hv, he, bne, ge_iff_le, g0, b1, b2, zk]
 · have hm := ml hn
   rw [hm]
   have hc : (((yS 46 (yc 45 s).1).length : Int) == 3) = false := by rw [beq_eq_false_iff_ne]; omega
   cases hh : (yc 45 s).2.2 <;> rw [hh] at h1 <;> simp only [cond_true, cond_false] at h1
   · have hA' := hA hh
     rw [hA'] at h2 hc
     generalize yS 46 s = parts at *
     apply zw
     refine zy rfl Tryz.func180 rfl (by kernel_rfl) ?_
     unfold Tryz.f180
     simp (disch := ((try simp only [LL]); omega)) only [↓GO, ↓DRW, GA, GX, ren, zm, za, refs, z8, cst, zq, isC, bin, una, z6, zd, blt, asArg, zg, zc, zf, z1, E.mkS, unN, ze, zn, zb, GS, simprocAttr, GZ, h1, h2, hc, bne, ge_iff_le, zi, Ver.zero, Ver.enc, yh]
   · obtain ⟨b1, b2, b3⟩ := hB hh
     have g0 : decide ((0 : Int) ≤ ((yc 45 s).1.length : Int)) = true := by simp
     generalize yS 46 (yc 45 s).1 = parts at *
     generalize yS 46 (yc 45 s).2.1 = pp at *
     generalize (yc 45 s).2.1 = tl at *
     generalize (yc 45 s).1 = hd at *
     apply zw
     refine zy rfl Tryz.func180 rfl (by kernel_rfl) ?_
     unfold Tryz.f180
     simp (disch := ((try simp only [LL]); omega)) only [↓GO, ↓DRW, GA, GX, ren, zm, za, refs, z8, cst, zq, isC, bin, una, z6, zd, blt, asArg, zg, zc, zf, z1, E.mkS, unN, ze, zn, zb, GS, simprocAttr, GZ, h1, h2, h3, hc, bne, ge_iff_le, g0, b1, b2, zk, zi, Ver.zero, Ver.enc, yh]
end Go.Proofs.YtonbkdklidfmfaaGreatDoor
/- Drawn versions. Conditions: those of each lemma. -/
namespace Go.Proofs.YtonbkdklidfmfaaGreatDoor
open E
set_option linter.unusedSimpArgs false
set_option linter.unusedVariables false
set_option maxRecDepth 100000
def smV (v : Ver) : Prop := v.pre.length ≤ 6 ∧ ∀ s ∈ v.pre, s.length ≤ 32
def VerR (bs : List Int) (c : Cs) (v : Ver) (c' : Cs) : Prop :=
 (v.pre = [] ∧ EV Tryz.prog pol (.callO false 136 [.ptr 0 0 0] [cuR bs c]) = some (.call (.agg [.t (.int .i64 v.maj), .t (.int .i64 v.min), .t (.int .i64 v.pat), .nil 1]) [cuR bs c'])) ∨
 ∃ cap, EV Tryz.prog pol (.callO false 136 [.ptr 0 0 0] [cuR bs c]) = some (.call (.agg [.t (.int .i64 v.maj), .t (.int .i64 v.min), .t (.int .i64 v.pat), .sl 1 0 v.pre.length cap]) [cuR bs c', .ts 1 (strs v.pre)])
set_option maxHeartbeats 16000000 in
theorem c_ver (bs : List Int) (hb : okB bs) (c : Cs) (hc : cok bs c) : ∃ (v : Ver) (c' : Cs), smV v ∧ cok bs c' ∧ VerR bs c v c' := by
 obtain ⟨a1, c1, _, h1, d1⟩ := rk bs hb c hc [0, 1, 1, 2, 10] 5 rfl (by decide) (by decide) (some 5)
 obtain ⟨a2, c2, _, h2, d2⟩ := rk bs hb c1 h1 [0, 0, 1, 2, 12] 5 rfl (by decide) (by decide) (some 5)
 obtain ⟨a3, c3, _, h3, d3⟩ := rk bs hb c2 h2 [0, 0, 1, 3, 9] 5 rfl (by decide) (by decide) (some 5)
 obtain ⟨b1, c4, h4, d4⟩ := vC bs hb c3 h3 4 (by decide) (by decide)
 simp only [pE, List.map_cons, List.map_nil, Int.cast_ofNat_Int] at d1 d2 d3 d4
 cases b1 with
 | false =>
  obtain ⟨k, y1, hk, hy1, e1⟩ := rA bs hb c4 h4 24 (by decide) (by decide)
  simp only [Int.cast_ofNat_Int] at e1
  have hkc : k = 0 ∨ k = 1 ∨ k = 2 ∨ 3 ≤ k := by omega
  rcases hkc with rfl | rfl | rfl | hk3
  · obtain ⟨a, y2, _, hy2, e2⟩ := rk bs hb y1 hy1 [-1, 999999999, 1000000000] 3 rfl (by decide) (by decide) (some 3)
    simp only [pE, List.map_cons, List.map_nil, Int.natCast_zero, Int.natCast_one] at e1 e2
    refine ⟨⟨a1, a, a3, []⟩, y2, ⟨by simp, fun s hs => ?_⟩, hy2, ?_⟩
    · simp only [List.mem_cons, List.not_mem_nil, or_false] at hs
    refine .inl ⟨rfl, ?_⟩
    clear hb h1 h2 h3
    unfold cuR at *
    refine zJ Tryz.func136 rfl (by kernel_rfl) ?_
    unfold Tryz.f136
    simp (disch := ((try simp only [LL]); omega)) only [↓GO, ↓DRW, GA, GX, ren, zm, za, refs, z8, cst, zq, isC, bin, una, z6, zd, blt, asArg, zg, zc, zf, z1, E.mkS, unN, ze, zn, zb, GS, simprocAttr, GZ, d1, d2, d3, d4, e1, e2, zk, ya, zD]
    all_goals (repeat (refine zQ (by kernel_rfl) ?_))
    all_goals (first | rfl | (simp (disch := ((try simp only [LL]); omega)) only [↓GO, ↓DRW, GA, GX, ren, zm, za, refs, z8, cst, zq, isC, bin, una, z6, zd, blt, asArg, zg, zc, zf, z1, E.mkS, unN, ze, zn, zb, GS, simprocAttr, GZ, d1, d2, d3, d4, e1, e2, zk, ya, zD]))
  · obtain ⟨s, y2, hs0, hy2, e2⟩ := uC bs hb y1 hy1 [[], [48, 49], [97, 95, 98], [49, 48, 48, 48, 48, 48, 48, 48, 48, 48], [97, 98, 99, 100, 101, 102, 103, 104, 105, 106, 107, 108, 109, 110, 111, 112, 113, 114, 115, 116], [97, 98, 99, 100, 101, 102, 103, 104, 105, 106, 107, 108, 109, 110, 111, 112, 113, 114, 115, 116, 117]] 6 rfl (by decide) (by decide) (some 6)
    have hsl : s.length ≤ 32 := by
     simp only [List.mem_cons, List.not_mem_nil, or_false] at hs0
     rcases hs0 with rfl | rfl | rfl | rfl | rfl | rfl <;> decide
    clear hs0
    simp only [strs, List.map_cons, List.map_nil, Int.natCast_zero, Int.natCast_one] at e1 e2
    refine ⟨⟨a1, a2, a3, [s]⟩, y2, ⟨by simp, fun s hs => ?_⟩, hy2, ?_⟩
    · simp only [List.mem_cons, List.not_mem_nil, or_false] at hs
      rcases hs with rfl <;> first | assumption | decide
    refine .inr ⟨none, ?_⟩
    simp only [strs, List.map_cons, List.map_nil, List.length_cons, List.length_nil, Nat.zero_add, Nat.reduceAdd] at *
    clear hb h1 h2 h3
    unfold cuR at *
    refine zJ Tryz.func136 rfl (by kernel_rfl) ?_
    unfold Tryz.f136
    simp (disch := ((try simp only [LL]); omega)) only [↓GO, ↓DRW, GA, GX, ren, zm, za, refs, z8, cst, zq, isC, bin, una, z6, zd, blt, asArg, zg, zc, zf, z1, E.mkS, unN, ze, zn, zb, GS, simprocAttr, GZ, d1, d2, d3, d4, e1, e2, zk, ya, zD]
    all_goals (repeat (refine zQ (by kernel_rfl) ?_))
    all_goals (first | rfl | (simp (disch := ((try simp only [LL]); omega)) only [↓GO, ↓DRW, GA, GX, ren, zm, za, refs, z8, cst, zq, isC, bin, una, z6, zd, blt, asArg, zg, zc, zf, z1, E.mkS, unN, ze, zn, zb, GS, simprocAttr, GZ, d1, d2, d3, d4, e1, e2, zk, ya, zD]))
  · obtain ⟨b, y2, hy2, e2⟩ := vC bs hb y1 hy1 2 (by decide) (by decide)
    simp only [Int.cast_ofNat_Int] at e1 e2
    cases b with
    | false =>
     refine ⟨⟨a1, a2, a3, [[97], [98], [99], [100], [101]]⟩, y2, ⟨by simp, fun s hs => ?_⟩, hy2, ?_⟩
     · simp only [List.mem_cons, List.not_mem_nil, or_false] at hs
       rcases hs with rfl | rfl | rfl | rfl | rfl <;> first | assumption | decide
     refine .inr ⟨some 5, ?_⟩
     simp only [strs, List.map_cons, List.map_nil, List.length_cons, List.length_nil, Nat.zero_add, Nat.reduceAdd] at *
     clear hb h1 h2 h3
     unfold cuR at *
     refine zJ Tryz.func136 rfl (by kernel_rfl) ?_
     unfold Tryz.f136
     simp (disch := ((try simp only [LL]); omega)) only [↓GO, ↓DRW, GA, GX, ren, zm, za, refs, z8, cst, zq, isC, bin, una, z6, zd, blt, asArg, zg, zc, zf, z1, E.mkS, unN, ze, zn, zb, GS, simprocAttr, GZ, d1, d2, d3, d4, e1, e2, zk, ya, zD]
     all_goals (repeat (refine zQ (by kernel_rfl) ?_))
     all_goals (first | rfl | (simp (disch := ((try simp only [LL]); omega)) only [↓GO, ↓DRW, GA, GX, ren, zm, za, refs, z8, cst, zq, isC, bin, una, z6, zd, blt, asArg, zg, zc, zf, z1, E.mkS, unN, ze, zn, zb, GS, simprocAttr, GZ, d1, d2, d3, d4, e1, e2, zk, ya, zD]))
    | true =>
     refine ⟨⟨a1, a2, a3, [[97], [98], [99], [100], [101], [102]]⟩, y2, ⟨by simp, fun s hs => ?_⟩, hy2, ?_⟩
     · simp only [List.mem_cons, List.not_mem_nil, or_false] at hs
       rcases hs with rfl | rfl | rfl | rfl | rfl | rfl <;> first | assumption | decide
     refine .inr ⟨none, ?_⟩
     simp only [strs, List.map_cons, List.map_nil, List.length_cons, List.length_nil, Nat.zero_add, Nat.reduceAdd] at *
     clear hb h1 h2 h3
     unfold cuR at *
     refine zJ Tryz.func136 rfl (by kernel_rfl) ?_
     unfold Tryz.f136
     simp (disch := ((try simp only [LL]); omega)) only [↓GO, ↓DRW, GA, GX, ren, zm, za, refs, z8, cst, zq, isC, bin, una, z6, zd, blt, asArg, zg, zc, zf, z1, E.mkS, unN, ze, zn, zb, GS, simprocAttr, GZ, d1, d2, d3, d4, e1, e2, zk, ya, zD]
     all_goals (repeat (refine zQ (by kernel_rfl) ?_))
     all_goals (first | rfl | (simp (disch := ((try simp only [LL]); omega)) only [↓GO, ↓DRW, GA, GX, ren, zm, za, refs, z8, cst, zq, isC, bin, una, z6, zd, blt, asArg, zg, zc, zf, z1, E.mkS, unN, ze, zn, zb, GS, simprocAttr, GZ, d1, d2, d3, d4, e1, e2, zk, ya, zD]))
  · have k0 : ((k : Int) == 0) = false := by rw [beq_eq_false_iff_ne]; omega
    have k1 : ((k : Int) == 1) = false := by rw [beq_eq_false_iff_ne]; omega
    have k2 : ((k : Int) == 2) = false := by rw [beq_eq_false_iff_ne]; omega
    refine ⟨⟨a1, a2, a3, []⟩, y1, ⟨by simp, fun s hs => ?_⟩, hy1, ?_⟩
    · simp only [List.mem_cons, List.not_mem_nil, or_false] at hs
    refine .inl ⟨rfl, ?_⟩
    clear hb h1 h2 h3
    unfold cuR at *
    refine zJ Tryz.func136 rfl (by kernel_rfl) ?_
    unfold Tryz.f136
    simp (disch := ((try simp only [LL]); omega)) only [↓GO, ↓DRW, GA, GX, ren, zm, za, refs, z8, cst, zq, isC, bin, una, z6, zd, blt, asArg, zg, zc, zf, z1, E.mkS, unN, ze, zn, zb, GS, simprocAttr, GZ, d1, d2, d3, d4, e1, k0, k1, k2, zk, ya, zD]
    all_goals (repeat (refine zQ (by kernel_rfl) ?_))
    all_goals (first | rfl | (simp (disch := ((try simp only [LL]); omega)) only [↓GO, ↓DRW, GA, GX, ren, zm, za, refs, z8, cst, zq, isC, bin, una, z6, zd, blt, asArg, zg, zc, zf, z1, E.mkS, unN, ze, zn, zb, GS, simprocAttr, GZ, d1, d2, d3, d4, e1, k0, k1, k2, zk, ya, zD]))
 | true =>
  obtain ⟨s1, c5, hs1, h5, d5⟩ := uC bs hb c4 h4 [[114, 99], [98, 101, 116, 97], [49], [48], [120, 45, 121]] 5 rfl (by decide) (by decide) (some 5)
  have hl1 : s1.length ≤ 32 := by
   simp only [List.mem_cons, List.not_mem_nil, or_false] at hs1
   rcases hs1 with rfl | rfl | rfl | rfl | rfl <;> decide
  clear hs1
  obtain ⟨b2, c6, h6, d6⟩ := vC bs hb c5 h5 2 (by decide) (by decide)
  simp only [strs, List.map_cons, List.map_nil, Int.cast_ofNat_Int] at d5 d6
  cases b2 with
  | false =>
   obtain ⟨k, y1, hk, hy1, e1⟩ := rA bs hb c6 h6 24 (by decide) (by decide)
   simp only [Int.cast_ofNat_Int] at e1
   have hkc : k = 0 ∨ k = 1 ∨ k = 2 ∨ 3 ≤ k := by omega
   rcases hkc with rfl | rfl | rfl | hk3
   · obtain ⟨a, y2, _, hy2, e2⟩ := rk bs hb y1 hy1 [-1, 999999999, 1000000000] 3 rfl (by decide) (by decide) (some 3)
     simp only [pE, List.map_cons, List.map_nil, Int.natCast_zero, Int.natCast_one] at e1 e2
     refine ⟨⟨a1, a, a3, [s1]⟩, y2, ⟨by simp, fun s hs => ?_⟩, hy2, ?_⟩
     · simp only [List.mem_cons, List.not_mem_nil, or_false] at hs
       rcases hs with rfl <;> first | assumption | decide
     refine .inr ⟨some 1, ?_⟩
     simp only [strs, List.map_cons, List.map_nil, List.length_cons, List.length_nil, Nat.zero_add, Nat.reduceAdd] at *
     clear hb h1 h2 h3 h4 h5
     unfold cuR at *
     refine zJ Tryz.func136 rfl (by kernel_rfl) ?_
     unfold Tryz.f136
     simp (disch := ((try simp only [LL]); omega)) only [↓GO, ↓DRW, GA, GX, ren, zm, za, refs, z8, cst, zq, isC, bin, una, z6, zd, blt, asArg, zg, zc, zf, z1, E.mkS, unN, ze, zn, zb, GS, simprocAttr, GZ, d1, d2, d3, d4, d5, d6, e1, e2, zk, ya, zD]
     all_goals (repeat (refine zQ (by kernel_rfl) ?_))
     all_goals (first | rfl | (simp (disch := ((try simp only [LL]); omega)) only [↓GO, ↓DRW, GA, GX, ren, zm, za, refs, z8, cst, zq, isC, bin, una, z6, zd, blt, asArg, zg, zc, zf, z1, E.mkS, unN, ze, zn, zb, GS, simprocAttr, GZ, d1, d2, d3, d4, d5, d6, e1, e2, zk, ya, zD]))
   · obtain ⟨s, y2, hs0, hy2, e2⟩ := uC bs hb y1 hy1 [[], [48, 49], [97, 95, 98], [49, 48, 48, 48, 48, 48, 48, 48, 48, 48], [97, 98, 99, 100, 101, 102, 103, 104, 105, 106, 107, 108, 109, 110, 111, 112, 113, 114, 115, 116], [97, 98, 99, 100, 101, 102, 103, 104, 105, 106, 107, 108, 109, 110, 111, 112, 113, 114, 115, 116, 117]] 6 rfl (by decide) (by decide) (some 6)
     have hsl : s.length ≤ 32 := by
      simp only [List.mem_cons, List.not_mem_nil, or_false] at hs0
      rcases hs0 with rfl | rfl | rfl | rfl | rfl | rfl <;> decide
     clear hs0
     simp only [strs, List.map_cons, List.map_nil, Int.natCast_zero, Int.natCast_one] at e1 e2
     refine ⟨⟨a1, a2, a3, [s1, s]⟩, y2, ⟨by simp, fun s hs => ?_⟩, hy2, ?_⟩
     · simp only [List.mem_cons, List.not_mem_nil, or_false] at hs
       rcases hs with rfl | rfl <;> first | assumption | decide
     refine .inr ⟨none, ?_⟩
     simp only [strs, List.map_cons, List.map_nil, List.length_cons, List.length_nil, Nat.zero_add, Nat.reduceAdd] at *
     clear hb h1 h2 h3 h4 h5
     unfold cuR at *
     refine zJ Tryz.func136 rfl (by kernel_rfl) ?_
     unfold Tryz.f136
     simp (disch := ((try simp only [LL]); omega)) only [↓GO, ↓DRW, GA, GX, ren, zm, za, refs, z8, cst, zq, isC, bin, una, z6, zd, blt, asArg, zg, zc, zf, z1, E.mkS, unN, ze, zn, zb, GS, simprocAttr, GZ, d1, d2, d3, d4, d5, d6, e1, e2, zk, ya, zD]
     all_goals (repeat (refine zQ (by kernel_rfl) ?_))
     all_goals (first | rfl | (simp (disch := ((try simp only [LL]); omega)) only [↓GO, ↓DRW, GA, GX, ren, zm, za, refs, z8, cst, zq, isC, bin, una, z6, zd, blt, asArg, zg, zc, zf, z1, E.mkS, unN, ze, zn, zb, GS, simprocAttr, GZ, d1, d2, d3, d4, d5, d6, e1, e2, zk, ya, zD]))
   · obtain ⟨b, y2, hy2, e2⟩ := vC bs hb y1 hy1 2 (by decide) (by decide)
     simp only [Int.cast_ofNat_Int] at e1 e2
     cases b with
     | false =>
      refine ⟨⟨a1, a2, a3, [[97], [98], [99], [100], [101]]⟩, y2, ⟨by simp, fun s hs => ?_⟩, hy2, ?_⟩
      · simp only [List.mem_cons, List.not_mem_nil, or_false] at hs
        rcases hs with rfl | rfl | rfl | rfl | rfl <;> first | assumption | decide
      refine .inr ⟨some 5, ?_⟩
      simp only [strs, List.map_cons, List.map_nil, List.length_cons, List.length_nil, Nat.zero_add, Nat.reduceAdd] at *
      clear hb h1 h2 h3 h4 h5
      unfold cuR at *
      refine zJ Tryz.func136 rfl (by kernel_rfl) ?_
      unfold Tryz.f136
      simp (disch := ((try simp only [LL]); omega)) only [↓GO, ↓DRW, GA, GX, ren, zm, za, refs, z8, cst, zq, isC, bin, una, z6, zd, blt, asArg, zg, zc, zf, z1, E.mkS, unN, ze, zn, zb, GS, simprocAttr, GZ, d1, d2, d3, d4, d5, d6, e1, e2, zk, ya, zD]
      all_goals (repeat (refine zQ (by kernel_rfl) ?_))
      all_goals (first | rfl | (simp (disch := ((try simp only [LL]); omega)) only [↓GO, ↓DRW, GA, GX, ren, zm, za, refs, z8, cst, zq, isC, bin, una, z6, zd, blt, asArg, zg, zc, zf, z1, E.mkS, unN, ze, zn, zb, GS, simprocAttr, GZ, d1, d2, d3, d4, d5, d6, e1, e2, zk, ya, zD]))
     | true =>
      refine ⟨⟨a1, a2, a3, [[97], [98], [99], [100], [101], [102]]⟩, y2, ⟨by simp, fun s hs => ?_⟩, hy2, ?_⟩
      · simp only [List.mem_cons, List.not_mem_nil, or_false] at hs
        rcases hs with rfl | rfl | rfl | rfl | rfl | rfl <;> first | assumption | decide
      refine .inr ⟨none, ?_⟩
      simp only [strs, List.map_cons, List.map_nil, List.length_cons, List.length_nil, Nat.zero_add, Nat.reduceAdd] at *
      clear hb h1 h2 h3 h4 h5
      unfold cuR at *
      refine zJ Tryz.func136 rfl (by kernel_rfl) ?_
      unfold Tryz.f136
      simp (disch := ((try simp only [LL]); omega)) only [↓GO, ↓DRW, GA, GX, ren, zm, za, refs, z8, cst, zq, isC, bin, una, z6, zd, blt, asArg, zg, zc, zf, z1, E.mkS, unN, ze, zn, zb, GS, simprocAttr, GZ, d1, d2, d3, d4, d5, d6, e1, e2, zk, ya, zD]
      all_goals (repeat (refine zQ (by kernel_rfl) ?_))
      all_goals (first | rfl | (simp (disch := ((try simp only [LL]); omega)) only [↓GO, ↓DRW, GA, GX, ren, zm, za, refs, z8, cst, zq, isC, bin, una, z6, zd, blt, asArg, zg, zc, zf, z1, E.mkS, unN, ze, zn, zb, GS, simprocAttr, GZ, d1, d2, d3, d4, d5, d6, e1, e2, zk, ya, zD]))
   · have k0 : ((k : Int) == 0) = false := by rw [beq_eq_false_iff_ne]; omega
     have k1 : ((k : Int) == 1) = false := by rw [beq_eq_false_iff_ne]; omega
     have k2 : ((k : Int) == 2) = false := by rw [beq_eq_false_iff_ne]; omega
     refine ⟨⟨a1, a2, a3, [s1]⟩, y1, ⟨by simp, fun s hs => ?_⟩, hy1, ?_⟩
     · simp only [List.mem_cons, List.not_mem_nil, or_false] at hs
       rcases hs with rfl <;> first | assumption | decide
     refine .inr ⟨some 1, ?_⟩
     simp only [strs, List.map_cons, List.map_nil, List.length_cons, List.length_nil, Nat.zero_add, Nat.reduceAdd] at *
     clear hb h1 h2 h3 h4 h5
     unfold cuR at *
     refine zJ Tryz.func136 rfl (by kernel_rfl) ?_
     unfold Tryz.f136
     simp (disch := ((try simp only [LL]); omega)) only [↓GO, ↓DRW, GA, GX, ren, zm, za, refs, z8, cst, zq, isC, bin, una, z6, zd, blt, asArg, zg, zc, zf, z1, E.mkS, unN, ze, zn, zb, GS, simprocAttr, GZ, d1, d2, d3, d4, d5, d6, e1, k0, k1, k2, zk, ya, zD]
     all_goals (repeat (refine zQ (by kernel_rfl) ?_))
     all_goals (first | rfl | (simp (disch := ((try simp only [LL]); omega)) only [↓GO, ↓DRW, GA, GX, ren, zm, za, refs, z8, cst, zq, isC, bin, una, z6, zd, blt, asArg, zg, zc, zf, z1, E.mkS, unN, ze, zn, zb, GS, simprocAttr, GZ, d1, d2, d3, d4, d5, d6, e1, k0, k1, k2, zk, ya, zD]))
  | true =>
   obtain ⟨s2, c7, hs2, h7, d7⟩ := uC bs hb c6 h6 [[49], [50], [49, 48], [97]] 4 rfl (by decide) (by decide) (some 4)
   have hl2 : s2.length ≤ 32 := by
    simp only [List.mem_cons, List.not_mem_nil, or_false] at hs2
    rcases hs2 with rfl | rfl | rfl | rfl <;> decide
   clear hs2
   simp only [strs, List.map_cons, List.map_nil] at d7
   obtain ⟨k, y1, hk, hy1, e1⟩ := rA bs hb c7 h7 24 (by decide) (by decide)
   simp only [Int.cast_ofNat_Int] at e1
   have hkc : k = 0 ∨ k = 1 ∨ k = 2 ∨ 3 ≤ k := by omega
   rcases hkc with rfl | rfl | rfl | hk3
   · obtain ⟨a, y2, _, hy2, e2⟩ := rk bs hb y1 hy1 [-1, 999999999, 1000000000] 3 rfl (by decide) (by decide) (some 3)
     simp only [pE, List.map_cons, List.map_nil, Int.natCast_zero, Int.natCast_one] at e1 e2
     refine ⟨⟨a1, a, a3, [s1, s2]⟩, y2, ⟨by simp, fun s hs => ?_⟩, hy2, ?_⟩
     · simp only [List.mem_cons, List.not_mem_nil, or_false] at hs
       rcases hs with rfl | rfl <;> first | assumption | decide
     refine .inr ⟨none, ?_⟩
     simp only [strs, List.map_cons, List.map_nil, List.length_cons, List.length_nil, Nat.zero_add, Nat.reduceAdd] at *
     clear hb h1 h2 h3 h4 h5 h6
     unfold cuR at *
     refine zJ Tryz.func136 rfl (by kernel_rfl) ?_
     unfold Tryz.f136
     simp (disch := ((try simp only [LL]); omega)) only [↓GO, ↓DRW, GA, GX, ren, zm, za, refs, z8, cst, zq, isC, bin, una, z6, zd, blt, asArg, zg, zc, zf, z1, E.mkS, unN, ze, zn, zb, GS, simprocAttr, GZ, d1, d2, d3, d4, d5, d6, d7, e1, e2, zk, ya, zD]
     all_goals (repeat (refine zQ (by kernel_rfl) ?_))
     all_goals (first | rfl | (simp (disch := ((try simp only [LL]); omega)) only [↓GO, ↓DRW, GA, GX, ren, zm, za, refs, z8, cst, zq, isC, bin, una, z6, zd, blt, asArg, zg, zc, zf, z1, E.mkS, unN, ze, zn, zb, GS, simprocAttr, GZ, d1, d2, d3, d4, d5, d6, d7, e1, e2, zk, ya, zD]))
   · obtain ⟨s, y2, hs0, hy2, e2⟩ := uC bs hb y1 hy1 [[], [48, 49], [97, 95, 98], [49, 48, 48, 48, 48, 48, 48, 48, 48, 48], [97, 98, 99, 100, 101, 102, 103, 104, 105, 106, 107, 108, 109, 110, 111, 112, 113, 114, 115, 116], [97, 98, 99, 100, 101, 102, 103, 104, 105, 106, 107, 108, 109, 110, 111, 112, 113, 114, 115, 116, 117]] 6 rfl (by decide) (by decide) (some 6)
     have hsl : s.length ≤ 32 := by
      simp only [List.mem_cons, List.not_mem_nil, or_false] at hs0
      rcases hs0 with rfl | rfl | rfl | rfl | rfl | rfl <;> decide
     clear hs0
     simp only [strs, List.map_cons, List.map_nil, Int.natCast_zero, Int.natCast_one] at e1 e2
     refine ⟨⟨a1, a2, a3, [s1, s2, s]⟩, y2, ⟨by simp, fun s hs => ?_⟩, hy2, ?_⟩
     · simp only [List.mem_cons, List.not_mem_nil, or_false] at hs
       rcases hs with rfl | rfl | rfl <;> first | assumption | decide
     refine .inr ⟨none, ?_⟩
     simp only [strs, List.map_cons, List.map_nil, List.length_cons, List.length_nil, Nat.zero_add, Nat.reduceAdd] at *
     clear hb h1 h2 h3 h4 h5 h6
     unfold cuR at *
     refine zJ Tryz.func136 rfl (by kernel_rfl) ?_
     unfold Tryz.f136
     simp (disch := ((try simp only [LL]); omega)) only [↓GO, ↓DRW, GA, GX, ren, zm, za, refs, z8, cst, zq, isC, bin, una, z6, zd, blt, asArg, zg, zc, zf, z1, E.mkS, unN, ze, zn, zb, GS, simprocAttr, GZ, d1, d2, d3, d4, d5, d6, d7, e1, e2, zk, ya, zD]
     all_goals (repeat (refine zQ (by kernel_rfl) ?_))
     all_goals (first | rfl | (simp (disch := ((try simp only [LL]); omega)) only [↓GO, ↓DRW, GA, GX, ren, zm, za, refs, z8, cst, zq, isC, bin, una, z6, zd, blt, asArg, zg, zc, zf, z1, E.mkS, unN, ze, zn, zb, GS, simprocAttr, GZ, d1, d2, d3, d4, d5, d6, d7, e1, e2, zk, ya, zD]))
   · obtain ⟨b, y2, hy2, e2⟩ := vC bs hb y1 hy1 2 (by decide) (by decide)
     simp only [Int.cast_ofNat_Int] at e1 e2
     cases b with
     | false =>
      refine ⟨⟨a1, a2, a3, [[97], [98], [99], [100], [101]]⟩, y2, ⟨by simp, fun s hs => ?_⟩, hy2, ?_⟩
      · simp only [List.mem_cons, List.not_mem_nil, or_false] at hs
        rcases hs with rfl | rfl | rfl | rfl | rfl <;> first | assumption | decide
      refine .inr ⟨some 5, ?_⟩
      simp only [strs, List.map_cons, List.map_nil, List.length_cons, List.length_nil, Nat.zero_add, Nat.reduceAdd] at *
      clear hb h1 h2 h3 h4 h5 h6
      unfold cuR at *
      refine zJ Tryz.func136 rfl (by kernel_rfl) ?_
      unfold Tryz.f136
      simp (disch := ((try simp only [LL]); omega)) only [↓GO, ↓DRW, GA, GX, ren, zm, za, refs, z8, cst, zq, isC, bin, una, z6, zd, blt, asArg, zg, zc, zf, z1, E.mkS, unN, ze, zn, zb, GS, simprocAttr, GZ, d1, d2, d3, d4, d5, d6, d7, e1, e2, zk, ya, zD]
      all_goals (repeat (refine zQ (by kernel_rfl) ?_))
      all_goals (first | rfl | (simp (disch := ((try simp only [LL]); omega)) only [↓GO, ↓DRW, GA, GX, ren, zm, za, refs, z8, cst, zq, isC, bin, una, z6, zd, blt, asArg, zg, zc, zf, z1, E.mkS, unN, ze, zn, zb, GS, simprocAttr, GZ, d1, d2, d3, d4, d5, d6, d7, e1, e2, zk, ya, zD]))
     | true =>
      refine ⟨⟨a1, a2, a3, [[97], [98], [99], [100], [101], [102]]⟩, y2, ⟨by simp, fun s hs => ?_⟩, hy2, ?_⟩
      · simp only [List.mem_cons, List.not_mem_nil, or_false] at hs
        rcases hs with rfl | rfl | rfl | rfl | rfl | rfl <;> first | assumption | decide
      refine .inr ⟨none, ?_⟩
      simp only [strs, List.map_cons, List.map_nil, List.length_cons, List.length_nil, Nat.zero_add, Nat.reduceAdd] at *
      clear hb h1 h2 h3 h4 h5 h6
      unfold cuR at *
      refine zJ Tryz.func136 rfl (by kernel_rfl) ?_
      unfold Tryz.f136
      simp (disch := ((try simp only [LL]); omega)) only [↓GO, ↓DRW, GA, GX, ren, zm, za, refs, z8, cst, zq, isC, bin, una, z6, zd, blt, asArg, zg, zc, zf, z1, E.mkS, unN, ze, zn, zb, GS, simprocAttr, GZ, d1, d2, d3, d4, d5, d6, d7, e1, e2, zk, ya, zD]
      all_goals (repeat (refine zQ (by kernel_rfl) ?_))
      all_goals (first | rfl | (simp (disch := ((try simp only [LL]); omega)) only [↓GO, ↓DRW, GA, GX, ren, zm, za, refs, z8, cst, zq, isC, bin, una, z6, zd, blt, asArg, zg, zc, zf, z1, E.mkS, unN, ze, zn, zb, GS, simprocAttr, GZ, d1, d2, d3, d4, d5, d6, d7, e1, e2, zk, ya, zD]))
   · have k0 : ((k : Int) == 0) = false := by rw [beq_eq_false_iff_ne]; omega
     have k1 : ((k : Int) == 1) = false := by rw [beq_eq_false_iff_ne]; omega
     have k2 : ((k : Int) == 2) = false := by rw [beq_eq_false_iff_ne]; omega
     refine ⟨⟨a1, a2, a3, [s1, s2]⟩, y1, ⟨by simp, fun s hs => ?_⟩, hy1, ?_⟩
     · simp only [List.mem_cons, List.not_mem_nil, or_false] at hs
       rcases hs with rfl | rfl <;> first | assumption | decide
     refine .inr ⟨none, ?_⟩
     simp only [strs, List.map_cons, List.map_nil, List.length_cons, List.length_nil, Nat.zero_add, Nat.reduceAdd] at *
     clear hb h1 h2 h3 h4 h5 h6
     unfold cuR at *
     refine zJ Tryz.func136 rfl (by kernel_rfl) ?_
     unfold Tryz.f136
     simp (disch := ((try simp only [LL]); omega)) only [↓GO, ↓DRW, GA, GX, ren, zm, za, refs, z8, cst, zq, isC, bin, una, z6, zd, blt, asArg, zg, zc, zf, z1, E.mkS, unN, ze, zn, zb, GS, simprocAttr, GZ, d1, d2, d3, d4, d5, d6, d7, e1, k0, k1, k2, zk, ya, zD]
     all_goals (repeat (refine zQ (by kernel_rfl) ?_))
     all_goals (first | rfl | (simp (disch := ((try simp only [LL]); omega)) only [↓GO, ↓DRW, GA, GX, ren, zm, za, refs, z8, cst, zq, isC, bin, una, z6, zd, blt, asArg, zg, zc, zf, z1, E.mkS, unN, ze, zn, zb, GS, simprocAttr, GZ, d1, d2, d3, d4, d5, d6, d7, e1, k0, k1, k2, zk, ya, zD]))
theorem Ry {v : Ver} (h : smV v) : v.sm := by
 obtain ⟨h1, h2⟩ := h
 have key : ∀ l : List Str, (∀ s ∈ l, s.length ≤ 32) → yl l ≤ 32 * l.length := fun l => by
  induction l with
  | nil => intro _; exact Nat.le_refl _
  | cons x r ih =>
   intro hx
   have a := ih fun s hs => hx s (by simp [hs])
   have b := hx x (by simp)
   have e : yl (x :: r) = x.length + yl r := rfl
   rw [e, List.length_cons]; omega
 have := key v.pre h2
 unfold Ver.sm
 omega
theorem gw {v : Ver} (h : smV v) : (yd v).length ≤ 300 := by
 unfold yd
 cases hv : yR v with
 | false => simp
 | true =>
  rw [cond_true]
  have a := dy hv
  have b := kf (tZ v) v.pre
  obtain ⟨h1, h2⟩ := h
  have key : ∀ l : List Str, (∀ s ∈ l, s.length ≤ 32) → yl l ≤ 32 * l.length := fun l => by
   induction l with
   | nil => intro _; exact Nat.le_refl _
   | cons x r ih =>
    intro hx
    have a := ih fun s hs => hx s (by simp [hs])
    have b := hx x (by simp)
    have e : yl (x :: r) = x.length + yl r := rfl
    rw [e, List.length_cons]; omega
  have := key v.pre h2
  omega
theorem Zw (bs : List Int) (hb : okB bs) (c : Cs) (hc : cok bs c) : ∃ (s : Str) (c' : Cs), s.length ≤ 300 ∧ cok bs c' ∧ EV Tryz.prog pol (.callO false 115 [.ptr 0 0 0] [cuR bs c]) = some (.call (.t (.str s)) [cuR bs c']) := by
 obtain ⟨v, c', hv, hc', d⟩ := c_ver bs hb c hc
 have d2 := lf v (Ry hv)
 have hl := gw hv
 refine ⟨cond (yd v == []) [49, 46, 48, 46, 48] (yd v), c', ?_, hc', ?_⟩
 · cases yd v == [] with
   | true => exact (by decide : ([49, 46, 48, 46, 48] : List UInt8).length ≤ 300)
   | false => exact hl
 have ht : (strs v.pre).take v.pre.length = strs v.pre := by rw [← zi v.pre]; simp
 unfold VerR at d
 obtain ⟨maj, min, pat, pre⟩ := v
 simp only [Ver.enc, List.map_cons, List.map_nil] at d d2 ht ⊢
 generalize yd ⟨maj, min, pat, pre⟩ = s at *
 unfold cuR at *
 rcases d with ⟨rfl, d⟩ | ⟨cap, d⟩
 · simp only [show strs [] = [] from rfl] at d2
   cases q : (s == []) with
   | true =>
    refine zJ Tryz.func115 rfl (by kernel_rfl) ?_
    unfold Tryz.f115
    simp (disch := ((try simp only [LL]); omega)) only [↓GO, ↓DRW, GA, GX, ren, zm, za, refs, z8, cst, zq, isC, bin, una, z6, zd, blt, asArg, zg, zc, zf, z1, E.mkS, unN, ze, zn, zb, GS, simprocAttr, GZ, d, d2, q, zD]
   | false =>
    refine zJ Tryz.func115 rfl (by kernel_rfl) ?_
    unfold Tryz.f115
    simp (disch := ((try simp only [LL]); omega)) only [↓GO, ↓DRW, GA, GX, ren, zm, za, refs, z8, cst, zq, isC, bin, una, z6, zd, blt, asArg, zg, zc, zf, z1, E.mkS, unN, ze, zn, zb, GS, simprocAttr, GZ, d, d2, q, zD]
 · generalize strs pre = E0 at *
   cases q : (s == []) with
   | true =>
    refine zJ Tryz.func115 rfl (by kernel_rfl) ?_
    unfold Tryz.f115
    simp (disch := ((try simp only [LL]); omega)) only [↓GO, ↓DRW, GA, GX, ren, zm, za, refs, z8, cst, zq, isC, bin, una, z6, zd, blt, asArg, zg, zc, zf, z1, E.mkS, unN, ze, zn, zb, GS, simprocAttr, GZ, d, d2, q, ht, zD]
   | false =>
    refine zJ Tryz.func115 rfl (by kernel_rfl) ?_
    unfold Tryz.f115
    simp (disch := ((try simp only [LL]); omega)) only [↓GO, ↓DRW, GA, GX, ren, zm, za, refs, z8, cst, zq, isC, bin, una, z6, zd, blt, asArg, zg, zc, zf, z1, E.mkS, unN, ze, zn, zb, GS, simprocAttr, GZ, d, d2, q, ht, zD]
end Go.Proofs.YtonbkdklidfmfaaGreatDoor
/- The range of a version alone, by both. Conditions: those of each lemma. -/
namespace Go.Proofs.YtonbkdklidfmfaaGreatDoor
open E
set_option linter.unusedSimpArgs false
set_option linter.unusedVariables false
set_option maxRecDepth 100000
theorem aa (a b c : Int) : Ver.sm ⟨a, b, c, [[48]]⟩ := by simp [Ver.sm, yl]
theorem c_zpI (a b c : Int) : zo (EV Tryz.prog pol) 188 [.t (.int .i64 a), .t (.int .i64 b), .t (.int .i64 c)] = some (.t (.str (xX a b c))) := by
 have h := pg ⟨a, b, c, [[48]]⟩ (aa a b c)
 simp only [Ver.enc, List.map_cons, List.map_nil, vM, yh] at h
 unfold xX
 apply zw
 refine zy rfl Tryz.func188 rfl (by kernel_rfl) ?_
 unfold Tryz.f188
 simp (disch := ((try simp only [LL]); omega)) only [↓GO, ↓DRW, GA, GX, ren, zm, za, refs, z8, cst, zq, isC, bin, una, z6, zd, blt, asArg, zg, zc, zf, z1, E.mkS, unN, ze, zn, zb, GS, simprocAttr, GZ, h]
theorem Sz (v : Ver) (hs : v.sm) (hp : v.pre.length + yl v.pre ≤ 2097150) (h0 : -1 ≤ v.pat) (h1 : v.pat ≤ 999999999) : zo (EV Tryz.prog pol) 159 [.agg (v.enc.map .t)] = some (.agg [.t (.str (yd v)), .t (.str (lE v))]) := by
 have a1 := c_zpI v.maj v.min (v.pat + 1)
 have a2 := pg v hs
 have hpv : (rM v).sm := by
  unfold Ver.sm rM
  simp only [List.length_append, List.length_cons, List.length_nil, lg, yl]; omega
 have a3 := pg (rM v) hpv
 unfold Ver.sm at hs
 have a4 := tc (strs v.pre) (by rw [zi]; omega)
 have ht : List.take (v.pre.length + 1) (strs v.pre ++ [[T.str [48]]]) = strs v.pre ++ [[T.str [48]]] := List.take_of_length_le (by simp [zi])
 have hg := bL v.pre
 unfold lE
 rw [show (rM v).enc = [.int .i64 v.maj, .int .i64 v.min, .int .i64 v.pat, .list 1 (strs v.pre ++ [[.str [48]]])] by unfold Ver.enc rM; rw [qG]; rfl] at a3
 simp only [Ver.enc, List.map_cons, List.map_nil] at a2 a3 ⊢
 rw [zi] at a4
 generalize yd (rM v) = tp at *
 generalize yd v = tv at *
 generalize xX v.maj v.min (v.pat + 1) = tz at *
 cases hb : (v.pre == []) <;> rw [hb] at hg <;> simp only [Bool.not_true, Bool.not_false] at hg
 · apply zw
   refine zy rfl Tryz.func159 rfl (by kernel_rfl) ?_
   unfold Tryz.f159
   simp (disch := ((try simp only [LL]); omega)) only [↓GO, ↓DRW, GA, GX, ren, zm, za, refs, z8, cst, zq, isC, bin, una, z6, zd, blt, asArg, zg, zc, zf, z1, E.mkS, unN, ze, zn, zb, GS, simprocAttr, GZ, a1, a2, a3, a4, ht, hg, zk, zi, ya, zD]
 · apply zw
   refine zy rfl Tryz.func159 rfl (by kernel_rfl) ?_
   unfold Tryz.f159
   simp (disch := ((try simp only [LL]); omega)) only [↓GO, ↓DRW, GA, GX, ren, zm, za, refs, z8, cst, zq, isC, bin, una, z6, zd, blt, asArg, zg, zc, zf, z1, E.mkS, unN, ze, zn, zb, GS, simprocAttr, GZ, a1, a2, a3, a4, ht, hg, zk, zi, ya, zD]
def exT (s : Str) : List (List T) := match vB s with
 | some (l, h) => [[.str l, .str h]]
 | none => []
theorem gz (s : Str) (hl : s.length ≤ 1048700) : (zT s).1.pre.length + yl (zT s).1.pre ≤ 1048701 := by
 unfold zT
 cases hm : vj s with
 | none => simp [Ver.zero, yl]
 | some v =>
  have h : v.pre.length + yl v.pre ≤ 1048701 := by
   unfold vj at hm
   split at hm
   · cases hm
     have := vc 46 (yc 45 s).2.1
     have h5 := (pd 45 s).2
     cases (yc 45 s).2.2 with
     | true => simp only [cond_true]; omega
     | false => simp [yl]
   · cases hm
  simp only
  cases (yd v == s) with
  | true => exact h
  | false => simp [Ver.zero, yl]
theorem c_exI (s : Str) (hl : s.length ≤ 1048700) : zo (EV Tryz.prog pol) 124 [.t (.str s)] = some (.t (.list 2 (exT s))) := by
 have h1 := c_rvI s hl
 obtain ⟨m1, m2, m3, m4, m5, m6, m7⟩ := nW s hl
 have hp := gz s hl
 have h2 := Sz (zT s).1 m1 (by omega) m7 m6
 unfold exT vB
 unfold rvT at h1
 cases hk : (zT s).2 with
 | false =>
  rw [hk] at h1
  generalize (zT s).1 = v at *
  generalize yd v = tv at *
  generalize lE v = hv at *
  simp only [Ver.enc, List.map_cons, List.map_nil] at h1 h2 ⊢
  apply zw
  refine zy rfl Tryz.func124 rfl (by kernel_rfl) ?_
  unfold Tryz.f124
  simp (disch := ((try simp only [LL]); omega)) only [↓GO, ↓DRW, GA, GX, ren, zm, za, refs, z8, cst, zq, isC, bin, una, z6, zd, blt, asArg, zg, zc, zf, z1, E.mkS, unN, ze, zn, zb, GS, simprocAttr, GZ, h1, h2]
 | true =>
  have ht := (wJ hk).2.1
  rw [ht] at h2
  rw [hk] at h1
  generalize (zT s).1 = v at *
  generalize lE v = hv at *
  simp only [Ver.enc, List.map_cons, List.map_nil] at h1 h2 ⊢
  cases he : (hv == [])
  · apply zw
    refine zy rfl Tryz.func124 rfl (by kernel_rfl) ?_
    unfold Tryz.f124
    simp (disch := ((try simp only [LL]); omega)) only [↓GO, ↓DRW, GA, GX, ren, zm, za, refs, z8, cst, zq, isC, bin, una, z6, zd, blt, asArg, zg, zc, zf, z1, E.mkS, unN, ze, zn, zb, GS, simprocAttr, GZ, h1, h2, he]
  · apply zw
    refine zy rfl Tryz.func124 rfl (by kernel_rfl) ?_
    unfold Tryz.f124
    simp (disch := ((try simp only [LL]); omega)) only [↓GO, ↓DRW, GA, GX, ren, zm, za, refs, z8, cst, zq, isC, bin, una, z6, zd, blt, asArg, zg, zc, zf, z1, E.mkS, unN, ze, zn, zb, GS, simprocAttr, GZ, h1, h2, he]
end Go.Proofs.YtonbkdklidfmfaaGreatDoor
/- Versions compared, the next one, the range of one alone, by the reference. Conditions: those of each lemma. -/
namespace Go.Proofs.YtonbkdklidfmfaaGreatDoor
open E
set_option linter.unusedSimpArgs false
set_option linter.unusedVariables false
set_option maxRecDepth 100000
theorem ot (a b : Int) : zo (EV Tryz.prog pol) 209 [.t (.int .i64 a), .t (.int .i64 b)] = some (.t (.int .i64 (vf a b))) := by
 unfold vf
 cases h1 : decide (a < b) <;> cases h2 : decide (a > b)
 all_goals
  apply zw
  refine zy rfl Tryz.func209 rfl (by kernel_rfl) ?_
  unfold Tryz.f209
  simp (disch := ((try simp only [LL]); omega)) only [↓GO, ↓DRW, GA, GX, ren, zm, za, refs, z8, cst, zq, isC, bin, una, z6, zd, blt, asArg, zg, zc, zf, z1, E.mkS, unN, ze, zn, zb, GS, simprocAttr, GZ, h1, h2]
theorem Sg (a b : Str) : zo (EV Tryz.prog pol) 224 [.t (.str a), .t (.str b)] = some (.t (.int .i64 (dU a b))) := by
 unfold dU
 cases h1 : Op.bytesLess a b <;> cases h2 : (a == b)
 all_goals
  apply zw
  refine zy rfl Tryz.func224 rfl (by kernel_rfl) ?_
  unfold Tryz.f224
  simp (disch := ((try simp only [LL]); omega)) only [↓GO, ↓DRW, GA, GX, ren, zm, za, refs, z8, cst, zq, isC, bin, una, z6, zd, blt, asArg, zg, zc, zf, z1, E.mkS, unN, ze, zn, zb, GS, simprocAttr, GZ, h1, h2]
theorem Q9 (a b : Str) (ha : a.length ≤ 4194304) (hb : b.length ≤ 4194304) : zo (EV Tryz.prog pol) 210 [.t (.str a), .t (.str b)] = some (.t (.int .i64 (td a b))) := by
 have d1 := iq a (by omega)
 have d2 := iq b (by omega)
 have d3 := ot (zO a) (zO b)
 have d4 := Sg a b
 unfold td
 generalize zO a = ra at *
 generalize zO b = rb at *
 cases h1 : decide (ra ≥ 0) <;> cases h2 : decide (rb ≥ 0)
 all_goals
  apply zw
  refine zy rfl Tryz.func210 rfl (by kernel_rfl) ?_
  unfold Tryz.f210
  simp (disch := ((try simp only [LL]); omega)) only [↓GO, ↓DRW, GA, GX, ren, zm, za, refs, z8, cst, zq, isC, bin, una, z6, zd, blt, asArg, zg, zc, zf, z1, E.mkS, unN, ze, zn, zb, GS, simprocAttr, GZ, d1, d2, d3, d4, h1, h2]
theorem RQ (x1 x2 x3 x4 y1 y2 y3 y4 : T) (a b c : Int) :
 EV Tryz.prog pol (.loop 197 58 0 [.ptr 0 0 0, .ptr 1 0 0, .sl 2 0 3 (some 3), .t (.int .i64 0)] [.vs 4 [[.t x1, .t x2, .t x3, .t x4]], .vs 4 [[.t y1, .t y2, .t y3, .t y4]], .ts 1 [[.int .i64 a], [.int .i64 b], [.int .i64 c]]])
 = some (cond (a == 0) (cond (b == 0) (cond (c == 0) (.loop (.exit 0) [.ptr 0 0 0, .ptr 1 0 0, .bad] [.vs 4 [[.t x1, .t x2, .t x3, .t x4]], .vs 4 [[.t y1, .t y2, .t y3, .t y4]]])
  (.loop .ret [.ptr 0 0 0, .ptr 1 0 0, .t (.int .i64 c)] [.vs 4 [[.t x1, .t x2, .t x3, .t x4]], .vs 4 [[.t y1, .t y2, .t y3, .t y4]]]))
  (.loop .ret [.ptr 0 0 0, .ptr 1 0 0, .t (.int .i64 b)] [.vs 4 [[.t x1, .t x2, .t x3, .t x4]], .vs 4 [[.t y1, .t y2, .t y3, .t y4]]]))
  (.loop .ret [.ptr 0 0 0, .ptr 1 0 0, .t (.int .i64 a)] [.vs 4 [[.t x1, .t x2, .t x3, .t x4]], .vs 4 [[.t y1, .t y2, .t y3, .t y4]]])) := by
 cases h1 : (a == 0)
 · refine zj Tryz.func197 rfl rfl ?_
   simp (disch := ((try simp only [LL]); omega)) only [↓GO, ↓DRW, GA, GX, ren, zm, za, refs, z8, cst, zq, isC, bin, una, z6, zd, blt, asArg, zg, zc, zf, z1, E.mkS, unN, ze, zn, zb, GS, simprocAttr, GZ, h1, bne, zk, zD]
 · refine zj Tryz.func197 rfl rfl ?_
   simp (disch := ((try simp only [LL]); omega)) only [↓GO, ↓DRW, GA, GX, ren, zm, za, refs, z8, cst, zq, isC, bin, una, z6, zd, blt, asArg, zg, zc, zf, z1, E.mkS, unN, ze, zn, zb, GS, simprocAttr, GZ, h1, bne, zk, zD, Int.zero_add]
   cases h2 : (b == 0)
   · refine zj Tryz.func197 rfl rfl ?_
     simp (disch := ((try simp only [LL]); omega)) only [↓GO, ↓DRW, GA, GX, ren, zm, za, refs, z8, cst, zq, isC, bin, una, z6, zd, blt, asArg, zg, zc, zf, z1, E.mkS, unN, ze, zn, zb, GS, simprocAttr, GZ, h2, bne, zk, zD]
   · refine zj Tryz.func197 rfl rfl ?_
     simp (disch := ((try simp only [LL]); omega)) only [↓GO, ↓DRW, GA, GX, ren, zm, za, refs, z8, cst, zq, isC, bin, una, z6, zd, blt, asArg, zg, zc, zf, z1, E.mkS, unN, ze, zn, zb, GS, simprocAttr, GZ, h2, bne, zk, zD, Int.reduceAdd]
     cases h3 : (c == 0)
     · refine zj Tryz.func197 rfl rfl ?_
       simp (disch := ((try simp only [LL]); omega)) only [↓GO, ↓DRW, GA, GX, ren, zm, za, refs, z8, cst, zq, isC, bin, una, z6, zd, blt, asArg, zg, zc, zf, z1, E.mkS, unN, ze, zn, zb, GS, simprocAttr, GZ, h3, bne, zk, zD]
     · refine zj Tryz.func197 rfl rfl ?_
       simp (disch := ((try simp only [LL]); omega)) only [↓GO, ↓DRW, GA, GX, ren, zm, za, refs, z8, cst, zq, isC, bin, una, z6, zd, blt, asArg, zg, zc, zf, z1, E.mkS, unN, ze, zn, zb, GS, simprocAttr, GZ, h3, bne, zk, zD, Int.reduceAdd]
       refine zj Tryz.func197 rfl rfl ?_
       simp (disch := ((try simp only [LL]); omega)) only [↓GO, ↓DRW, GA, GX, ren, zm, za, refs, z8, cst, zq, isC, bin, una, z6, zd, blt, asArg, zg, zc, zf, z1, E.mkS, unN, ze, zn, zb, GS, simprocAttr, GZ, zk, zD]
theorem UF (a b : Ver) (ha : a.sm) (hb : b.sm) : ∀ (ra rb pa pb : List Str), a.pre = pa ++ ra → b.pre = pb ++ rb → pa.length = pb.length →
 EV Tryz.prog pol (.loop 197 250 0 [.ptr 0 0 0, .ptr 1 0 0, .t (.int .i64 (pa.length : Int))] [.vs 4 [a.enc.map .t], .vs 4 [b.enc.map .t]])
 = some (match rn ra rb with
  | some n => .loop .ret [.ptr 0 0 0, .ptr 1 0 0, .t (.int .i64 n)] [.vs 4 [a.enc.map .t], .vs 4 [b.enc.map .t]]
  | none => .loop (.exit 2) [.ptr 0 0 0, .ptr 1 0 0, .bad] [.vs 4 [a.enc.map .t], .vs 4 [b.enc.map .t]])
 | [], rb, pa, pb, h1, h2, h3 => by
  have c : decide ((pa.length : Int) < (a.pre.length : Int)) = false := by simp [h1]
  simp only [Ver.enc, List.map_cons, List.map_nil, rn]
  refine zj Tryz.func197 rfl rfl ?_
  simp (disch := ((try simp only [LL]); omega)) only [↓GO, ↓DRW, GA, GX, ren, zm, za, refs, z8, cst, zq, isC, bin, una, z6, zd, blt, asArg, zg, zc, zf, z1, E.mkS, unN, ze, zn, zb, GS, simprocAttr, GZ, zi, c, zD]
 | x :: ra, [], pa, pb, h1, h2, h3 => by
  have c : decide ((pa.length : Int) < (a.pre.length : Int)) = true := by simp [h1]; omega
  have c2 : decide ((pa.length : Int) < (b.pre.length : Int)) = false := by simp [h2]; omega
  simp only [Ver.enc, List.map_cons, List.map_nil, rn]
  refine zj Tryz.func197 rfl rfl ?_
  simp (disch := ((try simp only [LL]); omega)) only [↓GO, ↓DRW, GA, GX, ren, zm, za, refs, z8, cst, zq, isC, bin, una, z6, zd, blt, asArg, zg, zc, zf, z1, E.mkS, unN, ze, zn, zb, GS, simprocAttr, GZ, zi, c, c2, zD]
 | x :: ra, y :: rb, pa, pb, h1, h2, h3 => by
  unfold Ver.sm at ha hb
  have c : decide ((pa.length : Int) < (a.pre.length : Int)) = true := by simp [h1]; omega
  have c2 : decide ((pa.length : Int) < (b.pre.length : Int)) = true := by simp [h2]; omega
  have hg1 : (strs a.pre)[pa.length]? = some [.str x] := by rw [h1]; exact xl pa x ra
  have hg2 : (strs b.pre)[pa.length]? = some [.str y] := by rw [h2, h3]; exact xl pb y rb
  have hlen : pa.length + ra.length + 1 ≤ a.pre.length := by rw [h1]; simp; omega
  have hx : x.length ≤ 2097152 := by have := u5 (ks := a.pre) (s := x) (by rw [h1]; simp); omega
  have hy : y.length ≤ 2097152 := by have := u5 (ks := b.pre) (s := y) (by rw [h2]; simp); omega
  have hp := Q9 x y (by omega) (by omega)
  have IH := UF a b ha hb ra rb (pa ++ [x]) (pb ++ [y]) (by rw [h1]; simp) (by rw [h2]; simp) (by simp [h3])
  rw [show ((pa ++ [x]).length : Int) = (pa.length : Int) + 1 by simp] at IH
  clear h1 h2
  simp only [Ver.enc, List.map_cons, List.map_nil] at IH ⊢
  rw [rn]
  generalize td x y = n at *
  cases hn : (n == 0)
  · simp only [cond_false]
    refine zj Tryz.func197 rfl rfl ?_
    simp (disch := ((try simp only [LL]); omega)) only [↓GO, ↓DRW, GA, GX, ren, zm, za, refs, z8, cst, zq, isC, bin, una, z6, zd, blt, asArg, zg, zc, zf, z1, E.mkS, unN, ze, zn, zb, GS, simprocAttr, GZ, zi, c, c2, hg1, hg2, hp, hn, bne, zk, zD]
  · simp only [cond_true]
    refine zj Tryz.func197 rfl rfl ?_
    simp (disch := ((try simp only [LL]); omega)) only [↓GO, ↓DRW, GA, GX, ren, zm, za, refs, z8, cst, zq, isC, bin, una, z6, zd, blt, asArg, zg, zc, zf, z1, E.mkS, unN, ze, zn, zb, GS, simprocAttr, GZ, zi, c, c2, hg1, hg2, hp, hn, bne, zk, zD, IH]
theorem Qi (a b : Ver) (ha : a.sm) (hb : b.sm) : zo (EV Tryz.prog pol) 197 [.agg (a.enc.map .t), .agg (b.enc.map .t)] = some (.t (.int .i64 (dT a b))) := by
 have d1 := ot a.maj b.maj
 have d2 := ot a.min b.min
 have d3 := ot a.pat b.pat
 have d4 := ot (b.pre.length : Int) (a.pre.length : Int)
 have d5 := ot (a.pre.length : Int) (b.pre.length : Int)
 have L2 := UF a b ha hb a.pre b.pre [] [] rfl rfl rfl
 have L1 := RQ (.int .i64 a.maj) (.int .i64 a.min) (.int .i64 a.pat) (.list 1 (strs a.pre)) (.int .i64 b.maj) (.int .i64 b.min) (.int .i64 b.pat) (.list 1 (strs b.pre)) (vf a.maj b.maj) (vf a.min b.min) (vf a.pat b.pat)
 have e1 := nC a.pre
 have e2 := nC b.pre
 unfold dT vR
 simp only [List.length_nil, Int.natCast_zero] at L2
 simp only [Ver.enc, List.map_cons, List.map_nil] at L1 L2 ⊢
 generalize vf a.maj b.maj = n1 at *
 generalize vf a.min b.min = n2 at *
 generalize vf a.pat b.pat = n3 at *
 cases h1 : (n1 == 0) <;> rw [h1] at L1
 · simp only [cond_false] at L1
   apply zw
   refine zy rfl Tryz.func197 rfl (by kernel_rfl) ?_
   unfold Tryz.f197
   simp (disch := ((try simp only [LL]); omega)) only [↓GO, ↓DRW, GA, GX, ren, zm, za, refs, z8, cst, zq, isC, bin, una, z6, zd, blt, asArg, zg, zc, zf, z1, E.mkS, unN, ze, zn, zb, GS, simprocAttr, GZ, d1, d2, d3, L1, zD]
   refine zQ (by kernel_rfl) ?_
   simp (disch := ((try simp only [LL]); omega)) only [↓GO, ↓DRW, GA, GX, ren, zm, za, refs, z8, cst, zq, isC, bin, una, z6, zd, blt, asArg, zg, zc, zf, z1, E.mkS, unN, ze, zn, zb, GS, simprocAttr, GZ, d1, d2, d3, L1, zD]
 · cases h2 : (n2 == 0) <;> rw [h2] at L1
   · simp only [cond_false, cond_true] at L1
     apply zw
     refine zy rfl Tryz.func197 rfl (by kernel_rfl) ?_
     unfold Tryz.f197
     simp (disch := ((try simp only [LL]); omega)) only [↓GO, ↓DRW, GA, GX, ren, zm, za, refs, z8, cst, zq, isC, bin, una, z6, zd, blt, asArg, zg, zc, zf, z1, E.mkS, unN, ze, zn, zb, GS, simprocAttr, GZ, d1, d2, d3, L1, zD]
     refine zQ (by kernel_rfl) ?_
     simp (disch := ((try simp only [LL]); omega)) only [↓GO, ↓DRW, GA, GX, ren, zm, za, refs, z8, cst, zq, isC, bin, una, z6, zd, blt, asArg, zg, zc, zf, z1, E.mkS, unN, ze, zn, zb, GS, simprocAttr, GZ, d1, d2, d3, L1, zD]
   · cases h3 : (n3 == 0) <;> rw [h3] at L1
     · simp only [cond_false, cond_true] at L1
       apply zw
       refine zy rfl Tryz.func197 rfl (by kernel_rfl) ?_
       unfold Tryz.f197
       simp (disch := ((try simp only [LL]); omega)) only [↓GO, ↓DRW, GA, GX, ren, zm, za, refs, z8, cst, zq, isC, bin, una, z6, zd, blt, asArg, zg, zc, zf, z1, E.mkS, unN, ze, zn, zb, GS, simprocAttr, GZ, d1, d2, d3, L1, zD]
       refine zQ (by kernel_rfl) ?_
       simp (disch := ((try simp only [LL]); omega)) only [↓GO, ↓DRW, GA, GX, ren, zm, za, refs, z8, cst, zq, isC, bin, una, z6, zd, blt, asArg, zg, zc, zf, z1, E.mkS, unN, ze, zn, zb, GS, simprocAttr, GZ, d1, d2, d3, L1, zD]
     · simp only [cond_true] at L1
       cases hs : rn a.pre b.pre <;> rw [hs] at L2 <;> simp only at L2 <;> cases h4 : (a.pre == []) <;> cases h5 : (b.pre == []) <;> rw [h4] at e1 <;> rw [h5] at e2
       all_goals
        apply zw
        refine zy rfl Tryz.func197 rfl (by kernel_rfl) ?_
        unfold Tryz.f197
        simp (disch := ((try simp only [LL]); omega)) only [↓GO, ↓DRW, GA, GX, ren, zm, za, refs, z8, cst, zq, isC, bin, una, z6, zd, blt, asArg, zg, zc, zf, z1, E.mkS, unN, ze, zn, zb, GS, simprocAttr, GZ, d1, d2, d3, d4, d5, L1, L2, zi, e1, e2, zD]
        refine zQ (by kernel_rfl) ?_
        simp (disch := ((try simp only [LL]); omega)) only [↓GO, ↓DRW, GA, GX, ren, zm, za, refs, z8, cst, zq, isC, bin, una, z6, zd, blt, asArg, zg, zc, zf, z1, E.mkS, unN, ze, zn, zb, GS, simprocAttr, GZ, d1, d2, d3, d4, d5, L1, L2, zi, e1, e2, zD, Option.getD_some, Option.getD_none]
end Go.Proofs.YtonbkdklidfmfaaGreatDoor
/- The next version, the range of one alone, by the reference. Conditions: those of each lemma. -/
namespace Go.Proofs.YtonbkdklidfmfaaGreatDoor
open E
set_option linter.unusedSimpArgs false
set_option linter.unusedVariables false
set_option maxRecDepth 100000
theorem SX (v : Ver) (p : Int) : (upV v p).sm := by
 unfold upV
 cases (p == 0) <;> cases (p == 1) <;> simp [Ver.sm, yl]
theorem TJ {v : Ver} (h : v.sm) (p : Int) : (vh v p).sm := by
 unfold vh
 cases (!(yR v) || !(B2 p 0 2)) <;> cases yR (upV v p) <;> simp only [cond_true, cond_false] <;> first | exact h | exact SX v p
theorem Qb (v : Ver) (p : Int) (hs : v.sm) (hp : p = 0 ∨ p = 1 ∨ p = 2) (h1 : -1 ≤ v.maj ∧ v.maj ≤ 999999999) (h2 : -1 ≤ v.min ∧ v.min ≤ 999999999) (h3 : -1 ≤ v.pat ∧ v.pat ≤ 999999999) :
 zo (EV Tryz.prog pol) 196 [.agg (v.enc.map .t), .t (.int .i64 p)] = some (.agg ((vh v p).enc.map .t)) := by
 have d1 := bT v hs
 have d2 := bT (upV v p) (SX v p)
 have d3 := wq p 0 2
 have hb : B2 p 0 2 = true := by rcases hp with rfl | rfl | rfl <;> rfl
 have e1 := nC v.pre
 have ht : List.take (0 + (strs v.pre).length) (strs v.pre) = strs v.pre := List.take_of_length_le (by omega)
 have ht2 : List.take v.pre.length (strs v.pre) = strs v.pre := List.take_of_length_le (by rw [zi]; omega)
 unfold Ver.sm at hs
 rw [hb] at d3
 unfold vh
 rw [hb]
 simp only [Bool.not_true, Bool.or_false]
 cases ho : yR v <;> rw [ho] at d1
 · simp only [Ver.enc, List.map_cons, List.map_nil, Bool.not_false, cond_true] at d1 ⊢
   apply zw
   refine zy rfl Tryz.func196 rfl (by kernel_rfl) ?_
   unfold Tryz.f196
   simp (disch := ((try simp only [LL]); omega)) only [↓GO, ↓DRW, GA, GX, ren, zm, za, refs, z8, cst, zq, isC, bin, una, z6, zd, blt, asArg, zg, zc, zf, z1, E.mkS, unN, ze, zn, zb, GS, simprocAttr, GZ, d1, zi, ht, ht2, ya]
 · simp only [Bool.not_true, cond_false]
   unfold upV at d2 ⊢
   rcases hp with rfl | rfl | rfl
   · simp only [show ((0 : Int) == 0) = true from rfl, cond_true] at d2 ⊢
     cases hu : yR ⟨v.maj + 1, 0, 0, []⟩ <;> rw [hu] at d2 <;> simp only [Ver.enc, List.map_cons, List.map_nil, yh, cond_true, cond_false] at d1 d2 ⊢
     all_goals
      apply zw
      refine zy rfl Tryz.func196 rfl (by kernel_rfl) ?_
      unfold Tryz.f196
      simp (disch := ((try simp only [LL]); omega)) only [↓GO, ↓DRW, GA, GX, ren, zm, za, refs, z8, cst, zq, isC, bin, una, z6, zd, blt, asArg, zg, zc, zf, z1, E.mkS, unN, ze, zn, zb, GS, simprocAttr, GZ, d1, d2, d3, zi, ht, ht2, ya, zk]
   · simp only [show ((1 : Int) == 0) = false from rfl, show ((1 : Int) == 1) = true from rfl, cond_true, cond_false] at d2 ⊢
     cases hu : yR ⟨v.maj, v.min + 1, 0, []⟩ <;> rw [hu] at d2 <;> simp only [Ver.enc, List.map_cons, List.map_nil, yh, cond_true, cond_false] at d1 d2 ⊢
     all_goals
      apply zw
      refine zy rfl Tryz.func196 rfl (by kernel_rfl) ?_
      unfold Tryz.f196
      simp (disch := ((try simp only [LL]); omega)) only [↓GO, ↓DRW, GA, GX, ren, zm, za, refs, z8, cst, zq, isC, bin, una, z6, zd, blt, asArg, zg, zc, zf, z1, E.mkS, unN, ze, zn, zb, GS, simprocAttr, GZ, d1, d2, d3, zi, ht, ht2, ya, zk]
   · simp only [show ((2 : Int) == 0) = false from rfl, show ((2 : Int) == 1) = false from rfl, cond_false] at d2 ⊢
     cases hq : (v.pre == []) <;> rw [hq] at e1 d2 <;> simp only [cond_true, cond_false] at d2 ⊢
     · cases hu : yR ⟨v.maj, v.min, v.pat, []⟩ <;> rw [hu] at d2 <;> simp only [Ver.enc, List.map_cons, List.map_nil, yh, cond_true, cond_false] at d1 d2 ⊢
       all_goals
        apply zw
        refine zy rfl Tryz.func196 rfl (by kernel_rfl) ?_
        unfold Tryz.f196
        simp (disch := ((try simp only [LL]); omega)) only [↓GO, ↓DRW, GA, GX, ren, zm, za, refs, z8, cst, zq, isC, bin, una, z6, zd, blt, asArg, zg, zc, zf, z1, E.mkS, unN, ze, zn, zb, GS, simprocAttr, GZ, d1, d2, d3, e1, zi, ht, ht2, ya, zk]
     · cases hu : yR ⟨v.maj, v.min, v.pat + 1, []⟩ <;> rw [hu] at d2 <;> simp only [Ver.enc, List.map_cons, List.map_nil, yh, cond_true, cond_false] at d1 d2 ⊢
       all_goals
        apply zw
        refine zy rfl Tryz.func196 rfl (by kernel_rfl) ?_
        unfold Tryz.f196
        simp (disch := ((try simp only [LL]); omega)) only [↓GO, ↓DRW, GA, GX, ren, zm, za, refs, z8, cst, zq, isC, bin, una, z6, zd, blt, asArg, zg, zc, zf, z1, E.mkS, unN, ze, zn, zb, GS, simprocAttr, GZ, d1, d2, d3, e1, zi, ht, ht2, ya, zk]
theorem iX (v : Ver) : (xn v).sm := by simp [xn, Ver.sm, yl]
theorem Sy (v : Ver) (p : Int) (hs : v.sm) (hp : p = 0 ∨ p = 1 ∨ p = 2) (h1 : -1 ≤ v.maj ∧ v.maj ≤ 999999999) (h2 : -1 ≤ v.min ∧ v.min ≤ 999999999) (h3 : -1 ≤ v.pat ∧ v.pat ≤ 999999999) :
 zo (EV Tryz.prog pol) 181 [.agg (v.enc.map .t), .t (.int .i64 p)] = some (.tup [.t (.str (lA v p).1), .t (.bool (lA v p).2)]) := by
 have d1 := Qb (xn v) p (iX v) hp h1 h2 h3
 have d2 := Qi (vh (xn v) p) (xn v) (TJ (iX v) p) (iX v)
 have d3 := lf ⟨(vh (xn v) p).maj, (vh (xn v) p).min, (vh (xn v) p).pat, [[48]]⟩ (aa _ _ _)
 unfold lA
 generalize dT (vh (xn v) p) (xn v) = cm at *
 generalize yd ⟨(vh (xn v) p).maj, (vh (xn v) p).min, (vh (xn v) p).pat, [[48]]⟩ = tx at *
 generalize vh (xn v) p = nx at *
 simp only [Ver.enc, xn, List.map_cons, List.map_nil, vM, yh] at d1 d2 d3 ⊢
 cases hc : (cm == 0)
 all_goals
  apply zw
  refine zy rfl Tryz.func181 rfl (by kernel_rfl) ?_
  unfold Tryz.f181
  simp (disch := ((try simp only [LL]); omega)) only [↓GO, ↓DRW, GA, GX, ren, zm, za, refs, z8, cst, zq, isC, bin, una, z6, zd, blt, asArg, zg, zc, zf, z1, E.mkS, unN, ze, zn, zb, GS, simprocAttr, GZ, d1, d2, d3, hc, yh]
def alT (s : Str) : V := match vB s with
 | some (l, h) => .tup [.agg [.t (.str l), .t (.str h)], .t (.bool true)]
 | none => .tup [.agg [.t (.str []), .t (.str [])], .t (.bool false)]
theorem WI (s : Str) (hl : s.length ≤ 1048600) : zo (EV Tryz.prog pol) 150 [.t (.str s)] = some (alT s) := by
 have d1 := Rm s (by omega)
 have d2 := Rm (s ++ [46, 48]) (by simp only [List.length_append, List.length_cons, List.length_nil]; omega)
 obtain ⟨m1, m2, m3, m4, m5, m6, m7⟩ := nW s (by omega)
 have d3 := Sy (zT s).1 2 m1 (by omega) ⟨m3, m2⟩ ⟨m5, m4⟩ ⟨m7, m6⟩
 have hg := bL (zT s).1.pre
 unfold rvT at d1 d2
 unfold alT vB lE
 cases hk : (zT s).2 with
 | false =>
  rw [hk] at d1
  generalize (zT s).1 = v at *
  simp only [Bool.false_and, cond_false]
  simp only [Ver.enc, List.map_cons, List.map_nil] at d1 ⊢
  apply zw
  refine zy rfl Tryz.func150 rfl (by kernel_rfl) ?_
  unfold Tryz.f150
  simp (disch := ((try simp only [LL]); omega)) only [↓GO, ↓DRW, GA, GX, ren, zm, za, refs, z8, cst, zq, isC, bin, una, z6, zd, blt, asArg, zg, zc, zf, z1, E.mkS, unN, ze, zn, zb, GS, simprocAttr, GZ, d1]
 | true =>
  have ho := (wJ hk).2.2.1
  rw [hk] at d1
  cases hp : ((zT s).1.pre == []) with
  | true =>
   have hb := WQ ho 2 (by omega)
   simp only [show ((2 : Int) == 0) = false from rfl, show ((2 : Int) == 1) = false from rfl, show ((2 : Int) == 2) = true from rfl, cond_true, cond_false] at hb
   rw [hb] at d3
   rw [hp] at hg
   simp only [Bool.not_true, cond_true, Bool.true_and] at hg ⊢
   generalize (zT s).1 = v at *
   generalize xX v.maj v.min (v.pat + 1) = zp at *
   simp only [Ver.enc, List.map_cons, List.map_nil] at d1 d3 ⊢
   clear d2 hb
   cases hz : (zp == []) <;> rw [hz] at d3 <;> simp only [Bool.not_true, Bool.not_false, cond_true, cond_false] at d3 ⊢
   all_goals
    apply zw
    refine zy rfl Tryz.func150 rfl (by kernel_rfl) ?_
    unfold Tryz.f150
    simp (disch := ((try simp only [LL]); omega)) only [↓GO, ↓DRW, GA, GX, ren, zm, za, refs, z8, cst, zq, isC, bin, una, z6, zd, blt, asArg, zg, zc, zf, z1, E.mkS, unN, ze, zn, zb, GS, simprocAttr, GZ, d1, d3, hg, zi]
  | false =>
   obtain ⟨r1, r2⟩ := Yb hk (fun h => by rw [h] at hp; cases hp)
   rw [r1] at d2
   rw [hp] at hg
   simp only [Bool.not_false, cond_false, Bool.true_and] at hg ⊢
   rw [r2]
   generalize yR (rM (zT s).1) = pk at *
   generalize rM (zT s).1 = pv at *
   generalize (zT s).1 = v at *
   have hne : ((s ++ [46, 48]) == []) = false := by cases s <;> rfl
   simp only [Ver.enc, List.map_cons, List.map_nil] at d1 ⊢
   cases pk <;> simp only [Ver.enc, List.map_cons, List.map_nil, cond_true, cond_false, hne, Bool.not_false, show (([] : Str) == []) = true from rfl, Bool.not_true] at d2 ⊢
   all_goals
    apply zw
    refine zy rfl Tryz.func150 rfl (by kernel_rfl) ?_
    unfold Tryz.f150
    simp (disch := ((try simp only [LL]); omega)) only [↓GO, ↓DRW, GA, GX, ren, zm, za, refs, z8, cst, zq, isC, bin, una, z6, zd, blt, asArg, zg, zc, zf, z1, E.mkS, unN, ze, zn, zb, GS, simprocAttr, GZ, d1, d2, hg, zi, ya]
theorem c_exR (s : Str) (hl : s.length ≤ 1048600) : zo (EV Tryz.prog pol) 121 [.t (.str s)] = some (.t (.list 2 (exT s))) := by
 have d1 := WI s hl
 unfold exT
 unfold alT at d1
 cases he : vB s with
 | none =>
  rw [he] at d1
  simp only at d1 ⊢
  apply zw
  refine zy rfl Tryz.func121 rfl (by kernel_rfl) ?_
  unfold Tryz.f121
  simp (disch := ((try simp only [LL]); omega)) only [↓GO, ↓DRW, GA, GX, ren, zm, za, refs, z8, cst, zq, isC, bin, una, z6, zd, blt, asArg, zg, zc, zf, z1, E.mkS, unN, ze, zn, zb, GS, simprocAttr, GZ, d1]
 | some x =>
  obtain ⟨l, h⟩ := x
  rw [he] at d1
  simp only at d1 ⊢
  apply zw
  refine zy rfl Tryz.func121 rfl (by kernel_rfl) ?_
  unfold Tryz.f121
  simp (disch := ((try simp only [LL]); omega)) only [↓GO, ↓DRW, GA, GX, ren, zm, za, refs, z8, cst, zq, isC, bin, una, z6, zd, blt, asArg, zg, zc, zf, z1, E.mkS, unN, ze, zn, zb, GS, simprocAttr, GZ, d1]
end Go.Proofs.YtonbkdklidfmfaaGreatDoor
/- The library's searches, at fields. Conditions: those of each lemma. -/
namespace Go.Proofs.YtonbkdklidfmfaaGreatDoor
open E
set_option linter.unusedSimpArgs false
set_option linter.unusedVariables false
set_option maxRecDepth 100000
def vZ {α : Type} (p : α → Bool) : List α → Nat → Option Nat
 | [], _ => none
 | x :: r, n => if p x = true then some n else vZ p r (n + 1)
def ixI : Option Nat → Int
 | some n => (n : Int)
 | none => -1
theorem qZ {α : Type} (p : α → Bool) : ∀ (l : List α) (n : Nat), (vZ p l n).isSome = l.any p
 | [], _ => rfl
 | x :: r, n => by
  simp only [vZ, List.any_cons]
  split
  · rename_i h; simp [h]
  · rename_i h; rw [qZ p r (n + 1)]; simp [h]
end Go.Proofs.YtonbkdklidfmfaaGreatDoor
/- The library's searches, at packs and sums. Conditions: those of each lemma. -/
namespace Go.Proofs.YtonbkdklidfmfaaGreatDoor
open E
set_option linter.unusedSimpArgs false
set_option linter.unusedVariables false
set_option maxRecDepth 100000
theorem oO (g : Nat) (caps : List T) (p : z7 → Bool) (es : List z7) (hl : es.length ≤ 4611686018427387904) (hp : ∀ x ∈ es, zo (EV Tryz.prog pol) g (.agg (x.enc.map .t) :: caps.map .t) = some (.t (.bool (p x)))) : ∀ (rest pre : List z7), es = pre ++ rest →
 EV Tryz.prog pol (.loop 87 26 0 [.t (.list 6 (z7.zh es)), .t (.fn g caps), .t (.int .i64 (es.length : Int)), .t (.int .i64 (pre.length : Int))] []) = some (match vZ p rest pre.length with | some i => .loop .ret [.t (.int .i64 (i : Int))] [] | none => .loop (.exit 0) [.bad] [])
 | [], pre, hs => by
  have c : decide ((pre.length : Int) < (es.length : Int)) = false := by simp [hs]
  refine zj Tryz.func87 rfl rfl ?_
  simp only [↓GO, ↓DRW, GA, GX, ren, zm, za, refs, z8, cst, zq, isC, bin, una, z6, zd, blt, asArg, zg, zc, zf, z1, E.mkS, unN, ze, zn, zb, GS, simprocAttr, c, vZ]
 | b :: rest, pre, hs => by
  have c : decide ((pre.length : Int) < (es.length : Int)) = true := by simp [hs]; omega
  have hi : pre.length < es.length := by rw [hs]; simp
  have hget := z7.w6 es pre.length hi
  have hgb : es[pre.length] = b := by simp [hs]
  rw [hgb] at hget
  have hb := hp b (by rw [hs]; simp)
  have e1 : (pre.length : Int) + 1 = ((pre ++ [b]).length : Int) := by simp
  have IH := oO g caps p es hl hp rest (pre ++ [b]) (by rw [hs]; simp)
  refine zj Tryz.func87 rfl rfl ?_
  simp only [vZ]
  cases hpb : p b with
  | true =>
   rw [hpb] at hb
   simp (disch := omega) only [↓GO, ↓DRW, GA, GX, ren, zm, za, refs, z8, cst, zq, isC, bin, una, z6, zd, blt, asArg, zg, zc, zf, z1, E.mkS, unN, ze, zn, zb, GS, simprocAttr, z7.zu, c, hget, z7.vK, z7.wN, zk, hb]
  | false =>
   rw [hpb] at hb
   simp (disch := omega) only [↓GO, ↓DRW, GA, GX, ren, zm, za, refs, z8, cst, zq, isC, bin, una, z6, zd, blt, asArg, zg, zc, zf, z1, E.mkS, unN, ze, zn, zb, GS, simprocAttr, z7.zu, c, hget, z7.vK, z7.wN, zk, hb]
   rw [e1, IH]
   simp
theorem si (g : Nat) (caps : List T) (p : z7 → Bool) (es : List z7) (hl : es.length ≤ 4611686018427387904) (hp : ∀ x ∈ es, zo (EV Tryz.prog pol) g (.agg (x.enc.map .t) :: caps.map .t) = some (.t (.bool (p x)))) :
 zo (EV Tryz.prog pol) 87 [.t (.list 6 (z7.zh es)), .t (.fn g caps)] = some (.t (.int .i64 (ixI (vZ p es 0)))) := by
 have IH := oO g caps p es hl hp es [] rfl
 simp only [List.length_nil, Int.natCast_zero] at IH
 apply zw
 refine zy rfl Tryz.func87 rfl (by kernel_rfl) ?_
 unfold Tryz.f87
 cases hf : vZ p es 0 with
 | none => rw [hf] at IH; simp only [↓GO, ↓DRW, GA, GX, ren, zm, za, refs, z8, cst, zq, isC, bin, una, z6, zd, blt, asArg, zg, zc, zf, z1, E.mkS, unN, ze, zn, zb, GS, simprocAttr, z7.zu, IH, ixI]
 | some i => rw [hf] at IH; simp only [↓GO, ↓DRW, GA, GX, ren, zm, za, refs, z8, cst, zq, isC, bin, una, z6, zd, blt, asArg, zg, zc, zf, z1, E.mkS, unN, ze, zn, zb, GS, simprocAttr, z7.zu, IH, ixI]
end Go.Proofs.YtonbkdklidfmfaaGreatDoor

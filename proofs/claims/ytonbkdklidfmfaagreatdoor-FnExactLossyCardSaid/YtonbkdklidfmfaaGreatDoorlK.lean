/- Joined: K2 K3 K4 K5 K6 V3 K7 K8 V4 K9 G3 V5 V6 V7 V8 V9 V10. Conditions: those of each lemma. -/
import Derived.Test.YtonbkdklidfmfaaGreatDoorlJ
import Derived.Test.YtonbkdklidfmfaaGreatDoorlI
import Derived.Test.YtonbkdklidfmfaaGreatDoorlH
set_option linter.unusedVariables false
set_option linter.unusedSimpArgs false
namespace Go.Proofs.YtonbkdklidfmfaaGreatDoor
open E
set_option linter.unusedSimpArgs false
set_option linter.unusedVariables false
set_option maxRecDepth 100000
theorem Rs (n : Int) : B2 n 0 999999999 = n9 n := rfl
/-- a version of bounded size -/
def Ver.sm (v : Ver) : Prop := v.pre.length + yb v.pre ≤ 2097152
theorem nO {α : Type} [BEq α] (l : List α) : ((l.length : Int) == 0) = (l == []) := by
 cases l with
 | nil => rfl
 | cons x l =>
  have h1 : ((x :: l) == []) = false := rfl
  have h2 : (((x :: l).length : Int) == 0) = false := by rw [beq_eq_false_iff_ne]; simp only [List.length_cons]; omega
  rw [h1, h2]
theorem bV {α : Type} [BEq α] (l : List α) : decide ((l.length : Int) > 0) = !(l == []) := by
 cases l with
 | nil => rfl
 | cons x l =>
  have h1 : ((x :: l) == []) = false := rfl
  have h2 : decide (((x :: l).length : Int) > 0) = true := by simp only [decide_eq_true_eq, List.length_cons]; omega
  rw [h1, h2]; rfl
theorem T9 (b : UInt8) : B2 (b.toNat : Int) 48 57 = isD b := bU b
theorem cQ (a : Int) : zm (EV Tryz.prog pol) 219 [.t (.int .u8 a)] = some (.t (.bool (B2 a 97 122 || B2 a 65 90))) := by
 have h1 := jE a
 apply zu
 refine zw rfl Tryz.func219 rfl (by kernel_rfl) ?_
 unfold Tryz.f219
 cases h2 : B2 a 97 122 <;> rw [h2] at h1
 · unfold B2
   cases h3 : decide ((65 : Int) ≤ a) <;> simp (disch := ((try simp only [LL]); omega)) only [↓GO, ↓DRW, GA, GX, ren, zn, za, refs, z8, cst, zr, isC, bin, una, z7, zd, blt, asArg, zg, zc, zf, z6, E.mkS, unN, ze, zq, zb, GS, simprocAttr, GZ, h1, h3, ge_iff_le]
 · simp (disch := ((try simp only [LL]); omega)) only [↓GO, ↓DRW, GA, GX, ren, zn, za, refs, z8, cst, zr, isC, bin, una, z7, zd, blt, asArg, zg, zc, zf, z6, E.mkS, unN, ze, zq, zb, GS, simprocAttr, GZ, h1]
theorem Qt (b : UInt8) : zm (EV Tryz.prog pol) 218 [.t (.int .u8 (b.toNat : Int))] = some (.t (.bool (preB b))) := by
 have h1 := cQ (b.toNat : Int)
 have h2 := oz (b.toNat : Int)
 apply zu
 refine zw rfl Tryz.func218 rfl (by kernel_rfl) ?_
 unfold Tryz.f218
 unfold preB
 simp only [nb]
 cases h3 : B2 (b.toNat : Int) 97 122 <;> cases h4 : B2 (b.toNat : Int) 65 90 <;> cases h5 : B2 (b.toNat : Int) 48 57 <;> rw [h3, h4] at h1 <;> rw [h5] at h2 <;>
  simp (disch := ((try simp only [LL]); omega)) only [↓GO, ↓DRW, GA, GX, ren, zn, za, refs, z8, cst, zr, isC, bin, una, z7, zd, blt, asArg, zg, zc, zf, z6, E.mkS, unN, ze, zq, zb, GS, simprocAttr, GZ, h1, h2]
theorem SX (b : UInt8) : zm (EV Tryz.prog pol) 157 [.t (.int .u8 (b.toNat : Int))] = some (.t (.bool (isD b))) := by
 rw [oz, T9]
theorem SW (s : Str) (hl : s.length ≤ 9223372036854775807) : zm (EV Tryz.prog pol) 220 [.t (.str s)] = some (.t (.bool (isNum s))) := by
 have h := Yd 157 isD SX s hl
 apply zu
 refine zw rfl Tryz.func220 rfl (by kernel_rfl) ?_
 unfold Tryz.f220
 unfold isNum
 cases h1 : (s == []) <;> simp (disch := ((try simp only [LL]); omega)) only [↓GO, ↓DRW, GA, GX, ren, zn, za, refs, z8, cst, zr, isC, bin, una, z7, zd, blt, asArg, zg, zc, zf, z6, E.mkS, unN, ze, zq, zb, GS, simprocAttr, GZ, h, h1, bne]
theorem Sh (x1 x2 x3 x4 : T) (a b c : Int) :
 EV Tryz.prog pol (.loop 204 26 0 [.ptr 0 0 0, .sl 1 0 3 (some 3), .t (.int .i64 3), .t (.int .i64 0)] [.vs 4 [[.t x1, .t x2, .t x3, .t x4]], .ts 1 [[.int .i64 a], [.int .i64 b], [.int .i64 c]]])
 = some (cond (n9 a && (n9 b && n9 c)) (.loop (.exit 0) [.ptr 0 0 0, .bad] [.vs 4 [[.t x1, .t x2, .t x3, .t x4]]]) (.loop .ret [.ptr 0 0 0, .t (.bool false)] [.vs 4 [[.t x1, .t x2, .t x3, .t x4]]])) := by
 have ha := wM a 0 999999999
 have hb := wM b 0 999999999
 have hc := wM c 0 999999999
 rw [Rs] at ha hb hc
 cases h1 : n9 a <;> rw [h1] at ha
 · refine zk Tryz.func204 rfl rfl ?_
   simp (disch := ((try simp only [LL]); omega)) only [↓GO, ↓DRW, GA, GX, ren, zn, za, refs, z8, cst, zr, isC, bin, una, z7, zd, blt, asArg, zg, zc, zf, z6, E.mkS, unN, ze, zq, zb, GS, simprocAttr, GZ, ha, zo, zF, Int.cast_ofNat_Int]
 · refine zk Tryz.func204 rfl rfl ?_
   simp (disch := ((try simp only [LL]); omega)) only [↓GO, ↓DRW, GA, GX, ren, zn, za, refs, z8, cst, zr, isC, bin, una, z7, zd, blt, asArg, zg, zc, zf, z6, E.mkS, unN, ze, zq, zb, GS, simprocAttr, GZ, ha, zo, zF, Int.cast_ofNat_Int]
   cases h2 : n9 b <;> rw [h2] at hb
   · refine zk Tryz.func204 rfl rfl ?_
     simp (disch := ((try simp only [LL]); omega)) only [↓GO, ↓DRW, GA, GX, ren, zn, za, refs, z8, cst, zr, isC, bin, una, z7, zd, blt, asArg, zg, zc, zf, z6, E.mkS, unN, ze, zq, zb, GS, simprocAttr, GZ, hb, zo, Int.zero_add, zF, Int.cast_ofNat_Int, Int.reduceAdd]
   · refine zk Tryz.func204 rfl rfl ?_
     simp (disch := ((try simp only [LL]); omega)) only [↓GO, ↓DRW, GA, GX, ren, zn, za, refs, z8, cst, zr, isC, bin, una, z7, zd, blt, asArg, zg, zc, zf, z6, E.mkS, unN, ze, zq, zb, GS, simprocAttr, GZ, hb, zo, Int.zero_add, zF, Int.cast_ofNat_Int, Int.reduceAdd]
     cases h3 : n9 c <;> rw [h3] at hc
     · refine zk Tryz.func204 rfl rfl ?_
       simp (disch := ((try simp only [LL]); omega)) only [↓GO, ↓DRW, GA, GX, ren, zn, za, refs, z8, cst, zr, isC, bin, una, z7, zd, blt, asArg, zg, zc, zf, z6, E.mkS, unN, ze, zq, zb, GS, simprocAttr, GZ, hc, zo, Int.zero_add, zF, Int.cast_ofNat_Int, Int.reduceAdd]
     · refine zk Tryz.func204 rfl rfl ?_
       simp (disch := ((try simp only [LL]); omega)) only [↓GO, ↓DRW, GA, GX, ren, zn, za, refs, z8, cst, zr, isC, bin, una, z7, zd, blt, asArg, zg, zc, zf, z6, E.mkS, unN, ze, zq, zb, GS, simprocAttr, GZ, hc, zo, Int.zero_add, zF, Int.cast_ofNat_Int, Int.reduceAdd]
       refine zk Tryz.func204 rfl rfl ?_
       simp (disch := ((try simp only [LL]); omega)) only [↓GO, ↓DRW, GA, GX, ren, zn, za, refs, z8, cst, zr, isC, bin, una, z7, zd, blt, asArg, zg, zc, zf, z6, E.mkS, unN, ze, zq, zb, GS, simprocAttr, GZ, zo, Int.zero_add, zF, Int.cast_ofNat_Int, Int.reduceAdd]
theorem Z3 (v : Ver) (hs : v.sm) : ∀ (rest pre : List Str), v.pre = pre ++ rest →
 EV Tryz.prog pol (.loop 204 58 0 [.ptr 0 0 0, .t (.list 1 (strs v.pre)), .t (.int .i64 (v.pre.length : Int)), .t (.int .i64 (pre.length : Int))] [.vs 4 [v.enc.map .t]])
 = some (cond (rest.all tI) (.loop (.exit 2) [.ptr 0 0 0, .bad] [.vs 4 [v.enc.map .t]]) (.loop .ret [.ptr 0 0 0, .t (.bool false)] [.vs 4 [v.enc.map .t]]))
 | [], pre, hp => by
  have c : decide ((pre.length : Int) < (v.pre.length : Int)) = false := by simp [hp]
  refine zk Tryz.func204 rfl rfl ?_
  simp only [↓GO, ↓DRW, GA, GX, ren, zn, za, refs, z8, cst, zr, isC, bin, una, z7, zd, blt, asArg, zg, zc, zf, z6, E.mkS, unN, ze, zq, zb, GS, simprocAttr, c, Ver.enc]
 | x :: rest, pre, hp => by
  unfold Ver.sm at hs
  have c : decide ((pre.length : Int) < (v.pre.length : Int)) = true := by simp [hp]; omega
  have hget : (strs v.pre)[pre.length]? = some [.str x] := by rw [hp]; exact wY pre x rest
  have hlen : pre.length + rest.length + 1 ≤ v.pre.length := by rw [hp]; simp; omega
  have hx : x.length ≤ 2097152 := by have := uu (ks := v.pre) (s := x) (by rw [hp]; simp); omega
  have IH := Z3 v hs rest (pre ++ [x]) (by rw [hp]; simp)
  rw [show ((pre ++ [x]).length : Int) = (pre.length : Int) + 1 by simp] at IH
  have h1 := wM (x.length : Int) 1 20
  have h2 := Yd 218 preB Qt x (by omega)
  have h3 := SW x (by omega)
  have h4 := Yb x (by omega)
  clear hp
  simp only [Ver.enc, List.map_cons, List.map_nil] at IH ⊢
  rw [List.all_cons, tI]
  have e4 : decide (zQ x < 0) = !decide (0 ≤ zQ x) := by
   rcases Int.lt_or_le (zQ x) 0 with h | h
   · have a : ¬ (0 ≤ zQ x) := by omega
     simp [h, a]
   · have a : ¬ (zQ x < 0) := by omega
     simp [h, a]
  generalize B2 (x.length : Int) 1 20 = b1 at *
  generalize x.all preB = b2 at *
  generalize isNum x = b3 at *
  generalize zQ x = rd at *
  generalize decide (0 ≤ rd) = b4 at *
  cases b1 <;> cases b2 <;> cases b3 <;> cases b4 <;> refine zk Tryz.func204 rfl rfl ?_ <;>
   simp (disch := ((try simp only [LL]); omega)) only [↓GO, ↓DRW, GA, GX, ren, zn, za, refs, z8, cst, zr, isC, bin, una, z7, zd, blt, asArg, zg, zc, zf, z6, E.mkS, unN, ze, zq, zb, GS, simprocAttr, GZ, c, hget, zo, h1, h2, h3, h4, e4, zh, IH, zF]
theorem Qo (v : Ver) (hs : v.sm) : zm (EV Tryz.prog pol) 204 [.agg (v.enc.map .t)] = some (.t (.bool (x8 v))) := by
 have h1 := Sh (.int .i64 v.maj) (.int .i64 v.min) (.int .i64 v.pat) (.list 1 (strs v.pre)) v.maj v.min v.pat
 have h2 := Z3 v hs v.pre [] rfl
 unfold Ver.sm at hs
 simp only [List.length_nil, Int.natCast_zero] at h2
 simp only [Ver.enc, List.map_cons, List.map_nil] at h1 h2 ⊢
 unfold x8
 generalize (n9 v.maj && (n9 v.min && n9 v.pat)) = b1 at *
 generalize v.pre.all tI = b2 at *
 apply zu
 refine zw rfl Tryz.func204 rfl (by kernel_rfl) ?_
 unfold Tryz.f204
 cases b1 <;> cases b2 <;> simp only [cond_true, cond_false] at h1 h2 <;>
  simp (disch := ((try simp only [LL]); omega)) only [↓GO, ↓DRW, GA, GX, ren, zn, za, refs, z8, cst, zr, isC, bin, una, z7, zd, blt, asArg, zg, zc, zf, z6, E.mkS, unN, ze, zq, zb, GS, simprocAttr, GZ, h1, h2, zh, zF, Int.cast_ofNat_Int]
theorem SY (b : UInt8) : zm (EV Tryz.prog pol) 207 [.t (.int .u8 (b.toNat : Int))] = some (.t (.bool (B2 (b.toNat : Int) 65 90))) := by
 have h := wy (b.toNat : Int) 65 90
 apply zu
 refine zw rfl Tryz.func207 rfl (by kernel_rfl) ?_
 unfold Tryz.f207
 simp (disch := ((try simp only [LL]); omega)) only [↓GO, ↓DRW, GA, GX, ren, zn, za, refs, z8, cst, zr, isC, bin, una, z7, zd, blt, asArg, zg, zc, zf, z6, E.mkS, unN, ze, zq, zb, GS, simprocAttr, GZ, h, conv, wrap_u8]
theorem T4 (s : Str) (hl : s.length ≤ 2097152) : ∀ (rest pre : Str), s = pre ++ rest →
 EV Tryz.prog pol (.loop 208 26 0 [.t (.str s), .t (.int .i64 (pre.length : Int))] []) = some (cond (rest.all isD) (.loop (.exit 0) [.t (.str s), .bad] []) (.loop .ret [.t (.str s), .t (.bool false)] []))
 | [], pre, hs => by
  have c : decide ((pre.length : Int) < (s.length : Int)) = false := by simp [hs]
  refine zk Tryz.func208 rfl rfl ?_
  simp only [↓GO, ↓DRW, GA, GX, ren, zn, za, refs, z8, cst, zr, isC, bin, una, z7, zd, blt, asArg, zg, zc, zf, z6, E.mkS, unN, ze, zq, zb, GS, simprocAttr, c]
 | b :: rest, pre, hs => by
  have c : decide ((pre.length : Int) < (s.length : Int)) = true := by simp [hs]; omega
  have hget : s[pre.length]? = some b := by rw [hs]; exact sk pre b rest
  have hlen : s.length = pre.length + rest.length + 1 := by rw [hs]; simp; omega
  have IH := T4 s hl rest (pre ++ [b]) (by rw [hs]; simp)
  rw [show ((pre ++ [b]).length : Int) = (pre.length : Int) + 1 by simp] at IH
  have hb := wy (b.toNat : Int) 48 57
  rw [T9] at hb
  clear hs
  refine zk Tryz.func208 rfl rfl ?_
  cases h1 : isD b <;> rw [h1] at hb <;>
   simp (disch := ((try simp only [LL]); omega)) only [↓GO, ↓DRW, GA, GX, ren, zn, za, refs, z8, cst, zr, isC, bin, una, z7, zd, blt, asArg, zg, zc, zf, z6, E.mkS, unN, ze, zq, zb, GS, simprocAttr, GZ, c, hget, zo, conv, wrap_u8, hb, h1, IH]
theorem QD (s : Str) (hl : s.length ≤ 2097152) : zm (EV Tryz.prog pol) 208 [.t (.str s)] = some (.t (.bool (isNum s))) := by
 have IH := T4 s hl s [] rfl
 simp only [List.length_nil, Int.natCast_zero] at IH
 apply zu
 refine zw rfl Tryz.func208 rfl (by kernel_rfl) ?_
 unfold Tryz.f208
 unfold isNum
 cases h1 : s.all isD <;> rw [h1] at IH <;> simp only [cond_true, cond_false] at IH <;>
  simp (disch := ((try simp only [LL]); omega)) only [↓GO, ↓DRW, GA, GX, ren, zn, za, refs, z8, cst, zr, isC, bin, una, z7, zd, blt, asArg, zg, zc, zf, z6, E.mkS, unN, ze, zq, zb, GS, simprocAttr, GZ, IH, bne]
theorem UZ (s : Str) (hl : s.length ≤ 2097152) : ∀ (rest pre : Str), s = pre ++ rest →
 EV Tryz.prog pol (.loop 192 26 0 [.t (.str s), .t (.int .i64 (pre.length : Int))] []) = some (cond (rest.all preB) (.loop (.exit 0) [.t (.str s), .bad] []) (.loop .ret [.t (.str s), .t (.bool false)] []))
 | [], pre, hs => by
  have c : decide ((pre.length : Int) < (s.length : Int)) = false := by simp [hs]
  refine zk Tryz.func192 rfl rfl ?_
  simp only [↓GO, ↓DRW, GA, GX, ren, zn, za, refs, z8, cst, zr, isC, bin, una, z7, zd, blt, asArg, zg, zc, zf, z6, E.mkS, unN, ze, zq, zb, GS, simprocAttr, c]
 | b :: rest, pre, hs => by
  have c : decide ((pre.length : Int) < (s.length : Int)) = true := by simp [hs]; omega
  have hget : s[pre.length]? = some b := by rw [hs]; exact sk pre b rest
  have hlen : s.length = pre.length + rest.length + 1 := by rw [hs]; simp; omega
  have IH := UZ s hl rest (pre ++ [b]) (by rw [hs]; simp)
  rw [show ((pre ++ [b]).length : Int) = (pre.length : Int) + 1 by simp] at IH
  have hb := nr b
  have hg := SY b
  clear hs
  refine zk Tryz.func192 rfl rfl ?_
  rw [List.all_cons, preB]
  simp only [nb] at *
  cases h1 : (B2 (b.toNat : Int) 97 122 || B2 (b.toNat : Int) 48 57) <;> rw [h1] at hb <;> cases h2 : B2 (b.toNat : Int) 65 90 <;> rw [h2] at hg <;> cases h3 : ((b.toNat : Int) == 45) <;>
   simp (disch := ((try simp only [LL]); omega)) only [↓GO, ↓DRW, GA, GX, ren, zn, za, refs, z8, cst, zr, isC, bin, una, z7, zd, blt, asArg, zg, zc, zf, z6, E.mkS, unN, ze, zq, zb, GS, simprocAttr, GZ, c, hget, zo, hb, hg, h3, bne, IH]
theorem Qs (s : Str) (hl : s.length ≤ 2097152) : zm (EV Tryz.prog pol) 192 [.t (.str s)] = some (.t (.bool (tI s))) := by
 have IH := UZ s hl s [] rfl
 simp only [List.length_nil, Int.natCast_zero] at IH
 have h1 := wy (s.length : Int) 1 20
 have h3 := QD s hl
 have h4 := iy s (by omega)
 apply zu
 refine zw rfl Tryz.func192 rfl (by kernel_rfl) ?_
 unfold Tryz.f192
 unfold tI
 generalize B2 (s.length : Int) 1 20 = b1 at *
 generalize isNum s = b3 at *
 generalize zQ s = rd at *
 cases ha : s.all preB <;> rw [ha] at IH <;> simp only [cond_true, cond_false] at IH <;> cases b1 <;> cases b3 <;>
  simp (disch := ((try simp only [LL]); omega)) only [↓GO, ↓DRW, GA, GX, ren, zn, za, refs, z8, cst, zr, isC, bin, una, z7, zd, blt, asArg, zg, zc, zf, z6, E.mkS, unN, ze, zq, zb, GS, simprocAttr, GZ, IH, h1, h3, h4, ge_iff_le]
theorem UX (v : Ver) (hs : v.sm) : ∀ (rest pre : List Str), v.pre = pre ++ rest →
 EV Tryz.prog pol (.loop 171 26 0 [.ptr 0 0 0, .t (.int .i64 (pre.length : Int))] [.vs 4 [v.enc.map .t]])
 = some (cond (rest.all tI) (.loop (.exit 0) [.ptr 0 0 0, .bad] [.vs 4 [v.enc.map .t]]) (.loop .ret [.ptr 0 0 0, .t (.bool false)] [.vs 4 [v.enc.map .t]]))
 | [], pre, hp => by
  have c : decide ((pre.length : Int) < (v.pre.length : Int)) = false := by simp [hp]
  refine zk Tryz.func171 rfl rfl ?_
  simp only [↓GO, ↓DRW, GA, GX, ren, zn, za, refs, z8, cst, zr, isC, bin, una, z7, zd, blt, asArg, zg, zc, zf, z6, E.mkS, unN, ze, zq, zb, GS, simprocAttr, zh, c, Ver.enc]
 | x :: rest, pre, hp => by
  unfold Ver.sm at hs
  have c : decide ((pre.length : Int) < (v.pre.length : Int)) = true := by simp [hp]; omega
  have hget : (strs v.pre)[pre.length]? = some [.str x] := by rw [hp]; exact wY pre x rest
  have hlen : pre.length + rest.length + 1 ≤ v.pre.length := by rw [hp]; simp; omega
  have hx : x.length ≤ 2097152 := by have := uu (ks := v.pre) (s := x) (by rw [hp]; simp); omega
  have IH := UX v hs rest (pre ++ [x]) (by rw [hp]; simp)
  rw [show ((pre ++ [x]).length : Int) = (pre.length : Int) + 1 by simp] at IH
  have h1 := Qs x hx
  clear hp
  simp only [Ver.enc, List.map_cons, List.map_nil] at IH ⊢
  cases h2 : tI x <;> rw [h2] at h1 <;> refine zk Tryz.func171 rfl rfl ?_ <;>
   simp (disch := ((try simp only [LL]); omega)) only [↓GO, ↓DRW, GA, GX, ren, zn, za, refs, z8, cst, zr, isC, bin, una, z7, zd, blt, asArg, zg, zc, zf, z6, E.mkS, unN, ze, zq, zb, GS, simprocAttr, GZ, c, hget, zo, h1, h2, zh, IH, zF]
theorem a6 (v : Ver) (hs : v.sm) : zm (EV Tryz.prog pol) 171 [.agg (v.enc.map .t)] = some (.t (.bool (x8 v))) := by
 have h2 := UX v hs v.pre [] rfl
 have ha := wy v.maj 0 999999999
 have hb := wy v.min 0 999999999
 have hc := wy v.pat 0 999999999
 rw [Rs] at ha hb hc
 unfold Ver.sm at hs
 simp only [List.length_nil, Int.natCast_zero] at h2
 simp only [Ver.enc, List.map_cons, List.map_nil] at h2 ⊢
 unfold x8
 generalize n9 v.maj = b1 at *
 generalize n9 v.min = b3 at *
 generalize n9 v.pat = b4 at *
 generalize v.pre.all tI = b2 at *
 apply zu
 refine zw rfl Tryz.func171 rfl (by kernel_rfl) ?_
 unfold Tryz.f171
 cases b2 <;> simp only [cond_true, cond_false] at h2 <;> cases b1 <;> cases b3 <;> cases b4 <;>
  simp (disch := ((try simp only [LL]); omega)) only [↓GO, ↓DRW, GA, GX, ren, zn, za, refs, z8, cst, zr, isC, bin, una, z7, zd, blt, asArg, zg, zc, zf, z6, E.mkS, unN, ze, zq, zb, GS, simprocAttr, GZ, h2, ha, hb, hc, zh, zF]
end Go.Proofs.YtonbkdklidfmfaaGreatDoor
/- The text of a version, and back, by both. Conditions: those of each lemma. -/
namespace Go.Proofs.YtonbkdklidfmfaaGreatDoor
open E
set_option linter.unusedSimpArgs false
set_option linter.unusedVariables false
set_option maxRecDepth 100000
theorem ch (c : Str) (x : Str) : ∀ pre : List Str, wQ c (pre ++ [x]) = cond (pre == []) ((c ++ [45]) ++ x) ((wQ c pre ++ [46]) ++ x)
 | [] => by simp [wQ, Lib.join_one]
 | y :: l => by
  unfold wQ
  rw [mC]
  simp
theorem Yh (c : Str) (l : List Str) : (wQ c l).length ≤ c.length + yb l + l.length + 1 := by
 have h := join_le [46] l
 unfold wQ
 cases l with
 | nil => simp only [show (([] : List Str) == []) = true from rfl, cond_true]; omega
 | cons x r =>
  simp only [beq_nil_cons, cond_false, List.length_append, List.length_cons, List.length_nil] at h ⊢
  omega
theorem V8 {v : Ver} (h : x8 v = true) : (uR v).length ≤ 29 := by
 obtain ⟨h1, h2, h3, _, _⟩ := uY h
 have a := wZ v.maj h1.1 h1.2
 have b := wZ v.min h2.1 h2.2
 have c := wZ v.pat h3.1 h3.2
 unfold uR
 simp only [List.length_append, List.length_cons, List.length_nil]
 omega
theorem pE (v : Ver) (hs : v.sm) : zm (EV Tryz.prog pol) 187 [.agg (v.enc.map .t)] = some (.t (.str (yn v))) := by
 have h1 := Qo v hs
 unfold Ver.sm at hs
 unfold yn
 cases ho : x8 v with
 | false =>
  rw [ho] at h1
  simp only [Ver.enc, List.map_cons, List.map_nil] at h1 ⊢
  apply zu
  refine zw rfl Tryz.func187 rfl (by kernel_rfl) ?_
  unfold Tryz.f187
  simp (disch := ((try simp only [LL]); omega)) only [↓GO, ↓DRW, GA, GX, ren, zn, za, refs, z8, cst, zr, isC, bin, una, z7, zd, blt, asArg, zg, zc, zf, z6, E.mkS, unN, ze, zq, zb, GS, simprocAttr, GZ, h1]
 | true =>
  obtain ⟨q1, q2, q3, _, _⟩ := uY ho
  have a := wZ v.maj q1.1 q1.2
  have b := wZ v.min q2.1 q2.2
  have c := wZ v.pat q3.1 q3.2
  have d1 := gq v.maj q1.1 q1.2
  have d2 := gq v.min q2.1 q2.2
  have d3 := gq v.pat q3.1 q3.2
  have hj := join_le [46] v.pre
  simp only [List.length_cons, List.length_nil] at hj
  have h2 := Qz v.pre [46] (by omega) (by omega)
  have hg := bV v.pre
  rw [ho] at h1
  unfold wQ uR
  simp only [Ver.enc, List.map_cons, List.map_nil] at h1 ⊢
  cases hp : (v.pre == []) <;> rw [hp] at hg <;> simp only [Bool.not_true, Bool.not_false] at hg
  · apply zu
    refine zw rfl Tryz.func187 rfl (by kernel_rfl) ?_
    unfold Tryz.f187
    simp (disch := ((try simp only [LL]); omega)) only [↓GO, ↓DRW, GA, GX, ren, zn, za, refs, z8, cst, zr, isC, bin, una, z7, zd, blt, asArg, zg, zc, zf, z6, E.mkS, unN, ze, zq, zb, GS, simprocAttr, GZ, h1, d1, d2, d3, h2, hg, yY, zh, List.append_assoc]
  · apply zu
    refine zw rfl Tryz.func187 rfl (by kernel_rfl) ?_
    unfold Tryz.f187
    simp (disch := ((try simp only [LL]); omega)) only [↓GO, ↓DRW, GA, GX, ren, zn, za, refs, z8, cst, zr, isC, bin, una, z7, zd, blt, asArg, zg, zc, zf, z6, E.mkS, unN, ze, zq, zb, GS, simprocAttr, GZ, h1, d1, d2, d3, h2, hg, yY, zh, List.append_assoc]
theorem Rt (v : Ver) (hs : v.sm) (c : Str) (hc : c.length ≤ 40) : ∀ (rest pre : List Str), v.pre = pre ++ rest →
 EV Tryz.prog pol (.loop 135 122 0 [.ptr 0 0 0, .t (.str (wQ c pre)), .t (.int .i64 (pre.length : Int))] [.vs 4 [v.enc.map .t]])
 = some (.loop (.exit 0) [.t (.str (wQ c v.pre))] [])
 | [], pre, hp => by
  have c : decide ((pre.length : Int) < (v.pre.length : Int)) = false := by simp [hp]
  have e : v.pre = pre := by simpa using hp
  refine zk Tryz.func135 rfl rfl ?_
  simp only [↓GO, ↓DRW, GA, GX, ren, zn, za, refs, z8, cst, zr, isC, bin, una, z7, zd, blt, asArg, zg, zc, zf, z6, E.mkS, unN, ze, zq, zb, GS, simprocAttr, zh, c, Ver.enc, zF]
  rw [e]
 | x :: rest, pre, hp => by
  unfold Ver.sm at hs
  have c2 : decide ((pre.length : Int) < (v.pre.length : Int)) = true := by simp [hp]; omega
  have hget : (strs v.pre)[pre.length]? = some [.str x] := by rw [hp]; exact wY pre x rest
  have hlen : pre.length + rest.length + 1 ≤ v.pre.length := by rw [hp]; simp; omega
  have hbk : yb pre + x.length ≤ yb v.pre := by rw [hp, ly]; simp only [yb]; omega
  have ht := Yh c pre
  have IH := Rt v hs c hc rest (pre ++ [x]) (by rw [hp]; simp)
  rw [show ((pre ++ [x]).length : Int) = (pre.length : Int) + 1 by simp, ch] at IH
  have he := nO pre
  have e0 : (pre == []) = true → wQ c pre = c := fun h => by unfold wQ; rw [h]; rfl
  clear hp
  simp only [Ver.enc, List.map_cons, List.map_nil] at IH ⊢
  cases h0 : (pre == []) <;> rw [h0] at he IH <;> simp only [cond_true, cond_false] at IH
  · refine zk Tryz.func135 rfl rfl ?_
    simp (disch := ((try simp only [LL]); omega)) only [↓GO, ↓DRW, GA, GX, ren, zn, za, refs, z8, cst, zr, isC, bin, una, z7, zd, blt, asArg, zg, zc, zf, z6, E.mkS, unN, ze, zq, zb, GS, simprocAttr, GZ, c2, hget, zo, he, zh, IH, zF, yY]
  · have e1 := e0 h0
    rw [e1]
    refine zk Tryz.func135 rfl rfl ?_
    simp (disch := ((try simp only [LL]); omega)) only [↓GO, ↓DRW, GA, GX, ren, zn, za, refs, z8, cst, zr, isC, bin, una, z7, zd, blt, asArg, zg, zc, zf, z6, E.mkS, unN, ze, zq, zb, GS, simprocAttr, GZ, c2, hget, zo, he, zh, IH, zF, yY]
theorem dF (v : Ver) (hs : v.sm) : zm (EV Tryz.prog pol) 135 [.agg (v.enc.map .t)] = some (.t (.str (yn v))) := by
 have h1 := a6 v hs
 unfold yn
 cases ho : x8 v with
 | false =>
  rw [ho] at h1
  simp only [Ver.enc, List.map_cons, List.map_nil] at h1 ⊢
  apply zu
  refine zw rfl Tryz.func135 rfl (by kernel_rfl) ?_
  unfold Tryz.f135
  simp (disch := ((try simp only [LL]); omega)) only [↓GO, ↓DRW, GA, GX, ren, zn, za, refs, z8, cst, zr, isC, bin, una, z7, zd, blt, asArg, zg, zc, zf, z6, E.mkS, unN, ze, zq, zb, GS, simprocAttr, GZ, h1]
 | true =>
  obtain ⟨q1, q2, q3, _, _⟩ := uY ho
  have a := wZ v.maj q1.1 q1.2
  have b := wZ v.min q2.1 q2.2
  have c := wZ v.pat q3.1 q3.2
  have d1 := gn v.maj q1.1 q1.2
  have d2 := gn v.min q2.1 q2.2
  have d3 := gn v.pat q3.1 q3.2
  have hc := V8 ho
  have h2 := Rt v hs (uR v) (by omega) v.pre [] rfl
  rw [ho] at h1
  rw [show wQ (uR v) [] = uR v from rfl] at h2
  simp only [List.length_nil, Int.natCast_zero] at h2
  simp only [cond_true]
  generalize wQ (uR v) v.pre = tt at *
  unfold uR at h2
  simp only [Ver.enc, List.map_cons, List.map_nil] at h1 h2 ⊢
  apply zu
  refine zw rfl Tryz.func135 rfl (by kernel_rfl) ?_
  unfold Tryz.f135
  simp (disch := ((try simp only [LL]); omega)) only [↓GO, ↓DRW, GA, GX, ren, zn, za, refs, z8, cst, zr, isC, bin, una, z7, zd, blt, asArg, zg, zc, zf, z6, E.mkS, unN, ze, zq, zb, GS, simprocAttr, GZ, h1, d1, d2, d3, h2, yY, zF]
theorem mw {s : Str} (h : (xa 46 (yf 45 s).1).length ≠ 3) : vy s = none := by
 unfold vy
 split
 · rename_i a b c he; rw [he] at h; exact absurd rfl h
 · rfl
theorem lg {s : Str} {v : Ver} (h : vy s = some v) (hl : s.length ≤ 1048700) : v.sm ∧ v.maj ≤ 999999999 ∧ -1 ≤ v.maj ∧ v.min ≤ 999999999 ∧ -1 ≤ v.min ∧ v.pat ≤ 999999999 ∧ -1 ≤ v.pat := by
 unfold vy at h
 split at h
 · rename_i a b c he
   cases h
   have h1 := sD a
   have h2 := sD b
   have h3 := sD c
   refine ⟨?_, h1.2, h1.1, h2.2, h2.1, h3.2, h3.1⟩
   have := vt 46 (yf 45 s).2.1
   have h5 := (pC 45 s).2
   unfold Ver.sm
   cases (yf 45 s).2.2 with
   | true => simp only [cond_true]; omega
   | false => simp [yb]
 · cases h
theorem mf (s : Str) (hl : s.length ≤ 1048700) : (zX s).1.sm ∧ (zX s).1.maj ≤ 999999999 ∧ -1 ≤ (zX s).1.maj ∧ (zX s).1.min ≤ 999999999 ∧ -1 ≤ (zX s).1.min ∧ (zX s).1.pat ≤ 999999999 ∧ -1 ≤ (zX s).1.pat := by
 unfold zX
 cases hm : vy s with
 | none => simp [Ver.zero, Ver.sm, yb]
 | some v =>
  have := lg hm hl
  simp only
  cases (yn v == s) with
  | true => exact this
  | false => simp [Ver.zero, Ver.sm, yb]
def rvT (s : Str) : V := .tup [.agg ((zX s).1.enc.map .t), .t (.bool (zX s).2)]
theorem c_rvI (s : Str) (hl : s.length ≤ 1048700) : zm (EV Tryz.prog pol) 158 [.t (.str s)] = some (rvT s) := by
 have h1 := c_cut s [45] (by omega)
 rw [dz] at h1
 have hl1 := pC 45 s
 have h2 := iX (yf 45 s).1 [46] (by omega) (by simp)
 have h3 := iX (yf 45 s).2.1 [46] (by omega) (by simp)
 rw [nW] at h2 h3
 unfold rvT zX
 by_cases hn : (xa 46 (yf 45 s).1).length = 3
 · obtain ⟨a, b, c, hp⟩ : ∃ a b c, xa 46 (yf 45 s).1 = [a, b, c] := by
    match hq : xa 46 (yf 45 s).1, hn with
    | [a, b, c], _ => exact ⟨a, b, c, rfl⟩
   have hm : vy s = some ⟨zQ a, zQ b, zQ c, cond (yf 45 s).2.2 (xa 46 (yf 45 s).2.1) []⟩ := by unfold vy; rw [hp]
   have hne := eC hm
   have hsm := (lg hm hl).1
   have hbk := vt 46 (yf 45 s).1
   rw [hp] at h2 hbk
   simp only [yb] at hbk
   have d1 := Yb a (by omega)
   have d2 := Yb b (by omega)
   have d3 := Yb c (by omega)
   have hv := pE _ hsm
   rw [hm]
   have hs0 : (s == []) = false := by rw [beq_eq_false_iff_ne]; exact hne
   simp only [Ver.enc, List.map_cons, List.map_nil, vZ, yo] at hv h2 ⊢
   generalize zQ a = ra at *
   generalize zQ b = rb at *
   generalize zQ c = rc at *
   cases hh : (yf 45 s).2.2 <;> rw [hh] at h1 hv <;> simp only [cond_true, cond_false, yo] at hv ⊢
   · generalize yn ⟨ra, rb, rc, []⟩ = tt at *
     clear hm hsm
     cases he : (tt == s)
     · apply zu
       refine zw rfl Tryz.func158 rfl (by kernel_rfl) ?_
       unfold Tryz.f158
       simp (disch := ((try simp only [LL]); omega)) only [↓GO, ↓DRW, GA, GX, ren, zn, za, refs, z8, cst, zr, isC, bin, una, z7, zd, blt, asArg, zg, zc, zf, z6, E.mkS, unN, ze, zq, zb, GS, simprocAttr, GZ, h1, h2, d1, d2, d3, hv, he, bne, hs0, Ver.zero, yo]
       refine yQ (by kernel_rfl) ?_
       simp (disch := ((try simp only [LL]); omega)) only [↓GO, ↓DRW, GA, GX, ren, zn, za, refs, z8, cst, zr, isC, bin, una, z7, zd, blt, asArg, zg, zc, zf, z6, E.mkS, unN, ze, zq, zb, GS, simprocAttr, GZ, h1, h2, d1, d2, d3, hv, he, bne, hs0, Ver.zero, yo]
     · apply zu
       refine zw rfl Tryz.func158 rfl (by kernel_rfl) ?_
       unfold Tryz.f158
       simp (disch := ((try simp only [LL]); omega)) only [↓GO, ↓DRW, GA, GX, ren, zn, za, refs, z8, cst, zr, isC, bin, una, z7, zd, blt, asArg, zg, zc, zf, z6, E.mkS, unN, ze, zq, zb, GS, simprocAttr, GZ, h1, h2, d1, d2, d3, hv, he, bne, hs0, yo]
       refine yQ (by kernel_rfl) ?_
       simp (disch := ((try simp only [LL]); omega)) only [↓GO, ↓DRW, GA, GX, ren, zn, za, refs, z8, cst, zr, isC, bin, una, z7, zd, blt, asArg, zg, zc, zf, z6, E.mkS, unN, ze, zq, zb, GS, simprocAttr, GZ, h1, h2, d1, d2, d3, hv, he, bne, hs0, yo]
   · generalize yn ⟨ra, rb, rc, xa 46 (yf 45 s).2.1⟩ = tt at *
     clear hm hsm
     generalize xa 46 (yf 45 s).2.1 = pp at *
     cases he : (tt == s)
     · apply zu
       refine zw rfl Tryz.func158 rfl (by kernel_rfl) ?_
       unfold Tryz.f158
       simp (disch := ((try simp only [LL]); omega)) only [↓GO, ↓DRW, GA, GX, ren, zn, za, refs, z8, cst, zr, isC, bin, una, z7, zd, blt, asArg, zg, zc, zf, z6, E.mkS, unN, ze, zq, zb, GS, simprocAttr, GZ, h1, h2, h3, d1, d2, d3, hv, he, bne, hs0, Ver.zero, yo]
       refine yQ (by kernel_rfl) ?_
       simp (disch := ((try simp only [LL]); omega)) only [↓GO, ↓DRW, GA, GX, ren, zn, za, refs, z8, cst, zr, isC, bin, una, z7, zd, blt, asArg, zg, zc, zf, z6, E.mkS, unN, ze, zq, zb, GS, simprocAttr, GZ, h1, h2, h3, d1, d2, d3, hv, he, bne, hs0, Ver.zero, yo]
     · apply zu
       refine zw rfl Tryz.func158 rfl (by kernel_rfl) ?_
       unfold Tryz.f158
       simp (disch := ((try simp only [LL]); omega)) only [↓GO, ↓DRW, GA, GX, ren, zn, za, refs, z8, cst, zr, isC, bin, una, z7, zd, blt, asArg, zg, zc, zf, z6, E.mkS, unN, ze, zq, zb, GS, simprocAttr, GZ, h1, h2, h3, d1, d2, d3, hv, he, bne, hs0, yo]
       refine yQ (by kernel_rfl) ?_
       simp (disch := ((try simp only [LL]); omega)) only [↓GO, ↓DRW, GA, GX, ren, zn, za, refs, z8, cst, zr, isC, bin, una, z7, zd, blt, asArg, zg, zc, zf, z6, E.mkS, unN, ze, zq, zb, GS, simprocAttr, GZ, h1, h2, h3, d1, d2, d3, hv, he, bne, hs0, yo]
 · have hm := mw hn
   rw [hm]
   have hc : (((xa 46 (yf 45 s).1).length : Int) == 3) = false := by rw [beq_eq_false_iff_ne]; omega
   generalize xa 46 (yf 45 s).1 = parts at *
   apply zu
   refine zw rfl Tryz.func158 rfl (by kernel_rfl) ?_
   unfold Tryz.f158
   simp (disch := ((try simp only [LL]); omega)) only [↓GO, ↓DRW, GA, GX, ren, zn, za, refs, z8, cst, zr, isC, bin, una, z7, zd, blt, asArg, zg, zc, zf, z6, E.mkS, unN, ze, zq, zb, GS, simprocAttr, GZ, h1, h2, hc, bne, zh, Ver.zero, Ver.enc, yo]
theorem l_at (s : Str) (b : UInt8) (hl : s.length ≤ 4194304) : ∀ (rest pre : Str), s = pre ++ rest →
 EV Tryz.prog pol (.loop 194 26 0 [.t (.str s), .t (.int .u8 (b.toNat : Int)), .t (.int .i64 (pre.length : Int))] []) = some (cond (yf b rest).2.2 (.loop .ret [.t (.int .i64 ((pre.length : Int) + ((yf b rest).1.length : Int)))] []) (.loop (.exit 0) [.bad] []))
 | [], pre, hs => by
  have c : decide ((pre.length : Int) < (s.length : Int)) = false := by simp [hs]
  refine zk Tryz.func194 rfl rfl ?_
  simp only [↓GO, ↓DRW, GA, GX, ren, zn, za, refs, z8, cst, zr, isC, bin, una, z7, zd, blt, asArg, zg, zc, zf, z6, E.mkS, unN, ze, zq, zb, GS, simprocAttr, c, yf]
 | x :: rest, pre, hs => by
  have c : decide ((pre.length : Int) < (s.length : Int)) = true := by simp [hs]; omega
  have hget : s[pre.length]? = some x := by rw [hs]; exact sk pre x rest
  have hlen : s.length = pre.length + rest.length + 1 := by rw [hs]; simp; omega
  have IH := l_at s b hl rest (pre ++ [x]) (by rw [hs]; simp)
  rw [show ((pre ++ [x]).length : Int) = (pre.length : Int) + 1 by simp] at IH
  rw [yf]
  clear hs
  by_cases hx : x = b
  · subst hx
    rw [if_pos rfl]
    refine zk Tryz.func194 rfl rfl ?_
    simp (disch := ((try simp only [LL]); omega)) only [↓GO, ↓DRW, GA, GX, ren, zn, za, refs, z8, cst, zr, isC, bin, una, z7, zd, blt, asArg, zg, zc, zf, z6, E.mkS, unN, ze, zq, zb, GS, simprocAttr, GZ, c, hget, zo, Int.natCast_zero, Int.add_zero]
  · have c2 : ((x.toNat : Int) == (b.toNat : Int)) = false := by
     rw [beq_eq_false_iff_ne]; intro e; exact hx (UInt8.toNat_inj.1 (by omega))
    rw [if_neg hx]
    rw [show (((x :: (yf b rest).1).length : Nat) : Int) = ((yf b rest).1.length : Int) + 1 by simp, show (pre.length : Int) + (((yf b rest).1.length : Int) + 1) = (pre.length : Int) + 1 + ((yf b rest).1.length : Int) by omega]
    refine zk Tryz.func194 rfl rfl ?_
    simp (disch := ((try simp only [LL]); omega)) only [↓GO, ↓DRW, GA, GX, ren, zn, za, refs, z8, cst, zr, isC, bin, una, z7, zd, blt, asArg, zg, zc, zf, z6, E.mkS, unN, ze, zq, zb, GS, simprocAttr, GZ, c, hget, zo, c2, IH]
def atV (b : UInt8) (s : Str) : Int := cond (yf b s).2.2 ((yf b s).1.length : Int) (-1)
theorem c_at (s : Str) (b : UInt8) (hl : s.length ≤ 4194304) : zm (EV Tryz.prog pol) 194 [.t (.str s), .t (.int .u8 (b.toNat : Int))] = some (.t (.int .i64 (atV b s))) := by
 have IH := l_at s b hl s [] rfl
 simp only [List.length_nil, Int.natCast_zero, Int.zero_add] at IH
 unfold atV
 apply zu
 refine zw rfl Tryz.func194 rfl (by kernel_rfl) ?_
 unfold Tryz.f194
 cases h : (yf b s).2.2 <;> rw [h] at IH <;> simp only [cond_true, cond_false] at IH <;> simp (disch := ((try simp only [LL]); omega)) only [↓GO, ↓DRW, GA, GX, ren, zn, za, refs, z8, cst, zr, isC, bin, una, z7, zd, blt, asArg, zg, zc, zf, z6, E.mkS, unN, ze, zq, zb, GS, simprocAttr, GZ, IH]
theorem RJ (s : Str) (hl : s.length ≤ 1048700) : zm (EV Tryz.prog pol) 180 [.t (.str s)] = some (rvT s) := by
 have h1 := c_at s 45 (by omega)
 rw [show (((45 : UInt8)).toNat : Int) = 45 from rfl] at h1
 have hl1 := pC 45 s
 have h2 := a7 (yf 45 s).1 46 (by omega)
 have h3 := a7 (yf 45 s).2.1 46 (by omega)
 rw [show (((46 : UInt8)).toNat : Int) = 46 from rfl] at h2 h3
 have hce := nM 45 s
 unfold rvT zX
 unfold atV at h1
 have hA : (yf 45 s).2.2 = false → (yf 45 s).1 = s := fun h => by rw [h, cond_false, List.append_nil] at hce; exact hce.symm
 have hB : (yf 45 s).2.2 = true → s.take (yf 45 s).1.length = (yf 45 s).1 ∧ s.drop ((yf 45 s).1.length + 1) = (yf 45 s).2.1 ∧ (yf 45 s).1.length + 1 ≤ s.length := fun h => by
  rw [h, cond_true] at hce
  have e1 : s.take (yf 45 s).1.length = (yf 45 s).1 := by
   conv => lhs; arg 2; rw [hce]
   exact List.take_left
  have e2 : s.drop ((yf 45 s).1.length + 1) = (yf 45 s).2.1 := by
   conv => lhs; arg 2; rw [hce]
   rw [← List.drop_drop, List.drop_left]; rfl
  refine ⟨e1, e2, ?_⟩
  have := congrArg List.length hce
  rw [List.length_append, List.length_cons] at this
  omega
 clear hce
 by_cases hn : (xa 46 (yf 45 s).1).length = 3
 · obtain ⟨a, b, c, hp⟩ : ∃ a b c, xa 46 (yf 45 s).1 = [a, b, c] := by
    match hq : xa 46 (yf 45 s).1, hn with
    | [a, b, c], _ => exact ⟨a, b, c, rfl⟩
   have hm : vy s = some ⟨zQ a, zQ b, zQ c, cond (yf 45 s).2.2 (xa 46 (yf 45 s).2.1) []⟩ := by unfold vy; rw [hp]
   have hsm := (lg hm hl).1
   have hbk := vt 46 (yf 45 s).1
   rw [hp] at h2 hbk
   simp only [yb] at hbk
   have d1 := iy a (by omega)
   have d2 := iy b (by omega)
   have d3 := iy c (by omega)
   have hv := dF _ hsm
   rw [hm]
   simp only [Ver.enc, List.map_cons, List.map_nil, vZ, yo] at hv h2 ⊢
   generalize zQ a = ra at *
   generalize zQ b = rb at *
   generalize zQ c = rc at *
   cases hh : (yf 45 s).2.2 <;> rw [hh] at h1 hv <;> simp only [cond_true, cond_false, yo] at hv h1 ⊢
   · have hA' := hA hh
     rw [hA'] at h2
     generalize yn ⟨ra, rb, rc, []⟩ = tt at *
     clear hm hsm hA hB hp
     cases he : (tt == s)
     · apply zu
       refine zw rfl Tryz.func180 rfl (by kernel_rfl) ?_
       unfold Tryz.f180
       simp (disch := ((try simp only [LL]); omega)) only [↓GO, ↓DRW, GA, GX, ren, zn, za, refs, z8, cst, zr, isC, bin, una, z7, zd, blt, asArg, zg, zc, zf, z6, E.mkS, unN, ze, zq, zb, GS, simprocAttr, GZ, h1, h2, d1, d2, d3, hv, he, bne, ge_iff_le, Ver.zero, yo]
     · apply zu
       refine zw rfl Tryz.func180 rfl (by kernel_rfl) ?_
       unfold Tryz.f180
       simp (disch := ((try simp only [LL]); omega)) only [↓GO, ↓DRW, GA, GX, ren, zn, za, refs, z8, cst, zr, isC, bin, una, z7, zd, blt, asArg, zg, zc, zf, z6, E.mkS, unN, ze, zq, zb, GS, simprocAttr, GZ, h1, h2, d1, d2, d3, hv, he, bne, ge_iff_le, yo]
   · obtain ⟨b1, b2, b3⟩ := hB hh
     generalize yn ⟨ra, rb, rc, xa 46 (yf 45 s).2.1⟩ = tt at *
     clear hm hsm hA hB hp
     generalize xa 46 (yf 45 s).2.1 = pp at *
     have g0 : decide ((0 : Int) ≤ ((yf 45 s).1.length : Int)) = true := by simp
     generalize (yf 45 s).2.1 = tl at *
     generalize (yf 45 s).1 = hd at *
     cases he : (tt == s)
     · apply zu
       refine zw rfl Tryz.func180 rfl (by kernel_rfl) ?_
       unfold Tryz.f180
       simp (disch := ((try simp only [LL]); omega)) only [↓GO, ↓DRW, GA, GX, ren, zn, za, refs, z8, cst, zr, isC, bin, una, z7, zd, blt, asArg, zg, zc, zf, z6, E.mkS, unN, ze, zq, zb, GS, simprocAttr, GZ, h1, h2, h3, d1, d2, d3, hv, he, bne, ge_iff_le, g0, b1, b2, zo, Ver.zero, yo]
     · apply zu
       refine zw rfl Tryz.func180 rfl (by kernel_rfl) ?_
       unfold Tryz.f180
       simp (disch := ((try simp only [LL]); omega)) only [↓GO, ↓DRW, GA, GX, ren, zn, za, refs, z8, cst, zr, isC, bin, una, z7, zd, blt, asArg, zg, zc, zf, z6, E.mkS, unN, ze, zq, zb, GS, simprocAttr, GZ, h1, h2, h3, d1, d2, d3, hv, he, bne, ge_iff_le, g0, b1, b2, zo]
 · have hm := mw hn
   rw [hm]
   have hc : (((xa 46 (yf 45 s).1).length : Int) == 3) = false := by rw [beq_eq_false_iff_ne]; omega
   cases hh : (yf 45 s).2.2 <;> rw [hh] at h1 <;> simp only [cond_true, cond_false] at h1
   · have hA' := hA hh
     rw [hA'] at h2 hc
     generalize xa 46 s = parts at *
     apply zu
     refine zw rfl Tryz.func180 rfl (by kernel_rfl) ?_
     unfold Tryz.f180
     simp (disch := ((try simp only [LL]); omega)) only [↓GO, ↓DRW, GA, GX, ren, zn, za, refs, z8, cst, zr, isC, bin, una, z7, zd, blt, asArg, zg, zc, zf, z6, E.mkS, unN, ze, zq, zb, GS, simprocAttr, GZ, h1, h2, hc, bne, ge_iff_le, zh, Ver.zero, Ver.enc, yo]
   · obtain ⟨b1, b2, b3⟩ := hB hh
     have g0 : decide ((0 : Int) ≤ ((yf 45 s).1.length : Int)) = true := by simp
     generalize xa 46 (yf 45 s).1 = parts at *
     generalize xa 46 (yf 45 s).2.1 = pp at *
     generalize (yf 45 s).2.1 = tl at *
     generalize (yf 45 s).1 = hd at *
     apply zu
     refine zw rfl Tryz.func180 rfl (by kernel_rfl) ?_
     unfold Tryz.f180
     simp (disch := ((try simp only [LL]); omega)) only [↓GO, ↓DRW, GA, GX, ren, zn, za, refs, z8, cst, zr, isC, bin, una, z7, zd, blt, asArg, zg, zc, zf, z6, E.mkS, unN, ze, zq, zb, GS, simprocAttr, GZ, h1, h2, h3, hc, bne, ge_iff_le, g0, b1, b2, zo, zh, Ver.zero, Ver.enc, yo]
end Go.Proofs.YtonbkdklidfmfaaGreatDoor
/- The range of a version alone, by both. Conditions: those of each lemma. -/
namespace Go.Proofs.YtonbkdklidfmfaaGreatDoor
open E
set_option linter.unusedSimpArgs false
set_option linter.unusedVariables false
set_option maxRecDepth 100000
theorem ak (a b c : Int) : Ver.sm ⟨a, b, c, [[48]]⟩ := by simp [Ver.sm, yb]
theorem c_zpI (a b c : Int) : zm (EV Tryz.prog pol) 188 [.t (.int .i64 a), .t (.int .i64 b), .t (.int .i64 c)] = some (.t (.str (w8 a b c))) := by
 have h := pE ⟨a, b, c, [[48]]⟩ (ak a b c)
 simp only [Ver.enc, List.map_cons, List.map_nil, vZ, yo] at h
 unfold w8
 apply zu
 refine zw rfl Tryz.func188 rfl (by kernel_rfl) ?_
 unfold Tryz.f188
 simp (disch := ((try simp only [LL]); omega)) only [↓GO, ↓DRW, GA, GX, ren, zn, za, refs, z8, cst, zr, isC, bin, una, z7, zd, blt, asArg, zg, zc, zf, z6, E.mkS, unN, ze, zq, zb, GS, simprocAttr, GZ, h]
theorem R2 (v : Ver) (hs : v.sm) (hp : v.pre.length + yb v.pre ≤ 2097150) (h0 : -1 ≤ v.pat) (h1 : v.pat ≤ 999999999) : zm (EV Tryz.prog pol) 159 [.agg (v.enc.map .t)] = some (.agg [.t (.str (yn v)), .t (.str (lM v))]) := by
 have a1 := c_zpI v.maj v.min (v.pat + 1)
 have a2 := pE v hs
 have hpv : (qc v).sm := by
  unfold Ver.sm qc
  simp only [List.length_append, List.length_cons, List.length_nil, ly, yb]; omega
 have a3 := pE (qc v) hpv
 unfold Ver.sm at hs
 have a4 := tC (strs v.pre) (by rw [zh]; omega)
 have ht : List.take (v.pre.length + 1) (strs v.pre ++ [[T.str [48]]]) = strs v.pre ++ [[T.str [48]]] := List.take_of_length_le (by simp [zh])
 have hg := bV v.pre
 unfold lM
 rw [show (qc v).enc = [.int .i64 v.maj, .int .i64 v.min, .int .i64 v.pat, .list 1 (strs v.pre ++ [[.str [48]]])] by unfold Ver.enc qc; rw [pc]; rfl] at a3
 simp only [Ver.enc, List.map_cons, List.map_nil] at a2 a3 ⊢
 rw [zh] at a4
 generalize yn (qc v) = tp at *
 generalize yn v = tv at *
 generalize w8 v.maj v.min (v.pat + 1) = tz at *
 cases hb : (v.pre == []) <;> rw [hb] at hg <;> simp only [Bool.not_true, Bool.not_false] at hg
 · apply zu
   refine zw rfl Tryz.func159 rfl (by kernel_rfl) ?_
   unfold Tryz.f159
   simp (disch := ((try simp only [LL]); omega)) only [↓GO, ↓DRW, GA, GX, ren, zn, za, refs, z8, cst, zr, isC, bin, una, z7, zd, blt, asArg, zg, zc, zf, z6, E.mkS, unN, ze, zq, zb, GS, simprocAttr, GZ, a1, a2, a3, a4, ht, hg, zo, zh, yY, zF]
 · apply zu
   refine zw rfl Tryz.func159 rfl (by kernel_rfl) ?_
   unfold Tryz.f159
   simp (disch := ((try simp only [LL]); omega)) only [↓GO, ↓DRW, GA, GX, ren, zn, za, refs, z8, cst, zr, isC, bin, una, z7, zd, blt, asArg, zg, zc, zf, z6, E.mkS, unN, ze, zq, zb, GS, simprocAttr, GZ, a1, a2, a3, a4, ht, hg, zo, zh, yY, zF]
def exT (s : Str) : List (List T) := match wV s with
 | some (l, h) => [[.str l, .str h]]
 | none => []
theorem gH (s : Str) (hl : s.length ≤ 1048700) : (zX s).1.pre.length + yb (zX s).1.pre ≤ 1048701 := by
 unfold zX
 cases hm : vy s with
 | none => simp [Ver.zero, yb]
 | some v =>
  have h : v.pre.length + yb v.pre ≤ 1048701 := by
   unfold vy at hm
   split at hm
   · cases hm
     have := vt 46 (yf 45 s).2.1
     have h5 := (pC 45 s).2
     cases (yf 45 s).2.2 with
     | true => simp only [cond_true]; omega
     | false => simp [yb]
   · cases hm
  simp only
  cases (yn v == s) with
  | true => exact h
  | false => simp [Ver.zero, yb]
theorem c_exI (s : Str) (hl : s.length ≤ 1048700) : zm (EV Tryz.prog pol) 124 [.t (.str s)] = some (.t (.list 2 (exT s))) := by
 have h1 := c_rvI s hl
 obtain ⟨m1, m2, m3, m4, m5, m6, m7⟩ := mf s hl
 have hp := gH s hl
 have h2 := R2 (zX s).1 m1 (by omega) m7 m6
 unfold exT wV
 unfold rvT at h1
 cases hk : (zX s).2 with
 | false =>
  rw [hk] at h1
  generalize (zX s).1 = v at *
  generalize yn v = tv at *
  generalize lM v = hv at *
  simp only [Ver.enc, List.map_cons, List.map_nil] at h1 h2 ⊢
  apply zu
  refine zw rfl Tryz.func124 rfl (by kernel_rfl) ?_
  unfold Tryz.f124
  simp (disch := ((try simp only [LL]); omega)) only [↓GO, ↓DRW, GA, GX, ren, zn, za, refs, z8, cst, zr, isC, bin, una, z7, zd, blt, asArg, zg, zc, zf, z6, E.mkS, unN, ze, zq, zb, GS, simprocAttr, GZ, h1, h2]
 | true =>
  have ht := (wm hk).2.1
  rw [ht] at h2
  rw [hk] at h1
  generalize (zX s).1 = v at *
  generalize lM v = hv at *
  simp only [Ver.enc, List.map_cons, List.map_nil] at h1 h2 ⊢
  cases he : (hv == [])
  · apply zu
    refine zw rfl Tryz.func124 rfl (by kernel_rfl) ?_
    unfold Tryz.f124
    simp (disch := ((try simp only [LL]); omega)) only [↓GO, ↓DRW, GA, GX, ren, zn, za, refs, z8, cst, zr, isC, bin, una, z7, zd, blt, asArg, zg, zc, zf, z6, E.mkS, unN, ze, zq, zb, GS, simprocAttr, GZ, h1, h2, he]
  · apply zu
    refine zw rfl Tryz.func124 rfl (by kernel_rfl) ?_
    unfold Tryz.f124
    simp (disch := ((try simp only [LL]); omega)) only [↓GO, ↓DRW, GA, GX, ren, zn, za, refs, z8, cst, zr, isC, bin, una, z7, zd, blt, asArg, zg, zc, zf, z6, E.mkS, unN, ze, zq, zb, GS, simprocAttr, GZ, h1, h2, he]
end Go.Proofs.YtonbkdklidfmfaaGreatDoor
/- Versions compared, the next one, the range of one alone, by the reference. Conditions: those of each lemma. -/
namespace Go.Proofs.YtonbkdklidfmfaaGreatDoor
open E
set_option linter.unusedSimpArgs false
set_option linter.unusedVariables false
set_option maxRecDepth 100000
theorem oE (a b : Int) : zm (EV Tryz.prog pol) 209 [.t (.int .i64 a), .t (.int .i64 b)] = some (.t (.int .i64 (vu a b))) := by
 unfold vu
 cases h1 : decide (a < b) <;> cases h2 : decide (a > b)
 all_goals
  apply zu
  refine zw rfl Tryz.func209 rfl (by kernel_rfl) ?_
  unfold Tryz.f209
  simp (disch := ((try simp only [LL]); omega)) only [↓GO, ↓DRW, GA, GX, ren, zn, za, refs, z8, cst, zr, isC, bin, una, z7, zd, blt, asArg, zg, zc, zf, z6, E.mkS, unN, ze, zq, zb, GS, simprocAttr, GZ, h1, h2]
theorem SI (a b : Str) : zm (EV Tryz.prog pol) 224 [.t (.str a), .t (.str b)] = some (.t (.int .i64 (cd a b))) := by
 unfold cd
 cases h1 : Op.bytesLess a b <;> cases h2 : (a == b)
 all_goals
  apply zu
  refine zw rfl Tryz.func224 rfl (by kernel_rfl) ?_
  unfold Tryz.f224
  simp (disch := ((try simp only [LL]); omega)) only [↓GO, ↓DRW, GA, GX, ren, zn, za, refs, z8, cst, zr, isC, bin, una, z7, zd, blt, asArg, zg, zc, zf, z6, E.mkS, unN, ze, zq, zb, GS, simprocAttr, GZ, h1, h2]
theorem Qv (a b : Str) (ha : a.length ≤ 4194304) (hb : b.length ≤ 4194304) : zm (EV Tryz.prog pol) 210 [.t (.str a), .t (.str b)] = some (.t (.int .i64 (tE a b))) := by
 have d1 := iy a (by omega)
 have d2 := iy b (by omega)
 have d3 := oE (zQ a) (zQ b)
 have d4 := SI a b
 unfold tE
 generalize zQ a = ra at *
 generalize zQ b = rb at *
 cases h1 : decide (ra ≥ 0) <;> cases h2 : decide (rb ≥ 0)
 all_goals
  apply zu
  refine zw rfl Tryz.func210 rfl (by kernel_rfl) ?_
  unfold Tryz.f210
  simp (disch := ((try simp only [LL]); omega)) only [↓GO, ↓DRW, GA, GX, ren, zn, za, refs, z8, cst, zr, isC, bin, una, z7, zd, blt, asArg, zg, zc, zf, z6, E.mkS, unN, ze, zq, zb, GS, simprocAttr, GZ, d1, d2, d3, d4, h1, h2]
theorem Qe (x1 x2 x3 x4 y1 y2 y3 y4 : T) (a b c : Int) :
 EV Tryz.prog pol (.loop 197 58 0 [.ptr 0 0 0, .ptr 1 0 0, .sl 2 0 3 (some 3), .t (.int .i64 0)] [.vs 4 [[.t x1, .t x2, .t x3, .t x4]], .vs 4 [[.t y1, .t y2, .t y3, .t y4]], .ts 1 [[.int .i64 a], [.int .i64 b], [.int .i64 c]]])
 = some (cond (a == 0) (cond (b == 0) (cond (c == 0) (.loop (.exit 0) [.ptr 0 0 0, .ptr 1 0 0, .bad] [.vs 4 [[.t x1, .t x2, .t x3, .t x4]], .vs 4 [[.t y1, .t y2, .t y3, .t y4]]])
  (.loop .ret [.ptr 0 0 0, .ptr 1 0 0, .t (.int .i64 c)] [.vs 4 [[.t x1, .t x2, .t x3, .t x4]], .vs 4 [[.t y1, .t y2, .t y3, .t y4]]]))
  (.loop .ret [.ptr 0 0 0, .ptr 1 0 0, .t (.int .i64 b)] [.vs 4 [[.t x1, .t x2, .t x3, .t x4]], .vs 4 [[.t y1, .t y2, .t y3, .t y4]]]))
  (.loop .ret [.ptr 0 0 0, .ptr 1 0 0, .t (.int .i64 a)] [.vs 4 [[.t x1, .t x2, .t x3, .t x4]], .vs 4 [[.t y1, .t y2, .t y3, .t y4]]])) := by
 cases h1 : (a == 0)
 · refine zk Tryz.func197 rfl rfl ?_
   simp (disch := ((try simp only [LL]); omega)) only [↓GO, ↓DRW, GA, GX, ren, zn, za, refs, z8, cst, zr, isC, bin, una, z7, zd, blt, asArg, zg, zc, zf, z6, E.mkS, unN, ze, zq, zb, GS, simprocAttr, GZ, h1, bne, zo, zF]
 · refine zk Tryz.func197 rfl rfl ?_
   simp (disch := ((try simp only [LL]); omega)) only [↓GO, ↓DRW, GA, GX, ren, zn, za, refs, z8, cst, zr, isC, bin, una, z7, zd, blt, asArg, zg, zc, zf, z6, E.mkS, unN, ze, zq, zb, GS, simprocAttr, GZ, h1, bne, zo, zF, Int.zero_add]
   cases h2 : (b == 0)
   · refine zk Tryz.func197 rfl rfl ?_
     simp (disch := ((try simp only [LL]); omega)) only [↓GO, ↓DRW, GA, GX, ren, zn, za, refs, z8, cst, zr, isC, bin, una, z7, zd, blt, asArg, zg, zc, zf, z6, E.mkS, unN, ze, zq, zb, GS, simprocAttr, GZ, h2, bne, zo, zF]
   · refine zk Tryz.func197 rfl rfl ?_
     simp (disch := ((try simp only [LL]); omega)) only [↓GO, ↓DRW, GA, GX, ren, zn, za, refs, z8, cst, zr, isC, bin, una, z7, zd, blt, asArg, zg, zc, zf, z6, E.mkS, unN, ze, zq, zb, GS, simprocAttr, GZ, h2, bne, zo, zF, Int.reduceAdd]
     cases h3 : (c == 0)
     · refine zk Tryz.func197 rfl rfl ?_
       simp (disch := ((try simp only [LL]); omega)) only [↓GO, ↓DRW, GA, GX, ren, zn, za, refs, z8, cst, zr, isC, bin, una, z7, zd, blt, asArg, zg, zc, zf, z6, E.mkS, unN, ze, zq, zb, GS, simprocAttr, GZ, h3, bne, zo, zF]
     · refine zk Tryz.func197 rfl rfl ?_
       simp (disch := ((try simp only [LL]); omega)) only [↓GO, ↓DRW, GA, GX, ren, zn, za, refs, z8, cst, zr, isC, bin, una, z7, zd, blt, asArg, zg, zc, zf, z6, E.mkS, unN, ze, zq, zb, GS, simprocAttr, GZ, h3, bne, zo, zF, Int.reduceAdd]
       refine zk Tryz.func197 rfl rfl ?_
       simp (disch := ((try simp only [LL]); omega)) only [↓GO, ↓DRW, GA, GX, ren, zn, za, refs, z8, cst, zr, isC, bin, una, z7, zd, blt, asArg, zg, zc, zf, z6, E.mkS, unN, ze, zq, zb, GS, simprocAttr, GZ, zo, zF]
theorem T7 (a b : Ver) (ha : a.sm) (hb : b.sm) : ∀ (ra rb pa pb : List Str), a.pre = pa ++ ra → b.pre = pb ++ rb → pa.length = pb.length →
 EV Tryz.prog pol (.loop 197 250 0 [.ptr 0 0 0, .ptr 1 0 0, .t (.int .i64 (pa.length : Int))] [.vs 4 [a.enc.map .t], .vs 4 [b.enc.map .t]])
 = some (match rN ra rb with
  | some n => .loop .ret [.ptr 0 0 0, .ptr 1 0 0, .t (.int .i64 n)] [.vs 4 [a.enc.map .t], .vs 4 [b.enc.map .t]]
  | none => .loop (.exit 2) [.ptr 0 0 0, .ptr 1 0 0, .bad] [.vs 4 [a.enc.map .t], .vs 4 [b.enc.map .t]])
 | [], rb, pa, pb, h1, h2, h3 => by
  have c : decide ((pa.length : Int) < (a.pre.length : Int)) = false := by simp [h1]
  simp only [Ver.enc, List.map_cons, List.map_nil, rN]
  refine zk Tryz.func197 rfl rfl ?_
  simp (disch := ((try simp only [LL]); omega)) only [↓GO, ↓DRW, GA, GX, ren, zn, za, refs, z8, cst, zr, isC, bin, una, z7, zd, blt, asArg, zg, zc, zf, z6, E.mkS, unN, ze, zq, zb, GS, simprocAttr, GZ, zh, c, zF]
 | x :: ra, [], pa, pb, h1, h2, h3 => by
  have c : decide ((pa.length : Int) < (a.pre.length : Int)) = true := by simp [h1]; omega
  have c2 : decide ((pa.length : Int) < (b.pre.length : Int)) = false := by simp [h2]; omega
  simp only [Ver.enc, List.map_cons, List.map_nil, rN]
  refine zk Tryz.func197 rfl rfl ?_
  simp (disch := ((try simp only [LL]); omega)) only [↓GO, ↓DRW, GA, GX, ren, zn, za, refs, z8, cst, zr, isC, bin, una, z7, zd, blt, asArg, zg, zc, zf, z6, E.mkS, unN, ze, zq, zb, GS, simprocAttr, GZ, zh, c, c2, zF]
 | x :: ra, y :: rb, pa, pb, h1, h2, h3 => by
  unfold Ver.sm at ha hb
  have c : decide ((pa.length : Int) < (a.pre.length : Int)) = true := by simp [h1]; omega
  have c2 : decide ((pa.length : Int) < (b.pre.length : Int)) = true := by simp [h2]; omega
  have hg1 : (strs a.pre)[pa.length]? = some [.str x] := by rw [h1]; exact wY pa x ra
  have hg2 : (strs b.pre)[pa.length]? = some [.str y] := by rw [h2, h3]; exact wY pb y rb
  have hlen : pa.length + ra.length + 1 ≤ a.pre.length := by rw [h1]; simp; omega
  have hx : x.length ≤ 2097152 := by have := uu (ks := a.pre) (s := x) (by rw [h1]; simp); omega
  have hy : y.length ≤ 2097152 := by have := uu (ks := b.pre) (s := y) (by rw [h2]; simp); omega
  have hp := Qv x y (by omega) (by omega)
  have IH := T7 a b ha hb ra rb (pa ++ [x]) (pb ++ [y]) (by rw [h1]; simp) (by rw [h2]; simp) (by simp [h3])
  rw [show ((pa ++ [x]).length : Int) = (pa.length : Int) + 1 by simp] at IH
  clear h1 h2
  simp only [Ver.enc, List.map_cons, List.map_nil] at IH ⊢
  rw [rN]
  generalize tE x y = n at *
  cases hn : (n == 0)
  · simp only [cond_false]
    refine zk Tryz.func197 rfl rfl ?_
    simp (disch := ((try simp only [LL]); omega)) only [↓GO, ↓DRW, GA, GX, ren, zn, za, refs, z8, cst, zr, isC, bin, una, z7, zd, blt, asArg, zg, zc, zf, z6, E.mkS, unN, ze, zq, zb, GS, simprocAttr, GZ, zh, c, c2, hg1, hg2, hp, hn, bne, zo, zF]
  · simp only [cond_true]
    refine zk Tryz.func197 rfl rfl ?_
    simp (disch := ((try simp only [LL]); omega)) only [↓GO, ↓DRW, GA, GX, ren, zn, za, refs, z8, cst, zr, isC, bin, una, z7, zd, blt, asArg, zg, zc, zf, z6, E.mkS, unN, ze, zq, zb, GS, simprocAttr, GZ, zh, c, c2, hg1, hg2, hp, hn, bne, zo, zF, IH]
theorem QG (a b : Ver) (ha : a.sm) (hb : b.sm) : zm (EV Tryz.prog pol) 197 [.agg (a.enc.map .t), .agg (b.enc.map .t)] = some (.t (.int .i64 (cb a b))) := by
 have d1 := oE a.maj b.maj
 have d2 := oE a.min b.min
 have d3 := oE a.pat b.pat
 have d4 := oE (b.pre.length : Int) (a.pre.length : Int)
 have d5 := oE (a.pre.length : Int) (b.pre.length : Int)
 have L2 := T7 a b ha hb a.pre b.pre [] [] rfl rfl rfl
 have L1 := Qe (.int .i64 a.maj) (.int .i64 a.min) (.int .i64 a.pat) (.list 1 (strs a.pre)) (.int .i64 b.maj) (.int .i64 b.min) (.int .i64 b.pat) (.list 1 (strs b.pre)) (vu a.maj b.maj) (vu a.min b.min) (vu a.pat b.pat)
 have e1 := nO a.pre
 have e2 := nO b.pre
 unfold cb uc
 simp only [List.length_nil, Int.natCast_zero] at L2
 simp only [Ver.enc, List.map_cons, List.map_nil] at L1 L2 ⊢
 generalize vu a.maj b.maj = n1 at *
 generalize vu a.min b.min = n2 at *
 generalize vu a.pat b.pat = n3 at *
 cases h1 : (n1 == 0) <;> rw [h1] at L1
 · simp only [cond_false] at L1
   apply zu
   refine zw rfl Tryz.func197 rfl (by kernel_rfl) ?_
   unfold Tryz.f197
   simp (disch := ((try simp only [LL]); omega)) only [↓GO, ↓DRW, GA, GX, ren, zn, za, refs, z8, cst, zr, isC, bin, una, z7, zd, blt, asArg, zg, zc, zf, z6, E.mkS, unN, ze, zq, zb, GS, simprocAttr, GZ, d1, d2, d3, L1, zF]
   refine yQ (by kernel_rfl) ?_
   simp (disch := ((try simp only [LL]); omega)) only [↓GO, ↓DRW, GA, GX, ren, zn, za, refs, z8, cst, zr, isC, bin, una, z7, zd, blt, asArg, zg, zc, zf, z6, E.mkS, unN, ze, zq, zb, GS, simprocAttr, GZ, d1, d2, d3, L1, zF]
 · cases h2 : (n2 == 0) <;> rw [h2] at L1
   · simp only [cond_false, cond_true] at L1
     apply zu
     refine zw rfl Tryz.func197 rfl (by kernel_rfl) ?_
     unfold Tryz.f197
     simp (disch := ((try simp only [LL]); omega)) only [↓GO, ↓DRW, GA, GX, ren, zn, za, refs, z8, cst, zr, isC, bin, una, z7, zd, blt, asArg, zg, zc, zf, z6, E.mkS, unN, ze, zq, zb, GS, simprocAttr, GZ, d1, d2, d3, L1, zF]
     refine yQ (by kernel_rfl) ?_
     simp (disch := ((try simp only [LL]); omega)) only [↓GO, ↓DRW, GA, GX, ren, zn, za, refs, z8, cst, zr, isC, bin, una, z7, zd, blt, asArg, zg, zc, zf, z6, E.mkS, unN, ze, zq, zb, GS, simprocAttr, GZ, d1, d2, d3, L1, zF]
   · cases h3 : (n3 == 0) <;> rw [h3] at L1
     · simp only [cond_false, cond_true] at L1
       apply zu
       refine zw rfl Tryz.func197 rfl (by kernel_rfl) ?_
       unfold Tryz.f197
       simp (disch := ((try simp only [LL]); omega)) only [↓GO, ↓DRW, GA, GX, ren, zn, za, refs, z8, cst, zr, isC, bin, una, z7, zd, blt, asArg, zg, zc, zf, z6, E.mkS, unN, ze, zq, zb, GS, simprocAttr, GZ, d1, d2, d3, L1, zF]
       refine yQ (by kernel_rfl) ?_
       simp (disch := ((try simp only [LL]); omega)) only [↓GO, ↓DRW, GA, GX, ren, zn, za, refs, z8, cst, zr, isC, bin, una, z7, zd, blt, asArg, zg, zc, zf, z6, E.mkS, unN, ze, zq, zb, GS, simprocAttr, GZ, d1, d2, d3, L1, zF]
     · simp only [cond_true] at L1
       cases hs : rN a.pre b.pre <;> rw [hs] at L2 <;> simp only at L2 <;> cases h4 : (a.pre == []) <;> cases h5 : (b.pre == []) <;> rw [h4] at e1 <;> rw [h5] at e2
       all_goals
        apply zu
        refine zw rfl Tryz.func197 rfl (by kernel_rfl) ?_
        unfold Tryz.f197
        simp (disch := ((try simp only [LL]); omega)) only [↓GO, ↓DRW, GA, GX, ren, zn, za, refs, z8, cst, zr, isC, bin, una, z7, zd, blt, asArg, zg, zc, zf, z6, E.mkS, unN, ze, zq, zb, GS, simprocAttr, GZ, d1, d2, d3, d4, d5, L1, L2, zh, e1, e2, zF]
        refine yQ (by kernel_rfl) ?_
        simp (disch := ((try simp only [LL]); omega)) only [↓GO, ↓DRW, GA, GX, ren, zn, za, refs, z8, cst, zr, isC, bin, una, z7, zd, blt, asArg, zg, zc, zf, z6, E.mkS, unN, ze, zq, zb, GS, simprocAttr, GZ, d1, d2, d3, d4, d5, L1, L2, zh, e1, e2, zF, Option.getD_some, Option.getD_none]
end Go.Proofs.YtonbkdklidfmfaaGreatDoor
/- The next version, the range of one alone, by the reference. Conditions: those of each lemma. -/
namespace Go.Proofs.YtonbkdklidfmfaaGreatDoor
open E
set_option linter.unusedSimpArgs false
set_option linter.unusedVariables false
set_option maxRecDepth 100000
theorem Rp (v : Ver) (p : Int) : (upV v p).sm := by
 unfold upV
 cases (p == 0) <;> cases (p == 1) <;> simp [Ver.sm, yb]
theorem S9 {v : Ver} (h : v.sm) (p : Int) : (vx v p).sm := by
 unfold vx
 cases (!(x8 v) || !(B2 p 0 2)) <;> cases x8 (upV v p) <;> simp only [cond_true, cond_false] <;> first | exact h | exact Rp v p
theorem Qx (v : Ver) (p : Int) (hs : v.sm) (hp : p = 0 ∨ p = 1 ∨ p = 2) (h1 : -1 ≤ v.maj ∧ v.maj ≤ 999999999) (h2 : -1 ≤ v.min ∧ v.min ≤ 999999999) (h3 : -1 ≤ v.pat ∧ v.pat ≤ 999999999) :
 zm (EV Tryz.prog pol) 196 [.agg (v.enc.map .t), .t (.int .i64 p)] = some (.agg ((vx v p).enc.map .t)) := by
 have d1 := a6 v hs
 have d2 := a6 (upV v p) (Rp v p)
 have d3 := wy p 0 2
 have hb : B2 p 0 2 = true := by rcases hp with rfl | rfl | rfl <;> rfl
 have e1 := nO v.pre
 have ht : List.take (0 + (strs v.pre).length) (strs v.pre) = strs v.pre := List.take_of_length_le (by omega)
 have ht2 : List.take v.pre.length (strs v.pre) = strs v.pre := List.take_of_length_le (by rw [zh]; omega)
 unfold Ver.sm at hs
 rw [hb] at d3
 unfold vx
 rw [hb]
 simp only [Bool.not_true, Bool.or_false]
 cases ho : x8 v <;> rw [ho] at d1
 · simp only [Ver.enc, List.map_cons, List.map_nil, Bool.not_false, cond_true] at d1 ⊢
   apply zu
   refine zw rfl Tryz.func196 rfl (by kernel_rfl) ?_
   unfold Tryz.f196
   simp (disch := ((try simp only [LL]); omega)) only [↓GO, ↓DRW, GA, GX, ren, zn, za, refs, z8, cst, zr, isC, bin, una, z7, zd, blt, asArg, zg, zc, zf, z6, E.mkS, unN, ze, zq, zb, GS, simprocAttr, GZ, d1, zh, ht, ht2, yY]
 · simp only [Bool.not_true, cond_false]
   unfold upV at d2 ⊢
   rcases hp with rfl | rfl | rfl
   · simp only [show ((0 : Int) == 0) = true from rfl, cond_true] at d2 ⊢
     cases hu : x8 ⟨v.maj + 1, 0, 0, []⟩ <;> rw [hu] at d2 <;> simp only [Ver.enc, List.map_cons, List.map_nil, yo, cond_true, cond_false] at d1 d2 ⊢
     all_goals
      apply zu
      refine zw rfl Tryz.func196 rfl (by kernel_rfl) ?_
      unfold Tryz.f196
      simp (disch := ((try simp only [LL]); omega)) only [↓GO, ↓DRW, GA, GX, ren, zn, za, refs, z8, cst, zr, isC, bin, una, z7, zd, blt, asArg, zg, zc, zf, z6, E.mkS, unN, ze, zq, zb, GS, simprocAttr, GZ, d1, d2, d3, zh, ht, ht2, yY, zo]
   · simp only [show ((1 : Int) == 0) = false from rfl, show ((1 : Int) == 1) = true from rfl, cond_true, cond_false] at d2 ⊢
     cases hu : x8 ⟨v.maj, v.min + 1, 0, []⟩ <;> rw [hu] at d2 <;> simp only [Ver.enc, List.map_cons, List.map_nil, yo, cond_true, cond_false] at d1 d2 ⊢
     all_goals
      apply zu
      refine zw rfl Tryz.func196 rfl (by kernel_rfl) ?_
      unfold Tryz.f196
      simp (disch := ((try simp only [LL]); omega)) only [↓GO, ↓DRW, GA, GX, ren, zn, za, refs, z8, cst, zr, isC, bin, una, z7, zd, blt, asArg, zg, zc, zf, z6, E.mkS, unN, ze, zq, zb, GS, simprocAttr, GZ, d1, d2, d3, zh, ht, ht2, yY, zo]
   · simp only [show ((2 : Int) == 0) = false from rfl, show ((2 : Int) == 1) = false from rfl, cond_false] at d2 ⊢
     cases hq : (v.pre == []) <;> rw [hq] at e1 d2 <;> simp only [cond_true, cond_false] at d2 ⊢
     · cases hu : x8 ⟨v.maj, v.min, v.pat, []⟩ <;> rw [hu] at d2 <;> simp only [Ver.enc, List.map_cons, List.map_nil, yo, cond_true, cond_false] at d1 d2 ⊢
       all_goals
        apply zu
        refine zw rfl Tryz.func196 rfl (by kernel_rfl) ?_
        unfold Tryz.f196
        simp (disch := ((try simp only [LL]); omega)) only [↓GO, ↓DRW, GA, GX, ren, zn, za, refs, z8, cst, zr, isC, bin, una, z7, zd, blt, asArg, zg, zc, zf, z6, E.mkS, unN, ze, zq, zb, GS, simprocAttr, GZ, d1, d2, d3, e1, zh, ht, ht2, yY, zo]
     · cases hu : x8 ⟨v.maj, v.min, v.pat + 1, []⟩ <;> rw [hu] at d2 <;> simp only [Ver.enc, List.map_cons, List.map_nil, yo, cond_true, cond_false] at d1 d2 ⊢
       all_goals
        apply zu
        refine zw rfl Tryz.func196 rfl (by kernel_rfl) ?_
        unfold Tryz.f196
        simp (disch := ((try simp only [LL]); omega)) only [↓GO, ↓DRW, GA, GX, ren, zn, za, refs, z8, cst, zr, isC, bin, una, z7, zd, blt, asArg, zg, zc, zf, z6, E.mkS, unN, ze, zq, zb, GS, simprocAttr, GZ, d1, d2, d3, e1, zh, ht, ht2, yY, zo]
theorem hY (v : Ver) : (xt v).sm := by simp [xt, Ver.sm, yb]
theorem R1 (v : Ver) (p : Int) (hs : v.sm) (hp : p = 0 ∨ p = 1 ∨ p = 2) (h1 : -1 ≤ v.maj ∧ v.maj ≤ 999999999) (h2 : -1 ≤ v.min ∧ v.min ≤ 999999999) (h3 : -1 ≤ v.pat ∧ v.pat ≤ 999999999) :
 zm (EV Tryz.prog pol) 181 [.agg (v.enc.map .t), .t (.int .i64 p)] = some (.tup [.t (.str (lG v p).1), .t (.bool (lG v p).2)]) := by
 have d1 := Qx (xt v) p (hY v) hp h1 h2 h3
 have d2 := QG (vx (xt v) p) (xt v) (S9 (hY v) p) (hY v)
 have d3 := dF ⟨(vx (xt v) p).maj, (vx (xt v) p).min, (vx (xt v) p).pat, [[48]]⟩ (ak _ _ _)
 unfold lG
 generalize cb (vx (xt v) p) (xt v) = cm at *
 generalize yn ⟨(vx (xt v) p).maj, (vx (xt v) p).min, (vx (xt v) p).pat, [[48]]⟩ = tx at *
 generalize vx (xt v) p = nx at *
 simp only [Ver.enc, xt, List.map_cons, List.map_nil, vZ, yo] at d1 d2 d3 ⊢
 cases hc : (cm == 0)
 all_goals
  apply zu
  refine zw rfl Tryz.func181 rfl (by kernel_rfl) ?_
  unfold Tryz.f181
  simp (disch := ((try simp only [LL]); omega)) only [↓GO, ↓DRW, GA, GX, ren, zn, za, refs, z8, cst, zr, isC, bin, una, z7, zd, blt, asArg, zg, zc, zf, z6, E.mkS, unN, ze, zq, zb, GS, simprocAttr, GZ, d1, d2, d3, hc, yo]
def alT (s : Str) : V := match wV s with
 | some (l, h) => .tup [.agg [.t (.str l), .t (.str h)], .t (.bool true)]
 | none => .tup [.agg [.t (.str []), .t (.str [])], .t (.bool false)]
theorem Vt (s : Str) (hl : s.length ≤ 1048600) : zm (EV Tryz.prog pol) 150 [.t (.str s)] = some (alT s) := by
 have d1 := RJ s (by omega)
 have d2 := RJ (s ++ [46, 48]) (by simp only [List.length_append, List.length_cons, List.length_nil]; omega)
 obtain ⟨m1, m2, m3, m4, m5, m6, m7⟩ := mf s (by omega)
 have d3 := R1 (zX s).1 2 m1 (by omega) ⟨m3, m2⟩ ⟨m5, m4⟩ ⟨m7, m6⟩
 have hg := bV (zX s).1.pre
 unfold rvT at d1 d2
 unfold alT wV lM
 cases hk : (zX s).2 with
 | false =>
  rw [hk] at d1
  generalize (zX s).1 = v at *
  simp only [Bool.false_and, cond_false]
  simp only [Ver.enc, List.map_cons, List.map_nil] at d1 ⊢
  apply zu
  refine zw rfl Tryz.func150 rfl (by kernel_rfl) ?_
  unfold Tryz.f150
  simp (disch := ((try simp only [LL]); omega)) only [↓GO, ↓DRW, GA, GX, ren, zn, za, refs, z8, cst, zr, isC, bin, una, z7, zd, blt, asArg, zg, zc, zf, z6, E.mkS, unN, ze, zq, zb, GS, simprocAttr, GZ, d1]
 | true =>
  have ho := (wm hk).2.2.1
  rw [hk] at d1
  cases hp : ((zX s).1.pre == []) with
  | true =>
   have hb := VA ho 2 (by omega)
   simp only [show ((2 : Int) == 0) = false from rfl, show ((2 : Int) == 1) = false from rfl, show ((2 : Int) == 2) = true from rfl, cond_true, cond_false] at hb
   rw [hb] at d3
   rw [hp] at hg
   simp only [Bool.not_true, cond_true, Bool.true_and] at hg ⊢
   generalize (zX s).1 = v at *
   generalize w8 v.maj v.min (v.pat + 1) = zp at *
   simp only [Ver.enc, List.map_cons, List.map_nil] at d1 d3 ⊢
   clear d2 hb
   cases hz : (zp == []) <;> rw [hz] at d3 <;> simp only [Bool.not_true, Bool.not_false, cond_true, cond_false] at d3 ⊢
   all_goals
    apply zu
    refine zw rfl Tryz.func150 rfl (by kernel_rfl) ?_
    unfold Tryz.f150
    simp (disch := ((try simp only [LL]); omega)) only [↓GO, ↓DRW, GA, GX, ren, zn, za, refs, z8, cst, zr, isC, bin, una, z7, zd, blt, asArg, zg, zc, zf, z6, E.mkS, unN, ze, zq, zb, GS, simprocAttr, GZ, d1, d3, hg, zh]
  | false =>
   obtain ⟨r1, r2⟩ := Yu hk (fun h => by rw [h] at hp; cases hp)
   rw [r1] at d2
   rw [hp] at hg
   simp only [Bool.not_false, cond_false, Bool.true_and] at hg ⊢
   rw [r2]
   generalize x8 (qc (zX s).1) = pk at *
   generalize qc (zX s).1 = pv at *
   generalize (zX s).1 = v at *
   have hne : ((s ++ [46, 48]) == []) = false := by cases s <;> rfl
   simp only [Ver.enc, List.map_cons, List.map_nil] at d1 ⊢
   cases pk <;> simp only [Ver.enc, List.map_cons, List.map_nil, cond_true, cond_false, hne, Bool.not_false, show (([] : Str) == []) = true from rfl, Bool.not_true] at d2 ⊢
   all_goals
    apply zu
    refine zw rfl Tryz.func150 rfl (by kernel_rfl) ?_
    unfold Tryz.f150
    simp (disch := ((try simp only [LL]); omega)) only [↓GO, ↓DRW, GA, GX, ren, zn, za, refs, z8, cst, zr, isC, bin, una, z7, zd, blt, asArg, zg, zc, zf, z6, E.mkS, unN, ze, zq, zb, GS, simprocAttr, GZ, d1, d2, hg, zh, yY]
theorem c_exR (s : Str) (hl : s.length ≤ 1048600) : zm (EV Tryz.prog pol) 121 [.t (.str s)] = some (.t (.list 2 (exT s))) := by
 have d1 := Vt s hl
 unfold exT
 unfold alT at d1
 cases he : wV s with
 | none =>
  rw [he] at d1
  simp only at d1 ⊢
  apply zu
  refine zw rfl Tryz.func121 rfl (by kernel_rfl) ?_
  unfold Tryz.f121
  simp (disch := ((try simp only [LL]); omega)) only [↓GO, ↓DRW, GA, GX, ren, zn, za, refs, z8, cst, zr, isC, bin, una, z7, zd, blt, asArg, zg, zc, zf, z6, E.mkS, unN, ze, zq, zb, GS, simprocAttr, GZ, d1]
 | some x =>
  obtain ⟨l, h⟩ := x
  rw [he] at d1
  simp only at d1 ⊢
  apply zu
  refine zw rfl Tryz.func121 rfl (by kernel_rfl) ?_
  unfold Tryz.f121
  simp (disch := ((try simp only [LL]); omega)) only [↓GO, ↓DRW, GA, GX, ren, zn, za, refs, z8, cst, zr, isC, bin, una, z7, zd, blt, asArg, zg, zc, zf, z6, E.mkS, unN, ze, zq, zb, GS, simprocAttr, GZ, d1]
end Go.Proofs.YtonbkdklidfmfaaGreatDoor
/- Packs and graphs, plain. Conditions: none. -/
namespace Go.Proofs.YtonbkdklidfmfaaGreatDoor
open E
set_option linter.unusedVariables false
set_option linter.unusedSimpArgs false
set_option maxRecDepth 100000
def Tl : Str := [115, 104, 97, 49]
def iD : Str := [115, 104, 97, 50, 53, 54]
def h1S : Str := [104, 49]
def iC : Str := [115, 104, 97, 53, 49, 50]
def sf (a : Str) : Int := cond (a == Tl) 20 (cond (a == iD || a == h1S) 32 (cond (a == iC) 64 (-1)))
/-- is a text above the one ahead, if there is one? -/
def vB (prev : Option Str) (s : Str) : Bool := match prev with
 | none => true
 | some p => Op.bytesLess p s
def vR : Option Str → List zy → Bool
 | _, [] => true
 | prev, s :: r => (((s.bytes.length : Int) == sf s.alg) && vB prev s.alg) && vR (some s.alg) r
def keyOf (p : z1) : Str := (p.name ++ [64]) ++ p.version
def gA (ps : List z1) (k : Str) : Bool := ps.any fun p => keyOf p == k
def tJ (ps : List z1) (k : Str) : Option Nat := xR (fun p => keyOf p == k) ps 0
def xz (ps : List z1) : Option Str → List Str → Bool
 | _, [] => true
 | prev, k :: r => (gA ps k && vB prev k) && xz ps (some k) r
def uz (p : z1) : Bool := sY p.name && ((wV p.version).isSome && (sb p.source && vR none p.sums))
def w9 (ps : List z1) : Option Str → List z1 → Bool
 | _, [] => true
 | prev, p :: r => (uz p && (vB prev (keyOf p) && xz ps none p.zz)) && w9 ps (some (keyOf p)) r
def y6 (g : zx) : Bool := w9 g.packs none g.packs && (decide ((g.packs.length : Int) ≤ 40) && xz g.packs none g.top)
theorem T8 {α : Type} (p : α → Bool) (l : List α) : decide (ixI (xR p l 0) < 0) = !(l.any p) := by
 rw [← tA p l 0]
 cases xR p l 0 with
 | none => rfl
 | some n =>
  have h : ¬ ((n : Int) < 0) := by omega
  show decide ((n : Int) < 0) = false
  exact decide_eq_false h
/-- the one ahead of a place -/
theorem tq {α : Type} (f : α → List T) (pre : List α) (q : α) (rest : List α) : uX ((pre ++ [q] ++ rest).map f) (((pre ++ [q]).length : Int) - 1) = some (f q) := by
 unfold uX
 rw [if_pos (by simp)]
 have e : (((pre ++ [q]).length : Int) - 1).toNat = pre.length := by simp
 rw [e]
 simp
theorem pI {α : Type} (f : α → List T) (pre : List α) (x : α) (rest : List α) : ((pre ++ x :: rest).map f)[pre.length]? = some (f x) := by simp
theorem Sj (p : z1) : (keyOf p).length ≤ p.zV + 1 := by
 unfold keyOf z1.zV
 simp only [List.length_append, List.length_cons, List.length_nil]; omega
theorem wa {α : Type} (l : List α) : l = [] ∨ ∃ p q, l = p ++ [q] := by
 rcases List.eq_nil_or_concat l with h | ⟨p, q, h⟩
 · exact .inl h
 · exact .inr ⟨p, q, by rw [h, List.concat_eq_append]⟩
end Go.Proofs.YtonbkdklidfmfaaGreatDoor
/- Packs and graphs, by both. Conditions: those of each lemma. -/
namespace Go.Proofs.YtonbkdklidfmfaaGreatDoor
open E
set_option linter.unusedSimpArgs false
set_option linter.unusedVariables false
set_option maxRecDepth 100000
theorem oF (p : z1) (hb : p.zV ≤ 4194304) : zm (EV Tryz.prog pol) 66 [.agg (p.enc.map .t)] = some (.t (.str (keyOf p))) := by
 obtain ⟨name, version, source, sums, dev, zz⟩ := p
 simp only [z1.zV] at hb
 simp only [z1.enc, List.map_cons, List.map_nil, keyOf]
 apply zu
 refine zw rfl Tryz.func66 rfl (by kernel_rfl) ?_
 unfold Tryz.f66
 simp (disch := ((try simp only [LL]); omega)) only [↓GO, ↓DRW, GA, GX, ren, zn, za, refs, z8, cst, zr, isC, bin, una, z7, zd, blt, asArg, zg, zc, zf, z6, E.mkS, unN, ze, zq, zb, GS, simprocAttr, GZ, yY]
theorem qO (p : z1) (hb : p.zV ≤ 4194304) : zm (EV Tryz.prog pol) 41 [.agg (p.enc.map .t)] = some (.t (.str (keyOf p))) := by
 obtain ⟨name, version, source, sums, dev, zz⟩ := p
 simp only [z1.zV] at hb
 simp only [z1.enc, List.map_cons, List.map_nil, keyOf]
 apply zu
 refine zw rfl Tryz.func41 rfl (by kernel_rfl) ?_
 unfold Tryz.f41
 simp (disch := ((try simp only [LL]); omega)) only [↓GO, ↓DRW, GA, GX, ren, zn, za, refs, z8, cst, zr, isC, bin, una, z7, zd, blt, asArg, zg, zc, zf, z6, E.mkS, unN, ze, zq, zb, GS, simprocAttr, GZ, yY]
theorem c_slI (a : Str) : zm (EV Tryz.prog pol) 161 [.t (.str a)] = some (.t (.int .i64 (sf a))) := by
 unfold sf Tl iD h1S iC
 cases h1 : (a == [115, 104, 97, 49]) <;> cases h2 : (a == [115, 104, 97, 50, 53, 54]) <;> cases h3 : (a == [104, 49]) <;> cases h4 : (a == [115, 104, 97, 53, 49, 50])
 all_goals
  apply zu
  refine zw rfl Tryz.func161 rfl (by kernel_rfl) ?_
  unfold Tryz.f161
  simp (disch := ((try simp only [LL]); omega)) only [↓GO, ↓DRW, GA, GX, ren, zn, za, refs, z8, cst, zr, isC, bin, una, z7, zd, blt, asArg, zg, zc, zf, z6, E.mkS, unN, ze, zq, zb, GS, simprocAttr, GZ, h1, h2, h3, h4]
theorem c_slR (a : Str) : zm (EV Tryz.prog pol) 119 [.t (.str a)] = some (.t (.int .i64 (sf a))) := by
 unfold sf Tl iD h1S iC
 cases h1 : (a == [115, 104, 97, 49]) <;> cases h2 : (a == [115, 104, 97, 50, 53, 54]) <;> cases h3 : (a == [104, 49]) <;> cases h4 : (a == [115, 104, 97, 53, 49, 50])
 all_goals
  apply zu
  refine zw rfl Tryz.func119 rfl (by kernel_rfl) ?_
  unfold Tryz.f119
  simp (disch := ((try simp only [LL]); omega)) only [↓GO, ↓DRW, GA, GX, ren, zn, za, refs, z8, cst, zr, isC, bin, una, z7, zd, blt, asArg, zg, zc, zf, z6, E.mkS, unN, ze, zq, zb, GS, simprocAttr, GZ, h1, h2, h3, h4]
theorem Z4 (es : List zy) (hl : es.length ≤ 4194304) : ∀ (rest pre : List zy), es = pre ++ rest →
 EV Tryz.prog pol (.loop 126 26 0 [.t (.list 2 (zy.zi es)), .t (.list 2 (zy.zi es)), .t (.int .i64 (es.length : Int)), .t (.int .i64 (pre.length : Int))] []) = some (cond (vR (pre.getLast?.map zy.alg) rest) (.loop (.exit 0) [.bad] []) (.loop .ret [.t (.bool false)] []))
 | [], pre, hs => by
  have c : decide ((pre.length : Int) < (es.length : Int)) = false := by simp [hs]
  refine zk Tryz.func126 rfl rfl ?_
  simp (disch := ((try simp only [LL]); omega)) only [↓GO, ↓DRW, GA, GX, ren, zn, za, refs, z8, cst, zr, isC, bin, una, z7, zd, blt, asArg, zg, zc, zf, z6, E.mkS, unN, ze, zq, zb, GS, simprocAttr, GZ, c, vR]
 | x :: rest, pre, hs => by
  have c : decide ((pre.length : Int) < (es.length : Int)) = true := by simp [hs]; omega
  have hget : (zy.zi es)[pre.length]? = some [.str x.alg, .str x.bytes] := by rw [hs]; exact pI zy.enc pre x rest
  have hlen : pre.length + rest.length + 1 ≤ es.length := by rw [hs]; simp; omega
  have IH := Z4 es hl rest (pre ++ [x]) (by rw [hs]; simp)
  have hk := c_slI x.alg
  rw [show ((pre ++ [x]).length : Int) = (pre.length : Int) + 1 by simp, show (pre ++ [x]).getLast?.map zy.alg = some x.alg by simp] at IH
  rw [vR]
  generalize sf x.alg = n at *
  rcases wa pre with rfl | ⟨pre', q, rfl⟩
  · clear hs
    simp only [List.length_nil, List.getLast?_nil, Option.map_none, vB, Int.natCast_zero, Int.zero_add] at *
    cases h1 : ((x.bytes.length : Int) == n)
    all_goals
     refine zk Tryz.func126 rfl rfl ?_
     simp (disch := ((try simp only [LL]); omega)) only [↓GO, ↓DRW, GA, GX, ren, zn, za, refs, z8, cst, zr, isC, bin, una, z7, zd, blt, asArg, zg, zc, zf, z6, E.mkS, unN, ze, zq, zb, GS, simprocAttr, GZ, zy.zj, c, hget, zo, hk, h1, bne, IH, Int.zero_add]
  · have hprev : uX (zy.zi es) (((pre' ++ [q]).length : Int) - 1) = some [.str q.alg, .str q.bytes] := by rw [hs]; exact tq zy.enc pre' q (x :: rest)
    have hge : 1 ≤ (pre' ++ [q]).length := by simp
    have hgt : decide (((pre' ++ [q]).length : Int) > 0) = true := by simp only [decide_eq_true_eq]; omega
    have hcmp := pJ x.alg q.alg
    rw [show (pre' ++ [q]).getLast?.map zy.alg = some q.alg by simp]
    simp only [vB]
    clear hs
    generalize (pre' ++ [q]).length = m at *
    cases h1 : ((x.bytes.length : Int) == n) <;> cases h2 : Op.bytesLess q.alg x.alg <;> rw [h2] at hcmp
    all_goals
     refine zk Tryz.func126 rfl rfl ?_
     simp (disch := ((try simp only [LL]); omega)) only [↓GO, ↓DRW, GA, GX, ren, zn, za, refs, z8, cst, zr, isC, bin, una, z7, zd, blt, asArg, zg, zc, zf, z6, E.mkS, unN, ze, zq, zb, GS, simprocAttr, GZ, zy.zj, c, hget, zo, hk, h1, bne, hgt, hprev, hcmp, IH]
theorem SK (es : List zy) (hl : es.length ≤ 4194304) : zm (EV Tryz.prog pol) 126 [.t (.list 2 (zy.zi es))] = some (.t (.bool (vR none es))) := by
 have IH := Z4 es hl es [] rfl
 simp only [List.length_nil, Int.natCast_zero, List.getLast?_nil, Option.map_none] at IH
 apply zu
 refine zw rfl Tryz.func126 rfl (by kernel_rfl) ?_
 unfold Tryz.f126
 cases h : vR none es <;> rw [h] at IH <;> simp only [cond_true, cond_false] at IH <;> simp (disch := ((try simp only [LL]); omega)) only [↓GO, ↓DRW, GA, GX, ren, zn, za, refs, z8, cst, zr, isC, bin, una, z7, zd, blt, asArg, zg, zc, zf, z6, E.mkS, unN, ze, zq, zb, GS, simprocAttr, GZ, zy.zj, IH]
theorem Z6 (p : z1) (hb : p.zV ≤ 4194304) : ∀ (rest pre : List zy), p.sums = pre ++ rest →
 EV Tryz.prog pol (.loop 83 26 0 [.ptr 0 0 0, .t (.int .i64 (pre.length : Int))] [.vs 6 [p.enc.map .t]]) = some (cond (vR (pre.getLast?.map zy.alg) rest) (.loop (.exit 0) [.ptr 0 0 0, .bad] [.vs 6 [p.enc.map .t]]) (.loop .ret [.ptr 0 0 0, .t (.bool false)] [.vs 6 [p.enc.map .t]]))
 | [], pre, hs => by
  have c : decide ((pre.length : Int) < (p.sums.length : Int)) = false := by simp [hs]
  simp only [z1.enc, List.map_cons, List.map_nil]
  refine zk Tryz.func83 rfl rfl ?_
  simp (disch := ((try simp only [LL]); omega)) only [↓GO, ↓DRW, GA, GX, ren, zn, za, refs, z8, cst, zr, isC, bin, una, z7, zd, blt, asArg, zg, zc, zf, z6, E.mkS, unN, ze, zq, zb, GS, simprocAttr, GZ, c, zy.zj, vR, zF]
 | x :: rest, pre, hs => by
  have c : decide ((pre.length : Int) < (p.sums.length : Int)) = true := by simp [hs]; omega
  have hget : (zy.zi p.sums)[pre.length]? = some [.str x.alg, .str x.bytes] := by rw [hs]; exact pI zy.enc pre x rest
  have hlen : pre.length + rest.length + 1 ≤ p.sums.length := by rw [hs]; simp; omega
  have hpb : p.sums.length ≤ 4194304 := by unfold z1.zV at hb; omega
  have IH := Z6 p hb rest (pre ++ [x]) (by rw [hs]; simp)
  have hk := c_slR x.alg
  rw [show ((pre ++ [x]).length : Int) = (pre.length : Int) + 1 by simp, show (pre ++ [x]).getLast?.map zy.alg = some x.alg by simp] at IH
  rw [vR]
  have hco : ((x.bytes.length : Int) == sf x.alg) = (sf x.alg == (x.bytes.length : Int)) := Bool.beq_comm
  rw [hco]
  generalize sf x.alg = n at *
  simp only [z1.enc, List.map_cons, List.map_nil] at IH ⊢
  rcases wa pre with rfl | ⟨pre', q, rfl⟩
  · clear hs
    simp only [List.length_nil, List.getLast?_nil, Option.map_none, vB, Int.natCast_zero, Int.zero_add] at *
    cases h1 : (n == (x.bytes.length : Int))
    all_goals
     refine zk Tryz.func83 rfl rfl ?_
     simp (disch := ((try simp only [LL]); omega)) only [↓GO, ↓DRW, GA, GX, ren, zn, za, refs, z8, cst, zr, isC, bin, una, z7, zd, blt, asArg, zg, zc, zf, z6, E.mkS, unN, ze, zq, zb, GS, simprocAttr, GZ, zy.zj, c, hget, zo, hk, h1, bne, IH, Int.zero_add, zF]
  · have hprev : uX (zy.zi p.sums) (((pre' ++ [q]).length : Int) - 1) = some [.str q.alg, .str q.bytes] := by rw [hs]; exact tq zy.enc pre' q (x :: rest)
    have hge : 1 ≤ (pre' ++ [q]).length := by simp
    have hgt : decide (((pre' ++ [q]).length : Int) > 0) = true := by simp only [decide_eq_true_eq]; omega
    rw [show (pre' ++ [q]).getLast?.map zy.alg = some q.alg by simp]
    simp only [vB]
    clear hs
    generalize (pre' ++ [q]).length = m at *
    cases h1 : (n == (x.bytes.length : Int)) <;> cases h2 : Op.bytesLess q.alg x.alg
    all_goals
     refine zk Tryz.func83 rfl rfl ?_
     simp (disch := ((try simp only [LL]); omega)) only [↓GO, ↓DRW, GA, GX, ren, zn, za, refs, z8, cst, zr, isC, bin, una, z7, zd, blt, asArg, zg, zc, zf, z6, E.mkS, unN, ze, zq, zb, GS, simprocAttr, GZ, zy.zj, c, hget, zo, hk, h1, bne, hgt, hprev, h2, IH, zF]
theorem Sx (s : Str) : ((exT s).length : Int) = cond (wV s).isSome 1 0 := by
 unfold exT
 cases wV s <;> rfl
theorem SO (p : z1) (hb : p.zV ≤ 1048576) : zm (EV Tryz.prog pol) 83 [.agg (p.enc.map .t)] = some (.t (.bool (uz p))) := by
 have L := Z6 p (by omega) p.sums [] rfl
 simp only [z1.zV] at hb
 have h1 := SQ p.name (by omega)
 have h2 := c_exR p.version (by omega)
 have h3 := Ve p.source (by omega)
 have h4 := Sx p.version
 simp only [List.length_nil, Int.natCast_zero, List.getLast?_nil, Option.map_none] at L
 simp only [z1.enc, List.map_cons, List.map_nil] at L ⊢
 unfold uz
 generalize exT p.version = et at *
 generalize vR none p.sums = b1 at *
 generalize sY p.name = b2 at *
 generalize sb p.source = b3 at *
 generalize (wV p.version).isSome = b4 at *
 cases b1 <;> simp only [cond_true, cond_false] at L <;> cases b2 <;> cases b4 <;> simp only [cond_true, cond_false] at h4 <;> cases b3
 all_goals
  apply zu
  refine zw rfl Tryz.func83 rfl (by kernel_rfl) ?_
  unfold Tryz.f83
  simp (disch := ((try simp only [LL]); omega)) only [↓GO, ↓DRW, GA, GX, ren, zn, za, refs, z8, cst, zr, isC, bin, una, z7, zd, blt, asArg, zg, zc, zf, z6, E.mkS, unN, ze, zq, zb, GS, simprocAttr, GZ, L, h1, h2, h3, h4, zF, zy.zj]
theorem V3 (s : Str) : ((exT s).length : Int) = cond (wV s).isSome 1 0 := by
 unfold exT
 cases wV s <;> rfl
theorem SP (p : z1) (hb : p.zV ≤ 1048576) : zm (EV Tryz.prog pol) 85 [.agg (p.enc.map .t)] = some (.t (.bool (uz p))) := by
 simp only [z1.zV] at hb
 have L := SK p.sums (by omega)
 have h1 := SR p.name (by omega)
 have h2 := c_exI p.version (by omega)
 have h3 := Vf p.source (by omega)
 have h4 := V3 p.version
 simp only [z1.enc, List.map_cons, List.map_nil]
 unfold uz
 generalize exT p.version = et at *
 generalize vR none p.sums = b1 at *
 generalize sY p.name = b2 at *
 generalize sb p.source = b3 at *
 generalize (wV p.version).isSome = b4 at *
 cases b1 <;> cases b2 <;> cases b4 <;> simp only [cond_true, cond_false] at h4 <;> cases b3
 all_goals
  apply zu
  refine zw rfl Tryz.func85 rfl (by kernel_rfl) ?_
  unfold Tryz.f85
  simp (disch := ((try simp only [LL]); omega)) only [↓GO, ↓DRW, GA, GX, ren, zn, za, refs, z8, cst, zr, isC, bin, una, z7, zd, blt, asArg, zg, zc, zf, z6, E.mkS, unN, ze, zq, zb, GS, simprocAttr, GZ, L, h1, h2, h3, h4, zF, zy.zj]
/-- graphs of bounded size -/
def GB (g : zx) : Prop := g.zV ≤ 1048576
theorem GB.len {g : zx} (h : GB g) : g.packs.length ≤ 1048576 ∧ g.top.length + yb g.top ≤ 1048576 ∧ ∀ p ∈ g.packs, p.zV ≤ 1048576 := by
 unfold GB zx.zV at h
 refine ⟨by omega, by omega, fun p hp => ?_⟩
 have := z1.yj hp
 omega
theorem SZ (p : z1) (k : Str) (hb : p.zV ≤ 1048576) : zm (EV Tryz.prog pol) 88 [.agg (p.enc.map .t), .t (.fp [.str k])] = some (.t (.bool (keyOf p == k))) := by
 have h := oF p (by omega)
 simp only [z1.enc, List.map_cons, List.map_nil] at h ⊢
 apply zu
 refine zw rfl Tryz.func88 rfl (by kernel_rfl) ?_
 unfold Tryz.f88
 simp (disch := ((try simp only [LL]); omega)) only [↓GO, ↓DRW, GA, GX, ren, zn, za, refs, z8, cst, zr, isC, bin, una, z7, zd, blt, asArg, zg, zc, zf, z6, E.mkS, unN, ze, zq, zb, GS, simprocAttr, GZ, h]
theorem hU (g : zx) (k : Str) (hB : GB g) : zm (EV Tryz.prog pol) 33 [.agg (g.enc.map .t), .t (.str k)] = some (.t (.int .i64 (ixI (tJ g.packs k)))) := by
 obtain ⟨b1, b2, b3⟩ := hB.len
 have h := vD 88 [.fp [.str k]] (fun p => keyOf p == k) g.packs (by omega) (fun x hx => SZ x k (b3 x hx))
 simp only [zx.enc, List.map_cons, List.map_nil] at h ⊢
 unfold tJ
 apply zu
 refine zw rfl Tryz.func33 rfl (by kernel_rfl) ?_
 unfold Tryz.f33
 simp (disch := ((try simp only [LL]); omega)) only [↓GO, ↓DRW, GA, GX, ren, zn, za, refs, z8, cst, zr, isC, bin, una, z7, zd, blt, asArg, zg, zc, zf, z6, E.mkS, unN, ze, zq, zb, GS, simprocAttr, GZ, h, wD, zF]
theorem Zf (g : zx) (k : Str) (hB : GB g) : ∀ (rest pre : List z1), g.packs = pre ++ rest →
 EV Tryz.prog pol (.loop 62 26 0 [.t (.str k), .ptr 0 0 0, .t (.int .i64 (pre.length : Int))] [.vs 2 [g.enc.map .t]]) = some (match xR (fun p => keyOf p == k) rest pre.length with | some i => .loop .ret [.t (.int .i64 (i : Int))] [] | none => .loop (.exit 0) [.bad] [])
 | [], pre, hs => by
  have c : decide ((pre.length : Int) < (g.packs.length : Int)) = false := by simp [hs]
  simp only [zx.enc, List.map_cons, List.map_nil]
  refine zk Tryz.func62 rfl rfl ?_
  simp (disch := ((try simp only [LL]); omega)) only [↓GO, ↓DRW, GA, GX, ren, zn, za, refs, z8, cst, zr, isC, bin, una, z7, zd, blt, asArg, zg, zc, zf, z6, E.mkS, unN, ze, zq, zb, GS, simprocAttr, GZ, c, z1.zj, xR, zF]
 | x :: rest, pre, hs => by
  obtain ⟨b1, b2, b3⟩ := hB.len
  have c : decide ((pre.length : Int) < (g.packs.length : Int)) = true := by simp [hs]; omega
  have hget : (z1.zi g.packs)[pre.length]? = some x.enc := by rw [hs]; exact pI z1.enc pre x rest
  have hlen : pre.length + rest.length + 1 ≤ g.packs.length := by rw [hs]; simp; omega
  have hk := qO x (by have := b3 x (by rw [hs]; simp); omega)
  have IH := Zf g k hB rest (pre ++ [x]) (by rw [hs]; simp)
  rw [show ((pre ++ [x]).length : Int) = (pre.length : Int) + 1 by simp, show (pre ++ [x]).length = pre.length + 1 by simp] at IH
  clear hs
  simp only [zx.enc, z1.enc, List.map_cons, List.map_nil] at hget hk IH ⊢
  rw [xR]
  cases h1 : (keyOf x == k)
  all_goals
   refine zk Tryz.func62 rfl rfl ?_
   simp (disch := ((try simp only [LL]); omega)) only [↓GO, ↓DRW, GA, GX, ren, zn, za, refs, z8, cst, zr, isC, bin, una, z7, zd, blt, asArg, zg, zc, zf, z6, E.mkS, unN, ze, zq, zb, GS, simprocAttr, GZ, c, z1.zj, hget, hk, h1, zo, IH, zF]
theorem iZ (g : zx) (k : Str) (hB : GB g) : zm (EV Tryz.prog pol) 62 [.agg (g.enc.map .t), .t (.str k)] = some (.t (.int .i64 (ixI (tJ g.packs k)))) := by
 have L := Zf g k hB g.packs [] rfl
 simp only [List.length_nil, Int.natCast_zero] at L
 simp only [zx.enc, List.map_cons, List.map_nil] at L ⊢
 unfold tJ
 cases hf : xR (fun p => keyOf p == k) g.packs 0 <;> rw [hf] at L <;> simp only at L
 all_goals
  apply zu
  refine zw rfl Tryz.func62 rfl (by kernel_rfl) ?_
  unfold Tryz.f62
  simp (disch := ((try simp only [LL]); omega)) only [↓GO, ↓DRW, GA, GX, ren, zn, za, refs, z8, cst, zr, isC, bin, una, z7, zd, blt, asArg, zg, zc, zf, z6, E.mkS, unN, ze, zq, zb, GS, simprocAttr, GZ, L, ixI, zF]
theorem Zd (g : zx) (hB : GB g) (ks : List Str) (hl : ks.length ≤ 1048576) : ∀ (rest pre : List Str), ks = pre ++ rest →
 EV Tryz.prog pol (.loop 86 26 0 [.t (.list 1 (strs ks)), .ptr 0 0 0, .t (.list 1 (strs ks)), .t (.int .i64 (ks.length : Int)), .t (.int .i64 (pre.length : Int))] [.vs 2 [g.enc.map .t]]) = some (cond (xz g.packs pre.getLast? rest) (.loop (.exit 0) [.bad] []) (.loop .ret [.t (.bool false)] []))
 | [], pre, hs => by
  have c : decide ((pre.length : Int) < (ks.length : Int)) = false := by simp [hs]
  simp only [zx.enc, List.map_cons, List.map_nil]
  refine zk Tryz.func86 rfl rfl ?_
  simp (disch := ((try simp only [LL]); omega)) only [↓GO, ↓DRW, GA, GX, ren, zn, za, refs, z8, cst, zr, isC, bin, una, z7, zd, blt, asArg, zg, zc, zf, z6, E.mkS, unN, ze, zq, zb, GS, simprocAttr, GZ, c, xz, zF]
 | x :: rest, pre, hs => by
  have c : decide ((pre.length : Int) < (ks.length : Int)) = true := by simp [hs]; omega
  have hget : (strs ks)[pre.length]? = some [.str x] := by rw [hs]; exact wY pre x rest
  have hlen : pre.length + rest.length + 1 ≤ ks.length := by rw [hs]; simp; omega
  have IH := Zd g hB ks hl rest (pre ++ [x]) (by rw [hs]; simp)
  have hk := hU g x hB
  have hlt := T8 (fun p => keyOf p == x) g.packs
  rw [show ((pre ++ [x]).length : Int) = (pre.length : Int) + 1 by simp, show (pre ++ [x]).getLast? = some x by simp] at IH
  rw [xz]
  unfold gA
  unfold tJ at hk
  generalize ixI (xR (fun p => keyOf p == x) g.packs 0) = n at *
  generalize (g.packs.any fun p => keyOf p == x) = b1 at *
  simp only [zx.enc, List.map_cons, List.map_nil] at hk IH ⊢
  rcases wa pre with rfl | ⟨pre', q, rfl⟩
  · clear hs
    simp only [List.length_nil, List.getLast?_nil, vB, Int.natCast_zero, Int.zero_add] at *
    cases b1 <;> simp only [Bool.not_true, Bool.not_false] at hlt
    all_goals
     refine zk Tryz.func86 rfl rfl ?_
     simp (disch := ((try simp only [LL]); omega)) only [↓GO, ↓DRW, GA, GX, ren, zn, za, refs, z8, cst, zr, isC, bin, una, z7, zd, blt, asArg, zg, zc, zf, z6, E.mkS, unN, ze, zq, zb, GS, simprocAttr, GZ, zh, c, hget, zo, hk, hlt, IH, Int.zero_add, zF]
  · have hprev : uX (strs ks) (((pre' ++ [q]).length : Int) - 1) = some [.str q] := by rw [hs]; exact tq (fun s => [T.str s]) pre' q (x :: rest)
    have hge : 1 ≤ (pre' ++ [q]).length := by simp
    have hgt : decide (((pre' ++ [q]).length : Int) > 0) = true := by simp only [decide_eq_true_eq]; omega
    have hcmp := pJ x q
    rw [show (pre' ++ [q]).getLast? = some q by simp]
    simp only [vB]
    clear hs
    generalize (pre' ++ [q]).length = m at *
    cases b1 <;> simp only [Bool.not_true, Bool.not_false] at hlt <;> cases h2 : Op.bytesLess q x <;> rw [h2] at hcmp
    all_goals
     refine zk Tryz.func86 rfl rfl ?_
     simp (disch := ((try simp only [LL]); omega)) only [↓GO, ↓DRW, GA, GX, ren, zn, za, refs, z8, cst, zr, isC, bin, una, z7, zd, blt, asArg, zg, zc, zf, z6, E.mkS, unN, ze, zq, zb, GS, simprocAttr, GZ, zh, c, hget, zo, hk, hlt, hgt, hprev, hcmp, IH, zF]
theorem ZM (g : zx) (hB : GB g) (ks : List Str) (hl : ks.length ≤ 1048576) : zm (EV Tryz.prog pol) 86 [.agg (g.enc.map .t), .t (.list 1 (strs ks))] = some (.t (.bool (xz g.packs none ks))) := by
 have L := Zd g hB ks hl ks [] rfl
 simp only [List.length_nil, Int.natCast_zero, List.getLast?_nil] at L
 simp only [zx.enc, List.map_cons, List.map_nil] at L ⊢
 cases h : xz g.packs none ks <;> rw [h] at L <;> simp only [cond_true, cond_false] at L
 all_goals
  apply zu
  refine zw rfl Tryz.func86 rfl (by kernel_rfl) ?_
  unfold Tryz.f86
  simp (disch := ((try simp only [LL]); omega)) only [↓GO, ↓DRW, GA, GX, ren, zn, za, refs, z8, cst, zr, isC, bin, una, z7, zd, blt, asArg, zg, zc, zf, z6, E.mkS, unN, ze, zq, zb, GS, simprocAttr, GZ, L, zh, zF]
theorem Zc (g : zx) (hB : GB g) (ks : List Str) (hl : ks.length ≤ 1048576) : ∀ (rest pre : List Str), ks = pre ++ rest →
 EV Tryz.prog pol (.loop 84 26 0 [.t (.list 1 (strs ks)), .ptr 0 0 0, .t (.int .i64 (pre.length : Int))] [.vs 2 [g.enc.map .t]]) = some (cond (xz g.packs pre.getLast? rest) (.loop (.exit 0) [.bad] []) (.loop .ret [.t (.bool false)] []))
 | [], pre, hs => by
  have c : decide ((pre.length : Int) < (ks.length : Int)) = false := by simp [hs]
  simp only [zx.enc, List.map_cons, List.map_nil]
  refine zk Tryz.func84 rfl rfl ?_
  simp (disch := ((try simp only [LL]); omega)) only [↓GO, ↓DRW, GA, GX, ren, zn, za, refs, z8, cst, zr, isC, bin, una, z7, zd, blt, asArg, zg, zc, zf, z6, E.mkS, unN, ze, zq, zb, GS, simprocAttr, GZ, c, zh, xz, zF]
 | x :: rest, pre, hs => by
  have c : decide ((pre.length : Int) < (ks.length : Int)) = true := by simp [hs]; omega
  have hget : (strs ks)[pre.length]? = some [.str x] := by rw [hs]; exact wY pre x rest
  have hlen : pre.length + rest.length + 1 ≤ ks.length := by rw [hs]; simp; omega
  have IH := Zc g hB ks hl rest (pre ++ [x]) (by rw [hs]; simp)
  have hk := iZ g x hB
  have hlt := T8 (fun p => keyOf p == x) g.packs
  rw [show ((pre ++ [x]).length : Int) = (pre.length : Int) + 1 by simp, show (pre ++ [x]).getLast? = some x by simp] at IH
  rw [xz]
  unfold gA
  unfold tJ at hk
  generalize ixI (xR (fun p => keyOf p == x) g.packs 0) = n at *
  generalize (g.packs.any fun p => keyOf p == x) = b1 at *
  simp only [zx.enc, List.map_cons, List.map_nil] at hk IH ⊢
  rcases wa pre with rfl | ⟨pre', q, rfl⟩
  · clear hs
    simp only [List.length_nil, List.getLast?_nil, vB, Int.natCast_zero, Int.zero_add] at *
    cases b1 <;> simp only [Bool.not_true, Bool.not_false] at hlt
    all_goals
     refine zk Tryz.func84 rfl rfl ?_
     simp (disch := ((try simp only [LL]); omega)) only [↓GO, ↓DRW, GA, GX, ren, zn, za, refs, z8, cst, zr, isC, bin, una, z7, zd, blt, asArg, zg, zc, zf, z6, E.mkS, unN, ze, zq, zb, GS, simprocAttr, GZ, zh, c, hget, zo, hk, hlt, IH, Int.zero_add, zF]
  · have hprev : uX (strs ks) (((pre' ++ [q]).length : Int) - 1) = some [.str q] := by rw [hs]; exact tq (fun s => [T.str s]) pre' q (x :: rest)
    have hge : 1 ≤ (pre' ++ [q]).length := by simp
    have hgt : decide (((pre' ++ [q]).length : Int) > 0) = true := by simp only [decide_eq_true_eq]; omega
    rw [show (pre' ++ [q]).getLast? = some q by simp]
    simp only [vB]
    clear hs
    generalize (pre' ++ [q]).length = m at *
    cases b1 <;> simp only [Bool.not_true, Bool.not_false] at hlt <;> cases h2 : Op.bytesLess q x
    all_goals
     refine zk Tryz.func84 rfl rfl ?_
     simp (disch := ((try simp only [LL]); omega)) only [↓GO, ↓DRW, GA, GX, ren, zn, za, refs, z8, cst, zr, isC, bin, una, z7, zd, blt, asArg, zg, zc, zf, z6, E.mkS, unN, ze, zq, zb, GS, simprocAttr, GZ, zh, c, hget, zo, hk, hlt, hgt, hprev, h2, IH, zF]
theorem ZL (g : zx) (hB : GB g) (ks : List Str) (hl : ks.length ≤ 1048576) : zm (EV Tryz.prog pol) 84 [.agg (g.enc.map .t), .t (.list 1 (strs ks))] = some (.t (.bool (xz g.packs none ks))) := by
 have L := Zc g hB ks hl ks [] rfl
 simp only [List.length_nil, Int.natCast_zero, List.getLast?_nil] at L
 simp only [zx.enc, List.map_cons, List.map_nil] at L ⊢
 cases h : xz g.packs none ks <;> rw [h] at L <;> simp only [cond_true, cond_false] at L
 all_goals
  apply zu
  refine zw rfl Tryz.func84 rfl (by kernel_rfl) ?_
  unfold Tryz.f84
  simp (disch := ((try simp only [LL]); omega)) only [↓GO, ↓DRW, GA, GX, ren, zn, za, refs, z8, cst, zr, isC, bin, una, z7, zd, blt, asArg, zg, zc, zf, z6, E.mkS, unN, ze, zq, zb, GS, simprocAttr, GZ, L, zh, zF]
end Go.Proofs.YtonbkdklidfmfaaGreatDoor
/- Is a graph right? By both. Conditions: those of each lemma. -/
namespace Go.Proofs.YtonbkdklidfmfaaGreatDoor
open E
set_option linter.unusedSimpArgs false
set_option linter.unusedVariables false
set_option maxRecDepth 100000
theorem mj {p : z1} {n : Nat} (h : p.zV ≤ n) : p.zz.length ≤ n ∧ yb p.zz ≤ n ∧ p.sums.length ≤ n ∧ zy.zK p.sums ≤ n ∧ p.name.length ≤ n ∧ p.version.length ≤ n ∧ p.source.length ≤ n := by
 unfold z1.zV at h; omega
theorem T2 (g : zx) (hB : GB g) : ∀ (rest pre : List z1), g.packs = pre ++ rest →
 EV Tryz.prog pol (.loop 32 26 0 [.ptr 0 0 0, .t (.list 6 (z1.zi g.packs)), .t (.int .i64 (g.packs.length : Int)), .t (.int .i64 (pre.length : Int))] [.vs 2 [g.enc.map .t]]) = some (cond (w9 g.packs (pre.getLast?.map keyOf) rest) (.loop (.exit 0) [.ptr 0 0 0, .bad] [.vs 2 [g.enc.map .t]]) (.loop .ret [.ptr 0 0 0, .t (.bool false)] [.vs 2 [g.enc.map .t]]))
 | [], pre, hs => by
  have c : decide ((pre.length : Int) < (g.packs.length : Int)) = false := by simp [hs]
  simp only [zx.enc, List.map_cons, List.map_nil]
  refine zk Tryz.func32 rfl rfl ?_
  simp (disch := ((try simp only [LL]); omega)) only [↓GO, ↓DRW, GA, GX, ren, zn, za, refs, z8, cst, zr, isC, bin, una, z7, zd, blt, asArg, zg, zc, zf, z6, E.mkS, unN, ze, zq, zb, GS, simprocAttr, GZ, c, w9, zF]
 | x :: rest, pre, hs => by
  obtain ⟨b1, b2, b3⟩ := hB.len
  have c : decide ((pre.length : Int) < (g.packs.length : Int)) = true := by simp [hs]; omega
  have hget : (z1.zi g.packs)[pre.length]? = some x.enc := by rw [hs]; exact pI z1.enc pre x rest
  have hlen : pre.length + rest.length + 1 ≤ g.packs.length := by rw [hs]; simp; omega
  have hxb := b3 x (by rw [hs]; simp)
  have IH := T2 g hB rest (pre ++ [x]) (by rw [hs]; simp)
  have h1 := SP x hxb
  have h2 := oF x (by omega)
  have h3 := ZM g hB x.zz (mj hxb).1
  rw [show ((pre ++ [x]).length : Int) = (pre.length : Int) + 1 by simp, show (pre ++ [x]).getLast?.map keyOf = some (keyOf x) by simp] at IH
  rw [w9]
  generalize uz x = a1 at *
  generalize xz g.packs none x.zz = a2 at *
  rcases wa pre with rfl | ⟨pre', q, rfl⟩
  · clear hs
    generalize keyOf x = kx at *
    simp only [List.length_nil, List.getLast?_nil, Option.map_none, vB, Int.natCast_zero, Int.zero_add] at *
    simp only [zx.enc, z1.enc, List.map_cons, List.map_nil] at hget h1 h2 h3 IH ⊢
    cases a1 <;> cases a2
    all_goals
     refine zk Tryz.func32 rfl rfl ?_
     simp (disch := ((try simp only [LL]); omega)) only [↓GO, ↓DRW, GA, GX, ren, zn, za, refs, z8, cst, zr, isC, bin, una, z7, zd, blt, asArg, zg, zc, zf, z6, E.mkS, unN, ze, zq, zb, GS, simprocAttr, GZ, z1.zj, c, hget, zo, h1, h2, h3, IH, Int.zero_add, zF]
  · have hprev : uX (z1.zi g.packs) (((pre' ++ [q]).length : Int) - 1) = some q.enc := by rw [hs]; exact tq z1.enc pre' q (x :: rest)
    have h4 := oF q (by have := b3 q (by rw [hs]; simp); omega)
    have hge : 1 ≤ (pre' ++ [q]).length := by simp
    have hgt : decide (((pre' ++ [q]).length : Int) > 0) = true := by simp only [decide_eq_true_eq]; omega
    have hcmp := pJ (keyOf x) (keyOf q)
    rw [show (pre' ++ [q]).getLast?.map keyOf = some (keyOf q) by simp]
    simp only [vB]
    clear hs
    generalize (pre' ++ [q]).length = m at *
    generalize keyOf x = kx at *
    generalize keyOf q = kq at *
    simp only [zx.enc, z1.enc, List.map_cons, List.map_nil] at hget hprev h1 h2 h3 h4 IH ⊢
    cases a1 <;> cases a2 <;> cases h5 : Op.bytesLess kq kx <;> rw [h5] at hcmp
    all_goals
     refine zk Tryz.func32 rfl rfl ?_
     simp (disch := ((try simp only [LL]); omega)) only [↓GO, ↓DRW, GA, GX, ren, zn, za, refs, z8, cst, zr, isC, bin, una, z7, zd, blt, asArg, zg, zc, zf, z6, E.mkS, unN, ze, zq, zb, GS, simprocAttr, GZ, z1.zj, c, hget, zo, h1, h2, h3, h4, hgt, hprev, hcmp, IH, zF]
theorem uT (g : zx) (hB : GB g) : zm (EV Tryz.prog pol) 32 [.agg (g.enc.map .t)] = some (.t (.bool (y6 g))) := by
 have L := T2 g hB g.packs [] rfl
 have h3 := ZM g hB g.top (by have := hB.len; omega)
 simp only [List.length_nil, Int.natCast_zero, List.getLast?_nil, Option.map_none] at L
 simp only [zx.enc, List.map_cons, List.map_nil] at L h3 ⊢
 unfold y6
 generalize xz g.packs none g.top = a2 at *
 cases h : w9 g.packs none g.packs <;> rw [h] at L <;> simp only [cond_true, cond_false] at L <;> cases h4 : decide ((g.packs.length : Int) ≤ 40) <;> cases a2
 all_goals
  apply zu
  refine zw rfl Tryz.func32 rfl (by kernel_rfl) ?_
  unfold Tryz.f32
  simp (disch := ((try simp only [LL]); omega)) only [↓GO, ↓DRW, GA, GX, ren, zn, za, refs, z8, cst, zr, isC, bin, una, z7, zd, blt, asArg, zg, zc, zf, z6, E.mkS, unN, ze, zq, zb, GS, simprocAttr, GZ, L, z1.zj, h3, h4, zF]
theorem T1 (g : zx) (hB : GB g) : ∀ (rest pre : List z1), g.packs = pre ++ rest →
 EV Tryz.prog pol (.loop 31 26 0 [.ptr 0 0 0, .t (.int .i64 (pre.length : Int))] [.vs 2 [g.enc.map .t]]) = some (cond (w9 g.packs (pre.getLast?.map keyOf) rest) (.loop (.exit 0) [.ptr 0 0 0, .bad] [.vs 2 [g.enc.map .t]]) (.loop .ret [.ptr 0 0 0, .t (.bool false)] [.vs 2 [g.enc.map .t]]))
 | [], pre, hs => by
  have c : decide ((pre.length : Int) < (g.packs.length : Int)) = false := by simp [hs]
  simp only [zx.enc, List.map_cons, List.map_nil]
  refine zk Tryz.func31 rfl rfl ?_
  simp (disch := ((try simp only [LL]); omega)) only [↓GO, ↓DRW, GA, GX, ren, zn, za, refs, z8, cst, zr, isC, bin, una, z7, zd, blt, asArg, zg, zc, zf, z6, E.mkS, unN, ze, zq, zb, GS, simprocAttr, GZ, c, z1.zj, w9, zF]
 | x :: rest, pre, hs => by
  obtain ⟨b1, b2, b3⟩ := hB.len
  have c : decide ((pre.length : Int) < (g.packs.length : Int)) = true := by simp [hs]; omega
  have hget : (z1.zi g.packs)[pre.length]? = some x.enc := by rw [hs]; exact pI z1.enc pre x rest
  have hlen : pre.length + rest.length + 1 ≤ g.packs.length := by rw [hs]; simp; omega
  have hxb := b3 x (by rw [hs]; simp)
  have IH := T1 g hB rest (pre ++ [x]) (by rw [hs]; simp)
  have h1 := SO x hxb
  have h2 := qO x (by omega)
  have h3 := ZL g hB x.zz (mj hxb).1
  rw [show ((pre ++ [x]).length : Int) = (pre.length : Int) + 1 by simp, show (pre ++ [x]).getLast?.map keyOf = some (keyOf x) by simp] at IH
  rw [w9]
  generalize uz x = a1 at *
  generalize xz g.packs none x.zz = a2 at *
  rcases wa pre with rfl | ⟨pre', q, rfl⟩
  · clear hs
    generalize keyOf x = kx at *
    simp only [List.length_nil, List.getLast?_nil, Option.map_none, vB, Int.natCast_zero, Int.zero_add] at *
    simp only [zx.enc, z1.enc, List.map_cons, List.map_nil] at hget h1 h2 h3 IH ⊢
    cases a1 <;> cases a2
    all_goals
     refine zk Tryz.func31 rfl rfl ?_
     simp (disch := ((try simp only [LL]); omega)) only [↓GO, ↓DRW, GA, GX, ren, zn, za, refs, z8, cst, zr, isC, bin, una, z7, zd, blt, asArg, zg, zc, zf, z6, E.mkS, unN, ze, zq, zb, GS, simprocAttr, GZ, z1.zj, c, hget, zo, h1, h2, h3, IH, Int.zero_add, zF]
  · have hprev : uX (z1.zi g.packs) (((pre' ++ [q]).length : Int) - 1) = some q.enc := by rw [hs]; exact tq z1.enc pre' q (x :: rest)
    have h4 := qO q (by have := b3 q (by rw [hs]; simp); omega)
    have hge : 1 ≤ (pre' ++ [q]).length := by simp
    have hgt : decide (((pre' ++ [q]).length : Int) > 0) = true := by simp only [decide_eq_true_eq]; omega
    rw [show (pre' ++ [q]).getLast?.map keyOf = some (keyOf q) by simp]
    simp only [vB]
    clear hs
    generalize (pre' ++ [q]).length = m at *
    generalize keyOf x = kx at *
    generalize keyOf q = kq at *
    simp only [zx.enc, z1.enc, List.map_cons, List.map_nil] at hget hprev h1 h2 h3 h4 IH ⊢
    cases a1 <;> cases a2 <;> cases h5 : Op.bytesLess kq kx
    all_goals
     refine zk Tryz.func31 rfl rfl ?_
     simp (disch := ((try simp only [LL]); omega)) only [↓GO, ↓DRW, GA, GX, ren, zn, za, refs, z8, cst, zr, isC, bin, una, z7, zd, blt, asArg, zg, zc, zf, z6, E.mkS, unN, ze, zq, zb, GS, simprocAttr, GZ, z1.zj, c, hget, zo, h1, h2, h3, h4, hgt, hprev, h5, IH, zF]
theorem oG (g : zx) (hB : GB g) : zm (EV Tryz.prog pol) 31 [.agg (g.enc.map .t)] = some (.t (.bool (y6 g))) := by
 have L := T1 g hB g.packs [] rfl
 have h3 := ZL g hB g.top (by have := hB.len; omega)
 simp only [List.length_nil, Int.natCast_zero, List.getLast?_nil, Option.map_none] at L
 simp only [zx.enc, List.map_cons, List.map_nil] at L h3 ⊢
 unfold y6
 generalize xz g.packs none g.top = a2 at *
 cases h : w9 g.packs none g.packs <;> rw [h] at L <;> simp only [cond_true, cond_false] at L <;> cases h4 : decide ((g.packs.length : Int) ≤ 40) <;> cases a2
 all_goals
  apply zu
  refine zw rfl Tryz.func31 rfl (by kernel_rfl) ?_
  unfold Tryz.f31
  simp (disch := ((try simp only [LL]); omega)) only [↓GO, ↓DRW, GA, GX, ren, zn, za, refs, z8, cst, zr, isC, bin, una, z7, zd, blt, asArg, zg, zc, zf, z6, E.mkS, unN, ze, zq, zb, GS, simprocAttr, GZ, L, z1.zj, h3, h4, zF]
end Go.Proofs.YtonbkdklidfmfaaGreatDoor
/- The tables of a graph, plain. Conditions: none. -/
namespace Go.Proofs.YtonbkdklidfmfaaGreatDoor
open E
set_option linter.unusedVariables false
set_option linter.unusedSimpArgs false
set_option maxRecDepth 100000
/-- the last place of a byte below a place -/
def uQ (b : UInt8) (s : Str) : Nat → Option Nat
 | 0 => none
 | n + 1 => if s[n]? = some b then some n else uQ b s n
theorem eH (b : UInt8) (s : Str) : ∀ (n k : Nat), uQ b s n = some k → k < n
 | 0, k, h => by cases h
 | n + 1, k, h => by
  unfold uQ at h
  split at h
  · cases h; omega
  · have := eH b s n k h; omega
def vH (k : Str) : Str × Str := match uQ 64 k k.length with
 | some n => (k.take n, k.drop (n + 1))
 | none => ([], [])
end Go.Proofs.YtonbkdklidfmfaaGreatDoor
/- Keys cut, short names, by both. Conditions: those of each lemma. -/
namespace Go.Proofs.YtonbkdklidfmfaaGreatDoor
open E
set_option linter.unusedSimpArgs false
set_option linter.unusedVariables false
set_option maxRecDepth 100000
theorem Zb (s : Str) (b : UInt8) (hl : s.length ≤ 4611686018427387904) : ∀ n : Nat, n ≤ s.length →
 EV Tryz.prog pol (.loop 164 26 0 [.t (.str s), .t (.int .u8 (b.toNat : Int)), .t (.int .i64 ((n : Int) - 1))] []) = some (match uQ b s n with | some k => .loop .ret [.t (.int .i64 (k : Int))] [] | none => .loop (.exit 0) [.bad] [])
 | 0, hn => by
  have c : decide ((0 : Int) - 1 ≥ 0) = false := by decide
  refine zk Tryz.func164 rfl rfl ?_
  simp (disch := ((try simp only [LL]); omega)) only [↓GO, ↓DRW, GA, GX, ren, zn, za, refs, z8, cst, zr, isC, bin, una, z7, zd, blt, asArg, zg, zc, zf, z6, E.mkS, unN, ze, zq, zb, GS, simprocAttr, GZ, c, uQ]
 | n + 1, hn => by
  have c : decide ((n : Int) ≥ 0) = true := by simp
  have e : ((n + 1 : Nat) : Int) - 1 = (n : Int) := by omega
  have IH := Zb s b hl n (by omega)
  rw [e, uQ]
  obtain ⟨x, hx⟩ : ∃ x, s[n]? = some x := ⟨s[n]'(by omega), by simp⟩
  rw [hx]
  by_cases h : x = b
  · subst h
    rw [if_pos rfl]
    refine zk Tryz.func164 rfl rfl ?_
    simp (disch := ((try simp only [LL]); omega)) only [↓GO, ↓DRW, GA, GX, ren, zn, za, refs, z8, cst, zr, isC, bin, una, z7, zd, blt, asArg, zg, zc, zf, z6, E.mkS, unN, ze, zq, zb, GS, simprocAttr, GZ, c, hx, zo]
  · have c2 : ((x.toNat : Int) == (b.toNat : Int)) = false := by
     rw [beq_eq_false_iff_ne]; intro e; exact h (UInt8.toNat_inj.1 (by omega))
    rw [if_neg (by simpa using h)]
    refine zk Tryz.func164 rfl rfl ?_
    simp (disch := ((try simp only [LL]); omega)) only [↓GO, ↓DRW, GA, GX, ren, zn, za, refs, z8, cst, zr, isC, bin, una, z7, zd, blt, asArg, zg, zc, zf, z6, E.mkS, unN, ze, zq, zb, GS, simprocAttr, GZ, c, hx, zo, c2, IH]
def dU (o : Option Nat) : Int := match o with | some k => (k : Int) | none => -1
theorem SV (s : Str) (b : UInt8) (hl : s.length ≤ 4611686018427387904) : zm (EV Tryz.prog pol) 164 [.t (.str s), .t (.int .u8 (b.toNat : Int))] = some (.t (.int .i64 (dU (uQ b s s.length)))) := by
 have L := Zb s b hl s.length (Nat.le_refl _)
 apply zu
 refine zw rfl Tryz.func164 rfl (by kernel_rfl) ?_
 unfold Tryz.f164
 cases h : uQ b s s.length <;> rw [h] at L <;> simp only at L <;> simp (disch := ((try simp only [LL]); omega)) only [↓GO, ↓DRW, GA, GX, ren, zn, za, refs, z8, cst, zr, isC, bin, una, z7, zd, blt, asArg, zg, zc, zf, z6, E.mkS, unN, ze, zq, zb, GS, simprocAttr, GZ, L, zo, dU]
theorem Vp (s : Str) (hl : s.length ≤ 4611686018427387904) : zm (EV Tryz.prog pol) 129 [.t (.str s), .t (.str [64])] = some (.t (.int .i64 (dU (uQ 64 s s.length)))) := by
 have h := SV s 64 hl
 rw [show (((64 : UInt8)).toNat : Int) = 64 from rfl] at h
 have e : (((64 : UInt8)).toNat : Int) = 64 := rfl
 apply zu
 refine zw rfl Tryz.func129 rfl (by kernel_rfl) ?_
 unfold Tryz.f129
 simp (disch := ((try simp only [LL]); omega)) only [↓GO, ↓DRW, GA, GX, ren, zn, za, refs, z8, cst, zr, isC, bin, una, z7, zd, blt, asArg, zg, zc, zf, z6, E.mkS, unN, ze, zq, zb, GS, simprocAttr, GZ, h, e, Int.zero_add, Int.natCast_one]
theorem c_skI (k : Str) (hl : k.length ≤ 4611686018427387904) : zm (EV Tryz.prog pol) 95 [.t (.str k)] = some (.tup [.t (.str (vH k).1), .t (.str (vH k).2)]) := by
 have h := Vp k hl
 unfold vH
 cases hc : uQ 64 k k.length with
 | none =>
  rw [hc] at h
  simp only [dU] at h
  apply zu
  refine zw rfl Tryz.func95 rfl (by kernel_rfl) ?_
  unfold Tryz.f95
  simp (disch := ((try simp only [LL]); omega)) only [↓GO, ↓DRW, GA, GX, ren, zn, za, refs, z8, cst, zr, isC, bin, una, z7, zd, blt, asArg, zg, zc, zf, z6, E.mkS, unN, ze, zq, zb, GS, simprocAttr, GZ, h]
 | some n =>
  have hn := eH 64 k k.length n hc
  rw [hc] at h
  simp only [dU] at h
  have c : decide ((n : Int) < 0) = false := decide_eq_false (by omega)
  apply zu
  refine zw rfl Tryz.func95 rfl (by kernel_rfl) ?_
  unfold Tryz.f95
  simp (disch := ((try simp only [LL]); omega)) only [↓GO, ↓DRW, GA, GX, ren, zn, za, refs, z8, cst, zr, isC, bin, una, z7, zd, blt, asArg, zg, zc, zf, z6, E.mkS, unN, ze, zq, zb, GS, simprocAttr, GZ, h, c, zo]
end Go.Proofs.YtonbkdklidfmfaaGreatDoor
/- What the laws' own functions do over Bound, Notice: sizes, copies, comparisons. Conditions: those of each lemma. -/
namespace Go.Proofs.YtonbkdklidfmfaaGreatDoor
open E
set_option linter.unusedSimpArgs false
set_option linter.unusedVariables false
set_option maxRecDepth 100000
structure yO where
 low : List UInt8
 high : List UInt8
def yO.enc (x : yO) : List T := [.str x.low, .str x.high]
def yO.zi (l : List yO) : List (List T) := l.map yO.enc
def yO.zV (x : yO) : Nat := x.low.length + x.high.length
def yO.zK : List yO → Nat
 | [] => 0
 | c :: cs => yO.zV c + yO.zK cs
def yO.ok (x : yO) : Prop := x.low.length ≤ 9223372036854775807 ∧ x.high.length ≤ 9223372036854775807
theorem yO.vd (x : yO) : x.enc.length = 2 := rfl
theorem yO.wk (x : yO) : x.enc.take 2 = x.enc := rfl
theorem yO.zj (cs : List yO) : (yO.zi cs).length = cs.length := by simp [yO.zi]
theorem yO.xp (cs : List yO) (i : Nat) (h : i < cs.length) : (yO.zi cs)[i]? = some cs[i].enc := by simp [yO.zi, h]
theorem yO.xI (cs : List yO) (i : Nat) (h : i < cs.length) : yO.zK (cs.drop i) = cs[i].zV + yO.zK (cs.drop (i + 1)) := by
 rw [List.drop_eq_getElem_cons h]; rfl
theorem yO.yj : ∀ {cs : List yO} {c : yO}, c ∈ cs → c.zV ≤ yO.zK cs
 | c' :: cs, c, h => by
  simp only [yO.zK]
  rcases List.mem_cons.1 h with rfl | h
  · omega
  · have := yO.yj h; omega
structure yg where
 name : List UInt8
 range : List UInt8
 text : List UInt8
def yg.enc (x : yg) : List T := [.str x.name, .str x.range, .str x.text]
def yg.zi (l : List yg) : List (List T) := l.map yg.enc
def yg.zV (x : yg) : Nat := x.name.length + x.range.length + x.text.length
def yg.zK : List yg → Nat
 | [] => 0
 | c :: cs => yg.zV c + yg.zK cs
def yg.ok (x : yg) : Prop := x.name.length ≤ 9223372036854775807 ∧ x.range.length ≤ 9223372036854775807 ∧ x.text.length ≤ 9223372036854775807
theorem yg.vd (x : yg) : x.enc.length = 3 := rfl
theorem yg.wk (x : yg) : x.enc.take 3 = x.enc := rfl
theorem yg.zj (cs : List yg) : (yg.zi cs).length = cs.length := by simp [yg.zi]
theorem yg.xp (cs : List yg) (i : Nat) (h : i < cs.length) : (yg.zi cs)[i]? = some cs[i].enc := by simp [yg.zi, h]
theorem yg.xI (cs : List yg) (i : Nat) (h : i < cs.length) : yg.zK (cs.drop i) = cs[i].zV + yg.zK (cs.drop (i + 1)) := by
 rw [List.drop_eq_getElem_cons h]; rfl
theorem yg.yj : ∀ {cs : List yg} {c : yg}, c ∈ cs → c.zV ≤ yg.zK cs
 | c' :: cs, c, h => by
  simp only [yg.zK]
  rcases List.mem_cons.1 h with rfl | h
  · omega
  · have := yg.yj h; omega
end Go.Proofs.YtonbkdklidfmfaaGreatDoor
/- Ranges, plain: both ways of reading them come to the same. Conditions: none. -/
namespace Go.Proofs.YtonbkdklidfmfaaGreatDoor
open E
set_option linter.unusedVariables false
set_option linter.unusedSimpArgs false
set_option maxRecDepth 100000
def vb (b : UInt8) : Bool := isD b || (nb b == 46 || (nb b == 45 || preB b))
theorem pw {n : Int} (h : 0 ≤ n) : (Lib.itoa n).all isD = true ∧ Lib.itoa n ≠ [] := by
 obtain ⟨u, rfl⟩ : ∃ u : Nat, n = u := ⟨n.toNat, by omega⟩
 rw [Lib.itoa_nonneg]
 obtain ⟨a, _, c⟩ := uK u
 exact ⟨a, c⟩
theorem pP {p q : UInt8 → Bool} (h : ∀ b, p b = true → q b = true) {l : Str} (hl : l.all p = true) : l.all q = true := by
 rw [List.all_eq_true] at hl ⊢
 exact fun x hx => h x (hl x hx)
theorem bT (b : UInt8) (h : isD b = true) : vb b = true := by unfold vb; rw [h]; rfl
theorem aG (b : UInt8) (h : preB b = true) : vb b = true := by unfold vb; rw [h]; simp
theorem Sl : ∀ l : List Str, (l.all fun p => p.all preB) = true → (Lib.join l [46]).all vb = true
 | [], _ => rfl
 | x :: r, h => by
  rw [Lib.join_cons]
  simp only [List.all_cons, Bool.and_eq_true] at h
  rw [List.all_append, pP aG h.1, Bool.true_and]
  have hr := h.2
  clear h
  induction r with
  | nil => rfl
  | cons y r ih =>
   simp only [List.all_cons, Bool.and_eq_true] at hr
   have e : Lib.joinTail [46] (y :: r) = 46 :: (y ++ Lib.joinTail [46] r) := by simp [Lib.joinTail]
   rw [e, List.all_cons, List.all_append, pP aG hr.1, ih hr.2]
   decide
theorem TK {v : Ver} (h : x8 v = true) : (yn v).all vb = true ∧ ∃ b r, yn v = b :: r ∧ isD b = true := by
 obtain ⟨h1, h2, h3, h4, _⟩ := uY h
 obtain ⟨a1, a2⟩ := pw h1.1
 obtain ⟨b1, b2⟩ := pw h2.1
 obtain ⟨c1, c2⟩ := pw h3.1
 have hp : (v.pre.all fun p => p.all preB) = true := by
  rw [List.all_eq_true] at h4 ⊢
  intro x hx
  have := h4 x hx
  unfold tI at this
  simp only [Bool.and_eq_true] at this
  exact this.2.1
 have hj := Sl v.pre hp
 have hcore : (uR v).all vb = true := by
  unfold uR
  simp only [List.all_append, pP bT a1, pP bT b1, pP bT c1]
  decide
 refine ⟨?_, ?_⟩
 · unfold yn wQ
   rw [h]
   simp only [cond_true]
   cases (v.pre == []) with
   | true => simpa using hcore
   | false =>
    simp only [cond_false, List.all_append, hcore, hj]
    decide
 · unfold yn wQ uR
   rw [h]
   simp only [cond_true]
   cases hi : Lib.itoa v.maj with
   | nil => exact absurd hi a2
   | cons b r =>
    rw [hi, List.all_cons, Bool.and_eq_true] at a1
    cases (v.pre == []) <;> exact ⟨b, _, rfl, a1.1⟩
/-- is a text a version's? -/
def isV (s : Str) : Bool := (zX s).2
theorem Qf {s : Str} (h : isV s = true) : (∀ b ∈ s, vb b = true) ∧ ∃ b r, s = b :: r ∧ isD b = true := by
 obtain ⟨_, ht, ho, _⟩ := wm h
 obtain ⟨h1, h2⟩ := TK ho
 rw [ht] at h1 h2
 exact ⟨List.all_eq_true.1 h1, h2⟩
theorem Qg {s : Str} {c : UInt8} (hc : vb c = false) (h : c ∈ s) : isV s = false := by
 cases hv : isV s with
 | false => rfl
 | true =>
  have := (Qf hv).1 c h
  rw [hc] at this; cases this
theorem oK {s : Str} (h : 0 ≤ zQ s) : (∀ b ∈ s, isD b = true) ∧ Lib.itoa (zQ s) = s ∧ zQ s ≤ 999999999 ∧ s ≠ [] := by
 unfold zQ at h ⊢
 split at h
 · rename_i v hv
   cases hc : ((decide (0 ≤ v) && decide (v ≤ 999999999)) && (Lib.itoa v == s)) with
   | false => rw [hc] at h; simp at h
   | true =>
    have hc' := hc
    simp only [Bool.and_eq_true, decide_eq_true_eq, beq_iff_eq] at hc'
    obtain ⟨⟨q1, q2⟩, q3⟩ := hc'
    obtain ⟨a, b⟩ := pw q1
    simp only [cond_true]
    rw [q3] at a b
    exact ⟨List.all_eq_true.1 a, q3, q2, b⟩
 · simp at h
end Go.Proofs.YtonbkdklidfmfaaGreatDoor
/- Ranges, plain, the parts. Conditions: none. -/
namespace Go.Proofs.YtonbkdklidfmfaaGreatDoor
open E
set_option linter.unusedVariables false
set_option linter.unusedSimpArgs false
set_option maxRecDepth 100000
theorem V2 {s : Str} (h : isV s = false) : wV s = none := by
 unfold wV
 unfold isV at h
 rw [h]; rfl
end Go.Proofs.YtonbkdklidfmfaaGreatDoor
/- Ranges, plain: a text cut at ' || ', the whole. Conditions: none. -/
namespace Go.Proofs.YtonbkdklidfmfaaGreatDoor
open E
set_option linter.unusedVariables false
set_option linter.unusedSimpArgs false
set_option maxRecDepth 100000
end Go.Proofs.YtonbkdklidfmfaaGreatDoor
/- Versions compared, plain: both ways come to the same; what is in a range. Conditions: none. -/
namespace Go.Proofs.YtonbkdklidfmfaaGreatDoor
open E
set_option linter.unusedVariables false
set_option linter.unusedSimpArgs false
set_option maxRecDepth 100000
theorem vc : ∀ x : Str, Op.bytesLess x x = false
 | [] => rfl
 | a :: x => by rw [sQ, vc x]; simp
end Go.Proofs.YtonbkdklidfmfaaGreatDoor
/- What is in a range, what notices tell: plain; both ways come to the same. Conditions: none. -/
namespace Go.Proofs.YtonbkdklidfmfaaGreatDoor
open E
set_option linter.unusedVariables false
set_option linter.unusedSimpArgs false
set_option maxRecDepth 100000
end Go.Proofs.YtonbkdklidfmfaaGreatDoor
/- What one reaches in a graph, plain: both ways come to the same. Conditions: none. -/
namespace Go.Proofs.YtonbkdklidfmfaaGreatDoor
open E
set_option linter.unusedVariables false
set_option linter.unusedSimpArgs false
set_option maxRecDepth 100000
theorem UW : ∀ x y : Str, Op.bytesLess x y = decide (x < y)
 | [], [] => by simp [Op.bytesLess]
 | [], b :: y => by simp [Op.bytesLess]
 | a :: x, [] => by simp [Op.bytesLess]
 | a :: x, b :: y => by
  rw [sQ, UW x y, Bool.eq_iff_iff]
  simp only [Bool.or_eq_true, decide_eq_true_eq, Bool.and_eq_true, beq_iff_eq, List.cons_lt_cons_iff]
theorem gm (x y : Str) : decide (x ≤ y) = !(Op.bytesLess y x) := by
 rw [UW, Bool.eq_iff_iff]
 simp only [decide_eq_true_eq, Bool.not_eq_true', decide_eq_false_iff_not]
 exact Iff.rfl
theorem lj {x y : Str} (h1 : Op.bytesLess x y = false) (h2 : Op.bytesLess y x = false) : x = y := by
 have h := pJ x y
 rw [h1, h2] at h
 simpa using h
theorem wu : ∀ {x y z : Str}, Op.bytesLess x y = true → Op.bytesLess y z = true → Op.bytesLess x z = true
 | [], [], z, h1, _ => by simp [Op.bytesLess] at h1
 | _ :: _, [], z, h1, _ => by simp [Op.bytesLess] at h1
 | [], _ :: _, [], _, h2 => by simp [Op.bytesLess] at h2
 | [], _ :: _, _ :: _, _, _ => by simp [Op.bytesLess]
 | _ :: _, _ :: _, [], _, h2 => by simp [Op.bytesLess] at h2
 | a :: x, b :: y, c :: z, h1, h2 => by
  rw [sQ] at h1 h2 ⊢
  simp only [Bool.or_eq_true, decide_eq_true_eq, Bool.and_eq_true, beq_iff_eq, UInt8.lt_iff_toNat_lt] at h1 h2 ⊢
  rcases h1 with h1 | ⟨rfl, h1⟩
  · rcases h2 with h2 | ⟨rfl, h2⟩
    · left; omega
    · left; exact h1
  · rcases h2 with h2 | ⟨rfl, h2⟩
    · left; exact h2
    · right; exact ⟨rfl, wu h1 h2⟩
theorem mu {x y z : Str} (h1 : Op.bytesLess y x = false) (h2 : Op.bytesLess z y = false) : Op.bytesLess z x = false := by
 cases h : Op.bytesLess z x with
 | false => rfl
 | true =>
  exfalso
  cases hyz : Op.bytesLess y z with
  | true => have := wu hyz h; rw [h1] at this; cases this
  | false =>
   have := lj hyz h2
   subst this
   rw [h1] at h; cases h
def Asc (l : List Str) : Prop := l.Pairwise fun x y => Op.bytesLess y x = false
theorem dK : ∀ {a b : List Str}, Asc a → Asc b → a.Perm b → a = b
 | [], b, _, _, h => by simpa using h.symm
 | x :: a, [], _, _, h => by have := h.length_eq; simp at this
 | x :: a, y :: b, h1, h2, h => by
  have h1' := List.pairwise_cons.1 h1
  have h2' := List.pairwise_cons.1 h2
  have hxy : x = y := by
   have m1 : x ∈ y :: b := h.mem_iff.1 (by simp)
   have m2 : y ∈ x :: a := h.mem_iff.2 (by simp)
   rcases List.mem_cons.1 m1 with e | m1
   · exact e
   · rcases List.mem_cons.1 m2 with e | m2
     · exact e.symm
     · exact lj (h2'.1 x m1) (h1'.1 y m2) |>.symm ▸ rfl
  subst hxy
  rw [dK h1'.2 h2'.2 (List.Perm.cons_inv h)]
theorem Yl (l : List Str) : Asc (wR l) := by
 have := List.pairwise_mergeSort (le := fun x y : Str => decide (x ≤ y)) (fun a b c h1 h2 => by
  rw [gm] at *
  simp only [Bool.not_eq_true'] at *
  exact mu h1 h2) (fun a b => by
  rw [gm, gm]
  cases h1 : Op.bytesLess b a <;> cases h2 : Op.bytesLess a b <;> first | rfl | skip
  have := wu h1 h2
  rw [vc] at this; cases this) l
 refine List.Pairwise.imp (fun {a b} h => ?_) this
 rw [gm] at h
 simpa using h
theorem Wu {a b : List Str} (hb : Asc b) (h : a.Perm b) : wR a = b := dK (Yl a) hb ((nY a).trans h)
/-- a text put into its place -/
def xS : List Str → Str → List Str
 | [], s => [s]
 | x :: r, s => cond (Op.bytesLess x s) (x :: xS r s) (cond (x == s) (x :: r) (s :: x :: r))
def yi (l : List Str) (s : Str) : Bool := l.any (· == s)
theorem oA : ∀ (l : List Str) (s : Str), yi l s = false → (xS l s).Perm (l ++ [s])
 | [], s, _ => by simp [xS]
 | x :: r, s, h => by
  simp only [yi, List.any_cons, Bool.or_eq_false_iff] at h
  rw [xS, h.1]
  cases Op.bytesLess x s with
  | true => simp only [cond_true, List.cons_append]; exact (oA r s h.2).cons x
  | false => simp only [cond_false]; exact (List.perm_append_singleton s (x :: r)).symm
theorem dP : ∀ (l : List Str) (s y : Str), y ∈ xS l s → y ∈ l ∨ y = s
 | [], s, y, h => by simpa [xS] using h
 | x :: r, s, y, h => by
  rw [xS] at h
  cases h1 : Op.bytesLess x s with
  | true =>
   rw [h1, cond_true] at h
   rcases List.mem_cons.1 h with h | h
   · left; simp [h]
   · rcases dP r s y h with h | h
     · left; simp [h]
     · right; exact h
  | false =>
   rw [h1, cond_false] at h
   cases h2 : (x == s) with
   | true => rw [h2, cond_true] at h; left; exact h
   | false =>
    rw [h2, cond_false] at h
    rcases List.mem_cons.1 h with h | h
    · right; exact h
    · left; exact h
theorem dQ : ∀ (l : List Str) (s : Str), Asc l → Asc (xS l s)
 | [], s, _ => by simp [xS, Asc]
 | x :: r, s, h => by
  have h' := List.pairwise_cons.1 h
  rw [xS]
  cases h1 : Op.bytesLess x s with
  | true =>
   simp only [cond_true]
   refine List.pairwise_cons.2 ⟨fun y hy => ?_, dQ r s h'.2⟩
   rcases dP r s y hy with hy | rfl
   · exact h'.1 y hy
   · cases h2 : Op.bytesLess y x with
     | false => rfl
     | true => have := wu h1 h2; rw [vc] at this; cases this
  | false =>
   simp only [cond_false]
   cases h2 : (x == s) with
   | true => exact h
   | false =>
    simp only [cond_false]
    refine List.pairwise_cons.2 ⟨fun y hy => ?_, h⟩
    rcases List.mem_cons.1 hy with rfl | hy
    · exact h1
    · exact mu h1 (h'.1 y hy)
theorem YQ {a b : List Str} (h : a.Perm b) (s : Str) : yi a s = yi b s := by
 unfold yi
 rw [Bool.eq_iff_iff, List.any_eq_true, List.any_eq_true]
 constructor
 · rintro ⟨x, h1, h2⟩; exact ⟨x, h.mem_iff.1 h1, h2⟩
 · rintro ⟨x, h1, h2⟩; exact ⟨x, h.mem_iff.2 h1, h2⟩
def xN (ps : List z1) (k : Str) : Option z1 := match tJ ps k with
 | some i => ps[i]?
 | none => none
/-- add: how a key is laid down -/
def yq (add : List Str → Str → List Str) (ps : List z1) : Nat → List Str → List Str → List Str
 | 0, out, _ => out
 | _ + 1, out, [] => out
 | n + 1, out, k :: w => match xN ps k with
  | none => yq add ps n out w
  | some p => cond (yi out k) (yq add ps n out w) (yq add ps n (add out k) (w ++ p.zz))
theorem tP (ps : List z1) : ∀ (n : Nat) (a b w : List Str), Asc b → a.Perm b → Asc (yq xS ps n b w) ∧ (yq (fun l s => l ++ [s]) ps n a w).Perm (yq xS ps n b w)
 | 0, a, b, w, hb, h => ⟨hb, h⟩
 | n + 1, a, b, [], hb, h => ⟨hb, h⟩
 | n + 1, a, b, k :: w, hb, h => by
  rw [yq, yq]
  cases xN ps k with
  | none => exact tP ps n a b w hb h
  | some p =>
   rw [YQ h k]
   cases hc : yi b k with
   | true => exact tP ps n a b w hb h
   | false => exact tP ps n (a ++ [k]) (xS b k) (w ++ p.zz) (dQ b k hb) ((h.append_right [k]).trans (oA b k hc).symm)
theorem mg (ps : List z1) (n : Nat) (w : List Str) : wR (yq (fun l s => l ++ [s]) ps n [] w) = yq xS ps n [] w := by
 obtain ⟨h1, h2⟩ := tP ps n [] [] w (by simp [Asc]) (List.Perm.refl _)
 exact Wu h1 h2
def muP (out : List Str) (p : z1) : Nat := cond (yi out (keyOf p)) 0 p.zz.length
def muS (ps : List z1) (out : List Str) : Nat := (ps.map (muP out)).sum
theorem ot (l : List Str) (k s : Str) : yi (l ++ [k]) s = (yi l s || (k == s)) := by simp [yi]
theorem UU (k : Str) (out out' : List Str) (h : ∀ s, yi out' s = (yi out s || (k == s))) : ∀ ps : List z1, muS ps out' ≤ muS ps out
 | [] => by simp [muS]
 | p :: ps => by
  have ih := UU k out out' h ps
  unfold muS at ih ⊢
  simp only [List.map_cons, List.sum_cons]
  have : muP out' p ≤ muP out p := by
   unfold muP
   rw [h]
   cases yi out (keyOf p) <;> cases (k == keyOf p) <;> simp
  omega
theorem pt (k : Str) (out out' : List Str) (h : ∀ s, yi out' s = (yi out s || (k == s))) (hk : yi out k = false) : ∀ (ps : List z1) (p : z1), p ∈ ps → keyOf p = k → muS ps out' + p.zz.length ≤ muS ps out
 | [], p, hp, _ => by simp at hp
 | q :: ps, p, hp, e => by
  unfold muS
  simp only [List.map_cons, List.sum_cons]
  rcases List.mem_cons.1 hp with rfl | hp
  · have h1 := UU k out out' h ps
    unfold muS at h1
    have : muP out' p = 0 := by unfold muP; rw [h, e, beq_self_eq_true, Bool.or_true]; rfl
    have h2 : muP out p = p.zz.length := by unfold muP; rw [e, hk]; rfl
    omega
  · have h1 := pt k out out' h hk ps p hp e
    unfold muS at h1
    have : muP out' q ≤ muP out q := by
     unfold muP
     rw [h]
     cases yi out (keyOf q) <;> cases (k == keyOf q) <;> simp
    omega
theorem lf : ∀ ps : List z1, muS ps [] ≤ z1.zK ps
 | [] => by simp [muS]
 | p :: ps => by
  have ih := lf ps
  unfold muS at ih ⊢
  simp only [List.map_cons, List.sum_cons, z1.zK]
  have : muP [] p ≤ p.zV := by
   unfold muP
   simp only [yi, List.any_nil, cond_false, z1.zV]; omega
  omega
theorem ZB {α : Type} (p : α → Bool) : ∀ (l : List α) (n i : Nat), xR p l n = some i → n ≤ i ∧ ∃ q, l[i - n]? = some q ∧ p q = true
 | [], n, i, h => by cases h
 | x :: r, n, i, h => by
  rw [xR] at h
  split at h
  · rename_i hx
    cases h
    exact ⟨Nat.le_refl _, x, by simp, hx⟩
  · obtain ⟨h1, q, h2, h3⟩ := ZB p r (n + 1) i h
    refine ⟨by omega, q, ?_, h3⟩
    rw [show i - n = (i - (n + 1)) + 1 by omega]
    simpa using h2
theorem om {α : Type} {p : α → Bool} {l : List α} {i : Nat} (h : xR p l 0 = some i) : ∃ q, l[i]? = some q ∧ p q = true := by
 obtain ⟨_, q, h2, h3⟩ := ZB p l 0 i h
 exact ⟨q, by simpa using h2, h3⟩
theorem vK {ps : List z1} {k : Str} {p : z1} (h : xN ps k = some p) : p ∈ ps ∧ keyOf p = k ∧ ∃ i, tJ ps k = some i ∧ ps[i]? = some p := by
 unfold xN at h
 split at h
 · rename_i i hi
   exact ⟨List.mem_of_getElem? h, by
    have := om hi
    obtain ⟨q, h1, h2⟩ := this
    rw [h] at h1
    cases h1
    simpa using h2, i, hi, h⟩
 · cases h
theorem pA {ps : List z1} {k : Str} (h : xN ps k = none) : tJ ps k = none := by
 unfold xN at h
 split at h
 · rename_i i hi
   obtain ⟨q, h1, h2⟩ := om hi
   rw [h] at h1; cases h1
 · assumption
end Go.Proofs.YtonbkdklidfmfaaGreatDoor

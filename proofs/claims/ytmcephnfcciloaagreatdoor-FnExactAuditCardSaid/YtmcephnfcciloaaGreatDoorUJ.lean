/- Joined: K6 G3 V5 V6 V7 I1 V3 K13 K14. Conditions: those of each lemma. -/
import Derived.Test.YtmcephnfcciloaaGreatDoorUI
import Derived.Test.YtmcephnfcciloaaGreatDoorUG
import Derived.Test.YtmcephnfcciloaaGreatDoorUH
set_option linter.unusedVariables false
set_option linter.unusedSimpArgs false
namespace Go.Proofs.YtmcephnfcciloaaGreatDoor
open E
set_option linter.unusedSimpArgs false
set_option linter.unusedVariables false
set_option maxRecDepth 100000
theorem TQ (v : Ver) (p : Int) : (upV v p).sm := by
  unfold upV
  cases (p == 0) <;> cases (p == 1) <;> simp [Ver.sm, yk]
theorem UQ {v : Ver} (h : v.sm) (p : Int) : (wM v p).sm := by
  unfold wM
  cases (!(yv v) || !(B2 p 0 2)) <;> cases yv (upV v p) <;> simp only [cond_true, cond_false] <;> first | exact h | exact TQ v p
theorem SM (v : Ver) (p : Int) (hs : v.sm) (hp : p = 0 ∨ p = 1 ∨ p = 2) (h1 : -1 ≤ v.maj ∧ v.maj ≤ 999999999) (h2 : -1 ≤ v.min ∧ v.min ≤ 999999999) (h3 : -1 ≤ v.pat ∧ v.pat ≤ 999999999) :
    zE (EV Tryz.prog pol) 174 [.agg (v.enc.map .t), .t (.int .i64 p)] = some (.agg ((wM v p).enc.map .t)) := by
  have d1 := cP v hs
  have d2 := cP (upV v p) (TQ v p)
  have d3 := xL p 0 2
  have hb : B2 p 0 2 = true := by rcases hp with rfl | rfl | rfl <;> rfl
  have e1 := vZ v.pre
  have ht : List.take (0 + (y6 v.pre).length) (y6 v.pre) = y6 v.pre := List.take_of_length_le (by omega)
  have ht2 : List.take v.pre.length (y6 v.pre) = y6 v.pre := List.take_of_length_le (by rw [zR]; omega)
  unfold Ver.sm at hs
  rw [hb] at d3
  unfold wM
  rw [hb]
  simp only [Bool.not_true, Bool.or_false]
  cases ho : yv v <;> rw [ho] at d1
  · simp only [Ver.enc, List.map_cons, List.map_nil, Bool.not_false, cond_true] at d1 ⊢
    apply zu
    refine zw rfl Tryz.func174 rfl (by kernel_rfl) ?_
    unfold Tryz.f174
    simp (disch := ((try simp only [LL]); omega)) only [↓GO, ↓DRW, GA, ren, zB, zf, refs, zb, cst, zl, zH, z7, E.load, E.store, zG, isC, bin, zI, zJ, una, z8, za, zh, zK, blt, fnV, asArg, zd, zn, zo, zj, zi, zg, zk, zr, z6, zD, zF, mkS, zc, unN, zM, zm, zy, zC, ze, zN, zq, GS, Int.reduceToNat, Nat.reduceGT, ↓reduceIte, Nat.reduceAdd, Nat.reduceMul, Nat.reduceSub, Nat.reduceEqDiff, Nat.reduceLeDiff, Nat.reduceLT, Nat.reduceBEq, Int.reduceBEq, Int.reduceBNe, Int.reduceEq, Int.reduceLT, Int.reduceLE, Int.reduceGT, Int.reduceNeg, reduceCtorEq, GZ, d1, zR, ht, ht2, wc]
  · simp only [Bool.not_true, cond_false]
    unfold upV at d2 ⊢
    rcases hp with rfl | rfl | rfl
    · simp only [show ((0 : Int) == 0) = true from rfl, cond_true] at d2 ⊢
      cases hu : yv ⟨v.maj + 1, 0, 0, []⟩ <;> rw [hu] at d2 <;> simp only [Ver.enc, List.map_cons, List.map_nil, yf, cond_true, cond_false] at d1 d2 ⊢
      all_goals
        apply zu
        refine zw rfl Tryz.func174 rfl (by kernel_rfl) ?_
        unfold Tryz.f174
        simp (disch := ((try simp only [LL]); omega)) only [↓GO, ↓DRW, GA, ren, zB, zf, refs, zb, cst, zl, zH, z7, E.load, E.store, zG, isC, bin, zI, zJ, una, z8, za, zh, zK, blt, fnV, asArg, zd, zn, zo, zj, zi, zg, zk, zr, z6, zD, zF, mkS, zc, unN, zM, zm, zy, zC, ze, zN, zq, GS, Int.reduceToNat, Nat.reduceGT, ↓reduceIte, Nat.reduceAdd, Nat.reduceMul, Nat.reduceSub, Nat.reduceEqDiff, Nat.reduceLeDiff, Nat.reduceLT, Nat.reduceBEq, Int.reduceBEq, Int.reduceBNe, Int.reduceEq, Int.reduceLT, Int.reduceLE, Int.reduceGT, Int.reduceNeg, reduceCtorEq, GZ, d1, d2, d3, zR, ht, ht2, wc, zx]
    · simp only [show ((1 : Int) == 0) = false from rfl, show ((1 : Int) == 1) = true from rfl, cond_true, cond_false] at d2 ⊢
      cases hu : yv ⟨v.maj, v.min + 1, 0, []⟩ <;> rw [hu] at d2 <;> simp only [Ver.enc, List.map_cons, List.map_nil, yf, cond_true, cond_false] at d1 d2 ⊢
      all_goals
        apply zu
        refine zw rfl Tryz.func174 rfl (by kernel_rfl) ?_
        unfold Tryz.f174
        simp (disch := ((try simp only [LL]); omega)) only [↓GO, ↓DRW, GA, ren, zB, zf, refs, zb, cst, zl, zH, z7, E.load, E.store, zG, isC, bin, zI, zJ, una, z8, za, zh, zK, blt, fnV, asArg, zd, zn, zo, zj, zi, zg, zk, zr, z6, zD, zF, mkS, zc, unN, zM, zm, zy, zC, ze, zN, zq, GS, Int.reduceToNat, Nat.reduceGT, ↓reduceIte, Nat.reduceAdd, Nat.reduceMul, Nat.reduceSub, Nat.reduceEqDiff, Nat.reduceLeDiff, Nat.reduceLT, Nat.reduceBEq, Int.reduceBEq, Int.reduceBNe, Int.reduceEq, Int.reduceLT, Int.reduceLE, Int.reduceGT, Int.reduceNeg, reduceCtorEq, GZ, d1, d2, d3, zR, ht, ht2, wc, zx]
    · simp only [show ((2 : Int) == 0) = false from rfl, show ((2 : Int) == 1) = false from rfl, cond_false] at d2 ⊢
      cases hq : (v.pre == []) <;> rw [hq] at e1 d2 <;> simp only [cond_true, cond_false] at d2 ⊢
      · cases hu : yv ⟨v.maj, v.min, v.pat, []⟩ <;> rw [hu] at d2 <;> simp only [Ver.enc, List.map_cons, List.map_nil, yf, cond_true, cond_false] at d1 d2 ⊢
        all_goals
          apply zu
          refine zw rfl Tryz.func174 rfl (by kernel_rfl) ?_
          unfold Tryz.f174
          simp (disch := ((try simp only [LL]); omega)) only [↓GO, ↓DRW, GA, ren, zB, zf, refs, zb, cst, zl, zH, z7, E.load, E.store, zG, isC, bin, zI, zJ, una, z8, za, zh, zK, blt, fnV, asArg, zd, zn, zo, zj, zi, zg, zk, zr, z6, zD, zF, mkS, zc, unN, zM, zm, zy, zC, ze, zN, zq, GS, Int.reduceToNat, Nat.reduceGT, ↓reduceIte, Nat.reduceAdd, Nat.reduceMul, Nat.reduceSub, Nat.reduceEqDiff, Nat.reduceLeDiff, Nat.reduceLT, Nat.reduceBEq, Int.reduceBEq, Int.reduceBNe, Int.reduceEq, Int.reduceLT, Int.reduceLE, Int.reduceGT, Int.reduceNeg, reduceCtorEq, GZ, d1, d2, d3, e1, zR, ht, ht2, wc, zx]
      · cases hu : yv ⟨v.maj, v.min, v.pat + 1, []⟩ <;> rw [hu] at d2 <;> simp only [Ver.enc, List.map_cons, List.map_nil, yf, cond_true, cond_false] at d1 d2 ⊢
        all_goals
          apply zu
          refine zw rfl Tryz.func174 rfl (by kernel_rfl) ?_
          unfold Tryz.f174
          simp (disch := ((try simp only [LL]); omega)) only [↓GO, ↓DRW, GA, ren, zB, zf, refs, zb, cst, zl, zH, z7, E.load, E.store, zG, isC, bin, zI, zJ, una, z8, za, zh, zK, blt, fnV, asArg, zd, zn, zo, zj, zi, zg, zk, zr, z6, zD, zF, mkS, zc, unN, zM, zm, zy, zC, ze, zN, zq, GS, Int.reduceToNat, Nat.reduceGT, ↓reduceIte, Nat.reduceAdd, Nat.reduceMul, Nat.reduceSub, Nat.reduceEqDiff, Nat.reduceLeDiff, Nat.reduceLT, Nat.reduceBEq, Int.reduceBEq, Int.reduceBNe, Int.reduceEq, Int.reduceLT, Int.reduceLE, Int.reduceGT, Int.reduceNeg, reduceCtorEq, GZ, d1, d2, d3, e1, zR, ht, ht2, wc, zx]
theorem jG (v : Ver) : (yY v).sm := by simp [yY, Ver.sm, yk]
theorem jE (v : Ver) (p : Int) (hs : v.sm) (hp : p = 0 ∨ p = 1 ∨ p = 2) (h1 : -1 ≤ v.maj ∧ v.maj ≤ 999999999) (h2 : -1 ≤ v.min ∧ v.min ≤ 999999999) (h3 : -1 ≤ v.pat ∧ v.pat ≤ 999999999) :
    zE (EV Tryz.prog pol) 150 [.agg (v.enc.map .t), .t (.int .i64 p)] = some (.tup [.t (.str (vi v p).1), .t (.bool (vi v p).2)]) := by
  have d1 := SM (yY v) p (jG v) hp h1 h2 h3
  have d2 := cQ (wM (yY v) p) (yY v) (UQ (jG v) p) (jG v)
  have d3 := ei ⟨(wM (yY v) p).maj, (wM (yY v) p).min, (wM (yY v) p).pat, [[48]]⟩ (cY _ _ _)
  unfold vi
  generalize rE (wM (yY v) p) (yY v) = cm at *
  generalize yb ⟨(wM (yY v) p).maj, (wM (yY v) p).min, (wM (yY v) p).pat, [[48]]⟩ = tx at *
  generalize wM (yY v) p = nx at *
  simp only [Ver.enc, yY, List.map_cons, List.map_nil, xj, yf] at d1 d2 d3 ⊢
  cases hc : (cm == 0)
  all_goals
    apply zu
    refine zw rfl Tryz.func150 rfl (by kernel_rfl) ?_
    unfold Tryz.f150
    simp (disch := ((try simp only [LL]); omega)) only [↓GO, ↓DRW, GA, ren, zB, zf, refs, zb, cst, zl, zH, z7, E.load, E.store, zG, isC, bin, zI, zJ, una, z8, za, zh, zK, blt, fnV, asArg, zd, zn, zo, zj, zi, zg, zk, zr, z6, zD, zF, mkS, zc, unN, zM, zm, zy, zC, ze, zN, zq, GS, Int.reduceToNat, Nat.reduceGT, ↓reduceIte, Nat.reduceAdd, Nat.reduceMul, Nat.reduceSub, Nat.reduceEqDiff, Nat.reduceLeDiff, Nat.reduceLT, Nat.reduceBEq, Int.reduceBEq, Int.reduceBNe, Int.reduceEq, Int.reduceLT, Int.reduceLE, Int.reduceGT, Int.reduceNeg, reduceCtorEq, GZ, d1, d2, d3, hc, yf]
def alT (s : Str) : V := match x6 s with
  | some (l, h) => .tup [.agg [.t (.str l), .t (.str h)], .t (.bool true)]
  | none => .tup [.agg [.t (.str []), .t (.str [])], .t (.bool false)]
theorem eo (s : Str) (hl : s.length ≤ 1048600) : zE (EV Tryz.prog pol) 107 [.t (.str s)] = some (alT s) := by
  have d1 := oo s (by omega)
  have d2 := oo (s ++ [46, 48]) (by simp only [List.length_append, List.length_cons, List.length_nil]; omega)
  obtain ⟨m1, m2, m3, m4, m5, m6, m7⟩ := yW s (by omega)
  have d3 := jE (zA s).1 2 m1 (by omega) ⟨m3, m2⟩ ⟨m5, m4⟩ ⟨m7, m6⟩
  have hg := jQ (zA s).1.pre
  unfold rvT at d1 d2
  unfold alT x6 uG
  cases hk : (zA s).2 with
  | false =>
    rw [hk] at d1
    generalize (zA s).1 = v at *
    simp only [Bool.false_and, cond_false]
    simp only [Ver.enc, List.map_cons, List.map_nil] at d1 ⊢
    apply zu
    refine zw rfl Tryz.func107 rfl (by kernel_rfl) ?_
    unfold Tryz.f107
    simp (disch := ((try simp only [LL]); omega)) only [↓GO, ↓DRW, GA, ren, zB, zf, refs, zb, cst, zl, zH, z7, E.load, E.store, zG, isC, bin, zI, zJ, una, z8, za, zh, zK, blt, fnV, asArg, zd, zn, zo, zj, zi, zg, zk, zr, z6, zD, zF, mkS, zc, unN, zM, zm, zy, zC, ze, zN, zq, GS, Int.reduceToNat, Nat.reduceGT, ↓reduceIte, Nat.reduceAdd, Nat.reduceMul, Nat.reduceSub, Nat.reduceEqDiff, Nat.reduceLeDiff, Nat.reduceLT, Nat.reduceBEq, Int.reduceBEq, Int.reduceBNe, Int.reduceEq, Int.reduceLT, Int.reduceLE, Int.reduceGT, Int.reduceNeg, reduceCtorEq, GZ, d1]
  | true =>
    have ho := (yu hk).2.2.1
    rw [hk] at d1
    cases hp : ((zA s).1.pre == []) with
    | true =>
      have hb := vI ho 2 (by omega)
      simp only [show ((2 : Int) == 0) = false from rfl, show ((2 : Int) == 1) = false from rfl, show ((2 : Int) == 2) = true from rfl, cond_true, cond_false] at hb
      rw [hb] at d3
      rw [hp] at hg
      simp only [Bool.not_true, cond_true, Bool.true_and] at hg ⊢
      generalize (zA s).1 = v at *
      generalize ye v.maj v.min (v.pat + 1) = zp at *
      simp only [Ver.enc, List.map_cons, List.map_nil] at d1 d3 ⊢
      clear d2 hb
      cases hz : (zp == []) <;> rw [hz] at d3 <;> simp only [Bool.not_true, Bool.not_false, cond_true, cond_false] at d3 ⊢
      all_goals
        apply zu
        refine zw rfl Tryz.func107 rfl (by kernel_rfl) ?_
        unfold Tryz.f107
        simp (disch := ((try simp only [LL]); omega)) only [↓GO, ↓DRW, GA, ren, zB, zf, refs, zb, cst, zl, zH, z7, E.load, E.store, zG, isC, bin, zI, zJ, una, z8, za, zh, zK, blt, fnV, asArg, zd, zn, zo, zj, zi, zg, zk, zr, z6, zD, zF, mkS, zc, unN, zM, zm, zy, zC, ze, zN, zq, GS, Int.reduceToNat, Nat.reduceGT, ↓reduceIte, Nat.reduceAdd, Nat.reduceMul, Nat.reduceSub, Nat.reduceEqDiff, Nat.reduceLeDiff, Nat.reduceLT, Nat.reduceBEq, Int.reduceBEq, Int.reduceBNe, Int.reduceEq, Int.reduceLT, Int.reduceLE, Int.reduceGT, Int.reduceNeg, reduceCtorEq, GZ, d1, d3, hg, zR]
    | false =>
      obtain ⟨r1, r2⟩ := lp hk (fun h => by rw [h] at hp; cases hp)
      rw [r1] at d2
      rw [hp] at hg
      simp only [Bool.not_false, cond_false, Bool.true_and] at hg ⊢
      rw [r2]
      generalize yv (s7 (zA s).1) = pk at *
      generalize s7 (zA s).1 = pv at *
      generalize (zA s).1 = v at *
      have hne : ((s ++ [46, 48]) == []) = false := by cases s <;> rfl
      simp only [Ver.enc, List.map_cons, List.map_nil] at d1 ⊢
      cases pk <;> simp only [Ver.enc, List.map_cons, List.map_nil, cond_true, cond_false, hne, Bool.not_false, show (([] : Str) == []) = true from rfl, Bool.not_true] at d2 ⊢
      all_goals
        apply zu
        refine zw rfl Tryz.func107 rfl (by kernel_rfl) ?_
        unfold Tryz.f107
        simp (disch := ((try simp only [LL]); omega)) only [↓GO, ↓DRW, GA, ren, zB, zf, refs, zb, cst, zl, zH, z7, E.load, E.store, zG, isC, bin, zI, zJ, una, z8, za, zh, zK, blt, fnV, asArg, zd, zn, zo, zj, zi, zg, zk, zr, z6, zD, zF, mkS, zc, unN, zM, zm, zy, zC, ze, zN, zq, GS, Int.reduceToNat, Nat.reduceGT, ↓reduceIte, Nat.reduceAdd, Nat.reduceMul, Nat.reduceSub, Nat.reduceEqDiff, Nat.reduceLeDiff, Nat.reduceLT, Nat.reduceBEq, Int.reduceBEq, Int.reduceBNe, Int.reduceEq, Int.reduceLT, Int.reduceLE, Int.reduceGT, Int.reduceNeg, reduceCtorEq, GZ, d1, d2, hg, zR, wc]
theorem c_exR (s : Str) (hl : s.length ≤ 1048600) : zE (EV Tryz.prog pol) 83 [.t (.str s)] = some (.t (.list 2 (exT s))) := by
  have d1 := eo s hl
  unfold exT
  unfold alT at d1
  cases he : x6 s with
  | none =>
    rw [he] at d1
    simp only at d1 ⊢
    apply zu
    refine zw rfl Tryz.func83 rfl (by kernel_rfl) ?_
    unfold Tryz.f83
    simp (disch := ((try simp only [LL]); omega)) only [↓GO, ↓DRW, GA, ren, zB, zf, refs, zb, cst, zl, zH, z7, E.load, E.store, zG, isC, bin, zI, zJ, una, z8, za, zh, zK, blt, fnV, asArg, zd, zn, zo, zj, zi, zg, zk, zr, z6, zD, zF, mkS, zc, unN, zM, zm, zy, zC, ze, zN, zq, GS, Int.reduceToNat, Nat.reduceGT, ↓reduceIte, Nat.reduceAdd, Nat.reduceMul, Nat.reduceSub, Nat.reduceEqDiff, Nat.reduceLeDiff, Nat.reduceLT, Nat.reduceBEq, Int.reduceBEq, Int.reduceBNe, Int.reduceEq, Int.reduceLT, Int.reduceLE, Int.reduceGT, Int.reduceNeg, reduceCtorEq, GZ, d1]
  | some x =>
    obtain ⟨l, h⟩ := x
    rw [he] at d1
    simp only at d1 ⊢
    apply zu
    refine zw rfl Tryz.func83 rfl (by kernel_rfl) ?_
    unfold Tryz.f83
    simp (disch := ((try simp only [LL]); omega)) only [↓GO, ↓DRW, GA, ren, zB, zf, refs, zb, cst, zl, zH, z7, E.load, E.store, zG, isC, bin, zI, zJ, una, z8, za, zh, zK, blt, fnV, asArg, zd, zn, zo, zj, zi, zg, zk, zr, z6, zD, zF, mkS, zc, unN, zM, zm, zy, zC, ze, zN, zq, GS, Int.reduceToNat, Nat.reduceGT, ↓reduceIte, Nat.reduceAdd, Nat.reduceMul, Nat.reduceSub, Nat.reduceEqDiff, Nat.reduceLeDiff, Nat.reduceLT, Nat.reduceBEq, Int.reduceBEq, Int.reduceBNe, Int.reduceEq, Int.reduceLT, Int.reduceLE, Int.reduceGT, Int.reduceNeg, reduceCtorEq, GZ, d1]
end Go.Proofs.YtmcephnfcciloaaGreatDoor
/- What the laws' own functions do over Bound, Notice: sizes, copies, comparisons. Conditions: those of each lemma. -/
namespace Go.Proofs.YtmcephnfcciloaaGreatDoor
open E
set_option linter.unusedSimpArgs false
set_option linter.unusedVariables false
set_option maxRecDepth 100000
structure yz where
  low : List UInt8
  high : List UInt8
def yz.enc (x : yz) : List T := [.str x.low, .str x.high]
def yz.zV (l : List yz) : List (List T) := l.map yz.enc
def yz.yh (x : yz) : Nat := x.low.length + x.high.length
def yz.ya : List yz → Nat
  | [] => 0
  | c :: cs => yz.yh c + yz.ya cs
def yz.ok (x : yz) : Prop := x.low.length ≤ 9223372036854775807 ∧ x.high.length ≤ 9223372036854775807
theorem yz.vY (x : yz) : x.enc.length = 2 := rfl
theorem yz.wZ (x : yz) : x.enc.take 2 = x.enc := rfl
theorem yz.zT (cs : List yz) : (yz.zV cs).length = cs.length := by simp [yz.zV]
theorem yz.yS (cs : List yz) (i : Nat) (h : i < cs.length) : (yz.zV cs)[i]? = some cs[i].enc := by simp [yz.zV, h]
theorem yz.xi (cs : List yz) (i : Nat) (h : i < cs.length) : yz.ya (cs.drop i) = cs[i].yh + yz.ya (cs.drop (i + 1)) := by
  rw [List.drop_eq_getElem_cons h]; rfl
theorem yz.yp : ∀ {cs : List yz} {c : yz}, c ∈ cs → c.yh ≤ yz.ya cs
  | c' :: cs, c, h => by
    simp only [yz.ya]
    rcases List.mem_cons.1 h with rfl | h
    · omega
    · have := yz.yp h; omega
structure zt where
  name : List UInt8
  range : List UInt8
  text : List UInt8
def zt.enc (x : zt) : List T := [.str x.name, .str x.range, .str x.text]
def zt.zV (l : List zt) : List (List T) := l.map zt.enc
def zt.yh (x : zt) : Nat := x.name.length + x.range.length + x.text.length
def zt.ya : List zt → Nat
  | [] => 0
  | c :: cs => zt.yh c + zt.ya cs
def zt.ok (x : zt) : Prop := x.name.length ≤ 9223372036854775807 ∧ x.range.length ≤ 9223372036854775807 ∧ x.text.length ≤ 9223372036854775807
theorem zt.vY (x : zt) : x.enc.length = 3 := rfl
theorem zt.wZ (x : zt) : x.enc.take 3 = x.enc := rfl
theorem zt.zT (cs : List zt) : (zt.zV cs).length = cs.length := by simp [zt.zV]
theorem zt.yS (cs : List zt) (i : Nat) (h : i < cs.length) : (zt.zV cs)[i]? = some cs[i].enc := by simp [zt.zV, h]
theorem zt.xi (cs : List zt) (i : Nat) (h : i < cs.length) : zt.ya (cs.drop i) = cs[i].yh + zt.ya (cs.drop (i + 1)) := by
  rw [List.drop_eq_getElem_cons h]; rfl
theorem zt.yp : ∀ {cs : List zt} {c : zt}, c ∈ cs → c.yh ≤ zt.ya cs
  | c' :: cs, c, h => by
    simp only [zt.ya]
    rcases List.mem_cons.1 h with rfl | h
    · omega
    · have := zt.yp h; omega
def mF (x : zt) : Prop := ∀ n : Int, 0 ≤ n → n ≤ 1048576 → zE (EV Tryz.prog pol) 26 [.agg (x.enc.map .t), .t (.int .i64 n)] = some (.t (.int .i64 (left n x.yh)))
theorem nL (x : zt) (ho : x.ok) : mF x := by
  obtain ⟨name, range, text⟩ := x
  intro n h0 h1
  simp only [zt.ok] at ho
  simp only [zt.enc, List.map_cons, List.map_nil]
  apply zu
  refine zw rfl Tryz.func26 rfl (by kernel_rfl) ?_
  unfold Tryz.f26
  repeat' (first | (((first | with_reducible refine u9 (fun hA => ?_) (fun hA => ?_) | with_reducible refine u7 (fun hA => ?_) (fun hA => ?_)) <;> (try simp only [bne, Bool.not_eq_true', Bool.not_eq_false'] at hA) <;> (first | (have hP := Int.le_of_eq (eq_of_beq (α := Int) hA); have hQ := Int.le_of_eq (eq_of_beq (α := Int) hA).symm) | have hP := of_decide_eq_true hA | have hP := of_decide_eq_false hA | skip)) <;> (simp (disch := ((try simp only [LL]); omega)) only [↓GO, ↓DRW, GA, ren, zB, zf, refs, zb, cst, zl, zH, z7, E.load, E.store, zG, isC, bin, zI, zJ, una, z8, za, zh, zK, blt, fnV, asArg, zd, zn, zo, zj, zi, zg, zk, zr, z6, zD, zF, mkS, zc, unN, zM, zm, zy, zC, ze, zN, zq, GS, Int.reduceToNat, Nat.reduceGT, ↓reduceIte, Nat.reduceAdd, Nat.reduceMul, Nat.reduceSub, Nat.reduceEqDiff, Nat.reduceLeDiff, Nat.reduceLT, Nat.reduceBEq, Int.reduceBEq, Int.reduceBNe, Int.reduceEq, Int.reduceLT, Int.reduceLE, Int.reduceGT, Int.reduceNeg, reduceCtorEq, zx, bne, vW, wz, *])) | (simp (disch := ((try simp only [LL]); omega)) only [↓GO, ↓DRW, GA, ren, zB, zf, refs, zb, cst, zl, zH, z7, E.load, E.store, zG, isC, bin, zI, zJ, una, z8, za, zh, zK, blt, fnV, asArg, zd, zn, zo, zj, zi, zg, zk, zr, z6, zD, zF, mkS, zc, unN, zM, zm, zy, zC, ze, zN, zq, GS, Int.reduceToNat, Nat.reduceGT, ↓reduceIte, Nat.reduceAdd, Nat.reduceMul, Nat.reduceSub, Nat.reduceEqDiff, Nat.reduceLeDiff, Nat.reduceLT, Nat.reduceBEq, Int.reduceBEq, Int.reduceBNe, Int.reduceEq, Int.reduceLT, Int.reduceLE, Int.reduceGT, Int.reduceNeg, reduceCtorEq, zx, bne, vW, wz, *]))
  all_goals (refine uP ?_; simp only [zt.yh, and_true]; omega)
def uC (x : zt) : Prop := zE (EV Tryz.prog pol) 32 [.agg (x.enc.map .t)] = some (.agg (x.enc.map .t))
theorem nK (x : zt) (ho : x.yh ≤ 1048576) : uC x := by
  obtain ⟨name, range, text⟩ := x
  simp only [zt.yh] at ho
  simp only [uC, zt.enc, List.map_cons, List.map_nil]
  apply zu
  refine zw rfl Tryz.func32 rfl (by kernel_rfl) ?_
  unfold Tryz.f32
  simp only [↓GO, ↓DRW, GA, ren, zB, zf, refs, zb, cst, zl, zH, z7, E.load, E.store, zG, isC, bin, zI, zJ, una, z8, za, zh, zK, blt, fnV, asArg, zd, zn, zo, zj, zi, zg, zk, zr, z6, zD, zF, mkS, zc, unN, zM, zm, zy, zC, ze, zN, zq, GS, Int.reduceToNat, Nat.reduceGT, ↓reduceIte, Nat.reduceAdd, Nat.reduceMul, Nat.reduceSub, Nat.reduceEqDiff, Nat.reduceLeDiff, Nat.reduceLT, Nat.reduceBEq, Int.reduceBEq, Int.reduceBNe, Int.reduceEq, Int.reduceLT, Int.reduceLE, Int.reduceGT, Int.reduceNeg, reduceCtorEq]
def tX (x : zt) : Prop := zE (EV Tryz.prog pol) 37 [.agg (x.enc.map .t), .agg (x.enc.map .t)] = some (.t (.bool true))
theorem dt (x : zt) (ho : x.yh ≤ 1048576) : tX x := by
  obtain ⟨name, range, text⟩ := x
  simp only [zt.yh] at ho
  simp only [tX, zt.enc, List.map_cons, List.map_nil]
  apply zu
  refine zw rfl Tryz.func37 rfl (by kernel_rfl) ?_
  unfold Tryz.f37
  simp only [↓GO, ↓DRW, GA, ren, zB, zf, refs, zb, cst, zl, zH, z7, E.load, E.store, zG, isC, bin, zI, zJ, una, z8, za, zh, zK, blt, fnV, asArg, zd, zn, zo, zj, zi, zg, zk, zr, z6, zD, zF, mkS, zc, unN, zM, zm, zy, zC, ze, zN, zq, GS, Int.reduceToNat, Nat.reduceGT, ↓reduceIte, Nat.reduceAdd, Nat.reduceMul, Nat.reduceSub, Nat.reduceEqDiff, Nat.reduceLeDiff, Nat.reduceLT, Nat.reduceBEq, Int.reduceBEq, Int.reduceBNe, Int.reduceEq, Int.reduceLT, Int.reduceLE, Int.reduceGT, Int.reduceNeg, reduceCtorEq, bne_self_eq_false]
end Go.Proofs.YtmcephnfcciloaaGreatDoor
/- Ranges, plain: both ways of reading them come to the same. Conditions: none. -/
namespace Go.Proofs.YtmcephnfcciloaaGreatDoor
open E
set_option linter.unusedVariables false
set_option linter.unusedSimpArgs false
set_option maxRecDepth 100000
def vb (b : UInt8) : Bool := isD b || (nb b == 46 || (nb b == 45 || preB b))
theorem vG {n : Int} (h : 0 ≤ n) : (Lib.itoa n).all isD = true ∧ Lib.itoa n ≠ [] := by
  obtain ⟨u, rfl⟩ : ∃ u : Nat, n = u := ⟨n.toNat, by omega⟩
  rw [Lib.itoa_nonneg]
  obtain ⟨a, _, c⟩ := vU u
  exact ⟨a, c⟩
theorem qA {p q : UInt8 → Bool} (h : ∀ b, p b = true → q b = true) {l : Str} (hl : l.all p = true) : l.all q = true := by
  rw [List.all_eq_true] at hl ⊢
  exact fun x hx => h x (hl x hx)
theorem cH (b : UInt8) (h : isD b = true) : vb b = true := by unfold vb; rw [h]; rfl
theorem bj (b : UInt8) (h : preB b = true) : vb b = true := by unfold vb; rw [h]; simp
theorem T0 : ∀ l : List Str, (l.all fun p => p.all preB) = true → (Lib.join l [46]).all vb = true
  | [], _ => rfl
  | x :: r, h => by
    rw [Lib.join_cons]
    simp only [List.all_cons, Bool.and_eq_true] at h
    rw [List.all_append, qA bj h.1, Bool.true_and]
    have hr := h.2
    clear h
    induction r with
    | nil => rfl
    | cons y r ih =>
      simp only [List.all_cons, Bool.and_eq_true] at hr
      have e : Lib.joinTail [46] (y :: r) = 46 :: (y ++ Lib.joinTail [46] r) := by simp [Lib.joinTail]
      rw [e, List.all_cons, List.all_append, qA bj hr.1, ih hr.2]
      decide
theorem Uu {v : Ver} (h : yv v = true) : (yb v).all vb = true ∧ ∃ b r, yb v = b :: r ∧ isD b = true := by
  obtain ⟨h1, h2, h3, h4, _⟩ := xZ h
  obtain ⟨a1, a2⟩ := vG h1.1
  obtain ⟨b1, b2⟩ := vG h2.1
  obtain ⟨c1, c2⟩ := vG h3.1
  have hp : (v.pre.all fun p => p.all preB) = true := by
    rw [List.all_eq_true] at h4 ⊢
    intro x hx
    have := h4 x hx
    unfold wi at this
    simp only [Bool.and_eq_true] at this
    exact this.2.1
  have hj := T0 v.pre hp
  have hcore : (vc v).all vb = true := by
    unfold vc
    simp only [List.all_append, qA cH a1, qA cH b1, qA cH c1]
    decide
  refine ⟨?_, ?_⟩
  · unfold yb w6
    rw [h]
    simp only [cond_true]
    cases (v.pre == []) with
    | true => simpa using hcore
    | false =>
      simp only [cond_false, List.all_append, hcore, hj]
      decide
  · unfold yb w6 vc
    rw [h]
    simp only [cond_true]
    cases hi : Lib.itoa v.maj with
    | nil => exact absurd hi a2
    | cons b r =>
      rw [hi, List.all_cons, Bool.and_eq_true] at a1
      cases (v.pre == []) <;> exact ⟨b, _, rfl, a1.1⟩
/-- is a text a version's? -/
def isV (s : Str) : Bool := (zA s).2
theorem jP {s : Str} (h : isV s = true) : (∀ b ∈ s, vb b = true) ∧ ∃ b r, s = b :: r ∧ isD b = true := by
  obtain ⟨_, ht, ho, _⟩ := yu h
  obtain ⟨h1, h2⟩ := Uu ho
  rw [ht] at h1 h2
  exact ⟨List.all_eq_true.1 h1, h2⟩
theorem mI {s : Str} {c : UInt8} (hc : vb c = false) (h : c ∈ s) : isV s = false := by
  cases hv : isV s with
  | false => rfl
  | true =>
    have := (jP hv).1 c h
    rw [hc] at this; cases this
theorem mo {b : UInt8} {r : Str} (hb : isD b = false) : isV (b :: r) = false := by
  cases hv : isV (b :: r) with
  | false => rfl
  | true =>
    obtain ⟨_, b', r', e, h⟩ := jP hv
    cases e
    rw [hb] at h; cases h
theorem oE : isV [] = false := by
  cases hv : isV [] with
  | false => rfl
  | true => obtain ⟨_, _, _, e, _⟩ := jP hv; cases e
theorem nD (b : UInt8) : ∀ s : Str, (yi b s).length = s.count b + 1
  | [] => rfl
  | x :: s => by
    have ih := nD b s
    by_cases h : x = b
    · subst h; rw [wb, List.length_cons, ih, List.count_cons_self]
    · cases hc : yi b s with
      | nil => exact absurd hc (yU b s)
      | cons p r =>
        rw [yE b x s p r h hc, List.count_cons_of_ne (by simpa using h)]
        rw [hc] at ih
        simpa using ih
theorem Zk {s : Str} (h : isV s = true) : 3 ≤ (yi 46 s).length := by
  obtain ⟨hm, _, _, _⟩ := yu h
  have he := sA 45 s
  have h3 : (yi 46 (yl 45 s).1).length = 3 := by
    unfold xQ at hm
    split at hm
    · rename_i a b c hp; rw [hp]; rfl
    · cases hm
  rw [nD] at h3 ⊢
  rw [he, List.count_append]; omega
/-- the parts of a list of two -/
theorem vH {b : UInt8} : ∀ {s a : Str}, yi b s = [a] → s = a ∧ b ∉ a
  | [], a, h => by cases h; simp
  | x :: s, a, h => by
    by_cases hx : x = b
    · subst hx
      rw [wb] at h
      injection h with _ h2
      exact absurd h2 (yU x s)
    · cases hc : yi b s with
      | nil => exact absurd hc (yU b s)
      | cons p r =>
        rw [yE b x s p r hx hc] at h
        injection h with h1 h2
        subst h2
        obtain ⟨e1, e2⟩ := vH hc
        subst h1
        refine ⟨by rw [e1], ?_⟩
        simp only [List.mem_cons, not_or]
        exact ⟨Ne.symm hx, e2⟩
theorem vw {b : UInt8} : ∀ {s a a' : Str} {r : List Str}, yi b s = a :: a' :: r → ∃ t, s = a ++ b :: t ∧ b ∉ a ∧ yi b t = a' :: r
  | [], a, a', r, h => by simp [yi] at h
  | x :: s, a, a', r, h => by
    by_cases hx : x = b
    · subst hx
      rw [wb] at h
      injection h with h1 h2
      subst h1
      exact ⟨s, rfl, by simp, h2⟩
    · cases hc : yi b s with
      | nil => exact absurd hc (yU b s)
      | cons p q =>
        rw [yE b x s p q hx hc] at h
        injection h with h1 h2
        subst h1 h2
        obtain ⟨t, e1, e2, e3⟩ := vw hc
        refine ⟨t, by rw [e1]; rfl, ?_, e3⟩
        simp only [List.mem_cons, not_or]
        exact ⟨Ne.symm hx, e2⟩
theorem xo {s : Str} (h : 0 ≤ zO s) : (∀ b ∈ s, isD b = true) ∧ Lib.itoa (zO s) = s ∧ zO s ≤ 999999999 ∧ s ≠ [] := by
  unfold zO at h ⊢
  split at h
  · rename_i v hv
    cases hc : ((decide (0 ≤ v) && decide (v ≤ 999999999)) && (Lib.itoa v == s)) with
    | false => rw [hc] at h; simp at h
    | true =>
      have hc' := hc
      simp only [Bool.and_eq_true, decide_eq_true_eq, beq_iff_eq] at hc'
      obtain ⟨⟨q1, q2⟩, q3⟩ := hc'
      obtain ⟨a, b⟩ := vG q1
      simp only [cond_true]
      rw [q3] at a b
      exact ⟨List.all_eq_true.1 a, q3, q2, b⟩
  · simp at h
theorem uN {s : Str} {c : UInt8} (hc : isD c = false) (h : c ∈ s) : zO s = -1 := by
  have h1 := xn s
  by_cases h2 : 0 ≤ zO s
  · have := (xo h2).1 c h
    rw [hc] at this; cases this
  · omega
theorem rP : zO [48] = 0 := by
  have := (vu (u := 0) (by omega)).1
  rwa [show Lib.decDigits 0 = [48] by rw [Lib.decDigits_one (by omega)]; rfl] at this
theorem lS : Lib.itoa 0 = [48] := by
  have := Lib.itoa_nonneg 0
  rw [show ((0 : Nat) : Int) = 0 from rfl] at this
  rw [this, Lib.decDigits_one (by omega)]; rfl
def u6 (s : Str) : Option (Str × Str) := match yi 46 s with
  | [a] => cond (decide (0 ≤ zO a) && !(ye (zO a + 1) 0 0 == [])) (some (yb ⟨zO a, 0, 0, []⟩, ye (zO a + 1) 0 0)) none
  | [a, b] => cond ((decide (0 ≤ zO a) && decide (0 ≤ zO b)) && !(ye (zO a) (zO b + 1) 0 == [])) (some (yb ⟨zO a, zO b, 0, []⟩, ye (zO a) (zO b + 1) 0)) none
  | _ => none
def wo (s : Str) : Str := cond (((yi 46 s).length : Int) == 1) (s ++ [46, 48, 46, 48]) (s ++ [46, 48])
def wK (s : Str) : Option (Str × Str) :=
  cond (!(isV (wo s)) || (!(B2 ((yi 46 s).length : Int) 1 2) || !((zA (wo s)).1.pre == []))) none
    (cond (vi (zA (wo s)).1 (((yi 46 s).length : Int) - 1)).2 (some (wo s, (vi (zA (wo s)).1 (((yi 46 s).length : Int) - 1)).1)) none)
theorem fk {s : Str} (h : (45 : UInt8) ∈ s) (hv : isV s = true) : (zA s).1.pre ≠ [] := by
  obtain ⟨hm, _, _, _⟩ := yu hv
  have he := sA 45 s
  have hn := my 45 s
  unfold xQ at hm
  split at hm
  · injection hm with hm
    rw [← hm]
    cases hc : (yl 45 s).2.2 with
    | false =>
      rw [hc, cond_false, List.append_nil] at he
      rw [he] at h
      exact absurd h hn
    | true => exact yU 46 _
  · cases hm
theorem Uh {s : Str} (h : ∀ b ∈ s, isD b = true) : (45 : UInt8) ∉ s := fun hm => by
  have := h 45 hm
  revert this; decide
theorem Ug {s : Str} (h : ∀ b ∈ s, isD b = true) : (46 : UInt8) ∉ s := fun hm => by
  have := h 46 hm
  revert this; decide
/-- a text of numbers alone is read as they are -/
theorem nd {a b c s : Str} (hd : (45 : UInt8) ∉ s) (hc : yi 46 s = [a, b, c]) :
    zA s = cond (yb ⟨zO a, zO b, zO c, []⟩ == s) (⟨zO a, zO b, zO c, []⟩, true) (Ver.zero, false) := by
  unfold zA xQ
  rw [ay 45 s hd]
  simp only
  rw [hc]
  simp only [cond_false]
theorem vS (a b c : Int) : yv ⟨a, b, c, []⟩ = (n9 a && (n9 b && n9 c)) := by simp [yv]
theorem pf (s : Str) : n9 (zO s) = decide (0 ≤ zO s) := by
  have := xn s
  unfold n9 B2
  have : decide (zO s ≤ 999999999) = true := decide_eq_true this.2
  rw [this, Bool.and_true]
theorem uK {a b c : Int} (ha : n9 a = true) (hb : n9 b = true) (hc : n9 c = true) : yb ⟨a, b, c, []⟩ = Lib.itoa a ++ [46] ++ Lib.itoa b ++ [46] ++ Lib.itoa c := by
  unfold yb w6 vc
  rw [vS, ha, hb, hc]
  rfl
theorem gf {a b c : Int} (h : (n9 a && (n9 b && n9 c)) = false) : yb ⟨a, b, c, []⟩ = [] := by
  unfold yb
  rw [vS, h]; rfl
theorem sy : n9 0 = true := by decide
theorem oV (s : Str) : wK s = u6 s := by
  unfold u6
  split
  · rename_i a hp
    obtain ⟨rfl, hn⟩ := vH hp
    have hfull : wo s = s ++ [46, 48, 46, 48] := by unfold wo; rw [hp]; rfl
    unfold wK
    rw [hp, hfull]
    by_cases h45 : (45 : UInt8) ∈ s
    · have hd := uN (c := 45) (by decide) h45
      rw [hd]
      have hr : (!(isV (s ++ [46, 48, 46, 48])) || (!(B2 (([s] : List Str).length : Int) 1 2) || !((zA (s ++ [46, 48, 46, 48])).1.pre == []))) = true := by
        cases hv : isV (s ++ [46, 48, 46, 48]) with
        | false => rfl
        | true =>
          have := fk (s := s ++ [46, 48, 46, 48]) (by simp [h45]) hv
          have h2 : ((zA (s ++ [46, 48, 46, 48])).1.pre == []) = false := by
            cases hx : (zA (s ++ [46, 48, 46, 48])).1.pre with
            | nil => exact absurd hx this
            | cons x y => rfl
          rw [h2]; simp
      rw [hr]; rfl
    · have h45' : (45 : UInt8) ∉ s ++ [46, 48, 46, 48] := by simp [h45]
      have hc3 : yi 46 (s ++ [46, 48, 46, 48]) = [s, [48], [48]] := by
        rw [show s ++ [46, 48, 46, 48] = s ++ 46 :: [48, 46, 48] from rfl, uy, hp]; rfl
      have hr := nd h45' hc3
      rw [rP] at hr
      unfold isV
      rw [hr]
      have hn9 := pf s
      by_cases h0 : 0 ≤ zO s
      · obtain ⟨_, hi, _, _⟩ := xo h0
        have hn : n9 (zO s) = true := by rw [hn9]; exact decide_eq_true h0
        have ht := uK hn sy sy
        rw [hi, lS] at ht
        have he : (yb ⟨zO s, 0, 0, []⟩ == s ++ [46, 48, 46, 48]) = true := by rw [ht]; simp
        have hok : yv ⟨zO s, 0, 0, []⟩ = true := by rw [vS, hn]; rfl
        rw [he]
        simp only [cond_true]
        have hb := vI hok 0 (by omega)
        simp only [show ((0 : Int) == 0) = true from rfl, cond_true, show ((0 : Int) == 2) = false from rfl, cond_false] at hb
        rw [show (([s] : List Str).length : Int) - 1 = 0 from rfl, hb, decide_eq_true h0, ht]
        simp only [show B2 (([s] : List Str).length : Int) 1 2 = true from rfl, show (([] : List Str) == []) = true from rfl, Bool.not_true, Bool.or_false, cond_false, Bool.true_and]
        simp
      · have hn : (n9 (zO s) && (n9 0 && n9 0)) = false := by rw [hn9, decide_eq_false h0]; rfl
        rw [gf hn]
        have he : (([] : Str) == s ++ [46, 48, 46, 48]) = false := by rw [beq_eq_false_iff_ne]; intro e; have := congrArg List.length e; simp at this
        rw [he, decide_eq_false h0]
        rfl
  · rename_i a b hp
    obtain ⟨t, rfl, hna, hct⟩ := vw hp
    obtain ⟨rfl, hnb⟩ := vH hct
    generalize hsd : a ++ 46 :: t = s at *
    have hfull : wo s = s ++ [46, 48] := by unfold wo; rw [hp]; rfl
    unfold wK
    rw [hp, hfull]
    by_cases h45 : (45 : UInt8) ∈ s
    · have hd : (decide (0 ≤ zO a) && decide (0 ≤ zO t)) = false := by
        rw [← hsd] at h45
        simp only [List.mem_append, List.mem_cons] at h45
        rcases h45 with h | h | h
        · rw [uN (c := 45) (by decide) h]; rfl
        · exact absurd h (by decide)
        · rw [uN (c := 45) (by decide) h]; simp
      rw [hd]
      have hr : (!(isV (s ++ [46, 48])) || (!(B2 (([a, t] : List Str).length : Int) 1 2) || !((zA (s ++ [46, 48])).1.pre == []))) = true := by
        cases hv : isV (s ++ [46, 48]) with
        | false => rfl
        | true =>
          have := fk (s := s ++ [46, 48]) (by simp [h45]) hv
          have h2 : ((zA (s ++ [46, 48])).1.pre == []) = false := by
            cases hx : (zA (s ++ [46, 48])).1.pre with
            | nil => exact absurd hx this
            | cons x y => rfl
          rw [h2]; simp
      rw [hr]; rfl
    · have h45' : (45 : UInt8) ∉ s ++ [46, 48] := by simp [h45]
      have hc3 : yi 46 (s ++ [46, 48]) = [a, t, [48]] := by
        rw [show s ++ [46, 48] = s ++ 46 :: [48] from rfl, uy, hp]; rfl
      have hr := nd h45' hc3
      rw [rP] at hr
      unfold isV
      rw [hr]
      have hna := pf a
      have hnt := pf t
      by_cases h0 : 0 ≤ zO a ∧ 0 ≤ zO t
      · obtain ⟨_, hi, _, _⟩ := xo h0.1
        obtain ⟨_, hj, _, _⟩ := xo h0.2
        have hn : n9 (zO a) = true := by rw [hna]; exact decide_eq_true h0.1
        have hm : n9 (zO t) = true := by rw [hnt]; exact decide_eq_true h0.2
        have ht := uK hn hm sy
        rw [hi, hj, lS] at ht
        have he : (yb ⟨zO a, zO t, 0, []⟩ == s ++ [46, 48]) = true := by rw [ht, ← hsd]; simp
        have hok : yv ⟨zO a, zO t, 0, []⟩ = true := by rw [vS, hn, hm]; rfl
        rw [he]
        simp only [cond_true]
        have hb := vI hok 1 (by omega)
        simp only [show ((1 : Int) == 0) = false from rfl, show ((1 : Int) == 1) = true from rfl, cond_true, show ((1 : Int) == 2) = false from rfl, cond_false] at hb
        rw [show (([a, t] : List Str).length : Int) - 1 = 1 from rfl, hb, decide_eq_true h0.1, decide_eq_true h0.2, eq_of_beq he]
        simp only [show B2 (([a, t] : List Str).length : Int) 1 2 = true from rfl, show (([] : List Str) == []) = true from rfl, Bool.not_true, Bool.or_false, cond_false, Bool.true_and]
      · have hd : (decide (0 ≤ zO a) && decide (0 ≤ zO t)) = false := by simpa using h0
        have hn : (n9 (zO a) && (n9 (zO t) && n9 0)) = false := by rw [hna, hnt, ← Bool.and_assoc, hd]; rfl
        rw [gf hn]
        have he : (([] : Str) == s ++ [46, 48]) = false := by rw [beq_eq_false_iff_ne]; intro e; have := congrArg List.length e; simp at this
        rw [he, hd]
        rfl
  · rename_i h1 h2
    have hlen : B2 ((yi 46 s).length : Int) 1 2 = false := by
      match hc : yi 46 s, h1, h2 with
      | [], _, _ => exact absurd hc (yU 46 s)
      | [a], h1, _ => exact absurd rfl (h1 a)
      | [a, b], _, h2 => exact absurd rfl (h2 a b)
      | a :: b :: c :: r, _, _ =>
        have : decide (((a :: b :: c :: r).length : Int) ≤ 2) = false := decide_eq_false (by simp only [List.length_cons]; omega)
        unfold B2; rw [this, Bool.and_false]
    unfold wK
    rw [hlen]
    simp
end Go.Proofs.YtmcephnfcciloaaGreatDoor
/- Ranges, plain, the parts. Conditions: none. -/
namespace Go.Proofs.YtmcephnfcciloaaGreatDoor
open E
set_option linter.unusedVariables false
set_option linter.unusedSimpArgs false
set_option maxRecDepth 100000
/-- a text cut at ' <' -/
def xh : Str → Str × Str × Bool
  | [] => ([], [], false)
  | x :: r => if ([32, 60] : Str).isPrefixOf (x :: r) = true then ([], r.drop 1, true) else (x :: (xh r).1, (xh r).2.1, (xh r).2.2)
theorem fY : ∀ s : Str, Lib.cut s [32, 60] = xh s
  | [] => by simp [Lib.cut, xh, Lib.index]
  | x :: s => by
    have ih := fY s
    rw [xh]
    by_cases h : ([32, 60] : Str).isPrefixOf (x :: s) = true
    · rw [if_pos h]
      unfold Lib.cut
      rw [Lib.index, if_pos h]
      simp
    · rw [if_neg h, ← ih]
      unfold Lib.cut
      rw [Lib.index, if_neg h]
      have hge := Lib.index_ge s [32, 60]
      by_cases hm : Lib.index s [32, 60] = -1
      · rw [hm]; simp
      · obtain ⟨j, hj⟩ : ∃ j : Nat, Lib.index s [32, 60] = j := ⟨(Lib.index s [32, 60]).toNat, by omega⟩
        have hb : (((j : Nat) : Int) == -1) = false := by rw [beq_eq_false_iff_ne]; omega
        rw [hj, hb]
        simp only [Bool.false_eq_true, if_false]
        rw [if_pos (by omega), if_pos (by omega), show ((j : Int) + 1).toNat = j + 1 by omega]
        simp only [List.take_succ_cons, Int.toNat_natCast]
        rw [show j + 1 + ([32, 60] : Str).length = (j + ([32, 60] : Str).length) + 1 by simp only [List.length_cons, List.length_nil], List.drop_succ_cons]
theorem ez {x : UInt8} {r : Str} (h : ([32, 60] : Str).isPrefixOf (x :: r) = true) : x = 32 ∧ r = 60 :: r.drop 1 := by
  cases r with
  | nil => simp [List.isPrefixOf] at h
  | cons y r =>
    simp only [List.isPrefixOf, Bool.and_true, Bool.and_eq_true, beq_iff_eq] at h
    obtain ⟨h1, h2⟩ := h
    subst h1 h2
    exact ⟨rfl, rfl⟩
theorem jB : ∀ s : Str, s = (xh s).1 ++ cond (xh s).2.2 (32 :: 60 :: (xh s).2.1) []
  | [] => rfl
  | x :: s => by
    rw [xh]
    by_cases h : ([32, 60] : Str).isPrefixOf (x :: s) = true
    · obtain ⟨h1, h2⟩ := ez h
      rw [if_pos h]
      subst h1
      simp only [List.nil_append, cond_true]
      rw [← h2]
    · rw [if_neg h]
      have := jB s
      show x :: s = (x :: (xh s).1) ++ _
      rw [List.cons_append, ← this]
theorem jA : ∀ s : Str, (32 : UInt8) ∉ s → xh s = (s, [], false)
  | [], _ => rfl
  | x :: s, h => by
    simp only [List.mem_cons, not_or] at h
    have hp : ¬ ([32, 60] : Str).isPrefixOf (x :: s) = true := fun hp => h.1 (ez hp).1.symm
    rw [xh, if_neg hp, jA s h.2]
theorem ea (t : Str) : ∀ s : Str, (32 : UInt8) ∉ s → xh (s ++ 32 :: 60 :: t) = (s, t, true)
  | [], _ => by
    rw [List.nil_append, xh, if_pos (by simp [List.isPrefixOf])]; rfl
  | x :: s, h => by
    simp only [List.mem_cons, not_or] at h
    have hp : ¬ ([32, 60] : Str).isPrefixOf (x :: (s ++ 32 :: 60 :: t)) = true := fun hp => h.1 (ez hp).1.symm
    rw [List.cons_append, xh, if_neg hp, ea t s h.2]
theorem kB (t : Str) (ht : (32 : UInt8) ∉ t) (hn : ∀ r, t ≠ 60 :: r) : ∀ s : Str, (32 : UInt8) ∉ s → xh (s ++ 32 :: t) = (s ++ 32 :: t, [], false)
  | [], _ => by
    have hp : ¬ ([32, 60] : Str).isPrefixOf (32 :: t) = true := fun hp => hn _ (ez hp).2
    rw [List.nil_append, xh, if_neg hp, jA t ht]
  | x :: s, h => by
    simp only [List.mem_cons, not_or] at h
    have hp : ¬ ([32, 60] : Str).isPrefixOf (x :: (s ++ 32 :: t)) = true := fun hp => h.1 (ez hp).1.symm
    rw [List.cons_append, xh, if_neg hp, kB t ht hn s h.2]
abbrev Bd := Str × Str
def geP (s : Str) : Bool := ([62, 61] : Str).isPrefixOf s
def ltP (s : Str) : Bool := ([60] : Str).isPrefixOf s
def hdB (c : UInt8) : Str → Bool
  | [] => false
  | x :: _ => x == c
def pj (v : Ver) : Str := cond (decide (v.maj > 0)) (ye (v.maj + 1) 0 0) (cond (v.min == 0) (ye 0 0 (v.pat + 1)) (ye v.maj (v.min + 1) 0))
def w9 (s : Str) : Bd × Bool := match yi 46 s with
  | [a] => cond (decide (0 ≤ zO a)) ((yb ⟨zO a, 0, 0, []⟩, ye (zO a + 1) 0 0), true) (([], []), false)
  | [a, b] => cond (decide (0 ≤ zO a) && decide (0 ≤ zO b)) ((yb ⟨zO a, zO b, 0, []⟩, ye (zO a) (zO b + 1) 0), true) (([], []), false)
  | _ => (([], []), false)
def Ud (s : Str) : Str := cond (hdB 94 s) (pj (zA (s.drop 1)).1) (ye (zA (s.drop 1)).1.maj ((zA (s.drop 1)).1.min + 1) 0)
def xB (s : Str) : Bd × Bool :=
  cond (s == [42]) (([], []), true)
  (cond (isV s) ((s, uG (zA s).1), true)
  (cond (geP s) (((xh (s.drop 2)).1, (xh (s.drop 2)).2.1), isV (xh (s.drop 2)).1 && (!(xh (s.drop 2)).2.2 || isV (xh (s.drop 2)).2.1))
  (cond (ltP s) (([], s.drop 1), isV (s.drop 1))
  (cond (hdB 94 s || hdB 126 s) ((s.drop 1, Ud s), isV (s.drop 1))
  (w9 s)))))
def sE (s : Str) : Bool := s == [42] || (ltP s || geP s)
def tw (s : Str) : Option Bd := cond (!((xB s).2) || (!(sE s) && (((xB s).1.1 == []) || ((xB s).1.2 == [])))) none (some (xB s).1)
def isE (s : Str) : Bool := isV s || s == []
def vN (v : Ver) : Int := cond (decide (v.maj > 0)) 0 (cond (decide (v.min > 0)) 1 2)
def geW (x : Str) : Bool := decide ((x.length : Int) > 2) && (x.take 2 == [62, 61])
def ltW (x : Str) : Bool := decide ((x.length : Int) > 1) && hdB 60 x
def u5 (s : Str) : Option Bd := match yi 32 s with
  | [x] => cond (geW x) (cond (isE (x.drop 2) && isE []) (some (x.drop 2, [])) none) (cond (ltW x) (cond (isE [] && isE (x.drop 1)) (some ([], x.drop 1)) none) none)
  | [x, y] => cond (geW x) (cond (ltW y) (cond (isE (x.drop 2) && isE (y.drop 1)) (some (x.drop 2, y.drop 1)) none) none) none
  | _ => none
def mN (v : Ver) (t : Str) (p : Int) : Option Bd := cond (vi v p).2 (some (t, (vi v p).1)) none
def xJ (s : Str) : Option Bd :=
  cond (s == [42]) (some ([], []))
  (cond (decide ((s.length : Int) > 1) && (hdB 94 s || hdB 126 s)) (cond (!(isV (s.drop 1))) none (mN (zA (s.drop 1)).1 (s.drop 1) (cond (hdB 126 s) 1 (vN (zA (s.drop 1)).1))))
  (cond (decide ((s.length : Int) > 0) && (hdB 62 s || hdB 60 s)) (u5 s)
  (match x6 s with | some x => some x | none => wK s)))
theorem oF : isE [] = true := by simp [isE]
theorem Sy {s : Str} (h : s ≠ []) : isE s = isV s := by
  unfold isE
  have : (s == []) = false := by
    cases s with
    | nil => exact absurd rfl h
    | cons x r => rfl
  rw [this, Bool.or_false]
theorem Xn {s : Str} (h : isV s = false) : x6 s = none := by
  unfold x6
  unfold isV at h
  rw [h]; rfl
theorem oX {s : Str} {c : UInt8} {a : Str} {r : List Str} (hp : yi 46 s = (c :: a) :: r) (hc : isD c = false) : u6 s = none := by
  have hd := uN (s := c :: a) hc (by simp)
  have h0 : decide ((0 : Int) ≤ -1) = false := by decide
  unfold u6
  rw [hp]
  cases r with
  | nil => simp only [hd, h0, Bool.false_and, cond_false]
  | cons b r => cases r with
    | nil => simp only [hd, h0, Bool.false_and, cond_false]
    | cons _ _ => rfl
theorem oW : u6 [] = none := by
  unfold u6
  have h0 : decide (0 ≤ zO []) = false := by
    apply decide_eq_false
    intro h
    exact (xo h).2.2.2 rfl
  rw [show yi 46 ([] : Str) = [[]] from rfl]
  simp only [h0, Bool.false_and, cond_false]
theorem fX {c : UInt8} {r : Str} (h : c ≠ 46) : ∃ a q, yi 46 (c :: r) = (c :: a) :: q := by
  cases hc : yi 46 r with
  | nil => exact absurd hc (yU 46 r)
  | cons p q => exact ⟨p, q, yE 46 c r p q h hc⟩
theorem pY {s : Str} (hb : xB s = w9 s) (ho : sE s = false) : tw s = u6 s := by
  unfold tw
  rw [hb, ho]
  unfold w9 u6
  match yi 46 s with
  | [] => rfl
  | [a] =>
    simp only
    cases h : decide (0 ≤ zO a) with
    | false => simp
    | true =>
      have hn : n9 (zO a) = true := by rw [pf]; exact h
      have : (yb ⟨zO a, 0, 0, []⟩ == []) = false := by rw [uK hn sy sy]; simp
      simp only [cond_true, Bool.not_true, Bool.false_or, Bool.not_false, Bool.true_and, this]
      cases (ye (zO a + 1) 0 0 == []) <;> rfl
  | [a, b] =>
    simp only
    cases h : decide (0 ≤ zO a) with
    | false => simp
    | true =>
      cases h2 : decide (0 ≤ zO b) with
      | false => simp
      | true =>
        have hn : n9 (zO a) = true := by rw [pf]; exact h
        have hm : n9 (zO b) = true := by rw [pf]; exact h2
        have : (yb ⟨zO a, zO b, 0, []⟩ == []) = false := by rw [uK hn hm sy]; simp
        simp only [cond_true, Bool.not_true, Bool.false_or, Bool.not_false, Bool.true_and, Bool.and_self, this]
        cases (ye (zO a) (zO b + 1) 0 == []) <;> rfl
  | a :: b :: c :: r => rfl
theorem Tf {s : Str} (hv : isV s = true) : tw s = xJ s := by
  obtain ⟨_, x, r, rfl, hx⟩ := jP hv
  have hne : ∀ c : UInt8, isD c = false → (x == c) = false := fun c hc => by
    rw [beq_eq_false_iff_ne]; intro e; subst e; rw [hx] at hc; cases hc
  have h42 := hne 42 (by decide)
  have h94 := hne 94 (by decide)
  have h126 := hne 126 (by decide)
  have h62 := hne 62 (by decide)
  have h60 := hne 60 (by decide)
  have hs : ((x :: r) == [42]) = false := by rw [beq_eq_false_iff_ne]; intro e; cases e; simp at h42
  have hge : geP (x :: r) = false := by
    cases r with
    | nil => simp [geP, List.isPrefixOf]
    | cons y r => simp only [geP, List.isPrefixOf]; rw [show ((62 : UInt8) == x) = false by rw [Bool.beq_comm]; exact h62]; rfl
  have hlt : ltP (x :: r) = false := by simp only [ltP, List.isPrefixOf]; rw [show ((60 : UInt8) == x) = false by rw [Bool.beq_comm]; exact h60]; rfl
  have hlong := Zk hv
  have hB : B2 ((yi 46 (x :: r)).length : Int) 1 2 = false := by
    have : decide (((yi 46 (x :: r)).length : Int) ≤ 2) = false := decide_eq_false (by omega)
    unfold B2; rw [this, Bool.and_false]
  have hsh : wK (x :: r) = none := by unfold wK; rw [hB]; simp
  unfold tw xJ xB sE x6
  have hv' : (zA (x :: r)).2 = true := hv
  rw [hs, hv, hge, hlt, hv', hsh]
  simp only [hdB, h94, h126, h62, h60, cond_false, cond_true, Bool.or_false, Bool.and_false, Bool.not_true, Bool.not_false, Bool.false_or, Bool.true_and]
  rw [show ((x :: r) == []) = false from rfl]
  simp only [Bool.false_or]
  cases (uG (zA (x :: r)).1 == []) <;> rfl
theorem nM {v : Ver} {t : Str} (ho : yv v = true) (b : Bool) : mN v t (cond (!b) 1 (vN v)) = cond (cond b (pj v) (ye v.maj (v.min + 1) 0) == []) none (some (t, cond b (pj v) (ye v.maj (v.min + 1) 0))) := by
  obtain ⟨h1, h2, h3, _, _⟩ := xZ ho
  unfold mN
  cases b with
  | false =>
    have hb := vI ho 1 (by omega)
    simp only [show ((1 : Int) == 0) = false from rfl, show ((1 : Int) == 1) = true from rfl, cond_true, show ((1 : Int) == 2) = false from rfl, cond_false] at hb
    simp only [Bool.not_false, cond_true, cond_false]
    rw [hb]
    cases (ye v.maj (v.min + 1) 0 == []) <;> rfl
  | true =>
    simp only [Bool.not_true, cond_true, cond_false]
    unfold vN pj
    cases h4 : decide (v.maj > 0) with
    | true =>
      have hb := vI ho 0 (by omega)
      simp only [show ((0 : Int) == 0) = true from rfl, cond_true, show ((0 : Int) == 2) = false from rfl, cond_false] at hb
      simp only [cond_true]
      rw [hb]
      cases (ye (v.maj + 1) 0 0 == []) <;> rfl
    | false =>
      have h5 : v.maj = 0 := by have := of_decide_eq_false h4; omega
      cases h6 : decide (v.min > 0) with
      | true =>
        have h7 : (v.min == 0) = false := by have := of_decide_eq_true h6; rw [beq_eq_false_iff_ne]; omega
        have hb := vI ho 1 (by omega)
        simp only [show ((1 : Int) == 0) = false from rfl, show ((1 : Int) == 1) = true from rfl, cond_true, show ((1 : Int) == 2) = false from rfl, cond_false] at hb
        simp only [cond_true, cond_false, h7]
        rw [hb]
        cases (ye v.maj (v.min + 1) 0 == []) <;> rfl
      | false =>
        have h7 : v.min = 0 := by have := of_decide_eq_false h6; omega
        have hb := vI ho 2 (by omega)
        simp only [show ((2 : Int) == 0) = false from rfl, show ((2 : Int) == 1) = false from rfl, show ((2 : Int) == 2) = true from rfl, cond_true, cond_false] at hb
        simp only [cond_false]
        rw [hb, h5, h7]
        simp only [show ((0 : Int) == 0) = true from rfl, cond_true]
        cases (ye 0 0 (v.pat + 1) == []) <;> rfl
theorem head_eq (c x : UInt8) (r : Str) : ([c] : Str).isPrefixOf (x :: r) = (x == c) := by
  simp only [List.isPrefixOf, Bool.and_true]; exact Bool.beq_comm
theorem jo (x : UInt8) (r : Str) : decide (((x :: r).length : Int) > 1) = !(r == []) := by
  cases r with
  | nil => rfl
  | cons y r =>
    have : ((y :: r) == []) = false := rfl
    rw [this]
    apply decide_eq_true
    simp only [List.length_cons]; omega
/-- what follows where no sign stands ahead -/
theorem qI {s : Str} (hv : isV s = false) : (match x6 s with | some x => some x | none => wK s) = u6 s := by
  rw [Xn hv]
  exact oV s
theorem eh (x : UInt8) (r : Str) (hx : x = 94 ∨ x = 126) : tw (x :: r) = xJ (x :: r) := by
  have hd : isD x = false := by rcases hx with rfl | rfl <;> decide
  have h42 : ((x :: r) == [42]) = false := by rw [beq_eq_false_iff_ne]; intro e; cases e; rcases hx with h | h <;> cases h
  have hv := mo (r := r) hd
  have hge : geP (x :: r) = false := by
    unfold geP
    rcases hx with rfl | rfl <;> cases r <;> simp [List.isPrefixOf]
  have hlt : ltP (x :: r) = false := by
    unfold ltP
    rcases hx with rfl | rfl <;> simp [List.isPrefixOf]
  have h1 : (hdB 94 (x :: r) || hdB 126 (x :: r)) = true := by rcases hx with rfl | rfl <;> rfl
  have h2 : hdB 126 (x :: r) = !(hdB 94 (x :: r)) := by rcases hx with rfl | rfl <;> rfl
  have h3 : (hdB 62 (x :: r) || hdB 60 (x :: r)) = false := by rcases hx with rfl | rfl <;> rfl
  cases hr : (r == []) with
  | true =>
    obtain rfl : r = [] := by
      cases r with
      | nil => rfl
      | cons y r => cases hr
    have hp : ∃ a q, yi 46 [x] = (x :: a) :: q := fX (by rcases hx with rfl | rfl <;> decide)
    obtain ⟨a, q, hp⟩ := hp
    have hsh := oX hp hd
    unfold tw xJ xB sE
    rw [h42, hv, hge, hlt, h1, h3, jo, hr, qI hv, hsh]
    simp only [List.drop_succ_cons, List.drop_zero, oE]
    rfl
  | false =>
    unfold tw xJ xB sE
    rw [h42, hv, hge, hlt, h1, jo, hr, h2]
    unfold Ud
    simp only [List.drop_succ_cons, List.drop_zero, cond_false, cond_true, Bool.or_false, Bool.not_false, Bool.true_and, Bool.not_true, Bool.false_and, hr, Bool.false_or]
    cases hvr : isV r with
    | false => rfl
    | true =>
      obtain ⟨_, _, ho, _⟩ := yu hvr
      rw [nM ho]
      simp only [Bool.not_true, Bool.false_or, cond_false]
theorem fK (p : Str) : geW (62 :: 61 :: p) = !(p == []) := by
  unfold geW
  cases p with
  | nil => rfl
  | cons x p =>
    have : decide (((62 :: 61 :: x :: p : Str).length : Int) > 2) = true := by apply decide_eq_true; simp only [List.length_cons]; omega
    rw [this]; rfl
theorem gX (p : Str) : ltW (60 :: p) = !(p == []) := by
  unfold ltW
  rw [jo]
  simp [hdB]
theorem uQ (p : Str) : (!(p == []) && isE p) = isV p := by
  cases p with
  | nil => rw [oE]; rfl
  | cons x r => rw [Sy (by simp)]; rfl
theorem eX {s : Str} {c1 c2 : Str} {two : Bool} (h : xh s = (c1, c2, two)) (h32 : 2 ≤ s.count 32) : (isV c1 && (!two || isV c2)) = false := by
  have he := jB s
  rw [h] at he
  simp only at he
  cases two with
  | false =>
    rw [cond_false, List.append_nil] at he
    have : (32 : UInt8) ∈ c1 := by rw [← he]; exact List.count_pos_iff.1 (by omega)
    rw [mI (c := 32) (by decide) this]; rfl
  | true =>
    rw [cond_true] at he
    rw [he, List.count_append, List.count_cons_self, List.count_cons_of_ne (by decide)] at h32
    by_cases h1 : 0 < c1.count 32
    · rw [mI (c := 32) (by decide) (List.count_pos_iff.1 h1)]; rfl
    · rw [mI (s := c2) (c := 32) (by decide) (List.count_pos_iff.1 (by omega))]; simp
theorem SF (t : Str) : tw (62 :: 61 :: t) = xJ (62 :: 61 :: t) := by
  have hv := mo (b := 62) (r := 61 :: t) (by decide)
  have hge : geP (62 :: 61 :: t) = true := by simp [geP, List.isPrefixOf]
  have h42 : ((62 :: 61 :: t : Str) == [42]) = false := rfl
  have hR : xJ (62 :: 61 :: t) = u5 (62 :: 61 :: t) := by
    unfold xJ
    rw [h42]
    simp only [hdB, show ((62 : UInt8) == 94) = false from rfl, show ((62 : UInt8) == 126) = false from rfl, show ((62 : UInt8) == 62) = true from rfl, Bool.or_false, Bool.and_false, cond_false, Bool.true_or, Bool.and_true]
    have : decide (((62 :: 61 :: t : Str).length : Int) > 0) = true := by apply decide_eq_true; simp only [List.length_cons]; omega
    rw [this]; rfl
  have hI : tw (62 :: 61 :: t) = cond (isV (xh t).1 && (!(xh t).2.2 || isV (xh t).2.1)) (some ((xh t).1, (xh t).2.1)) none := by
    unfold tw xB sE
    rw [h42, hv, hge]
    simp only [cond_false, cond_true, Bool.or_true, Bool.not_true, Bool.false_and, Bool.or_false, List.drop_succ_cons, List.drop_zero]
    cases (isV (xh t).1 && (!(xh t).2.2 || isV (xh t).2.1)) <;> rfl
  rw [hI, hR]
  unfold u5
  cases hc : yi 32 t with
  | nil => exact absurd hc (yU 32 t)
  | cons p q =>
    have hw : yi 32 (62 :: 61 :: t) = (62 :: 61 :: p) :: q := yE 32 62 (61 :: t) (61 :: p) q (by decide) (yE 32 61 t p q (by decide) hc)
    rw [hw]
    cases q with
    | nil =>
      obtain ⟨rfl, hn⟩ := vH hc
      rw [jA t hn]
      simp only [fK, List.drop_succ_cons, List.drop_zero, oF, Bool.and_true, Bool.not_false, Bool.true_or]
      have hl2 : ltW (62 :: 61 :: t) = false := by unfold ltW; simp [hdB]
      rw [← uQ t, hl2]
      cases (t == []) with
      | true => rfl
      | false => rfl
    | cons y q =>
      obtain ⟨u, rfl, hn, hcu⟩ := vw hc
      cases q with
      | nil =>
        obtain ⟨rfl, hny⟩ := vH hcu
        simp only [fK, List.drop_succ_cons, List.drop_zero]
        by_cases hy : ∃ z, u = 60 :: z
        · obtain ⟨z, rfl⟩ := hy
          rw [ea z p hn]
          simp only [gX, List.drop_succ_cons, List.drop_zero, Bool.not_true, Bool.false_or]
          rw [← uQ p, ← uQ z]
          cases (p == []) <;> cases (z == []) <;> simp
        · rw [kB u hny (fun r hr => hy ⟨r, hr⟩) p hn]
          have h1 : isV (p ++ 32 :: u) = false := mI (c := 32) (by decide) (by simp)
          have h2 : ltW u = false := by
            unfold ltW
            cases u with
            | nil => rfl
            | cons c r =>
              have : (c == 60) = false := by rw [beq_eq_false_iff_ne]; intro e; exact hy ⟨r, by rw [e]⟩
              simp only [hdB, this, Bool.and_false]
          rw [h1, h2]
          simp
      | cons z q =>
        obtain ⟨w, rfl, hn2, _⟩ := vw hcu
        have h2 : 2 ≤ (p ++ 32 :: (y ++ 32 :: w)).count 32 := by
          simp only [List.count_append, List.count_cons_self]; omega
        have := eX (s := p ++ 32 :: (y ++ 32 :: w)) rfl h2
        rw [this]
        rfl
theorem SE (t : Str) : tw (60 :: t) = xJ (60 :: t) := by
  have hv := mo (b := 60) (r := t) (by decide)
  have hge : geP (60 :: t) = false := by cases t <;> simp [geP, List.isPrefixOf]
  have hlt : ltP (60 :: t) = true := by simp [ltP, List.isPrefixOf]
  have h42 : ((60 :: t : Str) == [42]) = false := by rw [beq_eq_false_iff_ne]; intro e; cases e
  have hR : xJ (60 :: t) = u5 (60 :: t) := by
    unfold xJ
    rw [h42]
    simp only [hdB, show ((60 : UInt8) == 94) = false from rfl, show ((60 : UInt8) == 126) = false from rfl, show ((60 : UInt8) == 62) = false from rfl, show ((60 : UInt8) == 60) = true from rfl, Bool.or_false, Bool.and_false, cond_false, Bool.or_true, Bool.and_true]
    have : decide (((60 :: t : Str).length : Int) > 0) = true := by apply decide_eq_true; simp only [List.length_cons]; omega
    rw [this]; rfl
  have hI : tw (60 :: t) = cond (isV t) (some ([], t)) none := by
    unfold tw xB sE
    rw [h42, hv, hge, hlt]
    simp only [cond_false, cond_true, Bool.or_true, Bool.true_or, Bool.not_true, Bool.false_and, Bool.or_false, List.drop_succ_cons, List.drop_zero]
    cases isV t <;> rfl
  rw [hI, hR]
  unfold u5
  cases hc : yi 32 t with
  | nil => exact absurd hc (yU 32 t)
  | cons p q =>
    have hw : yi 32 (60 :: t) = (60 :: p) :: q := yE 32 60 t p q (by decide) hc
    have hg : geW (60 :: p) = false := by
      unfold geW
      cases p with
      | nil => rfl
      | cons a b => simp
    rw [hw]
    cases q with
    | nil =>
      obtain ⟨rfl, hn⟩ := vH hc
      simp only [hg, cond_false, gX, List.drop_succ_cons, List.drop_zero, oF, Bool.true_and]
      rw [← uQ t]
      cases (t == []) <;> rfl
    | cons y q =>
      obtain ⟨u, rfl, hn, hcu⟩ := vw hc
      have h1 : isV (p ++ 32 :: u) = false := mI (c := 32) (by decide) (by simp)
      rw [h1]
      cases q with
      | nil => simp only [hg, cond_false]
      | cons z q => rfl
theorem Zv (x : UInt8) (r : Str) (hv : isV (x :: r) = false) (h42 : ((x :: r) == [42]) = false) (h94 : x ≠ 94) (h126 : x ≠ 126) (h60 : x ≠ 60) (h62 : x = 62 → ∀ t, r ≠ 61 :: t) : tw (x :: r) = xJ (x :: r) := by
  have e94 : (x == 94) = false := by rw [beq_eq_false_iff_ne]; exact h94
  have e126 : (x == 126) = false := by rw [beq_eq_false_iff_ne]; exact h126
  have e60 : (x == 60) = false := by rw [beq_eq_false_iff_ne]; exact h60
  have hge : geP (x :: r) = false := by
    unfold geP
    cases hg : ([62, 61] : Str).isPrefixOf (x :: r) with
    | false => rfl
    | true =>
      cases r with
      | nil => simp [List.isPrefixOf] at hg
      | cons y r =>
        simp only [List.isPrefixOf, Bool.and_true, Bool.and_eq_true, beq_iff_eq] at hg
        exact absurd (by rw [← hg.2]) (h62 hg.1.symm r)
  have hlt : ltP (x :: r) = false := by unfold ltP; rw [head_eq]; exact e60
  have hb : xB (x :: r) = w9 (x :: r) := by
    unfold xB
    rw [h42, hv, hge, hlt]
    simp only [hdB, e94, e126, cond_false, Bool.or_false]
  have ho : sE (x :: r) = false := by unfold sE; rw [h42, hge, hlt]; rfl
  rw [pY hb ho]
  unfold xJ
  rw [h42, qI hv]
  simp only [hdB, e94, e126, e60, Bool.or_false, Bool.and_false, cond_false]
  have hl : decide (((x :: r).length : Int) > 0) = true := by apply decide_eq_true; simp only [List.length_cons]; omega
  rw [hl, Bool.true_and]
  cases h : (x == 62) with
  | false => rfl
  | true =>
    have hx := eq_of_beq h
    subst hx
    obtain ⟨a, q, hp⟩ := fX (c := 62) (r := r) (by decide)
    rw [oX hp (by decide)]
    simp only [cond_true]
    unfold u5
    cases hc : yi 32 r with
    | nil => exact absurd hc (yU 32 r)
    | cons p w =>
      rw [yE 32 62 r p w (by decide) hc]
      have hg : geW (62 :: p) = false := by
        unfold geW
        cases p with
        | nil => rfl
        | cons y p =>
          have hr : ∃ t, r = y :: t := by
            cases w with
            | nil => obtain ⟨e, _⟩ := vH hc; exact ⟨p, e⟩
            | cons w1 w2 => obtain ⟨t, e, _⟩ := vw hc; exact ⟨p ++ 32 :: t, e⟩
          obtain ⟨t, rfl⟩ := hr
          have hy : y ≠ 61 := fun e => h62 rfl t (by rw [e])
          have : ((List.take 2 (62 :: y :: p)) == [62, 61]) = false := by
            rw [beq_eq_false_iff_ne]; intro e; simp at e; exact hy e
          rw [this, Bool.and_false]
      cases w with
      | nil =>
        have hl2 : ltW (62 :: p) = false := by unfold ltW; simp [hdB]
        simp only [hg, hl2, cond_false]
      | cons y w => cases w with
        | nil => simp only [hg, cond_false]
        | cons _ _ => rfl
theorem Tg : tw [] = xJ [] := by
  have hb : xB [] = w9 [] := by
    unfold xB
    rw [oE]; rfl
  rw [pY hb rfl, oW]
  unfold xJ
  rw [qI oE, oW]
  rfl
theorem Xw : tw [42] = xJ [42] := by
  unfold tw xJ xB sE
  rfl
/-- both take a part alike -/
theorem Xx (s : Str) : tw s = xJ s := by
  cases s with
  | nil => exact Tg
  | cons x r =>
    by_cases h42 : ((x :: r) == [42]) = true
    · rw [eq_of_beq h42]; exact Xw
    · have h42' : ((x :: r) == [42]) = false := by simpa using h42
      cases hv : isV (x :: r) with
      | true => exact Tf hv
      | false =>
        by_cases h1 : x = 94
        · exact eh x r (.inl h1)
        · by_cases h2 : x = 126
          · exact eh x r (.inr h2)
          · by_cases h3 : x = 60
            · subst h3; exact SE r
            · by_cases h4 : x = 62 ∧ ∃ t, r = 61 :: t
              · obtain ⟨rfl, t, rfl⟩ := h4; exact SF t
              · exact Zv x r hv h42' h1 h2 h3 fun hx t ht => h4 ⟨hx, t, ht⟩
/-- what a part gives has versions for its ends -/
theorem vE {a b c : Int} (h : (ye a b c == []) = false) : isV (ye a b c) = true := by
  have hz := uJ a b c
  rw [h] at hz
  have hn : (n9 a && (n9 b && n9 c)) = true := by
    cases hh : (n9 a && (n9 b && n9 c)) with
    | true => rfl
    | false => rw [hh] at hz; cases hz
  have hok : yv ⟨a, b, c, [[48]]⟩ = true := by rw [vz]; exact hn
  simp only [Bool.and_eq_true, pe] at hn
  obtain ⟨ha, hb, hc⟩ := hn
  obtain ⟨da, _⟩ := vG ha.1
  obtain ⟨db, _⟩ := vG hb.1
  obtain ⟨dc, _⟩ := vG hc.1
  have ht : ye a b c = (Lib.itoa a ++ 46 :: (Lib.itoa b ++ 46 :: Lib.itoa c)) ++ 45 :: [48] := by
    unfold ye yb w6 vc
    rw [hok]
    simp [Lib.join_one]
  have ra : zO (Lib.itoa a) = a := by
    obtain ⟨u, rfl⟩ : ∃ u : Nat, a = u := ⟨a.toNat, by omega⟩
    rw [Lib.itoa_nonneg]; exact (vu (by omega)).1
  have rb : zO (Lib.itoa b) = b := by
    obtain ⟨u, rfl⟩ : ∃ u : Nat, b = u := ⟨b.toNat, by omega⟩
    rw [Lib.itoa_nonneg]; exact (vu (by omega)).1
  have rc : zO (Lib.itoa c) = c := by
    obtain ⟨u, rfl⟩ : ∃ u : Nat, c = u := ⟨c.toNat, by omega⟩
    rw [Lib.itoa_nonneg]; exact (vu (by omega)).1
  have na := List.all_eq_true.1 da
  have nb := List.all_eq_true.1 db
  have nc := List.all_eq_true.1 dc
  have h45 : (45 : UInt8) ∉ Lib.itoa a ++ 46 :: (Lib.itoa b ++ 46 :: Lib.itoa c) := by
    simp only [List.mem_append, List.mem_cons, not_or]
    exact ⟨Uh na, by decide, Uh nb, by decide, Uh nc⟩
  have hm : xQ (ye a b c) = some ⟨a, b, c, [[48]]⟩ := by
    unfold xQ
    rw [ht, mz 45 [48] _ h45]
    simp only
    rw [uy, oJ 46 _ (Ug na), uy, oJ 46 _ (Ug nb), oJ 46 _ (Ug nc)]
    simp only [List.cons_append, List.nil_append, cond_true]
    rw [ra, rb, rc]; rfl
  unfold isV zA
  rw [hm]
  simp only
  have : (yb ⟨a, b, c, [[48]]⟩ == ye a b c) = true := by unfold ye; simp
  rw [this]; rfl
theorem Zp {s : Str} {b : Bd} (h : x6 s = some b) : isV b.1 = true ∧ isV b.2 = true := by
  unfold x6 at h
  cases hv : (zA s).2 with
  | false => rw [hv] at h; cases h
  | true =>
    rw [hv] at h
    cases hh : (uG (zA s).1 == []) with
    | true => rw [hh] at h; cases h
    | false =>
      rw [hh] at h
      simp only [Bool.not_false, Bool.and_self, cond_true] at h
      injection h with h
      subst h
      refine ⟨hv, ?_⟩
      show isV (uG (zA s).1) = true
      unfold uG at hh ⊢
      cases hp : ((zA s).1.pre == []) with
      | true => rw [hp] at hh; simp only [cond_true] at hh ⊢; exact vE hh
      | false =>
        rw [hp] at hh
        simp only [cond_false] at hh ⊢
        obtain ⟨r1, r2⟩ := lp hv (fun e => by rw [e] at hp; cases hp)
        cases hk : yv (s7 (zA s).1) with
        | false => rw [r2, hk] at hh; cases hh
        | true =>
          rw [r2, hk]
          simp only [cond_true]
          unfold isV
          rw [r1, hk]; rfl
theorem Z7 {s : Str} {b : Bd} (h : wK s = some b) : isV b.1 = true ∧ isV b.2 = true := by
  have hI := h
  rw [oV] at hI
  refine ⟨?_, ?_⟩
  · unfold wK at h
    cases h1 : (!(isV (wo s)) || (!(B2 ((yi 46 s).length : Int) 1 2) || !((zA (wo s)).1.pre == []))) with
    | true => rw [h1] at h; cases h
    | false =>
      rw [h1] at h
      simp only [cond_false] at h
      cases h2 : (vi (zA (wo s)).1 (((yi 46 s).length : Int) - 1)).2 with
      | false => rw [h2] at h; cases h
      | true =>
        rw [h2] at h
        injection h with h
        subst h
        simp only [Bool.or_eq_false_iff, Bool.not_eq_false'] at h1
        exact h1.1
  · unfold u6 at hI
    split at hI
    · rename_i a _
      cases h1 : (decide (0 ≤ zO a) && !(ye (zO a + 1) 0 0 == [])) with
      | false => rw [h1] at hI; cases hI
      | true =>
        rw [h1] at hI
        injection hI with hI
        subst hI
        simp only [Bool.and_eq_true, Bool.not_eq_true'] at h1
        exact vE h1.2
    · rename_i a b _
      cases h1 : ((decide (0 ≤ zO a) && decide (0 ≤ zO b)) && !(ye (zO a) (zO b + 1) 0 == [])) with
      | false => rw [h1] at hI; cases hI
      | true =>
        rw [h1] at hI
        injection hI with hI
        subst hI
        simp only [Bool.and_eq_true, Bool.not_eq_true'] at h1
        exact vE h1.2
    · cases hI
theorem uE {α : Type} {b : Bool} {x y : α} (h : cond b (some x) none = some y) : b = true ∧ x = y := by
  cases b with
  | false => cases h
  | true => injection h with h; exact ⟨rfl, h⟩
theorem Xa {s : Str} {b : Bd} (h : xJ s = some b) : isE b.1 = true ∧ isE b.2 = true := by
  have ofV : ∀ {t : Str}, isV t = true → isE t = true := fun {t} h => by unfold isE; rw [h]; rfl
  unfold xJ at h
  cases h1 : (s == [42]) with
  | true => rw [h1] at h; injection h with h; subst h; exact ⟨oF, oF⟩
  | false =>
    rw [h1] at h
    simp only [cond_false] at h
    cases h2 : (decide ((s.length : Int) > 1) && (hdB 94 s || hdB 126 s)) with
    | true =>
      rw [h2] at h
      simp only [cond_true] at h
      cases hv : isV (s.drop 1) with
      | false => rw [hv] at h; cases h
      | true =>
        rw [hv] at h
        simp only [Bool.not_true, cond_false] at h
        obtain ⟨_, _, ho, _⟩ := yu hv
        have hh : hdB 126 s = !(hdB 94 s) := by
          cases s with
          | nil => simp [hdB] at h2
          | cons x r =>
            simp only [hdB, Bool.and_eq_true, Bool.or_eq_true, beq_iff_eq] at h2
            rcases h2.2 with e | e <;> rw [e] <;> rfl
        rw [hh, nM ho] at h
        have key : ∀ z : Str, cond (z == []) none (some (s.drop 1, z)) = some b → (∀ (hz : (z == []) = false), isV z = true) → isE b.1 = true ∧ isE b.2 = true := fun z hz hzv => by
          cases hn : (z == []) with
          | true => rw [hn] at hz; cases hz
          | false =>
            rw [hn] at hz
            injection hz with hz
            subst hz
            exact ⟨ofV hv, ofV (hzv hn)⟩
        refine key _ h fun hz => ?_
        cases hb : hdB 94 s with
        | false => rw [hb] at hz; simp only [cond_false] at hz ⊢; exact vE hz
        | true =>
          rw [hb] at hz
          simp only [cond_true] at hz ⊢
          unfold pj at hz ⊢
          cases h5 : decide ((zA (s.drop 1)).1.maj > 0) with
          | true => rw [h5] at hz; simp only [cond_true] at hz ⊢; exact vE hz
          | false =>
            rw [h5] at hz
            simp only [cond_false] at hz ⊢
            cases h6 : ((zA (s.drop 1)).1.min == 0) with
            | true => rw [h6] at hz; simp only [cond_true] at hz ⊢; exact vE hz
            | false => rw [h6] at hz; simp only [cond_false] at hz ⊢; exact vE hz
    | false =>
      rw [h2] at h
      simp only [cond_false] at h
      cases h3 : (decide ((s.length : Int) > 0) && (hdB 62 s || hdB 60 s)) with
      | true =>
        rw [h3] at h
        simp only [cond_true] at h
        unfold u5 at h
        split at h
        · rename_i x _
          cases hg : geW x with
          | true =>
            rw [hg] at h
            obtain ⟨q1, q2⟩ := uE h
            subst q2
            simpa using q1
          | false =>
            rw [hg] at h
            simp only [cond_false] at h
            cases hl : ltW x with
            | false => rw [hl] at h; cases h
            | true =>
              rw [hl] at h
              obtain ⟨q1, q2⟩ := uE h
              subst q2
              simpa using q1
        · rename_i x y _
          cases hg : geW x with
          | false => rw [hg] at h; cases h
          | true =>
            rw [hg] at h
            simp only [cond_true] at h
            cases hl : ltW y with
            | false => rw [hl] at h; cases h
            | true =>
              rw [hl] at h
              obtain ⟨q1, q2⟩ := uE h
              subst q2
              simpa using q1
        · cases h
      | false =>
        rw [h3] at h
        simp only [cond_false] at h
        cases hx : x6 s with
        | some x =>
          rw [hx] at h
          injection h with h
          subst h
          obtain ⟨q1, q2⟩ := Zp hx
          exact ⟨ofV q1, ofV q2⟩
        | none =>
          rw [hx] at h
          obtain ⟨q1, q2⟩ := Z7 h
          exact ⟨ofV q1, ofV q2⟩
end Go.Proofs.YtmcephnfcciloaaGreatDoor
/- Ranges, plain: a text cut at ' || ', the whole. Conditions: none. -/
namespace Go.Proofs.YtmcephnfcciloaaGreatDoor
open E
set_option linter.unusedVariables false
set_option linter.unusedSimpArgs false
set_option maxRecDepth 100000
def wF : Str := [32, 124, 124, 32]
/-- the parts between; so many bytes are passed over first -/
def yV : Nat → Str → List Str
  | _, [] => [[]]
  | 0, x :: r => if wF.isPrefixOf (x :: r) = true then [] :: yV 3 r else match yV 0 r with
    | p :: q => (x :: p) :: q
    | [] => [[x]]
  | k + 1, _ :: r => yV k r
theorem qw : ∀ (k : Nat) (s : Str), yV k s ≠ []
  | k, [] => by cases k <;> simp [yV]
  | 0, x :: r => by
    unfold yV
    split
    · simp
    · split <;> simp
  | k + 1, x :: r => by rw [yV]; exact qw k r
theorem kA : ∀ (k : Nat) (s : Str), k ≤ s.length → yV k s = yV 0 (s.drop k)
  | 0, s, _ => rfl
  | k + 1, [], h => by simp at h
  | k + 1, x :: r, h => by rw [yV, kA k r (by simpa using h)]; rfl
theorem TS {s : Str} (h : wF.isPrefixOf s = true) : 4 ≤ s.length := by
  have : ∀ p s : Str, p.isPrefixOf s = true → p.length ≤ s.length := fun p => by
    induction p with
    | nil => intro s _; simp
    | cons a p ih =>
      intro s h
      cases s with
      | nil => simp [List.isPrefixOf] at h
      | cons b s =>
        simp only [List.isPrefixOf, Bool.and_eq_true] at h
        have := ih s h.2
        simp only [List.length_cons]; omega
  exact this wF s h
theorem mv (x : UInt8) (r : Str) (h : wF.isPrefixOf (x :: r) = true) : yV 0 (x :: r) = [] :: yV 3 r := by rw [yV, if_pos h]
theorem uf (x : UInt8) (r p : Str) (q : List Str) (h : wF.isPrefixOf (x :: r) = false) (e : yV 0 r = p :: q) : yV 0 (x :: r) = (x :: p) :: q := by
  rw [yV, if_neg (by rw [h]; simp), e]
theorem sZ : ∀ (n : Nat) (s : Str), s.length ≤ n → Lib.split s wF = yV 0 s
  | n, [], _ => by
    unfold Lib.split
    rw [Lib.count_miss (by simp [Lib.index, wF])]; rfl
  | 0, x :: r, h => by simp at h
  | n + 1, x :: r, h => by
    simp only [List.length_cons] at h
    cases hp : wF.isPrefixOf (x :: r) with
    | true =>
      have h4 := TS hp
      simp only [List.length_cons] at h4
      have hi : Lib.index (x :: r) wF = ((0 : Nat) : Int) := by rw [Lib.index, if_pos hp]; rfl
      have ih := sZ n (r.drop 3) (by rw [List.length_drop]; omega)
      unfold Lib.split at ih ⊢
      rw [Lib.count_hit (by simp [wF]) hi, Nat.add_comm, Lib.splitK, hi]
      rw [mv x r hp, kA 3 r (by omega), ← ih]
      simp [wF]
    | false =>
      have ih := sZ n r (by omega)
      have hix : Lib.index (x :: r) wF = if Lib.index r wF == -1 then -1 else Lib.index r wF + 1 := by
        rw [Lib.index, hp]; simp
      unfold Lib.split at ih ⊢
      by_cases hm : Lib.index r wF = -1
      · rw [Lib.count_miss hm] at ih
        rw [Lib.count_miss (by rw [hix, hm]; rfl), Lib.splitK]
        rw [Lib.splitK] at ih
        exact (uf x r r [] hp ih.symm).symm
      · have hge := Lib.index_ge r wF
        obtain ⟨j, hj⟩ : ∃ j : Nat, Lib.index r wF = j := ⟨(Lib.index r wF).toNat, by omega⟩
        have hb : (((j : Nat) : Int) == -1) = false := by rw [beq_eq_false_iff_ne]; omega
        have hb2 : (((j + 1 : Nat) : Int) == -1) = false := by rw [beq_eq_false_iff_ne]; omega
        have hj2 : Lib.index (x :: r) wF = ((j + 1 : Nat) : Int) := by rw [hix, hj, hb]; simp
        rw [Lib.count_hit (by simp [wF]) hj, Nat.add_comm, Lib.splitK, hj, hb] at ih
        rw [Lib.count_hit (by simp [wF]) hj2, Nat.add_comm, Lib.splitK, hj2, hb2]
        simp only [Bool.false_eq_true, if_false, Int.toNat_natCast, Nat.add_zero] at ih ⊢
        rw [List.take_succ_cons, show j + 1 + wF.length = (j + wF.length) + 1 by omega, List.drop_succ_cons]
        exact (uf x r _ _ hp ih.symm).symm
theorem ug : ∀ (k : Nat) (s : Str), yk (yV k s) + (yV k s).length ≤ s.length + 1
  | k, [] => by cases k <;> simp [yV, yk]
  | 0, x :: r => by
    cases hp : wF.isPrefixOf (x :: r) with
    | true =>
      have ih := ug 3 r
      rw [mv x r hp]
      simp only [yk, List.length_cons, List.length_nil] at ih ⊢; omega
    | false =>
      have ih := ug 0 r
      cases hc : yV 0 r with
      | nil => exact absurd hc (qw 0 r)
      | cons p q =>
        rw [hc] at ih
        rw [uf x r p q hp hc]
        simp only [yk, List.length_cons] at ih ⊢; omega
  | k + 1, x :: r => by
    have ih := ug k r
    rw [yV]
    simp only [List.length_cons]; omega
def vO : List Str → Option (List Bd)
  | [] => some []
  | p :: r => match xJ p with
    | some b => (match vO r with | some bs => some (b :: bs) | none => none)
    | none => none
def wm (s : Str) : Option (List Bd) := cond (decide ((s.length : Int) > 200) || decide (((yV 0 s).length : Int) > 8)) none (vO (yV 0 s))
def xk (l : List Bd) : Bool := (l.all fun b => isE b.1 && isE b.2) && B2 (l.length : Int) 1 8
theorem sB : ∀ (l : List Str) (r : List Bd), vO l = some r → (r.all fun b => isE b.1 && isE b.2) = true ∧ r.length = l.length
  | [], r, h => by cases h; exact ⟨rfl, rfl⟩
  | p :: l, r, h => by
    unfold vO at h
    cases hp : xJ p with
    | none => rw [hp] at h; cases h
    | some b =>
      rw [hp] at h
      simp only at h
      cases hl : vO l with
      | none => rw [hl] at h; cases h
      | some bs =>
        rw [hl] at h
        cases h
        obtain ⟨h1, h2⟩ := sB l bs hl
        obtain ⟨q1, q2⟩ := Xa hp
        refine ⟨?_, by simp [h2]⟩
        simp only [List.all_cons, q1, q2, h1]; rfl
/-- as the implementation asks -/
def jM (s : Str) : Option (List Bd) := cond (decide ((s.length : Int) > 200)) none (match vO (yV 0 s) with | some l => cond (xk l) (some l) none | none => none)
theorem ng (s : Str) : jM s = wm s := by
  unfold jM wm
  cases decide ((s.length : Int) > 200) with
  | true => rfl
  | false =>
    simp only [cond_false, Bool.false_or]
    cases ha : vO (yV 0 s) with
    | none => cases decide (((yV 0 s).length : Int) > 8) <;> rfl
    | some l =>
      obtain ⟨h1, h2⟩ := sB _ _ ha
      have hn : 1 ≤ (yV 0 s).length := by
        cases hc : yV 0 s with
        | nil => exact absurd hc (qw 0 s)
        | cons p q => simp
      have hr : xk l = !decide (((yV 0 s).length : Int) > 8) := by
        unfold xk B2
        rw [h1, h2, Bool.true_and, decide_eq_true (show (1 : Int) ≤ ((yV 0 s).length : Int) by omega), Bool.true_and]
        by_cases h : ((yV 0 s).length : Int) ≤ 8
        · rw [decide_eq_true h, decide_eq_false (by omega)]; rfl
        · rw [decide_eq_false h, decide_eq_true (by omega)]; rfl
      simp only
      rw [hr]
      cases decide (((yV 0 s).length : Int) > 8) <;> rfl
end Go.Proofs.YtmcephnfcciloaaGreatDoor
/- The library's searches, at fields. Conditions: those of each lemma. -/
namespace Go.Proofs.YtmcephnfcciloaaGreatDoor
open E
set_option linter.unusedSimpArgs false
set_option linter.unusedVariables false
set_option maxRecDepth 100000
/-- the first place at which something holds -/
def sW {α : Type} (p : α → Bool) : List α → Nat → Option Nat
  | [], _ => none
  | x :: r, n => if p x = true then some n else sW p r (n + 1)
def ixI : Option Nat → Int
  | some n => (n : Int)
  | none => -1
theorem fO {α : Type} (p : α → Bool) : ∀ (l : List α) (n : Nat), (sW p l n).isSome = l.any p
  | [], _ => rfl
  | x :: r, n => by
    simp only [sW, List.any_cons]
    split
    · rename_i h; simp [h]
    · rename_i h; rw [fO p r (n + 1)]; simp [h]
end Go.Proofs.YtmcephnfcciloaaGreatDoor
/- Packs and graphs, plain. Conditions: none. -/
namespace Go.Proofs.YtmcephnfcciloaaGreatDoor
open E
set_option linter.unusedVariables false
set_option linter.unusedSimpArgs false
set_option maxRecDepth 100000
def Ue : Str := [115, 104, 97, 49]
def je : Str := [115, 104, 97, 50, 53, 54]
def h1S : Str := [104, 49]
def jd : Str := [115, 104, 97, 53, 49, 50]
def te (a : Str) : Int := cond (a == Ue) 20 (cond (a == je || a == h1S) 32 (cond (a == jd) 64 (-1)))
/-- is a text above the one ahead, if there is one? -/
def vR (prev : Option Str) (s : Str) : Bool := match prev with
  | none => true
  | some p => Op.bytesLess p s
def vf : Option Str → List zZ → Bool
  | _, [] => true
  | prev, s :: r => (((s.bytes.length : Int) == te s.alg) && vR prev s.alg) && vf (some s.alg) r
def keyOf (p : zL) : Str := (p.name ++ [64]) ++ p.version
def Kh (ps : List zL) (k : Str) : Bool := ps.any fun p => keyOf p == k
def j8 (ps : List zL) (k : Str) : Option Nat := sW (fun p => keyOf p == k) ps 0
def xX (ps : List zL) : Option Str → List Str → Bool
  | _, [] => true
  | prev, k :: r => (Kh ps k && vR prev k) && xX ps (some k) r
def rK (p : zL) : Bool := vg p.name && ((x6 p.version).isSome && (wv p.source && vf none p.sums))
def wT (ps : List zL) : Option Str → List zL → Bool
  | _, [] => true
  | prev, p :: r => (rK p && (vR prev (keyOf p) && xX ps none p.needs)) && wT ps (some (keyOf p)) r
def w5 (g : zU) : Bool := wT g.packs none g.packs && (decide ((g.packs.length : Int) ≤ 40) && xX g.packs none g.top)
theorem VW {α : Type} (p : α → Bool) (l : List α) : decide (ixI (sW p l 0) < 0) = !(l.any p) := by
  rw [← fO p l 0]
  cases sW p l 0 with
  | none => rfl
  | some n =>
    have h : ¬ ((n : Int) < 0) := by omega
    show decide ((n : Int) < 0) = false
    exact decide_eq_false h
/-- the one ahead of a place -/
theorem uu {α : Type} (f : α → List T) (pre : List α) (q : α) (rest : List α) : uD ((pre ++ [q] ++ rest).map f) (((pre ++ [q]).length : Int) - 1) = some (f q) := by
  unfold uD
  rw [if_pos (by simp)]
  have e : (((pre ++ [q]).length : Int) - 1).toNat = pre.length := by simp
  rw [e]
  simp
theorem wy {α : Type} (f : α → List T) (pre : List α) (x : α) (rest : List α) : ((pre ++ x :: rest).map f)[pre.length]? = some (f x) := by simp
theorem wh {α : Type} (l : List α) : l = [] ∨ ∃ p q, l = p ++ [q] := by
  rcases List.eq_nil_or_concat l with h | ⟨p, q, h⟩
  · exact .inl h
  · exact .inr ⟨p, q, by rw [h, List.concat_eq_append]⟩
end Go.Proofs.YtmcephnfcciloaaGreatDoor
/- Ranges, by the implementation. Conditions: those of each lemma. -/
namespace Go.Proofs.YtmcephnfcciloaaGreatDoor
open E
set_option linter.unusedSimpArgs false
set_option linter.unusedVariables false
set_option maxRecDepth 100000
/-- bounds as the evaluator sees them -/
def bdT (l : List Bd) : List (List T) := l.map fun b => [.str b.1, .str b.2]
theorem xM (l : List Bd) : (bdT l).length = l.length := by simp [bdT]
theorem aK (a b : List Bd) : bdT (a ++ b) = bdT a ++ bdT b := by simp [bdT]
def bdV (b : Bd) : V := .agg [.t (.str b.1), .t (.str b.2)]
theorem VM (s : Str) : (!(s == []) && !(isV s)) = !(isE s) := by
  unfold isE
  cases (s == []) <;> cases isV s <;> rfl
theorem qy (s : Str) (hl : s.length ≤ 1048700) : zE (EV Tryz.prog pol) 130 [.t (.str s)] = some (.t (.bool (isV s))) := by
  have h := oq s hl
  unfold rvT at h
  unfold isV
  generalize (zA s).1 = v at *
  generalize (zA s).2 = ok at *
  simp only [Ver.enc, List.map_cons, List.map_nil] at h
  apply zu
  refine zw rfl Tryz.func130 rfl (by kernel_rfl) ?_
  unfold Tryz.f130
  simp (disch := ((try simp only [LL]); omega)) only [↓GO, ↓DRW, GA, ren, zB, zf, refs, zb, cst, zl, zH, z7, E.load, E.store, zG, isC, bin, zI, zJ, una, z8, za, zh, zK, blt, fnV, asArg, zd, zn, zo, zj, zi, zg, zk, zr, z6, zD, zF, mkS, zc, unN, zM, zm, zy, zC, ze, zN, zq, GS, Int.reduceToNat, Nat.reduceGT, ↓reduceIte, Nat.reduceAdd, Nat.reduceMul, Nat.reduceSub, Nat.reduceEqDiff, Nat.reduceLeDiff, Nat.reduceLT, Nat.reduceBEq, Int.reduceBEq, Int.reduceBNe, Int.reduceEq, Int.reduceLT, Int.reduceLE, Int.reduceGT, Int.reduceNeg, reduceCtorEq, GZ, h]
theorem VQ (l : List Bd) (hl : l.length ≤ 4194304) (hb : ∀ b ∈ l, b.1.length ≤ 1048700 ∧ b.2.length ≤ 1048700) : ∀ (rest pre : List Bd), l = pre ++ rest →
    EV Tryz.prog pol (.loop 98 26 0 [.t (.list 2 (bdT l)), .t (.list 2 (bdT l)), .t (.int .i64 (l.length : Int)), .t (.int .i64 (pre.length : Int))] []) = some (cond (rest.all fun b => isE b.1 && isE b.2) (.loop (.exit 0) [.t (.list 2 (bdT l)), .bad] []) (.loop .ret [.t (.list 2 (bdT l)), .t (.bool false)] []))
  | [], pre, hs => by
    have c : decide ((pre.length : Int) < (l.length : Int)) = false := by simp [hs]
    simp only [List.all_nil, cond_true]
    refine zz Tryz.func98 rfl rfl ?_
    simp (disch := ((try simp only [LL]); omega)) only [↓GO, ↓DRW, GA, ren, zB, zf, refs, zb, cst, zl, zH, z7, E.load, E.store, zG, isC, bin, zI, zJ, una, z8, za, zh, zK, blt, fnV, asArg, zd, zn, zo, zj, zi, zg, zk, zr, z6, zD, zF, mkS, zc, unN, zM, zm, zy, zC, ze, zN, zq, GS, Int.reduceToNat, Nat.reduceGT, ↓reduceIte, Nat.reduceAdd, Nat.reduceMul, Nat.reduceSub, Nat.reduceEqDiff, Nat.reduceLeDiff, Nat.reduceLT, Nat.reduceBEq, Int.reduceBEq, Int.reduceBNe, Int.reduceEq, Int.reduceLT, Int.reduceLE, Int.reduceGT, Int.reduceNeg, reduceCtorEq, GZ, c]
  | x :: rest, pre, hs => by
    have c : decide ((pre.length : Int) < (l.length : Int)) = true := by simp [hs]; omega
    have hget : (bdT l)[pre.length]? = some [.str x.1, .str x.2] := by rw [hs]; exact wy (fun b : Bd => [T.str b.1, T.str b.2]) pre x rest
    have hlen : pre.length + rest.length + 1 ≤ l.length := by rw [hs]; simp; omega
    have hx := hb x (by rw [hs]; simp)
    have h1 := qy x.1 hx.1
    have h2 := qy x.2 hx.2
    have e1 := VM x.1
    have e2 := VM x.2
    have IH := VQ l hl hb rest (pre ++ [x]) (by rw [hs]; simp)
    rw [show ((pre ++ [x]).length : Int) = (pre.length : Int) + 1 by simp] at IH
    clear hs hb
    rw [List.all_cons]
    generalize isE x.1 = a1 at *
    generalize isE x.2 = a2 at *
    generalize isV x.1 = b1 at *
    generalize isV x.2 = b2 at *
    cases h3 : (x.1 == []) <;> cases h4 : (x.2 == []) <;> cases b1 <;> cases b2 <;> rw [h3] at e1 <;> rw [h4] at e2 <;> cases a1 <;> cases a2 <;> first
      | (exfalso; revert e1; decide)
      | (exfalso; revert e2; decide)
      | (refine zz Tryz.func98 rfl rfl ?_; simp (disch := ((try simp only [LL]); omega)) only [↓GO, ↓DRW, GA, ren, zB, zf, refs, zb, cst, zl, zH, z7, E.load, E.store, zG, isC, bin, zI, zJ, una, z8, za, zh, zK, blt, fnV, asArg, zd, zn, zo, zj, zi, zg, zk, zr, z6, zD, zF, mkS, zc, unN, zM, zm, zy, zC, ze, zN, zq, GS, Int.reduceToNat, Nat.reduceGT, ↓reduceIte, Nat.reduceAdd, Nat.reduceMul, Nat.reduceSub, Nat.reduceEqDiff, Nat.reduceLeDiff, Nat.reduceLT, Nat.reduceBEq, Int.reduceBEq, Int.reduceBNe, Int.reduceEq, Int.reduceLT, Int.reduceLE, Int.reduceGT, Int.reduceNeg, reduceCtorEq, GZ, c, hget, h1, h2, h3, h4, bne, zx, xM, IH])
theorem U5 (l : List Bd) (hl : l.length ≤ 4194304) (hb : ∀ b ∈ l, b.1.length ≤ 1048700 ∧ b.2.length ≤ 1048700) : zE (EV Tryz.prog pol) 98 [.t (.list 2 (bdT l))] = some (.t (.bool (xk l))) := by
  have L := VQ l hl hb l [] rfl
  have h := uA (l.length : Int) 1 8
  simp only [List.length_nil, Int.natCast_zero] at L
  unfold xk
  generalize B2 (l.length : Int) 1 8 = b2 at *
  cases ha : (l.all fun b => isE b.1 && isE b.2) <;> rw [ha] at L <;> simp only [cond_true, cond_false] at L
  all_goals
    apply zu
    refine zw rfl Tryz.func98 rfl (by kernel_rfl) ?_
    unfold Tryz.f98
    simp (disch := ((try simp only [LL]); omega)) only [↓GO, ↓DRW, GA, ren, zB, zf, refs, zb, cst, zl, zH, z7, E.load, E.store, zG, isC, bin, zI, zJ, una, z8, za, zh, zK, blt, fnV, asArg, zd, zn, zo, zj, zi, zg, zk, zr, z6, zD, zF, mkS, zc, unN, zM, zm, zy, zC, ze, zN, zq, GS, Int.reduceToNat, Nat.reduceGT, ↓reduceIte, Nat.reduceAdd, Nat.reduceMul, Nat.reduceSub, Nat.reduceEqDiff, Nat.reduceLeDiff, Nat.reduceLT, Nat.reduceBEq, Int.reduceBEq, Int.reduceBNe, Int.reduceEq, Int.reduceLT, Int.reduceLE, Int.reduceGT, Int.reduceNeg, reduceCtorEq, GZ, L, h, xM]
theorem ZA (s : Str) (hl : s.length ≤ 1048700) : zE (EV Tryz.prog pol) 132 [.t (.str s)] = some (.tup [bdV (w9 s).1, .t (.bool (w9 s).2)]) := by
  have h1 := qx s [46] (by omega) (by simp)
  rw [r4] at h1
  have hbk := xI 46 s
  unfold w9
  match hp : yi 46 s with
  | [] => exact absurd hp (yU 46 s)
  | [a] =>
    rw [hp] at h1 hbk
    simp only [yk, List.length_cons, List.length_nil] at hbk
    have d1 := mQ a (by omega)
    have hr := xn a
    have v1 := uB ⟨zO a, 0, 0, []⟩ (by simp [Ver.sm, yk])
    have v2 := mP (zO a) 1 0
    have v3 := mP (zO a + 1) 0 0
    have e0 : decide (zO a < 0) = !decide (0 ≤ zO a) := by
      by_cases h : zO a < 0
      · rw [decide_eq_true h, decide_eq_false (by omega)]; rfl
      · rw [decide_eq_false h, decide_eq_true (by omega)]; rfl
    simp only
    generalize yb ⟨zO a, 0, 0, []⟩ = t1 at *
    generalize ye (zO a) 1 0 = t2 at *
    generalize ye (zO a + 1) 0 0 = t3 at *
    generalize zO a = ra at *
    simp only [xj, yf, Ver.enc, List.map_cons, List.map_nil, bdV] at h1 v1 ⊢
    cases hd : decide (0 ≤ ra) <;> rw [hd] at e0 <;> simp only [Bool.not_true, Bool.not_false] at e0
    · have L : EV Tryz.prog pol (.loop 132 250 0 [.ptr 0 0 0, .t (.list 1 [[.str a]]), .sl 1 0 2 (some 2), .t (.list 1 [[.str a]]), .t (.int .i64 1), .t (.int .i64 0)] [.vs 2 [[.t (.str []), .t (.str [])]], .ts 1 [[.int .i64 0], [.int .i64 0]]])
          = some (.loop .ret [.ptr 0 0 0, .t (.bool false), .t (.list 1 [[.str a]]), .sl 1 0 2 (some 2)] [.vs 2 [[.t (.str []), .t (.str [])]], .ts 1 [[.int .i64 ra], [.int .i64 0]]]) := by
        refine zz Tryz.func132 rfl rfl ?_
        simp (disch := ((try simp only [LL]); omega)) only [↓GO, ↓DRW, GA, ren, zB, zf, refs, zb, cst, zl, zH, z7, E.load, E.store, zG, isC, bin, zI, zJ, una, z8, za, zh, zK, blt, fnV, asArg, zd, zn, zo, zj, zi, zg, zk, zr, z6, zD, zF, mkS, zc, unN, zM, zm, zy, zC, ze, zN, zq, GS, Int.reduceToNat, Nat.reduceGT, ↓reduceIte, Nat.reduceAdd, Nat.reduceMul, Nat.reduceSub, Nat.reduceEqDiff, Nat.reduceLeDiff, Nat.reduceLT, Nat.reduceBEq, Int.reduceBEq, Int.reduceBNe, Int.reduceEq, Int.reduceLT, Int.reduceLE, Int.reduceGT, Int.reduceNeg, reduceCtorEq, GZ, d1, e0, zx, zY]
      apply zu
      refine zw rfl Tryz.func132 rfl (by kernel_rfl) ?_
      unfold Tryz.f132
      simp (disch := ((try simp only [LL]); omega)) only [↓GO, ↓DRW, GA, ren, zB, zf, refs, zb, cst, zl, zH, z7, E.load, E.store, zG, isC, bin, zI, zJ, una, z8, za, zh, zK, blt, fnV, asArg, zd, zn, zo, zj, zi, zg, zk, zr, z6, zD, zF, mkS, zc, unN, zM, zm, zy, zC, ze, zN, zq, GS, Int.reduceToNat, Nat.reduceGT, ↓reduceIte, Nat.reduceAdd, Nat.reduceMul, Nat.reduceSub, Nat.reduceEqDiff, Nat.reduceLeDiff, Nat.reduceLT, Nat.reduceBEq, Int.reduceBEq, Int.reduceBNe, Int.reduceEq, Int.reduceLT, Int.reduceLE, Int.reduceGT, Int.reduceNeg, reduceCtorEq, GZ, h1, L, zY]
    · have L : EV Tryz.prog pol (.loop 132 250 0 [.ptr 0 0 0, .t (.list 1 [[.str a]]), .sl 1 0 2 (some 2), .t (.list 1 [[.str a]]), .t (.int .i64 1), .t (.int .i64 0)] [.vs 2 [[.t (.str []), .t (.str [])]], .ts 1 [[.int .i64 0], [.int .i64 0]]])
          = some (.loop (.exit 0) [.ptr 0 0 0, .bad, .t (.list 1 [[.str a]]), .sl 1 0 2 (some 2)] [.vs 2 [[.t (.str []), .t (.str [])]], .ts 1 [[.int .i64 ra], [.int .i64 0]]]) := by
        refine zz Tryz.func132 rfl rfl ?_
        simp (disch := ((try simp only [LL]); omega)) only [↓GO, ↓DRW, GA, ren, zB, zf, refs, zb, cst, zl, zH, z7, E.load, E.store, zG, isC, bin, zI, zJ, una, z8, za, zh, zK, blt, fnV, asArg, zd, zn, zo, zj, zi, zg, zk, zr, z6, zD, zF, mkS, zc, unN, zM, zm, zy, zC, ze, zN, zq, GS, Int.reduceToNat, Nat.reduceGT, ↓reduceIte, Nat.reduceAdd, Nat.reduceMul, Nat.reduceSub, Nat.reduceEqDiff, Nat.reduceLeDiff, Nat.reduceLT, Nat.reduceBEq, Int.reduceBEq, Int.reduceBNe, Int.reduceEq, Int.reduceLT, Int.reduceLE, Int.reduceGT, Int.reduceNeg, reduceCtorEq, GZ, d1, e0, zx, zY, Int.reduceAdd]
        refine zz Tryz.func132 rfl rfl ?_
        simp (disch := ((try simp only [LL]); omega)) only [↓GO, ↓DRW, GA, ren, zB, zf, refs, zb, cst, zl, zH, z7, E.load, E.store, zG, isC, bin, zI, zJ, una, z8, za, zh, zK, blt, fnV, asArg, zd, zn, zo, zj, zi, zg, zk, zr, z6, zD, zF, mkS, zc, unN, zM, zm, zy, zC, ze, zN, zq, GS, Int.reduceToNat, Nat.reduceGT, ↓reduceIte, Nat.reduceAdd, Nat.reduceMul, Nat.reduceSub, Nat.reduceEqDiff, Nat.reduceLeDiff, Nat.reduceLT, Nat.reduceBEq, Int.reduceBEq, Int.reduceBNe, Int.reduceEq, Int.reduceLT, Int.reduceLE, Int.reduceGT, Int.reduceNeg, reduceCtorEq, GZ, zY]
      apply zu
      refine zw rfl Tryz.func132 rfl (by kernel_rfl) ?_
      unfold Tryz.f132
      simp (disch := ((try simp only [LL]); omega)) only [↓GO, ↓DRW, GA, ren, zB, zf, refs, zb, cst, zl, zH, z7, E.load, E.store, zG, isC, bin, zI, zJ, una, z8, za, zh, zK, blt, fnV, asArg, zd, zn, zo, zj, zi, zg, zk, zr, z6, zD, zF, mkS, zc, unN, zM, zm, zy, zC, ze, zN, zq, GS, Int.reduceToNat, Nat.reduceGT, ↓reduceIte, Nat.reduceAdd, Nat.reduceMul, Nat.reduceSub, Nat.reduceEqDiff, Nat.reduceLeDiff, Nat.reduceLT, Nat.reduceBEq, Int.reduceBEq, Int.reduceBNe, Int.reduceEq, Int.reduceLT, Int.reduceLE, Int.reduceGT, Int.reduceNeg, reduceCtorEq, GZ, h1, L, v1, v2, v3, zx, Int.reduceAdd, yf, zY]
      refine yQ (by kernel_rfl) ?_
      simp (disch := ((try simp only [LL]); omega)) only [↓GO, ↓DRW, GA, ren, zB, zf, refs, zb, cst, zl, zH, z7, E.load, E.store, zG, isC, bin, zI, zJ, una, z8, za, zh, zK, blt, fnV, asArg, zd, zn, zo, zj, zi, zg, zk, zr, z6, zD, zF, mkS, zc, unN, zM, zm, zy, zC, ze, zN, zq, GS, Int.reduceToNat, Nat.reduceGT, ↓reduceIte, Nat.reduceAdd, Nat.reduceMul, Nat.reduceSub, Nat.reduceEqDiff, Nat.reduceLeDiff, Nat.reduceLT, Nat.reduceBEq, Int.reduceBEq, Int.reduceBNe, Int.reduceEq, Int.reduceLT, Int.reduceLE, Int.reduceGT, Int.reduceNeg, reduceCtorEq, GZ, h1, L, v1, v2, v3, zx, Int.reduceAdd, yf, zY]
  | [a, b] =>
    rw [hp] at h1 hbk
    simp only [yk, List.length_cons, List.length_nil] at hbk
    have d1 := mQ a (by omega)
    have d2 := mQ b (by omega)
    have hr := xn a
    have hr2 := xn b
    have v1 := uB ⟨zO a, zO b, 0, []⟩ (by simp [Ver.sm, yk])
    have v2 := mP (zO a) (zO b + 1) 0
    have e0 : decide (zO a < 0) = !decide (0 ≤ zO a) := by
      by_cases h : zO a < 0
      · rw [decide_eq_true h, decide_eq_false (by omega)]; rfl
      · rw [decide_eq_false h, decide_eq_true (by omega)]; rfl
    have e1 : decide (zO b < 0) = !decide (0 ≤ zO b) := by
      by_cases h : zO b < 0
      · rw [decide_eq_true h, decide_eq_false (by omega)]; rfl
      · rw [decide_eq_false h, decide_eq_true (by omega)]; rfl
    simp only
    generalize yb ⟨zO a, zO b, 0, []⟩ = t1 at *
    generalize ye (zO a) (zO b + 1) 0 = t2 at *
    generalize zO a = ra at *
    generalize zO b = rb at *
    simp only [xj, yf, Ver.enc, List.map_cons, List.map_nil, bdV] at h1 v1 ⊢
    cases hd : decide (0 ≤ ra) <;> rw [hd] at e0 <;> simp only [Bool.not_true, Bool.not_false] at e0
    · have L : EV Tryz.prog pol (.loop 132 250 0 [.ptr 0 0 0, .t (.list 1 [[.str a], [.str b]]), .sl 1 0 2 (some 2), .t (.list 1 [[.str a], [.str b]]), .t (.int .i64 2), .t (.int .i64 0)] [.vs 2 [[.t (.str []), .t (.str [])]], .ts 1 [[.int .i64 0], [.int .i64 0]]])
          = some (.loop .ret [.ptr 0 0 0, .t (.bool false), .t (.list 1 [[.str a], [.str b]]), .sl 1 0 2 (some 2)] [.vs 2 [[.t (.str []), .t (.str [])]], .ts 1 [[.int .i64 ra], [.int .i64 0]]]) := by
        refine zz Tryz.func132 rfl rfl ?_
        simp (disch := ((try simp only [LL]); omega)) only [↓GO, ↓DRW, GA, ren, zB, zf, refs, zb, cst, zl, zH, z7, E.load, E.store, zG, isC, bin, zI, zJ, una, z8, za, zh, zK, blt, fnV, asArg, zd, zn, zo, zj, zi, zg, zk, zr, z6, zD, zF, mkS, zc, unN, zM, zm, zy, zC, ze, zN, zq, GS, Int.reduceToNat, Nat.reduceGT, ↓reduceIte, Nat.reduceAdd, Nat.reduceMul, Nat.reduceSub, Nat.reduceEqDiff, Nat.reduceLeDiff, Nat.reduceLT, Nat.reduceBEq, Int.reduceBEq, Int.reduceBNe, Int.reduceEq, Int.reduceLT, Int.reduceLE, Int.reduceGT, Int.reduceNeg, reduceCtorEq, GZ, d1, e0, zx, zY]
      apply zu
      refine zw rfl Tryz.func132 rfl (by kernel_rfl) ?_
      unfold Tryz.f132
      simp (disch := ((try simp only [LL]); omega)) only [↓GO, ↓DRW, GA, ren, zB, zf, refs, zb, cst, zl, zH, z7, E.load, E.store, zG, isC, bin, zI, zJ, una, z8, za, zh, zK, blt, fnV, asArg, zd, zn, zo, zj, zi, zg, zk, zr, z6, zD, zF, mkS, zc, unN, zM, zm, zy, zC, ze, zN, zq, GS, Int.reduceToNat, Nat.reduceGT, ↓reduceIte, Nat.reduceAdd, Nat.reduceMul, Nat.reduceSub, Nat.reduceEqDiff, Nat.reduceLeDiff, Nat.reduceLT, Nat.reduceBEq, Int.reduceBEq, Int.reduceBNe, Int.reduceEq, Int.reduceLT, Int.reduceLE, Int.reduceGT, Int.reduceNeg, reduceCtorEq, GZ, h1, L, zY]
    · cases he : decide (0 ≤ rb) <;> rw [he] at e1 <;> simp only [Bool.not_true, Bool.not_false] at e1
      · have L : EV Tryz.prog pol (.loop 132 250 0 [.ptr 0 0 0, .t (.list 1 [[.str a], [.str b]]), .sl 1 0 2 (some 2), .t (.list 1 [[.str a], [.str b]]), .t (.int .i64 2), .t (.int .i64 0)] [.vs 2 [[.t (.str []), .t (.str [])]], .ts 1 [[.int .i64 0], [.int .i64 0]]])
            = some (.loop .ret [.ptr 0 0 0, .t (.bool false), .t (.list 1 [[.str a], [.str b]]), .sl 1 0 2 (some 2)] [.vs 2 [[.t (.str []), .t (.str [])]], .ts 1 [[.int .i64 ra], [.int .i64 rb]]]) := by
          refine zz Tryz.func132 rfl rfl ?_
          simp (disch := ((try simp only [LL]); omega)) only [↓GO, ↓DRW, GA, ren, zB, zf, refs, zb, cst, zl, zH, z7, E.load, E.store, zG, isC, bin, zI, zJ, una, z8, za, zh, zK, blt, fnV, asArg, zd, zn, zo, zj, zi, zg, zk, zr, z6, zD, zF, mkS, zc, unN, zM, zm, zy, zC, ze, zN, zq, GS, Int.reduceToNat, Nat.reduceGT, ↓reduceIte, Nat.reduceAdd, Nat.reduceMul, Nat.reduceSub, Nat.reduceEqDiff, Nat.reduceLeDiff, Nat.reduceLT, Nat.reduceBEq, Int.reduceBEq, Int.reduceBNe, Int.reduceEq, Int.reduceLT, Int.reduceLE, Int.reduceGT, Int.reduceNeg, reduceCtorEq, GZ, d1, e0, zx, zY, Int.reduceAdd]
          refine zz Tryz.func132 rfl rfl ?_
          simp (disch := ((try simp only [LL]); omega)) only [↓GO, ↓DRW, GA, ren, zB, zf, refs, zb, cst, zl, zH, z7, E.load, E.store, zG, isC, bin, zI, zJ, una, z8, za, zh, zK, blt, fnV, asArg, zd, zn, zo, zj, zi, zg, zk, zr, z6, zD, zF, mkS, zc, unN, zM, zm, zy, zC, ze, zN, zq, GS, Int.reduceToNat, Nat.reduceGT, ↓reduceIte, Nat.reduceAdd, Nat.reduceMul, Nat.reduceSub, Nat.reduceEqDiff, Nat.reduceLeDiff, Nat.reduceLT, Nat.reduceBEq, Int.reduceBEq, Int.reduceBNe, Int.reduceEq, Int.reduceLT, Int.reduceLE, Int.reduceGT, Int.reduceNeg, reduceCtorEq, GZ, d2, e1, zx, zY]
        apply zu
        refine zw rfl Tryz.func132 rfl (by kernel_rfl) ?_
        unfold Tryz.f132
        simp (disch := ((try simp only [LL]); omega)) only [↓GO, ↓DRW, GA, ren, zB, zf, refs, zb, cst, zl, zH, z7, E.load, E.store, zG, isC, bin, zI, zJ, una, z8, za, zh, zK, blt, fnV, asArg, zd, zn, zo, zj, zi, zg, zk, zr, z6, zD, zF, mkS, zc, unN, zM, zm, zy, zC, ze, zN, zq, GS, Int.reduceToNat, Nat.reduceGT, ↓reduceIte, Nat.reduceAdd, Nat.reduceMul, Nat.reduceSub, Nat.reduceEqDiff, Nat.reduceLeDiff, Nat.reduceLT, Nat.reduceBEq, Int.reduceBEq, Int.reduceBNe, Int.reduceEq, Int.reduceLT, Int.reduceLE, Int.reduceGT, Int.reduceNeg, reduceCtorEq, GZ, h1, L, zY]
      · have L : EV Tryz.prog pol (.loop 132 250 0 [.ptr 0 0 0, .t (.list 1 [[.str a], [.str b]]), .sl 1 0 2 (some 2), .t (.list 1 [[.str a], [.str b]]), .t (.int .i64 2), .t (.int .i64 0)] [.vs 2 [[.t (.str []), .t (.str [])]], .ts 1 [[.int .i64 0], [.int .i64 0]]])
            = some (.loop (.exit 0) [.ptr 0 0 0, .bad, .t (.list 1 [[.str a], [.str b]]), .sl 1 0 2 (some 2)] [.vs 2 [[.t (.str []), .t (.str [])]], .ts 1 [[.int .i64 ra], [.int .i64 rb]]]) := by
          refine zz Tryz.func132 rfl rfl ?_
          simp (disch := ((try simp only [LL]); omega)) only [↓GO, ↓DRW, GA, ren, zB, zf, refs, zb, cst, zl, zH, z7, E.load, E.store, zG, isC, bin, zI, zJ, una, z8, za, zh, zK, blt, fnV, asArg, zd, zn, zo, zj, zi, zg, zk, zr, z6, zD, zF, mkS, zc, unN, zM, zm, zy, zC, ze, zN, zq, GS, Int.reduceToNat, Nat.reduceGT, ↓reduceIte, Nat.reduceAdd, Nat.reduceMul, Nat.reduceSub, Nat.reduceEqDiff, Nat.reduceLeDiff, Nat.reduceLT, Nat.reduceBEq, Int.reduceBEq, Int.reduceBNe, Int.reduceEq, Int.reduceLT, Int.reduceLE, Int.reduceGT, Int.reduceNeg, reduceCtorEq, GZ, d1, e0, zx, zY, Int.reduceAdd]
          refine zz Tryz.func132 rfl rfl ?_
          simp (disch := ((try simp only [LL]); omega)) only [↓GO, ↓DRW, GA, ren, zB, zf, refs, zb, cst, zl, zH, z7, E.load, E.store, zG, isC, bin, zI, zJ, una, z8, za, zh, zK, blt, fnV, asArg, zd, zn, zo, zj, zi, zg, zk, zr, z6, zD, zF, mkS, zc, unN, zM, zm, zy, zC, ze, zN, zq, GS, Int.reduceToNat, Nat.reduceGT, ↓reduceIte, Nat.reduceAdd, Nat.reduceMul, Nat.reduceSub, Nat.reduceEqDiff, Nat.reduceLeDiff, Nat.reduceLT, Nat.reduceBEq, Int.reduceBEq, Int.reduceBNe, Int.reduceEq, Int.reduceLT, Int.reduceLE, Int.reduceGT, Int.reduceNeg, reduceCtorEq, GZ, d2, e1, zx, zY, Int.reduceAdd]
          refine zz Tryz.func132 rfl rfl ?_
          simp (disch := ((try simp only [LL]); omega)) only [↓GO, ↓DRW, GA, ren, zB, zf, refs, zb, cst, zl, zH, z7, E.load, E.store, zG, isC, bin, zI, zJ, una, z8, za, zh, zK, blt, fnV, asArg, zd, zn, zo, zj, zi, zg, zk, zr, z6, zD, zF, mkS, zc, unN, zM, zm, zy, zC, ze, zN, zq, GS, Int.reduceToNat, Nat.reduceGT, ↓reduceIte, Nat.reduceAdd, Nat.reduceMul, Nat.reduceSub, Nat.reduceEqDiff, Nat.reduceLeDiff, Nat.reduceLT, Nat.reduceBEq, Int.reduceBEq, Int.reduceBNe, Int.reduceEq, Int.reduceLT, Int.reduceLE, Int.reduceGT, Int.reduceNeg, reduceCtorEq, GZ, zY]
        apply zu
        refine zw rfl Tryz.func132 rfl (by kernel_rfl) ?_
        unfold Tryz.f132
        simp (disch := ((try simp only [LL]); omega)) only [↓GO, ↓DRW, GA, ren, zB, zf, refs, zb, cst, zl, zH, z7, E.load, E.store, zG, isC, bin, zI, zJ, una, z8, za, zh, zK, blt, fnV, asArg, zd, zn, zo, zj, zi, zg, zk, zr, z6, zD, zF, mkS, zc, unN, zM, zm, zy, zC, ze, zN, zq, GS, Int.reduceToNat, Nat.reduceGT, ↓reduceIte, Nat.reduceAdd, Nat.reduceMul, Nat.reduceSub, Nat.reduceEqDiff, Nat.reduceLeDiff, Nat.reduceLT, Nat.reduceBEq, Int.reduceBEq, Int.reduceBNe, Int.reduceEq, Int.reduceLT, Int.reduceLE, Int.reduceGT, Int.reduceNeg, reduceCtorEq, GZ, h1, L, v1, v2, zx, yf, zY]
        refine yQ (by kernel_rfl) ?_
        simp (disch := ((try simp only [LL]); omega)) only [↓GO, ↓DRW, GA, ren, zB, zf, refs, zb, cst, zl, zH, z7, E.load, E.store, zG, isC, bin, zI, zJ, una, z8, za, zh, zK, blt, fnV, asArg, zd, zn, zo, zj, zi, zg, zk, zr, z6, zD, zF, mkS, zc, unN, zM, zm, zy, zC, ze, zN, zq, GS, Int.reduceToNat, Nat.reduceGT, ↓reduceIte, Nat.reduceAdd, Nat.reduceMul, Nat.reduceSub, Nat.reduceEqDiff, Nat.reduceLeDiff, Nat.reduceLT, Nat.reduceBEq, Int.reduceBEq, Int.reduceBNe, Int.reduceEq, Int.reduceLT, Int.reduceLE, Int.reduceGT, Int.reduceNeg, reduceCtorEq, GZ, h1, L, v1, v2, zx, yf, zY]
  | a :: b :: c :: r =>
    rw [hp] at h1
    have hc : decide (((a :: b :: c :: r).length : Int) > 2) = true := by apply decide_eq_true; simp only [List.length_cons]; omega
    simp only [bdV]
    generalize a :: b :: c :: r = ps at *
    apply zu
    refine zw rfl Tryz.func132 rfl (by kernel_rfl) ?_
    unfold Tryz.f132
    simp (disch := ((try simp only [LL]); omega)) only [↓GO, ↓DRW, GA, ren, zB, zf, refs, zb, cst, zl, zH, z7, E.load, E.store, zG, isC, bin, zI, zJ, una, z8, za, zh, zK, blt, fnV, asArg, zd, zn, zo, zj, zi, zg, zk, zr, z6, zD, zF, mkS, zc, unN, zM, zm, zy, zC, ze, zN, zq, GS, Int.reduceToNat, Nat.reduceGT, ↓reduceIte, Nat.reduceAdd, Nat.reduceMul, Nat.reduceSub, Nat.reduceEqDiff, Nat.reduceLeDiff, Nat.reduceLT, Nat.reduceBEq, Int.reduceBEq, Int.reduceBNe, Int.reduceEq, Int.reduceLT, Int.reduceLE, Int.reduceGT, Int.reduceNeg, reduceCtorEq, GZ, h1, hc, zR, zY]
theorem ZD (s p : Str) (hs : s.length ≤ 9223372036854775807) (hp : p.length ≤ 9223372036854775807) : zE (EV Tryz.prog pol) 160 [.t (.str s), .t (.str p)] = some (.tup [.t (.str (cond (p.isPrefixOf s) (s.drop p.length) s)), .t (.bool (p.isPrefixOf s))]) := by
  have h := qY s p hs hp
  cases hb : p.isPrefixOf s with
  | false =>
    rw [hb] at h
    apply zu
    refine zw rfl Tryz.func160 rfl (by kernel_rfl) ?_
    unfold Tryz.f160
    simp (disch := ((try simp only [LL]); omega)) only [↓GO, ↓DRW, GA, ren, zB, zf, refs, zb, cst, zl, zH, z7, E.load, E.store, zG, isC, bin, zI, zJ, una, z8, za, zh, zK, blt, fnV, asArg, zd, zn, zo, zj, zi, zg, zk, zr, z6, zD, zF, mkS, zc, unN, zM, zm, zy, zC, ze, zN, zq, GS, Int.reduceToNat, Nat.reduceGT, ↓reduceIte, Nat.reduceAdd, Nat.reduceMul, Nat.reduceSub, Nat.reduceEqDiff, Nat.reduceLeDiff, Nat.reduceLT, Nat.reduceBEq, Int.reduceBEq, Int.reduceBNe, Int.reduceEq, Int.reduceLT, Int.reduceLE, Int.reduceGT, Int.reduceNeg, reduceCtorEq, GZ, h]
  | true =>
    have h2 := mb hb
    rw [hb] at h
    apply zu
    refine zw rfl Tryz.func160 rfl (by kernel_rfl) ?_
    unfold Tryz.f160
    simp (disch := ((try simp only [LL]); omega)) only [↓GO, ↓DRW, GA, ren, zB, zf, refs, zb, cst, zl, zH, z7, E.load, E.store, zG, isC, bin, zI, zJ, una, z8, za, zh, zK, blt, fnV, asArg, zd, zn, zo, zj, zi, zg, zk, zr, z6, zD, zF, mkS, zc, unN, zM, zm, zy, zC, ze, zN, zq, GS, Int.reduceToNat, Nat.reduceGT, ↓reduceIte, Nat.reduceAdd, Nat.reduceMul, Nat.reduceSub, Nat.reduceEqDiff, Nat.reduceLeDiff, Nat.reduceLT, Nat.reduceBEq, Int.reduceBEq, Int.reduceBNe, Int.reduceEq, Int.reduceLT, Int.reduceLE, Int.reduceGT, Int.reduceNeg, reduceCtorEq, GZ, h]
theorem en (s p : Str) (hs : s.length ≤ 9223372036854775807) (hp : p.length ≤ 9223372036854775807) : zE (EV Tryz.prog pol) 128 [.t (.str s), .t (.str p)] = some (.tup [.t (.str (cond (p.isPrefixOf s) (s.drop p.length) s)), .t (.bool (p.isPrefixOf s))]) := by
  have h := ZD s p hs hp
  apply zu
  refine zw rfl Tryz.func128 rfl (by kernel_rfl) ?_
  unfold Tryz.f128
  simp (disch := ((try simp only [LL]); omega)) only [↓GO, ↓DRW, GA, ren, zB, zf, refs, zb, cst, zl, zH, z7, E.load, E.store, zG, isC, bin, zI, zJ, una, z8, za, zh, zK, blt, fnV, asArg, zd, zn, zo, zj, zi, zg, zk, zr, z6, zD, zF, mkS, zc, unN, zM, zm, zy, zC, ze, zN, zq, GS, Int.reduceToNat, Nat.reduceGT, ↓reduceIte, Nat.reduceAdd, Nat.reduceMul, Nat.reduceSub, Nat.reduceEqDiff, Nat.reduceLeDiff, Nat.reduceLT, Nat.reduceBEq, Int.reduceBEq, Int.reduceBNe, Int.reduceEq, Int.reduceLT, Int.reduceLE, Int.reduceGT, Int.reduceNeg, reduceCtorEq, GZ, h]
theorem Xu (s : Str) : (xh s).1.length ≤ s.length ∧ (xh s).2.1.length ≤ s.length := by
  have h := congrArg List.length (jB s)
  rw [List.length_append] at h
  cases hc : (xh s).2.2 with
  | true => rw [hc] at h; simp only [cond_true, List.length_cons] at h; omega
  | false =>
    have : (xh s).2.1 = [] := by
      have key : ∀ s : Str, (xh s).2.2 = false → (xh s).2.1 = [] := fun s => by
        induction s with
        | nil => intro _; rfl
        | cons x r ih =>
          intro h
          rw [xh] at h ⊢
          split at h
          · cases h
          · rename_i hx; rw [if_neg hx]; exact ih h
      exact key s hc
    rw [this]; rw [hc] at h; simp only [cond_false, List.length_nil] at h ⊢; omega
theorem XP (s : Str) (hl : s.length ≤ 1048600) : zE (EV Tryz.prog pol) 96 [.t (.str s)] = some (.tup [bdV (xB s).1, .t (.bool (xB s).2)]) := by
  unfold xB
  cases h42 : (s == [42]) with
  | true =>
    simp only [cond_true, bdV]
    apply zu
    refine zw rfl Tryz.func96 rfl (by kernel_rfl) ?_
    unfold Tryz.f96
    simp (disch := ((try simp only [LL]); omega)) only [↓GO, ↓DRW, GA, ren, zB, zf, refs, zb, cst, zl, zH, z7, E.load, E.store, zG, isC, bin, zI, zJ, una, z8, za, zh, zK, blt, fnV, asArg, zd, zn, zo, zj, zi, zg, zk, zr, z6, zD, zF, mkS, zc, unN, zM, zm, zy, zC, ze, zN, zq, GS, Int.reduceToNat, Nat.reduceGT, ↓reduceIte, Nat.reduceAdd, Nat.reduceMul, Nat.reduceSub, Nat.reduceEqDiff, Nat.reduceLeDiff, Nat.reduceLT, Nat.reduceBEq, Int.reduceBEq, Int.reduceBNe, Int.reduceEq, Int.reduceLT, Int.reduceLE, Int.reduceGT, Int.reduceNeg, reduceCtorEq, GZ, h42]
  | false =>
    have hrv := oq s (by omega)
    obtain ⟨m1, m2, m3, m4, m5, m6, m7⟩ := yW s (by omega)
    have hpr := py s (by omega)
    unfold rvT at hrv
    have hisv : (zA s).2 = isV s := rfl
    rw [hisv] at hrv
    simp only [cond_false]
    cases hv : isV s with
    | true =>
      have hal := aI (zA s).1 m1 (by omega) m7 m6
      rw [(yu (s := s) hv).2.1] at hal
      rw [hv] at hrv
      simp only [cond_true, bdV]
      generalize uG (zA s).1 = hi at *
      generalize (zA s).1 = v at *
      simp only [Ver.enc, List.map_cons, List.map_nil] at hrv hal ⊢
      apply zu
      refine zw rfl Tryz.func96 rfl (by kernel_rfl) ?_
      unfold Tryz.f96
      simp (disch := ((try simp only [LL]); omega)) only [↓GO, ↓DRW, GA, ren, zB, zf, refs, zb, cst, zl, zH, z7, E.load, E.store, zG, isC, bin, zI, zJ, una, z8, za, zh, zK, blt, fnV, asArg, zd, zn, zo, zj, zi, zg, zk, zr, z6, zD, zF, mkS, zc, unN, zM, zm, zy, zC, ze, zN, zq, GS, Int.reduceToNat, Nat.reduceGT, ↓reduceIte, Nat.reduceAdd, Nat.reduceMul, Nat.reduceSub, Nat.reduceEqDiff, Nat.reduceLeDiff, Nat.reduceLT, Nat.reduceBEq, Int.reduceBEq, Int.reduceBNe, Int.reduceEq, Int.reduceLT, Int.reduceLE, Int.reduceGT, Int.reduceNeg, reduceCtorEq, GZ, h42, hrv, hal]
    | false =>
      have hc1 := en s [62, 61] (by omega) (by simp)
      have hc2 := en s [60] (by omega) (by simp)
      have hc3 := Sc (s.drop 2) [32, 60] (by rw [List.length_drop]; omega)
      have hcl := Xu (s.drop 2)
      rw [List.length_drop] at hcl
      have hi1 := qy (xh (s.drop 2)).1 (by omega)
      have hi2 := qy (xh (s.drop 2)).2.1 (by omega)
      rw [fY] at hc3
      have hi3 := qy (s.drop 1) (by rw [List.length_drop]; omega)
      have hpt := ZA s (by omega)
      rw [hv] at hrv
      rw [show (([62, 61] : Str).isPrefixOf s) = geP s from rfl, show (([62, 61] : Str).length) = 2 from rfl] at hc1
      rw [show (([60] : Str).isPrefixOf s) = ltP s from rfl, show (([60] : Str).length) = 1 from rfl] at hc2
      generalize (zA s).1 = v at *
      simp only [Ver.enc, List.map_cons, List.map_nil] at hrv
      simp only [cond_false]
      cases hg : geP s with
      | true =>
        rw [hg] at hc1
        simp only [cond_true] at hc1 ⊢
        generalize isV (xh (s.drop 2)).1 = b1 at *
        generalize isV (xh (s.drop 2)).2.1 = b2 at *
        generalize (xh (s.drop 2)).1 = c1 at *
        generalize (xh (s.drop 2)).2.1 = c2 at *
        generalize (xh (s.drop 2)).2.2 = b3 at *
        simp only [bdV]
        cases b1 <;> cases b3 <;> cases b2
        all_goals
          apply zu
          refine zw rfl Tryz.func96 rfl (by kernel_rfl) ?_
          unfold Tryz.f96
          simp (disch := ((try simp only [LL]); omega)) only [↓GO, ↓DRW, GA, ren, zB, zf, refs, zb, cst, zl, zH, z7, E.load, E.store, zG, isC, bin, zI, zJ, una, z8, za, zh, zK, blt, fnV, asArg, zd, zn, zo, zj, zi, zg, zk, zr, z6, zD, zF, mkS, zc, unN, zM, zm, zy, zC, ze, zN, zq, GS, Int.reduceToNat, Nat.reduceGT, ↓reduceIte, Nat.reduceAdd, Nat.reduceMul, Nat.reduceSub, Nat.reduceEqDiff, Nat.reduceLeDiff, Nat.reduceLT, Nat.reduceBEq, Int.reduceBEq, Int.reduceBNe, Int.reduceEq, Int.reduceLT, Int.reduceLE, Int.reduceGT, Int.reduceNeg, reduceCtorEq, GZ, h42, hrv, hc1, hc3, hi1, hi2]
      | false =>
        rw [hg] at hc1
        simp only [cond_false] at hc1 ⊢
        cases hlp : ltP s with
        | true =>
          rw [hlp] at hc2
          simp only [cond_true] at hc2 ⊢
          generalize isV (s.drop 1) = b1 at *
          simp only [bdV]
          apply zu
          refine zw rfl Tryz.func96 rfl (by kernel_rfl) ?_
          unfold Tryz.f96
          simp (disch := ((try simp only [LL]); omega)) only [↓GO, ↓DRW, GA, ren, zB, zf, refs, zb, cst, zl, zH, z7, E.load, E.store, zG, isC, bin, zI, zJ, una, z8, za, zh, zK, blt, fnV, asArg, zd, zn, zo, zj, zi, zg, zk, zr, z6, zD, zF, mkS, zc, unN, zM, zm, zy, zC, ze, zN, zq, GS, Int.reduceToNat, Nat.reduceGT, ↓reduceIte, Nat.reduceAdd, Nat.reduceMul, Nat.reduceSub, Nat.reduceEqDiff, Nat.reduceLeDiff, Nat.reduceLT, Nat.reduceBEq, Int.reduceBEq, Int.reduceBNe, Int.reduceEq, Int.reduceLT, Int.reduceLE, Int.reduceGT, Int.reduceNeg, reduceCtorEq, GZ, h42, hrv, hc1, hc2, hi3]
        | false =>
          rw [hlp] at hc2
          simp only [cond_false] at hc2 ⊢
          cases s with
          | nil =>
            simp only [hdB, Bool.or_false, cond_false]
            generalize w9 [] = pp at *
            simp only [bdV] at hpt ⊢
            have hn : (([] : Str) == []) = true := rfl
            apply zu
            refine zw rfl Tryz.func96 rfl (by kernel_rfl) ?_
            unfold Tryz.f96
            simp (disch := ((try simp only [LL]); omega)) only [↓GO, ↓DRW, GA, ren, zB, zf, refs, zb, cst, zl, zH, z7, E.load, E.store, zG, isC, bin, zI, zJ, una, z8, za, zh, zK, blt, fnV, asArg, zd, zn, zo, zj, zi, zg, zk, zr, z6, zD, zF, mkS, zc, unN, zM, zm, zy, zC, ze, zN, zq, GS, Int.reduceToNat, Nat.reduceGT, ↓reduceIte, Nat.reduceAdd, Nat.reduceMul, Nat.reduceSub, Nat.reduceEqDiff, Nat.reduceLeDiff, Nat.reduceLT, Nat.reduceBEq, Int.reduceBEq, Int.reduceBNe, Int.reduceEq, Int.reduceLT, Int.reduceLE, Int.reduceGT, Int.reduceNeg, reduceCtorEq, GZ, h42, hrv, hc1, hc2, hn, bne, hpt]
          | cons x r =>
            have hn : ((x :: r) == []) = false := rfl
            have hg0 : (x :: r)[0]? = some x := rfl
            have hdr : (x :: r).drop 1 = r := rfl
            have hxl : 1 ≤ (x :: r).length := by simp
            have h94 : ((x.toNat : Int) == 94) = (x == 94) := by
              rw [Bool.eq_iff_iff]; simp only [beq_iff_eq]
              constructor
              · intro h; exact UInt8.toNat_inj.1 (by rw [show (94 : UInt8).toNat = 94 from rfl]; omega)
              · intro h; rw [h]; rfl
            have h126 : ((x.toNat : Int) == 126) = (x == 126) := by
              rw [Bool.eq_iff_iff]; simp only [beq_iff_eq]
              constructor
              · intro h; exact UInt8.toNat_inj.1 (by rw [show (126 : UInt8).toNat = 126 from rfl]; omega)
              · intro h; rw [h]; rfl
            have hrr := oq r (by simp only [List.length_cons] at hl; omega)
            obtain ⟨n1, n2, n3, n4, n5, n6, n7⟩ := yW r (by simp only [List.length_cons] at hl; omega)
            have z1 := mP (zA r).1.maj ((zA r).1.min + 1) 0
            have z2 := mP ((zA r).1.maj + 1) 0 0
            have z3 := mP 0 0 ((zA r).1.pat + 1)
            unfold rvT at hrr
            rw [show (zA r).2 = isV r from rfl] at hrr
            unfold Ud
            rw [hdr]
            simp only [hdB]
            clear hi3 hc3 hi1 hi2 hcl
            generalize x :: r = xr at *
            generalize isV r = b1 at *
            unfold pj
            generalize (zA r).1 = w at *
            generalize ye w.maj (w.min + 1) 0 = t1 at *
            generalize ye (w.maj + 1) 0 0 = t2 at *
            generalize ye 0 0 (w.pat + 1) = t3 at *
            generalize w9 xr = pp at *
            simp only [Ver.enc, List.map_cons, List.map_nil, bdV] at hrr hpt ⊢
            cases e1 : (x == 94) <;> rw [e1] at h94
            · cases e2 : (x == 126) <;> rw [e2] at h126
              · apply zu
                refine zw rfl Tryz.func96 rfl (by kernel_rfl) ?_
                unfold Tryz.f96
                simp (disch := ((try simp only [LL]); omega)) only [↓GO, ↓DRW, GA, ren, zB, zf, refs, zb, cst, zl, zH, z7, E.load, E.store, zG, isC, bin, zI, zJ, una, z8, za, zh, zK, blt, fnV, asArg, zd, zn, zo, zj, zi, zg, zk, zr, z6, zD, zF, mkS, zc, unN, zM, zm, zy, zC, ze, zN, zq, GS, Int.reduceToNat, Nat.reduceGT, ↓reduceIte, Nat.reduceAdd, Nat.reduceMul, Nat.reduceSub, Nat.reduceEqDiff, Nat.reduceLeDiff, Nat.reduceLT, Nat.reduceBEq, Int.reduceBEq, Int.reduceBNe, Int.reduceEq, Int.reduceLT, Int.reduceLE, Int.reduceGT, Int.reduceNeg, reduceCtorEq, GZ, h42, hrv, hc1, hc2, hn, bne, hg0, h94, h126, hpt]
              · apply zu
                refine zw rfl Tryz.func96 rfl (by kernel_rfl) ?_
                unfold Tryz.f96
                simp (disch := ((try simp only [LL]); omega)) only [↓GO, ↓DRW, GA, ren, zB, zf, refs, zb, cst, zl, zH, z7, E.load, E.store, zG, isC, bin, zI, zJ, una, z8, za, zh, zK, blt, fnV, asArg, zd, zn, zo, zj, zi, zg, zk, zr, z6, zD, zF, mkS, zc, unN, zM, zm, zy, zC, ze, zN, zq, GS, Int.reduceToNat, Nat.reduceGT, ↓reduceIte, Nat.reduceAdd, Nat.reduceMul, Nat.reduceSub, Nat.reduceEqDiff, Nat.reduceLeDiff, Nat.reduceLT, Nat.reduceBEq, Int.reduceBEq, Int.reduceBNe, Int.reduceEq, Int.reduceLT, Int.reduceLE, Int.reduceGT, Int.reduceNeg, reduceCtorEq, GZ, h42, hrv, hc1, hc2, hn, bne, hg0, h94, h126, hdr, hrr, z1, zx]
            · cases e3 : decide (w.maj > 0)
              · cases e4 : (w.min == 0)
                all_goals
                  apply zu
                  refine zw rfl Tryz.func96 rfl (by kernel_rfl) ?_
                  unfold Tryz.f96
                  simp (disch := ((try simp only [LL]); omega)) only [↓GO, ↓DRW, GA, ren, zB, zf, refs, zb, cst, zl, zH, z7, E.load, E.store, zG, isC, bin, zI, zJ, una, z8, za, zh, zK, blt, fnV, asArg, zd, zn, zo, zj, zi, zg, zk, zr, z6, zD, zF, mkS, zc, unN, zM, zm, zy, zC, ze, zN, zq, GS, Int.reduceToNat, Nat.reduceGT, ↓reduceIte, Nat.reduceAdd, Nat.reduceMul, Nat.reduceSub, Nat.reduceEqDiff, Nat.reduceLeDiff, Nat.reduceLT, Nat.reduceBEq, Int.reduceBEq, Int.reduceBNe, Int.reduceEq, Int.reduceLT, Int.reduceLE, Int.reduceGT, Int.reduceNeg, reduceCtorEq, GZ, h42, hrv, hc1, hc2, hn, bne, hg0, h94, hdr, hrr, z1, z2, z3, e3, e4, zx]
              · apply zu
                refine zw rfl Tryz.func96 rfl (by kernel_rfl) ?_
                unfold Tryz.f96
                simp (disch := ((try simp only [LL]); omega)) only [↓GO, ↓DRW, GA, ren, zB, zf, refs, zb, cst, zl, zH, z7, E.load, E.store, zG, isC, bin, zI, zJ, una, z8, za, zh, zK, blt, fnV, asArg, zd, zn, zo, zj, zi, zg, zk, zr, z6, zD, zF, mkS, zc, unN, zM, zm, zy, zC, ze, zN, zq, GS, Int.reduceToNat, Nat.reduceGT, ↓reduceIte, Nat.reduceAdd, Nat.reduceMul, Nat.reduceSub, Nat.reduceEqDiff, Nat.reduceLeDiff, Nat.reduceLT, Nat.reduceBEq, Int.reduceBEq, Int.reduceBNe, Int.reduceEq, Int.reduceLT, Int.reduceLE, Int.reduceGT, Int.reduceNeg, reduceCtorEq, GZ, h42, hrv, hc1, hc2, hn, bne, hg0, h94, hdr, hrr, z1, z2, z3, e3, zx]
end Go.Proofs.YtmcephnfcciloaaGreatDoor
/- Ranges, by the implementation: the whole. Conditions: those of each lemma. -/
namespace Go.Proofs.YtmcephnfcciloaaGreatDoor
open E
set_option linter.unusedSimpArgs false
set_option linter.unusedVariables false
set_option maxRecDepth 100000
theorem gA : ∀ l : List Str, (l.all fun p => wi p) = true → yk l ≤ 20 * l.length
  | [], _ => by simp [yk]
  | p :: l, h => by
    simp only [List.all_cons, Bool.and_eq_true] at h
    have ih := gA l h.2
    have h1 := h.1
    unfold wi B2 at h1
    simp only [Bool.and_eq_true, decide_eq_true_eq] at h1
    have := h1.1.2
    simp only [yk, List.length_cons]
    omega
theorem mT {v : Ver} (h : yv v = true) : (yb v).length ≤ 140 := by
  obtain ⟨_, _, _, h4, h5⟩ := xZ h
  have h6 := gA v.pre h4
  have h7 := ee h
  have h8 := ld (vc v) v.pre
  unfold yb
  rw [h, cond_true]
  omega
theorem Zj {s : Str} (h : isV s = true) : s.length ≤ 140 := by
  obtain ⟨_, ht, ho, _⟩ := yu h
  have := mT ho
  rwa [ht] at this
theorem lU {s : Str} (h : isE s = true) : s.length ≤ 140 := by
  unfold isE at h
  rw [Bool.or_eq_true] at h
  rcases h with h | h
  · exact Zj h
  · rw [eq_of_beq h]; simp
theorem nO {ps : List Str} {l : List Bd} (h : vO ps = some l) : ∀ b ∈ l, b.1.length ≤ 140 ∧ b.2.length ≤ 140 := fun b hb => by
  have h1 := (sB ps l h).1
  rw [List.all_eq_true] at h1
  have h2 := h1 b hb
  rw [Bool.and_eq_true] at h2
  exact ⟨lU h2.1, lU h2.2⟩
theorem aZ (s sep : Str) : tZ s sep = Lib.split s sep := by
  unfold tZ Lib.split Lib.countB
  rw [Lib.splitB_data]
/-- what a reading of ranges gives -/
def rrT : Option (List Bd) → V
  | some l => .tup [.t (.list 2 (bdT l)), .t (.bool true)]
  | none => .tup [.t (.list 2 []), .t (.bool false)]
/-- how the loop ends -/
def og (ps : List Str) (acc : List Bd) (cap : Option Nat) (x : List Bd) : Option (List Bd) → xN
  | some bs => .loop (.exit 0) [.bad, .bad, .sl 0 0 (acc.length + bs.length) cap] [.ts 2 (bdT (acc ++ bs))]
  | none => .loop .ret [.nil 2, .t (.bool false), .sl 0 0 x.length cap] [.ts 2 (bdT x)]
set_option maxHeartbeats 4000000 in
theorem TZ (ps : List Str) (hl : ps.length ≤ 1048576) (hb : ∀ p ∈ ps, p.length ≤ 1048576) : ∀ (rest pre : List Str) (acc : List Bd) (cap : Option Nat) (m : Nat), ps = pre ++ rest → m = acc.length → acc.length = pre.length →
    ∃ cap' x, EV Tryz.prog pol (.loop 64 122 0 [.sl 0 0 m cap, .t (.list 1 (y6 ps)), .t (.int .i64 (ps.length : Int)), .t (.int .i64 (pre.length : Int))] [.ts 2 (bdT acc)]) = some (og ps acc cap' x (vO rest))
  | [], pre, acc, cap, m, hs, hm, ha => by
    have c : decide ((pre.length : Int) < (ps.length : Int)) = false := by simp [hs]
    refine ⟨cap, [], ?_⟩
    simp only [vO, og, List.append_nil, List.length_nil, Nat.add_zero]
    subst hm
    refine zz Tryz.func64 rfl rfl ?_
    simp (disch := ((try simp only [LL]); omega)) only [↓GO, ↓DRW, GA, ren, zB, zf, refs, zb, cst, zl, zH, z7, E.load, E.store, zG, isC, bin, zI, zJ, una, z8, za, zh, zK, blt, fnV, asArg, zd, zn, zo, zj, zi, zg, zk, zr, z6, zD, zF, mkS, zc, unN, zM, zm, zy, zC, ze, zN, zq, GS, Int.reduceToNat, Nat.reduceGT, ↓reduceIte, Nat.reduceAdd, Nat.reduceMul, Nat.reduceSub, Nat.reduceEqDiff, Nat.reduceLeDiff, Nat.reduceLT, Nat.reduceBEq, Int.reduceBEq, Int.reduceBNe, Int.reduceEq, Int.reduceLT, Int.reduceLE, Int.reduceGT, Int.reduceNeg, reduceCtorEq, GZ, c, zY]
  | p :: rest, pre, acc, cap, m, hs, hm, ha => by
    have c : decide ((pre.length : Int) < (ps.length : Int)) = true := by simp [hs]; omega
    have hget : (y6 ps)[pre.length]? = some [.str p] := by rw [hs]; exact wy (fun s : Str => [T.str s]) pre p rest
    have hlen : pre.length + rest.length + 1 ≤ ps.length := by rw [hs]; simp; omega
    have hpb := hb p (by rw [hs]; simp)
    have hB := XP p (by omega)
    have h1 := mB p [60] (by omega) (by simp)
    have h2 := mB p [62, 61] (by omega) (by simp)
    rw [show ([60] : Str).isPrefixOf p = ltP p from rfl] at h1
    rw [show ([62, 61] : Str).isPrefixOf p = geP p from rfl] at h2
    have hchk := Xx p
    unfold tw sE at hchk
    have IHs := fun b => TZ ps hl hb rest (pre ++ [p]) (acc ++ [b]) none (m + 1) (by rw [hs]; simp) (by simp [hm]) (by simp [ha])
    rw [show ((pre ++ [p]).length : Int) = (pre.length : Int) + 1 by simp] at IHs
    have hol : (bdT acc).length = m := by rw [xM, hm]
    have hml : m ≤ 1048578 := by omega
    have hm0 := hm
    clear hs hb
    simp only [vO]
    rw [← hchk]
    clear hchk
    generalize xB p = bb at *
    obtain ⟨⟨lo, hi⟩, ok⟩ := bb
    simp only [bdV] at hB
    simp only
    cases h3 : (p == [42]) <;> cases h4 : ltP p <;> rw [h4] at h1 <;> cases h5 : geP p <;> rw [h5] at h2 <;> cases ok <;> cases e1 : (lo == []) <;> cases e2 : (hi == []) <;>
      simp only [Bool.or_true, Bool.true_or, Bool.or_false, Bool.false_or, Bool.not_true, Bool.not_false, Bool.and_true, Bool.true_and, Bool.and_false, Bool.false_and, cond_true, cond_false]
    all_goals first
      | (refine ⟨cap, acc, ?_⟩
         unfold og
         rw [hm]
         refine zz Tryz.func64 rfl rfl ?_
         simp (disch := ((try simp only [LL]); omega)) only [↓GO, ↓DRW, GA, ren, zB, zf, refs, zb, cst, zl, zH, z7, E.load, E.store, zG, isC, bin, zI, zJ, una, z8, za, zh, zK, blt, fnV, asArg, zd, zn, zo, zj, zi, zg, zk, zr, z6, zD, zF, mkS, zc, unN, zM, zm, zy, zC, ze, zN, zq, GS, Int.reduceToNat, Nat.reduceGT, ↓reduceIte, Nat.reduceAdd, Nat.reduceMul, Nat.reduceSub, Nat.reduceEqDiff, Nat.reduceLeDiff, Nat.reduceLT, Nat.reduceBEq, Int.reduceBEq, Int.reduceBNe, Int.reduceEq, Int.reduceLT, Int.reduceLE, Int.reduceGT, Int.reduceNeg, reduceCtorEq, GZ, c, hget, hB, h1, h2, h3, e1, e2, zx, hol, zY, wc]
         done)
      | (obtain ⟨cap', x, IH⟩ := IHs (lo, hi)
         refine ⟨cap', x, ?_⟩
         rw [aK, show bdT [(lo, hi)] = [[T.str lo, T.str hi]] from rfl] at IH
         rw [show og ps (acc ++ [(lo, hi)]) cap' x (vO rest) = og ps acc cap' x (match vO rest with | some bs => some ((lo, hi) :: bs) | none => none) by
           cases vO rest with
           | none => rfl
           | some bs => simp only [og]; rw [List.append_assoc]; simp only [List.length_append, List.length_cons, List.length_nil, List.cons_append, List.nil_append]; rw [show acc.length + (0 + 1) + bs.length = acc.length + (bs.length + 1) by omega]] at IH
         refine zz Tryz.func64 rfl rfl ?_
         simp (disch := ((try simp only [LL]); omega)) only [↓GO, ↓DRW, GA, ren, zB, zf, refs, zb, cst, zl, zH, z7, E.load, E.store, zG, isC, bin, zI, zJ, una, z8, za, zh, zK, blt, fnV, asArg, zd, zn, zo, zj, zi, zg, zk, zr, z6, zD, zF, mkS, zc, unN, zM, zm, zy, zC, ze, zN, zq, GS, Int.reduceToNat, Nat.reduceGT, ↓reduceIte, Nat.reduceAdd, Nat.reduceMul, Nat.reduceSub, Nat.reduceEqDiff, Nat.reduceLeDiff, Nat.reduceLT, Nat.reduceBEq, Int.reduceBEq, Int.reduceBNe, Int.reduceEq, Int.reduceLT, Int.reduceLE, Int.reduceGT, Int.reduceNeg, reduceCtorEq, GZ, c, hget, hB, h1, h2, h3, e1, e2, zx, hol, IH, zY, wc]
         try (cases vO rest <;> rfl))
theorem Sa (s : Str) (hl : s.length ≤ 1048576) : zE (EV Tryz.prog pol) 64 [.t (.str s)] = some (rrT (jM s)) := by
  unfold jM
  cases h200 : decide ((s.length : Int) > 200) with
  | true =>
    simp only [cond_true, rrT]
    apply zu
    refine zw rfl Tryz.func64 rfl (by kernel_rfl) ?_
    unfold Tryz.f64
    simp (disch := ((try simp only [LL]); omega)) only [↓GO, ↓DRW, GA, ren, zB, zf, refs, zb, cst, zl, zH, z7, E.load, E.store, zG, isC, bin, zI, zJ, una, z8, za, zh, zK, blt, fnV, asArg, zd, zn, zo, zj, zi, zg, zk, zr, z6, zD, zF, mkS, zc, unN, zM, zm, zy, zC, ze, zN, zq, GS, Int.reduceToNat, Nat.reduceGT, ↓reduceIte, Nat.reduceAdd, Nat.reduceMul, Nat.reduceSub, Nat.reduceEqDiff, Nat.reduceLeDiff, Nat.reduceLT, Nat.reduceBEq, Int.reduceBEq, Int.reduceBNe, Int.reduceEq, Int.reduceLT, Int.reduceLE, Int.reduceGT, Int.reduceNeg, reduceCtorEq, GZ, h200]
  | false =>
    have h2 := of_decide_eq_false h200
    have h1 := qx s [32, 124, 124, 32] (by omega) (by simp)
    have hsp : tZ s [32, 124, 124, 32] = yV 0 s := by
      rw [aZ]; exact sZ s.length s (Nat.le_refl _)
    rw [hsp] at h1
    have hbk := ug 0 s
    have hmem : ∀ p ∈ yV 0 s, p.length ≤ 1048576 := fun p hp => by have := xV hp; omega
    simp only [cond_false]
    generalize yV 0 s = ps at *
    obtain ⟨cap, x, L⟩ := TZ ps (by omega) hmem ps [] [] (some 0) 0 rfl rfl rfl
    rw [show bdT [] = [] from rfl] at L
    simp only [List.length_nil, Int.natCast_zero] at L
    cases ha : vO ps with
    | none =>
      rw [ha] at L
      simp only [og, rrT] at L ⊢
      apply zu
      refine zw rfl Tryz.func64 rfl (by kernel_rfl) ?_
      unfold Tryz.f64
      simp (disch := ((try simp only [LL]); omega)) only [↓GO, ↓DRW, GA, ren, zB, zf, refs, zb, cst, zl, zH, z7, E.load, E.store, zG, isC, bin, zI, zJ, una, z8, za, zh, zK, blt, fnV, asArg, zd, zn, zo, zj, zi, zg, zk, zr, z6, zD, zF, mkS, zc, unN, zM, zm, zy, zC, ze, zN, zq, GS, Int.reduceToNat, Nat.reduceGT, ↓reduceIte, Nat.reduceAdd, Nat.reduceMul, Nat.reduceSub, Nat.reduceEqDiff, Nat.reduceLeDiff, Nat.reduceLT, Nat.reduceBEq, Int.reduceBEq, Int.reduceBNe, Int.reduceEq, Int.reduceLT, Int.reduceLE, Int.reduceGT, Int.reduceNeg, reduceCtorEq, GZ, h200, h1, L, zR, zY]
    | some l =>
      have hsh := nO ha
      have hll := (sB ps l ha).2
      rw [ha] at L
      simp only [og, List.nil_append, List.length_nil, Nat.zero_add] at L ⊢
      have hr := U5 l (by omega) (fun b hb => by have := hsh b hb; omega)
      have ht : (bdT l).take l.length = bdT l := List.take_of_length_le (by rw [xM]; omega)
      cases hk : xk l <;> rw [hk] at hr <;> simp only [cond_true, cond_false, rrT]
      all_goals
        apply zu
        refine zw rfl Tryz.func64 rfl (by kernel_rfl) ?_
        unfold Tryz.f64
        simp (disch := ((try simp only [LL]); omega)) only [↓GO, ↓DRW, GA, ren, zB, zf, refs, zb, cst, zl, zH, z7, E.load, E.store, zG, isC, bin, zI, zJ, una, z8, za, zh, zK, blt, fnV, asArg, zd, zn, zo, zj, zi, zg, zk, zr, z6, zD, zF, mkS, zc, unN, zM, zm, zy, zC, ze, zN, zq, GS, Int.reduceToNat, Nat.reduceGT, ↓reduceIte, Nat.reduceAdd, Nat.reduceMul, Nat.reduceSub, Nat.reduceEqDiff, Nat.reduceLeDiff, Nat.reduceLT, Nat.reduceBEq, Int.reduceBEq, Int.reduceBNe, Int.reduceEq, Int.reduceLT, Int.reduceLE, Int.reduceGT, Int.reduceNeg, reduceCtorEq, GZ, h200, h1, L, zR, hr, ht, xM, zY]
end Go.Proofs.YtmcephnfcciloaaGreatDoor

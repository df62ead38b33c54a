/- Joined: K1 K2 P2 K3 K4 K5. Conditions: those of each lemma. -/
import Derived.Test.YtmcephnfcciloaaGreatDoorUH
set_option linter.unusedVariables false
set_option linter.unusedSimpArgs false
namespace Go.Proofs.YtmcephnfcciloaaGreatDoor
open E
set_option linter.unusedSimpArgs false
set_option linter.unusedVariables false
set_option maxRecDepth 100000
theorem bh : ∀ p s : Str, (decide ((s.length : Int) ≥ (p.length : Int)) && (s.take p.length == p)) = p.isPrefixOf s
  | [], s => by
    have : decide ((s.length : Int) ≥ (([] : Str).length : Int)) = true := by simp
    rw [this]; simp [List.isPrefixOf]
  | a :: p, [] => by
    have : decide ((([] : Str).length : Int) ≥ ((a :: p).length : Int)) = false := by simp only [decide_eq_false_iff_not, List.length_cons, List.length_nil]; omega
    rw [this]; simp [List.isPrefixOf]
  | a :: p, b :: s => by
    have ih := bh p s
    have e1 : decide (((b :: s).length : Int) ≥ ((a :: p).length : Int)) = decide ((s.length : Int) ≥ (p.length : Int)) := by
      rw [decide_eq_decide]; simp only [List.length_cons]; omega
    rw [e1, List.isPrefixOf, ← ih, List.length_cons, List.take_succ_cons]
    by_cases h : b = a
    · subst h
      have : (b :: List.take p.length s == b :: p) = (List.take p.length s == p) := by rw [Bool.eq_iff_iff]; simp
      rw [this]; simp
    · have h2 : (b :: List.take p.length s == a :: p) = false := by rw [beq_eq_false_iff_ne]; intro e; injection e with e1 e2; exact h e1
      have h3 : (a == b) = false := by rw [beq_eq_false_iff_ne]; exact fun e => h e.symm
      rw [h2, h3]; simp
theorem qY (s p : Str) (hs : s.length ≤ 9223372036854775807) (hp : p.length ≤ 9223372036854775807) : zE (EV Tryz.prog pol) 133 [.t (.str s), .t (.str p)] = some (.t (.bool (p.isPrefixOf s))) := by
  rw [← bh]
  apply zu
  refine zw rfl Tryz.func133 rfl (by kernel_rfl) ?_
  unfold Tryz.f133
  cases h : decide ((s.length : Int) ≥ (p.length : Int)) with
  | false => simp (disch := ((try simp only [LL]); omega)) only [↓GO, ↓DRW, GA, ren, zB, zf, refs, zb, cst, zl, zH, z7, E.load, E.store, zG, isC, bin, zI, zJ, una, z8, za, zh, zK, blt, fnV, asArg, zd, zn, zo, zj, zi, zg, zk, zr, z6, zD, zF, mkS, zc, unN, zM, zm, zy, zC, ze, zN, zq, GS, Int.reduceToNat, Nat.reduceGT, ↓reduceIte, Nat.reduceAdd, Nat.reduceMul, Nat.reduceSub, Nat.reduceEqDiff, Nat.reduceLeDiff, Nat.reduceLT, Nat.reduceBEq, Int.reduceBEq, Int.reduceBNe, Int.reduceEq, Int.reduceLT, Int.reduceLE, Int.reduceGT, Int.reduceNeg, reduceCtorEq, GZ, h]
  | true =>
    have h2 := of_decide_eq_true h
    simp (disch := ((try simp only [LL]); omega)) only [↓GO, ↓DRW, GA, ren, zB, zf, refs, zb, cst, zl, zH, z7, E.load, E.store, zG, isC, bin, zI, zJ, una, z8, za, zh, zK, blt, fnV, asArg, zd, zn, zo, zj, zi, zg, zk, zr, z6, zD, zF, mkS, zc, unN, zM, zm, zy, zC, ze, zN, zq, GS, Int.reduceToNat, Nat.reduceGT, ↓reduceIte, Nat.reduceAdd, Nat.reduceMul, Nat.reduceSub, Nat.reduceEqDiff, Nat.reduceLeDiff, Nat.reduceLT, Nat.reduceBEq, Int.reduceBEq, Int.reduceBNe, Int.reduceEq, Int.reduceLT, Int.reduceLE, Int.reduceGT, Int.reduceNeg, reduceCtorEq, GZ, h]
theorem mB (s p : Str) (hs : s.length ≤ 9223372036854775807) (hp : p.length ≤ 9223372036854775807) : zE (EV Tryz.prog pol) 97 [.t (.str s), .t (.str p)] = some (.t (.bool (p.isPrefixOf s))) := by
  have h := qY s p hs hp
  apply zu
  refine zw rfl Tryz.func97 rfl (by kernel_rfl) ?_
  unfold Tryz.f97
  simp (disch := ((try simp only [LL]); omega)) only [↓GO, ↓DRW, GA, ren, zB, zf, refs, zb, cst, zl, zH, z7, E.load, E.store, zG, isC, bin, zI, zJ, una, z8, za, zh, zK, blt, fnV, asArg, zd, zn, zo, zj, zi, zg, zk, zr, z6, zD, zF, mkS, zc, unN, zM, zm, zy, zC, ze, zN, zq, GS, Int.reduceToNat, Nat.reduceGT, ↓reduceIte, Nat.reduceAdd, Nat.reduceMul, Nat.reduceSub, Nat.reduceEqDiff, Nat.reduceLeDiff, Nat.reduceLT, Nat.reduceBEq, Int.reduceBEq, Int.reduceBNe, Int.reduceEq, Int.reduceLT, Int.reduceLE, Int.reduceGT, Int.reduceNeg, reduceCtorEq, GZ, h]
theorem mb : ∀ {p s : Str}, p.isPrefixOf s = true → p.length ≤ s.length
  | [], s, _ => by simp
  | a :: p, [], h => by simp [List.isPrefixOf] at h
  | a :: p, b :: s, h => by
    simp only [List.isPrefixOf, Bool.and_eq_true] at h
    have := mb h.2
    simp only [List.length_cons]; omega
theorem dn (s p : Str) (hs : s.length ≤ 9223372036854775807) (hp : p.length ≤ 9223372036854775807) : zE (EV Tryz.prog pol) 156 [.t (.str s), .t (.str p)] = some (.t (.str (cond (p.isPrefixOf s) (s.drop p.length) s))) := by
  have h := qY s p hs hp
  apply zu
  refine zw rfl Tryz.func156 rfl (by kernel_rfl) ?_
  unfold Tryz.f156
  cases hb : p.isPrefixOf s with
  | false => rw [hb] at h; simp (disch := ((try simp only [LL]); omega)) only [↓GO, ↓DRW, GA, ren, zB, zf, refs, zb, cst, zl, zH, z7, E.load, E.store, zG, isC, bin, zI, zJ, una, z8, za, zh, zK, blt, fnV, asArg, zd, zn, zo, zj, zi, zg, zk, zr, z6, zD, zF, mkS, zc, unN, zM, zm, zy, zC, ze, zN, zq, GS, Int.reduceToNat, Nat.reduceGT, ↓reduceIte, Nat.reduceAdd, Nat.reduceMul, Nat.reduceSub, Nat.reduceEqDiff, Nat.reduceLeDiff, Nat.reduceLT, Nat.reduceBEq, Int.reduceBEq, Int.reduceBNe, Int.reduceEq, Int.reduceLT, Int.reduceLE, Int.reduceGT, Int.reduceNeg, reduceCtorEq, GZ, h]
  | true =>
    have h2 := mb hb
    rw [hb] at h; simp (disch := ((try simp only [LL]); omega)) only [↓GO, ↓DRW, GA, ren, zB, zf, refs, zb, cst, zl, zH, z7, E.load, E.store, zG, isC, bin, zI, zJ, una, z8, za, zh, zK, blt, fnV, asArg, zd, zn, zo, zj, zi, zg, zk, zr, z6, zD, zF, mkS, zc, unN, zM, zm, zy, zC, ze, zN, zq, GS, Int.reduceToNat, Nat.reduceGT, ↓reduceIte, Nat.reduceAdd, Nat.reduceMul, Nat.reduceSub, Nat.reduceEqDiff, Nat.reduceLeDiff, Nat.reduceLT, Nat.reduceBEq, Int.reduceBEq, Int.reduceBNe, Int.reduceEq, Int.reduceLT, Int.reduceLE, Int.reduceGT, Int.reduceNeg, reduceCtorEq, GZ, h]
theorem Zy (s p : Str) (hs : s.length ≤ 9223372036854775807) (hp : p.length ≤ 9223372036854775807) : zE (EV Tryz.prog pol) 119 [.t (.str s), .t (.str p)] = some (.t (.str (cond (p.isPrefixOf s) (s.drop p.length) s))) := by
  have h := dn s p hs hp
  apply zu
  refine zw rfl Tryz.func119 rfl (by kernel_rfl) ?_
  unfold Tryz.f119
  simp (disch := ((try simp only [LL]); omega)) only [↓GO, ↓DRW, GA, ren, zB, zf, refs, zb, cst, zl, zH, z7, E.load, E.store, zG, isC, bin, zI, zJ, una, z8, za, zh, zK, blt, fnV, asArg, zd, zn, zo, zj, zi, zg, zk, zr, z6, zD, zF, mkS, zc, unN, zM, zm, zy, zC, ze, zN, zq, GS, Int.reduceToNat, Nat.reduceGT, ↓reduceIte, Nat.reduceAdd, Nat.reduceMul, Nat.reduceSub, Nat.reduceEqDiff, Nat.reduceLeDiff, Nat.reduceLT, Nat.reduceBEq, Int.reduceBEq, Int.reduceBNe, Int.reduceEq, Int.reduceLT, Int.reduceLE, Int.reduceGT, Int.reduceNeg, reduceCtorEq, GZ, h]
theorem Ut (s : Str) : cond (([64] : Str).isPrefixOf s) (s.drop ([64] : Str).length) s = yR s := by
  cases s with
  | nil => rfl
  | cons x s =>
    by_cases h : x = 64
    · subst h; simp [List.isPrefixOf, yR]
    · have : (64 == x) = false := by rw [beq_eq_false_iff_ne]; exact fun e => h e.symm
      simp [List.isPrefixOf, yR, h, this]
theorem Tq (b : UInt8) : zE (EV Tryz.prog pol) 121 [.t (.int .u8 (b.toNat : Int))] = some (.t (.bool (vQ b))) := by
  have h1 := kG (b.toNat : Int)
  have h2 := qX (b.toNat : Int)
  apply zu
  refine zw rfl Tryz.func121 rfl (by kernel_rfl) ?_
  unfold Tryz.f121
  simp only [vQ, nb]
  generalize hx : B2 (b.toNat : Int) 97 122 = x1 at *
  generalize hy : B2 (b.toNat : Int) 48 57 = x2 at *
  repeat' (first | (((first | with_reducible refine u9 (fun hA => ?_) (fun hA => ?_) | with_reducible refine u7 (fun hA => ?_) (fun hA => ?_)) <;> (try simp only [bne, Bool.not_eq_true', Bool.not_eq_false'] at hA) <;> (first | (have hP := Int.le_of_eq (eq_of_beq (α := Int) hA); have hQ := Int.le_of_eq (eq_of_beq (α := Int) hA).symm) | have hP := of_decide_eq_true hA | have hP := of_decide_eq_false hA | skip)) <;> (simp (disch := ((try simp only [LL]); omega)) only [↓GO, ↓DRW, GA, ren, zB, zf, refs, zb, cst, zl, zH, z7, E.load, E.store, zG, isC, bin, zI, zJ, una, z8, za, zh, zK, blt, fnV, asArg, zd, zn, zo, zj, zi, zg, zk, zr, z6, zD, zF, mkS, zc, unN, zM, zm, zy, zC, ze, zN, zq, GS, Int.reduceToNat, Nat.reduceGT, ↓reduceIte, Nat.reduceAdd, Nat.reduceMul, Nat.reduceSub, Nat.reduceEqDiff, Nat.reduceLeDiff, Nat.reduceLT, Nat.reduceBEq, Int.reduceBEq, Int.reduceBNe, Int.reduceEq, Int.reduceLT, Int.reduceLE, Int.reduceGT, Int.reduceNeg, reduceCtorEq, zx, bne, *])) | (simp (disch := ((try simp only [LL]); omega)) only [↓GO, ↓DRW, GA, ren, zB, zf, refs, zb, cst, zl, zH, z7, E.load, E.store, zG, isC, bin, zI, zJ, una, z8, za, zh, zK, blt, fnV, asArg, zd, zn, zo, zj, zi, zg, zk, zr, z6, zD, zF, mkS, zc, unN, zM, zm, zy, zC, ze, zN, zq, GS, Int.reduceToNat, Nat.reduceGT, ↓reduceIte, Nat.reduceAdd, Nat.reduceMul, Nat.reduceSub, Nat.reduceEqDiff, Nat.reduceLeDiff, Nat.reduceLT, Nat.reduceBEq, Int.reduceBEq, Int.reduceBNe, Int.reduceEq, Int.reduceLT, Int.reduceLE, Int.reduceGT, Int.reduceNeg, reduceCtorEq, zx, bne, *]))
theorem r4 (b : UInt8) (s : Str) : tZ s [b] = yi b s := by
  rw [← lh]
  unfold tZ Lib.split Lib.countB
  rw [Lib.splitB_data]
theorem xj (x : Str) (l : List Str) : y6 (x :: l) = [.str x] :: y6 l := rfl
theorem uq (a b : List Str) : y6 (a ++ b) = y6 a ++ y6 b := by simp [y6]
theorem yf : y6 [] = [] := rfl
/-- a place in a list of texts, told by what stands ahead of it -/
theorem xS (pre : List Str) (x : Str) (rest : List Str) : (y6 (pre ++ x :: rest))[pre.length]? = some [.str x] := by
  rw [uq, xj]
  have := tj (y6 pre) [T.str x] (y6 rest)
  rwa [zR] at this
theorem bO (s : Str) (sc : Bool) (parts : List Str) (hl : parts.length ≤ 4294967296) (hb : ∀ p ∈ parts, p.length ≤ 4294967296) : ∀ (rest pre : List Str), parts = pre ++ rest →
    EV Tryz.prog pol (.loop 91 58 0 [.t (.str s), .t (.bool sc), .t (.list 1 (y6 parts)), .t (.int .i64 (parts.length : Int)), .t (.int .i64 (pre.length : Int))] []) = some (cond (vL (sc && ((pre.length : Int) == 0)) rest) (.loop (.exit 0) [.t (.str s), .bad] []) (.loop .ret [.t (.str s), .t (.bool false)] []))
  | [], pre, hs => by
    have c : decide ((pre.length : Int) < (parts.length : Int)) = false := by simp [hs]
    refine zz Tryz.func91 rfl rfl ?_
    simp only [↓GO, ↓DRW, GA, ren, zB, zf, refs, zb, cst, zl, zH, z7, E.load, E.store, zG, isC, bin, zI, zJ, una, z8, za, zh, zK, blt, fnV, asArg, zd, zn, zo, zj, zi, zg, zk, zr, z6, zD, zF, mkS, zc, unN, zM, zm, zy, zC, ze, zN, zq, GS, Int.reduceToNat, Nat.reduceGT, ↓reduceIte, Nat.reduceAdd, Nat.reduceMul, Nat.reduceSub, Nat.reduceEqDiff, Nat.reduceLeDiff, Nat.reduceLT, Nat.reduceBEq, Int.reduceBEq, Int.reduceBNe, Int.reduceEq, Int.reduceLT, Int.reduceLE, Int.reduceGT, Int.reduceNeg, reduceCtorEq, c, vL]
  | x :: rest, pre, hs => by
    have c : decide ((pre.length : Int) < (parts.length : Int)) = true := by simp [hs]; omega
    have hget : (y6 parts)[pre.length]? = some [.str x] := by rw [hs]; exact xS pre x rest
    have hlen : pre.length + rest.length + 1 ≤ parts.length := by rw [hs]; simp; omega
    have hx : x.length ≤ 4294967296 := hb x (by rw [hs]; simp)
    have IH := bO s sc parts hl hb rest (pre ++ [x]) (by rw [hs]; simp)
    have hc := aU 121 vQ Tq x (by omega)
    rw [show ((pre ++ [x]).length : Int) = (pre.length : Int) + 1 by simp] at IH
    have e0 : (((pre.length : Int) + 1 == 0)) = false := by rw [beq_eq_false_iff_ne]; omega
    rw [e0, Bool.and_false] at IH
    clear hs hb
    refine zz Tryz.func91 rfl rfl ?_
    rw [vL]
    have hN : (x == sF) = (x == [110, 111, 100, 101, 95, 109, 111, 100, 117, 108, 101, 115]) := rfl
    rw [hN]
    cases ha : x.all vQ <;> rw [ha] at hc <;> cases h1 : (x == []) <;> cases h2 : (x == [110, 111, 100, 101, 95, 109, 111, 100, 117, 108, 101, 115]) <;> cases sc <;> cases h3 : ((pre.length : Int) == 0) <;>
      simp (disch := ((try simp only [LL]); omega)) only [↓GO, ↓DRW, GA, ren, zB, zf, refs, zb, cst, zl, zH, z7, E.load, E.store, zG, isC, bin, zI, zJ, una, z8, za, zh, zK, blt, fnV, asArg, zd, zn, zo, zj, zi, zg, zk, zr, z6, zD, zF, mkS, zc, unN, zM, zm, zy, zC, ze, zN, zq, GS, Int.reduceToNat, Nat.reduceGT, ↓reduceIte, Nat.reduceAdd, Nat.reduceMul, Nat.reduceSub, Nat.reduceEqDiff, Nat.reduceLeDiff, Nat.reduceLT, Nat.reduceBEq, Int.reduceBEq, Int.reduceBNe, Int.reduceEq, Int.reduceLT, Int.reduceLE, Int.reduceGT, Int.reduceNeg, reduceCtorEq, GZ, c, hget, zx, hc, h1, h2, h3, IH, zR]
theorem aE (s : Str) (hl : s.length ≤ 1048576) : zE (EV Tryz.prog pol) 91 [.t (.str s)] = some (.t (.bool (vg s))) := by
  have h1 := mB s [64] (by omega) (by simp)
  have h2 := Zy s [64] (by omega) (by simp)
  rw [Ut] at h2
  have ht : (yR s).length ≤ s.length := by
    unfold yR; split
    · simp
    · split
      · simp
      · simp
  have hbk := xI 47 (yR s)
  have h3 := qx (yR s) [47] (by omega) (by simp)
  rw [r4] at h3
  have IH := bO s (oh s) (yi 47 (yR s)) (by omega) (fun p hp => by have := xV hp; omega) _ [] rfl
  rw [show (([64] : Str).isPrefixOf s) = oh s from rfl] at h1
  simp only [List.length_nil, Int.natCast_zero, show ((0 : Int) == 0) = true from rfl, Bool.and_true] at IH
  apply zu
  refine zw rfl Tryz.func91 rfl (by kernel_rfl) ?_
  unfold Tryz.f91
  unfold vg
  cases hp : vL (oh s) (yi 47 (yR s)) <;> rw [hp] at IH <;> simp only [cond_true, cond_false] at IH <;>
    simp (disch := ((try simp only [LL]); omega)) only [↓GO, ↓DRW, GA, ren, zB, zf, refs, zb, cst, zl, zH, z7, E.load, E.store, zG, isC, bin, zI, zJ, una, z8, za, zh, zK, blt, fnV, asArg, zd, zn, zo, zj, zi, zg, zk, zr, z6, zD, zF, mkS, zc, unN, zM, zm, zy, zC, ze, zN, zq, GS, Int.reduceToNat, Nat.reduceGT, ↓reduceIte, Nat.reduceAdd, Nat.reduceMul, Nat.reduceSub, Nat.reduceEqDiff, Nat.reduceLeDiff, Nat.reduceLT, Nat.reduceBEq, Int.reduceBEq, Int.reduceBNe, Int.reduceEq, Int.reduceLT, Int.reduceLE, Int.reduceGT, Int.reduceNeg, reduceCtorEq, GZ, h1, h2, h3, zR, IH]
theorem cD (s : Str) (b : UInt8) (hl : s.length ≤ 4294967296) : ∀ (rest cur pre : Str) (out : List Str) (cap : Option Nat) (m : Nat), s = pre ++ (cur ++ rest) → m = pre.length + cur.length → out.length ≤ m →
    ∃ (out' : List Str) (fr : Nat) (cap' : Option Nat), out'.length ≤ s.length ∧ fr ≤ s.length ∧ out' ++ [s.drop fr] = out ++ (match yi b rest with | p :: r => (cur ++ p) :: r | [] => []) ∧
      EV Tryz.prog pol (.loop 105 122 0 [.t (.str s), .t (.int .u8 (b.toNat : Int)), .sl 0 0 out.length cap, .t (.int .i64 (pre.length : Int)), .t (.int .i64 (m : Int))] [.ts 1 (y6 out)]) = some (.loop (.exit 0) [.t (.str s), .sl 0 0 out'.length cap', .t (.int .i64 (fr : Int))] [.ts 1 (y6 out')])
  | [], cur, pre, out, cap, m, hs, hm, ho => by
    have c : decide ((m : Int) < (s.length : Int)) = false := by simp [hs]; omega
    have hn : s.length = pre.length + cur.length := by rw [hs]; simp
    refine ⟨out, pre.length, cap, by omega, by omega, ?_, ?_⟩
    · simp only [yi, hs, List.append_nil, List.drop_left]
    · refine zz Tryz.func105 rfl rfl ?_
      simp only [↓GO, ↓DRW, GA, ren, zB, zf, refs, zb, cst, zl, zH, z7, E.load, E.store, zG, isC, bin, zI, zJ, una, z8, za, zh, zK, blt, fnV, asArg, zd, zn, zo, zj, zi, zg, zk, zr, z6, zD, zF, mkS, zc, unN, zM, zm, zy, zC, ze, zN, zq, GS, Int.reduceToNat, Nat.reduceGT, ↓reduceIte, Nat.reduceAdd, Nat.reduceMul, Nat.reduceSub, Nat.reduceEqDiff, Nat.reduceLeDiff, Nat.reduceLT, Nat.reduceBEq, Int.reduceBEq, Int.reduceBNe, Int.reduceEq, Int.reduceLT, Int.reduceLE, Int.reduceGT, Int.reduceNeg, reduceCtorEq, c]
  | x :: rest, cur, pre, out, cap, m, hs, hm, ho => by
    have hn : s.length = pre.length + cur.length + rest.length + 1 := by rw [hs]; simp; omega
    have c : decide ((m : Int) < (s.length : Int)) = true := by simp only [decide_eq_true_eq]; omega
    have hget : s[m]? = some x := by
      rw [hs, hm, ← List.append_assoc, ← List.length_append]; exact tj (pre ++ cur) x rest
    by_cases hx : x = b
    · subst hx
      have hcut : (s.drop pre.length).take (m - pre.length) = cur := by
        rw [hs, hm, List.drop_left, show pre.length + cur.length - pre.length = cur.length by omega, List.take_left]
      obtain ⟨out', fr, cap', q1, q2, q3, q4⟩ := cD s x hl rest [] (pre ++ cur ++ [x]) (out ++ [cur]) none (m + 1) (by rw [hs]; simp) (by simp; omega) (by simp; omega)
      refine ⟨out', fr, cap', q1, q2, ?_, ?_⟩
      · rw [q3, wb]
        cases hc : yi x rest with
        | nil => exact absurd hc (yU x rest)
        | cons p r => simp
      · rw [show ((pre ++ cur ++ [x]).length : Int) = (m : Int) + 1 by simp; omega, show ((m + 1 : Nat) : Int) = (m : Int) + 1 by omega] at q4
        rw [uq, xj, yf, List.length_append, List.length_cons, List.length_nil, Nat.zero_add] at q4
        have hol : out.length ≤ 4294967296 := by omega
        clear hs q3
        refine zz Tryz.func105 rfl rfl ?_
        simp (disch := ((try simp only [LL]); omega)) only [↓GO, ↓DRW, GA, ren, zB, zf, refs, zb, cst, zl, zH, z7, E.load, E.store, zG, isC, bin, zI, zJ, una, z8, za, zh, zK, blt, fnV, asArg, zd, zn, zo, zj, zi, zg, zk, zr, z6, zD, zF, mkS, zc, unN, zM, zm, zy, zC, ze, zN, zq, GS, Int.reduceToNat, Nat.reduceGT, ↓reduceIte, Nat.reduceAdd, Nat.reduceMul, Nat.reduceSub, Nat.reduceEqDiff, Nat.reduceLeDiff, Nat.reduceLT, Nat.reduceBEq, Int.reduceBEq, Int.reduceBNe, Int.reduceEq, Int.reduceLT, Int.reduceLE, Int.reduceGT, Int.reduceNeg, reduceCtorEq, GZ, c, hget, zx, hcut, q4, zR, wc]
    · have c2 : ((x.toNat : Int) == (b.toNat : Int)) = false := by
        rw [beq_eq_false_iff_ne]; intro e; exact hx (UInt8.toNat_inj.1 (by omega))
      obtain ⟨out', fr, cap', q1, q2, q3, q4⟩ := cD s b hl rest (cur ++ [x]) pre out cap (m + 1) (by rw [hs]; simp) (by simp; omega) (by omega)
      refine ⟨out', fr, cap', q1, q2, ?_, ?_⟩
      · rw [q3]
        cases hc : yi b rest with
        | nil => exact absurd hc (yU b rest)
        | cons p r => rw [yE b x rest p r hx hc]; simp
      · rw [show ((m + 1 : Nat) : Int) = (m : Int) + 1 by omega] at q4
        clear hs q3
        refine zz Tryz.func105 rfl rfl ?_
        simp (disch := ((try simp only [LL]); omega)) only [↓GO, ↓DRW, GA, ren, zB, zf, refs, zb, cst, zl, zH, z7, E.load, E.store, zG, isC, bin, zI, zJ, una, z8, za, zh, zK, blt, fnV, asArg, zd, zn, zo, zj, zi, zg, zk, zr, z6, zD, zF, mkS, zc, unN, zM, zm, zy, zC, ze, zN, zq, GS, Int.reduceToNat, Nat.reduceGT, ↓reduceIte, Nat.reduceAdd, Nat.reduceMul, Nat.reduceSub, Nat.reduceEqDiff, Nat.reduceLeDiff, Nat.reduceLT, Nat.reduceBEq, Int.reduceBEq, Int.reduceBNe, Int.reduceEq, Int.reduceLT, Int.reduceLE, Int.reduceGT, Int.reduceNeg, reduceCtorEq, GZ, c, hget, zx, c2, q4, zR, wc]
theorem mJ (s : Str) (b : UInt8) (hl : s.length ≤ 4194304) : zE (EV Tryz.prog pol) 105 [.t (.str s), .t (.int .u8 (b.toNat : Int))] = some (.t (.list 1 (y6 (yi b s)))) := by
  obtain ⟨out, fr, cap, q1, q2, q3, q4⟩ := cD s b (by omega) s [] [] [] (some 0) 0 rfl rfl (by simp)
  simp only [List.nil_append, List.length_nil, Int.natCast_zero, yf] at q4 q3
  have e : (match yi b s with | p :: r => p :: r | [] => []) = yi b s := by cases yi b s <;> rfl
  rw [e] at q3
  have ho : (y6 out ++ [[.str (List.drop fr s)]]) = y6 (yi b s) := by rw [← q3, uq]; rfl
  have ht : List.take (out.length + 1) (y6 (yi b s)) = y6 (yi b s) := List.take_of_length_le (by rw [zR, ← q3]; simp)
  apply zu
  refine zw rfl Tryz.func105 rfl (by kernel_rfl) ?_
  unfold Tryz.f105
  simp (disch := ((try simp only [LL]); omega)) only [↓GO, ↓DRW, GA, ren, zB, zf, refs, zb, cst, zl, zH, z7, E.load, E.store, zG, isC, bin, zI, zJ, una, z8, za, zh, zK, blt, fnV, asArg, zd, zn, zo, zj, zi, zg, zk, zr, z6, zD, zF, mkS, zc, unN, zM, zm, zy, zC, ze, zN, zq, GS, Int.reduceToNat, Nat.reduceGT, ↓reduceIte, Nat.reduceAdd, Nat.reduceMul, Nat.reduceSub, Nat.reduceEqDiff, Nat.reduceLeDiff, Nat.reduceLT, Nat.reduceBEq, Int.reduceBEq, Int.reduceBNe, Int.reduceEq, Int.reduceLT, Int.reduceLE, Int.reduceGT, Int.reduceNeg, reduceCtorEq, GZ, q4, zR, wc, ho, ht]
theorem tQ (s : Str) (P : T) (i : T) (p : Str) (hl : p.length ≤ 4294967296) : ∀ (rest pre : Str), p = pre ++ rest →
    EV Tryz.prog pol (.loop 82 59706 0 [.t (.str s), .t P, .t i, .t (.str p), .t (.int .i64 (pre.length : Int))] []) = some (cond (rest.all vQ) (.loop (.exit 2) [.t (.str s), .bad, .t P, .t i, .t (.str p)] []) (.loop .ret [.t (.str s), .t (.bool false), .t P, .t i, .t (.str p)] []))
  | [], pre, hs => by
    have c : decide ((pre.length : Int) < (p.length : Int)) = false := by simp [hs]
    refine zz Tryz.func82 rfl rfl ?_
    simp only [↓GO, ↓DRW, GA, ren, zB, zf, refs, zb, cst, zl, zH, z7, E.load, E.store, zG, isC, bin, zI, zJ, una, z8, za, zh, zK, blt, fnV, asArg, zd, zn, zo, zj, zi, zg, zk, zr, z6, zD, zF, mkS, zc, unN, zM, zm, zy, zC, ze, zN, zq, GS, Int.reduceToNat, Nat.reduceGT, ↓reduceIte, Nat.reduceAdd, Nat.reduceMul, Nat.reduceSub, Nat.reduceEqDiff, Nat.reduceLeDiff, Nat.reduceLT, Nat.reduceBEq, Int.reduceBEq, Int.reduceBNe, Int.reduceEq, Int.reduceLT, Int.reduceLE, Int.reduceGT, Int.reduceNeg, reduceCtorEq, c]
  | b :: rest, pre, hs => by
    have c : decide ((pre.length : Int) < (p.length : Int)) = true := by simp [hs]; omega
    have hget : p[pre.length]? = some b := by rw [hs]; exact tj pre b rest
    have hlen : p.length = pre.length + rest.length + 1 := by rw [hs]; simp; omega
    have IH := tQ s P i p hl rest (pre ++ [b]) (by rw [hs]; simp)
    rw [show ((pre ++ [b]).length : Int) = (pre.length : Int) + 1 by simp] at IH
    have hb := o7 b
    clear hs
    refine zz Tryz.func82 rfl rfl ?_
    rw [List.all_cons, vQ]
    simp only [nb] at *
    cases h1 : (B2 (b.toNat : Int) 97 122 || B2 (b.toNat : Int) 48 57) <;> rw [h1] at hb <;> cases h2 : ((b.toNat : Int) == 46) <;> cases h3 : ((b.toNat : Int) == 95) <;> cases h4 : ((b.toNat : Int) == 45) <;>
      simp (disch := ((try simp only [LL]); omega)) only [↓GO, ↓DRW, GA, ren, zB, zf, refs, zb, cst, zl, zH, z7, E.load, E.store, zG, isC, bin, zI, zJ, una, z8, za, zh, zK, blt, fnV, asArg, zd, zn, zo, zj, zi, zg, zk, zr, z6, zD, zF, mkS, zc, unN, zM, zm, zy, zC, ze, zN, zq, GS, Int.reduceToNat, Nat.reduceGT, ↓reduceIte, Nat.reduceAdd, Nat.reduceMul, Nat.reduceSub, Nat.reduceEqDiff, Nat.reduceLeDiff, Nat.reduceLT, Nat.reduceBEq, Int.reduceBEq, Int.reduceBNe, Int.reduceEq, Int.reduceLT, Int.reduceLE, Int.reduceGT, Int.reduceNeg, reduceCtorEq, GZ, c, hget, zx, hb, h2, h3, h4, bne, IH]
theorem bN (s : Str) (parts : List Str) (hl : parts.length ≤ 4294967296) (hb : ∀ p ∈ parts, p.length ≤ 4294967296) : ∀ (rest pre : List Str), parts = pre ++ rest → pre ≠ [] →
    EV Tryz.prog pol (.loop 82 58 0 [.t (.str s), .t (.list 1 (y6 parts)), .t (.int .i64 (pre.length : Int))] []) = some (cond (mL rest) (.loop (.exit 0) [.t (.str s), .bad] []) (.loop .ret [.t (.str s), .t (.bool false)] []))
  | [], pre, hs, _ => by
    have c : decide ((pre.length : Int) < (parts.length : Int)) = false := by simp [hs]
    refine zz Tryz.func82 rfl rfl ?_
    simp only [↓GO, ↓DRW, GA, ren, zB, zf, refs, zb, cst, zl, zH, z7, E.load, E.store, zG, isC, bin, zI, zJ, una, z8, za, zh, zK, blt, fnV, asArg, zd, zn, zo, zj, zi, zg, zk, zr, z6, zD, zF, mkS, zc, unN, zM, zm, zy, zC, ze, zN, zq, GS, Int.reduceToNat, Nat.reduceGT, ↓reduceIte, Nat.reduceAdd, Nat.reduceMul, Nat.reduceSub, Nat.reduceEqDiff, Nat.reduceLeDiff, Nat.reduceLT, Nat.reduceBEq, Int.reduceBEq, Int.reduceBNe, Int.reduceEq, Int.reduceLT, Int.reduceLE, Int.reduceGT, Int.reduceNeg, reduceCtorEq, zR, c, mL]
  | x :: rest, pre, hs, hn => by
    have c : decide ((pre.length : Int) < (parts.length : Int)) = true := by simp [hs]; omega
    have hget : (y6 parts)[pre.length]? = some [.str x] := by rw [hs]; exact xS pre x rest
    have hlen : pre.length + rest.length + 1 ≤ parts.length := by rw [hs]; simp; omega
    have hx : x.length ≤ 4294967296 := hb x (by rw [hs]; simp)
    have IH := bN s parts hl hb rest (pre ++ [x]) (by rw [hs]; simp) (by simp)
    have hin := tQ s (.list 1 (y6 parts)) (.int .i64 (pre.length : Int)) x hx x [] rfl
    simp only [List.length_nil, Int.natCast_zero] at hin
    rw [show ((pre ++ [x]).length : Int) = (pre.length : Int) + 1 by simp] at IH
    have e0 : (((pre.length : Int) == 0)) = false := by
      rw [beq_eq_false_iff_ne]; intro h; apply hn; apply List.eq_nil_of_length_eq_zero; omega
    clear hs hb
    refine zz Tryz.func82 rfl rfl ?_
    rw [mL]
    have hN : (x == sF) = (x == [110, 111, 100, 101, 95, 109, 111, 100, 117, 108, 101, 115]) := rfl
    rw [hN]
    cases ha : x.all vQ <;> rw [ha] at hin <;> simp only [cond_true, cond_false] at hin <;> cases h1 : (x == []) <;> cases h2 : (x == [110, 111, 100, 101, 95, 109, 111, 100, 117, 108, 101, 115]) <;>
      simp (disch := ((try simp only [LL]); omega)) only [↓GO, ↓DRW, GA, ren, zB, zf, refs, zb, cst, zl, zH, z7, E.load, E.store, zG, isC, bin, zI, zJ, una, z8, za, zh, zK, blt, fnV, asArg, zd, zn, zo, zj, zi, zg, zk, zr, z6, zD, zF, mkS, zc, unN, zM, zm, zy, zC, ze, zN, zq, GS, Int.reduceToNat, Nat.reduceGT, ↓reduceIte, Nat.reduceAdd, Nat.reduceMul, Nat.reduceSub, Nat.reduceEqDiff, Nat.reduceLeDiff, Nat.reduceLT, Nat.reduceBEq, Int.reduceBEq, Int.reduceBNe, Int.reduceEq, Int.reduceLT, Int.reduceLE, Int.reduceGT, Int.reduceNeg, reduceCtorEq, GZ, c, hget, zx, hin, h1, h2, e0, IH, zR]
theorem UY (s : Str) (parts : List Str) (hl : parts.length ≤ 4294967296) (hb : ∀ p ∈ parts, p.length ≤ 4294967296) (x : Str) (rest : List Str) (hs : parts = x :: rest) :
    EV Tryz.prog pol (.loop 82 58 0 [.t (.str s), .t (.list 1 (y6 parts)), .t (.int .i64 0)] []) = some (cond (rJ (x :: rest)) (.loop (.exit 0) [.t (.str s), .bad] []) (.loop .ret [.t (.str s), .t (.bool false)] [])) := by
  have c : decide ((0 : Int) < (parts.length : Int)) = true := by simp only [decide_eq_true_eq, hs, List.length_cons]; omega
  have hget : (y6 parts)[0]? = some [.str x] := by rw [hs]; rfl
  have hx : x.length ≤ 4294967296 := hb x (by rw [hs]; simp)
  have IH := bN s parts hl hb rest [x] hs (by simp)
  simp only [List.length_nil, List.length_cons, Nat.zero_add, Int.natCast_one] at IH
  have hN : (x == sF) = (x == [110, 111, 100, 101, 95, 109, 111, 100, 117, 108, 101, 115]) := rfl
  rw [rJ, hN]
  clear hs hb hN
  cases x with
  | nil =>
    have hin := tQ s (.list 1 (y6 parts)) (.int .i64 0) [] hx [] [] rfl
    simp only [List.length_nil, Int.natCast_zero, List.all_nil, cond_true] at hin
    have h2 : (([] : Str) == [110, 111, 100, 101, 95, 109, 111, 100, 117, 108, 101, 115]) = false := rfl
    have h3 : (([] : Str) == []) = true := rfl
    have h4 : yR [] = [] := rfl
    refine zz Tryz.func82 rfl rfl ?_
    simp (disch := ((try simp only [LL]); omega)) only [↓GO, ↓DRW, GA, ren, zB, zf, refs, zb, cst, zl, zH, z7, E.load, E.store, zG, isC, bin, zI, zJ, una, z8, za, zh, zK, blt, fnV, asArg, zd, zn, zo, zj, zi, zg, zk, zr, z6, zD, zF, mkS, zc, unN, zM, zm, zy, zC, ze, zN, zq, GS, Int.reduceToNat, Nat.reduceGT, ↓reduceIte, Nat.reduceAdd, Nat.reduceMul, Nat.reduceSub, Nat.reduceEqDiff, Nat.reduceLeDiff, Nat.reduceLT, Nat.reduceBEq, Int.reduceBEq, Int.reduceBNe, Int.reduceEq, Int.reduceLT, Int.reduceLE, Int.reduceGT, Int.reduceNeg, reduceCtorEq, GZ, c, hget, zx, hin, zR, h2, h3, h4, Int.natCast_zero]
  | cons y t =>
    have hlt : decide (((y :: t).length : Int) > 0) = true := by simp only [decide_eq_true_eq, List.length_cons]; omega
    have hg0 : (y :: t)[0]? = some y := rfl
    have hyl : 1 ≤ (y :: t).length := by simp
    by_cases h64 : y = 64
    · subst h64
      have hin2 := tQ s (.list 1 (y6 parts)) (.int .i64 0) t (by simp only [List.length_cons] at hx; omega) t [] rfl
      simp only [List.length_nil, Int.natCast_zero] at hin2
      have e1 : (((64 : UInt8) :: t) == [110, 111, 100, 101, 95, 109, 111, 100, 117, 108, 101, 115]) = false := by simp
      have e2 : yR (64 :: t) = t := by simp [yR]
      have e3 : (((64 : UInt8)).toNat : Int) = 64 := rfl
      have hd : List.drop 1 ((64 : UInt8) :: t) = t := rfl
      rw [e2]
      generalize hy : (64 : UInt8) :: t = yy at *
      cases ha : t.all vQ <;> rw [ha] at hin2 <;> simp only [cond_true, cond_false] at hin2 <;> cases h1 : (t == []) <;>
        refine zz Tryz.func82 rfl rfl ?_ <;> simp (disch := ((try simp only [LL]); omega)) only [↓GO, ↓DRW, GA, ren, zB, zf, refs, zb, cst, zl, zH, z7, E.load, E.store, zG, isC, bin, zI, zJ, una, z8, za, zh, zK, blt, fnV, asArg, zd, zn, zo, zj, zi, zg, zk, zr, z6, zD, zF, mkS, zc, unN, zM, zm, zy, zC, ze, zN, zq, GS, Int.reduceToNat, Nat.reduceGT, ↓reduceIte, Nat.reduceAdd, Nat.reduceMul, Nat.reduceSub, Nat.reduceEqDiff, Nat.reduceLeDiff, Nat.reduceLT, Nat.reduceBEq, Int.reduceBEq, Int.reduceBNe, Int.reduceEq, Int.reduceLT, Int.reduceLE, Int.reduceGT, Int.reduceNeg, reduceCtorEq, GZ, c, hget, zx, hin2, zR, e1, e3, hlt, hg0, hd, h1, IH, Int.zero_add]
    · have e2 : yR (y :: t) = y :: t := by simp [yR, h64]
      have e3 : ((y.toNat : Int) == 64) = false := by
        rw [beq_eq_false_iff_ne]; intro h; exact h64 (UInt8.toNat_inj.1 (by rw [show (64 : UInt8).toNat = 64 from rfl]; omega))
      have hin := tQ s (.list 1 (y6 parts)) (.int .i64 0) (y :: t) hx (y :: t) [] rfl
      simp only [List.length_nil, Int.natCast_zero] at hin
      rw [e2]
      have h1 : ((y :: t) == []) = false := rfl
      generalize hy : y :: t = yy at *
      cases ha : yy.all vQ <;> rw [ha] at hin <;> simp only [cond_true, cond_false] at hin <;> cases h2 : (yy == [110, 111, 100, 101, 95, 109, 111, 100, 117, 108, 101, 115]) <;>
        refine zz Tryz.func82 rfl rfl ?_ <;> simp (disch := ((try simp only [LL]); omega)) only [↓GO, ↓DRW, GA, ren, zB, zf, refs, zb, cst, zl, zH, z7, E.load, E.store, zG, isC, bin, zI, zJ, una, z8, za, zh, zK, blt, fnV, asArg, zd, zn, zo, zj, zi, zg, zk, zr, z6, zD, zF, mkS, zc, unN, zM, zm, zy, zC, ze, zN, zq, GS, Int.reduceToNat, Nat.reduceGT, ↓reduceIte, Nat.reduceAdd, Nat.reduceMul, Nat.reduceSub, Nat.reduceEqDiff, Nat.reduceLeDiff, Nat.reduceLT, Nat.reduceBEq, Int.reduceBEq, Int.reduceBNe, Int.reduceEq, Int.reduceLT, Int.reduceLE, Int.reduceGT, Int.reduceNeg, reduceCtorEq, GZ, c, hget, zx, hin, zR, e3, hlt, hg0, h1, h2, IH, Int.zero_add]
theorem aD (s : Str) (hl : s.length ≤ 1048576) : zE (EV Tryz.prog pol) 82 [.t (.str s)] = some (.t (.bool (vg s))) := by
  have hbk := xI 47 s
  have h3 := mJ s 47 (by omega)
  rw [show (((47 : UInt8)).toNat : Int) = 47 from rfl] at h3
  rw [← Zf]
  cases hc : yi 47 s with
  | nil => exact absurd hc (yU 47 s)
  | cons x rest =>
    rw [hc] at h3 hbk
    have hb : ∀ p ∈ x :: rest, p.length ≤ 4294967296 := fun p hp => by have := xV hp; omega
    have LP := UY s (x :: rest) (by omega) hb x rest rfl
    generalize x :: rest = parts at *
    apply zu
    refine zw rfl Tryz.func82 rfl (by kernel_rfl) ?_
    unfold Tryz.f82
    cases hp : rJ parts <;> rw [hp] at LP <;> simp only [cond_true, cond_false] at LP <;>
      simp (disch := ((try simp only [LL]); omega)) only [↓GO, ↓DRW, GA, ren, zB, zf, refs, zb, cst, zl, zH, z7, E.load, E.store, zG, isC, bin, zI, zJ, una, z8, za, zh, zK, blt, fnV, asArg, zd, zn, zo, zj, zi, zg, zk, zr, z6, zD, zF, mkS, zc, unN, zM, zm, zy, zC, ze, zN, zq, GS, Int.reduceToNat, Nat.reduceGT, ↓reduceIte, Nat.reduceAdd, Nat.reduceMul, Nat.reduceSub, Nat.reduceEqDiff, Nat.reduceLeDiff, Nat.reduceLT, Nat.reduceBEq, Int.reduceBEq, Int.reduceBNe, Int.reduceEq, Int.reduceLT, Int.reduceLE, Int.reduceGT, Int.reduceNeg, reduceCtorEq, GZ, h3, LP]
theorem XE (b : UInt8) : zE (EV Tryz.prog pol) 125 [.t (.int .u8 (b.toNat : Int))] = some (.t (.bool (rI b))) := by
  apply zu
  refine zw rfl Tryz.func125 rfl (by kernel_rfl) ?_
  unfold Tryz.f125
  unfold rI B2
  simp only [nb]
  cases h1 : decide ((33 : Int) ≤ (b.toNat : Int)) <;> cases h2 : decide ((b.toNat : Int) ≤ 126) <;> cases h3 : ((b.toNat : Int) == 34) <;> cases h4 : ((b.toNat : Int) == 39) <;> cases h5 : ((b.toNat : Int) == 44) <;>
    simp (disch := ((try simp only [LL]); omega)) only [↓GO, ↓DRW, GA, ren, zB, zf, refs, zb, cst, zl, zH, z7, E.load, E.store, zG, isC, bin, zI, zJ, una, z8, za, zh, zK, blt, fnV, asArg, zd, zn, zo, zj, zi, zg, zk, zr, z6, zD, zF, mkS, zc, unN, zM, zm, zy, zC, ze, zN, zq, GS, Int.reduceToNat, Nat.reduceGT, ↓reduceIte, Nat.reduceAdd, Nat.reduceMul, Nat.reduceSub, Nat.reduceEqDiff, Nat.reduceLeDiff, Nat.reduceLT, Nat.reduceBEq, Int.reduceBEq, Int.reduceBNe, Int.reduceEq, Int.reduceLT, Int.reduceLE, Int.reduceGT, Int.reduceNeg, reduceCtorEq, GZ, h1, h2, h3, h4, h5, bne, ge_iff_le]
theorem ek (s : Str) (hl : s.length ≤ 1048576) : zE (EV Tryz.prog pol) 93 [.t (.str s)] = some (.t (.bool (wv s))) := by
  have h := aU 125 rI XE s (by omega)
  apply zu
  refine zw rfl Tryz.func93 rfl (by kernel_rfl) ?_
  unfold Tryz.f93
  unfold wv
  cases h1 : decide ((s.length : Int) ≤ 100) <;> simp (disch := ((try simp only [LL]); omega)) only [↓GO, ↓DRW, GA, ren, zB, zf, refs, zb, cst, zl, zH, z7, E.load, E.store, zG, isC, bin, zI, zJ, una, z8, za, zh, zK, blt, fnV, asArg, zd, zn, zo, zj, zi, zg, zk, zr, z6, zD, zF, mkS, zc, unN, zM, zm, zy, zC, ze, zN, zq, GS, Int.reduceToNat, Nat.reduceGT, ↓reduceIte, Nat.reduceAdd, Nat.reduceMul, Nat.reduceSub, Nat.reduceEqDiff, Nat.reduceLeDiff, Nat.reduceLT, Nat.reduceBEq, Int.reduceBEq, Int.reduceBNe, Int.reduceEq, Int.reduceLT, Int.reduceLE, Int.reduceGT, Int.reduceNeg, reduceCtorEq, GZ, h, h1]
theorem fe (s : Str) (hl : s.length ≤ 1048576) : ∀ (rest pre : Str), s = pre ++ rest →
    EV Tryz.prog pol (.loop 84 26 0 [.t (.str s), .t (.int .i64 (pre.length : Int))] []) = some (cond (rest.all rI) (.loop (.exit 0) [.t (.str s), .bad] []) (.loop .ret [.t (.str s), .t (.bool false)] []))
  | [], pre, hs => by
    have c : decide ((pre.length : Int) < (s.length : Int)) = false := by simp [hs]
    refine zz Tryz.func84 rfl rfl ?_
    simp only [↓GO, ↓DRW, GA, ren, zB, zf, refs, zb, cst, zl, zH, z7, E.load, E.store, zG, isC, bin, zI, zJ, una, z8, za, zh, zK, blt, fnV, asArg, zd, zn, zo, zj, zi, zg, zk, zr, z6, zD, zF, mkS, zc, unN, zM, zm, zy, zC, ze, zN, zq, GS, Int.reduceToNat, Nat.reduceGT, ↓reduceIte, Nat.reduceAdd, Nat.reduceMul, Nat.reduceSub, Nat.reduceEqDiff, Nat.reduceLeDiff, Nat.reduceLT, Nat.reduceBEq, Int.reduceBEq, Int.reduceBNe, Int.reduceEq, Int.reduceLT, Int.reduceLE, Int.reduceGT, Int.reduceNeg, reduceCtorEq, c]
  | b :: rest, pre, hs => by
    have c : decide ((pre.length : Int) < (s.length : Int)) = true := by simp [hs]; omega
    have hget : s[pre.length]? = some b := by rw [hs]; exact tj pre b rest
    have hlen : s.length = pre.length + rest.length + 1 := by rw [hs]; simp; omega
    have IH := fe s hl rest (pre ++ [b]) (by rw [hs]; simp)
    rw [show ((pre ++ [b]).length : Int) = (pre.length : Int) + 1 by simp] at IH
    have hb := xL (b.toNat : Int) 33 126
    clear hs
    refine zz Tryz.func84 rfl rfl ?_
    rw [List.all_cons, rI]
    simp only [nb]
    cases h1 : B2 (b.toNat : Int) 33 126 <;> rw [h1] at hb <;> cases h3 : ((b.toNat : Int) == 34) <;> cases h4 : ((b.toNat : Int) == 39) <;> cases h5 : ((b.toNat : Int) == 44) <;> cases h6 : ((b.toNat : Int) == 92) <;>
      simp (disch := ((try simp only [LL]); omega)) only [↓GO, ↓DRW, GA, ren, zB, zf, refs, zb, cst, zl, zH, z7, E.load, E.store, zG, isC, bin, zI, zJ, una, z8, za, zh, zK, blt, fnV, asArg, zd, zn, zo, zj, zi, zg, zk, zr, z6, zD, zF, mkS, zc, unN, zM, zm, zy, zC, ze, zN, zq, GS, Int.reduceToNat, Nat.reduceGT, ↓reduceIte, Nat.reduceAdd, Nat.reduceMul, Nat.reduceSub, Nat.reduceEqDiff, Nat.reduceLeDiff, Nat.reduceLT, Nat.reduceBEq, Int.reduceBEq, Int.reduceBNe, Int.reduceEq, Int.reduceLT, Int.reduceLE, Int.reduceGT, Int.reduceNeg, reduceCtorEq, GZ, c, hget, zx, conv, wrap_u8, hb, h3, h4, h5, h6, bne, IH]
theorem ej (s : Str) (hl : s.length ≤ 1048576) : zE (EV Tryz.prog pol) 84 [.t (.str s)] = some (.t (.bool (wv s))) := by
  have IH := fe s hl s [] rfl
  simp only [List.length_nil, Int.natCast_zero] at IH
  apply zu
  refine zw rfl Tryz.func84 rfl (by kernel_rfl) ?_
  unfold Tryz.f84
  unfold wv
  cases ha : s.all rI <;> rw [ha] at IH <;> simp only [cond_true, cond_false] at IH
  · simp (disch := ((try simp only [LL]); omega)) only [↓GO, ↓DRW, GA, ren, zB, zf, refs, zb, cst, zl, zH, z7, E.load, E.store, zG, isC, bin, zI, zJ, una, z8, za, zh, zK, blt, fnV, asArg, zd, zn, zo, zj, zi, zg, zk, zr, z6, zD, zF, mkS, zc, unN, zM, zm, zy, zC, ze, zN, zq, GS, Int.reduceToNat, Nat.reduceGT, ↓reduceIte, Nat.reduceAdd, Nat.reduceMul, Nat.reduceSub, Nat.reduceEqDiff, Nat.reduceLeDiff, Nat.reduceLT, Nat.reduceBEq, Int.reduceBEq, Int.reduceBNe, Int.reduceEq, Int.reduceLT, Int.reduceLE, Int.reduceGT, Int.reduceNeg, reduceCtorEq, GZ, IH]
  · cases h1 : decide ((s.length : Int) ≤ 100) with
    | false => simp (disch := ((try simp only [LL]); omega)) only [↓GO, ↓DRW, GA, ren, zB, zf, refs, zb, cst, zl, zH, z7, E.load, E.store, zG, isC, bin, zI, zJ, una, z8, za, zh, zK, blt, fnV, asArg, zd, zn, zo, zj, zi, zg, zk, zr, z6, zD, zF, mkS, zc, unN, zM, zm, zy, zC, ze, zN, zq, GS, Int.reduceToNat, Nat.reduceGT, ↓reduceIte, Nat.reduceAdd, Nat.reduceMul, Nat.reduceSub, Nat.reduceEqDiff, Nat.reduceLeDiff, Nat.reduceLT, Nat.reduceBEq, Int.reduceBEq, Int.reduceBNe, Int.reduceEq, Int.reduceLT, Int.reduceLE, Int.reduceGT, Int.reduceNeg, reduceCtorEq, GZ, IH, h1]
    | true =>
      have h2 := of_decide_eq_true h1
      have h3 : decide ((s.length : Int) < 20000) = true := by simp only [decide_eq_true_eq]; omega
      simp (disch := ((try simp only [LL]); omega)) only [↓GO, ↓DRW, GA, ren, zB, zf, refs, zb, cst, zl, zH, z7, E.load, E.store, zG, isC, bin, zI, zJ, una, z8, za, zh, zK, blt, fnV, asArg, zd, zn, zo, zj, zi, zg, zk, zr, z6, zD, zF, mkS, zc, unN, zM, zm, zy, zC, ze, zN, zq, GS, Int.reduceToNat, Nat.reduceGT, ↓reduceIte, Nat.reduceAdd, Nat.reduceMul, Nat.reduceSub, Nat.reduceEqDiff, Nat.reduceLeDiff, Nat.reduceLT, Nat.reduceBEq, Int.reduceBEq, Int.reduceBNe, Int.reduceEq, Int.reduceLT, Int.reduceLE, Int.reduceGT, Int.reduceNeg, reduceCtorEq, GZ, IH, h1, h3]
end Go.Proofs.YtmcephnfcciloaaGreatDoor
/- Versions, by both. Conditions: those of each lemma. -/
namespace Go.Proofs.YtmcephnfcciloaaGreatDoor
open E
set_option linter.unusedSimpArgs false
set_option linter.unusedVariables false
set_option maxRecDepth 100000
theorem zY (h : Heap) (ids : List Nat) : reach h 3 ids = vK h 3 ids := (ud h 3 ids).symm
theorem TV (n : Int) : B2 n 0 999999999 = n9 n := rfl
/-- a version of bounded size -/
def Ver.sm (v : Ver) : Prop := v.pre.length + yk v.pre ≤ 2097152
theorem vZ {α : Type} [BEq α] (l : List α) : ((l.length : Int) == 0) = (l == []) := by
  cases l with
  | nil => rfl
  | cons x l =>
    have h1 : ((x :: l) == []) = false := rfl
    have h2 : (((x :: l).length : Int) == 0) = false := by rw [beq_eq_false_iff_ne]; simp only [List.length_cons]; omega
    rw [h1, h2]
theorem jQ {α : Type} [BEq α] (l : List α) : decide ((l.length : Int) > 0) = !(l == []) := by
  cases l with
  | nil => rfl
  | cons x l =>
    have h1 : ((x :: l) == []) = false := rfl
    have h2 : decide (((x :: l).length : Int) > 0) = true := by simp only [decide_eq_true_eq, List.length_cons]; omega
    rw [h1, h2]; rfl
theorem VX (b : UInt8) : B2 (b.toNat : Int) 48 57 = isD b := cI b
theorem dq (a : Int) : zE (EV Tryz.prog pol) 185 [.t (.int .u8 a)] = some (.t (.bool (B2 a 97 122 || B2 a 65 90))) := by
  have h1 := kG a
  apply zu
  refine zw rfl Tryz.func185 rfl (by kernel_rfl) ?_
  unfold Tryz.f185
  cases h2 : B2 a 97 122 <;> rw [h2] at h1
  · unfold B2
    cases h3 : decide ((65 : Int) ≤ a) <;> simp (disch := ((try simp only [LL]); omega)) only [↓GO, ↓DRW, GA, ren, zB, zf, refs, zb, cst, zl, zH, z7, E.load, E.store, zG, isC, bin, zI, zJ, una, z8, za, zh, zK, blt, fnV, asArg, zd, zn, zo, zj, zi, zg, zk, zr, z6, zD, zF, mkS, zc, unN, zM, zm, zy, zC, ze, zN, zq, GS, Int.reduceToNat, Nat.reduceGT, ↓reduceIte, Nat.reduceAdd, Nat.reduceMul, Nat.reduceSub, Nat.reduceEqDiff, Nat.reduceLeDiff, Nat.reduceLT, Nat.reduceBEq, Int.reduceBEq, Int.reduceBNe, Int.reduceEq, Int.reduceLT, Int.reduceLE, Int.reduceGT, Int.reduceNeg, reduceCtorEq, GZ, h1, h3, ge_iff_le]
  · simp (disch := ((try simp only [LL]); omega)) only [↓GO, ↓DRW, GA, ren, zB, zf, refs, zb, cst, zl, zH, z7, E.load, E.store, zG, isC, bin, zI, zJ, una, z8, za, zh, zK, blt, fnV, asArg, zd, zn, zo, zj, zi, zg, zk, zr, z6, zD, zF, mkS, zc, unN, zM, zm, zy, zC, ze, zN, zq, GS, Int.reduceToNat, Nat.reduceGT, ↓reduceIte, Nat.reduceAdd, Nat.reduceMul, Nat.reduceSub, Nat.reduceEqDiff, Nat.reduceLeDiff, Nat.reduceLT, Nat.reduceBEq, Int.reduceBEq, Int.reduceBNe, Int.reduceEq, Int.reduceLT, Int.reduceLE, Int.reduceGT, Int.reduceNeg, reduceCtorEq, GZ, h1]
theorem SK (b : UInt8) : zE (EV Tryz.prog pol) 184 [.t (.int .u8 (b.toNat : Int))] = some (.t (.bool (preB b))) := by
  have h1 := dq (b.toNat : Int)
  have h2 := qX (b.toNat : Int)
  apply zu
  refine zw rfl Tryz.func184 rfl (by kernel_rfl) ?_
  unfold Tryz.f184
  unfold preB
  simp only [nb]
  cases h3 : B2 (b.toNat : Int) 97 122 <;> cases h4 : B2 (b.toNat : Int) 65 90 <;> cases h5 : B2 (b.toNat : Int) 48 57 <;> rw [h3, h4] at h1 <;> rw [h5] at h2 <;>
    simp (disch := ((try simp only [LL]); omega)) only [↓GO, ↓DRW, GA, ren, zB, zf, refs, zb, cst, zl, zH, z7, E.load, E.store, zG, isC, bin, zI, zJ, una, z8, za, zh, zK, blt, fnV, asArg, zd, zn, zo, zj, zi, zg, zk, zr, z6, zD, zF, mkS, zc, unN, zM, zm, zy, zC, ze, zN, zq, GS, Int.reduceToNat, Nat.reduceGT, ↓reduceIte, Nat.reduceAdd, Nat.reduceMul, Nat.reduceSub, Nat.reduceEqDiff, Nat.reduceLeDiff, Nat.reduceLT, Nat.reduceBEq, Int.reduceBEq, Int.reduceBNe, Int.reduceEq, Int.reduceLT, Int.reduceLE, Int.reduceGT, Int.reduceNeg, reduceCtorEq, GZ, h1, h2]
theorem Tt (b : UInt8) : zE (EV Tryz.prog pol) 123 [.t (.int .u8 (b.toNat : Int))] = some (.t (.bool (isD b))) := by
  rw [qX, VX]
theorem jD (s : Str) (hl : s.length ≤ 9223372036854775807) : zE (EV Tryz.prog pol) 186 [.t (.str s)] = some (.t (.bool (isNum s))) := by
  have h := aU 123 isD Tt s hl
  apply zu
  refine zw rfl Tryz.func186 rfl (by kernel_rfl) ?_
  unfold Tryz.f186
  unfold isNum
  cases h1 : (s == []) <;> simp (disch := ((try simp only [LL]); omega)) only [↓GO, ↓DRW, GA, ren, zB, zf, refs, zb, cst, zl, zH, z7, E.load, E.store, zG, isC, bin, zI, zJ, una, z8, za, zh, zK, blt, fnV, asArg, zd, zn, zo, zj, zi, zg, zk, zr, z6, zD, zF, mkS, zc, unN, zM, zm, zy, zC, ze, zN, zq, GS, Int.reduceToNat, Nat.reduceGT, ↓reduceIte, Nat.reduceAdd, Nat.reduceMul, Nat.reduceSub, Nat.reduceEqDiff, Nat.reduceLeDiff, Nat.reduceLT, Nat.reduceBEq, Int.reduceBEq, Int.reduceBNe, Int.reduceEq, Int.reduceLT, Int.reduceLE, Int.reduceGT, Int.reduceNeg, reduceCtorEq, GZ, h, h1, bne]
theorem UX (x1 x2 x3 x4 : T) (a b c : Int) :
    EV Tryz.prog pol (.loop 164 26 0 [.ptr 0 0 0, .sl 1 0 3 (some 3), .t (.int .i64 3), .t (.int .i64 0)] [.vs 4 [[.t x1, .t x2, .t x3, .t x4]], .ts 1 [[.int .i64 a], [.int .i64 b], [.int .i64 c]]])
    = some (cond (n9 a && (n9 b && n9 c)) (.loop (.exit 0) [.ptr 0 0 0, .bad] [.vs 4 [[.t x1, .t x2, .t x3, .t x4]]]) (.loop .ret [.ptr 0 0 0, .t (.bool false)] [.vs 4 [[.t x1, .t x2, .t x3, .t x4]]])) := by
  have ha := uA a 0 999999999
  have hb := uA b 0 999999999
  have hc := uA c 0 999999999
  rw [TV] at ha hb hc
  cases h1 : n9 a <;> rw [h1] at ha
  · refine zz Tryz.func164 rfl rfl ?_
    simp (disch := ((try simp only [LL]); omega)) only [↓GO, ↓DRW, GA, ren, zB, zf, refs, zb, cst, zl, zH, z7, E.load, E.store, zG, isC, bin, zI, zJ, una, z8, za, zh, zK, blt, fnV, asArg, zd, zn, zo, zj, zi, zg, zk, zr, z6, zD, zF, mkS, zc, unN, zM, zm, zy, zC, ze, zN, zq, GS, Int.reduceToNat, Nat.reduceGT, ↓reduceIte, Nat.reduceAdd, Nat.reduceMul, Nat.reduceSub, Nat.reduceEqDiff, Nat.reduceLeDiff, Nat.reduceLT, Nat.reduceBEq, Int.reduceBEq, Int.reduceBNe, Int.reduceEq, Int.reduceLT, Int.reduceLE, Int.reduceGT, Int.reduceNeg, reduceCtorEq, GZ, ha, zx, zY, Int.cast_ofNat_Int]
  · refine zz Tryz.func164 rfl rfl ?_
    simp (disch := ((try simp only [LL]); omega)) only [↓GO, ↓DRW, GA, ren, zB, zf, refs, zb, cst, zl, zH, z7, E.load, E.store, zG, isC, bin, zI, zJ, una, z8, za, zh, zK, blt, fnV, asArg, zd, zn, zo, zj, zi, zg, zk, zr, z6, zD, zF, mkS, zc, unN, zM, zm, zy, zC, ze, zN, zq, GS, Int.reduceToNat, Nat.reduceGT, ↓reduceIte, Nat.reduceAdd, Nat.reduceMul, Nat.reduceSub, Nat.reduceEqDiff, Nat.reduceLeDiff, Nat.reduceLT, Nat.reduceBEq, Int.reduceBEq, Int.reduceBNe, Int.reduceEq, Int.reduceLT, Int.reduceLE, Int.reduceGT, Int.reduceNeg, reduceCtorEq, GZ, ha, zx, zY, Int.cast_ofNat_Int]
    cases h2 : n9 b <;> rw [h2] at hb
    · refine zz Tryz.func164 rfl rfl ?_
      simp (disch := ((try simp only [LL]); omega)) only [↓GO, ↓DRW, GA, ren, zB, zf, refs, zb, cst, zl, zH, z7, E.load, E.store, zG, isC, bin, zI, zJ, una, z8, za, zh, zK, blt, fnV, asArg, zd, zn, zo, zj, zi, zg, zk, zr, z6, zD, zF, mkS, zc, unN, zM, zm, zy, zC, ze, zN, zq, GS, Int.reduceToNat, Nat.reduceGT, ↓reduceIte, Nat.reduceAdd, Nat.reduceMul, Nat.reduceSub, Nat.reduceEqDiff, Nat.reduceLeDiff, Nat.reduceLT, Nat.reduceBEq, Int.reduceBEq, Int.reduceBNe, Int.reduceEq, Int.reduceLT, Int.reduceLE, Int.reduceGT, Int.reduceNeg, reduceCtorEq, GZ, hb, zx, Int.zero_add, zY, Int.cast_ofNat_Int, Int.reduceAdd]
    · refine zz Tryz.func164 rfl rfl ?_
      simp (disch := ((try simp only [LL]); omega)) only [↓GO, ↓DRW, GA, ren, zB, zf, refs, zb, cst, zl, zH, z7, E.load, E.store, zG, isC, bin, zI, zJ, una, z8, za, zh, zK, blt, fnV, asArg, zd, zn, zo, zj, zi, zg, zk, zr, z6, zD, zF, mkS, zc, unN, zM, zm, zy, zC, ze, zN, zq, GS, Int.reduceToNat, Nat.reduceGT, ↓reduceIte, Nat.reduceAdd, Nat.reduceMul, Nat.reduceSub, Nat.reduceEqDiff, Nat.reduceLeDiff, Nat.reduceLT, Nat.reduceBEq, Int.reduceBEq, Int.reduceBNe, Int.reduceEq, Int.reduceLT, Int.reduceLE, Int.reduceGT, Int.reduceNeg, reduceCtorEq, GZ, hb, zx, Int.zero_add, zY, Int.cast_ofNat_Int, Int.reduceAdd]
      cases h3 : n9 c <;> rw [h3] at hc
      · refine zz Tryz.func164 rfl rfl ?_
        simp (disch := ((try simp only [LL]); omega)) only [↓GO, ↓DRW, GA, ren, zB, zf, refs, zb, cst, zl, zH, z7, E.load, E.store, zG, isC, bin, zI, zJ, una, z8, za, zh, zK, blt, fnV, asArg, zd, zn, zo, zj, zi, zg, zk, zr, z6, zD, zF, mkS, zc, unN, zM, zm, zy, zC, ze, zN, zq, GS, Int.reduceToNat, Nat.reduceGT, ↓reduceIte, Nat.reduceAdd, Nat.reduceMul, Nat.reduceSub, Nat.reduceEqDiff, Nat.reduceLeDiff, Nat.reduceLT, Nat.reduceBEq, Int.reduceBEq, Int.reduceBNe, Int.reduceEq, Int.reduceLT, Int.reduceLE, Int.reduceGT, Int.reduceNeg, reduceCtorEq, GZ, hc, zx, Int.zero_add, zY, Int.cast_ofNat_Int, Int.reduceAdd]
      · refine zz Tryz.func164 rfl rfl ?_
        simp (disch := ((try simp only [LL]); omega)) only [↓GO, ↓DRW, GA, ren, zB, zf, refs, zb, cst, zl, zH, z7, E.load, E.store, zG, isC, bin, zI, zJ, una, z8, za, zh, zK, blt, fnV, asArg, zd, zn, zo, zj, zi, zg, zk, zr, z6, zD, zF, mkS, zc, unN, zM, zm, zy, zC, ze, zN, zq, GS, Int.reduceToNat, Nat.reduceGT, ↓reduceIte, Nat.reduceAdd, Nat.reduceMul, Nat.reduceSub, Nat.reduceEqDiff, Nat.reduceLeDiff, Nat.reduceLT, Nat.reduceBEq, Int.reduceBEq, Int.reduceBNe, Int.reduceEq, Int.reduceLT, Int.reduceLE, Int.reduceGT, Int.reduceNeg, reduceCtorEq, GZ, hc, zx, Int.zero_add, zY, Int.cast_ofNat_Int, Int.reduceAdd]
        refine zz Tryz.func164 rfl rfl ?_
        simp (disch := ((try simp only [LL]); omega)) only [↓GO, ↓DRW, GA, ren, zB, zf, refs, zb, cst, zl, zH, z7, E.load, E.store, zG, isC, bin, zI, zJ, una, z8, za, zh, zK, blt, fnV, asArg, zd, zn, zo, zj, zi, zg, zk, zr, z6, zD, zF, mkS, zc, unN, zM, zm, zy, zC, ze, zN, zq, GS, Int.reduceToNat, Nat.reduceGT, ↓reduceIte, Nat.reduceAdd, Nat.reduceMul, Nat.reduceSub, Nat.reduceEqDiff, Nat.reduceLeDiff, Nat.reduceLT, Nat.reduceBEq, Int.reduceBEq, Int.reduceBNe, Int.reduceEq, Int.reduceLT, Int.reduceLE, Int.reduceGT, Int.reduceNeg, reduceCtorEq, GZ, zx, Int.zero_add, zY, Int.cast_ofNat_Int, Int.reduceAdd]
theorem bJ (v : Ver) (hs : v.sm) : ∀ (rest pre : List Str), v.pre = pre ++ rest →
    EV Tryz.prog pol (.loop 164 58 0 [.ptr 0 0 0, .t (.list 1 (y6 v.pre)), .t (.int .i64 (v.pre.length : Int)), .t (.int .i64 (pre.length : Int))] [.vs 4 [v.enc.map .t]])
    = some (cond (rest.all wi) (.loop (.exit 2) [.ptr 0 0 0, .bad] [.vs 4 [v.enc.map .t]]) (.loop .ret [.ptr 0 0 0, .t (.bool false)] [.vs 4 [v.enc.map .t]]))
  | [], pre, hp => by
    have c : decide ((pre.length : Int) < (v.pre.length : Int)) = false := by simp [hp]
    refine zz Tryz.func164 rfl rfl ?_
    simp only [↓GO, ↓DRW, GA, ren, zB, zf, refs, zb, cst, zl, zH, z7, E.load, E.store, zG, isC, bin, zI, zJ, una, z8, za, zh, zK, blt, fnV, asArg, zd, zn, zo, zj, zi, zg, zk, zr, z6, zD, zF, mkS, zc, unN, zM, zm, zy, zC, ze, zN, zq, GS, Int.reduceToNat, Nat.reduceGT, ↓reduceIte, Nat.reduceAdd, Nat.reduceMul, Nat.reduceSub, Nat.reduceEqDiff, Nat.reduceLeDiff, Nat.reduceLT, Nat.reduceBEq, Int.reduceBEq, Int.reduceBNe, Int.reduceEq, Int.reduceLT, Int.reduceLE, Int.reduceGT, Int.reduceNeg, reduceCtorEq, c, Ver.enc]
  | x :: rest, pre, hp => by
    unfold Ver.sm at hs
    have c : decide ((pre.length : Int) < (v.pre.length : Int)) = true := by simp [hp]; omega
    have hget : (y6 v.pre)[pre.length]? = some [.str x] := by rw [hp]; exact xS pre x rest
    have hlen : pre.length + rest.length + 1 ≤ v.pre.length := by rw [hp]; simp; omega
    have hx : x.length ≤ 2097152 := by have := xV (ks := v.pre) (s := x) (by rw [hp]; simp); omega
    have IH := bJ v hs rest (pre ++ [x]) (by rw [hp]; simp)
    rw [show ((pre ++ [x]).length : Int) = (pre.length : Int) + 1 by simp] at IH
    have h1 := uA (x.length : Int) 1 20
    have h2 := aU 184 preB SK x (by omega)
    have h3 := jD x (by omega)
    have h4 := mQ x (by omega)
    clear hp
    simp only [Ver.enc, List.map_cons, List.map_nil] at IH ⊢
    rw [List.all_cons, wi]
    have e4 : decide (zO x < 0) = !decide (0 ≤ zO x) := by
      rcases Int.lt_or_le (zO x) 0 with h | h
      · have a : ¬ (0 ≤ zO x) := by omega
        simp [h, a]
      · have a : ¬ (zO x < 0) := by omega
        simp [h, a]
    generalize B2 (x.length : Int) 1 20 = b1 at *
    generalize x.all preB = b2 at *
    generalize isNum x = b3 at *
    generalize zO x = rd at *
    generalize decide (0 ≤ rd) = b4 at *
    cases b1 <;> cases b2 <;> cases b3 <;> cases b4 <;> refine zz Tryz.func164 rfl rfl ?_ <;>
      simp (disch := ((try simp only [LL]); omega)) only [↓GO, ↓DRW, GA, ren, zB, zf, refs, zb, cst, zl, zH, z7, E.load, E.store, zG, isC, bin, zI, zJ, una, z8, za, zh, zK, blt, fnV, asArg, zd, zn, zo, zj, zi, zg, zk, zr, z6, zD, zF, mkS, zc, unN, zM, zm, zy, zC, ze, zN, zq, GS, Int.reduceToNat, Nat.reduceGT, ↓reduceIte, Nat.reduceAdd, Nat.reduceMul, Nat.reduceSub, Nat.reduceEqDiff, Nat.reduceLeDiff, Nat.reduceLT, Nat.reduceBEq, Int.reduceBEq, Int.reduceBNe, Int.reduceEq, Int.reduceLT, Int.reduceLE, Int.reduceGT, Int.reduceNeg, reduceCtorEq, GZ, c, hget, zx, h1, h2, h3, h4, e4, zR, IH, zY]
theorem SG (v : Ver) (hs : v.sm) : zE (EV Tryz.prog pol) 164 [.agg (v.enc.map .t)] = some (.t (.bool (yv v))) := by
  have h1 := UX (.int .i64 v.maj) (.int .i64 v.min) (.int .i64 v.pat) (.list 1 (y6 v.pre)) v.maj v.min v.pat
  have h2 := bJ v hs v.pre [] rfl
  unfold Ver.sm at hs
  simp only [List.length_nil, Int.natCast_zero] at h2
  simp only [Ver.enc, List.map_cons, List.map_nil] at h1 h2 ⊢
  unfold yv
  generalize (n9 v.maj && (n9 v.min && n9 v.pat)) = b1 at *
  generalize v.pre.all wi = b2 at *
  apply zu
  refine zw rfl Tryz.func164 rfl (by kernel_rfl) ?_
  unfold Tryz.f164
  cases b1 <;> cases b2 <;> simp only [cond_true, cond_false] at h1 h2 <;>
    simp (disch := ((try simp only [LL]); omega)) only [↓GO, ↓DRW, GA, ren, zB, zf, refs, zb, cst, zl, zH, z7, E.load, E.store, zG, isC, bin, zI, zJ, una, z8, za, zh, zK, blt, fnV, asArg, zd, zn, zo, zj, zi, zg, zk, zr, z6, zD, zF, mkS, zc, unN, zM, zm, zy, zC, ze, zN, zq, GS, Int.reduceToNat, Nat.reduceGT, ↓reduceIte, Nat.reduceAdd, Nat.reduceMul, Nat.reduceSub, Nat.reduceEqDiff, Nat.reduceLeDiff, Nat.reduceLT, Nat.reduceBEq, Int.reduceBEq, Int.reduceBNe, Int.reduceEq, Int.reduceLT, Int.reduceLE, Int.reduceGT, Int.reduceNeg, reduceCtorEq, GZ, h1, h2, zR, zY, Int.cast_ofNat_Int]
theorem Tu (b : UInt8) : zE (EV Tryz.prog pol) 193 [.t (.int .u8 (b.toNat : Int))] = some (.t (.bool (B2 (b.toNat : Int) 65 90))) := by
  have h := xL (b.toNat : Int) 65 90
  apply zu
  refine zw rfl Tryz.func193 rfl (by kernel_rfl) ?_
  unfold Tryz.f193
  simp (disch := ((try simp only [LL]); omega)) only [↓GO, ↓DRW, GA, ren, zB, zf, refs, zb, cst, zl, zH, z7, E.load, E.store, zG, isC, bin, zI, zJ, una, z8, za, zh, zK, blt, fnV, asArg, zd, zn, zo, zj, zi, zg, zk, zr, z6, zD, zF, mkS, zc, unN, zM, zm, zy, zC, ze, zN, zq, GS, Int.reduceToNat, Nat.reduceGT, ↓reduceIte, Nat.reduceAdd, Nat.reduceMul, Nat.reduceSub, Nat.reduceEqDiff, Nat.reduceLeDiff, Nat.reduceLT, Nat.reduceBEq, Int.reduceBEq, Int.reduceBNe, Int.reduceEq, Int.reduceLT, Int.reduceLE, Int.reduceGT, Int.reduceNeg, reduceCtorEq, GZ, h, conv, wrap_u8]
theorem VU (s : Str) (hl : s.length ≤ 2097152) : ∀ (rest pre : Str), s = pre ++ rest →
    EV Tryz.prog pol (.loop 194 26 0 [.t (.str s), .t (.int .i64 (pre.length : Int))] []) = some (cond (rest.all isD) (.loop (.exit 0) [.t (.str s), .bad] []) (.loop .ret [.t (.str s), .t (.bool false)] []))
  | [], pre, hs => by
    have c : decide ((pre.length : Int) < (s.length : Int)) = false := by simp [hs]
    refine zz Tryz.func194 rfl rfl ?_
    simp only [↓GO, ↓DRW, GA, ren, zB, zf, refs, zb, cst, zl, zH, z7, E.load, E.store, zG, isC, bin, zI, zJ, una, z8, za, zh, zK, blt, fnV, asArg, zd, zn, zo, zj, zi, zg, zk, zr, z6, zD, zF, mkS, zc, unN, zM, zm, zy, zC, ze, zN, zq, GS, Int.reduceToNat, Nat.reduceGT, ↓reduceIte, Nat.reduceAdd, Nat.reduceMul, Nat.reduceSub, Nat.reduceEqDiff, Nat.reduceLeDiff, Nat.reduceLT, Nat.reduceBEq, Int.reduceBEq, Int.reduceBNe, Int.reduceEq, Int.reduceLT, Int.reduceLE, Int.reduceGT, Int.reduceNeg, reduceCtorEq, c]
  | b :: rest, pre, hs => by
    have c : decide ((pre.length : Int) < (s.length : Int)) = true := by simp [hs]; omega
    have hget : s[pre.length]? = some b := by rw [hs]; exact tj pre b rest
    have hlen : s.length = pre.length + rest.length + 1 := by rw [hs]; simp; omega
    have IH := VU s hl rest (pre ++ [b]) (by rw [hs]; simp)
    rw [show ((pre ++ [b]).length : Int) = (pre.length : Int) + 1 by simp] at IH
    have hb := xL (b.toNat : Int) 48 57
    rw [VX] at hb
    clear hs
    refine zz Tryz.func194 rfl rfl ?_
    cases h1 : isD b <;> rw [h1] at hb <;>
      simp (disch := ((try simp only [LL]); omega)) only [↓GO, ↓DRW, GA, ren, zB, zf, refs, zb, cst, zl, zH, z7, E.load, E.store, zG, isC, bin, zI, zJ, una, z8, za, zh, zK, blt, fnV, asArg, zd, zn, zo, zj, zi, zg, zk, zr, z6, zD, zF, mkS, zc, unN, zM, zm, zy, zC, ze, zN, zq, GS, Int.reduceToNat, Nat.reduceGT, ↓reduceIte, Nat.reduceAdd, Nat.reduceMul, Nat.reduceSub, Nat.reduceEqDiff, Nat.reduceLeDiff, Nat.reduceLT, Nat.reduceBEq, Int.reduceBEq, Int.reduceBNe, Int.reduceEq, Int.reduceLT, Int.reduceLE, Int.reduceGT, Int.reduceNeg, reduceCtorEq, GZ, c, hget, zx, conv, wrap_u8, hb, h1, IH]
theorem SP (s : Str) (hl : s.length ≤ 2097152) : zE (EV Tryz.prog pol) 194 [.t (.str s)] = some (.t (.bool (isNum s))) := by
  have IH := VU s hl s [] rfl
  simp only [List.length_nil, Int.natCast_zero] at IH
  apply zu
  refine zw rfl Tryz.func194 rfl (by kernel_rfl) ?_
  unfold Tryz.f194
  unfold isNum
  cases h1 : s.all isD <;> rw [h1] at IH <;> simp only [cond_true, cond_false] at IH <;>
    simp (disch := ((try simp only [LL]); omega)) only [↓GO, ↓DRW, GA, ren, zB, zf, refs, zb, cst, zl, zH, z7, E.load, E.store, zG, isC, bin, zI, zJ, una, z8, za, zh, zK, blt, fnV, asArg, zd, zn, zo, zj, zi, zg, zk, zr, z6, zD, zF, mkS, zc, unN, zM, zm, zy, zC, ze, zN, zq, GS, Int.reduceToNat, Nat.reduceGT, ↓reduceIte, Nat.reduceAdd, Nat.reduceMul, Nat.reduceSub, Nat.reduceEqDiff, Nat.reduceLeDiff, Nat.reduceLT, Nat.reduceBEq, Int.reduceBEq, Int.reduceBNe, Int.reduceEq, Int.reduceLT, Int.reduceLE, Int.reduceGT, Int.reduceNeg, reduceCtorEq, GZ, IH, bne]
theorem VR (s : Str) (hl : s.length ≤ 2097152) : ∀ (rest pre : Str), s = pre ++ rest →
    EV Tryz.prog pol (.loop 175 26 0 [.t (.str s), .t (.int .i64 (pre.length : Int))] []) = some (cond (rest.all preB) (.loop (.exit 0) [.t (.str s), .bad] []) (.loop .ret [.t (.str s), .t (.bool false)] []))
  | [], pre, hs => by
    have c : decide ((pre.length : Int) < (s.length : Int)) = false := by simp [hs]
    refine zz Tryz.func175 rfl rfl ?_
    simp only [↓GO, ↓DRW, GA, ren, zB, zf, refs, zb, cst, zl, zH, z7, E.load, E.store, zG, isC, bin, zI, zJ, una, z8, za, zh, zK, blt, fnV, asArg, zd, zn, zo, zj, zi, zg, zk, zr, z6, zD, zF, mkS, zc, unN, zM, zm, zy, zC, ze, zN, zq, GS, Int.reduceToNat, Nat.reduceGT, ↓reduceIte, Nat.reduceAdd, Nat.reduceMul, Nat.reduceSub, Nat.reduceEqDiff, Nat.reduceLeDiff, Nat.reduceLT, Nat.reduceBEq, Int.reduceBEq, Int.reduceBNe, Int.reduceEq, Int.reduceLT, Int.reduceLE, Int.reduceGT, Int.reduceNeg, reduceCtorEq, c]
  | b :: rest, pre, hs => by
    have c : decide ((pre.length : Int) < (s.length : Int)) = true := by simp [hs]; omega
    have hget : s[pre.length]? = some b := by rw [hs]; exact tj pre b rest
    have hlen : s.length = pre.length + rest.length + 1 := by rw [hs]; simp; omega
    have IH := VR s hl rest (pre ++ [b]) (by rw [hs]; simp)
    rw [show ((pre ++ [b]).length : Int) = (pre.length : Int) + 1 by simp] at IH
    have hb := o7 b
    have hg := Tu b
    clear hs
    refine zz Tryz.func175 rfl rfl ?_
    rw [List.all_cons, preB]
    simp only [nb] at *
    cases h1 : (B2 (b.toNat : Int) 97 122 || B2 (b.toNat : Int) 48 57) <;> rw [h1] at hb <;> cases h2 : B2 (b.toNat : Int) 65 90 <;> rw [h2] at hg <;> cases h3 : ((b.toNat : Int) == 45) <;>
      simp (disch := ((try simp only [LL]); omega)) only [↓GO, ↓DRW, GA, ren, zB, zf, refs, zb, cst, zl, zH, z7, E.load, E.store, zG, isC, bin, zI, zJ, una, z8, za, zh, zK, blt, fnV, asArg, zd, zn, zo, zj, zi, zg, zk, zr, z6, zD, zF, mkS, zc, unN, zM, zm, zy, zC, ze, zN, zq, GS, Int.reduceToNat, Nat.reduceGT, ↓reduceIte, Nat.reduceAdd, Nat.reduceMul, Nat.reduceSub, Nat.reduceEqDiff, Nat.reduceLeDiff, Nat.reduceLT, Nat.reduceBEq, Int.reduceBEq, Int.reduceBNe, Int.reduceEq, Int.reduceLT, Int.reduceLE, Int.reduceGT, Int.reduceNeg, reduceCtorEq, GZ, c, hget, zx, hb, hg, h3, bne, IH]
theorem SJ (s : Str) (hl : s.length ≤ 2097152) : zE (EV Tryz.prog pol) 175 [.t (.str s)] = some (.t (.bool (wi s))) := by
  have IH := VR s hl s [] rfl
  simp only [List.length_nil, Int.natCast_zero] at IH
  have h1 := xL (s.length : Int) 1 20
  have h3 := SP s hl
  have h4 := ja s (by omega)
  apply zu
  refine zw rfl Tryz.func175 rfl (by kernel_rfl) ?_
  unfold Tryz.f175
  unfold wi
  generalize B2 (s.length : Int) 1 20 = b1 at *
  generalize isNum s = b3 at *
  generalize zO s = rd at *
  cases ha : s.all preB <;> rw [ha] at IH <;> simp only [cond_true, cond_false] at IH <;> cases b1 <;> cases b3 <;>
    simp (disch := ((try simp only [LL]); omega)) only [↓GO, ↓DRW, GA, ren, zB, zf, refs, zb, cst, zl, zH, z7, E.load, E.store, zG, isC, bin, zI, zJ, una, z8, za, zh, zK, blt, fnV, asArg, zd, zn, zo, zj, zi, zg, zk, zr, z6, zD, zF, mkS, zc, unN, zM, zm, zy, zC, ze, zN, zq, GS, Int.reduceToNat, Nat.reduceGT, ↓reduceIte, Nat.reduceAdd, Nat.reduceMul, Nat.reduceSub, Nat.reduceEqDiff, Nat.reduceLeDiff, Nat.reduceLT, Nat.reduceBEq, Int.reduceBEq, Int.reduceBNe, Int.reduceEq, Int.reduceLT, Int.reduceLE, Int.reduceGT, Int.reduceNeg, reduceCtorEq, GZ, IH, h1, h3, h4, ge_iff_le]
theorem VN (v : Ver) (hs : v.sm) : ∀ (rest pre : List Str), v.pre = pre ++ rest →
    EV Tryz.prog pol (.loop 153 26 0 [.ptr 0 0 0, .t (.int .i64 (pre.length : Int))] [.vs 4 [v.enc.map .t]])
    = some (cond (rest.all wi) (.loop (.exit 0) [.ptr 0 0 0, .bad] [.vs 4 [v.enc.map .t]]) (.loop .ret [.ptr 0 0 0, .t (.bool false)] [.vs 4 [v.enc.map .t]]))
  | [], pre, hp => by
    have c : decide ((pre.length : Int) < (v.pre.length : Int)) = false := by simp [hp]
    refine zz Tryz.func153 rfl rfl ?_
    simp only [↓GO, ↓DRW, GA, ren, zB, zf, refs, zb, cst, zl, zH, z7, E.load, E.store, zG, isC, bin, zI, zJ, una, z8, za, zh, zK, blt, fnV, asArg, zd, zn, zo, zj, zi, zg, zk, zr, z6, zD, zF, mkS, zc, unN, zM, zm, zy, zC, ze, zN, zq, GS, Int.reduceToNat, Nat.reduceGT, ↓reduceIte, Nat.reduceAdd, Nat.reduceMul, Nat.reduceSub, Nat.reduceEqDiff, Nat.reduceLeDiff, Nat.reduceLT, Nat.reduceBEq, Int.reduceBEq, Int.reduceBNe, Int.reduceEq, Int.reduceLT, Int.reduceLE, Int.reduceGT, Int.reduceNeg, reduceCtorEq, zR, c, Ver.enc]
  | x :: rest, pre, hp => by
    unfold Ver.sm at hs
    have c : decide ((pre.length : Int) < (v.pre.length : Int)) = true := by simp [hp]; omega
    have hget : (y6 v.pre)[pre.length]? = some [.str x] := by rw [hp]; exact xS pre x rest
    have hlen : pre.length + rest.length + 1 ≤ v.pre.length := by rw [hp]; simp; omega
    have hx : x.length ≤ 2097152 := by have := xV (ks := v.pre) (s := x) (by rw [hp]; simp); omega
    have IH := VN v hs rest (pre ++ [x]) (by rw [hp]; simp)
    rw [show ((pre ++ [x]).length : Int) = (pre.length : Int) + 1 by simp] at IH
    have h1 := SJ x hx
    clear hp
    simp only [Ver.enc, List.map_cons, List.map_nil] at IH ⊢
    cases h2 : wi x <;> rw [h2] at h1 <;> refine zz Tryz.func153 rfl rfl ?_ <;>
      simp (disch := ((try simp only [LL]); omega)) only [↓GO, ↓DRW, GA, ren, zB, zf, refs, zb, cst, zl, zH, z7, E.load, E.store, zG, isC, bin, zI, zJ, una, z8, za, zh, zK, blt, fnV, asArg, zd, zn, zo, zj, zi, zg, zk, zr, z6, zD, zF, mkS, zc, unN, zM, zm, zy, zC, ze, zN, zq, GS, Int.reduceToNat, Nat.reduceGT, ↓reduceIte, Nat.reduceAdd, Nat.reduceMul, Nat.reduceSub, Nat.reduceEqDiff, Nat.reduceLeDiff, Nat.reduceLT, Nat.reduceBEq, Int.reduceBEq, Int.reduceBNe, Int.reduceEq, Int.reduceLT, Int.reduceLE, Int.reduceGT, Int.reduceNeg, reduceCtorEq, GZ, c, hget, zx, h1, h2, zR, IH, zY]
theorem cP (v : Ver) (hs : v.sm) : zE (EV Tryz.prog pol) 153 [.agg (v.enc.map .t)] = some (.t (.bool (yv v))) := by
  have h2 := VN v hs v.pre [] rfl
  have ha := xL v.maj 0 999999999
  have hb := xL v.min 0 999999999
  have hc := xL v.pat 0 999999999
  rw [TV] at ha hb hc
  unfold Ver.sm at hs
  simp only [List.length_nil, Int.natCast_zero] at h2
  simp only [Ver.enc, List.map_cons, List.map_nil] at h2 ⊢
  unfold yv
  generalize n9 v.maj = b1 at *
  generalize n9 v.min = b3 at *
  generalize n9 v.pat = b4 at *
  generalize v.pre.all wi = b2 at *
  apply zu
  refine zw rfl Tryz.func153 rfl (by kernel_rfl) ?_
  unfold Tryz.f153
  cases b2 <;> simp only [cond_true, cond_false] at h2 <;> cases b1 <;> cases b3 <;> cases b4 <;>
    simp (disch := ((try simp only [LL]); omega)) only [↓GO, ↓DRW, GA, ren, zB, zf, refs, zb, cst, zl, zH, z7, E.load, E.store, zG, isC, bin, zI, zJ, una, z8, za, zh, zK, blt, fnV, asArg, zd, zn, zo, zj, zi, zg, zk, zr, z6, zD, zF, mkS, zc, unN, zM, zm, zy, zC, ze, zN, zq, GS, Int.reduceToNat, Nat.reduceGT, ↓reduceIte, Nat.reduceAdd, Nat.reduceMul, Nat.reduceSub, Nat.reduceEqDiff, Nat.reduceLeDiff, Nat.reduceLT, Nat.reduceBEq, Int.reduceBEq, Int.reduceBNe, Int.reduceEq, Int.reduceLT, Int.reduceLE, Int.reduceGT, Int.reduceNeg, reduceCtorEq, GZ, h2, ha, hb, hc, zR, zY]
end Go.Proofs.YtmcephnfcciloaaGreatDoor
/- Digits and quotes, by both. Conditions: those of each lemma. -/
namespace Go.Proofs.YtmcephnfcciloaaGreatDoor
open E
set_option linter.unusedSimpArgs false
set_option linter.unusedVariables false
set_option maxRecDepth 100000
theorem yQ {α : Type} {b : Bool} {x y r : Option α} (h : b = true) (hx : x = r) : (if b = true then x else y) = r := by rw [h]; exact hx
end Go.Proofs.YtmcephnfcciloaaGreatDoor
/- The text of a version, and back, by both. Conditions: those of each lemma. -/
namespace Go.Proofs.YtmcephnfcciloaaGreatDoor
open E
set_option linter.unusedSimpArgs false
set_option linter.unusedVariables false
set_option maxRecDepth 100000
theorem eN (c : Str) (x : Str) : ∀ pre : List Str, w6 c (pre ++ [x]) = cond (pre == []) ((c ++ [45]) ++ x) ((w6 c pre ++ [46]) ++ x)
  | [] => by simp [w6, Lib.join_one]
  | y :: l => by
    unfold w6
    rw [nu]
    simp
theorem ld (c : Str) (l : List Str) : (w6 c l).length ≤ c.length + yk l + l.length + 1 := by
  have h := join_le [46] l
  unfold w6
  cases l with
  | nil => simp only [show (([] : List Str) == []) = true from rfl, cond_true]; omega
  | cons x r =>
    simp only [beq_nil_cons, cond_false, List.length_append, List.length_cons, List.length_nil] at h ⊢
    omega
theorem ee {v : Ver} (h : yv v = true) : (vc v).length ≤ 29 := by
  obtain ⟨h1, h2, h3, _, _⟩ := xZ h
  have a := wu v.maj h1.1 h1.2
  have b := wu v.min h2.1 h2.2
  have c := wu v.pat h3.1 h3.2
  unfold vc
  simp only [List.length_append, List.length_cons, List.length_nil]
  omega
theorem uB (v : Ver) (hs : v.sm) : zE (EV Tryz.prog pol) 136 [.agg (v.enc.map .t)] = some (.t (.str (yb v))) := by
  have h1 := SG v hs
  unfold Ver.sm at hs
  unfold yb
  cases ho : yv v with
  | false =>
    rw [ho] at h1
    simp only [Ver.enc, List.map_cons, List.map_nil] at h1 ⊢
    apply zu
    refine zw rfl Tryz.func136 rfl (by kernel_rfl) ?_
    unfold Tryz.f136
    simp (disch := ((try simp only [LL]); omega)) only [↓GO, ↓DRW, GA, ren, zB, zf, refs, zb, cst, zl, zH, z7, E.load, E.store, zG, isC, bin, zI, zJ, una, z8, za, zh, zK, blt, fnV, asArg, zd, zn, zo, zj, zi, zg, zk, zr, z6, zD, zF, mkS, zc, unN, zM, zm, zy, zC, ze, zN, zq, GS, Int.reduceToNat, Nat.reduceGT, ↓reduceIte, Nat.reduceAdd, Nat.reduceMul, Nat.reduceSub, Nat.reduceEqDiff, Nat.reduceLeDiff, Nat.reduceLT, Nat.reduceBEq, Int.reduceBEq, Int.reduceBNe, Int.reduceEq, Int.reduceLT, Int.reduceLE, Int.reduceGT, Int.reduceNeg, reduceCtorEq, GZ, h1]
  | true =>
    obtain ⟨q1, q2, q3, _, _⟩ := xZ ho
    have a := wu v.maj q1.1 q1.2
    have b := wu v.min q2.1 q2.2
    have c := wu v.pat q3.1 q3.2
    have d1 := jV v.maj q1.1 q1.2
    have d2 := jV v.min q2.1 q2.2
    have d3 := jV v.pat q3.1 q3.2
    have hj := join_le [46] v.pre
    simp only [List.length_cons, List.length_nil] at hj
    have h2 := SN v.pre [46] (by omega) (by omega)
    have hg := jQ v.pre
    rw [ho] at h1
    unfold w6 vc
    simp only [Ver.enc, List.map_cons, List.map_nil] at h1 ⊢
    cases hp : (v.pre == []) <;> rw [hp] at hg <;> simp only [Bool.not_true, Bool.not_false] at hg
    · apply zu
      refine zw rfl Tryz.func136 rfl (by kernel_rfl) ?_
      unfold Tryz.f136
      simp (disch := ((try simp only [LL]); omega)) only [↓GO, ↓DRW, GA, ren, zB, zf, refs, zb, cst, zl, zH, z7, E.load, E.store, zG, isC, bin, zI, zJ, una, z8, za, zh, zK, blt, fnV, asArg, zd, zn, zo, zj, zi, zg, zk, zr, z6, zD, zF, mkS, zc, unN, zM, zm, zy, zC, ze, zN, zq, GS, Int.reduceToNat, Nat.reduceGT, ↓reduceIte, Nat.reduceAdd, Nat.reduceMul, Nat.reduceSub, Nat.reduceEqDiff, Nat.reduceLeDiff, Nat.reduceLT, Nat.reduceBEq, Int.reduceBEq, Int.reduceBNe, Int.reduceEq, Int.reduceLT, Int.reduceLE, Int.reduceGT, Int.reduceNeg, reduceCtorEq, GZ, h1, d1, d2, d3, h2, hg, wc, zR, List.append_assoc]
    · apply zu
      refine zw rfl Tryz.func136 rfl (by kernel_rfl) ?_
      unfold Tryz.f136
      simp (disch := ((try simp only [LL]); omega)) only [↓GO, ↓DRW, GA, ren, zB, zf, refs, zb, cst, zl, zH, z7, E.load, E.store, zG, isC, bin, zI, zJ, una, z8, za, zh, zK, blt, fnV, asArg, zd, zn, zo, zj, zi, zg, zk, zr, z6, zD, zF, mkS, zc, unN, zM, zm, zy, zC, ze, zN, zq, GS, Int.reduceToNat, Nat.reduceGT, ↓reduceIte, Nat.reduceAdd, Nat.reduceMul, Nat.reduceSub, Nat.reduceEqDiff, Nat.reduceLeDiff, Nat.reduceLT, Nat.reduceBEq, Int.reduceBEq, Int.reduceBNe, Int.reduceEq, Int.reduceLT, Int.reduceLE, Int.reduceGT, Int.reduceNeg, reduceCtorEq, GZ, h1, d1, d2, d3, h2, hg, wc, zR, List.append_assoc]
theorem TW (v : Ver) (hs : v.sm) (c : Str) (hc : c.length ≤ 40) : ∀ (rest pre : List Str), v.pre = pre ++ rest →
    EV Tryz.prog pol (.loop 115 122 0 [.ptr 0 0 0, .t (.str (w6 c pre)), .t (.int .i64 (pre.length : Int))] [.vs 4 [v.enc.map .t]])
    = some (.loop (.exit 0) [.t (.str (w6 c v.pre))] [])
  | [], pre, hp => by
    have c : decide ((pre.length : Int) < (v.pre.length : Int)) = false := by simp [hp]
    have e : v.pre = pre := by simpa using hp
    refine zz Tryz.func115 rfl rfl ?_
    simp only [↓GO, ↓DRW, GA, ren, zB, zf, refs, zb, cst, zl, zH, z7, E.load, E.store, zG, isC, bin, zI, zJ, una, z8, za, zh, zK, blt, fnV, asArg, zd, zn, zo, zj, zi, zg, zk, zr, z6, zD, zF, mkS, zc, unN, zM, zm, zy, zC, ze, zN, zq, GS, Int.reduceToNat, Nat.reduceGT, ↓reduceIte, Nat.reduceAdd, Nat.reduceMul, Nat.reduceSub, Nat.reduceEqDiff, Nat.reduceLeDiff, Nat.reduceLT, Nat.reduceBEq, Int.reduceBEq, Int.reduceBNe, Int.reduceEq, Int.reduceLT, Int.reduceLE, Int.reduceGT, Int.reduceNeg, reduceCtorEq, zR, c, Ver.enc, zY]
    rw [e]
  | x :: rest, pre, hp => by
    unfold Ver.sm at hs
    have c2 : decide ((pre.length : Int) < (v.pre.length : Int)) = true := by simp [hp]; omega
    have hget : (y6 v.pre)[pre.length]? = some [.str x] := by rw [hp]; exact xS pre x rest
    have hlen : pre.length + rest.length + 1 ≤ v.pre.length := by rw [hp]; simp; omega
    have hbk : yk pre + x.length ≤ yk v.pre := by rw [hp, mC]; simp only [yk]; omega
    have ht := ld c pre
    have IH := TW v hs c hc rest (pre ++ [x]) (by rw [hp]; simp)
    rw [show ((pre ++ [x]).length : Int) = (pre.length : Int) + 1 by simp, eN] at IH
    have he := vZ pre
    have e0 : (pre == []) = true → w6 c pre = c := fun h => by unfold w6; rw [h]; rfl
    clear hp
    simp only [Ver.enc, List.map_cons, List.map_nil] at IH ⊢
    cases h0 : (pre == []) <;> rw [h0] at he IH <;> simp only [cond_true, cond_false] at IH
    · refine zz Tryz.func115 rfl rfl ?_
      simp (disch := ((try simp only [LL]); omega)) only [↓GO, ↓DRW, GA, ren, zB, zf, refs, zb, cst, zl, zH, z7, E.load, E.store, zG, isC, bin, zI, zJ, una, z8, za, zh, zK, blt, fnV, asArg, zd, zn, zo, zj, zi, zg, zk, zr, z6, zD, zF, mkS, zc, unN, zM, zm, zy, zC, ze, zN, zq, GS, Int.reduceToNat, Nat.reduceGT, ↓reduceIte, Nat.reduceAdd, Nat.reduceMul, Nat.reduceSub, Nat.reduceEqDiff, Nat.reduceLeDiff, Nat.reduceLT, Nat.reduceBEq, Int.reduceBEq, Int.reduceBNe, Int.reduceEq, Int.reduceLT, Int.reduceLE, Int.reduceGT, Int.reduceNeg, reduceCtorEq, GZ, c2, hget, zx, he, zR, IH, zY, wc]
    · have e1 := e0 h0
      rw [e1]
      refine zz Tryz.func115 rfl rfl ?_
      simp (disch := ((try simp only [LL]); omega)) only [↓GO, ↓DRW, GA, ren, zB, zf, refs, zb, cst, zl, zH, z7, E.load, E.store, zG, isC, bin, zI, zJ, una, z8, za, zh, zK, blt, fnV, asArg, zd, zn, zo, zj, zi, zg, zk, zr, z6, zD, zF, mkS, zc, unN, zM, zm, zy, zC, ze, zN, zq, GS, Int.reduceToNat, Nat.reduceGT, ↓reduceIte, Nat.reduceAdd, Nat.reduceMul, Nat.reduceSub, Nat.reduceEqDiff, Nat.reduceLeDiff, Nat.reduceLT, Nat.reduceBEq, Int.reduceBEq, Int.reduceBNe, Int.reduceEq, Int.reduceLT, Int.reduceLE, Int.reduceGT, Int.reduceNeg, reduceCtorEq, GZ, c2, hget, zx, he, zR, IH, zY, wc]
theorem ei (v : Ver) (hs : v.sm) : zE (EV Tryz.prog pol) 115 [.agg (v.enc.map .t)] = some (.t (.str (yb v))) := by
  have h1 := cP v hs
  unfold yb
  cases ho : yv v with
  | false =>
    rw [ho] at h1
    simp only [Ver.enc, List.map_cons, List.map_nil] at h1 ⊢
    apply zu
    refine zw rfl Tryz.func115 rfl (by kernel_rfl) ?_
    unfold Tryz.f115
    simp (disch := ((try simp only [LL]); omega)) only [↓GO, ↓DRW, GA, ren, zB, zf, refs, zb, cst, zl, zH, z7, E.load, E.store, zG, isC, bin, zI, zJ, una, z8, za, zh, zK, blt, fnV, asArg, zd, zn, zo, zj, zi, zg, zk, zr, z6, zD, zF, mkS, zc, unN, zM, zm, zy, zC, ze, zN, zq, GS, Int.reduceToNat, Nat.reduceGT, ↓reduceIte, Nat.reduceAdd, Nat.reduceMul, Nat.reduceSub, Nat.reduceEqDiff, Nat.reduceLeDiff, Nat.reduceLT, Nat.reduceBEq, Int.reduceBEq, Int.reduceBNe, Int.reduceEq, Int.reduceLT, Int.reduceLE, Int.reduceGT, Int.reduceNeg, reduceCtorEq, GZ, h1]
  | true =>
    obtain ⟨q1, q2, q3, _, _⟩ := xZ ho
    have a := wu v.maj q1.1 q1.2
    have b := wu v.min q2.1 q2.2
    have c := wu v.pat q3.1 q3.2
    have d1 := jU v.maj q1.1 q1.2
    have d2 := jU v.min q2.1 q2.2
    have d3 := jU v.pat q3.1 q3.2
    have hc := ee ho
    have h2 := TW v hs (vc v) (by omega) v.pre [] rfl
    rw [ho] at h1
    rw [show w6 (vc v) [] = vc v from rfl] at h2
    simp only [List.length_nil, Int.natCast_zero] at h2
    simp only [cond_true]
    generalize w6 (vc v) v.pre = tt at *
    unfold vc at h2
    simp only [Ver.enc, List.map_cons, List.map_nil] at h1 h2 ⊢
    apply zu
    refine zw rfl Tryz.func115 rfl (by kernel_rfl) ?_
    unfold Tryz.f115
    simp (disch := ((try simp only [LL]); omega)) only [↓GO, ↓DRW, GA, ren, zB, zf, refs, zb, cst, zl, zH, z7, E.load, E.store, zG, isC, bin, zI, zJ, una, z8, za, zh, zK, blt, fnV, asArg, zd, zn, zo, zj, zi, zg, zk, zr, z6, zD, zF, mkS, zc, unN, zM, zm, zy, zC, ze, zN, zq, GS, Int.reduceToNat, Nat.reduceGT, ↓reduceIte, Nat.reduceAdd, Nat.reduceMul, Nat.reduceSub, Nat.reduceEqDiff, Nat.reduceLeDiff, Nat.reduceLT, Nat.reduceBEq, Int.reduceBEq, Int.reduceBNe, Int.reduceEq, Int.reduceLT, Int.reduceLE, Int.reduceGT, Int.reduceNeg, reduceCtorEq, GZ, h1, d1, d2, d3, h2, wc, zY]
theorem nt {s : Str} (h : (yi 46 (yl 45 s).1).length ≠ 3) : xQ s = none := by
  unfold xQ
  split
  · rename_i a b c he; rw [he] at h; exact absurd rfl h
  · rfl
theorem mi {s : Str} {v : Ver} (h : xQ s = some v) (hl : s.length ≤ 1048700) : v.sm ∧ v.maj ≤ 999999999 ∧ -1 ≤ v.maj ∧ v.min ≤ 999999999 ∧ -1 ≤ v.min ∧ v.pat ≤ 999999999 ∧ -1 ≤ v.pat := by
  unfold xQ at h
  split at h
  · rename_i a b c he
    cases h
    have h1 := xn a
    have h2 := xn b
    have h3 := xn c
    refine ⟨?_, h1.2, h1.1, h2.2, h2.1, h3.2, h3.1⟩
    have := xI 46 (yl 45 s).2.1
    have h5 := (qk 45 s).2
    unfold Ver.sm
    cases (yl 45 s).2.2 with
    | true => simp only [cond_true]; omega
    | false => simp [yk]
  · cases h
theorem yW (s : Str) (hl : s.length ≤ 1048700) : (zA s).1.sm ∧ (zA s).1.maj ≤ 999999999 ∧ -1 ≤ (zA s).1.maj ∧ (zA s).1.min ≤ 999999999 ∧ -1 ≤ (zA s).1.min ∧ (zA s).1.pat ≤ 999999999 ∧ -1 ≤ (zA s).1.pat := by
  unfold zA
  cases hm : xQ s with
  | none => simp [Ver.zero, Ver.sm, yk]
  | some v =>
    have := mi hm hl
    simp only
    cases (yb v == s) with
    | true => exact this
    | false => simp [Ver.zero, Ver.sm, yk]
def rvT (s : Str) : V := .tup [.agg ((zA s).1.enc.map .t), .t (.bool (zA s).2)]
theorem oq (s : Str) (hl : s.length ≤ 1048700) : zE (EV Tryz.prog pol) 99 [.t (.str s)] = some (rvT s) := by
  have h1 := Sc s [45] (by omega)
  rw [fZ] at h1
  have hl1 := qk 45 s
  have h2 := qx (yl 45 s).1 [46] (by omega) (by simp)
  have h3 := qx (yl 45 s).2.1 [46] (by omega) (by simp)
  rw [r4] at h2 h3
  unfold rvT zA
  by_cases hn : (yi 46 (yl 45 s).1).length = 3
  · obtain ⟨a, b, c, hp⟩ : ∃ a b c, yi 46 (yl 45 s).1 = [a, b, c] := by
      match hq : yi 46 (yl 45 s).1, hn with
      | [a, b, c], _ => exact ⟨a, b, c, rfl⟩
    have hm : xQ s = some ⟨zO a, zO b, zO c, cond (yl 45 s).2.2 (yi 46 (yl 45 s).2.1) []⟩ := by unfold xQ; rw [hp]
    have hne := gU hm
    have hsm := (mi hm hl).1
    have hbk := xI 46 (yl 45 s).1
    rw [hp] at h2 hbk
    simp only [yk] at hbk
    have d1 := mQ a (by omega)
    have d2 := mQ b (by omega)
    have d3 := mQ c (by omega)
    have hv := uB _ hsm
    rw [hm]
    have hs0 : (s == []) = false := by rw [beq_eq_false_iff_ne]; exact hne
    simp only [Ver.enc, List.map_cons, List.map_nil, xj, yf] at hv h2 ⊢
    generalize zO a = ra at *
    generalize zO b = rb at *
    generalize zO c = rc at *
    cases hh : (yl 45 s).2.2 <;> rw [hh] at h1 hv <;> simp only [cond_true, cond_false, yf] at hv ⊢
    · generalize yb ⟨ra, rb, rc, []⟩ = tt at *
      clear hm hsm
      cases he : (tt == s)
      · apply zu
        refine zw rfl Tryz.func99 rfl (by kernel_rfl) ?_
        unfold Tryz.f99
        simp (disch := ((try simp only [LL]); omega)) only [↓GO, ↓DRW, GA, ren, zB, zf, refs, zb, cst, zl, zH, z7, E.load, E.store, zG, isC, bin, zI, zJ, una, z8, za, zh, zK, blt, fnV, asArg, zd, zn, zo, zj, zi, zg, zk, zr, z6, zD, zF, mkS, zc, unN, zM, zm, zy, zC, ze, zN, zq, GS, Int.reduceToNat, Nat.reduceGT, ↓reduceIte, Nat.reduceAdd, Nat.reduceMul, Nat.reduceSub, Nat.reduceEqDiff, Nat.reduceLeDiff, Nat.reduceLT, Nat.reduceBEq, Int.reduceBEq, Int.reduceBNe, Int.reduceEq, Int.reduceLT, Int.reduceLE, Int.reduceGT, Int.reduceNeg, reduceCtorEq, GZ, h1, h2, d1, d2, d3, hv, he, bne, hs0, Ver.zero, yf]
        refine yQ (by kernel_rfl) ?_
        simp (disch := ((try simp only [LL]); omega)) only [↓GO, ↓DRW, GA, ren, zB, zf, refs, zb, cst, zl, zH, z7, E.load, E.store, zG, isC, bin, zI, zJ, una, z8, za, zh, zK, blt, fnV, asArg, zd, zn, zo, zj, zi, zg, zk, zr, z6, zD, zF, mkS, zc, unN, zM, zm, zy, zC, ze, zN, zq, GS, Int.reduceToNat, Nat.reduceGT, ↓reduceIte, Nat.reduceAdd, Nat.reduceMul, Nat.reduceSub, Nat.reduceEqDiff, Nat.reduceLeDiff, Nat.reduceLT, Nat.reduceBEq, Int.reduceBEq, Int.reduceBNe, Int.reduceEq, Int.reduceLT, Int.reduceLE, Int.reduceGT, Int.reduceNeg, reduceCtorEq, GZ, h1, h2, d1, d2, d3, hv, he, bne, hs0, Ver.zero, yf]
      · apply zu
        refine zw rfl Tryz.func99 rfl (by kernel_rfl) ?_
        unfold Tryz.f99
        simp (disch := ((try simp only [LL]); omega)) only [↓GO, ↓DRW, GA, ren, zB, zf, refs, zb, cst, zl, zH, z7, E.load, E.store, zG, isC, bin, zI, zJ, una, z8, za, zh, zK, blt, fnV, asArg, zd, zn, zo, zj, zi, zg, zk, zr, z6, zD, zF, mkS, zc, unN, zM, zm, zy, zC, ze, zN, zq, GS, Int.reduceToNat, Nat.reduceGT, ↓reduceIte, Nat.reduceAdd, Nat.reduceMul, Nat.reduceSub, Nat.reduceEqDiff, Nat.reduceLeDiff, Nat.reduceLT, Nat.reduceBEq, Int.reduceBEq, Int.reduceBNe, Int.reduceEq, Int.reduceLT, Int.reduceLE, Int.reduceGT, Int.reduceNeg, reduceCtorEq, GZ, h1, h2, d1, d2, d3, hv, he, bne, hs0, yf]
        refine yQ (by kernel_rfl) ?_
        simp (disch := ((try simp only [LL]); omega)) only [↓GO, ↓DRW, GA, ren, zB, zf, refs, zb, cst, zl, zH, z7, E.load, E.store, zG, isC, bin, zI, zJ, una, z8, za, zh, zK, blt, fnV, asArg, zd, zn, zo, zj, zi, zg, zk, zr, z6, zD, zF, mkS, zc, unN, zM, zm, zy, zC, ze, zN, zq, GS, Int.reduceToNat, Nat.reduceGT, ↓reduceIte, Nat.reduceAdd, Nat.reduceMul, Nat.reduceSub, Nat.reduceEqDiff, Nat.reduceLeDiff, Nat.reduceLT, Nat.reduceBEq, Int.reduceBEq, Int.reduceBNe, Int.reduceEq, Int.reduceLT, Int.reduceLE, Int.reduceGT, Int.reduceNeg, reduceCtorEq, GZ, h1, h2, d1, d2, d3, hv, he, bne, hs0, yf]
    · generalize yb ⟨ra, rb, rc, yi 46 (yl 45 s).2.1⟩ = tt at *
      clear hm hsm
      generalize yi 46 (yl 45 s).2.1 = pp at *
      cases he : (tt == s)
      · apply zu
        refine zw rfl Tryz.func99 rfl (by kernel_rfl) ?_
        unfold Tryz.f99
        simp (disch := ((try simp only [LL]); omega)) only [↓GO, ↓DRW, GA, ren, zB, zf, refs, zb, cst, zl, zH, z7, E.load, E.store, zG, isC, bin, zI, zJ, una, z8, za, zh, zK, blt, fnV, asArg, zd, zn, zo, zj, zi, zg, zk, zr, z6, zD, zF, mkS, zc, unN, zM, zm, zy, zC, ze, zN, zq, GS, Int.reduceToNat, Nat.reduceGT, ↓reduceIte, Nat.reduceAdd, Nat.reduceMul, Nat.reduceSub, Nat.reduceEqDiff, Nat.reduceLeDiff, Nat.reduceLT, Nat.reduceBEq, Int.reduceBEq, Int.reduceBNe, Int.reduceEq, Int.reduceLT, Int.reduceLE, Int.reduceGT, Int.reduceNeg, reduceCtorEq, GZ, h1, h2, h3, d1, d2, d3, hv, he, bne, hs0, Ver.zero, yf]
        refine yQ (by kernel_rfl) ?_
        simp (disch := ((try simp only [LL]); omega)) only [↓GO, ↓DRW, GA, ren, zB, zf, refs, zb, cst, zl, zH, z7, E.load, E.store, zG, isC, bin, zI, zJ, una, z8, za, zh, zK, blt, fnV, asArg, zd, zn, zo, zj, zi, zg, zk, zr, z6, zD, zF, mkS, zc, unN, zM, zm, zy, zC, ze, zN, zq, GS, Int.reduceToNat, Nat.reduceGT, ↓reduceIte, Nat.reduceAdd, Nat.reduceMul, Nat.reduceSub, Nat.reduceEqDiff, Nat.reduceLeDiff, Nat.reduceLT, Nat.reduceBEq, Int.reduceBEq, Int.reduceBNe, Int.reduceEq, Int.reduceLT, Int.reduceLE, Int.reduceGT, Int.reduceNeg, reduceCtorEq, GZ, h1, h2, h3, d1, d2, d3, hv, he, bne, hs0, Ver.zero, yf]
      · apply zu
        refine zw rfl Tryz.func99 rfl (by kernel_rfl) ?_
        unfold Tryz.f99
        simp (disch := ((try simp only [LL]); omega)) only [↓GO, ↓DRW, GA, ren, zB, zf, refs, zb, cst, zl, zH, z7, E.load, E.store, zG, isC, bin, zI, zJ, una, z8, za, zh, zK, blt, fnV, asArg, zd, zn, zo, zj, zi, zg, zk, zr, z6, zD, zF, mkS, zc, unN, zM, zm, zy, zC, ze, zN, zq, GS, Int.reduceToNat, Nat.reduceGT, ↓reduceIte, Nat.reduceAdd, Nat.reduceMul, Nat.reduceSub, Nat.reduceEqDiff, Nat.reduceLeDiff, Nat.reduceLT, Nat.reduceBEq, Int.reduceBEq, Int.reduceBNe, Int.reduceEq, Int.reduceLT, Int.reduceLE, Int.reduceGT, Int.reduceNeg, reduceCtorEq, GZ, h1, h2, h3, d1, d2, d3, hv, he, bne, hs0, yf]
        refine yQ (by kernel_rfl) ?_
        simp (disch := ((try simp only [LL]); omega)) only [↓GO, ↓DRW, GA, ren, zB, zf, refs, zb, cst, zl, zH, z7, E.load, E.store, zG, isC, bin, zI, zJ, una, z8, za, zh, zK, blt, fnV, asArg, zd, zn, zo, zj, zi, zg, zk, zr, z6, zD, zF, mkS, zc, unN, zM, zm, zy, zC, ze, zN, zq, GS, Int.reduceToNat, Nat.reduceGT, ↓reduceIte, Nat.reduceAdd, Nat.reduceMul, Nat.reduceSub, Nat.reduceEqDiff, Nat.reduceLeDiff, Nat.reduceLT, Nat.reduceBEq, Int.reduceBEq, Int.reduceBNe, Int.reduceEq, Int.reduceLT, Int.reduceLE, Int.reduceGT, Int.reduceNeg, reduceCtorEq, GZ, h1, h2, h3, d1, d2, d3, hv, he, bne, hs0, yf]
  · have hm := nt hn
    rw [hm]
    have hc : (((yi 46 (yl 45 s).1).length : Int) == 3) = false := by rw [beq_eq_false_iff_ne]; omega
    generalize yi 46 (yl 45 s).1 = parts at *
    apply zu
    refine zw rfl Tryz.func99 rfl (by kernel_rfl) ?_
    unfold Tryz.f99
    simp (disch := ((try simp only [LL]); omega)) only [↓GO, ↓DRW, GA, ren, zB, zf, refs, zb, cst, zl, zH, z7, E.load, E.store, zG, isC, bin, zI, zJ, una, z8, za, zh, zK, blt, fnV, asArg, zd, zn, zo, zj, zi, zg, zk, zr, z6, zD, zF, mkS, zc, unN, zM, zm, zy, zC, ze, zN, zq, GS, Int.reduceToNat, Nat.reduceGT, ↓reduceIte, Nat.reduceAdd, Nat.reduceMul, Nat.reduceSub, Nat.reduceEqDiff, Nat.reduceLeDiff, Nat.reduceLT, Nat.reduceBEq, Int.reduceBEq, Int.reduceBNe, Int.reduceEq, Int.reduceLT, Int.reduceLE, Int.reduceGT, Int.reduceNeg, reduceCtorEq, GZ, h1, h2, hc, bne, zR, Ver.zero, Ver.enc, yf]
theorem l_at (s : Str) (b : UInt8) (hl : s.length ≤ 4194304) : ∀ (rest pre : Str), s = pre ++ rest →
    EV Tryz.prog pol (.loop 113 26 0 [.t (.str s), .t (.int .u8 (b.toNat : Int)), .t (.int .i64 (pre.length : Int))] []) = some (cond (yl b rest).2.2 (.loop .ret [.t (.int .i64 ((pre.length : Int) + ((yl b rest).1.length : Int)))] []) (.loop (.exit 0) [.bad] []))
  | [], pre, hs => by
    have c : decide ((pre.length : Int) < (s.length : Int)) = false := by simp [hs]
    refine zz Tryz.func113 rfl rfl ?_
    simp only [↓GO, ↓DRW, GA, ren, zB, zf, refs, zb, cst, zl, zH, z7, E.load, E.store, zG, isC, bin, zI, zJ, una, z8, za, zh, zK, blt, fnV, asArg, zd, zn, zo, zj, zi, zg, zk, zr, z6, zD, zF, mkS, zc, unN, zM, zm, zy, zC, ze, zN, zq, GS, Int.reduceToNat, Nat.reduceGT, ↓reduceIte, Nat.reduceAdd, Nat.reduceMul, Nat.reduceSub, Nat.reduceEqDiff, Nat.reduceLeDiff, Nat.reduceLT, Nat.reduceBEq, Int.reduceBEq, Int.reduceBNe, Int.reduceEq, Int.reduceLT, Int.reduceLE, Int.reduceGT, Int.reduceNeg, reduceCtorEq, c, yl]
  | x :: rest, pre, hs => by
    have c : decide ((pre.length : Int) < (s.length : Int)) = true := by simp [hs]; omega
    have hget : s[pre.length]? = some x := by rw [hs]; exact tj pre x rest
    have hlen : s.length = pre.length + rest.length + 1 := by rw [hs]; simp; omega
    have IH := l_at s b hl rest (pre ++ [x]) (by rw [hs]; simp)
    rw [show ((pre ++ [x]).length : Int) = (pre.length : Int) + 1 by simp] at IH
    rw [yl]
    clear hs
    by_cases hx : x = b
    · subst hx
      rw [if_pos rfl]
      refine zz Tryz.func113 rfl rfl ?_
      simp (disch := ((try simp only [LL]); omega)) only [↓GO, ↓DRW, GA, ren, zB, zf, refs, zb, cst, zl, zH, z7, E.load, E.store, zG, isC, bin, zI, zJ, una, z8, za, zh, zK, blt, fnV, asArg, zd, zn, zo, zj, zi, zg, zk, zr, z6, zD, zF, mkS, zc, unN, zM, zm, zy, zC, ze, zN, zq, GS, Int.reduceToNat, Nat.reduceGT, ↓reduceIte, Nat.reduceAdd, Nat.reduceMul, Nat.reduceSub, Nat.reduceEqDiff, Nat.reduceLeDiff, Nat.reduceLT, Nat.reduceBEq, Int.reduceBEq, Int.reduceBNe, Int.reduceEq, Int.reduceLT, Int.reduceLE, Int.reduceGT, Int.reduceNeg, reduceCtorEq, GZ, c, hget, zx, Int.natCast_zero, Int.add_zero]
    · have c2 : ((x.toNat : Int) == (b.toNat : Int)) = false := by
        rw [beq_eq_false_iff_ne]; intro e; exact hx (UInt8.toNat_inj.1 (by omega))
      rw [if_neg hx]
      rw [show (((x :: (yl b rest).1).length : Nat) : Int) = ((yl b rest).1.length : Int) + 1 by simp, show (pre.length : Int) + (((yl b rest).1.length : Int) + 1) = (pre.length : Int) + 1 + ((yl b rest).1.length : Int) by omega]
      refine zz Tryz.func113 rfl rfl ?_
      simp (disch := ((try simp only [LL]); omega)) only [↓GO, ↓DRW, GA, ren, zB, zf, refs, zb, cst, zl, zH, z7, E.load, E.store, zG, isC, bin, zI, zJ, una, z8, za, zh, zK, blt, fnV, asArg, zd, zn, zo, zj, zi, zg, zk, zr, z6, zD, zF, mkS, zc, unN, zM, zm, zy, zC, ze, zN, zq, GS, Int.reduceToNat, Nat.reduceGT, ↓reduceIte, Nat.reduceAdd, Nat.reduceMul, Nat.reduceSub, Nat.reduceEqDiff, Nat.reduceLeDiff, Nat.reduceLT, Nat.reduceBEq, Int.reduceBEq, Int.reduceBNe, Int.reduceEq, Int.reduceLT, Int.reduceLE, Int.reduceGT, Int.reduceNeg, reduceCtorEq, GZ, c, hget, zx, c2, IH]
def atV (b : UInt8) (s : Str) : Int := cond (yl b s).2.2 ((yl b s).1.length : Int) (-1)
theorem c_at (s : Str) (b : UInt8) (hl : s.length ≤ 4194304) : zE (EV Tryz.prog pol) 113 [.t (.str s), .t (.int .u8 (b.toNat : Int))] = some (.t (.int .i64 (atV b s))) := by
  have IH := l_at s b hl s [] rfl
  simp only [List.length_nil, Int.natCast_zero, Int.zero_add] at IH
  unfold atV
  apply zu
  refine zw rfl Tryz.func113 rfl (by kernel_rfl) ?_
  unfold Tryz.f113
  cases h : (yl b s).2.2 <;> rw [h] at IH <;> simp only [cond_true, cond_false] at IH <;> simp (disch := ((try simp only [LL]); omega)) only [↓GO, ↓DRW, GA, ren, zB, zf, refs, zb, cst, zl, zH, z7, E.load, E.store, zG, isC, bin, zI, zJ, una, z8, za, zh, zK, blt, fnV, asArg, zd, zn, zo, zj, zi, zg, zk, zr, z6, zD, zF, mkS, zc, unN, zM, zm, zy, zC, ze, zN, zq, GS, Int.reduceToNat, Nat.reduceGT, ↓reduceIte, Nat.reduceAdd, Nat.reduceMul, Nat.reduceSub, Nat.reduceEqDiff, Nat.reduceLeDiff, Nat.reduceLT, Nat.reduceBEq, Int.reduceBEq, Int.reduceBNe, Int.reduceEq, Int.reduceLT, Int.reduceLE, Int.reduceGT, Int.reduceNeg, reduceCtorEq, GZ, IH]
theorem oo (s : Str) (hl : s.length ≤ 1048700) : zE (EV Tryz.prog pol) 87 [.t (.str s)] = some (rvT s) := by
  have h1 := c_at s 45 (by omega)
  rw [show (((45 : UInt8)).toNat : Int) = 45 from rfl] at h1
  have hl1 := qk 45 s
  have h2 := mJ (yl 45 s).1 46 (by omega)
  have h3 := mJ (yl 45 s).2.1 46 (by omega)
  rw [show (((46 : UInt8)).toNat : Int) = 46 from rfl] at h2 h3
  have hce := sA 45 s
  unfold rvT zA
  unfold atV at h1
  have hA : (yl 45 s).2.2 = false → (yl 45 s).1 = s := fun h => by rw [h, cond_false, List.append_nil] at hce; exact hce.symm
  have hB : (yl 45 s).2.2 = true → s.take (yl 45 s).1.length = (yl 45 s).1 ∧ s.drop ((yl 45 s).1.length + 1) = (yl 45 s).2.1 ∧ (yl 45 s).1.length + 1 ≤ s.length := fun h => by
    rw [h, cond_true] at hce
    have e1 : s.take (yl 45 s).1.length = (yl 45 s).1 := by
      conv => lhs; arg 2; rw [hce]
      exact List.take_left
    have e2 : s.drop ((yl 45 s).1.length + 1) = (yl 45 s).2.1 := by
      conv => lhs; arg 2; rw [hce]
      rw [← List.drop_drop, List.drop_left]; rfl
    refine ⟨e1, e2, ?_⟩
    have := congrArg List.length hce
    rw [List.length_append, List.length_cons] at this
    omega
  clear hce
  by_cases hn : (yi 46 (yl 45 s).1).length = 3
  · obtain ⟨a, b, c, hp⟩ : ∃ a b c, yi 46 (yl 45 s).1 = [a, b, c] := by
      match hq : yi 46 (yl 45 s).1, hn with
      | [a, b, c], _ => exact ⟨a, b, c, rfl⟩
    have hm : xQ s = some ⟨zO a, zO b, zO c, cond (yl 45 s).2.2 (yi 46 (yl 45 s).2.1) []⟩ := by unfold xQ; rw [hp]
    have hsm := (mi hm hl).1
    have hbk := xI 46 (yl 45 s).1
    rw [hp] at h2 hbk
    simp only [yk] at hbk
    have d1 := ja a (by omega)
    have d2 := ja b (by omega)
    have d3 := ja c (by omega)
    have hv := ei _ hsm
    rw [hm]
    simp only [Ver.enc, List.map_cons, List.map_nil, xj, yf] at hv h2 ⊢
    generalize zO a = ra at *
    generalize zO b = rb at *
    generalize zO c = rc at *
    cases hh : (yl 45 s).2.2 <;> rw [hh] at h1 hv <;> simp only [cond_true, cond_false, yf] at hv h1 ⊢
    · have hA' := hA hh
      rw [hA'] at h2
      generalize yb ⟨ra, rb, rc, []⟩ = tt at *
      clear hm hsm hA hB hp
      cases he : (tt == s)
      · apply zu
        refine zw rfl Tryz.func87 rfl (by kernel_rfl) ?_
        unfold Tryz.f87
        simp (disch := ((try simp only [LL]); omega)) only [↓GO, ↓DRW, GA, ren, zB, zf, refs, zb, cst, zl, zH, z7, E.load, E.store, zG, isC, bin, zI, zJ, una, z8, za, zh, zK, blt, fnV, asArg, zd, zn, zo, zj, zi, zg, zk, zr, z6, zD, zF, mkS, zc, unN, zM, zm, zy, zC, ze, zN, zq, GS, Int.reduceToNat, Nat.reduceGT, ↓reduceIte, Nat.reduceAdd, Nat.reduceMul, Nat.reduceSub, Nat.reduceEqDiff, Nat.reduceLeDiff, Nat.reduceLT, Nat.reduceBEq, Int.reduceBEq, Int.reduceBNe, Int.reduceEq, Int.reduceLT, Int.reduceLE, Int.reduceGT, Int.reduceNeg, reduceCtorEq, GZ, h1, h2, d1, d2, d3, hv, he, bne, ge_iff_le, Ver.zero, yf]
      · apply zu
        refine zw rfl Tryz.func87 rfl (by kernel_rfl) ?_
        unfold Tryz.f87
        simp (disch := ((try simp only [LL]); omega)) only [↓GO, ↓DRW, GA, ren, zB, zf, refs, zb, cst, zl, zH, z7, E.load, E.store, zG, isC, bin, zI, zJ, una, z8, za, zh, zK, blt, fnV, asArg, zd, zn, zo, zj, zi, zg, zk, zr, z6, zD, zF, mkS, zc, unN, zM, zm, zy, zC, ze, zN, zq, GS, Int.reduceToNat, Nat.reduceGT, ↓reduceIte, Nat.reduceAdd, Nat.reduceMul, Nat.reduceSub, Nat.reduceEqDiff, Nat.reduceLeDiff, Nat.reduceLT, Nat.reduceBEq, Int.reduceBEq, Int.reduceBNe, Int.reduceEq, Int.reduceLT, Int.reduceLE, Int.reduceGT, Int.reduceNeg, reduceCtorEq, GZ, h1, h2, d1, d2, d3, hv, he, bne, ge_iff_le, yf]
    · obtain ⟨b1, b2, b3⟩ := hB hh
      generalize yb ⟨ra, rb, rc, yi 46 (yl 45 s).2.1⟩ = tt at *
      clear hm hsm hA hB hp
      generalize yi 46 (yl 45 s).2.1 = pp at *
      have g0 : decide ((0 : Int) ≤ ((yl 45 s).1.length : Int)) = true := by simp
      generalize (yl 45 s).2.1 = tl at *
      generalize (yl 45 s).1 = hd at *
      cases he : (tt == s)
      · apply zu
        refine zw rfl Tryz.func87 rfl (by kernel_rfl) ?_
        unfold Tryz.f87
        simp (disch := ((try simp only [LL]); omega)) only [↓GO, ↓DRW, GA, ren, zB, zf, refs, zb, cst, zl, zH, z7, E.load, E.store, zG, isC, bin, zI, zJ, una, z8, za, zh, zK, blt, fnV, asArg, zd, zn, zo, zj, zi, zg, zk, zr, z6, zD, zF, mkS, zc, unN, zM, zm, zy, zC, ze, zN, zq, GS, Int.reduceToNat, Nat.reduceGT, ↓reduceIte, Nat.reduceAdd, Nat.reduceMul, Nat.reduceSub, Nat.reduceEqDiff, Nat.reduceLeDiff, Nat.reduceLT, Nat.reduceBEq, Int.reduceBEq, Int.reduceBNe, Int.reduceEq, Int.reduceLT, Int.reduceLE, Int.reduceGT, Int.reduceNeg, reduceCtorEq, GZ, h1, h2, h3, d1, d2, d3, hv, he, bne, ge_iff_le, g0, b1, b2, zx, Ver.zero, yf]
      · apply zu
        refine zw rfl Tryz.func87 rfl (by kernel_rfl) ?_
        unfold Tryz.f87
        simp (disch := ((try simp only [LL]); omega)) only [↓GO, ↓DRW, GA, ren, zB, zf, refs, zb, cst, zl, zH, z7, E.load, E.store, zG, isC, bin, zI, zJ, una, z8, za, zh, zK, blt, fnV, asArg, zd, zn, zo, zj, zi, zg, zk, zr, z6, zD, zF, mkS, zc, unN, zM, zm, zy, zC, ze, zN, zq, GS, Int.reduceToNat, Nat.reduceGT, ↓reduceIte, Nat.reduceAdd, Nat.reduceMul, Nat.reduceSub, Nat.reduceEqDiff, Nat.reduceLeDiff, Nat.reduceLT, Nat.reduceBEq, Int.reduceBEq, Int.reduceBNe, Int.reduceEq, Int.reduceLT, Int.reduceLE, Int.reduceGT, Int.reduceNeg, reduceCtorEq, GZ, h1, h2, h3, d1, d2, d3, hv, he, bne, ge_iff_le, g0, b1, b2, zx]
  · have hm := nt hn
    rw [hm]
    have hc : (((yi 46 (yl 45 s).1).length : Int) == 3) = false := by rw [beq_eq_false_iff_ne]; omega
    cases hh : (yl 45 s).2.2 <;> rw [hh] at h1 <;> simp only [cond_true, cond_false] at h1
    · have hA' := hA hh
      rw [hA'] at h2 hc
      generalize yi 46 s = parts at *
      apply zu
      refine zw rfl Tryz.func87 rfl (by kernel_rfl) ?_
      unfold Tryz.f87
      simp (disch := ((try simp only [LL]); omega)) only [↓GO, ↓DRW, GA, ren, zB, zf, refs, zb, cst, zl, zH, z7, E.load, E.store, zG, isC, bin, zI, zJ, una, z8, za, zh, zK, blt, fnV, asArg, zd, zn, zo, zj, zi, zg, zk, zr, z6, zD, zF, mkS, zc, unN, zM, zm, zy, zC, ze, zN, zq, GS, Int.reduceToNat, Nat.reduceGT, ↓reduceIte, Nat.reduceAdd, Nat.reduceMul, Nat.reduceSub, Nat.reduceEqDiff, Nat.reduceLeDiff, Nat.reduceLT, Nat.reduceBEq, Int.reduceBEq, Int.reduceBNe, Int.reduceEq, Int.reduceLT, Int.reduceLE, Int.reduceGT, Int.reduceNeg, reduceCtorEq, GZ, h1, h2, hc, bne, ge_iff_le, zR, Ver.zero, Ver.enc, yf]
    · obtain ⟨b1, b2, b3⟩ := hB hh
      have g0 : decide ((0 : Int) ≤ ((yl 45 s).1.length : Int)) = true := by simp
      generalize yi 46 (yl 45 s).1 = parts at *
      generalize yi 46 (yl 45 s).2.1 = pp at *
      generalize (yl 45 s).2.1 = tl at *
      generalize (yl 45 s).1 = hd at *
      apply zu
      refine zw rfl Tryz.func87 rfl (by kernel_rfl) ?_
      unfold Tryz.f87
      simp (disch := ((try simp only [LL]); omega)) only [↓GO, ↓DRW, GA, ren, zB, zf, refs, zb, cst, zl, zH, z7, E.load, E.store, zG, isC, bin, zI, zJ, una, z8, za, zh, zK, blt, fnV, asArg, zd, zn, zo, zj, zi, zg, zk, zr, z6, zD, zF, mkS, zc, unN, zM, zm, zy, zC, ze, zN, zq, GS, Int.reduceToNat, Nat.reduceGT, ↓reduceIte, Nat.reduceAdd, Nat.reduceMul, Nat.reduceSub, Nat.reduceEqDiff, Nat.reduceLeDiff, Nat.reduceLT, Nat.reduceBEq, Int.reduceBEq, Int.reduceBNe, Int.reduceEq, Int.reduceLT, Int.reduceLE, Int.reduceGT, Int.reduceNeg, reduceCtorEq, GZ, h1, h2, h3, hc, bne, ge_iff_le, g0, b1, b2, zx, zR, Ver.zero, Ver.enc, yf]
end Go.Proofs.YtmcephnfcciloaaGreatDoor
/- The range of a version alone, by both. Conditions: those of each lemma. -/
namespace Go.Proofs.YtmcephnfcciloaaGreatDoor
open E
set_option linter.unusedSimpArgs false
set_option linter.unusedVariables false
set_option maxRecDepth 100000
theorem cY (a b c : Int) : Ver.sm ⟨a, b, c, [[48]]⟩ := by simp [Ver.sm, yk]
theorem mP (a b c : Int) : zE (EV Tryz.prog pol) 131 [.t (.int .i64 a), .t (.int .i64 b), .t (.int .i64 c)] = some (.t (.str (ye a b c))) := by
  have h := uB ⟨a, b, c, [[48]]⟩ (cY a b c)
  simp only [Ver.enc, List.map_cons, List.map_nil, xj, yf] at h
  unfold ye
  apply zu
  refine zw rfl Tryz.func131 rfl (by kernel_rfl) ?_
  unfold Tryz.f131
  simp (disch := ((try simp only [LL]); omega)) only [↓GO, ↓DRW, GA, ren, zB, zf, refs, zb, cst, zl, zH, z7, E.load, E.store, zG, isC, bin, zI, zJ, una, z8, za, zh, zK, blt, fnV, asArg, zd, zn, zo, zj, zi, zg, zk, zr, z6, zD, zF, mkS, zc, unN, zM, zm, zy, zC, ze, zN, zq, GS, Int.reduceToNat, Nat.reduceGT, ↓reduceIte, Nat.reduceAdd, Nat.reduceMul, Nat.reduceSub, Nat.reduceEqDiff, Nat.reduceLeDiff, Nat.reduceLT, Nat.reduceBEq, Int.reduceBEq, Int.reduceBNe, Int.reduceEq, Int.reduceLT, Int.reduceLE, Int.reduceGT, Int.reduceNeg, reduceCtorEq, GZ, h]
theorem aI (v : Ver) (hs : v.sm) (hp : v.pre.length + yk v.pre ≤ 2097150) (h0 : -1 ≤ v.pat) (h1 : v.pat ≤ 999999999) : zE (EV Tryz.prog pol) 124 [.agg (v.enc.map .t)] = some (.agg [.t (.str (yb v)), .t (.str (uG v))]) := by
  have a1 := mP v.maj v.min (v.pat + 1)
  have a2 := uB v hs
  have hpv : (s7 v).sm := by
    unfold Ver.sm s7
    simp only [List.length_append, List.length_cons, List.length_nil, mC, yk]; omega
  have a3 := uB (s7 v) hpv
  unfold Ver.sm at hs
  have a4 := XN (y6 v.pre) (by rw [zR]; omega)
  have ht : List.take (v.pre.length + 1) (y6 v.pre ++ [[T.str [48]]]) = y6 v.pre ++ [[T.str [48]]] := List.take_of_length_le (by simp [zR])
  have hg := jQ v.pre
  unfold uG
  rw [show (s7 v).enc = [.int .i64 v.maj, .int .i64 v.min, .int .i64 v.pat, .list 1 (y6 v.pre ++ [[.str [48]]])] by unfold Ver.enc s7; rw [uq]; rfl] at a3
  simp only [Ver.enc, List.map_cons, List.map_nil] at a2 a3 ⊢
  rw [zR] at a4
  generalize yb (s7 v) = tp at *
  generalize yb v = tv at *
  generalize ye v.maj v.min (v.pat + 1) = tz at *
  cases hb : (v.pre == []) <;> rw [hb] at hg <;> simp only [Bool.not_true, Bool.not_false] at hg
  · apply zu
    refine zw rfl Tryz.func124 rfl (by kernel_rfl) ?_
    unfold Tryz.f124
    simp (disch := ((try simp only [LL]); omega)) only [↓GO, ↓DRW, GA, ren, zB, zf, refs, zb, cst, zl, zH, z7, E.load, E.store, zG, isC, bin, zI, zJ, una, z8, za, zh, zK, blt, fnV, asArg, zd, zn, zo, zj, zi, zg, zk, zr, z6, zD, zF, mkS, zc, unN, zM, zm, zy, zC, ze, zN, zq, GS, Int.reduceToNat, Nat.reduceGT, ↓reduceIte, Nat.reduceAdd, Nat.reduceMul, Nat.reduceSub, Nat.reduceEqDiff, Nat.reduceLeDiff, Nat.reduceLT, Nat.reduceBEq, Int.reduceBEq, Int.reduceBNe, Int.reduceEq, Int.reduceLT, Int.reduceLE, Int.reduceGT, Int.reduceNeg, reduceCtorEq, GZ, a1, a2, a3, a4, ht, hg, zx, zR, wc, zY]
  · apply zu
    refine zw rfl Tryz.func124 rfl (by kernel_rfl) ?_
    unfold Tryz.f124
    simp (disch := ((try simp only [LL]); omega)) only [↓GO, ↓DRW, GA, ren, zB, zf, refs, zb, cst, zl, zH, z7, E.load, E.store, zG, isC, bin, zI, zJ, una, z8, za, zh, zK, blt, fnV, asArg, zd, zn, zo, zj, zi, zg, zk, zr, z6, zD, zF, mkS, zc, unN, zM, zm, zy, zC, ze, zN, zq, GS, Int.reduceToNat, Nat.reduceGT, ↓reduceIte, Nat.reduceAdd, Nat.reduceMul, Nat.reduceSub, Nat.reduceEqDiff, Nat.reduceLeDiff, Nat.reduceLT, Nat.reduceBEq, Int.reduceBEq, Int.reduceBNe, Int.reduceEq, Int.reduceLT, Int.reduceLE, Int.reduceGT, Int.reduceNeg, reduceCtorEq, GZ, a1, a2, a3, a4, ht, hg, zx, zR, wc, zY]
def exT (s : Str) : List (List T) := match x6 s with
  | some (l, h) => [[.str l, .str h]]
  | none => []
theorem py (s : Str) (hl : s.length ≤ 1048700) : (zA s).1.pre.length + yk (zA s).1.pre ≤ 1048701 := by
  unfold zA
  cases hm : xQ s with
  | none => simp [Ver.zero, yk]
  | some v =>
    have h : v.pre.length + yk v.pre ≤ 1048701 := by
      unfold xQ at hm
      split at hm
      · cases hm
        have := xI 46 (yl 45 s).2.1
        have h5 := (qk 45 s).2
        cases (yl 45 s).2.2 with
        | true => simp only [cond_true]; omega
        | false => simp [yk]
      · cases hm
    simp only
    cases (yb v == s) with
    | true => exact h
    | false => simp [Ver.zero, yk]
theorem c_exI (s : Str) (hl : s.length ≤ 1048700) : zE (EV Tryz.prog pol) 92 [.t (.str s)] = some (.t (.list 2 (exT s))) := by
  have h1 := oq s hl
  obtain ⟨m1, m2, m3, m4, m5, m6, m7⟩ := yW s hl
  have hp := py s hl
  have h2 := aI (zA s).1 m1 (by omega) m7 m6
  unfold exT x6
  unfold rvT at h1
  cases hk : (zA s).2 with
  | false =>
    rw [hk] at h1
    generalize (zA s).1 = v at *
    generalize yb v = tv at *
    generalize uG v = hv at *
    simp only [Ver.enc, List.map_cons, List.map_nil] at h1 h2 ⊢
    apply zu
    refine zw rfl Tryz.func92 rfl (by kernel_rfl) ?_
    unfold Tryz.f92
    simp (disch := ((try simp only [LL]); omega)) only [↓GO, ↓DRW, GA, ren, zB, zf, refs, zb, cst, zl, zH, z7, E.load, E.store, zG, isC, bin, zI, zJ, una, z8, za, zh, zK, blt, fnV, asArg, zd, zn, zo, zj, zi, zg, zk, zr, z6, zD, zF, mkS, zc, unN, zM, zm, zy, zC, ze, zN, zq, GS, Int.reduceToNat, Nat.reduceGT, ↓reduceIte, Nat.reduceAdd, Nat.reduceMul, Nat.reduceSub, Nat.reduceEqDiff, Nat.reduceLeDiff, Nat.reduceLT, Nat.reduceBEq, Int.reduceBEq, Int.reduceBNe, Int.reduceEq, Int.reduceLT, Int.reduceLE, Int.reduceGT, Int.reduceNeg, reduceCtorEq, GZ, h1, h2]
  | true =>
    have ht := (yu hk).2.1
    rw [ht] at h2
    rw [hk] at h1
    generalize (zA s).1 = v at *
    generalize uG v = hv at *
    simp only [Ver.enc, List.map_cons, List.map_nil] at h1 h2 ⊢
    cases he : (hv == [])
    · apply zu
      refine zw rfl Tryz.func92 rfl (by kernel_rfl) ?_
      unfold Tryz.f92
      simp (disch := ((try simp only [LL]); omega)) only [↓GO, ↓DRW, GA, ren, zB, zf, refs, zb, cst, zl, zH, z7, E.load, E.store, zG, isC, bin, zI, zJ, una, z8, za, zh, zK, blt, fnV, asArg, zd, zn, zo, zj, zi, zg, zk, zr, z6, zD, zF, mkS, zc, unN, zM, zm, zy, zC, ze, zN, zq, GS, Int.reduceToNat, Nat.reduceGT, ↓reduceIte, Nat.reduceAdd, Nat.reduceMul, Nat.reduceSub, Nat.reduceEqDiff, Nat.reduceLeDiff, Nat.reduceLT, Nat.reduceBEq, Int.reduceBEq, Int.reduceBNe, Int.reduceEq, Int.reduceLT, Int.reduceLE, Int.reduceGT, Int.reduceNeg, reduceCtorEq, GZ, h1, h2, he]
    · apply zu
      refine zw rfl Tryz.func92 rfl (by kernel_rfl) ?_
      unfold Tryz.f92
      simp (disch := ((try simp only [LL]); omega)) only [↓GO, ↓DRW, GA, ren, zB, zf, refs, zb, cst, zl, zH, z7, E.load, E.store, zG, isC, bin, zI, zJ, una, z8, za, zh, zK, blt, fnV, asArg, zd, zn, zo, zj, zi, zg, zk, zr, z6, zD, zF, mkS, zc, unN, zM, zm, zy, zC, ze, zN, zq, GS, Int.reduceToNat, Nat.reduceGT, ↓reduceIte, Nat.reduceAdd, Nat.reduceMul, Nat.reduceSub, Nat.reduceEqDiff, Nat.reduceLeDiff, Nat.reduceLT, Nat.reduceBEq, Int.reduceBEq, Int.reduceBNe, Int.reduceEq, Int.reduceLT, Int.reduceLE, Int.reduceGT, Int.reduceNeg, reduceCtorEq, GZ, h1, h2, he]
end Go.Proofs.YtmcephnfcciloaaGreatDoor
/- Versions compared, the next one, the range of one alone, by the reference. Conditions: those of each lemma. -/
namespace Go.Proofs.YtmcephnfcciloaaGreatDoor
open E
set_option linter.unusedSimpArgs false
set_option linter.unusedVariables false
set_option maxRecDepth 100000
theorem pn (a b : Int) : zE (EV Tryz.prog pol) 154 [.t (.int .i64 a), .t (.int .i64 b)] = some (.t (.int .i64 (x9 a b))) := by
  unfold x9
  cases h1 : decide (a < b) <;> cases h2 : decide (a > b)
  all_goals
    apply zu
    refine zw rfl Tryz.func154 rfl (by kernel_rfl) ?_
    unfold Tryz.f154
    simp (disch := ((try simp only [LL]); omega)) only [↓GO, ↓DRW, GA, ren, zB, zf, refs, zb, cst, zl, zH, z7, E.load, E.store, zG, isC, bin, zI, zJ, una, z8, za, zh, zK, blt, fnV, asArg, zd, zn, zo, zj, zi, zg, zk, zr, z6, zD, zF, mkS, zc, unN, zM, zm, zy, zC, ze, zN, zq, GS, Int.reduceToNat, Nat.reduceGT, ↓reduceIte, Nat.reduceAdd, Nat.reduceMul, Nat.reduceSub, Nat.reduceEqDiff, Nat.reduceLeDiff, Nat.reduceLT, Nat.reduceBEq, Int.reduceBEq, Int.reduceBNe, Int.reduceEq, Int.reduceLT, Int.reduceLE, Int.reduceGT, Int.reduceNeg, reduceCtorEq, GZ, h1, h2]
theorem Tk (a b : Str) : zE (EV Tryz.prog pol) 176 [.t (.str a), .t (.str b)] = some (.t (.int .i64 (nG a b))) := by
  unfold nG
  cases h1 : Op.bytesLess a b <;> cases h2 : (a == b)
  all_goals
    apply zu
    refine zw rfl Tryz.func176 rfl (by kernel_rfl) ?_
    unfold Tryz.f176
    simp (disch := ((try simp only [LL]); omega)) only [↓GO, ↓DRW, GA, ren, zB, zf, refs, zb, cst, zl, zH, z7, E.load, E.store, zG, isC, bin, zI, zJ, una, z8, za, zh, zK, blt, fnV, asArg, zd, zn, zo, zj, zi, zg, zk, zr, z6, zD, zF, mkS, zc, unN, zM, zm, zy, zC, ze, zN, zq, GS, Int.reduceToNat, Nat.reduceGT, ↓reduceIte, Nat.reduceAdd, Nat.reduceMul, Nat.reduceSub, Nat.reduceEqDiff, Nat.reduceLeDiff, Nat.reduceLT, Nat.reduceBEq, Int.reduceBEq, Int.reduceBNe, Int.reduceEq, Int.reduceLT, Int.reduceLE, Int.reduceGT, Int.reduceNeg, reduceCtorEq, GZ, h1, h2]
theorem SL (a b : Str) (ha : a.length ≤ 4194304) (hb : b.length ≤ 4194304) : zE (EV Tryz.prog pol) 155 [.t (.str a), .t (.str b)] = some (.t (.int .i64 (aB a b))) := by
  have d1 := ja a (by omega)
  have d2 := ja b (by omega)
  have d3 := pn (zO a) (zO b)
  have d4 := Tk a b
  unfold aB
  generalize zO a = ra at *
  generalize zO b = rb at *
  cases h1 : decide (ra ≥ 0) <;> cases h2 : decide (rb ≥ 0)
  all_goals
    apply zu
    refine zw rfl Tryz.func155 rfl (by kernel_rfl) ?_
    unfold Tryz.f155
    simp (disch := ((try simp only [LL]); omega)) only [↓GO, ↓DRW, GA, ren, zB, zf, refs, zb, cst, zl, zH, z7, E.load, E.store, zG, isC, bin, zI, zJ, una, z8, za, zh, zK, blt, fnV, asArg, zd, zn, zo, zj, zi, zg, zk, zr, z6, zD, zF, mkS, zc, unN, zM, zm, zy, zC, ze, zN, zq, GS, Int.reduceToNat, Nat.reduceGT, ↓reduceIte, Nat.reduceAdd, Nat.reduceMul, Nat.reduceSub, Nat.reduceEqDiff, Nat.reduceLeDiff, Nat.reduceLT, Nat.reduceBEq, Int.reduceBEq, Int.reduceBNe, Int.reduceEq, Int.reduceLT, Int.reduceLE, Int.reduceGT, Int.reduceNeg, reduceCtorEq, GZ, d1, d2, d3, d4, h1, h2]
theorem Sx (x1 x2 x3 x4 y1 y2 y3 y4 : T) (a b c : Int) :
    EV Tryz.prog pol (.loop 117 58 0 [.ptr 0 0 0, .ptr 1 0 0, .sl 2 0 3 (some 3), .t (.int .i64 0)] [.vs 4 [[.t x1, .t x2, .t x3, .t x4]], .vs 4 [[.t y1, .t y2, .t y3, .t y4]], .ts 1 [[.int .i64 a], [.int .i64 b], [.int .i64 c]]])
    = some (cond (a == 0) (cond (b == 0) (cond (c == 0) (.loop (.exit 0) [.ptr 0 0 0, .ptr 1 0 0, .bad] [.vs 4 [[.t x1, .t x2, .t x3, .t x4]], .vs 4 [[.t y1, .t y2, .t y3, .t y4]]])
      (.loop .ret [.ptr 0 0 0, .ptr 1 0 0, .t (.int .i64 c)] [.vs 4 [[.t x1, .t x2, .t x3, .t x4]], .vs 4 [[.t y1, .t y2, .t y3, .t y4]]]))
      (.loop .ret [.ptr 0 0 0, .ptr 1 0 0, .t (.int .i64 b)] [.vs 4 [[.t x1, .t x2, .t x3, .t x4]], .vs 4 [[.t y1, .t y2, .t y3, .t y4]]]))
      (.loop .ret [.ptr 0 0 0, .ptr 1 0 0, .t (.int .i64 a)] [.vs 4 [[.t x1, .t x2, .t x3, .t x4]], .vs 4 [[.t y1, .t y2, .t y3, .t y4]]])) := by
  cases h1 : (a == 0)
  · refine zz Tryz.func117 rfl rfl ?_
    simp (disch := ((try simp only [LL]); omega)) only [↓GO, ↓DRW, GA, ren, zB, zf, refs, zb, cst, zl, zH, z7, E.load, E.store, zG, isC, bin, zI, zJ, una, z8, za, zh, zK, blt, fnV, asArg, zd, zn, zo, zj, zi, zg, zk, zr, z6, zD, zF, mkS, zc, unN, zM, zm, zy, zC, ze, zN, zq, GS, Int.reduceToNat, Nat.reduceGT, ↓reduceIte, Nat.reduceAdd, Nat.reduceMul, Nat.reduceSub, Nat.reduceEqDiff, Nat.reduceLeDiff, Nat.reduceLT, Nat.reduceBEq, Int.reduceBEq, Int.reduceBNe, Int.reduceEq, Int.reduceLT, Int.reduceLE, Int.reduceGT, Int.reduceNeg, reduceCtorEq, GZ, h1, bne, zx, zY]
  · refine zz Tryz.func117 rfl rfl ?_
    simp (disch := ((try simp only [LL]); omega)) only [↓GO, ↓DRW, GA, ren, zB, zf, refs, zb, cst, zl, zH, z7, E.load, E.store, zG, isC, bin, zI, zJ, una, z8, za, zh, zK, blt, fnV, asArg, zd, zn, zo, zj, zi, zg, zk, zr, z6, zD, zF, mkS, zc, unN, zM, zm, zy, zC, ze, zN, zq, GS, Int.reduceToNat, Nat.reduceGT, ↓reduceIte, Nat.reduceAdd, Nat.reduceMul, Nat.reduceSub, Nat.reduceEqDiff, Nat.reduceLeDiff, Nat.reduceLT, Nat.reduceBEq, Int.reduceBEq, Int.reduceBNe, Int.reduceEq, Int.reduceLT, Int.reduceLE, Int.reduceGT, Int.reduceNeg, reduceCtorEq, GZ, h1, bne, zx, zY, Int.zero_add]
    cases h2 : (b == 0)
    · refine zz Tryz.func117 rfl rfl ?_
      simp (disch := ((try simp only [LL]); omega)) only [↓GO, ↓DRW, GA, ren, zB, zf, refs, zb, cst, zl, zH, z7, E.load, E.store, zG, isC, bin, zI, zJ, una, z8, za, zh, zK, blt, fnV, asArg, zd, zn, zo, zj, zi, zg, zk, zr, z6, zD, zF, mkS, zc, unN, zM, zm, zy, zC, ze, zN, zq, GS, Int.reduceToNat, Nat.reduceGT, ↓reduceIte, Nat.reduceAdd, Nat.reduceMul, Nat.reduceSub, Nat.reduceEqDiff, Nat.reduceLeDiff, Nat.reduceLT, Nat.reduceBEq, Int.reduceBEq, Int.reduceBNe, Int.reduceEq, Int.reduceLT, Int.reduceLE, Int.reduceGT, Int.reduceNeg, reduceCtorEq, GZ, h2, bne, zx, zY]
    · refine zz Tryz.func117 rfl rfl ?_
      simp (disch := ((try simp only [LL]); omega)) only [↓GO, ↓DRW, GA, ren, zB, zf, refs, zb, cst, zl, zH, z7, E.load, E.store, zG, isC, bin, zI, zJ, una, z8, za, zh, zK, blt, fnV, asArg, zd, zn, zo, zj, zi, zg, zk, zr, z6, zD, zF, mkS, zc, unN, zM, zm, zy, zC, ze, zN, zq, GS, Int.reduceToNat, Nat.reduceGT, ↓reduceIte, Nat.reduceAdd, Nat.reduceMul, Nat.reduceSub, Nat.reduceEqDiff, Nat.reduceLeDiff, Nat.reduceLT, Nat.reduceBEq, Int.reduceBEq, Int.reduceBNe, Int.reduceEq, Int.reduceLT, Int.reduceLE, Int.reduceGT, Int.reduceNeg, reduceCtorEq, GZ, h2, bne, zx, zY, Int.reduceAdd]
      cases h3 : (c == 0)
      · refine zz Tryz.func117 rfl rfl ?_
        simp (disch := ((try simp only [LL]); omega)) only [↓GO, ↓DRW, GA, ren, zB, zf, refs, zb, cst, zl, zH, z7, E.load, E.store, zG, isC, bin, zI, zJ, una, z8, za, zh, zK, blt, fnV, asArg, zd, zn, zo, zj, zi, zg, zk, zr, z6, zD, zF, mkS, zc, unN, zM, zm, zy, zC, ze, zN, zq, GS, Int.reduceToNat, Nat.reduceGT, ↓reduceIte, Nat.reduceAdd, Nat.reduceMul, Nat.reduceSub, Nat.reduceEqDiff, Nat.reduceLeDiff, Nat.reduceLT, Nat.reduceBEq, Int.reduceBEq, Int.reduceBNe, Int.reduceEq, Int.reduceLT, Int.reduceLE, Int.reduceGT, Int.reduceNeg, reduceCtorEq, GZ, h3, bne, zx, zY]
      · refine zz Tryz.func117 rfl rfl ?_
        simp (disch := ((try simp only [LL]); omega)) only [↓GO, ↓DRW, GA, ren, zB, zf, refs, zb, cst, zl, zH, z7, E.load, E.store, zG, isC, bin, zI, zJ, una, z8, za, zh, zK, blt, fnV, asArg, zd, zn, zo, zj, zi, zg, zk, zr, z6, zD, zF, mkS, zc, unN, zM, zm, zy, zC, ze, zN, zq, GS, Int.reduceToNat, Nat.reduceGT, ↓reduceIte, Nat.reduceAdd, Nat.reduceMul, Nat.reduceSub, Nat.reduceEqDiff, Nat.reduceLeDiff, Nat.reduceLT, Nat.reduceBEq, Int.reduceBEq, Int.reduceBNe, Int.reduceEq, Int.reduceLT, Int.reduceLE, Int.reduceGT, Int.reduceNeg, reduceCtorEq, GZ, h3, bne, zx, zY, Int.reduceAdd]
        refine zz Tryz.func117 rfl rfl ?_
        simp (disch := ((try simp only [LL]); omega)) only [↓GO, ↓DRW, GA, ren, zB, zf, refs, zb, cst, zl, zH, z7, E.load, E.store, zG, isC, bin, zI, zJ, una, z8, za, zh, zK, blt, fnV, asArg, zd, zn, zo, zj, zi, zg, zk, zr, z6, zD, zF, mkS, zc, unN, zM, zm, zy, zC, ze, zN, zq, GS, Int.reduceToNat, Nat.reduceGT, ↓reduceIte, Nat.reduceAdd, Nat.reduceMul, Nat.reduceSub, Nat.reduceEqDiff, Nat.reduceLeDiff, Nat.reduceLT, Nat.reduceBEq, Int.reduceBEq, Int.reduceBNe, Int.reduceEq, Int.reduceLT, Int.reduceLE, Int.reduceGT, Int.reduceNeg, reduceCtorEq, GZ, zx, zY]
theorem VV (a b : Ver) (ha : a.sm) (hb : b.sm) : ∀ (ra rb pa pb : List Str), a.pre = pa ++ ra → b.pre = pb ++ rb → pa.length = pb.length →
    EV Tryz.prog pol (.loop 117 250 0 [.ptr 0 0 0, .ptr 1 0 0, .t (.int .i64 (pa.length : Int))] [.vs 4 [a.enc.map .t], .vs 4 [b.enc.map .t]])
    = some (match rz ra rb with
      | some n => .loop .ret [.ptr 0 0 0, .ptr 1 0 0, .t (.int .i64 n)] [.vs 4 [a.enc.map .t], .vs 4 [b.enc.map .t]]
      | none => .loop (.exit 2) [.ptr 0 0 0, .ptr 1 0 0, .bad] [.vs 4 [a.enc.map .t], .vs 4 [b.enc.map .t]])
  | [], rb, pa, pb, h1, h2, h3 => by
    have c : decide ((pa.length : Int) < (a.pre.length : Int)) = false := by simp [h1]
    simp only [Ver.enc, List.map_cons, List.map_nil, rz]
    refine zz Tryz.func117 rfl rfl ?_
    simp (disch := ((try simp only [LL]); omega)) only [↓GO, ↓DRW, GA, ren, zB, zf, refs, zb, cst, zl, zH, z7, E.load, E.store, zG, isC, bin, zI, zJ, una, z8, za, zh, zK, blt, fnV, asArg, zd, zn, zo, zj, zi, zg, zk, zr, z6, zD, zF, mkS, zc, unN, zM, zm, zy, zC, ze, zN, zq, GS, Int.reduceToNat, Nat.reduceGT, ↓reduceIte, Nat.reduceAdd, Nat.reduceMul, Nat.reduceSub, Nat.reduceEqDiff, Nat.reduceLeDiff, Nat.reduceLT, Nat.reduceBEq, Int.reduceBEq, Int.reduceBNe, Int.reduceEq, Int.reduceLT, Int.reduceLE, Int.reduceGT, Int.reduceNeg, reduceCtorEq, GZ, zR, c, zY]
  | x :: ra, [], pa, pb, h1, h2, h3 => by
    have c : decide ((pa.length : Int) < (a.pre.length : Int)) = true := by simp [h1]; omega
    have c2 : decide ((pa.length : Int) < (b.pre.length : Int)) = false := by simp [h2]; omega
    simp only [Ver.enc, List.map_cons, List.map_nil, rz]
    refine zz Tryz.func117 rfl rfl ?_
    simp (disch := ((try simp only [LL]); omega)) only [↓GO, ↓DRW, GA, ren, zB, zf, refs, zb, cst, zl, zH, z7, E.load, E.store, zG, isC, bin, zI, zJ, una, z8, za, zh, zK, blt, fnV, asArg, zd, zn, zo, zj, zi, zg, zk, zr, z6, zD, zF, mkS, zc, unN, zM, zm, zy, zC, ze, zN, zq, GS, Int.reduceToNat, Nat.reduceGT, ↓reduceIte, Nat.reduceAdd, Nat.reduceMul, Nat.reduceSub, Nat.reduceEqDiff, Nat.reduceLeDiff, Nat.reduceLT, Nat.reduceBEq, Int.reduceBEq, Int.reduceBNe, Int.reduceEq, Int.reduceLT, Int.reduceLE, Int.reduceGT, Int.reduceNeg, reduceCtorEq, GZ, zR, c, c2, zY]
  | x :: ra, y :: rb, pa, pb, h1, h2, h3 => by
    unfold Ver.sm at ha hb
    have c : decide ((pa.length : Int) < (a.pre.length : Int)) = true := by simp [h1]; omega
    have c2 : decide ((pa.length : Int) < (b.pre.length : Int)) = true := by simp [h2]; omega
    have hg1 : (y6 a.pre)[pa.length]? = some [.str x] := by rw [h1]; exact xS pa x ra
    have hg2 : (y6 b.pre)[pa.length]? = some [.str y] := by rw [h2, h3]; exact xS pb y rb
    have hlen : pa.length + ra.length + 1 ≤ a.pre.length := by rw [h1]; simp; omega
    have hx : x.length ≤ 2097152 := by have := xV (ks := a.pre) (s := x) (by rw [h1]; simp); omega
    have hy : y.length ≤ 2097152 := by have := xV (ks := b.pre) (s := y) (by rw [h2]; simp); omega
    have hp := SL x y (by omega) (by omega)
    have IH := VV a b ha hb ra rb (pa ++ [x]) (pb ++ [y]) (by rw [h1]; simp) (by rw [h2]; simp) (by simp [h3])
    rw [show ((pa ++ [x]).length : Int) = (pa.length : Int) + 1 by simp] at IH
    clear h1 h2
    simp only [Ver.enc, List.map_cons, List.map_nil] at IH ⊢
    rw [rz]
    generalize aB x y = n at *
    cases hn : (n == 0)
    · simp only [cond_false]
      refine zz Tryz.func117 rfl rfl ?_
      simp (disch := ((try simp only [LL]); omega)) only [↓GO, ↓DRW, GA, ren, zB, zf, refs, zb, cst, zl, zH, z7, E.load, E.store, zG, isC, bin, zI, zJ, una, z8, za, zh, zK, blt, fnV, asArg, zd, zn, zo, zj, zi, zg, zk, zr, z6, zD, zF, mkS, zc, unN, zM, zm, zy, zC, ze, zN, zq, GS, Int.reduceToNat, Nat.reduceGT, ↓reduceIte, Nat.reduceAdd, Nat.reduceMul, Nat.reduceSub, Nat.reduceEqDiff, Nat.reduceLeDiff, Nat.reduceLT, Nat.reduceBEq, Int.reduceBEq, Int.reduceBNe, Int.reduceEq, Int.reduceLT, Int.reduceLE, Int.reduceGT, Int.reduceNeg, reduceCtorEq, GZ, zR, c, c2, hg1, hg2, hp, hn, bne, zx, zY]
    · simp only [cond_true]
      refine zz Tryz.func117 rfl rfl ?_
      simp (disch := ((try simp only [LL]); omega)) only [↓GO, ↓DRW, GA, ren, zB, zf, refs, zb, cst, zl, zH, z7, E.load, E.store, zG, isC, bin, zI, zJ, una, z8, za, zh, zK, blt, fnV, asArg, zd, zn, zo, zj, zi, zg, zk, zr, z6, zD, zF, mkS, zc, unN, zM, zm, zy, zC, ze, zN, zq, GS, Int.reduceToNat, Nat.reduceGT, ↓reduceIte, Nat.reduceAdd, Nat.reduceMul, Nat.reduceSub, Nat.reduceEqDiff, Nat.reduceLeDiff, Nat.reduceLT, Nat.reduceBEq, Int.reduceBEq, Int.reduceBNe, Int.reduceEq, Int.reduceLT, Int.reduceLE, Int.reduceGT, Int.reduceNeg, reduceCtorEq, GZ, zR, c, c2, hg1, hg2, hp, hn, bne, zx, zY, IH]
theorem cQ (a b : Ver) (ha : a.sm) (hb : b.sm) : zE (EV Tryz.prog pol) 117 [.agg (a.enc.map .t), .agg (b.enc.map .t)] = some (.t (.int .i64 (rE a b))) := by
  have d1 := pn a.maj b.maj
  have d2 := pn a.min b.min
  have d3 := pn a.pat b.pat
  have d4 := pn (b.pre.length : Int) (a.pre.length : Int)
  have d5 := pn (a.pre.length : Int) (b.pre.length : Int)
  have L2 := VV a b ha hb a.pre b.pre [] [] rfl rfl rfl
  have L1 := Sx (.int .i64 a.maj) (.int .i64 a.min) (.int .i64 a.pat) (.list 1 (y6 a.pre)) (.int .i64 b.maj) (.int .i64 b.min) (.int .i64 b.pat) (.list 1 (y6 b.pre)) (x9 a.maj b.maj) (x9 a.min b.min) (x9 a.pat b.pat)
  have e1 := vZ a.pre
  have e2 := vZ b.pre
  unfold rE Uk
  simp only [List.length_nil, Int.natCast_zero] at L2
  simp only [Ver.enc, List.map_cons, List.map_nil] at L1 L2 ⊢
  generalize x9 a.maj b.maj = n1 at *
  generalize x9 a.min b.min = n2 at *
  generalize x9 a.pat b.pat = n3 at *
  cases h1 : (n1 == 0) <;> rw [h1] at L1
  · simp only [cond_false] at L1
    apply zu
    refine zw rfl Tryz.func117 rfl (by kernel_rfl) ?_
    unfold Tryz.f117
    simp (disch := ((try simp only [LL]); omega)) only [↓GO, ↓DRW, GA, ren, zB, zf, refs, zb, cst, zl, zH, z7, E.load, E.store, zG, isC, bin, zI, zJ, una, z8, za, zh, zK, blt, fnV, asArg, zd, zn, zo, zj, zi, zg, zk, zr, z6, zD, zF, mkS, zc, unN, zM, zm, zy, zC, ze, zN, zq, GS, Int.reduceToNat, Nat.reduceGT, ↓reduceIte, Nat.reduceAdd, Nat.reduceMul, Nat.reduceSub, Nat.reduceEqDiff, Nat.reduceLeDiff, Nat.reduceLT, Nat.reduceBEq, Int.reduceBEq, Int.reduceBNe, Int.reduceEq, Int.reduceLT, Int.reduceLE, Int.reduceGT, Int.reduceNeg, reduceCtorEq, GZ, d1, d2, d3, L1, zY]
    refine yQ (by kernel_rfl) ?_
    simp (disch := ((try simp only [LL]); omega)) only [↓GO, ↓DRW, GA, ren, zB, zf, refs, zb, cst, zl, zH, z7, E.load, E.store, zG, isC, bin, zI, zJ, una, z8, za, zh, zK, blt, fnV, asArg, zd, zn, zo, zj, zi, zg, zk, zr, z6, zD, zF, mkS, zc, unN, zM, zm, zy, zC, ze, zN, zq, GS, Int.reduceToNat, Nat.reduceGT, ↓reduceIte, Nat.reduceAdd, Nat.reduceMul, Nat.reduceSub, Nat.reduceEqDiff, Nat.reduceLeDiff, Nat.reduceLT, Nat.reduceBEq, Int.reduceBEq, Int.reduceBNe, Int.reduceEq, Int.reduceLT, Int.reduceLE, Int.reduceGT, Int.reduceNeg, reduceCtorEq, GZ, d1, d2, d3, L1, zY]
  · cases h2 : (n2 == 0) <;> rw [h2] at L1
    · simp only [cond_false, cond_true] at L1
      apply zu
      refine zw rfl Tryz.func117 rfl (by kernel_rfl) ?_
      unfold Tryz.f117
      simp (disch := ((try simp only [LL]); omega)) only [↓GO, ↓DRW, GA, ren, zB, zf, refs, zb, cst, zl, zH, z7, E.load, E.store, zG, isC, bin, zI, zJ, una, z8, za, zh, zK, blt, fnV, asArg, zd, zn, zo, zj, zi, zg, zk, zr, z6, zD, zF, mkS, zc, unN, zM, zm, zy, zC, ze, zN, zq, GS, Int.reduceToNat, Nat.reduceGT, ↓reduceIte, Nat.reduceAdd, Nat.reduceMul, Nat.reduceSub, Nat.reduceEqDiff, Nat.reduceLeDiff, Nat.reduceLT, Nat.reduceBEq, Int.reduceBEq, Int.reduceBNe, Int.reduceEq, Int.reduceLT, Int.reduceLE, Int.reduceGT, Int.reduceNeg, reduceCtorEq, GZ, d1, d2, d3, L1, zY]
      refine yQ (by kernel_rfl) ?_
      simp (disch := ((try simp only [LL]); omega)) only [↓GO, ↓DRW, GA, ren, zB, zf, refs, zb, cst, zl, zH, z7, E.load, E.store, zG, isC, bin, zI, zJ, una, z8, za, zh, zK, blt, fnV, asArg, zd, zn, zo, zj, zi, zg, zk, zr, z6, zD, zF, mkS, zc, unN, zM, zm, zy, zC, ze, zN, zq, GS, Int.reduceToNat, Nat.reduceGT, ↓reduceIte, Nat.reduceAdd, Nat.reduceMul, Nat.reduceSub, Nat.reduceEqDiff, Nat.reduceLeDiff, Nat.reduceLT, Nat.reduceBEq, Int.reduceBEq, Int.reduceBNe, Int.reduceEq, Int.reduceLT, Int.reduceLE, Int.reduceGT, Int.reduceNeg, reduceCtorEq, GZ, d1, d2, d3, L1, zY]
    · cases h3 : (n3 == 0) <;> rw [h3] at L1
      · simp only [cond_false, cond_true] at L1
        apply zu
        refine zw rfl Tryz.func117 rfl (by kernel_rfl) ?_
        unfold Tryz.f117
        simp (disch := ((try simp only [LL]); omega)) only [↓GO, ↓DRW, GA, ren, zB, zf, refs, zb, cst, zl, zH, z7, E.load, E.store, zG, isC, bin, zI, zJ, una, z8, za, zh, zK, blt, fnV, asArg, zd, zn, zo, zj, zi, zg, zk, zr, z6, zD, zF, mkS, zc, unN, zM, zm, zy, zC, ze, zN, zq, GS, Int.reduceToNat, Nat.reduceGT, ↓reduceIte, Nat.reduceAdd, Nat.reduceMul, Nat.reduceSub, Nat.reduceEqDiff, Nat.reduceLeDiff, Nat.reduceLT, Nat.reduceBEq, Int.reduceBEq, Int.reduceBNe, Int.reduceEq, Int.reduceLT, Int.reduceLE, Int.reduceGT, Int.reduceNeg, reduceCtorEq, GZ, d1, d2, d3, L1, zY]
        refine yQ (by kernel_rfl) ?_
        simp (disch := ((try simp only [LL]); omega)) only [↓GO, ↓DRW, GA, ren, zB, zf, refs, zb, cst, zl, zH, z7, E.load, E.store, zG, isC, bin, zI, zJ, una, z8, za, zh, zK, blt, fnV, asArg, zd, zn, zo, zj, zi, zg, zk, zr, z6, zD, zF, mkS, zc, unN, zM, zm, zy, zC, ze, zN, zq, GS, Int.reduceToNat, Nat.reduceGT, ↓reduceIte, Nat.reduceAdd, Nat.reduceMul, Nat.reduceSub, Nat.reduceEqDiff, Nat.reduceLeDiff, Nat.reduceLT, Nat.reduceBEq, Int.reduceBEq, Int.reduceBNe, Int.reduceEq, Int.reduceLT, Int.reduceLE, Int.reduceGT, Int.reduceNeg, reduceCtorEq, GZ, d1, d2, d3, L1, zY]
      · simp only [cond_true] at L1
        cases hs : rz a.pre b.pre <;> rw [hs] at L2 <;> simp only at L2 <;> cases h4 : (a.pre == []) <;> cases h5 : (b.pre == []) <;> rw [h4] at e1 <;> rw [h5] at e2
        all_goals
          apply zu
          refine zw rfl Tryz.func117 rfl (by kernel_rfl) ?_
          unfold Tryz.f117
          simp (disch := ((try simp only [LL]); omega)) only [↓GO, ↓DRW, GA, ren, zB, zf, refs, zb, cst, zl, zH, z7, E.load, E.store, zG, isC, bin, zI, zJ, una, z8, za, zh, zK, blt, fnV, asArg, zd, zn, zo, zj, zi, zg, zk, zr, z6, zD, zF, mkS, zc, unN, zM, zm, zy, zC, ze, zN, zq, GS, Int.reduceToNat, Nat.reduceGT, ↓reduceIte, Nat.reduceAdd, Nat.reduceMul, Nat.reduceSub, Nat.reduceEqDiff, Nat.reduceLeDiff, Nat.reduceLT, Nat.reduceBEq, Int.reduceBEq, Int.reduceBNe, Int.reduceEq, Int.reduceLT, Int.reduceLE, Int.reduceGT, Int.reduceNeg, reduceCtorEq, GZ, d1, d2, d3, d4, d5, L1, L2, zR, e1, e2, zY]
          refine yQ (by kernel_rfl) ?_
          simp (disch := ((try simp only [LL]); omega)) only [↓GO, ↓DRW, GA, ren, zB, zf, refs, zb, cst, zl, zH, z7, E.load, E.store, zG, isC, bin, zI, zJ, una, z8, za, zh, zK, blt, fnV, asArg, zd, zn, zo, zj, zi, zg, zk, zr, z6, zD, zF, mkS, zc, unN, zM, zm, zy, zC, ze, zN, zq, GS, Int.reduceToNat, Nat.reduceGT, ↓reduceIte, Nat.reduceAdd, Nat.reduceMul, Nat.reduceSub, Nat.reduceEqDiff, Nat.reduceLeDiff, Nat.reduceLT, Nat.reduceBEq, Int.reduceBEq, Int.reduceBNe, Int.reduceEq, Int.reduceLT, Int.reduceLE, Int.reduceGT, Int.reduceNeg, reduceCtorEq, GZ, d1, d2, d3, d4, d5, L1, L2, zR, e1, e2, zY, Option.getD_some, Option.getD_none]
end Go.Proofs.YtmcephnfcciloaaGreatDoor

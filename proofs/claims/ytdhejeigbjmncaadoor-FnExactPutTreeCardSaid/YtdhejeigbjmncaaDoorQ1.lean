/- Keys by both; small facts. Conditions: those of each lemma. -/
import Derived.Test.YtdhejeigbjmncaaDoorP1
import Derived.Lib.ItoaMem
namespace Go.Proofs.YtdhejeigbjmncaaDoor
open E
set_option linter.unusedSimpArgs false
set_option linter.unusedVariables false
set_option maxRecDepth 100000
theorem strs_take (ks pre rest : List Str) (h : ks = pre ++ rest) : (strs ks).take pre.length = strs pre := by
  subst h
  simp [strs]
/-- where a text stands among texts, the first so many passed over -/
def idxS (x : Str) : Nat → List Str → Int
  | _, [] => -1
  | n, s :: r => cond (x == s) (n : Int) (idxS x (n + 1) r)
theorem l_index (ks : List Str) (x : Str) (hl : ks.length ≤ 1048576) : ∀ (rest pre : List Str), ks = pre ++ rest →
    EV Tryd.prog pol (.loop 39 26 0 [.t (.list 1 (strs ks)), .t (.str x), .t (.int .i64 (ks.length : Int)), .t (.int .i64 (pre.length : Int))] [])
    = some (cond (rest.any fun s => x == s) (.loop .ret [.t (.int .i64 (idxS x pre.length rest))] []) (.loop (.exit 0) [.bad] []))
  | [], pre, hs => by
    have c : decide ((pre.length : Int) < (ks.length : Int)) = false := by simp [hs]
    refine loop_eq Tryd.func39 rfl rfl ?_
    simp only [↓GO, ↓DRW, GA, ren, renB, footX, refs, cellsV, cst, cstAt, nilC, idxAddr, E.load, E.store, binO, isC, bin, ibin, sbin, una, isShift, okCell, packV, lenV, blt, fnV, asArg, snapV, snapS, snapP, snapC, flatV, flatT, openK, layBack, allT, allZ, mkS, srcOf0, unN, idxV, nilEq, give, tupV, mkEnv, extV, pickV, LVS, OVS, LTS, TYS, PMS, pmT, Int.reduceToNat, Nat.reduceGT, ↓reduceIte, Nat.reduceAdd, Nat.reduceMul, Nat.reduceSub, Nat.reduceEqDiff, Nat.reduceLeDiff, Nat.reduceLT, Nat.reduceBEq, Int.reduceBEq, Int.reduceBNe, Int.reduceEq, Int.reduceLT, Int.reduceLE, Int.reduceGT, Int.reduceNeg, reduceCtorEq, c, List.any_nil]
  | s :: rest, pre, hs => by
    have c : decide ((pre.length : Int) < (ks.length : Int)) = true := by simp [hs]; omega
    have hi : pre.length < ks.length := by rw [hs]; simp
    have hget := strs_get ks pre.length hi
    have hgb : ks[pre.length] = s := by simp [hs]
    rw [hgb] at hget
    have IH := l_index ks x hl rest (pre ++ [s]) (by rw [hs]; simp)
    rw [show ((pre ++ [s]).length : Int) = (pre.length : Int) + 1 by simp, show (pre ++ [s]).length = pre.length + 1 by simp] at IH
    clear hs hgb
    refine loop_eq Tryd.func39 rfl rfl ?_
    simp only [List.any_cons, idxS]
    cases hx : (x == s) <;> simp (disch := ((try simp only [List.length_cons, List.length_append, List.length_nil, List.length_map]); omega)) only [↓GO, ↓DRW, GA, ren, renB, footX, refs, cellsV, cst, cstAt, nilC, idxAddr, E.load, E.store, binO, isC, bin, ibin, sbin, una, isShift, okCell, packV, lenV, blt, fnV, asArg, snapV, snapS, snapP, snapC, flatV, flatT, openK, layBack, allT, allZ, mkS, srcOf0, unN, idxV, nilEq, give, tupV, mkEnv, extV, pickV, LVS, OVS, LTS, TYS, PMS, pmT, Int.reduceToNat, Nat.reduceGT, ↓reduceIte, Nat.reduceAdd, Nat.reduceMul, Nat.reduceSub, Nat.reduceEqDiff, Nat.reduceLeDiff, Nat.reduceLT, Nat.reduceBEq, Int.reduceBEq, Int.reduceBNe, Int.reduceEq, Int.reduceLT, Int.reduceLE, Int.reduceGT, Int.reduceNeg, reduceCtorEq, strs_len, c, hget, wrap_in, hx, IH, Bool.true_or, Bool.false_or]
theorem idxS_ge (x : Str) : ∀ (l : List Str) (n : Nat), decide (0 ≤ idxS x n l) = (l.any fun s => x == s)
  | [], n => by simp [idxS]
  | s :: l, n => by
    simp only [idxS, List.any_cons]
    rcases Bool.eq_false_or_eq_true (x == s) with hx | hx
    · simp [hx]
    · simp only [hx, cond_false, Bool.false_or]; exact idxS_ge x l (n + 1)
theorem idxS_none (x : Str) : ∀ (l : List Str) (n : Nat), (l.any fun s => x == s) = false → idxS x n l = -1
  | [], n, _ => rfl
  | s :: l, n, h => by
    simp only [List.any_cons, Bool.or_eq_false_iff] at h
    simp only [idxS, h.1, cond_false]
    exact idxS_none x l (n + 1) h.2
theorem c_index (ks : List Str) (x : Str) (hl : ks.length ≤ 1048576) : callPure (EV Tryd.prog pol) 39 [.t (.list 1 (strs ks)), .t (.str x)] = some (.t (.int .i64 (idxS x 0 ks))) := by
  have IH := l_index ks x hl ks [] rfl
  simp only [List.length_nil, Int.natCast_zero] at IH
  apply eq_call
  refine call_eq rfl Tryd.func39 rfl (by kernel_rfl) ?_
  unfold Tryd.f39
  cases ha : (ks.any fun s => x == s) with
  | true => rw [ha] at IH; simp only [cond_true] at IH; simp only [↓GO, ↓DRW, GA, ren, renB, footX, refs, cellsV, cst, cstAt, nilC, idxAddr, E.load, E.store, binO, isC, bin, ibin, sbin, una, isShift, okCell, packV, lenV, blt, fnV, asArg, snapV, snapS, snapP, snapC, flatV, flatT, openK, layBack, allT, allZ, mkS, srcOf0, unN, idxV, nilEq, give, tupV, mkEnv, extV, pickV, LVS, OVS, LTS, TYS, PMS, pmT, Int.reduceToNat, Nat.reduceGT, ↓reduceIte, Nat.reduceAdd, Nat.reduceMul, Nat.reduceSub, Nat.reduceEqDiff, Nat.reduceLeDiff, Nat.reduceLT, Nat.reduceBEq, Int.reduceBEq, Int.reduceBNe, Int.reduceEq, Int.reduceLT, Int.reduceLE, Int.reduceGT, Int.reduceNeg, reduceCtorEq, strs_len, IH]
  | false => rw [ha] at IH; simp only [cond_false] at IH; rw [idxS_none x ks 0 ha]; simp only [↓GO, ↓DRW, GA, ren, renB, footX, refs, cellsV, cst, cstAt, nilC, idxAddr, E.load, E.store, binO, isC, bin, ibin, sbin, una, isShift, okCell, packV, lenV, blt, fnV, asArg, snapV, snapS, snapP, snapC, flatV, flatT, openK, layBack, allT, allZ, mkS, srcOf0, unN, idxV, nilEq, give, tupV, mkEnv, extV, pickV, LVS, OVS, LTS, TYS, PMS, pmT, Int.reduceToNat, Nat.reduceGT, ↓reduceIte, Nat.reduceAdd, Nat.reduceMul, Nat.reduceSub, Nat.reduceEqDiff, Nat.reduceLeDiff, Nat.reduceLT, Nat.reduceBEq, Int.reduceBEq, Int.reduceBNe, Int.reduceEq, Int.reduceLT, Int.reduceLE, Int.reduceGT, Int.reduceNeg, reduceCtorEq, strs_len, IH]
theorem c_contains (ks : List Str) (x : Str) (hl : ks.length ≤ 1048576) : callPure (EV Tryd.prog pol) 31 [.t (.list 1 (strs ks)), .t (.str x)] = some (.t (.bool (ks.any fun s => x == s))) := by
  have h := c_index ks x hl
  have h2 := idxS_ge x ks 0
  apply eq_call
  refine call_eq rfl Tryd.func31 rfl (by kernel_rfl) ?_
  unfold Tryd.f31
  simp only [↓GO, ↓DRW, GA, ren, renB, footX, refs, cellsV, cst, cstAt, nilC, idxAddr, E.load, E.store, binO, isC, bin, ibin, sbin, una, isShift, okCell, packV, lenV, blt, fnV, asArg, snapV, snapS, snapP, snapC, flatV, flatT, openK, layBack, allT, allZ, mkS, srcOf0, unN, idxV, nilEq, give, tupV, mkEnv, extV, pickV, LVS, OVS, LTS, TYS, PMS, pmT, Int.reduceToNat, Nat.reduceGT, ↓reduceIte, Nat.reduceAdd, Nat.reduceMul, Nat.reduceSub, Nat.reduceEqDiff, Nat.reduceLeDiff, Nat.reduceLT, Nat.reduceBEq, Int.reduceBEq, Int.reduceBNe, Int.reduceEq, Int.reduceLT, Int.reduceLE, Int.reduceGT, Int.reduceNeg, reduceCtorEq, h, ge_iff_le, h2]
theorem l_has (ks : List Str) (x : Str) (hl : ks.length ≤ 1048576) : ∀ (rest pre : List Str), ks = pre ++ rest →
    EV Tryd.prog pol (.loop 43 26 0 [.t (.list 1 (strs ks)), .t (.str x), .t (.int .i64 (pre.length : Int))] [])
    = some (cond (rest.any fun s => s == x) (.loop .ret [.t (.bool true)] []) (.loop (.exit 0) [.bad] []))
  | [], pre, hs => by
    have c : decide ((pre.length : Int) < (ks.length : Int)) = false := by simp [hs]
    refine loop_eq Tryd.func43 rfl rfl ?_
    simp only [↓GO, ↓DRW, GA, ren, renB, footX, refs, cellsV, cst, cstAt, nilC, idxAddr, E.load, E.store, binO, isC, bin, ibin, sbin, una, isShift, okCell, packV, lenV, blt, fnV, asArg, snapV, snapS, snapP, snapC, flatV, flatT, openK, layBack, allT, allZ, mkS, srcOf0, unN, idxV, nilEq, give, tupV, mkEnv, extV, pickV, LVS, OVS, LTS, TYS, PMS, pmT, Int.reduceToNat, Nat.reduceGT, ↓reduceIte, Nat.reduceAdd, Nat.reduceMul, Nat.reduceSub, Nat.reduceEqDiff, Nat.reduceLeDiff, Nat.reduceLT, Nat.reduceBEq, Int.reduceBEq, Int.reduceBNe, Int.reduceEq, Int.reduceLT, Int.reduceLE, Int.reduceGT, Int.reduceNeg, reduceCtorEq, strs_len, c, List.any_nil]
  | s :: rest, pre, hs => by
    have c : decide ((pre.length : Int) < (ks.length : Int)) = true := by simp [hs]; omega
    have hi : pre.length < ks.length := by rw [hs]; simp
    have hget := strs_get ks pre.length hi
    have hgb : ks[pre.length] = s := by simp [hs]
    rw [hgb] at hget
    have IH := l_has ks x hl rest (pre ++ [s]) (by rw [hs]; simp)
    rw [show ((pre ++ [s]).length : Int) = (pre.length : Int) + 1 by simp] at IH
    clear hs hgb
    refine loop_eq Tryd.func43 rfl rfl ?_
    simp only [List.any_cons]
    cases hx : (s == x) <;> simp (disch := ((try simp only [List.length_cons, List.length_append, List.length_nil, List.length_map]); omega)) only [↓GO, ↓DRW, GA, ren, renB, footX, refs, cellsV, cst, cstAt, nilC, idxAddr, E.load, E.store, binO, isC, bin, ibin, sbin, una, isShift, okCell, packV, lenV, blt, fnV, asArg, snapV, snapS, snapP, snapC, flatV, flatT, openK, layBack, allT, allZ, mkS, srcOf0, unN, idxV, nilEq, give, tupV, mkEnv, extV, pickV, LVS, OVS, LTS, TYS, PMS, pmT, Int.reduceToNat, Nat.reduceGT, ↓reduceIte, Nat.reduceAdd, Nat.reduceMul, Nat.reduceSub, Nat.reduceEqDiff, Nat.reduceLeDiff, Nat.reduceLT, Nat.reduceBEq, Int.reduceBEq, Int.reduceBNe, Int.reduceEq, Int.reduceLT, Int.reduceLE, Int.reduceGT, Int.reduceNeg, reduceCtorEq, strs_len, c, hget, wrap_in, hx, IH, Bool.true_or, Bool.false_or]
theorem c_has (ks : List Str) (x : Str) (hl : ks.length ≤ 1048576) : callPure (EV Tryd.prog pol) 43 [.t (.list 1 (strs ks)), .t (.str x)] = some (.t (.bool (ks.any fun s => s == x))) := by
  have IH := l_has ks x hl ks [] rfl
  simp only [List.length_nil, Int.natCast_zero] at IH
  apply eq_call
  refine call_eq rfl Tryd.func43 rfl (by kernel_rfl) ?_
  unfold Tryd.f43
  cases ha : (ks.any fun s => s == x) with
  | true => rw [ha] at IH; simp only [cond_true] at IH; simp only [↓GO, ↓DRW, GA, ren, renB, footX, refs, cellsV, cst, cstAt, nilC, idxAddr, E.load, E.store, binO, isC, bin, ibin, sbin, una, isShift, okCell, packV, lenV, blt, fnV, asArg, snapV, snapS, snapP, snapC, flatV, flatT, openK, layBack, allT, allZ, mkS, srcOf0, unN, idxV, nilEq, give, tupV, mkEnv, extV, pickV, LVS, OVS, LTS, TYS, PMS, pmT, Int.reduceToNat, Nat.reduceGT, ↓reduceIte, Nat.reduceAdd, Nat.reduceMul, Nat.reduceSub, Nat.reduceEqDiff, Nat.reduceLeDiff, Nat.reduceLT, Nat.reduceBEq, Int.reduceBEq, Int.reduceBNe, Int.reduceEq, Int.reduceLT, Int.reduceLE, Int.reduceGT, Int.reduceNeg, reduceCtorEq, strs_len, IH]
  | false => rw [ha] at IH; simp only [cond_false] at IH; simp only [↓GO, ↓DRW, GA, ren, renB, footX, refs, cellsV, cst, cstAt, nilC, idxAddr, E.load, E.store, binO, isC, bin, ibin, sbin, una, isShift, okCell, packV, lenV, blt, fnV, asArg, snapV, snapS, snapP, snapC, flatV, flatT, openK, layBack, allT, allZ, mkS, srcOf0, unN, idxV, nilEq, give, tupV, mkEnv, extV, pickV, LVS, OVS, LTS, TYS, PMS, pmT, Int.reduceToNat, Nat.reduceGT, ↓reduceIte, Nat.reduceAdd, Nat.reduceMul, Nat.reduceSub, Nat.reduceEqDiff, Nat.reduceLeDiff, Nat.reduceLT, Nat.reduceBEq, Int.reduceBEq, Int.reduceBNe, Int.reduceEq, Int.reduceLT, Int.reduceLE, Int.reduceGT, Int.reduceNeg, reduceCtorEq, strs_len, IH]
/-- no two texts are alike -/
def unalike : List Str → List Str → Bool
  | _, [] => true
  | pre, s :: r => !(pre.any fun k => k == s) && unalike (pre ++ [s]) r
theorem l_keys (ks : List Str) (hl : ks.length ≤ 1048576) : ∀ (rest pre : List Str), ks = pre ++ rest →
    EV Tryd.prog pol (.loop 38 26 0 [.t (.list 1 (strs ks)), .t (.int .i64 (pre.length : Int))] [])
    = some (cond (unalike pre rest) (.loop (.exit 0) [.t (.list 1 (strs ks)), .bad] []) (.loop .ret [.t (.list 1 (strs ks)), .t (.bool false)] []))
  | [], pre, hs => by
    have c : decide ((pre.length : Int) < (ks.length : Int)) = false := by simp [hs]
    refine loop_eq Tryd.func38 rfl rfl ?_
    simp only [↓GO, ↓DRW, GA, ren, renB, footX, refs, cellsV, cst, cstAt, nilC, idxAddr, E.load, E.store, binO, isC, bin, ibin, sbin, una, isShift, okCell, packV, lenV, blt, fnV, asArg, snapV, snapS, snapP, snapC, flatV, flatT, openK, layBack, allT, allZ, mkS, srcOf0, unN, idxV, nilEq, give, tupV, mkEnv, extV, pickV, LVS, OVS, LTS, TYS, PMS, pmT, Int.reduceToNat, Nat.reduceGT, ↓reduceIte, Nat.reduceAdd, Nat.reduceMul, Nat.reduceSub, Nat.reduceEqDiff, Nat.reduceLeDiff, Nat.reduceLT, Nat.reduceBEq, Int.reduceBEq, Int.reduceBNe, Int.reduceEq, Int.reduceLT, Int.reduceLE, Int.reduceGT, Int.reduceNeg, reduceCtorEq, strs_len, c, unalike]
  | s :: rest, pre, hs => by
    have c : decide ((pre.length : Int) < (ks.length : Int)) = true := by simp [hs]; omega
    have hi : pre.length < ks.length := by rw [hs]; simp
    have hget := strs_get ks pre.length hi
    have hgb : ks[pre.length] = s := by simp [hs]
    rw [hgb] at hget
    have hc := c_has pre s (by omega)
    rw [← strs_take ks pre _ hs] at hc
    have IH := l_keys ks hl rest (pre ++ [s]) (by rw [hs]; simp)
    rw [show ((pre ++ [s]).length : Int) = (pre.length : Int) + 1 by simp] at IH
    clear hs hgb
    refine loop_eq Tryd.func38 rfl rfl ?_
    simp only [unalike]
    have hfl : (strs ks).length = ks.length := strs_len ks
    cases hx : (pre.any fun k => k == s) <;> rw [hx] at hc <;> simp (disch := ((try simp only [List.length_cons, List.length_append, List.length_nil, List.length_map]); omega)) only [↓GO, ↓DRW, GA, ren, renB, footX, refs, cellsV, cst, cstAt, nilC, idxAddr, E.load, E.store, binO, isC, bin, ibin, sbin, una, isShift, okCell, packV, lenV, blt, fnV, asArg, snapV, snapS, snapP, snapC, flatV, flatT, openK, layBack, allT, allZ, mkS, srcOf0, unN, idxV, nilEq, give, tupV, mkEnv, extV, pickV, LVS, OVS, LTS, TYS, PMS, pmT, Int.reduceToNat, Nat.reduceGT, ↓reduceIte, Nat.reduceAdd, Nat.reduceMul, Nat.reduceSub, Nat.reduceEqDiff, Nat.reduceLeDiff, Nat.reduceLT, Nat.reduceBEq, Int.reduceBEq, Int.reduceBNe, Int.reduceEq, Int.reduceLT, Int.reduceLE, Int.reduceGT, Int.reduceNeg, reduceCtorEq, strs_len, c, hget, wrap_in, hc, IH, Bool.not_true, Bool.not_false, Bool.true_and, Bool.false_and]
theorem c_keys (ks : List Str) (hl : ks.length ≤ 1048576) : callPure (EV Tryd.prog pol) 38 [.t (.list 1 (strs ks))] = some (.t (.bool (unalike [] ks && decide ((ks.length : Int) ≤ 600)))) := by
  have IH := l_keys ks hl ks [] rfl
  simp only [List.length_nil, Int.natCast_zero] at IH
  apply eq_call
  refine call_eq rfl Tryd.func38 rfl (by kernel_rfl) ?_
  unfold Tryd.f38
  cases ha : unalike [] ks with
  | true => rw [ha] at IH; simp only [cond_true] at IH; simp only [↓GO, ↓DRW, GA, ren, renB, footX, refs, cellsV, cst, cstAt, nilC, idxAddr, E.load, E.store, binO, isC, bin, ibin, sbin, una, isShift, okCell, packV, lenV, blt, fnV, asArg, snapV, snapS, snapP, snapC, flatV, flatT, openK, layBack, allT, allZ, mkS, srcOf0, unN, idxV, nilEq, give, tupV, mkEnv, extV, pickV, LVS, OVS, LTS, TYS, PMS, pmT, Int.reduceToNat, Nat.reduceGT, ↓reduceIte, Nat.reduceAdd, Nat.reduceMul, Nat.reduceSub, Nat.reduceEqDiff, Nat.reduceLeDiff, Nat.reduceLT, Nat.reduceBEq, Int.reduceBEq, Int.reduceBNe, Int.reduceEq, Int.reduceLT, Int.reduceLE, Int.reduceGT, Int.reduceNeg, reduceCtorEq, strs_len, IH]
  | false => rw [ha] at IH; simp only [cond_false] at IH; simp only [↓GO, ↓DRW, GA, ren, renB, footX, refs, cellsV, cst, cstAt, nilC, idxAddr, E.load, E.store, binO, isC, bin, ibin, sbin, una, isShift, okCell, packV, lenV, blt, fnV, asArg, snapV, snapS, snapP, snapC, flatV, flatT, openK, layBack, allT, allZ, mkS, srcOf0, unN, idxV, nilEq, give, tupV, mkEnv, extV, pickV, LVS, OVS, LTS, TYS, PMS, pmT, Int.reduceToNat, Nat.reduceGT, ↓reduceIte, Nat.reduceAdd, Nat.reduceMul, Nat.reduceSub, Nat.reduceEqDiff, Nat.reduceLeDiff, Nat.reduceLT, Nat.reduceBEq, Int.reduceBEq, Int.reduceBNe, Int.reduceEq, Int.reduceLT, Int.reduceLE, Int.reduceGT, Int.reduceNeg, reduceCtorEq, strs_len, IH]
end Go.Proofs.YtdhejeigbjmncaaDoor

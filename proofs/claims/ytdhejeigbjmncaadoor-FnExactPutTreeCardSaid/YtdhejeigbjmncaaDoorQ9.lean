/- The law of PutTree. Conditions: those of each lemma. -/
import Derived.Test.YtdhejeigbjmncaaDoorQ4
import Derived.Test.YtdhejeigbjmncaaDoorQ8
import Derived.Test.YtdhejeigbjmncaaDoorA2
namespace Go.Proofs.YtdhejeigbjmncaaDoor
open E
set_option linter.unusedSimpArgs false
set_option linter.unusedVariables false
set_option maxRecDepth 100000
theorem c_okI (t : Tr) (hb : t.bulk ≤ 1048576) : callPure (EV Tryd.prog pol) 15 [.agg (t.enc.map .t)] = some (.t (.bool (treeOk t))) := by
  obtain ⟨l', _, h1⟩ := c_fit t.nd t 0 (Nat.le_refl _) hb (by omega) (by omega) 600 (by omega) (by omega)
  apply eq_call
  refine call_eq rfl Tryd.func15 rfl (by kernel_rfl) ?_
  unfold Tryd.f15
  unfold treeOk
  rw [show (8 : Int) - 0 = 8 from rfl] at h1
  generalize (rightT t 8 && decide ((t.nd : Int) ≤ 600)) = br at *
  obtain ⟨k, n, s, ks, cs⟩ := t
  simp only [Tr.enc, List.map_cons, List.map_nil] at h1 ⊢
  simp (disch := ((try simp only [List.length_cons, List.length_append, List.length_nil, List.length_map]); omega)) only [↓GO, ↓DRW, GA, ren, renB, footX, refs, cellsV, cst, cstAt, nilC, idxAddr, E.load, E.store, binO, isC, bin, ibin, sbin, una, isShift, okCell, packV, lenV, blt, fnV, asArg, snapV, snapS, snapP, snapC, flatV, flatT, openK, layBack, allT, allZ, mkS, srcOf0, unN, idxV, nilEq, give, tupV, mkEnv, extV, pickV, LVS, OVS, LTS, TYS, PMS, pmT, Int.reduceToNat, Nat.reduceGT, ↓reduceIte, Nat.reduceAdd, Nat.reduceMul, Nat.reduceSub, Nat.reduceEqDiff, Nat.reduceLeDiff, Nat.reduceLT, Nat.reduceBEq, Int.reduceBEq, Int.reduceBNe, Int.reduceEq, Int.reduceLT, Int.reduceLE, Int.reduceGT, Int.reduceNeg, reduceCtorEq, h1]
def putTree (t : Tr) : Str := cond (treeOk t) (putT t 0) []
theorem ok_right {t : Tr} (h : treeOk t = true) : rightT t 8 = true := by
  unfold treeOk at h
  rw [Bool.and_eq_true] at h
  exact h.1
theorem c_ptreeR (t : Tr) (hb : t.bulk ≤ 1048576) : callPure (EV Tryd.prog pol) 5 [.agg (t.enc.map .t)] = some (.t (.str (putTree t))) := by
  have h1 := c_okR t hb
  have h2 : treeOk t = true → PutR t 0 := fun h => c_putR t.nd t 0 (Nat.le_refl _) hb (ok_right h)
  unfold PutR at h2
  rw [show ((0 : Nat) : Int) = 0 from rfl] at h2
  apply eq_call
  refine call_eq rfl Tryd.func5 rfl (by kernel_rfl) ?_
  unfold Tryd.f5
  unfold putTree
  generalize treeOk t = bo at *
  generalize putT t 0 = px at *
  obtain ⟨k, n, s, ks, cs⟩ := t
  simp only [Tr.enc, List.map_cons, List.map_nil] at h1 h2 ⊢
  cases bo with
  | false => simp only [↓GO, ↓DRW, GA, ren, renB, footX, refs, cellsV, cst, cstAt, nilC, idxAddr, E.load, E.store, binO, isC, bin, ibin, sbin, una, isShift, okCell, packV, lenV, blt, fnV, asArg, snapV, snapS, snapP, snapC, flatV, flatT, openK, layBack, allT, allZ, mkS, srcOf0, unN, idxV, nilEq, give, tupV, mkEnv, extV, pickV, LVS, OVS, LTS, TYS, PMS, pmT, Int.reduceToNat, Nat.reduceGT, ↓reduceIte, Nat.reduceAdd, Nat.reduceMul, Nat.reduceSub, Nat.reduceEqDiff, Nat.reduceLeDiff, Nat.reduceLT, Nat.reduceBEq, Int.reduceBEq, Int.reduceBNe, Int.reduceEq, Int.reduceLT, Int.reduceLE, Int.reduceGT, Int.reduceNeg, reduceCtorEq, h1]
  | true => have h3 := h2 rfl; simp only [↓GO, ↓DRW, GA, ren, renB, footX, refs, cellsV, cst, cstAt, nilC, idxAddr, E.load, E.store, binO, isC, bin, ibin, sbin, una, isShift, okCell, packV, lenV, blt, fnV, asArg, snapV, snapS, snapP, snapC, flatV, flatT, openK, layBack, allT, allZ, mkS, srcOf0, unN, idxV, nilEq, give, tupV, mkEnv, extV, pickV, LVS, OVS, LTS, TYS, PMS, pmT, Int.reduceToNat, Nat.reduceGT, ↓reduceIte, Nat.reduceAdd, Nat.reduceMul, Nat.reduceSub, Nat.reduceEqDiff, Nat.reduceLeDiff, Nat.reduceLT, Nat.reduceBEq, Int.reduceBEq, Int.reduceBNe, Int.reduceEq, Int.reduceLT, Int.reduceLE, Int.reduceGT, Int.reduceNeg, reduceCtorEq, h1, h3]
theorem c_ptreeI (t : Tr) (hb : t.bulk ≤ 1048576) : callPure (EV Tryd.prog pol) 7 [.agg (t.enc.map .t)] = some (.t (.str (putTree t))) := by
  have h1 := c_okI t hb
  have h2 : treeOk t = true → PutI t 0 := fun h => c_putI t.nd t 0 (Nat.le_refl _) hb (ok_right h)
  unfold PutI at h2
  rw [show sp 0 = [] from rfl] at h2
  apply eq_call
  refine call_eq rfl Tryd.func7 rfl (by kernel_rfl) ?_
  unfold Tryd.f7
  unfold putTree
  generalize treeOk t = bo at *
  generalize putT t 0 = px at *
  obtain ⟨k, n, s, ks, cs⟩ := t
  simp only [Tr.enc, List.map_cons, List.map_nil] at h1 h2 ⊢
  cases bo with
  | false => simp only [↓GO, ↓DRW, GA, ren, renB, footX, refs, cellsV, cst, cstAt, nilC, idxAddr, E.load, E.store, binO, isC, bin, ibin, sbin, una, isShift, okCell, packV, lenV, blt, fnV, asArg, snapV, snapS, snapP, snapC, flatV, flatT, openK, layBack, allT, allZ, mkS, srcOf0, unN, idxV, nilEq, give, tupV, mkEnv, extV, pickV, LVS, OVS, LTS, TYS, PMS, pmT, Int.reduceToNat, Nat.reduceGT, ↓reduceIte, Nat.reduceAdd, Nat.reduceMul, Nat.reduceSub, Nat.reduceEqDiff, Nat.reduceLeDiff, Nat.reduceLT, Nat.reduceBEq, Int.reduceBEq, Int.reduceBNe, Int.reduceEq, Int.reduceLT, Int.reduceLE, Int.reduceGT, Int.reduceNeg, reduceCtorEq, h1]
  | true => have h3 := h2 rfl; simp only [↓GO, ↓DRW, GA, ren, renB, footX, refs, cellsV, cst, cstAt, nilC, idxAddr, E.load, E.store, binO, isC, bin, ibin, sbin, una, isShift, okCell, packV, lenV, blt, fnV, asArg, snapV, snapS, snapP, snapC, flatV, flatT, openK, layBack, allT, allZ, mkS, srcOf0, unN, idxV, nilEq, give, tupV, mkEnv, extV, pickV, LVS, OVS, LTS, TYS, PMS, pmT, Int.reduceToNat, Nat.reduceGT, ↓reduceIte, Nat.reduceAdd, Nat.reduceMul, Nat.reduceSub, Nat.reduceEqDiff, Nat.reduceLeDiff, Nat.reduceLT, Nat.reduceBEq, Int.reduceBEq, Int.reduceBNe, Int.reduceEq, Int.reduceLT, Int.reduceLE, Int.reduceGT, Int.reduceNeg, reduceCtorEq, h1, h3]
theorem c_lawTree (t : Tr) (ho : t.ok) : EV Tryd.prog pol (.call 3 [.agg (t.enc.map .t)] []) = some (.call (.t (.bool true)) []) := by
  have hsz := c_szTree t.nd t (Nat.le_refl _) ho 1048576 (by omega) (by omega)
  by_cases hb : t.bulk ≤ 1048576
  · have hto := c_toTree t.nd t (Nat.le_refl _) hb
    have heq := c_eqTree t.nd t (Nat.le_refl _) hb
    have h1 := c_ptreeR t hb
    have h2 := c_ptreeI t hb
    rw [left_eq (by omega)] at hsz
    have c2 : decide (1048576 - (t.bulk : Int) < 0) = false := by simp; omega
    unfold ToT at hto
    unfold EqT at heq
    generalize t.bulk = tb at *
    generalize putTree t = px at *
    obtain ⟨k, n, s, ks, cs⟩ := t
    simp only [Tr.enc, List.map_cons, List.map_nil] at hsz hto heq h1 h2 ⊢
    refine call_eq rfl Tryd.func3 rfl (by kernel_rfl) ?_
    unfold Tryd.f3
    simp only [↓GO, ↓DRW, GA, ren, renB, footX, refs, cellsV, cst, cstAt, nilC, idxAddr, E.load, E.store, binO, isC, bin, ibin, sbin, una, isShift, okCell, packV, lenV, blt, fnV, asArg, snapV, snapS, snapP, snapC, flatV, flatT, openK, layBack, allT, allZ, mkS, srcOf0, unN, idxV, nilEq, give, tupV, mkEnv, extV, pickV, LVS, OVS, LTS, TYS, PMS, pmT, Int.reduceToNat, Nat.reduceGT, ↓reduceIte, Nat.reduceAdd, Nat.reduceMul, Nat.reduceSub, Nat.reduceEqDiff, Nat.reduceLeDiff, Nat.reduceLT, Nat.reduceBEq, Int.reduceBEq, Int.reduceBNe, Int.reduceEq, Int.reduceLT, Int.reduceLE, Int.reduceGT, Int.reduceNeg, reduceCtorEq, hsz, c2, hto, heq, h1, h2, bne_self_eq_false]
  · have hle : left 1048576 t.bulk = -1 := if_pos (by omega)
    rw [hle] at hsz
    obtain ⟨k, n, s, ks, cs⟩ := t
    simp only [Tr.enc, List.map_cons, List.map_nil] at hsz ⊢
    refine call_eq rfl Tryd.func3 rfl (by kernel_rfl) ?_
    unfold Tryd.f3
    simp only [↓GO, ↓DRW, GA, ren, renB, footX, refs, cellsV, cst, cstAt, nilC, idxAddr, E.load, E.store, binO, isC, bin, ibin, sbin, una, isShift, okCell, packV, lenV, blt, fnV, asArg, snapV, snapS, snapP, snapC, flatV, flatT, openK, layBack, allT, allZ, mkS, srcOf0, unN, idxV, nilEq, give, tupV, mkEnv, extV, pickV, LVS, OVS, LTS, TYS, PMS, pmT, Int.reduceToNat, Nat.reduceGT, ↓reduceIte, Nat.reduceAdd, Nat.reduceMul, Nat.reduceSub, Nat.reduceEqDiff, Nat.reduceLeDiff, Nat.reduceLT, Nat.reduceBEq, Int.reduceBEq, Int.reduceBNe, Int.reduceEq, Int.reduceLT, Int.reduceLE, Int.reduceGT, Int.reduceNeg, reduceCtorEq, hsz]
end Go.Proofs.YtdhejeigbjmncaaDoor

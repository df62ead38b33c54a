/- The laws' own functions over lists of texts. Conditions: those of each lemma. -/
import Derived.Test.YtdhejeigbjmncaaDoorS0
namespace Go.Proofs.YtdhejeigbjmncaaDoor
open E
set_option linter.unusedSimpArgs false
set_option linter.unusedVariables false
set_option maxRecDepth 100000

theorem l_szStringS (ks : List (List UInt8)) (hl : ks.length ≤ 9223372036854775807) (hs : ∀ s ∈ ks, s.length ≤ 9223372036854775807) : ∀ (d i : Nat) (n : Int), ks.length - i = d → i ≤ ks.length → 0 ≤ n → n ≤ 1048576 →
    (0 ≤ n - (bulkS (ks.drop i) : Int) → EV Tryd.prog pol (.loop 9 122 0 [.t (.list 1 (strs ks)), .t (.int .i64 n), .t (.int .i64 (i : Int))] []) = some (.loop (.exit 0) [.t (.int .i64 (n - (bulkS (ks.drop i) : Int))), .bad] [])) ∧
    (n - (bulkS (ks.drop i) : Int) < 0 → ∃ v, EV Tryd.prog pol (.loop 9 122 0 [.t (.list 1 (strs ks)), .t (.int .i64 n), .t (.int .i64 (i : Int))] []) = some (.loop .ret [v, .t (.int .i64 (-1))] []))
  | 0, i, n, hd, hi, h0, h1 => by
    have hi' : i = ks.length := by omega
    subst hi'
    have hb : bulkS (ks.drop ks.length) = 0 := by simp [bulkS]
    rw [hb]
    refine ⟨fun _ => ?_, fun h => by omega⟩
    refine loop_eq Tryd.func9 rfl rfl ?_
    have c : decide (((ks.length : Nat) : Int) < ((ks.length : Nat) : Int)) = false := by simp
    simp only [↓GO, ↓DRW, GA, ren, renB, footX, refs, cellsV, cst, cstAt, nilC, idxAddr, E.load, E.store, binO, isC, bin, ibin, sbin, una, isShift, okCell, packV, lenV, blt, fnV, asArg, snapV, snapS, snapP, snapC, flatV, flatT, openK, layBack, allT, allZ, mkS, srcOf0, unN, idxV, nilEq, give, tupV, mkEnv, extV, pickV, LVS, OVS, LTS, TYS, PMS, pmT, Int.reduceToNat, Nat.reduceGT, ↓reduceIte, Nat.reduceAdd, Nat.reduceMul, Nat.reduceSub, Nat.reduceEqDiff, Nat.reduceLeDiff, Nat.reduceLT, Nat.reduceBEq, Int.reduceBEq, Int.reduceBNe, Int.reduceEq, Int.reduceLT, Int.reduceLE, Int.reduceGT, Int.reduceNeg, reduceCtorEq, strs_len, c]
    simp
  | d + 1, i, n, hd, hi, h0, h1 => by
    have hlt : i < ks.length := by omega
    rw [bulkS_drop ks i hlt]
    have c : decide ((i : Int) < ((ks.length : Nat) : Int)) = true := by simp; omega
    have hsl : ks[i].length ≤ 9223372036854775807 := hs _ (List.getElem_mem hlt)
    have IH := l_szStringS ks hl hs d (i + 1) (n - (ks[i].length : Int)) (by omega) (by omega)
    have e1 : (i : Int) + 1 = ((i + 1 : Nat) : Int) := by omega
    by_cases hneg : n - (ks[i].length : Int) < 0
    · refine ⟨fun h => by omega, fun _ => ⟨.t (.int .i64 (n - (ks[i].length : Int))), ?_⟩⟩
      refine loop_eq Tryd.func9 rfl rfl ?_
      have c2 : decide (n - (ks[i].length : Int) < 0) = true := by simpa using hneg
      simp (disch := omega) only [↓GO, ↓DRW, GA, ren, renB, footX, refs, cellsV, cst, cstAt, nilC, idxAddr, E.load, E.store, binO, isC, bin, ibin, sbin, una, isShift, okCell, packV, lenV, blt, fnV, asArg, snapV, snapS, snapP, snapC, flatV, flatT, openK, layBack, allT, allZ, mkS, srcOf0, unN, idxV, nilEq, give, tupV, mkEnv, extV, pickV, LVS, OVS, LTS, TYS, PMS, pmT, Int.reduceToNat, Nat.reduceGT, ↓reduceIte, Nat.reduceAdd, Nat.reduceMul, Nat.reduceSub, Nat.reduceEqDiff, Nat.reduceLeDiff, Nat.reduceLT, Nat.reduceBEq, Int.reduceBEq, Int.reduceBNe, Int.reduceEq, Int.reduceLT, Int.reduceLE, Int.reduceGT, Int.reduceNeg, reduceCtorEq, strs_len, c, strs_get ks i hlt, wrap_in, c2]
    · have c2 : decide (n - (ks[i].length : Int) < 0) = false := by simpa using hneg
      obtain ⟨I1, I2⟩ := IH (by omega) (by omega)
      refine ⟨fun h => ?_, fun h => ?_⟩
      · refine loop_eq Tryd.func9 rfl rfl ?_
        simp (disch := omega) only [↓GO, ↓DRW, GA, ren, renB, footX, refs, cellsV, cst, cstAt, nilC, idxAddr, E.load, E.store, binO, isC, bin, ibin, sbin, una, isShift, okCell, packV, lenV, blt, fnV, asArg, snapV, snapS, snapP, snapC, flatV, flatT, openK, layBack, allT, allZ, mkS, srcOf0, unN, idxV, nilEq, give, tupV, mkEnv, extV, pickV, LVS, OVS, LTS, TYS, PMS, pmT, Int.reduceToNat, Nat.reduceGT, ↓reduceIte, Nat.reduceAdd, Nat.reduceMul, Nat.reduceSub, Nat.reduceEqDiff, Nat.reduceLeDiff, Nat.reduceLT, Nat.reduceBEq, Int.reduceBEq, Int.reduceBNe, Int.reduceEq, Int.reduceLT, Int.reduceLE, Int.reduceGT, Int.reduceNeg, reduceCtorEq, strs_len, c, strs_get ks i hlt, wrap_in, c2, e1]
        rw [I1 (by omega), show n - (ks[i].length : Int) - (bulkS (ks.drop (i + 1)) : Int) = n - ((ks[i].length + bulkS (ks.drop (i + 1)) : Nat) : Int) by omega]
      · obtain ⟨v, hv⟩ := I2 (by omega)
        refine ⟨v, ?_⟩
        refine loop_eq Tryd.func9 rfl rfl ?_
        simp (disch := omega) only [↓GO, ↓DRW, GA, ren, renB, footX, refs, cellsV, cst, cstAt, nilC, idxAddr, E.load, E.store, binO, isC, bin, ibin, sbin, una, isShift, okCell, packV, lenV, blt, fnV, asArg, snapV, snapS, snapP, snapC, flatV, flatT, openK, layBack, allT, allZ, mkS, srcOf0, unN, idxV, nilEq, give, tupV, mkEnv, extV, pickV, LVS, OVS, LTS, TYS, PMS, pmT, Int.reduceToNat, Nat.reduceGT, ↓reduceIte, Nat.reduceAdd, Nat.reduceMul, Nat.reduceSub, Nat.reduceEqDiff, Nat.reduceLeDiff, Nat.reduceLT, Nat.reduceBEq, Int.reduceBEq, Int.reduceBNe, Int.reduceEq, Int.reduceLT, Int.reduceLE, Int.reduceGT, Int.reduceNeg, reduceCtorEq, strs_len, c, strs_get ks i hlt, wrap_in, c2, e1]
        exact hv
theorem c_szStringS (ks : List (List UInt8)) (hl : ks.length ≤ 9223372036854775807) (hs : ∀ s ∈ ks, s.length ≤ 9223372036854775807) (n : Int) (h0 : 0 ≤ n) (h1 : n ≤ 1048576) :
    callPure (EV Tryd.prog pol) 9 [.t (.list 1 (strs ks)), .t (.int .i64 n)] = some (.t (.int .i64 (left n (ks.length + bulkS ks)))) := by
  apply eq_call
  refine call_eq rfl Tryd.func9 rfl (by kernel_rfl) ?_
  unfold Tryd.f9
  by_cases hneg : n - (ks.length : Int) < 0
  · have c2 : decide (n - (ks.length : Int) < 0) = true := by simpa using hneg
    simp (disch := omega) only [↓GO, ↓DRW, GA, ren, renB, footX, refs, cellsV, cst, cstAt, nilC, idxAddr, E.load, E.store, binO, isC, bin, ibin, sbin, una, isShift, okCell, packV, lenV, blt, fnV, asArg, snapV, snapS, snapP, snapC, flatV, flatT, openK, layBack, allT, allZ, mkS, srcOf0, unN, idxV, nilEq, give, tupV, mkEnv, extV, pickV, LVS, OVS, LTS, TYS, PMS, pmT, Int.reduceToNat, Nat.reduceGT, ↓reduceIte, Nat.reduceAdd, Nat.reduceMul, Nat.reduceSub, Nat.reduceEqDiff, Nat.reduceLeDiff, Nat.reduceLT, Nat.reduceBEq, Int.reduceBEq, Int.reduceBNe, Int.reduceEq, Int.reduceLT, Int.reduceLE, Int.reduceGT, Int.reduceNeg, reduceCtorEq, strs_len, wrap_in, c2]
    rw [left, if_pos (by omega)]
  · have c2 : decide (n - (ks.length : Int) < 0) = false := by simpa using hneg
    obtain ⟨I1, I2⟩ := l_szStringS ks hl hs ks.length 0 (n - (ks.length : Int)) (by omega) (by omega) (by omega) (by omega)
    simp only [List.drop_zero, Int.natCast_zero] at I1 I2
    by_cases hn2 : n - (ks.length : Int) - (bulkS ks : Int) < 0
    · obtain ⟨v, hv⟩ := I2 hn2
      simp (disch := omega) only [↓GO, ↓DRW, GA, ren, renB, footX, refs, cellsV, cst, cstAt, nilC, idxAddr, E.load, E.store, binO, isC, bin, ibin, sbin, una, isShift, okCell, packV, lenV, blt, fnV, asArg, snapV, snapS, snapP, snapC, flatV, flatT, openK, layBack, allT, allZ, mkS, srcOf0, unN, idxV, nilEq, give, tupV, mkEnv, extV, pickV, LVS, OVS, LTS, TYS, PMS, pmT, Int.reduceToNat, Nat.reduceGT, ↓reduceIte, Nat.reduceAdd, Nat.reduceMul, Nat.reduceSub, Nat.reduceEqDiff, Nat.reduceLeDiff, Nat.reduceLT, Nat.reduceBEq, Int.reduceBEq, Int.reduceBNe, Int.reduceEq, Int.reduceLT, Int.reduceLE, Int.reduceGT, Int.reduceNeg, reduceCtorEq, strs_len, wrap_in, c2, hv]
      rw [left, if_pos (by omega)]
    · simp (disch := omega) only [↓GO, ↓DRW, GA, ren, renB, footX, refs, cellsV, cst, cstAt, nilC, idxAddr, E.load, E.store, binO, isC, bin, ibin, sbin, una, isShift, okCell, packV, lenV, blt, fnV, asArg, snapV, snapS, snapP, snapC, flatV, flatT, openK, layBack, allT, allZ, mkS, srcOf0, unN, idxV, nilEq, give, tupV, mkEnv, extV, pickV, LVS, OVS, LTS, TYS, PMS, pmT, Int.reduceToNat, Nat.reduceGT, ↓reduceIte, Nat.reduceAdd, Nat.reduceMul, Nat.reduceSub, Nat.reduceEqDiff, Nat.reduceLeDiff, Nat.reduceLT, Nat.reduceBEq, Int.reduceBEq, Int.reduceBNe, Int.reduceEq, Int.reduceLT, Int.reduceLE, Int.reduceGT, Int.reduceNeg, reduceCtorEq, strs_len, wrap_in, c2, I1 (by omega)]
      rw [left, if_neg (by omega), show n - (ks.length : Int) - (bulkS ks : Int) = n - ((ks.length + bulkS ks : Nat) : Int) by omega]
theorem l_toStringS (ks : List (List UInt8)) (hl : ks.length ≤ 1048576) : ∀ (d i : Nat), ks.length - i = d → i ≤ ks.length →
    EV Tryd.prog pol (.loop 13 58 0 [.t (.list 1 (strs ks)), .sl 0 0 ks.length (some ks.length), .t (.int .i64 (i : Int))] [.ts 1 (fillE (strs ks) [.str []] i)]) = some (.loop (.exit 0) [.sl 0 0 ks.length (some ks.length)] [.ts 1 (strs ks)])
  | 0, i, hd, hi => by
    have hi' : i = ks.length := by omega
    subst hi'
    refine loop_eq Tryd.func13 rfl rfl ?_
    have c : decide (((ks.length : Nat) : Int) < ((ks.length : Nat) : Int)) = false := by simp
    have hf : fillE (strs ks) [.str []] ks.length = strs ks := by rw [← strs_len ks]; exact fillE_all _ _
    simp only [↓GO, ↓DRW, GA, ren, renB, footX, refs, cellsV, cst, cstAt, nilC, idxAddr, E.load, E.store, binO, isC, bin, ibin, sbin, una, isShift, okCell, packV, lenV, blt, fnV, asArg, snapV, snapS, snapP, snapC, flatV, flatT, openK, layBack, allT, allZ, mkS, srcOf0, unN, idxV, nilEq, give, tupV, mkEnv, extV, pickV, LVS, OVS, LTS, TYS, PMS, pmT, Int.reduceToNat, Nat.reduceGT, ↓reduceIte, Nat.reduceAdd, Nat.reduceMul, Nat.reduceSub, Nat.reduceEqDiff, Nat.reduceLeDiff, Nat.reduceLT, Nat.reduceBEq, Int.reduceBEq, Int.reduceBNe, Int.reduceEq, Int.reduceLT, Int.reduceLE, Int.reduceGT, Int.reduceNeg, reduceCtorEq, strs_len, c, hf]
  | d + 1, i, hd, hi => by
    have hlt : i < ks.length := by omega
    have hlt' : i < (strs ks).length := by rw [strs_len]; exact hlt
    have c : decide ((i : Int) < ((ks.length : Nat) : Int)) = true := by simp; omega
    have c0 : decide ((0 : Int) ≤ (i : Int)) = true := by simp
    have IH := l_toStringS ks hl d (i + 1) (by omega) (by omega)
    have e1 : (i : Int) + 1 = ((i + 1 : Nat) : Int) := by omega
    have hg := fillE_get (strs ks) [.str []] i hlt'
    have hs := fillE_set (strs ks) [.str []] i hlt'
    have hx : (strs ks)[i] = [.str ks[i]] := by simp [strs]
    rw [hx] at hs
    refine loop_eq Tryd.func13 rfl rfl ?_
    simp (disch := omega) only [↓GO, ↓DRW, GA, ren, renB, footX, refs, cellsV, cst, cstAt, nilC, idxAddr, E.load, E.store, binO, isC, bin, ibin, sbin, una, isShift, okCell, packV, lenV, blt, fnV, asArg, snapV, snapS, snapP, snapC, flatV, flatT, openK, layBack, allT, allZ, mkS, srcOf0, unN, idxV, nilEq, give, tupV, mkEnv, extV, pickV, LVS, OVS, LTS, TYS, PMS, pmT, Int.reduceToNat, Nat.reduceGT, ↓reduceIte, Nat.reduceAdd, Nat.reduceMul, Nat.reduceSub, Nat.reduceEqDiff, Nat.reduceLeDiff, Nat.reduceLT, Nat.reduceBEq, Int.reduceBEq, Int.reduceBNe, Int.reduceEq, Int.reduceLT, Int.reduceLE, Int.reduceGT, Int.reduceNeg, reduceCtorEq, strs_len, c, c0, strs_get ks i hlt, wrap_in, e1, hg, Int.toNat_natCast, hs]
    exact IH
theorem c_toStringS (ks : List (List UInt8)) (hl : ks.length ≤ 1048576) : callPure (EV Tryd.prog pol) 13 [.t (.list 1 (strs ks))] = some (.t (.list 1 (strs ks))) := by
  apply eq_call
  refine call_eq rfl Tryd.func13 rfl (by kernel_rfl) ?_
  unfold Tryd.f13
  have h1 : ¬ ((ks.length : Int) < 0) := by omega
  have h2 : ¬ (ks.length * 16 > 140737488355328) := by omega
  have h3 : ¬ (ks.length > 140737488355328) := by omega
  have hz : List.replicate ks.length [T.str []] = fillE (strs ks) [.str []] 0 := by rw [fillE_zero, strs_len]
  have IH := l_toStringS ks hl ks.length 0 (by omega) (by omega)
  simp only [Int.natCast_zero] at IH
  have ht : (strs ks).take ks.length = strs ks := by rw [← strs_len ks]; simp
  simp (disch := omega) only [↓GO, ↓DRW, GA, ren, renB, footX, refs, cellsV, cst, cstAt, nilC, idxAddr, E.load, E.store, binO, isC, bin, ibin, sbin, una, isShift, okCell, packV, lenV, blt, fnV, asArg, snapV, snapS, snapP, snapC, flatV, flatT, openK, layBack, allT, allZ, mkS, srcOf0, unN, idxV, nilEq, give, tupV, mkEnv, extV, pickV, LVS, OVS, LTS, TYS, PMS, pmT, Int.reduceToNat, Nat.reduceGT, ↓reduceIte, Nat.reduceAdd, Nat.reduceMul, Nat.reduceSub, Nat.reduceEqDiff, Nat.reduceLeDiff, Nat.reduceLT, Nat.reduceBEq, Int.reduceBEq, Int.reduceBNe, Int.reduceEq, Int.reduceLT, Int.reduceLE, Int.reduceGT, Int.reduceNeg, reduceCtorEq, strs_len, Int.toNat_natCast, h1, h2, h3, hz, IH, ne_eq, not_true_eq_false, ht]

theorem l_eqStringS (ks : List (List UInt8)) (hl : ks.length ≤ 1048576) : ∀ (d i : Nat), ks.length - i = d → i ≤ ks.length →
    EV Tryd.prog pol (.loop 17 58 0 [.t (.list 1 (strs ks)), .t (.list 1 (strs ks)), .t (.int .i64 (i : Int))] []) = some (.loop (.exit 0) [.bad] [])
  | 0, i, hd, hi => by
    have hi' : i = ks.length := by omega
    subst hi'
    refine loop_eq Tryd.func17 rfl rfl ?_
    have c : decide (((ks.length : Nat) : Int) < ((ks.length : Nat) : Int)) = false := by simp
    simp only [↓GO, ↓DRW, GA, ren, renB, footX, refs, cellsV, cst, cstAt, nilC, idxAddr, E.load, E.store, binO, isC, bin, ibin, sbin, una, isShift, okCell, packV, lenV, blt, fnV, asArg, snapV, snapS, snapP, snapC, flatV, flatT, openK, layBack, allT, allZ, mkS, srcOf0, unN, idxV, nilEq, give, tupV, mkEnv, extV, pickV, LVS, OVS, LTS, TYS, PMS, pmT, Int.reduceToNat, Nat.reduceGT, ↓reduceIte, Nat.reduceAdd, Nat.reduceMul, Nat.reduceSub, Nat.reduceEqDiff, Nat.reduceLeDiff, Nat.reduceLT, Nat.reduceBEq, Int.reduceBEq, Int.reduceBNe, Int.reduceEq, Int.reduceLT, Int.reduceLE, Int.reduceGT, Int.reduceNeg, reduceCtorEq, strs_len, c]
  | d + 1, i, hd, hi => by
    have hlt : i < ks.length := by omega
    have c : decide ((i : Int) < ((ks.length : Nat) : Int)) = true := by simp; omega
    have IH := l_eqStringS ks hl d (i + 1) (by omega) (by omega)
    have e1 : (i : Int) + 1 = ((i + 1 : Nat) : Int) := by omega
    refine loop_eq Tryd.func17 rfl rfl ?_
    simp (disch := omega) only [↓GO, ↓DRW, GA, ren, renB, footX, refs, cellsV, cst, cstAt, nilC, idxAddr, E.load, E.store, binO, isC, bin, ibin, sbin, una, isShift, okCell, packV, lenV, blt, fnV, asArg, snapV, snapS, snapP, snapC, flatV, flatT, openK, layBack, allT, allZ, mkS, srcOf0, unN, idxV, nilEq, give, tupV, mkEnv, extV, pickV, LVS, OVS, LTS, TYS, PMS, pmT, Int.reduceToNat, Nat.reduceGT, ↓reduceIte, Nat.reduceAdd, Nat.reduceMul, Nat.reduceSub, Nat.reduceEqDiff, Nat.reduceLeDiff, Nat.reduceLT, Nat.reduceBEq, Int.reduceBEq, Int.reduceBNe, Int.reduceEq, Int.reduceLT, Int.reduceLE, Int.reduceGT, Int.reduceNeg, reduceCtorEq, strs_len, c, strs_get ks i hlt, wrap_in, e1]
    exact IH
theorem c_eqStringS (ks : List (List UInt8)) (hl : ks.length ≤ 1048576) : callPure (EV Tryd.prog pol) 17 [.t (.list 1 (strs ks)), .t (.list 1 (strs ks))] = some (.t (.bool true)) := by
  apply eq_call
  refine call_eq rfl Tryd.func17 rfl (by kernel_rfl) ?_
  unfold Tryd.f17
  have IH := l_eqStringS ks hl ks.length 0 (by omega) (by omega)
  simp only [Int.natCast_zero] at IH
  simp only [↓GO, ↓DRW, GA, ren, renB, footX, refs, cellsV, cst, cstAt, nilC, idxAddr, E.load, E.store, binO, isC, bin, ibin, sbin, una, isShift, okCell, packV, lenV, blt, fnV, asArg, snapV, snapS, snapP, snapC, flatV, flatT, openK, layBack, allT, allZ, mkS, srcOf0, unN, idxV, nilEq, give, tupV, mkEnv, extV, pickV, LVS, OVS, LTS, TYS, PMS, pmT, Int.reduceToNat, Nat.reduceGT, ↓reduceIte, Nat.reduceAdd, Nat.reduceMul, Nat.reduceSub, Nat.reduceEqDiff, Nat.reduceLeDiff, Nat.reduceLT, Nat.reduceBEq, Int.reduceBEq, Int.reduceBNe, Int.reduceEq, Int.reduceLT, Int.reduceLE, Int.reduceGT, Int.reduceNeg, reduceCtorEq, strs_len, IH, bne_self_eq_false]
end Go.Proofs.YtdhejeigbjmncaaDoor

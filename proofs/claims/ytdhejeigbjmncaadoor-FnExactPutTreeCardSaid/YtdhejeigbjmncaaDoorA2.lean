/- The laws' own functions over trees. Conditions: those of each lemma. -/
import Derived.Test.YtdhejeigbjmncaaDoorA1
namespace Go.Proofs.YtdhejeigbjmncaaDoor
open E
set_option linter.unusedSimpArgs false
set_option linter.unusedVariables false
set_option maxRecDepth 100000

/-- a tree's size is counted right -/
def SzT (t : Tr) : Prop := ∀ n : Int, 0 ≤ n → n ≤ 1048576 → callPure (EV Tryd.prog pol) 4 [.agg (t.enc.map .t), .t (.int .i64 n)] = some (.t (.int .i64 (left n t.bulk)))
theorem l_szTreeS (cs : List Tr) (hl : cs.length ≤ 9223372036854775807) (hc : ∀ c ∈ cs, SzT c) : ∀ (d i : Nat) (n : Int), cs.length - i = d → i ≤ cs.length → 0 ≤ n → n ≤ 1048576 →
    (0 ≤ n - (Tr.bulks (cs.drop i) : Int) → EV Tryd.prog pol (.loop 10 122 0 [.t (.list 5 (Tr.encs cs)), .t (.int .i64 n), .t (.int .i64 (i : Int))] []) = some (.loop (.exit 0) [.t (.int .i64 (n - (Tr.bulks (cs.drop i) : Int))), .bad] [])) ∧
    (n - (Tr.bulks (cs.drop i) : Int) < 0 → ∃ v, EV Tryd.prog pol (.loop 10 122 0 [.t (.list 5 (Tr.encs cs)), .t (.int .i64 n), .t (.int .i64 (i : Int))] []) = some (.loop .ret [v, .t (.int .i64 (-1))] []))
  | 0, i, n, hd, hi, h0, h1 => by
    have hi' : i = cs.length := by omega
    subst hi'
    have hb : Tr.bulks (cs.drop cs.length) = 0 := by simp [Tr.bulks]
    rw [hb]
    refine ⟨fun _ => ?_, fun h => by omega⟩
    refine loop_eq Tryd.func10 rfl rfl ?_
    have c : decide (((cs.length : Nat) : Int) < ((cs.length : Nat) : Int)) = false := by simp
    simp only [↓GO, ↓DRW, GA, ren, renB, footX, refs, cellsV, cst, cstAt, nilC, idxAddr, E.load, E.store, binO, isC, bin, ibin, sbin, una, isShift, okCell, packV, lenV, blt, fnV, asArg, snapV, snapS, snapP, snapC, flatV, flatT, openK, layBack, allT, allZ, mkS, srcOf0, unN, idxV, nilEq, give, tupV, mkEnv, extV, pickV, LVS, OVS, LTS, TYS, PMS, pmT, Int.reduceToNat, Nat.reduceGT, ↓reduceIte, Nat.reduceAdd, Nat.reduceMul, Nat.reduceSub, Nat.reduceEqDiff, Nat.reduceLeDiff, Nat.reduceLT, Nat.reduceBEq, Int.reduceBEq, Int.reduceBNe, Int.reduceEq, Int.reduceLT, Int.reduceLE, Int.reduceGT, Int.reduceNeg, reduceCtorEq, Tr.encs_len, c]
    simp
  | d + 1, i, n, hd, hi, h0, h1 => by
    have hlt : i < cs.length := by omega
    rw [Tr.bulks_drop cs i hlt]
    have c : decide ((i : Int) < ((cs.length : Nat) : Int)) = true := by simp; omega
    have hcall := hc _ (List.getElem_mem hlt) n h0 h1
    have hget := Tr.encs_get cs i hlt
    generalize hci : cs[i] = ci at hcall hget
    obtain ⟨k, n', s, ks, cs'⟩ := ci
    simp only [Tr.enc, List.map_cons, List.map_nil] at hcall hget
    generalize hbu : (Tr.mk k n' s ks cs').bulk = bu at hcall
    have IH := l_szTreeS cs hl hc d (i + 1) (n - (bu : Int)) (by omega) (by omega)
    have e1 : (i : Int) + 1 = ((i + 1 : Nat) : Int) := by omega
    by_cases hneg : n - (bu : Int) < 0
    · refine ⟨fun h => by omega, fun _ => ⟨.t (.int .i64 (-1)), ?_⟩⟩
      refine loop_eq Tryd.func10 rfl rfl ?_
      have hle : left n bu = -1 := if_pos hneg
      rw [hle] at hcall
      simp (disch := omega) only [↓GO, ↓DRW, GA, ren, renB, footX, refs, cellsV, cst, cstAt, nilC, idxAddr, E.load, E.store, binO, isC, bin, ibin, sbin, una, isShift, okCell, packV, lenV, blt, fnV, asArg, snapV, snapS, snapP, snapC, flatV, flatT, openK, layBack, allT, allZ, mkS, srcOf0, unN, idxV, nilEq, give, tupV, mkEnv, extV, pickV, LVS, OVS, LTS, TYS, PMS, pmT, Int.reduceToNat, Nat.reduceGT, ↓reduceIte, Nat.reduceAdd, Nat.reduceMul, Nat.reduceSub, Nat.reduceEqDiff, Nat.reduceLeDiff, Nat.reduceLT, Nat.reduceBEq, Int.reduceBEq, Int.reduceBNe, Int.reduceEq, Int.reduceLT, Int.reduceLE, Int.reduceGT, Int.reduceNeg, reduceCtorEq, Tr.encs_len, c, hget, wrap_in, hcall]
    · have hle : left n bu = n - (bu : Int) := if_neg hneg
      rw [hle] at hcall
      have c2 : decide (n - (bu : Int) < 0) = false := by simpa using hneg
      obtain ⟨I1, I2⟩ := IH (by omega) (by omega)
      refine ⟨fun h => ?_, fun h => ?_⟩
      · refine loop_eq Tryd.func10 rfl rfl ?_
        simp (disch := omega) only [↓GO, ↓DRW, GA, ren, renB, footX, refs, cellsV, cst, cstAt, nilC, idxAddr, E.load, E.store, binO, isC, bin, ibin, sbin, una, isShift, okCell, packV, lenV, blt, fnV, asArg, snapV, snapS, snapP, snapC, flatV, flatT, openK, layBack, allT, allZ, mkS, srcOf0, unN, idxV, nilEq, give, tupV, mkEnv, extV, pickV, LVS, OVS, LTS, TYS, PMS, pmT, Int.reduceToNat, Nat.reduceGT, ↓reduceIte, Nat.reduceAdd, Nat.reduceMul, Nat.reduceSub, Nat.reduceEqDiff, Nat.reduceLeDiff, Nat.reduceLT, Nat.reduceBEq, Int.reduceBEq, Int.reduceBNe, Int.reduceEq, Int.reduceLT, Int.reduceLE, Int.reduceGT, Int.reduceNeg, reduceCtorEq, Tr.encs_len, c, hget, wrap_in, hcall, c2, e1]
        rw [I1 (by omega), show n - (bu : Int) - (Tr.bulks (cs.drop (i + 1)) : Int) = n - ((bu + Tr.bulks (cs.drop (i + 1)) : Nat) : Int) by omega]
      · obtain ⟨v, hv⟩ := I2 (by omega)
        refine ⟨v, ?_⟩
        refine loop_eq Tryd.func10 rfl rfl ?_
        simp (disch := omega) only [↓GO, ↓DRW, GA, ren, renB, footX, refs, cellsV, cst, cstAt, nilC, idxAddr, E.load, E.store, binO, isC, bin, ibin, sbin, una, isShift, okCell, packV, lenV, blt, fnV, asArg, snapV, snapS, snapP, snapC, flatV, flatT, openK, layBack, allT, allZ, mkS, srcOf0, unN, idxV, nilEq, give, tupV, mkEnv, extV, pickV, LVS, OVS, LTS, TYS, PMS, pmT, Int.reduceToNat, Nat.reduceGT, ↓reduceIte, Nat.reduceAdd, Nat.reduceMul, Nat.reduceSub, Nat.reduceEqDiff, Nat.reduceLeDiff, Nat.reduceLT, Nat.reduceBEq, Int.reduceBEq, Int.reduceBNe, Int.reduceEq, Int.reduceLT, Int.reduceLE, Int.reduceGT, Int.reduceNeg, reduceCtorEq, Tr.encs_len, c, hget, wrap_in, hcall, c2, e1]
        exact hv
theorem c_szTreeS (cs : List Tr) (hl : cs.length ≤ 9223372036854775807) (hc : ∀ c ∈ cs, SzT c) (n : Int) (h0 : 0 ≤ n) (h1 : n ≤ 1048576) :
    callPure (EV Tryd.prog pol) 10 [.t (.list 5 (Tr.encs cs)), .t (.int .i64 n)] = some (.t (.int .i64 (left n (cs.length + Tr.bulks cs)))) := by
  apply eq_call
  refine call_eq rfl Tryd.func10 rfl (by kernel_rfl) ?_
  unfold Tryd.f10
  by_cases hneg : n - (cs.length : Int) < 0
  · have c2 : decide (n - (cs.length : Int) < 0) = true := by simpa using hneg
    simp (disch := omega) only [↓GO, ↓DRW, GA, ren, renB, footX, refs, cellsV, cst, cstAt, nilC, idxAddr, E.load, E.store, binO, isC, bin, ibin, sbin, una, isShift, okCell, packV, lenV, blt, fnV, asArg, snapV, snapS, snapP, snapC, flatV, flatT, openK, layBack, allT, allZ, mkS, srcOf0, unN, idxV, nilEq, give, tupV, mkEnv, extV, pickV, LVS, OVS, LTS, TYS, PMS, pmT, Int.reduceToNat, Nat.reduceGT, ↓reduceIte, Nat.reduceAdd, Nat.reduceMul, Nat.reduceSub, Nat.reduceEqDiff, Nat.reduceLeDiff, Nat.reduceLT, Nat.reduceBEq, Int.reduceBEq, Int.reduceBNe, Int.reduceEq, Int.reduceLT, Int.reduceLE, Int.reduceGT, Int.reduceNeg, reduceCtorEq, Tr.encs_len, wrap_in, c2]
    rw [left, if_pos (by omega)]
  · have c2 : decide (n - (cs.length : Int) < 0) = false := by simpa using hneg
    obtain ⟨I1, I2⟩ := l_szTreeS cs hl hc cs.length 0 (n - (cs.length : Int)) (by omega) (by omega) (by omega) (by omega)
    simp only [List.drop_zero, Int.natCast_zero] at I1 I2
    by_cases hn2 : n - (cs.length : Int) - (Tr.bulks cs : Int) < 0
    · obtain ⟨v, hv⟩ := I2 hn2
      simp (disch := omega) only [↓GO, ↓DRW, GA, ren, renB, footX, refs, cellsV, cst, cstAt, nilC, idxAddr, E.load, E.store, binO, isC, bin, ibin, sbin, una, isShift, okCell, packV, lenV, blt, fnV, asArg, snapV, snapS, snapP, snapC, flatV, flatT, openK, layBack, allT, allZ, mkS, srcOf0, unN, idxV, nilEq, give, tupV, mkEnv, extV, pickV, LVS, OVS, LTS, TYS, PMS, pmT, Int.reduceToNat, Nat.reduceGT, ↓reduceIte, Nat.reduceAdd, Nat.reduceMul, Nat.reduceSub, Nat.reduceEqDiff, Nat.reduceLeDiff, Nat.reduceLT, Nat.reduceBEq, Int.reduceBEq, Int.reduceBNe, Int.reduceEq, Int.reduceLT, Int.reduceLE, Int.reduceGT, Int.reduceNeg, reduceCtorEq, Tr.encs_len, wrap_in, c2, hv]
      rw [left, if_pos (by omega)]
    · simp (disch := omega) only [↓GO, ↓DRW, GA, ren, renB, footX, refs, cellsV, cst, cstAt, nilC, idxAddr, E.load, E.store, binO, isC, bin, ibin, sbin, una, isShift, okCell, packV, lenV, blt, fnV, asArg, snapV, snapS, snapP, snapC, flatV, flatT, openK, layBack, allT, allZ, mkS, srcOf0, unN, idxV, nilEq, give, tupV, mkEnv, extV, pickV, LVS, OVS, LTS, TYS, PMS, pmT, Int.reduceToNat, Nat.reduceGT, ↓reduceIte, Nat.reduceAdd, Nat.reduceMul, Nat.reduceSub, Nat.reduceEqDiff, Nat.reduceLeDiff, Nat.reduceLT, Nat.reduceBEq, Int.reduceBEq, Int.reduceBNe, Int.reduceEq, Int.reduceLT, Int.reduceLE, Int.reduceGT, Int.reduceNeg, reduceCtorEq, Tr.encs_len, wrap_in, c2, I1 (by omega)]
      rw [left, if_neg (by omega), show n - (cs.length : Int) - (Tr.bulks cs : Int) = n - ((cs.length + Tr.bulks cs : Nat) : Int) by omega]
theorem c_szTree : ∀ (N : Nat) (t : Tr), t.nd ≤ N → t.ok → SzT t
  | 0, .mk k n' s ks cs, h, _ => by simp [Tr.nd] at h
  | N + 1, .mk k n' s ks cs, h, ho => by
    simp only [Tr.nd] at h
    simp only [Tr.ok] at ho
    obtain ⟨o1, o2, o3, o4, o5⟩ := ho
    have hc : ∀ c ∈ cs, SzT c := fun c hc => c_szTree N c (by have := Tr.nds_mem hc; omega) (Tr.oks_mem o5 hc)
    intro n h0 h1
    simp only [Tr.enc, List.map_cons, List.map_nil]
    apply eq_call
    refine call_eq rfl Tryd.func4 rfl (by kernel_rfl) ?_
    unfold Tryd.f4
    by_cases n1 : n - (s.length : Int) < 0
    · have c1 : decide (n - (s.length : Int) < 0) = true := by simpa using n1
      simp (disch := omega) only [↓GO, ↓DRW, GA, ren, renB, footX, refs, cellsV, cst, cstAt, nilC, idxAddr, E.load, E.store, binO, isC, bin, ibin, sbin, una, isShift, okCell, packV, lenV, blt, fnV, asArg, snapV, snapS, snapP, snapC, flatV, flatT, openK, layBack, allT, allZ, mkS, srcOf0, unN, idxV, nilEq, give, tupV, mkEnv, extV, pickV, LVS, OVS, LTS, TYS, PMS, pmT, Int.reduceToNat, Nat.reduceGT, ↓reduceIte, Nat.reduceAdd, Nat.reduceMul, Nat.reduceSub, Nat.reduceEqDiff, Nat.reduceLeDiff, Nat.reduceLT, Nat.reduceBEq, Int.reduceBEq, Int.reduceBNe, Int.reduceEq, Int.reduceLT, Int.reduceLE, Int.reduceGT, Int.reduceNeg, reduceCtorEq, wrap_in, c1]
      rw [left, if_pos (by simp only [Tr.bulk]; omega)]
    · have c1 : decide (n - (s.length : Int) < 0) = false := by simpa using n1
      have h18 := c_szStringS ks o2 o3 (n - (s.length : Int)) (by omega) (by omega)
      by_cases n2 : n - (s.length : Int) - (ks.length : Int) - (bulkS ks : Int) < 0
      · rw [left, if_pos (by omega)] at h18
        simp (disch := omega) only [↓GO, ↓DRW, GA, ren, renB, footX, refs, cellsV, cst, cstAt, nilC, idxAddr, E.load, E.store, binO, isC, bin, ibin, sbin, una, isShift, okCell, packV, lenV, blt, fnV, asArg, snapV, snapS, snapP, snapC, flatV, flatT, openK, layBack, allT, allZ, mkS, srcOf0, unN, idxV, nilEq, give, tupV, mkEnv, extV, pickV, LVS, OVS, LTS, TYS, PMS, pmT, Int.reduceToNat, Nat.reduceGT, ↓reduceIte, Nat.reduceAdd, Nat.reduceMul, Nat.reduceSub, Nat.reduceEqDiff, Nat.reduceLeDiff, Nat.reduceLT, Nat.reduceBEq, Int.reduceBEq, Int.reduceBNe, Int.reduceEq, Int.reduceLT, Int.reduceLE, Int.reduceGT, Int.reduceNeg, reduceCtorEq, wrap_in, c1, h18]
        rw [left, if_pos (by simp only [Tr.bulk]; omega)]
      · rw [left, if_neg (by omega), show n - (s.length : Int) - ((ks.length + bulkS ks : Nat) : Int) = n - (s.length : Int) - (ks.length : Int) - (bulkS ks : Int) by omega] at h18
        have c2 : decide (n - (s.length : Int) - (ks.length : Int) - (bulkS ks : Int) < 0) = false := by simpa using n2
        have h19 := c_szTreeS cs o4 hc (n - (s.length : Int) - (ks.length : Int) - (bulkS ks : Int)) (by omega) (by omega)
        by_cases n3 : n - (s.length : Int) - (ks.length : Int) - (bulkS ks : Int) - ((cs.length + Tr.bulks cs : Nat) : Int) < 0
        · rw [left, if_pos n3] at h19
          simp (disch := omega) only [↓GO, ↓DRW, GA, ren, renB, footX, refs, cellsV, cst, cstAt, nilC, idxAddr, E.load, E.store, binO, isC, bin, ibin, sbin, una, isShift, okCell, packV, lenV, blt, fnV, asArg, snapV, snapS, snapP, snapC, flatV, flatT, openK, layBack, allT, allZ, mkS, srcOf0, unN, idxV, nilEq, give, tupV, mkEnv, extV, pickV, LVS, OVS, LTS, TYS, PMS, pmT, Int.reduceToNat, Nat.reduceGT, ↓reduceIte, Nat.reduceAdd, Nat.reduceMul, Nat.reduceSub, Nat.reduceEqDiff, Nat.reduceLeDiff, Nat.reduceLT, Nat.reduceBEq, Int.reduceBEq, Int.reduceBNe, Int.reduceEq, Int.reduceLT, Int.reduceLE, Int.reduceGT, Int.reduceNeg, reduceCtorEq, wrap_in, c1, c2, h18, h19]
          rw [left, if_pos (by simp only [Tr.bulk]; omega)]
        · rw [left, if_neg n3] at h19
          have c3 : decide (n - (s.length : Int) - (ks.length : Int) - (bulkS ks : Int) - ((cs.length + Tr.bulks cs : Nat) : Int) < 0) = false := by simpa using n3
          simp (disch := omega) only [↓GO, ↓DRW, GA, ren, renB, footX, refs, cellsV, cst, cstAt, nilC, idxAddr, E.load, E.store, binO, isC, bin, ibin, sbin, una, isShift, okCell, packV, lenV, blt, fnV, asArg, snapV, snapS, snapP, snapC, flatV, flatT, openK, layBack, allT, allZ, mkS, srcOf0, unN, idxV, nilEq, give, tupV, mkEnv, extV, pickV, LVS, OVS, LTS, TYS, PMS, pmT, Int.reduceToNat, Nat.reduceGT, ↓reduceIte, Nat.reduceAdd, Nat.reduceMul, Nat.reduceSub, Nat.reduceEqDiff, Nat.reduceLeDiff, Nat.reduceLT, Nat.reduceBEq, Int.reduceBEq, Int.reduceBNe, Int.reduceEq, Int.reduceLT, Int.reduceLE, Int.reduceGT, Int.reduceNeg, reduceCtorEq, wrap_in, c1, c2, c3, h18, h19]
          rw [left, if_neg (by simp only [Tr.bulk]; omega)]
          simp only [Tr.bulk]
          rw [show n - (s.length : Int) - (ks.length : Int) - (bulkS ks : Int) - ((cs.length + Tr.bulks cs : Nat) : Int) = n - ((s.length + ks.length + bulkS ks + cs.length + Tr.bulks cs : Nat) : Int) by omega]
/-- a tree is copied as it is -/
def ToT (t : Tr) : Prop := callPure (EV Tryd.prog pol) 6 [.agg (t.enc.map .t)] = some (.agg (t.enc.map .t))
def zTr : List T := [.int .i64 0, .int .i64 0, .str [], .list 1 [], .list 5 []]
theorem l_toTreeS (cs : List Tr) (hl : cs.length ≤ 1048576) (hc : ∀ c ∈ cs, ToT c) : ∀ (d i : Nat), cs.length - i = d → i ≤ cs.length →
    EV Tryd.prog pol (.loop 14 58 0 [.t (.list 5 (Tr.encs cs)), .sl 0 0 cs.length (some cs.length), .t (.int .i64 (i : Int))] [.ts 5 (fillE (Tr.encs cs) zTr i)]) = some (.loop (.exit 0) [.sl 0 0 cs.length (some cs.length)] [.ts 5 (Tr.encs cs)])
  | 0, i, hd, hi => by
    have hi' : i = cs.length := by omega
    subst hi'
    refine loop_eq Tryd.func14 rfl rfl ?_
    have c : decide (((cs.length : Nat) : Int) < ((cs.length : Nat) : Int)) = false := by simp
    have hf : fillE (Tr.encs cs) zTr cs.length = Tr.encs cs := by rw [← Tr.encs_len cs]; exact fillE_all _ _
    simp only [↓GO, ↓DRW, GA, ren, renB, footX, refs, cellsV, cst, cstAt, nilC, idxAddr, E.load, E.store, binO, isC, bin, ibin, sbin, una, isShift, okCell, packV, lenV, blt, fnV, asArg, snapV, snapS, snapP, snapC, flatV, flatT, openK, layBack, allT, allZ, mkS, srcOf0, unN, idxV, nilEq, give, tupV, mkEnv, extV, pickV, LVS, OVS, LTS, TYS, PMS, pmT, Int.reduceToNat, Nat.reduceGT, ↓reduceIte, Nat.reduceAdd, Nat.reduceMul, Nat.reduceSub, Nat.reduceEqDiff, Nat.reduceLeDiff, Nat.reduceLT, Nat.reduceBEq, Int.reduceBEq, Int.reduceBNe, Int.reduceEq, Int.reduceLT, Int.reduceLE, Int.reduceGT, Int.reduceNeg, reduceCtorEq, Tr.encs_len, c, hf]
  | d + 1, i, hd, hi => by
    have hlt : i < cs.length := by omega
    have hlt' : i < (Tr.encs cs).length := by rw [Tr.encs_len]; exact hlt
    have c : decide ((i : Int) < ((cs.length : Nat) : Int)) = true := by simp; omega
    have c0 : decide ((0 : Int) ≤ (i : Int)) = true := by simp
    have IH := l_toTreeS cs hl hc d (i + 1) (by omega) (by omega)
    have e1 : (i : Int) + 1 = ((i + 1 : Nat) : Int) := by omega
    have hg : (fillE (Tr.encs cs) zTr i)[i]? = some [T.int .i64 0, .int .i64 0, .str [], .list 1 [], .list 5 []] := fillE_get (Tr.encs cs) zTr i hlt'
    have hs := fillE_set (Tr.encs cs) zTr i hlt'
    have hx : (Tr.encs cs)[i] = cs[i].enc := by simp [Tr.encs_eq]
    rw [hx] at hs
    have hcall := hc _ (List.getElem_mem hlt)
    have hget := Tr.encs_get cs i hlt
    generalize hci : cs[i] = ci at hcall hget hs
    obtain ⟨k, n', s, ks, cs'⟩ := ci
    simp only [ToT, Tr.enc, List.map_cons, List.map_nil] at hcall hget hs
    refine loop_eq Tryd.func14 rfl rfl ?_
    simp (disch := omega) only [↓GO, ↓DRW, GA, ren, renB, footX, refs, cellsV, cst, cstAt, nilC, idxAddr, E.load, E.store, binO, isC, bin, ibin, sbin, una, isShift, okCell, packV, lenV, blt, fnV, asArg, snapV, snapS, snapP, snapC, flatV, flatT, openK, layBack, allT, allZ, mkS, srcOf0, unN, idxV, nilEq, give, tupV, mkEnv, extV, pickV, LVS, OVS, LTS, TYS, PMS, pmT, Int.reduceToNat, Nat.reduceGT, ↓reduceIte, Nat.reduceAdd, Nat.reduceMul, Nat.reduceSub, Nat.reduceEqDiff, Nat.reduceLeDiff, Nat.reduceLT, Nat.reduceBEq, Int.reduceBEq, Int.reduceBNe, Int.reduceEq, Int.reduceLT, Int.reduceLE, Int.reduceGT, Int.reduceNeg, reduceCtorEq, Tr.encs_len, c, c0, hget, wrap_in, e1, hg, Int.toNat_natCast, hcall, hs]
    exact IH
theorem c_toTreeS (cs : List Tr) (hl : cs.length ≤ 1048576) (hc : ∀ c ∈ cs, ToT c) : callPure (EV Tryd.prog pol) 14 [.t (.list 5 (Tr.encs cs))] = some (.t (.list 5 (Tr.encs cs))) := by
  apply eq_call
  refine call_eq rfl Tryd.func14 rfl (by kernel_rfl) ?_
  unfold Tryd.f14
  have h1 : ¬ ((cs.length : Int) < 0) := by omega
  have h2 : ¬ (cs.length * 80 > 140737488355328) := by omega
  have h3 : ¬ (cs.length > 140737488355328) := by omega
  have hz : List.replicate cs.length [T.int .i64 0, .int .i64 0, .str [], .list 1 [], .list 5 []] = fillE (Tr.encs cs) zTr 0 := by rw [fillE_zero, Tr.encs_len]; rfl
  have IH := l_toTreeS cs hl hc cs.length 0 (by omega) (by omega)
  simp only [Int.natCast_zero] at IH
  have ht : (Tr.encs cs).take cs.length = Tr.encs cs := by rw [← Tr.encs_len cs]; simp
  simp (disch := omega) only [↓GO, ↓DRW, GA, ren, renB, footX, refs, cellsV, cst, cstAt, nilC, idxAddr, E.load, E.store, binO, isC, bin, ibin, sbin, una, isShift, okCell, packV, lenV, blt, fnV, asArg, snapV, snapS, snapP, snapC, flatV, flatT, openK, layBack, allT, allZ, mkS, srcOf0, unN, idxV, nilEq, give, tupV, mkEnv, extV, pickV, LVS, OVS, LTS, TYS, PMS, pmT, Int.reduceToNat, Nat.reduceGT, ↓reduceIte, Nat.reduceAdd, Nat.reduceMul, Nat.reduceSub, Nat.reduceEqDiff, Nat.reduceLeDiff, Nat.reduceLT, Nat.reduceBEq, Int.reduceBEq, Int.reduceBNe, Int.reduceEq, Int.reduceLT, Int.reduceLE, Int.reduceGT, Int.reduceNeg, reduceCtorEq, Tr.encs_len, Int.toNat_natCast, h1, h2, h3, hz, IH, ne_eq, not_true_eq_false, ht]
theorem c_toTree : ∀ (N : Nat) (t : Tr), t.nd ≤ N → t.bulk ≤ 1048576 → ToT t
  | 0, .mk k n' s ks cs, h, _ => by simp [Tr.nd] at h
  | N + 1, .mk k n' s ks cs, h, ho => by
    simp only [Tr.nd] at h
    simp only [Tr.bulk] at ho
    have hc : ∀ c ∈ cs, ToT c := fun c hc => c_toTree N c (by have := Tr.nds_mem hc; omega) (by have := Tr.bulks_mem hc; omega)
    simp only [ToT, Tr.enc, List.map_cons, List.map_nil]
    apply eq_call
    refine call_eq rfl Tryd.func6 rfl (by kernel_rfl) ?_
    unfold Tryd.f6
    simp only [↓GO, ↓DRW, GA, ren, renB, footX, refs, cellsV, cst, cstAt, nilC, idxAddr, E.load, E.store, binO, isC, bin, ibin, sbin, una, isShift, okCell, packV, lenV, blt, fnV, asArg, snapV, snapS, snapP, snapC, flatV, flatT, openK, layBack, allT, allZ, mkS, srcOf0, unN, idxV, nilEq, give, tupV, mkEnv, extV, pickV, LVS, OVS, LTS, TYS, PMS, pmT, Int.reduceToNat, Nat.reduceGT, ↓reduceIte, Nat.reduceAdd, Nat.reduceMul, Nat.reduceSub, Nat.reduceEqDiff, Nat.reduceLeDiff, Nat.reduceLT, Nat.reduceBEq, Int.reduceBEq, Int.reduceBNe, Int.reduceEq, Int.reduceLT, Int.reduceLE, Int.reduceGT, Int.reduceNeg, reduceCtorEq, c_toStringS ks (by omega), c_toTreeS cs (by omega) hc]
def EqT (t : Tr) : Prop := callPure (EV Tryd.prog pol) 8 [.agg (t.enc.map .t), .agg (t.enc.map .t)] = some (.t (.bool true))
theorem l_eqTreeS (cs : List Tr) (hl : cs.length ≤ 1048576) (hc : ∀ c ∈ cs, EqT c) : ∀ (d i : Nat), cs.length - i = d → i ≤ cs.length →
    EV Tryd.prog pol (.loop 18 58 0 [.t (.list 5 (Tr.encs cs)), .t (.list 5 (Tr.encs cs)), .t (.int .i64 (i : Int))] []) = some (.loop (.exit 0) [.bad] [])
  | 0, i, hd, hi => by
    have hi' : i = cs.length := by omega
    subst hi'
    refine loop_eq Tryd.func18 rfl rfl ?_
    have c : decide (((cs.length : Nat) : Int) < ((cs.length : Nat) : Int)) = false := by simp
    simp only [↓GO, ↓DRW, GA, ren, renB, footX, refs, cellsV, cst, cstAt, nilC, idxAddr, E.load, E.store, binO, isC, bin, ibin, sbin, una, isShift, okCell, packV, lenV, blt, fnV, asArg, snapV, snapS, snapP, snapC, flatV, flatT, openK, layBack, allT, allZ, mkS, srcOf0, unN, idxV, nilEq, give, tupV, mkEnv, extV, pickV, LVS, OVS, LTS, TYS, PMS, pmT, Int.reduceToNat, Nat.reduceGT, ↓reduceIte, Nat.reduceAdd, Nat.reduceMul, Nat.reduceSub, Nat.reduceEqDiff, Nat.reduceLeDiff, Nat.reduceLT, Nat.reduceBEq, Int.reduceBEq, Int.reduceBNe, Int.reduceEq, Int.reduceLT, Int.reduceLE, Int.reduceGT, Int.reduceNeg, reduceCtorEq, Tr.encs_len, c]
  | d + 1, i, hd, hi => by
    have hlt : i < cs.length := by omega
    have c : decide ((i : Int) < ((cs.length : Nat) : Int)) = true := by simp; omega
    have IH := l_eqTreeS cs hl hc d (i + 1) (by omega) (by omega)
    have e1 : (i : Int) + 1 = ((i + 1 : Nat) : Int) := by omega
    have hcall := hc _ (List.getElem_mem hlt)
    have hget := Tr.encs_get cs i hlt
    generalize hci : cs[i] = ci at hcall hget
    obtain ⟨k', n', s', ks', cs'⟩ := ci
    simp only [EqT, Tr.enc, List.map_cons, List.map_nil] at hcall hget
    refine loop_eq Tryd.func18 rfl rfl ?_
    simp (disch := omega) only [↓GO, ↓DRW, GA, ren, renB, footX, refs, cellsV, cst, cstAt, nilC, idxAddr, E.load, E.store, binO, isC, bin, ibin, sbin, una, isShift, okCell, packV, lenV, blt, fnV, asArg, snapV, snapS, snapP, snapC, flatV, flatT, openK, layBack, allT, allZ, mkS, srcOf0, unN, idxV, nilEq, give, tupV, mkEnv, extV, pickV, LVS, OVS, LTS, TYS, PMS, pmT, Int.reduceToNat, Nat.reduceGT, ↓reduceIte, Nat.reduceAdd, Nat.reduceMul, Nat.reduceSub, Nat.reduceEqDiff, Nat.reduceLeDiff, Nat.reduceLT, Nat.reduceBEq, Int.reduceBEq, Int.reduceBNe, Int.reduceEq, Int.reduceLT, Int.reduceLE, Int.reduceGT, Int.reduceNeg, reduceCtorEq, Tr.encs_len, c, hget, wrap_in, e1, hcall]
    exact IH
theorem c_eqTreeS (cs : List Tr) (hl : cs.length ≤ 1048576) (hc : ∀ c ∈ cs, EqT c) : callPure (EV Tryd.prog pol) 18 [.t (.list 5 (Tr.encs cs)), .t (.list 5 (Tr.encs cs))] = some (.t (.bool true)) := by
  apply eq_call
  refine call_eq rfl Tryd.func18 rfl (by kernel_rfl) ?_
  unfold Tryd.f18
  have IH := l_eqTreeS cs hl hc cs.length 0 (by omega) (by omega)
  simp only [Int.natCast_zero] at IH
  simp only [↓GO, ↓DRW, GA, ren, renB, footX, refs, cellsV, cst, cstAt, nilC, idxAddr, E.load, E.store, binO, isC, bin, ibin, sbin, una, isShift, okCell, packV, lenV, blt, fnV, asArg, snapV, snapS, snapP, snapC, flatV, flatT, openK, layBack, allT, allZ, mkS, srcOf0, unN, idxV, nilEq, give, tupV, mkEnv, extV, pickV, LVS, OVS, LTS, TYS, PMS, pmT, Int.reduceToNat, Nat.reduceGT, ↓reduceIte, Nat.reduceAdd, Nat.reduceMul, Nat.reduceSub, Nat.reduceEqDiff, Nat.reduceLeDiff, Nat.reduceLT, Nat.reduceBEq, Int.reduceBEq, Int.reduceBNe, Int.reduceEq, Int.reduceLT, Int.reduceLE, Int.reduceGT, Int.reduceNeg, reduceCtorEq, Tr.encs_len, IH, bne_self_eq_false]
theorem c_eqTree : ∀ (N : Nat) (t : Tr), t.nd ≤ N → t.bulk ≤ 1048576 → EqT t
  | 0, .mk k n s ks cs, h, _ => by simp [Tr.nd] at h
  | N + 1, .mk k n s ks cs, h, ho => by
    simp only [Tr.nd] at h
    simp only [Tr.bulk] at ho
    have hc : ∀ c ∈ cs, EqT c := fun c hc => c_eqTree N c (by have := Tr.nds_mem hc; omega) (by have := Tr.bulks_mem hc; omega)
    simp only [EqT, Tr.enc, List.map_cons, List.map_nil]
    apply eq_call
    refine call_eq rfl Tryd.func8 rfl (by kernel_rfl) ?_
    unfold Tryd.f8
    simp only [↓GO, ↓DRW, GA, ren, renB, footX, refs, cellsV, cst, cstAt, nilC, idxAddr, E.load, E.store, binO, isC, bin, ibin, sbin, una, isShift, okCell, packV, lenV, blt, fnV, asArg, snapV, snapS, snapP, snapC, flatV, flatT, openK, layBack, allT, allZ, mkS, srcOf0, unN, idxV, nilEq, give, tupV, mkEnv, extV, pickV, LVS, OVS, LTS, TYS, PMS, pmT, Int.reduceToNat, Nat.reduceGT, ↓reduceIte, Nat.reduceAdd, Nat.reduceMul, Nat.reduceSub, Nat.reduceEqDiff, Nat.reduceLeDiff, Nat.reduceLT, Nat.reduceBEq, Int.reduceBEq, Int.reduceBNe, Int.reduceEq, Int.reduceLT, Int.reduceLE, Int.reduceGT, Int.reduceNeg, reduceCtorEq, bne_self_eq_false, c_eqStringS ks (by omega), c_eqTreeS cs (by omega) hc]
end Go.Proofs.YtdhejeigbjmncaaDoor

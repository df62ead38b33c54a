/- Is a tree right? By the implementation, the calls. Conditions: those of each lemma. -/
import Derived.Test.YtdhejeigbjmncaaDoorQ3
namespace Go.Proofs.YtdhejeigbjmncaaDoor
open E
set_option linter.unusedSimpArgs false
set_option linter.unusedVariables false
set_option maxRecDepth 100000
theorem fit_law (k n : Int) (s : Str) (ks : List Str) (cs : List Tr) (d l : Int) (hd : d ≤ 8) (h6 : l ≤ 600) :
    (rightT (.mk k n s ks cs) (8 - d) && decide (((Tr.mk k n s ks cs).nd : Int) ≤ l)) = (preI k n s ks cs && (rightsT cs (8 - (d + 1)) && decide ((Tr.nds cs : Int) ≤ l - 1))) := by
  have hl := Tr.len_nds cs
  rw [show (Tr.mk k n s ks cs).nd = Tr.nds cs + 1 from rfl, show rightT (.mk k n s ks cs) (8 - d) = (rightsT cs (8 - d - 1) && (decide (0 ≤ 8 - d) && ownT k n s ks cs)) from rfl, show 8 - d - 1 = 8 - (d + 1) by omega]
  have e1 : decide (0 ≤ 8 - d) = true := by simp only [decide_eq_true_eq]; omega
  have e2 : decide (((Tr.nds cs + 1 : Nat) : Int) ≤ l) = decide ((Tr.nds cs : Int) ≤ l - 1) := by rw [decide_eq_decide]; omega
  rw [e1, e2]
  by_cases hn : (Tr.nds cs : Int) ≤ l - 1
  · rw [pre_own k n s ks cs (by omega)]
    cases preI k n s ks cs <;> cases rightsT cs (8 - (d + 1)) <;> simp
  · have : decide ((Tr.nds cs : Int) ≤ l - 1) = false := by simpa using hn
    rw [this]; simp
set_option maxHeartbeats 6400000 in
theorem c_fit : ∀ (N : Nat) (t : Tr) (d : Int), t.nd ≤ N → t.bulk ≤ 1048576 → 0 ≤ d → d ≤ 9 → FitT t d
  | 0, t, d, h, _, _, _ => by have := t.nd_pos; omega
  | N + 1, .mk k n s ks cs, d, h, hb, h0, h9 => by
    simp only [Tr.nd] at h
    simp only [Tr.bulk] at hb
    have hc : d ≤ 8 → ∀ c ∈ cs, FitT c (d + 1) := fun h8 c hc =>
      c_fit N c (d + 1) (by have := Tr.nds_mem hc; omega) (by have := Tr.bulks_mem hc; omega) (by omega) (by omega)
    intro l hl0 hl6
    by_cases hq : l = 0 ∨ 8 < d
    · have hF : (rightT (.mk k n s ks cs) (8 - d) && decide (((Tr.mk k n s ks cs).nd : Int) ≤ l)) = false := by
        rcases hq with rfl | hq
        · have := (Tr.mk k n s ks cs).nd_pos
          have e : decide (((Tr.mk k n s ks cs).nd : Int) ≤ 0) = false := by simp only [decide_eq_false_iff_not]; omega
          rw [e, Bool.and_false]
        · rw [show rightT (.mk k n s ks cs) (8 - d) = (rightsT cs (8 - d - 1) && (decide (0 ≤ 8 - d) && ownT k n s ks cs)) from rfl]
          have e1 : decide (0 ≤ 8 - d) = false := by simp only [decide_eq_false_iff_not]; omega
          rw [e1]; simp
      refine ⟨l - 1, fun h => (by rw [hF] at h; cases h), ?_⟩
      rw [hF]
      simp only [Tr.enc, List.map_cons, List.map_nil]
      refine callO_eq Tryd.func24 rfl (by kernel_rfl) ?_
      unfold Tryd.f24
      cases c1 : decide (l - 1 < 0) with
      | true => simp (disch := ((try simp only [List.length_cons, List.length_append, List.length_nil, List.length_map]); omega)) only [↓GO, ↓DRW, GA, ren, renB, footX, refs, cellsV, cst, cstAt, nilC, idxAddr, E.load, E.store, binO, isC, bin, ibin, sbin, una, isShift, okCell, packV, lenV, blt, fnV, asArg, snapV, snapS, snapP, snapC, flatV, flatT, openK, layBack, allT, allZ, mkS, srcOf0, unN, idxV, nilEq, give, tupV, mkEnv, extV, pickV, LVS, OVS, LTS, TYS, PMS, pmT, Int.reduceToNat, Nat.reduceGT, ↓reduceIte, Nat.reduceAdd, Nat.reduceMul, Nat.reduceSub, Nat.reduceEqDiff, Nat.reduceLeDiff, Nat.reduceLT, Nat.reduceBEq, Int.reduceBEq, Int.reduceBNe, Int.reduceEq, Int.reduceLT, Int.reduceLE, Int.reduceGT, Int.reduceNeg, reduceCtorEq, wrap_in, c1]
      | false =>
        have c2 : decide (d > 8) = true := by
          simp only [decide_eq_false_iff_not] at c1
          simp only [decide_eq_true_eq]; omega
        simp (disch := ((try simp only [List.length_cons, List.length_append, List.length_nil, List.length_map]); omega)) only [↓GO, ↓DRW, GA, ren, renB, footX, refs, cellsV, cst, cstAt, nilC, idxAddr, E.load, E.store, binO, isC, bin, ibin, sbin, una, isShift, okCell, packV, lenV, blt, fnV, asArg, snapV, snapS, snapP, snapC, flatV, flatT, openK, layBack, allT, allZ, mkS, srcOf0, unN, idxV, nilEq, give, tupV, mkEnv, extV, pickV, LVS, OVS, LTS, TYS, PMS, pmT, Int.reduceToNat, Nat.reduceGT, ↓reduceIte, Nat.reduceAdd, Nat.reduceMul, Nat.reduceSub, Nat.reduceEqDiff, Nat.reduceLeDiff, Nat.reduceLT, Nat.reduceBEq, Int.reduceBEq, Int.reduceBNe, Int.reduceEq, Int.reduceLT, Int.reduceLE, Int.reduceGT, Int.reduceNeg, reduceCtorEq, wrap_in, c1, c2]
    · have h8 : d ≤ 8 := by omega
      have hl1 : 1 ≤ l := by omega
      rw [fit_law k n s ks cs d l h8 hl6]
      have hnd : (Tr.mk k n s ks cs).nd = Tr.nds cs + 1 := rfl
      rw [hnd]
      have hw := c_within k 0 6
      have hw2 := c_within n 0 999999999
      have hK := l_fitK k n s ks cs d (l - 1) (by omega) ks [] rfl
      obtain ⟨l2, q2, hC⟩ := l_fitC cs d (by omega) h0 h8 (hc h8) cs [] (l - 1) (by omega) (by omega) rfl
      simp only [List.length_nil, Int.natCast_zero, Tr.enc, List.map_cons, List.map_nil] at hK hC
      have c1 : decide (l - 1 < 0) = false := by simp only [decide_eq_false_iff_not]; omega
      have c2 : decide (d > 8) = false := by simp only [decide_eq_false_iff_not]; omega
      refine ⟨cond (preI k n s ks cs) l2 (l - 1), fun h => ?_, ?_⟩
      · rw [Bool.and_eq_true] at h
        rw [h.1, cond_true]
        have := q2 h.2
        omega
      · clear q2 hc
        simp only [Tr.enc, List.map_cons, List.map_nil]
        refine callO_eq Tryd.func24 rfl (by kernel_rfl) ?_
        unfold Tryd.f24
        unfold preI
        have w1 : IntKind.i64.wrap (l - 1) = l - 1 := wrap_in (by omega)
        have hsl := strs_len ks
        have hcl := Tr.encs_len cs
        clear h hb h0 h9 hl0 hl6 hq h8 hl1 hnd
        generalize (rightsT cs (8 - (d + 1)) && decide ((Tr.nds cs : Int) ≤ l - 1)) = kd at *
        generalize B2 k 0 6 = a06 at *
        generalize B2 n 0 999999999 = nr at *
        generalize unalike [] ks = un at *
        cases un with
        | false =>
          clear hC
          simp only [cond_false] at hK
          repeat' (first | (((first | with_reducible refine cK_any (fun hA => ?_) (fun hA => ?_) | with_reducible refine gW_any (fun hA => ?_) (fun hA => ?_)) <;> (try simp only [bne, Bool.not_eq_true', Bool.not_eq_false'] at hA) <;> (first | (have hP := Int.le_of_eq (eq_of_beq (α := Int) hA); have hQ := Int.le_of_eq (eq_of_beq (α := Int) hA).symm) | have hP := of_decide_eq_true hA | have hP := of_decide_eq_false hA | skip)) <;> (simp (disch := ((try simp only [List.length_cons, List.length_append, List.length_nil, List.length_map]); omega)) only [↓GO, ↓DRW, GA, ren, renB, footX, refs, cellsV, cst, cstAt, nilC, idxAddr, E.load, E.store, binO, isC, bin, ibin, sbin, una, isShift, okCell, packV, lenV, blt, fnV, asArg, snapV, snapS, snapP, snapC, flatV, flatT, openK, layBack, allT, allZ, mkS, srcOf0, unN, idxV, nilEq, give, tupV, mkEnv, extV, pickV, LVS, OVS, LTS, TYS, PMS, pmT, Int.reduceToNat, Nat.reduceGT, ↓reduceIte, Nat.reduceAdd, Nat.reduceMul, Nat.reduceSub, Nat.reduceEqDiff, Nat.reduceLeDiff, Nat.reduceLT, Nat.reduceBEq, Int.reduceBEq, Int.reduceBNe, Int.reduceEq, Int.reduceLT, Int.reduceLE, Int.reduceGT, Int.reduceNeg, reduceCtorEq, wrap_in, bne, strs_len, Tr.encs_len, *])) | (simp (disch := ((try simp only [List.length_cons, List.length_append, List.length_nil, List.length_map]); omega)) only [↓GO, ↓DRW, GA, ren, renB, footX, refs, cellsV, cst, cstAt, nilC, idxAddr, E.load, E.store, binO, isC, bin, ibin, sbin, una, isShift, okCell, packV, lenV, blt, fnV, asArg, snapV, snapS, snapP, snapC, flatV, flatT, openK, layBack, allT, allZ, mkS, srcOf0, unN, idxV, nilEq, give, tupV, mkEnv, extV, pickV, LVS, OVS, LTS, TYS, PMS, pmT, Int.reduceToNat, Nat.reduceGT, ↓reduceIte, Nat.reduceAdd, Nat.reduceMul, Nat.reduceSub, Nat.reduceEqDiff, Nat.reduceLeDiff, Nat.reduceLT, Nat.reduceBEq, Int.reduceBEq, Int.reduceBNe, Int.reduceEq, Int.reduceLT, Int.reduceLE, Int.reduceGT, Int.reduceNeg, reduceCtorEq, wrap_in, bne, strs_len, Tr.encs_len, *]))
        | true =>
          simp only [cond_true] at hK
          cases kd <;> simp only [cond_true, cond_false] at hC
          all_goals repeat' (first | (((first | with_reducible refine cK_any (fun hA => ?_) (fun hA => ?_) | with_reducible refine gW_any (fun hA => ?_) (fun hA => ?_)) <;> (try simp only [bne, Bool.not_eq_true', Bool.not_eq_false'] at hA) <;> (first | (have hP := Int.le_of_eq (eq_of_beq (α := Int) hA); have hQ := Int.le_of_eq (eq_of_beq (α := Int) hA).symm) | have hP := of_decide_eq_true hA | have hP := of_decide_eq_false hA | skip)) <;> (simp (disch := ((try simp only [List.length_cons, List.length_append, List.length_nil, List.length_map]); omega)) only [↓GO, ↓DRW, GA, ren, renB, footX, refs, cellsV, cst, cstAt, nilC, idxAddr, E.load, E.store, binO, isC, bin, ibin, sbin, una, isShift, okCell, packV, lenV, blt, fnV, asArg, snapV, snapS, snapP, snapC, flatV, flatT, openK, layBack, allT, allZ, mkS, srcOf0, unN, idxV, nilEq, give, tupV, mkEnv, extV, pickV, LVS, OVS, LTS, TYS, PMS, pmT, Int.reduceToNat, Nat.reduceGT, ↓reduceIte, Nat.reduceAdd, Nat.reduceMul, Nat.reduceSub, Nat.reduceEqDiff, Nat.reduceLeDiff, Nat.reduceLT, Nat.reduceBEq, Int.reduceBEq, Int.reduceBNe, Int.reduceEq, Int.reduceLT, Int.reduceLE, Int.reduceGT, Int.reduceNeg, reduceCtorEq, wrap_in, bne, strs_len, Tr.encs_len, *])) | (simp (disch := ((try simp only [List.length_cons, List.length_append, List.length_nil, List.length_map]); omega)) only [↓GO, ↓DRW, GA, ren, renB, footX, refs, cellsV, cst, cstAt, nilC, idxAddr, E.load, E.store, binO, isC, bin, ibin, sbin, una, isShift, okCell, packV, lenV, blt, fnV, asArg, snapV, snapS, snapP, snapC, flatV, flatT, openK, layBack, allT, allZ, mkS, srcOf0, unN, idxV, nilEq, give, tupV, mkEnv, extV, pickV, LVS, OVS, LTS, TYS, PMS, pmT, Int.reduceToNat, Nat.reduceGT, ↓reduceIte, Nat.reduceAdd, Nat.reduceMul, Nat.reduceSub, Nat.reduceEqDiff, Nat.reduceLeDiff, Nat.reduceLT, Nat.reduceBEq, Int.reduceBEq, Int.reduceBNe, Int.reduceEq, Int.reduceLT, Int.reduceLE, Int.reduceGT, Int.reduceNeg, reduceCtorEq, wrap_in, bne, strs_len, Tr.encs_len, *]))
end Go.Proofs.YtdhejeigbjmncaaDoor

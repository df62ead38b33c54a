/- Is a tree right? By the implementation. Conditions: those of each lemma. -/
import Derived.Test.YtdhejeigbjmncaaDoorQ2
namespace Go.Proofs.YtdhejeigbjmncaaDoor
open E
set_option linter.unusedSimpArgs false
set_option linter.unusedVariables false
set_option maxRecDepth 100000
theorem reach3 (h : Heap) (ids : List Nat) : reach h 3 ids = reach' h 3 ids := (reach'_eq h 3 ids).symm
/-- a tree fits at a depth, so many nodes left -/
def FitT (t : Tr) (d : Int) : Prop := ∀ l : Int, 0 ≤ l → l ≤ 600 → ∃ l' : Int, ((rightT t (8 - d) && decide ((t.nd : Int) ≤ l)) = true → l' = l - (t.nd : Int)) ∧
  EV Tryd.prog pol (.callO false 24 [.agg (t.enc.map .t), .t (.int .i64 d), .ptr 0 0 0] [.vs 1 [[.t (.int .i64 l)]]])
  = some (.call (.t (.bool (rightT t (8 - d) && decide ((t.nd : Int) ≤ l)))) [.vs 1 [[.t (.int .i64 l')]]])
theorem l_fitK (k n : Int) (s : Str) (ks : List Str) (cs : List Tr) (d l : Int) (hl : ks.length ≤ 1048576) : ∀ (rest pre : List Str), ks = pre ++ rest →
    EV Tryd.prog pol (.loop 24 506 1 [.t (.int .i64 d), .ptr 0 0 0, .ptr 1 0 0, .t (.list 1 (strs ks)), .t (.int .i64 (ks.length : Int)), .t (.int .i64 (pre.length : Int))] [.vs 1 [[.t (.int .i64 l)]], .vs 5 [(Tr.mk k n s ks cs).enc.map .t]])
    = some (cond (unalike pre rest) (.loop (.exit 0) [.t (.int .i64 d), .ptr 0 0 0, .ptr 1 0 0, .bad] [.vs 1 [[.t (.int .i64 l)]], .vs 5 [(Tr.mk k n s ks cs).enc.map .t]])
      (.loop .ret [.t (.int .i64 d), .ptr 0 0 0, .ptr 1 0 0, .t (.bool false)] [.vs 1 [[.t (.int .i64 l)]], .vs 5 [(Tr.mk k n s ks cs).enc.map .t]]))
  | [], pre, hs => by
    have c : decide ((pre.length : Int) < (ks.length : Int)) = false := by simp [hs]
    refine loop_eq Tryd.func24 rfl rfl ?_
    simp only [↓GO, ↓DRW, GA, ren, renB, footX, refs, cellsV, cst, cstAt, nilC, idxAddr, E.load, E.store, binO, isC, bin, ibin, sbin, una, isShift, okCell, packV, lenV, blt, fnV, asArg, snapV, snapS, snapP, snapC, flatV, flatT, openK, layBack, allT, allZ, mkS, srcOf0, unN, idxV, nilEq, give, tupV, mkEnv, extV, pickV, LVS, OVS, LTS, TYS, PMS, pmT, Int.reduceToNat, Nat.reduceGT, ↓reduceIte, Nat.reduceAdd, Nat.reduceMul, Nat.reduceSub, Nat.reduceEqDiff, Nat.reduceLeDiff, Nat.reduceLT, Nat.reduceBEq, Int.reduceBEq, Int.reduceBNe, Int.reduceEq, Int.reduceLT, Int.reduceLE, Int.reduceGT, Int.reduceNeg, reduceCtorEq, Tr.enc, c, unalike]
  | x :: rest, pre, hs => by
    have c : decide ((pre.length : Int) < (ks.length : Int)) = true := by simp [hs]; omega
    have hi : pre.length < ks.length := by rw [hs]; simp
    have hget := strs_get ks pre.length hi
    have hgb : ks[pre.length] = x := by simp [hs]
    rw [hgb] at hget
    have hc := c_contains pre x (by omega)
    rw [← strs_take ks pre _ hs] at hc
    have hfl : (strs ks).length = ks.length := strs_len ks
    have IH := l_fitK k n s ks cs d l hl rest (pre ++ [x]) (by rw [hs]; simp)
    rw [show ((pre ++ [x]).length : Int) = (pre.length : Int) + 1 by simp] at IH
    have hco : (pre.any fun y => x == y) = (pre.any fun y => y == x) := by congr 1; funext y; exact Bool.beq_comm
    rw [hco] at hc
    clear hs hgb hco
    simp only [Tr.enc, List.map_cons, List.map_nil] at IH ⊢
    refine loop_eq Tryd.func24 rfl rfl ?_
    simp only [unalike]
    cases hx : (pre.any fun y => y == x) <;> rw [hx] at hc <;> simp (disch := ((try simp only [List.length_cons, List.length_append, List.length_nil, List.length_map]); omega)) only [↓GO, ↓DRW, GA, ren, renB, footX, refs, cellsV, cst, cstAt, nilC, idxAddr, E.load, E.store, binO, isC, bin, ibin, sbin, una, isShift, okCell, packV, lenV, blt, fnV, asArg, snapV, snapS, snapP, snapC, flatV, flatT, openK, layBack, allT, allZ, mkS, srcOf0, unN, idxV, nilEq, give, tupV, mkEnv, extV, pickV, LVS, OVS, LTS, TYS, PMS, pmT, Int.reduceToNat, Nat.reduceGT, ↓reduceIte, Nat.reduceAdd, Nat.reduceMul, Nat.reduceSub, Nat.reduceEqDiff, Nat.reduceLeDiff, Nat.reduceLT, Nat.reduceBEq, Int.reduceBEq, Int.reduceBNe, Int.reduceEq, Int.reduceLT, Int.reduceLE, Int.reduceGT, Int.reduceNeg, reduceCtorEq, strs_len, c, hget, wrap_in, hc, IH, Bool.not_true, Bool.not_false, Bool.true_and, Bool.false_and]
theorem l_fitC (cs : List Tr) (d : Int) (hl : cs.length ≤ 1048576) (hd : 0 ≤ d) (hd2 : d ≤ 8) (hc : ∀ c ∈ cs, FitT c (d + 1)) : ∀ (rest pre : List Tr) (l : Int), 0 ≤ l → l ≤ 600 → cs = pre ++ rest →
    ∃ l' : Int, ((rightsT rest (8 - (d + 1)) && decide ((Tr.nds rest : Int) ≤ l)) = true → l' = l - (Tr.nds rest : Int)) ∧
    EV Tryd.prog pol (.loop 24 1018 1 [.t (.int .i64 d), .ptr 0 0 0, .t (.list 5 (Tr.encs cs)), .t (.int .i64 (cs.length : Int)), .t (.int .i64 (pre.length : Int))] [.vs 1 [[.t (.int .i64 l)]]])
    = some (cond (rightsT rest (8 - (d + 1)) && decide ((Tr.nds rest : Int) ≤ l)) (.loop (.exit 2) [.bad] [.vs 1 [[.t (.int .i64 l')]]]) (.loop .ret [.t (.bool false)] [.vs 1 [[.t (.int .i64 l')]]]))
  | [], pre, l, h0, h1, hs => by
    have c : decide ((pre.length : Int) < (cs.length : Int)) = false := by simp [hs]
    refine ⟨l, fun _ => by simp [Tr.nds], ?_⟩
    refine loop_eq Tryd.func24 rfl rfl ?_
    have e0 : (rightsT [] (8 - (d + 1)) && decide ((Tr.nds [] : Int) ≤ l)) = true := by simp [rightsT, Tr.nds, h0]
    simp only [e0]
    simp only [↓GO, ↓DRW, GA, ren, renB, footX, refs, cellsV, cst, cstAt, nilC, idxAddr, E.load, E.store, binO, isC, bin, ibin, sbin, una, isShift, okCell, packV, lenV, blt, fnV, asArg, snapV, snapS, snapP, snapC, flatV, flatT, openK, layBack, allT, allZ, mkS, srcOf0, unN, idxV, nilEq, give, tupV, mkEnv, extV, pickV, LVS, OVS, LTS, TYS, PMS, pmT, Int.reduceToNat, Nat.reduceGT, ↓reduceIte, Nat.reduceAdd, Nat.reduceMul, Nat.reduceSub, Nat.reduceEqDiff, Nat.reduceLeDiff, Nat.reduceLT, Nat.reduceBEq, Int.reduceBEq, Int.reduceBNe, Int.reduceEq, Int.reduceLT, Int.reduceLE, Int.reduceGT, Int.reduceNeg, reduceCtorEq, c]
  | x :: rest, pre, l, h0, h1, hs => by
    have c : decide ((pre.length : Int) < (cs.length : Int)) = true := by simp [hs]; omega
    have hi : pre.length < cs.length := by rw [hs]; simp
    have hget := Tr.encs_get cs pre.length hi
    have hgb : cs[pre.length] = x := by simp [hs]
    rw [hgb] at hget
    have hin : x ∈ cs := by rw [hs]; simp
    obtain ⟨l1, q1, hcall⟩ := hc x hin l h0 h1
    rw [show Tr.nds (x :: rest) = x.nd + Tr.nds rest from rfl]
    simp only [rightsT]
    have hnd := x.nd_pos
    generalize hfb : (rightT x (8 - (d + 1)) && decide ((x.nd : Int) ≤ l)) = bx at *
    have q0 : bx = true → rightT x (8 - (d + 1)) = true ∧ (x.nd : Int) ≤ l := fun h => by rw [h] at hfb; simpa using hfb
    have q2 : bx = false → (rightT x (8 - (d + 1)) && rightsT rest (8 - (d + 1)) && decide (((x.nd + Tr.nds rest : Nat) : Int) ≤ l)) = false := fun h => by
      rw [h] at hfb
      cases hr : rightT x (8 - (d + 1)) with
      | false => rfl
      | true =>
        rw [hr] at hfb
        have : ¬ ((x.nd : Int) ≤ l) := by simpa using hfb
        have h3 : decide (((x.nd + Tr.nds rest : Nat) : Int) ≤ l) = false := by simp only [decide_eq_false_iff_not]; omega
        rw [h3, Bool.and_false]
    generalize hxn : x.nd = xn at *
    obtain ⟨k', n', s', ks', cs'⟩ := x
    simp only [Tr.enc, List.map_cons, List.map_nil] at hget hcall
    cases bx with
    | false =>
      refine ⟨l1, (fun h => by rw [q2 rfl] at h; cases h), ?_⟩
      rw [q2 rfl]
      clear hs hgb hin hc
      refine loop_eq Tryd.func24 rfl rfl ?_
      simp (disch := ((try simp only [List.length_cons, List.length_append, List.length_nil, List.length_map]); omega)) only [↓GO, ↓DRW, GA, ren, renB, footX, refs, cellsV, cst, cstAt, nilC, idxAddr, E.load, E.store, binO, isC, bin, ibin, sbin, una, isShift, okCell, packV, lenV, blt, fnV, asArg, snapV, snapS, snapP, snapC, flatV, flatT, openK, layBack, allT, allZ, mkS, srcOf0, unN, idxV, nilEq, give, tupV, mkEnv, extV, pickV, LVS, OVS, LTS, TYS, PMS, pmT, Int.reduceToNat, Nat.reduceGT, ↓reduceIte, Nat.reduceAdd, Nat.reduceMul, Nat.reduceSub, Nat.reduceEqDiff, Nat.reduceLeDiff, Nat.reduceLT, Nat.reduceBEq, Int.reduceBEq, Int.reduceBNe, Int.reduceEq, Int.reduceLT, Int.reduceLE, Int.reduceGT, Int.reduceNeg, reduceCtorEq, c, hget, wrap_in, hcall, reach3]
    | true =>
      obtain ⟨r0, r1⟩ := q0 rfl
      have r2 := q1 rfl
      subst r2
      obtain ⟨l2, q3, IH⟩ := l_fitC cs d hl hd hd2 hc rest (pre ++ [.mk k' n' s' ks' cs']) (l - (xn : Int)) (by omega) (by omega) (by rw [hs]; simp)
      rw [show ((pre ++ [Tr.mk k' n' s' ks' cs']).length : Int) = (pre.length : Int) + 1 by simp] at IH
      have e1 : decide (((xn + Tr.nds rest : Nat) : Int) ≤ l) = decide ((Tr.nds rest : Int) ≤ l - (xn : Int)) := by
        rw [decide_eq_decide]; omega
      rw [r0, e1, Bool.true_and]
      refine ⟨l2, (fun h => by have := q3 h; omega), ?_⟩
      clear hs hgb hin hc
      refine loop_eq Tryd.func24 rfl rfl ?_
      simp (disch := ((try simp only [List.length_cons, List.length_append, List.length_nil, List.length_map]); omega)) only [↓GO, ↓DRW, GA, ren, renB, footX, refs, cellsV, cst, cstAt, nilC, idxAddr, E.load, E.store, binO, isC, bin, ibin, sbin, una, isShift, okCell, packV, lenV, blt, fnV, asArg, snapV, snapS, snapP, snapC, flatV, flatT, openK, layBack, allT, allZ, mkS, srcOf0, unN, idxV, nilEq, give, tupV, mkEnv, extV, pickV, LVS, OVS, LTS, TYS, PMS, pmT, Int.reduceToNat, Nat.reduceGT, ↓reduceIte, Nat.reduceAdd, Nat.reduceMul, Nat.reduceSub, Nat.reduceEqDiff, Nat.reduceLeDiff, Nat.reduceLT, Nat.reduceBEq, Int.reduceBEq, Int.reduceBNe, Int.reduceEq, Int.reduceLT, Int.reduceLE, Int.reduceGT, Int.reduceNeg, reduceCtorEq, c, hget, wrap_in, hcall, IH, reach3]
/-- what is looked at before the kids -/
def preI (k n : Int) (s : Str) (ks : List Str) (cs : List Tr) : Bool :=
  B2 k 0 6 && !((!(k == 3) && !(n == 0)) || !(B2 n 0 999999999) || (!(k == 4) && !(s == [])) || (!(k == 6) && decide ((ks.length : Int) > 0)) || ((!(k == 6) && !(k == 5)) && decide ((cs.length : Int) > 0)))
    && !((k == 6) && !((ks.length : Int) == (cs.length : Int))) && unalike [] ks
theorem pre_own (k n : Int) (s : Str) (ks : List Str) (cs : List Tr) (hc : cs.length ≤ 600) : ownT k n s ks cs = preI k n s ks cs := by
  have hun : ks = [] → unalike [] ks = true := fun h => by rw [h]; rfl
  by_cases hk : 0 ≤ k ∧ k ≤ 6
  · have hk' : k = 0 ∨ k = 1 ∨ k = 2 ∨ k = 3 ∨ k = 4 ∨ k = 5 ∨ k = 6 := by omega
    have r1 : (n == 0) = true → B2 n 0 999999999 = true := fun h => by obtain rfl := eq_of_beq h; rfl
    have r2 : ((ks.length : Int) == 0) = true → unalike [] ks = true := fun h => hun (List.eq_nil_of_length_eq_zero (by have := eq_of_beq h; omega))
    have r3 : ((ks.length : Int) == (cs.length : Int)) = true → decide ((ks.length : Int) ≤ 600) = true := fun h => by have := eq_of_beq h; simp only [decide_eq_true_eq]; omega
    have r4 : decide ((ks.length : Int) > 0) = !((ks.length : Int) == 0) := by cases ks <;> simp; omega
    have r5 : decide ((cs.length : Int) > 0) = !((cs.length : Int) == 0) := by cases cs <;> simp; omega
    unfold ownT preI
    rw [r4, r5]
    generalize B2 n 0 999999999 = nr at *
    generalize (n == 0) = n0 at *
    generalize (s == []) = s0 at *
    generalize unalike [] ks = un at *
    generalize ((ks.length : Int) == (cs.length : Int)) = ee at *
    generalize decide ((ks.length : Int) ≤ 600) = ll at *
    generalize ((ks.length : Int) == 0) = kk at *
    generalize ((cs.length : Int) == 0) = cc at *
    clear hun hk r4 r5 hc
    rcases hk' with rfl | rfl | rfl | rfl | rfl | rfl | rfl <;> revert nr n0 s0 un ee ll kk cc <;> decide +kernel
  · have hb : B2 k 0 6 = false := by
      cases hb : B2 k 0 6 with
      | false => rfl
      | true => simp at hb; omega
    unfold preI
    rw [hb]
    simp only [Bool.false_and]
    unfold ownT
    have e : ∀ j : Int, 0 ≤ j → j ≤ 6 → (k == j) = false := fun j h1 h2 => by simp; omega
    rw [e 0 (by omega) (by omega), e 1 (by omega) (by omega), e 2 (by omega) (by omega), e 3 (by omega) (by omega), e 4 (by omega) (by omega), e 5 (by omega) (by omega), e 6 (by omega) (by omega)]
    rfl
end Go.Proofs.YtdhejeigbjmncaaDoor

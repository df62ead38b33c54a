/- Is a tree right? By the reference. Conditions: those of each lemma. -/
import Derived.Test.YtdhejeigbjmncaaDoorQ1
namespace Go.Proofs.YtdhejeigbjmncaaDoor
open E
set_option linter.unusedSimpArgs false
set_option linter.unusedVariables false
set_option maxRecDepth 100000
/-- what a tree has but its kids is right -/
def ownT (k n : Int) (s : Str) (ks : List Str) (cs : List Tr) : Bool :=
  cond (k == 0 || k == 1 || k == 2) ((ks.length : Int) == 0 && (cs.length : Int) == 0 && n == 0 && s == []) <|
  cond (k == 3) ((ks.length : Int) == 0 && (cs.length : Int) == 0 && s == [] && B2 n 0 999999999) <|
  cond (k == 4) ((ks.length : Int) == 0 && (cs.length : Int) == 0 && n == 0) <|
  cond (k == 5) ((ks.length : Int) == 0 && n == 0 && s == []) <|
  cond (k == 6) ((ks.length : Int) == (cs.length : Int) && n == 0 && s == [] && (unalike [] ks && decide ((ks.length : Int) ≤ 600))) false
mutual
def rightT : Tr → Int → Bool
  | .mk k n s ks cs, d => rightsT cs (d - 1) && (decide (0 ≤ d) && ownT k n s ks cs)
def rightsT : List Tr → Int → Bool
  | [], _ => true
  | c :: cs, d => rightT c d && rightsT cs d
end
mutual
theorem Tr.nd_le : ∀ t : Tr, t.nd ≤ t.bulk + 1
  | .mk k n s ks cs => by
    have := Tr.nds_le cs
    simp only [Tr.nd, Tr.bulk]; omega
theorem Tr.nds_le : ∀ cs : List Tr, Tr.nds cs ≤ Tr.bulks cs + cs.length
  | [] => by simp [Tr.nds]
  | c :: cs => by
    have h1 := Tr.nd_le c
    have h2 := Tr.nds_le cs
    simp only [Tr.nds, Tr.bulks, List.length_cons]; omega
end
theorem Tr.nd_pos : ∀ t : Tr, 1 ≤ t.nd
  | .mk k n s ks cs => by simp only [Tr.nd]; omega
theorem Tr.len_nds : ∀ cs : List Tr, cs.length ≤ Tr.nds cs
  | [] => by simp
  | c :: cs => by
    have h1 := Tr.nd_pos c
    have h2 := Tr.len_nds cs
    simp only [Tr.nds, List.length_cons]; omega
theorem c_own (k n : Int) (s : Str) (ks : List Str) (cs : List Tr) (hk : ks.length ≤ 1048576) : callPure (EV Tryd.prog pol) 28 [.agg ((Tr.mk k n s ks cs).enc.map .t)] = some (.t (.bool (ownT k n s ks cs))) := by
  have h1 := c_keys ks hk
  have h2 := c_l01In n 0 999999999
  simp only [Tr.enc, List.map_cons, List.map_nil]
  apply eq_call
  refine call_eq rfl Tryd.func28 rfl (by kernel_rfl) ?_
  unfold Tryd.f28
  unfold ownT
  generalize B2 n 0 999999999 = b0 at *
  generalize unalike [] ks = b1 at *
  repeat' (first | (((first | with_reducible refine cK_any (fun hA => ?_) (fun hA => ?_) | with_reducible refine gW_any (fun hA => ?_) (fun hA => ?_)) <;> (try simp only [bne, Bool.not_eq_true', Bool.not_eq_false'] at hA) <;> (first | (have hP := Int.le_of_eq (eq_of_beq (α := Int) hA); have hQ := Int.le_of_eq (eq_of_beq (α := Int) hA).symm) | have hP := of_decide_eq_true hA | have hP := of_decide_eq_false hA | skip)) <;> (simp (disch := ((try simp only [List.length_cons, List.length_append, List.length_nil, List.length_map]); omega)) only [↓GO, ↓DRW, GA, ren, renB, footX, refs, cellsV, cst, cstAt, nilC, idxAddr, E.load, E.store, binO, isC, bin, ibin, sbin, una, isShift, okCell, packV, lenV, blt, fnV, asArg, snapV, snapS, snapP, snapC, flatV, flatT, openK, layBack, allT, allZ, mkS, srcOf0, unN, idxV, nilEq, give, tupV, mkEnv, extV, pickV, LVS, OVS, LTS, TYS, PMS, pmT, Int.reduceToNat, Nat.reduceGT, ↓reduceIte, Nat.reduceAdd, Nat.reduceMul, Nat.reduceSub, Nat.reduceEqDiff, Nat.reduceLeDiff, Nat.reduceLT, Nat.reduceBEq, Int.reduceBEq, Int.reduceBNe, Int.reduceEq, Int.reduceLT, Int.reduceLE, Int.reduceGT, Int.reduceNeg, reduceCtorEq, wrap_in, bne, strs_len, Tr.encs_len, *])) | (simp (disch := ((try simp only [List.length_cons, List.length_append, List.length_nil, List.length_map]); omega)) only [↓GO, ↓DRW, GA, ren, renB, footX, refs, cellsV, cst, cstAt, nilC, idxAddr, E.load, E.store, binO, isC, bin, ibin, sbin, una, isShift, okCell, packV, lenV, blt, fnV, asArg, snapV, snapS, snapP, snapC, flatV, flatT, openK, layBack, allT, allZ, mkS, srcOf0, unN, idxV, nilEq, give, tupV, mkEnv, extV, pickV, LVS, OVS, LTS, TYS, PMS, pmT, Int.reduceToNat, Nat.reduceGT, ↓reduceIte, Nat.reduceAdd, Nat.reduceMul, Nat.reduceSub, Nat.reduceEqDiff, Nat.reduceLeDiff, Nat.reduceLT, Nat.reduceBEq, Int.reduceBEq, Int.reduceBNe, Int.reduceEq, Int.reduceLT, Int.reduceLE, Int.reduceGT, Int.reduceNeg, reduceCtorEq, wrap_in, bne, strs_len, Tr.encs_len, *]))
theorem l_right (k n : Int) (s : Str) (ks : List Str) (cs : List Tr) (d : Int) (hl : cs.length ≤ 1048576) (hd : -2000000000 ≤ d) (hd2 : d ≤ 8)
    (hc : ∀ c ∈ cs, callPure (EV Tryd.prog pol) 19 [.agg (c.enc.map .t), .t (.int .i64 (d - 1))] = some (.t (.bool (rightT c (d - 1))))) : ∀ (rest pre : List Tr), cs = pre ++ rest →
    EV Tryd.prog pol (.loop 19 26 0 [.t (.int .i64 d), .ptr 0 0 0, .t (.int .i64 (pre.length : Int))] [.vs 5 [(Tr.mk k n s ks cs).enc.map .t]])
    = some (cond (rightsT rest (d - 1)) (.loop (.exit 0) [.t (.int .i64 d), .ptr 0 0 0, .bad] [.vs 5 [(Tr.mk k n s ks cs).enc.map .t]]) (.loop .ret [.t (.int .i64 d), .ptr 0 0 0, .t (.bool false)] [.vs 5 [(Tr.mk k n s ks cs).enc.map .t]]))
  | [], pre, hs => by
    have c : decide ((pre.length : Int) < (cs.length : Int)) = false := by simp [hs]
    refine loop_eq Tryd.func19 rfl rfl ?_
    simp only [↓GO, ↓DRW, GA, ren, renB, footX, refs, cellsV, cst, cstAt, nilC, idxAddr, E.load, E.store, binO, isC, bin, ibin, sbin, una, isShift, okCell, packV, lenV, blt, fnV, asArg, snapV, snapS, snapP, snapC, flatV, flatT, openK, layBack, allT, allZ, mkS, srcOf0, unN, idxV, nilEq, give, tupV, mkEnv, extV, pickV, LVS, OVS, LTS, TYS, PMS, pmT, Int.reduceToNat, Nat.reduceGT, ↓reduceIte, Nat.reduceAdd, Nat.reduceMul, Nat.reduceSub, Nat.reduceEqDiff, Nat.reduceLeDiff, Nat.reduceLT, Nat.reduceBEq, Int.reduceBEq, Int.reduceBNe, Int.reduceEq, Int.reduceLT, Int.reduceLE, Int.reduceGT, Int.reduceNeg, reduceCtorEq, Tr.enc, Tr.encs_len, c, rightsT]
  | x :: rest, pre, hs => by
    have c : decide ((pre.length : Int) < (cs.length : Int)) = true := by simp [hs]; omega
    have hi : pre.length < cs.length := by rw [hs]; simp
    have hget := Tr.encs_get cs pre.length hi
    have hgb : cs[pre.length] = x := by simp [hs]
    rw [hgb] at hget
    have hin : x ∈ cs := by rw [hs]; simp
    have hcall := hc x hin
    have IH := l_right k n s ks cs d hl hd hd2 hc rest (pre ++ [x]) (by rw [hs]; simp)
    rw [show ((pre ++ [x]).length : Int) = (pre.length : Int) + 1 by simp] at IH
    clear hs hgb hin hc
    simp only [rightsT]
    generalize rightT x (d - 1) = bx at *
    obtain ⟨k', n', s', ks', cs'⟩ := x
    simp only [Tr.enc, List.map_cons, List.map_nil] at hget hcall IH ⊢
    refine loop_eq Tryd.func19 rfl rfl ?_
    cases bx <;> simp (disch := ((try simp only [List.length_cons, List.length_append, List.length_nil, List.length_map]); omega)) only [↓GO, ↓DRW, GA, ren, renB, footX, refs, cellsV, cst, cstAt, nilC, idxAddr, E.load, E.store, binO, isC, bin, ibin, sbin, una, isShift, okCell, packV, lenV, blt, fnV, asArg, snapV, snapS, snapP, snapC, flatV, flatT, openK, layBack, allT, allZ, mkS, srcOf0, unN, idxV, nilEq, give, tupV, mkEnv, extV, pickV, LVS, OVS, LTS, TYS, PMS, pmT, Int.reduceToNat, Nat.reduceGT, ↓reduceIte, Nat.reduceAdd, Nat.reduceMul, Nat.reduceSub, Nat.reduceEqDiff, Nat.reduceLeDiff, Nat.reduceLT, Nat.reduceBEq, Int.reduceBEq, Int.reduceBNe, Int.reduceEq, Int.reduceLT, Int.reduceLE, Int.reduceGT, Int.reduceNeg, reduceCtorEq, Tr.encs_len, c, hget, wrap_in, hcall, IH]
theorem c_right : ∀ (N : Nat) (t : Tr) (d : Int), t.nd ≤ N → t.bulk ≤ 1048576 → -2000000000 ≤ d - (t.nd : Int) → d ≤ 8 →
    callPure (EV Tryd.prog pol) 19 [.agg (t.enc.map .t), .t (.int .i64 d)] = some (.t (.bool (rightT t d)))
  | 0, t, d, h, _, _, _ => by have := t.nd_pos; omega
  | N + 1, .mk k n s ks cs, d, h, hb, h1, h2 => by
    simp only [Tr.nd] at h h1
    simp only [Tr.bulk] at hb
    have hc : ∀ c ∈ cs, callPure (EV Tryd.prog pol) 19 [.agg (c.enc.map .t), .t (.int .i64 (d - 1))] = some (.t (.bool (rightT c (d - 1)))) := fun c hc =>
      c_right N c (d - 1) (by have := Tr.nds_mem hc; omega) (by have := Tr.bulks_mem hc; omega) (by have := Tr.nds_mem hc; omega) (by omega)
    have hlp := l_right k n s ks cs d (by omega) (by omega) h2 hc cs [] rfl
    simp only [List.length_nil, Int.natCast_zero] at hlp
    have how := c_own k n s ks cs (by omega)
    simp only [Tr.enc, List.map_cons, List.map_nil] at hlp how ⊢
    apply eq_call
    refine call_eq rfl Tryd.func19 rfl (by kernel_rfl) ?_
    unfold Tryd.f19
    simp only [rightT]
    cases hr : rightsT cs (d - 1) with
    | false => rw [hr] at hlp; simp only [cond_false] at hlp; simp only [↓GO, ↓DRW, GA, ren, renB, footX, refs, cellsV, cst, cstAt, nilC, idxAddr, E.load, E.store, binO, isC, bin, ibin, sbin, una, isShift, okCell, packV, lenV, blt, fnV, asArg, snapV, snapS, snapP, snapC, flatV, flatT, openK, layBack, allT, allZ, mkS, srcOf0, unN, idxV, nilEq, give, tupV, mkEnv, extV, pickV, LVS, OVS, LTS, TYS, PMS, pmT, Int.reduceToNat, Nat.reduceGT, ↓reduceIte, Nat.reduceAdd, Nat.reduceMul, Nat.reduceSub, Nat.reduceEqDiff, Nat.reduceLeDiff, Nat.reduceLT, Nat.reduceBEq, Int.reduceBEq, Int.reduceBNe, Int.reduceEq, Int.reduceLT, Int.reduceLE, Int.reduceGT, Int.reduceNeg, reduceCtorEq, hlp]
    | true =>
      rw [hr] at hlp; simp only [cond_true] at hlp
      cases hd : decide (0 ≤ d) <;> simp only [↓GO, ↓DRW, GA, ren, renB, footX, refs, cellsV, cst, cstAt, nilC, idxAddr, E.load, E.store, binO, isC, bin, ibin, sbin, una, isShift, okCell, packV, lenV, blt, fnV, asArg, snapV, snapS, snapP, snapC, flatV, flatT, openK, layBack, allT, allZ, mkS, srcOf0, unN, idxV, nilEq, give, tupV, mkEnv, extV, pickV, LVS, OVS, LTS, TYS, PMS, pmT, Int.reduceToNat, Nat.reduceGT, ↓reduceIte, Nat.reduceAdd, Nat.reduceMul, Nat.reduceSub, Nat.reduceEqDiff, Nat.reduceLeDiff, Nat.reduceLT, Nat.reduceBEq, Int.reduceBEq, Int.reduceBNe, Int.reduceEq, Int.reduceLT, Int.reduceLE, Int.reduceGT, Int.reduceNeg, reduceCtorEq, hlp, ge_iff_le, hd, how]
theorem l_nodes (k n : Int) (s : Str) (ks : List Str) (cs : List Tr) (hl : cs.length ≤ 1048576)
    (hc : ∀ c ∈ cs, callPure (EV Tryd.prog pol) 20 [.agg (c.enc.map .t)] = some (.t (.int .i64 (c.nd : Int)))) : ∀ (rest pre : List Tr) (m : Nat), m + Tr.nds rest ≤ 2147483648 → cs = pre ++ rest →
    EV Tryd.prog pol (.loop 20 58 0 [.ptr 0 0 0, .t (.int .i64 (m : Int)), .t (.int .i64 (pre.length : Int))] [.vs 5 [(Tr.mk k n s ks cs).enc.map .t]])
    = some (.loop (.exit 0) [.t (.int .i64 ((m + Tr.nds rest : Nat) : Int))] [])
  | [], pre, m, hm, hs => by
    have c : decide ((pre.length : Int) < (cs.length : Int)) = false := by simp [hs]
    refine loop_eq Tryd.func20 rfl rfl ?_
    simp only [↓GO, ↓DRW, GA, ren, renB, footX, refs, cellsV, cst, cstAt, nilC, idxAddr, E.load, E.store, binO, isC, bin, ibin, sbin, una, isShift, okCell, packV, lenV, blt, fnV, asArg, snapV, snapS, snapP, snapC, flatV, flatT, openK, layBack, allT, allZ, mkS, srcOf0, unN, idxV, nilEq, give, tupV, mkEnv, extV, pickV, LVS, OVS, LTS, TYS, PMS, pmT, Int.reduceToNat, Nat.reduceGT, ↓reduceIte, Nat.reduceAdd, Nat.reduceMul, Nat.reduceSub, Nat.reduceEqDiff, Nat.reduceLeDiff, Nat.reduceLT, Nat.reduceBEq, Int.reduceBEq, Int.reduceBNe, Int.reduceEq, Int.reduceLT, Int.reduceLE, Int.reduceGT, Int.reduceNeg, reduceCtorEq, Tr.enc, Tr.encs_len, c, Tr.nds]
  | x :: rest, pre, m, hm, hs => by
    have c : decide ((pre.length : Int) < (cs.length : Int)) = true := by simp [hs]; omega
    have hi : pre.length < cs.length := by rw [hs]; simp
    have hget := Tr.encs_get cs pre.length hi
    have hgb : cs[pre.length] = x := by simp [hs]
    rw [hgb] at hget
    have hin : x ∈ cs := by rw [hs]; simp
    have hcall := hc x hin
    simp only [Tr.nds] at hm
    have IH := l_nodes k n s ks cs hl hc rest (pre ++ [x]) (m + x.nd) (by omega) (by rw [hs]; simp)
    rw [show ((pre ++ [x]).length : Int) = (pre.length : Int) + 1 by simp, show ((m + x.nd : Nat) : Int) = (m : Int) + (x.nd : Int) by omega, show m + x.nd + Tr.nds rest = m + (x.nd + Tr.nds rest) by omega] at IH
    clear hs hgb hin hc
    simp only [Tr.nds]
    generalize x.nd = bx at *
    obtain ⟨k', n', s', ks', cs'⟩ := x
    simp only [Tr.enc, List.map_cons, List.map_nil] at hget hcall IH ⊢
    refine loop_eq Tryd.func20 rfl rfl ?_
    simp (disch := ((try simp only [List.length_cons, List.length_append, List.length_nil, List.length_map]); omega)) only [↓GO, ↓DRW, GA, ren, renB, footX, refs, cellsV, cst, cstAt, nilC, idxAddr, E.load, E.store, binO, isC, bin, ibin, sbin, una, isShift, okCell, packV, lenV, blt, fnV, asArg, snapV, snapS, snapP, snapC, flatV, flatT, openK, layBack, allT, allZ, mkS, srcOf0, unN, idxV, nilEq, give, tupV, mkEnv, extV, pickV, LVS, OVS, LTS, TYS, PMS, pmT, Int.reduceToNat, Nat.reduceGT, ↓reduceIte, Nat.reduceAdd, Nat.reduceMul, Nat.reduceSub, Nat.reduceEqDiff, Nat.reduceLeDiff, Nat.reduceLT, Nat.reduceBEq, Int.reduceBEq, Int.reduceBNe, Int.reduceEq, Int.reduceLT, Int.reduceLE, Int.reduceGT, Int.reduceNeg, reduceCtorEq, Tr.encs_len, c, hget, wrap_in, hcall, IH]
theorem c_nodes : ∀ (N : Nat) (t : Tr), t.nd ≤ N → t.bulk ≤ 1048576 →
    callPure (EV Tryd.prog pol) 20 [.agg (t.enc.map .t)] = some (.t (.int .i64 (t.nd : Int)))
  | 0, t, h, _ => by have := t.nd_pos; omega
  | N + 1, .mk k n s ks cs, h, hb => by
    have hle := (Tr.mk k n s ks cs).nd_le
    simp only [Tr.nd] at h hle
    simp only [Tr.bulk] at hb hle
    have hc : ∀ c ∈ cs, callPure (EV Tryd.prog pol) 20 [.agg (c.enc.map .t)] = some (.t (.int .i64 (c.nd : Int))) := fun c hc =>
      c_nodes N c (by have := Tr.nds_mem hc; omega) (by have := Tr.bulks_mem hc; omega)
    have hlp := l_nodes k n s ks cs (by omega) hc cs [] 1 (by omega) rfl
    simp only [List.length_nil, Int.natCast_zero, Int.natCast_one] at hlp
    rw [Nat.add_comm 1] at hlp
    simp only [Tr.enc, List.map_cons, List.map_nil] at hlp ⊢
    apply eq_call
    refine call_eq rfl Tryd.func20 rfl (by kernel_rfl) ?_
    unfold Tryd.f20
    simp only [Tr.nd]
    simp only [↓GO, ↓DRW, GA, ren, renB, footX, refs, cellsV, cst, cstAt, nilC, idxAddr, E.load, E.store, binO, isC, bin, ibin, sbin, una, isShift, okCell, packV, lenV, blt, fnV, asArg, snapV, snapS, snapP, snapC, flatV, flatT, openK, layBack, allT, allZ, mkS, srcOf0, unN, idxV, nilEq, give, tupV, mkEnv, extV, pickV, LVS, OVS, LTS, TYS, PMS, pmT, Int.reduceToNat, Nat.reduceGT, ↓reduceIte, Nat.reduceAdd, Nat.reduceMul, Nat.reduceSub, Nat.reduceEqDiff, Nat.reduceLeDiff, Nat.reduceLT, Nat.reduceBEq, Int.reduceBEq, Int.reduceBNe, Int.reduceEq, Int.reduceLT, Int.reduceLE, Int.reduceGT, Int.reduceNeg, reduceCtorEq, hlp]
def treeOk (t : Tr) : Bool := rightT t 8 && decide ((t.nd : Int) ≤ 600)
theorem c_okR (t : Tr) (hb : t.bulk ≤ 1048576) : callPure (EV Tryd.prog pol) 11 [.agg (t.enc.map .t)] = some (.t (.bool (treeOk t))) := by
  have hle := t.nd_le
  have h1 := c_right t.nd t 8 (Nat.le_refl _) hb (by omega) (by omega)
  have h2 := c_nodes t.nd t (Nat.le_refl _) hb
  apply eq_call
  refine call_eq rfl Tryd.func11 rfl (by kernel_rfl) ?_
  unfold Tryd.f11
  unfold treeOk
  generalize t.nd = nn at *
  generalize rightT t 8 = br at *
  obtain ⟨k, n, s, ks, cs⟩ := t
  simp only [Tr.enc, List.map_cons, List.map_nil] at h1 h2 ⊢
  cases br <;> simp only [↓GO, ↓DRW, GA, ren, renB, footX, refs, cellsV, cst, cstAt, nilC, idxAddr, E.load, E.store, binO, isC, bin, ibin, sbin, una, isShift, okCell, packV, lenV, blt, fnV, asArg, snapV, snapS, snapP, snapC, flatV, flatT, openK, layBack, allT, allZ, mkS, srcOf0, unN, idxV, nilEq, give, tupV, mkEnv, extV, pickV, LVS, OVS, LTS, TYS, PMS, pmT, Int.reduceToNat, Nat.reduceGT, ↓reduceIte, Nat.reduceAdd, Nat.reduceMul, Nat.reduceSub, Nat.reduceEqDiff, Nat.reduceLeDiff, Nat.reduceLT, Nat.reduceBEq, Int.reduceBEq, Int.reduceBNe, Int.reduceEq, Int.reduceLT, Int.reduceLE, Int.reduceGT, Int.reduceNeg, reduceCtorEq, h1, h2]
end Go.Proofs.YtdhejeigbjmncaaDoor

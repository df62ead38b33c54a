/- Joined: M8 M9 M10 M11 M16 M17 M18 M19 M20 S1 W4. Conditions: those of each lemma. -/
import Derived.Test.YtcphjdfmjhijkaaUI
import Derived.Test.YtcphjdfmjhijkaaRows
import Derived.ProofKit
import Derived.ReadAgain
set_option linter.unusedVariables false
set_option linter.unusedSimpArgs false
namespace Go.Proofs.Ytcphjdfmjhijkaa
open E
set_option linter.unusedSimpArgs false
set_option linter.unusedVariables false
set_option maxRecDepth 100000
def CpO (t : Tr) : Prop := ∃ cap, EV Try.prog pol (.callO false 34 [.agg (t.enc.map .t)] []) = some (.call (match t with
  | .mk k n s ks cs => .agg [.t (.int .i64 k), .t (.int .i64 n), .t (.str s), .sl 0 0 ks.length none, .sl 1 0 cs.length cap]) (match t with | .mk k n s ks cs => [.ts 1 (strs ks), .vs 5 (ocE (Tr.encs cs))]))
theorem l_cpO (k n : Int) (s : Str) (ks : List Str) (cs : List Tr) (hl : cs.length ≤ 1048576) (hkl : ks.length ≤ 1048576) (hc : ∀ c ∈ cs, CpO c) : ∀ (rest pre : List Tr) (m : Nat) (cap : Option Nat), cs = pre ++ rest → m = pre.length →
    ∃ cap', EV Try.prog pol (.loop 34 122 0 [.ptr 0 0 0, .ptr 1 0 0, .sl 2 0 m cap, .t (.list 5 (Tr.encs cs)), .t (.int .i64 (cs.length : Int)), .t (.int .i64 (pre.length : Int))] [.vs 5 [[.t (.int .i64 k), .t (.int .i64 n), .t (.str s), .sl 3 0 ks.length none, .t (.list 5 (Tr.encs cs))]], .vs 5 [zV], .vs 5 (ocE (Tr.encs pre)), .ts 1 (strs ks)])
      = some (.loop (.exit 0) [.ptr 0 0 0, .ptr 1 0 0, .sl 2 0 cs.length cap'] [.vs 5 [[.t (.int .i64 k), .t (.int .i64 n), .t (.str s), .sl 3 0 ks.length none, .t (.list 5 (Tr.encs cs))]], .vs 5 [zV], .vs 5 (ocE (Tr.encs cs)), .ts 1 (strs ks)])
  | [], pre, m, cap, hs, hm => by
    have c : decide ((pre.length : Int) < (cs.length : Int)) = false := by simp [hs]
    have e : cs = pre := by simpa using hs
    refine ⟨cap, ?_⟩
    simp only [zV]
    refine loop_eq Try.func34 rfl rfl ?_
    simp (disch := ((try simp only [List.length_cons, List.length_append, List.length_nil, List.length_map]); omega)) only [↓GO, ↓DRW, GA, ren, renB, footX, refs, cellsV, cst, cstAt, nilC, idxAddr, E.load, E.store, binO, isC, bin, ibin, sbin, una, isShift, okCell, packV, lenV, blt, fnV, asArg, snapV, snapS, snapP, snapC, snapX, flatV, flatT, openK, layBack, allT, allZ, mkS, srcOf0, unN, idxV, nilEq, give, tupV, mkEnv, extV, pickV, LVS, OVS, LTS, TYS, PMS, pmT, OWS, ownT, GHS, ghT, DMS, dmT, Int.reduceToNat, Nat.reduceGT, ↓reduceIte, Nat.reduceAdd, Nat.reduceMul, Nat.reduceSub, Nat.reduceEqDiff, Nat.reduceLeDiff, Nat.reduceLT, Nat.reduceBEq, Int.reduceBEq, Int.reduceBNe, Int.reduceEq, Int.reduceLT, Int.reduceLE, Int.reduceGT, Int.reduceNeg, reduceCtorEq, selK_some, selK_none, bltO, brwK, brwA, brwB, sliceO, mkO, appO, ghOne, ghAt, ghCells, fld1, unf1, setC, oc, oTs, oT, rowT, rowT.rowTs, rowB, isL, Bool.not_false, Bool.true_and, Bool.and_true, Bool.and_self, List.flatMap_append, List.map_append, List.set_cons_zero, List.set_cons_succ, Int.cast_ofNat_Int, getE_zero, getE_one, getE_two, Option.isSome_none, c, Tr.encs_len, ocE_ren, ocE_refs, rch3]
    rw [hm, ← e]
  | x :: rest, pre, m, cap, hs, hm => by
    have c : decide ((pre.length : Int) < (cs.length : Int)) = true := by simp [hs]; omega
    have c0 : decide ((0 : Int) ≤ (pre.length : Int)) = true := by simp
    have hget : (Tr.encs cs)[pre.length]? = some x.enc := by rw [hs]; simp [Tr.encs_eq]
    have hlen : pre.length + rest.length + 1 ≤ cs.length := by rw [hs]; simp; omega
    obtain ⟨cpx, hcx⟩ := hc x (by rw [hs]; simp)
    obtain ⟨cap', IH⟩ := l_cpO k n s ks cs hl hkl hc rest (pre ++ [x]) (m + 1) none (by rw [hs]; simp) (by simp [hm])
    refine ⟨cap', ?_⟩
    rw [encs_snoc, ocE_app, show ((pre ++ [x]).length : Int) = (pre.length : Int) + 1 by simp] at IH
    have hol : (ocE (Tr.encs pre)).length = m := by rw [ocE_len, Tr.encs_len, hm]
    have hml : m ≤ 1048576 := by omega
    have hA := ocE_refs (Tr.encs pre)
    have hR := fun r => ocE_ren r (Tr.encs pre)
    have hm1 : m + 1 - 1 = m := by omega
    have hm0 : ¬ (m + 1 = 0) := by omega
    clear hs
    obtain ⟨k1, n1, s1, ks1, cs1⟩ := x
    have hfl := flatE_strs ks1
    have hot := oT_trs cs1
    have hg1 := fun y => mid_get (ocE (Tr.encs pre)) [] y m hol
    have hs1 := fun y z => mid_set (ocE (Tr.encs pre)) [] y z m hol
    have hle : ∀ y : List V, (ocE (Tr.encs pre) ++ [y]).length = m + 1 := fun y => by simp [hol]
    simp only [Tr.enc, List.map_cons, List.map_nil, zV, ocE_cons, ocE_nil, oc] at hcx hget IH ⊢
    generalize ocE (Tr.encs pre) = A at *
    refine loop_eq Try.func34 rfl rfl ?_
    simp (disch := ((try simp only [List.length_cons, List.length_append, List.length_nil, List.length_map]); omega)) only [↓GO, ↓DRW, GA, ren, renB, footX, refs, cellsV, cst, cstAt, nilC, idxAddr, E.load, E.store, binO, isC, bin, ibin, sbin, una, isShift, okCell, packV, lenV, blt, fnV, asArg, snapV, snapS, snapP, snapC, snapX, flatV, flatT, openK, layBack, allT, allZ, mkS, srcOf0, unN, idxV, nilEq, give, tupV, mkEnv, extV, pickV, LVS, OVS, LTS, TYS, PMS, pmT, OWS, ownT, GHS, ghT, DMS, dmT, Int.reduceToNat, Nat.reduceGT, ↓reduceIte, Nat.reduceAdd, Nat.reduceMul, Nat.reduceSub, Nat.reduceEqDiff, Nat.reduceLeDiff, Nat.reduceLT, Nat.reduceBEq, Int.reduceBEq, Int.reduceBNe, Int.reduceEq, Int.reduceLT, Int.reduceLE, Int.reduceGT, Int.reduceNeg, reduceCtorEq, selK_some, selK_none, bltO, brwK, brwA, brwB, sliceO, mkO, appO, ghOne, ghAt, ghCells, fld1, unf1, setC, oc, oTs, oT, rowT, rowT.rowTs, rowB, isL, Bool.not_false, Bool.true_and, Bool.and_true, Bool.and_self, List.flatMap_append, List.map_append, List.set_cons_zero, List.set_cons_succ, Int.cast_ofNat_Int, getE_zero, getE_one, getE_two, Option.isSome_none, c, c0, Tr.encs_len, hget, hcx, wrap_in, hol, hA, hR, hm1, hm0, if_false, hg1, hs1, hle, hfl, hot, strs_len, ocE_len, ocE_ren, ocE_refs, IH, rch3, le_T]
theorem c_cpO : ∀ (N : Nat) (t : Tr), t.nd ≤ N → t.bulk ≤ 1048576 → CpO t
  | 0, .mk k n' s ks cs, h, _ => by simp [Tr.nd] at h
  | N + 1, .mk k n s ks cs, h, ho => by
    simp only [Tr.nd] at h
    simp only [Tr.bulk] at ho
    have hc : ∀ c ∈ cs, CpO c := fun c hc => c_cpO N c (by have := Tr.nds_mem hc; omega) (by have := Tr.bulks_mem hc; omega)
    obtain ⟨cap, L⟩ := l_cpO k n s ks cs (by omega) (by omega) hc cs [] 0 (some 0) rfl rfl
    refine ⟨cap, ?_⟩
    have d1 := c_cloneS (strs ks) (by rw [strs_len]; omega)
    rw [strs_len] at d1
    simp only [List.length_nil, Int.natCast_zero, show ocE (Tr.encs []) = [] from rfl] at L
    simp only [Tr.enc, List.map_cons, List.map_nil, zV] at L ⊢
    refine callO_eq Try.func34 rfl (by kernel_rfl) ?_
    unfold Try.f34
    simp (disch := ((try simp only [List.length_cons, List.length_append, List.length_nil, List.length_map]); omega)) only [↓GO, ↓DRW, GA, ren, renB, footX, refs, cellsV, cst, cstAt, nilC, idxAddr, E.load, E.store, binO, isC, bin, ibin, sbin, una, isShift, okCell, packV, lenV, blt, fnV, asArg, snapV, snapS, snapP, snapC, snapX, flatV, flatT, openK, layBack, allT, allZ, mkS, srcOf0, unN, idxV, nilEq, give, tupV, mkEnv, extV, pickV, LVS, OVS, LTS, TYS, PMS, pmT, OWS, ownT, GHS, ghT, DMS, dmT, Int.reduceToNat, Nat.reduceGT, ↓reduceIte, Nat.reduceAdd, Nat.reduceMul, Nat.reduceSub, Nat.reduceEqDiff, Nat.reduceLeDiff, Nat.reduceLT, Nat.reduceBEq, Int.reduceBEq, Int.reduceBNe, Int.reduceEq, Int.reduceLT, Int.reduceLE, Int.reduceGT, Int.reduceNeg, reduceCtorEq, selK_some, selK_none, bltO, brwK, brwA, brwB, sliceO, mkO, appO, ghOne, ghAt, ghCells, fld1, unf1, setC, oc, oTs, oT, rowT, rowT.rowTs, rowB, isL, Bool.not_false, Bool.true_and, Bool.and_true, Bool.and_self, List.flatMap_append, List.map_append, List.set_cons_zero, List.set_cons_succ, Int.cast_ofNat_Int, getE_zero, getE_one, getE_two, Option.isSome_none, d1, L, Tr.encs_len, ocE_ren, ocE_refs, rch3]
/-! ### What stands under a key -/
/-- the first place of a key, from i on -/
def ixS (key : Str) : Nat → List Str → Int
  | _, [] => -1
  | i, k :: r => cond (k == key) (i : Int) (ixS key (i + 1) r)
def atI (key : Str) : Nat → List Str → Nat → Int
  | i, k :: r, m + 1 => cond (k == key) (i : Int) (atI key (i + 1) r m)
  | _, _, _ => -1
theorem ixS_rng (key : Str) : ∀ (r : List Str) (i : Nat), ixS key i r = -1 ∨ ((i : Int) ≤ ixS key i r ∧ ixS key i r < ((i + r.length : Nat) : Int))
  | [], i => .inl rfl
  | k :: r, i => by
    rw [ixS]
    cases hk : (k == key) with
    | true => right; simp only [cond_true, List.length_cons]; omega
    | false =>
      simp only [cond_false, List.length_cons]
      rcases ixS_rng key r (i + 1) with h | h
      · exact .inl h
      · right; omega
theorem at_ix (key : Str) : ∀ (r : List Str) (i m : Nat), atI key i r m = cond (decide (ixS key i r ≥ 0) && decide (ixS key i r < ((i + m : Nat) : Int))) (ixS key i r) (-1)
  | [], i, m => by cases m <;> simp [atI, ixS]
  | k :: r, i, 0 => by
    have := ixS_rng key (k :: r) i
    have hd : (decide (ixS key i (k :: r) ≥ 0) && decide (ixS key i (k :: r) < ((i + 0 : Nat) : Int))) = false := by
      simp only [Bool.and_eq_false_iff, decide_eq_false_iff_not]
      omega
    rw [hd]; simp [atI]
  | k :: r, i, m + 1 => by
    rw [atI, ixS]
    cases hk : (k == key) with
    | true =>
      have hd : (decide ((i : Int) ≥ 0) && decide ((i : Int) < ((i + (m + 1) : Nat) : Int))) = true := by
        simp only [Bool.and_eq_true, decide_eq_true_eq]; omega
      simp only [cond_true, hd]
    | false =>
      simp only [cond_false]
      rw [at_ix key r (i + 1) m, show i + 1 + m = i + (m + 1) by omega]
theorem l_ix (key : Str) (ks : List Str) (hl : ks.length ≤ 1048576) : ∀ (rest pre : List Str), ks = pre ++ rest → ∃ x,
    EV Try.prog pol (.loop 39 26 0 [.t (.list 1 (strs ks)), .t (.str key), .t (.int .i64 (ks.length : Int)), .t (.int .i64 (pre.length : Int))] []) = some (cond (decide (ixS key pre.length rest ≥ 0)) (.loop .ret [.t (.int .i64 (ixS key pre.length rest))] []) (.loop (.exit 0) [x] []))
  | [], pre, hs => by
    have c : decide ((pre.length : Int) < (ks.length : Int)) = false := by simp [hs]
    refine ⟨.bad, ?_⟩
    show _ = some (Resp.loop (.exit 0) [.bad] [])
    refine loop_eq Try.func39 rfl rfl ?_
    simp (disch := ((try simp only [List.length_cons, List.length_append, List.length_nil, List.length_map]); omega)) only [↓GO, ↓DRW, GA, ren, renB, footX, refs, cellsV, cst, cstAt, nilC, idxAddr, E.load, E.store, binO, isC, bin, ibin, sbin, una, isShift, okCell, packV, lenV, blt, fnV, asArg, snapV, snapS, snapP, snapC, snapX, flatV, flatT, openK, layBack, allT, allZ, mkS, srcOf0, unN, idxV, nilEq, give, tupV, mkEnv, extV, pickV, LVS, OVS, LTS, TYS, PMS, pmT, OWS, ownT, GHS, ghT, DMS, dmT, Int.reduceToNat, Nat.reduceGT, ↓reduceIte, Nat.reduceAdd, Nat.reduceMul, Nat.reduceSub, Nat.reduceEqDiff, Nat.reduceLeDiff, Nat.reduceLT, Nat.reduceBEq, Int.reduceBEq, Int.reduceBNe, Int.reduceEq, Int.reduceLT, Int.reduceLE, Int.reduceGT, Int.reduceNeg, reduceCtorEq, Int.cast_ofNat_Int, getE_zero, getE_one, getE_two, Option.isSome_none, c]
  | x :: rest, pre, hs => by
    have c : decide ((pre.length : Int) < (ks.length : Int)) = true := by simp [hs]; omega
    have hget : (strs ks)[pre.length]? = some [.str x] := by rw [hs]; simp [strs]
    have hlen : pre.length + rest.length + 1 ≤ ks.length := by rw [hs]; simp; omega
    obtain ⟨y, IH⟩ := l_ix key ks hl rest (pre ++ [x]) (by rw [hs]; simp)
    refine ⟨y, ?_⟩
    rw [show ((pre ++ [x]).length : Int) = (pre.length : Int) + 1 by simp, show (pre ++ [x]).length = pre.length + 1 by simp] at IH
    have hsym : (key == x) = (x == key) := by rw [Bool.eq_iff_iff]; simp only [beq_iff_eq]; exact eq_comm
    clear hs
    rw [ixS]
    cases hk : (x == key) <;> rw [hk] at hsym
    · simp only [cond_false]
      refine loop_eq Try.func39 rfl rfl ?_
      simp (disch := ((try simp only [List.length_cons, List.length_append, List.length_nil, List.length_map]); omega)) only [↓GO, ↓DRW, GA, ren, renB, footX, refs, cellsV, cst, cstAt, nilC, idxAddr, E.load, E.store, binO, isC, bin, ibin, sbin, una, isShift, okCell, packV, lenV, blt, fnV, asArg, snapV, snapS, snapP, snapC, snapX, flatV, flatT, openK, layBack, allT, allZ, mkS, srcOf0, unN, idxV, nilEq, give, tupV, mkEnv, extV, pickV, LVS, OVS, LTS, TYS, PMS, pmT, OWS, ownT, GHS, ghT, DMS, dmT, Int.reduceToNat, Nat.reduceGT, ↓reduceIte, Nat.reduceAdd, Nat.reduceMul, Nat.reduceSub, Nat.reduceEqDiff, Nat.reduceLeDiff, Nat.reduceLT, Nat.reduceBEq, Int.reduceBEq, Int.reduceBNe, Int.reduceEq, Int.reduceLT, Int.reduceLE, Int.reduceGT, Int.reduceNeg, reduceCtorEq, Int.cast_ofNat_Int, getE_zero, getE_one, getE_two, Option.isSome_none, c, hget, wrap_in, hsym, IH]
    · simp only [cond_true, show decide (((pre.length : Nat) : Int) ≥ 0) = true by simp]
      refine loop_eq Try.func39 rfl rfl ?_
      simp (disch := ((try simp only [List.length_cons, List.length_append, List.length_nil, List.length_map]); omega)) only [↓GO, ↓DRW, GA, ren, renB, footX, refs, cellsV, cst, cstAt, nilC, idxAddr, E.load, E.store, binO, isC, bin, ibin, sbin, una, isShift, okCell, packV, lenV, blt, fnV, asArg, snapV, snapS, snapP, snapC, snapX, flatV, flatT, openK, layBack, allT, allZ, mkS, srcOf0, unN, idxV, nilEq, give, tupV, mkEnv, extV, pickV, LVS, OVS, LTS, TYS, PMS, pmT, OWS, ownT, GHS, ghT, DMS, dmT, Int.reduceToNat, Nat.reduceGT, ↓reduceIte, Nat.reduceAdd, Nat.reduceMul, Nat.reduceSub, Nat.reduceEqDiff, Nat.reduceLeDiff, Nat.reduceLT, Nat.reduceBEq, Int.reduceBEq, Int.reduceBNe, Int.reduceEq, Int.reduceLT, Int.reduceLE, Int.reduceGT, Int.reduceNeg, reduceCtorEq, Int.cast_ofNat_Int, getE_zero, getE_one, getE_two, Option.isSome_none, c, hget, wrap_in, hsym]
theorem c_ix (key : Str) (ks : List Str) (hl : ks.length ≤ 1048576) : callPure (EV Try.prog pol) 39 [.t (.list 1 (strs ks)), .t (.str key)] = some (.t (.int .i64 (ixS key 0 ks))) := by
  obtain ⟨x, L⟩ := l_ix key ks hl ks [] rfl
  have hr := ixS_rng key ks 0
  simp only [List.length_nil, Int.natCast_zero] at L
  cases hd : decide (ixS key 0 ks ≥ 0) with
  | true =>
    rw [hd] at L
    simp only [cond_true] at L
    apply eq_call
    refine call_eq rfl Try.func39 rfl (by kernel_rfl) ?_
    unfold Try.f39
    simp (disch := ((try simp only [List.length_cons, List.length_append, List.length_nil, List.length_map]); omega)) only [↓GO, ↓DRW, GA, ren, renB, footX, refs, cellsV, cst, cstAt, nilC, idxAddr, E.load, E.store, binO, isC, bin, ibin, sbin, una, isShift, okCell, packV, lenV, blt, fnV, asArg, snapV, snapS, snapP, snapC, snapX, flatV, flatT, openK, layBack, allT, allZ, mkS, srcOf0, unN, idxV, nilEq, give, tupV, mkEnv, extV, pickV, LVS, OVS, LTS, TYS, PMS, pmT, OWS, ownT, GHS, ghT, DMS, dmT, Int.reduceToNat, Nat.reduceGT, ↓reduceIte, Nat.reduceAdd, Nat.reduceMul, Nat.reduceSub, Nat.reduceEqDiff, Nat.reduceLeDiff, Nat.reduceLT, Nat.reduceBEq, Int.reduceBEq, Int.reduceBNe, Int.reduceEq, Int.reduceLT, Int.reduceLE, Int.reduceGT, Int.reduceNeg, reduceCtorEq, Int.cast_ofNat_Int, getE_zero, getE_one, getE_two, Option.isSome_none, L, strs_len]
  | false =>
    rw [hd] at L
    have h := of_decide_eq_false hd
    rw [show ixS key 0 ks = -1 by omega]
    simp only [cond_false] at L
    apply eq_call
    refine call_eq rfl Try.func39 rfl (by kernel_rfl) ?_
    unfold Try.f39
    simp (disch := ((try simp only [List.length_cons, List.length_append, List.length_nil, List.length_map]); omega)) only [↓GO, ↓DRW, GA, ren, renB, footX, refs, cellsV, cst, cstAt, nilC, idxAddr, E.load, E.store, binO, isC, bin, ibin, sbin, una, isShift, okCell, packV, lenV, blt, fnV, asArg, snapV, snapS, snapP, snapC, snapX, flatV, flatT, openK, layBack, allT, allZ, mkS, srcOf0, unN, idxV, nilEq, give, tupV, mkEnv, extV, pickV, LVS, OVS, LTS, TYS, PMS, pmT, OWS, ownT, GHS, ghT, DMS, dmT, Int.reduceToNat, Nat.reduceGT, ↓reduceIte, Nat.reduceAdd, Nat.reduceMul, Nat.reduceSub, Nat.reduceEqDiff, Nat.reduceLeDiff, Nat.reduceLT, Nat.reduceBEq, Int.reduceBEq, Int.reduceBNe, Int.reduceEq, Int.reduceLT, Int.reduceLE, Int.reduceGT, Int.reduceNeg, reduceCtorEq, Int.cast_ofNat_Int, getE_zero, getE_one, getE_two, Option.isSome_none, L, strs_len]
theorem l_atR (key : Str) (k n : Int) (s : Str) (ks : List Str) (cs : List Tr) (hl : ks.length ≤ 1048576) (hl2 : cs.length ≤ 1048576) (hk : (k == 6) = true) : ∀ (rest pre : List Str) (m : Nat), ks = pre ++ rest → m + pre.length = cs.length ∨ (m = 0 ∧ cs.length ≤ pre.length) → ∃ x,
    EV Try.prog pol (.loop 38 26 0 [.t (.str key), .ptr 0 0 0, .t (.int .i64 (pre.length : Int))] [.vs 5 [(Tr.mk k n s ks cs).enc.map .t]]) = some (cond (decide (atI key pre.length rest m ≥ 0)) (.loop .ret [.t (.int .i64 (atI key pre.length rest m))] []) (.loop (.exit 0) [x] []))
  | [], pre, m, hs, hm => by
    have c : decide ((pre.length : Int) < (ks.length : Int)) = false := by simp [hs]
    refine ⟨.bad, ?_⟩
    have e : atI key pre.length [] m = -1 := by cases m <;> rfl
    rw [e]
    show _ = some (Resp.loop (.exit 0) [.bad] [])
    simp only [Tr.enc, List.map_cons, List.map_nil]
    refine loop_eq Try.func38 rfl rfl ?_
    simp (disch := ((try simp only [List.length_cons, List.length_append, List.length_nil, List.length_map]); omega)) only [↓GO, ↓DRW, GA, ren, renB, footX, refs, cellsV, cst, cstAt, nilC, idxAddr, E.load, E.store, binO, isC, bin, ibin, sbin, una, isShift, okCell, packV, lenV, blt, fnV, asArg, snapV, snapS, snapP, snapC, snapX, flatV, flatT, openK, layBack, allT, allZ, mkS, srcOf0, unN, idxV, nilEq, give, tupV, mkEnv, extV, pickV, LVS, OVS, LTS, TYS, PMS, pmT, OWS, ownT, GHS, ghT, DMS, dmT, Int.reduceToNat, Nat.reduceGT, ↓reduceIte, Nat.reduceAdd, Nat.reduceMul, Nat.reduceSub, Nat.reduceEqDiff, Nat.reduceLeDiff, Nat.reduceLT, Nat.reduceBEq, Int.reduceBEq, Int.reduceBNe, Int.reduceEq, Int.reduceLT, Int.reduceLE, Int.reduceGT, Int.reduceNeg, reduceCtorEq, Int.cast_ofNat_Int, getE_zero, getE_one, getE_two, Option.isSome_none, c, strs_len, Tr.encs_len, hk]
  | x :: rest, pre, 0, hs, hm => by
    have c : decide ((pre.length : Int) < (ks.length : Int)) = true := by simp [hs]; omega
    have c2 : decide ((pre.length : Int) < (cs.length : Int)) = false := by apply decide_eq_false; omega
    refine ⟨.bad, ?_⟩
    show _ = some (Resp.loop (.exit 0) [.bad] [])
    simp only [Tr.enc, List.map_cons, List.map_nil]
    refine loop_eq Try.func38 rfl rfl ?_
    simp (disch := ((try simp only [List.length_cons, List.length_append, List.length_nil, List.length_map]); omega)) only [↓GO, ↓DRW, GA, ren, renB, footX, refs, cellsV, cst, cstAt, nilC, idxAddr, E.load, E.store, binO, isC, bin, ibin, sbin, una, isShift, okCell, packV, lenV, blt, fnV, asArg, snapV, snapS, snapP, snapC, snapX, flatV, flatT, openK, layBack, allT, allZ, mkS, srcOf0, unN, idxV, nilEq, give, tupV, mkEnv, extV, pickV, LVS, OVS, LTS, TYS, PMS, pmT, OWS, ownT, GHS, ghT, DMS, dmT, Int.reduceToNat, Nat.reduceGT, ↓reduceIte, Nat.reduceAdd, Nat.reduceMul, Nat.reduceSub, Nat.reduceEqDiff, Nat.reduceLeDiff, Nat.reduceLT, Nat.reduceBEq, Int.reduceBEq, Int.reduceBNe, Int.reduceEq, Int.reduceLT, Int.reduceLE, Int.reduceGT, Int.reduceNeg, reduceCtorEq, Int.cast_ofNat_Int, getE_zero, getE_one, getE_two, Option.isSome_none, c, c2, strs_len, Tr.encs_len, hk]
  | x :: rest, pre, m + 1, hs, hm => by
    have c : decide ((pre.length : Int) < (ks.length : Int)) = true := by simp [hs]; omega
    have c2 : decide ((pre.length : Int) < (cs.length : Int)) = true := by apply decide_eq_true; omega
    have hget : (strs ks)[pre.length]? = some [.str x] := by rw [hs]; simp [strs]
    have hlen : pre.length + rest.length + 1 ≤ ks.length := by rw [hs]; simp; omega
    obtain ⟨y, IH⟩ := l_atR key k n s ks cs hl hl2 hk rest (pre ++ [x]) m (by rw [hs]; simp) (by simp; omega)
    refine ⟨y, ?_⟩
    rw [show ((pre ++ [x]).length : Int) = (pre.length : Int) + 1 by simp, show (pre ++ [x]).length = pre.length + 1 by simp] at IH
    clear hs
    rw [atI]
    simp only [Tr.enc, List.map_cons, List.map_nil] at IH ⊢
    cases hx : (x == key)
    · simp only [cond_false]
      refine loop_eq Try.func38 rfl rfl ?_
      simp (disch := ((try simp only [List.length_cons, List.length_append, List.length_nil, List.length_map]); omega)) only [↓GO, ↓DRW, GA, ren, renB, footX, refs, cellsV, cst, cstAt, nilC, idxAddr, E.load, E.store, binO, isC, bin, ibin, sbin, una, isShift, okCell, packV, lenV, blt, fnV, asArg, snapV, snapS, snapP, snapC, snapX, flatV, flatT, openK, layBack, allT, allZ, mkS, srcOf0, unN, idxV, nilEq, give, tupV, mkEnv, extV, pickV, LVS, OVS, LTS, TYS, PMS, pmT, OWS, ownT, GHS, ghT, DMS, dmT, Int.reduceToNat, Nat.reduceGT, ↓reduceIte, Nat.reduceAdd, Nat.reduceMul, Nat.reduceSub, Nat.reduceEqDiff, Nat.reduceLeDiff, Nat.reduceLT, Nat.reduceBEq, Int.reduceBEq, Int.reduceBNe, Int.reduceEq, Int.reduceLT, Int.reduceLE, Int.reduceGT, Int.reduceNeg, reduceCtorEq, Int.cast_ofNat_Int, getE_zero, getE_one, getE_two, Option.isSome_none, c, c2, strs_len, Tr.encs_len, hk, hget, wrap_in, hx, IH]
    · simp only [cond_true, show decide (((pre.length : Nat) : Int) ≥ 0) = true by simp]
      refine loop_eq Try.func38 rfl rfl ?_
      simp (disch := ((try simp only [List.length_cons, List.length_append, List.length_nil, List.length_map]); omega)) only [↓GO, ↓DRW, GA, ren, renB, footX, refs, cellsV, cst, cstAt, nilC, idxAddr, E.load, E.store, binO, isC, bin, ibin, sbin, una, isShift, okCell, packV, lenV, blt, fnV, asArg, snapV, snapS, snapP, snapC, snapX, flatV, flatT, openK, layBack, allT, allZ, mkS, srcOf0, unN, idxV, nilEq, give, tupV, mkEnv, extV, pickV, LVS, OVS, LTS, TYS, PMS, pmT, OWS, ownT, GHS, ghT, DMS, dmT, Int.reduceToNat, Nat.reduceGT, ↓reduceIte, Nat.reduceAdd, Nat.reduceMul, Nat.reduceSub, Nat.reduceEqDiff, Nat.reduceLeDiff, Nat.reduceLT, Nat.reduceBEq, Int.reduceBEq, Int.reduceBNe, Int.reduceEq, Int.reduceLT, Int.reduceLE, Int.reduceGT, Int.reduceNeg, reduceCtorEq, Int.cast_ofNat_Int, getE_zero, getE_one, getE_two, Option.isSome_none, c, c2, strs_len, Tr.encs_len, hk, hget, wrap_in, hx]
theorem c_atR (key : Str) (k n : Int) (s : Str) (ks : List Str) (cs : List Tr) (hl : ks.length ≤ 1048576) (hl2 : cs.length ≤ 1048576) :
    callPure (EV Try.prog pol) 38 [.agg ((Tr.mk k n s ks cs).enc.map .t), .t (.str key)] = some (.t (.int .i64 (cond (k == 6) (atI key 0 ks cs.length) (-1)))) := by
  cases hk : (k == 6) with
  | false =>
    have L : EV Try.prog pol (.loop 38 26 0 [.t (.str key), .ptr 0 0 0, .t (.int .i64 0)] [.vs 5 [(Tr.mk k n s ks cs).enc.map .t]]) = some (.loop (.exit 0) [.bad] []) := by
      simp only [Tr.enc, List.map_cons, List.map_nil]
      refine loop_eq Try.func38 rfl rfl ?_
      cases c1 : decide ((0 : Int) < (ks.length : Int)) <;> cases c2 : decide ((0 : Int) < (cs.length : Int))
      all_goals
        simp (disch := ((try simp only [List.length_cons, List.length_append, List.length_nil, List.length_map]); omega)) only [↓GO, ↓DRW, GA, ren, renB, footX, refs, cellsV, cst, cstAt, nilC, idxAddr, E.load, E.store, binO, isC, bin, ibin, sbin, una, isShift, okCell, packV, lenV, blt, fnV, asArg, snapV, snapS, snapP, snapC, snapX, flatV, flatT, openK, layBack, allT, allZ, mkS, srcOf0, unN, idxV, nilEq, give, tupV, mkEnv, extV, pickV, LVS, OVS, LTS, TYS, PMS, pmT, OWS, ownT, GHS, ghT, DMS, dmT, Int.reduceToNat, Nat.reduceGT, ↓reduceIte, Nat.reduceAdd, Nat.reduceMul, Nat.reduceSub, Nat.reduceEqDiff, Nat.reduceLeDiff, Nat.reduceLT, Nat.reduceBEq, Int.reduceBEq, Int.reduceBNe, Int.reduceEq, Int.reduceLT, Int.reduceLE, Int.reduceGT, Int.reduceNeg, reduceCtorEq, Int.cast_ofNat_Int, getE_zero, getE_one, getE_two, Option.isSome_none, c1, c2, strs_len, Tr.encs_len, hk]
    simp only [Tr.enc, List.map_cons, List.map_nil, cond_false] at L ⊢
    apply eq_call
    refine call_eq rfl Try.func38 rfl (by kernel_rfl) ?_
    unfold Try.f38
    simp (disch := ((try simp only [List.length_cons, List.length_append, List.length_nil, List.length_map]); omega)) only [↓GO, ↓DRW, GA, ren, renB, footX, refs, cellsV, cst, cstAt, nilC, idxAddr, E.load, E.store, binO, isC, bin, ibin, sbin, una, isShift, okCell, packV, lenV, blt, fnV, asArg, snapV, snapS, snapP, snapC, snapX, flatV, flatT, openK, layBack, allT, allZ, mkS, srcOf0, unN, idxV, nilEq, give, tupV, mkEnv, extV, pickV, LVS, OVS, LTS, TYS, PMS, pmT, OWS, ownT, GHS, ghT, DMS, dmT, Int.reduceToNat, Nat.reduceGT, ↓reduceIte, Nat.reduceAdd, Nat.reduceMul, Nat.reduceSub, Nat.reduceEqDiff, Nat.reduceLeDiff, Nat.reduceLT, Nat.reduceBEq, Int.reduceBEq, Int.reduceBNe, Int.reduceEq, Int.reduceLT, Int.reduceLE, Int.reduceGT, Int.reduceNeg, reduceCtorEq, Int.cast_ofNat_Int, getE_zero, getE_one, getE_two, Option.isSome_none, L]
  | true =>
    obtain ⟨x, L⟩ := l_atR key k n s ks cs hl hl2 hk ks [] cs.length rfl (.inl rfl)
    have ha := at_ix key ks 0 cs.length
    have hr := ixS_rng key ks 0
    simp only [List.length_nil, Int.natCast_zero] at L
    simp only [Tr.enc, List.map_cons, List.map_nil, cond_true] at L ⊢
    cases hd : decide (atI key 0 ks cs.length ≥ 0) with
    | true =>
      rw [hd] at L
      simp only [cond_true] at L
      apply eq_call
      refine call_eq rfl Try.func38 rfl (by kernel_rfl) ?_
      unfold Try.f38
      simp (disch := ((try simp only [List.length_cons, List.length_append, List.length_nil, List.length_map]); omega)) only [↓GO, ↓DRW, GA, ren, renB, footX, refs, cellsV, cst, cstAt, nilC, idxAddr, E.load, E.store, binO, isC, bin, ibin, sbin, una, isShift, okCell, packV, lenV, blt, fnV, asArg, snapV, snapS, snapP, snapC, snapX, flatV, flatT, openK, layBack, allT, allZ, mkS, srcOf0, unN, idxV, nilEq, give, tupV, mkEnv, extV, pickV, LVS, OVS, LTS, TYS, PMS, pmT, OWS, ownT, GHS, ghT, DMS, dmT, Int.reduceToNat, Nat.reduceGT, ↓reduceIte, Nat.reduceAdd, Nat.reduceMul, Nat.reduceSub, Nat.reduceEqDiff, Nat.reduceLeDiff, Nat.reduceLT, Nat.reduceBEq, Int.reduceBEq, Int.reduceBNe, Int.reduceEq, Int.reduceLT, Int.reduceLE, Int.reduceGT, Int.reduceNeg, reduceCtorEq, Int.cast_ofNat_Int, getE_zero, getE_one, getE_two, Option.isSome_none, L]
    | false =>
      rw [hd] at L
      have h := of_decide_eq_false hd
      have e : atI key 0 ks cs.length = -1 := by
        rw [ha] at h ⊢
        generalize decide (ixS key 0 ks < ((0 + cs.length : Nat) : Int)) = b2 at *
        cases hb : decide (ixS key 0 ks ≥ 0) <;> cases b2 <;> rw [hb] at h <;> simp only [Bool.and_true, Bool.true_and, Bool.and_false, Bool.false_and, cond_true, cond_false] at h ⊢
        have := of_decide_eq_true hb
        omega
      rw [e]
      simp only [cond_false] at L
      apply eq_call
      refine call_eq rfl Try.func38 rfl (by kernel_rfl) ?_
      unfold Try.f38
      simp (disch := ((try simp only [List.length_cons, List.length_append, List.length_nil, List.length_map]); omega)) only [↓GO, ↓DRW, GA, ren, renB, footX, refs, cellsV, cst, cstAt, nilC, idxAddr, E.load, E.store, binO, isC, bin, ibin, sbin, una, isShift, okCell, packV, lenV, blt, fnV, asArg, snapV, snapS, snapP, snapC, snapX, flatV, flatT, openK, layBack, allT, allZ, mkS, srcOf0, unN, idxV, nilEq, give, tupV, mkEnv, extV, pickV, LVS, OVS, LTS, TYS, PMS, pmT, OWS, ownT, GHS, ghT, DMS, dmT, Int.reduceToNat, Nat.reduceGT, ↓reduceIte, Nat.reduceAdd, Nat.reduceMul, Nat.reduceSub, Nat.reduceEqDiff, Nat.reduceLeDiff, Nat.reduceLT, Nat.reduceBEq, Int.reduceBEq, Int.reduceBNe, Int.reduceEq, Int.reduceLT, Int.reduceLE, Int.reduceGT, Int.reduceNeg, reduceCtorEq, Int.cast_ofNat_Int, getE_zero, getE_one, getE_two, Option.isSome_none, L]
end Go.Proofs.Ytcphjdfmjhijkaa
/- What stands under a key, by both. Conditions: those of each lemma. -/
namespace Go.Proofs.Ytcphjdfmjhijkaa
open E
set_option linter.unusedSimpArgs false
set_option linter.unusedVariables false
set_option maxRecDepth 100000
def zt : Tr := .mk 0 0 [] [] []
def kidP (key : Str) (k : Int) (ks : List Str) (cs : List Tr) : Int := cond (k == 6) (atI key 0 ks cs.length) (-1)
theorem kidP_rng (key : Str) (k : Int) (ks : List Str) (cs : List Tr) : kidP key k ks cs = -1 ∨ ∃ i, kidP key k ks cs = (i : Nat) ∧ i < cs.length := by
  unfold kidP
  cases k == 6 with
  | false => exact .inl rfl
  | true =>
    rw [cond_true, at_ix key ks 0 cs.length]
    cases hb : (decide (ixS key 0 ks ≥ 0) && decide (ixS key 0 ks < ((0 + cs.length : Nat) : Int))) with
    | false => exact .inl rfl
    | true =>
      simp only [Bool.and_eq_true, decide_eq_true_eq] at hb
      rw [cond_true]
      exact .inr ⟨(ixS key 0 ks).toNat, by omega, by omega⟩
theorem enc_get (cs : List Tr) (i : Nat) (h : i < cs.length) : (Tr.encs cs)[i]? = some cs[i].enc := Tr.encs_get cs i h
theorem c_kidR_no (key : Str) (k n : Int) (s : Str) (ks : List Str) (cs : List Tr) (hl : ks.length ≤ 1048576) (hl2 : cs.length ≤ 1048576) (hp : kidP key k ks cs = -1) :
    callPure (EV Try.prog pol) 21 [.agg ((Tr.mk k n s ks cs).enc.map .t), .t (.str key)] = some (.tup [.agg (zt.enc.map .t), .t (.bool false)]) := by
  have h := c_atR key k n s ks cs hl hl2
  unfold kidP at hp
  rw [hp] at h
  simp only [Tr.enc, zt, strs, Tr.encs, List.map_cons, List.map_nil] at h ⊢
  apply eq_call
  refine call_eq rfl Try.func21 rfl (by kernel_rfl) ?_
  unfold Try.f21
  simp (disch := ((try simp only [List.length_cons, List.length_append, List.length_nil, List.length_map]); omega)) only [↓GO, ↓DRW, GA, ren, renB, footX, refs, cellsV, cst, cstAt, nilC, idxAddr, E.load, E.store, binO, isC, bin, ibin, sbin, una, isShift, okCell, packV, lenV, blt, fnV, asArg, snapV, snapS, snapP, snapC, snapX, flatV, flatT, openK, layBack, allT, allZ, mkS, srcOf0, unN, idxV, nilEq, give, tupV, mkEnv, extV, pickV, LVS, OVS, LTS, TYS, PMS, pmT, OWS, ownT, GHS, ghT, DMS, dmT, Int.reduceToNat, Nat.reduceGT, ↓reduceIte, Nat.reduceAdd, Nat.reduceMul, Nat.reduceSub, Nat.reduceEqDiff, Nat.reduceLeDiff, Nat.reduceLT, Nat.reduceBEq, Int.reduceBEq, Int.reduceBNe, Int.reduceEq, Int.reduceLT, Int.reduceLE, Int.reduceGT, Int.reduceNeg, reduceCtorEq, Int.cast_ofNat_Int, getE_zero, getE_one, getE_two, Option.isSome_none, h]
theorem c_kidR_yes (key : Str) (k n : Int) (s : Str) (ks : List Str) (cs : List Tr) (hl : ks.length ≤ 1048576) (hl2 : cs.length ≤ 1048576) (i : Nat) (hp : kidP key k ks cs = (i : Nat)) (c : Tr) (hc : (Tr.encs cs)[i]? = some c.enc) (hcp : CpR c) :
    callPure (EV Try.prog pol) 21 [.agg ((Tr.mk k n s ks cs).enc.map .t), .t (.str key)] = some (.tup [.agg (c.enc.map .t), .t (.bool true)]) := by
  have h := c_atR key k n s ks cs hl hl2
  unfold kidP at hp
  rw [hp] at h
  have c1 : decide (((i : Nat) : Int) < 0) = false := by apply decide_eq_false; omega
  obtain ⟨k1, n1, s1, ks1, cs1⟩ := c
  simp only [CpR, Tr.enc, List.map_cons, List.map_nil] at h hc hcp ⊢
  apply eq_call
  refine call_eq rfl Try.func21 rfl (by kernel_rfl) ?_
  unfold Try.f21
  simp (disch := ((try simp only [List.length_cons, List.length_append, List.length_nil, List.length_map]); omega)) only [↓GO, ↓DRW, GA, ren, renB, footX, refs, cellsV, cst, cstAt, nilC, idxAddr, E.load, E.store, binO, isC, bin, ibin, sbin, una, isShift, okCell, packV, lenV, blt, fnV, asArg, snapV, snapS, snapP, snapC, snapX, flatV, flatT, openK, layBack, allT, allZ, mkS, srcOf0, unN, idxV, nilEq, give, tupV, mkEnv, extV, pickV, LVS, OVS, LTS, TYS, PMS, pmT, OWS, ownT, GHS, ghT, DMS, dmT, Int.reduceToNat, Nat.reduceGT, ↓reduceIte, Nat.reduceAdd, Nat.reduceMul, Nat.reduceSub, Nat.reduceEqDiff, Nat.reduceLeDiff, Nat.reduceLT, Nat.reduceBEq, Int.reduceBEq, Int.reduceBNe, Int.reduceEq, Int.reduceLT, Int.reduceLE, Int.reduceGT, Int.reduceNeg, reduceCtorEq, Int.cast_ofNat_Int, getE_zero, getE_one, getE_two, Option.isSome_none, h, c1, hc, hcp]
theorem c_kidI_no (key : Str) (k n : Int) (s : Str) (ks : List Str) (cs : List Tr) (hl : ks.length ≤ 1048576) (hl2 : cs.length ≤ 1048576) (hp : kidP key k ks cs = -1) :
    EV Try.prog pol (.callO false 23 [.agg ((Tr.mk k n s ks cs).enc.map .t), .t (.str key)] []) = some (.call (.tup [.agg zV, .t (.bool false)]) []) := by
  have h := c_ix key ks hl
  unfold kidP at hp
  simp only [Tr.enc, zV, List.map_cons, List.map_nil]
  cases hk : (k == 6) with
  | false =>
    refine callO_eq Try.func23 rfl (by kernel_rfl) ?_
    unfold Try.f23
    simp (disch := ((try simp only [List.length_cons, List.length_append, List.length_nil, List.length_map]); omega)) only [↓GO, ↓DRW, GA, ren, renB, footX, refs, cellsV, cst, cstAt, nilC, idxAddr, E.load, E.store, binO, isC, bin, ibin, sbin, una, isShift, okCell, packV, lenV, blt, fnV, asArg, snapV, snapS, snapP, snapC, snapX, flatV, flatT, openK, layBack, allT, allZ, mkS, srcOf0, unN, idxV, nilEq, give, tupV, mkEnv, extV, pickV, LVS, OVS, LTS, TYS, PMS, pmT, OWS, ownT, GHS, ghT, DMS, dmT, Int.reduceToNat, Nat.reduceGT, ↓reduceIte, Nat.reduceAdd, Nat.reduceMul, Nat.reduceSub, Nat.reduceEqDiff, Nat.reduceLeDiff, Nat.reduceLT, Nat.reduceBEq, Int.reduceBEq, Int.reduceBNe, Int.reduceEq, Int.reduceLT, Int.reduceLE, Int.reduceGT, Int.reduceNeg, reduceCtorEq, selK_some, selK_none, bltO, brwK, brwA, brwB, sliceO, mkO, appO, ghOne, ghAt, ghCells, fld1, unf1, setC, oc, oTs, oT, rowT, rowT.rowTs, rowB, isL, Bool.not_false, Bool.true_and, Bool.and_true, Bool.and_self, List.flatMap_append, List.map_append, List.set_cons_zero, List.set_cons_succ, Int.cast_ofNat_Int, getE_zero, getE_one, getE_two, Option.isSome_none, hk, rch3]
  | true =>
    rw [hk, cond_true, at_ix key ks 0 cs.length, Nat.zero_add] at hp
    have hr := ixS_rng key ks 0
    generalize ixS key 0 ks = ix at *
    cases h1 : decide (ix ≥ 0) with
    | false =>
      refine callO_eq Try.func23 rfl (by kernel_rfl) ?_
      unfold Try.f23
      simp (disch := ((try simp only [List.length_cons, List.length_append, List.length_nil, List.length_map]); omega)) only [↓GO, ↓DRW, GA, ren, renB, footX, refs, cellsV, cst, cstAt, nilC, idxAddr, E.load, E.store, binO, isC, bin, ibin, sbin, una, isShift, okCell, packV, lenV, blt, fnV, asArg, snapV, snapS, snapP, snapC, snapX, flatV, flatT, openK, layBack, allT, allZ, mkS, srcOf0, unN, idxV, nilEq, give, tupV, mkEnv, extV, pickV, LVS, OVS, LTS, TYS, PMS, pmT, OWS, ownT, GHS, ghT, DMS, dmT, Int.reduceToNat, Nat.reduceGT, ↓reduceIte, Nat.reduceAdd, Nat.reduceMul, Nat.reduceSub, Nat.reduceEqDiff, Nat.reduceLeDiff, Nat.reduceLT, Nat.reduceBEq, Int.reduceBEq, Int.reduceBNe, Int.reduceEq, Int.reduceLT, Int.reduceLE, Int.reduceGT, Int.reduceNeg, reduceCtorEq, selK_some, selK_none, bltO, brwK, brwA, brwB, sliceO, mkO, appO, ghOne, ghAt, ghCells, fld1, unf1, setC, oc, oTs, oT, rowT, rowT.rowTs, rowB, isL, Bool.not_false, Bool.true_and, Bool.and_true, Bool.and_self, List.flatMap_append, List.map_append, List.set_cons_zero, List.set_cons_succ, Int.cast_ofNat_Int, getE_zero, getE_one, getE_two, Option.isSome_none, hk, h, h1, rch3]
    | true =>
      have h2 : decide (ix < (cs.length : Int)) = false := by
        rw [h1, Bool.true_and] at hp
        cases hd : decide (ix < (cs.length : Int)) with
        | false => rfl
        | true => rw [hd, cond_true] at hp; have := of_decide_eq_true h1; omega
      refine callO_eq Try.func23 rfl (by kernel_rfl) ?_
      unfold Try.f23
      simp (disch := ((try simp only [List.length_cons, List.length_append, List.length_nil, List.length_map]); omega)) only [↓GO, ↓DRW, GA, ren, renB, footX, refs, cellsV, cst, cstAt, nilC, idxAddr, E.load, E.store, binO, isC, bin, ibin, sbin, una, isShift, okCell, packV, lenV, blt, fnV, asArg, snapV, snapS, snapP, snapC, snapX, flatV, flatT, openK, layBack, allT, allZ, mkS, srcOf0, unN, idxV, nilEq, give, tupV, mkEnv, extV, pickV, LVS, OVS, LTS, TYS, PMS, pmT, OWS, ownT, GHS, ghT, DMS, dmT, Int.reduceToNat, Nat.reduceGT, ↓reduceIte, Nat.reduceAdd, Nat.reduceMul, Nat.reduceSub, Nat.reduceEqDiff, Nat.reduceLeDiff, Nat.reduceLT, Nat.reduceBEq, Int.reduceBEq, Int.reduceBNe, Int.reduceEq, Int.reduceLT, Int.reduceLE, Int.reduceGT, Int.reduceNeg, reduceCtorEq, selK_some, selK_none, bltO, brwK, brwA, brwB, sliceO, mkO, appO, ghOne, ghAt, ghCells, fld1, unf1, setC, oc, oTs, oT, rowT, rowT.rowTs, rowB, isL, Bool.not_false, Bool.true_and, Bool.and_true, Bool.and_self, List.flatMap_append, List.map_append, List.set_cons_zero, List.set_cons_succ, Int.cast_ofNat_Int, getE_zero, getE_one, getE_two, Option.isSome_none, hk, h, h1, h2, Tr.encs_len, rch3]
theorem c_kidI_yes (key : Str) (k n : Int) (s : Str) (ks : List Str) (cs : List Tr) (hl : ks.length ≤ 1048576) (hl2 : cs.length ≤ 1048576) (i : Nat) (hp : kidP key k ks cs = (i : Nat)) (k1 n1 : Int) (s1 : Str) (ks1 : List Str) (cs1 : List Tr)
    (hc : (Tr.encs cs)[i]? = some (Tr.mk k1 n1 s1 ks1 cs1).enc) (hcp : CpO (.mk k1 n1 s1 ks1 cs1)) :
    ∃ cap, EV Try.prog pol (.callO false 23 [.agg ((Tr.mk k n s ks cs).enc.map .t), .t (.str key)] []) = some (.call (.tup [.agg [.t (.int .i64 k1), .t (.int .i64 n1), .t (.str s1), .sl 0 0 ks1.length none, .sl 1 0 cs1.length cap], .t (.bool true)]) [.ts 1 (strs ks1), .vs 5 (ocE (Tr.encs cs1))]) := by
  have h := c_ix key ks hl
  obtain ⟨cap, hcp⟩ := hcp
  refine ⟨cap, ?_⟩
  unfold kidP at hp
  cases hk : (k == 6) with
  | false => rw [hk, cond_false] at hp; omega
  | true =>
    rw [hk, cond_true, at_ix key ks 0 cs.length, Nat.zero_add] at hp
    generalize ixS key 0 ks = ix at *
    cases hb : (decide (ix ≥ 0) && decide (ix < (cs.length : Int))) with
    | false => rw [hb, cond_false] at hp; omega
    | true =>
      rw [hb, cond_true] at hp
      subst hp
      rw [Bool.and_eq_true] at hb
      obtain ⟨h1, h2⟩ := hb
      simp only [Tr.enc, List.map_cons, List.map_nil] at hc hcp ⊢
      refine callO_eq Try.func23 rfl (by kernel_rfl) ?_
      unfold Try.f23
      simp (disch := ((try simp only [List.length_cons, List.length_append, List.length_nil, List.length_map]); omega)) only [↓GO, ↓DRW, GA, ren, renB, footX, refs, cellsV, cst, cstAt, nilC, idxAddr, E.load, E.store, binO, isC, bin, ibin, sbin, una, isShift, okCell, packV, lenV, blt, fnV, asArg, snapV, snapS, snapP, snapC, snapX, flatV, flatT, openK, layBack, allT, allZ, mkS, srcOf0, unN, idxV, nilEq, give, tupV, mkEnv, extV, pickV, LVS, OVS, LTS, TYS, PMS, pmT, OWS, ownT, GHS, ghT, DMS, dmT, Int.reduceToNat, Nat.reduceGT, ↓reduceIte, Nat.reduceAdd, Nat.reduceMul, Nat.reduceSub, Nat.reduceEqDiff, Nat.reduceLeDiff, Nat.reduceLT, Nat.reduceBEq, Int.reduceBEq, Int.reduceBNe, Int.reduceEq, Int.reduceLT, Int.reduceLE, Int.reduceGT, Int.reduceNeg, reduceCtorEq, selK_some, selK_none, bltO, brwK, brwA, brwB, sliceO, mkO, appO, ghOne, ghAt, ghCells, fld1, unf1, setC, oc, oTs, oT, rowT, rowT.rowTs, rowB, isL, Bool.not_false, Bool.true_and, Bool.and_true, Bool.and_self, List.flatMap_append, List.map_append, List.set_cons_zero, List.set_cons_succ, Int.cast_ofNat_Int, getE_zero, getE_one, getE_two, Option.isSome_none, hk, h, h1, h2, Tr.encs_len, hc, hcp, ocE_ren, ocE_refs, rch3]
theorem rowB_tr : ∀ cs : List Tr, ((ocE (Tr.encs cs)).all fun c => rowT.rowTs c) = true
  | [] => rfl
  | .mk k n s ks cs' :: cs => by
    rw [show ocE (Tr.encs (.mk k n s ks cs' :: cs)) = (Tr.mk k n s ks cs').enc.map oc :: ocE (Tr.encs cs) from rfl, List.all_cons, rowB_tr cs]
    rfl
theorem c_markSn (k : Int) : EV Try.prog pol (.callO false 16 [.nil 1, .t (.int .i64 k)] []) = some (.call (.t (.int .i64 k)) []) := by
  have L : EV Try.prog pol (.loop 16 26 0 [.nil 1, .t (.int .i64 k), .t (.int .i64 0)] []) = some (.loop (.exit 0) [.t (.int .i64 k)] []) := by
    refine loop_eq Try.func16 rfl rfl ?_
    simp (disch := ((try simp only [List.length_cons, List.length_append, List.length_nil, List.length_map]); omega)) only [↓GO, ↓DRW, GA, ren, renB, footX, refs, cellsV, cst, cstAt, nilC, idxAddr, E.load, E.store, binO, isC, bin, ibin, sbin, una, isShift, okCell, packV, lenV, blt, fnV, asArg, snapV, snapS, snapP, snapC, snapX, flatV, flatT, openK, layBack, allT, allZ, mkS, srcOf0, unN, idxV, nilEq, give, tupV, mkEnv, extV, pickV, LVS, OVS, LTS, TYS, PMS, pmT, OWS, ownT, GHS, ghT, DMS, dmT, Int.reduceToNat, Nat.reduceGT, ↓reduceIte, Nat.reduceAdd, Nat.reduceMul, Nat.reduceSub, Nat.reduceEqDiff, Nat.reduceLeDiff, Nat.reduceLT, Nat.reduceBEq, Int.reduceBEq, Int.reduceBNe, Int.reduceEq, Int.reduceLT, Int.reduceLE, Int.reduceGT, Int.reduceNeg, reduceCtorEq, Int.cast_ofNat_Int, getE_zero, getE_one, getE_two, Option.isSome_none, Int.natCast_zero]
  refine callO_eq Try.func16 rfl (by kernel_rfl) ?_
  unfold Try.f16
  simp (disch := ((try simp only [List.length_cons, List.length_append, List.length_nil, List.length_map]); omega)) only [↓GO, ↓DRW, GA, ren, renB, footX, refs, cellsV, cst, cstAt, nilC, idxAddr, E.load, E.store, binO, isC, bin, ibin, sbin, una, isShift, okCell, packV, lenV, blt, fnV, asArg, snapV, snapS, snapP, snapC, snapX, flatV, flatT, openK, layBack, allT, allZ, mkS, srcOf0, unN, idxV, nilEq, give, tupV, mkEnv, extV, pickV, LVS, OVS, LTS, TYS, PMS, pmT, OWS, ownT, GHS, ghT, DMS, dmT, Int.reduceToNat, Nat.reduceGT, ↓reduceIte, Nat.reduceAdd, Nat.reduceMul, Nat.reduceSub, Nat.reduceEqDiff, Nat.reduceLeDiff, Nat.reduceLT, Nat.reduceBEq, Int.reduceBEq, Int.reduceBNe, Int.reduceEq, Int.reduceLT, Int.reduceLE, Int.reduceGT, Int.reduceNeg, reduceCtorEq, Int.cast_ofNat_Int, getE_zero, getE_one, getE_two, Option.isSome_none, L]
theorem c_markTn (k : Int) : EV Try.prog pol (.callO false 17 [.nil 5, .t (.int .i64 k)] []) = some (.call (.t (.int .i64 k)) []) := by
  have L : EV Try.prog pol (.loop 17 26 0 [.nil 5, .t (.int .i64 k), .t (.int .i64 0)] []) = some (.loop (.exit 0) [.t (.int .i64 k)] []) := by
    refine loop_eq Try.func17 rfl rfl ?_
    simp (disch := ((try simp only [List.length_cons, List.length_append, List.length_nil, List.length_map]); omega)) only [↓GO, ↓DRW, GA, ren, renB, footX, refs, cellsV, cst, cstAt, nilC, idxAddr, E.load, E.store, binO, isC, bin, ibin, sbin, una, isShift, okCell, packV, lenV, blt, fnV, asArg, snapV, snapS, snapP, snapC, snapX, flatV, flatT, openK, layBack, allT, allZ, mkS, srcOf0, unN, idxV, nilEq, give, tupV, mkEnv, extV, pickV, LVS, OVS, LTS, TYS, PMS, pmT, OWS, ownT, GHS, ghT, DMS, dmT, Int.reduceToNat, Nat.reduceGT, ↓reduceIte, Nat.reduceAdd, Nat.reduceMul, Nat.reduceSub, Nat.reduceEqDiff, Nat.reduceLeDiff, Nat.reduceLT, Nat.reduceBEq, Int.reduceBEq, Int.reduceBNe, Int.reduceEq, Int.reduceLT, Int.reduceLE, Int.reduceGT, Int.reduceNeg, reduceCtorEq, selK_some, selK_none, bltO, brwK, brwA, brwB, sliceO, mkO, appO, ghOne, ghAt, ghCells, fld1, unf1, setC, oc, oTs, oT, rowT, rowT.rowTs, rowB, isL, Bool.not_false, Bool.true_and, Bool.and_true, Bool.and_self, List.flatMap_append, List.map_append, List.set_cons_zero, List.set_cons_succ, Int.cast_ofNat_Int, getE_zero, getE_one, getE_two, Option.isSome_none, Int.natCast_zero]
  refine callO_eq Try.func17 rfl (by kernel_rfl) ?_
  unfold Try.f17
  simp (disch := ((try simp only [List.length_cons, List.length_append, List.length_nil, List.length_map]); omega)) only [↓GO, ↓DRW, GA, ren, renB, footX, refs, cellsV, cst, cstAt, nilC, idxAddr, E.load, E.store, binO, isC, bin, ibin, sbin, una, isShift, okCell, packV, lenV, blt, fnV, asArg, snapV, snapS, snapP, snapC, snapX, flatV, flatT, openK, layBack, allT, allZ, mkS, srcOf0, unN, idxV, nilEq, give, tupV, mkEnv, extV, pickV, LVS, OVS, LTS, TYS, PMS, pmT, OWS, ownT, GHS, ghT, DMS, dmT, Int.reduceToNat, Nat.reduceGT, ↓reduceIte, Nat.reduceAdd, Nat.reduceMul, Nat.reduceSub, Nat.reduceEqDiff, Nat.reduceLeDiff, Nat.reduceLT, Nat.reduceBEq, Int.reduceBEq, Int.reduceBNe, Int.reduceEq, Int.reduceLT, Int.reduceLE, Int.reduceGT, Int.reduceNeg, reduceCtorEq, selK_some, selK_none, bltO, brwK, brwA, brwB, sliceO, mkO, appO, ghOne, ghAt, ghCells, fld1, unf1, setC, oc, oTs, oT, rowT, rowT.rowTs, rowB, isL, Bool.not_false, Bool.true_and, Bool.and_true, Bool.and_self, List.flatMap_append, List.map_append, List.set_cons_zero, List.set_cons_succ, Int.cast_ofNat_Int, getE_zero, getE_one, getE_two, Option.isSome_none, L]
theorem c_markZ (k : Int) : EV Try.prog pol (.callO false 18 [.agg zV, .t (.int .i64 k)] []) = some (.call (.t (.int .i64 k)) []) := by
  have d1 := c_markSn k
  have d2 := c_markTn k
  unfold zV
  refine callO_eq Try.func18 rfl (by kernel_rfl) ?_
  unfold Try.f18
  simp (disch := ((try simp only [List.length_cons, List.length_append, List.length_nil, List.length_map]); omega)) only [↓GO, ↓DRW, GA, ren, renB, footX, refs, cellsV, cst, cstAt, nilC, idxAddr, E.load, E.store, binO, isC, bin, ibin, sbin, una, isShift, okCell, packV, lenV, blt, fnV, asArg, snapV, snapS, snapP, snapC, snapX, flatV, flatT, openK, layBack, allT, allZ, mkS, srcOf0, unN, idxV, nilEq, give, tupV, mkEnv, extV, pickV, LVS, OVS, LTS, TYS, PMS, pmT, OWS, ownT, GHS, ghT, DMS, dmT, Int.reduceToNat, Nat.reduceGT, ↓reduceIte, Nat.reduceAdd, Nat.reduceMul, Nat.reduceSub, Nat.reduceEqDiff, Nat.reduceLeDiff, Nat.reduceLT, Nat.reduceBEq, Int.reduceBEq, Int.reduceBNe, Int.reduceEq, Int.reduceLT, Int.reduceLE, Int.reduceGT, Int.reduceNeg, reduceCtorEq, selK_some, selK_none, bltO, brwK, brwA, brwB, sliceO, mkO, appO, ghOne, ghAt, ghCells, fld1, unf1, setC, oc, oTs, oT, rowT, rowT.rowTs, rowB, isL, Bool.not_false, Bool.true_and, Bool.and_true, Bool.and_self, List.flatMap_append, List.map_append, List.set_cons_zero, List.set_cons_succ, Int.cast_ofNat_Int, getE_zero, getE_one, getE_two, Option.isSome_none, d1, d2, rch3]
end Go.Proofs.Ytcphjdfmjhijkaa
/- The law of Kid. Conditions: those of each lemma. -/
namespace Go.Proofs.Ytcphjdfmjhijkaa
open E
set_option linter.unusedSimpArgs false
set_option linter.unusedVariables false
set_option maxRecDepth 100000
mutual
theorem Tr.nd_leM : ∀ t : Tr, t.nd ≤ t.bulk + 1
  | .mk k n s ks cs => by
    have := Tr.nds_leM cs
    simp only [Tr.nd, Tr.bulk]; omega
theorem Tr.nds_leM : ∀ cs : List Tr, Tr.nds cs ≤ Tr.bulks cs + cs.length
  | [] => by simp [Tr.nds]
  | c :: cs => by
    have h1 := Tr.nd_leM c
    have h2 := Tr.nds_leM cs
    simp only [Tr.nds, Tr.bulks, List.length_cons]; omega
end
theorem cnts_small (cs : List Tr) (h : cs.length + Tr.bulks cs ≤ 1048576) : cntTs cs ≤ 8388608 := by
  have h1 := cnts_le cs
  have h2 := Tr.nds_leM cs
  omega
theorem take_strs (ks : List Str) (n : Nat) (h : n = ks.length) : (strs ks).take n = strs ks := List.take_of_length_le (by rw [strs_len]; omega)
theorem take_oc (cs : List Tr) (n : Nat) (h : n = cs.length) : (ocE (Tr.encs cs)).take n = ocE (Tr.encs cs) := List.take_of_length_le (by rw [ocE_len, Tr.encs_len]; omega)
set_option maxHeartbeats 8000000 in
theorem c_lawKid_yes (key : Str) (k n : Int) (s : Str) (ks : List Str) (cs : List Tr) (hkey : key.length ≤ 1048576) (ho : (Tr.mk k n s ks cs).ok) (hb : (Tr.mk k n s ks cs).bulk ≤ 1048576) (i : Nat) (hp : kidP key k ks cs = (i : Nat)) (k1 n1 : Int) (s1 : Str) (ks1 : List Str) (cs1 : List Tr)
    (hc : (Tr.encs cs)[i]? = some (Tr.mk k1 n1 s1 ks1 cs1).enc) (hmem : Tr.mk k1 n1 s1 ks1 cs1 ∈ cs) :
    EV Try.prog pol (.call 4 [.agg ((Tr.mk k n s ks cs).enc.map .t), .t (.str key)] []) = some (.call (.t (.bool true)) []) := by
  have hsz := c_szTree _ (Tr.mk k n s ks cs) (Nat.le_refl _) ho 1048576 (by omega) (by omega)
  rw [left_eq (by omega)] at hsz
  have c2 : decide (1048576 - ((Tr.mk k n s ks cs).bulk : Int) < 0) = false := by simp; omega
  have c1 : decide ((key.length : Int) > 1048576) = false := by apply decide_eq_false; omega
  have hto := c_toF (Tr.mk k n s ks cs) hb
  have htO := c_toO _ (Tr.mk k n s ks cs) (Nat.le_refl _) hb
  have heqT := c_eqTree _ (Tr.mk k n s ks cs) (Nat.le_refl _) (Nat.le_trans hb (by decide))
  have hbm := Tr.bulks_mem hmem
  simp only [Tr.bulk] at hb hbm
  have hbc : (Tr.mk k1 n1 s1 ks1 cs1).bulk ≤ 1048576 := by simp only [Tr.bulk]; omega
  have heqC := c_eqTree _ (Tr.mk k1 n1 s1 ks1 cs1) (Nat.le_refl _) (Nat.le_trans hbc (by decide))
  have hR := c_kidR_yes key k n s ks cs (by omega) (by omega) i hp _ hc (c_cpR _ _ (Nat.le_refl _) hbc)
  obtain ⟨cap, hI⟩ := c_kidI_yes key k n s ks cs (by omega) (by omega) i hp k1 n1 s1 ks1 cs1 hc (c_cpO _ _ (Nat.le_refl _) hbc)
  have hcn := cnts_small cs (by omega)
  have hcn1 := cnts_small cs1 (by omega)
  have hM0 := c_markT (.t (.int .i64 k)) (.t (.int .i64 n)) (.t (.str s)) ks cs (by omega) (by omega) ks.length cs.length rfl rfl (some ks.length) (some cs.length) 1 (by omega) k n s rfl rfl rfl
  have hM1 := c_markT (.t (.int .i64 k1)) (.t (.int .i64 n1)) (.t (.str s1)) ks1 cs1 (by omega) (by omega) ks1.length cs1.length rfl rfl none cap 1 (by omega) k1 n1 s1 rfl rfl rfl
  have hH := c_heldT k1 n1 s1 ks1 cs1 (by omega) (by omega) 1 (by omega)
  rw [show ((1 : Nat) : Int) = 1 from rfl] at hM0 hM1 hH
  have g1 : decide (((1 + ks.length + cntTs cs : Nat) : Int) < 0) = false := by apply decide_eq_false; omega
  have g2 : decide (((1 + ks1.length + cntTs cs1 : Nat) : Int) < 0) = false := by apply decide_eq_false; omega
  have t1 := take_strs ks ks.length rfl
  have t2 := take_oc cs cs.length rfl
  have t3 := take_strs ks1 ks1.length rfl
  have t4 := take_oc cs1 cs1.length rfl
  have t5 := take_strs (mkS ks1.length 1) ks1.length (mkS_len _ _).symm
  have t6 := take_oc (mkTrs (1 + ks1.length) cs1) cs1.length (mkTrs_len _ _).symm
  have f1 := flatE_strs ks1
  have f2 := rowB_tr cs1
  unfold EqT at heqT heqC
  unfold ToO at htO
  clear hc hmem hp
  generalize (Tr.mk k n s ks cs).bulk = bt at *
  simp only [Tr.enc, List.map_cons, List.map_nil] at hsz hto htO heqT heqC hR hI hM0 hM1 hH ⊢
  generalize cntTs cs = n0 at *
  generalize cntTs cs1 = n2 at *
  generalize mkTrs (1 + ks1.length) cs1 = mc1 at *
  generalize mkS ks1.length 1 = ms1 at *
  generalize mkTrs (1 + ks.length) cs = mc at *
  generalize mkS ks.length 1 = ms at *
  refine call_eq rfl Try.func4 rfl (by kernel_rfl) ?_
  unfold Try.f4
  simp (disch := ((try simp only [List.length_cons, List.length_append, List.length_nil, List.length_map]); omega)) only [↓GO, ↓DRW, GA, ren, renB, footX, refs, cellsV, cst, cstAt, nilC, idxAddr, E.load, E.store, binO, isC, bin, ibin, sbin, una, isShift, okCell, packV, lenV, blt, fnV, asArg, snapV, snapS, snapP, snapC, snapX, flatV, flatT, openK, layBack, allT, allZ, mkS, srcOf0, unN, idxV, nilEq, give, tupV, mkEnv, extV, pickV, LVS, OVS, LTS, TYS, PMS, pmT, OWS, ownT, GHS, ghT, DMS, dmT, Int.reduceToNat, Nat.reduceGT, ↓reduceIte, Nat.reduceAdd, Nat.reduceMul, Nat.reduceSub, Nat.reduceEqDiff, Nat.reduceLeDiff, Nat.reduceLT, Nat.reduceBEq, Int.reduceBEq, Int.reduceBNe, Int.reduceEq, Int.reduceLT, Int.reduceLE, Int.reduceGT, Int.reduceNeg, reduceCtorEq, selK_some, selK_none, bltO, brwK, brwA, brwB, sliceO, mkO, appO, ghOne, ghAt, ghCells, fld1, unf1, setC, oc, oTs, oT, rowT, rowT.rowTs, rowB, isL, Bool.not_false, Bool.true_and, Bool.and_true, Bool.and_self, List.flatMap_append, List.map_append, List.set_cons_zero, List.set_cons_succ, Int.cast_ofNat_Int, getE_zero, getE_one, getE_two, Option.isSome_none, c1, hsz, c2, hto, htO, heqT, heqC, hR, hI, hM0, hM1, hH, g1, g2, t1, t2, t3, t4, t5, t6, f1, f2, List.drop_zero, snapE_oc, ocE_ren, ocE_refs, bne_self_eq_false, rch3]
set_option maxHeartbeats 8000000 in
theorem c_lawKid_no (key : Str) (k n : Int) (s : Str) (ks : List Str) (cs : List Tr) (hkey : key.length ≤ 1048576) (ho : (Tr.mk k n s ks cs).ok) (hb : (Tr.mk k n s ks cs).bulk ≤ 1048576) (hp : kidP key k ks cs = -1) :
    EV Try.prog pol (.call 4 [.agg ((Tr.mk k n s ks cs).enc.map .t), .t (.str key)] []) = some (.call (.t (.bool true)) []) := by
  have hsz := c_szTree _ (Tr.mk k n s ks cs) (Nat.le_refl _) ho 1048576 (by omega) (by omega)
  rw [left_eq (by omega)] at hsz
  have c2 : decide (1048576 - ((Tr.mk k n s ks cs).bulk : Int) < 0) = false := by simp; omega
  have c1 : decide ((key.length : Int) > 1048576) = false := by apply decide_eq_false; omega
  have hto := c_toF (Tr.mk k n s ks cs) hb
  have htO := c_toO _ (Tr.mk k n s ks cs) (Nat.le_refl _) hb
  have heqT := c_eqTree _ (Tr.mk k n s ks cs) (Nat.le_refl _) (Nat.le_trans hb (by decide))
  simp only [Tr.bulk] at hb
  have heqC := c_eqTree _ zt (Nat.le_refl _) (by decide)
  have hR := c_kidR_no key k n s ks cs (by omega) (by omega) hp
  have hI := c_kidI_no key k n s ks cs (by omega) (by omega) hp
  have hcn := cnts_small cs (by omega)
  have hM0 := c_markT (.t (.int .i64 k)) (.t (.int .i64 n)) (.t (.str s)) ks cs (by omega) (by omega) ks.length cs.length rfl rfl (some ks.length) (some cs.length) 1 (by omega) k n s rfl rfl rfl
  have hM1 := c_markZ 1
  have hH : callPure (EV Try.prog pol) 19 [.agg [.t (.int .i64 0), .t (.int .i64 0), .t (.str []), .t (.list 1 []), .t (.list 5 [])], .t (.int .i64 1)] = some (.t (.int .i64 1)) := c_heldT 0 0 [] [] [] (by simp) (by simp [Tr.bulks]) 1 (by simp [cntTs])
  rw [show ((1 : Nat) : Int) = 1 from rfl] at hM0
  have g1 : decide (((1 + ks.length + cntTs cs : Nat) : Int) < 0) = false := by apply decide_eq_false; omega
  have t1 := take_strs ks ks.length rfl
  have t2 := take_oc cs cs.length rfl
  unfold EqT at heqT heqC
  unfold ToO at htO
  unfold zV at hI hM1
  clear hp
  generalize (Tr.mk k n s ks cs).bulk = bt at *
  simp only [Tr.enc, zt, strs, Tr.encs, List.map_cons, List.map_nil] at hsz hto htO heqT heqC hR hI hM0 hM1 hH t1 ⊢
  generalize cntTs cs = n0 at *
  generalize mkTrs (1 + ks.length) cs = mc at *
  generalize mkS ks.length 1 = ms at *
  refine call_eq rfl Try.func4 rfl (by kernel_rfl) ?_
  unfold Try.f4
  simp (disch := ((try simp only [List.length_cons, List.length_append, List.length_nil, List.length_map]); omega)) only [↓GO, ↓DRW, GA, ren, renB, footX, refs, cellsV, cst, cstAt, nilC, idxAddr, E.load, E.store, binO, isC, bin, ibin, sbin, una, isShift, okCell, packV, lenV, blt, fnV, asArg, snapV, snapS, snapP, snapC, snapX, flatV, flatT, openK, layBack, allT, allZ, mkS, srcOf0, unN, idxV, nilEq, give, tupV, mkEnv, extV, pickV, LVS, OVS, LTS, TYS, PMS, pmT, OWS, ownT, GHS, ghT, DMS, dmT, Int.reduceToNat, Nat.reduceGT, ↓reduceIte, Nat.reduceAdd, Nat.reduceMul, Nat.reduceSub, Nat.reduceEqDiff, Nat.reduceLeDiff, Nat.reduceLT, Nat.reduceBEq, Int.reduceBEq, Int.reduceBNe, Int.reduceEq, Int.reduceLT, Int.reduceLE, Int.reduceGT, Int.reduceNeg, reduceCtorEq, selK_some, selK_none, bltO, brwK, brwA, brwB, sliceO, mkO, appO, ghOne, ghAt, ghCells, fld1, unf1, setC, oc, oTs, oT, rowT, rowT.rowTs, rowB, isL, Bool.not_false, Bool.true_and, Bool.and_true, Bool.and_self, List.flatMap_append, List.map_append, List.set_cons_zero, List.set_cons_succ, Int.cast_ofNat_Int, getE_zero, getE_one, getE_two, Option.isSome_none, c1, hsz, c2, hto, htO, heqT, heqC, hR, hI, hM0, hM1, hH, g1, t1, t2, List.drop_zero, snapE_oc, ocE_ren, ocE_refs, bne_self_eq_false, rch3]
theorem c_lawKid (t : Tr) (key : Str) (ho : t.ok) (hko : key.length ≤ 9223372036854775807) : EV Try.prog pol (.call 4 [.agg (t.enc.map .t), .t (.str key)] []) = some (.call (.t (.bool true)) []) := by
  obtain ⟨k, n, s, ks, cs⟩ := t
  by_cases hkey : key.length ≤ 1048576
  · by_cases hb : (Tr.mk k n s ks cs).bulk ≤ 1048576
    · rcases kidP_rng key k ks cs with hp | ⟨i, hp, hi⟩
      · exact c_lawKid_no key k n s ks cs hkey ho hb hp
      · have hc := Tr.encs_get cs i hi
        have hm : cs[i] ∈ cs := List.getElem_mem hi
        generalize cs[i] = c at hc hm
        obtain ⟨k1, n1, s1, ks1, cs1⟩ := c
        exact c_lawKid_yes key k n s ks cs hkey ho hb i hp k1 n1 s1 ks1 cs1 hc hm
    · have hsz := c_szTree _ (Tr.mk k n s ks cs) (Nat.le_refl _) ho 1048576 (by omega) (by omega)
      have hle : left 1048576 (Tr.mk k n s ks cs).bulk = -1 := if_pos (by omega)
      have c1 : decide ((key.length : Int) > 1048576) = false := by apply decide_eq_false; omega
      rw [hle] at hsz
      clear hb hle ho
      simp only [Tr.enc, List.map_cons, List.map_nil] at hsz ⊢
      refine call_eq rfl Try.func4 rfl (by kernel_rfl) ?_
      unfold Try.f4
      simp (disch := ((try simp only [List.length_cons, List.length_append, List.length_nil, List.length_map]); omega)) only [↓GO, ↓DRW, GA, ren, renB, footX, refs, cellsV, cst, cstAt, nilC, idxAddr, E.load, E.store, binO, isC, bin, ibin, sbin, una, isShift, okCell, packV, lenV, blt, fnV, asArg, snapV, snapS, snapP, snapC, snapX, flatV, flatT, openK, layBack, allT, allZ, mkS, srcOf0, unN, idxV, nilEq, give, tupV, mkEnv, extV, pickV, LVS, OVS, LTS, TYS, PMS, pmT, OWS, ownT, GHS, ghT, DMS, dmT, Int.reduceToNat, Nat.reduceGT, ↓reduceIte, Nat.reduceAdd, Nat.reduceMul, Nat.reduceSub, Nat.reduceEqDiff, Nat.reduceLeDiff, Nat.reduceLT, Nat.reduceBEq, Int.reduceBEq, Int.reduceBNe, Int.reduceEq, Int.reduceLT, Int.reduceLE, Int.reduceGT, Int.reduceNeg, reduceCtorEq, selK_some, selK_none, bltO, brwK, brwA, brwB, sliceO, mkO, appO, ghOne, ghAt, ghCells, fld1, unf1, setC, oc, oTs, oT, rowT, rowT.rowTs, rowB, isL, Bool.not_false, Bool.true_and, Bool.and_true, Bool.and_self, List.flatMap_append, List.map_append, List.set_cons_zero, List.set_cons_succ, Int.cast_ofNat_Int, getE_zero, getE_one, getE_two, Option.isSome_none, c1, hsz]
  · have c1 : decide ((key.length : Int) > 1048576) = true := by apply decide_eq_true; omega
    simp only [Tr.enc, List.map_cons, List.map_nil]
    refine call_eq rfl Try.func4 rfl (by kernel_rfl) ?_
    unfold Try.f4
    simp (disch := ((try simp only [List.length_cons, List.length_append, List.length_nil, List.length_map]); omega)) only [↓GO, ↓DRW, GA, ren, renB, footX, refs, cellsV, cst, cstAt, nilC, idxAddr, E.load, E.store, binO, isC, bin, ibin, sbin, una, isShift, okCell, packV, lenV, blt, fnV, asArg, snapV, snapS, snapP, snapC, snapX, flatV, flatT, openK, layBack, allT, allZ, mkS, srcOf0, unN, idxV, nilEq, give, tupV, mkEnv, extV, pickV, LVS, OVS, LTS, TYS, PMS, pmT, OWS, ownT, GHS, ghT, DMS, dmT, Int.reduceToNat, Nat.reduceGT, ↓reduceIte, Nat.reduceAdd, Nat.reduceMul, Nat.reduceSub, Nat.reduceEqDiff, Nat.reduceLeDiff, Nat.reduceLT, Nat.reduceBEq, Int.reduceBEq, Int.reduceBNe, Int.reduceEq, Int.reduceLT, Int.reduceLE, Int.reduceGT, Int.reduceNeg, reduceCtorEq, selK_some, selK_none, bltO, brwK, brwA, brwB, sliceO, mkO, appO, ghOne, ghAt, ghCells, fld1, unf1, setC, oc, oTs, oT, rowT, rowT.rowTs, rowB, isL, Bool.not_false, Bool.true_and, Bool.and_true, Bool.and_self, List.flatMap_append, List.map_append, List.set_cons_zero, List.set_cons_succ, Int.cast_ofNat_Int, getE_zero, getE_one, getE_two, Option.isSome_none, c1]
end Go.Proofs.Ytcphjdfmjhijkaa
/- Maps by both. Conditions: those of each lemma. -/
namespace Go.Proofs.Ytcphjdfmjhijkaa
open E
set_option linter.unusedSimpArgs false
set_option linter.unusedVariables false
set_option maxRecDepth 100000
theorem strs_app (a b : List Str) : strs (a ++ b) = strs a ++ strs b := by simp [strs]
theorem strs_snoc (a : List Str) (x : Str) : strs (a ++ [x]) = strs a ++ [[.str x]] := by simp [strs]
theorem l_mapsR (ks : List Str) (cs : List Tr) (hk : ks.length ≤ 1048576) (hl : cs.length ≤ 1048576) (hc : ∀ c ∈ cs, CpR c) (n : Nat) (hn : n = min ks.length cs.length) : ∀ (rk : List Str) (rc : List Tr) (pk : List Str) (pc : List Tr) (m : Nat),
    ks = pk ++ rk → cs = pc ++ rc → m = pk.length → m = pc.length →
    EV Try.prog pol (.loop 9 58 0 [.t (.list 1 (strs ks)), .t (.list 5 (Tr.encs cs)), .ptr 0 0 0, .ptr 1 0 0, .t (.int .i64 (m : Int))] [.vs 5 [zV], .vs 5 [[.t (.int .i64 6), .t (.int .i64 0), .t (.str []), .sl 2 0 m none, .sl 3 0 m none]], .ts 1 (strs pk), .ts 5 (Tr.encs pc)])
      = some (.loop (.exit 0) [.ptr 0 0 0, .ptr 1 0 0] [.vs 5 [zV], .vs 5 [[.t (.int .i64 6), .t (.int .i64 0), .t (.str []), .sl 2 0 n none, .sl 3 0 n none]], .ts 1 (strs (ks.take n)), .ts 5 (Tr.encs (cs.take n))])
  | [], rc, pk, pc, m, e1, e2, h1, h2 => by
    have k1 : ks.length = m := by rw [e1, h1]; simp
    have k2 : m ≤ cs.length := by rw [e2, h2]; simp
    have en : n = m := by omega
    have t1 : ks.take n = pk := by rw [en, e1, h1]; simp
    have t2 : cs.take n = pc := by rw [en, e2, h2]; simp
    have c : decide ((m : Int) < (ks.length : Int)) = false := by apply decide_eq_false; omega
    rw [t1, t2, en]
    simp only [zV]
    refine loop_eq Try.func9 rfl rfl ?_
    simp (disch := ((try simp only [List.length_cons, List.length_append, List.length_nil, List.length_map]); omega)) only [↓GO, ↓DRW, GA, ren, renB, footX, refs, cellsV, cst, cstAt, nilC, idxAddr, E.load, E.store, binO, isC, bin, ibin, sbin, una, isShift, okCell, packV, lenV, blt, fnV, asArg, snapV, snapS, snapP, snapC, snapX, flatV, flatT, openK, layBack, allT, allZ, mkS, srcOf0, unN, idxV, nilEq, give, tupV, mkEnv, extV, pickV, LVS, OVS, LTS, TYS, PMS, pmT, OWS, ownT, GHS, ghT, DMS, dmT, Int.reduceToNat, Nat.reduceGT, ↓reduceIte, Nat.reduceAdd, Nat.reduceMul, Nat.reduceSub, Nat.reduceEqDiff, Nat.reduceLeDiff, Nat.reduceLT, Nat.reduceBEq, Int.reduceBEq, Int.reduceBNe, Int.reduceEq, Int.reduceLT, Int.reduceLE, Int.reduceGT, Int.reduceNeg, reduceCtorEq, Int.cast_ofNat_Int, getE_zero, getE_one, getE_two, Option.isSome_none, c, strs_len, Tr.encs_len, rch3]
  | x :: rk, [], pk, pc, m, e1, e2, h1, h2 => by
    have k1 : m < ks.length := by rw [e1, h1]; simp
    have k2 : m = cs.length := by rw [e2, h2]; simp
    have en : n = m := by omega
    have t1 : ks.take n = pk := by rw [en, e1, h1]; simp
    have t2 : cs.take n = pc := by rw [en, e2, h2]; simp
    have c : decide ((m : Int) < (ks.length : Int)) = true := by apply decide_eq_true; omega
    have c2 : decide ((m : Int) < (cs.length : Int)) = false := by apply decide_eq_false; omega
    rw [t1, t2, en]
    simp only [zV]
    refine loop_eq Try.func9 rfl rfl ?_
    simp (disch := ((try simp only [List.length_cons, List.length_append, List.length_nil, List.length_map]); omega)) only [↓GO, ↓DRW, GA, ren, renB, footX, refs, cellsV, cst, cstAt, nilC, idxAddr, E.load, E.store, binO, isC, bin, ibin, sbin, una, isShift, okCell, packV, lenV, blt, fnV, asArg, snapV, snapS, snapP, snapC, snapX, flatV, flatT, openK, layBack, allT, allZ, mkS, srcOf0, unN, idxV, nilEq, give, tupV, mkEnv, extV, pickV, LVS, OVS, LTS, TYS, PMS, pmT, OWS, ownT, GHS, ghT, DMS, dmT, Int.reduceToNat, Nat.reduceGT, ↓reduceIte, Nat.reduceAdd, Nat.reduceMul, Nat.reduceSub, Nat.reduceEqDiff, Nat.reduceLeDiff, Nat.reduceLT, Nat.reduceBEq, Int.reduceBEq, Int.reduceBNe, Int.reduceEq, Int.reduceLT, Int.reduceLE, Int.reduceGT, Int.reduceNeg, reduceCtorEq, Int.cast_ofNat_Int, getE_zero, getE_one, getE_two, Option.isSome_none, c, c2, strs_len, Tr.encs_len, rch3]
  | x :: rk, y :: rc, pk, pc, m, e1, e2, h1, h2 => by
    have k1 : m < ks.length := by rw [e1, h1]; simp
    have k2 : m < cs.length := by rw [e2, h2]; simp
    have c : decide ((m : Int) < (ks.length : Int)) = true := by apply decide_eq_true; omega
    have c2 : decide ((m : Int) < (cs.length : Int)) = true := by apply decide_eq_true; omega
    have c0 : decide ((0 : Int) ≤ (m : Int)) = true := by simp
    have hget : (Tr.encs cs)[m]? = some y.enc := by rw [e2, h2]; simp [Tr.encs_eq]
    have hgk : (strs ks)[m]? = some [.str x] := by rw [e1, h1]; simp [strs]
    have hcy := hc y (by rw [e2]; simp)
    have IH := l_mapsR ks cs hk hl hc n hn rk rc (pk ++ [x]) (pc ++ [y]) (m + 1) (by rw [e1]; simp) (by rw [e2]; simp) (by simp [h1]) (by simp [h2])
    rw [encs_snoc, strs_snoc, show ((m + 1 : Nat) : Int) = (m : Int) + 1 by simp] at IH
    have hol : (Tr.encs pc).length = m := by rw [Tr.encs_len, h2]
    have hok : (strs pk).length = m := by rw [strs_len, h1]
    have hml : m ≤ 1048576 := by omega
    clear e1 e2 h1 h2
    obtain ⟨k1, n1, s1, ks1, cs1⟩ := y
    simp only [CpR, Tr.enc, List.map_cons, List.map_nil, zV] at hcy hget IH ⊢
    generalize Tr.encs pc = A at *
    generalize strs pk = B at *
    refine loop_eq Try.func9 rfl rfl ?_
    simp (disch := ((try simp only [List.length_cons, List.length_append, List.length_nil, List.length_map]); omega)) only [↓GO, ↓DRW, GA, ren, renB, footX, refs, cellsV, cst, cstAt, nilC, idxAddr, E.load, E.store, binO, isC, bin, ibin, sbin, una, isShift, okCell, packV, lenV, blt, fnV, asArg, snapV, snapS, snapP, snapC, snapX, flatV, flatT, openK, layBack, allT, allZ, mkS, srcOf0, unN, idxV, nilEq, give, tupV, mkEnv, extV, pickV, LVS, OVS, LTS, TYS, PMS, pmT, OWS, ownT, GHS, ghT, DMS, dmT, Int.reduceToNat, Nat.reduceGT, ↓reduceIte, Nat.reduceAdd, Nat.reduceMul, Nat.reduceSub, Nat.reduceEqDiff, Nat.reduceLeDiff, Nat.reduceLT, Nat.reduceBEq, Int.reduceBEq, Int.reduceBNe, Int.reduceEq, Int.reduceLT, Int.reduceLE, Int.reduceGT, Int.reduceNeg, reduceCtorEq, Int.cast_ofNat_Int, getE_zero, getE_one, getE_two, Option.isSome_none, c, c2, c0, Tr.encs_len, strs_len, hget, hgk, hcy, wrap_in, hol, hok, IH, rch3, le_T]
    refine dyn_pos (by kernel_rfl) ?_
    refine dyn_pos (by kernel_rfl) ?_
    rfl
end Go.Proofs.Ytcphjdfmjhijkaa
/- With by the implementation. Conditions: those of each lemma. -/
namespace Go.Proofs.Ytcphjdfmjhijkaa
open E
set_option linter.unusedSimpArgs false
set_option linter.unusedVariables false
set_option maxRecDepth 100000
/-- a tree with a value under a key -/
def withT (key : Str) (v : Tr) : Tr → Tr
  | .mk k n s ks cs => cond (k == 6) (cond (decide (kidP key k ks cs ≥ 0)) (.mk k n s ks (cs.set (kidP key k ks cs).toNat v)) (.mk k n s (ks ++ [key]) (cs ++ [v]))) (.mk k n s ks cs)
theorem encs_set (cs : List Tr) (i : Nat) (v : Tr) : Tr.encs (cs.set i v) = (Tr.encs cs).set i v.enc := by simp [Tr.encs_eq, List.map_set]
theorem ocE_set (es : List (List T)) (i : Nat) (x : List T) : ocE (es.set i x) = (ocE es).set i (x.map oc) := by simp [ocE, List.map_set]
def WiO (key : Str) (t v r : Tr) : Prop := ∃ cap, EV Try.prog pol (.callO false 25 [.agg (t.enc.map .t), .t (.str key), .agg (v.enc.map .t)] []) = some (.call (match r with
  | .mk k n s ks cs => .agg [.t (.int .i64 k), .t (.int .i64 n), .t (.str s), .sl 0 0 ks.length none, .sl 1 0 cs.length cap]) (match r with | .mk k n s ks cs => [.ts 1 (strs ks), .vs 5 (ocE (Tr.encs cs))]))
theorem c_wiO_a (key : Str) (k n : Int) (s : Str) (ks : List Str) (cs : List Tr) (v : Tr) (hk : (k == 6) = false) (hcp : CpO (.mk k n s ks cs)) : WiO key (.mk k n s ks cs) v (.mk k n s ks cs) := by
  obtain ⟨cap, hcp⟩ := hcp
  obtain ⟨k1, n1, s1, ks1, cs1⟩ := v
  refine ⟨cap, ?_⟩
  have hk' : (k != 6) = true := by simp [bne, hk]
  simp only [Tr.enc, List.map_cons, List.map_nil] at hcp ⊢
  refine callO_eq Try.func25 rfl (by kernel_rfl) ?_
  unfold Try.f25
  simp (disch := ((try simp only [List.length_cons, List.length_append, List.length_nil, List.length_map]); omega)) only [↓GO, ↓DRW, GA, ren, renB, footX, refs, cellsV, cst, cstAt, nilC, idxAddr, E.load, E.store, binO, isC, bin, ibin, sbin, una, isShift, okCell, packV, lenV, blt, fnV, asArg, snapV, snapS, snapP, snapC, snapX, flatV, flatT, openK, layBack, allT, allZ, mkS, srcOf0, unN, idxV, nilEq, give, tupV, mkEnv, extV, pickV, LVS, OVS, LTS, TYS, PMS, pmT, OWS, ownT, GHS, ghT, DMS, dmT, Int.reduceToNat, Nat.reduceGT, ↓reduceIte, Nat.reduceAdd, Nat.reduceMul, Nat.reduceSub, Nat.reduceEqDiff, Nat.reduceLeDiff, Nat.reduceLT, Nat.reduceBEq, Int.reduceBEq, Int.reduceBNe, Int.reduceEq, Int.reduceLT, Int.reduceLE, Int.reduceGT, Int.reduceNeg, reduceCtorEq, selK_some, selK_none, bltO, brwK, brwA, brwB, sliceO, mkO, appO, ghOne, ghAt, ghCells, fld1, unf1, setC, oc, oTs, oT, rowT, rowT.rowTs, rowB, isL, Bool.not_false, Bool.true_and, Bool.and_true, Bool.and_self, List.flatMap_append, List.map_append, List.set_cons_zero, List.set_cons_succ, Int.cast_ofNat_Int, getE_zero, getE_one, getE_two, Option.isSome_none, hcp, hk, hk', ocE_ren, ocE_refs, rch3]
set_option maxHeartbeats 2000000 in
theorem c_wiO_b (key : Str) (k n : Int) (s : Str) (ks : List Str) (cs : List Tr) (v : Tr) (hk : (k == 6) = true) (hl : ks.length ≤ 1048576) (hl2 : cs.length ≤ 1048576) (i : Nat) (hp : kidP key k ks cs = (i : Nat)) (hi : i < cs.length) (hcp : CpO (.mk k n s ks cs)) (hcv : CpO v) :
    WiO key (.mk k n s ks cs) v (.mk k n s ks (cs.set i v)) := by
  obtain ⟨cap, hcp⟩ := hcp
  obtain ⟨capv, hcv⟩ := hcv
  have h := c_ix key ks hl
  have hk' : (k != 6) = false := by simp [bne, hk]
  unfold kidP at hp
  rw [hk, cond_true, at_ix key ks 0 cs.length, Nat.zero_add] at hp
  generalize ixS key 0 ks = ix at *
  have hb : (decide (ix ≥ 0) && decide (ix < (cs.length : Int))) = true := by
    cases hb : (decide (ix ≥ 0) && decide (ix < (cs.length : Int))) with
    | true => rfl
    | false => rw [hb, cond_false] at hp; omega
  rw [hb, cond_true] at hp
  subst hp
  rw [Bool.and_eq_true] at hb
  obtain ⟨h1, h2⟩ := hb
  have hlA : (ocE (Tr.encs cs)).length = cs.length := by rw [ocE_len, Tr.encs_len]
  have ht1 : (strs ks).take ks.length = strs ks := by rw [← strs_len ks]; simp
  refine ⟨cap, ?_⟩
  have hA := ocE_refs (Tr.encs cs)
  have hR := fun m => ocE_ren m (Tr.encs cs)
  have hB := ocE_refs (Tr.encs (cs.set i v))
  have hRB := fun m => ocE_ren m (Tr.encs (cs.set i v))
  have hg : ∀ X, ((ocE (Tr.encs cs)).set i X)[i]? = some X := fun X => by rw [List.getElem?_set_self]; rw [hlA]; exact hi
  have hss : ∀ X Y, ((ocE (Tr.encs cs)).set i X).set i Y = (ocE (Tr.encs cs)).set i Y := fun X Y => List.set_set ..
  have hfin : (ocE (Tr.encs cs)).set i (v.enc.map oc) = ocE (Tr.encs (cs.set i v)) := by rw [encs_set, ocE_set]
  have hg0 : ∃ Z, (ocE (Tr.encs cs))[i]? = some Z ∧ ∃ a b c d e, Z = [a, b, c, d, e] := by
    refine ⟨(cs[i]).enc.map oc, ?_, ?_⟩
    · simp only [ocE, List.getElem?_map, Tr.encs_get cs i hi, Option.map_some]
    · generalize cs[i] = c; obtain ⟨a, b, c, d, e⟩ := c; exact ⟨_, _, _, _, _, rfl⟩
  obtain ⟨_, hg0, a0, b0, c0, d0, e0, rfl⟩ := hg0
  obtain ⟨k1, n1, s1, ks1, cs1⟩ := v
  have hfl := flatE_strs ks1
  have hot := oT_trs cs1
  have hrb := rowB_tr cs1
  have c00 : (0 : Int) ≤ (i : Int) := by omega
  simp only [Tr.enc, List.map_cons, List.map_nil, List.length_set, oc] at hcp hcv hfin ⊢
  generalize ocE (Tr.encs (cs.set i (.mk k1 n1 s1 ks1 cs1))) = B at *
  generalize ocE (Tr.encs cs) = A at *
  refine callO_eq Try.func25 rfl (by kernel_rfl) ?_
  unfold Try.f25
  simp (disch := ((try simp only [List.length_cons, List.length_append, List.length_nil, List.length_map]); omega)) only [↓GO, ↓DRW, GA, ren, renB, footX, refs, cellsV, cst, cstAt, nilC, idxAddr, E.load, E.store, binO, isC, bin, ibin, sbin, una, isShift, okCell, packV, lenV, blt, fnV, asArg, snapV, snapS, snapP, snapC, snapX, flatV, flatT, openK, layBack, allT, allZ, mkS, srcOf0, unN, idxV, nilEq, give, tupV, mkEnv, extV, pickV, LVS, OVS, LTS, TYS, PMS, pmT, OWS, ownT, GHS, ghT, DMS, dmT, Int.reduceToNat, Nat.reduceGT, ↓reduceIte, Nat.reduceAdd, Nat.reduceMul, Nat.reduceSub, Nat.reduceEqDiff, Nat.reduceLeDiff, Nat.reduceLT, Nat.reduceBEq, Int.reduceBEq, Int.reduceBNe, Int.reduceEq, Int.reduceLT, Int.reduceLE, Int.reduceGT, Int.reduceNeg, reduceCtorEq, selK_some, selK_none, bltO, brwK, brwA, brwB, sliceO, mkO, appO, ghOne, ghAt, ghCells, fld1, unf1, setC, oc, oTs, oT, rowT, rowT.rowTs, rowB, isL, Bool.not_false, Bool.true_and, Bool.and_true, Bool.and_self, List.flatMap_append, List.map_append, List.set_cons_zero, List.set_cons_succ, Int.cast_ofNat_Int, getE_zero, getE_one, getE_two, Option.isSome_none, hcp, hcv, hk, hk', h, h1, h2, ht1, hA, hR, hB, hRB, hg, hss, hg0, hfin, hlA, c00, hi, if_true, Int.toNat_natCast, hfl, hot, hrb, strs_len, Tr.encs_len, ocE_len, ocE_ren, ocE_refs, rch3]
  refine dyn_pos (by kernel_rfl) ?_
  rfl
set_option maxHeartbeats 2000000 in
theorem c_wiO_c (key : Str) (k n : Int) (s : Str) (ks : List Str) (cs : List Tr) (v : Tr) (hk : (k == 6) = true) (hl : ks.length ≤ 1048576) (hl2 : cs.length ≤ 1048576) (hp : kidP key k ks cs = -1) (hcp : CpO (.mk k n s ks cs)) (hcv : CpO v) :
    WiO key (.mk k n s ks cs) v (.mk k n s (ks ++ [key]) (cs ++ [v])) := by
  obtain ⟨cap, hcp⟩ := hcp
  obtain ⟨capv, hcv⟩ := hcv
  have h := c_ix key ks hl
  have hk' : (k != 6) = false := by simp [bne, hk]
  unfold kidP at hp
  rw [hk, cond_true, at_ix key ks 0 cs.length, Nat.zero_add] at hp
  have hr := ixS_rng key ks 0
  generalize ixS key 0 ks = ix at *
  have hb : ∀ b1 b2, decide (ix ≥ 0) = b1 → decide (ix < (cs.length : Int)) = b2 → (b1 && b2) = false := fun b1 b2 e1 e2 => by
    subst e1 e2
    cases hb : (decide (ix ≥ 0) && decide (ix < (cs.length : Int))) with
    | false => rfl
    | true =>
      rw [hb, cond_true] at hp
      simp only [Bool.and_eq_true, decide_eq_true_eq] at hb
      omega
  clear hp hr
  have hlA : (ocE (Tr.encs cs)).length = cs.length := by rw [ocE_len, Tr.encs_len]
  have ht1 : (strs ks).take ks.length = strs ks := by rw [← strs_len ks]; simp
  refine ⟨none, ?_⟩
  have hA := ocE_refs (Tr.encs cs)
  have hR := fun m => ocE_ren m (Tr.encs cs)
  have hm1 : cs.length + 1 - 1 = cs.length := by omega
  have hm0 : ¬ (cs.length + 1 = 0) := by omega
  have hg1 := fun y => mid_get (ocE (Tr.encs cs)) [] y cs.length hlA
  have hs1 := fun y z => mid_set (ocE (Tr.encs cs)) [] y z cs.length hlA
  have hle : ∀ y : List V, (ocE (Tr.encs cs) ++ [y]).length = cs.length + 1 := fun y => by simp [hlA]
  obtain ⟨k1, n1, s1, ks1, cs1⟩ := v
  have hfl := flatE_strs ks1
  have hot := oT_trs cs1
  have hrb := rowB_tr cs1
  have hke : strs (ks ++ [key]) = strs ks ++ [[.str key]] := strs_snoc ks key
  have hlk : (ks ++ [key]).length = ks.length + 1 := by simp
  have hlc : (cs ++ [Tr.mk k1 n1 s1 ks1 cs1]).length = cs.length + 1 := by simp
  have hoe : ocE (Tr.encs (cs ++ [Tr.mk k1 n1 s1 ks1 cs1])) = ocE (Tr.encs cs) ++ [(Tr.mk k1 n1 s1 ks1 cs1).enc.map oc] := by rw [encs_snoc, ocE_app]; rfl
  simp only [hoe, hlc, hlk, hke, Tr.enc, List.map_cons, List.map_nil, oc] at hcp hcv ⊢
  clear hoe
  generalize ocE (Tr.encs cs) = A at *
  cases h1 : decide (ix ≥ 0) with
  | false =>
    refine callO_eq Try.func25 rfl (by kernel_rfl) ?_
    unfold Try.f25
    simp (disch := ((try simp only [List.length_cons, List.length_append, List.length_nil, List.length_map]); omega)) only [↓GO, ↓DRW, GA, ren, renB, footX, refs, cellsV, cst, cstAt, nilC, idxAddr, E.load, E.store, binO, isC, bin, ibin, sbin, una, isShift, okCell, packV, lenV, blt, fnV, asArg, snapV, snapS, snapP, snapC, snapX, flatV, flatT, openK, layBack, allT, allZ, mkS, srcOf0, unN, idxV, nilEq, give, tupV, mkEnv, extV, pickV, LVS, OVS, LTS, TYS, PMS, pmT, OWS, ownT, GHS, ghT, DMS, dmT, Int.reduceToNat, Nat.reduceGT, ↓reduceIte, Nat.reduceAdd, Nat.reduceMul, Nat.reduceSub, Nat.reduceEqDiff, Nat.reduceLeDiff, Nat.reduceLT, Nat.reduceBEq, Int.reduceBEq, Int.reduceBNe, Int.reduceEq, Int.reduceLT, Int.reduceLE, Int.reduceGT, Int.reduceNeg, reduceCtorEq, selK_some, selK_none, bltO, brwK, brwA, brwB, sliceO, mkO, appO, ghOne, ghAt, ghCells, fld1, unf1, setC, oc, oTs, oT, rowT, rowT.rowTs, rowB, isL, Bool.not_false, Bool.true_and, Bool.and_true, Bool.and_self, List.flatMap_append, List.map_append, List.set_cons_zero, List.set_cons_succ, Int.cast_ofNat_Int, getE_zero, getE_one, getE_two, Option.isSome_none, hcp, hcv, hk, hk', h, h1, ht1, hA, hR, hm1, hm0, if_false, hg1, hs1, hle, hlA, hfl, hot, hrb, strs_len, Tr.encs_len, ocE_len, ocE_ren, ocE_refs, rch3, le_T]
    refine dyn_pos (by kernel_rfl) ?_
    rfl
  | true =>
    have h2 : decide (ix < (cs.length : Int)) = false := by have := hb _ _ h1 rfl; simpa using this
    refine callO_eq Try.func25 rfl (by kernel_rfl) ?_
    unfold Try.f25
    simp (disch := ((try simp only [List.length_cons, List.length_append, List.length_nil, List.length_map]); omega)) only [↓GO, ↓DRW, GA, ren, renB, footX, refs, cellsV, cst, cstAt, nilC, idxAddr, E.load, E.store, binO, isC, bin, ibin, sbin, una, isShift, okCell, packV, lenV, blt, fnV, asArg, snapV, snapS, snapP, snapC, snapX, flatV, flatT, openK, layBack, allT, allZ, mkS, srcOf0, unN, idxV, nilEq, give, tupV, mkEnv, extV, pickV, LVS, OVS, LTS, TYS, PMS, pmT, OWS, ownT, GHS, ghT, DMS, dmT, Int.reduceToNat, Nat.reduceGT, ↓reduceIte, Nat.reduceAdd, Nat.reduceMul, Nat.reduceSub, Nat.reduceEqDiff, Nat.reduceLeDiff, Nat.reduceLT, Nat.reduceBEq, Int.reduceBEq, Int.reduceBNe, Int.reduceEq, Int.reduceLT, Int.reduceLE, Int.reduceGT, Int.reduceNeg, reduceCtorEq, selK_some, selK_none, bltO, brwK, brwA, brwB, sliceO, mkO, appO, ghOne, ghAt, ghCells, fld1, unf1, setC, oc, oTs, oT, rowT, rowT.rowTs, rowB, isL, Bool.not_false, Bool.true_and, Bool.and_true, Bool.and_self, List.flatMap_append, List.map_append, List.set_cons_zero, List.set_cons_succ, Int.cast_ofNat_Int, getE_zero, getE_one, getE_two, Option.isSome_none, hcp, hcv, hk, hk', h, h1, h2, ht1, hA, hR, hm1, hm0, if_false, hg1, hs1, hle, hlA, hfl, hot, hrb, strs_len, Tr.encs_len, ocE_len, ocE_ren, ocE_refs, rch3, le_T]
    refine dyn_pos (by kernel_rfl) ?_
    rfl
end Go.Proofs.Ytcphjdfmjhijkaa
/- With by the reference. Conditions: those of each lemma. -/
namespace Go.Proofs.Ytcphjdfmjhijkaa
open E
set_option linter.unusedSimpArgs false
set_option linter.unusedVariables false
set_option maxRecDepth 100000
theorem c_cpRO_nil (k n : Int) (s : Str) (ks : List Str) (hkl : ks.length ≤ 1048576) :
    EV Try.prog pol (.callO false 33 [.agg ((Tr.mk k n s ks []).enc.map .t)] []) = some (.call (.agg [.t (.int .i64 k), .t (.int .i64 n), .t (.str s), .sl 0 0 ks.length none, .nil 5]) [.ts 1 (strs ks)]) := by
  have L : EV Try.prog pol (.loop 33 58 0 [.ptr 0 0 0, .ptr 1 0 0, .ptr 2 0 0, .t (.int .i64 0)] [.vs 5 [(Tr.mk k n s ks []).enc.map .t], .vs 5 [zV], .vs 5 [[.t (.int .i64 k), .t (.int .i64 n), .t (.str s), .sl 3 0 ks.length none, .nil 5]], .ts 1 (strs ks)])
      = some (.loop (.exit 0) [.ptr 0 0 0, .ptr 1 0 0] [.vs 5 [zV], .vs 5 [[.t (.int .i64 k), .t (.int .i64 n), .t (.str s), .sl 2 0 ks.length none, .nil 5]], .ts 1 (strs ks)]) := by
    simp only [Tr.enc, Tr.encs, List.map_cons, List.map_nil, zV]
    refine loop_eq Try.func33 rfl rfl ?_
    simp (disch := ((try simp only [List.length_cons, List.length_append, List.length_nil, List.length_map]); omega)) only [↓GO, ↓DRW, GA, ren, renB, footX, refs, cellsV, cst, cstAt, nilC, idxAddr, E.load, E.store, binO, isC, bin, ibin, sbin, una, isShift, okCell, packV, lenV, blt, fnV, asArg, snapV, snapS, snapP, snapC, snapX, flatV, flatT, openK, layBack, allT, allZ, mkS, srcOf0, unN, idxV, nilEq, give, tupV, mkEnv, extV, pickV, LVS, OVS, LTS, TYS, PMS, pmT, OWS, ownT, GHS, ghT, DMS, dmT, Int.reduceToNat, Nat.reduceGT, ↓reduceIte, Nat.reduceAdd, Nat.reduceMul, Nat.reduceSub, Nat.reduceEqDiff, Nat.reduceLeDiff, Nat.reduceLT, Nat.reduceBEq, Int.reduceBEq, Int.reduceBNe, Int.reduceEq, Int.reduceLT, Int.reduceLE, Int.reduceGT, Int.reduceNeg, reduceCtorEq, Int.cast_ofNat_Int, getE_zero, getE_one, getE_two, Option.isSome_none, rch3, List.length_nil, Int.natCast_zero]
  simp only [Tr.enc, Tr.encs, List.map_cons, List.map_nil, zV] at L ⊢
  refine callO_eq Try.func33 rfl (by kernel_rfl) ?_
  unfold Try.f33
  simp (disch := ((try simp only [List.length_cons, List.length_append, List.length_nil, List.length_map]); omega)) only [↓GO, ↓DRW, GA, ren, renB, footX, refs, cellsV, cst, cstAt, nilC, idxAddr, E.load, E.store, binO, isC, bin, ibin, sbin, una, isShift, okCell, packV, lenV, blt, fnV, asArg, snapV, snapS, snapP, snapC, snapX, flatV, flatT, openK, layBack, allT, allZ, mkS, srcOf0, unN, idxV, nilEq, give, tupV, mkEnv, extV, pickV, LVS, OVS, LTS, TYS, PMS, pmT, OWS, ownT, GHS, ghT, DMS, dmT, Int.reduceToNat, Nat.reduceGT, ↓reduceIte, Nat.reduceAdd, Nat.reduceMul, Nat.reduceSub, Nat.reduceEqDiff, Nat.reduceLeDiff, Nat.reduceLT, Nat.reduceBEq, Int.reduceBEq, Int.reduceBNe, Int.reduceEq, Int.reduceLT, Int.reduceLE, Int.reduceGT, Int.reduceNeg, reduceCtorEq, Int.cast_ofNat_Int, getE_zero, getE_one, getE_two, Option.isSome_none, L, strs_len, rch3, le_T]
  try (refine dyn_pos (by kernel_rfl) ?_; rfl)
theorem c_cpRO_cons (k n : Int) (s : Str) (ks : List Str) (x : Tr) (rest : List Tr) (hkl : ks.length ≤ 1048576) (hl : (x :: rest).length ≤ 1048576) (hc : ∀ c ∈ x :: rest, CpR c) :
    EV Try.prog pol (.callO false 33 [.agg ((Tr.mk k n s ks (x :: rest)).enc.map .t)] []) = some (.call (.agg [.t (.int .i64 k), .t (.int .i64 n), .t (.str s), .sl 0 0 ks.length none, .sl 1 0 (x :: rest).length none]) [.ts 1 (strs ks), .ts 5 (Tr.encs (x :: rest))]) := by
  have hcx := hc x (by simp)
  have L := l_cpR k n s ks (x :: rest) (by omega) (by omega) hc rest [x] 1 rfl rfl
  have L0 : EV Try.prog pol (.loop 33 58 0 [.ptr 0 0 0, .ptr 1 0 0, .ptr 2 0 0, .t (.int .i64 0)] [.vs 5 [(Tr.mk k n s ks (x :: rest)).enc.map .t], .vs 5 [zV], .vs 5 [[.t (.int .i64 k), .t (.int .i64 n), .t (.str s), .sl 3 0 ks.length none, .nil 5]], .ts 1 (strs ks)])
      = some (.loop (.exit 0) [.ptr 0 0 0, .ptr 1 0 0] [.vs 5 [zV], .vs 5 [[.t (.int .i64 k), .t (.int .i64 n), .t (.str s), .sl 2 0 ks.length none, .sl 3 0 (x :: rest).length none]], .ts 1 (strs ks), .ts 5 (Tr.encs (x :: rest))]) := by
    have c : decide ((0 : Int) < ((x :: rest).length : Int)) = true := by apply decide_eq_true; simp only [List.length_cons]; omega
    have hget : (Tr.encs (x :: rest))[0]? = some x.enc := rfl
    obtain ⟨k1, n1, s1, ks1, cs1⟩ := x
    have e1 : Tr.encs [.mk k1 n1 s1 ks1 cs1] = [(Tr.mk k1 n1 s1 ks1 cs1).enc] := by simp [Tr.encs_eq]
    rw [e1] at L
    simp only [CpR, Tr.enc, List.map_cons, List.map_nil, zV, List.length_cons, List.length_nil, Nat.zero_add] at hcx hget L ⊢
    generalize Tr.mk k1 n1 s1 ks1 cs1 :: rest = cs at *
    refine loop_eq Try.func33 rfl rfl ?_
    simp (disch := ((try simp only [List.length_cons, List.length_append, List.length_nil, List.length_map]); omega)) only [↓GO, ↓DRW, GA, ren, renB, footX, refs, cellsV, cst, cstAt, nilC, idxAddr, E.load, E.store, binO, isC, bin, ibin, sbin, una, isShift, okCell, packV, lenV, blt, fnV, asArg, snapV, snapS, snapP, snapC, snapX, flatV, flatT, openK, layBack, allT, allZ, mkS, srcOf0, unN, idxV, nilEq, give, tupV, mkEnv, extV, pickV, LVS, OVS, LTS, TYS, PMS, pmT, OWS, ownT, GHS, ghT, DMS, dmT, Int.reduceToNat, Nat.reduceGT, ↓reduceIte, Nat.reduceAdd, Nat.reduceMul, Nat.reduceSub, Nat.reduceEqDiff, Nat.reduceLeDiff, Nat.reduceLT, Nat.reduceBEq, Int.reduceBEq, Int.reduceBNe, Int.reduceEq, Int.reduceLT, Int.reduceLE, Int.reduceGT, Int.reduceNeg, reduceCtorEq, Int.cast_ofNat_Int, getE_zero, getE_one, getE_two, Option.isSome_none, c, Tr.encs_len, getE_zero, hget, hcx, wrap_in, Int.reduceAdd, L, rch3, le_T, List.length_nil, Int.natCast_zero]
    try (refine dyn_pos (by kernel_rfl) ?_; first | rfl | exact L)
  clear L
  generalize x :: rest = cs at *
  simp only [CpR, Tr.enc, List.map_cons, List.map_nil, zV] at L0 ⊢
  refine callO_eq Try.func33 rfl (by kernel_rfl) ?_
  unfold Try.f33
  simp (disch := ((try simp only [List.length_cons, List.length_append, List.length_nil, List.length_map]); omega)) only [↓GO, ↓DRW, GA, ren, renB, footX, refs, cellsV, cst, cstAt, nilC, idxAddr, E.load, E.store, binO, isC, bin, ibin, sbin, una, isShift, okCell, packV, lenV, blt, fnV, asArg, snapV, snapS, snapP, snapC, snapX, flatV, flatT, openK, layBack, allT, allZ, mkS, srcOf0, unN, idxV, nilEq, give, tupV, mkEnv, extV, pickV, LVS, OVS, LTS, TYS, PMS, pmT, OWS, ownT, GHS, ghT, DMS, dmT, Int.reduceToNat, Nat.reduceGT, ↓reduceIte, Nat.reduceAdd, Nat.reduceMul, Nat.reduceSub, Nat.reduceEqDiff, Nat.reduceLeDiff, Nat.reduceLT, Nat.reduceBEq, Int.reduceBEq, Int.reduceBNe, Int.reduceEq, Int.reduceLT, Int.reduceLE, Int.reduceGT, Int.reduceNeg, reduceCtorEq, Int.cast_ofNat_Int, getE_zero, getE_one, getE_two, Option.isSome_none, L0, strs_len, rch3, le_T]
  try (refine dyn_pos (by kernel_rfl) ?_; rfl)
end Go.Proofs.Ytcphjdfmjhijkaa
/- With by the reference: the function. Conditions: those of each lemma. -/
namespace Go.Proofs.Ytcphjdfmjhijkaa
open E
set_option linter.unusedSimpArgs false
set_option linter.unusedVariables false
set_option maxRecDepth 100000
def WiR (key : Str) (t v r : Tr) : Prop := callPure (EV Try.prog pol) 24 [.agg (t.enc.map .t), .t (.str key), .agg (v.enc.map .t)] = some (.agg (r.enc.map .t))
theorem c_wiR (key : Str) (k n : Int) (s : Str) (ks : List Str) (cs : List Tr) (v : Tr) (hl : ks.length ≤ 1048576) (hl2 : cs.length ≤ 1048576) (hc : ∀ c ∈ cs, CpR c) (hcv : CpR v) :
    WiR key (.mk k n s ks cs) v (withT key v (.mk k n s ks cs)) := by
  have hat := c_atR key k n s ks cs hl hl2
  have hrg := kidP_rng key k ks cs
  have ht1 : (strs ks).take ks.length = strs ks := by rw [← strs_len ks]; simp
  have ht2 : (strs (ks ++ [key])).take (ks.length + 1) = strs (ks ++ [key]) := List.take_of_length_le (by rw [strs_len]; simp)
  change callPure _ _ _ = some (.t (.int .i64 (kidP key k ks cs))) at hat
  obtain ⟨k1, n1, s1, ks1, cs1⟩ := v
  cases hk : (k == 6) with
  | false =>
    have hk' : (k != 6) = true := by simp [bne, hk]
    have e : withT key (.mk k1 n1 s1 ks1 cs1) (.mk k n s ks cs) = .mk k n s ks cs := by simp only [withT, hk, cond_false]
    rw [e]; clear e
    generalize hkp : kidP key k ks cs = kp at *
    cases cs with
    | nil =>
      have hcp := c_cpRO_nil k n s ks hl
      simp only [WiR, CpR, Tr.enc, Tr.encs, List.map_cons, List.map_nil] at hat hcp hcv ⊢
      apply eq_call
      refine call_eq rfl Try.func24 rfl (by kernel_rfl) ?_
      unfold Try.f24
      simp (disch := ((try simp only [List.length_cons, List.length_append, List.length_nil, List.length_map]); omega)) only [↓GO, ↓DRW, GA, ren, renB, footX, refs, cellsV, cst, cstAt, nilC, idxAddr, E.load, E.store, binO, isC, bin, ibin, sbin, una, isShift, okCell, packV, lenV, blt, fnV, asArg, snapV, snapS, snapP, snapC, snapX, flatV, flatT, openK, layBack, allT, allZ, mkS, srcOf0, unN, idxV, nilEq, give, tupV, mkEnv, extV, pickV, LVS, OVS, LTS, TYS, PMS, pmT, OWS, ownT, GHS, ghT, DMS, dmT, Int.reduceToNat, Nat.reduceGT, ↓reduceIte, Nat.reduceAdd, Nat.reduceMul, Nat.reduceSub, Nat.reduceEqDiff, Nat.reduceLeDiff, Nat.reduceLT, Nat.reduceBEq, Int.reduceBEq, Int.reduceBNe, Int.reduceEq, Int.reduceLT, Int.reduceLE, Int.reduceGT, Int.reduceNeg, reduceCtorEq, Int.cast_ofNat_Int, getE_zero, getE_one, getE_two, Option.isSome_none, hat, hcp, hcv, hk, hk', ht1, strs_len, rch3, le_T]
    | cons x rest =>
      have hcp := c_cpRO_cons k n s ks x rest hl hl2 hc
      have ht : (Tr.encs (x :: rest)).take (x :: rest).length = Tr.encs (x :: rest) := by rw [← Tr.encs_len (x :: rest)]; simp
      clear hc hrg hkp
      generalize x :: rest = cs at *
      simp only [WiR, CpR, Tr.enc, List.map_cons, List.map_nil] at hat hcp hcv ⊢
      apply eq_call
      refine call_eq rfl Try.func24 rfl (by kernel_rfl) ?_
      unfold Try.f24
      simp (disch := ((try simp only [List.length_cons, List.length_append, List.length_nil, List.length_map]); omega)) only [↓GO, ↓DRW, GA, ren, renB, footX, refs, cellsV, cst, cstAt, nilC, idxAddr, E.load, E.store, binO, isC, bin, ibin, sbin, una, isShift, okCell, packV, lenV, blt, fnV, asArg, snapV, snapS, snapP, snapC, snapX, flatV, flatT, openK, layBack, allT, allZ, mkS, srcOf0, unN, idxV, nilEq, give, tupV, mkEnv, extV, pickV, LVS, OVS, LTS, TYS, PMS, pmT, OWS, ownT, GHS, ghT, DMS, dmT, Int.reduceToNat, Nat.reduceGT, ↓reduceIte, Nat.reduceAdd, Nat.reduceMul, Nat.reduceSub, Nat.reduceEqDiff, Nat.reduceLeDiff, Nat.reduceLT, Nat.reduceBEq, Int.reduceBEq, Int.reduceBNe, Int.reduceEq, Int.reduceLT, Int.reduceLE, Int.reduceGT, Int.reduceNeg, reduceCtorEq, Int.cast_ofNat_Int, getE_zero, getE_one, getE_two, Option.isSome_none, hat, hcp, hcv, hk, hk', ht, ht1, strs_len, rch3, le_T]
  | true =>
    have hk' : (k != 6) = false := by simp [bne, hk]
    rcases hrg with hkp | ⟨i, hkp, hi⟩
    · have c1 : decide ((-1 : Int) ≥ 0) = false := by decide
      have e : withT key (.mk k1 n1 s1 ks1 cs1) (.mk k n s ks cs) = .mk k n s (ks ++ [key]) (cs ++ [.mk k1 n1 s1 ks1 cs1]) := by simp only [withT, hk, hkp, c1, cond_true, cond_false]
      rw [e]; clear e
      rw [hkp] at hat
      have hlk : (ks ++ [key]).length = ks.length + 1 := by simp
      have hke : strs (ks ++ [key]) = strs ks ++ [[.str key]] := strs_snoc ks key
      rw [hke] at ht2
      cases cs with
      | nil =>
        have hcp := c_cpRO_nil k n s ks hl
        simp only [WiR, CpR, Tr.enc, Tr.encs, hke, List.map_cons, List.map_nil, List.nil_append] at hat hcp hcv ⊢
        apply eq_call
        refine call_eq rfl Try.func24 rfl (by kernel_rfl) ?_
        unfold Try.f24
        simp (disch := ((try simp only [List.length_cons, List.length_append, List.length_nil, List.length_map]); omega)) only [↓GO, ↓DRW, GA, ren, renB, footX, refs, cellsV, cst, cstAt, nilC, idxAddr, E.load, E.store, binO, isC, bin, ibin, sbin, una, isShift, okCell, packV, lenV, blt, fnV, asArg, snapV, snapS, snapP, snapC, snapX, flatV, flatT, openK, layBack, allT, allZ, mkS, srcOf0, unN, idxV, nilEq, give, tupV, mkEnv, extV, pickV, LVS, OVS, LTS, TYS, PMS, pmT, OWS, ownT, GHS, ghT, DMS, dmT, Int.reduceToNat, Nat.reduceGT, ↓reduceIte, Nat.reduceAdd, Nat.reduceMul, Nat.reduceSub, Nat.reduceEqDiff, Nat.reduceLeDiff, Nat.reduceLT, Nat.reduceBEq, Int.reduceBEq, Int.reduceBNe, Int.reduceEq, Int.reduceLT, Int.reduceLE, Int.reduceGT, Int.reduceNeg, reduceCtorEq, Int.cast_ofNat_Int, getE_zero, getE_one, getE_two, Option.isSome_none, hat, hcp, hcv, hk, hk', c1, ht1, ht2, strs_len, rch3, le_T]
        refine dyn_pos (by kernel_rfl) ?_
        rfl
      | cons x rest =>
        have hcp := c_cpRO_cons k n s ks x rest hl hl2 hc
        have he := encs_snoc (x :: rest) (.mk k1 n1 s1 ks1 cs1)
        have ht : (Tr.encs (x :: rest ++ [.mk k1 n1 s1 ks1 cs1])).take ((x :: rest).length + 1) = Tr.encs (x :: rest ++ [.mk k1 n1 s1 ks1 cs1]) := List.take_of_length_le (by rw [Tr.encs_len]; simp)
        rw [he] at ht
        clear hc hkp
        generalize x :: rest = cs at *
        simp only [WiR, CpR, Tr.enc, he, hke, List.map_cons, List.map_nil] at hat hcp hcv ht ⊢
        apply eq_call
        refine call_eq rfl Try.func24 rfl (by kernel_rfl) ?_
        unfold Try.f24
        simp (disch := ((try simp only [List.length_cons, List.length_append, List.length_nil, List.length_map]); omega)) only [↓GO, ↓DRW, GA, ren, renB, footX, refs, cellsV, cst, cstAt, nilC, idxAddr, E.load, E.store, binO, isC, bin, ibin, sbin, una, isShift, okCell, packV, lenV, blt, fnV, asArg, snapV, snapS, snapP, snapC, snapX, flatV, flatT, openK, layBack, allT, allZ, mkS, srcOf0, unN, idxV, nilEq, give, tupV, mkEnv, extV, pickV, LVS, OVS, LTS, TYS, PMS, pmT, OWS, ownT, GHS, ghT, DMS, dmT, Int.reduceToNat, Nat.reduceGT, ↓reduceIte, Nat.reduceAdd, Nat.reduceMul, Nat.reduceSub, Nat.reduceEqDiff, Nat.reduceLeDiff, Nat.reduceLT, Nat.reduceBEq, Int.reduceBEq, Int.reduceBNe, Int.reduceEq, Int.reduceLT, Int.reduceLE, Int.reduceGT, Int.reduceNeg, reduceCtorEq, Int.cast_ofNat_Int, getE_zero, getE_one, getE_two, Option.isSome_none, hat, hcp, hcv, hk, hk', c1, ht, ht1, ht2, strs_len, Tr.encs_len, rch3, le_T]
        refine dyn_pos (by kernel_rfl) ?_
        rfl
    · have c1 : decide ((i : Int) ≥ 0) = true := by apply decide_eq_true; omega
      have e : withT key (.mk k1 n1 s1 ks1 cs1) (.mk k n s ks cs) = .mk k n s ks (cs.set i (.mk k1 n1 s1 ks1 cs1)) := by simp only [withT, hk, hkp, c1, cond_true, Int.toNat_natCast]
      rw [e]; clear e
      rw [hkp] at hat
      cases cs with
      | nil => simp at hi
      | cons x rest =>
        have hcp := c_cpRO_cons k n s ks x rest hl hl2 hc
        have he := encs_set (x :: rest) i (.mk k1 n1 s1 ks1 cs1)
        have ht : ((Tr.encs (x :: rest)).set i (Tr.mk k1 n1 s1 ks1 cs1).enc).take (x :: rest).length = (Tr.encs (x :: rest)).set i (Tr.mk k1 n1 s1 ks1 cs1).enc := List.take_of_length_le (by rw [List.length_set, Tr.encs_len]; exact Nat.le_refl _)
        have hg0 := Tr.encs_get (x :: rest) i hi
        generalize (x :: rest)[i] = c0 at hg0
        have c0' : decide ((0 : Int) ≤ (i : Int)) = true := by simp
        have c00 : (0 : Int) ≤ (i : Int) := by omega
        have c2 : decide ((i : Int) < ((x :: rest).length : Int)) = true := by apply decide_eq_true; omega
        clear hc hkp
        generalize x :: rest = cs at *
        obtain ⟨a, b, c, d, e⟩ := c0
        simp only [WiR, CpR, Tr.enc, he, List.map_cons, List.map_nil] at hat hcp hcv ht hg0 ⊢
        apply eq_call
        refine call_eq rfl Try.func24 rfl (by kernel_rfl) ?_
        unfold Try.f24
        simp (disch := ((try simp only [List.length_cons, List.length_append, List.length_nil, List.length_map]); omega)) only [↓GO, ↓DRW, GA, ren, renB, footX, refs, cellsV, cst, cstAt, nilC, idxAddr, E.load, E.store, binO, isC, bin, ibin, sbin, una, isShift, okCell, packV, lenV, blt, fnV, asArg, snapV, snapS, snapP, snapC, snapX, flatV, flatT, openK, layBack, allT, allZ, mkS, srcOf0, unN, idxV, nilEq, give, tupV, mkEnv, extV, pickV, LVS, OVS, LTS, TYS, PMS, pmT, OWS, ownT, GHS, ghT, DMS, dmT, Int.reduceToNat, Nat.reduceGT, ↓reduceIte, Nat.reduceAdd, Nat.reduceMul, Nat.reduceSub, Nat.reduceEqDiff, Nat.reduceLeDiff, Nat.reduceLT, Nat.reduceBEq, Int.reduceBEq, Int.reduceBNe, Int.reduceEq, Int.reduceLT, Int.reduceLE, Int.reduceGT, Int.reduceNeg, reduceCtorEq, Int.cast_ofNat_Int, getE_zero, getE_one, getE_two, Option.isSome_none, hat, hcp, hcv, hk, hk', c1, c0', c00, c2, hi, if_true, Int.toNat_natCast, hg0, ht, ht1, strs_len, Tr.encs_len, rch3, le_T]
        refine dyn_pos (by kernel_rfl) ?_
        rfl
end Go.Proofs.Ytcphjdfmjhijkaa
/- With by the implementation, as a value that nobody writes. Conditions: those of each lemma. -/
namespace Go.Proofs.Ytcphjdfmjhijkaa
open E
set_option linter.unusedSimpArgs false
set_option linter.unusedVariables false
set_option maxRecDepth 100000
def WiF (key : Str) (t v r : Tr) : Prop := callPure (EV Try.prog pol) 25 [.agg (t.enc.map .t), .t (.str key), .agg (v.enc.map .t)] = some (.agg (r.enc.map .t))
theorem c_wiF_a (key : Str) (k n : Int) (s : Str) (ks : List Str) (cs : List Tr) (v : Tr) (hk : (k == 6) = false) (hcp : CpO (.mk k n s ks cs)) : WiF key (.mk k n s ks cs) v (.mk k n s ks cs) := by
  obtain ⟨cap, hcp⟩ := hcp
  obtain ⟨k1, n1, s1, ks1, cs1⟩ := v
  have hk' : (k != 6) = true := by simp [bne, hk]
  have g1 := gvE_oc (Tr.encs cs)
  have g2 : (Tr.encs cs).take cs.length = Tr.encs cs := by rw [← Tr.encs_len cs]; simp
  have g3 : (strs ks).take ks.length = strs ks := by rw [← strs_len ks]; simp
  simp only [WiF, Tr.enc, List.map_cons, List.map_nil] at hcp ⊢
  apply eq_call
  refine call_eq rfl Try.func25 rfl (by kernel_rfl) ?_
  unfold Try.f25
  simp (disch := ((try simp only [List.length_cons, List.length_append, List.length_nil, List.length_map]); omega)) only [↓GO, ↓DRW, GA, ren, renB, footX, refs, cellsV, cst, cstAt, nilC, idxAddr, E.load, E.store, binO, isC, bin, ibin, sbin, una, isShift, okCell, packV, lenV, blt, fnV, asArg, snapV, snapS, snapP, snapC, snapX, flatV, flatT, openK, layBack, allT, allZ, mkS, srcOf0, unN, idxV, nilEq, give, tupV, mkEnv, extV, pickV, LVS, OVS, LTS, TYS, PMS, pmT, OWS, ownT, GHS, ghT, DMS, dmT, Int.reduceToNat, Nat.reduceGT, ↓reduceIte, Nat.reduceAdd, Nat.reduceMul, Nat.reduceSub, Nat.reduceEqDiff, Nat.reduceLeDiff, Nat.reduceLT, Nat.reduceBEq, Int.reduceBEq, Int.reduceBNe, Int.reduceEq, Int.reduceLT, Int.reduceLE, Int.reduceGT, Int.reduceNeg, reduceCtorEq, selK_some, selK_none, bltO, brwK, brwA, brwB, sliceO, mkO, appO, ghOne, ghAt, ghCells, fld1, unf1, setC, oc, oTs, oT, rowT, rowT.rowTs, rowB, isL, Bool.not_false, Bool.true_and, Bool.and_true, Bool.and_self, List.flatMap_append, List.map_append, List.set_cons_zero, List.set_cons_succ, Int.cast_ofNat_Int, getE_zero, getE_one, getE_two, Option.isSome_none, hcp, g1, g2, g3, hk, hk', ocE_ren, ocE_refs, rch3]
set_option maxHeartbeats 2000000 in
theorem c_wiF_b (key : Str) (k n : Int) (s : Str) (ks : List Str) (cs : List Tr) (v : Tr) (hk : (k == 6) = true) (hl : ks.length ≤ 1048576) (hl2 : cs.length ≤ 1048576) (i : Nat) (hp : kidP key k ks cs = (i : Nat)) (hi : i < cs.length) (hcp : CpO (.mk k n s ks cs)) (hcv : CpO v) :
    WiF key (.mk k n s ks cs) v (.mk k n s ks (cs.set i v)) := by
  obtain ⟨cap, hcp⟩ := hcp
  obtain ⟨capv, hcv⟩ := hcv
  have h := c_ix key ks hl
  have hk' : (k != 6) = false := by simp [bne, hk]
  unfold kidP at hp
  rw [hk, cond_true, at_ix key ks 0 cs.length, Nat.zero_add] at hp
  generalize ixS key 0 ks = ix at *
  have hb : (decide (ix ≥ 0) && decide (ix < (cs.length : Int))) = true := by
    cases hb : (decide (ix ≥ 0) && decide (ix < (cs.length : Int))) with
    | true => rfl
    | false => rw [hb, cond_false] at hp; omega
  rw [hb, cond_true] at hp
  subst hp
  rw [Bool.and_eq_true] at hb
  obtain ⟨h1, h2⟩ := hb
  have hlA : (ocE (Tr.encs cs)).length = cs.length := by rw [ocE_len, Tr.encs_len]
  have ht1 : (strs ks).take ks.length = strs ks := by rw [← strs_len ks]; simp
  have hA := ocE_refs (Tr.encs cs)
  have hR := fun m => ocE_ren m (Tr.encs cs)
  have hB := ocE_refs (Tr.encs (cs.set i v))
  have hRB := fun m => ocE_ren m (Tr.encs (cs.set i v))
  have hg : ∀ X, ((ocE (Tr.encs cs)).set i X)[i]? = some X := fun X => by rw [List.getElem?_set_self]; rw [hlA]; exact hi
  have hss : ∀ X Y, ((ocE (Tr.encs cs)).set i X).set i Y = (ocE (Tr.encs cs)).set i Y := fun X Y => List.set_set ..
  have hfin : (ocE (Tr.encs cs)).set i (v.enc.map oc) = ocE (Tr.encs (cs.set i v)) := by rw [encs_set, ocE_set]
  have hg0 : ∃ Z, (ocE (Tr.encs cs))[i]? = some Z ∧ ∃ a b c d e, Z = [a, b, c, d, e] := by
    refine ⟨(cs[i]).enc.map oc, ?_, ?_⟩
    · simp only [ocE, List.getElem?_map, Tr.encs_get cs i hi, Option.map_some]
    · generalize cs[i] = c; obtain ⟨a, b, c, d, e⟩ := c; exact ⟨_, _, _, _, _, rfl⟩
  obtain ⟨_, hg0, a0, b0, c0, d0, e0, rfl⟩ := hg0
  obtain ⟨k1, n1, s1, ks1, cs1⟩ := v
  have hfl := flatE_strs ks1
  have hot := oT_trs cs1
  have hrb := rowB_tr cs1
  have c00 : (0 : Int) ≤ (i : Int) := by omega
  have g1 := gvE_oc (Tr.encs (cs.set i (.mk k1 n1 s1 ks1 cs1)))
  have g2 : (Tr.encs (cs.set i (.mk k1 n1 s1 ks1 cs1))).take cs.length = Tr.encs (cs.set i (.mk k1 n1 s1 ks1 cs1)) := List.take_of_length_le (by rw [Tr.encs_len, List.length_set]; exact Nat.le_refl _)
  simp only [WiF, Tr.enc, List.map_cons, List.map_nil, List.length_set, oc] at hcp hcv hfin ⊢
  generalize ocE (Tr.encs (cs.set i (.mk k1 n1 s1 ks1 cs1))) = B at *
  generalize ocE (Tr.encs cs) = A at *
  apply eq_call
  refine call_eq rfl Try.func25 rfl (by kernel_rfl) ?_
  unfold Try.f25
  simp (disch := ((try simp only [List.length_cons, List.length_append, List.length_nil, List.length_map]); omega)) only [↓GO, ↓DRW, GA, ren, renB, footX, refs, cellsV, cst, cstAt, nilC, idxAddr, E.load, E.store, binO, isC, bin, ibin, sbin, una, isShift, okCell, packV, lenV, blt, fnV, asArg, snapV, snapS, snapP, snapC, snapX, flatV, flatT, openK, layBack, allT, allZ, mkS, srcOf0, unN, idxV, nilEq, give, tupV, mkEnv, extV, pickV, LVS, OVS, LTS, TYS, PMS, pmT, OWS, ownT, GHS, ghT, DMS, dmT, Int.reduceToNat, Nat.reduceGT, ↓reduceIte, Nat.reduceAdd, Nat.reduceMul, Nat.reduceSub, Nat.reduceEqDiff, Nat.reduceLeDiff, Nat.reduceLT, Nat.reduceBEq, Int.reduceBEq, Int.reduceBNe, Int.reduceEq, Int.reduceLT, Int.reduceLE, Int.reduceGT, Int.reduceNeg, reduceCtorEq, selK_some, selK_none, bltO, brwK, brwA, brwB, sliceO, mkO, appO, ghOne, ghAt, ghCells, fld1, unf1, setC, oc, oTs, oT, rowT, rowT.rowTs, rowB, isL, Bool.not_false, Bool.true_and, Bool.and_true, Bool.and_self, List.flatMap_append, List.map_append, List.set_cons_zero, List.set_cons_succ, Int.cast_ofNat_Int, getE_zero, getE_one, getE_two, Option.isSome_none, g1, g2, hcp, hcv, hk, hk', h, h1, h2, ht1, hA, hR, hB, hRB, hg, hss, hg0, hfin, hlA, c00, hi, if_true, Int.toNat_natCast, hfl, hot, hrb, strs_len, Tr.encs_len, ocE_len, ocE_ren, ocE_refs, rch3]
  refine dyn_pos (by kernel_rfl) ?_
  rfl
set_option maxHeartbeats 2000000 in
theorem c_wiF_c (key : Str) (k n : Int) (s : Str) (ks : List Str) (cs : List Tr) (v : Tr) (hk : (k == 6) = true) (hl : ks.length ≤ 1048576) (hl2 : cs.length ≤ 1048576) (hp : kidP key k ks cs = -1) (hcp : CpO (.mk k n s ks cs)) (hcv : CpO v) :
    WiF key (.mk k n s ks cs) v (.mk k n s (ks ++ [key]) (cs ++ [v])) := by
  obtain ⟨cap, hcp⟩ := hcp
  obtain ⟨capv, hcv⟩ := hcv
  have h := c_ix key ks hl
  have hk' : (k != 6) = false := by simp [bne, hk]
  unfold kidP at hp
  rw [hk, cond_true, at_ix key ks 0 cs.length, Nat.zero_add] at hp
  have hr := ixS_rng key ks 0
  generalize ixS key 0 ks = ix at *
  have hb : ∀ b1 b2, decide (ix ≥ 0) = b1 → decide (ix < (cs.length : Int)) = b2 → (b1 && b2) = false := fun b1 b2 e1 e2 => by
    subst e1 e2
    cases hb : (decide (ix ≥ 0) && decide (ix < (cs.length : Int))) with
    | false => rfl
    | true =>
      rw [hb, cond_true] at hp
      simp only [Bool.and_eq_true, decide_eq_true_eq] at hb
      omega
  clear hp hr
  have hlA : (ocE (Tr.encs cs)).length = cs.length := by rw [ocE_len, Tr.encs_len]
  have ht1 : (strs ks).take ks.length = strs ks := by rw [← strs_len ks]; simp
  have hA := ocE_refs (Tr.encs cs)
  have hR := fun m => ocE_ren m (Tr.encs cs)
  have hm1 : cs.length + 1 - 1 = cs.length := by omega
  have hm0 : ¬ (cs.length + 1 = 0) := by omega
  have hg1 := fun y => mid_get (ocE (Tr.encs cs)) [] y cs.length hlA
  have hs1 := fun y z => mid_set (ocE (Tr.encs cs)) [] y z cs.length hlA
  have hle : ∀ y : List V, (ocE (Tr.encs cs) ++ [y]).length = cs.length + 1 := fun y => by simp [hlA]
  obtain ⟨k1, n1, s1, ks1, cs1⟩ := v
  have hfl := flatE_strs ks1
  have hot := oT_trs cs1
  have hrb := rowB_tr cs1
  have hke : strs (ks ++ [key]) = strs ks ++ [[.str key]] := strs_snoc ks key
  have hlk : (ks ++ [key]).length = ks.length + 1 := by simp
  have hlc : (cs ++ [Tr.mk k1 n1 s1 ks1 cs1]).length = cs.length + 1 := by simp
  have hoe : ocE (Tr.encs (cs ++ [Tr.mk k1 n1 s1 ks1 cs1])) = ocE (Tr.encs cs) ++ [(Tr.mk k1 n1 s1 ks1 cs1).enc.map oc] := by rw [encs_snoc, ocE_app]; rfl
  have g1 := gvE_oc (Tr.encs (cs ++ [Tr.mk k1 n1 s1 ks1 cs1]))
  rw [hoe] at g1
  have g2 : (Tr.encs (cs ++ [Tr.mk k1 n1 s1 ks1 cs1])).take (cs.length + 1) = Tr.encs (cs ++ [Tr.mk k1 n1 s1 ks1 cs1]) := List.take_of_length_le (by rw [Tr.encs_len, hlc]; exact Nat.le_refl _)
  have g3 : (strs (ks ++ [key])).take (ks.length + 1) = strs (ks ++ [key]) := List.take_of_length_le (by rw [strs_len, hlk]; exact Nat.le_refl _)
  have g4 : (strs ks).take ks.length = strs ks := ht1
  rw [hke] at g3
  generalize hEE : Tr.encs (cs ++ [Tr.mk k1 n1 s1 ks1 cs1]) = EE at g1 g2
  simp only [WiF, hEE, hlc, hlk, hke, Tr.enc, List.map_cons, List.map_nil, oc] at hcp hcv g1 ⊢
  clear hoe hEE
  generalize ocE (Tr.encs cs) = A at *
  cases h1 : decide (ix ≥ 0) with
  | false =>
    apply eq_call
    refine call_eq rfl Try.func25 rfl (by kernel_rfl) ?_
    unfold Try.f25
    simp (disch := ((try simp only [List.length_cons, List.length_append, List.length_nil, List.length_map]); omega)) only [↓GO, ↓DRW, GA, ren, renB, footX, refs, cellsV, cst, cstAt, nilC, idxAddr, E.load, E.store, binO, isC, bin, ibin, sbin, una, isShift, okCell, packV, lenV, blt, fnV, asArg, snapV, snapS, snapP, snapC, snapX, flatV, flatT, openK, layBack, allT, allZ, mkS, srcOf0, unN, idxV, nilEq, give, tupV, mkEnv, extV, pickV, LVS, OVS, LTS, TYS, PMS, pmT, OWS, ownT, GHS, ghT, DMS, dmT, Int.reduceToNat, Nat.reduceGT, ↓reduceIte, Nat.reduceAdd, Nat.reduceMul, Nat.reduceSub, Nat.reduceEqDiff, Nat.reduceLeDiff, Nat.reduceLT, Nat.reduceBEq, Int.reduceBEq, Int.reduceBNe, Int.reduceEq, Int.reduceLT, Int.reduceLE, Int.reduceGT, Int.reduceNeg, reduceCtorEq, selK_some, selK_none, bltO, brwK, brwA, brwB, sliceO, mkO, appO, ghOne, ghAt, ghCells, fld1, unf1, setC, oc, oTs, oT, rowT, rowT.rowTs, rowB, isL, Bool.not_false, Bool.true_and, Bool.and_true, Bool.and_self, List.flatMap_append, List.map_append, List.set_cons_zero, List.set_cons_succ, Int.cast_ofNat_Int, getE_zero, getE_one, getE_two, Option.isSome_none, g1, g2, g3, hcp, hcv, hk, hk', h, h1, ht1, hA, hR, hm1, hm0, if_false, hg1, hs1, hle, hlA, hfl, hot, hrb, strs_len, Tr.encs_len, ocE_len, ocE_ren, ocE_refs, rch3, le_T]
    refine dyn_pos (by kernel_rfl) ?_
    rfl
  | true =>
    have h2 : decide (ix < (cs.length : Int)) = false := by have := hb _ _ h1 rfl; simpa using this
    apply eq_call
    refine call_eq rfl Try.func25 rfl (by kernel_rfl) ?_
    unfold Try.f25
    simp (disch := ((try simp only [List.length_cons, List.length_append, List.length_nil, List.length_map]); omega)) only [↓GO, ↓DRW, GA, ren, renB, footX, refs, cellsV, cst, cstAt, nilC, idxAddr, E.load, E.store, binO, isC, bin, ibin, sbin, una, isShift, okCell, packV, lenV, blt, fnV, asArg, snapV, snapS, snapP, snapC, snapX, flatV, flatT, openK, layBack, allT, allZ, mkS, srcOf0, unN, idxV, nilEq, give, tupV, mkEnv, extV, pickV, LVS, OVS, LTS, TYS, PMS, pmT, OWS, ownT, GHS, ghT, DMS, dmT, Int.reduceToNat, Nat.reduceGT, ↓reduceIte, Nat.reduceAdd, Nat.reduceMul, Nat.reduceSub, Nat.reduceEqDiff, Nat.reduceLeDiff, Nat.reduceLT, Nat.reduceBEq, Int.reduceBEq, Int.reduceBNe, Int.reduceEq, Int.reduceLT, Int.reduceLE, Int.reduceGT, Int.reduceNeg, reduceCtorEq, selK_some, selK_none, bltO, brwK, brwA, brwB, sliceO, mkO, appO, ghOne, ghAt, ghCells, fld1, unf1, setC, oc, oTs, oT, rowT, rowT.rowTs, rowB, isL, Bool.not_false, Bool.true_and, Bool.and_true, Bool.and_self, List.flatMap_append, List.map_append, List.set_cons_zero, List.set_cons_succ, Int.cast_ofNat_Int, getE_zero, getE_one, getE_two, Option.isSome_none, g1, g2, g3, hcp, hcv, hk, hk', h, h1, h2, ht1, hA, hR, hm1, hm0, if_false, hg1, hs1, hle, hlA, hfl, hot, hrb, strs_len, Tr.encs_len, ocE_len, ocE_ren, ocE_refs, rch3, le_T]
    refine dyn_pos (by kernel_rfl) ?_
    rfl
end Go.Proofs.Ytcphjdfmjhijkaa
/- The law of With. Conditions: those of each lemma. -/
namespace Go.Proofs.Ytcphjdfmjhijkaa
open E
set_option linter.unusedSimpArgs false
set_option linter.unusedVariables false
set_option maxRecDepth 100000
theorem bulks_set : ∀ (cs : List Tr) (i : Nat) (v : Tr), Tr.bulks (cs.set i v) ≤ Tr.bulks cs + v.bulk
  | [], i, v => by simp [Tr.bulks]
  | c :: cs, 0, v => by simp only [List.set_cons_zero, Tr.bulks]; omega
  | c :: cs, i + 1, v => by
    have := bulks_set cs i v
    simp only [List.set_cons_succ, Tr.bulks]; omega
theorem bulks_snoc : ∀ (cs : List Tr) (v : Tr), Tr.bulks (cs ++ [v]) = Tr.bulks cs + v.bulk
  | [], v => by simp [Tr.bulks]
  | c :: cs, v => by
    have := bulks_snoc cs v
    simp only [List.cons_append, Tr.bulks]; omega
theorem bulkS_snoc : ∀ (ks : List Str) (k : Str), bulkS (ks ++ [k]) = bulkS ks + k.length
  | [], v => by simp [bulkS]
  | c :: ks, v => by
    have := bulkS_snoc ks v
    simp only [List.cons_append, bulkS]; omega
theorem withT_eq (key : Str) (v : Tr) (k n : Int) (s : Str) (ks : List Str) (cs : List Tr) : withT key v (.mk k n s ks cs) = cond (k == 6) (cond (decide (kidP key k ks cs ≥ 0)) (.mk k n s ks (cs.set (kidP key k ks cs).toNat v)) (.mk k n s (ks ++ [key]) (cs ++ [v]))) (.mk k n s ks cs) := rfl
theorem withT_bulk (key : Str) (v t : Tr) : (withT key v t).bulk ≤ t.bulk + v.bulk + key.length + 2 := by
  obtain ⟨k, n, s, ks, cs⟩ := t
  rw [withT_eq]
  cases hk : (k == 6) with
  | false => rw [cond_false]; omega
  | true =>
    rw [cond_true]
    cases hd : decide (kidP key k ks cs ≥ 0) with
    | true =>
      have := bulks_set cs (kidP key k ks cs).toNat v
      rw [cond_true]
      simp only [Tr.bulk, List.length_set]; omega
    | false =>
      rw [cond_false]
      simp only [Tr.bulk, List.length_append, List.length_cons, List.length_nil, bulks_snoc, bulkS_snoc]; omega
theorem cnts_small4 (cs : List Tr) (h : cs.length + Tr.bulks cs ≤ 4194304) : cntTs cs ≤ 33554432 := by
  have h1 := cnts_le cs
  have h2 := Tr.nds_leM cs
  omega
theorem c_wiO (key : Str) (t v : Tr) (hl : t.bulk ≤ 1048576) (hv : v.bulk ≤ 1048576) : WiO key t v (withT key v t) ∧ WiF key t v (withT key v t) := by
  have hcp := c_cpO _ t (Nat.le_refl _) hl
  have hcv := c_cpO _ v (Nat.le_refl _) hv
  obtain ⟨k, n, s, ks, cs⟩ := t
  simp only [Tr.bulk] at hl
  have hrg := kidP_rng key k ks cs
  rw [withT_eq]
  cases hk : (k == 6) with
  | false => rw [cond_false]; exact ⟨c_wiO_a key k n s ks cs v hk hcp, c_wiF_a key k n s ks cs v hk hcp⟩
  | true =>
    rcases hrg with hkp | ⟨i, hkp, hi⟩
    · rw [hkp, show decide ((-1 : Int) ≥ 0) = false from by decide, cond_true, cond_false]
      exact ⟨c_wiO_c key k n s ks cs v hk (by omega) (by omega) hkp hcp hcv, c_wiF_c key k n s ks cs v hk (by omega) (by omega) hkp hcp hcv⟩
    · rw [hkp]
      have c1 : decide ((i : Int) ≥ 0) = true := by apply decide_eq_true; omega
      rw [c1, cond_true, cond_true, Int.toNat_natCast]
      exact ⟨c_wiO_b key k n s ks cs v hk (by omega) (by omega) i hkp hi hcp hcv, c_wiF_b key k n s ks cs v hk (by omega) (by omega) i hkp hi hcp hcv⟩
set_option maxHeartbeats 16000000 in
theorem c_lawWith_in (key : Str) (k n : Int) (s : Str) (ks : List Str) (cs : List Tr) (k2 n2 : Int) (s2 : Str) (ks2 : List Str) (cs2 : List Tr) (hkey : key.length ≤ 1048576) (ho : (Tr.mk k n s ks cs).ok) (ho2 : (Tr.mk k2 n2 s2 ks2 cs2).ok)
    (hb : (Tr.mk k n s ks cs).bulk + (Tr.mk k2 n2 s2 ks2 cs2).bulk ≤ 1048576) :
    EV Try.prog pol (.call 5 [.agg ((Tr.mk k n s ks cs).enc.map .t), .t (.str key), .agg ((Tr.mk k2 n2 s2 ks2 cs2).enc.map .t)] []) = some (.call (.t (.bool true)) []) := by
  have hsz := c_szTree _ (Tr.mk k n s ks cs) (Nat.le_refl _) ho 1048576 (by omega) (by omega)
  rw [left_eq (by omega)] at hsz
  have hsz2 := c_szTree _ (Tr.mk k2 n2 s2 ks2 cs2) (Nat.le_refl _) ho2 (1048576 - ((Tr.mk k n s ks cs).bulk : Int)) (by omega) (by omega)
  rw [left_eq (by omega)] at hsz2
  have c1 : decide ((key.length : Int) > 1048576) = false := by apply decide_eq_false; omega
  have c2 : decide (1048576 - ((Tr.mk k n s ks cs).bulk : Int) < 0) = false := by apply decide_eq_false; omega
  have c3 : decide (1048576 - ((Tr.mk k n s ks cs).bulk : Int) - ((Tr.mk k2 n2 s2 ks2 cs2).bulk : Int) < 0) = false := by apply decide_eq_false; omega
  have hto := c_toF (Tr.mk k n s ks cs) (by omega)
  have hto2 := c_toF (Tr.mk k2 n2 s2 ks2 cs2) (by omega)
  have htO := c_toO _ (Tr.mk k n s ks cs) (Nat.le_refl _) (by omega)
  have htO2 := c_toO _ (Tr.mk k2 n2 s2 ks2 cs2) (Nat.le_refl _) (by omega)
  have heqT := c_eqTree _ (Tr.mk k n s ks cs) (Nat.le_refl _) (by omega)
  have heqT2 := c_eqTree _ (Tr.mk k2 n2 s2 ks2 cs2) (Nat.le_refl _) (by omega)
  obtain ⟨hI, hF⟩ := c_wiO key (Tr.mk k n s ks cs) (Tr.mk k2 n2 s2 ks2 cs2) (by omega) (by omega)
  have hbr := withT_bulk key (Tr.mk k2 n2 s2 ks2 cs2) (Tr.mk k n s ks cs)
  have hcR := c_cpR _ (Tr.mk k2 n2 s2 ks2 cs2) (Nat.le_refl _) (by omega)
  have hb' := hb
  simp only [Tr.bulk] at hb'
  have hR := c_wiR key k n s ks cs (Tr.mk k2 n2 s2 ks2 cs2) (by omega) (by omega) (fun c hc => c_cpR _ c (Nat.le_refl _) (by have := Tr.bulks_mem hc; omega)) hcR
  clear hcR
  generalize withT key (Tr.mk k2 n2 s2 ks2 cs2) (Tr.mk k n s ks cs) = r at *
  have heqR := c_eqTree _ r (Nat.le_refl _) (by omega)
  obtain ⟨k1, n1, s1, ks1, cs1⟩ := r
  simp only [Tr.bulk] at hbr
  obtain ⟨cap, hI⟩ := hI
  have hcn := cnts_small4 cs (by omega)
  have hcn2 := cnts_small4 cs2 (by omega)
  have hcn1 := cnts_small4 cs1 (by omega)
  have hM1 := c_markT (.t (.int .i64 k)) (.t (.int .i64 n)) (.t (.str s)) ks cs (by omega) (by omega) ks.length cs.length rfl rfl (some ks.length) (some cs.length) 1 (by omega) k n s rfl rfl rfl
  have hM2 := c_markT (.t (.int .i64 k2)) (.t (.int .i64 n2)) (.t (.str s2)) ks2 cs2 (by omega) (by omega) ks2.length cs2.length rfl rfl (some ks2.length) (some cs2.length) (1 + ks.length + cntTs cs) (by omega) k2 n2 s2 rfl rfl rfl
  have hM3 := c_markT (.t (.int .i64 k1)) (.t (.int .i64 n1)) (.t (.str s1)) ks1 cs1 (by omega) (by omega) ks1.length cs1.length rfl rfl none cap 1 (by omega) k1 n1 s1 rfl rfl rfl
  have hH := c_heldT k1 n1 s1 ks1 cs1 (by omega) (by omega) 1 (by omega)
  rw [show ((1 : Nat) : Int) = 1 from rfl] at hM1 hM3 hH
  have g1 : decide (((1 + ks.length + cntTs cs + ks2.length + cntTs cs2 : Nat) : Int) < 0) = false := by apply decide_eq_false; omega
  have g2 : decide (((1 + ks1.length + cntTs cs1 : Nat) : Int) < 0) = false := by apply decide_eq_false; omega
  have t1 := take_strs ks ks.length rfl
  have t2 := take_oc cs cs.length rfl
  have t3 := take_strs ks1 ks1.length rfl
  have t4 := take_oc cs1 cs1.length rfl
  have t5 := take_strs (mkS ks1.length 1) ks1.length (mkS_len _ _).symm
  have t6 := take_oc (mkTrs (1 + ks1.length) cs1) cs1.length (mkTrs_len _ _).symm
  have t7 := take_strs ks2 ks2.length rfl
  have t8 := take_oc cs2 cs2.length rfl
  have f1 := flatE_strs ks1
  have f2 := rowB_tr cs1
  unfold EqT at heqT heqT2 heqR
  unfold ToO at htO htO2
  unfold WiR at hR
  unfold WiF at hF
  clear ho ho2 hb hb' hbr
  generalize (Tr.mk k n s ks cs).bulk = bt at *
  generalize (Tr.mk k2 n2 s2 ks2 cs2).bulk = bt2 at *
  simp only [Tr.enc, List.map_cons, List.map_nil] at hsz hsz2 hto hto2 htO htO2 heqT heqT2 heqR hR hI hF hM1 hM2 hM3 hH ⊢
  generalize cntTs cs = m0 at *
  generalize cntTs cs2 = m2 at *
  generalize cntTs cs1 = m1 at *
  generalize mkTrs (1 + ks.length + m0 + ks2.length) cs2 = mc2 at *
  generalize mkS ks2.length (1 + ks.length + m0) = ms2 at *
  generalize mkTrs (1 + ks1.length) cs1 = mc1 at *
  generalize mkS ks1.length 1 = ms1 at *
  generalize mkTrs (1 + ks.length) cs = mc at *
  generalize mkS ks.length 1 = ms at *
  refine call_eq rfl Try.func5 rfl (by kernel_rfl) ?_
  unfold Try.f5
  simp (disch := ((try simp only [List.length_cons, List.length_append, List.length_nil, List.length_map]); omega)) only [↓GO, ↓DRW, GA, ren, renB, footX, refs, cellsV, cst, cstAt, nilC, idxAddr, E.load, E.store, binO, isC, bin, ibin, sbin, una, isShift, okCell, packV, lenV, blt, fnV, asArg, snapV, snapS, snapP, snapC, snapX, flatV, flatT, openK, layBack, allT, allZ, mkS, srcOf0, unN, idxV, nilEq, give, tupV, mkEnv, extV, pickV, LVS, OVS, LTS, TYS, PMS, pmT, OWS, ownT, GHS, ghT, DMS, dmT, Int.reduceToNat, Nat.reduceGT, ↓reduceIte, Nat.reduceAdd, Nat.reduceMul, Nat.reduceSub, Nat.reduceEqDiff, Nat.reduceLeDiff, Nat.reduceLT, Nat.reduceBEq, Int.reduceBEq, Int.reduceBNe, Int.reduceEq, Int.reduceLT, Int.reduceLE, Int.reduceGT, Int.reduceNeg, reduceCtorEq, selK_some, selK_none, bltO, brwK, brwA, brwB, sliceO, mkO, appO, ghOne, ghAt, ghCells, fld1, unf1, setC, oc, oTs, oT, rowT, rowT.rowTs, rowB, isL, Bool.not_false, Bool.true_and, Bool.and_true, Bool.and_self, List.flatMap_append, List.map_append, List.set_cons_zero, List.set_cons_succ, Int.cast_ofNat_Int, getE_zero, getE_one, getE_two, Option.isSome_none, c1, c2, c3, hsz, hsz2, hto, hto2, htO, htO2, heqT, heqT2, heqR, hR, hI, hF, hM1, hM2, hM3, hH, g1, g2, t1, t2, t3, t4, t5, t6, t7, t8, f1, f2, List.drop_zero, snapE_oc, ocE_ren, ocE_refs, bne_self_eq_false, rch3]
  refine dyn_pos (by kernel_rfl) ?_
  refine dyn_pos (by kernel_rfl) ?_
  rfl
theorem c_lawWith (key : Str) (t v : Tr) (hko : key.length ≤ 9223372036854775807) (ho : t.ok) (ho2 : v.ok) : EV Try.prog pol (.call 5 [.agg (t.enc.map .t), .t (.str key), .agg (v.enc.map .t)] []) = some (.call (.t (.bool true)) []) := by
  obtain ⟨k, n, s, ks, cs⟩ := t
  obtain ⟨k2, n2, s2, ks2, cs2⟩ := v
  by_cases hkey : key.length ≤ 1048576
  · have c1 : decide ((key.length : Int) > 1048576) = false := by apply decide_eq_false; omega
    have hsz := c_szTree _ (Tr.mk k n s ks cs) (Nat.le_refl _) ho 1048576 (by omega) (by omega)
    by_cases hb1 : (Tr.mk k n s ks cs).bulk ≤ 1048576
    · by_cases hb : (Tr.mk k n s ks cs).bulk + (Tr.mk k2 n2 s2 ks2 cs2).bulk ≤ 1048576
      · exact c_lawWith_in key k n s ks cs k2 n2 s2 ks2 cs2 hkey ho ho2 hb
      · rw [left_eq (by omega)] at hsz
        have hsz2 := c_szTree _ (Tr.mk k2 n2 s2 ks2 cs2) (Nat.le_refl _) ho2 (1048576 - ((Tr.mk k n s ks cs).bulk : Int)) (by omega) (by omega)
        have hle : left (1048576 - ((Tr.mk k n s ks cs).bulk : Int)) (Tr.mk k2 n2 s2 ks2 cs2).bulk = -1 := if_pos (by omega)
        rw [hle] at hsz2
        have c2 : decide (1048576 - ((Tr.mk k n s ks cs).bulk : Int) < 0) = false := by apply decide_eq_false; omega
        clear hb hle ho ho2 hb1
        generalize (Tr.mk k n s ks cs).bulk = bt at *
        simp only [Tr.enc, List.map_cons, List.map_nil] at hsz hsz2 ⊢
        refine call_eq rfl Try.func5 rfl (by kernel_rfl) ?_
        unfold Try.f5
        simp (disch := ((try simp only [List.length_cons, List.length_append, List.length_nil, List.length_map]); omega)) only [↓GO, ↓DRW, GA, ren, renB, footX, refs, cellsV, cst, cstAt, nilC, idxAddr, E.load, E.store, binO, isC, bin, ibin, sbin, una, isShift, okCell, packV, lenV, blt, fnV, asArg, snapV, snapS, snapP, snapC, snapX, flatV, flatT, openK, layBack, allT, allZ, mkS, srcOf0, unN, idxV, nilEq, give, tupV, mkEnv, extV, pickV, LVS, OVS, LTS, TYS, PMS, pmT, OWS, ownT, GHS, ghT, DMS, dmT, Int.reduceToNat, Nat.reduceGT, ↓reduceIte, Nat.reduceAdd, Nat.reduceMul, Nat.reduceSub, Nat.reduceEqDiff, Nat.reduceLeDiff, Nat.reduceLT, Nat.reduceBEq, Int.reduceBEq, Int.reduceBNe, Int.reduceEq, Int.reduceLT, Int.reduceLE, Int.reduceGT, Int.reduceNeg, reduceCtorEq, selK_some, selK_none, bltO, brwK, brwA, brwB, sliceO, mkO, appO, ghOne, ghAt, ghCells, fld1, unf1, setC, oc, oTs, oT, rowT, rowT.rowTs, rowB, isL, Bool.not_false, Bool.true_and, Bool.and_true, Bool.and_self, List.flatMap_append, List.map_append, List.set_cons_zero, List.set_cons_succ, Int.cast_ofNat_Int, getE_zero, getE_one, getE_two, Option.isSome_none, c1, c2, hsz, hsz2]
    · have hle : left 1048576 (Tr.mk k n s ks cs).bulk = -1 := if_pos (by omega)
      rw [hle] at hsz
      clear hb1 hle ho ho2
      simp only [Tr.enc, List.map_cons, List.map_nil] at hsz ⊢
      refine call_eq rfl Try.func5 rfl (by kernel_rfl) ?_
      unfold Try.f5
      simp (disch := ((try simp only [List.length_cons, List.length_append, List.length_nil, List.length_map]); omega)) only [↓GO, ↓DRW, GA, ren, renB, footX, refs, cellsV, cst, cstAt, nilC, idxAddr, E.load, E.store, binO, isC, bin, ibin, sbin, una, isShift, okCell, packV, lenV, blt, fnV, asArg, snapV, snapS, snapP, snapC, snapX, flatV, flatT, openK, layBack, allT, allZ, mkS, srcOf0, unN, idxV, nilEq, give, tupV, mkEnv, extV, pickV, LVS, OVS, LTS, TYS, PMS, pmT, OWS, ownT, GHS, ghT, DMS, dmT, Int.reduceToNat, Nat.reduceGT, ↓reduceIte, Nat.reduceAdd, Nat.reduceMul, Nat.reduceSub, Nat.reduceEqDiff, Nat.reduceLeDiff, Nat.reduceLT, Nat.reduceBEq, Int.reduceBEq, Int.reduceBNe, Int.reduceEq, Int.reduceLT, Int.reduceLE, Int.reduceGT, Int.reduceNeg, reduceCtorEq, selK_some, selK_none, bltO, brwK, brwA, brwB, sliceO, mkO, appO, ghOne, ghAt, ghCells, fld1, unf1, setC, oc, oTs, oT, rowT, rowT.rowTs, rowB, isL, Bool.not_false, Bool.true_and, Bool.and_true, Bool.and_self, List.flatMap_append, List.map_append, List.set_cons_zero, List.set_cons_succ, Int.cast_ofNat_Int, getE_zero, getE_one, getE_two, Option.isSome_none, c1, hsz]
  · have c1 : decide ((key.length : Int) > 1048576) = true := by apply decide_eq_true; omega
    simp only [Tr.enc, List.map_cons, List.map_nil]
    refine call_eq rfl Try.func5 rfl (by kernel_rfl) ?_
    unfold Try.f5
    simp (disch := ((try simp only [List.length_cons, List.length_append, List.length_nil, List.length_map]); omega)) only [↓GO, ↓DRW, GA, ren, renB, footX, refs, cellsV, cst, cstAt, nilC, idxAddr, E.load, E.store, binO, isC, bin, ibin, sbin, una, isShift, okCell, packV, lenV, blt, fnV, asArg, snapV, snapS, snapP, snapC, snapX, flatV, flatT, openK, layBack, allT, allZ, mkS, srcOf0, unN, idxV, nilEq, give, tupV, mkEnv, extV, pickV, LVS, OVS, LTS, TYS, PMS, pmT, OWS, ownT, GHS, ghT, DMS, dmT, Int.reduceToNat, Nat.reduceGT, ↓reduceIte, Nat.reduceAdd, Nat.reduceMul, Nat.reduceSub, Nat.reduceEqDiff, Nat.reduceLeDiff, Nat.reduceLT, Nat.reduceBEq, Int.reduceBEq, Int.reduceBNe, Int.reduceEq, Int.reduceLT, Int.reduceLE, Int.reduceGT, Int.reduceNeg, reduceCtorEq, selK_some, selK_none, bltO, brwK, brwA, brwB, sliceO, mkO, appO, ghOne, ghAt, ghCells, fld1, unf1, setC, oc, oTs, oT, rowT, rowT.rowTs, rowB, isL, Bool.not_false, Bool.true_and, Bool.and_true, Bool.and_self, List.flatMap_append, List.map_append, List.set_cons_zero, List.set_cons_succ, Int.cast_ofNat_Int, getE_zero, getE_one, getE_two, Option.isSome_none, c1]
end Go.Proofs.Ytcphjdfmjhijkaa
/- The seat's own facts: the conditions on the program. Conditions: none. -/
namespace Go.Proofs.Ytcphjdfmjhijkaa
open E
theorem Try.own : ownKnob Try.prog.godebug = none := by kernel_rfl
theorem Try.laidOut : laidOutB Try.prog = true := by kernel_rfl
theorem Try.kids : Kids Try.prog (· < Try.prog.types.size) := kids_rows (by kernel_rfl) (by kernel_rfl)
theorem Try.full : ∀ t e, t < Try.prog.types.size → Try.prog.underlying t = some (.slice e) → 0 < Try.prog.cellsOf e := slices_full_of Try.prog (by kernel_rfl)
end Go.Proofs.Ytcphjdfmjhijkaa
/- What the laws' arguments are: trees. Conditions: those of each lemma. -/
namespace Go.Proofs.Ytcphjdfmjhijkaa
open E
set_option linter.unusedSimpArgs false
set_option linter.unusedVariables false
set_option maxRecDepth 100000
theorem WT_strsT {es : List (List T)} (h : ∀ c ∈ es, WT Try.prog 9 c) : ∃ ks, es = strs ks ∧ ∀ x ∈ ks, x.length ≤ 9223372036854775807 := by
  induction es with
  | nil => exact ⟨[], rfl, by simp⟩
  | cons c es ih =>
    obtain ⟨ks, e1, e2⟩ := ih fun c' hc => h c' (by simp [hc])
    obtain ⟨l, e3, e4⟩ := (h c (by simp)).inv_str Try.underlying9
    exact ⟨l :: ks, by simp [strs, e1, e3], by simpa using ⟨e4, e2⟩⟩
theorem WT_trs {es : List (List T)} (h : ∀ c ∈ es, ∃ t : Tr, c = t.enc ∧ t.ok) : ∃ ts, es = Tr.encs ts ∧ Tr.oks ts := by
  induction es with
  | nil => exact ⟨[], rfl, trivial⟩
  | cons c es ih =>
    obtain ⟨ts, e1, e2⟩ := ih fun c' hc => h c' (by simp [hc])
    obtain ⟨t, e3, e4⟩ := h c (by simp)
    exact ⟨t :: ts, by simp [Tr.encs, e1, e3], ⟨e4, e2⟩⟩
theorem WT_tree {t : TypeId} {cs : List T} (h : WT Try.prog t cs) : (t = 39 → ∃ tr : Tr, cs = tr.enc ∧ tr.ok) ∧ (t = 23 → ∃ ts, cs = [.list 5 (Tr.encs ts)] ∧ ts.length ≤ 9223372036854775807 ∧ Tr.oks ts) := by
  have k1 : Try.prog.cellsOf 3 = 1 := by kernel_rfl
  have k2 : Try.prog.cellsOf 9 = 1 := by kernel_rfl
  have k3 : Try.prog.cellsOf 22 = 1 := by kernel_rfl
  have k4 : Try.prog.cellsOf 23 = 1 := by kernel_rfl
  have k5 : Try.prog.cellsOf 39 = 5 := by kernel_rfl
  induction h with
  | int t k n h hw =>
    constructor
    · rintro rfl; rw [Try.underlying39] at h; cases h
    · rintro rfl; rw [Try.underlying23] at h; cases h
  | bool t b h =>
    constructor
    · rintro rfl; rw [Try.underlying39] at h; cases h
    · rintro rfl; rw [Try.underlying23] at h; cases h
  | str t l h hl =>
    constructor
    · rintro rfl; rw [Try.underlying39] at h; cases h
    · rintro rfl; rw [Try.underlying23] at h; cases h
  | list t e es h hl hs ih =>
    constructor
    · rintro rfl; rw [Try.underlying39] at h; cases h
    · rintro rfl
      rw [Try.underlying23] at h
      cases h
      obtain ⟨ts, e1, e2⟩ := WT_trs fun c hc => (ih c hc).1 rfl
      subst e1
      refine ⟨ts, by rw [k5], ?_, e2⟩
      rw [Tr.encs_len] at hl
      exact hl
  | struct t fs cs h hl hs ih =>
    constructor
    · rintro rfl
      rw [Try.underlying39] at h
      cases h
      rw [k5] at hl
      match cs, hl with
      | [x0, x1, x2, x3, x4], _ =>
        simp [k1, k2, k3, k4] at hs ih
        obtain ⟨s0, s1, s2, s3, s4⟩ := hs
        obtain ⟨a, e0, _⟩ := s0.inv_int Try.underlying3
        obtain ⟨b, e1, _⟩ := s1.inv_int Try.underlying3
        obtain ⟨c, e2, hc⟩ := s2.inv_str Try.underlying9
        obtain ⟨es, e3, hes, hel⟩ := s3.inv_list Try.underlying22
        obtain ⟨ks, e5, hks⟩ := WT_strsT hel
        obtain ⟨ts, e4, ht1, ht2⟩ := ih
        rw [k2] at e3
        simp at e0 e1 e2 e3 e4
        subst e0 e1 e2 e3 e4 e5
        refine ⟨.mk a b c ks ts, rfl, hc, ?_, hks, ht1, ht2⟩
        rw [strs_len] at hes; exact hes
    · rintro rfl; rw [Try.underlying23] at h; cases h
end Go.Proofs.Ytcphjdfmjhijkaa

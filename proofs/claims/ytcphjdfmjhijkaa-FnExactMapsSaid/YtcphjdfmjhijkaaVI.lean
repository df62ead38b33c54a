/- Joined: M8 M9 M10 M11 M12 M13 M14 M15 S1 W4. Conditions: those of each lemma. -/
import Derived.Test.YtcphjdfmjhijkaaVH
import Derived.Test.YtcphjdfmjhijkaaRows
import Derived.ProofKit
import Derived.ReadAgain
set_option linter.unusedVariables false
set_option linter.unusedSimpArgs false
namespace Go.Proofs.Ytcphjdfmjhijkaa
open E
set_option linter.unusedSimpArgs false
set_option linter.unusedVariables false
set_option maxRecDepth 100000
def CpO (t : Tr) : Prop := ∃ cap, EV Try.prog pol (.callO false 34 [.agg (t.enc.map .t)] []) = some (.call (match t with
  | .mk k n s ks cs => .agg [.t (.int .i64 k), .t (.int .i64 n), .t (.str s), .sl 0 0 ks.length none, .sl 1 0 cs.length cap]) (match t with | .mk k n s ks cs => [.ts 1 (strs ks), .vs 5 (ocE (Tr.encs cs))]))
theorem l_cpO (k n : Int) (s : Str) (ks : List Str) (cs : List Tr) (hl : cs.length ≤ 1048576) (hkl : ks.length ≤ 1048576) (hc : ∀ c ∈ cs, CpO c) : ∀ (rest pre : List Tr) (m : Nat) (cap : Option Nat), cs = pre ++ rest → m = pre.length →
    ∃ cap', EV Try.prog pol (.loop 34 122 0 [.ptr 0 0 0, .ptr 1 0 0, .sl 2 0 m cap, .t (.list 5 (Tr.encs cs)), .t (.int .i64 (cs.length : Int)), .t (.int .i64 (pre.length : Int))] [.vs 5 [[.t (.int .i64 k), .t (.int .i64 n), .t (.str s), .sl 3 0 ks.length none, .t (.list 5 (Tr.encs cs))]], .vs 5 [zV], .vs 5 (ocE (Tr.encs pre)), .ts 1 (strs ks)])
      = some (.loop (.exit 0) [.ptr 0 0 0, .ptr 1 0 0, .sl 2 0 cs.length cap'] [.vs 5 [[.t (.int .i64 k), .t (.int .i64 n), .t (.str s), .sl 3 0 ks.length none, .t (.list 5 (Tr.encs cs))]], .vs 5 [zV], .vs 5 (ocE (Tr.encs cs)), .ts 1 (strs ks)])
  | [], pre, m, cap, hs, hm => by
    have c : decide ((pre.length : Int) < (cs.length : Int)) = false := by simp [hs]
    have e : cs = pre := by simpa using hs
    refine ⟨cap, ?_⟩
    simp only [zV]
    refine loop_eq Try.func34 rfl rfl ?_
    simp (disch := ((try simp only [List.length_cons, List.length_append, List.length_nil, List.length_map]); omega)) only [↓GO, ↓DRW, GA, ren, renB, footX, refs, cellsV, cst, cstAt, nilC, idxAddr, E.load, E.store, binO, isC, bin, ibin, sbin, una, isShift, okCell, packV, lenV, blt, fnV, asArg, snapV, snapS, snapP, snapC, snapX, flatV, flatT, openK, layBack, allT, allZ, mkS, srcOf0, unN, idxV, nilEq, give, tupV, mkEnv, extV, pickV, LVS, OVS, LTS, TYS, PMS, pmT, OWS, ownT, GHS, ghT, Int.reduceToNat, Nat.reduceGT, ↓reduceIte, Nat.reduceAdd, Nat.reduceMul, Nat.reduceSub, Nat.reduceEqDiff, Nat.reduceLeDiff, Nat.reduceLT, Nat.reduceBEq, Int.reduceBEq, Int.reduceBNe, Int.reduceEq, Int.reduceLT, Int.reduceLE, Int.reduceGT, Int.reduceNeg, reduceCtorEq, selK_some, selK_none, bltO, brwK, brwA, brwB, sliceO, mkO, appO, ghOne, ghAt, ghCells, fld1, unf1, setC, oc, oTs, oT, rowT, rowT.rowTs, rowB, isL, Bool.not_false, Bool.true_and, Bool.and_true, Bool.and_self, List.flatMap_append, List.map_append, List.set_cons_zero, List.set_cons_succ, Int.cast_ofNat_Int, getE_zero, getE_one, getE_two, Option.isSome_none, c, Tr.encs_len, ocE_ren, ocE_refs, rch3]
    rw [hm, ← e]
  | x :: rest, pre, m, cap, hs, hm => by
    have c : decide ((pre.length : Int) < (cs.length : Int)) = true := by simp [hs]; omega
    have c0 : decide ((0 : Int) ≤ (pre.length : Int)) = true := by simp
    have hget : (Tr.encs cs)[pre.length]? = some x.enc := by rw [hs]; simp [Tr.encs_eq]
    have hlen : pre.length + rest.length + 1 ≤ cs.length := by rw [hs]; simp; omega
    obtain ⟨cpx, hcx⟩ := hc x (by rw [hs]; simp)
    obtain ⟨cap', IH⟩ := l_cpO k n s ks cs hl hkl hc rest (pre ++ [x]) (m + 1) none (by rw [hs]; simp) (by simp [hm])
    refine ⟨cap', ?_⟩
    rw [encs_snoc, ocE_app, show ((pre ++ [x]).length : Int) = (pre.length : Int) + 1 by simp] at IH
    have hol : (ocE (Tr.encs pre)).length = m := by rw [ocE_len, Tr.encs_len, hm]
    have hml : m ≤ 1048576 := by omega
    have hA := ocE_refs (Tr.encs pre)
    have hR := fun r => ocE_ren r (Tr.encs pre)
    have hm1 : m + 1 - 1 = m := by omega
    have hm0 : ¬ (m + 1 = 0) := by omega
    clear hs
    obtain ⟨k1, n1, s1, ks1, cs1⟩ := x
    have hfl := flatE_strs ks1
    have hot := oT_trs cs1
    have hg1 := fun y => mid_get (ocE (Tr.encs pre)) [] y m hol
    have hs1 := fun y z => mid_set (ocE (Tr.encs pre)) [] y z m hol
    have hle : ∀ y : List V, (ocE (Tr.encs pre) ++ [y]).length = m + 1 := fun y => by simp [hol]
    simp only [Tr.enc, List.map_cons, List.map_nil, zV, ocE_cons, ocE_nil, oc] at hcx hget IH ⊢
    generalize ocE (Tr.encs pre) = A at *
    refine loop_eq Try.func34 rfl rfl ?_
    simp (disch := ((try simp only [List.length_cons, List.length_append, List.length_nil, List.length_map]); omega)) only [↓GO, ↓DRW, GA, ren, renB, footX, refs, cellsV, cst, cstAt, nilC, idxAddr, E.load, E.store, binO, isC, bin, ibin, sbin, una, isShift, okCell, packV, lenV, blt, fnV, asArg, snapV, snapS, snapP, snapC, snapX, flatV, flatT, openK, layBack, allT, allZ, mkS, srcOf0, unN, idxV, nilEq, give, tupV, mkEnv, extV, pickV, LVS, OVS, LTS, TYS, PMS, pmT, OWS, ownT, GHS, ghT, Int.reduceToNat, Nat.reduceGT, ↓reduceIte, Nat.reduceAdd, Nat.reduceMul, Nat.reduceSub, Nat.reduceEqDiff, Nat.reduceLeDiff, Nat.reduceLT, Nat.reduceBEq, Int.reduceBEq, Int.reduceBNe, Int.reduceEq, Int.reduceLT, Int.reduceLE, Int.reduceGT, Int.reduceNeg, reduceCtorEq, selK_some, selK_none, bltO, brwK, brwA, brwB, sliceO, mkO, appO, ghOne, ghAt, ghCells, fld1, unf1, setC, oc, oTs, oT, rowT, rowT.rowTs, rowB, isL, Bool.not_false, Bool.true_and, Bool.and_true, Bool.and_self, List.flatMap_append, List.map_append, List.set_cons_zero, List.set_cons_succ, Int.cast_ofNat_Int, getE_zero, getE_one, getE_two, Option.isSome_none, c, c0, Tr.encs_len, hget, hcx, wrap_in, hol, hA, hR, hm1, hm0, if_false, hg1, hs1, hle, hfl, hot, strs_len, ocE_len, ocE_ren, ocE_refs, IH, rch3, le_T]
theorem c_cpO : ∀ (N : Nat) (t : Tr), t.nd ≤ N → t.bulk ≤ 1048576 → CpO t
  | 0, .mk k n' s ks cs, h, _ => by simp [Tr.nd] at h
  | N + 1, .mk k n s ks cs, h, ho => by
    simp only [Tr.nd] at h
    simp only [Tr.bulk] at ho
    have hc : ∀ c ∈ cs, CpO c := fun c hc => c_cpO N c (by have := Tr.nds_mem hc; omega) (by have := Tr.bulks_mem hc; omega)
    obtain ⟨cap, L⟩ := l_cpO k n s ks cs (by omega) (by omega) hc cs [] 0 (some 0) rfl rfl
    refine ⟨cap, ?_⟩
    have d1 := c_cloneS (strs ks) (by rw [strs_len]; omega)
    rw [strs_len] at d1
    simp only [List.length_nil, Int.natCast_zero, show ocE (Tr.encs []) = [] from rfl] at L
    simp only [Tr.enc, List.map_cons, List.map_nil, zV] at L ⊢
    refine callO_eq Try.func34 rfl (by kernel_rfl) ?_
    unfold Try.f34
    simp (disch := ((try simp only [List.length_cons, List.length_append, List.length_nil, List.length_map]); omega)) only [↓GO, ↓DRW, GA, ren, renB, footX, refs, cellsV, cst, cstAt, nilC, idxAddr, E.load, E.store, binO, isC, bin, ibin, sbin, una, isShift, okCell, packV, lenV, blt, fnV, asArg, snapV, snapS, snapP, snapC, snapX, flatV, flatT, openK, layBack, allT, allZ, mkS, srcOf0, unN, idxV, nilEq, give, tupV, mkEnv, extV, pickV, LVS, OVS, LTS, TYS, PMS, pmT, OWS, ownT, GHS, ghT, Int.reduceToNat, Nat.reduceGT, ↓reduceIte, Nat.reduceAdd, Nat.reduceMul, Nat.reduceSub, Nat.reduceEqDiff, Nat.reduceLeDiff, Nat.reduceLT, Nat.reduceBEq, Int.reduceBEq, Int.reduceBNe, Int.reduceEq, Int.reduceLT, Int.reduceLE, Int.reduceGT, Int.reduceNeg, reduceCtorEq, selK_some, selK_none, bltO, brwK, brwA, brwB, sliceO, mkO, appO, ghOne, ghAt, ghCells, fld1, unf1, setC, oc, oTs, oT, rowT, rowT.rowTs, rowB, isL, Bool.not_false, Bool.true_and, Bool.and_true, Bool.and_self, List.flatMap_append, List.map_append, List.set_cons_zero, List.set_cons_succ, Int.cast_ofNat_Int, getE_zero, getE_one, getE_two, Option.isSome_none, d1, L, Tr.encs_len, ocE_ren, ocE_refs, rch3]
/-! ### What stands under a key -/
/-- the first place of a key, from i on -/
def ixS (key : Str) : Nat → List Str → Int
  | _, [] => -1
  | i, k :: r => cond (k == key) (i : Int) (ixS key (i + 1) r)
def atI (key : Str) : Nat → List Str → Nat → Int
  | i, k :: r, m + 1 => cond (k == key) (i : Int) (atI key (i + 1) r m)
  | _, _, _ => -1
theorem ixS_rng (key : Str) : ∀ (r : List Str) (i : Nat), ixS key i r = -1 ∨ ((i : Int) ≤ ixS key i r ∧ ixS key i r < ((i + r.length : Nat) : Int))
  | [], i => .inl rfl
  | k :: r, i => by
    rw [ixS]
    cases hk : (k == key) with
    | true => right; simp only [cond_true, List.length_cons]; omega
    | false =>
      simp only [cond_false, List.length_cons]
      rcases ixS_rng key r (i + 1) with h | h
      · exact .inl h
      · right; omega
theorem at_ix (key : Str) : ∀ (r : List Str) (i m : Nat), atI key i r m = cond (decide (ixS key i r ≥ 0) && decide (ixS key i r < ((i + m : Nat) : Int))) (ixS key i r) (-1)
  | [], i, m => by cases m <;> simp [atI, ixS]
  | k :: r, i, 0 => by
    have := ixS_rng key (k :: r) i
    have hd : (decide (ixS key i (k :: r) ≥ 0) && decide (ixS key i (k :: r) < ((i + 0 : Nat) : Int))) = false := by
      simp only [Bool.and_eq_false_iff, decide_eq_false_iff_not]
      omega
    rw [hd]; simp [atI]
  | k :: r, i, m + 1 => by
    rw [atI, ixS]
    cases hk : (k == key) with
    | true =>
      have hd : (decide ((i : Int) ≥ 0) && decide ((i : Int) < ((i + (m + 1) : Nat) : Int))) = true := by
        simp only [Bool.and_eq_true, decide_eq_true_eq]; omega
      simp only [cond_true, hd]
    | false =>
      simp only [cond_false]
      rw [at_ix key r (i + 1) m, show i + 1 + m = i + (m + 1) by omega]
theorem l_ix (key : Str) (ks : List Str) (hl : ks.length ≤ 1048576) : ∀ (rest pre : List Str), ks = pre ++ rest → ∃ x,
    EV Try.prog pol (.loop 39 26 0 [.t (.list 1 (strs ks)), .t (.str key), .t (.int .i64 (ks.length : Int)), .t (.int .i64 (pre.length : Int))] []) = some (cond (decide (ixS key pre.length rest ≥ 0)) (.loop .ret [.t (.int .i64 (ixS key pre.length rest))] []) (.loop (.exit 0) [x] []))
  | [], pre, hs => by
    have c : decide ((pre.length : Int) < (ks.length : Int)) = false := by simp [hs]
    refine ⟨.bad, ?_⟩
    show _ = some (Resp.loop (.exit 0) [.bad] [])
    refine loop_eq Try.func39 rfl rfl ?_
    simp (disch := ((try simp only [List.length_cons, List.length_append, List.length_nil, List.length_map]); omega)) only [↓GO, ↓DRW, GA, ren, renB, footX, refs, cellsV, cst, cstAt, nilC, idxAddr, E.load, E.store, binO, isC, bin, ibin, sbin, una, isShift, okCell, packV, lenV, blt, fnV, asArg, snapV, snapS, snapP, snapC, snapX, flatV, flatT, openK, layBack, allT, allZ, mkS, srcOf0, unN, idxV, nilEq, give, tupV, mkEnv, extV, pickV, LVS, OVS, LTS, TYS, PMS, pmT, OWS, ownT, GHS, ghT, Int.reduceToNat, Nat.reduceGT, ↓reduceIte, Nat.reduceAdd, Nat.reduceMul, Nat.reduceSub, Nat.reduceEqDiff, Nat.reduceLeDiff, Nat.reduceLT, Nat.reduceBEq, Int.reduceBEq, Int.reduceBNe, Int.reduceEq, Int.reduceLT, Int.reduceLE, Int.reduceGT, Int.reduceNeg, reduceCtorEq, Int.cast_ofNat_Int, getE_zero, getE_one, getE_two, Option.isSome_none, c]
  | x :: rest, pre, hs => by
    have c : decide ((pre.length : Int) < (ks.length : Int)) = true := by simp [hs]; omega
    have hget : (strs ks)[pre.length]? = some [.str x] := by rw [hs]; simp [strs]
    have hlen : pre.length + rest.length + 1 ≤ ks.length := by rw [hs]; simp; omega
    obtain ⟨y, IH⟩ := l_ix key ks hl rest (pre ++ [x]) (by rw [hs]; simp)
    refine ⟨y, ?_⟩
    rw [show ((pre ++ [x]).length : Int) = (pre.length : Int) + 1 by simp, show (pre ++ [x]).length = pre.length + 1 by simp] at IH
    have hsym : (key == x) = (x == key) := by rw [Bool.eq_iff_iff]; simp only [beq_iff_eq]; exact eq_comm
    clear hs
    rw [ixS]
    cases hk : (x == key) <;> rw [hk] at hsym
    · simp only [cond_false]
      refine loop_eq Try.func39 rfl rfl ?_
      simp (disch := ((try simp only [List.length_cons, List.length_append, List.length_nil, List.length_map]); omega)) only [↓GO, ↓DRW, GA, ren, renB, footX, refs, cellsV, cst, cstAt, nilC, idxAddr, E.load, E.store, binO, isC, bin, ibin, sbin, una, isShift, okCell, packV, lenV, blt, fnV, asArg, snapV, snapS, snapP, snapC, snapX, flatV, flatT, openK, layBack, allT, allZ, mkS, srcOf0, unN, idxV, nilEq, give, tupV, mkEnv, extV, pickV, LVS, OVS, LTS, TYS, PMS, pmT, OWS, ownT, GHS, ghT, Int.reduceToNat, Nat.reduceGT, ↓reduceIte, Nat.reduceAdd, Nat.reduceMul, Nat.reduceSub, Nat.reduceEqDiff, Nat.reduceLeDiff, Nat.reduceLT, Nat.reduceBEq, Int.reduceBEq, Int.reduceBNe, Int.reduceEq, Int.reduceLT, Int.reduceLE, Int.reduceGT, Int.reduceNeg, reduceCtorEq, Int.cast_ofNat_Int, getE_zero, getE_one, getE_two, Option.isSome_none, c, hget, wrap_in, hsym, IH]
    · simp only [cond_true, show decide (((pre.length : Nat) : Int) ≥ 0) = true by simp]
      refine loop_eq Try.func39 rfl rfl ?_
      simp (disch := ((try simp only [List.length_cons, List.length_append, List.length_nil, List.length_map]); omega)) only [↓GO, ↓DRW, GA, ren, renB, footX, refs, cellsV, cst, cstAt, nilC, idxAddr, E.load, E.store, binO, isC, bin, ibin, sbin, una, isShift, okCell, packV, lenV, blt, fnV, asArg, snapV, snapS, snapP, snapC, snapX, flatV, flatT, openK, layBack, allT, allZ, mkS, srcOf0, unN, idxV, nilEq, give, tupV, mkEnv, extV, pickV, LVS, OVS, LTS, TYS, PMS, pmT, OWS, ownT, GHS, ghT, Int.reduceToNat, Nat.reduceGT, ↓reduceIte, Nat.reduceAdd, Nat.reduceMul, Nat.reduceSub, Nat.reduceEqDiff, Nat.reduceLeDiff, Nat.reduceLT, Nat.reduceBEq, Int.reduceBEq, Int.reduceBNe, Int.reduceEq, Int.reduceLT, Int.reduceLE, Int.reduceGT, Int.reduceNeg, reduceCtorEq, Int.cast_ofNat_Int, getE_zero, getE_one, getE_two, Option.isSome_none, c, hget, wrap_in, hsym]
theorem c_ix (key : Str) (ks : List Str) (hl : ks.length ≤ 1048576) : callPure (EV Try.prog pol) 39 [.t (.list 1 (strs ks)), .t (.str key)] = some (.t (.int .i64 (ixS key 0 ks))) := by
  obtain ⟨x, L⟩ := l_ix key ks hl ks [] rfl
  have hr := ixS_rng key ks 0
  simp only [List.length_nil, Int.natCast_zero] at L
  cases hd : decide (ixS key 0 ks ≥ 0) with
  | true =>
    rw [hd] at L
    simp only [cond_true] at L
    apply eq_call
    refine call_eq rfl Try.func39 rfl (by kernel_rfl) ?_
    unfold Try.f39
    simp (disch := ((try simp only [List.length_cons, List.length_append, List.length_nil, List.length_map]); omega)) only [↓GO, ↓DRW, GA, ren, renB, footX, refs, cellsV, cst, cstAt, nilC, idxAddr, E.load, E.store, binO, isC, bin, ibin, sbin, una, isShift, okCell, packV, lenV, blt, fnV, asArg, snapV, snapS, snapP, snapC, snapX, flatV, flatT, openK, layBack, allT, allZ, mkS, srcOf0, unN, idxV, nilEq, give, tupV, mkEnv, extV, pickV, LVS, OVS, LTS, TYS, PMS, pmT, OWS, ownT, GHS, ghT, Int.reduceToNat, Nat.reduceGT, ↓reduceIte, Nat.reduceAdd, Nat.reduceMul, Nat.reduceSub, Nat.reduceEqDiff, Nat.reduceLeDiff, Nat.reduceLT, Nat.reduceBEq, Int.reduceBEq, Int.reduceBNe, Int.reduceEq, Int.reduceLT, Int.reduceLE, Int.reduceGT, Int.reduceNeg, reduceCtorEq, Int.cast_ofNat_Int, getE_zero, getE_one, getE_two, Option.isSome_none, L, strs_len]
  | false =>
    rw [hd] at L
    have h := of_decide_eq_false hd
    rw [show ixS key 0 ks = -1 by omega]
    simp only [cond_false] at L
    apply eq_call
    refine call_eq rfl Try.func39 rfl (by kernel_rfl) ?_
    unfold Try.f39
    simp (disch := ((try simp only [List.length_cons, List.length_append, List.length_nil, List.length_map]); omega)) only [↓GO, ↓DRW, GA, ren, renB, footX, refs, cellsV, cst, cstAt, nilC, idxAddr, E.load, E.store, binO, isC, bin, ibin, sbin, una, isShift, okCell, packV, lenV, blt, fnV, asArg, snapV, snapS, snapP, snapC, snapX, flatV, flatT, openK, layBack, allT, allZ, mkS, srcOf0, unN, idxV, nilEq, give, tupV, mkEnv, extV, pickV, LVS, OVS, LTS, TYS, PMS, pmT, OWS, ownT, GHS, ghT, Int.reduceToNat, Nat.reduceGT, ↓reduceIte, Nat.reduceAdd, Nat.reduceMul, Nat.reduceSub, Nat.reduceEqDiff, Nat.reduceLeDiff, Nat.reduceLT, Nat.reduceBEq, Int.reduceBEq, Int.reduceBNe, Int.reduceEq, Int.reduceLT, Int.reduceLE, Int.reduceGT, Int.reduceNeg, reduceCtorEq, Int.cast_ofNat_Int, getE_zero, getE_one, getE_two, Option.isSome_none, L, strs_len]
theorem l_atR (key : Str) (k n : Int) (s : Str) (ks : List Str) (cs : List Tr) (hl : ks.length ≤ 1048576) (hl2 : cs.length ≤ 1048576) (hk : (k == 6) = true) : ∀ (rest pre : List Str) (m : Nat), ks = pre ++ rest → m + pre.length = cs.length ∨ (m = 0 ∧ cs.length ≤ pre.length) → ∃ x,
    EV Try.prog pol (.loop 38 26 0 [.t (.str key), .ptr 0 0 0, .t (.int .i64 (pre.length : Int))] [.vs 5 [(Tr.mk k n s ks cs).enc.map .t]]) = some (cond (decide (atI key pre.length rest m ≥ 0)) (.loop .ret [.t (.int .i64 (atI key pre.length rest m))] []) (.loop (.exit 0) [x] []))
  | [], pre, m, hs, hm => by
    have c : decide ((pre.length : Int) < (ks.length : Int)) = false := by simp [hs]
    refine ⟨.bad, ?_⟩
    have e : atI key pre.length [] m = -1 := by cases m <;> rfl
    rw [e]
    show _ = some (Resp.loop (.exit 0) [.bad] [])
    simp only [Tr.enc, List.map_cons, List.map_nil]
    refine loop_eq Try.func38 rfl rfl ?_
    simp (disch := ((try simp only [List.length_cons, List.length_append, List.length_nil, List.length_map]); omega)) only [↓GO, ↓DRW, GA, ren, renB, footX, refs, cellsV, cst, cstAt, nilC, idxAddr, E.load, E.store, binO, isC, bin, ibin, sbin, una, isShift, okCell, packV, lenV, blt, fnV, asArg, snapV, snapS, snapP, snapC, snapX, flatV, flatT, openK, layBack, allT, allZ, mkS, srcOf0, unN, idxV, nilEq, give, tupV, mkEnv, extV, pickV, LVS, OVS, LTS, TYS, PMS, pmT, OWS, ownT, GHS, ghT, Int.reduceToNat, Nat.reduceGT, ↓reduceIte, Nat.reduceAdd, Nat.reduceMul, Nat.reduceSub, Nat.reduceEqDiff, Nat.reduceLeDiff, Nat.reduceLT, Nat.reduceBEq, Int.reduceBEq, Int.reduceBNe, Int.reduceEq, Int.reduceLT, Int.reduceLE, Int.reduceGT, Int.reduceNeg, reduceCtorEq, Int.cast_ofNat_Int, getE_zero, getE_one, getE_two, Option.isSome_none, c, strs_len, Tr.encs_len, hk]
  | x :: rest, pre, 0, hs, hm => by
    have c : decide ((pre.length : Int) < (ks.length : Int)) = true := by simp [hs]; omega
    have c2 : decide ((pre.length : Int) < (cs.length : Int)) = false := by apply decide_eq_false; omega
    refine ⟨.bad, ?_⟩
    show _ = some (Resp.loop (.exit 0) [.bad] [])
    simp only [Tr.enc, List.map_cons, List.map_nil]
    refine loop_eq Try.func38 rfl rfl ?_
    simp (disch := ((try simp only [List.length_cons, List.length_append, List.length_nil, List.length_map]); omega)) only [↓GO, ↓DRW, GA, ren, renB, footX, refs, cellsV, cst, cstAt, nilC, idxAddr, E.load, E.store, binO, isC, bin, ibin, sbin, una, isShift, okCell, packV, lenV, blt, fnV, asArg, snapV, snapS, snapP, snapC, snapX, flatV, flatT, openK, layBack, allT, allZ, mkS, srcOf0, unN, idxV, nilEq, give, tupV, mkEnv, extV, pickV, LVS, OVS, LTS, TYS, PMS, pmT, OWS, ownT, GHS, ghT, Int.reduceToNat, Nat.reduceGT, ↓reduceIte, Nat.reduceAdd, Nat.reduceMul, Nat.reduceSub, Nat.reduceEqDiff, Nat.reduceLeDiff, Nat.reduceLT, Nat.reduceBEq, Int.reduceBEq, Int.reduceBNe, Int.reduceEq, Int.reduceLT, Int.reduceLE, Int.reduceGT, Int.reduceNeg, reduceCtorEq, Int.cast_ofNat_Int, getE_zero, getE_one, getE_two, Option.isSome_none, c, c2, strs_len, Tr.encs_len, hk]
  | x :: rest, pre, m + 1, hs, hm => by
    have c : decide ((pre.length : Int) < (ks.length : Int)) = true := by simp [hs]; omega
    have c2 : decide ((pre.length : Int) < (cs.length : Int)) = true := by apply decide_eq_true; omega
    have hget : (strs ks)[pre.length]? = some [.str x] := by rw [hs]; simp [strs]
    have hlen : pre.length + rest.length + 1 ≤ ks.length := by rw [hs]; simp; omega
    obtain ⟨y, IH⟩ := l_atR key k n s ks cs hl hl2 hk rest (pre ++ [x]) m (by rw [hs]; simp) (by simp; omega)
    refine ⟨y, ?_⟩
    rw [show ((pre ++ [x]).length : Int) = (pre.length : Int) + 1 by simp, show (pre ++ [x]).length = pre.length + 1 by simp] at IH
    clear hs
    rw [atI]
    simp only [Tr.enc, List.map_cons, List.map_nil] at IH ⊢
    cases hx : (x == key)
    · simp only [cond_false]
      refine loop_eq Try.func38 rfl rfl ?_
      simp (disch := ((try simp only [List.length_cons, List.length_append, List.length_nil, List.length_map]); omega)) only [↓GO, ↓DRW, GA, ren, renB, footX, refs, cellsV, cst, cstAt, nilC, idxAddr, E.load, E.store, binO, isC, bin, ibin, sbin, una, isShift, okCell, packV, lenV, blt, fnV, asArg, snapV, snapS, snapP, snapC, snapX, flatV, flatT, openK, layBack, allT, allZ, mkS, srcOf0, unN, idxV, nilEq, give, tupV, mkEnv, extV, pickV, LVS, OVS, LTS, TYS, PMS, pmT, OWS, ownT, GHS, ghT, Int.reduceToNat, Nat.reduceGT, ↓reduceIte, Nat.reduceAdd, Nat.reduceMul, Nat.reduceSub, Nat.reduceEqDiff, Nat.reduceLeDiff, Nat.reduceLT, Nat.reduceBEq, Int.reduceBEq, Int.reduceBNe, Int.reduceEq, Int.reduceLT, Int.reduceLE, Int.reduceGT, Int.reduceNeg, reduceCtorEq, Int.cast_ofNat_Int, getE_zero, getE_one, getE_two, Option.isSome_none, c, c2, strs_len, Tr.encs_len, hk, hget, wrap_in, hx, IH]
    · simp only [cond_true, show decide (((pre.length : Nat) : Int) ≥ 0) = true by simp]
      refine loop_eq Try.func38 rfl rfl ?_
      simp (disch := ((try simp only [List.length_cons, List.length_append, List.length_nil, List.length_map]); omega)) only [↓GO, ↓DRW, GA, ren, renB, footX, refs, cellsV, cst, cstAt, nilC, idxAddr, E.load, E.store, binO, isC, bin, ibin, sbin, una, isShift, okCell, packV, lenV, blt, fnV, asArg, snapV, snapS, snapP, snapC, snapX, flatV, flatT, openK, layBack, allT, allZ, mkS, srcOf0, unN, idxV, nilEq, give, tupV, mkEnv, extV, pickV, LVS, OVS, LTS, TYS, PMS, pmT, OWS, ownT, GHS, ghT, Int.reduceToNat, Nat.reduceGT, ↓reduceIte, Nat.reduceAdd, Nat.reduceMul, Nat.reduceSub, Nat.reduceEqDiff, Nat.reduceLeDiff, Nat.reduceLT, Nat.reduceBEq, Int.reduceBEq, Int.reduceBNe, Int.reduceEq, Int.reduceLT, Int.reduceLE, Int.reduceGT, Int.reduceNeg, reduceCtorEq, Int.cast_ofNat_Int, getE_zero, getE_one, getE_two, Option.isSome_none, c, c2, strs_len, Tr.encs_len, hk, hget, wrap_in, hx]
theorem c_atR (key : Str) (k n : Int) (s : Str) (ks : List Str) (cs : List Tr) (hl : ks.length ≤ 1048576) (hl2 : cs.length ≤ 1048576) :
    callPure (EV Try.prog pol) 38 [.agg ((Tr.mk k n s ks cs).enc.map .t), .t (.str key)] = some (.t (.int .i64 (cond (k == 6) (atI key 0 ks cs.length) (-1)))) := by
  cases hk : (k == 6) with
  | false =>
    have L : EV Try.prog pol (.loop 38 26 0 [.t (.str key), .ptr 0 0 0, .t (.int .i64 0)] [.vs 5 [(Tr.mk k n s ks cs).enc.map .t]]) = some (.loop (.exit 0) [.bad] []) := by
      simp only [Tr.enc, List.map_cons, List.map_nil]
      refine loop_eq Try.func38 rfl rfl ?_
      cases c1 : decide ((0 : Int) < (ks.length : Int)) <;> cases c2 : decide ((0 : Int) < (cs.length : Int))
      all_goals
        simp (disch := ((try simp only [List.length_cons, List.length_append, List.length_nil, List.length_map]); omega)) only [↓GO, ↓DRW, GA, ren, renB, footX, refs, cellsV, cst, cstAt, nilC, idxAddr, E.load, E.store, binO, isC, bin, ibin, sbin, una, isShift, okCell, packV, lenV, blt, fnV, asArg, snapV, snapS, snapP, snapC, snapX, flatV, flatT, openK, layBack, allT, allZ, mkS, srcOf0, unN, idxV, nilEq, give, tupV, mkEnv, extV, pickV, LVS, OVS, LTS, TYS, PMS, pmT, OWS, ownT, GHS, ghT, Int.reduceToNat, Nat.reduceGT, ↓reduceIte, Nat.reduceAdd, Nat.reduceMul, Nat.reduceSub, Nat.reduceEqDiff, Nat.reduceLeDiff, Nat.reduceLT, Nat.reduceBEq, Int.reduceBEq, Int.reduceBNe, Int.reduceEq, Int.reduceLT, Int.reduceLE, Int.reduceGT, Int.reduceNeg, reduceCtorEq, Int.cast_ofNat_Int, getE_zero, getE_one, getE_two, Option.isSome_none, c1, c2, strs_len, Tr.encs_len, hk]
    simp only [Tr.enc, List.map_cons, List.map_nil, cond_false] at L ⊢
    apply eq_call
    refine call_eq rfl Try.func38 rfl (by kernel_rfl) ?_
    unfold Try.f38
    simp (disch := ((try simp only [List.length_cons, List.length_append, List.length_nil, List.length_map]); omega)) only [↓GO, ↓DRW, GA, ren, renB, footX, refs, cellsV, cst, cstAt, nilC, idxAddr, E.load, E.store, binO, isC, bin, ibin, sbin, una, isShift, okCell, packV, lenV, blt, fnV, asArg, snapV, snapS, snapP, snapC, snapX, flatV, flatT, openK, layBack, allT, allZ, mkS, srcOf0, unN, idxV, nilEq, give, tupV, mkEnv, extV, pickV, LVS, OVS, LTS, TYS, PMS, pmT, OWS, ownT, GHS, ghT, Int.reduceToNat, Nat.reduceGT, ↓reduceIte, Nat.reduceAdd, Nat.reduceMul, Nat.reduceSub, Nat.reduceEqDiff, Nat.reduceLeDiff, Nat.reduceLT, Nat.reduceBEq, Int.reduceBEq, Int.reduceBNe, Int.reduceEq, Int.reduceLT, Int.reduceLE, Int.reduceGT, Int.reduceNeg, reduceCtorEq, Int.cast_ofNat_Int, getE_zero, getE_one, getE_two, Option.isSome_none, L]
  | true =>
    obtain ⟨x, L⟩ := l_atR key k n s ks cs hl hl2 hk ks [] cs.length rfl (.inl rfl)
    have ha := at_ix key ks 0 cs.length
    have hr := ixS_rng key ks 0
    simp only [List.length_nil, Int.natCast_zero] at L
    simp only [Tr.enc, List.map_cons, List.map_nil, cond_true] at L ⊢
    cases hd : decide (atI key 0 ks cs.length ≥ 0) with
    | true =>
      rw [hd] at L
      simp only [cond_true] at L
      apply eq_call
      refine call_eq rfl Try.func38 rfl (by kernel_rfl) ?_
      unfold Try.f38
      simp (disch := ((try simp only [List.length_cons, List.length_append, List.length_nil, List.length_map]); omega)) only [↓GO, ↓DRW, GA, ren, renB, footX, refs, cellsV, cst, cstAt, nilC, idxAddr, E.load, E.store, binO, isC, bin, ibin, sbin, una, isShift, okCell, packV, lenV, blt, fnV, asArg, snapV, snapS, snapP, snapC, snapX, flatV, flatT, openK, layBack, allT, allZ, mkS, srcOf0, unN, idxV, nilEq, give, tupV, mkEnv, extV, pickV, LVS, OVS, LTS, TYS, PMS, pmT, OWS, ownT, GHS, ghT, Int.reduceToNat, Nat.reduceGT, ↓reduceIte, Nat.reduceAdd, Nat.reduceMul, Nat.reduceSub, Nat.reduceEqDiff, Nat.reduceLeDiff, Nat.reduceLT, Nat.reduceBEq, Int.reduceBEq, Int.reduceBNe, Int.reduceEq, Int.reduceLT, Int.reduceLE, Int.reduceGT, Int.reduceNeg, reduceCtorEq, Int.cast_ofNat_Int, getE_zero, getE_one, getE_two, Option.isSome_none, L]
    | false =>
      rw [hd] at L
      have h := of_decide_eq_false hd
      have e : atI key 0 ks cs.length = -1 := by
        rw [ha] at h ⊢
        generalize decide (ixS key 0 ks < ((0 + cs.length : Nat) : Int)) = b2 at *
        cases hb : decide (ixS key 0 ks ≥ 0) <;> cases b2 <;> rw [hb] at h <;> simp only [Bool.and_true, Bool.true_and, Bool.and_false, Bool.false_and, cond_true, cond_false] at h ⊢
        have := of_decide_eq_true hb
        omega
      rw [e]
      simp only [cond_false] at L
      apply eq_call
      refine call_eq rfl Try.func38 rfl (by kernel_rfl) ?_
      unfold Try.f38
      simp (disch := ((try simp only [List.length_cons, List.length_append, List.length_nil, List.length_map]); omega)) only [↓GO, ↓DRW, GA, ren, renB, footX, refs, cellsV, cst, cstAt, nilC, idxAddr, E.load, E.store, binO, isC, bin, ibin, sbin, una, isShift, okCell, packV, lenV, blt, fnV, asArg, snapV, snapS, snapP, snapC, snapX, flatV, flatT, openK, layBack, allT, allZ, mkS, srcOf0, unN, idxV, nilEq, give, tupV, mkEnv, extV, pickV, LVS, OVS, LTS, TYS, PMS, pmT, OWS, ownT, GHS, ghT, Int.reduceToNat, Nat.reduceGT, ↓reduceIte, Nat.reduceAdd, Nat.reduceMul, Nat.reduceSub, Nat.reduceEqDiff, Nat.reduceLeDiff, Nat.reduceLT, Nat.reduceBEq, Int.reduceBEq, Int.reduceBNe, Int.reduceEq, Int.reduceLT, Int.reduceLE, Int.reduceGT, Int.reduceNeg, reduceCtorEq, Int.cast_ofNat_Int, getE_zero, getE_one, getE_two, Option.isSome_none, L]
end Go.Proofs.Ytcphjdfmjhijkaa
/- What stands under a key, by both. Conditions: those of each lemma. -/
namespace Go.Proofs.Ytcphjdfmjhijkaa
open E
set_option linter.unusedSimpArgs false
set_option linter.unusedVariables false
set_option maxRecDepth 100000
def zt : Tr := .mk 0 0 [] [] []
def kidP (key : Str) (k : Int) (ks : List Str) (cs : List Tr) : Int := cond (k == 6) (atI key 0 ks cs.length) (-1)
theorem kidP_rng (key : Str) (k : Int) (ks : List Str) (cs : List Tr) : kidP key k ks cs = -1 ∨ ∃ i, kidP key k ks cs = (i : Nat) ∧ i < cs.length := by
  unfold kidP
  cases k == 6 with
  | false => exact .inl rfl
  | true =>
    rw [cond_true, at_ix key ks 0 cs.length]
    cases hb : (decide (ixS key 0 ks ≥ 0) && decide (ixS key 0 ks < ((0 + cs.length : Nat) : Int))) with
    | false => exact .inl rfl
    | true =>
      simp only [Bool.and_eq_true, decide_eq_true_eq] at hb
      rw [cond_true]
      exact .inr ⟨(ixS key 0 ks).toNat, by omega, by omega⟩
theorem enc_get (cs : List Tr) (i : Nat) (h : i < cs.length) : (Tr.encs cs)[i]? = some cs[i].enc := Tr.encs_get cs i h
theorem c_kidR_no (key : Str) (k n : Int) (s : Str) (ks : List Str) (cs : List Tr) (hl : ks.length ≤ 1048576) (hl2 : cs.length ≤ 1048576) (hp : kidP key k ks cs = -1) :
    callPure (EV Try.prog pol) 21 [.agg ((Tr.mk k n s ks cs).enc.map .t), .t (.str key)] = some (.tup [.agg (zt.enc.map .t), .t (.bool false)]) := by
  have h := c_atR key k n s ks cs hl hl2
  unfold kidP at hp
  rw [hp] at h
  simp only [Tr.enc, zt, strs, Tr.encs, List.map_cons, List.map_nil] at h ⊢
  apply eq_call
  refine call_eq rfl Try.func21 rfl (by kernel_rfl) ?_
  unfold Try.f21
  simp (disch := ((try simp only [List.length_cons, List.length_append, List.length_nil, List.length_map]); omega)) only [↓GO, ↓DRW, GA, ren, renB, footX, refs, cellsV, cst, cstAt, nilC, idxAddr, E.load, E.store, binO, isC, bin, ibin, sbin, una, isShift, okCell, packV, lenV, blt, fnV, asArg, snapV, snapS, snapP, snapC, snapX, flatV, flatT, openK, layBack, allT, allZ, mkS, srcOf0, unN, idxV, nilEq, give, tupV, mkEnv, extV, pickV, LVS, OVS, LTS, TYS, PMS, pmT, OWS, ownT, GHS, ghT, Int.reduceToNat, Nat.reduceGT, ↓reduceIte, Nat.reduceAdd, Nat.reduceMul, Nat.reduceSub, Nat.reduceEqDiff, Nat.reduceLeDiff, Nat.reduceLT, Nat.reduceBEq, Int.reduceBEq, Int.reduceBNe, Int.reduceEq, Int.reduceLT, Int.reduceLE, Int.reduceGT, Int.reduceNeg, reduceCtorEq, Int.cast_ofNat_Int, getE_zero, getE_one, getE_two, Option.isSome_none, h]
theorem c_kidR_yes (key : Str) (k n : Int) (s : Str) (ks : List Str) (cs : List Tr) (hl : ks.length ≤ 1048576) (hl2 : cs.length ≤ 1048576) (i : Nat) (hp : kidP key k ks cs = (i : Nat)) (c : Tr) (hc : (Tr.encs cs)[i]? = some c.enc) (hcp : CpR c) :
    callPure (EV Try.prog pol) 21 [.agg ((Tr.mk k n s ks cs).enc.map .t), .t (.str key)] = some (.tup [.agg (c.enc.map .t), .t (.bool true)]) := by
  have h := c_atR key k n s ks cs hl hl2
  unfold kidP at hp
  rw [hp] at h
  have c1 : decide (((i : Nat) : Int) < 0) = false := by apply decide_eq_false; omega
  obtain ⟨k1, n1, s1, ks1, cs1⟩ := c
  simp only [CpR, Tr.enc, List.map_cons, List.map_nil] at h hc hcp ⊢
  apply eq_call
  refine call_eq rfl Try.func21 rfl (by kernel_rfl) ?_
  unfold Try.f21
  simp (disch := ((try simp only [List.length_cons, List.length_append, List.length_nil, List.length_map]); omega)) only [↓GO, ↓DRW, GA, ren, renB, footX, refs, cellsV, cst, cstAt, nilC, idxAddr, E.load, E.store, binO, isC, bin, ibin, sbin, una, isShift, okCell, packV, lenV, blt, fnV, asArg, snapV, snapS, snapP, snapC, snapX, flatV, flatT, openK, layBack, allT, allZ, mkS, srcOf0, unN, idxV, nilEq, give, tupV, mkEnv, extV, pickV, LVS, OVS, LTS, TYS, PMS, pmT, OWS, ownT, GHS, ghT, Int.reduceToNat, Nat.reduceGT, ↓reduceIte, Nat.reduceAdd, Nat.reduceMul, Nat.reduceSub, Nat.reduceEqDiff, Nat.reduceLeDiff, Nat.reduceLT, Nat.reduceBEq, Int.reduceBEq, Int.reduceBNe, Int.reduceEq, Int.reduceLT, Int.reduceLE, Int.reduceGT, Int.reduceNeg, reduceCtorEq, Int.cast_ofNat_Int, getE_zero, getE_one, getE_two, Option.isSome_none, h, c1, hc, hcp]
theorem c_kidI_no (key : Str) (k n : Int) (s : Str) (ks : List Str) (cs : List Tr) (hl : ks.length ≤ 1048576) (hl2 : cs.length ≤ 1048576) (hp : kidP key k ks cs = -1) :
    EV Try.prog pol (.callO false 23 [.agg ((Tr.mk k n s ks cs).enc.map .t), .t (.str key)] []) = some (.call (.tup [.agg zV, .t (.bool false)]) []) := by
  have h := c_ix key ks hl
  unfold kidP at hp
  simp only [Tr.enc, zV, List.map_cons, List.map_nil]
  cases hk : (k == 6) with
  | false =>
    refine callO_eq Try.func23 rfl (by kernel_rfl) ?_
    unfold Try.f23
    simp (disch := ((try simp only [List.length_cons, List.length_append, List.length_nil, List.length_map]); omega)) only [↓GO, ↓DRW, GA, ren, renB, footX, refs, cellsV, cst, cstAt, nilC, idxAddr, E.load, E.store, binO, isC, bin, ibin, sbin, una, isShift, okCell, packV, lenV, blt, fnV, asArg, snapV, snapS, snapP, snapC, snapX, flatV, flatT, openK, layBack, allT, allZ, mkS, srcOf0, unN, idxV, nilEq, give, tupV, mkEnv, extV, pickV, LVS, OVS, LTS, TYS, PMS, pmT, OWS, ownT, GHS, ghT, Int.reduceToNat, Nat.reduceGT, ↓reduceIte, Nat.reduceAdd, Nat.reduceMul, Nat.reduceSub, Nat.reduceEqDiff, Nat.reduceLeDiff, Nat.reduceLT, Nat.reduceBEq, Int.reduceBEq, Int.reduceBNe, Int.reduceEq, Int.reduceLT, Int.reduceLE, Int.reduceGT, Int.reduceNeg, reduceCtorEq, selK_some, selK_none, bltO, brwK, brwA, brwB, sliceO, mkO, appO, ghOne, ghAt, ghCells, fld1, unf1, setC, oc, oTs, oT, rowT, rowT.rowTs, rowB, isL, Bool.not_false, Bool.true_and, Bool.and_true, Bool.and_self, List.flatMap_append, List.map_append, List.set_cons_zero, List.set_cons_succ, Int.cast_ofNat_Int, getE_zero, getE_one, getE_two, Option.isSome_none, hk, rch3]
  | true =>
    rw [hk, cond_true, at_ix key ks 0 cs.length, Nat.zero_add] at hp
    have hr := ixS_rng key ks 0
    generalize ixS key 0 ks = ix at *
    cases h1 : decide (ix ≥ 0) with
    | false =>
      refine callO_eq Try.func23 rfl (by kernel_rfl) ?_
      unfold Try.f23
      simp (disch := ((try simp only [List.length_cons, List.length_append, List.length_nil, List.length_map]); omega)) only [↓GO, ↓DRW, GA, ren, renB, footX, refs, cellsV, cst, cstAt, nilC, idxAddr, E.load, E.store, binO, isC, bin, ibin, sbin, una, isShift, okCell, packV, lenV, blt, fnV, asArg, snapV, snapS, snapP, snapC, snapX, flatV, flatT, openK, layBack, allT, allZ, mkS, srcOf0, unN, idxV, nilEq, give, tupV, mkEnv, extV, pickV, LVS, OVS, LTS, TYS, PMS, pmT, OWS, ownT, GHS, ghT, Int.reduceToNat, Nat.reduceGT, ↓reduceIte, Nat.reduceAdd, Nat.reduceMul, Nat.reduceSub, Nat.reduceEqDiff, Nat.reduceLeDiff, Nat.reduceLT, Nat.reduceBEq, Int.reduceBEq, Int.reduceBNe, Int.reduceEq, Int.reduceLT, Int.reduceLE, Int.reduceGT, Int.reduceNeg, reduceCtorEq, selK_some, selK_none, bltO, brwK, brwA, brwB, sliceO, mkO, appO, ghOne, ghAt, ghCells, fld1, unf1, setC, oc, oTs, oT, rowT, rowT.rowTs, rowB, isL, Bool.not_false, Bool.true_and, Bool.and_true, Bool.and_self, List.flatMap_append, List.map_append, List.set_cons_zero, List.set_cons_succ, Int.cast_ofNat_Int, getE_zero, getE_one, getE_two, Option.isSome_none, hk, h, h1, rch3]
    | true =>
      have h2 : decide (ix < (cs.length : Int)) = false := by
        rw [h1, Bool.true_and] at hp
        cases hd : decide (ix < (cs.length : Int)) with
        | false => rfl
        | true => rw [hd, cond_true] at hp; have := of_decide_eq_true h1; omega
      refine callO_eq Try.func23 rfl (by kernel_rfl) ?_
      unfold Try.f23
      simp (disch := ((try simp only [List.length_cons, List.length_append, List.length_nil, List.length_map]); omega)) only [↓GO, ↓DRW, GA, ren, renB, footX, refs, cellsV, cst, cstAt, nilC, idxAddr, E.load, E.store, binO, isC, bin, ibin, sbin, una, isShift, okCell, packV, lenV, blt, fnV, asArg, snapV, snapS, snapP, snapC, snapX, flatV, flatT, openK, layBack, allT, allZ, mkS, srcOf0, unN, idxV, nilEq, give, tupV, mkEnv, extV, pickV, LVS, OVS, LTS, TYS, PMS, pmT, OWS, ownT, GHS, ghT, Int.reduceToNat, Nat.reduceGT, ↓reduceIte, Nat.reduceAdd, Nat.reduceMul, Nat.reduceSub, Nat.reduceEqDiff, Nat.reduceLeDiff, Nat.reduceLT, Nat.reduceBEq, Int.reduceBEq, Int.reduceBNe, Int.reduceEq, Int.reduceLT, Int.reduceLE, Int.reduceGT, Int.reduceNeg, reduceCtorEq, selK_some, selK_none, bltO, brwK, brwA, brwB, sliceO, mkO, appO, ghOne, ghAt, ghCells, fld1, unf1, setC, oc, oTs, oT, rowT, rowT.rowTs, rowB, isL, Bool.not_false, Bool.true_and, Bool.and_true, Bool.and_self, List.flatMap_append, List.map_append, List.set_cons_zero, List.set_cons_succ, Int.cast_ofNat_Int, getE_zero, getE_one, getE_two, Option.isSome_none, hk, h, h1, h2, Tr.encs_len, rch3]
theorem c_kidI_yes (key : Str) (k n : Int) (s : Str) (ks : List Str) (cs : List Tr) (hl : ks.length ≤ 1048576) (hl2 : cs.length ≤ 1048576) (i : Nat) (hp : kidP key k ks cs = (i : Nat)) (k1 n1 : Int) (s1 : Str) (ks1 : List Str) (cs1 : List Tr)
    (hc : (Tr.encs cs)[i]? = some (Tr.mk k1 n1 s1 ks1 cs1).enc) (hcp : CpO (.mk k1 n1 s1 ks1 cs1)) :
    ∃ cap, EV Try.prog pol (.callO false 23 [.agg ((Tr.mk k n s ks cs).enc.map .t), .t (.str key)] []) = some (.call (.tup [.agg [.t (.int .i64 k1), .t (.int .i64 n1), .t (.str s1), .sl 0 0 ks1.length none, .sl 1 0 cs1.length cap], .t (.bool true)]) [.ts 1 (strs ks1), .vs 5 (ocE (Tr.encs cs1))]) := by
  have h := c_ix key ks hl
  obtain ⟨cap, hcp⟩ := hcp
  refine ⟨cap, ?_⟩
  unfold kidP at hp
  cases hk : (k == 6) with
  | false => rw [hk, cond_false] at hp; omega
  | true =>
    rw [hk, cond_true, at_ix key ks 0 cs.length, Nat.zero_add] at hp
    generalize ixS key 0 ks = ix at *
    cases hb : (decide (ix ≥ 0) && decide (ix < (cs.length : Int))) with
    | false => rw [hb, cond_false] at hp; omega
    | true =>
      rw [hb, cond_true] at hp
      subst hp
      rw [Bool.and_eq_true] at hb
      obtain ⟨h1, h2⟩ := hb
      simp only [Tr.enc, List.map_cons, List.map_nil] at hc hcp ⊢
      refine callO_eq Try.func23 rfl (by kernel_rfl) ?_
      unfold Try.f23
      simp (disch := ((try simp only [List.length_cons, List.length_append, List.length_nil, List.length_map]); omega)) only [↓GO, ↓DRW, GA, ren, renB, footX, refs, cellsV, cst, cstAt, nilC, idxAddr, E.load, E.store, binO, isC, bin, ibin, sbin, una, isShift, okCell, packV, lenV, blt, fnV, asArg, snapV, snapS, snapP, snapC, snapX, flatV, flatT, openK, layBack, allT, allZ, mkS, srcOf0, unN, idxV, nilEq, give, tupV, mkEnv, extV, pickV, LVS, OVS, LTS, TYS, PMS, pmT, OWS, ownT, GHS, ghT, Int.reduceToNat, Nat.reduceGT, ↓reduceIte, Nat.reduceAdd, Nat.reduceMul, Nat.reduceSub, Nat.reduceEqDiff, Nat.reduceLeDiff, Nat.reduceLT, Nat.reduceBEq, Int.reduceBEq, Int.reduceBNe, Int.reduceEq, Int.reduceLT, Int.reduceLE, Int.reduceGT, Int.reduceNeg, reduceCtorEq, selK_some, selK_none, bltO, brwK, brwA, brwB, sliceO, mkO, appO, ghOne, ghAt, ghCells, fld1, unf1, setC, oc, oTs, oT, rowT, rowT.rowTs, rowB, isL, Bool.not_false, Bool.true_and, Bool.and_true, Bool.and_self, List.flatMap_append, List.map_append, List.set_cons_zero, List.set_cons_succ, Int.cast_ofNat_Int, getE_zero, getE_one, getE_two, Option.isSome_none, hk, h, h1, h2, Tr.encs_len, hc, hcp, ocE_ren, ocE_refs, rch3]
theorem rowB_tr : ∀ cs : List Tr, ((ocE (Tr.encs cs)).all fun c => rowT.rowTs c) = true
  | [] => rfl
  | .mk k n s ks cs' :: cs => by
    rw [show ocE (Tr.encs (.mk k n s ks cs' :: cs)) = (Tr.mk k n s ks cs').enc.map oc :: ocE (Tr.encs cs) from rfl, List.all_cons, rowB_tr cs]
    rfl
theorem c_markSn (k : Int) : EV Try.prog pol (.callO false 16 [.nil 1, .t (.int .i64 k)] []) = some (.call (.t (.int .i64 k)) []) := by
  have L : EV Try.prog pol (.loop 16 26 0 [.nil 1, .t (.int .i64 k), .t (.int .i64 0)] []) = some (.loop (.exit 0) [.t (.int .i64 k)] []) := by
    refine loop_eq Try.func16 rfl rfl ?_
    simp (disch := ((try simp only [List.length_cons, List.length_append, List.length_nil, List.length_map]); omega)) only [↓GO, ↓DRW, GA, ren, renB, footX, refs, cellsV, cst, cstAt, nilC, idxAddr, E.load, E.store, binO, isC, bin, ibin, sbin, una, isShift, okCell, packV, lenV, blt, fnV, asArg, snapV, snapS, snapP, snapC, snapX, flatV, flatT, openK, layBack, allT, allZ, mkS, srcOf0, unN, idxV, nilEq, give, tupV, mkEnv, extV, pickV, LVS, OVS, LTS, TYS, PMS, pmT, OWS, ownT, GHS, ghT, Int.reduceToNat, Nat.reduceGT, ↓reduceIte, Nat.reduceAdd, Nat.reduceMul, Nat.reduceSub, Nat.reduceEqDiff, Nat.reduceLeDiff, Nat.reduceLT, Nat.reduceBEq, Int.reduceBEq, Int.reduceBNe, Int.reduceEq, Int.reduceLT, Int.reduceLE, Int.reduceGT, Int.reduceNeg, reduceCtorEq, Int.cast_ofNat_Int, getE_zero, getE_one, getE_two, Option.isSome_none, Int.natCast_zero]
  refine callO_eq Try.func16 rfl (by kernel_rfl) ?_
  unfold Try.f16
  simp (disch := ((try simp only [List.length_cons, List.length_append, List.length_nil, List.length_map]); omega)) only [↓GO, ↓DRW, GA, ren, renB, footX, refs, cellsV, cst, cstAt, nilC, idxAddr, E.load, E.store, binO, isC, bin, ibin, sbin, una, isShift, okCell, packV, lenV, blt, fnV, asArg, snapV, snapS, snapP, snapC, snapX, flatV, flatT, openK, layBack, allT, allZ, mkS, srcOf0, unN, idxV, nilEq, give, tupV, mkEnv, extV, pickV, LVS, OVS, LTS, TYS, PMS, pmT, OWS, ownT, GHS, ghT, Int.reduceToNat, Nat.reduceGT, ↓reduceIte, Nat.reduceAdd, Nat.reduceMul, Nat.reduceSub, Nat.reduceEqDiff, Nat.reduceLeDiff, Nat.reduceLT, Nat.reduceBEq, Int.reduceBEq, Int.reduceBNe, Int.reduceEq, Int.reduceLT, Int.reduceLE, Int.reduceGT, Int.reduceNeg, reduceCtorEq, Int.cast_ofNat_Int, getE_zero, getE_one, getE_two, Option.isSome_none, L]
theorem c_markTn (k : Int) : EV Try.prog pol (.callO false 17 [.nil 5, .t (.int .i64 k)] []) = some (.call (.t (.int .i64 k)) []) := by
  have L : EV Try.prog pol (.loop 17 26 0 [.nil 5, .t (.int .i64 k), .t (.int .i64 0)] []) = some (.loop (.exit 0) [.t (.int .i64 k)] []) := by
    refine loop_eq Try.func17 rfl rfl ?_
    simp (disch := ((try simp only [List.length_cons, List.length_append, List.length_nil, List.length_map]); omega)) only [↓GO, ↓DRW, GA, ren, renB, footX, refs, cellsV, cst, cstAt, nilC, idxAddr, E.load, E.store, binO, isC, bin, ibin, sbin, una, isShift, okCell, packV, lenV, blt, fnV, asArg, snapV, snapS, snapP, snapC, snapX, flatV, flatT, openK, layBack, allT, allZ, mkS, srcOf0, unN, idxV, nilEq, give, tupV, mkEnv, extV, pickV, LVS, OVS, LTS, TYS, PMS, pmT, OWS, ownT, GHS, ghT, Int.reduceToNat, Nat.reduceGT, ↓reduceIte, Nat.reduceAdd, Nat.reduceMul, Nat.reduceSub, Nat.reduceEqDiff, Nat.reduceLeDiff, Nat.reduceLT, Nat.reduceBEq, Int.reduceBEq, Int.reduceBNe, Int.reduceEq, Int.reduceLT, Int.reduceLE, Int.reduceGT, Int.reduceNeg, reduceCtorEq, selK_some, selK_none, bltO, brwK, brwA, brwB, sliceO, mkO, appO, ghOne, ghAt, ghCells, fld1, unf1, setC, oc, oTs, oT, rowT, rowT.rowTs, rowB, isL, Bool.not_false, Bool.true_and, Bool.and_true, Bool.and_self, List.flatMap_append, List.map_append, List.set_cons_zero, List.set_cons_succ, Int.cast_ofNat_Int, getE_zero, getE_one, getE_two, Option.isSome_none, Int.natCast_zero]
  refine callO_eq Try.func17 rfl (by kernel_rfl) ?_
  unfold Try.f17
  simp (disch := ((try simp only [List.length_cons, List.length_append, List.length_nil, List.length_map]); omega)) only [↓GO, ↓DRW, GA, ren, renB, footX, refs, cellsV, cst, cstAt, nilC, idxAddr, E.load, E.store, binO, isC, bin, ibin, sbin, una, isShift, okCell, packV, lenV, blt, fnV, asArg, snapV, snapS, snapP, snapC, snapX, flatV, flatT, openK, layBack, allT, allZ, mkS, srcOf0, unN, idxV, nilEq, give, tupV, mkEnv, extV, pickV, LVS, OVS, LTS, TYS, PMS, pmT, OWS, ownT, GHS, ghT, Int.reduceToNat, Nat.reduceGT, ↓reduceIte, Nat.reduceAdd, Nat.reduceMul, Nat.reduceSub, Nat.reduceEqDiff, Nat.reduceLeDiff, Nat.reduceLT, Nat.reduceBEq, Int.reduceBEq, Int.reduceBNe, Int.reduceEq, Int.reduceLT, Int.reduceLE, Int.reduceGT, Int.reduceNeg, reduceCtorEq, selK_some, selK_none, bltO, brwK, brwA, brwB, sliceO, mkO, appO, ghOne, ghAt, ghCells, fld1, unf1, setC, oc, oTs, oT, rowT, rowT.rowTs, rowB, isL, Bool.not_false, Bool.true_and, Bool.and_true, Bool.and_self, List.flatMap_append, List.map_append, List.set_cons_zero, List.set_cons_succ, Int.cast_ofNat_Int, getE_zero, getE_one, getE_two, Option.isSome_none, L]
theorem c_markZ (k : Int) : EV Try.prog pol (.callO false 18 [.agg zV, .t (.int .i64 k)] []) = some (.call (.t (.int .i64 k)) []) := by
  have d1 := c_markSn k
  have d2 := c_markTn k
  unfold zV
  refine callO_eq Try.func18 rfl (by kernel_rfl) ?_
  unfold Try.f18
  simp (disch := ((try simp only [List.length_cons, List.length_append, List.length_nil, List.length_map]); omega)) only [↓GO, ↓DRW, GA, ren, renB, footX, refs, cellsV, cst, cstAt, nilC, idxAddr, E.load, E.store, binO, isC, bin, ibin, sbin, una, isShift, okCell, packV, lenV, blt, fnV, asArg, snapV, snapS, snapP, snapC, snapX, flatV, flatT, openK, layBack, allT, allZ, mkS, srcOf0, unN, idxV, nilEq, give, tupV, mkEnv, extV, pickV, LVS, OVS, LTS, TYS, PMS, pmT, OWS, ownT, GHS, ghT, Int.reduceToNat, Nat.reduceGT, ↓reduceIte, Nat.reduceAdd, Nat.reduceMul, Nat.reduceSub, Nat.reduceEqDiff, Nat.reduceLeDiff, Nat.reduceLT, Nat.reduceBEq, Int.reduceBEq, Int.reduceBNe, Int.reduceEq, Int.reduceLT, Int.reduceLE, Int.reduceGT, Int.reduceNeg, reduceCtorEq, selK_some, selK_none, bltO, brwK, brwA, brwB, sliceO, mkO, appO, ghOne, ghAt, ghCells, fld1, unf1, setC, oc, oTs, oT, rowT, rowT.rowTs, rowB, isL, Bool.not_false, Bool.true_and, Bool.and_true, Bool.and_self, List.flatMap_append, List.map_append, List.set_cons_zero, List.set_cons_succ, Int.cast_ofNat_Int, getE_zero, getE_one, getE_two, Option.isSome_none, d1, d2, rch3]
end Go.Proofs.Ytcphjdfmjhijkaa
/- The law of Kid. Conditions: those of each lemma. -/
namespace Go.Proofs.Ytcphjdfmjhijkaa
open E
set_option linter.unusedSimpArgs false
set_option linter.unusedVariables false
set_option maxRecDepth 100000
mutual
theorem Tr.nd_leM : ∀ t : Tr, t.nd ≤ t.bulk + 1
  | .mk k n s ks cs => by
    have := Tr.nds_leM cs
    simp only [Tr.nd, Tr.bulk]; omega
theorem Tr.nds_leM : ∀ cs : List Tr, Tr.nds cs ≤ Tr.bulks cs + cs.length
  | [] => by simp [Tr.nds]
  | c :: cs => by
    have h1 := Tr.nd_leM c
    have h2 := Tr.nds_leM cs
    simp only [Tr.nds, Tr.bulks, List.length_cons]; omega
end
theorem cnts_small (cs : List Tr) (h : cs.length + Tr.bulks cs ≤ 1048576) : cntTs cs ≤ 8388608 := by
  have h1 := cnts_le cs
  have h2 := Tr.nds_leM cs
  omega
theorem take_strs (ks : List Str) (n : Nat) (h : n = ks.length) : (strs ks).take n = strs ks := List.take_of_length_le (by rw [strs_len]; omega)
theorem take_oc (cs : List Tr) (n : Nat) (h : n = cs.length) : (ocE (Tr.encs cs)).take n = ocE (Tr.encs cs) := List.take_of_length_le (by rw [ocE_len, Tr.encs_len]; omega)
set_option maxHeartbeats 8000000 in
theorem c_lawKid_yes (key : Str) (k n : Int) (s : Str) (ks : List Str) (cs : List Tr) (hkey : key.length ≤ 1048576) (ho : (Tr.mk k n s ks cs).ok) (hb : (Tr.mk k n s ks cs).bulk ≤ 1048576) (i : Nat) (hp : kidP key k ks cs = (i : Nat)) (k1 n1 : Int) (s1 : Str) (ks1 : List Str) (cs1 : List Tr)
    (hc : (Tr.encs cs)[i]? = some (Tr.mk k1 n1 s1 ks1 cs1).enc) (hmem : Tr.mk k1 n1 s1 ks1 cs1 ∈ cs) :
    EV Try.prog pol (.call 4 [.agg ((Tr.mk k n s ks cs).enc.map .t), .t (.str key)] []) = some (.call (.t (.bool true)) []) := by
  have hsz := c_szTree _ (Tr.mk k n s ks cs) (Nat.le_refl _) ho 1048576 (by omega) (by omega)
  rw [left_eq (by omega)] at hsz
  have c2 : decide (1048576 - ((Tr.mk k n s ks cs).bulk : Int) < 0) = false := by simp; omega
  have c1 : decide ((key.length : Int) > 1048576) = false := by apply decide_eq_false; omega
  have hto := c_toF (Tr.mk k n s ks cs) hb
  have htO := c_toO _ (Tr.mk k n s ks cs) (Nat.le_refl _) hb
  have heqT := c_eqTree _ (Tr.mk k n s ks cs) (Nat.le_refl _) hb
  have hbm := Tr.bulks_mem hmem
  simp only [Tr.bulk] at hb hbm
  have hbc : (Tr.mk k1 n1 s1 ks1 cs1).bulk ≤ 1048576 := by simp only [Tr.bulk]; omega
  have heqC := c_eqTree _ (Tr.mk k1 n1 s1 ks1 cs1) (Nat.le_refl _) hbc
  have hR := c_kidR_yes key k n s ks cs (by omega) (by omega) i hp _ hc (c_cpR _ _ (Nat.le_refl _) hbc)
  obtain ⟨cap, hI⟩ := c_kidI_yes key k n s ks cs (by omega) (by omega) i hp k1 n1 s1 ks1 cs1 hc (c_cpO _ _ (Nat.le_refl _) hbc)
  have hcn := cnts_small cs (by omega)
  have hcn1 := cnts_small cs1 (by omega)
  have hM0 := c_markT (.t (.int .i64 k)) (.t (.int .i64 n)) (.t (.str s)) ks cs (by omega) (by omega) ks.length cs.length rfl rfl (some ks.length) (some cs.length) 1 (by omega) k n s rfl rfl rfl
  have hM1 := c_markT (.t (.int .i64 k1)) (.t (.int .i64 n1)) (.t (.str s1)) ks1 cs1 (by omega) (by omega) ks1.length cs1.length rfl rfl none cap 1 (by omega) k1 n1 s1 rfl rfl rfl
  have hH := c_heldT k1 n1 s1 ks1 cs1 (by omega) (by omega) 1 (by omega)
  rw [show ((1 : Nat) : Int) = 1 from rfl] at hM0 hM1 hH
  have g1 : decide (((1 + ks.length + cntTs cs : Nat) : Int) < 0) = false := by apply decide_eq_false; omega
  have g2 : decide (((1 + ks1.length + cntTs cs1 : Nat) : Int) < 0) = false := by apply decide_eq_false; omega
  have t1 := take_strs ks ks.length rfl
  have t2 := take_oc cs cs.length rfl
  have t3 := take_strs ks1 ks1.length rfl
  have t4 := take_oc cs1 cs1.length rfl
  have t5 := take_strs (mkS ks1.length 1) ks1.length (mkS_len _ _).symm
  have t6 := take_oc (mkTrs (1 + ks1.length) cs1) cs1.length (mkTrs_len _ _).symm
  have f1 := flatE_strs ks1
  have f2 := rowB_tr cs1
  unfold EqT at heqT heqC
  unfold ToO at htO
  clear hc hmem hp
  generalize (Tr.mk k n s ks cs).bulk = bt at *
  simp only [Tr.enc, List.map_cons, List.map_nil] at hsz hto htO heqT heqC hR hI hM0 hM1 hH ⊢
  generalize cntTs cs = n0 at *
  generalize cntTs cs1 = n2 at *
  generalize mkTrs (1 + ks1.length) cs1 = mc1 at *
  generalize mkS ks1.length 1 = ms1 at *
  generalize mkTrs (1 + ks.length) cs = mc at *
  generalize mkS ks.length 1 = ms at *
  refine call_eq rfl Try.func4 rfl (by kernel_rfl) ?_
  unfold Try.f4
  simp (disch := ((try simp only [List.length_cons, List.length_append, List.length_nil, List.length_map]); omega)) only [↓GO, ↓DRW, GA, ren, renB, footX, refs, cellsV, cst, cstAt, nilC, idxAddr, E.load, E.store, binO, isC, bin, ibin, sbin, una, isShift, okCell, packV, lenV, blt, fnV, asArg, snapV, snapS, snapP, snapC, snapX, flatV, flatT, openK, layBack, allT, allZ, mkS, srcOf0, unN, idxV, nilEq, give, tupV, mkEnv, extV, pickV, LVS, OVS, LTS, TYS, PMS, pmT, OWS, ownT, GHS, ghT, Int.reduceToNat, Nat.reduceGT, ↓reduceIte, Nat.reduceAdd, Nat.reduceMul, Nat.reduceSub, Nat.reduceEqDiff, Nat.reduceLeDiff, Nat.reduceLT, Nat.reduceBEq, Int.reduceBEq, Int.reduceBNe, Int.reduceEq, Int.reduceLT, Int.reduceLE, Int.reduceGT, Int.reduceNeg, reduceCtorEq, selK_some, selK_none, bltO, brwK, brwA, brwB, sliceO, mkO, appO, ghOne, ghAt, ghCells, fld1, unf1, setC, oc, oTs, oT, rowT, rowT.rowTs, rowB, isL, Bool.not_false, Bool.true_and, Bool.and_true, Bool.and_self, List.flatMap_append, List.map_append, List.set_cons_zero, List.set_cons_succ, Int.cast_ofNat_Int, getE_zero, getE_one, getE_two, Option.isSome_none, c1, hsz, c2, hto, htO, heqT, heqC, hR, hI, hM0, hM1, hH, g1, g2, t1, t2, t3, t4, t5, t6, f1, f2, List.drop_zero, snapE_oc, ocE_ren, ocE_refs, bne_self_eq_false, rch3]
set_option maxHeartbeats 8000000 in
theorem c_lawKid_no (key : Str) (k n : Int) (s : Str) (ks : List Str) (cs : List Tr) (hkey : key.length ≤ 1048576) (ho : (Tr.mk k n s ks cs).ok) (hb : (Tr.mk k n s ks cs).bulk ≤ 1048576) (hp : kidP key k ks cs = -1) :
    EV Try.prog pol (.call 4 [.agg ((Tr.mk k n s ks cs).enc.map .t), .t (.str key)] []) = some (.call (.t (.bool true)) []) := by
  have hsz := c_szTree _ (Tr.mk k n s ks cs) (Nat.le_refl _) ho 1048576 (by omega) (by omega)
  rw [left_eq (by omega)] at hsz
  have c2 : decide (1048576 - ((Tr.mk k n s ks cs).bulk : Int) < 0) = false := by simp; omega
  have c1 : decide ((key.length : Int) > 1048576) = false := by apply decide_eq_false; omega
  have hto := c_toF (Tr.mk k n s ks cs) hb
  have htO := c_toO _ (Tr.mk k n s ks cs) (Nat.le_refl _) hb
  have heqT := c_eqTree _ (Tr.mk k n s ks cs) (Nat.le_refl _) hb
  simp only [Tr.bulk] at hb
  have heqC := c_eqTree _ zt (Nat.le_refl _) (by decide)
  have hR := c_kidR_no key k n s ks cs (by omega) (by omega) hp
  have hI := c_kidI_no key k n s ks cs (by omega) (by omega) hp
  have hcn := cnts_small cs (by omega)
  have hM0 := c_markT (.t (.int .i64 k)) (.t (.int .i64 n)) (.t (.str s)) ks cs (by omega) (by omega) ks.length cs.length rfl rfl (some ks.length) (some cs.length) 1 (by omega) k n s rfl rfl rfl
  have hM1 := c_markZ 1
  have hH : callPure (EV Try.prog pol) 19 [.agg [.t (.int .i64 0), .t (.int .i64 0), .t (.str []), .t (.list 1 []), .t (.list 5 [])], .t (.int .i64 1)] = some (.t (.int .i64 1)) := c_heldT 0 0 [] [] [] (by simp) (by simp [Tr.bulks]) 1 (by simp [cntTs])
  rw [show ((1 : Nat) : Int) = 1 from rfl] at hM0
  have g1 : decide (((1 + ks.length + cntTs cs : Nat) : Int) < 0) = false := by apply decide_eq_false; omega
  have t1 := take_strs ks ks.length rfl
  have t2 := take_oc cs cs.length rfl
  unfold EqT at heqT heqC
  unfold ToO at htO
  unfold zV at hI hM1
  clear hp
  generalize (Tr.mk k n s ks cs).bulk = bt at *
  simp only [Tr.enc, zt, strs, Tr.encs, List.map_cons, List.map_nil] at hsz hto htO heqT heqC hR hI hM0 hM1 hH t1 ⊢
  generalize cntTs cs = n0 at *
  generalize mkTrs (1 + ks.length) cs = mc at *
  generalize mkS ks.length 1 = ms at *
  refine call_eq rfl Try.func4 rfl (by kernel_rfl) ?_
  unfold Try.f4
  simp (disch := ((try simp only [List.length_cons, List.length_append, List.length_nil, List.length_map]); omega)) only [↓GO, ↓DRW, GA, ren, renB, footX, refs, cellsV, cst, cstAt, nilC, idxAddr, E.load, E.store, binO, isC, bin, ibin, sbin, una, isShift, okCell, packV, lenV, blt, fnV, asArg, snapV, snapS, snapP, snapC, snapX, flatV, flatT, openK, layBack, allT, allZ, mkS, srcOf0, unN, idxV, nilEq, give, tupV, mkEnv, extV, pickV, LVS, OVS, LTS, TYS, PMS, pmT, OWS, ownT, GHS, ghT, Int.reduceToNat, Nat.reduceGT, ↓reduceIte, Nat.reduceAdd, Nat.reduceMul, Nat.reduceSub, Nat.reduceEqDiff, Nat.reduceLeDiff, Nat.reduceLT, Nat.reduceBEq, Int.reduceBEq, Int.reduceBNe, Int.reduceEq, Int.reduceLT, Int.reduceLE, Int.reduceGT, Int.reduceNeg, reduceCtorEq, selK_some, selK_none, bltO, brwK, brwA, brwB, sliceO, mkO, appO, ghOne, ghAt, ghCells, fld1, unf1, setC, oc, oTs, oT, rowT, rowT.rowTs, rowB, isL, Bool.not_false, Bool.true_and, Bool.and_true, Bool.and_self, List.flatMap_append, List.map_append, List.set_cons_zero, List.set_cons_succ, Int.cast_ofNat_Int, getE_zero, getE_one, getE_two, Option.isSome_none, c1, hsz, c2, hto, htO, heqT, heqC, hR, hI, hM0, hM1, hH, g1, t1, t2, List.drop_zero, snapE_oc, ocE_ren, ocE_refs, bne_self_eq_false, rch3]
theorem c_lawKid (t : Tr) (key : Str) (ho : t.ok) (hko : key.length ≤ 9223372036854775807) : EV Try.prog pol (.call 4 [.agg (t.enc.map .t), .t (.str key)] []) = some (.call (.t (.bool true)) []) := by
  obtain ⟨k, n, s, ks, cs⟩ := t
  by_cases hkey : key.length ≤ 1048576
  · by_cases hb : (Tr.mk k n s ks cs).bulk ≤ 1048576
    · rcases kidP_rng key k ks cs with hp | ⟨i, hp, hi⟩
      · exact c_lawKid_no key k n s ks cs hkey ho hb hp
      · have hc := Tr.encs_get cs i hi
        have hm : cs[i] ∈ cs := List.getElem_mem hi
        generalize cs[i] = c at hc hm
        obtain ⟨k1, n1, s1, ks1, cs1⟩ := c
        exact c_lawKid_yes key k n s ks cs hkey ho hb i hp k1 n1 s1 ks1 cs1 hc hm
    · have hsz := c_szTree _ (Tr.mk k n s ks cs) (Nat.le_refl _) ho 1048576 (by omega) (by omega)
      have hle : left 1048576 (Tr.mk k n s ks cs).bulk = -1 := if_pos (by omega)
      have c1 : decide ((key.length : Int) > 1048576) = false := by apply decide_eq_false; omega
      rw [hle] at hsz
      clear hb hle ho
      simp only [Tr.enc, List.map_cons, List.map_nil] at hsz ⊢
      refine call_eq rfl Try.func4 rfl (by kernel_rfl) ?_
      unfold Try.f4
      simp (disch := ((try simp only [List.length_cons, List.length_append, List.length_nil, List.length_map]); omega)) only [↓GO, ↓DRW, GA, ren, renB, footX, refs, cellsV, cst, cstAt, nilC, idxAddr, E.load, E.store, binO, isC, bin, ibin, sbin, una, isShift, okCell, packV, lenV, blt, fnV, asArg, snapV, snapS, snapP, snapC, snapX, flatV, flatT, openK, layBack, allT, allZ, mkS, srcOf0, unN, idxV, nilEq, give, tupV, mkEnv, extV, pickV, LVS, OVS, LTS, TYS, PMS, pmT, OWS, ownT, GHS, ghT, Int.reduceToNat, Nat.reduceGT, ↓reduceIte, Nat.reduceAdd, Nat.reduceMul, Nat.reduceSub, Nat.reduceEqDiff, Nat.reduceLeDiff, Nat.reduceLT, Nat.reduceBEq, Int.reduceBEq, Int.reduceBNe, Int.reduceEq, Int.reduceLT, Int.reduceLE, Int.reduceGT, Int.reduceNeg, reduceCtorEq, selK_some, selK_none, bltO, brwK, brwA, brwB, sliceO, mkO, appO, ghOne, ghAt, ghCells, fld1, unf1, setC, oc, oTs, oT, rowT, rowT.rowTs, rowB, isL, Bool.not_false, Bool.true_and, Bool.and_true, Bool.and_self, List.flatMap_append, List.map_append, List.set_cons_zero, List.set_cons_succ, Int.cast_ofNat_Int, getE_zero, getE_one, getE_two, Option.isSome_none, c1, hsz]
  · have c1 : decide ((key.length : Int) > 1048576) = true := by apply decide_eq_true; omega
    simp only [Tr.enc, List.map_cons, List.map_nil]
    refine call_eq rfl Try.func4 rfl (by kernel_rfl) ?_
    unfold Try.f4
    simp (disch := ((try simp only [List.length_cons, List.length_append, List.length_nil, List.length_map]); omega)) only [↓GO, ↓DRW, GA, ren, renB, footX, refs, cellsV, cst, cstAt, nilC, idxAddr, E.load, E.store, binO, isC, bin, ibin, sbin, una, isShift, okCell, packV, lenV, blt, fnV, asArg, snapV, snapS, snapP, snapC, snapX, flatV, flatT, openK, layBack, allT, allZ, mkS, srcOf0, unN, idxV, nilEq, give, tupV, mkEnv, extV, pickV, LVS, OVS, LTS, TYS, PMS, pmT, OWS, ownT, GHS, ghT, Int.reduceToNat, Nat.reduceGT, ↓reduceIte, Nat.reduceAdd, Nat.reduceMul, Nat.reduceSub, Nat.reduceEqDiff, Nat.reduceLeDiff, Nat.reduceLT, Nat.reduceBEq, Int.reduceBEq, Int.reduceBNe, Int.reduceEq, Int.reduceLT, Int.reduceLE, Int.reduceGT, Int.reduceNeg, reduceCtorEq, selK_some, selK_none, bltO, brwK, brwA, brwB, sliceO, mkO, appO, ghOne, ghAt, ghCells, fld1, unf1, setC, oc, oTs, oT, rowT, rowT.rowTs, rowB, isL, Bool.not_false, Bool.true_and, Bool.and_true, Bool.and_self, List.flatMap_append, List.map_append, List.set_cons_zero, List.set_cons_succ, Int.cast_ofNat_Int, getE_zero, getE_one, getE_two, Option.isSome_none, c1]
end Go.Proofs.Ytcphjdfmjhijkaa
/- Maps by both. Conditions: those of each lemma. -/
namespace Go.Proofs.Ytcphjdfmjhijkaa
open E
set_option linter.unusedSimpArgs false
set_option linter.unusedVariables false
set_option maxRecDepth 100000
theorem strs_app (a b : List Str) : strs (a ++ b) = strs a ++ strs b := by simp [strs]
theorem strs_snoc (a : List Str) (x : Str) : strs (a ++ [x]) = strs a ++ [[.str x]] := by simp [strs]
theorem l_mapsR (ks : List Str) (cs : List Tr) (hk : ks.length ≤ 1048576) (hl : cs.length ≤ 1048576) (hc : ∀ c ∈ cs, CpR c) (n : Nat) (hn : n = min ks.length cs.length) : ∀ (rk : List Str) (rc : List Tr) (pk : List Str) (pc : List Tr) (m : Nat),
    ks = pk ++ rk → cs = pc ++ rc → m = pk.length → m = pc.length →
    EV Try.prog pol (.loop 9 58 0 [.t (.list 1 (strs ks)), .t (.list 5 (Tr.encs cs)), .ptr 0 0 0, .ptr 1 0 0, .t (.int .i64 (m : Int))] [.vs 5 [zV], .vs 5 [[.t (.int .i64 6), .t (.int .i64 0), .t (.str []), .sl 2 0 m none, .sl 3 0 m none]], .ts 1 (strs pk), .ts 5 (Tr.encs pc)])
      = some (.loop (.exit 0) [.ptr 0 0 0, .ptr 1 0 0] [.vs 5 [zV], .vs 5 [[.t (.int .i64 6), .t (.int .i64 0), .t (.str []), .sl 2 0 n none, .sl 3 0 n none]], .ts 1 (strs (ks.take n)), .ts 5 (Tr.encs (cs.take n))])
  | [], rc, pk, pc, m, e1, e2, h1, h2 => by
    have k1 : ks.length = m := by rw [e1, h1]; simp
    have k2 : m ≤ cs.length := by rw [e2, h2]; simp
    have en : n = m := by omega
    have t1 : ks.take n = pk := by rw [en, e1, h1]; simp
    have t2 : cs.take n = pc := by rw [en, e2, h2]; simp
    have c : decide ((m : Int) < (ks.length : Int)) = false := by apply decide_eq_false; omega
    rw [t1, t2, en]
    simp only [zV]
    refine loop_eq Try.func9 rfl rfl ?_
    simp (disch := ((try simp only [List.length_cons, List.length_append, List.length_nil, List.length_map]); omega)) only [↓GO, ↓DRW, GA, ren, renB, footX, refs, cellsV, cst, cstAt, nilC, idxAddr, E.load, E.store, binO, isC, bin, ibin, sbin, una, isShift, okCell, packV, lenV, blt, fnV, asArg, snapV, snapS, snapP, snapC, snapX, flatV, flatT, openK, layBack, allT, allZ, mkS, srcOf0, unN, idxV, nilEq, give, tupV, mkEnv, extV, pickV, LVS, OVS, LTS, TYS, PMS, pmT, OWS, ownT, GHS, ghT, Int.reduceToNat, Nat.reduceGT, ↓reduceIte, Nat.reduceAdd, Nat.reduceMul, Nat.reduceSub, Nat.reduceEqDiff, Nat.reduceLeDiff, Nat.reduceLT, Nat.reduceBEq, Int.reduceBEq, Int.reduceBNe, Int.reduceEq, Int.reduceLT, Int.reduceLE, Int.reduceGT, Int.reduceNeg, reduceCtorEq, Int.cast_ofNat_Int, getE_zero, getE_one, getE_two, Option.isSome_none, c, strs_len, Tr.encs_len, rch3]
  | x :: rk, [], pk, pc, m, e1, e2, h1, h2 => by
    have k1 : m < ks.length := by rw [e1, h1]; simp
    have k2 : m = cs.length := by rw [e2, h2]; simp
    have en : n = m := by omega
    have t1 : ks.take n = pk := by rw [en, e1, h1]; simp
    have t2 : cs.take n = pc := by rw [en, e2, h2]; simp
    have c : decide ((m : Int) < (ks.length : Int)) = true := by apply decide_eq_true; omega
    have c2 : decide ((m : Int) < (cs.length : Int)) = false := by apply decide_eq_false; omega
    rw [t1, t2, en]
    simp only [zV]
    refine loop_eq Try.func9 rfl rfl ?_
    simp (disch := ((try simp only [List.length_cons, List.length_append, List.length_nil, List.length_map]); omega)) only [↓GO, ↓DRW, GA, ren, renB, footX, refs, cellsV, cst, cstAt, nilC, idxAddr, E.load, E.store, binO, isC, bin, ibin, sbin, una, isShift, okCell, packV, lenV, blt, fnV, asArg, snapV, snapS, snapP, snapC, snapX, flatV, flatT, openK, layBack, allT, allZ, mkS, srcOf0, unN, idxV, nilEq, give, tupV, mkEnv, extV, pickV, LVS, OVS, LTS, TYS, PMS, pmT, OWS, ownT, GHS, ghT, Int.reduceToNat, Nat.reduceGT, ↓reduceIte, Nat.reduceAdd, Nat.reduceMul, Nat.reduceSub, Nat.reduceEqDiff, Nat.reduceLeDiff, Nat.reduceLT, Nat.reduceBEq, Int.reduceBEq, Int.reduceBNe, Int.reduceEq, Int.reduceLT, Int.reduceLE, Int.reduceGT, Int.reduceNeg, reduceCtorEq, Int.cast_ofNat_Int, getE_zero, getE_one, getE_two, Option.isSome_none, c, c2, strs_len, Tr.encs_len, rch3]
  | x :: rk, y :: rc, pk, pc, m, e1, e2, h1, h2 => by
    have k1 : m < ks.length := by rw [e1, h1]; simp
    have k2 : m < cs.length := by rw [e2, h2]; simp
    have c : decide ((m : Int) < (ks.length : Int)) = true := by apply decide_eq_true; omega
    have c2 : decide ((m : Int) < (cs.length : Int)) = true := by apply decide_eq_true; omega
    have c0 : decide ((0 : Int) ≤ (m : Int)) = true := by simp
    have hget : (Tr.encs cs)[m]? = some y.enc := by rw [e2, h2]; simp [Tr.encs_eq]
    have hgk : (strs ks)[m]? = some [.str x] := by rw [e1, h1]; simp [strs]
    have hcy := hc y (by rw [e2]; simp)
    have IH := l_mapsR ks cs hk hl hc n hn rk rc (pk ++ [x]) (pc ++ [y]) (m + 1) (by rw [e1]; simp) (by rw [e2]; simp) (by simp [h1]) (by simp [h2])
    rw [encs_snoc, strs_snoc, show ((m + 1 : Nat) : Int) = (m : Int) + 1 by simp] at IH
    have hol : (Tr.encs pc).length = m := by rw [Tr.encs_len, h2]
    have hok : (strs pk).length = m := by rw [strs_len, h1]
    have hml : m ≤ 1048576 := by omega
    clear e1 e2 h1 h2
    obtain ⟨k1, n1, s1, ks1, cs1⟩ := y
    simp only [CpR, Tr.enc, List.map_cons, List.map_nil, zV] at hcy hget IH ⊢
    generalize Tr.encs pc = A at *
    generalize strs pk = B at *
    refine loop_eq Try.func9 rfl rfl ?_
    simp (disch := ((try simp only [List.length_cons, List.length_append, List.length_nil, List.length_map]); omega)) only [↓GO, ↓DRW, GA, ren, renB, footX, refs, cellsV, cst, cstAt, nilC, idxAddr, E.load, E.store, binO, isC, bin, ibin, sbin, una, isShift, okCell, packV, lenV, blt, fnV, asArg, snapV, snapS, snapP, snapC, snapX, flatV, flatT, openK, layBack, allT, allZ, mkS, srcOf0, unN, idxV, nilEq, give, tupV, mkEnv, extV, pickV, LVS, OVS, LTS, TYS, PMS, pmT, OWS, ownT, GHS, ghT, Int.reduceToNat, Nat.reduceGT, ↓reduceIte, Nat.reduceAdd, Nat.reduceMul, Nat.reduceSub, Nat.reduceEqDiff, Nat.reduceLeDiff, Nat.reduceLT, Nat.reduceBEq, Int.reduceBEq, Int.reduceBNe, Int.reduceEq, Int.reduceLT, Int.reduceLE, Int.reduceGT, Int.reduceNeg, reduceCtorEq, Int.cast_ofNat_Int, getE_zero, getE_one, getE_two, Option.isSome_none, c, c2, c0, Tr.encs_len, strs_len, hget, hgk, hcy, wrap_in, hol, hok, IH, rch3, le_T]
    refine dyn_pos (by kernel_rfl) ?_
    refine dyn_pos (by kernel_rfl) ?_
    rfl
end Go.Proofs.Ytcphjdfmjhijkaa
/- Maps by the implementation. Conditions: those of each lemma. -/
namespace Go.Proofs.Ytcphjdfmjhijkaa
open E
set_option linter.unusedSimpArgs false
set_option linter.unusedVariables false
set_option maxRecDepth 100000
theorem encs_take (cs : List Tr) (n : Nat) : (Tr.encs cs).take n = Tr.encs (cs.take n) := by simp [Tr.encs_eq, List.map_take]
theorem strs_take (ks : List Str) (n : Nat) : (strs ks).take n = strs (ks.take n) := by simp [strs, List.map_take]
theorem c_mapsI (ks : List Str) (cs : List Tr) (hk : ks.length ≤ 1048576) (hl : cs.length ≤ 1048576) (n : Nat) (hn : n = min ks.length cs.length) (hcp : CpO (.mk 6 0 [] (ks.take n) (cs.take n))) :
    ∃ cap, EV Try.prog pol (.callO false 12 [.t (.list 1 (strs ks)), .t (.list 5 (Tr.encs cs))] []) = some (.call (.agg [.t (.int .i64 6), .t (.int .i64 0), .t (.str []), .sl 0 0 n none, .sl 1 0 n cap]) [.ts 1 (strs (ks.take n)), .vs 5 (ocE (Tr.encs (cs.take n)))]) := by
  obtain ⟨cap, hcp⟩ := hcp
  have l1 : (ks.take n).length = n := by rw [List.length_take]; omega
  have l2 : (cs.take n).length = n := by rw [List.length_take]; omega
  have t1 := strs_take ks n
  have t2 := encs_take cs n
  have hm : (if (cs.length : Int) < (ks.length : Int) then (cs.length : Int) else (ks.length : Int)) = (n : Int) := by split <;> omega
  have b1 : n ≤ ks.length := by omega
  have b2 : n ≤ cs.length := by omega
  have k1 := fun (ty : TypeId) (h : Heap) (k2 : IntKind) => cut_list0 (P := Try.prog) (ty := ty) (h := h) (k2 := k2) (es := strs ks) (sz := 1) (Int.natCast_nonneg n) (by rw [strs_len]; omega)
  have k2 := fun (ty : TypeId) (h : Heap) (k2 : IntKind) => cut_list0 (P := Try.prog) (ty := ty) (h := h) (k2 := k2) (es := Tr.encs cs) (sz := 5) (Int.natCast_nonneg n) (by rw [Tr.encs_len]; omega)
  simp only [Int.toNat_natCast, t1, t2] at k1 k2
  refine ⟨cap, ?_⟩
  simp only [Tr.enc, List.map_cons, List.map_nil, l1, l2] at hcp ⊢
  refine callO_eq Try.func12 rfl (by kernel_rfl) ?_
  unfold Try.f12
  simp (disch := ((try simp only [List.length_cons, List.length_append, List.length_nil, List.length_map]); omega)) only [↓GO, ↓DRW, GA, ren, renB, footX, refs, cellsV, cst, cstAt, nilC, idxAddr, E.load, E.store, binO, isC, bin, ibin, sbin, una, isShift, okCell, packV, lenV, blt, fnV, asArg, snapV, snapS, snapP, snapC, snapX, flatV, flatT, openK, layBack, allT, allZ, mkS, srcOf0, unN, idxV, nilEq, give, tupV, mkEnv, extV, pickV, LVS, OVS, LTS, TYS, PMS, pmT, OWS, ownT, GHS, ghT, Int.reduceToNat, Nat.reduceGT, ↓reduceIte, Nat.reduceAdd, Nat.reduceMul, Nat.reduceSub, Nat.reduceEqDiff, Nat.reduceLeDiff, Nat.reduceLT, Nat.reduceBEq, Int.reduceBEq, Int.reduceBNe, Int.reduceEq, Int.reduceLT, Int.reduceLE, Int.reduceGT, Int.reduceNeg, reduceCtorEq, selK_some, selK_none, bltO, brwK, brwA, brwB, sliceO, mkO, appO, ghOne, ghAt, ghCells, fld1, unf1, setC, oc, oTs, oT, rowT, rowT.rowTs, rowB, isL, Bool.not_false, Bool.true_and, Bool.and_true, Bool.and_self, List.flatMap_append, List.map_append, List.set_cons_zero, List.set_cons_succ, Int.cast_ofNat_Int, getE_zero, getE_one, getE_two, Option.isSome_none, hm, k1, k2, t1, t2, b1, b2, strs_len, Tr.encs_len, hcp, ocE_ren, ocE_refs, List.drop_zero, rch3]
  refine dyn_pos (by kernel_rfl) ?_
  rfl
end Go.Proofs.Ytcphjdfmjhijkaa
/- Lists laid anew, as values that nobody writes. Conditions: those of each lemma. -/
namespace Go.Proofs.Ytcphjdfmjhijkaa
open E
set_option linter.unusedSimpArgs false
set_option linter.unusedVariables false
set_option maxRecDepth 100000
theorem c_toTreeSF (cs : List Tr) (hl : cs.length ≤ 1048576) (hc : ∀ c ∈ cs, ToO c) : callPure (EV Try.prog pol) 11 [.t (.list 5 (Tr.encs cs))] = some (.t (.list 5 (Tr.encs cs))) := by
  apply eq_call
  refine call_eq rfl Try.func11 rfl (by kernel_rfl) ?_
  unfold Try.f11
  have h1 : ¬ ((cs.length : Int) < 0) := by omega
  have h2 : ¬ (cs.length * 80 > 140737488355328) := by omega
  have h3 : ¬ (cs.length > 140737488355328) := by omega
  have L := l_toO cs hl hc cs [] rfl
  simp only [List.length_nil, Int.natCast_zero, show Tr.encs [] = [] by simp [Tr.encs_eq], ocE_nil, List.nil_append] at L
  have hB := rep_refs zV rfl cs.length
  have hRB := fun m => rep_ren m zV rfl cs.length
  have g := gvE_oc (Tr.encs cs)
  have ht : (Tr.encs cs).take cs.length = Tr.encs cs := by rw [← Tr.encs_len cs]; simp
  unfold zV at L hB hRB
  simp (disch := ((try simp only [List.length_cons, List.length_append, List.length_nil, List.length_map]); omega)) only [↓GO, ↓DRW, GA, ren, renB, footX, refs, cellsV, cst, cstAt, nilC, idxAddr, E.load, E.store, binO, isC, bin, ibin, sbin, una, isShift, okCell, packV, lenV, blt, fnV, asArg, snapV, snapS, snapP, snapC, snapX, flatV, flatT, openK, layBack, allT, allZ, mkS, srcOf0, unN, idxV, nilEq, give, tupV, mkEnv, extV, pickV, LVS, OVS, LTS, TYS, PMS, pmT, OWS, ownT, GHS, ghT, Int.reduceToNat, Nat.reduceGT, ↓reduceIte, Nat.reduceAdd, Nat.reduceMul, Nat.reduceSub, Nat.reduceEqDiff, Nat.reduceLeDiff, Nat.reduceLT, Nat.reduceBEq, Int.reduceBEq, Int.reduceBNe, Int.reduceEq, Int.reduceLT, Int.reduceLE, Int.reduceGT, Int.reduceNeg, reduceCtorEq, selK_some, selK_none, bltO, brwK, brwA, brwB, sliceO, mkO, appO, ghOne, ghAt, ghCells, fld1, unf1, setC, oc, oTs, oT, rowT, rowT.rowTs, rowB, isL, Bool.not_false, Bool.true_and, Bool.and_true, Bool.and_self, List.flatMap_append, List.map_append, List.set_cons_zero, List.set_cons_succ, Int.cast_ofNat_Int, getE_zero, getE_one, getE_two, Option.isSome_none, Tr.encs_len, Int.toNat_natCast, h1, h2, h3, L, hB, hRB, g, ht, List.drop_zero, ocE_ren, ocE_refs, ne_eq, not_true_eq_false, not_false_eq_true, rch3]
theorem c_toStrF (ks : List Str) (hl : ks.length ≤ 1048576) : callPure (EV Try.prog pol) 10 [.t (.list 1 (strs ks))] = some (.t (.list 1 (strs ks))) := by
  apply eq_call
  refine call_eq rfl Try.func10 rfl (by kernel_rfl) ?_
  unfold Try.f10
  have h1 : ¬ ((ks.length : Int) < 0) := by omega
  have h2 : ¬ (ks.length * 16 > 140737488355328) := by omega
  have h3 : ¬ (ks.length > 140737488355328) := by omega
  have hz : List.replicate ks.length [T.str []] = fillE (strs ks) [.str []] 0 := by rw [fillE_zero, strs_len]
  have ht : (strs ks).take ks.length = strs ks := by rw [← strs_len ks]; simp
  have IH := l_toStringS ks hl ks.length 0 (by omega) (by omega)
  simp only [Int.natCast_zero] at IH
  simp (disch := omega) only [E.mkS, ↓GO, ↓DRW, GA, ren, renB, footX, refs, cellsV, cst, cstAt, nilC, idxAddr, E.load, E.store, binO, isC, bin, ibin, sbin, una, isShift, okCell, packV, lenV, blt, fnV, asArg, snapV, snapS, snapP, snapC, snapX, flatV, flatT, openK, layBack, allT, allZ, mkS, srcOf0, unN, idxV, nilEq, give, tupV, mkEnv, extV, pickV, LVS, OVS, LTS, TYS, PMS, pmT, OWS, ownT, GHS, ghT, Int.reduceToNat, Nat.reduceGT, ↓reduceIte, Nat.reduceAdd, Nat.reduceMul, Nat.reduceSub, Nat.reduceEqDiff, Nat.reduceLeDiff, Nat.reduceLT, Nat.reduceBEq, Int.reduceBEq, Int.reduceBNe, Int.reduceEq, Int.reduceLT, Int.reduceLE, Int.reduceGT, Int.reduceNeg, reduceCtorEq, strs_len, Int.toNat_natCast, h1, h2, h3, hz, IH, ht, List.drop_zero, ne_eq, not_true_eq_false]
end Go.Proofs.Ytcphjdfmjhijkaa
/- The law of Maps. Conditions: those of each lemma. -/
namespace Go.Proofs.Ytcphjdfmjhijkaa
open E
set_option linter.unusedSimpArgs false
set_option linter.unusedVariables false
set_option maxRecDepth 100000
theorem bulkS_take : ∀ (ks : List Str) (n : Nat), bulkS (ks.take n) ≤ bulkS ks
  | [], n => by simp
  | k :: ks, 0 => by simp [bulkS]
  | k :: ks, n + 1 => by
    have := bulkS_take ks n
    simp only [List.take_succ_cons, bulkS, List.map_cons, List.sum_cons] at *
    omega
theorem bulks_take : ∀ (cs : List Tr) (n : Nat), Tr.bulks (cs.take n) ≤ Tr.bulks cs
  | [], n => by simp
  | c :: cs, 0 => by simp [Tr.bulks]
  | c :: cs, n + 1 => by
    have := bulks_take cs n
    simp only [List.take_succ_cons, Tr.bulks] at *
    omega
theorem c_mapsR (ks : List Str) (cs : List Tr) (hk : ks.length ≤ 1048576) (hl : cs.length ≤ 1048576) (hc : ∀ c ∈ cs, CpR c) (n : Nat) (hn : n = min ks.length cs.length) :
    callPure (EV Try.prog pol) 9 [.t (.list 1 (strs ks)), .t (.list 5 (Tr.encs cs))] = some (.agg ((Tr.mk 6 0 [] (ks.take n) (cs.take n)).enc.map .t)) := by
  by_cases h0 : n = 0
  · have L : EV Try.prog pol (.loop 9 58 0 [.t (.list 1 (strs ks)), .t (.list 5 (Tr.encs cs)), .ptr 0 0 0, .ptr 1 0 0, .t (.int .i64 0)] [.vs 5 [zV], .vs 5 [[.t (.int .i64 6), .t (.int .i64 0), .t (.str []), .nil 1, .nil 5]]])
        = some (.loop (.exit 0) [.ptr 0 0 0, .ptr 1 0 0] [.vs 5 [zV], .vs 5 [[.t (.int .i64 6), .t (.int .i64 0), .t (.str []), .nil 1, .nil 5]]]) := by
      simp only [zV]
      cases c1 : decide ((0 : Int) < (ks.length : Int)) with
      | false =>
        refine loop_eq Try.func9 rfl rfl ?_
        simp (disch := ((try simp only [List.length_cons, List.length_append, List.length_nil, List.length_map]); omega)) only [↓GO, ↓DRW, GA, ren, renB, footX, refs, cellsV, cst, cstAt, nilC, idxAddr, E.load, E.store, binO, isC, bin, ibin, sbin, una, isShift, okCell, packV, lenV, blt, fnV, asArg, snapV, snapS, snapP, snapC, snapX, flatV, flatT, openK, layBack, allT, allZ, mkS, srcOf0, unN, idxV, nilEq, give, tupV, mkEnv, extV, pickV, LVS, OVS, LTS, TYS, PMS, pmT, OWS, ownT, GHS, ghT, Int.reduceToNat, Nat.reduceGT, ↓reduceIte, Nat.reduceAdd, Nat.reduceMul, Nat.reduceSub, Nat.reduceEqDiff, Nat.reduceLeDiff, Nat.reduceLT, Nat.reduceBEq, Int.reduceBEq, Int.reduceBNe, Int.reduceEq, Int.reduceLT, Int.reduceLE, Int.reduceGT, Int.reduceNeg, reduceCtorEq, Int.cast_ofNat_Int, getE_zero, getE_one, getE_two, Option.isSome_none, c1, strs_len, Tr.encs_len, rch3]
      | true =>
        have c2 : decide ((0 : Int) < (cs.length : Int)) = false := by have := of_decide_eq_true c1; apply decide_eq_false; omega
        refine loop_eq Try.func9 rfl rfl ?_
        simp (disch := ((try simp only [List.length_cons, List.length_append, List.length_nil, List.length_map]); omega)) only [↓GO, ↓DRW, GA, ren, renB, footX, refs, cellsV, cst, cstAt, nilC, idxAddr, E.load, E.store, binO, isC, bin, ibin, sbin, una, isShift, okCell, packV, lenV, blt, fnV, asArg, snapV, snapS, snapP, snapC, snapX, flatV, flatT, openK, layBack, allT, allZ, mkS, srcOf0, unN, idxV, nilEq, give, tupV, mkEnv, extV, pickV, LVS, OVS, LTS, TYS, PMS, pmT, OWS, ownT, GHS, ghT, Int.reduceToNat, Nat.reduceGT, ↓reduceIte, Nat.reduceAdd, Nat.reduceMul, Nat.reduceSub, Nat.reduceEqDiff, Nat.reduceLeDiff, Nat.reduceLT, Nat.reduceBEq, Int.reduceBEq, Int.reduceBNe, Int.reduceEq, Int.reduceLT, Int.reduceLE, Int.reduceGT, Int.reduceNeg, reduceCtorEq, Int.cast_ofNat_Int, getE_zero, getE_one, getE_two, Option.isSome_none, c1, c2, strs_len, Tr.encs_len, rch3]
    rw [h0]
    simp only [Tr.enc, Tr.encs, strs, List.take_zero, List.map_cons, List.map_nil, zV] at L ⊢
    apply eq_call
    refine call_eq rfl Try.func9 rfl (by kernel_rfl) ?_
    unfold Try.f9
    simp (disch := ((try simp only [List.length_cons, List.length_append, List.length_nil, List.length_map]); omega)) only [↓GO, ↓DRW, GA, ren, renB, footX, refs, cellsV, cst, cstAt, nilC, idxAddr, E.load, E.store, binO, isC, bin, ibin, sbin, una, isShift, okCell, packV, lenV, blt, fnV, asArg, snapV, snapS, snapP, snapC, snapX, flatV, flatT, openK, layBack, allT, allZ, mkS, srcOf0, unN, idxV, nilEq, give, tupV, mkEnv, extV, pickV, LVS, OVS, LTS, TYS, PMS, pmT, OWS, ownT, GHS, ghT, Int.reduceToNat, Nat.reduceGT, ↓reduceIte, Nat.reduceAdd, Nat.reduceMul, Nat.reduceSub, Nat.reduceEqDiff, Nat.reduceLeDiff, Nat.reduceLT, Nat.reduceBEq, Int.reduceBEq, Int.reduceBNe, Int.reduceEq, Int.reduceLT, Int.reduceLE, Int.reduceGT, Int.reduceNeg, reduceCtorEq, Int.cast_ofNat_Int, getE_zero, getE_one, getE_two, Option.isSome_none, L, rch3]
  · obtain ⟨x, rk, e1⟩ : ∃ x rk, ks = x :: rk := by
      cases ks with
      | nil => simp at hn; omega
      | cons x rk => exact ⟨x, rk, rfl⟩
    obtain ⟨y, rc, e2⟩ : ∃ y rc, cs = y :: rc := by
      cases cs with
      | nil => simp at hn; omega
      | cons y rc => exact ⟨y, rc, rfl⟩
    have hcy := hc y (by rw [e2]; simp)
    have L := l_mapsR ks cs hk hl hc n hn rk rc [x] [y] 1 (by rw [e1]; rfl) (by rw [e2]; rfl) rfl rfl
    have c : decide ((0 : Int) < (ks.length : Int)) = true := by apply decide_eq_true; omega
    have c2 : decide ((0 : Int) < (cs.length : Int)) = true := by apply decide_eq_true; omega
    have hget : (Tr.encs cs)[0]? = some y.enc := by rw [e2]; rfl
    have hgk : (strs ks)[0]? = some [.str x] := by rw [e1]; rfl
    have L0 : EV Try.prog pol (.loop 9 58 0 [.t (.list 1 (strs ks)), .t (.list 5 (Tr.encs cs)), .ptr 0 0 0, .ptr 1 0 0, .t (.int .i64 0)] [.vs 5 [zV], .vs 5 [[.t (.int .i64 6), .t (.int .i64 0), .t (.str []), .nil 1, .nil 5]]])
        = some (.loop (.exit 0) [.ptr 0 0 0, .ptr 1 0 0] [.vs 5 [zV], .vs 5 [[.t (.int .i64 6), .t (.int .i64 0), .t (.str []), .sl 2 0 n none, .sl 3 0 n none]], .ts 1 (strs (ks.take n)), .ts 5 (Tr.encs (cs.take n))]) := by
      have e1 : Tr.encs [y] = [y.enc] := by simp [Tr.encs_eq]
      have e2 : strs [x] = [[.str x]] := rfl
      rw [e1, e2] at L
      obtain ⟨k1, n1, s1, ks1, cs1⟩ := y
      simp only [CpR, Tr.enc, List.map_cons, List.map_nil, zV, List.length_cons, List.length_nil, Nat.zero_add, Int.natCast_one] at hcy hget L ⊢
      refine loop_eq Try.func9 rfl rfl ?_
      simp (disch := ((try simp only [List.length_cons, List.length_append, List.length_nil, List.length_map]); omega)) only [↓GO, ↓DRW, GA, ren, renB, footX, refs, cellsV, cst, cstAt, nilC, idxAddr, E.load, E.store, binO, isC, bin, ibin, sbin, una, isShift, okCell, packV, lenV, blt, fnV, asArg, snapV, snapS, snapP, snapC, snapX, flatV, flatT, openK, layBack, allT, allZ, mkS, srcOf0, unN, idxV, nilEq, give, tupV, mkEnv, extV, pickV, LVS, OVS, LTS, TYS, PMS, pmT, OWS, ownT, GHS, ghT, Int.reduceToNat, Nat.reduceGT, ↓reduceIte, Nat.reduceAdd, Nat.reduceMul, Nat.reduceSub, Nat.reduceEqDiff, Nat.reduceLeDiff, Nat.reduceLT, Nat.reduceBEq, Int.reduceBEq, Int.reduceBNe, Int.reduceEq, Int.reduceLT, Int.reduceLE, Int.reduceGT, Int.reduceNeg, reduceCtorEq, Int.cast_ofNat_Int, getE_zero, getE_one, getE_two, Option.isSome_none, c, c2, Tr.encs_len, strs_len, hget, hgk, hcy, wrap_in, Int.reduceAdd, L, rch3, le_T, List.length_nil, Int.natCast_zero]
      refine dyn_pos (by kernel_rfl) ?_
      refine dyn_pos (by kernel_rfl) ?_
      rfl
    have l1 : (ks.take n).length = n := by rw [List.length_take]; omega
    have l2 : (cs.take n).length = n := by rw [List.length_take]; omega
    have t1 : (strs (ks.take n)).take n = strs (ks.take n) := List.take_of_length_le (by rw [strs_len]; omega)
    have t2 : (Tr.encs (cs.take n)).take n = Tr.encs (cs.take n) := List.take_of_length_le (by rw [Tr.encs_len]; omega)
    clear L e1 e2 hget hgk hcy h0 hn
    generalize ks.take n = ks' at *
    generalize cs.take n = cs' at *
    simp only [Tr.enc, List.map_cons, List.map_nil, zV] at L0 ⊢
    apply eq_call
    refine call_eq rfl Try.func9 rfl (by kernel_rfl) ?_
    unfold Try.f9
    simp (disch := ((try simp only [List.length_cons, List.length_append, List.length_nil, List.length_map]); omega)) only [↓GO, ↓DRW, GA, ren, renB, footX, refs, cellsV, cst, cstAt, nilC, idxAddr, E.load, E.store, binO, isC, bin, ibin, sbin, una, isShift, okCell, packV, lenV, blt, fnV, asArg, snapV, snapS, snapP, snapC, snapX, flatV, flatT, openK, layBack, allT, allZ, mkS, srcOf0, unN, idxV, nilEq, give, tupV, mkEnv, extV, pickV, LVS, OVS, LTS, TYS, PMS, pmT, OWS, ownT, GHS, ghT, Int.reduceToNat, Nat.reduceGT, ↓reduceIte, Nat.reduceAdd, Nat.reduceMul, Nat.reduceSub, Nat.reduceEqDiff, Nat.reduceLeDiff, Nat.reduceLT, Nat.reduceBEq, Int.reduceBEq, Int.reduceBNe, Int.reduceEq, Int.reduceLT, Int.reduceLE, Int.reduceGT, Int.reduceNeg, reduceCtorEq, Int.cast_ofNat_Int, getE_zero, getE_one, getE_two, Option.isSome_none, L0, t1, t2, rch3]
end Go.Proofs.Ytcphjdfmjhijkaa
/- The law of Maps. Conditions: those of each lemma. -/
namespace Go.Proofs.Ytcphjdfmjhijkaa
open E
set_option linter.unusedSimpArgs false
set_option linter.unusedVariables false
set_option maxRecDepth 100000
set_option maxHeartbeats 8000000 in
theorem c_lawMaps_in (ks : List Str) (cs : List Tr) (hkl : ∀ s ∈ ks, s.length ≤ 9223372036854775807) (ho : Tr.oks cs) (hb : ks.length + bulkS ks + cs.length + Tr.bulks cs ≤ 1048576) :
    EV Try.prog pol (.call 3 [.t (.list 1 (strs ks)), .t (.list 5 (Tr.encs cs))] []) = some (.call (.t (.bool true)) []) := by
  have hcb : ∀ c ∈ cs, c.bulk ≤ 1048576 := fun c hc => by have := Tr.bulks_mem hc; omega
  have hsz1 := c_szStringS ks (by omega) hkl 1048576 (by omega) (by omega)
  rw [left_eq (by omega)] at hsz1
  have hsz2 := c_szTreeS cs (by omega) (fun c hc => c_szTree _ c (Nat.le_refl _) (Tr.oks_mem ho hc)) (1048576 - ((ks.length + bulkS ks : Nat) : Int)) (by omega) (by omega)
  rw [left_eq (by omega)] at hsz2
  have g1 : decide (1048576 - ((ks.length + bulkS ks : Nat) : Int) < 0) = false := by apply decide_eq_false; omega
  have g2 : decide (1048576 - ((ks.length + bulkS ks : Nat) : Int) - ((cs.length + Tr.bulks cs : Nat) : Int) < 0) = false := by apply decide_eq_false; omega
  have hT : ∀ c ∈ cs, ToO c := fun c hc => c_toO _ c (Nat.le_refl _) (hcb c hc)
  have hs1 := c_toStrF ks (by omega)
  have hs2 := c_toTreeSF cs (by omega) hT
  have ho1 := c_toStrO ks (by omega)
  have ho2 := c_toTreeSO cs (by omega) hT
  obtain ⟨n, hn⟩ : ∃ n, n = min ks.length cs.length := ⟨_, rfl⟩
  have hR := c_mapsR ks cs (by omega) (by omega) (fun c hc => c_cpR _ c (Nat.le_refl _) (hcb c hc)) n hn
  have b1 := bulkS_take ks n
  have b2 := bulks_take cs n
  have l1 : (ks.take n).length = n := by rw [List.length_take]; omega
  have l2 : (cs.take n).length = n := by rw [List.length_take]; omega
  have bb : (Tr.mk 6 0 [] (ks.take n) (cs.take n)).bulk ≤ 1048576 := by simp only [Tr.bulk, List.length_nil, l1, l2]; omega
  obtain ⟨cap, hI⟩ := c_mapsI ks cs (by omega) (by omega) n hn (c_cpO _ _ (Nat.le_refl _) bb)
  have heqT := c_eqTree _ (Tr.mk 6 0 [] (ks.take n) (cs.take n)) (Nat.le_refl _) bb
  have heqS := c_eqStringS ks (by omega)
  have heqC := c_eqTreeS cs (by omega) (fun c hc => c_eqTree _ c (Nat.le_refl _) (hcb c hc))
  have hcn := cnts_small cs (by omega)
  have hcn1 := cnts_small (cs.take n) (by omega)
  have hM1 := c_markS ks (by omega) (some ks.length) 1 (by omega) ks.length rfl
  have hM2 := c_markTs (Tr.nds cs) cs (Nat.le_refl _) (by omega) cs.length (some cs.length) (1 + ks.length) rfl (by omega)
  have hM3 := c_markT (.t (.int .i64 6)) (.t (.int .i64 0)) (.t (.str [])) (ks.take n) (cs.take n) (by omega) (by omega) n n l1.symm l2.symm none cap 1 (by omega) 6 0 [] rfl rfl rfl
  have hH := c_heldT 6 0 [] (ks.take n) (cs.take n) (by omega) (by omega) 1 (by omega)
  rw [show ((1 : Nat) : Int) = 1 from rfl] at hM1 hM3 hH
  have g3 : decide (((1 + ks.length + cntTs cs : Nat) : Int) < 0) = false := by apply decide_eq_false; omega
  have g4 : decide (((1 + (ks.take n).length + cntTs (cs.take n) : Nat) : Int) < 0) = false := by apply decide_eq_false; omega
  have t1 := take_strs ks ks.length rfl
  have t2 := take_oc cs cs.length rfl
  have t3 := take_strs (ks.take n) n l1.symm
  have t4 := take_oc (cs.take n) n l2.symm
  have t5 := take_strs (mkS (ks.take n).length 1) n (by rw [mkS_len, l1])
  have t6 := take_oc (mkTrs (1 + (ks.take n).length) (cs.take n)) n (by rw [mkTrs_len, l2])
  have f1 := flatE_strs (ks.take n)
  have f2 := rowB_tr (cs.take n)
  unfold EqT at heqT
  clear hn
  generalize bulkS ks = bk at *
  generalize Tr.bulks cs = bt at *
  simp only [Tr.enc, List.map_cons, List.map_nil] at heqT hR hI hM3 hH ⊢
  generalize cntTs cs = n0 at *
  generalize cntTs (cs.take n) = n2 at *
  generalize mkTrs (1 + ks.length) cs = mc at *
  generalize mkS ks.length 1 = ms at *
  generalize mkTrs (1 + (ks.take n).length) (cs.take n) = mc1 at *
  generalize mkS (ks.take n).length 1 = ms1 at *
  generalize ks.take n = ks1 at *
  generalize cs.take n = cs1 at *
  refine call_eq rfl Try.func3 rfl (by kernel_rfl) ?_
  unfold Try.f3
  simp (disch := ((try simp only [List.length_cons, List.length_append, List.length_nil, List.length_map]); omega)) only [↓GO, ↓DRW, GA, ren, renB, footX, refs, cellsV, cst, cstAt, nilC, idxAddr, E.load, E.store, binO, isC, bin, ibin, sbin, una, isShift, okCell, packV, lenV, blt, fnV, asArg, snapV, snapS, snapP, snapC, snapX, flatV, flatT, openK, layBack, allT, allZ, mkS, srcOf0, unN, idxV, nilEq, give, tupV, mkEnv, extV, pickV, LVS, OVS, LTS, TYS, PMS, pmT, OWS, ownT, GHS, ghT, Int.reduceToNat, Nat.reduceGT, ↓reduceIte, Nat.reduceAdd, Nat.reduceMul, Nat.reduceSub, Nat.reduceEqDiff, Nat.reduceLeDiff, Nat.reduceLT, Nat.reduceBEq, Int.reduceBEq, Int.reduceBNe, Int.reduceEq, Int.reduceLT, Int.reduceLE, Int.reduceGT, Int.reduceNeg, reduceCtorEq, selK_some, selK_none, bltO, brwK, brwA, brwB, sliceO, mkO, appO, ghOne, ghAt, ghCells, fld1, unf1, setC, oc, oTs, oT, rowT, rowT.rowTs, rowB, isL, Bool.not_false, Bool.true_and, Bool.and_true, Bool.and_self, List.flatMap_append, List.map_append, List.set_cons_zero, List.set_cons_succ, Int.cast_ofNat_Int, getE_zero, getE_one, getE_two, Option.isSome_none, hsz1, hsz2, g1, g2, hs1, hs2, ho1, ho2, hR, hI, heqT, heqS, heqC, hM1, hM2, hM3, hH, g3, g4, t1, t2, t3, t4, t5, t6, f1, f2, List.drop_zero, snapE_oc, ocE_ren, ocE_refs, bne_self_eq_false, rch3]
theorem c_lawMaps (ks : List Str) (cs : List Tr) (h1 : ks.length ≤ 9223372036854775807) (hkl : ∀ s ∈ ks, s.length ≤ 9223372036854775807) (h2 : cs.length ≤ 9223372036854775807) (ho : Tr.oks cs) :
    EV Try.prog pol (.call 3 [.t (.list 1 (strs ks)), .t (.list 5 (Tr.encs cs))] []) = some (.call (.t (.bool true)) []) := by
  have hsz1 := c_szStringS ks h1 hkl 1048576 (by omega) (by omega)
  by_cases hb1 : ks.length + bulkS ks ≤ 1048576
  · by_cases hb : ks.length + bulkS ks + cs.length + Tr.bulks cs ≤ 1048576
    · exact c_lawMaps_in ks cs hkl ho hb
    · rw [left_eq (by omega)] at hsz1
      have hsz2 := c_szTreeS cs h2 (fun c hc => c_szTree _ c (Nat.le_refl _) (Tr.oks_mem ho hc)) (1048576 - ((ks.length + bulkS ks : Nat) : Int)) (by omega) (by omega)
      have hle : left (1048576 - ((ks.length + bulkS ks : Nat) : Int)) (cs.length + Tr.bulks cs) = -1 := if_pos (by omega)
      rw [hle] at hsz2
      have g1 : decide (1048576 - ((ks.length + bulkS ks : Nat) : Int) < 0) = false := by apply decide_eq_false; omega
      clear hb hb1 hle ho hkl
      generalize bulkS ks = bk at *
      refine call_eq rfl Try.func3 rfl (by kernel_rfl) ?_
      unfold Try.f3
      simp (disch := ((try simp only [List.length_cons, List.length_append, List.length_nil, List.length_map]); omega)) only [↓GO, ↓DRW, GA, ren, renB, footX, refs, cellsV, cst, cstAt, nilC, idxAddr, E.load, E.store, binO, isC, bin, ibin, sbin, una, isShift, okCell, packV, lenV, blt, fnV, asArg, snapV, snapS, snapP, snapC, snapX, flatV, flatT, openK, layBack, allT, allZ, mkS, srcOf0, unN, idxV, nilEq, give, tupV, mkEnv, extV, pickV, LVS, OVS, LTS, TYS, PMS, pmT, OWS, ownT, GHS, ghT, Int.reduceToNat, Nat.reduceGT, ↓reduceIte, Nat.reduceAdd, Nat.reduceMul, Nat.reduceSub, Nat.reduceEqDiff, Nat.reduceLeDiff, Nat.reduceLT, Nat.reduceBEq, Int.reduceBEq, Int.reduceBNe, Int.reduceEq, Int.reduceLT, Int.reduceLE, Int.reduceGT, Int.reduceNeg, reduceCtorEq, selK_some, selK_none, bltO, brwK, brwA, brwB, sliceO, mkO, appO, ghOne, ghAt, ghCells, fld1, unf1, setC, oc, oTs, oT, rowT, rowT.rowTs, rowB, isL, Bool.not_false, Bool.true_and, Bool.and_true, Bool.and_self, List.flatMap_append, List.map_append, List.set_cons_zero, List.set_cons_succ, Int.cast_ofNat_Int, getE_zero, getE_one, getE_two, Option.isSome_none, hsz1, hsz2, g1]
  · have hle : left 1048576 (ks.length + bulkS ks) = -1 := if_pos (by omega)
    rw [hle] at hsz1
    refine call_eq rfl Try.func3 rfl (by kernel_rfl) ?_
    unfold Try.f3
    simp (disch := ((try simp only [List.length_cons, List.length_append, List.length_nil, List.length_map]); omega)) only [↓GO, ↓DRW, GA, ren, renB, footX, refs, cellsV, cst, cstAt, nilC, idxAddr, E.load, E.store, binO, isC, bin, ibin, sbin, una, isShift, okCell, packV, lenV, blt, fnV, asArg, snapV, snapS, snapP, snapC, snapX, flatV, flatT, openK, layBack, allT, allZ, mkS, srcOf0, unN, idxV, nilEq, give, tupV, mkEnv, extV, pickV, LVS, OVS, LTS, TYS, PMS, pmT, OWS, ownT, GHS, ghT, Int.reduceToNat, Nat.reduceGT, ↓reduceIte, Nat.reduceAdd, Nat.reduceMul, Nat.reduceSub, Nat.reduceEqDiff, Nat.reduceLeDiff, Nat.reduceLT, Nat.reduceBEq, Int.reduceBEq, Int.reduceBNe, Int.reduceEq, Int.reduceLT, Int.reduceLE, Int.reduceGT, Int.reduceNeg, reduceCtorEq, selK_some, selK_none, bltO, brwK, brwA, brwB, sliceO, mkO, appO, ghOne, ghAt, ghCells, fld1, unf1, setC, oc, oTs, oT, rowT, rowT.rowTs, rowB, isL, Bool.not_false, Bool.true_and, Bool.and_true, Bool.and_self, List.flatMap_append, List.map_append, List.set_cons_zero, List.set_cons_succ, Int.cast_ofNat_Int, getE_zero, getE_one, getE_two, Option.isSome_none, hsz1]
end Go.Proofs.Ytcphjdfmjhijkaa
/- The seat's own facts: the conditions on the program. Conditions: none. -/
namespace Go.Proofs.Ytcphjdfmjhijkaa
open E
theorem Try.own : ownKnob Try.prog.godebug = none := by kernel_rfl
theorem Try.laidOut : laidOutB Try.prog = true := by kernel_rfl
theorem Try.kids : Kids Try.prog (· < Try.prog.types.size) := kids_rows (by kernel_rfl) (by kernel_rfl)
theorem Try.full : ∀ t e, t < Try.prog.types.size → Try.prog.underlying t = some (.slice e) → 0 < Try.prog.cellsOf e := slices_full_of Try.prog (by kernel_rfl)
end Go.Proofs.Ytcphjdfmjhijkaa
/- What the laws' arguments are: trees. Conditions: those of each lemma. -/
namespace Go.Proofs.Ytcphjdfmjhijkaa
open E
set_option linter.unusedSimpArgs false
set_option linter.unusedVariables false
set_option maxRecDepth 100000
theorem WT_strsT {es : List (List T)} (h : ∀ c ∈ es, WT Try.prog 9 c) : ∃ ks, es = strs ks ∧ ∀ x ∈ ks, x.length ≤ 9223372036854775807 := by
  induction es with
  | nil => exact ⟨[], rfl, by simp⟩
  | cons c es ih =>
    obtain ⟨ks, e1, e2⟩ := ih fun c' hc => h c' (by simp [hc])
    obtain ⟨l, e3, e4⟩ := (h c (by simp)).inv_str Try.underlying9
    exact ⟨l :: ks, by simp [strs, e1, e3], by simpa using ⟨e4, e2⟩⟩
theorem WT_trs {es : List (List T)} (h : ∀ c ∈ es, ∃ t : Tr, c = t.enc ∧ t.ok) : ∃ ts, es = Tr.encs ts ∧ Tr.oks ts := by
  induction es with
  | nil => exact ⟨[], rfl, trivial⟩
  | cons c es ih =>
    obtain ⟨ts, e1, e2⟩ := ih fun c' hc => h c' (by simp [hc])
    obtain ⟨t, e3, e4⟩ := h c (by simp)
    exact ⟨t :: ts, by simp [Tr.encs, e1, e3], ⟨e4, e2⟩⟩
theorem WT_tree {t : TypeId} {cs : List T} (h : WT Try.prog t cs) : (t = 39 → ∃ tr : Tr, cs = tr.enc ∧ tr.ok) ∧ (t = 23 → ∃ ts, cs = [.list 5 (Tr.encs ts)] ∧ ts.length ≤ 9223372036854775807 ∧ Tr.oks ts) := by
  have k1 : Try.prog.cellsOf 3 = 1 := by kernel_rfl
  have k2 : Try.prog.cellsOf 9 = 1 := by kernel_rfl
  have k3 : Try.prog.cellsOf 22 = 1 := by kernel_rfl
  have k4 : Try.prog.cellsOf 23 = 1 := by kernel_rfl
  have k5 : Try.prog.cellsOf 39 = 5 := by kernel_rfl
  induction h with
  | int t k n h hw =>
    constructor
    · rintro rfl; rw [Try.underlying39] at h; cases h
    · rintro rfl; rw [Try.underlying23] at h; cases h
  | bool t b h =>
    constructor
    · rintro rfl; rw [Try.underlying39] at h; cases h
    · rintro rfl; rw [Try.underlying23] at h; cases h
  | str t l h hl =>
    constructor
    · rintro rfl; rw [Try.underlying39] at h; cases h
    · rintro rfl; rw [Try.underlying23] at h; cases h
  | list t e es h hl hs ih =>
    constructor
    · rintro rfl; rw [Try.underlying39] at h; cases h
    · rintro rfl
      rw [Try.underlying23] at h
      cases h
      obtain ⟨ts, e1, e2⟩ := WT_trs fun c hc => (ih c hc).1 rfl
      subst e1
      refine ⟨ts, by rw [k5], ?_, e2⟩
      rw [Tr.encs_len] at hl
      exact hl
  | struct t fs cs h hl hs ih =>
    constructor
    · rintro rfl
      rw [Try.underlying39] at h
      cases h
      rw [k5] at hl
      match cs, hl with
      | [x0, x1, x2, x3, x4], _ =>
        simp [k1, k2, k3, k4] at hs ih
        obtain ⟨s0, s1, s2, s3, s4⟩ := hs
        obtain ⟨a, e0, _⟩ := s0.inv_int Try.underlying3
        obtain ⟨b, e1, _⟩ := s1.inv_int Try.underlying3
        obtain ⟨c, e2, hc⟩ := s2.inv_str Try.underlying9
        obtain ⟨es, e3, hes, hel⟩ := s3.inv_list Try.underlying22
        obtain ⟨ks, e5, hks⟩ := WT_strsT hel
        obtain ⟨ts, e4, ht1, ht2⟩ := ih
        rw [k2] at e3
        simp at e0 e1 e2 e3 e4
        subst e0 e1 e2 e3 e4 e5
        refine ⟨.mk a b c ks ts, rfl, hc, ?_, hks, ht1, ht2⟩
        rw [strs_len] at hes; exact hes
    · rintro rfl; rw [Try.underlying23] at h; cases h
end Go.Proofs.Ytcphjdfmjhijkaa

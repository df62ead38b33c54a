/- Joined: B3 B4 B5 B6 B7 B8 S1 W5. Conditions: those of each lemma. -/
import Derived.Test.YtcphjdfmjhijkaaXJ
import Derived.Test.YtcphjdfmjhijkaaXI
import Derived.Test.YtcphjdfmjhijkaaRows
import Derived.ProofKit
import Derived.ReadAgain
set_option linter.unusedVariables false
set_option linter.unusedSimpArgs false
namespace Go.Proofs.Ytcphjdfmjhijkaa
open E
set_option linter.unusedSimpArgs false
set_option linter.unusedVariables false
set_option maxRecDepth 100000
def dvB (k : Nat) : Bool := (((k % 3 : Nat) : Int) == 0)
def cntP (x : LPack) : Nat := 4 + 2 * x.sums.length + x.needs.length
def cntPs : List LPack → Nat
  | [] => 0
  | x :: r => cntP x + cntPs r
def mkPk (k : Nat) (x : LPack) : LPack := ⟨mkT k, mkT (k + 1), mkT (k + 2), mkSm x.sums.length (k + 3), dvB (k + 3 + 2 * x.sums.length), mkS x.needs.length (k + 3 + 2 * x.sums.length + 1)⟩
def mkPks : Nat → List LPack → List LPack
  | _, [] => []
  | k, x :: r => mkPk k x :: mkPks (k + cntP x) r
theorem mkPks_len : ∀ (k : Nat) (cs : List LPack), (mkPks k cs).length = cs.length
  | k, [] => rfl
  | k, c :: cs => by simp [mkPks, mkPks_len _ cs]
theorem cntPs_app : ∀ a b : List LPack, cntPs (a ++ b) = cntPs a + cntPs b
  | [], b => by simp [cntPs]
  | c :: a, b => by simp only [List.cons_append, cntPs, cntPs_app a b]; omega
theorem mkPks_app : ∀ (k : Nat) (a b : List LPack), mkPks k (a ++ b) = mkPks k a ++ mkPks (k + cntPs a) b
  | k, [], b => by simp [mkPks, cntPs]
  | k, c :: a, b => by
    simp only [List.cons_append, mkPks, cntPs, mkPks_app _ a b]
    rw [show k + cntP c + cntPs a = k + (cntP c + cntPs a) by omega]
theorem cntP_le (x : LPack) : cntP x ≤ 4 + 2 * x.bulk := by simp only [cntP, LPack.bulk]; omega
theorem cntPs_le : ∀ cs : List LPack, cntPs cs ≤ 4 * cs.length + 2 * LPack.bulks cs
  | [] => by simp [cntPs]
  | c :: cs => by
    have h1 := cntP_le c
    have h2 := cntPs_le cs
    simp only [cntPs, LPack.bulks, List.length_cons]; omega
theorem l_markP (cs : List LPack) (hl : cs.length ≤ 4194304) (hb : ∀ c ∈ cs, c.bulk ≤ 4194304) (cap : Option Nat) (k : Nat) (hk : k + cntPs cs ≤ 1073741824) : ∀ (rest pre : List LPack), cs = pre ++ rest →
    EV Try.prog pol (.loop 45 26 1 [.sl 0 0 cs.length cap, .t (.int .i64 ((k + cntPs pre : Nat) : Int)), .t (.int .i64 (pre.length : Int))] [.vs 6 (ocE (LPack.encs (mkPks k pre)) ++ ocE (LPack.encs rest))])
      = some (.loop (.exit 0) [.t (.int .i64 ((k + cntPs cs : Nat) : Int))] [.vs 6 (ocE (LPack.encs (mkPks k cs)))])
  | [], pre, hs => by
    have c : decide ((pre.length : Int) < (cs.length : Int)) = false := by simp [hs]
    have e : cs = pre := by simpa using hs
    have hA := ocE_refs (LPack.encs (mkPks k pre))
    have hR := fun m => ocE_ren m (LPack.encs (mkPks k pre))
    simp only [show ocE (LPack.encs []) = [] from rfl, List.append_nil]
    refine loop_eq Try.func45 rfl rfl ?_
    simp (disch := ((try simp only [List.length_cons, List.length_append, List.length_nil, List.length_map]); omega)) only [↓GO, ↓DRW, GA, ren, renB, footX, refs, cellsV, cst, cstAt, nilC, idxAddr, E.load, E.store, binO, isC, bin, ibin, sbin, una, isShift, okCell, packV, lenV, blt, fnV, asArg, snapV, snapS, snapP, snapC, snapX, flatV, flatT, openK, layBack, allT, allZ, mkS, srcOf0, unN, idxV, nilEq, give, tupV, mkEnv, extV, pickV, LVS, OVS, LTS, TYS, PMS, pmT, OWS, ownT, GHS, ghT, DMS, dmT, Int.reduceToNat, Nat.reduceGT, ↓reduceIte, Nat.reduceAdd, Nat.reduceMul, Nat.reduceSub, Nat.reduceEqDiff, Nat.reduceLeDiff, Nat.reduceLT, Nat.reduceBEq, Int.reduceBEq, Int.reduceBNe, Int.reduceEq, Int.reduceLT, Int.reduceLE, Int.reduceGT, Int.reduceNeg, reduceCtorEq, selK_some, selK_none, bltO, brwK, brwA, brwB, sliceO, mkO, appO, appS, ghOne, ghAt, ghCells, fld1, unf1, setC, oc, oTs, oT, rowT, rowT.rowTs, rowB, isL, Bool.not_false, Bool.true_and, Bool.and_true, Bool.and_self, List.flatMap_append, List.map_append, List.set_cons_zero, List.set_cons_succ, Int.cast_ofNat_Int, getE_zero, getE_one, getE_two, Option.isSome_none, c, hA, hR]
    rw [e]
  | x :: rest, pre, hs => by
    have c : decide ((pre.length : Int) < (cs.length : Int)) = true := by simp [hs]; omega
    have c0 : decide ((0 : Int) ≤ (pre.length : Int)) = true := by simp
    have c00 : (0 : Int) ≤ (pre.length : Int) := by omega
    have hlen : pre.length + rest.length + 1 ≤ cs.length := by rw [hs]; simp; omega
    have hcn : cntPs cs = cntPs pre + cntPs (x :: rest) := by rw [hs, cntPs_app]
    have hbx := hb x (by rw [hs]; simp)
    have IH := l_markP cs hl hb cap k hk rest (pre ++ [x]) (by rw [hs]; simp)
    have e1 : mkPks k (pre ++ [x]) = mkPks k pre ++ [mkPk (k + cntPs pre) x] := by rw [mkPks_app]; simp [mkPks]
    have e2 : cntPs (pre ++ [x]) = cntPs pre + cntP x := by rw [cntPs_app]; simp [cntPs]
    rw [e1, e2, pencs_app, ocE_app, show (pre ++ [x]).length = pre.length + 1 by simp] at IH
    simp only [cntPs] at hcn
    have hAl : (ocE (LPack.encs (mkPks k pre))).length = pre.length := by rw [ocE_len, LPack.encs_len, mkPks_len]
    have hA := ocE_refs (LPack.encs (mkPks k pre))
    have hR := fun m => ocE_ren m (LPack.encs (mkPks k pre))
    have hB := ocE_refs (LPack.encs rest)
    have hRB := fun m => ocE_ren m (LPack.encs rest)
    rw [show ocE (LPack.encs (x :: rest)) = x.enc.map oc :: ocE (LPack.encs rest) from rfl]
    rw [show ocE (LPack.encs [mkPk (k + cntPs pre) x]) = [(mkPk (k + cntPs pre) x).enc.map oc] from rfl] at IH
    have hg1 := fun y => mid_get (ocE (LPack.encs (mkPks k pre))) (ocE (LPack.encs rest)) y pre.length hAl
    have hs1 := fun y z => mid_set (ocE (LPack.encs (mkPks k pre))) (ocE (LPack.encs rest)) y z pre.length hAl
    clear hs e1 e2
    have hkb : k + cntPs pre + cntP x ≤ 1073741824 := by omega
    rw [show k + (cntPs pre + cntP x) = k + cntPs pre + cntP x by omega] at IH
    generalize k + cntPs pre = kp at *
    obtain ⟨name, version, source, sums, dev, needs⟩ := x
    simp only [LPack.bulk] at hbx
    simp only [cntP] at hkb IH
    rw [show kp + (4 + 2 * sums.length + needs.length) = kp + 3 + 2 * sums.length + 1 + needs.length by omega] at IH
    have hmt0 := c_mkT kp (by omega)
    have hmt1 := c_mkT (kp + 1) (by omega)
    have hmt2 := c_mkT (kp + 2) (by omega)
    have hmm := c_markSm sums (by omega) none (kp + 3) (by omega) sums.length rfl
    have hms := c_markS needs (by omega) none (kp + 3 + 2 * sums.length + 1) (by omega) needs.length rfl
    have w0 : IntKind.i64.wrap ((kp : Int) + 1) = ((kp + 1 : Nat) : Int) := by rw [wrap_in (by omega)]; omega
    have w1 : IntKind.i64.wrap (((kp + 1 : Nat) : Int) + 1) = ((kp + 2 : Nat) : Int) := by rw [wrap_in (by omega)]; omega
    have w2 : IntKind.i64.wrap (((kp + 2 : Nat) : Int) + 1) = ((kp + 3 : Nat) : Int) := by rw [wrap_in (by omega)]; omega
    have w3 : IntKind.i64.wrap ((pre.length : Int) + 1) = ((pre.length + 1 : Nat) : Int) := by rw [wrap_in (by omega)]; omega
    have w4 : IntKind.i64.wrap (((kp + 3 + 2 * sums.length : Nat) : Int) + 1) = ((kp + 3 + 2 * sums.length + 1 : Nat) : Int) := by rw [wrap_in (by omega)]; omega
    have e1 : (((kp + 3 + 2 * sums.length : Nat) : Int)).tmod 3 = (((kp + 3 + 2 * sums.length) % 3 : Nat) : Int) := (Int.ofNat_tmod _ 3).symm
    have hr3 : (kp + 3 + 2 * sums.length) % 3 < 3 := Nat.mod_lt _ (by omega)
    have hdv : ((((kp + 3 + 2 * sums.length) % 3 : Nat) : Int) == 0) = dvB (kp + 3 + 2 * sums.length) := rfl
    have hf1 := flatE_sums sums
    have hf2 := flatE_sums (mkSm sums.length (kp + 3))
    have hf3 := flatE_strs needs
    have hf4 := flatE_strs (mkS needs.length (kp + 3 + 2 * sums.length + 1))
    have hl1 := mkSm_len sums.length (kp + 3)
    have hl2 := mkS_len needs.length (kp + 3 + 2 * sums.length + 1)
    simp only [mkPk, LPack.enc, List.map_cons, List.map_nil, oc, List.append_assoc, List.cons_append, List.nil_append] at IH ⊢
    generalize mkSm sums.length (kp + 3) = mm at *
    generalize mkS needs.length (kp + 3 + 2 * sums.length + 1) = ms at *
    generalize mkT (kp + 2) = mt2 at *
    generalize mkT (kp + 1) = mt1 at *
    generalize mkT kp = mt0 at *
    generalize ocE (LPack.encs (mkPks k pre)) = A at *
    generalize ocE (LPack.encs rest) = B at *
    refine loop_eq Try.func45 rfl rfl ?_
    simp (disch := ((try simp only [List.length_cons, List.length_append, List.length_nil, List.length_map]); omega)) only [↓GO, ↓DRW, GA, ren, renB, footX, refs, cellsV, cst, cstAt, nilC, idxAddr, E.load, E.store, binO, isC, bin, ibin, sbin, una, isShift, okCell, packV, lenV, blt, fnV, asArg, snapV, snapS, snapP, snapC, snapX, flatV, flatT, openK, layBack, allT, allZ, mkS, srcOf0, unN, idxV, nilEq, give, tupV, mkEnv, extV, pickV, LVS, OVS, LTS, TYS, PMS, pmT, OWS, ownT, GHS, ghT, DMS, dmT, Int.reduceToNat, Nat.reduceGT, ↓reduceIte, Nat.reduceAdd, Nat.reduceMul, Nat.reduceSub, Nat.reduceEqDiff, Nat.reduceLeDiff, Nat.reduceLT, Nat.reduceBEq, Int.reduceBEq, Int.reduceBNe, Int.reduceEq, Int.reduceLT, Int.reduceLE, Int.reduceGT, Int.reduceNeg, reduceCtorEq, selK_some, selK_none, bltO, brwK, brwA, brwB, sliceO, mkO, appO, appS, ghOne, ghAt, ghCells, fld1, unf1, setC, oc, oTs, oT, rowT, rowT.rowTs, rowB, isL, Bool.not_false, Bool.true_and, Bool.and_true, Bool.and_self, List.flatMap_append, List.map_append, List.set_cons_zero, List.set_cons_succ, Int.cast_ofNat_Int, getE_zero, getE_one, getE_two, Option.isSome_none, c, c0, c00, if_true, Int.toNat_natCast, hmt0, hmt1, hmt2, hmm, hms, hg1, hs1, hA, hR, hB, hRB, w0, w1, w2, w3, w4, e1, hdv, hf1, hf2, hf3, hf4, hl1, hl2, strs_len, LSum.encs_len, LPack.encs_len, ocE_len, ocE_ren, ocE_refs, IH, rch3]
theorem c_markPs (cs : List LPack) (hb : cs.length + LPack.bulks cs ≤ 4194304) (cap : Option Nat) (k : Nat) (hk : k + cntPs cs ≤ 1073741824) (n : Nat) (hn : n = cs.length) :
    EV Try.prog pol (.callO false 45 [.sl 0 0 n cap, .t (.int .i64 (k : Int))] [.vs 6 (ocE (LPack.encs cs))]) = some (.call (.t (.int .i64 ((k + cntPs cs : Nat) : Int))) [.vs 6 (ocE (LPack.encs (mkPks k cs)))]) := by
  subst hn
  have L := l_markP cs (by omega) (fun c hc => by have := LPack.bulks_mem hc; omega) cap k hk cs [] rfl
  simp only [List.length_nil, Int.natCast_zero, mkPks, cntPs, show ocE (LPack.encs []) = [] from rfl, List.nil_append, Nat.add_zero] at L
  refine callO_eq Try.func45 rfl (by kernel_rfl) ?_
  unfold Try.f45
  simp (disch := ((try simp only [List.length_cons, List.length_append, List.length_nil, List.length_map]); omega)) only [↓GO, ↓DRW, GA, ren, renB, footX, refs, cellsV, cst, cstAt, nilC, idxAddr, E.load, E.store, binO, isC, bin, ibin, sbin, una, isShift, okCell, packV, lenV, blt, fnV, asArg, snapV, snapS, snapP, snapC, snapX, flatV, flatT, openK, layBack, allT, allZ, mkS, srcOf0, unN, idxV, nilEq, give, tupV, mkEnv, extV, pickV, LVS, OVS, LTS, TYS, PMS, pmT, OWS, ownT, GHS, ghT, DMS, dmT, Int.reduceToNat, Nat.reduceGT, ↓reduceIte, Nat.reduceAdd, Nat.reduceMul, Nat.reduceSub, Nat.reduceEqDiff, Nat.reduceLeDiff, Nat.reduceLT, Nat.reduceBEq, Int.reduceBEq, Int.reduceBNe, Int.reduceEq, Int.reduceLT, Int.reduceLE, Int.reduceGT, Int.reduceNeg, reduceCtorEq, selK_some, selK_none, bltO, brwK, brwA, brwB, sliceO, mkO, appO, appS, ghOne, ghAt, ghCells, fld1, unf1, setC, oc, oTs, oT, rowT, rowT.rowTs, rowB, isL, Bool.not_false, Bool.true_and, Bool.and_true, Bool.and_self, List.flatMap_append, List.map_append, List.set_cons_zero, List.set_cons_succ, Int.cast_ofNat_Int, getE_zero, getE_one, getE_two, Option.isSome_none, L, ocE_ren, ocE_refs, rch3]
theorem c_markPn (k : Int) : EV Try.prog pol (.callO false 45 [.nil 6, .t (.int .i64 k)] []) = some (.call (.t (.int .i64 k)) []) := by
  have L : EV Try.prog pol (.loop 45 26 0 [.nil 6, .t (.int .i64 k), .t (.int .i64 0)] []) = some (.loop (.exit 0) [.t (.int .i64 k)] []) := by
    refine loop_eq Try.func45 rfl rfl ?_
    simp (disch := ((try simp only [List.length_cons, List.length_append, List.length_nil, List.length_map]); omega)) only [↓GO, ↓DRW, GA, ren, renB, footX, refs, cellsV, cst, cstAt, nilC, idxAddr, E.load, E.store, binO, isC, bin, ibin, sbin, una, isShift, okCell, packV, lenV, blt, fnV, asArg, snapV, snapS, snapP, snapC, snapX, flatV, flatT, openK, layBack, allT, allZ, mkS, srcOf0, unN, idxV, nilEq, give, tupV, mkEnv, extV, pickV, LVS, OVS, LTS, TYS, PMS, pmT, OWS, ownT, GHS, ghT, DMS, dmT, Int.reduceToNat, Nat.reduceGT, ↓reduceIte, Nat.reduceAdd, Nat.reduceMul, Nat.reduceSub, Nat.reduceEqDiff, Nat.reduceLeDiff, Nat.reduceLT, Nat.reduceBEq, Int.reduceBEq, Int.reduceBNe, Int.reduceEq, Int.reduceLT, Int.reduceLE, Int.reduceGT, Int.reduceNeg, reduceCtorEq, selK_some, selK_none, bltO, brwK, brwA, brwB, sliceO, mkO, appO, appS, ghOne, ghAt, ghCells, fld1, unf1, setC, oc, oTs, oT, rowT, rowT.rowTs, rowB, isL, Bool.not_false, Bool.true_and, Bool.and_true, Bool.and_self, List.flatMap_append, List.map_append, List.set_cons_zero, List.set_cons_succ, Int.cast_ofNat_Int, getE_zero, getE_one, getE_two, Option.isSome_none, Int.natCast_zero]
  refine callO_eq Try.func45 rfl (by kernel_rfl) ?_
  unfold Try.f45
  simp (disch := ((try simp only [List.length_cons, List.length_append, List.length_nil, List.length_map]); omega)) only [↓GO, ↓DRW, GA, ren, renB, footX, refs, cellsV, cst, cstAt, nilC, idxAddr, E.load, E.store, binO, isC, bin, ibin, sbin, una, isShift, okCell, packV, lenV, blt, fnV, asArg, snapV, snapS, snapP, snapC, snapX, flatV, flatT, openK, layBack, allT, allZ, mkS, srcOf0, unN, idxV, nilEq, give, tupV, mkEnv, extV, pickV, LVS, OVS, LTS, TYS, PMS, pmT, OWS, ownT, GHS, ghT, DMS, dmT, Int.reduceToNat, Nat.reduceGT, ↓reduceIte, Nat.reduceAdd, Nat.reduceMul, Nat.reduceSub, Nat.reduceEqDiff, Nat.reduceLeDiff, Nat.reduceLT, Nat.reduceBEq, Int.reduceBEq, Int.reduceBNe, Int.reduceEq, Int.reduceLT, Int.reduceLE, Int.reduceGT, Int.reduceNeg, reduceCtorEq, selK_some, selK_none, bltO, brwK, brwA, brwB, sliceO, mkO, appO, appS, ghOne, ghAt, ghCells, fld1, unf1, setC, oc, oTs, oT, rowT, rowT.rowTs, rowB, isL, Bool.not_false, Bool.true_and, Bool.and_true, Bool.and_self, List.flatMap_append, List.map_append, List.set_cons_zero, List.set_cons_succ, Int.cast_ofNat_Int, getE_zero, getE_one, getE_two, Option.isSome_none, L]
theorem c_markG (top : List Str) (cs : List LPack) (ht : top.length ≤ 4194304) (hb : cs.length + LPack.bulks cs ≤ 4194304) (n1 n2 : Nat) (h1 : n1 = top.length) (h2 : n2 = cs.length) (p1 p2 : Option Nat) (k : Nat) (hk : k + top.length + cntPs cs ≤ 1073741824) :
    EV Try.prog pol (.callO false 31 [.agg [.sl 0 0 n1 p1, .sl 1 0 n2 p2], .t (.int .i64 (k : Int))] [.ts 1 (strs top), .vs 6 (ocE (LPack.encs cs))])
      = some (.call (.t (.int .i64 ((k + top.length + cntPs cs : Nat) : Int))) [.ts 1 (strs (mkS top.length k)), .vs 6 (ocE (LPack.encs (mkPks (k + top.length) cs)))]) := by
  subst h1 h2
  have d1 := c_markS top ht p1 k (by omega) top.length rfl
  have d2 := c_markPs cs hb p2 (k + top.length) (by omega) cs.length rfl
  refine callO_eq Try.func31 rfl (by kernel_rfl) ?_
  unfold Try.f31
  simp (disch := ((try simp only [List.length_cons, List.length_append, List.length_nil, List.length_map]); omega)) only [↓GO, ↓DRW, GA, ren, renB, footX, refs, cellsV, cst, cstAt, nilC, idxAddr, E.load, E.store, binO, isC, bin, ibin, sbin, una, isShift, okCell, packV, lenV, blt, fnV, asArg, snapV, snapS, snapP, snapC, snapX, flatV, flatT, openK, layBack, allT, allZ, mkS, srcOf0, unN, idxV, nilEq, give, tupV, mkEnv, extV, pickV, LVS, OVS, LTS, TYS, PMS, pmT, OWS, ownT, GHS, ghT, DMS, dmT, Int.reduceToNat, Nat.reduceGT, ↓reduceIte, Nat.reduceAdd, Nat.reduceMul, Nat.reduceSub, Nat.reduceEqDiff, Nat.reduceLeDiff, Nat.reduceLT, Nat.reduceBEq, Int.reduceBEq, Int.reduceBNe, Int.reduceEq, Int.reduceLT, Int.reduceLE, Int.reduceGT, Int.reduceNeg, reduceCtorEq, selK_some, selK_none, bltO, brwK, brwA, brwB, sliceO, mkO, appO, appS, ghOne, ghAt, ghCells, fld1, unf1, setC, oc, oTs, oT, rowT, rowT.rowTs, rowB, isL, Bool.not_false, Bool.true_and, Bool.and_true, Bool.and_self, List.flatMap_append, List.map_append, List.set_cons_zero, List.set_cons_succ, Int.cast_ofNat_Int, getE_zero, getE_one, getE_two, Option.isSome_none, d1, d2, ocE_ren, ocE_refs, rch3]
theorem c_markGn (top : List Str) (ht : top.length ≤ 4194304) (n1 : Nat) (h1 : n1 = top.length) (p1 : Option Nat) (k : Nat) (hk : k + top.length ≤ 1073741824) :
    EV Try.prog pol (.callO false 31 [.agg [.sl 0 0 n1 p1, .nil 6], .t (.int .i64 (k : Int))] [.ts 1 (strs top)])
      = some (.call (.t (.int .i64 ((k + top.length : Nat) : Int))) [.ts 1 (strs (mkS top.length k))]) := by
  subst h1
  have d1 := c_markS top ht p1 k (by omega) top.length rfl
  have d2 := c_markPn ((k + top.length : Nat) : Int)
  refine callO_eq Try.func31 rfl (by kernel_rfl) ?_
  unfold Try.f31
  simp (disch := ((try simp only [List.length_cons, List.length_append, List.length_nil, List.length_map]); omega)) only [↓GO, ↓DRW, GA, ren, renB, footX, refs, cellsV, cst, cstAt, nilC, idxAddr, E.load, E.store, binO, isC, bin, ibin, sbin, una, isShift, okCell, packV, lenV, blt, fnV, asArg, snapV, snapS, snapP, snapC, snapX, flatV, flatT, openK, layBack, allT, allZ, mkS, srcOf0, unN, idxV, nilEq, give, tupV, mkEnv, extV, pickV, LVS, OVS, LTS, TYS, PMS, pmT, OWS, ownT, GHS, ghT, DMS, dmT, Int.reduceToNat, Nat.reduceGT, ↓reduceIte, Nat.reduceAdd, Nat.reduceMul, Nat.reduceSub, Nat.reduceEqDiff, Nat.reduceLeDiff, Nat.reduceLT, Nat.reduceBEq, Int.reduceBEq, Int.reduceBNe, Int.reduceEq, Int.reduceLT, Int.reduceLE, Int.reduceGT, Int.reduceNeg, reduceCtorEq, selK_some, selK_none, bltO, brwK, brwA, brwB, sliceO, mkO, appO, appS, ghOne, ghAt, ghCells, fld1, unf1, setC, oc, oTs, oT, rowT, rowT.rowTs, rowB, isL, Bool.not_false, Bool.true_and, Bool.and_true, Bool.and_self, List.flatMap_append, List.map_append, List.set_cons_zero, List.set_cons_succ, Int.cast_ofNat_Int, getE_zero, getE_one, getE_two, Option.isSome_none, d1, d2, rch3]
end Go.Proofs.Ytcphjdfmjhijkaa
/- Marks in packs and graphs found again. Conditions: those of each lemma. -/
namespace Go.Proofs.Ytcphjdfmjhijkaa
open E
set_option linter.unusedSimpArgs false
set_option linter.unusedVariables false
set_option maxRecDepth 100000
theorem l_heldP (cs : List LPack) (hl : cs.length ≤ 4194304) (hb : ∀ c ∈ cs, c.bulk ≤ 4194304) (k : Nat) (hk : k + cntPs cs ≤ 1073741824) : ∀ (rest pre : List LPack), cs = pre ++ rest →
    EV Try.prog pol (.loop 46 26 0 [.t (.list 6 (LPack.encs (mkPks k cs))), .t (.int .i64 ((k + cntPs pre : Nat) : Int)), .t (.int .i64 (pre.length : Int))] []) = some (.loop (.exit 0) [.t (.int .i64 ((k + cntPs cs : Nat) : Int)), .bad] [])
  | [], pre, hs => by
    have c : decide ((pre.length : Int) < (cs.length : Int)) = false := by simp [hs]
    have e : cs = pre := by simpa using hs
    have hl2 := mkPks_len k cs
    refine loop_eq Try.func46 rfl rfl ?_
    simp (disch := ((try simp only [List.length_cons, List.length_append, List.length_nil, List.length_map]); omega)) only [↓GO, ↓DRW, GA, ren, renB, footX, refs, cellsV, cst, cstAt, nilC, idxAddr, E.load, E.store, binO, isC, bin, ibin, sbin, una, isShift, okCell, packV, lenV, blt, fnV, asArg, snapV, snapS, snapP, snapC, snapX, flatV, flatT, openK, layBack, allT, allZ, mkS, srcOf0, unN, idxV, nilEq, give, tupV, mkEnv, extV, pickV, LVS, OVS, LTS, TYS, PMS, pmT, OWS, ownT, GHS, ghT, DMS, dmT, Int.reduceToNat, Nat.reduceGT, ↓reduceIte, Nat.reduceAdd, Nat.reduceMul, Nat.reduceSub, Nat.reduceEqDiff, Nat.reduceLeDiff, Nat.reduceLT, Nat.reduceBEq, Int.reduceBEq, Int.reduceBNe, Int.reduceEq, Int.reduceLT, Int.reduceLE, Int.reduceGT, Int.reduceNeg, reduceCtorEq, Int.cast_ofNat_Int, getE_zero, getE_one, getE_two, Option.isSome_none, c, LPack.encs_len, hl2]
    rw [e]
  | x :: rest, pre, hs => by
    have c : decide ((pre.length : Int) < (cs.length : Int)) = true := by simp [hs]; omega
    have hlen : pre.length + rest.length + 1 ≤ cs.length := by rw [hs]; simp; omega
    have hcn : cntPs cs = cntPs pre + cntPs (x :: rest) := by rw [hs, cntPs_app]
    have hbx := hb x (by rw [hs]; simp)
    have hget : (LPack.encs (mkPks k cs))[pre.length]? = some (mkPk (k + cntPs pre) x).enc := by
      rw [hs, mkPks_app, pencs_app, List.getElem?_append_right (by simp [LPack.encs_len, mkPks_len])]
      simp [LPack.encs_len, mkPks_len, mkPks, LPack.encs]
    have IH := l_heldP cs hl hb k hk rest (pre ++ [x]) (by rw [hs]; simp)
    have e2 : cntPs (pre ++ [x]) = cntPs pre + cntP x := by rw [cntPs_app]; simp [cntPs]
    rw [e2, show (pre ++ [x]).length = pre.length + 1 by simp, show k + (cntPs pre + cntP x) = k + cntPs pre + cntP x by omega] at IH
    simp only [cntPs] at hcn
    have hl2 := mkPks_len k cs
    have hkb : k + cntPs pre + cntP x ≤ 1073741824 := by omega
    clear hs e2
    generalize k + cntPs pre = kp at *
    obtain ⟨name, version, source, sums, dev, needs⟩ := x
    simp only [LPack.bulk] at hbx
    simp only [cntP] at hkb IH
    rw [show kp + (4 + 2 * sums.length + needs.length) = kp + 3 + 2 * sums.length + 1 + needs.length by omega] at IH
    have hmt0 := c_mkT kp (by omega)
    have hmt1 := c_mkT (kp + 1) (by omega)
    have hmt2 := c_mkT (kp + 2) (by omega)
    have hmm := c_heldSm sums.length (kp + 3) (by omega) (by omega)
    have hms := c_heldS needs.length (kp + 3 + 2 * sums.length + 1) (by omega) (by omega)
    have w0 : IntKind.i64.wrap ((kp : Int) + 1) = ((kp + 1 : Nat) : Int) := by rw [wrap_in (by omega)]; omega
    have w1 : IntKind.i64.wrap (((kp + 1 : Nat) : Int) + 1) = ((kp + 2 : Nat) : Int) := by rw [wrap_in (by omega)]; omega
    have w2 : IntKind.i64.wrap (((kp + 2 : Nat) : Int) + 1) = ((kp + 3 : Nat) : Int) := by rw [wrap_in (by omega)]; omega
    have w3 : IntKind.i64.wrap ((pre.length : Int) + 1) = ((pre.length + 1 : Nat) : Int) := by rw [wrap_in (by omega)]; omega
    have w4 : IntKind.i64.wrap (((kp + 3 + 2 * sums.length : Nat) : Int) + 1) = ((kp + 3 + 2 * sums.length + 1 : Nat) : Int) := by rw [wrap_in (by omega)]; omega
    have e1 : (((kp + 3 + 2 * sums.length : Nat) : Int)).tmod 3 = (((kp + 3 + 2 * sums.length) % 3 : Nat) : Int) := (Int.ofNat_tmod _ 3).symm
    have hr3 : (kp + 3 + 2 * sums.length) % 3 < 3 := Nat.mod_lt _ (by omega)
    have hdv : ((((kp + 3 + 2 * sums.length) % 3 : Nat) : Int) == 0) = dvB (kp + 3 + 2 * sums.length) := rfl
    have g1 : decide (((kp + 3 + 2 * sums.length : Nat) : Int) < 0) = false := by apply decide_eq_false; omega
    have g2 : decide (((kp + 3 + 2 * sums.length + 1 + needs.length : Nat) : Int) < 0) = false := by apply decide_eq_false; omega
    simp only [mkPk, LPack.enc, List.map_cons, List.map_nil] at hget
    generalize mkSm sums.length (kp + 3) = mm at *
    generalize mkS needs.length (kp + 3 + 2 * sums.length + 1) = ms at *
    generalize mkT (kp + 2) = mt2 at *
    generalize mkT (kp + 1) = mt1 at *
    generalize mkT kp = mt0 at *
    generalize mkPks k cs = mks at *
    refine loop_eq Try.func46 rfl rfl ?_
    simp (disch := ((try simp only [List.length_cons, List.length_append, List.length_nil, List.length_map]); omega)) only [↓GO, ↓DRW, GA, ren, renB, footX, refs, cellsV, cst, cstAt, nilC, idxAddr, E.load, E.store, binO, isC, bin, ibin, sbin, una, isShift, okCell, packV, lenV, blt, fnV, asArg, snapV, snapS, snapP, snapC, snapX, flatV, flatT, openK, layBack, allT, allZ, mkS, srcOf0, unN, idxV, nilEq, give, tupV, mkEnv, extV, pickV, LVS, OVS, LTS, TYS, PMS, pmT, OWS, ownT, GHS, ghT, DMS, dmT, Int.reduceToNat, Nat.reduceGT, ↓reduceIte, Nat.reduceAdd, Nat.reduceMul, Nat.reduceSub, Nat.reduceEqDiff, Nat.reduceLeDiff, Nat.reduceLT, Nat.reduceBEq, Int.reduceBEq, Int.reduceBNe, Int.reduceEq, Int.reduceLT, Int.reduceLE, Int.reduceGT, Int.reduceNeg, reduceCtorEq, Int.cast_ofNat_Int, getE_zero, getE_one, getE_two, Option.isSome_none, c, LPack.encs_len, hl2, hget, hmt0, hmt1, hmt2, hmm, hms, w0, w1, w2, w3, w4, e1, hdv, g1, g2, IH, bne_self_eq_false]
theorem c_heldPs (cs : List LPack) (hb : cs.length + LPack.bulks cs ≤ 4194304) (k : Nat) (hk : k + cntPs cs ≤ 1073741824) : callPure (EV Try.prog pol) 46 [.t (.list 6 (LPack.encs (mkPks k cs))), .t (.int .i64 (k : Int))] = some (.t (.int .i64 ((k + cntPs cs : Nat) : Int))) := by
  have L := l_heldP cs (by omega) (fun c hc => by have := LPack.bulks_mem hc; omega) k hk cs [] rfl
  simp only [List.length_nil, Int.natCast_zero, cntPs, Nat.add_zero] at L
  apply eq_call
  refine call_eq rfl Try.func46 rfl (by kernel_rfl) ?_
  unfold Try.f46
  simp (disch := ((try simp only [List.length_cons, List.length_append, List.length_nil, List.length_map]); omega)) only [↓GO, ↓DRW, GA, ren, renB, footX, refs, cellsV, cst, cstAt, nilC, idxAddr, E.load, E.store, binO, isC, bin, ibin, sbin, una, isShift, okCell, packV, lenV, blt, fnV, asArg, snapV, snapS, snapP, snapC, snapX, flatV, flatT, openK, layBack, allT, allZ, mkS, srcOf0, unN, idxV, nilEq, give, tupV, mkEnv, extV, pickV, LVS, OVS, LTS, TYS, PMS, pmT, OWS, ownT, GHS, ghT, DMS, dmT, Int.reduceToNat, Nat.reduceGT, ↓reduceIte, Nat.reduceAdd, Nat.reduceMul, Nat.reduceSub, Nat.reduceEqDiff, Nat.reduceLeDiff, Nat.reduceLT, Nat.reduceBEq, Int.reduceBEq, Int.reduceBNe, Int.reduceEq, Int.reduceLT, Int.reduceLE, Int.reduceGT, Int.reduceNeg, reduceCtorEq, Int.cast_ofNat_Int, getE_zero, getE_one, getE_two, Option.isSome_none, L]
theorem c_heldG (top : List Str) (cs : List LPack) (ht : top.length ≤ 4194304) (hb : cs.length + LPack.bulks cs ≤ 4194304) (k : Nat) (hk : k + top.length + cntPs cs ≤ 1073741824) :
    callPure (EV Try.prog pol) 32 [.agg [.t (.list 1 (strs (mkS top.length k))), .t (.list 6 (LPack.encs (mkPks (k + top.length) cs)))], .t (.int .i64 (k : Int))]
      = some (.t (.int .i64 ((k + top.length + cntPs cs : Nat) : Int))) := by
  have d1 := c_heldS top.length k ht (by omega)
  have d2 := c_heldPs cs hb (k + top.length) (by omega)
  have g1 : decide (((k + top.length : Nat) : Int) < 0) = false := by apply decide_eq_false; omega
  have g2 : decide (((k + top.length + cntPs cs : Nat) : Int) < 0) = false := by apply decide_eq_false; omega
  generalize mkS top.length k = ms at *
  generalize mkPks (k + top.length) cs = mc at *
  apply eq_call
  refine call_eq rfl Try.func32 rfl (by kernel_rfl) ?_
  unfold Try.f32
  simp (disch := ((try simp only [List.length_cons, List.length_append, List.length_nil, List.length_map]); omega)) only [↓GO, ↓DRW, GA, ren, renB, footX, refs, cellsV, cst, cstAt, nilC, idxAddr, E.load, E.store, binO, isC, bin, ibin, sbin, una, isShift, okCell, packV, lenV, blt, fnV, asArg, snapV, snapS, snapP, snapC, snapX, flatV, flatT, openK, layBack, allT, allZ, mkS, srcOf0, unN, idxV, nilEq, give, tupV, mkEnv, extV, pickV, LVS, OVS, LTS, TYS, PMS, pmT, OWS, ownT, GHS, ghT, DMS, dmT, Int.reduceToNat, Nat.reduceGT, ↓reduceIte, Nat.reduceAdd, Nat.reduceMul, Nat.reduceSub, Nat.reduceEqDiff, Nat.reduceLeDiff, Nat.reduceLT, Nat.reduceBEq, Int.reduceBEq, Int.reduceBNe, Int.reduceEq, Int.reduceLT, Int.reduceLE, Int.reduceGT, Int.reduceNeg, reduceCtorEq, Int.cast_ofNat_Int, getE_zero, getE_one, getE_two, Option.isSome_none, d1, d2, g1, g2, rch3]
end Go.Proofs.Ytcphjdfmjhijkaa
/- Graphs copied, by both. Conditions: those of each lemma. -/
namespace Go.Proofs.Ytcphjdfmjhijkaa
open E
set_option linter.unusedSimpArgs false
set_option linter.unusedVariables false
set_option maxRecDepth 100000
theorem c_cpPR (x : LPack) (ho : x.bulk ≤ 1048576) : callPure (EV Try.prog pol) 49 [.agg (x.enc.map .t)] = some (.agg (x.enc.map .t)) := by
  obtain ⟨name, version, source, sums, dev, needs⟩ := x
  simp only [LPack.bulk] at ho
  have ht : (LSum.encs sums).take sums.length = LSum.encs sums := by rw [← LSum.encs_len sums]; simp
  have ht2 : (strs needs).take needs.length = strs needs := by rw [← strs_len needs]; simp
  simp only [LPack.enc, List.map_cons, List.map_nil]
  apply eq_call
  refine call_eq rfl Try.func49 rfl (by kernel_rfl) ?_
  unfold Try.f49
  simp (disch := ((try simp only [List.length_cons, List.length_append, List.length_nil, List.length_map]); omega)) only [↓GO, ↓DRW, GA, ren, renB, footX, refs, cellsV, cst, cstAt, nilC, idxAddr, E.load, E.store, binO, isC, bin, ibin, sbin, una, isShift, okCell, packV, lenV, blt, fnV, asArg, snapV, snapS, snapP, snapC, snapX, flatV, flatT, openK, layBack, allT, allZ, mkS, srcOf0, unN, idxV, nilEq, give, tupV, mkEnv, extV, pickV, LVS, OVS, LTS, TYS, PMS, pmT, OWS, ownT, GHS, ghT, DMS, dmT, Int.reduceToNat, Nat.reduceGT, ↓reduceIte, Nat.reduceAdd, Nat.reduceMul, Nat.reduceSub, Nat.reduceEqDiff, Nat.reduceLeDiff, Nat.reduceLT, Nat.reduceBEq, Int.reduceBEq, Int.reduceBNe, Int.reduceEq, Int.reduceLT, Int.reduceLE, Int.reduceGT, Int.reduceNeg, reduceCtorEq, Int.cast_ofNat_Int, getE_zero, getE_one, getE_two, Option.isSome_none, ht, ht2, strs_len, LSum.encs_len, rch3, le_T]
def zG : List V := [.nil 1, .nil 6]
theorem l_cpGR (top : List Str) (cs : List LPack) (hl : cs.length ≤ 1048576) (hkl : top.length ≤ 1048576) (hb : ∀ c ∈ cs, c.bulk ≤ 1048576) : ∀ (rest pre : List LPack) (m : Nat), cs = pre ++ rest → m = pre.length →
    EV Try.prog pol (.loop 41 58 0 [.ptr 0 0 0, .ptr 1 0 0, .ptr 2 0 0, .t (.int .i64 (pre.length : Int))] [.vs 2 [[.t (.list 1 (strs top)), .t (.list 6 (LPack.encs cs))]], .vs 2 [zG], .vs 2 [[.sl 3 0 top.length none, .sl 4 0 m none]], .ts 1 (strs top), .ts 6 (LPack.encs pre)])
      = some (.loop (.exit 0) [.ptr 0 0 0, .ptr 1 0 0] [.vs 2 [zG], .vs 2 [[.sl 2 0 top.length none, .sl 3 0 cs.length none]], .ts 1 (strs top), .ts 6 (LPack.encs cs)])
  | [], pre, m, hs, hm => by
    have c : decide ((pre.length : Int) < (cs.length : Int)) = false := by simp [hs]
    have e : cs = pre := by simpa using hs
    simp only [zG]
    refine loop_eq Try.func41 rfl rfl ?_
    simp (disch := ((try simp only [List.length_cons, List.length_append, List.length_nil, List.length_map]); omega)) only [↓GO, ↓DRW, GA, ren, renB, footX, refs, cellsV, cst, cstAt, nilC, idxAddr, E.load, E.store, binO, isC, bin, ibin, sbin, una, isShift, okCell, packV, lenV, blt, fnV, asArg, snapV, snapS, snapP, snapC, snapX, flatV, flatT, openK, layBack, allT, allZ, mkS, srcOf0, unN, idxV, nilEq, give, tupV, mkEnv, extV, pickV, LVS, OVS, LTS, TYS, PMS, pmT, OWS, ownT, GHS, ghT, DMS, dmT, Int.reduceToNat, Nat.reduceGT, ↓reduceIte, Nat.reduceAdd, Nat.reduceMul, Nat.reduceSub, Nat.reduceEqDiff, Nat.reduceLeDiff, Nat.reduceLT, Nat.reduceBEq, Int.reduceBEq, Int.reduceBNe, Int.reduceEq, Int.reduceLT, Int.reduceLE, Int.reduceGT, Int.reduceNeg, reduceCtorEq, Int.cast_ofNat_Int, getE_zero, getE_one, getE_two, Option.isSome_none, c, LPack.encs_len, rch3]
    rw [hm, ← e]
  | x :: rest, pre, m, hs, hm => by
    have c : decide ((pre.length : Int) < (cs.length : Int)) = true := by simp [hs]; omega
    have c0 : decide ((0 : Int) ≤ (pre.length : Int)) = true := by simp
    have hget : (LPack.encs cs)[pre.length]? = some x.enc := by rw [hs]; simp [LPack.encs]
    have hlen : pre.length + rest.length + 1 ≤ cs.length := by rw [hs]; simp; omega
    have hcx := c_cpPR x (hb x (by rw [hs]; simp))
    have IH := l_cpGR top cs hl hkl hb rest (pre ++ [x]) (m + 1) (by rw [hs]; simp) (by simp [hm])
    rw [pencs_snoc, show ((pre ++ [x]).length : Int) = (pre.length : Int) + 1 by simp] at IH
    have hol : (LPack.encs pre).length = m := by rw [LPack.encs_len, hm]
    have hml : m ≤ 1048576 := by omega
    clear hs
    obtain ⟨name, version, source, sums, dev, needs⟩ := x
    simp only [LPack.enc, List.map_cons, List.map_nil, zG] at hcx hget IH ⊢
    generalize LPack.encs pre = A at *
    refine loop_eq Try.func41 rfl rfl ?_
    simp (disch := ((try simp only [List.length_cons, List.length_append, List.length_nil, List.length_map]); omega)) only [↓GO, ↓DRW, GA, ren, renB, footX, refs, cellsV, cst, cstAt, nilC, idxAddr, E.load, E.store, binO, isC, bin, ibin, sbin, una, isShift, okCell, packV, lenV, blt, fnV, asArg, snapV, snapS, snapP, snapC, snapX, flatV, flatT, openK, layBack, allT, allZ, mkS, srcOf0, unN, idxV, nilEq, give, tupV, mkEnv, extV, pickV, LVS, OVS, LTS, TYS, PMS, pmT, OWS, ownT, GHS, ghT, DMS, dmT, Int.reduceToNat, Nat.reduceGT, ↓reduceIte, Nat.reduceAdd, Nat.reduceMul, Nat.reduceSub, Nat.reduceEqDiff, Nat.reduceLeDiff, Nat.reduceLT, Nat.reduceBEq, Int.reduceBEq, Int.reduceBNe, Int.reduceEq, Int.reduceLT, Int.reduceLE, Int.reduceGT, Int.reduceNeg, reduceCtorEq, Int.cast_ofNat_Int, getE_zero, getE_one, getE_two, Option.isSome_none, c, c0, LPack.encs_len, hget, hcx, wrap_in, hol, IH, rch3, le_T]
    refine dyn_pos (by kernel_rfl) ?_
    rfl
theorem c_cpGR_nil (top : List Str) (hkl : top.length ≤ 1048576) :
    EV Try.prog pol (.callO false 41 [.agg [.t (.list 1 (strs top)), .t (.list 6 [])]] []) = some (.call (.agg [.sl 0 0 top.length none, .nil 6]) [.ts 1 (strs top)]) := by
  have L : EV Try.prog pol (.loop 41 58 0 [.ptr 0 0 0, .ptr 1 0 0, .ptr 2 0 0, .t (.int .i64 0)] [.vs 2 [[.t (.list 1 (strs top)), .t (.list 6 [])]], .vs 2 [zG], .vs 2 [[.sl 3 0 top.length none, .nil 6]], .ts 1 (strs top)])
      = some (.loop (.exit 0) [.ptr 0 0 0, .ptr 1 0 0] [.vs 2 [zG], .vs 2 [[.sl 2 0 top.length none, .nil 6]], .ts 1 (strs top)]) := by
    simp only [zG]
    refine loop_eq Try.func41 rfl rfl ?_
    simp (disch := ((try simp only [List.length_cons, List.length_append, List.length_nil, List.length_map]); omega)) only [↓GO, ↓DRW, GA, ren, renB, footX, refs, cellsV, cst, cstAt, nilC, idxAddr, E.load, E.store, binO, isC, bin, ibin, sbin, una, isShift, okCell, packV, lenV, blt, fnV, asArg, snapV, snapS, snapP, snapC, snapX, flatV, flatT, openK, layBack, allT, allZ, mkS, srcOf0, unN, idxV, nilEq, give, tupV, mkEnv, extV, pickV, LVS, OVS, LTS, TYS, PMS, pmT, OWS, ownT, GHS, ghT, DMS, dmT, Int.reduceToNat, Nat.reduceGT, ↓reduceIte, Nat.reduceAdd, Nat.reduceMul, Nat.reduceSub, Nat.reduceEqDiff, Nat.reduceLeDiff, Nat.reduceLT, Nat.reduceBEq, Int.reduceBEq, Int.reduceBNe, Int.reduceEq, Int.reduceLT, Int.reduceLE, Int.reduceGT, Int.reduceNeg, reduceCtorEq, Int.cast_ofNat_Int, getE_zero, getE_one, getE_two, Option.isSome_none, rch3, List.length_nil, Int.natCast_zero]
  simp only [zG] at L
  refine callO_eq Try.func41 rfl (by kernel_rfl) ?_
  unfold Try.f41
  simp (disch := ((try simp only [List.length_cons, List.length_append, List.length_nil, List.length_map]); omega)) only [↓GO, ↓DRW, GA, ren, renB, footX, refs, cellsV, cst, cstAt, nilC, idxAddr, E.load, E.store, binO, isC, bin, ibin, sbin, una, isShift, okCell, packV, lenV, blt, fnV, asArg, snapV, snapS, snapP, snapC, snapX, flatV, flatT, openK, layBack, allT, allZ, mkS, srcOf0, unN, idxV, nilEq, give, tupV, mkEnv, extV, pickV, LVS, OVS, LTS, TYS, PMS, pmT, OWS, ownT, GHS, ghT, DMS, dmT, Int.reduceToNat, Nat.reduceGT, ↓reduceIte, Nat.reduceAdd, Nat.reduceMul, Nat.reduceSub, Nat.reduceEqDiff, Nat.reduceLeDiff, Nat.reduceLT, Nat.reduceBEq, Int.reduceBEq, Int.reduceBNe, Int.reduceEq, Int.reduceLT, Int.reduceLE, Int.reduceGT, Int.reduceNeg, reduceCtorEq, Int.cast_ofNat_Int, getE_zero, getE_one, getE_two, Option.isSome_none, L, strs_len, rch3, le_T]
  try (refine dyn_pos (by kernel_rfl) ?_; rfl)
theorem c_cpGR_cons (top : List Str) (x : LPack) (rest : List LPack) (hkl : top.length ≤ 1048576) (hl : (x :: rest).length ≤ 1048576) (hb : ∀ c ∈ x :: rest, c.bulk ≤ 1048576) :
    EV Try.prog pol (.callO false 41 [.agg [.t (.list 1 (strs top)), .t (.list 6 (LPack.encs (x :: rest)))]] []) = some (.call (.agg [.sl 0 0 top.length none, .sl 1 0 (x :: rest).length none]) [.ts 1 (strs top), .ts 6 (LPack.encs (x :: rest))]) := by
  have hcx := c_cpPR x (hb x (by simp))
  have L := l_cpGR top (x :: rest) (by omega) (by omega) hb rest [x] 1 rfl rfl
  have L0 : EV Try.prog pol (.loop 41 58 0 [.ptr 0 0 0, .ptr 1 0 0, .ptr 2 0 0, .t (.int .i64 0)] [.vs 2 [[.t (.list 1 (strs top)), .t (.list 6 (LPack.encs (x :: rest)))]], .vs 2 [zG], .vs 2 [[.sl 3 0 top.length none, .nil 6]], .ts 1 (strs top)])
      = some (.loop (.exit 0) [.ptr 0 0 0, .ptr 1 0 0] [.vs 2 [zG], .vs 2 [[.sl 2 0 top.length none, .sl 3 0 (x :: rest).length none]], .ts 1 (strs top), .ts 6 (LPack.encs (x :: rest))]) := by
    have c : decide ((0 : Int) < ((x :: rest).length : Int)) = true := by apply decide_eq_true; simp only [List.length_cons]; omega
    have hget : (LPack.encs (x :: rest))[0]? = some x.enc := rfl
    rw [show LPack.encs [x] = [x.enc] from rfl] at L
    obtain ⟨name, version, source, sums, dev, needs⟩ := x
    simp only [LPack.enc, List.map_cons, List.map_nil, zG, List.length_cons, List.length_nil, Nat.zero_add] at hcx hget L ⊢
    generalize LPack.mk name version source sums dev needs :: rest = cs at *
    refine loop_eq Try.func41 rfl rfl ?_
    simp (disch := ((try simp only [List.length_cons, List.length_append, List.length_nil, List.length_map]); omega)) only [↓GO, ↓DRW, GA, ren, renB, footX, refs, cellsV, cst, cstAt, nilC, idxAddr, E.load, E.store, binO, isC, bin, ibin, sbin, una, isShift, okCell, packV, lenV, blt, fnV, asArg, snapV, snapS, snapP, snapC, snapX, flatV, flatT, openK, layBack, allT, allZ, mkS, srcOf0, unN, idxV, nilEq, give, tupV, mkEnv, extV, pickV, LVS, OVS, LTS, TYS, PMS, pmT, OWS, ownT, GHS, ghT, DMS, dmT, Int.reduceToNat, Nat.reduceGT, ↓reduceIte, Nat.reduceAdd, Nat.reduceMul, Nat.reduceSub, Nat.reduceEqDiff, Nat.reduceLeDiff, Nat.reduceLT, Nat.reduceBEq, Int.reduceBEq, Int.reduceBNe, Int.reduceEq, Int.reduceLT, Int.reduceLE, Int.reduceGT, Int.reduceNeg, reduceCtorEq, Int.cast_ofNat_Int, getE_zero, getE_one, getE_two, Option.isSome_none, c, LPack.encs_len, getE_zero, hget, hcx, wrap_in, Int.reduceAdd, L, rch3, le_T, List.length_nil, Int.natCast_zero]
    try (refine dyn_pos (by kernel_rfl) ?_; first | rfl | exact L)
  clear L
  generalize x :: rest = cs at *
  simp only [zG] at L0
  refine callO_eq Try.func41 rfl (by kernel_rfl) ?_
  unfold Try.f41
  simp (disch := ((try simp only [List.length_cons, List.length_append, List.length_nil, List.length_map]); omega)) only [↓GO, ↓DRW, GA, ren, renB, footX, refs, cellsV, cst, cstAt, nilC, idxAddr, E.load, E.store, binO, isC, bin, ibin, sbin, una, isShift, okCell, packV, lenV, blt, fnV, asArg, snapV, snapS, snapP, snapC, snapX, flatV, flatT, openK, layBack, allT, allZ, mkS, srcOf0, unN, idxV, nilEq, give, tupV, mkEnv, extV, pickV, LVS, OVS, LTS, TYS, PMS, pmT, OWS, ownT, GHS, ghT, DMS, dmT, Int.reduceToNat, Nat.reduceGT, ↓reduceIte, Nat.reduceAdd, Nat.reduceMul, Nat.reduceSub, Nat.reduceEqDiff, Nat.reduceLeDiff, Nat.reduceLT, Nat.reduceBEq, Int.reduceBEq, Int.reduceBNe, Int.reduceEq, Int.reduceLT, Int.reduceLE, Int.reduceGT, Int.reduceNeg, reduceCtorEq, Int.cast_ofNat_Int, getE_zero, getE_one, getE_two, Option.isSome_none, L0, strs_len, rch3, le_T]
  try (refine dyn_pos (by kernel_rfl) ?_; rfl)
end Go.Proofs.Ytcphjdfmjhijkaa
/- Graphs copied by the implementation. Conditions: those of each lemma. -/
namespace Go.Proofs.Ytcphjdfmjhijkaa
open E
set_option linter.unusedSimpArgs false
set_option linter.unusedVariables false
set_option maxRecDepth 100000
theorem l_cpGI (top : List Str) (cs : List LPack) (hl : cs.length ≤ 1048576) (hkl : top.length ≤ 1048576) (hb : ∀ c ∈ cs, c.bulk ≤ 1048576) : ∀ (rest pre : List LPack) (m : Nat), cs = pre ++ rest → m = pre.length →
    EV Try.prog pol (.loop 43 58 0 [.ptr 0 0 0, .ptr 1 0 0, .t (.list 6 (LPack.encs cs)), .t (.int .i64 (cs.length : Int)), .t (.int .i64 (pre.length : Int))] [.vs 2 [zG], .vs 2 [[.sl 2 0 top.length none, .sl 3 0 m none]], .ts 1 (strs top), .vs 6 (ocE (LPack.encs pre))])
      = some (.loop (.exit 0) [.ptr 0 0 0, .ptr 1 0 0] [.vs 2 [zG], .vs 2 [[.sl 2 0 top.length none, .sl 3 0 cs.length none]], .ts 1 (strs top), .vs 6 (ocE (LPack.encs cs))])
  | [], pre, m, hs, hm => by
    have c : decide ((pre.length : Int) < (cs.length : Int)) = false := by simp [hs]
    have e : cs = pre := by simpa using hs
    simp only [zG]
    refine loop_eq Try.func43 rfl rfl ?_
    simp (disch := ((try simp only [List.length_cons, List.length_append, List.length_nil, List.length_map]); omega)) only [↓GO, ↓DRW, GA, ren, renB, footX, refs, cellsV, cst, cstAt, nilC, idxAddr, E.load, E.store, binO, isC, bin, ibin, sbin, una, isShift, okCell, packV, lenV, blt, fnV, asArg, snapV, snapS, snapP, snapC, snapX, flatV, flatT, openK, layBack, allT, allZ, mkS, srcOf0, unN, idxV, nilEq, give, tupV, mkEnv, extV, pickV, LVS, OVS, LTS, TYS, PMS, pmT, OWS, ownT, GHS, ghT, DMS, dmT, Int.reduceToNat, Nat.reduceGT, ↓reduceIte, Nat.reduceAdd, Nat.reduceMul, Nat.reduceSub, Nat.reduceEqDiff, Nat.reduceLeDiff, Nat.reduceLT, Nat.reduceBEq, Int.reduceBEq, Int.reduceBNe, Int.reduceEq, Int.reduceLT, Int.reduceLE, Int.reduceGT, Int.reduceNeg, reduceCtorEq, selK_some, selK_none, bltO, brwK, brwA, brwB, sliceO, mkO, appO, appS, ghOne, ghAt, ghCells, fld1, unf1, setC, oc, oTs, oT, rowT, rowT.rowTs, rowB, isL, Bool.not_false, Bool.true_and, Bool.and_true, Bool.and_self, List.flatMap_append, List.map_append, List.set_cons_zero, List.set_cons_succ, Int.cast_ofNat_Int, getE_zero, getE_one, getE_two, Option.isSome_none, c, LPack.encs_len, ocE_ren, ocE_refs, rch3]
    rw [hm, ← e]
  | x :: rest, pre, m, hs, hm => by
    have c : decide ((pre.length : Int) < (cs.length : Int)) = true := by simp [hs]; omega
    have c0 : decide ((0 : Int) ≤ (pre.length : Int)) = true := by simp
    have hget : (LPack.encs cs)[pre.length]? = some x.enc := by rw [hs]; simp [LPack.encs]
    have hlen : pre.length + rest.length + 1 ≤ cs.length := by rw [hs]; simp; omega
    have hbx := hb x (by rw [hs]; simp)
    have IH := l_cpGI top cs hl hkl hb rest (pre ++ [x]) (m + 1) (by rw [hs]; simp) (by simp [hm])
    rw [pencs_snoc, ocE_app, show ((pre ++ [x]).length : Int) = (pre.length : Int) + 1 by simp] at IH
    have hol : (ocE (LPack.encs pre)).length = m := by rw [ocE_len, LPack.encs_len, hm]
    have hml : m ≤ 1048576 := by omega
    have hA := ocE_refs (LPack.encs pre)
    have hR := fun r => ocE_ren r (LPack.encs pre)
    have hm1 : m + 1 - 1 = m := by omega
    have hm0 : ¬ (m + 1 = 0) := by omega
    clear hs
    obtain ⟨name, version, source, sums, dev, needs⟩ := x
    simp only [LPack.bulk] at hbx
    have d1 := c_cloneM (LSum.encs sums) (by rw [LSum.encs_len]; omega)
    have d2 := c_cloneS (strs needs) (by rw [strs_len]; omega)
    rw [LSum.encs_len] at d1
    rw [strs_len] at d2
    have hf1 := flatE_sums sums
    have hf2 := flatE_strs needs
    have hg1 := fun y => mid_get (ocE (LPack.encs pre)) [] y m hol
    have hs1 := fun y z => mid_set (ocE (LPack.encs pre)) [] y z m hol
    have hle : ∀ y : List V, (ocE (LPack.encs pre) ++ [y]).length = m + 1 := fun y => by simp [hol]
    simp only [LPack.enc, List.map_cons, List.map_nil, zG, ocE_cons, ocE_nil, oc] at hget IH ⊢
    generalize ocE (LPack.encs pre) = A at *
    refine loop_eq Try.func43 rfl rfl ?_
    simp (disch := ((try simp only [List.length_cons, List.length_append, List.length_nil, List.length_map]); omega)) only [↓GO, ↓DRW, GA, ren, renB, footX, refs, cellsV, cst, cstAt, nilC, idxAddr, E.load, E.store, binO, isC, bin, ibin, sbin, una, isShift, okCell, packV, lenV, blt, fnV, asArg, snapV, snapS, snapP, snapC, snapX, flatV, flatT, openK, layBack, allT, allZ, mkS, srcOf0, unN, idxV, nilEq, give, tupV, mkEnv, extV, pickV, LVS, OVS, LTS, TYS, PMS, pmT, OWS, ownT, GHS, ghT, DMS, dmT, Int.reduceToNat, Nat.reduceGT, ↓reduceIte, Nat.reduceAdd, Nat.reduceMul, Nat.reduceSub, Nat.reduceEqDiff, Nat.reduceLeDiff, Nat.reduceLT, Nat.reduceBEq, Int.reduceBEq, Int.reduceBNe, Int.reduceEq, Int.reduceLT, Int.reduceLE, Int.reduceGT, Int.reduceNeg, reduceCtorEq, selK_some, selK_none, bltO, brwK, brwA, brwB, sliceO, mkO, appO, appS, ghOne, ghAt, ghCells, fld1, unf1, setC, oc, oTs, oT, rowT, rowT.rowTs, rowB, isL, Bool.not_false, Bool.true_and, Bool.and_true, Bool.and_self, List.flatMap_append, List.map_append, List.set_cons_zero, List.set_cons_succ, Int.cast_ofNat_Int, getE_zero, getE_one, getE_two, Option.isSome_none, c, c0, LPack.encs_len, LSum.encs_len, hget, d1, d2, wrap_in, hol, hA, hR, hm1, hm0, if_false, hg1, hs1, hle, hf1, hf2, strs_len, ocE_len, ocE_ren, ocE_refs, IH, rch3, le_T]
    refine dyn_pos (by kernel_rfl) ?_
    rfl
theorem c_cpGI_nil (top : List Str) (hkl : top.length ≤ 1048576) :
    EV Try.prog pol (.callO false 43 [.agg [.t (.list 1 (strs top)), .t (.list 6 [])]] []) = some (.call (.agg [.sl 0 0 top.length none, .nil 6]) [.ts 1 (strs top)]) := by
  have L : EV Try.prog pol (.loop 43 58 0 [.ptr 0 0 0, .ptr 1 0 0, .t (.list 6 []), .t (.int .i64 0), .t (.int .i64 0)] [.vs 2 [zG], .vs 2 [[.sl 2 0 top.length none, .nil 6]], .ts 1 (strs top)])
      = some (.loop (.exit 0) [.ptr 0 0 0, .ptr 1 0 0] [.vs 2 [zG], .vs 2 [[.sl 2 0 top.length none, .nil 6]], .ts 1 (strs top)]) := by
    simp only [zG]
    refine loop_eq Try.func43 rfl rfl ?_
    simp (disch := ((try simp only [List.length_cons, List.length_append, List.length_nil, List.length_map]); omega)) only [↓GO, ↓DRW, GA, ren, renB, footX, refs, cellsV, cst, cstAt, nilC, idxAddr, E.load, E.store, binO, isC, bin, ibin, sbin, una, isShift, okCell, packV, lenV, blt, fnV, asArg, snapV, snapS, snapP, snapC, snapX, flatV, flatT, openK, layBack, allT, allZ, mkS, srcOf0, unN, idxV, nilEq, give, tupV, mkEnv, extV, pickV, LVS, OVS, LTS, TYS, PMS, pmT, OWS, ownT, GHS, ghT, DMS, dmT, Int.reduceToNat, Nat.reduceGT, ↓reduceIte, Nat.reduceAdd, Nat.reduceMul, Nat.reduceSub, Nat.reduceEqDiff, Nat.reduceLeDiff, Nat.reduceLT, Nat.reduceBEq, Int.reduceBEq, Int.reduceBNe, Int.reduceEq, Int.reduceLT, Int.reduceLE, Int.reduceGT, Int.reduceNeg, reduceCtorEq, selK_some, selK_none, bltO, brwK, brwA, brwB, sliceO, mkO, appO, appS, ghOne, ghAt, ghCells, fld1, unf1, setC, oc, oTs, oT, rowT, rowT.rowTs, rowB, isL, Bool.not_false, Bool.true_and, Bool.and_true, Bool.and_self, List.flatMap_append, List.map_append, List.set_cons_zero, List.set_cons_succ, Int.cast_ofNat_Int, getE_zero, getE_one, getE_two, Option.isSome_none, rch3]
  have d2 := c_cloneS (strs top) (by rw [strs_len]; omega)
  rw [strs_len] at d2
  simp only [zG] at L
  refine callO_eq Try.func43 rfl (by kernel_rfl) ?_
  unfold Try.f43
  simp (disch := ((try simp only [List.length_cons, List.length_append, List.length_nil, List.length_map]); omega)) only [↓GO, ↓DRW, GA, ren, renB, footX, refs, cellsV, cst, cstAt, nilC, idxAddr, E.load, E.store, binO, isC, bin, ibin, sbin, una, isShift, okCell, packV, lenV, blt, fnV, asArg, snapV, snapS, snapP, snapC, snapX, flatV, flatT, openK, layBack, allT, allZ, mkS, srcOf0, unN, idxV, nilEq, give, tupV, mkEnv, extV, pickV, LVS, OVS, LTS, TYS, PMS, pmT, OWS, ownT, GHS, ghT, DMS, dmT, Int.reduceToNat, Nat.reduceGT, ↓reduceIte, Nat.reduceAdd, Nat.reduceMul, Nat.reduceSub, Nat.reduceEqDiff, Nat.reduceLeDiff, Nat.reduceLT, Nat.reduceBEq, Int.reduceBEq, Int.reduceBNe, Int.reduceEq, Int.reduceLT, Int.reduceLE, Int.reduceGT, Int.reduceNeg, reduceCtorEq, selK_some, selK_none, bltO, brwK, brwA, brwB, sliceO, mkO, appO, appS, ghOne, ghAt, ghCells, fld1, unf1, setC, oc, oTs, oT, rowT, rowT.rowTs, rowB, isL, Bool.not_false, Bool.true_and, Bool.and_true, Bool.and_self, List.flatMap_append, List.map_append, List.set_cons_zero, List.set_cons_succ, Int.cast_ofNat_Int, getE_zero, getE_one, getE_two, Option.isSome_none, d2, L, List.length_nil, Int.natCast_zero, strs_len, rch3, le_T]
theorem c_cpGI_cons (top : List Str) (x : LPack) (rest : List LPack) (hkl : top.length ≤ 1048576) (hl : (x :: rest).length ≤ 1048576) (hb : ∀ c ∈ x :: rest, c.bulk ≤ 1048576) :
    EV Try.prog pol (.callO false 43 [.agg [.t (.list 1 (strs top)), .t (.list 6 (LPack.encs (x :: rest)))]] []) = some (.call (.agg [.sl 0 0 top.length none, .sl 1 0 (x :: rest).length none]) [.ts 1 (strs top), .vs 6 (ocE (LPack.encs (x :: rest)))]) := by
  have hbx := hb x (by simp)
  have L := l_cpGI top (x :: rest) (by omega) (by omega) hb rest [x] 1 rfl rfl
  have L0 : EV Try.prog pol (.loop 43 58 0 [.ptr 0 0 0, .ptr 1 0 0, .t (.list 6 (LPack.encs (x :: rest))), .t (.int .i64 ((x :: rest).length : Int)), .t (.int .i64 0)] [.vs 2 [zG], .vs 2 [[.sl 2 0 top.length none, .nil 6]], .ts 1 (strs top)])
      = some (.loop (.exit 0) [.ptr 0 0 0, .ptr 1 0 0] [.vs 2 [zG], .vs 2 [[.sl 2 0 top.length none, .sl 3 0 (x :: rest).length none]], .ts 1 (strs top), .vs 6 (ocE (LPack.encs (x :: rest)))]) := by
    have c : decide ((0 : Int) < ((x :: rest).length : Int)) = true := by apply decide_eq_true; simp only [List.length_cons]; omega
    have hget : (LPack.encs (x :: rest))[0]? = some x.enc := rfl
    rw [show ocE (LPack.encs [x]) = [x.enc.map oc] from rfl] at L
    obtain ⟨name, version, source, sums, dev, needs⟩ := x
    simp only [LPack.bulk] at hbx
    have d1 := c_cloneM (LSum.encs sums) (by rw [LSum.encs_len]; omega)
    have d2 := c_cloneS (strs needs) (by rw [strs_len]; omega)
    rw [LSum.encs_len] at d1
    rw [strs_len] at d2
    have hf1 := flatE_sums sums
    have hf2 := flatE_strs needs
    simp only [LPack.enc, List.map_cons, List.map_nil, zG, List.length_cons, List.length_nil, Nat.zero_add, oc, Int.natCast_one] at hget L ⊢
    generalize hcs : LPack.mk name version source sums dev needs :: rest = cs at *
    simp only [← List.length_cons (a := LPack.mk name version source sums dev needs), hcs] at *
    refine loop_eq Try.func43 rfl rfl ?_
    simp (disch := ((try simp only [List.length_cons, List.length_append, List.length_nil, List.length_map]); omega)) only [↓GO, ↓DRW, GA, ren, renB, footX, refs, cellsV, cst, cstAt, nilC, idxAddr, E.load, E.store, binO, isC, bin, ibin, sbin, una, isShift, okCell, packV, lenV, blt, fnV, asArg, snapV, snapS, snapP, snapC, snapX, flatV, flatT, openK, layBack, allT, allZ, mkS, srcOf0, unN, idxV, nilEq, give, tupV, mkEnv, extV, pickV, LVS, OVS, LTS, TYS, PMS, pmT, OWS, ownT, GHS, ghT, DMS, dmT, Int.reduceToNat, Nat.reduceGT, ↓reduceIte, Nat.reduceAdd, Nat.reduceMul, Nat.reduceSub, Nat.reduceEqDiff, Nat.reduceLeDiff, Nat.reduceLT, Nat.reduceBEq, Int.reduceBEq, Int.reduceBNe, Int.reduceEq, Int.reduceLT, Int.reduceLE, Int.reduceGT, Int.reduceNeg, reduceCtorEq, selK_some, selK_none, bltO, brwK, brwA, brwB, sliceO, mkO, appO, appS, ghOne, ghAt, ghCells, fld1, unf1, setC, oc, oTs, oT, rowT, rowT.rowTs, rowB, isL, Bool.not_false, Bool.true_and, Bool.and_true, Bool.and_self, List.flatMap_append, List.map_append, List.set_cons_zero, List.set_cons_succ, Int.cast_ofNat_Int, getE_zero, getE_one, getE_two, Option.isSome_none, c, LPack.encs_len, LSum.encs_len, getE_zero, hget, d1, d2, wrap_in, Int.reduceAdd, if_false, hf1, hf2, L, strs_len, rch3, le_T, List.length_nil, Int.natCast_zero]
    refine dyn_pos (by kernel_rfl) ?_
    rfl
  have d2 := c_cloneS (strs top) (by rw [strs_len]; omega)
  rw [strs_len] at d2
  clear L
  generalize x :: rest = cs at *
  simp only [zG] at L0
  refine callO_eq Try.func43 rfl (by kernel_rfl) ?_
  unfold Try.f43
  simp (disch := ((try simp only [List.length_cons, List.length_append, List.length_nil, List.length_map]); omega)) only [↓GO, ↓DRW, GA, ren, renB, footX, refs, cellsV, cst, cstAt, nilC, idxAddr, E.load, E.store, binO, isC, bin, ibin, sbin, una, isShift, okCell, packV, lenV, blt, fnV, asArg, snapV, snapS, snapP, snapC, snapX, flatV, flatT, openK, layBack, allT, allZ, mkS, srcOf0, unN, idxV, nilEq, give, tupV, mkEnv, extV, pickV, LVS, OVS, LTS, TYS, PMS, pmT, OWS, ownT, GHS, ghT, DMS, dmT, Int.reduceToNat, Nat.reduceGT, ↓reduceIte, Nat.reduceAdd, Nat.reduceMul, Nat.reduceSub, Nat.reduceEqDiff, Nat.reduceLeDiff, Nat.reduceLT, Nat.reduceBEq, Int.reduceBEq, Int.reduceBNe, Int.reduceEq, Int.reduceLT, Int.reduceLE, Int.reduceGT, Int.reduceNeg, reduceCtorEq, selK_some, selK_none, bltO, brwK, brwA, brwB, sliceO, mkO, appO, appS, ghOne, ghAt, ghCells, fld1, unf1, setC, oc, oTs, oT, rowT, rowT.rowTs, rowB, isL, Bool.not_false, Bool.true_and, Bool.and_true, Bool.and_self, List.flatMap_append, List.map_append, List.set_cons_zero, List.set_cons_succ, Int.cast_ofNat_Int, getE_zero, getE_one, getE_two, Option.isSome_none, d2, L0, strs_len, LPack.encs_len, ocE_ren, ocE_refs, rch3, le_T]
end Go.Proofs.Ytcphjdfmjhijkaa
/- Bare by both. Conditions: those of each lemma. -/
namespace Go.Proofs.Ytcphjdfmjhijkaa
open E
set_option linter.unusedSimpArgs false
set_option linter.unusedVariables false
set_option maxRecDepth 100000
def bareP (kd : Bool) (x : LPack) : LPack := ⟨x.name, x.version, cond kd x.source [], x.sums, false, x.needs⟩
theorem bareP_len (kd : Bool) (cs : List LPack) : (cs.map (bareP kd)).length = cs.length := by simp
theorem bareP_bulk (kd : Bool) (x : LPack) : (bareP kd x).bulk ≤ x.bulk := by
  cases kd <;> simp only [bareP, LPack.bulk, cond_true, cond_false, List.length_nil] <;> omega
theorem bareP_bulks (kd : Bool) : ∀ cs : List LPack, LPack.bulks (cs.map (bareP kd)) ≤ LPack.bulks cs
  | [] => by simp [LPack.bulks]
  | c :: cs => by
    have h1 := bareP_bulk kd c
    have h2 := bareP_bulks kd cs
    simp only [List.map_cons, LPack.bulks]; omega
theorem l_bareR (kd : Bool) (top : List Str) (cs : List LPack) (hl : cs.length ≤ 1048576) : ∀ (rest pre : List LPack), cs = pre ++ rest →
    EV Try.prog pol (.loop 27 58 0 [.t (.bool kd), .ptr 0 0 0, .ptr 1 0 0, .t (.int .i64 (pre.length : Int))] [.vs 2 [zG], .vs 2 [[.sl 2 0 top.length none, .sl 3 0 cs.length none]], .ts 1 (strs top), .ts 6 (LPack.encs (pre.map (bareP kd)) ++ LPack.encs rest)])
      = some (.loop (.exit 0) [.ptr 0 0 0, .ptr 1 0 0] [.vs 2 [zG], .vs 2 [[.sl 2 0 top.length none, .sl 3 0 cs.length none]], .ts 1 (strs top), .ts 6 (LPack.encs (cs.map (bareP kd)))])
  | [], pre, hs => by
    have c : decide ((pre.length : Int) < (cs.length : Int)) = false := by simp [hs]
    have e : cs = pre := by simpa using hs
    simp only [zG, show LPack.encs [] = [] from rfl, List.append_nil]
    refine loop_eq Try.func27 rfl rfl ?_
    simp (disch := ((try simp only [List.length_cons, List.length_append, List.length_nil, List.length_map]); omega)) only [↓GO, ↓DRW, GA, ren, renB, footX, refs, cellsV, cst, cstAt, nilC, idxAddr, E.load, E.store, binO, isC, bin, ibin, sbin, una, isShift, okCell, packV, lenV, blt, fnV, asArg, snapV, snapS, snapP, snapC, snapX, flatV, flatT, openK, layBack, allT, allZ, mkS, srcOf0, unN, idxV, nilEq, give, tupV, mkEnv, extV, pickV, LVS, OVS, LTS, TYS, PMS, pmT, OWS, ownT, GHS, ghT, DMS, dmT, Int.reduceToNat, Nat.reduceGT, ↓reduceIte, Nat.reduceAdd, Nat.reduceMul, Nat.reduceSub, Nat.reduceEqDiff, Nat.reduceLeDiff, Nat.reduceLT, Nat.reduceBEq, Int.reduceBEq, Int.reduceBNe, Int.reduceEq, Int.reduceLT, Int.reduceLE, Int.reduceGT, Int.reduceNeg, reduceCtorEq, Int.cast_ofNat_Int, getE_zero, getE_one, getE_two, Option.isSome_none, c, rch3]
    rw [e]
  | x :: rest, pre, hs => by
    have c : decide ((pre.length : Int) < (cs.length : Int)) = true := by simp [hs]; omega
    have c0 : decide ((0 : Int) ≤ (pre.length : Int)) = true := by simp
    have c00 : (0 : Int) ≤ (pre.length : Int) := by omega
    have hlen : pre.length + rest.length + 1 ≤ cs.length := by rw [hs]; simp; omega
    have IH := l_bareR kd top cs hl rest (pre ++ [x]) (by rw [hs]; simp)
    rw [List.map_append, List.map_cons, List.map_nil, pencs_snoc, List.append_assoc, List.cons_append, List.nil_append, show ((pre ++ [x]).length : Int) = (pre.length : Int) + 1 by simp] at IH
    have hAl : (LPack.encs (pre.map (bareP kd))).length = pre.length := by rw [LPack.encs_len, List.length_map]
    rw [show LPack.encs (x :: rest) = x.enc :: LPack.encs rest from rfl]
    have hg1 := fun y => mid_get (LPack.encs (pre.map (bareP kd))) (LPack.encs rest) y pre.length hAl
    have hs1 := fun y z => mid_set (LPack.encs (pre.map (bareP kd))) (LPack.encs rest) y z pre.length hAl
    clear hs
    obtain ⟨name, version, source, sums, dev, needs⟩ := x
    simp only [bareP, LPack.enc, zG] at IH ⊢
    generalize LPack.encs (pre.map (bareP kd)) = A at *
    generalize LPack.encs rest = B at *
    cases kd <;> simp only [cond_true, cond_false] at IH
    all_goals
      refine loop_eq Try.func27 rfl rfl ?_
      simp (disch := ((try simp only [List.length_cons, List.length_append, List.length_nil, List.length_map]); omega)) only [↓GO, ↓DRW, GA, ren, renB, footX, refs, cellsV, cst, cstAt, nilC, idxAddr, E.load, E.store, binO, isC, bin, ibin, sbin, una, isShift, okCell, packV, lenV, blt, fnV, asArg, snapV, snapS, snapP, snapC, snapX, flatV, flatT, openK, layBack, allT, allZ, mkS, srcOf0, unN, idxV, nilEq, give, tupV, mkEnv, extV, pickV, LVS, OVS, LTS, TYS, PMS, pmT, OWS, ownT, GHS, ghT, DMS, dmT, Int.reduceToNat, Nat.reduceGT, ↓reduceIte, Nat.reduceAdd, Nat.reduceMul, Nat.reduceSub, Nat.reduceEqDiff, Nat.reduceLeDiff, Nat.reduceLT, Nat.reduceBEq, Int.reduceBEq, Int.reduceBNe, Int.reduceEq, Int.reduceLT, Int.reduceLE, Int.reduceGT, Int.reduceNeg, reduceCtorEq, Int.cast_ofNat_Int, getE_zero, getE_one, getE_two, Option.isSome_none, c, c0, c00, if_true, Int.toNat_natCast, hg1, hs1, wrap_in, IH, rch3]
theorem l_bareI (kd : Bool) (top : List Str) (cs : List LPack) (hl : cs.length ≤ 1048576) : ∀ (rest pre : List LPack), cs = pre ++ rest →
    EV Try.prog pol (.loop 29 58 0 [.t (.bool kd), .ptr 0 0 0, .ptr 1 0 0, .t (.int .i64 (cs.length : Int)), .t (.int .i64 (pre.length : Int))] [.vs 2 [zG], .vs 2 [[.sl 2 0 top.length none, .sl 3 0 cs.length none]], .ts 1 (strs top), .vs 6 (ocE (LPack.encs (pre.map (bareP kd))) ++ ocE (LPack.encs rest))])
      = some (.loop (.exit 0) [.ptr 0 0 0, .ptr 1 0 0] [.vs 2 [zG], .vs 2 [[.sl 2 0 top.length none, .sl 3 0 cs.length none]], .ts 1 (strs top), .vs 6 (ocE (LPack.encs (cs.map (bareP kd))))])
  | [], pre, hs => by
    have c : decide ((pre.length : Int) < (cs.length : Int)) = false := by simp [hs]
    have e : cs = pre := by simpa using hs
    have hA := ocE_refs (LPack.encs (pre.map (bareP kd)))
    have hR := fun m => ocE_ren m (LPack.encs (pre.map (bareP kd)))
    simp only [zG, show ocE (LPack.encs []) = [] from rfl, List.append_nil]
    refine loop_eq Try.func29 rfl rfl ?_
    simp (disch := ((try simp only [List.length_cons, List.length_append, List.length_nil, List.length_map]); omega)) only [↓GO, ↓DRW, GA, ren, renB, footX, refs, cellsV, cst, cstAt, nilC, idxAddr, E.load, E.store, binO, isC, bin, ibin, sbin, una, isShift, okCell, packV, lenV, blt, fnV, asArg, snapV, snapS, snapP, snapC, snapX, flatV, flatT, openK, layBack, allT, allZ, mkS, srcOf0, unN, idxV, nilEq, give, tupV, mkEnv, extV, pickV, LVS, OVS, LTS, TYS, PMS, pmT, OWS, ownT, GHS, ghT, DMS, dmT, Int.reduceToNat, Nat.reduceGT, ↓reduceIte, Nat.reduceAdd, Nat.reduceMul, Nat.reduceSub, Nat.reduceEqDiff, Nat.reduceLeDiff, Nat.reduceLT, Nat.reduceBEq, Int.reduceBEq, Int.reduceBNe, Int.reduceEq, Int.reduceLT, Int.reduceLE, Int.reduceGT, Int.reduceNeg, reduceCtorEq, selK_some, selK_none, bltO, brwK, brwA, brwB, sliceO, mkO, appO, appS, ghOne, ghAt, ghCells, fld1, unf1, setC, oc, oTs, oT, rowT, rowT.rowTs, rowB, isL, Bool.not_false, Bool.true_and, Bool.and_true, Bool.and_self, List.flatMap_append, List.map_append, List.set_cons_zero, List.set_cons_succ, Int.cast_ofNat_Int, getE_zero, getE_one, getE_two, Option.isSome_none, c, hA, hR, rch3]
    rw [e]
  | x :: rest, pre, hs => by
    have c : decide ((pre.length : Int) < (cs.length : Int)) = true := by simp [hs]; omega
    have c0 : decide ((0 : Int) ≤ (pre.length : Int)) = true := by simp
    have c00 : (0 : Int) ≤ (pre.length : Int) := by omega
    have hlen : pre.length + rest.length + 1 ≤ cs.length := by rw [hs]; simp; omega
    have IH := l_bareI kd top cs hl rest (pre ++ [x]) (by rw [hs]; simp)
    rw [List.map_append, List.map_cons, List.map_nil, pencs_snoc, ocE_app, ocE_cons, ocE_nil, List.append_assoc, List.cons_append, List.nil_append, show ((pre ++ [x]).length : Int) = (pre.length : Int) + 1 by simp] at IH
    have hAl : (ocE (LPack.encs (pre.map (bareP kd)))).length = pre.length := by rw [ocE_len, LPack.encs_len, List.length_map]
    have hA := ocE_refs (LPack.encs (pre.map (bareP kd)))
    have hR := fun m => ocE_ren m (LPack.encs (pre.map (bareP kd)))
    have hB := ocE_refs (LPack.encs rest)
    have hRB := fun m => ocE_ren m (LPack.encs rest)
    rw [show ocE (LPack.encs (x :: rest)) = x.enc.map oc :: ocE (LPack.encs rest) from rfl]
    have hg1 := fun y => mid_get (ocE (LPack.encs (pre.map (bareP kd)))) (ocE (LPack.encs rest)) y pre.length hAl
    have hs1 := fun y z => mid_set (ocE (LPack.encs (pre.map (bareP kd)))) (ocE (LPack.encs rest)) y z pre.length hAl
    clear hs
    obtain ⟨name, version, source, sums, dev, needs⟩ := x
    simp only [bareP, LPack.enc, List.map_cons, List.map_nil, oc, zG] at IH ⊢
    generalize ocE (LPack.encs (pre.map (bareP kd))) = A at *
    generalize ocE (LPack.encs rest) = B at *
    cases kd <;> simp only [cond_true, cond_false] at IH
    all_goals
      refine loop_eq Try.func29 rfl rfl ?_
      simp (disch := ((try simp only [List.length_cons, List.length_append, List.length_nil, List.length_map]); omega)) only [↓GO, ↓DRW, GA, ren, renB, footX, refs, cellsV, cst, cstAt, nilC, idxAddr, E.load, E.store, binO, isC, bin, ibin, sbin, una, isShift, okCell, packV, lenV, blt, fnV, asArg, snapV, snapS, snapP, snapC, snapX, flatV, flatT, openK, layBack, allT, allZ, mkS, srcOf0, unN, idxV, nilEq, give, tupV, mkEnv, extV, pickV, LVS, OVS, LTS, TYS, PMS, pmT, OWS, ownT, GHS, ghT, DMS, dmT, Int.reduceToNat, Nat.reduceGT, ↓reduceIte, Nat.reduceAdd, Nat.reduceMul, Nat.reduceSub, Nat.reduceEqDiff, Nat.reduceLeDiff, Nat.reduceLT, Nat.reduceBEq, Int.reduceBEq, Int.reduceBNe, Int.reduceEq, Int.reduceLT, Int.reduceLE, Int.reduceGT, Int.reduceNeg, reduceCtorEq, selK_some, selK_none, bltO, brwK, brwA, brwB, sliceO, mkO, appO, appS, ghOne, ghAt, ghCells, fld1, unf1, setC, oc, oTs, oT, rowT, rowT.rowTs, rowB, isL, Bool.not_false, Bool.true_and, Bool.and_true, Bool.and_self, List.flatMap_append, List.map_append, List.set_cons_zero, List.set_cons_succ, Int.cast_ofNat_Int, getE_zero, getE_one, getE_two, Option.isSome_none, c, c0, c00, if_true, Int.toNat_natCast, hg1, hs1, hA, hR, hB, hRB, wrap_in, IH, rch3]
def BaR (kd : Bool) (x : LGraph) : Prop := callPure (EV Try.prog pol) 27 [.agg (x.enc.map .t), .t (.bool kd)] = some (.agg ((LGraph.mk x.top (x.packs.map (bareP kd))).enc.map .t))
theorem c_baR (kd : Bool) (x : LGraph) (ho : x.bulk ≤ 1048576) : BaR kd x := by
  obtain ⟨top, packs⟩ := x
  simp only [LGraph.bulk] at ho
  have hb : ∀ c ∈ packs, c.bulk ≤ 1048576 := fun c hc => by have := LPack.bulks_mem hc; omega
  have ht2 : (strs top).take top.length = strs top := by rw [← strs_len top]; simp
  cases packs with
  | nil =>
    have hcp := c_cpGR_nil top (by omega)
    have L : EV Try.prog pol (.loop 27 58 0 [.t (.bool kd), .ptr 0 0 0, .ptr 1 0 0, .t (.int .i64 0)] [.vs 2 [zG], .vs 2 [[.sl 2 0 top.length none, .nil 6]], .ts 1 (strs top)])
        = some (.loop (.exit 0) [.ptr 0 0 0, .ptr 1 0 0] [.vs 2 [zG], .vs 2 [[.sl 2 0 top.length none, .nil 6]], .ts 1 (strs top)]) := by
      simp only [zG]
      refine loop_eq Try.func27 rfl rfl ?_
      simp (disch := ((try simp only [List.length_cons, List.length_append, List.length_nil, List.length_map]); omega)) only [↓GO, ↓DRW, GA, ren, renB, footX, refs, cellsV, cst, cstAt, nilC, idxAddr, E.load, E.store, binO, isC, bin, ibin, sbin, una, isShift, okCell, packV, lenV, blt, fnV, asArg, snapV, snapS, snapP, snapC, snapX, flatV, flatT, openK, layBack, allT, allZ, mkS, srcOf0, unN, idxV, nilEq, give, tupV, mkEnv, extV, pickV, LVS, OVS, LTS, TYS, PMS, pmT, OWS, ownT, GHS, ghT, DMS, dmT, Int.reduceToNat, Nat.reduceGT, ↓reduceIte, Nat.reduceAdd, Nat.reduceMul, Nat.reduceSub, Nat.reduceEqDiff, Nat.reduceLeDiff, Nat.reduceLT, Nat.reduceBEq, Int.reduceBEq, Int.reduceBNe, Int.reduceEq, Int.reduceLT, Int.reduceLE, Int.reduceGT, Int.reduceNeg, reduceCtorEq, Int.cast_ofNat_Int, getE_zero, getE_one, getE_two, Option.isSome_none, rch3, Int.natCast_zero]
    simp only [BaR, LGraph.enc, LPack.encs, List.map_cons, List.map_nil, zG] at hcp L ⊢
    apply eq_call
    refine call_eq rfl Try.func27 rfl (by kernel_rfl) ?_
    unfold Try.f27
    simp (disch := ((try simp only [List.length_cons, List.length_append, List.length_nil, List.length_map]); omega)) only [↓GO, ↓DRW, GA, ren, renB, footX, refs, cellsV, cst, cstAt, nilC, idxAddr, E.load, E.store, binO, isC, bin, ibin, sbin, una, isShift, okCell, packV, lenV, blt, fnV, asArg, snapV, snapS, snapP, snapC, snapX, flatV, flatT, openK, layBack, allT, allZ, mkS, srcOf0, unN, idxV, nilEq, give, tupV, mkEnv, extV, pickV, LVS, OVS, LTS, TYS, PMS, pmT, OWS, ownT, GHS, ghT, DMS, dmT, Int.reduceToNat, Nat.reduceGT, ↓reduceIte, Nat.reduceAdd, Nat.reduceMul, Nat.reduceSub, Nat.reduceEqDiff, Nat.reduceLeDiff, Nat.reduceLT, Nat.reduceBEq, Int.reduceBEq, Int.reduceBNe, Int.reduceEq, Int.reduceLT, Int.reduceLE, Int.reduceGT, Int.reduceNeg, reduceCtorEq, Int.cast_ofNat_Int, getE_zero, getE_one, getE_two, Option.isSome_none, hcp, L, ht2, rch3]
  | cons p rest =>
    have hcp := c_cpGR_cons top p rest (by omega) (by omega) hb
    have L := l_bareR kd top (p :: rest) (by omega) (p :: rest) [] rfl
    have ht : (LPack.encs ((p :: rest).map (bareP kd))).take (p :: rest).length = LPack.encs ((p :: rest).map (bareP kd)) := List.take_of_length_le (by rw [LPack.encs_len, List.length_map]; exact Nat.le_refl _)
    simp only [List.map_nil, show LPack.encs [] = [] from rfl, List.nil_append, List.length_nil, Int.natCast_zero] at L
    generalize hcs : p :: rest = cs at *
    simp only [BaR, LGraph.enc, List.map_cons, List.map_nil, zG] at hcp L ⊢
    generalize cs.map (bareP kd) = cs' at *
    apply eq_call
    refine call_eq rfl Try.func27 rfl (by kernel_rfl) ?_
    unfold Try.f27
    simp (disch := ((try simp only [List.length_cons, List.length_append, List.length_nil, List.length_map]); omega)) only [↓GO, ↓DRW, GA, ren, renB, footX, refs, cellsV, cst, cstAt, nilC, idxAddr, E.load, E.store, binO, isC, bin, ibin, sbin, una, isShift, okCell, packV, lenV, blt, fnV, asArg, snapV, snapS, snapP, snapC, snapX, flatV, flatT, openK, layBack, allT, allZ, mkS, srcOf0, unN, idxV, nilEq, give, tupV, mkEnv, extV, pickV, LVS, OVS, LTS, TYS, PMS, pmT, OWS, ownT, GHS, ghT, DMS, dmT, Int.reduceToNat, Nat.reduceGT, ↓reduceIte, Nat.reduceAdd, Nat.reduceMul, Nat.reduceSub, Nat.reduceEqDiff, Nat.reduceLeDiff, Nat.reduceLT, Nat.reduceBEq, Int.reduceBEq, Int.reduceBNe, Int.reduceEq, Int.reduceLT, Int.reduceLE, Int.reduceGT, Int.reduceNeg, reduceCtorEq, Int.cast_ofNat_Int, getE_zero, getE_one, getE_two, Option.isSome_none, hcp, L, ht, ht2, rch3]
theorem c_baI_nil (kd : Bool) (top : List Str) (hkl : top.length ≤ 1048576) :
    EV Try.prog pol (.callO false 29 [.agg [.t (.list 1 (strs top)), .t (.list 6 [])], .t (.bool kd)] []) = some (.call (.agg [.sl 0 0 top.length none, .nil 6]) [.ts 1 (strs top)]) := by
  have hcp := c_cpGI_nil top hkl
  have L : EV Try.prog pol (.loop 29 58 0 [.t (.bool kd), .ptr 0 0 0, .ptr 1 0 0, .t (.int .i64 0), .t (.int .i64 0)] [.vs 2 [zG], .vs 2 [[.sl 2 0 top.length none, .nil 6]], .ts 1 (strs top)])
      = some (.loop (.exit 0) [.ptr 0 0 0, .ptr 1 0 0] [.vs 2 [zG], .vs 2 [[.sl 2 0 top.length none, .nil 6]], .ts 1 (strs top)]) := by
    simp only [zG]
    refine loop_eq Try.func29 rfl rfl ?_
    simp (disch := ((try simp only [List.length_cons, List.length_append, List.length_nil, List.length_map]); omega)) only [↓GO, ↓DRW, GA, ren, renB, footX, refs, cellsV, cst, cstAt, nilC, idxAddr, E.load, E.store, binO, isC, bin, ibin, sbin, una, isShift, okCell, packV, lenV, blt, fnV, asArg, snapV, snapS, snapP, snapC, snapX, flatV, flatT, openK, layBack, allT, allZ, mkS, srcOf0, unN, idxV, nilEq, give, tupV, mkEnv, extV, pickV, LVS, OVS, LTS, TYS, PMS, pmT, OWS, ownT, GHS, ghT, DMS, dmT, Int.reduceToNat, Nat.reduceGT, ↓reduceIte, Nat.reduceAdd, Nat.reduceMul, Nat.reduceSub, Nat.reduceEqDiff, Nat.reduceLeDiff, Nat.reduceLT, Nat.reduceBEq, Int.reduceBEq, Int.reduceBNe, Int.reduceEq, Int.reduceLT, Int.reduceLE, Int.reduceGT, Int.reduceNeg, reduceCtorEq, selK_some, selK_none, bltO, brwK, brwA, brwB, sliceO, mkO, appO, appS, ghOne, ghAt, ghCells, fld1, unf1, setC, oc, oTs, oT, rowT, rowT.rowTs, rowB, isL, Bool.not_false, Bool.true_and, Bool.and_true, Bool.and_self, List.flatMap_append, List.map_append, List.set_cons_zero, List.set_cons_succ, Int.cast_ofNat_Int, getE_zero, getE_one, getE_two, Option.isSome_none, rch3]
  simp only [zG] at L
  refine callO_eq Try.func29 rfl (by kernel_rfl) ?_
  unfold Try.f29
  simp (disch := ((try simp only [List.length_cons, List.length_append, List.length_nil, List.length_map]); omega)) only [↓GO, ↓DRW, GA, ren, renB, footX, refs, cellsV, cst, cstAt, nilC, idxAddr, E.load, E.store, binO, isC, bin, ibin, sbin, una, isShift, okCell, packV, lenV, blt, fnV, asArg, snapV, snapS, snapP, snapC, snapX, flatV, flatT, openK, layBack, allT, allZ, mkS, srcOf0, unN, idxV, nilEq, give, tupV, mkEnv, extV, pickV, LVS, OVS, LTS, TYS, PMS, pmT, OWS, ownT, GHS, ghT, DMS, dmT, Int.reduceToNat, Nat.reduceGT, ↓reduceIte, Nat.reduceAdd, Nat.reduceMul, Nat.reduceSub, Nat.reduceEqDiff, Nat.reduceLeDiff, Nat.reduceLT, Nat.reduceBEq, Int.reduceBEq, Int.reduceBNe, Int.reduceEq, Int.reduceLT, Int.reduceLE, Int.reduceGT, Int.reduceNeg, reduceCtorEq, selK_some, selK_none, bltO, brwK, brwA, brwB, sliceO, mkO, appO, appS, ghOne, ghAt, ghCells, fld1, unf1, setC, oc, oTs, oT, rowT, rowT.rowTs, rowB, isL, Bool.not_false, Bool.true_and, Bool.and_true, Bool.and_self, List.flatMap_append, List.map_append, List.set_cons_zero, List.set_cons_succ, Int.cast_ofNat_Int, getE_zero, getE_one, getE_two, Option.isSome_none, hcp, L, Int.natCast_zero, rch3]
theorem c_baI_cons (kd : Bool) (top : List Str) (p : LPack) (rest : List LPack) (hkl : top.length ≤ 1048576) (hl : (p :: rest).length ≤ 1048576) (hb : ∀ c ∈ p :: rest, c.bulk ≤ 1048576) :
    EV Try.prog pol (.callO false 29 [.agg [.t (.list 1 (strs top)), .t (.list 6 (LPack.encs (p :: rest)))], .t (.bool kd)] []) = some (.call (.agg [.sl 0 0 top.length none, .sl 1 0 (p :: rest).length none]) [.ts 1 (strs top), .vs 6 (ocE (LPack.encs ((p :: rest).map (bareP kd))))]) := by
  have hcp := c_cpGI_cons top p rest hkl hl hb
  have L := l_bareI kd top (p :: rest) (by omega) (p :: rest) [] rfl
  simp only [List.map_nil, show ocE (LPack.encs []) = [] from rfl, List.nil_append, List.length_nil, Int.natCast_zero] at L
  generalize hcs : p :: rest = cs at *
  generalize cs.map (bareP kd) = cs' at *
  simp only [zG] at L
  refine callO_eq Try.func29 rfl (by kernel_rfl) ?_
  unfold Try.f29
  simp (disch := ((try simp only [List.length_cons, List.length_append, List.length_nil, List.length_map]); omega)) only [↓GO, ↓DRW, GA, ren, renB, footX, refs, cellsV, cst, cstAt, nilC, idxAddr, E.load, E.store, binO, isC, bin, ibin, sbin, una, isShift, okCell, packV, lenV, blt, fnV, asArg, snapV, snapS, snapP, snapC, snapX, flatV, flatT, openK, layBack, allT, allZ, mkS, srcOf0, unN, idxV, nilEq, give, tupV, mkEnv, extV, pickV, LVS, OVS, LTS, TYS, PMS, pmT, OWS, ownT, GHS, ghT, DMS, dmT, Int.reduceToNat, Nat.reduceGT, ↓reduceIte, Nat.reduceAdd, Nat.reduceMul, Nat.reduceSub, Nat.reduceEqDiff, Nat.reduceLeDiff, Nat.reduceLT, Nat.reduceBEq, Int.reduceBEq, Int.reduceBNe, Int.reduceEq, Int.reduceLT, Int.reduceLE, Int.reduceGT, Int.reduceNeg, reduceCtorEq, selK_some, selK_none, bltO, brwK, brwA, brwB, sliceO, mkO, appO, appS, ghOne, ghAt, ghCells, fld1, unf1, setC, oc, oTs, oT, rowT, rowT.rowTs, rowB, isL, Bool.not_false, Bool.true_and, Bool.and_true, Bool.and_self, List.flatMap_append, List.map_append, List.set_cons_zero, List.set_cons_succ, Int.cast_ofNat_Int, getE_zero, getE_one, getE_two, Option.isSome_none, hcp, L, ocE_ren, ocE_refs, ocE_len, LPack.encs_len, rch3]
end Go.Proofs.Ytcphjdfmjhijkaa
/- The law of Bare. Conditions: those of each lemma. -/
namespace Go.Proofs.Ytcphjdfmjhijkaa
open E
set_option linter.unusedSimpArgs false
set_option linter.unusedVariables false
set_option maxRecDepth 100000
theorem take_st (ks : List Str) (n : Nat) (h : n = ks.length) : (strs ks).take n = strs ks := List.take_of_length_le (by rw [strs_len]; omega)
theorem take_op (cs : List LPack) (n : Nat) (h : n = cs.length) : (ocE (LPack.encs cs)).take n = ocE (LPack.encs cs) := List.take_of_length_le (by rw [ocE_len, LPack.encs_len]; omega)
set_option maxHeartbeats 16000000 in
theorem c_lawBare_cons (kd : Bool) (top : List Str) (p : LPack) (rest : List LPack) (ho : (LGraph.mk top (p :: rest)).ok) (hb : (LGraph.mk top (p :: rest)).bulk ≤ 1048576) :
    EV Try.prog pol (.call 6 [.agg ((LGraph.mk top (p :: rest)).enc.map .t), .t (.bool kd)] []) = some (.call (.t (.bool true)) []) := by
  have hsz := c_szGraph (LGraph.mk top (p :: rest)) ho 1048576 (by omega) (by omega)
  rw [left_eq (by omega)] at hsz
  have c2 : decide (1048576 - ((LGraph.mk top (p :: rest)).bulk : Int) < 0) = false := by apply decide_eq_false; omega
  have hto := c_toGF (LGraph.mk top (p :: rest)) hb
  have htO := c_toGO (LGraph.mk top (p :: rest)) hb
  have heqT := c_eqGraph (LGraph.mk top (p :: rest)) (by omega)
  have hR := c_baR kd (LGraph.mk top (p :: rest)) hb
  have hb' := hb
  simp only [LGraph.bulk] at hb'
  have hI := c_baI_cons kd top p rest (by omega) (by omega) (fun c hc => by have := LPack.bulks_mem hc; omega)
  have hbr := bareP_bulks kd (p :: rest)
  have hl' := bareP_len kd (p :: rest)
  generalize hcs : p :: rest = cs at *
  unfold BaR at hR
  have heqR := c_eqGraph (LGraph.mk top (cs.map (bareP kd))) (by simp only [LGraph.bulk]; omega)
  generalize hcs' : cs.map (bareP kd) = cs' at *
  have hcn := cntPs_le cs
  have hcn' := cntPs_le cs'
  have hM1 := c_markG top cs (by omega) (by omega) top.length cs.length rfl rfl (some top.length) (some cs.length) 1 (by omega)
  have hM2 := c_markG top cs' (by omega) (by omega) top.length cs.length rfl hl'.symm none none 1 (by omega)
  have hH := c_heldG top cs' (by omega) (by omega) 1 (by omega)
  rw [show ((1 : Nat) : Int) = 1 from rfl] at hM1 hM2 hH
  have g1 : decide (((1 + top.length + cntPs cs : Nat) : Int) < 0) = false := by apply decide_eq_false; omega
  have g2 : decide (((1 + top.length + cntPs cs' : Nat) : Int) < 0) = false := by apply decide_eq_false; omega
  have t1 := take_st top top.length rfl
  have t2 := take_op cs cs.length rfl
  have t4 := take_op cs' cs.length hl'.symm
  have t5 := take_st (mkS top.length 1) top.length (mkS_len _ _).symm
  have t6 := take_op (mkPks (1 + top.length) cs') cs.length (by rw [mkPks_len]; exact hl'.symm)
  have f1 := flatE_strs top
  have f2 := rowB_packs cs'
  unfold EqGraph at heqT heqR
  unfold ToGO at htO
  unfold ToGF at hto
  clear ho hb hb' hbr hcs hcn hcn'
  generalize (LGraph.mk top cs).bulk = bt at *
  simp only [LGraph.enc, List.map_cons, List.map_nil, hcs'] at hsz hto htO heqT heqR hR hI hM1 hM2 hH ⊢
  generalize cntPs cs = m0 at *
  generalize cntPs cs' = m1 at *
  generalize mkPks (1 + top.length) cs' = mc1 at *
  generalize mkPks (1 + top.length) cs = mc at *
  generalize mkS top.length 1 = ms at *
  refine call_eq rfl Try.func6 rfl (by kernel_rfl) ?_
  unfold Try.f6
  simp (disch := ((try simp only [List.length_cons, List.length_append, List.length_nil, List.length_map]); omega)) only [↓GO, ↓DRW, GA, ren, renB, footX, refs, cellsV, cst, cstAt, nilC, idxAddr, E.load, E.store, binO, isC, bin, ibin, sbin, una, isShift, okCell, packV, lenV, blt, fnV, asArg, snapV, snapS, snapP, snapC, snapX, flatV, flatT, openK, layBack, allT, allZ, mkS, srcOf0, unN, idxV, nilEq, give, tupV, mkEnv, extV, pickV, LVS, OVS, LTS, TYS, PMS, pmT, OWS, ownT, GHS, ghT, DMS, dmT, Int.reduceToNat, Nat.reduceGT, ↓reduceIte, Nat.reduceAdd, Nat.reduceMul, Nat.reduceSub, Nat.reduceEqDiff, Nat.reduceLeDiff, Nat.reduceLT, Nat.reduceBEq, Int.reduceBEq, Int.reduceBNe, Int.reduceEq, Int.reduceLT, Int.reduceLE, Int.reduceGT, Int.reduceNeg, reduceCtorEq, selK_some, selK_none, bltO, brwK, brwA, brwB, sliceO, mkO, appO, appS, ghOne, ghAt, ghCells, fld1, unf1, setC, oc, oTs, oT, rowT, rowT.rowTs, rowB, isL, Bool.not_false, Bool.true_and, Bool.and_true, Bool.and_self, List.flatMap_append, List.map_append, List.set_cons_zero, List.set_cons_succ, Int.cast_ofNat_Int, getE_zero, getE_one, getE_two, Option.isSome_none, hsz, c2, hto, htO, heqT, heqR, hR, hI, hM1, hM2, hH, g1, g2, t1, t2, t4, t5, t6, f1, f2, List.drop_zero, snapE_oc, ocE_ren, ocE_refs, bne_self_eq_false, rch3]
set_option maxHeartbeats 16000000 in
theorem c_lawBare_nil (kd : Bool) (top : List Str) (ho : (LGraph.mk top []).ok) (hb : (LGraph.mk top []).bulk ≤ 1048576) :
    EV Try.prog pol (.call 6 [.agg ((LGraph.mk top []).enc.map .t), .t (.bool kd)] []) = some (.call (.t (.bool true)) []) := by
  have hsz := c_szGraph (LGraph.mk top []) ho 1048576 (by omega) (by omega)
  rw [left_eq (by omega)] at hsz
  have c2 : decide (1048576 - ((LGraph.mk top []).bulk : Int) < 0) = false := by apply decide_eq_false; omega
  have hto := c_toGF (LGraph.mk top []) hb
  have htO := c_toGO (LGraph.mk top []) hb
  have heqT := c_eqGraph (LGraph.mk top []) (by omega)
  have hR := c_baR kd (LGraph.mk top []) hb
  have hb' := hb
  simp only [LGraph.bulk] at hb'
  have hI := c_baI_nil kd top (by omega)
  unfold BaR at hR
  have hM1 := c_markG top [] (by omega) (by simp [LPack.bulks]) top.length 0 rfl rfl (some top.length) (some 0) 1 (by simp only [cntPs]; omega)
  have hM2 := c_markGn top (by omega) top.length rfl none 1 (by omega)
  have hH := c_heldG top [] (by omega) (by simp [LPack.bulks]) 1 (by simp only [cntPs]; omega)
  rw [show ((1 : Nat) : Int) = 1 from rfl] at hM1 hM2 hH
  have g1 : decide (((1 + top.length : Nat) : Int) < 0) = false := by apply decide_eq_false; omega
  have t1 := take_st top top.length rfl
  have t5 := take_st (mkS top.length 1) top.length (mkS_len _ _).symm
  have f1 := flatE_strs top
  unfold EqGraph at heqT
  unfold ToGO at htO
  unfold ToGF at hto
  clear ho hb hb'
  generalize (LGraph.mk top []).bulk = bt at *
  simp only [LGraph.enc, LPack.encs, ocE, mkPks, cntPs, Nat.add_zero, List.length_nil, List.map_cons, List.map_nil] at hsz hto htO heqT hR hI hM1 hM2 hH ⊢
  generalize mkS top.length 1 = ms at *
  refine call_eq rfl Try.func6 rfl (by kernel_rfl) ?_
  unfold Try.f6
  simp (disch := ((try simp only [List.length_cons, List.length_append, List.length_nil, List.length_map]); omega)) only [↓GO, ↓DRW, GA, ren, renB, footX, refs, cellsV, cst, cstAt, nilC, idxAddr, E.load, E.store, binO, isC, bin, ibin, sbin, una, isShift, okCell, packV, lenV, blt, fnV, asArg, snapV, snapS, snapP, snapC, snapX, flatV, flatT, openK, layBack, allT, allZ, mkS, srcOf0, unN, idxV, nilEq, give, tupV, mkEnv, extV, pickV, LVS, OVS, LTS, TYS, PMS, pmT, OWS, ownT, GHS, ghT, DMS, dmT, Int.reduceToNat, Nat.reduceGT, ↓reduceIte, Nat.reduceAdd, Nat.reduceMul, Nat.reduceSub, Nat.reduceEqDiff, Nat.reduceLeDiff, Nat.reduceLT, Nat.reduceBEq, Int.reduceBEq, Int.reduceBNe, Int.reduceEq, Int.reduceLT, Int.reduceLE, Int.reduceGT, Int.reduceNeg, reduceCtorEq, selK_some, selK_none, bltO, brwK, brwA, brwB, sliceO, mkO, appO, appS, ghOne, ghAt, ghCells, fld1, unf1, setC, oc, oTs, oT, rowT, rowT.rowTs, rowB, isL, Bool.not_false, Bool.true_and, Bool.and_true, Bool.and_self, List.flatMap_append, List.map_append, List.set_cons_zero, List.set_cons_succ, Int.cast_ofNat_Int, getE_zero, getE_one, getE_two, Option.isSome_none, hsz, c2, hto, htO, heqT, hR, hI, hM1, hM2, hH, g1, t1, t5, f1, List.drop_zero, bne_self_eq_false, rch3]
theorem c_lawBare (kd : Bool) (x : LGraph) (ho : x.ok) : EV Try.prog pol (.call 6 [.agg (x.enc.map .t), .t (.bool kd)] []) = some (.call (.t (.bool true)) []) := by
  obtain ⟨top, packs⟩ := x
  by_cases hb : (LGraph.mk top packs).bulk ≤ 1048576
  · cases packs with
    | nil => exact c_lawBare_nil kd top ho hb
    | cons p rest => exact c_lawBare_cons kd top p rest ho hb
  · have hsz := c_szGraph (LGraph.mk top packs) ho 1048576 (by omega) (by omega)
    have hle : left 1048576 (LGraph.mk top packs).bulk = -1 := if_pos (by omega)
    rw [hle] at hsz
    clear hb hle ho
    simp only [LGraph.enc, List.map_cons, List.map_nil] at hsz ⊢
    refine call_eq rfl Try.func6 rfl (by kernel_rfl) ?_
    unfold Try.f6
    simp (disch := ((try simp only [List.length_cons, List.length_append, List.length_nil, List.length_map]); omega)) only [↓GO, ↓DRW, GA, ren, renB, footX, refs, cellsV, cst, cstAt, nilC, idxAddr, E.load, E.store, binO, isC, bin, ibin, sbin, una, isShift, okCell, packV, lenV, blt, fnV, asArg, snapV, snapS, snapP, snapC, snapX, flatV, flatT, openK, layBack, allT, allZ, mkS, srcOf0, unN, idxV, nilEq, give, tupV, mkEnv, extV, pickV, LVS, OVS, LTS, TYS, PMS, pmT, OWS, ownT, GHS, ghT, DMS, dmT, Int.reduceToNat, Nat.reduceGT, ↓reduceIte, Nat.reduceAdd, Nat.reduceMul, Nat.reduceSub, Nat.reduceEqDiff, Nat.reduceLeDiff, Nat.reduceLT, Nat.reduceBEq, Int.reduceBEq, Int.reduceBNe, Int.reduceEq, Int.reduceLT, Int.reduceLE, Int.reduceGT, Int.reduceNeg, reduceCtorEq, selK_some, selK_none, bltO, brwK, brwA, brwB, sliceO, mkO, appO, appS, ghOne, ghAt, ghCells, fld1, unf1, setC, oc, oTs, oT, rowT, rowT.rowTs, rowB, isL, Bool.not_false, Bool.true_and, Bool.and_true, Bool.and_self, List.flatMap_append, List.map_append, List.set_cons_zero, List.set_cons_succ, Int.cast_ofNat_Int, getE_zero, getE_one, getE_two, Option.isSome_none, hsz]
end Go.Proofs.Ytcphjdfmjhijkaa
/- The seat's own facts: the conditions on the program. Conditions: none. -/
namespace Go.Proofs.Ytcphjdfmjhijkaa
open E
theorem Try.own : ownKnob Try.prog.godebug = none := by kernel_rfl
theorem Try.laidOut : laidOutB Try.prog = true := by kernel_rfl
theorem Try.kids : Kids Try.prog (· < Try.prog.types.size) := kids_rows (by kernel_rfl) (by kernel_rfl)
theorem Try.full : ∀ t e, t < Try.prog.types.size → Try.prog.underlying t = some (.slice e) → 0 < Try.prog.cellsOf e := slices_full_of Try.prog (by kernel_rfl)
end Go.Proofs.Ytcphjdfmjhijkaa
/- What the laws' arguments are: Sum, Pack, Graph. Conditions: those of each lemma. -/
namespace Go.Proofs.Ytcphjdfmjhijkaa
open E
set_option linter.unusedSimpArgs false
set_option linter.unusedVariables false
set_option maxRecDepth 100000

theorem WT_strs {cs : List T} (h : WT Try.prog 22 cs) : ∃ ks, cs = [.list 1 (strs ks)] ∧ ks.length ≤ 9223372036854775807 ∧ ∀ x ∈ ks, x.length ≤ 9223372036854775807 := by
  obtain ⟨es, e1, e2, e3⟩ := h.inv_list Try.underlying22
  have k0 : Try.prog.cellsOf 9 = 1 := by kernel_rfl
  have key : ∀ es : List (List T), (∀ c ∈ es, WT Try.prog 9 c) → ∃ ks, es = strs ks ∧ ∀ x ∈ ks, x.length ≤ 9223372036854775807 := fun es => by
    induction es with
    | nil => exact fun _ => ⟨[], rfl, by simp⟩
    | cons c es ih =>
      intro h
      obtain ⟨ks, a1, a2⟩ := ih fun c' hc => h c' (by simp [hc])
      obtain ⟨l, a3, a4⟩ := (h c (by simp)).inv_str Try.underlying9
      exact ⟨l :: ks, by simp [strs, a1, a3], by simpa using ⟨a4, a2⟩⟩
  obtain ⟨ks, a1, a2⟩ := key es e3
  subst a1
  exact ⟨ks, by rw [e1, k0], by rw [strs_len] at e2; exact e2, a2⟩
theorem WT_Sum {cs : List T} (h : WT Try.prog 89 cs) : ∃ x : LSum, cs = x.enc ∧ x.ok := by
  obtain ⟨hl, hs⟩ := h.inv_struct Try.underlying89
  have k0 : Try.prog.cellsOf 89 = 2 := by kernel_rfl
  have k1 : Try.prog.cellsOf 9 = 1 := by kernel_rfl
  rw [k0] at hl
  match cs, hl with
  | [y0, y1], _ =>
    simp [k1] at hs
    obtain ⟨s0, s1⟩ := hs
    obtain ⟨v0, e0, o0⟩ := s0.inv_str Try.underlying9
    obtain ⟨v1, e1, o1⟩ := s1.inv_str Try.underlying9
    simp at e0 e1
    subst e0 e1
    exact ⟨⟨v0, v1⟩, rfl, ⟨o0, o1⟩⟩
theorem WT_SumS {cs : List T} (h : WT Try.prog 75 cs) : ∃ l : List LSum, cs = [.list 2 (LSum.encs l)] ∧ l.length ≤ 9223372036854775807 ∧ ∀ y ∈ l, y.ok := by
  obtain ⟨es, e1, e2, e3⟩ := h.inv_list Try.underlying75
  have k0 : Try.prog.cellsOf 89 = 2 := by kernel_rfl
  have key : ∀ es : List (List T), (∀ c ∈ es, WT Try.prog 89 c) → ∃ l : List LSum, es = LSum.encs l ∧ ∀ y ∈ l, y.ok := fun es => by
    induction es with
    | nil => exact fun _ => ⟨[], rfl, by simp⟩
    | cons c es ih =>
      intro h
      obtain ⟨l, a1, a2⟩ := ih fun c' hc => h c' (by simp [hc])
      obtain ⟨x, a3, a4⟩ := WT_Sum (h c (by simp))
      exact ⟨x :: l, by simp [LSum.encs, a1, a3], by simpa using ⟨a4, a2⟩⟩
  obtain ⟨l, a1, a2⟩ := key es e3
  subst a1
  exact ⟨l, by rw [e1, k0], by rw [LSum.encs_len] at e2; exact e2, a2⟩
theorem WT_Pack {cs : List T} (h : WT Try.prog 77 cs) : ∃ x : LPack, cs = x.enc ∧ x.ok := by
  obtain ⟨hl, hs⟩ := h.inv_struct Try.underlying77
  have k0 : Try.prog.cellsOf 77 = 6 := by kernel_rfl
  have k1 : Try.prog.cellsOf 75 = 1 := by kernel_rfl
  have k2 : Try.prog.cellsOf 22 = 1 := by kernel_rfl
  have k3 : Try.prog.cellsOf 4 = 1 := by kernel_rfl
  have k4 : Try.prog.cellsOf 9 = 1 := by kernel_rfl
  rw [k0] at hl
  match cs, hl with
  | [y0, y1, y2, y3, y4, y5], _ =>
    simp [k1, k2, k3, k4] at hs
    obtain ⟨s0, s1, s2, s3, s4, s5⟩ := hs
    obtain ⟨v0, e0, o0⟩ := s0.inv_str Try.underlying9
    obtain ⟨v1, e1, o1⟩ := s1.inv_str Try.underlying9
    obtain ⟨v2, e2, o2⟩ := s2.inv_str Try.underlying9
    obtain ⟨v3, e3, o3, o3'⟩ := WT_SumS s3
    obtain ⟨v4, e4⟩ := s4.inv_bool Try.underlying4
    obtain ⟨v5, e5, o5, o5'⟩ := WT_strs s5
    simp at e0 e1 e2 e3 e4 e5
    subst e0 e1 e2 e3 e4 e5
    exact ⟨⟨v0, v1, v2, v3, v4, v5⟩, rfl, ⟨o0, o1, o2, o3, o3', o5, o5'⟩⟩
theorem WT_PackS {cs : List T} (h : WT Try.prog 47 cs) : ∃ l : List LPack, cs = [.list 6 (LPack.encs l)] ∧ l.length ≤ 9223372036854775807 ∧ ∀ y ∈ l, y.ok := by
  obtain ⟨es, e1, e2, e3⟩ := h.inv_list Try.underlying47
  have k0 : Try.prog.cellsOf 77 = 6 := by kernel_rfl
  have key : ∀ es : List (List T), (∀ c ∈ es, WT Try.prog 77 c) → ∃ l : List LPack, es = LPack.encs l ∧ ∀ y ∈ l, y.ok := fun es => by
    induction es with
    | nil => exact fun _ => ⟨[], rfl, by simp⟩
    | cons c es ih =>
      intro h
      obtain ⟨l, a1, a2⟩ := ih fun c' hc => h c' (by simp [hc])
      obtain ⟨x, a3, a4⟩ := WT_Pack (h c (by simp))
      exact ⟨x :: l, by simp [LPack.encs, a1, a3], by simpa using ⟨a4, a2⟩⟩
  obtain ⟨l, a1, a2⟩ := key es e3
  subst a1
  exact ⟨l, by rw [e1, k0], by rw [LPack.encs_len] at e2; exact e2, a2⟩
theorem WT_Graph {cs : List T} (h : WT Try.prog 49 cs) : ∃ x : LGraph, cs = x.enc ∧ x.ok := by
  obtain ⟨hl, hs⟩ := h.inv_struct Try.underlying49
  have k0 : Try.prog.cellsOf 49 = 2 := by kernel_rfl
  have k1 : Try.prog.cellsOf 47 = 1 := by kernel_rfl
  have k2 : Try.prog.cellsOf 22 = 1 := by kernel_rfl
  rw [k0] at hl
  match cs, hl with
  | [y0, y1], _ =>
    simp [k1, k2] at hs
    obtain ⟨s0, s1⟩ := hs
    obtain ⟨v0, e0, o0, o0'⟩ := WT_strs s0
    obtain ⟨v1, e1, o1, o1'⟩ := WT_PackS s1
    simp at e0 e1
    subst e0 e1
    exact ⟨⟨v0, v1⟩, rfl, ⟨o0, o0', o1, o1'⟩⟩
end Go.Proofs.Ytcphjdfmjhijkaa

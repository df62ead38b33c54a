/- Joined: M4 M5 M6 M7 M8 M9 B1 B2. Conditions: those of each lemma. -/
import Derived.Test.YtcphjdfmjhijkaaXI
set_option linter.unusedVariables false
set_option linter.unusedSimpArgs false
namespace Go.Proofs.Ytcphjdfmjhijkaa
open E
set_option linter.unusedSimpArgs false
set_option linter.unusedVariables false
set_option maxRecDepth 100000
theorem strs_nil' : strs [] = [] := rfl
theorem c_mkT (k : Nat) (h : k ≤ 1099511627776) : callPure (EV Try.prog pol) 35 [.t (.int .i64 (k : Int))] = some (.t (.str (mkT k))) := by
  have L := l_mkT k k [] (Nat.le_refl _) (by omega) (by simp; omega)
  have hlen : (mkD k k []).length ≤ k := by
    have key : ∀ (n x : Nat) (out : Str), (mkD n x out).length ≤ n + out.length := fun n => by
      induction n with
      | zero => intro x out; simp [mkD]
      | succ n ih =>
        intro x out
        rw [mkD]
        split
        · omega
        · have := ih (x / 10) (UInt8.ofNat (48 + x % 10) :: out); simp only [List.length_cons] at this; omega
    have := key k k []; simpa using this
  unfold mkT
  by_cases h0 : k = 0
  · subst h0
    have c : decide (((0 : Nat) : Int) ≤ 0) = true := by decide
    rw [if_pos rfl]
    apply eq_call
    refine call_eq rfl Try.func35 rfl (by kernel_rfl) ?_
    unfold Try.f35
    simp (disch := ((try simp only [List.length_cons, List.length_append, List.length_nil, List.length_map]); omega)) only [↓GO, ↓DRW, GA, ren, renB, footX, refs, cellsV, cst, cstAt, nilC, idxAddr, E.load, E.store, binO, isC, bin, ibin, sbin, una, isShift, okCell, packV, lenV, blt, fnV, asArg, snapV, snapS, snapP, snapC, snapX, flatV, flatT, openK, layBack, allT, allZ, mkS, srcOf0, unN, idxV, nilEq, give, tupV, mkEnv, extV, pickV, LVS, OVS, LTS, TYS, PMS, pmT, OWS, ownT, GHS, ghT, DMS, dmT, Int.reduceToNat, Nat.reduceGT, ↓reduceIte, Nat.reduceAdd, Nat.reduceMul, Nat.reduceSub, Nat.reduceEqDiff, Nat.reduceLeDiff, Nat.reduceLT, Nat.reduceBEq, Int.reduceBEq, Int.reduceBNe, Int.reduceEq, Int.reduceLT, Int.reduceLE, Int.reduceGT, Int.reduceNeg, reduceCtorEq, Int.cast_ofNat_Int, getE_zero, getE_one, getE_two, Option.isSome_none, c, Int.natCast_zero]
  · have c : decide (((k : Nat) : Int) ≤ 0) = false := by apply decide_eq_false; omega
    rw [if_neg h0]
    generalize mkD k k [] = ms at *
    apply eq_call
    refine call_eq rfl Try.func35 rfl (by kernel_rfl) ?_
    unfold Try.f35
    simp (disch := ((try simp only [List.length_cons, List.length_append, List.length_nil, List.length_map]); omega)) only [↓GO, ↓DRW, GA, ren, renB, footX, refs, cellsV, cst, cstAt, nilC, idxAddr, E.load, E.store, binO, isC, bin, ibin, sbin, una, isShift, okCell, packV, lenV, blt, fnV, asArg, snapV, snapS, snapP, snapC, snapX, flatV, flatT, openK, layBack, allT, allZ, mkS, srcOf0, unN, idxV, nilEq, give, tupV, mkEnv, extV, pickV, LVS, OVS, LTS, TYS, PMS, pmT, OWS, ownT, GHS, ghT, DMS, dmT, Int.reduceToNat, Nat.reduceGT, ↓reduceIte, Nat.reduceAdd, Nat.reduceMul, Nat.reduceSub, Nat.reduceEqDiff, Nat.reduceLeDiff, Nat.reduceLT, Nat.reduceBEq, Int.reduceBEq, Int.reduceBNe, Int.reduceEq, Int.reduceLT, Int.reduceLE, Int.reduceGT, Int.reduceNeg, reduceCtorEq, Int.cast_ofNat_Int, getE_zero, getE_one, getE_two, Option.isSome_none, c, L, List.singleton_append, List.cons_append, List.nil_append, le_T]
def mkS : Nat → Nat → List Str
  | 0, _ => []
  | n + 1, k => mkT k :: mkS n (k + 1)
theorem mkS_len : ∀ n k, (mkS n k).length = n
  | 0, _ => rfl
  | n + 1, k => by rw [mkS, List.length_cons, mkS_len n (k + 1)]
theorem mkS_snoc : ∀ n k, mkS (n + 1) k = mkS n k ++ [mkT (k + n)]
  | 0, k => rfl
  | n + 1, k => by
    rw [mkS, mkS_snoc n (k + 1), mkS, List.cons_append, show k + 1 + n = k + (n + 1) by omega]
theorem l_markS (ks : List Str) (hl : ks.length ≤ 4194304) (cap : Option Nat) (k : Nat) (hk : k ≤ 1073741824) : ∀ (rest pre : List Str), ks = pre ++ rest →
    EV Try.prog pol (.loop 16 26 1 [.sl 0 0 ks.length cap, .t (.int .i64 ((k + pre.length : Nat) : Int)), .t (.int .i64 (pre.length : Int))] [.ts 1 (strs (mkS pre.length k) ++ strs rest)])
      = some (.loop (.exit 0) [.t (.int .i64 ((k + ks.length : Nat) : Int))] [.ts 1 (strs (mkS ks.length k))])
  | [], pre, hs => by
    have c : decide ((pre.length : Int) < (ks.length : Int)) = false := by simp [hs]
    have e : ks = pre := by simpa using hs
    simp only [strs_nil', List.append_nil]
    refine loop_eq Try.func16 rfl rfl ?_
    simp (disch := ((try simp only [List.length_cons, List.length_append, List.length_nil, List.length_map]); omega)) only [↓GO, ↓DRW, GA, ren, renB, footX, refs, cellsV, cst, cstAt, nilC, idxAddr, E.load, E.store, binO, isC, bin, ibin, sbin, una, isShift, okCell, packV, lenV, blt, fnV, asArg, snapV, snapS, snapP, snapC, snapX, flatV, flatT, openK, layBack, allT, allZ, mkS, srcOf0, unN, idxV, nilEq, give, tupV, mkEnv, extV, pickV, LVS, OVS, LTS, TYS, PMS, pmT, OWS, ownT, GHS, ghT, DMS, dmT, Int.reduceToNat, Nat.reduceGT, ↓reduceIte, Nat.reduceAdd, Nat.reduceMul, Nat.reduceSub, Nat.reduceEqDiff, Nat.reduceLeDiff, Nat.reduceLT, Nat.reduceBEq, Int.reduceBEq, Int.reduceBNe, Int.reduceEq, Int.reduceLT, Int.reduceLE, Int.reduceGT, Int.reduceNeg, reduceCtorEq, Int.cast_ofNat_Int, getE_zero, getE_one, getE_two, Option.isSome_none, c]
    rw [e]
  | x :: rest, pre, hs => by
    have c : decide ((pre.length : Int) < (ks.length : Int)) = true := by simp [hs]; omega
    have c0 : decide ((0 : Int) ≤ (pre.length : Int)) = true := by simp
    have hlen : pre.length + rest.length + 1 ≤ ks.length := by rw [hs]; simp; omega
    have hm := c_mkT (k + pre.length) (by omega)
    have IH := l_markS ks hl cap k hk rest (pre ++ [x]) (by rw [hs]; simp)
    rw [show (pre ++ [x]).length = pre.length + 1 by simp, mkS_snoc, show strs (mkS pre.length k ++ [mkT (k + pre.length)]) = strs (mkS pre.length k) ++ [[.str (mkT (k + pre.length))]] by simp [strs], List.append_assoc, List.cons_append, List.nil_append] at IH
    rw [show k + (pre.length + 1) = k + pre.length + 1 by omega] at IH
    have w : IntKind.i64.wrap (((k + pre.length : Nat) : Int) + 1) = ((k + pre.length + 1 : Nat) : Int) := by rw [wrap_in (by omega)]; omega
    have w2 : IntKind.i64.wrap ((pre.length : Int) + 1) = ((pre.length + 1 : Nat) : Int) := by rw [wrap_in (by omega)]; omega
    have hAl : (strs (mkS pre.length k)).length = pre.length := by rw [strs_len, mkS_len]
    rw [show strs (x :: rest) = [.str x] :: strs rest from rfl]
    have hg1 := fun y => mid_get (strs (mkS pre.length k)) (strs rest) y pre.length hAl
    have hs1 := fun y z => mid_set (strs (mkS pre.length k)) (strs rest) y z pre.length hAl
    clear hs
    generalize strs (mkS pre.length k) = A at *
    generalize mkT (k + pre.length) = mt at *
    generalize k + pre.length = kp at *
    refine loop_eq Try.func16 rfl rfl ?_
    simp (disch := ((try simp only [List.length_cons, List.length_append, List.length_nil, List.length_map]); omega)) only [↓GO, ↓DRW, GA, ren, renB, footX, refs, cellsV, cst, cstAt, nilC, idxAddr, E.load, E.store, binO, isC, bin, ibin, sbin, una, isShift, okCell, packV, lenV, blt, fnV, asArg, snapV, snapS, snapP, snapC, snapX, flatV, flatT, openK, layBack, allT, allZ, mkS, srcOf0, unN, idxV, nilEq, give, tupV, mkEnv, extV, pickV, LVS, OVS, LTS, TYS, PMS, pmT, OWS, ownT, GHS, ghT, DMS, dmT, Int.reduceToNat, Nat.reduceGT, ↓reduceIte, Nat.reduceAdd, Nat.reduceMul, Nat.reduceSub, Nat.reduceEqDiff, Nat.reduceLeDiff, Nat.reduceLT, Nat.reduceBEq, Int.reduceBEq, Int.reduceBNe, Int.reduceEq, Int.reduceLT, Int.reduceLE, Int.reduceGT, Int.reduceNeg, reduceCtorEq, Int.cast_ofNat_Int, getE_zero, getE_one, getE_two, Option.isSome_none, c, c0, if_true, Int.toNat_natCast, hm, hg1, hs1, w, w2, IH]
theorem c_markS (ks : List Str) (hl : ks.length ≤ 4194304) (cap : Option Nat) (k : Nat) (hk : k ≤ 1073741824) (n : Nat) (hn : n = ks.length) :
    EV Try.prog pol (.callO false 16 [.sl 0 0 n cap, .t (.int .i64 (k : Int))] [.ts 1 (strs ks)]) = some (.call (.t (.int .i64 ((k + ks.length : Nat) : Int))) [.ts 1 (strs (mkS ks.length k))]) := by
  subst hn
  have L := l_markS ks hl cap k hk ks [] rfl
  simp only [List.length_nil, Int.natCast_zero, mkS, strs_nil', List.nil_append, Nat.add_zero] at L
  refine callO_eq Try.func16 rfl (by kernel_rfl) ?_
  unfold Try.f16
  simp (disch := ((try simp only [List.length_cons, List.length_append, List.length_nil, List.length_map]); omega)) only [↓GO, ↓DRW, GA, ren, renB, footX, refs, cellsV, cst, cstAt, nilC, idxAddr, E.load, E.store, binO, isC, bin, ibin, sbin, una, isShift, okCell, packV, lenV, blt, fnV, asArg, snapV, snapS, snapP, snapC, snapX, flatV, flatT, openK, layBack, allT, allZ, mkS, srcOf0, unN, idxV, nilEq, give, tupV, mkEnv, extV, pickV, LVS, OVS, LTS, TYS, PMS, pmT, OWS, ownT, GHS, ghT, DMS, dmT, Int.reduceToNat, Nat.reduceGT, ↓reduceIte, Nat.reduceAdd, Nat.reduceMul, Nat.reduceSub, Nat.reduceEqDiff, Nat.reduceLeDiff, Nat.reduceLT, Nat.reduceBEq, Int.reduceBEq, Int.reduceBNe, Int.reduceEq, Int.reduceLT, Int.reduceLE, Int.reduceGT, Int.reduceNeg, reduceCtorEq, Int.cast_ofNat_Int, getE_zero, getE_one, getE_two, Option.isSome_none, L]
end Go.Proofs.Ytcphjdfmjhijkaa
/- Marks in trees. Conditions: those of each lemma. -/
namespace Go.Proofs.Ytcphjdfmjhijkaa
open E
set_option linter.unusedSimpArgs false
set_option linter.unusedVariables false
set_option maxRecDepth 100000
mutual
/-- how many marks a tree holds -/
def cntT : Tr → Nat
  | .mk _ _ _ ks cs => 3 + ks.length + cntTs cs
def cntTs : List Tr → Nat
  | [] => 0
  | c :: cs => cntT c + cntTs cs
end
mutual
def mkTr : Nat → Tr → Tr
  | k, .mk _ _ _ ks cs => .mk (k : Int) ((k + 1 : Nat) : Int) (mkT (k + 2)) (mkS ks.length (k + 3)) (mkTrs (k + 3 + ks.length) cs)
def mkTrs : Nat → List Tr → List Tr
  | _, [] => []
  | k, c :: cs => mkTr k c :: mkTrs (k + cntT c) cs
end
theorem mkTrs_len : ∀ (k : Nat) (cs : List Tr), (mkTrs k cs).length = cs.length
  | k, [] => by simp [mkTrs]
  | k, c :: cs => by simp [mkTrs, mkTrs_len _ cs]
theorem cnts_app : ∀ a b : List Tr, cntTs (a ++ b) = cntTs a + cntTs b
  | [], b => by simp [cntTs]
  | c :: a, b => by simp only [List.cons_append, cntTs, cnts_app a b]; omega
theorem mkTrs_app : ∀ (k : Nat) (a b : List Tr), mkTrs k (a ++ b) = mkTrs k a ++ mkTrs (k + cntTs a) b
  | k, [], b => by simp [mkTrs, cntTs]
  | k, c :: a, b => by
    simp only [List.cons_append, mkTrs, cntTs, mkTrs_app _ a b]
    rw [show k + cntT c + cntTs a = k + (cntT c + cntTs a) by omega]
mutual
theorem cnt_le : ∀ t : Tr, cntT t ≤ 3 * t.nd + t.bulk
  | .mk k n s ks cs => by
    have := cnts_le cs
    simp only [cntT, Tr.nd, Tr.bulk]; omega
theorem cnts_le : ∀ cs : List Tr, cntTs cs ≤ 3 * Tr.nds cs + Tr.bulks cs
  | [] => by simp [cntTs]
  | c :: cs => by
    have h1 := cnt_le c
    have h2 := cnts_le cs
    simp only [cntTs, Tr.nds, Tr.bulks]; omega
end
/-- trees are marked in their place -/
def MkOK (cs : List Tr) : Prop := ∀ (n : Nat) (cap : Option Nat) (k : Nat), n = cs.length → k + cntTs cs ≤ 1073741824 →
  EV Try.prog pol (.callO false 17 [.sl 0 0 n cap, .t (.int .i64 (k : Int))] [.vs 5 (ocE (Tr.encs cs))]) = some (.call (.t (.int .i64 ((k + cntTs cs : Nat) : Int))) [.vs 5 (ocE (Tr.encs (mkTrs k cs)))])
theorem l_markT (cs : List Tr) (hl : cs.length ≤ 4194304) (hkl : ∀ c ∈ cs, ∀ k n s ks cs', c = Tr.mk k n s ks cs' → ks.length ≤ 4194304 ∧ cs'.length ≤ 4194304 ∧ MkOK cs') (cap : Option Nat) (k : Nat) (hk : k + cntTs cs ≤ 1073741824) : ∀ (rest pre : List Tr), cs = pre ++ rest →
    EV Try.prog pol (.loop 17 26 1 [.sl 0 0 cs.length cap, .t (.int .i64 ((k + cntTs pre : Nat) : Int)), .t (.int .i64 (pre.length : Int))] [.vs 5 (ocE (Tr.encs (mkTrs k pre)) ++ ocE (Tr.encs rest))])
      = some (.loop (.exit 0) [.t (.int .i64 ((k + cntTs cs : Nat) : Int))] [.vs 5 (ocE (Tr.encs (mkTrs k cs)))])
  | [], pre, hs => by
    have c : decide ((pre.length : Int) < (cs.length : Int)) = false := by simp [hs]
    have e : cs = pre := by simpa using hs
    have hA := ocE_refs (Tr.encs (mkTrs k pre))
    have hR := fun m => ocE_ren m (Tr.encs (mkTrs k pre))
    simp only [show ocE (Tr.encs []) = [] from rfl, List.append_nil]
    refine loop_eq Try.func17 rfl rfl ?_
    simp (disch := ((try simp only [List.length_cons, List.length_append, List.length_nil, List.length_map]); omega)) only [↓GO, ↓DRW, GA, ren, renB, footX, refs, cellsV, cst, cstAt, nilC, idxAddr, E.load, E.store, binO, isC, bin, ibin, sbin, una, isShift, okCell, packV, lenV, blt, fnV, asArg, snapV, snapS, snapP, snapC, snapX, flatV, flatT, openK, layBack, allT, allZ, mkS, srcOf0, unN, idxV, nilEq, give, tupV, mkEnv, extV, pickV, LVS, OVS, LTS, TYS, PMS, pmT, OWS, ownT, GHS, ghT, DMS, dmT, Int.reduceToNat, Nat.reduceGT, ↓reduceIte, Nat.reduceAdd, Nat.reduceMul, Nat.reduceSub, Nat.reduceEqDiff, Nat.reduceLeDiff, Nat.reduceLT, Nat.reduceBEq, Int.reduceBEq, Int.reduceBNe, Int.reduceEq, Int.reduceLT, Int.reduceLE, Int.reduceGT, Int.reduceNeg, reduceCtorEq, selK_some, selK_none, bltO, brwK, brwA, brwB, sliceO, mkO, appO, appS, ghOne, ghAt, ghCells, fld1, unf1, setC, oc, oTs, oT, rowT, rowT.rowTs, rowB, isL, Bool.not_false, Bool.true_and, Bool.and_true, Bool.and_self, List.flatMap_append, List.map_append, List.set_cons_zero, List.set_cons_succ, Int.cast_ofNat_Int, getE_zero, getE_one, getE_two, Option.isSome_none, c, hA, hR]
    rw [e]
  | x :: rest, pre, hs => by
    have c : decide ((pre.length : Int) < (cs.length : Int)) = true := by simp [hs]; omega
    have c0 : decide ((0 : Int) ≤ (pre.length : Int)) = true := by simp
    have c00 : (0 : Int) ≤ (pre.length : Int) := by omega
    have hlen : pre.length + rest.length + 1 ≤ cs.length := by rw [hs]; simp; omega
    have hcn : cntTs cs = cntTs pre + cntTs (x :: rest) := by rw [hs, cnts_app]
    obtain ⟨k0, n0, s0, ks, cs'⟩ := x
    obtain ⟨b1, b2, hm⟩ := hkl (.mk k0 n0 s0 ks cs') (by rw [hs]; simp) k0 n0 s0 ks cs' rfl
    have IH := l_markT cs hl hkl cap k hk rest (pre ++ [.mk k0 n0 s0 ks cs']) (by rw [hs]; simp)
    have e1 : mkTrs k (pre ++ [.mk k0 n0 s0 ks cs']) = mkTrs k pre ++ [mkTr (k + cntTs pre) (.mk k0 n0 s0 ks cs')] := by rw [mkTrs_app]; simp [mkTrs]
    have e2 : cntTs (pre ++ [.mk k0 n0 s0 ks cs']) = cntTs pre + (3 + ks.length + cntTs cs') := by rw [cnts_app]; simp [cntTs, cntT]
    have e3 : ∀ a b : List Tr, ocE (Tr.encs (a ++ b)) = ocE (Tr.encs a) ++ ocE (Tr.encs b) := fun a b => by simp [Tr.encs_eq, ocE]
    rw [e1, e2, e3, show (pre ++ [Tr.mk k0 n0 s0 ks cs']).length = pre.length + 1 by simp] at IH
    simp only [cntTs, cntT] at hcn
    have hAl : (ocE (Tr.encs (mkTrs k pre))).length = pre.length := by rw [ocE_len, Tr.encs_len, mkTrs_len]
    have hA := ocE_refs (Tr.encs (mkTrs k pre))
    have hR := fun m => ocE_ren m (Tr.encs (mkTrs k pre))
    have hB := ocE_refs (Tr.encs rest)
    have hRB := fun m => ocE_ren m (Tr.encs rest)
    rw [show ocE (Tr.encs (.mk k0 n0 s0 ks cs' :: rest)) = (Tr.mk k0 n0 s0 ks cs').enc.map oc :: ocE (Tr.encs rest) from rfl]
    rw [show ocE (Tr.encs [mkTr (k + cntTs pre) (.mk k0 n0 s0 ks cs')]) = [(mkTr (k + cntTs pre) (.mk k0 n0 s0 ks cs')).enc.map oc] from rfl] at IH
    have hg1 := fun y => mid_get (ocE (Tr.encs (mkTrs k pre))) (ocE (Tr.encs rest)) y pre.length hAl
    have hs1 := fun y z => mid_set (ocE (Tr.encs (mkTrs k pre))) (ocE (Tr.encs rest)) y z pre.length hAl
    clear hs e1 e2 e3
    generalize hkp : k + cntTs pre = kp at *
    have hmt := c_mkT (kp + 2) (by omega)
    have hms := c_markS ks b1 none (kp + 3) (by omega) ks.length rfl
    have hmr := hm cs'.length none (kp + 3 + ks.length) rfl (by omega)
    have w0 : IntKind.i64.wrap ((kp : Int) + 1) = ((kp + 1 : Nat) : Int) := by rw [wrap_in (by omega)]; omega
    have w1 : IntKind.i64.wrap (((kp + 1 : Nat) : Int) + 1) = ((kp + 2 : Nat) : Int) := by rw [wrap_in (by omega)]; omega
    have w2 : IntKind.i64.wrap (((kp + 2 : Nat) : Int) + 1) = ((kp + 3 : Nat) : Int) := by rw [wrap_in (by omega)]; omega
    have w3 : IntKind.i64.wrap ((pre.length : Int) + 1) = ((pre.length + 1 : Nat) : Int) := by rw [wrap_in (by omega)]; omega
    rw [show k + (cntTs pre + (3 + ks.length + cntTs cs')) = kp + 3 + ks.length + cntTs cs' by omega] at IH
    have hfl := flatE_strs ks
    have hfl2 := flatE_strs (mkS ks.length (kp + 3))
    have hfln := mkS_len ks.length (kp + 3)
    have hot := oT_trs (mkTrs (kp + 3 + ks.length) cs')
    have htl := mkTrs_len (kp + 3 + ks.length) cs'
    simp only [mkTr, Tr.enc, List.map_cons, List.map_nil, oc, List.append_assoc, List.cons_append, List.nil_append] at IH ⊢
    have hmap : (Tr.encs cs').map (fun e => e.map oc) = ocE (Tr.encs cs') := rfl
    have hll : cs'.length = (Tr.encs cs').length := (Tr.encs_len cs').symm
    generalize mkS ks.length (kp + 3) = ms at *
    generalize mkTrs (kp + 3 + ks.length) cs' = mc at *
    generalize mkT (kp + 2) = mt at *
    generalize ocE (Tr.encs (mkTrs k pre)) = A at *
    generalize ocE (Tr.encs rest) = B at *
    refine loop_eq Try.func17 rfl rfl ?_
    simp (disch := ((try simp only [List.length_cons, List.length_append, List.length_nil, List.length_map]); omega)) only [↓GO, ↓DRW, GA, ren, renB, footX, refs, cellsV, cst, cstAt, nilC, idxAddr, E.load, E.store, binO, isC, bin, ibin, sbin, una, isShift, okCell, packV, lenV, blt, fnV, asArg, snapV, snapS, snapP, snapC, snapX, flatV, flatT, openK, layBack, allT, allZ, mkS, srcOf0, unN, idxV, nilEq, give, tupV, mkEnv, extV, pickV, LVS, OVS, LTS, TYS, PMS, pmT, OWS, ownT, GHS, ghT, DMS, dmT, Int.reduceToNat, Nat.reduceGT, ↓reduceIte, Nat.reduceAdd, Nat.reduceMul, Nat.reduceSub, Nat.reduceEqDiff, Nat.reduceLeDiff, Nat.reduceLT, Nat.reduceBEq, Int.reduceBEq, Int.reduceBNe, Int.reduceEq, Int.reduceLT, Int.reduceLE, Int.reduceGT, Int.reduceNeg, reduceCtorEq, selK_some, selK_none, bltO, brwK, brwA, brwB, sliceO, mkO, appO, appS, ghOne, ghAt, ghCells, fld1, unf1, setC, oc, oTs, oT, rowT, rowT.rowTs, rowB, isL, Bool.not_false, Bool.true_and, Bool.and_true, Bool.and_self, List.flatMap_append, List.map_append, List.set_cons_zero, List.set_cons_succ, Int.cast_ofNat_Int, getE_zero, getE_one, getE_two, Option.isSome_none, c, c0, c00, if_true, Int.toNat_natCast, hmt, hms, hmr, hg1, hs1, hA, hR, hB, hRB, w0, w1, w2, w3, hfl, hfl2, hfln, hot, htl, hmap, strs_len, Tr.encs_len, ocE_len, ocE_ren, ocE_refs, IH, rch3]
end Go.Proofs.Ytcphjdfmjhijkaa
/- Marks in trees, all; marks found again. Conditions: those of each lemma. -/
namespace Go.Proofs.Ytcphjdfmjhijkaa
open E
set_option linter.unusedSimpArgs false
set_option linter.unusedVariables false
set_option maxRecDepth 100000
theorem c_markTs : ∀ (N : Nat) (cs : List Tr), Tr.nds cs ≤ N → cs.length + Tr.bulks cs ≤ 4194304 → MkOK cs
  | N, cs, hN, hb => by
    have hin : ∀ c ∈ cs, ∀ k n s ks cs', c = Tr.mk k n s ks cs' → ks.length ≤ 4194304 ∧ cs'.length ≤ 4194304 ∧ MkOK cs' := fun c hc k n s ks cs' he => by
      subst he
      have h1 := Tr.nds_mem hc
      have h2 := Tr.bulks_mem hc
      simp only [Tr.nd, Tr.bulk] at h1 h2
      match N with
      | 0 => omega
      | N + 1 => exact ⟨by omega, by omega, c_markTs N cs' (by omega) (by omega)⟩
    intro n cap k hn hk
    subst hn
    have L := l_markT cs (by omega) hin cap k hk cs [] rfl
    simp only [List.length_nil, Int.natCast_zero, mkTrs, cntTs, show ocE (Tr.encs []) = [] from rfl, List.nil_append, Nat.add_zero] at L
    refine callO_eq Try.func17 rfl (by kernel_rfl) ?_
    unfold Try.f17
    simp (disch := ((try simp only [List.length_cons, List.length_append, List.length_nil, List.length_map]); omega)) only [↓GO, ↓DRW, GA, ren, renB, footX, refs, cellsV, cst, cstAt, nilC, idxAddr, E.load, E.store, binO, isC, bin, ibin, sbin, una, isShift, okCell, packV, lenV, blt, fnV, asArg, snapV, snapS, snapP, snapC, snapX, flatV, flatT, openK, layBack, allT, allZ, mkS, srcOf0, unN, idxV, nilEq, give, tupV, mkEnv, extV, pickV, LVS, OVS, LTS, TYS, PMS, pmT, OWS, ownT, GHS, ghT, DMS, dmT, Int.reduceToNat, Nat.reduceGT, ↓reduceIte, Nat.reduceAdd, Nat.reduceMul, Nat.reduceSub, Nat.reduceEqDiff, Nat.reduceLeDiff, Nat.reduceLT, Nat.reduceBEq, Int.reduceBEq, Int.reduceBNe, Int.reduceEq, Int.reduceLT, Int.reduceLE, Int.reduceGT, Int.reduceNeg, reduceCtorEq, selK_some, selK_none, bltO, brwK, brwA, brwB, sliceO, mkO, appO, appS, ghOne, ghAt, ghCells, fld1, unf1, setC, oc, oTs, oT, rowT, rowT.rowTs, rowB, isL, Bool.not_false, Bool.true_and, Bool.and_true, Bool.and_self, List.flatMap_append, List.map_append, List.set_cons_zero, List.set_cons_succ, Int.cast_ofNat_Int, getE_zero, getE_one, getE_two, Option.isSome_none, L, ocE_ren, ocE_refs, rch3]
/-- what a tree's lists are, marked -/
theorem c_markT (a b c : V) (ks : List Str) (cs : List Tr) (hk1 : ks.length ≤ 4194304) (hb : cs.length + Tr.bulks cs ≤ 4194304) (n1 n2 : Nat) (h1 : n1 = ks.length) (h2 : n2 = cs.length) (p1 p2 : Option Nat) (k : Nat) (hk : k + ks.length + cntTs cs ≤ 1073741824)
    (x y : Int) (s : Str) (ha : a = .t (.int .i64 x)) (hb' : b = .t (.int .i64 y)) (hc : c = .t (.str s)) :
    EV Try.prog pol (.callO false 18 [.agg [a, b, c, .sl 0 0 n1 p1, .sl 1 0 n2 p2], .t (.int .i64 (k : Int))] [.ts 1 (strs ks), .vs 5 (ocE (Tr.encs cs))])
      = some (.call (.t (.int .i64 ((k + ks.length + cntTs cs : Nat) : Int))) [.ts 1 (strs (mkS ks.length k)), .vs 5 (ocE (Tr.encs (mkTrs (k + ks.length) cs)))]) := by
  subst h1 h2 ha hb' hc
  have d1 := c_markS ks hk1 p1 k (by omega) ks.length rfl
  have d2 := c_markTs (Tr.nds cs) cs (Nat.le_refl _) hb cs.length p2 (k + ks.length) rfl (by omega)
  refine callO_eq Try.func18 rfl (by kernel_rfl) ?_
  unfold Try.f18
  simp (disch := ((try simp only [List.length_cons, List.length_append, List.length_nil, List.length_map]); omega)) only [↓GO, ↓DRW, GA, ren, renB, footX, refs, cellsV, cst, cstAt, nilC, idxAddr, E.load, E.store, binO, isC, bin, ibin, sbin, una, isShift, okCell, packV, lenV, blt, fnV, asArg, snapV, snapS, snapP, snapC, snapX, flatV, flatT, openK, layBack, allT, allZ, mkS, srcOf0, unN, idxV, nilEq, give, tupV, mkEnv, extV, pickV, LVS, OVS, LTS, TYS, PMS, pmT, OWS, ownT, GHS, ghT, DMS, dmT, Int.reduceToNat, Nat.reduceGT, ↓reduceIte, Nat.reduceAdd, Nat.reduceMul, Nat.reduceSub, Nat.reduceEqDiff, Nat.reduceLeDiff, Nat.reduceLT, Nat.reduceBEq, Int.reduceBEq, Int.reduceBNe, Int.reduceEq, Int.reduceLT, Int.reduceLE, Int.reduceGT, Int.reduceNeg, reduceCtorEq, selK_some, selK_none, bltO, brwK, brwA, brwB, sliceO, mkO, appO, appS, ghOne, ghAt, ghCells, fld1, unf1, setC, oc, oTs, oT, rowT, rowT.rowTs, rowB, isL, Bool.not_false, Bool.true_and, Bool.and_true, Bool.and_self, List.flatMap_append, List.map_append, List.set_cons_zero, List.set_cons_succ, Int.cast_ofNat_Int, getE_zero, getE_one, getE_two, Option.isSome_none, d1, d2, ocE_ren, ocE_refs, rch3]
theorem l_heldS (ks : List Str) (hl : ks.length ≤ 4194304) (k : Nat) (hk : k ≤ 1073741824) : ∀ (n i : Nat), i + n = ks.length → ks = mkS ks.length k →
    EV Try.prog pol (.loop 36 26 0 [.t (.list 1 (strs ks)), .t (.int .i64 ((k + i : Nat) : Int)), .t (.int .i64 (i : Int))] []) = some (.loop (.exit 0) [.t (.int .i64 ((k + ks.length : Nat) : Int)), .bad] [])
  | 0, i, hi, hm => by
    have c : decide ((i : Int) < (ks.length : Int)) = false := by apply decide_eq_false; omega
    have e : i = ks.length := by omega
    refine loop_eq Try.func36 rfl rfl ?_
    simp (disch := ((try simp only [List.length_cons, List.length_append, List.length_nil, List.length_map]); omega)) only [↓GO, ↓DRW, GA, ren, renB, footX, refs, cellsV, cst, cstAt, nilC, idxAddr, E.load, E.store, binO, isC, bin, ibin, sbin, una, isShift, okCell, packV, lenV, blt, fnV, asArg, snapV, snapS, snapP, snapC, snapX, flatV, flatT, openK, layBack, allT, allZ, mkS, srcOf0, unN, idxV, nilEq, give, tupV, mkEnv, extV, pickV, LVS, OVS, LTS, TYS, PMS, pmT, OWS, ownT, GHS, ghT, DMS, dmT, Int.reduceToNat, Nat.reduceGT, ↓reduceIte, Nat.reduceAdd, Nat.reduceMul, Nat.reduceSub, Nat.reduceEqDiff, Nat.reduceLeDiff, Nat.reduceLT, Nat.reduceBEq, Int.reduceBEq, Int.reduceBNe, Int.reduceEq, Int.reduceLT, Int.reduceLE, Int.reduceGT, Int.reduceNeg, reduceCtorEq, Int.cast_ofNat_Int, getE_zero, getE_one, getE_two, Option.isSome_none, c, strs_len]
    rw [e]
  | n + 1, i, hi, hm => by
    have c : decide ((i : Int) < (ks.length : Int)) = true := by apply decide_eq_true; omega
    have hg : ∀ (m j q : Nat), j < m → (mkS m q)[j]? = some (mkT (q + j)) := fun m => by
      induction m with
      | zero => intro j q h; omega
      | succ m ih =>
        intro j q h
        cases j with
        | zero => rfl
        | succ j => rw [mkS, List.getElem?_cons_succ, ih j (q + 1) (by omega), show q + 1 + j = q + (j + 1) by omega]
    have hget : (strs ks)[i]? = some [.str (mkT (k + i))] := by
      have := hg ks.length i k (by omega)
      rw [hm]
      simp only [strs, List.getElem?_map, mkS_len, this, Option.map_some]
    have hmt := c_mkT (k + i) (by omega)
    have IH := l_heldS ks hl k hk n (i + 1) (by omega) hm
    have w : IntKind.i64.wrap (((k + i : Nat) : Int) + 1) = ((k + (i + 1) : Nat) : Int) := by rw [wrap_in (by omega)]; omega
    have w2 : IntKind.i64.wrap ((i : Int) + 1) = ((i + 1 : Nat) : Int) := by rw [wrap_in (by omega)]; omega
    clear hm
    generalize mkT (k + i) = mt at *
    refine loop_eq Try.func36 rfl rfl ?_
    simp (disch := ((try simp only [List.length_cons, List.length_append, List.length_nil, List.length_map]); omega)) only [↓GO, ↓DRW, GA, ren, renB, footX, refs, cellsV, cst, cstAt, nilC, idxAddr, E.load, E.store, binO, isC, bin, ibin, sbin, una, isShift, okCell, packV, lenV, blt, fnV, asArg, snapV, snapS, snapP, snapC, snapX, flatV, flatT, openK, layBack, allT, allZ, mkS, srcOf0, unN, idxV, nilEq, give, tupV, mkEnv, extV, pickV, LVS, OVS, LTS, TYS, PMS, pmT, OWS, ownT, GHS, ghT, DMS, dmT, Int.reduceToNat, Nat.reduceGT, ↓reduceIte, Nat.reduceAdd, Nat.reduceMul, Nat.reduceSub, Nat.reduceEqDiff, Nat.reduceLeDiff, Nat.reduceLT, Nat.reduceBEq, Int.reduceBEq, Int.reduceBNe, Int.reduceEq, Int.reduceLT, Int.reduceLE, Int.reduceGT, Int.reduceNeg, reduceCtorEq, Int.cast_ofNat_Int, getE_zero, getE_one, getE_two, Option.isSome_none, c, strs_len, hget, hmt, w, w2, IH, bne_self_eq_false]
theorem c_heldS (n k : Nat) (hn : n ≤ 4194304) (hk : k ≤ 1073741824) : callPure (EV Try.prog pol) 36 [.t (.list 1 (strs (mkS n k))), .t (.int .i64 (k : Int))] = some (.t (.int .i64 ((k + n : Nat) : Int))) := by
  have L := l_heldS (mkS n k) (by rw [mkS_len]; exact hn) k hk n 0 (by rw [mkS_len]; omega) (by rw [mkS_len])
  rw [mkS_len] at L
  simp only [Int.natCast_zero, Nat.add_zero] at L
  apply eq_call
  refine call_eq rfl Try.func36 rfl (by kernel_rfl) ?_
  unfold Try.f36
  simp (disch := ((try simp only [List.length_cons, List.length_append, List.length_nil, List.length_map]); omega)) only [↓GO, ↓DRW, GA, ren, renB, footX, refs, cellsV, cst, cstAt, nilC, idxAddr, E.load, E.store, binO, isC, bin, ibin, sbin, una, isShift, okCell, packV, lenV, blt, fnV, asArg, snapV, snapS, snapP, snapC, snapX, flatV, flatT, openK, layBack, allT, allZ, mkS, srcOf0, unN, idxV, nilEq, give, tupV, mkEnv, extV, pickV, LVS, OVS, LTS, TYS, PMS, pmT, OWS, ownT, GHS, ghT, DMS, dmT, Int.reduceToNat, Nat.reduceGT, ↓reduceIte, Nat.reduceAdd, Nat.reduceMul, Nat.reduceSub, Nat.reduceEqDiff, Nat.reduceLeDiff, Nat.reduceLT, Nat.reduceBEq, Int.reduceBEq, Int.reduceBNe, Int.reduceEq, Int.reduceLT, Int.reduceLE, Int.reduceGT, Int.reduceNeg, reduceCtorEq, Int.cast_ofNat_Int, getE_zero, getE_one, getE_two, Option.isSome_none, L]
def HdOK (cs : List Tr) : Prop := ∀ k : Nat, k + cntTs cs ≤ 1073741824 → callPure (EV Try.prog pol) 37 [.t (.list 5 (Tr.encs (mkTrs k cs))), .t (.int .i64 (k : Int))] = some (.t (.int .i64 ((k + cntTs cs : Nat) : Int)))
theorem l_heldT (cs : List Tr) (hl : cs.length ≤ 4194304) (hkl : ∀ c ∈ cs, ∀ k n s ks cs', c = Tr.mk k n s ks cs' → ks.length ≤ 4194304 ∧ cs'.length ≤ 4194304 ∧ HdOK cs') (k : Nat) (hk : k + cntTs cs ≤ 1073741824) : ∀ (rest pre : List Tr), cs = pre ++ rest →
    EV Try.prog pol (.loop 37 26 0 [.t (.list 5 (Tr.encs (mkTrs k cs))), .t (.int .i64 ((k + cntTs pre : Nat) : Int)), .t (.int .i64 (pre.length : Int))] []) = some (.loop (.exit 0) [.t (.int .i64 ((k + cntTs cs : Nat) : Int)), .bad] [])
  | [], pre, hs => by
    have c : decide ((pre.length : Int) < (cs.length : Int)) = false := by simp [hs]
    have e : cs = pre := by simpa using hs
    have hl2 := mkTrs_len k cs
    refine loop_eq Try.func37 rfl rfl ?_
    simp (disch := ((try simp only [List.length_cons, List.length_append, List.length_nil, List.length_map]); omega)) only [↓GO, ↓DRW, GA, ren, renB, footX, refs, cellsV, cst, cstAt, nilC, idxAddr, E.load, E.store, binO, isC, bin, ibin, sbin, una, isShift, okCell, packV, lenV, blt, fnV, asArg, snapV, snapS, snapP, snapC, snapX, flatV, flatT, openK, layBack, allT, allZ, mkS, srcOf0, unN, idxV, nilEq, give, tupV, mkEnv, extV, pickV, LVS, OVS, LTS, TYS, PMS, pmT, OWS, ownT, GHS, ghT, DMS, dmT, Int.reduceToNat, Nat.reduceGT, ↓reduceIte, Nat.reduceAdd, Nat.reduceMul, Nat.reduceSub, Nat.reduceEqDiff, Nat.reduceLeDiff, Nat.reduceLT, Nat.reduceBEq, Int.reduceBEq, Int.reduceBNe, Int.reduceEq, Int.reduceLT, Int.reduceLE, Int.reduceGT, Int.reduceNeg, reduceCtorEq, Int.cast_ofNat_Int, getE_zero, getE_one, getE_two, Option.isSome_none, c, Tr.encs_len, hl2]
    rw [e]
  | x :: rest, pre, hs => by
    have c : decide ((pre.length : Int) < (cs.length : Int)) = true := by simp [hs]; omega
    have hlen : pre.length + rest.length + 1 ≤ cs.length := by rw [hs]; simp; omega
    have hcn : cntTs cs = cntTs pre + cntTs (x :: rest) := by rw [hs, cnts_app]
    have hget : (Tr.encs (mkTrs k cs))[pre.length]? = some (mkTr (k + cntTs pre) x).enc := by
      rw [hs, mkTrs_app, Tr.encs_eq, List.map_append, List.getElem?_append_right (by simp [mkTrs_len])]
      simp [mkTrs_len, mkTrs]
    obtain ⟨k0, n0, s0, ks, cs'⟩ := x
    obtain ⟨b1, b2, hm⟩ := hkl (.mk k0 n0 s0 ks cs') (by rw [hs]; simp) k0 n0 s0 ks cs' rfl
    have IH := l_heldT cs hl hkl k hk rest (pre ++ [.mk k0 n0 s0 ks cs']) (by rw [hs]; simp)
    have e2 : cntTs (pre ++ [.mk k0 n0 s0 ks cs']) = cntTs pre + (3 + ks.length + cntTs cs') := by rw [cnts_app]; simp [cntTs, cntT]
    rw [e2, show (pre ++ [Tr.mk k0 n0 s0 ks cs']).length = pre.length + 1 by simp] at IH
    simp only [cntTs, cntT] at hcn
    have hl2 := mkTrs_len k cs
    clear hs e2
    generalize hkp : k + cntTs pre = kp at *
    have hmt := c_mkT (kp + 2) (by omega)
    have hms := c_heldS ks.length (kp + 3) b1 (by omega)
    have hmr := hm (kp + 3 + ks.length) (by omega)
    have w0 : IntKind.i64.wrap ((kp : Int) + 1) = ((kp + 1 : Nat) : Int) := by rw [wrap_in (by omega)]; omega
    have w1 : IntKind.i64.wrap (((kp + 1 : Nat) : Int) + 1) = ((kp + 2 : Nat) : Int) := by rw [wrap_in (by omega)]; omega
    have w2 : IntKind.i64.wrap (((kp + 2 : Nat) : Int) + 1) = ((kp + 3 : Nat) : Int) := by rw [wrap_in (by omega)]; omega
    have w3 : IntKind.i64.wrap ((pre.length : Int) + 1) = ((pre.length + 1 : Nat) : Int) := by rw [wrap_in (by omega)]; omega
    have g1 : decide (((kp + 3 + ks.length : Nat) : Int) < 0) = false := by apply decide_eq_false; omega
    have g2 : decide (((kp + 3 + ks.length + cntTs cs' : Nat) : Int) < 0) = false := by apply decide_eq_false; omega
    rw [show k + (cntTs pre + (3 + ks.length + cntTs cs')) = kp + 3 + ks.length + cntTs cs' by omega] at IH
    simp only [mkTr, Tr.enc, List.map_cons, List.map_nil] at hget
    generalize mkS ks.length (kp + 3) = ms at *
    generalize mkTrs (kp + 3 + ks.length) cs' = mc at *
    generalize mkT (kp + 2) = mt at *
    generalize mkTrs k cs = mks at *
    refine loop_eq Try.func37 rfl rfl ?_
    simp (disch := ((try simp only [List.length_cons, List.length_append, List.length_nil, List.length_map]); omega)) only [↓GO, ↓DRW, GA, ren, renB, footX, refs, cellsV, cst, cstAt, nilC, idxAddr, E.load, E.store, binO, isC, bin, ibin, sbin, una, isShift, okCell, packV, lenV, blt, fnV, asArg, snapV, snapS, snapP, snapC, snapX, flatV, flatT, openK, layBack, allT, allZ, mkS, srcOf0, unN, idxV, nilEq, give, tupV, mkEnv, extV, pickV, LVS, OVS, LTS, TYS, PMS, pmT, OWS, ownT, GHS, ghT, DMS, dmT, Int.reduceToNat, Nat.reduceGT, ↓reduceIte, Nat.reduceAdd, Nat.reduceMul, Nat.reduceSub, Nat.reduceEqDiff, Nat.reduceLeDiff, Nat.reduceLT, Nat.reduceBEq, Int.reduceBEq, Int.reduceBNe, Int.reduceEq, Int.reduceLT, Int.reduceLE, Int.reduceGT, Int.reduceNeg, reduceCtorEq, Int.cast_ofNat_Int, getE_zero, getE_one, getE_two, Option.isSome_none, c, Tr.encs_len, hl2, hget, hmt, hms, hmr, w0, w1, w2, w3, g1, g2, IH, bne_self_eq_false]
theorem c_heldTs : ∀ (N : Nat) (cs : List Tr), Tr.nds cs ≤ N → cs.length + Tr.bulks cs ≤ 4194304 → HdOK cs
  | N, cs, hN, hb => by
    have hin : ∀ c ∈ cs, ∀ k n s ks cs', c = Tr.mk k n s ks cs' → ks.length ≤ 4194304 ∧ cs'.length ≤ 4194304 ∧ HdOK cs' := fun c hc k n s ks cs' he => by
      subst he
      have h1 := Tr.nds_mem hc
      have h2 := Tr.bulks_mem hc
      simp only [Tr.nd, Tr.bulk] at h1 h2
      match N with
      | 0 => omega
      | N + 1 => exact ⟨by omega, by omega, c_heldTs N cs' (by omega) (by omega)⟩
    intro k hk
    have L := l_heldT cs (by omega) hin k hk cs [] rfl
    simp only [List.length_nil, Int.natCast_zero, cntTs, Nat.add_zero] at L
    apply eq_call
    refine call_eq rfl Try.func37 rfl (by kernel_rfl) ?_
    unfold Try.f37
    simp (disch := ((try simp only [List.length_cons, List.length_append, List.length_nil, List.length_map]); omega)) only [↓GO, ↓DRW, GA, ren, renB, footX, refs, cellsV, cst, cstAt, nilC, idxAddr, E.load, E.store, binO, isC, bin, ibin, sbin, una, isShift, okCell, packV, lenV, blt, fnV, asArg, snapV, snapS, snapP, snapC, snapX, flatV, flatT, openK, layBack, allT, allZ, mkS, srcOf0, unN, idxV, nilEq, give, tupV, mkEnv, extV, pickV, LVS, OVS, LTS, TYS, PMS, pmT, OWS, ownT, GHS, ghT, DMS, dmT, Int.reduceToNat, Nat.reduceGT, ↓reduceIte, Nat.reduceAdd, Nat.reduceMul, Nat.reduceSub, Nat.reduceEqDiff, Nat.reduceLeDiff, Nat.reduceLT, Nat.reduceBEq, Int.reduceBEq, Int.reduceBNe, Int.reduceEq, Int.reduceLT, Int.reduceLE, Int.reduceGT, Int.reduceNeg, reduceCtorEq, Int.cast_ofNat_Int, getE_zero, getE_one, getE_two, Option.isSome_none, L]
theorem c_heldT (k0 n0 : Int) (s0 : Str) (ks : List Str) (cs : List Tr) (hk1 : ks.length ≤ 4194304) (hb : cs.length + Tr.bulks cs ≤ 4194304) (k : Nat) (hk : k + ks.length + cntTs cs ≤ 1073741824) :
    callPure (EV Try.prog pol) 19 [.agg [.t (.int .i64 k0), .t (.int .i64 n0), .t (.str s0), .t (.list 1 (strs (mkS ks.length k))), .t (.list 5 (Tr.encs (mkTrs (k + ks.length) cs)))], .t (.int .i64 (k : Int))]
      = some (.t (.int .i64 ((k + ks.length + cntTs cs : Nat) : Int))) := by
  have d1 := c_heldS ks.length k hk1 (by omega)
  have d2 := c_heldTs (Tr.nds cs) cs (Nat.le_refl _) hb (k + ks.length) (by omega)
  have g1 : decide (((k + ks.length : Nat) : Int) < 0) = false := by apply decide_eq_false; omega
  have g2 : decide (((k + ks.length + cntTs cs : Nat) : Int) < 0) = false := by apply decide_eq_false; omega
  generalize mkS ks.length k = ms at *
  generalize mkTrs (k + ks.length) cs = mc at *
  apply eq_call
  refine call_eq rfl Try.func19 rfl (by kernel_rfl) ?_
  unfold Try.f19
  simp (disch := ((try simp only [List.length_cons, List.length_append, List.length_nil, List.length_map]); omega)) only [↓GO, ↓DRW, GA, ren, renB, footX, refs, cellsV, cst, cstAt, nilC, idxAddr, E.load, E.store, binO, isC, bin, ibin, sbin, una, isShift, okCell, packV, lenV, blt, fnV, asArg, snapV, snapS, snapP, snapC, snapX, flatV, flatT, openK, layBack, allT, allZ, mkS, srcOf0, unN, idxV, nilEq, give, tupV, mkEnv, extV, pickV, LVS, OVS, LTS, TYS, PMS, pmT, OWS, ownT, GHS, ghT, DMS, dmT, Int.reduceToNat, Nat.reduceGT, ↓reduceIte, Nat.reduceAdd, Nat.reduceMul, Nat.reduceSub, Nat.reduceEqDiff, Nat.reduceLeDiff, Nat.reduceLT, Nat.reduceBEq, Int.reduceBEq, Int.reduceBNe, Int.reduceEq, Int.reduceLT, Int.reduceLE, Int.reduceGT, Int.reduceNeg, reduceCtorEq, Int.cast_ofNat_Int, getE_zero, getE_one, getE_two, Option.isSome_none, d1, d2, g1, g2]
end Go.Proofs.Ytcphjdfmjhijkaa
/- Trees copied, by both. Conditions: those of each lemma. -/
namespace Go.Proofs.Ytcphjdfmjhijkaa
open E
set_option linter.unusedSimpArgs false
set_option linter.unusedVariables false
set_option maxRecDepth 100000
theorem dyn_pos {α : Type} {b : Bool} {x y r : Option α} (h : b = true) (hx : x = r) : (if b = true then x else y) = r := by rw [h]; exact hx
theorem encs_snoc (a : List Tr) (x : Tr) : Tr.encs (a ++ [x]) = Tr.encs a ++ [x.enc] := by simp [Tr.encs_eq]
def CpR (t : Tr) : Prop := callPure (EV Try.prog pol) 33 [.agg (t.enc.map .t)] = some (.agg (t.enc.map .t))
theorem l_cpR (k n : Int) (s : Str) (ks : List Str) (cs : List Tr) (hl : cs.length ≤ 1048576) (hkl : ks.length ≤ 1048576) (hc : ∀ c ∈ cs, CpR c) : ∀ (rest pre : List Tr) (m : Nat), cs = pre ++ rest → m = pre.length →
    EV Try.prog pol (.loop 33 58 0 [.ptr 0 0 0, .ptr 1 0 0, .ptr 2 0 0, .t (.int .i64 (pre.length : Int))] [.vs 5 [(Tr.mk k n s ks cs).enc.map .t], .vs 5 [zV], .vs 5 [[.t (.int .i64 k), .t (.int .i64 n), .t (.str s), .sl 3 0 ks.length none, .sl 4 0 m none]], .ts 1 (strs ks), .ts 5 (Tr.encs pre)])
      = some (.loop (.exit 0) [.ptr 0 0 0, .ptr 1 0 0] [.vs 5 [zV], .vs 5 [[.t (.int .i64 k), .t (.int .i64 n), .t (.str s), .sl 2 0 ks.length none, .sl 3 0 cs.length none]], .ts 1 (strs ks), .ts 5 (Tr.encs cs)])
  | [], pre, m, hs, hm => by
    have c : decide ((pre.length : Int) < (cs.length : Int)) = false := by simp [hs]
    have e : cs = pre := by simpa using hs
    simp only [Tr.enc, List.map_cons, List.map_nil, zV]
    refine loop_eq Try.func33 rfl rfl ?_
    simp (disch := ((try simp only [List.length_cons, List.length_append, List.length_nil, List.length_map]); omega)) only [↓GO, ↓DRW, GA, ren, renB, footX, refs, cellsV, cst, cstAt, nilC, idxAddr, E.load, E.store, binO, isC, bin, ibin, sbin, una, isShift, okCell, packV, lenV, blt, fnV, asArg, snapV, snapS, snapP, snapC, snapX, flatV, flatT, openK, layBack, allT, allZ, mkS, srcOf0, unN, idxV, nilEq, give, tupV, mkEnv, extV, pickV, LVS, OVS, LTS, TYS, PMS, pmT, OWS, ownT, GHS, ghT, DMS, dmT, Int.reduceToNat, Nat.reduceGT, ↓reduceIte, Nat.reduceAdd, Nat.reduceMul, Nat.reduceSub, Nat.reduceEqDiff, Nat.reduceLeDiff, Nat.reduceLT, Nat.reduceBEq, Int.reduceBEq, Int.reduceBNe, Int.reduceEq, Int.reduceLT, Int.reduceLE, Int.reduceGT, Int.reduceNeg, reduceCtorEq, Int.cast_ofNat_Int, getE_zero, getE_one, getE_two, Option.isSome_none, c, Tr.encs_len, rch3]
    rw [hm, ← e]
  | x :: rest, pre, m, hs, hm => by
    have c : decide ((pre.length : Int) < (cs.length : Int)) = true := by simp [hs]; omega
    have c0 : decide ((0 : Int) ≤ (pre.length : Int)) = true := by simp
    have hget : (Tr.encs cs)[pre.length]? = some x.enc := by rw [hs]; simp [Tr.encs_eq]
    have hlen : pre.length + rest.length + 1 ≤ cs.length := by rw [hs]; simp; omega
    have hcx := hc x (by rw [hs]; simp)
    have IH := l_cpR k n s ks cs hl hkl hc rest (pre ++ [x]) (m + 1) (by rw [hs]; simp) (by simp [hm])
    rw [encs_snoc, show ((pre ++ [x]).length : Int) = (pre.length : Int) + 1 by simp] at IH
    have hol : (Tr.encs pre).length = m := by rw [Tr.encs_len, hm]
    have hml : m ≤ 1048576 := by omega
    clear hs
    obtain ⟨k1, n1, s1, ks1, cs1⟩ := x
    simp only [CpR, Tr.enc, List.map_cons, List.map_nil, zV] at hcx hget IH ⊢
    generalize Tr.encs pre = A at *
    refine loop_eq Try.func33 rfl rfl ?_
    simp (disch := ((try simp only [List.length_cons, List.length_append, List.length_nil, List.length_map]); omega)) only [↓GO, ↓DRW, GA, ren, renB, footX, refs, cellsV, cst, cstAt, nilC, idxAddr, E.load, E.store, binO, isC, bin, ibin, sbin, una, isShift, okCell, packV, lenV, blt, fnV, asArg, snapV, snapS, snapP, snapC, snapX, flatV, flatT, openK, layBack, allT, allZ, mkS, srcOf0, unN, idxV, nilEq, give, tupV, mkEnv, extV, pickV, LVS, OVS, LTS, TYS, PMS, pmT, OWS, ownT, GHS, ghT, DMS, dmT, Int.reduceToNat, Nat.reduceGT, ↓reduceIte, Nat.reduceAdd, Nat.reduceMul, Nat.reduceSub, Nat.reduceEqDiff, Nat.reduceLeDiff, Nat.reduceLT, Nat.reduceBEq, Int.reduceBEq, Int.reduceBNe, Int.reduceEq, Int.reduceLT, Int.reduceLE, Int.reduceGT, Int.reduceNeg, reduceCtorEq, Int.cast_ofNat_Int, getE_zero, getE_one, getE_two, Option.isSome_none, c, c0, Tr.encs_len, hget, hcx, wrap_in, hol, IH, rch3, le_T]
    refine dyn_pos (by kernel_rfl) ?_
    rfl
theorem c_cpR : ∀ (N : Nat) (t : Tr), t.nd ≤ N → t.bulk ≤ 1048576 → CpR t
  | 0, .mk k n' s ks cs, h, _ => by simp [Tr.nd] at h
  | N + 1, .mk k n s ks cs, h, ho => by
    simp only [Tr.nd] at h
    simp only [Tr.bulk] at ho
    have hc : ∀ c ∈ cs, CpR c := fun c hc => c_cpR N c (by have := Tr.nds_mem hc; omega) (by have := Tr.bulks_mem hc; omega)
    have ht2 : (strs ks).take ks.length = strs ks := by rw [← strs_len ks]; simp
    cases cs with
    | nil =>
      have L : EV Try.prog pol (.loop 33 58 0 [.ptr 0 0 0, .ptr 1 0 0, .ptr 2 0 0, .t (.int .i64 0)] [.vs 5 [(Tr.mk k n s ks []).enc.map .t], .vs 5 [zV], .vs 5 [[.t (.int .i64 k), .t (.int .i64 n), .t (.str s), .sl 3 0 ks.length none, .nil 5]], .ts 1 (strs ks)])
          = some (.loop (.exit 0) [.ptr 0 0 0, .ptr 1 0 0] [.vs 5 [zV], .vs 5 [[.t (.int .i64 k), .t (.int .i64 n), .t (.str s), .sl 2 0 ks.length none, .nil 5]], .ts 1 (strs ks)]) := by
        simp only [Tr.enc, Tr.encs, List.map_cons, List.map_nil, zV]
        refine loop_eq Try.func33 rfl rfl ?_
        simp (disch := ((try simp only [List.length_cons, List.length_append, List.length_nil, List.length_map]); omega)) only [↓GO, ↓DRW, GA, ren, renB, footX, refs, cellsV, cst, cstAt, nilC, idxAddr, E.load, E.store, binO, isC, bin, ibin, sbin, una, isShift, okCell, packV, lenV, blt, fnV, asArg, snapV, snapS, snapP, snapC, snapX, flatV, flatT, openK, layBack, allT, allZ, mkS, srcOf0, unN, idxV, nilEq, give, tupV, mkEnv, extV, pickV, LVS, OVS, LTS, TYS, PMS, pmT, OWS, ownT, GHS, ghT, DMS, dmT, Int.reduceToNat, Nat.reduceGT, ↓reduceIte, Nat.reduceAdd, Nat.reduceMul, Nat.reduceSub, Nat.reduceEqDiff, Nat.reduceLeDiff, Nat.reduceLT, Nat.reduceBEq, Int.reduceBEq, Int.reduceBNe, Int.reduceEq, Int.reduceLT, Int.reduceLE, Int.reduceGT, Int.reduceNeg, reduceCtorEq, Int.cast_ofNat_Int, getE_zero, getE_one, getE_two, Option.isSome_none, rch3, List.length_nil, Int.natCast_zero]
      simp only [CpR, Tr.enc, Tr.encs, List.map_cons, List.map_nil, zV] at L ⊢
      apply eq_call
      refine call_eq rfl Try.func33 rfl (by kernel_rfl) ?_
      unfold Try.f33
      simp (disch := ((try simp only [List.length_cons, List.length_append, List.length_nil, List.length_map]); omega)) only [↓GO, ↓DRW, GA, ren, renB, footX, refs, cellsV, cst, cstAt, nilC, idxAddr, E.load, E.store, binO, isC, bin, ibin, sbin, una, isShift, okCell, packV, lenV, blt, fnV, asArg, snapV, snapS, snapP, snapC, snapX, flatV, flatT, openK, layBack, allT, allZ, mkS, srcOf0, unN, idxV, nilEq, give, tupV, mkEnv, extV, pickV, LVS, OVS, LTS, TYS, PMS, pmT, OWS, ownT, GHS, ghT, DMS, dmT, Int.reduceToNat, Nat.reduceGT, ↓reduceIte, Nat.reduceAdd, Nat.reduceMul, Nat.reduceSub, Nat.reduceEqDiff, Nat.reduceLeDiff, Nat.reduceLT, Nat.reduceBEq, Int.reduceBEq, Int.reduceBNe, Int.reduceEq, Int.reduceLT, Int.reduceLE, Int.reduceGT, Int.reduceNeg, reduceCtorEq, Int.cast_ofNat_Int, getE_zero, getE_one, getE_two, Option.isSome_none, L, strs_len, ht2, rch3, le_T]
      refine dyn_pos (by kernel_rfl) ?_
      rfl
    | cons x rest =>
      have hcx := hc x (by simp)
      have L := l_cpR k n s ks (x :: rest) (by omega) (by omega) hc rest [x] 1 rfl rfl
      have L0 : EV Try.prog pol (.loop 33 58 0 [.ptr 0 0 0, .ptr 1 0 0, .ptr 2 0 0, .t (.int .i64 0)] [.vs 5 [(Tr.mk k n s ks (x :: rest)).enc.map .t], .vs 5 [zV], .vs 5 [[.t (.int .i64 k), .t (.int .i64 n), .t (.str s), .sl 3 0 ks.length none, .nil 5]], .ts 1 (strs ks)])
          = some (.loop (.exit 0) [.ptr 0 0 0, .ptr 1 0 0] [.vs 5 [zV], .vs 5 [[.t (.int .i64 k), .t (.int .i64 n), .t (.str s), .sl 2 0 ks.length none, .sl 3 0 (x :: rest).length none]], .ts 1 (strs ks), .ts 5 (Tr.encs (x :: rest))]) := by
        have c : decide ((0 : Int) < ((x :: rest).length : Int)) = true := by apply decide_eq_true; simp only [List.length_cons]; omega
        have hget : (Tr.encs (x :: rest))[0]? = some x.enc := rfl
        obtain ⟨k1, n1, s1, ks1, cs1⟩ := x
        have e1 : Tr.encs [.mk k1 n1 s1 ks1 cs1] = [(Tr.mk k1 n1 s1 ks1 cs1).enc] := by simp [Tr.encs_eq]
        rw [e1] at L
        simp only [CpR, Tr.enc, List.map_cons, List.map_nil, zV, List.length_cons, List.length_nil, Nat.zero_add] at hcx hget L ⊢
        generalize Tr.mk k1 n1 s1 ks1 cs1 :: rest = cs at *
        refine loop_eq Try.func33 rfl rfl ?_
        simp (disch := ((try simp only [List.length_cons, List.length_append, List.length_nil, List.length_map]); omega)) only [↓GO, ↓DRW, GA, ren, renB, footX, refs, cellsV, cst, cstAt, nilC, idxAddr, E.load, E.store, binO, isC, bin, ibin, sbin, una, isShift, okCell, packV, lenV, blt, fnV, asArg, snapV, snapS, snapP, snapC, snapX, flatV, flatT, openK, layBack, allT, allZ, mkS, srcOf0, unN, idxV, nilEq, give, tupV, mkEnv, extV, pickV, LVS, OVS, LTS, TYS, PMS, pmT, OWS, ownT, GHS, ghT, DMS, dmT, Int.reduceToNat, Nat.reduceGT, ↓reduceIte, Nat.reduceAdd, Nat.reduceMul, Nat.reduceSub, Nat.reduceEqDiff, Nat.reduceLeDiff, Nat.reduceLT, Nat.reduceBEq, Int.reduceBEq, Int.reduceBNe, Int.reduceEq, Int.reduceLT, Int.reduceLE, Int.reduceGT, Int.reduceNeg, reduceCtorEq, Int.cast_ofNat_Int, getE_zero, getE_one, getE_two, Option.isSome_none, c, Tr.encs_len, getE_zero, hget, hcx, wrap_in, Int.reduceAdd, L, rch3, le_T, List.length_nil, Int.natCast_zero]
        try (refine dyn_pos (by kernel_rfl) ?_; first | rfl | exact L)
      have ht : (Tr.encs (x :: rest)).take (x :: rest).length = Tr.encs (x :: rest) := by rw [← Tr.encs_len (x :: rest)]; simp
      clear L
      generalize x :: rest = cs at *
      simp only [CpR, Tr.enc, List.map_cons, List.map_nil, zV] at L0 ⊢
      apply eq_call
      refine call_eq rfl Try.func33 rfl (by kernel_rfl) ?_
      unfold Try.f33
      simp (disch := ((try simp only [List.length_cons, List.length_append, List.length_nil, List.length_map]); omega)) only [↓GO, ↓DRW, GA, ren, renB, footX, refs, cellsV, cst, cstAt, nilC, idxAddr, E.load, E.store, binO, isC, bin, ibin, sbin, una, isShift, okCell, packV, lenV, blt, fnV, asArg, snapV, snapS, snapP, snapC, snapX, flatV, flatT, openK, layBack, allT, allZ, mkS, srcOf0, unN, idxV, nilEq, give, tupV, mkEnv, extV, pickV, LVS, OVS, LTS, TYS, PMS, pmT, OWS, ownT, GHS, ghT, DMS, dmT, Int.reduceToNat, Nat.reduceGT, ↓reduceIte, Nat.reduceAdd, Nat.reduceMul, Nat.reduceSub, Nat.reduceEqDiff, Nat.reduceLeDiff, Nat.reduceLT, Nat.reduceBEq, Int.reduceBEq, Int.reduceBNe, Int.reduceEq, Int.reduceLT, Int.reduceLE, Int.reduceGT, Int.reduceNeg, reduceCtorEq, Int.cast_ofNat_Int, getE_zero, getE_one, getE_two, Option.isSome_none, L0, strs_len, ht, ht2, rch3, le_T]
      refine dyn_pos (by kernel_rfl) ?_
      rfl
end Go.Proofs.Ytcphjdfmjhijkaa
/- Trees copied by the implementation: their memory is their own; what stands under a key, by both. Conditions: those of each lemma. -/
namespace Go.Proofs.Ytcphjdfmjhijkaa
open E
set_option linter.unusedSimpArgs false
set_option linter.unusedVariables false
set_option maxRecDepth 100000
def CpO (t : Tr) : Prop := ∃ cap, EV Try.prog pol (.callO false 34 [.agg (t.enc.map .t)] []) = some (.call (match t with
  | .mk k n s ks cs => .agg [.t (.int .i64 k), .t (.int .i64 n), .t (.str s), .sl 0 0 ks.length none, .sl 1 0 cs.length cap]) (match t with | .mk k n s ks cs => [.ts 1 (strs ks), .vs 5 (ocE (Tr.encs cs))]))
theorem l_cpO (k n : Int) (s : Str) (ks : List Str) (cs : List Tr) (hl : cs.length ≤ 1048576) (hkl : ks.length ≤ 1048576) (hc : ∀ c ∈ cs, CpO c) : ∀ (rest pre : List Tr) (m : Nat) (cap : Option Nat), cs = pre ++ rest → m = pre.length →
    ∃ cap', EV Try.prog pol (.loop 34 122 0 [.ptr 0 0 0, .ptr 1 0 0, .sl 2 0 m cap, .t (.list 5 (Tr.encs cs)), .t (.int .i64 (cs.length : Int)), .t (.int .i64 (pre.length : Int))] [.vs 5 [[.t (.int .i64 k), .t (.int .i64 n), .t (.str s), .sl 3 0 ks.length none, .t (.list 5 (Tr.encs cs))]], .vs 5 [zV], .vs 5 (ocE (Tr.encs pre)), .ts 1 (strs ks)])
      = some (.loop (.exit 0) [.ptr 0 0 0, .ptr 1 0 0, .sl 2 0 cs.length cap'] [.vs 5 [[.t (.int .i64 k), .t (.int .i64 n), .t (.str s), .sl 3 0 ks.length none, .t (.list 5 (Tr.encs cs))]], .vs 5 [zV], .vs 5 (ocE (Tr.encs cs)), .ts 1 (strs ks)])
  | [], pre, m, cap, hs, hm => by
    have c : decide ((pre.length : Int) < (cs.length : Int)) = false := by simp [hs]
    have e : cs = pre := by simpa using hs
    refine ⟨cap, ?_⟩
    simp only [zV]
    refine loop_eq Try.func34 rfl rfl ?_
    simp (disch := ((try simp only [List.length_cons, List.length_append, List.length_nil, List.length_map]); omega)) only [↓GO, ↓DRW, GA, ren, renB, footX, refs, cellsV, cst, cstAt, nilC, idxAddr, E.load, E.store, binO, isC, bin, ibin, sbin, una, isShift, okCell, packV, lenV, blt, fnV, asArg, snapV, snapS, snapP, snapC, snapX, flatV, flatT, openK, layBack, allT, allZ, mkS, srcOf0, unN, idxV, nilEq, give, tupV, mkEnv, extV, pickV, LVS, OVS, LTS, TYS, PMS, pmT, OWS, ownT, GHS, ghT, DMS, dmT, Int.reduceToNat, Nat.reduceGT, ↓reduceIte, Nat.reduceAdd, Nat.reduceMul, Nat.reduceSub, Nat.reduceEqDiff, Nat.reduceLeDiff, Nat.reduceLT, Nat.reduceBEq, Int.reduceBEq, Int.reduceBNe, Int.reduceEq, Int.reduceLT, Int.reduceLE, Int.reduceGT, Int.reduceNeg, reduceCtorEq, selK_some, selK_none, bltO, brwK, brwA, brwB, sliceO, mkO, appO, appS, ghOne, ghAt, ghCells, fld1, unf1, setC, oc, oTs, oT, rowT, rowT.rowTs, rowB, isL, Bool.not_false, Bool.true_and, Bool.and_true, Bool.and_self, List.flatMap_append, List.map_append, List.set_cons_zero, List.set_cons_succ, Int.cast_ofNat_Int, getE_zero, getE_one, getE_two, Option.isSome_none, c, Tr.encs_len, ocE_ren, ocE_refs, rch3]
    rw [hm, ← e]
  | x :: rest, pre, m, cap, hs, hm => by
    have c : decide ((pre.length : Int) < (cs.length : Int)) = true := by simp [hs]; omega
    have c0 : decide ((0 : Int) ≤ (pre.length : Int)) = true := by simp
    have hget : (Tr.encs cs)[pre.length]? = some x.enc := by rw [hs]; simp [Tr.encs_eq]
    have hlen : pre.length + rest.length + 1 ≤ cs.length := by rw [hs]; simp; omega
    obtain ⟨cpx, hcx⟩ := hc x (by rw [hs]; simp)
    obtain ⟨cap', IH⟩ := l_cpO k n s ks cs hl hkl hc rest (pre ++ [x]) (m + 1) none (by rw [hs]; simp) (by simp [hm])
    refine ⟨cap', ?_⟩
    rw [encs_snoc, ocE_app, show ((pre ++ [x]).length : Int) = (pre.length : Int) + 1 by simp] at IH
    have hol : (ocE (Tr.encs pre)).length = m := by rw [ocE_len, Tr.encs_len, hm]
    have hml : m ≤ 1048576 := by omega
    have hA := ocE_refs (Tr.encs pre)
    have hR := fun r => ocE_ren r (Tr.encs pre)
    have hm1 : m + 1 - 1 = m := by omega
    have hm0 : ¬ (m + 1 = 0) := by omega
    clear hs
    obtain ⟨k1, n1, s1, ks1, cs1⟩ := x
    have hfl := flatE_strs ks1
    have hot := oT_trs cs1
    have hg1 := fun y => mid_get (ocE (Tr.encs pre)) [] y m hol
    have hs1 := fun y z => mid_set (ocE (Tr.encs pre)) [] y z m hol
    have hle : ∀ y : List V, (ocE (Tr.encs pre) ++ [y]).length = m + 1 := fun y => by simp [hol]
    simp only [Tr.enc, List.map_cons, List.map_nil, zV, ocE_cons, ocE_nil, oc] at hcx hget IH ⊢
    generalize ocE (Tr.encs pre) = A at *
    refine loop_eq Try.func34 rfl rfl ?_
    simp (disch := ((try simp only [List.length_cons, List.length_append, List.length_nil, List.length_map]); omega)) only [↓GO, ↓DRW, GA, ren, renB, footX, refs, cellsV, cst, cstAt, nilC, idxAddr, E.load, E.store, binO, isC, bin, ibin, sbin, una, isShift, okCell, packV, lenV, blt, fnV, asArg, snapV, snapS, snapP, snapC, snapX, flatV, flatT, openK, layBack, allT, allZ, mkS, srcOf0, unN, idxV, nilEq, give, tupV, mkEnv, extV, pickV, LVS, OVS, LTS, TYS, PMS, pmT, OWS, ownT, GHS, ghT, DMS, dmT, Int.reduceToNat, Nat.reduceGT, ↓reduceIte, Nat.reduceAdd, Nat.reduceMul, Nat.reduceSub, Nat.reduceEqDiff, Nat.reduceLeDiff, Nat.reduceLT, Nat.reduceBEq, Int.reduceBEq, Int.reduceBNe, Int.reduceEq, Int.reduceLT, Int.reduceLE, Int.reduceGT, Int.reduceNeg, reduceCtorEq, selK_some, selK_none, bltO, brwK, brwA, brwB, sliceO, mkO, appO, appS, ghOne, ghAt, ghCells, fld1, unf1, setC, oc, oTs, oT, rowT, rowT.rowTs, rowB, isL, Bool.not_false, Bool.true_and, Bool.and_true, Bool.and_self, List.flatMap_append, List.map_append, List.set_cons_zero, List.set_cons_succ, Int.cast_ofNat_Int, getE_zero, getE_one, getE_two, Option.isSome_none, c, c0, Tr.encs_len, hget, hcx, wrap_in, hol, hA, hR, hm1, hm0, if_false, hg1, hs1, hle, hfl, hot, strs_len, ocE_len, ocE_ren, ocE_refs, IH, rch3, le_T]
theorem c_cpO : ∀ (N : Nat) (t : Tr), t.nd ≤ N → t.bulk ≤ 1048576 → CpO t
  | 0, .mk k n' s ks cs, h, _ => by simp [Tr.nd] at h
  | N + 1, .mk k n s ks cs, h, ho => by
    simp only [Tr.nd] at h
    simp only [Tr.bulk] at ho
    have hc : ∀ c ∈ cs, CpO c := fun c hc => c_cpO N c (by have := Tr.nds_mem hc; omega) (by have := Tr.bulks_mem hc; omega)
    obtain ⟨cap, L⟩ := l_cpO k n s ks cs (by omega) (by omega) hc cs [] 0 (some 0) rfl rfl
    refine ⟨cap, ?_⟩
    have d1 := c_cloneS (strs ks) (by rw [strs_len]; omega)
    rw [strs_len] at d1
    simp only [List.length_nil, Int.natCast_zero, show ocE (Tr.encs []) = [] from rfl] at L
    simp only [Tr.enc, List.map_cons, List.map_nil, zV] at L ⊢
    refine callO_eq Try.func34 rfl (by kernel_rfl) ?_
    unfold Try.f34
    simp (disch := ((try simp only [List.length_cons, List.length_append, List.length_nil, List.length_map]); omega)) only [↓GO, ↓DRW, GA, ren, renB, footX, refs, cellsV, cst, cstAt, nilC, idxAddr, E.load, E.store, binO, isC, bin, ibin, sbin, una, isShift, okCell, packV, lenV, blt, fnV, asArg, snapV, snapS, snapP, snapC, snapX, flatV, flatT, openK, layBack, allT, allZ, mkS, srcOf0, unN, idxV, nilEq, give, tupV, mkEnv, extV, pickV, LVS, OVS, LTS, TYS, PMS, pmT, OWS, ownT, GHS, ghT, DMS, dmT, Int.reduceToNat, Nat.reduceGT, ↓reduceIte, Nat.reduceAdd, Nat.reduceMul, Nat.reduceSub, Nat.reduceEqDiff, Nat.reduceLeDiff, Nat.reduceLT, Nat.reduceBEq, Int.reduceBEq, Int.reduceBNe, Int.reduceEq, Int.reduceLT, Int.reduceLE, Int.reduceGT, Int.reduceNeg, reduceCtorEq, selK_some, selK_none, bltO, brwK, brwA, brwB, sliceO, mkO, appO, appS, ghOne, ghAt, ghCells, fld1, unf1, setC, oc, oTs, oT, rowT, rowT.rowTs, rowB, isL, Bool.not_false, Bool.true_and, Bool.and_true, Bool.and_self, List.flatMap_append, List.map_append, List.set_cons_zero, List.set_cons_succ, Int.cast_ofNat_Int, getE_zero, getE_one, getE_two, Option.isSome_none, d1, L, Tr.encs_len, ocE_ren, ocE_refs, rch3]
/-! ### What stands under a key -/
/-- the first place of a key, from i on -/
def ixS (key : Str) : Nat → List Str → Int
  | _, [] => -1
  | i, k :: r => cond (k == key) (i : Int) (ixS key (i + 1) r)
def atI (key : Str) : Nat → List Str → Nat → Int
  | i, k :: r, m + 1 => cond (k == key) (i : Int) (atI key (i + 1) r m)
  | _, _, _ => -1
theorem ixS_rng (key : Str) : ∀ (r : List Str) (i : Nat), ixS key i r = -1 ∨ ((i : Int) ≤ ixS key i r ∧ ixS key i r < ((i + r.length : Nat) : Int))
  | [], i => .inl rfl
  | k :: r, i => by
    rw [ixS]
    cases hk : (k == key) with
    | true => right; simp only [cond_true, List.length_cons]; omega
    | false =>
      simp only [cond_false, List.length_cons]
      rcases ixS_rng key r (i + 1) with h | h
      · exact .inl h
      · right; omega
theorem at_ix (key : Str) : ∀ (r : List Str) (i m : Nat), atI key i r m = cond (decide (ixS key i r ≥ 0) && decide (ixS key i r < ((i + m : Nat) : Int))) (ixS key i r) (-1)
  | [], i, m => by cases m <;> simp [atI, ixS]
  | k :: r, i, 0 => by
    have := ixS_rng key (k :: r) i
    have hd : (decide (ixS key i (k :: r) ≥ 0) && decide (ixS key i (k :: r) < ((i + 0 : Nat) : Int))) = false := by
      simp only [Bool.and_eq_false_iff, decide_eq_false_iff_not]
      omega
    rw [hd]; simp [atI]
  | k :: r, i, m + 1 => by
    rw [atI, ixS]
    cases hk : (k == key) with
    | true =>
      have hd : (decide ((i : Int) ≥ 0) && decide ((i : Int) < ((i + (m + 1) : Nat) : Int))) = true := by
        simp only [Bool.and_eq_true, decide_eq_true_eq]; omega
      simp only [cond_true, hd]
    | false =>
      simp only [cond_false]
      rw [at_ix key r (i + 1) m, show i + 1 + m = i + (m + 1) by omega]
theorem l_ix (key : Str) (ks : List Str) (hl : ks.length ≤ 1048576) : ∀ (rest pre : List Str), ks = pre ++ rest → ∃ x,
    EV Try.prog pol (.loop 39 26 0 [.t (.list 1 (strs ks)), .t (.str key), .t (.int .i64 (ks.length : Int)), .t (.int .i64 (pre.length : Int))] []) = some (cond (decide (ixS key pre.length rest ≥ 0)) (.loop .ret [.t (.int .i64 (ixS key pre.length rest))] []) (.loop (.exit 0) [x] []))
  | [], pre, hs => by
    have c : decide ((pre.length : Int) < (ks.length : Int)) = false := by simp [hs]
    refine ⟨.bad, ?_⟩
    show _ = some (Resp.loop (.exit 0) [.bad] [])
    refine loop_eq Try.func39 rfl rfl ?_
    simp (disch := ((try simp only [List.length_cons, List.length_append, List.length_nil, List.length_map]); omega)) only [↓GO, ↓DRW, GA, ren, renB, footX, refs, cellsV, cst, cstAt, nilC, idxAddr, E.load, E.store, binO, isC, bin, ibin, sbin, una, isShift, okCell, packV, lenV, blt, fnV, asArg, snapV, snapS, snapP, snapC, snapX, flatV, flatT, openK, layBack, allT, allZ, mkS, srcOf0, unN, idxV, nilEq, give, tupV, mkEnv, extV, pickV, LVS, OVS, LTS, TYS, PMS, pmT, OWS, ownT, GHS, ghT, DMS, dmT, Int.reduceToNat, Nat.reduceGT, ↓reduceIte, Nat.reduceAdd, Nat.reduceMul, Nat.reduceSub, Nat.reduceEqDiff, Nat.reduceLeDiff, Nat.reduceLT, Nat.reduceBEq, Int.reduceBEq, Int.reduceBNe, Int.reduceEq, Int.reduceLT, Int.reduceLE, Int.reduceGT, Int.reduceNeg, reduceCtorEq, Int.cast_ofNat_Int, getE_zero, getE_one, getE_two, Option.isSome_none, c]
  | x :: rest, pre, hs => by
    have c : decide ((pre.length : Int) < (ks.length : Int)) = true := by simp [hs]; omega
    have hget : (strs ks)[pre.length]? = some [.str x] := by rw [hs]; simp [strs]
    have hlen : pre.length + rest.length + 1 ≤ ks.length := by rw [hs]; simp; omega
    obtain ⟨y, IH⟩ := l_ix key ks hl rest (pre ++ [x]) (by rw [hs]; simp)
    refine ⟨y, ?_⟩
    rw [show ((pre ++ [x]).length : Int) = (pre.length : Int) + 1 by simp, show (pre ++ [x]).length = pre.length + 1 by simp] at IH
    have hsym : (key == x) = (x == key) := by rw [Bool.eq_iff_iff]; simp only [beq_iff_eq]; exact eq_comm
    clear hs
    rw [ixS]
    cases hk : (x == key) <;> rw [hk] at hsym
    · simp only [cond_false]
      refine loop_eq Try.func39 rfl rfl ?_
      simp (disch := ((try simp only [List.length_cons, List.length_append, List.length_nil, List.length_map]); omega)) only [↓GO, ↓DRW, GA, ren, renB, footX, refs, cellsV, cst, cstAt, nilC, idxAddr, E.load, E.store, binO, isC, bin, ibin, sbin, una, isShift, okCell, packV, lenV, blt, fnV, asArg, snapV, snapS, snapP, snapC, snapX, flatV, flatT, openK, layBack, allT, allZ, mkS, srcOf0, unN, idxV, nilEq, give, tupV, mkEnv, extV, pickV, LVS, OVS, LTS, TYS, PMS, pmT, OWS, ownT, GHS, ghT, DMS, dmT, Int.reduceToNat, Nat.reduceGT, ↓reduceIte, Nat.reduceAdd, Nat.reduceMul, Nat.reduceSub, Nat.reduceEqDiff, Nat.reduceLeDiff, Nat.reduceLT, Nat.reduceBEq, Int.reduceBEq, Int.reduceBNe, Int.reduceEq, Int.reduceLT, Int.reduceLE, Int.reduceGT, Int.reduceNeg, reduceCtorEq, Int.cast_ofNat_Int, getE_zero, getE_one, getE_two, Option.isSome_none, c, hget, wrap_in, hsym, IH]
    · simp only [cond_true, show decide (((pre.length : Nat) : Int) ≥ 0) = true by simp]
      refine loop_eq Try.func39 rfl rfl ?_
      simp (disch := ((try simp only [List.length_cons, List.length_append, List.length_nil, List.length_map]); omega)) only [↓GO, ↓DRW, GA, ren, renB, footX, refs, cellsV, cst, cstAt, nilC, idxAddr, E.load, E.store, binO, isC, bin, ibin, sbin, una, isShift, okCell, packV, lenV, blt, fnV, asArg, snapV, snapS, snapP, snapC, snapX, flatV, flatT, openK, layBack, allT, allZ, mkS, srcOf0, unN, idxV, nilEq, give, tupV, mkEnv, extV, pickV, LVS, OVS, LTS, TYS, PMS, pmT, OWS, ownT, GHS, ghT, DMS, dmT, Int.reduceToNat, Nat.reduceGT, ↓reduceIte, Nat.reduceAdd, Nat.reduceMul, Nat.reduceSub, Nat.reduceEqDiff, Nat.reduceLeDiff, Nat.reduceLT, Nat.reduceBEq, Int.reduceBEq, Int.reduceBNe, Int.reduceEq, Int.reduceLT, Int.reduceLE, Int.reduceGT, Int.reduceNeg, reduceCtorEq, Int.cast_ofNat_Int, getE_zero, getE_one, getE_two, Option.isSome_none, c, hget, wrap_in, hsym]
theorem c_ix (key : Str) (ks : List Str) (hl : ks.length ≤ 1048576) : callPure (EV Try.prog pol) 39 [.t (.list 1 (strs ks)), .t (.str key)] = some (.t (.int .i64 (ixS key 0 ks))) := by
  obtain ⟨x, L⟩ := l_ix key ks hl ks [] rfl
  have hr := ixS_rng key ks 0
  simp only [List.length_nil, Int.natCast_zero] at L
  cases hd : decide (ixS key 0 ks ≥ 0) with
  | true =>
    rw [hd] at L
    simp only [cond_true] at L
    apply eq_call
    refine call_eq rfl Try.func39 rfl (by kernel_rfl) ?_
    unfold Try.f39
    simp (disch := ((try simp only [List.length_cons, List.length_append, List.length_nil, List.length_map]); omega)) only [↓GO, ↓DRW, GA, ren, renB, footX, refs, cellsV, cst, cstAt, nilC, idxAddr, E.load, E.store, binO, isC, bin, ibin, sbin, una, isShift, okCell, packV, lenV, blt, fnV, asArg, snapV, snapS, snapP, snapC, snapX, flatV, flatT, openK, layBack, allT, allZ, mkS, srcOf0, unN, idxV, nilEq, give, tupV, mkEnv, extV, pickV, LVS, OVS, LTS, TYS, PMS, pmT, OWS, ownT, GHS, ghT, DMS, dmT, Int.reduceToNat, Nat.reduceGT, ↓reduceIte, Nat.reduceAdd, Nat.reduceMul, Nat.reduceSub, Nat.reduceEqDiff, Nat.reduceLeDiff, Nat.reduceLT, Nat.reduceBEq, Int.reduceBEq, Int.reduceBNe, Int.reduceEq, Int.reduceLT, Int.reduceLE, Int.reduceGT, Int.reduceNeg, reduceCtorEq, Int.cast_ofNat_Int, getE_zero, getE_one, getE_two, Option.isSome_none, L, strs_len]
  | false =>
    rw [hd] at L
    have h := of_decide_eq_false hd
    rw [show ixS key 0 ks = -1 by omega]
    simp only [cond_false] at L
    apply eq_call
    refine call_eq rfl Try.func39 rfl (by kernel_rfl) ?_
    unfold Try.f39
    simp (disch := ((try simp only [List.length_cons, List.length_append, List.length_nil, List.length_map]); omega)) only [↓GO, ↓DRW, GA, ren, renB, footX, refs, cellsV, cst, cstAt, nilC, idxAddr, E.load, E.store, binO, isC, bin, ibin, sbin, una, isShift, okCell, packV, lenV, blt, fnV, asArg, snapV, snapS, snapP, snapC, snapX, flatV, flatT, openK, layBack, allT, allZ, mkS, srcOf0, unN, idxV, nilEq, give, tupV, mkEnv, extV, pickV, LVS, OVS, LTS, TYS, PMS, pmT, OWS, ownT, GHS, ghT, DMS, dmT, Int.reduceToNat, Nat.reduceGT, ↓reduceIte, Nat.reduceAdd, Nat.reduceMul, Nat.reduceSub, Nat.reduceEqDiff, Nat.reduceLeDiff, Nat.reduceLT, Nat.reduceBEq, Int.reduceBEq, Int.reduceBNe, Int.reduceEq, Int.reduceLT, Int.reduceLE, Int.reduceGT, Int.reduceNeg, reduceCtorEq, Int.cast_ofNat_Int, getE_zero, getE_one, getE_two, Option.isSome_none, L, strs_len]
theorem l_atR (key : Str) (k n : Int) (s : Str) (ks : List Str) (cs : List Tr) (hl : ks.length ≤ 1048576) (hl2 : cs.length ≤ 1048576) (hk : (k == 6) = true) : ∀ (rest pre : List Str) (m : Nat), ks = pre ++ rest → m + pre.length = cs.length ∨ (m = 0 ∧ cs.length ≤ pre.length) → ∃ x,
    EV Try.prog pol (.loop 38 26 0 [.t (.str key), .ptr 0 0 0, .t (.int .i64 (pre.length : Int))] [.vs 5 [(Tr.mk k n s ks cs).enc.map .t]]) = some (cond (decide (atI key pre.length rest m ≥ 0)) (.loop .ret [.t (.int .i64 (atI key pre.length rest m))] []) (.loop (.exit 0) [x] []))
  | [], pre, m, hs, hm => by
    have c : decide ((pre.length : Int) < (ks.length : Int)) = false := by simp [hs]
    refine ⟨.bad, ?_⟩
    have e : atI key pre.length [] m = -1 := by cases m <;> rfl
    rw [e]
    show _ = some (Resp.loop (.exit 0) [.bad] [])
    simp only [Tr.enc, List.map_cons, List.map_nil]
    refine loop_eq Try.func38 rfl rfl ?_
    simp (disch := ((try simp only [List.length_cons, List.length_append, List.length_nil, List.length_map]); omega)) only [↓GO, ↓DRW, GA, ren, renB, footX, refs, cellsV, cst, cstAt, nilC, idxAddr, E.load, E.store, binO, isC, bin, ibin, sbin, una, isShift, okCell, packV, lenV, blt, fnV, asArg, snapV, snapS, snapP, snapC, snapX, flatV, flatT, openK, layBack, allT, allZ, mkS, srcOf0, unN, idxV, nilEq, give, tupV, mkEnv, extV, pickV, LVS, OVS, LTS, TYS, PMS, pmT, OWS, ownT, GHS, ghT, DMS, dmT, Int.reduceToNat, Nat.reduceGT, ↓reduceIte, Nat.reduceAdd, Nat.reduceMul, Nat.reduceSub, Nat.reduceEqDiff, Nat.reduceLeDiff, Nat.reduceLT, Nat.reduceBEq, Int.reduceBEq, Int.reduceBNe, Int.reduceEq, Int.reduceLT, Int.reduceLE, Int.reduceGT, Int.reduceNeg, reduceCtorEq, Int.cast_ofNat_Int, getE_zero, getE_one, getE_two, Option.isSome_none, c, strs_len, Tr.encs_len, hk]
  | x :: rest, pre, 0, hs, hm => by
    have c : decide ((pre.length : Int) < (ks.length : Int)) = true := by simp [hs]; omega
    have c2 : decide ((pre.length : Int) < (cs.length : Int)) = false := by apply decide_eq_false; omega
    refine ⟨.bad, ?_⟩
    show _ = some (Resp.loop (.exit 0) [.bad] [])
    simp only [Tr.enc, List.map_cons, List.map_nil]
    refine loop_eq Try.func38 rfl rfl ?_
    simp (disch := ((try simp only [List.length_cons, List.length_append, List.length_nil, List.length_map]); omega)) only [↓GO, ↓DRW, GA, ren, renB, footX, refs, cellsV, cst, cstAt, nilC, idxAddr, E.load, E.store, binO, isC, bin, ibin, sbin, una, isShift, okCell, packV, lenV, blt, fnV, asArg, snapV, snapS, snapP, snapC, snapX, flatV, flatT, openK, layBack, allT, allZ, mkS, srcOf0, unN, idxV, nilEq, give, tupV, mkEnv, extV, pickV, LVS, OVS, LTS, TYS, PMS, pmT, OWS, ownT, GHS, ghT, DMS, dmT, Int.reduceToNat, Nat.reduceGT, ↓reduceIte, Nat.reduceAdd, Nat.reduceMul, Nat.reduceSub, Nat.reduceEqDiff, Nat.reduceLeDiff, Nat.reduceLT, Nat.reduceBEq, Int.reduceBEq, Int.reduceBNe, Int.reduceEq, Int.reduceLT, Int.reduceLE, Int.reduceGT, Int.reduceNeg, reduceCtorEq, Int.cast_ofNat_Int, getE_zero, getE_one, getE_two, Option.isSome_none, c, c2, strs_len, Tr.encs_len, hk]
  | x :: rest, pre, m + 1, hs, hm => by
    have c : decide ((pre.length : Int) < (ks.length : Int)) = true := by simp [hs]; omega
    have c2 : decide ((pre.length : Int) < (cs.length : Int)) = true := by apply decide_eq_true; omega
    have hget : (strs ks)[pre.length]? = some [.str x] := by rw [hs]; simp [strs]
    have hlen : pre.length + rest.length + 1 ≤ ks.length := by rw [hs]; simp; omega
    obtain ⟨y, IH⟩ := l_atR key k n s ks cs hl hl2 hk rest (pre ++ [x]) m (by rw [hs]; simp) (by simp; omega)
    refine ⟨y, ?_⟩
    rw [show ((pre ++ [x]).length : Int) = (pre.length : Int) + 1 by simp, show (pre ++ [x]).length = pre.length + 1 by simp] at IH
    clear hs
    rw [atI]
    simp only [Tr.enc, List.map_cons, List.map_nil] at IH ⊢
    cases hx : (x == key)
    · simp only [cond_false]
      refine loop_eq Try.func38 rfl rfl ?_
      simp (disch := ((try simp only [List.length_cons, List.length_append, List.length_nil, List.length_map]); omega)) only [↓GO, ↓DRW, GA, ren, renB, footX, refs, cellsV, cst, cstAt, nilC, idxAddr, E.load, E.store, binO, isC, bin, ibin, sbin, una, isShift, okCell, packV, lenV, blt, fnV, asArg, snapV, snapS, snapP, snapC, snapX, flatV, flatT, openK, layBack, allT, allZ, mkS, srcOf0, unN, idxV, nilEq, give, tupV, mkEnv, extV, pickV, LVS, OVS, LTS, TYS, PMS, pmT, OWS, ownT, GHS, ghT, DMS, dmT, Int.reduceToNat, Nat.reduceGT, ↓reduceIte, Nat.reduceAdd, Nat.reduceMul, Nat.reduceSub, Nat.reduceEqDiff, Nat.reduceLeDiff, Nat.reduceLT, Nat.reduceBEq, Int.reduceBEq, Int.reduceBNe, Int.reduceEq, Int.reduceLT, Int.reduceLE, Int.reduceGT, Int.reduceNeg, reduceCtorEq, Int.cast_ofNat_Int, getE_zero, getE_one, getE_two, Option.isSome_none, c, c2, strs_len, Tr.encs_len, hk, hget, wrap_in, hx, IH]
    · simp only [cond_true, show decide (((pre.length : Nat) : Int) ≥ 0) = true by simp]
      refine loop_eq Try.func38 rfl rfl ?_
      simp (disch := ((try simp only [List.length_cons, List.length_append, List.length_nil, List.length_map]); omega)) only [↓GO, ↓DRW, GA, ren, renB, footX, refs, cellsV, cst, cstAt, nilC, idxAddr, E.load, E.store, binO, isC, bin, ibin, sbin, una, isShift, okCell, packV, lenV, blt, fnV, asArg, snapV, snapS, snapP, snapC, snapX, flatV, flatT, openK, layBack, allT, allZ, mkS, srcOf0, unN, idxV, nilEq, give, tupV, mkEnv, extV, pickV, LVS, OVS, LTS, TYS, PMS, pmT, OWS, ownT, GHS, ghT, DMS, dmT, Int.reduceToNat, Nat.reduceGT, ↓reduceIte, Nat.reduceAdd, Nat.reduceMul, Nat.reduceSub, Nat.reduceEqDiff, Nat.reduceLeDiff, Nat.reduceLT, Nat.reduceBEq, Int.reduceBEq, Int.reduceBNe, Int.reduceEq, Int.reduceLT, Int.reduceLE, Int.reduceGT, Int.reduceNeg, reduceCtorEq, Int.cast_ofNat_Int, getE_zero, getE_one, getE_two, Option.isSome_none, c, c2, strs_len, Tr.encs_len, hk, hget, wrap_in, hx]
theorem c_atR (key : Str) (k n : Int) (s : Str) (ks : List Str) (cs : List Tr) (hl : ks.length ≤ 1048576) (hl2 : cs.length ≤ 1048576) :
    callPure (EV Try.prog pol) 38 [.agg ((Tr.mk k n s ks cs).enc.map .t), .t (.str key)] = some (.t (.int .i64 (cond (k == 6) (atI key 0 ks cs.length) (-1)))) := by
  cases hk : (k == 6) with
  | false =>
    have L : EV Try.prog pol (.loop 38 26 0 [.t (.str key), .ptr 0 0 0, .t (.int .i64 0)] [.vs 5 [(Tr.mk k n s ks cs).enc.map .t]]) = some (.loop (.exit 0) [.bad] []) := by
      simp only [Tr.enc, List.map_cons, List.map_nil]
      refine loop_eq Try.func38 rfl rfl ?_
      cases c1 : decide ((0 : Int) < (ks.length : Int)) <;> cases c2 : decide ((0 : Int) < (cs.length : Int))
      all_goals
        simp (disch := ((try simp only [List.length_cons, List.length_append, List.length_nil, List.length_map]); omega)) only [↓GO, ↓DRW, GA, ren, renB, footX, refs, cellsV, cst, cstAt, nilC, idxAddr, E.load, E.store, binO, isC, bin, ibin, sbin, una, isShift, okCell, packV, lenV, blt, fnV, asArg, snapV, snapS, snapP, snapC, snapX, flatV, flatT, openK, layBack, allT, allZ, mkS, srcOf0, unN, idxV, nilEq, give, tupV, mkEnv, extV, pickV, LVS, OVS, LTS, TYS, PMS, pmT, OWS, ownT, GHS, ghT, DMS, dmT, Int.reduceToNat, Nat.reduceGT, ↓reduceIte, Nat.reduceAdd, Nat.reduceMul, Nat.reduceSub, Nat.reduceEqDiff, Nat.reduceLeDiff, Nat.reduceLT, Nat.reduceBEq, Int.reduceBEq, Int.reduceBNe, Int.reduceEq, Int.reduceLT, Int.reduceLE, Int.reduceGT, Int.reduceNeg, reduceCtorEq, Int.cast_ofNat_Int, getE_zero, getE_one, getE_two, Option.isSome_none, c1, c2, strs_len, Tr.encs_len, hk]
    simp only [Tr.enc, List.map_cons, List.map_nil, cond_false] at L ⊢
    apply eq_call
    refine call_eq rfl Try.func38 rfl (by kernel_rfl) ?_
    unfold Try.f38
    simp (disch := ((try simp only [List.length_cons, List.length_append, List.length_nil, List.length_map]); omega)) only [↓GO, ↓DRW, GA, ren, renB, footX, refs, cellsV, cst, cstAt, nilC, idxAddr, E.load, E.store, binO, isC, bin, ibin, sbin, una, isShift, okCell, packV, lenV, blt, fnV, asArg, snapV, snapS, snapP, snapC, snapX, flatV, flatT, openK, layBack, allT, allZ, mkS, srcOf0, unN, idxV, nilEq, give, tupV, mkEnv, extV, pickV, LVS, OVS, LTS, TYS, PMS, pmT, OWS, ownT, GHS, ghT, DMS, dmT, Int.reduceToNat, Nat.reduceGT, ↓reduceIte, Nat.reduceAdd, Nat.reduceMul, Nat.reduceSub, Nat.reduceEqDiff, Nat.reduceLeDiff, Nat.reduceLT, Nat.reduceBEq, Int.reduceBEq, Int.reduceBNe, Int.reduceEq, Int.reduceLT, Int.reduceLE, Int.reduceGT, Int.reduceNeg, reduceCtorEq, Int.cast_ofNat_Int, getE_zero, getE_one, getE_two, Option.isSome_none, L]
  | true =>
    obtain ⟨x, L⟩ := l_atR key k n s ks cs hl hl2 hk ks [] cs.length rfl (.inl rfl)
    have ha := at_ix key ks 0 cs.length
    have hr := ixS_rng key ks 0
    simp only [List.length_nil, Int.natCast_zero] at L
    simp only [Tr.enc, List.map_cons, List.map_nil, cond_true] at L ⊢
    cases hd : decide (atI key 0 ks cs.length ≥ 0) with
    | true =>
      rw [hd] at L
      simp only [cond_true] at L
      apply eq_call
      refine call_eq rfl Try.func38 rfl (by kernel_rfl) ?_
      unfold Try.f38
      simp (disch := ((try simp only [List.length_cons, List.length_append, List.length_nil, List.length_map]); omega)) only [↓GO, ↓DRW, GA, ren, renB, footX, refs, cellsV, cst, cstAt, nilC, idxAddr, E.load, E.store, binO, isC, bin, ibin, sbin, una, isShift, okCell, packV, lenV, blt, fnV, asArg, snapV, snapS, snapP, snapC, snapX, flatV, flatT, openK, layBack, allT, allZ, mkS, srcOf0, unN, idxV, nilEq, give, tupV, mkEnv, extV, pickV, LVS, OVS, LTS, TYS, PMS, pmT, OWS, ownT, GHS, ghT, DMS, dmT, Int.reduceToNat, Nat.reduceGT, ↓reduceIte, Nat.reduceAdd, Nat.reduceMul, Nat.reduceSub, Nat.reduceEqDiff, Nat.reduceLeDiff, Nat.reduceLT, Nat.reduceBEq, Int.reduceBEq, Int.reduceBNe, Int.reduceEq, Int.reduceLT, Int.reduceLE, Int.reduceGT, Int.reduceNeg, reduceCtorEq, Int.cast_ofNat_Int, getE_zero, getE_one, getE_two, Option.isSome_none, L]
    | false =>
      rw [hd] at L
      have h := of_decide_eq_false hd
      have e : atI key 0 ks cs.length = -1 := by
        rw [ha] at h ⊢
        generalize decide (ixS key 0 ks < ((0 + cs.length : Nat) : Int)) = b2 at *
        cases hb : decide (ixS key 0 ks ≥ 0) <;> cases b2 <;> rw [hb] at h <;> simp only [Bool.and_true, Bool.true_and, Bool.and_false, Bool.false_and, cond_true, cond_false] at h ⊢
        have := of_decide_eq_true hb
        omega
      rw [e]
      simp only [cond_false] at L
      apply eq_call
      refine call_eq rfl Try.func38 rfl (by kernel_rfl) ?_
      unfold Try.f38
      simp (disch := ((try simp only [List.length_cons, List.length_append, List.length_nil, List.length_map]); omega)) only [↓GO, ↓DRW, GA, ren, renB, footX, refs, cellsV, cst, cstAt, nilC, idxAddr, E.load, E.store, binO, isC, bin, ibin, sbin, una, isShift, okCell, packV, lenV, blt, fnV, asArg, snapV, snapS, snapP, snapC, snapX, flatV, flatT, openK, layBack, allT, allZ, mkS, srcOf0, unN, idxV, nilEq, give, tupV, mkEnv, extV, pickV, LVS, OVS, LTS, TYS, PMS, pmT, OWS, ownT, GHS, ghT, DMS, dmT, Int.reduceToNat, Nat.reduceGT, ↓reduceIte, Nat.reduceAdd, Nat.reduceMul, Nat.reduceSub, Nat.reduceEqDiff, Nat.reduceLeDiff, Nat.reduceLT, Nat.reduceBEq, Int.reduceBEq, Int.reduceBNe, Int.reduceEq, Int.reduceLT, Int.reduceLE, Int.reduceGT, Int.reduceNeg, reduceCtorEq, Int.cast_ofNat_Int, getE_zero, getE_one, getE_two, Option.isSome_none, L]
end Go.Proofs.Ytcphjdfmjhijkaa
/- What stands under a key, by both. Conditions: those of each lemma. -/
namespace Go.Proofs.Ytcphjdfmjhijkaa
open E
set_option linter.unusedSimpArgs false
set_option linter.unusedVariables false
set_option maxRecDepth 100000
def zt : Tr := .mk 0 0 [] [] []
def kidP (key : Str) (k : Int) (ks : List Str) (cs : List Tr) : Int := cond (k == 6) (atI key 0 ks cs.length) (-1)
theorem kidP_rng (key : Str) (k : Int) (ks : List Str) (cs : List Tr) : kidP key k ks cs = -1 ∨ ∃ i, kidP key k ks cs = (i : Nat) ∧ i < cs.length := by
  unfold kidP
  cases k == 6 with
  | false => exact .inl rfl
  | true =>
    rw [cond_true, at_ix key ks 0 cs.length]
    cases hb : (decide (ixS key 0 ks ≥ 0) && decide (ixS key 0 ks < ((0 + cs.length : Nat) : Int))) with
    | false => exact .inl rfl
    | true =>
      simp only [Bool.and_eq_true, decide_eq_true_eq] at hb
      rw [cond_true]
      exact .inr ⟨(ixS key 0 ks).toNat, by omega, by omega⟩
theorem enc_get (cs : List Tr) (i : Nat) (h : i < cs.length) : (Tr.encs cs)[i]? = some cs[i].enc := Tr.encs_get cs i h
theorem c_kidR_no (key : Str) (k n : Int) (s : Str) (ks : List Str) (cs : List Tr) (hl : ks.length ≤ 1048576) (hl2 : cs.length ≤ 1048576) (hp : kidP key k ks cs = -1) :
    callPure (EV Try.prog pol) 21 [.agg ((Tr.mk k n s ks cs).enc.map .t), .t (.str key)] = some (.tup [.agg (zt.enc.map .t), .t (.bool false)]) := by
  have h := c_atR key k n s ks cs hl hl2
  unfold kidP at hp
  rw [hp] at h
  simp only [Tr.enc, zt, strs, Tr.encs, List.map_cons, List.map_nil] at h ⊢
  apply eq_call
  refine call_eq rfl Try.func21 rfl (by kernel_rfl) ?_
  unfold Try.f21
  simp (disch := ((try simp only [List.length_cons, List.length_append, List.length_nil, List.length_map]); omega)) only [↓GO, ↓DRW, GA, ren, renB, footX, refs, cellsV, cst, cstAt, nilC, idxAddr, E.load, E.store, binO, isC, bin, ibin, sbin, una, isShift, okCell, packV, lenV, blt, fnV, asArg, snapV, snapS, snapP, snapC, snapX, flatV, flatT, openK, layBack, allT, allZ, mkS, srcOf0, unN, idxV, nilEq, give, tupV, mkEnv, extV, pickV, LVS, OVS, LTS, TYS, PMS, pmT, OWS, ownT, GHS, ghT, DMS, dmT, Int.reduceToNat, Nat.reduceGT, ↓reduceIte, Nat.reduceAdd, Nat.reduceMul, Nat.reduceSub, Nat.reduceEqDiff, Nat.reduceLeDiff, Nat.reduceLT, Nat.reduceBEq, Int.reduceBEq, Int.reduceBNe, Int.reduceEq, Int.reduceLT, Int.reduceLE, Int.reduceGT, Int.reduceNeg, reduceCtorEq, Int.cast_ofNat_Int, getE_zero, getE_one, getE_two, Option.isSome_none, h]
theorem c_kidR_yes (key : Str) (k n : Int) (s : Str) (ks : List Str) (cs : List Tr) (hl : ks.length ≤ 1048576) (hl2 : cs.length ≤ 1048576) (i : Nat) (hp : kidP key k ks cs = (i : Nat)) (c : Tr) (hc : (Tr.encs cs)[i]? = some c.enc) (hcp : CpR c) :
    callPure (EV Try.prog pol) 21 [.agg ((Tr.mk k n s ks cs).enc.map .t), .t (.str key)] = some (.tup [.agg (c.enc.map .t), .t (.bool true)]) := by
  have h := c_atR key k n s ks cs hl hl2
  unfold kidP at hp
  rw [hp] at h
  have c1 : decide (((i : Nat) : Int) < 0) = false := by apply decide_eq_false; omega
  obtain ⟨k1, n1, s1, ks1, cs1⟩ := c
  simp only [CpR, Tr.enc, List.map_cons, List.map_nil] at h hc hcp ⊢
  apply eq_call
  refine call_eq rfl Try.func21 rfl (by kernel_rfl) ?_
  unfold Try.f21
  simp (disch := ((try simp only [List.length_cons, List.length_append, List.length_nil, List.length_map]); omega)) only [↓GO, ↓DRW, GA, ren, renB, footX, refs, cellsV, cst, cstAt, nilC, idxAddr, E.load, E.store, binO, isC, bin, ibin, sbin, una, isShift, okCell, packV, lenV, blt, fnV, asArg, snapV, snapS, snapP, snapC, snapX, flatV, flatT, openK, layBack, allT, allZ, mkS, srcOf0, unN, idxV, nilEq, give, tupV, mkEnv, extV, pickV, LVS, OVS, LTS, TYS, PMS, pmT, OWS, ownT, GHS, ghT, DMS, dmT, Int.reduceToNat, Nat.reduceGT, ↓reduceIte, Nat.reduceAdd, Nat.reduceMul, Nat.reduceSub, Nat.reduceEqDiff, Nat.reduceLeDiff, Nat.reduceLT, Nat.reduceBEq, Int.reduceBEq, Int.reduceBNe, Int.reduceEq, Int.reduceLT, Int.reduceLE, Int.reduceGT, Int.reduceNeg, reduceCtorEq, Int.cast_ofNat_Int, getE_zero, getE_one, getE_two, Option.isSome_none, h, c1, hc, hcp]
theorem c_kidI_no (key : Str) (k n : Int) (s : Str) (ks : List Str) (cs : List Tr) (hl : ks.length ≤ 1048576) (hl2 : cs.length ≤ 1048576) (hp : kidP key k ks cs = -1) :
    EV Try.prog pol (.callO false 23 [.agg ((Tr.mk k n s ks cs).enc.map .t), .t (.str key)] []) = some (.call (.tup [.agg zV, .t (.bool false)]) []) := by
  have h := c_ix key ks hl
  unfold kidP at hp
  simp only [Tr.enc, zV, List.map_cons, List.map_nil]
  cases hk : (k == 6) with
  | false =>
    refine callO_eq Try.func23 rfl (by kernel_rfl) ?_
    unfold Try.f23
    simp (disch := ((try simp only [List.length_cons, List.length_append, List.length_nil, List.length_map]); omega)) only [↓GO, ↓DRW, GA, ren, renB, footX, refs, cellsV, cst, cstAt, nilC, idxAddr, E.load, E.store, binO, isC, bin, ibin, sbin, una, isShift, okCell, packV, lenV, blt, fnV, asArg, snapV, snapS, snapP, snapC, snapX, flatV, flatT, openK, layBack, allT, allZ, mkS, srcOf0, unN, idxV, nilEq, give, tupV, mkEnv, extV, pickV, LVS, OVS, LTS, TYS, PMS, pmT, OWS, ownT, GHS, ghT, DMS, dmT, Int.reduceToNat, Nat.reduceGT, ↓reduceIte, Nat.reduceAdd, Nat.reduceMul, Nat.reduceSub, Nat.reduceEqDiff, Nat.reduceLeDiff, Nat.reduceLT, Nat.reduceBEq, Int.reduceBEq, Int.reduceBNe, Int.reduceEq, Int.reduceLT, Int.reduceLE, Int.reduceGT, Int.reduceNeg, reduceCtorEq, selK_some, selK_none, bltO, brwK, brwA, brwB, sliceO, mkO, appO, appS, ghOne, ghAt, ghCells, fld1, unf1, setC, oc, oTs, oT, rowT, rowT.rowTs, rowB, isL, Bool.not_false, Bool.true_and, Bool.and_true, Bool.and_self, List.flatMap_append, List.map_append, List.set_cons_zero, List.set_cons_succ, Int.cast_ofNat_Int, getE_zero, getE_one, getE_two, Option.isSome_none, hk, rch3]
  | true =>
    rw [hk, cond_true, at_ix key ks 0 cs.length, Nat.zero_add] at hp
    have hr := ixS_rng key ks 0
    generalize ixS key 0 ks = ix at *
    cases h1 : decide (ix ≥ 0) with
    | false =>
      refine callO_eq Try.func23 rfl (by kernel_rfl) ?_
      unfold Try.f23
      simp (disch := ((try simp only [List.length_cons, List.length_append, List.length_nil, List.length_map]); omega)) only [↓GO, ↓DRW, GA, ren, renB, footX, refs, cellsV, cst, cstAt, nilC, idxAddr, E.load, E.store, binO, isC, bin, ibin, sbin, una, isShift, okCell, packV, lenV, blt, fnV, asArg, snapV, snapS, snapP, snapC, snapX, flatV, flatT, openK, layBack, allT, allZ, mkS, srcOf0, unN, idxV, nilEq, give, tupV, mkEnv, extV, pickV, LVS, OVS, LTS, TYS, PMS, pmT, OWS, ownT, GHS, ghT, DMS, dmT, Int.reduceToNat, Nat.reduceGT, ↓reduceIte, Nat.reduceAdd, Nat.reduceMul, Nat.reduceSub, Nat.reduceEqDiff, Nat.reduceLeDiff, Nat.reduceLT, Nat.reduceBEq, Int.reduceBEq, Int.reduceBNe, Int.reduceEq, Int.reduceLT, Int.reduceLE, Int.reduceGT, Int.reduceNeg, reduceCtorEq, selK_some, selK_none, bltO, brwK, brwA, brwB, sliceO, mkO, appO, appS, ghOne, ghAt, ghCells, fld1, unf1, setC, oc, oTs, oT, rowT, rowT.rowTs, rowB, isL, Bool.not_false, Bool.true_and, Bool.and_true, Bool.and_self, List.flatMap_append, List.map_append, List.set_cons_zero, List.set_cons_succ, Int.cast_ofNat_Int, getE_zero, getE_one, getE_two, Option.isSome_none, hk, h, h1, rch3]
    | true =>
      have h2 : decide (ix < (cs.length : Int)) = false := by
        rw [h1, Bool.true_and] at hp
        cases hd : decide (ix < (cs.length : Int)) with
        | false => rfl
        | true => rw [hd, cond_true] at hp; have := of_decide_eq_true h1; omega
      refine callO_eq Try.func23 rfl (by kernel_rfl) ?_
      unfold Try.f23
      simp (disch := ((try simp only [List.length_cons, List.length_append, List.length_nil, List.length_map]); omega)) only [↓GO, ↓DRW, GA, ren, renB, footX, refs, cellsV, cst, cstAt, nilC, idxAddr, E.load, E.store, binO, isC, bin, ibin, sbin, una, isShift, okCell, packV, lenV, blt, fnV, asArg, snapV, snapS, snapP, snapC, snapX, flatV, flatT, openK, layBack, allT, allZ, mkS, srcOf0, unN, idxV, nilEq, give, tupV, mkEnv, extV, pickV, LVS, OVS, LTS, TYS, PMS, pmT, OWS, ownT, GHS, ghT, DMS, dmT, Int.reduceToNat, Nat.reduceGT, ↓reduceIte, Nat.reduceAdd, Nat.reduceMul, Nat.reduceSub, Nat.reduceEqDiff, Nat.reduceLeDiff, Nat.reduceLT, Nat.reduceBEq, Int.reduceBEq, Int.reduceBNe, Int.reduceEq, Int.reduceLT, Int.reduceLE, Int.reduceGT, Int.reduceNeg, reduceCtorEq, selK_some, selK_none, bltO, brwK, brwA, brwB, sliceO, mkO, appO, appS, ghOne, ghAt, ghCells, fld1, unf1, setC, oc, oTs, oT, rowT, rowT.rowTs, rowB, isL, Bool.not_false, Bool.true_and, Bool.and_true, Bool.and_self, List.flatMap_append, List.map_append, List.set_cons_zero, List.set_cons_succ, Int.cast_ofNat_Int, getE_zero, getE_one, getE_two, Option.isSome_none, hk, h, h1, h2, Tr.encs_len, rch3]
theorem c_kidI_yes (key : Str) (k n : Int) (s : Str) (ks : List Str) (cs : List Tr) (hl : ks.length ≤ 1048576) (hl2 : cs.length ≤ 1048576) (i : Nat) (hp : kidP key k ks cs = (i : Nat)) (k1 n1 : Int) (s1 : Str) (ks1 : List Str) (cs1 : List Tr)
    (hc : (Tr.encs cs)[i]? = some (Tr.mk k1 n1 s1 ks1 cs1).enc) (hcp : CpO (.mk k1 n1 s1 ks1 cs1)) :
    ∃ cap, EV Try.prog pol (.callO false 23 [.agg ((Tr.mk k n s ks cs).enc.map .t), .t (.str key)] []) = some (.call (.tup [.agg [.t (.int .i64 k1), .t (.int .i64 n1), .t (.str s1), .sl 0 0 ks1.length none, .sl 1 0 cs1.length cap], .t (.bool true)]) [.ts 1 (strs ks1), .vs 5 (ocE (Tr.encs cs1))]) := by
  have h := c_ix key ks hl
  obtain ⟨cap, hcp⟩ := hcp
  refine ⟨cap, ?_⟩
  unfold kidP at hp
  cases hk : (k == 6) with
  | false => rw [hk, cond_false] at hp; omega
  | true =>
    rw [hk, cond_true, at_ix key ks 0 cs.length, Nat.zero_add] at hp
    generalize ixS key 0 ks = ix at *
    cases hb : (decide (ix ≥ 0) && decide (ix < (cs.length : Int))) with
    | false => rw [hb, cond_false] at hp; omega
    | true =>
      rw [hb, cond_true] at hp
      subst hp
      rw [Bool.and_eq_true] at hb
      obtain ⟨h1, h2⟩ := hb
      simp only [Tr.enc, List.map_cons, List.map_nil] at hc hcp ⊢
      refine callO_eq Try.func23 rfl (by kernel_rfl) ?_
      unfold Try.f23
      simp (disch := ((try simp only [List.length_cons, List.length_append, List.length_nil, List.length_map]); omega)) only [↓GO, ↓DRW, GA, ren, renB, footX, refs, cellsV, cst, cstAt, nilC, idxAddr, E.load, E.store, binO, isC, bin, ibin, sbin, una, isShift, okCell, packV, lenV, blt, fnV, asArg, snapV, snapS, snapP, snapC, snapX, flatV, flatT, openK, layBack, allT, allZ, mkS, srcOf0, unN, idxV, nilEq, give, tupV, mkEnv, extV, pickV, LVS, OVS, LTS, TYS, PMS, pmT, OWS, ownT, GHS, ghT, DMS, dmT, Int.reduceToNat, Nat.reduceGT, ↓reduceIte, Nat.reduceAdd, Nat.reduceMul, Nat.reduceSub, Nat.reduceEqDiff, Nat.reduceLeDiff, Nat.reduceLT, Nat.reduceBEq, Int.reduceBEq, Int.reduceBNe, Int.reduceEq, Int.reduceLT, Int.reduceLE, Int.reduceGT, Int.reduceNeg, reduceCtorEq, selK_some, selK_none, bltO, brwK, brwA, brwB, sliceO, mkO, appO, appS, ghOne, ghAt, ghCells, fld1, unf1, setC, oc, oTs, oT, rowT, rowT.rowTs, rowB, isL, Bool.not_false, Bool.true_and, Bool.and_true, Bool.and_self, List.flatMap_append, List.map_append, List.set_cons_zero, List.set_cons_succ, Int.cast_ofNat_Int, getE_zero, getE_one, getE_two, Option.isSome_none, hk, h, h1, h2, Tr.encs_len, hc, hcp, ocE_ren, ocE_refs, rch3]
theorem rowB_tr : ∀ cs : List Tr, ((ocE (Tr.encs cs)).all fun c => rowT.rowTs c) = true
  | [] => rfl
  | .mk k n s ks cs' :: cs => by
    rw [show ocE (Tr.encs (.mk k n s ks cs' :: cs)) = (Tr.mk k n s ks cs').enc.map oc :: ocE (Tr.encs cs) from rfl, List.all_cons, rowB_tr cs]
    rfl
theorem c_markSn (k : Int) : EV Try.prog pol (.callO false 16 [.nil 1, .t (.int .i64 k)] []) = some (.call (.t (.int .i64 k)) []) := by
  have L : EV Try.prog pol (.loop 16 26 0 [.nil 1, .t (.int .i64 k), .t (.int .i64 0)] []) = some (.loop (.exit 0) [.t (.int .i64 k)] []) := by
    refine loop_eq Try.func16 rfl rfl ?_
    simp (disch := ((try simp only [List.length_cons, List.length_append, List.length_nil, List.length_map]); omega)) only [↓GO, ↓DRW, GA, ren, renB, footX, refs, cellsV, cst, cstAt, nilC, idxAddr, E.load, E.store, binO, isC, bin, ibin, sbin, una, isShift, okCell, packV, lenV, blt, fnV, asArg, snapV, snapS, snapP, snapC, snapX, flatV, flatT, openK, layBack, allT, allZ, mkS, srcOf0, unN, idxV, nilEq, give, tupV, mkEnv, extV, pickV, LVS, OVS, LTS, TYS, PMS, pmT, OWS, ownT, GHS, ghT, DMS, dmT, Int.reduceToNat, Nat.reduceGT, ↓reduceIte, Nat.reduceAdd, Nat.reduceMul, Nat.reduceSub, Nat.reduceEqDiff, Nat.reduceLeDiff, Nat.reduceLT, Nat.reduceBEq, Int.reduceBEq, Int.reduceBNe, Int.reduceEq, Int.reduceLT, Int.reduceLE, Int.reduceGT, Int.reduceNeg, reduceCtorEq, Int.cast_ofNat_Int, getE_zero, getE_one, getE_two, Option.isSome_none, Int.natCast_zero]
  refine callO_eq Try.func16 rfl (by kernel_rfl) ?_
  unfold Try.f16
  simp (disch := ((try simp only [List.length_cons, List.length_append, List.length_nil, List.length_map]); omega)) only [↓GO, ↓DRW, GA, ren, renB, footX, refs, cellsV, cst, cstAt, nilC, idxAddr, E.load, E.store, binO, isC, bin, ibin, sbin, una, isShift, okCell, packV, lenV, blt, fnV, asArg, snapV, snapS, snapP, snapC, snapX, flatV, flatT, openK, layBack, allT, allZ, mkS, srcOf0, unN, idxV, nilEq, give, tupV, mkEnv, extV, pickV, LVS, OVS, LTS, TYS, PMS, pmT, OWS, ownT, GHS, ghT, DMS, dmT, Int.reduceToNat, Nat.reduceGT, ↓reduceIte, Nat.reduceAdd, Nat.reduceMul, Nat.reduceSub, Nat.reduceEqDiff, Nat.reduceLeDiff, Nat.reduceLT, Nat.reduceBEq, Int.reduceBEq, Int.reduceBNe, Int.reduceEq, Int.reduceLT, Int.reduceLE, Int.reduceGT, Int.reduceNeg, reduceCtorEq, Int.cast_ofNat_Int, getE_zero, getE_one, getE_two, Option.isSome_none, L]
theorem c_markTn (k : Int) : EV Try.prog pol (.callO false 17 [.nil 5, .t (.int .i64 k)] []) = some (.call (.t (.int .i64 k)) []) := by
  have L : EV Try.prog pol (.loop 17 26 0 [.nil 5, .t (.int .i64 k), .t (.int .i64 0)] []) = some (.loop (.exit 0) [.t (.int .i64 k)] []) := by
    refine loop_eq Try.func17 rfl rfl ?_
    simp (disch := ((try simp only [List.length_cons, List.length_append, List.length_nil, List.length_map]); omega)) only [↓GO, ↓DRW, GA, ren, renB, footX, refs, cellsV, cst, cstAt, nilC, idxAddr, E.load, E.store, binO, isC, bin, ibin, sbin, una, isShift, okCell, packV, lenV, blt, fnV, asArg, snapV, snapS, snapP, snapC, snapX, flatV, flatT, openK, layBack, allT, allZ, mkS, srcOf0, unN, idxV, nilEq, give, tupV, mkEnv, extV, pickV, LVS, OVS, LTS, TYS, PMS, pmT, OWS, ownT, GHS, ghT, DMS, dmT, Int.reduceToNat, Nat.reduceGT, ↓reduceIte, Nat.reduceAdd, Nat.reduceMul, Nat.reduceSub, Nat.reduceEqDiff, Nat.reduceLeDiff, Nat.reduceLT, Nat.reduceBEq, Int.reduceBEq, Int.reduceBNe, Int.reduceEq, Int.reduceLT, Int.reduceLE, Int.reduceGT, Int.reduceNeg, reduceCtorEq, selK_some, selK_none, bltO, brwK, brwA, brwB, sliceO, mkO, appO, appS, ghOne, ghAt, ghCells, fld1, unf1, setC, oc, oTs, oT, rowT, rowT.rowTs, rowB, isL, Bool.not_false, Bool.true_and, Bool.and_true, Bool.and_self, List.flatMap_append, List.map_append, List.set_cons_zero, List.set_cons_succ, Int.cast_ofNat_Int, getE_zero, getE_one, getE_two, Option.isSome_none, Int.natCast_zero]
  refine callO_eq Try.func17 rfl (by kernel_rfl) ?_
  unfold Try.f17
  simp (disch := ((try simp only [List.length_cons, List.length_append, List.length_nil, List.length_map]); omega)) only [↓GO, ↓DRW, GA, ren, renB, footX, refs, cellsV, cst, cstAt, nilC, idxAddr, E.load, E.store, binO, isC, bin, ibin, sbin, una, isShift, okCell, packV, lenV, blt, fnV, asArg, snapV, snapS, snapP, snapC, snapX, flatV, flatT, openK, layBack, allT, allZ, mkS, srcOf0, unN, idxV, nilEq, give, tupV, mkEnv, extV, pickV, LVS, OVS, LTS, TYS, PMS, pmT, OWS, ownT, GHS, ghT, DMS, dmT, Int.reduceToNat, Nat.reduceGT, ↓reduceIte, Nat.reduceAdd, Nat.reduceMul, Nat.reduceSub, Nat.reduceEqDiff, Nat.reduceLeDiff, Nat.reduceLT, Nat.reduceBEq, Int.reduceBEq, Int.reduceBNe, Int.reduceEq, Int.reduceLT, Int.reduceLE, Int.reduceGT, Int.reduceNeg, reduceCtorEq, selK_some, selK_none, bltO, brwK, brwA, brwB, sliceO, mkO, appO, appS, ghOne, ghAt, ghCells, fld1, unf1, setC, oc, oTs, oT, rowT, rowT.rowTs, rowB, isL, Bool.not_false, Bool.true_and, Bool.and_true, Bool.and_self, List.flatMap_append, List.map_append, List.set_cons_zero, List.set_cons_succ, Int.cast_ofNat_Int, getE_zero, getE_one, getE_two, Option.isSome_none, L]
theorem c_markZ (k : Int) : EV Try.prog pol (.callO false 18 [.agg zV, .t (.int .i64 k)] []) = some (.call (.t (.int .i64 k)) []) := by
  have d1 := c_markSn k
  have d2 := c_markTn k
  unfold zV
  refine callO_eq Try.func18 rfl (by kernel_rfl) ?_
  unfold Try.f18
  simp (disch := ((try simp only [List.length_cons, List.length_append, List.length_nil, List.length_map]); omega)) only [↓GO, ↓DRW, GA, ren, renB, footX, refs, cellsV, cst, cstAt, nilC, idxAddr, E.load, E.store, binO, isC, bin, ibin, sbin, una, isShift, okCell, packV, lenV, blt, fnV, asArg, snapV, snapS, snapP, snapC, snapX, flatV, flatT, openK, layBack, allT, allZ, mkS, srcOf0, unN, idxV, nilEq, give, tupV, mkEnv, extV, pickV, LVS, OVS, LTS, TYS, PMS, pmT, OWS, ownT, GHS, ghT, DMS, dmT, Int.reduceToNat, Nat.reduceGT, ↓reduceIte, Nat.reduceAdd, Nat.reduceMul, Nat.reduceSub, Nat.reduceEqDiff, Nat.reduceLeDiff, Nat.reduceLT, Nat.reduceBEq, Int.reduceBEq, Int.reduceBNe, Int.reduceEq, Int.reduceLT, Int.reduceLE, Int.reduceGT, Int.reduceNeg, reduceCtorEq, selK_some, selK_none, bltO, brwK, brwA, brwB, sliceO, mkO, appO, appS, ghOne, ghAt, ghCells, fld1, unf1, setC, oc, oTs, oT, rowT, rowT.rowTs, rowB, isL, Bool.not_false, Bool.true_and, Bool.and_true, Bool.and_self, List.flatMap_append, List.map_append, List.set_cons_zero, List.set_cons_succ, Int.cast_ofNat_Int, getE_zero, getE_one, getE_two, Option.isSome_none, d1, d2, rch3]
end Go.Proofs.Ytcphjdfmjhijkaa
/- Graphs laid anew, with memory of their own. Conditions: those of each lemma. -/
namespace Go.Proofs.Ytcphjdfmjhijkaa
open E
set_option linter.unusedSimpArgs false
set_option linter.unusedVariables false
set_option maxRecDepth 100000
theorem flatE_sums : ∀ l : List LSum, flatE (LSum.encs l) = true
  | [] => rfl
  | x :: l => by
    have := flatE_sums l
    unfold flatE LSum.encs at this ⊢
    rw [List.map_cons, List.all_cons, this]; rfl
theorem rowB_packs : ∀ l : List LPack, ((ocE (LPack.encs l)).all fun c => rowT.rowTs c) = true
  | [] => rfl
  | x :: l => by
    rw [show ocE (LPack.encs (x :: l)) = x.enc.map oc :: ocE (LPack.encs l) from rfl, List.all_cons, rowB_packs l]
    rfl
theorem pencs_snoc (a : List LPack) (x : LPack) : LPack.encs (a ++ [x]) = LPack.encs a ++ [x.enc] := by simp [LPack.encs]
theorem pencs_app (a b : List LPack) : LPack.encs (a ++ b) = LPack.encs a ++ LPack.encs b := by simp [LPack.encs]
def zPk : List V := [.t (.str []), .t (.str []), .t (.str []), .nil 2, .t (.bool false), .nil 1]
theorem c_toSumO (cs : List LSum) (hl : cs.length ≤ 1048576) (hc : ∀ c ∈ cs, ToSum c) : EV Try.prog pol (.callO false 56 [.t (.list 2 (LSum.encs cs))] []) = some (.call (.sl 0 0 cs.length (some cs.length)) [.ts 2 (LSum.encs cs)]) := by
  refine callO_eq Try.func56 rfl (by kernel_rfl) ?_
  unfold Try.f56
  have h1 : ¬ ((cs.length : Int) < 0) := by omega
  have h2 : ¬ (cs.length * 32 > 140737488355328) := by omega
  have h3 : ¬ (cs.length > 140737488355328) := by omega
  have hz : List.replicate cs.length [T.str [], .str []] = fillE (LSum.encs cs) zSum 0 := by rw [fillE_zero, LSum.encs_len]; rfl
  have IH := l_toSumS cs hl hc cs.length 0 (by omega) (by omega)
  simp only [Int.natCast_zero] at IH
  simp (disch := omega) only [E.mkS, ↓GO, ↓DRW, GA, ren, renB, footX, refs, cellsV, cst, cstAt, nilC, idxAddr, E.load, E.store, binO, isC, bin, ibin, sbin, una, isShift, okCell, packV, lenV, blt, fnV, asArg, snapV, snapS, snapP, snapC, snapX, flatV, flatT, openK, layBack, allT, allZ, mkS, srcOf0, unN, idxV, nilEq, give, tupV, mkEnv, extV, pickV, LVS, OVS, LTS, TYS, PMS, pmT, OWS, ownT, GHS, ghT, DMS, dmT, Int.reduceToNat, Nat.reduceGT, ↓reduceIte, Nat.reduceAdd, Nat.reduceMul, Nat.reduceSub, Nat.reduceEqDiff, Nat.reduceLeDiff, Nat.reduceLT, Nat.reduceBEq, Int.reduceBEq, Int.reduceBNe, Int.reduceEq, Int.reduceLT, Int.reduceLE, Int.reduceGT, Int.reduceNeg, reduceCtorEq, LSum.encs_len, Int.toNat_natCast, h1, h2, h3, hz, IH, ne_eq, not_true_eq_false]
def ToPO (x : LPack) : Prop := EV Try.prog pol (.callO false 50 [.agg (x.enc.map .t)] []) = some (.call (.agg [.t (.str x.name), .t (.str x.version), .t (.str x.source), .sl 0 0 x.sums.length (some x.sums.length), .t (.bool x.dev), .sl 1 0 x.needs.length (some x.needs.length)]) [.ts 2 (LSum.encs x.sums), .ts 1 (strs x.needs)])
theorem c_toPO (x : LPack) (ho : x.bulk ≤ 1048576) : ToPO x := by
  obtain ⟨name, version, source, sums, dev, needs⟩ := x
  simp only [LPack.bulk] at ho
  have d1 := c_toSumO sums (by omega) (fun c hc => c_toSum c (by have := LSum.bulks_mem hc; omega))
  have d2 := c_toStrO needs (by omega)
  simp only [ToPO, LPack.enc, List.map_cons, List.map_nil]
  refine callO_eq Try.func50 rfl (by kernel_rfl) ?_
  unfold Try.f50
  simp (disch := ((try simp only [List.length_cons, List.length_append, List.length_nil, List.length_map]); omega)) only [↓GO, ↓DRW, GA, ren, renB, footX, refs, cellsV, cst, cstAt, nilC, idxAddr, E.load, E.store, binO, isC, bin, ibin, sbin, una, isShift, okCell, packV, lenV, blt, fnV, asArg, snapV, snapS, snapP, snapC, snapX, flatV, flatT, openK, layBack, allT, allZ, mkS, srcOf0, unN, idxV, nilEq, give, tupV, mkEnv, extV, pickV, LVS, OVS, LTS, TYS, PMS, pmT, OWS, ownT, GHS, ghT, DMS, dmT, Int.reduceToNat, Nat.reduceGT, ↓reduceIte, Nat.reduceAdd, Nat.reduceMul, Nat.reduceSub, Nat.reduceEqDiff, Nat.reduceLeDiff, Nat.reduceLT, Nat.reduceBEq, Int.reduceBEq, Int.reduceBNe, Int.reduceEq, Int.reduceLT, Int.reduceLE, Int.reduceGT, Int.reduceNeg, reduceCtorEq, selK_some, selK_none, bltO, brwK, brwA, brwB, sliceO, mkO, appO, appS, ghOne, ghAt, ghCells, fld1, unf1, setC, oc, oTs, oT, rowT, rowT.rowTs, rowB, isL, Bool.not_false, Bool.true_and, Bool.and_true, Bool.and_self, List.flatMap_append, List.map_append, List.set_cons_zero, List.set_cons_succ, Int.cast_ofNat_Int, getE_zero, getE_one, getE_two, Option.isSome_none, d1, d2, rch3]
theorem l_toPO (cs : List LPack) (hl : cs.length ≤ 1048576) (hc : ∀ c ∈ cs, ToPO c) : ∀ (rest pre : List LPack), cs = pre ++ rest →
    EV Try.prog pol (.loop 42 58 0 [.t (.list 6 (LPack.encs cs)), .sl 0 0 cs.length (some cs.length), .t (.int .i64 (pre.length : Int))] [.vs 6 (ocE (LPack.encs pre) ++ List.replicate rest.length zPk)])
      = some (.loop (.exit 0) [.sl 0 0 cs.length (some cs.length)] [.vs 6 (ocE (LPack.encs cs))])
  | [], pre, hs => by
    have c : decide ((pre.length : Int) < (cs.length : Int)) = false := by simp [hs]
    have e : cs = pre := by simpa using hs
    have hA := ocE_refs (LPack.encs pre)
    have hR := fun m => ocE_ren m (LPack.encs pre)
    simp only [List.length_nil, List.replicate_zero, List.append_nil]
    refine loop_eq Try.func42 rfl rfl ?_
    simp (disch := ((try simp only [List.length_cons, List.length_append, List.length_nil, List.length_map]); omega)) only [↓GO, ↓DRW, GA, ren, renB, footX, refs, cellsV, cst, cstAt, nilC, idxAddr, E.load, E.store, binO, isC, bin, ibin, sbin, una, isShift, okCell, packV, lenV, blt, fnV, asArg, snapV, snapS, snapP, snapC, snapX, flatV, flatT, openK, layBack, allT, allZ, mkS, srcOf0, unN, idxV, nilEq, give, tupV, mkEnv, extV, pickV, LVS, OVS, LTS, TYS, PMS, pmT, OWS, ownT, GHS, ghT, DMS, dmT, Int.reduceToNat, Nat.reduceGT, ↓reduceIte, Nat.reduceAdd, Nat.reduceMul, Nat.reduceSub, Nat.reduceEqDiff, Nat.reduceLeDiff, Nat.reduceLT, Nat.reduceBEq, Int.reduceBEq, Int.reduceBNe, Int.reduceEq, Int.reduceLT, Int.reduceLE, Int.reduceGT, Int.reduceNeg, reduceCtorEq, selK_some, selK_none, bltO, brwK, brwA, brwB, sliceO, mkO, appO, appS, ghOne, ghAt, ghCells, fld1, unf1, setC, oc, oTs, oT, rowT, rowT.rowTs, rowB, isL, Bool.not_false, Bool.true_and, Bool.and_true, Bool.and_self, List.flatMap_append, List.map_append, List.set_cons_zero, List.set_cons_succ, Int.cast_ofNat_Int, getE_zero, getE_one, getE_two, Option.isSome_none, LPack.encs_len, c, hA, hR]
    rw [e]
  | x :: rest, pre, hs => by
    have c : decide ((pre.length : Int) < (cs.length : Int)) = true := by simp [hs]; omega
    have hget : (LPack.encs cs)[pre.length]? = some x.enc := by rw [hs]; simp [LPack.encs]
    have hlen : pre.length + rest.length + 1 ≤ cs.length := by rw [hs]; simp; omega
    have hcx := hc x (by rw [hs]; simp)
    have c0 : decide ((0 : Int) ≤ (pre.length : Int)) = true := by simp
    have c00 : (0 : Int) ≤ (pre.length : Int) := by omega
    have IH := l_toPO cs hl hc rest (pre ++ [x]) (by rw [hs]; simp)
    rw [show ((pre ++ [x]).length : Int) = (pre.length : Int) + 1 by simp, pencs_snoc, ocE_app, ocE_cons, ocE_nil, List.append_assoc, List.cons_append, List.nil_append] at IH
    have hAl : (ocE (LPack.encs pre)).length = pre.length := by rw [ocE_len, LPack.encs_len]
    have hA := ocE_refs (LPack.encs pre)
    have hR := fun m => ocE_ren m (LPack.encs pre)
    have hB := rep_refs zPk rfl rest.length
    have hRB := fun m => rep_ren m zPk rfl rest.length
    rw [List.length_cons, List.replicate_succ]
    have hg1 := fun y => mid_get (ocE (LPack.encs pre)) (List.replicate rest.length zPk) y pre.length hAl
    have hs1 := fun y z => mid_set (ocE (LPack.encs pre)) (List.replicate rest.length zPk) y z pre.length hAl
    clear hs
    obtain ⟨name, version, source, sums, dev, needs⟩ := x
    have hf1 := flatE_sums sums
    have hf2 := flatE_strs needs
    simp only [ToPO, LPack.enc, List.map_cons, List.map_nil, oc] at hcx hget IH
    generalize ocE (LPack.encs pre) = A at *
    generalize List.replicate rest.length zPk = B at *
    unfold zPk
    refine loop_eq Try.func42 rfl rfl ?_
    simp (disch := ((try simp only [List.length_cons, List.length_append, List.length_nil, List.length_map]); omega)) only [↓GO, ↓DRW, GA, ren, renB, footX, refs, cellsV, cst, cstAt, nilC, idxAddr, E.load, E.store, binO, isC, bin, ibin, sbin, una, isShift, okCell, packV, lenV, blt, fnV, asArg, snapV, snapS, snapP, snapC, snapX, flatV, flatT, openK, layBack, allT, allZ, mkS, srcOf0, unN, idxV, nilEq, give, tupV, mkEnv, extV, pickV, LVS, OVS, LTS, TYS, PMS, pmT, OWS, ownT, GHS, ghT, DMS, dmT, Int.reduceToNat, Nat.reduceGT, ↓reduceIte, Nat.reduceAdd, Nat.reduceMul, Nat.reduceSub, Nat.reduceEqDiff, Nat.reduceLeDiff, Nat.reduceLT, Nat.reduceBEq, Int.reduceBEq, Int.reduceBNe, Int.reduceEq, Int.reduceLT, Int.reduceLE, Int.reduceGT, Int.reduceNeg, reduceCtorEq, selK_some, selK_none, bltO, brwK, brwA, brwB, sliceO, mkO, appO, appS, ghOne, ghAt, ghCells, fld1, unf1, setC, oc, oTs, oT, rowT, rowT.rowTs, rowB, isL, Bool.not_false, Bool.true_and, Bool.and_true, Bool.and_self, List.flatMap_append, List.map_append, List.set_cons_zero, List.set_cons_succ, Int.cast_ofNat_Int, getE_zero, getE_one, getE_two, Option.isSome_none, LPack.encs_len, LSum.encs_len, c, c0, c00, if_true, Int.toNat_natCast, hget, hcx, hg1, hs1, hA, hR, hB, hRB, wrap_in, hf1, hf2, IH, strs_len, ocE_len, ocE_ren, ocE_refs, rch3]
theorem c_toPackSO (cs : List LPack) (hl : cs.length ≤ 1048576) (hc : ∀ c ∈ cs, ToPO c) : EV Try.prog pol (.callO false 42 [.t (.list 6 (LPack.encs cs))] []) = some (.call (.sl 0 0 cs.length (some cs.length)) [.vs 6 (ocE (LPack.encs cs))]) := by
  refine callO_eq Try.func42 rfl (by kernel_rfl) ?_
  unfold Try.f42
  have h1 : ¬ ((cs.length : Int) < 0) := by omega
  have h2 : ¬ (cs.length * 104 > 140737488355328) := by omega
  have h3 : ¬ (cs.length > 140737488355328) := by omega
  have L := l_toPO cs hl hc cs [] rfl
  simp only [List.length_nil, Int.natCast_zero, show LPack.encs [] = [] from rfl, ocE_nil, List.nil_append] at L
  have hB := rep_refs zPk rfl cs.length
  have hRB := fun m => rep_ren m zPk rfl cs.length
  unfold zPk at L hB hRB
  simp (disch := ((try simp only [List.length_cons, List.length_append, List.length_nil, List.length_map]); omega)) only [↓GO, ↓DRW, GA, ren, renB, footX, refs, cellsV, cst, cstAt, nilC, idxAddr, E.load, E.store, binO, isC, bin, ibin, sbin, una, isShift, okCell, packV, lenV, blt, fnV, asArg, snapV, snapS, snapP, snapC, snapX, flatV, flatT, openK, layBack, allT, allZ, mkS, srcOf0, unN, idxV, nilEq, give, tupV, mkEnv, extV, pickV, LVS, OVS, LTS, TYS, PMS, pmT, OWS, ownT, GHS, ghT, DMS, dmT, Int.reduceToNat, Nat.reduceGT, ↓reduceIte, Nat.reduceAdd, Nat.reduceMul, Nat.reduceSub, Nat.reduceEqDiff, Nat.reduceLeDiff, Nat.reduceLT, Nat.reduceBEq, Int.reduceBEq, Int.reduceBNe, Int.reduceEq, Int.reduceLT, Int.reduceLE, Int.reduceGT, Int.reduceNeg, reduceCtorEq, selK_some, selK_none, bltO, brwK, brwA, brwB, sliceO, mkO, appO, appS, ghOne, ghAt, ghCells, fld1, unf1, setC, oc, oTs, oT, rowT, rowT.rowTs, rowB, isL, Bool.not_false, Bool.true_and, Bool.and_true, Bool.and_self, List.flatMap_append, List.map_append, List.set_cons_zero, List.set_cons_succ, Int.cast_ofNat_Int, getE_zero, getE_one, getE_two, Option.isSome_none, LPack.encs_len, Int.toNat_natCast, h1, h2, h3, L, hB, hRB, ocE_ren, ocE_refs, ne_eq, not_true_eq_false, not_false_eq_true, rch3]
def ToGO (x : LGraph) : Prop := EV Try.prog pol (.callO false 28 [.agg (x.enc.map .t)] []) = some (.call (.agg [.sl 0 0 x.top.length (some x.top.length), .sl 1 0 x.packs.length (some x.packs.length)]) [.ts 1 (strs x.top), .vs 6 (ocE (LPack.encs x.packs))])
theorem c_toGO (x : LGraph) (ho : x.bulk ≤ 1048576) : ToGO x := by
  obtain ⟨top, packs⟩ := x
  simp only [LGraph.bulk] at ho
  have d1 := c_toStrO top (by omega)
  have d2 := c_toPackSO packs (by omega) (fun c hc => c_toPO c (by have := LPack.bulks_mem hc; omega))
  simp only [ToGO, LGraph.enc, List.map_cons, List.map_nil]
  refine callO_eq Try.func28 rfl (by kernel_rfl) ?_
  unfold Try.f28
  simp (disch := ((try simp only [List.length_cons, List.length_append, List.length_nil, List.length_map]); omega)) only [↓GO, ↓DRW, GA, ren, renB, footX, refs, cellsV, cst, cstAt, nilC, idxAddr, E.load, E.store, binO, isC, bin, ibin, sbin, una, isShift, okCell, packV, lenV, blt, fnV, asArg, snapV, snapS, snapP, snapC, snapX, flatV, flatT, openK, layBack, allT, allZ, mkS, srcOf0, unN, idxV, nilEq, give, tupV, mkEnv, extV, pickV, LVS, OVS, LTS, TYS, PMS, pmT, OWS, ownT, GHS, ghT, DMS, dmT, Int.reduceToNat, Nat.reduceGT, ↓reduceIte, Nat.reduceAdd, Nat.reduceMul, Nat.reduceSub, Nat.reduceEqDiff, Nat.reduceLeDiff, Nat.reduceLT, Nat.reduceBEq, Int.reduceBEq, Int.reduceBNe, Int.reduceEq, Int.reduceLT, Int.reduceLE, Int.reduceGT, Int.reduceNeg, reduceCtorEq, selK_some, selK_none, bltO, brwK, brwA, brwB, sliceO, mkO, appO, appS, ghOne, ghAt, ghCells, fld1, unf1, setC, oc, oTs, oT, rowT, rowT.rowTs, rowB, isL, Bool.not_false, Bool.true_and, Bool.and_true, Bool.and_self, List.flatMap_append, List.map_append, List.set_cons_zero, List.set_cons_succ, Int.cast_ofNat_Int, getE_zero, getE_one, getE_two, Option.isSome_none, d1, d2, ocE_ren, ocE_refs, rch3]
/-- and as a value that nobody writes -/
def ToGF (x : LGraph) : Prop := callPure (EV Try.prog pol) 28 [.agg (x.enc.map .t)] = some (.agg (x.enc.map .t))
theorem c_toGF (x : LGraph) (ho : x.bulk ≤ 1048576) : ToGF x := by
  obtain ⟨top, packs⟩ := x
  simp only [LGraph.bulk] at ho
  have d1 := c_toStrO top (by omega)
  have d2 := c_toPackSO packs (by omega) (fun c hc => c_toPO c (by have := LPack.bulks_mem hc; omega))
  have g := gvE_oc (LPack.encs packs)
  have ht : (LPack.encs packs).take packs.length = LPack.encs packs := by rw [← LPack.encs_len packs]; simp
  have ht2 : (strs top).take top.length = strs top := by rw [← strs_len top]; simp
  simp only [ToGF, LGraph.enc, List.map_cons, List.map_nil]
  apply eq_call
  refine call_eq rfl Try.func28 rfl (by kernel_rfl) ?_
  unfold Try.f28
  simp (disch := ((try simp only [List.length_cons, List.length_append, List.length_nil, List.length_map]); omega)) only [↓GO, ↓DRW, GA, ren, renB, footX, refs, cellsV, cst, cstAt, nilC, idxAddr, E.load, E.store, binO, isC, bin, ibin, sbin, una, isShift, okCell, packV, lenV, blt, fnV, asArg, snapV, snapS, snapP, snapC, snapX, flatV, flatT, openK, layBack, allT, allZ, mkS, srcOf0, unN, idxV, nilEq, give, tupV, mkEnv, extV, pickV, LVS, OVS, LTS, TYS, PMS, pmT, OWS, ownT, GHS, ghT, DMS, dmT, Int.reduceToNat, Nat.reduceGT, ↓reduceIte, Nat.reduceAdd, Nat.reduceMul, Nat.reduceSub, Nat.reduceEqDiff, Nat.reduceLeDiff, Nat.reduceLT, Nat.reduceBEq, Int.reduceBEq, Int.reduceBNe, Int.reduceEq, Int.reduceLT, Int.reduceLE, Int.reduceGT, Int.reduceNeg, reduceCtorEq, selK_some, selK_none, bltO, brwK, brwA, brwB, sliceO, mkO, appO, appS, ghOne, ghAt, ghCells, fld1, unf1, setC, oc, oTs, oT, rowT, rowT.rowTs, rowB, isL, Bool.not_false, Bool.true_and, Bool.and_true, Bool.and_self, List.flatMap_append, List.map_append, List.set_cons_zero, List.set_cons_succ, Int.cast_ofNat_Int, getE_zero, getE_one, getE_two, Option.isSome_none, d1, d2, g, ht, ht2, ocE_ren, ocE_refs, rch3]
end Go.Proofs.Ytcphjdfmjhijkaa
/- Marks in graphs. Conditions: those of each lemma. -/
namespace Go.Proofs.Ytcphjdfmjhijkaa
open E
set_option linter.unusedSimpArgs false
set_option linter.unusedVariables false
set_option maxRecDepth 100000
def mkSm : Nat → Nat → List LSum
  | 0, _ => []
  | n + 1, k => ⟨mkT k, mkT (k + 1)⟩ :: mkSm n (k + 2)
theorem mkSm_len : ∀ n k, (mkSm n k).length = n
  | 0, _ => rfl
  | n + 1, k => by rw [mkSm, List.length_cons, mkSm_len n (k + 2)]
theorem mkSm_snoc : ∀ n k, mkSm (n + 1) k = mkSm n k ++ [⟨mkT (k + 2 * n), mkT (k + 2 * n + 1)⟩]
  | 0, k => rfl
  | n + 1, k => by
    rw [mkSm, mkSm_snoc n (k + 2), mkSm, List.cons_append, show k + 2 + 2 * n = k + 2 * (n + 1) by omega]
theorem mkSm_get : ∀ (m j q : Nat), j < m → (mkSm m q)[j]? = some ⟨mkT (q + 2 * j), mkT (q + 2 * j + 1)⟩ := fun m => by
  induction m with
  | zero => intro j q h; omega
  | succ m ih =>
    intro j q h
    cases j with
    | zero => rfl
    | succ j => rw [mkSm, List.getElem?_cons_succ, ih j (q + 2) (by omega), show q + 2 + 2 * j = q + 2 * (j + 1) by omega]
theorem l_markSm (cs : List LSum) (hl : cs.length ≤ 4194304) (cap : Option Nat) (k : Nat) (hk : k ≤ 1073741824) : ∀ (rest pre : List LSum), cs = pre ++ rest →
    EV Try.prog pol (.loop 53 26 1 [.sl 0 0 cs.length cap, .t (.int .i64 ((k + 2 * pre.length : Nat) : Int)), .t (.int .i64 (pre.length : Int))] [.ts 2 (LSum.encs (mkSm pre.length k) ++ LSum.encs rest)])
      = some (.loop (.exit 0) [.t (.int .i64 ((k + 2 * cs.length : Nat) : Int))] [.ts 2 (LSum.encs (mkSm cs.length k))])
  | [], pre, hs => by
    have c : decide ((pre.length : Int) < (cs.length : Int)) = false := by simp [hs]
    have e : cs = pre := by simpa using hs
    simp only [show LSum.encs [] = [] from rfl, List.append_nil]
    refine loop_eq Try.func53 rfl rfl ?_
    simp (disch := ((try simp only [List.length_cons, List.length_append, List.length_nil, List.length_map]); omega)) only [↓GO, ↓DRW, GA, ren, renB, footX, refs, cellsV, cst, cstAt, nilC, idxAddr, E.load, E.store, binO, isC, bin, ibin, sbin, una, isShift, okCell, packV, lenV, blt, fnV, asArg, snapV, snapS, snapP, snapC, snapX, flatV, flatT, openK, layBack, allT, allZ, mkS, srcOf0, unN, idxV, nilEq, give, tupV, mkEnv, extV, pickV, LVS, OVS, LTS, TYS, PMS, pmT, OWS, ownT, GHS, ghT, DMS, dmT, Int.reduceToNat, Nat.reduceGT, ↓reduceIte, Nat.reduceAdd, Nat.reduceMul, Nat.reduceSub, Nat.reduceEqDiff, Nat.reduceLeDiff, Nat.reduceLT, Nat.reduceBEq, Int.reduceBEq, Int.reduceBNe, Int.reduceEq, Int.reduceLT, Int.reduceLE, Int.reduceGT, Int.reduceNeg, reduceCtorEq, Int.cast_ofNat_Int, getE_zero, getE_one, getE_two, Option.isSome_none, c]
    rw [e]
  | x :: rest, pre, hs => by
    have c : decide ((pre.length : Int) < (cs.length : Int)) = true := by simp [hs]; omega
    have c0 : decide ((0 : Int) ≤ (pre.length : Int)) = true := by simp
    have c00 : (0 : Int) ≤ (pre.length : Int) := by omega
    have hlen : pre.length + rest.length + 1 ≤ cs.length := by rw [hs]; simp; omega
    have hm := c_mkT (k + 2 * pre.length) (by omega)
    have hm2 := c_mkT (k + 2 * pre.length + 1) (by omega)
    have IH := l_markSm cs hl cap k hk rest (pre ++ [x]) (by rw [hs]; simp)
    rw [show (pre ++ [x]).length = pre.length + 1 by simp, mkSm_snoc, show LSum.encs (mkSm pre.length k ++ [⟨mkT (k + 2 * pre.length), mkT (k + 2 * pre.length + 1)⟩]) = LSum.encs (mkSm pre.length k) ++ [[.str (mkT (k + 2 * pre.length)), .str (mkT (k + 2 * pre.length + 1))]] by simp [LSum.encs, LSum.enc], List.append_assoc, List.cons_append, List.nil_append] at IH
    rw [show k + 2 * (pre.length + 1) = k + 2 * pre.length + 2 by omega] at IH
    have hAl : (LSum.encs (mkSm pre.length k)).length = pre.length := by rw [LSum.encs_len, mkSm_len]
    rw [show LSum.encs (x :: rest) = [.str x.alg, .str x.bytes] :: LSum.encs rest from rfl]
    have hg1 := fun y => mid_get (LSum.encs (mkSm pre.length k)) (LSum.encs rest) y pre.length hAl
    have hs1 := fun y z => mid_set (LSum.encs (mkSm pre.length k)) (LSum.encs rest) y z pre.length hAl
    clear hs
    generalize LSum.encs (mkSm pre.length k) = A at *
    generalize mkT (k + 2 * pre.length + 1) = mt2 at *
    generalize mkT (k + 2 * pre.length) = mt at *
    have hkp : k + 2 * pre.length ≤ 1082130432 := by omega
    generalize k + 2 * pre.length = kp at *
    have w : IntKind.i64.wrap ((kp : Int) + 1) = ((kp + 1 : Nat) : Int) := by rw [wrap_in (by omega)]; omega
    have w1 : IntKind.i64.wrap (((kp + 1 : Nat) : Int) + 1) = ((kp + 2 : Nat) : Int) := by rw [wrap_in (by omega)]; omega
    have w2 : IntKind.i64.wrap ((pre.length : Int) + 1) = ((pre.length + 1 : Nat) : Int) := by rw [wrap_in (by omega)]; omega
    refine loop_eq Try.func53 rfl rfl ?_
    simp (disch := ((try simp only [List.length_cons, List.length_append, List.length_nil, List.length_map]); omega)) only [↓GO, ↓DRW, GA, ren, renB, footX, refs, cellsV, cst, cstAt, nilC, idxAddr, E.load, E.store, binO, isC, bin, ibin, sbin, una, isShift, okCell, packV, lenV, blt, fnV, asArg, snapV, snapS, snapP, snapC, snapX, flatV, flatT, openK, layBack, allT, allZ, mkS, srcOf0, unN, idxV, nilEq, give, tupV, mkEnv, extV, pickV, LVS, OVS, LTS, TYS, PMS, pmT, OWS, ownT, GHS, ghT, DMS, dmT, Int.reduceToNat, Nat.reduceGT, ↓reduceIte, Nat.reduceAdd, Nat.reduceMul, Nat.reduceSub, Nat.reduceEqDiff, Nat.reduceLeDiff, Nat.reduceLT, Nat.reduceBEq, Int.reduceBEq, Int.reduceBNe, Int.reduceEq, Int.reduceLT, Int.reduceLE, Int.reduceGT, Int.reduceNeg, reduceCtorEq, Int.cast_ofNat_Int, getE_zero, getE_one, getE_two, Option.isSome_none, c, c0, c00, if_true, Int.toNat_natCast, hm, hm2, hg1, hs1, w, w1, w2, IH]
theorem c_markSm (cs : List LSum) (hl : cs.length ≤ 4194304) (cap : Option Nat) (k : Nat) (hk : k ≤ 1073741824) (n : Nat) (hn : n = cs.length) :
    EV Try.prog pol (.callO false 53 [.sl 0 0 n cap, .t (.int .i64 (k : Int))] [.ts 2 (LSum.encs cs)]) = some (.call (.t (.int .i64 ((k + 2 * cs.length : Nat) : Int))) [.ts 2 (LSum.encs (mkSm cs.length k))]) := by
  subst hn
  have L := l_markSm cs hl cap k hk cs [] rfl
  simp only [List.length_nil, Int.natCast_zero, mkSm, show LSum.encs [] = [] from rfl, List.nil_append, Nat.mul_zero, Nat.add_zero] at L
  refine callO_eq Try.func53 rfl (by kernel_rfl) ?_
  unfold Try.f53
  simp (disch := ((try simp only [List.length_cons, List.length_append, List.length_nil, List.length_map]); omega)) only [↓GO, ↓DRW, GA, ren, renB, footX, refs, cellsV, cst, cstAt, nilC, idxAddr, E.load, E.store, binO, isC, bin, ibin, sbin, una, isShift, okCell, packV, lenV, blt, fnV, asArg, snapV, snapS, snapP, snapC, snapX, flatV, flatT, openK, layBack, allT, allZ, mkS, srcOf0, unN, idxV, nilEq, give, tupV, mkEnv, extV, pickV, LVS, OVS, LTS, TYS, PMS, pmT, OWS, ownT, GHS, ghT, DMS, dmT, Int.reduceToNat, Nat.reduceGT, ↓reduceIte, Nat.reduceAdd, Nat.reduceMul, Nat.reduceSub, Nat.reduceEqDiff, Nat.reduceLeDiff, Nat.reduceLT, Nat.reduceBEq, Int.reduceBEq, Int.reduceBNe, Int.reduceEq, Int.reduceLT, Int.reduceLE, Int.reduceGT, Int.reduceNeg, reduceCtorEq, Int.cast_ofNat_Int, getE_zero, getE_one, getE_two, Option.isSome_none, L]
theorem l_heldSm (cs : List LSum) (hl : cs.length ≤ 4194304) (k : Nat) (hk : k ≤ 1073741824) (hm : cs = mkSm cs.length k) : ∀ (n i : Nat), i + n = cs.length →
    EV Try.prog pol (.loop 54 26 0 [.t (.list 2 (LSum.encs cs)), .t (.int .i64 ((k + 2 * i : Nat) : Int)), .t (.int .i64 (i : Int))] []) = some (.loop (.exit 0) [.t (.int .i64 ((k + 2 * cs.length : Nat) : Int)), .bad] [])
  | 0, i, hi => by
    have c : decide ((i : Int) < (cs.length : Int)) = false := by apply decide_eq_false; omega
    have e : i = cs.length := by omega
    refine loop_eq Try.func54 rfl rfl ?_
    simp (disch := ((try simp only [List.length_cons, List.length_append, List.length_nil, List.length_map]); omega)) only [↓GO, ↓DRW, GA, ren, renB, footX, refs, cellsV, cst, cstAt, nilC, idxAddr, E.load, E.store, binO, isC, bin, ibin, sbin, una, isShift, okCell, packV, lenV, blt, fnV, asArg, snapV, snapS, snapP, snapC, snapX, flatV, flatT, openK, layBack, allT, allZ, mkS, srcOf0, unN, idxV, nilEq, give, tupV, mkEnv, extV, pickV, LVS, OVS, LTS, TYS, PMS, pmT, OWS, ownT, GHS, ghT, DMS, dmT, Int.reduceToNat, Nat.reduceGT, ↓reduceIte, Nat.reduceAdd, Nat.reduceMul, Nat.reduceSub, Nat.reduceEqDiff, Nat.reduceLeDiff, Nat.reduceLT, Nat.reduceBEq, Int.reduceBEq, Int.reduceBNe, Int.reduceEq, Int.reduceLT, Int.reduceLE, Int.reduceGT, Int.reduceNeg, reduceCtorEq, Int.cast_ofNat_Int, getE_zero, getE_one, getE_two, Option.isSome_none, c, LSum.encs_len]
    rw [e]
  | n + 1, i, hi => by
    have c : decide ((i : Int) < (cs.length : Int)) = true := by apply decide_eq_true; omega
    have hget : (LSum.encs cs)[i]? = some [.str (mkT (k + 2 * i)), .str (mkT (k + 2 * i + 1))] := by
      have := mkSm_get cs.length i k (by omega)
      rw [hm]
      simp only [LSum.encs, List.getElem?_map, mkSm_len, this, Option.map_some, LSum.enc]
    have hmt := c_mkT (k + 2 * i) (by omega)
    have hmt2 := c_mkT (k + 2 * i + 1) (by omega)
    have IH := l_heldSm cs hl k hk hm n (i + 1) (by omega)
    rw [show k + 2 * (i + 1) = k + 2 * i + 2 by omega] at IH
    have hkp : k + 2 * i ≤ 1082130432 := by omega
    clear hm
    generalize mkT (k + 2 * i + 1) = mt2 at *
    generalize mkT (k + 2 * i) = mt at *
    generalize k + 2 * i = kp at *
    have w : IntKind.i64.wrap ((kp : Int) + 1) = ((kp + 1 : Nat) : Int) := by rw [wrap_in (by omega)]; omega
    have w1 : IntKind.i64.wrap (((kp + 1 : Nat) : Int) + 1) = ((kp + 2 : Nat) : Int) := by rw [wrap_in (by omega)]; omega
    have w2 : IntKind.i64.wrap ((i : Int) + 1) = ((i + 1 : Nat) : Int) := by rw [wrap_in (by omega)]; omega
    refine loop_eq Try.func54 rfl rfl ?_
    simp (disch := ((try simp only [List.length_cons, List.length_append, List.length_nil, List.length_map]); omega)) only [↓GO, ↓DRW, GA, ren, renB, footX, refs, cellsV, cst, cstAt, nilC, idxAddr, E.load, E.store, binO, isC, bin, ibin, sbin, una, isShift, okCell, packV, lenV, blt, fnV, asArg, snapV, snapS, snapP, snapC, snapX, flatV, flatT, openK, layBack, allT, allZ, mkS, srcOf0, unN, idxV, nilEq, give, tupV, mkEnv, extV, pickV, LVS, OVS, LTS, TYS, PMS, pmT, OWS, ownT, GHS, ghT, DMS, dmT, Int.reduceToNat, Nat.reduceGT, ↓reduceIte, Nat.reduceAdd, Nat.reduceMul, Nat.reduceSub, Nat.reduceEqDiff, Nat.reduceLeDiff, Nat.reduceLT, Nat.reduceBEq, Int.reduceBEq, Int.reduceBNe, Int.reduceEq, Int.reduceLT, Int.reduceLE, Int.reduceGT, Int.reduceNeg, reduceCtorEq, Int.cast_ofNat_Int, getE_zero, getE_one, getE_two, Option.isSome_none, c, LSum.encs_len, hget, hmt, hmt2, w, w1, w2, IH, bne_self_eq_false]
theorem c_heldSm (n k : Nat) (hn : n ≤ 4194304) (hk : k ≤ 1073741824) : callPure (EV Try.prog pol) 54 [.t (.list 2 (LSum.encs (mkSm n k))), .t (.int .i64 (k : Int))] = some (.t (.int .i64 ((k + 2 * n : Nat) : Int))) := by
  have L := l_heldSm (mkSm n k) (by rw [mkSm_len]; exact hn) k hk (by rw [mkSm_len]) n 0 (by rw [mkSm_len]; omega)
  rw [mkSm_len] at L
  simp only [Int.natCast_zero, Nat.mul_zero, Nat.add_zero] at L
  apply eq_call
  refine call_eq rfl Try.func54 rfl (by kernel_rfl) ?_
  unfold Try.f54
  simp (disch := ((try simp only [List.length_cons, List.length_append, List.length_nil, List.length_map]); omega)) only [↓GO, ↓DRW, GA, ren, renB, footX, refs, cellsV, cst, cstAt, nilC, idxAddr, E.load, E.store, binO, isC, bin, ibin, sbin, una, isShift, okCell, packV, lenV, blt, fnV, asArg, snapV, snapS, snapP, snapC, snapX, flatV, flatT, openK, layBack, allT, allZ, mkS, srcOf0, unN, idxV, nilEq, give, tupV, mkEnv, extV, pickV, LVS, OVS, LTS, TYS, PMS, pmT, OWS, ownT, GHS, ghT, DMS, dmT, Int.reduceToNat, Nat.reduceGT, ↓reduceIte, Nat.reduceAdd, Nat.reduceMul, Nat.reduceSub, Nat.reduceEqDiff, Nat.reduceLeDiff, Nat.reduceLT, Nat.reduceBEq, Int.reduceBEq, Int.reduceBNe, Int.reduceEq, Int.reduceLT, Int.reduceLE, Int.reduceGT, Int.reduceNeg, reduceCtorEq, Int.cast_ofNat_Int, getE_zero, getE_one, getE_two, Option.isSome_none, L]
end Go.Proofs.Ytcphjdfmjhijkaa

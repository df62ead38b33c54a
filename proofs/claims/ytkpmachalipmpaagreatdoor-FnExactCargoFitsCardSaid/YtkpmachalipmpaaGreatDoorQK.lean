/- Joined: K10 K11 K12 S1 W5 G2. Conditions: those of each lemma. -/
import Derived.Test.YtkpmachalipmpaaGreatDoorQJ
import Derived.Test.YtkpmachalipmpaaGreatDoorQF
import Derived.Test.YtkpmachalipmpaaGreatDoorRows
import Derived.ProofKit
import Derived.ReadAgain
import Derived.Test.YtkpmachalipmpaaGreatDoorQI
set_option linter.unusedVariables false
set_option linter.unusedSimpArgs false
namespace Go.Proofs.YtkpmachalipmpaaGreatDoor
open E
set_option linter.unusedSimpArgs false
set_option linter.unusedVariables false
set_option maxRecDepth 100000
theorem fldS_enc (k t : Str) : (fldS k t).enc = [.str k, .str t, .list 1 [], .bool false] := rfl
theorem fldL_enc (k : Str) (l : List Str) : (fldL k l).enc = [.str k, .str [], .list 1 (strs l), .bool true] := rfl
theorem LField.encs_app (a b : List LField) : LField.encs (a ++ b) = LField.encs a ++ LField.encs b := by simp [LField.encs]
theorem LField.encs_cons (a : LField) (b : List LField) : LField.encs (a :: b) = a.enc :: LField.encs b := rfl
theorem LField.encs_nil : LField.encs [] = [] := rfl
theorem LTable.encs_app (a b : List LTable) : LTable.encs (a ++ b) = LTable.encs a ++ LTable.encs b := by simp [LTable.encs]
theorem LTable.encs_cons (a : LTable) (b : List LTable) : LTable.encs (a :: b) = a.enc :: LTable.encs b := rfl
theorem LTable.encs_nil : LTable.encs [] = [] := rfl
theorem l_soI (a : Str) (es : List LSum) (hl : es.length ≤ 4194304) : ∀ (rest pre : List LSum), es = pre ++ rest →
    ∃ x : V, EV Tryz.prog pol (.loop 223 26 0 [.t (.str a), .t (.list 2 (LSum.encs es)), .t (.int .i64 (es.length : Int)), .t (.int .i64 (pre.length : Int))] []) = some (cond (rest.any fun s => s.alg == a) (.loop .ret [.t (.str (sumOf a rest))] []) (.loop (.exit 0) [x] []))
  | [], pre, hs => by
    have c : decide ((pre.length : Int) < (es.length : Int)) = false := by simp [hs]
    refine ⟨.bad, ?_⟩
    simp only [List.any_nil, cond_false]
    refine loop_eq Tryz.func223 rfl rfl ?_
    simp (disch := ((try simp only [List.length_cons, List.length_append, List.length_nil, List.length_map]); omega)) only [↓GO, ↓DRW, GA, ren, renB, footX, refs, cellsV, cst, cstAt, nilC, idxAddr, E.load, E.store, binO, isC, bin, ibin, sbin, una, isShift, okCell, packV, lenV, blt, fnV, asArg, snapV, snapS, snapP, snapC, flatV, flatT, openK, layBack, allT, allZ, mkS, srcOf0, unN, idxV, nilEq, give, tupV, mkEnv, extV, pickV, LVS, OVS, LTS, TYS, PMS, pmT, Int.reduceToNat, Nat.reduceGT, ↓reduceIte, Nat.reduceAdd, Nat.reduceMul, Nat.reduceSub, Nat.reduceEqDiff, Nat.reduceLeDiff, Nat.reduceLT, Nat.reduceBEq, Int.reduceBEq, Int.reduceBNe, Int.reduceEq, Int.reduceLT, Int.reduceLE, Int.reduceGT, Int.reduceNeg, reduceCtorEq, Int.cast_ofNat_Int, getE_zero, getE_one, getE_two, Option.isSome_none, c]
  | s :: rest, pre, hs => by
    have c : decide ((pre.length : Int) < (es.length : Int)) = true := by simp [hs]; omega
    have hget : (LSum.encs es)[pre.length]? = some [.str s.alg, .str s.bytes] := by rw [hs]; exact map_zip LSum.enc pre s rest
    have hlen : pre.length + rest.length + 1 ≤ es.length := by rw [hs]; simp; omega
    obtain ⟨x, IH⟩ := l_soI a es hl rest (pre ++ [s]) (by rw [hs]; simp)
    rw [show ((pre ++ [s]).length : Int) = (pre.length : Int) + 1 by simp] at IH
    clear hs
    refine ⟨x, ?_⟩
    rw [List.any_cons, sumOf]
    cases h : (s.alg == a)
    all_goals
      refine loop_eq Tryz.func223 rfl rfl ?_
      simp (disch := ((try simp only [List.length_cons, List.length_append, List.length_nil, List.length_map]); omega)) only [↓GO, ↓DRW, GA, ren, renB, footX, refs, cellsV, cst, cstAt, nilC, idxAddr, E.load, E.store, binO, isC, bin, ibin, sbin, una, isShift, okCell, packV, lenV, blt, fnV, asArg, snapV, snapS, snapP, snapC, flatV, flatT, openK, layBack, allT, allZ, mkS, srcOf0, unN, idxV, nilEq, give, tupV, mkEnv, extV, pickV, LVS, OVS, LTS, TYS, PMS, pmT, Int.reduceToNat, Nat.reduceGT, ↓reduceIte, Nat.reduceAdd, Nat.reduceMul, Nat.reduceSub, Nat.reduceEqDiff, Nat.reduceLeDiff, Nat.reduceLT, Nat.reduceBEq, Int.reduceBEq, Int.reduceBNe, Int.reduceEq, Int.reduceLT, Int.reduceLE, Int.reduceGT, Int.reduceNeg, reduceCtorEq, Int.cast_ofNat_Int, getE_zero, getE_one, getE_two, Option.isSome_none, c, hget, h, wrap_in, IH, rch3]
theorem sumOf_no (a : Str) : ∀ l : List LSum, (l.any fun s => s.alg == a) = false → sumOf a l = []
  | [], _ => rfl
  | s :: r, h => by
    rw [List.any_cons, Bool.or_eq_false_iff] at h
    rw [sumOf, h.1]; exact sumOf_no a r h.2
theorem c_soI (p : LPack) (a : Str) (hb : p.bulk ≤ 1048576) : callPure (EV Tryz.prog pol) 223 [.agg (p.enc.map .t), .t (.str a)] = some (.t (.str (sumOf a p.sums))) := by
  obtain ⟨x, L⟩ := l_soI a p.sums (by have := pack_needs hb; omega) p.sums [] rfl
  simp only [List.length_nil, Int.natCast_zero] at L
  simp only [LPack.enc, List.map_cons, List.map_nil]
  cases h : (p.sums.any fun s => s.alg == a) <;> rw [h] at L <;> simp only [cond_true, cond_false] at L
  · rw [sumOf_no a p.sums h]
    apply eq_call
    refine call_eq rfl Tryz.func223 rfl (by kernel_rfl) ?_
    unfold Tryz.f223
    simp (disch := ((try simp only [List.length_cons, List.length_append, List.length_nil, List.length_map]); omega)) only [↓GO, ↓DRW, GA, ren, renB, footX, refs, cellsV, cst, cstAt, nilC, idxAddr, E.load, E.store, binO, isC, bin, ibin, sbin, una, isShift, okCell, packV, lenV, blt, fnV, asArg, snapV, snapS, snapP, snapC, flatV, flatT, openK, layBack, allT, allZ, mkS, srcOf0, unN, idxV, nilEq, give, tupV, mkEnv, extV, pickV, LVS, OVS, LTS, TYS, PMS, pmT, Int.reduceToNat, Nat.reduceGT, ↓reduceIte, Nat.reduceAdd, Nat.reduceMul, Nat.reduceSub, Nat.reduceEqDiff, Nat.reduceLeDiff, Nat.reduceLT, Nat.reduceBEq, Int.reduceBEq, Int.reduceBNe, Int.reduceEq, Int.reduceLT, Int.reduceLE, Int.reduceGT, Int.reduceNeg, reduceCtorEq, Int.cast_ofNat_Int, getE_zero, getE_one, getE_two, Option.isSome_none, L, LSum.encs_len]
  · apply eq_call
    refine call_eq rfl Tryz.func223 rfl (by kernel_rfl) ?_
    unfold Tryz.f223
    simp (disch := ((try simp only [List.length_cons, List.length_append, List.length_nil, List.length_map]); omega)) only [↓GO, ↓DRW, GA, ren, renB, footX, refs, cellsV, cst, cstAt, nilC, idxAddr, E.load, E.store, binO, isC, bin, ibin, sbin, una, isShift, okCell, packV, lenV, blt, fnV, asArg, snapV, snapS, snapP, snapC, flatV, flatT, openK, layBack, allT, allZ, mkS, srcOf0, unN, idxV, nilEq, give, tupV, mkEnv, extV, pickV, LVS, OVS, LTS, TYS, PMS, pmT, Int.reduceToNat, Nat.reduceGT, ↓reduceIte, Nat.reduceAdd, Nat.reduceMul, Nat.reduceSub, Nat.reduceEqDiff, Nat.reduceLeDiff, Nat.reduceLT, Nat.reduceBEq, Int.reduceBEq, Int.reduceBNe, Int.reduceEq, Int.reduceLT, Int.reduceLE, Int.reduceGT, Int.reduceNeg, reduceCtorEq, Int.cast_ofNat_Int, getE_zero, getE_one, getE_two, Option.isSome_none, L, LSum.encs_len]
theorem c_tt1 (nm ver : Str) : EV Tryz.prog pol (.callO false 220 [.t (.str nm), .t (.str ver)] []) = some (.call (.agg [.t (.str packageK), .sl 0 0 2 (some 2)]) [.ts 4 [(fldS nameK nm).enc, (fldS versionK ver).enc]]) := by
  simp only [fldS_enc, nameK, versionK, packageK]
  refine callO_eq Tryz.func220 rfl (by kernel_rfl) ?_
  unfold Tryz.f220
  simp (disch := ((try simp only [List.length_cons, List.length_append, List.length_nil, List.length_map]); omega)) only [↓GO, ↓DRW, GA, ren, renB, footX, refs, cellsV, cst, cstAt, nilC, idxAddr, E.load, E.store, binO, isC, bin, ibin, sbin, una, isShift, okCell, packV, lenV, blt, fnV, asArg, snapV, snapS, snapP, snapC, flatV, flatT, openK, layBack, allT, allZ, mkS, srcOf0, unN, idxV, nilEq, give, tupV, mkEnv, extV, pickV, LVS, OVS, LTS, TYS, PMS, pmT, Int.reduceToNat, Nat.reduceGT, ↓reduceIte, Nat.reduceAdd, Nat.reduceMul, Nat.reduceSub, Nat.reduceEqDiff, Nat.reduceLeDiff, Nat.reduceLT, Nat.reduceBEq, Int.reduceBEq, Int.reduceBNe, Int.reduceEq, Int.reduceLT, Int.reduceLE, Int.reduceGT, Int.reduceNeg, reduceCtorEq, Int.cast_ofNat_Int, getE_zero, getE_one, getE_two, Option.isSome_none, rch3]
theorem c_tt2n (g : LGraph) (nm : Str) (fs : List LField) (n : Nat) (cap : Option Nat) : EV Tryz.prog pol (.callO false 221 [.ptr 0 0 0, .t (.list 1 []), .ptr 1 0 0] [.vs 2 [[.t (.str nm), .sl 2 0 n cap]], .vs 2 [g.enc.map .t], .ts 4 (LField.encs fs)])
    = some (.call (.tup []) [.vs 2 [[.t (.str nm), .sl 2 0 n cap]], .vs 2 [g.enc.map .t], .ts 4 (LField.encs fs)]) := by
  simp only [LGraph.enc, List.map_cons, List.map_nil]
  refine callO_eq Tryz.func221 rfl (by kernel_rfl) ?_
  unfold Tryz.f221
  simp (disch := ((try simp only [List.length_cons, List.length_append, List.length_nil, List.length_map]); omega)) only [↓GO, ↓DRW, GA, ren, renB, footX, refs, cellsV, cst, cstAt, nilC, idxAddr, E.load, E.store, binO, isC, bin, ibin, sbin, una, isShift, okCell, packV, lenV, blt, fnV, asArg, snapV, snapS, snapP, snapC, flatV, flatT, openK, layBack, allT, allZ, mkS, srcOf0, unN, idxV, nilEq, give, tupV, mkEnv, extV, pickV, LVS, OVS, LTS, TYS, PMS, pmT, Int.reduceToNat, Nat.reduceGT, ↓reduceIte, Nat.reduceAdd, Nat.reduceMul, Nat.reduceSub, Nat.reduceEqDiff, Nat.reduceLeDiff, Nat.reduceLT, Nat.reduceBEq, Int.reduceBEq, Int.reduceBNe, Int.reduceEq, Int.reduceLT, Int.reduceLE, Int.reduceGT, Int.reduceNeg, reduceCtorEq, Int.cast_ofNat_Int, getE_zero, getE_one, getE_two, Option.isSome_none, rch3, Int.natCast_zero]
theorem c_tt2 (g : LGraph) (hB : GB g) (ks : List Str) (hl : ks.length ≤ 1048576) (hb : ∀ k ∈ ks, k.length ≤ 1048576) (hk : (ks == []) = false) (nm : Str) (fs : List LField) (hf : fs.length ≤ 1048576) (n : Nat) (hn : n = fs.length) (cap : Option Nat) :
    EV Tryz.prog pol (.callO false 221 [.ptr 0 0 0, .t (.list 1 (strs ks)), .ptr 1 0 0] [.vs 2 [[.t (.str nm), .sl 2 0 n cap]], .vs 2 [g.enc.map .t], .ts 4 (LField.encs fs)])
    = some (.call (.tup []) [.vs 2 [[.t (.str nm), .sl 3 0 (n + 1) none]], .vs 2 [g.enc.map .t], .dead, .ts 4 (LField.encs fs ++ [(fldL depsK (shorts g.packs ks)).enc])]) := by
  have h := c_shI g hB ks hl hb
  have hg := gt_len ks
  rw [hk] at hg
  have hfl := LField.encs_len fs
  generalize shorts g.packs ks = sh at *
  simp only [LGraph.enc, List.map_cons, List.map_nil, fldL_enc, depsK, Bool.not_false] at h hg ⊢
  generalize LField.encs fs = fe at *
  have hnf : (n = fe.length) = True := eq_true (by omega)
  refine callO_eq Tryz.func221 rfl (by kernel_rfl) ?_
  unfold Tryz.f221
  simp (disch := ((try simp only [List.length_cons, List.length_append, List.length_nil, List.length_map]); omega)) only [↓GO, ↓DRW, GA, ren, renB, footX, refs, cellsV, cst, cstAt, nilC, idxAddr, E.load, E.store, binO, isC, bin, ibin, sbin, una, isShift, okCell, packV, lenV, blt, fnV, asArg, snapV, snapS, snapP, snapC, flatV, flatT, openK, layBack, allT, allZ, mkS, srcOf0, unN, idxV, nilEq, give, tupV, mkEnv, extV, pickV, LVS, OVS, LTS, TYS, PMS, pmT, Int.reduceToNat, Nat.reduceGT, ↓reduceIte, Nat.reduceAdd, Nat.reduceMul, Nat.reduceSub, Nat.reduceEqDiff, Nat.reduceLeDiff, Nat.reduceLT, Nat.reduceBEq, Int.reduceBEq, Int.reduceBNe, Int.reduceEq, Int.reduceLT, Int.reduceLE, Int.reduceGT, Int.reduceNeg, reduceCtorEq, Int.cast_ofNat_Int, getE_zero, getE_one, getE_two, Option.isSome_none, h, hg, hnf, strs_len, rch3, le_T]
  refine dyn_pos (by kernel_rfl) ?_
  simp (disch := ((try simp only [List.length_cons, List.length_append, List.length_nil, List.length_map]); omega)) only [↓GO, ↓DRW, GA, ren, renB, footX, refs, cellsV, cst, cstAt, nilC, idxAddr, E.load, E.store, binO, isC, bin, ibin, sbin, una, isShift, okCell, packV, lenV, blt, fnV, asArg, snapV, snapS, snapP, snapC, flatV, flatT, openK, layBack, allT, allZ, mkS, srcOf0, unN, idxV, nilEq, give, tupV, mkEnv, extV, pickV, LVS, OVS, LTS, TYS, PMS, pmT, Int.reduceToNat, Nat.reduceGT, ↓reduceIte, Nat.reduceAdd, Nat.reduceMul, Nat.reduceSub, Nat.reduceEqDiff, Nat.reduceLeDiff, Nat.reduceLT, Nat.reduceBEq, Int.reduceBEq, Int.reduceBNe, Int.reduceEq, Int.reduceLT, Int.reduceLE, Int.reduceGT, Int.reduceNeg, reduceCtorEq, Int.cast_ofNat_Int, getE_zero, getE_one, getE_two, Option.isSome_none, h, hg, hnf, strs_len, rch3, le_T]
theorem strs_of_nil (ks : List Str) (h : (ks == []) = true) : strs ks = [] := by cases ks with
  | nil => rfl
  | cons x l => cases h
theorem take_eqL {α : Type} (l : List α) (n : Nat) (h : l.length ≤ n) : l.take n = l := List.take_of_length_le h
theorem l_ttI (g : LGraph) (hB : GB g) : ∀ (rest pre : List LPack) (cap : Option Nat) (m : Nat), g.packs = pre ++ rest → m = 2 + pre.length →
    ∃ cap', EV Tryz.prog pol (.loop 133 1018 0 [.t (.fn 220 []), .fn 221 [.ptr 0 0 0], .sl 1 0 m cap, .t (.list 6 (LPack.encs g.packs)), .t (.int .i64 (g.packs.length : Int)), .t (.int .i64 (pre.length : Int))] [.vs 2 [g.enc.map .t], .ts 2 (LTable.encs (headTs g ++ pre.map (tblOf g.packs)))])
      = some (.loop (.exit 0) [.sl 0 0 (2 + g.packs.length) cap'] [.ts 2 (LTable.encs (toTables g))])
  | [], pre, cap, m, hs, hm => by
    have c : decide ((pre.length : Int) < (g.packs.length : Int)) = false := by simp [hs]
    have e : g.packs = pre := by simpa using hs
    refine ⟨cap, ?_⟩
    simp only [LGraph.enc, List.map_cons, List.map_nil]
    refine loop_eq Tryz.func133 rfl rfl ?_
    simp (disch := ((try simp only [List.length_cons, List.length_append, List.length_nil, List.length_map]); omega)) only [↓GO, ↓DRW, GA, ren, renB, footX, refs, cellsV, cst, cstAt, nilC, idxAddr, E.load, E.store, binO, isC, bin, ibin, sbin, una, isShift, okCell, packV, lenV, blt, fnV, asArg, snapV, snapS, snapP, snapC, flatV, flatT, openK, layBack, allT, allZ, mkS, srcOf0, unN, idxV, nilEq, give, tupV, mkEnv, extV, pickV, LVS, OVS, LTS, TYS, PMS, pmT, Int.reduceToNat, Nat.reduceGT, ↓reduceIte, Nat.reduceAdd, Nat.reduceMul, Nat.reduceSub, Nat.reduceEqDiff, Nat.reduceLeDiff, Nat.reduceLT, Nat.reduceBEq, Int.reduceBEq, Int.reduceBNe, Int.reduceEq, Int.reduceLT, Int.reduceLE, Int.reduceGT, Int.reduceNeg, reduceCtorEq, Int.cast_ofNat_Int, getE_zero, getE_one, getE_two, Option.isSome_none, c, rch3]
    unfold toTables
    rw [hm, ← e]
  | x :: rest, pre, cap, m, hs, hm => by
    obtain ⟨b1, b2, b3⟩ := hB.len
    have hxb := b3 x (by rw [hs]; simp)
    obtain ⟨k1, k2, k3, k4, k5, k6, k7⟩ := pack_needs hxb
    have c : decide ((pre.length : Int) < (g.packs.length : Int)) = true := by simp [hs]; omega
    have hget : (LPack.encs g.packs)[pre.length]? = some x.enc := by rw [hs]; exact map_zip LPack.enc pre x rest
    have hlen : pre.length + rest.length + 1 ≤ g.packs.length := by rw [hs]; simp; omega
    obtain ⟨cap', IH⟩ := l_ttI g hB rest (pre ++ [x]) none (m + 1) (by rw [hs]; simp) (by simp; omega)
    refine ⟨cap', ?_⟩
    rw [show ((pre ++ [x]).length : Int) = (pre.length : Int) + 1 by simp, show LTable.encs (headTs g ++ (pre ++ [x]).map (tblOf g.packs)) = LTable.encs (headTs g ++ pre.map (tblOf g.packs)) ++ [(tblOf g.packs x).enc] by simp [LTable.encs]] at IH
    have hol : (LTable.encs (headTs g ++ pre.map (tblOf g.packs))).length = m := by rw [LTable.encs_len]; simp [headTs]; omega
    have hml : m ≤ 1048578 := by omega
    clear hs b3
    have d1 := c_tt1 x.name x.version
    have d2 := c_soI x sha256S hxb
    have hsl := sumOf_len sha256S x.sums
    have d3 := c_hexI (sumOf sha256S x.sums) (by omega)
    generalize LTable.encs (headTs g ++ pre.map (tblOf g.packs)) = outs at *
    unfold tblOf tblP LTable.enc at IH
    have hnk := strs_of_nil x.needs
    generalize hsm : sumOf sha256S x.sums = sm at *
    have T1 := fun hk => c_tt2 g hB x.needs k1 (fun k hk => by have := bulk_mem hk; omega) hk packageK (([fldS nameK x.name, fldS versionK x.version] ++ srcF x.source) ++ sumF sm) (by unfold srcF sumF; cases (x.source == []) <;> cases (sm == []) <;> simp) _ rfl (cond (x.source == [] && sm == []) (some 2) none)
    have T0 := c_tt2n g packageK (([fldS nameK x.name, fldS versionK x.version] ++ srcF x.source) ++ sumF sm) (([fldS nameK x.name, fldS versionK x.version] ++ srcF x.source) ++ sumF sm).length (cond (x.source == [] && sm == []) (some 2) none)
    simp only [LGraph.enc, LPack.enc, List.map_cons, List.map_nil, fldS_enc, fldL_enc, sha256S] at hget d1 d2 IH T1 T0 ⊢
    cases h2 : (sm == []) <;> cases h1 : (x.source == []) <;> cases h3 : (x.needs == []) <;>
      simp only [srcF, sumF, depF, h1, h2, h3, cond_true, cond_false, Bool.and_true, Bool.true_and, Bool.and_false, Bool.false_and, LField.encs, List.map_cons, List.map_nil, List.cons_append, List.nil_append, List.append_nil, fldS_enc, fldL_enc, List.length_cons, List.length_nil, Nat.reduceAdd, packageK, nameK, versionK, sourceK, checksumK, depsK, true_implies, false_implies, reduceCtorEq] at IH T1 T0 d1
    · refine loop_eq Tryz.func133 rfl rfl ?_
      simp (disch := ((try simp only [List.length_cons, List.length_append, List.length_nil, List.length_map]); omega)) only [↓GO, ↓DRW, GA, ren, renB, footX, refs, cellsV, cst, cstAt, nilC, idxAddr, E.load, E.store, binO, isC, bin, ibin, sbin, una, isShift, okCell, packV, lenV, blt, fnV, asArg, snapV, snapS, snapP, snapC, flatV, flatT, openK, layBack, allT, allZ, mkS, srcOf0, unN, idxV, nilEq, give, tupV, mkEnv, extV, pickV, LVS, OVS, LTS, TYS, PMS, pmT, Int.reduceToNat, Nat.reduceGT, ↓reduceIte, Nat.reduceAdd, Nat.reduceMul, Nat.reduceSub, Nat.reduceEqDiff, Nat.reduceLeDiff, Nat.reduceLT, Nat.reduceBEq, Int.reduceBEq, Int.reduceBNe, Int.reduceEq, Int.reduceLT, Int.reduceLE, Int.reduceGT, Int.reduceNeg, reduceCtorEq, Int.cast_ofNat_Int, getE_zero, getE_one, getE_two, Option.isSome_none, c, hget, d1, d2, d3, h1, h2, T1, bne, wrap_in, hol, IH, rch3, le_T]
      refine dyn_pos (by kernel_rfl) ?_
      simp (disch := ((try simp only [List.length_cons, List.length_append, List.length_nil, List.length_map]); omega)) only [↓GO, ↓DRW, GA, ren, renB, footX, refs, cellsV, cst, cstAt, nilC, idxAddr, E.load, E.store, binO, isC, bin, ibin, sbin, una, isShift, okCell, packV, lenV, blt, fnV, asArg, snapV, snapS, snapP, snapC, flatV, flatT, openK, layBack, allT, allZ, mkS, srcOf0, unN, idxV, nilEq, give, tupV, mkEnv, extV, pickV, LVS, OVS, LTS, TYS, PMS, pmT, Int.reduceToNat, Nat.reduceGT, ↓reduceIte, Nat.reduceAdd, Nat.reduceMul, Nat.reduceSub, Nat.reduceEqDiff, Nat.reduceLeDiff, Nat.reduceLT, Nat.reduceBEq, Int.reduceBEq, Int.reduceBNe, Int.reduceEq, Int.reduceLT, Int.reduceLE, Int.reduceGT, Int.reduceNeg, reduceCtorEq, Int.cast_ofNat_Int, getE_zero, getE_one, getE_two, Option.isSome_none, c, hget, d1, d2, d3, h1, h2, T1, bne, wrap_in, hol, IH, rch3, le_T]
    · have hn0 := hnk h3
      rw [hn0] at d2
      refine loop_eq Tryz.func133 rfl rfl ?_
      simp (disch := ((try simp only [List.length_cons, List.length_append, List.length_nil, List.length_map]); omega)) only [↓GO, ↓DRW, GA, ren, renB, footX, refs, cellsV, cst, cstAt, nilC, idxAddr, E.load, E.store, binO, isC, bin, ibin, sbin, una, isShift, okCell, packV, lenV, blt, fnV, asArg, snapV, snapS, snapP, snapC, flatV, flatT, openK, layBack, allT, allZ, mkS, srcOf0, unN, idxV, nilEq, give, tupV, mkEnv, extV, pickV, LVS, OVS, LTS, TYS, PMS, pmT, Int.reduceToNat, Nat.reduceGT, ↓reduceIte, Nat.reduceAdd, Nat.reduceMul, Nat.reduceSub, Nat.reduceEqDiff, Nat.reduceLeDiff, Nat.reduceLT, Nat.reduceBEq, Int.reduceBEq, Int.reduceBNe, Int.reduceEq, Int.reduceLT, Int.reduceLE, Int.reduceGT, Int.reduceNeg, reduceCtorEq, Int.cast_ofNat_Int, getE_zero, getE_one, getE_two, Option.isSome_none, c, hget, d1, d2, d3, h1, h2, T0, hn0, bne, wrap_in, hol, IH, rch3, le_T]
      refine dyn_pos (by kernel_rfl) ?_
      simp (disch := ((try simp only [List.length_cons, List.length_append, List.length_nil, List.length_map]); omega)) only [↓GO, ↓DRW, GA, ren, renB, footX, refs, cellsV, cst, cstAt, nilC, idxAddr, E.load, E.store, binO, isC, bin, ibin, sbin, una, isShift, okCell, packV, lenV, blt, fnV, asArg, snapV, snapS, snapP, snapC, flatV, flatT, openK, layBack, allT, allZ, mkS, srcOf0, unN, idxV, nilEq, give, tupV, mkEnv, extV, pickV, LVS, OVS, LTS, TYS, PMS, pmT, Int.reduceToNat, Nat.reduceGT, ↓reduceIte, Nat.reduceAdd, Nat.reduceMul, Nat.reduceSub, Nat.reduceEqDiff, Nat.reduceLeDiff, Nat.reduceLT, Nat.reduceBEq, Int.reduceBEq, Int.reduceBNe, Int.reduceEq, Int.reduceLT, Int.reduceLE, Int.reduceGT, Int.reduceNeg, reduceCtorEq, Int.cast_ofNat_Int, getE_zero, getE_one, getE_two, Option.isSome_none, c, hget, d1, d2, d3, h1, h2, T0, hn0, bne, wrap_in, hol, IH, rch3, le_T]
    · refine loop_eq Tryz.func133 rfl rfl ?_
      simp (disch := ((try simp only [List.length_cons, List.length_append, List.length_nil, List.length_map]); omega)) only [↓GO, ↓DRW, GA, ren, renB, footX, refs, cellsV, cst, cstAt, nilC, idxAddr, E.load, E.store, binO, isC, bin, ibin, sbin, una, isShift, okCell, packV, lenV, blt, fnV, asArg, snapV, snapS, snapP, snapC, flatV, flatT, openK, layBack, allT, allZ, mkS, srcOf0, unN, idxV, nilEq, give, tupV, mkEnv, extV, pickV, LVS, OVS, LTS, TYS, PMS, pmT, Int.reduceToNat, Nat.reduceGT, ↓reduceIte, Nat.reduceAdd, Nat.reduceMul, Nat.reduceSub, Nat.reduceEqDiff, Nat.reduceLeDiff, Nat.reduceLT, Nat.reduceBEq, Int.reduceBEq, Int.reduceBNe, Int.reduceEq, Int.reduceLT, Int.reduceLE, Int.reduceGT, Int.reduceNeg, reduceCtorEq, Int.cast_ofNat_Int, getE_zero, getE_one, getE_two, Option.isSome_none, c, hget, d1, d2, d3, h1, h2, T1, bne, wrap_in, hol, IH, rch3, le_T]
      refine dyn_pos (by kernel_rfl) ?_
      simp (disch := ((try simp only [List.length_cons, List.length_append, List.length_nil, List.length_map]); omega)) only [↓GO, ↓DRW, GA, ren, renB, footX, refs, cellsV, cst, cstAt, nilC, idxAddr, E.load, E.store, binO, isC, bin, ibin, sbin, una, isShift, okCell, packV, lenV, blt, fnV, asArg, snapV, snapS, snapP, snapC, flatV, flatT, openK, layBack, allT, allZ, mkS, srcOf0, unN, idxV, nilEq, give, tupV, mkEnv, extV, pickV, LVS, OVS, LTS, TYS, PMS, pmT, Int.reduceToNat, Nat.reduceGT, ↓reduceIte, Nat.reduceAdd, Nat.reduceMul, Nat.reduceSub, Nat.reduceEqDiff, Nat.reduceLeDiff, Nat.reduceLT, Nat.reduceBEq, Int.reduceBEq, Int.reduceBNe, Int.reduceEq, Int.reduceLT, Int.reduceLE, Int.reduceGT, Int.reduceNeg, reduceCtorEq, Int.cast_ofNat_Int, getE_zero, getE_one, getE_two, Option.isSome_none, c, hget, d1, d2, d3, h1, h2, T1, bne, wrap_in, hol, IH, rch3, le_T]
    · have hn0 := hnk h3
      rw [hn0] at d2
      refine loop_eq Tryz.func133 rfl rfl ?_
      simp (disch := ((try simp only [List.length_cons, List.length_append, List.length_nil, List.length_map]); omega)) only [↓GO, ↓DRW, GA, ren, renB, footX, refs, cellsV, cst, cstAt, nilC, idxAddr, E.load, E.store, binO, isC, bin, ibin, sbin, una, isShift, okCell, packV, lenV, blt, fnV, asArg, snapV, snapS, snapP, snapC, flatV, flatT, openK, layBack, allT, allZ, mkS, srcOf0, unN, idxV, nilEq, give, tupV, mkEnv, extV, pickV, LVS, OVS, LTS, TYS, PMS, pmT, Int.reduceToNat, Nat.reduceGT, ↓reduceIte, Nat.reduceAdd, Nat.reduceMul, Nat.reduceSub, Nat.reduceEqDiff, Nat.reduceLeDiff, Nat.reduceLT, Nat.reduceBEq, Int.reduceBEq, Int.reduceBNe, Int.reduceEq, Int.reduceLT, Int.reduceLE, Int.reduceGT, Int.reduceNeg, reduceCtorEq, Int.cast_ofNat_Int, getE_zero, getE_one, getE_two, Option.isSome_none, c, hget, d1, d2, d3, h1, h2, T0, hn0, bne, wrap_in, hol, IH, rch3, le_T]
      refine dyn_pos (by kernel_rfl) ?_
      simp (disch := ((try simp only [List.length_cons, List.length_append, List.length_nil, List.length_map]); omega)) only [↓GO, ↓DRW, GA, ren, renB, footX, refs, cellsV, cst, cstAt, nilC, idxAddr, E.load, E.store, binO, isC, bin, ibin, sbin, una, isShift, okCell, packV, lenV, blt, fnV, asArg, snapV, snapS, snapP, snapC, flatV, flatT, openK, layBack, allT, allZ, mkS, srcOf0, unN, idxV, nilEq, give, tupV, mkEnv, extV, pickV, LVS, OVS, LTS, TYS, PMS, pmT, Int.reduceToNat, Nat.reduceGT, ↓reduceIte, Nat.reduceAdd, Nat.reduceMul, Nat.reduceSub, Nat.reduceEqDiff, Nat.reduceLeDiff, Nat.reduceLT, Nat.reduceBEq, Int.reduceBEq, Int.reduceBNe, Int.reduceEq, Int.reduceLT, Int.reduceLE, Int.reduceGT, Int.reduceNeg, reduceCtorEq, Int.cast_ofNat_Int, getE_zero, getE_one, getE_two, Option.isSome_none, c, hget, d1, d2, d3, h1, h2, T0, hn0, bne, wrap_in, hol, IH, rch3, le_T]
    · refine loop_eq Tryz.func133 rfl rfl ?_
      simp (disch := ((try simp only [List.length_cons, List.length_append, List.length_nil, List.length_map]); omega)) only [↓GO, ↓DRW, GA, ren, renB, footX, refs, cellsV, cst, cstAt, nilC, idxAddr, E.load, E.store, binO, isC, bin, ibin, sbin, una, isShift, okCell, packV, lenV, blt, fnV, asArg, snapV, snapS, snapP, snapC, flatV, flatT, openK, layBack, allT, allZ, mkS, srcOf0, unN, idxV, nilEq, give, tupV, mkEnv, extV, pickV, LVS, OVS, LTS, TYS, PMS, pmT, Int.reduceToNat, Nat.reduceGT, ↓reduceIte, Nat.reduceAdd, Nat.reduceMul, Nat.reduceSub, Nat.reduceEqDiff, Nat.reduceLeDiff, Nat.reduceLT, Nat.reduceBEq, Int.reduceBEq, Int.reduceBNe, Int.reduceEq, Int.reduceLT, Int.reduceLE, Int.reduceGT, Int.reduceNeg, reduceCtorEq, Int.cast_ofNat_Int, getE_zero, getE_one, getE_two, Option.isSome_none, c, hget, d1, d2, h1, h2, T1, bne, wrap_in, hol, IH, rch3, le_T]
    · have hn0 := hnk h3
      rw [hn0] at d2
      refine loop_eq Tryz.func133 rfl rfl ?_
      simp (disch := ((try simp only [List.length_cons, List.length_append, List.length_nil, List.length_map]); omega)) only [↓GO, ↓DRW, GA, ren, renB, footX, refs, cellsV, cst, cstAt, nilC, idxAddr, E.load, E.store, binO, isC, bin, ibin, sbin, una, isShift, okCell, packV, lenV, blt, fnV, asArg, snapV, snapS, snapP, snapC, flatV, flatT, openK, layBack, allT, allZ, mkS, srcOf0, unN, idxV, nilEq, give, tupV, mkEnv, extV, pickV, LVS, OVS, LTS, TYS, PMS, pmT, Int.reduceToNat, Nat.reduceGT, ↓reduceIte, Nat.reduceAdd, Nat.reduceMul, Nat.reduceSub, Nat.reduceEqDiff, Nat.reduceLeDiff, Nat.reduceLT, Nat.reduceBEq, Int.reduceBEq, Int.reduceBNe, Int.reduceEq, Int.reduceLT, Int.reduceLE, Int.reduceGT, Int.reduceNeg, reduceCtorEq, Int.cast_ofNat_Int, getE_zero, getE_one, getE_two, Option.isSome_none, c, hget, d1, d2, h1, h2, T0, hn0, bne, wrap_in, hol, IH, rch3, le_T]
    · refine loop_eq Tryz.func133 rfl rfl ?_
      simp (disch := ((try simp only [List.length_cons, List.length_append, List.length_nil, List.length_map]); omega)) only [↓GO, ↓DRW, GA, ren, renB, footX, refs, cellsV, cst, cstAt, nilC, idxAddr, E.load, E.store, binO, isC, bin, ibin, sbin, una, isShift, okCell, packV, lenV, blt, fnV, asArg, snapV, snapS, snapP, snapC, flatV, flatT, openK, layBack, allT, allZ, mkS, srcOf0, unN, idxV, nilEq, give, tupV, mkEnv, extV, pickV, LVS, OVS, LTS, TYS, PMS, pmT, Int.reduceToNat, Nat.reduceGT, ↓reduceIte, Nat.reduceAdd, Nat.reduceMul, Nat.reduceSub, Nat.reduceEqDiff, Nat.reduceLeDiff, Nat.reduceLT, Nat.reduceBEq, Int.reduceBEq, Int.reduceBNe, Int.reduceEq, Int.reduceLT, Int.reduceLE, Int.reduceGT, Int.reduceNeg, reduceCtorEq, Int.cast_ofNat_Int, getE_zero, getE_one, getE_two, Option.isSome_none, c, hget, d1, d2, h1, h2, T1, bne, wrap_in, hol, IH, rch3, le_T]
    · have hn0 := hnk h3
      rw [hn0] at d2
      refine loop_eq Tryz.func133 rfl rfl ?_
      simp (disch := ((try simp only [List.length_cons, List.length_append, List.length_nil, List.length_map]); omega)) only [↓GO, ↓DRW, GA, ren, renB, footX, refs, cellsV, cst, cstAt, nilC, idxAddr, E.load, E.store, binO, isC, bin, ibin, sbin, una, isShift, okCell, packV, lenV, blt, fnV, asArg, snapV, snapS, snapP, snapC, flatV, flatT, openK, layBack, allT, allZ, mkS, srcOf0, unN, idxV, nilEq, give, tupV, mkEnv, extV, pickV, LVS, OVS, LTS, TYS, PMS, pmT, Int.reduceToNat, Nat.reduceGT, ↓reduceIte, Nat.reduceAdd, Nat.reduceMul, Nat.reduceSub, Nat.reduceEqDiff, Nat.reduceLeDiff, Nat.reduceLT, Nat.reduceBEq, Int.reduceBEq, Int.reduceBNe, Int.reduceEq, Int.reduceLT, Int.reduceLE, Int.reduceGT, Int.reduceNeg, reduceCtorEq, Int.cast_ofNat_Int, getE_zero, getE_one, getE_two, Option.isSome_none, c, hget, d1, d2, h1, h2, T0, hn0, bne, wrap_in, hol, IH, rch3, le_T]
theorem c_ttI (g : LGraph) (hB : GB g) : callPure (EV Tryz.prog pol) 133 [.agg (g.enc.map .t)] = some (.t (.list 2 (LTable.encs (toTables g)))) := by
  obtain ⟨b1, b2, b3⟩ := hB.len
  obtain ⟨cap, L⟩ := l_ttI g hB g.packs [] (some 2) 2 rfl rfl
  have d1 := c_tt1 rootK zeroK
  have ht : List.take (2 + g.packs.length) (LTable.encs (toTables g)) = LTable.encs (toTables g) := List.take_of_length_le (by rw [LTable.encs_len]; unfold toTables headTs; simp; omega)
  have hnk := strs_of_nil g.top
  have T1 := fun hk => c_tt2 g hB g.top (by omega) (fun k hk => by have := bulk_mem hk; omega) hk packageK [fldS nameK rootK, fldS versionK zeroK] (by simp) 2 rfl (some 2)
  have T0 := c_tt2n g packageK [fldS nameK rootK, fldS versionK zeroK] 2 (some 2)
  clear b3
  generalize toTables g = tts at *
  unfold headTs tblP at L
  simp only [List.length_nil, Int.natCast_zero] at L
  simp only [LGraph.enc, LTable.enc, LTable.encs, List.map_cons, List.map_nil, fldS_enc, fldL_enc] at d1 L T1 T0 ht ⊢
  cases h3 : (g.top == []) <;>
    simp only [srcF, sumF, depF, h3, cond_true, cond_false, show (([] : Str) == []) = true from rfl, LField.encs, LTable.encs, LTable.enc, List.map_cons, List.map_nil, List.cons_append, List.nil_append, List.append_nil, fldS_enc, fldL_enc, List.length_cons, List.length_nil, Nat.reduceAdd, packageK, nameK, versionK, rootK, zeroK, depsK, true_implies, false_implies, reduceCtorEq] at L T1 T0 d1
  · apply eq_call
    refine call_eq rfl Tryz.func133 rfl (by kernel_rfl) ?_
    unfold Tryz.f133
    simp (disch := ((try simp only [List.length_cons, List.length_append, List.length_nil, List.length_map]); omega)) only [↓GO, ↓DRW, GA, ren, renB, footX, refs, cellsV, cst, cstAt, nilC, idxAddr, E.load, E.store, binO, isC, bin, ibin, sbin, una, isShift, okCell, packV, lenV, blt, fnV, asArg, snapV, snapS, snapP, snapC, flatV, flatT, openK, layBack, allT, allZ, mkS, srcOf0, unN, idxV, nilEq, give, tupV, mkEnv, extV, pickV, LVS, OVS, LTS, TYS, PMS, pmT, Int.reduceToNat, Nat.reduceGT, ↓reduceIte, Nat.reduceAdd, Nat.reduceMul, Nat.reduceSub, Nat.reduceEqDiff, Nat.reduceLeDiff, Nat.reduceLT, Nat.reduceBEq, Int.reduceBEq, Int.reduceBNe, Int.reduceEq, Int.reduceLT, Int.reduceLE, Int.reduceGT, Int.reduceNeg, reduceCtorEq, Int.cast_ofNat_Int, getE_zero, getE_one, getE_two, Option.isSome_none, d1, T1, L, ht, LPack.encs_len, rch3]
  · have hn0 := hnk h3
    rw [hn0] at T0 L
    apply eq_call
    refine call_eq rfl Tryz.func133 rfl (by kernel_rfl) ?_
    unfold Tryz.f133
    simp (disch := ((try simp only [List.length_cons, List.length_append, List.length_nil, List.length_map]); omega)) only [↓GO, ↓DRW, GA, ren, renB, footX, refs, cellsV, cst, cstAt, nilC, idxAddr, E.load, E.store, binO, isC, bin, ibin, sbin, una, isShift, okCell, packV, lenV, blt, fnV, asArg, snapV, snapS, snapP, snapC, flatV, flatT, openK, layBack, allT, allZ, mkS, srcOf0, unN, idxV, nilEq, give, tupV, mkEnv, extV, pickV, LVS, OVS, LTS, TYS, PMS, pmT, Int.reduceToNat, Nat.reduceGT, ↓reduceIte, Nat.reduceAdd, Nat.reduceMul, Nat.reduceSub, Nat.reduceEqDiff, Nat.reduceLeDiff, Nat.reduceLT, Nat.reduceBEq, Int.reduceBEq, Int.reduceBNe, Int.reduceEq, Int.reduceLT, Int.reduceLE, Int.reduceGT, Int.reduceNeg, reduceCtorEq, Int.cast_ofNat_Int, getE_zero, getE_one, getE_two, Option.isSome_none, d1, T0, hn0, L, ht, LPack.encs_len, rch3]
def notSha (s : LSum) : Bool := !(s.alg == sha256S)
theorem c_pc2 (s : LSum) : callPure (EV Tryz.prog pol) 131 [.agg (s.enc.map .t)] = some (.t (.bool (notSha s))) := by
  simp only [LSum.enc, List.map_cons, List.map_nil, notSha, sha256S]
  apply eq_call
  refine call_eq rfl Tryz.func131 rfl (by kernel_rfl) ?_
  unfold Tryz.f131
  simp (disch := ((try simp only [List.length_cons, List.length_append, List.length_nil, List.length_map]); omega)) only [↓GO, ↓DRW, GA, ren, renB, footX, refs, cellsV, cst, cstAt, nilC, idxAddr, E.load, E.store, binO, isC, bin, ibin, sbin, una, isShift, okCell, packV, lenV, blt, fnV, asArg, snapV, snapS, snapP, snapC, flatV, flatT, openK, layBack, allT, allZ, mkS, srcOf0, unN, idxV, nilEq, give, tupV, mkEnv, extV, pickV, LVS, OVS, LTS, TYS, PMS, pmT, Int.reduceToNat, Nat.reduceGT, ↓reduceIte, Nat.reduceAdd, Nat.reduceMul, Nat.reduceSub, Nat.reduceEqDiff, Nat.reduceLeDiff, Nat.reduceLT, Nat.reduceBEq, Int.reduceBEq, Int.reduceBNe, Int.reduceEq, Int.reduceLT, Int.reduceLE, Int.reduceGT, Int.reduceNeg, reduceCtorEq, Int.cast_ofNat_Int, getE_zero, getE_one, getE_two, Option.isSome_none, bne]
/-- a pack that cannot stand there -/
def cant (p : LPack) : Bool := p.dev || (p.name == rootK || p.sums.any notSha)
theorem c_pc1 (p : LPack) (hb : p.bulk ≤ 1048576) : callPure (EV Tryz.prog pol) 130 [.agg (p.enc.map .t)] = some (.t (.bool (cant p))) := by
  have h := c_conF_Sum 131 [] notSha p.sums (by have := pack_needs hb; omega) (fun x _ => c_pc2 x)
  unfold cant rootK
  simp only [LPack.enc, List.map_cons, List.map_nil]
  cases h1 : p.dev <;> cases h2 : (p.name == [114, 111, 111, 116]) <;> cases h3 : p.sums.any notSha <;> rw [h3] at h
  all_goals
    apply eq_call
    refine call_eq rfl Tryz.func130 rfl (by kernel_rfl) ?_
    unfold Tryz.f130
    simp (disch := ((try simp only [List.length_cons, List.length_append, List.length_nil, List.length_map]); omega)) only [↓GO, ↓DRW, GA, ren, renB, footX, refs, cellsV, cst, cstAt, nilC, idxAddr, E.load, E.store, binO, isC, bin, ibin, sbin, una, isShift, okCell, packV, lenV, blt, fnV, asArg, snapV, snapS, snapP, snapC, flatV, flatT, openK, layBack, allT, allZ, mkS, srcOf0, unN, idxV, nilEq, give, tupV, mkEnv, extV, pickV, LVS, OVS, LTS, TYS, PMS, pmT, Int.reduceToNat, Nat.reduceGT, ↓reduceIte, Nat.reduceAdd, Nat.reduceMul, Nat.reduceSub, Nat.reduceEqDiff, Nat.reduceLeDiff, Nat.reduceLT, Nat.reduceBEq, Int.reduceBEq, Int.reduceBNe, Int.reduceEq, Int.reduceLT, Int.reduceLE, Int.reduceGT, Int.reduceNeg, reduceCtorEq, Int.cast_ofNat_Int, getE_zero, getE_one, getE_two, Option.isSome_none, h, h2]
def putCargo (g : LGraph) : Str × Bool := cond (!(graphOk g) || g.packs.any cant) ([], false) (cond (decide (((putTs (toTables g)).length : Int) > 20000)) ([], false) (putTs (toTables g), true))
theorem ok_40 {g : LGraph} (h : graphOk g = true) : g.packs.length ≤ 40 := by
  unfold graphOk at h
  simp only [Bool.and_eq_true, decide_eq_true_eq] at h
  omega
theorem c_pcI (g : LGraph) (hB : GB g) : callPure (EV Tryz.prog pol) 52 [.agg (g.enc.map .t)] = some (.tup [.t (.str (putCargo g).1), .t (.bool (putCargo g).2)]) := by
  have h1 := c_gokI g hB
  obtain ⟨b1, b2, b3⟩ := hB.len
  have h2 := c_conF_Pack 130 [] cant g.packs (by omega) (fun x hx => c_pc1 x (b3 x hx))
  have h3 := c_ttI g hB
  have h4 : graphOk g = true → _ := fun h => c_ptI (toTables g) (toTables_bulk g hB (ok_40 h))
  clear b3
  unfold putCargo
  generalize putTs (toTables g) = tx at *
  generalize LTable.encs (toTables g) = te at *
  simp only [LGraph.enc, List.map_cons, List.map_nil] at h1 h3 ⊢
  cases hk : graphOk g <;> rw [hk] at h1
  · apply eq_call
    refine call_eq rfl Tryz.func52 rfl (by kernel_rfl) ?_
    unfold Tryz.f52
    simp (disch := ((try simp only [List.length_cons, List.length_append, List.length_nil, List.length_map]); omega)) only [↓GO, ↓DRW, GA, ren, renB, footX, refs, cellsV, cst, cstAt, nilC, idxAddr, E.load, E.store, binO, isC, bin, ibin, sbin, una, isShift, okCell, packV, lenV, blt, fnV, asArg, snapV, snapS, snapP, snapC, flatV, flatT, openK, layBack, allT, allZ, mkS, srcOf0, unN, idxV, nilEq, give, tupV, mkEnv, extV, pickV, LVS, OVS, LTS, TYS, PMS, pmT, Int.reduceToNat, Nat.reduceGT, ↓reduceIte, Nat.reduceAdd, Nat.reduceMul, Nat.reduceSub, Nat.reduceEqDiff, Nat.reduceLeDiff, Nat.reduceLT, Nat.reduceBEq, Int.reduceBEq, Int.reduceBNe, Int.reduceEq, Int.reduceLT, Int.reduceLE, Int.reduceGT, Int.reduceNeg, reduceCtorEq, Int.cast_ofNat_Int, getE_zero, getE_one, getE_two, Option.isSome_none, h1]
  · have h5 := h4 hk
    cases hc : g.packs.any cant <;> rw [hc] at h2
    · cases hx : decide ((tx.length : Int) > 20000)
      all_goals
        apply eq_call
        refine call_eq rfl Tryz.func52 rfl (by kernel_rfl) ?_
        unfold Tryz.f52
        simp (disch := ((try simp only [List.length_cons, List.length_append, List.length_nil, List.length_map]); omega)) only [↓GO, ↓DRW, GA, ren, renB, footX, refs, cellsV, cst, cstAt, nilC, idxAddr, E.load, E.store, binO, isC, bin, ibin, sbin, una, isShift, okCell, packV, lenV, blt, fnV, asArg, snapV, snapS, snapP, snapC, flatV, flatT, openK, layBack, allT, allZ, mkS, srcOf0, unN, idxV, nilEq, give, tupV, mkEnv, extV, pickV, LVS, OVS, LTS, TYS, PMS, pmT, Int.reduceToNat, Nat.reduceGT, ↓reduceIte, Nat.reduceAdd, Nat.reduceMul, Nat.reduceSub, Nat.reduceEqDiff, Nat.reduceLeDiff, Nat.reduceLT, Nat.reduceBEq, Int.reduceBEq, Int.reduceBNe, Int.reduceEq, Int.reduceLT, Int.reduceLE, Int.reduceGT, Int.reduceNeg, reduceCtorEq, Int.cast_ofNat_Int, getE_zero, getE_one, getE_two, Option.isSome_none, h1, h2, h3, h5, hx]
    · apply eq_call
      refine call_eq rfl Tryz.func52 rfl (by kernel_rfl) ?_
      unfold Tryz.f52
      simp (disch := ((try simp only [List.length_cons, List.length_append, List.length_nil, List.length_map]); omega)) only [↓GO, ↓DRW, GA, ren, renB, footX, refs, cellsV, cst, cstAt, nilC, idxAddr, E.load, E.store, binO, isC, bin, ibin, sbin, una, isShift, okCell, packV, lenV, blt, fnV, asArg, snapV, snapS, snapP, snapC, flatV, flatT, openK, layBack, allT, allZ, mkS, srcOf0, unN, idxV, nilEq, give, tupV, mkEnv, extV, pickV, LVS, OVS, LTS, TYS, PMS, pmT, Int.reduceToNat, Nat.reduceGT, ↓reduceIte, Nat.reduceAdd, Nat.reduceMul, Nat.reduceSub, Nat.reduceEqDiff, Nat.reduceLeDiff, Nat.reduceLT, Nat.reduceBEq, Int.reduceBEq, Int.reduceBNe, Int.reduceEq, Int.reduceLT, Int.reduceLE, Int.reduceGT, Int.reduceNeg, reduceCtorEq, Int.cast_ofNat_Int, getE_zero, getE_one, getE_two, Option.isSome_none, h1, h2]
theorem c_cfI (g : LGraph) (hB : GB g) : callPure (EV Tryz.prog pol) 54 [.agg (g.enc.map .t)] = some (.t (.bool (putCargo g).2)) := by
  have h := c_pcI g hB
  simp only [LGraph.enc, List.map_cons, List.map_nil] at h ⊢
  apply eq_call
  refine call_eq rfl Tryz.func54 rfl (by kernel_rfl) ?_
  unfold Tryz.f54
  simp (disch := ((try simp only [List.length_cons, List.length_append, List.length_nil, List.length_map]); omega)) only [↓GO, ↓DRW, GA, ren, renB, footX, refs, cellsV, cst, cstAt, nilC, idxAddr, E.load, E.store, binO, isC, bin, ibin, sbin, una, isShift, okCell, packV, lenV, blt, fnV, asArg, snapV, snapS, snapP, snapC, flatV, flatT, openK, layBack, allT, allZ, mkS, srcOf0, unN, idxV, nilEq, give, tupV, mkEnv, extV, pickV, LVS, OVS, LTS, TYS, PMS, pmT, Int.reduceToNat, Nat.reduceGT, ↓reduceIte, Nat.reduceAdd, Nat.reduceMul, Nat.reduceSub, Nat.reduceEqDiff, Nat.reduceLeDiff, Nat.reduceLT, Nat.reduceBEq, Int.reduceBEq, Int.reduceBNe, Int.reduceEq, Int.reduceLT, Int.reduceLE, Int.reduceGT, Int.reduceNeg, reduceCtorEq, Int.cast_ofNat_Int, getE_zero, getE_one, getE_two, Option.isSome_none, h]
end Go.Proofs.YtkpmachalipmpaaGreatDoor
/- The tables of a graph, by the reference; Cargo's text by both. Conditions: those of each lemma. -/
namespace Go.Proofs.YtkpmachalipmpaaGreatDoor
open E
set_option linter.unusedSimpArgs false
set_option linter.unusedVariables false
set_option maxRecDepth 100000
theorem fields_tbl (ps : List LPack) (nm ver src sum : Str) (ks : List Str) : fieldsOk [] (tblP ps nm ver src sum ks).fields = true ∧ (tblP ps nm ver src sum ks).fields.length ≤ 5 := by
  have k1 : keyOk nameK = true := by decide
  have k2 : keyOk versionK = true := by decide
  have k3 : keyOk sourceK = true := by decide
  have k4 : keyOk checksumK = true := by decide
  have k5 : keyOk depsK = true := by decide
  have d1 : (nameK == versionK) = false := by decide
  have d2 : (nameK == sourceK) = false := by decide
  have d3 : (nameK == checksumK) = false := by decide
  have d4 : (nameK == depsK) = false := by decide
  have d5 : (versionK == sourceK) = false := by decide
  have d6 : (versionK == checksumK) = false := by decide
  have d7 : (versionK == depsK) = false := by decide
  have d8 : (sourceK == checksumK) = false := by decide
  have d9 : (sourceK == depsK) = false := by decide
  have d10 : (checksumK == depsK) = false := by decide
  unfold tblP srcF sumF depF
  cases (src == []) <;> cases (sum == []) <;> cases (ks == []) <;>
    simp [fieldsOk, fieldOk, fldS, fldL, k1, k2, k3, k4, k5, d1, d2, d3, d4, d5, d6, d7, d8, d9, d10]
theorem tblsOk_all : ∀ (l : List LTable) (n : Nat), 1 ≤ n → (∀ t ∈ l, tblOk false t = true) → tblsOk n l = true
  | [], _, _, _ => rfl
  | t :: l, n, h, ha => by
    have e : ((n : Int) == 0) = false := by rw [beq_eq_false_iff_ne]; omega
    rw [tblsOk, e, ha t (by simp), tblsOk_all l (n + 1) (by omega) fun t ht => ha t (by simp [ht])]; rfl
theorem tblP_ok (ps : List LPack) (nm ver src sum : Str) (ks : List Str) : tblOk false (tblP ps nm ver src sum ks) = true := by
  obtain ⟨h1, h2⟩ := fields_tbl ps nm ver src sum ks
  unfold tblOk
  rw [h1, show keyOk (tblP ps nm ver src sum ks).name = true from (by decide : keyOk packageK = true)]
  have : decide (((tblP ps nm ver src sum ks).fields.length : Int) > 20) = false := decide_eq_false (by omega)
  rw [this]; rfl
theorem to_ok (g : LGraph) (h40 : g.packs.length ≤ 40) : tablesOk (toTables g) = true := by
  unfold tablesOk
  have h1 : decide (((toTables g).length : Int) ≤ 60) = true := by
    unfold toTables headTs
    simp only [decide_eq_true_eq, List.length_append, List.length_cons, List.length_nil, List.length_map]; omega
  rw [h1, Bool.and_true]
  unfold toTables headTs
  show tblsOk 0 (_ :: (_ :: g.packs.map (tblOf g.packs))) = true
  rw [tblsOk, tblsOk_all _ 1 (by omega)]
  · rw [Bool.and_true]; decide
  · intro t ht
    simp only [List.mem_cons, List.mem_map] at ht
    rcases ht with rfl | ⟨p, _, rfl⟩
    · exact tblP_ok _ _ _ _ _ _
    · exact tblP_ok _ _ _ _ _ _
theorem text_ne (g : LGraph) (h40 : g.packs.length ≤ 40) : (putTs (toTables g) == []) = false := by
  unfold putTs
  rw [to_ok g h40]
  simp only [cond_true]
  unfold toTables headTs
  simp only [List.cons_append, List.map_cons, Lib.join_cons]
  unfold putT
  have : (headT ⟨[], [fldS versionK [52]]⟩ ++ [fldS versionK [52]].flatMap putF) ≠ [] := by decide
  cases hh : (headT ⟨[], [fldS versionK [52]]⟩ ++ [fldS versionK [52]].flatMap putF) with
  | nil => exact absurd hh this
  | cons a b => rfl
theorem l_ckR (p : LPack) (hb : p.bulk ≤ 1048576) : ∀ (rest pre : List LSum), p.sums = pre ++ rest →
    EV Tryz.prog pol (.loop 281 26 0 [.ptr 0 0 0, .t (.int .i64 (pre.length : Int))] [.vs 6 [p.enc.map .t]]) = some (cond (rest.any fun s => s.alg == sha256S) (.loop .ret [.t (.str (hexS (sumOf sha256S rest)))] []) (.loop (.exit 0) [.bad] []))
  | [], pre, hs => by
    have c : decide ((pre.length : Int) < (p.sums.length : Int)) = false := by simp [hs]
    simp only [LPack.enc, List.map_cons, List.map_nil, List.any_nil, cond_false]
    refine loop_eq Tryz.func281 rfl rfl ?_
    simp (disch := ((try simp only [List.length_cons, List.length_append, List.length_nil, List.length_map]); omega)) only [↓GO, ↓DRW, GA, ren, renB, footX, refs, cellsV, cst, cstAt, nilC, idxAddr, E.load, E.store, binO, isC, bin, ibin, sbin, una, isShift, okCell, packV, lenV, blt, fnV, asArg, snapV, snapS, snapP, snapC, flatV, flatT, openK, layBack, allT, allZ, mkS, srcOf0, unN, idxV, nilEq, give, tupV, mkEnv, extV, pickV, LVS, OVS, LTS, TYS, PMS, pmT, Int.reduceToNat, Nat.reduceGT, ↓reduceIte, Nat.reduceAdd, Nat.reduceMul, Nat.reduceSub, Nat.reduceEqDiff, Nat.reduceLeDiff, Nat.reduceLT, Nat.reduceBEq, Int.reduceBEq, Int.reduceBNe, Int.reduceEq, Int.reduceLT, Int.reduceLE, Int.reduceGT, Int.reduceNeg, reduceCtorEq, Int.cast_ofNat_Int, getE_zero, getE_one, getE_two, Option.isSome_none, c, LSum.encs_len, rch3]
  | s :: rest, pre, hs => by
    have c : decide ((pre.length : Int) < (p.sums.length : Int)) = true := by simp [hs]; omega
    have hget : (LSum.encs p.sums)[pre.length]? = some [.str s.alg, .str s.bytes] := by rw [hs]; exact map_zip LSum.enc pre s rest
    have hlen : pre.length + rest.length + 1 ≤ p.sums.length := by rw [hs]; simp; omega
    have hsb : s.bytes.length ≤ 1048576 := by
      have h1 := LSum.bulks_mem (cs := p.sums) (c := s) (by rw [hs]; simp)
      have h2 := pack_needs hb
      unfold LSum.bulk at h1; omega
    have hpn := pack_needs hb
    have hx := c_hexR s.bytes (by omega)
    have IH := l_ckR p hb rest (pre ++ [s]) (by rw [hs]; simp)
    rw [show ((pre ++ [s]).length : Int) = (pre.length : Int) + 1 by simp] at IH
    clear hs
    rw [List.any_cons, sumOf]
    simp only [LPack.enc, List.map_cons, List.map_nil, sha256S] at IH ⊢
    cases h : (s.alg == [115, 104, 97, 50, 53, 54])
    all_goals
      refine loop_eq Tryz.func281 rfl rfl ?_
      simp (disch := ((try simp only [List.length_cons, List.length_append, List.length_nil, List.length_map]); omega)) only [↓GO, ↓DRW, GA, ren, renB, footX, refs, cellsV, cst, cstAt, nilC, idxAddr, E.load, E.store, binO, isC, bin, ibin, sbin, una, isShift, okCell, packV, lenV, blt, fnV, asArg, snapV, snapS, snapP, snapC, flatV, flatT, openK, layBack, allT, allZ, mkS, srcOf0, unN, idxV, nilEq, give, tupV, mkEnv, extV, pickV, LVS, OVS, LTS, TYS, PMS, pmT, Int.reduceToNat, Nat.reduceGT, ↓reduceIte, Nat.reduceAdd, Nat.reduceMul, Nat.reduceSub, Nat.reduceEqDiff, Nat.reduceLeDiff, Nat.reduceLT, Nat.reduceBEq, Int.reduceBEq, Int.reduceBNe, Int.reduceEq, Int.reduceLT, Int.reduceLE, Int.reduceGT, Int.reduceNeg, reduceCtorEq, Int.cast_ofNat_Int, getE_zero, getE_one, getE_two, Option.isSome_none, c, LSum.encs_len, hget, hx, h, wrap_in, IH, rch3]
theorem c_ckR (p : LPack) (hb : p.bulk ≤ 1048576) : callPure (EV Tryz.prog pol) 281 [.agg (p.enc.map .t)] = some (.t (.str (hexS (sumOf sha256S p.sums)))) := by
  have L := l_ckR p hb p.sums [] rfl
  simp only [List.length_nil, Int.natCast_zero] at L
  simp only [LPack.enc, List.map_cons, List.map_nil] at L ⊢
  cases h : (p.sums.any fun s => s.alg == sha256S) <;> rw [h] at L <;> simp only [cond_true, cond_false] at L
  · rw [sumOf_no sha256S p.sums h]
    apply eq_call
    refine call_eq rfl Tryz.func281 rfl (by kernel_rfl) ?_
    unfold Tryz.f281
    simp (disch := ((try simp only [List.length_cons, List.length_append, List.length_nil, List.length_map]); omega)) only [↓GO, ↓DRW, GA, ren, renB, footX, refs, cellsV, cst, cstAt, nilC, idxAddr, E.load, E.store, binO, isC, bin, ibin, sbin, una, isShift, okCell, packV, lenV, blt, fnV, asArg, snapV, snapS, snapP, snapC, flatV, flatT, openK, layBack, allT, allZ, mkS, srcOf0, unN, idxV, nilEq, give, tupV, mkEnv, extV, pickV, LVS, OVS, LTS, TYS, PMS, pmT, Int.reduceToNat, Nat.reduceGT, ↓reduceIte, Nat.reduceAdd, Nat.reduceMul, Nat.reduceSub, Nat.reduceEqDiff, Nat.reduceLeDiff, Nat.reduceLT, Nat.reduceBEq, Int.reduceBEq, Int.reduceBNe, Int.reduceEq, Int.reduceLT, Int.reduceLE, Int.reduceGT, Int.reduceNeg, reduceCtorEq, Int.cast_ofNat_Int, getE_zero, getE_one, getE_two, Option.isSome_none, L, rch3, hexS, List.flatMap_nil]
  · apply eq_call
    refine call_eq rfl Tryz.func281 rfl (by kernel_rfl) ?_
    unfold Tryz.f281
    simp (disch := ((try simp only [List.length_cons, List.length_append, List.length_nil, List.length_map]); omega)) only [↓GO, ↓DRW, GA, ren, renB, footX, refs, cellsV, cst, cstAt, nilC, idxAddr, E.load, E.store, binO, isC, bin, ibin, sbin, una, isShift, okCell, packV, lenV, blt, fnV, asArg, snapV, snapS, snapP, snapC, flatV, flatT, openK, layBack, allT, allZ, mkS, srcOf0, unN, idxV, nilEq, give, tupV, mkEnv, extV, pickV, LVS, OVS, LTS, TYS, PMS, pmT, Int.reduceToNat, Nat.reduceGT, ↓reduceIte, Nat.reduceAdd, Nat.reduceMul, Nat.reduceSub, Nat.reduceEqDiff, Nat.reduceLeDiff, Nat.reduceLT, Nat.reduceBEq, Int.reduceBEq, Int.reduceBNe, Int.reduceEq, Int.reduceLT, Int.reduceLE, Int.reduceGT, Int.reduceNeg, reduceCtorEq, Int.cast_ofNat_Int, getE_zero, getE_one, getE_two, Option.isSome_none, L, rch3]
theorem c_copyF (x : LField) (hl : x.list.length ≤ 4194304) : callPure (EV Tryz.prog pol) 330 [.agg (x.enc.map .t)] = some (.agg (x.enc.map .t)) := by
  obtain ⟨key, text, list, isList⟩ := x
  simp only [LField.enc, List.map_cons, List.map_nil] at hl ⊢
  have hsl := strs_len list
  have ht : List.take list.length (strs list) = strs list := List.take_of_length_le (by omega)
  apply eq_call
  refine call_eq rfl Tryz.func330 rfl (by kernel_rfl) ?_
  unfold Tryz.f330
  simp (disch := ((try simp only [List.length_cons, List.length_append, List.length_nil, List.length_map]); omega)) only [↓GO, ↓DRW, GA, ren, renB, footX, refs, cellsV, cst, cstAt, nilC, idxAddr, E.load, E.store, binO, isC, bin, ibin, sbin, una, isShift, okCell, packV, lenV, blt, fnV, asArg, snapV, snapS, snapP, snapC, flatV, flatT, openK, layBack, allT, allZ, mkS, srcOf0, unN, idxV, nilEq, give, tupV, mkEnv, extV, pickV, LVS, OVS, LTS, TYS, PMS, pmT, Int.reduceToNat, Nat.reduceGT, ↓reduceIte, Nat.reduceAdd, Nat.reduceMul, Nat.reduceSub, Nat.reduceEqDiff, Nat.reduceLeDiff, Nat.reduceLT, Nat.reduceBEq, Int.reduceBEq, Int.reduceBNe, Int.reduceEq, Int.reduceLT, Int.reduceLE, Int.reduceGT, Int.reduceNeg, reduceCtorEq, Int.cast_ofNat_Int, getE_zero, getE_one, getE_two, Option.isSome_none, strs_len, ht, le_T]
theorem l_setF (nm : Str) (fs : List LField) (f : LField) (hl : fs.length ≤ 1048576) (hx : ∀ x ∈ fs, x.list.length ≤ 4194304) (hk : ∀ x ∈ fs, (x.key == f.key) = false) : ∀ (rest pre : List LField) (cap : Option Nat), fs = pre ++ rest → pre ≠ [] →
    ∃ cap', EV Tryz.prog pol (.loop 280 122 0 [.ptr 0 0 0, .ptr 1 0 0, .ptr 2 0 0, .ptr 3 0 0, .t (.bool false), .t (.int .i64 (pre.length : Int))] [.vs 2 [[.t (.str nm), .t (.list 4 (LField.encs fs))]], .vs 4 [f.enc.map .t], .vs 2 [[.t (.str []), .nil 4]], .vs 2 [[.t (.str nm), .sl 4 0 pre.length cap]], .ts 4 (LField.encs pre)])
      = some (.loop (.exit 0) [.ptr 0 0 0, .ptr 1 0 0, .ptr 2 0 0, .t (.bool false)] [.vs 4 [f.enc.map .t], .vs 2 [[.t (.str []), .nil 4]], .vs 2 [[.t (.str nm), .sl 3 0 fs.length cap']], .ts 4 (LField.encs fs)])
  | [], pre, cap, hs, hp => by
    have c : decide ((pre.length : Int) < (fs.length : Int)) = false := by simp [hs]
    have e : fs = pre := by simpa using hs
    refine ⟨cap, ?_⟩
    simp only [LField.enc, List.map_cons, List.map_nil]
    refine loop_eq Tryz.func280 rfl rfl ?_
    simp (disch := ((try simp only [List.length_cons, List.length_append, List.length_nil, List.length_map]); omega)) only [↓GO, ↓DRW, GA, ren, renB, footX, refs, cellsV, cst, cstAt, nilC, idxAddr, E.load, E.store, binO, isC, bin, ibin, sbin, una, isShift, okCell, packV, lenV, blt, fnV, asArg, snapV, snapS, snapP, snapC, flatV, flatT, openK, layBack, allT, allZ, mkS, srcOf0, unN, idxV, nilEq, give, tupV, mkEnv, extV, pickV, LVS, OVS, LTS, TYS, PMS, pmT, Int.reduceToNat, Nat.reduceGT, ↓reduceIte, Nat.reduceAdd, Nat.reduceMul, Nat.reduceSub, Nat.reduceEqDiff, Nat.reduceLeDiff, Nat.reduceLT, Nat.reduceBEq, Int.reduceBEq, Int.reduceBNe, Int.reduceEq, Int.reduceLT, Int.reduceLE, Int.reduceGT, Int.reduceNeg, reduceCtorEq, Int.cast_ofNat_Int, getE_zero, getE_one, getE_two, Option.isSome_none, c, LField.encs_len, rch3]
    rw [e]
  | x :: rest, pre, cap, hs, hp => by
    have c : decide ((pre.length : Int) < (fs.length : Int)) = true := by simp [hs]; omega
    have hget : (LField.encs fs)[pre.length]? = some x.enc := by rw [hs]; exact map_zip LField.enc pre x rest
    have hlen : pre.length + rest.length + 1 ≤ fs.length := by rw [hs]; simp; omega
    have hkx := hk x (by rw [hs]; simp)
    have hc := c_copyF x (hx x (by rw [hs]; simp))
    obtain ⟨cap', IH⟩ := l_setF nm fs f hl hx hk rest (pre ++ [x]) none (by rw [hs]; simp) (by simp)
    rw [show ((pre ++ [x]).length : Int) = (pre.length : Int) + 1 by simp, show (pre ++ [x]).length = pre.length + 1 by simp, show LField.encs (pre ++ [x]) = LField.encs pre ++ [x.enc] by simp [LField.encs]] at IH
    have hpl := LField.encs_len pre
    clear hs hx hk
    refine ⟨cap', ?_⟩
    simp only [LField.enc, List.map_cons, List.map_nil] at hget hc IH ⊢
    refine loop_eq Tryz.func280 rfl rfl ?_
    simp (disch := ((try simp only [List.length_cons, List.length_append, List.length_nil, List.length_map]); omega)) only [↓GO, ↓DRW, GA, ren, renB, footX, refs, cellsV, cst, cstAt, nilC, idxAddr, E.load, E.store, binO, isC, bin, ibin, sbin, una, isShift, okCell, packV, lenV, blt, fnV, asArg, snapV, snapS, snapP, snapC, flatV, flatT, openK, layBack, allT, allZ, mkS, srcOf0, unN, idxV, nilEq, give, tupV, mkEnv, extV, pickV, LVS, OVS, LTS, TYS, PMS, pmT, Int.reduceToNat, Nat.reduceGT, ↓reduceIte, Nat.reduceAdd, Nat.reduceMul, Nat.reduceSub, Nat.reduceEqDiff, Nat.reduceLeDiff, Nat.reduceLT, Nat.reduceBEq, Int.reduceBEq, Int.reduceBNe, Int.reduceEq, Int.reduceLT, Int.reduceLE, Int.reduceGT, Int.reduceNeg, reduceCtorEq, Int.cast_ofNat_Int, getE_zero, getE_one, getE_two, Option.isSome_none, c, LField.encs_len, hget, hkx, hc, hpl, wrap_in, le_T, rch3]
    refine dyn_pos (by kernel_rfl) ?_
    simp (disch := ((try simp only [List.length_cons, List.length_append, List.length_nil, List.length_map]); omega)) only [↓GO, ↓DRW, GA, ren, renB, footX, refs, cellsV, cst, cstAt, nilC, idxAddr, E.load, E.store, binO, isC, bin, ibin, sbin, una, isShift, okCell, packV, lenV, blt, fnV, asArg, snapV, snapS, snapP, snapC, flatV, flatT, openK, layBack, allT, allZ, mkS, srcOf0, unN, idxV, nilEq, give, tupV, mkEnv, extV, pickV, LVS, OVS, LTS, TYS, PMS, pmT, Int.reduceToNat, Nat.reduceGT, ↓reduceIte, Nat.reduceAdd, Nat.reduceMul, Nat.reduceSub, Nat.reduceEqDiff, Nat.reduceLeDiff, Nat.reduceLT, Nat.reduceBEq, Int.reduceBEq, Int.reduceBNe, Int.reduceEq, Int.reduceLT, Int.reduceLE, Int.reduceGT, Int.reduceNeg, reduceCtorEq, Int.cast_ofNat_Int, getE_zero, getE_one, getE_two, Option.isSome_none, c, LField.encs_len, hget, hkx, hc, hpl, wrap_in, le_T, rch3, IH]
theorem c_setF (nm : Str) (x : LField) (fs : List LField) (f : LField) (hl : (x :: fs).length ≤ 1048576) (hx : ∀ y ∈ f :: x :: fs, y.list.length ≤ 4194304) (hk : ∀ y ∈ x :: fs, (y.key == f.key) = false) :
    callPure (EV Tryz.prog pol) 280 [.agg [.t (.str nm), .t (.list 4 (LField.encs (x :: fs)))], .agg (f.enc.map .t)] = some (.agg [.t (.str nm), .t (.list 4 (LField.encs (x :: fs ++ [f])))]) := by
  obtain ⟨cap, L⟩ := l_setF nm (x :: fs) f hl (fun y hy => hx y (by simp at hy ⊢; exact .inr hy)) hk fs [x] none rfl (by simp)
  have hc := c_copyF x (hx x (by simp))
  have hcf := c_copyF f (hx f (by simp))
  have hkx := hk x (by simp)
  have c : decide ((0 : Int) < ((x :: fs).length : Int)) = true := by simp only [decide_eq_true_eq, List.length_cons]; omega
  have hget : (LField.encs (x :: fs))[0]? = some x.enc := rfl
  have hml := LField.encs_len (x :: fs)
  have ht : List.take ((x :: fs).length + 1) (LField.encs (x :: fs ++ [f])) = LField.encs (x :: fs ++ [f]) := List.take_of_length_le (by rw [LField.encs_len]; simp)
  have hap : LField.encs (x :: fs ++ [f]) = LField.encs (x :: fs) ++ [f.enc] := by simp [LField.encs]
  rw [show LField.encs [x] = [x.enc] from rfl] at L
  simp only [List.length_cons, List.length_nil, Nat.zero_add, Int.natCast_one] at L
  rw [show fs.length + 1 = (x :: fs).length from rfl] at L
  rw [hap] at ht ⊢
  clear hx hk hap
  generalize x :: fs = all at *
  have L0 : ∃ cap', EV Tryz.prog pol (.loop 280 122 0 [.ptr 0 0 0, .ptr 1 0 0, .ptr 2 0 0, .ptr 3 0 0, .t (.bool false), .t (.int .i64 0)] [.vs 2 [[.t (.str nm), .t (.list 4 (LField.encs all))]], .vs 4 [f.enc.map .t], .vs 2 [[.t (.str []), .nil 4]], .vs 2 [[.t (.str nm), .nil 4]]])
      = some (.loop (.exit 0) [.ptr 0 0 0, .ptr 1 0 0, .ptr 2 0 0, .t (.bool false)] [.vs 4 [f.enc.map .t], .vs 2 [[.t (.str []), .nil 4]], .vs 2 [[.t (.str nm), .sl 3 0 all.length cap']], .ts 4 (LField.encs all)]) := by
    refine ⟨cap, ?_⟩
    simp only [LField.enc, List.map_cons, List.map_nil] at hget hc L ⊢
    refine loop_eq Tryz.func280 rfl rfl ?_
    simp (disch := ((try simp only [List.length_cons, List.length_append, List.length_nil, List.length_map]); omega)) only [↓GO, ↓DRW, GA, ren, renB, footX, refs, cellsV, cst, cstAt, nilC, idxAddr, E.load, E.store, binO, isC, bin, ibin, sbin, una, isShift, okCell, packV, lenV, blt, fnV, asArg, snapV, snapS, snapP, snapC, flatV, flatT, openK, layBack, allT, allZ, mkS, srcOf0, unN, idxV, nilEq, give, tupV, mkEnv, extV, pickV, LVS, OVS, LTS, TYS, PMS, pmT, Int.reduceToNat, Nat.reduceGT, ↓reduceIte, Nat.reduceAdd, Nat.reduceMul, Nat.reduceSub, Nat.reduceEqDiff, Nat.reduceLeDiff, Nat.reduceLT, Nat.reduceBEq, Int.reduceBEq, Int.reduceBNe, Int.reduceEq, Int.reduceLT, Int.reduceLE, Int.reduceGT, Int.reduceNeg, reduceCtorEq, Int.cast_ofNat_Int, getE_zero, getE_one, getE_two, Option.isSome_none, c, LField.encs_len, hget, hkx, hc, wrap_in, le_T, rch3]
    refine dyn_pos (by kernel_rfl) ?_
    simp (disch := ((try simp only [List.length_cons, List.length_append, List.length_nil, List.length_map]); omega)) only [↓GO, ↓DRW, GA, ren, renB, footX, refs, cellsV, cst, cstAt, nilC, idxAddr, E.load, E.store, binO, isC, bin, ibin, sbin, una, isShift, okCell, packV, lenV, blt, fnV, asArg, snapV, snapS, snapP, snapC, flatV, flatT, openK, layBack, allT, allZ, mkS, srcOf0, unN, idxV, nilEq, give, tupV, mkEnv, extV, pickV, LVS, OVS, LTS, TYS, PMS, pmT, Int.reduceToNat, Nat.reduceGT, ↓reduceIte, Nat.reduceAdd, Nat.reduceMul, Nat.reduceSub, Nat.reduceEqDiff, Nat.reduceLeDiff, Nat.reduceLT, Nat.reduceBEq, Int.reduceBEq, Int.reduceBNe, Int.reduceEq, Int.reduceLT, Int.reduceLE, Int.reduceGT, Int.reduceNeg, reduceCtorEq, Int.cast_ofNat_Int, getE_zero, getE_one, getE_two, Option.isSome_none, c, LField.encs_len, hget, hkx, hc, wrap_in, le_T, rch3, L, Int.zero_add]
  obtain ⟨cap', L0⟩ := L0
  simp only [LField.enc, List.map_cons, List.map_nil] at hcf L0 ht ⊢
  apply eq_call
  refine call_eq rfl Tryz.func280 rfl (by kernel_rfl) ?_
  unfold Tryz.f280
  simp (disch := ((try simp only [List.length_cons, List.length_append, List.length_nil, List.length_map]); omega)) only [↓GO, ↓DRW, GA, ren, renB, footX, refs, cellsV, cst, cstAt, nilC, idxAddr, E.load, E.store, binO, isC, bin, ibin, sbin, una, isShift, okCell, packV, lenV, blt, fnV, asArg, snapV, snapS, snapP, snapC, flatV, flatT, openK, layBack, allT, allZ, mkS, srcOf0, unN, idxV, nilEq, give, tupV, mkEnv, extV, pickV, LVS, OVS, LTS, TYS, PMS, pmT, Int.reduceToNat, Nat.reduceGT, ↓reduceIte, Nat.reduceAdd, Nat.reduceMul, Nat.reduceSub, Nat.reduceEqDiff, Nat.reduceLeDiff, Nat.reduceLT, Nat.reduceBEq, Int.reduceBEq, Int.reduceBNe, Int.reduceEq, Int.reduceLT, Int.reduceLE, Int.reduceGT, Int.reduceNeg, reduceCtorEq, Int.cast_ofNat_Int, getE_zero, getE_one, getE_two, Option.isSome_none, L0, hcf, hml, LField.encs_len, le_T, rch3, ht]
  refine dyn_pos (by kernel_rfl) ?_
  simp (disch := ((try simp only [List.length_cons, List.length_append, List.length_nil, List.length_map]); omega)) only [↓GO, ↓DRW, GA, ren, renB, footX, refs, cellsV, cst, cstAt, nilC, idxAddr, E.load, E.store, binO, isC, bin, ibin, sbin, una, isShift, okCell, packV, lenV, blt, fnV, asArg, snapV, snapS, snapP, snapC, flatV, flatT, openK, layBack, allT, allZ, mkS, srcOf0, unN, idxV, nilEq, give, tupV, mkEnv, extV, pickV, LVS, OVS, LTS, TYS, PMS, pmT, Int.reduceToNat, Nat.reduceGT, ↓reduceIte, Nat.reduceAdd, Nat.reduceMul, Nat.reduceSub, Nat.reduceEqDiff, Nat.reduceLeDiff, Nat.reduceLT, Nat.reduceBEq, Int.reduceBEq, Int.reduceBNe, Int.reduceEq, Int.reduceLT, Int.reduceLE, Int.reduceGT, Int.reduceNeg, reduceCtorEq, Int.cast_ofNat_Int, getE_zero, getE_one, getE_two, Option.isSome_none, L0, hcf, hml, LField.encs_len, le_T, rch3, ht]
theorem l_lsR (g : LGraph) (hB : GB g) (ks : List Str) (hl : ks.length ≤ 1048576) (hb : ∀ k ∈ ks, k.length ≤ 1048576) : ∀ (rest pre : List Str) (cap : Option Nat), ks = pre ++ rest →
    ∃ cap', EV Tryz.prog pol (.loop 282 58 0 [.t (.list 1 (strs ks)), .ptr 0 0 0, .ptr 1 0 0, .ptr 2 0 0, .t (.int .i64 (pre.length : Int))] [.vs 2 [g.enc.map .t], .vs 4 [[.t (.str []), .t (.str []), .nil 1, .t (.bool false)]], .vs 4 [[.t (.str depsK), .t (.str []), .sl 3 0 pre.length cap, .t (.bool true)]], .ts 1 (strs (shorts g.packs pre))])
      = some (.loop (.exit 0) [.ptr 0 0 0, .ptr 1 0 0] [.vs 4 [[.t (.str []), .t (.str []), .nil 1, .t (.bool false)]], .vs 4 [[.t (.str depsK), .t (.str []), .sl 2 0 ks.length cap', .t (.bool true)]], .ts 1 (strs (shorts g.packs ks))])
  | [], pre, cap, hs => by
    have c : decide ((pre.length : Int) < (ks.length : Int)) = false := by simp [hs]
    have e : ks = pre := by simpa using hs
    refine ⟨cap, ?_⟩
    simp only [LGraph.enc, List.map_cons, List.map_nil]
    refine loop_eq Tryz.func282 rfl rfl ?_
    simp (disch := ((try simp only [List.length_cons, List.length_append, List.length_nil, List.length_map]); omega)) only [↓GO, ↓DRW, GA, ren, renB, footX, refs, cellsV, cst, cstAt, nilC, idxAddr, E.load, E.store, binO, isC, bin, ibin, sbin, una, isShift, okCell, packV, lenV, blt, fnV, asArg, snapV, snapS, snapP, snapC, flatV, flatT, openK, layBack, allT, allZ, mkS, srcOf0, unN, idxV, nilEq, give, tupV, mkEnv, extV, pickV, LVS, OVS, LTS, TYS, PMS, pmT, Int.reduceToNat, Nat.reduceGT, ↓reduceIte, Nat.reduceAdd, Nat.reduceMul, Nat.reduceSub, Nat.reduceEqDiff, Nat.reduceLeDiff, Nat.reduceLT, Nat.reduceBEq, Int.reduceBEq, Int.reduceBNe, Int.reduceEq, Int.reduceLT, Int.reduceLE, Int.reduceGT, Int.reduceNeg, reduceCtorEq, Int.cast_ofNat_Int, getE_zero, getE_one, getE_two, Option.isSome_none, c, strs_len, rch3]
    rw [e]
  | x :: rest, pre, cap, hs => by
    have c : decide ((pre.length : Int) < (ks.length : Int)) = true := by simp [hs]; omega
    have hget : (strs ks)[pre.length]? = some [.str x] := by rw [hs]; exact strs_zip pre x rest
    have hlen : pre.length + rest.length + 1 ≤ ks.length := by rw [hs]; simp; omega
    have hk := c_snR g x hB (hb x (by rw [hs]; simp))
    obtain ⟨cap', IH⟩ := l_lsR g hB ks hl hb rest (pre ++ [x]) none (by rw [hs]; simp)
    rw [show ((pre ++ [x]).length : Int) = (pre.length : Int) + 1 by simp, show (pre ++ [x]).length = pre.length + 1 by simp, show strs (shorts g.packs (pre ++ [x])) = strs (shorts g.packs pre) ++ [[.str (shortName g.packs x)]] by simp [shorts, strs]] at IH
    clear hs
    have hsl : (strs (shorts g.packs pre)).length = pre.length := by simp [shorts, strs]
    generalize shortName g.packs x = sx at *
    simp only [LGraph.enc, List.map_cons, List.map_nil] at IH hk ⊢
    refine ⟨cap', ?_⟩
    refine loop_eq Tryz.func282 rfl rfl ?_
    simp (disch := ((try simp only [List.length_cons, List.length_append, List.length_nil, List.length_map]); omega)) only [↓GO, ↓DRW, GA, ren, renB, footX, refs, cellsV, cst, cstAt, nilC, idxAddr, E.load, E.store, binO, isC, bin, ibin, sbin, una, isShift, okCell, packV, lenV, blt, fnV, asArg, snapV, snapS, snapP, snapC, flatV, flatT, openK, layBack, allT, allZ, mkS, srcOf0, unN, idxV, nilEq, give, tupV, mkEnv, extV, pickV, LVS, OVS, LTS, TYS, PMS, pmT, Int.reduceToNat, Nat.reduceGT, ↓reduceIte, Nat.reduceAdd, Nat.reduceMul, Nat.reduceSub, Nat.reduceEqDiff, Nat.reduceLeDiff, Nat.reduceLT, Nat.reduceBEq, Int.reduceBEq, Int.reduceBNe, Int.reduceEq, Int.reduceLT, Int.reduceLE, Int.reduceGT, Int.reduceNeg, reduceCtorEq, Int.cast_ofNat_Int, getE_zero, getE_one, getE_two, Option.isSome_none, c, hget, hk, wrap_in, strs_len, hsl, le_T, rch3]
    refine dyn_pos (by kernel_rfl) ?_
    simp (disch := ((try simp only [List.length_cons, List.length_append, List.length_nil, List.length_map]); omega)) only [↓GO, ↓DRW, GA, ren, renB, footX, refs, cellsV, cst, cstAt, nilC, idxAddr, E.load, E.store, binO, isC, bin, ibin, sbin, una, isShift, okCell, packV, lenV, blt, fnV, asArg, snapV, snapS, snapP, snapC, flatV, flatT, openK, layBack, allT, allZ, mkS, srcOf0, unN, idxV, nilEq, give, tupV, mkEnv, extV, pickV, LVS, OVS, LTS, TYS, PMS, pmT, Int.reduceToNat, Nat.reduceGT, ↓reduceIte, Nat.reduceAdd, Nat.reduceMul, Nat.reduceSub, Nat.reduceEqDiff, Nat.reduceLeDiff, Nat.reduceLT, Nat.reduceBEq, Int.reduceBEq, Int.reduceBNe, Int.reduceEq, Int.reduceLT, Int.reduceLE, Int.reduceGT, Int.reduceNeg, reduceCtorEq, Int.cast_ofNat_Int, getE_zero, getE_one, getE_two, Option.isSome_none, c, hget, hk, wrap_in, strs_len, hsl, le_T, rch3, IH]
theorem c_lsR (g : LGraph) (hB : GB g) (x : Str) (ks : List Str) (hl : (x :: ks).length ≤ 1048576) (hb : ∀ k ∈ x :: ks, k.length ≤ 1048576) : callPure (EV Tryz.prog pol) 282 [.agg (g.enc.map .t), .t (.list 1 (strs (x :: ks)))] = some (.agg ((fldL depsK (shorts g.packs (x :: ks))).enc.map .t)) := by
  obtain ⟨cap, L⟩ := l_lsR g hB (x :: ks) hl hb ks [x] none rfl
  have hk := c_snR g x hB (hb x (by simp))
  have c : decide ((0 : Int) < ((x :: ks).length : Int)) = true := by simp only [decide_eq_true_eq, List.length_cons]; omega
  have hget : (strs (x :: ks))[0]? = some [.str x] := rfl
  rw [show strs (shorts g.packs [x]) = [[.str (shortName g.packs x)]] from rfl] at L
  have ht : List.take (x :: ks).length (strs (shorts g.packs (x :: ks))) = strs (shorts g.packs (x :: ks)) := List.take_of_length_le (by simp [strs, shorts])
  simp only [List.length_cons, List.length_nil, Nat.zero_add, Int.natCast_one] at L
  rw [show ks.length + 1 = (x :: ks).length from rfl] at L
  generalize shortName g.packs x = sx at *
  clear hb
  generalize x :: ks = all at *
  rw [fldL_enc]
  unfold depsK at L
  have L0 : EV Tryz.prog pol (.loop 282 58 0 [.t (.list 1 (strs all)), .ptr 0 0 0, .ptr 1 0 0, .ptr 2 0 0, .t (.int .i64 0)] [.vs 2 [g.enc.map .t], .vs 4 [[.t (.str []), .t (.str []), .nil 1, .t (.bool false)]], .vs 4 [[.t (.str [100, 101, 112, 101, 110, 100, 101, 110, 99, 105, 101, 115]), .t (.str []), .nil 1, .t (.bool true)]]])
      = some (.loop (.exit 0) [.ptr 0 0 0, .ptr 1 0 0] [.vs 4 [[.t (.str []), .t (.str []), .nil 1, .t (.bool false)]], .vs 4 [[.t (.str [100, 101, 112, 101, 110, 100, 101, 110, 99, 105, 101, 115]), .t (.str []), .sl 2 0 all.length cap, .t (.bool true)]], .ts 1 (strs (shorts g.packs all))]) := by
    simp only [LGraph.enc, List.map_cons, List.map_nil] at hk L ⊢
    refine loop_eq Tryz.func282 rfl rfl ?_
    simp (disch := ((try simp only [List.length_cons, List.length_append, List.length_nil, List.length_map]); omega)) only [↓GO, ↓DRW, GA, ren, renB, footX, refs, cellsV, cst, cstAt, nilC, idxAddr, E.load, E.store, binO, isC, bin, ibin, sbin, una, isShift, okCell, packV, lenV, blt, fnV, asArg, snapV, snapS, snapP, snapC, flatV, flatT, openK, layBack, allT, allZ, mkS, srcOf0, unN, idxV, nilEq, give, tupV, mkEnv, extV, pickV, LVS, OVS, LTS, TYS, PMS, pmT, Int.reduceToNat, Nat.reduceGT, ↓reduceIte, Nat.reduceAdd, Nat.reduceMul, Nat.reduceSub, Nat.reduceEqDiff, Nat.reduceLeDiff, Nat.reduceLT, Nat.reduceBEq, Int.reduceBEq, Int.reduceBNe, Int.reduceEq, Int.reduceLT, Int.reduceLE, Int.reduceGT, Int.reduceNeg, reduceCtorEq, Int.cast_ofNat_Int, getE_zero, getE_one, getE_two, Option.isSome_none, c, hget, hk, wrap_in, strs_len, le_T, rch3]
    refine dyn_pos (by kernel_rfl) ?_
    simp (disch := ((try simp only [List.length_cons, List.length_append, List.length_nil, List.length_map]); omega)) only [↓GO, ↓DRW, GA, ren, renB, footX, refs, cellsV, cst, cstAt, nilC, idxAddr, E.load, E.store, binO, isC, bin, ibin, sbin, una, isShift, okCell, packV, lenV, blt, fnV, asArg, snapV, snapS, snapP, snapC, flatV, flatT, openK, layBack, allT, allZ, mkS, srcOf0, unN, idxV, nilEq, give, tupV, mkEnv, extV, pickV, LVS, OVS, LTS, TYS, PMS, pmT, Int.reduceToNat, Nat.reduceGT, ↓reduceIte, Nat.reduceAdd, Nat.reduceMul, Nat.reduceSub, Nat.reduceEqDiff, Nat.reduceLeDiff, Nat.reduceLT, Nat.reduceBEq, Int.reduceBEq, Int.reduceBNe, Int.reduceEq, Int.reduceLT, Int.reduceLE, Int.reduceGT, Int.reduceNeg, reduceCtorEq, Int.cast_ofNat_Int, getE_zero, getE_one, getE_two, Option.isSome_none, c, hget, hk, wrap_in, strs_len, le_T, rch3, L, Int.zero_add]
  unfold depsK
  simp only [LGraph.enc, List.map_cons, List.map_nil] at L0 ⊢
  apply eq_call
  refine call_eq rfl Tryz.func282 rfl (by kernel_rfl) ?_
  unfold Tryz.f282
  simp (disch := ((try simp only [List.length_cons, List.length_append, List.length_nil, List.length_map]); omega)) only [↓GO, ↓DRW, GA, ren, renB, footX, refs, cellsV, cst, cstAt, nilC, idxAddr, E.load, E.store, binO, isC, bin, ibin, sbin, una, isShift, okCell, packV, lenV, blt, fnV, asArg, snapV, snapS, snapP, snapC, flatV, flatT, openK, layBack, allT, allZ, mkS, srcOf0, unN, idxV, nilEq, give, tupV, mkEnv, extV, pickV, LVS, OVS, LTS, TYS, PMS, pmT, Int.reduceToNat, Nat.reduceGT, ↓reduceIte, Nat.reduceAdd, Nat.reduceMul, Nat.reduceSub, Nat.reduceEqDiff, Nat.reduceLeDiff, Nat.reduceLT, Nat.reduceBEq, Int.reduceBEq, Int.reduceBNe, Int.reduceEq, Int.reduceLT, Int.reduceLE, Int.reduceGT, Int.reduceNeg, reduceCtorEq, Int.cast_ofNat_Int, getE_zero, getE_one, getE_two, Option.isSome_none, L0, ht, rch3]
end Go.Proofs.YtkpmachalipmpaaGreatDoor
/- The tables of a graph and Cargo's text, by the reference. Conditions: those of each lemma. -/
namespace Go.Proofs.YtkpmachalipmpaaGreatDoor
open E
set_option linter.unusedSimpArgs false
set_option linter.unusedVariables false
set_option maxRecDepth 100000
theorem key_of {k : Str} {l : List LField} (h : l.all (fun x => !(x.key == k)) = true) : ∀ y ∈ l, (y.key == k) = false := fun y hy => by
  have := List.all_eq_true.1 h y hy
  simpa using this
theorem hex_nil (s : Str) : (hexS s == []) = (s == []) := by
  cases s with
  | nil => rfl
  | cons b s => rfl
theorem c_tbR (g : LGraph) (hB : GB g) (nm ver : Str) (p : LPack) (hp : p.bulk ≤ 1048576) : callPure (EV Tryz.prog pol) 217 [.agg (g.enc.map .t), .t (.str nm), .t (.str ver), .agg (p.enc.map .t)] = some (.agg ((tblP g.packs nm ver p.source (sumOf sha256S p.sums) p.needs).enc.map .t)) := by
  obtain ⟨k1, k2, k3, k4, k5, k6, k7⟩ := pack_needs hp
  have hsl := sumOf_len sha256S p.sums
  have d0 := c_ckR p hp
  have hxn := hex_nil (sumOf sha256S p.sums)
  have hnk := strs_of_nil p.needs
  have hgt := gt_len p.needs
  have D3 : (p.needs == []) = false → callPure (EV Tryz.prog pol) 282 [.agg (g.enc.map .t), .t (.list 1 (strs p.needs))] = some (.agg ((fldL depsK (shorts g.packs p.needs)).enc.map .t)) := fun h => by
    cases hn : p.needs with
    | nil => rw [hn] at h; cases h
    | cons x r => exact c_lsR g hB x r (by rw [← hn]; exact k1) (fun k hk => by have := bulk_mem (ks := p.needs) (s := k) (by rw [hn]; exact hk); omega)
  have S1 := c_setF packageK (fldS nameK nm) [fldS versionK ver] (fldS sourceK p.source) (by simp) (by simp [fldS]) (key_of (by simp [fldS]; decide))
  have S2 := c_setF packageK (fldS nameK nm) ([fldS versionK ver] ++ srcF p.source) (fldS checksumK (hexS (sumOf sha256S p.sums))) (by unfold srcF; cases (p.source == []) <;> simp) (by unfold srcF; cases (p.source == []) <;> simp [fldS]) (key_of (by unfold srcF; cases (p.source == []) <;> simp [fldS] <;> decide))
  have hsh : (shorts g.packs p.needs).length = p.needs.length := by simp [shorts]
  have S3 := c_setF packageK (fldS nameK nm) (([fldS versionK ver] ++ srcF p.source) ++ sumF (sumOf sha256S p.sums)) (fldL depsK (shorts g.packs p.needs)) (by unfold srcF sumF; cases (p.source == []) <;> cases (sumOf sha256S p.sums == []) <;> simp)
    (by unfold srcF sumF; cases (p.source == []) <;> cases (sumOf sha256S p.sums == []) <;> simp [fldS, fldL] <;> omega) (key_of (by unfold srcF sumF; cases (p.source == []) <;> cases (sumOf sha256S p.sums == []) <;> simp [fldS, fldL] <;> decide))
  unfold tblP
  generalize sumOf sha256S p.sums = sm at *
  have hnc : (p.needs == []) = true ∨ (p.needs == []) = false := by cases (p.needs == []) <;> simp
  rcases hnc with h3 | h3
  · have hn0 := hnk h3
    clear D3 S3
    cases h1 : (p.source == []) <;> cases h2 : (sm == []) <;>
      simp only [LGraph.enc, LPack.enc, LTable.enc, srcF, sumF, depF, h1, h2, h3, cond_true, cond_false, LField.encs, List.map_cons, List.map_nil, List.cons_append, List.nil_append, List.append_nil, fldS_enc, fldL_enc, packageK, nameK, versionK, sourceK, checksumK, depsK, Bool.not_true, Bool.not_false] at S1 S2 hxn hgt d0 ⊢
    all_goals
      rw [hn0] at d0 ⊢
      generalize hexS sm = hx at *
      apply eq_call
      refine call_eq rfl Tryz.func217 rfl (by kernel_rfl) ?_
      unfold Tryz.f217
      simp (disch := ((try simp only [List.length_cons, List.length_append, List.length_nil, List.length_map]); omega)) only [↓GO, ↓DRW, GA, ren, renB, footX, refs, cellsV, cst, cstAt, nilC, idxAddr, E.load, E.store, binO, isC, bin, ibin, sbin, una, isShift, okCell, packV, lenV, blt, fnV, asArg, snapV, snapS, snapP, snapC, flatV, flatT, openK, layBack, allT, allZ, mkS, srcOf0, unN, idxV, nilEq, give, tupV, mkEnv, extV, pickV, LVS, OVS, LTS, TYS, PMS, pmT, Int.reduceToNat, Nat.reduceGT, ↓reduceIte, Nat.reduceAdd, Nat.reduceMul, Nat.reduceSub, Nat.reduceEqDiff, Nat.reduceLeDiff, Nat.reduceLT, Nat.reduceBEq, Int.reduceBEq, Int.reduceBNe, Int.reduceEq, Int.reduceLT, Int.reduceLE, Int.reduceGT, Int.reduceNeg, reduceCtorEq, Int.cast_ofNat_Int, getE_zero, getE_one, getE_two, Option.isSome_none, d0, S1, S2, hxn, hgt, h1, bne, strs_len, rch3]
  · have d3 := D3 h3
    clear D3
    cases h1 : (p.source == []) <;> cases h2 : (sm == []) <;>
      simp only [LGraph.enc, LPack.enc, LTable.enc, srcF, sumF, depF, h1, h2, h3, cond_true, cond_false, LField.encs, List.map_cons, List.map_nil, List.cons_append, List.nil_append, List.append_nil, fldS_enc, fldL_enc, packageK, nameK, versionK, sourceK, checksumK, depsK, Bool.not_true, Bool.not_false] at S1 S2 S3 hxn hgt d0 d3 ⊢
    all_goals
      generalize hexS sm = hx at *
      generalize shorts g.packs p.needs = sh at *
      apply eq_call
      refine call_eq rfl Tryz.func217 rfl (by kernel_rfl) ?_
      unfold Tryz.f217
      simp (disch := ((try simp only [List.length_cons, List.length_append, List.length_nil, List.length_map]); omega)) only [↓GO, ↓DRW, GA, ren, renB, footX, refs, cellsV, cst, cstAt, nilC, idxAddr, E.load, E.store, binO, isC, bin, ibin, sbin, una, isShift, okCell, packV, lenV, blt, fnV, asArg, snapV, snapS, snapP, snapC, flatV, flatT, openK, layBack, allT, allZ, mkS, srcOf0, unN, idxV, nilEq, give, tupV, mkEnv, extV, pickV, LVS, OVS, LTS, TYS, PMS, pmT, Int.reduceToNat, Nat.reduceGT, ↓reduceIte, Nat.reduceAdd, Nat.reduceMul, Nat.reduceSub, Nat.reduceEqDiff, Nat.reduceLeDiff, Nat.reduceLT, Nat.reduceBEq, Int.reduceBEq, Int.reduceBNe, Int.reduceEq, Int.reduceLT, Int.reduceLE, Int.reduceGT, Int.reduceNeg, reduceCtorEq, Int.cast_ofNat_Int, getE_zero, getE_one, getE_two, Option.isSome_none, d0, d3, S1, S2, S3, hxn, hgt, h1, bne, strs_len, rch3]
      refine dyn_pos (by kernel_rfl) ?_
      simp (disch := ((try simp only [List.length_cons, List.length_append, List.length_nil, List.length_map]); omega)) only [↓GO, ↓DRW, GA, ren, renB, footX, refs, cellsV, cst, cstAt, nilC, idxAddr, E.load, E.store, binO, isC, bin, ibin, sbin, una, isShift, okCell, packV, lenV, blt, fnV, asArg, snapV, snapS, snapP, snapC, flatV, flatT, openK, layBack, allT, allZ, mkS, srcOf0, unN, idxV, nilEq, give, tupV, mkEnv, extV, pickV, LVS, OVS, LTS, TYS, PMS, pmT, Int.reduceToNat, Nat.reduceGT, ↓reduceIte, Nat.reduceAdd, Nat.reduceMul, Nat.reduceSub, Nat.reduceEqDiff, Nat.reduceLeDiff, Nat.reduceLT, Nat.reduceBEq, Int.reduceBEq, Int.reduceBNe, Int.reduceEq, Int.reduceLT, Int.reduceLE, Int.reduceGT, Int.reduceNeg, reduceCtorEq, Int.cast_ofNat_Int, getE_zero, getE_one, getE_two, Option.isSome_none, d0, d3, S1, S2, S3, hxn, hgt, h1, bne, strs_len, rch3]
theorem l_ttR (g : LGraph) (hB : GB g) : ∀ (rest pre : List LPack) (cap : Option Nat) (m : Nat), g.packs = pre ++ rest → m = 2 + pre.length →
    ∃ cap', EV Tryz.prog pol (.loop 128 122 0 [.ptr 0 0 0, .sl 1 0 m cap, .t (.int .i64 (pre.length : Int))] [.vs 2 [g.enc.map .t], .ts 2 (LTable.encs (headTs g ++ pre.map (tblOf g.packs)))])
      = some (.loop (.exit 0) [.sl 0 0 (2 + g.packs.length) cap'] [.ts 2 (LTable.encs (toTables g))])
  | [], pre, cap, m, hs, hm => by
    have c : decide ((pre.length : Int) < (g.packs.length : Int)) = false := by simp [hs]
    have e : g.packs = pre := by simpa using hs
    refine ⟨cap, ?_⟩
    simp only [LGraph.enc, List.map_cons, List.map_nil]
    refine loop_eq Tryz.func128 rfl rfl ?_
    simp (disch := ((try simp only [List.length_cons, List.length_append, List.length_nil, List.length_map]); omega)) only [↓GO, ↓DRW, GA, ren, renB, footX, refs, cellsV, cst, cstAt, nilC, idxAddr, E.load, E.store, binO, isC, bin, ibin, sbin, una, isShift, okCell, packV, lenV, blt, fnV, asArg, snapV, snapS, snapP, snapC, flatV, flatT, openK, layBack, allT, allZ, mkS, srcOf0, unN, idxV, nilEq, give, tupV, mkEnv, extV, pickV, LVS, OVS, LTS, TYS, PMS, pmT, Int.reduceToNat, Nat.reduceGT, ↓reduceIte, Nat.reduceAdd, Nat.reduceMul, Nat.reduceSub, Nat.reduceEqDiff, Nat.reduceLeDiff, Nat.reduceLT, Nat.reduceBEq, Int.reduceBEq, Int.reduceBNe, Int.reduceEq, Int.reduceLT, Int.reduceLE, Int.reduceGT, Int.reduceNeg, reduceCtorEq, Int.cast_ofNat_Int, getE_zero, getE_one, getE_two, Option.isSome_none, c, LPack.encs_len, rch3]
    unfold toTables
    rw [hm, ← e]
  | x :: rest, pre, cap, m, hs, hm => by
    obtain ⟨b1, b2, b3⟩ := hB.len
    have hxb := b3 x (by rw [hs]; simp)
    have c : decide ((pre.length : Int) < (g.packs.length : Int)) = true := by simp [hs]; omega
    have hget : (LPack.encs g.packs)[pre.length]? = some x.enc := by rw [hs]; exact map_zip LPack.enc pre x rest
    have hlen : pre.length + rest.length + 1 ≤ g.packs.length := by rw [hs]; simp; omega
    obtain ⟨cap', IH⟩ := l_ttR g hB rest (pre ++ [x]) none (m + 1) (by rw [hs]; simp) (by simp; omega)
    refine ⟨cap', ?_⟩
    rw [show ((pre ++ [x]).length : Int) = (pre.length : Int) + 1 by simp, show LTable.encs (headTs g ++ (pre ++ [x]).map (tblOf g.packs)) = LTable.encs (headTs g ++ pre.map (tblOf g.packs)) ++ [(tblOf g.packs x).enc] by simp [LTable.encs]] at IH
    have hol : (LTable.encs (headTs g ++ pre.map (tblOf g.packs))).length = m := by rw [LTable.encs_len]; simp [headTs]; omega
    have hml : m ≤ 1048578 := by omega
    clear hs b3
    have d := c_tbR g hB x.name x.version x hxb
    rw [show tblP g.packs x.name x.version x.source (sumOf sha256S x.sums) x.needs = tblOf g.packs x from rfl] at d
    generalize LTable.encs (headTs g ++ pre.map (tblOf g.packs)) = outs at *
    generalize tblOf g.packs x = tx at *
    simp only [LGraph.enc, LPack.enc, LTable.enc, List.map_cons, List.map_nil] at hget d IH ⊢
    refine loop_eq Tryz.func128 rfl rfl ?_
    simp (disch := ((try simp only [List.length_cons, List.length_append, List.length_nil, List.length_map]); omega)) only [↓GO, ↓DRW, GA, ren, renB, footX, refs, cellsV, cst, cstAt, nilC, idxAddr, E.load, E.store, binO, isC, bin, ibin, sbin, una, isShift, okCell, packV, lenV, blt, fnV, asArg, snapV, snapS, snapP, snapC, flatV, flatT, openK, layBack, allT, allZ, mkS, srcOf0, unN, idxV, nilEq, give, tupV, mkEnv, extV, pickV, LVS, OVS, LTS, TYS, PMS, pmT, Int.reduceToNat, Nat.reduceGT, ↓reduceIte, Nat.reduceAdd, Nat.reduceMul, Nat.reduceSub, Nat.reduceEqDiff, Nat.reduceLeDiff, Nat.reduceLT, Nat.reduceBEq, Int.reduceBEq, Int.reduceBNe, Int.reduceEq, Int.reduceLT, Int.reduceLE, Int.reduceGT, Int.reduceNeg, reduceCtorEq, Int.cast_ofNat_Int, getE_zero, getE_one, getE_two, Option.isSome_none, c, LPack.encs_len, hget, d, wrap_in, hol, le_T, rch3]
    refine dyn_pos (by kernel_rfl) ?_
    simp (disch := ((try simp only [List.length_cons, List.length_append, List.length_nil, List.length_map]); omega)) only [↓GO, ↓DRW, GA, ren, renB, footX, refs, cellsV, cst, cstAt, nilC, idxAddr, E.load, E.store, binO, isC, bin, ibin, sbin, una, isShift, okCell, packV, lenV, blt, fnV, asArg, snapV, snapS, snapP, snapC, flatV, flatT, openK, layBack, allT, allZ, mkS, srcOf0, unN, idxV, nilEq, give, tupV, mkEnv, extV, pickV, LVS, OVS, LTS, TYS, PMS, pmT, Int.reduceToNat, Nat.reduceGT, ↓reduceIte, Nat.reduceAdd, Nat.reduceMul, Nat.reduceSub, Nat.reduceEqDiff, Nat.reduceLeDiff, Nat.reduceLT, Nat.reduceBEq, Int.reduceBEq, Int.reduceBNe, Int.reduceEq, Int.reduceLT, Int.reduceLE, Int.reduceGT, Int.reduceNeg, reduceCtorEq, Int.cast_ofNat_Int, getE_zero, getE_one, getE_two, Option.isSome_none, c, LPack.encs_len, hget, d, wrap_in, hol, le_T, rch3, IH]
theorem c_ttR (g : LGraph) (hB : GB g) : callPure (EV Tryz.prog pol) 128 [.agg (g.enc.map .t)] = some (.t (.list 2 (LTable.encs (toTables g)))) := by
  obtain ⟨b1, b2, b3⟩ := hB.len
  obtain ⟨cap, L⟩ := l_ttR g hB g.packs [] none 2 rfl rfl
  have d := c_tbR g hB rootK zeroK ⟨[], [], [], [], false, g.top⟩ (by simp [LPack.bulk, LSum.bulks]; omega)
  have ht : List.take (2 + g.packs.length) (LTable.encs (toTables g)) = LTable.encs (toTables g) := List.take_of_length_le (by rw [LTable.encs_len]; unfold toTables headTs; simp; omega)
  clear b3
  generalize toTables g = tts at *
  unfold headTs at L
  rw [show sumOf sha256S ([] : List LSum) = [] from rfl] at d
  generalize tblP g.packs rootK zeroK [] [] g.top = tr at *
  simp only [List.length_nil, Int.natCast_zero] at L
  simp only [LGraph.enc, LPack.enc, LTable.enc, LTable.encs, LField.encs, LSum.encs, List.map_cons, List.map_nil, fldS_enc, List.append_nil, List.cons_append, List.nil_append, versionK, rootK, zeroK] at d L ht ⊢
  apply eq_call
  refine call_eq rfl Tryz.func128 rfl (by kernel_rfl) ?_
  unfold Tryz.f128
  simp (disch := ((try simp only [List.length_cons, List.length_append, List.length_nil, List.length_map]); omega)) only [↓GO, ↓DRW, GA, ren, renB, footX, refs, cellsV, cst, cstAt, nilC, idxAddr, E.load, E.store, binO, isC, bin, ibin, sbin, una, isShift, okCell, packV, lenV, blt, fnV, asArg, snapV, snapS, snapP, snapC, flatV, flatT, openK, layBack, allT, allZ, mkS, srcOf0, unN, idxV, nilEq, give, tupV, mkEnv, extV, pickV, LVS, OVS, LTS, TYS, PMS, pmT, Int.reduceToNat, Nat.reduceGT, ↓reduceIte, Nat.reduceAdd, Nat.reduceMul, Nat.reduceSub, Nat.reduceEqDiff, Nat.reduceLeDiff, Nat.reduceLT, Nat.reduceBEq, Int.reduceBEq, Int.reduceBNe, Int.reduceEq, Int.reduceLT, Int.reduceLE, Int.reduceGT, Int.reduceNeg, reduceCtorEq, Int.cast_ofNat_Int, getE_zero, getE_one, getE_two, Option.isSome_none, d, L, ht, rch3, le_T]
theorem l_canR (p : LPack) (hb : p.bulk ≤ 1048576) : ∀ (rest pre : List LSum), p.sums = pre ++ rest →
    EV Tryz.prog pol (.loop 126 26 0 [.ptr 0 0 0, .t (.int .i64 (pre.length : Int))] [.vs 6 [p.enc.map .t]]) = some (cond (rest.any notSha) (.loop .ret [.ptr 0 0 0, .t (.bool false)] [.vs 6 [p.enc.map .t]]) (.loop (.exit 0) [.ptr 0 0 0, .bad] [.vs 6 [p.enc.map .t]]))
  | [], pre, hs => by
    have c : decide ((pre.length : Int) < (p.sums.length : Int)) = false := by simp [hs]
    simp only [LPack.enc, List.map_cons, List.map_nil, List.any_nil, cond_false]
    refine loop_eq Tryz.func126 rfl rfl ?_
    simp (disch := ((try simp only [List.length_cons, List.length_append, List.length_nil, List.length_map]); omega)) only [↓GO, ↓DRW, GA, ren, renB, footX, refs, cellsV, cst, cstAt, nilC, idxAddr, E.load, E.store, binO, isC, bin, ibin, sbin, una, isShift, okCell, packV, lenV, blt, fnV, asArg, snapV, snapS, snapP, snapC, flatV, flatT, openK, layBack, allT, allZ, mkS, srcOf0, unN, idxV, nilEq, give, tupV, mkEnv, extV, pickV, LVS, OVS, LTS, TYS, PMS, pmT, Int.reduceToNat, Nat.reduceGT, ↓reduceIte, Nat.reduceAdd, Nat.reduceMul, Nat.reduceSub, Nat.reduceEqDiff, Nat.reduceLeDiff, Nat.reduceLT, Nat.reduceBEq, Int.reduceBEq, Int.reduceBNe, Int.reduceEq, Int.reduceLT, Int.reduceLE, Int.reduceGT, Int.reduceNeg, reduceCtorEq, Int.cast_ofNat_Int, getE_zero, getE_one, getE_two, Option.isSome_none, c, LSum.encs_len, rch3]
  | s :: rest, pre, hs => by
    have c : decide ((pre.length : Int) < (p.sums.length : Int)) = true := by simp [hs]; omega
    have hget : (LSum.encs p.sums)[pre.length]? = some [.str s.alg, .str s.bytes] := by rw [hs]; exact map_zip LSum.enc pre s rest
    have hlen : pre.length + rest.length + 1 ≤ p.sums.length := by rw [hs]; simp; omega
    have hpn := pack_needs hb
    have IH := l_canR p hb rest (pre ++ [s]) (by rw [hs]; simp)
    rw [show ((pre ++ [s]).length : Int) = (pre.length : Int) + 1 by simp] at IH
    clear hs
    rw [List.any_cons]
    unfold notSha at IH ⊢
    simp only [LPack.enc, List.map_cons, List.map_nil, sha256S] at IH ⊢
    cases h : (s.alg == [115, 104, 97, 50, 53, 54])
    all_goals
      refine loop_eq Tryz.func126 rfl rfl ?_
      simp (disch := ((try simp only [List.length_cons, List.length_append, List.length_nil, List.length_map]); omega)) only [↓GO, ↓DRW, GA, ren, renB, footX, refs, cellsV, cst, cstAt, nilC, idxAddr, E.load, E.store, binO, isC, bin, ibin, sbin, una, isShift, okCell, packV, lenV, blt, fnV, asArg, snapV, snapS, snapP, snapC, flatV, flatT, openK, layBack, allT, allZ, mkS, srcOf0, unN, idxV, nilEq, give, tupV, mkEnv, extV, pickV, LVS, OVS, LTS, TYS, PMS, pmT, Int.reduceToNat, Nat.reduceGT, ↓reduceIte, Nat.reduceAdd, Nat.reduceMul, Nat.reduceSub, Nat.reduceEqDiff, Nat.reduceLeDiff, Nat.reduceLT, Nat.reduceBEq, Int.reduceBEq, Int.reduceBNe, Int.reduceEq, Int.reduceLT, Int.reduceLE, Int.reduceGT, Int.reduceNeg, reduceCtorEq, Int.cast_ofNat_Int, getE_zero, getE_one, getE_two, Option.isSome_none, c, LSum.encs_len, hget, h, bne, wrap_in, IH, rch3]
theorem c_canR (p : LPack) (hb : p.bulk ≤ 1048576) : callPure (EV Tryz.prog pol) 126 [.agg (p.enc.map .t)] = some (.t (.bool (!(cant p)))) := by
  have L := l_canR p hb p.sums [] rfl
  simp only [List.length_nil, Int.natCast_zero] at L
  unfold cant rootK
  simp only [LPack.enc, List.map_cons, List.map_nil] at L ⊢
  cases h1 : p.dev <;> cases h2 : (p.name == [114, 111, 111, 116]) <;> cases h3 : p.sums.any notSha <;> rw [h1] at L <;> rw [h3] at L <;> simp only [cond_true, cond_false] at L
  all_goals
    apply eq_call
    refine call_eq rfl Tryz.func126 rfl (by kernel_rfl) ?_
    unfold Tryz.f126
    simp (disch := ((try simp only [List.length_cons, List.length_append, List.length_nil, List.length_map]); omega)) only [↓GO, ↓DRW, GA, ren, renB, footX, refs, cellsV, cst, cstAt, nilC, idxAddr, E.load, E.store, binO, isC, bin, ibin, sbin, una, isShift, okCell, packV, lenV, blt, fnV, asArg, snapV, snapS, snapP, snapC, flatV, flatT, openK, layBack, allT, allZ, mkS, srcOf0, unN, idxV, nilEq, give, tupV, mkEnv, extV, pickV, LVS, OVS, LTS, TYS, PMS, pmT, Int.reduceToNat, Nat.reduceGT, ↓reduceIte, Nat.reduceAdd, Nat.reduceMul, Nat.reduceSub, Nat.reduceEqDiff, Nat.reduceLeDiff, Nat.reduceLT, Nat.reduceBEq, Int.reduceBEq, Int.reduceBNe, Int.reduceEq, Int.reduceLT, Int.reduceLE, Int.reduceGT, Int.reduceNeg, reduceCtorEq, Int.cast_ofNat_Int, getE_zero, getE_one, getE_two, Option.isSome_none, L, h2, bne, rch3]
theorem l_pcR (g : LGraph) (hB : GB g) : ∀ (rest pre : List LPack), g.packs = pre ++ rest →
    EV Tryz.prog pol (.loop 51 26 0 [.ptr 0 0 0, .t (.int .i64 (pre.length : Int))] [.vs 2 [g.enc.map .t]]) = some (cond (rest.any cant) (.loop .ret [.ptr 0 0 0, .t (.str []), .t (.bool false)] [.vs 2 [g.enc.map .t]]) (.loop (.exit 0) [.ptr 0 0 0, .bad, .bad] [.vs 2 [g.enc.map .t]]))
  | [], pre, hs => by
    have c : decide ((pre.length : Int) < (g.packs.length : Int)) = false := by simp [hs]
    simp only [LGraph.enc, List.map_cons, List.map_nil, List.any_nil, cond_false]
    refine loop_eq Tryz.func51 rfl rfl ?_
    simp (disch := ((try simp only [List.length_cons, List.length_append, List.length_nil, List.length_map]); omega)) only [↓GO, ↓DRW, GA, ren, renB, footX, refs, cellsV, cst, cstAt, nilC, idxAddr, E.load, E.store, binO, isC, bin, ibin, sbin, una, isShift, okCell, packV, lenV, blt, fnV, asArg, snapV, snapS, snapP, snapC, flatV, flatT, openK, layBack, allT, allZ, mkS, srcOf0, unN, idxV, nilEq, give, tupV, mkEnv, extV, pickV, LVS, OVS, LTS, TYS, PMS, pmT, Int.reduceToNat, Nat.reduceGT, ↓reduceIte, Nat.reduceAdd, Nat.reduceMul, Nat.reduceSub, Nat.reduceEqDiff, Nat.reduceLeDiff, Nat.reduceLT, Nat.reduceBEq, Int.reduceBEq, Int.reduceBNe, Int.reduceEq, Int.reduceLT, Int.reduceLE, Int.reduceGT, Int.reduceNeg, reduceCtorEq, Int.cast_ofNat_Int, getE_zero, getE_one, getE_two, Option.isSome_none, c, LPack.encs_len, rch3]
  | x :: rest, pre, hs => by
    obtain ⟨b1, b2, b3⟩ := hB.len
    have c : decide ((pre.length : Int) < (g.packs.length : Int)) = true := by simp [hs]; omega
    have hget : (LPack.encs g.packs)[pre.length]? = some x.enc := by rw [hs]; exact map_zip LPack.enc pre x rest
    have hlen : pre.length + rest.length + 1 ≤ g.packs.length := by rw [hs]; simp; omega
    have hk := c_canR x (b3 x (by rw [hs]; simp))
    have IH := l_pcR g hB rest (pre ++ [x]) (by rw [hs]; simp)
    rw [show ((pre ++ [x]).length : Int) = (pre.length : Int) + 1 by simp] at IH
    clear hs b3
    rw [List.any_cons]
    generalize cant x = cx at *
    simp only [LGraph.enc, LPack.enc, List.map_cons, List.map_nil] at hget hk IH ⊢
    cases cx
    all_goals
      refine loop_eq Tryz.func51 rfl rfl ?_
      simp (disch := ((try simp only [List.length_cons, List.length_append, List.length_nil, List.length_map]); omega)) only [↓GO, ↓DRW, GA, ren, renB, footX, refs, cellsV, cst, cstAt, nilC, idxAddr, E.load, E.store, binO, isC, bin, ibin, sbin, una, isShift, okCell, packV, lenV, blt, fnV, asArg, snapV, snapS, snapP, snapC, flatV, flatT, openK, layBack, allT, allZ, mkS, srcOf0, unN, idxV, nilEq, give, tupV, mkEnv, extV, pickV, LVS, OVS, LTS, TYS, PMS, pmT, Int.reduceToNat, Nat.reduceGT, ↓reduceIte, Nat.reduceAdd, Nat.reduceMul, Nat.reduceSub, Nat.reduceEqDiff, Nat.reduceLeDiff, Nat.reduceLT, Nat.reduceBEq, Int.reduceBEq, Int.reduceBNe, Int.reduceEq, Int.reduceLT, Int.reduceLE, Int.reduceGT, Int.reduceNeg, reduceCtorEq, Int.cast_ofNat_Int, getE_zero, getE_one, getE_two, Option.isSome_none, c, LPack.encs_len, hget, hk, wrap_in, IH, rch3]
theorem c_pcR (g : LGraph) (hB : GB g) : callPure (EV Tryz.prog pol) 51 [.agg (g.enc.map .t)] = some (.tup [.t (.str (putCargo g).1), .t (.bool (putCargo g).2)]) := by
  have L := l_pcR g hB g.packs [] rfl
  have h1 := c_gokR g hB
  have h3 := c_ttR g hB
  have h4 : graphOk g = true → _ := fun h => c_ptR (toTables g) (toTables_bulk g hB (ok_40 h))
  have h6 : graphOk g = true → _ := fun h => text_ne g (ok_40 h)
  simp only [List.length_nil, Int.natCast_zero] at L
  unfold putCargo
  generalize putTs (toTables g) = tx at *
  generalize LTable.encs (toTables g) = te at *
  simp only [LGraph.enc, List.map_cons, List.map_nil] at L h1 h3 ⊢
  cases hc : g.packs.any cant <;> rw [hc] at L <;> simp only [cond_true, cond_false] at L
  · cases hk : graphOk g <;> rw [hk] at h1
    · apply eq_call
      refine call_eq rfl Tryz.func51 rfl (by kernel_rfl) ?_
      unfold Tryz.f51
      simp (disch := ((try simp only [List.length_cons, List.length_append, List.length_nil, List.length_map]); omega)) only [↓GO, ↓DRW, GA, ren, renB, footX, refs, cellsV, cst, cstAt, nilC, idxAddr, E.load, E.store, binO, isC, bin, ibin, sbin, una, isShift, okCell, packV, lenV, blt, fnV, asArg, snapV, snapS, snapP, snapC, flatV, flatT, openK, layBack, allT, allZ, mkS, srcOf0, unN, idxV, nilEq, give, tupV, mkEnv, extV, pickV, LVS, OVS, LTS, TYS, PMS, pmT, Int.reduceToNat, Nat.reduceGT, ↓reduceIte, Nat.reduceAdd, Nat.reduceMul, Nat.reduceSub, Nat.reduceEqDiff, Nat.reduceLeDiff, Nat.reduceLT, Nat.reduceBEq, Int.reduceBEq, Int.reduceBNe, Int.reduceEq, Int.reduceLT, Int.reduceLE, Int.reduceGT, Int.reduceNeg, reduceCtorEq, Int.cast_ofNat_Int, getE_zero, getE_one, getE_two, Option.isSome_none, L, h1, rch3]
    · have h5 := h4 hk
      have h7 := h6 hk
      cases hx : decide ((tx.length : Int) > 20000)
      all_goals
        apply eq_call
        refine call_eq rfl Tryz.func51 rfl (by kernel_rfl) ?_
        unfold Tryz.f51
        simp (disch := ((try simp only [List.length_cons, List.length_append, List.length_nil, List.length_map]); omega)) only [↓GO, ↓DRW, GA, ren, renB, footX, refs, cellsV, cst, cstAt, nilC, idxAddr, E.load, E.store, binO, isC, bin, ibin, sbin, una, isShift, okCell, packV, lenV, blt, fnV, asArg, snapV, snapS, snapP, snapC, flatV, flatT, openK, layBack, allT, allZ, mkS, srcOf0, unN, idxV, nilEq, give, tupV, mkEnv, extV, pickV, LVS, OVS, LTS, TYS, PMS, pmT, Int.reduceToNat, Nat.reduceGT, ↓reduceIte, Nat.reduceAdd, Nat.reduceMul, Nat.reduceSub, Nat.reduceEqDiff, Nat.reduceLeDiff, Nat.reduceLT, Nat.reduceBEq, Int.reduceBEq, Int.reduceBNe, Int.reduceEq, Int.reduceLT, Int.reduceLE, Int.reduceGT, Int.reduceNeg, reduceCtorEq, Int.cast_ofNat_Int, getE_zero, getE_one, getE_two, Option.isSome_none, L, h1, h3, h5, h7, hx, rch3]
  · cases hk : graphOk g
    all_goals
      apply eq_call
      refine call_eq rfl Tryz.func51 rfl (by kernel_rfl) ?_
      unfold Tryz.f51
      simp (disch := ((try simp only [List.length_cons, List.length_append, List.length_nil, List.length_map]); omega)) only [↓GO, ↓DRW, GA, ren, renB, footX, refs, cellsV, cst, cstAt, nilC, idxAddr, E.load, E.store, binO, isC, bin, ibin, sbin, una, isShift, okCell, packV, lenV, blt, fnV, asArg, snapV, snapS, snapP, snapC, flatV, flatT, openK, layBack, allT, allZ, mkS, srcOf0, unN, idxV, nilEq, give, tupV, mkEnv, extV, pickV, LVS, OVS, LTS, TYS, PMS, pmT, Int.reduceToNat, Nat.reduceGT, ↓reduceIte, Nat.reduceAdd, Nat.reduceMul, Nat.reduceSub, Nat.reduceEqDiff, Nat.reduceLeDiff, Nat.reduceLT, Nat.reduceBEq, Int.reduceBEq, Int.reduceBNe, Int.reduceEq, Int.reduceLT, Int.reduceLE, Int.reduceGT, Int.reduceNeg, reduceCtorEq, Int.cast_ofNat_Int, getE_zero, getE_one, getE_two, Option.isSome_none, L, rch3]
theorem c_cfR (g : LGraph) (hB : GB g) : callPure (EV Tryz.prog pol) 53 [.agg (g.enc.map .t)] = some (.t (.bool (putCargo g).2)) := by
  have h := c_pcR g hB
  simp only [LGraph.enc, List.map_cons, List.map_nil] at h ⊢
  apply eq_call
  refine call_eq rfl Tryz.func53 rfl (by kernel_rfl) ?_
  unfold Tryz.f53
  simp (disch := ((try simp only [List.length_cons, List.length_append, List.length_nil, List.length_map]); omega)) only [↓GO, ↓DRW, GA, ren, renB, footX, refs, cellsV, cst, cstAt, nilC, idxAddr, E.load, E.store, binO, isC, bin, ibin, sbin, una, isShift, okCell, packV, lenV, blt, fnV, asArg, snapV, snapS, snapP, snapC, flatV, flatT, openK, layBack, allT, allZ, mkS, srcOf0, unN, idxV, nilEq, give, tupV, mkEnv, extV, pickV, LVS, OVS, LTS, TYS, PMS, pmT, Int.reduceToNat, Nat.reduceGT, ↓reduceIte, Nat.reduceAdd, Nat.reduceMul, Nat.reduceSub, Nat.reduceEqDiff, Nat.reduceLeDiff, Nat.reduceLT, Nat.reduceBEq, Int.reduceBEq, Int.reduceBNe, Int.reduceEq, Int.reduceLT, Int.reduceLE, Int.reduceGT, Int.reduceNeg, reduceCtorEq, Int.cast_ofNat_Int, getE_zero, getE_one, getE_two, Option.isSome_none, h]
end Go.Proofs.YtkpmachalipmpaaGreatDoor
/- The seat's own facts: the conditions on the program. Conditions: none. -/
namespace Go.Proofs.YtkpmachalipmpaaGreatDoor
open E
theorem Tryz.own : ownKnob Tryz.prog.godebug = none := by kernel_rfl
theorem Tryz.laidOut : laidOutB Tryz.prog = true := by kernel_rfl
theorem Tryz.kids : Kids Tryz.prog (· < Tryz.prog.types.size) := kids_rows (by kernel_rfl) (by kernel_rfl)
theorem Tryz.full : ∀ t e, t < Tryz.prog.types.size → Tryz.prog.underlying t = some (.slice e) → 0 < Tryz.prog.cellsOf e := slices_full_of Tryz.prog (by kernel_rfl)
end Go.Proofs.YtkpmachalipmpaaGreatDoor
/- What the laws' arguments are: Sum, Pack, Graph. Conditions: those of each lemma. -/
namespace Go.Proofs.YtkpmachalipmpaaGreatDoor
open E
set_option linter.unusedSimpArgs false
set_option linter.unusedVariables false
set_option maxRecDepth 100000

theorem WT_strs {cs : List T} (h : WT Tryz.prog 33 cs) : ∃ ks, cs = [.list 1 (strs ks)] ∧ ks.length ≤ 9223372036854775807 ∧ ∀ x ∈ ks, x.length ≤ 9223372036854775807 := by
  obtain ⟨es, e1, e2, e3⟩ := h.inv_list Tryz.underlying33
  have k0 : Tryz.prog.cellsOf 9 = 1 := by kernel_rfl
  have key : ∀ es : List (List T), (∀ c ∈ es, WT Tryz.prog 9 c) → ∃ ks, es = strs ks ∧ ∀ x ∈ ks, x.length ≤ 9223372036854775807 := fun es => by
    induction es with
    | nil => exact fun _ => ⟨[], rfl, by simp⟩
    | cons c es ih =>
      intro h
      obtain ⟨ks, a1, a2⟩ := ih fun c' hc => h c' (by simp [hc])
      obtain ⟨l, a3, a4⟩ := (h c (by simp)).inv_str Tryz.underlying9
      exact ⟨l :: ks, by simp [strs, a1, a3], by simpa using ⟨a4, a2⟩⟩
  obtain ⟨ks, a1, a2⟩ := key es e3
  subst a1
  exact ⟨ks, by rw [e1, k0], by rw [strs_len] at e2; exact e2, a2⟩
theorem WT_Sum {cs : List T} (h : WT Tryz.prog 289 cs) : ∃ x : LSum, cs = x.enc ∧ x.ok := by
  obtain ⟨hl, hs⟩ := h.inv_struct Tryz.underlying289
  have k0 : Tryz.prog.cellsOf 289 = 2 := by kernel_rfl
  have k1 : Tryz.prog.cellsOf 9 = 1 := by kernel_rfl
  rw [k0] at hl
  match cs, hl with
  | [y0, y1], _ =>
    simp [k1] at hs
    obtain ⟨s0, s1⟩ := hs
    obtain ⟨v0, e0, o0⟩ := s0.inv_str Tryz.underlying9
    obtain ⟨v1, e1, o1⟩ := s1.inv_str Tryz.underlying9
    simp at e0 e1
    subst e0 e1
    exact ⟨⟨v0, v1⟩, rfl, ⟨o0, o1⟩⟩
theorem WT_SumS {cs : List T} (h : WT Tryz.prog 202 cs) : ∃ l : List LSum, cs = [.list 2 (LSum.encs l)] ∧ l.length ≤ 9223372036854775807 ∧ ∀ y ∈ l, y.ok := by
  obtain ⟨es, e1, e2, e3⟩ := h.inv_list Tryz.underlying202
  have k0 : Tryz.prog.cellsOf 289 = 2 := by kernel_rfl
  have key : ∀ es : List (List T), (∀ c ∈ es, WT Tryz.prog 289 c) → ∃ l : List LSum, es = LSum.encs l ∧ ∀ y ∈ l, y.ok := fun es => by
    induction es with
    | nil => exact fun _ => ⟨[], rfl, by simp⟩
    | cons c es ih =>
      intro h
      obtain ⟨l, a1, a2⟩ := ih fun c' hc => h c' (by simp [hc])
      obtain ⟨x, a3, a4⟩ := WT_Sum (h c (by simp))
      exact ⟨x :: l, by simp [LSum.encs, a1, a3], by simpa using ⟨a4, a2⟩⟩
  obtain ⟨l, a1, a2⟩ := key es e3
  subst a1
  exact ⟨l, by rw [e1, k0], by rw [LSum.encs_len] at e2; exact e2, a2⟩
theorem WT_Pack {cs : List T} (h : WT Tryz.prog 204 cs) : ∃ x : LPack, cs = x.enc ∧ x.ok := by
  obtain ⟨hl, hs⟩ := h.inv_struct Tryz.underlying204
  have k0 : Tryz.prog.cellsOf 204 = 6 := by kernel_rfl
  have k1 : Tryz.prog.cellsOf 202 = 1 := by kernel_rfl
  have k2 : Tryz.prog.cellsOf 33 = 1 := by kernel_rfl
  have k3 : Tryz.prog.cellsOf 4 = 1 := by kernel_rfl
  have k4 : Tryz.prog.cellsOf 9 = 1 := by kernel_rfl
  rw [k0] at hl
  match cs, hl with
  | [y0, y1, y2, y3, y4, y5], _ =>
    simp [k1, k2, k3, k4] at hs
    obtain ⟨s0, s1, s2, s3, s4, s5⟩ := hs
    obtain ⟨v0, e0, o0⟩ := s0.inv_str Tryz.underlying9
    obtain ⟨v1, e1, o1⟩ := s1.inv_str Tryz.underlying9
    obtain ⟨v2, e2, o2⟩ := s2.inv_str Tryz.underlying9
    obtain ⟨v3, e3, o3, o3'⟩ := WT_SumS s3
    obtain ⟨v4, e4⟩ := s4.inv_bool Tryz.underlying4
    obtain ⟨v5, e5, o5, o5'⟩ := WT_strs s5
    simp at e0 e1 e2 e3 e4 e5
    subst e0 e1 e2 e3 e4 e5
    exact ⟨⟨v0, v1, v2, v3, v4, v5⟩, rfl, ⟨o0, o1, o2, o3, o3', o5, o5'⟩⟩
theorem WT_PackS {cs : List T} (h : WT Tryz.prog 57 cs) : ∃ l : List LPack, cs = [.list 6 (LPack.encs l)] ∧ l.length ≤ 9223372036854775807 ∧ ∀ y ∈ l, y.ok := by
  obtain ⟨es, e1, e2, e3⟩ := h.inv_list Tryz.underlying57
  have k0 : Tryz.prog.cellsOf 204 = 6 := by kernel_rfl
  have key : ∀ es : List (List T), (∀ c ∈ es, WT Tryz.prog 204 c) → ∃ l : List LPack, es = LPack.encs l ∧ ∀ y ∈ l, y.ok := fun es => by
    induction es with
    | nil => exact fun _ => ⟨[], rfl, by simp⟩
    | cons c es ih =>
      intro h
      obtain ⟨l, a1, a2⟩ := ih fun c' hc => h c' (by simp [hc])
      obtain ⟨x, a3, a4⟩ := WT_Pack (h c (by simp))
      exact ⟨x :: l, by simp [LPack.encs, a1, a3], by simpa using ⟨a4, a2⟩⟩
  obtain ⟨l, a1, a2⟩ := key es e3
  subst a1
  exact ⟨l, by rw [e1, k0], by rw [LPack.encs_len] at e2; exact e2, a2⟩
theorem WT_Graph {cs : List T} (h : WT Tryz.prog 59 cs) : ∃ x : LGraph, cs = x.enc ∧ x.ok := by
  obtain ⟨hl, hs⟩ := h.inv_struct Tryz.underlying59
  have k0 : Tryz.prog.cellsOf 59 = 2 := by kernel_rfl
  have k1 : Tryz.prog.cellsOf 57 = 1 := by kernel_rfl
  have k2 : Tryz.prog.cellsOf 33 = 1 := by kernel_rfl
  rw [k0] at hl
  match cs, hl with
  | [y0, y1], _ =>
    simp [k1, k2] at hs
    obtain ⟨s0, s1⟩ := hs
    obtain ⟨v0, e0, o0, o0'⟩ := WT_strs s0
    obtain ⟨v1, e1, o1, o1'⟩ := WT_PackS s1
    simp at e0 e1
    subst e0 e1
    exact ⟨⟨v0, v1⟩, rfl, ⟨o0, o0', o1, o1'⟩⟩
end Go.Proofs.YtkpmachalipmpaaGreatDoor
/- The laws of PutCargo and CargoFits. Conditions: those of each lemma. -/
namespace Go.Proofs.YtkpmachalipmpaaGreatDoor
open E
set_option linter.unusedSimpArgs false
set_option linter.unusedVariables false
set_option maxRecDepth 100000
/-- a graph handed in -/
theorem wta_graph {xs : List V} (h : WTA Tryz.prog [59] xs) : ∃ g : LGraph, xs = [.agg (g.enc.map .t)] ∧ g.ok := by
  obtain ⟨cs, v, vs, rfl, h1, h2, h3⟩ := h.inv_cons
  have := h3.inv_nil
  subst this
  obtain ⟨g, rfl, ho⟩ := WT_Graph h1
  have e : aggOf Tryz.prog 59 = true := by kernel_rfl
  rw [e] at h2
  have hv : v = .agg (g.enc.map .t) := by
    obtain ⟨top, packs⟩ := g
    simp [packV, LGraph.enc] at h2
    rw [← h2]; rfl
  subst hv
  exact ⟨g, rfl, ho⟩
theorem c_lawCargo (g : LGraph) (ho : g.ok) : EV Tryz.prog pol (.call 8 [.agg (g.enc.map .t)] []) = some (.call (.t (.bool true)) []) := by
  have hsz := c_szGraph g ho 1048576 (by omega) (by omega)
  by_cases hb : g.bulk ≤ 1048576
  · have hto := c_toGraph g hb
    have heq := c_eqGraph g hb
    have h1 := c_pcI g hb
    have h2 := c_pcR g hb
    unfold ToGraph at hto
    unfold EqGraph at heq
    rw [left_eq (by omega)] at hsz
    have c2 : decide (1048576 - (g.bulk : Int) < 0) = false := by simp; omega
    generalize g.bulk = gb at *
    generalize (putCargo g).1 = r1 at *
    generalize (putCargo g).2 = r2 at *
    simp only [LGraph.enc, List.map_cons, List.map_nil] at hsz hto heq h1 h2 ⊢
    refine call_eq rfl Tryz.func8 rfl (by kernel_rfl) ?_
    unfold Tryz.f8
    simp (disch := ((try simp only [List.length_cons, List.length_append, List.length_nil, List.length_map]); omega)) only [↓GO, ↓DRW, GA, ren, renB, footX, refs, cellsV, cst, cstAt, nilC, idxAddr, E.load, E.store, binO, isC, bin, ibin, sbin, una, isShift, okCell, packV, lenV, blt, fnV, asArg, snapV, snapS, snapP, snapC, flatV, flatT, openK, layBack, allT, allZ, mkS, srcOf0, unN, idxV, nilEq, give, tupV, mkEnv, extV, pickV, LVS, OVS, LTS, TYS, PMS, pmT, Int.reduceToNat, Nat.reduceGT, ↓reduceIte, Nat.reduceAdd, Nat.reduceMul, Nat.reduceSub, Nat.reduceEqDiff, Nat.reduceLeDiff, Nat.reduceLT, Nat.reduceBEq, Int.reduceBEq, Int.reduceBNe, Int.reduceEq, Int.reduceLT, Int.reduceLE, Int.reduceGT, Int.reduceNeg, reduceCtorEq, Int.cast_ofNat_Int, getE_zero, getE_one, getE_two, Option.isSome_none, hsz, c2, hto, heq, h1, h2, bne_self_eq_false]
  · have hle : left 1048576 g.bulk = -1 := if_pos (by omega)
    rw [hle] at hsz
    simp only [LGraph.enc, List.map_cons, List.map_nil] at hsz ⊢
    refine call_eq rfl Tryz.func8 rfl (by kernel_rfl) ?_
    unfold Tryz.f8
    simp (disch := ((try simp only [List.length_cons, List.length_append, List.length_nil, List.length_map]); omega)) only [↓GO, ↓DRW, GA, ren, renB, footX, refs, cellsV, cst, cstAt, nilC, idxAddr, E.load, E.store, binO, isC, bin, ibin, sbin, una, isShift, okCell, packV, lenV, blt, fnV, asArg, snapV, snapS, snapP, snapC, flatV, flatT, openK, layBack, allT, allZ, mkS, srcOf0, unN, idxV, nilEq, give, tupV, mkEnv, extV, pickV, LVS, OVS, LTS, TYS, PMS, pmT, Int.reduceToNat, Nat.reduceGT, ↓reduceIte, Nat.reduceAdd, Nat.reduceMul, Nat.reduceSub, Nat.reduceEqDiff, Nat.reduceLeDiff, Nat.reduceLT, Nat.reduceBEq, Int.reduceBEq, Int.reduceBNe, Int.reduceEq, Int.reduceLT, Int.reduceLE, Int.reduceGT, Int.reduceNeg, reduceCtorEq, Int.cast_ofNat_Int, getE_zero, getE_one, getE_two, Option.isSome_none, hsz]
theorem cargo_ev (xs : List V) (h : WTA Tryz.prog [59] xs) : EV Tryz.prog pol (.call 8 xs []) = some (.call (.t (.bool true)) []) := by
  obtain ⟨g, rfl, ho⟩ := wta_graph h
  exact c_lawCargo g ho
theorem c_lawFits (g : LGraph) (ho : g.ok) : EV Tryz.prog pol (.call 9 [.agg (g.enc.map .t)] []) = some (.call (.t (.bool true)) []) := by
  have hsz := c_szGraph g ho 1048576 (by omega) (by omega)
  by_cases hb : g.bulk ≤ 1048576
  · have hto := c_toGraph g hb
    have heq := c_eqGraph g hb
    have h1 := c_cfI g hb
    have h2 := c_cfR g hb
    unfold ToGraph at hto
    unfold EqGraph at heq
    rw [left_eq (by omega)] at hsz
    have c2 : decide (1048576 - (g.bulk : Int) < 0) = false := by simp; omega
    generalize g.bulk = gb at *
    generalize (putCargo g).2 = r2 at *
    simp only [LGraph.enc, List.map_cons, List.map_nil] at hsz hto heq h1 h2 ⊢
    refine call_eq rfl Tryz.func9 rfl (by kernel_rfl) ?_
    unfold Tryz.f9
    simp (disch := ((try simp only [List.length_cons, List.length_append, List.length_nil, List.length_map]); omega)) only [↓GO, ↓DRW, GA, ren, renB, footX, refs, cellsV, cst, cstAt, nilC, idxAddr, E.load, E.store, binO, isC, bin, ibin, sbin, una, isShift, okCell, packV, lenV, blt, fnV, asArg, snapV, snapS, snapP, snapC, flatV, flatT, openK, layBack, allT, allZ, mkS, srcOf0, unN, idxV, nilEq, give, tupV, mkEnv, extV, pickV, LVS, OVS, LTS, TYS, PMS, pmT, Int.reduceToNat, Nat.reduceGT, ↓reduceIte, Nat.reduceAdd, Nat.reduceMul, Nat.reduceSub, Nat.reduceEqDiff, Nat.reduceLeDiff, Nat.reduceLT, Nat.reduceBEq, Int.reduceBEq, Int.reduceBNe, Int.reduceEq, Int.reduceLT, Int.reduceLE, Int.reduceGT, Int.reduceNeg, reduceCtorEq, Int.cast_ofNat_Int, getE_zero, getE_one, getE_two, Option.isSome_none, hsz, c2, hto, heq, h1, h2, bne_self_eq_false]
  · have hle : left 1048576 g.bulk = -1 := if_pos (by omega)
    rw [hle] at hsz
    simp only [LGraph.enc, List.map_cons, List.map_nil] at hsz ⊢
    refine call_eq rfl Tryz.func9 rfl (by kernel_rfl) ?_
    unfold Tryz.f9
    simp (disch := ((try simp only [List.length_cons, List.length_append, List.length_nil, List.length_map]); omega)) only [↓GO, ↓DRW, GA, ren, renB, footX, refs, cellsV, cst, cstAt, nilC, idxAddr, E.load, E.store, binO, isC, bin, ibin, sbin, una, isShift, okCell, packV, lenV, blt, fnV, asArg, snapV, snapS, snapP, snapC, flatV, flatT, openK, layBack, allT, allZ, mkS, srcOf0, unN, idxV, nilEq, give, tupV, mkEnv, extV, pickV, LVS, OVS, LTS, TYS, PMS, pmT, Int.reduceToNat, Nat.reduceGT, ↓reduceIte, Nat.reduceAdd, Nat.reduceMul, Nat.reduceSub, Nat.reduceEqDiff, Nat.reduceLeDiff, Nat.reduceLT, Nat.reduceBEq, Int.reduceBEq, Int.reduceBNe, Int.reduceEq, Int.reduceLT, Int.reduceLE, Int.reduceGT, Int.reduceNeg, reduceCtorEq, Int.cast_ofNat_Int, getE_zero, getE_one, getE_two, Option.isSome_none, hsz]
theorem fits_ev (xs : List V) (h : WTA Tryz.prog [59] xs) : EV Tryz.prog pol (.call 9 xs []) = some (.call (.t (.bool true)) []) := by
  obtain ⟨g, rfl, ho⟩ := wta_graph h
  exact c_lawFits g ho
end Go.Proofs.YtkpmachalipmpaaGreatDoor

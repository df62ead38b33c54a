/- Joined: V3 K13 K14 K15 K16 K17. Conditions: those of each lemma. -/
import Derived.Test.YtkpmachalipmpaaGreatDoorUI
import Derived.Test.YtkpmachalipmpaaGreatDoorUG
import Derived.Test.YtkpmachalipmpaaGreatDoorUH
set_option linter.unusedVariables false
set_option linter.unusedSimpArgs false
namespace Go.Proofs.YtkpmachalipmpaaGreatDoor
open E
set_option linter.unusedVariables false
set_option linter.unusedSimpArgs false
set_option maxRecDepth 100000
def sha1S : Str := [115, 104, 97, 49]
def sha256S : Str := [115, 104, 97, 50, 53, 54]
def h1S : Str := [104, 49]
def sha512S : Str := [115, 104, 97, 53, 49, 50]
def sumLen (a : Str) : Int := cond (a == sha1S) 20 (cond (a == sha256S || a == h1S) 32 (cond (a == sha512S) 64 (-1)))
/-- is a text above the one ahead, if there is one? -/
def above (prev : Option Str) (s : Str) : Bool := match prev with
  | none => true
  | some p => Op.bytesLess p s
def sumsOk : Option Str → List LSum → Bool
  | _, [] => true
  | prev, s :: r => (((s.bytes.length : Int) == sumLen s.alg) && above prev s.alg) && sumsOk (some s.alg) r
def keyOf (p : LPack) : Str := (p.name ++ [64]) ++ p.version
def hasK (ps : List LPack) (k : Str) : Bool := ps.any fun p => keyOf p == k
def findK (ps : List LPack) (k : Str) : Option Nat := fidx (fun p => keyOf p == k) ps 0
def keysOk (ps : List LPack) : Option Str → List Str → Bool
  | _, [] => true
  | prev, k :: r => (hasK ps k && above prev k) && keysOk ps (some k) r
def packOk (p : LPack) : Bool := nameOk p.name && ((exactB p.version).isSome && (plainOk p.source && sumsOk none p.sums))
def packsOk (ps : List LPack) : Option Str → List LPack → Bool
  | _, [] => true
  | prev, p :: r => (packOk p && (above prev (keyOf p) && keysOk ps none p.needs)) && packsOk ps (some (keyOf p)) r
def graphOk (g : LGraph) : Bool := packsOk g.packs none g.packs && (decide ((g.packs.length : Int) ≤ 40) && keysOk g.packs none g.top)
theorem ixI_lt {α : Type} (p : α → Bool) (l : List α) : decide (ixI (fidx p l 0) < 0) = !(l.any p) := by
  rw [← fidx_any p l 0]
  cases fidx p l 0 with
  | none => rfl
  | some n =>
    have h : ¬ ((n : Int) < 0) := by omega
    show decide ((n : Int) < 0) = false
    exact decide_eq_false h
/-- the one ahead of a place -/
theorem prev_get {α : Type} (f : α → List T) (pre : List α) (q : α) (rest : List α) : getE ((pre ++ [q] ++ rest).map f) (((pre ++ [q]).length : Int) - 1) = some (f q) := by
  unfold getE
  rw [if_pos (by simp)]
  have e : (((pre ++ [q]).length : Int) - 1).toNat = pre.length := by simp
  rw [e]
  simp
theorem map_zip {α : Type} (f : α → List T) (pre : List α) (x : α) (rest : List α) : ((pre ++ x :: rest).map f)[pre.length]? = some (f x) := by simp
theorem key_len (p : LPack) : (keyOf p).length ≤ p.bulk + 1 := by
  unfold keyOf LPack.bulk
  simp only [List.length_append, List.length_cons, List.length_nil]; omega
theorem nil_or_snoc {α : Type} (l : List α) : l = [] ∨ ∃ p q, l = p ++ [q] := by
  rcases List.eq_nil_or_concat l with h | ⟨p, q, h⟩
  · exact .inl h
  · exact .inr ⟨p, q, by rw [h, List.concat_eq_append]⟩
end Go.Proofs.YtkpmachalipmpaaGreatDoor
/- Ranges, by the implementation. Conditions: those of each lemma. -/
namespace Go.Proofs.YtkpmachalipmpaaGreatDoor
open E
set_option linter.unusedSimpArgs false
set_option linter.unusedVariables false
set_option maxRecDepth 100000
/-- bounds as the evaluator sees them -/
def bdT (l : List Bd) : List (List T) := l.map fun b => [.str b.1, .str b.2]
theorem bdT_len (l : List Bd) : (bdT l).length = l.length := by simp [bdT]
theorem bdT_app (a b : List Bd) : bdT (a ++ b) = bdT a ++ bdT b := by simp [bdT]
def bdV (b : Bd) : V := .agg [.t (.str b.1), .t (.str b.2)]
theorem ne_isV (s : Str) : (!(s == []) && !(isV s)) = !(isE s) := by
  unfold isE
  cases (s == []) <;> cases isV s <;> rfl
theorem c_isVer (s : Str) (hl : s.length ≤ 1048700) : callPure (EV Tryz.prog pol) 246 [.t (.str s)] = some (.t (.bool (isV s))) := by
  have h := c_rvI s hl
  unfold rvT at h
  unfold isV
  generalize (readVer s).1 = v at *
  generalize (readVer s).2 = ok at *
  simp only [Ver.enc, List.map_cons, List.map_nil] at h
  apply eq_call
  refine call_eq rfl Tryz.func246 rfl (by kernel_rfl) ?_
  unfold Tryz.f246
  simp (disch := ((try simp only [List.length_cons, List.length_append, List.length_nil, List.length_map]); omega)) only [↓GO, ↓DRW, GA, ren, renB, footX, refs, cellsV, cst, cstAt, nilC, idxAddr, E.load, E.store, binO, isC, bin, ibin, sbin, una, isShift, okCell, packV, lenV, blt, fnV, asArg, snapV, snapS, snapP, snapC, flatV, flatT, openK, layBack, allT, allZ, mkS, srcOf0, unN, idxV, nilEq, give, tupV, mkEnv, extV, pickV, LVS, OVS, LTS, TYS, PMS, pmT, Int.reduceToNat, Nat.reduceGT, ↓reduceIte, Nat.reduceAdd, Nat.reduceMul, Nat.reduceSub, Nat.reduceEqDiff, Nat.reduceLeDiff, Nat.reduceLT, Nat.reduceBEq, Int.reduceBEq, Int.reduceBNe, Int.reduceEq, Int.reduceLT, Int.reduceLE, Int.reduceGT, Int.reduceNeg, reduceCtorEq, Int.cast_ofNat_Int, getE_zero, getE_one, getE_two, Option.isSome_none, h]
theorem l_rokI (l : List Bd) (hl : l.length ≤ 4194304) (hb : ∀ b ∈ l, b.1.length ≤ 1048700 ∧ b.2.length ≤ 1048700) : ∀ (rest pre : List Bd), l = pre ++ rest →
    EV Tryz.prog pol (.loop 183 26 0 [.t (.list 2 (bdT l)), .t (.list 2 (bdT l)), .t (.int .i64 (l.length : Int)), .t (.int .i64 (pre.length : Int))] []) = some (cond (rest.all fun b => isE b.1 && isE b.2) (.loop (.exit 0) [.t (.list 2 (bdT l)), .bad] []) (.loop .ret [.t (.list 2 (bdT l)), .t (.bool false)] []))
  | [], pre, hs => by
    have c : decide ((pre.length : Int) < (l.length : Int)) = false := by simp [hs]
    simp only [List.all_nil, cond_true]
    refine loop_eq Tryz.func183 rfl rfl ?_
    simp (disch := ((try simp only [List.length_cons, List.length_append, List.length_nil, List.length_map]); omega)) only [↓GO, ↓DRW, GA, ren, renB, footX, refs, cellsV, cst, cstAt, nilC, idxAddr, E.load, E.store, binO, isC, bin, ibin, sbin, una, isShift, okCell, packV, lenV, blt, fnV, asArg, snapV, snapS, snapP, snapC, flatV, flatT, openK, layBack, allT, allZ, mkS, srcOf0, unN, idxV, nilEq, give, tupV, mkEnv, extV, pickV, LVS, OVS, LTS, TYS, PMS, pmT, Int.reduceToNat, Nat.reduceGT, ↓reduceIte, Nat.reduceAdd, Nat.reduceMul, Nat.reduceSub, Nat.reduceEqDiff, Nat.reduceLeDiff, Nat.reduceLT, Nat.reduceBEq, Int.reduceBEq, Int.reduceBNe, Int.reduceEq, Int.reduceLT, Int.reduceLE, Int.reduceGT, Int.reduceNeg, reduceCtorEq, Int.cast_ofNat_Int, getE_zero, getE_one, getE_two, Option.isSome_none, c]
  | x :: rest, pre, hs => by
    have c : decide ((pre.length : Int) < (l.length : Int)) = true := by simp [hs]; omega
    have hget : (bdT l)[pre.length]? = some [.str x.1, .str x.2] := by rw [hs]; exact map_zip (fun b : Bd => [T.str b.1, T.str b.2]) pre x rest
    have hlen : pre.length + rest.length + 1 ≤ l.length := by rw [hs]; simp; omega
    have hx := hb x (by rw [hs]; simp)
    have h1 := c_isVer x.1 hx.1
    have h2 := c_isVer x.2 hx.2
    have e1 := ne_isV x.1
    have e2 := ne_isV x.2
    have IH := l_rokI l hl hb rest (pre ++ [x]) (by rw [hs]; simp)
    rw [show ((pre ++ [x]).length : Int) = (pre.length : Int) + 1 by simp] at IH
    clear hs hb
    rw [List.all_cons]
    generalize isE x.1 = a1 at *
    generalize isE x.2 = a2 at *
    generalize isV x.1 = b1 at *
    generalize isV x.2 = b2 at *
    cases h3 : (x.1 == []) <;> cases h4 : (x.2 == []) <;> cases b1 <;> cases b2 <;> rw [h3] at e1 <;> rw [h4] at e2 <;> cases a1 <;> cases a2 <;> first
      | (exfalso; revert e1; decide)
      | (exfalso; revert e2; decide)
      | (refine loop_eq Tryz.func183 rfl rfl ?_; simp (disch := ((try simp only [List.length_cons, List.length_append, List.length_nil, List.length_map]); omega)) only [↓GO, ↓DRW, GA, ren, renB, footX, refs, cellsV, cst, cstAt, nilC, idxAddr, E.load, E.store, binO, isC, bin, ibin, sbin, una, isShift, okCell, packV, lenV, blt, fnV, asArg, snapV, snapS, snapP, snapC, flatV, flatT, openK, layBack, allT, allZ, mkS, srcOf0, unN, idxV, nilEq, give, tupV, mkEnv, extV, pickV, LVS, OVS, LTS, TYS, PMS, pmT, Int.reduceToNat, Nat.reduceGT, ↓reduceIte, Nat.reduceAdd, Nat.reduceMul, Nat.reduceSub, Nat.reduceEqDiff, Nat.reduceLeDiff, Nat.reduceLT, Nat.reduceBEq, Int.reduceBEq, Int.reduceBNe, Int.reduceEq, Int.reduceLT, Int.reduceLE, Int.reduceGT, Int.reduceNeg, reduceCtorEq, Int.cast_ofNat_Int, getE_zero, getE_one, getE_two, Option.isSome_none, c, hget, h1, h2, h3, h4, bne, wrap_in, bdT_len, IH])
theorem c_rokI (l : List Bd) (hl : l.length ≤ 4194304) (hb : ∀ b ∈ l, b.1.length ≤ 1048700 ∧ b.2.length ≤ 1048700) : callPure (EV Tryz.prog pol) 183 [.t (.list 2 (bdT l))] = some (.t (.bool (rangeOk l))) := by
  have L := l_rokI l hl hb l [] rfl
  have h := c_within (l.length : Int) 1 8
  simp only [List.length_nil, Int.natCast_zero] at L
  unfold rangeOk
  generalize B2 (l.length : Int) 1 8 = b2 at *
  cases ha : (l.all fun b => isE b.1 && isE b.2) <;> rw [ha] at L <;> simp only [cond_true, cond_false] at L
  all_goals
    apply eq_call
    refine call_eq rfl Tryz.func183 rfl (by kernel_rfl) ?_
    unfold Tryz.f183
    simp (disch := ((try simp only [List.length_cons, List.length_append, List.length_nil, List.length_map]); omega)) only [↓GO, ↓DRW, GA, ren, renB, footX, refs, cellsV, cst, cstAt, nilC, idxAddr, E.load, E.store, binO, isC, bin, ibin, sbin, una, isShift, okCell, packV, lenV, blt, fnV, asArg, snapV, snapS, snapP, snapC, flatV, flatT, openK, layBack, allT, allZ, mkS, srcOf0, unN, idxV, nilEq, give, tupV, mkEnv, extV, pickV, LVS, OVS, LTS, TYS, PMS, pmT, Int.reduceToNat, Nat.reduceGT, ↓reduceIte, Nat.reduceAdd, Nat.reduceMul, Nat.reduceSub, Nat.reduceEqDiff, Nat.reduceLeDiff, Nat.reduceLT, Nat.reduceBEq, Int.reduceBEq, Int.reduceBNe, Int.reduceEq, Int.reduceLT, Int.reduceLE, Int.reduceGT, Int.reduceNeg, reduceCtorEq, Int.cast_ofNat_Int, getE_zero, getE_one, getE_two, Option.isSome_none, L, h, bdT_len]
theorem c_partial (s : Str) (hl : s.length ≤ 1048700) : callPure (EV Tryz.prog pol) 262 [.t (.str s)] = some (.tup [bdV (partialI s).1, .t (.bool (partialI s).2)]) := by
  have h1 := c_split s [46] (by omega) (by simp)
  rw [splitS_cut] at h1
  have hbk := bulk_cutS 46 s
  unfold partialI
  match hp : cutS 46 s with
  | [] => exact absurd hp (cutS_ne 46 s)
  | [a] =>
    rw [hp] at h1 hbk
    simp only [bulkS, List.length_cons, List.length_nil] at hbk
    have d1 := c_rdI a (by omega)
    have hr := readDec_rng a
    have v1 := c_vtextI ⟨readDec a, 0, 0, []⟩ (by simp [Ver.sm, bulkS])
    have v2 := c_zpI (readDec a) 1 0
    have v3 := c_zpI (readDec a + 1) 0 0
    have e0 : decide (readDec a < 0) = !decide (0 ≤ readDec a) := by
      by_cases h : readDec a < 0
      · rw [decide_eq_true h, decide_eq_false (by omega)]; rfl
      · rw [decide_eq_false h, decide_eq_true (by omega)]; rfl
    simp only
    generalize verText ⟨readDec a, 0, 0, []⟩ = t1 at *
    generalize zeroPre (readDec a) 1 0 = t2 at *
    generalize zeroPre (readDec a + 1) 0 0 = t3 at *
    generalize readDec a = ra at *
    simp only [strs_cons, strs_nil, Ver.enc, List.map_cons, List.map_nil, bdV] at h1 v1 ⊢
    cases hd : decide (0 ≤ ra) <;> rw [hd] at e0 <;> simp only [Bool.not_true, Bool.not_false] at e0
    · have L : EV Tryz.prog pol (.loop 262 250 0 [.ptr 0 0 0, .t (.list 1 [[.str a]]), .sl 1 0 2 (some 2), .t (.list 1 [[.str a]]), .t (.int .i64 1), .t (.int .i64 0)] [.vs 2 [[.t (.str []), .t (.str [])]], .ts 1 [[.int .i64 0], [.int .i64 0]]])
          = some (.loop .ret [.ptr 0 0 0, .t (.bool false), .t (.list 1 [[.str a]]), .sl 1 0 2 (some 2)] [.vs 2 [[.t (.str []), .t (.str [])]], .ts 1 [[.int .i64 ra], [.int .i64 0]]]) := by
        refine loop_eq Tryz.func262 rfl rfl ?_
        simp (disch := ((try simp only [List.length_cons, List.length_append, List.length_nil, List.length_map]); omega)) only [↓GO, ↓DRW, GA, ren, renB, footX, refs, cellsV, cst, cstAt, nilC, idxAddr, E.load, E.store, binO, isC, bin, ibin, sbin, una, isShift, okCell, packV, lenV, blt, fnV, asArg, snapV, snapS, snapP, snapC, flatV, flatT, openK, layBack, allT, allZ, mkS, srcOf0, unN, idxV, nilEq, give, tupV, mkEnv, extV, pickV, LVS, OVS, LTS, TYS, PMS, pmT, Int.reduceToNat, Nat.reduceGT, ↓reduceIte, Nat.reduceAdd, Nat.reduceMul, Nat.reduceSub, Nat.reduceEqDiff, Nat.reduceLeDiff, Nat.reduceLT, Nat.reduceBEq, Int.reduceBEq, Int.reduceBNe, Int.reduceEq, Int.reduceLT, Int.reduceLE, Int.reduceGT, Int.reduceNeg, reduceCtorEq, Int.cast_ofNat_Int, getE_zero, getE_one, getE_two, Option.isSome_none, d1, e0, wrap_in, rch3]
      apply eq_call
      refine call_eq rfl Tryz.func262 rfl (by kernel_rfl) ?_
      unfold Tryz.f262
      simp (disch := ((try simp only [List.length_cons, List.length_append, List.length_nil, List.length_map]); omega)) only [↓GO, ↓DRW, GA, ren, renB, footX, refs, cellsV, cst, cstAt, nilC, idxAddr, E.load, E.store, binO, isC, bin, ibin, sbin, una, isShift, okCell, packV, lenV, blt, fnV, asArg, snapV, snapS, snapP, snapC, flatV, flatT, openK, layBack, allT, allZ, mkS, srcOf0, unN, idxV, nilEq, give, tupV, mkEnv, extV, pickV, LVS, OVS, LTS, TYS, PMS, pmT, Int.reduceToNat, Nat.reduceGT, ↓reduceIte, Nat.reduceAdd, Nat.reduceMul, Nat.reduceSub, Nat.reduceEqDiff, Nat.reduceLeDiff, Nat.reduceLT, Nat.reduceBEq, Int.reduceBEq, Int.reduceBNe, Int.reduceEq, Int.reduceLT, Int.reduceLE, Int.reduceGT, Int.reduceNeg, reduceCtorEq, Int.cast_ofNat_Int, getE_zero, getE_one, getE_two, Option.isSome_none, h1, L, rch3]
    · have L : EV Tryz.prog pol (.loop 262 250 0 [.ptr 0 0 0, .t (.list 1 [[.str a]]), .sl 1 0 2 (some 2), .t (.list 1 [[.str a]]), .t (.int .i64 1), .t (.int .i64 0)] [.vs 2 [[.t (.str []), .t (.str [])]], .ts 1 [[.int .i64 0], [.int .i64 0]]])
          = some (.loop (.exit 0) [.ptr 0 0 0, .bad, .t (.list 1 [[.str a]]), .sl 1 0 2 (some 2)] [.vs 2 [[.t (.str []), .t (.str [])]], .ts 1 [[.int .i64 ra], [.int .i64 0]]]) := by
        refine loop_eq Tryz.func262 rfl rfl ?_
        simp (disch := ((try simp only [List.length_cons, List.length_append, List.length_nil, List.length_map]); omega)) only [↓GO, ↓DRW, GA, ren, renB, footX, refs, cellsV, cst, cstAt, nilC, idxAddr, E.load, E.store, binO, isC, bin, ibin, sbin, una, isShift, okCell, packV, lenV, blt, fnV, asArg, snapV, snapS, snapP, snapC, flatV, flatT, openK, layBack, allT, allZ, mkS, srcOf0, unN, idxV, nilEq, give, tupV, mkEnv, extV, pickV, LVS, OVS, LTS, TYS, PMS, pmT, Int.reduceToNat, Nat.reduceGT, ↓reduceIte, Nat.reduceAdd, Nat.reduceMul, Nat.reduceSub, Nat.reduceEqDiff, Nat.reduceLeDiff, Nat.reduceLT, Nat.reduceBEq, Int.reduceBEq, Int.reduceBNe, Int.reduceEq, Int.reduceLT, Int.reduceLE, Int.reduceGT, Int.reduceNeg, reduceCtorEq, Int.cast_ofNat_Int, getE_zero, getE_one, getE_two, Option.isSome_none, d1, e0, wrap_in, rch3, Int.reduceAdd]
        refine loop_eq Tryz.func262 rfl rfl ?_
        simp (disch := ((try simp only [List.length_cons, List.length_append, List.length_nil, List.length_map]); omega)) only [↓GO, ↓DRW, GA, ren, renB, footX, refs, cellsV, cst, cstAt, nilC, idxAddr, E.load, E.store, binO, isC, bin, ibin, sbin, una, isShift, okCell, packV, lenV, blt, fnV, asArg, snapV, snapS, snapP, snapC, flatV, flatT, openK, layBack, allT, allZ, mkS, srcOf0, unN, idxV, nilEq, give, tupV, mkEnv, extV, pickV, LVS, OVS, LTS, TYS, PMS, pmT, Int.reduceToNat, Nat.reduceGT, ↓reduceIte, Nat.reduceAdd, Nat.reduceMul, Nat.reduceSub, Nat.reduceEqDiff, Nat.reduceLeDiff, Nat.reduceLT, Nat.reduceBEq, Int.reduceBEq, Int.reduceBNe, Int.reduceEq, Int.reduceLT, Int.reduceLE, Int.reduceGT, Int.reduceNeg, reduceCtorEq, Int.cast_ofNat_Int, getE_zero, getE_one, getE_two, Option.isSome_none, rch3]
      apply eq_call
      refine call_eq rfl Tryz.func262 rfl (by kernel_rfl) ?_
      unfold Tryz.f262
      simp (disch := ((try simp only [List.length_cons, List.length_append, List.length_nil, List.length_map]); omega)) only [↓GO, ↓DRW, GA, ren, renB, footX, refs, cellsV, cst, cstAt, nilC, idxAddr, E.load, E.store, binO, isC, bin, ibin, sbin, una, isShift, okCell, packV, lenV, blt, fnV, asArg, snapV, snapS, snapP, snapC, flatV, flatT, openK, layBack, allT, allZ, mkS, srcOf0, unN, idxV, nilEq, give, tupV, mkEnv, extV, pickV, LVS, OVS, LTS, TYS, PMS, pmT, Int.reduceToNat, Nat.reduceGT, ↓reduceIte, Nat.reduceAdd, Nat.reduceMul, Nat.reduceSub, Nat.reduceEqDiff, Nat.reduceLeDiff, Nat.reduceLT, Nat.reduceBEq, Int.reduceBEq, Int.reduceBNe, Int.reduceEq, Int.reduceLT, Int.reduceLE, Int.reduceGT, Int.reduceNeg, reduceCtorEq, Int.cast_ofNat_Int, getE_zero, getE_one, getE_two, Option.isSome_none, h1, L, v1, v2, v3, wrap_in, Int.reduceAdd, strs_nil, rch3]
      refine dyn_pos (by kernel_rfl) ?_
      simp (disch := ((try simp only [List.length_cons, List.length_append, List.length_nil, List.length_map]); omega)) only [↓GO, ↓DRW, GA, ren, renB, footX, refs, cellsV, cst, cstAt, nilC, idxAddr, E.load, E.store, binO, isC, bin, ibin, sbin, una, isShift, okCell, packV, lenV, blt, fnV, asArg, snapV, snapS, snapP, snapC, flatV, flatT, openK, layBack, allT, allZ, mkS, srcOf0, unN, idxV, nilEq, give, tupV, mkEnv, extV, pickV, LVS, OVS, LTS, TYS, PMS, pmT, Int.reduceToNat, Nat.reduceGT, ↓reduceIte, Nat.reduceAdd, Nat.reduceMul, Nat.reduceSub, Nat.reduceEqDiff, Nat.reduceLeDiff, Nat.reduceLT, Nat.reduceBEq, Int.reduceBEq, Int.reduceBNe, Int.reduceEq, Int.reduceLT, Int.reduceLE, Int.reduceGT, Int.reduceNeg, reduceCtorEq, Int.cast_ofNat_Int, getE_zero, getE_one, getE_two, Option.isSome_none, h1, L, v1, v2, v3, wrap_in, Int.reduceAdd, strs_nil, rch3]
  | [a, b] =>
    rw [hp] at h1 hbk
    simp only [bulkS, List.length_cons, List.length_nil] at hbk
    have d1 := c_rdI a (by omega)
    have d2 := c_rdI b (by omega)
    have hr := readDec_rng a
    have hr2 := readDec_rng b
    have v1 := c_vtextI ⟨readDec a, readDec b, 0, []⟩ (by simp [Ver.sm, bulkS])
    have v2 := c_zpI (readDec a) (readDec b + 1) 0
    have e0 : decide (readDec a < 0) = !decide (0 ≤ readDec a) := by
      by_cases h : readDec a < 0
      · rw [decide_eq_true h, decide_eq_false (by omega)]; rfl
      · rw [decide_eq_false h, decide_eq_true (by omega)]; rfl
    have e1 : decide (readDec b < 0) = !decide (0 ≤ readDec b) := by
      by_cases h : readDec b < 0
      · rw [decide_eq_true h, decide_eq_false (by omega)]; rfl
      · rw [decide_eq_false h, decide_eq_true (by omega)]; rfl
    simp only
    generalize verText ⟨readDec a, readDec b, 0, []⟩ = t1 at *
    generalize zeroPre (readDec a) (readDec b + 1) 0 = t2 at *
    generalize readDec a = ra at *
    generalize readDec b = rb at *
    simp only [strs_cons, strs_nil, Ver.enc, List.map_cons, List.map_nil, bdV] at h1 v1 ⊢
    cases hd : decide (0 ≤ ra) <;> rw [hd] at e0 <;> simp only [Bool.not_true, Bool.not_false] at e0
    · have L : EV Tryz.prog pol (.loop 262 250 0 [.ptr 0 0 0, .t (.list 1 [[.str a], [.str b]]), .sl 1 0 2 (some 2), .t (.list 1 [[.str a], [.str b]]), .t (.int .i64 2), .t (.int .i64 0)] [.vs 2 [[.t (.str []), .t (.str [])]], .ts 1 [[.int .i64 0], [.int .i64 0]]])
          = some (.loop .ret [.ptr 0 0 0, .t (.bool false), .t (.list 1 [[.str a], [.str b]]), .sl 1 0 2 (some 2)] [.vs 2 [[.t (.str []), .t (.str [])]], .ts 1 [[.int .i64 ra], [.int .i64 0]]]) := by
        refine loop_eq Tryz.func262 rfl rfl ?_
        simp (disch := ((try simp only [List.length_cons, List.length_append, List.length_nil, List.length_map]); omega)) only [↓GO, ↓DRW, GA, ren, renB, footX, refs, cellsV, cst, cstAt, nilC, idxAddr, E.load, E.store, binO, isC, bin, ibin, sbin, una, isShift, okCell, packV, lenV, blt, fnV, asArg, snapV, snapS, snapP, snapC, flatV, flatT, openK, layBack, allT, allZ, mkS, srcOf0, unN, idxV, nilEq, give, tupV, mkEnv, extV, pickV, LVS, OVS, LTS, TYS, PMS, pmT, Int.reduceToNat, Nat.reduceGT, ↓reduceIte, Nat.reduceAdd, Nat.reduceMul, Nat.reduceSub, Nat.reduceEqDiff, Nat.reduceLeDiff, Nat.reduceLT, Nat.reduceBEq, Int.reduceBEq, Int.reduceBNe, Int.reduceEq, Int.reduceLT, Int.reduceLE, Int.reduceGT, Int.reduceNeg, reduceCtorEq, Int.cast_ofNat_Int, getE_zero, getE_one, getE_two, Option.isSome_none, d1, e0, wrap_in, rch3]
      apply eq_call
      refine call_eq rfl Tryz.func262 rfl (by kernel_rfl) ?_
      unfold Tryz.f262
      simp (disch := ((try simp only [List.length_cons, List.length_append, List.length_nil, List.length_map]); omega)) only [↓GO, ↓DRW, GA, ren, renB, footX, refs, cellsV, cst, cstAt, nilC, idxAddr, E.load, E.store, binO, isC, bin, ibin, sbin, una, isShift, okCell, packV, lenV, blt, fnV, asArg, snapV, snapS, snapP, snapC, flatV, flatT, openK, layBack, allT, allZ, mkS, srcOf0, unN, idxV, nilEq, give, tupV, mkEnv, extV, pickV, LVS, OVS, LTS, TYS, PMS, pmT, Int.reduceToNat, Nat.reduceGT, ↓reduceIte, Nat.reduceAdd, Nat.reduceMul, Nat.reduceSub, Nat.reduceEqDiff, Nat.reduceLeDiff, Nat.reduceLT, Nat.reduceBEq, Int.reduceBEq, Int.reduceBNe, Int.reduceEq, Int.reduceLT, Int.reduceLE, Int.reduceGT, Int.reduceNeg, reduceCtorEq, Int.cast_ofNat_Int, getE_zero, getE_one, getE_two, Option.isSome_none, h1, L, rch3]
    · cases he : decide (0 ≤ rb) <;> rw [he] at e1 <;> simp only [Bool.not_true, Bool.not_false] at e1
      · have L : EV Tryz.prog pol (.loop 262 250 0 [.ptr 0 0 0, .t (.list 1 [[.str a], [.str b]]), .sl 1 0 2 (some 2), .t (.list 1 [[.str a], [.str b]]), .t (.int .i64 2), .t (.int .i64 0)] [.vs 2 [[.t (.str []), .t (.str [])]], .ts 1 [[.int .i64 0], [.int .i64 0]]])
            = some (.loop .ret [.ptr 0 0 0, .t (.bool false), .t (.list 1 [[.str a], [.str b]]), .sl 1 0 2 (some 2)] [.vs 2 [[.t (.str []), .t (.str [])]], .ts 1 [[.int .i64 ra], [.int .i64 rb]]]) := by
          refine loop_eq Tryz.func262 rfl rfl ?_
          simp (disch := ((try simp only [List.length_cons, List.length_append, List.length_nil, List.length_map]); omega)) only [↓GO, ↓DRW, GA, ren, renB, footX, refs, cellsV, cst, cstAt, nilC, idxAddr, E.load, E.store, binO, isC, bin, ibin, sbin, una, isShift, okCell, packV, lenV, blt, fnV, asArg, snapV, snapS, snapP, snapC, flatV, flatT, openK, layBack, allT, allZ, mkS, srcOf0, unN, idxV, nilEq, give, tupV, mkEnv, extV, pickV, LVS, OVS, LTS, TYS, PMS, pmT, Int.reduceToNat, Nat.reduceGT, ↓reduceIte, Nat.reduceAdd, Nat.reduceMul, Nat.reduceSub, Nat.reduceEqDiff, Nat.reduceLeDiff, Nat.reduceLT, Nat.reduceBEq, Int.reduceBEq, Int.reduceBNe, Int.reduceEq, Int.reduceLT, Int.reduceLE, Int.reduceGT, Int.reduceNeg, reduceCtorEq, Int.cast_ofNat_Int, getE_zero, getE_one, getE_two, Option.isSome_none, d1, e0, wrap_in, rch3, Int.reduceAdd]
          refine loop_eq Tryz.func262 rfl rfl ?_
          simp (disch := ((try simp only [List.length_cons, List.length_append, List.length_nil, List.length_map]); omega)) only [↓GO, ↓DRW, GA, ren, renB, footX, refs, cellsV, cst, cstAt, nilC, idxAddr, E.load, E.store, binO, isC, bin, ibin, sbin, una, isShift, okCell, packV, lenV, blt, fnV, asArg, snapV, snapS, snapP, snapC, flatV, flatT, openK, layBack, allT, allZ, mkS, srcOf0, unN, idxV, nilEq, give, tupV, mkEnv, extV, pickV, LVS, OVS, LTS, TYS, PMS, pmT, Int.reduceToNat, Nat.reduceGT, ↓reduceIte, Nat.reduceAdd, Nat.reduceMul, Nat.reduceSub, Nat.reduceEqDiff, Nat.reduceLeDiff, Nat.reduceLT, Nat.reduceBEq, Int.reduceBEq, Int.reduceBNe, Int.reduceEq, Int.reduceLT, Int.reduceLE, Int.reduceGT, Int.reduceNeg, reduceCtorEq, Int.cast_ofNat_Int, getE_zero, getE_one, getE_two, Option.isSome_none, d2, e1, wrap_in, rch3]
        apply eq_call
        refine call_eq rfl Tryz.func262 rfl (by kernel_rfl) ?_
        unfold Tryz.f262
        simp (disch := ((try simp only [List.length_cons, List.length_append, List.length_nil, List.length_map]); omega)) only [↓GO, ↓DRW, GA, ren, renB, footX, refs, cellsV, cst, cstAt, nilC, idxAddr, E.load, E.store, binO, isC, bin, ibin, sbin, una, isShift, okCell, packV, lenV, blt, fnV, asArg, snapV, snapS, snapP, snapC, flatV, flatT, openK, layBack, allT, allZ, mkS, srcOf0, unN, idxV, nilEq, give, tupV, mkEnv, extV, pickV, LVS, OVS, LTS, TYS, PMS, pmT, Int.reduceToNat, Nat.reduceGT, ↓reduceIte, Nat.reduceAdd, Nat.reduceMul, Nat.reduceSub, Nat.reduceEqDiff, Nat.reduceLeDiff, Nat.reduceLT, Nat.reduceBEq, Int.reduceBEq, Int.reduceBNe, Int.reduceEq, Int.reduceLT, Int.reduceLE, Int.reduceGT, Int.reduceNeg, reduceCtorEq, Int.cast_ofNat_Int, getE_zero, getE_one, getE_two, Option.isSome_none, h1, L, rch3]
      · have L : EV Tryz.prog pol (.loop 262 250 0 [.ptr 0 0 0, .t (.list 1 [[.str a], [.str b]]), .sl 1 0 2 (some 2), .t (.list 1 [[.str a], [.str b]]), .t (.int .i64 2), .t (.int .i64 0)] [.vs 2 [[.t (.str []), .t (.str [])]], .ts 1 [[.int .i64 0], [.int .i64 0]]])
            = some (.loop (.exit 0) [.ptr 0 0 0, .bad, .t (.list 1 [[.str a], [.str b]]), .sl 1 0 2 (some 2)] [.vs 2 [[.t (.str []), .t (.str [])]], .ts 1 [[.int .i64 ra], [.int .i64 rb]]]) := by
          refine loop_eq Tryz.func262 rfl rfl ?_
          simp (disch := ((try simp only [List.length_cons, List.length_append, List.length_nil, List.length_map]); omega)) only [↓GO, ↓DRW, GA, ren, renB, footX, refs, cellsV, cst, cstAt, nilC, idxAddr, E.load, E.store, binO, isC, bin, ibin, sbin, una, isShift, okCell, packV, lenV, blt, fnV, asArg, snapV, snapS, snapP, snapC, flatV, flatT, openK, layBack, allT, allZ, mkS, srcOf0, unN, idxV, nilEq, give, tupV, mkEnv, extV, pickV, LVS, OVS, LTS, TYS, PMS, pmT, Int.reduceToNat, Nat.reduceGT, ↓reduceIte, Nat.reduceAdd, Nat.reduceMul, Nat.reduceSub, Nat.reduceEqDiff, Nat.reduceLeDiff, Nat.reduceLT, Nat.reduceBEq, Int.reduceBEq, Int.reduceBNe, Int.reduceEq, Int.reduceLT, Int.reduceLE, Int.reduceGT, Int.reduceNeg, reduceCtorEq, Int.cast_ofNat_Int, getE_zero, getE_one, getE_two, Option.isSome_none, d1, e0, wrap_in, rch3, Int.reduceAdd]
          refine loop_eq Tryz.func262 rfl rfl ?_
          simp (disch := ((try simp only [List.length_cons, List.length_append, List.length_nil, List.length_map]); omega)) only [↓GO, ↓DRW, GA, ren, renB, footX, refs, cellsV, cst, cstAt, nilC, idxAddr, E.load, E.store, binO, isC, bin, ibin, sbin, una, isShift, okCell, packV, lenV, blt, fnV, asArg, snapV, snapS, snapP, snapC, flatV, flatT, openK, layBack, allT, allZ, mkS, srcOf0, unN, idxV, nilEq, give, tupV, mkEnv, extV, pickV, LVS, OVS, LTS, TYS, PMS, pmT, Int.reduceToNat, Nat.reduceGT, ↓reduceIte, Nat.reduceAdd, Nat.reduceMul, Nat.reduceSub, Nat.reduceEqDiff, Nat.reduceLeDiff, Nat.reduceLT, Nat.reduceBEq, Int.reduceBEq, Int.reduceBNe, Int.reduceEq, Int.reduceLT, Int.reduceLE, Int.reduceGT, Int.reduceNeg, reduceCtorEq, Int.cast_ofNat_Int, getE_zero, getE_one, getE_two, Option.isSome_none, d2, e1, wrap_in, rch3, Int.reduceAdd]
          refine loop_eq Tryz.func262 rfl rfl ?_
          simp (disch := ((try simp only [List.length_cons, List.length_append, List.length_nil, List.length_map]); omega)) only [↓GO, ↓DRW, GA, ren, renB, footX, refs, cellsV, cst, cstAt, nilC, idxAddr, E.load, E.store, binO, isC, bin, ibin, sbin, una, isShift, okCell, packV, lenV, blt, fnV, asArg, snapV, snapS, snapP, snapC, flatV, flatT, openK, layBack, allT, allZ, mkS, srcOf0, unN, idxV, nilEq, give, tupV, mkEnv, extV, pickV, LVS, OVS, LTS, TYS, PMS, pmT, Int.reduceToNat, Nat.reduceGT, ↓reduceIte, Nat.reduceAdd, Nat.reduceMul, Nat.reduceSub, Nat.reduceEqDiff, Nat.reduceLeDiff, Nat.reduceLT, Nat.reduceBEq, Int.reduceBEq, Int.reduceBNe, Int.reduceEq, Int.reduceLT, Int.reduceLE, Int.reduceGT, Int.reduceNeg, reduceCtorEq, Int.cast_ofNat_Int, getE_zero, getE_one, getE_two, Option.isSome_none, rch3]
        apply eq_call
        refine call_eq rfl Tryz.func262 rfl (by kernel_rfl) ?_
        unfold Tryz.f262
        simp (disch := ((try simp only [List.length_cons, List.length_append, List.length_nil, List.length_map]); omega)) only [↓GO, ↓DRW, GA, ren, renB, footX, refs, cellsV, cst, cstAt, nilC, idxAddr, E.load, E.store, binO, isC, bin, ibin, sbin, una, isShift, okCell, packV, lenV, blt, fnV, asArg, snapV, snapS, snapP, snapC, flatV, flatT, openK, layBack, allT, allZ, mkS, srcOf0, unN, idxV, nilEq, give, tupV, mkEnv, extV, pickV, LVS, OVS, LTS, TYS, PMS, pmT, Int.reduceToNat, Nat.reduceGT, ↓reduceIte, Nat.reduceAdd, Nat.reduceMul, Nat.reduceSub, Nat.reduceEqDiff, Nat.reduceLeDiff, Nat.reduceLT, Nat.reduceBEq, Int.reduceBEq, Int.reduceBNe, Int.reduceEq, Int.reduceLT, Int.reduceLE, Int.reduceGT, Int.reduceNeg, reduceCtorEq, Int.cast_ofNat_Int, getE_zero, getE_one, getE_two, Option.isSome_none, h1, L, v1, v2, wrap_in, strs_nil, rch3]
        refine dyn_pos (by kernel_rfl) ?_
        simp (disch := ((try simp only [List.length_cons, List.length_append, List.length_nil, List.length_map]); omega)) only [↓GO, ↓DRW, GA, ren, renB, footX, refs, cellsV, cst, cstAt, nilC, idxAddr, E.load, E.store, binO, isC, bin, ibin, sbin, una, isShift, okCell, packV, lenV, blt, fnV, asArg, snapV, snapS, snapP, snapC, flatV, flatT, openK, layBack, allT, allZ, mkS, srcOf0, unN, idxV, nilEq, give, tupV, mkEnv, extV, pickV, LVS, OVS, LTS, TYS, PMS, pmT, Int.reduceToNat, Nat.reduceGT, ↓reduceIte, Nat.reduceAdd, Nat.reduceMul, Nat.reduceSub, Nat.reduceEqDiff, Nat.reduceLeDiff, Nat.reduceLT, Nat.reduceBEq, Int.reduceBEq, Int.reduceBNe, Int.reduceEq, Int.reduceLT, Int.reduceLE, Int.reduceGT, Int.reduceNeg, reduceCtorEq, Int.cast_ofNat_Int, getE_zero, getE_one, getE_two, Option.isSome_none, h1, L, v1, v2, wrap_in, strs_nil, rch3]
  | a :: b :: c :: r =>
    rw [hp] at h1
    have hc : decide (((a :: b :: c :: r).length : Int) > 2) = true := by apply decide_eq_true; simp only [List.length_cons]; omega
    simp only [bdV]
    generalize a :: b :: c :: r = ps at *
    apply eq_call
    refine call_eq rfl Tryz.func262 rfl (by kernel_rfl) ?_
    unfold Tryz.f262
    simp (disch := ((try simp only [List.length_cons, List.length_append, List.length_nil, List.length_map]); omega)) only [↓GO, ↓DRW, GA, ren, renB, footX, refs, cellsV, cst, cstAt, nilC, idxAddr, E.load, E.store, binO, isC, bin, ibin, sbin, una, isShift, okCell, packV, lenV, blt, fnV, asArg, snapV, snapS, snapP, snapC, flatV, flatT, openK, layBack, allT, allZ, mkS, srcOf0, unN, idxV, nilEq, give, tupV, mkEnv, extV, pickV, LVS, OVS, LTS, TYS, PMS, pmT, Int.reduceToNat, Nat.reduceGT, ↓reduceIte, Nat.reduceAdd, Nat.reduceMul, Nat.reduceSub, Nat.reduceEqDiff, Nat.reduceLeDiff, Nat.reduceLT, Nat.reduceBEq, Int.reduceBEq, Int.reduceBNe, Int.reduceEq, Int.reduceLT, Int.reduceLE, Int.reduceGT, Int.reduceNeg, reduceCtorEq, Int.cast_ofNat_Int, getE_zero, getE_one, getE_two, Option.isSome_none, h1, hc, strs_len, rch3]
theorem c_cutPreL (s p : Str) (hs : s.length ≤ 9223372036854775807) (hp : p.length ≤ 9223372036854775807) : callPure (EV Tryz.prog pol) 318 [.t (.str s), .t (.str p)] = some (.tup [.t (.str (cond (p.isPrefixOf s) (s.drop p.length) s)), .t (.bool (p.isPrefixOf s))]) := by
  have h := c_hasPreL s p hs hp
  cases hb : p.isPrefixOf s with
  | false =>
    rw [hb] at h
    apply eq_call
    refine call_eq rfl Tryz.func318 rfl (by kernel_rfl) ?_
    unfold Tryz.f318
    simp (disch := ((try simp only [List.length_cons, List.length_append, List.length_nil, List.length_map]); omega)) only [↓GO, ↓DRW, GA, ren, renB, footX, refs, cellsV, cst, cstAt, nilC, idxAddr, E.load, E.store, binO, isC, bin, ibin, sbin, una, isShift, okCell, packV, lenV, blt, fnV, asArg, snapV, snapS, snapP, snapC, flatV, flatT, openK, layBack, allT, allZ, mkS, srcOf0, unN, idxV, nilEq, give, tupV, mkEnv, extV, pickV, LVS, OVS, LTS, TYS, PMS, pmT, Int.reduceToNat, Nat.reduceGT, ↓reduceIte, Nat.reduceAdd, Nat.reduceMul, Nat.reduceSub, Nat.reduceEqDiff, Nat.reduceLeDiff, Nat.reduceLT, Nat.reduceBEq, Int.reduceBEq, Int.reduceBNe, Int.reduceEq, Int.reduceLT, Int.reduceLE, Int.reduceGT, Int.reduceNeg, reduceCtorEq, Int.cast_ofNat_Int, getE_zero, getE_one, getE_two, Option.isSome_none, h]
  | true =>
    have h2 := pref_len hb
    rw [hb] at h
    apply eq_call
    refine call_eq rfl Tryz.func318 rfl (by kernel_rfl) ?_
    unfold Tryz.f318
    simp (disch := ((try simp only [List.length_cons, List.length_append, List.length_nil, List.length_map]); omega)) only [↓GO, ↓DRW, GA, ren, renB, footX, refs, cellsV, cst, cstAt, nilC, idxAddr, E.load, E.store, binO, isC, bin, ibin, sbin, una, isShift, okCell, packV, lenV, blt, fnV, asArg, snapV, snapS, snapP, snapC, flatV, flatT, openK, layBack, allT, allZ, mkS, srcOf0, unN, idxV, nilEq, give, tupV, mkEnv, extV, pickV, LVS, OVS, LTS, TYS, PMS, pmT, Int.reduceToNat, Nat.reduceGT, ↓reduceIte, Nat.reduceAdd, Nat.reduceMul, Nat.reduceSub, Nat.reduceEqDiff, Nat.reduceLeDiff, Nat.reduceLT, Nat.reduceBEq, Int.reduceBEq, Int.reduceBNe, Int.reduceEq, Int.reduceLT, Int.reduceLE, Int.reduceGT, Int.reduceNeg, reduceCtorEq, Int.cast_ofNat_Int, getE_zero, getE_one, getE_two, Option.isSome_none, h]
theorem c_cutPre (s p : Str) (hs : s.length ≤ 9223372036854775807) (hp : p.length ≤ 9223372036854775807) : callPure (EV Tryz.prog pol) 260 [.t (.str s), .t (.str p)] = some (.tup [.t (.str (cond (p.isPrefixOf s) (s.drop p.length) s)), .t (.bool (p.isPrefixOf s))]) := by
  have h := c_cutPreL s p hs hp
  apply eq_call
  refine call_eq rfl Tryz.func260 rfl (by kernel_rfl) ?_
  unfold Tryz.f260
  simp (disch := ((try simp only [List.length_cons, List.length_append, List.length_nil, List.length_map]); omega)) only [↓GO, ↓DRW, GA, ren, renB, footX, refs, cellsV, cst, cstAt, nilC, idxAddr, E.load, E.store, binO, isC, bin, ibin, sbin, una, isShift, okCell, packV, lenV, blt, fnV, asArg, snapV, snapS, snapP, snapC, flatV, flatT, openK, layBack, allT, allZ, mkS, srcOf0, unN, idxV, nilEq, give, tupV, mkEnv, extV, pickV, LVS, OVS, LTS, TYS, PMS, pmT, Int.reduceToNat, Nat.reduceGT, ↓reduceIte, Nat.reduceAdd, Nat.reduceMul, Nat.reduceSub, Nat.reduceEqDiff, Nat.reduceLeDiff, Nat.reduceLT, Nat.reduceBEq, Int.reduceBEq, Int.reduceBNe, Int.reduceEq, Int.reduceLT, Int.reduceLE, Int.reduceGT, Int.reduceNeg, reduceCtorEq, Int.cast_ofNat_Int, getE_zero, getE_one, getE_two, Option.isSome_none, h]
theorem cut2_len (s : Str) : (cut2 s).1.length ≤ s.length ∧ (cut2 s).2.1.length ≤ s.length := by
  have h := congrArg List.length (cut2_eq s)
  rw [List.length_append] at h
  cases hc : (cut2 s).2.2 with
  | true => rw [hc] at h; simp only [cond_true, List.length_cons] at h; omega
  | false =>
    have : (cut2 s).2.1 = [] := by
      have key : ∀ s : Str, (cut2 s).2.2 = false → (cut2 s).2.1 = [] := fun s => by
        induction s with
        | nil => intro _; rfl
        | cons x r ih =>
          intro h
          rw [cut2] at h ⊢
          split at h
          · cases h
          · rename_i hx; rw [if_neg hx]; exact ih h
      exact key s hc
    rw [this]; rw [hc] at h; simp only [cond_false, List.length_nil] at h ⊢; omega
theorem c_boundI (s : Str) (hl : s.length ≤ 1048600) : callPure (EV Tryz.prog pol) 182 [.t (.str s)] = some (.tup [bdV (boundI s).1, .t (.bool (boundI s).2)]) := by
  unfold boundI
  cases h42 : (s == [42]) with
  | true =>
    simp only [cond_true, bdV]
    apply eq_call
    refine call_eq rfl Tryz.func182 rfl (by kernel_rfl) ?_
    unfold Tryz.f182
    simp (disch := ((try simp only [List.length_cons, List.length_append, List.length_nil, List.length_map]); omega)) only [↓GO, ↓DRW, GA, ren, renB, footX, refs, cellsV, cst, cstAt, nilC, idxAddr, E.load, E.store, binO, isC, bin, ibin, sbin, una, isShift, okCell, packV, lenV, blt, fnV, asArg, snapV, snapS, snapP, snapC, flatV, flatT, openK, layBack, allT, allZ, mkS, srcOf0, unN, idxV, nilEq, give, tupV, mkEnv, extV, pickV, LVS, OVS, LTS, TYS, PMS, pmT, Int.reduceToNat, Nat.reduceGT, ↓reduceIte, Nat.reduceAdd, Nat.reduceMul, Nat.reduceSub, Nat.reduceEqDiff, Nat.reduceLeDiff, Nat.reduceLT, Nat.reduceBEq, Int.reduceBEq, Int.reduceBNe, Int.reduceEq, Int.reduceLT, Int.reduceLE, Int.reduceGT, Int.reduceNeg, reduceCtorEq, Int.cast_ofNat_Int, getE_zero, getE_one, getE_two, Option.isSome_none, h42]
  | false =>
    have hrv := c_rvI s (by omega)
    obtain ⟨m1, m2, m3, m4, m5, m6, m7⟩ := readVer_sm s (by omega)
    have hpr := readVer_pre s (by omega)
    unfold rvT at hrv
    have hisv : (readVer s).2 = isV s := rfl
    rw [hisv] at hrv
    simp only [cond_false]
    cases hv : isV s with
    | true =>
      have hal := c_alone (readVer s).1 m1 (by omega) m7 m6
      rw [(readVer_true (s := s) hv).2.1] at hal
      rw [hv] at hrv
      simp only [cond_true, bdV]
      generalize highV (readVer s).1 = hi at *
      generalize (readVer s).1 = v at *
      simp only [Ver.enc, List.map_cons, List.map_nil] at hrv hal ⊢
      apply eq_call
      refine call_eq rfl Tryz.func182 rfl (by kernel_rfl) ?_
      unfold Tryz.f182
      simp (disch := ((try simp only [List.length_cons, List.length_append, List.length_nil, List.length_map]); omega)) only [↓GO, ↓DRW, GA, ren, renB, footX, refs, cellsV, cst, cstAt, nilC, idxAddr, E.load, E.store, binO, isC, bin, ibin, sbin, una, isShift, okCell, packV, lenV, blt, fnV, asArg, snapV, snapS, snapP, snapC, flatV, flatT, openK, layBack, allT, allZ, mkS, srcOf0, unN, idxV, nilEq, give, tupV, mkEnv, extV, pickV, LVS, OVS, LTS, TYS, PMS, pmT, Int.reduceToNat, Nat.reduceGT, ↓reduceIte, Nat.reduceAdd, Nat.reduceMul, Nat.reduceSub, Nat.reduceEqDiff, Nat.reduceLeDiff, Nat.reduceLT, Nat.reduceBEq, Int.reduceBEq, Int.reduceBNe, Int.reduceEq, Int.reduceLT, Int.reduceLE, Int.reduceGT, Int.reduceNeg, reduceCtorEq, Int.cast_ofNat_Int, getE_zero, getE_one, getE_two, Option.isSome_none, h42, hrv, hal]
    | false =>
      have hc1 := c_cutPre s [62, 61] (by omega) (by simp)
      have hc2 := c_cutPre s [60] (by omega) (by simp)
      have hc3 := c_cut (s.drop 2) [32, 60] (by rw [List.length_drop]; omega)
      have hcl := cut2_len (s.drop 2)
      rw [List.length_drop] at hcl
      have hi1 := c_isVer (cut2 (s.drop 2)).1 (by omega)
      have hi2 := c_isVer (cut2 (s.drop 2)).2.1 (by omega)
      rw [cut_cut2] at hc3
      have hi3 := c_isVer (s.drop 1) (by rw [List.length_drop]; omega)
      have hpt := c_partial s (by omega)
      rw [hv] at hrv
      rw [show (([62, 61] : Str).isPrefixOf s) = geP s from rfl, show (([62, 61] : Str).length) = 2 from rfl] at hc1
      rw [show (([60] : Str).isPrefixOf s) = ltP s from rfl, show (([60] : Str).length) = 1 from rfl] at hc2
      generalize (readVer s).1 = v at *
      simp only [Ver.enc, List.map_cons, List.map_nil] at hrv
      simp only [cond_false]
      cases hg : geP s with
      | true =>
        rw [hg] at hc1
        simp only [cond_true] at hc1 ⊢
        generalize isV (cut2 (s.drop 2)).1 = b1 at *
        generalize isV (cut2 (s.drop 2)).2.1 = b2 at *
        generalize (cut2 (s.drop 2)).1 = c1 at *
        generalize (cut2 (s.drop 2)).2.1 = c2 at *
        generalize (cut2 (s.drop 2)).2.2 = b3 at *
        simp only [bdV]
        cases b1 <;> cases b3 <;> cases b2
        all_goals
          apply eq_call
          refine call_eq rfl Tryz.func182 rfl (by kernel_rfl) ?_
          unfold Tryz.f182
          simp (disch := ((try simp only [List.length_cons, List.length_append, List.length_nil, List.length_map]); omega)) only [↓GO, ↓DRW, GA, ren, renB, footX, refs, cellsV, cst, cstAt, nilC, idxAddr, E.load, E.store, binO, isC, bin, ibin, sbin, una, isShift, okCell, packV, lenV, blt, fnV, asArg, snapV, snapS, snapP, snapC, flatV, flatT, openK, layBack, allT, allZ, mkS, srcOf0, unN, idxV, nilEq, give, tupV, mkEnv, extV, pickV, LVS, OVS, LTS, TYS, PMS, pmT, Int.reduceToNat, Nat.reduceGT, ↓reduceIte, Nat.reduceAdd, Nat.reduceMul, Nat.reduceSub, Nat.reduceEqDiff, Nat.reduceLeDiff, Nat.reduceLT, Nat.reduceBEq, Int.reduceBEq, Int.reduceBNe, Int.reduceEq, Int.reduceLT, Int.reduceLE, Int.reduceGT, Int.reduceNeg, reduceCtorEq, Int.cast_ofNat_Int, getE_zero, getE_one, getE_two, Option.isSome_none, h42, hrv, hc1, hc3, hi1, hi2]
      | false =>
        rw [hg] at hc1
        simp only [cond_false] at hc1 ⊢
        cases hlp : ltP s with
        | true =>
          rw [hlp] at hc2
          simp only [cond_true] at hc2 ⊢
          generalize isV (s.drop 1) = b1 at *
          simp only [bdV]
          apply eq_call
          refine call_eq rfl Tryz.func182 rfl (by kernel_rfl) ?_
          unfold Tryz.f182
          simp (disch := ((try simp only [List.length_cons, List.length_append, List.length_nil, List.length_map]); omega)) only [↓GO, ↓DRW, GA, ren, renB, footX, refs, cellsV, cst, cstAt, nilC, idxAddr, E.load, E.store, binO, isC, bin, ibin, sbin, una, isShift, okCell, packV, lenV, blt, fnV, asArg, snapV, snapS, snapP, snapC, flatV, flatT, openK, layBack, allT, allZ, mkS, srcOf0, unN, idxV, nilEq, give, tupV, mkEnv, extV, pickV, LVS, OVS, LTS, TYS, PMS, pmT, Int.reduceToNat, Nat.reduceGT, ↓reduceIte, Nat.reduceAdd, Nat.reduceMul, Nat.reduceSub, Nat.reduceEqDiff, Nat.reduceLeDiff, Nat.reduceLT, Nat.reduceBEq, Int.reduceBEq, Int.reduceBNe, Int.reduceEq, Int.reduceLT, Int.reduceLE, Int.reduceGT, Int.reduceNeg, reduceCtorEq, Int.cast_ofNat_Int, getE_zero, getE_one, getE_two, Option.isSome_none, h42, hrv, hc1, hc2, hi3]
        | false =>
          rw [hlp] at hc2
          simp only [cond_false] at hc2 ⊢
          cases s with
          | nil =>
            simp only [hdB, Bool.or_false, cond_false]
            generalize partialI [] = pp at *
            simp only [bdV] at hpt ⊢
            have hn : (([] : Str) == []) = true := rfl
            apply eq_call
            refine call_eq rfl Tryz.func182 rfl (by kernel_rfl) ?_
            unfold Tryz.f182
            simp (disch := ((try simp only [List.length_cons, List.length_append, List.length_nil, List.length_map]); omega)) only [↓GO, ↓DRW, GA, ren, renB, footX, refs, cellsV, cst, cstAt, nilC, idxAddr, E.load, E.store, binO, isC, bin, ibin, sbin, una, isShift, okCell, packV, lenV, blt, fnV, asArg, snapV, snapS, snapP, snapC, flatV, flatT, openK, layBack, allT, allZ, mkS, srcOf0, unN, idxV, nilEq, give, tupV, mkEnv, extV, pickV, LVS, OVS, LTS, TYS, PMS, pmT, Int.reduceToNat, Nat.reduceGT, ↓reduceIte, Nat.reduceAdd, Nat.reduceMul, Nat.reduceSub, Nat.reduceEqDiff, Nat.reduceLeDiff, Nat.reduceLT, Nat.reduceBEq, Int.reduceBEq, Int.reduceBNe, Int.reduceEq, Int.reduceLT, Int.reduceLE, Int.reduceGT, Int.reduceNeg, reduceCtorEq, Int.cast_ofNat_Int, getE_zero, getE_one, getE_two, Option.isSome_none, h42, hrv, hc1, hc2, hn, bne, hpt]
          | cons x r =>
            have hn : ((x :: r) == []) = false := rfl
            have hg0 : (x :: r)[0]? = some x := rfl
            have hdr : (x :: r).drop 1 = r := rfl
            have hxl : 1 ≤ (x :: r).length := by simp
            have h94 : ((x.toNat : Int) == 94) = (x == 94) := by
              rw [Bool.eq_iff_iff]; simp only [beq_iff_eq]
              constructor
              · intro h; exact UInt8.toNat_inj.1 (by rw [show (94 : UInt8).toNat = 94 from rfl]; omega)
              · intro h; rw [h]; rfl
            have h126 : ((x.toNat : Int) == 126) = (x == 126) := by
              rw [Bool.eq_iff_iff]; simp only [beq_iff_eq]
              constructor
              · intro h; exact UInt8.toNat_inj.1 (by rw [show (126 : UInt8).toNat = 126 from rfl]; omega)
              · intro h; rw [h]; rfl
            have hrr := c_rvI r (by simp only [List.length_cons] at hl; omega)
            obtain ⟨n1, n2, n3, n4, n5, n6, n7⟩ := readVer_sm r (by simp only [List.length_cons] at hl; omega)
            have z1 := c_zpI (readVer r).1.maj ((readVer r).1.min + 1) 0
            have z2 := c_zpI ((readVer r).1.maj + 1) 0 0
            have z3 := c_zpI 0 0 ((readVer r).1.pat + 1)
            unfold rvT at hrr
            rw [show (readVer r).2 = isV r from rfl] at hrr
            unfold signH
            rw [hdr]
            simp only [hdB]
            clear hi3 hc3 hi1 hi2 hcl
            generalize x :: r = xr at *
            generalize isV r = b1 at *
            unfold caretI
            generalize (readVer r).1 = w at *
            generalize zeroPre w.maj (w.min + 1) 0 = t1 at *
            generalize zeroPre (w.maj + 1) 0 0 = t2 at *
            generalize zeroPre 0 0 (w.pat + 1) = t3 at *
            generalize partialI xr = pp at *
            simp only [Ver.enc, List.map_cons, List.map_nil, bdV] at hrr hpt ⊢
            cases e1 : (x == 94) <;> rw [e1] at h94
            · cases e2 : (x == 126) <;> rw [e2] at h126
              · apply eq_call
                refine call_eq rfl Tryz.func182 rfl (by kernel_rfl) ?_
                unfold Tryz.f182
                simp (disch := ((try simp only [List.length_cons, List.length_append, List.length_nil, List.length_map]); omega)) only [↓GO, ↓DRW, GA, ren, renB, footX, refs, cellsV, cst, cstAt, nilC, idxAddr, E.load, E.store, binO, isC, bin, ibin, sbin, una, isShift, okCell, packV, lenV, blt, fnV, asArg, snapV, snapS, snapP, snapC, flatV, flatT, openK, layBack, allT, allZ, mkS, srcOf0, unN, idxV, nilEq, give, tupV, mkEnv, extV, pickV, LVS, OVS, LTS, TYS, PMS, pmT, Int.reduceToNat, Nat.reduceGT, ↓reduceIte, Nat.reduceAdd, Nat.reduceMul, Nat.reduceSub, Nat.reduceEqDiff, Nat.reduceLeDiff, Nat.reduceLT, Nat.reduceBEq, Int.reduceBEq, Int.reduceBNe, Int.reduceEq, Int.reduceLT, Int.reduceLE, Int.reduceGT, Int.reduceNeg, reduceCtorEq, Int.cast_ofNat_Int, getE_zero, getE_one, getE_two, Option.isSome_none, h42, hrv, hc1, hc2, hn, bne, hg0, h94, h126, hpt]
              · apply eq_call
                refine call_eq rfl Tryz.func182 rfl (by kernel_rfl) ?_
                unfold Tryz.f182
                simp (disch := ((try simp only [List.length_cons, List.length_append, List.length_nil, List.length_map]); omega)) only [↓GO, ↓DRW, GA, ren, renB, footX, refs, cellsV, cst, cstAt, nilC, idxAddr, E.load, E.store, binO, isC, bin, ibin, sbin, una, isShift, okCell, packV, lenV, blt, fnV, asArg, snapV, snapS, snapP, snapC, flatV, flatT, openK, layBack, allT, allZ, mkS, srcOf0, unN, idxV, nilEq, give, tupV, mkEnv, extV, pickV, LVS, OVS, LTS, TYS, PMS, pmT, Int.reduceToNat, Nat.reduceGT, ↓reduceIte, Nat.reduceAdd, Nat.reduceMul, Nat.reduceSub, Nat.reduceEqDiff, Nat.reduceLeDiff, Nat.reduceLT, Nat.reduceBEq, Int.reduceBEq, Int.reduceBNe, Int.reduceEq, Int.reduceLT, Int.reduceLE, Int.reduceGT, Int.reduceNeg, reduceCtorEq, Int.cast_ofNat_Int, getE_zero, getE_one, getE_two, Option.isSome_none, h42, hrv, hc1, hc2, hn, bne, hg0, h94, h126, hdr, hrr, z1, wrap_in]
            · cases e3 : decide (w.maj > 0)
              · cases e4 : (w.min == 0)
                all_goals
                  apply eq_call
                  refine call_eq rfl Tryz.func182 rfl (by kernel_rfl) ?_
                  unfold Tryz.f182
                  simp (disch := ((try simp only [List.length_cons, List.length_append, List.length_nil, List.length_map]); omega)) only [↓GO, ↓DRW, GA, ren, renB, footX, refs, cellsV, cst, cstAt, nilC, idxAddr, E.load, E.store, binO, isC, bin, ibin, sbin, una, isShift, okCell, packV, lenV, blt, fnV, asArg, snapV, snapS, snapP, snapC, flatV, flatT, openK, layBack, allT, allZ, mkS, srcOf0, unN, idxV, nilEq, give, tupV, mkEnv, extV, pickV, LVS, OVS, LTS, TYS, PMS, pmT, Int.reduceToNat, Nat.reduceGT, ↓reduceIte, Nat.reduceAdd, Nat.reduceMul, Nat.reduceSub, Nat.reduceEqDiff, Nat.reduceLeDiff, Nat.reduceLT, Nat.reduceBEq, Int.reduceBEq, Int.reduceBNe, Int.reduceEq, Int.reduceLT, Int.reduceLE, Int.reduceGT, Int.reduceNeg, reduceCtorEq, Int.cast_ofNat_Int, getE_zero, getE_one, getE_two, Option.isSome_none, h42, hrv, hc1, hc2, hn, bne, hg0, h94, hdr, hrr, z1, z2, z3, e3, e4, wrap_in]
              · apply eq_call
                refine call_eq rfl Tryz.func182 rfl (by kernel_rfl) ?_
                unfold Tryz.f182
                simp (disch := ((try simp only [List.length_cons, List.length_append, List.length_nil, List.length_map]); omega)) only [↓GO, ↓DRW, GA, ren, renB, footX, refs, cellsV, cst, cstAt, nilC, idxAddr, E.load, E.store, binO, isC, bin, ibin, sbin, una, isShift, okCell, packV, lenV, blt, fnV, asArg, snapV, snapS, snapP, snapC, flatV, flatT, openK, layBack, allT, allZ, mkS, srcOf0, unN, idxV, nilEq, give, tupV, mkEnv, extV, pickV, LVS, OVS, LTS, TYS, PMS, pmT, Int.reduceToNat, Nat.reduceGT, ↓reduceIte, Nat.reduceAdd, Nat.reduceMul, Nat.reduceSub, Nat.reduceEqDiff, Nat.reduceLeDiff, Nat.reduceLT, Nat.reduceBEq, Int.reduceBEq, Int.reduceBNe, Int.reduceEq, Int.reduceLT, Int.reduceLE, Int.reduceGT, Int.reduceNeg, reduceCtorEq, Int.cast_ofNat_Int, getE_zero, getE_one, getE_two, Option.isSome_none, h42, hrv, hc1, hc2, hn, bne, hg0, h94, hdr, hrr, z1, z2, z3, e3, wrap_in]
end Go.Proofs.YtkpmachalipmpaaGreatDoor
/- Ranges, by the implementation: the whole. Conditions: those of each lemma. -/
namespace Go.Proofs.YtkpmachalipmpaaGreatDoor
open E
set_option linter.unusedSimpArgs false
set_option linter.unusedVariables false
set_option maxRecDepth 100000
theorem pre_bulk : ∀ l : List Str, (l.all fun p => preOk p) = true → bulkS l ≤ 20 * l.length
  | [], _ => by simp [bulkS]
  | p :: l, h => by
    simp only [List.all_cons, Bool.and_eq_true] at h
    have ih := pre_bulk l h.2
    have h1 := h.1
    unfold preOk B2 at h1
    simp only [Bool.and_eq_true, decide_eq_true_eq] at h1
    have := h1.1.2
    simp only [bulkS, List.length_cons]
    omega
theorem verText_short {v : Ver} (h : verOk v = true) : (verText v).length ≤ 140 := by
  obtain ⟨_, _, _, h4, h5⟩ := verOk_num h
  have h6 := pre_bulk v.pre h4
  have h7 := core_len h
  have h8 := tailV_len (coreV v) v.pre
  unfold verText
  rw [h, cond_true]
  omega
theorem isV_short {s : Str} (h : isV s = true) : s.length ≤ 140 := by
  obtain ⟨_, ht, ho, _⟩ := readVer_true h
  have := verText_short ho
  rwa [ht] at this
theorem isE_short {s : Str} (h : isE s = true) : s.length ≤ 140 := by
  unfold isE at h
  rw [Bool.or_eq_true] at h
  rcases h with h | h
  · exact isV_short h
  · rw [eq_of_beq h]; simp
theorem allP_short {ps : List Str} {l : List Bd} (h : allP ps = some l) : ∀ b ∈ l, b.1.length ≤ 140 ∧ b.2.length ≤ 140 := fun b hb => by
  have h1 := (allP_ok ps l h).1
  rw [List.all_eq_true] at h1
  have h2 := h1 b hb
  rw [Bool.and_eq_true] at h2
  exact ⟨isE_short h2.1, isE_short h2.2⟩
theorem splitS_of (s sep : Str) : splitS s sep = Lib.split s sep := by
  unfold splitS Lib.split Lib.countB
  rw [Lib.splitB_data]
/-- what a reading of ranges gives -/
def rrT : Option (List Bd) → V
  | some l => .tup [.t (.list 2 (bdT l)), .t (.bool true)]
  | none => .tup [.t (.list 2 []), .t (.bool false)]
/-- how the loop ends -/
def rrEnd (ps : List Str) (acc : List Bd) (cap : Option Nat) (x : List Bd) : Option (List Bd) → Resp
  | some bs => .loop (.exit 0) [.bad, .bad, .sl 0 0 (acc.length + bs.length) cap] [.ts 2 (bdT (acc ++ bs))]
  | none => .loop .ret [.nil 2, .t (.bool false), .sl 0 0 x.length cap] [.ts 2 (bdT x)]
set_option maxHeartbeats 4000000 in
theorem l_rrI (ps : List Str) (hl : ps.length ≤ 1048576) (hb : ∀ p ∈ ps, p.length ≤ 1048576) : ∀ (rest pre : List Str) (acc : List Bd) (cap : Option Nat) (m : Nat), ps = pre ++ rest → m = acc.length → acc.length = pre.length →
    ∃ cap' x, EV Tryz.prog pol (.loop 88 122 0 [.sl 0 0 m cap, .t (.list 1 (strs ps)), .t (.int .i64 (ps.length : Int)), .t (.int .i64 (pre.length : Int))] [.ts 2 (bdT acc)]) = some (rrEnd ps acc cap' x (allP rest))
  | [], pre, acc, cap, m, hs, hm, ha => by
    have c : decide ((pre.length : Int) < (ps.length : Int)) = false := by simp [hs]
    refine ⟨cap, [], ?_⟩
    simp only [allP, rrEnd, List.append_nil, List.length_nil, Nat.add_zero]
    subst hm
    refine loop_eq Tryz.func88 rfl rfl ?_
    simp (disch := ((try simp only [List.length_cons, List.length_append, List.length_nil, List.length_map]); omega)) only [↓GO, ↓DRW, GA, ren, renB, footX, refs, cellsV, cst, cstAt, nilC, idxAddr, E.load, E.store, binO, isC, bin, ibin, sbin, una, isShift, okCell, packV, lenV, blt, fnV, asArg, snapV, snapS, snapP, snapC, flatV, flatT, openK, layBack, allT, allZ, mkS, srcOf0, unN, idxV, nilEq, give, tupV, mkEnv, extV, pickV, LVS, OVS, LTS, TYS, PMS, pmT, Int.reduceToNat, Nat.reduceGT, ↓reduceIte, Nat.reduceAdd, Nat.reduceMul, Nat.reduceSub, Nat.reduceEqDiff, Nat.reduceLeDiff, Nat.reduceLT, Nat.reduceBEq, Int.reduceBEq, Int.reduceBNe, Int.reduceEq, Int.reduceLT, Int.reduceLE, Int.reduceGT, Int.reduceNeg, reduceCtorEq, Int.cast_ofNat_Int, getE_zero, getE_one, getE_two, Option.isSome_none, c, rch3]
  | p :: rest, pre, acc, cap, m, hs, hm, ha => by
    have c : decide ((pre.length : Int) < (ps.length : Int)) = true := by simp [hs]; omega
    have hget : (strs ps)[pre.length]? = some [.str p] := by rw [hs]; exact map_zip (fun s : Str => [T.str s]) pre p rest
    have hlen : pre.length + rest.length + 1 ≤ ps.length := by rw [hs]; simp; omega
    have hpb := hb p (by rw [hs]; simp)
    have hB := c_boundI p (by omega)
    have h1 := c_hasPre p [60] (by omega) (by simp)
    have h2 := c_hasPre p [62, 61] (by omega) (by simp)
    rw [show ([60] : Str).isPrefixOf p = ltP p from rfl] at h1
    rw [show ([62, 61] : Str).isPrefixOf p = geP p from rfl] at h2
    have hchk := chk_same p
    unfold chkI openI at hchk
    have IHs := fun b => l_rrI ps hl hb rest (pre ++ [p]) (acc ++ [b]) none (m + 1) (by rw [hs]; simp) (by simp [hm]) (by simp [ha])
    rw [show ((pre ++ [p]).length : Int) = (pre.length : Int) + 1 by simp] at IHs
    have hol : (bdT acc).length = m := by rw [bdT_len, hm]
    have hml : m ≤ 1048578 := by omega
    have hm0 := hm
    clear hs hb
    simp only [allP]
    rw [← hchk]
    clear hchk
    generalize boundI p = bb at *
    obtain ⟨⟨lo, hi⟩, ok⟩ := bb
    simp only [bdV] at hB
    simp only
    cases h3 : (p == [42]) <;> cases h4 : ltP p <;> rw [h4] at h1 <;> cases h5 : geP p <;> rw [h5] at h2 <;> cases ok <;> cases e1 : (lo == []) <;> cases e2 : (hi == []) <;>
      simp only [Bool.or_true, Bool.true_or, Bool.or_false, Bool.false_or, Bool.not_true, Bool.not_false, Bool.and_true, Bool.true_and, Bool.and_false, Bool.false_and, cond_true, cond_false]
    all_goals first
      | (refine ⟨cap, acc, ?_⟩
         unfold rrEnd
         rw [hm]
         refine loop_eq Tryz.func88 rfl rfl ?_
         simp (disch := ((try simp only [List.length_cons, List.length_append, List.length_nil, List.length_map]); omega)) only [↓GO, ↓DRW, GA, ren, renB, footX, refs, cellsV, cst, cstAt, nilC, idxAddr, E.load, E.store, binO, isC, bin, ibin, sbin, una, isShift, okCell, packV, lenV, blt, fnV, asArg, snapV, snapS, snapP, snapC, flatV, flatT, openK, layBack, allT, allZ, mkS, srcOf0, unN, idxV, nilEq, give, tupV, mkEnv, extV, pickV, LVS, OVS, LTS, TYS, PMS, pmT, Int.reduceToNat, Nat.reduceGT, ↓reduceIte, Nat.reduceAdd, Nat.reduceMul, Nat.reduceSub, Nat.reduceEqDiff, Nat.reduceLeDiff, Nat.reduceLT, Nat.reduceBEq, Int.reduceBEq, Int.reduceBNe, Int.reduceEq, Int.reduceLT, Int.reduceLE, Int.reduceGT, Int.reduceNeg, reduceCtorEq, Int.cast_ofNat_Int, getE_zero, getE_one, getE_two, Option.isSome_none, c, hget, hB, h1, h2, h3, e1, e2, wrap_in, hol, rch3, le_T]
         done)
      | (obtain ⟨cap', x, IH⟩ := IHs (lo, hi)
         refine ⟨cap', x, ?_⟩
         rw [bdT_app, show bdT [(lo, hi)] = [[T.str lo, T.str hi]] from rfl] at IH
         rw [show rrEnd ps (acc ++ [(lo, hi)]) cap' x (allP rest) = rrEnd ps acc cap' x (match allP rest with | some bs => some ((lo, hi) :: bs) | none => none) by
           cases allP rest with
           | none => rfl
           | some bs => simp only [rrEnd]; rw [List.append_assoc]; simp only [List.length_append, List.length_cons, List.length_nil, List.cons_append, List.nil_append]; rw [show acc.length + (0 + 1) + bs.length = acc.length + (bs.length + 1) by omega]] at IH
         refine loop_eq Tryz.func88 rfl rfl ?_
         simp (disch := ((try simp only [List.length_cons, List.length_append, List.length_nil, List.length_map]); omega)) only [↓GO, ↓DRW, GA, ren, renB, footX, refs, cellsV, cst, cstAt, nilC, idxAddr, E.load, E.store, binO, isC, bin, ibin, sbin, una, isShift, okCell, packV, lenV, blt, fnV, asArg, snapV, snapS, snapP, snapC, flatV, flatT, openK, layBack, allT, allZ, mkS, srcOf0, unN, idxV, nilEq, give, tupV, mkEnv, extV, pickV, LVS, OVS, LTS, TYS, PMS, pmT, Int.reduceToNat, Nat.reduceGT, ↓reduceIte, Nat.reduceAdd, Nat.reduceMul, Nat.reduceSub, Nat.reduceEqDiff, Nat.reduceLeDiff, Nat.reduceLT, Nat.reduceBEq, Int.reduceBEq, Int.reduceBNe, Int.reduceEq, Int.reduceLT, Int.reduceLE, Int.reduceGT, Int.reduceNeg, reduceCtorEq, Int.cast_ofNat_Int, getE_zero, getE_one, getE_two, Option.isSome_none, c, hget, hB, h1, h2, h3, e1, e2, wrap_in, hol, IH, rch3, le_T]
         cases allP rest <;> rfl)
theorem c_rrI (s : Str) (hl : s.length ≤ 1048576) : callPure (EV Tryz.prog pol) 88 [.t (.str s)] = some (rrT (rangeI s)) := by
  unfold rangeI
  cases h200 : decide ((s.length : Int) > 200) with
  | true =>
    simp only [cond_true, rrT]
    apply eq_call
    refine call_eq rfl Tryz.func88 rfl (by kernel_rfl) ?_
    unfold Tryz.f88
    simp (disch := ((try simp only [List.length_cons, List.length_append, List.length_nil, List.length_map]); omega)) only [↓GO, ↓DRW, GA, ren, renB, footX, refs, cellsV, cst, cstAt, nilC, idxAddr, E.load, E.store, binO, isC, bin, ibin, sbin, una, isShift, okCell, packV, lenV, blt, fnV, asArg, snapV, snapS, snapP, snapC, flatV, flatT, openK, layBack, allT, allZ, mkS, srcOf0, unN, idxV, nilEq, give, tupV, mkEnv, extV, pickV, LVS, OVS, LTS, TYS, PMS, pmT, Int.reduceToNat, Nat.reduceGT, ↓reduceIte, Nat.reduceAdd, Nat.reduceMul, Nat.reduceSub, Nat.reduceEqDiff, Nat.reduceLeDiff, Nat.reduceLT, Nat.reduceBEq, Int.reduceBEq, Int.reduceBNe, Int.reduceEq, Int.reduceLT, Int.reduceLE, Int.reduceGT, Int.reduceNeg, reduceCtorEq, Int.cast_ofNat_Int, getE_zero, getE_one, getE_two, Option.isSome_none, h200]
  | false =>
    have h2 := of_decide_eq_false h200
    have h1 := c_split s [32, 124, 124, 32] (by omega) (by simp)
    have hsp : splitS s [32, 124, 124, 32] = cutK 0 s := by
      rw [splitS_of]; exact split_cutK s.length s (Nat.le_refl _)
    rw [hsp] at h1
    have hbk := cutK_bulk 0 s
    have hmem : ∀ p ∈ cutK 0 s, p.length ≤ 1048576 := fun p hp => by have := bulk_mem hp; omega
    simp only [cond_false]
    generalize cutK 0 s = ps at *
    obtain ⟨cap, x, L⟩ := l_rrI ps (by omega) hmem ps [] [] (some 0) 0 rfl rfl rfl
    rw [show bdT [] = [] from rfl] at L
    simp only [List.length_nil, Int.natCast_zero] at L
    cases ha : allP ps with
    | none =>
      rw [ha] at L
      simp only [rrEnd, rrT] at L ⊢
      apply eq_call
      refine call_eq rfl Tryz.func88 rfl (by kernel_rfl) ?_
      unfold Tryz.f88
      simp (disch := ((try simp only [List.length_cons, List.length_append, List.length_nil, List.length_map]); omega)) only [↓GO, ↓DRW, GA, ren, renB, footX, refs, cellsV, cst, cstAt, nilC, idxAddr, E.load, E.store, binO, isC, bin, ibin, sbin, una, isShift, okCell, packV, lenV, blt, fnV, asArg, snapV, snapS, snapP, snapC, flatV, flatT, openK, layBack, allT, allZ, mkS, srcOf0, unN, idxV, nilEq, give, tupV, mkEnv, extV, pickV, LVS, OVS, LTS, TYS, PMS, pmT, Int.reduceToNat, Nat.reduceGT, ↓reduceIte, Nat.reduceAdd, Nat.reduceMul, Nat.reduceSub, Nat.reduceEqDiff, Nat.reduceLeDiff, Nat.reduceLT, Nat.reduceBEq, Int.reduceBEq, Int.reduceBNe, Int.reduceEq, Int.reduceLT, Int.reduceLE, Int.reduceGT, Int.reduceNeg, reduceCtorEq, Int.cast_ofNat_Int, getE_zero, getE_one, getE_two, Option.isSome_none, h200, h1, L, strs_len, rch3]
    | some l =>
      have hsh := allP_short ha
      have hll := (allP_ok ps l ha).2
      rw [ha] at L
      simp only [rrEnd, List.nil_append, List.length_nil, Nat.zero_add] at L ⊢
      have hr := c_rokI l (by omega) (fun b hb => by have := hsh b hb; omega)
      have ht : (bdT l).take l.length = bdT l := List.take_of_length_le (by rw [bdT_len]; omega)
      cases hk : rangeOk l <;> rw [hk] at hr <;> simp only [cond_true, cond_false, rrT]
      all_goals
        apply eq_call
        refine call_eq rfl Tryz.func88 rfl (by kernel_rfl) ?_
        unfold Tryz.f88
        simp (disch := ((try simp only [List.length_cons, List.length_append, List.length_nil, List.length_map]); omega)) only [↓GO, ↓DRW, GA, ren, renB, footX, refs, cellsV, cst, cstAt, nilC, idxAddr, E.load, E.store, binO, isC, bin, ibin, sbin, una, isShift, okCell, packV, lenV, blt, fnV, asArg, snapV, snapS, snapP, snapC, flatV, flatT, openK, layBack, allT, allZ, mkS, srcOf0, unN, idxV, nilEq, give, tupV, mkEnv, extV, pickV, LVS, OVS, LTS, TYS, PMS, pmT, Int.reduceToNat, Nat.reduceGT, ↓reduceIte, Nat.reduceAdd, Nat.reduceMul, Nat.reduceSub, Nat.reduceEqDiff, Nat.reduceLeDiff, Nat.reduceLT, Nat.reduceBEq, Int.reduceBEq, Int.reduceBNe, Int.reduceEq, Int.reduceLT, Int.reduceLE, Int.reduceGT, Int.reduceNeg, reduceCtorEq, Int.cast_ofNat_Int, getE_zero, getE_one, getE_two, Option.isSome_none, h200, h1, L, strs_len, hr, ht, bdT_len, rch3]
end Go.Proofs.YtkpmachalipmpaaGreatDoor
/- Ranges, by the reference: parts and bounds. Conditions: those of each lemma. -/
namespace Go.Proofs.YtkpmachalipmpaaGreatDoor
open E
set_option linter.unusedSimpArgs false
set_option linter.unusedVariables false
set_option maxRecDepth 100000
def bT : Option Bd → V
  | some b => .tup [.agg [.t (.str b.1), .t (.str b.2)], .t (.bool true)]
  | none => .tup [.agg [.t (.str []), .t (.str [])], .t (.bool false)]
theorem alT_bT (s : Str) : alT s = bT (exactB s) := by
  unfold alT bT
  cases exactB s with
  | none => rfl
  | some b => obtain ⟨a, b⟩ := b; rfl
theorem hd_eq (x : UInt8) (c : UInt8) : ((x.toNat : Int) == (c.toNat : Int)) = (x == c) := by
  rw [Bool.eq_iff_iff]; simp only [beq_iff_eq]
  constructor
  · intro h; exact UInt8.toNat_inj.1 (by omega)
  · intro h; rw [h]
theorem c_isR (s : Str) (hl : s.length ≤ 1048700) : callPure (EV Tryz.prog pol) 360 [.t (.str s)] = some (.t (.bool (isE s))) := by
  have h := c_rvR s hl
  unfold rvT at h
  unfold isE isV
  generalize (readVer s).1 = v at *
  simp only [Ver.enc, List.map_cons, List.map_nil] at h
  cases hk : (readVer s).2 <;> rw [hk] at h <;> cases hn : (s == [])
  all_goals
    apply eq_call
    refine call_eq rfl Tryz.func360 rfl (by kernel_rfl) ?_
    unfold Tryz.f360
    simp (disch := ((try simp only [List.length_cons, List.length_append, List.length_nil, List.length_map]); omega)) only [↓GO, ↓DRW, GA, ren, renB, footX, refs, cellsV, cst, cstAt, nilC, idxAddr, E.load, E.store, binO, isC, bin, ibin, sbin, una, isShift, okCell, packV, lenV, blt, fnV, asArg, snapV, snapS, snapP, snapC, flatV, flatT, openK, layBack, allT, allZ, mkS, srcOf0, unN, idxV, nilEq, give, tupV, mkEnv, extV, pickV, LVS, OVS, LTS, TYS, PMS, pmT, Int.reduceToNat, Nat.reduceGT, ↓reduceIte, Nat.reduceAdd, Nat.reduceMul, Nat.reduceSub, Nat.reduceEqDiff, Nat.reduceLeDiff, Nat.reduceLT, Nat.reduceBEq, Int.reduceBEq, Int.reduceBNe, Int.reduceEq, Int.reduceLT, Int.reduceLE, Int.reduceGT, Int.reduceNeg, reduceCtorEq, Int.cast_ofNat_Int, getE_zero, getE_one, getE_two, Option.isSome_none, h, hn]
theorem l_rokR (l : List Bd) (hl : l.length ≤ 4194304) (hb : ∀ b ∈ l, b.1.length ≤ 1048700 ∧ b.2.length ≤ 1048700) : ∀ (rest pre : List Bd), l = pre ++ rest →
    EV Tryz.prog pol (.loop 315 26 0 [.t (.list 2 (bdT l)), .t (.int .i64 (pre.length : Int))] []) = some (cond (rest.all fun b => isE b.1 && isE b.2) (.loop (.exit 0) [.t (.list 2 (bdT l)), .bad] []) (.loop .ret [.t (.list 2 (bdT l)), .t (.bool false)] []))
  | [], pre, hs => by
    have c : decide ((pre.length : Int) < (l.length : Int)) = false := by simp [hs]
    simp only [List.all_nil, cond_true]
    refine loop_eq Tryz.func315 rfl rfl ?_
    simp (disch := ((try simp only [List.length_cons, List.length_append, List.length_nil, List.length_map]); omega)) only [↓GO, ↓DRW, GA, ren, renB, footX, refs, cellsV, cst, cstAt, nilC, idxAddr, E.load, E.store, binO, isC, bin, ibin, sbin, una, isShift, okCell, packV, lenV, blt, fnV, asArg, snapV, snapS, snapP, snapC, flatV, flatT, openK, layBack, allT, allZ, mkS, srcOf0, unN, idxV, nilEq, give, tupV, mkEnv, extV, pickV, LVS, OVS, LTS, TYS, PMS, pmT, Int.reduceToNat, Nat.reduceGT, ↓reduceIte, Nat.reduceAdd, Nat.reduceMul, Nat.reduceSub, Nat.reduceEqDiff, Nat.reduceLeDiff, Nat.reduceLT, Nat.reduceBEq, Int.reduceBEq, Int.reduceBNe, Int.reduceEq, Int.reduceLT, Int.reduceLE, Int.reduceGT, Int.reduceNeg, reduceCtorEq, Int.cast_ofNat_Int, getE_zero, getE_one, getE_two, Option.isSome_none, c, bdT_len]
  | x :: rest, pre, hs => by
    have c : decide ((pre.length : Int) < (l.length : Int)) = true := by simp [hs]; omega
    have hget : (bdT l)[pre.length]? = some [.str x.1, .str x.2] := by rw [hs]; exact map_zip (fun b : Bd => [T.str b.1, T.str b.2]) pre x rest
    have hlen : pre.length + rest.length + 1 ≤ l.length := by rw [hs]; simp; omega
    have hx := hb x (by rw [hs]; simp)
    have h1 := c_isR x.1 hx.1
    have h2 := c_isR x.2 hx.2
    have IH := l_rokR l hl hb rest (pre ++ [x]) (by rw [hs]; simp)
    rw [show ((pre ++ [x]).length : Int) = (pre.length : Int) + 1 by simp] at IH
    clear hs hb
    rw [List.all_cons]
    generalize isE x.1 = a1 at *
    generalize isE x.2 = a2 at *
    cases a1 <;> cases a2
    all_goals
      refine loop_eq Tryz.func315 rfl rfl ?_
      simp (disch := ((try simp only [List.length_cons, List.length_append, List.length_nil, List.length_map]); omega)) only [↓GO, ↓DRW, GA, ren, renB, footX, refs, cellsV, cst, cstAt, nilC, idxAddr, E.load, E.store, binO, isC, bin, ibin, sbin, una, isShift, okCell, packV, lenV, blt, fnV, asArg, snapV, snapS, snapP, snapC, flatV, flatT, openK, layBack, allT, allZ, mkS, srcOf0, unN, idxV, nilEq, give, tupV, mkEnv, extV, pickV, LVS, OVS, LTS, TYS, PMS, pmT, Int.reduceToNat, Nat.reduceGT, ↓reduceIte, Nat.reduceAdd, Nat.reduceMul, Nat.reduceSub, Nat.reduceEqDiff, Nat.reduceLeDiff, Nat.reduceLT, Nat.reduceBEq, Int.reduceBEq, Int.reduceBNe, Int.reduceEq, Int.reduceLT, Int.reduceLE, Int.reduceGT, Int.reduceNeg, reduceCtorEq, Int.cast_ofNat_Int, getE_zero, getE_one, getE_two, Option.isSome_none, c, hget, h1, h2, wrap_in, bdT_len, IH]
theorem c_rokR (l : List Bd) (hl : l.length ≤ 4194304) (hb : ∀ b ∈ l, b.1.length ≤ 1048700 ∧ b.2.length ≤ 1048700) : callPure (EV Tryz.prog pol) 315 [.t (.list 2 (bdT l))] = some (.t (.bool (rangeOk l))) := by
  have L := l_rokR l hl hb l [] rfl
  have h := c_l01In (l.length : Int) 1 8
  simp only [List.length_nil, Int.natCast_zero] at L
  unfold rangeOk
  generalize B2 (l.length : Int) 1 8 = b2 at *
  cases ha : (l.all fun b => isE b.1 && isE b.2) <;> rw [ha] at L <;> simp only [cond_true, cond_false] at L
  all_goals
    apply eq_call
    refine call_eq rfl Tryz.func315 rfl (by kernel_rfl) ?_
    unfold Tryz.f315
    simp (disch := ((try simp only [List.length_cons, List.length_append, List.length_nil, List.length_map]); omega)) only [↓GO, ↓DRW, GA, ren, renB, footX, refs, cellsV, cst, cstAt, nilC, idxAddr, E.load, E.store, binO, isC, bin, ibin, sbin, una, isShift, okCell, packV, lenV, blt, fnV, asArg, snapV, snapS, snapP, snapC, flatV, flatT, openK, layBack, allT, allZ, mkS, srcOf0, unN, idxV, nilEq, give, tupV, mkEnv, extV, pickV, LVS, OVS, LTS, TYS, PMS, pmT, Int.reduceToNat, Nat.reduceGT, ↓reduceIte, Nat.reduceAdd, Nat.reduceMul, Nat.reduceSub, Nat.reduceEqDiff, Nat.reduceLeDiff, Nat.reduceLT, Nat.reduceBEq, Int.reduceBEq, Int.reduceBNe, Int.reduceEq, Int.reduceLT, Int.reduceLE, Int.reduceGT, Int.reduceNeg, reduceCtorEq, Int.cast_ofNat_Int, getE_zero, getE_one, getE_two, Option.isSome_none, L, h, bdT_len]
theorem c_from (s : Str) (v : Ver) (p : Int) (hs : v.sm) (hp : p = 0 ∨ p = 1 ∨ p = 2) (h1 : -1 ≤ v.maj ∧ v.maj ≤ 999999999) (h2 : -1 ≤ v.min ∧ v.min ≤ 999999999) (h3 : -1 ≤ v.pat ∧ v.pat ≤ 999999999) :
    callPure (EV Tryz.prog pol) 253 [.t (.str s), .agg (v.enc.map .t), .t (.int .i64 p)] = some (bT (fromR v s p)) := by
  have d := c_below v p hs hp h1 h2 h3
  unfold fromR bT
  generalize belowV v p = bl at *
  obtain ⟨t, ok⟩ := bl
  simp only [Ver.enc, List.map_cons, List.map_nil] at d ⊢
  cases ok <;> simp only [cond_true, cond_false] at d ⊢
  all_goals
    apply eq_call
    refine call_eq rfl Tryz.func253 rfl (by kernel_rfl) ?_
    unfold Tryz.f253
    simp (disch := ((try simp only [List.length_cons, List.length_append, List.length_nil, List.length_map]); omega)) only [↓GO, ↓DRW, GA, ren, renB, footX, refs, cellsV, cst, cstAt, nilC, idxAddr, E.load, E.store, binO, isC, bin, ibin, sbin, una, isShift, okCell, packV, lenV, blt, fnV, asArg, snapV, snapS, snapP, snapC, flatV, flatT, openK, layBack, allT, allZ, mkS, srcOf0, unN, idxV, nilEq, give, tupV, mkEnv, extV, pickV, LVS, OVS, LTS, TYS, PMS, pmT, Int.reduceToNat, Nat.reduceGT, ↓reduceIte, Nat.reduceAdd, Nat.reduceMul, Nat.reduceSub, Nat.reduceEqDiff, Nat.reduceLeDiff, Nat.reduceLT, Nat.reduceBEq, Int.reduceBEq, Int.reduceBNe, Int.reduceEq, Int.reduceLT, Int.reduceLE, Int.reduceGT, Int.reduceNeg, reduceCtorEq, Int.cast_ofNat_Int, getE_zero, getE_one, getE_two, Option.isSome_none, d]
theorem c_caretR (v : Ver) : callPure (EV Tryz.prog pol) 254 [.agg (v.enc.map .t)] = some (.t (.int .i64 (caretR v))) := by
  unfold caretR
  simp only [Ver.enc, List.map_cons, List.map_nil]
  cases h1 : decide (v.maj > 0) <;> cases h2 : decide (v.min > 0) <;> simp only [cond_true, cond_false]
  all_goals
    apply eq_call
    refine call_eq rfl Tryz.func254 rfl (by kernel_rfl) ?_
    unfold Tryz.f254
    simp (disch := ((try simp only [List.length_cons, List.length_append, List.length_nil, List.length_map]); omega)) only [↓GO, ↓DRW, GA, ren, renB, footX, refs, cellsV, cst, cstAt, nilC, idxAddr, E.load, E.store, binO, isC, bin, ibin, sbin, una, isShift, okCell, packV, lenV, blt, fnV, asArg, snapV, snapS, snapP, snapC, flatV, flatT, openK, layBack, allT, allZ, mkS, srcOf0, unN, idxV, nilEq, give, tupV, mkEnv, extV, pickV, LVS, OVS, LTS, TYS, PMS, pmT, Int.reduceToNat, Nat.reduceGT, ↓reduceIte, Nat.reduceAdd, Nat.reduceMul, Nat.reduceSub, Nat.reduceEqDiff, Nat.reduceLeDiff, Nat.reduceLT, Nat.reduceBEq, Int.reduceBEq, Int.reduceBNe, Int.reduceEq, Int.reduceLT, Int.reduceLE, Int.reduceGT, Int.reduceNeg, reduceCtorEq, Int.cast_ofNat_Int, getE_zero, getE_one, getE_two, Option.isSome_none, h1, h2]
theorem caretR_in (v : Ver) : caretR v = 0 ∨ caretR v = 1 ∨ caretR v = 2 := by
  unfold caretR
  cases decide (v.maj > 0) <;> cases decide (v.min > 0) <;> simp
theorem c_words (s : Str) (hl : s.length ≤ 4194304) : callPure (EV Tryz.prog pol) 172 [.t (.str s)] = some (.t (.list 1 (strs (cutS 32 s)))) := by
  have h := c_cutR s 32 hl
  rw [show (((32 : UInt8).toNat : Nat) : Int) = 32 from rfl] at h
  apply eq_call
  refine call_eq rfl Tryz.func172 rfl (by kernel_rfl) ?_
  unfold Tryz.f172
  simp (disch := ((try simp only [List.length_cons, List.length_append, List.length_nil, List.length_map]); omega)) only [↓GO, ↓DRW, GA, ren, renB, footX, refs, cellsV, cst, cstAt, nilC, idxAddr, E.load, E.store, binO, isC, bin, ibin, sbin, una, isShift, okCell, packV, lenV, blt, fnV, asArg, snapV, snapS, snapP, snapC, flatV, flatT, openK, layBack, allT, allZ, mkS, srcOf0, unN, idxV, nilEq, give, tupV, mkEnv, extV, pickV, LVS, OVS, LTS, TYS, PMS, pmT, Int.reduceToNat, Nat.reduceGT, ↓reduceIte, Nat.reduceAdd, Nat.reduceMul, Nat.reduceSub, Nat.reduceEqDiff, Nat.reduceLeDiff, Nat.reduceLT, Nat.reduceBEq, Int.reduceBEq, Int.reduceBNe, Int.reduceEq, Int.reduceLT, Int.reduceLE, Int.reduceGT, Int.reduceNeg, reduceCtorEq, Int.cast_ofNat_Int, getE_zero, getE_one, getE_two, Option.isSome_none, h]
theorem c_shortR (s : Str) (hl : s.length ≤ 1048600) : callPure (EV Tryz.prog pol) 257 [.t (.str s)] = some (bT (shortR s)) := by
  have h1 := c_cutR s 46 (by omega)
  rw [show (((46 : UInt8).toNat : Nat) : Int) = 46 from rfl] at h1
  have hfl : (fullR s).length ≤ 1048700 := by unfold fullR; cases (((cutS 46 s).length : Int) == 1) <;> simp <;> omega
  have h2 := c_rvR (fullR s) hfl
  obtain ⟨m1, m2, m3, m4, m5, m6, m7⟩ := readVer_sm (fullR s) hfl
  have h3 := c_l01In ((cutS 46 s).length : Int) 1 2
  have hg := gt_len (readVer (fullR s)).1.pre
  have h4 := fun hp => c_below (readVer (fullR s)).1 (((cutS 46 s).length : Int) - 1) m1 hp ⟨m3, m2⟩ ⟨m5, m4⟩ ⟨m7, m6⟩
  have hcn : 1 ≤ (cutS 46 s).length := by
    cases hc : cutS 46 s with
    | nil => exact absurd hc (cutS_ne 46 s)
    | cons p q => simp
  have hbk := bulk_cutS 46 s
  have hB : B2 ((cutS 46 s).length : Int) 1 2 = true → ((cutS 46 s).length : Int) - 1 = 0 ∨ ((cutS 46 s).length : Int) - 1 = 1 ∨ ((cutS 46 s).length : Int) - 1 = 2 := fun h => by
    unfold B2 at h
    simp only [Bool.and_eq_true, decide_eq_true_eq] at h
    omega
  have h5 := fun h => h4 (hB h)
  clear h4 hB
  unfold shortR isV
  unfold rvT at h2
  have hfull : fullR s = cond (((cutS 46 s).length : Int) == 1) (s ++ [46, 48, 46, 48]) (s ++ [46, 48]) := rfl
  generalize fullR s = f at *
  generalize (readVer f).2 = ok at *
  generalize (readVer f).1 = v at *
  generalize belowV v (((cutS 46 s).length : Int) - 1) = bl at *
  obtain ⟨bt, bo⟩ := bl
  generalize B2 ((cutS 46 s).length : Int) 1 2 = b2 at *
  generalize cutS 46 s = ps at *
  simp only [Ver.enc, List.map_cons, List.map_nil] at h2 h5 ⊢
  cases h46 : ((ps.length : Int) == 1) <;> rw [h46] at hfull <;> simp only [cond_true, cond_false] at hfull <;> subst hfull <;>
    cases ok <;> cases b2 <;> cases hpre : (v.pre == []) <;> rw [hpre] at hg <;> simp only [Bool.not_true, Bool.not_false, Bool.or_true, Bool.or_false, Bool.true_or, Bool.false_or, cond_true, cond_false, bT] at hg ⊢
  all_goals simp only [true_implies, false_implies, reduceCtorEq] at h5
  all_goals cases bo
  all_goals try simp only [cond_true, cond_false]
  all_goals
    apply eq_call
    refine call_eq rfl Tryz.func257 rfl (by kernel_rfl) ?_
    unfold Tryz.f257
    simp (disch := ((try simp only [List.length_cons, List.length_append, List.length_nil, List.length_map]); omega)) only [↓GO, ↓DRW, GA, ren, renB, footX, refs, cellsV, cst, cstAt, nilC, idxAddr, E.load, E.store, binO, isC, bin, ibin, sbin, una, isShift, okCell, packV, lenV, blt, fnV, asArg, snapV, snapS, snapP, snapC, flatV, flatT, openK, layBack, allT, allZ, mkS, srcOf0, unN, idxV, nilEq, give, tupV, mkEnv, extV, pickV, LVS, OVS, LTS, TYS, PMS, pmT, Int.reduceToNat, Nat.reduceGT, ↓reduceIte, Nat.reduceAdd, Nat.reduceMul, Nat.reduceSub, Nat.reduceEqDiff, Nat.reduceLeDiff, Nat.reduceLT, Nat.reduceBEq, Int.reduceBEq, Int.reduceBNe, Int.reduceEq, Int.reduceLT, Int.reduceLE, Int.reduceGT, Int.reduceNeg, reduceCtorEq, Int.cast_ofNat_Int, getE_zero, getE_one, getE_two, Option.isSome_none, h1, h2, h3, h46, hg, h5, strs_len, wrap_in, le_T]
end Go.Proofs.YtkpmachalipmpaaGreatDoor
/- Ranges, by the reference: signs, parts. Conditions: those of each lemma. -/
namespace Go.Proofs.YtkpmachalipmpaaGreatDoor
open E
set_option linter.unusedSimpArgs false
set_option linter.unusedVariables false
set_option maxRecDepth 100000
theorem range1 (b : Bd) : rangeOk [b] = (isE b.1 && isE b.2) := by
  unfold rangeOk
  simp [B2]
/-- the head of a word -/
theorem ltW_cases (x : Str) : (ltW x = false ∧ decide ((x.length : Int) > 1) = false) ∨ (∃ a r, x = a :: r ∧ decide ((x.length : Int) > 1) = true ∧ ltW x = (a == 60)) := by
  unfold ltW
  cases h : decide ((x.length : Int) > 1) with
  | false => left; simp
  | true =>
    right
    cases x with
    | nil => simp at h
    | cons a r => exact ⟨a, r, rfl, rfl, by simp [hdB]⟩
theorem geW_cases (x : Str) : (geW x = false ∧ decide ((x.length : Int) > 2) = false) ∨ (decide ((x.length : Int) > 2) = true ∧ geW x = (x.take 2 == [62, 61])) := by
  unfold geW
  cases h : decide ((x.length : Int) > 2) with
  | false => left; simp
  | true => right; simp
theorem l_sg1 (x : Str) : EV Tryz.prog pol (.loop 255 122 0 [.ptr 0 0 0, .t (.list 1 [[.str x]]), .ptr 1 0 0, .t (.int .i64 0)] [.vs 2 [[.t (.str []), .t (.str [])]], .vs 2 [[.t (.str []), .t (.str [])]]])
    = some (cond (geW x) (.loop (.exit 0) [.ptr 0 0 0, .bad, .t (.list 1 [[.str x]]), .ptr 1 0 0] [.vs 2 [[.t (.str []), .t (.str [])]], .vs 2 [[.t (.str (x.drop 2)), .t (.str [])]]])
      (cond (ltW x) (.loop (.exit 0) [.ptr 0 0 0, .bad, .t (.list 1 [[.str x]]), .ptr 1 0 0] [.vs 2 [[.t (.str []), .t (.str [])]], .vs 2 [[.t (.str []), .t (.str (x.drop 1))]]])
        (.loop .ret [.ptr 0 0 0, .t (.bool false), .t (.list 1 [[.str x]]), .ptr 1 0 0] [.vs 2 [[.t (.str []), .t (.str [])]], .vs 2 [[.t (.str []), .t (.str [])]]]))) := by
  have E1 : ∀ lo' hi' : Str, EV Tryz.prog pol (.loop 255 122 0 [.ptr 0 0 0, .t (.list 1 [[.str x]]), .ptr 1 0 0, .t (.int .i64 1)] [.vs 2 [[.t (.str []), .t (.str [])]], .vs 2 [[.t (.str lo'), .t (.str hi')]]]) = some (.loop (.exit 0) [.ptr 0 0 0, .bad, .t (.list 1 [[.str x]]), .ptr 1 0 0] [.vs 2 [[.t (.str []), .t (.str [])]], .vs 2 [[.t (.str lo'), .t (.str hi')]]]) := fun lo' hi' => by
    refine loop_eq Tryz.func255 rfl rfl ?_
    simp (disch := ((try simp only [List.length_cons, List.length_append, List.length_nil, List.length_map]); omega)) only [↓GO, ↓DRW, GA, ren, renB, footX, refs, cellsV, cst, cstAt, nilC, idxAddr, E.load, E.store, binO, isC, bin, ibin, sbin, una, isShift, okCell, packV, lenV, blt, fnV, asArg, snapV, snapS, snapP, snapC, flatV, flatT, openK, layBack, allT, allZ, mkS, srcOf0, unN, idxV, nilEq, give, tupV, mkEnv, extV, pickV, LVS, OVS, LTS, TYS, PMS, pmT, Int.reduceToNat, Nat.reduceGT, ↓reduceIte, Nat.reduceAdd, Nat.reduceMul, Nat.reduceSub, Nat.reduceEqDiff, Nat.reduceLeDiff, Nat.reduceLT, Nat.reduceBEq, Int.reduceBEq, Int.reduceBNe, Int.reduceEq, Int.reduceLT, Int.reduceLE, Int.reduceGT, Int.reduceNeg, reduceCtorEq, Int.cast_ofNat_Int, getE_zero, getE_one, getE_two, Option.isSome_none, rch3]
  rcases geW_cases x with ⟨hg, g1⟩ | ⟨g1, hg⟩
  · rw [hg]
    rcases ltW_cases x with ⟨hl, g3⟩ | ⟨a, r, hx, g3, hl⟩
    · rw [hl]
      simp only [cond_false]
      refine loop_eq Tryz.func255 rfl rfl ?_
      simp (disch := ((try simp only [List.length_cons, List.length_append, List.length_nil, List.length_map]); omega)) only [↓GO, ↓DRW, GA, ren, renB, footX, refs, cellsV, cst, cstAt, nilC, idxAddr, E.load, E.store, binO, isC, bin, ibin, sbin, una, isShift, okCell, packV, lenV, blt, fnV, asArg, snapV, snapS, snapP, snapC, flatV, flatT, openK, layBack, allT, allZ, mkS, srcOf0, unN, idxV, nilEq, give, tupV, mkEnv, extV, pickV, LVS, OVS, LTS, TYS, PMS, pmT, Int.reduceToNat, Nat.reduceGT, ↓reduceIte, Nat.reduceAdd, Nat.reduceMul, Nat.reduceSub, Nat.reduceEqDiff, Nat.reduceLeDiff, Nat.reduceLT, Nat.reduceBEq, Int.reduceBEq, Int.reduceBNe, Int.reduceEq, Int.reduceLT, Int.reduceLE, Int.reduceGT, Int.reduceNeg, reduceCtorEq, Int.cast_ofNat_Int, getE_zero, getE_one, getE_two, Option.isSome_none, g1, g3, rch3, Int.reduceAdd, Int.reduceSub, wrap_in]
    · rw [hl]
      have h0 : x[0]? = some a := by rw [hx]; rfl
      have h60 := hd_eq a 60
      rw [show (((60 : UInt8).toNat : Nat) : Int) = 60 from rfl] at h60
      have hxl : 1 ≤ x.length := by rw [hx]; simp
      clear hx hl
      simp only [cond_false]
      cases hh : (a == 60) <;> rw [hh] at h60 <;> simp only [cond_true, cond_false]
      all_goals
        refine loop_eq Tryz.func255 rfl rfl ?_
        simp (disch := ((try simp only [List.length_cons, List.length_append, List.length_nil, List.length_map]); omega)) only [↓GO, ↓DRW, GA, ren, renB, footX, refs, cellsV, cst, cstAt, nilC, idxAddr, E.load, E.store, binO, isC, bin, ibin, sbin, una, isShift, okCell, packV, lenV, blt, fnV, asArg, snapV, snapS, snapP, snapC, flatV, flatT, openK, layBack, allT, allZ, mkS, srcOf0, unN, idxV, nilEq, give, tupV, mkEnv, extV, pickV, LVS, OVS, LTS, TYS, PMS, pmT, Int.reduceToNat, Nat.reduceGT, ↓reduceIte, Nat.reduceAdd, Nat.reduceMul, Nat.reduceSub, Nat.reduceEqDiff, Nat.reduceLeDiff, Nat.reduceLT, Nat.reduceBEq, Int.reduceBEq, Int.reduceBNe, Int.reduceEq, Int.reduceLT, Int.reduceLE, Int.reduceGT, Int.reduceNeg, reduceCtorEq, Int.cast_ofNat_Int, getE_zero, getE_one, getE_two, Option.isSome_none, g1, g3, h0, h60, E1, rch3, Int.reduceAdd, Int.reduceSub, wrap_in]
  · rw [hg]
    have h2 : 2 ≤ x.length := by have := of_decide_eq_true g1; omega
    cases ht : (x.take 2 == [62, 61]) with
    | true =>
      simp only [cond_true]
      refine loop_eq Tryz.func255 rfl rfl ?_
      simp (disch := ((try simp only [List.length_cons, List.length_append, List.length_nil, List.length_map]); omega)) only [↓GO, ↓DRW, GA, ren, renB, footX, refs, cellsV, cst, cstAt, nilC, idxAddr, E.load, E.store, binO, isC, bin, ibin, sbin, una, isShift, okCell, packV, lenV, blt, fnV, asArg, snapV, snapS, snapP, snapC, flatV, flatT, openK, layBack, allT, allZ, mkS, srcOf0, unN, idxV, nilEq, give, tupV, mkEnv, extV, pickV, LVS, OVS, LTS, TYS, PMS, pmT, Int.reduceToNat, Nat.reduceGT, ↓reduceIte, Nat.reduceAdd, Nat.reduceMul, Nat.reduceSub, Nat.reduceEqDiff, Nat.reduceLeDiff, Nat.reduceLT, Nat.reduceBEq, Int.reduceBEq, Int.reduceBNe, Int.reduceEq, Int.reduceLT, Int.reduceLE, Int.reduceGT, Int.reduceNeg, reduceCtorEq, Int.cast_ofNat_Int, getE_zero, getE_one, getE_two, Option.isSome_none, g1, ht, E1, rch3, Int.reduceAdd, Int.reduceSub, wrap_in]
    | false =>
      simp only [cond_false]
      rcases ltW_cases x with ⟨hl, g3⟩ | ⟨a, r, hx, g3, hl⟩
      · have := of_decide_eq_false g3; omega
      · rw [hl]
        have h0 : x[0]? = some a := by rw [hx]; rfl
        have h60 := hd_eq a 60
        rw [show (((60 : UInt8).toNat : Nat) : Int) = 60 from rfl] at h60
        clear hx hl
        cases hh : (a == 60) <;> rw [hh] at h60 <;> simp only [cond_true, cond_false]
        all_goals
          refine loop_eq Tryz.func255 rfl rfl ?_
          simp (disch := ((try simp only [List.length_cons, List.length_append, List.length_nil, List.length_map]); omega)) only [↓GO, ↓DRW, GA, ren, renB, footX, refs, cellsV, cst, cstAt, nilC, idxAddr, E.load, E.store, binO, isC, bin, ibin, sbin, una, isShift, okCell, packV, lenV, blt, fnV, asArg, snapV, snapS, snapP, snapC, flatV, flatT, openK, layBack, allT, allZ, mkS, srcOf0, unN, idxV, nilEq, give, tupV, mkEnv, extV, pickV, LVS, OVS, LTS, TYS, PMS, pmT, Int.reduceToNat, Nat.reduceGT, ↓reduceIte, Nat.reduceAdd, Nat.reduceMul, Nat.reduceSub, Nat.reduceEqDiff, Nat.reduceLeDiff, Nat.reduceLT, Nat.reduceBEq, Int.reduceBEq, Int.reduceBNe, Int.reduceEq, Int.reduceLT, Int.reduceLE, Int.reduceGT, Int.reduceNeg, reduceCtorEq, Int.cast_ofNat_Int, getE_zero, getE_one, getE_two, Option.isSome_none, g1, g3, ht, h0, h60, E1, rch3, Int.reduceAdd, Int.reduceSub, wrap_in]
/-- the first round, where there are more words -/
theorem l_sgA (x : Str) (ws : List (List T)) (n : Nat) (hn : n = ws.length) (h2 : 2 ≤ n) (hl : n ≤ 4194304) (h0 : ws[0]? = some [.str x]) (B : Resp)
    (IH : geW x = true → EV Tryz.prog pol (.loop 255 122 0 [.ptr 0 0 0, .t (.list 1 ws), .ptr 1 0 0, .t (.int .i64 1)] [.vs 2 [[.t (.str []), .t (.str [])]], .vs 2 [[.t (.str (x.drop 2)), .t (.str [])]]]) = some B) :
    EV Tryz.prog pol (.loop 255 122 0 [.ptr 0 0 0, .t (.list 1 ws), .ptr 1 0 0, .t (.int .i64 0)] [.vs 2 [[.t (.str []), .t (.str [])]], .vs 2 [[.t (.str []), .t (.str [])]]])
    = some (cond (geW x) B (.loop .ret [.ptr 0 0 0, .t (.bool false), .t (.list 1 ws), .ptr 1 0 0] [.vs 2 [[.t (.str []), .t (.str [])]], .vs 2 [[.t (.str []), .t (.str [])]]])) := by
  have c0 : decide ((0 : Int) < (ws.length : Int)) = true := decide_eq_true (by omega)
  have c1 : ((0 : Int) == (ws.length : Int) - 1) = false := by rw [beq_eq_false_iff_ne]; omega
  have hg0 : getE ws 0 = some [.str x] := by rw [getE_zero]; exact h0
  subst hn
  rcases geW_cases x with ⟨hg, g1⟩ | ⟨g1, hg⟩
  · rw [hg]
    simp only [cond_false]
    refine loop_eq Tryz.func255 rfl rfl ?_
    simp (disch := ((try simp only [List.length_cons, List.length_append, List.length_nil, List.length_map]); omega)) only [↓GO, ↓DRW, GA, ren, renB, footX, refs, cellsV, cst, cstAt, nilC, idxAddr, E.load, E.store, binO, isC, bin, ibin, sbin, una, isShift, okCell, packV, lenV, blt, fnV, asArg, snapV, snapS, snapP, snapC, flatV, flatT, openK, layBack, allT, allZ, mkS, srcOf0, unN, idxV, nilEq, give, tupV, mkEnv, extV, pickV, LVS, OVS, LTS, TYS, PMS, pmT, Int.reduceToNat, Nat.reduceGT, ↓reduceIte, Nat.reduceAdd, Nat.reduceMul, Nat.reduceSub, Nat.reduceEqDiff, Nat.reduceLeDiff, Nat.reduceLT, Nat.reduceBEq, Int.reduceBEq, Int.reduceBNe, Int.reduceEq, Int.reduceLT, Int.reduceLE, Int.reduceGT, Int.reduceNeg, reduceCtorEq, Int.cast_ofNat_Int, getE_zero, getE_one, getE_two, Option.isSome_none, c0, c1, h0, hg0, g1, rch3, wrap_in]
  · rw [hg] at IH ⊢
    have hx2 : 2 ≤ x.length := by have := of_decide_eq_true g1; omega
    cases ht : (x.take 2 == [62, 61]) <;> rw [ht] at IH <;> simp only [cond_true, cond_false]
    · refine loop_eq Tryz.func255 rfl rfl ?_
      simp (disch := ((try simp only [List.length_cons, List.length_append, List.length_nil, List.length_map]); omega)) only [↓GO, ↓DRW, GA, ren, renB, footX, refs, cellsV, cst, cstAt, nilC, idxAddr, E.load, E.store, binO, isC, bin, ibin, sbin, una, isShift, okCell, packV, lenV, blt, fnV, asArg, snapV, snapS, snapP, snapC, flatV, flatT, openK, layBack, allT, allZ, mkS, srcOf0, unN, idxV, nilEq, give, tupV, mkEnv, extV, pickV, LVS, OVS, LTS, TYS, PMS, pmT, Int.reduceToNat, Nat.reduceGT, ↓reduceIte, Nat.reduceAdd, Nat.reduceMul, Nat.reduceSub, Nat.reduceEqDiff, Nat.reduceLeDiff, Nat.reduceLT, Nat.reduceBEq, Int.reduceBEq, Int.reduceBNe, Int.reduceEq, Int.reduceLT, Int.reduceLE, Int.reduceGT, Int.reduceNeg, reduceCtorEq, Int.cast_ofNat_Int, getE_zero, getE_one, getE_two, Option.isSome_none, c0, c1, h0, hg0, g1, ht, rch3, wrap_in]
    · have IH := IH rfl
      refine loop_eq Tryz.func255 rfl rfl ?_
      simp (disch := ((try simp only [List.length_cons, List.length_append, List.length_nil, List.length_map]); omega)) only [↓GO, ↓DRW, GA, ren, renB, footX, refs, cellsV, cst, cstAt, nilC, idxAddr, E.load, E.store, binO, isC, bin, ibin, sbin, una, isShift, okCell, packV, lenV, blt, fnV, asArg, snapV, snapS, snapP, snapC, flatV, flatT, openK, layBack, allT, allZ, mkS, srcOf0, unN, idxV, nilEq, give, tupV, mkEnv, extV, pickV, LVS, OVS, LTS, TYS, PMS, pmT, Int.reduceToNat, Nat.reduceGT, ↓reduceIte, Nat.reduceAdd, Nat.reduceMul, Nat.reduceSub, Nat.reduceEqDiff, Nat.reduceLeDiff, Nat.reduceLT, Nat.reduceBEq, Int.reduceBEq, Int.reduceBNe, Int.reduceEq, Int.reduceLT, Int.reduceLE, Int.reduceGT, Int.reduceNeg, reduceCtorEq, Int.cast_ofNat_Int, getE_zero, getE_one, getE_two, Option.isSome_none, c0, c1, h0, hg0, g1, ht, IH, rch3, wrap_in, Int.reduceAdd]
theorem l_sg2 (x y lo : Str) : EV Tryz.prog pol (.loop 255 122 0 [.ptr 0 0 0, .t (.list 1 [[.str x], [.str y]]), .ptr 1 0 0, .t (.int .i64 1)] [.vs 2 [[.t (.str []), .t (.str [])]], .vs 2 [[.t (.str lo), .t (.str [])]]])
    = some (cond (ltW y) (.loop (.exit 0) [.ptr 0 0 0, .bad, .t (.list 1 [[.str x], [.str y]]), .ptr 1 0 0] [.vs 2 [[.t (.str []), .t (.str [])]], .vs 2 [[.t (.str lo), .t (.str (y.drop 1))]]])
        (.loop .ret [.ptr 0 0 0, .t (.bool false), .t (.list 1 [[.str x], [.str y]]), .ptr 1 0 0] [.vs 2 [[.t (.str []), .t (.str [])]], .vs 2 [[.t (.str lo), .t (.str [])]]])) := by
  have E1 : ∀ lo' hi' : Str, EV Tryz.prog pol (.loop 255 122 0 [.ptr 0 0 0, .t (.list 1 [[.str x], [.str y]]), .ptr 1 0 0, .t (.int .i64 2)] [.vs 2 [[.t (.str []), .t (.str [])]], .vs 2 [[.t (.str lo'), .t (.str hi')]]]) = some (.loop (.exit 0) [.ptr 0 0 0, .bad, .t (.list 1 [[.str x], [.str y]]), .ptr 1 0 0] [.vs 2 [[.t (.str []), .t (.str [])]], .vs 2 [[.t (.str lo'), .t (.str hi')]]]) := fun lo' hi' => by
    refine loop_eq Tryz.func255 rfl rfl ?_
    simp (disch := ((try simp only [List.length_cons, List.length_append, List.length_nil, List.length_map]); omega)) only [↓GO, ↓DRW, GA, ren, renB, footX, refs, cellsV, cst, cstAt, nilC, idxAddr, E.load, E.store, binO, isC, bin, ibin, sbin, una, isShift, okCell, packV, lenV, blt, fnV, asArg, snapV, snapS, snapP, snapC, flatV, flatT, openK, layBack, allT, allZ, mkS, srcOf0, unN, idxV, nilEq, give, tupV, mkEnv, extV, pickV, LVS, OVS, LTS, TYS, PMS, pmT, Int.reduceToNat, Nat.reduceGT, ↓reduceIte, Nat.reduceAdd, Nat.reduceMul, Nat.reduceSub, Nat.reduceEqDiff, Nat.reduceLeDiff, Nat.reduceLT, Nat.reduceBEq, Int.reduceBEq, Int.reduceBNe, Int.reduceEq, Int.reduceLT, Int.reduceLE, Int.reduceGT, Int.reduceNeg, reduceCtorEq, Int.cast_ofNat_Int, getE_zero, getE_one, getE_two, Option.isSome_none, rch3]
  rcases ltW_cases y with ⟨hl, g3⟩ | ⟨a, r, hx, g3, hl⟩
  · rw [hl]
    simp only [cond_false]
    refine loop_eq Tryz.func255 rfl rfl ?_
    simp (disch := ((try simp only [List.length_cons, List.length_append, List.length_nil, List.length_map]); omega)) only [↓GO, ↓DRW, GA, ren, renB, footX, refs, cellsV, cst, cstAt, nilC, idxAddr, E.load, E.store, binO, isC, bin, ibin, sbin, una, isShift, okCell, packV, lenV, blt, fnV, asArg, snapV, snapS, snapP, snapC, flatV, flatT, openK, layBack, allT, allZ, mkS, srcOf0, unN, idxV, nilEq, give, tupV, mkEnv, extV, pickV, LVS, OVS, LTS, TYS, PMS, pmT, Int.reduceToNat, Nat.reduceGT, ↓reduceIte, Nat.reduceAdd, Nat.reduceMul, Nat.reduceSub, Nat.reduceEqDiff, Nat.reduceLeDiff, Nat.reduceLT, Nat.reduceBEq, Int.reduceBEq, Int.reduceBNe, Int.reduceEq, Int.reduceLT, Int.reduceLE, Int.reduceGT, Int.reduceNeg, reduceCtorEq, Int.cast_ofNat_Int, getE_zero, getE_one, getE_two, Option.isSome_none, g3, rch3, Int.reduceAdd, Int.reduceSub, wrap_in]
  · rw [hl]
    have h0 : y[0]? = some a := by rw [hx]; rfl
    have h60 := hd_eq a 60
    rw [show (((60 : UInt8).toNat : Nat) : Int) = 60 from rfl] at h60
    have hxl : 1 ≤ y.length := by rw [hx]; simp
    clear hx hl
    cases hh : (a == 60) <;> rw [hh] at h60 <;> simp only [cond_true, cond_false]
    all_goals
      refine loop_eq Tryz.func255 rfl rfl ?_
      simp (disch := ((try simp only [List.length_cons, List.length_append, List.length_nil, List.length_map]); omega)) only [↓GO, ↓DRW, GA, ren, renB, footX, refs, cellsV, cst, cstAt, nilC, idxAddr, E.load, E.store, binO, isC, bin, ibin, sbin, una, isShift, okCell, packV, lenV, blt, fnV, asArg, snapV, snapS, snapP, snapC, flatV, flatT, openK, layBack, allT, allZ, mkS, srcOf0, unN, idxV, nilEq, give, tupV, mkEnv, extV, pickV, LVS, OVS, LTS, TYS, PMS, pmT, Int.reduceToNat, Nat.reduceGT, ↓reduceIte, Nat.reduceAdd, Nat.reduceMul, Nat.reduceSub, Nat.reduceEqDiff, Nat.reduceLeDiff, Nat.reduceLT, Nat.reduceBEq, Int.reduceBEq, Int.reduceBNe, Int.reduceEq, Int.reduceLT, Int.reduceLE, Int.reduceGT, Int.reduceNeg, reduceCtorEq, Int.cast_ofNat_Int, getE_zero, getE_one, getE_two, Option.isSome_none, g3, h0, h60, E1, rch3, Int.reduceAdd, Int.reduceSub, wrap_in]
theorem l_sg3 (x y lo : Str) (ws : List (List T)) (n : Nat) (hn : n = ws.length) (h2 : 3 ≤ n) (hl : n ≤ 4194304) : EV Tryz.prog pol (.loop 255 122 0 [.ptr 0 0 0, .t (.list 1 ws), .ptr 1 0 0, .t (.int .i64 1)] [.vs 2 [[.t (.str []), .t (.str [])]], .vs 2 [[.t (.str lo), .t (.str [])]]])
    = some (.loop .ret [.ptr 0 0 0, .t (.bool false), .t (.list 1 ws), .ptr 1 0 0] [.vs 2 [[.t (.str []), .t (.str [])]], .vs 2 [[.t (.str lo), .t (.str [])]]]) := by
  have c0 : decide ((1 : Int) < (ws.length : Int)) = true := decide_eq_true (by omega)
  have c1 : ((1 : Int) == (ws.length : Int) - 1) = false := by rw [beq_eq_false_iff_ne]; omega
  subst hn
  refine loop_eq Tryz.func255 rfl rfl ?_
  simp (disch := ((try simp only [List.length_cons, List.length_append, List.length_nil, List.length_map]); omega)) only [↓GO, ↓DRW, GA, ren, renB, footX, refs, cellsV, cst, cstAt, nilC, idxAddr, E.load, E.store, binO, isC, bin, ibin, sbin, una, isShift, okCell, packV, lenV, blt, fnV, asArg, snapV, snapS, snapP, snapC, flatV, flatT, openK, layBack, allT, allZ, mkS, srcOf0, unN, idxV, nilEq, give, tupV, mkEnv, extV, pickV, LVS, OVS, LTS, TYS, PMS, pmT, Int.reduceToNat, Nat.reduceGT, ↓reduceIte, Nat.reduceAdd, Nat.reduceMul, Nat.reduceSub, Nat.reduceEqDiff, Nat.reduceLeDiff, Nat.reduceLT, Nat.reduceBEq, Int.reduceBEq, Int.reduceBNe, Int.reduceEq, Int.reduceLT, Int.reduceLE, Int.reduceGT, Int.reduceNeg, reduceCtorEq, Int.cast_ofNat_Int, getE_zero, getE_one, getE_two, Option.isSome_none, c0, c1, rch3, wrap_in]
theorem c_signsR (s : Str) (hl : s.length ≤ 1048600) : callPure (EV Tryz.prog pol) 255 [.t (.str s)] = some (bT (signsR s)) := by
  have h1 := c_words s (by omega)
  have hbk := bulk_cutS 32 s
  unfold signsR
  match hp : cutS 32 s with
  | [] => exact absurd hp (cutS_ne 32 s)
  | [x] =>
    rw [hp] at h1 hbk
    simp only [bulkS, List.length_cons, List.length_nil] at hbk
    have L := l_sg1 x
    have hd2 : (x.drop 2).length ≤ x.length := by rw [List.length_drop]; omega
    have hd1 : (x.drop 1).length ≤ x.length := by rw [List.length_drop]; omega
    have r1 := c_rokR [(x.drop 2, [])] (by simp) (by simp; omega)
    have r2 := c_rokR [([], x.drop 1)] (by simp) (by simp; omega)
    rw [range1] at r1 r2
    simp only [bdT, List.map_cons, List.map_nil, strs_cons, strs_nil] at r1 r2 h1 ⊢
    generalize (isE (x.drop 2) && isE []) = k1 at *
    generalize (isE [] && isE (x.drop 1)) = k2 at *
    cases hg : geW x <;> rw [hg] at L <;> simp only [cond_true, cond_false] at L ⊢
    · cases hq : ltW x <;> rw [hq] at L <;> simp only [cond_true, cond_false] at L ⊢
      · simp only [bT]
        apply eq_call
        refine call_eq rfl Tryz.func255 rfl (by kernel_rfl) ?_
        unfold Tryz.f255
        simp (disch := ((try simp only [List.length_cons, List.length_append, List.length_nil, List.length_map]); omega)) only [↓GO, ↓DRW, GA, ren, renB, footX, refs, cellsV, cst, cstAt, nilC, idxAddr, E.load, E.store, binO, isC, bin, ibin, sbin, una, isShift, okCell, packV, lenV, blt, fnV, asArg, snapV, snapS, snapP, snapC, flatV, flatT, openK, layBack, allT, allZ, mkS, srcOf0, unN, idxV, nilEq, give, tupV, mkEnv, extV, pickV, LVS, OVS, LTS, TYS, PMS, pmT, Int.reduceToNat, Nat.reduceGT, ↓reduceIte, Nat.reduceAdd, Nat.reduceMul, Nat.reduceSub, Nat.reduceEqDiff, Nat.reduceLeDiff, Nat.reduceLT, Nat.reduceBEq, Int.reduceBEq, Int.reduceBNe, Int.reduceEq, Int.reduceLT, Int.reduceLE, Int.reduceGT, Int.reduceNeg, reduceCtorEq, Int.cast_ofNat_Int, getE_zero, getE_one, getE_two, Option.isSome_none, h1, L, rch3]
      · cases k2 <;> simp only [cond_true, cond_false, bT]
        all_goals
          apply eq_call
          refine call_eq rfl Tryz.func255 rfl (by kernel_rfl) ?_
          unfold Tryz.f255
          simp (disch := ((try simp only [List.length_cons, List.length_append, List.length_nil, List.length_map]); omega)) only [↓GO, ↓DRW, GA, ren, renB, footX, refs, cellsV, cst, cstAt, nilC, idxAddr, E.load, E.store, binO, isC, bin, ibin, sbin, una, isShift, okCell, packV, lenV, blt, fnV, asArg, snapV, snapS, snapP, snapC, flatV, flatT, openK, layBack, allT, allZ, mkS, srcOf0, unN, idxV, nilEq, give, tupV, mkEnv, extV, pickV, LVS, OVS, LTS, TYS, PMS, pmT, Int.reduceToNat, Nat.reduceGT, ↓reduceIte, Nat.reduceAdd, Nat.reduceMul, Nat.reduceSub, Nat.reduceEqDiff, Nat.reduceLeDiff, Nat.reduceLT, Nat.reduceBEq, Int.reduceBEq, Int.reduceBNe, Int.reduceEq, Int.reduceLT, Int.reduceLE, Int.reduceGT, Int.reduceNeg, reduceCtorEq, Int.cast_ofNat_Int, getE_zero, getE_one, getE_two, Option.isSome_none, h1, L, r2, rch3]
    · cases k1 <;> simp only [cond_true, cond_false, bT]
      all_goals
        apply eq_call
        refine call_eq rfl Tryz.func255 rfl (by kernel_rfl) ?_
        unfold Tryz.f255
        simp (disch := ((try simp only [List.length_cons, List.length_append, List.length_nil, List.length_map]); omega)) only [↓GO, ↓DRW, GA, ren, renB, footX, refs, cellsV, cst, cstAt, nilC, idxAddr, E.load, E.store, binO, isC, bin, ibin, sbin, una, isShift, okCell, packV, lenV, blt, fnV, asArg, snapV, snapS, snapP, snapC, flatV, flatT, openK, layBack, allT, allZ, mkS, srcOf0, unN, idxV, nilEq, give, tupV, mkEnv, extV, pickV, LVS, OVS, LTS, TYS, PMS, pmT, Int.reduceToNat, Nat.reduceGT, ↓reduceIte, Nat.reduceAdd, Nat.reduceMul, Nat.reduceSub, Nat.reduceEqDiff, Nat.reduceLeDiff, Nat.reduceLT, Nat.reduceBEq, Int.reduceBEq, Int.reduceBNe, Int.reduceEq, Int.reduceLT, Int.reduceLE, Int.reduceGT, Int.reduceNeg, reduceCtorEq, Int.cast_ofNat_Int, getE_zero, getE_one, getE_two, Option.isSome_none, h1, L, r1, rch3]
  | [x, y] =>
    rw [hp] at h1 hbk
    simp only [bulkS, List.length_cons, List.length_nil] at hbk
    have L2 := l_sg2 x y (x.drop 2)
    have L := l_sgA x [[.str x], [.str y]] 2 rfl (by omega) (by omega) rfl _ (fun _ => L2)
    have hd2 : (x.drop 2).length ≤ x.length := by rw [List.length_drop]; omega
    have hd1 : (y.drop 1).length ≤ y.length := by rw [List.length_drop]; omega
    have r1 := c_rokR [(x.drop 2, y.drop 1)] (by simp) (by simp; omega)
    rw [range1] at r1
    simp only [bdT, List.map_cons, List.map_nil, strs_cons, strs_nil] at r1 h1 ⊢
    generalize (isE (x.drop 2) && isE (y.drop 1)) = k1 at *
    clear L2
    cases hg : geW x <;> rw [hg] at L <;> simp only [cond_true, cond_false] at L ⊢
    · simp only [bT]
      apply eq_call
      refine call_eq rfl Tryz.func255 rfl (by kernel_rfl) ?_
      unfold Tryz.f255
      simp (disch := ((try simp only [List.length_cons, List.length_append, List.length_nil, List.length_map]); omega)) only [↓GO, ↓DRW, GA, ren, renB, footX, refs, cellsV, cst, cstAt, nilC, idxAddr, E.load, E.store, binO, isC, bin, ibin, sbin, una, isShift, okCell, packV, lenV, blt, fnV, asArg, snapV, snapS, snapP, snapC, flatV, flatT, openK, layBack, allT, allZ, mkS, srcOf0, unN, idxV, nilEq, give, tupV, mkEnv, extV, pickV, LVS, OVS, LTS, TYS, PMS, pmT, Int.reduceToNat, Nat.reduceGT, ↓reduceIte, Nat.reduceAdd, Nat.reduceMul, Nat.reduceSub, Nat.reduceEqDiff, Nat.reduceLeDiff, Nat.reduceLT, Nat.reduceBEq, Int.reduceBEq, Int.reduceBNe, Int.reduceEq, Int.reduceLT, Int.reduceLE, Int.reduceGT, Int.reduceNeg, reduceCtorEq, Int.cast_ofNat_Int, getE_zero, getE_one, getE_two, Option.isSome_none, h1, L, rch3]
    · cases hq : ltW y <;> rw [hq] at L <;> simp only [cond_true, cond_false] at L ⊢
      · simp only [bT]
        apply eq_call
        refine call_eq rfl Tryz.func255 rfl (by kernel_rfl) ?_
        unfold Tryz.f255
        simp (disch := ((try simp only [List.length_cons, List.length_append, List.length_nil, List.length_map]); omega)) only [↓GO, ↓DRW, GA, ren, renB, footX, refs, cellsV, cst, cstAt, nilC, idxAddr, E.load, E.store, binO, isC, bin, ibin, sbin, una, isShift, okCell, packV, lenV, blt, fnV, asArg, snapV, snapS, snapP, snapC, flatV, flatT, openK, layBack, allT, allZ, mkS, srcOf0, unN, idxV, nilEq, give, tupV, mkEnv, extV, pickV, LVS, OVS, LTS, TYS, PMS, pmT, Int.reduceToNat, Nat.reduceGT, ↓reduceIte, Nat.reduceAdd, Nat.reduceMul, Nat.reduceSub, Nat.reduceEqDiff, Nat.reduceLeDiff, Nat.reduceLT, Nat.reduceBEq, Int.reduceBEq, Int.reduceBNe, Int.reduceEq, Int.reduceLT, Int.reduceLE, Int.reduceGT, Int.reduceNeg, reduceCtorEq, Int.cast_ofNat_Int, getE_zero, getE_one, getE_two, Option.isSome_none, h1, L, rch3]
      · cases k1 <;> simp only [cond_true, cond_false, bT]
        all_goals
          apply eq_call
          refine call_eq rfl Tryz.func255 rfl (by kernel_rfl) ?_
          unfold Tryz.f255
          simp (disch := ((try simp only [List.length_cons, List.length_append, List.length_nil, List.length_map]); omega)) only [↓GO, ↓DRW, GA, ren, renB, footX, refs, cellsV, cst, cstAt, nilC, idxAddr, E.load, E.store, binO, isC, bin, ibin, sbin, una, isShift, okCell, packV, lenV, blt, fnV, asArg, snapV, snapS, snapP, snapC, flatV, flatT, openK, layBack, allT, allZ, mkS, srcOf0, unN, idxV, nilEq, give, tupV, mkEnv, extV, pickV, LVS, OVS, LTS, TYS, PMS, pmT, Int.reduceToNat, Nat.reduceGT, ↓reduceIte, Nat.reduceAdd, Nat.reduceMul, Nat.reduceSub, Nat.reduceEqDiff, Nat.reduceLeDiff, Nat.reduceLT, Nat.reduceBEq, Int.reduceBEq, Int.reduceBNe, Int.reduceEq, Int.reduceLT, Int.reduceLE, Int.reduceGT, Int.reduceNeg, reduceCtorEq, Int.cast_ofNat_Int, getE_zero, getE_one, getE_two, Option.isSome_none, h1, L, r1, rch3]
  | x :: y :: z :: r =>
    rw [hp] at h1 hbk
    have hn : (strs (x :: y :: z :: r)).length = r.length + 3 := by rw [strs_len]; simp
    have hb3 : r.length + 3 ≤ 4194304 := by simp only [List.length_cons] at hbk; omega
    have L := l_sgA x (strs (x :: y :: z :: r)) _ rfl (by omega) (by omega) rfl _ (fun _ => l_sg3 x y (x.drop 2) (strs (x :: y :: z :: r)) _ rfl (by omega) (by omega))
    simp only [bT]
    generalize strs (x :: y :: z :: r) = ws at *
    cases hg : geW x <;> rw [hg] at L <;> simp only [cond_true, cond_false] at L
    all_goals
      apply eq_call
      refine call_eq rfl Tryz.func255 rfl (by kernel_rfl) ?_
      unfold Tryz.f255
      simp (disch := ((try simp only [List.length_cons, List.length_append, List.length_nil, List.length_map]); omega)) only [↓GO, ↓DRW, GA, ren, renB, footX, refs, cellsV, cst, cstAt, nilC, idxAddr, E.load, E.store, binO, isC, bin, ibin, sbin, una, isShift, okCell, packV, lenV, blt, fnV, asArg, snapV, snapS, snapP, snapC, flatV, flatT, openK, layBack, allT, allZ, mkS, srcOf0, unN, idxV, nilEq, give, tupV, mkEnv, extV, pickV, LVS, OVS, LTS, TYS, PMS, pmT, Int.reduceToNat, Nat.reduceGT, ↓reduceIte, Nat.reduceAdd, Nat.reduceMul, Nat.reduceSub, Nat.reduceEqDiff, Nat.reduceLeDiff, Nat.reduceLT, Nat.reduceBEq, Int.reduceBEq, Int.reduceBNe, Int.reduceEq, Int.reduceLT, Int.reduceLE, Int.reduceGT, Int.reduceNeg, reduceCtorEq, Int.cast_ofNat_Int, getE_zero, getE_one, getE_two, Option.isSome_none, h1, L, rch3]
end Go.Proofs.YtkpmachalipmpaaGreatDoor
/- Ranges, by the reference: the whole. Conditions: those of each lemma. -/
namespace Go.Proofs.YtkpmachalipmpaaGreatDoor
open E
set_option linter.unusedSimpArgs false
set_option linter.unusedVariables false
set_option maxRecDepth 100000
set_option maxHeartbeats 4000000 in
theorem c_partR (s : Str) (hl : s.length ≤ 1048576) : callPure (EV Tryz.prog pol) 177 [.t (.str s)] = some (bT (partR s)) := by
  have hs := c_signsR s (by omega)
  have ha := c_aloneR s (by omega)
  rw [alT_bT] at ha
  have hsh := c_shortR s (by omega)
  have hd1 : (s.drop 1).length ≤ s.length := by rw [List.length_drop]; omega
  have hrv := c_rvR (s.drop 1) (by omega)
  obtain ⟨m1, m2, m3, m4, m5, m6, m7⟩ := readVer_sm (s.drop 1) (by omega)
  have hf1 := c_from (s.drop 1) (readVer (s.drop 1)).1 1 m1 (by omega) ⟨m3, m2⟩ ⟨m5, m4⟩ ⟨m7, m6⟩
  have hf2 := c_from (s.drop 1) (readVer (s.drop 1)).1 (caretR (readVer (s.drop 1)).1) m1 (caretR_in _) ⟨m3, m2⟩ ⟨m5, m4⟩ ⟨m7, m6⟩
  have hc := c_caretR (readVer (s.drop 1)).1
  unfold rvT at hrv
  rw [show (readVer (s.drop 1)).2 = isV (s.drop 1) from rfl] at hrv
  unfold partR
  generalize signsR s = sg at *
  generalize exactB s = ex at *
  generalize shortR s = sh at *
  generalize isV (s.drop 1) = iv at *
  generalize caretR (readVer (s.drop 1)).1 = cr at *
  generalize hfd : fromR (readVer (s.drop 1)).1 (s.drop 1) 1 = f1 at *
  generalize hfc : fromR (readVer (s.drop 1)).1 (s.drop 1) cr = f2 at *
  generalize (readVer (s.drop 1)).1 = v at *
  simp only [Ver.enc, List.map_cons, List.map_nil] at hrv hf1 hf2 hc
  cases h42 : (s == [42]) with
  | true =>
    simp only [cond_true, bT]
    apply eq_call
    refine call_eq rfl Tryz.func177 rfl (by kernel_rfl) ?_
    unfold Tryz.f177
    simp (disch := ((try simp only [List.length_cons, List.length_append, List.length_nil, List.length_map]); omega)) only [↓GO, ↓DRW, GA, ren, renB, footX, refs, cellsV, cst, cstAt, nilC, idxAddr, E.load, E.store, binO, isC, bin, ibin, sbin, una, isShift, okCell, packV, lenV, blt, fnV, asArg, snapV, snapS, snapP, snapC, flatV, flatT, openK, layBack, allT, allZ, mkS, srcOf0, unN, idxV, nilEq, give, tupV, mkEnv, extV, pickV, LVS, OVS, LTS, TYS, PMS, pmT, Int.reduceToNat, Nat.reduceGT, ↓reduceIte, Nat.reduceAdd, Nat.reduceMul, Nat.reduceSub, Nat.reduceEqDiff, Nat.reduceLeDiff, Nat.reduceLT, Nat.reduceBEq, Int.reduceBEq, Int.reduceBNe, Int.reduceEq, Int.reduceLT, Int.reduceLE, Int.reduceGT, Int.reduceNeg, reduceCtorEq, Int.cast_ofNat_Int, getE_zero, getE_one, getE_two, Option.isSome_none, h42]
  | false =>
    simp only [cond_false]
    match s with
    | [] =>
      have z1 : decide ((([] : Str).length : Int) > 1) = false := rfl
      have z0 : decide ((([] : Str).length : Int) > 0) = false := rfl
      rw [z1, z0]
      simp only [Bool.false_and, cond_false]
      cases ex <;> cases sh <;> simp only [bT] at ha hsh ⊢
      all_goals
        apply eq_call
        refine call_eq rfl Tryz.func177 rfl (by kernel_rfl) ?_
        unfold Tryz.f177
        simp (disch := ((try simp only [List.length_cons, List.length_append, List.length_nil, List.length_map]); omega)) only [↓GO, ↓DRW, GA, ren, renB, footX, refs, cellsV, cst, cstAt, nilC, idxAddr, E.load, E.store, binO, isC, bin, ibin, sbin, una, isShift, okCell, packV, lenV, blt, fnV, asArg, snapV, snapS, snapP, snapC, flatV, flatT, openK, layBack, allT, allZ, mkS, srcOf0, unN, idxV, nilEq, give, tupV, mkEnv, extV, pickV, LVS, OVS, LTS, TYS, PMS, pmT, Int.reduceToNat, Nat.reduceGT, ↓reduceIte, Nat.reduceAdd, Nat.reduceMul, Nat.reduceSub, Nat.reduceEqDiff, Nat.reduceLeDiff, Nat.reduceLT, Nat.reduceBEq, Int.reduceBEq, Int.reduceBNe, Int.reduceEq, Int.reduceLT, Int.reduceLE, Int.reduceGT, Int.reduceNeg, reduceCtorEq, Int.cast_ofNat_Int, getE_zero, getE_one, getE_two, Option.isSome_none, h42, z1, z0, ha, hsh]
    | x :: r =>
      have z0 : decide (((x :: r).length : Int) > 0) = true := by apply decide_eq_true; simp only [List.length_cons]; omega
      have h0 : (x :: r)[0]? = some x := rfl
      have h94 := hd_eq x 94
      have h126 := hd_eq x 126
      have h62 := hd_eq x 62
      have h60 := hd_eq x 60
      rw [show (((94 : UInt8).toNat : Nat) : Int) = 94 from rfl] at h94
      rw [show (((126 : UInt8).toNat : Nat) : Int) = 126 from rfl] at h126
      rw [show (((62 : UInt8).toNat : Nat) : Int) = 62 from rfl] at h62
      rw [show (((60 : UInt8).toNat : Nat) : Int) = 60 from rfl] at h60
      have hx1 : 1 ≤ (x :: r).length := by simp
      simp only [hdB]
      rw [z0]
      generalize x :: r = xs at *
      cases z1 : decide ((xs.length : Int) > 1)
      · simp only [Bool.true_and, Bool.false_and, Bool.or_true, Bool.or_false, Bool.true_or, Bool.false_or, cond_true, cond_false, hfc, hfd]
        cases e62 : (x == 62) <;> rw [e62] at h62
        · cases e60 : (x == 60) <;> rw [e60] at h60 <;> simp only [Bool.true_and, Bool.false_and, Bool.or_true, Bool.or_false, Bool.true_or, Bool.false_or, cond_true, cond_false, hfc, hfd]
          · cases ex <;> cases sh <;> simp only [bT] at ha hsh ⊢
            all_goals
              apply eq_call
              refine call_eq rfl Tryz.func177 rfl (by kernel_rfl) ?_
              unfold Tryz.f177
              simp (disch := ((try simp only [List.length_cons, List.length_append, List.length_nil, List.length_map]); omega)) only [↓GO, ↓DRW, GA, ren, renB, footX, refs, cellsV, cst, cstAt, nilC, idxAddr, E.load, E.store, binO, isC, bin, ibin, sbin, una, isShift, okCell, packV, lenV, blt, fnV, asArg, snapV, snapS, snapP, snapC, flatV, flatT, openK, layBack, allT, allZ, mkS, srcOf0, unN, idxV, nilEq, give, tupV, mkEnv, extV, pickV, LVS, OVS, LTS, TYS, PMS, pmT, Int.reduceToNat, Nat.reduceGT, ↓reduceIte, Nat.reduceAdd, Nat.reduceMul, Nat.reduceSub, Nat.reduceEqDiff, Nat.reduceLeDiff, Nat.reduceLT, Nat.reduceBEq, Int.reduceBEq, Int.reduceBNe, Int.reduceEq, Int.reduceLT, Int.reduceLE, Int.reduceGT, Int.reduceNeg, reduceCtorEq, Int.cast_ofNat_Int, getE_zero, getE_one, getE_two, Option.isSome_none, h42, z1, z0, h0, h62, h60, ha, hsh, rch3]
          · cases sg <;> simp only [bT] at hs ⊢
            all_goals
              apply eq_call
              refine call_eq rfl Tryz.func177 rfl (by kernel_rfl) ?_
              unfold Tryz.f177
              simp (disch := ((try simp only [List.length_cons, List.length_append, List.length_nil, List.length_map]); omega)) only [↓GO, ↓DRW, GA, ren, renB, footX, refs, cellsV, cst, cstAt, nilC, idxAddr, E.load, E.store, binO, isC, bin, ibin, sbin, una, isShift, okCell, packV, lenV, blt, fnV, asArg, snapV, snapS, snapP, snapC, flatV, flatT, openK, layBack, allT, allZ, mkS, srcOf0, unN, idxV, nilEq, give, tupV, mkEnv, extV, pickV, LVS, OVS, LTS, TYS, PMS, pmT, Int.reduceToNat, Nat.reduceGT, ↓reduceIte, Nat.reduceAdd, Nat.reduceMul, Nat.reduceSub, Nat.reduceEqDiff, Nat.reduceLeDiff, Nat.reduceLT, Nat.reduceBEq, Int.reduceBEq, Int.reduceBNe, Int.reduceEq, Int.reduceLT, Int.reduceLE, Int.reduceGT, Int.reduceNeg, reduceCtorEq, Int.cast_ofNat_Int, getE_zero, getE_one, getE_two, Option.isSome_none, h42, z1, z0, h0, h62, h60, hs, rch3]
        · simp only [Bool.true_and, Bool.false_and, Bool.or_true, Bool.or_false, Bool.true_or, Bool.false_or, cond_true, cond_false, hfc, hfd]
          cases sg <;> simp only [bT] at hs ⊢
          all_goals
            apply eq_call
            refine call_eq rfl Tryz.func177 rfl (by kernel_rfl) ?_
            unfold Tryz.f177
            simp (disch := ((try simp only [List.length_cons, List.length_append, List.length_nil, List.length_map]); omega)) only [↓GO, ↓DRW, GA, ren, renB, footX, refs, cellsV, cst, cstAt, nilC, idxAddr, E.load, E.store, binO, isC, bin, ibin, sbin, una, isShift, okCell, packV, lenV, blt, fnV, asArg, snapV, snapS, snapP, snapC, flatV, flatT, openK, layBack, allT, allZ, mkS, srcOf0, unN, idxV, nilEq, give, tupV, mkEnv, extV, pickV, LVS, OVS, LTS, TYS, PMS, pmT, Int.reduceToNat, Nat.reduceGT, ↓reduceIte, Nat.reduceAdd, Nat.reduceMul, Nat.reduceSub, Nat.reduceEqDiff, Nat.reduceLeDiff, Nat.reduceLT, Nat.reduceBEq, Int.reduceBEq, Int.reduceBNe, Int.reduceEq, Int.reduceLT, Int.reduceLE, Int.reduceGT, Int.reduceNeg, reduceCtorEq, Int.cast_ofNat_Int, getE_zero, getE_one, getE_two, Option.isSome_none, h42, z1, z0, h0, h62, hs, rch3]
      · cases e94 : (x == 94) <;> rw [e94] at h94
        · cases e126 : (x == 126) <;> rw [e126] at h126 <;> simp only [Bool.true_and, Bool.false_and, Bool.or_true, Bool.or_false, Bool.true_or, Bool.false_or, cond_true, cond_false, hfc, hfd]
          · cases e62 : (x == 62) <;> rw [e62] at h62
            · cases e60 : (x == 60) <;> rw [e60] at h60 <;> simp only [Bool.true_and, Bool.false_and, Bool.or_true, Bool.or_false, Bool.true_or, Bool.false_or, cond_true, cond_false, hfc, hfd]
              · cases ex <;> cases sh <;> simp only [bT] at ha hsh ⊢
                all_goals
                  apply eq_call
                  refine call_eq rfl Tryz.func177 rfl (by kernel_rfl) ?_
                  unfold Tryz.f177
                  simp (disch := ((try simp only [List.length_cons, List.length_append, List.length_nil, List.length_map]); omega)) only [↓GO, ↓DRW, GA, ren, renB, footX, refs, cellsV, cst, cstAt, nilC, idxAddr, E.load, E.store, binO, isC, bin, ibin, sbin, una, isShift, okCell, packV, lenV, blt, fnV, asArg, snapV, snapS, snapP, snapC, flatV, flatT, openK, layBack, allT, allZ, mkS, srcOf0, unN, idxV, nilEq, give, tupV, mkEnv, extV, pickV, LVS, OVS, LTS, TYS, PMS, pmT, Int.reduceToNat, Nat.reduceGT, ↓reduceIte, Nat.reduceAdd, Nat.reduceMul, Nat.reduceSub, Nat.reduceEqDiff, Nat.reduceLeDiff, Nat.reduceLT, Nat.reduceBEq, Int.reduceBEq, Int.reduceBNe, Int.reduceEq, Int.reduceLT, Int.reduceLE, Int.reduceGT, Int.reduceNeg, reduceCtorEq, Int.cast_ofNat_Int, getE_zero, getE_one, getE_two, Option.isSome_none, h42, z1, z0, h0, h94, h126, h62, h60, ha, hsh, rch3]
              · cases sg <;> simp only [bT] at hs ⊢
                all_goals
                  apply eq_call
                  refine call_eq rfl Tryz.func177 rfl (by kernel_rfl) ?_
                  unfold Tryz.f177
                  simp (disch := ((try simp only [List.length_cons, List.length_append, List.length_nil, List.length_map]); omega)) only [↓GO, ↓DRW, GA, ren, renB, footX, refs, cellsV, cst, cstAt, nilC, idxAddr, E.load, E.store, binO, isC, bin, ibin, sbin, una, isShift, okCell, packV, lenV, blt, fnV, asArg, snapV, snapS, snapP, snapC, flatV, flatT, openK, layBack, allT, allZ, mkS, srcOf0, unN, idxV, nilEq, give, tupV, mkEnv, extV, pickV, LVS, OVS, LTS, TYS, PMS, pmT, Int.reduceToNat, Nat.reduceGT, ↓reduceIte, Nat.reduceAdd, Nat.reduceMul, Nat.reduceSub, Nat.reduceEqDiff, Nat.reduceLeDiff, Nat.reduceLT, Nat.reduceBEq, Int.reduceBEq, Int.reduceBNe, Int.reduceEq, Int.reduceLT, Int.reduceLE, Int.reduceGT, Int.reduceNeg, reduceCtorEq, Int.cast_ofNat_Int, getE_zero, getE_one, getE_two, Option.isSome_none, h42, z1, z0, h0, h94, h126, h62, h60, hs, rch3]
            · simp only [Bool.true_and, Bool.false_and, Bool.or_true, Bool.or_false, Bool.true_or, Bool.false_or, cond_true, cond_false, hfc, hfd]
              cases sg <;> simp only [bT] at hs ⊢
              all_goals
                apply eq_call
                refine call_eq rfl Tryz.func177 rfl (by kernel_rfl) ?_
                unfold Tryz.f177
                simp (disch := ((try simp only [List.length_cons, List.length_append, List.length_nil, List.length_map]); omega)) only [↓GO, ↓DRW, GA, ren, renB, footX, refs, cellsV, cst, cstAt, nilC, idxAddr, E.load, E.store, binO, isC, bin, ibin, sbin, una, isShift, okCell, packV, lenV, blt, fnV, asArg, snapV, snapS, snapP, snapC, flatV, flatT, openK, layBack, allT, allZ, mkS, srcOf0, unN, idxV, nilEq, give, tupV, mkEnv, extV, pickV, LVS, OVS, LTS, TYS, PMS, pmT, Int.reduceToNat, Nat.reduceGT, ↓reduceIte, Nat.reduceAdd, Nat.reduceMul, Nat.reduceSub, Nat.reduceEqDiff, Nat.reduceLeDiff, Nat.reduceLT, Nat.reduceBEq, Int.reduceBEq, Int.reduceBNe, Int.reduceEq, Int.reduceLT, Int.reduceLE, Int.reduceGT, Int.reduceNeg, reduceCtorEq, Int.cast_ofNat_Int, getE_zero, getE_one, getE_two, Option.isSome_none, h42, z1, z0, h0, h94, h126, h62, hs, rch3]
          · cases iv <;> simp only [Bool.not_true, Bool.not_false, cond_true, cond_false, bT] at hrv ⊢
            · apply eq_call
              refine call_eq rfl Tryz.func177 rfl (by kernel_rfl) ?_
              unfold Tryz.f177
              simp (disch := ((try simp only [List.length_cons, List.length_append, List.length_nil, List.length_map]); omega)) only [↓GO, ↓DRW, GA, ren, renB, footX, refs, cellsV, cst, cstAt, nilC, idxAddr, E.load, E.store, binO, isC, bin, ibin, sbin, una, isShift, okCell, packV, lenV, blt, fnV, asArg, snapV, snapS, snapP, snapC, flatV, flatT, openK, layBack, allT, allZ, mkS, srcOf0, unN, idxV, nilEq, give, tupV, mkEnv, extV, pickV, LVS, OVS, LTS, TYS, PMS, pmT, Int.reduceToNat, Nat.reduceGT, ↓reduceIte, Nat.reduceAdd, Nat.reduceMul, Nat.reduceSub, Nat.reduceEqDiff, Nat.reduceLeDiff, Nat.reduceLT, Nat.reduceBEq, Int.reduceBEq, Int.reduceBNe, Int.reduceEq, Int.reduceLT, Int.reduceLE, Int.reduceGT, Int.reduceNeg, reduceCtorEq, Int.cast_ofNat_Int, getE_zero, getE_one, getE_two, Option.isSome_none, h42, z1, z0, h0, h94, h126, hrv, hx1, rch3]
            · cases f1 <;> simp only [bT] at hf1 ⊢
              all_goals
                apply eq_call
                refine call_eq rfl Tryz.func177 rfl (by kernel_rfl) ?_
                unfold Tryz.f177
                simp (disch := ((try simp only [List.length_cons, List.length_append, List.length_nil, List.length_map]); omega)) only [↓GO, ↓DRW, GA, ren, renB, footX, refs, cellsV, cst, cstAt, nilC, idxAddr, E.load, E.store, binO, isC, bin, ibin, sbin, una, isShift, okCell, packV, lenV, blt, fnV, asArg, snapV, snapS, snapP, snapC, flatV, flatT, openK, layBack, allT, allZ, mkS, srcOf0, unN, idxV, nilEq, give, tupV, mkEnv, extV, pickV, LVS, OVS, LTS, TYS, PMS, pmT, Int.reduceToNat, Nat.reduceGT, ↓reduceIte, Nat.reduceAdd, Nat.reduceMul, Nat.reduceSub, Nat.reduceEqDiff, Nat.reduceLeDiff, Nat.reduceLT, Nat.reduceBEq, Int.reduceBEq, Int.reduceBNe, Int.reduceEq, Int.reduceLT, Int.reduceLE, Int.reduceGT, Int.reduceNeg, reduceCtorEq, Int.cast_ofNat_Int, getE_zero, getE_one, getE_two, Option.isSome_none, h42, z1, z0, h0, h94, h126, hrv, hf1, hx1, rch3]
                refine dyn_pos (by kernel_rfl) ?_
                rfl
        · cases e126 : (x == 126) <;> rw [e126] at h126 <;> simp only [Bool.true_and, Bool.false_and, Bool.or_true, Bool.or_false, Bool.true_or, Bool.false_or, cond_true, cond_false, hfc, hfd] <;> cases iv <;> simp only [Bool.not_true, Bool.not_false, cond_true, cond_false, bT] at hrv ⊢
          · apply eq_call
            refine call_eq rfl Tryz.func177 rfl (by kernel_rfl) ?_
            unfold Tryz.f177
            simp (disch := ((try simp only [List.length_cons, List.length_append, List.length_nil, List.length_map]); omega)) only [↓GO, ↓DRW, GA, ren, renB, footX, refs, cellsV, cst, cstAt, nilC, idxAddr, E.load, E.store, binO, isC, bin, ibin, sbin, una, isShift, okCell, packV, lenV, blt, fnV, asArg, snapV, snapS, snapP, snapC, flatV, flatT, openK, layBack, allT, allZ, mkS, srcOf0, unN, idxV, nilEq, give, tupV, mkEnv, extV, pickV, LVS, OVS, LTS, TYS, PMS, pmT, Int.reduceToNat, Nat.reduceGT, ↓reduceIte, Nat.reduceAdd, Nat.reduceMul, Nat.reduceSub, Nat.reduceEqDiff, Nat.reduceLeDiff, Nat.reduceLT, Nat.reduceBEq, Int.reduceBEq, Int.reduceBNe, Int.reduceEq, Int.reduceLT, Int.reduceLE, Int.reduceGT, Int.reduceNeg, reduceCtorEq, Int.cast_ofNat_Int, getE_zero, getE_one, getE_two, Option.isSome_none, h42, z1, z0, h0, h94, h126, hrv, hx1, rch3]
          · cases f2 <;> simp only [bT] at hf2 ⊢
            all_goals
              apply eq_call
              refine call_eq rfl Tryz.func177 rfl (by kernel_rfl) ?_
              unfold Tryz.f177
              simp (disch := ((try simp only [List.length_cons, List.length_append, List.length_nil, List.length_map]); omega)) only [↓GO, ↓DRW, GA, ren, renB, footX, refs, cellsV, cst, cstAt, nilC, idxAddr, E.load, E.store, binO, isC, bin, ibin, sbin, una, isShift, okCell, packV, lenV, blt, fnV, asArg, snapV, snapS, snapP, snapC, flatV, flatT, openK, layBack, allT, allZ, mkS, srcOf0, unN, idxV, nilEq, give, tupV, mkEnv, extV, pickV, LVS, OVS, LTS, TYS, PMS, pmT, Int.reduceToNat, Nat.reduceGT, ↓reduceIte, Nat.reduceAdd, Nat.reduceMul, Nat.reduceSub, Nat.reduceEqDiff, Nat.reduceLeDiff, Nat.reduceLT, Nat.reduceBEq, Int.reduceBEq, Int.reduceBNe, Int.reduceEq, Int.reduceLT, Int.reduceLE, Int.reduceGT, Int.reduceNeg, reduceCtorEq, Int.cast_ofNat_Int, getE_zero, getE_one, getE_two, Option.isSome_none, h42, z1, z0, h0, h94, h126, hrv, hc, hf2, hx1, rch3]
              refine dyn_pos (by kernel_rfl) ?_
              rfl
          · apply eq_call
            refine call_eq rfl Tryz.func177 rfl (by kernel_rfl) ?_
            unfold Tryz.f177
            simp (disch := ((try simp only [List.length_cons, List.length_append, List.length_nil, List.length_map]); omega)) only [↓GO, ↓DRW, GA, ren, renB, footX, refs, cellsV, cst, cstAt, nilC, idxAddr, E.load, E.store, binO, isC, bin, ibin, sbin, una, isShift, okCell, packV, lenV, blt, fnV, asArg, snapV, snapS, snapP, snapC, flatV, flatT, openK, layBack, allT, allZ, mkS, srcOf0, unN, idxV, nilEq, give, tupV, mkEnv, extV, pickV, LVS, OVS, LTS, TYS, PMS, pmT, Int.reduceToNat, Nat.reduceGT, ↓reduceIte, Nat.reduceAdd, Nat.reduceMul, Nat.reduceSub, Nat.reduceEqDiff, Nat.reduceLeDiff, Nat.reduceLT, Nat.reduceBEq, Int.reduceBEq, Int.reduceBNe, Int.reduceEq, Int.reduceLT, Int.reduceLE, Int.reduceGT, Int.reduceNeg, reduceCtorEq, Int.cast_ofNat_Int, getE_zero, getE_one, getE_two, Option.isSome_none, h42, z1, z0, h0, h94, h126, hrv, hx1, rch3]
          · cases f1 <;> simp only [bT] at hf1 ⊢
            all_goals
              apply eq_call
              refine call_eq rfl Tryz.func177 rfl (by kernel_rfl) ?_
              unfold Tryz.f177
              simp (disch := ((try simp only [List.length_cons, List.length_append, List.length_nil, List.length_map]); omega)) only [↓GO, ↓DRW, GA, ren, renB, footX, refs, cellsV, cst, cstAt, nilC, idxAddr, E.load, E.store, binO, isC, bin, ibin, sbin, una, isShift, okCell, packV, lenV, blt, fnV, asArg, snapV, snapS, snapP, snapC, flatV, flatT, openK, layBack, allT, allZ, mkS, srcOf0, unN, idxV, nilEq, give, tupV, mkEnv, extV, pickV, LVS, OVS, LTS, TYS, PMS, pmT, Int.reduceToNat, Nat.reduceGT, ↓reduceIte, Nat.reduceAdd, Nat.reduceMul, Nat.reduceSub, Nat.reduceEqDiff, Nat.reduceLeDiff, Nat.reduceLT, Nat.reduceBEq, Int.reduceBEq, Int.reduceBNe, Int.reduceEq, Int.reduceLT, Int.reduceLE, Int.reduceGT, Int.reduceNeg, reduceCtorEq, Int.cast_ofNat_Int, getE_zero, getE_one, getE_two, Option.isSome_none, h42, z1, z0, h0, h94, h126, hrv, hc, hf1, hx1, rch3]
              refine dyn_pos (by kernel_rfl) ?_
              rfl
end Go.Proofs.YtkpmachalipmpaaGreatDoor

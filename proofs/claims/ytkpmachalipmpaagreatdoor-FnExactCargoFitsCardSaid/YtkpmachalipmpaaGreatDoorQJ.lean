/- Joined: K8 V4 K9 P3 P4 P5 P6. Conditions: those of each lemma. -/
import Derived.Test.YtkpmachalipmpaaGreatDoorQI
import Derived.Lib.Join
set_option linter.unusedVariables false
set_option linter.unusedSimpArgs false
namespace Go.Proofs.YtkpmachalipmpaaGreatDoor
open E
set_option linter.unusedSimpArgs false
set_option linter.unusedVariables false
set_option maxRecDepth 100000
theorem pack_needs {p : LPack} {n : Nat} (h : p.bulk ≤ n) : p.needs.length ≤ n ∧ bulkS p.needs ≤ n ∧ p.sums.length ≤ n ∧ LSum.bulks p.sums ≤ n ∧ p.name.length ≤ n ∧ p.version.length ≤ n ∧ p.source.length ≤ n := by
  unfold LPack.bulk at h; omega
theorem l_gokI (g : LGraph) (hB : GB g) : ∀ (rest pre : List LPack), g.packs = pre ++ rest →
    EV Tryz.prog pol (.loop 65 26 0 [.ptr 0 0 0, .t (.list 6 (LPack.encs g.packs)), .t (.int .i64 (g.packs.length : Int)), .t (.int .i64 (pre.length : Int))] [.vs 2 [g.enc.map .t]]) = some (cond (packsOk g.packs (pre.getLast?.map keyOf) rest) (.loop (.exit 0) [.ptr 0 0 0, .bad] [.vs 2 [g.enc.map .t]]) (.loop .ret [.ptr 0 0 0, .t (.bool false)] [.vs 2 [g.enc.map .t]]))
  | [], pre, hs => by
    have c : decide ((pre.length : Int) < (g.packs.length : Int)) = false := by simp [hs]
    simp only [LGraph.enc, List.map_cons, List.map_nil]
    refine loop_eq Tryz.func65 rfl rfl ?_
    simp (disch := ((try simp only [List.length_cons, List.length_append, List.length_nil, List.length_map]); omega)) only [↓GO, ↓DRW, GA, ren, renB, footX, refs, cellsV, cst, cstAt, nilC, idxAddr, E.load, E.store, binO, isC, bin, ibin, sbin, una, isShift, okCell, packV, lenV, blt, fnV, asArg, snapV, snapS, snapP, snapC, flatV, flatT, openK, layBack, allT, allZ, mkS, srcOf0, unN, idxV, nilEq, give, tupV, mkEnv, extV, pickV, LVS, OVS, LTS, TYS, PMS, pmT, Int.reduceToNat, Nat.reduceGT, ↓reduceIte, Nat.reduceAdd, Nat.reduceMul, Nat.reduceSub, Nat.reduceEqDiff, Nat.reduceLeDiff, Nat.reduceLT, Nat.reduceBEq, Int.reduceBEq, Int.reduceBNe, Int.reduceEq, Int.reduceLT, Int.reduceLE, Int.reduceGT, Int.reduceNeg, reduceCtorEq, Int.cast_ofNat_Int, getE_zero, getE_one, getE_two, Option.isSome_none, c, packsOk, rch3]
  | x :: rest, pre, hs => by
    obtain ⟨b1, b2, b3⟩ := hB.len
    have c : decide ((pre.length : Int) < (g.packs.length : Int)) = true := by simp [hs]; omega
    have hget : (LPack.encs g.packs)[pre.length]? = some x.enc := by rw [hs]; exact map_zip LPack.enc pre x rest
    have hlen : pre.length + rest.length + 1 ≤ g.packs.length := by rw [hs]; simp; omega
    have hxb := b3 x (by rw [hs]; simp)
    have IH := l_gokI g hB rest (pre ++ [x]) (by rw [hs]; simp)
    have h1 := c_packI x hxb
    have h2 := c_keyI x (by omega)
    have h3 := c_keysI g hB x.needs (pack_needs hxb).1
    rw [show ((pre ++ [x]).length : Int) = (pre.length : Int) + 1 by simp, show (pre ++ [x]).getLast?.map keyOf = some (keyOf x) by simp] at IH
    rw [packsOk]
    generalize packOk x = a1 at *
    generalize keysOk g.packs none x.needs = a2 at *
    rcases nil_or_snoc pre with rfl | ⟨pre', q, rfl⟩
    · clear hs
      generalize keyOf x = kx at *
      simp only [List.length_nil, List.getLast?_nil, Option.map_none, above, Int.natCast_zero, Int.zero_add] at *
      simp only [LGraph.enc, LPack.enc, List.map_cons, List.map_nil] at hget h1 h2 h3 IH ⊢
      cases a1 <;> cases a2
      all_goals
        refine loop_eq Tryz.func65 rfl rfl ?_
        simp (disch := ((try simp only [List.length_cons, List.length_append, List.length_nil, List.length_map]); omega)) only [↓GO, ↓DRW, GA, ren, renB, footX, refs, cellsV, cst, cstAt, nilC, idxAddr, E.load, E.store, binO, isC, bin, ibin, sbin, una, isShift, okCell, packV, lenV, blt, fnV, asArg, snapV, snapS, snapP, snapC, flatV, flatT, openK, layBack, allT, allZ, mkS, srcOf0, unN, idxV, nilEq, give, tupV, mkEnv, extV, pickV, LVS, OVS, LTS, TYS, PMS, pmT, Int.reduceToNat, Nat.reduceGT, ↓reduceIte, Nat.reduceAdd, Nat.reduceMul, Nat.reduceSub, Nat.reduceEqDiff, Nat.reduceLeDiff, Nat.reduceLT, Nat.reduceBEq, Int.reduceBEq, Int.reduceBNe, Int.reduceEq, Int.reduceLT, Int.reduceLE, Int.reduceGT, Int.reduceNeg, reduceCtorEq, Int.cast_ofNat_Int, getE_zero, getE_one, getE_two, Option.isSome_none, LPack.encs_len, c, hget, wrap_in, h1, h2, h3, IH, Int.zero_add, rch3]
    · have hprev : getE (LPack.encs g.packs) (((pre' ++ [q]).length : Int) - 1) = some q.enc := by rw [hs]; exact prev_get LPack.enc pre' q (x :: rest)
      have h4 := c_keyI q (by have := b3 q (by rw [hs]; simp); omega)
      have hge : 1 ≤ (pre' ++ [q]).length := by simp
      have hgt : decide (((pre' ++ [q]).length : Int) > 0) = true := by simp only [decide_eq_true_eq]; omega
      have hcmp := lss_leq (keyOf x) (keyOf q)
      rw [show (pre' ++ [q]).getLast?.map keyOf = some (keyOf q) by simp]
      simp only [above]
      clear hs
      generalize (pre' ++ [q]).length = m at *
      generalize keyOf x = kx at *
      generalize keyOf q = kq at *
      simp only [LGraph.enc, LPack.enc, List.map_cons, List.map_nil] at hget hprev h1 h2 h3 h4 IH ⊢
      cases a1 <;> cases a2 <;> cases h5 : Op.bytesLess kq kx <;> rw [h5] at hcmp
      all_goals
        refine loop_eq Tryz.func65 rfl rfl ?_
        simp (disch := ((try simp only [List.length_cons, List.length_append, List.length_nil, List.length_map]); omega)) only [↓GO, ↓DRW, GA, ren, renB, footX, refs, cellsV, cst, cstAt, nilC, idxAddr, E.load, E.store, binO, isC, bin, ibin, sbin, una, isShift, okCell, packV, lenV, blt, fnV, asArg, snapV, snapS, snapP, snapC, flatV, flatT, openK, layBack, allT, allZ, mkS, srcOf0, unN, idxV, nilEq, give, tupV, mkEnv, extV, pickV, LVS, OVS, LTS, TYS, PMS, pmT, Int.reduceToNat, Nat.reduceGT, ↓reduceIte, Nat.reduceAdd, Nat.reduceMul, Nat.reduceSub, Nat.reduceEqDiff, Nat.reduceLeDiff, Nat.reduceLT, Nat.reduceBEq, Int.reduceBEq, Int.reduceBNe, Int.reduceEq, Int.reduceLT, Int.reduceLE, Int.reduceGT, Int.reduceNeg, reduceCtorEq, Int.cast_ofNat_Int, getE_zero, getE_one, getE_two, Option.isSome_none, LPack.encs_len, c, hget, wrap_in, h1, h2, h3, h4, hgt, hprev, hcmp, IH, rch3]
theorem c_gokI (g : LGraph) (hB : GB g) : callPure (EV Tryz.prog pol) 65 [.agg (g.enc.map .t)] = some (.t (.bool (graphOk g))) := by
  have L := l_gokI g hB g.packs [] rfl
  have h3 := c_keysI g hB g.top (by have := hB.len; omega)
  simp only [List.length_nil, Int.natCast_zero, List.getLast?_nil, Option.map_none] at L
  simp only [LGraph.enc, List.map_cons, List.map_nil] at L h3 ⊢
  unfold graphOk
  generalize keysOk g.packs none g.top = a2 at *
  cases h : packsOk g.packs none g.packs <;> rw [h] at L <;> simp only [cond_true, cond_false] at L <;> cases h4 : decide ((g.packs.length : Int) ≤ 40) <;> cases a2
  all_goals
    apply eq_call
    refine call_eq rfl Tryz.func65 rfl (by kernel_rfl) ?_
    unfold Tryz.f65
    simp (disch := ((try simp only [List.length_cons, List.length_append, List.length_nil, List.length_map]); omega)) only [↓GO, ↓DRW, GA, ren, renB, footX, refs, cellsV, cst, cstAt, nilC, idxAddr, E.load, E.store, binO, isC, bin, ibin, sbin, una, isShift, okCell, packV, lenV, blt, fnV, asArg, snapV, snapS, snapP, snapC, flatV, flatT, openK, layBack, allT, allZ, mkS, srcOf0, unN, idxV, nilEq, give, tupV, mkEnv, extV, pickV, LVS, OVS, LTS, TYS, PMS, pmT, Int.reduceToNat, Nat.reduceGT, ↓reduceIte, Nat.reduceAdd, Nat.reduceMul, Nat.reduceSub, Nat.reduceEqDiff, Nat.reduceLeDiff, Nat.reduceLT, Nat.reduceBEq, Int.reduceBEq, Int.reduceBNe, Int.reduceEq, Int.reduceLT, Int.reduceLE, Int.reduceGT, Int.reduceNeg, reduceCtorEq, Int.cast_ofNat_Int, getE_zero, getE_one, getE_two, Option.isSome_none, L, LPack.encs_len, h3, h4, rch3]
theorem l_gokR (g : LGraph) (hB : GB g) : ∀ (rest pre : List LPack), g.packs = pre ++ rest →
    EV Tryz.prog pol (.loop 64 26 0 [.ptr 0 0 0, .t (.int .i64 (pre.length : Int))] [.vs 2 [g.enc.map .t]]) = some (cond (packsOk g.packs (pre.getLast?.map keyOf) rest) (.loop (.exit 0) [.ptr 0 0 0, .bad] [.vs 2 [g.enc.map .t]]) (.loop .ret [.ptr 0 0 0, .t (.bool false)] [.vs 2 [g.enc.map .t]]))
  | [], pre, hs => by
    have c : decide ((pre.length : Int) < (g.packs.length : Int)) = false := by simp [hs]
    simp only [LGraph.enc, List.map_cons, List.map_nil]
    refine loop_eq Tryz.func64 rfl rfl ?_
    simp (disch := ((try simp only [List.length_cons, List.length_append, List.length_nil, List.length_map]); omega)) only [↓GO, ↓DRW, GA, ren, renB, footX, refs, cellsV, cst, cstAt, nilC, idxAddr, E.load, E.store, binO, isC, bin, ibin, sbin, una, isShift, okCell, packV, lenV, blt, fnV, asArg, snapV, snapS, snapP, snapC, flatV, flatT, openK, layBack, allT, allZ, mkS, srcOf0, unN, idxV, nilEq, give, tupV, mkEnv, extV, pickV, LVS, OVS, LTS, TYS, PMS, pmT, Int.reduceToNat, Nat.reduceGT, ↓reduceIte, Nat.reduceAdd, Nat.reduceMul, Nat.reduceSub, Nat.reduceEqDiff, Nat.reduceLeDiff, Nat.reduceLT, Nat.reduceBEq, Int.reduceBEq, Int.reduceBNe, Int.reduceEq, Int.reduceLT, Int.reduceLE, Int.reduceGT, Int.reduceNeg, reduceCtorEq, Int.cast_ofNat_Int, getE_zero, getE_one, getE_two, Option.isSome_none, c, LPack.encs_len, packsOk, rch3]
  | x :: rest, pre, hs => by
    obtain ⟨b1, b2, b3⟩ := hB.len
    have c : decide ((pre.length : Int) < (g.packs.length : Int)) = true := by simp [hs]; omega
    have hget : (LPack.encs g.packs)[pre.length]? = some x.enc := by rw [hs]; exact map_zip LPack.enc pre x rest
    have hlen : pre.length + rest.length + 1 ≤ g.packs.length := by rw [hs]; simp; omega
    have hxb := b3 x (by rw [hs]; simp)
    have IH := l_gokR g hB rest (pre ++ [x]) (by rw [hs]; simp)
    have h1 := c_packR x hxb
    have h2 := c_keyR x (by omega)
    have h3 := c_keysR g hB x.needs (pack_needs hxb).1
    rw [show ((pre ++ [x]).length : Int) = (pre.length : Int) + 1 by simp, show (pre ++ [x]).getLast?.map keyOf = some (keyOf x) by simp] at IH
    rw [packsOk]
    generalize packOk x = a1 at *
    generalize keysOk g.packs none x.needs = a2 at *
    rcases nil_or_snoc pre with rfl | ⟨pre', q, rfl⟩
    · clear hs
      generalize keyOf x = kx at *
      simp only [List.length_nil, List.getLast?_nil, Option.map_none, above, Int.natCast_zero, Int.zero_add] at *
      simp only [LGraph.enc, LPack.enc, List.map_cons, List.map_nil] at hget h1 h2 h3 IH ⊢
      cases a1 <;> cases a2
      all_goals
        refine loop_eq Tryz.func64 rfl rfl ?_
        simp (disch := ((try simp only [List.length_cons, List.length_append, List.length_nil, List.length_map]); omega)) only [↓GO, ↓DRW, GA, ren, renB, footX, refs, cellsV, cst, cstAt, nilC, idxAddr, E.load, E.store, binO, isC, bin, ibin, sbin, una, isShift, okCell, packV, lenV, blt, fnV, asArg, snapV, snapS, snapP, snapC, flatV, flatT, openK, layBack, allT, allZ, mkS, srcOf0, unN, idxV, nilEq, give, tupV, mkEnv, extV, pickV, LVS, OVS, LTS, TYS, PMS, pmT, Int.reduceToNat, Nat.reduceGT, ↓reduceIte, Nat.reduceAdd, Nat.reduceMul, Nat.reduceSub, Nat.reduceEqDiff, Nat.reduceLeDiff, Nat.reduceLT, Nat.reduceBEq, Int.reduceBEq, Int.reduceBNe, Int.reduceEq, Int.reduceLT, Int.reduceLE, Int.reduceGT, Int.reduceNeg, reduceCtorEq, Int.cast_ofNat_Int, getE_zero, getE_one, getE_two, Option.isSome_none, LPack.encs_len, c, hget, wrap_in, h1, h2, h3, IH, Int.zero_add, rch3]
    · have hprev : getE (LPack.encs g.packs) (((pre' ++ [q]).length : Int) - 1) = some q.enc := by rw [hs]; exact prev_get LPack.enc pre' q (x :: rest)
      have h4 := c_keyR q (by have := b3 q (by rw [hs]; simp); omega)
      have hge : 1 ≤ (pre' ++ [q]).length := by simp
      have hgt : decide (((pre' ++ [q]).length : Int) > 0) = true := by simp only [decide_eq_true_eq]; omega
      rw [show (pre' ++ [q]).getLast?.map keyOf = some (keyOf q) by simp]
      simp only [above]
      clear hs
      generalize (pre' ++ [q]).length = m at *
      generalize keyOf x = kx at *
      generalize keyOf q = kq at *
      simp only [LGraph.enc, LPack.enc, List.map_cons, List.map_nil] at hget hprev h1 h2 h3 h4 IH ⊢
      cases a1 <;> cases a2 <;> cases h5 : Op.bytesLess kq kx
      all_goals
        refine loop_eq Tryz.func64 rfl rfl ?_
        simp (disch := ((try simp only [List.length_cons, List.length_append, List.length_nil, List.length_map]); omega)) only [↓GO, ↓DRW, GA, ren, renB, footX, refs, cellsV, cst, cstAt, nilC, idxAddr, E.load, E.store, binO, isC, bin, ibin, sbin, una, isShift, okCell, packV, lenV, blt, fnV, asArg, snapV, snapS, snapP, snapC, flatV, flatT, openK, layBack, allT, allZ, mkS, srcOf0, unN, idxV, nilEq, give, tupV, mkEnv, extV, pickV, LVS, OVS, LTS, TYS, PMS, pmT, Int.reduceToNat, Nat.reduceGT, ↓reduceIte, Nat.reduceAdd, Nat.reduceMul, Nat.reduceSub, Nat.reduceEqDiff, Nat.reduceLeDiff, Nat.reduceLT, Nat.reduceBEq, Int.reduceBEq, Int.reduceBNe, Int.reduceEq, Int.reduceLT, Int.reduceLE, Int.reduceGT, Int.reduceNeg, reduceCtorEq, Int.cast_ofNat_Int, getE_zero, getE_one, getE_two, Option.isSome_none, LPack.encs_len, c, hget, wrap_in, h1, h2, h3, h4, hgt, hprev, h5, IH, rch3]
theorem c_gokR (g : LGraph) (hB : GB g) : callPure (EV Tryz.prog pol) 64 [.agg (g.enc.map .t)] = some (.t (.bool (graphOk g))) := by
  have L := l_gokR g hB g.packs [] rfl
  have h3 := c_keysR g hB g.top (by have := hB.len; omega)
  simp only [List.length_nil, Int.natCast_zero, List.getLast?_nil, Option.map_none] at L
  simp only [LGraph.enc, List.map_cons, List.map_nil] at L h3 ⊢
  unfold graphOk
  generalize keysOk g.packs none g.top = a2 at *
  cases h : packsOk g.packs none g.packs <;> rw [h] at L <;> simp only [cond_true, cond_false] at L <;> cases h4 : decide ((g.packs.length : Int) ≤ 40) <;> cases a2
  all_goals
    apply eq_call
    refine call_eq rfl Tryz.func64 rfl (by kernel_rfl) ?_
    unfold Tryz.f64
    simp (disch := ((try simp only [List.length_cons, List.length_append, List.length_nil, List.length_map]); omega)) only [↓GO, ↓DRW, GA, ren, renB, footX, refs, cellsV, cst, cstAt, nilC, idxAddr, E.load, E.store, binO, isC, bin, ibin, sbin, una, isShift, okCell, packV, lenV, blt, fnV, asArg, snapV, snapS, snapP, snapC, flatV, flatT, openK, layBack, allT, allZ, mkS, srcOf0, unN, idxV, nilEq, give, tupV, mkEnv, extV, pickV, LVS, OVS, LTS, TYS, PMS, pmT, Int.reduceToNat, Nat.reduceGT, ↓reduceIte, Nat.reduceAdd, Nat.reduceMul, Nat.reduceSub, Nat.reduceEqDiff, Nat.reduceLeDiff, Nat.reduceLT, Nat.reduceBEq, Int.reduceBEq, Int.reduceBNe, Int.reduceEq, Int.reduceLT, Int.reduceLE, Int.reduceGT, Int.reduceNeg, reduceCtorEq, Int.cast_ofNat_Int, getE_zero, getE_one, getE_two, Option.isSome_none, L, LPack.encs_len, h3, h4, rch3]
end Go.Proofs.YtkpmachalipmpaaGreatDoor
/- The tables of a graph, plain. Conditions: none. -/
namespace Go.Proofs.YtkpmachalipmpaaGreatDoor
open E
set_option linter.unusedVariables false
set_option linter.unusedSimpArgs false
set_option maxRecDepth 100000
/-- the last place of a byte below a place -/
def lastI (b : UInt8) (s : Str) : Nat → Option Nat
  | 0 => none
  | n + 1 => if s[n]? = some b then some n else lastI b s n
theorem lastI_lt (b : UInt8) (s : Str) : ∀ (n k : Nat), lastI b s n = some k → k < n
  | 0, k, h => by cases h
  | n + 1, k, h => by
    unfold lastI at h
    split at h
    · cases h; omega
    · have := lastI_lt b s n k h; omega
def splitKey (k : Str) : Str × Str := match lastI 64 k k.length with
  | some n => (k.take n, k.drop (n + 1))
  | none => ([], [])
theorem splitKey_len (k : Str) : (splitKey k).1.length + (splitKey k).2.length ≤ k.length := by
  unfold splitKey
  cases h : lastI 64 k k.length with
  | none => simp
  | some n =>
    have := lastI_lt 64 k k.length n h
    simp only [List.length_take, List.length_drop]; omega
def cntN (n : Str) (ps : List LPack) : Nat := ps.countP fun p => p.name == n
def shortName (ps : List LPack) (k : Str) : Str := cond (((cntN (splitKey k).1 ps : Nat) : Int) == 1) (splitKey k).1 (((splitKey k).1 ++ [32]) ++ (splitKey k).2)
theorem shortName_len (ps : List LPack) (k : Str) : (shortName ps k).length ≤ k.length + 1 := by
  have := splitKey_len k
  unfold shortName
  cases (((cntN (splitKey k).1 ps : Nat) : Int) == 1)
  · simp only [cond_false, List.length_append, List.length_cons, List.length_nil]; omega
  · simp only [cond_true]; omega
def shorts (ps : List LPack) (ks : List Str) : List Str := ks.map (shortName ps)
theorem shorts_bulk (ps : List LPack) : ∀ ks : List Str, bulkS (shorts ps ks) ≤ bulkS ks + ks.length
  | [] => by simp [shorts, bulkS]
  | k :: ks => by
    have h1 := shortName_len ps k
    have h2 := shorts_bulk ps ks
    unfold shorts at h2 ⊢
    simp only [List.map_cons, bulkS, List.length_cons]; omega
def nameK : Str := [110, 97, 109, 101]
def versionK : Str := [118, 101, 114, 115, 105, 111, 110]
def sourceK : Str := [115, 111, 117, 114, 99, 101]
def checksumK : Str := [99, 104, 101, 99, 107, 115, 117, 109]
def depsK : Str := [100, 101, 112, 101, 110, 100, 101, 110, 99, 105, 101, 115]
def packageK : Str := [112, 97, 99, 107, 97, 103, 101]
def rootK : Str := [114, 111, 111, 116]
def zeroK : Str := [48, 46, 48, 46, 48]
def fldS (k t : Str) : LField := ⟨k, t, [], false⟩
def fldL (k : Str) (l : List Str) : LField := ⟨k, [], l, true⟩
/-- the bytes of the first sum of that name -/
def sumOf (a : Str) : List LSum → Str
  | [] => []
  | s :: r => cond (s.alg == a) s.bytes (sumOf a r)
def srcF (src : Str) : List LField := cond (src == []) [] [fldS sourceK src]
def sumF (b : Str) : List LField := cond (b == []) [] [fldS checksumK (hexS b)]
def depF (ps : List LPack) (ks : List Str) : List LField := cond (ks == []) [] [fldL depsK (shorts ps ks)]
def tblP (ps : List LPack) (nm ver src sum : Str) (ks : List Str) : LTable := ⟨packageK, (([fldS nameK nm, fldS versionK ver] ++ srcF src) ++ sumF sum) ++ depF ps ks⟩
def tblOf (ps : List LPack) (p : LPack) : LTable := tblP ps p.name p.version p.source (sumOf sha256S p.sums) p.needs
def headTs (g : LGraph) : List LTable := [⟨[], [fldS versionK [52]]⟩, tblP g.packs rootK zeroK [] [] g.top]
def toTables (g : LGraph) : List LTable := headTs g ++ g.packs.map (tblOf g.packs)
theorem sumOf_len (a : Str) : ∀ l : List LSum, (sumOf a l).length ≤ LSum.bulks l
  | [] => by simp [sumOf]
  | s :: r => by
    have := sumOf_len a r
    simp only [sumOf, LSum.bulks, LSum.bulk]
    cases (s.alg == a) <;> simp only [cond_true, cond_false] <;> omega
theorem LField.bulks_app2 : ∀ a b : List LField, LField.bulks (a ++ b) = LField.bulks a + LField.bulks b
  | [], b => by simp [LField.bulks]
  | x :: a, b => by simp only [List.cons_append, LField.bulks, LField.bulks_app2 a b]; omega
theorem LTable.bulks_app2 : ∀ a b : List LTable, LTable.bulks (a ++ b) = LTable.bulks a + LTable.bulks b
  | [], b => by simp [LTable.bulks]
  | x :: a, b => by simp only [List.cons_append, LTable.bulks, LTable.bulks_app2 a b]; omega
theorem hex_len (s : Str) : (hexS s).length = 2 * s.length := hexS_len s
theorem tblP_bulk (ps : List LPack) (nm ver src sum : Str) (ks : List Str) : (tblP ps nm ver src sum ks).bulk ≤ 60 + nm.length + ver.length + src.length + 2 * sum.length + bulkS ks + 2 * ks.length := by
  have h1 := shorts_bulk ps ks
  have h2 : (shorts ps ks).length = ks.length := by simp [shorts]
  have h3 := hex_len sum
  unfold tblP LTable.bulk
  simp only [LField.bulks_app2, List.length_append, List.length_cons, List.length_nil]
  have a1 : LField.bulks (srcF src) + (srcF src).length ≤ 7 + src.length := by
    unfold srcF
    cases (src == []) <;> simp [LField.bulks, LField.bulk, fldS, sourceK, bulkS]; omega
  have a2 : LField.bulks (sumF sum) + (sumF sum).length ≤ 9 + 2 * sum.length := by
    unfold sumF
    cases (sum == []) <;> simp [LField.bulks, LField.bulk, fldS, checksumK, bulkS]; omega
  have a3 : LField.bulks (depF ps ks) + (depF ps ks).length ≤ 13 + bulkS ks + 2 * ks.length := by
    unfold depF
    cases (ks == []) <;> simp [LField.bulks, LField.bulk, fldL, depsK]; omega
  have a4 : LField.bulks [fldS nameK nm, fldS versionK ver] = 11 + nm.length + ver.length := by
    simp [LField.bulks, LField.bulk, fldS, nameK, versionK, bulkS]; omega
  rw [a4]
  simp only [packageK, List.length_cons, List.length_nil]
  omega
theorem tblOf_bulk (ps : List LPack) (p : LPack) : (tblOf ps p).bulk ≤ 60 + 2 * p.bulk := by
  have h1 := tblP_bulk ps p.name p.version p.source (sumOf sha256S p.sums) p.needs
  have h2 := sumOf_len sha256S p.sums
  unfold tblOf LPack.bulk
  omega
theorem tbls_bulk (ps : List LPack) : ∀ l : List LPack, LTable.bulks (l.map (tblOf ps)) ≤ 60 * l.length + 2 * LPack.bulks l
  | [] => by simp [LTable.bulks]
  | p :: l => by
    have h1 := tblOf_bulk ps p
    have h2 := tbls_bulk ps l
    simp only [List.map_cons, LTable.bulks, LPack.bulks, List.length_cons]; omega
theorem toTables_bulk (g : LGraph) (hB : g.bulk ≤ 1048576) (h40 : g.packs.length ≤ 40) : (toTables g).length + LTable.bulks (toTables g) ≤ 4194304 := by
  unfold toTables headTs
  have h1 := tbls_bulk g.packs g.packs
  have h2 := tblP_bulk g.packs rootK zeroK [] [] g.top
  unfold LGraph.bulk at hB
  rw [LTable.bulks_app2]
  simp only [LTable.bulks, List.length_append, List.length_cons, List.length_nil, List.length_map]
  have h3 : LTable.bulk ⟨[], [fldS versionK [52]]⟩ ≤ 20 := by decide
  simp only [rootK, zeroK, List.length_cons, List.length_nil] at h2
  unfold rootK zeroK
  omega
end Go.Proofs.YtkpmachalipmpaaGreatDoor
/- Keys cut, short names, by both. Conditions: those of each lemma. -/
namespace Go.Proofs.YtkpmachalipmpaaGreatDoor
open E
set_option linter.unusedSimpArgs false
set_option linter.unusedVariables false
set_option maxRecDepth 100000
theorem getE_at {α : Type} (es : List α) (n : Nat) : getE es (n : Int) = es[n]? := by simp [getE]
theorem l_lastI (s : Str) (b : UInt8) (hl : s.length ≤ 4611686018427387904) : ∀ n : Nat, n ≤ s.length →
    EV Tryz.prog pol (.loop 398 26 0 [.t (.str s), .t (.int .u8 (b.toNat : Int)), .t (.int .i64 ((n : Int) - 1))] []) = some (match lastI b s n with | some k => .loop .ret [.t (.int .i64 (k : Int))] [] | none => .loop (.exit 0) [.bad] [])
  | 0, hn => by
    have c : decide ((0 : Int) - 1 ≥ 0) = false := by decide
    refine loop_eq Tryz.func398 rfl rfl ?_
    simp (disch := ((try simp only [List.length_cons, List.length_append, List.length_nil, List.length_map]); omega)) only [↓GO, ↓DRW, GA, ren, renB, footX, refs, cellsV, cst, cstAt, nilC, idxAddr, E.load, E.store, binO, isC, bin, ibin, sbin, una, isShift, okCell, packV, lenV, blt, fnV, asArg, snapV, snapS, snapP, snapC, flatV, flatT, openK, layBack, allT, allZ, mkS, srcOf0, unN, idxV, nilEq, give, tupV, mkEnv, extV, pickV, LVS, OVS, LTS, TYS, PMS, pmT, Int.reduceToNat, Nat.reduceGT, ↓reduceIte, Nat.reduceAdd, Nat.reduceMul, Nat.reduceSub, Nat.reduceEqDiff, Nat.reduceLeDiff, Nat.reduceLT, Nat.reduceBEq, Int.reduceBEq, Int.reduceBNe, Int.reduceEq, Int.reduceLT, Int.reduceLE, Int.reduceGT, Int.reduceNeg, reduceCtorEq, Int.cast_ofNat_Int, getE_zero, getE_one, getE_two, Option.isSome_none, c, lastI]
  | n + 1, hn => by
    have c : decide ((n : Int) ≥ 0) = true := by simp
    have e : ((n + 1 : Nat) : Int) - 1 = (n : Int) := by omega
    have IH := l_lastI s b hl n (by omega)
    rw [e, lastI]
    obtain ⟨x, hx⟩ : ∃ x, s[n]? = some x := ⟨s[n]'(by omega), by simp⟩
    rw [hx]
    by_cases h : x = b
    · subst h
      rw [if_pos rfl]
      refine loop_eq Tryz.func398 rfl rfl ?_
      simp (disch := ((try simp only [List.length_cons, List.length_append, List.length_nil, List.length_map]); omega)) only [↓GO, ↓DRW, GA, ren, renB, footX, refs, cellsV, cst, cstAt, nilC, idxAddr, E.load, E.store, binO, isC, bin, ibin, sbin, una, isShift, okCell, packV, lenV, blt, fnV, asArg, snapV, snapS, snapP, snapC, flatV, flatT, openK, layBack, allT, allZ, mkS, srcOf0, unN, idxV, nilEq, give, tupV, mkEnv, extV, pickV, LVS, OVS, LTS, TYS, PMS, pmT, Int.reduceToNat, Nat.reduceGT, ↓reduceIte, Nat.reduceAdd, Nat.reduceMul, Nat.reduceSub, Nat.reduceEqDiff, Nat.reduceLeDiff, Nat.reduceLT, Nat.reduceBEq, Int.reduceBEq, Int.reduceBNe, Int.reduceEq, Int.reduceLT, Int.reduceLE, Int.reduceGT, Int.reduceNeg, reduceCtorEq, Int.cast_ofNat_Int, getE_zero, getE_one, getE_two, Option.isSome_none, c, hx, wrap_in]
    · have c2 : ((x.toNat : Int) == (b.toNat : Int)) = false := by
        rw [beq_eq_false_iff_ne]; intro e; exact h (UInt8.toNat_inj.1 (by omega))
      rw [if_neg (by simpa using h)]
      refine loop_eq Tryz.func398 rfl rfl ?_
      simp (disch := ((try simp only [List.length_cons, List.length_append, List.length_nil, List.length_map]); omega)) only [↓GO, ↓DRW, GA, ren, renB, footX, refs, cellsV, cst, cstAt, nilC, idxAddr, E.load, E.store, binO, isC, bin, ibin, sbin, una, isShift, okCell, packV, lenV, blt, fnV, asArg, snapV, snapS, snapP, snapC, flatV, flatT, openK, layBack, allT, allZ, mkS, srcOf0, unN, idxV, nilEq, give, tupV, mkEnv, extV, pickV, LVS, OVS, LTS, TYS, PMS, pmT, Int.reduceToNat, Nat.reduceGT, ↓reduceIte, Nat.reduceAdd, Nat.reduceMul, Nat.reduceSub, Nat.reduceEqDiff, Nat.reduceLeDiff, Nat.reduceLT, Nat.reduceBEq, Int.reduceBEq, Int.reduceBNe, Int.reduceEq, Int.reduceLT, Int.reduceLE, Int.reduceGT, Int.reduceNeg, reduceCtorEq, Int.cast_ofNat_Int, getE_zero, getE_one, getE_two, Option.isSome_none, c, hx, wrap_in, c2, IH]
def lastV (o : Option Nat) : Int := match o with | some k => (k : Int) | none => -1
theorem c_lastB (s : Str) (b : UInt8) (hl : s.length ≤ 4611686018427387904) : callPure (EV Tryz.prog pol) 398 [.t (.str s), .t (.int .u8 (b.toNat : Int))] = some (.t (.int .i64 (lastV (lastI b s s.length)))) := by
  have L := l_lastI s b hl s.length (Nat.le_refl _)
  apply eq_call
  refine call_eq rfl Tryz.func398 rfl (by kernel_rfl) ?_
  unfold Tryz.f398
  cases h : lastI b s s.length <;> rw [h] at L <;> simp only at L <;> simp (disch := ((try simp only [List.length_cons, List.length_append, List.length_nil, List.length_map]); omega)) only [↓GO, ↓DRW, GA, ren, renB, footX, refs, cellsV, cst, cstAt, nilC, idxAddr, E.load, E.store, binO, isC, bin, ibin, sbin, una, isShift, okCell, packV, lenV, blt, fnV, asArg, snapV, snapS, snapP, snapC, flatV, flatT, openK, layBack, allT, allZ, mkS, srcOf0, unN, idxV, nilEq, give, tupV, mkEnv, extV, pickV, LVS, OVS, LTS, TYS, PMS, pmT, Int.reduceToNat, Nat.reduceGT, ↓reduceIte, Nat.reduceAdd, Nat.reduceMul, Nat.reduceSub, Nat.reduceEqDiff, Nat.reduceLeDiff, Nat.reduceLT, Nat.reduceBEq, Int.reduceBEq, Int.reduceBNe, Int.reduceEq, Int.reduceLT, Int.reduceLE, Int.reduceGT, Int.reduceNeg, reduceCtorEq, Int.cast_ofNat_Int, getE_zero, getE_one, getE_two, Option.isSome_none, L, wrap_in, lastV]
theorem c_lastAt (s : Str) (hl : s.length ≤ 4611686018427387904) : callPure (EV Tryz.prog pol) 375 [.t (.str s), .t (.str [64])] = some (.t (.int .i64 (lastV (lastI 64 s s.length)))) := by
  have h := c_lastB s 64 hl
  rw [show (((64 : UInt8)).toNat : Int) = 64 from rfl] at h
  have e : (((64 : UInt8)).toNat : Int) = 64 := rfl
  apply eq_call
  refine call_eq rfl Tryz.func375 rfl (by kernel_rfl) ?_
  unfold Tryz.f375
  simp (disch := ((try simp only [List.length_cons, List.length_append, List.length_nil, List.length_map]); omega)) only [↓GO, ↓DRW, GA, ren, renB, footX, refs, cellsV, cst, cstAt, nilC, idxAddr, E.load, E.store, binO, isC, bin, ibin, sbin, una, isShift, okCell, packV, lenV, blt, fnV, asArg, snapV, snapS, snapP, snapC, flatV, flatT, openK, layBack, allT, allZ, mkS, srcOf0, unN, idxV, nilEq, give, tupV, mkEnv, extV, pickV, LVS, OVS, LTS, TYS, PMS, pmT, Int.reduceToNat, Nat.reduceGT, ↓reduceIte, Nat.reduceAdd, Nat.reduceMul, Nat.reduceSub, Nat.reduceEqDiff, Nat.reduceLeDiff, Nat.reduceLT, Nat.reduceBEq, Int.reduceBEq, Int.reduceBNe, Int.reduceEq, Int.reduceLT, Int.reduceLE, Int.reduceGT, Int.reduceNeg, reduceCtorEq, Int.cast_ofNat_Int, getE_zero, getE_one, getE_two, Option.isSome_none, h, e, Int.zero_add, Int.natCast_one]
theorem c_skI (k : Str) (hl : k.length ≤ 4611686018427387904) : callPure (EV Tryz.prog pol) 334 [.t (.str k)] = some (.tup [.t (.str (splitKey k).1), .t (.str (splitKey k).2)]) := by
  have h := c_lastAt k hl
  unfold splitKey
  cases hc : lastI 64 k k.length with
  | none =>
    rw [hc] at h
    simp only [lastV] at h
    apply eq_call
    refine call_eq rfl Tryz.func334 rfl (by kernel_rfl) ?_
    unfold Tryz.f334
    simp (disch := ((try simp only [List.length_cons, List.length_append, List.length_nil, List.length_map]); omega)) only [↓GO, ↓DRW, GA, ren, renB, footX, refs, cellsV, cst, cstAt, nilC, idxAddr, E.load, E.store, binO, isC, bin, ibin, sbin, una, isShift, okCell, packV, lenV, blt, fnV, asArg, snapV, snapS, snapP, snapC, flatV, flatT, openK, layBack, allT, allZ, mkS, srcOf0, unN, idxV, nilEq, give, tupV, mkEnv, extV, pickV, LVS, OVS, LTS, TYS, PMS, pmT, Int.reduceToNat, Nat.reduceGT, ↓reduceIte, Nat.reduceAdd, Nat.reduceMul, Nat.reduceSub, Nat.reduceEqDiff, Nat.reduceLeDiff, Nat.reduceLT, Nat.reduceBEq, Int.reduceBEq, Int.reduceBNe, Int.reduceEq, Int.reduceLT, Int.reduceLE, Int.reduceGT, Int.reduceNeg, reduceCtorEq, Int.cast_ofNat_Int, getE_zero, getE_one, getE_two, Option.isSome_none, h]
  | some n =>
    have hn := lastI_lt 64 k k.length n hc
    rw [hc] at h
    simp only [lastV] at h
    have c : decide ((n : Int) < 0) = false := decide_eq_false (by omega)
    apply eq_call
    refine call_eq rfl Tryz.func334 rfl (by kernel_rfl) ?_
    unfold Tryz.f334
    simp (disch := ((try simp only [List.length_cons, List.length_append, List.length_nil, List.length_map]); omega)) only [↓GO, ↓DRW, GA, ren, renB, footX, refs, cellsV, cst, cstAt, nilC, idxAddr, E.load, E.store, binO, isC, bin, ibin, sbin, una, isShift, okCell, packV, lenV, blt, fnV, asArg, snapV, snapS, snapP, snapC, flatV, flatT, openK, layBack, allT, allZ, mkS, srcOf0, unN, idxV, nilEq, give, tupV, mkEnv, extV, pickV, LVS, OVS, LTS, TYS, PMS, pmT, Int.reduceToNat, Nat.reduceGT, ↓reduceIte, Nat.reduceAdd, Nat.reduceMul, Nat.reduceSub, Nat.reduceEqDiff, Nat.reduceLeDiff, Nat.reduceLT, Nat.reduceBEq, Int.reduceBEq, Int.reduceBNe, Int.reduceEq, Int.reduceLT, Int.reduceLE, Int.reduceGT, Int.reduceNeg, reduceCtorEq, Int.cast_ofNat_Int, getE_zero, getE_one, getE_two, Option.isSome_none, h, c, wrap_in]
theorem l_skR (s : Str) (hl : s.length ≤ 4611686018427387904) : ∀ n : Nat, n ≤ s.length →
    EV Tryz.prog pol (.loop 374 26 0 [.t (.str s), .t (.int .i64 ((n : Int) - 1))] []) = some (match lastI 64 s n with | some k => .loop .ret [.t (.str (s.take k)), .t (.str (s.drop (k + 1)))] [] | none => .loop (.exit 0) [.bad, .bad] [])
  | 0, hn => by
    have c : decide ((0 : Int) - 1 ≥ 0) = false := by decide
    refine loop_eq Tryz.func374 rfl rfl ?_
    simp (disch := ((try simp only [List.length_cons, List.length_append, List.length_nil, List.length_map]); omega)) only [↓GO, ↓DRW, GA, ren, renB, footX, refs, cellsV, cst, cstAt, nilC, idxAddr, E.load, E.store, binO, isC, bin, ibin, sbin, una, isShift, okCell, packV, lenV, blt, fnV, asArg, snapV, snapS, snapP, snapC, flatV, flatT, openK, layBack, allT, allZ, mkS, srcOf0, unN, idxV, nilEq, give, tupV, mkEnv, extV, pickV, LVS, OVS, LTS, TYS, PMS, pmT, Int.reduceToNat, Nat.reduceGT, ↓reduceIte, Nat.reduceAdd, Nat.reduceMul, Nat.reduceSub, Nat.reduceEqDiff, Nat.reduceLeDiff, Nat.reduceLT, Nat.reduceBEq, Int.reduceBEq, Int.reduceBNe, Int.reduceEq, Int.reduceLT, Int.reduceLE, Int.reduceGT, Int.reduceNeg, reduceCtorEq, Int.cast_ofNat_Int, getE_zero, getE_one, getE_two, Option.isSome_none, c, lastI]
  | n + 1, hn => by
    have c : decide ((n : Int) ≥ 0) = true := by simp
    have e : ((n + 1 : Nat) : Int) - 1 = (n : Int) := by omega
    have IH := l_skR s hl n (by omega)
    rw [e, lastI]
    obtain ⟨x, hx⟩ : ∃ x, s[n]? = some x := ⟨s[n]'(by omega), by simp⟩
    rw [hx]
    by_cases h : x = 64
    · subst h
      have c3 : (((64 : UInt8)).toNat : Int) = 64 := rfl
      rw [if_pos rfl]
      refine loop_eq Tryz.func374 rfl rfl ?_
      simp (disch := ((try simp only [List.length_cons, List.length_append, List.length_nil, List.length_map]); omega)) only [↓GO, ↓DRW, GA, ren, renB, footX, refs, cellsV, cst, cstAt, nilC, idxAddr, E.load, E.store, binO, isC, bin, ibin, sbin, una, isShift, okCell, packV, lenV, blt, fnV, asArg, snapV, snapS, snapP, snapC, flatV, flatT, openK, layBack, allT, allZ, mkS, srcOf0, unN, idxV, nilEq, give, tupV, mkEnv, extV, pickV, LVS, OVS, LTS, TYS, PMS, pmT, Int.reduceToNat, Nat.reduceGT, ↓reduceIte, Nat.reduceAdd, Nat.reduceMul, Nat.reduceSub, Nat.reduceEqDiff, Nat.reduceLeDiff, Nat.reduceLT, Nat.reduceBEq, Int.reduceBEq, Int.reduceBNe, Int.reduceEq, Int.reduceLT, Int.reduceLE, Int.reduceGT, Int.reduceNeg, reduceCtorEq, Int.cast_ofNat_Int, getE_zero, getE_one, getE_two, Option.isSome_none, c, hx, wrap_in, c3]
    · have c2 : ((x.toNat : Int) == 64) = false := by
        rw [beq_eq_false_iff_ne]; intro e; exact h (UInt8.toNat_inj.1 (by rw [show (64 : UInt8).toNat = 64 from rfl]; omega))
      rw [if_neg (by simpa using h)]
      refine loop_eq Tryz.func374 rfl rfl ?_
      simp (disch := ((try simp only [List.length_cons, List.length_append, List.length_nil, List.length_map]); omega)) only [↓GO, ↓DRW, GA, ren, renB, footX, refs, cellsV, cst, cstAt, nilC, idxAddr, E.load, E.store, binO, isC, bin, ibin, sbin, una, isShift, okCell, packV, lenV, blt, fnV, asArg, snapV, snapS, snapP, snapC, flatV, flatT, openK, layBack, allT, allZ, mkS, srcOf0, unN, idxV, nilEq, give, tupV, mkEnv, extV, pickV, LVS, OVS, LTS, TYS, PMS, pmT, Int.reduceToNat, Nat.reduceGT, ↓reduceIte, Nat.reduceAdd, Nat.reduceMul, Nat.reduceSub, Nat.reduceEqDiff, Nat.reduceLeDiff, Nat.reduceLT, Nat.reduceBEq, Int.reduceBEq, Int.reduceBNe, Int.reduceEq, Int.reduceLT, Int.reduceLE, Int.reduceGT, Int.reduceNeg, reduceCtorEq, Int.cast_ofNat_Int, getE_zero, getE_one, getE_two, Option.isSome_none, c, hx, wrap_in, c2, IH]
theorem c_skR (k : Str) (hl : k.length ≤ 4611686018427387904) : callPure (EV Tryz.prog pol) 374 [.t (.str k)] = some (.tup [.t (.str (splitKey k).1), .t (.str (splitKey k).2)]) := by
  have L := l_skR k hl k.length (Nat.le_refl _)
  unfold splitKey
  cases hc : lastI 64 k k.length <;> rw [hc] at L <;> simp only at L
  all_goals
    apply eq_call
    refine call_eq rfl Tryz.func374 rfl (by kernel_rfl) ?_
    unfold Tryz.f374
    simp (disch := ((try simp only [List.length_cons, List.length_append, List.length_nil, List.length_map]); omega)) only [↓GO, ↓DRW, GA, ren, renB, footX, refs, cellsV, cst, cstAt, nilC, idxAddr, E.load, E.store, binO, isC, bin, ibin, sbin, una, isShift, okCell, packV, lenV, blt, fnV, asArg, snapV, snapS, snapP, snapC, flatV, flatT, openK, layBack, allT, allZ, mkS, srcOf0, unN, idxV, nilEq, give, tupV, mkEnv, extV, pickV, LVS, OVS, LTS, TYS, PMS, pmT, Int.reduceToNat, Nat.reduceGT, ↓reduceIte, Nat.reduceAdd, Nat.reduceMul, Nat.reduceSub, Nat.reduceEqDiff, Nat.reduceLeDiff, Nat.reduceLT, Nat.reduceBEq, Int.reduceBEq, Int.reduceBNe, Int.reduceEq, Int.reduceLT, Int.reduceLE, Int.reduceGT, Int.reduceNeg, reduceCtorEq, Int.cast_ofNat_Int, getE_zero, getE_one, getE_two, Option.isSome_none, L, wrap_in]
theorem cnt_cons (n : Str) (x : LPack) (l : List LPack) : ((cntN n (x :: l) : Nat) : Int) = ((cntN n l : Nat) : Int) + cond (x.name == n) 1 0 := by
  unfold cntN
  rw [List.countP_cons]
  cases (x.name == n) <;> simp
theorem cnt_le (n : Str) (l : List LPack) : cntN n l ≤ l.length := List.countP_le_length
theorem l_snI (nm ve : T) (n : Str) (hn : nm = .str n) (ps : List LPack) (hl : ps.length ≤ 1048576) : ∀ (rest pre : List LPack), ps = pre ++ rest →
    EV Tryz.prog pol (.loop 286 122 0 [.t nm, .t ve, .t (.int .i64 (cntN n pre : Nat)), .t (.list 6 (LPack.encs ps)), .t (.int .i64 (ps.length : Int)), .t (.int .i64 (pre.length : Int))] []) = some (.loop (.exit 0) [.t nm, .t ve, .t (.int .i64 (cntN n ps : Nat))] [])
  | [], pre, hs => by
    have c : decide ((pre.length : Int) < (ps.length : Int)) = false := by simp [hs]
    have e : ps = pre := by simpa using hs
    refine loop_eq Tryz.func286 rfl rfl ?_
    simp (disch := ((try simp only [List.length_cons, List.length_append, List.length_nil, List.length_map]); omega)) only [↓GO, ↓DRW, GA, ren, renB, footX, refs, cellsV, cst, cstAt, nilC, idxAddr, E.load, E.store, binO, isC, bin, ibin, sbin, una, isShift, okCell, packV, lenV, blt, fnV, asArg, snapV, snapS, snapP, snapC, flatV, flatT, openK, layBack, allT, allZ, mkS, srcOf0, unN, idxV, nilEq, give, tupV, mkEnv, extV, pickV, LVS, OVS, LTS, TYS, PMS, pmT, Int.reduceToNat, Nat.reduceGT, ↓reduceIte, Nat.reduceAdd, Nat.reduceMul, Nat.reduceSub, Nat.reduceEqDiff, Nat.reduceLeDiff, Nat.reduceLT, Nat.reduceBEq, Int.reduceBEq, Int.reduceBNe, Int.reduceEq, Int.reduceLT, Int.reduceLE, Int.reduceGT, Int.reduceNeg, reduceCtorEq, Int.cast_ofNat_Int, getE_zero, getE_one, getE_two, Option.isSome_none, c]
    rw [e]
  | x :: rest, pre, hs => by
    have c : decide ((pre.length : Int) < (ps.length : Int)) = true := by simp [hs]; omega
    have hget : (LPack.encs ps)[pre.length]? = some x.enc := by rw [hs]; exact map_zip LPack.enc pre x rest
    have hlen : pre.length + rest.length + 1 ≤ ps.length := by rw [hs]; simp; omega
    have IH := l_snI nm ve n hn ps hl rest (pre ++ [x]) (by rw [hs]; simp)
    have hcl := cnt_le n pre
    have e1 : ((cntN n (pre ++ [x]) : Nat) : Int) = ((cntN n pre : Nat) : Int) + cond (x.name == n) 1 0 := by
      unfold cntN
      rw [List.countP_append, List.countP_cons]
      cases (x.name == n) <;> simp
    rw [show ((pre ++ [x]).length : Int) = (pre.length : Int) + 1 by simp, e1] at IH
    clear hs e1
    subst hn
    generalize cntN n pre = cn at *
    generalize cntN n ps = cp at *
    simp only [LPack.enc] at hget
    cases h : (x.name == n) <;> rw [h] at IH <;> simp only [cond_true, cond_false, Int.add_zero] at IH
    all_goals
      refine loop_eq Tryz.func286 rfl rfl ?_
      simp (disch := ((try simp only [List.length_cons, List.length_append, List.length_nil, List.length_map]); omega)) only [↓GO, ↓DRW, GA, ren, renB, footX, refs, cellsV, cst, cstAt, nilC, idxAddr, E.load, E.store, binO, isC, bin, ibin, sbin, una, isShift, okCell, packV, lenV, blt, fnV, asArg, snapV, snapS, snapP, snapC, flatV, flatT, openK, layBack, allT, allZ, mkS, srcOf0, unN, idxV, nilEq, give, tupV, mkEnv, extV, pickV, LVS, OVS, LTS, TYS, PMS, pmT, Int.reduceToNat, Nat.reduceGT, ↓reduceIte, Nat.reduceAdd, Nat.reduceMul, Nat.reduceSub, Nat.reduceEqDiff, Nat.reduceLeDiff, Nat.reduceLT, Nat.reduceBEq, Int.reduceBEq, Int.reduceBNe, Int.reduceEq, Int.reduceLT, Int.reduceLE, Int.reduceGT, Int.reduceNeg, reduceCtorEq, Int.cast_ofNat_Int, getE_zero, getE_one, getE_two, Option.isSome_none, c, hget, h, LPack.encs_len, wrap_in, IH, rch3]
theorem c_snI (g : LGraph) (k : Str) (hB : GB g) (hk : k.length ≤ 1048576) : callPure (EV Tryz.prog pol) 286 [.agg (g.enc.map .t), .t (.str k)] = some (.t (.str (shortName g.packs k))) := by
  have h1 := c_skI k (by omega)
  have hlk := splitKey_len k
  have L := l_snI (.str (splitKey k).1) (.str (splitKey k).2) (splitKey k).1 rfl g.packs (hB.len).1 g.packs [] rfl
  rw [show ((cntN (splitKey k).1 [] : Nat) : Int) = 0 from rfl] at L
  simp only [List.length_nil, Int.natCast_zero] at L
  simp only [LGraph.enc, List.map_cons, List.map_nil] at L ⊢
  unfold shortName
  generalize cntN (splitKey k).1 g.packs = cn at *
  generalize (splitKey k).1 = a at *
  generalize (splitKey k).2 = b at *
  cases hc : ((cn : Int) == 1)
  all_goals
    apply eq_call
    refine call_eq rfl Tryz.func286 rfl (by kernel_rfl) ?_
    unfold Tryz.f286
    simp (disch := ((try simp only [List.length_cons, List.length_append, List.length_nil, List.length_map]); omega)) only [↓GO, ↓DRW, GA, ren, renB, footX, refs, cellsV, cst, cstAt, nilC, idxAddr, E.load, E.store, binO, isC, bin, ibin, sbin, una, isShift, okCell, packV, lenV, blt, fnV, asArg, snapV, snapS, snapP, snapC, flatV, flatT, openK, layBack, allT, allZ, mkS, srcOf0, unN, idxV, nilEq, give, tupV, mkEnv, extV, pickV, LVS, OVS, LTS, TYS, PMS, pmT, Int.reduceToNat, Nat.reduceGT, ↓reduceIte, Nat.reduceAdd, Nat.reduceMul, Nat.reduceSub, Nat.reduceEqDiff, Nat.reduceLeDiff, Nat.reduceLT, Nat.reduceBEq, Int.reduceBEq, Int.reduceBNe, Int.reduceEq, Int.reduceLT, Int.reduceLE, Int.reduceGT, Int.reduceNeg, reduceCtorEq, Int.cast_ofNat_Int, getE_zero, getE_one, getE_two, Option.isSome_none, h1, L, hc, LPack.encs_len, le_T, rch3]
theorem l_shI (g : LGraph) (hB : GB g) (ks : List Str) (hl : ks.length ≤ 1048576) (hb : ∀ k ∈ ks, k.length ≤ 1048576) : ∀ (rest pre : List Str) (cap : Option Nat), ks = pre ++ rest →
    ∃ cap', EV Tryz.prog pol (.loop 222 58 0 [.ptr 0 0 0, .sl 1 0 pre.length cap, .t (.list 1 (strs ks)), .t (.int .i64 (ks.length : Int)), .t (.int .i64 (pre.length : Int))] [.vs 2 [g.enc.map .t], .ts 1 (strs (shorts g.packs pre))]) = some (.loop (.exit 0) [.sl 0 0 ks.length cap'] [.ts 1 (strs (shorts g.packs ks))])
  | [], pre, cap, hs => by
    have c : decide ((pre.length : Int) < (ks.length : Int)) = false := by simp [hs]
    have e : ks = pre := by simpa using hs
    refine ⟨cap, ?_⟩
    simp only [LGraph.enc, List.map_cons, List.map_nil]
    refine loop_eq Tryz.func222 rfl rfl ?_
    simp (disch := ((try simp only [List.length_cons, List.length_append, List.length_nil, List.length_map]); omega)) only [↓GO, ↓DRW, GA, ren, renB, footX, refs, cellsV, cst, cstAt, nilC, idxAddr, E.load, E.store, binO, isC, bin, ibin, sbin, una, isShift, okCell, packV, lenV, blt, fnV, asArg, snapV, snapS, snapP, snapC, flatV, flatT, openK, layBack, allT, allZ, mkS, srcOf0, unN, idxV, nilEq, give, tupV, mkEnv, extV, pickV, LVS, OVS, LTS, TYS, PMS, pmT, Int.reduceToNat, Nat.reduceGT, ↓reduceIte, Nat.reduceAdd, Nat.reduceMul, Nat.reduceSub, Nat.reduceEqDiff, Nat.reduceLeDiff, Nat.reduceLT, Nat.reduceBEq, Int.reduceBEq, Int.reduceBNe, Int.reduceEq, Int.reduceLT, Int.reduceLE, Int.reduceGT, Int.reduceNeg, reduceCtorEq, Int.cast_ofNat_Int, getE_zero, getE_one, getE_two, Option.isSome_none, c, rch3]
    rw [e]
  | x :: rest, pre, cap, hs => by
    have c : decide ((pre.length : Int) < (ks.length : Int)) = true := by simp [hs]; omega
    have hget : (strs ks)[pre.length]? = some [.str x] := by rw [hs]; exact strs_zip pre x rest
    have hlen : pre.length + rest.length + 1 ≤ ks.length := by rw [hs]; simp; omega
    have hk := c_snI g x hB (hb x (by rw [hs]; simp))
    obtain ⟨cap', IH⟩ := l_shI g hB ks hl hb rest (pre ++ [x]) none (by rw [hs]; simp)
    rw [show ((pre ++ [x]).length : Int) = (pre.length : Int) + 1 by simp, show (pre ++ [x]).length = pre.length + 1 by simp, show strs (shorts g.packs (pre ++ [x])) = strs (shorts g.packs pre) ++ [[.str (shortName g.packs x)]] by simp [shorts, strs]] at IH
    clear hs
    have hsl : (strs (shorts g.packs pre)).length = pre.length := by simp [shorts, strs]
    generalize shortName g.packs x = sx at *
    simp only [LGraph.enc, List.map_cons, List.map_nil] at IH hk ⊢
    refine ⟨cap', ?_⟩
    refine loop_eq Tryz.func222 rfl rfl ?_
    simp (disch := ((try simp only [List.length_cons, List.length_append, List.length_nil, List.length_map]); omega)) only [↓GO, ↓DRW, GA, ren, renB, footX, refs, cellsV, cst, cstAt, nilC, idxAddr, E.load, E.store, binO, isC, bin, ibin, sbin, una, isShift, okCell, packV, lenV, blt, fnV, asArg, snapV, snapS, snapP, snapC, flatV, flatT, openK, layBack, allT, allZ, mkS, srcOf0, unN, idxV, nilEq, give, tupV, mkEnv, extV, pickV, LVS, OVS, LTS, TYS, PMS, pmT, Int.reduceToNat, Nat.reduceGT, ↓reduceIte, Nat.reduceAdd, Nat.reduceMul, Nat.reduceSub, Nat.reduceEqDiff, Nat.reduceLeDiff, Nat.reduceLT, Nat.reduceBEq, Int.reduceBEq, Int.reduceBNe, Int.reduceEq, Int.reduceLT, Int.reduceLE, Int.reduceGT, Int.reduceNeg, reduceCtorEq, Int.cast_ofNat_Int, getE_zero, getE_one, getE_two, Option.isSome_none, c, hget, hk, wrap_in, IH, hsl, le_T, rch3]
theorem c_shI (g : LGraph) (hB : GB g) (ks : List Str) (hl : ks.length ≤ 1048576) (hb : ∀ k ∈ ks, k.length ≤ 1048576) : callPure (EV Tryz.prog pol) 222 [.agg (g.enc.map .t), .t (.list 1 (strs ks))] = some (.t (.list 1 (strs (shorts g.packs ks)))) := by
  obtain ⟨cap, L⟩ := l_shI g hB ks hl hb ks [] (some 0) rfl
  simp only [List.length_nil, Int.natCast_zero, show shorts g.packs [] = [] from rfl, strs_nil] at L
  have ht : List.take ks.length (strs (shorts g.packs ks)) = strs (shorts g.packs ks) := List.take_of_length_le (by simp [shorts, strs])
  simp only [LGraph.enc, List.map_cons, List.map_nil] at L ⊢
  apply eq_call
  refine call_eq rfl Tryz.func222 rfl (by kernel_rfl) ?_
  unfold Tryz.f222
  simp (disch := ((try simp only [List.length_cons, List.length_append, List.length_nil, List.length_map]); omega)) only [↓GO, ↓DRW, GA, ren, renB, footX, refs, cellsV, cst, cstAt, nilC, idxAddr, E.load, E.store, binO, isC, bin, ibin, sbin, una, isShift, okCell, packV, lenV, blt, fnV, asArg, snapV, snapS, snapP, snapC, flatV, flatT, openK, layBack, allT, allZ, mkS, srcOf0, unN, idxV, nilEq, give, tupV, mkEnv, extV, pickV, LVS, OVS, LTS, TYS, PMS, pmT, Int.reduceToNat, Nat.reduceGT, ↓reduceIte, Nat.reduceAdd, Nat.reduceMul, Nat.reduceSub, Nat.reduceEqDiff, Nat.reduceLeDiff, Nat.reduceLT, Nat.reduceBEq, Int.reduceBEq, Int.reduceBNe, Int.reduceEq, Int.reduceLT, Int.reduceLE, Int.reduceGT, Int.reduceNeg, reduceCtorEq, Int.cast_ofNat_Int, getE_zero, getE_one, getE_two, Option.isSome_none, L, strs_len, ht, rch3]
theorem l_snR (g : LGraph) (ve : T) (n : Str) (hB : GB g) : ∀ (rest pre : List LPack), g.packs = pre ++ rest →
    EV Tryz.prog pol (.loop 331 122 0 [.ptr 0 0 0, .t (.str n), .t ve, .t (.int .i64 (cntN n pre : Nat)), .t (.int .i64 (pre.length : Int))] [.vs 2 [g.enc.map .t]]) = some (.loop (.exit 0) [.t (.str n), .t ve, .t (.int .i64 (cntN n g.packs : Nat))] [])
  | [], pre, hs => by
    have c : decide ((pre.length : Int) < (g.packs.length : Int)) = false := by simp [hs]
    have e : g.packs = pre := by simpa using hs
    simp only [LGraph.enc, List.map_cons, List.map_nil]
    refine loop_eq Tryz.func331 rfl rfl ?_
    simp (disch := ((try simp only [List.length_cons, List.length_append, List.length_nil, List.length_map]); omega)) only [↓GO, ↓DRW, GA, ren, renB, footX, refs, cellsV, cst, cstAt, nilC, idxAddr, E.load, E.store, binO, isC, bin, ibin, sbin, una, isShift, okCell, packV, lenV, blt, fnV, asArg, snapV, snapS, snapP, snapC, flatV, flatT, openK, layBack, allT, allZ, mkS, srcOf0, unN, idxV, nilEq, give, tupV, mkEnv, extV, pickV, LVS, OVS, LTS, TYS, PMS, pmT, Int.reduceToNat, Nat.reduceGT, ↓reduceIte, Nat.reduceAdd, Nat.reduceMul, Nat.reduceSub, Nat.reduceEqDiff, Nat.reduceLeDiff, Nat.reduceLT, Nat.reduceBEq, Int.reduceBEq, Int.reduceBNe, Int.reduceEq, Int.reduceLT, Int.reduceLE, Int.reduceGT, Int.reduceNeg, reduceCtorEq, Int.cast_ofNat_Int, getE_zero, getE_one, getE_two, Option.isSome_none, c, LPack.encs_len, rch3]
    rw [e]
  | x :: rest, pre, hs => by
    obtain ⟨b1, b2, b3⟩ := hB.len
    have c : decide ((pre.length : Int) < (g.packs.length : Int)) = true := by simp [hs]; omega
    have hget : (LPack.encs g.packs)[pre.length]? = some x.enc := by rw [hs]; exact map_zip LPack.enc pre x rest
    have hlen : pre.length + rest.length + 1 ≤ g.packs.length := by rw [hs]; simp; omega
    have IH := l_snR g ve n hB rest (pre ++ [x]) (by rw [hs]; simp)
    have hcl := cnt_le n pre
    have e1 : ((cntN n (pre ++ [x]) : Nat) : Int) = ((cntN n pre : Nat) : Int) + cond (x.name == n) 1 0 := by
      unfold cntN
      rw [List.countP_append, List.countP_cons]
      cases (x.name == n) <;> simp
    rw [show ((pre ++ [x]).length : Int) = (pre.length : Int) + 1 by simp, e1] at IH
    clear hs e1 b3
    generalize cntN n pre = cn at *
    generalize cntN n g.packs = cp at *
    simp only [LGraph.enc, LPack.enc, List.map_cons, List.map_nil] at hget IH ⊢
    cases h : (x.name == n) <;> rw [h] at IH <;> simp only [cond_true, cond_false, Int.add_zero] at IH
    all_goals
      refine loop_eq Tryz.func331 rfl rfl ?_
      simp (disch := ((try simp only [List.length_cons, List.length_append, List.length_nil, List.length_map]); omega)) only [↓GO, ↓DRW, GA, ren, renB, footX, refs, cellsV, cst, cstAt, nilC, idxAddr, E.load, E.store, binO, isC, bin, ibin, sbin, una, isShift, okCell, packV, lenV, blt, fnV, asArg, snapV, snapS, snapP, snapC, flatV, flatT, openK, layBack, allT, allZ, mkS, srcOf0, unN, idxV, nilEq, give, tupV, mkEnv, extV, pickV, LVS, OVS, LTS, TYS, PMS, pmT, Int.reduceToNat, Nat.reduceGT, ↓reduceIte, Nat.reduceAdd, Nat.reduceMul, Nat.reduceSub, Nat.reduceEqDiff, Nat.reduceLeDiff, Nat.reduceLT, Nat.reduceBEq, Int.reduceBEq, Int.reduceBNe, Int.reduceEq, Int.reduceLT, Int.reduceLE, Int.reduceGT, Int.reduceNeg, reduceCtorEq, Int.cast_ofNat_Int, getE_zero, getE_one, getE_two, Option.isSome_none, c, hget, h, LPack.encs_len, wrap_in, IH, rch3]
theorem c_snR (g : LGraph) (k : Str) (hB : GB g) (hk : k.length ≤ 1048576) : callPure (EV Tryz.prog pol) 331 [.agg (g.enc.map .t), .t (.str k)] = some (.t (.str (shortName g.packs k))) := by
  have h1 := c_skR k (by omega)
  have hlk := splitKey_len k
  have L := l_snR g (.str (splitKey k).2) (splitKey k).1 hB g.packs [] rfl
  rw [show ((cntN (splitKey k).1 [] : Nat) : Int) = 0 from rfl] at L
  simp only [List.length_nil, Int.natCast_zero] at L
  simp only [LGraph.enc, List.map_cons, List.map_nil] at L ⊢
  unfold shortName
  generalize cntN (splitKey k).1 g.packs = cn at *
  generalize (splitKey k).1 = a at *
  generalize (splitKey k).2 = b at *
  cases hc : ((cn : Int) == 1)
  all_goals
    apply eq_call
    refine call_eq rfl Tryz.func331 rfl (by kernel_rfl) ?_
    unfold Tryz.f331
    simp (disch := ((try simp only [List.length_cons, List.length_append, List.length_nil, List.length_map]); omega)) only [↓GO, ↓DRW, GA, ren, renB, footX, refs, cellsV, cst, cstAt, nilC, idxAddr, E.load, E.store, binO, isC, bin, ibin, sbin, una, isShift, okCell, packV, lenV, blt, fnV, asArg, snapV, snapS, snapP, snapC, flatV, flatT, openK, layBack, allT, allZ, mkS, srcOf0, unN, idxV, nilEq, give, tupV, mkEnv, extV, pickV, LVS, OVS, LTS, TYS, PMS, pmT, Int.reduceToNat, Nat.reduceGT, ↓reduceIte, Nat.reduceAdd, Nat.reduceMul, Nat.reduceSub, Nat.reduceEqDiff, Nat.reduceLeDiff, Nat.reduceLT, Nat.reduceBEq, Int.reduceBEq, Int.reduceBNe, Int.reduceEq, Int.reduceLT, Int.reduceLE, Int.reduceGT, Int.reduceNeg, reduceCtorEq, Int.cast_ofNat_Int, getE_zero, getE_one, getE_two, Option.isSome_none, h1, L, hc, LPack.encs_len, le_T, rch3]
end Go.Proofs.YtkpmachalipmpaaGreatDoor
/- Are tables right? By both. Conditions: those of each lemma. -/
namespace Go.Proofs.YtkpmachalipmpaaGreatDoor
open E
set_option linter.unusedSimpArgs false
set_option linter.unusedVariables false
set_option maxRecDepth 100000
def fieldOk (x : LField) : Bool := keyOk x.key && !(x.isList && !(x.text == [])) && !(!x.isList && decide ((x.list.length : Int) > 0))
def fieldsOk : List LField → List LField → Bool
  | _, [] => true
  | pre, x :: r => fieldOk x && !(pre.any fun y => y.key == x.key) && fieldsOk (pre ++ [x]) r
theorem encs_take (fs pre rest : List LField) (h : fs = pre ++ rest) : (LField.encs fs).take pre.length = LField.encs pre := by
  subst h
  simp [LField.encs]
theorem c_sameKey (x y : LField) : callPure (EV Tryz.prog pol) 285 [.agg (x.enc.map .t), .t (.fp y.enc)] = some (.t (.bool (x.key == y.key))) := by
  obtain ⟨key, text, list, isList⟩ := x
  obtain ⟨key', text', list', isList'⟩ := y
  simp only [LField.enc, List.map_cons, List.map_nil]
  apply eq_call
  refine call_eq rfl Tryz.func285 rfl (by kernel_rfl) ?_
  unfold Tryz.f285
  simp only [↓GO, ↓DRW, GA, ren, renB, footX, refs, cellsV, cst, cstAt, nilC, idxAddr, E.load, E.store, binO, isC, bin, ibin, sbin, una, isShift, okCell, packV, lenV, blt, fnV, asArg, snapV, snapS, snapP, snapC, flatV, flatT, openK, layBack, allT, allZ, mkS, srcOf0, unN, idxV, nilEq, give, tupV, mkEnv, extV, pickV, LVS, OVS, LTS, TYS, PMS, pmT, Int.reduceToNat, Nat.reduceGT, ↓reduceIte, Nat.reduceAdd, Nat.reduceMul, Nat.reduceSub, Nat.reduceEqDiff, Nat.reduceLeDiff, Nat.reduceLT, Nat.reduceBEq, Int.reduceBEq, Int.reduceBNe, Int.reduceEq, Int.reduceLT, Int.reduceLE, Int.reduceGT, Int.reduceNeg, reduceCtorEq]
theorem l_fieldsI (nm : Str) (fs : List LField) (hl : fs.length ≤ 4194304) (hk : ∀ x ∈ fs, x.key.length ≤ 4194304) (aL aN aI : T) : ∀ (rest pre : List LField), fs = pre ++ rest →
    EV Tryz.prog pol (.loop 218 13518 0 [.t aL, .ptr 0 0 0, .t aL, .t aN, .t aI, .t (.list 4 (LField.encs fs)), .t (.int .i64 (fs.length : Int)), .t (.int .i64 (pre.length : Int))] [.vs 2 [[.t (.str nm), .t (.list 4 (LField.encs fs))]]])
    = some (cond (fieldsOk pre rest) (.loop (.exit 2) [.t aL, .bad, .t aL, .t aN, .t aI] []) (.loop .ret [.t aL, .t (.bool false), .t aL, .t aN, .t aI] []))
  | [], pre, hs => by
    have c : decide ((pre.length : Int) < (fs.length : Int)) = false := by simp [hs]
    refine loop_eq Tryz.func218 rfl rfl ?_
    simp only [↓GO, ↓DRW, GA, ren, renB, footX, refs, cellsV, cst, cstAt, nilC, idxAddr, E.load, E.store, binO, isC, bin, ibin, sbin, una, isShift, okCell, packV, lenV, blt, fnV, asArg, snapV, snapS, snapP, snapC, flatV, flatT, openK, layBack, allT, allZ, mkS, srcOf0, unN, idxV, nilEq, give, tupV, mkEnv, extV, pickV, LVS, OVS, LTS, TYS, PMS, pmT, Int.reduceToNat, Nat.reduceGT, ↓reduceIte, Nat.reduceAdd, Nat.reduceMul, Nat.reduceSub, Nat.reduceEqDiff, Nat.reduceLeDiff, Nat.reduceLT, Nat.reduceBEq, Int.reduceBEq, Int.reduceBNe, Int.reduceEq, Int.reduceLT, Int.reduceLE, Int.reduceGT, Int.reduceNeg, reduceCtorEq, c, fieldsOk]
  | x :: rest, pre, hs => by
    have c : decide ((pre.length : Int) < (fs.length : Int)) = true := by simp [hs]; omega
    have hi : pre.length < fs.length := by rw [hs]; simp
    have hget := LField.encs_get fs pre.length hi
    have hgb : fs[pre.length] = x := by simp [hs]
    rw [hgb] at hget
    have hin : x ∈ fs := by rw [hs]; simp
    have hcon := c_conF_Field 285 [.fp x.enc] (fun y => y.key == x.key) pre (by omega) (fun y _ => c_sameKey y x)
    rw [← encs_take fs pre _ hs] at hcon
    have hfl : (LField.encs fs).length = fs.length := LField.encs_len fs
    have hkey := c_isKey x.key (by have := hk x hin; omega)
    have IH := l_fieldsI nm fs hl hk aL aN aI rest (pre ++ [x]) (by rw [hs]; simp)
    rw [show ((pre ++ [x]).length : Int) = (pre.length : Int) + 1 by simp] at IH
    refine loop_eq Tryz.func218 rfl rfl ?_
    simp only [fieldsOk, fieldOk]
    generalize hany : (pre.any fun y => y.key == x.key) = ba at *
    generalize keyOk x.key = bk at *
    generalize hnx : fieldsOk (pre ++ [x]) rest = bn at *
    obtain ⟨key, text, list, isList⟩ := x
    simp only [LField.enc, List.map_cons, List.map_nil] at *
    clear hs hin hany hgb hk hnx
    cases isList <;> simp only [Bool.not_true, Bool.not_false, Bool.true_and, Bool.false_and, Bool.and_true]
    all_goals repeat' (first | (((first | with_reducible refine cK_any (fun hA => ?_) (fun hA => ?_) | with_reducible refine gW_any (fun hA => ?_) (fun hA => ?_)) <;> (try simp only [bne, Bool.not_eq_true', Bool.not_eq_false'] at hA) <;> (first | (have hP := Int.le_of_eq (eq_of_beq (α := Int) hA); have hQ := Int.le_of_eq (eq_of_beq (α := Int) hA).symm) | have hP := of_decide_eq_true hA | have hP := of_decide_eq_false hA | skip)) <;> (simp (disch := ((try simp only [List.length_cons, List.length_append, List.length_nil, List.length_map]); omega)) only [↓GO, ↓DRW, GA, ren, renB, footX, refs, cellsV, cst, cstAt, nilC, idxAddr, E.load, E.store, binO, isC, bin, ibin, sbin, una, isShift, okCell, packV, lenV, blt, fnV, asArg, snapV, snapS, snapP, snapC, flatV, flatT, openK, layBack, allT, allZ, mkS, srcOf0, unN, idxV, nilEq, give, tupV, mkEnv, extV, pickV, LVS, OVS, LTS, TYS, PMS, pmT, Int.reduceToNat, Nat.reduceGT, ↓reduceIte, Nat.reduceAdd, Nat.reduceMul, Nat.reduceSub, Nat.reduceEqDiff, Nat.reduceLeDiff, Nat.reduceLT, Nat.reduceBEq, Int.reduceBEq, Int.reduceBNe, Int.reduceEq, Int.reduceLT, Int.reduceLE, Int.reduceGT, Int.reduceNeg, reduceCtorEq, wrap_in, bne, strs_len, LField.encs_len, *])) | (simp (disch := ((try simp only [List.length_cons, List.length_append, List.length_nil, List.length_map]); omega)) only [↓GO, ↓DRW, GA, ren, renB, footX, refs, cellsV, cst, cstAt, nilC, idxAddr, E.load, E.store, binO, isC, bin, ibin, sbin, una, isShift, okCell, packV, lenV, blt, fnV, asArg, snapV, snapS, snapP, snapC, flatV, flatT, openK, layBack, allT, allZ, mkS, srcOf0, unN, idxV, nilEq, give, tupV, mkEnv, extV, pickV, LVS, OVS, LTS, TYS, PMS, pmT, Int.reduceToNat, Nat.reduceGT, ↓reduceIte, Nat.reduceAdd, Nat.reduceMul, Nat.reduceSub, Nat.reduceEqDiff, Nat.reduceLeDiff, Nat.reduceLT, Nat.reduceBEq, Int.reduceBEq, Int.reduceBNe, Int.reduceEq, Int.reduceLT, Int.reduceLE, Int.reduceGT, Int.reduceNeg, reduceCtorEq, wrap_in, bne, strs_len, LField.encs_len, *]))
def tblOk (z : Bool) (t : LTable) : Bool := !((!keyOk t.name && !((z && (t.name == [])) && decide ((t.fields.length : Int) > 0))) || decide ((t.fields.length : Int) > 20)) && fieldsOk [] t.fields
def tblsOk : Nat → List LTable → Bool
  | _, [] => true
  | n, t :: r => tblOk ((n : Int) == 0) t && tblsOk (n + 1) r
def tablesOk (l : List LTable) : Bool := tblsOk 0 l && decide ((l.length : Int) ≤ 60)
/-- what bounds tables -/
structure BndT (l : List LTable) : Prop where
  len : l.length ≤ 4194304
  name : ∀ t ∈ l, t.name.length ≤ 4194304
  fields : ∀ t ∈ l, t.fields.length ≤ 4194304
  key : ∀ t ∈ l, ∀ x ∈ t.fields, x.key.length ≤ 4194304
theorem l_tablesI (ts : List LTable) (hB : BndT ts) : ∀ (rest pre : List LTable), ts = pre ++ rest →
    EV Tryz.prog pol (.loop 218 26 0 [.t (.list 2 (LTable.encs ts)), .t (.list 2 (LTable.encs ts)), .t (.int .i64 (ts.length : Int)), .t (.int .i64 (pre.length : Int))] [])
    = some (cond (tblsOk pre.length rest) (.loop (.exit 0) [.t (.list 2 (LTable.encs ts)), .bad] []) (.loop .ret [.t (.list 2 (LTable.encs ts)), .t (.bool false)] []))
  | [], pre, hs => by
    have c : decide ((pre.length : Int) < (ts.length : Int)) = false := by simp [hs]
    refine loop_eq Tryz.func218 rfl rfl ?_
    simp only [↓GO, ↓DRW, GA, ren, renB, footX, refs, cellsV, cst, cstAt, nilC, idxAddr, E.load, E.store, binO, isC, bin, ibin, sbin, una, isShift, okCell, packV, lenV, blt, fnV, asArg, snapV, snapS, snapP, snapC, flatV, flatT, openK, layBack, allT, allZ, mkS, srcOf0, unN, idxV, nilEq, give, tupV, mkEnv, extV, pickV, LVS, OVS, LTS, TYS, PMS, pmT, Int.reduceToNat, Nat.reduceGT, ↓reduceIte, Nat.reduceAdd, Nat.reduceMul, Nat.reduceSub, Nat.reduceEqDiff, Nat.reduceLeDiff, Nat.reduceLT, Nat.reduceBEq, Int.reduceBEq, Int.reduceBNe, Int.reduceEq, Int.reduceLT, Int.reduceLE, Int.reduceGT, Int.reduceNeg, reduceCtorEq, c, tblsOk]
  | x :: rest, pre, hs => by
    have c : decide ((pre.length : Int) < (ts.length : Int)) = true := by simp [hs]; omega
    have hlb := hB.len
    have hi : pre.length < ts.length := by rw [hs]; simp
    have hget := LTable.encs_get ts pre.length hi
    have hgb : ts[pre.length] = x := by simp [hs]
    rw [hgb] at hget
    have hin : x ∈ ts := by rw [hs]; simp
    have hkey := c_isKey x.name (by have := hB.name x hin; omega)
    have hf := l_fieldsI x.name x.fields (hB.fields x hin) (hB.key x hin) (.list 2 (LTable.encs ts)) (.int .i64 (ts.length : Int)) (.int .i64 (pre.length : Int)) x.fields [] rfl
    simp only [List.length_nil, Int.natCast_zero] at hf
    have IH := l_tablesI ts hB rest (pre ++ [x]) (by rw [hs]; simp)
    rw [show ((pre ++ [x]).length : Int) = (pre.length : Int) + 1 by simp, show (pre ++ [x]).length = pre.length + 1 by simp] at IH
    refine loop_eq Tryz.func218 rfl rfl ?_
    simp only [tblsOk, tblOk]
    generalize keyOk x.name = bk at *
    generalize fieldsOk [] x.fields = bf at *
    generalize tblsOk (pre.length + 1) rest = bn at *
    obtain ⟨name, fields⟩ := x
    simp only [LTable.enc, List.map_cons, List.map_nil] at *
    clear hs hin hgb hB
    cases bf <;> simp only [cond_true, cond_false] at hf
    all_goals repeat' (first | (((first | with_reducible refine cK_any (fun hA => ?_) (fun hA => ?_) | with_reducible refine gW_any (fun hA => ?_) (fun hA => ?_)) <;> (try simp only [bne, Bool.not_eq_true', Bool.not_eq_false'] at hA) <;> (first | (have hP := Int.le_of_eq (eq_of_beq (α := Int) hA); have hQ := Int.le_of_eq (eq_of_beq (α := Int) hA).symm) | have hP := of_decide_eq_true hA | have hP := of_decide_eq_false hA | skip)) <;> (simp (disch := ((try simp only [List.length_cons, List.length_append, List.length_nil, List.length_map]); omega)) only [↓GO, ↓DRW, GA, ren, renB, footX, refs, cellsV, cst, cstAt, nilC, idxAddr, E.load, E.store, binO, isC, bin, ibin, sbin, una, isShift, okCell, packV, lenV, blt, fnV, asArg, snapV, snapS, snapP, snapC, flatV, flatT, openK, layBack, allT, allZ, mkS, srcOf0, unN, idxV, nilEq, give, tupV, mkEnv, extV, pickV, LVS, OVS, LTS, TYS, PMS, pmT, Int.reduceToNat, Nat.reduceGT, ↓reduceIte, Nat.reduceAdd, Nat.reduceMul, Nat.reduceSub, Nat.reduceEqDiff, Nat.reduceLeDiff, Nat.reduceLT, Nat.reduceBEq, Int.reduceBEq, Int.reduceBNe, Int.reduceEq, Int.reduceLT, Int.reduceLE, Int.reduceGT, Int.reduceNeg, reduceCtorEq, wrap_in, bne, LField.encs_len, LTable.encs_len, *])) | (simp (disch := ((try simp only [List.length_cons, List.length_append, List.length_nil, List.length_map]); omega)) only [↓GO, ↓DRW, GA, ren, renB, footX, refs, cellsV, cst, cstAt, nilC, idxAddr, E.load, E.store, binO, isC, bin, ibin, sbin, una, isShift, okCell, packV, lenV, blt, fnV, asArg, snapV, snapS, snapP, snapC, flatV, flatT, openK, layBack, allT, allZ, mkS, srcOf0, unN, idxV, nilEq, give, tupV, mkEnv, extV, pickV, LVS, OVS, LTS, TYS, PMS, pmT, Int.reduceToNat, Nat.reduceGT, ↓reduceIte, Nat.reduceAdd, Nat.reduceMul, Nat.reduceSub, Nat.reduceEqDiff, Nat.reduceLeDiff, Nat.reduceLT, Nat.reduceBEq, Int.reduceBEq, Int.reduceBNe, Int.reduceEq, Int.reduceLT, Int.reduceLE, Int.reduceGT, Int.reduceNeg, reduceCtorEq, wrap_in, bne, LField.encs_len, LTable.encs_len, *]))
theorem c_tablesI (ts : List LTable) (hB : BndT ts) : callPure (EV Tryz.prog pol) 218 [.t (.list 2 (LTable.encs ts))] = some (.t (.bool (tablesOk ts))) := by
  have IH := l_tablesI ts hB ts [] rfl
  simp only [List.length_nil, Int.natCast_zero] at IH
  apply eq_call
  refine call_eq rfl Tryz.func218 rfl (by kernel_rfl) ?_
  unfold Tryz.f218
  simp only [tablesOk]
  cases hb : tblsOk 0 ts with
  | true => rw [hb] at IH; simp only [cond_true] at IH; simp only [↓GO, ↓DRW, GA, ren, renB, footX, refs, cellsV, cst, cstAt, nilC, idxAddr, E.load, E.store, binO, isC, bin, ibin, sbin, una, isShift, okCell, packV, lenV, blt, fnV, asArg, snapV, snapS, snapP, snapC, flatV, flatT, openK, layBack, allT, allZ, mkS, srcOf0, unN, idxV, nilEq, give, tupV, mkEnv, extV, pickV, LVS, OVS, LTS, TYS, PMS, pmT, Int.reduceToNat, Nat.reduceGT, ↓reduceIte, Nat.reduceAdd, Nat.reduceMul, Nat.reduceSub, Nat.reduceEqDiff, Nat.reduceLeDiff, Nat.reduceLT, Nat.reduceBEq, Int.reduceBEq, Int.reduceBNe, Int.reduceEq, Int.reduceLT, Int.reduceLE, Int.reduceGT, Int.reduceNeg, reduceCtorEq, LTable.encs_len, IH]
  | false => rw [hb] at IH; simp only [cond_false] at IH; simp only [↓GO, ↓DRW, GA, ren, renB, footX, refs, cellsV, cst, cstAt, nilC, idxAddr, E.load, E.store, binO, isC, bin, ibin, sbin, una, isShift, okCell, packV, lenV, blt, fnV, asArg, snapV, snapS, snapP, snapC, flatV, flatT, openK, layBack, allT, allZ, mkS, srcOf0, unN, idxV, nilEq, give, tupV, mkEnv, extV, pickV, LVS, OVS, LTS, TYS, PMS, pmT, Int.reduceToNat, Nat.reduceGT, ↓reduceIte, Nat.reduceAdd, Nat.reduceMul, Nat.reduceSub, Nat.reduceEqDiff, Nat.reduceLeDiff, Nat.reduceLT, Nat.reduceBEq, Int.reduceBEq, Int.reduceBNe, Int.reduceEq, Int.reduceLT, Int.reduceLE, Int.reduceGT, Int.reduceNeg, reduceCtorEq, LTable.encs_len, IH]
end Go.Proofs.YtkpmachalipmpaaGreatDoor
/- Are tables right? By the specification; it says the same. Conditions: those of each lemma. -/
namespace Go.Proofs.YtkpmachalipmpaaGreatDoor
open E
set_option linter.unusedSimpArgs false
set_option linter.unusedVariables false
set_option maxRecDepth 100000
def l07B (t : LTable) : Bool := fieldsOk [] t.fields && (decide ((t.fields.length : Int) ≤ 20) && (((t.name == []) && decide ((t.fields.length : Int) > 0)) || keyOk t.name))
def tblsR : Nat → List LTable → Bool
  | _, [] => true
  | n, t :: r => !(!l07B t || (decide ((n : Int) > 0) && (t.name == []))) && tblsR (n + 1) r
theorem keyOk_nil : keyOk [] = false := by decide
theorem tbl_same (n : Nat) (t : LTable) : (!(!l07B t || (decide ((n : Int) > 0) && (t.name == [])))) = tblOk ((n : Int) == 0) t := by
  unfold l07B tblOk
  have e1 : decide ((n : Int) > 0) = !((n : Int) == 0) := by
    by_cases h : n = 0
    · subst h; rfl
    · have : ((n : Int) == 0) = false := by simpa using h
      rw [this]; simp; omega
  have e2 : decide ((t.fields.length : Int) ≤ 20) = !decide ((t.fields.length : Int) > 20) := by
    by_cases h : (t.fields.length : Int) ≤ 20
    · rw [decide_eq_true h, decide_eq_false (by omega)]; rfl
    · rw [decide_eq_false h, decide_eq_true (by omega)]; rfl
  rw [e1, e2]
  by_cases hn : t.name = []
  · rw [hn, keyOk_nil]
    generalize ((n : Int) == 0) = a; generalize decide ((t.fields.length : Int) > 20) = b; generalize decide ((t.fields.length : Int) > 0) = c; generalize fieldsOk [] t.fields = d
    cases a <;> cases b <;> cases c <;> cases d <;> rfl
  · have : (t.name == []) = false := by simpa using hn
    rw [this]
    generalize ((n : Int) == 0) = a; generalize decide ((t.fields.length : Int) > 20) = b; generalize decide ((t.fields.length : Int) > 0) = c; generalize fieldsOk [] t.fields = d; generalize keyOk t.name = k
    cases a <;> cases b <;> cases c <;> cases d <;> cases k <;> rfl
theorem tbls_same : ∀ (l : List LTable) (n : Nat), tblsR n l = tblsOk n l
  | [], n => rfl
  | t :: r, n => by simp only [tblsR, tblsOk, tbl_same, tbls_same r]
theorem l_dupR (nm : Str) (fs : List LField) (hl : fs.length ≤ 4194304) (x : LField) (aF : T) (i : Nat) (pre : List LField) (hi : i = pre.length) (hp : ∃ rest, fs = pre ++ rest) : ∀ (todo done : List LField), pre = done ++ todo →
    EV Tryz.prog pol (.loop 279 6734 0 [.ptr 0 0 0, .t (.int .i64 (i : Int)), .ptr 1 0 0, .t (.int .i64 (done.length : Int))] [.vs 2 [[.t (.str nm), .t (.list 4 (LField.encs fs))]], .vs 4 [x.enc.map .t]])
    = some (cond (todo.any fun y => y.key == x.key) (.loop .ret [.ptr 0 0 0, .t (.bool false), .t (.int .i64 (i : Int))] [.vs 2 [[.t (.str nm), .t (.list 4 (LField.encs fs))]]]) (.loop (.exit 2) [.ptr 0 0 0, .bad, .t (.int .i64 (i : Int))] [.vs 2 [[.t (.str nm), .t (.list 4 (LField.encs fs))]]]))
  | [], done, hs => by
    have c : decide ((done.length : Int) < (i : Int)) = false := by simp [hi, hs]
    obtain ⟨key, text, list, isList⟩ := x
    simp only [LField.enc, List.map_cons, List.map_nil]
    refine loop_eq Tryz.func279 rfl rfl ?_
    simp only [↓GO, ↓DRW, GA, ren, renB, footX, refs, cellsV, cst, cstAt, nilC, idxAddr, E.load, E.store, binO, isC, bin, ibin, sbin, una, isShift, okCell, packV, lenV, blt, fnV, asArg, snapV, snapS, snapP, snapC, flatV, flatT, openK, layBack, allT, allZ, mkS, srcOf0, unN, idxV, nilEq, give, tupV, mkEnv, extV, pickV, LVS, OVS, LTS, TYS, PMS, pmT, Int.reduceToNat, Nat.reduceGT, ↓reduceIte, Nat.reduceAdd, Nat.reduceMul, Nat.reduceSub, Nat.reduceEqDiff, Nat.reduceLeDiff, Nat.reduceLT, Nat.reduceBEq, Int.reduceBEq, Int.reduceBNe, Int.reduceEq, Int.reduceLT, Int.reduceLE, Int.reduceGT, Int.reduceNeg, reduceCtorEq, c, List.any_nil]
  | y :: todo, done, hs => by
    obtain ⟨rest, hr⟩ := hp
    have c : decide ((done.length : Int) < (i : Int)) = true := by simp [hi, hs]; omega
    have hj : done.length < fs.length := by rw [hr, hs]; simp
    have hget := LField.encs_get fs done.length hj
    have hgb : fs[done.length] = y := by simp [hr, hs]
    rw [hgb] at hget
    have IH := l_dupR nm fs hl x aF i pre hi ⟨rest, hr⟩ todo (done ++ [y]) (by rw [hs]; simp)
    rw [show ((done ++ [y]).length : Int) = (done.length : Int) + 1 by simp] at IH
    refine loop_eq Tryz.func279 rfl rfl ?_
    simp only [List.any_cons]
    generalize (todo.any fun y => y.key == x.key) = ba at *
    obtain ⟨key, text, list, isList⟩ := x
    obtain ⟨key', text', list', isList'⟩ := y
    simp only [LField.enc, List.map_cons, List.map_nil] at *
    clear hs hgb hi hr
    repeat' (first | (((first | with_reducible refine cK_any (fun hA => ?_) (fun hA => ?_) | with_reducible refine gW_any (fun hA => ?_) (fun hA => ?_)) <;> (try simp only [bne, Bool.not_eq_true', Bool.not_eq_false'] at hA) <;> (first | (have hP := Int.le_of_eq (eq_of_beq (α := Int) hA); have hQ := Int.le_of_eq (eq_of_beq (α := Int) hA).symm) | have hP := of_decide_eq_true hA | have hP := of_decide_eq_false hA | skip)) <;> (simp (disch := ((try simp only [List.length_cons, List.length_append, List.length_nil, List.length_map]); omega)) only [↓GO, ↓DRW, GA, ren, renB, footX, refs, cellsV, cst, cstAt, nilC, idxAddr, E.load, E.store, binO, isC, bin, ibin, sbin, una, isShift, okCell, packV, lenV, blt, fnV, asArg, snapV, snapS, snapP, snapC, flatV, flatT, openK, layBack, allT, allZ, mkS, srcOf0, unN, idxV, nilEq, give, tupV, mkEnv, extV, pickV, LVS, OVS, LTS, TYS, PMS, pmT, Int.reduceToNat, Nat.reduceGT, ↓reduceIte, Nat.reduceAdd, Nat.reduceMul, Nat.reduceSub, Nat.reduceEqDiff, Nat.reduceLeDiff, Nat.reduceLT, Nat.reduceBEq, Int.reduceBEq, Int.reduceBNe, Int.reduceEq, Int.reduceLT, Int.reduceLE, Int.reduceGT, Int.reduceNeg, reduceCtorEq, wrap_in, bne, strs_len, LField.encs_len, *])) | (simp (disch := ((try simp only [List.length_cons, List.length_append, List.length_nil, List.length_map]); omega)) only [↓GO, ↓DRW, GA, ren, renB, footX, refs, cellsV, cst, cstAt, nilC, idxAddr, E.load, E.store, binO, isC, bin, ibin, sbin, una, isShift, okCell, packV, lenV, blt, fnV, asArg, snapV, snapS, snapP, snapC, flatV, flatT, openK, layBack, allT, allZ, mkS, srcOf0, unN, idxV, nilEq, give, tupV, mkEnv, extV, pickV, LVS, OVS, LTS, TYS, PMS, pmT, Int.reduceToNat, Nat.reduceGT, ↓reduceIte, Nat.reduceAdd, Nat.reduceMul, Nat.reduceSub, Nat.reduceEqDiff, Nat.reduceLeDiff, Nat.reduceLT, Nat.reduceBEq, Int.reduceBEq, Int.reduceBNe, Int.reduceEq, Int.reduceLT, Int.reduceLE, Int.reduceGT, Int.reduceNeg, reduceCtorEq, wrap_in, bne, strs_len, LField.encs_len, *]))
theorem l_fieldsR (nm : Str) (fs : List LField) (hl : fs.length ≤ 4194304) (hk : ∀ x ∈ fs, x.key.length ≤ 4194304) : ∀ (rest pre : List LField), fs = pre ++ rest →
    EV Tryz.prog pol (.loop 279 26 0 [.ptr 0 0 0, .t (.int .i64 (pre.length : Int))] [.vs 2 [[.t (.str nm), .t (.list 4 (LField.encs fs))]]])
    = some (cond (fieldsOk pre rest) (.loop (.exit 0) [.ptr 0 0 0, .bad] [.vs 2 [[.t (.str nm), .t (.list 4 (LField.encs fs))]]]) (.loop .ret [.ptr 0 0 0, .t (.bool false)] [.vs 2 [[.t (.str nm), .t (.list 4 (LField.encs fs))]]]))
  | [], pre, hs => by
    have c : decide ((pre.length : Int) < (fs.length : Int)) = false := by simp [hs]
    refine loop_eq Tryz.func279 rfl rfl ?_
    simp only [↓GO, ↓DRW, GA, ren, renB, footX, refs, cellsV, cst, cstAt, nilC, idxAddr, E.load, E.store, binO, isC, bin, ibin, sbin, una, isShift, okCell, packV, lenV, blt, fnV, asArg, snapV, snapS, snapP, snapC, flatV, flatT, openK, layBack, allT, allZ, mkS, srcOf0, unN, idxV, nilEq, give, tupV, mkEnv, extV, pickV, LVS, OVS, LTS, TYS, PMS, pmT, Int.reduceToNat, Nat.reduceGT, ↓reduceIte, Nat.reduceAdd, Nat.reduceMul, Nat.reduceSub, Nat.reduceEqDiff, Nat.reduceLeDiff, Nat.reduceLT, Nat.reduceBEq, Int.reduceBEq, Int.reduceBNe, Int.reduceEq, Int.reduceLT, Int.reduceLE, Int.reduceGT, Int.reduceNeg, reduceCtorEq, LField.encs_len, c, fieldsOk]
  | x :: rest, pre, hs => by
    have c : decide ((pre.length : Int) < (fs.length : Int)) = true := by simp [hs]; omega
    have hi : pre.length < fs.length := by rw [hs]; simp
    have hget := LField.encs_get fs pre.length hi
    have hgb : fs[pre.length] = x := by simp [hs]
    rw [hgb] at hget
    have hin : x ∈ fs := by rw [hs]; simp
    have hkey := c_l07Key x.key (by have := hk x hin; omega)
    have hdup := l_dupR nm fs hl x .nilp pre.length pre rfl ⟨_, hs⟩ pre [] rfl
    simp only [List.length_nil, Int.natCast_zero] at hdup
    have IH := l_fieldsR nm fs hl hk rest (pre ++ [x]) (by rw [hs]; simp)
    rw [show ((pre ++ [x]).length : Int) = (pre.length : Int) + 1 by simp] at IH
    refine loop_eq Tryz.func279 rfl rfl ?_
    simp only [fieldsOk, fieldOk]
    generalize hany : (pre.any fun y => y.key == x.key) = ba at *
    generalize keyOk x.key = bk at *
    generalize hnx : fieldsOk (pre ++ [x]) rest = bn at *
    obtain ⟨key, text, list, isList⟩ := x
    simp only [LField.enc, List.map_cons, List.map_nil] at *
    clear hs hin hany hgb hk hnx
    cases ba <;> simp only [cond_true, cond_false] at hdup <;> cases isList <;> simp only [Bool.not_true, Bool.not_false, Bool.true_and, Bool.false_and, Bool.and_true]
    all_goals repeat' (first | (((first | with_reducible refine cK_any (fun hA => ?_) (fun hA => ?_) | with_reducible refine gW_any (fun hA => ?_) (fun hA => ?_)) <;> (try simp only [bne, Bool.not_eq_true', Bool.not_eq_false'] at hA) <;> (first | (have hP := Int.le_of_eq (eq_of_beq (α := Int) hA); have hQ := Int.le_of_eq (eq_of_beq (α := Int) hA).symm) | have hP := of_decide_eq_true hA | have hP := of_decide_eq_false hA | skip)) <;> (simp (disch := ((try simp only [List.length_cons, List.length_append, List.length_nil, List.length_map]); omega)) only [↓GO, ↓DRW, GA, ren, renB, footX, refs, cellsV, cst, cstAt, nilC, idxAddr, E.load, E.store, binO, isC, bin, ibin, sbin, una, isShift, okCell, packV, lenV, blt, fnV, asArg, snapV, snapS, snapP, snapC, flatV, flatT, openK, layBack, allT, allZ, mkS, srcOf0, unN, idxV, nilEq, give, tupV, mkEnv, extV, pickV, LVS, OVS, LTS, TYS, PMS, pmT, Int.reduceToNat, Nat.reduceGT, ↓reduceIte, Nat.reduceAdd, Nat.reduceMul, Nat.reduceSub, Nat.reduceEqDiff, Nat.reduceLeDiff, Nat.reduceLT, Nat.reduceBEq, Int.reduceBEq, Int.reduceBNe, Int.reduceEq, Int.reduceLT, Int.reduceLE, Int.reduceGT, Int.reduceNeg, reduceCtorEq, wrap_in, bne, strs_len, LField.encs_len, *])) | (simp (disch := ((try simp only [List.length_cons, List.length_append, List.length_nil, List.length_map]); omega)) only [↓GO, ↓DRW, GA, ren, renB, footX, refs, cellsV, cst, cstAt, nilC, idxAddr, E.load, E.store, binO, isC, bin, ibin, sbin, una, isShift, okCell, packV, lenV, blt, fnV, asArg, snapV, snapS, snapP, snapC, flatV, flatT, openK, layBack, allT, allZ, mkS, srcOf0, unN, idxV, nilEq, give, tupV, mkEnv, extV, pickV, LVS, OVS, LTS, TYS, PMS, pmT, Int.reduceToNat, Nat.reduceGT, ↓reduceIte, Nat.reduceAdd, Nat.reduceMul, Nat.reduceSub, Nat.reduceEqDiff, Nat.reduceLeDiff, Nat.reduceLT, Nat.reduceBEq, Int.reduceBEq, Int.reduceBNe, Int.reduceEq, Int.reduceLT, Int.reduceLE, Int.reduceGT, Int.reduceNeg, reduceCtorEq, wrap_in, bne, strs_len, LField.encs_len, *]))
theorem c_l07Table (t : LTable) (h1 : t.name.length ≤ 4194304) (h2 : t.fields.length ≤ 4194304) (h3 : ∀ x ∈ t.fields, x.key.length ≤ 4194304) : callPure (EV Tryz.prog pol) 279 [.agg (t.enc.map .t)] = some (.t (.bool (l07B t))) := by
  have hf := l_fieldsR t.name t.fields h2 h3 t.fields [] rfl
  simp only [List.length_nil, Int.natCast_zero] at hf
  have hkey := c_l07Key t.name (by omega)
  apply eq_call
  refine call_eq rfl Tryz.func279 rfl (by kernel_rfl) ?_
  unfold Tryz.f279
  simp only [l07B]
  generalize keyOk t.name = bk at *
  generalize fieldsOk [] t.fields = bf at *
  obtain ⟨name, fields⟩ := t
  simp only [LTable.enc, List.map_cons, List.map_nil] at *
  cases bf <;> simp only [cond_true, cond_false] at hf
  all_goals repeat' (first | (((first | with_reducible refine cK_any (fun hA => ?_) (fun hA => ?_) | with_reducible refine gW_any (fun hA => ?_) (fun hA => ?_)) <;> (try simp only [bne, Bool.not_eq_true', Bool.not_eq_false'] at hA) <;> (first | (have hP := Int.le_of_eq (eq_of_beq (α := Int) hA); have hQ := Int.le_of_eq (eq_of_beq (α := Int) hA).symm) | have hP := of_decide_eq_true hA | have hP := of_decide_eq_false hA | skip)) <;> (simp (disch := ((try simp only [List.length_cons, List.length_append, List.length_nil, List.length_map]); omega)) only [↓GO, ↓DRW, GA, ren, renB, footX, refs, cellsV, cst, cstAt, nilC, idxAddr, E.load, E.store, binO, isC, bin, ibin, sbin, una, isShift, okCell, packV, lenV, blt, fnV, asArg, snapV, snapS, snapP, snapC, flatV, flatT, openK, layBack, allT, allZ, mkS, srcOf0, unN, idxV, nilEq, give, tupV, mkEnv, extV, pickV, LVS, OVS, LTS, TYS, PMS, pmT, Int.reduceToNat, Nat.reduceGT, ↓reduceIte, Nat.reduceAdd, Nat.reduceMul, Nat.reduceSub, Nat.reduceEqDiff, Nat.reduceLeDiff, Nat.reduceLT, Nat.reduceBEq, Int.reduceBEq, Int.reduceBNe, Int.reduceEq, Int.reduceLT, Int.reduceLE, Int.reduceGT, Int.reduceNeg, reduceCtorEq, wrap_in, bne, strs_len, LField.encs_len, *])) | (simp (disch := ((try simp only [List.length_cons, List.length_append, List.length_nil, List.length_map]); omega)) only [↓GO, ↓DRW, GA, ren, renB, footX, refs, cellsV, cst, cstAt, nilC, idxAddr, E.load, E.store, binO, isC, bin, ibin, sbin, una, isShift, okCell, packV, lenV, blt, fnV, asArg, snapV, snapS, snapP, snapC, flatV, flatT, openK, layBack, allT, allZ, mkS, srcOf0, unN, idxV, nilEq, give, tupV, mkEnv, extV, pickV, LVS, OVS, LTS, TYS, PMS, pmT, Int.reduceToNat, Nat.reduceGT, ↓reduceIte, Nat.reduceAdd, Nat.reduceMul, Nat.reduceSub, Nat.reduceEqDiff, Nat.reduceLeDiff, Nat.reduceLT, Nat.reduceBEq, Int.reduceBEq, Int.reduceBNe, Int.reduceEq, Int.reduceLT, Int.reduceLE, Int.reduceGT, Int.reduceNeg, reduceCtorEq, wrap_in, bne, strs_len, LField.encs_len, *]))
theorem l_tablesR (ts : List LTable) (hB : BndT ts) : ∀ (rest pre : List LTable), ts = pre ++ rest →
    EV Tryz.prog pol (.loop 215 26 0 [.t (.list 2 (LTable.encs ts)), .t (.int .i64 (pre.length : Int))] [])
    = some (cond (tblsR pre.length rest) (.loop (.exit 0) [.t (.list 2 (LTable.encs ts)), .bad] []) (.loop .ret [.t (.list 2 (LTable.encs ts)), .t (.bool false)] []))
  | [], pre, hs => by
    have c : decide ((pre.length : Int) < (ts.length : Int)) = false := by simp [hs]
    refine loop_eq Tryz.func215 rfl rfl ?_
    simp only [↓GO, ↓DRW, GA, ren, renB, footX, refs, cellsV, cst, cstAt, nilC, idxAddr, E.load, E.store, binO, isC, bin, ibin, sbin, una, isShift, okCell, packV, lenV, blt, fnV, asArg, snapV, snapS, snapP, snapC, flatV, flatT, openK, layBack, allT, allZ, mkS, srcOf0, unN, idxV, nilEq, give, tupV, mkEnv, extV, pickV, LVS, OVS, LTS, TYS, PMS, pmT, Int.reduceToNat, Nat.reduceGT, ↓reduceIte, Nat.reduceAdd, Nat.reduceMul, Nat.reduceSub, Nat.reduceEqDiff, Nat.reduceLeDiff, Nat.reduceLT, Nat.reduceBEq, Int.reduceBEq, Int.reduceBNe, Int.reduceEq, Int.reduceLT, Int.reduceLE, Int.reduceGT, Int.reduceNeg, reduceCtorEq, LTable.encs_len, c, tblsR]
  | x :: rest, pre, hs => by
    have c : decide ((pre.length : Int) < (ts.length : Int)) = true := by simp [hs]; omega
    have hlb := hB.len
    have hi : pre.length < ts.length := by rw [hs]; simp
    have hget := LTable.encs_get ts pre.length hi
    have hgb : ts[pre.length] = x := by simp [hs]
    rw [hgb] at hget
    have hin : x ∈ ts := by rw [hs]; simp
    have hf := c_l07Table x (hB.name x hin) (hB.fields x hin) (hB.key x hin)
    have IH := l_tablesR ts hB rest (pre ++ [x]) (by rw [hs]; simp)
    rw [show ((pre ++ [x]).length : Int) = (pre.length : Int) + 1 by simp, show (pre ++ [x]).length = pre.length + 1 by simp] at IH
    refine loop_eq Tryz.func215 rfl rfl ?_
    simp only [tblsR]
    generalize l07B x = bf at *
    generalize tblsR (pre.length + 1) rest = bn at *
    obtain ⟨name, fields⟩ := x
    simp only [LTable.enc, List.map_cons, List.map_nil] at *
    clear hs hin hgb hB
    cases bf
    all_goals repeat' (first | (((first | with_reducible refine cK_any (fun hA => ?_) (fun hA => ?_) | with_reducible refine gW_any (fun hA => ?_) (fun hA => ?_)) <;> (try simp only [bne, Bool.not_eq_true', Bool.not_eq_false'] at hA) <;> (first | (have hP := Int.le_of_eq (eq_of_beq (α := Int) hA); have hQ := Int.le_of_eq (eq_of_beq (α := Int) hA).symm) | have hP := of_decide_eq_true hA | have hP := of_decide_eq_false hA | skip)) <;> (simp (disch := ((try simp only [List.length_cons, List.length_append, List.length_nil, List.length_map]); omega)) only [↓GO, ↓DRW, GA, ren, renB, footX, refs, cellsV, cst, cstAt, nilC, idxAddr, E.load, E.store, binO, isC, bin, ibin, sbin, una, isShift, okCell, packV, lenV, blt, fnV, asArg, snapV, snapS, snapP, snapC, flatV, flatT, openK, layBack, allT, allZ, mkS, srcOf0, unN, idxV, nilEq, give, tupV, mkEnv, extV, pickV, LVS, OVS, LTS, TYS, PMS, pmT, Int.reduceToNat, Nat.reduceGT, ↓reduceIte, Nat.reduceAdd, Nat.reduceMul, Nat.reduceSub, Nat.reduceEqDiff, Nat.reduceLeDiff, Nat.reduceLT, Nat.reduceBEq, Int.reduceBEq, Int.reduceBNe, Int.reduceEq, Int.reduceLT, Int.reduceLE, Int.reduceGT, Int.reduceNeg, reduceCtorEq, wrap_in, bne, LField.encs_len, LTable.encs_len, *])) | (simp (disch := ((try simp only [List.length_cons, List.length_append, List.length_nil, List.length_map]); omega)) only [↓GO, ↓DRW, GA, ren, renB, footX, refs, cellsV, cst, cstAt, nilC, idxAddr, E.load, E.store, binO, isC, bin, ibin, sbin, una, isShift, okCell, packV, lenV, blt, fnV, asArg, snapV, snapS, snapP, snapC, flatV, flatT, openK, layBack, allT, allZ, mkS, srcOf0, unN, idxV, nilEq, give, tupV, mkEnv, extV, pickV, LVS, OVS, LTS, TYS, PMS, pmT, Int.reduceToNat, Nat.reduceGT, ↓reduceIte, Nat.reduceAdd, Nat.reduceMul, Nat.reduceSub, Nat.reduceEqDiff, Nat.reduceLeDiff, Nat.reduceLT, Nat.reduceBEq, Int.reduceBEq, Int.reduceBNe, Int.reduceEq, Int.reduceLT, Int.reduceLE, Int.reduceGT, Int.reduceNeg, reduceCtorEq, wrap_in, bne, LField.encs_len, LTable.encs_len, *]))
theorem c_tablesR (ts : List LTable) (hB : BndT ts) : callPure (EV Tryz.prog pol) 215 [.t (.list 2 (LTable.encs ts))] = some (.t (.bool (tablesOk ts))) := by
  have IH := l_tablesR ts hB ts [] rfl
  simp only [List.length_nil, Int.natCast_zero, tbls_same] at IH
  apply eq_call
  refine call_eq rfl Tryz.func215 rfl (by kernel_rfl) ?_
  unfold Tryz.f215
  simp only [tablesOk]
  cases hb : tblsOk 0 ts with
  | true => rw [hb] at IH; simp only [cond_true] at IH; simp only [↓GO, ↓DRW, GA, ren, renB, footX, refs, cellsV, cst, cstAt, nilC, idxAddr, E.load, E.store, binO, isC, bin, ibin, sbin, una, isShift, okCell, packV, lenV, blt, fnV, asArg, snapV, snapS, snapP, snapC, flatV, flatT, openK, layBack, allT, allZ, mkS, srcOf0, unN, idxV, nilEq, give, tupV, mkEnv, extV, pickV, LVS, OVS, LTS, TYS, PMS, pmT, Int.reduceToNat, Nat.reduceGT, ↓reduceIte, Nat.reduceAdd, Nat.reduceMul, Nat.reduceSub, Nat.reduceEqDiff, Nat.reduceLeDiff, Nat.reduceLT, Nat.reduceBEq, Int.reduceBEq, Int.reduceBNe, Int.reduceEq, Int.reduceLT, Int.reduceLE, Int.reduceGT, Int.reduceNeg, reduceCtorEq, LTable.encs_len, IH]
  | false => rw [hb] at IH; simp only [cond_false] at IH; simp only [↓GO, ↓DRW, GA, ren, renB, footX, refs, cellsV, cst, cstAt, nilC, idxAddr, E.load, E.store, binO, isC, bin, ibin, sbin, una, isShift, okCell, packV, lenV, blt, fnV, asArg, snapV, snapS, snapP, snapC, flatV, flatT, openK, layBack, allT, allZ, mkS, srcOf0, unN, idxV, nilEq, give, tupV, mkEnv, extV, pickV, LVS, OVS, LTS, TYS, PMS, pmT, Int.reduceToNat, Nat.reduceGT, ↓reduceIte, Nat.reduceAdd, Nat.reduceMul, Nat.reduceSub, Nat.reduceEqDiff, Nat.reduceLeDiff, Nat.reduceLT, Nat.reduceBEq, Int.reduceBEq, Int.reduceBNe, Int.reduceEq, Int.reduceLT, Int.reduceLE, Int.reduceGT, Int.reduceNeg, reduceCtorEq, LTable.encs_len, IH]
end Go.Proofs.YtkpmachalipmpaaGreatDoor
/- The text of a field, of tables, by both. Conditions: those of each lemma. -/
namespace Go.Proofs.YtkpmachalipmpaaGreatDoor
open E
set_option linter.unusedSimpArgs false
set_option linter.unusedVariables false
set_option maxRecDepth 100000
def lineS (s : Str) : Str := 32 :: (quoteS s ++ [44, 10])
def putF (x : LField) : Str :=
  cond x.isList (cond ((x.list.length : Int) == 0) (x.key ++ [32, 61, 32, 91, 93, 10]) (x.key ++ [32, 61, 32, 91, 10] ++ x.list.flatMap lineS ++ [93, 10])) (x.key ++ [32, 61, 32] ++ quoteS x.text ++ [10])
theorem lines_len : ∀ ks : List Str, (ks.flatMap lineS).length ≤ 4 * bulkS ks + 5 * ks.length
  | [] => by simp [bulkS]
  | s :: ks => by
    have h1 := quoteS_len s
    have h2 := lines_len ks
    simp only [List.flatMap_cons, List.length_append, lineS, List.length_cons, List.length_nil, bulkS]
    omega
theorem lines_snoc (pre : List Str) (s : Str) : (pre ++ [s]).flatMap lineS = pre.flatMap lineS ++ lineS s := by simp
theorem bulkS_mem : ∀ {ks : List Str} {s : Str}, s ∈ ks → s.length ≤ bulkS ks
  | k :: ks, s, h => by
    simp only [bulkS]
    rcases List.mem_cons.1 h with rfl | h
    · omega
    · have := bulkS_mem h; omega
theorem bulkS_app : ∀ a b : List Str, bulkS (a ++ b) = bulkS a + bulkS b
  | [], b => by simp [bulkS]
  | s :: a, b => by simp only [List.cons_append, bulkS, bulkS_app a b]; omega
theorem putF_len (x : LField) : (putF x).length ≤ 5 * x.bulk + 16 := by
  have h1 := quoteS_len x.text
  have h2 := lines_len x.list
  unfold putF LField.bulk
  cases x.isList with
  | true =>
    simp only [cond_true]
    cases ((x.list.length : Int) == 0) with
    | true => simp only [cond_true, List.length_append, List.length_cons, List.length_nil]; omega
    | false => simp only [cond_false, List.length_append, List.length_cons, List.length_nil]; omega
  | false => simp only [cond_false, List.length_append, List.length_cons, List.length_nil]; omega
theorem l_putFI (key : Str) (ks : List Str) (hb : key.length + ks.length + bulkS ks ≤ 4194304) : ∀ (rest pre : List Str), ks = pre ++ rest →
    EV Tryz.prog pol (.loop 219 122 0 [.t (.str (key ++ [32, 61, 32, 91, 10] ++ pre.flatMap lineS)), .t (.list 1 (strs ks)), .t (.int .i64 (ks.length : Int)), .t (.int .i64 (pre.length : Int))] [])
    = some (.loop (.exit 1) [.t (.str (key ++ [32, 61, 32, 91, 10] ++ ks.flatMap lineS))] [])
  | [], pre, hs => by
    have c : decide ((pre.length : Int) < (ks.length : Int)) = false := by simp [hs]
    have hp : ks = pre := by simpa using hs
    refine loop_eq Tryz.func219 rfl rfl ?_
    simp only [↓GO, ↓DRW, GA, ren, renB, footX, refs, cellsV, cst, cstAt, nilC, idxAddr, E.load, E.store, binO, isC, bin, ibin, sbin, una, isShift, okCell, packV, lenV, blt, fnV, asArg, snapV, snapS, snapP, snapC, flatV, flatT, openK, layBack, allT, allZ, mkS, srcOf0, unN, idxV, nilEq, give, tupV, mkEnv, extV, pickV, LVS, OVS, LTS, TYS, PMS, pmT, Int.reduceToNat, Nat.reduceGT, ↓reduceIte, Nat.reduceAdd, Nat.reduceMul, Nat.reduceSub, Nat.reduceEqDiff, Nat.reduceLeDiff, Nat.reduceLT, Nat.reduceBEq, Int.reduceBEq, Int.reduceBNe, Int.reduceEq, Int.reduceLT, Int.reduceLE, Int.reduceGT, Int.reduceNeg, reduceCtorEq, c]
    rw [hp]
  | s :: rest, pre, hs => by
    have c : decide ((pre.length : Int) < (ks.length : Int)) = true := by simp [hs]; omega
    have hi : pre.length < ks.length := by rw [hs]; simp
    have hget := strs_get ks pre.length hi
    have hgb : ks[pre.length] = s := by simp [hs]
    rw [hgb] at hget
    have hsl : s.length ≤ bulkS ks := bulkS_mem (by rw [hs]; simp)
    have hq := c_quoteI s (by omega)
    have hql := quoteS_len s
    have hpl := lines_len pre
    have hpb : bulkS pre ≤ bulkS ks ∧ pre.length ≤ ks.length := by rw [hs, bulkS_app]; simp
    have IH := l_putFI key ks hb rest (pre ++ [s]) (by rw [hs]; simp)
    rw [show ((pre ++ [s]).length : Int) = (pre.length : Int) + 1 by simp, lines_snoc, lineS] at IH
    simp only [List.append_assoc, List.cons_append, List.nil_append] at IH ⊢
    clear hs hgb
    refine loop_eq Tryz.func219 rfl rfl ?_
    simp (disch := ((try simp only [List.length_cons, List.length_append, List.length_nil, List.length_map]); omega)) only [↓GO, ↓DRW, GA, ren, renB, footX, refs, cellsV, cst, cstAt, nilC, idxAddr, E.load, E.store, binO, isC, bin, ibin, sbin, una, isShift, okCell, packV, lenV, blt, fnV, asArg, snapV, snapS, snapP, snapC, flatV, flatT, openK, layBack, allT, allZ, mkS, srcOf0, unN, idxV, nilEq, give, tupV, mkEnv, extV, pickV, LVS, OVS, LTS, TYS, PMS, pmT, Int.reduceToNat, Nat.reduceGT, ↓reduceIte, Nat.reduceAdd, Nat.reduceMul, Nat.reduceSub, Nat.reduceEqDiff, Nat.reduceLeDiff, Nat.reduceLT, Nat.reduceBEq, Int.reduceBEq, Int.reduceBNe, Int.reduceEq, Int.reduceLT, Int.reduceLE, Int.reduceGT, Int.reduceNeg, reduceCtorEq, strs_len, c, hget, wrap_in, hq, le_T, List.append_assoc, IH]
theorem c_putFI (x : LField) (hb : x.bulk ≤ 4194304) : callPure (EV Tryz.prog pol) 219 [.agg (x.enc.map .t)] = some (.t (.str (putF x))) := by
  obtain ⟨key, text, list, isList⟩ := x
  simp only [LField.bulk] at hb
  have hq := c_quoteI text (by omega)
  have hql := quoteS_len text
  have hll := lines_len list
  have IH := l_putFI key list (by omega) list [] rfl
  simp only [List.length_nil, Int.natCast_zero, List.flatMap_nil, List.append_nil, List.append_assoc, List.cons_append, List.nil_append] at IH
  simp only [LField.enc, List.map_cons, List.map_nil, putF]
  apply eq_call
  refine call_eq rfl Tryz.func219 rfl (by kernel_rfl) ?_
  unfold Tryz.f219
  cases isList with
  | false =>
    simp (disch := ((try simp only [List.length_cons, List.length_append, List.length_nil, List.length_map]); omega)) only [↓GO, ↓DRW, GA, ren, renB, footX, refs, cellsV, cst, cstAt, nilC, idxAddr, E.load, E.store, binO, isC, bin, ibin, sbin, una, isShift, okCell, packV, lenV, blt, fnV, asArg, snapV, snapS, snapP, snapC, flatV, flatT, openK, layBack, allT, allZ, mkS, srcOf0, unN, idxV, nilEq, give, tupV, mkEnv, extV, pickV, LVS, OVS, LTS, TYS, PMS, pmT, Int.reduceToNat, Nat.reduceGT, ↓reduceIte, Nat.reduceAdd, Nat.reduceMul, Nat.reduceSub, Nat.reduceEqDiff, Nat.reduceLeDiff, Nat.reduceLT, Nat.reduceBEq, Int.reduceBEq, Int.reduceBNe, Int.reduceEq, Int.reduceLT, Int.reduceLE, Int.reduceGT, Int.reduceNeg, reduceCtorEq, hq, le_T, List.append_assoc]
  | true =>
    cases h0 : ((list.length : Int) == 0) with
    | true => simp (disch := ((try simp only [List.length_cons, List.length_append, List.length_nil, List.length_map]); omega)) only [↓GO, ↓DRW, GA, ren, renB, footX, refs, cellsV, cst, cstAt, nilC, idxAddr, E.load, E.store, binO, isC, bin, ibin, sbin, una, isShift, okCell, packV, lenV, blt, fnV, asArg, snapV, snapS, snapP, snapC, flatV, flatT, openK, layBack, allT, allZ, mkS, srcOf0, unN, idxV, nilEq, give, tupV, mkEnv, extV, pickV, LVS, OVS, LTS, TYS, PMS, pmT, Int.reduceToNat, Nat.reduceGT, ↓reduceIte, Nat.reduceAdd, Nat.reduceMul, Nat.reduceSub, Nat.reduceEqDiff, Nat.reduceLeDiff, Nat.reduceLT, Nat.reduceBEq, Int.reduceBEq, Int.reduceBNe, Int.reduceEq, Int.reduceLT, Int.reduceLE, Int.reduceGT, Int.reduceNeg, reduceCtorEq, hq, le_T, List.append_assoc, strs_len, h0]
    | false => simp (disch := ((try simp only [List.length_cons, List.length_append, List.length_nil, List.length_map]); omega)) only [↓GO, ↓DRW, GA, ren, renB, footX, refs, cellsV, cst, cstAt, nilC, idxAddr, E.load, E.store, binO, isC, bin, ibin, sbin, una, isShift, okCell, packV, lenV, blt, fnV, asArg, snapV, snapS, snapP, snapC, flatV, flatT, openK, layBack, allT, allZ, mkS, srcOf0, unN, idxV, nilEq, give, tupV, mkEnv, extV, pickV, LVS, OVS, LTS, TYS, PMS, pmT, Int.reduceToNat, Nat.reduceGT, ↓reduceIte, Nat.reduceAdd, Nat.reduceMul, Nat.reduceSub, Nat.reduceEqDiff, Nat.reduceLeDiff, Nat.reduceLT, Nat.reduceBEq, Int.reduceBEq, Int.reduceBNe, Int.reduceEq, Int.reduceLT, Int.reduceLE, Int.reduceGT, Int.reduceNeg, reduceCtorEq, hq, le_T, List.append_assoc, strs_len, h0, IH]
theorem l_putFR (key text : Str) (ks : List Str) (hb : key.length + ks.length + bulkS ks ≤ 4194304) : ∀ (rest pre : List Str), ks = pre ++ rest →
    EV Tryz.prog pol (.loop 216 506 0 [.ptr 0 0 0, .t (.str (key ++ [32, 61, 32, 91, 10] ++ pre.flatMap lineS)), .t (.int .i64 (pre.length : Int))] [.vs 4 [[.t (.str key), .t (.str text), .t (.list 1 (strs ks)), .t (.bool true)]]])
    = some (.loop (.exit 0) [.t (.str (key ++ [32, 61, 32, 91, 10] ++ ks.flatMap lineS))] [])
  | [], pre, hs => by
    have c : decide ((pre.length : Int) < (ks.length : Int)) = false := by simp [hs]
    have hp : ks = pre := by simpa using hs
    refine loop_eq Tryz.func216 rfl rfl ?_
    simp only [↓GO, ↓DRW, GA, ren, renB, footX, refs, cellsV, cst, cstAt, nilC, idxAddr, E.load, E.store, binO, isC, bin, ibin, sbin, una, isShift, okCell, packV, lenV, blt, fnV, asArg, snapV, snapS, snapP, snapC, flatV, flatT, openK, layBack, allT, allZ, mkS, srcOf0, unN, idxV, nilEq, give, tupV, mkEnv, extV, pickV, LVS, OVS, LTS, TYS, PMS, pmT, Int.reduceToNat, Nat.reduceGT, ↓reduceIte, Nat.reduceAdd, Nat.reduceMul, Nat.reduceSub, Nat.reduceEqDiff, Nat.reduceLeDiff, Nat.reduceLT, Nat.reduceBEq, Int.reduceBEq, Int.reduceBNe, Int.reduceEq, Int.reduceLT, Int.reduceLE, Int.reduceGT, Int.reduceNeg, reduceCtorEq, strs_len, c]
    rw [hp]
  | s :: rest, pre, hs => by
    have c : decide ((pre.length : Int) < (ks.length : Int)) = true := by simp [hs]; omega
    have hi : pre.length < ks.length := by rw [hs]; simp
    have hget := strs_get ks pre.length hi
    have hgb : ks[pre.length] = s := by simp [hs]
    rw [hgb] at hget
    have hsl : s.length ≤ bulkS ks := bulkS_mem (by rw [hs]; simp)
    have hq := c_quoteR s (by omega)
    have hql := quoteS_len s
    have hpl := lines_len pre
    have hpb : bulkS pre ≤ bulkS ks ∧ pre.length ≤ ks.length := by rw [hs, bulkS_app]; simp
    have IH := l_putFR key text ks hb rest (pre ++ [s]) (by rw [hs]; simp)
    rw [show ((pre ++ [s]).length : Int) = (pre.length : Int) + 1 by simp, lines_snoc, lineS] at IH
    simp only [List.append_assoc, List.cons_append, List.nil_append] at IH ⊢
    clear hs hgb
    refine loop_eq Tryz.func216 rfl rfl ?_
    simp (disch := ((try simp only [List.length_cons, List.length_append, List.length_nil, List.length_map]); omega)) only [↓GO, ↓DRW, GA, ren, renB, footX, refs, cellsV, cst, cstAt, nilC, idxAddr, E.load, E.store, binO, isC, bin, ibin, sbin, una, isShift, okCell, packV, lenV, blt, fnV, asArg, snapV, snapS, snapP, snapC, flatV, flatT, openK, layBack, allT, allZ, mkS, srcOf0, unN, idxV, nilEq, give, tupV, mkEnv, extV, pickV, LVS, OVS, LTS, TYS, PMS, pmT, Int.reduceToNat, Nat.reduceGT, ↓reduceIte, Nat.reduceAdd, Nat.reduceMul, Nat.reduceSub, Nat.reduceEqDiff, Nat.reduceLeDiff, Nat.reduceLT, Nat.reduceBEq, Int.reduceBEq, Int.reduceBNe, Int.reduceEq, Int.reduceLT, Int.reduceLE, Int.reduceGT, Int.reduceNeg, reduceCtorEq, strs_len, c, hget, wrap_in, hq, le_T, List.append_assoc, IH]
theorem c_putFR (x : LField) (hb : x.bulk ≤ 4194304) : callPure (EV Tryz.prog pol) 216 [.agg (x.enc.map .t)] = some (.t (.str (putF x))) := by
  obtain ⟨key, text, list, isList⟩ := x
  simp only [LField.bulk] at hb
  have hq := c_quoteR text (by omega)
  have hql := quoteS_len text
  have hll := lines_len list
  have IH := l_putFR key text list (by omega) list [] rfl
  simp only [List.length_nil, Int.natCast_zero, List.flatMap_nil, List.append_nil, List.append_assoc, List.cons_append, List.nil_append] at IH
  simp only [LField.enc, List.map_cons, List.map_nil, putF]
  apply eq_call
  refine call_eq rfl Tryz.func216 rfl (by kernel_rfl) ?_
  unfold Tryz.f216
  cases isList with
  | false =>
    simp (disch := ((try simp only [List.length_cons, List.length_append, List.length_nil, List.length_map]); omega)) only [↓GO, ↓DRW, GA, ren, renB, footX, refs, cellsV, cst, cstAt, nilC, idxAddr, E.load, E.store, binO, isC, bin, ibin, sbin, una, isShift, okCell, packV, lenV, blt, fnV, asArg, snapV, snapS, snapP, snapC, flatV, flatT, openK, layBack, allT, allZ, mkS, srcOf0, unN, idxV, nilEq, give, tupV, mkEnv, extV, pickV, LVS, OVS, LTS, TYS, PMS, pmT, Int.reduceToNat, Nat.reduceGT, ↓reduceIte, Nat.reduceAdd, Nat.reduceMul, Nat.reduceSub, Nat.reduceEqDiff, Nat.reduceLeDiff, Nat.reduceLT, Nat.reduceBEq, Int.reduceBEq, Int.reduceBNe, Int.reduceEq, Int.reduceLT, Int.reduceLE, Int.reduceGT, Int.reduceNeg, reduceCtorEq, hq, le_T, List.append_assoc]
  | true =>
    cases h0 : ((list.length : Int) == 0) with
    | true => simp (disch := ((try simp only [List.length_cons, List.length_append, List.length_nil, List.length_map]); omega)) only [↓GO, ↓DRW, GA, ren, renB, footX, refs, cellsV, cst, cstAt, nilC, idxAddr, E.load, E.store, binO, isC, bin, ibin, sbin, una, isShift, okCell, packV, lenV, blt, fnV, asArg, snapV, snapS, snapP, snapC, flatV, flatT, openK, layBack, allT, allZ, mkS, srcOf0, unN, idxV, nilEq, give, tupV, mkEnv, extV, pickV, LVS, OVS, LTS, TYS, PMS, pmT, Int.reduceToNat, Nat.reduceGT, ↓reduceIte, Nat.reduceAdd, Nat.reduceMul, Nat.reduceSub, Nat.reduceEqDiff, Nat.reduceLeDiff, Nat.reduceLT, Nat.reduceBEq, Int.reduceBEq, Int.reduceBNe, Int.reduceEq, Int.reduceLT, Int.reduceLE, Int.reduceGT, Int.reduceNeg, reduceCtorEq, hq, le_T, List.append_assoc, strs_len, h0]
    | false => simp (disch := ((try simp only [List.length_cons, List.length_append, List.length_nil, List.length_map]); omega)) only [↓GO, ↓DRW, GA, ren, renB, footX, refs, cellsV, cst, cstAt, nilC, idxAddr, E.load, E.store, binO, isC, bin, ibin, sbin, una, isShift, okCell, packV, lenV, blt, fnV, asArg, snapV, snapS, snapP, snapC, flatV, flatT, openK, layBack, allT, allZ, mkS, srcOf0, unN, idxV, nilEq, give, tupV, mkEnv, extV, pickV, LVS, OVS, LTS, TYS, PMS, pmT, Int.reduceToNat, Nat.reduceGT, ↓reduceIte, Nat.reduceAdd, Nat.reduceMul, Nat.reduceSub, Nat.reduceEqDiff, Nat.reduceLeDiff, Nat.reduceLT, Nat.reduceBEq, Int.reduceBEq, Int.reduceBNe, Int.reduceEq, Int.reduceLT, Int.reduceLE, Int.reduceGT, Int.reduceNeg, reduceCtorEq, hq, le_T, List.append_assoc, strs_len, h0, IH]
end Go.Proofs.YtkpmachalipmpaaGreatDoor
/- The text of tables, by both; the law of PutTables. Conditions: those of each lemma. -/
namespace Go.Proofs.YtkpmachalipmpaaGreatDoor
open E
set_option linter.unusedSimpArgs false
set_option linter.unusedVariables false
set_option maxRecDepth 100000
def headT (t : LTable) : Str := cond (t.name == []) [] (91 :: 91 :: (t.name ++ [93, 93, 10]))
def putT (t : LTable) : Str := headT t ++ t.fields.flatMap putF
def putTs (l : List LTable) : Str := cond (tablesOk l) (Lib.join (l.map putT) [10]) []
theorem puts_len : ∀ l : List LField, (l.flatMap putF).length ≤ 5 * LField.bulks l + 16 * l.length
  | [] => by simp [LField.bulks]
  | x :: l => by
    have h1 := putF_len x
    have h2 := puts_len l
    simp only [List.flatMap_cons, List.length_append, List.length_cons, LField.bulks]
    omega
theorem headT_len (t : LTable) : (headT t).length ≤ t.name.length + 5 := by
  unfold headT
  cases (t.name == []) <;> simp
theorem putT_len (t : LTable) : (putT t).length ≤ 16 * t.bulk + 5 := by
  have h1 := headT_len t
  have h2 := puts_len t.fields
  simp only [putT, List.length_append, LTable.bulk]
  omega
theorem LField.bulks_app : ∀ a b : List LField, LField.bulks (a ++ b) = LField.bulks a + LField.bulks b
  | [], b => by simp [LField.bulks]
  | s :: a, b => by simp only [List.cons_append, LField.bulks, LField.bulks_app a b]; omega
theorem LTable.bulks_app : ∀ a b : List LTable, LTable.bulks (a ++ b) = LTable.bulks a + LTable.bulks b
  | [], b => by simp [LTable.bulks]
  | s :: a, b => by simp only [List.cons_append, LTable.bulks, LTable.bulks_app a b]; omega
theorem tail_len (sep : Str) : ∀ l : List Str, (Lib.joinTail sep l).length = bulkS l + sep.length * l.length
  | [] => by simp [Lib.joinTail, bulkS]
  | x :: l => by
    have := tail_len sep l
    simp only [Lib.joinTail] at this
    simp only [Lib.joinTail, List.map_cons, List.flatten_cons, List.length_append, bulkS, List.length_cons, this, Nat.mul_add]
    omega
theorem join_len (sep : Str) (l : List Str) : (Lib.join l sep).length ≤ bulkS l + sep.length * l.length := by
  cases l with
  | nil => simp [Lib.join_nil]
  | cons x l =>
    rw [Lib.join_cons]
    have := tail_len sep l
    simp only [List.length_append, this, bulkS, List.length_cons, Nat.mul_add]
    omega
theorem bulk_putT : ∀ l : List LTable, bulkS (l.map putT) ≤ 16 * LTable.bulks l + 5 * l.length
  | [] => by simp [bulkS]
  | t :: l => by
    have h1 := putT_len t
    have h2 := bulk_putT l
    simp only [List.map_cons, bulkS, LTable.bulks, List.length_cons]
    omega
theorem jn_len (l : List LTable) : (Lib.join (l.map putT) [10]).length ≤ 16 * LTable.bulks l + 6 * l.length := by
  have h1 := join_len [10] (l.map putT)
  have h2 := bulk_putT l
  simp only [List.length_map, List.length_cons, List.length_nil] at h1
  omega
theorem join_snoc (sep : Str) (x : Str) (l : List Str) (y : Str) : Lib.join (x :: l ++ [y]) sep = Lib.join (x :: l) sep ++ (sep ++ y) := by
  rw [List.cons_append, Lib.join_cons, Lib.join_cons]
  simp [Lib.joinTail]
theorem bnd_of {ts : List LTable} (hb : ts.length + LTable.bulks ts ≤ 4194304) : BndT ts := by
  refine ⟨by omega, fun t ht => ?_, fun t ht => ?_, fun t ht x hx => ?_⟩
  · have := LTable.bulks_mem ht; simp only [LTable.bulk] at this; omega
  · have := LTable.bulks_mem ht; simp only [LTable.bulk] at this; omega
  · have := LTable.bulks_mem ht; have h2 := LField.bulks_mem hx; simp only [LTable.bulk] at this; simp only [LField.bulk] at h2; omega
theorem l_ptI2 (own : Str) (fs : List LField) (ho : own.length ≤ 4194328) (hb : fs.length + LField.bulks fs ≤ 4194304) (m : Nat) (cap : Option Nat) (es : List (List T)) (aL aN aI : T) : ∀ (rest pre : List LField), fs = pre ++ rest →
    EV Tryz.prog pol (.loop 132 250682 0 [.sl 0 0 m cap, .t (.str (own ++ pre.flatMap putF)), .t aL, .t aN, .t aI, .t (.list 4 (LField.encs fs)), .t (.int .i64 (fs.length : Int)), .t (.int .i64 (pre.length : Int))] [.ts 1 es])
    = some (.loop (.exit 2) [.sl 0 0 m cap, .t (.str (own ++ fs.flatMap putF)), .t aL, .t aN, .t aI] [.ts 1 es])
  | [], pre, hs => by
    have c : decide ((pre.length : Int) < (fs.length : Int)) = false := by simp [hs]
    have hp : fs = pre := by simpa using hs
    refine loop_eq Tryz.func132 rfl rfl ?_
    simp only [↓GO, ↓DRW, GA, ren, renB, footX, refs, cellsV, cst, cstAt, nilC, idxAddr, E.load, E.store, binO, isC, bin, ibin, sbin, una, isShift, okCell, packV, lenV, blt, fnV, asArg, snapV, snapS, snapP, snapC, flatV, flatT, openK, layBack, allT, allZ, mkS, srcOf0, unN, idxV, nilEq, give, tupV, mkEnv, extV, pickV, LVS, OVS, LTS, TYS, PMS, pmT, Int.reduceToNat, Nat.reduceGT, ↓reduceIte, Nat.reduceAdd, Nat.reduceMul, Nat.reduceSub, Nat.reduceEqDiff, Nat.reduceLeDiff, Nat.reduceLT, Nat.reduceBEq, Int.reduceBEq, Int.reduceBNe, Int.reduceEq, Int.reduceLT, Int.reduceLE, Int.reduceGT, Int.reduceNeg, reduceCtorEq, c]
    rw [hp]
  | x :: rest, pre, hs => by
    have c : decide ((pre.length : Int) < (fs.length : Int)) = true := by simp [hs]; omega
    have hi : pre.length < fs.length := by rw [hs]; simp
    have hget := LField.encs_get fs pre.length hi
    have hgb : fs[pre.length] = x := by simp [hs]
    rw [hgb] at hget
    have hxb : x.bulk ≤ LField.bulks fs := LField.bulks_mem (by rw [hs]; simp)
    have hput := c_putFI x (by omega)
    have hpl := putF_len x
    have hpp := puts_len pre
    have hpb : LField.bulks pre ≤ LField.bulks fs ∧ pre.length ≤ fs.length := by rw [hs, LField.bulks_app]; simp
    have IH := l_ptI2 own fs ho hb m cap es aL aN aI rest (pre ++ [x]) (by rw [hs]; simp)
    rw [show ((pre ++ [x]).length : Int) = (pre.length : Int) + 1 by simp, show (pre ++ [x]).flatMap putF = pre.flatMap putF ++ putF x by simp] at IH
    try simp only [List.append_assoc] at IH ⊢
    clear hs hgb
    generalize hpf : putF x = px at *
    obtain ⟨key, text, list, isList⟩ := x
    simp only [LField.enc, List.map_cons, List.map_nil] at hget hput
    refine loop_eq Tryz.func132 rfl rfl ?_
    simp (disch := ((try simp only [List.length_cons, List.length_append, List.length_nil, List.length_map]); omega)) only [↓GO, ↓DRW, GA, ren, renB, footX, refs, cellsV, cst, cstAt, nilC, idxAddr, E.load, E.store, binO, isC, bin, ibin, sbin, una, isShift, okCell, packV, lenV, blt, fnV, asArg, snapV, snapS, snapP, snapC, flatV, flatT, openK, layBack, allT, allZ, mkS, srcOf0, unN, idxV, nilEq, give, tupV, mkEnv, extV, pickV, LVS, OVS, LTS, TYS, PMS, pmT, Int.reduceToNat, Nat.reduceGT, ↓reduceIte, Nat.reduceAdd, Nat.reduceMul, Nat.reduceSub, Nat.reduceEqDiff, Nat.reduceLeDiff, Nat.reduceLT, Nat.reduceBEq, Int.reduceBEq, Int.reduceBNe, Int.reduceEq, Int.reduceLT, Int.reduceLE, Int.reduceGT, Int.reduceNeg, reduceCtorEq, LField.encs_len, c, hget, wrap_in, hput, le_T, List.append_assoc, IH]
theorem l_ptI (ts : List LTable) (hb : ts.length + LTable.bulks ts ≤ 4194304) : ∀ (rest pre : List LTable) (cap : Option Nat), ts = pre ++ rest →
    ∃ cap', EV Tryz.prog pol (.loop 132 122 0 [.sl 0 0 pre.length cap, .t (.list 2 (LTable.encs ts)), .t (.int .i64 (ts.length : Int)), .t (.int .i64 (pre.length : Int))] [.ts 1 (strs (pre.map putT))])
    = some (.loop (.exit 0) [.sl 0 0 ts.length cap'] [.ts 1 (strs (ts.map putT))])
  | [], pre, cap, hs => by
    have c : decide ((pre.length : Int) < (ts.length : Int)) = false := by simp [hs]
    have hp : ts = pre := by simpa using hs
    refine ⟨cap, loop_eq Tryz.func132 rfl rfl ?_⟩
    simp only [↓GO, ↓DRW, GA, ren, renB, footX, refs, cellsV, cst, cstAt, nilC, idxAddr, E.load, E.store, binO, isC, bin, ibin, sbin, una, isShift, okCell, packV, lenV, blt, fnV, asArg, snapV, snapS, snapP, snapC, flatV, flatT, openK, layBack, allT, allZ, mkS, srcOf0, unN, idxV, nilEq, give, tupV, mkEnv, extV, pickV, LVS, OVS, LTS, TYS, PMS, pmT, Int.reduceToNat, Nat.reduceGT, ↓reduceIte, Nat.reduceAdd, Nat.reduceMul, Nat.reduceSub, Nat.reduceEqDiff, Nat.reduceLeDiff, Nat.reduceLT, Nat.reduceBEq, Int.reduceBEq, Int.reduceBNe, Int.reduceEq, Int.reduceLT, Int.reduceLE, Int.reduceGT, Int.reduceNeg, reduceCtorEq, c]
    rw [hp]
  | x :: rest, pre, cap, hs => by
    have c : decide ((pre.length : Int) < (ts.length : Int)) = true := by simp [hs]; omega
    have hi : pre.length < ts.length := by rw [hs]; simp
    have hget := LTable.encs_get ts pre.length hi
    have hgb : ts[pre.length] = x := by simp [hs]
    rw [hgb] at hget
    have hxb : x.bulk ≤ LTable.bulks ts := LTable.bulks_mem (by rw [hs]; simp)
    have hxb' := hxb
    simp only [LTable.bulk] at hxb'
    have hhl := headT_len x
    have hf := l_ptI2 (headT x) x.fields (by omega) (by omega) pre.length cap (strs (pre.map putT)) (.list 2 (LTable.encs ts)) (.int .i64 (ts.length : Int)) (.int .i64 (pre.length : Int)) x.fields [] rfl
    simp only [List.length_nil, Int.natCast_zero, List.flatMap_nil, List.append_nil] at hf
    obtain ⟨cap', IH⟩ := l_ptI ts hb rest (pre ++ [x]) none (by rw [hs]; simp)
    have hsn : strs ((pre ++ [x]).map putT) = strs (pre.map putT) ++ [[.str (putT x)]] := by simp [strs]
    rw [show ((pre ++ [x]).length : Int) = (pre.length : Int) + 1 by simp, show (pre ++ [x]).length = pre.length + 1 by simp, hsn, putT] at IH
    have q2 : (pre.length + 1) * 32 ≤ 140737488355328 := by omega
    clear hs hgb
    refine ⟨cap', loop_eq Tryz.func132 rfl rfl ?_⟩
    unfold headT at hf IH
    obtain ⟨name, fields⟩ := x
    simp only [LTable.enc, List.map_cons, List.map_nil] at hget hf IH hxb'
    cases hn : (name == []) with
    | true =>
      simp only [hn, cond_true, List.nil_append] at hf IH
      simp (disch := ((try simp only [List.length_cons, List.length_append, List.length_nil, List.length_map]); omega)) only [↓GO, ↓DRW, GA, ren, renB, footX, refs, cellsV, cst, cstAt, nilC, idxAddr, E.load, E.store, binO, isC, bin, ibin, sbin, una, isShift, okCell, packV, lenV, blt, fnV, asArg, snapV, snapS, snapP, snapC, flatV, flatT, openK, layBack, allT, allZ, mkS, srcOf0, unN, idxV, nilEq, give, tupV, mkEnv, extV, pickV, LVS, OVS, LTS, TYS, PMS, pmT, Int.reduceToNat, Nat.reduceGT, ↓reduceIte, Nat.reduceAdd, Nat.reduceMul, Nat.reduceSub, Nat.reduceEqDiff, Nat.reduceLeDiff, Nat.reduceLT, Nat.reduceBEq, Int.reduceBEq, Int.reduceBNe, Int.reduceEq, Int.reduceLT, Int.reduceLE, Int.reduceGT, Int.reduceNeg, reduceCtorEq, LTable.encs_len, LField.encs_len, c, hget, wrap_in, hn, hf, le_T, strs_len, List.length_map, q2, IH]
    | false =>
      simp only [hn, cond_false, List.cons_append, List.append_assoc, List.nil_append] at hf IH
      simp (disch := ((try simp only [List.length_cons, List.length_append, List.length_nil, List.length_map]); omega)) only [↓GO, ↓DRW, GA, ren, renB, footX, refs, cellsV, cst, cstAt, nilC, idxAddr, E.load, E.store, binO, isC, bin, ibin, sbin, una, isShift, okCell, packV, lenV, blt, fnV, asArg, snapV, snapS, snapP, snapC, flatV, flatT, openK, layBack, allT, allZ, mkS, srcOf0, unN, idxV, nilEq, give, tupV, mkEnv, extV, pickV, LVS, OVS, LTS, TYS, PMS, pmT, Int.reduceToNat, Nat.reduceGT, ↓reduceIte, Nat.reduceAdd, Nat.reduceMul, Nat.reduceSub, Nat.reduceEqDiff, Nat.reduceLeDiff, Nat.reduceLT, Nat.reduceBEq, Int.reduceBEq, Int.reduceBNe, Int.reduceEq, Int.reduceLT, Int.reduceLE, Int.reduceGT, Int.reduceNeg, reduceCtorEq, LTable.encs_len, LField.encs_len, c, hget, wrap_in, hn, hf, le_T, strs_len, List.length_map, q2, IH, List.append_assoc]
theorem c_ptI (ts : List LTable) (hb : ts.length + LTable.bulks ts ≤ 4194304) : callPure (EV Tryz.prog pol) 132 [.t (.list 2 (LTable.encs ts))] = some (.t (.str (putTs ts))) := by
  obtain ⟨cap, IH⟩ := l_ptI ts hb ts [] (some 0) rfl
  simp only [List.length_nil, Int.natCast_zero, List.map_nil, strs] at IH
  have hok := c_tablesI ts (bnd_of hb)
  have hjl := jn_len ts
  have hj := c_join (ts.map putT) [10] (by simp; omega) (by omega)
  have ht : (strs (ts.map putT)).take ts.length = strs (ts.map putT) := List.take_of_length_le (by rw [strs_len]; simp)
  simp only [strs] at ht hj
  apply eq_call
  refine call_eq rfl Tryz.func132 rfl (by kernel_rfl) ?_
  unfold Tryz.f132
  unfold putTs
  cases hk : tablesOk ts with
  | false => rw [hk] at hok; simp (disch := ((try simp only [List.length_cons, List.length_append, List.length_nil, List.length_map]); omega)) only [↓GO, ↓DRW, GA, ren, renB, footX, refs, cellsV, cst, cstAt, nilC, idxAddr, E.load, E.store, binO, isC, bin, ibin, sbin, una, isShift, okCell, packV, lenV, blt, fnV, asArg, snapV, snapS, snapP, snapC, flatV, flatT, openK, layBack, allT, allZ, mkS, srcOf0, unN, idxV, nilEq, give, tupV, mkEnv, extV, pickV, LVS, OVS, LTS, TYS, PMS, pmT, Int.reduceToNat, Nat.reduceGT, ↓reduceIte, Nat.reduceAdd, Nat.reduceMul, Nat.reduceSub, Nat.reduceEqDiff, Nat.reduceLeDiff, Nat.reduceLT, Nat.reduceBEq, Int.reduceBEq, Int.reduceBNe, Int.reduceEq, Int.reduceLT, Int.reduceLE, Int.reduceGT, Int.reduceNeg, reduceCtorEq, hok]
  | true => rw [hk] at hok; simp (disch := ((try simp only [List.length_cons, List.length_append, List.length_nil, List.length_map]); omega)) only [↓GO, ↓DRW, GA, ren, renB, footX, refs, cellsV, cst, cstAt, nilC, idxAddr, E.load, E.store, binO, isC, bin, ibin, sbin, una, isShift, okCell, packV, lenV, blt, fnV, asArg, snapV, snapS, snapP, snapC, flatV, flatT, openK, layBack, allT, allZ, mkS, srcOf0, unN, idxV, nilEq, give, tupV, mkEnv, extV, pickV, LVS, OVS, LTS, TYS, PMS, pmT, Int.reduceToNat, Nat.reduceGT, ↓reduceIte, Nat.reduceAdd, Nat.reduceMul, Nat.reduceSub, Nat.reduceEqDiff, Nat.reduceLeDiff, Nat.reduceLT, Nat.reduceBEq, Int.reduceBEq, Int.reduceBNe, Int.reduceEq, Int.reduceLT, Int.reduceLE, Int.reduceGT, Int.reduceNeg, reduceCtorEq, hok, LTable.encs_len, IH, ht, hj]
theorem l_ptR2 (own : Str) (ts : List LTable) (i : Nat) (t : LTable) (hi : i < ts.length) (hti : ts[i] = t) (hb : t.fields.length + LField.bulks t.fields ≤ 4194304) (hts : ts.length ≤ 4194304) (ho : own.length ≤ 134217728) : ∀ (rest pre : List LField), t.fields = pre ++ rest →
    EV Tryz.prog pol (.loop 127 29854 0 [.t (.list 2 (LTable.encs ts)), .t (.str (own ++ pre.flatMap putF)), .t (.int .i64 (i : Int)), .t (.int .i64 (pre.length : Int))] [])
    = some (.loop (.exit 2) [.t (.list 2 (LTable.encs ts)), .t (.str (own ++ t.fields.flatMap putF)), .t (.int .i64 (i : Int))] [])
  | [], pre, hs => by
    have c : decide ((pre.length : Int) < (t.fields.length : Int)) = false := by simp [hs]
    have hp : t.fields = pre := by simpa using hs
    have hget := LTable.encs_get ts i hi
    rw [hti] at hget
    obtain ⟨name, fields⟩ := t
    simp only [LTable.enc] at *
    refine loop_eq Tryz.func127 rfl rfl ?_
    simp only [↓GO, ↓DRW, GA, ren, renB, footX, refs, cellsV, cst, cstAt, nilC, idxAddr, E.load, E.store, binO, isC, bin, ibin, sbin, una, isShift, okCell, packV, lenV, blt, fnV, asArg, snapV, snapS, snapP, snapC, flatV, flatT, openK, layBack, allT, allZ, mkS, srcOf0, unN, idxV, nilEq, give, tupV, mkEnv, extV, pickV, LVS, OVS, LTS, TYS, PMS, pmT, Int.reduceToNat, Nat.reduceGT, ↓reduceIte, Nat.reduceAdd, Nat.reduceMul, Nat.reduceSub, Nat.reduceEqDiff, Nat.reduceLeDiff, Nat.reduceLT, Nat.reduceBEq, Int.reduceBEq, Int.reduceBNe, Int.reduceEq, Int.reduceLT, Int.reduceLE, Int.reduceGT, Int.reduceNeg, reduceCtorEq, hget, LField.encs_len, c]
    rw [hp]
  | x :: rest, pre, hs => by
    have c : decide ((pre.length : Int) < (t.fields.length : Int)) = true := by simp [hs]; omega
    have hgt := LTable.encs_get ts i hi
    rw [hti] at hgt
    have hi' : pre.length < t.fields.length := by rw [hs]; simp
    have hget := LField.encs_get t.fields pre.length hi'
    have hgb : t.fields[pre.length] = x := by simp [hs]
    rw [hgb] at hget
    have hxb : x.bulk ≤ LField.bulks t.fields := LField.bulks_mem (by rw [hs]; simp)
    have hput := c_putFR x (by omega)
    have hpl := putF_len x
    have hpp := puts_len pre
    have hpb : LField.bulks pre ≤ LField.bulks t.fields ∧ pre.length ≤ t.fields.length := by rw [hs, LField.bulks_app]; simp
    have IH := l_ptR2 own ts i t hi hti hb hts ho rest (pre ++ [x]) (by rw [hs]; simp)
    rw [show ((pre ++ [x]).length : Int) = (pre.length : Int) + 1 by simp, show (pre ++ [x]).flatMap putF = pre.flatMap putF ++ putF x by simp] at IH
    try simp only [List.append_assoc] at IH ⊢
    clear hs hgb hti
    generalize hpf : putF x = px at *
    obtain ⟨key, text, list, isList⟩ := x
    obtain ⟨name, fields⟩ := t
    simp only [LField.enc, LTable.enc, List.map_cons, List.map_nil] at *
    refine loop_eq Tryz.func127 rfl rfl ?_
    simp (disch := ((try simp only [List.length_cons, List.length_append, List.length_nil, List.length_map]); omega)) only [↓GO, ↓DRW, GA, ren, renB, footX, refs, cellsV, cst, cstAt, nilC, idxAddr, E.load, E.store, binO, isC, bin, ibin, sbin, una, isShift, okCell, packV, lenV, blt, fnV, asArg, snapV, snapS, snapP, snapC, flatV, flatT, openK, layBack, allT, allZ, mkS, srcOf0, unN, idxV, nilEq, give, tupV, mkEnv, extV, pickV, LVS, OVS, LTS, TYS, PMS, pmT, Int.reduceToNat, Nat.reduceGT, ↓reduceIte, Nat.reduceAdd, Nat.reduceMul, Nat.reduceSub, Nat.reduceEqDiff, Nat.reduceLeDiff, Nat.reduceLT, Nat.reduceBEq, Int.reduceBEq, Int.reduceBNe, Int.reduceEq, Int.reduceLT, Int.reduceLE, Int.reduceGT, Int.reduceNeg, reduceCtorEq, hgt, LField.encs_len, c, hget, wrap_in, hput, le_T, List.append_assoc, IH]
/-- behind some tables -/
def jnl (pre : List LTable) : Str := match pre with
  | [] => []
  | t :: r => Lib.join ((t :: r).map putT) [10] ++ [10]
theorem jnl_snoc (pre : List LTable) (t : LTable) : Lib.join ((pre ++ [t]).map putT) [10] = jnl pre ++ putT t := by
  cases pre with
  | nil => simp [jnl, Lib.join_one]
  | cons x r =>
    have := join_snoc [10] (putT x) (r.map putT) (putT t)
    simp only [List.cons_append, List.map_cons, List.map_append, List.map_nil] at this ⊢
    rw [this]; simp [jnl]
theorem jnl_len (pre : List LTable) : (jnl pre).length ≤ 16 * LTable.bulks pre + 6 * pre.length + 1 := by
  cases pre with
  | nil => simp [jnl]
  | cons x r => have := jn_len (x :: r); simp only [jnl, List.length_append, List.length_cons, List.length_nil] at *; omega
theorem l_ptR (ts : List LTable) (hb : ts.length + LTable.bulks ts ≤ 4194304) (hk : tablesOk ts = true) : ∀ (rest pre : List LTable), ts = pre ++ rest →
    EV Tryz.prog pol (.loop 127 58 0 [.t (.list 2 (LTable.encs ts)), .t (.str (Lib.join (pre.map putT) [10])), .t (.int .i64 (pre.length : Int))] [])
    = some (.loop (.exit 0) [.bad, .t (.str (Lib.join (ts.map putT) [10]))] [])
  | [], pre, hs => by
    have c : decide ((pre.length : Int) < (ts.length : Int)) = false := by simp [hs]
    have hp : ts = pre := by simpa using hs
    refine loop_eq Tryz.func127 rfl rfl ?_
    simp only [↓GO, ↓DRW, GA, ren, renB, footX, refs, cellsV, cst, cstAt, nilC, idxAddr, E.load, E.store, binO, isC, bin, ibin, sbin, una, isShift, okCell, packV, lenV, blt, fnV, asArg, snapV, snapS, snapP, snapC, flatV, flatT, openK, layBack, allT, allZ, mkS, srcOf0, unN, idxV, nilEq, give, tupV, mkEnv, extV, pickV, LVS, OVS, LTS, TYS, PMS, pmT, Int.reduceToNat, Nat.reduceGT, ↓reduceIte, Nat.reduceAdd, Nat.reduceMul, Nat.reduceSub, Nat.reduceEqDiff, Nat.reduceLeDiff, Nat.reduceLT, Nat.reduceBEq, Int.reduceBEq, Int.reduceBNe, Int.reduceEq, Int.reduceLT, Int.reduceLE, Int.reduceGT, Int.reduceNeg, reduceCtorEq, LTable.encs_len, c]
    rw [hp]
  | x :: rest, pre, hs => by
    have c : decide ((pre.length : Int) < (ts.length : Int)) = true := by simp [hs]; omega
    have hi : pre.length < ts.length := by rw [hs]; simp
    have hget := LTable.encs_get ts pre.length hi
    have hgb : ts[pre.length] = x := by simp [hs]
    rw [hgb] at hget
    have hok := c_tablesR ts (bnd_of hb)
    rw [hk] at hok
    have hxb : x.bulk ≤ LTable.bulks ts := LTable.bulks_mem (by rw [hs]; simp)
    have hxb' := hxb
    simp only [LTable.bulk] at hxb'
    have hhl := headT_len x
    have hpb : LTable.bulks pre ≤ LTable.bulks ts ∧ pre.length ≤ ts.length := by rw [hs, LTable.bulks_app]; simp
    have hjl := jnl_len pre
    have hj0 := jn_len pre
    have hf := l_ptR2 (jnl pre ++ headT x) ts pre.length x hi hgb (by omega) (by omega) (by simp only [List.length_append]; omega) x.fields [] rfl
    simp only [List.length_nil, Int.natCast_zero, List.flatMap_nil, List.append_nil] at hf
    have IH := l_ptR ts hb hk rest (pre ++ [x]) (by rw [hs]; simp)
    rw [show ((pre ++ [x]).length : Int) = (pre.length : Int) + 1 by simp, jnl_snoc, putT] at IH
    have hjc : (decide ((pre.length : Int) > 0) = false ∧ jnl pre = [] ∧ Lib.join (pre.map putT) [10] = []) ∨ (decide ((pre.length : Int) > 0) = true ∧ jnl pre = Lib.join (pre.map putT) [10] ++ [10]) := by
      cases pre with
      | nil => exact .inl ⟨by simp, rfl, rfl⟩
      | cons y r => exact .inr ⟨by simp, rfl⟩
    clear hs hgb
    refine loop_eq Tryz.func127 rfl rfl ?_
    unfold headT at hf IH
    obtain ⟨name, fields⟩ := x
    simp only [LTable.enc, List.map_cons, List.map_nil] at hget hf IH hxb'
    rcases hjc with ⟨j1, j2, j3⟩ | ⟨j1, j2⟩
    · rw [j2] at hf IH
      rw [j3]
      cases hn : (name == []) with
      | true =>
        simp only [hn, cond_true, List.nil_append, List.append_nil] at hf IH
        simp (disch := ((try simp only [List.length_cons, List.length_append, List.length_nil, List.length_map]); omega)) only [↓GO, ↓DRW, GA, ren, renB, footX, refs, cellsV, cst, cstAt, nilC, idxAddr, E.load, E.store, binO, isC, bin, ibin, sbin, una, isShift, okCell, packV, lenV, blt, fnV, asArg, snapV, snapS, snapP, snapC, flatV, flatT, openK, layBack, allT, allZ, mkS, srcOf0, unN, idxV, nilEq, give, tupV, mkEnv, extV, pickV, LVS, OVS, LTS, TYS, PMS, pmT, Int.reduceToNat, Nat.reduceGT, ↓reduceIte, Nat.reduceAdd, Nat.reduceMul, Nat.reduceSub, Nat.reduceEqDiff, Nat.reduceLeDiff, Nat.reduceLT, Nat.reduceBEq, Int.reduceBEq, Int.reduceBNe, Int.reduceEq, Int.reduceLT, Int.reduceLE, Int.reduceGT, Int.reduceNeg, reduceCtorEq, LTable.encs_len, LField.encs_len, c, hok, j1, hget, wrap_in, hn, hf, le_T, IH]
      | false =>
        simp only [hn, cond_false, List.cons_append, List.append_assoc, List.nil_append] at hf IH
        simp (disch := ((try simp only [List.length_cons, List.length_append, List.length_nil, List.length_map]); omega)) only [↓GO, ↓DRW, GA, ren, renB, footX, refs, cellsV, cst, cstAt, nilC, idxAddr, E.load, E.store, binO, isC, bin, ibin, sbin, una, isShift, okCell, packV, lenV, blt, fnV, asArg, snapV, snapS, snapP, snapC, flatV, flatT, openK, layBack, allT, allZ, mkS, srcOf0, unN, idxV, nilEq, give, tupV, mkEnv, extV, pickV, LVS, OVS, LTS, TYS, PMS, pmT, Int.reduceToNat, Nat.reduceGT, ↓reduceIte, Nat.reduceAdd, Nat.reduceMul, Nat.reduceSub, Nat.reduceEqDiff, Nat.reduceLeDiff, Nat.reduceLT, Nat.reduceBEq, Int.reduceBEq, Int.reduceBNe, Int.reduceEq, Int.reduceLT, Int.reduceLE, Int.reduceGT, Int.reduceNeg, reduceCtorEq, LTable.encs_len, LField.encs_len, c, hok, j1, hget, wrap_in, hn, hf, le_T, IH, List.append_assoc]
    · rw [j2] at hf IH
      generalize Lib.join (pre.map putT) [10] = jp at *
      cases hn : (name == []) with
      | true =>
        simp only [hn, cond_true, List.nil_append, List.append_nil, List.append_assoc, List.cons_append] at hf IH
        simp (disch := ((try simp only [List.length_cons, List.length_append, List.length_nil, List.length_map]); omega)) only [↓GO, ↓DRW, GA, ren, renB, footX, refs, cellsV, cst, cstAt, nilC, idxAddr, E.load, E.store, binO, isC, bin, ibin, sbin, una, isShift, okCell, packV, lenV, blt, fnV, asArg, snapV, snapS, snapP, snapC, flatV, flatT, openK, layBack, allT, allZ, mkS, srcOf0, unN, idxV, nilEq, give, tupV, mkEnv, extV, pickV, LVS, OVS, LTS, TYS, PMS, pmT, Int.reduceToNat, Nat.reduceGT, ↓reduceIte, Nat.reduceAdd, Nat.reduceMul, Nat.reduceSub, Nat.reduceEqDiff, Nat.reduceLeDiff, Nat.reduceLT, Nat.reduceBEq, Int.reduceBEq, Int.reduceBNe, Int.reduceEq, Int.reduceLT, Int.reduceLE, Int.reduceGT, Int.reduceNeg, reduceCtorEq, LTable.encs_len, LField.encs_len, c, hok, j1, hget, wrap_in, hn, hf, le_T, IH, List.append_assoc]
      | false =>
        simp only [hn, cond_false, List.cons_append, List.append_assoc, List.nil_append] at hf IH
        simp (disch := ((try simp only [List.length_cons, List.length_append, List.length_nil, List.length_map]); omega)) only [↓GO, ↓DRW, GA, ren, renB, footX, refs, cellsV, cst, cstAt, nilC, idxAddr, E.load, E.store, binO, isC, bin, ibin, sbin, una, isShift, okCell, packV, lenV, blt, fnV, asArg, snapV, snapS, snapP, snapC, flatV, flatT, openK, layBack, allT, allZ, mkS, srcOf0, unN, idxV, nilEq, give, tupV, mkEnv, extV, pickV, LVS, OVS, LTS, TYS, PMS, pmT, Int.reduceToNat, Nat.reduceGT, ↓reduceIte, Nat.reduceAdd, Nat.reduceMul, Nat.reduceSub, Nat.reduceEqDiff, Nat.reduceLeDiff, Nat.reduceLT, Nat.reduceBEq, Int.reduceBEq, Int.reduceBNe, Int.reduceEq, Int.reduceLT, Int.reduceLE, Int.reduceGT, Int.reduceNeg, reduceCtorEq, LTable.encs_len, LField.encs_len, c, hok, j1, hget, wrap_in, hn, hf, le_T, IH, List.append_assoc]
theorem c_ptR (ts : List LTable) (hb : ts.length + LTable.bulks ts ≤ 4194304) : callPure (EV Tryz.prog pol) 127 [.t (.list 2 (LTable.encs ts))] = some (.t (.str (putTs ts))) := by
  apply eq_call
  refine call_eq rfl Tryz.func127 rfl (by kernel_rfl) ?_
  unfold Tryz.f127
  unfold putTs
  cases hk : tablesOk ts with
  | true =>
    have IH := l_ptR ts hb hk ts [] rfl
    simp only [List.length_nil, Int.natCast_zero, List.map_nil, Lib.join_nil] at IH
    simp (disch := ((try simp only [List.length_cons, List.length_append, List.length_nil, List.length_map]); omega)) only [↓GO, ↓DRW, GA, ren, renB, footX, refs, cellsV, cst, cstAt, nilC, idxAddr, E.load, E.store, binO, isC, bin, ibin, sbin, una, isShift, okCell, packV, lenV, blt, fnV, asArg, snapV, snapS, snapP, snapC, flatV, flatT, openK, layBack, allT, allZ, mkS, srcOf0, unN, idxV, nilEq, give, tupV, mkEnv, extV, pickV, LVS, OVS, LTS, TYS, PMS, pmT, Int.reduceToNat, Nat.reduceGT, ↓reduceIte, Nat.reduceAdd, Nat.reduceMul, Nat.reduceSub, Nat.reduceEqDiff, Nat.reduceLeDiff, Nat.reduceLT, Nat.reduceBEq, Int.reduceBEq, Int.reduceBNe, Int.reduceEq, Int.reduceLT, Int.reduceLE, Int.reduceGT, Int.reduceNeg, reduceCtorEq, IH]
  | false =>
    have hok := c_tablesR ts (bnd_of hb)
    rw [hk] at hok
    cases ts with
    | nil => exact absurd hk (by decide)
    | cons t r =>
      have c : decide ((0 : Int) < (((t :: r).length : Nat) : Int)) = true := by simp
      have h1 : EV Tryz.prog pol (.loop 127 58 0 [.t (.list 2 (LTable.encs (t :: r))), .t (.str []), .t (.int .i64 0)] []) = some (.loop .ret [.t (.str []), .t (.str [])] []) := by
        generalize t :: r = ts at *
        refine loop_eq Tryz.func127 rfl rfl ?_
        simp (disch := ((try simp only [List.length_cons, List.length_append, List.length_nil, List.length_map]); omega)) only [↓GO, ↓DRW, GA, ren, renB, footX, refs, cellsV, cst, cstAt, nilC, idxAddr, E.load, E.store, binO, isC, bin, ibin, sbin, una, isShift, okCell, packV, lenV, blt, fnV, asArg, snapV, snapS, snapP, snapC, flatV, flatT, openK, layBack, allT, allZ, mkS, srcOf0, unN, idxV, nilEq, give, tupV, mkEnv, extV, pickV, LVS, OVS, LTS, TYS, PMS, pmT, Int.reduceToNat, Nat.reduceGT, ↓reduceIte, Nat.reduceAdd, Nat.reduceMul, Nat.reduceSub, Nat.reduceEqDiff, Nat.reduceLeDiff, Nat.reduceLT, Nat.reduceBEq, Int.reduceBEq, Int.reduceBNe, Int.reduceEq, Int.reduceLT, Int.reduceLE, Int.reduceGT, Int.reduceNeg, reduceCtorEq, LTable.encs_len, c, hok]
      simp (disch := ((try simp only [List.length_cons, List.length_append, List.length_nil, List.length_map]); omega)) only [↓GO, ↓DRW, GA, ren, renB, footX, refs, cellsV, cst, cstAt, nilC, idxAddr, E.load, E.store, binO, isC, bin, ibin, sbin, una, isShift, okCell, packV, lenV, blt, fnV, asArg, snapV, snapS, snapP, snapC, flatV, flatT, openK, layBack, allT, allZ, mkS, srcOf0, unN, idxV, nilEq, give, tupV, mkEnv, extV, pickV, LVS, OVS, LTS, TYS, PMS, pmT, Int.reduceToNat, Nat.reduceGT, ↓reduceIte, Nat.reduceAdd, Nat.reduceMul, Nat.reduceSub, Nat.reduceEqDiff, Nat.reduceLeDiff, Nat.reduceLT, Nat.reduceBEq, Int.reduceBEq, Int.reduceBNe, Int.reduceEq, Int.reduceLT, Int.reduceLE, Int.reduceGT, Int.reduceNeg, reduceCtorEq, h1]
end Go.Proofs.YtkpmachalipmpaaGreatDoor

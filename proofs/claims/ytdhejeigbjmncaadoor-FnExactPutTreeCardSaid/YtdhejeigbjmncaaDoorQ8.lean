/- The text of a tree, by both. Conditions: those of each lemma. -/
import Derived.Test.YtdhejeigbjmncaaDoorQ7
namespace Go.Proofs.YtdhejeigbjmncaaDoor
open E
set_option linter.unusedSimpArgs false
set_option linter.unusedVariables false
set_option maxRecDepth 100000
theorem jn_nil : jn [] = [] := rfl
theorem jn_join (k : Int) (ks : List Str) (cs : List Tr) (d : Nat) (h : ((cs.length : Int) == 0) = false) : jn (partsT k ks 0 cs d) = 10 :: Lib.join (partsT k ks 0 cs d) [44, 10] := by
  cases cs with
  | nil => simp at h
  | cons c cs => rfl
theorem c_putR : ∀ (N : Nat) (t : Tr) (d : Nat), t.nd ≤ N → t.bulk ≤ 1048576 → rightT t (8 - (d : Int)) = true → PutR t d
  | 0, t, d, h, _, _ => by have := t.nd_pos; omega
  | N + 1, .mk k n s ks cs, d, h, hb, hr => by
    have hnl := (Tr.mk k n s ks cs).nd_le
    simp only [Tr.nd] at h hnl
    simp only [Tr.bulk] at hb hnl
    obtain ⟨h1, h2, h3⟩ := right_own hr
    rw [show (8 : Int) - (d : Int) - 1 = 8 - ((d + 1 : Nat) : Int) by omega] at h1
    have hc : ∀ c ∈ cs, PutR c (d + 1) := fun c hc => c_putR N c (d + 1) (by have := Tr.nds_mem hc; omega) (by have := Tr.bulks_mem hc; omega) (rights_mem h1 hc)
    have hk := own_kind h3
    have hd : d ≤ 8 := by omega
    unfold PutR
    simp only [Tr.enc, List.map_cons, List.map_nil]
    apply eq_call
    refine call_eq rfl Tryd.func12 rfl (by kernel_rfl) ?_
    unfold Tryd.f12
    rw [putT]
    have e3 : ((3 : Nat) : Int) = 3 := rfl
    rcases hk with (rfl | rfl | rfl | ⟨rfl, n0, n1⟩ | rfl) | hk
    · simp (disch := ((try simp only [List.length_cons, List.length_append, List.length_nil, List.length_map]); omega)) only [↓GO, ↓DRW, GA, ren, renB, footX, refs, cellsV, cst, cstAt, nilC, idxAddr, E.load, E.store, binO, isC, bin, ibin, sbin, una, isShift, okCell, packV, lenV, blt, fnV, asArg, snapV, snapS, snapP, snapC, flatV, flatT, openK, layBack, allT, allZ, mkS, srcOf0, unN, idxV, nilEq, give, tupV, mkEnv, extV, pickV, LVS, OVS, LTS, TYS, PMS, pmT, Int.reduceToNat, Nat.reduceGT, ↓reduceIte, Nat.reduceAdd, Nat.reduceMul, Nat.reduceSub, Nat.reduceEqDiff, Nat.reduceLeDiff, Nat.reduceLT, Nat.reduceBEq, Int.reduceBEq, Int.reduceBNe, Int.reduceEq, Int.reduceLT, Int.reduceLE, Int.reduceGT, Int.reduceNeg, reduceCtorEq, e3]
    · simp (disch := ((try simp only [List.length_cons, List.length_append, List.length_nil, List.length_map]); omega)) only [↓GO, ↓DRW, GA, ren, renB, footX, refs, cellsV, cst, cstAt, nilC, idxAddr, E.load, E.store, binO, isC, bin, ibin, sbin, una, isShift, okCell, packV, lenV, blt, fnV, asArg, snapV, snapS, snapP, snapC, flatV, flatT, openK, layBack, allT, allZ, mkS, srcOf0, unN, idxV, nilEq, give, tupV, mkEnv, extV, pickV, LVS, OVS, LTS, TYS, PMS, pmT, Int.reduceToNat, Nat.reduceGT, ↓reduceIte, Nat.reduceAdd, Nat.reduceMul, Nat.reduceSub, Nat.reduceEqDiff, Nat.reduceLeDiff, Nat.reduceLT, Nat.reduceBEq, Int.reduceBEq, Int.reduceBNe, Int.reduceEq, Int.reduceLT, Int.reduceLE, Int.reduceGT, Int.reduceNeg, reduceCtorEq, e3]
    · simp (disch := ((try simp only [List.length_cons, List.length_append, List.length_nil, List.length_map]); omega)) only [↓GO, ↓DRW, GA, ren, renB, footX, refs, cellsV, cst, cstAt, nilC, idxAddr, E.load, E.store, binO, isC, bin, ibin, sbin, una, isShift, okCell, packV, lenV, blt, fnV, asArg, snapV, snapS, snapP, snapC, flatV, flatT, openK, layBack, allT, allZ, mkS, srcOf0, unN, idxV, nilEq, give, tupV, mkEnv, extV, pickV, LVS, OVS, LTS, TYS, PMS, pmT, Int.reduceToNat, Nat.reduceGT, ↓reduceIte, Nat.reduceAdd, Nat.reduceMul, Nat.reduceSub, Nat.reduceEqDiff, Nat.reduceLeDiff, Nat.reduceLT, Nat.reduceBEq, Int.reduceBEq, Int.reduceBNe, Int.reduceEq, Int.reduceLT, Int.reduceLE, Int.reduceGT, Int.reduceNeg, reduceCtorEq, e3]
    · have hq := c_decR n n0 n1
      simp (disch := ((try simp only [List.length_cons, List.length_append, List.length_nil, List.length_map]); omega)) only [↓GO, ↓DRW, GA, ren, renB, footX, refs, cellsV, cst, cstAt, nilC, idxAddr, E.load, E.store, binO, isC, bin, ibin, sbin, una, isShift, okCell, packV, lenV, blt, fnV, asArg, snapV, snapS, snapP, snapC, flatV, flatT, openK, layBack, allT, allZ, mkS, srcOf0, unN, idxV, nilEq, give, tupV, mkEnv, extV, pickV, LVS, OVS, LTS, TYS, PMS, pmT, Int.reduceToNat, Nat.reduceGT, ↓reduceIte, Nat.reduceAdd, Nat.reduceMul, Nat.reduceSub, Nat.reduceEqDiff, Nat.reduceLeDiff, Nat.reduceLT, Nat.reduceBEq, Int.reduceBEq, Int.reduceBNe, Int.reduceEq, Int.reduceLT, Int.reduceLE, Int.reduceGT, Int.reduceNeg, reduceCtorEq, hq]
    · have hq := c_quoteR s (by omega)
      simp (disch := ((try simp only [List.length_cons, List.length_append, List.length_nil, List.length_map]); omega)) only [↓GO, ↓DRW, GA, ren, renB, footX, refs, cellsV, cst, cstAt, nilC, idxAddr, E.load, E.store, binO, isC, bin, ibin, sbin, una, isShift, okCell, packV, lenV, blt, fnV, asArg, snapV, snapS, snapP, snapC, flatV, flatT, openK, layBack, allT, allZ, mkS, srcOf0, unN, idxV, nilEq, give, tupV, mkEnv, extV, pickV, LVS, OVS, LTS, TYS, PMS, pmT, Int.reduceToNat, Nat.reduceGT, ↓reduceIte, Nat.reduceAdd, Nat.reduceMul, Nat.reduceSub, Nat.reduceEqDiff, Nat.reduceLeDiff, Nat.reduceLT, Nat.reduceBEq, Int.reduceBEq, Int.reduceBNe, Int.reduceEq, Int.reduceLT, Int.reduceLE, Int.reduceGT, Int.reduceNeg, reduceCtorEq, hq]
    · have hpb := partss_len k ks 0 cs (d + 1) h1 (by omega)
      have hjl := join_lenT [44, 10] (partsT k ks 0 cs (d + 1))
      rw [parts_len] at hjl
      rw [List.drop_zero] at hpb
      simp only [List.length_cons, List.length_nil] at hjl
      have hlp := fun o sh ho => l_putR k n s ks cs d o sh ho hk hd h1 hb hc cs [] rfl
      simp only [partsT, jn_nil, List.append_nil, List.length_nil, Int.natCast_zero] at hlp
      have hline := c_line d (by omega)
      have hsl := sp_len d
      have hk' : k = 5 ∨ k = 6 := by rcases hk with h | h <;> omega
      clear hr h3 hk hc h1
      simp only [Tr.enc, List.map_cons, List.map_nil] at hlp
      cases h0 : ((cs.length : Int) == 0) with
      | true => rcases hk' with rfl | rfl <;> simp (disch := ((try simp only [List.length_cons, List.length_append, List.length_nil, List.length_map]); omega)) only [↓GO, ↓DRW, GA, ren, renB, footX, refs, cellsV, cst, cstAt, nilC, idxAddr, E.load, E.store, binO, isC, bin, ibin, sbin, una, isShift, okCell, packV, lenV, blt, fnV, asArg, snapV, snapS, snapP, snapC, flatV, flatT, openK, layBack, allT, allZ, mkS, srcOf0, unN, idxV, nilEq, give, tupV, mkEnv, extV, pickV, LVS, OVS, LTS, TYS, PMS, pmT, Int.reduceToNat, Nat.reduceGT, ↓reduceIte, Nat.reduceAdd, Nat.reduceMul, Nat.reduceSub, Nat.reduceEqDiff, Nat.reduceLeDiff, Nat.reduceLT, Nat.reduceBEq, Int.reduceBEq, Int.reduceBNe, Int.reduceEq, Int.reduceLT, Int.reduceLE, Int.reduceGT, Int.reduceNeg, reduceCtorEq, Tr.encs_len, h0, le_T]
      | false =>
        rw [jn_join k ks cs (d + 1) h0] at hlp
        generalize Lib.join (partsT k ks 0 cs (d + 1)) [44, 10] = J at *
        rcases hk' with rfl | rfl
        · have hl1 := hlp [91] [93] (by simp)
          simp only [List.cons_append, List.nil_append] at hl1
          simp (disch := ((try simp only [List.length_cons, List.length_append, List.length_nil, List.length_map]); omega)) only [↓GO, ↓DRW, GA, ren, renB, footX, refs, cellsV, cst, cstAt, nilC, idxAddr, E.load, E.store, binO, isC, bin, ibin, sbin, una, isShift, okCell, packV, lenV, blt, fnV, asArg, snapV, snapS, snapP, snapC, flatV, flatT, openK, layBack, allT, allZ, mkS, srcOf0, unN, idxV, nilEq, give, tupV, mkEnv, extV, pickV, LVS, OVS, LTS, TYS, PMS, pmT, Int.reduceToNat, Nat.reduceGT, ↓reduceIte, Nat.reduceAdd, Nat.reduceMul, Nat.reduceSub, Nat.reduceEqDiff, Nat.reduceLeDiff, Nat.reduceLT, Nat.reduceBEq, Int.reduceBEq, Int.reduceBNe, Int.reduceEq, Int.reduceLT, Int.reduceLE, Int.reduceGT, Int.reduceNeg, reduceCtorEq, Tr.encs_len, h0, le_T, hl1, hline, List.append_assoc]
        · have hl1 := hlp [123] [125] (by simp)
          simp only [List.cons_append, List.nil_append] at hl1
          simp (disch := ((try simp only [List.length_cons, List.length_append, List.length_nil, List.length_map]); omega)) only [↓GO, ↓DRW, GA, ren, renB, footX, refs, cellsV, cst, cstAt, nilC, idxAddr, E.load, E.store, binO, isC, bin, ibin, sbin, una, isShift, okCell, packV, lenV, blt, fnV, asArg, snapV, snapS, snapP, snapC, flatV, flatT, openK, layBack, allT, allZ, mkS, srcOf0, unN, idxV, nilEq, give, tupV, mkEnv, extV, pickV, LVS, OVS, LTS, TYS, PMS, pmT, Int.reduceToNat, Nat.reduceGT, ↓reduceIte, Nat.reduceAdd, Nat.reduceMul, Nat.reduceSub, Nat.reduceEqDiff, Nat.reduceLeDiff, Nat.reduceLT, Nat.reduceBEq, Int.reduceBEq, Int.reduceBNe, Int.reduceEq, Int.reduceLT, Int.reduceLE, Int.reduceGT, Int.reduceNeg, reduceCtorEq, Tr.encs_len, h0, le_T, hl1, hline, List.append_assoc]
/-- a tree's text is told -/
def PutI (t : Tr) (d : Nat) : Prop := callPure (EV Tryd.prog pol) 16 [.agg (t.enc.map .t), .t (.str (sp d))] = some (.t (.str (putT t d)))
theorem l_putI (k n : Int) (s : Str) (ks : List Str) (cs : List Tr) (d : Nat) (o sh : T) (hk : k = 5 ∨ k = 6 ∧ ks.length = cs.length) (hd : d ≤ 8) (hR : rightsT cs (8 - ((d + 1 : Nat) : Int)) = true)
    (hb : s.length + ks.length + bulkS ks + cs.length + Tr.bulks cs ≤ 1048576) (hc : ∀ c ∈ cs, PutI c (d + 1)) : ∀ (rest pre : List Tr) (cap : Option Nat), cs = pre ++ rest →
    ∃ cap', EV Tryd.prog pol (.loop 16 1018 0 [.t (.str (sp d)), .ptr 0 0 0, .t o, .t sh, .sl 1 0 pre.length cap, .t (.list 5 (Tr.encs cs)), .t (.int .i64 (cs.length : Int)), .t (.int .i64 (pre.length : Int))] [.vs 5 [(Tr.mk k n s ks cs).enc.map .t], .ts 1 (strs (partsT k ks 0 pre (d + 1)))])
    = some (.loop (.exit 1) [.t (.str (sp d)), .t o, .t sh, .sl 0 0 cs.length cap'] [.ts 1 (strs (partsT k ks 0 cs (d + 1)))])
  | [], pre, cap, hs => by
    have c : decide ((pre.length : Int) < (cs.length : Int)) = false := by simp [hs]
    have hp : cs = pre := by simpa using hs
    refine ⟨cap, loop_eq Tryd.func16 rfl rfl ?_⟩
    simp only [↓GO, ↓DRW, GA, ren, renB, footX, refs, cellsV, cst, cstAt, nilC, idxAddr, E.load, E.store, binO, isC, bin, ibin, sbin, una, isShift, okCell, packV, lenV, blt, fnV, asArg, snapV, snapS, snapP, snapC, flatV, flatT, openK, layBack, allT, allZ, mkS, srcOf0, unN, idxV, nilEq, give, tupV, mkEnv, extV, pickV, LVS, OVS, LTS, TYS, PMS, pmT, Int.reduceToNat, Nat.reduceGT, ↓reduceIte, Nat.reduceAdd, Nat.reduceMul, Nat.reduceSub, Nat.reduceEqDiff, Nat.reduceLeDiff, Nat.reduceLT, Nat.reduceBEq, Int.reduceBEq, Int.reduceBNe, Int.reduceEq, Int.reduceLT, Int.reduceLE, Int.reduceGT, Int.reduceNeg, reduceCtorEq, c]
    rw [hp]
  | x :: rest, pre, cap, hs => by
    have c : decide ((pre.length : Int) < (cs.length : Int)) = true := by simp [hs]; omega
    have hi : pre.length < cs.length := by rw [hs]; simp
    have hget := Tr.encs_get cs pre.length hi
    have hgb : cs[pre.length] = x := by simp [hs]
    rw [hgb] at hget
    have hin : x ∈ cs := by rw [hs]; simp
    have hcall := hc x hin
    have hbx := Tr.bulks_mem hin
    have hrx := put_len x (d + 1) (rights_mem hR hin)
    have hxn := x.nd_le
    have hsl := sp_len d
    have hss := sp_succ d
    obtain ⟨cap', IH⟩ := l_putI k n s ks cs d o sh hk hd hR hb hc rest (pre ++ [x]) none (by rw [hs]; simp)
    have hsn : ∀ y : Str, strs (partsT k ks 0 pre (d + 1) ++ [y]) = strs (partsT k ks 0 pre (d + 1)) ++ [[.str y]] := fun y => by simp [strs]
    rw [show ((pre ++ [x]).length : Int) = (pre.length : Int) + 1 by simp, show (pre ++ [x]).length = pre.length + 1 by simp, snoc_part, hsn, ← hss] at IH
    have hks : k = 6 → pre.length < ks.length := fun h => by rcases hk with h' | h' <;> omega
    have hkget : k = 6 → (strs ks)[pre.length]? = some [.str (ks.getD pre.length [])] := fun h => by rw [strs_get ks _ (hks h)]; simp [hks h]
    have hkb : (ks.getD pre.length []).length ≤ bulkS ks := by
      have := bulkS_drop_getD ks pre.length
      have h2 : bulkS (ks.drop pre.length) ≤ bulkS ks := by
        conv => rhs; rw [← List.take_append_drop pre.length ks]
        rw [bulkS_appT]; omega
      omega
    have hq := c_quoteI (ks.getD pre.length []) (by omega)
    have hql := quoteS_len (ks.getD pre.length [])
    have hpl : (putT x (d + 1)).length ≤ 300000000 := by omega
    unfold PutI at hcall
    rw [← hss] at hcall
    have q2 : (pre.length + 1) * 32 ≤ 140737488355328 := by omega
    have hps : (strs (partsT k ks 0 pre (d + 1))).length = pre.length := by rw [strs_len, parts_len]
    generalize hkx : ks.getD pre.length [] = kx at *
    generalize hpx : putT x (d + 1) = px at *
    generalize hpp : strs (partsT k ks 0 pre (d + 1)) = pp at *
    obtain ⟨k', n', s', ks', cs'⟩ := x
    simp only [Tr.enc, List.map_cons, List.map_nil] at hget hcall IH ⊢
    clear hs hgb hin hc hR hkx hpx hrx hbx hpp
    have e56 : ((5 : Int) == 6) = false := rfl
    have e66 : ((6 : Int) == 6) = true := rfl
    refine ⟨cap', loop_eq Tryd.func16 rfl rfl ?_⟩
    rcases hk with rfl | ⟨rfl, _⟩
    · simp only [e56, cond_false, List.nil_append, List.append_assoc, List.cons_append] at IH
      simp (disch := ((try simp only [List.length_cons, List.length_append, List.length_nil, List.length_map]); omega)) only [↓GO, ↓DRW, GA, ren, renB, footX, refs, cellsV, cst, cstAt, nilC, idxAddr, E.load, E.store, binO, isC, bin, ibin, sbin, una, isShift, okCell, packV, lenV, blt, fnV, asArg, snapV, snapS, snapP, snapC, flatV, flatT, openK, layBack, allT, allZ, mkS, srcOf0, unN, idxV, nilEq, give, tupV, mkEnv, extV, pickV, LVS, OVS, LTS, TYS, PMS, pmT, Int.reduceToNat, Nat.reduceGT, ↓reduceIte, Nat.reduceAdd, Nat.reduceMul, Nat.reduceSub, Nat.reduceEqDiff, Nat.reduceLeDiff, Nat.reduceLT, Nat.reduceBEq, Int.reduceBEq, Int.reduceBNe, Int.reduceEq, Int.reduceLT, Int.reduceLE, Int.reduceGT, Int.reduceNeg, reduceCtorEq, strs_len, Tr.encs_len, c, hget, wrap_in, e56, hcall, le_T, List.append_assoc, hps, q2, IH]
    · have hkg := hkget rfl
      simp only [e66, cond_true, List.append_assoc, List.cons_append, List.nil_append] at IH
      simp (disch := ((try simp only [List.length_cons, List.length_append, List.length_nil, List.length_map]); omega)) only [↓GO, ↓DRW, GA, ren, renB, footX, refs, cellsV, cst, cstAt, nilC, idxAddr, E.load, E.store, binO, isC, bin, ibin, sbin, una, isShift, okCell, packV, lenV, blt, fnV, asArg, snapV, snapS, snapP, snapC, flatV, flatT, openK, layBack, allT, allZ, mkS, srcOf0, unN, idxV, nilEq, give, tupV, mkEnv, extV, pickV, LVS, OVS, LTS, TYS, PMS, pmT, Int.reduceToNat, Nat.reduceGT, ↓reduceIte, Nat.reduceAdd, Nat.reduceMul, Nat.reduceSub, Nat.reduceEqDiff, Nat.reduceLeDiff, Nat.reduceLT, Nat.reduceBEq, Int.reduceBEq, Int.reduceBNe, Int.reduceEq, Int.reduceLT, Int.reduceLE, Int.reduceGT, Int.reduceNeg, reduceCtorEq, strs_len, Tr.encs_len, c, hget, hkg, hq, wrap_in, e66, hcall, le_T, List.append_assoc, hps, q2, IH]
theorem c_putI : ∀ (N : Nat) (t : Tr) (d : Nat), t.nd ≤ N → t.bulk ≤ 1048576 → rightT t (8 - (d : Int)) = true → PutI t d
  | 0, t, d, h, _, _ => by have := t.nd_pos; omega
  | N + 1, .mk k n s ks cs, d, h, hb, hr => by
    have hnl := (Tr.mk k n s ks cs).nd_le
    simp only [Tr.nd] at h hnl
    simp only [Tr.bulk] at hb hnl
    obtain ⟨h1, h2, h3⟩ := right_own hr
    rw [show (8 : Int) - (d : Int) - 1 = 8 - ((d + 1 : Nat) : Int) by omega] at h1
    have hc : ∀ c ∈ cs, PutI c (d + 1) := fun c hc => c_putI N c (d + 1) (by have := Tr.nds_mem hc; omega) (by have := Tr.bulks_mem hc; omega) (rights_mem h1 hc)
    have hk := own_kind h3
    have hd : d ≤ 8 := by omega
    unfold PutI
    simp only [Tr.enc, List.map_cons, List.map_nil]
    apply eq_call
    refine call_eq rfl Tryd.func16 rfl (by kernel_rfl) ?_
    unfold Tryd.f16
    rw [putT]
    rcases hk with (rfl | rfl | rfl | ⟨rfl, n0, n1⟩ | rfl) | hk
    · simp (disch := ((try simp only [List.length_cons, List.length_append, List.length_nil, List.length_map]); omega)) only [↓GO, ↓DRW, GA, ren, renB, footX, refs, cellsV, cst, cstAt, nilC, idxAddr, E.load, E.store, binO, isC, bin, ibin, sbin, una, isShift, okCell, packV, lenV, blt, fnV, asArg, snapV, snapS, snapP, snapC, flatV, flatT, openK, layBack, allT, allZ, mkS, srcOf0, unN, idxV, nilEq, give, tupV, mkEnv, extV, pickV, LVS, OVS, LTS, TYS, PMS, pmT, Int.reduceToNat, Nat.reduceGT, ↓reduceIte, Nat.reduceAdd, Nat.reduceMul, Nat.reduceSub, Nat.reduceEqDiff, Nat.reduceLeDiff, Nat.reduceLT, Nat.reduceBEq, Int.reduceBEq, Int.reduceBNe, Int.reduceEq, Int.reduceLT, Int.reduceLE, Int.reduceGT, Int.reduceNeg, reduceCtorEq]
    · simp (disch := ((try simp only [List.length_cons, List.length_append, List.length_nil, List.length_map]); omega)) only [↓GO, ↓DRW, GA, ren, renB, footX, refs, cellsV, cst, cstAt, nilC, idxAddr, E.load, E.store, binO, isC, bin, ibin, sbin, una, isShift, okCell, packV, lenV, blt, fnV, asArg, snapV, snapS, snapP, snapC, flatV, flatT, openK, layBack, allT, allZ, mkS, srcOf0, unN, idxV, nilEq, give, tupV, mkEnv, extV, pickV, LVS, OVS, LTS, TYS, PMS, pmT, Int.reduceToNat, Nat.reduceGT, ↓reduceIte, Nat.reduceAdd, Nat.reduceMul, Nat.reduceSub, Nat.reduceEqDiff, Nat.reduceLeDiff, Nat.reduceLT, Nat.reduceBEq, Int.reduceBEq, Int.reduceBNe, Int.reduceEq, Int.reduceLT, Int.reduceLE, Int.reduceGT, Int.reduceNeg, reduceCtorEq]
    · simp (disch := ((try simp only [List.length_cons, List.length_append, List.length_nil, List.length_map]); omega)) only [↓GO, ↓DRW, GA, ren, renB, footX, refs, cellsV, cst, cstAt, nilC, idxAddr, E.load, E.store, binO, isC, bin, ibin, sbin, una, isShift, okCell, packV, lenV, blt, fnV, asArg, snapV, snapS, snapP, snapC, flatV, flatT, openK, layBack, allT, allZ, mkS, srcOf0, unN, idxV, nilEq, give, tupV, mkEnv, extV, pickV, LVS, OVS, LTS, TYS, PMS, pmT, Int.reduceToNat, Nat.reduceGT, ↓reduceIte, Nat.reduceAdd, Nat.reduceMul, Nat.reduceSub, Nat.reduceEqDiff, Nat.reduceLeDiff, Nat.reduceLT, Nat.reduceBEq, Int.reduceBEq, Int.reduceBNe, Int.reduceEq, Int.reduceLT, Int.reduceLE, Int.reduceGT, Int.reduceNeg, reduceCtorEq]
    · have hq := c_decI n n0 n1
      simp (disch := ((try simp only [List.length_cons, List.length_append, List.length_nil, List.length_map]); omega)) only [↓GO, ↓DRW, GA, ren, renB, footX, refs, cellsV, cst, cstAt, nilC, idxAddr, E.load, E.store, binO, isC, bin, ibin, sbin, una, isShift, okCell, packV, lenV, blt, fnV, asArg, snapV, snapS, snapP, snapC, flatV, flatT, openK, layBack, allT, allZ, mkS, srcOf0, unN, idxV, nilEq, give, tupV, mkEnv, extV, pickV, LVS, OVS, LTS, TYS, PMS, pmT, Int.reduceToNat, Nat.reduceGT, ↓reduceIte, Nat.reduceAdd, Nat.reduceMul, Nat.reduceSub, Nat.reduceEqDiff, Nat.reduceLeDiff, Nat.reduceLT, Nat.reduceBEq, Int.reduceBEq, Int.reduceBNe, Int.reduceEq, Int.reduceLT, Int.reduceLE, Int.reduceGT, Int.reduceNeg, reduceCtorEq, hq]
    · have hq := c_quoteI s (by omega)
      simp (disch := ((try simp only [List.length_cons, List.length_append, List.length_nil, List.length_map]); omega)) only [↓GO, ↓DRW, GA, ren, renB, footX, refs, cellsV, cst, cstAt, nilC, idxAddr, E.load, E.store, binO, isC, bin, ibin, sbin, una, isShift, okCell, packV, lenV, blt, fnV, asArg, snapV, snapS, snapP, snapC, flatV, flatT, openK, layBack, allT, allZ, mkS, srcOf0, unN, idxV, nilEq, give, tupV, mkEnv, extV, pickV, LVS, OVS, LTS, TYS, PMS, pmT, Int.reduceToNat, Nat.reduceGT, ↓reduceIte, Nat.reduceAdd, Nat.reduceMul, Nat.reduceSub, Nat.reduceEqDiff, Nat.reduceLeDiff, Nat.reduceLT, Nat.reduceBEq, Int.reduceBEq, Int.reduceBNe, Int.reduceEq, Int.reduceLT, Int.reduceLE, Int.reduceGT, Int.reduceNeg, reduceCtorEq, hq]
    · have hpb := partss_len k ks 0 cs (d + 1) h1 (by omega)
      have hjl := join_lenT [44, 10] (partsT k ks 0 cs (d + 1))
      have hpl := parts_len k ks (d + 1) cs 0
      rw [parts_len] at hjl
      rw [List.drop_zero] at hpb
      simp only [List.length_cons, List.length_nil] at hjl
      have hlp := fun o sh => l_putI k n s ks cs d o sh hk hd h1 hb hc cs [] (some 0) rfl
      simp only [partsT, List.length_nil, Int.natCast_zero] at hlp
      rw [show strs [] = [] from rfl] at hlp
      have hsl := sp_len d
      have hk' : k = 5 ∨ k = 6 := by rcases hk with h | h <;> omega
      have hj := c_join (partsT k ks 0 cs (d + 1)) [44, 10] (by omega) (by omega)
      have ht : (strs (partsT k ks 0 cs (d + 1))).take cs.length = strs (partsT k ks 0 cs (d + 1)) := List.take_of_length_le (by rw [strs_len]; omega)
      clear hr h3 hk hc h1
      simp only [Tr.enc, List.map_cons, List.map_nil] at hlp
      generalize Lib.join (partsT k ks 0 cs (d + 1)) [44, 10] = J at *
      generalize strs (partsT k ks 0 cs (d + 1)) = pp at *
      cases h0 : ((cs.length : Int) == 0) with
      | true => rcases hk' with rfl | rfl <;> simp (disch := ((try simp only [List.length_cons, List.length_append, List.length_nil, List.length_map]); omega)) only [↓GO, ↓DRW, GA, ren, renB, footX, refs, cellsV, cst, cstAt, nilC, idxAddr, E.load, E.store, binO, isC, bin, ibin, sbin, una, isShift, okCell, packV, lenV, blt, fnV, asArg, snapV, snapS, snapP, snapC, flatV, flatT, openK, layBack, allT, allZ, mkS, srcOf0, unN, idxV, nilEq, give, tupV, mkEnv, extV, pickV, LVS, OVS, LTS, TYS, PMS, pmT, Int.reduceToNat, Nat.reduceGT, ↓reduceIte, Nat.reduceAdd, Nat.reduceMul, Nat.reduceSub, Nat.reduceEqDiff, Nat.reduceLeDiff, Nat.reduceLT, Nat.reduceBEq, Int.reduceBEq, Int.reduceBNe, Int.reduceEq, Int.reduceLT, Int.reduceLE, Int.reduceGT, Int.reduceNeg, reduceCtorEq, Tr.encs_len, h0, le_T]
      | false =>
        rcases hk' with rfl | rfl
        · obtain ⟨cap', hl1⟩ := hlp (.str [91]) (.str [93])
          simp (disch := ((try simp only [List.length_cons, List.length_append, List.length_nil, List.length_map]); omega)) only [↓GO, ↓DRW, GA, ren, renB, footX, refs, cellsV, cst, cstAt, nilC, idxAddr, E.load, E.store, binO, isC, bin, ibin, sbin, una, isShift, okCell, packV, lenV, blt, fnV, asArg, snapV, snapS, snapP, snapC, flatV, flatT, openK, layBack, allT, allZ, mkS, srcOf0, unN, idxV, nilEq, give, tupV, mkEnv, extV, pickV, LVS, OVS, LTS, TYS, PMS, pmT, Int.reduceToNat, Nat.reduceGT, ↓reduceIte, Nat.reduceAdd, Nat.reduceMul, Nat.reduceSub, Nat.reduceEqDiff, Nat.reduceLeDiff, Nat.reduceLT, Nat.reduceBEq, Int.reduceBEq, Int.reduceBNe, Int.reduceEq, Int.reduceLT, Int.reduceLE, Int.reduceGT, Int.reduceNeg, reduceCtorEq, Tr.encs_len, h0, le_T, hl1, ht, hj, List.append_assoc]
        · obtain ⟨cap', hl1⟩ := hlp (.str [123]) (.str [125])
          simp (disch := ((try simp only [List.length_cons, List.length_append, List.length_nil, List.length_map]); omega)) only [↓GO, ↓DRW, GA, ren, renB, footX, refs, cellsV, cst, cstAt, nilC, idxAddr, E.load, E.store, binO, isC, bin, ibin, sbin, una, isShift, okCell, packV, lenV, blt, fnV, asArg, snapV, snapS, snapP, snapC, flatV, flatT, openK, layBack, allT, allZ, mkS, srcOf0, unN, idxV, nilEq, give, tupV, mkEnv, extV, pickV, LVS, OVS, LTS, TYS, PMS, pmT, Int.reduceToNat, Nat.reduceGT, ↓reduceIte, Nat.reduceAdd, Nat.reduceMul, Nat.reduceSub, Nat.reduceEqDiff, Nat.reduceLeDiff, Nat.reduceLT, Nat.reduceBEq, Int.reduceBEq, Int.reduceBNe, Int.reduceEq, Int.reduceLT, Int.reduceLE, Int.reduceGT, Int.reduceNeg, reduceCtorEq, Tr.encs_len, h0, le_T, hl1, ht, hj, List.append_assoc]
end Go.Proofs.YtdhejeigbjmncaaDoor

/- Joined: K18 K19 S1 W7. Conditions: those of each lemma. -/
import Derived.Test.YtkpmachalipmpaaGreatDoorUJ
import Derived.Test.YtkpmachalipmpaaGreatDoorUI
import Derived.Test.YtkpmachalipmpaaGreatDoorUF
import Derived.Test.YtkpmachalipmpaaGreatDoorRows
import Derived.ProofKit
import Derived.ReadAgain
set_option linter.unusedVariables false
set_option linter.unusedSimpArgs false
namespace Go.Proofs.YtkpmachalipmpaaGreatDoor
open E
set_option linter.unusedSimpArgs false
set_option linter.unusedVariables false
set_option maxRecDepth 100000
def glue (c : Str) : List Str → List Str
  | p :: r => (c ++ p) :: r
  | [] => []
theorem glue_nil : ∀ l : List Str, glue [] l = l
  | [] => rfl
  | p :: r => rfl
theorem cutK_end : ∀ (k : Nat) (s : Str), s.length < 4 → k ≤ s.length → cutK k s = [s.drop k]
  | k, [], _, h => by
    have : k = 0 := by simpa using h
    subst this; rfl
  | 0, x :: r, h, _ => by
    have hp : sep4.isPrefixOf (x :: r) = false := by
      cases h2 : sep4.isPrefixOf (x :: r) with
      | false => rfl
      | true => have := pref4 h2; omega
    have ih := cutK_end 0 r (by simp only [List.length_cons] at h; omega) (by omega)
    rw [cutK_miss x r r [] hp ih]; rfl
  | k + 1, x :: r, h, hk => by
    rw [cutK, cutK_end k r (by simp only [List.length_cons] at h; omega) (by simpa using hk)]; rfl
theorem pref_take4 (s : Str) (h : 4 ≤ s.length) : sep4.isPrefixOf s = (s.take 4 == sep4) := by
  match s, h with
  | a :: b :: c :: d :: r, _ =>
    unfold sep4
    rw [Bool.eq_iff_iff]
    simp [List.isPrefixOf]
    constructor
    · rintro ⟨h1, h2, h3, h4⟩; exact ⟨h1.symm, h2.symm, h3.symm, h4.symm⟩
    · rintro ⟨h1, h2, h3, h4⟩; exact ⟨h1.symm, h2.symm, h3.symm, h4.symm⟩
theorem l_partsR (s : Str) (hl : s.length ≤ 4194304) : ∀ (n f m : Nat) (out : List Str) (cap : Option Nat), s.length - m = n → f ≤ s.length → m ≤ s.length → out.length ≤ m →
    ∃ (out' : List Str) (fr : Nat) (cap' : Option Nat), out'.length ≤ s.length ∧ fr ≤ s.length ∧ out' ++ [s.drop fr] = out ++ glue ((s.drop f).take (m - f)) (cutK (f - m) (s.drop m)) ∧
      EV Tryz.prog pol (.loop 176 122 0 [.t (.str s), .sl 0 0 out.length cap, .t (.int .i64 (f : Int)), .t (.int .i64 (m : Int))] [.ts 1 (strs out)]) = some (.loop (.exit 0) [.t (.str s), .sl 0 0 out'.length cap', .t (.int .i64 (fr : Int))] [.ts 1 (strs out')])
  | n, f, m, out, cap, hn, hf, hm, ho => by
    by_cases hc : m + 4 ≤ s.length
    · have c : decide ((m : Int) + 4 ≤ (s.length : Int)) = true := decide_eq_true (by omega)
      have e4 : ((m : Int) + 4) = ((m + 4 : Nat) : Int) := by omega
      have e1 : ((m : Int) + 1) = ((m + 1 : Nat) : Int) := by omega
      have hdl : (s.drop m).length = s.length - m := List.length_drop
      obtain ⟨x, r, hx⟩ : ∃ x r, s.drop m = x :: r := by
        cases h : s.drop m with
        | nil => rw [h] at hdl; simp at hdl; omega
        | cons x r => exact ⟨x, r, rfl⟩
      have hr : s.drop (m + 1) = r := by rw [← List.drop_drop, hx]; rfl
      by_cases hfm : f ≤ m
      · have g : decide ((m : Int) ≥ (f : Int)) = true := decide_eq_true (by omega)
        have hk : f - m = 0 := by omega
        have ht := pref_take4 (s.drop m) (by omega)
        have hN : ((m : Int) + 4).toNat - m = 4 := by omega
        have hN2 : ((m : Int) + 4).toNat = m + 4 := by omega
        have hol : out.length ≤ 4194304 := by omega
        cases hp : sep4.isPrefixOf (s.drop m) with
        | true =>
          obtain ⟨out', fr, cap', q1, q2, q3, q4⟩ := l_partsR s hl (n - 1) (m + 4) (m + 1) (out ++ [(s.drop f).take (m - f)]) none (by omega) (by omega) (by omega) (by simp; omega)
          refine ⟨out', fr, cap', q1, q2, ?_, ?_⟩
          · rw [q3, hr, show m + 4 - (m + 1) = 3 by omega, show m + 1 - (m + 4) = 0 by omega, hk, hx, cutK_hit x r (by rw [← hx]; exact hp)]
            rw [show glue ((s.drop f).take (m - f)) ([] :: cutK 3 r) = ((s.drop f).take (m - f) ++ []) :: cutK 3 r from rfl, List.take_zero, glue_nil, List.append_nil, List.append_assoc]; rfl
          · rw [hp] at ht
            rw [strs_app, strs_cons, strs_nil, List.length_append, List.length_cons, List.length_nil, Nat.zero_add, ← e4, ← e1] at q4
            have ht' : ((s.drop m).take 4 == [32, 124, 124, 32]) = true := ht.symm
            clear hx hr q3
            refine loop_eq Tryz.func176 rfl rfl ?_
            simp (disch := ((try simp only [List.length_cons, List.length_append, List.length_nil, List.length_map]); omega)) only [↓GO, ↓DRW, GA, ren, renB, footX, refs, cellsV, cst, cstAt, nilC, idxAddr, E.load, E.store, binO, isC, bin, ibin, sbin, una, isShift, okCell, packV, lenV, blt, fnV, asArg, snapV, snapS, snapP, snapC, flatV, flatT, openK, layBack, allT, allZ, mkS, srcOf0, unN, idxV, nilEq, give, tupV, mkEnv, extV, pickV, LVS, OVS, LTS, TYS, PMS, pmT, Int.reduceToNat, Nat.reduceGT, ↓reduceIte, Nat.reduceAdd, Nat.reduceMul, Nat.reduceSub, Nat.reduceEqDiff, Nat.reduceLeDiff, Nat.reduceLT, Nat.reduceBEq, Int.reduceBEq, Int.reduceBNe, Int.reduceEq, Int.reduceLT, Int.reduceLE, Int.reduceGT, Int.reduceNeg, reduceCtorEq, Int.cast_ofNat_Int, getE_zero, getE_one, getE_two, Option.isSome_none, c, g, hN, ht', wrap_in, q4, strs_len, le_T]
        | false =>
          obtain ⟨out', fr, cap', q1, q2, q3, q4⟩ := l_partsR s hl (n - 1) f (m + 1) out cap (by omega) (by omega) (by omega) (by omega)
          refine ⟨out', fr, cap', q1, q2, ?_, ?_⟩
          · rw [q3, hr, hk, show f - (m + 1) = 0 by omega, hx]
            have htk : (s.drop f).take (m + 1 - f) = (s.drop f).take (m - f) ++ [x] := by
              have hdd : (s.drop f).drop (m - f) = x :: r := by rw [List.drop_drop, show f + (m - f) = m by omega]; exact hx
              rw [show m + 1 - f = (m - f) + 1 by omega, List.take_add, hdd]; rfl
            rw [htk]
            cases h0 : cutK 0 r with
            | nil => exact absurd h0 (cutK_ne 0 r)
            | cons p q => rw [cutK_miss x r p q (by rw [← hx]; exact hp) h0]; simp [glue]
          · rw [hp] at ht
            rw [← e1] at q4
            have ht' : ((s.drop m).take 4 == [32, 124, 124, 32]) = false := ht.symm
            clear hx hr q3
            refine loop_eq Tryz.func176 rfl rfl ?_
            simp (disch := ((try simp only [List.length_cons, List.length_append, List.length_nil, List.length_map]); omega)) only [↓GO, ↓DRW, GA, ren, renB, footX, refs, cellsV, cst, cstAt, nilC, idxAddr, E.load, E.store, binO, isC, bin, ibin, sbin, una, isShift, okCell, packV, lenV, blt, fnV, asArg, snapV, snapS, snapP, snapC, flatV, flatT, openK, layBack, allT, allZ, mkS, srcOf0, unN, idxV, nilEq, give, tupV, mkEnv, extV, pickV, LVS, OVS, LTS, TYS, PMS, pmT, Int.reduceToNat, Nat.reduceGT, ↓reduceIte, Nat.reduceAdd, Nat.reduceMul, Nat.reduceSub, Nat.reduceEqDiff, Nat.reduceLeDiff, Nat.reduceLT, Nat.reduceBEq, Int.reduceBEq, Int.reduceBNe, Int.reduceEq, Int.reduceLT, Int.reduceLE, Int.reduceGT, Int.reduceNeg, reduceCtorEq, Int.cast_ofNat_Int, getE_zero, getE_one, getE_two, Option.isSome_none, c, g, hN, ht', wrap_in, q4, strs_len, le_T]
      · have g : decide ((m : Int) ≥ (f : Int)) = false := decide_eq_false (by omega)
        obtain ⟨out', fr, cap', q1, q2, q3, q4⟩ := l_partsR s hl (n - 1) f (m + 1) out cap (by omega) (by omega) (by omega) (by omega)
        refine ⟨out', fr, cap', q1, q2, ?_, ?_⟩
        · rw [q3, hr, show m + 1 - f = 0 by omega, show m - f = 0 by omega, hx, show f - m = (f - (m + 1)) + 1 by omega, cutK]
        · rw [← e1] at q4
          clear hx hr q3
          refine loop_eq Tryz.func176 rfl rfl ?_
          simp (disch := ((try simp only [List.length_cons, List.length_append, List.length_nil, List.length_map]); omega)) only [↓GO, ↓DRW, GA, ren, renB, footX, refs, cellsV, cst, cstAt, nilC, idxAddr, E.load, E.store, binO, isC, bin, ibin, sbin, una, isShift, okCell, packV, lenV, blt, fnV, asArg, snapV, snapS, snapP, snapC, flatV, flatT, openK, layBack, allT, allZ, mkS, srcOf0, unN, idxV, nilEq, give, tupV, mkEnv, extV, pickV, LVS, OVS, LTS, TYS, PMS, pmT, Int.reduceToNat, Nat.reduceGT, ↓reduceIte, Nat.reduceAdd, Nat.reduceMul, Nat.reduceSub, Nat.reduceEqDiff, Nat.reduceLeDiff, Nat.reduceLT, Nat.reduceBEq, Int.reduceBEq, Int.reduceBNe, Int.reduceEq, Int.reduceLT, Int.reduceLE, Int.reduceGT, Int.reduceNeg, reduceCtorEq, Int.cast_ofNat_Int, getE_zero, getE_one, getE_two, Option.isSome_none, c, g, wrap_in, q4, strs_len, le_T]
    · have c : decide ((m : Int) + 4 ≤ (s.length : Int)) = false := decide_eq_false (by omega)
      refine ⟨out, f, cap, by omega, hf, ?_, ?_⟩
      · have hdl : (s.drop m).length = s.length - m := List.length_drop
        rw [cutK_end (f - m) (s.drop m) (by omega) (by omega)]
        simp only [glue, List.drop_drop]
        by_cases hfm : f ≤ m
        · rw [show f - m = 0 by omega, Nat.add_zero]
          congr 2
          have := List.take_append_drop (m - f) (s.drop f)
          rw [List.drop_drop, show f + (m - f) = m by omega] at this
          exact this.symm
        · rw [show m - f = 0 by omega, show m + (f - m) = f by omega]; rfl
      · refine loop_eq Tryz.func176 rfl rfl ?_
        simp (disch := ((try simp only [List.length_cons, List.length_append, List.length_nil, List.length_map]); omega)) only [↓GO, ↓DRW, GA, ren, renB, footX, refs, cellsV, cst, cstAt, nilC, idxAddr, E.load, E.store, binO, isC, bin, ibin, sbin, una, isShift, okCell, packV, lenV, blt, fnV, asArg, snapV, snapS, snapP, snapC, flatV, flatT, openK, layBack, allT, allZ, mkS, srcOf0, unN, idxV, nilEq, give, tupV, mkEnv, extV, pickV, LVS, OVS, LTS, TYS, PMS, pmT, Int.reduceToNat, Nat.reduceGT, ↓reduceIte, Nat.reduceAdd, Nat.reduceMul, Nat.reduceSub, Nat.reduceEqDiff, Nat.reduceLeDiff, Nat.reduceLT, Nat.reduceBEq, Int.reduceBEq, Int.reduceBNe, Int.reduceEq, Int.reduceLT, Int.reduceLE, Int.reduceGT, Int.reduceNeg, reduceCtorEq, Int.cast_ofNat_Int, getE_zero, getE_one, getE_two, Option.isSome_none, c, wrap_in]
termination_by n f m => s.length - m
decreasing_by all_goals omega
theorem c_partsR (s : Str) (hl : s.length ≤ 4194304) : callPure (EV Tryz.prog pol) 176 [.t (.str s)] = some (.t (.list 1 (strs (cutK 0 s)))) := by
  obtain ⟨out, fr, cap, q1, q2, q3, q4⟩ := l_partsR s hl s.length 0 0 [] (some 0) (by omega) (by omega) (by omega) (by simp)
  simp only [List.nil_append, List.length_nil, Int.natCast_zero, strs_nil, List.drop_zero, Nat.sub_zero, List.take_zero, glue_nil, Nat.sub_self] at q4 q3
  have ho : (strs out ++ [[.str (List.drop fr s)]]) = strs (cutK 0 s) := by rw [← q3, strs_app]; rfl
  have ht : List.take (out.length + 1) (strs (cutK 0 s)) = strs (cutK 0 s) := List.take_of_length_le (by rw [strs_len, ← q3]; simp)
  apply eq_call
  refine call_eq rfl Tryz.func176 rfl (by kernel_rfl) ?_
  unfold Tryz.f176
  simp (disch := ((try simp only [List.length_cons, List.length_append, List.length_nil, List.length_map]); omega)) only [↓GO, ↓DRW, GA, ren, renB, footX, refs, cellsV, cst, cstAt, nilC, idxAddr, E.load, E.store, binO, isC, bin, ibin, sbin, una, isShift, okCell, packV, lenV, blt, fnV, asArg, snapV, snapS, snapP, snapC, flatV, flatT, openK, layBack, allT, allZ, mkS, srcOf0, unN, idxV, nilEq, give, tupV, mkEnv, extV, pickV, LVS, OVS, LTS, TYS, PMS, pmT, Int.reduceToNat, Nat.reduceGT, ↓reduceIte, Nat.reduceAdd, Nat.reduceMul, Nat.reduceSub, Nat.reduceEqDiff, Nat.reduceLeDiff, Nat.reduceLT, Nat.reduceBEq, Int.reduceBEq, Int.reduceBNe, Int.reduceEq, Int.reduceLT, Int.reduceLE, Int.reduceGT, Int.reduceNeg, reduceCtorEq, Int.cast_ofNat_Int, getE_zero, getE_one, getE_two, Option.isSome_none, q4, strs_len, le_T, ho, ht]
end Go.Proofs.YtkpmachalipmpaaGreatDoor
/- Ranges, by the reference: the whole; notices; the law. Conditions: those of each lemma. -/
namespace Go.Proofs.YtkpmachalipmpaaGreatDoor
open E
set_option linter.unusedSimpArgs false
set_option linter.unusedVariables false
set_option maxRecDepth 100000
/-- how the reference's loop ends -/
def rsEnd (ps : List Str) (acc : List Bd) (cap : Option Nat) (x : List Bd) : Option (List Bd) → Resp
  | some bs => .loop (.exit 0) [.bad, .bad, .sl 0 0 (acc.length + bs.length) cap] [.ts 2 (bdT (acc ++ bs))]
  | none => .loop .ret [.sl 0 0 0 (some 0), .t (.bool false), .sl 1 0 x.length cap] [.ts 2 [], .ts 2 (bdT x)]
theorem l_rrR (ps : List Str) (hl : ps.length ≤ 1048577) (hb : ∀ p ∈ ps, p.length ≤ 1048576) : ∀ (rest pre : List Str) (acc : List Bd) (cap : Option Nat) (m : Nat), ps = pre ++ rest → m = acc.length → acc.length = pre.length →
    ∃ cap' x, EV Tryz.prog pol (.loop 85 250 0 [.sl 0 0 m cap, .t (.list 1 (strs ps)), .t (.int .i64 (pre.length : Int))] [.ts 2 (bdT acc)]) = some (rsEnd ps acc cap' x (allP rest))
  | [], pre, acc, cap, m, hs, hm, ha => by
    have c : decide ((pre.length : Int) < (ps.length : Int)) = false := by simp [hs]
    refine ⟨cap, [], ?_⟩
    simp only [allP, rsEnd, List.append_nil, List.length_nil, Nat.add_zero]
    subst hm
    refine loop_eq Tryz.func85 rfl rfl ?_
    simp (disch := ((try simp only [List.length_cons, List.length_append, List.length_nil, List.length_map]); omega)) only [↓GO, ↓DRW, GA, ren, renB, footX, refs, cellsV, cst, cstAt, nilC, idxAddr, E.load, E.store, binO, isC, bin, ibin, sbin, una, isShift, okCell, packV, lenV, blt, fnV, asArg, snapV, snapS, snapP, snapC, flatV, flatT, openK, layBack, allT, allZ, mkS, srcOf0, unN, idxV, nilEq, give, tupV, mkEnv, extV, pickV, LVS, OVS, LTS, TYS, PMS, pmT, Int.reduceToNat, Nat.reduceGT, ↓reduceIte, Nat.reduceAdd, Nat.reduceMul, Nat.reduceSub, Nat.reduceEqDiff, Nat.reduceLeDiff, Nat.reduceLT, Nat.reduceBEq, Int.reduceBEq, Int.reduceBNe, Int.reduceEq, Int.reduceLT, Int.reduceLE, Int.reduceGT, Int.reduceNeg, reduceCtorEq, Int.cast_ofNat_Int, getE_zero, getE_one, getE_two, Option.isSome_none, c, strs_len, rch3]
  | p :: rest, pre, acc, cap, m, hs, hm, ha => by
    have c : decide ((pre.length : Int) < (ps.length : Int)) = true := by simp [hs]; omega
    have hget : (strs ps)[pre.length]? = some [.str p] := by rw [hs]; exact map_zip (fun s : Str => [T.str s]) pre p rest
    have hlen : pre.length + rest.length + 1 ≤ ps.length := by rw [hs]; simp; omega
    have hpb := hb p (by rw [hs]; simp)
    have hB := c_partR p hpb
    have IHs := fun b => l_rrR ps hl hb rest (pre ++ [p]) (acc ++ [b]) none (m + 1) (by rw [hs]; simp) (by simp [hm]) (by simp [ha])
    rw [show ((pre ++ [p]).length : Int) = (pre.length : Int) + 1 by simp] at IHs
    have hol : (bdT acc).length = m := by rw [bdT_len, hm]
    have hml : m ≤ 1048578 := by omega
    have hpl : pre.length ≤ 1048577 := by omega
    clear hs hb
    simp only [allP]
    cases hp : partR p with
    | none =>
      rw [hp] at hB
      refine ⟨cap, acc, ?_⟩
      simp only [bT] at hB
      unfold rsEnd
      simp only
      subst hm
      refine loop_eq Tryz.func85 rfl rfl ?_
      simp (disch := ((try simp only [List.length_cons, List.length_append, List.length_nil, List.length_map]); omega)) only [↓GO, ↓DRW, GA, ren, renB, footX, refs, cellsV, cst, cstAt, nilC, idxAddr, E.load, E.store, binO, isC, bin, ibin, sbin, una, isShift, okCell, packV, lenV, blt, fnV, asArg, snapV, snapS, snapP, snapC, flatV, flatT, openK, layBack, allT, allZ, mkS, srcOf0, unN, idxV, nilEq, give, tupV, mkEnv, extV, pickV, LVS, OVS, LTS, TYS, PMS, pmT, Int.reduceToNat, Nat.reduceGT, ↓reduceIte, Nat.reduceAdd, Nat.reduceMul, Nat.reduceSub, Nat.reduceEqDiff, Nat.reduceLeDiff, Nat.reduceLT, Nat.reduceBEq, Int.reduceBEq, Int.reduceBNe, Int.reduceEq, Int.reduceLT, Int.reduceLE, Int.reduceGT, Int.reduceNeg, reduceCtorEq, Int.cast_ofNat_Int, getE_zero, getE_one, getE_two, Option.isSome_none, c, hget, hB, wrap_in, hol, strs_len, rch3, le_T]
    | some b =>
      obtain ⟨lo, hi⟩ := b
      rw [hp] at hB
      simp only [bT] at hB
      obtain ⟨cap', x, IH⟩ := IHs (lo, hi)
      refine ⟨cap', x, ?_⟩
      rw [bdT_app, show bdT [(lo, hi)] = [[T.str lo, T.str hi]] from rfl] at IH
      simp only
      rw [show rsEnd ps (acc ++ [(lo, hi)]) cap' x (allP rest) = rsEnd ps acc cap' x (match allP rest with | some bs => some ((lo, hi) :: bs) | none => none) by
        cases allP rest with
        | none => rfl
        | some bs => simp only [rsEnd]; rw [List.append_assoc]; simp only [List.length_append, List.length_cons, List.length_nil, List.cons_append, List.nil_append]; rw [show acc.length + (0 + 1) + bs.length = acc.length + (bs.length + 1) by omega]] at IH
      refine loop_eq Tryz.func85 rfl rfl ?_
      simp (disch := ((try simp only [List.length_cons, List.length_append, List.length_nil, List.length_map]); omega)) only [↓GO, ↓DRW, GA, ren, renB, footX, refs, cellsV, cst, cstAt, nilC, idxAddr, E.load, E.store, binO, isC, bin, ibin, sbin, una, isShift, okCell, packV, lenV, blt, fnV, asArg, snapV, snapS, snapP, snapC, flatV, flatT, openK, layBack, allT, allZ, mkS, srcOf0, unN, idxV, nilEq, give, tupV, mkEnv, extV, pickV, LVS, OVS, LTS, TYS, PMS, pmT, Int.reduceToNat, Nat.reduceGT, ↓reduceIte, Nat.reduceAdd, Nat.reduceMul, Nat.reduceSub, Nat.reduceEqDiff, Nat.reduceLeDiff, Nat.reduceLT, Nat.reduceBEq, Int.reduceBEq, Int.reduceBNe, Int.reduceEq, Int.reduceLT, Int.reduceLE, Int.reduceGT, Int.reduceNeg, reduceCtorEq, Int.cast_ofNat_Int, getE_zero, getE_one, getE_two, Option.isSome_none, c, hget, hB, wrap_in, hol, strs_len, IH, rch3, le_T]
      try (cases allP rest <;> rfl)
theorem c_rrR (s : Str) (hl : s.length ≤ 1048576) : callPure (EV Tryz.prog pol) 85 [.t (.str s)] = some (rrT (rangeP s)) := by
  unfold rangeP
  have h1 := c_partsR s (by omega)
  have hbk := cutK_bulk 0 s
  have hcn : 1 ≤ (cutK 0 s).length := by
    cases hc : cutK 0 s with
    | nil => exact absurd hc (cutK_ne 0 s)
    | cons p q => simp
  have hmem : ∀ p ∈ cutK 0 s, p.length ≤ 1048576 := fun p hp => by have := bulk_mem hp; omega
  generalize cutK 0 s = ps at *
  obtain ⟨cap, x, L⟩ := l_rrR ps (by omega) hmem ps [] [] (some 0) 0 rfl rfl rfl
  rw [show bdT [] = [] from rfl] at L
  simp only [List.length_nil, Int.natCast_zero] at L
  have hpl : ps.length ≤ 1048577 := by omega
  cases h200 : decide ((s.length : Int) > 200) with
  | true =>
    simp only [Bool.true_or, cond_true, rrT]
    apply eq_call
    refine call_eq rfl Tryz.func85 rfl (by kernel_rfl) ?_
    unfold Tryz.f85
    simp (disch := ((try simp only [List.length_cons, List.length_append, List.length_nil, List.length_map]); omega)) only [↓GO, ↓DRW, GA, ren, renB, footX, refs, cellsV, cst, cstAt, nilC, idxAddr, E.load, E.store, binO, isC, bin, ibin, sbin, una, isShift, okCell, packV, lenV, blt, fnV, asArg, snapV, snapS, snapP, snapC, flatV, flatT, openK, layBack, allT, allZ, mkS, srcOf0, unN, idxV, nilEq, give, tupV, mkEnv, extV, pickV, LVS, OVS, LTS, TYS, PMS, pmT, Int.reduceToNat, Nat.reduceGT, ↓reduceIte, Nat.reduceAdd, Nat.reduceMul, Nat.reduceSub, Nat.reduceEqDiff, Nat.reduceLeDiff, Nat.reduceLT, Nat.reduceBEq, Int.reduceBEq, Int.reduceBNe, Int.reduceEq, Int.reduceLT, Int.reduceLE, Int.reduceGT, Int.reduceNeg, reduceCtorEq, Int.cast_ofNat_Int, getE_zero, getE_one, getE_two, Option.isSome_none, h1, h200, strs_len]
  | false =>
    cases h8 : decide ((ps.length : Int) > 8) with
    | true =>
      simp only [Bool.or_true, cond_true, rrT]
      apply eq_call
      refine call_eq rfl Tryz.func85 rfl (by kernel_rfl) ?_
      unfold Tryz.f85
      simp (disch := ((try simp only [List.length_cons, List.length_append, List.length_nil, List.length_map]); omega)) only [↓GO, ↓DRW, GA, ren, renB, footX, refs, cellsV, cst, cstAt, nilC, idxAddr, E.load, E.store, binO, isC, bin, ibin, sbin, una, isShift, okCell, packV, lenV, blt, fnV, asArg, snapV, snapS, snapP, snapC, flatV, flatT, openK, layBack, allT, allZ, mkS, srcOf0, unN, idxV, nilEq, give, tupV, mkEnv, extV, pickV, LVS, OVS, LTS, TYS, PMS, pmT, Int.reduceToNat, Nat.reduceGT, ↓reduceIte, Nat.reduceAdd, Nat.reduceMul, Nat.reduceSub, Nat.reduceEqDiff, Nat.reduceLeDiff, Nat.reduceLT, Nat.reduceBEq, Int.reduceBEq, Int.reduceBNe, Int.reduceEq, Int.reduceLT, Int.reduceLE, Int.reduceGT, Int.reduceNeg, reduceCtorEq, Int.cast_ofNat_Int, getE_zero, getE_one, getE_two, Option.isSome_none, h1, h200, h8, strs_len]
    | false =>
      simp only [Bool.or_false, cond_false]
      cases ha : allP ps with
      | none =>
        rw [ha] at L
        simp only [rsEnd, rrT] at L ⊢
        apply eq_call
        refine call_eq rfl Tryz.func85 rfl (by kernel_rfl) ?_
        unfold Tryz.f85
        simp (disch := ((try simp only [List.length_cons, List.length_append, List.length_nil, List.length_map]); omega)) only [↓GO, ↓DRW, GA, ren, renB, footX, refs, cellsV, cst, cstAt, nilC, idxAddr, E.load, E.store, binO, isC, bin, ibin, sbin, una, isShift, okCell, packV, lenV, blt, fnV, asArg, snapV, snapS, snapP, snapC, flatV, flatT, openK, layBack, allT, allZ, mkS, srcOf0, unN, idxV, nilEq, give, tupV, mkEnv, extV, pickV, LVS, OVS, LTS, TYS, PMS, pmT, Int.reduceToNat, Nat.reduceGT, ↓reduceIte, Nat.reduceAdd, Nat.reduceMul, Nat.reduceSub, Nat.reduceEqDiff, Nat.reduceLeDiff, Nat.reduceLT, Nat.reduceBEq, Int.reduceBEq, Int.reduceBNe, Int.reduceEq, Int.reduceLT, Int.reduceLE, Int.reduceGT, Int.reduceNeg, reduceCtorEq, Int.cast_ofNat_Int, getE_zero, getE_one, getE_two, Option.isSome_none, h1, h200, h8, L, strs_len, rch3]
      | some l =>
        have hll := (allP_ok ps l ha).2
        rw [ha] at L
        simp only [rsEnd, List.nil_append, List.length_nil, Nat.zero_add] at L ⊢
        have ht : (bdT l).take l.length = bdT l := List.take_of_length_le (by rw [bdT_len]; omega)
        simp only [rrT]
        apply eq_call
        refine call_eq rfl Tryz.func85 rfl (by kernel_rfl) ?_
        unfold Tryz.f85
        simp (disch := ((try simp only [List.length_cons, List.length_append, List.length_nil, List.length_map]); omega)) only [↓GO, ↓DRW, GA, ren, renB, footX, refs, cellsV, cst, cstAt, nilC, idxAddr, E.load, E.store, binO, isC, bin, ibin, sbin, una, isShift, okCell, packV, lenV, blt, fnV, asArg, snapV, snapS, snapP, snapC, flatV, flatT, openK, layBack, allT, allZ, mkS, srcOf0, unN, idxV, nilEq, give, tupV, mkEnv, extV, pickV, LVS, OVS, LTS, TYS, PMS, pmT, Int.reduceToNat, Nat.reduceGT, ↓reduceIte, Nat.reduceAdd, Nat.reduceMul, Nat.reduceSub, Nat.reduceEqDiff, Nat.reduceLeDiff, Nat.reduceLT, Nat.reduceBEq, Int.reduceBEq, Int.reduceBNe, Int.reduceEq, Int.reduceLT, Int.reduceLE, Int.reduceGT, Int.reduceNeg, reduceCtorEq, Int.cast_ofNat_Int, getE_zero, getE_one, getE_two, Option.isSome_none, h1, h200, h8, L, strs_len, ht, bdT_len, rch3]
def noticeOk (x : LNotice) : Bool := (rangeP x.range).isSome && (nameOk x.name && (plainOk x.text && !(x.text == [])))
theorem rrT_form (o : Option (List Bd)) : ∃ t, rrT o = .tup [.t t, .t (.bool o.isSome)] := by
  cases o with
  | none => exact ⟨_, rfl⟩
  | some l => exact ⟨_, rfl⟩
theorem c_noR (x : LNotice) (hb : x.bulk ≤ 1048576) : callPure (EV Tryz.prog pol) 16 [.agg (x.enc.map .t)] = some (.t (.bool (noticeOk x))) := by
  obtain ⟨name, range, text⟩ := x
  simp only [LNotice.bulk] at hb
  have h1 := c_rrR range (by omega)
  have h2 := c_nameR name (by omega)
  have h3 := c_plainR text (by omega)
  obtain ⟨t, ht⟩ := rrT_form (rangeP range)
  rw [ht] at h1
  unfold noticeOk
  simp only [LNotice.enc, List.map_cons, List.map_nil]
  generalize (rangeP range).isSome = b1 at *
  generalize nameOk name = b2 at *
  generalize plainOk text = b3 at *
  cases b2 <;> cases b1 <;> cases b3 <;> cases hn : (text == [])
  all_goals
    apply eq_call
    refine call_eq rfl Tryz.func16 rfl (by kernel_rfl) ?_
    unfold Tryz.f16
    simp (disch := ((try simp only [List.length_cons, List.length_append, List.length_nil, List.length_map]); omega)) only [↓GO, ↓DRW, GA, ren, renB, footX, refs, cellsV, cst, cstAt, nilC, idxAddr, E.load, E.store, binO, isC, bin, ibin, sbin, una, isShift, okCell, packV, lenV, blt, fnV, asArg, snapV, snapS, snapP, snapC, flatV, flatT, openK, layBack, allT, allZ, mkS, srcOf0, unN, idxV, nilEq, give, tupV, mkEnv, extV, pickV, LVS, OVS, LTS, TYS, PMS, pmT, Int.reduceToNat, Nat.reduceGT, ↓reduceIte, Nat.reduceAdd, Nat.reduceMul, Nat.reduceSub, Nat.reduceEqDiff, Nat.reduceLeDiff, Nat.reduceLT, Nat.reduceBEq, Int.reduceBEq, Int.reduceBNe, Int.reduceEq, Int.reduceLT, Int.reduceLE, Int.reduceGT, Int.reduceNeg, reduceCtorEq, Int.cast_ofNat_Int, getE_zero, getE_one, getE_two, Option.isSome_none, h1, h2, h3, hn, bne]
theorem c_noI (x : LNotice) (hb : x.bulk ≤ 1048576) : callPure (EV Tryz.prog pol) 18 [.agg (x.enc.map .t)] = some (.t (.bool (noticeOk x))) := by
  obtain ⟨name, range, text⟩ := x
  simp only [LNotice.bulk] at hb
  have h1 := c_rrI range (by omega)
  rw [range_same] at h1
  have h2 := c_nameI name (by omega)
  have h3 := c_plainI text (by omega)
  obtain ⟨t, ht⟩ := rrT_form (rangeP range)
  rw [ht] at h1
  unfold noticeOk
  simp only [LNotice.enc, List.map_cons, List.map_nil]
  generalize (rangeP range).isSome = b1 at *
  generalize nameOk name = b2 at *
  generalize plainOk text = b3 at *
  cases b2 <;> cases b1 <;> cases b3 <;> cases hn : (text == [])
  all_goals
    apply eq_call
    refine call_eq rfl Tryz.func18 rfl (by kernel_rfl) ?_
    unfold Tryz.f18
    simp (disch := ((try simp only [List.length_cons, List.length_append, List.length_nil, List.length_map]); omega)) only [↓GO, ↓DRW, GA, ren, renB, footX, refs, cellsV, cst, cstAt, nilC, idxAddr, E.load, E.store, binO, isC, bin, ibin, sbin, una, isShift, okCell, packV, lenV, blt, fnV, asArg, snapV, snapS, snapP, snapC, flatV, flatT, openK, layBack, allT, allZ, mkS, srcOf0, unN, idxV, nilEq, give, tupV, mkEnv, extV, pickV, LVS, OVS, LTS, TYS, PMS, pmT, Int.reduceToNat, Nat.reduceGT, ↓reduceIte, Nat.reduceAdd, Nat.reduceMul, Nat.reduceSub, Nat.reduceEqDiff, Nat.reduceLeDiff, Nat.reduceLT, Nat.reduceBEq, Int.reduceBEq, Int.reduceBNe, Int.reduceEq, Int.reduceLT, Int.reduceLE, Int.reduceGT, Int.reduceNeg, reduceCtorEq, Int.cast_ofNat_Int, getE_zero, getE_one, getE_two, Option.isSome_none, h1, h2, h3, hn, bne]
theorem c_lawNotice (x : LNotice) (ho : x.ok) : EV Tryz.prog pol (.call 4 [.agg (x.enc.map .t)] []) = some (.call (.t (.bool true)) []) := by
  have hsz := c_szNotice x ho 1048576 (by omega) (by omega)
  by_cases hb : x.bulk ≤ 1048576
  · have hto := c_toNotice x hb
    have h1 := c_noI x hb
    have h2 := c_noR x hb
    unfold ToNotice at hto
    rw [left_eq (by omega)] at hsz
    have c2 : decide (1048576 - (x.bulk : Int) < 0) = false := by simp; omega
    generalize x.bulk = gb at *
    generalize noticeOk x = r2 at *
    simp only [LNotice.enc, List.map_cons, List.map_nil] at hsz hto h1 h2 ⊢
    refine call_eq rfl Tryz.func4 rfl (by kernel_rfl) ?_
    unfold Tryz.f4
    simp (disch := ((try simp only [List.length_cons, List.length_append, List.length_nil, List.length_map]); omega)) only [↓GO, ↓DRW, GA, ren, renB, footX, refs, cellsV, cst, cstAt, nilC, idxAddr, E.load, E.store, binO, isC, bin, ibin, sbin, una, isShift, okCell, packV, lenV, blt, fnV, asArg, snapV, snapS, snapP, snapC, flatV, flatT, openK, layBack, allT, allZ, mkS, srcOf0, unN, idxV, nilEq, give, tupV, mkEnv, extV, pickV, LVS, OVS, LTS, TYS, PMS, pmT, Int.reduceToNat, Nat.reduceGT, ↓reduceIte, Nat.reduceAdd, Nat.reduceMul, Nat.reduceSub, Nat.reduceEqDiff, Nat.reduceLeDiff, Nat.reduceLT, Nat.reduceBEq, Int.reduceBEq, Int.reduceBNe, Int.reduceEq, Int.reduceLT, Int.reduceLE, Int.reduceGT, Int.reduceNeg, reduceCtorEq, Int.cast_ofNat_Int, getE_zero, getE_one, getE_two, Option.isSome_none, hsz, c2, hto, h1, h2, bne_self_eq_false]
  · have hle : left 1048576 x.bulk = -1 := if_pos (by omega)
    rw [hle] at hsz
    simp only [LNotice.enc, List.map_cons, List.map_nil] at hsz ⊢
    refine call_eq rfl Tryz.func4 rfl (by kernel_rfl) ?_
    unfold Tryz.f4
    simp (disch := ((try simp only [List.length_cons, List.length_append, List.length_nil, List.length_map]); omega)) only [↓GO, ↓DRW, GA, ren, renB, footX, refs, cellsV, cst, cstAt, nilC, idxAddr, E.load, E.store, binO, isC, bin, ibin, sbin, una, isShift, okCell, packV, lenV, blt, fnV, asArg, snapV, snapS, snapP, snapC, flatV, flatT, openK, layBack, allT, allZ, mkS, srcOf0, unN, idxV, nilEq, give, tupV, mkEnv, extV, pickV, LVS, OVS, LTS, TYS, PMS, pmT, Int.reduceToNat, Nat.reduceGT, ↓reduceIte, Nat.reduceAdd, Nat.reduceMul, Nat.reduceSub, Nat.reduceEqDiff, Nat.reduceLeDiff, Nat.reduceLT, Nat.reduceBEq, Int.reduceBEq, Int.reduceBNe, Int.reduceEq, Int.reduceLT, Int.reduceLE, Int.reduceGT, Int.reduceNeg, reduceCtorEq, Int.cast_ofNat_Int, getE_zero, getE_one, getE_two, Option.isSome_none, hsz]
end Go.Proofs.YtkpmachalipmpaaGreatDoor
/- The seat's own facts: the conditions on the program. Conditions: none. -/
namespace Go.Proofs.YtkpmachalipmpaaGreatDoor
open E
theorem Tryz.own : ownKnob Tryz.prog.godebug = none := by kernel_rfl
theorem Tryz.laidOut : laidOutB Tryz.prog = true := by kernel_rfl
theorem Tryz.kids : Kids Tryz.prog (· < Tryz.prog.types.size) := kids_rows (by kernel_rfl) (by kernel_rfl)
theorem Tryz.full : ∀ t e, t < Tryz.prog.types.size → Tryz.prog.underlying t = some (.slice e) → 0 < Tryz.prog.cellsOf e := slices_full_of Tryz.prog (by kernel_rfl)
end Go.Proofs.YtkpmachalipmpaaGreatDoor
/- What the laws' arguments are: Notice. Conditions: those of each lemma. -/
namespace Go.Proofs.YtkpmachalipmpaaGreatDoor
open E
set_option linter.unusedSimpArgs false
set_option linter.unusedVariables false
set_option maxRecDepth 100000

theorem WT_Notice {cs : List T} (h : WT Tryz.prog 25 cs) : ∃ x : LNotice, cs = x.enc ∧ x.ok := by
  obtain ⟨hl, hs⟩ := h.inv_struct Tryz.underlying25
  have k0 : Tryz.prog.cellsOf 25 = 3 := by kernel_rfl
  have k1 : Tryz.prog.cellsOf 9 = 1 := by kernel_rfl
  rw [k0] at hl
  match cs, hl with
  | [y0, y1, y2], _ =>
    simp [k1] at hs
    obtain ⟨s0, s1, s2⟩ := hs
    obtain ⟨v0, e0, o0⟩ := s0.inv_str Tryz.underlying9
    obtain ⟨v1, e1, o1⟩ := s1.inv_str Tryz.underlying9
    obtain ⟨v2, e2, o2⟩ := s2.inv_str Tryz.underlying9
    simp at e0 e1 e2
    subst e0 e1 e2
    exact ⟨⟨v0, v1, v2⟩, rfl, ⟨o0, o1, o2⟩⟩
/-- a notice handed in -/
theorem wta_notice {xs : List V} (h : WTA Tryz.prog [25] xs) : ∃ x : LNotice, xs = [.agg (x.enc.map .t)] ∧ x.ok := by
  obtain ⟨cs, v, vs, rfl, h1, h2, h3⟩ := h.inv_cons
  have := h3.inv_nil
  subst this
  obtain ⟨x, rfl, ho⟩ := WT_Notice h1
  have e : aggOf Tryz.prog 25 = true := by kernel_rfl
  rw [e] at h2
  have hv : v = .agg (x.enc.map .t) := by
    obtain ⟨a, b, c⟩ := x
    simp [packV, LNotice.enc] at h2
    rw [← h2]; rfl
  subst hv
  exact ⟨x, rfl, ho⟩
theorem notice_ev (xs : List V) (h : WTA Tryz.prog [25] xs) : EV Tryz.prog pol (.call 4 xs []) = some (.call (.t (.bool true)) []) := by
  obtain ⟨x, rfl, ho⟩ := wta_notice h
  exact c_lawNotice x ho
end Go.Proofs.YtkpmachalipmpaaGreatDoor

/- The text of a tree; numbers' texts, lines. Conditions: those of each lemma. -/
import Derived.Test.YtdhejeigbjmncaaDoorQ2
import Derived.Test.YtdhejeigbjmncaaDoorP2
import Derived.Lib.Join
namespace Go.Proofs.YtdhejeigbjmncaaDoor
open E
set_option linter.unusedSimpArgs false
set_option linter.unusedVariables false
set_option maxRecDepth 100000
def sp (d : Nat) : Str := List.replicate (2 * d) 32
theorem sp_len (d : Nat) : (sp d).length = 2 * d := by simp [sp]
theorem sp_succ (d : Nat) : sp d ++ [32, 32] = sp (d + 1) := by
  unfold sp
  rw [show 2 * (d + 1) = 2 * d + 2 by omega, ← List.replicate_append_replicate]
  rfl
theorem nDigits_le : ∀ (k u : Nat), 1 ≤ k → u < 10 ^ k → Lib.nDigits u ≤ k
  | 0, u, h, _ => by omega
  | k + 1, u, _, h => by
    rw [Lib.nDigits]
    split
    · omega
    · have h10 : u / 10 < 10 ^ k := by rw [Nat.pow_succ] at h; omega
      have hk : 1 ≤ k := by
        rcases Nat.eq_zero_or_pos k with rfl | h
        · simp at h10; omega
        · exact h
      have := nDigits_le k (u / 10) hk h10
      omega
theorem itoa_len (n : Int) (h0 : 0 ≤ n) (h1 : n ≤ 999999999) : (Lib.itoa n).length ≤ 9 := by
  obtain ⟨u, rfl⟩ : ∃ u : Nat, n = u := ⟨n.toNat, by omega⟩
  rw [Lib.itoa_nonneg, Lib.decDigits_length]
  exact nDigits_le 9 u (by omega) (by omega)
theorem c_decI (n : Int) (h0 : 0 ≤ n) (h1 : n ≤ 999999999) : callPure (EV Tryd.prog pol) 25 [.t (.int .i64 n)] = some (.t (.str (Lib.itoa n))) := by
  have h := c_itoa n (by omega) (by omega)
  apply eq_call
  refine call_eq rfl Tryd.func25 rfl (by kernel_rfl) ?_
  unfold Tryd.f25
  simp only [↓GO, ↓DRW, GA, ren, renB, footX, refs, cellsV, cst, cstAt, nilC, idxAddr, E.load, E.store, binO, isC, bin, ibin, sbin, una, isShift, okCell, packV, lenV, blt, fnV, asArg, snapV, snapS, snapP, snapC, flatV, flatT, openK, layBack, allT, allZ, mkS, srcOf0, unN, idxV, nilEq, give, tupV, mkEnv, extV, pickV, LVS, OVS, LTS, TYS, PMS, pmT, Int.reduceToNat, Nat.reduceGT, ↓reduceIte, Nat.reduceAdd, Nat.reduceMul, Nat.reduceSub, Nat.reduceEqDiff, Nat.reduceLeDiff, Nat.reduceLT, Nat.reduceBEq, Int.reduceBEq, Int.reduceBNe, Int.reduceEq, Int.reduceLT, Int.reduceLE, Int.reduceGT, Int.reduceNeg, reduceCtorEq, h]
/-- the digits of a number, none for 0 -/
def digs (m : Nat) : Str := if m = 0 then [] else Lib.decDigits m
theorem digs_step (m : Nat) (h : m ≠ 0) : digs m = digs (m / 10) ++ [UInt8.ofNat (48 + m % 10)] := by
  unfold digs
  rw [if_neg h]
  by_cases h10 : m < 10
  · rw [if_pos (by omega), Lib.decDigits_one h10, show m % 10 = m by omega]; rfl
  · rw [if_neg (by omega)]
    conv => lhs; rw [Lib.decDigits]
    rw [dif_neg h10]
theorem digit_at (d : Nat) (h : d < 10) : (List.drop d [48, 49, 50, 51, 52, 53, 54, 55, 56, 57]).take (d + 1 - d) = [UInt8.ofNat (48 + d)] := by
  have : d = 0 ∨ d = 1 ∨ d = 2 ∨ d = 3 ∨ d = 4 ∨ d = 5 ∨ d = 6 ∨ d = 7 ∨ d = 8 ∨ d = 9 := by omega
  rcases this with rfl | rfl | rfl | rfl | rfl | rfl | rfl | rfl | rfl | rfl <;> rfl
theorem l_dec (n : Int) : ∀ (N m : Nat) (out : Str), m ≤ N → m ≤ 999999999 → out.length + m ≤ 1000000000 →
    EV Tryd.prog pol (.loop 21 124 0 [.t (.int .i64 n), .t (.str out), .t (.int .i64 (m : Int))] [])
    = some (.loop (.exit 0) [.t (.int .i64 n), .t (.str (digs m ++ out))] [])
  | N, 0, out, h, h1, h2 => by
    refine loop_eq Tryd.func21 rfl rfl ?_
    simp only [↓GO, ↓DRW, GA, ren, renB, footX, refs, cellsV, cst, cstAt, nilC, idxAddr, E.load, E.store, binO, isC, bin, ibin, sbin, una, isShift, okCell, packV, lenV, blt, fnV, asArg, snapV, snapS, snapP, snapC, flatV, flatT, openK, layBack, allT, allZ, mkS, srcOf0, unN, idxV, nilEq, give, tupV, mkEnv, extV, pickV, LVS, OVS, LTS, TYS, PMS, pmT, Int.reduceToNat, Nat.reduceGT, ↓reduceIte, Nat.reduceAdd, Nat.reduceMul, Nat.reduceSub, Nat.reduceEqDiff, Nat.reduceLeDiff, Nat.reduceLT, Nat.reduceBEq, Int.reduceBEq, Int.reduceBNe, Int.reduceEq, Int.reduceLT, Int.reduceLE, Int.reduceGT, Int.reduceNeg, reduceCtorEq, Int.natCast_zero, bne_self_eq_false, digs, if_true]
  | 0, m + 1, out, h, h1, h2 => by omega
  | N + 1, m + 1, out, h, h1, h2 => by
    generalize hm : m + 1 = x at *
    have c : (((x : Nat) : Int) == 0) = false := by simp; omega
    have e1 : ((x : Nat) : Int).tmod 10 = ((x % 10 : Nat) : Int) := (Int.ofNat_tmod x 10).symm
    have e2 : ((x : Nat) : Int).tdiv 10 = ((x / 10 : Nat) : Int) := (Int.ofNat_tdiv x 10).symm
    have hd : x % 10 < 10 := Nat.mod_lt _ (by omega)
    have c2 : decide (((x % 10 : Nat) : Int) < 0) = false := by simp only [decide_eq_false_iff_not]; omega
    have hdig := digit_at (x % 10) hd
    have IH := l_dec n N (x / 10) (UInt8.ofNat (48 + x % 10) :: out) (by omega) (by omega) (by simp only [List.length_cons]; omega)
    rw [digs_step x (by omega), List.append_assoc]
    rw [show [UInt8.ofNat (48 + x % 10)] ++ out = UInt8.ofNat (48 + x % 10) :: out from rfl]
    generalize UInt8.ofNat (48 + x % 10) = bd at *
    have w1 : IntKind.i64.wrap (((x % 10 : Nat) : Int) + 1) = ((x % 10 + 1 : Nat) : Int) := by rw [wrap_in (by omega)]; omega
    have w2 : IntKind.i64.wrap ((x / 10 : Nat) : Int) = ((x / 10 : Nat) : Int) := wrap_in (by omega)
    generalize x % 10 = xd at *
    generalize x / 10 = xq at *
    refine loop_eq Tryd.func21 rfl rfl ?_
    simp (disch := ((try simp only [List.length_cons, List.length_append, List.length_nil, List.length_map]); omega)) only [↓GO, ↓DRW, GA, ren, renB, footX, refs, cellsV, cst, cstAt, nilC, idxAddr, E.load, E.store, binO, isC, bin, ibin, sbin, una, isShift, okCell, packV, lenV, blt, fnV, asArg, snapV, snapS, snapP, snapC, flatV, flatT, openK, layBack, allT, allZ, mkS, srcOf0, unN, idxV, nilEq, give, tupV, mkEnv, extV, pickV, LVS, OVS, LTS, TYS, PMS, pmT, Int.reduceToNat, Nat.reduceGT, ↓reduceIte, Nat.reduceAdd, Nat.reduceMul, Nat.reduceSub, Nat.reduceEqDiff, Nat.reduceLeDiff, Nat.reduceLT, Nat.reduceBEq, Int.reduceBEq, Int.reduceBNe, Int.reduceEq, Int.reduceLT, Int.reduceLE, Int.reduceGT, Int.reduceNeg, reduceCtorEq, bne, c, e1, e2, c2, w1, w2, hdig, le_T, IH]
theorem c_decR (n : Int) (h0 : 0 ≤ n) (h1 : n ≤ 999999999) : callPure (EV Tryd.prog pol) 21 [.t (.int .i64 n)] = some (.t (.str (Lib.itoa n))) := by
  obtain ⟨u, rfl⟩ : ∃ u : Nat, n = u := ⟨n.toNat, by omega⟩
  have IH := l_dec u u u [] (Nat.le_refl _) (by omega) (by simp; omega)
  rw [List.append_nil] at IH
  rw [Lib.itoa_nonneg]
  have c2 : decide ((u : Int) < 0) = false := by simp only [decide_eq_false_iff_not]; omega
  apply eq_call
  refine call_eq rfl Tryd.func21 rfl (by kernel_rfl) ?_
  unfold Tryd.f21
  by_cases hu : u = 0
  · subst hu
    rw [show Lib.decDigits 0 = [48] by rw [Lib.decDigits_one (by omega)]; rfl]
    simp only [↓GO, ↓DRW, GA, ren, renB, footX, refs, cellsV, cst, cstAt, nilC, idxAddr, E.load, E.store, binO, isC, bin, ibin, sbin, una, isShift, okCell, packV, lenV, blt, fnV, asArg, snapV, snapS, snapP, snapC, flatV, flatT, openK, layBack, allT, allZ, mkS, srcOf0, unN, idxV, nilEq, give, tupV, mkEnv, extV, pickV, LVS, OVS, LTS, TYS, PMS, pmT, Int.reduceToNat, Nat.reduceGT, ↓reduceIte, Nat.reduceAdd, Nat.reduceMul, Nat.reduceSub, Nat.reduceEqDiff, Nat.reduceLeDiff, Nat.reduceLT, Nat.reduceBEq, Int.reduceBEq, Int.reduceBNe, Int.reduceEq, Int.reduceLT, Int.reduceLE, Int.reduceGT, Int.reduceNeg, reduceCtorEq, Int.natCast_zero]
  · have c : ((u : Int) == 0) = false := by simp; omega
    rw [show Lib.decDigits u = digs u by simp [digs, hu]]
    simp only [↓GO, ↓DRW, GA, ren, renB, footX, refs, cellsV, cst, cstAt, nilC, idxAddr, E.load, E.store, binO, isC, bin, ibin, sbin, una, isShift, okCell, packV, lenV, blt, fnV, asArg, snapV, snapS, snapP, snapC, flatV, flatT, openK, layBack, allT, allZ, mkS, srcOf0, unN, idxV, nilEq, give, tupV, mkEnv, extV, pickV, LVS, OVS, LTS, TYS, PMS, pmT, Int.reduceToNat, Nat.reduceGT, ↓reduceIte, Nat.reduceAdd, Nat.reduceMul, Nat.reduceSub, Nat.reduceEqDiff, Nat.reduceLeDiff, Nat.reduceLT, Nat.reduceBEq, Int.reduceBEq, Int.reduceBNe, Int.reduceEq, Int.reduceLT, Int.reduceLE, Int.reduceGT, Int.reduceNeg, reduceCtorEq, c, IH, c2]
theorem l_line (d : Nat) (hd : d ≤ 100000) : ∀ (k i : Nat), d - i = k → i ≤ d →
    EV Tryd.prog pol (.loop 23 58 0 [.t (.int .i64 (d : Int)), .t (.str (10 :: sp i)), .t (.int .i64 (i : Int))] [])
    = some (.loop (.exit 0) [.t (.str (10 :: sp d))] [])
  | 0, i, h, hi => by
    obtain rfl : i = d := by omega
    have c : decide ((i : Int) < (i : Int)) = false := by simp
    refine loop_eq Tryd.func23 rfl rfl ?_
    simp only [↓GO, ↓DRW, GA, ren, renB, footX, refs, cellsV, cst, cstAt, nilC, idxAddr, E.load, E.store, binO, isC, bin, ibin, sbin, una, isShift, okCell, packV, lenV, blt, fnV, asArg, snapV, snapS, snapP, snapC, flatV, flatT, openK, layBack, allT, allZ, mkS, srcOf0, unN, idxV, nilEq, give, tupV, mkEnv, extV, pickV, LVS, OVS, LTS, TYS, PMS, pmT, Int.reduceToNat, Nat.reduceGT, ↓reduceIte, Nat.reduceAdd, Nat.reduceMul, Nat.reduceSub, Nat.reduceEqDiff, Nat.reduceLeDiff, Nat.reduceLT, Nat.reduceBEq, Int.reduceBEq, Int.reduceBNe, Int.reduceEq, Int.reduceLT, Int.reduceLE, Int.reduceGT, Int.reduceNeg, reduceCtorEq, c]
  | k + 1, i, h, hi => by
    have c : decide ((i : Int) < (d : Int)) = true := by simp; omega
    have IH := l_line d hd k (i + 1) (by omega) (by omega)
    rw [show ((i + 1 : Nat) : Int) = (i : Int) + 1 by omega, ← sp_succ] at IH
    have hl := sp_len i
    refine loop_eq Tryd.func23 rfl rfl ?_
    simp (disch := ((try simp only [List.length_cons, List.length_append, List.length_nil, List.length_map]); omega)) only [↓GO, ↓DRW, GA, ren, renB, footX, refs, cellsV, cst, cstAt, nilC, idxAddr, E.load, E.store, binO, isC, bin, ibin, sbin, una, isShift, okCell, packV, lenV, blt, fnV, asArg, snapV, snapS, snapP, snapC, flatV, flatT, openK, layBack, allT, allZ, mkS, srcOf0, unN, idxV, nilEq, give, tupV, mkEnv, extV, pickV, LVS, OVS, LTS, TYS, PMS, pmT, Int.reduceToNat, Nat.reduceGT, ↓reduceIte, Nat.reduceAdd, Nat.reduceMul, Nat.reduceSub, Nat.reduceEqDiff, Nat.reduceLeDiff, Nat.reduceLT, Nat.reduceBEq, Int.reduceBEq, Int.reduceBNe, Int.reduceEq, Int.reduceLT, Int.reduceLE, Int.reduceGT, Int.reduceNeg, reduceCtorEq, c, wrap_in, le_T, IH]
theorem c_line (d : Nat) (hd : d ≤ 100000) : callPure (EV Tryd.prog pol) 23 [.t (.int .i64 (d : Int))] = some (.t (.str (10 :: sp d))) := by
  have IH := l_line d hd d 0 (by omega) (by omega)
  simp only [Int.natCast_zero] at IH
  rw [show sp 0 = [] from rfl] at IH
  apply eq_call
  refine call_eq rfl Tryd.func23 rfl (by kernel_rfl) ?_
  unfold Tryd.f23
  simp only [↓GO, ↓DRW, GA, ren, renB, footX, refs, cellsV, cst, cstAt, nilC, idxAddr, E.load, E.store, binO, isC, bin, ibin, sbin, una, isShift, okCell, packV, lenV, blt, fnV, asArg, snapV, snapS, snapP, snapC, flatV, flatT, openK, layBack, allT, allZ, mkS, srcOf0, unN, idxV, nilEq, give, tupV, mkEnv, extV, pickV, LVS, OVS, LTS, TYS, PMS, pmT, Int.reduceToNat, Nat.reduceGT, ↓reduceIte, Nat.reduceAdd, Nat.reduceMul, Nat.reduceSub, Nat.reduceEqDiff, Nat.reduceLeDiff, Nat.reduceLT, Nat.reduceBEq, Int.reduceBEq, Int.reduceBNe, Int.reduceEq, Int.reduceLT, Int.reduceLE, Int.reduceGT, Int.reduceNeg, reduceCtorEq, IH]
mutual
def putT : Tr → Nat → Str
  | .mk k n s ks cs, d =>
    cond (k == 0) [110, 117, 108, 108] <| cond (k == 1) [102, 97, 108, 115, 101] <| cond (k == 2) [116, 114, 117, 101] <| cond (k == 3) (Lib.itoa n) <| cond (k == 4) (quoteS s) <|
    (cond (k == 6) [123] [91]) ++ ((cond ((cs.length : Int) == 0) [] (10 :: (Lib.join (partsT k ks 0 cs (d + 1)) [44, 10] ++ 10 :: sp d))) ++ (cond (k == 6) [125] [93]))
def partsT : Int → List Str → Nat → List Tr → Nat → List Str
  | k, ks, i, [], d => []
  | k, ks, i, c :: cs, d => (sp d ++ ((cond (k == 6) (quoteS (ks.getD i []) ++ [58, 32]) []) ++ putT c d)) :: partsT k ks (i + 1) cs d
end
theorem parts_app (k : Int) (ks : List Str) (d : Nat) : ∀ (a : List Tr) (i : Nat) (b : List Tr), partsT k ks i (a ++ b) d = partsT k ks i a d ++ partsT k ks (i + a.length) b d
  | [], i, b => by simp [partsT]
  | c :: a, i, b => by
    simp only [List.cons_append, partsT, List.length_cons]
    rw [parts_app k ks d a (i + 1) b, show i + (a.length + 1) = i + 1 + a.length by omega]
theorem parts_len (k : Int) (ks : List Str) (d : Nat) : ∀ (a : List Tr) (i : Nat), (partsT k ks i a d).length = a.length
  | [], i => by simp [partsT]
  | c :: a, i => by simp [partsT, parts_len k ks d a (i + 1)]
end Go.Proofs.YtdhejeigbjmncaaDoor

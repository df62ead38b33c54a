/- Joined: P2 K3 K4 K5 K6 A1. Conditions: those of each lemma. -/
import Derived.Test.YtkpmachalipmpaaGreatDoorUF
import Derived.Test.YtkpmachalipmpaaGreatDoorUG
set_option linter.unusedVariables false
set_option linter.unusedSimpArgs false
namespace Go.Proofs.YtkpmachalipmpaaGreatDoor
open E
set_option linter.unusedSimpArgs false
set_option linter.unusedVariables false
set_option maxRecDepth 100000
/-- bytes as a slice's elements -/
def bytesT (l : Str) : List (List T) := l.map fun b => [.int .u8 (b.toNat : Int)]
theorem bytesT_len (l : Str) : (bytesT l).length = l.length := by simp [bytesT]
theorem bytesT_app (a b : Str) : bytesT (a ++ b) = bytesT a ++ bytesT b := by simp [bytesT]
theorem bytesT_nil : bytesT [] = [] := rfl
theorem bytesT_cons (b : UInt8) (l : Str) : bytesT (b :: l) = [.int .u8 (b.toNat : Int)] :: bytesT l := rfl
theorem bytesOf_T : ∀ l : Str, bytesOf (bytesT l) = some (l.map fun b => (b.toNat : Int))
  | [] => rfl
  | b :: l => by rw [bytesT_cons]; simp only [bytesOf, bytesOf_T l, List.map_cons]
theorem bytes_back (l : Str) : (l.map fun b => (b.toNat : Int)).map (fun n => UInt8.ofNat n.toNat) = l := by
  rw [List.map_map]
  have : ((fun n : Int => UInt8.ofNat n.toNat) ∘ fun b : UInt8 => (b.toNat : Int)) = id := by funext b; simp
  rw [this]; simp
theorem bytesT_all (l : Str) {n : Nat} (h : l.length ≤ n) : (bytesT l).take n = bytesT l := List.take_of_length_le (by rw [bytesT_len]; exact h)
theorem sh4 (b : UInt8) : ishift .shr .u8 (b.toNat : Int) 4 = some ((b.toNat / 16 : Nat) : Int) := by
  have key : ∀ n : Fin 256, ishift .shr .u8 (n.val : Int) 4 = some ((n.val / 16 : Nat) : Int) := by decide +kernel
  exact key ⟨b.toNat, b.toNat_lt⟩
theorem and15 (b : UInt8) : ibits .and .u8 (b.toNat : Int) 15 = some ((b.toNat % 16 : Nat) : Int) := by
  have key : ∀ n : Fin 256, ibits .and .u8 (n.val : Int) 15 = some ((n.val % 16 : Nat) : Int) := by decide +kernel
  exact key ⟨b.toNat, b.toNat_lt⟩
theorem quo16 (b : UInt8) : IntKind.u8.wrap ((b.toNat : Int).tdiv 16) = ((b.toNat / 16 : Nat) : Int) := by
  have key : ∀ n : Fin 256, IntKind.u8.wrap ((n.val : Int).tdiv 16) = ((n.val / 16 : Nat) : Int) := by decide +kernel
  exact key ⟨b.toNat, b.toNat_lt⟩
theorem rem16 (b : UInt8) : (b.toNat : Int).tmod 16 = ((b.toNat % 16 : Nat) : Int) := by
  have key : ∀ n : Fin 256, (n.val : Int).tmod 16 = ((n.val % 16 : Nat) : Int) := by decide +kernel
  exact key ⟨b.toNat, b.toNat_lt⟩
theorem hexGet {n : Nat} (h : n < 16) : ([48, 49, 50, 51, 52, 53, 54, 55, 56, 57, 97, 98, 99, 100, 101, 102] : List UInt8)[n]? = some (hexD n) := by
  have key : ∀ n : Fin 16, ([48, 49, 50, 51, 52, 53, 54, 55, 56, 57, 97, 98, 99, 100, 101, 102] : List UInt8)[n.val]? = some (hexD n.val) := by decide
  exact key ⟨n, h⟩
theorem hi16 (b : UInt8) : b.toNat / 16 < 16 := by have := b.toNat_lt; omega
theorem lo16 (b : UInt8) : b.toNat % 16 < 16 := by omega
theorem hexS_snoc (pre : Str) (b : UInt8) : hexS (pre ++ [b]) = hexS pre ++ [hexD (b.toNat / 16), hexD (b.toNat % 16)] := by simp [hexS, hexB]
theorem dyn_pos {α : Type} {b : Bool} {x y r : Option α} (h : b = true) (hx : x = r) : (if b = true then x else y) = r := by rw [h]; exact hx
theorem l_hexI (s : Str) (hl : s.length ≤ 1073741824) : ∀ (rest pre : Str) (cap : Option Nat), s = pre ++ rest →
    ∃ cap', EV Tryz.prog pol (.loop 123 58 0 [.t (.str s), .sl 0 0 (hexS pre).length cap, .t (.int .i64 (s.length : Int)), .t (.int .i64 (pre.length : Int))] [.ts 1 (bytesT (hexS pre))]) = some (.loop (.exit 0) [.sl 0 0 (hexS s).length cap'] [.ts 1 (bytesT (hexS s))])
  | [], pre, cap, hs => by
    have c : decide ((pre.length : Int) < (s.length : Int)) = false := by simp [hs]
    have hp : s = pre := by simpa using hs
    refine ⟨cap, loop_eq Tryz.func123 rfl rfl ?_⟩
    simp only [↓GO, ↓DRW, GA, ren, renB, footX, refs, cellsV, cst, cstAt, nilC, idxAddr, E.load, E.store, binO, isC, bin, ibin, sbin, una, isShift, okCell, packV, lenV, blt, fnV, asArg, snapV, snapS, snapP, snapC, flatV, flatT, openK, layBack, allT, allZ, mkS, srcOf0, unN, idxV, nilEq, give, tupV, mkEnv, extV, pickV, LVS, OVS, LTS, TYS, PMS, pmT, Int.reduceToNat, Nat.reduceGT, ↓reduceIte, Nat.reduceAdd, Nat.reduceMul, Nat.reduceSub, Nat.reduceEqDiff, Nat.reduceLeDiff, Nat.reduceLT, Nat.reduceBEq, Int.reduceBEq, Int.reduceBNe, Int.reduceEq, Int.reduceLT, Int.reduceLE, Int.reduceGT, Int.reduceNeg, reduceCtorEq, c]
    rw [hp]
  | b :: rest, pre, cap, hs => by
    have c : decide ((pre.length : Int) < (s.length : Int)) = true := by simp [hs]; omega
    have hget : s[pre.length]? = some b := by rw [hs]; exact at_zip pre b rest
    have hlen : s.length = pre.length + rest.length + 1 := by rw [hs]; simp; omega
    have e1 : (pre.length : Int) + 1 = ((pre ++ [b]).length : Int) := by simp
    obtain ⟨cap', IH⟩ := l_hexI s hl rest (pre ++ [b]) none (by rw [hs]; simp)
    have hh := hexS_len pre
    have q1 : 0 + (hexS pre).length = (bytesT (hexS pre)).length := by rw [bytesT_len]; omega
    have q2 : ((hexS pre).length + 2) * 2 ≤ 140737488355328 := by omega
    have q3 : (hexS pre).length + 2 ≤ 140737488355328 := by omega
    have hx1 := hexGet (hi16 b)
    have hx2 := hexGet (lo16 b)
    refine ⟨cap', loop_eq Tryz.func123 rfl rfl ?_⟩
    simp (disch := omega) only [↓GO, ↓DRW, GA, ren, renB, footX, refs, cellsV, cst, cstAt, nilC, idxAddr, E.load, E.store, binO, isC, bin, ibin, sbin, una, isShift, okCell, packV, lenV, blt, fnV, asArg, snapV, snapS, snapP, snapC, flatV, flatT, openK, layBack, allT, allZ, mkS, srcOf0, unN, idxV, nilEq, give, tupV, mkEnv, extV, pickV, LVS, OVS, LTS, TYS, PMS, pmT, Int.reduceToNat, Nat.reduceGT, ↓reduceIte, Nat.reduceAdd, Nat.reduceMul, Nat.reduceSub, Nat.reduceEqDiff, Nat.reduceLeDiff, Nat.reduceLT, Nat.reduceBEq, Int.reduceBEq, Int.reduceBNe, Int.reduceEq, Int.reduceLT, Int.reduceLE, Int.reduceGT, Int.reduceNeg, reduceCtorEq, c, hget, wrap_in, sh4, and15, hx1, hx2, bytesT_len, q2, q3]
    refine dyn_pos (by kernel_rfl) ?_
    rw [e1]
    rw [hexS_snoc, bytesT_app] at IH
    simp only [List.length_append, List.length_cons, List.length_nil] at IH ⊢
    exact IH
theorem c_hexI (s : Str) (hl : s.length ≤ 1073741824) : callPure (EV Tryz.prog pol) 123 [.t (.str s)] = some (.t (.str (hexS s))) := by
  obtain ⟨cap, IH⟩ := l_hexI s hl s [] (some 0) rfl
  simp only [List.length_nil, Int.natCast_zero, hexS, List.flatMap_nil, bytesT_nil] at IH
  have ht := bytesT_all (hexS s) (Nat.le_refl _)
  simp only [hexS] at ht
  apply eq_call
  refine call_eq rfl Tryz.func123 rfl (by kernel_rfl) ?_
  unfold Tryz.f123
  simp only [↓GO, ↓DRW, GA, ren, renB, footX, refs, cellsV, cst, cstAt, nilC, idxAddr, E.load, E.store, binO, isC, bin, ibin, sbin, una, isShift, okCell, packV, lenV, blt, fnV, asArg, snapV, snapS, snapP, snapC, flatV, flatT, openK, layBack, allT, allZ, mkS, srcOf0, unN, idxV, nilEq, give, tupV, mkEnv, extV, pickV, LVS, OVS, LTS, TYS, PMS, pmT, Int.reduceToNat, Nat.reduceGT, ↓reduceIte, Nat.reduceAdd, Nat.reduceMul, Nat.reduceSub, Nat.reduceEqDiff, Nat.reduceLeDiff, Nat.reduceLT, Nat.reduceBEq, Int.reduceBEq, Int.reduceBNe, Int.reduceEq, Int.reduceLT, Int.reduceLE, Int.reduceGT, Int.reduceNeg, reduceCtorEq, IH, hexS, conv, bytesElem, ht, bytesOf_T, bytes_back]
theorem l_hexR (s : Str) (hl : s.length ≤ 1073741824) : ∀ (rest pre : Str) (cap : Option Nat), s = pre ++ rest →
    ∃ cap', EV Tryz.prog pol (.loop 274 58 0 [.t (.str s), .sl 0 0 (hexS pre).length cap, .t (.int .i64 (pre.length : Int))] [.ts 1 (bytesT (hexS pre))]) = some (.loop (.exit 0) [.sl 0 0 (hexS s).length cap'] [.ts 1 (bytesT (hexS s))])
  | [], pre, cap, hs => by
    have c : decide ((pre.length : Int) < (s.length : Int)) = false := by simp [hs]
    have hp : s = pre := by simpa using hs
    refine ⟨cap, loop_eq Tryz.func274 rfl rfl ?_⟩
    simp only [↓GO, ↓DRW, GA, ren, renB, footX, refs, cellsV, cst, cstAt, nilC, idxAddr, E.load, E.store, binO, isC, bin, ibin, sbin, una, isShift, okCell, packV, lenV, blt, fnV, asArg, snapV, snapS, snapP, snapC, flatV, flatT, openK, layBack, allT, allZ, mkS, srcOf0, unN, idxV, nilEq, give, tupV, mkEnv, extV, pickV, LVS, OVS, LTS, TYS, PMS, pmT, Int.reduceToNat, Nat.reduceGT, ↓reduceIte, Nat.reduceAdd, Nat.reduceMul, Nat.reduceSub, Nat.reduceEqDiff, Nat.reduceLeDiff, Nat.reduceLT, Nat.reduceBEq, Int.reduceBEq, Int.reduceBNe, Int.reduceEq, Int.reduceLT, Int.reduceLE, Int.reduceGT, Int.reduceNeg, reduceCtorEq, c]
    rw [hp]
  | b :: rest, pre, cap, hs => by
    have c : decide ((pre.length : Int) < (s.length : Int)) = true := by simp [hs]; omega
    have hget : s[pre.length]? = some b := by rw [hs]; exact at_zip pre b rest
    have hlen : s.length = pre.length + rest.length + 1 := by rw [hs]; simp; omega
    have e1 : (pre.length : Int) + 1 = ((pre ++ [b]).length : Int) := by simp
    obtain ⟨cap', IH⟩ := l_hexR s hl rest (pre ++ [b]) none (by rw [hs]; simp)
    have hh := hexS_len pre
    have q2 : ((hexS pre).length + 2) * 2 ≤ 140737488355328 := by omega
    have q3 : (hexS pre).length + 2 ≤ 140737488355328 := by omega
    have hx1 := hexGet (hi16 b)
    have hx2 := hexGet (lo16 b)
    refine ⟨cap', loop_eq Tryz.func274 rfl rfl ?_⟩
    simp (disch := omega) only [↓GO, ↓DRW, GA, ren, renB, footX, refs, cellsV, cst, cstAt, nilC, idxAddr, E.load, E.store, binO, isC, bin, ibin, sbin, una, isShift, okCell, packV, lenV, blt, fnV, asArg, snapV, snapS, snapP, snapC, flatV, flatT, openK, layBack, allT, allZ, mkS, srcOf0, unN, idxV, nilEq, give, tupV, mkEnv, extV, pickV, LVS, OVS, LTS, TYS, PMS, pmT, Int.reduceToNat, Nat.reduceGT, ↓reduceIte, Nat.reduceAdd, Nat.reduceMul, Nat.reduceSub, Nat.reduceEqDiff, Nat.reduceLeDiff, Nat.reduceLT, Nat.reduceBEq, Int.reduceBEq, Int.reduceBNe, Int.reduceEq, Int.reduceLT, Int.reduceLE, Int.reduceGT, Int.reduceNeg, reduceCtorEq, c, hget, wrap_in, quo16, rem16, hx1, hx2, bytesT_len, q2, q3]
    refine dyn_pos (by kernel_rfl) ?_
    rw [e1]
    rw [hexS_snoc, bytesT_app] at IH
    simp only [List.length_append, List.length_cons, List.length_nil] at IH ⊢
    exact IH
theorem c_hexR (s : Str) (hl : s.length ≤ 1073741824) : callPure (EV Tryz.prog pol) 274 [.t (.str s)] = some (.t (.str (hexS s))) := by
  obtain ⟨cap, IH⟩ := l_hexR s hl s [] (some 0) rfl
  simp only [List.length_nil, Int.natCast_zero, hexS, List.flatMap_nil, bytesT_nil] at IH
  have ht := bytesT_all (hexS s) (Nat.le_refl _)
  simp only [hexS] at ht
  apply eq_call
  refine call_eq rfl Tryz.func274 rfl (by kernel_rfl) ?_
  unfold Tryz.f274
  simp only [↓GO, ↓DRW, GA, ren, renB, footX, refs, cellsV, cst, cstAt, nilC, idxAddr, E.load, E.store, binO, isC, bin, ibin, sbin, una, isShift, okCell, packV, lenV, blt, fnV, asArg, snapV, snapS, snapP, snapC, flatV, flatT, openK, layBack, allT, allZ, mkS, srcOf0, unN, idxV, nilEq, give, tupV, mkEnv, extV, pickV, LVS, OVS, LTS, TYS, PMS, pmT, Int.reduceToNat, Nat.reduceGT, ↓reduceIte, Nat.reduceAdd, Nat.reduceMul, Nat.reduceSub, Nat.reduceEqDiff, Nat.reduceLeDiff, Nat.reduceLT, Nat.reduceBEq, Int.reduceBEq, Int.reduceBNe, Int.reduceEq, Int.reduceLT, Int.reduceLE, Int.reduceGT, Int.reduceNeg, reduceCtorEq, IH, hexS, conv, bytesElem, ht, bytesOf_T, bytes_back]
theorem hexS_one (b : UInt8) : hexS [b] = hexB b := by simp [hexS]
/-- what a byte is, asked in the order in which both ask -/
theorem byte_cases (b : UInt8) {p : Prop} (h34 : ((b.toNat : Int) == 34) = true → quoteB b = [92, b] → p) (h92 : ((b.toNat : Int) == 34) = false → ((b.toNat : Int) == 92) = true → quoteB b = [92, b] → p)
    (h10 : ((b.toNat : Int) == 34) = false → ((b.toNat : Int) == 92) = false → ((b.toNat : Int) == 10) = true → quoteB b = [92, 110] → p)
    (h32 : ((b.toNat : Int) == 34) = false → ((b.toNat : Int) == 92) = false → ((b.toNat : Int) == 10) = false → decide ((b.toNat : Int) < 32) = true → quoteB b = [92, 120] ++ hexB b → p)
    (h127 : ((b.toNat : Int) == 34) = false → ((b.toNat : Int) == 92) = false → ((b.toNat : Int) == 10) = false → decide ((b.toNat : Int) < 32) = false → decide ((b.toNat : Int) ≥ 127) = true → decide ((b.toNat : Int) > 126) = true → quoteB b = [92, 120] ++ hexB b → p)
    (hp : ((b.toNat : Int) == 34) = false → ((b.toNat : Int) == 92) = false → ((b.toNat : Int) == 10) = false → decide ((b.toNat : Int) < 32) = false → decide ((b.toNat : Int) ≥ 127) = false → decide ((b.toNat : Int) > 126) = false → quoteB b = [b] → p) : p := by
  by_cases a1 : b.toNat = 34
  · exact h34 (by simp [a1]) (by simp [quoteB, a1])
  · have b1 : ((b.toNat : Int) == 34) = false := by simp; omega
    by_cases a2 : b.toNat = 92
    · exact h92 b1 (by simp [a2]) (by simp [quoteB, a2])
    · have b2 : ((b.toNat : Int) == 92) = false := by simp; omega
      by_cases a3 : b.toNat = 10
      · exact h10 b1 b2 (by simp [a3]) (by simp [quoteB, a3])
      · have b3 : ((b.toNat : Int) == 10) = false := by simp; omega
        by_cases a4 : b.toNat < 32
        · exact h32 b1 b2 b3 (by simp; omega) (by unfold quoteB; rw [if_neg (by omega), if_neg a3, if_pos (.inl a4)])
        · have b4 : decide ((b.toNat : Int) < 32) = false := by simp; omega
          by_cases a5 : 127 ≤ b.toNat
          · exact h127 b1 b2 b3 b4 (by simp; omega) (by simp; omega) (by unfold quoteB; rw [if_neg (by omega), if_neg a3, if_pos (.inr a5)])
          · exact hp b1 b2 b3 b4 (by simp; omega) (by simp; omega) (by unfold quoteB; rw [if_neg (by omega), if_neg a3, if_neg (by omega)])
def qOpen (pre : Str) : Str := 34 :: pre.flatMap quoteB
theorem qOpen_snoc (pre : Str) (b : UInt8) : qOpen (pre ++ [b]) = qOpen pre ++ quoteB b := by simp [qOpen]
theorem qOpen_len (pre : Str) : (qOpen pre).length ≤ 4 * pre.length + 1 := by
  have := flat_le quoteB 4 (fun b => (quoteB_len b).1) pre
  simp only [qOpen, List.length_cons]; omega
theorem quoteS_eq (s : Str) : quoteS s = qOpen s ++ [34] := rfl
theorem l_quoteI (s : Str) (hl : s.length ≤ 134217728) : ∀ (rest pre : Str), s = pre ++ rest →
    EV Tryz.prog pol (.loop 192 58 0 [.t (.str s), .t (.str (qOpen pre)), .t (.int .i64 (s.length : Int)), .t (.int .i64 (pre.length : Int))] []) = some (.loop (.exit 0) [.t (.str (qOpen s))] [])
  | [], pre, hs => by
    have c : decide ((pre.length : Int) < (s.length : Int)) = false := by simp [hs]
    have hp : s = pre := by simpa using hs
    refine loop_eq Tryz.func192 rfl rfl ?_
    simp only [↓GO, ↓DRW, GA, ren, renB, footX, refs, cellsV, cst, cstAt, nilC, idxAddr, E.load, E.store, binO, isC, bin, ibin, sbin, una, isShift, okCell, packV, lenV, blt, fnV, asArg, snapV, snapS, snapP, snapC, flatV, flatT, openK, layBack, allT, allZ, mkS, srcOf0, unN, idxV, nilEq, give, tupV, mkEnv, extV, pickV, LVS, OVS, LTS, TYS, PMS, pmT, Int.reduceToNat, Nat.reduceGT, ↓reduceIte, Nat.reduceAdd, Nat.reduceMul, Nat.reduceSub, Nat.reduceEqDiff, Nat.reduceLeDiff, Nat.reduceLT, Nat.reduceBEq, Int.reduceBEq, Int.reduceBNe, Int.reduceEq, Int.reduceLT, Int.reduceLE, Int.reduceGT, Int.reduceNeg, reduceCtorEq, c]
    rw [hp]
  | b :: rest, pre, hs => by
    have c : decide ((pre.length : Int) < (s.length : Int)) = true := by simp [hs]; omega
    have hget : s[pre.length]? = some b := by rw [hs]; exact at_zip pre b rest
    have hone : (s.drop pre.length).take (pre.length + 1 - pre.length) = [b] := by rw [hs]; exact one_of pre b rest
    have hlen : pre.length + rest.length + 1 ≤ s.length := by rw [hs]; simp; omega
    have IH := l_quoteI s hl rest (pre ++ [b]) (by rw [hs]; simp)
    clear hs
    have hq := qOpen_len pre
    have hxl : (hexB b).length ≤ 2 := by rw [hexB_len]; omega
    have hhex := c_hexI [b] (by simp)
    rw [qOpen_snoc] at IH
    refine loop_eq Tryz.func192 rfl rfl ?_
    refine byte_cases b (fun b1 hb => ?_) (fun b1 b2 hb => ?_) (fun b1 b2 b3 hb => ?_) (fun b1 b2 b3 b4 hb => ?_) (fun b1 b2 b3 b4 b5 b6 hb => ?_) (fun b1 b2 b3 b4 b5 b6 hb => ?_) <;> rw [hb] at IH
    all_goals
      simp (disch := ((try simp only [List.length_cons, List.length_append, List.length_nil, List.length_map]); omega)) only [↓GO, ↓DRW, GA, ren, renB, footX, refs, cellsV, cst, cstAt, nilC, idxAddr, E.load, E.store, binO, isC, bin, ibin, sbin, una, isShift, okCell, packV, lenV, blt, fnV, asArg, snapV, snapS, snapP, snapC, flatV, flatT, openK, layBack, allT, allZ, mkS, srcOf0, unN, idxV, nilEq, give, tupV, mkEnv, extV, pickV, LVS, OVS, LTS, TYS, PMS, pmT, Int.reduceToNat, Nat.reduceGT, ↓reduceIte, Nat.reduceAdd, Nat.reduceMul, Nat.reduceSub, Nat.reduceEqDiff, Nat.reduceLeDiff, Nat.reduceLT, Nat.reduceBEq, Int.reduceBEq, Int.reduceBNe, Int.reduceEq, Int.reduceLT, Int.reduceLE, Int.reduceGT, Int.reduceNeg, reduceCtorEq, c, hget, wrap_in, hone, hhex, le_T, hexS_one, *]
      rw [show (pre.length : Int) + 1 = ((pre ++ [b]).length : Int) by simp]
      exact IH
theorem c_quoteI (s : Str) (hl : s.length ≤ 134217728) : callPure (EV Tryz.prog pol) 192 [.t (.str s)] = some (.t (.str (quoteS s))) := by
  have IH := l_quoteI s hl s [] rfl
  simp only [List.length_nil, Int.natCast_zero, qOpen, List.flatMap_nil] at IH
  have hq := qOpen_len s
  simp only [qOpen, List.length_cons] at hq
  apply eq_call
  refine call_eq rfl Tryz.func192 rfl (by kernel_rfl) ?_
  unfold Tryz.f192
  simp (disch := ((try simp only [List.length_cons, List.length_append, List.length_nil, List.length_map]); omega)) only [↓GO, ↓DRW, GA, ren, renB, footX, refs, cellsV, cst, cstAt, nilC, idxAddr, E.load, E.store, binO, isC, bin, ibin, sbin, una, isShift, okCell, packV, lenV, blt, fnV, asArg, snapV, snapS, snapP, snapC, flatV, flatT, openK, layBack, allT, allZ, mkS, srcOf0, unN, idxV, nilEq, give, tupV, mkEnv, extV, pickV, LVS, OVS, LTS, TYS, PMS, pmT, Int.reduceToNat, Nat.reduceGT, ↓reduceIte, Nat.reduceAdd, Nat.reduceMul, Nat.reduceSub, Nat.reduceEqDiff, Nat.reduceLeDiff, Nat.reduceLT, Nat.reduceBEq, Int.reduceBEq, Int.reduceBNe, Int.reduceEq, Int.reduceLT, Int.reduceLE, Int.reduceGT, Int.reduceNeg, reduceCtorEq, IH, le_T, quoteS]
theorem map_bytesT (l : Str) : (l.map fun b => [T.int .u8 (b.toNat : Int)]) = bytesT l := rfl
theorem l_quoteR (s : Str) (hl : s.length ≤ 134217728) : ∀ (rest pre : Str) (cap : Option Nat), s = pre ++ rest →
    ∃ cap', EV Tryz.prog pol (.loop 208 58 0 [.t (.str s), .sl 0 0 (qOpen pre).length cap, .t (.int .i64 (pre.length : Int))] [.ts 1 (bytesT (qOpen pre))]) = some (.loop (.exit 0) [.sl 0 0 (qOpen s).length cap'] [.ts 1 (bytesT (qOpen s))])
  | [], pre, cap, hs => by
    have c : decide ((pre.length : Int) < (s.length : Int)) = false := by simp [hs]
    have hp : s = pre := by simpa using hs
    refine ⟨cap, loop_eq Tryz.func208 rfl rfl ?_⟩
    simp only [↓GO, ↓DRW, GA, ren, renB, footX, refs, cellsV, cst, cstAt, nilC, idxAddr, E.load, E.store, binO, isC, bin, ibin, sbin, una, isShift, okCell, packV, lenV, blt, fnV, asArg, snapV, snapS, snapP, snapC, flatV, flatT, openK, layBack, allT, allZ, mkS, srcOf0, unN, idxV, nilEq, give, tupV, mkEnv, extV, pickV, LVS, OVS, LTS, TYS, PMS, pmT, Int.reduceToNat, Nat.reduceGT, ↓reduceIte, Nat.reduceAdd, Nat.reduceMul, Nat.reduceSub, Nat.reduceEqDiff, Nat.reduceLeDiff, Nat.reduceLT, Nat.reduceBEq, Int.reduceBEq, Int.reduceBNe, Int.reduceEq, Int.reduceLT, Int.reduceLE, Int.reduceGT, Int.reduceNeg, reduceCtorEq, c]
    rw [hp]
  | b :: rest, pre, cap, hs => by
    have c : decide ((pre.length : Int) < (s.length : Int)) = true := by simp [hs]; omega
    have hget : s[pre.length]? = some b := by rw [hs]; exact at_zip pre b rest
    have hone : (s.drop pre.length).take (pre.length + 1 - pre.length) = [b] := by rw [hs]; exact one_of pre b rest
    have hlen : pre.length + rest.length + 1 ≤ s.length := by rw [hs]; simp; omega
    obtain ⟨cap', IH⟩ := l_quoteR s hl rest (pre ++ [b]) none (by rw [hs]; simp)
    clear hs
    have hq := qOpen_len pre
    have hxl : (hexB b).length ≤ 2 := by rw [hexB_len]; omega
    have hhex := c_hexR [b] (by simp)
    rw [qOpen_snoc, bytesT_app] at IH
    refine ⟨cap', loop_eq Tryz.func208 rfl rfl ?_⟩
    refine byte_cases b (fun b1 hb => ?_) (fun b1 b2 hb => ?_) (fun b1 b2 b3 hb => ?_) (fun b1 b2 b3 b4 hb => ?_) (fun b1 b2 b3 b4 b5 b6 hb => ?_) (fun b1 b2 b3 b4 b5 b6 hb => ?_) <;> rw [hb] at IH
    all_goals
      simp only [bytesT_app, bytesT_cons, bytesT_nil, List.length_append, List.length_cons, List.length_nil] at IH
      simp (disch := ((try simp only [List.length_cons, List.length_append, List.length_nil, List.length_map]); omega)) only [↓GO, ↓DRW, GA, ren, renB, footX, refs, cellsV, cst, cstAt, nilC, idxAddr, E.load, E.store, binO, isC, bin, ibin, sbin, una, isShift, okCell, packV, lenV, blt, fnV, asArg, snapV, snapS, snapP, snapC, flatV, flatT, openK, layBack, allT, allZ, mkS, srcOf0, unN, idxV, nilEq, give, tupV, mkEnv, extV, pickV, LVS, OVS, LTS, TYS, PMS, pmT, Int.reduceToNat, Nat.reduceGT, ↓reduceIte, Nat.reduceAdd, Nat.reduceMul, Nat.reduceSub, Nat.reduceEqDiff, Nat.reduceLeDiff, Nat.reduceLT, Nat.reduceBEq, Int.reduceBEq, Int.reduceBNe, Int.reduceEq, Int.reduceLT, Int.reduceLE, Int.reduceGT, Int.reduceNeg, reduceCtorEq, c, hget, wrap_in, hone, hhex, le_T, hexS_one, bytesT_len, map_bytesT, List.length_append, *]
      rw [show (pre.length : Int) + 1 = ((pre ++ [b]).length : Int) by simp]
      simp only [List.append_assoc, Nat.add_assoc, List.cons_append, List.nil_append, List.length_append, List.length_cons, List.length_nil, Nat.reduceAdd, hexB_len] at IH ⊢
      exact IH
theorem c_quoteR (s : Str) (hl : s.length ≤ 134217728) : callPure (EV Tryz.prog pol) 208 [.t (.str s)] = some (.t (.str (quoteS s))) := by
  obtain ⟨cap, IH⟩ := l_quoteR s hl s [] (some 1) rfl
  simp only [List.length_nil, List.length_cons, Int.natCast_zero, qOpen, List.flatMap_nil, bytesT_nil, bytesT_cons, UInt8.reduceToNat, Int.cast_ofNat_Int, Nat.zero_add] at IH
  have hq := qOpen_len s
  simp only [qOpen, List.length_cons] at hq
  have ht := bytesT_all (quoteS s) (n := (s.flatMap quoteB).length + 1 + 1) (by simp [quoteS])
  have ho := bytesOf_T (quoteS s)
  have hk := bytes_back (quoteS s)
  simp only [quoteS, bytesT_cons, bytesT_app, bytesT_nil, UInt8.reduceToNat, Int.cast_ofNat_Int] at ht ho
  simp only [quoteS] at hk
  apply eq_call
  refine call_eq rfl Tryz.func208 rfl (by kernel_rfl) ?_
  unfold Tryz.f208
  simp (disch := ((try simp only [List.length_cons, List.length_append, List.length_nil, List.length_map]); omega)) only [↓GO, ↓DRW, GA, ren, renB, footX, refs, cellsV, cst, cstAt, nilC, idxAddr, E.load, E.store, binO, isC, bin, ibin, sbin, una, isShift, okCell, packV, lenV, blt, fnV, asArg, snapV, snapS, snapP, snapC, flatV, flatT, openK, layBack, allT, allZ, mkS, srcOf0, unN, idxV, nilEq, give, tupV, mkEnv, extV, pickV, LVS, OVS, LTS, TYS, PMS, pmT, Int.reduceToNat, Nat.reduceGT, ↓reduceIte, Nat.reduceAdd, Nat.reduceMul, Nat.reduceSub, Nat.reduceEqDiff, Nat.reduceLeDiff, Nat.reduceLT, Nat.reduceBEq, Int.reduceBEq, Int.reduceBNe, Int.reduceEq, Int.reduceLT, Int.reduceLE, Int.reduceGT, Int.reduceNeg, reduceCtorEq, IH, le_T, conv, bytesElem, bytesT_len, ht, ho, quoteS]
  exact congrArg (fun l => Resp.call (V.t (T.str l)) []) hk
end Go.Proofs.YtkpmachalipmpaaGreatDoor
/- The text of a version, and back, by both. Conditions: those of each lemma. -/
namespace Go.Proofs.YtkpmachalipmpaaGreatDoor
open E
set_option linter.unusedSimpArgs false
set_option linter.unusedVariables false
set_option maxRecDepth 100000
theorem tailV_snoc (c : Str) (x : Str) : ∀ pre : List Str, tailV c (pre ++ [x]) = cond (pre == []) ((c ++ [45]) ++ x) ((tailV c pre ++ [46]) ++ x)
  | [] => by simp [tailV, Lib.join_one]
  | y :: l => by
    unfold tailV
    rw [join_snoc1]
    simp
theorem tailV_len (c : Str) (l : List Str) : (tailV c l).length ≤ c.length + bulkS l + l.length + 1 := by
  have h := join_le [46] l
  unfold tailV
  cases l with
  | nil => simp only [show (([] : List Str) == []) = true from rfl, cond_true]; omega
  | cons x r =>
    simp only [beq_nil_cons, cond_false, List.length_append, List.length_cons, List.length_nil] at h ⊢
    omega
theorem core_len {v : Ver} (h : verOk v = true) : (coreV v).length ≤ 29 := by
  obtain ⟨h1, h2, h3, _, _⟩ := verOk_num h
  have a := itoa_len v.maj h1.1 h1.2
  have b := itoa_len v.min h2.1 h2.2
  have c := itoa_len v.pat h3.1 h3.2
  unfold coreV
  simp only [List.length_append, List.length_cons, List.length_nil]
  omega
theorem c_vtextI (v : Ver) (hs : v.sm) : callPure (EV Tryz.prog pol) 307 [.agg (v.enc.map .t)] = some (.t (.str (verText v))) := by
  have h1 := c_vokI v hs
  unfold Ver.sm at hs
  unfold verText
  cases ho : verOk v with
  | false =>
    rw [ho] at h1
    simp only [Ver.enc, List.map_cons, List.map_nil] at h1 ⊢
    apply eq_call
    refine call_eq rfl Tryz.func307 rfl (by kernel_rfl) ?_
    unfold Tryz.f307
    simp (disch := ((try simp only [List.length_cons, List.length_append, List.length_nil, List.length_map]); omega)) only [↓GO, ↓DRW, GA, ren, renB, footX, refs, cellsV, cst, cstAt, nilC, idxAddr, E.load, E.store, binO, isC, bin, ibin, sbin, una, isShift, okCell, packV, lenV, blt, fnV, asArg, snapV, snapS, snapP, snapC, flatV, flatT, openK, layBack, allT, allZ, mkS, srcOf0, unN, idxV, nilEq, give, tupV, mkEnv, extV, pickV, LVS, OVS, LTS, TYS, PMS, pmT, Int.reduceToNat, Nat.reduceGT, ↓reduceIte, Nat.reduceAdd, Nat.reduceMul, Nat.reduceSub, Nat.reduceEqDiff, Nat.reduceLeDiff, Nat.reduceLT, Nat.reduceBEq, Int.reduceBEq, Int.reduceBNe, Int.reduceEq, Int.reduceLT, Int.reduceLE, Int.reduceGT, Int.reduceNeg, reduceCtorEq, Int.cast_ofNat_Int, getE_zero, getE_one, getE_two, Option.isSome_none, h1]
  | true =>
    obtain ⟨q1, q2, q3, _, _⟩ := verOk_num ho
    have a := itoa_len v.maj q1.1 q1.2
    have b := itoa_len v.min q2.1 q2.2
    have c := itoa_len v.pat q3.1 q3.2
    have d1 := c_decI v.maj q1.1 q1.2
    have d2 := c_decI v.min q2.1 q2.2
    have d3 := c_decI v.pat q3.1 q3.2
    have hj := join_le [46] v.pre
    simp only [List.length_cons, List.length_nil] at hj
    have h2 := c_join v.pre [46] (by omega) (by omega)
    have hg := gt_len v.pre
    rw [ho] at h1
    unfold tailV coreV
    simp only [Ver.enc, List.map_cons, List.map_nil] at h1 ⊢
    cases hp : (v.pre == []) <;> rw [hp] at hg <;> simp only [Bool.not_true, Bool.not_false] at hg
    · apply eq_call
      refine call_eq rfl Tryz.func307 rfl (by kernel_rfl) ?_
      unfold Tryz.f307
      simp (disch := ((try simp only [List.length_cons, List.length_append, List.length_nil, List.length_map]); omega)) only [↓GO, ↓DRW, GA, ren, renB, footX, refs, cellsV, cst, cstAt, nilC, idxAddr, E.load, E.store, binO, isC, bin, ibin, sbin, una, isShift, okCell, packV, lenV, blt, fnV, asArg, snapV, snapS, snapP, snapC, flatV, flatT, openK, layBack, allT, allZ, mkS, srcOf0, unN, idxV, nilEq, give, tupV, mkEnv, extV, pickV, LVS, OVS, LTS, TYS, PMS, pmT, Int.reduceToNat, Nat.reduceGT, ↓reduceIte, Nat.reduceAdd, Nat.reduceMul, Nat.reduceSub, Nat.reduceEqDiff, Nat.reduceLeDiff, Nat.reduceLT, Nat.reduceBEq, Int.reduceBEq, Int.reduceBNe, Int.reduceEq, Int.reduceLT, Int.reduceLE, Int.reduceGT, Int.reduceNeg, reduceCtorEq, Int.cast_ofNat_Int, getE_zero, getE_one, getE_two, Option.isSome_none, h1, d1, d2, d3, h2, hg, le_T, strs_len, List.append_assoc]
    · apply eq_call
      refine call_eq rfl Tryz.func307 rfl (by kernel_rfl) ?_
      unfold Tryz.f307
      simp (disch := ((try simp only [List.length_cons, List.length_append, List.length_nil, List.length_map]); omega)) only [↓GO, ↓DRW, GA, ren, renB, footX, refs, cellsV, cst, cstAt, nilC, idxAddr, E.load, E.store, binO, isC, bin, ibin, sbin, una, isShift, okCell, packV, lenV, blt, fnV, asArg, snapV, snapS, snapP, snapC, flatV, flatT, openK, layBack, allT, allZ, mkS, srcOf0, unN, idxV, nilEq, give, tupV, mkEnv, extV, pickV, LVS, OVS, LTS, TYS, PMS, pmT, Int.reduceToNat, Nat.reduceGT, ↓reduceIte, Nat.reduceAdd, Nat.reduceMul, Nat.reduceSub, Nat.reduceEqDiff, Nat.reduceLeDiff, Nat.reduceLT, Nat.reduceBEq, Int.reduceBEq, Int.reduceBNe, Int.reduceEq, Int.reduceLT, Int.reduceLE, Int.reduceGT, Int.reduceNeg, reduceCtorEq, Int.cast_ofNat_Int, getE_zero, getE_one, getE_two, Option.isSome_none, h1, d1, d2, d3, h2, hg, le_T, strs_len, List.append_assoc]
theorem l_vtR (v : Ver) (hs : v.sm) (c : Str) (hc : c.length ≤ 40) : ∀ (rest pre : List Str), v.pre = pre ++ rest →
    EV Tryz.prog pol (.loop 242 122 0 [.ptr 0 0 0, .t (.str (tailV c pre)), .t (.int .i64 (pre.length : Int))] [.vs 4 [v.enc.map .t]])
    = some (.loop (.exit 0) [.t (.str (tailV c v.pre))] [])
  | [], pre, hp => by
    have c : decide ((pre.length : Int) < (v.pre.length : Int)) = false := by simp [hp]
    have e : v.pre = pre := by simpa using hp
    refine loop_eq Tryz.func242 rfl rfl ?_
    simp only [↓GO, ↓DRW, GA, ren, renB, footX, refs, cellsV, cst, cstAt, nilC, idxAddr, E.load, E.store, binO, isC, bin, ibin, sbin, una, isShift, okCell, packV, lenV, blt, fnV, asArg, snapV, snapS, snapP, snapC, flatV, flatT, openK, layBack, allT, allZ, mkS, srcOf0, unN, idxV, nilEq, give, tupV, mkEnv, extV, pickV, LVS, OVS, LTS, TYS, PMS, pmT, Int.reduceToNat, Nat.reduceGT, ↓reduceIte, Nat.reduceAdd, Nat.reduceMul, Nat.reduceSub, Nat.reduceEqDiff, Nat.reduceLeDiff, Nat.reduceLT, Nat.reduceBEq, Int.reduceBEq, Int.reduceBNe, Int.reduceEq, Int.reduceLT, Int.reduceLE, Int.reduceGT, Int.reduceNeg, reduceCtorEq, strs_len, c, Ver.enc, rch3]
    rw [e]
  | x :: rest, pre, hp => by
    unfold Ver.sm at hs
    have c2 : decide ((pre.length : Int) < (v.pre.length : Int)) = true := by simp [hp]; omega
    have hget : (strs v.pre)[pre.length]? = some [.str x] := by rw [hp]; exact strs_zip pre x rest
    have hlen : pre.length + rest.length + 1 ≤ v.pre.length := by rw [hp]; simp; omega
    have hbk : bulkS pre + x.length ≤ bulkS v.pre := by rw [hp, bulk_app]; simp only [bulkS]; omega
    have ht := tailV_len c pre
    have IH := l_vtR v hs c hc rest (pre ++ [x]) (by rw [hp]; simp)
    rw [show ((pre ++ [x]).length : Int) = (pre.length : Int) + 1 by simp, tailV_snoc] at IH
    have he := beq_len pre
    have e0 : (pre == []) = true → tailV c pre = c := fun h => by unfold tailV; rw [h]; rfl
    clear hp
    simp only [Ver.enc, List.map_cons, List.map_nil] at IH ⊢
    cases h0 : (pre == []) <;> rw [h0] at he IH <;> simp only [cond_true, cond_false] at IH
    · refine loop_eq Tryz.func242 rfl rfl ?_
      simp (disch := ((try simp only [List.length_cons, List.length_append, List.length_nil, List.length_map]); omega)) only [↓GO, ↓DRW, GA, ren, renB, footX, refs, cellsV, cst, cstAt, nilC, idxAddr, E.load, E.store, binO, isC, bin, ibin, sbin, una, isShift, okCell, packV, lenV, blt, fnV, asArg, snapV, snapS, snapP, snapC, flatV, flatT, openK, layBack, allT, allZ, mkS, srcOf0, unN, idxV, nilEq, give, tupV, mkEnv, extV, pickV, LVS, OVS, LTS, TYS, PMS, pmT, Int.reduceToNat, Nat.reduceGT, ↓reduceIte, Nat.reduceAdd, Nat.reduceMul, Nat.reduceSub, Nat.reduceEqDiff, Nat.reduceLeDiff, Nat.reduceLT, Nat.reduceBEq, Int.reduceBEq, Int.reduceBNe, Int.reduceEq, Int.reduceLT, Int.reduceLE, Int.reduceGT, Int.reduceNeg, reduceCtorEq, Int.cast_ofNat_Int, getE_zero, getE_one, getE_two, Option.isSome_none, c2, hget, wrap_in, he, strs_len, IH, rch3, le_T]
    · have e1 := e0 h0
      rw [e1]
      refine loop_eq Tryz.func242 rfl rfl ?_
      simp (disch := ((try simp only [List.length_cons, List.length_append, List.length_nil, List.length_map]); omega)) only [↓GO, ↓DRW, GA, ren, renB, footX, refs, cellsV, cst, cstAt, nilC, idxAddr, E.load, E.store, binO, isC, bin, ibin, sbin, una, isShift, okCell, packV, lenV, blt, fnV, asArg, snapV, snapS, snapP, snapC, flatV, flatT, openK, layBack, allT, allZ, mkS, srcOf0, unN, idxV, nilEq, give, tupV, mkEnv, extV, pickV, LVS, OVS, LTS, TYS, PMS, pmT, Int.reduceToNat, Nat.reduceGT, ↓reduceIte, Nat.reduceAdd, Nat.reduceMul, Nat.reduceSub, Nat.reduceEqDiff, Nat.reduceLeDiff, Nat.reduceLT, Nat.reduceBEq, Int.reduceBEq, Int.reduceBNe, Int.reduceEq, Int.reduceLT, Int.reduceLE, Int.reduceGT, Int.reduceNeg, reduceCtorEq, Int.cast_ofNat_Int, getE_zero, getE_one, getE_two, Option.isSome_none, c2, hget, wrap_in, he, strs_len, IH, rch3, le_T]
theorem c_vtextR (v : Ver) (hs : v.sm) : callPure (EV Tryz.prog pol) 242 [.agg (v.enc.map .t)] = some (.t (.str (verText v))) := by
  have h1 := c_vokR v hs
  unfold verText
  cases ho : verOk v with
  | false =>
    rw [ho] at h1
    simp only [Ver.enc, List.map_cons, List.map_nil] at h1 ⊢
    apply eq_call
    refine call_eq rfl Tryz.func242 rfl (by kernel_rfl) ?_
    unfold Tryz.f242
    simp (disch := ((try simp only [List.length_cons, List.length_append, List.length_nil, List.length_map]); omega)) only [↓GO, ↓DRW, GA, ren, renB, footX, refs, cellsV, cst, cstAt, nilC, idxAddr, E.load, E.store, binO, isC, bin, ibin, sbin, una, isShift, okCell, packV, lenV, blt, fnV, asArg, snapV, snapS, snapP, snapC, flatV, flatT, openK, layBack, allT, allZ, mkS, srcOf0, unN, idxV, nilEq, give, tupV, mkEnv, extV, pickV, LVS, OVS, LTS, TYS, PMS, pmT, Int.reduceToNat, Nat.reduceGT, ↓reduceIte, Nat.reduceAdd, Nat.reduceMul, Nat.reduceSub, Nat.reduceEqDiff, Nat.reduceLeDiff, Nat.reduceLT, Nat.reduceBEq, Int.reduceBEq, Int.reduceBNe, Int.reduceEq, Int.reduceLT, Int.reduceLE, Int.reduceGT, Int.reduceNeg, reduceCtorEq, Int.cast_ofNat_Int, getE_zero, getE_one, getE_two, Option.isSome_none, h1]
  | true =>
    obtain ⟨q1, q2, q3, _, _⟩ := verOk_num ho
    have a := itoa_len v.maj q1.1 q1.2
    have b := itoa_len v.min q2.1 q2.2
    have c := itoa_len v.pat q3.1 q3.2
    have d1 := c_decR v.maj q1.1 q1.2
    have d2 := c_decR v.min q2.1 q2.2
    have d3 := c_decR v.pat q3.1 q3.2
    have hc := core_len ho
    have h2 := l_vtR v hs (coreV v) (by omega) v.pre [] rfl
    rw [ho] at h1
    rw [show tailV (coreV v) [] = coreV v from rfl] at h2
    simp only [List.length_nil, Int.natCast_zero] at h2
    simp only [cond_true]
    generalize tailV (coreV v) v.pre = tt at *
    unfold coreV at h2
    simp only [Ver.enc, List.map_cons, List.map_nil] at h1 h2 ⊢
    apply eq_call
    refine call_eq rfl Tryz.func242 rfl (by kernel_rfl) ?_
    unfold Tryz.f242
    simp (disch := ((try simp only [List.length_cons, List.length_append, List.length_nil, List.length_map]); omega)) only [↓GO, ↓DRW, GA, ren, renB, footX, refs, cellsV, cst, cstAt, nilC, idxAddr, E.load, E.store, binO, isC, bin, ibin, sbin, una, isShift, okCell, packV, lenV, blt, fnV, asArg, snapV, snapS, snapP, snapC, flatV, flatT, openK, layBack, allT, allZ, mkS, srcOf0, unN, idxV, nilEq, give, tupV, mkEnv, extV, pickV, LVS, OVS, LTS, TYS, PMS, pmT, Int.reduceToNat, Nat.reduceGT, ↓reduceIte, Nat.reduceAdd, Nat.reduceMul, Nat.reduceSub, Nat.reduceEqDiff, Nat.reduceLeDiff, Nat.reduceLT, Nat.reduceBEq, Int.reduceBEq, Int.reduceBNe, Int.reduceEq, Int.reduceLT, Int.reduceLE, Int.reduceGT, Int.reduceNeg, reduceCtorEq, Int.cast_ofNat_Int, getE_zero, getE_one, getE_two, Option.isSome_none, h1, d1, d2, d3, h2, le_T, rch3]
theorem mkVer_none {s : Str} (h : (cutS 46 (cut1 45 s).1).length ≠ 3) : mkVer s = none := by
  unfold mkVer
  split
  · rename_i a b c he; rw [he] at h; exact absurd rfl h
  · rfl
theorem mkVer_sm {s : Str} {v : Ver} (h : mkVer s = some v) (hl : s.length ≤ 1048700) : v.sm ∧ v.maj ≤ 999999999 ∧ -1 ≤ v.maj ∧ v.min ≤ 999999999 ∧ -1 ≤ v.min ∧ v.pat ≤ 999999999 ∧ -1 ≤ v.pat := by
  unfold mkVer at h
  split at h
  · rename_i a b c he
    cases h
    have h1 := readDec_rng a
    have h2 := readDec_rng b
    have h3 := readDec_rng c
    refine ⟨?_, h1.2, h1.1, h2.2, h2.1, h3.2, h3.1⟩
    have := bulk_cutS 46 (cut1 45 s).2.1
    have h5 := (cut1_len 45 s).2
    unfold Ver.sm
    cases (cut1 45 s).2.2 with
    | true => simp only [cond_true]; omega
    | false => simp [bulkS]
  · cases h
theorem readVer_sm (s : Str) (hl : s.length ≤ 1048700) : (readVer s).1.sm ∧ (readVer s).1.maj ≤ 999999999 ∧ -1 ≤ (readVer s).1.maj ∧ (readVer s).1.min ≤ 999999999 ∧ -1 ≤ (readVer s).1.min ∧ (readVer s).1.pat ≤ 999999999 ∧ -1 ≤ (readVer s).1.pat := by
  unfold readVer
  cases hm : mkVer s with
  | none => simp [Ver.zero, Ver.sm, bulkS]
  | some v =>
    have := mkVer_sm hm hl
    simp only
    cases (verText v == s) with
    | true => exact this
    | false => simp [Ver.zero, Ver.sm, bulkS]
def rvT (s : Str) : V := .tup [.agg ((readVer s).1.enc.map .t), .t (.bool (readVer s).2)]
theorem c_rvI (s : Str) (hl : s.length ≤ 1048700) : callPure (EV Tryz.prog pol) 248 [.t (.str s)] = some (rvT s) := by
  have h1 := c_cut s [45] (by omega)
  rw [cut_cut1] at h1
  have hl1 := cut1_len 45 s
  have h2 := c_split (cut1 45 s).1 [46] (by omega) (by simp)
  have h3 := c_split (cut1 45 s).2.1 [46] (by omega) (by simp)
  rw [splitS_cut] at h2 h3
  unfold rvT readVer
  by_cases hn : (cutS 46 (cut1 45 s).1).length = 3
  · obtain ⟨a, b, c, hp⟩ : ∃ a b c, cutS 46 (cut1 45 s).1 = [a, b, c] := by
      match hq : cutS 46 (cut1 45 s).1, hn with
      | [a, b, c], _ => exact ⟨a, b, c, rfl⟩
    have hm : mkVer s = some ⟨readDec a, readDec b, readDec c, cond (cut1 45 s).2.2 (cutS 46 (cut1 45 s).2.1) []⟩ := by unfold mkVer; rw [hp]
    have hne := mkVer_ne hm
    have hsm := (mkVer_sm hm hl).1
    have hbk := bulk_cutS 46 (cut1 45 s).1
    rw [hp] at h2 hbk
    simp only [bulkS] at hbk
    have d1 := c_rdI a (by omega)
    have d2 := c_rdI b (by omega)
    have d3 := c_rdI c (by omega)
    have hv := c_vtextI _ hsm
    rw [hm]
    have hs0 : (s == []) = false := by rw [beq_eq_false_iff_ne]; exact hne
    simp only [Ver.enc, List.map_cons, List.map_nil, strs_cons, strs_nil] at hv h2 ⊢
    generalize readDec a = ra at *
    generalize readDec b = rb at *
    generalize readDec c = rc at *
    cases hh : (cut1 45 s).2.2 <;> rw [hh] at h1 hv <;> simp only [cond_true, cond_false, strs_nil] at hv ⊢
    · generalize verText ⟨ra, rb, rc, []⟩ = tt at *
      clear hm hsm
      cases he : (tt == s)
      · apply eq_call
        refine call_eq rfl Tryz.func248 rfl (by kernel_rfl) ?_
        unfold Tryz.f248
        simp (disch := ((try simp only [List.length_cons, List.length_append, List.length_nil, List.length_map]); omega)) only [↓GO, ↓DRW, GA, ren, renB, footX, refs, cellsV, cst, cstAt, nilC, idxAddr, E.load, E.store, binO, isC, bin, ibin, sbin, una, isShift, okCell, packV, lenV, blt, fnV, asArg, snapV, snapS, snapP, snapC, flatV, flatT, openK, layBack, allT, allZ, mkS, srcOf0, unN, idxV, nilEq, give, tupV, mkEnv, extV, pickV, LVS, OVS, LTS, TYS, PMS, pmT, Int.reduceToNat, Nat.reduceGT, ↓reduceIte, Nat.reduceAdd, Nat.reduceMul, Nat.reduceSub, Nat.reduceEqDiff, Nat.reduceLeDiff, Nat.reduceLT, Nat.reduceBEq, Int.reduceBEq, Int.reduceBNe, Int.reduceEq, Int.reduceLT, Int.reduceLE, Int.reduceGT, Int.reduceNeg, reduceCtorEq, Int.cast_ofNat_Int, getE_zero, getE_one, getE_two, Option.isSome_none, h1, h2, d1, d2, d3, hv, he, bne, hs0, Ver.zero, strs_nil]
        refine dyn_pos (by kernel_rfl) ?_
        simp (disch := ((try simp only [List.length_cons, List.length_append, List.length_nil, List.length_map]); omega)) only [↓GO, ↓DRW, GA, ren, renB, footX, refs, cellsV, cst, cstAt, nilC, idxAddr, E.load, E.store, binO, isC, bin, ibin, sbin, una, isShift, okCell, packV, lenV, blt, fnV, asArg, snapV, snapS, snapP, snapC, flatV, flatT, openK, layBack, allT, allZ, mkS, srcOf0, unN, idxV, nilEq, give, tupV, mkEnv, extV, pickV, LVS, OVS, LTS, TYS, PMS, pmT, Int.reduceToNat, Nat.reduceGT, ↓reduceIte, Nat.reduceAdd, Nat.reduceMul, Nat.reduceSub, Nat.reduceEqDiff, Nat.reduceLeDiff, Nat.reduceLT, Nat.reduceBEq, Int.reduceBEq, Int.reduceBNe, Int.reduceEq, Int.reduceLT, Int.reduceLE, Int.reduceGT, Int.reduceNeg, reduceCtorEq, Int.cast_ofNat_Int, getE_zero, getE_one, getE_two, Option.isSome_none, h1, h2, d1, d2, d3, hv, he, bne, hs0, Ver.zero, strs_nil]
      · apply eq_call
        refine call_eq rfl Tryz.func248 rfl (by kernel_rfl) ?_
        unfold Tryz.f248
        simp (disch := ((try simp only [List.length_cons, List.length_append, List.length_nil, List.length_map]); omega)) only [↓GO, ↓DRW, GA, ren, renB, footX, refs, cellsV, cst, cstAt, nilC, idxAddr, E.load, E.store, binO, isC, bin, ibin, sbin, una, isShift, okCell, packV, lenV, blt, fnV, asArg, snapV, snapS, snapP, snapC, flatV, flatT, openK, layBack, allT, allZ, mkS, srcOf0, unN, idxV, nilEq, give, tupV, mkEnv, extV, pickV, LVS, OVS, LTS, TYS, PMS, pmT, Int.reduceToNat, Nat.reduceGT, ↓reduceIte, Nat.reduceAdd, Nat.reduceMul, Nat.reduceSub, Nat.reduceEqDiff, Nat.reduceLeDiff, Nat.reduceLT, Nat.reduceBEq, Int.reduceBEq, Int.reduceBNe, Int.reduceEq, Int.reduceLT, Int.reduceLE, Int.reduceGT, Int.reduceNeg, reduceCtorEq, Int.cast_ofNat_Int, getE_zero, getE_one, getE_two, Option.isSome_none, h1, h2, d1, d2, d3, hv, he, bne, hs0, strs_nil]
        refine dyn_pos (by kernel_rfl) ?_
        simp (disch := ((try simp only [List.length_cons, List.length_append, List.length_nil, List.length_map]); omega)) only [↓GO, ↓DRW, GA, ren, renB, footX, refs, cellsV, cst, cstAt, nilC, idxAddr, E.load, E.store, binO, isC, bin, ibin, sbin, una, isShift, okCell, packV, lenV, blt, fnV, asArg, snapV, snapS, snapP, snapC, flatV, flatT, openK, layBack, allT, allZ, mkS, srcOf0, unN, idxV, nilEq, give, tupV, mkEnv, extV, pickV, LVS, OVS, LTS, TYS, PMS, pmT, Int.reduceToNat, Nat.reduceGT, ↓reduceIte, Nat.reduceAdd, Nat.reduceMul, Nat.reduceSub, Nat.reduceEqDiff, Nat.reduceLeDiff, Nat.reduceLT, Nat.reduceBEq, Int.reduceBEq, Int.reduceBNe, Int.reduceEq, Int.reduceLT, Int.reduceLE, Int.reduceGT, Int.reduceNeg, reduceCtorEq, Int.cast_ofNat_Int, getE_zero, getE_one, getE_two, Option.isSome_none, h1, h2, d1, d2, d3, hv, he, bne, hs0, strs_nil]
    · generalize verText ⟨ra, rb, rc, cutS 46 (cut1 45 s).2.1⟩ = tt at *
      clear hm hsm
      generalize cutS 46 (cut1 45 s).2.1 = pp at *
      cases he : (tt == s)
      · apply eq_call
        refine call_eq rfl Tryz.func248 rfl (by kernel_rfl) ?_
        unfold Tryz.f248
        simp (disch := ((try simp only [List.length_cons, List.length_append, List.length_nil, List.length_map]); omega)) only [↓GO, ↓DRW, GA, ren, renB, footX, refs, cellsV, cst, cstAt, nilC, idxAddr, E.load, E.store, binO, isC, bin, ibin, sbin, una, isShift, okCell, packV, lenV, blt, fnV, asArg, snapV, snapS, snapP, snapC, flatV, flatT, openK, layBack, allT, allZ, mkS, srcOf0, unN, idxV, nilEq, give, tupV, mkEnv, extV, pickV, LVS, OVS, LTS, TYS, PMS, pmT, Int.reduceToNat, Nat.reduceGT, ↓reduceIte, Nat.reduceAdd, Nat.reduceMul, Nat.reduceSub, Nat.reduceEqDiff, Nat.reduceLeDiff, Nat.reduceLT, Nat.reduceBEq, Int.reduceBEq, Int.reduceBNe, Int.reduceEq, Int.reduceLT, Int.reduceLE, Int.reduceGT, Int.reduceNeg, reduceCtorEq, Int.cast_ofNat_Int, getE_zero, getE_one, getE_two, Option.isSome_none, h1, h2, h3, d1, d2, d3, hv, he, bne, hs0, Ver.zero, strs_nil]
        refine dyn_pos (by kernel_rfl) ?_
        simp (disch := ((try simp only [List.length_cons, List.length_append, List.length_nil, List.length_map]); omega)) only [↓GO, ↓DRW, GA, ren, renB, footX, refs, cellsV, cst, cstAt, nilC, idxAddr, E.load, E.store, binO, isC, bin, ibin, sbin, una, isShift, okCell, packV, lenV, blt, fnV, asArg, snapV, snapS, snapP, snapC, flatV, flatT, openK, layBack, allT, allZ, mkS, srcOf0, unN, idxV, nilEq, give, tupV, mkEnv, extV, pickV, LVS, OVS, LTS, TYS, PMS, pmT, Int.reduceToNat, Nat.reduceGT, ↓reduceIte, Nat.reduceAdd, Nat.reduceMul, Nat.reduceSub, Nat.reduceEqDiff, Nat.reduceLeDiff, Nat.reduceLT, Nat.reduceBEq, Int.reduceBEq, Int.reduceBNe, Int.reduceEq, Int.reduceLT, Int.reduceLE, Int.reduceGT, Int.reduceNeg, reduceCtorEq, Int.cast_ofNat_Int, getE_zero, getE_one, getE_two, Option.isSome_none, h1, h2, h3, d1, d2, d3, hv, he, bne, hs0, Ver.zero, strs_nil]
      · apply eq_call
        refine call_eq rfl Tryz.func248 rfl (by kernel_rfl) ?_
        unfold Tryz.f248
        simp (disch := ((try simp only [List.length_cons, List.length_append, List.length_nil, List.length_map]); omega)) only [↓GO, ↓DRW, GA, ren, renB, footX, refs, cellsV, cst, cstAt, nilC, idxAddr, E.load, E.store, binO, isC, bin, ibin, sbin, una, isShift, okCell, packV, lenV, blt, fnV, asArg, snapV, snapS, snapP, snapC, flatV, flatT, openK, layBack, allT, allZ, mkS, srcOf0, unN, idxV, nilEq, give, tupV, mkEnv, extV, pickV, LVS, OVS, LTS, TYS, PMS, pmT, Int.reduceToNat, Nat.reduceGT, ↓reduceIte, Nat.reduceAdd, Nat.reduceMul, Nat.reduceSub, Nat.reduceEqDiff, Nat.reduceLeDiff, Nat.reduceLT, Nat.reduceBEq, Int.reduceBEq, Int.reduceBNe, Int.reduceEq, Int.reduceLT, Int.reduceLE, Int.reduceGT, Int.reduceNeg, reduceCtorEq, Int.cast_ofNat_Int, getE_zero, getE_one, getE_two, Option.isSome_none, h1, h2, h3, d1, d2, d3, hv, he, bne, hs0, strs_nil]
        refine dyn_pos (by kernel_rfl) ?_
        simp (disch := ((try simp only [List.length_cons, List.length_append, List.length_nil, List.length_map]); omega)) only [↓GO, ↓DRW, GA, ren, renB, footX, refs, cellsV, cst, cstAt, nilC, idxAddr, E.load, E.store, binO, isC, bin, ibin, sbin, una, isShift, okCell, packV, lenV, blt, fnV, asArg, snapV, snapS, snapP, snapC, flatV, flatT, openK, layBack, allT, allZ, mkS, srcOf0, unN, idxV, nilEq, give, tupV, mkEnv, extV, pickV, LVS, OVS, LTS, TYS, PMS, pmT, Int.reduceToNat, Nat.reduceGT, ↓reduceIte, Nat.reduceAdd, Nat.reduceMul, Nat.reduceSub, Nat.reduceEqDiff, Nat.reduceLeDiff, Nat.reduceLT, Nat.reduceBEq, Int.reduceBEq, Int.reduceBNe, Int.reduceEq, Int.reduceLT, Int.reduceLE, Int.reduceGT, Int.reduceNeg, reduceCtorEq, Int.cast_ofNat_Int, getE_zero, getE_one, getE_two, Option.isSome_none, h1, h2, h3, d1, d2, d3, hv, he, bne, hs0, strs_nil]
  · have hm := mkVer_none hn
    rw [hm]
    have hc : (((cutS 46 (cut1 45 s).1).length : Int) == 3) = false := by rw [beq_eq_false_iff_ne]; omega
    generalize cutS 46 (cut1 45 s).1 = parts at *
    apply eq_call
    refine call_eq rfl Tryz.func248 rfl (by kernel_rfl) ?_
    unfold Tryz.f248
    simp (disch := ((try simp only [List.length_cons, List.length_append, List.length_nil, List.length_map]); omega)) only [↓GO, ↓DRW, GA, ren, renB, footX, refs, cellsV, cst, cstAt, nilC, idxAddr, E.load, E.store, binO, isC, bin, ibin, sbin, una, isShift, okCell, packV, lenV, blt, fnV, asArg, snapV, snapS, snapP, snapC, flatV, flatT, openK, layBack, allT, allZ, mkS, srcOf0, unN, idxV, nilEq, give, tupV, mkEnv, extV, pickV, LVS, OVS, LTS, TYS, PMS, pmT, Int.reduceToNat, Nat.reduceGT, ↓reduceIte, Nat.reduceAdd, Nat.reduceMul, Nat.reduceSub, Nat.reduceEqDiff, Nat.reduceLeDiff, Nat.reduceLT, Nat.reduceBEq, Int.reduceBEq, Int.reduceBNe, Int.reduceEq, Int.reduceLT, Int.reduceLE, Int.reduceGT, Int.reduceNeg, reduceCtorEq, Int.cast_ofNat_Int, getE_zero, getE_one, getE_two, Option.isSome_none, h1, h2, hc, bne, strs_len, Ver.zero, Ver.enc, strs_nil]
theorem l_at (s : Str) (b : UInt8) (hl : s.length ≤ 4194304) : ∀ (rest pre : Str), s = pre ++ rest →
    EV Tryz.prog pol (.loop 240 26 0 [.t (.str s), .t (.int .u8 (b.toNat : Int)), .t (.int .i64 (pre.length : Int))] []) = some (cond (cut1 b rest).2.2 (.loop .ret [.t (.int .i64 ((pre.length : Int) + ((cut1 b rest).1.length : Int)))] []) (.loop (.exit 0) [.bad] []))
  | [], pre, hs => by
    have c : decide ((pre.length : Int) < (s.length : Int)) = false := by simp [hs]
    refine loop_eq Tryz.func240 rfl rfl ?_
    simp only [↓GO, ↓DRW, GA, ren, renB, footX, refs, cellsV, cst, cstAt, nilC, idxAddr, E.load, E.store, binO, isC, bin, ibin, sbin, una, isShift, okCell, packV, lenV, blt, fnV, asArg, snapV, snapS, snapP, snapC, flatV, flatT, openK, layBack, allT, allZ, mkS, srcOf0, unN, idxV, nilEq, give, tupV, mkEnv, extV, pickV, LVS, OVS, LTS, TYS, PMS, pmT, Int.reduceToNat, Nat.reduceGT, ↓reduceIte, Nat.reduceAdd, Nat.reduceMul, Nat.reduceSub, Nat.reduceEqDiff, Nat.reduceLeDiff, Nat.reduceLT, Nat.reduceBEq, Int.reduceBEq, Int.reduceBNe, Int.reduceEq, Int.reduceLT, Int.reduceLE, Int.reduceGT, Int.reduceNeg, reduceCtorEq, c, cut1]
  | x :: rest, pre, hs => by
    have c : decide ((pre.length : Int) < (s.length : Int)) = true := by simp [hs]; omega
    have hget : s[pre.length]? = some x := by rw [hs]; exact at_zip pre x rest
    have hlen : s.length = pre.length + rest.length + 1 := by rw [hs]; simp; omega
    have IH := l_at s b hl rest (pre ++ [x]) (by rw [hs]; simp)
    rw [show ((pre ++ [x]).length : Int) = (pre.length : Int) + 1 by simp] at IH
    rw [cut1]
    clear hs
    by_cases hx : x = b
    · subst hx
      rw [if_pos rfl]
      refine loop_eq Tryz.func240 rfl rfl ?_
      simp (disch := ((try simp only [List.length_cons, List.length_append, List.length_nil, List.length_map]); omega)) only [↓GO, ↓DRW, GA, ren, renB, footX, refs, cellsV, cst, cstAt, nilC, idxAddr, E.load, E.store, binO, isC, bin, ibin, sbin, una, isShift, okCell, packV, lenV, blt, fnV, asArg, snapV, snapS, snapP, snapC, flatV, flatT, openK, layBack, allT, allZ, mkS, srcOf0, unN, idxV, nilEq, give, tupV, mkEnv, extV, pickV, LVS, OVS, LTS, TYS, PMS, pmT, Int.reduceToNat, Nat.reduceGT, ↓reduceIte, Nat.reduceAdd, Nat.reduceMul, Nat.reduceSub, Nat.reduceEqDiff, Nat.reduceLeDiff, Nat.reduceLT, Nat.reduceBEq, Int.reduceBEq, Int.reduceBNe, Int.reduceEq, Int.reduceLT, Int.reduceLE, Int.reduceGT, Int.reduceNeg, reduceCtorEq, Int.cast_ofNat_Int, getE_zero, getE_one, getE_two, Option.isSome_none, c, hget, wrap_in, Int.natCast_zero, Int.add_zero]
    · have c2 : ((x.toNat : Int) == (b.toNat : Int)) = false := by
        rw [beq_eq_false_iff_ne]; intro e; exact hx (UInt8.toNat_inj.1 (by omega))
      rw [if_neg hx]
      rw [show (((x :: (cut1 b rest).1).length : Nat) : Int) = ((cut1 b rest).1.length : Int) + 1 by simp, show (pre.length : Int) + (((cut1 b rest).1.length : Int) + 1) = (pre.length : Int) + 1 + ((cut1 b rest).1.length : Int) by omega]
      refine loop_eq Tryz.func240 rfl rfl ?_
      simp (disch := ((try simp only [List.length_cons, List.length_append, List.length_nil, List.length_map]); omega)) only [↓GO, ↓DRW, GA, ren, renB, footX, refs, cellsV, cst, cstAt, nilC, idxAddr, E.load, E.store, binO, isC, bin, ibin, sbin, una, isShift, okCell, packV, lenV, blt, fnV, asArg, snapV, snapS, snapP, snapC, flatV, flatT, openK, layBack, allT, allZ, mkS, srcOf0, unN, idxV, nilEq, give, tupV, mkEnv, extV, pickV, LVS, OVS, LTS, TYS, PMS, pmT, Int.reduceToNat, Nat.reduceGT, ↓reduceIte, Nat.reduceAdd, Nat.reduceMul, Nat.reduceSub, Nat.reduceEqDiff, Nat.reduceLeDiff, Nat.reduceLT, Nat.reduceBEq, Int.reduceBEq, Int.reduceBNe, Int.reduceEq, Int.reduceLT, Int.reduceLE, Int.reduceGT, Int.reduceNeg, reduceCtorEq, Int.cast_ofNat_Int, getE_zero, getE_one, getE_two, Option.isSome_none, c, hget, wrap_in, c2, IH]
def atV (b : UInt8) (s : Str) : Int := cond (cut1 b s).2.2 ((cut1 b s).1.length : Int) (-1)
theorem c_at (s : Str) (b : UInt8) (hl : s.length ≤ 4194304) : callPure (EV Tryz.prog pol) 240 [.t (.str s), .t (.int .u8 (b.toNat : Int))] = some (.t (.int .i64 (atV b s))) := by
  have IH := l_at s b hl s [] rfl
  simp only [List.length_nil, Int.natCast_zero, Int.zero_add] at IH
  unfold atV
  apply eq_call
  refine call_eq rfl Tryz.func240 rfl (by kernel_rfl) ?_
  unfold Tryz.f240
  cases h : (cut1 b s).2.2 <;> rw [h] at IH <;> simp only [cond_true, cond_false] at IH <;> simp (disch := ((try simp only [List.length_cons, List.length_append, List.length_nil, List.length_map]); omega)) only [↓GO, ↓DRW, GA, ren, renB, footX, refs, cellsV, cst, cstAt, nilC, idxAddr, E.load, E.store, binO, isC, bin, ibin, sbin, una, isShift, okCell, packV, lenV, blt, fnV, asArg, snapV, snapS, snapP, snapC, flatV, flatT, openK, layBack, allT, allZ, mkS, srcOf0, unN, idxV, nilEq, give, tupV, mkEnv, extV, pickV, LVS, OVS, LTS, TYS, PMS, pmT, Int.reduceToNat, Nat.reduceGT, ↓reduceIte, Nat.reduceAdd, Nat.reduceMul, Nat.reduceSub, Nat.reduceEqDiff, Nat.reduceLeDiff, Nat.reduceLT, Nat.reduceBEq, Int.reduceBEq, Int.reduceBNe, Int.reduceEq, Int.reduceLT, Int.reduceLE, Int.reduceGT, Int.reduceNeg, reduceCtorEq, Int.cast_ofNat_Int, getE_zero, getE_one, getE_two, Option.isSome_none, IH]
theorem c_rvR (s : Str) (hl : s.length ≤ 1048700) : callPure (EV Tryz.prog pol) 160 [.t (.str s)] = some (rvT s) := by
  have h1 := c_at s 45 (by omega)
  rw [show (((45 : UInt8)).toNat : Int) = 45 from rfl] at h1
  have hl1 := cut1_len 45 s
  have h2 := c_cutR (cut1 45 s).1 46 (by omega)
  have h3 := c_cutR (cut1 45 s).2.1 46 (by omega)
  rw [show (((46 : UInt8)).toNat : Int) = 46 from rfl] at h2 h3
  have hce := cut1_eq 45 s
  unfold rvT readVer
  unfold atV at h1
  have hA : (cut1 45 s).2.2 = false → (cut1 45 s).1 = s := fun h => by rw [h, cond_false, List.append_nil] at hce; exact hce.symm
  have hB : (cut1 45 s).2.2 = true → s.take (cut1 45 s).1.length = (cut1 45 s).1 ∧ s.drop ((cut1 45 s).1.length + 1) = (cut1 45 s).2.1 ∧ (cut1 45 s).1.length + 1 ≤ s.length := fun h => by
    rw [h, cond_true] at hce
    have e1 : s.take (cut1 45 s).1.length = (cut1 45 s).1 := by
      conv => lhs; arg 2; rw [hce]
      exact List.take_left
    have e2 : s.drop ((cut1 45 s).1.length + 1) = (cut1 45 s).2.1 := by
      conv => lhs; arg 2; rw [hce]
      rw [← List.drop_drop, List.drop_left]; rfl
    refine ⟨e1, e2, ?_⟩
    have := congrArg List.length hce
    rw [List.length_append, List.length_cons] at this
    omega
  clear hce
  by_cases hn : (cutS 46 (cut1 45 s).1).length = 3
  · obtain ⟨a, b, c, hp⟩ : ∃ a b c, cutS 46 (cut1 45 s).1 = [a, b, c] := by
      match hq : cutS 46 (cut1 45 s).1, hn with
      | [a, b, c], _ => exact ⟨a, b, c, rfl⟩
    have hm : mkVer s = some ⟨readDec a, readDec b, readDec c, cond (cut1 45 s).2.2 (cutS 46 (cut1 45 s).2.1) []⟩ := by unfold mkVer; rw [hp]
    have hsm := (mkVer_sm hm hl).1
    have hbk := bulk_cutS 46 (cut1 45 s).1
    rw [hp] at h2 hbk
    simp only [bulkS] at hbk
    have d1 := c_rdR a (by omega)
    have d2 := c_rdR b (by omega)
    have d3 := c_rdR c (by omega)
    have hv := c_vtextR _ hsm
    rw [hm]
    simp only [Ver.enc, List.map_cons, List.map_nil, strs_cons, strs_nil] at hv h2 ⊢
    generalize readDec a = ra at *
    generalize readDec b = rb at *
    generalize readDec c = rc at *
    cases hh : (cut1 45 s).2.2 <;> rw [hh] at h1 hv <;> simp only [cond_true, cond_false, strs_nil] at hv h1 ⊢
    · have hA' := hA hh
      rw [hA'] at h2
      generalize verText ⟨ra, rb, rc, []⟩ = tt at *
      clear hm hsm hA hB hp
      cases he : (tt == s)
      · apply eq_call
        refine call_eq rfl Tryz.func160 rfl (by kernel_rfl) ?_
        unfold Tryz.f160
        simp (disch := ((try simp only [List.length_cons, List.length_append, List.length_nil, List.length_map]); omega)) only [↓GO, ↓DRW, GA, ren, renB, footX, refs, cellsV, cst, cstAt, nilC, idxAddr, E.load, E.store, binO, isC, bin, ibin, sbin, una, isShift, okCell, packV, lenV, blt, fnV, asArg, snapV, snapS, snapP, snapC, flatV, flatT, openK, layBack, allT, allZ, mkS, srcOf0, unN, idxV, nilEq, give, tupV, mkEnv, extV, pickV, LVS, OVS, LTS, TYS, PMS, pmT, Int.reduceToNat, Nat.reduceGT, ↓reduceIte, Nat.reduceAdd, Nat.reduceMul, Nat.reduceSub, Nat.reduceEqDiff, Nat.reduceLeDiff, Nat.reduceLT, Nat.reduceBEq, Int.reduceBEq, Int.reduceBNe, Int.reduceEq, Int.reduceLT, Int.reduceLE, Int.reduceGT, Int.reduceNeg, reduceCtorEq, Int.cast_ofNat_Int, getE_zero, getE_one, getE_two, Option.isSome_none, h1, h2, d1, d2, d3, hv, he, bne, ge_iff_le, Ver.zero, strs_nil]
      · apply eq_call
        refine call_eq rfl Tryz.func160 rfl (by kernel_rfl) ?_
        unfold Tryz.f160
        simp (disch := ((try simp only [List.length_cons, List.length_append, List.length_nil, List.length_map]); omega)) only [↓GO, ↓DRW, GA, ren, renB, footX, refs, cellsV, cst, cstAt, nilC, idxAddr, E.load, E.store, binO, isC, bin, ibin, sbin, una, isShift, okCell, packV, lenV, blt, fnV, asArg, snapV, snapS, snapP, snapC, flatV, flatT, openK, layBack, allT, allZ, mkS, srcOf0, unN, idxV, nilEq, give, tupV, mkEnv, extV, pickV, LVS, OVS, LTS, TYS, PMS, pmT, Int.reduceToNat, Nat.reduceGT, ↓reduceIte, Nat.reduceAdd, Nat.reduceMul, Nat.reduceSub, Nat.reduceEqDiff, Nat.reduceLeDiff, Nat.reduceLT, Nat.reduceBEq, Int.reduceBEq, Int.reduceBNe, Int.reduceEq, Int.reduceLT, Int.reduceLE, Int.reduceGT, Int.reduceNeg, reduceCtorEq, Int.cast_ofNat_Int, getE_zero, getE_one, getE_two, Option.isSome_none, h1, h2, d1, d2, d3, hv, he, bne, ge_iff_le, strs_nil]
    · obtain ⟨b1, b2, b3⟩ := hB hh
      generalize verText ⟨ra, rb, rc, cutS 46 (cut1 45 s).2.1⟩ = tt at *
      clear hm hsm hA hB hp
      generalize cutS 46 (cut1 45 s).2.1 = pp at *
      have g0 : decide ((0 : Int) ≤ ((cut1 45 s).1.length : Int)) = true := by simp
      generalize (cut1 45 s).2.1 = tl at *
      generalize (cut1 45 s).1 = hd at *
      cases he : (tt == s)
      · apply eq_call
        refine call_eq rfl Tryz.func160 rfl (by kernel_rfl) ?_
        unfold Tryz.f160
        simp (disch := ((try simp only [List.length_cons, List.length_append, List.length_nil, List.length_map]); omega)) only [↓GO, ↓DRW, GA, ren, renB, footX, refs, cellsV, cst, cstAt, nilC, idxAddr, E.load, E.store, binO, isC, bin, ibin, sbin, una, isShift, okCell, packV, lenV, blt, fnV, asArg, snapV, snapS, snapP, snapC, flatV, flatT, openK, layBack, allT, allZ, mkS, srcOf0, unN, idxV, nilEq, give, tupV, mkEnv, extV, pickV, LVS, OVS, LTS, TYS, PMS, pmT, Int.reduceToNat, Nat.reduceGT, ↓reduceIte, Nat.reduceAdd, Nat.reduceMul, Nat.reduceSub, Nat.reduceEqDiff, Nat.reduceLeDiff, Nat.reduceLT, Nat.reduceBEq, Int.reduceBEq, Int.reduceBNe, Int.reduceEq, Int.reduceLT, Int.reduceLE, Int.reduceGT, Int.reduceNeg, reduceCtorEq, Int.cast_ofNat_Int, getE_zero, getE_one, getE_two, Option.isSome_none, h1, h2, h3, d1, d2, d3, hv, he, bne, ge_iff_le, g0, b1, b2, wrap_in, Ver.zero, strs_nil]
      · apply eq_call
        refine call_eq rfl Tryz.func160 rfl (by kernel_rfl) ?_
        unfold Tryz.f160
        simp (disch := ((try simp only [List.length_cons, List.length_append, List.length_nil, List.length_map]); omega)) only [↓GO, ↓DRW, GA, ren, renB, footX, refs, cellsV, cst, cstAt, nilC, idxAddr, E.load, E.store, binO, isC, bin, ibin, sbin, una, isShift, okCell, packV, lenV, blt, fnV, asArg, snapV, snapS, snapP, snapC, flatV, flatT, openK, layBack, allT, allZ, mkS, srcOf0, unN, idxV, nilEq, give, tupV, mkEnv, extV, pickV, LVS, OVS, LTS, TYS, PMS, pmT, Int.reduceToNat, Nat.reduceGT, ↓reduceIte, Nat.reduceAdd, Nat.reduceMul, Nat.reduceSub, Nat.reduceEqDiff, Nat.reduceLeDiff, Nat.reduceLT, Nat.reduceBEq, Int.reduceBEq, Int.reduceBNe, Int.reduceEq, Int.reduceLT, Int.reduceLE, Int.reduceGT, Int.reduceNeg, reduceCtorEq, Int.cast_ofNat_Int, getE_zero, getE_one, getE_two, Option.isSome_none, h1, h2, h3, d1, d2, d3, hv, he, bne, ge_iff_le, g0, b1, b2, wrap_in]
  · have hm := mkVer_none hn
    rw [hm]
    have hc : (((cutS 46 (cut1 45 s).1).length : Int) == 3) = false := by rw [beq_eq_false_iff_ne]; omega
    cases hh : (cut1 45 s).2.2 <;> rw [hh] at h1 <;> simp only [cond_true, cond_false] at h1
    · have hA' := hA hh
      rw [hA'] at h2 hc
      generalize cutS 46 s = parts at *
      apply eq_call
      refine call_eq rfl Tryz.func160 rfl (by kernel_rfl) ?_
      unfold Tryz.f160
      simp (disch := ((try simp only [List.length_cons, List.length_append, List.length_nil, List.length_map]); omega)) only [↓GO, ↓DRW, GA, ren, renB, footX, refs, cellsV, cst, cstAt, nilC, idxAddr, E.load, E.store, binO, isC, bin, ibin, sbin, una, isShift, okCell, packV, lenV, blt, fnV, asArg, snapV, snapS, snapP, snapC, flatV, flatT, openK, layBack, allT, allZ, mkS, srcOf0, unN, idxV, nilEq, give, tupV, mkEnv, extV, pickV, LVS, OVS, LTS, TYS, PMS, pmT, Int.reduceToNat, Nat.reduceGT, ↓reduceIte, Nat.reduceAdd, Nat.reduceMul, Nat.reduceSub, Nat.reduceEqDiff, Nat.reduceLeDiff, Nat.reduceLT, Nat.reduceBEq, Int.reduceBEq, Int.reduceBNe, Int.reduceEq, Int.reduceLT, Int.reduceLE, Int.reduceGT, Int.reduceNeg, reduceCtorEq, Int.cast_ofNat_Int, getE_zero, getE_one, getE_two, Option.isSome_none, h1, h2, hc, bne, ge_iff_le, strs_len, Ver.zero, Ver.enc, strs_nil]
    · obtain ⟨b1, b2, b3⟩ := hB hh
      have g0 : decide ((0 : Int) ≤ ((cut1 45 s).1.length : Int)) = true := by simp
      generalize cutS 46 (cut1 45 s).1 = parts at *
      generalize cutS 46 (cut1 45 s).2.1 = pp at *
      generalize (cut1 45 s).2.1 = tl at *
      generalize (cut1 45 s).1 = hd at *
      apply eq_call
      refine call_eq rfl Tryz.func160 rfl (by kernel_rfl) ?_
      unfold Tryz.f160
      simp (disch := ((try simp only [List.length_cons, List.length_append, List.length_nil, List.length_map]); omega)) only [↓GO, ↓DRW, GA, ren, renB, footX, refs, cellsV, cst, cstAt, nilC, idxAddr, E.load, E.store, binO, isC, bin, ibin, sbin, una, isShift, okCell, packV, lenV, blt, fnV, asArg, snapV, snapS, snapP, snapC, flatV, flatT, openK, layBack, allT, allZ, mkS, srcOf0, unN, idxV, nilEq, give, tupV, mkEnv, extV, pickV, LVS, OVS, LTS, TYS, PMS, pmT, Int.reduceToNat, Nat.reduceGT, ↓reduceIte, Nat.reduceAdd, Nat.reduceMul, Nat.reduceSub, Nat.reduceEqDiff, Nat.reduceLeDiff, Nat.reduceLT, Nat.reduceBEq, Int.reduceBEq, Int.reduceBNe, Int.reduceEq, Int.reduceLT, Int.reduceLE, Int.reduceGT, Int.reduceNeg, reduceCtorEq, Int.cast_ofNat_Int, getE_zero, getE_one, getE_two, Option.isSome_none, h1, h2, h3, hc, bne, ge_iff_le, g0, b1, b2, wrap_in, strs_len, Ver.zero, Ver.enc, strs_nil]
end Go.Proofs.YtkpmachalipmpaaGreatDoor
/- The range of a version alone, by both. Conditions: those of each lemma. -/
namespace Go.Proofs.YtkpmachalipmpaaGreatDoor
open E
set_option linter.unusedSimpArgs false
set_option linter.unusedVariables false
set_option maxRecDepth 100000
theorem sm_zero (a b c : Int) : Ver.sm ⟨a, b, c, [[48]]⟩ := by simp [Ver.sm, bulkS]
theorem text_len {v : Ver} (hs : v.sm) : (verText v).length ≤ 2097252 := by
  unfold verText
  cases ho : verOk v with
  | false => simp
  | true =>
    have h1 := core_len ho
    have h2 := tailV_len (coreV v) v.pre
    unfold Ver.sm at hs
    simp only [cond_true]; omega
theorem c_zpI (a b c : Int) : callPure (EV Tryz.prog pol) 261 [.t (.int .i64 a), .t (.int .i64 b), .t (.int .i64 c)] = some (.t (.str (zeroPre a b c))) := by
  have h := c_vtextI ⟨a, b, c, [[48]]⟩ (sm_zero a b c)
  simp only [Ver.enc, List.map_cons, List.map_nil, strs_cons, strs_nil] at h
  unfold zeroPre
  apply eq_call
  refine call_eq rfl Tryz.func261 rfl (by kernel_rfl) ?_
  unfold Tryz.f261
  simp (disch := ((try simp only [List.length_cons, List.length_append, List.length_nil, List.length_map]); omega)) only [↓GO, ↓DRW, GA, ren, renB, footX, refs, cellsV, cst, cstAt, nilC, idxAddr, E.load, E.store, binO, isC, bin, ibin, sbin, una, isShift, okCell, packV, lenV, blt, fnV, asArg, snapV, snapS, snapP, snapC, flatV, flatT, openK, layBack, allT, allZ, mkS, srcOf0, unN, idxV, nilEq, give, tupV, mkEnv, extV, pickV, LVS, OVS, LTS, TYS, PMS, pmT, Int.reduceToNat, Nat.reduceGT, ↓reduceIte, Nat.reduceAdd, Nat.reduceMul, Nat.reduceSub, Nat.reduceEqDiff, Nat.reduceLeDiff, Nat.reduceLT, Nat.reduceBEq, Int.reduceBEq, Int.reduceBNe, Int.reduceEq, Int.reduceLT, Int.reduceLE, Int.reduceGT, Int.reduceNeg, reduceCtorEq, Int.cast_ofNat_Int, getE_zero, getE_one, getE_two, Option.isSome_none, h]
theorem c_alone (v : Ver) (hs : v.sm) (hp : v.pre.length + bulkS v.pre ≤ 2097150) (h0 : -1 ≤ v.pat) (h1 : v.pat ≤ 999999999) : callPure (EV Tryz.prog pol) 259 [.agg (v.enc.map .t)] = some (.agg [.t (.str (verText v)), .t (.str (highV v))]) := by
  have a1 := c_zpI v.maj v.min (v.pat + 1)
  have a2 := c_vtextI v hs
  have hpv : (preV v).sm := by
    unfold Ver.sm preV
    simp only [List.length_append, List.length_cons, List.length_nil, bulk_app, bulkS]; omega
  have a3 := c_vtextI (preV v) hpv
  unfold Ver.sm at hs
  have a4 := c_cloneS (strs v.pre) (by rw [strs_len]; omega)
  have ht : List.take (v.pre.length + 1) (strs v.pre ++ [[T.str [48]]]) = strs v.pre ++ [[T.str [48]]] := List.take_of_length_le (by simp [strs_len])
  have hg := gt_len v.pre
  unfold highV
  rw [show (preV v).enc = [.int .i64 v.maj, .int .i64 v.min, .int .i64 v.pat, .list 1 (strs v.pre ++ [[.str [48]]])] by unfold Ver.enc preV; rw [strs_app]; rfl] at a3
  simp only [Ver.enc, List.map_cons, List.map_nil] at a2 a3 ⊢
  rw [strs_len] at a4
  generalize verText (preV v) = tp at *
  generalize verText v = tv at *
  generalize zeroPre v.maj v.min (v.pat + 1) = tz at *
  cases hb : (v.pre == []) <;> rw [hb] at hg <;> simp only [Bool.not_true, Bool.not_false] at hg
  · apply eq_call
    refine call_eq rfl Tryz.func259 rfl (by kernel_rfl) ?_
    unfold Tryz.f259
    simp (disch := ((try simp only [List.length_cons, List.length_append, List.length_nil, List.length_map]); omega)) only [↓GO, ↓DRW, GA, ren, renB, footX, refs, cellsV, cst, cstAt, nilC, idxAddr, E.load, E.store, binO, isC, bin, ibin, sbin, una, isShift, okCell, packV, lenV, blt, fnV, asArg, snapV, snapS, snapP, snapC, flatV, flatT, openK, layBack, allT, allZ, mkS, srcOf0, unN, idxV, nilEq, give, tupV, mkEnv, extV, pickV, LVS, OVS, LTS, TYS, PMS, pmT, Int.reduceToNat, Nat.reduceGT, ↓reduceIte, Nat.reduceAdd, Nat.reduceMul, Nat.reduceSub, Nat.reduceEqDiff, Nat.reduceLeDiff, Nat.reduceLT, Nat.reduceBEq, Int.reduceBEq, Int.reduceBNe, Int.reduceEq, Int.reduceLT, Int.reduceLE, Int.reduceGT, Int.reduceNeg, reduceCtorEq, Int.cast_ofNat_Int, getE_zero, getE_one, getE_two, Option.isSome_none, a1, a2, a3, a4, ht, hg, wrap_in, strs_len, le_T, rch3]
  · apply eq_call
    refine call_eq rfl Tryz.func259 rfl (by kernel_rfl) ?_
    unfold Tryz.f259
    simp (disch := ((try simp only [List.length_cons, List.length_append, List.length_nil, List.length_map]); omega)) only [↓GO, ↓DRW, GA, ren, renB, footX, refs, cellsV, cst, cstAt, nilC, idxAddr, E.load, E.store, binO, isC, bin, ibin, sbin, una, isShift, okCell, packV, lenV, blt, fnV, asArg, snapV, snapS, snapP, snapC, flatV, flatT, openK, layBack, allT, allZ, mkS, srcOf0, unN, idxV, nilEq, give, tupV, mkEnv, extV, pickV, LVS, OVS, LTS, TYS, PMS, pmT, Int.reduceToNat, Nat.reduceGT, ↓reduceIte, Nat.reduceAdd, Nat.reduceMul, Nat.reduceSub, Nat.reduceEqDiff, Nat.reduceLeDiff, Nat.reduceLT, Nat.reduceBEq, Int.reduceBEq, Int.reduceBNe, Int.reduceEq, Int.reduceLT, Int.reduceLE, Int.reduceGT, Int.reduceNeg, reduceCtorEq, Int.cast_ofNat_Int, getE_zero, getE_one, getE_two, Option.isSome_none, a1, a2, a3, a4, ht, hg, wrap_in, strs_len, le_T, rch3]
def exT (s : Str) : List (List T) := match exactB s with
  | some (l, h) => [[.str l, .str h]]
  | none => []
theorem readVer_pre (s : Str) (hl : s.length ≤ 1048700) : (readVer s).1.pre.length + bulkS (readVer s).1.pre ≤ 1048701 := by
  unfold readVer
  cases hm : mkVer s with
  | none => simp [Ver.zero, bulkS]
  | some v =>
    have h : v.pre.length + bulkS v.pre ≤ 1048701 := by
      unfold mkVer at hm
      split at hm
      · cases hm
        have := bulk_cutS 46 (cut1 45 s).2.1
        have h5 := (cut1_len 45 s).2
        cases (cut1 45 s).2.2 with
        | true => simp only [cond_true]; omega
        | false => simp [bulkS]
      · cases hm
    simp only
    cases (verText v == s) with
    | true => exact h
    | false => simp [Ver.zero, bulkS]
theorem c_exI (s : Str) (hl : s.length ≤ 1048700) : callPure (EV Tryz.prog pol) 233 [.t (.str s)] = some (.t (.list 2 (exT s))) := by
  have h1 := c_rvI s hl
  obtain ⟨m1, m2, m3, m4, m5, m6, m7⟩ := readVer_sm s hl
  have hp := readVer_pre s hl
  have h2 := c_alone (readVer s).1 m1 (by omega) m7 m6
  unfold exT exactB
  unfold rvT at h1
  cases hk : (readVer s).2 with
  | false =>
    rw [hk] at h1
    generalize (readVer s).1 = v at *
    generalize verText v = tv at *
    generalize highV v = hv at *
    simp only [Ver.enc, List.map_cons, List.map_nil] at h1 h2 ⊢
    apply eq_call
    refine call_eq rfl Tryz.func233 rfl (by kernel_rfl) ?_
    unfold Tryz.f233
    simp (disch := ((try simp only [List.length_cons, List.length_append, List.length_nil, List.length_map]); omega)) only [↓GO, ↓DRW, GA, ren, renB, footX, refs, cellsV, cst, cstAt, nilC, idxAddr, E.load, E.store, binO, isC, bin, ibin, sbin, una, isShift, okCell, packV, lenV, blt, fnV, asArg, snapV, snapS, snapP, snapC, flatV, flatT, openK, layBack, allT, allZ, mkS, srcOf0, unN, idxV, nilEq, give, tupV, mkEnv, extV, pickV, LVS, OVS, LTS, TYS, PMS, pmT, Int.reduceToNat, Nat.reduceGT, ↓reduceIte, Nat.reduceAdd, Nat.reduceMul, Nat.reduceSub, Nat.reduceEqDiff, Nat.reduceLeDiff, Nat.reduceLT, Nat.reduceBEq, Int.reduceBEq, Int.reduceBNe, Int.reduceEq, Int.reduceLT, Int.reduceLE, Int.reduceGT, Int.reduceNeg, reduceCtorEq, Int.cast_ofNat_Int, getE_zero, getE_one, getE_two, Option.isSome_none, h1, h2]
  | true =>
    have ht := (readVer_true hk).2.1
    rw [ht] at h2
    rw [hk] at h1
    generalize (readVer s).1 = v at *
    generalize highV v = hv at *
    simp only [Ver.enc, List.map_cons, List.map_nil] at h1 h2 ⊢
    cases he : (hv == [])
    · apply eq_call
      refine call_eq rfl Tryz.func233 rfl (by kernel_rfl) ?_
      unfold Tryz.f233
      simp (disch := ((try simp only [List.length_cons, List.length_append, List.length_nil, List.length_map]); omega)) only [↓GO, ↓DRW, GA, ren, renB, footX, refs, cellsV, cst, cstAt, nilC, idxAddr, E.load, E.store, binO, isC, bin, ibin, sbin, una, isShift, okCell, packV, lenV, blt, fnV, asArg, snapV, snapS, snapP, snapC, flatV, flatT, openK, layBack, allT, allZ, mkS, srcOf0, unN, idxV, nilEq, give, tupV, mkEnv, extV, pickV, LVS, OVS, LTS, TYS, PMS, pmT, Int.reduceToNat, Nat.reduceGT, ↓reduceIte, Nat.reduceAdd, Nat.reduceMul, Nat.reduceSub, Nat.reduceEqDiff, Nat.reduceLeDiff, Nat.reduceLT, Nat.reduceBEq, Int.reduceBEq, Int.reduceBNe, Int.reduceEq, Int.reduceLT, Int.reduceLE, Int.reduceGT, Int.reduceNeg, reduceCtorEq, Int.cast_ofNat_Int, getE_zero, getE_one, getE_two, Option.isSome_none, h1, h2, he]
    · apply eq_call
      refine call_eq rfl Tryz.func233 rfl (by kernel_rfl) ?_
      unfold Tryz.f233
      simp (disch := ((try simp only [List.length_cons, List.length_append, List.length_nil, List.length_map]); omega)) only [↓GO, ↓DRW, GA, ren, renB, footX, refs, cellsV, cst, cstAt, nilC, idxAddr, E.load, E.store, binO, isC, bin, ibin, sbin, una, isShift, okCell, packV, lenV, blt, fnV, asArg, snapV, snapS, snapP, snapC, flatV, flatT, openK, layBack, allT, allZ, mkS, srcOf0, unN, idxV, nilEq, give, tupV, mkEnv, extV, pickV, LVS, OVS, LTS, TYS, PMS, pmT, Int.reduceToNat, Nat.reduceGT, ↓reduceIte, Nat.reduceAdd, Nat.reduceMul, Nat.reduceSub, Nat.reduceEqDiff, Nat.reduceLeDiff, Nat.reduceLT, Nat.reduceBEq, Int.reduceBEq, Int.reduceBNe, Int.reduceEq, Int.reduceLT, Int.reduceLE, Int.reduceGT, Int.reduceNeg, reduceCtorEq, Int.cast_ofNat_Int, getE_zero, getE_one, getE_two, Option.isSome_none, h1, h2, he]
end Go.Proofs.YtkpmachalipmpaaGreatDoor
/- Versions compared, the next one, the range of one alone, by the reference. Conditions: those of each lemma. -/
namespace Go.Proofs.YtkpmachalipmpaaGreatDoor
open E
set_option linter.unusedSimpArgs false
set_option linter.unusedVariables false
set_option maxRecDepth 100000
theorem c_less (a b : Int) : callPure (EV Tryz.prog pol) 243 [.t (.int .i64 a), .t (.int .i64 b)] = some (.t (.int .i64 (cmpI a b))) := by
  unfold cmpI
  cases h1 : decide (a < b) <;> cases h2 : decide (a > b)
  all_goals
    apply eq_call
    refine call_eq rfl Tryz.func243 rfl (by kernel_rfl) ?_
    unfold Tryz.f243
    simp (disch := ((try simp only [List.length_cons, List.length_append, List.length_nil, List.length_map]); omega)) only [↓GO, ↓DRW, GA, ren, renB, footX, refs, cellsV, cst, cstAt, nilC, idxAddr, E.load, E.store, binO, isC, bin, ibin, sbin, una, isShift, okCell, packV, lenV, blt, fnV, asArg, snapV, snapS, snapP, snapC, flatV, flatT, openK, layBack, allT, allZ, mkS, srcOf0, unN, idxV, nilEq, give, tupV, mkEnv, extV, pickV, LVS, OVS, LTS, TYS, PMS, pmT, Int.reduceToNat, Nat.reduceGT, ↓reduceIte, Nat.reduceAdd, Nat.reduceMul, Nat.reduceSub, Nat.reduceEqDiff, Nat.reduceLeDiff, Nat.reduceLT, Nat.reduceBEq, Int.reduceBEq, Int.reduceBNe, Int.reduceEq, Int.reduceLT, Int.reduceLE, Int.reduceGT, Int.reduceNeg, reduceCtorEq, Int.cast_ofNat_Int, getE_zero, getE_one, getE_two, Option.isSome_none, h1, h2]
theorem c_texts (a b : Str) : callPure (EV Tryz.prog pol) 304 [.t (.str a), .t (.str b)] = some (.t (.int .i64 (cmpS a b))) := by
  unfold cmpS
  cases h1 : Op.bytesLess a b <;> cases h2 : (a == b)
  all_goals
    apply eq_call
    refine call_eq rfl Tryz.func304 rfl (by kernel_rfl) ?_
    unfold Tryz.f304
    simp (disch := ((try simp only [List.length_cons, List.length_append, List.length_nil, List.length_map]); omega)) only [↓GO, ↓DRW, GA, ren, renB, footX, refs, cellsV, cst, cstAt, nilC, idxAddr, E.load, E.store, binO, isC, bin, ibin, sbin, una, isShift, okCell, packV, lenV, blt, fnV, asArg, snapV, snapS, snapP, snapC, flatV, flatT, openK, layBack, allT, allZ, mkS, srcOf0, unN, idxV, nilEq, give, tupV, mkEnv, extV, pickV, LVS, OVS, LTS, TYS, PMS, pmT, Int.reduceToNat, Nat.reduceGT, ↓reduceIte, Nat.reduceAdd, Nat.reduceMul, Nat.reduceSub, Nat.reduceEqDiff, Nat.reduceLeDiff, Nat.reduceLT, Nat.reduceBEq, Int.reduceBEq, Int.reduceBNe, Int.reduceEq, Int.reduceLT, Int.reduceLE, Int.reduceGT, Int.reduceNeg, reduceCtorEq, Int.cast_ofNat_Int, getE_zero, getE_one, getE_two, Option.isSome_none, h1, h2]
theorem c_part (a b : Str) (ha : a.length ≤ 4194304) (hb : b.length ≤ 4194304) : callPure (EV Tryz.prog pol) 244 [.t (.str a), .t (.str b)] = some (.t (.int .i64 (cmpP a b))) := by
  have d1 := c_rdR a (by omega)
  have d2 := c_rdR b (by omega)
  have d3 := c_less (readDec a) (readDec b)
  have d4 := c_texts a b
  unfold cmpP
  generalize readDec a = ra at *
  generalize readDec b = rb at *
  cases h1 : decide (ra ≥ 0) <;> cases h2 : decide (rb ≥ 0)
  all_goals
    apply eq_call
    refine call_eq rfl Tryz.func244 rfl (by kernel_rfl) ?_
    unfold Tryz.f244
    simp (disch := ((try simp only [List.length_cons, List.length_append, List.length_nil, List.length_map]); omega)) only [↓GO, ↓DRW, GA, ren, renB, footX, refs, cellsV, cst, cstAt, nilC, idxAddr, E.load, E.store, binO, isC, bin, ibin, sbin, una, isShift, okCell, packV, lenV, blt, fnV, asArg, snapV, snapS, snapP, snapC, flatV, flatT, openK, layBack, allT, allZ, mkS, srcOf0, unN, idxV, nilEq, give, tupV, mkEnv, extV, pickV, LVS, OVS, LTS, TYS, PMS, pmT, Int.reduceToNat, Nat.reduceGT, ↓reduceIte, Nat.reduceAdd, Nat.reduceMul, Nat.reduceSub, Nat.reduceEqDiff, Nat.reduceLeDiff, Nat.reduceLT, Nat.reduceBEq, Int.reduceBEq, Int.reduceBNe, Int.reduceEq, Int.reduceLT, Int.reduceLE, Int.reduceGT, Int.reduceNeg, reduceCtorEq, Int.cast_ofNat_Int, getE_zero, getE_one, getE_two, Option.isSome_none, d1, d2, d3, d4, h1, h2]
theorem l_cmp1 (x1 x2 x3 x4 y1 y2 y3 y4 : T) (a b c : Int) :
    EV Tryz.prog pol (.loop 162 58 0 [.ptr 0 0 0, .ptr 1 0 0, .sl 2 0 3 (some 3), .t (.int .i64 0)] [.vs 4 [[.t x1, .t x2, .t x3, .t x4]], .vs 4 [[.t y1, .t y2, .t y3, .t y4]], .ts 1 [[.int .i64 a], [.int .i64 b], [.int .i64 c]]])
    = some (cond (a == 0) (cond (b == 0) (cond (c == 0) (.loop (.exit 0) [.ptr 0 0 0, .ptr 1 0 0, .bad] [.vs 4 [[.t x1, .t x2, .t x3, .t x4]], .vs 4 [[.t y1, .t y2, .t y3, .t y4]]])
      (.loop .ret [.ptr 0 0 0, .ptr 1 0 0, .t (.int .i64 c)] [.vs 4 [[.t x1, .t x2, .t x3, .t x4]], .vs 4 [[.t y1, .t y2, .t y3, .t y4]]]))
      (.loop .ret [.ptr 0 0 0, .ptr 1 0 0, .t (.int .i64 b)] [.vs 4 [[.t x1, .t x2, .t x3, .t x4]], .vs 4 [[.t y1, .t y2, .t y3, .t y4]]]))
      (.loop .ret [.ptr 0 0 0, .ptr 1 0 0, .t (.int .i64 a)] [.vs 4 [[.t x1, .t x2, .t x3, .t x4]], .vs 4 [[.t y1, .t y2, .t y3, .t y4]]])) := by
  cases h1 : (a == 0)
  · refine loop_eq Tryz.func162 rfl rfl ?_
    simp (disch := ((try simp only [List.length_cons, List.length_append, List.length_nil, List.length_map]); omega)) only [↓GO, ↓DRW, GA, ren, renB, footX, refs, cellsV, cst, cstAt, nilC, idxAddr, E.load, E.store, binO, isC, bin, ibin, sbin, una, isShift, okCell, packV, lenV, blt, fnV, asArg, snapV, snapS, snapP, snapC, flatV, flatT, openK, layBack, allT, allZ, mkS, srcOf0, unN, idxV, nilEq, give, tupV, mkEnv, extV, pickV, LVS, OVS, LTS, TYS, PMS, pmT, Int.reduceToNat, Nat.reduceGT, ↓reduceIte, Nat.reduceAdd, Nat.reduceMul, Nat.reduceSub, Nat.reduceEqDiff, Nat.reduceLeDiff, Nat.reduceLT, Nat.reduceBEq, Int.reduceBEq, Int.reduceBNe, Int.reduceEq, Int.reduceLT, Int.reduceLE, Int.reduceGT, Int.reduceNeg, reduceCtorEq, Int.cast_ofNat_Int, getE_zero, getE_one, getE_two, Option.isSome_none, h1, bne, wrap_in, rch3]
  · refine loop_eq Tryz.func162 rfl rfl ?_
    simp (disch := ((try simp only [List.length_cons, List.length_append, List.length_nil, List.length_map]); omega)) only [↓GO, ↓DRW, GA, ren, renB, footX, refs, cellsV, cst, cstAt, nilC, idxAddr, E.load, E.store, binO, isC, bin, ibin, sbin, una, isShift, okCell, packV, lenV, blt, fnV, asArg, snapV, snapS, snapP, snapC, flatV, flatT, openK, layBack, allT, allZ, mkS, srcOf0, unN, idxV, nilEq, give, tupV, mkEnv, extV, pickV, LVS, OVS, LTS, TYS, PMS, pmT, Int.reduceToNat, Nat.reduceGT, ↓reduceIte, Nat.reduceAdd, Nat.reduceMul, Nat.reduceSub, Nat.reduceEqDiff, Nat.reduceLeDiff, Nat.reduceLT, Nat.reduceBEq, Int.reduceBEq, Int.reduceBNe, Int.reduceEq, Int.reduceLT, Int.reduceLE, Int.reduceGT, Int.reduceNeg, reduceCtorEq, Int.cast_ofNat_Int, getE_zero, getE_one, getE_two, Option.isSome_none, h1, bne, wrap_in, rch3, Int.zero_add]
    cases h2 : (b == 0)
    · refine loop_eq Tryz.func162 rfl rfl ?_
      simp (disch := ((try simp only [List.length_cons, List.length_append, List.length_nil, List.length_map]); omega)) only [↓GO, ↓DRW, GA, ren, renB, footX, refs, cellsV, cst, cstAt, nilC, idxAddr, E.load, E.store, binO, isC, bin, ibin, sbin, una, isShift, okCell, packV, lenV, blt, fnV, asArg, snapV, snapS, snapP, snapC, flatV, flatT, openK, layBack, allT, allZ, mkS, srcOf0, unN, idxV, nilEq, give, tupV, mkEnv, extV, pickV, LVS, OVS, LTS, TYS, PMS, pmT, Int.reduceToNat, Nat.reduceGT, ↓reduceIte, Nat.reduceAdd, Nat.reduceMul, Nat.reduceSub, Nat.reduceEqDiff, Nat.reduceLeDiff, Nat.reduceLT, Nat.reduceBEq, Int.reduceBEq, Int.reduceBNe, Int.reduceEq, Int.reduceLT, Int.reduceLE, Int.reduceGT, Int.reduceNeg, reduceCtorEq, Int.cast_ofNat_Int, getE_zero, getE_one, getE_two, Option.isSome_none, h2, bne, wrap_in, rch3]
    · refine loop_eq Tryz.func162 rfl rfl ?_
      simp (disch := ((try simp only [List.length_cons, List.length_append, List.length_nil, List.length_map]); omega)) only [↓GO, ↓DRW, GA, ren, renB, footX, refs, cellsV, cst, cstAt, nilC, idxAddr, E.load, E.store, binO, isC, bin, ibin, sbin, una, isShift, okCell, packV, lenV, blt, fnV, asArg, snapV, snapS, snapP, snapC, flatV, flatT, openK, layBack, allT, allZ, mkS, srcOf0, unN, idxV, nilEq, give, tupV, mkEnv, extV, pickV, LVS, OVS, LTS, TYS, PMS, pmT, Int.reduceToNat, Nat.reduceGT, ↓reduceIte, Nat.reduceAdd, Nat.reduceMul, Nat.reduceSub, Nat.reduceEqDiff, Nat.reduceLeDiff, Nat.reduceLT, Nat.reduceBEq, Int.reduceBEq, Int.reduceBNe, Int.reduceEq, Int.reduceLT, Int.reduceLE, Int.reduceGT, Int.reduceNeg, reduceCtorEq, Int.cast_ofNat_Int, getE_zero, getE_one, getE_two, Option.isSome_none, h2, bne, wrap_in, rch3, Int.reduceAdd]
      cases h3 : (c == 0)
      · refine loop_eq Tryz.func162 rfl rfl ?_
        simp (disch := ((try simp only [List.length_cons, List.length_append, List.length_nil, List.length_map]); omega)) only [↓GO, ↓DRW, GA, ren, renB, footX, refs, cellsV, cst, cstAt, nilC, idxAddr, E.load, E.store, binO, isC, bin, ibin, sbin, una, isShift, okCell, packV, lenV, blt, fnV, asArg, snapV, snapS, snapP, snapC, flatV, flatT, openK, layBack, allT, allZ, mkS, srcOf0, unN, idxV, nilEq, give, tupV, mkEnv, extV, pickV, LVS, OVS, LTS, TYS, PMS, pmT, Int.reduceToNat, Nat.reduceGT, ↓reduceIte, Nat.reduceAdd, Nat.reduceMul, Nat.reduceSub, Nat.reduceEqDiff, Nat.reduceLeDiff, Nat.reduceLT, Nat.reduceBEq, Int.reduceBEq, Int.reduceBNe, Int.reduceEq, Int.reduceLT, Int.reduceLE, Int.reduceGT, Int.reduceNeg, reduceCtorEq, Int.cast_ofNat_Int, getE_zero, getE_one, getE_two, Option.isSome_none, h3, bne, wrap_in, rch3]
      · refine loop_eq Tryz.func162 rfl rfl ?_
        simp (disch := ((try simp only [List.length_cons, List.length_append, List.length_nil, List.length_map]); omega)) only [↓GO, ↓DRW, GA, ren, renB, footX, refs, cellsV, cst, cstAt, nilC, idxAddr, E.load, E.store, binO, isC, bin, ibin, sbin, una, isShift, okCell, packV, lenV, blt, fnV, asArg, snapV, snapS, snapP, snapC, flatV, flatT, openK, layBack, allT, allZ, mkS, srcOf0, unN, idxV, nilEq, give, tupV, mkEnv, extV, pickV, LVS, OVS, LTS, TYS, PMS, pmT, Int.reduceToNat, Nat.reduceGT, ↓reduceIte, Nat.reduceAdd, Nat.reduceMul, Nat.reduceSub, Nat.reduceEqDiff, Nat.reduceLeDiff, Nat.reduceLT, Nat.reduceBEq, Int.reduceBEq, Int.reduceBNe, Int.reduceEq, Int.reduceLT, Int.reduceLE, Int.reduceGT, Int.reduceNeg, reduceCtorEq, Int.cast_ofNat_Int, getE_zero, getE_one, getE_two, Option.isSome_none, h3, bne, wrap_in, rch3, Int.reduceAdd]
        refine loop_eq Tryz.func162 rfl rfl ?_
        simp (disch := ((try simp only [List.length_cons, List.length_append, List.length_nil, List.length_map]); omega)) only [↓GO, ↓DRW, GA, ren, renB, footX, refs, cellsV, cst, cstAt, nilC, idxAddr, E.load, E.store, binO, isC, bin, ibin, sbin, una, isShift, okCell, packV, lenV, blt, fnV, asArg, snapV, snapS, snapP, snapC, flatV, flatT, openK, layBack, allT, allZ, mkS, srcOf0, unN, idxV, nilEq, give, tupV, mkEnv, extV, pickV, LVS, OVS, LTS, TYS, PMS, pmT, Int.reduceToNat, Nat.reduceGT, ↓reduceIte, Nat.reduceAdd, Nat.reduceMul, Nat.reduceSub, Nat.reduceEqDiff, Nat.reduceLeDiff, Nat.reduceLT, Nat.reduceBEq, Int.reduceBEq, Int.reduceBNe, Int.reduceEq, Int.reduceLT, Int.reduceLE, Int.reduceGT, Int.reduceNeg, reduceCtorEq, Int.cast_ofNat_Int, getE_zero, getE_one, getE_two, Option.isSome_none, wrap_in, rch3]
theorem l_cmp2 (a b : Ver) (ha : a.sm) (hb : b.sm) : ∀ (ra rb pa pb : List Str), a.pre = pa ++ ra → b.pre = pb ++ rb → pa.length = pb.length →
    EV Tryz.prog pol (.loop 162 250 0 [.ptr 0 0 0, .ptr 1 0 0, .t (.int .i64 (pa.length : Int))] [.vs 4 [a.enc.map .t], .vs 4 [b.enc.map .t]])
    = some (match scanP ra rb with
      | some n => .loop .ret [.ptr 0 0 0, .ptr 1 0 0, .t (.int .i64 n)] [.vs 4 [a.enc.map .t], .vs 4 [b.enc.map .t]]
      | none => .loop (.exit 2) [.ptr 0 0 0, .ptr 1 0 0, .bad] [.vs 4 [a.enc.map .t], .vs 4 [b.enc.map .t]])
  | [], rb, pa, pb, h1, h2, h3 => by
    have c : decide ((pa.length : Int) < (a.pre.length : Int)) = false := by simp [h1]
    simp only [Ver.enc, List.map_cons, List.map_nil, scanP]
    refine loop_eq Tryz.func162 rfl rfl ?_
    simp (disch := ((try simp only [List.length_cons, List.length_append, List.length_nil, List.length_map]); omega)) only [↓GO, ↓DRW, GA, ren, renB, footX, refs, cellsV, cst, cstAt, nilC, idxAddr, E.load, E.store, binO, isC, bin, ibin, sbin, una, isShift, okCell, packV, lenV, blt, fnV, asArg, snapV, snapS, snapP, snapC, flatV, flatT, openK, layBack, allT, allZ, mkS, srcOf0, unN, idxV, nilEq, give, tupV, mkEnv, extV, pickV, LVS, OVS, LTS, TYS, PMS, pmT, Int.reduceToNat, Nat.reduceGT, ↓reduceIte, Nat.reduceAdd, Nat.reduceMul, Nat.reduceSub, Nat.reduceEqDiff, Nat.reduceLeDiff, Nat.reduceLT, Nat.reduceBEq, Int.reduceBEq, Int.reduceBNe, Int.reduceEq, Int.reduceLT, Int.reduceLE, Int.reduceGT, Int.reduceNeg, reduceCtorEq, Int.cast_ofNat_Int, getE_zero, getE_one, getE_two, Option.isSome_none, strs_len, c, rch3]
  | x :: ra, [], pa, pb, h1, h2, h3 => by
    have c : decide ((pa.length : Int) < (a.pre.length : Int)) = true := by simp [h1]; omega
    have c2 : decide ((pa.length : Int) < (b.pre.length : Int)) = false := by simp [h2]; omega
    simp only [Ver.enc, List.map_cons, List.map_nil, scanP]
    refine loop_eq Tryz.func162 rfl rfl ?_
    simp (disch := ((try simp only [List.length_cons, List.length_append, List.length_nil, List.length_map]); omega)) only [↓GO, ↓DRW, GA, ren, renB, footX, refs, cellsV, cst, cstAt, nilC, idxAddr, E.load, E.store, binO, isC, bin, ibin, sbin, una, isShift, okCell, packV, lenV, blt, fnV, asArg, snapV, snapS, snapP, snapC, flatV, flatT, openK, layBack, allT, allZ, mkS, srcOf0, unN, idxV, nilEq, give, tupV, mkEnv, extV, pickV, LVS, OVS, LTS, TYS, PMS, pmT, Int.reduceToNat, Nat.reduceGT, ↓reduceIte, Nat.reduceAdd, Nat.reduceMul, Nat.reduceSub, Nat.reduceEqDiff, Nat.reduceLeDiff, Nat.reduceLT, Nat.reduceBEq, Int.reduceBEq, Int.reduceBNe, Int.reduceEq, Int.reduceLT, Int.reduceLE, Int.reduceGT, Int.reduceNeg, reduceCtorEq, Int.cast_ofNat_Int, getE_zero, getE_one, getE_two, Option.isSome_none, strs_len, c, c2, rch3]
  | x :: ra, y :: rb, pa, pb, h1, h2, h3 => by
    unfold Ver.sm at ha hb
    have c : decide ((pa.length : Int) < (a.pre.length : Int)) = true := by simp [h1]; omega
    have c2 : decide ((pa.length : Int) < (b.pre.length : Int)) = true := by simp [h2]; omega
    have hg1 : (strs a.pre)[pa.length]? = some [.str x] := by rw [h1]; exact strs_zip pa x ra
    have hg2 : (strs b.pre)[pa.length]? = some [.str y] := by rw [h2, h3]; exact strs_zip pb y rb
    have hlen : pa.length + ra.length + 1 ≤ a.pre.length := by rw [h1]; simp; omega
    have hx : x.length ≤ 2097152 := by have := bulk_mem (ks := a.pre) (s := x) (by rw [h1]; simp); omega
    have hy : y.length ≤ 2097152 := by have := bulk_mem (ks := b.pre) (s := y) (by rw [h2]; simp); omega
    have hp := c_part x y (by omega) (by omega)
    have IH := l_cmp2 a b ha hb ra rb (pa ++ [x]) (pb ++ [y]) (by rw [h1]; simp) (by rw [h2]; simp) (by simp [h3])
    rw [show ((pa ++ [x]).length : Int) = (pa.length : Int) + 1 by simp] at IH
    clear h1 h2
    simp only [Ver.enc, List.map_cons, List.map_nil] at IH ⊢
    rw [scanP]
    generalize cmpP x y = n at *
    cases hn : (n == 0)
    · simp only [cond_false]
      refine loop_eq Tryz.func162 rfl rfl ?_
      simp (disch := ((try simp only [List.length_cons, List.length_append, List.length_nil, List.length_map]); omega)) only [↓GO, ↓DRW, GA, ren, renB, footX, refs, cellsV, cst, cstAt, nilC, idxAddr, E.load, E.store, binO, isC, bin, ibin, sbin, una, isShift, okCell, packV, lenV, blt, fnV, asArg, snapV, snapS, snapP, snapC, flatV, flatT, openK, layBack, allT, allZ, mkS, srcOf0, unN, idxV, nilEq, give, tupV, mkEnv, extV, pickV, LVS, OVS, LTS, TYS, PMS, pmT, Int.reduceToNat, Nat.reduceGT, ↓reduceIte, Nat.reduceAdd, Nat.reduceMul, Nat.reduceSub, Nat.reduceEqDiff, Nat.reduceLeDiff, Nat.reduceLT, Nat.reduceBEq, Int.reduceBEq, Int.reduceBNe, Int.reduceEq, Int.reduceLT, Int.reduceLE, Int.reduceGT, Int.reduceNeg, reduceCtorEq, Int.cast_ofNat_Int, getE_zero, getE_one, getE_two, Option.isSome_none, strs_len, c, c2, hg1, hg2, hp, hn, bne, wrap_in, rch3]
    · simp only [cond_true]
      refine loop_eq Tryz.func162 rfl rfl ?_
      simp (disch := ((try simp only [List.length_cons, List.length_append, List.length_nil, List.length_map]); omega)) only [↓GO, ↓DRW, GA, ren, renB, footX, refs, cellsV, cst, cstAt, nilC, idxAddr, E.load, E.store, binO, isC, bin, ibin, sbin, una, isShift, okCell, packV, lenV, blt, fnV, asArg, snapV, snapS, snapP, snapC, flatV, flatT, openK, layBack, allT, allZ, mkS, srcOf0, unN, idxV, nilEq, give, tupV, mkEnv, extV, pickV, LVS, OVS, LTS, TYS, PMS, pmT, Int.reduceToNat, Nat.reduceGT, ↓reduceIte, Nat.reduceAdd, Nat.reduceMul, Nat.reduceSub, Nat.reduceEqDiff, Nat.reduceLeDiff, Nat.reduceLT, Nat.reduceBEq, Int.reduceBEq, Int.reduceBNe, Int.reduceEq, Int.reduceLT, Int.reduceLE, Int.reduceGT, Int.reduceNeg, reduceCtorEq, Int.cast_ofNat_Int, getE_zero, getE_one, getE_two, Option.isSome_none, strs_len, c, c2, hg1, hg2, hp, hn, bne, wrap_in, rch3, IH]
theorem c_cmpR (a b : Ver) (ha : a.sm) (hb : b.sm) : callPure (EV Tryz.prog pol) 162 [.agg (a.enc.map .t), .agg (b.enc.map .t)] = some (.t (.int .i64 (cmpV a b))) := by
  have d1 := c_less a.maj b.maj
  have d2 := c_less a.min b.min
  have d3 := c_less a.pat b.pat
  have d4 := c_less (b.pre.length : Int) (a.pre.length : Int)
  have d5 := c_less (a.pre.length : Int) (b.pre.length : Int)
  have L2 := l_cmp2 a b ha hb a.pre b.pre [] [] rfl rfl rfl
  have L1 := l_cmp1 (.int .i64 a.maj) (.int .i64 a.min) (.int .i64 a.pat) (.list 1 (strs a.pre)) (.int .i64 b.maj) (.int .i64 b.min) (.int .i64 b.pat) (.list 1 (strs b.pre)) (cmpI a.maj b.maj) (cmpI a.min b.min) (cmpI a.pat b.pat)
  have e1 := beq_len a.pre
  have e2 := beq_len b.pre
  unfold cmpV cmpPs
  simp only [List.length_nil, Int.natCast_zero] at L2
  simp only [Ver.enc, List.map_cons, List.map_nil] at L1 L2 ⊢
  generalize cmpI a.maj b.maj = n1 at *
  generalize cmpI a.min b.min = n2 at *
  generalize cmpI a.pat b.pat = n3 at *
  cases h1 : (n1 == 0) <;> rw [h1] at L1
  · simp only [cond_false] at L1
    apply eq_call
    refine call_eq rfl Tryz.func162 rfl (by kernel_rfl) ?_
    unfold Tryz.f162
    simp (disch := ((try simp only [List.length_cons, List.length_append, List.length_nil, List.length_map]); omega)) only [↓GO, ↓DRW, GA, ren, renB, footX, refs, cellsV, cst, cstAt, nilC, idxAddr, E.load, E.store, binO, isC, bin, ibin, sbin, una, isShift, okCell, packV, lenV, blt, fnV, asArg, snapV, snapS, snapP, snapC, flatV, flatT, openK, layBack, allT, allZ, mkS, srcOf0, unN, idxV, nilEq, give, tupV, mkEnv, extV, pickV, LVS, OVS, LTS, TYS, PMS, pmT, Int.reduceToNat, Nat.reduceGT, ↓reduceIte, Nat.reduceAdd, Nat.reduceMul, Nat.reduceSub, Nat.reduceEqDiff, Nat.reduceLeDiff, Nat.reduceLT, Nat.reduceBEq, Int.reduceBEq, Int.reduceBNe, Int.reduceEq, Int.reduceLT, Int.reduceLE, Int.reduceGT, Int.reduceNeg, reduceCtorEq, Int.cast_ofNat_Int, getE_zero, getE_one, getE_two, Option.isSome_none, d1, d2, d3, L1, rch3]
    refine dyn_pos (by kernel_rfl) ?_
    simp (disch := ((try simp only [List.length_cons, List.length_append, List.length_nil, List.length_map]); omega)) only [↓GO, ↓DRW, GA, ren, renB, footX, refs, cellsV, cst, cstAt, nilC, idxAddr, E.load, E.store, binO, isC, bin, ibin, sbin, una, isShift, okCell, packV, lenV, blt, fnV, asArg, snapV, snapS, snapP, snapC, flatV, flatT, openK, layBack, allT, allZ, mkS, srcOf0, unN, idxV, nilEq, give, tupV, mkEnv, extV, pickV, LVS, OVS, LTS, TYS, PMS, pmT, Int.reduceToNat, Nat.reduceGT, ↓reduceIte, Nat.reduceAdd, Nat.reduceMul, Nat.reduceSub, Nat.reduceEqDiff, Nat.reduceLeDiff, Nat.reduceLT, Nat.reduceBEq, Int.reduceBEq, Int.reduceBNe, Int.reduceEq, Int.reduceLT, Int.reduceLE, Int.reduceGT, Int.reduceNeg, reduceCtorEq, Int.cast_ofNat_Int, getE_zero, getE_one, getE_two, Option.isSome_none, d1, d2, d3, L1, rch3]
  · cases h2 : (n2 == 0) <;> rw [h2] at L1
    · simp only [cond_false, cond_true] at L1
      apply eq_call
      refine call_eq rfl Tryz.func162 rfl (by kernel_rfl) ?_
      unfold Tryz.f162
      simp (disch := ((try simp only [List.length_cons, List.length_append, List.length_nil, List.length_map]); omega)) only [↓GO, ↓DRW, GA, ren, renB, footX, refs, cellsV, cst, cstAt, nilC, idxAddr, E.load, E.store, binO, isC, bin, ibin, sbin, una, isShift, okCell, packV, lenV, blt, fnV, asArg, snapV, snapS, snapP, snapC, flatV, flatT, openK, layBack, allT, allZ, mkS, srcOf0, unN, idxV, nilEq, give, tupV, mkEnv, extV, pickV, LVS, OVS, LTS, TYS, PMS, pmT, Int.reduceToNat, Nat.reduceGT, ↓reduceIte, Nat.reduceAdd, Nat.reduceMul, Nat.reduceSub, Nat.reduceEqDiff, Nat.reduceLeDiff, Nat.reduceLT, Nat.reduceBEq, Int.reduceBEq, Int.reduceBNe, Int.reduceEq, Int.reduceLT, Int.reduceLE, Int.reduceGT, Int.reduceNeg, reduceCtorEq, Int.cast_ofNat_Int, getE_zero, getE_one, getE_two, Option.isSome_none, d1, d2, d3, L1, rch3]
      refine dyn_pos (by kernel_rfl) ?_
      simp (disch := ((try simp only [List.length_cons, List.length_append, List.length_nil, List.length_map]); omega)) only [↓GO, ↓DRW, GA, ren, renB, footX, refs, cellsV, cst, cstAt, nilC, idxAddr, E.load, E.store, binO, isC, bin, ibin, sbin, una, isShift, okCell, packV, lenV, blt, fnV, asArg, snapV, snapS, snapP, snapC, flatV, flatT, openK, layBack, allT, allZ, mkS, srcOf0, unN, idxV, nilEq, give, tupV, mkEnv, extV, pickV, LVS, OVS, LTS, TYS, PMS, pmT, Int.reduceToNat, Nat.reduceGT, ↓reduceIte, Nat.reduceAdd, Nat.reduceMul, Nat.reduceSub, Nat.reduceEqDiff, Nat.reduceLeDiff, Nat.reduceLT, Nat.reduceBEq, Int.reduceBEq, Int.reduceBNe, Int.reduceEq, Int.reduceLT, Int.reduceLE, Int.reduceGT, Int.reduceNeg, reduceCtorEq, Int.cast_ofNat_Int, getE_zero, getE_one, getE_two, Option.isSome_none, d1, d2, d3, L1, rch3]
    · cases h3 : (n3 == 0) <;> rw [h3] at L1
      · simp only [cond_false, cond_true] at L1
        apply eq_call
        refine call_eq rfl Tryz.func162 rfl (by kernel_rfl) ?_
        unfold Tryz.f162
        simp (disch := ((try simp only [List.length_cons, List.length_append, List.length_nil, List.length_map]); omega)) only [↓GO, ↓DRW, GA, ren, renB, footX, refs, cellsV, cst, cstAt, nilC, idxAddr, E.load, E.store, binO, isC, bin, ibin, sbin, una, isShift, okCell, packV, lenV, blt, fnV, asArg, snapV, snapS, snapP, snapC, flatV, flatT, openK, layBack, allT, allZ, mkS, srcOf0, unN, idxV, nilEq, give, tupV, mkEnv, extV, pickV, LVS, OVS, LTS, TYS, PMS, pmT, Int.reduceToNat, Nat.reduceGT, ↓reduceIte, Nat.reduceAdd, Nat.reduceMul, Nat.reduceSub, Nat.reduceEqDiff, Nat.reduceLeDiff, Nat.reduceLT, Nat.reduceBEq, Int.reduceBEq, Int.reduceBNe, Int.reduceEq, Int.reduceLT, Int.reduceLE, Int.reduceGT, Int.reduceNeg, reduceCtorEq, Int.cast_ofNat_Int, getE_zero, getE_one, getE_two, Option.isSome_none, d1, d2, d3, L1, rch3]
        refine dyn_pos (by kernel_rfl) ?_
        simp (disch := ((try simp only [List.length_cons, List.length_append, List.length_nil, List.length_map]); omega)) only [↓GO, ↓DRW, GA, ren, renB, footX, refs, cellsV, cst, cstAt, nilC, idxAddr, E.load, E.store, binO, isC, bin, ibin, sbin, una, isShift, okCell, packV, lenV, blt, fnV, asArg, snapV, snapS, snapP, snapC, flatV, flatT, openK, layBack, allT, allZ, mkS, srcOf0, unN, idxV, nilEq, give, tupV, mkEnv, extV, pickV, LVS, OVS, LTS, TYS, PMS, pmT, Int.reduceToNat, Nat.reduceGT, ↓reduceIte, Nat.reduceAdd, Nat.reduceMul, Nat.reduceSub, Nat.reduceEqDiff, Nat.reduceLeDiff, Nat.reduceLT, Nat.reduceBEq, Int.reduceBEq, Int.reduceBNe, Int.reduceEq, Int.reduceLT, Int.reduceLE, Int.reduceGT, Int.reduceNeg, reduceCtorEq, Int.cast_ofNat_Int, getE_zero, getE_one, getE_two, Option.isSome_none, d1, d2, d3, L1, rch3]
      · simp only [cond_true] at L1
        cases hs : scanP a.pre b.pre <;> rw [hs] at L2 <;> simp only at L2 <;> cases h4 : (a.pre == []) <;> cases h5 : (b.pre == []) <;> rw [h4] at e1 <;> rw [h5] at e2
        all_goals
          apply eq_call
          refine call_eq rfl Tryz.func162 rfl (by kernel_rfl) ?_
          unfold Tryz.f162
          simp (disch := ((try simp only [List.length_cons, List.length_append, List.length_nil, List.length_map]); omega)) only [↓GO, ↓DRW, GA, ren, renB, footX, refs, cellsV, cst, cstAt, nilC, idxAddr, E.load, E.store, binO, isC, bin, ibin, sbin, una, isShift, okCell, packV, lenV, blt, fnV, asArg, snapV, snapS, snapP, snapC, flatV, flatT, openK, layBack, allT, allZ, mkS, srcOf0, unN, idxV, nilEq, give, tupV, mkEnv, extV, pickV, LVS, OVS, LTS, TYS, PMS, pmT, Int.reduceToNat, Nat.reduceGT, ↓reduceIte, Nat.reduceAdd, Nat.reduceMul, Nat.reduceSub, Nat.reduceEqDiff, Nat.reduceLeDiff, Nat.reduceLT, Nat.reduceBEq, Int.reduceBEq, Int.reduceBNe, Int.reduceEq, Int.reduceLT, Int.reduceLE, Int.reduceGT, Int.reduceNeg, reduceCtorEq, Int.cast_ofNat_Int, getE_zero, getE_one, getE_two, Option.isSome_none, d1, d2, d3, d4, d5, L1, L2, strs_len, e1, e2, rch3]
          refine dyn_pos (by kernel_rfl) ?_
          simp (disch := ((try simp only [List.length_cons, List.length_append, List.length_nil, List.length_map]); omega)) only [↓GO, ↓DRW, GA, ren, renB, footX, refs, cellsV, cst, cstAt, nilC, idxAddr, E.load, E.store, binO, isC, bin, ibin, sbin, una, isShift, okCell, packV, lenV, blt, fnV, asArg, snapV, snapS, snapP, snapC, flatV, flatT, openK, layBack, allT, allZ, mkS, srcOf0, unN, idxV, nilEq, give, tupV, mkEnv, extV, pickV, LVS, OVS, LTS, TYS, PMS, pmT, Int.reduceToNat, Nat.reduceGT, ↓reduceIte, Nat.reduceAdd, Nat.reduceMul, Nat.reduceSub, Nat.reduceEqDiff, Nat.reduceLeDiff, Nat.reduceLT, Nat.reduceBEq, Int.reduceBEq, Int.reduceBNe, Int.reduceEq, Int.reduceLT, Int.reduceLE, Int.reduceGT, Int.reduceNeg, reduceCtorEq, Int.cast_ofNat_Int, getE_zero, getE_one, getE_two, Option.isSome_none, d1, d2, d3, d4, d5, L1, L2, strs_len, e1, e2, rch3, Option.getD_some, Option.getD_none]
end Go.Proofs.YtkpmachalipmpaaGreatDoor
/- The next version, the range of one alone, by the reference. Conditions: those of each lemma. -/
namespace Go.Proofs.YtkpmachalipmpaaGreatDoor
open E
set_option linter.unusedSimpArgs false
set_option linter.unusedVariables false
set_option maxRecDepth 100000
theorem up_sm (v : Ver) (p : Int) : (upV v p).sm := by
  unfold upV
  cases (p == 0) <;> cases (p == 1) <;> simp [Ver.sm, bulkS]
theorem next_sm {v : Ver} (h : v.sm) (p : Int) : (nextV v p).sm := by
  unfold nextV
  cases (!(verOk v) || !(B2 p 0 2)) <;> cases verOk (upV v p) <;> simp only [cond_true, cond_false] <;> first | exact h | exact up_sm v p
theorem c_next (v : Ver) (p : Int) (hs : v.sm) (hp : p = 0 ∨ p = 1 ∨ p = 2) (h1 : -1 ≤ v.maj ∧ v.maj ≤ 999999999) (h2 : -1 ≤ v.min ∧ v.min ≤ 999999999) (h3 : -1 ≤ v.pat ∧ v.pat ≤ 999999999) :
    callPure (EV Tryz.prog pol) 359 [.agg (v.enc.map .t), .t (.int .i64 p)] = some (.agg ((nextV v p).enc.map .t)) := by
  have d1 := c_vokR v hs
  have d2 := c_vokR (upV v p) (up_sm v p)
  have d3 := c_l01In p 0 2
  have hb : B2 p 0 2 = true := by rcases hp with rfl | rfl | rfl <;> rfl
  have e1 := beq_len v.pre
  have ht : List.take (0 + (strs v.pre).length) (strs v.pre) = strs v.pre := List.take_of_length_le (by omega)
  have ht2 : List.take v.pre.length (strs v.pre) = strs v.pre := List.take_of_length_le (by rw [strs_len]; omega)
  unfold Ver.sm at hs
  rw [hb] at d3
  unfold nextV
  rw [hb]
  simp only [Bool.not_true, Bool.or_false]
  cases ho : verOk v <;> rw [ho] at d1
  · simp only [Ver.enc, List.map_cons, List.map_nil, Bool.not_false, cond_true] at d1 ⊢
    apply eq_call
    refine call_eq rfl Tryz.func359 rfl (by kernel_rfl) ?_
    unfold Tryz.f359
    simp (disch := ((try simp only [List.length_cons, List.length_append, List.length_nil, List.length_map]); omega)) only [↓GO, ↓DRW, GA, ren, renB, footX, refs, cellsV, cst, cstAt, nilC, idxAddr, E.load, E.store, binO, isC, bin, ibin, sbin, una, isShift, okCell, packV, lenV, blt, fnV, asArg, snapV, snapS, snapP, snapC, flatV, flatT, openK, layBack, allT, allZ, mkS, srcOf0, unN, idxV, nilEq, give, tupV, mkEnv, extV, pickV, LVS, OVS, LTS, TYS, PMS, pmT, Int.reduceToNat, Nat.reduceGT, ↓reduceIte, Nat.reduceAdd, Nat.reduceMul, Nat.reduceSub, Nat.reduceEqDiff, Nat.reduceLeDiff, Nat.reduceLT, Nat.reduceBEq, Int.reduceBEq, Int.reduceBNe, Int.reduceEq, Int.reduceLT, Int.reduceLE, Int.reduceGT, Int.reduceNeg, reduceCtorEq, Int.cast_ofNat_Int, getE_zero, getE_one, getE_two, Option.isSome_none, d1, strs_len, ht, ht2, le_T]
  · simp only [Bool.not_true, cond_false]
    unfold upV at d2 ⊢
    rcases hp with rfl | rfl | rfl
    · simp only [show ((0 : Int) == 0) = true from rfl, cond_true] at d2 ⊢
      cases hu : verOk ⟨v.maj + 1, 0, 0, []⟩ <;> rw [hu] at d2 <;> simp only [Ver.enc, List.map_cons, List.map_nil, strs_nil, cond_true, cond_false] at d1 d2 ⊢
      all_goals
        apply eq_call
        refine call_eq rfl Tryz.func359 rfl (by kernel_rfl) ?_
        unfold Tryz.f359
        simp (disch := ((try simp only [List.length_cons, List.length_append, List.length_nil, List.length_map]); omega)) only [↓GO, ↓DRW, GA, ren, renB, footX, refs, cellsV, cst, cstAt, nilC, idxAddr, E.load, E.store, binO, isC, bin, ibin, sbin, una, isShift, okCell, packV, lenV, blt, fnV, asArg, snapV, snapS, snapP, snapC, flatV, flatT, openK, layBack, allT, allZ, mkS, srcOf0, unN, idxV, nilEq, give, tupV, mkEnv, extV, pickV, LVS, OVS, LTS, TYS, PMS, pmT, Int.reduceToNat, Nat.reduceGT, ↓reduceIte, Nat.reduceAdd, Nat.reduceMul, Nat.reduceSub, Nat.reduceEqDiff, Nat.reduceLeDiff, Nat.reduceLT, Nat.reduceBEq, Int.reduceBEq, Int.reduceBNe, Int.reduceEq, Int.reduceLT, Int.reduceLE, Int.reduceGT, Int.reduceNeg, reduceCtorEq, Int.cast_ofNat_Int, getE_zero, getE_one, getE_two, Option.isSome_none, d1, d2, d3, strs_len, ht, ht2, le_T, wrap_in]
    · simp only [show ((1 : Int) == 0) = false from rfl, show ((1 : Int) == 1) = true from rfl, cond_true, cond_false] at d2 ⊢
      cases hu : verOk ⟨v.maj, v.min + 1, 0, []⟩ <;> rw [hu] at d2 <;> simp only [Ver.enc, List.map_cons, List.map_nil, strs_nil, cond_true, cond_false] at d1 d2 ⊢
      all_goals
        apply eq_call
        refine call_eq rfl Tryz.func359 rfl (by kernel_rfl) ?_
        unfold Tryz.f359
        simp (disch := ((try simp only [List.length_cons, List.length_append, List.length_nil, List.length_map]); omega)) only [↓GO, ↓DRW, GA, ren, renB, footX, refs, cellsV, cst, cstAt, nilC, idxAddr, E.load, E.store, binO, isC, bin, ibin, sbin, una, isShift, okCell, packV, lenV, blt, fnV, asArg, snapV, snapS, snapP, snapC, flatV, flatT, openK, layBack, allT, allZ, mkS, srcOf0, unN, idxV, nilEq, give, tupV, mkEnv, extV, pickV, LVS, OVS, LTS, TYS, PMS, pmT, Int.reduceToNat, Nat.reduceGT, ↓reduceIte, Nat.reduceAdd, Nat.reduceMul, Nat.reduceSub, Nat.reduceEqDiff, Nat.reduceLeDiff, Nat.reduceLT, Nat.reduceBEq, Int.reduceBEq, Int.reduceBNe, Int.reduceEq, Int.reduceLT, Int.reduceLE, Int.reduceGT, Int.reduceNeg, reduceCtorEq, Int.cast_ofNat_Int, getE_zero, getE_one, getE_two, Option.isSome_none, d1, d2, d3, strs_len, ht, ht2, le_T, wrap_in]
    · simp only [show ((2 : Int) == 0) = false from rfl, show ((2 : Int) == 1) = false from rfl, cond_false] at d2 ⊢
      cases hq : (v.pre == []) <;> rw [hq] at e1 d2 <;> simp only [cond_true, cond_false] at d2 ⊢
      · cases hu : verOk ⟨v.maj, v.min, v.pat, []⟩ <;> rw [hu] at d2 <;> simp only [Ver.enc, List.map_cons, List.map_nil, strs_nil, cond_true, cond_false] at d1 d2 ⊢
        all_goals
          apply eq_call
          refine call_eq rfl Tryz.func359 rfl (by kernel_rfl) ?_
          unfold Tryz.f359
          simp (disch := ((try simp only [List.length_cons, List.length_append, List.length_nil, List.length_map]); omega)) only [↓GO, ↓DRW, GA, ren, renB, footX, refs, cellsV, cst, cstAt, nilC, idxAddr, E.load, E.store, binO, isC, bin, ibin, sbin, una, isShift, okCell, packV, lenV, blt, fnV, asArg, snapV, snapS, snapP, snapC, flatV, flatT, openK, layBack, allT, allZ, mkS, srcOf0, unN, idxV, nilEq, give, tupV, mkEnv, extV, pickV, LVS, OVS, LTS, TYS, PMS, pmT, Int.reduceToNat, Nat.reduceGT, ↓reduceIte, Nat.reduceAdd, Nat.reduceMul, Nat.reduceSub, Nat.reduceEqDiff, Nat.reduceLeDiff, Nat.reduceLT, Nat.reduceBEq, Int.reduceBEq, Int.reduceBNe, Int.reduceEq, Int.reduceLT, Int.reduceLE, Int.reduceGT, Int.reduceNeg, reduceCtorEq, Int.cast_ofNat_Int, getE_zero, getE_one, getE_two, Option.isSome_none, d1, d2, d3, e1, strs_len, ht, ht2, le_T, wrap_in]
      · cases hu : verOk ⟨v.maj, v.min, v.pat + 1, []⟩ <;> rw [hu] at d2 <;> simp only [Ver.enc, List.map_cons, List.map_nil, strs_nil, cond_true, cond_false] at d1 d2 ⊢
        all_goals
          apply eq_call
          refine call_eq rfl Tryz.func359 rfl (by kernel_rfl) ?_
          unfold Tryz.f359
          simp (disch := ((try simp only [List.length_cons, List.length_append, List.length_nil, List.length_map]); omega)) only [↓GO, ↓DRW, GA, ren, renB, footX, refs, cellsV, cst, cstAt, nilC, idxAddr, E.load, E.store, binO, isC, bin, ibin, sbin, una, isShift, okCell, packV, lenV, blt, fnV, asArg, snapV, snapS, snapP, snapC, flatV, flatT, openK, layBack, allT, allZ, mkS, srcOf0, unN, idxV, nilEq, give, tupV, mkEnv, extV, pickV, LVS, OVS, LTS, TYS, PMS, pmT, Int.reduceToNat, Nat.reduceGT, ↓reduceIte, Nat.reduceAdd, Nat.reduceMul, Nat.reduceSub, Nat.reduceEqDiff, Nat.reduceLeDiff, Nat.reduceLT, Nat.reduceBEq, Int.reduceBEq, Int.reduceBNe, Int.reduceEq, Int.reduceLT, Int.reduceLE, Int.reduceGT, Int.reduceNeg, reduceCtorEq, Int.cast_ofNat_Int, getE_zero, getE_one, getE_two, Option.isSome_none, d1, d2, d3, e1, strs_len, ht, ht2, le_T, wrap_in]
theorem bare_sm (v : Ver) : (bareV v).sm := by simp [bareV, Ver.sm, bulkS]
theorem c_below (v : Ver) (p : Int) (hs : v.sm) (hp : p = 0 ∨ p = 1 ∨ p = 2) (h1 : -1 ≤ v.maj ∧ v.maj ≤ 999999999) (h2 : -1 ≤ v.min ∧ v.min ≤ 999999999) (h3 : -1 ≤ v.pat ∧ v.pat ≤ 999999999) :
    callPure (EV Tryz.prog pol) 314 [.agg (v.enc.map .t), .t (.int .i64 p)] = some (.tup [.t (.str (belowV v p).1), .t (.bool (belowV v p).2)]) := by
  have d1 := c_next (bareV v) p (bare_sm v) hp h1 h2 h3
  have d2 := c_cmpR (nextV (bareV v) p) (bareV v) (next_sm (bare_sm v) p) (bare_sm v)
  have d3 := c_vtextR ⟨(nextV (bareV v) p).maj, (nextV (bareV v) p).min, (nextV (bareV v) p).pat, [[48]]⟩ (sm_zero _ _ _)
  unfold belowV
  generalize cmpV (nextV (bareV v) p) (bareV v) = cm at *
  generalize verText ⟨(nextV (bareV v) p).maj, (nextV (bareV v) p).min, (nextV (bareV v) p).pat, [[48]]⟩ = tx at *
  generalize nextV (bareV v) p = nx at *
  simp only [Ver.enc, bareV, List.map_cons, List.map_nil, strs_cons, strs_nil] at d1 d2 d3 ⊢
  cases hc : (cm == 0)
  all_goals
    apply eq_call
    refine call_eq rfl Tryz.func314 rfl (by kernel_rfl) ?_
    unfold Tryz.f314
    simp (disch := ((try simp only [List.length_cons, List.length_append, List.length_nil, List.length_map]); omega)) only [↓GO, ↓DRW, GA, ren, renB, footX, refs, cellsV, cst, cstAt, nilC, idxAddr, E.load, E.store, binO, isC, bin, ibin, sbin, una, isShift, okCell, packV, lenV, blt, fnV, asArg, snapV, snapS, snapP, snapC, flatV, flatT, openK, layBack, allT, allZ, mkS, srcOf0, unN, idxV, nilEq, give, tupV, mkEnv, extV, pickV, LVS, OVS, LTS, TYS, PMS, pmT, Int.reduceToNat, Nat.reduceGT, ↓reduceIte, Nat.reduceAdd, Nat.reduceMul, Nat.reduceSub, Nat.reduceEqDiff, Nat.reduceLeDiff, Nat.reduceLT, Nat.reduceBEq, Int.reduceBEq, Int.reduceBNe, Int.reduceEq, Int.reduceLT, Int.reduceLE, Int.reduceGT, Int.reduceNeg, reduceCtorEq, Int.cast_ofNat_Int, getE_zero, getE_one, getE_two, Option.isSome_none, d1, d2, d3, hc, strs_nil]
def alT (s : Str) : V := match exactB s with
  | some (l, h) => .tup [.agg [.t (.str l), .t (.str h)], .t (.bool true)]
  | none => .tup [.agg [.t (.str []), .t (.str [])], .t (.bool false)]
theorem c_aloneR (s : Str) (hl : s.length ≤ 1048600) : callPure (EV Tryz.prog pol) 256 [.t (.str s)] = some (alT s) := by
  have d1 := c_rvR s (by omega)
  have d2 := c_rvR (s ++ [46, 48]) (by simp only [List.length_append, List.length_cons, List.length_nil]; omega)
  obtain ⟨m1, m2, m3, m4, m5, m6, m7⟩ := readVer_sm s (by omega)
  have d3 := c_below (readVer s).1 2 m1 (by omega) ⟨m3, m2⟩ ⟨m5, m4⟩ ⟨m7, m6⟩
  have hg := gt_len (readVer s).1.pre
  unfold rvT at d1 d2
  unfold alT exactB highV
  cases hk : (readVer s).2 with
  | false =>
    rw [hk] at d1
    generalize (readVer s).1 = v at *
    simp only [Bool.false_and, cond_false]
    simp only [Ver.enc, List.map_cons, List.map_nil] at d1 ⊢
    apply eq_call
    refine call_eq rfl Tryz.func256 rfl (by kernel_rfl) ?_
    unfold Tryz.f256
    simp (disch := ((try simp only [List.length_cons, List.length_append, List.length_nil, List.length_map]); omega)) only [↓GO, ↓DRW, GA, ren, renB, footX, refs, cellsV, cst, cstAt, nilC, idxAddr, E.load, E.store, binO, isC, bin, ibin, sbin, una, isShift, okCell, packV, lenV, blt, fnV, asArg, snapV, snapS, snapP, snapC, flatV, flatT, openK, layBack, allT, allZ, mkS, srcOf0, unN, idxV, nilEq, give, tupV, mkEnv, extV, pickV, LVS, OVS, LTS, TYS, PMS, pmT, Int.reduceToNat, Nat.reduceGT, ↓reduceIte, Nat.reduceAdd, Nat.reduceMul, Nat.reduceSub, Nat.reduceEqDiff, Nat.reduceLeDiff, Nat.reduceLT, Nat.reduceBEq, Int.reduceBEq, Int.reduceBNe, Int.reduceEq, Int.reduceLT, Int.reduceLE, Int.reduceGT, Int.reduceNeg, reduceCtorEq, Int.cast_ofNat_Int, getE_zero, getE_one, getE_two, Option.isSome_none, d1]
  | true =>
    have ho := (readVer_true hk).2.2.1
    rw [hk] at d1
    cases hp : ((readVer s).1.pre == []) with
    | true =>
      have hb := below_eq ho 2 (by omega)
      simp only [show ((2 : Int) == 0) = false from rfl, show ((2 : Int) == 1) = false from rfl, show ((2 : Int) == 2) = true from rfl, cond_true, cond_false] at hb
      rw [hb] at d3
      rw [hp] at hg
      simp only [Bool.not_true, cond_true, Bool.true_and] at hg ⊢
      generalize (readVer s).1 = v at *
      generalize zeroPre v.maj v.min (v.pat + 1) = zp at *
      simp only [Ver.enc, List.map_cons, List.map_nil] at d1 d3 ⊢
      clear d2 hb
      cases hz : (zp == []) <;> rw [hz] at d3 <;> simp only [Bool.not_true, Bool.not_false, cond_true, cond_false] at d3 ⊢
      all_goals
        apply eq_call
        refine call_eq rfl Tryz.func256 rfl (by kernel_rfl) ?_
        unfold Tryz.f256
        simp (disch := ((try simp only [List.length_cons, List.length_append, List.length_nil, List.length_map]); omega)) only [↓GO, ↓DRW, GA, ren, renB, footX, refs, cellsV, cst, cstAt, nilC, idxAddr, E.load, E.store, binO, isC, bin, ibin, sbin, una, isShift, okCell, packV, lenV, blt, fnV, asArg, snapV, snapS, snapP, snapC, flatV, flatT, openK, layBack, allT, allZ, mkS, srcOf0, unN, idxV, nilEq, give, tupV, mkEnv, extV, pickV, LVS, OVS, LTS, TYS, PMS, pmT, Int.reduceToNat, Nat.reduceGT, ↓reduceIte, Nat.reduceAdd, Nat.reduceMul, Nat.reduceSub, Nat.reduceEqDiff, Nat.reduceLeDiff, Nat.reduceLT, Nat.reduceBEq, Int.reduceBEq, Int.reduceBNe, Int.reduceEq, Int.reduceLT, Int.reduceLE, Int.reduceGT, Int.reduceNeg, reduceCtorEq, Int.cast_ofNat_Int, getE_zero, getE_one, getE_two, Option.isSome_none, d1, d3, hg, strs_len]
    | false =>
      obtain ⟨r1, r2⟩ := read_more hk (fun h => by rw [h] at hp; cases hp)
      rw [r1] at d2
      rw [hp] at hg
      simp only [Bool.not_false, cond_false, Bool.true_and] at hg ⊢
      rw [r2]
      generalize verOk (preV (readVer s).1) = pk at *
      generalize preV (readVer s).1 = pv at *
      generalize (readVer s).1 = v at *
      have hne : ((s ++ [46, 48]) == []) = false := by cases s <;> rfl
      simp only [Ver.enc, List.map_cons, List.map_nil] at d1 ⊢
      cases pk <;> simp only [Ver.enc, List.map_cons, List.map_nil, cond_true, cond_false, hne, Bool.not_false, show (([] : Str) == []) = true from rfl, Bool.not_true] at d2 ⊢
      all_goals
        apply eq_call
        refine call_eq rfl Tryz.func256 rfl (by kernel_rfl) ?_
        unfold Tryz.f256
        simp (disch := ((try simp only [List.length_cons, List.length_append, List.length_nil, List.length_map]); omega)) only [↓GO, ↓DRW, GA, ren, renB, footX, refs, cellsV, cst, cstAt, nilC, idxAddr, E.load, E.store, binO, isC, bin, ibin, sbin, una, isShift, okCell, packV, lenV, blt, fnV, asArg, snapV, snapS, snapP, snapC, flatV, flatT, openK, layBack, allT, allZ, mkS, srcOf0, unN, idxV, nilEq, give, tupV, mkEnv, extV, pickV, LVS, OVS, LTS, TYS, PMS, pmT, Int.reduceToNat, Nat.reduceGT, ↓reduceIte, Nat.reduceAdd, Nat.reduceMul, Nat.reduceSub, Nat.reduceEqDiff, Nat.reduceLeDiff, Nat.reduceLT, Nat.reduceBEq, Int.reduceBEq, Int.reduceBNe, Int.reduceEq, Int.reduceLT, Int.reduceLE, Int.reduceGT, Int.reduceNeg, reduceCtorEq, Int.cast_ofNat_Int, getE_zero, getE_one, getE_two, Option.isSome_none, d1, d2, hg, strs_len, le_T]
theorem c_exR (s : Str) (hl : s.length ≤ 1048600) : callPure (EV Tryz.prog pol) 232 [.t (.str s)] = some (.t (.list 2 (exT s))) := by
  have d1 := c_aloneR s hl
  unfold exT
  unfold alT at d1
  cases he : exactB s with
  | none =>
    rw [he] at d1
    simp only at d1 ⊢
    apply eq_call
    refine call_eq rfl Tryz.func232 rfl (by kernel_rfl) ?_
    unfold Tryz.f232
    simp (disch := ((try simp only [List.length_cons, List.length_append, List.length_nil, List.length_map]); omega)) only [↓GO, ↓DRW, GA, ren, renB, footX, refs, cellsV, cst, cstAt, nilC, idxAddr, E.load, E.store, binO, isC, bin, ibin, sbin, una, isShift, okCell, packV, lenV, blt, fnV, asArg, snapV, snapS, snapP, snapC, flatV, flatT, openK, layBack, allT, allZ, mkS, srcOf0, unN, idxV, nilEq, give, tupV, mkEnv, extV, pickV, LVS, OVS, LTS, TYS, PMS, pmT, Int.reduceToNat, Nat.reduceGT, ↓reduceIte, Nat.reduceAdd, Nat.reduceMul, Nat.reduceSub, Nat.reduceEqDiff, Nat.reduceLeDiff, Nat.reduceLT, Nat.reduceBEq, Int.reduceBEq, Int.reduceBNe, Int.reduceEq, Int.reduceLT, Int.reduceLE, Int.reduceGT, Int.reduceNeg, reduceCtorEq, Int.cast_ofNat_Int, getE_zero, getE_one, getE_two, Option.isSome_none, d1]
  | some x =>
    obtain ⟨l, h⟩ := x
    rw [he] at d1
    simp only at d1 ⊢
    apply eq_call
    refine call_eq rfl Tryz.func232 rfl (by kernel_rfl) ?_
    unfold Tryz.f232
    simp (disch := ((try simp only [List.length_cons, List.length_append, List.length_nil, List.length_map]); omega)) only [↓GO, ↓DRW, GA, ren, renB, footX, refs, cellsV, cst, cstAt, nilC, idxAddr, E.load, E.store, binO, isC, bin, ibin, sbin, una, isShift, okCell, packV, lenV, blt, fnV, asArg, snapV, snapS, snapP, snapC, flatV, flatT, openK, layBack, allT, allZ, mkS, srcOf0, unN, idxV, nilEq, give, tupV, mkEnv, extV, pickV, LVS, OVS, LTS, TYS, PMS, pmT, Int.reduceToNat, Nat.reduceGT, ↓reduceIte, Nat.reduceAdd, Nat.reduceMul, Nat.reduceSub, Nat.reduceEqDiff, Nat.reduceLeDiff, Nat.reduceLT, Nat.reduceBEq, Int.reduceBEq, Int.reduceBNe, Int.reduceEq, Int.reduceLT, Int.reduceLE, Int.reduceGT, Int.reduceNeg, reduceCtorEq, Int.cast_ofNat_Int, getE_zero, getE_one, getE_two, Option.isSome_none, d1]
end Go.Proofs.YtkpmachalipmpaaGreatDoor
/- The laws' own functions over lists of texts. Conditions: those of each lemma. -/
namespace Go.Proofs.YtkpmachalipmpaaGreatDoor
open E
set_option linter.unusedSimpArgs false
set_option linter.unusedVariables false
set_option maxRecDepth 100000

theorem l_szStringS (ks : List (List UInt8)) (hl : ks.length ≤ 9223372036854775807) (hs : ∀ s ∈ ks, s.length ≤ 9223372036854775807) : ∀ (d i : Nat) (n : Int), ks.length - i = d → i ≤ ks.length → 0 ≤ n → n ≤ 1048576 →
    (0 ≤ n - (bulkS (ks.drop i) : Int) → EV Tryz.prog pol (.loop 73 122 0 [.t (.list 1 (strs ks)), .t (.int .i64 n), .t (.int .i64 (i : Int))] []) = some (.loop (.exit 0) [.t (.int .i64 (n - (bulkS (ks.drop i) : Int))), .bad] [])) ∧
    (n - (bulkS (ks.drop i) : Int) < 0 → ∃ v, EV Tryz.prog pol (.loop 73 122 0 [.t (.list 1 (strs ks)), .t (.int .i64 n), .t (.int .i64 (i : Int))] []) = some (.loop .ret [v, .t (.int .i64 (-1))] []))
  | 0, i, n, hd, hi, h0, h1 => by
    have hi' : i = ks.length := by omega
    subst hi'
    have hb : bulkS (ks.drop ks.length) = 0 := by simp [bulkS]
    rw [hb]
    refine ⟨fun _ => ?_, fun h => by omega⟩
    refine loop_eq Tryz.func73 rfl rfl ?_
    have c : decide (((ks.length : Nat) : Int) < ((ks.length : Nat) : Int)) = false := by simp
    simp only [↓GO, ↓DRW, GA, ren, renB, footX, refs, cellsV, cst, cstAt, nilC, idxAddr, E.load, E.store, binO, isC, bin, ibin, sbin, una, isShift, okCell, packV, lenV, blt, fnV, asArg, snapV, snapS, snapP, snapC, flatV, flatT, openK, layBack, allT, allZ, mkS, srcOf0, unN, idxV, nilEq, give, tupV, mkEnv, extV, pickV, LVS, OVS, LTS, TYS, PMS, pmT, Int.reduceToNat, Nat.reduceGT, ↓reduceIte, Nat.reduceAdd, Nat.reduceMul, Nat.reduceSub, Nat.reduceEqDiff, Nat.reduceLeDiff, Nat.reduceLT, Nat.reduceBEq, Int.reduceBEq, Int.reduceBNe, Int.reduceEq, Int.reduceLT, Int.reduceLE, Int.reduceGT, Int.reduceNeg, reduceCtorEq, strs_len, c]
    simp
  | d + 1, i, n, hd, hi, h0, h1 => by
    have hlt : i < ks.length := by omega
    rw [bulkS_drop ks i hlt]
    have c : decide ((i : Int) < ((ks.length : Nat) : Int)) = true := by simp; omega
    have hsl : ks[i].length ≤ 9223372036854775807 := hs _ (List.getElem_mem hlt)
    have IH := l_szStringS ks hl hs d (i + 1) (n - (ks[i].length : Int)) (by omega) (by omega)
    have e1 : (i : Int) + 1 = ((i + 1 : Nat) : Int) := by omega
    by_cases hneg : n - (ks[i].length : Int) < 0
    · refine ⟨fun h => by omega, fun _ => ⟨.t (.int .i64 (n - (ks[i].length : Int))), ?_⟩⟩
      refine loop_eq Tryz.func73 rfl rfl ?_
      have c2 : decide (n - (ks[i].length : Int) < 0) = true := by simpa using hneg
      simp (disch := omega) only [↓GO, ↓DRW, GA, ren, renB, footX, refs, cellsV, cst, cstAt, nilC, idxAddr, E.load, E.store, binO, isC, bin, ibin, sbin, una, isShift, okCell, packV, lenV, blt, fnV, asArg, snapV, snapS, snapP, snapC, flatV, flatT, openK, layBack, allT, allZ, mkS, srcOf0, unN, idxV, nilEq, give, tupV, mkEnv, extV, pickV, LVS, OVS, LTS, TYS, PMS, pmT, Int.reduceToNat, Nat.reduceGT, ↓reduceIte, Nat.reduceAdd, Nat.reduceMul, Nat.reduceSub, Nat.reduceEqDiff, Nat.reduceLeDiff, Nat.reduceLT, Nat.reduceBEq, Int.reduceBEq, Int.reduceBNe, Int.reduceEq, Int.reduceLT, Int.reduceLE, Int.reduceGT, Int.reduceNeg, reduceCtorEq, strs_len, c, strs_get ks i hlt, wrap_in, c2]
    · have c2 : decide (n - (ks[i].length : Int) < 0) = false := by simpa using hneg
      obtain ⟨I1, I2⟩ := IH (by omega) (by omega)
      refine ⟨fun h => ?_, fun h => ?_⟩
      · refine loop_eq Tryz.func73 rfl rfl ?_
        simp (disch := omega) only [↓GO, ↓DRW, GA, ren, renB, footX, refs, cellsV, cst, cstAt, nilC, idxAddr, E.load, E.store, binO, isC, bin, ibin, sbin, una, isShift, okCell, packV, lenV, blt, fnV, asArg, snapV, snapS, snapP, snapC, flatV, flatT, openK, layBack, allT, allZ, mkS, srcOf0, unN, idxV, nilEq, give, tupV, mkEnv, extV, pickV, LVS, OVS, LTS, TYS, PMS, pmT, Int.reduceToNat, Nat.reduceGT, ↓reduceIte, Nat.reduceAdd, Nat.reduceMul, Nat.reduceSub, Nat.reduceEqDiff, Nat.reduceLeDiff, Nat.reduceLT, Nat.reduceBEq, Int.reduceBEq, Int.reduceBNe, Int.reduceEq, Int.reduceLT, Int.reduceLE, Int.reduceGT, Int.reduceNeg, reduceCtorEq, strs_len, c, strs_get ks i hlt, wrap_in, c2, e1]
        rw [I1 (by omega), show n - (ks[i].length : Int) - (bulkS (ks.drop (i + 1)) : Int) = n - ((ks[i].length + bulkS (ks.drop (i + 1)) : Nat) : Int) by omega]
      · obtain ⟨v, hv⟩ := I2 (by omega)
        refine ⟨v, ?_⟩
        refine loop_eq Tryz.func73 rfl rfl ?_
        simp (disch := omega) only [↓GO, ↓DRW, GA, ren, renB, footX, refs, cellsV, cst, cstAt, nilC, idxAddr, E.load, E.store, binO, isC, bin, ibin, sbin, una, isShift, okCell, packV, lenV, blt, fnV, asArg, snapV, snapS, snapP, snapC, flatV, flatT, openK, layBack, allT, allZ, mkS, srcOf0, unN, idxV, nilEq, give, tupV, mkEnv, extV, pickV, LVS, OVS, LTS, TYS, PMS, pmT, Int.reduceToNat, Nat.reduceGT, ↓reduceIte, Nat.reduceAdd, Nat.reduceMul, Nat.reduceSub, Nat.reduceEqDiff, Nat.reduceLeDiff, Nat.reduceLT, Nat.reduceBEq, Int.reduceBEq, Int.reduceBNe, Int.reduceEq, Int.reduceLT, Int.reduceLE, Int.reduceGT, Int.reduceNeg, reduceCtorEq, strs_len, c, strs_get ks i hlt, wrap_in, c2, e1]
        exact hv
theorem c_szStringS (ks : List (List UInt8)) (hl : ks.length ≤ 9223372036854775807) (hs : ∀ s ∈ ks, s.length ≤ 9223372036854775807) (n : Int) (h0 : 0 ≤ n) (h1 : n ≤ 1048576) :
    callPure (EV Tryz.prog pol) 73 [.t (.list 1 (strs ks)), .t (.int .i64 n)] = some (.t (.int .i64 (left n (ks.length + bulkS ks)))) := by
  apply eq_call
  refine call_eq rfl Tryz.func73 rfl (by kernel_rfl) ?_
  unfold Tryz.f73
  by_cases hneg : n - (ks.length : Int) < 0
  · have c2 : decide (n - (ks.length : Int) < 0) = true := by simpa using hneg
    simp (disch := omega) only [↓GO, ↓DRW, GA, ren, renB, footX, refs, cellsV, cst, cstAt, nilC, idxAddr, E.load, E.store, binO, isC, bin, ibin, sbin, una, isShift, okCell, packV, lenV, blt, fnV, asArg, snapV, snapS, snapP, snapC, flatV, flatT, openK, layBack, allT, allZ, mkS, srcOf0, unN, idxV, nilEq, give, tupV, mkEnv, extV, pickV, LVS, OVS, LTS, TYS, PMS, pmT, Int.reduceToNat, Nat.reduceGT, ↓reduceIte, Nat.reduceAdd, Nat.reduceMul, Nat.reduceSub, Nat.reduceEqDiff, Nat.reduceLeDiff, Nat.reduceLT, Nat.reduceBEq, Int.reduceBEq, Int.reduceBNe, Int.reduceEq, Int.reduceLT, Int.reduceLE, Int.reduceGT, Int.reduceNeg, reduceCtorEq, strs_len, wrap_in, c2]
    rw [left, if_pos (by omega)]
  · have c2 : decide (n - (ks.length : Int) < 0) = false := by simpa using hneg
    obtain ⟨I1, I2⟩ := l_szStringS ks hl hs ks.length 0 (n - (ks.length : Int)) (by omega) (by omega) (by omega) (by omega)
    simp only [List.drop_zero, Int.natCast_zero] at I1 I2
    by_cases hn2 : n - (ks.length : Int) - (bulkS ks : Int) < 0
    · obtain ⟨v, hv⟩ := I2 hn2
      simp (disch := omega) only [↓GO, ↓DRW, GA, ren, renB, footX, refs, cellsV, cst, cstAt, nilC, idxAddr, E.load, E.store, binO, isC, bin, ibin, sbin, una, isShift, okCell, packV, lenV, blt, fnV, asArg, snapV, snapS, snapP, snapC, flatV, flatT, openK, layBack, allT, allZ, mkS, srcOf0, unN, idxV, nilEq, give, tupV, mkEnv, extV, pickV, LVS, OVS, LTS, TYS, PMS, pmT, Int.reduceToNat, Nat.reduceGT, ↓reduceIte, Nat.reduceAdd, Nat.reduceMul, Nat.reduceSub, Nat.reduceEqDiff, Nat.reduceLeDiff, Nat.reduceLT, Nat.reduceBEq, Int.reduceBEq, Int.reduceBNe, Int.reduceEq, Int.reduceLT, Int.reduceLE, Int.reduceGT, Int.reduceNeg, reduceCtorEq, strs_len, wrap_in, c2, hv]
      rw [left, if_pos (by omega)]
    · simp (disch := omega) only [↓GO, ↓DRW, GA, ren, renB, footX, refs, cellsV, cst, cstAt, nilC, idxAddr, E.load, E.store, binO, isC, bin, ibin, sbin, una, isShift, okCell, packV, lenV, blt, fnV, asArg, snapV, snapS, snapP, snapC, flatV, flatT, openK, layBack, allT, allZ, mkS, srcOf0, unN, idxV, nilEq, give, tupV, mkEnv, extV, pickV, LVS, OVS, LTS, TYS, PMS, pmT, Int.reduceToNat, Nat.reduceGT, ↓reduceIte, Nat.reduceAdd, Nat.reduceMul, Nat.reduceSub, Nat.reduceEqDiff, Nat.reduceLeDiff, Nat.reduceLT, Nat.reduceBEq, Int.reduceBEq, Int.reduceBNe, Int.reduceEq, Int.reduceLT, Int.reduceLE, Int.reduceGT, Int.reduceNeg, reduceCtorEq, strs_len, wrap_in, c2, I1 (by omega)]
      rw [left, if_neg (by omega), show n - (ks.length : Int) - (bulkS ks : Int) = n - ((ks.length + bulkS ks : Nat) : Int) by omega]
theorem l_toStringS (ks : List (List UInt8)) (hl : ks.length ≤ 1048576) : ∀ (d i : Nat), ks.length - i = d → i ≤ ks.length →
    EV Tryz.prog pol (.loop 76 58 0 [.t (.list 1 (strs ks)), .sl 0 0 ks.length (some ks.length), .t (.int .i64 (i : Int))] [.ts 1 (fillE (strs ks) [.str []] i)]) = some (.loop (.exit 0) [.sl 0 0 ks.length (some ks.length)] [.ts 1 (strs ks)])
  | 0, i, hd, hi => by
    have hi' : i = ks.length := by omega
    subst hi'
    refine loop_eq Tryz.func76 rfl rfl ?_
    have c : decide (((ks.length : Nat) : Int) < ((ks.length : Nat) : Int)) = false := by simp
    have hf : fillE (strs ks) [.str []] ks.length = strs ks := by rw [← strs_len ks]; exact fillE_all _ _
    simp only [↓GO, ↓DRW, GA, ren, renB, footX, refs, cellsV, cst, cstAt, nilC, idxAddr, E.load, E.store, binO, isC, bin, ibin, sbin, una, isShift, okCell, packV, lenV, blt, fnV, asArg, snapV, snapS, snapP, snapC, flatV, flatT, openK, layBack, allT, allZ, mkS, srcOf0, unN, idxV, nilEq, give, tupV, mkEnv, extV, pickV, LVS, OVS, LTS, TYS, PMS, pmT, Int.reduceToNat, Nat.reduceGT, ↓reduceIte, Nat.reduceAdd, Nat.reduceMul, Nat.reduceSub, Nat.reduceEqDiff, Nat.reduceLeDiff, Nat.reduceLT, Nat.reduceBEq, Int.reduceBEq, Int.reduceBNe, Int.reduceEq, Int.reduceLT, Int.reduceLE, Int.reduceGT, Int.reduceNeg, reduceCtorEq, strs_len, c, hf]
  | d + 1, i, hd, hi => by
    have hlt : i < ks.length := by omega
    have hlt' : i < (strs ks).length := by rw [strs_len]; exact hlt
    have c : decide ((i : Int) < ((ks.length : Nat) : Int)) = true := by simp; omega
    have c0 : decide ((0 : Int) ≤ (i : Int)) = true := by simp
    have IH := l_toStringS ks hl d (i + 1) (by omega) (by omega)
    have e1 : (i : Int) + 1 = ((i + 1 : Nat) : Int) := by omega
    have hg := fillE_get (strs ks) [.str []] i hlt'
    have hs := fillE_set (strs ks) [.str []] i hlt'
    have hx : (strs ks)[i] = [.str ks[i]] := by simp [strs]
    rw [hx] at hs
    refine loop_eq Tryz.func76 rfl rfl ?_
    simp (disch := omega) only [↓GO, ↓DRW, GA, ren, renB, footX, refs, cellsV, cst, cstAt, nilC, idxAddr, E.load, E.store, binO, isC, bin, ibin, sbin, una, isShift, okCell, packV, lenV, blt, fnV, asArg, snapV, snapS, snapP, snapC, flatV, flatT, openK, layBack, allT, allZ, mkS, srcOf0, unN, idxV, nilEq, give, tupV, mkEnv, extV, pickV, LVS, OVS, LTS, TYS, PMS, pmT, Int.reduceToNat, Nat.reduceGT, ↓reduceIte, Nat.reduceAdd, Nat.reduceMul, Nat.reduceSub, Nat.reduceEqDiff, Nat.reduceLeDiff, Nat.reduceLT, Nat.reduceBEq, Int.reduceBEq, Int.reduceBNe, Int.reduceEq, Int.reduceLT, Int.reduceLE, Int.reduceGT, Int.reduceNeg, reduceCtorEq, strs_len, c, c0, strs_get ks i hlt, wrap_in, e1, hg, Int.toNat_natCast, hs]
    exact IH
theorem c_toStringS (ks : List (List UInt8)) (hl : ks.length ≤ 1048576) : callPure (EV Tryz.prog pol) 76 [.t (.list 1 (strs ks))] = some (.t (.list 1 (strs ks))) := by
  apply eq_call
  refine call_eq rfl Tryz.func76 rfl (by kernel_rfl) ?_
  unfold Tryz.f76
  have h1 : ¬ ((ks.length : Int) < 0) := by omega
  have h2 : ¬ (ks.length * 16 > 140737488355328) := by omega
  have h3 : ¬ (ks.length > 140737488355328) := by omega
  have hz : List.replicate ks.length [T.str []] = fillE (strs ks) [.str []] 0 := by rw [fillE_zero, strs_len]
  have IH := l_toStringS ks hl ks.length 0 (by omega) (by omega)
  simp only [Int.natCast_zero] at IH
  have ht : (strs ks).take ks.length = strs ks := by rw [← strs_len ks]; simp
  simp (disch := omega) only [↓GO, ↓DRW, GA, ren, renB, footX, refs, cellsV, cst, cstAt, nilC, idxAddr, E.load, E.store, binO, isC, bin, ibin, sbin, una, isShift, okCell, packV, lenV, blt, fnV, asArg, snapV, snapS, snapP, snapC, flatV, flatT, openK, layBack, allT, allZ, mkS, srcOf0, unN, idxV, nilEq, give, tupV, mkEnv, extV, pickV, LVS, OVS, LTS, TYS, PMS, pmT, Int.reduceToNat, Nat.reduceGT, ↓reduceIte, Nat.reduceAdd, Nat.reduceMul, Nat.reduceSub, Nat.reduceEqDiff, Nat.reduceLeDiff, Nat.reduceLT, Nat.reduceBEq, Int.reduceBEq, Int.reduceBNe, Int.reduceEq, Int.reduceLT, Int.reduceLE, Int.reduceGT, Int.reduceNeg, reduceCtorEq, strs_len, Int.toNat_natCast, h1, h2, h3, hz, IH, ne_eq, not_true_eq_false, ht]

theorem l_eqStringS (ks : List (List UInt8)) (hl : ks.length ≤ 1048576) : ∀ (d i : Nat), ks.length - i = d → i ≤ ks.length →
    EV Tryz.prog pol (.loop 79 58 0 [.t (.list 1 (strs ks)), .t (.list 1 (strs ks)), .t (.int .i64 (i : Int))] []) = some (.loop (.exit 0) [.bad] [])
  | 0, i, hd, hi => by
    have hi' : i = ks.length := by omega
    subst hi'
    refine loop_eq Tryz.func79 rfl rfl ?_
    have c : decide (((ks.length : Nat) : Int) < ((ks.length : Nat) : Int)) = false := by simp
    simp only [↓GO, ↓DRW, GA, ren, renB, footX, refs, cellsV, cst, cstAt, nilC, idxAddr, E.load, E.store, binO, isC, bin, ibin, sbin, una, isShift, okCell, packV, lenV, blt, fnV, asArg, snapV, snapS, snapP, snapC, flatV, flatT, openK, layBack, allT, allZ, mkS, srcOf0, unN, idxV, nilEq, give, tupV, mkEnv, extV, pickV, LVS, OVS, LTS, TYS, PMS, pmT, Int.reduceToNat, Nat.reduceGT, ↓reduceIte, Nat.reduceAdd, Nat.reduceMul, Nat.reduceSub, Nat.reduceEqDiff, Nat.reduceLeDiff, Nat.reduceLT, Nat.reduceBEq, Int.reduceBEq, Int.reduceBNe, Int.reduceEq, Int.reduceLT, Int.reduceLE, Int.reduceGT, Int.reduceNeg, reduceCtorEq, strs_len, c]
  | d + 1, i, hd, hi => by
    have hlt : i < ks.length := by omega
    have c : decide ((i : Int) < ((ks.length : Nat) : Int)) = true := by simp; omega
    have IH := l_eqStringS ks hl d (i + 1) (by omega) (by omega)
    have e1 : (i : Int) + 1 = ((i + 1 : Nat) : Int) := by omega
    refine loop_eq Tryz.func79 rfl rfl ?_
    simp (disch := omega) only [↓GO, ↓DRW, GA, ren, renB, footX, refs, cellsV, cst, cstAt, nilC, idxAddr, E.load, E.store, binO, isC, bin, ibin, sbin, una, isShift, okCell, packV, lenV, blt, fnV, asArg, snapV, snapS, snapP, snapC, flatV, flatT, openK, layBack, allT, allZ, mkS, srcOf0, unN, idxV, nilEq, give, tupV, mkEnv, extV, pickV, LVS, OVS, LTS, TYS, PMS, pmT, Int.reduceToNat, Nat.reduceGT, ↓reduceIte, Nat.reduceAdd, Nat.reduceMul, Nat.reduceSub, Nat.reduceEqDiff, Nat.reduceLeDiff, Nat.reduceLT, Nat.reduceBEq, Int.reduceBEq, Int.reduceBNe, Int.reduceEq, Int.reduceLT, Int.reduceLE, Int.reduceGT, Int.reduceNeg, reduceCtorEq, strs_len, c, strs_get ks i hlt, wrap_in, e1]
    exact IH
theorem c_eqStringS (ks : List (List UInt8)) (hl : ks.length ≤ 1048576) : callPure (EV Tryz.prog pol) 79 [.t (.list 1 (strs ks)), .t (.list 1 (strs ks))] = some (.t (.bool true)) := by
  apply eq_call
  refine call_eq rfl Tryz.func79 rfl (by kernel_rfl) ?_
  unfold Tryz.f79
  have IH := l_eqStringS ks hl ks.length 0 (by omega) (by omega)
  simp only [Int.natCast_zero] at IH
  simp only [↓GO, ↓DRW, GA, ren, renB, footX, refs, cellsV, cst, cstAt, nilC, idxAddr, E.load, E.store, binO, isC, bin, ibin, sbin, una, isShift, okCell, packV, lenV, blt, fnV, asArg, snapV, snapS, snapP, snapC, flatV, flatT, openK, layBack, allT, allZ, mkS, srcOf0, unN, idxV, nilEq, give, tupV, mkEnv, extV, pickV, LVS, OVS, LTS, TYS, PMS, pmT, Int.reduceToNat, Nat.reduceGT, ↓reduceIte, Nat.reduceAdd, Nat.reduceMul, Nat.reduceSub, Nat.reduceEqDiff, Nat.reduceLeDiff, Nat.reduceLT, Nat.reduceBEq, Int.reduceBEq, Int.reduceBNe, Int.reduceEq, Int.reduceLT, Int.reduceLE, Int.reduceGT, Int.reduceNeg, reduceCtorEq, strs_len, IH, bne_self_eq_false]
end Go.Proofs.YtkpmachalipmpaaGreatDoor

/- Digits and quotes, by both. Conditions: those of each lemma. -/
import Derived.Test.YtdhejeigbjmncaaDoorP1
namespace Go.Proofs.YtdhejeigbjmncaaDoor
open E
set_option linter.unusedSimpArgs false
set_option linter.unusedVariables false
set_option maxRecDepth 100000
/-- bytes as a slice's elements -/
def bytesT (l : Str) : List (List T) := l.map fun b => [.int .u8 (b.toNat : Int)]
theorem bytesT_len (l : Str) : (bytesT l).length = l.length := by simp [bytesT]
theorem bytesT_app (a b : Str) : bytesT (a ++ b) = bytesT a ++ bytesT b := by simp [bytesT]
theorem bytesT_nil : bytesT [] = [] := rfl
theorem bytesT_cons (b : UInt8) (l : Str) : bytesT (b :: l) = [.int .u8 (b.toNat : Int)] :: bytesT l := rfl
theorem bytesOf_T : ∀ l : Str, bytesOf (bytesT l) = some (l.map fun b => (b.toNat : Int))
  | [] => rfl
  | b :: l => by rw [bytesT_cons]; simp only [bytesOf, bytesOf_T l, List.map_cons]
theorem bytes_back (l : Str) : (l.map fun b => (b.toNat : Int)).map (fun n => UInt8.ofNat n.toNat) = l := by
  rw [List.map_map]
  have : ((fun n : Int => UInt8.ofNat n.toNat) ∘ fun b : UInt8 => (b.toNat : Int)) = id := by funext b; simp
  rw [this]; simp
theorem bytesT_all (l : Str) {n : Nat} (h : l.length ≤ n) : (bytesT l).take n = bytesT l := List.take_of_length_le (by rw [bytesT_len]; exact h)
theorem sh4 (b : UInt8) : ishift .shr .u8 (b.toNat : Int) 4 = some ((b.toNat / 16 : Nat) : Int) := by
  have key : ∀ n : Fin 256, ishift .shr .u8 (n.val : Int) 4 = some ((n.val / 16 : Nat) : Int) := by decide +kernel
  exact key ⟨b.toNat, b.toNat_lt⟩
theorem and15 (b : UInt8) : ibits .and .u8 (b.toNat : Int) 15 = some ((b.toNat % 16 : Nat) : Int) := by
  have key : ∀ n : Fin 256, ibits .and .u8 (n.val : Int) 15 = some ((n.val % 16 : Nat) : Int) := by decide +kernel
  exact key ⟨b.toNat, b.toNat_lt⟩
theorem quo16 (b : UInt8) : IntKind.u8.wrap ((b.toNat : Int).tdiv 16) = ((b.toNat / 16 : Nat) : Int) := by
  have key : ∀ n : Fin 256, IntKind.u8.wrap ((n.val : Int).tdiv 16) = ((n.val / 16 : Nat) : Int) := by decide +kernel
  exact key ⟨b.toNat, b.toNat_lt⟩
theorem rem16 (b : UInt8) : (b.toNat : Int).tmod 16 = ((b.toNat % 16 : Nat) : Int) := by
  have key : ∀ n : Fin 256, (n.val : Int).tmod 16 = ((n.val % 16 : Nat) : Int) := by decide +kernel
  exact key ⟨b.toNat, b.toNat_lt⟩
theorem hexGet {n : Nat} (h : n < 16) : ([48, 49, 50, 51, 52, 53, 54, 55, 56, 57, 97, 98, 99, 100, 101, 102] : List UInt8)[n]? = some (hexD n) := by
  have key : ∀ n : Fin 16, ([48, 49, 50, 51, 52, 53, 54, 55, 56, 57, 97, 98, 99, 100, 101, 102] : List UInt8)[n.val]? = some (hexD n.val) := by decide
  exact key ⟨n, h⟩
theorem hi16 (b : UInt8) : b.toNat / 16 < 16 := by have := b.toNat_lt; omega
theorem lo16 (b : UInt8) : b.toNat % 16 < 16 := by omega
theorem hexS_snoc (pre : Str) (b : UInt8) : hexS (pre ++ [b]) = hexS pre ++ [hexD (b.toNat / 16), hexD (b.toNat % 16)] := by simp [hexS, hexB]
theorem dyn_pos {α : Type} {b : Bool} {x y r : Option α} (h : b = true) (hx : x = r) : (if b = true then x else y) = r := by rw [h]; exact hx
theorem l_hexI (s : Str) (hl : s.length ≤ 1073741824) : ∀ (rest pre : Str) (cap : Option Nat), s = pre ++ rest →
    ∃ cap', EV Tryd.prog pol (.loop 33 58 0 [.t (.str s), .sl 0 0 (hexS pre).length cap, .t (.int .i64 (s.length : Int)), .t (.int .i64 (pre.length : Int))] [.ts 1 (bytesT (hexS pre))]) = some (.loop (.exit 0) [.sl 0 0 (hexS s).length cap'] [.ts 1 (bytesT (hexS s))])
  | [], pre, cap, hs => by
    have c : decide ((pre.length : Int) < (s.length : Int)) = false := by simp [hs]
    have hp : s = pre := by simpa using hs
    refine ⟨cap, loop_eq Tryd.func33 rfl rfl ?_⟩
    simp only [↓GO, ↓DRW, GA, ren, renB, footX, refs, cellsV, cst, cstAt, nilC, idxAddr, E.load, E.store, binO, isC, bin, ibin, sbin, una, isShift, okCell, packV, lenV, blt, fnV, asArg, snapV, snapS, snapP, snapC, flatV, flatT, openK, layBack, allT, allZ, mkS, srcOf0, unN, idxV, nilEq, give, tupV, mkEnv, extV, pickV, LVS, OVS, LTS, TYS, PMS, pmT, Int.reduceToNat, Nat.reduceGT, ↓reduceIte, Nat.reduceAdd, Nat.reduceMul, Nat.reduceSub, Nat.reduceEqDiff, Nat.reduceLeDiff, Nat.reduceLT, Nat.reduceBEq, Int.reduceBEq, Int.reduceBNe, Int.reduceEq, Int.reduceLT, Int.reduceLE, Int.reduceGT, Int.reduceNeg, reduceCtorEq, c]
    rw [hp]
  | b :: rest, pre, cap, hs => by
    have c : decide ((pre.length : Int) < (s.length : Int)) = true := by simp [hs]; omega
    have hget : s[pre.length]? = some b := by rw [hs]; exact at_zip pre b rest
    have hlen : s.length = pre.length + rest.length + 1 := by rw [hs]; simp; omega
    have e1 : (pre.length : Int) + 1 = ((pre ++ [b]).length : Int) := by simp
    obtain ⟨cap', IH⟩ := l_hexI s hl rest (pre ++ [b]) none (by rw [hs]; simp)
    have hh := hexS_len pre
    have q1 : 0 + (hexS pre).length = (bytesT (hexS pre)).length := by rw [bytesT_len]; omega
    have q2 : ((hexS pre).length + 2) * 2 ≤ 140737488355328 := by omega
    have q3 : (hexS pre).length + 2 ≤ 140737488355328 := by omega
    have hx1 := hexGet (hi16 b)
    have hx2 := hexGet (lo16 b)
    refine ⟨cap', loop_eq Tryd.func33 rfl rfl ?_⟩
    simp (disch := omega) only [↓GO, ↓DRW, GA, ren, renB, footX, refs, cellsV, cst, cstAt, nilC, idxAddr, E.load, E.store, binO, isC, bin, ibin, sbin, una, isShift, okCell, packV, lenV, blt, fnV, asArg, snapV, snapS, snapP, snapC, flatV, flatT, openK, layBack, allT, allZ, mkS, srcOf0, unN, idxV, nilEq, give, tupV, mkEnv, extV, pickV, LVS, OVS, LTS, TYS, PMS, pmT, Int.reduceToNat, Nat.reduceGT, ↓reduceIte, Nat.reduceAdd, Nat.reduceMul, Nat.reduceSub, Nat.reduceEqDiff, Nat.reduceLeDiff, Nat.reduceLT, Nat.reduceBEq, Int.reduceBEq, Int.reduceBNe, Int.reduceEq, Int.reduceLT, Int.reduceLE, Int.reduceGT, Int.reduceNeg, reduceCtorEq, c, hget, wrap_in, sh4, and15, hx1, hx2, bytesT_len, q2, q3]
    refine dyn_pos (by kernel_rfl) ?_
    rw [e1]
    rw [hexS_snoc, bytesT_app] at IH
    simp only [List.length_append, List.length_cons, List.length_nil] at IH ⊢
    exact IH
theorem c_hexI (s : Str) (hl : s.length ≤ 1073741824) : callPure (EV Tryd.prog pol) 33 [.t (.str s)] = some (.t (.str (hexS s))) := by
  obtain ⟨cap, IH⟩ := l_hexI s hl s [] (some 0) rfl
  simp only [List.length_nil, Int.natCast_zero, hexS, List.flatMap_nil, bytesT_nil] at IH
  have ht := bytesT_all (hexS s) (Nat.le_refl _)
  simp only [hexS] at ht
  apply eq_call
  refine call_eq rfl Tryd.func33 rfl (by kernel_rfl) ?_
  unfold Tryd.f33
  simp only [↓GO, ↓DRW, GA, ren, renB, footX, refs, cellsV, cst, cstAt, nilC, idxAddr, E.load, E.store, binO, isC, bin, ibin, sbin, una, isShift, okCell, packV, lenV, blt, fnV, asArg, snapV, snapS, snapP, snapC, flatV, flatT, openK, layBack, allT, allZ, mkS, srcOf0, unN, idxV, nilEq, give, tupV, mkEnv, extV, pickV, LVS, OVS, LTS, TYS, PMS, pmT, Int.reduceToNat, Nat.reduceGT, ↓reduceIte, Nat.reduceAdd, Nat.reduceMul, Nat.reduceSub, Nat.reduceEqDiff, Nat.reduceLeDiff, Nat.reduceLT, Nat.reduceBEq, Int.reduceBEq, Int.reduceBNe, Int.reduceEq, Int.reduceLT, Int.reduceLE, Int.reduceGT, Int.reduceNeg, reduceCtorEq, IH, hexS, conv, bytesElem, ht, bytesOf_T, bytes_back]
theorem l_hexR (s : Str) (hl : s.length ≤ 1073741824) : ∀ (rest pre : Str) (cap : Option Nat), s = pre ++ rest →
    ∃ cap', EV Tryd.prog pol (.loop 29 58 0 [.t (.str s), .sl 0 0 (hexS pre).length cap, .t (.int .i64 (pre.length : Int))] [.ts 1 (bytesT (hexS pre))]) = some (.loop (.exit 0) [.sl 0 0 (hexS s).length cap'] [.ts 1 (bytesT (hexS s))])
  | [], pre, cap, hs => by
    have c : decide ((pre.length : Int) < (s.length : Int)) = false := by simp [hs]
    have hp : s = pre := by simpa using hs
    refine ⟨cap, loop_eq Tryd.func29 rfl rfl ?_⟩
    simp only [↓GO, ↓DRW, GA, ren, renB, footX, refs, cellsV, cst, cstAt, nilC, idxAddr, E.load, E.store, binO, isC, bin, ibin, sbin, una, isShift, okCell, packV, lenV, blt, fnV, asArg, snapV, snapS, snapP, snapC, flatV, flatT, openK, layBack, allT, allZ, mkS, srcOf0, unN, idxV, nilEq, give, tupV, mkEnv, extV, pickV, LVS, OVS, LTS, TYS, PMS, pmT, Int.reduceToNat, Nat.reduceGT, ↓reduceIte, Nat.reduceAdd, Nat.reduceMul, Nat.reduceSub, Nat.reduceEqDiff, Nat.reduceLeDiff, Nat.reduceLT, Nat.reduceBEq, Int.reduceBEq, Int.reduceBNe, Int.reduceEq, Int.reduceLT, Int.reduceLE, Int.reduceGT, Int.reduceNeg, reduceCtorEq, c]
    rw [hp]
  | b :: rest, pre, cap, hs => by
    have c : decide ((pre.length : Int) < (s.length : Int)) = true := by simp [hs]; omega
    have hget : s[pre.length]? = some b := by rw [hs]; exact at_zip pre b rest
    have hlen : s.length = pre.length + rest.length + 1 := by rw [hs]; simp; omega
    have e1 : (pre.length : Int) + 1 = ((pre ++ [b]).length : Int) := by simp
    obtain ⟨cap', IH⟩ := l_hexR s hl rest (pre ++ [b]) none (by rw [hs]; simp)
    have hh := hexS_len pre
    have q2 : ((hexS pre).length + 2) * 2 ≤ 140737488355328 := by omega
    have q3 : (hexS pre).length + 2 ≤ 140737488355328 := by omega
    have hx1 := hexGet (hi16 b)
    have hx2 := hexGet (lo16 b)
    refine ⟨cap', loop_eq Tryd.func29 rfl rfl ?_⟩
    simp (disch := omega) only [↓GO, ↓DRW, GA, ren, renB, footX, refs, cellsV, cst, cstAt, nilC, idxAddr, E.load, E.store, binO, isC, bin, ibin, sbin, una, isShift, okCell, packV, lenV, blt, fnV, asArg, snapV, snapS, snapP, snapC, flatV, flatT, openK, layBack, allT, allZ, mkS, srcOf0, unN, idxV, nilEq, give, tupV, mkEnv, extV, pickV, LVS, OVS, LTS, TYS, PMS, pmT, Int.reduceToNat, Nat.reduceGT, ↓reduceIte, Nat.reduceAdd, Nat.reduceMul, Nat.reduceSub, Nat.reduceEqDiff, Nat.reduceLeDiff, Nat.reduceLT, Nat.reduceBEq, Int.reduceBEq, Int.reduceBNe, Int.reduceEq, Int.reduceLT, Int.reduceLE, Int.reduceGT, Int.reduceNeg, reduceCtorEq, c, hget, wrap_in, quo16, rem16, hx1, hx2, bytesT_len, q2, q3]
    refine dyn_pos (by kernel_rfl) ?_
    rw [e1]
    rw [hexS_snoc, bytesT_app] at IH
    simp only [List.length_append, List.length_cons, List.length_nil] at IH ⊢
    exact IH
theorem c_hexR (s : Str) (hl : s.length ≤ 1073741824) : callPure (EV Tryd.prog pol) 29 [.t (.str s)] = some (.t (.str (hexS s))) := by
  obtain ⟨cap, IH⟩ := l_hexR s hl s [] (some 0) rfl
  simp only [List.length_nil, Int.natCast_zero, hexS, List.flatMap_nil, bytesT_nil] at IH
  have ht := bytesT_all (hexS s) (Nat.le_refl _)
  simp only [hexS] at ht
  apply eq_call
  refine call_eq rfl Tryd.func29 rfl (by kernel_rfl) ?_
  unfold Tryd.f29
  simp only [↓GO, ↓DRW, GA, ren, renB, footX, refs, cellsV, cst, cstAt, nilC, idxAddr, E.load, E.store, binO, isC, bin, ibin, sbin, una, isShift, okCell, packV, lenV, blt, fnV, asArg, snapV, snapS, snapP, snapC, flatV, flatT, openK, layBack, allT, allZ, mkS, srcOf0, unN, idxV, nilEq, give, tupV, mkEnv, extV, pickV, LVS, OVS, LTS, TYS, PMS, pmT, Int.reduceToNat, Nat.reduceGT, ↓reduceIte, Nat.reduceAdd, Nat.reduceMul, Nat.reduceSub, Nat.reduceEqDiff, Nat.reduceLeDiff, Nat.reduceLT, Nat.reduceBEq, Int.reduceBEq, Int.reduceBNe, Int.reduceEq, Int.reduceLT, Int.reduceLE, Int.reduceGT, Int.reduceNeg, reduceCtorEq, IH, hexS, conv, bytesElem, ht, bytesOf_T, bytes_back]
theorem hexS_one (b : UInt8) : hexS [b] = hexB b := by simp [hexS]
/-- what a byte is, asked in the order in which both ask -/
theorem byte_cases (b : UInt8) {p : Prop} (h34 : ((b.toNat : Int) == 34) = true → quoteB b = [92, b] → p) (h92 : ((b.toNat : Int) == 34) = false → ((b.toNat : Int) == 92) = true → quoteB b = [92, b] → p)
    (h10 : ((b.toNat : Int) == 34) = false → ((b.toNat : Int) == 92) = false → ((b.toNat : Int) == 10) = true → quoteB b = [92, 110] → p)
    (h32 : ((b.toNat : Int) == 34) = false → ((b.toNat : Int) == 92) = false → ((b.toNat : Int) == 10) = false → decide ((b.toNat : Int) < 32) = true → quoteB b = [92, 120] ++ hexB b → p)
    (h127 : ((b.toNat : Int) == 34) = false → ((b.toNat : Int) == 92) = false → ((b.toNat : Int) == 10) = false → decide ((b.toNat : Int) < 32) = false → decide ((b.toNat : Int) ≥ 127) = true → decide ((b.toNat : Int) > 126) = true → quoteB b = [92, 120] ++ hexB b → p)
    (hp : ((b.toNat : Int) == 34) = false → ((b.toNat : Int) == 92) = false → ((b.toNat : Int) == 10) = false → decide ((b.toNat : Int) < 32) = false → decide ((b.toNat : Int) ≥ 127) = false → decide ((b.toNat : Int) > 126) = false → quoteB b = [b] → p) : p := by
  by_cases a1 : b.toNat = 34
  · exact h34 (by simp [a1]) (by simp [quoteB, a1])
  · have b1 : ((b.toNat : Int) == 34) = false := by simp; omega
    by_cases a2 : b.toNat = 92
    · exact h92 b1 (by simp [a2]) (by simp [quoteB, a2])
    · have b2 : ((b.toNat : Int) == 92) = false := by simp; omega
      by_cases a3 : b.toNat = 10
      · exact h10 b1 b2 (by simp [a3]) (by simp [quoteB, a3])
      · have b3 : ((b.toNat : Int) == 10) = false := by simp; omega
        by_cases a4 : b.toNat < 32
        · exact h32 b1 b2 b3 (by simp; omega) (by unfold quoteB; rw [if_neg (by omega), if_neg a3, if_pos (.inl a4)])
        · have b4 : decide ((b.toNat : Int) < 32) = false := by simp; omega
          by_cases a5 : 127 ≤ b.toNat
          · exact h127 b1 b2 b3 b4 (by simp; omega) (by simp; omega) (by unfold quoteB; rw [if_neg (by omega), if_neg a3, if_pos (.inr a5)])
          · exact hp b1 b2 b3 b4 (by simp; omega) (by simp; omega) (by unfold quoteB; rw [if_neg (by omega), if_neg a3, if_neg (by omega)])
def qOpen (pre : Str) : Str := 34 :: pre.flatMap quoteB
theorem qOpen_snoc (pre : Str) (b : UInt8) : qOpen (pre ++ [b]) = qOpen pre ++ quoteB b := by simp [qOpen]
theorem qOpen_len (pre : Str) : (qOpen pre).length ≤ 4 * pre.length + 1 := by
  have := flat_le quoteB 4 (fun b => (quoteB_len b).1) pre
  simp only [qOpen, List.length_cons]; omega
theorem quoteS_eq (s : Str) : quoteS s = qOpen s ++ [34] := rfl
theorem l_quoteI (s : Str) (hl : s.length ≤ 134217728) : ∀ (rest pre : Str), s = pre ++ rest →
    EV Tryd.prog pol (.loop 26 58 0 [.t (.str s), .t (.str (qOpen pre)), .t (.int .i64 (s.length : Int)), .t (.int .i64 (pre.length : Int))] []) = some (.loop (.exit 0) [.t (.str (qOpen s))] [])
  | [], pre, hs => by
    have c : decide ((pre.length : Int) < (s.length : Int)) = false := by simp [hs]
    have hp : s = pre := by simpa using hs
    refine loop_eq Tryd.func26 rfl rfl ?_
    simp only [↓GO, ↓DRW, GA, ren, renB, footX, refs, cellsV, cst, cstAt, nilC, idxAddr, E.load, E.store, binO, isC, bin, ibin, sbin, una, isShift, okCell, packV, lenV, blt, fnV, asArg, snapV, snapS, snapP, snapC, flatV, flatT, openK, layBack, allT, allZ, mkS, srcOf0, unN, idxV, nilEq, give, tupV, mkEnv, extV, pickV, LVS, OVS, LTS, TYS, PMS, pmT, Int.reduceToNat, Nat.reduceGT, ↓reduceIte, Nat.reduceAdd, Nat.reduceMul, Nat.reduceSub, Nat.reduceEqDiff, Nat.reduceLeDiff, Nat.reduceLT, Nat.reduceBEq, Int.reduceBEq, Int.reduceBNe, Int.reduceEq, Int.reduceLT, Int.reduceLE, Int.reduceGT, Int.reduceNeg, reduceCtorEq, c]
    rw [hp]
  | b :: rest, pre, hs => by
    have c : decide ((pre.length : Int) < (s.length : Int)) = true := by simp [hs]; omega
    have hget : s[pre.length]? = some b := by rw [hs]; exact at_zip pre b rest
    have hone : (s.drop pre.length).take (pre.length + 1 - pre.length) = [b] := by rw [hs]; exact one_of pre b rest
    have hlen : pre.length + rest.length + 1 ≤ s.length := by rw [hs]; simp; omega
    have IH := l_quoteI s hl rest (pre ++ [b]) (by rw [hs]; simp)
    clear hs
    have hq := qOpen_len pre
    have hxl : (hexB b).length ≤ 2 := by rw [hexB_len]; omega
    have hhex := c_hexI [b] (by simp)
    rw [qOpen_snoc] at IH
    refine loop_eq Tryd.func26 rfl rfl ?_
    refine byte_cases b (fun b1 hb => ?_) (fun b1 b2 hb => ?_) (fun b1 b2 b3 hb => ?_) (fun b1 b2 b3 b4 hb => ?_) (fun b1 b2 b3 b4 b5 b6 hb => ?_) (fun b1 b2 b3 b4 b5 b6 hb => ?_) <;> rw [hb] at IH
    all_goals
      simp (disch := ((try simp only [List.length_cons, List.length_append, List.length_nil, List.length_map]); omega)) only [↓GO, ↓DRW, GA, ren, renB, footX, refs, cellsV, cst, cstAt, nilC, idxAddr, E.load, E.store, binO, isC, bin, ibin, sbin, una, isShift, okCell, packV, lenV, blt, fnV, asArg, snapV, snapS, snapP, snapC, flatV, flatT, openK, layBack, allT, allZ, mkS, srcOf0, unN, idxV, nilEq, give, tupV, mkEnv, extV, pickV, LVS, OVS, LTS, TYS, PMS, pmT, Int.reduceToNat, Nat.reduceGT, ↓reduceIte, Nat.reduceAdd, Nat.reduceMul, Nat.reduceSub, Nat.reduceEqDiff, Nat.reduceLeDiff, Nat.reduceLT, Nat.reduceBEq, Int.reduceBEq, Int.reduceBNe, Int.reduceEq, Int.reduceLT, Int.reduceLE, Int.reduceGT, Int.reduceNeg, reduceCtorEq, c, hget, wrap_in, hone, hhex, le_T, hexS_one, *]
      rw [show (pre.length : Int) + 1 = ((pre ++ [b]).length : Int) by simp]
      exact IH
theorem c_quoteI (s : Str) (hl : s.length ≤ 134217728) : callPure (EV Tryd.prog pol) 26 [.t (.str s)] = some (.t (.str (quoteS s))) := by
  have IH := l_quoteI s hl s [] rfl
  simp only [List.length_nil, Int.natCast_zero, qOpen, List.flatMap_nil] at IH
  have hq := qOpen_len s
  simp only [qOpen, List.length_cons] at hq
  apply eq_call
  refine call_eq rfl Tryd.func26 rfl (by kernel_rfl) ?_
  unfold Tryd.f26
  simp (disch := ((try simp only [List.length_cons, List.length_append, List.length_nil, List.length_map]); omega)) only [↓GO, ↓DRW, GA, ren, renB, footX, refs, cellsV, cst, cstAt, nilC, idxAddr, E.load, E.store, binO, isC, bin, ibin, sbin, una, isShift, okCell, packV, lenV, blt, fnV, asArg, snapV, snapS, snapP, snapC, flatV, flatT, openK, layBack, allT, allZ, mkS, srcOf0, unN, idxV, nilEq, give, tupV, mkEnv, extV, pickV, LVS, OVS, LTS, TYS, PMS, pmT, Int.reduceToNat, Nat.reduceGT, ↓reduceIte, Nat.reduceAdd, Nat.reduceMul, Nat.reduceSub, Nat.reduceEqDiff, Nat.reduceLeDiff, Nat.reduceLT, Nat.reduceBEq, Int.reduceBEq, Int.reduceBNe, Int.reduceEq, Int.reduceLT, Int.reduceLE, Int.reduceGT, Int.reduceNeg, reduceCtorEq, IH, le_T, quoteS]
theorem map_bytesT (l : Str) : (l.map fun b => [T.int .u8 (b.toNat : Int)]) = bytesT l := rfl
theorem l_quoteR (s : Str) (hl : s.length ≤ 134217728) : ∀ (rest pre : Str) (cap : Option Nat), s = pre ++ rest →
    ∃ cap', EV Tryd.prog pol (.loop 22 58 0 [.t (.str s), .sl 0 0 (qOpen pre).length cap, .t (.int .i64 (pre.length : Int))] [.ts 1 (bytesT (qOpen pre))]) = some (.loop (.exit 0) [.sl 0 0 (qOpen s).length cap'] [.ts 1 (bytesT (qOpen s))])
  | [], pre, cap, hs => by
    have c : decide ((pre.length : Int) < (s.length : Int)) = false := by simp [hs]
    have hp : s = pre := by simpa using hs
    refine ⟨cap, loop_eq Tryd.func22 rfl rfl ?_⟩
    simp only [↓GO, ↓DRW, GA, ren, renB, footX, refs, cellsV, cst, cstAt, nilC, idxAddr, E.load, E.store, binO, isC, bin, ibin, sbin, una, isShift, okCell, packV, lenV, blt, fnV, asArg, snapV, snapS, snapP, snapC, flatV, flatT, openK, layBack, allT, allZ, mkS, srcOf0, unN, idxV, nilEq, give, tupV, mkEnv, extV, pickV, LVS, OVS, LTS, TYS, PMS, pmT, Int.reduceToNat, Nat.reduceGT, ↓reduceIte, Nat.reduceAdd, Nat.reduceMul, Nat.reduceSub, Nat.reduceEqDiff, Nat.reduceLeDiff, Nat.reduceLT, Nat.reduceBEq, Int.reduceBEq, Int.reduceBNe, Int.reduceEq, Int.reduceLT, Int.reduceLE, Int.reduceGT, Int.reduceNeg, reduceCtorEq, c]
    rw [hp]
  | b :: rest, pre, cap, hs => by
    have c : decide ((pre.length : Int) < (s.length : Int)) = true := by simp [hs]; omega
    have hget : s[pre.length]? = some b := by rw [hs]; exact at_zip pre b rest
    have hone : (s.drop pre.length).take (pre.length + 1 - pre.length) = [b] := by rw [hs]; exact one_of pre b rest
    have hlen : pre.length + rest.length + 1 ≤ s.length := by rw [hs]; simp; omega
    obtain ⟨cap', IH⟩ := l_quoteR s hl rest (pre ++ [b]) none (by rw [hs]; simp)
    clear hs
    have hq := qOpen_len pre
    have hxl : (hexB b).length ≤ 2 := by rw [hexB_len]; omega
    have hhex := c_hexR [b] (by simp)
    rw [qOpen_snoc, bytesT_app] at IH
    refine ⟨cap', loop_eq Tryd.func22 rfl rfl ?_⟩
    refine byte_cases b (fun b1 hb => ?_) (fun b1 b2 hb => ?_) (fun b1 b2 b3 hb => ?_) (fun b1 b2 b3 b4 hb => ?_) (fun b1 b2 b3 b4 b5 b6 hb => ?_) (fun b1 b2 b3 b4 b5 b6 hb => ?_) <;> rw [hb] at IH
    all_goals
      simp only [bytesT_app, bytesT_cons, bytesT_nil, List.length_append, List.length_cons, List.length_nil] at IH
      simp (disch := ((try simp only [List.length_cons, List.length_append, List.length_nil, List.length_map]); omega)) only [↓GO, ↓DRW, GA, ren, renB, footX, refs, cellsV, cst, cstAt, nilC, idxAddr, E.load, E.store, binO, isC, bin, ibin, sbin, una, isShift, okCell, packV, lenV, blt, fnV, asArg, snapV, snapS, snapP, snapC, flatV, flatT, openK, layBack, allT, allZ, mkS, srcOf0, unN, idxV, nilEq, give, tupV, mkEnv, extV, pickV, LVS, OVS, LTS, TYS, PMS, pmT, Int.reduceToNat, Nat.reduceGT, ↓reduceIte, Nat.reduceAdd, Nat.reduceMul, Nat.reduceSub, Nat.reduceEqDiff, Nat.reduceLeDiff, Nat.reduceLT, Nat.reduceBEq, Int.reduceBEq, Int.reduceBNe, Int.reduceEq, Int.reduceLT, Int.reduceLE, Int.reduceGT, Int.reduceNeg, reduceCtorEq, c, hget, wrap_in, hone, hhex, le_T, hexS_one, bytesT_len, map_bytesT, List.length_append, *]
      rw [show (pre.length : Int) + 1 = ((pre ++ [b]).length : Int) by simp]
      simp only [List.append_assoc, Nat.add_assoc, List.cons_append, List.nil_append, List.length_append, List.length_cons, List.length_nil, Nat.reduceAdd, hexB_len] at IH ⊢
      exact IH
theorem c_quoteR (s : Str) (hl : s.length ≤ 134217728) : callPure (EV Tryd.prog pol) 22 [.t (.str s)] = some (.t (.str (quoteS s))) := by
  obtain ⟨cap, IH⟩ := l_quoteR s hl s [] (some 1) rfl
  simp only [List.length_nil, List.length_cons, Int.natCast_zero, qOpen, List.flatMap_nil, bytesT_nil, bytesT_cons, UInt8.reduceToNat, Int.cast_ofNat_Int, Nat.zero_add] at IH
  have hq := qOpen_len s
  simp only [qOpen, List.length_cons] at hq
  have ht := bytesT_all (quoteS s) (n := (s.flatMap quoteB).length + 1 + 1) (by simp [quoteS])
  have ho := bytesOf_T (quoteS s)
  have hk := bytes_back (quoteS s)
  simp only [quoteS, bytesT_cons, bytesT_app, bytesT_nil, UInt8.reduceToNat, Int.cast_ofNat_Int] at ht ho
  simp only [quoteS] at hk
  apply eq_call
  refine call_eq rfl Tryd.func22 rfl (by kernel_rfl) ?_
  unfold Tryd.f22
  simp (disch := ((try simp only [List.length_cons, List.length_append, List.length_nil, List.length_map]); omega)) only [↓GO, ↓DRW, GA, ren, renB, footX, refs, cellsV, cst, cstAt, nilC, idxAddr, E.load, E.store, binO, isC, bin, ibin, sbin, una, isShift, okCell, packV, lenV, blt, fnV, asArg, snapV, snapS, snapP, snapC, flatV, flatT, openK, layBack, allT, allZ, mkS, srcOf0, unN, idxV, nilEq, give, tupV, mkEnv, extV, pickV, LVS, OVS, LTS, TYS, PMS, pmT, Int.reduceToNat, Nat.reduceGT, ↓reduceIte, Nat.reduceAdd, Nat.reduceMul, Nat.reduceSub, Nat.reduceEqDiff, Nat.reduceLeDiff, Nat.reduceLT, Nat.reduceBEq, Int.reduceBEq, Int.reduceBNe, Int.reduceEq, Int.reduceLT, Int.reduceLE, Int.reduceGT, Int.reduceNeg, reduceCtorEq, IH, le_T, conv, bytesElem, bytesT_len, ht, ho, quoteS]
  exact congrArg (fun l => Resp.call (V.t (T.str l)) []) hk
end Go.Proofs.YtdhejeigbjmncaaDoor

/- Joined: G4 B9 V8 V4 V9 K20 K21 K22 I2 K7. Conditions: those of each lemma. -/
import Derived.Test.YtmcephnfcciloaaGreatDoorUJ
import Derived.Test.YtmcephnfcciloaaGreatDoorUK
import Derived.Test.YtmcephnfcciloaaGreatDoorUH
set_option linter.unusedVariables false
set_option linter.unusedSimpArgs false
namespace Go.Proofs.YtmcephnfcciloaaGreatDoor
open E
set_option linter.unusedSimpArgs false
set_option linter.unusedVariables false
set_option maxRecDepth 100000
theorem pM (cs : List zt) (hl : cs.length ≤ 9223372036854775807) (hc : ∀ c ∈ cs, mF c) : ∀ (d i : Nat) (n : Int), cs.length - i = d → i ≤ cs.length → 0 ≤ n → n ≤ 1048576 →
    (0 ≤ n - (zt.ya (cs.drop i) : Int) → EV Tryz.prog pol (.loop 7 122 0 [.t (.list 3 (zt.zV cs)), .t (.int .i64 n), .t (.int .i64 (i : Int))] []) = some (.loop (.exit 0) [.t (.int .i64 (n - (zt.ya (cs.drop i) : Int))), .bad] [])) ∧
    (n - (zt.ya (cs.drop i) : Int) < 0 → ∃ v, EV Tryz.prog pol (.loop 7 122 0 [.t (.list 3 (zt.zV cs)), .t (.int .i64 n), .t (.int .i64 (i : Int))] []) = some (.loop .ret [v, .t (.int .i64 (-1))] []))
  | 0, i, n, hd, hi, h0, h1 => by
    have hi' : i = cs.length := by omega
    subst hi'
    have hb : zt.ya (cs.drop cs.length) = 0 := by simp [zt.ya]
    rw [hb]
    refine ⟨fun _ => ?_, fun h => by omega⟩
    refine zz Tryz.func7 rfl rfl ?_
    have c : decide (((cs.length : Nat) : Int) < ((cs.length : Nat) : Int)) = false := by simp
    simp only [↓GO, ↓DRW, GA, ren, zB, zf, refs, zb, cst, zl, zH, z7, E.load, E.store, zG, isC, bin, zI, zJ, una, z8, za, zh, zK, blt, fnV, asArg, zd, zn, zo, zj, zi, zg, zk, zr, z6, zD, zF, mkS, zc, unN, zM, zm, zy, zC, ze, zN, zq, GS, Int.reduceToNat, Nat.reduceGT, ↓reduceIte, Nat.reduceAdd, Nat.reduceMul, Nat.reduceSub, Nat.reduceEqDiff, Nat.reduceLeDiff, Nat.reduceLT, Nat.reduceBEq, Int.reduceBEq, Int.reduceBNe, Int.reduceEq, Int.reduceLT, Int.reduceLE, Int.reduceGT, Int.reduceNeg, reduceCtorEq, zt.zT, c]
    simp
  | d + 1, i, n, hd, hi, h0, h1 => by
    have hlt : i < cs.length := by omega
    rw [zt.xi cs i hlt]
    have c : decide ((i : Int) < ((cs.length : Nat) : Int)) = true := by simp; omega
    have hcall := hc _ (List.getElem_mem hlt) n h0 h1
    have hget := zt.yS cs i hlt
    generalize hci : cs[i] = ci at hcall hget
    obtain ⟨name, range, text⟩ := ci
    simp only [zt.enc, List.map_cons, List.map_nil] at hcall hget
    generalize hbu : (zt.mk name range text).yh = bu at hcall
    have IH := pM cs hl hc d (i + 1) (n - (bu : Int)) (by omega) (by omega)
    have e1 : (i : Int) + 1 = ((i + 1 : Nat) : Int) := by omega
    by_cases hneg : n - (bu : Int) < 0
    · refine ⟨fun h => by omega, fun _ => ⟨.t (.int .i64 (-1)), ?_⟩⟩
      refine zz Tryz.func7 rfl rfl ?_
      have hle : left n bu = -1 := if_pos hneg
      rw [hle] at hcall
      simp (disch := omega) only [↓GO, ↓DRW, GA, ren, zB, zf, refs, zb, cst, zl, zH, z7, E.load, E.store, zG, isC, bin, zI, zJ, una, z8, za, zh, zK, blt, fnV, asArg, zd, zn, zo, zj, zi, zg, zk, zr, z6, zD, zF, mkS, zc, unN, zM, zm, zy, zC, ze, zN, zq, GS, Int.reduceToNat, Nat.reduceGT, ↓reduceIte, Nat.reduceAdd, Nat.reduceMul, Nat.reduceSub, Nat.reduceEqDiff, Nat.reduceLeDiff, Nat.reduceLT, Nat.reduceBEq, Int.reduceBEq, Int.reduceBNe, Int.reduceEq, Int.reduceLT, Int.reduceLE, Int.reduceGT, Int.reduceNeg, reduceCtorEq, zt.zT, c, hget, zx, hcall]
    · have hle : left n bu = n - (bu : Int) := if_neg hneg
      rw [hle] at hcall
      have c2 : decide (n - (bu : Int) < 0) = false := by simpa using hneg
      obtain ⟨I1, I2⟩ := IH (by omega) (by omega)
      refine ⟨fun h => ?_, fun h => ?_⟩
      · refine zz Tryz.func7 rfl rfl ?_
        simp (disch := omega) only [↓GO, ↓DRW, GA, ren, zB, zf, refs, zb, cst, zl, zH, z7, E.load, E.store, zG, isC, bin, zI, zJ, una, z8, za, zh, zK, blt, fnV, asArg, zd, zn, zo, zj, zi, zg, zk, zr, z6, zD, zF, mkS, zc, unN, zM, zm, zy, zC, ze, zN, zq, GS, Int.reduceToNat, Nat.reduceGT, ↓reduceIte, Nat.reduceAdd, Nat.reduceMul, Nat.reduceSub, Nat.reduceEqDiff, Nat.reduceLeDiff, Nat.reduceLT, Nat.reduceBEq, Int.reduceBEq, Int.reduceBNe, Int.reduceEq, Int.reduceLT, Int.reduceLE, Int.reduceGT, Int.reduceNeg, reduceCtorEq, zt.zT, c, hget, zx, hcall, c2, e1]
        rw [I1 (by omega), show n - (bu : Int) - (zt.ya (cs.drop (i + 1)) : Int) = n - ((bu + zt.ya (cs.drop (i + 1)) : Nat) : Int) by omega]
      · obtain ⟨v, hv⟩ := I2 (by omega)
        refine ⟨v, ?_⟩
        refine zz Tryz.func7 rfl rfl ?_
        simp (disch := omega) only [↓GO, ↓DRW, GA, ren, zB, zf, refs, zb, cst, zl, zH, z7, E.load, E.store, zG, isC, bin, zI, zJ, una, z8, za, zh, zK, blt, fnV, asArg, zd, zn, zo, zj, zi, zg, zk, zr, z6, zD, zF, mkS, zc, unN, zM, zm, zy, zC, ze, zN, zq, GS, Int.reduceToNat, Nat.reduceGT, ↓reduceIte, Nat.reduceAdd, Nat.reduceMul, Nat.reduceSub, Nat.reduceEqDiff, Nat.reduceLeDiff, Nat.reduceLT, Nat.reduceBEq, Int.reduceBEq, Int.reduceBNe, Int.reduceEq, Int.reduceLT, Int.reduceLE, Int.reduceGT, Int.reduceNeg, reduceCtorEq, zt.zT, c, hget, zx, hcall, c2, e1]
        exact hv
theorem o6 (cs : List zt) (hl : cs.length ≤ 9223372036854775807) (hc : ∀ c ∈ cs, mF c) (n : Int) (h0 : 0 ≤ n) (h1 : n ≤ 1048576) :
    zE (EV Tryz.prog pol) 7 [.t (.list 3 (zt.zV cs)), .t (.int .i64 n)] = some (.t (.int .i64 (left n (cs.length + zt.ya cs)))) := by
  apply zu
  refine zw rfl Tryz.func7 rfl (by kernel_rfl) ?_
  unfold Tryz.f7
  by_cases hneg : n - (cs.length : Int) < 0
  · have c2 : decide (n - (cs.length : Int) < 0) = true := by simpa using hneg
    simp (disch := omega) only [↓GO, ↓DRW, GA, ren, zB, zf, refs, zb, cst, zl, zH, z7, E.load, E.store, zG, isC, bin, zI, zJ, una, z8, za, zh, zK, blt, fnV, asArg, zd, zn, zo, zj, zi, zg, zk, zr, z6, zD, zF, mkS, zc, unN, zM, zm, zy, zC, ze, zN, zq, GS, Int.reduceToNat, Nat.reduceGT, ↓reduceIte, Nat.reduceAdd, Nat.reduceMul, Nat.reduceSub, Nat.reduceEqDiff, Nat.reduceLeDiff, Nat.reduceLT, Nat.reduceBEq, Int.reduceBEq, Int.reduceBNe, Int.reduceEq, Int.reduceLT, Int.reduceLE, Int.reduceGT, Int.reduceNeg, reduceCtorEq, zt.zT, zx, c2]
    rw [left, if_pos (by omega)]
  · have c2 : decide (n - (cs.length : Int) < 0) = false := by simpa using hneg
    obtain ⟨I1, I2⟩ := pM cs hl hc cs.length 0 (n - (cs.length : Int)) (by omega) (by omega) (by omega) (by omega)
    simp only [List.drop_zero, Int.natCast_zero] at I1 I2
    by_cases hn2 : n - (cs.length : Int) - (zt.ya cs : Int) < 0
    · obtain ⟨v, hv⟩ := I2 hn2
      simp (disch := omega) only [↓GO, ↓DRW, GA, ren, zB, zf, refs, zb, cst, zl, zH, z7, E.load, E.store, zG, isC, bin, zI, zJ, una, z8, za, zh, zK, blt, fnV, asArg, zd, zn, zo, zj, zi, zg, zk, zr, z6, zD, zF, mkS, zc, unN, zM, zm, zy, zC, ze, zN, zq, GS, Int.reduceToNat, Nat.reduceGT, ↓reduceIte, Nat.reduceAdd, Nat.reduceMul, Nat.reduceSub, Nat.reduceEqDiff, Nat.reduceLeDiff, Nat.reduceLT, Nat.reduceBEq, Int.reduceBEq, Int.reduceBNe, Int.reduceEq, Int.reduceLT, Int.reduceLE, Int.reduceGT, Int.reduceNeg, reduceCtorEq, zt.zT, zx, c2, hv]
      rw [left, if_pos (by omega)]
    · simp (disch := omega) only [↓GO, ↓DRW, GA, ren, zB, zf, refs, zb, cst, zl, zH, z7, E.load, E.store, zG, isC, bin, zI, zJ, una, z8, za, zh, zK, blt, fnV, asArg, zd, zn, zo, zj, zi, zg, zk, zr, z6, zD, zF, mkS, zc, unN, zM, zm, zy, zC, ze, zN, zq, GS, Int.reduceToNat, Nat.reduceGT, ↓reduceIte, Nat.reduceAdd, Nat.reduceMul, Nat.reduceSub, Nat.reduceEqDiff, Nat.reduceLeDiff, Nat.reduceLT, Nat.reduceBEq, Int.reduceBEq, Int.reduceBNe, Int.reduceEq, Int.reduceLT, Int.reduceLE, Int.reduceGT, Int.reduceNeg, reduceCtorEq, zt.zT, zx, c2, I1 (by omega)]
      rw [left, if_neg (by omega), show n - (cs.length : Int) - (zt.ya cs : Int) = n - ((cs.length + zt.ya cs : Nat) : Int) by omega]
def uY : List T := [.str [], .str [], .str []]
theorem tG (cs : List zt) (hl : cs.length ≤ 1048576) (hc : ∀ c ∈ cs, uC c) : ∀ (d i : Nat), cs.length - i = d → i ≤ cs.length →
    EV Tryz.prog pol (.loop 10 58 0 [.t (.list 3 (zt.zV cs)), .sl 0 0 cs.length (some cs.length), .t (.int .i64 (i : Int))] [.ts 3 (wj (zt.zV cs) uY i)]) = some (.loop (.exit 0) [.sl 0 0 cs.length (some cs.length)] [.ts 3 (zt.zV cs)])
  | 0, i, hd, hi => by
    have hi' : i = cs.length := by omega
    subst hi'
    refine zz Tryz.func10 rfl rfl ?_
    have c : decide (((cs.length : Nat) : Int) < ((cs.length : Nat) : Int)) = false := by simp
    have hf : wj (zt.zV cs) uY cs.length = zt.zV cs := by rw [← zt.zT cs]; exact qT _ _
    simp only [↓GO, ↓DRW, GA, ren, zB, zf, refs, zb, cst, zl, zH, z7, E.load, E.store, zG, isC, bin, zI, zJ, una, z8, za, zh, zK, blt, fnV, asArg, zd, zn, zo, zj, zi, zg, zk, zr, z6, zD, zF, mkS, zc, unN, zM, zm, zy, zC, ze, zN, zq, GS, Int.reduceToNat, Nat.reduceGT, ↓reduceIte, Nat.reduceAdd, Nat.reduceMul, Nat.reduceSub, Nat.reduceEqDiff, Nat.reduceLeDiff, Nat.reduceLT, Nat.reduceBEq, Int.reduceBEq, Int.reduceBNe, Int.reduceEq, Int.reduceLT, Int.reduceLE, Int.reduceGT, Int.reduceNeg, reduceCtorEq, zt.zT, c, hf]
  | d + 1, i, hd, hi => by
    have hlt : i < cs.length := by omega
    have hlt' : i < (zt.zV cs).length := by rw [zt.zT]; exact hlt
    have c : decide ((i : Int) < ((cs.length : Nat) : Int)) = true := by simp; omega
    have c0 : decide ((0 : Int) ≤ (i : Int)) = true := by simp
    have IH := tG cs hl hc d (i + 1) (by omega) (by omega)
    have e1 : (i : Int) + 1 = ((i + 1 : Nat) : Int) := by omega
    have hg : (wj (zt.zV cs) uY i)[i]? = some [.str [], .str [], .str []] := qS (zt.zV cs) uY i hlt'
    have hs := qR (zt.zV cs) uY i hlt'
    have hx : (zt.zV cs)[i] = cs[i].enc := by simp [zt.zV]
    rw [hx] at hs
    have hcall := hc _ (List.getElem_mem hlt)
    have hget := zt.yS cs i hlt
    generalize hci : cs[i] = ci at hcall hget hs
    obtain ⟨name, range, text⟩ := ci
    simp only [uC, zt.enc, List.map_cons, List.map_nil] at hcall hget hs
    refine zz Tryz.func10 rfl rfl ?_
    simp (disch := omega) only [↓GO, ↓DRW, GA, ren, zB, zf, refs, zb, cst, zl, zH, z7, E.load, E.store, zG, isC, bin, zI, zJ, una, z8, za, zh, zK, blt, fnV, asArg, zd, zn, zo, zj, zi, zg, zk, zr, z6, zD, zF, mkS, zc, unN, zM, zm, zy, zC, ze, zN, zq, GS, Int.reduceToNat, Nat.reduceGT, ↓reduceIte, Nat.reduceAdd, Nat.reduceMul, Nat.reduceSub, Nat.reduceEqDiff, Nat.reduceLeDiff, Nat.reduceLT, Nat.reduceBEq, Int.reduceBEq, Int.reduceBNe, Int.reduceEq, Int.reduceLT, Int.reduceLE, Int.reduceGT, Int.reduceNeg, reduceCtorEq, zt.zT, c, c0, hget, zx, e1, hg, Int.toNat_natCast, hcall, hs]
    exact IH
theorem iu (cs : List zt) (hl : cs.length ≤ 1048576) (hc : ∀ c ∈ cs, uC c) : zE (EV Tryz.prog pol) 10 [.t (.list 3 (zt.zV cs))] = some (.t (.list 3 (zt.zV cs))) := by
  apply zu
  refine zw rfl Tryz.func10 rfl (by kernel_rfl) ?_
  unfold Tryz.f10
  have h1 : ¬ ((cs.length : Int) < 0) := by omega
  have h2 : ¬ (cs.length * 48 > 140737488355328) := by omega
  have h3 : ¬ (cs.length > 140737488355328) := by omega
  have hz : List.replicate cs.length [T.str [], .str [], .str []] = wj (zt.zV cs) uY 0 := by rw [uT, zt.zT]; rfl
  have IH := tG cs hl hc cs.length 0 (by omega) (by omega)
  simp only [Int.natCast_zero] at IH
  have ht : (zt.zV cs).take cs.length = zt.zV cs := by rw [← zt.zT cs]; simp
  simp (disch := omega) only [↓GO, ↓DRW, GA, ren, zB, zf, refs, zb, cst, zl, zH, z7, E.load, E.store, zG, isC, bin, zI, zJ, una, z8, za, zh, zK, blt, fnV, asArg, zd, zn, zo, zj, zi, zg, zk, zr, z6, zD, zF, mkS, zc, unN, zM, zm, zy, zC, ze, zN, zq, GS, Int.reduceToNat, Nat.reduceGT, ↓reduceIte, Nat.reduceAdd, Nat.reduceMul, Nat.reduceSub, Nat.reduceEqDiff, Nat.reduceLeDiff, Nat.reduceLT, Nat.reduceBEq, Int.reduceBEq, Int.reduceBNe, Int.reduceEq, Int.reduceLT, Int.reduceLE, Int.reduceGT, Int.reduceNeg, reduceCtorEq, zt.zT, Int.toNat_natCast, h1, h2, h3, hz, IH, ne_eq, not_true_eq_false, ht]
theorem pP (cs : List zt) (hl : cs.length ≤ 1048576) (hc : ∀ c ∈ cs, tX c) : ∀ (d i : Nat), cs.length - i = d → i ≤ cs.length →
    EV Tryz.prog pol (.loop 14 58 0 [.t (.list 3 (zt.zV cs)), .t (.list 3 (zt.zV cs)), .t (.int .i64 (i : Int))] []) = some (.loop (.exit 0) [.bad] [])
  | 0, i, hd, hi => by
    have hi' : i = cs.length := by omega
    subst hi'
    refine zz Tryz.func14 rfl rfl ?_
    have c : decide (((cs.length : Nat) : Int) < ((cs.length : Nat) : Int)) = false := by simp
    simp only [↓GO, ↓DRW, GA, ren, zB, zf, refs, zb, cst, zl, zH, z7, E.load, E.store, zG, isC, bin, zI, zJ, una, z8, za, zh, zK, blt, fnV, asArg, zd, zn, zo, zj, zi, zg, zk, zr, z6, zD, zF, mkS, zc, unN, zM, zm, zy, zC, ze, zN, zq, GS, Int.reduceToNat, Nat.reduceGT, ↓reduceIte, Nat.reduceAdd, Nat.reduceMul, Nat.reduceSub, Nat.reduceEqDiff, Nat.reduceLeDiff, Nat.reduceLT, Nat.reduceBEq, Int.reduceBEq, Int.reduceBNe, Int.reduceEq, Int.reduceLT, Int.reduceLE, Int.reduceGT, Int.reduceNeg, reduceCtorEq, zt.zT, c]
  | d + 1, i, hd, hi => by
    have hlt : i < cs.length := by omega
    have c : decide ((i : Int) < ((cs.length : Nat) : Int)) = true := by simp; omega
    have IH := pP cs hl hc d (i + 1) (by omega) (by omega)
    have e1 : (i : Int) + 1 = ((i + 1 : Nat) : Int) := by omega
    have hcall := hc _ (List.getElem_mem hlt)
    have hget := zt.yS cs i hlt
    generalize hci : cs[i] = ci at hcall hget
    obtain ⟨name, range, text⟩ := ci
    simp only [tX, zt.enc, List.map_cons, List.map_nil] at hcall hget
    refine zz Tryz.func14 rfl rfl ?_
    simp (disch := omega) only [↓GO, ↓DRW, GA, ren, zB, zf, refs, zb, cst, zl, zH, z7, E.load, E.store, zG, isC, bin, zI, zJ, una, z8, za, zh, zK, blt, fnV, asArg, zd, zn, zo, zj, zi, zg, zk, zr, z6, zD, zF, mkS, zc, unN, zM, zm, zy, zC, ze, zN, zq, GS, Int.reduceToNat, Nat.reduceGT, ↓reduceIte, Nat.reduceAdd, Nat.reduceMul, Nat.reduceSub, Nat.reduceEqDiff, Nat.reduceLeDiff, Nat.reduceLT, Nat.reduceBEq, Int.reduceBEq, Int.reduceBNe, Int.reduceEq, Int.reduceLT, Int.reduceLE, Int.reduceGT, Int.reduceNeg, reduceCtorEq, zt.zT, c, hget, zx, e1, hcall]
    exact IH
theorem ix (cs : List zt) (hl : cs.length ≤ 1048576) (hc : ∀ c ∈ cs, tX c) : zE (EV Tryz.prog pol) 14 [.t (.list 3 (zt.zV cs)), .t (.list 3 (zt.zV cs))] = some (.t (.bool true)) := by
  apply zu
  refine zw rfl Tryz.func14 rfl (by kernel_rfl) ?_
  unfold Tryz.f14
  have IH := pP cs hl hc cs.length 0 (by omega) (by omega)
  simp only [Int.natCast_zero] at IH
  simp only [↓GO, ↓DRW, GA, ren, zB, zf, refs, zb, cst, zl, zH, z7, E.load, E.store, zG, isC, bin, zI, zJ, una, z8, za, zh, zK, blt, fnV, asArg, zd, zn, zo, zj, zi, zg, zk, zr, z6, zD, zF, mkS, zc, unN, zM, zm, zy, zC, ze, zN, zq, GS, Int.reduceToNat, Nat.reduceGT, ↓reduceIte, Nat.reduceAdd, Nat.reduceMul, Nat.reduceSub, Nat.reduceEqDiff, Nat.reduceLeDiff, Nat.reduceLT, Nat.reduceBEq, Int.reduceBEq, Int.reduceBNe, Int.reduceEq, Int.reduceLT, Int.reduceLE, Int.reduceGT, Int.reduceNeg, reduceCtorEq, zt.zT, IH, bne_self_eq_false]
end Go.Proofs.YtmcephnfcciloaaGreatDoor
/- Notices laid anew, marked. Conditions: those of each lemma. -/
namespace Go.Proofs.YtmcephnfcciloaaGreatDoor
open E
set_option linter.unusedSimpArgs false
set_option linter.unusedVariables false
set_option maxRecDepth 100000
theorem Tj (cs : List zt) (hl : cs.length ≤ 1048576) (hc : ∀ c ∈ cs, uC c) : EV Tryz.prog pol (.callO false 10 [.t (.list 3 (zt.zV cs))] []) = some (.call (.sl 0 0 cs.length (some cs.length)) [.ts 3 (zt.zV cs)]) := by
  refine yK Tryz.func10 rfl (by kernel_rfl) ?_
  unfold Tryz.f10
  have h1 : ¬ ((cs.length : Int) < 0) := by omega
  have h2 : ¬ (cs.length * 48 > 140737488355328) := by omega
  have h3 : ¬ (cs.length > 140737488355328) := by omega
  have hz : List.replicate cs.length [T.str [], .str [], .str []] = wj (zt.zV cs) uY 0 := by rw [uT, zt.zT]; rfl
  have IH := tG cs hl hc cs.length 0 (by omega) (by omega)
  simp only [Int.natCast_zero] at IH
  simp (disch := omega) only [E.mkS, ↓GO, ↓DRW, GA, ren, zB, zf, refs, zb, cst, zl, zH, z7, E.load, E.store, zG, isC, bin, zI, zJ, una, z8, za, zh, zK, blt, fnV, asArg, zd, zn, zo, zj, zi, zg, zk, zr, z6, zD, zF, mkS, zc, unN, zM, zm, zy, zC, ze, zN, zq, GS, Int.reduceToNat, Nat.reduceGT, ↓reduceIte, Nat.reduceAdd, Nat.reduceMul, Nat.reduceSub, Nat.reduceEqDiff, Nat.reduceLeDiff, Nat.reduceLT, Nat.reduceBEq, Int.reduceBEq, Int.reduceBNe, Int.reduceEq, Int.reduceLT, Int.reduceLE, Int.reduceGT, Int.reduceNeg, reduceCtorEq, zt.zT, Int.toNat_natCast, h1, h2, h3, hz, IH, ne_eq, not_true_eq_false]
def tu : Nat → Nat → List zt
  | 0, _ => []
  | n + 1, k => ⟨mkT k, mkT (k + 1), mkT (k + 2)⟩ :: tu n (k + 3)
theorem gW : ∀ n k, (tu n k).length = n
  | 0, _ => rfl
  | n + 1, k => by rw [tu, List.length_cons, gW n (k + 3)]
theorem lN : ∀ n k, tu (n + 1) k = tu n k ++ [⟨mkT (k + 3 * n), mkT (k + 3 * n + 1), mkT (k + 3 * n + 2)⟩]
  | 0, k => rfl
  | n + 1, k => by
    rw [tu, lN n (k + 3), tu, List.cons_append, show k + 3 + 3 * n = k + 3 * (n + 1) by omega]
theorem fg (cs : List zt) (hl : cs.length ≤ 4194304) (cap : Option Nat) (k : Nat) (hk : k ≤ 1073741824) : ∀ (rest pre : List zt), cs = pre ++ rest →
    EV Tryz.prog pol (.loop 16 26 1 [.sl 0 0 cs.length cap, .t (.int .i64 ((k + 3 * pre.length : Nat) : Int)), .t (.int .i64 (pre.length : Int))] [.ts 3 (zt.zV (tu pre.length k) ++ zt.zV rest)])
      = some (.loop (.exit 0) [.t (.int .i64 ((k + 3 * cs.length : Nat) : Int))] [.ts 3 (zt.zV (tu cs.length k))])
  | [], pre, hs => by
    have c : decide ((pre.length : Int) < (cs.length : Int)) = false := by simp [hs]
    have e : cs = pre := by simpa using hs
    simp only [show zt.zV [] = [] from rfl, List.append_nil]
    refine zz Tryz.func16 rfl rfl ?_
    simp (disch := ((try simp only [LL]); omega)) only [↓GO, ↓DRW, GA, ren, zB, zf, refs, zb, cst, zl, zH, z7, E.load, E.store, zG, isC, bin, zI, zJ, una, z8, za, zh, zK, blt, fnV, asArg, zd, zn, zo, zj, zi, zg, zk, zr, z6, zD, zF, mkS, zc, unN, zM, zm, zy, zC, ze, zN, zq, GS, Int.reduceToNat, Nat.reduceGT, ↓reduceIte, Nat.reduceAdd, Nat.reduceMul, Nat.reduceSub, Nat.reduceEqDiff, Nat.reduceLeDiff, Nat.reduceLT, Nat.reduceBEq, Int.reduceBEq, Int.reduceBNe, Int.reduceEq, Int.reduceLT, Int.reduceLE, Int.reduceGT, Int.reduceNeg, reduceCtorEq, GZ, c]
    rw [e]
  | x :: rest, pre, hs => by
    have c : decide ((pre.length : Int) < (cs.length : Int)) = true := by simp [hs]; omega
    have c0 : decide ((0 : Int) ≤ (pre.length : Int)) = true := by simp
    have c00 : (0 : Int) ≤ (pre.length : Int) := by omega
    have hlen : pre.length + rest.length + 1 ≤ cs.length := by rw [hs]; simp; omega
    have hm := rC (k + 3 * pre.length) (by omega)
    have hm2 := rC (k + 3 * pre.length + 1) (by omega)
    have hm3 := rC (k + 3 * pre.length + 2) (by omega)
    have IH := fg cs hl cap k hk rest (pre ++ [x]) (by rw [hs]; simp)
    rw [show (pre ++ [x]).length = pre.length + 1 by simp, lN, show zt.zV (tu pre.length k ++ [⟨mkT (k + 3 * pre.length), mkT (k + 3 * pre.length + 1), mkT (k + 3 * pre.length + 2)⟩]) = zt.zV (tu pre.length k) ++ [[.str (mkT (k + 3 * pre.length)), .str (mkT (k + 3 * pre.length + 1)), .str (mkT (k + 3 * pre.length + 2))]] by simp [zt.zV, zt.enc], List.append_assoc, List.cons_append, List.nil_append] at IH
    rw [show k + 3 * (pre.length + 1) = k + 3 * pre.length + 3 by omega] at IH
    have hAl : (zt.zV (tu pre.length k)).length = pre.length := by rw [zt.zT, gW]
    rw [show zt.zV (x :: rest) = [.str x.name, .str x.range, .str x.text] :: zt.zV rest from rfl]
    have hg1 := fun y => qp (zt.zV (tu pre.length k)) (zt.zV rest) y pre.length hAl
    have hs1 := fun y z => qo (zt.zV (tu pre.length k)) (zt.zV rest) y z pre.length hAl
    clear hs
    generalize zt.zV (tu pre.length k) = A at *
    generalize mkT (k + 3 * pre.length + 2) = mt3 at *
    generalize mkT (k + 3 * pre.length + 1) = mt2 at *
    generalize mkT (k + 3 * pre.length) = mt at *
    have hkp : k + 3 * pre.length ≤ 1090519040 := by omega
    generalize k + 3 * pre.length = kp at *
    have w : IntKind.i64.wrap ((kp : Int) + 1) = ((kp + 1 : Nat) : Int) := by rw [zx (by omega)]; omega
    have w1 : IntKind.i64.wrap (((kp + 1 : Nat) : Int) + 1) = ((kp + 2 : Nat) : Int) := by rw [zx (by omega)]; omega
    have w3 : IntKind.i64.wrap (((kp + 2 : Nat) : Int) + 1) = ((kp + 3 : Nat) : Int) := by rw [zx (by omega)]; omega
    have w2 : IntKind.i64.wrap ((pre.length : Int) + 1) = ((pre.length + 1 : Nat) : Int) := by rw [zx (by omega)]; omega
    refine zz Tryz.func16 rfl rfl ?_
    simp (disch := ((try simp only [LL]); omega)) only [↓GO, ↓DRW, GA, ren, zB, zf, refs, zb, cst, zl, zH, z7, E.load, E.store, zG, isC, bin, zI, zJ, una, z8, za, zh, zK, blt, fnV, asArg, zd, zn, zo, zj, zi, zg, zk, zr, z6, zD, zF, mkS, zc, unN, zM, zm, zy, zC, ze, zN, zq, GS, Int.reduceToNat, Nat.reduceGT, ↓reduceIte, Nat.reduceAdd, Nat.reduceMul, Nat.reduceSub, Nat.reduceEqDiff, Nat.reduceLeDiff, Nat.reduceLT, Nat.reduceBEq, Int.reduceBEq, Int.reduceBNe, Int.reduceEq, Int.reduceLT, Int.reduceLE, Int.reduceGT, Int.reduceNeg, reduceCtorEq, GZ, c, c0, c00, if_true, Int.toNat_natCast, hm, hm2, hm3, hg1, hs1, w, w1, w2, w3, IH]
theorem XJ (cs : List zt) (hl : cs.length ≤ 4194304) (cap : Option Nat) (k : Nat) (hk : k ≤ 1073741824) (n : Nat) (hn : n = cs.length) :
    EV Tryz.prog pol (.callO false 16 [.sl 0 0 n cap, .t (.int .i64 (k : Int))] [.ts 3 (zt.zV cs)]) = some (.call (.t (.int .i64 ((k + 3 * cs.length : Nat) : Int))) [.ts 3 (zt.zV (tu cs.length k))]) := by
  subst hn
  have L := fg cs hl cap k hk cs [] rfl
  simp only [List.length_nil, Int.natCast_zero, tu, show zt.zV [] = [] from rfl, List.nil_append, Nat.mul_zero, Nat.add_zero] at L
  refine yK Tryz.func16 rfl (by kernel_rfl) ?_
  unfold Tryz.f16
  simp (disch := ((try simp only [LL]); omega)) only [↓GO, ↓DRW, GA, ren, zB, zf, refs, zb, cst, zl, zH, z7, E.load, E.store, zG, isC, bin, zI, zJ, una, z8, za, zh, zK, blt, fnV, asArg, zd, zn, zo, zj, zi, zg, zk, zr, z6, zD, zF, mkS, zc, unN, zM, zm, zy, zC, ze, zN, zq, GS, Int.reduceToNat, Nat.reduceGT, ↓reduceIte, Nat.reduceAdd, Nat.reduceMul, Nat.reduceSub, Nat.reduceEqDiff, Nat.reduceLeDiff, Nat.reduceLT, Nat.reduceBEq, Int.reduceBEq, Int.reduceBNe, Int.reduceEq, Int.reduceLT, Int.reduceLE, Int.reduceGT, Int.reduceNeg, reduceCtorEq, GZ, L]
end Go.Proofs.YtmcephnfcciloaaGreatDoor
/- Versions compared, plain: both ways come to the same; what is in a range. Conditions: none. -/
namespace Go.Proofs.YtmcephnfcciloaaGreatDoor
open E
set_option linter.unusedVariables false
set_option linter.unusedSimpArgs false
set_option maxRecDepth 100000
/-- a number's digits, none for zero -/
def dg (u : Nat) : Str := cond (u == 0) [] (Lib.decDigits u)
theorem oI : dg 0 = [] := rfl
theorem cL {u : Nat} (h : 0 < u) : dg u = Lib.decDigits u := by
  unfold dg; rw [show (u == 0) = false by simp; omega]; rfl
theorem jx {u : Nat} (h : 0 < u) : dg u = dg (u / 10) ++ [UInt8.ofNat (48 + u % 10)] := by
  rw [cL h, Lib.decDigits]
  split
  · rename_i h10
    rw [show u / 10 = 0 by omega, oI, show u % 10 = u by omega]; rfl
  · rename_i h10
    rw [cL (show 0 < u / 10 by omega)]
theorem jy : ∀ (n u : Nat), u ≤ n → 0 < u → ∃ c r, dg u = c :: r ∧ (c == 48) = false
  | 0, u, h, h0 => by omega
  | n + 1, u, h, h0 => by
    rw [jx h0]
    by_cases h1 : 0 < u / 10
    · obtain ⟨c, r, e1, e2⟩ := jy n (u / 10) (by omega) h1
      exact ⟨c, r ++ [UInt8.ofNat (48 + u % 10)], by rw [e1]; rfl, e2⟩
    · rw [show u / 10 = 0 by omega, oI]
      refine ⟨_, [], rfl, ?_⟩
      have key : ∀ k : Fin 10, k.val ≠ 0 → (UInt8.ofNat (48 + k.val) == 48) = false := by decide +kernel
      exact key ⟨u % 10, by omega⟩ (by simp only; omega)
def ltL (x y : Str) : Bool := decide (x.length < y.length) || (decide (x.length = y.length) && Op.bytesLess x y)
theorem Zg : ∀ x : Str, Op.bytesLess x [] = false
  | [] => rfl
  | _ :: _ => rfl
theorem jn : ∀ x : Str, Op.bytesLess x x = false
  | [] => rfl
  | a :: x => by rw [vF, jn x]; simp
theorem gY (a b : UInt8) : ∀ x y : Str, x.length = y.length → Op.bytesLess (x ++ [a]) (y ++ [b]) = (Op.bytesLess x y || (x == y && decide (a < b)))
  | [], [], _ => by
    simp only [List.nil_append]
    rw [vF]
    simp [Op.bytesLess]
  | [], _ :: _, h => by simp at h
  | _ :: _, [], h => by simp at h
  | c :: x, d :: y, h => by
    have ih := gY a b x y (by simpa using h)
    rw [List.cons_append, List.cons_append, vF, vF, ih]
    have e : ((c :: x) == (d :: y)) = (c == d && x == y) := rfl
    rw [e]
    cases decide (c < d) <;> cases (c == d) <;> cases Op.bytesLess x y <;> cases (x == y) <;> cases decide (a < b) <;> rfl
theorem Xe (a b : UInt8) (x y : Str) : ltL (x ++ [a]) (y ++ [b]) = (ltL x y || (x == y && decide (a < b))) := by
  unfold ltL
  simp only [List.length_append, List.length_cons, List.length_nil]
  by_cases h1 : x.length = y.length
  · rw [gY a b x y h1]
    have e1 : decide (x.length + 1 < y.length + 1) = false := by apply decide_eq_false; omega
    have e2 : decide (x.length < y.length) = false := by apply decide_eq_false; omega
    have e3 : decide (x.length + 1 = y.length + 1) = true := by apply decide_eq_true; omega
    have e4 : decide (x.length = y.length) = true := by apply decide_eq_true; exact h1
    simp only [Nat.zero_add, e1, e2, e3, e4, Bool.false_or, Bool.true_and]
  · have e : (x == y) = false := by rw [beq_eq_false_iff_ne]; intro h; exact h1 (by rw [h])
    have e3 : decide (x.length + 1 = y.length + 1) = false := by apply decide_eq_false; omega
    have e4 : decide (x.length = y.length) = false := by apply decide_eq_false; exact h1
    have e5 : decide (x.length + 1 < y.length + 1) = decide (x.length < y.length) := by
      rw [Bool.eq_iff_iff]; simp only [decide_eq_true_eq]; omega
    simp only [Nat.zero_add, e, e3, e4, e5, Bool.false_and, Bool.or_false]
theorem bH (x : Str) : ltL x x = false := by unfold ltL; rw [jn]; simp
theorem aT : ∀ (n u w : Nat), u + w ≤ n → ltL (dg u) (dg w) = decide (u < w)
  | 0, u, w, h => by
    have h1 : u = 0 := by omega
    have h2 : w = 0 := by omega
    subst h1; subst h2; rfl
  | n + 1, u, w, h => by
    by_cases hw : w = 0
    · subst hw
      rw [oI]
      unfold ltL
      rw [Zg]; simp
    · by_cases hu : u = 0
      · subst hu
        obtain ⟨c, r, e, _⟩ := jy w w (Nat.le_refl _) (by omega)
        rw [oI, e]
        unfold ltL
        simp; omega
      · rw [jx (show 0 < u by omega), jx (show 0 < w by omega), Xe]
        have i1 := aT n (u / 10) (w / 10) (by omega)
        have i2 := aT n (w / 10) (u / 10) (by omega)
        have ed : decide (UInt8.ofNat (48 + u % 10) < UInt8.ofNat (48 + w % 10)) = decide (u % 10 < w % 10) := by
          have key : ∀ a b : Fin 10, decide (UInt8.ofNat (48 + a.val) < UInt8.ofNat (48 + b.val)) = decide (a.val < b.val) := by decide +kernel
          exact key ⟨u % 10, by omega⟩ ⟨w % 10, by omega⟩
        rw [i1, ed]
        by_cases he : u / 10 = w / 10
        · rw [he]
          simp only [beq_self_eq_true, Bool.true_and, Nat.lt_irrefl, decide_false, Bool.false_or]
          rw [Bool.eq_iff_iff]; simp only [decide_eq_true_eq]; omega
        · have hx : (dg (u / 10) == dg (w / 10)) = false := by
            rw [beq_eq_false_iff_ne]; intro hh
            rw [hh, bH] at i1
            rw [hh, bH] at i2
            have a1 := of_decide_eq_false i1.symm
            have a2 := of_decide_eq_false i2.symm
            omega
          rw [hx, Bool.false_and, Bool.or_false, Bool.eq_iff_iff]
          simp only [decide_eq_true_eq]; omega
/-- without zeros in front -/
def w8 (s : Str) : Str := s.dropWhile (· == 48)
theorem oQ (u : Nat) : w8 (Lib.decDigits u) = dg u := by
  by_cases h : 0 < u
  · rw [← cL h]
    obtain ⟨c, r, e, e2⟩ := jy u u (Nat.le_refl _) h
    rw [e]; unfold w8; simp [List.dropWhile, e2]
  · have : u = 0 := by omega
    subst this
    rw [Lib.decDigits_one (by omega)]; rfl
def aA (a b : Str) : Int := cond (isNum a && isNum b)
  (cond (x9 ((w8 a).length : Int) ((w8 b).length : Int) == 0) (nG (w8 a) (w8 b)) (x9 ((w8 a).length : Int) ((w8 b).length : Int)))
  (cond (isNum a) (-1) (cond (isNum b) 1 (nG a b)))
theorem lT {a : Str} (h : wi a = true) : isNum a = decide (zO a ≥ 0) := by
  unfold wi at h
  simp only [Bool.and_eq_true, Bool.or_eq_true, Bool.not_eq_true', decide_eq_true_eq] at h
  rcases h.2.2 with h1 | h1
  · rw [h1]
    symm
    apply decide_eq_false
    intro hg
    obtain ⟨a1, _, _, a4⟩ := xo (s := a) hg
    unfold isNum at h1
    have e1 : (a == []) = false := by simpa using a4
    have e2 : a.all isD = true := by rw [List.all_eq_true]; exact a1
    rw [e1, e2] at h1; cases h1
  · have e : decide (zO a ≥ 0) = true := decide_eq_true h1
    rw [e]
    obtain ⟨a1, _, _, a4⟩ := xo (s := a) h1
    unfold isNum
    have e1 : (a == []) = false := by simpa using a4
    have e2 : a.all isD = true := by rw [List.all_eq_true]; exact a1
    rw [e1, e2]; rfl
theorem nC {a : Str} (h : zO a ≥ 0) : ∃ u : Nat, zO a = u ∧ a = Lib.decDigits u := by
  obtain ⟨_, a2, _, _⟩ := xo (s := a) h
  obtain ⟨u, hu⟩ : ∃ u : Nat, zO a = u := ⟨(zO a).toNat, by omega⟩
  refine ⟨u, hu, ?_⟩
  rw [hu, Lib.itoa_nonneg] at a2
  exact a2.symm
theorem Td (u w : Nat) : cond (x9 ((dg u).length : Int) ((dg w).length : Int) == 0) (nG (dg u) (dg w)) (x9 ((dg u).length : Int) ((dg w).length : Int)) = x9 (u : Int) (w : Int) := by
  have h1 := aT (u + w) u w (Nat.le_refl _)
  have h2 := aT (u + w) w u (by omega)
  rw [uk]
  unfold ltL at h1 h2
  rcases Nat.lt_trichotomy u w with h | h | h
  · have e : decide (u < w) = true := decide_eq_true h
    rw [e] at h1
    have r : x9 (u : Int) (w : Int) = -1 := by unfold x9; rw [show decide ((u : Int) < (w : Int)) = true by apply decide_eq_true; omega]; rfl
    rw [r]
    rcases Nat.lt_trichotomy (dg u).length (dg w).length with g | g | g
    · have e1 : (((dg u).length : Int) == ((dg w).length : Int)) = false := by rw [beq_eq_false_iff_ne]; omega
      rw [e1, cond_false]
      unfold x9; rw [show decide (((dg u).length : Int) < ((dg w).length : Int)) = true by apply decide_eq_true; omega]; rfl
    · have e1 : (((dg u).length : Int) == ((dg w).length : Int)) = true := by rw [beq_iff_eq]; omega
      rw [e1, cond_true]
      have e2 : Op.bytesLess (dg u) (dg w) = true := by
        simp only [g, Nat.lt_irrefl, decide_false, Bool.false_or, decide_true, Bool.true_and] at h1; exact h1
      unfold nG; rw [e2]; rfl
    · exfalso
      have e1 : decide ((dg u).length < (dg w).length) = false := by apply decide_eq_false; omega
      have e2 : decide ((dg u).length = (dg w).length) = false := by apply decide_eq_false; omega
      rw [e1, e2] at h1; cases h1
  · subst h
    have e1 : (((dg u).length : Int) == ((dg u).length : Int)) = true := by simp
    rw [e1, cond_true]
    have r : x9 (u : Int) (u : Int) = 0 := by unfold x9; simp
    rw [r]; unfold nG; rw [jn]; simp
  · have e : decide (w < u) = true := decide_eq_true h
    rw [e] at h2
    have r : x9 (u : Int) (w : Int) = 1 := by
      unfold x9
      rw [show decide ((u : Int) < (w : Int)) = false by apply decide_eq_false; omega, show decide ((u : Int) > (w : Int)) = true by apply decide_eq_true; omega]; rfl
    rw [r]
    rcases Nat.lt_trichotomy (dg w).length (dg u).length with g | g | g
    · have e1 : (((dg u).length : Int) == ((dg w).length : Int)) = false := by rw [beq_eq_false_iff_ne]; omega
      rw [e1, cond_false]
      unfold x9
      rw [show decide (((dg u).length : Int) < ((dg w).length : Int)) = false by apply decide_eq_false; omega, show decide (((dg u).length : Int) > ((dg w).length : Int)) = true by apply decide_eq_true; omega]; rfl
    · have e1 : (((dg u).length : Int) == ((dg w).length : Int)) = true := by rw [beq_iff_eq]; omega
      rw [e1, cond_true]
      have e2 : Op.bytesLess (dg w) (dg u) = true := by
        simp only [g, Nat.lt_irrefl, decide_false, Bool.false_or, decide_true, Bool.true_and] at h2; exact h2
      have e3 := qq (dg u) (dg w)
      rw [e2] at e3
      have e4 : Op.bytesLess (dg u) (dg w) = false := by
        cases hh : Op.bytesLess (dg u) (dg w) with
        | false => rfl
        | true => rw [hh] at e3; cases e3
      unfold nG; rw [e3, e4]; rfl
    · exfalso
      have e1 : decide ((dg w).length < (dg u).length) = false := by apply decide_eq_false; omega
      have e2 : decide ((dg w).length = (dg u).length) = false := by apply decide_eq_false; omega
      rw [e1, e2] at h2; cases h2
theorem Te {a b : Str} (ha : wi a = true) (hb : wi b = true) : aA a b = aB a b := by
  unfold aA aB
  rw [lT ha, lT hb]
  cases h1 : decide (zO a ≥ 0) <;> cases h2 : decide (zO b ≥ 0) <;> simp only [Bool.and_true, Bool.and_false, Bool.true_and, Bool.false_and, cond_true, cond_false]
  obtain ⟨u, e1, e2⟩ := nC (of_decide_eq_true h1)
  obtain ⟨w, e3, e4⟩ := nC (of_decide_eq_true h2)
  rw [e1, e3, e2, e4, oQ, oQ]
  exact Td u w
def sD : List Str → List Str → Option Int
  | a :: l, b :: m => cond (aA a b == 0) (sD l m) (some (aA a b))
  | _, _ => none
theorem gl : ∀ {a b : List Str}, (∀ x ∈ a, wi x = true) → (∀ x ∈ b, wi x = true) → sD a b = rz a b
  | [], _, _, _ => by unfold sD rz; rfl
  | _ :: _, [], _, _ => rfl
  | x :: a, y :: b, ha, hb => by
    rw [sD, rz, Te (ha x (by simp)) (hb y (by simp)), gl (fun z hz => ha z (by simp [hz])) (fun z hz => hb z (by simp [hz]))]
def qZ (a b : Ver) : Int :=
  cond (x9 a.maj b.maj == 0) (cond (x9 a.min b.min == 0) (cond (x9 a.pat b.pat == 0)
    (cond ((a.pre == []) != (b.pre == [])) (x9 (b.pre.length : Int) (a.pre.length : Int)) ((sD a.pre b.pre).getD (x9 (a.pre.length : Int) (b.pre.length : Int))))
    (x9 a.pat b.pat)) (x9 a.min b.min)) (x9 a.maj b.maj)
theorem az {a b : Ver} (ha : yv a = true) (hb : yv b = true) : qZ a b = rE a b := by
  have h1 := (xZ ha).2.2.2.1
  have h2 := (xZ hb).2.2.2.1
  rw [List.all_eq_true] at h1 h2
  have hs := gl h1 h2
  unfold qZ rE Uk
  rw [hs]
  congr 3
  cases hx : a.pre with
  | nil =>
    cases hy : b.pre with
    | nil => rfl
    | cons y l => rfl
  | cons x k =>
    cases hy : b.pre with
    | nil => rfl
    | cons y l => rfl
end Go.Proofs.YtmcephnfcciloaaGreatDoor
/- The tables of a graph, plain. Conditions: none. -/
namespace Go.Proofs.YtmcephnfcciloaaGreatDoor
open E
set_option linter.unusedVariables false
set_option linter.unusedSimpArgs false
set_option maxRecDepth 100000
end Go.Proofs.YtmcephnfcciloaaGreatDoor
/- What is in a range, what notices tell: plain; both ways come to the same. Conditions: none. -/
namespace Go.Proofs.YtmcephnfcciloaaGreatDoor
open E
set_option linter.unusedVariables false
set_option linter.unusedSimpArgs false
set_option maxRecDepth 100000
theorem ef : ∀ a b : Str, Lib.compareBytes a b = nG a b
  | [], [] => rfl
  | [], _ :: _ => rfl
  | _ :: _, [] => by simp [Lib.compareBytes, nG, Op.bytesLess]
  | a :: x, b :: y => by
    have ih := ef x y
    unfold nG at ih ⊢
    rw [Lib.compareBytes, vF, show ((a :: x) == (b :: y)) = (a == b && x == y) from rfl]
    by_cases h1 : a < b
    · rw [if_pos h1]; simp [h1]
    · rw [if_neg h1]
      by_cases h2 : b < a
      · have h3 : (a == b) = false := by
          rw [beq_eq_false_iff_ne]; intro h; subst h; exact h1 h2
        rw [if_pos h2]; simp [h1, h3]
      · have h3 : a = b := by
          apply UInt8.toNat_inj.1; simp only [UInt8.lt_iff_toNat_lt] at h1 h2; omega
        subst h3
        rw [if_neg h2, ih]
        simp only [decide_false, h1, Bool.false_or, beq_self_eq_true, Bool.true_and]
def aO (v l : Ver) : Bool := !(l.pre == []) && (l.maj == v.maj && (l.min == v.min && l.pat == v.pat))
def vJ (v : Ver) (b : Bd) : Bool :=
  cond (((zA b.1).2 && decide (rE v (zA b.1).1 < 0)) || ((zA b.2).2 && decide (rE v (zA b.2).1 ≥ 0))) false
    (v.pre == [] || ((zA b.1).2 && aO v (zA b.1).1))
def pc (v : Ver) (b : Bd) : Bool :=
  cond ((!(b.1 == []) && decide (qZ v (zA b.1).1 < 0)) || (!(b.2 == []) && decide (qZ v (zA b.2).1 ≥ 0))) false
    (v.pre == [] || aO v (zA b.1).1)
theorem fm {s : Str} (h : isE s = true) : (!(s == [])) = (zA s).2 := by
  unfold isE at h
  cases hs : (s == []) with
  | false =>
    rw [hs, Bool.or_false] at h
    unfold isV at h
    rw [h]; rfl
  | true =>
    have : s = [] := by simpa using hs
    subst this
    cases hr : (zA []).2 with
    | false => rfl
    | true => exact absurd rfl (yu hr).2.2.2
theorem eM {v : Ver} (hv : yv v = true) {b : Bd} (h1 : isE b.1 = true) (h2 : isE b.2 = true) : pc v b = vJ v b := by
  unfold pc vJ
  rw [fm h1, fm h2]
  have e1 : ((zA b.1).2 && decide (qZ v (zA b.1).1 < 0)) = ((zA b.1).2 && decide (rE v (zA b.1).1 < 0)) := by
    cases hr : (zA b.1).2 with
    | false => rfl
    | true => rw [az hv (yu hr).2.2.1]
  have e2 : ((zA b.2).2 && decide (qZ v (zA b.2).1 ≥ 0)) = ((zA b.2).2 && decide (rE v (zA b.2).1 ≥ 0)) := by
    cases hr : (zA b.2).2 with
    | false => rfl
    | true => rw [az hv (yu hr).2.2.1]
  have e3 : aO v (zA b.1).1 = ((zA b.1).2 && aO v (zA b.1).1) := by
    cases hr : (zA b.1).2 with
    | false => rw [mU hr]; rfl
    | true => rfl
  rw [e1, e2, ← e3]
/-- is a version in a range? -/
def inB (s : Str) (l : List Bd) : Bool := (zA s).2 && (xk l && l.any (vJ (zA s).1))
theorem ew {v : Ver} (hv : yv v = true) : ∀ (l : List Bd), (l.all fun b => isE b.1 && isE b.2) = true → l.any (pc v) = l.any (vJ v)
  | [], _ => rfl
  | b :: l, h => by
    simp only [List.all_cons, Bool.and_eq_true] at h
    rw [List.any_cons, List.any_cons, eM hv h.1.1 h.1.2, ew hv l h.2]
def qN (x : zt) : Bool := (wm x.range).isSome && (vg x.name && (wv x.text && !(x.text == [])))
def afT (n : zt) (name ver : Str) : Bool := qN n && (n.name == name && inB ver ((wm n.range).getD []))
/-- what notices tell of a graph -/
def x8 (ns : List zt) (ps : List zL) : List Str := ps.flatMap fun p => (ns.filter fun n => afT n p.name p.version).map fun n => (keyOf p ++ [32]) ++ n.text
end Go.Proofs.YtmcephnfcciloaaGreatDoor
/- Versions compared by the implementation; what is in a range, by both; what a notice tells of. Conditions: those of each lemma. -/
namespace Go.Proofs.YtmcephnfcciloaaGreatDoor
open E
set_option linter.unusedSimpArgs false
set_option linter.unusedVariables false
set_option maxRecDepth 100000
theorem vx (a b : Int) : zE (EV Tryz.prog pol) 166 [.t (.int .i64 a), .t (.int .i64 b)] = some (.t (.int .i64 (x9 a b))) := by
  unfold x9
  cases h1 : decide (a < b) <;> cases h2 : decide (a > b)
  all_goals
    apply zu
    refine zw rfl Tryz.func166 rfl (by kernel_rfl) ?_
    unfold Tryz.f166
    simp (disch := ((try simp only [LL]); omega)) only [↓GO, ↓DRW, GA, ren, zB, zf, refs, zb, cst, zl, zH, z7, E.load, E.store, zG, isC, bin, zI, zJ, una, z8, za, zh, zK, blt, fnV, asArg, zd, zn, zo, zj, zi, zg, zk, zr, z6, zD, zF, mkS, zc, unN, zM, zm, zy, zC, ze, zN, zq, GS, Int.reduceToNat, Nat.reduceGT, ↓reduceIte, Nat.reduceAdd, Nat.reduceMul, Nat.reduceSub, Nat.reduceEqDiff, Nat.reduceLeDiff, Nat.reduceLT, Nat.reduceBEq, Int.reduceBEq, Int.reduceBNe, Int.reduceEq, Int.reduceLT, Int.reduceLE, Int.reduceGT, Int.reduceNeg, reduceCtorEq, GZ, h1, h2]
theorem bK : ∀ s : Str, s.length ≤ 4194304 → EV Tryz.prog pol (.loop 208 12 0 [.t (.str s), .t (.int .u8 48)] []) = some (.loop (.exit 0) [.t (.str (w8 s))] [])
  | [], _ => by
    refine zz Tryz.func208 rfl rfl ?_
    simp (disch := ((try simp only [LL]); omega)) only [↓GO, ↓DRW, GA, ren, zB, zf, refs, zb, cst, zl, zH, z7, E.load, E.store, zG, isC, bin, zI, zJ, una, z8, za, zh, zK, blt, fnV, asArg, zd, zn, zo, zj, zi, zg, zk, zr, z6, zD, zF, mkS, zc, unN, zM, zm, zy, zC, ze, zN, zq, GS, Int.reduceToNat, Nat.reduceGT, ↓reduceIte, Nat.reduceAdd, Nat.reduceMul, Nat.reduceSub, Nat.reduceEqDiff, Nat.reduceLeDiff, Nat.reduceLT, Nat.reduceBEq, Int.reduceBEq, Int.reduceBNe, Int.reduceEq, Int.reduceLT, Int.reduceLE, Int.reduceGT, Int.reduceNeg, reduceCtorEq, GZ, List.length_nil, Int.natCast_zero]
    rfl
  | b :: s, h => by
    have c : decide (((s.length + 1 : Nat) : Int) > 0) = true := by apply decide_eq_true; omega
    have hb : ((b.toNat : Int) == 48) = (b == 48) := by
      rw [Bool.eq_iff_iff]
      simp only [beq_iff_eq]
      constructor
      · intro h; apply UInt8.toNat_inj.1; have : (48 : UInt8).toNat = 48 := rfl; omega
      · intro h; subst h; rfl
    have hcut : (1 : Int) ≤ ((s.length + 1 : Nat) : Int) := by omega
    cases hz : (b == 48) with
    | false =>
      rw [hz] at hb
      have e : w8 (b :: s) = b :: s := by unfold w8; simp [List.dropWhile, hz]
      rw [e]
      refine zz Tryz.func208 rfl rfl ?_
      simp (disch := ((try simp only [LL]); omega)) only [↓GO, ↓DRW, GA, ren, zB, zf, refs, zb, cst, zl, zH, z7, E.load, E.store, zG, isC, bin, zI, zJ, una, z8, za, zh, zK, blt, fnV, asArg, zd, zn, zo, zj, zi, zg, zk, zr, z6, zD, zF, mkS, zc, unN, zM, zm, zy, zC, ze, zN, zq, GS, Int.reduceToNat, Nat.reduceGT, ↓reduceIte, Nat.reduceAdd, Nat.reduceMul, Nat.reduceSub, Nat.reduceEqDiff, Nat.reduceLeDiff, Nat.reduceLT, Nat.reduceBEq, Int.reduceBEq, Int.reduceBNe, Int.reduceEq, Int.reduceLT, Int.reduceLE, Int.reduceGT, Int.reduceNeg, reduceCtorEq, GZ, c, hb, hcut]
    | true =>
      rw [hz] at hb
      have IH := bK s (by simp only [List.length_cons] at h; omega)
      have e : w8 (b :: s) = w8 s := by unfold w8; simp [List.dropWhile, hz]
      rw [e]
      refine zz Tryz.func208 rfl rfl ?_
      simp (disch := ((try simp only [LL]); omega)) only [↓GO, ↓DRW, GA, ren, zB, zf, refs, zb, cst, zl, zH, z7, E.load, E.store, zG, isC, bin, zI, zJ, una, z8, za, zh, zK, blt, fnV, asArg, zd, zn, zo, zj, zi, zg, zk, zr, z6, zD, zF, mkS, zc, unN, zM, zm, zy, zC, ze, zN, zq, GS, Int.reduceToNat, Nat.reduceGT, ↓reduceIte, Nat.reduceAdd, Nat.reduceMul, Nat.reduceSub, Nat.reduceEqDiff, Nat.reduceLeDiff, Nat.reduceLT, Nat.reduceBEq, Int.reduceBEq, Int.reduceBNe, Int.reduceEq, Int.reduceLT, Int.reduceLE, Int.reduceGT, Int.reduceNeg, reduceCtorEq, GZ, c, hb, hcut, IH]
theorem aC (s : Str) (h : s.length ≤ 4194304) : zE (EV Tryz.prog pol) 190 [.t (.str s), .t (.str [48])] = some (.t (.str (w8 s))) := by
  have L := bK s h
  have d : zE (EV Tryz.prog pol) 208 [.t (.str s), .t (.int .u8 48)] = some (.t (.str (w8 s))) := by
    apply zu
    refine zw rfl Tryz.func208 rfl (by kernel_rfl) ?_
    unfold Tryz.f208
    simp (disch := ((try simp only [LL]); omega)) only [↓GO, ↓DRW, GA, ren, zB, zf, refs, zb, cst, zl, zH, z7, E.load, E.store, zG, isC, bin, zI, zJ, una, z8, za, zh, zK, blt, fnV, asArg, zd, zn, zo, zj, zi, zg, zk, zr, z6, zD, zF, mkS, zc, unN, zM, zm, zy, zC, ze, zN, zq, GS, Int.reduceToNat, Nat.reduceGT, ↓reduceIte, Nat.reduceAdd, Nat.reduceMul, Nat.reduceSub, Nat.reduceEqDiff, Nat.reduceLeDiff, Nat.reduceLT, Nat.reduceBEq, Int.reduceBEq, Int.reduceBNe, Int.reduceEq, Int.reduceLT, Int.reduceLE, Int.reduceGT, Int.reduceNeg, reduceCtorEq, GZ, L]
  cases hs : (s == []) with
  | true =>
    have : s = [] := by simpa using hs
    subst this
    apply zu
    refine zw rfl Tryz.func190 rfl (by kernel_rfl) ?_
    unfold Tryz.f190
    simp (disch := ((try simp only [LL]); omega)) only [↓GO, ↓DRW, GA, ren, zB, zf, refs, zb, cst, zl, zH, z7, E.load, E.store, zG, isC, bin, zI, zJ, una, z8, za, zh, zK, blt, fnV, asArg, zd, zn, zo, zj, zi, zg, zk, zr, z6, zD, zF, mkS, zc, unN, zM, zm, zy, zC, ze, zN, zq, GS, Int.reduceToNat, Nat.reduceGT, ↓reduceIte, Nat.reduceAdd, Nat.reduceMul, Nat.reduceSub, Nat.reduceEqDiff, Nat.reduceLeDiff, Nat.reduceLT, Nat.reduceBEq, Int.reduceBEq, Int.reduceBNe, Int.reduceEq, Int.reduceLT, Int.reduceLE, Int.reduceGT, Int.reduceNeg, reduceCtorEq, GZ, hs]
    rfl
  | false =>
    have h48 : (([48] : Str) == []) = false := rfl
    have h49 : ((UInt8.toNat 48 : Nat) : Int) = 48 := rfl
    have h50 : decide ((48 : Int) < 128) = true := rfl
    apply zu
    refine zw rfl Tryz.func190 rfl (by kernel_rfl) ?_
    unfold Tryz.f190
    simp (disch := ((try simp only [LL]); omega)) only [↓GO, ↓DRW, GA, ren, zB, zf, refs, zb, cst, zl, zH, z7, E.load, E.store, zG, isC, bin, zI, zJ, una, z8, za, zh, zK, blt, fnV, asArg, zd, zn, zo, zj, zi, zg, zk, zr, z6, zD, zF, mkS, zc, unN, zM, zm, zy, zC, ze, zN, zq, GS, Int.reduceToNat, Nat.reduceGT, ↓reduceIte, Nat.reduceAdd, Nat.reduceMul, Nat.reduceSub, Nat.reduceEqDiff, Nat.reduceLeDiff, Nat.reduceLT, Nat.reduceBEq, Int.reduceBEq, Int.reduceBNe, Int.reduceEq, Int.reduceLT, Int.reduceLE, Int.reduceGT, Int.reduceNeg, reduceCtorEq, GZ, hs, h48, h49, h50, d, List.length_cons, List.length_nil]
theorem XM (a b : Str) (ha : a.length ≤ 4194304) (hb : b.length ≤ 4194304) : zE (EV Tryz.prog pol) 167 [.t (.str a), .t (.str b)] = some (.t (.int .i64 (aA a b))) := by
  have d1 := jD a (by omega)
  have d2 := jD b (by omega)
  have d3 := aC a ha
  have d4 := aC b hb
  have d5 := vx ((w8 a).length : Int) ((w8 b).length : Int)
  have d6 := U4 a b
  have d7 := U4 (w8 a) (w8 b)
  rw [ef] at d6 d7
  unfold aA
  generalize w8 a = ta at *
  generalize w8 b = tb at *
  generalize x9 (ta.length : Int) (tb.length : Int) = n at *
  cases h1 : isNum a <;> cases h2 : isNum b <;> rw [h1] at d1 <;> rw [h2] at d2 <;> simp only [Bool.and_true, Bool.and_false, cond_true, cond_false]
  · apply zu
    refine zw rfl Tryz.func167 rfl (by kernel_rfl) ?_
    unfold Tryz.f167
    simp (disch := ((try simp only [LL]); omega)) only [↓GO, ↓DRW, GA, ren, zB, zf, refs, zb, cst, zl, zH, z7, E.load, E.store, zG, isC, bin, zI, zJ, una, z8, za, zh, zK, blt, fnV, asArg, zd, zn, zo, zj, zi, zg, zk, zr, z6, zD, zF, mkS, zc, unN, zM, zm, zy, zC, ze, zN, zq, GS, Int.reduceToNat, Nat.reduceGT, ↓reduceIte, Nat.reduceAdd, Nat.reduceMul, Nat.reduceSub, Nat.reduceEqDiff, Nat.reduceLeDiff, Nat.reduceLT, Nat.reduceBEq, Int.reduceBEq, Int.reduceBNe, Int.reduceEq, Int.reduceLT, Int.reduceLE, Int.reduceGT, Int.reduceNeg, reduceCtorEq, GZ, d1, d2, d6]
  · apply zu
    refine zw rfl Tryz.func167 rfl (by kernel_rfl) ?_
    unfold Tryz.f167
    simp (disch := ((try simp only [LL]); omega)) only [↓GO, ↓DRW, GA, ren, zB, zf, refs, zb, cst, zl, zH, z7, E.load, E.store, zG, isC, bin, zI, zJ, una, z8, za, zh, zK, blt, fnV, asArg, zd, zn, zo, zj, zi, zg, zk, zr, z6, zD, zF, mkS, zc, unN, zM, zm, zy, zC, ze, zN, zq, GS, Int.reduceToNat, Nat.reduceGT, ↓reduceIte, Nat.reduceAdd, Nat.reduceMul, Nat.reduceSub, Nat.reduceEqDiff, Nat.reduceLeDiff, Nat.reduceLT, Nat.reduceBEq, Int.reduceBEq, Int.reduceBNe, Int.reduceEq, Int.reduceLT, Int.reduceLE, Int.reduceGT, Int.reduceNeg, reduceCtorEq, GZ, d1, d2, d6]
  · apply zu
    refine zw rfl Tryz.func167 rfl (by kernel_rfl) ?_
    unfold Tryz.f167
    simp (disch := ((try simp only [LL]); omega)) only [↓GO, ↓DRW, GA, ren, zB, zf, refs, zb, cst, zl, zH, z7, E.load, E.store, zG, isC, bin, zI, zJ, una, z8, za, zh, zK, blt, fnV, asArg, zd, zn, zo, zj, zi, zg, zk, zr, z6, zD, zF, mkS, zc, unN, zM, zm, zy, zC, ze, zN, zq, GS, Int.reduceToNat, Nat.reduceGT, ↓reduceIte, Nat.reduceAdd, Nat.reduceMul, Nat.reduceSub, Nat.reduceEqDiff, Nat.reduceLeDiff, Nat.reduceLT, Nat.reduceBEq, Int.reduceBEq, Int.reduceBNe, Int.reduceEq, Int.reduceLT, Int.reduceLE, Int.reduceGT, Int.reduceNeg, reduceCtorEq, GZ, d1, d2, d6]
  · cases hn : (n == 0)
    all_goals
      simp only [cond_true, cond_false]
      apply zu
      refine zw rfl Tryz.func167 rfl (by kernel_rfl) ?_
      unfold Tryz.f167
      simp (disch := ((try simp only [LL]); omega)) only [↓GO, ↓DRW, GA, ren, zB, zf, refs, zb, cst, zl, zH, z7, E.load, E.store, zG, isC, bin, zI, zJ, una, z8, za, zh, zK, blt, fnV, asArg, zd, zn, zo, zj, zi, zg, zk, zr, z6, zD, zF, mkS, zc, unN, zM, zm, zy, zC, ze, zN, zq, GS, Int.reduceToNat, Nat.reduceGT, ↓reduceIte, Nat.reduceAdd, Nat.reduceMul, Nat.reduceSub, Nat.reduceEqDiff, Nat.reduceLeDiff, Nat.reduceLT, Nat.reduceBEq, Int.reduceBEq, Int.reduceBNe, Int.reduceEq, Int.reduceLT, Int.reduceLE, Int.reduceGT, Int.reduceNeg, reduceCtorEq, GZ, d1, d2, d3, d4, d5, d7, hn, bne]
theorem UZ (x1 x2 x3 x4 y1 y2 y3 y4 : T) (a b c : Int) :
    EV Tryz.prog pol (.loop 137 26 0 [.ptr 0 0 0, .ptr 1 0 0, .sl 2 0 3 (some 3), .t (.int .i64 3), .t (.int .i64 0)] [.vs 4 [[.t x1, .t x2, .t x3, .t x4]], .vs 4 [[.t y1, .t y2, .t y3, .t y4]], .ts 1 [[.int .i64 a], [.int .i64 b], [.int .i64 c]]])
    = some (cond (a == 0) (cond (b == 0) (cond (c == 0) (.loop (.exit 0) [.ptr 0 0 0, .ptr 1 0 0, .bad] [.vs 4 [[.t x1, .t x2, .t x3, .t x4]], .vs 4 [[.t y1, .t y2, .t y3, .t y4]]])
      (.loop .ret [.ptr 0 0 0, .ptr 1 0 0, .t (.int .i64 c)] [.vs 4 [[.t x1, .t x2, .t x3, .t x4]], .vs 4 [[.t y1, .t y2, .t y3, .t y4]]]))
      (.loop .ret [.ptr 0 0 0, .ptr 1 0 0, .t (.int .i64 b)] [.vs 4 [[.t x1, .t x2, .t x3, .t x4]], .vs 4 [[.t y1, .t y2, .t y3, .t y4]]]))
      (.loop .ret [.ptr 0 0 0, .ptr 1 0 0, .t (.int .i64 a)] [.vs 4 [[.t x1, .t x2, .t x3, .t x4]], .vs 4 [[.t y1, .t y2, .t y3, .t y4]]])) := by
  cases h1 : (a == 0)
  · refine zz Tryz.func137 rfl rfl ?_
    simp (disch := ((try simp only [LL]); omega)) only [↓GO, ↓DRW, GA, ren, zB, zf, refs, zb, cst, zl, zH, z7, E.load, E.store, zG, isC, bin, zI, zJ, una, z8, za, zh, zK, blt, fnV, asArg, zd, zn, zo, zj, zi, zg, zk, zr, z6, zD, zF, mkS, zc, unN, zM, zm, zy, zC, ze, zN, zq, GS, Int.reduceToNat, Nat.reduceGT, ↓reduceIte, Nat.reduceAdd, Nat.reduceMul, Nat.reduceSub, Nat.reduceEqDiff, Nat.reduceLeDiff, Nat.reduceLT, Nat.reduceBEq, Int.reduceBEq, Int.reduceBNe, Int.reduceEq, Int.reduceLT, Int.reduceLE, Int.reduceGT, Int.reduceNeg, reduceCtorEq, GZ, h1, bne, zx, zY]
  · refine zz Tryz.func137 rfl rfl ?_
    simp (disch := ((try simp only [LL]); omega)) only [↓GO, ↓DRW, GA, ren, zB, zf, refs, zb, cst, zl, zH, z7, E.load, E.store, zG, isC, bin, zI, zJ, una, z8, za, zh, zK, blt, fnV, asArg, zd, zn, zo, zj, zi, zg, zk, zr, z6, zD, zF, mkS, zc, unN, zM, zm, zy, zC, ze, zN, zq, GS, Int.reduceToNat, Nat.reduceGT, ↓reduceIte, Nat.reduceAdd, Nat.reduceMul, Nat.reduceSub, Nat.reduceEqDiff, Nat.reduceLeDiff, Nat.reduceLT, Nat.reduceBEq, Int.reduceBEq, Int.reduceBNe, Int.reduceEq, Int.reduceLT, Int.reduceLE, Int.reduceGT, Int.reduceNeg, reduceCtorEq, GZ, h1, bne, zx, zY, Int.zero_add]
    cases h2 : (b == 0)
    · refine zz Tryz.func137 rfl rfl ?_
      simp (disch := ((try simp only [LL]); omega)) only [↓GO, ↓DRW, GA, ren, zB, zf, refs, zb, cst, zl, zH, z7, E.load, E.store, zG, isC, bin, zI, zJ, una, z8, za, zh, zK, blt, fnV, asArg, zd, zn, zo, zj, zi, zg, zk, zr, z6, zD, zF, mkS, zc, unN, zM, zm, zy, zC, ze, zN, zq, GS, Int.reduceToNat, Nat.reduceGT, ↓reduceIte, Nat.reduceAdd, Nat.reduceMul, Nat.reduceSub, Nat.reduceEqDiff, Nat.reduceLeDiff, Nat.reduceLT, Nat.reduceBEq, Int.reduceBEq, Int.reduceBNe, Int.reduceEq, Int.reduceLT, Int.reduceLE, Int.reduceGT, Int.reduceNeg, reduceCtorEq, GZ, h2, bne, zx, zY]
    · refine zz Tryz.func137 rfl rfl ?_
      simp (disch := ((try simp only [LL]); omega)) only [↓GO, ↓DRW, GA, ren, zB, zf, refs, zb, cst, zl, zH, z7, E.load, E.store, zG, isC, bin, zI, zJ, una, z8, za, zh, zK, blt, fnV, asArg, zd, zn, zo, zj, zi, zg, zk, zr, z6, zD, zF, mkS, zc, unN, zM, zm, zy, zC, ze, zN, zq, GS, Int.reduceToNat, Nat.reduceGT, ↓reduceIte, Nat.reduceAdd, Nat.reduceMul, Nat.reduceSub, Nat.reduceEqDiff, Nat.reduceLeDiff, Nat.reduceLT, Nat.reduceBEq, Int.reduceBEq, Int.reduceBNe, Int.reduceEq, Int.reduceLT, Int.reduceLE, Int.reduceGT, Int.reduceNeg, reduceCtorEq, GZ, h2, bne, zx, zY, Int.reduceAdd]
      cases h3 : (c == 0)
      · refine zz Tryz.func137 rfl rfl ?_
        simp (disch := ((try simp only [LL]); omega)) only [↓GO, ↓DRW, GA, ren, zB, zf, refs, zb, cst, zl, zH, z7, E.load, E.store, zG, isC, bin, zI, zJ, una, z8, za, zh, zK, blt, fnV, asArg, zd, zn, zo, zj, zi, zg, zk, zr, z6, zD, zF, mkS, zc, unN, zM, zm, zy, zC, ze, zN, zq, GS, Int.reduceToNat, Nat.reduceGT, ↓reduceIte, Nat.reduceAdd, Nat.reduceMul, Nat.reduceSub, Nat.reduceEqDiff, Nat.reduceLeDiff, Nat.reduceLT, Nat.reduceBEq, Int.reduceBEq, Int.reduceBNe, Int.reduceEq, Int.reduceLT, Int.reduceLE, Int.reduceGT, Int.reduceNeg, reduceCtorEq, GZ, h3, bne, zx, zY]
      · refine zz Tryz.func137 rfl rfl ?_
        simp (disch := ((try simp only [LL]); omega)) only [↓GO, ↓DRW, GA, ren, zB, zf, refs, zb, cst, zl, zH, z7, E.load, E.store, zG, isC, bin, zI, zJ, una, z8, za, zh, zK, blt, fnV, asArg, zd, zn, zo, zj, zi, zg, zk, zr, z6, zD, zF, mkS, zc, unN, zM, zm, zy, zC, ze, zN, zq, GS, Int.reduceToNat, Nat.reduceGT, ↓reduceIte, Nat.reduceAdd, Nat.reduceMul, Nat.reduceSub, Nat.reduceEqDiff, Nat.reduceLeDiff, Nat.reduceLT, Nat.reduceBEq, Int.reduceBEq, Int.reduceBNe, Int.reduceEq, Int.reduceLT, Int.reduceLE, Int.reduceGT, Int.reduceNeg, reduceCtorEq, GZ, h3, bne, zx, zY, Int.reduceAdd]
        refine zz Tryz.func137 rfl rfl ?_
        simp (disch := ((try simp only [LL]); omega)) only [↓GO, ↓DRW, GA, ren, zB, zf, refs, zb, cst, zl, zH, z7, E.load, E.store, zG, isC, bin, zI, zJ, una, z8, za, zh, zK, blt, fnV, asArg, zd, zn, zo, zj, zi, zg, zk, zr, z6, zD, zF, mkS, zc, unN, zM, zm, zy, zC, ze, zN, zq, GS, Int.reduceToNat, Nat.reduceGT, ↓reduceIte, Nat.reduceAdd, Nat.reduceMul, Nat.reduceSub, Nat.reduceEqDiff, Nat.reduceLeDiff, Nat.reduceLT, Nat.reduceBEq, Int.reduceBEq, Int.reduceBNe, Int.reduceEq, Int.reduceLT, Int.reduceLE, Int.reduceGT, Int.reduceNeg, reduceCtorEq, GZ, zx, zY]
theorem bW (a b : Ver) (ha : a.sm) (hb : b.sm) (M : Nat) (hM : M = min a.pre.length b.pre.length) : ∀ (ra rb pa pb : List Str), a.pre = pa ++ ra → b.pre = pb ++ rb → pa.length = pb.length →
    EV Tryz.prog pol (.loop 137 122 0 [.ptr 0 0 0, .ptr 1 0 0, .t (.int .i64 (M : Int)), .t (.int .i64 (pa.length : Int))] [.vs 4 [a.enc.map .t], .vs 4 [b.enc.map .t]])
    = some (match sD ra rb with
      | some n => .loop .ret [.ptr 0 0 0, .ptr 1 0 0, .t (.int .i64 n)] [.vs 4 [a.enc.map .t], .vs 4 [b.enc.map .t]]
      | none => .loop (.exit 2) [.ptr 0 0 0, .ptr 1 0 0, .bad] [.vs 4 [a.enc.map .t], .vs 4 [b.enc.map .t]])
  | [], rb, pa, pb, h1, h2, h3 => by
    have l1 : a.pre.length = pa.length := by rw [h1]; simp
    have c : decide ((pa.length : Int) < (M : Int)) = false := by apply decide_eq_false; omega
    have e : sD [] rb = none := by unfold sD; rfl
    rw [e]
    simp only [Ver.enc, List.map_cons, List.map_nil]
    refine zz Tryz.func137 rfl rfl ?_
    simp (disch := ((try simp only [LL]); omega)) only [↓GO, ↓DRW, GA, ren, zB, zf, refs, zb, cst, zl, zH, z7, E.load, E.store, zG, isC, bin, zI, zJ, una, z8, za, zh, zK, blt, fnV, asArg, zd, zn, zo, zj, zi, zg, zk, zr, z6, zD, zF, mkS, zc, unN, zM, zm, zy, zC, ze, zN, zq, GS, Int.reduceToNat, Nat.reduceGT, ↓reduceIte, Nat.reduceAdd, Nat.reduceMul, Nat.reduceSub, Nat.reduceEqDiff, Nat.reduceLeDiff, Nat.reduceLT, Nat.reduceBEq, Int.reduceBEq, Int.reduceBNe, Int.reduceEq, Int.reduceLT, Int.reduceLE, Int.reduceGT, Int.reduceNeg, reduceCtorEq, GZ, zR, c, zY]
  | x :: ra, [], pa, pb, h1, h2, h3 => by
    have l2 : b.pre.length = pb.length := by rw [h2]; simp
    have c : decide ((pa.length : Int) < (M : Int)) = false := by apply decide_eq_false; omega
    rw [show sD (x :: ra) [] = none from rfl]
    simp only [Ver.enc, List.map_cons, List.map_nil]
    refine zz Tryz.func137 rfl rfl ?_
    simp (disch := ((try simp only [LL]); omega)) only [↓GO, ↓DRW, GA, ren, zB, zf, refs, zb, cst, zl, zH, z7, E.load, E.store, zG, isC, bin, zI, zJ, una, z8, za, zh, zK, blt, fnV, asArg, zd, zn, zo, zj, zi, zg, zk, zr, z6, zD, zF, mkS, zc, unN, zM, zm, zy, zC, ze, zN, zq, GS, Int.reduceToNat, Nat.reduceGT, ↓reduceIte, Nat.reduceAdd, Nat.reduceMul, Nat.reduceSub, Nat.reduceEqDiff, Nat.reduceLeDiff, Nat.reduceLT, Nat.reduceBEq, Int.reduceBEq, Int.reduceBNe, Int.reduceEq, Int.reduceLT, Int.reduceLE, Int.reduceGT, Int.reduceNeg, reduceCtorEq, GZ, zR, c, zY]
  | x :: ra, y :: rb, pa, pb, h1, h2, h3 => by
    unfold Ver.sm at ha hb
    have l1 : pa.length + ra.length + 1 = a.pre.length := by rw [h1]; simp; omega
    have l2 : pb.length + rb.length + 1 = b.pre.length := by rw [h2]; simp; omega
    have c : decide ((pa.length : Int) < (M : Int)) = true := by apply decide_eq_true; omega
    have hg1 : (y6 a.pre)[pa.length]? = some [.str x] := by rw [h1]; exact xS pa x ra
    have hg2 : (y6 b.pre)[pa.length]? = some [.str y] := by rw [h2, h3]; exact xS pb y rb
    have hx : x.length ≤ 2097152 := by have := xV (ks := a.pre) (s := x) (by rw [h1]; simp); omega
    have hy : y.length ≤ 2097152 := by have := xV (ks := b.pre) (s := y) (by rw [h2]; simp); omega
    have hp := XM x y (by omega) (by omega)
    have IH := bW a b ha hb M hM ra rb (pa ++ [x]) (pb ++ [y]) (by rw [h1]; simp) (by rw [h2]; simp) (by simp [h3])
    rw [show ((pa ++ [x]).length : Int) = (pa.length : Int) + 1 by simp] at IH
    clear h1 h2
    simp only [Ver.enc, List.map_cons, List.map_nil] at IH ⊢
    rw [sD]
    generalize aA x y = n at *
    cases hn : (n == 0)
    · simp only [cond_false]
      refine zz Tryz.func137 rfl rfl ?_
      simp (disch := ((try simp only [LL]); omega)) only [↓GO, ↓DRW, GA, ren, zB, zf, refs, zb, cst, zl, zH, z7, E.load, E.store, zG, isC, bin, zI, zJ, una, z8, za, zh, zK, blt, fnV, asArg, zd, zn, zo, zj, zi, zg, zk, zr, z6, zD, zF, mkS, zc, unN, zM, zm, zy, zC, ze, zN, zq, GS, Int.reduceToNat, Nat.reduceGT, ↓reduceIte, Nat.reduceAdd, Nat.reduceMul, Nat.reduceSub, Nat.reduceEqDiff, Nat.reduceLeDiff, Nat.reduceLT, Nat.reduceBEq, Int.reduceBEq, Int.reduceBNe, Int.reduceEq, Int.reduceLT, Int.reduceLE, Int.reduceGT, Int.reduceNeg, reduceCtorEq, GZ, zR, c, hg1, hg2, hp, hn, bne, zx, zY]
    · simp only [cond_true]
      refine zz Tryz.func137 rfl rfl ?_
      simp (disch := ((try simp only [LL]); omega)) only [↓GO, ↓DRW, GA, ren, zB, zf, refs, zb, cst, zl, zH, z7, E.load, E.store, zG, isC, bin, zI, zJ, una, z8, za, zh, zK, blt, fnV, asArg, zd, zn, zo, zj, zi, zg, zk, zr, z6, zD, zF, mkS, zc, unN, zM, zm, zy, zC, ze, zN, zq, GS, Int.reduceToNat, Nat.reduceGT, ↓reduceIte, Nat.reduceAdd, Nat.reduceMul, Nat.reduceSub, Nat.reduceEqDiff, Nat.reduceLeDiff, Nat.reduceLT, Nat.reduceBEq, Int.reduceBEq, Int.reduceBNe, Int.reduceEq, Int.reduceLT, Int.reduceLE, Int.reduceGT, Int.reduceNeg, reduceCtorEq, GZ, zR, c, hg1, hg2, hp, hn, bne, zx, zY, IH]
theorem Tz (a b : Ver) (ha : a.sm) (hb : b.sm) : zE (EV Tryz.prog pol) 137 [.agg (a.enc.map .t), .agg (b.enc.map .t)] = some (.t (.int .i64 (qZ a b))) := by
  have d1 := vx a.maj b.maj
  have d2 := vx a.min b.min
  have d3 := vx a.pat b.pat
  have d4 := vx (b.pre.length : Int) (a.pre.length : Int)
  have d5 := vx (a.pre.length : Int) (b.pre.length : Int)
  obtain ⟨M, hM⟩ : ∃ M, M = min a.pre.length b.pre.length := ⟨_, rfl⟩
  have L2 := bW a b ha hb M hM a.pre b.pre [] [] rfl rfl rfl
  have L1 := UZ (.int .i64 a.maj) (.int .i64 a.min) (.int .i64 a.pat) (.list 1 (y6 a.pre)) (.int .i64 b.maj) (.int .i64 b.min) (.int .i64 b.pat) (.list 1 (y6 b.pre)) (x9 a.maj b.maj) (x9 a.min b.min) (x9 a.pat b.pat)
  have e1 := vZ a.pre
  have e2 := vZ b.pre
  have hm : (if (b.pre.length : Int) < (a.pre.length : Int) then (b.pre.length : Int) else (a.pre.length : Int)) = (M : Int) := by split <;> omega
  clear hM
  unfold qZ
  simp only [List.length_nil, Int.natCast_zero] at L2
  simp only [Ver.enc, List.map_cons, List.map_nil] at L1 L2 ⊢
  generalize x9 a.maj b.maj = n1 at *
  generalize x9 a.min b.min = n2 at *
  generalize x9 a.pat b.pat = n3 at *
  cases h1 : (n1 == 0) <;> rw [h1] at L1
  · simp only [cond_false] at L1
    apply zu
    refine zw rfl Tryz.func137 rfl (by kernel_rfl) ?_
    unfold Tryz.f137
    simp (disch := ((try simp only [LL]); omega)) only [↓GO, ↓DRW, GA, ren, zB, zf, refs, zb, cst, zl, zH, z7, E.load, E.store, zG, isC, bin, zI, zJ, una, z8, za, zh, zK, blt, fnV, asArg, zd, zn, zo, zj, zi, zg, zk, zr, z6, zD, zF, mkS, zc, unN, zM, zm, zy, zC, ze, zN, zq, GS, Int.reduceToNat, Nat.reduceGT, ↓reduceIte, Nat.reduceAdd, Nat.reduceMul, Nat.reduceSub, Nat.reduceEqDiff, Nat.reduceLeDiff, Nat.reduceLT, Nat.reduceBEq, Int.reduceBEq, Int.reduceBNe, Int.reduceEq, Int.reduceLT, Int.reduceLE, Int.reduceGT, Int.reduceNeg, reduceCtorEq, GZ, d1, d2, d3, L1, zY]
    refine yQ (by kernel_rfl) ?_
    simp (disch := ((try simp only [LL]); omega)) only [↓GO, ↓DRW, GA, ren, zB, zf, refs, zb, cst, zl, zH, z7, E.load, E.store, zG, isC, bin, zI, zJ, una, z8, za, zh, zK, blt, fnV, asArg, zd, zn, zo, zj, zi, zg, zk, zr, z6, zD, zF, mkS, zc, unN, zM, zm, zy, zC, ze, zN, zq, GS, Int.reduceToNat, Nat.reduceGT, ↓reduceIte, Nat.reduceAdd, Nat.reduceMul, Nat.reduceSub, Nat.reduceEqDiff, Nat.reduceLeDiff, Nat.reduceLT, Nat.reduceBEq, Int.reduceBEq, Int.reduceBNe, Int.reduceEq, Int.reduceLT, Int.reduceLE, Int.reduceGT, Int.reduceNeg, reduceCtorEq, GZ, d1, d2, d3, L1, zY]
  · cases h2 : (n2 == 0) <;> rw [h2] at L1
    · simp only [cond_false, cond_true] at L1
      apply zu
      refine zw rfl Tryz.func137 rfl (by kernel_rfl) ?_
      unfold Tryz.f137
      simp (disch := ((try simp only [LL]); omega)) only [↓GO, ↓DRW, GA, ren, zB, zf, refs, zb, cst, zl, zH, z7, E.load, E.store, zG, isC, bin, zI, zJ, una, z8, za, zh, zK, blt, fnV, asArg, zd, zn, zo, zj, zi, zg, zk, zr, z6, zD, zF, mkS, zc, unN, zM, zm, zy, zC, ze, zN, zq, GS, Int.reduceToNat, Nat.reduceGT, ↓reduceIte, Nat.reduceAdd, Nat.reduceMul, Nat.reduceSub, Nat.reduceEqDiff, Nat.reduceLeDiff, Nat.reduceLT, Nat.reduceBEq, Int.reduceBEq, Int.reduceBNe, Int.reduceEq, Int.reduceLT, Int.reduceLE, Int.reduceGT, Int.reduceNeg, reduceCtorEq, GZ, d1, d2, d3, L1, zY]
      refine yQ (by kernel_rfl) ?_
      simp (disch := ((try simp only [LL]); omega)) only [↓GO, ↓DRW, GA, ren, zB, zf, refs, zb, cst, zl, zH, z7, E.load, E.store, zG, isC, bin, zI, zJ, una, z8, za, zh, zK, blt, fnV, asArg, zd, zn, zo, zj, zi, zg, zk, zr, z6, zD, zF, mkS, zc, unN, zM, zm, zy, zC, ze, zN, zq, GS, Int.reduceToNat, Nat.reduceGT, ↓reduceIte, Nat.reduceAdd, Nat.reduceMul, Nat.reduceSub, Nat.reduceEqDiff, Nat.reduceLeDiff, Nat.reduceLT, Nat.reduceBEq, Int.reduceBEq, Int.reduceBNe, Int.reduceEq, Int.reduceLT, Int.reduceLE, Int.reduceGT, Int.reduceNeg, reduceCtorEq, GZ, d1, d2, d3, L1, zY]
    · cases h3 : (n3 == 0) <;> rw [h3] at L1
      · simp only [cond_false, cond_true] at L1
        apply zu
        refine zw rfl Tryz.func137 rfl (by kernel_rfl) ?_
        unfold Tryz.f137
        simp (disch := ((try simp only [LL]); omega)) only [↓GO, ↓DRW, GA, ren, zB, zf, refs, zb, cst, zl, zH, z7, E.load, E.store, zG, isC, bin, zI, zJ, una, z8, za, zh, zK, blt, fnV, asArg, zd, zn, zo, zj, zi, zg, zk, zr, z6, zD, zF, mkS, zc, unN, zM, zm, zy, zC, ze, zN, zq, GS, Int.reduceToNat, Nat.reduceGT, ↓reduceIte, Nat.reduceAdd, Nat.reduceMul, Nat.reduceSub, Nat.reduceEqDiff, Nat.reduceLeDiff, Nat.reduceLT, Nat.reduceBEq, Int.reduceBEq, Int.reduceBNe, Int.reduceEq, Int.reduceLT, Int.reduceLE, Int.reduceGT, Int.reduceNeg, reduceCtorEq, GZ, d1, d2, d3, L1, zY]
        refine yQ (by kernel_rfl) ?_
        simp (disch := ((try simp only [LL]); omega)) only [↓GO, ↓DRW, GA, ren, zB, zf, refs, zb, cst, zl, zH, z7, E.load, E.store, zG, isC, bin, zI, zJ, una, z8, za, zh, zK, blt, fnV, asArg, zd, zn, zo, zj, zi, zg, zk, zr, z6, zD, zF, mkS, zc, unN, zM, zm, zy, zC, ze, zN, zq, GS, Int.reduceToNat, Nat.reduceGT, ↓reduceIte, Nat.reduceAdd, Nat.reduceMul, Nat.reduceSub, Nat.reduceEqDiff, Nat.reduceLeDiff, Nat.reduceLT, Nat.reduceBEq, Int.reduceBEq, Int.reduceBNe, Int.reduceEq, Int.reduceLT, Int.reduceLE, Int.reduceGT, Int.reduceNeg, reduceCtorEq, GZ, d1, d2, d3, L1, zY]
      · simp only [cond_true] at L1
        cases hs : sD a.pre b.pre <;> rw [hs] at L2 <;> simp only at L2 <;> cases h4 : (a.pre == []) <;> cases h5 : (b.pre == []) <;> rw [h4] at e1 <;> rw [h5] at e2
        all_goals
          apply zu
          refine zw rfl Tryz.func137 rfl (by kernel_rfl) ?_
          unfold Tryz.f137
          simp (disch := ((try simp only [LL]); omega)) only [↓GO, ↓DRW, GA, ren, zB, zf, refs, zb, cst, zl, zH, z7, E.load, E.store, zG, isC, bin, zI, zJ, una, z8, za, zh, zK, blt, fnV, asArg, zd, zn, zo, zj, zi, zg, zk, zr, z6, zD, zF, mkS, zc, unN, zM, zm, zy, zC, ze, zN, zq, GS, Int.reduceToNat, Nat.reduceGT, ↓reduceIte, Nat.reduceAdd, Nat.reduceMul, Nat.reduceSub, Nat.reduceEqDiff, Nat.reduceLeDiff, Nat.reduceLT, Nat.reduceBEq, Int.reduceBEq, Int.reduceBNe, Int.reduceEq, Int.reduceLT, Int.reduceLE, Int.reduceGT, Int.reduceNeg, reduceCtorEq, GZ, d1, d2, d3, d4, d5, L1, L2, hm, zR, e1, e2, bne, Bool.beq_eq_decide_eq, zY]
          refine yQ (by kernel_rfl) ?_
          simp (disch := ((try simp only [LL]); omega)) only [↓GO, ↓DRW, GA, ren, zB, zf, refs, zb, cst, zl, zH, z7, E.load, E.store, zG, isC, bin, zI, zJ, una, z8, za, zh, zK, blt, fnV, asArg, zd, zn, zo, zj, zi, zg, zk, zr, z6, zD, zF, mkS, zc, unN, zM, zm, zy, zC, ze, zN, zq, GS, Int.reduceToNat, Nat.reduceGT, ↓reduceIte, Nat.reduceAdd, Nat.reduceMul, Nat.reduceSub, Nat.reduceEqDiff, Nat.reduceLeDiff, Nat.reduceLT, Nat.reduceBEq, Int.reduceBEq, Int.reduceBNe, Int.reduceEq, Int.reduceLT, Int.reduceLE, Int.reduceGT, Int.reduceNeg, reduceCtorEq, GZ, d1, d2, d3, d4, d5, L1, L2, hm, zR, e1, e2, bne, zY, Option.getD_some, Option.getD_none]
theorem Sd (a b : Str) (ha : a.length ≤ 1048700) (hb : b.length ≤ 1048700) : zE (EV Tryz.prog pol) 100 [.t (.str a), .t (.str b)] = some (.t (.int .i64 (qZ (zA a).1 (zA b).1))) := by
  have d1 := oq a ha
  have d2 := oq b hb
  have d3 := Tz (zA a).1 (zA b).1 (yW a ha).1 (yW b hb).1
  unfold rvT at d1 d2
  generalize qZ (zA a).1 (zA b).1 = n at *
  generalize (zA a).1 = va at *
  generalize (zA b).1 = vb at *
  simp only [Ver.enc, List.map_cons, List.map_nil] at d1 d2 d3
  apply zu
  refine zw rfl Tryz.func100 rfl (by kernel_rfl) ?_
  unfold Tryz.f100
  simp (disch := ((try simp only [LL]); omega)) only [↓GO, ↓DRW, GA, ren, zB, zf, refs, zb, cst, zl, zH, z7, E.load, E.store, zG, isC, bin, zI, zJ, una, z8, za, zh, zK, blt, fnV, asArg, zd, zn, zo, zj, zi, zg, zk, zr, z6, zD, zF, mkS, zc, unN, zM, zm, zy, zC, ze, zN, zq, GS, Int.reduceToNat, Nat.reduceGT, ↓reduceIte, Nat.reduceAdd, Nat.reduceMul, Nat.reduceSub, Nat.reduceEqDiff, Nat.reduceLeDiff, Nat.reduceLT, Nat.reduceBEq, Int.reduceBEq, Int.reduceBNe, Int.reduceEq, Int.reduceLT, Int.reduceLE, Int.reduceGT, Int.reduceNeg, reduceCtorEq, GZ, d1, d2, d3, zY]
end Go.Proofs.YtmcephnfcciloaaGreatDoor
/- What is in a range, by both; what a notice tells of. Conditions: those of each lemma. -/
namespace Go.Proofs.YtmcephnfcciloaaGreatDoor
open E
set_option linter.unusedSimpArgs false
set_option linter.unusedVariables false
set_option maxRecDepth 100000
theorem a8 {α : Type} [BEq α] (l : List α) : decide ((l.length : Int) > 0) = !(l == []) := by
  cases l with
  | nil => rfl
  | cons x r => rw [beq_nil_cons]; simp only [Bool.not_false]; apply decide_eq_true; simp only [List.length_cons]; omega
set_option maxHeartbeats 16000000 in
theorem S3 (s : Str) (v : Ver) (hv : zA s = (v, true)) (hs : s.length ≤ 1048700) (l : List Bd) (hl : l.length ≤ 4194304) (hb : ∀ b ∈ l, b.1.length ≤ 1048700 ∧ b.2.length ≤ 1048700) : ∀ (rest pre : List Bd), l = pre ++ rest → ∃ x,
    EV Tryz.prog pol (.loop 66 122 0 [.t (.str s), .ptr 0 0 0, .t (.list 2 (bdT l)), .t (.int .i64 (l.length : Int)), .t (.int .i64 (pre.length : Int))] [.vs 4 [v.enc.map .t]])
      = some (cond (rest.any (pc v)) (.loop .ret [.t (.bool true)] []) (.loop (.exit 0) [x] []))
  | [], pre, h => by
    have c : decide ((pre.length : Int) < (l.length : Int)) = false := by simp [h]
    refine ⟨.bad, ?_⟩
    simp only [List.any_nil, cond_false, Ver.enc, List.map_cons, List.map_nil]
    refine zz Tryz.func66 rfl rfl ?_
    simp (disch := ((try simp only [LL]); omega)) only [↓GO, ↓DRW, GA, ren, zB, zf, refs, zb, cst, zl, zH, z7, E.load, E.store, zG, isC, bin, zI, zJ, una, z8, za, zh, zK, blt, fnV, asArg, zd, zn, zo, zj, zi, zg, zk, zr, z6, zD, zF, mkS, zc, unN, zM, zm, zy, zC, ze, zN, zq, GS, Int.reduceToNat, Nat.reduceGT, ↓reduceIte, Nat.reduceAdd, Nat.reduceMul, Nat.reduceSub, Nat.reduceEqDiff, Nat.reduceLeDiff, Nat.reduceLT, Nat.reduceBEq, Int.reduceBEq, Int.reduceBNe, Int.reduceEq, Int.reduceLT, Int.reduceLE, Int.reduceGT, Int.reduceNeg, reduceCtorEq, GZ, c, zY]
  | b :: rest, pre, h => by
    have c : decide ((pre.length : Int) < (l.length : Int)) = true := by simp [h]; omega
    have hget : (bdT l)[pre.length]? = some [.str b.1, .str b.2] := by rw [h]; exact wy (fun b : Bd => [T.str b.1, T.str b.2]) pre b rest
    have hlen : pre.length + rest.length + 1 ≤ l.length := by rw [h]; simp; omega
    obtain ⟨hb1, hb2⟩ := hb b (by rw [h]; simp)
    have d1 := Sd s b.1 hs hb1
    have d2 := Sd s b.2 hs hb2
    have d3 := oq b.1 hb1
    rw [hv] at d1 d2
    obtain ⟨x, IH⟩ := S3 s v hv hs l hl hb rest (pre ++ [b]) (by rw [h]; simp)
    rw [show ((pre ++ [b]).length : Int) = (pre.length : Int) + 1 by simp] at IH
    refine ⟨x, ?_⟩
    have e1 := vZ v.pre
    have e2 := a8 (zA b.1).1.pre
    rw [List.any_cons]
    generalize hR : rest.any (pc v) = R at *
    have ht : pc v b = cond ((!(b.1 == []) && decide (qZ v (zA b.1).1 < 0)) || (!(b.2 == []) && decide (qZ v (zA b.2).1 ≥ 0))) false
      (v.pre == [] || (!((zA b.1).1.pre == []) && ((zA b.1).1.maj == v.maj && ((zA b.1).1.min == v.min && (zA b.1).1.pat == v.pat)))) := rfl
    rw [ht]
    clear h hb hv ht hR
    obtain ⟨lo, hi⟩ := b
    unfold rvT at d3
    simp only at d1 d2 d3 e2 hget ⊢
    generalize (zA lo).2 = okl at *
    generalize qZ v (zA lo).1 = n1 at *
    generalize qZ v (zA hi).1 = n2 at *
    generalize (zA lo).1 = vl at *
    obtain ⟨maj, min, pat, pre'⟩ := v
    obtain ⟨maj2, min2, pat2, pre2⟩ := vl
    simp only [Ver.enc, List.map_cons, List.map_nil] at d3 IH e1 e2 ⊢
    have skip : ∀ (q : Bool), q = true → True := fun _ _ => trivial
    cases q1 : (lo == []) <;> cases q2 : decide (n1 < 0) <;> cases q3 : (hi == []) <;> cases q4 : decide (n2 ≥ 0) <;> simp only [Bool.not_true, Bool.not_false, Bool.and_true, Bool.true_and, Bool.false_and, Bool.and_false, Bool.or_false, Bool.or_true, cond_true, cond_false, Bool.false_or]
    all_goals first
      | (refine zz Tryz.func66 rfl rfl ?_
         simp (disch := ((try simp only [LL]); omega)) only [↓GO, ↓DRW, GA, ren, zB, zf, refs, zb, cst, zl, zH, z7, E.load, E.store, zG, isC, bin, zI, zJ, una, z8, za, zh, zK, blt, fnV, asArg, zd, zn, zo, zj, zi, zg, zk, zr, z6, zD, zF, mkS, zc, unN, zM, zm, zy, zC, ze, zN, zq, GS, Int.reduceToNat, Nat.reduceGT, ↓reduceIte, Nat.reduceAdd, Nat.reduceMul, Nat.reduceSub, Nat.reduceEqDiff, Nat.reduceLeDiff, Nat.reduceLT, Nat.reduceBEq, Int.reduceBEq, Int.reduceBNe, Int.reduceEq, Int.reduceLT, Int.reduceLE, Int.reduceGT, Int.reduceNeg, reduceCtorEq, GZ, c, hget, d1, d2, d3, q1, q2, q3, q4, e1, e2, bne, zR, zx, zY, IH]
         done)
      | (cases q5 : (pre' == []) <;> rw [q5] at e1
         · cases q6 : (pre2 == []) <;> rw [q6] at e2
           · cases q7 : (maj2 == maj)
             · refine zz Tryz.func66 rfl rfl ?_
               simp (disch := ((try simp only [LL]); omega)) only [↓GO, ↓DRW, GA, ren, zB, zf, refs, zb, cst, zl, zH, z7, E.load, E.store, zG, isC, bin, zI, zJ, una, z8, za, zh, zK, blt, fnV, asArg, zd, zn, zo, zj, zi, zg, zk, zr, z6, zD, zF, mkS, zc, unN, zM, zm, zy, zC, ze, zN, zq, GS, Int.reduceToNat, Nat.reduceGT, ↓reduceIte, Nat.reduceAdd, Nat.reduceMul, Nat.reduceSub, Nat.reduceEqDiff, Nat.reduceLeDiff, Nat.reduceLT, Nat.reduceBEq, Int.reduceBEq, Int.reduceBNe, Int.reduceEq, Int.reduceLT, Int.reduceLE, Int.reduceGT, Int.reduceNeg, reduceCtorEq, GZ, c, hget, d1, d2, d3, q1, q2, q3, q4, e1, e2, q7, bne, zR, zx, zY, IH, Bool.not_false, Bool.not_true, Bool.and_false, Bool.false_or]
             · cases q8 : (min2 == min)
               · refine zz Tryz.func66 rfl rfl ?_
                 simp (disch := ((try simp only [LL]); omega)) only [↓GO, ↓DRW, GA, ren, zB, zf, refs, zb, cst, zl, zH, z7, E.load, E.store, zG, isC, bin, zI, zJ, una, z8, za, zh, zK, blt, fnV, asArg, zd, zn, zo, zj, zi, zg, zk, zr, z6, zD, zF, mkS, zc, unN, zM, zm, zy, zC, ze, zN, zq, GS, Int.reduceToNat, Nat.reduceGT, ↓reduceIte, Nat.reduceAdd, Nat.reduceMul, Nat.reduceSub, Nat.reduceEqDiff, Nat.reduceLeDiff, Nat.reduceLT, Nat.reduceBEq, Int.reduceBEq, Int.reduceBNe, Int.reduceEq, Int.reduceLT, Int.reduceLE, Int.reduceGT, Int.reduceNeg, reduceCtorEq, GZ, c, hget, d1, d2, d3, q1, q2, q3, q4, e1, e2, q7, q8, bne, zR, zx, zY, IH, Bool.not_false, Bool.not_true, Bool.and_false, Bool.false_or]
               · cases q9 : (pat2 == pat)
                 all_goals
                   refine zz Tryz.func66 rfl rfl ?_
                   simp (disch := ((try simp only [LL]); omega)) only [↓GO, ↓DRW, GA, ren, zB, zf, refs, zb, cst, zl, zH, z7, E.load, E.store, zG, isC, bin, zI, zJ, una, z8, za, zh, zK, blt, fnV, asArg, zd, zn, zo, zj, zi, zg, zk, zr, z6, zD, zF, mkS, zc, unN, zM, zm, zy, zC, ze, zN, zq, GS, Int.reduceToNat, Nat.reduceGT, ↓reduceIte, Nat.reduceAdd, Nat.reduceMul, Nat.reduceSub, Nat.reduceEqDiff, Nat.reduceLeDiff, Nat.reduceLT, Nat.reduceBEq, Int.reduceBEq, Int.reduceBNe, Int.reduceEq, Int.reduceLT, Int.reduceLE, Int.reduceGT, Int.reduceNeg, reduceCtorEq, GZ, c, hget, d1, d2, d3, q1, q2, q3, q4, e1, e2, q7, q8, q9, bne, zR, zx, zY, IH, Bool.not_false, Bool.not_true, Bool.and_false, Bool.false_or]
           · refine zz Tryz.func66 rfl rfl ?_
             simp (disch := ((try simp only [LL]); omega)) only [↓GO, ↓DRW, GA, ren, zB, zf, refs, zb, cst, zl, zH, z7, E.load, E.store, zG, isC, bin, zI, zJ, una, z8, za, zh, zK, blt, fnV, asArg, zd, zn, zo, zj, zi, zg, zk, zr, z6, zD, zF, mkS, zc, unN, zM, zm, zy, zC, ze, zN, zq, GS, Int.reduceToNat, Nat.reduceGT, ↓reduceIte, Nat.reduceAdd, Nat.reduceMul, Nat.reduceSub, Nat.reduceEqDiff, Nat.reduceLeDiff, Nat.reduceLT, Nat.reduceBEq, Int.reduceBEq, Int.reduceBNe, Int.reduceEq, Int.reduceLT, Int.reduceLE, Int.reduceGT, Int.reduceNeg, reduceCtorEq, GZ, c, hget, d1, d2, d3, q1, q2, q3, q4, e1, e2, bne, zR, zx, zY, IH, Bool.not_false, Bool.not_true, Bool.and_false, Bool.false_or]
         · refine zz Tryz.func66 rfl rfl ?_
           simp (disch := ((try simp only [LL]); omega)) only [↓GO, ↓DRW, GA, ren, zB, zf, refs, zb, cst, zl, zH, z7, E.load, E.store, zG, isC, bin, zI, zJ, una, z8, za, zh, zK, blt, fnV, asArg, zd, zn, zo, zj, zi, zg, zk, zr, z6, zD, zF, mkS, zc, unN, zM, zm, zy, zC, ze, zN, zq, GS, Int.reduceToNat, Nat.reduceGT, ↓reduceIte, Nat.reduceAdd, Nat.reduceMul, Nat.reduceSub, Nat.reduceEqDiff, Nat.reduceLeDiff, Nat.reduceLT, Nat.reduceBEq, Int.reduceBEq, Int.reduceBNe, Int.reduceEq, Int.reduceLT, Int.reduceLE, Int.reduceGT, Int.reduceNeg, reduceCtorEq, GZ, c, hget, d1, d2, d3, q1, q2, q3, q4, e1, e2, bne, zR, zx, zY, IH, Bool.true_or])
end Go.Proofs.YtmcephnfcciloaaGreatDoor
/- What is in a range, by both; what a notice tells of. Conditions: those of each lemma. -/
namespace Go.Proofs.YtmcephnfcciloaaGreatDoor
open E
set_option linter.unusedSimpArgs false
set_option linter.unusedVariables false
set_option maxRecDepth 100000
def BdB (l : List Bd) : Prop := l.length ≤ 4194304 ∧ ∀ b ∈ l, b.1.length ≤ 1048600 ∧ b.2.length ≤ 1048600
theorem c_inI (s : Str) (hs : s.length ≤ 1048576) (l : List Bd) (hl : BdB l) : zE (EV Tryz.prog pol) 66 [.t (.str s), .t (.list 2 (bdT l))] = some (.t (.bool (inB s l))) := by
  have hb : ∀ b ∈ l, b.1.length ≤ 1048700 ∧ b.2.length ≤ 1048700 := fun b hb => by have := hl.2 b hb; omega
  have d1 := oq s (by omega)
  have d2 := U5 l hl.1 hb
  unfold rvT at d1
  unfold inB
  cases ho : (zA s).2 with
  | false =>
    rw [ho] at d1
    generalize (zA s).1 = v at *
    simp only [Bool.false_and]
    obtain ⟨maj, min, pat, pre⟩ := v
    simp only [Ver.enc, List.map_cons, List.map_nil] at d1
    apply zu
    refine zw rfl Tryz.func66 rfl (by kernel_rfl) ?_
    unfold Tryz.f66
    simp (disch := ((try simp only [LL]); omega)) only [↓GO, ↓DRW, GA, ren, zB, zf, refs, zb, cst, zl, zH, z7, E.load, E.store, zG, isC, bin, zI, zJ, una, z8, za, zh, zK, blt, fnV, asArg, zd, zn, zo, zj, zi, zg, zk, zr, z6, zD, zF, mkS, zc, unN, zM, zm, zy, zC, ze, zN, zq, GS, Int.reduceToNat, Nat.reduceGT, ↓reduceIte, Nat.reduceAdd, Nat.reduceMul, Nat.reduceSub, Nat.reduceEqDiff, Nat.reduceLeDiff, Nat.reduceLT, Nat.reduceBEq, Int.reduceBEq, Int.reduceBNe, Int.reduceEq, Int.reduceLT, Int.reduceLE, Int.reduceGT, Int.reduceNeg, reduceCtorEq, GZ, d1, zY]
  | true =>
    have hv : zA s = ((zA s).1, true) := by rw [← ho]
    have hvo := (yu ho).2.2.1
    obtain ⟨x, L⟩ := S3 s _ hv (by omega) l hl.1 hb l [] rfl
    rw [ho] at d1
    simp only [List.length_nil, Int.natCast_zero] at L
    cases hr : xk l with
    | false =>
      rw [hr] at d2
      generalize (zA s).1 = v at *
      simp only [Bool.true_and, Bool.false_and]
      obtain ⟨maj, min, pat, pre⟩ := v
      simp only [Ver.enc, List.map_cons, List.map_nil] at d1
      apply zu
      refine zw rfl Tryz.func66 rfl (by kernel_rfl) ?_
      unfold Tryz.f66
      simp (disch := ((try simp only [LL]); omega)) only [↓GO, ↓DRW, GA, ren, zB, zf, refs, zb, cst, zl, zH, z7, E.load, E.store, zG, isC, bin, zI, zJ, una, z8, za, zh, zK, blt, fnV, asArg, zd, zn, zo, zj, zi, zg, zk, zr, z6, zD, zF, mkS, zc, unN, zM, zm, zy, zC, ze, zN, zq, GS, Int.reduceToNat, Nat.reduceGT, ↓reduceIte, Nat.reduceAdd, Nat.reduceMul, Nat.reduceSub, Nat.reduceEqDiff, Nat.reduceLeDiff, Nat.reduceLT, Nat.reduceBEq, Int.reduceBEq, Int.reduceBNe, Int.reduceEq, Int.reduceLT, Int.reduceLE, Int.reduceGT, Int.reduceNeg, reduceCtorEq, GZ, d1, d2, zY]
    | true =>
      rw [hr] at d2
      have hall : (l.all fun b => isE b.1 && isE b.2) = true := by
        unfold xk at hr
        rw [Bool.and_eq_true] at hr
        exact hr.1
      rw [ew hvo l hall] at L
      generalize l.any (vJ (zA s).1) = R at *
      generalize (zA s).1 = v at *
      simp only [Bool.true_and]
      obtain ⟨maj, min, pat, pre⟩ := v
      simp only [Ver.enc, List.map_cons, List.map_nil] at d1 L
      have hbl : (bdT l).length = l.length := xM l
      cases R <;> simp only [cond_true, cond_false] at L
      all_goals
        apply zu
        refine zw rfl Tryz.func66 rfl (by kernel_rfl) ?_
        unfold Tryz.f66
        simp (disch := ((try simp only [LL]); omega)) only [↓GO, ↓DRW, GA, ren, zB, zf, refs, zb, cst, zl, zH, z7, E.load, E.store, zG, isC, bin, zI, zJ, una, z8, za, zh, zK, blt, fnV, asArg, zd, zn, zo, zj, zi, zg, zk, zr, z6, zD, zF, mkS, zc, unN, zM, zm, zy, zC, ze, zN, zq, GS, Int.reduceToNat, Nat.reduceGT, ↓reduceIte, Nat.reduceAdd, Nat.reduceMul, Nat.reduceSub, Nat.reduceEqDiff, Nat.reduceLeDiff, Nat.reduceLT, Nat.reduceBEq, Int.reduceBEq, Int.reduceBNe, Int.reduceEq, Int.reduceLT, Int.reduceLE, Int.reduceGT, Int.reduceNeg, reduceCtorEq, GZ, d1, d2, L, hbl, zY]
set_option maxHeartbeats 16000000 in
theorem c_tkR (v : Ver) (hv : v.sm) (b : Bd) (hb : b.1.length ≤ 1048600 ∧ b.2.length ≤ 1048600) : zE (EV Tryz.prog pol) 89 [.agg [.t (.str b.1), .t (.str b.2)], .agg (v.enc.map .t)] = some (.t (.bool (vJ v b))) := by
  obtain ⟨lo, hi⟩ := b
  simp only at hb ⊢
  have d1 := oo lo (by omega)
  have d2 := oo hi (by omega)
  have d3 := cQ v (zA lo).1 hv (yW lo (by omega)).1
  have d4 := cQ v (zA hi).1 hv (yW hi (by omega)).1
  have e1 := vZ v.pre
  have e2 := a8 (zA lo).1.pre
  have ht : vJ v (lo, hi) = cond (((zA lo).2 && decide (rE v (zA lo).1 < 0)) || ((zA hi).2 && decide (rE v (zA hi).1 ≥ 0))) false
      (v.pre == [] || ((zA lo).2 && (!((zA lo).1.pre == []) && ((zA lo).1.maj == v.maj && ((zA lo).1.min == v.min && (zA lo).1.pat == v.pat))))) := rfl
  rw [ht]
  clear ht
  unfold rvT at d1 d2
  generalize (zA lo).2 = okl at *
  generalize (zA hi).2 = okh at *
  generalize rE v (zA lo).1 = n1 at *
  generalize rE v (zA hi).1 = n2 at *
  generalize (zA lo).1 = vl at *
  generalize (zA hi).1 = vh at *
  obtain ⟨maj, min, pat, pre'⟩ := v
  obtain ⟨maj2, min2, pat2, pre2⟩ := vl
  obtain ⟨maj3, min3, pat3, pre3⟩ := vh
  simp only [Ver.enc, List.map_cons, List.map_nil] at d1 d2 d3 d4 e1 e2 ⊢
  cases okl <;> cases q2 : decide (n1 < 0) <;> cases okh <;> cases q4 : decide (n2 ≥ 0) <;> simp only [Bool.and_true, Bool.true_and, Bool.false_and, Bool.and_false, Bool.or_false, Bool.or_true, cond_true, cond_false, Bool.false_or]
  all_goals first
    | (skip
       apply zu
       refine zw rfl Tryz.func89 rfl (by kernel_rfl) ?_
       unfold Tryz.f89
       simp (disch := ((try simp only [LL]); omega)) only [↓GO, ↓DRW, GA, ren, zB, zf, refs, zb, cst, zl, zH, z7, E.load, E.store, zG, isC, bin, zI, zJ, una, z8, za, zh, zK, blt, fnV, asArg, zd, zn, zo, zj, zi, zg, zk, zr, z6, zD, zF, mkS, zc, unN, zM, zm, zy, zC, ze, zN, zq, GS, Int.reduceToNat, Nat.reduceGT, ↓reduceIte, Nat.reduceAdd, Nat.reduceMul, Nat.reduceSub, Nat.reduceEqDiff, Nat.reduceLeDiff, Nat.reduceLT, Nat.reduceBEq, Int.reduceBEq, Int.reduceBNe, Int.reduceEq, Int.reduceLT, Int.reduceLE, Int.reduceGT, Int.reduceNeg, reduceCtorEq, GZ, d1, d2, d3, d4, q2, q4, e1, e2, bne, zR, zY]
       done)
    | (cases q5 : (pre' == []) <;> rw [q5] at e1
       · cases q6 : (pre2 == []) <;> rw [q6] at e2
         · cases q7 : (maj2 == maj)
           · apply zu
             refine zw rfl Tryz.func89 rfl (by kernel_rfl) ?_
             unfold Tryz.f89
             simp (disch := ((try simp only [LL]); omega)) only [↓GO, ↓DRW, GA, ren, zB, zf, refs, zb, cst, zl, zH, z7, E.load, E.store, zG, isC, bin, zI, zJ, una, z8, za, zh, zK, blt, fnV, asArg, zd, zn, zo, zj, zi, zg, zk, zr, z6, zD, zF, mkS, zc, unN, zM, zm, zy, zC, ze, zN, zq, GS, Int.reduceToNat, Nat.reduceGT, ↓reduceIte, Nat.reduceAdd, Nat.reduceMul, Nat.reduceSub, Nat.reduceEqDiff, Nat.reduceLeDiff, Nat.reduceLT, Nat.reduceBEq, Int.reduceBEq, Int.reduceBNe, Int.reduceEq, Int.reduceLT, Int.reduceLE, Int.reduceGT, Int.reduceNeg, reduceCtorEq, GZ, d1, d2, d3, d4, q2, q4, e1, e2, q7, bne, zR, zY, Bool.not_false, Bool.not_true, Bool.and_false, Bool.false_or]
           · cases q8 : (min2 == min)
             · apply zu
               refine zw rfl Tryz.func89 rfl (by kernel_rfl) ?_
               unfold Tryz.f89
               simp (disch := ((try simp only [LL]); omega)) only [↓GO, ↓DRW, GA, ren, zB, zf, refs, zb, cst, zl, zH, z7, E.load, E.store, zG, isC, bin, zI, zJ, una, z8, za, zh, zK, blt, fnV, asArg, zd, zn, zo, zj, zi, zg, zk, zr, z6, zD, zF, mkS, zc, unN, zM, zm, zy, zC, ze, zN, zq, GS, Int.reduceToNat, Nat.reduceGT, ↓reduceIte, Nat.reduceAdd, Nat.reduceMul, Nat.reduceSub, Nat.reduceEqDiff, Nat.reduceLeDiff, Nat.reduceLT, Nat.reduceBEq, Int.reduceBEq, Int.reduceBNe, Int.reduceEq, Int.reduceLT, Int.reduceLE, Int.reduceGT, Int.reduceNeg, reduceCtorEq, GZ, d1, d2, d3, d4, q2, q4, e1, e2, q7, q8, bne, zR, zY, Bool.not_false, Bool.not_true, Bool.and_false, Bool.false_or]
             · cases q9 : (pat2 == pat)
               all_goals
                 apply zu
                 refine zw rfl Tryz.func89 rfl (by kernel_rfl) ?_
                 unfold Tryz.f89
                 simp (disch := ((try simp only [LL]); omega)) only [↓GO, ↓DRW, GA, ren, zB, zf, refs, zb, cst, zl, zH, z7, E.load, E.store, zG, isC, bin, zI, zJ, una, z8, za, zh, zK, blt, fnV, asArg, zd, zn, zo, zj, zi, zg, zk, zr, z6, zD, zF, mkS, zc, unN, zM, zm, zy, zC, ze, zN, zq, GS, Int.reduceToNat, Nat.reduceGT, ↓reduceIte, Nat.reduceAdd, Nat.reduceMul, Nat.reduceSub, Nat.reduceEqDiff, Nat.reduceLeDiff, Nat.reduceLT, Nat.reduceBEq, Int.reduceBEq, Int.reduceBNe, Int.reduceEq, Int.reduceLT, Int.reduceLE, Int.reduceGT, Int.reduceNeg, reduceCtorEq, GZ, d1, d2, d3, d4, q2, q4, e1, e2, q7, q8, q9, bne, zR, zY, Bool.not_false, Bool.not_true, Bool.and_false, Bool.false_or]
         · apply zu
           refine zw rfl Tryz.func89 rfl (by kernel_rfl) ?_
           unfold Tryz.f89
           simp (disch := ((try simp only [LL]); omega)) only [↓GO, ↓DRW, GA, ren, zB, zf, refs, zb, cst, zl, zH, z7, E.load, E.store, zG, isC, bin, zI, zJ, una, z8, za, zh, zK, blt, fnV, asArg, zd, zn, zo, zj, zi, zg, zk, zr, z6, zD, zF, mkS, zc, unN, zM, zm, zy, zC, ze, zN, zq, GS, Int.reduceToNat, Nat.reduceGT, ↓reduceIte, Nat.reduceAdd, Nat.reduceMul, Nat.reduceSub, Nat.reduceEqDiff, Nat.reduceLeDiff, Nat.reduceLT, Nat.reduceBEq, Int.reduceBEq, Int.reduceBNe, Int.reduceEq, Int.reduceLT, Int.reduceLE, Int.reduceGT, Int.reduceNeg, reduceCtorEq, GZ, d1, d2, d3, d4, q2, q4, e1, e2, bne, zR, zY, Bool.not_false, Bool.not_true, Bool.and_false, Bool.false_or]
       · apply zu
         refine zw rfl Tryz.func89 rfl (by kernel_rfl) ?_
         unfold Tryz.f89
         simp (disch := ((try simp only [LL]); omega)) only [↓GO, ↓DRW, GA, ren, zB, zf, refs, zb, cst, zl, zH, z7, E.load, E.store, zG, isC, bin, zI, zJ, una, z8, za, zh, zK, blt, fnV, asArg, zd, zn, zo, zj, zi, zg, zk, zr, z6, zD, zF, mkS, zc, unN, zM, zm, zy, zC, ze, zN, zq, GS, Int.reduceToNat, Nat.reduceGT, ↓reduceIte, Nat.reduceAdd, Nat.reduceMul, Nat.reduceSub, Nat.reduceEqDiff, Nat.reduceLeDiff, Nat.reduceLT, Nat.reduceBEq, Int.reduceBEq, Int.reduceBNe, Int.reduceEq, Int.reduceLT, Int.reduceLE, Int.reduceGT, Int.reduceNeg, reduceCtorEq, GZ, d1, d2, d3, d4, q2, q4, e1, e2, bne, zR, zY, Bool.true_or])
theorem S2 (v : Ver) (hv : v.sm) (ok : Bool) (l : List Bd) (hl : BdB l) : ∀ (rest pre : List Bd), l = pre ++ rest → ∃ x,
    EV Tryz.prog pol (.loop 60 58 0 [.t (.list 2 (bdT l)), .ptr 0 0 0, .t (.bool ok), .t (.int .i64 (pre.length : Int))] [.vs 4 [v.enc.map .t]])
      = some (cond (ok && (xk l && rest.any (vJ v))) (.loop .ret [.t (.bool true)] []) (.loop (.exit 0) [x] []))
  | [], pre, h => by
    have c : decide ((pre.length : Int) < (l.length : Int)) = false := by simp [h]
    refine ⟨.bad, ?_⟩
    simp only [List.any_nil, Bool.and_false, cond_false, Ver.enc, List.map_cons, List.map_nil]
    refine zz Tryz.func60 rfl rfl ?_
    simp (disch := ((try simp only [LL]); omega)) only [↓GO, ↓DRW, GA, ren, zB, zf, refs, zb, cst, zl, zH, z7, E.load, E.store, zG, isC, bin, zI, zJ, una, z8, za, zh, zK, blt, fnV, asArg, zd, zn, zo, zj, zi, zg, zk, zr, z6, zD, zF, mkS, zc, unN, zM, zm, zy, zC, ze, zN, zq, GS, Int.reduceToNat, Nat.reduceGT, ↓reduceIte, Nat.reduceAdd, Nat.reduceMul, Nat.reduceSub, Nat.reduceEqDiff, Nat.reduceLeDiff, Nat.reduceLT, Nat.reduceBEq, Int.reduceBEq, Int.reduceBNe, Int.reduceEq, Int.reduceLT, Int.reduceLE, Int.reduceGT, Int.reduceNeg, reduceCtorEq, GZ, c, xM, zY]
  | b :: rest, pre, h => by
    have c : decide ((pre.length : Int) < (l.length : Int)) = true := by simp [h]; omega
    have hget : (bdT l)[pre.length]? = some [.str b.1, .str b.2] := by rw [h]; exact wy (fun b : Bd => [T.str b.1, T.str b.2]) pre b rest
    have hlen : pre.length + rest.length + 1 ≤ l.length := by rw [h]; simp; omega
    have hll := hl.1
    have d1 := c_tkR v hv b (hl.2 b (by rw [h]; simp))
    have d2 := jR l hl.1 (fun b hb => by have := hl.2 b hb; omega)
    obtain ⟨x, IH⟩ := S2 v hv ok l hl rest (pre ++ [b]) (by rw [h]; simp)
    rw [show ((pre ++ [b]).length : Int) = (pre.length : Int) + 1 by simp] at IH
    refine ⟨x, ?_⟩
    rw [List.any_cons]
    generalize rest.any (vJ v) = R at *
    generalize vJ v b = t at *
    generalize xk l = rk at *
    clear h hl
    obtain ⟨lo, hi⟩ := b
    simp only at d1 hget
    obtain ⟨maj, min, pat, pre'⟩ := v
    simp only [Ver.enc, List.map_cons, List.map_nil] at d1 IH ⊢
    cases ok <;> cases rk <;> cases t <;> simp only [Bool.true_and, Bool.false_and, Bool.true_or, Bool.false_or, cond_true, cond_false] at IH ⊢
    all_goals
      refine zz Tryz.func60 rfl rfl ?_
      simp (disch := ((try simp only [LL]); omega)) only [↓GO, ↓DRW, GA, ren, zB, zf, refs, zb, cst, zl, zH, z7, E.load, E.store, zG, isC, bin, zI, zJ, una, z8, za, zh, zK, blt, fnV, asArg, zd, zn, zo, zj, zi, zg, zk, zr, z6, zD, zF, mkS, zc, unN, zM, zm, zy, zC, ze, zN, zq, GS, Int.reduceToNat, Nat.reduceGT, ↓reduceIte, Nat.reduceAdd, Nat.reduceMul, Nat.reduceSub, Nat.reduceEqDiff, Nat.reduceLeDiff, Nat.reduceLT, Nat.reduceBEq, Int.reduceBEq, Int.reduceBNe, Int.reduceEq, Int.reduceLT, Int.reduceLE, Int.reduceGT, Int.reduceNeg, reduceCtorEq, GZ, c, hget, d1, d2, xM, zx, zY, IH]
theorem c_inR (s : Str) (hs : s.length ≤ 1048576) (l : List Bd) (hl : BdB l) : zE (EV Tryz.prog pol) 60 [.t (.str s), .t (.list 2 (bdT l))] = some (.t (.bool (inB s l))) := by
  have d1 := oo s (by omega)
  obtain ⟨x, L⟩ := S2 (zA s).1 (yW s (by omega)).1 (zA s).2 l hl l [] rfl
  unfold rvT at d1
  unfold inB
  simp only [List.length_nil, Int.natCast_zero] at L
  generalize ((zA s).2 && (xk l && l.any (vJ (zA s).1))) = R at *
  generalize (zA s).2 = ok at *
  generalize (zA s).1 = v at *
  obtain ⟨maj, min, pat, pre⟩ := v
  simp only [Ver.enc, List.map_cons, List.map_nil] at d1 L
  cases R <;> simp only [cond_true, cond_false] at L
  all_goals
    apply zu
    refine zw rfl Tryz.func60 rfl (by kernel_rfl) ?_
    unfold Tryz.f60
    simp (disch := ((try simp only [LL]); omega)) only [↓GO, ↓DRW, GA, ren, zB, zf, refs, zb, cst, zl, zH, z7, E.load, E.store, zG, isC, bin, zI, zJ, una, z8, za, zh, zK, blt, fnV, asArg, zd, zn, zo, zj, zi, zg, zk, zr, z6, zD, zF, mkS, zc, unN, zM, zm, zy, zC, ze, zN, zq, GS, Int.reduceToNat, Nat.reduceGT, ↓reduceIte, Nat.reduceAdd, Nat.reduceMul, Nat.reduceSub, Nat.reduceEqDiff, Nat.reduceLeDiff, Nat.reduceLT, Nat.reduceBEq, Int.reduceBEq, Int.reduceBNe, Int.reduceEq, Int.reduceLT, Int.reduceLE, Int.reduceGT, Int.reduceNeg, reduceCtorEq, GZ, d1, L, zY]
end Go.Proofs.YtmcephnfcciloaaGreatDoor
/- The library's searches, at packs and sums. Conditions: those of each lemma. -/
namespace Go.Proofs.YtmcephnfcciloaaGreatDoor
open E
set_option linter.unusedSimpArgs false
set_option linter.unusedVariables false
set_option maxRecDepth 100000
theorem pN (g : Nat) (caps : List T) (p : zL → Bool) (es : List zL) (hl : es.length ≤ 4611686018427387904) (hp : ∀ x ∈ es, zE (EV Tryz.prog pol) g (.agg (x.enc.map .t) :: caps.map .t) = some (.t (.bool (p x)))) : ∀ (rest pre : List zL), es = pre ++ rest →
    EV Tryz.prog pol (.loop 75 26 0 [.t (.list 6 (zL.zV es)), .t (.fn g caps), .t (.int .i64 (es.length : Int)), .t (.int .i64 (pre.length : Int))] []) = some (match sW p rest pre.length with | some i => .loop .ret [.t (.int .i64 (i : Int))] [] | none => .loop (.exit 0) [.bad] [])
  | [], pre, hs => by
    have c : decide ((pre.length : Int) < (es.length : Int)) = false := by simp [hs]
    refine zz Tryz.func75 rfl rfl ?_
    simp only [↓GO, ↓DRW, GA, ren, zB, zf, refs, zb, cst, zl, zH, z7, E.load, E.store, zG, isC, bin, zI, zJ, una, z8, za, zh, zK, blt, fnV, asArg, zd, zn, zo, zj, zi, zg, zk, zr, z6, zD, zF, mkS, zc, unN, zM, zm, zy, zC, ze, zN, zq, GS, Int.reduceToNat, Nat.reduceGT, ↓reduceIte, Nat.reduceAdd, Nat.reduceMul, Nat.reduceSub, Nat.reduceEqDiff, Nat.reduceLeDiff, Nat.reduceLT, Nat.reduceBEq, Int.reduceBEq, Int.reduceBNe, Int.reduceEq, Int.reduceLT, Int.reduceLE, Int.reduceGT, Int.reduceNeg, reduceCtorEq, c, sW]
  | b :: rest, pre, hs => by
    have c : decide ((pre.length : Int) < (es.length : Int)) = true := by simp [hs]; omega
    have hi : pre.length < es.length := by rw [hs]; simp
    have hget := zL.yS es pre.length hi
    have hgb : es[pre.length] = b := by simp [hs]
    rw [hgb] at hget
    have hb := hp b (by rw [hs]; simp)
    have e1 : (pre.length : Int) + 1 = ((pre ++ [b]).length : Int) := by simp
    have IH := pN g caps p es hl hp rest (pre ++ [b]) (by rw [hs]; simp)
    refine zz Tryz.func75 rfl rfl ?_
    simp only [sW]
    cases hpb : p b with
    | true =>
      rw [hpb] at hb
      simp (disch := omega) only [↓GO, ↓DRW, GA, ren, zB, zf, refs, zb, cst, zl, zH, z7, E.load, E.store, zG, isC, bin, zI, zJ, una, z8, za, zh, zK, blt, fnV, asArg, zd, zn, zo, zj, zi, zg, zk, zr, z6, zD, zF, mkS, zc, unN, zM, zm, zy, zC, ze, zN, zq, GS, Int.reduceToNat, Nat.reduceGT, ↓reduceIte, Nat.reduceAdd, Nat.reduceMul, Nat.reduceSub, Nat.reduceEqDiff, Nat.reduceLeDiff, Nat.reduceLT, Nat.reduceBEq, Int.reduceBEq, Int.reduceBNe, Int.reduceEq, Int.reduceLT, Int.reduceLE, Int.reduceGT, Int.reduceNeg, reduceCtorEq, zL.zT, c, hget, zL.vY, zL.wZ, zx, hb]
    | false =>
      rw [hpb] at hb
      simp (disch := omega) only [↓GO, ↓DRW, GA, ren, zB, zf, refs, zb, cst, zl, zH, z7, E.load, E.store, zG, isC, bin, zI, zJ, una, z8, za, zh, zK, blt, fnV, asArg, zd, zn, zo, zj, zi, zg, zk, zr, z6, zD, zF, mkS, zc, unN, zM, zm, zy, zC, ze, zN, zq, GS, Int.reduceToNat, Nat.reduceGT, ↓reduceIte, Nat.reduceAdd, Nat.reduceMul, Nat.reduceSub, Nat.reduceEqDiff, Nat.reduceLeDiff, Nat.reduceLT, Nat.reduceBEq, Int.reduceBEq, Int.reduceBNe, Int.reduceEq, Int.reduceLT, Int.reduceLE, Int.reduceGT, Int.reduceNeg, reduceCtorEq, zL.zT, c, hget, zL.vY, zL.wZ, zx, hb]
      rw [e1, IH]
      simp
theorem iw (g : Nat) (caps : List T) (p : zL → Bool) (es : List zL) (hl : es.length ≤ 4611686018427387904) (hp : ∀ x ∈ es, zE (EV Tryz.prog pol) g (.agg (x.enc.map .t) :: caps.map .t) = some (.t (.bool (p x)))) :
    zE (EV Tryz.prog pol) 75 [.t (.list 6 (zL.zV es)), .t (.fn g caps)] = some (.t (.int .i64 (ixI (sW p es 0)))) := by
  have IH := pN g caps p es hl hp es [] rfl
  simp only [List.length_nil, Int.natCast_zero] at IH
  apply zu
  refine zw rfl Tryz.func75 rfl (by kernel_rfl) ?_
  unfold Tryz.f75
  cases hf : sW p es 0 with
  | none => rw [hf] at IH; simp only [↓GO, ↓DRW, GA, ren, zB, zf, refs, zb, cst, zl, zH, z7, E.load, E.store, zG, isC, bin, zI, zJ, una, z8, za, zh, zK, blt, fnV, asArg, zd, zn, zo, zj, zi, zg, zk, zr, z6, zD, zF, mkS, zc, unN, zM, zm, zy, zC, ze, zN, zq, GS, Int.reduceToNat, Nat.reduceGT, ↓reduceIte, Nat.reduceAdd, Nat.reduceMul, Nat.reduceSub, Nat.reduceEqDiff, Nat.reduceLeDiff, Nat.reduceLT, Nat.reduceBEq, Int.reduceBEq, Int.reduceBNe, Int.reduceEq, Int.reduceLT, Int.reduceLE, Int.reduceGT, Int.reduceNeg, reduceCtorEq, zL.zT, IH, ixI]
  | some i => rw [hf] at IH; simp only [↓GO, ↓DRW, GA, ren, zB, zf, refs, zb, cst, zl, zH, z7, E.load, E.store, zG, isC, bin, zI, zJ, una, z8, za, zh, zK, blt, fnV, asArg, zd, zn, zo, zj, zi, zg, zk, zr, z6, zD, zF, mkS, zc, unN, zM, zm, zy, zC, ze, zN, zq, GS, Int.reduceToNat, Nat.reduceGT, ↓reduceIte, Nat.reduceAdd, Nat.reduceMul, Nat.reduceSub, Nat.reduceEqDiff, Nat.reduceLeDiff, Nat.reduceLT, Nat.reduceBEq, Int.reduceBEq, Int.reduceBNe, Int.reduceEq, Int.reduceLT, Int.reduceLE, Int.reduceGT, Int.reduceNeg, reduceCtorEq, zL.zT, IH, ixI]
end Go.Proofs.YtmcephnfcciloaaGreatDoor
/- Packs and graphs, by both. Conditions: those of each lemma. -/
namespace Go.Proofs.YtmcephnfcciloaaGreatDoor
open E
set_option linter.unusedSimpArgs false
set_option linter.unusedVariables false
set_option maxRecDepth 100000
theorem jT (p : zL) (hb : p.yh ≤ 4194304) : zE (EV Tryz.prog pol) 35 [.agg (p.enc.map .t)] = some (.t (.str (keyOf p))) := by
  obtain ⟨name, version, source, sums, dev, needs⟩ := p
  simp only [zL.yh] at hb
  simp only [zL.enc, List.map_cons, List.map_nil, keyOf]
  apply zu
  refine zw rfl Tryz.func35 rfl (by kernel_rfl) ?_
  unfold Tryz.f35
  simp (disch := ((try simp only [LL]); omega)) only [↓GO, ↓DRW, GA, ren, zB, zf, refs, zb, cst, zl, zH, z7, E.load, E.store, zG, isC, bin, zI, zJ, una, z8, za, zh, zK, blt, fnV, asArg, zd, zn, zo, zj, zi, zg, zk, zr, z6, zD, zF, mkS, zc, unN, zM, zm, zy, zC, ze, zN, zq, GS, Int.reduceToNat, Nat.reduceGT, ↓reduceIte, Nat.reduceAdd, Nat.reduceMul, Nat.reduceSub, Nat.reduceEqDiff, Nat.reduceLeDiff, Nat.reduceLT, Nat.reduceBEq, Int.reduceBEq, Int.reduceBNe, Int.reduceEq, Int.reduceLT, Int.reduceLE, Int.reduceGT, Int.reduceNeg, reduceCtorEq, GZ, wc]
theorem jS (p : zL) (hb : p.yh ≤ 4194304) : zE (EV Tryz.prog pol) 29 [.agg (p.enc.map .t)] = some (.t (.str (keyOf p))) := by
  obtain ⟨name, version, source, sums, dev, needs⟩ := p
  simp only [zL.yh] at hb
  simp only [zL.enc, List.map_cons, List.map_nil, keyOf]
  apply zu
  refine zw rfl Tryz.func29 rfl (by kernel_rfl) ?_
  unfold Tryz.f29
  simp (disch := ((try simp only [LL]); omega)) only [↓GO, ↓DRW, GA, ren, zB, zf, refs, zb, cst, zl, zH, z7, E.load, E.store, zG, isC, bin, zI, zJ, una, z8, za, zh, zK, blt, fnV, asArg, zd, zn, zo, zj, zi, zg, zk, zr, z6, zD, zF, mkS, zc, unN, zM, zm, zy, zC, ze, zN, zq, GS, Int.reduceToNat, Nat.reduceGT, ↓reduceIte, Nat.reduceAdd, Nat.reduceMul, Nat.reduceSub, Nat.reduceEqDiff, Nat.reduceLeDiff, Nat.reduceLT, Nat.reduceBEq, Int.reduceBEq, Int.reduceBNe, Int.reduceEq, Int.reduceLT, Int.reduceLE, Int.reduceGT, Int.reduceNeg, reduceCtorEq, GZ, wc]
theorem c_slI (a : Str) : zE (EV Tryz.prog pol) 126 [.t (.str a)] = some (.t (.int .i64 (te a))) := by
  unfold te Ue je h1S jd
  cases h1 : (a == [115, 104, 97, 49]) <;> cases h2 : (a == [115, 104, 97, 50, 53, 54]) <;> cases h3 : (a == [104, 49]) <;> cases h4 : (a == [115, 104, 97, 53, 49, 50])
  all_goals
    apply zu
    refine zw rfl Tryz.func126 rfl (by kernel_rfl) ?_
    unfold Tryz.f126
    simp (disch := ((try simp only [LL]); omega)) only [↓GO, ↓DRW, GA, ren, zB, zf, refs, zb, cst, zl, zH, z7, E.load, E.store, zG, isC, bin, zI, zJ, una, z8, za, zh, zK, blt, fnV, asArg, zd, zn, zo, zj, zi, zg, zk, zr, z6, zD, zF, mkS, zc, unN, zM, zm, zy, zC, ze, zN, zq, GS, Int.reduceToNat, Nat.reduceGT, ↓reduceIte, Nat.reduceAdd, Nat.reduceMul, Nat.reduceSub, Nat.reduceEqDiff, Nat.reduceLeDiff, Nat.reduceLT, Nat.reduceBEq, Int.reduceBEq, Int.reduceBNe, Int.reduceEq, Int.reduceLT, Int.reduceLE, Int.reduceGT, Int.reduceNeg, reduceCtorEq, GZ, h1, h2, h3, h4]
theorem c_slR (a : Str) : zE (EV Tryz.prog pol) 81 [.t (.str a)] = some (.t (.int .i64 (te a))) := by
  unfold te Ue je h1S jd
  cases h1 : (a == [115, 104, 97, 49]) <;> cases h2 : (a == [115, 104, 97, 50, 53, 54]) <;> cases h3 : (a == [104, 49]) <;> cases h4 : (a == [115, 104, 97, 53, 49, 50])
  all_goals
    apply zu
    refine zw rfl Tryz.func81 rfl (by kernel_rfl) ?_
    unfold Tryz.f81
    simp (disch := ((try simp only [LL]); omega)) only [↓GO, ↓DRW, GA, ren, zB, zf, refs, zb, cst, zl, zH, z7, E.load, E.store, zG, isC, bin, zI, zJ, una, z8, za, zh, zK, blt, fnV, asArg, zd, zn, zo, zj, zi, zg, zk, zr, z6, zD, zF, mkS, zc, unN, zM, zm, zy, zC, ze, zN, zq, GS, Int.reduceToNat, Nat.reduceGT, ↓reduceIte, Nat.reduceAdd, Nat.reduceMul, Nat.reduceSub, Nat.reduceEqDiff, Nat.reduceLeDiff, Nat.reduceLT, Nat.reduceBEq, Int.reduceBEq, Int.reduceBNe, Int.reduceEq, Int.reduceLT, Int.reduceLE, Int.reduceGT, Int.reduceNeg, reduceCtorEq, GZ, h1, h2, h3, h4]
theorem bL (es : List zZ) (hl : es.length ≤ 4194304) : ∀ (rest pre : List zZ), es = pre ++ rest →
    EV Tryz.prog pol (.loop 94 26 0 [.t (.list 2 (zZ.zV es)), .t (.list 2 (zZ.zV es)), .t (.int .i64 (es.length : Int)), .t (.int .i64 (pre.length : Int))] []) = some (cond (vf (pre.getLast?.map zZ.alg) rest) (.loop (.exit 0) [.bad] []) (.loop .ret [.t (.bool false)] []))
  | [], pre, hs => by
    have c : decide ((pre.length : Int) < (es.length : Int)) = false := by simp [hs]
    refine zz Tryz.func94 rfl rfl ?_
    simp (disch := ((try simp only [LL]); omega)) only [↓GO, ↓DRW, GA, ren, zB, zf, refs, zb, cst, zl, zH, z7, E.load, E.store, zG, isC, bin, zI, zJ, una, z8, za, zh, zK, blt, fnV, asArg, zd, zn, zo, zj, zi, zg, zk, zr, z6, zD, zF, mkS, zc, unN, zM, zm, zy, zC, ze, zN, zq, GS, Int.reduceToNat, Nat.reduceGT, ↓reduceIte, Nat.reduceAdd, Nat.reduceMul, Nat.reduceSub, Nat.reduceEqDiff, Nat.reduceLeDiff, Nat.reduceLT, Nat.reduceBEq, Int.reduceBEq, Int.reduceBNe, Int.reduceEq, Int.reduceLT, Int.reduceLE, Int.reduceGT, Int.reduceNeg, reduceCtorEq, GZ, c, vf]
  | x :: rest, pre, hs => by
    have c : decide ((pre.length : Int) < (es.length : Int)) = true := by simp [hs]; omega
    have hget : (zZ.zV es)[pre.length]? = some [.str x.alg, .str x.bytes] := by rw [hs]; exact wy zZ.enc pre x rest
    have hlen : pre.length + rest.length + 1 ≤ es.length := by rw [hs]; simp; omega
    have IH := bL es hl rest (pre ++ [x]) (by rw [hs]; simp)
    have hk := c_slI x.alg
    rw [show ((pre ++ [x]).length : Int) = (pre.length : Int) + 1 by simp, show (pre ++ [x]).getLast?.map zZ.alg = some x.alg by simp] at IH
    rw [vf]
    generalize te x.alg = n at *
    rcases wh pre with rfl | ⟨pre', q, rfl⟩
    · clear hs
      simp only [List.length_nil, List.getLast?_nil, Option.map_none, vR, Int.natCast_zero, Int.zero_add] at *
      cases h1 : ((x.bytes.length : Int) == n)
      all_goals
        refine zz Tryz.func94 rfl rfl ?_
        simp (disch := ((try simp only [LL]); omega)) only [↓GO, ↓DRW, GA, ren, zB, zf, refs, zb, cst, zl, zH, z7, E.load, E.store, zG, isC, bin, zI, zJ, una, z8, za, zh, zK, blt, fnV, asArg, zd, zn, zo, zj, zi, zg, zk, zr, z6, zD, zF, mkS, zc, unN, zM, zm, zy, zC, ze, zN, zq, GS, Int.reduceToNat, Nat.reduceGT, ↓reduceIte, Nat.reduceAdd, Nat.reduceMul, Nat.reduceSub, Nat.reduceEqDiff, Nat.reduceLeDiff, Nat.reduceLT, Nat.reduceBEq, Int.reduceBEq, Int.reduceBNe, Int.reduceEq, Int.reduceLT, Int.reduceLE, Int.reduceGT, Int.reduceNeg, reduceCtorEq, GZ, zZ.zT, c, hget, zx, hk, h1, bne, IH, Int.zero_add]
    · have hprev : uD (zZ.zV es) (((pre' ++ [q]).length : Int) - 1) = some [.str q.alg, .str q.bytes] := by rw [hs]; exact uu zZ.enc pre' q (x :: rest)
      have hge : 1 ≤ (pre' ++ [q]).length := by simp
      have hgt : decide (((pre' ++ [q]).length : Int) > 0) = true := by simp only [decide_eq_true_eq]; omega
      have hcmp := qq x.alg q.alg
      rw [show (pre' ++ [q]).getLast?.map zZ.alg = some q.alg by simp]
      simp only [vR]
      clear hs
      generalize (pre' ++ [q]).length = m at *
      cases h1 : ((x.bytes.length : Int) == n) <;> cases h2 : Op.bytesLess q.alg x.alg <;> rw [h2] at hcmp
      all_goals
        refine zz Tryz.func94 rfl rfl ?_
        simp (disch := ((try simp only [LL]); omega)) only [↓GO, ↓DRW, GA, ren, zB, zf, refs, zb, cst, zl, zH, z7, E.load, E.store, zG, isC, bin, zI, zJ, una, z8, za, zh, zK, blt, fnV, asArg, zd, zn, zo, zj, zi, zg, zk, zr, z6, zD, zF, mkS, zc, unN, zM, zm, zy, zC, ze, zN, zq, GS, Int.reduceToNat, Nat.reduceGT, ↓reduceIte, Nat.reduceAdd, Nat.reduceMul, Nat.reduceSub, Nat.reduceEqDiff, Nat.reduceLeDiff, Nat.reduceLT, Nat.reduceBEq, Int.reduceBEq, Int.reduceBNe, Int.reduceEq, Int.reduceLT, Int.reduceLE, Int.reduceGT, Int.reduceNeg, reduceCtorEq, GZ, zZ.zT, c, hget, zx, hk, h1, bne, hgt, hprev, hcmp, IH]
theorem Tm (es : List zZ) (hl : es.length ≤ 4194304) : zE (EV Tryz.prog pol) 94 [.t (.list 2 (zZ.zV es))] = some (.t (.bool (vf none es))) := by
  have IH := bL es hl es [] rfl
  simp only [List.length_nil, Int.natCast_zero, List.getLast?_nil, Option.map_none] at IH
  apply zu
  refine zw rfl Tryz.func94 rfl (by kernel_rfl) ?_
  unfold Tryz.f94
  cases h : vf none es <;> rw [h] at IH <;> simp only [cond_true, cond_false] at IH <;> simp (disch := ((try simp only [LL]); omega)) only [↓GO, ↓DRW, GA, ren, zB, zf, refs, zb, cst, zl, zH, z7, E.load, E.store, zG, isC, bin, zI, zJ, una, z8, za, zh, zK, blt, fnV, asArg, zd, zn, zo, zj, zi, zg, zk, zr, z6, zD, zF, mkS, zc, unN, zM, zm, zy, zC, ze, zN, zq, GS, Int.reduceToNat, Nat.reduceGT, ↓reduceIte, Nat.reduceAdd, Nat.reduceMul, Nat.reduceSub, Nat.reduceEqDiff, Nat.reduceLeDiff, Nat.reduceLT, Nat.reduceBEq, Int.reduceBEq, Int.reduceBNe, Int.reduceEq, Int.reduceLT, Int.reduceLE, Int.reduceGT, Int.reduceNeg, reduceCtorEq, GZ, zZ.zT, IH]
theorem bM (p : zL) (hb : p.yh ≤ 4194304) : ∀ (rest pre : List zZ), p.sums = pre ++ rest →
    EV Tryz.prog pol (.loop 56 26 0 [.ptr 0 0 0, .t (.int .i64 (pre.length : Int))] [.vs 6 [p.enc.map .t]]) = some (cond (vf (pre.getLast?.map zZ.alg) rest) (.loop (.exit 0) [.ptr 0 0 0, .bad] [.vs 6 [p.enc.map .t]]) (.loop .ret [.ptr 0 0 0, .t (.bool false)] [.vs 6 [p.enc.map .t]]))
  | [], pre, hs => by
    have c : decide ((pre.length : Int) < (p.sums.length : Int)) = false := by simp [hs]
    simp only [zL.enc, List.map_cons, List.map_nil]
    refine zz Tryz.func56 rfl rfl ?_
    simp (disch := ((try simp only [LL]); omega)) only [↓GO, ↓DRW, GA, ren, zB, zf, refs, zb, cst, zl, zH, z7, E.load, E.store, zG, isC, bin, zI, zJ, una, z8, za, zh, zK, blt, fnV, asArg, zd, zn, zo, zj, zi, zg, zk, zr, z6, zD, zF, mkS, zc, unN, zM, zm, zy, zC, ze, zN, zq, GS, Int.reduceToNat, Nat.reduceGT, ↓reduceIte, Nat.reduceAdd, Nat.reduceMul, Nat.reduceSub, Nat.reduceEqDiff, Nat.reduceLeDiff, Nat.reduceLT, Nat.reduceBEq, Int.reduceBEq, Int.reduceBNe, Int.reduceEq, Int.reduceLT, Int.reduceLE, Int.reduceGT, Int.reduceNeg, reduceCtorEq, GZ, c, zZ.zT, vf, zY]
  | x :: rest, pre, hs => by
    have c : decide ((pre.length : Int) < (p.sums.length : Int)) = true := by simp [hs]; omega
    have hget : (zZ.zV p.sums)[pre.length]? = some [.str x.alg, .str x.bytes] := by rw [hs]; exact wy zZ.enc pre x rest
    have hlen : pre.length + rest.length + 1 ≤ p.sums.length := by rw [hs]; simp; omega
    have hpb : p.sums.length ≤ 4194304 := by unfold zL.yh at hb; omega
    have IH := bM p hb rest (pre ++ [x]) (by rw [hs]; simp)
    have hk := c_slR x.alg
    rw [show ((pre ++ [x]).length : Int) = (pre.length : Int) + 1 by simp, show (pre ++ [x]).getLast?.map zZ.alg = some x.alg by simp] at IH
    rw [vf]
    have hco : ((x.bytes.length : Int) == te x.alg) = (te x.alg == (x.bytes.length : Int)) := Bool.beq_comm
    rw [hco]
    generalize te x.alg = n at *
    simp only [zL.enc, List.map_cons, List.map_nil] at IH ⊢
    rcases wh pre with rfl | ⟨pre', q, rfl⟩
    · clear hs
      simp only [List.length_nil, List.getLast?_nil, Option.map_none, vR, Int.natCast_zero, Int.zero_add] at *
      cases h1 : (n == (x.bytes.length : Int))
      all_goals
        refine zz Tryz.func56 rfl rfl ?_
        simp (disch := ((try simp only [LL]); omega)) only [↓GO, ↓DRW, GA, ren, zB, zf, refs, zb, cst, zl, zH, z7, E.load, E.store, zG, isC, bin, zI, zJ, una, z8, za, zh, zK, blt, fnV, asArg, zd, zn, zo, zj, zi, zg, zk, zr, z6, zD, zF, mkS, zc, unN, zM, zm, zy, zC, ze, zN, zq, GS, Int.reduceToNat, Nat.reduceGT, ↓reduceIte, Nat.reduceAdd, Nat.reduceMul, Nat.reduceSub, Nat.reduceEqDiff, Nat.reduceLeDiff, Nat.reduceLT, Nat.reduceBEq, Int.reduceBEq, Int.reduceBNe, Int.reduceEq, Int.reduceLT, Int.reduceLE, Int.reduceGT, Int.reduceNeg, reduceCtorEq, GZ, zZ.zT, c, hget, zx, hk, h1, bne, IH, Int.zero_add, zY]
    · have hprev : uD (zZ.zV p.sums) (((pre' ++ [q]).length : Int) - 1) = some [.str q.alg, .str q.bytes] := by rw [hs]; exact uu zZ.enc pre' q (x :: rest)
      have hge : 1 ≤ (pre' ++ [q]).length := by simp
      have hgt : decide (((pre' ++ [q]).length : Int) > 0) = true := by simp only [decide_eq_true_eq]; omega
      rw [show (pre' ++ [q]).getLast?.map zZ.alg = some q.alg by simp]
      simp only [vR]
      clear hs
      generalize (pre' ++ [q]).length = m at *
      cases h1 : (n == (x.bytes.length : Int)) <;> cases h2 : Op.bytesLess q.alg x.alg
      all_goals
        refine zz Tryz.func56 rfl rfl ?_
        simp (disch := ((try simp only [LL]); omega)) only [↓GO, ↓DRW, GA, ren, zB, zf, refs, zb, cst, zl, zH, z7, E.load, E.store, zG, isC, bin, zI, zJ, una, z8, za, zh, zK, blt, fnV, asArg, zd, zn, zo, zj, zi, zg, zk, zr, z6, zD, zF, mkS, zc, unN, zM, zm, zy, zC, ze, zN, zq, GS, Int.reduceToNat, Nat.reduceGT, ↓reduceIte, Nat.reduceAdd, Nat.reduceMul, Nat.reduceSub, Nat.reduceEqDiff, Nat.reduceLeDiff, Nat.reduceLT, Nat.reduceBEq, Int.reduceBEq, Int.reduceBNe, Int.reduceEq, Int.reduceLT, Int.reduceLE, Int.reduceGT, Int.reduceNeg, reduceCtorEq, GZ, zZ.zT, c, hget, zx, hk, h1, bne, hgt, hprev, h2, IH, zY]
theorem T8 (s : Str) : ((exT s).length : Int) = cond (x6 s).isSome 1 0 := by
  unfold exT
  cases x6 s <;> rfl
theorem To (p : zL) (hb : p.yh ≤ 1048576) : zE (EV Tryz.prog pol) 56 [.agg (p.enc.map .t)] = some (.t (.bool (rK p))) := by
  have L := bM p (by omega) p.sums [] rfl
  simp only [zL.yh] at hb
  have h1 := aD p.name (by omega)
  have h2 := c_exR p.version (by omega)
  have h3 := ej p.source (by omega)
  have h4 := T8 p.version
  simp only [List.length_nil, Int.natCast_zero, List.getLast?_nil, Option.map_none] at L
  simp only [zL.enc, List.map_cons, List.map_nil] at L ⊢
  unfold rK
  generalize exT p.version = et at *
  generalize vf none p.sums = b1 at *
  generalize vg p.name = b2 at *
  generalize wv p.source = b3 at *
  generalize (x6 p.version).isSome = b4 at *
  cases b1 <;> simp only [cond_true, cond_false] at L <;> cases b2 <;> cases b4 <;> simp only [cond_true, cond_false] at h4 <;> cases b3
  all_goals
    apply zu
    refine zw rfl Tryz.func56 rfl (by kernel_rfl) ?_
    unfold Tryz.f56
    simp (disch := ((try simp only [LL]); omega)) only [↓GO, ↓DRW, GA, ren, zB, zf, refs, zb, cst, zl, zH, z7, E.load, E.store, zG, isC, bin, zI, zJ, una, z8, za, zh, zK, blt, fnV, asArg, zd, zn, zo, zj, zi, zg, zk, zr, z6, zD, zF, mkS, zc, unN, zM, zm, zy, zC, ze, zN, zq, GS, Int.reduceToNat, Nat.reduceGT, ↓reduceIte, Nat.reduceAdd, Nat.reduceMul, Nat.reduceSub, Nat.reduceEqDiff, Nat.reduceLeDiff, Nat.reduceLT, Nat.reduceBEq, Int.reduceBEq, Int.reduceBNe, Int.reduceEq, Int.reduceLT, Int.reduceLE, Int.reduceGT, Int.reduceNeg, reduceCtorEq, GZ, L, h1, h2, h3, h4, zY, zZ.zT]
theorem Xo (s : Str) : ((exT s).length : Int) = cond (x6 s).isSome 1 0 := by
  unfold exT
  cases x6 s <;> rfl
theorem Tp (p : zL) (hb : p.yh ≤ 1048576) : zE (EV Tryz.prog pol) 62 [.agg (p.enc.map .t)] = some (.t (.bool (rK p))) := by
  simp only [zL.yh] at hb
  have L := Tm p.sums (by omega)
  have h1 := aE p.name (by omega)
  have h2 := c_exI p.version (by omega)
  have h3 := ek p.source (by omega)
  have h4 := Xo p.version
  simp only [zL.enc, List.map_cons, List.map_nil]
  unfold rK
  generalize exT p.version = et at *
  generalize vf none p.sums = b1 at *
  generalize vg p.name = b2 at *
  generalize wv p.source = b3 at *
  generalize (x6 p.version).isSome = b4 at *
  cases b1 <;> cases b2 <;> cases b4 <;> simp only [cond_true, cond_false] at h4 <;> cases b3
  all_goals
    apply zu
    refine zw rfl Tryz.func62 rfl (by kernel_rfl) ?_
    unfold Tryz.f62
    simp (disch := ((try simp only [LL]); omega)) only [↓GO, ↓DRW, GA, ren, zB, zf, refs, zb, cst, zl, zH, z7, E.load, E.store, zG, isC, bin, zI, zJ, una, z8, za, zh, zK, blt, fnV, asArg, zd, zn, zo, zj, zi, zg, zk, zr, z6, zD, zF, mkS, zc, unN, zM, zm, zy, zC, ze, zN, zq, GS, Int.reduceToNat, Nat.reduceGT, ↓reduceIte, Nat.reduceAdd, Nat.reduceMul, Nat.reduceSub, Nat.reduceEqDiff, Nat.reduceLeDiff, Nat.reduceLT, Nat.reduceBEq, Int.reduceBEq, Int.reduceBNe, Int.reduceEq, Int.reduceLT, Int.reduceLE, Int.reduceGT, Int.reduceNeg, reduceCtorEq, GZ, L, h1, h2, h3, h4, zY, zZ.zT]
/-- graphs of bounded size -/
def GB (g : zU) : Prop := g.yh ≤ 1048576
theorem GB.len {g : zU} (h : GB g) : g.packs.length ≤ 1048576 ∧ g.top.length + yk g.top ≤ 1048576 ∧ ∀ p ∈ g.packs, p.yh ≤ 1048576 := by
  unfold GB zU.yh at h
  refine ⟨by omega, by omega, fun p hp => ?_⟩
  have := zL.yp hp
  omega
theorem Tx (p : zL) (k : Str) (hb : p.yh ≤ 1048576) : zE (EV Tryz.prog pol) 78 [.agg (p.enc.map .t), .t (.fp [.str k])] = some (.t (.bool (keyOf p == k))) := by
  have h := jT p (by omega)
  simp only [zL.enc, List.map_cons, List.map_nil] at h ⊢
  apply zu
  refine zw rfl Tryz.func78 rfl (by kernel_rfl) ?_
  unfold Tryz.f78
  simp (disch := ((try simp only [LL]); omega)) only [↓GO, ↓DRW, GA, ren, zB, zf, refs, zb, cst, zl, zH, z7, E.load, E.store, zG, isC, bin, zI, zJ, una, z8, za, zh, zK, blt, fnV, asArg, zd, zn, zo, zj, zi, zg, zk, zr, z6, zD, zF, mkS, zc, unN, zM, zm, zy, zC, ze, zN, zq, GS, Int.reduceToNat, Nat.reduceGT, ↓reduceIte, Nat.reduceAdd, Nat.reduceMul, Nat.reduceSub, Nat.reduceEqDiff, Nat.reduceLeDiff, Nat.reduceLT, Nat.reduceBEq, Int.reduceBEq, Int.reduceBNe, Int.reduceEq, Int.reduceLT, Int.reduceLE, Int.reduceGT, Int.reduceNeg, reduceCtorEq, GZ, h]
theorem Tw (g : zU) (k : Str) (hB : GB g) : zE (EV Tryz.prog pol) 52 [.agg (g.enc.map .t), .t (.str k)] = some (.t (.int .i64 (ixI (j8 g.packs k)))) := by
  obtain ⟨b1, b2, b3⟩ := hB.len
  have h := iw 78 [.fp [.str k]] (fun p => keyOf p == k) g.packs (by omega) (fun x hx => Tx x k (b3 x hx))
  simp only [zU.enc, List.map_cons, List.map_nil] at h ⊢
  unfold j8
  apply zu
  refine zw rfl Tryz.func52 rfl (by kernel_rfl) ?_
  unfold Tryz.f52
  simp (disch := ((try simp only [LL]); omega)) only [↓GO, ↓DRW, GA, ren, zB, zf, refs, zb, cst, zl, zH, z7, E.load, E.store, zG, isC, bin, zI, zJ, una, z8, za, zh, zK, blt, fnV, asArg, zd, zn, zo, zj, zi, zg, zk, zr, z6, zD, zF, mkS, zc, unN, zM, zm, zy, zC, ze, zN, zq, GS, Int.reduceToNat, Nat.reduceGT, ↓reduceIte, Nat.reduceAdd, Nat.reduceMul, Nat.reduceSub, Nat.reduceEqDiff, Nat.reduceLeDiff, Nat.reduceLT, Nat.reduceBEq, Int.reduceBEq, Int.reduceBNe, Int.reduceEq, Int.reduceLT, Int.reduceLE, Int.reduceGT, Int.reduceNeg, reduceCtorEq, GZ, h, zY]
theorem bV (g : zU) (k : Str) (hB : GB g) : ∀ (rest pre : List zL), g.packs = pre ++ rest →
    EV Tryz.prog pol (.loop 71 26 0 [.t (.str k), .ptr 0 0 0, .t (.int .i64 (pre.length : Int))] [.vs 2 [g.enc.map .t]]) = some (match sW (fun p => keyOf p == k) rest pre.length with | some i => .loop .ret [.t (.int .i64 (i : Int))] [] | none => .loop (.exit 0) [.bad] [])
  | [], pre, hs => by
    have c : decide ((pre.length : Int) < (g.packs.length : Int)) = false := by simp [hs]
    simp only [zU.enc, List.map_cons, List.map_nil]
    refine zz Tryz.func71 rfl rfl ?_
    simp (disch := ((try simp only [LL]); omega)) only [↓GO, ↓DRW, GA, ren, zB, zf, refs, zb, cst, zl, zH, z7, E.load, E.store, zG, isC, bin, zI, zJ, una, z8, za, zh, zK, blt, fnV, asArg, zd, zn, zo, zj, zi, zg, zk, zr, z6, zD, zF, mkS, zc, unN, zM, zm, zy, zC, ze, zN, zq, GS, Int.reduceToNat, Nat.reduceGT, ↓reduceIte, Nat.reduceAdd, Nat.reduceMul, Nat.reduceSub, Nat.reduceEqDiff, Nat.reduceLeDiff, Nat.reduceLT, Nat.reduceBEq, Int.reduceBEq, Int.reduceBNe, Int.reduceEq, Int.reduceLT, Int.reduceLE, Int.reduceGT, Int.reduceNeg, reduceCtorEq, GZ, c, zL.zT, sW, zY]
  | x :: rest, pre, hs => by
    obtain ⟨b1, b2, b3⟩ := hB.len
    have c : decide ((pre.length : Int) < (g.packs.length : Int)) = true := by simp [hs]; omega
    have hget : (zL.zV g.packs)[pre.length]? = some x.enc := by rw [hs]; exact wy zL.enc pre x rest
    have hlen : pre.length + rest.length + 1 ≤ g.packs.length := by rw [hs]; simp; omega
    have hk := jS x (by have := b3 x (by rw [hs]; simp); omega)
    have IH := bV g k hB rest (pre ++ [x]) (by rw [hs]; simp)
    rw [show ((pre ++ [x]).length : Int) = (pre.length : Int) + 1 by simp, show (pre ++ [x]).length = pre.length + 1 by simp] at IH
    clear hs
    simp only [zU.enc, zL.enc, List.map_cons, List.map_nil] at hget hk IH ⊢
    rw [sW]
    cases h1 : (keyOf x == k)
    all_goals
      refine zz Tryz.func71 rfl rfl ?_
      simp (disch := ((try simp only [LL]); omega)) only [↓GO, ↓DRW, GA, ren, zB, zf, refs, zb, cst, zl, zH, z7, E.load, E.store, zG, isC, bin, zI, zJ, una, z8, za, zh, zK, blt, fnV, asArg, zd, zn, zo, zj, zi, zg, zk, zr, z6, zD, zF, mkS, zc, unN, zM, zm, zy, zC, ze, zN, zq, GS, Int.reduceToNat, Nat.reduceGT, ↓reduceIte, Nat.reduceAdd, Nat.reduceMul, Nat.reduceSub, Nat.reduceEqDiff, Nat.reduceLeDiff, Nat.reduceLT, Nat.reduceBEq, Int.reduceBEq, Int.reduceBNe, Int.reduceEq, Int.reduceLT, Int.reduceLE, Int.reduceGT, Int.reduceNeg, reduceCtorEq, GZ, c, zL.zT, hget, hk, h1, zx, IH, zY]
theorem Tv (g : zU) (k : Str) (hB : GB g) : zE (EV Tryz.prog pol) 71 [.agg (g.enc.map .t), .t (.str k)] = some (.t (.int .i64 (ixI (j8 g.packs k)))) := by
  have L := bV g k hB g.packs [] rfl
  simp only [List.length_nil, Int.natCast_zero] at L
  simp only [zU.enc, List.map_cons, List.map_nil] at L ⊢
  unfold j8
  cases hf : sW (fun p => keyOf p == k) g.packs 0 <;> rw [hf] at L <;> simp only at L
  all_goals
    apply zu
    refine zw rfl Tryz.func71 rfl (by kernel_rfl) ?_
    unfold Tryz.f71
    simp (disch := ((try simp only [LL]); omega)) only [↓GO, ↓DRW, GA, ren, zB, zf, refs, zb, cst, zl, zH, z7, E.load, E.store, zG, isC, bin, zI, zJ, una, z8, za, zh, zK, blt, fnV, asArg, zd, zn, zo, zj, zi, zg, zk, zr, z6, zD, zF, mkS, zc, unN, zM, zm, zy, zC, ze, zN, zq, GS, Int.reduceToNat, Nat.reduceGT, ↓reduceIte, Nat.reduceAdd, Nat.reduceMul, Nat.reduceSub, Nat.reduceEqDiff, Nat.reduceLeDiff, Nat.reduceLT, Nat.reduceBEq, Int.reduceBEq, Int.reduceBNe, Int.reduceEq, Int.reduceLT, Int.reduceLE, Int.reduceGT, Int.reduceNeg, reduceCtorEq, GZ, L, ixI, zY]
theorem bS (g : zU) (hB : GB g) (ks : List Str) (hl : ks.length ≤ 1048576) : ∀ (rest pre : List Str), ks = pre ++ rest →
    EV Tryz.prog pol (.loop 63 26 0 [.t (.list 1 (y6 ks)), .ptr 0 0 0, .t (.list 1 (y6 ks)), .t (.int .i64 (ks.length : Int)), .t (.int .i64 (pre.length : Int))] [.vs 2 [g.enc.map .t]]) = some (cond (xX g.packs pre.getLast? rest) (.loop (.exit 0) [.bad] []) (.loop .ret [.t (.bool false)] []))
  | [], pre, hs => by
    have c : decide ((pre.length : Int) < (ks.length : Int)) = false := by simp [hs]
    simp only [zU.enc, List.map_cons, List.map_nil]
    refine zz Tryz.func63 rfl rfl ?_
    simp (disch := ((try simp only [LL]); omega)) only [↓GO, ↓DRW, GA, ren, zB, zf, refs, zb, cst, zl, zH, z7, E.load, E.store, zG, isC, bin, zI, zJ, una, z8, za, zh, zK, blt, fnV, asArg, zd, zn, zo, zj, zi, zg, zk, zr, z6, zD, zF, mkS, zc, unN, zM, zm, zy, zC, ze, zN, zq, GS, Int.reduceToNat, Nat.reduceGT, ↓reduceIte, Nat.reduceAdd, Nat.reduceMul, Nat.reduceSub, Nat.reduceEqDiff, Nat.reduceLeDiff, Nat.reduceLT, Nat.reduceBEq, Int.reduceBEq, Int.reduceBNe, Int.reduceEq, Int.reduceLT, Int.reduceLE, Int.reduceGT, Int.reduceNeg, reduceCtorEq, GZ, c, xX, zY]
  | x :: rest, pre, hs => by
    have c : decide ((pre.length : Int) < (ks.length : Int)) = true := by simp [hs]; omega
    have hget : (y6 ks)[pre.length]? = some [.str x] := by rw [hs]; exact xS pre x rest
    have hlen : pre.length + rest.length + 1 ≤ ks.length := by rw [hs]; simp; omega
    have IH := bS g hB ks hl rest (pre ++ [x]) (by rw [hs]; simp)
    have hk := Tw g x hB
    have hlt := VW (fun p => keyOf p == x) g.packs
    rw [show ((pre ++ [x]).length : Int) = (pre.length : Int) + 1 by simp, show (pre ++ [x]).getLast? = some x by simp] at IH
    rw [xX]
    unfold Kh
    unfold j8 at hk
    generalize ixI (sW (fun p => keyOf p == x) g.packs 0) = n at *
    generalize (g.packs.any fun p => keyOf p == x) = b1 at *
    simp only [zU.enc, List.map_cons, List.map_nil] at hk IH ⊢
    rcases wh pre with rfl | ⟨pre', q, rfl⟩
    · clear hs
      simp only [List.length_nil, List.getLast?_nil, vR, Int.natCast_zero, Int.zero_add] at *
      cases b1 <;> simp only [Bool.not_true, Bool.not_false] at hlt
      all_goals
        refine zz Tryz.func63 rfl rfl ?_
        simp (disch := ((try simp only [LL]); omega)) only [↓GO, ↓DRW, GA, ren, zB, zf, refs, zb, cst, zl, zH, z7, E.load, E.store, zG, isC, bin, zI, zJ, una, z8, za, zh, zK, blt, fnV, asArg, zd, zn, zo, zj, zi, zg, zk, zr, z6, zD, zF, mkS, zc, unN, zM, zm, zy, zC, ze, zN, zq, GS, Int.reduceToNat, Nat.reduceGT, ↓reduceIte, Nat.reduceAdd, Nat.reduceMul, Nat.reduceSub, Nat.reduceEqDiff, Nat.reduceLeDiff, Nat.reduceLT, Nat.reduceBEq, Int.reduceBEq, Int.reduceBNe, Int.reduceEq, Int.reduceLT, Int.reduceLE, Int.reduceGT, Int.reduceNeg, reduceCtorEq, GZ, zR, c, hget, zx, hk, hlt, IH, Int.zero_add, zY]
    · have hprev : uD (y6 ks) (((pre' ++ [q]).length : Int) - 1) = some [.str q] := by rw [hs]; exact uu (fun s => [T.str s]) pre' q (x :: rest)
      have hge : 1 ≤ (pre' ++ [q]).length := by simp
      have hgt : decide (((pre' ++ [q]).length : Int) > 0) = true := by simp only [decide_eq_true_eq]; omega
      have hcmp := qq x q
      rw [show (pre' ++ [q]).getLast? = some q by simp]
      simp only [vR]
      clear hs
      generalize (pre' ++ [q]).length = m at *
      cases b1 <;> simp only [Bool.not_true, Bool.not_false] at hlt <;> cases h2 : Op.bytesLess q x <;> rw [h2] at hcmp
      all_goals
        refine zz Tryz.func63 rfl rfl ?_
        simp (disch := ((try simp only [LL]); omega)) only [↓GO, ↓DRW, GA, ren, zB, zf, refs, zb, cst, zl, zH, z7, E.load, E.store, zG, isC, bin, zI, zJ, una, z8, za, zh, zK, blt, fnV, asArg, zd, zn, zo, zj, zi, zg, zk, zr, z6, zD, zF, mkS, zc, unN, zM, zm, zy, zC, ze, zN, zq, GS, Int.reduceToNat, Nat.reduceGT, ↓reduceIte, Nat.reduceAdd, Nat.reduceMul, Nat.reduceSub, Nat.reduceEqDiff, Nat.reduceLeDiff, Nat.reduceLT, Nat.reduceBEq, Int.reduceBEq, Int.reduceBNe, Int.reduceEq, Int.reduceLT, Int.reduceLE, Int.reduceGT, Int.reduceNeg, reduceCtorEq, GZ, zR, c, hget, zx, hk, hlt, hgt, hprev, hcmp, IH, zY]
theorem aG (g : zU) (hB : GB g) (ks : List Str) (hl : ks.length ≤ 1048576) : zE (EV Tryz.prog pol) 63 [.agg (g.enc.map .t), .t (.list 1 (y6 ks))] = some (.t (.bool (xX g.packs none ks))) := by
  have L := bS g hB ks hl ks [] rfl
  simp only [List.length_nil, Int.natCast_zero, List.getLast?_nil] at L
  simp only [zU.enc, List.map_cons, List.map_nil] at L ⊢
  cases h : xX g.packs none ks <;> rw [h] at L <;> simp only [cond_true, cond_false] at L
  all_goals
    apply zu
    refine zw rfl Tryz.func63 rfl (by kernel_rfl) ?_
    unfold Tryz.f63
    simp (disch := ((try simp only [LL]); omega)) only [↓GO, ↓DRW, GA, ren, zB, zf, refs, zb, cst, zl, zH, z7, E.load, E.store, zG, isC, bin, zI, zJ, una, z8, za, zh, zK, blt, fnV, asArg, zd, zn, zo, zj, zi, zg, zk, zr, z6, zD, zF, mkS, zc, unN, zM, zm, zy, zC, ze, zN, zq, GS, Int.reduceToNat, Nat.reduceGT, ↓reduceIte, Nat.reduceAdd, Nat.reduceMul, Nat.reduceSub, Nat.reduceEqDiff, Nat.reduceLeDiff, Nat.reduceLT, Nat.reduceBEq, Int.reduceBEq, Int.reduceBNe, Int.reduceEq, Int.reduceLT, Int.reduceLE, Int.reduceGT, Int.reduceNeg, reduceCtorEq, GZ, L, zR, zY]
theorem bR (g : zU) (hB : GB g) (ks : List Str) (hl : ks.length ≤ 1048576) : ∀ (rest pre : List Str), ks = pre ++ rest →
    EV Tryz.prog pol (.loop 57 26 0 [.t (.list 1 (y6 ks)), .ptr 0 0 0, .t (.int .i64 (pre.length : Int))] [.vs 2 [g.enc.map .t]]) = some (cond (xX g.packs pre.getLast? rest) (.loop (.exit 0) [.bad] []) (.loop .ret [.t (.bool false)] []))
  | [], pre, hs => by
    have c : decide ((pre.length : Int) < (ks.length : Int)) = false := by simp [hs]
    simp only [zU.enc, List.map_cons, List.map_nil]
    refine zz Tryz.func57 rfl rfl ?_
    simp (disch := ((try simp only [LL]); omega)) only [↓GO, ↓DRW, GA, ren, zB, zf, refs, zb, cst, zl, zH, z7, E.load, E.store, zG, isC, bin, zI, zJ, una, z8, za, zh, zK, blt, fnV, asArg, zd, zn, zo, zj, zi, zg, zk, zr, z6, zD, zF, mkS, zc, unN, zM, zm, zy, zC, ze, zN, zq, GS, Int.reduceToNat, Nat.reduceGT, ↓reduceIte, Nat.reduceAdd, Nat.reduceMul, Nat.reduceSub, Nat.reduceEqDiff, Nat.reduceLeDiff, Nat.reduceLT, Nat.reduceBEq, Int.reduceBEq, Int.reduceBNe, Int.reduceEq, Int.reduceLT, Int.reduceLE, Int.reduceGT, Int.reduceNeg, reduceCtorEq, GZ, c, zR, xX, zY]
  | x :: rest, pre, hs => by
    have c : decide ((pre.length : Int) < (ks.length : Int)) = true := by simp [hs]; omega
    have hget : (y6 ks)[pre.length]? = some [.str x] := by rw [hs]; exact xS pre x rest
    have hlen : pre.length + rest.length + 1 ≤ ks.length := by rw [hs]; simp; omega
    have IH := bR g hB ks hl rest (pre ++ [x]) (by rw [hs]; simp)
    have hk := Tv g x hB
    have hlt := VW (fun p => keyOf p == x) g.packs
    rw [show ((pre ++ [x]).length : Int) = (pre.length : Int) + 1 by simp, show (pre ++ [x]).getLast? = some x by simp] at IH
    rw [xX]
    unfold Kh
    unfold j8 at hk
    generalize ixI (sW (fun p => keyOf p == x) g.packs 0) = n at *
    generalize (g.packs.any fun p => keyOf p == x) = b1 at *
    simp only [zU.enc, List.map_cons, List.map_nil] at hk IH ⊢
    rcases wh pre with rfl | ⟨pre', q, rfl⟩
    · clear hs
      simp only [List.length_nil, List.getLast?_nil, vR, Int.natCast_zero, Int.zero_add] at *
      cases b1 <;> simp only [Bool.not_true, Bool.not_false] at hlt
      all_goals
        refine zz Tryz.func57 rfl rfl ?_
        simp (disch := ((try simp only [LL]); omega)) only [↓GO, ↓DRW, GA, ren, zB, zf, refs, zb, cst, zl, zH, z7, E.load, E.store, zG, isC, bin, zI, zJ, una, z8, za, zh, zK, blt, fnV, asArg, zd, zn, zo, zj, zi, zg, zk, zr, z6, zD, zF, mkS, zc, unN, zM, zm, zy, zC, ze, zN, zq, GS, Int.reduceToNat, Nat.reduceGT, ↓reduceIte, Nat.reduceAdd, Nat.reduceMul, Nat.reduceSub, Nat.reduceEqDiff, Nat.reduceLeDiff, Nat.reduceLT, Nat.reduceBEq, Int.reduceBEq, Int.reduceBNe, Int.reduceEq, Int.reduceLT, Int.reduceLE, Int.reduceGT, Int.reduceNeg, reduceCtorEq, GZ, zR, c, hget, zx, hk, hlt, IH, Int.zero_add, zY]
    · have hprev : uD (y6 ks) (((pre' ++ [q]).length : Int) - 1) = some [.str q] := by rw [hs]; exact uu (fun s => [T.str s]) pre' q (x :: rest)
      have hge : 1 ≤ (pre' ++ [q]).length := by simp
      have hgt : decide (((pre' ++ [q]).length : Int) > 0) = true := by simp only [decide_eq_true_eq]; omega
      rw [show (pre' ++ [q]).getLast? = some q by simp]
      simp only [vR]
      clear hs
      generalize (pre' ++ [q]).length = m at *
      cases b1 <;> simp only [Bool.not_true, Bool.not_false] at hlt <;> cases h2 : Op.bytesLess q x
      all_goals
        refine zz Tryz.func57 rfl rfl ?_
        simp (disch := ((try simp only [LL]); omega)) only [↓GO, ↓DRW, GA, ren, zB, zf, refs, zb, cst, zl, zH, z7, E.load, E.store, zG, isC, bin, zI, zJ, una, z8, za, zh, zK, blt, fnV, asArg, zd, zn, zo, zj, zi, zg, zk, zr, z6, zD, zF, mkS, zc, unN, zM, zm, zy, zC, ze, zN, zq, GS, Int.reduceToNat, Nat.reduceGT, ↓reduceIte, Nat.reduceAdd, Nat.reduceMul, Nat.reduceSub, Nat.reduceEqDiff, Nat.reduceLeDiff, Nat.reduceLT, Nat.reduceBEq, Int.reduceBEq, Int.reduceBNe, Int.reduceEq, Int.reduceLT, Int.reduceLE, Int.reduceGT, Int.reduceNeg, reduceCtorEq, GZ, zR, c, hget, zx, hk, hlt, hgt, hprev, h2, IH, zY]
theorem aF (g : zU) (hB : GB g) (ks : List Str) (hl : ks.length ≤ 1048576) : zE (EV Tryz.prog pol) 57 [.agg (g.enc.map .t), .t (.list 1 (y6 ks))] = some (.t (.bool (xX g.packs none ks))) := by
  have L := bR g hB ks hl ks [] rfl
  simp only [List.length_nil, Int.natCast_zero, List.getLast?_nil] at L
  simp only [zU.enc, List.map_cons, List.map_nil] at L ⊢
  cases h : xX g.packs none ks <;> rw [h] at L <;> simp only [cond_true, cond_false] at L
  all_goals
    apply zu
    refine zw rfl Tryz.func57 rfl (by kernel_rfl) ?_
    unfold Tryz.f57
    simp (disch := ((try simp only [LL]); omega)) only [↓GO, ↓DRW, GA, ren, zB, zf, refs, zb, cst, zl, zH, z7, E.load, E.store, zG, isC, bin, zI, zJ, una, z8, za, zh, zK, blt, fnV, asArg, zd, zn, zo, zj, zi, zg, zk, zr, z6, zD, zF, mkS, zc, unN, zM, zm, zy, zC, ze, zN, zq, GS, Int.reduceToNat, Nat.reduceGT, ↓reduceIte, Nat.reduceAdd, Nat.reduceMul, Nat.reduceSub, Nat.reduceEqDiff, Nat.reduceLeDiff, Nat.reduceLT, Nat.reduceBEq, Int.reduceBEq, Int.reduceBNe, Int.reduceEq, Int.reduceLT, Int.reduceLE, Int.reduceGT, Int.reduceNeg, reduceCtorEq, GZ, L, zR, zY]
end Go.Proofs.YtmcephnfcciloaaGreatDoor

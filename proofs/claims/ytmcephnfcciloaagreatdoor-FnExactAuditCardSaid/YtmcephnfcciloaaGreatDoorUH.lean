/- Joined: G1 S1 W5 P1 V1 N1 V2 N0 N2. Conditions: those of each lemma. -/
import Derived.Test.YtmcephnfcciloaaGreatDoorUG
import Derived.Test.YtmcephnfcciloaaGreatDoorRows
import Derived.ProofKit
import Derived.ReadAgain
import Derived.Test.YtmcephnfcciloaaGreatDoorUF
import Derived.Lib.SplitLaws
import Derived.Lib.ItoaMem
import Derived.Lib.AtoiAll
import Derived.Lib.Join
set_option linter.unusedVariables false
set_option linter.unusedSimpArgs false
namespace Go.Proofs.YtmcephnfcciloaaGreatDoor
open E
set_option linter.unusedSimpArgs false
set_option linter.unusedVariables false
set_option maxRecDepth 100000
structure zZ where
  alg : List UInt8
  bytes : List UInt8
def zZ.enc (x : zZ) : List T := [.str x.alg, .str x.bytes]
def zZ.zV (l : List zZ) : List (List T) := l.map zZ.enc
def zZ.yh (x : zZ) : Nat := x.alg.length + x.bytes.length
def zZ.ya : List zZ → Nat
  | [] => 0
  | c :: cs => zZ.yh c + zZ.ya cs
def zZ.ok (x : zZ) : Prop := x.alg.length ≤ 9223372036854775807 ∧ x.bytes.length ≤ 9223372036854775807
theorem zZ.vY (x : zZ) : x.enc.length = 2 := rfl
theorem zZ.wZ (x : zZ) : x.enc.take 2 = x.enc := rfl
theorem zZ.zT (cs : List zZ) : (zZ.zV cs).length = cs.length := by simp [zZ.zV]
theorem zZ.yS (cs : List zZ) (i : Nat) (h : i < cs.length) : (zZ.zV cs)[i]? = some cs[i].enc := by simp [zZ.zV, h]
theorem zZ.xi (cs : List zZ) (i : Nat) (h : i < cs.length) : zZ.ya (cs.drop i) = cs[i].yh + zZ.ya (cs.drop (i + 1)) := by
  rw [List.drop_eq_getElem_cons h]; rfl
theorem zZ.yp : ∀ {cs : List zZ} {c : zZ}, c ∈ cs → c.yh ≤ zZ.ya cs
  | c' :: cs, c, h => by
    simp only [zZ.ya]
    rcases List.mem_cons.1 h with rfl | h
    · omega
    · have := zZ.yp h; omega
def Ul (x : zZ) : Prop := ∀ n : Int, 0 ≤ n → n ≤ 1048576 → zE (EV Tryz.prog pol) 104 [.agg (x.enc.map .t), .t (.int .i64 n)] = some (.t (.int .i64 (left n x.yh)))
theorem Tl (x : zZ) (ho : x.ok) : Ul x := by
  obtain ⟨alg, bytes⟩ := x
  intro n h0 h1
  simp only [zZ.ok] at ho
  simp only [zZ.enc, List.map_cons, List.map_nil]
  apply zu
  refine zw rfl Tryz.func104 rfl (by kernel_rfl) ?_
  unfold Tryz.f104
  repeat' (first | (((first | with_reducible refine u9 (fun hA => ?_) (fun hA => ?_) | with_reducible refine u7 (fun hA => ?_) (fun hA => ?_)) <;> (try simp only [bne, Bool.not_eq_true', Bool.not_eq_false'] at hA) <;> (first | (have hP := Int.le_of_eq (eq_of_beq (α := Int) hA); have hQ := Int.le_of_eq (eq_of_beq (α := Int) hA).symm) | have hP := of_decide_eq_true hA | have hP := of_decide_eq_false hA | skip)) <;> (simp (disch := ((try simp only [LL]); omega)) only [↓GO, ↓DRW, GA, ren, zB, zf, refs, zb, cst, zl, zH, z7, E.load, E.store, zG, isC, bin, zI, zJ, una, z8, za, zh, zK, blt, fnV, asArg, zd, zn, zo, zj, zi, zg, zk, zr, z6, zD, zF, mkS, zc, unN, zM, zm, zy, zC, ze, zN, zq, GS, Int.reduceToNat, Nat.reduceGT, ↓reduceIte, Nat.reduceAdd, Nat.reduceMul, Nat.reduceSub, Nat.reduceEqDiff, Nat.reduceLeDiff, Nat.reduceLT, Nat.reduceBEq, Int.reduceBEq, Int.reduceBNe, Int.reduceEq, Int.reduceLT, Int.reduceLE, Int.reduceGT, Int.reduceNeg, reduceCtorEq, zx, bne, vW, wz, *])) | (simp (disch := ((try simp only [LL]); omega)) only [↓GO, ↓DRW, GA, ren, zB, zf, refs, zb, cst, zl, zH, z7, E.load, E.store, zG, isC, bin, zI, zJ, una, z8, za, zh, zK, blt, fnV, asArg, zd, zn, zo, zj, zi, zg, zk, zr, z6, zD, zF, mkS, zc, unN, zM, zm, zy, zC, ze, zN, zq, GS, Int.reduceToNat, Nat.reduceGT, ↓reduceIte, Nat.reduceAdd, Nat.reduceMul, Nat.reduceSub, Nat.reduceEqDiff, Nat.reduceLeDiff, Nat.reduceLT, Nat.reduceBEq, Int.reduceBEq, Int.reduceBNe, Int.reduceEq, Int.reduceLT, Int.reduceLE, Int.reduceGT, Int.reduceNeg, reduceCtorEq, zx, bne, vW, wz, *]))
  all_goals (refine uP ?_; simp only [zZ.yh, and_true]; omega)
theorem fc (cs : List zZ) (hl : cs.length ≤ 9223372036854775807) (hc : ∀ c ∈ cs, Ul c) : ∀ (d i : Nat) (n : Int), cs.length - i = d → i ≤ cs.length → 0 ≤ n → n ≤ 1048576 →
    (0 ≤ n - (zZ.ya (cs.drop i) : Int) → EV Tryz.prog pol (.loop 80 122 0 [.t (.list 2 (zZ.zV cs)), .t (.int .i64 n), .t (.int .i64 (i : Int))] []) = some (.loop (.exit 0) [.t (.int .i64 (n - (zZ.ya (cs.drop i) : Int))), .bad] [])) ∧
    (n - (zZ.ya (cs.drop i) : Int) < 0 → ∃ v, EV Tryz.prog pol (.loop 80 122 0 [.t (.list 2 (zZ.zV cs)), .t (.int .i64 n), .t (.int .i64 (i : Int))] []) = some (.loop .ret [v, .t (.int .i64 (-1))] []))
  | 0, i, n, hd, hi, h0, h1 => by
    have hi' : i = cs.length := by omega
    subst hi'
    have hb : zZ.ya (cs.drop cs.length) = 0 := by simp [zZ.ya]
    rw [hb]
    refine ⟨fun _ => ?_, fun h => by omega⟩
    refine zz Tryz.func80 rfl rfl ?_
    have c : decide (((cs.length : Nat) : Int) < ((cs.length : Nat) : Int)) = false := by simp
    simp only [↓GO, ↓DRW, GA, ren, zB, zf, refs, zb, cst, zl, zH, z7, E.load, E.store, zG, isC, bin, zI, zJ, una, z8, za, zh, zK, blt, fnV, asArg, zd, zn, zo, zj, zi, zg, zk, zr, z6, zD, zF, mkS, zc, unN, zM, zm, zy, zC, ze, zN, zq, GS, Int.reduceToNat, Nat.reduceGT, ↓reduceIte, Nat.reduceAdd, Nat.reduceMul, Nat.reduceSub, Nat.reduceEqDiff, Nat.reduceLeDiff, Nat.reduceLT, Nat.reduceBEq, Int.reduceBEq, Int.reduceBNe, Int.reduceEq, Int.reduceLT, Int.reduceLE, Int.reduceGT, Int.reduceNeg, reduceCtorEq, zZ.zT, c]
    simp
  | d + 1, i, n, hd, hi, h0, h1 => by
    have hlt : i < cs.length := by omega
    rw [zZ.xi cs i hlt]
    have c : decide ((i : Int) < ((cs.length : Nat) : Int)) = true := by simp; omega
    have hcall := hc _ (List.getElem_mem hlt) n h0 h1
    have hget := zZ.yS cs i hlt
    generalize hci : cs[i] = ci at hcall hget
    obtain ⟨alg, bytes⟩ := ci
    simp only [zZ.enc, List.map_cons, List.map_nil] at hcall hget
    generalize hbu : (zZ.mk alg bytes).yh = bu at hcall
    have IH := fc cs hl hc d (i + 1) (n - (bu : Int)) (by omega) (by omega)
    have e1 : (i : Int) + 1 = ((i + 1 : Nat) : Int) := by omega
    by_cases hneg : n - (bu : Int) < 0
    · refine ⟨fun h => by omega, fun _ => ⟨.t (.int .i64 (-1)), ?_⟩⟩
      refine zz Tryz.func80 rfl rfl ?_
      have hle : left n bu = -1 := if_pos hneg
      rw [hle] at hcall
      simp (disch := omega) only [↓GO, ↓DRW, GA, ren, zB, zf, refs, zb, cst, zl, zH, z7, E.load, E.store, zG, isC, bin, zI, zJ, una, z8, za, zh, zK, blt, fnV, asArg, zd, zn, zo, zj, zi, zg, zk, zr, z6, zD, zF, mkS, zc, unN, zM, zm, zy, zC, ze, zN, zq, GS, Int.reduceToNat, Nat.reduceGT, ↓reduceIte, Nat.reduceAdd, Nat.reduceMul, Nat.reduceSub, Nat.reduceEqDiff, Nat.reduceLeDiff, Nat.reduceLT, Nat.reduceBEq, Int.reduceBEq, Int.reduceBNe, Int.reduceEq, Int.reduceLT, Int.reduceLE, Int.reduceGT, Int.reduceNeg, reduceCtorEq, zZ.zT, c, hget, zx, hcall]
    · have hle : left n bu = n - (bu : Int) := if_neg hneg
      rw [hle] at hcall
      have c2 : decide (n - (bu : Int) < 0) = false := by simpa using hneg
      obtain ⟨I1, I2⟩ := IH (by omega) (by omega)
      refine ⟨fun h => ?_, fun h => ?_⟩
      · refine zz Tryz.func80 rfl rfl ?_
        simp (disch := omega) only [↓GO, ↓DRW, GA, ren, zB, zf, refs, zb, cst, zl, zH, z7, E.load, E.store, zG, isC, bin, zI, zJ, una, z8, za, zh, zK, blt, fnV, asArg, zd, zn, zo, zj, zi, zg, zk, zr, z6, zD, zF, mkS, zc, unN, zM, zm, zy, zC, ze, zN, zq, GS, Int.reduceToNat, Nat.reduceGT, ↓reduceIte, Nat.reduceAdd, Nat.reduceMul, Nat.reduceSub, Nat.reduceEqDiff, Nat.reduceLeDiff, Nat.reduceLT, Nat.reduceBEq, Int.reduceBEq, Int.reduceBNe, Int.reduceEq, Int.reduceLT, Int.reduceLE, Int.reduceGT, Int.reduceNeg, reduceCtorEq, zZ.zT, c, hget, zx, hcall, c2, e1]
        rw [I1 (by omega), show n - (bu : Int) - (zZ.ya (cs.drop (i + 1)) : Int) = n - ((bu + zZ.ya (cs.drop (i + 1)) : Nat) : Int) by omega]
      · obtain ⟨v, hv⟩ := I2 (by omega)
        refine ⟨v, ?_⟩
        refine zz Tryz.func80 rfl rfl ?_
        simp (disch := omega) only [↓GO, ↓DRW, GA, ren, zB, zf, refs, zb, cst, zl, zH, z7, E.load, E.store, zG, isC, bin, zI, zJ, una, z8, za, zh, zK, blt, fnV, asArg, zd, zn, zo, zj, zi, zg, zk, zr, z6, zD, zF, mkS, zc, unN, zM, zm, zy, zC, ze, zN, zq, GS, Int.reduceToNat, Nat.reduceGT, ↓reduceIte, Nat.reduceAdd, Nat.reduceMul, Nat.reduceSub, Nat.reduceEqDiff, Nat.reduceLeDiff, Nat.reduceLT, Nat.reduceBEq, Int.reduceBEq, Int.reduceBNe, Int.reduceEq, Int.reduceLT, Int.reduceLE, Int.reduceGT, Int.reduceNeg, reduceCtorEq, zZ.zT, c, hget, zx, hcall, c2, e1]
        exact hv
theorem XA (cs : List zZ) (hl : cs.length ≤ 9223372036854775807) (hc : ∀ c ∈ cs, Ul c) (n : Int) (h0 : 0 ≤ n) (h1 : n ≤ 1048576) :
    zE (EV Tryz.prog pol) 80 [.t (.list 2 (zZ.zV cs)), .t (.int .i64 n)] = some (.t (.int .i64 (left n (cs.length + zZ.ya cs)))) := by
  apply zu
  refine zw rfl Tryz.func80 rfl (by kernel_rfl) ?_
  unfold Tryz.f80
  by_cases hneg : n - (cs.length : Int) < 0
  · have c2 : decide (n - (cs.length : Int) < 0) = true := by simpa using hneg
    simp (disch := omega) only [↓GO, ↓DRW, GA, ren, zB, zf, refs, zb, cst, zl, zH, z7, E.load, E.store, zG, isC, bin, zI, zJ, una, z8, za, zh, zK, blt, fnV, asArg, zd, zn, zo, zj, zi, zg, zk, zr, z6, zD, zF, mkS, zc, unN, zM, zm, zy, zC, ze, zN, zq, GS, Int.reduceToNat, Nat.reduceGT, ↓reduceIte, Nat.reduceAdd, Nat.reduceMul, Nat.reduceSub, Nat.reduceEqDiff, Nat.reduceLeDiff, Nat.reduceLT, Nat.reduceBEq, Int.reduceBEq, Int.reduceBNe, Int.reduceEq, Int.reduceLT, Int.reduceLE, Int.reduceGT, Int.reduceNeg, reduceCtorEq, zZ.zT, zx, c2]
    rw [left, if_pos (by omega)]
  · have c2 : decide (n - (cs.length : Int) < 0) = false := by simpa using hneg
    obtain ⟨I1, I2⟩ := fc cs hl hc cs.length 0 (n - (cs.length : Int)) (by omega) (by omega) (by omega) (by omega)
    simp only [List.drop_zero, Int.natCast_zero] at I1 I2
    by_cases hn2 : n - (cs.length : Int) - (zZ.ya cs : Int) < 0
    · obtain ⟨v, hv⟩ := I2 hn2
      simp (disch := omega) only [↓GO, ↓DRW, GA, ren, zB, zf, refs, zb, cst, zl, zH, z7, E.load, E.store, zG, isC, bin, zI, zJ, una, z8, za, zh, zK, blt, fnV, asArg, zd, zn, zo, zj, zi, zg, zk, zr, z6, zD, zF, mkS, zc, unN, zM, zm, zy, zC, ze, zN, zq, GS, Int.reduceToNat, Nat.reduceGT, ↓reduceIte, Nat.reduceAdd, Nat.reduceMul, Nat.reduceSub, Nat.reduceEqDiff, Nat.reduceLeDiff, Nat.reduceLT, Nat.reduceBEq, Int.reduceBEq, Int.reduceBNe, Int.reduceEq, Int.reduceLT, Int.reduceLE, Int.reduceGT, Int.reduceNeg, reduceCtorEq, zZ.zT, zx, c2, hv]
      rw [left, if_pos (by omega)]
    · simp (disch := omega) only [↓GO, ↓DRW, GA, ren, zB, zf, refs, zb, cst, zl, zH, z7, E.load, E.store, zG, isC, bin, zI, zJ, una, z8, za, zh, zK, blt, fnV, asArg, zd, zn, zo, zj, zi, zg, zk, zr, z6, zD, zF, mkS, zc, unN, zM, zm, zy, zC, ze, zN, zq, GS, Int.reduceToNat, Nat.reduceGT, ↓reduceIte, Nat.reduceAdd, Nat.reduceMul, Nat.reduceSub, Nat.reduceEqDiff, Nat.reduceLeDiff, Nat.reduceLT, Nat.reduceBEq, Int.reduceBEq, Int.reduceBNe, Int.reduceEq, Int.reduceLT, Int.reduceLE, Int.reduceGT, Int.reduceNeg, reduceCtorEq, zZ.zT, zx, c2, I1 (by omega)]
      rw [left, if_neg (by omega), show n - (cs.length : Int) - (zZ.ya cs : Int) = n - ((cs.length + zZ.ya cs : Nat) : Int) by omega]
def eE (x : zZ) : Prop := zE (EV Tryz.prog pol) 118 [.agg (x.enc.map .t)] = some (.agg (x.enc.map .t))
theorem Ti (x : zZ) (ho : x.yh ≤ 1048576) : eE x := by
  obtain ⟨alg, bytes⟩ := x
  simp only [zZ.yh] at ho
  simp only [eE, zZ.enc, List.map_cons, List.map_nil]
  apply zu
  refine zw rfl Tryz.func118 rfl (by kernel_rfl) ?_
  unfold Tryz.f118
  simp only [↓GO, ↓DRW, GA, ren, zB, zf, refs, zb, cst, zl, zH, z7, E.load, E.store, zG, isC, bin, zI, zJ, una, z8, za, zh, zK, blt, fnV, asArg, zd, zn, zo, zj, zi, zg, zk, zr, z6, zD, zF, mkS, zc, unN, zM, zm, zy, zC, ze, zN, zq, GS, Int.reduceToNat, Nat.reduceGT, ↓reduceIte, Nat.reduceAdd, Nat.reduceMul, Nat.reduceSub, Nat.reduceEqDiff, Nat.reduceLeDiff, Nat.reduceLT, Nat.reduceBEq, Int.reduceBEq, Int.reduceBNe, Int.reduceEq, Int.reduceLT, Int.reduceLE, Int.reduceGT, Int.reduceNeg, reduceCtorEq]
def YQ : List T := [.str [], .str []]
theorem gZ (cs : List zZ) (hl : cs.length ≤ 1048576) (hc : ∀ c ∈ cs, eE c) : ∀ (d i : Nat), cs.length - i = d → i ≤ cs.length →
    EV Tryz.prog pol (.loop 90 58 0 [.t (.list 2 (zZ.zV cs)), .sl 0 0 cs.length (some cs.length), .t (.int .i64 (i : Int))] [.ts 2 (wj (zZ.zV cs) YQ i)]) = some (.loop (.exit 0) [.sl 0 0 cs.length (some cs.length)] [.ts 2 (zZ.zV cs)])
  | 0, i, hd, hi => by
    have hi' : i = cs.length := by omega
    subst hi'
    refine zz Tryz.func90 rfl rfl ?_
    have c : decide (((cs.length : Nat) : Int) < ((cs.length : Nat) : Int)) = false := by simp
    have hf : wj (zZ.zV cs) YQ cs.length = zZ.zV cs := by rw [← zZ.zT cs]; exact qT _ _
    simp only [↓GO, ↓DRW, GA, ren, zB, zf, refs, zb, cst, zl, zH, z7, E.load, E.store, zG, isC, bin, zI, zJ, una, z8, za, zh, zK, blt, fnV, asArg, zd, zn, zo, zj, zi, zg, zk, zr, z6, zD, zF, mkS, zc, unN, zM, zm, zy, zC, ze, zN, zq, GS, Int.reduceToNat, Nat.reduceGT, ↓reduceIte, Nat.reduceAdd, Nat.reduceMul, Nat.reduceSub, Nat.reduceEqDiff, Nat.reduceLeDiff, Nat.reduceLT, Nat.reduceBEq, Int.reduceBEq, Int.reduceBNe, Int.reduceEq, Int.reduceLT, Int.reduceLE, Int.reduceGT, Int.reduceNeg, reduceCtorEq, zZ.zT, c, hf]
  | d + 1, i, hd, hi => by
    have hlt : i < cs.length := by omega
    have hlt' : i < (zZ.zV cs).length := by rw [zZ.zT]; exact hlt
    have c : decide ((i : Int) < ((cs.length : Nat) : Int)) = true := by simp; omega
    have c0 : decide ((0 : Int) ≤ (i : Int)) = true := by simp
    have IH := gZ cs hl hc d (i + 1) (by omega) (by omega)
    have e1 : (i : Int) + 1 = ((i + 1 : Nat) : Int) := by omega
    have hg : (wj (zZ.zV cs) YQ i)[i]? = some [.str [], .str []] := qS (zZ.zV cs) YQ i hlt'
    have hs := qR (zZ.zV cs) YQ i hlt'
    have hx : (zZ.zV cs)[i] = cs[i].enc := by simp [zZ.zV]
    rw [hx] at hs
    have hcall := hc _ (List.getElem_mem hlt)
    have hget := zZ.yS cs i hlt
    generalize hci : cs[i] = ci at hcall hget hs
    obtain ⟨alg, bytes⟩ := ci
    simp only [eE, zZ.enc, List.map_cons, List.map_nil] at hcall hget hs
    refine zz Tryz.func90 rfl rfl ?_
    simp (disch := omega) only [↓GO, ↓DRW, GA, ren, zB, zf, refs, zb, cst, zl, zH, z7, E.load, E.store, zG, isC, bin, zI, zJ, una, z8, za, zh, zK, blt, fnV, asArg, zd, zn, zo, zj, zi, zg, zk, zr, z6, zD, zF, mkS, zc, unN, zM, zm, zy, zC, ze, zN, zq, GS, Int.reduceToNat, Nat.reduceGT, ↓reduceIte, Nat.reduceAdd, Nat.reduceMul, Nat.reduceSub, Nat.reduceEqDiff, Nat.reduceLeDiff, Nat.reduceLT, Nat.reduceBEq, Int.reduceBEq, Int.reduceBNe, Int.reduceEq, Int.reduceLT, Int.reduceLE, Int.reduceGT, Int.reduceNeg, reduceCtorEq, zZ.zT, c, c0, hget, zx, e1, hg, Int.toNat_natCast, hcall, hs]
    exact IH
def eF (x : zZ) : Prop := zE (EV Tryz.prog pol) 138 [.agg (x.enc.map .t), .agg (x.enc.map .t)] = some (.t (.bool true))
theorem Ty (x : zZ) (ho : x.yh ≤ 4194304) : eF x := by
  obtain ⟨alg, bytes⟩ := x
  simp only [zZ.yh] at ho
  simp only [eF, zZ.enc, List.map_cons, List.map_nil]
  apply zu
  refine zw rfl Tryz.func138 rfl (by kernel_rfl) ?_
  unfold Tryz.f138
  simp only [↓GO, ↓DRW, GA, ren, zB, zf, refs, zb, cst, zl, zH, z7, E.load, E.store, zG, isC, bin, zI, zJ, una, z8, za, zh, zK, blt, fnV, asArg, zd, zn, zo, zj, zi, zg, zk, zr, z6, zD, zF, mkS, zc, unN, zM, zm, zy, zC, ze, zN, zq, GS, Int.reduceToNat, Nat.reduceGT, ↓reduceIte, Nat.reduceAdd, Nat.reduceMul, Nat.reduceSub, Nat.reduceEqDiff, Nat.reduceLeDiff, Nat.reduceLT, Nat.reduceBEq, Int.reduceBEq, Int.reduceBNe, Int.reduceEq, Int.reduceLT, Int.reduceLE, Int.reduceGT, Int.reduceNeg, reduceCtorEq, bne_self_eq_false]
theorem fh (cs : List zZ) (hl : cs.length ≤ 4194304) (hc : ∀ c ∈ cs, eF c) : ∀ (d i : Nat), cs.length - i = d → i ≤ cs.length →
    EV Tryz.prog pol (.loop 101 58 0 [.t (.list 2 (zZ.zV cs)), .t (.list 2 (zZ.zV cs)), .t (.int .i64 (i : Int))] []) = some (.loop (.exit 0) [.bad] [])
  | 0, i, hd, hi => by
    have hi' : i = cs.length := by omega
    subst hi'
    refine zz Tryz.func101 rfl rfl ?_
    have c : decide (((cs.length : Nat) : Int) < ((cs.length : Nat) : Int)) = false := by simp
    simp only [↓GO, ↓DRW, GA, ren, zB, zf, refs, zb, cst, zl, zH, z7, E.load, E.store, zG, isC, bin, zI, zJ, una, z8, za, zh, zK, blt, fnV, asArg, zd, zn, zo, zj, zi, zg, zk, zr, z6, zD, zF, mkS, zc, unN, zM, zm, zy, zC, ze, zN, zq, GS, Int.reduceToNat, Nat.reduceGT, ↓reduceIte, Nat.reduceAdd, Nat.reduceMul, Nat.reduceSub, Nat.reduceEqDiff, Nat.reduceLeDiff, Nat.reduceLT, Nat.reduceBEq, Int.reduceBEq, Int.reduceBNe, Int.reduceEq, Int.reduceLT, Int.reduceLE, Int.reduceGT, Int.reduceNeg, reduceCtorEq, zZ.zT, c]
  | d + 1, i, hd, hi => by
    have hlt : i < cs.length := by omega
    have c : decide ((i : Int) < ((cs.length : Nat) : Int)) = true := by simp; omega
    have IH := fh cs hl hc d (i + 1) (by omega) (by omega)
    have e1 : (i : Int) + 1 = ((i + 1 : Nat) : Int) := by omega
    have hcall := hc _ (List.getElem_mem hlt)
    have hget := zZ.yS cs i hlt
    generalize hci : cs[i] = ci at hcall hget
    obtain ⟨alg, bytes⟩ := ci
    simp only [eF, zZ.enc, List.map_cons, List.map_nil] at hcall hget
    refine zz Tryz.func101 rfl rfl ?_
    simp (disch := omega) only [↓GO, ↓DRW, GA, ren, zB, zf, refs, zb, cst, zl, zH, z7, E.load, E.store, zG, isC, bin, zI, zJ, una, z8, za, zh, zK, blt, fnV, asArg, zd, zn, zo, zj, zi, zg, zk, zr, z6, zD, zF, mkS, zc, unN, zM, zm, zy, zC, ze, zN, zq, GS, Int.reduceToNat, Nat.reduceGT, ↓reduceIte, Nat.reduceAdd, Nat.reduceMul, Nat.reduceSub, Nat.reduceEqDiff, Nat.reduceLeDiff, Nat.reduceLT, Nat.reduceBEq, Int.reduceBEq, Int.reduceBNe, Int.reduceEq, Int.reduceLT, Int.reduceLE, Int.reduceGT, Int.reduceNeg, reduceCtorEq, zZ.zT, c, hget, zx, e1, hcall]
    exact IH
theorem XK (cs : List zZ) (hl : cs.length ≤ 4194304) (hc : ∀ c ∈ cs, eF c) : zE (EV Tryz.prog pol) 101 [.t (.list 2 (zZ.zV cs)), .t (.list 2 (zZ.zV cs))] = some (.t (.bool true)) := by
  apply zu
  refine zw rfl Tryz.func101 rfl (by kernel_rfl) ?_
  unfold Tryz.f101
  have IH := fh cs hl hc cs.length 0 (by omega) (by omega)
  simp only [Int.natCast_zero] at IH
  simp only [↓GO, ↓DRW, GA, ren, zB, zf, refs, zb, cst, zl, zH, z7, E.load, E.store, zG, isC, bin, zI, zJ, una, z8, za, zh, zK, blt, fnV, asArg, zd, zn, zo, zj, zi, zg, zk, zr, z6, zD, zF, mkS, zc, unN, zM, zm, zy, zC, ze, zN, zq, GS, Int.reduceToNat, Nat.reduceGT, ↓reduceIte, Nat.reduceAdd, Nat.reduceMul, Nat.reduceSub, Nat.reduceEqDiff, Nat.reduceLeDiff, Nat.reduceLT, Nat.reduceBEq, Int.reduceBEq, Int.reduceBNe, Int.reduceEq, Int.reduceLT, Int.reduceLE, Int.reduceGT, Int.reduceNeg, reduceCtorEq, zZ.zT, IH, bne_self_eq_false]
structure zL where
  name : List UInt8
  version : List UInt8
  source : List UInt8
  sums : List zZ
  dev : Bool
  needs : List (List UInt8)
def zL.enc (x : zL) : List T := [.str x.name, .str x.version, .str x.source, .list 2 (zZ.zV x.sums), .bool x.dev, .list 1 (y6 x.needs)]
def zL.zV (l : List zL) : List (List T) := l.map zL.enc
def zL.yh (x : zL) : Nat := x.name.length + x.version.length + x.source.length + (x.sums.length + zZ.ya x.sums) + (x.needs.length + yk x.needs)
def zL.ya : List zL → Nat
  | [] => 0
  | c :: cs => zL.yh c + zL.ya cs
def zL.ok (x : zL) : Prop := x.name.length ≤ 9223372036854775807 ∧ x.version.length ≤ 9223372036854775807 ∧ x.source.length ≤ 9223372036854775807 ∧ x.sums.length ≤ 9223372036854775807 ∧ (∀ y ∈ x.sums, y.ok) ∧ x.needs.length ≤ 9223372036854775807 ∧ (∀ s ∈ x.needs, s.length ≤ 9223372036854775807)
theorem zL.vY (x : zL) : x.enc.length = 6 := rfl
theorem zL.wZ (x : zL) : x.enc.take 6 = x.enc := rfl
theorem zL.zT (cs : List zL) : (zL.zV cs).length = cs.length := by simp [zL.zV]
theorem zL.yS (cs : List zL) (i : Nat) (h : i < cs.length) : (zL.zV cs)[i]? = some cs[i].enc := by simp [zL.zV, h]
theorem zL.xi (cs : List zL) (i : Nat) (h : i < cs.length) : zL.ya (cs.drop i) = cs[i].yh + zL.ya (cs.drop (i + 1)) := by
  rw [List.drop_eq_getElem_cons h]; rfl
theorem zL.yp : ∀ {cs : List zL} {c : zL}, c ∈ cs → c.yh ≤ zL.ya cs
  | c' :: cs, c, h => by
    simp only [zL.ya]
    rcases List.mem_cons.1 h with rfl | h
    · omega
    · have := zL.yp h; omega
def cS (x : zL) : Prop := ∀ n : Int, 0 ≤ n → n ≤ 1048576 → zE (EV Tryz.prog pol) 55 [.agg (x.enc.map .t), .t (.int .i64 n)] = some (.t (.int .i64 (left n x.yh)))
theorem XB (x : zL) (ho : x.ok) : cS x := by
  obtain ⟨name, version, source, sums, dev, needs⟩ := x
  intro n h0 h1
  simp only [zL.ok] at ho
  simp only [zL.enc, List.map_cons, List.map_nil]
  apply zu
  refine zw rfl Tryz.func55 rfl (by kernel_rfl) ?_
  unfold Tryz.f55
  have k_sums := XA sums (by first | exact ho.1 | simp_all) (fun c hc => Tl c (by simp_all))
  have k_needs := o4 needs (by first | exact ho.1 | simp_all) (by first | exact ho.2 | simp_all)
  repeat' (first | (((first | with_reducible refine u9 (fun hA => ?_) (fun hA => ?_) | with_reducible refine u7 (fun hA => ?_) (fun hA => ?_)) <;> (try simp only [bne, Bool.not_eq_true', Bool.not_eq_false'] at hA) <;> (first | (have hP := Int.le_of_eq (eq_of_beq (α := Int) hA); have hQ := Int.le_of_eq (eq_of_beq (α := Int) hA).symm) | have hP := of_decide_eq_true hA | have hP := of_decide_eq_false hA | skip)) <;> (simp (disch := ((try simp only [LL]); omega)) only [↓GO, ↓DRW, GA, ren, zB, zf, refs, zb, cst, zl, zH, z7, E.load, E.store, zG, isC, bin, zI, zJ, una, z8, za, zh, zK, blt, fnV, asArg, zd, zn, zo, zj, zi, zg, zk, zr, z6, zD, zF, mkS, zc, unN, zM, zm, zy, zC, ze, zN, zq, GS, Int.reduceToNat, Nat.reduceGT, ↓reduceIte, Nat.reduceAdd, Nat.reduceMul, Nat.reduceSub, Nat.reduceEqDiff, Nat.reduceLeDiff, Nat.reduceLT, Nat.reduceBEq, Int.reduceBEq, Int.reduceBNe, Int.reduceEq, Int.reduceLT, Int.reduceLE, Int.reduceGT, Int.reduceNeg, reduceCtorEq, zx, bne, vW, wz, k_sums, k_needs, *])) | (simp (disch := ((try simp only [LL]); omega)) only [↓GO, ↓DRW, GA, ren, zB, zf, refs, zb, cst, zl, zH, z7, E.load, E.store, zG, isC, bin, zI, zJ, una, z8, za, zh, zK, blt, fnV, asArg, zd, zn, zo, zj, zi, zg, zk, zr, z6, zD, zF, mkS, zc, unN, zM, zm, zy, zC, ze, zN, zq, GS, Int.reduceToNat, Nat.reduceGT, ↓reduceIte, Nat.reduceAdd, Nat.reduceMul, Nat.reduceSub, Nat.reduceEqDiff, Nat.reduceLeDiff, Nat.reduceLT, Nat.reduceBEq, Int.reduceBEq, Int.reduceBNe, Int.reduceEq, Int.reduceLT, Int.reduceLE, Int.reduceGT, Int.reduceNeg, reduceCtorEq, zx, bne, vW, wz, k_sums, k_needs, *]))
  all_goals (refine uP ?_; simp only [zL.yh, and_true]; omega)
theorem lQ (cs : List zL) (hl : cs.length ≤ 9223372036854775807) (hc : ∀ c ∈ cs, cS c) : ∀ (d i : Nat) (n : Int), cs.length - i = d → i ≤ cs.length → 0 ≤ n → n ≤ 1048576 →
    (0 ≤ n - (zL.ya (cs.drop i) : Int) → EV Tryz.prog pol (.loop 25 122 0 [.t (.list 6 (zL.zV cs)), .t (.int .i64 n), .t (.int .i64 (i : Int))] []) = some (.loop (.exit 0) [.t (.int .i64 (n - (zL.ya (cs.drop i) : Int))), .bad] [])) ∧
    (n - (zL.ya (cs.drop i) : Int) < 0 → ∃ v, EV Tryz.prog pol (.loop 25 122 0 [.t (.list 6 (zL.zV cs)), .t (.int .i64 n), .t (.int .i64 (i : Int))] []) = some (.loop .ret [v, .t (.int .i64 (-1))] []))
  | 0, i, n, hd, hi, h0, h1 => by
    have hi' : i = cs.length := by omega
    subst hi'
    have hb : zL.ya (cs.drop cs.length) = 0 := by simp [zL.ya]
    rw [hb]
    refine ⟨fun _ => ?_, fun h => by omega⟩
    refine zz Tryz.func25 rfl rfl ?_
    have c : decide (((cs.length : Nat) : Int) < ((cs.length : Nat) : Int)) = false := by simp
    simp only [↓GO, ↓DRW, GA, ren, zB, zf, refs, zb, cst, zl, zH, z7, E.load, E.store, zG, isC, bin, zI, zJ, una, z8, za, zh, zK, blt, fnV, asArg, zd, zn, zo, zj, zi, zg, zk, zr, z6, zD, zF, mkS, zc, unN, zM, zm, zy, zC, ze, zN, zq, GS, Int.reduceToNat, Nat.reduceGT, ↓reduceIte, Nat.reduceAdd, Nat.reduceMul, Nat.reduceSub, Nat.reduceEqDiff, Nat.reduceLeDiff, Nat.reduceLT, Nat.reduceBEq, Int.reduceBEq, Int.reduceBNe, Int.reduceEq, Int.reduceLT, Int.reduceLE, Int.reduceGT, Int.reduceNeg, reduceCtorEq, zL.zT, c]
    simp
  | d + 1, i, n, hd, hi, h0, h1 => by
    have hlt : i < cs.length := by omega
    rw [zL.xi cs i hlt]
    have c : decide ((i : Int) < ((cs.length : Nat) : Int)) = true := by simp; omega
    have hcall := hc _ (List.getElem_mem hlt) n h0 h1
    have hget := zL.yS cs i hlt
    generalize hci : cs[i] = ci at hcall hget
    obtain ⟨name, version, source, sums, dev, needs⟩ := ci
    simp only [zL.enc, List.map_cons, List.map_nil] at hcall hget
    generalize hbu : (zL.mk name version source sums dev needs).yh = bu at hcall
    have IH := lQ cs hl hc d (i + 1) (n - (bu : Int)) (by omega) (by omega)
    have e1 : (i : Int) + 1 = ((i + 1 : Nat) : Int) := by omega
    by_cases hneg : n - (bu : Int) < 0
    · refine ⟨fun h => by omega, fun _ => ⟨.t (.int .i64 (-1)), ?_⟩⟩
      refine zz Tryz.func25 rfl rfl ?_
      have hle : left n bu = -1 := if_pos hneg
      rw [hle] at hcall
      simp (disch := omega) only [↓GO, ↓DRW, GA, ren, zB, zf, refs, zb, cst, zl, zH, z7, E.load, E.store, zG, isC, bin, zI, zJ, una, z8, za, zh, zK, blt, fnV, asArg, zd, zn, zo, zj, zi, zg, zk, zr, z6, zD, zF, mkS, zc, unN, zM, zm, zy, zC, ze, zN, zq, GS, Int.reduceToNat, Nat.reduceGT, ↓reduceIte, Nat.reduceAdd, Nat.reduceMul, Nat.reduceSub, Nat.reduceEqDiff, Nat.reduceLeDiff, Nat.reduceLT, Nat.reduceBEq, Int.reduceBEq, Int.reduceBNe, Int.reduceEq, Int.reduceLT, Int.reduceLE, Int.reduceGT, Int.reduceNeg, reduceCtorEq, zL.zT, c, hget, zx, hcall]
    · have hle : left n bu = n - (bu : Int) := if_neg hneg
      rw [hle] at hcall
      have c2 : decide (n - (bu : Int) < 0) = false := by simpa using hneg
      obtain ⟨I1, I2⟩ := IH (by omega) (by omega)
      refine ⟨fun h => ?_, fun h => ?_⟩
      · refine zz Tryz.func25 rfl rfl ?_
        simp (disch := omega) only [↓GO, ↓DRW, GA, ren, zB, zf, refs, zb, cst, zl, zH, z7, E.load, E.store, zG, isC, bin, zI, zJ, una, z8, za, zh, zK, blt, fnV, asArg, zd, zn, zo, zj, zi, zg, zk, zr, z6, zD, zF, mkS, zc, unN, zM, zm, zy, zC, ze, zN, zq, GS, Int.reduceToNat, Nat.reduceGT, ↓reduceIte, Nat.reduceAdd, Nat.reduceMul, Nat.reduceSub, Nat.reduceEqDiff, Nat.reduceLeDiff, Nat.reduceLT, Nat.reduceBEq, Int.reduceBEq, Int.reduceBNe, Int.reduceEq, Int.reduceLT, Int.reduceLE, Int.reduceGT, Int.reduceNeg, reduceCtorEq, zL.zT, c, hget, zx, hcall, c2, e1]
        rw [I1 (by omega), show n - (bu : Int) - (zL.ya (cs.drop (i + 1)) : Int) = n - ((bu + zL.ya (cs.drop (i + 1)) : Nat) : Int) by omega]
      · obtain ⟨v, hv⟩ := I2 (by omega)
        refine ⟨v, ?_⟩
        refine zz Tryz.func25 rfl rfl ?_
        simp (disch := omega) only [↓GO, ↓DRW, GA, ren, zB, zf, refs, zb, cst, zl, zH, z7, E.load, E.store, zG, isC, bin, zI, zJ, una, z8, za, zh, zK, blt, fnV, asArg, zd, zn, zo, zj, zi, zg, zk, zr, z6, zD, zF, mkS, zc, unN, zM, zm, zy, zC, ze, zN, zq, GS, Int.reduceToNat, Nat.reduceGT, ↓reduceIte, Nat.reduceAdd, Nat.reduceMul, Nat.reduceSub, Nat.reduceEqDiff, Nat.reduceLeDiff, Nat.reduceLT, Nat.reduceBEq, Int.reduceBEq, Int.reduceBNe, Int.reduceEq, Int.reduceLT, Int.reduceLE, Int.reduceGT, Int.reduceNeg, reduceCtorEq, zL.zT, c, hget, zx, hcall, c2, e1]
        exact hv
theorem Zz (cs : List zL) (hl : cs.length ≤ 9223372036854775807) (hc : ∀ c ∈ cs, cS c) (n : Int) (h0 : 0 ≤ n) (h1 : n ≤ 1048576) :
    zE (EV Tryz.prog pol) 25 [.t (.list 6 (zL.zV cs)), .t (.int .i64 n)] = some (.t (.int .i64 (left n (cs.length + zL.ya cs)))) := by
  apply zu
  refine zw rfl Tryz.func25 rfl (by kernel_rfl) ?_
  unfold Tryz.f25
  by_cases hneg : n - (cs.length : Int) < 0
  · have c2 : decide (n - (cs.length : Int) < 0) = true := by simpa using hneg
    simp (disch := omega) only [↓GO, ↓DRW, GA, ren, zB, zf, refs, zb, cst, zl, zH, z7, E.load, E.store, zG, isC, bin, zI, zJ, una, z8, za, zh, zK, blt, fnV, asArg, zd, zn, zo, zj, zi, zg, zk, zr, z6, zD, zF, mkS, zc, unN, zM, zm, zy, zC, ze, zN, zq, GS, Int.reduceToNat, Nat.reduceGT, ↓reduceIte, Nat.reduceAdd, Nat.reduceMul, Nat.reduceSub, Nat.reduceEqDiff, Nat.reduceLeDiff, Nat.reduceLT, Nat.reduceBEq, Int.reduceBEq, Int.reduceBNe, Int.reduceEq, Int.reduceLT, Int.reduceLE, Int.reduceGT, Int.reduceNeg, reduceCtorEq, zL.zT, zx, c2]
    rw [left, if_pos (by omega)]
  · have c2 : decide (n - (cs.length : Int) < 0) = false := by simpa using hneg
    obtain ⟨I1, I2⟩ := lQ cs hl hc cs.length 0 (n - (cs.length : Int)) (by omega) (by omega) (by omega) (by omega)
    simp only [List.drop_zero, Int.natCast_zero] at I1 I2
    by_cases hn2 : n - (cs.length : Int) - (zL.ya cs : Int) < 0
    · obtain ⟨v, hv⟩ := I2 hn2
      simp (disch := omega) only [↓GO, ↓DRW, GA, ren, zB, zf, refs, zb, cst, zl, zH, z7, E.load, E.store, zG, isC, bin, zI, zJ, una, z8, za, zh, zK, blt, fnV, asArg, zd, zn, zo, zj, zi, zg, zk, zr, z6, zD, zF, mkS, zc, unN, zM, zm, zy, zC, ze, zN, zq, GS, Int.reduceToNat, Nat.reduceGT, ↓reduceIte, Nat.reduceAdd, Nat.reduceMul, Nat.reduceSub, Nat.reduceEqDiff, Nat.reduceLeDiff, Nat.reduceLT, Nat.reduceBEq, Int.reduceBEq, Int.reduceBNe, Int.reduceEq, Int.reduceLT, Int.reduceLE, Int.reduceGT, Int.reduceNeg, reduceCtorEq, zL.zT, zx, c2, hv]
      rw [left, if_pos (by omega)]
    · simp (disch := omega) only [↓GO, ↓DRW, GA, ren, zB, zf, refs, zb, cst, zl, zH, z7, E.load, E.store, zG, isC, bin, zI, zJ, una, z8, za, zh, zK, blt, fnV, asArg, zd, zn, zo, zj, zi, zg, zk, zr, z6, zD, zF, mkS, zc, unN, zM, zm, zy, zC, ze, zN, zq, GS, Int.reduceToNat, Nat.reduceGT, ↓reduceIte, Nat.reduceAdd, Nat.reduceMul, Nat.reduceSub, Nat.reduceEqDiff, Nat.reduceLeDiff, Nat.reduceLT, Nat.reduceBEq, Int.reduceBEq, Int.reduceBNe, Int.reduceEq, Int.reduceLT, Int.reduceLE, Int.reduceGT, Int.reduceNeg, reduceCtorEq, zL.zT, zx, c2, I1 (by omega)]
      rw [left, if_neg (by omega), show n - (cs.length : Int) - (zL.ya cs : Int) = n - ((cs.length + zL.ya cs : Nat) : Int) by omega]
def mK (x : zL) : Prop := zE (EV Tryz.prog pol) 67 [.agg (x.enc.map .t), .agg (x.enc.map .t)] = some (.t (.bool true))
theorem XL (x : zL) (ho : x.yh ≤ 4194304) : mK x := by
  obtain ⟨name, version, source, sums, dev, needs⟩ := x
  simp only [zL.yh] at ho
  simp only [mK, zL.enc, List.map_cons, List.map_nil]
  apply zu
  refine zw rfl Tryz.func67 rfl (by kernel_rfl) ?_
  unfold Tryz.f67
  simp only [↓GO, ↓DRW, GA, ren, zB, zf, refs, zb, cst, zl, zH, z7, E.load, E.store, zG, isC, bin, zI, zJ, una, z8, za, zh, zK, blt, fnV, asArg, zd, zn, zo, zj, zi, zg, zk, zr, z6, zD, zF, mkS, zc, unN, zM, zm, zy, zC, ze, zN, zq, GS, Int.reduceToNat, Nat.reduceGT, ↓reduceIte, Nat.reduceAdd, Nat.reduceMul, Nat.reduceSub, Nat.reduceEqDiff, Nat.reduceLeDiff, Nat.reduceLT, Nat.reduceBEq, Int.reduceBEq, Int.reduceBNe, Int.reduceEq, Int.reduceLT, Int.reduceLE, Int.reduceGT, Int.reduceNeg, reduceCtorEq, bne_self_eq_false, XK sums (by omega) (fun c hc => Ty c (by have := zZ.yp hc; omega)), tI needs (by omega)]
theorem lR (cs : List zL) (hl : cs.length ≤ 4194304) (hc : ∀ c ∈ cs, mK c) : ∀ (d i : Nat), cs.length - i = d → i ≤ cs.length →
    EV Tryz.prog pol (.loop 36 58 0 [.t (.list 6 (zL.zV cs)), .t (.list 6 (zL.zV cs)), .t (.int .i64 (i : Int))] []) = some (.loop (.exit 0) [.bad] [])
  | 0, i, hd, hi => by
    have hi' : i = cs.length := by omega
    subst hi'
    refine zz Tryz.func36 rfl rfl ?_
    have c : decide (((cs.length : Nat) : Int) < ((cs.length : Nat) : Int)) = false := by simp
    simp only [↓GO, ↓DRW, GA, ren, zB, zf, refs, zb, cst, zl, zH, z7, E.load, E.store, zG, isC, bin, zI, zJ, una, z8, za, zh, zK, blt, fnV, asArg, zd, zn, zo, zj, zi, zg, zk, zr, z6, zD, zF, mkS, zc, unN, zM, zm, zy, zC, ze, zN, zq, GS, Int.reduceToNat, Nat.reduceGT, ↓reduceIte, Nat.reduceAdd, Nat.reduceMul, Nat.reduceSub, Nat.reduceEqDiff, Nat.reduceLeDiff, Nat.reduceLT, Nat.reduceBEq, Int.reduceBEq, Int.reduceBNe, Int.reduceEq, Int.reduceLT, Int.reduceLE, Int.reduceGT, Int.reduceNeg, reduceCtorEq, zL.zT, c]
  | d + 1, i, hd, hi => by
    have hlt : i < cs.length := by omega
    have c : decide ((i : Int) < ((cs.length : Nat) : Int)) = true := by simp; omega
    have IH := lR cs hl hc d (i + 1) (by omega) (by omega)
    have e1 : (i : Int) + 1 = ((i + 1 : Nat) : Int) := by omega
    have hcall := hc _ (List.getElem_mem hlt)
    have hget := zL.yS cs i hlt
    generalize hci : cs[i] = ci at hcall hget
    obtain ⟨name, version, source, sums, dev, needs⟩ := ci
    simp only [mK, zL.enc, List.map_cons, List.map_nil] at hcall hget
    refine zz Tryz.func36 rfl rfl ?_
    simp (disch := omega) only [↓GO, ↓DRW, GA, ren, zB, zf, refs, zb, cst, zl, zH, z7, E.load, E.store, zG, isC, bin, zI, zJ, una, z8, za, zh, zK, blt, fnV, asArg, zd, zn, zo, zj, zi, zg, zk, zr, z6, zD, zF, mkS, zc, unN, zM, zm, zy, zC, ze, zN, zq, GS, Int.reduceToNat, Nat.reduceGT, ↓reduceIte, Nat.reduceAdd, Nat.reduceMul, Nat.reduceSub, Nat.reduceEqDiff, Nat.reduceLeDiff, Nat.reduceLT, Nat.reduceBEq, Int.reduceBEq, Int.reduceBNe, Int.reduceEq, Int.reduceLT, Int.reduceLE, Int.reduceGT, Int.reduceNeg, reduceCtorEq, zL.zT, c, hget, zx, e1, hcall]
    exact IH
theorem ZB (cs : List zL) (hl : cs.length ≤ 4194304) (hc : ∀ c ∈ cs, mK c) : zE (EV Tryz.prog pol) 36 [.t (.list 6 (zL.zV cs)), .t (.list 6 (zL.zV cs))] = some (.t (.bool true)) := by
  apply zu
  refine zw rfl Tryz.func36 rfl (by kernel_rfl) ?_
  unfold Tryz.f36
  have IH := lR cs hl hc cs.length 0 (by omega) (by omega)
  simp only [Int.natCast_zero] at IH
  simp only [↓GO, ↓DRW, GA, ren, zB, zf, refs, zb, cst, zl, zH, z7, E.load, E.store, zG, isC, bin, zI, zJ, una, z8, za, zh, zK, blt, fnV, asArg, zd, zn, zo, zj, zi, zg, zk, zr, z6, zD, zF, mkS, zc, unN, zM, zm, zy, zC, ze, zN, zq, GS, Int.reduceToNat, Nat.reduceGT, ↓reduceIte, Nat.reduceAdd, Nat.reduceMul, Nat.reduceSub, Nat.reduceEqDiff, Nat.reduceLeDiff, Nat.reduceLT, Nat.reduceBEq, Int.reduceBEq, Int.reduceBNe, Int.reduceEq, Int.reduceLT, Int.reduceLE, Int.reduceGT, Int.reduceNeg, reduceCtorEq, zL.zT, IH, bne_self_eq_false]
structure zU where
  top : List (List UInt8)
  packs : List zL
def zU.enc (x : zU) : List T := [.list 1 (y6 x.top), .list 6 (zL.zV x.packs)]
def zU.zV (l : List zU) : List (List T) := l.map zU.enc
def zU.yh (x : zU) : Nat := (x.top.length + yk x.top) + (x.packs.length + zL.ya x.packs)
def zU.ya : List zU → Nat
  | [] => 0
  | c :: cs => zU.yh c + zU.ya cs
def zU.ok (x : zU) : Prop := x.top.length ≤ 9223372036854775807 ∧ (∀ s ∈ x.top, s.length ≤ 9223372036854775807) ∧ x.packs.length ≤ 9223372036854775807 ∧ (∀ y ∈ x.packs, y.ok)
theorem zU.vY (x : zU) : x.enc.length = 2 := rfl
theorem zU.wZ (x : zU) : x.enc.take 2 = x.enc := rfl
theorem zU.zT (cs : List zU) : (zU.zV cs).length = cs.length := by simp [zU.zV]
theorem zU.yS (cs : List zU) (i : Nat) (h : i < cs.length) : (zU.zV cs)[i]? = some cs[i].enc := by simp [zU.zV, h]
theorem zU.xi (cs : List zU) (i : Nat) (h : i < cs.length) : zU.ya (cs.drop i) = cs[i].yh + zU.ya (cs.drop (i + 1)) := by
  rw [List.drop_eq_getElem_cons h]; rfl
theorem zU.yp : ∀ {cs : List zU} {c : zU}, c ∈ cs → c.yh ≤ zU.ya cs
  | c' :: cs, c, h => by
    simp only [zU.ya]
    rcases List.mem_cons.1 h with rfl | h
    · omega
    · have := zU.yp h; omega
def TH (x : zU) : Prop := ∀ n : Int, 0 ≤ n → n ≤ 1048576 → zE (EV Tryz.prog pol) 6 [.agg (x.enc.map .t), .t (.int .i64 n)] = some (.t (.int .i64 (left n x.yh)))
theorem kF (x : zU) (ho : x.ok) : TH x := by
  obtain ⟨top, packs⟩ := x
  intro n h0 h1
  simp only [zU.ok] at ho
  simp only [zU.enc, List.map_cons, List.map_nil]
  apply zu
  refine zw rfl Tryz.func6 rfl (by kernel_rfl) ?_
  unfold Tryz.f6
  have k_top := o4 top (by first | exact ho.1 | simp_all) (by first | exact ho.2 | simp_all)
  have k_packs := Zz packs (by first | exact ho.1 | simp_all) (fun c hc => XB c (by simp_all))
  repeat' (first | (((first | with_reducible refine u9 (fun hA => ?_) (fun hA => ?_) | with_reducible refine u7 (fun hA => ?_) (fun hA => ?_)) <;> (try simp only [bne, Bool.not_eq_true', Bool.not_eq_false'] at hA) <;> (first | (have hP := Int.le_of_eq (eq_of_beq (α := Int) hA); have hQ := Int.le_of_eq (eq_of_beq (α := Int) hA).symm) | have hP := of_decide_eq_true hA | have hP := of_decide_eq_false hA | skip)) <;> (simp (disch := ((try simp only [LL]); omega)) only [↓GO, ↓DRW, GA, ren, zB, zf, refs, zb, cst, zl, zH, z7, E.load, E.store, zG, isC, bin, zI, zJ, una, z8, za, zh, zK, blt, fnV, asArg, zd, zn, zo, zj, zi, zg, zk, zr, z6, zD, zF, mkS, zc, unN, zM, zm, zy, zC, ze, zN, zq, GS, Int.reduceToNat, Nat.reduceGT, ↓reduceIte, Nat.reduceAdd, Nat.reduceMul, Nat.reduceSub, Nat.reduceEqDiff, Nat.reduceLeDiff, Nat.reduceLT, Nat.reduceBEq, Int.reduceBEq, Int.reduceBNe, Int.reduceEq, Int.reduceLT, Int.reduceLE, Int.reduceGT, Int.reduceNeg, reduceCtorEq, zx, bne, vW, wz, k_top, k_packs, *])) | (simp (disch := ((try simp only [LL]); omega)) only [↓GO, ↓DRW, GA, ren, zB, zf, refs, zb, cst, zl, zH, z7, E.load, E.store, zG, isC, bin, zI, zJ, una, z8, za, zh, zK, blt, fnV, asArg, zd, zn, zo, zj, zi, zg, zk, zr, z6, zD, zF, mkS, zc, unN, zM, zm, zy, zC, ze, zN, zq, GS, Int.reduceToNat, Nat.reduceGT, ↓reduceIte, Nat.reduceAdd, Nat.reduceMul, Nat.reduceSub, Nat.reduceEqDiff, Nat.reduceLeDiff, Nat.reduceLT, Nat.reduceBEq, Int.reduceBEq, Int.reduceBNe, Int.reduceEq, Int.reduceLT, Int.reduceLE, Int.reduceGT, Int.reduceNeg, reduceCtorEq, zx, bne, vW, wz, k_top, k_packs, *]))
  all_goals (refine uP ?_; simp only [zU.yh, and_true]; omega)
def jI (x : zU) : Prop := zE (EV Tryz.prog pol) 13 [.agg (x.enc.map .t), .agg (x.enc.map .t)] = some (.t (.bool true))
theorem ZC (x : zU) (ho : x.yh ≤ 4194304) : jI x := by
  obtain ⟨top, packs⟩ := x
  simp only [zU.yh] at ho
  simp only [jI, zU.enc, List.map_cons, List.map_nil]
  apply zu
  refine zw rfl Tryz.func13 rfl (by kernel_rfl) ?_
  unfold Tryz.f13
  simp only [↓GO, ↓DRW, GA, ren, zB, zf, refs, zb, cst, zl, zH, z7, E.load, E.store, zG, isC, bin, zI, zJ, una, z8, za, zh, zK, blt, fnV, asArg, zd, zn, zo, zj, zi, zg, zk, zr, z6, zD, zF, mkS, zc, unN, zM, zm, zy, zC, ze, zN, zq, GS, Int.reduceToNat, Nat.reduceGT, ↓reduceIte, Nat.reduceAdd, Nat.reduceMul, Nat.reduceSub, Nat.reduceEqDiff, Nat.reduceLeDiff, Nat.reduceLT, Nat.reduceBEq, Int.reduceBEq, Int.reduceBNe, Int.reduceEq, Int.reduceLT, Int.reduceLE, Int.reduceGT, Int.reduceNeg, reduceCtorEq, bne_self_eq_false, tI top (by omega), ZB packs (by omega) (fun c hc => XL c (by have := zL.yp hc; omega))]
end Go.Proofs.YtmcephnfcciloaaGreatDoor
/- The seat's own facts: the conditions on the program. Conditions: none. -/
namespace Go.Proofs.YtmcephnfcciloaaGreatDoor
open E
theorem Tryz.own : ownKnob Tryz.prog.godebug = none := by kernel_rfl
theorem Tryz.kids : Kids Tryz.prog (· < Tryz.prog.types.size) := kids_rows (by kernel_rfl) (by kernel_rfl)
theorem Tryz.full : ∀ t e, t < Tryz.prog.types.size → Tryz.prog.underlying t = some (.slice e) → 0 < Tryz.prog.cellsOf e := slices_full_of Tryz.prog (by kernel_rfl)
end Go.Proofs.YtmcephnfcciloaaGreatDoor
/- What the laws' arguments are: Sum, Pack, Graph. Conditions: those of each lemma. -/
namespace Go.Proofs.YtmcephnfcciloaaGreatDoor
open E
set_option linter.unusedSimpArgs false
set_option linter.unusedVariables false
set_option maxRecDepth 100000
theorem aN {cs : List T} (h : WT Tryz.prog 22 cs) : ∃ ks, cs = [.list 1 (y6 ks)] ∧ ks.length ≤ 9223372036854775807 ∧ ∀ x ∈ ks, x.length ≤ 9223372036854775807 := by
  obtain ⟨es, e1, e2, e3⟩ := h.qi Tryz.underlying22
  have k0 : Tryz.prog.cellsOf 9 = 1 := by kernel_rfl
  have key : ∀ es : List (List T), (∀ c ∈ es, WT Tryz.prog 9 c) → ∃ ks, es = y6 ks ∧ ∀ x ∈ ks, x.length ≤ 9223372036854775807 := fun es => by
    induction es with
    | nil => exact fun _ => ⟨[], rfl, by simp⟩
    | cons c es ih =>
      intro h
      obtain ⟨ks, a1, a2⟩ := ih fun c' hc => h c' (by simp [hc])
      obtain ⟨l, a3, a4⟩ := (h c (by simp)).vq Tryz.underlying9
      exact ⟨l :: ks, by simp [y6, a1, a3], by simpa using ⟨a4, a2⟩⟩
  obtain ⟨ks, a1, a2⟩ := key es e3
  subst a1
  exact ⟨ks, by rw [e1, k0], by rw [zR] at e2; exact e2, a2⟩
theorem SY {cs : List T} (h : WT Tryz.prog 122 cs) : ∃ x : zZ, cs = x.enc ∧ x.ok := by
  obtain ⟨hl, hs⟩ := h.uR Tryz.underlying122
  have k0 : Tryz.prog.cellsOf 122 = 2 := by kernel_rfl
  have k1 : Tryz.prog.cellsOf 9 = 1 := by kernel_rfl
  rw [k0] at hl
  match cs, hl with
  | [y0, y1], _ =>
    simp [k1] at hs
    obtain ⟨s0, s1⟩ := hs
    obtain ⟨v0, e0, o0⟩ := s0.vq Tryz.underlying9
    obtain ⟨v1, e1, o1⟩ := s1.vq Tryz.underlying9
    simp at e0 e1
    subst e0 e1
    exact ⟨⟨v0, v1⟩, rfl, ⟨o0, o1⟩⟩
theorem TF {cs : List T} (h : WT Tryz.prog 78 cs) : ∃ l : List zZ, cs = [.list 2 (zZ.zV l)] ∧ l.length ≤ 9223372036854775807 ∧ ∀ y ∈ l, y.ok := by
  obtain ⟨es, e1, e2, e3⟩ := h.qi Tryz.underlying78
  have k0 : Tryz.prog.cellsOf 122 = 2 := by kernel_rfl
  have key : ∀ es : List (List T), (∀ c ∈ es, WT Tryz.prog 122 c) → ∃ l : List zZ, es = zZ.zV l ∧ ∀ y ∈ l, y.ok := fun es => by
    induction es with
    | nil => exact fun _ => ⟨[], rfl, by simp⟩
    | cons c es ih =>
      intro h
      obtain ⟨l, a1, a2⟩ := ih fun c' hc => h c' (by simp [hc])
      obtain ⟨x, a3, a4⟩ := SY (h c (by simp))
      exact ⟨x :: l, by simp [zZ.zV, a1, a3], by simpa using ⟨a4, a2⟩⟩
  obtain ⟨l, a1, a2⟩ := key es e3
  subst a1
  exact ⟨l, by rw [e1, k0], by rw [zZ.zT] at e2; exact e2, a2⟩
theorem TG {cs : List T} (h : WT Tryz.prog 80 cs) : ∃ x : zL, cs = x.enc ∧ x.ok := by
  obtain ⟨hl, hs⟩ := h.uR Tryz.underlying80
  have k0 : Tryz.prog.cellsOf 80 = 6 := by kernel_rfl
  have k1 : Tryz.prog.cellsOf 78 = 1 := by kernel_rfl
  have k2 : Tryz.prog.cellsOf 22 = 1 := by kernel_rfl
  have k3 : Tryz.prog.cellsOf 4 = 1 := by kernel_rfl
  have k4 : Tryz.prog.cellsOf 9 = 1 := by kernel_rfl
  rw [k0] at hl
  match cs, hl with
  | [y0, y1, y2, y3, y4, y5], _ =>
    simp [k1, k2, k3, k4] at hs
    obtain ⟨s0, s1, s2, s3, s4, s5⟩ := hs
    obtain ⟨v0, e0, o0⟩ := s0.vq Tryz.underlying9
    obtain ⟨v1, e1, o1⟩ := s1.vq Tryz.underlying9
    obtain ⟨v2, e2, o2⟩ := s2.vq Tryz.underlying9
    obtain ⟨v3, e3, o3, o3'⟩ := TF s3
    obtain ⟨v4, e4⟩ := s4.Xg Tryz.underlying4
    obtain ⟨v5, e5, o5, o5'⟩ := aN s5
    simp at e0 e1 e2 e3 e4 e5
    subst e0 e1 e2 e3 e4 e5
    exact ⟨⟨v0, v1, v2, v3, v4, v5⟩, rfl, ⟨o0, o1, o2, o3, o3', o5, o5'⟩⟩
theorem W4 {cs : List T} (h : WT Tryz.prog 23 cs) : ∃ l : List zL, cs = [.list 6 (zL.zV l)] ∧ l.length ≤ 9223372036854775807 ∧ ∀ y ∈ l, y.ok := by
  obtain ⟨es, e1, e2, e3⟩ := h.qi Tryz.underlying23
  have k0 : Tryz.prog.cellsOf 80 = 6 := by kernel_rfl
  have key : ∀ es : List (List T), (∀ c ∈ es, WT Tryz.prog 80 c) → ∃ l : List zL, es = zL.zV l ∧ ∀ y ∈ l, y.ok := fun es => by
    induction es with
    | nil => exact fun _ => ⟨[], rfl, by simp⟩
    | cons c es ih =>
      intro h
      obtain ⟨l, a1, a2⟩ := ih fun c' hc => h c' (by simp [hc])
      obtain ⟨x, a3, a4⟩ := TG (h c (by simp))
      exact ⟨x :: l, by simp [zL.zV, a1, a3], by simpa using ⟨a4, a2⟩⟩
  obtain ⟨l, a1, a2⟩ := key es e3
  subst a1
  exact ⟨l, by rw [e1, k0], by rw [zL.zT] at e2; exact e2, a2⟩
theorem W5 {cs : List T} (h : WT Tryz.prog 25 cs) : ∃ x : zU, cs = x.enc ∧ x.ok := by
  obtain ⟨hl, hs⟩ := h.uR Tryz.underlying25
  have k0 : Tryz.prog.cellsOf 25 = 2 := by kernel_rfl
  have k1 : Tryz.prog.cellsOf 23 = 1 := by kernel_rfl
  have k2 : Tryz.prog.cellsOf 22 = 1 := by kernel_rfl
  rw [k0] at hl
  match cs, hl with
  | [y0, y1], _ =>
    simp [k1, k2] at hs
    obtain ⟨s0, s1⟩ := hs
    obtain ⟨v0, e0, o0, o0'⟩ := aN s0
    obtain ⟨v1, e1, o1, o1'⟩ := W4 s1
    simp at e0 e1
    subst e0 e1
    exact ⟨⟨v0, v1⟩, rfl, ⟨o0, o0', o1, o1'⟩⟩
end Go.Proofs.YtmcephnfcciloaaGreatDoor
/- Small tests on bytes and numbers; keys. Conditions: those of each lemma. -/
namespace Go.Proofs.YtmcephnfcciloaaGreatDoor
open E
set_option linter.unusedSimpArgs false
set_option linter.unusedVariables false
set_option maxRecDepth 100000
theorem uA (a lo hi : Int) : zE (EV Tryz.prog pol) 134 [.t (.int .i64 a), .t (.int .i64 lo), .t (.int .i64 hi)] = some (.t (.bool (B2 a lo hi))) := by
  apply zu
  refine zw rfl Tryz.func134 rfl (by kernel_rfl) ?_
  unfold Tryz.f134
  unfold B2
  repeat' (first | (((first | with_reducible refine u9 (fun hA => ?_) (fun hA => ?_) | with_reducible refine u7 (fun hA => ?_) (fun hA => ?_)) <;> (try simp only [bne, Bool.not_eq_true', Bool.not_eq_false'] at hA) <;> (first | (have hP := Int.le_of_eq (eq_of_beq (α := Int) hA); have hQ := Int.le_of_eq (eq_of_beq (α := Int) hA).symm) | have hP := of_decide_eq_true hA | have hP := of_decide_eq_false hA | skip)) <;> (simp (disch := ((try simp only [LL]); omega)) only [↓GO, ↓DRW, GA, ren, zB, zf, refs, zb, cst, zl, zH, z7, E.load, E.store, zG, isC, bin, zI, zJ, una, z8, za, zh, zK, blt, fnV, asArg, zd, zn, zo, zj, zi, zg, zk, zr, z6, zD, zF, mkS, zc, unN, zM, zm, zy, zC, ze, zN, zq, GS, Int.reduceToNat, Nat.reduceGT, ↓reduceIte, Nat.reduceAdd, Nat.reduceMul, Nat.reduceSub, Nat.reduceEqDiff, Nat.reduceLeDiff, Nat.reduceLT, Nat.reduceBEq, Int.reduceBEq, Int.reduceBNe, Int.reduceEq, Int.reduceLT, Int.reduceLE, Int.reduceGT, Int.reduceNeg, reduceCtorEq, zx, bne, *])) | (simp (disch := ((try simp only [LL]); omega)) only [↓GO, ↓DRW, GA, ren, zB, zf, refs, zb, cst, zl, zH, z7, E.load, E.store, zG, isC, bin, zI, zJ, una, z8, za, zh, zK, blt, fnV, asArg, zd, zn, zo, zj, zi, zg, zk, zr, z6, zD, zF, mkS, zc, unN, zM, zm, zy, zC, ze, zN, zq, GS, Int.reduceToNat, Nat.reduceGT, ↓reduceIte, Nat.reduceAdd, Nat.reduceMul, Nat.reduceSub, Nat.reduceEqDiff, Nat.reduceLeDiff, Nat.reduceLT, Nat.reduceBEq, Int.reduceBEq, Int.reduceBNe, Int.reduceEq, Int.reduceLT, Int.reduceLE, Int.reduceGT, Int.reduceNeg, reduceCtorEq, zx, bne, *]))
theorem xL (a lo hi : Int) : zE (EV Tryz.prog pol) 108 [.t (.int .i64 a), .t (.int .i64 lo), .t (.int .i64 hi)] = some (.t (.bool (B2 a lo hi))) := by
  apply zu
  refine zw rfl Tryz.func108 rfl (by kernel_rfl) ?_
  unfold Tryz.f108
  unfold B2
  repeat' (first | (((first | with_reducible refine u9 (fun hA => ?_) (fun hA => ?_) | with_reducible refine u7 (fun hA => ?_) (fun hA => ?_)) <;> (try simp only [bne, Bool.not_eq_true', Bool.not_eq_false'] at hA) <;> (first | (have hP := Int.le_of_eq (eq_of_beq (α := Int) hA); have hQ := Int.le_of_eq (eq_of_beq (α := Int) hA).symm) | have hP := of_decide_eq_true hA | have hP := of_decide_eq_false hA | skip)) <;> (simp (disch := ((try simp only [LL]); omega)) only [↓GO, ↓DRW, GA, ren, zB, zf, refs, zb, cst, zl, zH, z7, E.load, E.store, zG, isC, bin, zI, zJ, una, z8, za, zh, zK, blt, fnV, asArg, zd, zn, zo, zj, zi, zg, zk, zr, z6, zD, zF, mkS, zc, unN, zM, zm, zy, zC, ze, zN, zq, GS, Int.reduceToNat, Nat.reduceGT, ↓reduceIte, Nat.reduceAdd, Nat.reduceMul, Nat.reduceSub, Nat.reduceEqDiff, Nat.reduceLeDiff, Nat.reduceLT, Nat.reduceBEq, Int.reduceBEq, Int.reduceBNe, Int.reduceEq, Int.reduceLT, Int.reduceLE, Int.reduceGT, Int.reduceNeg, reduceCtorEq, zx, bne, ge_iff_le, *])) | (simp (disch := ((try simp only [LL]); omega)) only [↓GO, ↓DRW, GA, ren, zB, zf, refs, zb, cst, zl, zH, z7, E.load, E.store, zG, isC, bin, zI, zJ, una, z8, za, zh, zK, blt, fnV, asArg, zd, zn, zo, zj, zi, zg, zk, zr, z6, zD, zF, mkS, zc, unN, zM, zm, zy, zC, ze, zN, zq, GS, Int.reduceToNat, Nat.reduceGT, ↓reduceIte, Nat.reduceAdd, Nat.reduceMul, Nat.reduceSub, Nat.reduceEqDiff, Nat.reduceLeDiff, Nat.reduceLT, Nat.reduceBEq, Int.reduceBEq, Int.reduceBNe, Int.reduceEq, Int.reduceLT, Int.reduceLE, Int.reduceGT, Int.reduceNeg, reduceCtorEq, zx, bne, ge_iff_le, *]))
theorem kG (a : Int) : zE (EV Tryz.prog pol) 122 [.t (.int .u8 a)] = some (.t (.bool (B2 a 97 122))) := by
  apply zu
  refine zw rfl Tryz.func122 rfl (by kernel_rfl) ?_
  unfold Tryz.f122
  unfold B2
  repeat' (first | (((first | with_reducible refine u9 (fun hA => ?_) (fun hA => ?_) | with_reducible refine u7 (fun hA => ?_) (fun hA => ?_)) <;> (try simp only [bne, Bool.not_eq_true', Bool.not_eq_false'] at hA) <;> (first | (have hP := Int.le_of_eq (eq_of_beq (α := Int) hA); have hQ := Int.le_of_eq (eq_of_beq (α := Int) hA).symm) | have hP := of_decide_eq_true hA | have hP := of_decide_eq_false hA | skip)) <;> (simp (disch := ((try simp only [LL]); omega)) only [↓GO, ↓DRW, GA, ren, zB, zf, refs, zb, cst, zl, zH, z7, E.load, E.store, zG, isC, bin, zI, zJ, una, z8, za, zh, zK, blt, fnV, asArg, zd, zn, zo, zj, zi, zg, zk, zr, z6, zD, zF, mkS, zc, unN, zM, zm, zy, zC, ze, zN, zq, GS, Int.reduceToNat, Nat.reduceGT, ↓reduceIte, Nat.reduceAdd, Nat.reduceMul, Nat.reduceSub, Nat.reduceEqDiff, Nat.reduceLeDiff, Nat.reduceLT, Nat.reduceBEq, Int.reduceBEq, Int.reduceBNe, Int.reduceEq, Int.reduceLT, Int.reduceLE, Int.reduceGT, Int.reduceNeg, reduceCtorEq, zx, bne, ge_iff_le, *])) | (simp (disch := ((try simp only [LL]); omega)) only [↓GO, ↓DRW, GA, ren, zB, zf, refs, zb, cst, zl, zH, z7, E.load, E.store, zG, isC, bin, zI, zJ, una, z8, za, zh, zK, blt, fnV, asArg, zd, zn, zo, zj, zi, zg, zk, zr, z6, zD, zF, mkS, zc, unN, zM, zm, zy, zC, ze, zN, zq, GS, Int.reduceToNat, Nat.reduceGT, ↓reduceIte, Nat.reduceAdd, Nat.reduceMul, Nat.reduceSub, Nat.reduceEqDiff, Nat.reduceLeDiff, Nat.reduceLT, Nat.reduceBEq, Int.reduceBEq, Int.reduceBNe, Int.reduceEq, Int.reduceLT, Int.reduceLE, Int.reduceGT, Int.reduceNeg, reduceCtorEq, zx, bne, ge_iff_le, *]))
theorem qX (a : Int) : zE (EV Tryz.prog pol) 123 [.t (.int .u8 a)] = some (.t (.bool (B2 a 48 57))) := by
  apply zu
  refine zw rfl Tryz.func123 rfl (by kernel_rfl) ?_
  unfold Tryz.f123
  unfold B2
  repeat' (first | (((first | with_reducible refine u9 (fun hA => ?_) (fun hA => ?_) | with_reducible refine u7 (fun hA => ?_) (fun hA => ?_)) <;> (try simp only [bne, Bool.not_eq_true', Bool.not_eq_false'] at hA) <;> (first | (have hP := Int.le_of_eq (eq_of_beq (α := Int) hA); have hQ := Int.le_of_eq (eq_of_beq (α := Int) hA).symm) | have hP := of_decide_eq_true hA | have hP := of_decide_eq_false hA | skip)) <;> (simp (disch := ((try simp only [LL]); omega)) only [↓GO, ↓DRW, GA, ren, zB, zf, refs, zb, cst, zl, zH, z7, E.load, E.store, zG, isC, bin, zI, zJ, una, z8, za, zh, zK, blt, fnV, asArg, zd, zn, zo, zj, zi, zg, zk, zr, z6, zD, zF, mkS, zc, unN, zM, zm, zy, zC, ze, zN, zq, GS, Int.reduceToNat, Nat.reduceGT, ↓reduceIte, Nat.reduceAdd, Nat.reduceMul, Nat.reduceSub, Nat.reduceEqDiff, Nat.reduceLeDiff, Nat.reduceLT, Nat.reduceBEq, Int.reduceBEq, Int.reduceBNe, Int.reduceEq, Int.reduceLT, Int.reduceLE, Int.reduceGT, Int.reduceNeg, reduceCtorEq, zx, bne, ge_iff_le, *])) | (simp (disch := ((try simp only [LL]); omega)) only [↓GO, ↓DRW, GA, ren, zB, zf, refs, zb, cst, zl, zH, z7, E.load, E.store, zG, isC, bin, zI, zJ, una, z8, za, zh, zK, blt, fnV, asArg, zd, zn, zo, zj, zi, zg, zk, zr, z6, zD, zF, mkS, zc, unN, zM, zm, zy, zC, ze, zN, zq, GS, Int.reduceToNat, Nat.reduceGT, ↓reduceIte, Nat.reduceAdd, Nat.reduceMul, Nat.reduceSub, Nat.reduceEqDiff, Nat.reduceLeDiff, Nat.reduceLT, Nat.reduceBEq, Int.reduceBEq, Int.reduceBNe, Int.reduceEq, Int.reduceLT, Int.reduceLE, Int.reduceGT, Int.reduceNeg, reduceCtorEq, zx, bne, ge_iff_le, *]))
theorem wrap_u8 (b : UInt8) : IntKind.i64.wrap (b.toNat : Int) = (b.toNat : Int) := by have := Ub b; exact zx (by omega)
theorem o7 (b : UInt8) : zE (EV Tryz.prog pol) 106 [.t (.int .u8 (b.toNat : Int))] = some (.t (.bool (B2 (nb b) 97 122 || B2 (nb b) 48 57))) := by
  apply zu
  refine zw rfl Tryz.func106 rfl (by kernel_rfl) ?_
  unfold Tryz.f106
  have h1 := xL (b.toNat : Int) 97 122
  have h2 := xL (b.toNat : Int) 48 57
  repeat' (first | (((first | with_reducible refine u9 (fun hA => ?_) (fun hA => ?_) | with_reducible refine u7 (fun hA => ?_) (fun hA => ?_)) <;> (try simp only [bne, Bool.not_eq_true', Bool.not_eq_false'] at hA) <;> (first | (have hP := Int.le_of_eq (eq_of_beq (α := Int) hA); have hQ := Int.le_of_eq (eq_of_beq (α := Int) hA).symm) | have hP := of_decide_eq_true hA | have hP := of_decide_eq_false hA | skip)) <;> (simp (disch := ((try simp only [LL]); omega)) only [↓GO, ↓DRW, GA, ren, zB, zf, refs, zb, cst, zl, zH, z7, E.load, E.store, zG, isC, bin, zI, zJ, una, z8, za, zh, zK, blt, fnV, asArg, zd, zn, zo, zj, zi, zg, zk, zr, z6, zD, zF, mkS, zc, unN, zM, zm, zy, zC, ze, zN, zq, GS, Int.reduceToNat, Nat.reduceGT, ↓reduceIte, Nat.reduceAdd, Nat.reduceMul, Nat.reduceSub, Nat.reduceEqDiff, Nat.reduceLeDiff, Nat.reduceLT, Nat.reduceBEq, Int.reduceBEq, Int.reduceBNe, Int.reduceEq, Int.reduceLT, Int.reduceLE, Int.reduceGT, Int.reduceNeg, reduceCtorEq, zx, bne, conv, wrap_u8, *])) | (simp (disch := ((try simp only [LL]); omega)) only [↓GO, ↓DRW, GA, ren, zB, zf, refs, zb, cst, zl, zH, z7, E.load, E.store, zG, isC, bin, zI, zJ, una, z8, za, zh, zK, blt, fnV, asArg, zd, zn, zo, zj, zi, zg, zk, zr, z6, zD, zF, mkS, zc, unN, zM, zm, zy, zC, ze, zN, zq, GS, Int.reduceToNat, Nat.reduceGT, ↓reduceIte, Nat.reduceAdd, Nat.reduceMul, Nat.reduceSub, Nat.reduceEqDiff, Nat.reduceLeDiff, Nat.reduceLT, Nat.reduceBEq, Int.reduceBEq, Int.reduceBNe, Int.reduceEq, Int.reduceLT, Int.reduceLE, Int.reduceGT, Int.reduceNeg, reduceCtorEq, zx, bne, conv, wrap_u8, *]))
theorem S7 (f : Nat) (p : UInt8 → Bool) (hp : ∀ b : UInt8, zE (EV Tryz.prog pol) f [.t (.int .u8 (b.toNat : Int))] = some (.t (.bool (p b)))) (s : Str) (hl : s.length ≤ 9223372036854775807) : ∀ (rest pre : Str), s = pre ++ rest →
    EV Tryz.prog pol (.loop 120 26 0 [.t (.str s), .t (.fn f []), .t (.int .i64 (s.length : Int)), .t (.int .i64 (pre.length : Int))] []) = some (cond (rest.all p) (.loop (.exit 0) [.bad] []) (.loop .ret [.t (.bool false)] []))
  | [], pre, hs => by
    have c : decide ((pre.length : Int) < (s.length : Int)) = false := by simp [hs]
    refine zz Tryz.func120 rfl rfl ?_
    simp only [↓GO, ↓DRW, GA, ren, zB, zf, refs, zb, cst, zl, zH, z7, E.load, E.store, zG, isC, bin, zI, zJ, una, z8, za, zh, zK, blt, fnV, asArg, zd, zn, zo, zj, zi, zg, zk, zr, z6, zD, zF, mkS, zc, unN, zM, zm, zy, zC, ze, zN, zq, GS, Int.reduceToNat, Nat.reduceGT, ↓reduceIte, Nat.reduceAdd, Nat.reduceMul, Nat.reduceSub, Nat.reduceEqDiff, Nat.reduceLeDiff, Nat.reduceLT, Nat.reduceBEq, Int.reduceBEq, Int.reduceBNe, Int.reduceEq, Int.reduceLT, Int.reduceLE, Int.reduceGT, Int.reduceNeg, reduceCtorEq, c]
  | b :: rest, pre, hs => by
    have c : decide ((pre.length : Int) < (s.length : Int)) = true := by simp [hs]; omega
    have hget : s[pre.length]? = some b := by rw [hs]; exact tj pre b rest
    have hlen : s.length = pre.length + rest.length + 1 := by rw [hs]; simp; omega
    have e1 : (pre.length : Int) + 1 = ((pre ++ [b]).length : Int) := by simp
    have IH := S7 f p hp s hl rest (pre ++ [b]) (by rw [hs]; simp)
    have hb := hp b
    refine zz Tryz.func120 rfl rfl ?_
    cases hpb : p b with
    | true =>
      rw [hpb] at hb
      simp (disch := omega) only [↓GO, ↓DRW, GA, ren, zB, zf, refs, zb, cst, zl, zH, z7, E.load, E.store, zG, isC, bin, zI, zJ, una, z8, za, zh, zK, blt, fnV, asArg, zd, zn, zo, zj, zi, zg, zk, zr, z6, zD, zF, mkS, zc, unN, zM, zm, zy, zC, ze, zN, zq, GS, Int.reduceToNat, Nat.reduceGT, ↓reduceIte, Nat.reduceAdd, Nat.reduceMul, Nat.reduceSub, Nat.reduceEqDiff, Nat.reduceLeDiff, Nat.reduceLT, Nat.reduceBEq, Int.reduceBEq, Int.reduceBNe, Int.reduceEq, Int.reduceLT, Int.reduceLE, Int.reduceGT, Int.reduceNeg, reduceCtorEq, c, hget, zx, hb]
      rw [e1, IH, hpb, Bool.true_and]
    | false =>
      rw [hpb] at hb
      simp (disch := omega) only [↓GO, ↓DRW, GA, ren, zB, zf, refs, zb, cst, zl, zH, z7, E.load, E.store, zG, isC, bin, zI, zJ, una, z8, za, zh, zK, blt, fnV, asArg, zd, zn, zo, zj, zi, zg, zk, zr, z6, zD, zF, mkS, zc, unN, zM, zm, zy, zC, ze, zN, zq, GS, Int.reduceToNat, Nat.reduceGT, ↓reduceIte, Nat.reduceAdd, Nat.reduceMul, Nat.reduceSub, Nat.reduceEqDiff, Nat.reduceLeDiff, Nat.reduceLT, Nat.reduceBEq, Int.reduceBEq, Int.reduceBNe, Int.reduceEq, Int.reduceLT, Int.reduceLE, Int.reduceGT, Int.reduceNeg, reduceCtorEq, c, hget, zx, hb]
      rw [hpb]; rfl
theorem aU (f : Nat) (p : UInt8 → Bool) (hp : ∀ b : UInt8, zE (EV Tryz.prog pol) f [.t (.int .u8 (b.toNat : Int))] = some (.t (.bool (p b)))) (s : Str) (hl : s.length ≤ 9223372036854775807) :
    zE (EV Tryz.prog pol) 120 [.t (.str s), .t (.fn f [])] = some (.t (.bool (s.all p))) := by
  have IH := S7 f p hp s hl s [] rfl
  simp only [List.length_nil, Int.natCast_zero] at IH
  apply zu
  refine zw rfl Tryz.func120 rfl (by kernel_rfl) ?_
  unfold Tryz.f120
  cases hb : s.all p with
  | true => rw [hb] at IH; simp only [cond_true] at IH; simp only [↓GO, ↓DRW, GA, ren, zB, zf, refs, zb, cst, zl, zH, z7, E.load, E.store, zG, isC, bin, zI, zJ, una, z8, za, zh, zK, blt, fnV, asArg, zd, zn, zo, zj, zi, zg, zk, zr, z6, zD, zF, mkS, zc, unN, zM, zm, zy, zC, ze, zN, zq, GS, Int.reduceToNat, Nat.reduceGT, ↓reduceIte, Nat.reduceAdd, Nat.reduceMul, Nat.reduceSub, Nat.reduceEqDiff, Nat.reduceLeDiff, Nat.reduceLT, Nat.reduceBEq, Int.reduceBEq, Int.reduceBNe, Int.reduceEq, Int.reduceLT, Int.reduceLE, Int.reduceGT, Int.reduceNeg, reduceCtorEq, IH]
  | false => rw [hb] at IH; simp only [cond_false] at IH; simp only [↓GO, ↓DRW, GA, ren, zB, zf, refs, zb, cst, zl, zH, z7, E.load, E.store, zG, isC, bin, zI, zJ, una, z8, za, zh, zK, blt, fnV, asArg, zd, zn, zo, zj, zi, zg, zk, zr, z6, zD, zF, mkS, zc, unN, zM, zm, zy, zC, ze, zN, zq, GS, Int.reduceToNat, Nat.reduceGT, ↓reduceIte, Nat.reduceAdd, Nat.reduceMul, Nat.reduceSub, Nat.reduceEqDiff, Nat.reduceLeDiff, Nat.reduceLT, Nat.reduceBEq, Int.reduceBEq, Int.reduceBNe, Int.reduceEq, Int.reduceLT, Int.reduceLE, Int.reduceGT, Int.reduceNeg, reduceCtorEq, IH]
end Go.Proofs.YtmcephnfcciloaaGreatDoor
/- Texts cut at a byte; names; plain texts. Plain. Conditions: none. -/
namespace Go.Proofs.YtmcephnfcciloaaGreatDoor
set_option linter.unusedVariables false
set_option linter.unusedSimpArgs false
theorem nv (b : UInt8) (s : Str) : Lib.index (b :: s) [b] = 0 := by rw [Lib.index]; simp [List.isPrefixOf]
theorem pQ (x b : UInt8) (s : Str) (h : x ≠ b) : Lib.index (x :: s) [b] = if Lib.index s [b] == -1 then -1 else Lib.index s [b] + 1 := by
  have hp : ([b] : List UInt8).isPrefixOf (x :: s) = false := by simp [List.isPrefixOf, Ne.symm h]
  rw [Lib.index, hp]; simp
theorem yU (b : UInt8) : ∀ s : Str, yi b s ≠ []
  | [] => by simp [yi]
  | x :: s => by
    unfold yi
    split
    · simp
    · split <;> simp
theorem wb (b : UInt8) (s : Str) : yi b (b :: s) = [] :: yi b s := by rw [yi, if_pos rfl]
theorem yE (b x : UInt8) (s p : Str) (r : List Str) (h : x ≠ b) (e : yi b s = p :: r) : yi b (x :: s) = (x :: p) :: r := by
  rw [yi, if_neg h, e]
theorem lh (b : UInt8) : ∀ s : Str, Lib.split s [b] = yi b s
  | [] => by
    unfold Lib.split
    rw [Lib.count_miss (by simp [Lib.index])]; rfl
  | x :: s => by
    have ih := lh b s
    unfold Lib.split at ih ⊢
    by_cases h : x = b
    · subst h
      rw [Lib.count_cons_eq, Nat.add_comm, Lib.splitK, nv, wb]
      simpa using ih
    · rw [Lib.count_cons_ne x b s h]
      by_cases hm : Lib.index s [b] = -1
      · rw [Lib.count_miss hm] at ih ⊢
        rw [Lib.splitK] at ih ⊢
        exact (yE b x s s [] h ih.symm).symm
      · have hge := Lib.index_ge s [b]
        obtain ⟨j, hj⟩ : ∃ j : Nat, Lib.index s [b] = j := ⟨(Lib.index s [b]).toNat, by omega⟩
        rw [Lib.count_hit (by simp) hj, Nat.add_comm] at ih ⊢
        have hb : (((j : Nat) : Int) == -1) = false := by rw [beq_eq_false_iff_ne]; omega
        have hb2 : (((j : Nat) : Int) + 1 == -1) = false := by rw [beq_eq_false_iff_ne]; omega
        rw [Lib.splitK, hj, hb] at ih
        rw [Lib.splitK, pQ x b s h, hj, hb]
        simp only [Bool.false_eq_true, if_false, hb2, Int.toNat_natCast, Nat.add_zero, List.length_cons, List.length_nil, Nat.zero_add] at ih ⊢
        rw [show ((j : Int) + 1).toNat = j + 1 by omega]
        rw [List.take_succ_cons, List.drop_succ_cons]
        exact (yE b x s _ _ h ih.symm).symm
/-- a text cut at the first place of a byte -/
def yl (b : UInt8) : Str → Str × Str × Bool
  | [] => ([], [], false)
  | x :: s => if x = b then ([], s, true) else (x :: (yl b s).1, (yl b s).2.1, (yl b s).2.2)
theorem fZ (b : UInt8) : ∀ s : Str, Lib.cut s [b] = yl b s
  | [] => by simp [Lib.cut, yl, Lib.index]
  | x :: s => by
    have ih := fZ b s
    by_cases h : x = b
    · subst h
      unfold Lib.cut
      rw [nv, yl, if_pos rfl]; simp
    · rw [yl, if_neg h, ← ih]
      unfold Lib.cut
      rw [pQ x b s h]
      have hge := Lib.index_ge s [b]
      by_cases hm : Lib.index s [b] = -1
      · rw [hm]; simp
      · obtain ⟨j, hj⟩ : ∃ j : Nat, Lib.index s [b] = j := ⟨(Lib.index s [b]).toNat, by omega⟩
        have hb : (((j : Nat) : Int) == -1) = false := by rw [beq_eq_false_iff_ne]; omega
        rw [hj, hb]
        simp only [Bool.false_eq_true, if_false]
        rw [if_pos (by omega), if_pos (by omega), show ((j : Int) + 1).toNat = j + 1 by omega]
        simp only [List.take_succ_cons, Int.toNat_natCast]
        rw [show j + 1 + [b].length = (j + [b].length) + 1 by simp, List.drop_succ_cons]
theorem sA (b : UInt8) : ∀ s : Str, s = (yl b s).1 ++ cond (yl b s).2.2 (b :: (yl b s).2.1) []
  | [] => rfl
  | x :: s => by
    rw [yl]
    split
    · rename_i h; rw [h]; rfl
    · have := sA b s
      show x :: s = (x :: (yl b s).1) ++ _
      rw [List.cons_append, ← this]
theorem my (b : UInt8) : ∀ s : Str, b ∉ (yl b s).1
  | [] => by simp [yl]
  | x :: s => by
    rw [yl]
    split
    · simp
    · rename_i h
      have := my b s
      simp only [List.mem_cons, not_or]
      exact ⟨Ne.symm h, this⟩
theorem nE (b : UInt8) : ∀ s : Str, (yl b s).2.2 = false → (yl b s).2.1 = []
  | [], _ => rfl
  | x :: s, h => by
    rw [yl] at h ⊢
    split at h
    · simp at h
    · rename_i hx
      rw [if_neg hx]; exact nE b s h
theorem mz (b : UInt8) (t : Str) : ∀ s : Str, b ∉ s → yl b (s ++ b :: t) = (s, t, true)
  | [], _ => by simp [yl]
  | x :: s, h => by
    simp only [List.mem_cons, not_or] at h
    rw [List.cons_append, yl, if_neg (Ne.symm h.1), mz b t s h.2]
theorem ay (b : UInt8) : ∀ s : Str, b ∉ s → yl b s = (s, [], false)
  | [], _ => by simp [yl]
  | x :: s, h => by
    simp only [List.mem_cons, not_or] at h
    rw [yl, if_neg (Ne.symm h.1), ay b s h.2]
theorem uy (b : UInt8) (t : Str) : ∀ s : Str, yi b (s ++ b :: t) = yi b s ++ yi b t
  | [] => by rw [List.nil_append, wb]; rfl
  | x :: s => by
    have ih := uy b t s
    rw [List.cons_append]
    by_cases h : x = b
    · subst h; rw [wb, wb, ih]; rfl
    · cases hc : yi b s with
      | nil => exact absurd hc (yU b s)
      | cons p r =>
        rw [hc] at ih
        rw [yE b x s p r h hc, yE b x _ p (r ++ yi b t) h ih]; rfl
theorem oJ (b : UInt8) : ∀ s : Str, b ∉ s → yi b s = [s]
  | [], _ => rfl
  | x :: s, h => by
    simp only [List.mem_cons, not_or] at h
    exact yE b x s s [] (Ne.symm h.1) (oJ b s h.2)
def sF : Str := [110, 111, 100, 101, 95, 109, 111, 100, 117, 108, 101, 115]
def vQ (b : UInt8) : Bool := B2 (nb b) 97 122 || B2 (nb b) 48 57 || nb b == 46 || nb b == 95 || nb b == 45
def oh (s : Str) : Bool := ([64] : Str).isPrefixOf s
def yR (s : Str) : Str := match s with
  | [] => []
  | x :: r => if x = 64 then r else x :: r
/-- as the implementation asks -/
def vL (sc : Bool) : List Str → Bool
  | [] => true
  | p :: r => (!((p == []) || ((p == sF) && !sc) || !(p.all vQ))) && vL false r
def vg (s : Str) : Bool := vL (oh s) (yi 47 (yR s)) && decide ((s.length : Int) ≤ 60)
/-- as the reference asks -/
def mL : List Str → Bool
  | [] => true
  | p :: r => (!(p == sF) && (p.all vQ && !(p == []))) && mL r
def rJ : List Str → Bool
  | [] => true
  | p :: r => (!(p == sF) && ((yR p).all vQ && !(yR p == []))) && mL r
theorem se : ∀ r : List Str, mL r = vL false r
  | [] => rfl
  | p :: r => by
    rw [mL, vL, se r]
    cases (p == []) <;> cases (p == sF) <;> cases (p.all vQ) <;> rfl
theorem Zf (s : Str) : (rJ (yi 47 s) && decide ((s.length : Int) ≤ 60)) = vg s := by
  unfold vg
  congr 1
  cases s with
  | nil => rfl
  | cons x t =>
    cases hc : yi 47 t with
    | nil => exact absurd hc (yU 47 t)
    | cons p r =>
      by_cases h64 : x = 64
      · subst h64
        rw [yE 47 64 t p r (by decide) hc]
        have h1 : oh (64 :: t) = true := by simp [oh, List.isPrefixOf]
        have h2 : yR (64 :: t) = t := by simp [yR]
        have h3 : yR (64 :: p) = p := by simp [yR]
        have h4 : (((64 : UInt8) :: p) == sF) = false := by simp [sF]
        rw [h1, h2, hc, rJ, vL, h3, h4, se]
        cases (p == []) <;> cases (p == sF) <;> cases (p.all vQ) <;> rfl
      · have h1 : oh (x :: t) = false := by simp [oh, List.isPrefixOf]; exact fun h => h64 h.symm
        have h2 : yR (x :: t) = x :: t := by simp [yR, h64]
        rw [h1, h2]
        by_cases h47 : x = 47
        · subst h47
          rw [wb, rJ, vL, se]
          rfl
        · rw [yE 47 x t p r h47 hc, rJ, vL, se]
          have h3 : yR (x :: p) = x :: p := by simp [yR, h64]
          rw [h3]
          cases ((x :: p) == []) <;> cases ((x :: p) == sF) <;> cases ((x :: p).all vQ) <;> rfl
def rI (b : UInt8) : Bool := B2 (nb b) 33 126 && (!(nb b == 34) && (!(nb b == 39) && (!(nb b == 44) && !(nb b == 92))))
def wv (s : Str) : Bool := s.all rI && decide ((s.length : Int) ≤ 100)
end Go.Proofs.YtmcephnfcciloaaGreatDoor
/- The number of a text, plain: both ways of reading it come to the same. Conditions: none. -/
namespace Go.Proofs.YtmcephnfcciloaaGreatDoor
set_option linter.unusedSimpArgs false
set_option linter.unusedVariables false
def isD (c : UInt8) : Bool := decide (48 ≤ c.toNat) && decide (c.toNat ≤ 57)
/-- what digits spell behind a number -/
def ry (a : Nat) (c : UInt8) : Nat := a * 10 + (c.toNat - 48)
def ub (acc : Nat) (l : List UInt8) : Nat := l.foldl ry acc
theorem nQ (acc : Nat) : ub acc [] = acc := rfl
theorem qH (acc : Nat) (c : UInt8) (l : List UInt8) : ub acc (c :: l) = ub (ry acc c) l := by
  unfold ub
  rw [List.foldl_cons]
theorem lb (c : UInt8) (l : List UInt8) (acc : Nat) : ub acc (l ++ [c]) = ry (ub acc l) c := by
  unfold ub
  rw [List.foldl_append, List.foldl_cons, List.foldl_nil]
theorem qu (c : UInt8) : isD c = true ↔ 48 ≤ c.toNat ∧ c.toNat ≤ 57 := by simp [isD]
theorem cX (acc : Nat) (c : UInt8) (h : isD c = true) : ry acc c + 1 ≤ (acc + 1) * 10 := by
  have := (qu c).1 h
  unfold ry
  omega
theorem nh (n m : Nat) : m * 10 ^ (n + 1) = m * 10 * 10 ^ n := by rw [Nat.pow_succ, Nat.mul_comm (10 ^ n) 10, Nat.mul_assoc]
theorem oz : ∀ (l : List UInt8) (acc : Nat), l.all isD = true → ub acc l < (acc + 1) * 10 ^ l.length
  | [], acc, _ => by rw [nQ]; simp
  | c :: l, acc, h => by
    rw [List.all_cons, Bool.and_eq_true] at h
    have ih := oz l (ry acc c) h.2
    rw [qH, List.length_cons, nh]
    exact Nat.lt_of_lt_of_le ih (Nat.mul_le_mul_right _ (cX acc c h.1))
theorem ku {d : Nat} (h : d < 10) : (UInt8.ofNat (48 + d)).toNat = 48 + d := by
  simp [UInt8.toNat_ofNat']; omega
theorem vU (u : Nat) : (Lib.decDigits u).all isD = true ∧ ub 0 (Lib.decDigits u) = u ∧ Lib.decDigits u ≠ [] := by
  induction u using Nat.strongRecOn with
  | _ u ih =>
    rw [Lib.decDigits]
    split
    · rename_i h
      have := ku h
      refine ⟨?_, ?_, by simp⟩
      · rw [List.all_cons, List.all_nil, Bool.and_true, qu, this]; omega
      · rw [qH, nQ, ry, this]; omega
    · rename_i h
      obtain ⟨h1, h2, h3⟩ := ih (u / 10) (by omega)
      have := ku (d := u % 10) (by omega)
      refine ⟨?_, ?_, by simp⟩
      · rw [List.all_append, h1, List.all_cons, List.all_nil, Bool.and_true, Bool.true_and, qu, this]; omega
      · rw [lb, h2, ry, this]; omega
theorem rQ : ∀ (l : List UInt8) (acc : Nat), l.all isD = true → (acc + 1) * 10 ^ l.length ≤ 1000000000000000000 → Lib.parseUint10 acc l = .ok (ub acc l)
  | [], acc, _, _ => rfl
  | c :: l, acc, h, hb => by
    rw [List.all_cons, Bool.and_eq_true] at h
    have hp : 0 < 10 ^ l.length := Nat.pos_of_ne_zero (by intro h; simp at h)
    rw [List.length_cons, nh] at hb
    have h10 : (acc + 1) * 10 ≤ 1000000000000000000 := Nat.le_trans (Nat.le_mul_of_pos_right _ hp) hb
    have hc := (qu c).1 h.1
    have ih := rQ l (ry acc c) h.2 (Nat.le_trans (Nat.mul_le_mul_right _ (cX acc c h.1)) hb)
    rw [Lib.parseUint10, if_pos hc, if_neg (by omega), if_neg (by omega), qH, ← ih]
    rfl
theorem pG : ∀ (k u : Nat), 1 ≤ k → u < 10 ^ k → Lib.nDigits u ≤ k
  | 0, u, h, _ => by omega
  | k + 1, u, _, h => by
    rw [Lib.nDigits]
    split
    · omega
    · have h10 : u / 10 < 10 ^ k := by rw [Nat.pow_succ] at h; omega
      have hk : 1 ≤ k := by
        rcases Nat.eq_zero_or_pos k with rfl | h
        · simp at h10; omega
        · exact h
      have := pG k (u / 10) hk h10
      omega
theorem tD {u : Nat} (h : u ≤ 999999999) : (Lib.decDigits u).length ≤ 9 := by
  rw [Lib.decDigits_length]
  exact pG 9 u (by omega) (by omega)
theorem iD {u : Nat} (h : u ≤ 999999999) : Lib.atoiAll (Lib.decDigits u) = .ok (u : Int) := by
  obtain ⟨h1, h2, h3⟩ := vU u
  have hl := tD h
  generalize Lib.decDigits u = l at *
  cases l with
  | nil => exact absurd rfl h3
  | cons c r =>
    have hc : isD c = true := by simp only [List.all_cons, Bool.and_eq_true] at h1; exact h1.1
    simp only [isD, Bool.and_eq_true, decide_eq_true_eq] at hc
    have hp : Lib.parseMag (c :: r) = .ok u := by
      unfold Lib.parseMag
      have : (10 : Nat) ^ (c :: r).length ≤ 10 ^ 9 := Nat.pow_le_pow_right (by omega) hl
      have e9 : (10 : Nat) ^ 9 = 1000000000 := by decide
      rw [if_neg (by simp), rQ _ 0 h1 (by omega), h2]
    unfold Lib.atoiAll
    simp only
    rw [if_neg (by omega), hp]
    simp only
    rw [if_neg (by omega), if_neg (by omega), if_neg (by omega)]
/-- the number of a text, or -1 -/
def zO (s : List UInt8) : Int :=
  match Lib.atoiAll s with
  | .ok v => cond ((decide (0 ≤ v) && decide (v ≤ 999999999)) && (Lib.itoa v == s)) v (-1)
  | _ => -1
/-- the same, by the digits -/
def su (s : List UInt8) : Int := cond ((s.all isD && decide (s.length ≤ 9)) && (!(s == []) && (Lib.itoa (ub 0 s : Nat) == s))) (ub 0 s : Nat) (-1)
theorem vu {u : Nat} (h : u ≤ 999999999) : zO (Lib.decDigits u) = u ∧ su (Lib.decDigits u) = u := by
  obtain ⟨h1, h2, h3⟩ := vU u
  have hl := tD h
  refine ⟨?_, ?_⟩
  · unfold zO
    rw [iD h]
    simp only
    rw [Lib.itoa_nonneg]
    have e1 : decide ((0 : Int) ≤ (u : Int)) = true := by simp
    have e2 : decide ((u : Int) ≤ 999999999) = true := by simp; omega
    rw [e1, e2]; simp
  · unfold su
    rw [h1, h2, Lib.itoa_nonneg]
    have e1 : decide ((Lib.decDigits u).length ≤ 9) = true := by simpa using hl
    have e2 : (Lib.decDigits u == []) = false := by simpa using h3
    rw [e1, e2]; simp
theorem Z9 {s : List UInt8} (h : ∀ u, u ≤ 999999999 → s ≠ Lib.decDigits u) : zO s = -1 ∧ su s = -1 := by
  refine ⟨?_, ?_⟩
  · unfold zO
    split
    · rename_i v hv
      cases hc : ((decide (0 ≤ v) && decide (v ≤ 999999999)) && (Lib.itoa v == s)) with
      | false => rfl
      | true =>
        simp only [Bool.and_eq_true, decide_eq_true_eq] at hc
        obtain ⟨⟨c1, c2⟩, c3⟩ := hc
        obtain ⟨u, rfl⟩ : ∃ u : Nat, v = u := ⟨v.toNat, by omega⟩
        rw [Lib.itoa_nonneg] at c3
        exact absurd (eq_of_beq c3).symm (h u (by omega))
    · rfl
  · unfold su
    cases hc : ((s.all isD && decide (s.length ≤ 9)) && (!(s == []) && (Lib.itoa (ub 0 s : Nat) == s))) with
    | false => rfl
    | true =>
      simp only [Bool.and_eq_true, decide_eq_true_eq] at hc
      obtain ⟨⟨c1, c2⟩, c3, c4⟩ := hc
      rw [Lib.itoa_nonneg] at c4
      have hv := oz s 0 c1
      have : (10 : Nat) ^ s.length ≤ 10 ^ 9 := Nat.pow_le_pow_right (by omega) c2
      have e9 : (10 : Nat) ^ 9 = 1000000000 := by decide
      exact absurd (eq_of_beq c4).symm (h _ (by omega))
theorem Z0 (s : List UInt8) : su s = zO s := by
  by_cases h : ∃ u, u ≤ 999999999 ∧ s = Lib.decDigits u
  · obtain ⟨u, hu, rfl⟩ := h
    obtain ⟨h1, h2⟩ := vu hu
    rw [h1, h2]
  · obtain ⟨h1, h2⟩ := Z9 (s := s) fun u hu he => h ⟨u, hu, he⟩
    rw [h1, h2]
end Go.Proofs.YtmcephnfcciloaaGreatDoor
/- Versions, packs, graphs, plain. Conditions: none. -/
namespace Go.Proofs.YtmcephnfcciloaaGreatDoor
open E
set_option linter.unusedVariables false
set_option linter.unusedSimpArgs false
set_option maxRecDepth 100000
theorem vF (a b : UInt8) (x y : Str) : Op.bytesLess (a :: x) (b :: y) = (decide (a < b) || (a == b && Op.bytesLess x y)) := by
  rw [Op.bytesLess]
/-- '<=' on texts, said by '<' -/
theorem qq : ∀ x y : Str, (Op.bytesLess x y || x == y) = !(Op.bytesLess y x)
  | [], [] => rfl
  | [], b :: y => by simp [Op.bytesLess]
  | a :: x, [] => by simp [Op.bytesLess]
  | a :: x, b :: y => by
    have ih := qq x y
    rw [vF, vF]
    by_cases h1 : a < b
    · have h2 : ¬ b < a := by simp only [UInt8.lt_iff_toNat_lt] at h1 ⊢; omega
      have h3 : (b == a) = false := by
        rw [beq_eq_false_iff_ne]; intro h; subst h; simp only [UInt8.lt_iff_toNat_lt] at h1; omega
      simp [h1, h2, h3]
    · by_cases h2 : b < a
      · have h3 : (a == b) = false := by
          rw [beq_eq_false_iff_ne]; intro h; subst h; simp only [UInt8.lt_iff_toNat_lt] at h2; omega
        have h4 : ((a :: x) == (b :: y)) = false := by
          rw [beq_eq_false_iff_ne]; intro h; cases h; simp at h3
        simp [h1, h2, h3, h4]
      · have h3 : a = b := by
          apply UInt8.toNat_inj.1; simp only [UInt8.lt_iff_toNat_lt] at h1 h2; omega
        subst h3
        have e : ((a :: x) == (a :: y)) = (x == y) := by
          rw [Bool.eq_iff_iff]; simp
        simp only [h1, decide_false, Bool.false_or, beq_self_eq_true, Bool.true_and, e, ih]
theorem xI (b : UInt8) : ∀ s : Str, yk (yi b s) + (yi b s).length ≤ s.length + 1
  | [] => by simp [yi, yk]
  | x :: s => by
    have ih := xI b s
    by_cases h : x = b
    · subst h; rw [wb]; simp only [yk, List.length_cons, List.length_nil]; omega
    · cases hc : yi b s with
      | nil => exact absurd hc (yU b s)
      | cons p r =>
        rw [hc] at ih
        rw [yE b x s p r h hc]
        simp only [yk, List.length_cons] at ih ⊢; omega
theorem qk (b : UInt8) (s : Str) : (yl b s).1.length ≤ s.length ∧ (yl b s).2.1.length ≤ s.length := by
  have h := sA b s
  have h2 := congrArg List.length h
  rw [List.length_append] at h2
  cases hc : (yl b s).2.2 with
  | true => rw [hc] at h2; simp only [cond_true, List.length_cons] at h2; omega
  | false =>
    have := nE b s hc
    rw [this]; simp only [List.length_nil]; omega
theorem xV : ∀ {ks : List Str} {s : Str}, s ∈ ks → s.length ≤ yk ks
  | k :: ks, s, h => by
    simp only [yk]
    rcases List.mem_cons.1 h with rfl | h
    · omega
    · have := xV h; omega
theorem mC : ∀ a b : List Str, yk (a ++ b) = yk a + yk b
  | [], b => by simp [yk]
  | x :: a, b => by simp only [List.cons_append, yk, mC a b]; omega
theorem lP : ∀ l : List Str, Lib.lens l = yk l
  | [] => rfl
  | x :: l => by
    have := lP l
    simp only [yk, ← this]; simp [Lib.lens]
theorem join_le (sep : Str) : ∀ l : List Str, (Lib.join l sep).length ≤ yk l + sep.length * l.length
  | [] => by simp [Lib.join_nil]
  | x :: r => by rw [Lib.join_length, lP]; simp only [List.length_cons, Nat.mul_add, Nat.mul_one]; omega
theorem nu (sep : Str) (x : Str) (l : List Str) (y : Str) : Lib.join (x :: l ++ [y]) sep = Lib.join (x :: l) sep ++ (sep ++ y) := by
  rw [List.cons_append, Lib.join_cons, Lib.join_cons]; simp [Lib.joinTail]
structure Ver where
  maj : Int
  min : Int
  pat : Int
  pre : List Str
def Ver.enc (v : Ver) : List T := [.int .i64 v.maj, .int .i64 v.min, .int .i64 v.pat, .list 1 (y6 v.pre)]
def Ver.zero : Ver := ⟨0, 0, 0, []⟩
def preB (b : UInt8) : Bool := (B2 (nb b) 97 122 || B2 (nb b) 48 57) || (B2 (nb b) 65 90 || nb b == 45)
def isNum (s : Str) : Bool := !(s == []) && s.all isD
def wi (p : Str) : Bool := B2 (p.length : Int) 1 20 && (p.all preB && (!(isNum p) || decide (0 ≤ zO p)))
def n9 (n : Int) : Bool := B2 n 0 999999999
def yv (v : Ver) : Bool := (n9 v.maj && (n9 v.min && n9 v.pat)) && (v.pre.all wi && decide ((v.pre.length : Int) ≤ 5))
def vc (v : Ver) : Str := (((Lib.itoa v.maj ++ [46]) ++ Lib.itoa v.min) ++ [46]) ++ Lib.itoa v.pat
def w6 (c : Str) (pre : List Str) : Str := cond (pre == []) c (c ++ ([45] ++ Lib.join pre [46]))
def yb (v : Ver) : Str := cond (yv v) (w6 (vc v) v.pre) []
def xQ (s : Str) : Option Ver :=
  match yi 46 (yl 45 s).1 with
  | [a, b, c] => some ⟨zO a, zO b, zO c, cond (yl 45 s).2.2 (yi 46 (yl 45 s).2.1) []⟩
  | _ => none
def zA (s : Str) : Ver × Bool :=
  match xQ s with
  | some v => cond (yb v == s) (v, true) (Ver.zero, false)
  | none => (Ver.zero, false)
theorem gU {s : Str} {v : Ver} (h : xQ s = some v) : s ≠ [] := by
  intro e; subst e; simp [xQ, yl, yi] at h
theorem yu {s : Str} (h : (zA s).2 = true) : xQ s = some (zA s).1 ∧ yb (zA s).1 = s ∧ yv (zA s).1 = true ∧ s ≠ [] := by
  unfold zA at h ⊢
  cases hm : xQ s with
  | none => rw [hm] at h; cases h
  | some v =>
    rw [hm] at h
    simp only at h ⊢
    have hs := gU hm
    cases hc : (yb v == s) with
    | false => rw [hc] at h; cases h
    | true =>
      have he := eq_of_beq hc
      simp only [cond_true]
      refine ⟨trivial, he, ?_, hs⟩
      cases hv : yv v with
      | true => rfl
      | false => unfold yb at he; rw [hv] at he; exact absurd he.symm hs
theorem mU {s : Str} (h : (zA s).2 = false) : (zA s).1 = Ver.zero := by
  unfold zA at h ⊢
  cases hm : xQ s with
  | none => rfl
  | some v =>
    rw [hm] at h
    simp only at h ⊢
    cases hc : (yb v == s) with
    | true => rw [hc] at h; cases h
    | false => rfl
theorem pe (n : Int) : n9 n = true ↔ 0 ≤ n ∧ n ≤ 999999999 := by simp [n9]
theorem xZ {v : Ver} (h : yv v = true) : (0 ≤ v.maj ∧ v.maj ≤ 999999999) ∧ (0 ≤ v.min ∧ v.min ≤ 999999999) ∧ (0 ≤ v.pat ∧ v.pat ≤ 999999999) ∧ v.pre.all wi = true ∧ v.pre.length ≤ 5 := by
  unfold yv at h
  simp only [Bool.and_eq_true, pe, decide_eq_true_eq] at h
  obtain ⟨⟨h1, h2, h3⟩, h4, h5⟩ := h
  exact ⟨h1, h2, h3, h4, by omega⟩
theorem xn (s : Str) : -1 ≤ zO s ∧ zO s ≤ 999999999 := by
  unfold zO
  split
  · rename_i v _
    cases hc : ((decide (0 ≤ v) && decide (v ≤ 999999999)) && (Lib.itoa v == s)) with
    | false => simp
    | true =>
      simp only [Bool.and_eq_true, decide_eq_true_eq] at hc
      simp only [cond_true]; omega
  · simp
/-- with one number more behind -/
def s7 (v : Ver) : Ver := ⟨v.maj, v.min, v.pat, v.pre ++ [[48]]⟩
theorem aW (c : Str) (x : Str) (l : List Str) : w6 c ((x :: l) ++ [[48]]) = w6 c (x :: l) ++ [46, 48] := by
  unfold w6
  rw [nu]
  simp
theorem beq_nil_cons {α : Type} [BEq α] (x : α) (l : List α) : ((x :: l) == []) = false := rfl
/-- a version's text with '.0' behind is read as the version with one part more, where that is right -/
theorem lp {s : Str} (h : (zA s).2 = true) (hp : (zA s).1.pre ≠ []) :
    zA (s ++ [46, 48]) = cond (yv (s7 (zA s).1)) (s7 (zA s).1, true) (Ver.zero, false) ∧ yb (s7 (zA s).1) = cond (yv (s7 (zA s).1)) (s ++ [46, 48]) [] := by
  obtain ⟨hm, ht, ho, hs⟩ := yu h
  generalize (zA s).1 = v at *
  have hmk : xQ (s ++ [46, 48]) = some (s7 v) := by
    unfold xQ at hm ⊢
    have he := sA 45 s
    have hn := my 45 s
    cases hc : (yl 45 s).2.2 with
    | false =>
      rw [hc] at hm
      split at hm
      · cases hm; exact absurd rfl hp
      · cases hm
    | true =>
      rw [hc] at hm he
      simp only [cond_true] at he
      have h2 : yl 45 (s ++ [46, 48]) = ((yl 45 s).1, (yl 45 s).2.1 ++ [46, 48], true) := by
        conv => lhs; rw [he]
        rw [List.append_assoc, List.cons_append]
        exact mz 45 _ _ hn
      rw [h2]
      simp only
      split at hm
      · cases hm
        simp only [cond_true]
        rw [show (yl 45 s).2.1 ++ [46, 48] = (yl 45 s).2.1 ++ 46 :: [48] from rfl, uy]
        rfl
      · cases hm
  have htx : yb (s7 v) = cond (yv (s7 v)) (s ++ [46, 48]) [] := by
    have ht' := ht
    unfold yb at ht' ⊢
    rw [ho] at ht'
    simp only [cond_true] at ht'
    congr 1
    rw [← ht']
    cases hv : v.pre with
    | nil => exact absurd hv hp
    | cons x l =>
      show w6 (vc v) (v.pre ++ [[48]]) = _
      rw [hv]
      exact aW _ x l
  refine ⟨?_, htx⟩
  unfold zA
  rw [hmk]
  simp only
  rw [htx]
  cases hk : yv (s7 v) with
  | true => simp
  | false =>
    simp only [cond_false]
    have : (([] : Str) == s ++ [46, 48]) = false := by rw [beq_eq_false_iff_ne]; intro e; have := congrArg List.length e; simp at this
    rw [this]; rfl
/-- the text that a version ends ahead of, where it stands alone -/
def ye (a b c : Int) : Str := yb ⟨a, b, c, [[48]]⟩
def uG (v : Ver) : Str := cond (v.pre == []) (ye v.maj v.min (v.pat + 1)) (yb (s7 v))
def x6 (s : Str) : Option (Str × Str) := cond ((zA s).2 && !(uG (zA s).1 == [])) (some (s, uG (zA s).1)) none
def upV (v : Ver) (part : Int) : Ver := cond (part == 0) ⟨v.maj + 1, 0, 0, []⟩ (cond (part == 1) ⟨v.maj, v.min + 1, 0, []⟩ ⟨v.maj, v.min, cond (v.pre == []) (v.pat + 1) v.pat, []⟩)
def wM (v : Ver) (part : Int) : Ver := cond (!(yv v) || !(B2 part 0 2)) v (cond (yv (upV v part)) (upV v part) v)
def x9 (a b : Int) : Int := cond (decide (a < b)) (-1) (cond (decide (a > b)) 1 0)
def nG (a b : Str) : Int := cond (Op.bytesLess a b) (-1) (cond (!(Op.bytesLess a b || a == b)) 1 0)
def aB (a b : Str) : Int := cond (decide (zO a ≥ 0) && decide (zO b ≥ 0)) (x9 (zO a) (zO b)) (cond (decide (zO a ≥ 0)) (-1) (cond (decide (zO b ≥ 0)) 1 (nG a b)))
/-- the first place at which parts differ -/
def rz : List Str → List Str → Option Int
  | a :: l, b :: m => cond (aB a b == 0) (rz l m) (some (aB a b))
  | _, _ => none
def Uk (a b : List Str) : Int := (rz a b).getD (x9 (a.length : Int) (b.length : Int))
def rE (a b : Ver) : Int :=
  cond (x9 a.maj b.maj == 0) (cond (x9 a.min b.min == 0) (cond (x9 a.pat b.pat == 0)
    (cond (a.pre == [] || b.pre == []) (x9 (b.pre.length : Int) (a.pre.length : Int)) (Uk a.pre b.pre))
    (x9 a.pat b.pat)) (x9 a.min b.min)) (x9 a.maj b.maj)
theorem uk (a b : Int) : (x9 a b == 0) = (a == b) := by
  unfold x9
  by_cases h1 : a < b
  · simp [h1]; omega
  · by_cases h2 : a > b
    · simp [h1, h2]; omega
    · simp [h1, h2]; omega
theorem uz (a b c a' b' c' : Int) : (rE ⟨a, b, c, []⟩ ⟨a', b', c', []⟩ == 0) = (a == a' && (b == b' && c == c')) := by
  unfold rE
  simp only [uk]
  cases h1 : (a == a') with
  | false => simp only [cond_false]; rw [uk, h1]; rfl
  | true =>
    cases h2 : (b == b') with
    | false => simp only [cond_true, cond_false]; rw [uk, h2]; rfl
    | true =>
      cases h3 : (c == c') with
      | false => simp only [cond_true, cond_false]; rw [uk, h3]; rfl
      | true => rfl
def yY (v : Ver) : Ver := ⟨v.maj, v.min, v.pat, []⟩
def vi (v : Ver) (part : Int) : Str × Bool := cond (rE (wM (yY v) part) (yY v) == 0) ([], false) (yb ⟨(wM (yY v) part).maj, (wM (yY v) part).min, (wM (yY v) part).pat, [[48]]⟩, true)
theorem UF : wi [48] = true := by
  unfold wi
  have h1 : ([48] : Str).all preB = true := by decide
  have h2 : decide (0 ≤ zO [48]) = true := by
    have := (vu (u := 0) (by omega)).1
    rw [show Lib.decDigits 0 = [48] by rw [Lib.decDigits_one (by omega)]; rfl] at this
    rw [this]; rfl
  rw [h1, h2]; simp
theorem eL (v : Ver) : yv (yY v) = (n9 v.maj && (n9 v.min && n9 v.pat)) := by simp [yv, yY]
theorem vz (a b c : Int) : yv ⟨a, b, c, [[48]]⟩ = (n9 a && (n9 b && n9 c)) := by simp [yv, UF]
theorem uJ (a b c : Int) : (ye a b c == []) = !(n9 a && (n9 b && n9 c)) := by
  unfold ye yb
  rw [vz]
  cases (n9 a && (n9 b && n9 c)) with
  | false => rfl
  | true => simp [w6, vc]
/-- the next one of a part is told by both in one way -/
theorem vI {v : Ver} (ho : yv v = true) (part : Int) (hp : part = 0 ∨ part = 1 ∨ part = 2) :
    vi v part = (let h := ye (cond (part == 0) (v.maj + 1) v.maj) (cond (part == 0) 0 (cond (part == 1) (v.min + 1) v.min)) (cond (part == 2) (v.pat + 1) 0); (h, !(h == []))) := by
  obtain ⟨h1, h2, h3, _, _⟩ := xZ ho
  have hb : yv (yY v) = true := by
    rw [eL]; simp only [Bool.and_eq_true, pe]; exact ⟨h1, h2, h3⟩
  have n1 : n9 v.maj = true := (pe _).2 h1
  have n2 : n9 v.min = true := (pe _).2 h2
  have n3 : n9 v.pat = true := (pe _).2 h3
  have n0 : n9 0 = true := by decide
  unfold vi wM
  rw [hb]
  rcases hp with rfl | rfl | rfl
  · have e : upV (yY v) 0 = ⟨v.maj + 1, 0, 0, []⟩ := rfl
    rw [e]
    simp only [Bool.not_true, Bool.false_or, show B2 0 0 2 = true from rfl, cond_false]
    rw [show yv ⟨v.maj + 1, 0, 0, []⟩ = n9 (v.maj + 1) by simp [yv, n0]]
    simp only [show ((0 : Int) == 0) = true from rfl, cond_true, show ((0 : Int) == 2) = false from rfl, cond_false]
    rw [uJ, n0]
    cases hn : n9 (v.maj + 1) with
    | true =>
      have : (v.maj + 1 == v.maj) = false := by rw [beq_eq_false_iff_ne]; omega
      simp only [cond_true, yY, uz, this]
      simp [ye]
    | false =>
      simp [uz, ye, yb, vz, hn, yY]
  · have e : upV (yY v) 1 = ⟨v.maj, v.min + 1, 0, []⟩ := rfl
    rw [e]
    simp only [Bool.not_true, Bool.false_or, show B2 1 0 2 = true from rfl, cond_false]
    rw [show yv ⟨v.maj, v.min + 1, 0, []⟩ = n9 (v.min + 1) by simp [yv, n0, n1]]
    simp only [show ((1 : Int) == 0) = false from rfl, show ((1 : Int) == 1) = true from rfl, cond_true, show ((1 : Int) == 2) = false from rfl, cond_false]
    rw [uJ, n0, n1]
    cases hn : n9 (v.min + 1) with
    | true =>
      have : (v.min + 1 == v.min) = false := by rw [beq_eq_false_iff_ne]; omega
      simp only [cond_true, yY, uz, this]
      simp [ye]
    | false =>
      simp [uz, ye, yb, vz, hn, yY]
  · have e : upV (yY v) 2 = ⟨v.maj, v.min, v.pat + 1, []⟩ := rfl
    rw [e]
    simp only [Bool.not_true, Bool.false_or, show B2 2 0 2 = true from rfl, cond_false]
    rw [show yv ⟨v.maj, v.min, v.pat + 1, []⟩ = n9 (v.pat + 1) by simp [yv, n1, n2]]
    simp only [show ((2 : Int) == 0) = false from rfl, show ((2 : Int) == 1) = false from rfl, cond_true, show ((2 : Int) == 2) = true from rfl, cond_false]
    rw [uJ, n1, n2]
    cases hn : n9 (v.pat + 1) with
    | true =>
      have : (v.pat + 1 == v.pat) = false := by rw [beq_eq_false_iff_ne]; omega
      simp only [cond_true, yY, uz, this]
      simp [ye]
    | false =>
      simp [uz, ye, yb, vz, hn, yY]
end Go.Proofs.YtmcephnfcciloaaGreatDoor
/- Numbers' texts, by both. Conditions: those of each lemma. -/
namespace Go.Proofs.YtmcephnfcciloaaGreatDoor
open E
set_option linter.unusedSimpArgs false
set_option linter.unusedVariables false
set_option maxRecDepth 100000
theorem nr : ∀ (k u : Nat), 1 ≤ k → u < 10 ^ k → Lib.nDigits u ≤ k
  | 0, u, h, _ => by omega
  | k + 1, u, _, h => by
    rw [Lib.nDigits]
    split
    · omega
    · have h10 : u / 10 < 10 ^ k := by rw [Nat.pow_succ] at h; omega
      have hk : 1 ≤ k := by
        rcases Nat.eq_zero_or_pos k with rfl | h
        · simp at h10; omega
        · exact h
      have := nr k (u / 10) hk h10
      omega
theorem wu (n : Int) (h0 : 0 ≤ n) (h1 : n ≤ 999999999) : (Lib.itoa n).length ≤ 9 := by
  obtain ⟨u, rfl⟩ : ∃ u : Nat, n = u := ⟨n.toNat, by omega⟩
  rw [Lib.itoa_nonneg, Lib.decDigits_length]
  exact nr 9 u (by omega) (by omega)
theorem jV (n : Int) (h0 : 0 ≤ n) (h1 : n ≤ 999999999) : zE (EV Tryz.prog pol) 163 [.t (.int .i64 n)] = some (.t (.str (Lib.itoa n))) := by
  have h := SO n (by omega) (by omega)
  apply zu
  refine zw rfl Tryz.func163 rfl (by kernel_rfl) ?_
  unfold Tryz.f163
  simp only [↓GO, ↓DRW, GA, ren, zB, zf, refs, zb, cst, zl, zH, z7, E.load, E.store, zG, isC, bin, zI, zJ, una, z8, za, zh, zK, blt, fnV, asArg, zd, zn, zo, zj, zi, zg, zk, zr, z6, zD, zF, mkS, zc, unN, zM, zm, zy, zC, ze, zN, zq, GS, Int.reduceToNat, Nat.reduceGT, ↓reduceIte, Nat.reduceAdd, Nat.reduceMul, Nat.reduceSub, Nat.reduceEqDiff, Nat.reduceLeDiff, Nat.reduceLT, Nat.reduceBEq, Int.reduceBEq, Int.reduceBNe, Int.reduceEq, Int.reduceLT, Int.reduceLE, Int.reduceGT, Int.reduceNeg, reduceCtorEq, h]
/-- the digits of a number, none for 0 -/
def au (m : Nat) : Str := if m = 0 then [] else Lib.decDigits m
theorem Zr (m : Nat) (h : m ≠ 0) : au m = au (m / 10) ++ [UInt8.ofNat (48 + m % 10)] := by
  unfold au
  rw [if_neg h]
  by_cases h10 : m < 10
  · rw [if_pos (by omega), Lib.decDigits_one h10, show m % 10 = m by omega]; rfl
  · rw [if_neg (by omega)]
    conv => lhs; rw [Lib.decDigits]
    rw [dif_neg h10]
theorem Xt (d : Nat) (h : d < 10) : (List.drop d [48, 49, 50, 51, 52, 53, 54, 55, 56, 57]).take (d + 1 - d) = [UInt8.ofNat (48 + d)] := by
  have : d = 0 ∨ d = 1 ∨ d = 2 ∨ d = 3 ∨ d = 4 ∨ d = 5 ∨ d = 6 ∨ d = 7 ∨ d = 8 ∨ d = 9 := by omega
  rcases this with rfl | rfl | rfl | rfl | rfl | rfl | rfl | rfl | rfl | rfl <;> rfl
theorem S4 (n : Int) : ∀ (N m : Nat) (out : Str), m ≤ N → m ≤ 999999999 → out.length + m ≤ 1000000000 →
    EV Tryz.prog pol (.loop 152 124 0 [.t (.int .i64 n), .t (.str out), .t (.int .i64 (m : Int))] [])
    = some (.loop (.exit 0) [.t (.int .i64 n), .t (.str (au m ++ out))] [])
  | N, 0, out, h, h1, h2 => by
    refine zz Tryz.func152 rfl rfl ?_
    simp only [↓GO, ↓DRW, GA, ren, zB, zf, refs, zb, cst, zl, zH, z7, E.load, E.store, zG, isC, bin, zI, zJ, una, z8, za, zh, zK, blt, fnV, asArg, zd, zn, zo, zj, zi, zg, zk, zr, z6, zD, zF, mkS, zc, unN, zM, zm, zy, zC, ze, zN, zq, GS, Int.reduceToNat, Nat.reduceGT, ↓reduceIte, Nat.reduceAdd, Nat.reduceMul, Nat.reduceSub, Nat.reduceEqDiff, Nat.reduceLeDiff, Nat.reduceLT, Nat.reduceBEq, Int.reduceBEq, Int.reduceBNe, Int.reduceEq, Int.reduceLT, Int.reduceLE, Int.reduceGT, Int.reduceNeg, reduceCtorEq, Int.natCast_zero, bne_self_eq_false, au, if_true]
  | 0, m + 1, out, h, h1, h2 => by omega
  | N + 1, m + 1, out, h, h1, h2 => by
    generalize hm : m + 1 = x at *
    have c : (((x : Nat) : Int) == 0) = false := by simp; omega
    have e1 : ((x : Nat) : Int).tmod 10 = ((x % 10 : Nat) : Int) := (Int.ofNat_tmod x 10).symm
    have e2 : ((x : Nat) : Int).tdiv 10 = ((x / 10 : Nat) : Int) := (Int.ofNat_tdiv x 10).symm
    have hd : x % 10 < 10 := Nat.mod_lt _ (by omega)
    have c2 : decide (((x % 10 : Nat) : Int) < 0) = false := by simp only [decide_eq_false_iff_not]; omega
    have hdig := Xt (x % 10) hd
    have IH := S4 n N (x / 10) (UInt8.ofNat (48 + x % 10) :: out) (by omega) (by omega) (by simp only [List.length_cons]; omega)
    rw [Zr x (by omega), List.append_assoc]
    rw [show [UInt8.ofNat (48 + x % 10)] ++ out = UInt8.ofNat (48 + x % 10) :: out from rfl]
    generalize UInt8.ofNat (48 + x % 10) = bd at *
    have w1 : IntKind.i64.wrap (((x % 10 : Nat) : Int) + 1) = ((x % 10 + 1 : Nat) : Int) := by rw [zx (by omega)]; omega
    have w2 : IntKind.i64.wrap ((x / 10 : Nat) : Int) = ((x / 10 : Nat) : Int) := zx (by omega)
    generalize x % 10 = xd at *
    generalize x / 10 = xq at *
    refine zz Tryz.func152 rfl rfl ?_
    simp (disch := ((try simp only [LL]); omega)) only [↓GO, ↓DRW, GA, ren, zB, zf, refs, zb, cst, zl, zH, z7, E.load, E.store, zG, isC, bin, zI, zJ, una, z8, za, zh, zK, blt, fnV, asArg, zd, zn, zo, zj, zi, zg, zk, zr, z6, zD, zF, mkS, zc, unN, zM, zm, zy, zC, ze, zN, zq, GS, Int.reduceToNat, Nat.reduceGT, ↓reduceIte, Nat.reduceAdd, Nat.reduceMul, Nat.reduceSub, Nat.reduceEqDiff, Nat.reduceLeDiff, Nat.reduceLT, Nat.reduceBEq, Int.reduceBEq, Int.reduceBNe, Int.reduceEq, Int.reduceLT, Int.reduceLE, Int.reduceGT, Int.reduceNeg, reduceCtorEq, bne, c, e1, e2, c2, w1, w2, hdig, wc, IH]
theorem jU (n : Int) (h0 : 0 ≤ n) (h1 : n ≤ 999999999) : zE (EV Tryz.prog pol) 152 [.t (.int .i64 n)] = some (.t (.str (Lib.itoa n))) := by
  obtain ⟨u, rfl⟩ : ∃ u : Nat, n = u := ⟨n.toNat, by omega⟩
  have IH := S4 u u u [] (Nat.le_refl _) (by omega) (by simp; omega)
  rw [List.append_nil] at IH
  rw [Lib.itoa_nonneg]
  have c2 : decide ((u : Int) < 0) = false := by simp only [decide_eq_false_iff_not]; omega
  apply zu
  refine zw rfl Tryz.func152 rfl (by kernel_rfl) ?_
  unfold Tryz.f152
  by_cases hu : u = 0
  · subst hu
    rw [show Lib.decDigits 0 = [48] by rw [Lib.decDigits_one (by omega)]; rfl]
    simp only [↓GO, ↓DRW, GA, ren, zB, zf, refs, zb, cst, zl, zH, z7, E.load, E.store, zG, isC, bin, zI, zJ, una, z8, za, zh, zK, blt, fnV, asArg, zd, zn, zo, zj, zi, zg, zk, zr, z6, zD, zF, mkS, zc, unN, zM, zm, zy, zC, ze, zN, zq, GS, Int.reduceToNat, Nat.reduceGT, ↓reduceIte, Nat.reduceAdd, Nat.reduceMul, Nat.reduceSub, Nat.reduceEqDiff, Nat.reduceLeDiff, Nat.reduceLT, Nat.reduceBEq, Int.reduceBEq, Int.reduceBNe, Int.reduceEq, Int.reduceLT, Int.reduceLE, Int.reduceGT, Int.reduceNeg, reduceCtorEq, Int.natCast_zero]
  · have c : ((u : Int) == 0) = false := by simp; omega
    rw [show Lib.decDigits u = au u by simp [au, hu]]
    simp only [↓GO, ↓DRW, GA, ren, zB, zf, refs, zb, cst, zl, zH, z7, E.load, E.store, zG, isC, bin, zI, zJ, una, z8, za, zh, zK, blt, fnV, asArg, zd, zn, zo, zj, zi, zg, zk, zr, z6, zD, zF, mkS, zc, unN, zM, zm, zy, zC, ze, zN, zq, GS, Int.reduceToNat, Nat.reduceGT, ↓reduceIte, Nat.reduceAdd, Nat.reduceMul, Nat.reduceSub, Nat.reduceEqDiff, Nat.reduceLeDiff, Nat.reduceLT, Nat.reduceBEq, Int.reduceBEq, Int.reduceBNe, Int.reduceEq, Int.reduceLT, Int.reduceLE, Int.reduceGT, Int.reduceNeg, reduceCtorEq, c, IH, c2]
end Go.Proofs.YtmcephnfcciloaaGreatDoor
/- The number of a text, by both. Conditions: those of each lemma. -/
namespace Go.Proofs.YtmcephnfcciloaaGreatDoor
open E
set_option linter.unusedSimpArgs false
set_option linter.unusedVariables false
set_option maxRecDepth 100000
theorem cI (c : UInt8) : B2 (c.toNat : Int) 48 57 = isD c := by
  unfold B2 isD
  congr 1 <;> rw [decide_eq_decide] <;> omega
theorem mQ (s : Str) (hl : s.length ≤ 281474976710656) : zE (EV Tryz.prog pol) 135 [.t (.str s)] = some (.t (.int .i64 (zO s))) := by
  have hat := SQ s hl
  apply zu
  refine zw rfl Tryz.func135 rfl (by kernel_rfl) ?_
  unfold Tryz.f135
  unfold zO
  cases ha : Lib.atoiAll s with
  | range => rw [ha] at hat; simp only at hat ⊢; simp (disch := ((try simp only [LL]); omega)) only [↓GO, ↓DRW, GA, ren, zB, zf, refs, zb, cst, zl, zH, z7, E.load, E.store, zG, isC, bin, zI, zJ, una, z8, za, zh, zK, blt, fnV, asArg, zd, zn, zo, zj, zi, zg, zk, zr, z6, zD, zF, mkS, zc, unN, zM, zm, zy, zC, ze, zN, zq, GS, Int.reduceToNat, Nat.reduceGT, ↓reduceIte, Nat.reduceAdd, Nat.reduceMul, Nat.reduceSub, Nat.reduceEqDiff, Nat.reduceLeDiff, Nat.reduceLT, Nat.reduceBEq, Int.reduceBEq, Int.reduceBNe, Int.reduceEq, Int.reduceLT, Int.reduceLE, Int.reduceGT, Int.reduceNeg, reduceCtorEq, hat]
  | ok v =>
    rw [ha] at hat
    simp only at hat ⊢
    have hw := uA v 0 999999999
    rw [show B2 v 0 999999999 = (decide (0 ≤ v) && decide (v ≤ 999999999)) from rfl] at hw
    cases hb : (decide (0 ≤ v) && decide (v ≤ 999999999)) with
    | false => rw [hb] at hw; simp (disch := ((try simp only [LL]); omega)) only [↓GO, ↓DRW, GA, ren, zB, zf, refs, zb, cst, zl, zH, z7, E.load, E.store, zG, isC, bin, zI, zJ, una, z8, za, zh, zK, blt, fnV, asArg, zd, zn, zo, zj, zi, zg, zk, zr, z6, zD, zF, mkS, zc, unN, zM, zm, zy, zC, ze, zN, zq, GS, Int.reduceToNat, Nat.reduceGT, ↓reduceIte, Nat.reduceAdd, Nat.reduceMul, Nat.reduceSub, Nat.reduceEqDiff, Nat.reduceLeDiff, Nat.reduceLT, Nat.reduceBEq, Int.reduceBEq, Int.reduceBNe, Int.reduceEq, Int.reduceLT, Int.reduceLE, Int.reduceGT, Int.reduceNeg, reduceCtorEq, hat, hw]
    | true =>
      rw [hb] at hw
      simp only [Bool.and_eq_true, decide_eq_true_eq] at hb
      have hd := jV v hb.1 hb.2
      cases he : (Lib.itoa v == s) <;> simp (disch := ((try simp only [LL]); omega)) only [↓GO, ↓DRW, GA, ren, zB, zf, refs, zb, cst, zl, zH, z7, E.load, E.store, zG, isC, bin, zI, zJ, una, z8, za, zh, zK, blt, fnV, asArg, zd, zn, zo, zj, zi, zg, zk, zr, z6, zD, zF, mkS, zc, unN, zM, zm, zy, zC, ze, zN, zq, GS, Int.reduceToNat, Nat.reduceGT, ↓reduceIte, Nat.reduceAdd, Nat.reduceMul, Nat.reduceSub, Nat.reduceEqDiff, Nat.reduceLeDiff, Nat.reduceLT, Nat.reduceBEq, Int.reduceBEq, Int.reduceBNe, Int.reduceEq, Int.reduceLT, Int.reduceLE, Int.reduceGT, Int.reduceNeg, reduceCtorEq, bne, hat, hw, hd, he]
  | _ => rw [ha] at hat; simp only at hat ⊢; simp (disch := ((try simp only [LL]); omega)) only [↓GO, ↓DRW, GA, ren, zB, zf, refs, zb, cst, zl, zH, z7, E.load, E.store, zG, isC, bin, zI, zJ, una, z8, za, zh, zK, blt, fnV, asArg, zd, zn, zo, zj, zi, zg, zk, zr, z6, zD, zF, mkS, zc, unN, zM, zm, zy, zC, ze, zN, zq, GS, Int.reduceToNat, Nat.reduceGT, ↓reduceIte, Nat.reduceAdd, Nat.reduceMul, Nat.reduceSub, Nat.reduceEqDiff, Nat.reduceLeDiff, Nat.reduceLT, Nat.reduceBEq, Int.reduceBEq, Int.reduceBNe, Int.reduceEq, Int.reduceLT, Int.reduceLE, Int.reduceGT, Int.reduceNeg, reduceCtorEq, hat]
theorem S0 (s : Str) (hl : s.length ≤ 9) : ∀ (rest pre : Str), s = pre ++ rest → pre.all isD = true →
    ∃ m : V, EV Tryz.prog pol (.loop 114 58 0 [.t (.str s), .t (.int .i64 (ub 0 pre : Nat)), .t (.int .i64 (pre.length : Int))] [])
    = some (cond (rest.all isD) (.loop (.exit 0) [.t (.str s), .bad, .t (.int .i64 (ub 0 s : Nat))] []) (.loop .ret [.t (.str s), .t (.int .i64 (-1)), m] []))
  | [], pre, hs, hd => by
    have c : decide ((pre.length : Int) < (s.length : Int)) = false := by simp [hs]
    have hp : s = pre := by simpa using hs
    refine ⟨.bad, zz Tryz.func114 rfl rfl ?_⟩
    simp only [↓GO, ↓DRW, GA, ren, zB, zf, refs, zb, cst, zl, zH, z7, E.load, E.store, zG, isC, bin, zI, zJ, una, z8, za, zh, zK, blt, fnV, asArg, zd, zn, zo, zj, zi, zg, zk, zr, z6, zD, zF, mkS, zc, unN, zM, zm, zy, zC, ze, zN, zq, GS, Int.reduceToNat, Nat.reduceGT, ↓reduceIte, Nat.reduceAdd, Nat.reduceMul, Nat.reduceSub, Nat.reduceEqDiff, Nat.reduceLeDiff, Nat.reduceLT, Nat.reduceBEq, Int.reduceBEq, Int.reduceBNe, Int.reduceEq, Int.reduceLT, Int.reduceLE, Int.reduceGT, Int.reduceNeg, reduceCtorEq, c]
    rw [hp]
  | b :: rest, pre, hs, hd => by
    have c : decide ((pre.length : Int) < (s.length : Int)) = true := by simp [hs]; omega
    have hget : s[pre.length]? = some b := by rw [hs]; exact tj pre b rest
    have hlen : s.length = pre.length + rest.length + 1 := by rw [hs]; simp; omega
    have hin := xL (b.toNat : Int) 48 57
    rw [cI] at hin
    have c9 : decide ((s.length : Int) > 9) = false := by simp only [decide_eq_false_iff_not]; omega
    have hv := oz pre 0 hd
    have hp10 : (10 : Nat) ^ pre.length ≤ 10 ^ 9 := Nat.pow_le_pow_right (by omega) (by omega)
    have e9 : (10 : Nat) ^ 9 = 1000000000 := by decide
    have hb8 := Ub b
    cases hb : isD b with
    | false =>
      rw [hb] at hin
      refine ⟨.t (.int .i64 (ub 0 pre : Nat)), zz Tryz.func114 rfl rfl ?_⟩
      clear hs hlen
      simp (disch := omega) only [↓GO, ↓DRW, GA, ren, zB, zf, refs, zb, cst, zl, zH, z7, E.load, E.store, zG, isC, bin, zI, zJ, una, z8, za, zh, zK, blt, fnV, asArg, zd, zn, zo, zj, zi, zg, zk, zr, z6, zD, zF, mkS, zc, unN, zM, zm, zy, zC, ze, zN, zq, GS, Int.reduceToNat, Nat.reduceGT, ↓reduceIte, Nat.reduceAdd, Nat.reduceMul, Nat.reduceSub, Nat.reduceEqDiff, Nat.reduceLeDiff, Nat.reduceLT, Nat.reduceBEq, Int.reduceBEq, Int.reduceBNe, Int.reduceEq, Int.reduceLT, Int.reduceLE, Int.reduceGT, Int.reduceNeg, reduceCtorEq, c, hget, zx, conv, wrap_u8, hin, List.all_cons, hb]
    | true =>
      rw [hb] at hin
      have hd2 : (pre ++ [b]).all isD = true := by rw [List.all_append, hd]; simp [hb]
      obtain ⟨m, IH⟩ := S0 s hl rest (pre ++ [b]) (by rw [hs]; simp) hd2
      have hbb := (qu b).1 hb
      have hst : ((ub 0 (pre ++ [b]) : Nat) : Int) = 10 * ((ub 0 pre : Nat) : Int) + (b.toNat : Int) - 48 := by
        rw [lb, ry]; omega
      rw [hst, show ((pre ++ [b]).length : Int) = (pre.length : Int) + 1 by simp] at IH
      have hpl : pre.length ≤ 9 := by omega
      generalize ub 0 pre = vp at *
      generalize ub 0 s = vs at *
      clear hs hlen hst
      refine ⟨m, zz Tryz.func114 rfl rfl ?_⟩
      simp (disch := omega) only [↓GO, ↓DRW, GA, ren, zB, zf, refs, zb, cst, zl, zH, z7, E.load, E.store, zG, isC, bin, zI, zJ, una, z8, za, zh, zK, blt, fnV, asArg, zd, zn, zo, zj, zi, zg, zk, zr, z6, zD, zF, mkS, zc, unN, zM, zm, zy, zC, ze, zN, zq, GS, Int.reduceToNat, Nat.reduceGT, ↓reduceIte, Nat.reduceAdd, Nat.reduceMul, Nat.reduceSub, Nat.reduceEqDiff, Nat.reduceLeDiff, Nat.reduceLT, Nat.reduceBEq, Int.reduceBEq, Int.reduceBNe, Int.reduceEq, Int.reduceLT, Int.reduceLE, Int.reduceGT, Int.reduceNeg, reduceCtorEq, c, hget, zx, conv, wrap_u8, hin, List.all_cons, hb, c9, IH]
theorem l_rdL (s : Str) (h9 : 9 < s.length) (hl : s.length ≤ 281474976710656) :
    EV Tryz.prog pol (.loop 114 58 0 [.t (.str s), .t (.int .i64 0), .t (.int .i64 0)] []) = some (.loop .ret [.t (.str s), .t (.int .i64 (-1)), .t (.int .i64 0)] []) := by
  cases s with
  | nil => simp at h9
  | cons b r =>
    have c : decide ((0 : Int) < ((b :: r).length : Int)) = true := by simp only [decide_eq_true_eq]; omega
    have c9 : decide (((b :: r).length : Int) > 9) = true := by simp only [decide_eq_true_eq]; omega
    have hget : (b :: r)[0]? = some b := rfl
    have hin := xL (b.toNat : Int) 48 57
    rw [cI] at hin
    have hb8 := Ub b
    generalize (b :: r) = s at *
    refine zz Tryz.func114 rfl rfl ?_
    cases hb : isD b with
    | false => rw [hb] at hin; simp (disch := omega) only [↓GO, ↓DRW, GA, ren, zB, zf, refs, zb, cst, zl, zH, z7, E.load, E.store, zG, isC, bin, zI, zJ, una, z8, za, zh, zK, blt, fnV, asArg, zd, zn, zo, zj, zi, zg, zk, zr, z6, zD, zF, mkS, zc, unN, zM, zm, zy, zC, ze, zN, zq, GS, Int.reduceToNat, Nat.reduceGT, ↓reduceIte, Nat.reduceAdd, Nat.reduceMul, Nat.reduceSub, Nat.reduceEqDiff, Nat.reduceLeDiff, Nat.reduceLT, Nat.reduceBEq, Int.reduceBEq, Int.reduceBNe, Int.reduceEq, Int.reduceLT, Int.reduceLE, Int.reduceGT, Int.reduceNeg, reduceCtorEq, c, ue, hget, zx, conv, wrap_u8, hin]
    | true => rw [hb] at hin; simp (disch := omega) only [↓GO, ↓DRW, GA, ren, zB, zf, refs, zb, cst, zl, zH, z7, E.load, E.store, zG, isC, bin, zI, zJ, una, z8, za, zh, zK, blt, fnV, asArg, zd, zn, zo, zj, zi, zg, zk, zr, z6, zD, zF, mkS, zc, unN, zM, zm, zy, zC, ze, zN, zq, GS, Int.reduceToNat, Nat.reduceGT, ↓reduceIte, Nat.reduceAdd, Nat.reduceMul, Nat.reduceSub, Nat.reduceEqDiff, Nat.reduceLeDiff, Nat.reduceLT, Nat.reduceBEq, Int.reduceBEq, Int.reduceBNe, Int.reduceEq, Int.reduceLT, Int.reduceLE, Int.reduceGT, Int.reduceNeg, reduceCtorEq, c, ue, hget, zx, conv, wrap_u8, hin, c9]
theorem ja (s : Str) (hl : s.length ≤ 281474976710656) : zE (EV Tryz.prog pol) 114 [.t (.str s)] = some (.t (.int .i64 (zO s))) := by
  rw [← Z0]
  apply zu
  refine zw rfl Tryz.func114 rfl (by kernel_rfl) ?_
  unfold Tryz.f114
  unfold su
  by_cases h9 : s.length ≤ 9
  · obtain ⟨m, IH⟩ := S0 s h9 s [] rfl rfl
    simp only [List.length_nil, Int.natCast_zero, nQ] at IH
    have e9 : decide (s.length ≤ 9) = true := by simpa using h9
    have hv := oz s 0
    have hp10 : (10 : Nat) ^ s.length ≤ 10 ^ 9 := Nat.pow_le_pow_right (by omega) h9
    have e10 : (10 : Nat) ^ 9 = 1000000000 := by decide
    cases ha : s.all isD with
    | false => rw [ha] at IH; simp only [cond_false] at IH; simp (disch := ((try simp only [LL]); omega)) only [↓GO, ↓DRW, GA, ren, zB, zf, refs, zb, cst, zl, zH, z7, E.load, E.store, zG, isC, bin, zI, zJ, una, z8, za, zh, zK, blt, fnV, asArg, zd, zn, zo, zj, zi, zg, zk, zr, z6, zD, zF, mkS, zc, unN, zM, zm, zy, zC, ze, zN, zq, GS, Int.reduceToNat, Nat.reduceGT, ↓reduceIte, Nat.reduceAdd, Nat.reduceMul, Nat.reduceSub, Nat.reduceEqDiff, Nat.reduceLeDiff, Nat.reduceLT, Nat.reduceBEq, Int.reduceBEq, Int.reduceBNe, Int.reduceEq, Int.reduceLT, Int.reduceLE, Int.reduceGT, Int.reduceNeg, reduceCtorEq, IH]
    | true =>
      rw [ha] at IH; simp only [cond_true] at IH
      have hv' := hv ha
      have hd := jU (ub 0 s : Nat) (by omega) (by omega)
      cases hn : (s == []) with
      | true => simp (disch := ((try simp only [LL]); omega)) only [↓GO, ↓DRW, GA, ren, zB, zf, refs, zb, cst, zl, zH, z7, E.load, E.store, zG, isC, bin, zI, zJ, una, z8, za, zh, zK, blt, fnV, asArg, zd, zn, zo, zj, zi, zg, zk, zr, z6, zD, zF, mkS, zc, unN, zM, zm, zy, zC, ze, zN, zq, GS, Int.reduceToNat, Nat.reduceGT, ↓reduceIte, Nat.reduceAdd, Nat.reduceMul, Nat.reduceSub, Nat.reduceEqDiff, Nat.reduceLeDiff, Nat.reduceLT, Nat.reduceBEq, Int.reduceBEq, Int.reduceBNe, Int.reduceEq, Int.reduceLT, Int.reduceLE, Int.reduceGT, Int.reduceNeg, reduceCtorEq, IH, e9, hn]
      | false =>
        cases he : (Lib.itoa (ub 0 s : Nat) == s) <;> simp (disch := ((try simp only [LL]); omega)) only [↓GO, ↓DRW, GA, ren, zB, zf, refs, zb, cst, zl, zH, z7, E.load, E.store, zG, isC, bin, zI, zJ, una, z8, za, zh, zK, blt, fnV, asArg, zd, zn, zo, zj, zi, zg, zk, zr, z6, zD, zF, mkS, zc, unN, zM, zm, zy, zC, ze, zN, zq, GS, Int.reduceToNat, Nat.reduceGT, ↓reduceIte, Nat.reduceAdd, Nat.reduceMul, Nat.reduceSub, Nat.reduceEqDiff, Nat.reduceLeDiff, Nat.reduceLT, Nat.reduceBEq, Int.reduceBEq, Int.reduceBNe, Int.reduceEq, Int.reduceLT, Int.reduceLE, Int.reduceGT, Int.reduceNeg, reduceCtorEq, bne, IH, e9, hn, hd, he]
  · have e9 : decide (s.length ≤ 9) = false := by simpa using h9
    have IH := l_rdL s (by omega) (by omega)
    simp (disch := ((try simp only [LL]); omega)) only [↓GO, ↓DRW, GA, ren, zB, zf, refs, zb, cst, zl, zH, z7, E.load, E.store, zG, isC, bin, zI, zJ, una, z8, za, zh, zK, blt, fnV, asArg, zd, zn, zo, zj, zi, zg, zk, zr, z6, zD, zF, mkS, zc, unN, zM, zm, zy, zC, ze, zN, zq, GS, Int.reduceToNat, Nat.reduceGT, ↓reduceIte, Nat.reduceAdd, Nat.reduceMul, Nat.reduceSub, Nat.reduceEqDiff, Nat.reduceLeDiff, Nat.reduceLT, Nat.reduceBEq, Int.reduceBEq, Int.reduceBNe, Int.reduceEq, Int.reduceLT, Int.reduceLE, Int.reduceGT, Int.reduceNeg, reduceCtorEq, IH, e9]
end Go.Proofs.YtmcephnfcciloaaGreatDoor

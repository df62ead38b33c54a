/- Joined: G1 S1 W5 P1 V1 N1 V2 N0 N2 K1. Conditions: those of each lemma. -/
import Derived.Test.YtijninlbpifonaaGreatDoorZH
import Derived.Test.YtijninlbpifonaaGreatDoorRows
import Derived.ProofKit
import Derived.ReadAgain
import Derived.Test.YtijninlbpifonaaGreatDoorZF
import Derived.Lib.SplitLaws
import Derived.Lib.ItoaMem
import Derived.Lib.AtoiAll
import Derived.Test.YtijninlbpifonaaGreatDoorZG
import Derived.Lib.Join
set_option linter.unusedVariables false
set_option linter.unusedSimpArgs false
namespace Go.Proofs.YtijninlbpifonaaGreatDoor
open E
set_option linter.unusedSimpArgs false
set_option linter.unusedVariables false
set_option maxRecDepth 100000
structure yh where
 alg : List UInt8
 bytes : List UInt8
def yh.enc (x : yh) : List T := [.str x.alg, .str x.bytes]
def yh.yb (l : List yh) : List (List T) := l.map yh.enc
def yh.yp (x : yh) : Nat := x.alg.length + x.bytes.length
def yh.ya : List yh → Nat
 | [] => 0
 | c :: cs => yh.yp c + yh.ya cs
def yh.ok (x : yh) : Prop := x.alg.length ≤ 9223372036854775807 ∧ x.bytes.length ≤ 9223372036854775807
theorem yh.ua (x : yh) : x.enc.length = 2 := rfl
theorem yh.vd (x : yh) : x.enc.take 2 = x.enc := rfl
theorem yh.zY (cs : List yh) : (yh.yb cs).length = cs.length := by simp [yh.yb]
theorem yh.yW (cs : List yh) (i : Nat) (h : i < cs.length) : (yh.yb cs)[i]? = some cs[i].enc := by simp [yh.yb, h]
theorem yh.xj (cs : List yh) (i : Nat) (h : i < cs.length) : yh.ya (cs.drop i) = cs[i].yp + yh.ya (cs.drop (i + 1)) := by
 rw [List.drop_eq_getElem_cons h]; rfl
theorem yh.yw : ∀ {cs : List yh} {c : yh}, c ∈ cs → c.yp ≤ yh.ya cs
 | c' :: cs, c, h => by
  simp only [yh.ya]
  rcases List.mem_cons.1 h with rfl | h
  · omega
  · have := yh.yw h; omega
def TK (x : yh) : Prop := ∀ n : Int, 0 ≤ n → n ≤ 1048576 → zE (EV Tryz.prog pol) 310 [.agg (x.enc.map .t), .t (.int .i64 n)] = some (.t (.int .i64 (left n x.yp)))
theorem R5 (x : yh) (ho : x.ok) : TK x := by
 obtain ⟨alg, bytes⟩ := x
 intro n h0 h1
 simp only [yh.ok] at ho
 simp only [yh.enc, List.map_cons, List.map_nil]
 apply zz
 refine zA rfl Tryz.func310 rfl (by kernel_rfl) ?_
 unfold Tryz.f310
 repeat' (first | (((first | with_reducible refine ur (fun hA => ?_) (fun hA => ?_) | with_reducible refine uq (fun hA => ?_) (fun hA => ?_)) <;> (try simp only [bne, Bool.not_eq_true', Bool.not_eq_false'] at hA) <;> (first | (have hP := Int.le_of_eq (eq_of_beq (α := Int) hA); have hQ := Int.le_of_eq (eq_of_beq (α := Int) hA).symm) | have hP := of_decide_eq_true hA | have hP := of_decide_eq_false hA | skip)) <;> (simp (disch := ((try simp only [LL]); omega)) only [↓GO, ↓DRW, GA, ren, zG, zd, refs, zb, cst, zl, zM, z7, E.load, E.store, zL, isC, bin, zN, zO, una, z8, za, zh, zP, blt, fnV, asArg, ze, zn, zo, zj, zm, zg, zk, zu, z6, zK, zJ, E.mkS, zc, unN, zQ, zi, zw, zq, zC, zI, zf, zR, zr, GS, simprocAttr, zB, bne, u7, xO, *])) | (simp (disch := ((try simp only [LL]); omega)) only [↓GO, ↓DRW, GA, ren, zG, zd, refs, zb, cst, zl, zM, z7, E.load, E.store, zL, isC, bin, zN, zO, una, z8, za, zh, zP, blt, fnV, asArg, ze, zn, zo, zj, zm, zg, zk, zu, z6, zK, zJ, E.mkS, zc, unN, zQ, zi, zw, zq, zC, zI, zf, zR, zr, GS, simprocAttr, zB, bne, u7, xO, *]))
 all_goals (refine tr ?_; simp only [yh.yp, and_true]; omega)
theorem eQ (cs : List yh) (hl : cs.length ≤ 9223372036854775807) (hc : ∀ c ∈ cs, TK c) : ∀ (d i : Nat) (n : Int), cs.length - i = d → i ≤ cs.length → 0 ≤ n → n ≤ 1048576 →
 (0 ≤ n - (yh.ya (cs.drop i) : Int) → EV Tryz.prog pol (.loop 255 122 0 [.t (.list 2 (yh.yb cs)), .t (.int .i64 n), .t (.int .i64 (i : Int))] []) = some (.loop (.exit 0) [.t (.int .i64 (n - (yh.ya (cs.drop i) : Int))), .bad] [])) ∧
 (n - (yh.ya (cs.drop i) : Int) < 0 → ∃ v, EV Tryz.prog pol (.loop 255 122 0 [.t (.list 2 (yh.yb cs)), .t (.int .i64 n), .t (.int .i64 (i : Int))] []) = some (.loop .ret [v, .t (.int .i64 (-1))] []))
 | 0, i, n, hd, hi, h0, h1 => by
  have hi' : i = cs.length := by omega
  subst hi'
  have hb : yh.ya (cs.drop cs.length) = 0 := by simp [yh.ya]
  rw [hb]
  refine ⟨fun _ => ?_, fun h => by omega⟩
  refine zD Tryz.func255 rfl rfl ?_
  have c : decide (((cs.length : Nat) : Int) < ((cs.length : Nat) : Int)) = false := by simp
  simp only [↓GO, ↓DRW, GA, ren, zG, zd, refs, zb, cst, zl, zM, z7, E.load, E.store, zL, isC, bin, zN, zO, una, z8, za, zh, zP, blt, fnV, asArg, ze, zn, zo, zj, zm, zg, zk, zu, z6, zK, zJ, E.mkS, zc, unN, zQ, zi, zw, zq, zC, zI, zf, zR, zr, GS, simprocAttr, yh.zY, c]
  simp
 | d + 1, i, n, hd, hi, h0, h1 => by
  have hlt : i < cs.length := by omega
  rw [yh.xj cs i hlt]
  have c : decide ((i : Int) < ((cs.length : Nat) : Int)) = true := by simp; omega
  have hcall := hc _ (List.getElem_mem hlt) n h0 h1
  have hget := yh.yW cs i hlt
  generalize hci : cs[i] = ci at hcall hget
  obtain ⟨alg, bytes⟩ := ci
  simp only [yh.enc, List.map_cons, List.map_nil] at hcall hget
  generalize hbu : (yh.mk alg bytes).yp = bu at hcall
  have IH := eQ cs hl hc d (i + 1) (n - (bu : Int)) (by omega) (by omega)
  have e1 : (i : Int) + 1 = ((i + 1 : Nat) : Int) := by omega
  by_cases hneg : n - (bu : Int) < 0
  · refine ⟨fun h => by omega, fun _ => ⟨.t (.int .i64 (-1)), ?_⟩⟩
    refine zD Tryz.func255 rfl rfl ?_
    have hle : left n bu = -1 := if_pos hneg
    rw [hle] at hcall
    simp (disch := omega) only [↓GO, ↓DRW, GA, ren, zG, zd, refs, zb, cst, zl, zM, z7, E.load, E.store, zL, isC, bin, zN, zO, una, z8, za, zh, zP, blt, fnV, asArg, ze, zn, zo, zj, zm, zg, zk, zu, z6, zK, zJ, E.mkS, zc, unN, zQ, zi, zw, zq, zC, zI, zf, zR, zr, GS, simprocAttr, yh.zY, c, hget, zB, hcall]
  · have hle : left n bu = n - (bu : Int) := if_neg hneg
    rw [hle] at hcall
    have c2 : decide (n - (bu : Int) < 0) = false := by simpa using hneg
    obtain ⟨I1, I2⟩ := IH (by omega) (by omega)
    refine ⟨fun h => ?_, fun h => ?_⟩
    · refine zD Tryz.func255 rfl rfl ?_
      simp (disch := omega) only [↓GO, ↓DRW, GA, ren, zG, zd, refs, zb, cst, zl, zM, z7, E.load, E.store, zL, isC, bin, zN, zO, una, z8, za, zh, zP, blt, fnV, asArg, ze, zn, zo, zj, zm, zg, zk, zu, z6, zK, zJ, E.mkS, zc, unN, zQ, zi, zw, zq, zC, zI, zf, zR, zr, GS, simprocAttr, yh.zY, c, hget, zB, hcall, c2, e1]
      rw [I1 (by omega), show n - (bu : Int) - (yh.ya (cs.drop (i + 1)) : Int) = n - ((bu + yh.ya (cs.drop (i + 1)) : Nat) : Int) by omega]
    · obtain ⟨v, hv⟩ := I2 (by omega)
      refine ⟨v, ?_⟩
      refine zD Tryz.func255 rfl rfl ?_
      simp (disch := omega) only [↓GO, ↓DRW, GA, ren, zG, zd, refs, zb, cst, zl, zM, z7, E.load, E.store, zL, isC, bin, zN, zO, una, z8, za, zh, zP, blt, fnV, asArg, ze, zn, zo, zj, zm, zg, zk, zu, z6, zK, zJ, E.mkS, zc, unN, zQ, zi, zw, zq, zC, zI, zf, zR, zr, GS, simprocAttr, yh.zY, c, hget, zB, hcall, c2, e1]
      exact hv
theorem VU (cs : List yh) (hl : cs.length ≤ 9223372036854775807) (hc : ∀ c ∈ cs, TK c) (n : Int) (h0 : 0 ≤ n) (h1 : n ≤ 1048576) :
 zE (EV Tryz.prog pol) 255 [.t (.list 2 (yh.yb cs)), .t (.int .i64 n)] = some (.t (.int .i64 (left n (cs.length + yh.ya cs)))) := by
 apply zz
 refine zA rfl Tryz.func255 rfl (by kernel_rfl) ?_
 unfold Tryz.f255
 by_cases hneg : n - (cs.length : Int) < 0
 · have c2 : decide (n - (cs.length : Int) < 0) = true := by simpa using hneg
   simp (disch := omega) only [↓GO, ↓DRW, GA, ren, zG, zd, refs, zb, cst, zl, zM, z7, E.load, E.store, zL, isC, bin, zN, zO, una, z8, za, zh, zP, blt, fnV, asArg, ze, zn, zo, zj, zm, zg, zk, zu, z6, zK, zJ, E.mkS, zc, unN, zQ, zi, zw, zq, zC, zI, zf, zR, zr, GS, simprocAttr, yh.zY, zB, c2]
   rw [left, if_pos (by omega)]
 · have c2 : decide (n - (cs.length : Int) < 0) = false := by simpa using hneg
   obtain ⟨I1, I2⟩ := eQ cs hl hc cs.length 0 (n - (cs.length : Int)) (by omega) (by omega) (by omega) (by omega)
   simp only [List.drop_zero, Int.natCast_zero] at I1 I2
   by_cases hn2 : n - (cs.length : Int) - (yh.ya cs : Int) < 0
   · obtain ⟨v, hv⟩ := I2 hn2
     simp (disch := omega) only [↓GO, ↓DRW, GA, ren, zG, zd, refs, zb, cst, zl, zM, z7, E.load, E.store, zL, isC, bin, zN, zO, una, z8, za, zh, zP, blt, fnV, asArg, ze, zn, zo, zj, zm, zg, zk, zu, z6, zK, zJ, E.mkS, zc, unN, zQ, zi, zw, zq, zC, zI, zf, zR, zr, GS, simprocAttr, yh.zY, zB, c2, hv]
     rw [left, if_pos (by omega)]
   · simp (disch := omega) only [↓GO, ↓DRW, GA, ren, zG, zd, refs, zb, cst, zl, zM, z7, E.load, E.store, zL, isC, bin, zN, zO, una, z8, za, zh, zP, blt, fnV, asArg, ze, zn, zo, zj, zm, zg, zk, zu, z6, zK, zJ, E.mkS, zc, unN, zQ, zi, zw, zq, zC, zI, zf, zR, zr, GS, simprocAttr, yh.zY, zB, c2, I1 (by omega)]
     rw [left, if_neg (by omega), show n - (cs.length : Int) - (yh.ya cs : Int) = n - ((cs.length + yh.ya cs : Nat) : Int) by omega]
def cp (x : yh) : Prop := zE (EV Tryz.prog pol) 312 [.agg (x.enc.map .t)] = some (.agg (x.enc.map .t))
theorem R3 (x : yh) (ho : x.yp ≤ 1048576) : cp x := by
 obtain ⟨alg, bytes⟩ := x
 simp only [yh.yp] at ho
 simp only [cp, yh.enc, List.map_cons, List.map_nil]
 apply zz
 refine zA rfl Tryz.func312 rfl (by kernel_rfl) ?_
 unfold Tryz.f312
 simp only [↓GO, ↓DRW, GA, ren, zG, zd, refs, zb, cst, zl, zM, z7, E.load, E.store, zL, isC, bin, zN, zO, una, z8, za, zh, zP, blt, fnV, asArg, ze, zn, zo, zj, zm, zg, zk, zu, z6, zK, zJ, E.mkS, zc, unN, zQ, zi, zw, zq, zC, zI, zf, zR, zr, GS, simprocAttr]
def WX : List T := [.str [], .str []]
theorem eP (cs : List yh) (hl : cs.length ≤ 1048576) (hc : ∀ c ∈ cs, cp c) : ∀ (d i : Nat), cs.length - i = d → i ≤ cs.length →
 EV Tryz.prog pol (.loop 259 58 0 [.t (.list 2 (yh.yb cs)), .sl 0 0 cs.length (some cs.length), .t (.int .i64 (i : Int))] [.ts 2 (wj (yh.yb cs) WX i)]) = some (.loop (.exit 0) [.sl 0 0 cs.length (some cs.length)] [.ts 2 (yh.yb cs)])
 | 0, i, hd, hi => by
  have hi' : i = cs.length := by omega
  subst hi'
  refine zD Tryz.func259 rfl rfl ?_
  have c : decide (((cs.length : Nat) : Int) < ((cs.length : Nat) : Int)) = false := by simp
  have hf : wj (yh.yb cs) WX cs.length = yh.yb cs := by rw [← yh.zY cs]; exact pY _ _
  simp only [↓GO, ↓DRW, GA, ren, zG, zd, refs, zb, cst, zl, zM, z7, E.load, E.store, zL, isC, bin, zN, zO, una, z8, za, zh, zP, blt, fnV, asArg, ze, zn, zo, zj, zm, zg, zk, zu, z6, zK, zJ, E.mkS, zc, unN, zQ, zi, zw, zq, zC, zI, zf, zR, zr, GS, simprocAttr, yh.zY, c, hf]
 | d + 1, i, hd, hi => by
  have hlt : i < cs.length := by omega
  have hlt' : i < (yh.yb cs).length := by rw [yh.zY]; exact hlt
  have c : decide ((i : Int) < ((cs.length : Nat) : Int)) = true := by simp; omega
  have c0 : decide ((0 : Int) ≤ (i : Int)) = true := by simp
  have IH := eP cs hl hc d (i + 1) (by omega) (by omega)
  have e1 : (i : Int) + 1 = ((i + 1 : Nat) : Int) := by omega
  have hg : (wj (yh.yb cs) WX i)[i]? = some [.str [], .str []] := pX (yh.yb cs) WX i hlt'
  have hs := pW (yh.yb cs) WX i hlt'
  have hx : (yh.yb cs)[i] = cs[i].enc := by simp [yh.yb]
  rw [hx] at hs
  have hcall := hc _ (List.getElem_mem hlt)
  have hget := yh.yW cs i hlt
  generalize hci : cs[i] = ci at hcall hget hs
  obtain ⟨alg, bytes⟩ := ci
  simp only [cp, yh.enc, List.map_cons, List.map_nil] at hcall hget hs
  refine zD Tryz.func259 rfl rfl ?_
  simp (disch := omega) only [↓GO, ↓DRW, GA, ren, zG, zd, refs, zb, cst, zl, zM, z7, E.load, E.store, zL, isC, bin, zN, zO, una, z8, za, zh, zP, blt, fnV, asArg, ze, zn, zo, zj, zm, zg, zk, zu, z6, zK, zJ, E.mkS, zc, unN, zQ, zi, zw, zq, zC, zI, zf, zR, zr, GS, simprocAttr, yh.zY, c, c0, hget, zB, e1, hg, Int.toNat_natCast, hcall, hs]
  exact IH
def cq (x : yh) : Prop := zE (EV Tryz.prog pol) 321 [.agg (x.enc.map .t), .agg (x.enc.map .t)] = some (.t (.bool true))
theorem Re (x : yh) (ho : x.yp ≤ 4194304) : cq x := by
 obtain ⟨alg, bytes⟩ := x
 simp only [yh.yp] at ho
 simp only [cq, yh.enc, List.map_cons, List.map_nil]
 apply zz
 refine zA rfl Tryz.func321 rfl (by kernel_rfl) ?_
 unfold Tryz.f321
 simp only [↓GO, ↓DRW, GA, ren, zG, zd, refs, zb, cst, zl, zM, z7, E.load, E.store, zL, isC, bin, zN, zO, una, z8, za, zh, zP, blt, fnV, asArg, ze, zn, zo, zj, zm, zg, zk, zu, z6, zK, zJ, E.mkS, zc, unN, zQ, zi, zw, zq, zC, zI, zf, zR, zr, GS, simprocAttr, bne_self_eq_false]
theorem eS (cs : List yh) (hl : cs.length ≤ 4194304) (hc : ∀ c ∈ cs, cq c) : ∀ (d i : Nat), cs.length - i = d → i ≤ cs.length →
 EV Tryz.prog pol (.loop 261 58 0 [.t (.list 2 (yh.yb cs)), .t (.list 2 (yh.yb cs)), .t (.int .i64 (i : Int))] []) = some (.loop (.exit 0) [.bad] [])
 | 0, i, hd, hi => by
  have hi' : i = cs.length := by omega
  subst hi'
  refine zD Tryz.func261 rfl rfl ?_
  have c : decide (((cs.length : Nat) : Int) < ((cs.length : Nat) : Int)) = false := by simp
  simp only [↓GO, ↓DRW, GA, ren, zG, zd, refs, zb, cst, zl, zM, z7, E.load, E.store, zL, isC, bin, zN, zO, una, z8, za, zh, zP, blt, fnV, asArg, ze, zn, zo, zj, zm, zg, zk, zu, z6, zK, zJ, E.mkS, zc, unN, zQ, zi, zw, zq, zC, zI, zf, zR, zr, GS, simprocAttr, yh.zY, c]
 | d + 1, i, hd, hi => by
  have hlt : i < cs.length := by omega
  have c : decide ((i : Int) < ((cs.length : Nat) : Int)) = true := by simp; omega
  have IH := eS cs hl hc d (i + 1) (by omega) (by omega)
  have e1 : (i : Int) + 1 = ((i + 1 : Nat) : Int) := by omega
  have hcall := hc _ (List.getElem_mem hlt)
  have hget := yh.yW cs i hlt
  generalize hci : cs[i] = ci at hcall hget
  obtain ⟨alg, bytes⟩ := ci
  simp only [cq, yh.enc, List.map_cons, List.map_nil] at hcall hget
  refine zD Tryz.func261 rfl rfl ?_
  simp (disch := omega) only [↓GO, ↓DRW, GA, ren, zG, zd, refs, zb, cst, zl, zM, z7, E.load, E.store, zL, isC, bin, zN, zO, una, z8, za, zh, zP, blt, fnV, asArg, ze, zn, zo, zj, zm, zg, zk, zu, z6, zK, zJ, E.mkS, zc, unN, zQ, zi, zw, zq, zC, zI, zf, zR, zr, GS, simprocAttr, yh.zY, c, hget, zB, e1, hcall]
  exact IH
theorem U2 (cs : List yh) (hl : cs.length ≤ 4194304) (hc : ∀ c ∈ cs, cq c) : zE (EV Tryz.prog pol) 261 [.t (.list 2 (yh.yb cs)), .t (.list 2 (yh.yb cs))] = some (.t (.bool true)) := by
 apply zz
 refine zA rfl Tryz.func261 rfl (by kernel_rfl) ?_
 unfold Tryz.f261
 have IH := eS cs hl hc cs.length 0 (by omega) (by omega)
 simp only [Int.natCast_zero] at IH
 simp only [↓GO, ↓DRW, GA, ren, zG, zd, refs, zb, cst, zl, zM, z7, E.load, E.store, zL, isC, bin, zN, zO, una, z8, za, zh, zP, blt, fnV, asArg, ze, zn, zo, zj, zm, zg, zk, zu, z6, zK, zJ, E.mkS, zc, unN, zQ, zi, zw, zq, zC, zI, zf, zR, zr, GS, simprocAttr, yh.zY, IH, bne_self_eq_false]
structure zX where
 name : List UInt8
 version : List UInt8
 source : List UInt8
 sums : List yh
 dev : Bool
 needs : List (List UInt8)
def zX.enc (x : zX) : List T := [.str x.name, .str x.version, .str x.source, .list 2 (yh.yb x.sums), .bool x.dev, .list 1 (strs x.needs)]
def zX.yb (l : List zX) : List (List T) := l.map zX.enc
def zX.yp (x : zX) : Nat := x.name.length + x.version.length + x.source.length + (x.sums.length + yh.ya x.sums) + (x.needs.length + yj x.needs)
def zX.ya : List zX → Nat
 | [] => 0
 | c :: cs => zX.yp c + zX.ya cs
def zX.ok (x : zX) : Prop := x.name.length ≤ 9223372036854775807 ∧ x.version.length ≤ 9223372036854775807 ∧ x.source.length ≤ 9223372036854775807 ∧ x.sums.length ≤ 9223372036854775807 ∧ (∀ y ∈ x.sums, y.ok) ∧ x.needs.length ≤ 9223372036854775807 ∧ (∀ s ∈ x.needs, s.length ≤ 9223372036854775807)
theorem zX.ua (x : zX) : x.enc.length = 6 := rfl
theorem zX.vd (x : zX) : x.enc.take 6 = x.enc := rfl
theorem zX.zY (cs : List zX) : (zX.yb cs).length = cs.length := by simp [zX.yb]
theorem zX.yW (cs : List zX) (i : Nat) (h : i < cs.length) : (zX.yb cs)[i]? = some cs[i].enc := by simp [zX.yb, h]
theorem zX.xj (cs : List zX) (i : Nat) (h : i < cs.length) : zX.ya (cs.drop i) = cs[i].yp + zX.ya (cs.drop (i + 1)) := by
 rw [List.drop_eq_getElem_cons h]; rfl
theorem zX.yw : ∀ {cs : List zX} {c : zX}, c ∈ cs → c.yp ≤ zX.ya cs
 | c' :: cs, c, h => by
  simp only [zX.ya]
  rcases List.mem_cons.1 h with rfl | h
  · omega
  · have := zX.yw h; omega
def Z0 (x : zX) : Prop := ∀ n : Int, 0 ≤ n → n ≤ 1048576 → zE (EV Tryz.prog pol) 189 [.agg (x.enc.map .t), .t (.int .i64 n)] = some (.t (.int .i64 (left n x.yp)))
theorem VV (x : zX) (ho : x.ok) : Z0 x := by
 obtain ⟨name, version, source, sums, dev, needs⟩ := x
 intro n h0 h1
 simp only [zX.ok] at ho
 simp only [zX.enc, List.map_cons, List.map_nil]
 apply zz
 refine zA rfl Tryz.func189 rfl (by kernel_rfl) ?_
 unfold Tryz.f189
 have k_sums := VU sums (by first | exact ho.1 | simp_all) (fun c hc => R5 c (by simp_all))
 have k_needs := vX needs (by first | exact ho.1 | simp_all) (by first | exact ho.2 | simp_all)
 repeat' (first | (((first | with_reducible refine ur (fun hA => ?_) (fun hA => ?_) | with_reducible refine uq (fun hA => ?_) (fun hA => ?_)) <;> (try simp only [bne, Bool.not_eq_true', Bool.not_eq_false'] at hA) <;> (first | (have hP := Int.le_of_eq (eq_of_beq (α := Int) hA); have hQ := Int.le_of_eq (eq_of_beq (α := Int) hA).symm) | have hP := of_decide_eq_true hA | have hP := of_decide_eq_false hA | skip)) <;> (simp (disch := ((try simp only [LL]); omega)) only [↓GO, ↓DRW, GA, ren, zG, zd, refs, zb, cst, zl, zM, z7, E.load, E.store, zL, isC, bin, zN, zO, una, z8, za, zh, zP, blt, fnV, asArg, ze, zn, zo, zj, zm, zg, zk, zu, z6, zK, zJ, E.mkS, zc, unN, zQ, zi, zw, zq, zC, zI, zf, zR, zr, GS, simprocAttr, zB, bne, u7, xO, k_sums, k_needs, *])) | (simp (disch := ((try simp only [LL]); omega)) only [↓GO, ↓DRW, GA, ren, zG, zd, refs, zb, cst, zl, zM, z7, E.load, E.store, zL, isC, bin, zN, zO, una, z8, za, zh, zP, blt, fnV, asArg, ze, zn, zo, zj, zm, zg, zk, zu, z6, zK, zJ, E.mkS, zc, unN, zQ, zi, zw, zq, zC, zI, zf, zR, zr, GS, simprocAttr, zB, bne, u7, xO, k_sums, k_needs, *]))
 all_goals (refine tr ?_; simp only [zX.yp, and_true]; omega)
theorem j4 (cs : List zX) (hl : cs.length ≤ 9223372036854775807) (hc : ∀ c ∈ cs, Z0 c) : ∀ (d i : Nat) (n : Int), cs.length - i = d → i ≤ cs.length → 0 ≤ n → n ≤ 1048576 →
 (0 ≤ n - (zX.ya (cs.drop i) : Int) → EV Tryz.prog pol (.loop 87 122 0 [.t (.list 6 (zX.yb cs)), .t (.int .i64 n), .t (.int .i64 (i : Int))] []) = some (.loop (.exit 0) [.t (.int .i64 (n - (zX.ya (cs.drop i) : Int))), .bad] [])) ∧
 (n - (zX.ya (cs.drop i) : Int) < 0 → ∃ v, EV Tryz.prog pol (.loop 87 122 0 [.t (.list 6 (zX.yb cs)), .t (.int .i64 n), .t (.int .i64 (i : Int))] []) = some (.loop .ret [v, .t (.int .i64 (-1))] []))
 | 0, i, n, hd, hi, h0, h1 => by
  have hi' : i = cs.length := by omega
  subst hi'
  have hb : zX.ya (cs.drop cs.length) = 0 := by simp [zX.ya]
  rw [hb]
  refine ⟨fun _ => ?_, fun h => by omega⟩
  refine zD Tryz.func87 rfl rfl ?_
  have c : decide (((cs.length : Nat) : Int) < ((cs.length : Nat) : Int)) = false := by simp
  simp only [↓GO, ↓DRW, GA, ren, zG, zd, refs, zb, cst, zl, zM, z7, E.load, E.store, zL, isC, bin, zN, zO, una, z8, za, zh, zP, blt, fnV, asArg, ze, zn, zo, zj, zm, zg, zk, zu, z6, zK, zJ, E.mkS, zc, unN, zQ, zi, zw, zq, zC, zI, zf, zR, zr, GS, simprocAttr, zX.zY, c]
  simp
 | d + 1, i, n, hd, hi, h0, h1 => by
  have hlt : i < cs.length := by omega
  rw [zX.xj cs i hlt]
  have c : decide ((i : Int) < ((cs.length : Nat) : Int)) = true := by simp; omega
  have hcall := hc _ (List.getElem_mem hlt) n h0 h1
  have hget := zX.yW cs i hlt
  generalize hci : cs[i] = ci at hcall hget
  obtain ⟨name, version, source, sums, dev, needs⟩ := ci
  simp only [zX.enc, List.map_cons, List.map_nil] at hcall hget
  generalize hbu : (zX.mk name version source sums dev needs).yp = bu at hcall
  have IH := j4 cs hl hc d (i + 1) (n - (bu : Int)) (by omega) (by omega)
  have e1 : (i : Int) + 1 = ((i + 1 : Nat) : Int) := by omega
  by_cases hneg : n - (bu : Int) < 0
  · refine ⟨fun h => by omega, fun _ => ⟨.t (.int .i64 (-1)), ?_⟩⟩
    refine zD Tryz.func87 rfl rfl ?_
    have hle : left n bu = -1 := if_pos hneg
    rw [hle] at hcall
    simp (disch := omega) only [↓GO, ↓DRW, GA, ren, zG, zd, refs, zb, cst, zl, zM, z7, E.load, E.store, zL, isC, bin, zN, zO, una, z8, za, zh, zP, blt, fnV, asArg, ze, zn, zo, zj, zm, zg, zk, zu, z6, zK, zJ, E.mkS, zc, unN, zQ, zi, zw, zq, zC, zI, zf, zR, zr, GS, simprocAttr, zX.zY, c, hget, zB, hcall]
  · have hle : left n bu = n - (bu : Int) := if_neg hneg
    rw [hle] at hcall
    have c2 : decide (n - (bu : Int) < 0) = false := by simpa using hneg
    obtain ⟨I1, I2⟩ := IH (by omega) (by omega)
    refine ⟨fun h => ?_, fun h => ?_⟩
    · refine zD Tryz.func87 rfl rfl ?_
      simp (disch := omega) only [↓GO, ↓DRW, GA, ren, zG, zd, refs, zb, cst, zl, zM, z7, E.load, E.store, zL, isC, bin, zN, zO, una, z8, za, zh, zP, blt, fnV, asArg, ze, zn, zo, zj, zm, zg, zk, zu, z6, zK, zJ, E.mkS, zc, unN, zQ, zi, zw, zq, zC, zI, zf, zR, zr, GS, simprocAttr, zX.zY, c, hget, zB, hcall, c2, e1]
      rw [I1 (by omega), show n - (bu : Int) - (zX.ya (cs.drop (i + 1)) : Int) = n - ((bu + zX.ya (cs.drop (i + 1)) : Nat) : Int) by omega]
    · obtain ⟨v, hv⟩ := I2 (by omega)
      refine ⟨v, ?_⟩
      refine zD Tryz.func87 rfl rfl ?_
      simp (disch := omega) only [↓GO, ↓DRW, GA, ren, zG, zd, refs, zb, cst, zl, zM, z7, E.load, E.store, zL, isC, bin, zN, zO, una, z8, za, zh, zP, blt, fnV, asArg, ze, zn, zo, zj, zm, zg, zk, zu, z6, zK, zJ, E.mkS, zc, unN, zQ, zi, zw, zq, zC, zI, zf, zR, zr, GS, simprocAttr, zX.zY, c, hget, zB, hcall, c2, e1]
      exact hv
theorem Xs (cs : List zX) (hl : cs.length ≤ 9223372036854775807) (hc : ∀ c ∈ cs, Z0 c) (n : Int) (h0 : 0 ≤ n) (h1 : n ≤ 1048576) :
 zE (EV Tryz.prog pol) 87 [.t (.list 6 (zX.yb cs)), .t (.int .i64 n)] = some (.t (.int .i64 (left n (cs.length + zX.ya cs)))) := by
 apply zz
 refine zA rfl Tryz.func87 rfl (by kernel_rfl) ?_
 unfold Tryz.f87
 by_cases hneg : n - (cs.length : Int) < 0
 · have c2 : decide (n - (cs.length : Int) < 0) = true := by simpa using hneg
   simp (disch := omega) only [↓GO, ↓DRW, GA, ren, zG, zd, refs, zb, cst, zl, zM, z7, E.load, E.store, zL, isC, bin, zN, zO, una, z8, za, zh, zP, blt, fnV, asArg, ze, zn, zo, zj, zm, zg, zk, zu, z6, zK, zJ, E.mkS, zc, unN, zQ, zi, zw, zq, zC, zI, zf, zR, zr, GS, simprocAttr, zX.zY, zB, c2]
   rw [left, if_pos (by omega)]
 · have c2 : decide (n - (cs.length : Int) < 0) = false := by simpa using hneg
   obtain ⟨I1, I2⟩ := j4 cs hl hc cs.length 0 (n - (cs.length : Int)) (by omega) (by omega) (by omega) (by omega)
   simp only [List.drop_zero, Int.natCast_zero] at I1 I2
   by_cases hn2 : n - (cs.length : Int) - (zX.ya cs : Int) < 0
   · obtain ⟨v, hv⟩ := I2 hn2
     simp (disch := omega) only [↓GO, ↓DRW, GA, ren, zG, zd, refs, zb, cst, zl, zM, z7, E.load, E.store, zL, isC, bin, zN, zO, una, z8, za, zh, zP, blt, fnV, asArg, ze, zn, zo, zj, zm, zg, zk, zu, z6, zK, zJ, E.mkS, zc, unN, zQ, zi, zw, zq, zC, zI, zf, zR, zr, GS, simprocAttr, zX.zY, zB, c2, hv]
     rw [left, if_pos (by omega)]
   · simp (disch := omega) only [↓GO, ↓DRW, GA, ren, zG, zd, refs, zb, cst, zl, zM, z7, E.load, E.store, zL, isC, bin, zN, zO, una, z8, za, zh, zP, blt, fnV, asArg, ze, zn, zo, zj, zm, zg, zk, zu, z6, zK, zJ, E.mkS, zc, unN, zQ, zi, zw, zq, zC, zI, zf, zR, zr, GS, simprocAttr, zX.zY, zB, c2, I1 (by omega)]
     rw [left, if_neg (by omega), show n - (cs.length : Int) - (zX.ya cs : Int) = n - ((cs.length + zX.ya cs : Nat) : Int) by omega]
def lR (x : zX) : Prop := zE (EV Tryz.prog pol) 202 [.agg (x.enc.map .t), .agg (x.enc.map .t)] = some (.t (.bool true))
theorem U3 (x : zX) (ho : x.yp ≤ 4194304) : lR x := by
 obtain ⟨name, version, source, sums, dev, needs⟩ := x
 simp only [zX.yp] at ho
 simp only [lR, zX.enc, List.map_cons, List.map_nil]
 apply zz
 refine zA rfl Tryz.func202 rfl (by kernel_rfl) ?_
 unfold Tryz.f202
 simp only [↓GO, ↓DRW, GA, ren, zG, zd, refs, zb, cst, zl, zM, z7, E.load, E.store, zL, isC, bin, zN, zO, una, z8, za, zh, zP, blt, fnV, asArg, ze, zn, zo, zj, zm, zg, zk, zu, z6, zK, zJ, E.mkS, zc, unN, zQ, zi, zw, zq, zC, zI, zf, zR, zr, GS, simprocAttr, bne_self_eq_false, U2 sums (by omega) (fun c hc => Re c (by have := yh.yw hc; omega)), sj needs (by omega)]
theorem j5 (cs : List zX) (hl : cs.length ≤ 4194304) (hc : ∀ c ∈ cs, lR c) : ∀ (d i : Nat), cs.length - i = d → i ≤ cs.length →
 EV Tryz.prog pol (.loop 101 58 0 [.t (.list 6 (zX.yb cs)), .t (.list 6 (zX.yb cs)), .t (.int .i64 (i : Int))] []) = some (.loop (.exit 0) [.bad] [])
 | 0, i, hd, hi => by
  have hi' : i = cs.length := by omega
  subst hi'
  refine zD Tryz.func101 rfl rfl ?_
  have c : decide (((cs.length : Nat) : Int) < ((cs.length : Nat) : Int)) = false := by simp
  simp only [↓GO, ↓DRW, GA, ren, zG, zd, refs, zb, cst, zl, zM, z7, E.load, E.store, zL, isC, bin, zN, zO, una, z8, za, zh, zP, blt, fnV, asArg, ze, zn, zo, zj, zm, zg, zk, zu, z6, zK, zJ, E.mkS, zc, unN, zQ, zi, zw, zq, zC, zI, zf, zR, zr, GS, simprocAttr, zX.zY, c]
 | d + 1, i, hd, hi => by
  have hlt : i < cs.length := by omega
  have c : decide ((i : Int) < ((cs.length : Nat) : Int)) = true := by simp; omega
  have IH := j5 cs hl hc d (i + 1) (by omega) (by omega)
  have e1 : (i : Int) + 1 = ((i + 1 : Nat) : Int) := by omega
  have hcall := hc _ (List.getElem_mem hlt)
  have hget := zX.yW cs i hlt
  generalize hci : cs[i] = ci at hcall hget
  obtain ⟨name, version, source, sums, dev, needs⟩ := ci
  simp only [lR, zX.enc, List.map_cons, List.map_nil] at hcall hget
  refine zD Tryz.func101 rfl rfl ?_
  simp (disch := omega) only [↓GO, ↓DRW, GA, ren, zG, zd, refs, zb, cst, zl, zM, z7, E.load, E.store, zL, isC, bin, zN, zO, una, z8, za, zh, zP, blt, fnV, asArg, ze, zn, zo, zj, zm, zg, zk, zu, z6, zK, zJ, E.mkS, zc, unN, zQ, zi, zw, zq, zC, zI, zf, zR, zr, GS, simprocAttr, zX.zY, c, hget, zB, e1, hcall]
  exact IH
theorem Xv (cs : List zX) (hl : cs.length ≤ 4194304) (hc : ∀ c ∈ cs, lR c) : zE (EV Tryz.prog pol) 101 [.t (.list 6 (zX.yb cs)), .t (.list 6 (zX.yb cs))] = some (.t (.bool true)) := by
 apply zz
 refine zA rfl Tryz.func101 rfl (by kernel_rfl) ?_
 unfold Tryz.f101
 have IH := j5 cs hl hc cs.length 0 (by omega) (by omega)
 simp only [Int.natCast_zero] at IH
 simp only [↓GO, ↓DRW, GA, ren, zG, zd, refs, zb, cst, zl, zM, z7, E.load, E.store, zL, isC, bin, zN, zO, una, z8, za, zh, zP, blt, fnV, asArg, ze, zn, zo, zj, zm, zg, zk, zu, z6, zK, zJ, E.mkS, zc, unN, zQ, zi, zw, zq, zC, zI, zf, zR, zr, GS, simprocAttr, zX.zY, IH, bne_self_eq_false]
structure y8 where
 top : List (List UInt8)
 packs : List zX
def y8.enc (x : y8) : List T := [.list 1 (strs x.top), .list 6 (zX.yb x.packs)]
def y8.yb (l : List y8) : List (List T) := l.map y8.enc
def y8.yp (x : y8) : Nat := (x.top.length + yj x.top) + (x.packs.length + zX.ya x.packs)
def y8.ya : List y8 → Nat
 | [] => 0
 | c :: cs => y8.yp c + y8.ya cs
def y8.ok (x : y8) : Prop := x.top.length ≤ 9223372036854775807 ∧ (∀ s ∈ x.top, s.length ≤ 9223372036854775807) ∧ x.packs.length ≤ 9223372036854775807 ∧ (∀ y ∈ x.packs, y.ok)
theorem y8.ua (x : y8) : x.enc.length = 2 := rfl
theorem y8.vd (x : y8) : x.enc.take 2 = x.enc := rfl
theorem y8.zY (cs : List y8) : (y8.yb cs).length = cs.length := by simp [y8.yb]
theorem y8.yW (cs : List y8) (i : Nat) (h : i < cs.length) : (y8.yb cs)[i]? = some cs[i].enc := by simp [y8.yb, h]
theorem y8.xj (cs : List y8) (i : Nat) (h : i < cs.length) : y8.ya (cs.drop i) = cs[i].yp + y8.ya (cs.drop (i + 1)) := by
 rw [List.drop_eq_getElem_cons h]; rfl
theorem y8.yw : ∀ {cs : List y8} {c : y8}, c ∈ cs → c.yp ≤ y8.ya cs
 | c' :: cs, c, h => by
  simp only [y8.ya]
  rcases List.mem_cons.1 h with rfl | h
  · omega
  · have := y8.yw h; omega
def Rr (x : y8) : Prop := ∀ n : Int, 0 ≤ n → n ≤ 1048576 → zE (EV Tryz.prog pol) 15 [.agg (x.enc.map .t), .t (.int .i64 n)] = some (.t (.int .i64 (left n x.yp)))
theorem jI (x : y8) (ho : x.ok) : Rr x := by
 obtain ⟨top, packs⟩ := x
 intro n h0 h1
 simp only [y8.ok] at ho
 simp only [y8.enc, List.map_cons, List.map_nil]
 apply zz
 refine zA rfl Tryz.func15 rfl (by kernel_rfl) ?_
 unfold Tryz.f15
 have k_top := vX top (by first | exact ho.1 | simp_all) (by first | exact ho.2 | simp_all)
 have k_packs := Xs packs (by first | exact ho.1 | simp_all) (fun c hc => VV c (by simp_all))
 repeat' (first | (((first | with_reducible refine ur (fun hA => ?_) (fun hA => ?_) | with_reducible refine uq (fun hA => ?_) (fun hA => ?_)) <;> (try simp only [bne, Bool.not_eq_true', Bool.not_eq_false'] at hA) <;> (first | (have hP := Int.le_of_eq (eq_of_beq (α := Int) hA); have hQ := Int.le_of_eq (eq_of_beq (α := Int) hA).symm) | have hP := of_decide_eq_true hA | have hP := of_decide_eq_false hA | skip)) <;> (simp (disch := ((try simp only [LL]); omega)) only [↓GO, ↓DRW, GA, ren, zG, zd, refs, zb, cst, zl, zM, z7, E.load, E.store, zL, isC, bin, zN, zO, una, z8, za, zh, zP, blt, fnV, asArg, ze, zn, zo, zj, zm, zg, zk, zu, z6, zK, zJ, E.mkS, zc, unN, zQ, zi, zw, zq, zC, zI, zf, zR, zr, GS, simprocAttr, zB, bne, u7, xO, k_top, k_packs, *])) | (simp (disch := ((try simp only [LL]); omega)) only [↓GO, ↓DRW, GA, ren, zG, zd, refs, zb, cst, zl, zM, z7, E.load, E.store, zL, isC, bin, zN, zO, una, z8, za, zh, zP, blt, fnV, asArg, ze, zn, zo, zj, zm, zg, zk, zu, z6, zK, zJ, E.mkS, zc, unN, zQ, zi, zw, zq, zC, zI, zf, zR, zr, GS, simprocAttr, zB, bne, u7, xO, k_top, k_packs, *]))
 all_goals (refine tr ?_; simp only [y8.yp, and_true]; omega)
def gi (x : y8) : Prop := zE (EV Tryz.prog pol) 23 [.agg (x.enc.map .t), .agg (x.enc.map .t)] = some (.t (.bool true))
theorem Xw (x : y8) (ho : x.yp ≤ 4194304) : gi x := by
 obtain ⟨top, packs⟩ := x
 simp only [y8.yp] at ho
 simp only [gi, y8.enc, List.map_cons, List.map_nil]
 apply zz
 refine zA rfl Tryz.func23 rfl (by kernel_rfl) ?_
 unfold Tryz.f23
 simp only [↓GO, ↓DRW, GA, ren, zG, zd, refs, zb, cst, zl, zM, z7, E.load, E.store, zL, isC, bin, zN, zO, una, z8, za, zh, zP, blt, fnV, asArg, ze, zn, zo, zj, zm, zg, zk, zu, z6, zK, zJ, E.mkS, zc, unN, zQ, zi, zw, zq, zC, zI, zf, zR, zr, GS, simprocAttr, bne_self_eq_false, sj top (by omega), Xv packs (by omega) (fun c hc => U3 c (by have := zX.yw hc; omega))]
end Go.Proofs.YtijninlbpifonaaGreatDoor
/- The seat's own facts: the conditions on the program. Conditions: none. -/
namespace Go.Proofs.YtijninlbpifonaaGreatDoor
open E
theorem Tryz.own : ownKnob Tryz.prog.godebug = none := by kernel_rfl
theorem Tryz.kids : Kids Tryz.prog (· < Tryz.prog.types.size) := kids_rows (by kernel_rfl) (by kernel_rfl)
theorem Tryz.full : ∀ t e, t < Tryz.prog.types.size → Tryz.prog.underlying t = some (.slice e) → 0 < Tryz.prog.cellsOf e := slices_full_of Tryz.prog (by kernel_rfl)
end Go.Proofs.YtijninlbpifonaaGreatDoor
/- What the laws' arguments are: Sum, Pack, Graph. Conditions: those of each lemma. -/
namespace Go.Proofs.YtijninlbpifonaaGreatDoor
open E
set_option linter.unusedSimpArgs false
set_option linter.unusedVariables false
set_option maxRecDepth 100000
theorem gf {cs : List T} (h : WT Tryz.prog 22 cs) : ∃ ks, cs = [.list 1 (strs ks)] ∧ ks.length ≤ 9223372036854775807 ∧ ∀ x ∈ ks, x.length ≤ 9223372036854775807 := by
 obtain ⟨es, e1, e2, e3⟩ := h.qY Tryz.underlying22
 have k0 : Tryz.prog.cellsOf 9 = 1 := by kernel_rfl
 have key : ∀ es : List (List T), (∀ c ∈ es, WT Tryz.prog 9 c) → ∃ ks, es = strs ks ∧ ∀ x ∈ ks, x.length ≤ 9223372036854775807 := fun es => by
  induction es with
  | nil => exact fun _ => ⟨[], rfl, by simp⟩
  | cons c es ih =>
   intro h
   obtain ⟨ks, a1, a2⟩ := ih fun c' hc => h c' (by simp [hc])
   obtain ⟨l, a3, a4⟩ := (h c (by simp)).wW Tryz.underlying9
   exact ⟨l :: ks, by simp [strs, a1, a3], by simpa using ⟨a4, a2⟩⟩
 obtain ⟨ks, a1, a2⟩ := key es e3
 subst a1
 exact ⟨ks, by rw [e1, k0], by rw [zH] at e2; exact e2, a2⟩
theorem QQ {cs : List T} (h : WT Tryz.prog 262 cs) : ∃ x : yh, cs = x.enc ∧ x.ok := by
 obtain ⟨hl, hs⟩ := h.tw Tryz.underlying262
 have k0 : Tryz.prog.cellsOf 262 = 2 := by kernel_rfl
 have k1 : Tryz.prog.cellsOf 9 = 1 := by kernel_rfl
 rw [k0] at hl
 match cs, hl with
 | [y0, y1], _ =>
  simp [k1] at hs
  obtain ⟨s0, s1⟩ := hs
  obtain ⟨v0, e0, o0⟩ := s0.wW Tryz.underlying9
  obtain ⟨v1, e1, o1⟩ := s1.wW Tryz.underlying9
  simp at e0 e1
  subst e0 e1
  exact ⟨⟨v0, v1⟩, rfl, ⟨o0, o1⟩⟩
theorem Rp {cs : List T} (h : WT Tryz.prog 170 cs) : ∃ l : List yh, cs = [.list 2 (yh.yb l)] ∧ l.length ≤ 9223372036854775807 ∧ ∀ y ∈ l, y.ok := by
 obtain ⟨es, e1, e2, e3⟩ := h.qY Tryz.underlying170
 have k0 : Tryz.prog.cellsOf 262 = 2 := by kernel_rfl
 have key : ∀ es : List (List T), (∀ c ∈ es, WT Tryz.prog 262 c) → ∃ l : List yh, es = yh.yb l ∧ ∀ y ∈ l, y.ok := fun es => by
  induction es with
  | nil => exact fun _ => ⟨[], rfl, by simp⟩
  | cons c es ih =>
   intro h
   obtain ⟨l, a1, a2⟩ := ih fun c' hc => h c' (by simp [hc])
   obtain ⟨x, a3, a4⟩ := QQ (h c (by simp))
   exact ⟨x :: l, by simp [yh.yb, a1, a3], by simpa using ⟨a4, a2⟩⟩
 obtain ⟨l, a1, a2⟩ := key es e3
 subst a1
 exact ⟨l, by rw [e1, k0], by rw [yh.zY] at e2; exact e2, a2⟩
theorem Rq {cs : List T} (h : WT Tryz.prog 172 cs) : ∃ x : zX, cs = x.enc ∧ x.ok := by
 obtain ⟨hl, hs⟩ := h.tw Tryz.underlying172
 have k0 : Tryz.prog.cellsOf 172 = 6 := by kernel_rfl
 have k1 : Tryz.prog.cellsOf 170 = 1 := by kernel_rfl
 have k2 : Tryz.prog.cellsOf 22 = 1 := by kernel_rfl
 have k3 : Tryz.prog.cellsOf 4 = 1 := by kernel_rfl
 have k4 : Tryz.prog.cellsOf 9 = 1 := by kernel_rfl
 rw [k0] at hl
 match cs, hl with
 | [y0, y1, y2, y3, y4, y5], _ =>
  simp [k1, k2, k3, k4] at hs
  obtain ⟨s0, s1, s2, s3, s4, s5⟩ := hs
  obtain ⟨v0, e0, o0⟩ := s0.wW Tryz.underlying9
  obtain ⟨v1, e1, o1⟩ := s1.wW Tryz.underlying9
  obtain ⟨v2, e2, o2⟩ := s2.wW Tryz.underlying9
  obtain ⟨v3, e3, o3, o3'⟩ := Rp s3
  obtain ⟨v4, e4⟩ := s4.Vv Tryz.underlying4
  obtain ⟨v5, e5, o5, o5'⟩ := gf s5
  simp at e0 e1 e2 e3 e4 e5
  subst e0 e1 e2 e3 e4 e5
  exact ⟨⟨v0, v1, v2, v3, v4, v5⟩, rfl, ⟨o0, o1, o2, o3, o3', o5, o5'⟩⟩
theorem Ul {cs : List T} (h : WT Tryz.prog 23 cs) : ∃ l : List zX, cs = [.list 6 (zX.yb l)] ∧ l.length ≤ 9223372036854775807 ∧ ∀ y ∈ l, y.ok := by
 obtain ⟨es, e1, e2, e3⟩ := h.qY Tryz.underlying23
 have k0 : Tryz.prog.cellsOf 172 = 6 := by kernel_rfl
 have key : ∀ es : List (List T), (∀ c ∈ es, WT Tryz.prog 172 c) → ∃ l : List zX, es = zX.yb l ∧ ∀ y ∈ l, y.ok := fun es => by
  induction es with
  | nil => exact fun _ => ⟨[], rfl, by simp⟩
  | cons c es ih =>
   intro h
   obtain ⟨l, a1, a2⟩ := ih fun c' hc => h c' (by simp [hc])
   obtain ⟨x, a3, a4⟩ := Rq (h c (by simp))
   exact ⟨x :: l, by simp [zX.yb, a1, a3], by simpa using ⟨a4, a2⟩⟩
 obtain ⟨l, a1, a2⟩ := key es e3
 subst a1
 exact ⟨l, by rw [e1, k0], by rw [zX.zY] at e2; exact e2, a2⟩
theorem Um {cs : List T} (h : WT Tryz.prog 25 cs) : ∃ x : y8, cs = x.enc ∧ x.ok := by
 obtain ⟨hl, hs⟩ := h.tw Tryz.underlying25
 have k0 : Tryz.prog.cellsOf 25 = 2 := by kernel_rfl
 have k1 : Tryz.prog.cellsOf 23 = 1 := by kernel_rfl
 have k2 : Tryz.prog.cellsOf 22 = 1 := by kernel_rfl
 rw [k0] at hl
 match cs, hl with
 | [y0, y1], _ =>
  simp [k1, k2] at hs
  obtain ⟨s0, s1⟩ := hs
  obtain ⟨v0, e0, o0, o0'⟩ := gf s0
  obtain ⟨v1, e1, o1, o1'⟩ := Ul s1
  simp at e0 e1
  subst e0 e1
  exact ⟨⟨v0, v1⟩, rfl, ⟨o0, o0', o1, o1'⟩⟩
end Go.Proofs.YtijninlbpifonaaGreatDoor
/- Small tests on bytes and numbers; keys. Conditions: those of each lemma. -/
namespace Go.Proofs.YtijninlbpifonaaGreatDoor
open E
set_option linter.unusedSimpArgs false
set_option linter.unusedVariables false
set_option maxRecDepth 100000
theorem uT (a lo hi : Int) : zE (EV Tryz.prog pol) 169 [.t (.int .i64 a), .t (.int .i64 lo), .t (.int .i64 hi)] = some (.t (.bool (B2 a lo hi))) := by
 apply zz
 refine zA rfl Tryz.func169 rfl (by kernel_rfl) ?_
 unfold Tryz.f169
 unfold B2
 repeat' (first | (((first | with_reducible refine ur (fun hA => ?_) (fun hA => ?_) | with_reducible refine uq (fun hA => ?_) (fun hA => ?_)) <;> (try simp only [bne, Bool.not_eq_true', Bool.not_eq_false'] at hA) <;> (first | (have hP := Int.le_of_eq (eq_of_beq (α := Int) hA); have hQ := Int.le_of_eq (eq_of_beq (α := Int) hA).symm) | have hP := of_decide_eq_true hA | have hP := of_decide_eq_false hA | skip)) <;> (simp (disch := ((try simp only [LL]); omega)) only [↓GO, ↓DRW, GA, ren, zG, zd, refs, zb, cst, zl, zM, z7, E.load, E.store, zL, isC, bin, zN, zO, una, z8, za, zh, zP, blt, fnV, asArg, ze, zn, zo, zj, zm, zg, zk, zu, z6, zK, zJ, E.mkS, zc, unN, zQ, zi, zw, zq, zC, zI, zf, zR, zr, GS, simprocAttr, zB, bne, *])) | (simp (disch := ((try simp only [LL]); omega)) only [↓GO, ↓DRW, GA, ren, zG, zd, refs, zb, cst, zl, zM, z7, E.load, E.store, zL, isC, bin, zN, zO, una, z8, za, zh, zP, blt, fnV, asArg, ze, zn, zo, zj, zm, zg, zk, zu, z6, zK, zJ, E.mkS, zc, unN, zQ, zi, zw, zq, zC, zI, zf, zR, zr, GS, simprocAttr, zB, bne, *]))
theorem xP (a lo hi : Int) : zE (EV Tryz.prog pol) 187 [.t (.int .i64 a), .t (.int .i64 lo), .t (.int .i64 hi)] = some (.t (.bool (B2 a lo hi))) := by
 apply zz
 refine zA rfl Tryz.func187 rfl (by kernel_rfl) ?_
 unfold Tryz.f187
 unfold B2
 repeat' (first | (((first | with_reducible refine ur (fun hA => ?_) (fun hA => ?_) | with_reducible refine uq (fun hA => ?_) (fun hA => ?_)) <;> (try simp only [bne, Bool.not_eq_true', Bool.not_eq_false'] at hA) <;> (first | (have hP := Int.le_of_eq (eq_of_beq (α := Int) hA); have hQ := Int.le_of_eq (eq_of_beq (α := Int) hA).symm) | have hP := of_decide_eq_true hA | have hP := of_decide_eq_false hA | skip)) <;> (simp (disch := ((try simp only [LL]); omega)) only [↓GO, ↓DRW, GA, ren, zG, zd, refs, zb, cst, zl, zM, z7, E.load, E.store, zL, isC, bin, zN, zO, una, z8, za, zh, zP, blt, fnV, asArg, ze, zn, zo, zj, zm, zg, zk, zu, z6, zK, zJ, E.mkS, zc, unN, zQ, zi, zw, zq, zC, zI, zf, zR, zr, GS, simprocAttr, zB, bne, ge_iff_le, *])) | (simp (disch := ((try simp only [LL]); omega)) only [↓GO, ↓DRW, GA, ren, zG, zd, refs, zb, cst, zl, zM, z7, E.load, E.store, zL, isC, bin, zN, zO, una, z8, za, zh, zP, blt, fnV, asArg, ze, zn, zo, zj, zm, zg, zk, zu, z6, zK, zJ, E.mkS, zc, unN, zQ, zi, zw, zq, zC, zI, zf, zR, zr, GS, simprocAttr, zB, bne, ge_iff_le, *]))
theorem jJ (a : Int) : zE (EV Tryz.prog pol) 233 [.t (.int .u8 a)] = some (.t (.bool (B2 a 97 122))) := by
 apply zz
 refine zA rfl Tryz.func233 rfl (by kernel_rfl) ?_
 unfold Tryz.f233
 unfold B2
 repeat' (first | (((first | with_reducible refine ur (fun hA => ?_) (fun hA => ?_) | with_reducible refine uq (fun hA => ?_) (fun hA => ?_)) <;> (try simp only [bne, Bool.not_eq_true', Bool.not_eq_false'] at hA) <;> (first | (have hP := Int.le_of_eq (eq_of_beq (α := Int) hA); have hQ := Int.le_of_eq (eq_of_beq (α := Int) hA).symm) | have hP := of_decide_eq_true hA | have hP := of_decide_eq_false hA | skip)) <;> (simp (disch := ((try simp only [LL]); omega)) only [↓GO, ↓DRW, GA, ren, zG, zd, refs, zb, cst, zl, zM, z7, E.load, E.store, zL, isC, bin, zN, zO, una, z8, za, zh, zP, blt, fnV, asArg, ze, zn, zo, zj, zm, zg, zk, zu, z6, zK, zJ, E.mkS, zc, unN, zQ, zi, zw, zq, zC, zI, zf, zR, zr, GS, simprocAttr, zB, bne, ge_iff_le, *])) | (simp (disch := ((try simp only [LL]); omega)) only [↓GO, ↓DRW, GA, ren, zG, zd, refs, zb, cst, zl, zM, z7, E.load, E.store, zL, isC, bin, zN, zO, una, z8, za, zh, zP, blt, fnV, asArg, ze, zn, zo, zj, zm, zg, zk, zu, z6, zK, zJ, E.mkS, zc, unN, zQ, zi, zw, zq, zC, zI, zf, zR, zr, GS, simprocAttr, zB, bne, ge_iff_le, *]))
theorem o8 (a : Int) : zE (EV Tryz.prog pol) 234 [.t (.int .u8 a)] = some (.t (.bool (B2 a 48 57))) := by
 apply zz
 refine zA rfl Tryz.func234 rfl (by kernel_rfl) ?_
 unfold Tryz.f234
 unfold B2
 repeat' (first | (((first | with_reducible refine ur (fun hA => ?_) (fun hA => ?_) | with_reducible refine uq (fun hA => ?_) (fun hA => ?_)) <;> (try simp only [bne, Bool.not_eq_true', Bool.not_eq_false'] at hA) <;> (first | (have hP := Int.le_of_eq (eq_of_beq (α := Int) hA); have hQ := Int.le_of_eq (eq_of_beq (α := Int) hA).symm) | have hP := of_decide_eq_true hA | have hP := of_decide_eq_false hA | skip)) <;> (simp (disch := ((try simp only [LL]); omega)) only [↓GO, ↓DRW, GA, ren, zG, zd, refs, zb, cst, zl, zM, z7, E.load, E.store, zL, isC, bin, zN, zO, una, z8, za, zh, zP, blt, fnV, asArg, ze, zn, zo, zj, zm, zg, zk, zu, z6, zK, zJ, E.mkS, zc, unN, zQ, zi, zw, zq, zC, zI, zf, zR, zr, GS, simprocAttr, zB, bne, ge_iff_le, *])) | (simp (disch := ((try simp only [LL]); omega)) only [↓GO, ↓DRW, GA, ren, zG, zd, refs, zb, cst, zl, zM, z7, E.load, E.store, zL, isC, bin, zN, zO, una, z8, za, zh, zP, blt, fnV, asArg, ze, zn, zo, zj, zm, zg, zk, zu, z6, zK, zJ, E.mkS, zc, unN, zQ, zi, zw, zq, zC, zI, zf, zR, zr, GS, simprocAttr, zB, bne, ge_iff_le, *]))
theorem wrap_u8 (b : UInt8) : IntKind.i64.wrap (b.toNat : Int) = (b.toNat : Int) := by have := Ty b; exact zB (by omega)
theorem np (b : UInt8) : zE (EV Tryz.prog pol) 238 [.t (.int .u8 (b.toNat : Int))] = some (.t (.bool (B2 (nb b) 97 122 || B2 (nb b) 48 57))) := by
 apply zz
 refine zA rfl Tryz.func238 rfl (by kernel_rfl) ?_
 unfold Tryz.f238
 have h1 := xP (b.toNat : Int) 97 122
 have h2 := xP (b.toNat : Int) 48 57
 repeat' (first | (((first | with_reducible refine ur (fun hA => ?_) (fun hA => ?_) | with_reducible refine uq (fun hA => ?_) (fun hA => ?_)) <;> (try simp only [bne, Bool.not_eq_true', Bool.not_eq_false'] at hA) <;> (first | (have hP := Int.le_of_eq (eq_of_beq (α := Int) hA); have hQ := Int.le_of_eq (eq_of_beq (α := Int) hA).symm) | have hP := of_decide_eq_true hA | have hP := of_decide_eq_false hA | skip)) <;> (simp (disch := ((try simp only [LL]); omega)) only [↓GO, ↓DRW, GA, ren, zG, zd, refs, zb, cst, zl, zM, z7, E.load, E.store, zL, isC, bin, zN, zO, una, z8, za, zh, zP, blt, fnV, asArg, ze, zn, zo, zj, zm, zg, zk, zu, z6, zK, zJ, E.mkS, zc, unN, zQ, zi, zw, zq, zC, zI, zf, zR, zr, GS, simprocAttr, zB, bne, conv, wrap_u8, *])) | (simp (disch := ((try simp only [LL]); omega)) only [↓GO, ↓DRW, GA, ren, zG, zd, refs, zb, cst, zl, zM, z7, E.load, E.store, zL, isC, bin, zN, zO, una, z8, za, zh, zP, blt, fnV, asArg, ze, zn, zo, zj, zm, zg, zk, zu, z6, zK, zJ, E.mkS, zc, unN, zQ, zi, zw, zq, zC, zI, zf, zR, zr, GS, simprocAttr, zB, bne, conv, wrap_u8, *]))
theorem RS (f : Nat) (p : UInt8 → Bool) (hp : ∀ b : UInt8, zE (EV Tryz.prog pol) f [.t (.int .u8 (b.toNat : Int))] = some (.t (.bool (p b)))) (s : Str) (hl : s.length ≤ 9223372036854775807) : ∀ (rest pre : Str), s = pre ++ rest →
 EV Tryz.prog pol (.loop 231 26 0 [.t (.str s), .t (.fn f []), .t (.int .i64 (s.length : Int)), .t (.int .i64 (pre.length : Int))] []) = some (cond (rest.all p) (.loop (.exit 0) [.bad] []) (.loop .ret [.t (.bool false)] []))
 | [], pre, hs => by
  have c : decide ((pre.length : Int) < (s.length : Int)) = false := by simp [hs]
  refine zD Tryz.func231 rfl rfl ?_
  simp only [↓GO, ↓DRW, GA, ren, zG, zd, refs, zb, cst, zl, zM, z7, E.load, E.store, zL, isC, bin, zN, zO, una, z8, za, zh, zP, blt, fnV, asArg, ze, zn, zo, zj, zm, zg, zk, zu, z6, zK, zJ, E.mkS, zc, unN, zQ, zi, zw, zq, zC, zI, zf, zR, zr, GS, simprocAttr, c]
 | b :: rest, pre, hs => by
  have c : decide ((pre.length : Int) < (s.length : Int)) = true := by simp [hs]; omega
  have hget : s[pre.length]? = some b := by rw [hs]; exact tM pre b rest
  have hlen : s.length = pre.length + rest.length + 1 := by rw [hs]; simp; omega
  have e1 : (pre.length : Int) + 1 = ((pre ++ [b]).length : Int) := by simp
  have IH := RS f p hp s hl rest (pre ++ [b]) (by rw [hs]; simp)
  have hb := hp b
  refine zD Tryz.func231 rfl rfl ?_
  cases hpb : p b with
  | true =>
   rw [hpb] at hb
   simp (disch := omega) only [↓GO, ↓DRW, GA, ren, zG, zd, refs, zb, cst, zl, zM, z7, E.load, E.store, zL, isC, bin, zN, zO, una, z8, za, zh, zP, blt, fnV, asArg, ze, zn, zo, zj, zm, zg, zk, zu, z6, zK, zJ, E.mkS, zc, unN, zQ, zi, zw, zq, zC, zI, zf, zR, zr, GS, simprocAttr, c, hget, zB, hb]
   rw [e1, IH, hpb, Bool.true_and]
  | false =>
   rw [hpb] at hb
   simp (disch := omega) only [↓GO, ↓DRW, GA, ren, zG, zd, refs, zb, cst, zl, zM, z7, E.load, E.store, zL, isC, bin, zN, zO, una, z8, za, zh, zP, blt, fnV, asArg, ze, zn, zo, zj, zm, zg, zk, zu, z6, zK, zJ, E.mkS, zc, unN, zQ, zi, zw, zq, zC, zI, zf, zR, zr, GS, simprocAttr, c, hget, zB, hb]
   rw [hpb]; rfl
theorem YF (f : Nat) (p : UInt8 → Bool) (hp : ∀ b : UInt8, zE (EV Tryz.prog pol) f [.t (.int .u8 (b.toNat : Int))] = some (.t (.bool (p b)))) (s : Str) (hl : s.length ≤ 9223372036854775807) :
 zE (EV Tryz.prog pol) 231 [.t (.str s), .t (.fn f [])] = some (.t (.bool (s.all p))) := by
 have IH := RS f p hp s hl s [] rfl
 simp only [List.length_nil, Int.natCast_zero] at IH
 apply zz
 refine zA rfl Tryz.func231 rfl (by kernel_rfl) ?_
 unfold Tryz.f231
 cases hb : s.all p with
 | true => rw [hb] at IH; simp only [cond_true] at IH; simp only [↓GO, ↓DRW, GA, ren, zG, zd, refs, zb, cst, zl, zM, z7, E.load, E.store, zL, isC, bin, zN, zO, una, z8, za, zh, zP, blt, fnV, asArg, ze, zn, zo, zj, zm, zg, zk, zu, z6, zK, zJ, E.mkS, zc, unN, zQ, zi, zw, zq, zC, zI, zf, zR, zr, GS, simprocAttr, IH]
 | false => rw [hb] at IH; simp only [cond_false] at IH; simp only [↓GO, ↓DRW, GA, ren, zG, zd, refs, zb, cst, zl, zM, z7, E.load, E.store, zL, isC, bin, zN, zO, una, z8, za, zh, zP, blt, fnV, asArg, ze, zn, zo, zj, zm, zg, zk, zu, z6, zK, zJ, E.mkS, zc, unN, zQ, zi, zw, zq, zC, zI, zf, zR, zr, GS, simprocAttr, IH]
end Go.Proofs.YtijninlbpifonaaGreatDoor
/- Texts cut at a byte; names; plain texts. Plain. Conditions: none. -/
namespace Go.Proofs.YtijninlbpifonaaGreatDoor
set_option linter.unusedVariables false
set_option linter.unusedSimpArgs false
theorem mB (b : UInt8) (s : Str) : Lib.index (b :: s) [b] = 0 := by rw [Lib.index]; simp [List.isPrefixOf]
theorem oU (x b : UInt8) (s : Str) (h : x ≠ b) : Lib.index (x :: s) [b] = if Lib.index s [b] == -1 then -1 else Lib.index s [b] + 1 := by
 have hp : ([b] : List UInt8).isPrefixOf (x :: s) = false := by simp [List.isPrefixOf, Ne.symm h]
 rw [Lib.index, hp]; simp
theorem x5 (b : UInt8) : ∀ s : Str, yk b s ≠ []
 | [] => by simp [yk]
 | x :: s => by
  unfold yk
  split
  · simp
  · split <;> simp
theorem we (b : UInt8) (s : Str) : yk b (b :: s) = [] :: yk b s := by rw [yk, if_pos rfl]
theorem yJ (b x : UInt8) (s p : Str) (r : List Str) (h : x ≠ b) (e : yk b s = p :: r) : yk b (x :: s) = (x :: p) :: r := by
 rw [yk, if_neg h, e]
theorem kG (b : UInt8) : ∀ s : Str, Lib.split s [b] = yk b s
 | [] => by
  unfold Lib.split
  rw [Lib.count_miss (by simp [Lib.index])]; rfl
 | x :: s => by
  have ih := kG b s
  unfold Lib.split at ih ⊢
  by_cases h : x = b
  · subst h
    rw [Lib.count_cons_eq, Nat.add_comm, Lib.splitK, mB, we]
    simpa using ih
  · rw [Lib.count_cons_ne x b s h]
    by_cases hm : Lib.index s [b] = -1
    · rw [Lib.count_miss hm] at ih ⊢
      rw [Lib.splitK] at ih ⊢
      exact (yJ b x s s [] h ih.symm).symm
    · have hge := Lib.index_ge s [b]
      obtain ⟨j, hj⟩ : ∃ j : Nat, Lib.index s [b] = j := ⟨(Lib.index s [b]).toNat, by omega⟩
      rw [Lib.count_hit (by simp) hj, Nat.add_comm] at ih ⊢
      have hb : (((j : Nat) : Int) == -1) = false := by rw [beq_eq_false_iff_ne]; omega
      have hb2 : (((j : Nat) : Int) + 1 == -1) = false := by rw [beq_eq_false_iff_ne]; omega
      rw [Lib.splitK, hj, hb] at ih
      rw [Lib.splitK, oU x b s h, hj, hb]
      simp only [Bool.false_eq_true, if_false, hb2, Int.toNat_natCast, Nat.add_zero, List.length_cons, List.length_nil, Nat.zero_add] at ih ⊢
      rw [show ((j : Int) + 1).toNat = j + 1 by omega]
      rw [List.take_succ_cons, List.drop_succ_cons]
      exact (yJ b x s _ _ h ih.symm).symm
/-- a text cut at the first place of a byte -/
def yo (b : UInt8) : Str → Str × Str × Bool
 | [] => ([], [], false)
 | x :: s => if x = b then ([], s, true) else (x :: (yo b s).1, (yo b s).2.1, (yo b s).2.2)
theorem dP (b : UInt8) : ∀ s : Str, Lib.cut s [b] = yo b s
 | [] => by simp [Lib.cut, yo, Lib.index]
 | x :: s => by
  have ih := dP b s
  by_cases h : x = b
  · subst h
    unfold Lib.cut
    rw [mB, yo, if_pos rfl]; simp
  · rw [yo, if_neg h, ← ih]
    unfold Lib.cut
    rw [oU x b s h]
    have hge := Lib.index_ge s [b]
    by_cases hm : Lib.index s [b] = -1
    · rw [hm]; simp
    · obtain ⟨j, hj⟩ : ∃ j : Nat, Lib.index s [b] = j := ⟨(Lib.index s [b]).toNat, by omega⟩
      have hb : (((j : Nat) : Int) == -1) = false := by rw [beq_eq_false_iff_ne]; omega
      rw [hj, hb]
      simp only [Bool.false_eq_true, if_false]
      rw [if_pos (by omega), if_pos (by omega), show ((j : Int) + 1).toNat = j + 1 by omega]
      simp only [List.take_succ_cons, Int.toNat_natCast]
      rw [show j + 1 + [b].length = (j + [b].length) + 1 by simp, List.drop_succ_cons]
theorem ru (b : UInt8) : ∀ s : Str, s = (yo b s).1 ++ cond (yo b s).2.2 (b :: (yo b s).2.1) []
 | [] => rfl
 | x :: s => by
  rw [yo]
  split
  · rename_i h; rw [h]; rfl
  · have := ru b s
    show x :: s = (x :: (yo b s).1) ++ _
    rw [List.cons_append, ← this]
theorem lA (b : UInt8) : ∀ s : Str, b ∉ (yo b s).1
 | [] => by simp [yo]
 | x :: s => by
  rw [yo]
  split
  · simp
  · rename_i h
    have := lA b s
    simp only [List.mem_cons, not_or]
    exact ⟨Ne.symm h, this⟩
theorem mN (b : UInt8) : ∀ s : Str, (yo b s).2.2 = false → (yo b s).2.1 = []
 | [], _ => rfl
 | x :: s, h => by
  rw [yo] at h ⊢
  split at h
  · simp at h
  · rename_i hx
    rw [if_neg hx]; exact mN b s h
theorem lB (b : UInt8) (t : Str) : ∀ s : Str, b ∉ s → yo b (s ++ b :: t) = (s, t, true)
 | [], _ => by simp [yo]
 | x :: s, h => by
  simp only [List.mem_cons, not_or] at h
  rw [List.cons_append, yo, if_neg (Ne.symm h.1), lB b t s h.2]
theorem Yg (b : UInt8) : ∀ s : Str, b ∉ s → yo b s = (s, [], false)
 | [], _ => by simp [yo]
 | x :: s, h => by
  simp only [List.mem_cons, not_or] at h
  rw [yo, if_neg (Ne.symm h.1), Yg b s h.2]
theorem uR (b : UInt8) (t : Str) : ∀ s : Str, yk b (s ++ b :: t) = yk b s ++ yk b t
 | [] => by rw [List.nil_append, we]; rfl
 | x :: s => by
  have ih := uR b t s
  rw [List.cons_append]
  by_cases h : x = b
  · subst h; rw [we, we, ih]; rfl
  · cases hc : yk b s with
    | nil => exact absurd hc (x5 b s)
    | cons p r =>
     rw [hc] at ih
     rw [yJ b x s p r h hc, yJ b x _ p (r ++ yk b t) h ih]; rfl
theorem nR (b : UInt8) : ∀ s : Str, b ∉ s → yk b s = [s]
 | [], _ => rfl
 | x :: s, h => by
  simp only [List.mem_cons, not_or] at h
  exact yJ b x s s [] (Ne.symm h.1) (nR b s h.2)
def rD : Str := [110, 111, 100, 101, 95, 109, 111, 100, 117, 108, 101, 115]
def vS (b : UInt8) : Bool := B2 (nb b) 97 122 || B2 (nb b) 48 57 || nb b == 46 || nb b == 95 || nb b == 45
def nv (s : Str) : Bool := ([64] : Str).isPrefixOf s
def yU (s : Str) : Str := match s with
 | [] => []
 | x :: r => if x = 64 then r else x :: r
/-- as the implementation asks -/
def vN (sc : Bool) : List Str → Bool
 | [] => true
 | p :: r => (!((p == []) || ((p == rD) && !sc) || !(p.all vS))) && vN false r
def tK (s : Str) : Bool := vN (nv s) (yk 47 (yU s)) && decide ((s.length : Int) ≤ 60)
/-- as the reference asks -/
def lS : List Str → Bool
 | [] => true
 | p :: r => (!(p == rD) && (p.all vS && !(p == []))) && lS r
def qw : List Str → Bool
 | [] => true
 | p :: r => (!(p == rD) && ((yU p).all vS && !(yU p == []))) && lS r
theorem sQ : ∀ r : List Str, lS r = vN false r
 | [] => rfl
 | p :: r => by
  rw [lS, vN, sQ r]
  cases (p == []) <;> cases (p == rD) <;> cases (p.all vS) <;> rfl
theorem X3 (s : Str) : (qw (yk 47 s) && decide ((s.length : Int) ≤ 60)) = tK s := by
 unfold tK
 congr 1
 cases s with
 | nil => rfl
 | cons x t =>
  cases hc : yk 47 t with
  | nil => exact absurd hc (x5 47 t)
  | cons p r =>
   by_cases h64 : x = 64
   · subst h64
     rw [yJ 47 64 t p r (by decide) hc]
     have h1 : nv (64 :: t) = true := by simp [nv, List.isPrefixOf]
     have h2 : yU (64 :: t) = t := by simp [yU]
     have h3 : yU (64 :: p) = p := by simp [yU]
     have h4 : (((64 : UInt8) :: p) == rD) = false := by simp [rD]
     rw [h1, h2, hc, qw, vN, h3, h4, sQ]
     cases (p == []) <;> cases (p == rD) <;> cases (p.all vS) <;> rfl
   · have h1 : nv (x :: t) = false := by simp [nv, List.isPrefixOf]; exact fun h => h64 h.symm
     have h2 : yU (x :: t) = x :: t := by simp [yU, h64]
     rw [h1, h2]
     by_cases h47 : x = 47
     · subst h47
       rw [we, qw, vN, sQ]
       rfl
     · rw [yJ 47 x t p r h47 hc, qw, vN, sQ]
       have h3 : yU (x :: p) = x :: p := by simp [yU, h64]
       rw [h3]
       cases ((x :: p) == []) <;> cases ((x :: p) == rD) <;> cases ((x :: p).all vS) <;> rfl
def qv (b : UInt8) : Bool := B2 (nb b) 33 126 && (!(nb b == 34) && (!(nb b == 39) && (!(nb b == 44) && !(nb b == 92))))
def u6 (s : Str) : Bool := s.all qv && decide ((s.length : Int) ≤ 100)
end Go.Proofs.YtijninlbpifonaaGreatDoor
/- The number of a text, plain: both ways of reading it come to the same. Conditions: none. -/
namespace Go.Proofs.YtijninlbpifonaaGreatDoor
set_option linter.unusedSimpArgs false
set_option linter.unusedVariables false
def isD (c : UInt8) : Bool := decide (48 ≤ c.toNat) && decide (c.toNat ≤ 57)
/-- what digits spell behind a number -/
def qo (a : Nat) (c : UInt8) : Nat := a * 10 + (c.toNat - 48)
def uy (acc : Nat) (l : List UInt8) : Nat := l.foldl qo acc
theorem mW (acc : Nat) : uy acc [] = acc := rfl
theorem pE (acc : Nat) (c : UInt8) (l : List UInt8) : uy acc (c :: l) = uy (qo acc c) l := by
 unfold uy
 rw [List.foldl_cons]
theorem kE (c : UInt8) (l : List UInt8) (acc : Nat) : uy acc (l ++ [c]) = qo (uy acc l) c := by
 unfold uy
 rw [List.foldl_append, List.foldl_cons, List.foldl_nil]
theorem pj (c : UInt8) : isD c = true ↔ 48 ≤ c.toNat ∧ c.toNat ≤ 57 := by simp [isD]
theorem Z6 (acc : Nat) (c : UInt8) (h : isD c = true) : qo acc c + 1 ≤ (acc + 1) * 10 := by
 have := (pj c).1 h
 unfold qo
 omega
theorem mo (n m : Nat) : m * 10 ^ (n + 1) = m * 10 * 10 ^ n := by rw [Nat.pow_succ, Nat.mul_comm (10 ^ n) 10, Nat.mul_assoc]
theorem nF : ∀ (l : List UInt8) (acc : Nat), l.all isD = true → uy acc l < (acc + 1) * 10 ^ l.length
 | [], acc, _ => by rw [mW]; simp
 | c :: l, acc, h => by
  rw [List.all_cons, Bool.and_eq_true] at h
  have ih := nF l (qo acc c) h.2
  rw [pE, List.length_cons, mo]
  exact Nat.lt_of_lt_of_le ih (Nat.mul_le_mul_right _ (Z6 acc c h.1))
theorem jw {d : Nat} (h : d < 10) : (UInt8.ofNat (48 + d)).toNat = 48 + d := by
 simp [UInt8.toNat_ofNat']; omega
theorem u0 (u : Nat) : (Lib.decDigits u).all isD = true ∧ uy 0 (Lib.decDigits u) = u ∧ Lib.decDigits u ≠ [] := by
 induction u using Nat.strongRecOn with
 | _ u ih =>
  rw [Lib.decDigits]
  split
  · rename_i h
    have := jw h
    refine ⟨?_, ?_, by simp⟩
    · rw [List.all_cons, List.all_nil, Bool.and_true, pj, this]; omega
    · rw [pE, mW, qo, this]; omega
  · rename_i h
    obtain ⟨h1, h2, h3⟩ := ih (u / 10) (by omega)
    have := jw (d := u % 10) (by omega)
    refine ⟨?_, ?_, by simp⟩
    · rw [List.all_append, h1, List.all_cons, List.all_nil, Bool.and_true, Bool.true_and, pj, this]; omega
    · rw [kE, h2, qo, this]; omega
theorem qD : ∀ (l : List UInt8) (acc : Nat), l.all isD = true → (acc + 1) * 10 ^ l.length ≤ 1000000000000000000 → Lib.parseUint10 acc l = .ok (uy acc l)
 | [], acc, _, _ => rfl
 | c :: l, acc, h, hb => by
  rw [List.all_cons, Bool.and_eq_true] at h
  have hp : 0 < 10 ^ l.length := Nat.pos_of_ne_zero (by intro h; simp at h)
  rw [List.length_cons, mo] at hb
  have h10 : (acc + 1) * 10 ≤ 1000000000000000000 := Nat.le_trans (Nat.le_mul_of_pos_right _ hp) hb
  have hc := (pj c).1 h.1
  have ih := qD l (qo acc c) h.2 (Nat.le_trans (Nat.mul_le_mul_right _ (Z6 acc c h.1)) hb)
  rw [Lib.parseUint10, if_pos hc, if_neg (by omega), if_neg (by omega), pE, ← ih]
  rfl
theorem oK : ∀ (k u : Nat), 1 ≤ k → u < 10 ^ k → Lib.nDigits u ≤ k
 | 0, u, h, _ => by omega
 | k + 1, u, _, h => by
  rw [Lib.nDigits]
  split
  · omega
  · have h10 : u / 10 < 10 ^ k := by rw [Nat.pow_succ] at h; omega
    have hk : 1 ≤ k := by
     rcases Nat.eq_zero_or_pos k with rfl | h
     · simp at h10; omega
     · exact h
    have := oK k (u / 10) hk h10
    omega
theorem s6 {u : Nat} (h : u ≤ 999999999) : (Lib.decDigits u).length ≤ 9 := by
 rw [Lib.decDigits_length]
 exact oK 9 u (by omega) (by omega)
theorem fe {u : Nat} (h : u ≤ 999999999) : Lib.atoiAll (Lib.decDigits u) = .ok (u : Int) := by
 obtain ⟨h1, h2, h3⟩ := u0 u
 have hl := s6 h
 generalize Lib.decDigits u = l at *
 cases l with
 | nil => exact absurd rfl h3
 | cons c r =>
  have hc : isD c = true := by simp only [List.all_cons, Bool.and_eq_true] at h1; exact h1.1
  simp only [isD, Bool.and_eq_true, decide_eq_true_eq] at hc
  have hp : Lib.parseMag (c :: r) = .ok u := by
   unfold Lib.parseMag
   have : (10 : Nat) ^ (c :: r).length ≤ 10 ^ 9 := Nat.pow_le_pow_right (by omega) hl
   have e9 : (10 : Nat) ^ 9 = 1000000000 := by decide
   rw [if_neg (by simp), qD _ 0 h1 (by omega), h2]
  unfold Lib.atoiAll
  simp only
  rw [if_neg (by omega), hp]
  simp only
  rw [if_neg (by omega), if_neg (by omega), if_neg (by omega)]
/-- the number of a text, or -1 -/
def zF (s : List UInt8) : Int :=
 match Lib.atoiAll s with
 | .ok v => cond ((decide (0 ≤ v) && decide (v ≤ 999999999)) && (Lib.itoa v == s)) v (-1)
 | _ => -1
/-- the same, by the digits -/
def r9 (s : List UInt8) : Int := cond ((s.all isD && decide (s.length ≤ 9)) && (!(s == []) && (Lib.itoa (uy 0 s : Nat) == s))) (uy 0 s : Nat) (-1)
theorem vt {u : Nat} (h : u ≤ 999999999) : zF (Lib.decDigits u) = u ∧ r9 (Lib.decDigits u) = u := by
 obtain ⟨h1, h2, h3⟩ := u0 u
 have hl := s6 h
 refine ⟨?_, ?_⟩
 · unfold zF
   rw [fe h]
   simp only
   rw [Lib.itoa_nonneg]
   have e1 : decide ((0 : Int) ≤ (u : Int)) = true := by simp
   have e2 : decide ((u : Int) ≤ 999999999) = true := by simp; omega
   rw [e1, e2]; simp
 · unfold r9
   rw [h1, h2, Lib.itoa_nonneg]
   have e1 : decide ((Lib.decDigits u).length ≤ 9) = true := by simpa using hl
   have e2 : (Lib.decDigits u == []) = false := by simpa using h3
   rw [e1, e2]; simp
theorem YY {s : List UInt8} (h : ∀ u, u ≤ 999999999 → s ≠ Lib.decDigits u) : zF s = -1 ∧ r9 s = -1 := by
 refine ⟨?_, ?_⟩
 · unfold zF
   split
   · rename_i v hv
     cases hc : ((decide (0 ≤ v) && decide (v ≤ 999999999)) && (Lib.itoa v == s)) with
     | false => rfl
     | true =>
      simp only [Bool.and_eq_true, decide_eq_true_eq] at hc
      obtain ⟨⟨c1, c2⟩, c3⟩ := hc
      obtain ⟨u, rfl⟩ : ∃ u : Nat, v = u := ⟨v.toNat, by omega⟩
      rw [Lib.itoa_nonneg] at c3
      exact absurd (eq_of_beq c3).symm (h u (by omega))
   · rfl
 · unfold r9
   cases hc : ((s.all isD && decide (s.length ≤ 9)) && (!(s == []) && (Lib.itoa (uy 0 s : Nat) == s))) with
   | false => rfl
   | true =>
    simp only [Bool.and_eq_true, decide_eq_true_eq] at hc
    obtain ⟨⟨c1, c2⟩, c3, c4⟩ := hc
    rw [Lib.itoa_nonneg] at c4
    have hv := nF s 0 c1
    have : (10 : Nat) ^ s.length ≤ 10 ^ 9 := Nat.pow_le_pow_right (by omega) c2
    have e9 : (10 : Nat) ^ 9 = 1000000000 := by decide
    exact absurd (eq_of_beq c4).symm (h _ (by omega))
theorem YN (s : List UInt8) : r9 s = zF s := by
 by_cases h : ∃ u, u ≤ 999999999 ∧ s = Lib.decDigits u
 · obtain ⟨u, hu, rfl⟩ := h
   obtain ⟨h1, h2⟩ := vt hu
   rw [h1, h2]
 · obtain ⟨h1, h2⟩ := YY (s := s) fun u hu he => h ⟨u, hu, he⟩
   rw [h1, h2]
end Go.Proofs.YtijninlbpifonaaGreatDoor
/- Versions, packs, graphs, plain. Conditions: none. -/
namespace Go.Proofs.YtijninlbpifonaaGreatDoor
open E
set_option linter.unusedVariables false
set_option linter.unusedSimpArgs false
set_option maxRecDepth 100000
theorem v7 (a b : UInt8) (x y : Str) : Op.bytesLess (a :: x) (b :: y) = (decide (a < b) || (a == b && Op.bytesLess x y)) := by
 rw [Op.bytesLess]
/-- '<=' on texts, said by '<' -/
theorem iQ : ∀ x y : Str, (Op.bytesLess x y || x == y) = !(Op.bytesLess y x)
 | [], [] => rfl
 | [], b :: y => by simp [Op.bytesLess]
 | a :: x, [] => by simp [Op.bytesLess]
 | a :: x, b :: y => by
  have ih := iQ x y
  rw [v7, v7]
  by_cases h1 : a < b
  · have h2 : ¬ b < a := by simp only [UInt8.lt_iff_toNat_lt] at h1 ⊢; omega
    have h3 : (b == a) = false := by
     rw [beq_eq_false_iff_ne]; intro h; subst h; simp only [UInt8.lt_iff_toNat_lt] at h1; omega
    simp [h1, h2, h3]
  · by_cases h2 : b < a
    · have h3 : (a == b) = false := by
       rw [beq_eq_false_iff_ne]; intro h; subst h; simp only [UInt8.lt_iff_toNat_lt] at h2; omega
      have h4 : ((a :: x) == (b :: y)) = false := by
       rw [beq_eq_false_iff_ne]; intro h; cases h; simp at h3
      simp [h1, h2, h3, h4]
    · have h3 : a = b := by
       apply UInt8.toNat_inj.1; simp only [UInt8.lt_iff_toNat_lt] at h1 h2; omega
      subst h3
      have e : ((a :: x) == (a :: y)) = (x == y) := by
       rw [Bool.eq_iff_iff]; simp
      simp only [h1, decide_false, Bool.false_or, beq_self_eq_true, Bool.true_and, e, ih]
theorem xK (b : UInt8) : ∀ s : Str, yj (yk b s) + (yk b s).length ≤ s.length + 1
 | [] => by simp [yk, yj]
 | x :: s => by
  have ih := xK b s
  by_cases h : x = b
  · subst h; rw [we]; simp only [yj, List.length_cons, List.length_nil]; omega
  · cases hc : yk b s with
    | nil => exact absurd hc (x5 b s)
    | cons p r =>
     rw [hc] at ih
     rw [yJ b x s p r h hc]
     simp only [yj, List.length_cons] at ih ⊢; omega
theorem pe (b : UInt8) (s : Str) : (yo b s).1.length ≤ s.length ∧ (yo b s).2.1.length ≤ s.length := by
 have h := ru b s
 have h2 := congrArg List.length h
 rw [List.length_append] at h2
 cases hc : (yo b s).2.2 with
 | true => rw [hc] at h2; simp only [cond_true, List.length_cons] at h2; omega
 | false =>
  have := mN b s hc
  rw [this]; simp only [List.length_nil]; omega
theorem xW : ∀ {ks : List Str} {s : Str}, s ∈ ks → s.length ≤ yj ks
 | k :: ks, s, h => by
  simp only [yj]
  rcases List.mem_cons.1 h with rfl | h
  · omega
  · have := xW h; omega
theorem lD : ∀ a b : List Str, yj (a ++ b) = yj a + yj b
 | [], b => by simp [yj]
 | x :: a, b => by simp only [List.cons_append, yj, lD a b]; omega
theorem j3 : ∀ l : List Str, Lib.lens l = yj l
 | [] => rfl
 | x :: l => by
  have := j3 l
  simp only [yj, ← this]; simp [Lib.lens]
theorem join_le (sep : Str) : ∀ l : List Str, (Lib.join l sep).length ≤ yj l + sep.length * l.length
 | [] => by simp [Lib.join_nil]
 | x :: r => by rw [Lib.join_length, j3]; simp only [List.length_cons, Nat.mul_add, Nat.mul_one]; omega
theorem mA (sep : Str) (x : Str) (l : List Str) (y : Str) : Lib.join (x :: l ++ [y]) sep = Lib.join (x :: l) sep ++ (sep ++ y) := by
 rw [List.cons_append, Lib.join_cons, Lib.join_cons]; simp [Lib.joinTail]
structure Ver where
 maj : Int
 min : Int
 pat : Int
 pre : List Str
def Ver.enc (v : Ver) : List T := [.int .i64 v.maj, .int .i64 v.min, .int .i64 v.pat, .list 1 (strs v.pre)]
def Ver.zero : Ver := ⟨0, 0, 0, []⟩
def preB (b : UInt8) : Bool := (B2 (nb b) 97 122 || B2 (nb b) 48 57) || (B2 (nb b) 65 90 || nb b == 45)
def isNum (s : Str) : Bool := !(s == []) && s.all isD
def wi (p : Str) : Bool := B2 (p.length : Int) 1 20 && (p.all preB && (!(isNum p) || decide (0 ≤ zF p)))
def n9 (n : Int) : Bool := B2 n 0 999999999
def yz (v : Ver) : Bool := (n9 v.maj && (n9 v.min && n9 v.pat)) && (v.pre.all wi && decide ((v.pre.length : Int) ≤ 5))
def vf (v : Ver) : Str := (((Lib.itoa v.maj ++ [46]) ++ Lib.itoa v.min) ++ [46]) ++ Lib.itoa v.pat
def w6 (c : Str) (pre : List Str) : Str := cond (pre == []) c (c ++ ([45] ++ Lib.join pre [46]))
def yc (v : Ver) : Str := cond (yz v) (w6 (vf v) v.pre) []
def xT (s : Str) : Option Ver :=
 match yk 46 (yo 45 s).1 with
 | [a, b, c] => some ⟨zF a, zF b, zF c, cond (yo 45 s).2.2 (yk 46 (yo 45 s).2.1) []⟩
 | _ => none
def zx (s : Str) : Ver × Bool :=
 match xT s with
 | some v => cond (yc v == s) (v, true) (Ver.zero, false)
 | none => (Ver.zero, false)
theorem eK {s : Str} {v : Ver} (h : xT s = some v) : s ≠ [] := by
 intro e; subst e; simp [xT, yo, yk] at h
theorem yl {s : Str} (h : (zx s).2 = true) : xT s = some (zx s).1 ∧ yc (zx s).1 = s ∧ yz (zx s).1 = true ∧ s ≠ [] := by
 unfold zx at h ⊢
 cases hm : xT s with
 | none => rw [hm] at h; cases h
 | some v =>
  rw [hm] at h
  simp only at h ⊢
  have hs := eK hm
  cases hc : (yc v == s) with
  | false => rw [hc] at h; cases h
  | true =>
   have he := eq_of_beq hc
   simp only [cond_true]
   refine ⟨trivial, he, ?_, hs⟩
   cases hv : yz v with
   | true => rfl
   | false => unfold yc at he; rw [hv] at he; exact absurd he.symm hs
theorem kb {s : Str} (h : (zx s).2 = false) : (zx s).1 = Ver.zero := by
 unfold zx at h ⊢
 cases hm : xT s with
 | none => rfl
 | some v =>
  rw [hm] at h
  simp only at h ⊢
  cases hc : (yc v == s) with
  | true => rw [hc] at h; cases h
  | false => rfl
theorem oh (n : Int) : n9 n = true ↔ 0 ≤ n ∧ n ≤ 999999999 := by simp [n9]
theorem w3 {v : Ver} (h : yz v = true) : (0 ≤ v.maj ∧ v.maj ≤ 999999999) ∧ (0 ≤ v.min ∧ v.min ≤ 999999999) ∧ (0 ≤ v.pat ∧ v.pat ≤ 999999999) ∧ v.pre.all wi = true ∧ v.pre.length ≤ 5 := by
 unfold yz at h
 simp only [Bool.and_eq_true, oh, decide_eq_true_eq] at h
 obtain ⟨⟨h1, h2, h3⟩, h4, h5⟩ := h
 exact ⟨h1, h2, h3, h4, by omega⟩
theorem xx (s : Str) : -1 ≤ zF s ∧ zF s ≤ 999999999 := by
 unfold zF
 split
 · rename_i v _
   cases hc : ((decide (0 ≤ v) && decide (v ≤ 999999999)) && (Lib.itoa v == s)) with
   | false => simp
   | true =>
    simp only [Bool.and_eq_true, decide_eq_true_eq] at hc
    simp only [cond_true]; omega
 · simp
/-- with one number more behind -/
def sJ (v : Ver) : Ver := ⟨v.maj, v.min, v.pat, v.pre ++ [[48]]⟩
theorem YI (c : Str) (x : Str) (l : List Str) : w6 c ((x :: l) ++ [[48]]) = w6 c (x :: l) ++ [46, 48] := by
 unfold w6
 rw [mA]
 simp
theorem beq_nil_cons {α : Type} [BEq α] (x : α) (l : List α) : ((x :: l) == []) = false := rfl
/-- a version's text with '.0' behind is read as the version with one part more, where that is right -/
theorem kL {s : Str} (h : (zx s).2 = true) (hp : (zx s).1.pre ≠ []) :
 zx (s ++ [46, 48]) = cond (yz (sJ (zx s).1)) (sJ (zx s).1, true) (Ver.zero, false) ∧ yc (sJ (zx s).1) = cond (yz (sJ (zx s).1)) (s ++ [46, 48]) [] := by
 obtain ⟨hm, ht, ho, hs⟩ := yl h
 generalize (zx s).1 = v at *
 have hmk : xT (s ++ [46, 48]) = some (sJ v) := by
  unfold xT at hm ⊢
  have he := ru 45 s
  have hn := lA 45 s
  cases hc : (yo 45 s).2.2 with
  | false =>
   rw [hc] at hm
   split at hm
   · cases hm; exact absurd rfl hp
   · cases hm
  | true =>
   rw [hc] at hm he
   simp only [cond_true] at he
   have h2 : yo 45 (s ++ [46, 48]) = ((yo 45 s).1, (yo 45 s).2.1 ++ [46, 48], true) := by
    conv => lhs; rw [he]
    rw [List.append_assoc, List.cons_append]
    exact lB 45 _ _ hn
   rw [h2]
   simp only
   split at hm
   · cases hm
     simp only [cond_true]
     rw [show (yo 45 s).2.1 ++ [46, 48] = (yo 45 s).2.1 ++ 46 :: [48] from rfl, uR]
     rfl
   · cases hm
 have htx : yc (sJ v) = cond (yz (sJ v)) (s ++ [46, 48]) [] := by
  have ht' := ht
  unfold yc at ht' ⊢
  rw [ho] at ht'
  simp only [cond_true] at ht'
  congr 1
  rw [← ht']
  cases hv : v.pre with
  | nil => exact absurd hv hp
  | cons x l =>
   show w6 (vf v) (v.pre ++ [[48]]) = _
   rw [hv]
   exact YI _ x l
 refine ⟨?_, htx⟩
 unfold zx
 rw [hmk]
 simp only
 rw [htx]
 cases hk : yz (sJ v) with
 | true => simp
 | false =>
  simp only [cond_false]
  have : (([] : Str) == s ++ [46, 48]) = false := by rw [beq_eq_false_iff_ne]; intro e; have := congrArg List.length e; simp at this
  rw [this]; rfl
/-- the text that a version ends ahead of, where it stands alone -/
def yg (a b c : Int) : Str := yc ⟨a, b, c, [[48]]⟩
def rE (v : Ver) : Str := cond (v.pre == []) (yg v.maj v.min (v.pat + 1)) (yc (sJ v))
def wS (s : Str) : Option (Str × Str) := cond ((zx s).2 && !(rE (zx s).1 == [])) (some (s, rE (zx s).1)) none
def upV (v : Ver) (part : Int) : Ver := cond (part == 0) ⟨v.maj + 1, 0, 0, []⟩ (cond (part == 1) ⟨v.maj, v.min + 1, 0, []⟩ ⟨v.maj, v.min, cond (v.pre == []) (v.pat + 1) v.pat, []⟩)
def wR (v : Ver) (part : Int) : Ver := cond (!(yz v) || !(B2 part 0 2)) v (cond (yz (upV v part)) (upV v part) v)
def yR (a b : Int) : Int := cond (decide (a < b)) (-1) (cond (decide (a > b)) 1 0)
def rV (a b : Str) : Int := cond (Op.bytesLess a b) (-1) (cond (!(Op.bytesLess a b || a == b)) 1 0)
def ub (a b : Str) : Int := cond (decide (zF a ≥ 0) && decide (zF b ≥ 0)) (yR (zF a) (zF b)) (cond (decide (zF a ≥ 0)) (-1) (cond (decide (zF b ≥ 0)) 1 (rV a b)))
/-- the first place at which parts differ -/
def uf : List Str → List Str → Option Int
 | a :: l, b :: m => cond (ub a b == 0) (uf l m) (some (ub a b))
 | _, _ => none
def vg (a b : List Str) : Int := (uf a b).getD (yR (a.length : Int) (b.length : Int))
def uz (a b : Ver) : Int :=
 cond (yR a.maj b.maj == 0) (cond (yR a.min b.min == 0) (cond (yR a.pat b.pat == 0)
  (cond (a.pre == [] || b.pre == []) (yR (b.pre.length : Int) (a.pre.length : Int)) (vg a.pre b.pre))
  (yR a.pat b.pat)) (yR a.min b.min)) (yR a.maj b.maj)
theorem vw (a b : Int) : (yR a b == 0) = (a == b) := by
 unfold yR
 by_cases h1 : a < b
 · simp [h1]; omega
 · by_cases h2 : a > b
   · simp [h1, h2]; omega
   · simp [h1, h2]; omega
theorem uS (a b c a' b' c' : Int) : (uz ⟨a, b, c, []⟩ ⟨a', b', c', []⟩ == 0) = (a == a' && (b == b' && c == c')) := by
 unfold uz
 simp only [vw]
 cases h1 : (a == a') with
 | false => simp only [cond_false]; rw [vw, h1]; rfl
 | true =>
  cases h2 : (b == b') with
  | false => simp only [cond_true, cond_false]; rw [vw, h2]; rfl
  | true =>
   cases h3 : (c == c') with
   | false => simp only [cond_true, cond_false]; rw [vw, h3]; rfl
   | true => rfl
def x8 (v : Ver) : Ver := ⟨v.maj, v.min, v.pat, []⟩
def vj (v : Ver) (part : Int) : Str × Bool := cond (uz (wR (x8 v) part) (x8 v) == 0) ([], false) (yc ⟨(wR (x8 v) part).maj, (wR (x8 v) part).min, (wR (x8 v) part).pat, [[48]]⟩, true)
theorem S6 : wi [48] = true := by
 unfold wi
 have h1 : ([48] : Str).all preB = true := by decide
 have h2 : decide (0 ≤ zF [48]) = true := by
  have := (vt (u := 0) (by omega)).1
  rw [show Lib.decDigits 0 = [48] by rw [Lib.decDigits_one (by omega)]; rfl] at this
  rw [this]; rfl
 rw [h1, h2]; simp
theorem cE (v : Ver) : yz (x8 v) = (n9 v.maj && (n9 v.min && n9 v.pat)) := by simp [yz, x8]
theorem vD (a b c : Int) : yz ⟨a, b, c, [[48]]⟩ = (n9 a && (n9 b && n9 c)) := by simp [yz, S6]
theorem ti (a b c : Int) : (yg a b c == []) = !(n9 a && (n9 b && n9 c)) := by
 unfold yg yc
 rw [vD]
 cases (n9 a && (n9 b && n9 c)) with
 | false => rfl
 | true => simp [w6, vf]
/-- the next one of a part is told by both in one way -/
theorem vL {v : Ver} (ho : yz v = true) (part : Int) (hp : part = 0 ∨ part = 1 ∨ part = 2) :
 vj v part = (let h := yg (cond (part == 0) (v.maj + 1) v.maj) (cond (part == 0) 0 (cond (part == 1) (v.min + 1) v.min)) (cond (part == 2) (v.pat + 1) 0); (h, !(h == []))) := by
 obtain ⟨h1, h2, h3, _, _⟩ := w3 ho
 have hb : yz (x8 v) = true := by
  rw [cE]; simp only [Bool.and_eq_true, oh]; exact ⟨h1, h2, h3⟩
 have n1 : n9 v.maj = true := (oh _).2 h1
 have n2 : n9 v.min = true := (oh _).2 h2
 have n3 : n9 v.pat = true := (oh _).2 h3
 have n0 : n9 0 = true := by decide
 unfold vj wR
 rw [hb]
 rcases hp with rfl | rfl | rfl
 · have e : upV (x8 v) 0 = ⟨v.maj + 1, 0, 0, []⟩ := rfl
   rw [e]
   simp only [Bool.not_true, Bool.false_or, show B2 0 0 2 = true from rfl, cond_false]
   rw [show yz ⟨v.maj + 1, 0, 0, []⟩ = n9 (v.maj + 1) by simp [yz, n0]]
   simp only [show ((0 : Int) == 0) = true from rfl, cond_true, show ((0 : Int) == 2) = false from rfl, cond_false]
   rw [ti, n0]
   cases hn : n9 (v.maj + 1) with
   | true =>
    have : (v.maj + 1 == v.maj) = false := by rw [beq_eq_false_iff_ne]; omega
    simp only [cond_true, x8, uS, this]
    simp [yg]
   | false =>
    simp [uS, yg, yc, vD, hn, x8]
 · have e : upV (x8 v) 1 = ⟨v.maj, v.min + 1, 0, []⟩ := rfl
   rw [e]
   simp only [Bool.not_true, Bool.false_or, show B2 1 0 2 = true from rfl, cond_false]
   rw [show yz ⟨v.maj, v.min + 1, 0, []⟩ = n9 (v.min + 1) by simp [yz, n0, n1]]
   simp only [show ((1 : Int) == 0) = false from rfl, show ((1 : Int) == 1) = true from rfl, cond_true, show ((1 : Int) == 2) = false from rfl, cond_false]
   rw [ti, n0, n1]
   cases hn : n9 (v.min + 1) with
   | true =>
    have : (v.min + 1 == v.min) = false := by rw [beq_eq_false_iff_ne]; omega
    simp only [cond_true, x8, uS, this]
    simp [yg]
   | false =>
    simp [uS, yg, yc, vD, hn, x8]
 · have e : upV (x8 v) 2 = ⟨v.maj, v.min, v.pat + 1, []⟩ := rfl
   rw [e]
   simp only [Bool.not_true, Bool.false_or, show B2 2 0 2 = true from rfl, cond_false]
   rw [show yz ⟨v.maj, v.min, v.pat + 1, []⟩ = n9 (v.pat + 1) by simp [yz, n1, n2]]
   simp only [show ((2 : Int) == 0) = false from rfl, show ((2 : Int) == 1) = false from rfl, cond_true, show ((2 : Int) == 2) = true from rfl, cond_false]
   rw [ti, n1, n2]
   cases hn : n9 (v.pat + 1) with
   | true =>
    have : (v.pat + 1 == v.pat) = false := by rw [beq_eq_false_iff_ne]; omega
    simp only [cond_true, x8, uS, this]
    simp [yg]
   | false =>
    simp [uS, yg, yc, vD, hn, x8]
end Go.Proofs.YtijninlbpifonaaGreatDoor
/- Numbers' texts, by both. Conditions: those of each lemma. -/
namespace Go.Proofs.YtijninlbpifonaaGreatDoor
open E
set_option linter.unusedSimpArgs false
set_option linter.unusedVariables false
set_option maxRecDepth 100000
theorem my : ∀ (k u : Nat), 1 ≤ k → u < 10 ^ k → Lib.nDigits u ≤ k
 | 0, u, h, _ => by omega
 | k + 1, u, _, h => by
  rw [Lib.nDigits]
  split
  · omega
  · have h10 : u / 10 < 10 ^ k := by rw [Nat.pow_succ] at h; omega
    have hk : 1 ≤ k := by
     rcases Nat.eq_zero_or_pos k with rfl | h
     · simp at h10; omega
     · exact h
    have := my k (u / 10) hk h10
    omega
theorem wA (n : Int) (h0 : 0 ≤ n) (h1 : n ≤ 999999999) : (Lib.itoa n).length ≤ 9 := by
 obtain ⟨u, rfl⟩ : ∃ u : Nat, n = u := ⟨n.toNat, by omega⟩
 rw [Lib.itoa_nonneg, Lib.decDigits_length]
 exact my 9 u (by omega) (by omega)
theorem gy (n : Int) (h0 : 0 ≤ n) (h1 : n ≤ 999999999) : zE (EV Tryz.prog pol) 243 [.t (.int .i64 n)] = some (.t (.str (Lib.itoa n))) := by
 have h := QC n (by omega) (by omega)
 apply zz
 refine zA rfl Tryz.func243 rfl (by kernel_rfl) ?_
 unfold Tryz.f243
 simp only [↓GO, ↓DRW, GA, ren, zG, zd, refs, zb, cst, zl, zM, z7, E.load, E.store, zL, isC, bin, zN, zO, una, z8, za, zh, zP, blt, fnV, asArg, ze, zn, zo, zj, zm, zg, zk, zu, z6, zK, zJ, E.mkS, zc, unN, zQ, zi, zw, zq, zC, zI, zf, zR, zr, GS, simprocAttr, h]
/-- the digits of a number, none for 0 -/
def Yc (m : Nat) : Str := if m = 0 then [] else Lib.decDigits m
theorem Xg (m : Nat) (h : m ≠ 0) : Yc m = Yc (m / 10) ++ [UInt8.ofNat (48 + m % 10)] := by
 unfold Yc
 rw [if_neg h]
 by_cases h10 : m < 10
 · rw [if_pos (by omega), Lib.decDigits_one h10, show m % 10 = m by omega]; rfl
 · rw [if_neg (by omega)]
   conv => lhs; rw [Lib.decDigits]
   rw [dif_neg h10]
theorem VK (d : Nat) (h : d < 10) : (List.drop d [48, 49, 50, 51, 52, 53, 54, 55, 56, 57]).take (d + 1 - d) = [UInt8.ofNat (48 + d)] := by
 have : d = 0 ∨ d = 1 ∨ d = 2 ∨ d = 3 ∨ d = 4 ∨ d = 5 ∨ d = 6 ∨ d = 7 ∨ d = 8 ∨ d = 9 := by omega
 rcases this with rfl | rfl | rfl | rfl | rfl | rfl | rfl | rfl | rfl | rfl <;> rfl
theorem RR (n : Int) : ∀ (N m : Nat) (out : Str), m ≤ N → m ≤ 999999999 → out.length + m ≤ 1000000000 →
 EV Tryz.prog pol (.loop 256 124 0 [.t (.int .i64 n), .t (.str out), .t (.int .i64 (m : Int))] [])
 = some (.loop (.exit 0) [.t (.int .i64 n), .t (.str (Yc m ++ out))] [])
 | N, 0, out, h, h1, h2 => by
  refine zD Tryz.func256 rfl rfl ?_
  simp only [↓GO, ↓DRW, GA, ren, zG, zd, refs, zb, cst, zl, zM, z7, E.load, E.store, zL, isC, bin, zN, zO, una, z8, za, zh, zP, blt, fnV, asArg, ze, zn, zo, zj, zm, zg, zk, zu, z6, zK, zJ, E.mkS, zc, unN, zQ, zi, zw, zq, zC, zI, zf, zR, zr, GS, simprocAttr, Int.natCast_zero, bne_self_eq_false, Yc, if_true]
 | 0, m + 1, out, h, h1, h2 => by omega
 | N + 1, m + 1, out, h, h1, h2 => by
  generalize hm : m + 1 = x at *
  have c : (((x : Nat) : Int) == 0) = false := by simp; omega
  have e1 : ((x : Nat) : Int).tmod 10 = ((x % 10 : Nat) : Int) := (Int.ofNat_tmod x 10).symm
  have e2 : ((x : Nat) : Int).tdiv 10 = ((x / 10 : Nat) : Int) := (Int.ofNat_tdiv x 10).symm
  have hd : x % 10 < 10 := Nat.mod_lt _ (by omega)
  have c2 : decide (((x % 10 : Nat) : Int) < 0) = false := by simp only [decide_eq_false_iff_not]; omega
  have hdig := VK (x % 10) hd
  have IH := RR n N (x / 10) (UInt8.ofNat (48 + x % 10) :: out) (by omega) (by omega) (by simp only [List.length_cons]; omega)
  rw [Xg x (by omega), List.append_assoc]
  rw [show [UInt8.ofNat (48 + x % 10)] ++ out = UInt8.ofNat (48 + x % 10) :: out from rfl]
  generalize UInt8.ofNat (48 + x % 10) = bd at *
  have w1 : IntKind.i64.wrap (((x % 10 : Nat) : Int) + 1) = ((x % 10 + 1 : Nat) : Int) := by rw [zB (by omega)]; omega
  have w2 : IntKind.i64.wrap ((x / 10 : Nat) : Int) = ((x / 10 : Nat) : Int) := zB (by omega)
  generalize x % 10 = xd at *
  generalize x / 10 = xq at *
  refine zD Tryz.func256 rfl rfl ?_
  simp (disch := ((try simp only [LL]); omega)) only [↓GO, ↓DRW, GA, ren, zG, zd, refs, zb, cst, zl, zM, z7, E.load, E.store, zL, isC, bin, zN, zO, una, z8, za, zh, zP, blt, fnV, asArg, ze, zn, zo, zj, zm, zg, zk, zu, z6, zK, zJ, E.mkS, zc, unN, zQ, zi, zw, zq, zC, zI, zf, zR, zr, GS, simprocAttr, bne, c, e1, e2, c2, w1, w2, hdig, wk, IH]
theorem gx (n : Int) (h0 : 0 ≤ n) (h1 : n ≤ 999999999) : zE (EV Tryz.prog pol) 256 [.t (.int .i64 n)] = some (.t (.str (Lib.itoa n))) := by
 obtain ⟨u, rfl⟩ : ∃ u : Nat, n = u := ⟨n.toNat, by omega⟩
 have IH := RR u u u [] (Nat.le_refl _) (by omega) (by simp; omega)
 rw [List.append_nil] at IH
 rw [Lib.itoa_nonneg]
 have c2 : decide ((u : Int) < 0) = false := by simp only [decide_eq_false_iff_not]; omega
 apply zz
 refine zA rfl Tryz.func256 rfl (by kernel_rfl) ?_
 unfold Tryz.f256
 by_cases hu : u = 0
 · subst hu
   rw [show Lib.decDigits 0 = [48] by rw [Lib.decDigits_one (by omega)]; rfl]
   simp only [↓GO, ↓DRW, GA, ren, zG, zd, refs, zb, cst, zl, zM, z7, E.load, E.store, zL, isC, bin, zN, zO, una, z8, za, zh, zP, blt, fnV, asArg, ze, zn, zo, zj, zm, zg, zk, zu, z6, zK, zJ, E.mkS, zc, unN, zQ, zi, zw, zq, zC, zI, zf, zR, zr, GS, simprocAttr, Int.natCast_zero]
 · have c : ((u : Int) == 0) = false := by simp; omega
   rw [show Lib.decDigits u = Yc u by simp [Yc, hu]]
   simp only [↓GO, ↓DRW, GA, ren, zG, zd, refs, zb, cst, zl, zM, z7, E.load, E.store, zL, isC, bin, zN, zO, una, z8, za, zh, zP, blt, fnV, asArg, ze, zn, zo, zj, zm, zg, zk, zu, z6, zK, zJ, E.mkS, zc, unN, zQ, zi, zw, zq, zC, zI, zf, zR, zr, GS, simprocAttr, c, IH, c2]
end Go.Proofs.YtijninlbpifonaaGreatDoor
/- The number of a text, by both. Conditions: those of each lemma. -/
namespace Go.Proofs.YtijninlbpifonaaGreatDoor
open E
set_option linter.unusedSimpArgs false
set_option linter.unusedVariables false
set_option maxRecDepth 100000
theorem aR (c : UInt8) : B2 (c.toNat : Int) 48 57 = isD c := by
 unfold B2 isD
 congr 1 <;> rw [decide_eq_decide] <;> omega
theorem lY (s : Str) (hl : s.length ≤ 281474976710656) : zE (EV Tryz.prog pol) 163 [.t (.str s)] = some (.t (.int .i64 (zF s))) := by
 have hat := QG s hl
 apply zz
 refine zA rfl Tryz.func163 rfl (by kernel_rfl) ?_
 unfold Tryz.f163
 unfold zF
 cases ha : Lib.atoiAll s with
 | range => rw [ha] at hat; simp only at hat ⊢; simp (disch := ((try simp only [LL]); omega)) only [↓GO, ↓DRW, GA, ren, zG, zd, refs, zb, cst, zl, zM, z7, E.load, E.store, zL, isC, bin, zN, zO, una, z8, za, zh, zP, blt, fnV, asArg, ze, zn, zo, zj, zm, zg, zk, zu, z6, zK, zJ, E.mkS, zc, unN, zQ, zi, zw, zq, zC, zI, zf, zR, zr, GS, simprocAttr, hat]
 | ok v =>
  rw [ha] at hat
  simp only at hat ⊢
  have hw := uT v 0 999999999
  rw [show B2 v 0 999999999 = (decide (0 ≤ v) && decide (v ≤ 999999999)) from rfl] at hw
  cases hb : (decide (0 ≤ v) && decide (v ≤ 999999999)) with
  | false => rw [hb] at hw; simp (disch := ((try simp only [LL]); omega)) only [↓GO, ↓DRW, GA, ren, zG, zd, refs, zb, cst, zl, zM, z7, E.load, E.store, zL, isC, bin, zN, zO, una, z8, za, zh, zP, blt, fnV, asArg, ze, zn, zo, zj, zm, zg, zk, zu, z6, zK, zJ, E.mkS, zc, unN, zQ, zi, zw, zq, zC, zI, zf, zR, zr, GS, simprocAttr, hat, hw]
  | true =>
   rw [hb] at hw
   simp only [Bool.and_eq_true, decide_eq_true_eq] at hb
   have hd := gy v hb.1 hb.2
   cases he : (Lib.itoa v == s) <;> simp (disch := ((try simp only [LL]); omega)) only [↓GO, ↓DRW, GA, ren, zG, zd, refs, zb, cst, zl, zM, z7, E.load, E.store, zL, isC, bin, zN, zO, una, z8, za, zh, zP, blt, fnV, asArg, ze, zn, zo, zj, zm, zg, zk, zu, z6, zK, zJ, E.mkS, zc, unN, zQ, zi, zw, zq, zC, zI, zf, zR, zr, GS, simprocAttr, bne, hat, hw, hd, he]
 | _ => rw [ha] at hat; simp only at hat ⊢; simp (disch := ((try simp only [LL]); omega)) only [↓GO, ↓DRW, GA, ren, zG, zd, refs, zb, cst, zl, zM, z7, E.load, E.store, zL, isC, bin, zN, zO, una, z8, za, zh, zP, blt, fnV, asArg, ze, zn, zo, zj, zm, zg, zk, zu, z6, zK, zJ, E.mkS, zc, unN, zQ, zi, zw, zq, zC, zI, zf, zR, zr, GS, simprocAttr, hat]
theorem RL (s : Str) (hl : s.length ≤ 9) : ∀ (rest pre : Str), s = pre ++ rest → pre.all isD = true →
 ∃ m : V, EV Tryz.prog pol (.loop 192 58 0 [.t (.str s), .t (.int .i64 (uy 0 pre : Nat)), .t (.int .i64 (pre.length : Int))] [])
 = some (cond (rest.all isD) (.loop (.exit 0) [.t (.str s), .bad, .t (.int .i64 (uy 0 s : Nat))] []) (.loop .ret [.t (.str s), .t (.int .i64 (-1)), m] []))
 | [], pre, hs, hd => by
  have c : decide ((pre.length : Int) < (s.length : Int)) = false := by simp [hs]
  have hp : s = pre := by simpa using hs
  refine ⟨.bad, zD Tryz.func192 rfl rfl ?_⟩
  simp only [↓GO, ↓DRW, GA, ren, zG, zd, refs, zb, cst, zl, zM, z7, E.load, E.store, zL, isC, bin, zN, zO, una, z8, za, zh, zP, blt, fnV, asArg, ze, zn, zo, zj, zm, zg, zk, zu, z6, zK, zJ, E.mkS, zc, unN, zQ, zi, zw, zq, zC, zI, zf, zR, zr, GS, simprocAttr, c]
  rw [hp]
 | b :: rest, pre, hs, hd => by
  have c : decide ((pre.length : Int) < (s.length : Int)) = true := by simp [hs]; omega
  have hget : s[pre.length]? = some b := by rw [hs]; exact tM pre b rest
  have hlen : s.length = pre.length + rest.length + 1 := by rw [hs]; simp; omega
  have hin := xP (b.toNat : Int) 48 57
  rw [aR] at hin
  have c9 : decide ((s.length : Int) > 9) = false := by simp only [decide_eq_false_iff_not]; omega
  have hv := nF pre 0 hd
  have hp10 : (10 : Nat) ^ pre.length ≤ 10 ^ 9 := Nat.pow_le_pow_right (by omega) (by omega)
  have e9 : (10 : Nat) ^ 9 = 1000000000 := by decide
  have hb8 := Ty b
  cases hb : isD b with
  | false =>
   rw [hb] at hin
   refine ⟨.t (.int .i64 (uy 0 pre : Nat)), zD Tryz.func192 rfl rfl ?_⟩
   clear hs hlen
   simp (disch := omega) only [↓GO, ↓DRW, GA, ren, zG, zd, refs, zb, cst, zl, zM, z7, E.load, E.store, zL, isC, bin, zN, zO, una, z8, za, zh, zP, blt, fnV, asArg, ze, zn, zo, zj, zm, zg, zk, zu, z6, zK, zJ, E.mkS, zc, unN, zQ, zi, zw, zq, zC, zI, zf, zR, zr, GS, simprocAttr, c, hget, zB, conv, wrap_u8, hin, List.all_cons, hb]
  | true =>
   rw [hb] at hin
   have hd2 : (pre ++ [b]).all isD = true := by rw [List.all_append, hd]; simp [hb]
   obtain ⟨m, IH⟩ := RL s hl rest (pre ++ [b]) (by rw [hs]; simp) hd2
   have hbb := (pj b).1 hb
   have hst : ((uy 0 (pre ++ [b]) : Nat) : Int) = 10 * ((uy 0 pre : Nat) : Int) + (b.toNat : Int) - 48 := by
    rw [kE, qo]; omega
   rw [hst, show ((pre ++ [b]).length : Int) = (pre.length : Int) + 1 by simp] at IH
   have hpl : pre.length ≤ 9 := by omega
   generalize uy 0 pre = vp at *
   generalize uy 0 s = vs at *
   clear hs hlen hst
   refine ⟨m, zD Tryz.func192 rfl rfl ?_⟩
   simp (disch := omega) only [↓GO, ↓DRW, GA, ren, zG, zd, refs, zb, cst, zl, zM, z7, E.load, E.store, zL, isC, bin, zN, zO, una, z8, za, zh, zP, blt, fnV, asArg, ze, zn, zo, zj, zm, zg, zk, zu, z6, zK, zJ, E.mkS, zc, unN, zQ, zi, zw, zq, zC, zI, zf, zR, zr, GS, simprocAttr, c, hget, zB, conv, wrap_u8, hin, List.all_cons, hb, c9, IH]
theorem l_rdL (s : Str) (h9 : 9 < s.length) (hl : s.length ≤ 281474976710656) :
 EV Tryz.prog pol (.loop 192 58 0 [.t (.str s), .t (.int .i64 0), .t (.int .i64 0)] []) = some (.loop .ret [.t (.str s), .t (.int .i64 (-1)), .t (.int .i64 0)] []) := by
 cases s with
 | nil => simp at h9
 | cons b r =>
  have c : decide ((0 : Int) < ((b :: r).length : Int)) = true := by simp only [decide_eq_true_eq]; omega
  have c9 : decide (((b :: r).length : Int) > 9) = true := by simp only [decide_eq_true_eq]; omega
  have hget : (b :: r)[0]? = some b := rfl
  have hin := xP (b.toNat : Int) 48 57
  rw [aR] at hin
  have hb8 := Ty b
  generalize (b :: r) = s at *
  refine zD Tryz.func192 rfl rfl ?_
  cases hb : isD b with
  | false => rw [hb] at hin; simp (disch := omega) only [↓GO, ↓DRW, GA, ren, zG, zd, refs, zb, cst, zl, zM, z7, E.load, E.store, zL, isC, bin, zN, zO, una, z8, za, zh, zP, blt, fnV, asArg, ze, zn, zo, zj, zm, zg, zk, zu, z6, zK, zJ, E.mkS, zc, unN, zQ, zi, zw, zq, zC, zI, zf, zR, zr, GS, simprocAttr, c, uE, hget, zB, conv, wrap_u8, hin]
  | true => rw [hb] at hin; simp (disch := omega) only [↓GO, ↓DRW, GA, ren, zG, zd, refs, zb, cst, zl, zM, z7, E.load, E.store, zL, isC, bin, zN, zO, una, z8, za, zh, zP, blt, fnV, asArg, ze, zn, zo, zj, zm, zg, zk, zu, z6, zK, zJ, E.mkS, zc, unN, zQ, zi, zw, zq, zC, zI, zf, zR, zr, GS, simprocAttr, c, uE, hget, zB, conv, wrap_u8, hin, c9]
theorem iC (s : Str) (hl : s.length ≤ 281474976710656) : zE (EV Tryz.prog pol) 192 [.t (.str s)] = some (.t (.int .i64 (zF s))) := by
 rw [← YN]
 apply zz
 refine zA rfl Tryz.func192 rfl (by kernel_rfl) ?_
 unfold Tryz.f192
 unfold r9
 by_cases h9 : s.length ≤ 9
 · obtain ⟨m, IH⟩ := RL s h9 s [] rfl rfl
   simp only [List.length_nil, Int.natCast_zero, mW] at IH
   have e9 : decide (s.length ≤ 9) = true := by simpa using h9
   have hv := nF s 0
   have hp10 : (10 : Nat) ^ s.length ≤ 10 ^ 9 := Nat.pow_le_pow_right (by omega) h9
   have e10 : (10 : Nat) ^ 9 = 1000000000 := by decide
   cases ha : s.all isD with
   | false => rw [ha] at IH; simp only [cond_false] at IH; simp (disch := ((try simp only [LL]); omega)) only [↓GO, ↓DRW, GA, ren, zG, zd, refs, zb, cst, zl, zM, z7, E.load, E.store, zL, isC, bin, zN, zO, una, z8, za, zh, zP, blt, fnV, asArg, ze, zn, zo, zj, zm, zg, zk, zu, z6, zK, zJ, E.mkS, zc, unN, zQ, zi, zw, zq, zC, zI, zf, zR, zr, GS, simprocAttr, IH]
   | true =>
    rw [ha] at IH; simp only [cond_true] at IH
    have hv' := hv ha
    have hd := gx (uy 0 s : Nat) (by omega) (by omega)
    cases hn : (s == []) with
    | true => simp (disch := ((try simp only [LL]); omega)) only [↓GO, ↓DRW, GA, ren, zG, zd, refs, zb, cst, zl, zM, z7, E.load, E.store, zL, isC, bin, zN, zO, una, z8, za, zh, zP, blt, fnV, asArg, ze, zn, zo, zj, zm, zg, zk, zu, z6, zK, zJ, E.mkS, zc, unN, zQ, zi, zw, zq, zC, zI, zf, zR, zr, GS, simprocAttr, IH, e9, hn]
    | false =>
     cases he : (Lib.itoa (uy 0 s : Nat) == s) <;> simp (disch := ((try simp only [LL]); omega)) only [↓GO, ↓DRW, GA, ren, zG, zd, refs, zb, cst, zl, zM, z7, E.load, E.store, zL, isC, bin, zN, zO, una, z8, za, zh, zP, blt, fnV, asArg, ze, zn, zo, zj, zm, zg, zk, zu, z6, zK, zJ, E.mkS, zc, unN, zQ, zi, zw, zq, zC, zI, zf, zR, zr, GS, simprocAttr, bne, IH, e9, hn, hd, he]
 · have e9 : decide (s.length ≤ 9) = false := by simpa using h9
   have IH := l_rdL s (by omega) (by omega)
   simp (disch := ((try simp only [LL]); omega)) only [↓GO, ↓DRW, GA, ren, zG, zd, refs, zb, cst, zl, zM, z7, E.load, E.store, zL, isC, bin, zN, zO, una, z8, za, zh, zP, blt, fnV, asArg, ze, zn, zo, zj, zm, zg, zk, zu, z6, zK, zJ, E.mkS, zc, unN, zQ, zi, zw, zq, zC, zI, zf, zR, zr, GS, simprocAttr, IH, e9]
end Go.Proofs.YtijninlbpifonaaGreatDoor
/- Names and plain texts, by both; parts between a byte. Conditions: those of each lemma. -/
namespace Go.Proofs.YtijninlbpifonaaGreatDoor
open E
set_option linter.unusedSimpArgs false
set_option linter.unusedVariables false
set_option maxRecDepth 100000
theorem Zm : ∀ p s : Str, (decide ((s.length : Int) ≥ (p.length : Int)) && (s.take p.length == p)) = p.isPrefixOf s
 | [], s => by
  have : decide ((s.length : Int) ≥ (([] : Str).length : Int)) = true := by simp
  rw [this]; simp [List.isPrefixOf]
 | a :: p, [] => by
  have : decide ((([] : Str).length : Int) ≥ ((a :: p).length : Int)) = false := by simp only [decide_eq_false_iff_not, List.length_cons, List.length_nil]; omega
  rw [this]; simp [List.isPrefixOf]
 | a :: p, b :: s => by
  have ih := Zm p s
  have e1 : decide (((b :: s).length : Int) ≥ ((a :: p).length : Int)) = decide ((s.length : Int) ≥ (p.length : Int)) := by
   rw [decide_eq_decide]; simp only [List.length_cons]; omega
  rw [e1, List.isPrefixOf, ← ih, List.length_cons, List.take_succ_cons]
  by_cases h : b = a
  · subst h
    have : (b :: List.take p.length s == b :: p) = (List.take p.length s == p) := by rw [Bool.eq_iff_iff]; simp
    rw [this]; simp
  · have h2 : (b :: List.take p.length s == a :: p) = false := by rw [beq_eq_false_iff_ne]; intro e; injection e with e1 e2; exact h e1
    have h3 : (a == b) = false := by rw [beq_eq_false_iff_ne]; exact fun e => h e.symm
    rw [h2, h3]; simp
theorem o9 (s p : Str) (hs : s.length ≤ 9223372036854775807) (hp : p.length ≤ 9223372036854775807) : zE (EV Tryz.prog pol) 285 [.t (.str s), .t (.str p)] = some (.t (.bool (p.isPrefixOf s))) := by
 rw [← Zm]
 apply zz
 refine zA rfl Tryz.func285 rfl (by kernel_rfl) ?_
 unfold Tryz.f285
 cases h : decide ((s.length : Int) ≥ (p.length : Int)) with
 | false => simp (disch := ((try simp only [LL]); omega)) only [↓GO, ↓DRW, GA, ren, zG, zd, refs, zb, cst, zl, zM, z7, E.load, E.store, zL, isC, bin, zN, zO, una, z8, za, zh, zP, blt, fnV, asArg, ze, zn, zo, zj, zm, zg, zk, zu, z6, zK, zJ, E.mkS, zc, unN, zQ, zi, zw, zq, zC, zI, zf, zR, zr, GS, simprocAttr, GZ, h]
 | true =>
  have h2 := of_decide_eq_true h
  simp (disch := ((try simp only [LL]); omega)) only [↓GO, ↓DRW, GA, ren, zG, zd, refs, zb, cst, zl, zM, z7, E.load, E.store, zL, isC, bin, zN, zO, una, z8, za, zh, zP, blt, fnV, asArg, ze, zn, zo, zj, zm, zg, zk, zu, z6, zK, zJ, E.mkS, zc, unN, zQ, zi, zw, zq, zC, zI, zf, zR, zr, GS, simprocAttr, GZ, h]
theorem lC (s p : Str) (hs : s.length ≤ 9223372036854775807) (hp : p.length ≤ 9223372036854775807) : zE (EV Tryz.prog pol) 228 [.t (.str s), .t (.str p)] = some (.t (.bool (p.isPrefixOf s))) := by
 have h := o9 s p hs hp
 apply zz
 refine zA rfl Tryz.func228 rfl (by kernel_rfl) ?_
 unfold Tryz.f228
 simp (disch := ((try simp only [LL]); omega)) only [↓GO, ↓DRW, GA, ren, zG, zd, refs, zb, cst, zl, zM, z7, E.load, E.store, zL, isC, bin, zN, zO, una, z8, za, zh, zP, blt, fnV, asArg, ze, zn, zo, zj, zm, zg, zk, zu, z6, zK, zJ, E.mkS, zc, unN, zQ, zi, zw, zq, zC, zI, zf, zR, zr, GS, simprocAttr, GZ, h]
theorem la : ∀ {p s : Str}, p.isPrefixOf s = true → p.length ≤ s.length
 | [], s, _ => by simp
 | a :: p, [], h => by simp [List.isPrefixOf] at h
 | a :: p, b :: s, h => by
  simp only [List.isPrefixOf, Bool.and_eq_true] at h
  have := la h.2
  simp only [List.length_cons]; omega
theorem bf (s p : Str) (hs : s.length ≤ 9223372036854775807) (hp : p.length ≤ 9223372036854775807) : zE (EV Tryz.prog pol) 286 [.t (.str s), .t (.str p)] = some (.t (.str (cond (p.isPrefixOf s) (s.drop p.length) s))) := by
 have h := o9 s p hs hp
 apply zz
 refine zA rfl Tryz.func286 rfl (by kernel_rfl) ?_
 unfold Tryz.f286
 cases hb : p.isPrefixOf s with
 | false => rw [hb] at h; simp (disch := ((try simp only [LL]); omega)) only [↓GO, ↓DRW, GA, ren, zG, zd, refs, zb, cst, zl, zM, z7, E.load, E.store, zL, isC, bin, zN, zO, una, z8, za, zh, zP, blt, fnV, asArg, ze, zn, zo, zj, zm, zg, zk, zu, z6, zK, zJ, E.mkS, zc, unN, zQ, zi, zw, zq, zC, zI, zf, zR, zr, GS, simprocAttr, GZ, h]
 | true =>
  have h2 := la hb
  rw [hb] at h; simp (disch := ((try simp only [LL]); omega)) only [↓GO, ↓DRW, GA, ren, zG, zd, refs, zb, cst, zl, zM, z7, E.load, E.store, zL, isC, bin, zN, zO, una, z8, za, zh, zP, blt, fnV, asArg, ze, zn, zo, zj, zm, zg, zk, zu, z6, zK, zJ, E.mkS, zc, unN, zQ, zi, zw, zq, zC, zI, zf, zR, zr, GS, simprocAttr, GZ, h]
theorem Xr (s p : Str) (hs : s.length ≤ 9223372036854775807) (hp : p.length ≤ 9223372036854775807) : zE (EV Tryz.prog pol) 230 [.t (.str s), .t (.str p)] = some (.t (.str (cond (p.isPrefixOf s) (s.drop p.length) s))) := by
 have h := bf s p hs hp
 apply zz
 refine zA rfl Tryz.func230 rfl (by kernel_rfl) ?_
 unfold Tryz.f230
 simp (disch := ((try simp only [LL]); omega)) only [↓GO, ↓DRW, GA, ren, zG, zd, refs, zb, cst, zl, zM, z7, E.load, E.store, zL, isC, bin, zN, zO, una, z8, za, zh, zP, blt, fnV, asArg, ze, zn, zo, zj, zm, zg, zk, zu, z6, zK, zJ, E.mkS, zc, unN, zQ, zi, zw, zq, zC, zI, zf, zR, zr, GS, simprocAttr, GZ, h]
theorem TT (s : Str) : cond (([64] : Str).isPrefixOf s) (s.drop ([64] : Str).length) s = yU s := by
 cases s with
 | nil => rfl
 | cons x s =>
  by_cases h : x = 64
  · subst h; simp [List.isPrefixOf, yU]
  · have : (64 == x) = false := by rw [beq_eq_false_iff_ne]; exact fun e => h e.symm
    simp [List.isPrefixOf, yU, h, this]
theorem Ra (b : UInt8) : zE (EV Tryz.prog pol) 232 [.t (.int .u8 (b.toNat : Int))] = some (.t (.bool (vS b))) := by
 have h1 := jJ (b.toNat : Int)
 have h2 := o8 (b.toNat : Int)
 apply zz
 refine zA rfl Tryz.func232 rfl (by kernel_rfl) ?_
 unfold Tryz.f232
 simp only [vS, nb]
 generalize hx : B2 (b.toNat : Int) 97 122 = x1 at *
 generalize hy : B2 (b.toNat : Int) 48 57 = x2 at *
 repeat' (first | (((first | with_reducible refine ur (fun hA => ?_) (fun hA => ?_) | with_reducible refine uq (fun hA => ?_) (fun hA => ?_)) <;> (try simp only [bne, Bool.not_eq_true', Bool.not_eq_false'] at hA) <;> (first | (have hP := Int.le_of_eq (eq_of_beq (α := Int) hA); have hQ := Int.le_of_eq (eq_of_beq (α := Int) hA).symm) | have hP := of_decide_eq_true hA | have hP := of_decide_eq_false hA | skip)) <;> (simp (disch := ((try simp only [LL]); omega)) only [↓GO, ↓DRW, GA, ren, zG, zd, refs, zb, cst, zl, zM, z7, E.load, E.store, zL, isC, bin, zN, zO, una, z8, za, zh, zP, blt, fnV, asArg, ze, zn, zo, zj, zm, zg, zk, zu, z6, zK, zJ, E.mkS, zc, unN, zQ, zi, zw, zq, zC, zI, zf, zR, zr, GS, simprocAttr, zB, bne, *])) | (simp (disch := ((try simp only [LL]); omega)) only [↓GO, ↓DRW, GA, ren, zG, zd, refs, zb, cst, zl, zM, z7, E.load, E.store, zL, isC, bin, zN, zO, una, z8, za, zh, zP, blt, fnV, asArg, ze, zn, zo, zj, zm, zg, zk, zu, z6, zK, zJ, E.mkS, zc, unN, zQ, zi, zw, zq, zC, zI, zf, zR, zr, GS, simprocAttr, zB, bne, *]))
theorem rY (b : UInt8) (s : Str) : sH s [b] = yk b s := by
 rw [← kG]
 unfold sH Lib.split Lib.countB
 rw [Lib.splitB_data]
theorem xm (x : Str) (l : List Str) : strs (x :: l) = [.str x] :: strs l := rfl
theorem uN (a b : List Str) : strs (a ++ b) = strs a ++ strs b := by simp [strs]
theorem yi : strs [] = [] := rfl
/-- a place in a list of texts, told by what stands ahead of it -/
theorem wz (pre : List Str) (x : Str) (rest : List Str) : (strs (pre ++ x :: rest))[pre.length]? = some [.str x] := by
 rw [uN, xm]
 have := tM (strs pre) [T.str x] (strs rest)
 rwa [zH] at this
theorem ZN (s : Str) (sc : Bool) (parts : List Str) (hl : parts.length ≤ 4294967296) (hb : ∀ p ∈ parts, p.length ≤ 4294967296) : ∀ (rest pre : List Str), parts = pre ++ rest →
 EV Tryz.prog pol (.loop 155 58 0 [.t (.str s), .t (.bool sc), .t (.list 1 (strs parts)), .t (.int .i64 (parts.length : Int)), .t (.int .i64 (pre.length : Int))] []) = some (cond (vN (sc && ((pre.length : Int) == 0)) rest) (.loop (.exit 0) [.t (.str s), .bad] []) (.loop .ret [.t (.str s), .t (.bool false)] []))
 | [], pre, hs => by
  have c : decide ((pre.length : Int) < (parts.length : Int)) = false := by simp [hs]
  refine zD Tryz.func155 rfl rfl ?_
  simp only [↓GO, ↓DRW, GA, ren, zG, zd, refs, zb, cst, zl, zM, z7, E.load, E.store, zL, isC, bin, zN, zO, una, z8, za, zh, zP, blt, fnV, asArg, ze, zn, zo, zj, zm, zg, zk, zu, z6, zK, zJ, E.mkS, zc, unN, zQ, zi, zw, zq, zC, zI, zf, zR, zr, GS, simprocAttr, c, vN]
 | x :: rest, pre, hs => by
  have c : decide ((pre.length : Int) < (parts.length : Int)) = true := by simp [hs]; omega
  have hget : (strs parts)[pre.length]? = some [.str x] := by rw [hs]; exact wz pre x rest
  have hlen : pre.length + rest.length + 1 ≤ parts.length := by rw [hs]; simp; omega
  have hx : x.length ≤ 4294967296 := hb x (by rw [hs]; simp)
  have IH := ZN s sc parts hl hb rest (pre ++ [x]) (by rw [hs]; simp)
  have hc := YF 232 vS Ra x (by omega)
  rw [show ((pre ++ [x]).length : Int) = (pre.length : Int) + 1 by simp] at IH
  have e0 : (((pre.length : Int) + 1 == 0)) = false := by rw [beq_eq_false_iff_ne]; omega
  rw [e0, Bool.and_false] at IH
  clear hs hb
  refine zD Tryz.func155 rfl rfl ?_
  rw [vN]
  have hN : (x == rD) = (x == [110, 111, 100, 101, 95, 109, 111, 100, 117, 108, 101, 115]) := rfl
  rw [hN]
  cases ha : x.all vS <;> rw [ha] at hc <;> cases h1 : (x == []) <;> cases h2 : (x == [110, 111, 100, 101, 95, 109, 111, 100, 117, 108, 101, 115]) <;> cases sc <;> cases h3 : ((pre.length : Int) == 0) <;>
   simp (disch := ((try simp only [LL]); omega)) only [↓GO, ↓DRW, GA, ren, zG, zd, refs, zb, cst, zl, zM, z7, E.load, E.store, zL, isC, bin, zN, zO, una, z8, za, zh, zP, blt, fnV, asArg, ze, zn, zo, zj, zm, zg, zk, zu, z6, zK, zJ, E.mkS, zc, unN, zQ, zi, zw, zq, zC, zI, zf, zR, zr, GS, simprocAttr, GZ, c, hget, zB, hc, h1, h2, h3, IH, zH]
theorem R9 (s : Str) (hl : s.length ≤ 1048576) : zE (EV Tryz.prog pol) 155 [.t (.str s)] = some (.t (.bool (tK s))) := by
 have h1 := lC s [64] (by omega) (by simp)
 have h2 := Xr s [64] (by omega) (by simp)
 rw [TT] at h2
 have ht : (yU s).length ≤ s.length := by
  unfold yU; split
  · simp
  · split
    · simp
    · simp
 have hbk := xK 47 (yU s)
 have h3 := pw (yU s) [47] (by omega) (by simp)
 rw [rY] at h3
 have IH := ZN s (nv s) (yk 47 (yU s)) (by omega) (fun p hp => by have := xW hp; omega) _ [] rfl
 rw [show (([64] : Str).isPrefixOf s) = nv s from rfl] at h1
 simp only [List.length_nil, Int.natCast_zero, show ((0 : Int) == 0) = true from rfl, Bool.and_true] at IH
 apply zz
 refine zA rfl Tryz.func155 rfl (by kernel_rfl) ?_
 unfold Tryz.f155
 unfold tK
 cases hp : vN (nv s) (yk 47 (yU s)) <;> rw [hp] at IH <;> simp only [cond_true, cond_false] at IH <;>
  simp (disch := ((try simp only [LL]); omega)) only [↓GO, ↓DRW, GA, ren, zG, zd, refs, zb, cst, zl, zM, z7, E.load, E.store, zL, isC, bin, zN, zO, una, z8, za, zh, zP, blt, fnV, asArg, ze, zn, zo, zj, zm, zg, zk, zu, z6, zK, zJ, E.mkS, zc, unN, zQ, zi, zw, zq, zC, zI, zf, zR, zr, GS, simprocAttr, GZ, h1, h2, h3, zH, IH]
theorem aO (s : Str) (b : UInt8) (hl : s.length ≤ 4294967296) : ∀ (rest cur pre : Str) (out : List Str) (cap : Option Nat) (m : Nat), s = pre ++ (cur ++ rest) → m = pre.length + cur.length → out.length ≤ m →
 ∃ (out' : List Str) (fr : Nat) (cap' : Option Nat), out'.length ≤ s.length ∧ fr ≤ s.length ∧ out' ++ [s.drop fr] = out ++ (match yk b rest with | p :: r => (cur ++ p) :: r | [] => []) ∧
  EV Tryz.prog pol (.loop 191 122 0 [.t (.str s), .t (.int .u8 (b.toNat : Int)), .sl 0 0 out.length cap, .t (.int .i64 (pre.length : Int)), .t (.int .i64 (m : Int))] [.ts 1 (strs out)]) = some (.loop (.exit 0) [.t (.str s), .sl 0 0 out'.length cap', .t (.int .i64 (fr : Int))] [.ts 1 (strs out')])
 | [], cur, pre, out, cap, m, hs, hm, ho => by
  have c : decide ((m : Int) < (s.length : Int)) = false := by simp [hs]; omega
  have hn : s.length = pre.length + cur.length := by rw [hs]; simp
  refine ⟨out, pre.length, cap, by omega, by omega, ?_, ?_⟩
  · simp only [yk, hs, List.append_nil, List.drop_left]
  · refine zD Tryz.func191 rfl rfl ?_
    simp only [↓GO, ↓DRW, GA, ren, zG, zd, refs, zb, cst, zl, zM, z7, E.load, E.store, zL, isC, bin, zN, zO, una, z8, za, zh, zP, blt, fnV, asArg, ze, zn, zo, zj, zm, zg, zk, zu, z6, zK, zJ, E.mkS, zc, unN, zQ, zi, zw, zq, zC, zI, zf, zR, zr, GS, simprocAttr, c]
 | x :: rest, cur, pre, out, cap, m, hs, hm, ho => by
  have hn : s.length = pre.length + cur.length + rest.length + 1 := by rw [hs]; simp; omega
  have c : decide ((m : Int) < (s.length : Int)) = true := by simp only [decide_eq_true_eq]; omega
  have hget : s[m]? = some x := by
   rw [hs, hm, ← List.append_assoc, ← List.length_append]; exact tM (pre ++ cur) x rest
  by_cases hx : x = b
  · subst hx
    have hcut : (s.drop pre.length).take (m - pre.length) = cur := by
     rw [hs, hm, List.drop_left, show pre.length + cur.length - pre.length = cur.length by omega, List.take_left]
    obtain ⟨out', fr, cap', q1, q2, q3, q4⟩ := aO s x hl rest [] (pre ++ cur ++ [x]) (out ++ [cur]) none (m + 1) (by rw [hs]; simp) (by simp; omega) (by simp; omega)
    refine ⟨out', fr, cap', q1, q2, ?_, ?_⟩
    · rw [q3, we]
      cases hc : yk x rest with
      | nil => exact absurd hc (x5 x rest)
      | cons p r => simp
    · rw [show ((pre ++ cur ++ [x]).length : Int) = (m : Int) + 1 by simp; omega, show ((m + 1 : Nat) : Int) = (m : Int) + 1 by omega] at q4
      rw [uN, xm, yi, List.length_append, List.length_cons, List.length_nil, Nat.zero_add] at q4
      have hol : out.length ≤ 4294967296 := by omega
      clear hs q3
      refine zD Tryz.func191 rfl rfl ?_
      simp (disch := ((try simp only [LL]); omega)) only [↓GO, ↓DRW, GA, ren, zG, zd, refs, zb, cst, zl, zM, z7, E.load, E.store, zL, isC, bin, zN, zO, una, z8, za, zh, zP, blt, fnV, asArg, ze, zn, zo, zj, zm, zg, zk, zu, z6, zK, zJ, E.mkS, zc, unN, zQ, zi, zw, zq, zC, zI, zf, zR, zr, GS, simprocAttr, GZ, c, hget, zB, hcut, q4, zH, wk]
  · have c2 : ((x.toNat : Int) == (b.toNat : Int)) = false := by
     rw [beq_eq_false_iff_ne]; intro e; exact hx (UInt8.toNat_inj.1 (by omega))
    obtain ⟨out', fr, cap', q1, q2, q3, q4⟩ := aO s b hl rest (cur ++ [x]) pre out cap (m + 1) (by rw [hs]; simp) (by simp; omega) (by omega)
    refine ⟨out', fr, cap', q1, q2, ?_, ?_⟩
    · rw [q3]
      cases hc : yk b rest with
      | nil => exact absurd hc (x5 b rest)
      | cons p r => rw [yJ b x rest p r hx hc]; simp
    · rw [show ((m + 1 : Nat) : Int) = (m : Int) + 1 by omega] at q4
      clear hs q3
      refine zD Tryz.func191 rfl rfl ?_
      simp (disch := ((try simp only [LL]); omega)) only [↓GO, ↓DRW, GA, ren, zG, zd, refs, zb, cst, zl, zM, z7, E.load, E.store, zL, isC, bin, zN, zO, una, z8, za, zh, zP, blt, fnV, asArg, ze, zn, zo, zj, zm, zg, zk, zu, z6, zK, zJ, E.mkS, zc, unN, zQ, zi, zw, zq, zC, zI, zf, zR, zr, GS, simprocAttr, GZ, c, hget, zB, c2, q4, zH, wk]
theorem lP (s : Str) (b : UInt8) (hl : s.length ≤ 4194304) : zE (EV Tryz.prog pol) 191 [.t (.str s), .t (.int .u8 (b.toNat : Int))] = some (.t (.list 1 (strs (yk b s)))) := by
 obtain ⟨out, fr, cap, q1, q2, q3, q4⟩ := aO s b (by omega) s [] [] [] (some 0) 0 rfl rfl (by simp)
 simp only [List.nil_append, List.length_nil, Int.natCast_zero, yi] at q4 q3
 have e : (match yk b s with | p :: r => p :: r | [] => []) = yk b s := by cases yk b s <;> rfl
 rw [e] at q3
 have ho : (strs out ++ [[.str (List.drop fr s)]]) = strs (yk b s) := by rw [← q3, uN]; rfl
 have ht : List.take (out.length + 1) (strs (yk b s)) = strs (yk b s) := List.take_of_length_le (by rw [zH, ← q3]; simp)
 apply zz
 refine zA rfl Tryz.func191 rfl (by kernel_rfl) ?_
 unfold Tryz.f191
 simp (disch := ((try simp only [LL]); omega)) only [↓GO, ↓DRW, GA, ren, zG, zd, refs, zb, cst, zl, zM, z7, E.load, E.store, zL, isC, bin, zN, zO, una, z8, za, zh, zP, blt, fnV, asArg, ze, zn, zo, zj, zm, zg, zk, zu, z6, zK, zJ, E.mkS, zc, unN, zQ, zi, zw, zq, zC, zI, zf, zR, zr, GS, simprocAttr, GZ, q4, zH, wk, ho, ht]
theorem sx (s : Str) (P : T) (i : T) (p : Str) (hl : p.length ≤ 4294967296) : ∀ (rest pre : Str), p = pre ++ rest →
 EV Tryz.prog pol (.loop 158 59706 0 [.t (.str s), .t P, .t i, .t (.str p), .t (.int .i64 (pre.length : Int))] []) = some (cond (rest.all vS) (.loop (.exit 2) [.t (.str s), .bad, .t P, .t i, .t (.str p)] []) (.loop .ret [.t (.str s), .t (.bool false), .t P, .t i, .t (.str p)] []))
 | [], pre, hs => by
  have c : decide ((pre.length : Int) < (p.length : Int)) = false := by simp [hs]
  refine zD Tryz.func158 rfl rfl ?_
  simp only [↓GO, ↓DRW, GA, ren, zG, zd, refs, zb, cst, zl, zM, z7, E.load, E.store, zL, isC, bin, zN, zO, una, z8, za, zh, zP, blt, fnV, asArg, ze, zn, zo, zj, zm, zg, zk, zu, z6, zK, zJ, E.mkS, zc, unN, zQ, zi, zw, zq, zC, zI, zf, zR, zr, GS, simprocAttr, c]
 | b :: rest, pre, hs => by
  have c : decide ((pre.length : Int) < (p.length : Int)) = true := by simp [hs]; omega
  have hget : p[pre.length]? = some b := by rw [hs]; exact tM pre b rest
  have hlen : p.length = pre.length + rest.length + 1 := by rw [hs]; simp; omega
  have IH := sx s P i p hl rest (pre ++ [b]) (by rw [hs]; simp)
  rw [show ((pre ++ [b]).length : Int) = (pre.length : Int) + 1 by simp] at IH
  have hb := np b
  clear hs
  refine zD Tryz.func158 rfl rfl ?_
  rw [List.all_cons, vS]
  simp only [nb] at *
  cases h1 : (B2 (b.toNat : Int) 97 122 || B2 (b.toNat : Int) 48 57) <;> rw [h1] at hb <;> cases h2 : ((b.toNat : Int) == 46) <;> cases h3 : ((b.toNat : Int) == 95) <;> cases h4 : ((b.toNat : Int) == 45) <;>
   simp (disch := ((try simp only [LL]); omega)) only [↓GO, ↓DRW, GA, ren, zG, zd, refs, zb, cst, zl, zM, z7, E.load, E.store, zL, isC, bin, zN, zO, una, z8, za, zh, zP, blt, fnV, asArg, ze, zn, zo, zj, zm, zg, zk, zu, z6, zK, zJ, E.mkS, zc, unN, zQ, zi, zw, zq, zC, zI, zf, zR, zr, GS, simprocAttr, GZ, c, hget, zB, hb, h2, h3, h4, bne, IH]
theorem ZM (s : Str) (parts : List Str) (hl : parts.length ≤ 4294967296) (hb : ∀ p ∈ parts, p.length ≤ 4294967296) : ∀ (rest pre : List Str), parts = pre ++ rest → pre ≠ [] →
 EV Tryz.prog pol (.loop 158 58 0 [.t (.str s), .t (.list 1 (strs parts)), .t (.int .i64 (pre.length : Int))] []) = some (cond (lS rest) (.loop (.exit 0) [.t (.str s), .bad] []) (.loop .ret [.t (.str s), .t (.bool false)] []))
 | [], pre, hs, _ => by
  have c : decide ((pre.length : Int) < (parts.length : Int)) = false := by simp [hs]
  refine zD Tryz.func158 rfl rfl ?_
  simp only [↓GO, ↓DRW, GA, ren, zG, zd, refs, zb, cst, zl, zM, z7, E.load, E.store, zL, isC, bin, zN, zO, una, z8, za, zh, zP, blt, fnV, asArg, ze, zn, zo, zj, zm, zg, zk, zu, z6, zK, zJ, E.mkS, zc, unN, zQ, zi, zw, zq, zC, zI, zf, zR, zr, GS, simprocAttr, zH, c, lS]
 | x :: rest, pre, hs, hn => by
  have c : decide ((pre.length : Int) < (parts.length : Int)) = true := by simp [hs]; omega
  have hget : (strs parts)[pre.length]? = some [.str x] := by rw [hs]; exact wz pre x rest
  have hlen : pre.length + rest.length + 1 ≤ parts.length := by rw [hs]; simp; omega
  have hx : x.length ≤ 4294967296 := hb x (by rw [hs]; simp)
  have IH := ZM s parts hl hb rest (pre ++ [x]) (by rw [hs]; simp) (by simp)
  have hin := sx s (.list 1 (strs parts)) (.int .i64 (pre.length : Int)) x hx x [] rfl
  simp only [List.length_nil, Int.natCast_zero] at hin
  rw [show ((pre ++ [x]).length : Int) = (pre.length : Int) + 1 by simp] at IH
  have e0 : (((pre.length : Int) == 0)) = false := by
   rw [beq_eq_false_iff_ne]; intro h; apply hn; apply List.eq_nil_of_length_eq_zero; omega
  clear hs hb
  refine zD Tryz.func158 rfl rfl ?_
  rw [lS]
  have hN : (x == rD) = (x == [110, 111, 100, 101, 95, 109, 111, 100, 117, 108, 101, 115]) := rfl
  rw [hN]
  cases ha : x.all vS <;> rw [ha] at hin <;> simp only [cond_true, cond_false] at hin <;> cases h1 : (x == []) <;> cases h2 : (x == [110, 111, 100, 101, 95, 109, 111, 100, 117, 108, 101, 115]) <;>
   simp (disch := ((try simp only [LL]); omega)) only [↓GO, ↓DRW, GA, ren, zG, zd, refs, zb, cst, zl, zM, z7, E.load, E.store, zL, isC, bin, zN, zO, una, z8, za, zh, zP, blt, fnV, asArg, ze, zn, zo, zj, zm, zg, zk, zu, z6, zK, zJ, E.mkS, zc, unN, zQ, zi, zw, zq, zC, zI, zf, zR, zr, GS, simprocAttr, GZ, c, hget, zB, hin, h1, h2, e0, IH, zH]
theorem Sz (s : Str) (parts : List Str) (hl : parts.length ≤ 4294967296) (hb : ∀ p ∈ parts, p.length ≤ 4294967296) (x : Str) (rest : List Str) (hs : parts = x :: rest) :
 EV Tryz.prog pol (.loop 158 58 0 [.t (.str s), .t (.list 1 (strs parts)), .t (.int .i64 0)] []) = some (cond (qw (x :: rest)) (.loop (.exit 0) [.t (.str s), .bad] []) (.loop .ret [.t (.str s), .t (.bool false)] [])) := by
 have c : decide ((0 : Int) < (parts.length : Int)) = true := by simp only [decide_eq_true_eq, hs, List.length_cons]; omega
 have hget : (strs parts)[0]? = some [.str x] := by rw [hs]; rfl
 have hx : x.length ≤ 4294967296 := hb x (by rw [hs]; simp)
 have IH := ZM s parts hl hb rest [x] hs (by simp)
 simp only [List.length_nil, List.length_cons, Nat.zero_add, Int.natCast_one] at IH
 have hN : (x == rD) = (x == [110, 111, 100, 101, 95, 109, 111, 100, 117, 108, 101, 115]) := rfl
 rw [qw, hN]
 clear hs hb hN
 cases x with
 | nil =>
  have hin := sx s (.list 1 (strs parts)) (.int .i64 0) [] hx [] [] rfl
  simp only [List.length_nil, Int.natCast_zero, List.all_nil, cond_true] at hin
  have h2 : (([] : Str) == [110, 111, 100, 101, 95, 109, 111, 100, 117, 108, 101, 115]) = false := rfl
  have h3 : (([] : Str) == []) = true := rfl
  have h4 : yU [] = [] := rfl
  refine zD Tryz.func158 rfl rfl ?_
  simp (disch := ((try simp only [LL]); omega)) only [↓GO, ↓DRW, GA, ren, zG, zd, refs, zb, cst, zl, zM, z7, E.load, E.store, zL, isC, bin, zN, zO, una, z8, za, zh, zP, blt, fnV, asArg, ze, zn, zo, zj, zm, zg, zk, zu, z6, zK, zJ, E.mkS, zc, unN, zQ, zi, zw, zq, zC, zI, zf, zR, zr, GS, simprocAttr, GZ, c, hget, zB, hin, zH, h2, h3, h4, Int.natCast_zero]
 | cons y t =>
  have hlt : decide (((y :: t).length : Int) > 0) = true := by simp only [decide_eq_true_eq, List.length_cons]; omega
  have hg0 : (y :: t)[0]? = some y := rfl
  have hyl : 1 ≤ (y :: t).length := by simp
  by_cases h64 : y = 64
  · subst h64
    have hin2 := sx s (.list 1 (strs parts)) (.int .i64 0) t (by simp only [List.length_cons] at hx; omega) t [] rfl
    simp only [List.length_nil, Int.natCast_zero] at hin2
    have e1 : (((64 : UInt8) :: t) == [110, 111, 100, 101, 95, 109, 111, 100, 117, 108, 101, 115]) = false := by simp
    have e2 : yU (64 :: t) = t := by simp [yU]
    have e3 : (((64 : UInt8)).toNat : Int) = 64 := rfl
    have hd : List.drop 1 ((64 : UInt8) :: t) = t := rfl
    rw [e2]
    generalize hy : (64 : UInt8) :: t = yy at *
    cases ha : t.all vS <;> rw [ha] at hin2 <;> simp only [cond_true, cond_false] at hin2 <;> cases h1 : (t == []) <;>
     refine zD Tryz.func158 rfl rfl ?_ <;> simp (disch := ((try simp only [LL]); omega)) only [↓GO, ↓DRW, GA, ren, zG, zd, refs, zb, cst, zl, zM, z7, E.load, E.store, zL, isC, bin, zN, zO, una, z8, za, zh, zP, blt, fnV, asArg, ze, zn, zo, zj, zm, zg, zk, zu, z6, zK, zJ, E.mkS, zc, unN, zQ, zi, zw, zq, zC, zI, zf, zR, zr, GS, simprocAttr, GZ, c, hget, zB, hin2, zH, e1, e3, hlt, hg0, hd, h1, IH, Int.zero_add]
  · have e2 : yU (y :: t) = y :: t := by simp [yU, h64]
    have e3 : ((y.toNat : Int) == 64) = false := by
     rw [beq_eq_false_iff_ne]; intro h; exact h64 (UInt8.toNat_inj.1 (by rw [show (64 : UInt8).toNat = 64 from rfl]; omega))
    have hin := sx s (.list 1 (strs parts)) (.int .i64 0) (y :: t) hx (y :: t) [] rfl
    simp only [List.length_nil, Int.natCast_zero] at hin
    rw [e2]
    have h1 : ((y :: t) == []) = false := rfl
    generalize hy : y :: t = yy at *
    cases ha : yy.all vS <;> rw [ha] at hin <;> simp only [cond_true, cond_false] at hin <;> cases h2 : (yy == [110, 111, 100, 101, 95, 109, 111, 100, 117, 108, 101, 115]) <;>
     refine zD Tryz.func158 rfl rfl ?_ <;> simp (disch := ((try simp only [LL]); omega)) only [↓GO, ↓DRW, GA, ren, zG, zd, refs, zb, cst, zl, zM, z7, E.load, E.store, zL, isC, bin, zN, zO, una, z8, za, zh, zP, blt, fnV, asArg, ze, zn, zo, zj, zm, zg, zk, zu, z6, zK, zJ, E.mkS, zc, unN, zQ, zi, zw, zq, zC, zI, zf, zR, zr, GS, simprocAttr, GZ, c, hget, zB, hin, zH, e3, hlt, hg0, h1, h2, IH, Int.zero_add]
theorem R8 (s : Str) (hl : s.length ≤ 1048576) : zE (EV Tryz.prog pol) 158 [.t (.str s)] = some (.t (.bool (tK s))) := by
 have hbk := xK 47 s
 have h3 := lP s 47 (by omega)
 rw [show (((47 : UInt8)).toNat : Int) = 47 from rfl] at h3
 rw [← X3]
 cases hc : yk 47 s with
 | nil => exact absurd hc (x5 47 s)
 | cons x rest =>
  rw [hc] at h3 hbk
  have hb : ∀ p ∈ x :: rest, p.length ≤ 4294967296 := fun p hp => by have := xW hp; omega
  have LP := Sz s (x :: rest) (by omega) hb x rest rfl
  generalize x :: rest = parts at *
  apply zz
  refine zA rfl Tryz.func158 rfl (by kernel_rfl) ?_
  unfold Tryz.f158
  cases hp : qw parts <;> rw [hp] at LP <;> simp only [cond_true, cond_false] at LP <;>
   simp (disch := ((try simp only [LL]); omega)) only [↓GO, ↓DRW, GA, ren, zG, zd, refs, zb, cst, zl, zM, z7, E.load, E.store, zL, isC, bin, zN, zO, una, z8, za, zh, zP, blt, fnV, asArg, ze, zn, zo, zj, zm, zg, zk, zu, z6, zK, zJ, E.mkS, zc, unN, zQ, zi, zw, zq, zC, zI, zf, zR, zr, GS, simprocAttr, GZ, h3, LP]
theorem U0 (b : UInt8) : zE (EV Tryz.prog pol) 235 [.t (.int .u8 (b.toNat : Int))] = some (.t (.bool (qv b))) := by
 apply zz
 refine zA rfl Tryz.func235 rfl (by kernel_rfl) ?_
 unfold Tryz.f235
 unfold qv B2
 simp only [nb]
 cases h1 : decide ((33 : Int) ≤ (b.toNat : Int)) <;> cases h2 : decide ((b.toNat : Int) ≤ 126) <;> cases h3 : ((b.toNat : Int) == 34) <;> cases h4 : ((b.toNat : Int) == 39) <;> cases h5 : ((b.toNat : Int) == 44) <;>
  simp (disch := ((try simp only [LL]); omega)) only [↓GO, ↓DRW, GA, ren, zG, zd, refs, zb, cst, zl, zM, z7, E.load, E.store, zL, isC, bin, zN, zO, una, z8, za, zh, zP, blt, fnV, asArg, ze, zn, zo, zj, zm, zg, zk, zu, z6, zK, zJ, E.mkS, zc, unN, zQ, zi, zw, zq, zC, zI, zf, zR, zr, GS, simprocAttr, GZ, h1, h2, h3, h4, h5, bne, ge_iff_le]
theorem VZ (s : Str) (hl : s.length ≤ 1048576) : zE (EV Tryz.prog pol) 156 [.t (.str s)] = some (.t (.bool (u6 s))) := by
 have h := YF 235 qv U0 s (by omega)
 apply zz
 refine zA rfl Tryz.func156 rfl (by kernel_rfl) ?_
 unfold Tryz.f156
 unfold u6
 cases h1 : decide ((s.length : Int) ≤ 100) <;> simp (disch := ((try simp only [LL]); omega)) only [↓GO, ↓DRW, GA, ren, zG, zd, refs, zb, cst, zl, zM, z7, E.load, E.store, zL, isC, bin, zN, zO, una, z8, za, zh, zP, blt, fnV, asArg, ze, zn, zo, zj, zm, zg, zk, zu, z6, zK, zJ, E.mkS, zc, unN, zQ, zi, zw, zq, zC, zI, zf, zR, zr, GS, simprocAttr, GZ, h, h1]
theorem eR (s : Str) (hl : s.length ≤ 1048576) : ∀ (rest pre : Str), s = pre ++ rest →
 EV Tryz.prog pol (.loop 159 26 0 [.t (.str s), .t (.int .i64 (pre.length : Int))] []) = some (cond (rest.all qv) (.loop (.exit 0) [.t (.str s), .bad] []) (.loop .ret [.t (.str s), .t (.bool false)] []))
 | [], pre, hs => by
  have c : decide ((pre.length : Int) < (s.length : Int)) = false := by simp [hs]
  refine zD Tryz.func159 rfl rfl ?_
  simp only [↓GO, ↓DRW, GA, ren, zG, zd, refs, zb, cst, zl, zM, z7, E.load, E.store, zL, isC, bin, zN, zO, una, z8, za, zh, zP, blt, fnV, asArg, ze, zn, zo, zj, zm, zg, zk, zu, z6, zK, zJ, E.mkS, zc, unN, zQ, zi, zw, zq, zC, zI, zf, zR, zr, GS, simprocAttr, c]
 | b :: rest, pre, hs => by
  have c : decide ((pre.length : Int) < (s.length : Int)) = true := by simp [hs]; omega
  have hget : s[pre.length]? = some b := by rw [hs]; exact tM pre b rest
  have hlen : s.length = pre.length + rest.length + 1 := by rw [hs]; simp; omega
  have IH := eR s hl rest (pre ++ [b]) (by rw [hs]; simp)
  rw [show ((pre ++ [b]).length : Int) = (pre.length : Int) + 1 by simp] at IH
  have hb := xP (b.toNat : Int) 33 126
  clear hs
  refine zD Tryz.func159 rfl rfl ?_
  rw [List.all_cons, qv]
  simp only [nb]
  cases h1 : B2 (b.toNat : Int) 33 126 <;> rw [h1] at hb <;> cases h3 : ((b.toNat : Int) == 34) <;> cases h4 : ((b.toNat : Int) == 39) <;> cases h5 : ((b.toNat : Int) == 44) <;> cases h6 : ((b.toNat : Int) == 92) <;>
   simp (disch := ((try simp only [LL]); omega)) only [↓GO, ↓DRW, GA, ren, zG, zd, refs, zb, cst, zl, zM, z7, E.load, E.store, zL, isC, bin, zN, zO, una, z8, za, zh, zP, blt, fnV, asArg, ze, zn, zo, zj, zm, zg, zk, zu, z6, zK, zJ, E.mkS, zc, unN, zQ, zi, zw, zq, zC, zI, zf, zR, zr, GS, simprocAttr, GZ, c, hget, zB, conv, wrap_u8, hb, h3, h4, h5, h6, bne, IH]
theorem VY (s : Str) (hl : s.length ≤ 1048576) : zE (EV Tryz.prog pol) 159 [.t (.str s)] = some (.t (.bool (u6 s))) := by
 have IH := eR s hl s [] rfl
 simp only [List.length_nil, Int.natCast_zero] at IH
 apply zz
 refine zA rfl Tryz.func159 rfl (by kernel_rfl) ?_
 unfold Tryz.f159
 unfold u6
 cases ha : s.all qv <;> rw [ha] at IH <;> simp only [cond_true, cond_false] at IH
 · simp (disch := ((try simp only [LL]); omega)) only [↓GO, ↓DRW, GA, ren, zG, zd, refs, zb, cst, zl, zM, z7, E.load, E.store, zL, isC, bin, zN, zO, una, z8, za, zh, zP, blt, fnV, asArg, ze, zn, zo, zj, zm, zg, zk, zu, z6, zK, zJ, E.mkS, zc, unN, zQ, zi, zw, zq, zC, zI, zf, zR, zr, GS, simprocAttr, GZ, IH]
 · cases h1 : decide ((s.length : Int) ≤ 100) with
   | false => simp (disch := ((try simp only [LL]); omega)) only [↓GO, ↓DRW, GA, ren, zG, zd, refs, zb, cst, zl, zM, z7, E.load, E.store, zL, isC, bin, zN, zO, una, z8, za, zh, zP, blt, fnV, asArg, ze, zn, zo, zj, zm, zg, zk, zu, z6, zK, zJ, E.mkS, zc, unN, zQ, zi, zw, zq, zC, zI, zf, zR, zr, GS, simprocAttr, GZ, IH, h1]
   | true =>
    have h2 := of_decide_eq_true h1
    have h3 : decide ((s.length : Int) < 20000) = true := by simp only [decide_eq_true_eq]; omega
    simp (disch := ((try simp only [LL]); omega)) only [↓GO, ↓DRW, GA, ren, zG, zd, refs, zb, cst, zl, zM, z7, E.load, E.store, zL, isC, bin, zN, zO, una, z8, za, zh, zP, blt, fnV, asArg, ze, zn, zo, zj, zm, zg, zk, zu, z6, zK, zJ, E.mkS, zc, unN, zQ, zi, zw, zq, zC, zI, zf, zR, zr, GS, simprocAttr, GZ, IH, h1, h3]
end Go.Proofs.YtijninlbpifonaaGreatDoor

/- Joined: G1 S1 W5 M1 M2 M3 M4 M5 M6 M7 M8 M9 B1 B2 B3 B4 B5 B6 P1 P2 I1 I2 V1. Conditions: those of each lemma. -/
import Derived.Test.YtijninlbpifonaaGreatDoorUI
import Derived.Test.YtijninlbpifonaaGreatDoorRows
import Derived.ProofKit
import Derived.ReadAgain
import Derived.Test.YtijninlbpifonaaGreatDoorUH
import Derived.Lib.SplitLaws
set_option linter.unusedVariables false
set_option linter.unusedSimpArgs false
namespace Go.Proofs.YtijninlbpifonaaGreatDoor
open E
set_option linter.unusedSimpArgs false
set_option linter.unusedVariables false
set_option maxRecDepth 100000
structure zD where
 alg : List UInt8
 bytes : List UInt8
def zD.enc (x : zD) : List T := [.str x.alg, .str x.bytes]
def zD.zu (l : List zD) : List (List T) := l.map zD.enc
def zD.zT (x : zD) : Nat := x.alg.length + x.bytes.length
def zD.zK : List zD → Nat
 | [] => 0
 | c :: cs => zD.zT c + zD.zK cs
def zD.ok (x : zD) : Prop := x.alg.length ≤ 9223372036854775807 ∧ x.bytes.length ≤ 9223372036854775807
theorem zD.vl (x : zD) : x.enc.length = 2 := rfl
theorem zD.wj (x : zD) : x.enc.take 2 = x.enc := rfl
theorem zD.zo (cs : List zD) : (zD.zu cs).length = cs.length := by simp [zD.zu]
theorem zD.yS (cs : List zD) (i : Nat) (h : i < cs.length) : (zD.zu cs)[i]? = some cs[i].enc := by simp [zD.zu, h]
theorem zD.x6 (cs : List zD) (i : Nat) (h : i < cs.length) : zD.zK (cs.drop i) = cs[i].zT + zD.zK (cs.drop (i + 1)) := by
 rw [List.drop_eq_getElem_cons h]; rfl
theorem zD.y7 : ∀ {cs : List zD} {c : zD}, c ∈ cs → c.zT ≤ zD.zK cs
 | c' :: cs, c, h => by
  simp only [zD.zK]
  rcases List.mem_cons.1 h with rfl | h
  · omega
  · have := zD.y7 h; omega
def Vc (x : zD) : Prop := ∀ n : Int, 0 ≤ n → n ≤ 1048576 → zk (EV Tryz.prog pol) 310 [.agg (x.enc.map .t), .t (.int .i64 n)] = some (.t (.int .i64 (left n x.zT)))
theorem Uc (x : zD) (ho : x.ok) : Vc x := by
 obtain ⟨alg, bytes⟩ := x
 intro n h0 h1
 simp only [zD.ok] at ho
 simp only [zD.enc, List.map_cons, List.map_nil]
 apply zr
 refine zw rfl Tryz.func310 rfl (by kernel_rfl) ?_
 unfold Tryz.f310
 repeat' (first | (((first | with_reducible refine tg (fun hA => ?_) (fun hA => ?_) | with_reducible refine te (fun hA => ?_) (fun hA => ?_)) <;> (try simp only [bne, Bool.not_eq_true', Bool.not_eq_false'] at hA) <;> (first | (have hP := Int.le_of_eq (eq_of_beq (α := Int) hA); have hQ := Int.le_of_eq (eq_of_beq (α := Int) hA).symm) | have hP := of_decide_eq_true hA | have hP := of_decide_eq_false hA | skip)) <;> (simp (disch := ((try simp only [LL]); omega)) only [↓GO, ↓DRW, GA, GX, ren, zm, za, refs, z8, cst, zq, isC, bin, una, z6, zd, blt, asArg, zf, zc, zg, z1, E.mkS, unN, ze, zn, zb, GS, simprocAttr, zj, bne, sG, vR, *])) | (simp (disch := ((try simp only [LL]); omega)) only [↓GO, ↓DRW, GA, GX, ren, zm, za, refs, z8, cst, zq, isC, bin, una, z6, zd, blt, asArg, zf, zc, zg, z1, E.mkS, unN, ze, zn, zb, GS, simprocAttr, zj, bne, sG, vR, *]))
 all_goals (refine rz ?_; simp only [zD.zT, and_true]; omega)
theorem gK (cs : List zD) (hl : cs.length ≤ 9223372036854775807) (hc : ∀ c ∈ cs, Vc c) : ∀ (d i : Nat) (n : Int), cs.length - i = d → i ≤ cs.length → 0 ≤ n → n ≤ 1048576 →
 (0 ≤ n - (zD.zK (cs.drop i) : Int) → EV Tryz.prog pol (.loop 255 122 0 [.t (.list 2 (zD.zu cs)), .t (.int .i64 n), .t (.int .i64 (i : Int))] []) = some (.loop (.exit 0) [.t (.int .i64 (n - (zD.zK (cs.drop i) : Int))), .bad] [])) ∧
 (n - (zD.zK (cs.drop i) : Int) < 0 → ∃ v, EV Tryz.prog pol (.loop 255 122 0 [.t (.list 2 (zD.zu cs)), .t (.int .i64 n), .t (.int .i64 (i : Int))] []) = some (.loop .ret [v, .t (.int .i64 (-1))] []))
 | 0, i, n, hd, hi, h0, h1 => by
  have hi' : i = cs.length := by omega
  subst hi'
  have hb : zD.zK (cs.drop cs.length) = 0 := by simp [zD.zK]
  rw [hb]
  refine ⟨fun _ => ?_, fun h => by omega⟩
  refine zi Tryz.func255 rfl rfl ?_
  have c : decide (((cs.length : Nat) : Int) < ((cs.length : Nat) : Int)) = false := by simp
  simp only [↓GO, ↓DRW, GA, GX, ren, zm, za, refs, z8, cst, zq, isC, bin, una, z6, zd, blt, asArg, zf, zc, zg, z1, E.mkS, unN, ze, zn, zb, GS, simprocAttr, zD.zo, c]
  simp
 | d + 1, i, n, hd, hi, h0, h1 => by
  have hlt : i < cs.length := by omega
  rw [zD.x6 cs i hlt]
  have c : decide ((i : Int) < ((cs.length : Nat) : Int)) = true := by simp; omega
  have hcall := hc _ (List.getElem_mem hlt) n h0 h1
  have hget := zD.yS cs i hlt
  generalize hci : cs[i] = ci at hcall hget
  obtain ⟨alg, bytes⟩ := ci
  simp only [zD.enc, List.map_cons, List.map_nil] at hcall hget
  generalize hbu : (zD.mk alg bytes).zT = bu at hcall
  have IH := gK cs hl hc d (i + 1) (n - (bu : Int)) (by omega) (by omega)
  have e1 : (i : Int) + 1 = ((i + 1 : Nat) : Int) := by omega
  by_cases hneg : n - (bu : Int) < 0
  · refine ⟨fun h => by omega, fun _ => ⟨.t (.int .i64 (-1)), ?_⟩⟩
    refine zi Tryz.func255 rfl rfl ?_
    have hle : left n bu = -1 := if_pos hneg
    rw [hle] at hcall
    simp (disch := omega) only [↓GO, ↓DRW, GA, GX, ren, zm, za, refs, z8, cst, zq, isC, bin, una, z6, zd, blt, asArg, zf, zc, zg, z1, E.mkS, unN, ze, zn, zb, GS, simprocAttr, zD.zo, c, hget, zj, hcall]
  · have hle : left n bu = n - (bu : Int) := if_neg hneg
    rw [hle] at hcall
    have c2 : decide (n - (bu : Int) < 0) = false := by simpa using hneg
    obtain ⟨I1, I2⟩ := IH (by omega) (by omega)
    refine ⟨fun h => ?_, fun h => ?_⟩
    · refine zi Tryz.func255 rfl rfl ?_
      simp (disch := omega) only [↓GO, ↓DRW, GA, GX, ren, zm, za, refs, z8, cst, zq, isC, bin, una, z6, zd, blt, asArg, zf, zc, zg, z1, E.mkS, unN, ze, zn, zb, GS, simprocAttr, zD.zo, c, hget, zj, hcall, c2, e1]
      rw [I1 (by omega), show n - (bu : Int) - (zD.zK (cs.drop (i + 1)) : Int) = n - ((bu + zD.zK (cs.drop (i + 1)) : Nat) : Int) by omega]
    · obtain ⟨v, hv⟩ := I2 (by omega)
      refine ⟨v, ?_⟩
      refine zi Tryz.func255 rfl rfl ?_
      simp (disch := omega) only [↓GO, ↓DRW, GA, GX, ren, zm, za, refs, z8, cst, zq, isC, bin, una, z6, zd, blt, asArg, zf, zc, zg, z1, E.mkS, unN, ze, zn, zb, GS, simprocAttr, zD.zo, c, hget, zj, hcall, c2, e1]
      exact hv
theorem Xq (cs : List zD) (hl : cs.length ≤ 9223372036854775807) (hc : ∀ c ∈ cs, Vc c) (n : Int) (h0 : 0 ≤ n) (h1 : n ≤ 1048576) :
 zk (EV Tryz.prog pol) 255 [.t (.list 2 (zD.zu cs)), .t (.int .i64 n)] = some (.t (.int .i64 (left n (cs.length + zD.zK cs)))) := by
 apply zr
 refine zw rfl Tryz.func255 rfl (by kernel_rfl) ?_
 unfold Tryz.f255
 by_cases hneg : n - (cs.length : Int) < 0
 · have c2 : decide (n - (cs.length : Int) < 0) = true := by simpa using hneg
   simp (disch := omega) only [↓GO, ↓DRW, GA, GX, ren, zm, za, refs, z8, cst, zq, isC, bin, una, z6, zd, blt, asArg, zf, zc, zg, z1, E.mkS, unN, ze, zn, zb, GS, simprocAttr, zD.zo, zj, c2]
   rw [left, if_pos (by omega)]
 · have c2 : decide (n - (cs.length : Int) < 0) = false := by simpa using hneg
   obtain ⟨I1, I2⟩ := gK cs hl hc cs.length 0 (n - (cs.length : Int)) (by omega) (by omega) (by omega) (by omega)
   simp only [List.drop_zero, Int.natCast_zero] at I1 I2
   by_cases hn2 : n - (cs.length : Int) - (zD.zK cs : Int) < 0
   · obtain ⟨v, hv⟩ := I2 hn2
     simp (disch := omega) only [↓GO, ↓DRW, GA, GX, ren, zm, za, refs, z8, cst, zq, isC, bin, una, z6, zd, blt, asArg, zf, zc, zg, z1, E.mkS, unN, ze, zn, zb, GS, simprocAttr, zD.zo, zj, c2, hv]
     rw [left, if_pos (by omega)]
   · simp (disch := omega) only [↓GO, ↓DRW, GA, GX, ren, zm, za, refs, z8, cst, zq, isC, bin, una, z6, zd, blt, asArg, zf, zc, zg, z1, E.mkS, unN, ze, zn, zb, GS, simprocAttr, zD.zo, zj, c2, I1 (by omega)]
     rw [left, if_neg (by omega), show n - (cs.length : Int) - (zD.zK cs : Int) = n - ((cs.length + zD.zK cs : Nat) : Int) by omega]
def fV (x : zD) : Prop := zk (EV Tryz.prog pol) 312 [.agg (x.enc.map .t)] = some (.agg (x.enc.map .t))
theorem Ua (x : zD) (ho : x.zT ≤ 1048576) : fV x := by
 obtain ⟨alg, bytes⟩ := x
 simp only [zD.zT] at ho
 simp only [fV, zD.enc, List.map_cons, List.map_nil]
 apply zr
 refine zw rfl Tryz.func312 rfl (by kernel_rfl) ?_
 unfold Tryz.f312
 simp only [↓GO, ↓DRW, GA, GX, ren, zm, za, refs, z8, cst, zq, isC, bin, una, z6, zd, blt, asArg, zf, zc, zg, z1, E.mkS, unN, ze, zn, zb, GS, simprocAttr]
def YE : List T := [.str [], .str []]
theorem gJ (cs : List zD) (hl : cs.length ≤ 1048576) (hc : ∀ c ∈ cs, fV c) : ∀ (d i : Nat), cs.length - i = d → i ≤ cs.length →
 EV Tryz.prog pol (.loop 259 58 0 [.t (.list 2 (zD.zu cs)), .sl 0 0 cs.length (some cs.length), .t (.int .i64 (i : Int))] [.ts 2 (vt (zD.zu cs) YE i)]) = some (.loop (.exit 0) [.sl 0 0 cs.length (some cs.length)] [.ts 2 (zD.zu cs)])
 | 0, i, hd, hi => by
  have hi' : i = cs.length := by omega
  subst hi'
  refine zi Tryz.func259 rfl rfl ?_
  have c : decide (((cs.length : Nat) : Int) < ((cs.length : Nat) : Int)) = false := by simp
  have hf : vt (zD.zu cs) YE cs.length = zD.zu cs := by rw [← zD.zo cs]; exact lX _ _
  simp only [↓GO, ↓DRW, GA, GX, ren, zm, za, refs, z8, cst, zq, isC, bin, una, z6, zd, blt, asArg, zf, zc, zg, z1, E.mkS, unN, ze, zn, zb, GS, simprocAttr, zD.zo, c, hf]
 | d + 1, i, hd, hi => by
  have hlt : i < cs.length := by omega
  have hlt' : i < (zD.zu cs).length := by rw [zD.zo]; exact hlt
  have c : decide ((i : Int) < ((cs.length : Nat) : Int)) = true := by simp; omega
  have c0 : decide ((0 : Int) ≤ (i : Int)) = true := by simp
  have IH := gJ cs hl hc d (i + 1) (by omega) (by omega)
  have e1 : (i : Int) + 1 = ((i + 1 : Nat) : Int) := by omega
  have hg : (vt (zD.zu cs) YE i)[i]? = some [.str [], .str []] := lW (zD.zu cs) YE i hlt'
  have hs := lV (zD.zu cs) YE i hlt'
  have hx : (zD.zu cs)[i] = cs[i].enc := by simp [zD.zu]
  rw [hx] at hs
  have hcall := hc _ (List.getElem_mem hlt)
  have hget := zD.yS cs i hlt
  generalize hci : cs[i] = ci at hcall hget hs
  obtain ⟨alg, bytes⟩ := ci
  simp only [fV, zD.enc, List.map_cons, List.map_nil] at hcall hget hs
  refine zi Tryz.func259 rfl rfl ?_
  simp (disch := omega) only [↓GO, ↓DRW, GA, GX, ren, zm, za, refs, z8, cst, zq, isC, bin, una, z6, zd, blt, asArg, zf, zc, zg, z1, E.mkS, unN, ze, zn, zb, GS, simprocAttr, zD.zo, c, c0, hget, zj, e1, hg, Int.toNat_natCast, hcall, hs]
  exact IH
def fW (x : zD) : Prop := zk (EV Tryz.prog pol) 321 [.agg (x.enc.map .t), .agg (x.enc.map .t)] = some (.t (.bool true))
theorem Un (x : zD) (ho : x.zT ≤ 4194304) : fW x := by
 obtain ⟨alg, bytes⟩ := x
 simp only [zD.zT] at ho
 simp only [fW, zD.enc, List.map_cons, List.map_nil]
 apply zr
 refine zw rfl Tryz.func321 rfl (by kernel_rfl) ?_
 unfold Tryz.f321
 simp only [↓GO, ↓DRW, GA, GX, ren, zm, za, refs, z8, cst, zq, isC, bin, una, z6, zd, blt, asArg, zf, zc, zg, z1, E.mkS, unN, ze, zn, zb, GS, simprocAttr, bne_self_eq_false]
theorem gO (cs : List zD) (hl : cs.length ≤ 4194304) (hc : ∀ c ∈ cs, fW c) : ∀ (d i : Nat), cs.length - i = d → i ≤ cs.length →
 EV Tryz.prog pol (.loop 261 58 0 [.t (.list 2 (zD.zu cs)), .t (.list 2 (zD.zu cs)), .t (.int .i64 (i : Int))] []) = some (.loop (.exit 0) [.bad] [])
 | 0, i, hd, hi => by
  have hi' : i = cs.length := by omega
  subst hi'
  refine zi Tryz.func261 rfl rfl ?_
  have c : decide (((cs.length : Nat) : Int) < ((cs.length : Nat) : Int)) = false := by simp
  simp only [↓GO, ↓DRW, GA, GX, ren, zm, za, refs, z8, cst, zq, isC, bin, una, z6, zd, blt, asArg, zf, zc, zg, z1, E.mkS, unN, ze, zn, zb, GS, simprocAttr, zD.zo, c]
 | d + 1, i, hd, hi => by
  have hlt : i < cs.length := by omega
  have c : decide ((i : Int) < ((cs.length : Nat) : Int)) = true := by simp; omega
  have IH := gO cs hl hc d (i + 1) (by omega) (by omega)
  have e1 : (i : Int) + 1 = ((i + 1 : Nat) : Int) := by omega
  have hcall := hc _ (List.getElem_mem hlt)
  have hget := zD.yS cs i hlt
  generalize hci : cs[i] = ci at hcall hget
  obtain ⟨alg, bytes⟩ := ci
  simp only [fW, zD.enc, List.map_cons, List.map_nil] at hcall hget
  refine zi Tryz.func261 rfl rfl ?_
  simp (disch := omega) only [↓GO, ↓DRW, GA, GX, ren, zm, za, refs, z8, cst, zq, isC, bin, una, z6, zd, blt, asArg, zf, zc, zg, z1, E.mkS, unN, ze, zn, zb, GS, simprocAttr, zD.zo, c, hget, zj, e1, hcall]
  exact IH
theorem XE (cs : List zD) (hl : cs.length ≤ 4194304) (hc : ∀ c ∈ cs, fW c) : zk (EV Tryz.prog pol) 261 [.t (.list 2 (zD.zu cs)), .t (.list 2 (zD.zu cs))] = some (.t (.bool true)) := by
 apply zr
 refine zw rfl Tryz.func261 rfl (by kernel_rfl) ?_
 unfold Tryz.f261
 have IH := gO cs hl hc cs.length 0 (by omega) (by omega)
 simp only [Int.natCast_zero] at IH
 simp only [↓GO, ↓DRW, GA, GX, ren, zm, za, refs, z8, cst, zq, isC, bin, una, z6, zd, blt, asArg, zf, zc, zg, z1, E.mkS, unN, ze, zn, zb, GS, simprocAttr, zD.zo, IH, bne_self_eq_false]
structure z7 where
 name : List UInt8
 version : List UInt8
 source : List UInt8
 sums : List zD
 dev : Bool
 zE : List (List UInt8)
def z7.enc (x : z7) : List T := [.str x.name, .str x.version, .str x.source, .list 2 (zD.zu x.sums), .bool x.dev, .list 1 (strs x.zE)]
def z7.zu (l : List z7) : List (List T) := l.map z7.enc
def z7.zT (x : z7) : Nat := x.name.length + x.version.length + x.source.length + (x.sums.length + zD.zK x.sums) + (x.zE.length + yh x.zE)
def z7.zK : List z7 → Nat
 | [] => 0
 | c :: cs => z7.zT c + z7.zK cs
def z7.ok (x : z7) : Prop := x.name.length ≤ 9223372036854775807 ∧ x.version.length ≤ 9223372036854775807 ∧ x.source.length ≤ 9223372036854775807 ∧ x.sums.length ≤ 9223372036854775807 ∧ (∀ y ∈ x.sums, y.ok) ∧ x.zE.length ≤ 9223372036854775807 ∧ (∀ s ∈ x.zE, s.length ≤ 9223372036854775807)
theorem z7.vl (x : z7) : x.enc.length = 6 := rfl
theorem z7.wj (x : z7) : x.enc.take 6 = x.enc := rfl
theorem z7.zo (cs : List z7) : (z7.zu cs).length = cs.length := by simp [z7.zu]
theorem z7.yS (cs : List z7) (i : Nat) (h : i < cs.length) : (z7.zu cs)[i]? = some cs[i].enc := by simp [z7.zu, h]
theorem z7.x6 (cs : List z7) (i : Nat) (h : i < cs.length) : z7.zK (cs.drop i) = cs[i].zT + z7.zK (cs.drop (i + 1)) := by
 rw [List.drop_eq_getElem_cons h]; rfl
theorem z7.y7 : ∀ {cs : List z7} {c : z7}, c ∈ cs → c.zT ≤ z7.zK cs
 | c' :: cs, c, h => by
  simp only [z7.zK]
  rcases List.mem_cons.1 h with rfl | h
  · omega
  · have := z7.y7 h; omega
def dW (x : z7) : Prop := ∀ n : Int, 0 ≤ n → n ≤ 1048576 → zk (EV Tryz.prog pol) 189 [.agg (x.enc.map .t), .t (.int .i64 n)] = some (.t (.int .i64 (left n x.zT)))
theorem Xr (x : z7) (ho : x.ok) : dW x := by
 obtain ⟨name, version, source, sums, dev, zE⟩ := x
 intro n h0 h1
 simp only [z7.ok] at ho
 simp only [z7.enc, List.map_cons, List.map_nil]
 apply zr
 refine zw rfl Tryz.func189 rfl (by kernel_rfl) ?_
 unfold Tryz.f189
 have k_sums := Xq sums (by first | exact ho.1 | simp_all) (fun c hc => Uc c (by simp_all))
 have k_needs := pW zE (by first | exact ho.1 | simp_all) (by first | exact ho.2 | simp_all)
 repeat' (first | (((first | with_reducible refine tg (fun hA => ?_) (fun hA => ?_) | with_reducible refine te (fun hA => ?_) (fun hA => ?_)) <;> (try simp only [bne, Bool.not_eq_true', Bool.not_eq_false'] at hA) <;> (first | (have hP := Int.le_of_eq (eq_of_beq (α := Int) hA); have hQ := Int.le_of_eq (eq_of_beq (α := Int) hA).symm) | have hP := of_decide_eq_true hA | have hP := of_decide_eq_false hA | skip)) <;> (simp (disch := ((try simp only [LL]); omega)) only [↓GO, ↓DRW, GA, GX, ren, zm, za, refs, z8, cst, zq, isC, bin, una, z6, zd, blt, asArg, zf, zc, zg, z1, E.mkS, unN, ze, zn, zb, GS, simprocAttr, zj, bne, sG, vR, k_sums, k_needs, *])) | (simp (disch := ((try simp only [LL]); omega)) only [↓GO, ↓DRW, GA, GX, ren, zm, za, refs, z8, cst, zq, isC, bin, una, z6, zd, blt, asArg, zf, zc, zg, z1, E.mkS, unN, ze, zn, zb, GS, simprocAttr, zj, bne, sG, vR, k_sums, k_needs, *]))
 all_goals (refine rz ?_; simp only [z7.zT, and_true]; omega)
theorem lG (cs : List z7) (hl : cs.length ≤ 9223372036854775807) (hc : ∀ c ∈ cs, dW c) : ∀ (d i : Nat) (n : Int), cs.length - i = d → i ≤ cs.length → 0 ≤ n → n ≤ 1048576 →
 (0 ≤ n - (z7.zK (cs.drop i) : Int) → EV Tryz.prog pol (.loop 87 122 0 [.t (.list 6 (z7.zu cs)), .t (.int .i64 n), .t (.int .i64 (i : Int))] []) = some (.loop (.exit 0) [.t (.int .i64 (n - (z7.zK (cs.drop i) : Int))), .bad] [])) ∧
 (n - (z7.zK (cs.drop i) : Int) < 0 → ∃ v, EV Tryz.prog pol (.loop 87 122 0 [.t (.list 6 (z7.zu cs)), .t (.int .i64 n), .t (.int .i64 (i : Int))] []) = some (.loop .ret [v, .t (.int .i64 (-1))] []))
 | 0, i, n, hd, hi, h0, h1 => by
  have hi' : i = cs.length := by omega
  subst hi'
  have hb : z7.zK (cs.drop cs.length) = 0 := by simp [z7.zK]
  rw [hb]
  refine ⟨fun _ => ?_, fun h => by omega⟩
  refine zi Tryz.func87 rfl rfl ?_
  have c : decide (((cs.length : Nat) : Int) < ((cs.length : Nat) : Int)) = false := by simp
  simp only [↓GO, ↓DRW, GA, GX, ren, zm, za, refs, z8, cst, zq, isC, bin, una, z6, zd, blt, asArg, zf, zc, zg, z1, E.mkS, unN, ze, zn, zb, GS, simprocAttr, z7.zo, c]
  simp
 | d + 1, i, n, hd, hi, h0, h1 => by
  have hlt : i < cs.length := by omega
  rw [z7.x6 cs i hlt]
  have c : decide ((i : Int) < ((cs.length : Nat) : Int)) = true := by simp; omega
  have hcall := hc _ (List.getElem_mem hlt) n h0 h1
  have hget := z7.yS cs i hlt
  generalize hci : cs[i] = ci at hcall hget
  obtain ⟨name, version, source, sums, dev, zE⟩ := ci
  simp only [z7.enc, List.map_cons, List.map_nil] at hcall hget
  generalize hbu : (z7.mk name version source sums dev zE).zT = bu at hcall
  have IH := lG cs hl hc d (i + 1) (n - (bu : Int)) (by omega) (by omega)
  have e1 : (i : Int) + 1 = ((i + 1 : Nat) : Int) := by omega
  by_cases hneg : n - (bu : Int) < 0
  · refine ⟨fun h => by omega, fun _ => ⟨.t (.int .i64 (-1)), ?_⟩⟩
    refine zi Tryz.func87 rfl rfl ?_
    have hle : left n bu = -1 := if_pos hneg
    rw [hle] at hcall
    simp (disch := omega) only [↓GO, ↓DRW, GA, GX, ren, zm, za, refs, z8, cst, zq, isC, bin, una, z6, zd, blt, asArg, zf, zc, zg, z1, E.mkS, unN, ze, zn, zb, GS, simprocAttr, z7.zo, c, hget, zj, hcall]
  · have hle : left n bu = n - (bu : Int) := if_neg hneg
    rw [hle] at hcall
    have c2 : decide (n - (bu : Int) < 0) = false := by simpa using hneg
    obtain ⟨I1, I2⟩ := IH (by omega) (by omega)
    refine ⟨fun h => ?_, fun h => ?_⟩
    · refine zi Tryz.func87 rfl rfl ?_
      simp (disch := omega) only [↓GO, ↓DRW, GA, GX, ren, zm, za, refs, z8, cst, zq, isC, bin, una, z6, zd, blt, asArg, zf, zc, zg, z1, E.mkS, unN, ze, zn, zb, GS, simprocAttr, z7.zo, c, hget, zj, hcall, c2, e1]
      rw [I1 (by omega), show n - (bu : Int) - (z7.zK (cs.drop (i + 1)) : Int) = n - ((bu + z7.zK (cs.drop (i + 1)) : Nat) : Int) by omega]
    · obtain ⟨v, hv⟩ := I2 (by omega)
      refine ⟨v, ?_⟩
      refine zi Tryz.func87 rfl rfl ?_
      simp (disch := omega) only [↓GO, ↓DRW, GA, GX, ren, zm, za, refs, z8, cst, zq, isC, bin, una, z6, zd, blt, asArg, zf, zc, zg, z1, E.mkS, unN, ze, zn, zb, GS, simprocAttr, z7.zo, c, hget, zj, hcall, c2, e1]
      exact hv
theorem Z0 (cs : List z7) (hl : cs.length ≤ 9223372036854775807) (hc : ∀ c ∈ cs, dW c) (n : Int) (h0 : 0 ≤ n) (h1 : n ≤ 1048576) :
 zk (EV Tryz.prog pol) 87 [.t (.list 6 (z7.zu cs)), .t (.int .i64 n)] = some (.t (.int .i64 (left n (cs.length + z7.zK cs)))) := by
 apply zr
 refine zw rfl Tryz.func87 rfl (by kernel_rfl) ?_
 unfold Tryz.f87
 by_cases hneg : n - (cs.length : Int) < 0
 · have c2 : decide (n - (cs.length : Int) < 0) = true := by simpa using hneg
   simp (disch := omega) only [↓GO, ↓DRW, GA, GX, ren, zm, za, refs, z8, cst, zq, isC, bin, una, z6, zd, blt, asArg, zf, zc, zg, z1, E.mkS, unN, ze, zn, zb, GS, simprocAttr, z7.zo, zj, c2]
   rw [left, if_pos (by omega)]
 · have c2 : decide (n - (cs.length : Int) < 0) = false := by simpa using hneg
   obtain ⟨I1, I2⟩ := lG cs hl hc cs.length 0 (n - (cs.length : Int)) (by omega) (by omega) (by omega) (by omega)
   simp only [List.drop_zero, Int.natCast_zero] at I1 I2
   by_cases hn2 : n - (cs.length : Int) - (z7.zK cs : Int) < 0
   · obtain ⟨v, hv⟩ := I2 hn2
     simp (disch := omega) only [↓GO, ↓DRW, GA, GX, ren, zm, za, refs, z8, cst, zq, isC, bin, una, z6, zd, blt, asArg, zf, zc, zg, z1, E.mkS, unN, ze, zn, zb, GS, simprocAttr, z7.zo, zj, c2, hv]
     rw [left, if_pos (by omega)]
   · simp (disch := omega) only [↓GO, ↓DRW, GA, GX, ren, zm, za, refs, z8, cst, zq, isC, bin, una, z6, zd, blt, asArg, zf, zc, zg, z1, E.mkS, unN, ze, zn, zb, GS, simprocAttr, z7.zo, zj, c2, I1 (by omega)]
     rw [left, if_neg (by omega), show n - (cs.length : Int) - (z7.zK cs : Int) = n - ((cs.length + z7.zK cs : Nat) : Int) by omega]
def my (x : z7) : Prop := zk (EV Tryz.prog pol) 202 [.agg (x.enc.map .t), .agg (x.enc.map .t)] = some (.t (.bool true))
theorem XF (x : z7) (ho : x.zT ≤ 4194304) : my x := by
 obtain ⟨name, version, source, sums, dev, zE⟩ := x
 simp only [z7.zT] at ho
 simp only [my, z7.enc, List.map_cons, List.map_nil]
 apply zr
 refine zw rfl Tryz.func202 rfl (by kernel_rfl) ?_
 unfold Tryz.f202
 simp only [↓GO, ↓DRW, GA, GX, ren, zm, za, refs, z8, cst, zq, isC, bin, una, z6, zd, blt, asArg, zf, zc, zg, z1, E.mkS, unN, ze, zn, zb, GS, simprocAttr, bne_self_eq_false, XE sums (by omega) (fun c hc => Un c (by have := zD.y7 hc; omega)), pY zE (by omega)]
theorem lH (cs : List z7) (hl : cs.length ≤ 4194304) (hc : ∀ c ∈ cs, my c) : ∀ (d i : Nat), cs.length - i = d → i ≤ cs.length →
 EV Tryz.prog pol (.loop 101 58 0 [.t (.list 6 (z7.zu cs)), .t (.list 6 (z7.zu cs)), .t (.int .i64 (i : Int))] []) = some (.loop (.exit 0) [.bad] [])
 | 0, i, hd, hi => by
  have hi' : i = cs.length := by omega
  subst hi'
  refine zi Tryz.func101 rfl rfl ?_
  have c : decide (((cs.length : Nat) : Int) < ((cs.length : Nat) : Int)) = false := by simp
  simp only [↓GO, ↓DRW, GA, GX, ren, zm, za, refs, z8, cst, zq, isC, bin, una, z6, zd, blt, asArg, zf, zc, zg, z1, E.mkS, unN, ze, zn, zb, GS, simprocAttr, z7.zo, c]
 | d + 1, i, hd, hi => by
  have hlt : i < cs.length := by omega
  have c : decide ((i : Int) < ((cs.length : Nat) : Int)) = true := by simp; omega
  have IH := lH cs hl hc d (i + 1) (by omega) (by omega)
  have e1 : (i : Int) + 1 = ((i + 1 : Nat) : Int) := by omega
  have hcall := hc _ (List.getElem_mem hlt)
  have hget := z7.yS cs i hlt
  generalize hci : cs[i] = ci at hcall hget
  obtain ⟨name, version, source, sums, dev, zE⟩ := ci
  simp only [my, z7.enc, List.map_cons, List.map_nil] at hcall hget
  refine zi Tryz.func101 rfl rfl ?_
  simp (disch := omega) only [↓GO, ↓DRW, GA, GX, ren, zm, za, refs, z8, cst, zq, isC, bin, una, z6, zd, blt, asArg, zf, zc, zg, z1, E.mkS, unN, ze, zn, zb, GS, simprocAttr, z7.zo, c, hget, zj, e1, hcall]
  exact IH
theorem Z4 (cs : List z7) (hl : cs.length ≤ 4194304) (hc : ∀ c ∈ cs, my c) : zk (EV Tryz.prog pol) 101 [.t (.list 6 (z7.zu cs)), .t (.list 6 (z7.zu cs))] = some (.t (.bool true)) := by
 apply zr
 refine zw rfl Tryz.func101 rfl (by kernel_rfl) ?_
 unfold Tryz.f101
 have IH := lH cs hl hc cs.length 0 (by omega) (by omega)
 simp only [Int.natCast_zero] at IH
 simp only [↓GO, ↓DRW, GA, GX, ren, zm, za, refs, z8, cst, zq, isC, bin, una, z6, zd, blt, asArg, zf, zc, zg, z1, E.mkS, unN, ze, zn, zb, GS, simprocAttr, z7.zo, IH, bne_self_eq_false]
structure zy where
 top : List (List UInt8)
 packs : List z7
def zy.enc (x : zy) : List T := [.list 1 (strs x.top), .list 6 (z7.zu x.packs)]
def zy.zu (l : List zy) : List (List T) := l.map zy.enc
def zy.zT (x : zy) : Nat := (x.top.length + yh x.top) + (x.packs.length + z7.zK x.packs)
def zy.zK : List zy → Nat
 | [] => 0
 | c :: cs => zy.zT c + zy.zK cs
def zy.ok (x : zy) : Prop := x.top.length ≤ 9223372036854775807 ∧ (∀ s ∈ x.top, s.length ≤ 9223372036854775807) ∧ x.packs.length ≤ 9223372036854775807 ∧ (∀ y ∈ x.packs, y.ok)
theorem zy.vl (x : zy) : x.enc.length = 2 := rfl
theorem zy.wj (x : zy) : x.enc.take 2 = x.enc := rfl
theorem zy.zo (cs : List zy) : (zy.zu cs).length = cs.length := by simp [zy.zu]
theorem zy.yS (cs : List zy) (i : Nat) (h : i < cs.length) : (zy.zu cs)[i]? = some cs[i].enc := by simp [zy.zu, h]
theorem zy.x6 (cs : List zy) (i : Nat) (h : i < cs.length) : zy.zK (cs.drop i) = cs[i].zT + zy.zK (cs.drop (i + 1)) := by
 rw [List.drop_eq_getElem_cons h]; rfl
theorem zy.y7 : ∀ {cs : List zy} {c : zy}, c ∈ cs → c.zT ≤ zy.zK cs
 | c' :: cs, c, h => by
  simp only [zy.zK]
  rcases List.mem_cons.1 h with rfl | h
  · omega
  · have := zy.y7 h; omega
def Uz (x : zy) : Prop := ∀ n : Int, 0 ≤ n → n ≤ 1048576 → zk (EV Tryz.prog pol) 15 [.agg (x.enc.map .t), .t (.int .i64 n)] = some (.t (.int .i64 (left n x.zT)))
theorem qV (x : zy) (ho : x.ok) : Uz x := by
 obtain ⟨top, packs⟩ := x
 intro n h0 h1
 simp only [zy.ok] at ho
 simp only [zy.enc, List.map_cons, List.map_nil]
 apply zr
 refine zw rfl Tryz.func15 rfl (by kernel_rfl) ?_
 unfold Tryz.f15
 have k_top := pW top (by first | exact ho.1 | simp_all) (by first | exact ho.2 | simp_all)
 have k_packs := Z0 packs (by first | exact ho.1 | simp_all) (fun c hc => Xr c (by simp_all))
 repeat' (first | (((first | with_reducible refine tg (fun hA => ?_) (fun hA => ?_) | with_reducible refine te (fun hA => ?_) (fun hA => ?_)) <;> (try simp only [bne, Bool.not_eq_true', Bool.not_eq_false'] at hA) <;> (first | (have hP := Int.le_of_eq (eq_of_beq (α := Int) hA); have hQ := Int.le_of_eq (eq_of_beq (α := Int) hA).symm) | have hP := of_decide_eq_true hA | have hP := of_decide_eq_false hA | skip)) <;> (simp (disch := ((try simp only [LL]); omega)) only [↓GO, ↓DRW, GA, GX, ren, zm, za, refs, z8, cst, zq, isC, bin, una, z6, zd, blt, asArg, zf, zc, zg, z1, E.mkS, unN, ze, zn, zb, GS, simprocAttr, zj, bne, sG, vR, k_top, k_packs, *])) | (simp (disch := ((try simp only [LL]); omega)) only [↓GO, ↓DRW, GA, GX, ren, zm, za, refs, z8, cst, zq, isC, bin, una, z6, zd, blt, asArg, zf, zc, zg, z1, E.mkS, unN, ze, zn, zb, GS, simprocAttr, zj, bne, sG, vR, k_top, k_packs, *]))
 all_goals (refine rz ?_; simp only [zy.zT, and_true]; omega)
def oz (x : zy) : Prop := zk (EV Tryz.prog pol) 23 [.agg (x.enc.map .t), .agg (x.enc.map .t)] = some (.t (.bool true))
theorem qX (x : zy) (ho : x.zT ≤ 4194304) : oz x := by
 obtain ⟨top, packs⟩ := x
 simp only [zy.zT] at ho
 simp only [oz, zy.enc, List.map_cons, List.map_nil]
 apply zr
 refine zw rfl Tryz.func23 rfl (by kernel_rfl) ?_
 unfold Tryz.f23
 simp only [↓GO, ↓DRW, GA, GX, ren, zm, za, refs, z8, cst, zq, isC, bin, una, z6, zd, blt, asArg, zf, zc, zg, z1, E.mkS, unN, ze, zn, zb, GS, simprocAttr, bne_self_eq_false, pY top (by omega), Z4 packs (by omega) (fun c hc => XF c (by have := z7.y7 hc; omega))]
end Go.Proofs.YtijninlbpifonaaGreatDoor
/- The seat's own facts: the conditions on the program. Conditions: none. -/
namespace Go.Proofs.YtijninlbpifonaaGreatDoor
open E
theorem Tryz.own : ownKnob Tryz.prog.godebug = none := by kernel_rfl
theorem Tryz.kids : Kids Tryz.prog (· < Tryz.prog.types.size) := kids_rows (by kernel_rfl) (by kernel_rfl)
theorem Tryz.full : ∀ t e, t < Tryz.prog.types.size → Tryz.prog.underlying t = some (.slice e) → 0 < Tryz.prog.cellsOf e := slices_full_of Tryz.prog (by kernel_rfl)
end Go.Proofs.YtijninlbpifonaaGreatDoor
/- What the laws' arguments are: Sum, Pack, Graph. Conditions: those of each lemma. -/
namespace Go.Proofs.YtijninlbpifonaaGreatDoor
open E
set_option linter.unusedSimpArgs false
set_option linter.unusedVariables false
set_option maxRecDepth 100000
theorem bU {cs : List T} (h : WT Tryz.prog 22 cs) : ∃ ks, cs = [.list 1 (strs ks)] ∧ ks.length ≤ 9223372036854775807 ∧ ∀ x ∈ ks, x.length ≤ 9223372036854775807 := by
 obtain ⟨es, e1, e2, e3⟩ := h.nX Tryz.underlying22
 have k0 : Tryz.prog.cellsOf 9 = 1 := by kernel_rfl
 have key : ∀ es : List (List T), (∀ c ∈ es, WT Tryz.prog 9 c) → ∃ ks, es = strs ks ∧ ∀ x ∈ ks, x.length ≤ 9223372036854775807 := fun es => by
  induction es with
  | nil => exact fun _ => ⟨[], rfl, by simp⟩
  | cons c es ih =>
   intro h
   obtain ⟨ks, a1, a2⟩ := ih fun c' hc => h c' (by simp [hc])
   obtain ⟨l, a3, a4⟩ := (h c (by simp)).sH Tryz.underlying9
   exact ⟨l :: ks, by simp [strs, a1, a3], by simpa using ⟨a4, a2⟩⟩
 obtain ⟨ks, a1, a2⟩ := key es e3
 subst a1
 exact ⟨ks, by rw [e1, k0], by rw [zh] at e2; exact e2, a2⟩
theorem TT {cs : List T} (h : WT Tryz.prog 262 cs) : ∃ x : zD, cs = x.enc ∧ x.ok := by
 obtain ⟨hl, hs⟩ := h.rC Tryz.underlying262
 have k0 : Tryz.prog.cellsOf 262 = 2 := by kernel_rfl
 have k1 : Tryz.prog.cellsOf 9 = 1 := by kernel_rfl
 rw [k0] at hl
 match cs, hl with
 | [y0, y1], _ =>
  simp [k1] at hs
  obtain ⟨s0, s1⟩ := hs
  obtain ⟨v0, e0, o0⟩ := s0.sH Tryz.underlying9
  obtain ⟨v1, e1, o1⟩ := s1.sH Tryz.underlying9
  simp at e0 e1
  subst e0 e1
  exact ⟨⟨v0, v1⟩, rfl, ⟨o0, o1⟩⟩
theorem Ux {cs : List T} (h : WT Tryz.prog 170 cs) : ∃ l : List zD, cs = [.list 2 (zD.zu l)] ∧ l.length ≤ 9223372036854775807 ∧ ∀ y ∈ l, y.ok := by
 obtain ⟨es, e1, e2, e3⟩ := h.nX Tryz.underlying170
 have k0 : Tryz.prog.cellsOf 262 = 2 := by kernel_rfl
 have key : ∀ es : List (List T), (∀ c ∈ es, WT Tryz.prog 262 c) → ∃ l : List zD, es = zD.zu l ∧ ∀ y ∈ l, y.ok := fun es => by
  induction es with
  | nil => exact fun _ => ⟨[], rfl, by simp⟩
  | cons c es ih =>
   intro h
   obtain ⟨l, a1, a2⟩ := ih fun c' hc => h c' (by simp [hc])
   obtain ⟨x, a3, a4⟩ := TT (h c (by simp))
   exact ⟨x :: l, by simp [zD.zu, a1, a3], by simpa using ⟨a4, a2⟩⟩
 obtain ⟨l, a1, a2⟩ := key es e3
 subst a1
 exact ⟨l, by rw [e1, k0], by rw [zD.zo] at e2; exact e2, a2⟩
theorem Uy {cs : List T} (h : WT Tryz.prog 172 cs) : ∃ x : z7, cs = x.enc ∧ x.ok := by
 obtain ⟨hl, hs⟩ := h.rC Tryz.underlying172
 have k0 : Tryz.prog.cellsOf 172 = 6 := by kernel_rfl
 have k1 : Tryz.prog.cellsOf 170 = 1 := by kernel_rfl
 have k2 : Tryz.prog.cellsOf 22 = 1 := by kernel_rfl
 have k3 : Tryz.prog.cellsOf 4 = 1 := by kernel_rfl
 have k4 : Tryz.prog.cellsOf 9 = 1 := by kernel_rfl
 rw [k0] at hl
 match cs, hl with
 | [y0, y1, y2, y3, y4, y5], _ =>
  simp [k1, k2, k3, k4] at hs
  obtain ⟨s0, s1, s2, s3, s4, s5⟩ := hs
  obtain ⟨v0, e0, o0⟩ := s0.sH Tryz.underlying9
  obtain ⟨v1, e1, o1⟩ := s1.sH Tryz.underlying9
  obtain ⟨v2, e2, o2⟩ := s2.sH Tryz.underlying9
  obtain ⟨v3, e3, o3, o3'⟩ := Ux s3
  obtain ⟨v4, e4⟩ := s4.Xa Tryz.underlying4
  obtain ⟨v5, e5, o5, o5'⟩ := bU s5
  simp at e0 e1 e2 e3 e4 e5
  subst e0 e1 e2 e3 e4 e5
  exact ⟨⟨v0, v1, v2, v3, v4, v5⟩, rfl, ⟨o0, o1, o2, o3, o3', o5, o5'⟩⟩
theorem XV {cs : List T} (h : WT Tryz.prog 23 cs) : ∃ l : List z7, cs = [.list 6 (z7.zu l)] ∧ l.length ≤ 9223372036854775807 ∧ ∀ y ∈ l, y.ok := by
 obtain ⟨es, e1, e2, e3⟩ := h.nX Tryz.underlying23
 have k0 : Tryz.prog.cellsOf 172 = 6 := by kernel_rfl
 have key : ∀ es : List (List T), (∀ c ∈ es, WT Tryz.prog 172 c) → ∃ l : List z7, es = z7.zu l ∧ ∀ y ∈ l, y.ok := fun es => by
  induction es with
  | nil => exact fun _ => ⟨[], rfl, by simp⟩
  | cons c es ih =>
   intro h
   obtain ⟨l, a1, a2⟩ := ih fun c' hc => h c' (by simp [hc])
   obtain ⟨x, a3, a4⟩ := Uy (h c (by simp))
   exact ⟨x :: l, by simp [z7.zu, a1, a3], by simpa using ⟨a4, a2⟩⟩
 obtain ⟨l, a1, a2⟩ := key es e3
 subst a1
 exact ⟨l, by rw [e1, k0], by rw [z7.zo] at e2; exact e2, a2⟩
theorem XW {cs : List T} (h : WT Tryz.prog 25 cs) : ∃ x : zy, cs = x.enc ∧ x.ok := by
 obtain ⟨hl, hs⟩ := h.rC Tryz.underlying25
 have k0 : Tryz.prog.cellsOf 25 = 2 := by kernel_rfl
 have k1 : Tryz.prog.cellsOf 23 = 1 := by kernel_rfl
 have k2 : Tryz.prog.cellsOf 22 = 1 := by kernel_rfl
 rw [k0] at hl
 match cs, hl with
 | [y0, y1], _ =>
  simp [k1, k2] at hs
  obtain ⟨s0, s1⟩ := hs
  obtain ⟨v0, e0, o0, o0'⟩ := bU s0
  obtain ⟨v1, e1, o1, o1'⟩ := XV s1
  simp at e0 e1
  subst e0 e1
  exact ⟨⟨v0, v1⟩, rfl, ⟨o0, o0', o1, o1'⟩⟩
end Go.Proofs.YtijninlbpifonaaGreatDoor
/- The laws' own functions over trees: sizes, comparisons. Conditions: those of each lemma. -/
namespace Go.Proofs.YtijninlbpifonaaGreatDoor
open E
set_option linter.unusedSimpArgs false
set_option linter.unusedVariables false
set_option maxRecDepth 100000
end Go.Proofs.YtijninlbpifonaaGreatDoor
/- Lists that own their memory, as rows; trees laid anew. Conditions: those of each lemma. -/
namespace Go.Proofs.YtijninlbpifonaaGreatDoor
open E
set_option linter.unusedSimpArgs false
set_option linter.unusedVariables false
set_option maxRecDepth 100000
theorem zL (h : Heap) (ids : List Nat) : reach h 3 ids = vX h 3 ids := (sq h 3 ids).symm
/-- a row whose lists are owned -/
def ocE (es : List (List T)) : List (List V) := es.map fun e => e.map oc
theorem yQ (es : List (List T)) : (ocE es).length = es.length := by simp [ocE]
theorem ji (a b : List (List T)) : ocE (a ++ b) = ocE a ++ ocE b := by simp [ocE]
theorem uk (x : List T) (b : List (List T)) : ocE (x :: b) = x.map oc :: ocE b := rfl
theorem jh : ocE [] = [] := rfl
theorem Vz (x : T) : refs (oc x) = [] := by cases x <;> rfl
theorem gr : ∀ e : List T, refs.refss (e.map oc) = []
 | [] => rfl
 | x :: e => by simp only [List.map_cons, refs.refss, Vz, gr e, List.nil_append]
theorem yj : ∀ es : List (List T), (ocE es).flatMap refs.refss = []
 | [] => rfl
 | e :: es => by rw [uk, List.flatMap_cons, gr, yj es]; rfl
theorem Tn (m : Nat → Option Nat) (x : T) : ren m (oc x) = oc x := by cases x <;> rfl
theorem cB (m : Nat → Option Nat) : ∀ e : List T, ren.rens m (e.map oc) = e.map oc
 | [] => rfl
 | x :: e => by simp only [List.map_cons, ren.rens, Tn, cB m e]
theorem yA (m : Nat → Option Nat) : ∀ es : List (List T), (ocE es).map (ren.rens m) = ocE es
 | [] => rfl
 | e :: es => by rw [uk, List.map_cons, cB, yA m es]
theorem nJ (z : List V) (hz : refs.refss z = []) : ∀ k, (List.replicate k z).flatMap refs.refss = []
 | 0 => rfl
 | k + 1 => by rw [List.replicate_succ, List.flatMap_cons, hz, nJ z hz k]; rfl
theorem cq (m : Nat → Option Nat) (z : List V) (hz : ren.rens m z = z) (k : Nat) : (List.replicate k z).map (ren.rens m) = List.replicate k z := by rw [List.map_replicate, hz]
theorem vQ {α : Type} (A B : List α) (x : α) (n : Nat) (h : A.length = n) : (A ++ x :: B)[n]? = some x := by
 rw [List.getElem?_append_right (by omega), h, Nat.sub_self]; rfl
theorem vk {α : Type} (A B : List α) (x y : α) (n : Nat) (h : A.length = n) : (A ++ x :: B).set n y = A ++ y :: B := by
 rw [List.set_append_right _ _ (by omega), h, Nat.sub_self]; rfl
theorem gv_oc (x : T) : gvC (oc x) = some x := by cases x <;> rfl
theorem WR : ∀ e : List T, ea (e.map oc) = some e
 | [] => rfl
 | x :: e => by simp only [List.map_cons, ea, gv_oc, WR e]
theorem WS : ∀ es : List (List T), gvE (ocE es) = some es
 | [] => rfl
 | e :: es => by rw [uk]; simp only [gvE, WR, WS es]
theorem YM (h : Heap) (x : T) : zf h (oc x) = some x := by cases x <;> rfl
theorem iS (h : Heap) : ∀ e : List T, xl h (e.map oc) = some e
 | [] => rfl
 | x :: e => by simp only [List.map_cons, xl, YM, iS h e]
theorem q9 (h : Heap) : ∀ es : List (List T), vG h (ocE es) = some es
 | [] => rfl
 | e :: es => by rw [uk]; simp only [vG, iS, q9 h es]
theorem xi : ∀ l : List Str, sN (strs l) = true
 | [] => rfl
 | x :: l => by
  have := xi l
  unfold sN strs at this ⊢
  rw [List.map_cons, List.all_cons, this]; rfl
theorem mg (ks : List Str) (hl : ks.length ≤ 1048576) : EV Tryz.prog pol (.callO false 21 [.t (.list 1 (strs ks))] []) = some (.call (.sl 0 0 ks.length (some ks.length)) [.ts 1 (strs ks)]) := by
 refine yd Tryz.func21 rfl (by kernel_rfl) ?_
 unfold Tryz.f21
 have h1 : ¬ ((ks.length : Int) < 0) := by omega
 have h2 : ¬ (ks.length * 16 > 140737488355328) := by omega
 have h3 : ¬ (ks.length > 140737488355328) := by omega
 have hz : List.replicate ks.length [T.str []] = vt (strs ks) [.str []] 0 := by rw [nj, zh]
 have IH := pF ks hl ks.length 0 (by omega) (by omega)
 simp only [Int.natCast_zero] at IH
 simp (disch := omega) only [↓GO, ↓DRW, GA, GX, ren, zm, za, refs, z8, cst, zq, isC, bin, una, z6, zd, blt, asArg, zf, zc, zg, z1, E.mkS, unN, ze, zn, zb, GS, simprocAttr, zh, Int.toNat_natCast, h1, h2, h3, hz, IH, ne_eq, not_true_eq_false]
end Go.Proofs.YtijninlbpifonaaGreatDoor
/- Trees laid anew; marks. Conditions: those of each lemma. -/
namespace Go.Proofs.YtijninlbpifonaaGreatDoor
open E
set_option linter.unusedSimpArgs false
set_option linter.unusedVariables false
set_option maxRecDepth 100000
def mkD : Nat → Nat → Str → Str
 | 0, _, out => out
 | n + 1, k, out => if k = 0 then out else mkD n (k / 10) (UInt8.ofNat (48 + k % 10) :: out)
/-- a number's mark -/
def mkT (k : Nat) : Str := if k = 0 then [109, 48] else 109 :: mkD k k []
theorem UT : ∀ (n k : Nat) (out : Str), k ≤ n → k ≤ 9223372036854775807 → out.length + k ≤ 9223372036854775000 →
 EV Tryz.prog pol (.loop 120 60 0 [.t (.int .i64 (k : Int)), .t (.str out)] []) = some (.loop (.exit 0) [.t (.str (mkD n k out))] [])
 | n, 0, out, h, h1, h2 => by
  have e : mkD n 0 out = out := by cases n <;> simp [mkD]
  rw [e]
  refine zi Tryz.func120 rfl rfl ?_
  simp (disch := ((try simp only [LL]); omega)) only [↓GO, ↓DRW, GA, GX, ren, zm, za, refs, z8, cst, zq, isC, bin, una, z6, zd, blt, asArg, zf, zc, zg, z1, E.mkS, unN, ze, zn, zb, GS, simprocAttr, GZ, Int.natCast_zero]
 | 0, k + 1, out, h, h1, h2 => by omega
 | n + 1, k + 1, out, h, h1, h2 => by
  generalize hm : k + 1 = x at *
  have c : decide (((x : Nat) : Int) > 0) = true := by apply decide_eq_true; omega
  have e1 : ((x : Nat) : Int).tmod 10 = ((x % 10 : Nat) : Int) := (Int.ofNat_tmod x 10).symm
  have e2 : ((x : Nat) : Int).tdiv 10 = ((x / 10 : Nat) : Int) := (Int.ofNat_tdiv x 10).symm
  have hd : x % 10 < 10 := Nat.mod_lt _ (by omega)
  have IH := UT n (x / 10) (UInt8.ofNat (48 + x % 10) :: out) (by omega) (by omega) (by simp only [List.length_cons]; omega)
  have ex : mkD (n + 1) x out = mkD n (x / 10) (UInt8.ofNat (48 + x % 10) :: out) := by rw [mkD, if_neg (by omega)]
  rw [ex]
  have w1 : IntKind.i64.wrap (48 + ((x % 10 : Nat) : Int)) = ((48 + x % 10 : Nat) : Int) := by rw [zj (by omega)]; omega
  have w3 : IntKind.u8.wrap ((48 + x % 10 : Nat) : Int) = ((48 + x % 10 : Nat) : Int) := by
   have key : ∀ n : Fin 256, IntKind.u8.wrap (n.val : Int) = (n.val : Int) := by decide +kernel
   exact key ⟨48 + x % 10, by omega⟩
  have w2 : IntKind.i64.wrap ((x / 10 : Nat) : Int) = ((x / 10 : Nat) : Int) := zj (by omega)
  refine zi Tryz.func120 rfl rfl ?_
  simp (disch := ((try simp only [LL]); omega)) only [↓GO, ↓DRW, GA, GX, ren, zm, za, refs, z8, cst, zq, isC, bin, una, z6, zd, blt, asArg, zf, zc, zg, z1, E.mkS, unN, ze, zn, zb, GS, simprocAttr, GZ, c, e1, e2, w1, w2, w3, conv, wI, bytesOf, Int.toNat_natCast, List.singleton_append, xg, IH]
end Go.Proofs.YtijninlbpifonaaGreatDoor
/- Marks in lists of texts, in trees. Conditions: those of each lemma. -/
namespace Go.Proofs.YtijninlbpifonaaGreatDoor
open E
set_option linter.unusedSimpArgs false
set_option linter.unusedVariables false
set_option maxRecDepth 100000
theorem l0 : strs [] = [] := rfl
theorem tr (k : Nat) (h : k ≤ 1099511627776) : zk (EV Tryz.prog pol) 120 [.t (.int .i64 (k : Int))] = some (.t (.str (mkT k))) := by
 have L := UT k k [] (Nat.le_refl _) (by omega) (by simp; omega)
 have hlen : (mkD k k []).length ≤ k := by
  have key : ∀ (n x : Nat) (out : Str), (mkD n x out).length ≤ n + out.length := fun n => by
   induction n with
   | zero => intro x out; simp [mkD]
   | succ n ih =>
    intro x out
    rw [mkD]
    split
    · omega
    · have := ih (x / 10) (UInt8.ofNat (48 + x % 10) :: out); simp only [List.length_cons] at this; omega
  have := key k k []; simpa using this
 unfold mkT
 by_cases h0 : k = 0
 · subst h0
   have c : decide (((0 : Nat) : Int) ≤ 0) = true := by decide
   rw [if_pos rfl]
   apply zr
   refine zw rfl Tryz.func120 rfl (by kernel_rfl) ?_
   unfold Tryz.f120
   simp (disch := ((try simp only [LL]); omega)) only [↓GO, ↓DRW, GA, GX, ren, zm, za, refs, z8, cst, zq, isC, bin, una, z6, zd, blt, asArg, zf, zc, zg, z1, E.mkS, unN, ze, zn, zb, GS, simprocAttr, GZ, c, Int.natCast_zero]
 · have c : decide (((k : Nat) : Int) ≤ 0) = false := by apply decide_eq_false; omega
   rw [if_neg h0]
   generalize mkD k k [] = ms at *
   apply zr
   refine zw rfl Tryz.func120 rfl (by kernel_rfl) ?_
   unfold Tryz.f120
   simp (disch := ((try simp only [LL]); omega)) only [↓GO, ↓DRW, GA, GX, ren, zm, za, refs, z8, cst, zq, isC, bin, una, z6, zd, blt, asArg, zf, zc, zg, z1, E.mkS, unN, ze, zn, zb, GS, simprocAttr, GZ, c, L, List.singleton_append, List.cons_append, List.nil_append, xg]
def mkS : Nat → Nat → List Str
 | 0, _ => []
 | n + 1, k => mkT k :: mkS n (k + 1)
theorem wU : ∀ n k, (mkS n k).length = n
 | 0, _ => rfl
 | n + 1, k => by rw [mkS, List.length_cons, wU n (k + 1)]
theorem gF : ∀ n k, mkS (n + 1) k = mkS n k ++ [mkT (k + n)]
 | 0, k => rfl
 | n + 1, k => by
  rw [mkS, gF n (k + 1), mkS, List.cons_append, show k + 1 + n = k + (n + 1) by omega]
theorem cX (ks : List Str) (hl : ks.length ≤ 134217728) (cap : Option Nat) (k : Nat) (hk : k ≤ 1073741824) : ∀ (rest pre : List Str), ks = pre ++ rest →
 EV Tryz.prog pol (.loop 77 26 1 [.sl 0 0 ks.length cap, .t (.int .i64 ((k + pre.length : Nat) : Int)), .t (.int .i64 (pre.length : Int))] [.ts 1 (strs (mkS pre.length k) ++ strs rest)])
  = some (.loop (.exit 0) [.t (.int .i64 ((k + ks.length : Nat) : Int))] [.ts 1 (strs (mkS ks.length k))])
 | [], pre, hs => by
  have c : decide ((pre.length : Int) < (ks.length : Int)) = false := by simp [hs]
  have e : ks = pre := by simpa using hs
  simp only [l0, List.append_nil]
  refine zi Tryz.func77 rfl rfl ?_
  simp (disch := ((try simp only [LL]); omega)) only [↓GO, ↓DRW, GA, GX, ren, zm, za, refs, z8, cst, zq, isC, bin, una, z6, zd, blt, asArg, zf, zc, zg, z1, E.mkS, unN, ze, zn, zb, GS, simprocAttr, GZ, c]
  rw [e]
 | x :: rest, pre, hs => by
  have c : decide ((pre.length : Int) < (ks.length : Int)) = true := by simp [hs]; omega
  have c0 : decide ((0 : Int) ≤ (pre.length : Int)) = true := by simp
  have hlen : pre.length + rest.length + 1 ≤ ks.length := by rw [hs]; simp; omega
  have hm := tr (k + pre.length) (by omega)
  have IH := cX ks hl cap k hk rest (pre ++ [x]) (by rw [hs]; simp)
  rw [show (pre ++ [x]).length = pre.length + 1 by simp, gF, show strs (mkS pre.length k ++ [mkT (k + pre.length)]) = strs (mkS pre.length k) ++ [[.str (mkT (k + pre.length))]] by simp [strs], List.append_assoc, List.cons_append, List.nil_append] at IH
  rw [show k + (pre.length + 1) = k + pre.length + 1 by omega] at IH
  have w : IntKind.i64.wrap (((k + pre.length : Nat) : Int) + 1) = ((k + pre.length + 1 : Nat) : Int) := by rw [zj (by omega)]; omega
  have w2 : IntKind.i64.wrap ((pre.length : Int) + 1) = ((pre.length + 1 : Nat) : Int) := by rw [zj (by omega)]; omega
  have hAl : (strs (mkS pre.length k)).length = pre.length := by rw [zh, wU]
  rw [show strs (x :: rest) = [.str x] :: strs rest from rfl]
  have hg1 := fun y => vQ (strs (mkS pre.length k)) (strs rest) y pre.length hAl
  have hs1 := fun y z => vk (strs (mkS pre.length k)) (strs rest) y z pre.length hAl
  clear hs
  generalize strs (mkS pre.length k) = A at *
  generalize mkT (k + pre.length) = mt at *
  generalize k + pre.length = kp at *
  refine zi Tryz.func77 rfl rfl ?_
  simp (disch := ((try simp only [LL]); omega)) only [↓GO, ↓DRW, GA, GX, ren, zm, za, refs, z8, cst, zq, isC, bin, una, z6, zd, blt, asArg, zf, zc, zg, z1, E.mkS, unN, ze, zn, zb, GS, simprocAttr, GZ, c, c0, if_true, Int.toNat_natCast, hm, hg1, hs1, w, w2, IH]
theorem ju (ks : List Str) (hl : ks.length ≤ 134217728) (cap : Option Nat) (k : Nat) (hk : k ≤ 1073741824) (n : Nat) (hn : n = ks.length) :
 EV Tryz.prog pol (.callO false 77 [.sl 0 0 n cap, .t (.int .i64 (k : Int))] [.ts 1 (strs ks)]) = some (.call (.t (.int .i64 ((k + ks.length : Nat) : Int))) [.ts 1 (strs (mkS ks.length k))]) := by
 subst hn
 have L := cX ks hl cap k hk ks [] rfl
 simp only [List.length_nil, Int.natCast_zero, mkS, l0, List.nil_append, Nat.add_zero] at L
 refine yd Tryz.func77 rfl (by kernel_rfl) ?_
 unfold Tryz.f77
 simp (disch := ((try simp only [LL]); omega)) only [↓GO, ↓DRW, GA, GX, ren, zm, za, refs, z8, cst, zq, isC, bin, una, z6, zd, blt, asArg, zf, zc, zg, z1, E.mkS, unN, ze, zn, zb, GS, simprocAttr, GZ, L]
end Go.Proofs.YtijninlbpifonaaGreatDoor
/- Marks in trees. Conditions: those of each lemma. -/
namespace Go.Proofs.YtijninlbpifonaaGreatDoor
open E
set_option linter.unusedSimpArgs false
set_option linter.unusedVariables false
set_option maxRecDepth 100000
end Go.Proofs.YtijninlbpifonaaGreatDoor
/- Marks in trees, all; marks found again. Conditions: those of each lemma. -/
namespace Go.Proofs.YtijninlbpifonaaGreatDoor
open E
set_option linter.unusedSimpArgs false
set_option linter.unusedVariables false
set_option maxRecDepth 100000
theorem b6 (ks : List Str) (hl : ks.length ≤ 134217728) (k : Nat) (hk : k ≤ 1073741824) : ∀ (n i : Nat), i + n = ks.length → ks = mkS ks.length k →
 EV Tryz.prog pol (.loop 78 26 0 [.t (.list 1 (strs ks)), .t (.int .i64 ((k + i : Nat) : Int)), .t (.int .i64 (i : Int))] []) = some (.loop (.exit 0) [.t (.int .i64 ((k + ks.length : Nat) : Int)), .bad] [])
 | 0, i, hi, hm => by
  have c : decide ((i : Int) < (ks.length : Int)) = false := by apply decide_eq_false; omega
  have e : i = ks.length := by omega
  refine zi Tryz.func78 rfl rfl ?_
  simp (disch := ((try simp only [LL]); omega)) only [↓GO, ↓DRW, GA, GX, ren, zm, za, refs, z8, cst, zq, isC, bin, una, z6, zd, blt, asArg, zf, zc, zg, z1, E.mkS, unN, ze, zn, zb, GS, simprocAttr, GZ, c, zh]
  rw [e]
 | n + 1, i, hi, hm => by
  have c : decide ((i : Int) < (ks.length : Int)) = true := by apply decide_eq_true; omega
  have hg : ∀ (m j q : Nat), j < m → (mkS m q)[j]? = some (mkT (q + j)) := fun m => by
   induction m with
   | zero => intro j q h; omega
   | succ m ih =>
    intro j q h
    cases j with
    | zero => rfl
    | succ j => rw [mkS, List.getElem?_cons_succ, ih j (q + 1) (by omega), show q + 1 + j = q + (j + 1) by omega]
  have hget : (strs ks)[i]? = some [.str (mkT (k + i))] := by
   have := hg ks.length i k (by omega)
   rw [hm]
   simp only [strs, List.getElem?_map, wU, this, Option.map_some]
  have hmt := tr (k + i) (by omega)
  have IH := b6 ks hl k hk n (i + 1) (by omega) hm
  have w : IntKind.i64.wrap (((k + i : Nat) : Int) + 1) = ((k + (i + 1) : Nat) : Int) := by rw [zj (by omega)]; omega
  have w2 : IntKind.i64.wrap ((i : Int) + 1) = ((i + 1 : Nat) : Int) := by rw [zj (by omega)]; omega
  clear hm
  generalize mkT (k + i) = mt at *
  refine zi Tryz.func78 rfl rfl ?_
  simp (disch := ((try simp only [LL]); omega)) only [↓GO, ↓DRW, GA, GX, ren, zm, za, refs, z8, cst, zq, isC, bin, una, z6, zd, blt, asArg, zf, zc, zg, z1, E.mkS, unN, ze, zn, zb, GS, simprocAttr, GZ, c, zh, hget, hmt, w, w2, IH, bne_self_eq_false]
theorem bM (n k : Nat) (hn : n ≤ 134217728) (hk : k ≤ 1073741824) : zk (EV Tryz.prog pol) 78 [.t (.list 1 (strs (mkS n k))), .t (.int .i64 (k : Int))] = some (.t (.int .i64 ((k + n : Nat) : Int))) := by
 have L := b6 (mkS n k) (by rw [wU]; exact hn) k hk n 0 (by rw [wU]; omega) (by rw [wU])
 rw [wU] at L
 simp only [Int.natCast_zero, Nat.add_zero] at L
 apply zr
 refine zw rfl Tryz.func78 rfl (by kernel_rfl) ?_
 unfold Tryz.f78
 simp (disch := ((try simp only [LL]); omega)) only [↓GO, ↓DRW, GA, GX, ren, zm, za, refs, z8, cst, zq, isC, bin, una, z6, zd, blt, asArg, zf, zc, zg, z1, E.mkS, unN, ze, zn, zb, GS, simprocAttr, GZ, L]
end Go.Proofs.YtijninlbpifonaaGreatDoor
/- Trees copied, by both. Conditions: those of each lemma. -/
namespace Go.Proofs.YtijninlbpifonaaGreatDoor
open E
set_option linter.unusedSimpArgs false
set_option linter.unusedVariables false
set_option maxRecDepth 100000
theorem yN {α : Type} {b : Bool} {x y r : Option α} (h : b = true) (hx : x = r) : (if b = true then x else y) = r := by rw [h]; exact hx
end Go.Proofs.YtijninlbpifonaaGreatDoor
/- Trees copied by the implementation: their memory is their own; what stands under a key, by both. Conditions: those of each lemma. -/
namespace Go.Proofs.YtijninlbpifonaaGreatDoor
open E
set_option linter.unusedSimpArgs false
set_option linter.unusedVariables false
set_option maxRecDepth 100000
/-- the first place of a key, from i on -/
def ixS (key : Str) : Nat → List Str → Int
 | _, [] => -1
 | i, k :: r => cond (k == key) (i : Int) (ixS key (i + 1) r)
theorem ba (key : Str) : ∀ (r : List Str) (i : Nat), ixS key i r = -1 ∨ ((i : Int) ≤ ixS key i r ∧ ixS key i r < ((i + r.length : Nat) : Int))
 | [], i => .inl rfl
 | k :: r, i => by
  rw [ixS]
  cases hk : (k == key) with
  | true => right; simp only [cond_true, List.length_cons]; omega
  | false =>
   simp only [cond_false, List.length_cons]
   rcases ba key r (i + 1) with h | h
   · exact .inl h
   · right; omega
theorem l_ix (key : Str) (ks : List Str) (hl : ks.length ≤ 1048576) : ∀ (rest pre : List Str), ks = pre ++ rest → ∃ x,
 EV Tryz.prog pol (.loop 188 26 0 [.t (.list 1 (strs ks)), .t (.str key), .t (.int .i64 (ks.length : Int)), .t (.int .i64 (pre.length : Int))] []) = some (cond (decide (ixS key pre.length rest ≥ 0)) (.loop .ret [.t (.int .i64 (ixS key pre.length rest))] []) (.loop (.exit 0) [x] []))
 | [], pre, hs => by
  have c : decide ((pre.length : Int) < (ks.length : Int)) = false := by simp [hs]
  refine ⟨.bad, ?_⟩
  show _ = some (xD.loop (.exit 0) [.bad] [])
  refine zi Tryz.func188 rfl rfl ?_
  simp (disch := ((try simp only [LL]); omega)) only [↓GO, ↓DRW, GA, GX, ren, zm, za, refs, z8, cst, zq, isC, bin, una, z6, zd, blt, asArg, zf, zc, zg, z1, E.mkS, unN, ze, zn, zb, GS, simprocAttr, GZ, c]
 | x :: rest, pre, hs => by
  have c : decide ((pre.length : Int) < (ks.length : Int)) = true := by simp [hs]; omega
  have hget : (strs ks)[pre.length]? = some [.str x] := by rw [hs]; simp [strs]
  have hlen : pre.length + rest.length + 1 ≤ ks.length := by rw [hs]; simp; omega
  obtain ⟨y, IH⟩ := l_ix key ks hl rest (pre ++ [x]) (by rw [hs]; simp)
  refine ⟨y, ?_⟩
  rw [show ((pre ++ [x]).length : Int) = (pre.length : Int) + 1 by simp, show (pre ++ [x]).length = pre.length + 1 by simp] at IH
  have hsym : (key == x) = (x == key) := by rw [Bool.eq_iff_iff]; simp only [beq_iff_eq]; exact eq_comm
  clear hs
  rw [ixS]
  cases hk : (x == key) <;> rw [hk] at hsym
  · simp only [cond_false]
    refine zi Tryz.func188 rfl rfl ?_
    simp (disch := ((try simp only [LL]); omega)) only [↓GO, ↓DRW, GA, GX, ren, zm, za, refs, z8, cst, zq, isC, bin, una, z6, zd, blt, asArg, zf, zc, zg, z1, E.mkS, unN, ze, zn, zb, GS, simprocAttr, GZ, c, hget, zj, hsym, IH]
  · simp only [cond_true, show decide (((pre.length : Nat) : Int) ≥ 0) = true by simp]
    refine zi Tryz.func188 rfl rfl ?_
    simp (disch := ((try simp only [LL]); omega)) only [↓GO, ↓DRW, GA, GX, ren, zm, za, refs, z8, cst, zq, isC, bin, una, z6, zd, blt, asArg, zf, zc, zg, z1, E.mkS, unN, ze, zn, zb, GS, simprocAttr, GZ, c, hget, zj, hsym]
theorem c_ix (key : Str) (ks : List Str) (hl : ks.length ≤ 1048576) : zk (EV Tryz.prog pol) 188 [.t (.list 1 (strs ks)), .t (.str key)] = some (.t (.int .i64 (ixS key 0 ks))) := by
 obtain ⟨x, L⟩ := l_ix key ks hl ks [] rfl
 have hr := ba key ks 0
 simp only [List.length_nil, Int.natCast_zero] at L
 cases hd : decide (ixS key 0 ks ≥ 0) with
 | true =>
  rw [hd] at L
  simp only [cond_true] at L
  apply zr
  refine zw rfl Tryz.func188 rfl (by kernel_rfl) ?_
  unfold Tryz.f188
  simp (disch := ((try simp only [LL]); omega)) only [↓GO, ↓DRW, GA, GX, ren, zm, za, refs, z8, cst, zq, isC, bin, una, z6, zd, blt, asArg, zf, zc, zg, z1, E.mkS, unN, ze, zn, zb, GS, simprocAttr, GZ, L, zh]
 | false =>
  rw [hd] at L
  have h := of_decide_eq_false hd
  rw [show ixS key 0 ks = -1 by omega]
  simp only [cond_false] at L
  apply zr
  refine zw rfl Tryz.func188 rfl (by kernel_rfl) ?_
  unfold Tryz.f188
  simp (disch := ((try simp only [LL]); omega)) only [↓GO, ↓DRW, GA, GX, ren, zm, za, refs, z8, cst, zq, isC, bin, una, z6, zd, blt, asArg, zf, zc, zg, z1, E.mkS, unN, ze, zn, zb, GS, simprocAttr, GZ, L, zh]
end Go.Proofs.YtijninlbpifonaaGreatDoor
/- What stands under a key, by both. Conditions: those of each lemma. -/
namespace Go.Proofs.YtijninlbpifonaaGreatDoor
open E
set_option linter.unusedSimpArgs false
set_option linter.unusedVariables false
set_option maxRecDepth 100000
def zt : Tr := .mk 0 0 [] [] []
end Go.Proofs.YtijninlbpifonaaGreatDoor
/- Graphs laid anew, with memory of their own. Conditions: those of each lemma. -/
namespace Go.Proofs.YtijninlbpifonaaGreatDoor
open E
set_option linter.unusedSimpArgs false
set_option linter.unusedVariables false
set_option maxRecDepth 100000
theorem w5 : ∀ l : List zD, sN (zD.zu l) = true
 | [] => rfl
 | x :: l => by
  have := w5 l
  unfold sN zD.zu at this ⊢
  rw [List.map_cons, List.all_cons, this]; rfl
theorem uJ : ∀ l : List z7, ((ocE (z7.zu l)).all fun c => yf.rowTs c) = true
 | [] => rfl
 | x :: l => by
  rw [show ocE (z7.zu (x :: l)) = x.enc.map oc :: ocE (z7.zu l) from rfl, List.all_cons, uJ l]
  rfl
theorem uM (a : List z7) (x : z7) : z7.zu (a ++ [x]) = z7.zu a ++ [x.enc] := by simp [z7.zu]
theorem lj (a b : List z7) : z7.zu (a ++ b) = z7.zu a ++ z7.zu b := by simp [z7.zu]
def zPk : List V := [.t (.str []), .t (.str []), .t (.str []), .nil 2, .t (.bool false), .nil 1]
theorem Xp (cs : List zD) (hl : cs.length ≤ 1048576) (hc : ∀ c ∈ cs, fV c) : EV Tryz.prog pol (.callO false 259 [.t (.list 2 (zD.zu cs))] []) = some (.call (.sl 0 0 cs.length (some cs.length)) [.ts 2 (zD.zu cs)]) := by
 refine yd Tryz.func259 rfl (by kernel_rfl) ?_
 unfold Tryz.f259
 have h1 : ¬ ((cs.length : Int) < 0) := by omega
 have h2 : ¬ (cs.length * 32 > 140737488355328) := by omega
 have h3 : ¬ (cs.length > 140737488355328) := by omega
 have hz : List.replicate cs.length [T.str [], .str []] = vt (zD.zu cs) YE 0 := by rw [nj, zD.zo]; rfl
 have IH := gJ cs hl hc cs.length 0 (by omega) (by omega)
 simp only [Int.natCast_zero] at IH
 simp (disch := omega) only [E.mkS, ↓GO, ↓DRW, GA, GX, ren, zm, za, refs, z8, cst, zq, isC, bin, una, z6, zd, blt, asArg, zf, zc, zg, z1, E.mkS, unN, ze, zn, zb, GS, simprocAttr, zD.zo, Int.toNat_natCast, h1, h2, h3, hz, IH, ne_eq, not_true_eq_false]
def Vf (x : z7) : Prop := EV Tryz.prog pol (.callO false 196 [.agg (x.enc.map .t)] []) = some (.call (.agg [.t (.str x.name), .t (.str x.version), .t (.str x.source), .sl 0 0 x.sums.length (some x.sums.length), .t (.bool x.dev), .sl 1 0 x.zE.length (some x.zE.length)]) [.ts 2 (zD.zu x.sums), .ts 1 (strs x.zE)])
theorem WW (x : z7) (ho : x.zT ≤ 1048576) : Vf x := by
 obtain ⟨name, version, source, sums, dev, zE⟩ := x
 simp only [z7.zT] at ho
 have d1 := Xp sums (by omega) (fun c hc => Ua c (by have := zD.y7 hc; omega))
 have d2 := mg zE (by omega)
 simp only [Vf, z7.enc, List.map_cons, List.map_nil]
 refine yd Tryz.func196 rfl (by kernel_rfl) ?_
 unfold Tryz.f196
 simp (disch := ((try simp only [LL]); omega)) only [↓GO, ↓DRW, GA, GX, ren, zm, za, refs, z8, cst, zq, isC, bin, una, z6, zd, blt, asArg, zf, zc, zg, z1, E.mkS, unN, ze, zn, zb, GS, simprocAttr, zR, zS, xT, xK, xR, xQ, xU, gh1, xJ, xr, xA, ym, mkO, xB, xt, yJ, xS, zX, xI, xG, yx, oc, oTs, oT, yf, yf.rowTs, xy, isL, Bool.not_false, Bool.true_and, Bool.and_true, Bool.and_self, List.flatMap_append, List.map_append, List.set_cons_zero, List.set_cons_succ, GZ, d1, d2, zL]
theorem WD (cs : List z7) (hl : cs.length ≤ 1048576) (hc : ∀ c ∈ cs, Vf c) : ∀ (rest pre : List z7), cs = pre ++ rest →
 EV Tryz.prog pol (.loop 94 58 0 [.t (.list 6 (z7.zu cs)), .sl 0 0 cs.length (some cs.length), .t (.int .i64 (pre.length : Int))] [.vs 6 (ocE (z7.zu pre) ++ List.replicate rest.length zPk)])
  = some (.loop (.exit 0) [.sl 0 0 cs.length (some cs.length)] [.vs 6 (ocE (z7.zu cs))])
 | [], pre, hs => by
  have c : decide ((pre.length : Int) < (cs.length : Int)) = false := by simp [hs]
  have e : cs = pre := by simpa using hs
  have hA := yj (z7.zu pre)
  have hR := fun m => yA m (z7.zu pre)
  simp only [List.length_nil, List.replicate_zero, List.append_nil]
  refine zi Tryz.func94 rfl rfl ?_
  simp (disch := ((try simp only [LL]); omega)) only [↓GO, ↓DRW, GA, GX, ren, zm, za, refs, z8, cst, zq, isC, bin, una, z6, zd, blt, asArg, zf, zc, zg, z1, E.mkS, unN, ze, zn, zb, GS, simprocAttr, zR, zS, xT, xK, xR, xQ, xU, gh1, xJ, xr, xA, ym, mkO, xB, xt, yJ, xS, zX, xI, xG, yx, oc, oTs, oT, yf, yf.rowTs, xy, isL, Bool.not_false, Bool.true_and, Bool.and_true, Bool.and_self, List.flatMap_append, List.map_append, List.set_cons_zero, List.set_cons_succ, GZ, z7.zo, c, hA, hR]
  rw [e]
 | x :: rest, pre, hs => by
  have c : decide ((pre.length : Int) < (cs.length : Int)) = true := by simp [hs]; omega
  have hget : (z7.zu cs)[pre.length]? = some x.enc := by rw [hs]; simp [z7.zu]
  have hlen : pre.length + rest.length + 1 ≤ cs.length := by rw [hs]; simp; omega
  have hcx := hc x (by rw [hs]; simp)
  have c0 : decide ((0 : Int) ≤ (pre.length : Int)) = true := by simp
  have c00 : (0 : Int) ≤ (pre.length : Int) := by omega
  have IH := WD cs hl hc rest (pre ++ [x]) (by rw [hs]; simp)
  rw [show ((pre ++ [x]).length : Int) = (pre.length : Int) + 1 by simp, uM, ji, uk, jh, List.append_assoc, List.cons_append, List.nil_append] at IH
  have hAl : (ocE (z7.zu pre)).length = pre.length := by rw [yQ, z7.zo]
  have hA := yj (z7.zu pre)
  have hR := fun m => yA m (z7.zu pre)
  have hB := nJ zPk rfl rest.length
  have hRB := fun m => cq m zPk rfl rest.length
  rw [List.length_cons, List.replicate_succ]
  have hg1 := fun y => vQ (ocE (z7.zu pre)) (List.replicate rest.length zPk) y pre.length hAl
  have hs1 := fun y z => vk (ocE (z7.zu pre)) (List.replicate rest.length zPk) y z pre.length hAl
  clear hs
  obtain ⟨name, version, source, sums, dev, zE⟩ := x
  have hf1 := w5 sums
  have hf2 := xi zE
  simp only [Vf, z7.enc, List.map_cons, List.map_nil, oc] at hcx hget IH
  generalize ocE (z7.zu pre) = A at *
  generalize List.replicate rest.length zPk = B at *
  unfold zPk
  refine zi Tryz.func94 rfl rfl ?_
  simp (disch := ((try simp only [LL]); omega)) only [↓GO, ↓DRW, GA, GX, ren, zm, za, refs, z8, cst, zq, isC, bin, una, z6, zd, blt, asArg, zf, zc, zg, z1, E.mkS, unN, ze, zn, zb, GS, simprocAttr, zR, zS, xT, xK, xR, xQ, xU, gh1, xJ, xr, xA, ym, mkO, xB, xt, yJ, xS, zX, xI, xG, yx, oc, oTs, oT, yf, yf.rowTs, xy, isL, Bool.not_false, Bool.true_and, Bool.and_true, Bool.and_self, List.flatMap_append, List.map_append, List.set_cons_zero, List.set_cons_succ, GZ, z7.zo, zD.zo, c, c0, c00, if_true, Int.toNat_natCast, hget, hcx, hg1, hs1, hA, hR, hB, hRB, zj, hf1, hf2, IH, zh, yQ, yA, yj, zL]
theorem nv (cs : List z7) (hl : cs.length ≤ 1048576) (hc : ∀ c ∈ cs, Vf c) : EV Tryz.prog pol (.callO false 94 [.t (.list 6 (z7.zu cs))] []) = some (.call (.sl 0 0 cs.length (some cs.length)) [.vs 6 (ocE (z7.zu cs))]) := by
 refine yd Tryz.func94 rfl (by kernel_rfl) ?_
 unfold Tryz.f94
 have h1 : ¬ ((cs.length : Int) < 0) := by omega
 have h2 : ¬ (cs.length * 104 > 140737488355328) := by omega
 have h3 : ¬ (cs.length > 140737488355328) := by omega
 have L := WD cs hl hc cs [] rfl
 simp only [List.length_nil, Int.natCast_zero, show z7.zu [] = [] from rfl, jh, List.nil_append] at L
 have hB := nJ zPk rfl cs.length
 have hRB := fun m => cq m zPk rfl cs.length
 unfold zPk at L hB hRB
 simp (disch := ((try simp only [LL]); omega)) only [↓GO, ↓DRW, GA, GX, ren, zm, za, refs, z8, cst, zq, isC, bin, una, z6, zd, blt, asArg, zf, zc, zg, z1, E.mkS, unN, ze, zn, zb, GS, simprocAttr, zR, zS, xT, xK, xR, xQ, xU, gh1, xJ, xr, xA, ym, mkO, xB, xt, yJ, xS, zX, xI, xG, yx, oc, oTs, oT, yf, yf.rowTs, xy, isL, Bool.not_false, Bool.true_and, Bool.and_true, Bool.and_self, List.flatMap_append, List.map_append, List.set_cons_zero, List.set_cons_succ, GZ, z7.zo, Int.toNat_natCast, h1, h2, h3, L, hB, hRB, yA, yj, ne_eq, not_true_eq_false, not_false_eq_true, zL]
def UH (x : zy) : Prop := EV Tryz.prog pol (.callO false 19 [.agg (x.enc.map .t)] []) = some (.call (.agg [.sl 0 0 x.top.length (some x.top.length), .sl 1 0 x.packs.length (some x.packs.length)]) [.ts 1 (strs x.top), .vs 6 (ocE (z7.zu x.packs))])
theorem WX (x : zy) (ho : x.zT ≤ 1048576) : UH x := by
 obtain ⟨top, packs⟩ := x
 simp only [zy.zT] at ho
 have d1 := mg top (by omega)
 have d2 := nv packs (by omega) (fun c hc => WW c (by have := z7.y7 hc; omega))
 simp only [UH, zy.enc, List.map_cons, List.map_nil]
 refine yd Tryz.func19 rfl (by kernel_rfl) ?_
 unfold Tryz.f19
 simp (disch := ((try simp only [LL]); omega)) only [↓GO, ↓DRW, GA, GX, ren, zm, za, refs, z8, cst, zq, isC, bin, una, z6, zd, blt, asArg, zf, zc, zg, z1, E.mkS, unN, ze, zn, zb, GS, simprocAttr, zR, zS, xT, xK, xR, xQ, xU, gh1, xJ, xr, xA, ym, mkO, xB, xt, yJ, xS, zX, xI, xG, yx, oc, oTs, oT, yf, yf.rowTs, xy, isL, Bool.not_false, Bool.true_and, Bool.and_true, Bool.and_self, List.flatMap_append, List.map_append, List.set_cons_zero, List.set_cons_succ, GZ, d1, d2, yA, yj, zL]
/-- and as a value that nobody writes -/
def UI (x : zy) : Prop := zk (EV Tryz.prog pol) 19 [.agg (x.enc.map .t)] = some (.agg (x.enc.map .t))
theorem WY (x : zy) (ho : x.zT ≤ 1048576) : UI x := by
 obtain ⟨top, packs⟩ := x
 simp only [zy.zT] at ho
 have d1 := mg top (by omega)
 have d2 := nv packs (by omega) (fun c hc => WW c (by have := z7.y7 hc; omega))
 have g := WS (z7.zu packs)
 have ht : (z7.zu packs).take packs.length = z7.zu packs := by rw [← z7.zo packs]; simp
 have ht2 : (strs top).take top.length = strs top := by rw [← zh top]; simp
 simp only [UI, zy.enc, List.map_cons, List.map_nil]
 apply zr
 refine zw rfl Tryz.func19 rfl (by kernel_rfl) ?_
 unfold Tryz.f19
 simp (disch := ((try simp only [LL]); omega)) only [↓GO, ↓DRW, GA, GX, ren, zm, za, refs, z8, cst, zq, isC, bin, una, z6, zd, blt, asArg, zf, zc, zg, z1, E.mkS, unN, ze, zn, zb, GS, simprocAttr, zR, zS, xT, xK, xR, xQ, xU, gh1, xJ, xr, xA, ym, mkO, xB, xt, yJ, xS, zX, xI, xG, yx, oc, oTs, oT, yf, yf.rowTs, xy, isL, Bool.not_false, Bool.true_and, Bool.and_true, Bool.and_self, List.flatMap_append, List.map_append, List.set_cons_zero, List.set_cons_succ, GZ, d1, d2, g, ht, ht2, yA, yj, zL]
end Go.Proofs.YtijninlbpifonaaGreatDoor
/- Marks in graphs. Conditions: those of each lemma. -/
namespace Go.Proofs.YtijninlbpifonaaGreatDoor
open E
set_option linter.unusedSimpArgs false
set_option linter.unusedVariables false
set_option maxRecDepth 100000
def vh : Nat → Nat → List zD
 | 0, _ => []
 | n + 1, k => ⟨mkT k, mkT (k + 1)⟩ :: vh n (k + 2)
theorem wZ : ∀ n k, (vh n k).length = n
 | 0, _ => rfl
 | n + 1, k => by rw [vh, List.length_cons, wZ n (k + 2)]
theorem lD : ∀ n k, vh (n + 1) k = vh n k ++ [⟨mkT (k + 2 * n), mkT (k + 2 * n + 1)⟩]
 | 0, k => rfl
 | n + 1, k => by
  rw [vh, lD n (k + 2), vh, List.cons_append, show k + 2 + 2 * n = k + 2 * (n + 1) by omega]
theorem X4 : ∀ (m j q : Nat), j < m → (vh m q)[j]? = some ⟨mkT (q + 2 * j), mkT (q + 2 * j + 1)⟩ := fun m => by
 induction m with
 | zero => intro j q h; omega
 | succ m ih =>
  intro j q h
  cases j with
  | zero => rfl
  | succ j => rw [vh, List.getElem?_cons_succ, ih j (q + 2) (by omega), show q + 2 + 2 * j = q + 2 * (j + 1) by omega]
theorem gM (cs : List zD) (hl : cs.length ≤ 4194304) (cap : Option Nat) (k : Nat) (hk : k ≤ 1073741824) : ∀ (rest pre : List zD), cs = pre ++ rest →
 EV Tryz.prog pol (.loop 204 26 1 [.sl 0 0 cs.length cap, .t (.int .i64 ((k + 2 * pre.length : Nat) : Int)), .t (.int .i64 (pre.length : Int))] [.ts 2 (zD.zu (vh pre.length k) ++ zD.zu rest)])
  = some (.loop (.exit 0) [.t (.int .i64 ((k + 2 * cs.length : Nat) : Int))] [.ts 2 (zD.zu (vh cs.length k))])
 | [], pre, hs => by
  have c : decide ((pre.length : Int) < (cs.length : Int)) = false := by simp [hs]
  have e : cs = pre := by simpa using hs
  simp only [show zD.zu [] = [] from rfl, List.append_nil]
  refine zi Tryz.func204 rfl rfl ?_
  simp (disch := ((try simp only [LL]); omega)) only [↓GO, ↓DRW, GA, GX, ren, zm, za, refs, z8, cst, zq, isC, bin, una, z6, zd, blt, asArg, zf, zc, zg, z1, E.mkS, unN, ze, zn, zb, GS, simprocAttr, GZ, c]
  rw [e]
 | x :: rest, pre, hs => by
  have c : decide ((pre.length : Int) < (cs.length : Int)) = true := by simp [hs]; omega
  have c0 : decide ((0 : Int) ≤ (pre.length : Int)) = true := by simp
  have c00 : (0 : Int) ≤ (pre.length : Int) := by omega
  have hlen : pre.length + rest.length + 1 ≤ cs.length := by rw [hs]; simp; omega
  have hm := tr (k + 2 * pre.length) (by omega)
  have hm2 := tr (k + 2 * pre.length + 1) (by omega)
  have IH := gM cs hl cap k hk rest (pre ++ [x]) (by rw [hs]; simp)
  rw [show (pre ++ [x]).length = pre.length + 1 by simp, lD, show zD.zu (vh pre.length k ++ [⟨mkT (k + 2 * pre.length), mkT (k + 2 * pre.length + 1)⟩]) = zD.zu (vh pre.length k) ++ [[.str (mkT (k + 2 * pre.length)), .str (mkT (k + 2 * pre.length + 1))]] by simp [zD.zu, zD.enc], List.append_assoc, List.cons_append, List.nil_append] at IH
  rw [show k + 2 * (pre.length + 1) = k + 2 * pre.length + 2 by omega] at IH
  have hAl : (zD.zu (vh pre.length k)).length = pre.length := by rw [zD.zo, wZ]
  rw [show zD.zu (x :: rest) = [.str x.alg, .str x.bytes] :: zD.zu rest from rfl]
  have hg1 := fun y => vQ (zD.zu (vh pre.length k)) (zD.zu rest) y pre.length hAl
  have hs1 := fun y z => vk (zD.zu (vh pre.length k)) (zD.zu rest) y z pre.length hAl
  clear hs
  generalize zD.zu (vh pre.length k) = A at *
  generalize mkT (k + 2 * pre.length + 1) = mt2 at *
  generalize mkT (k + 2 * pre.length) = mt at *
  have hkp : k + 2 * pre.length ≤ 1082130432 := by omega
  generalize k + 2 * pre.length = kp at *
  have w : IntKind.i64.wrap ((kp : Int) + 1) = ((kp + 1 : Nat) : Int) := by rw [zj (by omega)]; omega
  have w1 : IntKind.i64.wrap (((kp + 1 : Nat) : Int) + 1) = ((kp + 2 : Nat) : Int) := by rw [zj (by omega)]; omega
  have w2 : IntKind.i64.wrap ((pre.length : Int) + 1) = ((pre.length + 1 : Nat) : Int) := by rw [zj (by omega)]; omega
  refine zi Tryz.func204 rfl rfl ?_
  simp (disch := ((try simp only [LL]); omega)) only [↓GO, ↓DRW, GA, GX, ren, zm, za, refs, z8, cst, zq, isC, bin, una, z6, zd, blt, asArg, zf, zc, zg, z1, E.mkS, unN, ze, zn, zb, GS, simprocAttr, GZ, c, c0, c00, if_true, Int.toNat_natCast, hm, hm2, hg1, hs1, w, w1, w2, IH]
theorem Xx (cs : List zD) (hl : cs.length ≤ 4194304) (cap : Option Nat) (k : Nat) (hk : k ≤ 1073741824) (n : Nat) (hn : n = cs.length) :
 EV Tryz.prog pol (.callO false 204 [.sl 0 0 n cap, .t (.int .i64 (k : Int))] [.ts 2 (zD.zu cs)]) = some (.call (.t (.int .i64 ((k + 2 * cs.length : Nat) : Int))) [.ts 2 (zD.zu (vh cs.length k))]) := by
 subst hn
 have L := gM cs hl cap k hk cs [] rfl
 simp only [List.length_nil, Int.natCast_zero, vh, show zD.zu [] = [] from rfl, List.nil_append, Nat.mul_zero, Nat.add_zero] at L
 refine yd Tryz.func204 rfl (by kernel_rfl) ?_
 unfold Tryz.f204
 simp (disch := ((try simp only [LL]); omega)) only [↓GO, ↓DRW, GA, GX, ren, zm, za, refs, z8, cst, zq, isC, bin, una, z6, zd, blt, asArg, zf, zc, zg, z1, E.mkS, unN, ze, zn, zb, GS, simprocAttr, GZ, L]
theorem gN (cs : List zD) (hl : cs.length ≤ 4194304) (k : Nat) (hk : k ≤ 1073741824) (hm : cs = vh cs.length k) : ∀ (n i : Nat), i + n = cs.length →
 EV Tryz.prog pol (.loop 205 26 0 [.t (.list 2 (zD.zu cs)), .t (.int .i64 ((k + 2 * i : Nat) : Int)), .t (.int .i64 (i : Int))] []) = some (.loop (.exit 0) [.t (.int .i64 ((k + 2 * cs.length : Nat) : Int)), .bad] [])
 | 0, i, hi => by
  have c : decide ((i : Int) < (cs.length : Int)) = false := by apply decide_eq_false; omega
  have e : i = cs.length := by omega
  refine zi Tryz.func205 rfl rfl ?_
  simp (disch := ((try simp only [LL]); omega)) only [↓GO, ↓DRW, GA, GX, ren, zm, za, refs, z8, cst, zq, isC, bin, una, z6, zd, blt, asArg, zf, zc, zg, z1, E.mkS, unN, ze, zn, zb, GS, simprocAttr, GZ, c, zD.zo]
  rw [e]
 | n + 1, i, hi => by
  have c : decide ((i : Int) < (cs.length : Int)) = true := by apply decide_eq_true; omega
  have hget : (zD.zu cs)[i]? = some [.str (mkT (k + 2 * i)), .str (mkT (k + 2 * i + 1))] := by
   have := X4 cs.length i k (by omega)
   rw [hm]
   simp only [zD.zu, List.getElem?_map, wZ, this, Option.map_some, zD.enc]
  have hmt := tr (k + 2 * i) (by omega)
  have hmt2 := tr (k + 2 * i + 1) (by omega)
  have IH := gN cs hl k hk hm n (i + 1) (by omega)
  rw [show k + 2 * (i + 1) = k + 2 * i + 2 by omega] at IH
  have hkp : k + 2 * i ≤ 1082130432 := by omega
  clear hm
  generalize mkT (k + 2 * i + 1) = mt2 at *
  generalize mkT (k + 2 * i) = mt at *
  generalize k + 2 * i = kp at *
  have w : IntKind.i64.wrap ((kp : Int) + 1) = ((kp + 1 : Nat) : Int) := by rw [zj (by omega)]; omega
  have w1 : IntKind.i64.wrap (((kp + 1 : Nat) : Int) + 1) = ((kp + 2 : Nat) : Int) := by rw [zj (by omega)]; omega
  have w2 : IntKind.i64.wrap ((i : Int) + 1) = ((i + 1 : Nat) : Int) := by rw [zj (by omega)]; omega
  refine zi Tryz.func205 rfl rfl ?_
  simp (disch := ((try simp only [LL]); omega)) only [↓GO, ↓DRW, GA, GX, ren, zm, za, refs, z8, cst, zq, isC, bin, una, z6, zd, blt, asArg, zf, zc, zg, z1, E.mkS, unN, ze, zn, zb, GS, simprocAttr, GZ, c, zD.zo, hget, hmt, hmt2, w, w1, w2, IH, bne_self_eq_false]
theorem XB (n k : Nat) (hn : n ≤ 4194304) (hk : k ≤ 1073741824) : zk (EV Tryz.prog pol) 205 [.t (.list 2 (zD.zu (vh n k))), .t (.int .i64 (k : Int))] = some (.t (.int .i64 ((k + 2 * n : Nat) : Int))) := by
 have L := gN (vh n k) (by rw [wZ]; exact hn) k hk (by rw [wZ]) n 0 (by rw [wZ]; omega)
 rw [wZ] at L
 simp only [Int.natCast_zero, Nat.mul_zero, Nat.add_zero] at L
 apply zr
 refine zw rfl Tryz.func205 rfl (by kernel_rfl) ?_
 unfold Tryz.f205
 simp (disch := ((try simp only [LL]); omega)) only [↓GO, ↓DRW, GA, GX, ren, zm, za, refs, z8, cst, zq, isC, bin, una, z6, zd, blt, asArg, zf, zc, zg, z1, E.mkS, unN, ze, zn, zb, GS, simprocAttr, GZ, L]
end Go.Proofs.YtijninlbpifonaaGreatDoor
/- Marks in packs and graphs. Conditions: those of each lemma. -/
namespace Go.Proofs.YtijninlbpifonaaGreatDoor
open E
set_option linter.unusedSimpArgs false
set_option linter.unusedVariables false
set_option maxRecDepth 100000
def dvB (k : Nat) : Bool := (((k % 3 : Nat) : Int) == 0)
def rN (x : z7) : Nat := 4 + 2 * x.sums.length + x.zE.length
def zZ : List z7 → Nat
 | [] => 0
 | x :: r => rN x + zZ r
def cN (k : Nat) (x : z7) : z7 := ⟨mkT k, mkT (k + 1), mkT (k + 2), vh x.sums.length (k + 3), dvB (k + 3 + 2 * x.sums.length), mkS x.zE.length (k + 3 + 2 * x.sums.length + 1)⟩
def yM : Nat → List z7 → List z7
 | _, [] => []
 | k, x :: r => cN k x :: yM (k + rN x) r
theorem wH : ∀ (k : Nat) (cs : List z7), (yM k cs).length = cs.length
 | k, [] => rfl
 | k, c :: cs => by simp [yM, wH _ cs]
theorem ua : ∀ a b : List z7, zZ (a ++ b) = zZ a + zZ b
 | [], b => by simp [zZ]
 | c :: a, b => by simp only [List.cons_append, zZ, ua a b]; omega
theorem qL : ∀ (k : Nat) (a b : List z7), yM k (a ++ b) = yM k a ++ yM (k + zZ a) b
 | k, [], b => by simp [yM, zZ]
 | k, c :: a, b => by
  simp only [List.cons_append, yM, zZ, qL _ a b]
  rw [show k + rN c + zZ a = k + (rN c + zZ a) by omega]
theorem U6 (x : z7) : rN x ≤ 4 + 2 * x.zT := by simp only [rN, z7.zT]; omega
theorem mf : ∀ cs : List z7, zZ cs ≤ 4 * cs.length + 2 * z7.zK cs
 | [] => by simp [zZ]
 | c :: cs => by
  have h1 := U6 c
  have h2 := mf cs
  simp only [zZ, z7.zK, List.length_cons]; omega
theorem cY (cs : List z7) (hl : cs.length ≤ 4194304) (hb : ∀ c ∈ cs, c.zT ≤ 4194304) (cap : Option Nat) (k : Nat) (hk : k + zZ cs ≤ 1073741824) : ∀ (rest pre : List z7), cs = pre ++ rest →
 EV Tryz.prog pol (.loop 109 26 1 [.sl 0 0 cs.length cap, .t (.int .i64 ((k + zZ pre : Nat) : Int)), .t (.int .i64 (pre.length : Int))] [.vs 6 (ocE (z7.zu (yM k pre)) ++ ocE (z7.zu rest))])
  = some (.loop (.exit 0) [.t (.int .i64 ((k + zZ cs : Nat) : Int))] [.vs 6 (ocE (z7.zu (yM k cs)))])
 | [], pre, hs => by
  have c : decide ((pre.length : Int) < (cs.length : Int)) = false := by simp [hs]
  have e : cs = pre := by simpa using hs
  have hA := yj (z7.zu (yM k pre))
  have hR := fun m => yA m (z7.zu (yM k pre))
  simp only [show ocE (z7.zu []) = [] from rfl, List.append_nil]
  refine zi Tryz.func109 rfl rfl ?_
  simp (disch := ((try simp only [LL]); omega)) only [↓GO, ↓DRW, GA, GX, ren, zm, za, refs, z8, cst, zq, isC, bin, una, z6, zd, blt, asArg, zf, zc, zg, z1, E.mkS, unN, ze, zn, zb, GS, simprocAttr, zR, zS, xT, xK, xR, xQ, xU, gh1, xJ, xr, xA, ym, mkO, xB, xt, yJ, xS, zX, xI, xG, yx, oc, oTs, oT, yf, yf.rowTs, xy, isL, Bool.not_false, Bool.true_and, Bool.and_true, Bool.and_self, List.flatMap_append, List.map_append, List.set_cons_zero, List.set_cons_succ, GZ, c, hA, hR]
  rw [e]
 | x :: rest, pre, hs => by
  have c : decide ((pre.length : Int) < (cs.length : Int)) = true := by simp [hs]; omega
  have c0 : decide ((0 : Int) ≤ (pre.length : Int)) = true := by simp
  have c00 : (0 : Int) ≤ (pre.length : Int) := by omega
  have hlen : pre.length + rest.length + 1 ≤ cs.length := by rw [hs]; simp; omega
  have hcn : zZ cs = zZ pre + zZ (x :: rest) := by rw [hs, ua]
  have hbx := hb x (by rw [hs]; simp)
  have IH := cY cs hl hb cap k hk rest (pre ++ [x]) (by rw [hs]; simp)
  have e1 : yM k (pre ++ [x]) = yM k pre ++ [cN (k + zZ pre) x] := by rw [qL]; simp [yM]
  have e2 : zZ (pre ++ [x]) = zZ pre + rN x := by rw [ua]; simp [zZ]
  rw [e1, e2, lj, ji, show (pre ++ [x]).length = pre.length + 1 by simp] at IH
  simp only [zZ] at hcn
  have hAl : (ocE (z7.zu (yM k pre))).length = pre.length := by rw [yQ, z7.zo, wH]
  have hA := yj (z7.zu (yM k pre))
  have hR := fun m => yA m (z7.zu (yM k pre))
  have hB := yj (z7.zu rest)
  have hRB := fun m => yA m (z7.zu rest)
  rw [show ocE (z7.zu (x :: rest)) = x.enc.map oc :: ocE (z7.zu rest) from rfl]
  rw [show ocE (z7.zu [cN (k + zZ pre) x]) = [(cN (k + zZ pre) x).enc.map oc] from rfl] at IH
  have hg1 := fun y => vQ (ocE (z7.zu (yM k pre))) (ocE (z7.zu rest)) y pre.length hAl
  have hs1 := fun y z => vk (ocE (z7.zu (yM k pre))) (ocE (z7.zu rest)) y z pre.length hAl
  clear hs e1 e2
  have hkb : k + zZ pre + rN x ≤ 1073741824 := by omega
  rw [show k + (zZ pre + rN x) = k + zZ pre + rN x by omega] at IH
  generalize k + zZ pre = kp at *
  obtain ⟨name, version, source, sums, dev, zE⟩ := x
  simp only [z7.zT] at hbx
  simp only [rN] at hkb IH
  rw [show kp + (4 + 2 * sums.length + zE.length) = kp + 3 + 2 * sums.length + 1 + zE.length by omega] at IH
  have hmt0 := tr kp (by omega)
  have hmt1 := tr (kp + 1) (by omega)
  have hmt2 := tr (kp + 2) (by omega)
  have hmm := Xx sums (by omega) none (kp + 3) (by omega) sums.length rfl
  have hms := ju zE (by omega) none (kp + 3 + 2 * sums.length + 1) (by omega) zE.length rfl
  have w0 : IntKind.i64.wrap ((kp : Int) + 1) = ((kp + 1 : Nat) : Int) := by rw [zj (by omega)]; omega
  have w1 : IntKind.i64.wrap (((kp + 1 : Nat) : Int) + 1) = ((kp + 2 : Nat) : Int) := by rw [zj (by omega)]; omega
  have w2 : IntKind.i64.wrap (((kp + 2 : Nat) : Int) + 1) = ((kp + 3 : Nat) : Int) := by rw [zj (by omega)]; omega
  have w3 : IntKind.i64.wrap ((pre.length : Int) + 1) = ((pre.length + 1 : Nat) : Int) := by rw [zj (by omega)]; omega
  have w4 : IntKind.i64.wrap (((kp + 3 + 2 * sums.length : Nat) : Int) + 1) = ((kp + 3 + 2 * sums.length + 1 : Nat) : Int) := by rw [zj (by omega)]; omega
  have e1 : (((kp + 3 + 2 * sums.length : Nat) : Int)).tmod 3 = (((kp + 3 + 2 * sums.length) % 3 : Nat) : Int) := (Int.ofNat_tmod _ 3).symm
  have hr3 : (kp + 3 + 2 * sums.length) % 3 < 3 := Nat.mod_lt _ (by omega)
  have hdv : ((((kp + 3 + 2 * sums.length) % 3 : Nat) : Int) == 0) = dvB (kp + 3 + 2 * sums.length) := rfl
  have hf1 := w5 sums
  have hf2 := w5 (vh sums.length (kp + 3))
  have hf3 := xi zE
  have hf4 := xi (mkS zE.length (kp + 3 + 2 * sums.length + 1))
  have hl1 := wZ sums.length (kp + 3)
  have hl2 := wU zE.length (kp + 3 + 2 * sums.length + 1)
  simp only [cN, z7.enc, List.map_cons, List.map_nil, oc, List.append_assoc, List.cons_append, List.nil_append] at IH ⊢
  generalize vh sums.length (kp + 3) = mm at *
  generalize mkS zE.length (kp + 3 + 2 * sums.length + 1) = ms at *
  generalize mkT (kp + 2) = mt2 at *
  generalize mkT (kp + 1) = mt1 at *
  generalize mkT kp = mt0 at *
  generalize ocE (z7.zu (yM k pre)) = A at *
  generalize ocE (z7.zu rest) = B at *
  refine zi Tryz.func109 rfl rfl ?_
  simp (disch := ((try simp only [LL]); omega)) only [↓GO, ↓DRW, GA, GX, ren, zm, za, refs, z8, cst, zq, isC, bin, una, z6, zd, blt, asArg, zf, zc, zg, z1, E.mkS, unN, ze, zn, zb, GS, simprocAttr, zR, zS, xT, xK, xR, xQ, xU, gh1, xJ, xr, xA, ym, mkO, xB, xt, yJ, xS, zX, xI, xG, yx, oc, oTs, oT, yf, yf.rowTs, xy, isL, Bool.not_false, Bool.true_and, Bool.and_true, Bool.and_self, List.flatMap_append, List.map_append, List.set_cons_zero, List.set_cons_succ, GZ, c, c0, c00, if_true, Int.toNat_natCast, hmt0, hmt1, hmt2, hmm, hms, hg1, hs1, hA, hR, hB, hRB, w0, w1, w2, w3, w4, e1, hdv, hf1, hf2, hf3, hf4, hl1, hl2, zh, zD.zo, z7.zo, yQ, yA, yj, IH, zL]
theorem Xy (cs : List z7) (hb : cs.length + z7.zK cs ≤ 4194304) (cap : Option Nat) (k : Nat) (hk : k + zZ cs ≤ 1073741824) (n : Nat) (hn : n = cs.length) :
 EV Tryz.prog pol (.callO false 109 [.sl 0 0 n cap, .t (.int .i64 (k : Int))] [.vs 6 (ocE (z7.zu cs))]) = some (.call (.t (.int .i64 ((k + zZ cs : Nat) : Int))) [.vs 6 (ocE (z7.zu (yM k cs)))]) := by
 subst hn
 have L := cY cs (by omega) (fun c hc => by have := z7.y7 hc; omega) cap k hk cs [] rfl
 simp only [List.length_nil, Int.natCast_zero, yM, zZ, show ocE (z7.zu []) = [] from rfl, List.nil_append, Nat.add_zero] at L
 refine yd Tryz.func109 rfl (by kernel_rfl) ?_
 unfold Tryz.f109
 simp (disch := ((try simp only [LL]); omega)) only [↓GO, ↓DRW, GA, GX, ren, zm, za, refs, z8, cst, zq, isC, bin, una, z6, zd, blt, asArg, zf, zc, zg, z1, E.mkS, unN, ze, zn, zb, GS, simprocAttr, zR, zS, xT, xK, xR, xQ, xU, gh1, xJ, xr, xA, ym, mkO, xB, xt, yJ, xS, zX, xI, xG, yx, oc, oTs, oT, yf, yf.rowTs, xy, isL, Bool.not_false, Bool.true_and, Bool.and_true, Bool.and_self, List.flatMap_append, List.map_append, List.set_cons_zero, List.set_cons_succ, GZ, L, yA, yj, zL]
theorem Xz (k : Int) : EV Tryz.prog pol (.callO false 109 [.nil 6, .t (.int .i64 k)] []) = some (.call (.t (.int .i64 k)) []) := by
 have L : EV Tryz.prog pol (.loop 109 26 0 [.nil 6, .t (.int .i64 k), .t (.int .i64 0)] []) = some (.loop (.exit 0) [.t (.int .i64 k)] []) := by
  refine zi Tryz.func109 rfl rfl ?_
  simp (disch := ((try simp only [LL]); omega)) only [↓GO, ↓DRW, GA, GX, ren, zm, za, refs, z8, cst, zq, isC, bin, una, z6, zd, blt, asArg, zf, zc, zg, z1, E.mkS, unN, ze, zn, zb, GS, simprocAttr, zR, zS, xT, xK, xR, xQ, xU, gh1, xJ, xr, xA, ym, mkO, xB, xt, yJ, xS, zX, xI, xG, yx, oc, oTs, oT, yf, yf.rowTs, xy, isL, Bool.not_false, Bool.true_and, Bool.and_true, Bool.and_self, List.flatMap_append, List.map_append, List.set_cons_zero, List.set_cons_succ, GZ, Int.natCast_zero]
 refine yd Tryz.func109 rfl (by kernel_rfl) ?_
 unfold Tryz.f109
 simp (disch := ((try simp only [LL]); omega)) only [↓GO, ↓DRW, GA, GX, ren, zm, za, refs, z8, cst, zq, isC, bin, una, z6, zd, blt, asArg, zf, zc, zg, z1, E.mkS, unN, ze, zn, zb, GS, simprocAttr, zR, zS, xT, xK, xR, xQ, xU, gh1, xJ, xr, xA, ym, mkO, xB, xt, yJ, xS, zX, xI, xG, yx, oc, oTs, oT, yf, yf.rowTs, xy, isL, Bool.not_false, Bool.true_and, Bool.and_true, Bool.and_self, List.flatMap_append, List.map_append, List.set_cons_zero, List.set_cons_succ, GZ, L]
theorem jv (top : List Str) (cs : List z7) (ht : top.length ≤ 4194304) (hb : cs.length + z7.zK cs ≤ 4194304) (n1 n2 : Nat) (h1 : n1 = top.length) (h2 : n2 = cs.length) (p1 p2 : Option Nat) (k : Nat) (hk : k + top.length + zZ cs ≤ 1073741824) :
 EV Tryz.prog pol (.callO false 28 [.agg [.sl 0 0 n1 p1, .sl 1 0 n2 p2], .t (.int .i64 (k : Int))] [.ts 1 (strs top), .vs 6 (ocE (z7.zu cs))])
  = some (.call (.t (.int .i64 ((k + top.length + zZ cs : Nat) : Int))) [.ts 1 (strs (mkS top.length k)), .vs 6 (ocE (z7.zu (yM (k + top.length) cs)))]) := by
 subst h1 h2
 have d1 := ju top (by omega) p1 k (by omega) top.length rfl
 have d2 := Xy cs hb p2 (k + top.length) (by omega) cs.length rfl
 refine yd Tryz.func28 rfl (by kernel_rfl) ?_
 unfold Tryz.f28
 simp (disch := ((try simp only [LL]); omega)) only [↓GO, ↓DRW, GA, GX, ren, zm, za, refs, z8, cst, zq, isC, bin, una, z6, zd, blt, asArg, zf, zc, zg, z1, E.mkS, unN, ze, zn, zb, GS, simprocAttr, zR, zS, xT, xK, xR, xQ, xU, gh1, xJ, xr, xA, ym, mkO, xB, xt, yJ, xS, zX, xI, xG, yx, oc, oTs, oT, yf, yf.rowTs, xy, isL, Bool.not_false, Bool.true_and, Bool.and_true, Bool.and_self, List.flatMap_append, List.map_append, List.set_cons_zero, List.set_cons_succ, GZ, d1, d2, yA, yj, zL]
theorem XA (top : List Str) (ht : top.length ≤ 4194304) (n1 : Nat) (h1 : n1 = top.length) (p1 : Option Nat) (k : Nat) (hk : k + top.length ≤ 1073741824) :
 EV Tryz.prog pol (.callO false 28 [.agg [.sl 0 0 n1 p1, .nil 6], .t (.int .i64 (k : Int))] [.ts 1 (strs top)])
  = some (.call (.t (.int .i64 ((k + top.length : Nat) : Int))) [.ts 1 (strs (mkS top.length k))]) := by
 subst h1
 have d1 := ju top (by omega) p1 k (by omega) top.length rfl
 have d2 := Xz ((k + top.length : Nat) : Int)
 refine yd Tryz.func28 rfl (by kernel_rfl) ?_
 unfold Tryz.f28
 simp (disch := ((try simp only [LL]); omega)) only [↓GO, ↓DRW, GA, GX, ren, zm, za, refs, z8, cst, zq, isC, bin, una, z6, zd, blt, asArg, zf, zc, zg, z1, E.mkS, unN, ze, zn, zb, GS, simprocAttr, zR, zS, xT, xK, xR, xQ, xU, gh1, xJ, xr, xA, ym, mkO, xB, xt, yJ, xS, zX, xI, xG, yx, oc, oTs, oT, yf, yf.rowTs, xy, isL, Bool.not_false, Bool.true_and, Bool.and_true, Bool.and_self, List.flatMap_append, List.map_append, List.set_cons_zero, List.set_cons_succ, GZ, d1, d2, zL]
end Go.Proofs.YtijninlbpifonaaGreatDoor
/- Marks in packs and graphs found again. Conditions: those of each lemma. -/
namespace Go.Proofs.YtijninlbpifonaaGreatDoor
open E
set_option linter.unusedSimpArgs false
set_option linter.unusedVariables false
set_option maxRecDepth 100000
theorem b7 (cs : List z7) (hl : cs.length ≤ 4194304) (hb : ∀ c ∈ cs, c.zT ≤ 4194304) (k : Nat) (hk : k + zZ cs ≤ 1073741824) : ∀ (rest pre : List z7), cs = pre ++ rest →
 EV Tryz.prog pol (.loop 110 26 0 [.t (.list 6 (z7.zu (yM k cs))), .t (.int .i64 ((k + zZ pre : Nat) : Int)), .t (.int .i64 (pre.length : Int))] []) = some (.loop (.exit 0) [.t (.int .i64 ((k + zZ cs : Nat) : Int)), .bad] [])
 | [], pre, hs => by
  have c : decide ((pre.length : Int) < (cs.length : Int)) = false := by simp [hs]
  have e : cs = pre := by simpa using hs
  have hl2 := wH k cs
  refine zi Tryz.func110 rfl rfl ?_
  simp (disch := ((try simp only [LL]); omega)) only [↓GO, ↓DRW, GA, GX, ren, zm, za, refs, z8, cst, zq, isC, bin, una, z6, zd, blt, asArg, zf, zc, zg, z1, E.mkS, unN, ze, zn, zb, GS, simprocAttr, GZ, c, z7.zo, hl2]
  rw [e]
 | x :: rest, pre, hs => by
  have c : decide ((pre.length : Int) < (cs.length : Int)) = true := by simp [hs]; omega
  have hlen : pre.length + rest.length + 1 ≤ cs.length := by rw [hs]; simp; omega
  have hcn : zZ cs = zZ pre + zZ (x :: rest) := by rw [hs, ua]
  have hbx := hb x (by rw [hs]; simp)
  have hget : (z7.zu (yM k cs))[pre.length]? = some (cN (k + zZ pre) x).enc := by
   rw [hs, qL, lj, List.getElem?_append_right (by simp [z7.zo, wH])]
   simp [z7.zo, wH, yM, z7.zu]
  have IH := b7 cs hl hb k hk rest (pre ++ [x]) (by rw [hs]; simp)
  have e2 : zZ (pre ++ [x]) = zZ pre + rN x := by rw [ua]; simp [zZ]
  rw [e2, show (pre ++ [x]).length = pre.length + 1 by simp, show k + (zZ pre + rN x) = k + zZ pre + rN x by omega] at IH
  simp only [zZ] at hcn
  have hl2 := wH k cs
  have hkb : k + zZ pre + rN x ≤ 1073741824 := by omega
  clear hs e2
  generalize k + zZ pre = kp at *
  obtain ⟨name, version, source, sums, dev, zE⟩ := x
  simp only [z7.zT] at hbx
  simp only [rN] at hkb IH
  rw [show kp + (4 + 2 * sums.length + zE.length) = kp + 3 + 2 * sums.length + 1 + zE.length by omega] at IH
  have hmt0 := tr kp (by omega)
  have hmt1 := tr (kp + 1) (by omega)
  have hmt2 := tr (kp + 2) (by omega)
  have hmm := XB sums.length (kp + 3) (by omega) (by omega)
  have hms := bM zE.length (kp + 3 + 2 * sums.length + 1) (by omega) (by omega)
  have w0 : IntKind.i64.wrap ((kp : Int) + 1) = ((kp + 1 : Nat) : Int) := by rw [zj (by omega)]; omega
  have w1 : IntKind.i64.wrap (((kp + 1 : Nat) : Int) + 1) = ((kp + 2 : Nat) : Int) := by rw [zj (by omega)]; omega
  have w2 : IntKind.i64.wrap (((kp + 2 : Nat) : Int) + 1) = ((kp + 3 : Nat) : Int) := by rw [zj (by omega)]; omega
  have w3 : IntKind.i64.wrap ((pre.length : Int) + 1) = ((pre.length + 1 : Nat) : Int) := by rw [zj (by omega)]; omega
  have w4 : IntKind.i64.wrap (((kp + 3 + 2 * sums.length : Nat) : Int) + 1) = ((kp + 3 + 2 * sums.length + 1 : Nat) : Int) := by rw [zj (by omega)]; omega
  have e1 : (((kp + 3 + 2 * sums.length : Nat) : Int)).tmod 3 = (((kp + 3 + 2 * sums.length) % 3 : Nat) : Int) := (Int.ofNat_tmod _ 3).symm
  have hr3 : (kp + 3 + 2 * sums.length) % 3 < 3 := Nat.mod_lt _ (by omega)
  have hdv : ((((kp + 3 + 2 * sums.length) % 3 : Nat) : Int) == 0) = dvB (kp + 3 + 2 * sums.length) := rfl
  have g1 : decide (((kp + 3 + 2 * sums.length : Nat) : Int) < 0) = false := by apply decide_eq_false; omega
  have g2 : decide (((kp + 3 + 2 * sums.length + 1 + zE.length : Nat) : Int) < 0) = false := by apply decide_eq_false; omega
  simp only [cN, z7.enc, List.map_cons, List.map_nil] at hget
  generalize vh sums.length (kp + 3) = mm at *
  generalize mkS zE.length (kp + 3 + 2 * sums.length + 1) = ms at *
  generalize mkT (kp + 2) = mt2 at *
  generalize mkT (kp + 1) = mt1 at *
  generalize mkT kp = mt0 at *
  generalize yM k cs = mks at *
  refine zi Tryz.func110 rfl rfl ?_
  simp (disch := ((try simp only [LL]); omega)) only [↓GO, ↓DRW, GA, GX, ren, zm, za, refs, z8, cst, zq, isC, bin, una, z6, zd, blt, asArg, zf, zc, zg, z1, E.mkS, unN, ze, zn, zb, GS, simprocAttr, GZ, c, z7.zo, hl2, hget, hmt0, hmt1, hmt2, hmm, hms, w0, w1, w2, w3, w4, e1, hdv, g1, g2, IH, bne_self_eq_false]
theorem XC (cs : List z7) (hb : cs.length + z7.zK cs ≤ 4194304) (k : Nat) (hk : k + zZ cs ≤ 1073741824) : zk (EV Tryz.prog pol) 110 [.t (.list 6 (z7.zu (yM k cs))), .t (.int .i64 (k : Int))] = some (.t (.int .i64 ((k + zZ cs : Nat) : Int))) := by
 have L := b7 cs (by omega) (fun c hc => by have := z7.y7 hc; omega) k hk cs [] rfl
 simp only [List.length_nil, Int.natCast_zero, zZ, Nat.add_zero] at L
 apply zr
 refine zw rfl Tryz.func110 rfl (by kernel_rfl) ?_
 unfold Tryz.f110
 simp (disch := ((try simp only [LL]); omega)) only [↓GO, ↓DRW, GA, GX, ren, zm, za, refs, z8, cst, zq, isC, bin, una, z6, zd, blt, asArg, zf, zc, zg, z1, E.mkS, unN, ze, zn, zb, GS, simprocAttr, GZ, L]
theorem bN (top : List Str) (cs : List z7) (ht : top.length ≤ 4194304) (hb : cs.length + z7.zK cs ≤ 4194304) (k : Nat) (hk : k + top.length + zZ cs ≤ 1073741824) :
 zk (EV Tryz.prog pol) 29 [.agg [.t (.list 1 (strs (mkS top.length k))), .t (.list 6 (z7.zu (yM (k + top.length) cs)))], .t (.int .i64 (k : Int))]
  = some (.t (.int .i64 ((k + top.length + zZ cs : Nat) : Int))) := by
 have d1 := bM top.length k (by omega) (by omega)
 have d2 := XC cs hb (k + top.length) (by omega)
 have g1 : decide (((k + top.length : Nat) : Int) < 0) = false := by apply decide_eq_false; omega
 have g2 : decide (((k + top.length + zZ cs : Nat) : Int) < 0) = false := by apply decide_eq_false; omega
 generalize mkS top.length k = ms at *
 generalize yM (k + top.length) cs = mc at *
 apply zr
 refine zw rfl Tryz.func29 rfl (by kernel_rfl) ?_
 unfold Tryz.f29
 simp (disch := ((try simp only [LL]); omega)) only [↓GO, ↓DRW, GA, GX, ren, zm, za, refs, z8, cst, zq, isC, bin, una, z6, zd, blt, asArg, zf, zc, zg, z1, E.mkS, unN, ze, zn, zb, GS, simprocAttr, GZ, d1, d2, g1, g2, zL]
end Go.Proofs.YtijninlbpifonaaGreatDoor
/- Graphs copied, by both. Conditions: those of each lemma. -/
namespace Go.Proofs.YtijninlbpifonaaGreatDoor
open E
set_option linter.unusedSimpArgs false
set_option linter.unusedVariables false
set_option maxRecDepth 100000
theorem dU (x : z7) (ho : x.zT ≤ 1048576) : zk (EV Tryz.prog pol) 135 [.agg (x.enc.map .t)] = some (.agg (x.enc.map .t)) := by
 obtain ⟨name, version, source, sums, dev, zE⟩ := x
 simp only [z7.zT] at ho
 have ht : (zD.zu sums).take sums.length = zD.zu sums := by rw [← zD.zo sums]; simp
 have ht2 : (strs zE).take zE.length = strs zE := by rw [← zh zE]; simp
 simp only [z7.enc, List.map_cons, List.map_nil]
 apply zr
 refine zw rfl Tryz.func135 rfl (by kernel_rfl) ?_
 unfold Tryz.f135
 simp (disch := ((try simp only [LL]); omega)) only [↓GO, ↓DRW, GA, GX, ren, zm, za, refs, z8, cst, zq, isC, bin, una, z6, zd, blt, asArg, zf, zc, zg, z1, E.mkS, unN, ze, zn, zb, GS, simprocAttr, GZ, ht, ht2, zh, zD.zo, zL, xg]
def zG : List V := [.nil 1, .nil 6]
theorem WK (top : List Str) (cs : List z7) (hl : cs.length ≤ 1048576) (hkl : top.length ≤ 1048576) (hb : ∀ c ∈ cs, c.zT ≤ 1048576) : ∀ (rest pre : List z7) (m : Nat), cs = pre ++ rest → m = pre.length →
 EV Tryz.prog pol (.loop 103 58 0 [.ptr 0 0 0, .ptr 1 0 0, .ptr 2 0 0, .t (.int .i64 (pre.length : Int))] [.vs 2 [[.t (.list 1 (strs top)), .t (.list 6 (z7.zu cs))]], .vs 2 [zG], .vs 2 [[.sl 3 0 top.length none, .sl 4 0 m none]], .ts 1 (strs top), .ts 6 (z7.zu pre)])
  = some (.loop (.exit 0) [.ptr 0 0 0, .ptr 1 0 0] [.vs 2 [zG], .vs 2 [[.sl 2 0 top.length none, .sl 3 0 cs.length none]], .ts 1 (strs top), .ts 6 (z7.zu cs)])
 | [], pre, m, hs, hm => by
  have c : decide ((pre.length : Int) < (cs.length : Int)) = false := by simp [hs]
  have e : cs = pre := by simpa using hs
  simp only [zG]
  refine zi Tryz.func103 rfl rfl ?_
  simp (disch := ((try simp only [LL]); omega)) only [↓GO, ↓DRW, GA, GX, ren, zm, za, refs, z8, cst, zq, isC, bin, una, z6, zd, blt, asArg, zf, zc, zg, z1, E.mkS, unN, ze, zn, zb, GS, simprocAttr, GZ, c, z7.zo, zL]
  rw [hm, ← e]
 | x :: rest, pre, m, hs, hm => by
  have c : decide ((pre.length : Int) < (cs.length : Int)) = true := by simp [hs]; omega
  have c0 : decide ((0 : Int) ≤ (pre.length : Int)) = true := by simp
  have hget : (z7.zu cs)[pre.length]? = some x.enc := by rw [hs]; simp [z7.zu]
  have hlen : pre.length + rest.length + 1 ≤ cs.length := by rw [hs]; simp; omega
  have hcx := dU x (hb x (by rw [hs]; simp))
  have IH := WK top cs hl hkl hb rest (pre ++ [x]) (m + 1) (by rw [hs]; simp) (by simp [hm])
  rw [uM, show ((pre ++ [x]).length : Int) = (pre.length : Int) + 1 by simp] at IH
  have hol : (z7.zu pre).length = m := by rw [z7.zo, hm]
  have hml : m ≤ 1048576 := by omega
  clear hs
  obtain ⟨name, version, source, sums, dev, zE⟩ := x
  simp only [z7.enc, List.map_cons, List.map_nil, zG] at hcx hget IH ⊢
  generalize z7.zu pre = A at *
  refine zi Tryz.func103 rfl rfl ?_
  simp (disch := ((try simp only [LL]); omega)) only [↓GO, ↓DRW, GA, GX, ren, zm, za, refs, z8, cst, zq, isC, bin, una, z6, zd, blt, asArg, zf, zc, zg, z1, E.mkS, unN, ze, zn, zb, GS, simprocAttr, GZ, c, c0, z7.zo, hget, hcx, zj, hol, IH, zL, xg]
  refine yN (by kernel_rfl) ?_
  rfl
end Go.Proofs.YtijninlbpifonaaGreatDoor
/- Graphs copied by the implementation. Conditions: those of each lemma. -/
namespace Go.Proofs.YtijninlbpifonaaGreatDoor
open E
set_option linter.unusedSimpArgs false
set_option linter.unusedVariables false
set_option maxRecDepth 100000
theorem WL (top : List Str) (cs : List z7) (hl : cs.length ≤ 1048576) (hkl : top.length ≤ 1048576) (hb : ∀ c ∈ cs, c.zT ≤ 1048576) : ∀ (rest pre : List z7) (m : Nat), cs = pre ++ rest → m = pre.length →
 EV Tryz.prog pol (.loop 105 58 0 [.ptr 0 0 0, .ptr 1 0 0, .t (.list 6 (z7.zu cs)), .t (.int .i64 (cs.length : Int)), .t (.int .i64 (pre.length : Int))] [.vs 2 [zG], .vs 2 [[.sl 2 0 top.length none, .sl 3 0 m none]], .ts 1 (strs top), .vs 6 (ocE (z7.zu pre))])
  = some (.loop (.exit 0) [.ptr 0 0 0, .ptr 1 0 0] [.vs 2 [zG], .vs 2 [[.sl 2 0 top.length none, .sl 3 0 cs.length none]], .ts 1 (strs top), .vs 6 (ocE (z7.zu cs))])
 | [], pre, m, hs, hm => by
  have c : decide ((pre.length : Int) < (cs.length : Int)) = false := by simp [hs]
  have e : cs = pre := by simpa using hs
  simp only [zG]
  refine zi Tryz.func105 rfl rfl ?_
  simp (disch := ((try simp only [LL]); omega)) only [↓GO, ↓DRW, GA, GX, ren, zm, za, refs, z8, cst, zq, isC, bin, una, z6, zd, blt, asArg, zf, zc, zg, z1, E.mkS, unN, ze, zn, zb, GS, simprocAttr, zR, zS, xT, xK, xR, xQ, xU, gh1, xJ, xr, xA, ym, mkO, xB, xt, yJ, xS, zX, xI, xG, yx, oc, oTs, oT, yf, yf.rowTs, xy, isL, Bool.not_false, Bool.true_and, Bool.and_true, Bool.and_self, List.flatMap_append, List.map_append, List.set_cons_zero, List.set_cons_succ, GZ, c, z7.zo, yA, yj, zL]
  rw [hm, ← e]
 | x :: rest, pre, m, hs, hm => by
  have c : decide ((pre.length : Int) < (cs.length : Int)) = true := by simp [hs]; omega
  have c0 : decide ((0 : Int) ≤ (pre.length : Int)) = true := by simp
  have hget : (z7.zu cs)[pre.length]? = some x.enc := by rw [hs]; simp [z7.zu]
  have hlen : pre.length + rest.length + 1 ≤ cs.length := by rw [hs]; simp; omega
  have hbx := hb x (by rw [hs]; simp)
  have IH := WL top cs hl hkl hb rest (pre ++ [x]) (m + 1) (by rw [hs]; simp) (by simp [hm])
  rw [uM, ji, show ((pre ++ [x]).length : Int) = (pre.length : Int) + 1 by simp] at IH
  have hol : (ocE (z7.zu pre)).length = m := by rw [yQ, z7.zo, hm]
  have hml : m ≤ 1048576 := by omega
  have hA := yj (z7.zu pre)
  have hR := fun r => yA r (z7.zu pre)
  have hm1 : m + 1 - 1 = m := by omega
  have hm0 : ¬ (m + 1 = 0) := by omega
  clear hs
  obtain ⟨name, version, source, sums, dev, zE⟩ := x
  simp only [z7.zT] at hbx
  have d1 := fI (zD.zu sums) (by rw [zD.zo]; omega)
  have d2 := uu (strs zE) (by rw [zh]; omega)
  rw [zD.zo] at d1
  rw [zh] at d2
  have hf1 := w5 sums
  have hf2 := xi zE
  have hg1 := fun y => vQ (ocE (z7.zu pre)) [] y m hol
  have hs1 := fun y z => vk (ocE (z7.zu pre)) [] y z m hol
  have hle : ∀ y : List V, (ocE (z7.zu pre) ++ [y]).length = m + 1 := fun y => by simp [hol]
  simp only [z7.enc, List.map_cons, List.map_nil, zG, uk, jh, oc] at hget IH ⊢
  generalize ocE (z7.zu pre) = A at *
  refine zi Tryz.func105 rfl rfl ?_
  simp (disch := ((try simp only [LL]); omega)) only [↓GO, ↓DRW, GA, GX, ren, zm, za, refs, z8, cst, zq, isC, bin, una, z6, zd, blt, asArg, zf, zc, zg, z1, E.mkS, unN, ze, zn, zb, GS, simprocAttr, zR, zS, xT, xK, xR, xQ, xU, gh1, xJ, xr, xA, ym, mkO, xB, xt, yJ, xS, zX, xI, xG, yx, oc, oTs, oT, yf, yf.rowTs, xy, isL, Bool.not_false, Bool.true_and, Bool.and_true, Bool.and_self, List.flatMap_append, List.map_append, List.set_cons_zero, List.set_cons_succ, GZ, c, c0, z7.zo, zD.zo, hget, d1, d2, zj, hol, hA, hR, hm1, hm0, if_false, hg1, hs1, hle, hf1, hf2, zh, yQ, yA, yj, IH, zL, xg]
  refine yN (by kernel_rfl) ?_
  rfl
theorem nw (top : List Str) (hkl : top.length ≤ 1048576) :
 EV Tryz.prog pol (.callO false 105 [.agg [.t (.list 1 (strs top)), .t (.list 6 [])]] []) = some (.call (.agg [.sl 0 0 top.length none, .nil 6]) [.ts 1 (strs top)]) := by
 have L : EV Tryz.prog pol (.loop 105 58 0 [.ptr 0 0 0, .ptr 1 0 0, .t (.list 6 []), .t (.int .i64 0), .t (.int .i64 0)] [.vs 2 [zG], .vs 2 [[.sl 2 0 top.length none, .nil 6]], .ts 1 (strs top)])
  = some (.loop (.exit 0) [.ptr 0 0 0, .ptr 1 0 0] [.vs 2 [zG], .vs 2 [[.sl 2 0 top.length none, .nil 6]], .ts 1 (strs top)]) := by
  simp only [zG]
  refine zi Tryz.func105 rfl rfl ?_
  simp (disch := ((try simp only [LL]); omega)) only [↓GO, ↓DRW, GA, GX, ren, zm, za, refs, z8, cst, zq, isC, bin, una, z6, zd, blt, asArg, zf, zc, zg, z1, E.mkS, unN, ze, zn, zb, GS, simprocAttr, zR, zS, xT, xK, xR, xQ, xU, gh1, xJ, xr, xA, ym, mkO, xB, xt, yJ, xS, zX, xI, xG, yx, oc, oTs, oT, yf, yf.rowTs, xy, isL, Bool.not_false, Bool.true_and, Bool.and_true, Bool.and_self, List.flatMap_append, List.map_append, List.set_cons_zero, List.set_cons_succ, GZ, zL]
 have d2 := uu (strs top) (by rw [zh]; omega)
 rw [zh] at d2
 simp only [zG] at L
 refine yd Tryz.func105 rfl (by kernel_rfl) ?_
 unfold Tryz.f105
 simp (disch := ((try simp only [LL]); omega)) only [↓GO, ↓DRW, GA, GX, ren, zm, za, refs, z8, cst, zq, isC, bin, una, z6, zd, blt, asArg, zf, zc, zg, z1, E.mkS, unN, ze, zn, zb, GS, simprocAttr, zR, zS, xT, xK, xR, xQ, xU, gh1, xJ, xr, xA, ym, mkO, xB, xt, yJ, xS, zX, xI, xG, yx, oc, oTs, oT, yf, yf.rowTs, xy, isL, Bool.not_false, Bool.true_and, Bool.and_true, Bool.and_self, List.flatMap_append, List.map_append, List.set_cons_zero, List.set_cons_succ, GZ, d2, L, List.length_nil, Int.natCast_zero, zh, zL, xg]
theorem pZ (top : List Str) (x : z7) (rest : List z7) (hkl : top.length ≤ 1048576) (hl : (x :: rest).length ≤ 1048576) (hb : ∀ c ∈ x :: rest, c.zT ≤ 1048576) :
 EV Tryz.prog pol (.callO false 105 [.agg [.t (.list 1 (strs top)), .t (.list 6 (z7.zu (x :: rest)))]] []) = some (.call (.agg [.sl 0 0 top.length none, .sl 1 0 (x :: rest).length none]) [.ts 1 (strs top), .vs 6 (ocE (z7.zu (x :: rest)))]) := by
 have hbx := hb x (by simp)
 have L := WL top (x :: rest) (by omega) (by omega) hb rest [x] 1 rfl rfl
 have L0 : EV Tryz.prog pol (.loop 105 58 0 [.ptr 0 0 0, .ptr 1 0 0, .t (.list 6 (z7.zu (x :: rest))), .t (.int .i64 ((x :: rest).length : Int)), .t (.int .i64 0)] [.vs 2 [zG], .vs 2 [[.sl 2 0 top.length none, .nil 6]], .ts 1 (strs top)])
  = some (.loop (.exit 0) [.ptr 0 0 0, .ptr 1 0 0] [.vs 2 [zG], .vs 2 [[.sl 2 0 top.length none, .sl 3 0 (x :: rest).length none]], .ts 1 (strs top), .vs 6 (ocE (z7.zu (x :: rest)))]) := by
  have c : decide ((0 : Int) < ((x :: rest).length : Int)) = true := by apply decide_eq_true; simp only [List.length_cons]; omega
  have hget : (z7.zu (x :: rest))[0]? = some x.enc := rfl
  rw [show ocE (z7.zu [x]) = [x.enc.map oc] from rfl] at L
  obtain ⟨name, version, source, sums, dev, zE⟩ := x
  simp only [z7.zT] at hbx
  have d1 := fI (zD.zu sums) (by rw [zD.zo]; omega)
  have d2 := uu (strs zE) (by rw [zh]; omega)
  rw [zD.zo] at d1
  rw [zh] at d2
  have hf1 := w5 sums
  have hf2 := xi zE
  simp only [z7.enc, List.map_cons, List.map_nil, zG, List.length_cons, List.length_nil, Nat.zero_add, oc, Int.natCast_one] at hget L ⊢
  generalize hcs : z7.mk name version source sums dev zE :: rest = cs at *
  simp only [← List.length_cons (a := z7.mk name version source sums dev zE), hcs] at *
  refine zi Tryz.func105 rfl rfl ?_
  simp (disch := ((try simp only [LL]); omega)) only [↓GO, ↓DRW, GA, GX, ren, zm, za, refs, z8, cst, zq, isC, bin, una, z6, zd, blt, asArg, zf, zc, zg, z1, E.mkS, unN, ze, zn, zb, GS, simprocAttr, zR, zS, xT, xK, xR, xQ, xU, gh1, xJ, xr, xA, ym, mkO, xB, xt, yJ, xS, zX, xI, xG, yx, oc, oTs, oT, yf, yf.rowTs, xy, isL, Bool.not_false, Bool.true_and, Bool.and_true, Bool.and_self, List.flatMap_append, List.map_append, List.set_cons_zero, List.set_cons_succ, GZ, c, z7.zo, zD.zo, vr, hget, d1, d2, zj, Int.reduceAdd, if_false, hf1, hf2, L, zh, zL, xg, List.length_nil, Int.natCast_zero]
  refine yN (by kernel_rfl) ?_
  rfl
 have d2 := uu (strs top) (by rw [zh]; omega)
 rw [zh] at d2
 clear L
 generalize x :: rest = cs at *
 simp only [zG] at L0
 refine yd Tryz.func105 rfl (by kernel_rfl) ?_
 unfold Tryz.f105
 simp (disch := ((try simp only [LL]); omega)) only [↓GO, ↓DRW, GA, GX, ren, zm, za, refs, z8, cst, zq, isC, bin, una, z6, zd, blt, asArg, zf, zc, zg, z1, E.mkS, unN, ze, zn, zb, GS, simprocAttr, zR, zS, xT, xK, xR, xQ, xU, gh1, xJ, xr, xA, ym, mkO, xB, xt, yJ, xS, zX, xI, xG, yx, oc, oTs, oT, yf, yf.rowTs, xy, isL, Bool.not_false, Bool.true_and, Bool.and_true, Bool.and_self, List.flatMap_append, List.map_append, List.set_cons_zero, List.set_cons_succ, GZ, d2, L0, zh, z7.zo, yA, yj, zL, xg]
end Go.Proofs.YtijninlbpifonaaGreatDoor
/- Small tests on bytes and numbers; keys. Conditions: those of each lemma. -/
namespace Go.Proofs.YtijninlbpifonaaGreatDoor
open E
set_option linter.unusedSimpArgs false
set_option linter.unusedVariables false
set_option maxRecDepth 100000
theorem tZ (a lo hi : Int) : zk (EV Tryz.prog pol) 169 [.t (.int .i64 a), .t (.int .i64 lo), .t (.int .i64 hi)] = some (.t (.bool (B2 a lo hi))) := by
 apply zr
 refine zw rfl Tryz.func169 rfl (by kernel_rfl) ?_
 unfold Tryz.f169
 unfold B2
 repeat' (first | (((first | with_reducible refine tg (fun hA => ?_) (fun hA => ?_) | with_reducible refine te (fun hA => ?_) (fun hA => ?_)) <;> (try simp only [bne, Bool.not_eq_true', Bool.not_eq_false'] at hA) <;> (first | (have hP := Int.le_of_eq (eq_of_beq (α := Int) hA); have hQ := Int.le_of_eq (eq_of_beq (α := Int) hA).symm) | have hP := of_decide_eq_true hA | have hP := of_decide_eq_false hA | skip)) <;> (simp (disch := ((try simp only [LL]); omega)) only [↓GO, ↓DRW, GA, GX, ren, zm, za, refs, z8, cst, zq, isC, bin, una, z6, zd, blt, asArg, zf, zc, zg, z1, E.mkS, unN, ze, zn, zb, GS, simprocAttr, zj, bne, *])) | (simp (disch := ((try simp only [LL]); omega)) only [↓GO, ↓DRW, GA, GX, ren, zm, za, refs, z8, cst, zq, isC, bin, una, z6, zd, blt, asArg, zf, zc, zg, z1, E.mkS, unN, ze, zn, zb, GS, simprocAttr, zj, bne, *]))
theorem w6 (a lo hi : Int) : zk (EV Tryz.prog pol) 187 [.t (.int .i64 a), .t (.int .i64 lo), .t (.int .i64 hi)] = some (.t (.bool (B2 a lo hi))) := by
 apply zr
 refine zw rfl Tryz.func187 rfl (by kernel_rfl) ?_
 unfold Tryz.f187
 unfold B2
 repeat' (first | (((first | with_reducible refine tg (fun hA => ?_) (fun hA => ?_) | with_reducible refine te (fun hA => ?_) (fun hA => ?_)) <;> (try simp only [bne, Bool.not_eq_true', Bool.not_eq_false'] at hA) <;> (first | (have hP := Int.le_of_eq (eq_of_beq (α := Int) hA); have hQ := Int.le_of_eq (eq_of_beq (α := Int) hA).symm) | have hP := of_decide_eq_true hA | have hP := of_decide_eq_false hA | skip)) <;> (simp (disch := ((try simp only [LL]); omega)) only [↓GO, ↓DRW, GA, GX, ren, zm, za, refs, z8, cst, zq, isC, bin, una, z6, zd, blt, asArg, zf, zc, zg, z1, E.mkS, unN, ze, zn, zb, GS, simprocAttr, zj, bne, ge_iff_le, *])) | (simp (disch := ((try simp only [LL]); omega)) only [↓GO, ↓DRW, GA, GX, ren, zm, za, refs, z8, cst, zq, isC, bin, una, z6, zd, blt, asArg, zf, zc, zg, z1, E.mkS, unN, ze, zn, zb, GS, simprocAttr, zj, bne, ge_iff_le, *]))
theorem kt (a : Int) : zk (EV Tryz.prog pol) 233 [.t (.int .u8 a)] = some (.t (.bool (B2 a 97 122))) := by
 apply zr
 refine zw rfl Tryz.func233 rfl (by kernel_rfl) ?_
 unfold Tryz.f233
 unfold B2
 repeat' (first | (((first | with_reducible refine tg (fun hA => ?_) (fun hA => ?_) | with_reducible refine te (fun hA => ?_) (fun hA => ?_)) <;> (try simp only [bne, Bool.not_eq_true', Bool.not_eq_false'] at hA) <;> (first | (have hP := Int.le_of_eq (eq_of_beq (α := Int) hA); have hQ := Int.le_of_eq (eq_of_beq (α := Int) hA).symm) | have hP := of_decide_eq_true hA | have hP := of_decide_eq_false hA | skip)) <;> (simp (disch := ((try simp only [LL]); omega)) only [↓GO, ↓DRW, GA, GX, ren, zm, za, refs, z8, cst, zq, isC, bin, una, z6, zd, blt, asArg, zf, zc, zg, z1, E.mkS, unN, ze, zn, zb, GS, simprocAttr, zj, bne, ge_iff_le, *])) | (simp (disch := ((try simp only [LL]); omega)) only [↓GO, ↓DRW, GA, GX, ren, zm, za, refs, z8, cst, zq, isC, bin, una, z6, zd, blt, asArg, zf, zc, zg, z1, E.mkS, unN, ze, zn, zb, GS, simprocAttr, zj, bne, ge_iff_le, *]))
theorem qW (a : Int) : zk (EV Tryz.prog pol) 234 [.t (.int .u8 a)] = some (.t (.bool (B2 a 48 57))) := by
 apply zr
 refine zw rfl Tryz.func234 rfl (by kernel_rfl) ?_
 unfold Tryz.f234
 unfold B2
 repeat' (first | (((first | with_reducible refine tg (fun hA => ?_) (fun hA => ?_) | with_reducible refine te (fun hA => ?_) (fun hA => ?_)) <;> (try simp only [bne, Bool.not_eq_true', Bool.not_eq_false'] at hA) <;> (first | (have hP := Int.le_of_eq (eq_of_beq (α := Int) hA); have hQ := Int.le_of_eq (eq_of_beq (α := Int) hA).symm) | have hP := of_decide_eq_true hA | have hP := of_decide_eq_false hA | skip)) <;> (simp (disch := ((try simp only [LL]); omega)) only [↓GO, ↓DRW, GA, GX, ren, zm, za, refs, z8, cst, zq, isC, bin, una, z6, zd, blt, asArg, zf, zc, zg, z1, E.mkS, unN, ze, zn, zb, GS, simprocAttr, zj, bne, ge_iff_le, *])) | (simp (disch := ((try simp only [LL]); omega)) only [↓GO, ↓DRW, GA, GX, ren, zm, za, refs, z8, cst, zq, isC, bin, una, z6, zd, blt, asArg, zf, zc, zg, z1, E.mkS, unN, ze, zn, zb, GS, simprocAttr, zj, bne, ge_iff_le, *]))
theorem wrap_u8 (b : UInt8) : IntKind.i64.wrap (b.toNat : Int) = (b.toNat : Int) := by have := V2 b; exact zj (by omega)
theorem pX (b : UInt8) : zk (EV Tryz.prog pol) 238 [.t (.int .u8 (b.toNat : Int))] = some (.t (.bool (B2 (nb b) 97 122 || B2 (nb b) 48 57))) := by
 apply zr
 refine zw rfl Tryz.func238 rfl (by kernel_rfl) ?_
 unfold Tryz.f238
 have h1 := w6 (b.toNat : Int) 97 122
 have h2 := w6 (b.toNat : Int) 48 57
 repeat' (first | (((first | with_reducible refine tg (fun hA => ?_) (fun hA => ?_) | with_reducible refine te (fun hA => ?_) (fun hA => ?_)) <;> (try simp only [bne, Bool.not_eq_true', Bool.not_eq_false'] at hA) <;> (first | (have hP := Int.le_of_eq (eq_of_beq (α := Int) hA); have hQ := Int.le_of_eq (eq_of_beq (α := Int) hA).symm) | have hP := of_decide_eq_true hA | have hP := of_decide_eq_false hA | skip)) <;> (simp (disch := ((try simp only [LL]); omega)) only [↓GO, ↓DRW, GA, GX, ren, zm, za, refs, z8, cst, zq, isC, bin, una, z6, zd, blt, asArg, zf, zc, zg, z1, E.mkS, unN, ze, zn, zb, GS, simprocAttr, zj, bne, conv, wrap_u8, *])) | (simp (disch := ((try simp only [LL]); omega)) only [↓GO, ↓DRW, GA, GX, ren, zm, za, refs, z8, cst, zq, isC, bin, una, z6, zd, blt, asArg, zf, zc, zg, z1, E.mkS, unN, ze, zn, zb, GS, simprocAttr, zj, bne, conv, wrap_u8, *]))
theorem UZ (f : Nat) (p : UInt8 → Bool) (hp : ∀ b : UInt8, zk (EV Tryz.prog pol) f [.t (.int .u8 (b.toNat : Int))] = some (.t (.bool (p b)))) (s : Str) (hl : s.length ≤ 9223372036854775807) : ∀ (rest pre : Str), s = pre ++ rest →
 EV Tryz.prog pol (.loop 231 26 0 [.t (.str s), .t (.fn f []), .t (.int .i64 (s.length : Int)), .t (.int .i64 (pre.length : Int))] []) = some (cond (rest.all p) (.loop (.exit 0) [.bad] []) (.loop .ret [.t (.bool false)] []))
 | [], pre, hs => by
  have c : decide ((pre.length : Int) < (s.length : Int)) = false := by simp [hs]
  refine zi Tryz.func231 rfl rfl ?_
  simp only [↓GO, ↓DRW, GA, GX, ren, zm, za, refs, z8, cst, zq, isC, bin, una, z6, zd, blt, asArg, zf, zc, zg, z1, E.mkS, unN, ze, zn, zb, GS, simprocAttr, c]
 | b :: rest, pre, hs => by
  have c : decide ((pre.length : Int) < (s.length : Int)) = true := by simp [hs]; omega
  have hget : s[pre.length]? = some b := by rw [hs]; exact th pre b rest
  have hlen : s.length = pre.length + rest.length + 1 := by rw [hs]; simp; omega
  have e1 : (pre.length : Int) + 1 = ((pre ++ [b]).length : Int) := by simp
  have IH := UZ f p hp s hl rest (pre ++ [b]) (by rw [hs]; simp)
  have hb := hp b
  refine zi Tryz.func231 rfl rfl ?_
  cases hpb : p b with
  | true =>
   rw [hpb] at hb
   simp (disch := omega) only [↓GO, ↓DRW, GA, GX, ren, zm, za, refs, z8, cst, zq, isC, bin, una, z6, zd, blt, asArg, zf, zc, zg, z1, E.mkS, unN, ze, zn, zb, GS, simprocAttr, c, hget, zj, hb]
   rw [e1, IH, hpb, Bool.true_and]
  | false =>
   rw [hpb] at hb
   simp (disch := omega) only [↓GO, ↓DRW, GA, GX, ren, zm, za, refs, z8, cst, zq, isC, bin, una, z6, zd, blt, asArg, zf, zc, zg, z1, E.mkS, unN, ze, zn, zb, GS, simprocAttr, c, hget, zj, hb]
   rw [hpb]; rfl
theorem ak (f : Nat) (p : UInt8 → Bool) (hp : ∀ b : UInt8, zk (EV Tryz.prog pol) f [.t (.int .u8 (b.toNat : Int))] = some (.t (.bool (p b)))) (s : Str) (hl : s.length ≤ 9223372036854775807) :
 zk (EV Tryz.prog pol) 231 [.t (.str s), .t (.fn f [])] = some (.t (.bool (s.all p))) := by
 have IH := UZ f p hp s hl s [] rfl
 simp only [List.length_nil, Int.natCast_zero] at IH
 apply zr
 refine zw rfl Tryz.func231 rfl (by kernel_rfl) ?_
 unfold Tryz.f231
 cases hb : s.all p with
 | true => rw [hb] at IH; simp only [cond_true] at IH; simp only [↓GO, ↓DRW, GA, GX, ren, zm, za, refs, z8, cst, zq, isC, bin, una, z6, zd, blt, asArg, zf, zc, zg, z1, E.mkS, unN, ze, zn, zb, GS, simprocAttr, IH]
 | false => rw [hb] at IH; simp only [cond_false] at IH; simp only [↓GO, ↓DRW, GA, GX, ren, zm, za, refs, z8, cst, zq, isC, bin, una, z6, zd, blt, asArg, zf, zc, zg, z1, E.mkS, unN, ze, zn, zb, GS, simprocAttr, IH]
end Go.Proofs.YtijninlbpifonaaGreatDoor
/- Digits and quotes, by both. Conditions: those of each lemma. -/
namespace Go.Proofs.YtijninlbpifonaaGreatDoor
open E
set_option linter.unusedSimpArgs false
set_option linter.unusedVariables false
set_option maxRecDepth 100000
end Go.Proofs.YtijninlbpifonaaGreatDoor
/- The library's searches, at fields. Conditions: those of each lemma. -/
namespace Go.Proofs.YtijninlbpifonaaGreatDoor
open E
set_option linter.unusedSimpArgs false
set_option linter.unusedVariables false
set_option maxRecDepth 100000
/-- the first place at which something holds -/
def vA {α : Type} (p : α → Bool) : List α → Nat → Option Nat
 | [], _ => none
 | x :: r, n => if p x = true then some n else vA p r (n + 1)
def ixI : Option Nat → Int
 | some n => (n : Int)
 | none => -1
theorem qk {α : Type} (p : α → Bool) : ∀ (l : List α) (n : Nat), (vA p l n).isSome = l.any p
 | [], _ => rfl
 | x :: r, n => by
  simp only [vA, List.any_cons]
  split
  · rename_i h; simp [h]
  · rename_i h; rw [qk p r (n + 1)]; simp [h]
end Go.Proofs.YtijninlbpifonaaGreatDoor
/- The library's searches, at packs and sums. Conditions: those of each lemma. -/
namespace Go.Proofs.YtijninlbpifonaaGreatDoor
open E
set_option linter.unusedSimpArgs false
set_option linter.unusedVariables false
set_option maxRecDepth 100000
theorem pH (g : Nat) (caps : List T) (p : z7 → Bool) (es : List z7) (hl : es.length ≤ 4611686018427387904) (hp : ∀ x ∈ es, zk (EV Tryz.prog pol) g (.agg (x.enc.map .t) :: caps.map .t) = some (.t (.bool (p x)))) : ∀ (rest pre : List z7), es = pre ++ rest →
 EV Tryz.prog pol (.loop 133 26 0 [.t (.list 6 (z7.zu es)), .t (.fn g caps), .t (.int .i64 (es.length : Int)), .t (.int .i64 (pre.length : Int))] []) = some (match vA p rest pre.length with | some i => .loop .ret [.t (.int .i64 (i : Int))] [] | none => .loop (.exit 0) [.bad] [])
 | [], pre, hs => by
  have c : decide ((pre.length : Int) < (es.length : Int)) = false := by simp [hs]
  refine zi Tryz.func133 rfl rfl ?_
  simp only [↓GO, ↓DRW, GA, GX, ren, zm, za, refs, z8, cst, zq, isC, bin, una, z6, zd, blt, asArg, zf, zc, zg, z1, E.mkS, unN, ze, zn, zb, GS, simprocAttr, c, vA]
 | b :: rest, pre, hs => by
  have c : decide ((pre.length : Int) < (es.length : Int)) = true := by simp [hs]; omega
  have hi : pre.length < es.length := by rw [hs]; simp
  have hget := z7.yS es pre.length hi
  have hgb : es[pre.length] = b := by simp [hs]
  rw [hgb] at hget
  have hb := hp b (by rw [hs]; simp)
  have e1 : (pre.length : Int) + 1 = ((pre ++ [b]).length : Int) := by simp
  have IH := pH g caps p es hl hp rest (pre ++ [b]) (by rw [hs]; simp)
  refine zi Tryz.func133 rfl rfl ?_
  simp only [vA]
  cases hpb : p b with
  | true =>
   rw [hpb] at hb
   simp (disch := omega) only [↓GO, ↓DRW, GA, GX, ren, zm, za, refs, z8, cst, zq, isC, bin, una, z6, zd, blt, asArg, zf, zc, zg, z1, E.mkS, unN, ze, zn, zb, GS, simprocAttr, z7.zo, c, hget, z7.vl, z7.wj, zj, hb]
  | false =>
   rw [hpb] at hb
   simp (disch := omega) only [↓GO, ↓DRW, GA, GX, ren, zm, za, refs, z8, cst, zq, isC, bin, una, z6, zd, blt, asArg, zf, zc, zg, z1, E.mkS, unN, ze, zn, zb, GS, simprocAttr, z7.zo, c, hget, z7.vl, z7.wj, zj, hb]
   rw [e1, IH]
   simp
theorem tI (g : Nat) (caps : List T) (p : z7 → Bool) (es : List z7) (hl : es.length ≤ 4611686018427387904) (hp : ∀ x ∈ es, zk (EV Tryz.prog pol) g (.agg (x.enc.map .t) :: caps.map .t) = some (.t (.bool (p x)))) :
 zk (EV Tryz.prog pol) 133 [.t (.list 6 (z7.zu es)), .t (.fn g caps)] = some (.t (.int .i64 (ixI (vA p es 0)))) := by
 have IH := pH g caps p es hl hp es [] rfl
 simp only [List.length_nil, Int.natCast_zero] at IH
 apply zr
 refine zw rfl Tryz.func133 rfl (by kernel_rfl) ?_
 unfold Tryz.f133
 cases hf : vA p es 0 with
 | none => rw [hf] at IH; simp only [↓GO, ↓DRW, GA, GX, ren, zm, za, refs, z8, cst, zq, isC, bin, una, z6, zd, blt, asArg, zf, zc, zg, z1, E.mkS, unN, ze, zn, zb, GS, simprocAttr, z7.zo, IH, ixI]
 | some i => rw [hf] at IH; simp only [↓GO, ↓DRW, GA, GX, ren, zm, za, refs, z8, cst, zq, isC, bin, una, z6, zd, blt, asArg, zf, zc, zg, z1, E.mkS, unN, ze, zn, zb, GS, simprocAttr, z7.zo, IH, ixI]
end Go.Proofs.YtijninlbpifonaaGreatDoor
/- Texts cut at a byte; names; plain texts. Plain. Conditions: none. -/
namespace Go.Proofs.YtijninlbpifonaaGreatDoor
set_option linter.unusedVariables false
set_option linter.unusedSimpArgs false
theorem nd (b : UInt8) (s : Str) : Lib.index (b :: s) [b] = 0 := by rw [Lib.index]; simp [List.isPrefixOf]
theorem pL (x b : UInt8) (s : Str) (h : x ≠ b) : Lib.index (x :: s) [b] = if Lib.index s [b] == -1 then -1 else Lib.index s [b] + 1 := by
 have hp : ([b] : List UInt8).isPrefixOf (x :: s) = false := by simp [List.isPrefixOf, Ne.symm h]
 rw [Lib.index, hp]; simp
theorem sI (b : UInt8) : ∀ s : Str, yE b s ≠ []
 | [] => by simp [yE]
 | x :: s => by
  unfold yE
  split
  · simp
  · split <;> simp
theorem vC (b : UInt8) (s : Str) : yE b (b :: s) = [] :: yE b s := by rw [yE, if_pos rfl]
theorem wa (b x : UInt8) (s p : Str) (r : List Str) (h : x ≠ b) (e : yE b s = p :: r) : yE b (x :: s) = (x :: p) :: r := by
 rw [yE, if_neg h, e]
theorem l7 (b : UInt8) : ∀ s : Str, Lib.split s [b] = yE b s
 | [] => by
  unfold Lib.split
  rw [Lib.count_miss (by simp [Lib.index])]; rfl
 | x :: s => by
  have ih := l7 b s
  unfold Lib.split at ih ⊢
  by_cases h : x = b
  · subst h
    rw [Lib.count_cons_eq, Nat.add_comm, Lib.splitK, nd, vC]
    simpa using ih
  · rw [Lib.count_cons_ne x b s h]
    by_cases hm : Lib.index s [b] = -1
    · rw [Lib.count_miss hm] at ih ⊢
      rw [Lib.splitK] at ih ⊢
      exact (wa b x s s [] h ih.symm).symm
    · have hge := Lib.index_ge s [b]
      obtain ⟨j, hj⟩ : ∃ j : Nat, Lib.index s [b] = j := ⟨(Lib.index s [b]).toNat, by omega⟩
      rw [Lib.count_hit (by simp) hj, Nat.add_comm] at ih ⊢
      have hb : (((j : Nat) : Int) == -1) = false := by rw [beq_eq_false_iff_ne]; omega
      have hb2 : (((j : Nat) : Int) + 1 == -1) = false := by rw [beq_eq_false_iff_ne]; omega
      rw [Lib.splitK, hj, hb] at ih
      rw [Lib.splitK, pL x b s h, hj, hb]
      simp only [Bool.false_eq_true, if_false, hb2, Int.toNat_natCast, Nat.add_zero, List.length_cons, List.length_nil, Nat.zero_add] at ih ⊢
      rw [show ((j : Int) + 1).toNat = j + 1 by omega]
      rw [List.take_succ_cons, List.drop_succ_cons]
      exact (wa b x s _ _ h ih.symm).symm
/-- a text cut at the first place of a byte -/
def y8 (b : UInt8) : Str → Str × Str × Bool
 | [] => ([], [], false)
 | x :: s => if x = b then ([], s, true) else (x :: (y8 b s).1, (y8 b s).2.1, (y8 b s).2.2)
theorem fC (b : UInt8) : ∀ s : Str, Lib.cut s [b] = y8 b s
 | [] => by simp [Lib.cut, y8, Lib.index]
 | x :: s => by
  have ih := fC b s
  by_cases h : x = b
  · subst h
    unfold Lib.cut
    rw [nd, y8, if_pos rfl]; simp
  · rw [y8, if_neg h, ← ih]
    unfold Lib.cut
    rw [pL x b s h]
    have hge := Lib.index_ge s [b]
    by_cases hm : Lib.index s [b] = -1
    · rw [hm]; simp
    · obtain ⟨j, hj⟩ : ∃ j : Nat, Lib.index s [b] = j := ⟨(Lib.index s [b]).toNat, by omega⟩
      have hb : (((j : Nat) : Int) == -1) = false := by rw [beq_eq_false_iff_ne]; omega
      rw [hj, hb]
      simp only [Bool.false_eq_true, if_false]
      rw [if_pos (by omega), if_pos (by omega), show ((j : Int) + 1).toNat = j + 1 by omega]
      simp only [List.take_succ_cons, Int.toNat_natCast]
      rw [show j + 1 + [b].length = (j + [b].length) + 1 by simp, List.drop_succ_cons]
theorem ou (b : UInt8) : ∀ s : Str, s = (y8 b s).1 ++ cond (y8 b s).2.2 (b :: (y8 b s).2.1) []
 | [] => rfl
 | x :: s => by
  rw [y8]
  split
  · rename_i h; rw [h]; rfl
  · have := ou b s
    show x :: s = (x :: (y8 b s).1) ++ _
    rw [List.cons_append, ← this]
theorem fE (b : UInt8) : ∀ s : Str, b ∉ (y8 b s).1
 | [] => by simp [y8]
 | x :: s => by
  rw [y8]
  split
  · simp
  · rename_i h
    have := fE b s
    simp only [List.mem_cons, not_or]
    exact ⟨Ne.symm h, this⟩
theorem nq (b : UInt8) : ∀ s : Str, (y8 b s).2.2 = false → (y8 b s).2.1 = []
 | [], _ => rfl
 | x :: s, h => by
  rw [y8] at h ⊢
  split at h
  · simp at h
  · rename_i hx
    rw [if_neg hx]; exact nq b s h
theorem fF (b : UInt8) (t : Str) : ∀ s : Str, b ∉ s → y8 b (s ++ b :: t) = (s, t, true)
 | [], _ => by simp [y8]
 | x :: s, h => by
  simp only [List.mem_cons, not_or] at h
  rw [List.cons_append, y8, if_neg (Ne.symm h.1), fF b t s h.2]
theorem fD (b : UInt8) (t : Str) : ∀ s : Str, yE b (s ++ b :: t) = yE b s ++ yE b t
 | [] => by rw [List.nil_append, vC]; rfl
 | x :: s => by
  have ih := fD b t s
  rw [List.cons_append]
  by_cases h : x = b
  · subst h; rw [vC, vC, ih]; rfl
  · cases hc : yE b s with
    | nil => exact absurd hc (sI b s)
    | cons p r =>
     rw [hc] at ih
     rw [wa b x s p r h hc, wa b x _ p (r ++ yE b t) h ih]; rfl
def sL : Str := [110, 111, 100, 101, 95, 109, 111, 100, 117, 108, 101, 115]
def vI (b : UInt8) : Bool := B2 (nb b) 97 122 || B2 (nb b) 48 57 || nb b == 46 || nb b == 95 || nb b == 45
def o7 (s : Str) : Bool := ([64] : Str).isPrefixOf s
def yO (s : Str) : Str := match s with
 | [] => []
 | x :: r => if x = 64 then r else x :: r
/-- as the implementation asks -/
def vE (sc : Bool) : List Str → Bool
 | [] => true
 | p :: r => (!((p == []) || ((p == sL) && !sc) || !(p.all vI))) && vE false r
def sa (s : Str) : Bool := vE (o7 s) (yE 47 (yO s)) && decide ((s.length : Int) ≤ 60)
/-- as the reference asks -/
def mA : List Str → Bool
 | [] => true
 | p :: r => (!(p == sL) && (p.all vI && !(p == []))) && mA r
def rQ : List Str → Bool
 | [] => true
 | p :: r => (!(p == sL) && ((yO p).all vI && !(yO p == []))) && mA r
theorem sn : ∀ r : List Str, mA r = vE false r
 | [] => rfl
 | p :: r => by
  rw [mA, vE, sn r]
  cases (p == []) <;> cases (p == sL) <;> cases (p.all vI) <;> rfl
theorem aJ (s : Str) : (rQ (yE 47 s) && decide ((s.length : Int) ≤ 60)) = sa s := by
 unfold sa
 congr 1
 cases s with
 | nil => rfl
 | cons x t =>
  cases hc : yE 47 t with
  | nil => exact absurd hc (sI 47 t)
  | cons p r =>
   by_cases h64 : x = 64
   · subst h64
     rw [wa 47 64 t p r (by decide) hc]
     have h1 : o7 (64 :: t) = true := by simp [o7, List.isPrefixOf]
     have h2 : yO (64 :: t) = t := by simp [yO]
     have h3 : yO (64 :: p) = p := by simp [yO]
     have h4 : (((64 : UInt8) :: p) == sL) = false := by simp [sL]
     rw [h1, h2, hc, rQ, vE, h3, h4, sn]
     cases (p == []) <;> cases (p == sL) <;> cases (p.all vI) <;> rfl
   · have h1 : o7 (x :: t) = false := by simp [o7, List.isPrefixOf]; exact fun h => h64 h.symm
     have h2 : yO (x :: t) = x :: t := by simp [yO, h64]
     rw [h1, h2]
     by_cases h47 : x = 47
     · subst h47
       rw [vC, rQ, vE, sn]
       rfl
     · rw [wa 47 x t p r h47 hc, rQ, vE, sn]
       have h3 : yO (x :: p) = x :: p := by simp [yO, h64]
       rw [h3]
       cases ((x :: p) == []) <;> cases ((x :: p) == sL) <;> cases ((x :: p).all vI) <;> rfl
def rP (b : UInt8) : Bool := B2 (nb b) 33 126 && (!(nb b == 34) && (!(nb b == 39) && (!(nb b == 44) && !(nb b == 92))))
def uV (s : Str) : Bool := s.all rP && decide ((s.length : Int) ≤ 100)
end Go.Proofs.YtijninlbpifonaaGreatDoor

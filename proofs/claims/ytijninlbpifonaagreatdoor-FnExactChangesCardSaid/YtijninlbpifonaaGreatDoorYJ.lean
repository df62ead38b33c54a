/- Joined: G1 S1 W5 M1 M2 M3 M4 M5 M6 M7 M8 M9 B1 B2 B3 B4 G5 B13 P1 V1 N1 V2. Conditions: those of each lemma. -/
import Derived.Test.YtijninlbpifonaaGreatDoorYI
import Derived.Test.YtijninlbpifonaaGreatDoorRows
import Derived.ProofKit
import Derived.ReadAgain
import Derived.Test.YtijninlbpifonaaGreatDoorYH
import Derived.Lib.SplitLaws
import Derived.Lib.ItoaMem
import Derived.Lib.AtoiAll
import Derived.Lib.Join
set_option linter.unusedVariables false
set_option linter.unusedSimpArgs false
namespace Go.Proofs.YtijninlbpifonaaGreatDoor
open E
set_option linter.unusedSimpArgs false
set_option linter.unusedVariables false
set_option maxRecDepth 100000
structure zF where
 alg : List UInt8
 bytes : List UInt8
def zF.enc (x : zF) : List T := [.str x.alg, .str x.bytes]
def zF.zA (l : List zF) : List (List T) := l.map zF.enc
def zF.zO (x : zF) : Nat := x.alg.length + x.bytes.length
def zF.zL : List zF → Nat
 | [] => 0
 | c :: cs => zF.zO c + zF.zL cs
def zF.ok (x : zF) : Prop := x.alg.length ≤ 9223372036854775807 ∧ x.bytes.length ≤ 9223372036854775807
theorem zF.vq (x : zF) : x.enc.length = 2 := rfl
theorem zF.wg (x : zF) : x.enc.take 2 = x.enc := rfl
theorem zF.zx (cs : List zF) : (zF.zA cs).length = cs.length := by simp [zF.zA]
theorem zF.yR (cs : List zF) (i : Nat) (h : i < cs.length) : (zF.zA cs)[i]? = some cs[i].enc := by simp [zF.zA, h]
theorem zF.x9 (cs : List zF) (i : Nat) (h : i < cs.length) : zF.zL (cs.drop i) = cs[i].zO + zF.zL (cs.drop (i + 1)) := by
 rw [List.drop_eq_getElem_cons h]; rfl
theorem zF.zY : ∀ {cs : List zF} {c : zF}, c ∈ cs → c.zO ≤ zF.zL cs
 | c' :: cs, c, h => by
  simp only [zF.zL]
  rcases List.mem_cons.1 h with rfl | h
  · omega
  · have := zF.zY h; omega
def Sy (x : zF) : Prop := ∀ n : Int, 0 ≤ n → n ≤ 1048576 → zk (EV Tryz.prog pol) 310 [.agg (x.enc.map .t), .t (.int .i64 n)] = some (.t (.int .i64 (left n x.zO)))
theorem RP (x : zF) (ho : x.ok) : Sy x := by
 obtain ⟨alg, bytes⟩ := x
 intro n h0 h1
 simp only [zF.ok] at ho
 simp only [zF.enc, List.map_cons, List.map_nil]
 apply zq
 refine zr rfl Tryz.func310 rfl (by kernel_rfl) ?_
 unfold Tryz.f310
 repeat' (first | (((first | with_reducible refine tG (fun hA => ?_) (fun hA => ?_) | with_reducible refine tE (fun hA => ?_) (fun hA => ?_)) <;> (try simp only [bne, Bool.not_eq_true', Bool.not_eq_false'] at hA) <;> (first | (have hP := Int.le_of_eq (eq_of_beq (α := Int) hA); have hQ := Int.le_of_eq (eq_of_beq (α := Int) hA).symm) | have hP := of_decide_eq_true hA | have hP := of_decide_eq_false hA | skip)) <;> (simp (disch := ((try simp only [LL]); omega)) only [↓GO, ↓DRW, GA, GX, ren, zm, z8, refs, z7, cst, zo, isC, bin, una, z6, zc, blt, asArg, ze, zb, zf, z1, E.mkS, unN, zd, zn, za, GS, simprocAttr, zi, bne, rm, vo, *])) | (simp (disch := ((try simp only [LL]); omega)) only [↓GO, ↓DRW, GA, GX, ren, zm, z8, refs, z7, cst, zo, isC, bin, una, z6, zc, blt, asArg, ze, zb, zf, z1, E.mkS, unN, zd, zn, za, GS, simprocAttr, zi, bne, rm, vo, *]))
 all_goals (refine qb ?_; simp only [zF.zO, and_true]; omega)
theorem eU (cs : List zF) (hl : cs.length ≤ 9223372036854775807) (hc : ∀ c ∈ cs, Sy c) : ∀ (d i : Nat) (n : Int), cs.length - i = d → i ≤ cs.length → 0 ≤ n → n ≤ 1048576 →
 (0 ≤ n - (zF.zL (cs.drop i) : Int) → EV Tryz.prog pol (.loop 255 122 0 [.t (.list 2 (zF.zA cs)), .t (.int .i64 n), .t (.int .i64 (i : Int))] []) = some (.loop (.exit 0) [.t (.int .i64 (n - (zF.zL (cs.drop i) : Int))), .bad] [])) ∧
 (n - (zF.zL (cs.drop i) : Int) < 0 → ∃ v, EV Tryz.prog pol (.loop 255 122 0 [.t (.list 2 (zF.zA cs)), .t (.int .i64 n), .t (.int .i64 (i : Int))] []) = some (.loop .ret [v, .t (.int .i64 (-1))] []))
 | 0, i, n, hd, hi, h0, h1 => by
  have hi' : i = cs.length := by omega
  subst hi'
  have hb : zF.zL (cs.drop cs.length) = 0 := by simp [zF.zL]
  rw [hb]
  refine ⟨fun _ => ?_, fun h => by omega⟩
  refine zh Tryz.func255 rfl rfl ?_
  have c : decide (((cs.length : Nat) : Int) < ((cs.length : Nat) : Int)) = false := by simp
  simp only [↓GO, ↓DRW, GA, GX, ren, zm, z8, refs, z7, cst, zo, isC, bin, una, z6, zc, blt, asArg, ze, zb, zf, z1, E.mkS, unN, zd, zn, za, GS, simprocAttr, zF.zx, c]
  simp
 | d + 1, i, n, hd, hi, h0, h1 => by
  have hlt : i < cs.length := by omega
  rw [zF.x9 cs i hlt]
  have c : decide ((i : Int) < ((cs.length : Nat) : Int)) = true := by simp; omega
  have hcall := hc _ (List.getElem_mem hlt) n h0 h1
  have hget := zF.yR cs i hlt
  generalize hci : cs[i] = ci at hcall hget
  obtain ⟨alg, bytes⟩ := ci
  simp only [zF.enc, List.map_cons, List.map_nil] at hcall hget
  generalize hbu : (zF.mk alg bytes).zO = bu at hcall
  have IH := eU cs hl hc d (i + 1) (n - (bu : Int)) (by omega) (by omega)
  have e1 : (i : Int) + 1 = ((i + 1 : Nat) : Int) := by omega
  by_cases hneg : n - (bu : Int) < 0
  · refine ⟨fun h => by omega, fun _ => ⟨.t (.int .i64 (-1)), ?_⟩⟩
    refine zh Tryz.func255 rfl rfl ?_
    have hle : left n bu = -1 := if_pos hneg
    rw [hle] at hcall
    simp (disch := omega) only [↓GO, ↓DRW, GA, GX, ren, zm, z8, refs, z7, cst, zo, isC, bin, una, z6, zc, blt, asArg, ze, zb, zf, z1, E.mkS, unN, zd, zn, za, GS, simprocAttr, zF.zx, c, hget, zi, hcall]
  · have hle : left n bu = n - (bu : Int) := if_neg hneg
    rw [hle] at hcall
    have c2 : decide (n - (bu : Int) < 0) = false := by simpa using hneg
    obtain ⟨I1, I2⟩ := IH (by omega) (by omega)
    refine ⟨fun h => ?_, fun h => ?_⟩
    · refine zh Tryz.func255 rfl rfl ?_
      simp (disch := omega) only [↓GO, ↓DRW, GA, GX, ren, zm, z8, refs, z7, cst, zo, isC, bin, una, z6, zc, blt, asArg, ze, zb, zf, z1, E.mkS, unN, zd, zn, za, GS, simprocAttr, zF.zx, c, hget, zi, hcall, c2, e1]
      rw [I1 (by omega), show n - (bu : Int) - (zF.zL (cs.drop (i + 1)) : Int) = n - ((bu + zF.zL (cs.drop (i + 1)) : Nat) : Int) by omega]
    · obtain ⟨v, hv⟩ := I2 (by omega)
      refine ⟨v, ?_⟩
      refine zh Tryz.func255 rfl rfl ?_
      simp (disch := omega) only [↓GO, ↓DRW, GA, GX, ren, zm, z8, refs, z7, cst, zo, isC, bin, una, z6, zc, blt, asArg, ze, zb, zf, z1, E.mkS, unN, zd, zn, za, GS, simprocAttr, zF.zx, c, hget, zi, hcall, c2, e1]
      exact hv
theorem Uw (cs : List zF) (hl : cs.length ≤ 9223372036854775807) (hc : ∀ c ∈ cs, Sy c) (n : Int) (h0 : 0 ≤ n) (h1 : n ≤ 1048576) :
 zk (EV Tryz.prog pol) 255 [.t (.list 2 (zF.zA cs)), .t (.int .i64 n)] = some (.t (.int .i64 (left n (cs.length + zF.zL cs)))) := by
 apply zq
 refine zr rfl Tryz.func255 rfl (by kernel_rfl) ?_
 unfold Tryz.f255
 by_cases hneg : n - (cs.length : Int) < 0
 · have c2 : decide (n - (cs.length : Int) < 0) = true := by simpa using hneg
   simp (disch := omega) only [↓GO, ↓DRW, GA, GX, ren, zm, z8, refs, z7, cst, zo, isC, bin, una, z6, zc, blt, asArg, ze, zb, zf, z1, E.mkS, unN, zd, zn, za, GS, simprocAttr, zF.zx, zi, c2]
   rw [left, if_pos (by omega)]
 · have c2 : decide (n - (cs.length : Int) < 0) = false := by simpa using hneg
   obtain ⟨I1, I2⟩ := eU cs hl hc cs.length 0 (n - (cs.length : Int)) (by omega) (by omega) (by omega) (by omega)
   simp only [List.drop_zero, Int.natCast_zero] at I1 I2
   by_cases hn2 : n - (cs.length : Int) - (zF.zL cs : Int) < 0
   · obtain ⟨v, hv⟩ := I2 hn2
     simp (disch := omega) only [↓GO, ↓DRW, GA, GX, ren, zm, z8, refs, z7, cst, zo, isC, bin, una, z6, zc, blt, asArg, ze, zb, zf, z1, E.mkS, unN, zd, zn, za, GS, simprocAttr, zF.zx, zi, c2, hv]
     rw [left, if_pos (by omega)]
   · simp (disch := omega) only [↓GO, ↓DRW, GA, GX, ren, zm, z8, refs, z7, cst, zo, isC, bin, una, z6, zc, blt, asArg, ze, zb, zf, z1, E.mkS, unN, zd, zn, za, GS, simprocAttr, zF.zx, zi, c2, I1 (by omega)]
     rw [left, if_neg (by omega), show n - (cs.length : Int) - (zF.zL cs : Int) = n - ((cs.length + zF.zL cs : Nat) : Int) by omega]
def cq (x : zF) : Prop := zk (EV Tryz.prog pol) 312 [.agg (x.enc.map .t)] = some (.agg (x.enc.map .t))
theorem RM (x : zF) (ho : x.zO ≤ 1048576) : cq x := by
 obtain ⟨alg, bytes⟩ := x
 simp only [zF.zO] at ho
 simp only [cq, zF.enc, List.map_cons, List.map_nil]
 apply zq
 refine zr rfl Tryz.func312 rfl (by kernel_rfl) ?_
 unfold Tryz.f312
 simp only [↓GO, ↓DRW, GA, GX, ren, zm, z8, refs, z7, cst, zo, isC, bin, una, z6, zc, blt, asArg, ze, zb, zf, z1, E.mkS, unN, zd, zn, za, GS, simprocAttr]
def VC : List T := [.str [], .str []]
theorem eT (cs : List zF) (hl : cs.length ≤ 1048576) (hc : ∀ c ∈ cs, cq c) : ∀ (d i : Nat), cs.length - i = d → i ≤ cs.length →
 EV Tryz.prog pol (.loop 259 58 0 [.t (.list 2 (zF.zA cs)), .sl 0 0 cs.length (some cs.length), .t (.int .i64 (i : Int))] [.ts 2 (vC (zF.zA cs) VC i)]) = some (.loop (.exit 0) [.sl 0 0 cs.length (some cs.length)] [.ts 2 (zF.zA cs)])
 | 0, i, hd, hi => by
  have hi' : i = cs.length := by omega
  subst hi'
  refine zh Tryz.func259 rfl rfl ?_
  have c : decide (((cs.length : Nat) : Int) < ((cs.length : Nat) : Int)) = false := by simp
  have hf : vC (zF.zA cs) VC cs.length = zF.zA cs := by rw [← zF.zx cs]; exact jr _ _
  simp only [↓GO, ↓DRW, GA, GX, ren, zm, z8, refs, z7, cst, zo, isC, bin, una, z6, zc, blt, asArg, ze, zb, zf, z1, E.mkS, unN, zd, zn, za, GS, simprocAttr, zF.zx, c, hf]
 | d + 1, i, hd, hi => by
  have hlt : i < cs.length := by omega
  have hlt' : i < (zF.zA cs).length := by rw [zF.zx]; exact hlt
  have c : decide ((i : Int) < ((cs.length : Nat) : Int)) = true := by simp; omega
  have c0 : decide ((0 : Int) ≤ (i : Int)) = true := by simp
  have IH := eT cs hl hc d (i + 1) (by omega) (by omega)
  have e1 : (i : Int) + 1 = ((i + 1 : Nat) : Int) := by omega
  have hg : (vC (zF.zA cs) VC i)[i]? = some [.str [], .str []] := jq (zF.zA cs) VC i hlt'
  have hs := jo (zF.zA cs) VC i hlt'
  have hx : (zF.zA cs)[i] = cs[i].enc := by simp [zF.zA]
  rw [hx] at hs
  have hcall := hc _ (List.getElem_mem hlt)
  have hget := zF.yR cs i hlt
  generalize hci : cs[i] = ci at hcall hget hs
  obtain ⟨alg, bytes⟩ := ci
  simp only [cq, zF.enc, List.map_cons, List.map_nil] at hcall hget hs
  refine zh Tryz.func259 rfl rfl ?_
  simp (disch := omega) only [↓GO, ↓DRW, GA, GX, ren, zm, z8, refs, z7, cst, zo, isC, bin, una, z6, zc, blt, asArg, ze, zb, zf, z1, E.mkS, unN, zd, zn, za, GS, simprocAttr, zF.zx, c, c0, hget, zi, e1, hg, Int.toNat_natCast, hcall, hs]
  exact IH
def cr (x : zF) : Prop := zk (EV Tryz.prog pol) 321 [.agg (x.enc.map .t), .agg (x.enc.map .t)] = some (.t (.bool true))
theorem Q3 (x : zF) (ho : x.zO ≤ 4194304) : cr x := by
 obtain ⟨alg, bytes⟩ := x
 simp only [zF.zO] at ho
 simp only [cr, zF.enc, List.map_cons, List.map_nil]
 apply zq
 refine zr rfl Tryz.func321 rfl (by kernel_rfl) ?_
 unfold Tryz.f321
 simp only [↓GO, ↓DRW, GA, GX, ren, zm, z8, refs, z7, cst, zo, isC, bin, una, z6, zc, blt, asArg, ze, zb, zf, z1, E.mkS, unN, zd, zn, za, GS, simprocAttr, bne_self_eq_false]
theorem eZ (cs : List zF) (hl : cs.length ≤ 4194304) (hc : ∀ c ∈ cs, cr c) : ∀ (d i : Nat), cs.length - i = d → i ≤ cs.length →
 EV Tryz.prog pol (.loop 261 58 0 [.t (.list 2 (zF.zA cs)), .t (.list 2 (zF.zA cs)), .t (.int .i64 (i : Int))] []) = some (.loop (.exit 0) [.bad] [])
 | 0, i, hd, hi => by
  have hi' : i = cs.length := by omega
  subst hi'
  refine zh Tryz.func261 rfl rfl ?_
  have c : decide (((cs.length : Nat) : Int) < ((cs.length : Nat) : Int)) = false := by simp
  simp only [↓GO, ↓DRW, GA, GX, ren, zm, z8, refs, z7, cst, zo, isC, bin, una, z6, zc, blt, asArg, ze, zb, zf, z1, E.mkS, unN, zd, zn, za, GS, simprocAttr, zF.zx, c]
 | d + 1, i, hd, hi => by
  have hlt : i < cs.length := by omega
  have c : decide ((i : Int) < ((cs.length : Nat) : Int)) = true := by simp; omega
  have IH := eZ cs hl hc d (i + 1) (by omega) (by omega)
  have e1 : (i : Int) + 1 = ((i + 1 : Nat) : Int) := by omega
  have hcall := hc _ (List.getElem_mem hlt)
  have hget := zF.yR cs i hlt
  generalize hci : cs[i] = ci at hcall hget
  obtain ⟨alg, bytes⟩ := ci
  simp only [cr, zF.enc, List.map_cons, List.map_nil] at hcall hget
  refine zh Tryz.func261 rfl rfl ?_
  simp (disch := omega) only [↓GO, ↓DRW, GA, GX, ren, zm, z8, refs, z7, cst, zo, isC, bin, una, z6, zc, blt, asArg, ze, zb, zf, z1, E.mkS, unN, zd, zn, za, GS, simprocAttr, zF.zx, c, hget, zi, e1, hcall]
  exact IH
theorem UF (cs : List zF) (hl : cs.length ≤ 4194304) (hc : ∀ c ∈ cs, cr c) : zk (EV Tryz.prog pol) 261 [.t (.list 2 (zF.zA cs)), .t (.list 2 (zF.zA cs))] = some (.t (.bool true)) := by
 apply zq
 refine zr rfl Tryz.func261 rfl (by kernel_rfl) ?_
 unfold Tryz.f261
 have IH := eZ cs hl hc cs.length 0 (by omega) (by omega)
 simp only [Int.natCast_zero] at IH
 simp only [↓GO, ↓DRW, GA, GX, ren, zm, z8, refs, z7, cst, zo, isC, bin, una, z6, zc, blt, asArg, ze, zb, zf, z1, E.mkS, unN, zd, zn, za, GS, simprocAttr, zF.zx, IH, bne_self_eq_false]
structure zg where
 name : List UInt8
 version : List UInt8
 source : List UInt8
 sums : List zF
 dev : Bool
 needs : List (List UInt8)
def zg.enc (x : zg) : List T := [.str x.name, .str x.version, .str x.source, .list 2 (zF.zA x.sums), .bool x.dev, .list 1 (strs x.needs)]
def zg.zA (l : List zg) : List (List T) := l.map zg.enc
def zg.zO (x : zg) : Nat := x.name.length + x.version.length + x.source.length + (x.sums.length + zF.zL x.sums) + (x.needs.length + ya x.needs)
def zg.zL : List zg → Nat
 | [] => 0
 | c :: cs => zg.zO c + zg.zL cs
def zg.ok (x : zg) : Prop := x.name.length ≤ 9223372036854775807 ∧ x.version.length ≤ 9223372036854775807 ∧ x.source.length ≤ 9223372036854775807 ∧ x.sums.length ≤ 9223372036854775807 ∧ (∀ y ∈ x.sums, y.ok) ∧ x.needs.length ≤ 9223372036854775807 ∧ (∀ s ∈ x.needs, s.length ≤ 9223372036854775807)
theorem zg.vq (x : zg) : x.enc.length = 6 := rfl
theorem zg.wg (x : zg) : x.enc.take 6 = x.enc := rfl
theorem zg.zx (cs : List zg) : (zg.zA cs).length = cs.length := by simp [zg.zA]
theorem zg.yR (cs : List zg) (i : Nat) (h : i < cs.length) : (zg.zA cs)[i]? = some cs[i].enc := by simp [zg.zA, h]
theorem zg.x9 (cs : List zg) (i : Nat) (h : i < cs.length) : zg.zL (cs.drop i) = cs[i].zO + zg.zL (cs.drop (i + 1)) := by
 rw [List.drop_eq_getElem_cons h]; rfl
theorem zg.zY : ∀ {cs : List zg} {c : zg}, c ∈ cs → c.zO ≤ zg.zL cs
 | c' :: cs, c, h => by
  simp only [zg.zL]
  rcases List.mem_cons.1 h with rfl | h
  · omega
  · have := zg.zY h; omega
def aP (x : zg) : Prop := ∀ n : Int, 0 ≤ n → n ≤ 1048576 → zk (EV Tryz.prog pol) 189 [.agg (x.enc.map .t), .t (.int .i64 n)] = some (.t (.int .i64 (left n x.zO)))
theorem Ux (x : zg) (ho : x.ok) : aP x := by
 obtain ⟨name, version, source, sums, dev, needs⟩ := x
 intro n h0 h1
 simp only [zg.ok] at ho
 simp only [zg.enc, List.map_cons, List.map_nil]
 apply zq
 refine zr rfl Tryz.func189 rfl (by kernel_rfl) ?_
 unfold Tryz.f189
 have k_sums := Uw sums (by first | exact ho.1 | simp_all) (fun c hc => RP c (by simp_all))
 have k_needs := na needs (by first | exact ho.1 | simp_all) (by first | exact ho.2 | simp_all)
 repeat' (first | (((first | with_reducible refine tG (fun hA => ?_) (fun hA => ?_) | with_reducible refine tE (fun hA => ?_) (fun hA => ?_)) <;> (try simp only [bne, Bool.not_eq_true', Bool.not_eq_false'] at hA) <;> (first | (have hP := Int.le_of_eq (eq_of_beq (α := Int) hA); have hQ := Int.le_of_eq (eq_of_beq (α := Int) hA).symm) | have hP := of_decide_eq_true hA | have hP := of_decide_eq_false hA | skip)) <;> (simp (disch := ((try simp only [LL]); omega)) only [↓GO, ↓DRW, GA, GX, ren, zm, z8, refs, z7, cst, zo, isC, bin, una, z6, zc, blt, asArg, ze, zb, zf, z1, E.mkS, unN, zd, zn, za, GS, simprocAttr, zi, bne, rm, vo, k_sums, k_needs, *])) | (simp (disch := ((try simp only [LL]); omega)) only [↓GO, ↓DRW, GA, GX, ren, zm, z8, refs, z7, cst, zo, isC, bin, una, z6, zc, blt, asArg, ze, zb, zf, z1, E.mkS, unN, zd, zn, za, GS, simprocAttr, zi, bne, rm, vo, k_sums, k_needs, *]))
 all_goals (refine qb ?_; simp only [zg.zO, and_true]; omega)
theorem j7 (cs : List zg) (hl : cs.length ≤ 9223372036854775807) (hc : ∀ c ∈ cs, aP c) : ∀ (d i : Nat) (n : Int), cs.length - i = d → i ≤ cs.length → 0 ≤ n → n ≤ 1048576 →
 (0 ≤ n - (zg.zL (cs.drop i) : Int) → EV Tryz.prog pol (.loop 87 122 0 [.t (.list 6 (zg.zA cs)), .t (.int .i64 n), .t (.int .i64 (i : Int))] []) = some (.loop (.exit 0) [.t (.int .i64 (n - (zg.zL (cs.drop i) : Int))), .bad] [])) ∧
 (n - (zg.zL (cs.drop i) : Int) < 0 → ∃ v, EV Tryz.prog pol (.loop 87 122 0 [.t (.list 6 (zg.zA cs)), .t (.int .i64 n), .t (.int .i64 (i : Int))] []) = some (.loop .ret [v, .t (.int .i64 (-1))] []))
 | 0, i, n, hd, hi, h0, h1 => by
  have hi' : i = cs.length := by omega
  subst hi'
  have hb : zg.zL (cs.drop cs.length) = 0 := by simp [zg.zL]
  rw [hb]
  refine ⟨fun _ => ?_, fun h => by omega⟩
  refine zh Tryz.func87 rfl rfl ?_
  have c : decide (((cs.length : Nat) : Int) < ((cs.length : Nat) : Int)) = false := by simp
  simp only [↓GO, ↓DRW, GA, GX, ren, zm, z8, refs, z7, cst, zo, isC, bin, una, z6, zc, blt, asArg, ze, zb, zf, z1, E.mkS, unN, zd, zn, za, GS, simprocAttr, zg.zx, c]
  simp
 | d + 1, i, n, hd, hi, h0, h1 => by
  have hlt : i < cs.length := by omega
  rw [zg.x9 cs i hlt]
  have c : decide ((i : Int) < ((cs.length : Nat) : Int)) = true := by simp; omega
  have hcall := hc _ (List.getElem_mem hlt) n h0 h1
  have hget := zg.yR cs i hlt
  generalize hci : cs[i] = ci at hcall hget
  obtain ⟨name, version, source, sums, dev, needs⟩ := ci
  simp only [zg.enc, List.map_cons, List.map_nil] at hcall hget
  generalize hbu : (zg.mk name version source sums dev needs).zO = bu at hcall
  have IH := j7 cs hl hc d (i + 1) (n - (bu : Int)) (by omega) (by omega)
  have e1 : (i : Int) + 1 = ((i + 1 : Nat) : Int) := by omega
  by_cases hneg : n - (bu : Int) < 0
  · refine ⟨fun h => by omega, fun _ => ⟨.t (.int .i64 (-1)), ?_⟩⟩
    refine zh Tryz.func87 rfl rfl ?_
    have hle : left n bu = -1 := if_pos hneg
    rw [hle] at hcall
    simp (disch := omega) only [↓GO, ↓DRW, GA, GX, ren, zm, z8, refs, z7, cst, zo, isC, bin, una, z6, zc, blt, asArg, ze, zb, zf, z1, E.mkS, unN, zd, zn, za, GS, simprocAttr, zg.zx, c, hget, zi, hcall]
  · have hle : left n bu = n - (bu : Int) := if_neg hneg
    rw [hle] at hcall
    have c2 : decide (n - (bu : Int) < 0) = false := by simpa using hneg
    obtain ⟨I1, I2⟩ := IH (by omega) (by omega)
    refine ⟨fun h => ?_, fun h => ?_⟩
    · refine zh Tryz.func87 rfl rfl ?_
      simp (disch := omega) only [↓GO, ↓DRW, GA, GX, ren, zm, z8, refs, z7, cst, zo, isC, bin, una, z6, zc, blt, asArg, ze, zb, zf, z1, E.mkS, unN, zd, zn, za, GS, simprocAttr, zg.zx, c, hget, zi, hcall, c2, e1]
      rw [I1 (by omega), show n - (bu : Int) - (zg.zL (cs.drop (i + 1)) : Int) = n - ((bu + zg.zL (cs.drop (i + 1)) : Nat) : Int) by omega]
    · obtain ⟨v, hv⟩ := I2 (by omega)
      refine ⟨v, ?_⟩
      refine zh Tryz.func87 rfl rfl ?_
      simp (disch := omega) only [↓GO, ↓DRW, GA, GX, ren, zm, z8, refs, z7, cst, zo, isC, bin, una, z6, zc, blt, asArg, ze, zb, zf, z1, E.mkS, unN, zd, zn, za, GS, simprocAttr, zg.zx, c, hget, zi, hcall, c2, e1]
      exact hv
theorem Xw (cs : List zg) (hl : cs.length ≤ 9223372036854775807) (hc : ∀ c ∈ cs, aP c) (n : Int) (h0 : 0 ≤ n) (h1 : n ≤ 1048576) :
 zk (EV Tryz.prog pol) 87 [.t (.list 6 (zg.zA cs)), .t (.int .i64 n)] = some (.t (.int .i64 (left n (cs.length + zg.zL cs)))) := by
 apply zq
 refine zr rfl Tryz.func87 rfl (by kernel_rfl) ?_
 unfold Tryz.f87
 by_cases hneg : n - (cs.length : Int) < 0
 · have c2 : decide (n - (cs.length : Int) < 0) = true := by simpa using hneg
   simp (disch := omega) only [↓GO, ↓DRW, GA, GX, ren, zm, z8, refs, z7, cst, zo, isC, bin, una, z6, zc, blt, asArg, ze, zb, zf, z1, E.mkS, unN, zd, zn, za, GS, simprocAttr, zg.zx, zi, c2]
   rw [left, if_pos (by omega)]
 · have c2 : decide (n - (cs.length : Int) < 0) = false := by simpa using hneg
   obtain ⟨I1, I2⟩ := j7 cs hl hc cs.length 0 (n - (cs.length : Int)) (by omega) (by omega) (by omega) (by omega)
   simp only [List.drop_zero, Int.natCast_zero] at I1 I2
   by_cases hn2 : n - (cs.length : Int) - (zg.zL cs : Int) < 0
   · obtain ⟨v, hv⟩ := I2 hn2
     simp (disch := omega) only [↓GO, ↓DRW, GA, GX, ren, zm, z8, refs, z7, cst, zo, isC, bin, una, z6, zc, blt, asArg, ze, zb, zf, z1, E.mkS, unN, zd, zn, za, GS, simprocAttr, zg.zx, zi, c2, hv]
     rw [left, if_pos (by omega)]
   · simp (disch := omega) only [↓GO, ↓DRW, GA, GX, ren, zm, z8, refs, z7, cst, zo, isC, bin, una, z6, zc, blt, asArg, ze, zb, zf, z1, E.mkS, unN, zd, zn, za, GS, simprocAttr, zg.zx, zi, c2, I1 (by omega)]
     rw [left, if_neg (by omega), show n - (cs.length : Int) - (zg.zL cs : Int) = n - ((cs.length + zg.zL cs : Nat) : Int) by omega]
def lQ (x : zg) : Prop := zk (EV Tryz.prog pol) 202 [.agg (x.enc.map .t), .agg (x.enc.map .t)] = some (.t (.bool true))
theorem UG (x : zg) (ho : x.zO ≤ 4194304) : lQ x := by
 obtain ⟨name, version, source, sums, dev, needs⟩ := x
 simp only [zg.zO] at ho
 simp only [lQ, zg.enc, List.map_cons, List.map_nil]
 apply zq
 refine zr rfl Tryz.func202 rfl (by kernel_rfl) ?_
 unfold Tryz.f202
 simp only [↓GO, ↓DRW, GA, GX, ren, zm, z8, refs, z7, cst, zo, isC, bin, una, z6, zc, blt, asArg, ze, zb, zf, z1, E.mkS, unN, zd, zn, za, GS, simprocAttr, bne_self_eq_false, UF sums (by omega) (fun c hc => Q3 c (by have := zF.zY hc; omega)), nd needs (by omega)]
theorem j8 (cs : List zg) (hl : cs.length ≤ 4194304) (hc : ∀ c ∈ cs, lQ c) : ∀ (d i : Nat), cs.length - i = d → i ≤ cs.length →
 EV Tryz.prog pol (.loop 101 58 0 [.t (.list 6 (zg.zA cs)), .t (.list 6 (zg.zA cs)), .t (.int .i64 (i : Int))] []) = some (.loop (.exit 0) [.bad] [])
 | 0, i, hd, hi => by
  have hi' : i = cs.length := by omega
  subst hi'
  refine zh Tryz.func101 rfl rfl ?_
  have c : decide (((cs.length : Nat) : Int) < ((cs.length : Nat) : Int)) = false := by simp
  simp only [↓GO, ↓DRW, GA, GX, ren, zm, z8, refs, z7, cst, zo, isC, bin, una, z6, zc, blt, asArg, ze, zb, zf, z1, E.mkS, unN, zd, zn, za, GS, simprocAttr, zg.zx, c]
 | d + 1, i, hd, hi => by
  have hlt : i < cs.length := by omega
  have c : decide ((i : Int) < ((cs.length : Nat) : Int)) = true := by simp; omega
  have IH := j8 cs hl hc d (i + 1) (by omega) (by omega)
  have e1 : (i : Int) + 1 = ((i + 1 : Nat) : Int) := by omega
  have hcall := hc _ (List.getElem_mem hlt)
  have hget := zg.yR cs i hlt
  generalize hci : cs[i] = ci at hcall hget
  obtain ⟨name, version, source, sums, dev, needs⟩ := ci
  simp only [lQ, zg.enc, List.map_cons, List.map_nil] at hcall hget
  refine zh Tryz.func101 rfl rfl ?_
  simp (disch := omega) only [↓GO, ↓DRW, GA, GX, ren, zm, z8, refs, z7, cst, zo, isC, bin, una, z6, zc, blt, asArg, ze, zb, zf, z1, E.mkS, unN, zd, zn, za, GS, simprocAttr, zg.zx, c, hget, zi, e1, hcall]
  exact IH
theorem Xy (cs : List zg) (hl : cs.length ≤ 4194304) (hc : ∀ c ∈ cs, lQ c) : zk (EV Tryz.prog pol) 101 [.t (.list 6 (zg.zA cs)), .t (.list 6 (zg.zA cs))] = some (.t (.bool true)) := by
 apply zq
 refine zr rfl Tryz.func101 rfl (by kernel_rfl) ?_
 unfold Tryz.f101
 have IH := j8 cs hl hc cs.length 0 (by omega) (by omega)
 simp only [Int.natCast_zero] at IH
 simp only [↓GO, ↓DRW, GA, GX, ren, zm, z8, refs, z7, cst, zo, isC, bin, una, z6, zc, blt, asArg, ze, zb, zf, z1, E.mkS, unN, zd, zn, za, GS, simprocAttr, zg.zx, IH, bne_self_eq_false]
structure zy where
 top : List (List UInt8)
 packs : List zg
def zy.enc (x : zy) : List T := [.list 1 (strs x.top), .list 6 (zg.zA x.packs)]
def zy.zA (l : List zy) : List (List T) := l.map zy.enc
def zy.zO (x : zy) : Nat := (x.top.length + ya x.top) + (x.packs.length + zg.zL x.packs)
def zy.zL : List zy → Nat
 | [] => 0
 | c :: cs => zy.zO c + zy.zL cs
def zy.ok (x : zy) : Prop := x.top.length ≤ 9223372036854775807 ∧ (∀ s ∈ x.top, s.length ≤ 9223372036854775807) ∧ x.packs.length ≤ 9223372036854775807 ∧ (∀ y ∈ x.packs, y.ok)
theorem zy.vq (x : zy) : x.enc.length = 2 := rfl
theorem zy.wg (x : zy) : x.enc.take 2 = x.enc := rfl
theorem zy.zx (cs : List zy) : (zy.zA cs).length = cs.length := by simp [zy.zA]
theorem zy.yR (cs : List zy) (i : Nat) (h : i < cs.length) : (zy.zA cs)[i]? = some cs[i].enc := by simp [zy.zA, h]
theorem zy.x9 (cs : List zy) (i : Nat) (h : i < cs.length) : zy.zL (cs.drop i) = cs[i].zO + zy.zL (cs.drop (i + 1)) := by
 rw [List.drop_eq_getElem_cons h]; rfl
theorem zy.zY : ∀ {cs : List zy} {c : zy}, c ∈ cs → c.zO ≤ zy.zL cs
 | c' :: cs, c, h => by
  simp only [zy.zL]
  rcases List.mem_cons.1 h with rfl | h
  · omega
  · have := zy.zY h; omega
def Qg (x : zy) : Prop := ∀ n : Int, 0 ≤ n → n ≤ 1048576 → zk (EV Tryz.prog pol) 15 [.agg (x.enc.map .t), .t (.int .i64 n)] = some (.t (.int .i64 (left n x.zO)))
theorem r6 (x : zy) (ho : x.ok) : Qg x := by
 obtain ⟨top, packs⟩ := x
 intro n h0 h1
 simp only [zy.ok] at ho
 simp only [zy.enc, List.map_cons, List.map_nil]
 apply zq
 refine zr rfl Tryz.func15 rfl (by kernel_rfl) ?_
 unfold Tryz.f15
 have k_top := na top (by first | exact ho.1 | simp_all) (by first | exact ho.2 | simp_all)
 have k_packs := Xw packs (by first | exact ho.1 | simp_all) (fun c hc => Ux c (by simp_all))
 repeat' (first | (((first | with_reducible refine tG (fun hA => ?_) (fun hA => ?_) | with_reducible refine tE (fun hA => ?_) (fun hA => ?_)) <;> (try simp only [bne, Bool.not_eq_true', Bool.not_eq_false'] at hA) <;> (first | (have hP := Int.le_of_eq (eq_of_beq (α := Int) hA); have hQ := Int.le_of_eq (eq_of_beq (α := Int) hA).symm) | have hP := of_decide_eq_true hA | have hP := of_decide_eq_false hA | skip)) <;> (simp (disch := ((try simp only [LL]); omega)) only [↓GO, ↓DRW, GA, GX, ren, zm, z8, refs, z7, cst, zo, isC, bin, una, z6, zc, blt, asArg, ze, zb, zf, z1, E.mkS, unN, zd, zn, za, GS, simprocAttr, zi, bne, rm, vo, k_top, k_packs, *])) | (simp (disch := ((try simp only [LL]); omega)) only [↓GO, ↓DRW, GA, GX, ren, zm, z8, refs, z7, cst, zo, isC, bin, una, z6, zc, blt, asArg, ze, zb, zf, z1, E.mkS, unN, zd, zn, za, GS, simprocAttr, zi, bne, rm, vo, k_top, k_packs, *]))
 all_goals (refine qb ?_; simp only [zy.zO, and_true]; omega)
def gn (x : zy) : Prop := zk (EV Tryz.prog pol) 23 [.agg (x.enc.map .t), .agg (x.enc.map .t)] = some (.t (.bool true))
theorem jN (x : zy) (ho : x.zO ≤ 4194304) : gn x := by
 obtain ⟨top, packs⟩ := x
 simp only [zy.zO] at ho
 simp only [gn, zy.enc, List.map_cons, List.map_nil]
 apply zq
 refine zr rfl Tryz.func23 rfl (by kernel_rfl) ?_
 unfold Tryz.f23
 simp only [↓GO, ↓DRW, GA, GX, ren, zm, z8, refs, z7, cst, zo, isC, bin, una, z6, zc, blt, asArg, ze, zb, zf, z1, E.mkS, unN, zd, zn, za, GS, simprocAttr, bne_self_eq_false, nd top (by omega), Xy packs (by omega) (fun c hc => UG c (by have := zg.zY hc; omega))]
end Go.Proofs.YtijninlbpifonaaGreatDoor
/- The seat's own facts: the conditions on the program. Conditions: none. -/
namespace Go.Proofs.YtijninlbpifonaaGreatDoor
open E
theorem Tryz.own : ownKnob Tryz.prog.godebug = none := by kernel_rfl
theorem Tryz.kids : Kids Tryz.prog (· < Tryz.prog.types.size) := kids_rows (by kernel_rfl) (by kernel_rfl)
theorem Tryz.full : ∀ t e, t < Tryz.prog.types.size → Tryz.prog.underlying t = some (.slice e) → 0 < Tryz.prog.cellsOf e := slices_full_of Tryz.prog (by kernel_rfl)
end Go.Proofs.YtijninlbpifonaaGreatDoor
/- What the laws' arguments are: Sum, Pack, Graph. Conditions: those of each lemma. -/
namespace Go.Proofs.YtijninlbpifonaaGreatDoor
open E
set_option linter.unusedSimpArgs false
set_option linter.unusedVariables false
set_option maxRecDepth 100000
theorem Yv {cs : List T} (h : WT Tryz.prog 22 cs) : ∃ ks, cs = [.list 1 (strs ks)] ∧ ks.length ≤ 9223372036854775807 ∧ ∀ x ∈ ks, x.length ≤ 9223372036854775807 := by
 obtain ⟨es, e1, e2, e3⟩ := h.lk Tryz.underlying22
 have k0 : Tryz.prog.cellsOf 9 = 1 := by kernel_rfl
 have key : ∀ es : List (List T), (∀ c ∈ es, WT Tryz.prog 9 c) → ∃ ks, es = strs ks ∧ ∀ x ∈ ks, x.length ≤ 9223372036854775807 := fun es => by
  induction es with
  | nil => exact fun _ => ⟨[], rfl, by simp⟩
  | cons c es ih =>
   intro h
   obtain ⟨ks, a1, a2⟩ := ih fun c' hc => h c' (by simp [hc])
   obtain ⟨l, a3, a4⟩ := (h c (by simp)).rn Tryz.underlying9
   exact ⟨l :: ks, by simp [strs, a1, a3], by simpa using ⟨a4, a2⟩⟩
 obtain ⟨ks, a1, a2⟩ := key es e3
 subst a1
 exact ⟨ks, by rw [e1, k0], by rw [zj] at e2; exact e2, a2⟩
theorem PA {cs : List T} (h : WT Tryz.prog 262 cs) : ∃ x : zF, cs = x.enc ∧ x.ok := by
 obtain ⟨hl, hs⟩ := h.qd Tryz.underlying262
 have k0 : Tryz.prog.cellsOf 262 = 2 := by kernel_rfl
 have k1 : Tryz.prog.cellsOf 9 = 1 := by kernel_rfl
 rw [k0] at hl
 match cs, hl with
 | [y0, y1], _ =>
  simp [k1] at hs
  obtain ⟨s0, s1⟩ := hs
  obtain ⟨v0, e0, o0⟩ := s0.rn Tryz.underlying9
  obtain ⟨v1, e1, o1⟩ := s1.rn Tryz.underlying9
  simp at e0 e1
  subst e0 e1
  exact ⟨⟨v0, v1⟩, rfl, ⟨o0, o1⟩⟩
theorem Qe {cs : List T} (h : WT Tryz.prog 170 cs) : ∃ l : List zF, cs = [.list 2 (zF.zA l)] ∧ l.length ≤ 9223372036854775807 ∧ ∀ y ∈ l, y.ok := by
 obtain ⟨es, e1, e2, e3⟩ := h.lk Tryz.underlying170
 have k0 : Tryz.prog.cellsOf 262 = 2 := by kernel_rfl
 have key : ∀ es : List (List T), (∀ c ∈ es, WT Tryz.prog 262 c) → ∃ l : List zF, es = zF.zA l ∧ ∀ y ∈ l, y.ok := fun es => by
  induction es with
  | nil => exact fun _ => ⟨[], rfl, by simp⟩
  | cons c es ih =>
   intro h
   obtain ⟨l, a1, a2⟩ := ih fun c' hc => h c' (by simp [hc])
   obtain ⟨x, a3, a4⟩ := PA (h c (by simp))
   exact ⟨x :: l, by simp [zF.zA, a1, a3], by simpa using ⟨a4, a2⟩⟩
 obtain ⟨l, a1, a2⟩ := key es e3
 subst a1
 exact ⟨l, by rw [e1, k0], by rw [zF.zx] at e2; exact e2, a2⟩
theorem Qf {cs : List T} (h : WT Tryz.prog 172 cs) : ∃ x : zg, cs = x.enc ∧ x.ok := by
 obtain ⟨hl, hs⟩ := h.qd Tryz.underlying172
 have k0 : Tryz.prog.cellsOf 172 = 6 := by kernel_rfl
 have k1 : Tryz.prog.cellsOf 170 = 1 := by kernel_rfl
 have k2 : Tryz.prog.cellsOf 22 = 1 := by kernel_rfl
 have k3 : Tryz.prog.cellsOf 4 = 1 := by kernel_rfl
 have k4 : Tryz.prog.cellsOf 9 = 1 := by kernel_rfl
 rw [k0] at hl
 match cs, hl with
 | [y0, y1, y2, y3, y4, y5], _ =>
  simp [k1, k2, k3, k4] at hs
  obtain ⟨s0, s1, s2, s3, s4, s5⟩ := hs
  obtain ⟨v0, e0, o0⟩ := s0.rn Tryz.underlying9
  obtain ⟨v1, e1, o1⟩ := s1.rn Tryz.underlying9
  obtain ⟨v2, e2, o2⟩ := s2.rn Tryz.underlying9
  obtain ⟨v3, e3, o3, o3'⟩ := Qe s3
  obtain ⟨v4, e4⟩ := s4.U9 Tryz.underlying4
  obtain ⟨v5, e5, o5, o5'⟩ := Yv s5
  simp at e0 e1 e2 e3 e4 e5
  subst e0 e1 e2 e3 e4 e5
  exact ⟨⟨v0, v1, v2, v3, v4, v5⟩, rfl, ⟨o0, o1, o2, o3, o3', o5, o5'⟩⟩
theorem UZ {cs : List T} (h : WT Tryz.prog 23 cs) : ∃ l : List zg, cs = [.list 6 (zg.zA l)] ∧ l.length ≤ 9223372036854775807 ∧ ∀ y ∈ l, y.ok := by
 obtain ⟨es, e1, e2, e3⟩ := h.lk Tryz.underlying23
 have k0 : Tryz.prog.cellsOf 172 = 6 := by kernel_rfl
 have key : ∀ es : List (List T), (∀ c ∈ es, WT Tryz.prog 172 c) → ∃ l : List zg, es = zg.zA l ∧ ∀ y ∈ l, y.ok := fun es => by
  induction es with
  | nil => exact fun _ => ⟨[], rfl, by simp⟩
  | cons c es ih =>
   intro h
   obtain ⟨l, a1, a2⟩ := ih fun c' hc => h c' (by simp [hc])
   obtain ⟨x, a3, a4⟩ := Qf (h c (by simp))
   exact ⟨x :: l, by simp [zg.zA, a1, a3], by simpa using ⟨a4, a2⟩⟩
 obtain ⟨l, a1, a2⟩ := key es e3
 subst a1
 exact ⟨l, by rw [e1, k0], by rw [zg.zx] at e2; exact e2, a2⟩
theorem cf {cs : List T} (h : WT Tryz.prog 25 cs) : ∃ x : zy, cs = x.enc ∧ x.ok := by
 obtain ⟨hl, hs⟩ := h.qd Tryz.underlying25
 have k0 : Tryz.prog.cellsOf 25 = 2 := by kernel_rfl
 have k1 : Tryz.prog.cellsOf 23 = 1 := by kernel_rfl
 have k2 : Tryz.prog.cellsOf 22 = 1 := by kernel_rfl
 rw [k0] at hl
 match cs, hl with
 | [y0, y1], _ =>
  simp [k1, k2] at hs
  obtain ⟨s0, s1⟩ := hs
  obtain ⟨v0, e0, o0, o0'⟩ := Yv s0
  obtain ⟨v1, e1, o1, o1'⟩ := UZ s1
  simp at e0 e1
  subst e0 e1
  exact ⟨⟨v0, v1⟩, rfl, ⟨o0, o0', o1, o1'⟩⟩
end Go.Proofs.YtijninlbpifonaaGreatDoor
/- The laws' own functions over trees: sizes, comparisons. Conditions: those of each lemma. -/
namespace Go.Proofs.YtijninlbpifonaaGreatDoor
open E
set_option linter.unusedSimpArgs false
set_option linter.unusedVariables false
set_option maxRecDepth 100000
end Go.Proofs.YtijninlbpifonaaGreatDoor
/- Lists that own their memory, as rows; trees laid anew. Conditions: those of each lemma. -/
namespace Go.Proofs.YtijninlbpifonaaGreatDoor
open E
set_option linter.unusedSimpArgs false
set_option linter.unusedVariables false
set_option maxRecDepth 100000
theorem zD (h : Heap) (ids : List Nat) : reach h 3 ids = uo h 3 ids := (sS h 3 ids).symm
/-- a row whose lists are owned -/
def ocE (es : List (List T)) : List (List V) := es.map fun e => e.map oc
theorem qZ (es : List (List T)) : (ocE es).length = es.length := by simp [ocE]
theorem Zj (a b : List (List T)) : ocE (a ++ b) = ocE a ++ ocE b := by simp [ocE]
theorem so (x : List T) (b : List (List T)) : ocE (x :: b) = x.map oc :: ocE b := rfl
theorem Zi : ocE [] = [] := rfl
theorem R2 (x : T) : refs (oc x) = [] := by cases x <;> rfl
theorem eF : ∀ e : List T, refs.refss (e.map oc) = []
 | [] => rfl
 | x :: e => by simp only [List.map_cons, refs.refss, R2, eF e, List.nil_append]
theorem yQ : ∀ es : List (List T), (ocE es).flatMap refs.refss = []
 | [] => rfl
 | e :: es => by rw [so, List.flatMap_cons, eF, yQ es]; rfl
theorem P4 (m : Nat → Option Nat) (x : T) : ren m (oc x) = oc x := by cases x <;> rfl
theorem Zh (m : Nat → Option Nat) : ∀ e : List T, ren.rens m (e.map oc) = e.map oc
 | [] => rfl
 | x :: e => by simp only [List.map_cons, ren.rens, P4, Zh m e]
theorem xt (m : Nat → Option Nat) : ∀ es : List (List T), (ocE es).map (ren.rens m) = ocE es
 | [] => rfl
 | e :: es => by rw [so, List.map_cons, Zh, xt m es]
theorem l0 (z : List V) (hz : refs.refss z = []) : ∀ k, (List.replicate k z).flatMap refs.refss = []
 | 0 => rfl
 | k + 1 => by rw [List.replicate_succ, List.flatMap_cons, hz, l0 z hz k]; rfl
theorem Z8 (m : Nat → Option Nat) (z : List V) (hz : ren.rens m z = z) (k : Nat) : (List.replicate k z).map (ren.rens m) = List.replicate k z := by rw [List.map_replicate, hz]
theorem pd {α : Type} (A B : List α) (x : α) (n : Nat) (h : A.length = n) : (A ++ x :: B)[n]? = some x := by
 rw [List.getElem?_append_right (by omega), h, Nat.sub_self]; rfl
theorem pc {α : Type} (A B : List α) (x y : α) (n : Nat) (h : A.length = n) : (A ++ x :: B).set n y = A ++ y :: B := by
 rw [List.set_append_right _ _ (by omega), h, Nat.sub_self]; rfl
theorem gv_oc (x : T) : gvC (oc x) = some x := by cases x <;> rfl
theorem S5 : ∀ e : List T, cz (e.map oc) = some e
 | [] => rfl
 | x :: e => by simp only [List.map_cons, cz, gv_oc, S5 e]
theorem S6 : ∀ es : List (List T), gvE (ocE es) = some es
 | [] => rfl
 | e :: es => by rw [so]; simp only [gvE, S5, S6 es]
theorem VN (h : Heap) (x : T) : ze h (oc x) = some x := by cases x <;> rfl
theorem fY (h : Heap) : ∀ e : List T, xu h (e.map oc) = some e
 | [] => rfl
 | x :: e => by simp only [List.map_cons, xu, VN, fY h e]
theorem mU (h : Heap) : ∀ es : List (List T), vV h (ocE es) = some es
 | [] => rfl
 | e :: es => by rw [so]; simp only [vV, fY, mU h es]
theorem tj : ∀ l : List Str, tQ (strs l) = true
 | [] => rfl
 | x :: l => by
  have := tj l
  unfold tQ strs at this ⊢
  rw [List.map_cons, List.all_cons, this]; rfl
theorem ly (ks : List Str) (hl : ks.length ≤ 1048576) : EV Tryz.prog pol (.callO false 21 [.t (.list 1 (strs ks))] []) = some (.call (.sl 0 0 ks.length (some ks.length)) [.ts 1 (strs ks)]) := by
 refine yf Tryz.func21 rfl (by kernel_rfl) ?_
 unfold Tryz.f21
 have h1 : ¬ ((ks.length : Int) < 0) := by omega
 have h2 : ¬ (ks.length * 16 > 140737488355328) := by omega
 have h3 : ¬ (ks.length > 140737488355328) := by omega
 have hz : List.replicate ks.length [T.str []] = vC (strs ks) [.str []] 0 := by rw [mA, zj]
 have IH := oI ks hl ks.length 0 (by omega) (by omega)
 simp only [Int.natCast_zero] at IH
 simp (disch := omega) only [↓GO, ↓DRW, GA, GX, ren, zm, z8, refs, z7, cst, zo, isC, bin, una, z6, zc, blt, asArg, ze, zb, zf, z1, E.mkS, unN, zd, zn, za, GS, simprocAttr, zj, Int.toNat_natCast, h1, h2, h3, hz, IH, ne_eq, not_true_eq_false]
end Go.Proofs.YtijninlbpifonaaGreatDoor
/- Trees laid anew; marks. Conditions: those of each lemma. -/
namespace Go.Proofs.YtijninlbpifonaaGreatDoor
open E
set_option linter.unusedSimpArgs false
set_option linter.unusedVariables false
set_option maxRecDepth 100000
def mkD : Nat → Nat → Str → Str
 | 0, _, out => out
 | n + 1, k, out => if k = 0 then out else mkD n (k / 10) (UInt8.ofNat (48 + k % 10) :: out)
/-- a number's mark -/
def mkT (k : Nat) : Str := if k = 0 then [109, 48] else 109 :: mkD k k []
theorem QA : ∀ (n k : Nat) (out : Str), k ≤ n → k ≤ 9223372036854775807 → out.length + k ≤ 9223372036854775000 →
 EV Tryz.prog pol (.loop 120 60 0 [.t (.int .i64 (k : Int)), .t (.str out)] []) = some (.loop (.exit 0) [.t (.str (mkD n k out))] [])
 | n, 0, out, h, h1, h2 => by
  have e : mkD n 0 out = out := by cases n <;> simp [mkD]
  rw [e]
  refine zh Tryz.func120 rfl rfl ?_
  simp (disch := ((try simp only [LL]); omega)) only [↓GO, ↓DRW, GA, GX, ren, zm, z8, refs, z7, cst, zo, isC, bin, una, z6, zc, blt, asArg, ze, zb, zf, z1, E.mkS, unN, zd, zn, za, GS, simprocAttr, GZ, Int.natCast_zero]
 | 0, k + 1, out, h, h1, h2 => by omega
 | n + 1, k + 1, out, h, h1, h2 => by
  generalize hm : k + 1 = x at *
  have c : decide (((x : Nat) : Int) > 0) = true := by apply decide_eq_true; omega
  have e1 : ((x : Nat) : Int).tmod 10 = ((x % 10 : Nat) : Int) := (Int.ofNat_tmod x 10).symm
  have e2 : ((x : Nat) : Int).tdiv 10 = ((x / 10 : Nat) : Int) := (Int.ofNat_tdiv x 10).symm
  have hd : x % 10 < 10 := Nat.mod_lt _ (by omega)
  have IH := QA n (x / 10) (UInt8.ofNat (48 + x % 10) :: out) (by omega) (by omega) (by simp only [List.length_cons]; omega)
  have ex : mkD (n + 1) x out = mkD n (x / 10) (UInt8.ofNat (48 + x % 10) :: out) := by rw [mkD, if_neg (by omega)]
  rw [ex]
  have w1 : IntKind.i64.wrap (48 + ((x % 10 : Nat) : Int)) = ((48 + x % 10 : Nat) : Int) := by rw [zi (by omega)]; omega
  have w3 : IntKind.u8.wrap ((48 + x % 10 : Nat) : Int) = ((48 + x % 10 : Nat) : Int) := by
   have key : ∀ n : Fin 256, IntKind.u8.wrap (n.val : Int) = (n.val : Int) := by decide +kernel
   exact key ⟨48 + x % 10, by omega⟩
  have w2 : IntKind.i64.wrap ((x / 10 : Nat) : Int) = ((x / 10 : Nat) : Int) := zi (by omega)
  refine zh Tryz.func120 rfl rfl ?_
  simp (disch := ((try simp only [LL]); omega)) only [↓GO, ↓DRW, GA, GX, ren, zm, z8, refs, z7, cst, zo, isC, bin, una, z6, zc, blt, asArg, ze, zb, zf, z1, E.mkS, unN, zd, zn, za, GS, simprocAttr, GZ, c, e1, e2, w1, w2, w3, conv, wH, bytesOf, Int.toNat_natCast, List.singleton_append, xf, IH]
end Go.Proofs.YtijninlbpifonaaGreatDoor
/- Marks in lists of texts, in trees. Conditions: those of each lemma. -/
namespace Go.Proofs.YtijninlbpifonaaGreatDoor
open E
set_option linter.unusedSimpArgs false
set_option linter.unusedVariables false
set_option maxRecDepth 100000
theorem kD : strs [] = [] := rfl
theorem tU (k : Nat) (h : k ≤ 1099511627776) : zk (EV Tryz.prog pol) 120 [.t (.int .i64 (k : Int))] = some (.t (.str (mkT k))) := by
 have L := QA k k [] (Nat.le_refl _) (by omega) (by simp; omega)
 have hlen : (mkD k k []).length ≤ k := by
  have key : ∀ (n x : Nat) (out : Str), (mkD n x out).length ≤ n + out.length := fun n => by
   induction n with
   | zero => intro x out; simp [mkD]
   | succ n ih =>
    intro x out
    rw [mkD]
    split
    · omega
    · have := ih (x / 10) (UInt8.ofNat (48 + x % 10) :: out); simp only [List.length_cons] at this; omega
  have := key k k []; simpa using this
 unfold mkT
 by_cases h0 : k = 0
 · subst h0
   have c : decide (((0 : Nat) : Int) ≤ 0) = true := by decide
   rw [if_pos rfl]
   apply zq
   refine zr rfl Tryz.func120 rfl (by kernel_rfl) ?_
   unfold Tryz.f120
   simp (disch := ((try simp only [LL]); omega)) only [↓GO, ↓DRW, GA, GX, ren, zm, z8, refs, z7, cst, zo, isC, bin, una, z6, zc, blt, asArg, ze, zb, zf, z1, E.mkS, unN, zd, zn, za, GS, simprocAttr, GZ, c, Int.natCast_zero]
 · have c : decide (((k : Nat) : Int) ≤ 0) = false := by apply decide_eq_false; omega
   rw [if_neg h0]
   generalize mkD k k [] = ms at *
   apply zq
   refine zr rfl Tryz.func120 rfl (by kernel_rfl) ?_
   unfold Tryz.f120
   simp (disch := ((try simp only [LL]); omega)) only [↓GO, ↓DRW, GA, GX, ren, zm, z8, refs, z7, cst, zo, isC, bin, una, z6, zc, blt, asArg, ze, zb, zf, z1, E.mkS, unN, zd, zn, za, GS, simprocAttr, GZ, c, L, List.singleton_append, List.cons_append, List.nil_append, xf]
def mkS : Nat → Nat → List Str
 | 0, _ => []
 | n + 1, k => mkT k :: mkS n (k + 1)
theorem iZ : ∀ n k, (mkS n k).length = n
 | 0, _ => rfl
 | n + 1, k => by rw [mkS, List.length_cons, iZ n (k + 1)]
theorem eO : ∀ n k, mkS (n + 1) k = mkS n k ++ [mkT (k + n)]
 | 0, k => rfl
 | n + 1, k => by
  rw [mkS, eO n (k + 1), mkS, List.cons_append, show k + 1 + n = k + (n + 1) by omega]
theorem ZG (ks : List Str) (hl : ks.length ≤ 134217728) (cap : Option Nat) (k : Nat) (hk : k ≤ 1073741824) : ∀ (rest pre : List Str), ks = pre ++ rest →
 EV Tryz.prog pol (.loop 77 26 1 [.sl 0 0 ks.length cap, .t (.int .i64 ((k + pre.length : Nat) : Int)), .t (.int .i64 (pre.length : Int))] [.ts 1 (strs (mkS pre.length k) ++ strs rest)])
  = some (.loop (.exit 0) [.t (.int .i64 ((k + ks.length : Nat) : Int))] [.ts 1 (strs (mkS ks.length k))])
 | [], pre, hs => by
  have c : decide ((pre.length : Int) < (ks.length : Int)) = false := by simp [hs]
  have e : ks = pre := by simpa using hs
  simp only [kD, List.append_nil]
  refine zh Tryz.func77 rfl rfl ?_
  simp (disch := ((try simp only [LL]); omega)) only [↓GO, ↓DRW, GA, GX, ren, zm, z8, refs, z7, cst, zo, isC, bin, una, z6, zc, blt, asArg, ze, zb, zf, z1, E.mkS, unN, zd, zn, za, GS, simprocAttr, GZ, c]
  rw [e]
 | x :: rest, pre, hs => by
  have c : decide ((pre.length : Int) < (ks.length : Int)) = true := by simp [hs]; omega
  have c0 : decide ((0 : Int) ≤ (pre.length : Int)) = true := by simp
  have hlen : pre.length + rest.length + 1 ≤ ks.length := by rw [hs]; simp; omega
  have hm := tU (k + pre.length) (by omega)
  have IH := ZG ks hl cap k hk rest (pre ++ [x]) (by rw [hs]; simp)
  rw [show (pre ++ [x]).length = pre.length + 1 by simp, eO, show strs (mkS pre.length k ++ [mkT (k + pre.length)]) = strs (mkS pre.length k) ++ [[.str (mkT (k + pre.length))]] by simp [strs], List.append_assoc, List.cons_append, List.nil_append] at IH
  rw [show k + (pre.length + 1) = k + pre.length + 1 by omega] at IH
  have w : IntKind.i64.wrap (((k + pre.length : Nat) : Int) + 1) = ((k + pre.length + 1 : Nat) : Int) := by rw [zi (by omega)]; omega
  have w2 : IntKind.i64.wrap ((pre.length : Int) + 1) = ((pre.length + 1 : Nat) : Int) := by rw [zi (by omega)]; omega
  have hAl : (strs (mkS pre.length k)).length = pre.length := by rw [zj, iZ]
  rw [show strs (x :: rest) = [.str x] :: strs rest from rfl]
  have hg1 := fun y => pd (strs (mkS pre.length k)) (strs rest) y pre.length hAl
  have hs1 := fun y z => pc (strs (mkS pre.length k)) (strs rest) y z pre.length hAl
  clear hs
  generalize strs (mkS pre.length k) = A at *
  generalize mkT (k + pre.length) = mt at *
  generalize k + pre.length = kp at *
  refine zh Tryz.func77 rfl rfl ?_
  simp (disch := ((try simp only [LL]); omega)) only [↓GO, ↓DRW, GA, GX, ren, zm, z8, refs, z7, cst, zo, isC, bin, una, z6, zc, blt, asArg, ze, zb, zf, z1, E.mkS, unN, zd, zn, za, GS, simprocAttr, GZ, c, c0, if_true, Int.toNat_natCast, hm, hg1, hs1, w, w2, IH]
theorem Yk (ks : List Str) (hl : ks.length ≤ 134217728) (cap : Option Nat) (k : Nat) (hk : k ≤ 1073741824) (n : Nat) (hn : n = ks.length) :
 EV Tryz.prog pol (.callO false 77 [.sl 0 0 n cap, .t (.int .i64 (k : Int))] [.ts 1 (strs ks)]) = some (.call (.t (.int .i64 ((k + ks.length : Nat) : Int))) [.ts 1 (strs (mkS ks.length k))]) := by
 subst hn
 have L := ZG ks hl cap k hk ks [] rfl
 simp only [List.length_nil, Int.natCast_zero, mkS, kD, List.nil_append, Nat.add_zero] at L
 refine yf Tryz.func77 rfl (by kernel_rfl) ?_
 unfold Tryz.f77
 simp (disch := ((try simp only [LL]); omega)) only [↓GO, ↓DRW, GA, GX, ren, zm, z8, refs, z7, cst, zo, isC, bin, una, z6, zc, blt, asArg, ze, zb, zf, z1, E.mkS, unN, zd, zn, za, GS, simprocAttr, GZ, L]
end Go.Proofs.YtijninlbpifonaaGreatDoor
/- Marks in trees. Conditions: those of each lemma. -/
namespace Go.Proofs.YtijninlbpifonaaGreatDoor
open E
set_option linter.unusedSimpArgs false
set_option linter.unusedVariables false
set_option maxRecDepth 100000
end Go.Proofs.YtijninlbpifonaaGreatDoor
/- Marks in trees, all; marks found again. Conditions: those of each lemma. -/
namespace Go.Proofs.YtijninlbpifonaaGreatDoor
open E
set_option linter.unusedSimpArgs false
set_option linter.unusedVariables false
set_option maxRecDepth 100000
end Go.Proofs.YtijninlbpifonaaGreatDoor
/- Trees copied, by both. Conditions: those of each lemma. -/
namespace Go.Proofs.YtijninlbpifonaaGreatDoor
open E
set_option linter.unusedSimpArgs false
set_option linter.unusedVariables false
set_option maxRecDepth 100000
theorem yJ {α : Type} {b : Bool} {x y r : Option α} (h : b = true) (hx : x = r) : (if b = true then x else y) = r := by rw [h]; exact hx
theorem vz (a : List Tr) (x : Tr) : Tr.zA (a ++ [x]) = Tr.zA a ++ [x.enc] := by simp [Tr.nF]
end Go.Proofs.YtijninlbpifonaaGreatDoor
/- Trees copied by the implementation: their memory is their own; what stands under a key, by both. Conditions: those of each lemma. -/
namespace Go.Proofs.YtijninlbpifonaaGreatDoor
open E
set_option linter.unusedSimpArgs false
set_option linter.unusedVariables false
set_option maxRecDepth 100000
/-- the first place of a key, from i on -/
def ixS (key : Str) : Nat → List Str → Int
 | _, [] => -1
 | i, k :: r => cond (k == key) (i : Int) (ixS key (i + 1) r)
theorem ZN (key : Str) : ∀ (r : List Str) (i : Nat), ixS key i r = -1 ∨ ((i : Int) ≤ ixS key i r ∧ ixS key i r < ((i + r.length : Nat) : Int))
 | [], i => .inl rfl
 | k :: r, i => by
  rw [ixS]
  cases hk : (k == key) with
  | true => right; simp only [cond_true, List.length_cons]; omega
  | false =>
   simp only [cond_false, List.length_cons]
   rcases ZN key r (i + 1) with h | h
   · exact .inl h
   · right; omega
theorem l_ix (key : Str) (ks : List Str) (hl : ks.length ≤ 1048576) : ∀ (rest pre : List Str), ks = pre ++ rest → ∃ x,
 EV Tryz.prog pol (.loop 188 26 0 [.t (.list 1 (strs ks)), .t (.str key), .t (.int .i64 (ks.length : Int)), .t (.int .i64 (pre.length : Int))] []) = some (cond (decide (ixS key pre.length rest ≥ 0)) (.loop .ret [.t (.int .i64 (ixS key pre.length rest))] []) (.loop (.exit 0) [x] []))
 | [], pre, hs => by
  have c : decide ((pre.length : Int) < (ks.length : Int)) = false := by simp [hs]
  refine ⟨.bad, ?_⟩
  show _ = some (xB.loop (.exit 0) [.bad] [])
  refine zh Tryz.func188 rfl rfl ?_
  simp (disch := ((try simp only [LL]); omega)) only [↓GO, ↓DRW, GA, GX, ren, zm, z8, refs, z7, cst, zo, isC, bin, una, z6, zc, blt, asArg, ze, zb, zf, z1, E.mkS, unN, zd, zn, za, GS, simprocAttr, GZ, c]
 | x :: rest, pre, hs => by
  have c : decide ((pre.length : Int) < (ks.length : Int)) = true := by simp [hs]; omega
  have hget : (strs ks)[pre.length]? = some [.str x] := by rw [hs]; simp [strs]
  have hlen : pre.length + rest.length + 1 ≤ ks.length := by rw [hs]; simp; omega
  obtain ⟨y, IH⟩ := l_ix key ks hl rest (pre ++ [x]) (by rw [hs]; simp)
  refine ⟨y, ?_⟩
  rw [show ((pre ++ [x]).length : Int) = (pre.length : Int) + 1 by simp, show (pre ++ [x]).length = pre.length + 1 by simp] at IH
  have hsym : (key == x) = (x == key) := by rw [Bool.eq_iff_iff]; simp only [beq_iff_eq]; exact eq_comm
  clear hs
  rw [ixS]
  cases hk : (x == key) <;> rw [hk] at hsym
  · simp only [cond_false]
    refine zh Tryz.func188 rfl rfl ?_
    simp (disch := ((try simp only [LL]); omega)) only [↓GO, ↓DRW, GA, GX, ren, zm, z8, refs, z7, cst, zo, isC, bin, una, z6, zc, blt, asArg, ze, zb, zf, z1, E.mkS, unN, zd, zn, za, GS, simprocAttr, GZ, c, hget, zi, hsym, IH]
  · simp only [cond_true, show decide (((pre.length : Nat) : Int) ≥ 0) = true by simp]
    refine zh Tryz.func188 rfl rfl ?_
    simp (disch := ((try simp only [LL]); omega)) only [↓GO, ↓DRW, GA, GX, ren, zm, z8, refs, z7, cst, zo, isC, bin, una, z6, zc, blt, asArg, ze, zb, zf, z1, E.mkS, unN, zd, zn, za, GS, simprocAttr, GZ, c, hget, zi, hsym]
theorem c_ix (key : Str) (ks : List Str) (hl : ks.length ≤ 1048576) : zk (EV Tryz.prog pol) 188 [.t (.list 1 (strs ks)), .t (.str key)] = some (.t (.int .i64 (ixS key 0 ks))) := by
 obtain ⟨x, L⟩ := l_ix key ks hl ks [] rfl
 have hr := ZN key ks 0
 simp only [List.length_nil, Int.natCast_zero] at L
 cases hd : decide (ixS key 0 ks ≥ 0) with
 | true =>
  rw [hd] at L
  simp only [cond_true] at L
  apply zq
  refine zr rfl Tryz.func188 rfl (by kernel_rfl) ?_
  unfold Tryz.f188
  simp (disch := ((try simp only [LL]); omega)) only [↓GO, ↓DRW, GA, GX, ren, zm, z8, refs, z7, cst, zo, isC, bin, una, z6, zc, blt, asArg, ze, zb, zf, z1, E.mkS, unN, zd, zn, za, GS, simprocAttr, GZ, L, zj]
 | false =>
  rw [hd] at L
  have h := of_decide_eq_false hd
  rw [show ixS key 0 ks = -1 by omega]
  simp only [cond_false] at L
  apply zq
  refine zr rfl Tryz.func188 rfl (by kernel_rfl) ?_
  unfold Tryz.f188
  simp (disch := ((try simp only [LL]); omega)) only [↓GO, ↓DRW, GA, GX, ren, zm, z8, refs, z7, cst, zo, isC, bin, una, z6, zc, blt, asArg, ze, zb, zf, z1, E.mkS, unN, zd, zn, za, GS, simprocAttr, GZ, L, zj]
end Go.Proofs.YtijninlbpifonaaGreatDoor
/- What stands under a key, by both. Conditions: those of each lemma. -/
namespace Go.Proofs.YtijninlbpifonaaGreatDoor
open E
set_option linter.unusedSimpArgs false
set_option linter.unusedVariables false
set_option maxRecDepth 100000
def zt : Tr := .mk 0 0 [] [] []
end Go.Proofs.YtijninlbpifonaaGreatDoor
/- Graphs laid anew, with memory of their own. Conditions: those of each lemma. -/
namespace Go.Proofs.YtijninlbpifonaaGreatDoor
open E
set_option linter.unusedSimpArgs false
set_option linter.unusedVariables false
set_option maxRecDepth 100000
theorem ti : ∀ l : List zF, tQ (zF.zA l) = true
 | [] => rfl
 | x :: l => by
  have := ti l
  unfold tQ zF.zA at this ⊢
  rw [List.map_cons, List.all_cons, this]; rfl
theorem cN (a : List zg) (x : zg) : zg.zA (a ++ [x]) = zg.zA a ++ [x.enc] := by simp [zg.zA]
theorem Xa (a b : List zg) : zg.zA (a ++ b) = zg.zA a ++ zg.zA b := by simp [zg.zA]
def zPk : List V := [.t (.str []), .t (.str []), .t (.str []), .nil 2, .t (.bool false), .nil 1]
theorem Uv (cs : List zF) (hl : cs.length ≤ 1048576) (hc : ∀ c ∈ cs, cq c) : EV Tryz.prog pol (.callO false 259 [.t (.list 2 (zF.zA cs))] []) = some (.call (.sl 0 0 cs.length (some cs.length)) [.ts 2 (zF.zA cs)]) := by
 refine yf Tryz.func259 rfl (by kernel_rfl) ?_
 unfold Tryz.f259
 have h1 : ¬ ((cs.length : Int) < 0) := by omega
 have h2 : ¬ (cs.length * 32 > 140737488355328) := by omega
 have h3 : ¬ (cs.length > 140737488355328) := by omega
 have hz : List.replicate cs.length [T.str [], .str []] = vC (zF.zA cs) VC 0 := by rw [mA, zF.zx]; rfl
 have IH := eT cs hl hc cs.length 0 (by omega) (by omega)
 simp only [Int.natCast_zero] at IH
 simp (disch := omega) only [E.mkS, ↓GO, ↓DRW, GA, GX, ren, zm, z8, refs, z7, cst, zo, isC, bin, una, z6, zc, blt, asArg, ze, zb, zf, z1, E.mkS, unN, zd, zn, za, GS, simprocAttr, zF.zx, Int.toNat_natCast, h1, h2, h3, hz, IH, ne_eq, not_true_eq_false]
def SC (x : zg) : Prop := EV Tryz.prog pol (.callO false 196 [.agg (x.enc.map .t)] []) = some (.call (.agg [.t (.str x.name), .t (.str x.version), .t (.str x.source), .sl 0 0 x.sums.length (some x.sums.length), .t (.bool x.dev), .sl 1 0 x.needs.length (some x.needs.length)]) [.ts 2 (zF.zA x.sums), .ts 1 (strs x.needs)])
theorem Sb (x : zg) (ho : x.zO ≤ 1048576) : SC x := by
 obtain ⟨name, version, source, sums, dev, needs⟩ := x
 simp only [zg.zO] at ho
 have d1 := Uv sums (by omega) (fun c hc => RM c (by have := zF.zY hc; omega))
 have d2 := ly needs (by omega)
 simp only [SC, zg.enc, List.map_cons, List.map_nil]
 refine yf Tryz.func196 rfl (by kernel_rfl) ?_
 unfold Tryz.f196
 simp (disch := ((try simp only [LL]); omega)) only [↓GO, ↓DRW, GA, GX, ren, zm, z8, refs, z7, cst, zo, isC, bin, una, z6, zc, blt, asArg, ze, zb, zf, z1, E.mkS, unN, zd, zn, za, GS, simprocAttr, yj, yk, tM, uA, uQ, uP, tN, gh1, uz, vK, vT, xc, mkO, vU, vL, xV, tL, yz, uy, uw, yK, oc, oTs, oT, yH, yH.rowTs, vS, isL, Bool.not_false, Bool.true_and, Bool.and_true, Bool.and_self, List.flatMap_append, List.map_append, List.set_cons_zero, List.set_cons_succ, GZ, d1, d2, zD]
theorem TR (cs : List zg) (hl : cs.length ≤ 1048576) (hc : ∀ c ∈ cs, SC c) : ∀ (rest pre : List zg), cs = pre ++ rest →
 EV Tryz.prog pol (.loop 94 58 0 [.t (.list 6 (zg.zA cs)), .sl 0 0 cs.length (some cs.length), .t (.int .i64 (pre.length : Int))] [.vs 6 (ocE (zg.zA pre) ++ List.replicate rest.length zPk)])
  = some (.loop (.exit 0) [.sl 0 0 cs.length (some cs.length)] [.vs 6 (ocE (zg.zA cs))])
 | [], pre, hs => by
  have c : decide ((pre.length : Int) < (cs.length : Int)) = false := by simp [hs]
  have e : cs = pre := by simpa using hs
  have hA := yQ (zg.zA pre)
  have hR := fun m => xt m (zg.zA pre)
  simp only [List.length_nil, List.replicate_zero, List.append_nil]
  refine zh Tryz.func94 rfl rfl ?_
  simp (disch := ((try simp only [LL]); omega)) only [↓GO, ↓DRW, GA, GX, ren, zm, z8, refs, z7, cst, zo, isC, bin, una, z6, zc, blt, asArg, ze, zb, zf, z1, E.mkS, unN, zd, zn, za, GS, simprocAttr, yj, yk, tM, uA, uQ, uP, tN, gh1, uz, vK, vT, xc, mkO, vU, vL, xV, tL, yz, uy, uw, yK, oc, oTs, oT, yH, yH.rowTs, vS, isL, Bool.not_false, Bool.true_and, Bool.and_true, Bool.and_self, List.flatMap_append, List.map_append, List.set_cons_zero, List.set_cons_succ, GZ, zg.zx, c, hA, hR]
  rw [e]
 | x :: rest, pre, hs => by
  have c : decide ((pre.length : Int) < (cs.length : Int)) = true := by simp [hs]; omega
  have hget : (zg.zA cs)[pre.length]? = some x.enc := by rw [hs]; simp [zg.zA]
  have hlen : pre.length + rest.length + 1 ≤ cs.length := by rw [hs]; simp; omega
  have hcx := hc x (by rw [hs]; simp)
  have c0 : decide ((0 : Int) ≤ (pre.length : Int)) = true := by simp
  have c00 : (0 : Int) ≤ (pre.length : Int) := by omega
  have IH := TR cs hl hc rest (pre ++ [x]) (by rw [hs]; simp)
  rw [show ((pre ++ [x]).length : Int) = (pre.length : Int) + 1 by simp, cN, Zj, so, Zi, List.append_assoc, List.cons_append, List.nil_append] at IH
  have hAl : (ocE (zg.zA pre)).length = pre.length := by rw [qZ, zg.zx]
  have hA := yQ (zg.zA pre)
  have hR := fun m => xt m (zg.zA pre)
  have hB := l0 zPk rfl rest.length
  have hRB := fun m => Z8 m zPk rfl rest.length
  rw [List.length_cons, List.replicate_succ]
  have hg1 := fun y => pd (ocE (zg.zA pre)) (List.replicate rest.length zPk) y pre.length hAl
  have hs1 := fun y z => pc (ocE (zg.zA pre)) (List.replicate rest.length zPk) y z pre.length hAl
  clear hs
  obtain ⟨name, version, source, sums, dev, needs⟩ := x
  have hf1 := ti sums
  have hf2 := tj needs
  simp only [SC, zg.enc, List.map_cons, List.map_nil, oc] at hcx hget IH
  generalize ocE (zg.zA pre) = A at *
  generalize List.replicate rest.length zPk = B at *
  unfold zPk
  refine zh Tryz.func94 rfl rfl ?_
  simp (disch := ((try simp only [LL]); omega)) only [↓GO, ↓DRW, GA, GX, ren, zm, z8, refs, z7, cst, zo, isC, bin, una, z6, zc, blt, asArg, ze, zb, zf, z1, E.mkS, unN, zd, zn, za, GS, simprocAttr, yj, yk, tM, uA, uQ, uP, tN, gh1, uz, vK, vT, xc, mkO, vU, vL, xV, tL, yz, uy, uw, yK, oc, oTs, oT, yH, yH.rowTs, vS, isL, Bool.not_false, Bool.true_and, Bool.and_true, Bool.and_self, List.flatMap_append, List.map_append, List.set_cons_zero, List.set_cons_succ, GZ, zg.zx, zF.zx, c, c0, c00, if_true, Int.toNat_natCast, hget, hcx, hg1, hs1, hA, hR, hB, hRB, zi, hf1, hf2, IH, zj, qZ, xt, yQ, zD]
theorem mQ (cs : List zg) (hl : cs.length ≤ 1048576) (hc : ∀ c ∈ cs, SC c) : EV Tryz.prog pol (.callO false 94 [.t (.list 6 (zg.zA cs))] []) = some (.call (.sl 0 0 cs.length (some cs.length)) [.vs 6 (ocE (zg.zA cs))]) := by
 refine yf Tryz.func94 rfl (by kernel_rfl) ?_
 unfold Tryz.f94
 have h1 : ¬ ((cs.length : Int) < 0) := by omega
 have h2 : ¬ (cs.length * 104 > 140737488355328) := by omega
 have h3 : ¬ (cs.length > 140737488355328) := by omega
 have L := TR cs hl hc cs [] rfl
 simp only [List.length_nil, Int.natCast_zero, show zg.zA [] = [] from rfl, Zi, List.nil_append] at L
 have hB := l0 zPk rfl cs.length
 have hRB := fun m => Z8 m zPk rfl cs.length
 unfold zPk at L hB hRB
 simp (disch := ((try simp only [LL]); omega)) only [↓GO, ↓DRW, GA, GX, ren, zm, z8, refs, z7, cst, zo, isC, bin, una, z6, zc, blt, asArg, ze, zb, zf, z1, E.mkS, unN, zd, zn, za, GS, simprocAttr, yj, yk, tM, uA, uQ, uP, tN, gh1, uz, vK, vT, xc, mkO, vU, vL, xV, tL, yz, uy, uw, yK, oc, oTs, oT, yH, yH.rowTs, vS, isL, Bool.not_false, Bool.true_and, Bool.and_true, Bool.and_self, List.flatMap_append, List.map_append, List.set_cons_zero, List.set_cons_succ, GZ, zg.zx, Int.toNat_natCast, h1, h2, h3, L, hB, hRB, xt, yQ, ne_eq, not_true_eq_false, not_false_eq_true, zD]
def F5 (x : zy) : Prop := EV Tryz.prog pol (.callO false 19 [.agg (x.enc.map .t)] []) = some (.call (.agg [.sl 0 0 x.top.length (some x.top.length), .sl 1 0 x.packs.length (some x.packs.length)]) [.ts 1 (strs x.top), .vs 6 (ocE (zg.zA x.packs))])
theorem Sc (x : zy) (ho : x.zO ≤ 1048576) : F5 x := by
 obtain ⟨top, packs⟩ := x
 simp only [zy.zO] at ho
 have d1 := ly top (by omega)
 have d2 := mQ packs (by omega) (fun c hc => Sb c (by have := zg.zY hc; omega))
 simp only [F5, zy.enc, List.map_cons, List.map_nil]
 refine yf Tryz.func19 rfl (by kernel_rfl) ?_
 unfold Tryz.f19
 simp (disch := ((try simp only [LL]); omega)) only [↓GO, ↓DRW, GA, GX, ren, zm, z8, refs, z7, cst, zo, isC, bin, una, z6, zc, blt, asArg, ze, zb, zf, z1, E.mkS, unN, zd, zn, za, GS, simprocAttr, yj, yk, tM, uA, uQ, uP, tN, gh1, uz, vK, vT, xc, mkO, vU, vL, xV, tL, yz, uy, uw, yK, oc, oTs, oT, yH, yH.rowTs, vS, isL, Bool.not_false, Bool.true_and, Bool.and_true, Bool.and_self, List.flatMap_append, List.map_append, List.set_cons_zero, List.set_cons_succ, GZ, d1, d2, xt, yQ, zD]
/-- and as a value that nobody writes -/
def F6 (x : zy) : Prop := zk (EV Tryz.prog pol) 19 [.agg (x.enc.map .t)] = some (.agg (x.enc.map .t))
theorem Sd (x : zy) (ho : x.zO ≤ 1048576) : F6 x := by
 obtain ⟨top, packs⟩ := x
 simp only [zy.zO] at ho
 have d1 := ly top (by omega)
 have d2 := mQ packs (by omega) (fun c hc => Sb c (by have := zg.zY hc; omega))
 have g := S6 (zg.zA packs)
 have ht : (zg.zA packs).take packs.length = zg.zA packs := by rw [← zg.zx packs]; simp
 have ht2 : (strs top).take top.length = strs top := by rw [← zj top]; simp
 simp only [F6, zy.enc, List.map_cons, List.map_nil]
 apply zq
 refine zr rfl Tryz.func19 rfl (by kernel_rfl) ?_
 unfold Tryz.f19
 simp (disch := ((try simp only [LL]); omega)) only [↓GO, ↓DRW, GA, GX, ren, zm, z8, refs, z7, cst, zo, isC, bin, una, z6, zc, blt, asArg, ze, zb, zf, z1, E.mkS, unN, zd, zn, za, GS, simprocAttr, yj, yk, tM, uA, uQ, uP, tN, gh1, uz, vK, vT, xc, mkO, vU, vL, xV, tL, yz, uy, uw, yK, oc, oTs, oT, yH, yH.rowTs, vS, isL, Bool.not_false, Bool.true_and, Bool.and_true, Bool.and_self, List.flatMap_append, List.map_append, List.set_cons_zero, List.set_cons_succ, GZ, d1, d2, g, ht, ht2, xt, yQ, zD]
end Go.Proofs.YtijninlbpifonaaGreatDoor
/- Marks in graphs. Conditions: those of each lemma. -/
namespace Go.Proofs.YtijninlbpifonaaGreatDoor
open E
set_option linter.unusedSimpArgs false
set_option linter.unusedVariables false
set_option maxRecDepth 100000
def tJ : Nat → Nat → List zF
 | 0, _ => []
 | n + 1, k => ⟨mkT k, mkT (k + 1)⟩ :: tJ n (k + 2)
theorem lg : ∀ n k, (tJ n k).length = n
 | 0, _ => rfl
 | n + 1, k => by rw [tJ, List.length_cons, lg n (k + 2)]
theorem kY : ∀ n k, tJ (n + 1) k = tJ n k ++ [⟨mkT (k + 2 * n), mkT (k + 2 * n + 1)⟩]
 | 0, k => rfl
 | n + 1, k => by
  rw [tJ, kY n (k + 2), tJ, List.cons_append, show k + 2 + 2 * n = k + 2 * (n + 1) by omega]
theorem eW (cs : List zF) (hl : cs.length ≤ 4194304) (cap : Option Nat) (k : Nat) (hk : k ≤ 1073741824) : ∀ (rest pre : List zF), cs = pre ++ rest →
 EV Tryz.prog pol (.loop 204 26 1 [.sl 0 0 cs.length cap, .t (.int .i64 ((k + 2 * pre.length : Nat) : Int)), .t (.int .i64 (pre.length : Int))] [.ts 2 (zF.zA (tJ pre.length k) ++ zF.zA rest)])
  = some (.loop (.exit 0) [.t (.int .i64 ((k + 2 * cs.length : Nat) : Int))] [.ts 2 (zF.zA (tJ cs.length k))])
 | [], pre, hs => by
  have c : decide ((pre.length : Int) < (cs.length : Int)) = false := by simp [hs]
  have e : cs = pre := by simpa using hs
  simp only [show zF.zA [] = [] from rfl, List.append_nil]
  refine zh Tryz.func204 rfl rfl ?_
  simp (disch := ((try simp only [LL]); omega)) only [↓GO, ↓DRW, GA, GX, ren, zm, z8, refs, z7, cst, zo, isC, bin, una, z6, zc, blt, asArg, ze, zb, zf, z1, E.mkS, unN, zd, zn, za, GS, simprocAttr, GZ, c]
  rw [e]
 | x :: rest, pre, hs => by
  have c : decide ((pre.length : Int) < (cs.length : Int)) = true := by simp [hs]; omega
  have c0 : decide ((0 : Int) ≤ (pre.length : Int)) = true := by simp
  have c00 : (0 : Int) ≤ (pre.length : Int) := by omega
  have hlen : pre.length + rest.length + 1 ≤ cs.length := by rw [hs]; simp; omega
  have hm := tU (k + 2 * pre.length) (by omega)
  have hm2 := tU (k + 2 * pre.length + 1) (by omega)
  have IH := eW cs hl cap k hk rest (pre ++ [x]) (by rw [hs]; simp)
  rw [show (pre ++ [x]).length = pre.length + 1 by simp, kY, show zF.zA (tJ pre.length k ++ [⟨mkT (k + 2 * pre.length), mkT (k + 2 * pre.length + 1)⟩]) = zF.zA (tJ pre.length k) ++ [[.str (mkT (k + 2 * pre.length)), .str (mkT (k + 2 * pre.length + 1))]] by simp [zF.zA, zF.enc], List.append_assoc, List.cons_append, List.nil_append] at IH
  rw [show k + 2 * (pre.length + 1) = k + 2 * pre.length + 2 by omega] at IH
  have hAl : (zF.zA (tJ pre.length k)).length = pre.length := by rw [zF.zx, lg]
  rw [show zF.zA (x :: rest) = [.str x.alg, .str x.bytes] :: zF.zA rest from rfl]
  have hg1 := fun y => pd (zF.zA (tJ pre.length k)) (zF.zA rest) y pre.length hAl
  have hs1 := fun y z => pc (zF.zA (tJ pre.length k)) (zF.zA rest) y z pre.length hAl
  clear hs
  generalize zF.zA (tJ pre.length k) = A at *
  generalize mkT (k + 2 * pre.length + 1) = mt2 at *
  generalize mkT (k + 2 * pre.length) = mt at *
  have hkp : k + 2 * pre.length ≤ 1082130432 := by omega
  generalize k + 2 * pre.length = kp at *
  have w : IntKind.i64.wrap ((kp : Int) + 1) = ((kp + 1 : Nat) : Int) := by rw [zi (by omega)]; omega
  have w1 : IntKind.i64.wrap (((kp + 1 : Nat) : Int) + 1) = ((kp + 2 : Nat) : Int) := by rw [zi (by omega)]; omega
  have w2 : IntKind.i64.wrap ((pre.length : Int) + 1) = ((pre.length + 1 : Nat) : Int) := by rw [zi (by omega)]; omega
  refine zh Tryz.func204 rfl rfl ?_
  simp (disch := ((try simp only [LL]); omega)) only [↓GO, ↓DRW, GA, GX, ren, zm, z8, refs, z7, cst, zo, isC, bin, una, z6, zc, blt, asArg, ze, zb, zf, z1, E.mkS, unN, zd, zn, za, GS, simprocAttr, GZ, c, c0, c00, if_true, Int.toNat_natCast, hm, hm2, hg1, hs1, w, w1, w2, IH]
theorem UB (cs : List zF) (hl : cs.length ≤ 4194304) (cap : Option Nat) (k : Nat) (hk : k ≤ 1073741824) (n : Nat) (hn : n = cs.length) :
 EV Tryz.prog pol (.callO false 204 [.sl 0 0 n cap, .t (.int .i64 (k : Int))] [.ts 2 (zF.zA cs)]) = some (.call (.t (.int .i64 ((k + 2 * cs.length : Nat) : Int))) [.ts 2 (zF.zA (tJ cs.length k))]) := by
 subst hn
 have L := eW cs hl cap k hk cs [] rfl
 simp only [List.length_nil, Int.natCast_zero, tJ, show zF.zA [] = [] from rfl, List.nil_append, Nat.mul_zero, Nat.add_zero] at L
 refine yf Tryz.func204 rfl (by kernel_rfl) ?_
 unfold Tryz.f204
 simp (disch := ((try simp only [LL]); omega)) only [↓GO, ↓DRW, GA, GX, ren, zm, z8, refs, z7, cst, zo, isC, bin, una, z6, zc, blt, asArg, ze, zb, zf, z1, E.mkS, unN, zd, zn, za, GS, simprocAttr, GZ, L]
end Go.Proofs.YtijninlbpifonaaGreatDoor
/- Marks in packs and graphs. Conditions: those of each lemma. -/
namespace Go.Proofs.YtijninlbpifonaaGreatDoor
open E
set_option linter.unusedSimpArgs false
set_option linter.unusedVariables false
set_option maxRecDepth 100000
def dvB (k : Nat) : Bool := (((k % 3 : Nat) : Int) == 0)
def ky (x : zg) : Nat := 4 + 2 * x.sums.length + x.needs.length
def yt : List zg → Nat
 | [] => 0
 | x :: r => ky x + yt r
def SA (k : Nat) (x : zg) : zg := ⟨mkT k, mkT (k + 1), mkT (k + 2), tJ x.sums.length (k + 3), dvB (k + 3 + 2 * x.sums.length), mkS x.needs.length (k + 3 + 2 * x.sums.length + 1)⟩
def xh : Nat → List zg → List zg
 | _, [] => []
 | k, x :: r => SA k x :: xh (k + ky x) r
theorem kZ : ∀ (k : Nat) (cs : List zg), (xh k cs).length = cs.length
 | k, [] => rfl
 | k, c :: cs => by simp [xh, kZ _ cs]
theorem pW : ∀ a b : List zg, yt (a ++ b) = yt a + yt b
 | [], b => by simp [yt]
 | c :: a, b => by simp only [List.cons_append, yt, pW a b]; omega
theorem j3 : ∀ (k : Nat) (a b : List zg), xh k (a ++ b) = xh k a ++ xh (k + yt a) b
 | k, [], b => by simp [xh, yt]
 | k, c :: a, b => by
  simp only [List.cons_append, xh, yt, j3 _ a b]
  rw [show k + ky c + yt a = k + (ky c + yt a) by omega]
theorem RF (x : zg) : ky x ≤ 4 + 2 * x.zO := by simp only [ky, zg.zO]; omega
theorem lv : ∀ cs : List zg, yt cs ≤ 4 * cs.length + 2 * zg.zL cs
 | [] => by simp [yt]
 | c :: cs => by
  have h1 := RF c
  have h2 := lv cs
  simp only [yt, zg.zL, List.length_cons]; omega
theorem ZH (cs : List zg) (hl : cs.length ≤ 4194304) (hb : ∀ c ∈ cs, c.zO ≤ 4194304) (cap : Option Nat) (k : Nat) (hk : k + yt cs ≤ 1073741824) : ∀ (rest pre : List zg), cs = pre ++ rest →
 EV Tryz.prog pol (.loop 109 26 1 [.sl 0 0 cs.length cap, .t (.int .i64 ((k + yt pre : Nat) : Int)), .t (.int .i64 (pre.length : Int))] [.vs 6 (ocE (zg.zA (xh k pre)) ++ ocE (zg.zA rest))])
  = some (.loop (.exit 0) [.t (.int .i64 ((k + yt cs : Nat) : Int))] [.vs 6 (ocE (zg.zA (xh k cs)))])
 | [], pre, hs => by
  have c : decide ((pre.length : Int) < (cs.length : Int)) = false := by simp [hs]
  have e : cs = pre := by simpa using hs
  have hA := yQ (zg.zA (xh k pre))
  have hR := fun m => xt m (zg.zA (xh k pre))
  simp only [show ocE (zg.zA []) = [] from rfl, List.append_nil]
  refine zh Tryz.func109 rfl rfl ?_
  simp (disch := ((try simp only [LL]); omega)) only [↓GO, ↓DRW, GA, GX, ren, zm, z8, refs, z7, cst, zo, isC, bin, una, z6, zc, blt, asArg, ze, zb, zf, z1, E.mkS, unN, zd, zn, za, GS, simprocAttr, yj, yk, tM, uA, uQ, uP, tN, gh1, uz, vK, vT, xc, mkO, vU, vL, xV, tL, yz, uy, uw, yK, oc, oTs, oT, yH, yH.rowTs, vS, isL, Bool.not_false, Bool.true_and, Bool.and_true, Bool.and_self, List.flatMap_append, List.map_append, List.set_cons_zero, List.set_cons_succ, GZ, c, hA, hR]
  rw [e]
 | x :: rest, pre, hs => by
  have c : decide ((pre.length : Int) < (cs.length : Int)) = true := by simp [hs]; omega
  have c0 : decide ((0 : Int) ≤ (pre.length : Int)) = true := by simp
  have c00 : (0 : Int) ≤ (pre.length : Int) := by omega
  have hlen : pre.length + rest.length + 1 ≤ cs.length := by rw [hs]; simp; omega
  have hcn : yt cs = yt pre + yt (x :: rest) := by rw [hs, pW]
  have hbx := hb x (by rw [hs]; simp)
  have IH := ZH cs hl hb cap k hk rest (pre ++ [x]) (by rw [hs]; simp)
  have e1 : xh k (pre ++ [x]) = xh k pre ++ [SA (k + yt pre) x] := by rw [j3]; simp [xh]
  have e2 : yt (pre ++ [x]) = yt pre + ky x := by rw [pW]; simp [yt]
  rw [e1, e2, Xa, Zj, show (pre ++ [x]).length = pre.length + 1 by simp] at IH
  simp only [yt] at hcn
  have hAl : (ocE (zg.zA (xh k pre))).length = pre.length := by rw [qZ, zg.zx, kZ]
  have hA := yQ (zg.zA (xh k pre))
  have hR := fun m => xt m (zg.zA (xh k pre))
  have hB := yQ (zg.zA rest)
  have hRB := fun m => xt m (zg.zA rest)
  rw [show ocE (zg.zA (x :: rest)) = x.enc.map oc :: ocE (zg.zA rest) from rfl]
  rw [show ocE (zg.zA [SA (k + yt pre) x]) = [(SA (k + yt pre) x).enc.map oc] from rfl] at IH
  have hg1 := fun y => pd (ocE (zg.zA (xh k pre))) (ocE (zg.zA rest)) y pre.length hAl
  have hs1 := fun y z => pc (ocE (zg.zA (xh k pre))) (ocE (zg.zA rest)) y z pre.length hAl
  clear hs e1 e2
  have hkb : k + yt pre + ky x ≤ 1073741824 := by omega
  rw [show k + (yt pre + ky x) = k + yt pre + ky x by omega] at IH
  generalize k + yt pre = kp at *
  obtain ⟨name, version, source, sums, dev, needs⟩ := x
  simp only [zg.zO] at hbx
  simp only [ky] at hkb IH
  rw [show kp + (4 + 2 * sums.length + needs.length) = kp + 3 + 2 * sums.length + 1 + needs.length by omega] at IH
  have hmt0 := tU kp (by omega)
  have hmt1 := tU (kp + 1) (by omega)
  have hmt2 := tU (kp + 2) (by omega)
  have hmm := UB sums (by omega) none (kp + 3) (by omega) sums.length rfl
  have hms := Yk needs (by omega) none (kp + 3 + 2 * sums.length + 1) (by omega) needs.length rfl
  have w0 : IntKind.i64.wrap ((kp : Int) + 1) = ((kp + 1 : Nat) : Int) := by rw [zi (by omega)]; omega
  have w1 : IntKind.i64.wrap (((kp + 1 : Nat) : Int) + 1) = ((kp + 2 : Nat) : Int) := by rw [zi (by omega)]; omega
  have w2 : IntKind.i64.wrap (((kp + 2 : Nat) : Int) + 1) = ((kp + 3 : Nat) : Int) := by rw [zi (by omega)]; omega
  have w3 : IntKind.i64.wrap ((pre.length : Int) + 1) = ((pre.length + 1 : Nat) : Int) := by rw [zi (by omega)]; omega
  have w4 : IntKind.i64.wrap (((kp + 3 + 2 * sums.length : Nat) : Int) + 1) = ((kp + 3 + 2 * sums.length + 1 : Nat) : Int) := by rw [zi (by omega)]; omega
  have e1 : (((kp + 3 + 2 * sums.length : Nat) : Int)).tmod 3 = (((kp + 3 + 2 * sums.length) % 3 : Nat) : Int) := (Int.ofNat_tmod _ 3).symm
  have hr3 : (kp + 3 + 2 * sums.length) % 3 < 3 := Nat.mod_lt _ (by omega)
  have hdv : ((((kp + 3 + 2 * sums.length) % 3 : Nat) : Int) == 0) = dvB (kp + 3 + 2 * sums.length) := rfl
  have hf1 := ti sums
  have hf2 := ti (tJ sums.length (kp + 3))
  have hf3 := tj needs
  have hf4 := tj (mkS needs.length (kp + 3 + 2 * sums.length + 1))
  have hl1 := lg sums.length (kp + 3)
  have hl2 := iZ needs.length (kp + 3 + 2 * sums.length + 1)
  simp only [SA, zg.enc, List.map_cons, List.map_nil, oc, List.append_assoc, List.cons_append, List.nil_append] at IH ⊢
  generalize tJ sums.length (kp + 3) = mm at *
  generalize mkS needs.length (kp + 3 + 2 * sums.length + 1) = ms at *
  generalize mkT (kp + 2) = mt2 at *
  generalize mkT (kp + 1) = mt1 at *
  generalize mkT kp = mt0 at *
  generalize ocE (zg.zA (xh k pre)) = A at *
  generalize ocE (zg.zA rest) = B at *
  refine zh Tryz.func109 rfl rfl ?_
  simp (disch := ((try simp only [LL]); omega)) only [↓GO, ↓DRW, GA, GX, ren, zm, z8, refs, z7, cst, zo, isC, bin, una, z6, zc, blt, asArg, ze, zb, zf, z1, E.mkS, unN, zd, zn, za, GS, simprocAttr, yj, yk, tM, uA, uQ, uP, tN, gh1, uz, vK, vT, xc, mkO, vU, vL, xV, tL, yz, uy, uw, yK, oc, oTs, oT, yH, yH.rowTs, vS, isL, Bool.not_false, Bool.true_and, Bool.and_true, Bool.and_self, List.flatMap_append, List.map_append, List.set_cons_zero, List.set_cons_succ, GZ, c, c0, c00, if_true, Int.toNat_natCast, hmt0, hmt1, hmt2, hmm, hms, hg1, hs1, hA, hR, hB, hRB, w0, w1, w2, w3, w4, e1, hdv, hf1, hf2, hf3, hf4, hl1, hl2, zj, zF.zx, zg.zx, qZ, xt, yQ, IH, zD]
theorem UC (cs : List zg) (hb : cs.length + zg.zL cs ≤ 4194304) (cap : Option Nat) (k : Nat) (hk : k + yt cs ≤ 1073741824) (n : Nat) (hn : n = cs.length) :
 EV Tryz.prog pol (.callO false 109 [.sl 0 0 n cap, .t (.int .i64 (k : Int))] [.vs 6 (ocE (zg.zA cs))]) = some (.call (.t (.int .i64 ((k + yt cs : Nat) : Int))) [.vs 6 (ocE (zg.zA (xh k cs)))]) := by
 subst hn
 have L := ZH cs (by omega) (fun c hc => by have := zg.zY hc; omega) cap k hk cs [] rfl
 simp only [List.length_nil, Int.natCast_zero, xh, yt, show ocE (zg.zA []) = [] from rfl, List.nil_append, Nat.add_zero] at L
 refine yf Tryz.func109 rfl (by kernel_rfl) ?_
 unfold Tryz.f109
 simp (disch := ((try simp only [LL]); omega)) only [↓GO, ↓DRW, GA, GX, ren, zm, z8, refs, z7, cst, zo, isC, bin, una, z6, zc, blt, asArg, ze, zb, zf, z1, E.mkS, unN, zd, zn, za, GS, simprocAttr, yj, yk, tM, uA, uQ, uP, tN, gh1, uz, vK, vT, xc, mkO, vU, vL, xV, tL, yz, uy, uw, yK, oc, oTs, oT, yH, yH.rowTs, vS, isL, Bool.not_false, Bool.true_and, Bool.and_true, Bool.and_self, List.flatMap_append, List.map_append, List.set_cons_zero, List.set_cons_succ, GZ, L, xt, yQ, zD]
theorem Yl (top : List Str) (cs : List zg) (ht : top.length ≤ 4194304) (hb : cs.length + zg.zL cs ≤ 4194304) (n1 n2 : Nat) (h1 : n1 = top.length) (h2 : n2 = cs.length) (p1 p2 : Option Nat) (k : Nat) (hk : k + top.length + yt cs ≤ 1073741824) :
 EV Tryz.prog pol (.callO false 28 [.agg [.sl 0 0 n1 p1, .sl 1 0 n2 p2], .t (.int .i64 (k : Int))] [.ts 1 (strs top), .vs 6 (ocE (zg.zA cs))])
  = some (.call (.t (.int .i64 ((k + top.length + yt cs : Nat) : Int))) [.ts 1 (strs (mkS top.length k)), .vs 6 (ocE (zg.zA (xh (k + top.length) cs)))]) := by
 subst h1 h2
 have d1 := Yk top (by omega) p1 k (by omega) top.length rfl
 have d2 := UC cs hb p2 (k + top.length) (by omega) cs.length rfl
 refine yf Tryz.func28 rfl (by kernel_rfl) ?_
 unfold Tryz.f28
 simp (disch := ((try simp only [LL]); omega)) only [↓GO, ↓DRW, GA, GX, ren, zm, z8, refs, z7, cst, zo, isC, bin, una, z6, zc, blt, asArg, ze, zb, zf, z1, E.mkS, unN, zd, zn, za, GS, simprocAttr, yj, yk, tM, uA, uQ, uP, tN, gh1, uz, vK, vT, xc, mkO, vU, vL, xV, tL, yz, uy, uw, yK, oc, oTs, oT, yH, yH.rowTs, vS, isL, Bool.not_false, Bool.true_and, Bool.and_true, Bool.and_self, List.flatMap_append, List.map_append, List.set_cons_zero, List.set_cons_succ, GZ, d1, d2, xt, yQ, zD]
end Go.Proofs.YtijninlbpifonaaGreatDoor
/- Marks in packs and graphs found again. Conditions: those of each lemma. -/
namespace Go.Proofs.YtijninlbpifonaaGreatDoor
open E
set_option linter.unusedSimpArgs false
set_option linter.unusedVariables false
set_option maxRecDepth 100000
end Go.Proofs.YtijninlbpifonaaGreatDoor
/- What the laws' own functions do over Change: sizes, copies, comparisons. Conditions: those of each lemma. -/
namespace Go.Proofs.YtijninlbpifonaaGreatDoor
open E
set_option linter.unusedSimpArgs false
set_option linter.unusedVariables false
set_option maxRecDepth 100000
structure zl where
 kind : Int
 name : List UInt8
 old : List UInt8
 new : List UInt8
def zl.enc (x : zl) : List T := [.int .i64 x.kind, .str x.name, .str x.old, .str x.new]
def zl.zA (l : List zl) : List (List T) := l.map zl.enc
theorem zl.vz (cs : List zl) (c : zl) : zl.zA (cs ++ [c]) = zl.zA cs ++ [c.enc] := by simp [zl.zA]
def zl.zO (x : zl) : Nat := x.name.length + x.old.length + x.new.length
def zl.zL : List zl → Nat
 | [] => 0
 | c :: cs => zl.zO c + zl.zL cs
def zl.ok (x : zl) : Prop := x.name.length ≤ 9223372036854775807 ∧ x.old.length ≤ 9223372036854775807 ∧ x.new.length ≤ 9223372036854775807
theorem zl.vq (x : zl) : x.enc.length = 4 := rfl
theorem zl.wg (x : zl) : x.enc.take 4 = x.enc := rfl
theorem zl.zx (cs : List zl) : (zl.zA cs).length = cs.length := by simp [zl.zA]
theorem zl.yR (cs : List zl) (i : Nat) (h : i < cs.length) : (zl.zA cs)[i]? = some cs[i].enc := by simp [zl.zA, h]
theorem zl.x9 (cs : List zl) (i : Nat) (h : i < cs.length) : zl.zL (cs.drop i) = cs[i].zO + zl.zL (cs.drop (i + 1)) := by
 rw [List.drop_eq_getElem_cons h]; rfl
theorem zl.zY : ∀ {cs : List zl} {c : zl}, c ∈ cs → c.zO ≤ zl.zL cs
 | c' :: cs, c, h => by
  simp only [zl.zL]
  rcases List.mem_cons.1 h with rfl | h
  · omega
  · have := zl.zY h; omega
def sE (x : zl) : Prop := zk (EV Tryz.prog pol) 119 [.agg (x.enc.map .t), .agg (x.enc.map .t)] = some (.t (.bool true))
theorem b9 (x : zl) (ho : x.zO ≤ 4194304) : sE x := by
 obtain ⟨kind, name, old, new⟩ := x
 simp only [zl.zO] at ho
 simp only [sE, zl.enc, List.map_cons, List.map_nil]
 apply zq
 refine zr rfl Tryz.func119 rfl (by kernel_rfl) ?_
 unfold Tryz.f119
 simp only [↓GO, ↓DRW, GA, GX, ren, zm, z8, refs, z7, cst, zo, isC, bin, una, z6, zc, blt, asArg, ze, zb, zf, z1, E.mkS, unN, zd, zn, za, GS, simprocAttr, bne_self_eq_false]
theorem oM (cs : List zl) (hl : cs.length ≤ 4194304) (hc : ∀ c ∈ cs, sE c) : ∀ (d i : Nat), cs.length - i = d → i ≤ cs.length →
 EV Tryz.prog pol (.loop 32 58 0 [.t (.list 4 (zl.zA cs)), .t (.list 4 (zl.zA cs)), .t (.int .i64 (i : Int))] []) = some (.loop (.exit 0) [.bad] [])
 | 0, i, hd, hi => by
  have hi' : i = cs.length := by omega
  subst hi'
  refine zh Tryz.func32 rfl rfl ?_
  have c : decide (((cs.length : Nat) : Int) < ((cs.length : Nat) : Int)) = false := by simp
  simp only [↓GO, ↓DRW, GA, GX, ren, zm, z8, refs, z7, cst, zo, isC, bin, una, z6, zc, blt, asArg, ze, zb, zf, z1, E.mkS, unN, zd, zn, za, GS, simprocAttr, zl.zx, c]
 | d + 1, i, hd, hi => by
  have hlt : i < cs.length := by omega
  have c : decide ((i : Int) < ((cs.length : Nat) : Int)) = true := by simp; omega
  have IH := oM cs hl hc d (i + 1) (by omega) (by omega)
  have e1 : (i : Int) + 1 = ((i + 1 : Nat) : Int) := by omega
  have hcall := hc _ (List.getElem_mem hlt)
  have hget := zl.yR cs i hlt
  generalize hci : cs[i] = ci at hcall hget
  obtain ⟨kind, name, old, new⟩ := ci
  simp only [sE, zl.enc, List.map_cons, List.map_nil] at hcall hget
  refine zh Tryz.func32 rfl rfl ?_
  simp (disch := omega) only [↓GO, ↓DRW, GA, GX, ren, zm, z8, refs, z7, cst, zo, isC, bin, una, z6, zc, blt, asArg, ze, zb, zf, z1, E.mkS, unN, zd, zn, za, GS, simprocAttr, zl.zx, c, hget, zi, e1, hcall]
  exact IH
theorem nf (cs : List zl) (hl : cs.length ≤ 4194304) (hc : ∀ c ∈ cs, sE c) : zk (EV Tryz.prog pol) 32 [.t (.list 4 (zl.zA cs)), .t (.list 4 (zl.zA cs))] = some (.t (.bool true)) := by
 apply zq
 refine zr rfl Tryz.func32 rfl (by kernel_rfl) ?_
 unfold Tryz.f32
 have IH := oM cs hl hc cs.length 0 (by omega) (by omega)
 simp only [Int.natCast_zero] at IH
 simp only [↓GO, ↓DRW, GA, GX, ren, zm, z8, refs, z7, cst, zo, isC, bin, una, z6, zc, blt, asArg, ze, zb, zf, z1, E.mkS, unN, zd, zn, za, GS, simprocAttr, zl.zx, IH, bne_self_eq_false]
end Go.Proofs.YtijninlbpifonaaGreatDoor
/- Changes marked, and the marks found again. Conditions: those of each lemma. -/
namespace Go.Proofs.YtijninlbpifonaaGreatDoor
open E
set_option linter.unusedSimpArgs false
set_option linter.unusedVariables false
set_option maxRecDepth 100000
def ve : Nat → Nat → List zl
 | 0, _ => []
 | n + 1, k => ⟨(k : Int), mkT (k + 1), mkT (k + 2), mkT (k + 3)⟩ :: ve n (k + 4)
theorem su : ∀ n k, (ve n k).length = n
 | 0, _ => rfl
 | n + 1, k => by rw [ve, List.length_cons, su n (k + 4)]
theorem j4 : ∀ n k, ve (n + 1) k = ve n k ++ [⟨((k + 4 * n : Nat) : Int), mkT (k + 4 * n + 1), mkT (k + 4 * n + 2), mkT (k + 4 * n + 3)⟩]
 | 0, k => rfl
 | n + 1, k => by
  rw [ve, j4 n (k + 4), ve, List.cons_append, show k + 4 + 4 * n = k + 4 * (n + 1) by omega]
theorem eP : ∀ n k i, i < n → (zl.zA (ve n k))[i]? = some [.int .i64 ((k + 4 * i : Nat) : Int), .str (mkT (k + 4 * i + 1)), .str (mkT (k + 4 * i + 2)), .str (mkT (k + 4 * i + 3))]
 | n + 1, k, 0, _ => rfl
 | n + 1, k, i + 1, h => by
  have ih := eP n (k + 4) i (by omega)
  rw [show k + 4 * (i + 1) = k + 4 + 4 * i by omega, ← ih]
  simp [ve, zl.zA]
theorem eX (cs : List zl) (hl : cs.length ≤ 4194304) (cap : Option Nat) (k : Nat) (hk : k ≤ 1073741824) : ∀ (rest pre : List zl), cs = pre ++ rest →
 EV Tryz.prog pol (.loop 33 26 1 [.sl 0 0 cs.length cap, .t (.int .i64 ((k + 4 * pre.length : Nat) : Int)), .t (.int .i64 (pre.length : Int))] [.ts 4 (zl.zA (ve pre.length k) ++ zl.zA rest)])
  = some (.loop (.exit 0) [.t (.int .i64 ((k + 4 * cs.length : Nat) : Int))] [.ts 4 (zl.zA (ve cs.length k))])
 | [], pre, hs => by
  have c : decide ((pre.length : Int) < (cs.length : Int)) = false := by simp [hs]
  have e : cs = pre := by simpa using hs
  simp only [show zl.zA [] = [] from rfl, List.append_nil]
  refine zh Tryz.func33 rfl rfl ?_
  simp (disch := ((try simp only [LL]); omega)) only [↓GO, ↓DRW, GA, GX, ren, zm, z8, refs, z7, cst, zo, isC, bin, una, z6, zc, blt, asArg, ze, zb, zf, z1, E.mkS, unN, zd, zn, za, GS, simprocAttr, GZ, c]
  rw [e]
 | x :: rest, pre, hs => by
  have c : decide ((pre.length : Int) < (cs.length : Int)) = true := by simp [hs]; omega
  have c0 : decide ((0 : Int) ≤ (pre.length : Int)) = true := by simp
  have c00 : (0 : Int) ≤ (pre.length : Int) := by omega
  have hlen : pre.length + rest.length + 1 ≤ cs.length := by rw [hs]; simp; omega
  have hm := tU (k + 4 * pre.length + 1) (by omega)
  have hm2 := tU (k + 4 * pre.length + 2) (by omega)
  have hm3 := tU (k + 4 * pre.length + 3) (by omega)
  have IH := eX cs hl cap k hk rest (pre ++ [x]) (by rw [hs]; simp)
  rw [show (pre ++ [x]).length = pre.length + 1 by simp, j4, zl.vz, List.append_assoc, List.cons_append, List.nil_append] at IH
  rw [show k + 4 * (pre.length + 1) = k + 4 * pre.length + 4 by omega] at IH
  have hAl : (zl.zA (ve pre.length k)).length = pre.length := by rw [zl.zx, su]
  rw [show zl.zA (x :: rest) = [.int .i64 x.kind, .str x.name, .str x.old, .str x.new] :: zl.zA rest from rfl]
  have hg1 := fun y => pd (zl.zA (ve pre.length k)) (zl.zA rest) y pre.length hAl
  have hs1 := fun y z => pc (zl.zA (ve pre.length k)) (zl.zA rest) y z pre.length hAl
  clear hs
  simp only [zl.enc] at IH
  generalize zl.zA (ve pre.length k) = A at *
  generalize mkT (k + 4 * pre.length + 3) = mt3 at *
  generalize mkT (k + 4 * pre.length + 2) = mt2 at *
  generalize mkT (k + 4 * pre.length + 1) = mt at *
  have hkp : k + 4 * pre.length ≤ 1090519040 := by omega
  generalize k + 4 * pre.length = kp at *
  have w : IntKind.i64.wrap ((kp : Int) + 1) = ((kp + 1 : Nat) : Int) := by rw [zi (by omega)]; omega
  have w1 : IntKind.i64.wrap (((kp + 1 : Nat) : Int) + 1) = ((kp + 2 : Nat) : Int) := by rw [zi (by omega)]; omega
  have w3 : IntKind.i64.wrap (((kp + 2 : Nat) : Int) + 1) = ((kp + 3 : Nat) : Int) := by rw [zi (by omega)]; omega
  have w4 : IntKind.i64.wrap (((kp + 3 : Nat) : Int) + 1) = ((kp + 4 : Nat) : Int) := by rw [zi (by omega)]; omega
  have w2 : IntKind.i64.wrap ((pre.length : Int) + 1) = ((pre.length + 1 : Nat) : Int) := by rw [zi (by omega)]; omega
  refine zh Tryz.func33 rfl rfl ?_
  simp (disch := ((try simp only [LL]); omega)) only [↓GO, ↓DRW, GA, GX, ren, zm, z8, refs, z7, cst, zo, isC, bin, una, z6, zc, blt, asArg, ze, zb, zf, z1, E.mkS, unN, zd, zn, za, GS, simprocAttr, GZ, c, c0, c00, if_true, Int.toNat_natCast, hm, hm2, hm3, hg1, hs1, w, w1, w2, w3, w4, IH]
theorem UD (cs : List zl) (hl : cs.length ≤ 4194304) (cap : Option Nat) (k : Nat) (hk : k ≤ 1073741824) (n : Nat) (hn : n = cs.length) :
 EV Tryz.prog pol (.callO false 33 [.sl 0 0 n cap, .t (.int .i64 (k : Int))] [.ts 4 (zl.zA cs)]) = some (.call (.t (.int .i64 ((k + 4 * cs.length : Nat) : Int))) [.ts 4 (zl.zA (ve cs.length k))]) := by
 subst hn
 have L := eX cs hl cap k hk cs [] rfl
 simp only [List.length_nil, Int.natCast_zero, ve, show zl.zA [] = [] from rfl, List.nil_append, Nat.mul_zero, Nat.add_zero] at L
 refine yf Tryz.func33 rfl (by kernel_rfl) ?_
 unfold Tryz.f33
 simp (disch := ((try simp only [LL]); omega)) only [↓GO, ↓DRW, GA, GX, ren, zm, z8, refs, z7, cst, zo, isC, bin, una, z6, zc, blt, asArg, ze, zb, zf, z1, E.mkS, unN, zd, zn, za, GS, simprocAttr, GZ, L]
theorem Xx (k : Nat) : EV Tryz.prog pol (.callO false 33 [.nil 4, .t (.int .i64 (k : Int))] []) = some (.call (.t (.int .i64 (k : Int))) []) := by
 have L : EV Tryz.prog pol (.loop 33 26 0 [.nil 4, .t (.int .i64 (k : Int)), .t (.int .i64 0)] []) = some (.loop (.exit 0) [.t (.int .i64 (k : Int))] []) := by
  have c : decide ((0 : Int) < 0) = false := rfl
  refine zh Tryz.func33 rfl rfl ?_
  simp (disch := ((try simp only [LL]); omega)) only [↓GO, ↓DRW, GA, GX, ren, zm, z8, refs, z7, cst, zo, isC, bin, una, z6, zc, blt, asArg, ze, zb, zf, z1, E.mkS, unN, zd, zn, za, GS, simprocAttr, GZ, c, Int.natCast_zero]
 refine yf Tryz.func33 rfl (by kernel_rfl) ?_
 unfold Tryz.f33
 simp (disch := ((try simp only [LL]); omega)) only [↓GO, ↓DRW, GA, GX, ren, zm, z8, refs, z7, cst, zo, isC, bin, una, z6, zc, blt, asArg, ze, zb, zf, z1, E.mkS, unN, zd, zn, za, GS, simprocAttr, GZ, L]
theorem eY (n k : Nat) (hn : n ≤ 4194304) (hk : k ≤ 1073741824) : ∀ (d i : Nat), i + d = n →
 EV Tryz.prog pol (.loop 34 26 0 [.t (.list 4 (zl.zA (ve n k))), .t (.int .i64 ((k + 4 * i : Nat) : Int)), .t (.int .i64 (i : Int))] []) = some (.loop (.exit 0) [.t (.int .i64 ((k + 4 * n : Nat) : Int)), .bad] [])
 | 0, i, hi => by
  obtain rfl : i = n := by omega
  have c : decide ((i : Int) < (i : Int)) = false := by simp
  have hl : (zl.zA (ve i k)).length = i := by rw [zl.zx, su]
  generalize zl.zA (ve i k) = A at *
  refine zh Tryz.func34 rfl rfl ?_
  simp (disch := ((try simp only [LL]); omega)) only [↓GO, ↓DRW, GA, GX, ren, zm, z8, refs, z7, cst, zo, isC, bin, una, z6, zc, blt, asArg, ze, zb, zf, z1, E.mkS, unN, zd, zn, za, GS, simprocAttr, GZ, c, hl]
 | d + 1, i, hi => by
  have c : decide ((i : Int) < (n : Int)) = true := by apply decide_eq_true; omega
  have hl : (zl.zA (ve n k)).length = n := by rw [zl.zx, su]
  have hget := eP n k i (by omega)
  have hm := tU (k + 4 * i + 1) (by omega)
  have hm2 := tU (k + 4 * i + 2) (by omega)
  have hm3 := tU (k + 4 * i + 3) (by omega)
  have IH := eY n k hn hk d (i + 1) (by omega)
  rw [show k + 4 * (i + 1) = k + 4 * i + 4 by omega] at IH
  generalize zl.zA (ve n k) = A at *
  generalize mkT (k + 4 * i + 3) = mt3 at *
  generalize mkT (k + 4 * i + 2) = mt2 at *
  generalize mkT (k + 4 * i + 1) = mt at *
  have hkp : k + 4 * i ≤ 1090519040 := by omega
  generalize k + 4 * i = kp at *
  have w : IntKind.i64.wrap ((kp : Int) + 1) = ((kp + 1 : Nat) : Int) := by rw [zi (by omega)]; omega
  have w1 : IntKind.i64.wrap (((kp + 1 : Nat) : Int) + 1) = ((kp + 2 : Nat) : Int) := by rw [zi (by omega)]; omega
  have w3 : IntKind.i64.wrap (((kp + 2 : Nat) : Int) + 1) = ((kp + 3 : Nat) : Int) := by rw [zi (by omega)]; omega
  have w4 : IntKind.i64.wrap (((kp + 3 : Nat) : Int) + 1) = ((kp + 4 : Nat) : Int) := by rw [zi (by omega)]; omega
  have w2 : IntKind.i64.wrap ((i : Int) + 1) = ((i + 1 : Nat) : Int) := by rw [zi (by omega)]; omega
  refine zh Tryz.func34 rfl rfl ?_
  simp (disch := ((try simp only [LL]); omega)) only [↓GO, ↓DRW, GA, GX, ren, zm, z8, refs, z7, cst, zo, isC, bin, una, z6, zc, blt, asArg, ze, zb, zf, z1, E.mkS, unN, zd, zn, za, GS, simprocAttr, GZ, c, hl, hget, hm, hm2, hm3, w, w1, w2, w3, w4, bne_self_eq_false, beq_self_eq_true, Bool.not_true, IH]
theorem dX (n k : Nat) (hn : n ≤ 4194304) (hk : k ≤ 1073741824) : zk (EV Tryz.prog pol) 34 [.t (.list 4 (zl.zA (ve n k))), .t (.int .i64 (k : Int))] = some (.t (.int .i64 ((k + 4 * n : Nat) : Int))) := by
 have L := eY n k hn hk n 0 (by omega)
 simp only [Nat.mul_zero, Nat.add_zero, Int.natCast_zero] at L
 generalize zl.zA (ve n k) = A at *
 apply zq
 refine zr rfl Tryz.func34 rfl (by kernel_rfl) ?_
 unfold Tryz.f34
 simp (disch := ((try simp only [LL]); omega)) only [↓GO, ↓DRW, GA, GX, ren, zm, z8, refs, z7, cst, zo, isC, bin, una, z6, zc, blt, asArg, ze, zb, zf, z1, E.mkS, unN, zd, zn, za, GS, simprocAttr, GZ, L]
end Go.Proofs.YtijninlbpifonaaGreatDoor
/- Small tests on bytes and numbers; keys. Conditions: those of each lemma. -/
namespace Go.Proofs.YtijninlbpifonaaGreatDoor
open E
set_option linter.unusedSimpArgs false
set_option linter.unusedVariables false
set_option maxRecDepth 100000
theorem sD (a lo hi : Int) : zk (EV Tryz.prog pol) 169 [.t (.int .i64 a), .t (.int .i64 lo), .t (.int .i64 hi)] = some (.t (.bool (B2 a lo hi))) := by
 apply zq
 refine zr rfl Tryz.func169 rfl (by kernel_rfl) ?_
 unfold Tryz.f169
 unfold B2
 repeat' (first | (((first | with_reducible refine tG (fun hA => ?_) (fun hA => ?_) | with_reducible refine tE (fun hA => ?_) (fun hA => ?_)) <;> (try simp only [bne, Bool.not_eq_true', Bool.not_eq_false'] at hA) <;> (first | (have hP := Int.le_of_eq (eq_of_beq (α := Int) hA); have hQ := Int.le_of_eq (eq_of_beq (α := Int) hA).symm) | have hP := of_decide_eq_true hA | have hP := of_decide_eq_false hA | skip)) <;> (simp (disch := ((try simp only [LL]); omega)) only [↓GO, ↓DRW, GA, GX, ren, zm, z8, refs, z7, cst, zo, isC, bin, una, z6, zc, blt, asArg, ze, zb, zf, z1, E.mkS, unN, zd, zn, za, GS, simprocAttr, zi, bne, *])) | (simp (disch := ((try simp only [LL]); omega)) only [↓GO, ↓DRW, GA, GX, ren, zm, z8, refs, z7, cst, zo, isC, bin, una, z6, zc, blt, asArg, ze, zb, zf, z1, E.mkS, unN, zd, zn, za, GS, simprocAttr, zi, bne, *]))
theorem xZ (a lo hi : Int) : zk (EV Tryz.prog pol) 187 [.t (.int .i64 a), .t (.int .i64 lo), .t (.int .i64 hi)] = some (.t (.bool (B2 a lo hi))) := by
 apply zq
 refine zr rfl Tryz.func187 rfl (by kernel_rfl) ?_
 unfold Tryz.f187
 unfold B2
 repeat' (first | (((first | with_reducible refine tG (fun hA => ?_) (fun hA => ?_) | with_reducible refine tE (fun hA => ?_) (fun hA => ?_)) <;> (try simp only [bne, Bool.not_eq_true', Bool.not_eq_false'] at hA) <;> (first | (have hP := Int.le_of_eq (eq_of_beq (α := Int) hA); have hQ := Int.le_of_eq (eq_of_beq (α := Int) hA).symm) | have hP := of_decide_eq_true hA | have hP := of_decide_eq_false hA | skip)) <;> (simp (disch := ((try simp only [LL]); omega)) only [↓GO, ↓DRW, GA, GX, ren, zm, z8, refs, z7, cst, zo, isC, bin, una, z6, zc, blt, asArg, ze, zb, zf, z1, E.mkS, unN, zd, zn, za, GS, simprocAttr, zi, bne, ge_iff_le, *])) | (simp (disch := ((try simp only [LL]); omega)) only [↓GO, ↓DRW, GA, GX, ren, zm, z8, refs, z7, cst, zo, isC, bin, una, z6, zc, blt, asArg, ze, zb, zf, z1, E.mkS, unN, zd, zn, za, GS, simprocAttr, zi, bne, ge_iff_le, *]))
theorem jL (a : Int) : zk (EV Tryz.prog pol) 233 [.t (.int .u8 a)] = some (.t (.bool (B2 a 97 122))) := by
 apply zq
 refine zr rfl Tryz.func233 rfl (by kernel_rfl) ?_
 unfold Tryz.f233
 unfold B2
 repeat' (first | (((first | with_reducible refine tG (fun hA => ?_) (fun hA => ?_) | with_reducible refine tE (fun hA => ?_) (fun hA => ?_)) <;> (try simp only [bne, Bool.not_eq_true', Bool.not_eq_false'] at hA) <;> (first | (have hP := Int.le_of_eq (eq_of_beq (α := Int) hA); have hQ := Int.le_of_eq (eq_of_beq (α := Int) hA).symm) | have hP := of_decide_eq_true hA | have hP := of_decide_eq_false hA | skip)) <;> (simp (disch := ((try simp only [LL]); omega)) only [↓GO, ↓DRW, GA, GX, ren, zm, z8, refs, z7, cst, zo, isC, bin, una, z6, zc, blt, asArg, ze, zb, zf, z1, E.mkS, unN, zd, zn, za, GS, simprocAttr, zi, bne, ge_iff_le, *])) | (simp (disch := ((try simp only [LL]); omega)) only [↓GO, ↓DRW, GA, GX, ren, zm, z8, refs, z7, cst, zo, isC, bin, una, z6, zc, blt, asArg, ze, zb, zf, z1, E.mkS, unN, zd, zn, za, GS, simprocAttr, zi, bne, ge_iff_le, *]))
theorem pY (a : Int) : zk (EV Tryz.prog pol) 234 [.t (.int .u8 a)] = some (.t (.bool (B2 a 48 57))) := by
 apply zq
 refine zr rfl Tryz.func234 rfl (by kernel_rfl) ?_
 unfold Tryz.f234
 unfold B2
 repeat' (first | (((first | with_reducible refine tG (fun hA => ?_) (fun hA => ?_) | with_reducible refine tE (fun hA => ?_) (fun hA => ?_)) <;> (try simp only [bne, Bool.not_eq_true', Bool.not_eq_false'] at hA) <;> (first | (have hP := Int.le_of_eq (eq_of_beq (α := Int) hA); have hQ := Int.le_of_eq (eq_of_beq (α := Int) hA).symm) | have hP := of_decide_eq_true hA | have hP := of_decide_eq_false hA | skip)) <;> (simp (disch := ((try simp only [LL]); omega)) only [↓GO, ↓DRW, GA, GX, ren, zm, z8, refs, z7, cst, zo, isC, bin, una, z6, zc, blt, asArg, ze, zb, zf, z1, E.mkS, unN, zd, zn, za, GS, simprocAttr, zi, bne, ge_iff_le, *])) | (simp (disch := ((try simp only [LL]); omega)) only [↓GO, ↓DRW, GA, GX, ren, zm, z8, refs, z7, cst, zo, isC, bin, una, z6, zc, blt, asArg, ze, zb, zf, z1, E.mkS, unN, zd, zn, za, GS, simprocAttr, zi, bne, ge_iff_le, *]))
theorem wrap_u8 (b : UInt8) : IntKind.i64.wrap (b.toNat : Int) = (b.toNat : Int) := by have := Sl b; exact zi (by omega)
theorem nc (b : UInt8) : zk (EV Tryz.prog pol) 238 [.t (.int .u8 (b.toNat : Int))] = some (.t (.bool (B2 (nb b) 97 122 || B2 (nb b) 48 57))) := by
 apply zq
 refine zr rfl Tryz.func238 rfl (by kernel_rfl) ?_
 unfold Tryz.f238
 have h1 := xZ (b.toNat : Int) 97 122
 have h2 := xZ (b.toNat : Int) 48 57
 repeat' (first | (((first | with_reducible refine tG (fun hA => ?_) (fun hA => ?_) | with_reducible refine tE (fun hA => ?_) (fun hA => ?_)) <;> (try simp only [bne, Bool.not_eq_true', Bool.not_eq_false'] at hA) <;> (first | (have hP := Int.le_of_eq (eq_of_beq (α := Int) hA); have hQ := Int.le_of_eq (eq_of_beq (α := Int) hA).symm) | have hP := of_decide_eq_true hA | have hP := of_decide_eq_false hA | skip)) <;> (simp (disch := ((try simp only [LL]); omega)) only [↓GO, ↓DRW, GA, GX, ren, zm, z8, refs, z7, cst, zo, isC, bin, una, z6, zc, blt, asArg, ze, zb, zf, z1, E.mkS, unN, zd, zn, za, GS, simprocAttr, zi, bne, conv, wrap_u8, *])) | (simp (disch := ((try simp only [LL]); omega)) only [↓GO, ↓DRW, GA, GX, ren, zm, z8, refs, z7, cst, zo, isC, bin, una, z6, zc, blt, asArg, ze, zb, zf, z1, E.mkS, unN, zd, zn, za, GS, simprocAttr, zi, bne, conv, wrap_u8, *]))
theorem QF (f : Nat) (p : UInt8 → Bool) (hp : ∀ b : UInt8, zk (EV Tryz.prog pol) f [.t (.int .u8 (b.toNat : Int))] = some (.t (.bool (p b)))) (s : Str) (hl : s.length ≤ 9223372036854775807) : ∀ (rest pre : Str), s = pre ++ rest →
 EV Tryz.prog pol (.loop 231 26 0 [.t (.str s), .t (.fn f []), .t (.int .i64 (s.length : Int)), .t (.int .i64 (pre.length : Int))] []) = some (cond (rest.all p) (.loop (.exit 0) [.bad] []) (.loop .ret [.t (.bool false)] []))
 | [], pre, hs => by
  have c : decide ((pre.length : Int) < (s.length : Int)) = false := by simp [hs]
  refine zh Tryz.func231 rfl rfl ?_
  simp only [↓GO, ↓DRW, GA, GX, ren, zm, z8, refs, z7, cst, zo, isC, bin, una, z6, zc, blt, asArg, ze, zb, zf, z1, E.mkS, unN, zd, zn, za, GS, simprocAttr, c]
 | b :: rest, pre, hs => by
  have c : decide ((pre.length : Int) < (s.length : Int)) = true := by simp [hs]; omega
  have hget : s[pre.length]? = some b := by rw [hs]; exact tH pre b rest
  have hlen : s.length = pre.length + rest.length + 1 := by rw [hs]; simp; omega
  have e1 : (pre.length : Int) + 1 = ((pre ++ [b]).length : Int) := by simp
  have IH := QF f p hp s hl rest (pre ++ [b]) (by rw [hs]; simp)
  have hb := hp b
  refine zh Tryz.func231 rfl rfl ?_
  cases hpb : p b with
  | true =>
   rw [hpb] at hb
   simp (disch := omega) only [↓GO, ↓DRW, GA, GX, ren, zm, z8, refs, z7, cst, zo, isC, bin, una, z6, zc, blt, asArg, ze, zb, zf, z1, E.mkS, unN, zd, zn, za, GS, simprocAttr, c, hget, zi, hb]
   rw [e1, IH, hpb, Bool.true_and]
  | false =>
   rw [hpb] at hb
   simp (disch := omega) only [↓GO, ↓DRW, GA, GX, ren, zm, z8, refs, z7, cst, zo, isC, bin, una, z6, zc, blt, asArg, ze, zb, zf, z1, E.mkS, unN, zd, zn, za, GS, simprocAttr, c, hget, zi, hb]
   rw [hpb]; rfl
theorem YO (f : Nat) (p : UInt8 → Bool) (hp : ∀ b : UInt8, zk (EV Tryz.prog pol) f [.t (.int .u8 (b.toNat : Int))] = some (.t (.bool (p b)))) (s : Str) (hl : s.length ≤ 9223372036854775807) :
 zk (EV Tryz.prog pol) 231 [.t (.str s), .t (.fn f [])] = some (.t (.bool (s.all p))) := by
 have IH := QF f p hp s hl s [] rfl
 simp only [List.length_nil, Int.natCast_zero] at IH
 apply zq
 refine zr rfl Tryz.func231 rfl (by kernel_rfl) ?_
 unfold Tryz.f231
 cases hb : s.all p with
 | true => rw [hb] at IH; simp only [cond_true] at IH; simp only [↓GO, ↓DRW, GA, GX, ren, zm, z8, refs, z7, cst, zo, isC, bin, una, z6, zc, blt, asArg, ze, zb, zf, z1, E.mkS, unN, zd, zn, za, GS, simprocAttr, IH]
 | false => rw [hb] at IH; simp only [cond_false] at IH; simp only [↓GO, ↓DRW, GA, GX, ren, zm, z8, refs, z7, cst, zo, isC, bin, una, z6, zc, blt, asArg, ze, zb, zf, z1, E.mkS, unN, zd, zn, za, GS, simprocAttr, IH]
end Go.Proofs.YtijninlbpifonaaGreatDoor
/- Texts cut at a byte; names; plain texts. Plain. Conditions: none. -/
namespace Go.Proofs.YtijninlbpifonaaGreatDoor
set_option linter.unusedVariables false
set_option linter.unusedSimpArgs false
theorem mu (b : UInt8) (s : Str) : Lib.index (b :: s) [b] = 0 := by rw [Lib.index]; simp [List.isPrefixOf]
theorem oN (x b : UInt8) (s : Str) (h : x ≠ b) : Lib.index (x :: s) [b] = if Lib.index s [b] == -1 then -1 else Lib.index s [b] + 1 := by
 have hp : ([b] : List UInt8).isPrefixOf (x :: s) = false := by simp [List.isPrefixOf, Ne.symm h]
 rw [Lib.index, hp]; simp
theorem rp (b : UInt8) : ∀ s : Str, yB b s ≠ []
 | [] => by simp [yB]
 | x :: s => by
  unfold yB
  split
  · simp
  · split <;> simp
theorem vN (b : UInt8) (s : Str) : yB b (b :: s) = [] :: yB b s := by rw [yB, if_pos rfl]
theorem w8 (b x : UInt8) (s p : Str) (r : List Str) (h : x ≠ b) (e : yB b s = p :: r) : yB b (x :: s) = (x :: p) :: r := by
 rw [yB, if_neg h, e]
theorem kE (b : UInt8) : ∀ s : Str, Lib.split s [b] = yB b s
 | [] => by
  unfold Lib.split
  rw [Lib.count_miss (by simp [Lib.index])]; rfl
 | x :: s => by
  have ih := kE b s
  unfold Lib.split at ih ⊢
  by_cases h : x = b
  · subst h
    rw [Lib.count_cons_eq, Nat.add_comm, Lib.splitK, mu, vN]
    simpa using ih
  · rw [Lib.count_cons_ne x b s h]
    by_cases hm : Lib.index s [b] = -1
    · rw [Lib.count_miss hm] at ih ⊢
      rw [Lib.splitK] at ih ⊢
      exact (w8 b x s s [] h ih.symm).symm
    · have hge := Lib.index_ge s [b]
      obtain ⟨j, hj⟩ : ∃ j : Nat, Lib.index s [b] = j := ⟨(Lib.index s [b]).toNat, by omega⟩
      rw [Lib.count_hit (by simp) hj, Nat.add_comm] at ih ⊢
      have hb : (((j : Nat) : Int) == -1) = false := by rw [beq_eq_false_iff_ne]; omega
      have hb2 : (((j : Nat) : Int) + 1 == -1) = false := by rw [beq_eq_false_iff_ne]; omega
      rw [Lib.splitK, hj, hb] at ih
      rw [Lib.splitK, oN x b s h, hj, hb]
      simp only [Bool.false_eq_true, if_false, hb2, Int.toNat_natCast, Nat.add_zero, List.length_cons, List.length_nil, Nat.zero_add] at ih ⊢
      rw [show ((j : Int) + 1).toNat = j + 1 by omega]
      rw [List.take_succ_cons, List.drop_succ_cons]
      exact (w8 b x s _ _ h ih.symm).symm
/-- a text cut at the first place of a byte -/
def zW (b : UInt8) : Str → Str × Str × Bool
 | [] => ([], [], false)
 | x :: s => if x = b then ([], s, true) else (x :: (zW b s).1, (zW b s).2.1, (zW b s).2.2)
theorem dP (b : UInt8) : ∀ s : Str, Lib.cut s [b] = zW b s
 | [] => by simp [Lib.cut, zW, Lib.index]
 | x :: s => by
  have ih := dP b s
  by_cases h : x = b
  · subst h
    unfold Lib.cut
    rw [mu, zW, if_pos rfl]; simp
  · rw [zW, if_neg h, ← ih]
    unfold Lib.cut
    rw [oN x b s h]
    have hge := Lib.index_ge s [b]
    by_cases hm : Lib.index s [b] = -1
    · rw [hm]; simp
    · obtain ⟨j, hj⟩ : ∃ j : Nat, Lib.index s [b] = j := ⟨(Lib.index s [b]).toNat, by omega⟩
      have hb : (((j : Nat) : Int) == -1) = false := by rw [beq_eq_false_iff_ne]; omega
      rw [hj, hb]
      simp only [Bool.false_eq_true, if_false]
      rw [if_pos (by omega), if_pos (by omega), show ((j : Int) + 1).toNat = j + 1 by omega]
      simp only [List.take_succ_cons, Int.toNat_natCast]
      rw [show j + 1 + [b].length = (j + [b].length) + 1 by simp, List.drop_succ_cons]
theorem nJ (b : UInt8) : ∀ s : Str, s = (zW b s).1 ++ cond (zW b s).2.2 (b :: (zW b s).2.1) []
 | [] => rfl
 | x :: s => by
  rw [zW]
  split
  · rename_i h; rw [h]; rfl
  · have := nJ b s
    show x :: s = (x :: (zW b s).1) ++ _
    rw [List.cons_append, ← this]
theorem dR (b : UInt8) : ∀ s : Str, b ∉ (zW b s).1
 | [] => by simp [zW]
 | x :: s => by
  rw [zW]
  split
  · simp
  · rename_i h
    have := dR b s
    simp only [List.mem_cons, not_or]
    exact ⟨Ne.symm h, this⟩
theorem mH (b : UInt8) : ∀ s : Str, (zW b s).2.2 = false → (zW b s).2.1 = []
 | [], _ => rfl
 | x :: s, h => by
  rw [zW] at h ⊢
  split at h
  · simp at h
  · rename_i hx
    rw [if_neg hx]; exact mH b s h
theorem dS (b : UInt8) (t : Str) : ∀ s : Str, b ∉ s → zW b (s ++ b :: t) = (s, t, true)
 | [], _ => by simp [zW]
 | x :: s, h => by
  simp only [List.mem_cons, not_or] at h
  rw [List.cons_append, zW, if_neg (Ne.symm h.1), dS b t s h.2]
theorem dQ (b : UInt8) (t : Str) : ∀ s : Str, yB b (s ++ b :: t) = yB b s ++ yB b t
 | [] => by rw [List.nil_append, vN]; rfl
 | x :: s => by
  have ih := dQ b t s
  rw [List.cons_append]
  by_cases h : x = b
  · subst h; rw [vN, vN, ih]; rfl
  · cases hc : yB b s with
    | nil => exact absurd hc (rp b s)
    | cons p r =>
     rw [hc] at ih
     rw [w8 b x s p r h hc, w8 b x _ p (r ++ yB b t) h ih]; rfl
def ry : Str := [110, 111, 100, 101, 95, 109, 111, 100, 117, 108, 101, 115]
def vX (b : UInt8) : Bool := B2 (nb b) 97 122 || B2 (nb b) 48 57 || nb b == 46 || nb b == 95 || nb b == 45
def nj (s : Str) : Bool := ([64] : Str).isPrefixOf s
def yL (s : Str) : Str := match s with
 | [] => []
 | x :: r => if x = 64 then r else x :: r
/-- as the implementation asks -/
def vP (sc : Bool) : List Str → Bool
 | [] => true
 | p :: r => (!((p == []) || ((p == ry) && !sc) || !(p.all vX))) && vP false r
def sH (s : Str) : Bool := vP (nj s) (yB 47 (yL s)) && decide ((s.length : Int) ≤ 60)
/-- as the reference asks -/
def lR : List Str → Bool
 | [] => true
 | p :: r => (!(p == ry) && (p.all vX && !(p == []))) && lR r
def qt : List Str → Bool
 | [] => true
 | p :: r => (!(p == ry) && ((yL p).all vX && !(yL p == []))) && lR r
theorem sQ : ∀ r : List Str, lR r = vP false r
 | [] => rfl
 | p :: r => by
  rw [lR, vP, sQ r]
  cases (p == []) <;> cases (p == ry) <;> cases (p.all vX) <;> rfl
theorem Xe (s : Str) : (qt (yB 47 s) && decide ((s.length : Int) ≤ 60)) = sH s := by
 unfold sH
 congr 1
 cases s with
 | nil => rfl
 | cons x t =>
  cases hc : yB 47 t with
  | nil => exact absurd hc (rp 47 t)
  | cons p r =>
   by_cases h64 : x = 64
   · subst h64
     rw [w8 47 64 t p r (by decide) hc]
     have h1 : nj (64 :: t) = true := by simp [nj, List.isPrefixOf]
     have h2 : yL (64 :: t) = t := by simp [yL]
     have h3 : yL (64 :: p) = p := by simp [yL]
     have h4 : (((64 : UInt8) :: p) == ry) = false := by simp [ry]
     rw [h1, h2, hc, qt, vP, h3, h4, sQ]
     cases (p == []) <;> cases (p == ry) <;> cases (p.all vX) <;> rfl
   · have h1 : nj (x :: t) = false := by simp [nj, List.isPrefixOf]; exact fun h => h64 h.symm
     have h2 : yL (x :: t) = x :: t := by simp [yL, h64]
     rw [h1, h2]
     by_cases h47 : x = 47
     · subst h47
       rw [vN, qt, vP, sQ]
       rfl
     · rw [w8 47 x t p r h47 hc, qt, vP, sQ]
       have h3 : yL (x :: p) = x :: p := by simp [yL, h64]
       rw [h3]
       cases ((x :: p) == []) <;> cases ((x :: p) == ry) <;> cases ((x :: p).all vX) <;> rfl
def qq (b : UInt8) : Bool := B2 (nb b) 33 126 && (!(nb b == 34) && (!(nb b == 39) && (!(nb b == 44) && !(nb b == 92))))
def tu (s : Str) : Bool := s.all qq && decide ((s.length : Int) ≤ 100)
end Go.Proofs.YtijninlbpifonaaGreatDoor
/- The number of a text, plain: both ways of reading it come to the same. Conditions: none. -/
namespace Go.Proofs.YtijninlbpifonaaGreatDoor
set_option linter.unusedSimpArgs false
set_option linter.unusedVariables false
def isD (c : UInt8) : Bool := decide (48 ≤ c.toNat) && decide (c.toNat ≤ 57)
/-- what digits spell behind a number -/
def ql (a : Nat) (c : UInt8) : Nat := a * 10 + (c.toNat - 48)
def uu (acc : Nat) (l : List UInt8) : Nat := l.foldl ql acc
theorem mS (acc : Nat) : uu acc [] = acc := rfl
theorem pD (acc : Nat) (c : UInt8) (l : List UInt8) : uu acc (c :: l) = uu (ql acc c) l := by
 unfold uu
 rw [List.foldl_cons]
theorem kC (c : UInt8) (l : List UInt8) (acc : Nat) : uu acc (l ++ [c]) = ql (uu acc l) c := by
 unfold uu
 rw [List.foldl_append, List.foldl_cons, List.foldl_nil]
theorem pg (c : UInt8) : isD c = true ↔ 48 ≤ c.toNat ∧ c.toNat ≤ 57 := by simp [isD]
theorem aV (acc : Nat) (c : UInt8) (h : isD c = true) : ql acc c + 1 ≤ (acc + 1) * 10 := by
 have := (pg c).1 h
 unfold ql
 omega
theorem me (n m : Nat) : m * 10 ^ (n + 1) = m * 10 * 10 ^ n := by rw [Nat.pow_succ, Nat.mul_comm (10 ^ n) 10, Nat.mul_assoc]
theorem ny : ∀ (l : List UInt8) (acc : Nat), l.all isD = true → uu acc l < (acc + 1) * 10 ^ l.length
 | [], acc, _ => by rw [mS]; simp
 | c :: l, acc, h => by
  rw [List.all_cons, Bool.and_eq_true] at h
  have ih := ny l (ql acc c) h.2
  rw [pD, List.length_cons, me]
  exact Nat.lt_of_lt_of_le ih (Nat.mul_le_mul_right _ (aV acc c h.1))
theorem jA {d : Nat} (h : d < 10) : (UInt8.ofNat (48 + d)).toNat = 48 + d := by
 simp [UInt8.toNat_ofNat']; omega
theorem ua (u : Nat) : (Lib.decDigits u).all isD = true ∧ uu 0 (Lib.decDigits u) = u ∧ Lib.decDigits u ≠ [] := by
 induction u using Nat.strongRecOn with
 | _ u ih =>
  rw [Lib.decDigits]
  split
  · rename_i h
    have := jA h
    refine ⟨?_, ?_, by simp⟩
    · rw [List.all_cons, List.all_nil, Bool.and_true, pg, this]; omega
    · rw [pD, mS, ql, this]; omega
  · rename_i h
    obtain ⟨h1, h2, h3⟩ := ih (u / 10) (by omega)
    have := jA (d := u % 10) (by omega)
    refine ⟨?_, ?_, by simp⟩
    · rw [List.all_append, h1, List.all_cons, List.all_nil, Bool.and_true, Bool.true_and, pg, this]; omega
    · rw [kC, h2, ql, this]; omega
theorem qA : ∀ (l : List UInt8) (acc : Nat), l.all isD = true → (acc + 1) * 10 ^ l.length ≤ 1000000000000000000 → Lib.parseUint10 acc l = .ok (uu acc l)
 | [], acc, _, _ => rfl
 | c :: l, acc, h, hb => by
  rw [List.all_cons, Bool.and_eq_true] at h
  have hp : 0 < 10 ^ l.length := Nat.pos_of_ne_zero (by intro h; simp at h)
  rw [List.length_cons, me] at hb
  have h10 : (acc + 1) * 10 ≤ 1000000000000000000 := Nat.le_trans (Nat.le_mul_of_pos_right _ hp) hb
  have hc := (pg c).1 h.1
  have ih := qA l (ql acc c) h.2 (Nat.le_trans (Nat.mul_le_mul_right _ (aV acc c h.1)) hb)
  rw [Lib.parseUint10, if_pos hc, if_neg (by omega), if_neg (by omega), pD, ← ih]
  rfl
theorem oE : ∀ (k u : Nat), 1 ≤ k → u < 10 ^ k → Lib.nDigits u ≤ k
 | 0, u, h, _ => by omega
 | k + 1, u, _, h => by
  rw [Lib.nDigits]
  split
  · omega
  · have h10 : u / 10 < 10 ^ k := by rw [Nat.pow_succ] at h; omega
    have hk : 1 ≤ k := by
     rcases Nat.eq_zero_or_pos k with rfl | h
     · simp at h10; omega
     · exact h
    have := oE k (u / 10) hk h10
    omega
theorem tZ {u : Nat} (h : u ≤ 999999999) : (Lib.decDigits u).length ≤ 9 := by
 rw [Lib.decDigits_length]
 exact oE 9 u (by omega) (by omega)
theorem fg {u : Nat} (h : u ≤ 999999999) : Lib.atoiAll (Lib.decDigits u) = .ok (u : Int) := by
 obtain ⟨h1, h2, h3⟩ := ua u
 have hl := tZ h
 generalize Lib.decDigits u = l at *
 cases l with
 | nil => exact absurd rfl h3
 | cons c r =>
  have hc : isD c = true := by simp only [List.all_cons, Bool.and_eq_true] at h1; exact h1.1
  simp only [isD, Bool.and_eq_true, decide_eq_true_eq] at hc
  have hp : Lib.parseMag (c :: r) = .ok u := by
   unfold Lib.parseMag
   have : (10 : Nat) ^ (c :: r).length ≤ 10 ^ 9 := Nat.pow_le_pow_right (by omega) hl
   have e9 : (10 : Nat) ^ 9 = 1000000000 := by decide
   rw [if_neg (by simp), qA _ 0 h1 (by omega), h2]
  unfold Lib.atoiAll
  simp only
  rw [if_neg (by omega), hp]
  simp only
  rw [if_neg (by omega), if_neg (by omega), if_neg (by omega)]
/-- the number of a text, or -1 -/
def zH (s : List UInt8) : Int :=
 match Lib.atoiAll s with
 | .ok v => cond ((decide (0 ≤ v) && decide (v ≤ 999999999)) && (Lib.itoa v == s)) v (-1)
 | _ => -1
/-- the same, by the digits -/
def r8 (s : List UInt8) : Int := cond ((s.all isD && decide (s.length ≤ 9)) && (!(s == []) && (Lib.itoa (uu 0 s : Nat) == s))) (uu 0 s : Nat) (-1)
theorem kK {u : Nat} (h : u ≤ 999999999) : zH (Lib.decDigits u) = u ∧ r8 (Lib.decDigits u) = u := by
 obtain ⟨h1, h2, h3⟩ := ua u
 have hl := tZ h
 refine ⟨?_, ?_⟩
 · unfold zH
   rw [fg h]
   simp only
   rw [Lib.itoa_nonneg]
   have e1 : decide ((0 : Int) ≤ (u : Int)) = true := by simp
   have e2 : decide ((u : Int) ≤ 999999999) = true := by simp; omega
   rw [e1, e2]; simp
 · unfold r8
   rw [h1, h2, Lib.itoa_nonneg]
   have e1 : decide ((Lib.decDigits u).length ≤ 9) = true := by simpa using hl
   have e2 : (Lib.decDigits u == []) = false := by simpa using h3
   rw [e1, e2]; simp
theorem X7 {s : List UInt8} (h : ∀ u, u ≤ 999999999 → s ≠ Lib.decDigits u) : zH s = -1 ∧ r8 s = -1 := by
 refine ⟨?_, ?_⟩
 · unfold zH
   split
   · rename_i v hv
     cases hc : ((decide (0 ≤ v) && decide (v ≤ 999999999)) && (Lib.itoa v == s)) with
     | false => rfl
     | true =>
      simp only [Bool.and_eq_true, decide_eq_true_eq] at hc
      obtain ⟨⟨c1, c2⟩, c3⟩ := hc
      obtain ⟨u, rfl⟩ : ∃ u : Nat, v = u := ⟨v.toNat, by omega⟩
      rw [Lib.itoa_nonneg] at c3
      exact absurd (eq_of_beq c3).symm (h u (by omega))
   · rfl
 · unfold r8
   cases hc : ((s.all isD && decide (s.length ≤ 9)) && (!(s == []) && (Lib.itoa (uu 0 s : Nat) == s))) with
   | false => rfl
   | true =>
    simp only [Bool.and_eq_true, decide_eq_true_eq] at hc
    obtain ⟨⟨c1, c2⟩, c3, c4⟩ := hc
    rw [Lib.itoa_nonneg] at c4
    have hv := ny s 0 c1
    have : (10 : Nat) ^ s.length ≤ 10 ^ 9 := Nat.pow_le_pow_right (by omega) c2
    have e9 : (10 : Nat) ^ 9 = 1000000000 := by decide
    exact absurd (eq_of_beq c4).symm (h _ (by omega))
theorem YX (s : List UInt8) : r8 s = zH s := by
 by_cases h : ∃ u, u ≤ 999999999 ∧ s = Lib.decDigits u
 · obtain ⟨u, hu, rfl⟩ := h
   obtain ⟨h1, h2⟩ := kK hu
   rw [h1, h2]
 · obtain ⟨h1, h2⟩ := X7 (s := s) fun u hu he => h ⟨u, hu, he⟩
   rw [h1, h2]
end Go.Proofs.YtijninlbpifonaaGreatDoor
/- Versions, packs, graphs, plain. Conditions: none. -/
namespace Go.Proofs.YtijninlbpifonaaGreatDoor
open E
set_option linter.unusedVariables false
set_option linter.unusedSimpArgs false
set_option maxRecDepth 100000
theorem wc (a b : UInt8) (x y : Str) : Op.bytesLess (a :: x) (b :: y) = (decide (a < b) || (a == b && Op.bytesLess x y)) := by
 rw [Op.bytesLess]
/-- '<=' on texts, said by '<' -/
theorem rl : ∀ x y : Str, (Op.bytesLess x y || x == y) = !(Op.bytesLess y x)
 | [], [] => rfl
 | [], b :: y => by simp [Op.bytesLess]
 | a :: x, [] => by simp [Op.bytesLess]
 | a :: x, b :: y => by
  have ih := rl x y
  rw [wc, wc]
  by_cases h1 : a < b
  · have h2 : ¬ b < a := by simp only [UInt8.lt_iff_toNat_lt] at h1 ⊢; omega
    have h3 : (b == a) = false := by
     rw [beq_eq_false_iff_ne]; intro h; subst h; simp only [UInt8.lt_iff_toNat_lt] at h1; omega
    simp [h1, h2, h3]
  · by_cases h2 : b < a
    · have h3 : (a == b) = false := by
       rw [beq_eq_false_iff_ne]; intro h; subst h; simp only [UInt8.lt_iff_toNat_lt] at h2; omega
      have h4 : ((a :: x) == (b :: y)) = false := by
       rw [beq_eq_false_iff_ne]; intro h; cases h; simp at h3
      simp [h1, h2, h3, h4]
    · have h3 : a = b := by
       apply UInt8.toNat_inj.1; simp only [UInt8.lt_iff_toNat_lt] at h1 h2; omega
      subst h3
      have e : ((a :: x) == (a :: y)) = (x == y) := by
       rw [Bool.eq_iff_iff]; simp
      simp only [h1, decide_false, Bool.false_or, beq_self_eq_true, Bool.true_and, e, ih]
theorem wI (b : UInt8) : ∀ s : Str, ya (yB b s) + (yB b s).length ≤ s.length + 1
 | [] => by simp [yB, ya]
 | x :: s => by
  have ih := wI b s
  by_cases h : x = b
  · subst h; rw [vN]; simp only [ya, List.length_cons, List.length_nil]; omega
  · cases hc : yB b s with
    | nil => exact absurd hc (rp b s)
    | cons p r =>
     rw [hc] at ih
     rw [w8 b x s p r h hc]
     simp only [ya, List.length_cons] at ih ⊢; omega
theorem qV (b : UInt8) (s : Str) : (zW b s).1.length ≤ s.length ∧ (zW b s).2.1.length ≤ s.length := by
 have h := nJ b s
 have h2 := congrArg List.length h
 rw [List.length_append] at h2
 cases hc : (zW b s).2.2 with
 | true => rw [hc] at h2; simp only [cond_true, List.length_cons] at h2; omega
 | false =>
  have := mH b s hc
  rw [this]; simp only [List.length_nil]; omega
theorem wh : ∀ {ks : List Str} {s : Str}, s ∈ ks → s.length ≤ ya ks
 | k :: ks, s, h => by
  simp only [ya]
  rcases List.mem_cons.1 h with rfl | h
  · omega
  · have := wh h; omega
theorem lA : ∀ a b : List Str, ya (a ++ b) = ya a + ya b
 | [], b => by simp [ya]
 | x :: a, b => by simp only [List.cons_append, ya, lA a b]; omega
theorem j6 : ∀ l : List Str, Lib.lens l = ya l
 | [] => rfl
 | x :: l => by
  have := j6 l
  simp only [ya, ← this]; simp [Lib.lens]
theorem join_le (sep : Str) : ∀ l : List Str, (Lib.join l sep).length ≤ ya l + sep.length * l.length
 | [] => by simp [Lib.join_nil]
 | x :: r => by rw [Lib.join_length, j6]; simp only [List.length_cons, Nat.mul_add, Nat.mul_one]; omega
theorem mr (sep : Str) (x : Str) (l : List Str) (y : Str) : Lib.join (x :: l ++ [y]) sep = Lib.join (x :: l) sep ++ (sep ++ y) := by
 rw [List.cons_append, Lib.join_cons, Lib.join_cons]; simp [Lib.joinTail]
structure Ver where
 maj : Int
 min : Int
 pat : Int
 pre : List Str
def Ver.enc (v : Ver) : List T := [.int .i64 v.maj, .int .i64 v.min, .int .i64 v.pat, .list 1 (strs v.pre)]
def Ver.zero : Ver := ⟨0, 0, 0, []⟩
def preB (b : UInt8) : Bool := (B2 (nb b) 97 122 || B2 (nb b) 48 57) || (B2 (nb b) 65 90 || nb b == 45)
def isNum (s : Str) : Bool := !(s == []) && s.all isD
def wL (p : Str) : Bool := B2 (p.length : Int) 1 20 && (p.all preB && (!(isNum p) || decide (0 ≤ zH p)))
def n9 (n : Int) : Bool := B2 n 0 999999999
def yA (v : Ver) : Bool := (n9 v.maj && (n9 v.min && n9 v.pat)) && (v.pre.all wL && decide ((v.pre.length : Int) ≤ 5))
def rB (v : Ver) : Str := (((Lib.itoa v.maj ++ [46]) ++ Lib.itoa v.min) ++ [46]) ++ Lib.itoa v.pat
def wv (c : Str) (pre : List Str) : Str := cond (pre == []) c (c ++ ([45] ++ Lib.join pre [46]))
def yd (v : Ver) : Str := cond (yA v) (wv (rB v) v.pre) []
def wN (s : Str) : Option Ver :=
 match yB 46 (zW 45 s).1 with
 | [a, b, c] => some ⟨zH a, zH b, zH c, cond (zW 45 s).2.2 (yB 46 (zW 45 s).2.1) []⟩
 | _ => none
def zE (s : Str) : Ver × Bool :=
 match wN s with
 | some v => cond (yd v == s) (v, true) (Ver.zero, false)
 | none => (Ver.zero, false)
theorem eN {s : Str} {v : Ver} (h : wN s = some v) : s ≠ [] := by
 intro e; subst e; simp [wN, zW, yB] at h
theorem yO {s : Str} (h : (zE s).2 = true) : wN s = some (zE s).1 ∧ yd (zE s).1 = s ∧ yA (zE s).1 = true ∧ s ≠ [] := by
 unfold zE at h ⊢
 cases hm : wN s with
 | none => rw [hm] at h; cases h
 | some v =>
  rw [hm] at h
  simp only at h ⊢
  have hs := eN hm
  cases hc : (yd v == s) with
  | false => rw [hc] at h; cases h
  | true =>
   have he := eq_of_beq hc
   simp only [cond_true]
   refine ⟨trivial, he, ?_, hs⟩
   cases hv : yA v with
   | true => rfl
   | false => unfold yd at he; rw [hv] at he; exact absurd he.symm hs
theorem lN (n : Int) : n9 n = true ↔ 0 ≤ n ∧ n ≤ 999999999 := by simp [n9]
theorem vr {v : Ver} (h : yA v = true) : (0 ≤ v.maj ∧ v.maj ≤ 999999999) ∧ (0 ≤ v.min ∧ v.min ≤ 999999999) ∧ (0 ≤ v.pat ∧ v.pat ≤ 999999999) ∧ v.pre.all wL = true ∧ v.pre.length ≤ 5 := by
 unfold yA at h
 simp only [Bool.and_eq_true, lN, decide_eq_true_eq] at h
 obtain ⟨⟨h1, h2, h3⟩, h4, h5⟩ := h
 exact ⟨h1, h2, h3, h4, by omega⟩
theorem s8 (s : Str) : -1 ≤ zH s ∧ zH s ≤ 999999999 := by
 unfold zH
 split
 · rename_i v _
   cases hc : ((decide (0 ≤ v) && decide (v ≤ 999999999)) && (Lib.itoa v == s)) with
   | false => simp
   | true =>
    simp only [Bool.and_eq_true, decide_eq_true_eq] at hc
    simp only [cond_true]; omega
 · simp
/-- with one number more behind -/
def rQ (v : Ver) : Ver := ⟨v.maj, v.min, v.pat, v.pre ++ [[48]]⟩
theorem YS (c : Str) (x : Str) (l : List Str) : wv c ((x :: l) ++ [[48]]) = wv c (x :: l) ++ [46, 48] := by
 unfold wv
 rw [mr]
 simp
theorem beq_nil_cons {α : Type} [BEq α] (x : α) (l : List α) : ((x :: l) == []) = false := rfl
/-- a version's text with '.0' behind is read as the version with one part more, where that is right -/
theorem X8 {s : Str} (h : (zE s).2 = true) (hp : (zE s).1.pre ≠ []) :
 zE (s ++ [46, 48]) = cond (yA (rQ (zE s).1)) (rQ (zE s).1, true) (Ver.zero, false) ∧ yd (rQ (zE s).1) = cond (yA (rQ (zE s).1)) (s ++ [46, 48]) [] := by
 obtain ⟨hm, ht, ho, hs⟩ := yO h
 generalize (zE s).1 = v at *
 have hmk : wN (s ++ [46, 48]) = some (rQ v) := by
  unfold wN at hm ⊢
  have he := nJ 45 s
  have hn := dR 45 s
  cases hc : (zW 45 s).2.2 with
  | false =>
   rw [hc] at hm
   split at hm
   · cases hm; exact absurd rfl hp
   · cases hm
  | true =>
   rw [hc] at hm he
   simp only [cond_true] at he
   have h2 : zW 45 (s ++ [46, 48]) = ((zW 45 s).1, (zW 45 s).2.1 ++ [46, 48], true) := by
    conv => lhs; rw [he]
    rw [List.append_assoc, List.cons_append]
    exact dS 45 _ _ hn
   rw [h2]
   simp only
   split at hm
   · cases hm
     simp only [cond_true]
     rw [show (zW 45 s).2.1 ++ [46, 48] = (zW 45 s).2.1 ++ 46 :: [48] from rfl, dQ]
     rfl
   · cases hm
 have htx : yd (rQ v) = cond (yA (rQ v)) (s ++ [46, 48]) [] := by
  have ht' := ht
  unfold yd at ht' ⊢
  rw [ho] at ht'
  simp only [cond_true] at ht'
  congr 1
  rw [← ht']
  cases hv : v.pre with
  | nil => exact absurd hv hp
  | cons x l =>
   show wv (rB v) (v.pre ++ [[48]]) = _
   rw [hv]
   exact YS _ x l
 refine ⟨?_, htx⟩
 unfold zE
 rw [hmk]
 simp only
 rw [htx]
 cases hk : yA (rQ v) with
 | true => simp
 | false =>
  simp only [cond_false]
  have : (([] : Str) == s ++ [46, 48]) = false := by rw [beq_eq_false_iff_ne]; intro e; have := congrArg List.length e; simp at this
  rw [this]; rfl
/-- the text that a version ends ahead of, where it stands alone -/
def xE (a b c : Int) : Str := yd ⟨a, b, c, [[48]]⟩
def lS (v : Ver) : Str := cond (v.pre == []) (xE v.maj v.min (v.pat + 1)) (yd (rQ v))
def vh (s : Str) : Option (Str × Str) := cond ((zE s).2 && !(lS (zE s).1 == [])) (some (s, lS (zE s).1)) none
def upV (v : Ver) (part : Int) : Ver := cond (part == 0) ⟨v.maj + 1, 0, 0, []⟩ (cond (part == 1) ⟨v.maj, v.min + 1, 0, []⟩ ⟨v.maj, v.min, cond (v.pre == []) (v.pat + 1) v.pat, []⟩)
def wM (v : Ver) (part : Int) : Ver := cond (!(yA v) || !(B2 part 0 2)) v (cond (yA (upV v part)) (upV v part) v)
def yE (a b : Int) : Int := cond (decide (a < b)) (-1) (cond (decide (a > b)) 1 0)
def rT (a b : Str) : Int := cond (Op.bytesLess a b) (-1) (cond (!(Op.bytesLess a b || a == b)) 1 0)
def ud (a b : Str) : Int := cond (decide (zH a ≥ 0) && decide (zH b ≥ 0)) (yE (zH a) (zH b)) (cond (decide (zH a ≥ 0)) (-1) (cond (decide (zH b ≥ 0)) 1 (rT a b)))
/-- the first place at which parts differ -/
def uf : List Str → List Str → Option Int
 | a :: l, b :: m => cond (ud a b == 0) (uf l m) (some (ud a b))
 | _, _ => none
def vc (a b : List Str) : Int := (uf a b).getD (yE (a.length : Int) (b.length : Int))
def mL (a b : Ver) : Int :=
 cond (yE a.maj b.maj == 0) (cond (yE a.min b.min == 0) (cond (yE a.pat b.pat == 0)
  (cond (a.pre == [] || b.pre == []) (yE (b.pre.length : Int) (a.pre.length : Int)) (vc a.pre b.pre))
  (yE a.pat b.pat)) (yE a.min b.min)) (yE a.maj b.maj)
theorem vA (a b : Int) : (yE a b == 0) = (a == b) := by
 unfold yE
 by_cases h1 : a < b
 · simp [h1]; omega
 · by_cases h2 : a > b
   · simp [h1, h2]; omega
   · simp [h1, h2]; omega
theorem uN (a b c a' b' c' : Int) : (mL ⟨a, b, c, []⟩ ⟨a', b', c', []⟩ == 0) = (a == a' && (b == b' && c == c')) := by
 unfold mL
 simp only [vA]
 cases h1 : (a == a') with
 | false => simp only [cond_false]; rw [vA, h1]; rfl
 | true =>
  cases h2 : (b == b') with
  | false => simp only [cond_true, cond_false]; rw [vA, h2]; rfl
  | true =>
   cases h3 : (c == c') with
   | false => simp only [cond_true, cond_false]; rw [vA, h3]; rfl
   | true => rfl
def yT (v : Ver) : Ver := ⟨v.maj, v.min, v.pat, []⟩
def lP (v : Ver) (part : Int) : Str × Bool := cond (mL (wM (yT v) part) (yT v) == 0) ([], false) (yd ⟨(wM (yT v) part).maj, (wM (yT v) part).min, (wM (yT v) part).pat, [[48]]⟩, true)
theorem SV : wL [48] = true := by
 unfold wL
 have h1 : ([48] : Str).all preB = true := by decide
 have h2 : decide (0 ≤ zH [48]) = true := by
  have := (kK (u := 0) (by omega)).1
  rw [show Lib.decDigits 0 = [48] by rw [Lib.decDigits_one (by omega)]; rfl] at this
  rw [this]; rfl
 rw [h1, h2]; simp
theorem cD (v : Ver) : yA (yT v) = (n9 v.maj && (n9 v.min && n9 v.pat)) := by simp [yA, yT]
theorem uY (a b c : Int) : yA ⟨a, b, c, [[48]]⟩ = (n9 a && (n9 b && n9 c)) := by simp [yA, SV]
theorem rV (a b c : Int) : (xE a b c == []) = !(n9 a && (n9 b && n9 c)) := by
 unfold xE yd
 rw [uY]
 cases (n9 a && (n9 b && n9 c)) with
 | false => rfl
 | true => simp [wv, rB]
/-- the next one of a part is told by both in one way -/
theorem UR {v : Ver} (ho : yA v = true) (part : Int) (hp : part = 0 ∨ part = 1 ∨ part = 2) :
 lP v part = (let h := xE (cond (part == 0) (v.maj + 1) v.maj) (cond (part == 0) 0 (cond (part == 1) (v.min + 1) v.min)) (cond (part == 2) (v.pat + 1) 0); (h, !(h == []))) := by
 obtain ⟨h1, h2, h3, _, _⟩ := vr ho
 have hb : yA (yT v) = true := by
  rw [cD]; simp only [Bool.and_eq_true, lN]; exact ⟨h1, h2, h3⟩
 have n1 : n9 v.maj = true := (lN _).2 h1
 have n2 : n9 v.min = true := (lN _).2 h2
 have n3 : n9 v.pat = true := (lN _).2 h3
 have n0 : n9 0 = true := by decide
 unfold lP wM
 rw [hb]
 rcases hp with rfl | rfl | rfl
 · have e : upV (yT v) 0 = ⟨v.maj + 1, 0, 0, []⟩ := rfl
   rw [e]
   simp only [Bool.not_true, Bool.false_or, show B2 0 0 2 = true from rfl, cond_false]
   rw [show yA ⟨v.maj + 1, 0, 0, []⟩ = n9 (v.maj + 1) by simp [yA, n0]]
   simp only [show ((0 : Int) == 0) = true from rfl, cond_true, show ((0 : Int) == 2) = false from rfl, cond_false]
   rw [rV, n0]
   cases hn : n9 (v.maj + 1) with
   | true =>
    have : (v.maj + 1 == v.maj) = false := by rw [beq_eq_false_iff_ne]; omega
    simp only [cond_true, yT, uN, this]
    simp [xE]
   | false =>
    simp [uN, xE, yd, uY, hn, yT]
 · have e : upV (yT v) 1 = ⟨v.maj, v.min + 1, 0, []⟩ := rfl
   rw [e]
   simp only [Bool.not_true, Bool.false_or, show B2 1 0 2 = true from rfl, cond_false]
   rw [show yA ⟨v.maj, v.min + 1, 0, []⟩ = n9 (v.min + 1) by simp [yA, n0, n1]]
   simp only [show ((1 : Int) == 0) = false from rfl, show ((1 : Int) == 1) = true from rfl, cond_true, show ((1 : Int) == 2) = false from rfl, cond_false]
   rw [rV, n0, n1]
   cases hn : n9 (v.min + 1) with
   | true =>
    have : (v.min + 1 == v.min) = false := by rw [beq_eq_false_iff_ne]; omega
    simp only [cond_true, yT, uN, this]
    simp [xE]
   | false =>
    simp [uN, xE, yd, uY, hn, yT]
 · have e : upV (yT v) 2 = ⟨v.maj, v.min, v.pat + 1, []⟩ := rfl
   rw [e]
   simp only [Bool.not_true, Bool.false_or, show B2 2 0 2 = true from rfl, cond_false]
   rw [show yA ⟨v.maj, v.min, v.pat + 1, []⟩ = n9 (v.pat + 1) by simp [yA, n1, n2]]
   simp only [show ((2 : Int) == 0) = false from rfl, show ((2 : Int) == 1) = false from rfl, cond_true, show ((2 : Int) == 2) = true from rfl, cond_false]
   rw [rV, n1, n2]
   cases hn : n9 (v.pat + 1) with
   | true =>
    have : (v.pat + 1 == v.pat) = false := by rw [beq_eq_false_iff_ne]; omega
    simp only [cond_true, yT, uN, this]
    simp [xE]
   | false =>
    simp [uN, xE, yd, uY, hn, yT]
end Go.Proofs.YtijninlbpifonaaGreatDoor

/- Joined: V3 K7 J5 M1 M2 M3 M4 M5 M6 M7 M8 M9 B1 K8 V4 K9 G3 V5 V6 V7 V8 V9 V10 V11 K25 I4 V12 G5 V13 K32. Conditions: those of each lemma. -/
import Derived.Test.YtonbkdklidfmfaaGreatDoorqJ
import Derived.Test.YtonbkdklidfmfaaGreatDoorqK
import Derived.Test.YtonbkdklidfmfaaGreatDoorqI
set_option linter.unusedVariables false
set_option linter.unusedSimpArgs false
namespace Go.Proofs.YtonbkdklidfmfaaGreatDoor
open E
set_option linter.unusedVariables false
set_option linter.unusedSimpArgs false
set_option maxRecDepth 100000
def UY : Str := [115, 104, 97, 49]
def iB : Str := [115, 104, 97, 50, 53, 54]
def h1S : Str := [104, 49]
def iA : Str := [115, 104, 97, 53, 49, 50]
def uz (a : Str) : Int := cond (a == UY) 20 (cond (a == iB || a == h1S) 32 (cond (a == iA) 64 (-1)))
def wL (prev : Option Str) (s : Str) : Bool := match prev with
 | none => true
 | some p => Op.bytesLess p s
def vz : Option Str → List zC → Bool
 | _, [] => true
 | prev, s :: r => (((s.bytes.length : Int) == uz s.alg) && wL prev s.alg) && vz (some s.alg) r
def keyOf (p : z7) : Str := (p.name ++ [64]) ++ p.version
def kb (ps : List z7) (k : Str) : Bool := ps.any fun p => keyOf p == k
def tW (ps : List z7) (k : Str) : Option Nat := vZ (fun p => keyOf p == k) ps 0
def xh (ps : List z7) : Option Str → List Str → Bool
 | _, [] => true
 | prev, k :: r => (kb ps k && wL prev k) && xh ps (some k) r
def uB (p : z7) : Bool := sI p.name && ((vB p.version).isSome && (tH p.source && vz none p.sums))
def xF (ps : List z7) : Option Str → List z7 → Bool
 | _, [] => true
 | prev, p :: r => (uB p && (wL prev (keyOf p) && xh ps none p.zr)) && xF ps (some (keyOf p)) r
def zZ (g : zz) : Bool := xF g.packs none g.packs && (decide ((g.packs.length : Int) ≤ 40) && xh g.packs none g.top)
theorem UG {α : Type} (p : α → Bool) (l : List α) : decide (ixI (vZ p l 0) < 0) = !(l.any p) := by
 rw [← qZ p l 0]
 cases vZ p l 0 with
 | none => rfl
 | some n =>
  have h : ¬ ((n : Int) < 0) := by omega
  show decide ((n : Int) < 0) = false
  exact decide_eq_false h
theorem uU {α : Type} (f : α → List T) (pre : List α) (q : α) (rest : List α) : uH ((pre ++ [q] ++ rest).map f) (((pre ++ [q]).length : Int) - 1) = some (f q) := by
 unfold uH
 rw [if_pos (by simp)]
 have e : (((pre ++ [q]).length : Int) - 1).toNat = pre.length := by simp
 rw [e]
 simp
theorem r9 {α : Type} (f : α → List T) (pre : List α) (x : α) (rest : List α) : ((pre ++ x :: rest).map f)[pre.length]? = some (f x) := by simp
theorem iM (p : z7) : (keyOf p).length ≤ p.y7 + 1 := by
 unfold keyOf z7.y7
 simp only [List.length_append, List.length_cons, List.length_nil]; omega
theorem wu {α : Type} (l : List α) : l = [] ∨ ∃ p q, l = p ++ [q] := by
 rcases List.eq_nil_or_concat l with h | ⟨p, q, h⟩
 · exact .inl h
 · exact .inr ⟨p, q, by rw [h, List.concat_eq_append]⟩
end Go.Proofs.YtonbkdklidfmfaaGreatDoor
/- Packs and graphs, by both. Conditions: those of each lemma. -/
namespace Go.Proofs.YtonbkdklidfmfaaGreatDoor
open E
set_option linter.unusedSimpArgs false
set_option linter.unusedVariables false
set_option maxRecDepth 100000
theorem gf (p : z7) (hb : p.y7 ≤ 4194304) : zo (EV Tryz.prog pol) 66 [.agg (p.enc.map .t)] = some (.t (.str (keyOf p))) := by
 obtain ⟨name, version, source, sums, dev, zr⟩ := p
 simp only [z7.y7] at hb
 simp only [z7.enc, List.map_cons, List.map_nil, keyOf]
 apply zw
 refine zy rfl Tryz.func66 rfl (by kernel_rfl) ?_
 unfold Tryz.f66
 simp (disch := ((try simp only [LL]); omega)) only [↓GO, ↓DRW, GA, GX, ren, zm, za, refs, z8, cst, zq, isC, bin, una, z6, zd, blt, asArg, zg, zc, zf, z1, E.mkS, unN, ze, zn, zb, GS, simprocAttr, GZ, ya]
theorem uD (p : z7) (hb : p.y7 ≤ 4194304) : zo (EV Tryz.prog pol) 41 [.agg (p.enc.map .t)] = some (.t (.str (keyOf p))) := by
 obtain ⟨name, version, source, sums, dev, zr⟩ := p
 simp only [z7.y7] at hb
 simp only [z7.enc, List.map_cons, List.map_nil, keyOf]
 apply zw
 refine zy rfl Tryz.func41 rfl (by kernel_rfl) ?_
 unfold Tryz.f41
 simp (disch := ((try simp only [LL]); omega)) only [↓GO, ↓DRW, GA, GX, ren, zm, za, refs, z8, cst, zq, isC, bin, una, z6, zd, blt, asArg, zg, zc, zf, z1, E.mkS, unN, ze, zn, zb, GS, simprocAttr, GZ, ya]
theorem c_slI (a : Str) : zo (EV Tryz.prog pol) 161 [.t (.str a)] = some (.t (.int .i64 (uz a))) := by
 unfold uz UY iB h1S iA
 cases h1 : (a == [115, 104, 97, 49]) <;> cases h2 : (a == [115, 104, 97, 50, 53, 54]) <;> cases h3 : (a == [104, 49]) <;> cases h4 : (a == [115, 104, 97, 53, 49, 50])
 all_goals
  apply zw
  refine zy rfl Tryz.func161 rfl (by kernel_rfl) ?_
  unfold Tryz.f161
  simp (disch := ((try simp only [LL]); omega)) only [↓GO, ↓DRW, GA, GX, ren, zm, za, refs, z8, cst, zq, isC, bin, una, z6, zd, blt, asArg, zg, zc, zf, z1, E.mkS, unN, ze, zn, zb, GS, simprocAttr, GZ, h1, h2, h3, h4]
theorem Rl (a : Str) : zo (EV Tryz.prog pol) 119 [.t (.str a)] = some (.t (.int .i64 (uz a))) := by
 unfold uz UY iB h1S iA
 cases h1 : (a == [115, 104, 97, 49]) <;> cases h2 : (a == [115, 104, 97, 50, 53, 54]) <;> cases h3 : (a == [104, 49]) <;> cases h4 : (a == [115, 104, 97, 53, 49, 50])
 all_goals
  apply zw
  refine zy rfl Tryz.func119 rfl (by kernel_rfl) ?_
  unfold Tryz.f119
  simp (disch := ((try simp only [LL]); omega)) only [↓GO, ↓DRW, GA, GX, ren, zm, za, refs, z8, cst, zq, isC, bin, una, z6, zd, blt, asArg, zg, zc, zf, z1, E.mkS, unN, ze, zn, zb, GS, simprocAttr, GZ, h1, h2, h3, h4]
theorem aR (es : List zC) (hl : es.length ≤ 4194304) : ∀ (rest pre : List zC), es = pre ++ rest →
 EV Tryz.prog pol (.loop 126 26 0 [.t (.list 2 (zC.zh es)), .t (.list 2 (zC.zh es)), .t (.int .i64 (es.length : Int)), .t (.int .i64 (pre.length : Int))] []) = some (cond (vz (pre.getLast?.map zC.alg) rest) (.loop (.exit 0) [.bad] []) (.loop .ret [.t (.bool false)] []))
 | [], pre, hs => by
  have c : decide ((pre.length : Int) < (es.length : Int)) = false := by simp [hs]
  refine zj Tryz.func126 rfl rfl ?_
  simp (disch := ((try simp only [LL]); omega)) only [↓GO, ↓DRW, GA, GX, ren, zm, za, refs, z8, cst, zq, isC, bin, una, z6, zd, blt, asArg, zg, zc, zf, z1, E.mkS, unN, ze, zn, zb, GS, simprocAttr, GZ, c, vz]
 | x :: rest, pre, hs => by
  have c : decide ((pre.length : Int) < (es.length : Int)) = true := by simp [hs]; omega
  have hget : (zC.zh es)[pre.length]? = some [.str x.alg, .str x.bytes] := by rw [hs]; exact r9 zC.enc pre x rest
  have hlen : pre.length + rest.length + 1 ≤ es.length := by rw [hs]; simp; omega
  have IH := aR es hl rest (pre ++ [x]) (by rw [hs]; simp)
  have hk := c_slI x.alg
  rw [show ((pre ++ [x]).length : Int) = (pre.length : Int) + 1 by simp, show (pre ++ [x]).getLast?.map zC.alg = some x.alg by simp] at IH
  rw [vz]
  generalize uz x.alg = n at *
  rcases wu pre with rfl | ⟨pre', q, rfl⟩
  · clear hs
    simp only [List.length_nil, List.getLast?_nil, Option.map_none, wL, Int.natCast_zero, Int.zero_add] at *
    cases h1 : ((x.bytes.length : Int) == n)
    all_goals
     refine zj Tryz.func126 rfl rfl ?_
     simp (disch := ((try simp only [LL]); omega)) only [↓GO, ↓DRW, GA, GX, ren, zm, za, refs, z8, cst, zq, isC, bin, una, z6, zd, blt, asArg, zg, zc, zf, z1, E.mkS, unN, ze, zn, zb, GS, simprocAttr, GZ, zC.zu, c, hget, zk, hk, h1, bne, IH, Int.zero_add]
  · have hprev : uH (zC.zh es) (((pre' ++ [q]).length : Int) - 1) = some [.str q.alg, .str q.bytes] := by rw [hs]; exact uU zC.enc pre' q (x :: rest)
    have hge : 1 ≤ (pre' ++ [q]).length := by simp
    have hgt : decide (((pre' ++ [q]).length : Int) > 0) = true := by simp only [decide_eq_true_eq]; omega
    have hcmp := pq x.alg q.alg
    rw [show (pre' ++ [q]).getLast?.map zC.alg = some q.alg by simp]
    simp only [wL]
    clear hs
    generalize (pre' ++ [q]).length = m at *
    cases h1 : ((x.bytes.length : Int) == n) <;> cases h2 : Op.bytesLess q.alg x.alg <;> rw [h2] at hcmp
    all_goals
     refine zj Tryz.func126 rfl rfl ?_
     simp (disch := ((try simp only [LL]); omega)) only [↓GO, ↓DRW, GA, GX, ren, zm, za, refs, z8, cst, zq, isC, bin, una, z6, zd, blt, asArg, zg, zc, zf, z1, E.mkS, unN, ze, zn, zb, GS, simprocAttr, GZ, zC.zu, c, hget, zk, hk, h1, bne, hgt, hprev, hcmp, IH]
theorem Sh (es : List zC) (hl : es.length ≤ 4194304) : zo (EV Tryz.prog pol) 126 [.t (.list 2 (zC.zh es))] = some (.t (.bool (vz none es))) := by
 have IH := aR es hl es [] rfl
 simp only [List.length_nil, Int.natCast_zero, List.getLast?_nil, Option.map_none] at IH
 apply zw
 refine zy rfl Tryz.func126 rfl (by kernel_rfl) ?_
 unfold Tryz.f126
 cases h : vz none es <;> rw [h] at IH <;> simp only [cond_true, cond_false] at IH <;> simp (disch := ((try simp only [LL]); omega)) only [↓GO, ↓DRW, GA, GX, ren, zm, za, refs, z8, cst, zq, isC, bin, una, z6, zd, blt, asArg, zg, zc, zf, z1, E.mkS, unN, ze, zn, zb, GS, simprocAttr, GZ, zC.zu, IH]
theorem aU (p : z7) (hb : p.y7 ≤ 4194304) : ∀ (rest pre : List zC), p.sums = pre ++ rest →
 EV Tryz.prog pol (.loop 83 26 0 [.ptr 0 0 0, .t (.int .i64 (pre.length : Int))] [.vs 6 [p.enc.map .t]]) = some (cond (vz (pre.getLast?.map zC.alg) rest) (.loop (.exit 0) [.ptr 0 0 0, .bad] [.vs 6 [p.enc.map .t]]) (.loop .ret [.ptr 0 0 0, .t (.bool false)] [.vs 6 [p.enc.map .t]]))
 | [], pre, hs => by
  have c : decide ((pre.length : Int) < (p.sums.length : Int)) = false := by simp [hs]
  simp only [z7.enc, List.map_cons, List.map_nil]
  refine zj Tryz.func83 rfl rfl ?_
  simp (disch := ((try simp only [LL]); omega)) only [↓GO, ↓DRW, GA, GX, ren, zm, za, refs, z8, cst, zq, isC, bin, una, z6, zd, blt, asArg, zg, zc, zf, z1, E.mkS, unN, ze, zn, zb, GS, simprocAttr, GZ, c, zC.zu, vz, zD]
 | x :: rest, pre, hs => by
  have c : decide ((pre.length : Int) < (p.sums.length : Int)) = true := by simp [hs]; omega
  have hget : (zC.zh p.sums)[pre.length]? = some [.str x.alg, .str x.bytes] := by rw [hs]; exact r9 zC.enc pre x rest
  have hlen : pre.length + rest.length + 1 ≤ p.sums.length := by rw [hs]; simp; omega
  have hpb : p.sums.length ≤ 4194304 := by unfold z7.y7 at hb; omega
  have IH := aU p hb rest (pre ++ [x]) (by rw [hs]; simp)
  have hk := Rl x.alg
  rw [show ((pre ++ [x]).length : Int) = (pre.length : Int) + 1 by simp, show (pre ++ [x]).getLast?.map zC.alg = some x.alg by simp] at IH
  rw [vz]
  have hco : ((x.bytes.length : Int) == uz x.alg) = (uz x.alg == (x.bytes.length : Int)) := Bool.beq_comm
  rw [hco]
  generalize uz x.alg = n at *
  simp only [z7.enc, List.map_cons, List.map_nil] at IH ⊢
  rcases wu pre with rfl | ⟨pre', q, rfl⟩
  · clear hs
    simp only [List.length_nil, List.getLast?_nil, Option.map_none, wL, Int.natCast_zero, Int.zero_add] at *
    cases h1 : (n == (x.bytes.length : Int))
    all_goals
     refine zj Tryz.func83 rfl rfl ?_
     simp (disch := ((try simp only [LL]); omega)) only [↓GO, ↓DRW, GA, GX, ren, zm, za, refs, z8, cst, zq, isC, bin, una, z6, zd, blt, asArg, zg, zc, zf, z1, E.mkS, unN, ze, zn, zb, GS, simprocAttr, GZ, zC.zu, c, hget, zk, hk, h1, bne, IH, Int.zero_add, zD]
  · have hprev : uH (zC.zh p.sums) (((pre' ++ [q]).length : Int) - 1) = some [.str q.alg, .str q.bytes] := by rw [hs]; exact uU zC.enc pre' q (x :: rest)
    have hge : 1 ≤ (pre' ++ [q]).length := by simp
    have hgt : decide (((pre' ++ [q]).length : Int) > 0) = true := by simp only [decide_eq_true_eq]; omega
    rw [show (pre' ++ [q]).getLast?.map zC.alg = some q.alg by simp]
    simp only [wL]
    clear hs
    generalize (pre' ++ [q]).length = m at *
    cases h1 : (n == (x.bytes.length : Int)) <;> cases h2 : Op.bytesLess q.alg x.alg
    all_goals
     refine zj Tryz.func83 rfl rfl ?_
     simp (disch := ((try simp only [LL]); omega)) only [↓GO, ↓DRW, GA, GX, ren, zm, za, refs, z8, cst, zq, isC, bin, una, z6, zd, blt, asArg, zg, zc, zf, z1, E.mkS, unN, ze, zn, zb, GS, simprocAttr, GZ, zC.zu, c, hget, zk, hk, h1, bne, hgt, hprev, h2, IH, zD]
theorem S6 (s : Str) : ((exT s).length : Int) = cond (vB s).isSome 1 0 := by
 unfold exT
 cases vB s <;> rfl
theorem Sj (p : z7) (hb : p.y7 ≤ 1048576) : zo (EV Tryz.prog pol) 83 [.agg (p.enc.map .t)] = some (.t (.bool (uB p))) := by
 have L := aU p (by omega) p.sums [] rfl
 simp only [z7.y7] at hb
 have h1 := Sl p.name (by omega)
 have h2 := c_exR p.version (by omega)
 have h3 := WB p.source (by omega)
 have h4 := S6 p.version
 simp only [List.length_nil, Int.natCast_zero, List.getLast?_nil, Option.map_none] at L
 simp only [z7.enc, List.map_cons, List.map_nil] at L ⊢
 unfold uB
 generalize exT p.version = et at *
 generalize vz none p.sums = b1 at *
 generalize sI p.name = b2 at *
 generalize tH p.source = b3 at *
 generalize (vB p.version).isSome = b4 at *
 cases b1 <;> simp only [cond_true, cond_false] at L <;> cases b2 <;> cases b4 <;> simp only [cond_true, cond_false] at h4 <;> cases b3
 all_goals
  apply zw
  refine zy rfl Tryz.func83 rfl (by kernel_rfl) ?_
  unfold Tryz.f83
  simp (disch := ((try simp only [LL]); omega)) only [↓GO, ↓DRW, GA, GX, ren, zm, za, refs, z8, cst, zq, isC, bin, una, z6, zd, blt, asArg, zg, zc, zf, z1, E.mkS, unN, ze, zn, zb, GS, simprocAttr, GZ, L, h1, h2, h3, h4, zD, zC.zu]
theorem Wn (s : Str) : ((exT s).length : Int) = cond (vB s).isSome 1 0 := by
 unfold exT
 cases vB s <;> rfl
theorem Sk (p : z7) (hb : p.y7 ≤ 1048576) : zo (EV Tryz.prog pol) 85 [.agg (p.enc.map .t)] = some (.t (.bool (uB p))) := by
 simp only [z7.y7] at hb
 have L := Sh p.sums (by omega)
 have h1 := Sm p.name (by omega)
 have h2 := c_exI p.version (by omega)
 have h3 := WC p.source (by omega)
 have h4 := Wn p.version
 simp only [z7.enc, List.map_cons, List.map_nil]
 unfold uB
 generalize exT p.version = et at *
 generalize vz none p.sums = b1 at *
 generalize sI p.name = b2 at *
 generalize tH p.source = b3 at *
 generalize (vB p.version).isSome = b4 at *
 cases b1 <;> cases b2 <;> cases b4 <;> simp only [cond_true, cond_false] at h4 <;> cases b3
 all_goals
  apply zw
  refine zy rfl Tryz.func85 rfl (by kernel_rfl) ?_
  unfold Tryz.f85
  simp (disch := ((try simp only [LL]); omega)) only [↓GO, ↓DRW, GA, GX, ren, zm, za, refs, z8, cst, zq, isC, bin, una, z6, zd, blt, asArg, zg, zc, zf, z1, E.mkS, unN, ze, zn, zb, GS, simprocAttr, GZ, L, h1, h2, h3, h4, zD, zC.zu]
def GB (g : zz) : Prop := g.y7 ≤ 1048576
theorem GB.len {g : zz} (h : GB g) : g.packs.length ≤ 1048576 ∧ g.top.length + yl g.top ≤ 1048576 ∧ ∀ p ∈ g.packs, p.y7 ≤ 1048576 := by
 unfold GB zz.y7 at h
 refine ⟨by omega, by omega, fun p hp => ?_⟩
 have := z7.yp hp
 omega
theorem Ss (p : z7) (k : Str) (hb : p.y7 ≤ 1048576) : zo (EV Tryz.prog pol) 88 [.agg (p.enc.map .t), .t (.fp [.str k])] = some (.t (.bool (keyOf p == k))) := by
 have h := gf p (by omega)
 simp only [z7.enc, List.map_cons, List.map_nil] at h ⊢
 apply zw
 refine zy rfl Tryz.func88 rfl (by kernel_rfl) ?_
 unfold Tryz.f88
 simp (disch := ((try simp only [LL]); omega)) only [↓GO, ↓DRW, GA, GX, ren, zm, za, refs, z8, cst, zq, isC, bin, una, z6, zd, blt, asArg, zg, zc, zf, z1, E.mkS, unN, ze, zn, zb, GS, simprocAttr, GZ, h]
theorem iV (g : zz) (k : Str) (hB : GB g) : zo (EV Tryz.prog pol) 33 [.agg (g.enc.map .t), .t (.str k)] = some (.t (.int .i64 (ixI (tW g.packs k)))) := by
 obtain ⟨b1, b2, b3⟩ := hB.len
 have h := si 88 [.fp [.str k]] (fun p => keyOf p == k) g.packs (by omega) (fun x hx => Ss x k (b3 x hx))
 simp only [zz.enc, List.map_cons, List.map_nil] at h ⊢
 unfold tW
 apply zw
 refine zy rfl Tryz.func33 rfl (by kernel_rfl) ?_
 unfold Tryz.f33
 simp (disch := ((try simp only [LL]); omega)) only [↓GO, ↓DRW, GA, GX, ren, zm, za, refs, z8, cst, zq, isC, bin, una, z6, zd, blt, asArg, zg, zc, zf, z1, E.mkS, unN, ze, zn, zb, GS, simprocAttr, GZ, h, vG, zD]
theorem aZ (g : zz) (k : Str) (hB : GB g) : ∀ (rest pre : List z7), g.packs = pre ++ rest →
 EV Tryz.prog pol (.loop 62 26 0 [.t (.str k), .ptr 0 0 0, .t (.int .i64 (pre.length : Int))] [.vs 2 [g.enc.map .t]]) = some (match vZ (fun p => keyOf p == k) rest pre.length with | some i => .loop .ret [.t (.int .i64 (i : Int))] [] | none => .loop (.exit 0) [.bad] [])
 | [], pre, hs => by
  have c : decide ((pre.length : Int) < (g.packs.length : Int)) = false := by simp [hs]
  simp only [zz.enc, List.map_cons, List.map_nil]
  refine zj Tryz.func62 rfl rfl ?_
  simp (disch := ((try simp only [LL]); omega)) only [↓GO, ↓DRW, GA, GX, ren, zm, za, refs, z8, cst, zq, isC, bin, una, z6, zd, blt, asArg, zg, zc, zf, z1, E.mkS, unN, ze, zn, zb, GS, simprocAttr, GZ, c, z7.zu, vZ, zD]
 | x :: rest, pre, hs => by
  obtain ⟨b1, b2, b3⟩ := hB.len
  have c : decide ((pre.length : Int) < (g.packs.length : Int)) = true := by simp [hs]; omega
  have hget : (z7.zh g.packs)[pre.length]? = some x.enc := by rw [hs]; exact r9 z7.enc pre x rest
  have hlen : pre.length + rest.length + 1 ≤ g.packs.length := by rw [hs]; simp; omega
  have hk := uD x (by have := b3 x (by rw [hs]; simp); omega)
  have IH := aZ g k hB rest (pre ++ [x]) (by rw [hs]; simp)
  rw [show ((pre ++ [x]).length : Int) = (pre.length : Int) + 1 by simp, show (pre ++ [x]).length = pre.length + 1 by simp] at IH
  clear hs
  simp only [zz.enc, z7.enc, List.map_cons, List.map_nil] at hget hk IH ⊢
  rw [vZ]
  cases h1 : (keyOf x == k)
  all_goals
   refine zj Tryz.func62 rfl rfl ?_
   simp (disch := ((try simp only [LL]); omega)) only [↓GO, ↓DRW, GA, GX, ren, zm, za, refs, z8, cst, zq, isC, bin, una, z6, zd, blt, asArg, zg, zc, zf, z1, E.mkS, unN, ze, zn, zb, GS, simprocAttr, GZ, c, z7.zu, hget, hk, h1, zk, IH, zD]
theorem iU (g : zz) (k : Str) (hB : GB g) : zo (EV Tryz.prog pol) 62 [.agg (g.enc.map .t), .t (.str k)] = some (.t (.int .i64 (ixI (tW g.packs k)))) := by
 have L := aZ g k hB g.packs [] rfl
 simp only [List.length_nil, Int.natCast_zero] at L
 simp only [zz.enc, List.map_cons, List.map_nil] at L ⊢
 unfold tW
 cases hf : vZ (fun p => keyOf p == k) g.packs 0 <;> rw [hf] at L <;> simp only at L
 all_goals
  apply zw
  refine zy rfl Tryz.func62 rfl (by kernel_rfl) ?_
  unfold Tryz.f62
  simp (disch := ((try simp only [LL]); omega)) only [↓GO, ↓DRW, GA, GX, ren, zm, za, refs, z8, cst, zq, isC, bin, una, z6, zd, blt, asArg, zg, zc, zf, z1, E.mkS, unN, ze, zn, zb, GS, simprocAttr, GZ, L, ixI, zD]
theorem aY (g : zz) (hB : GB g) (ks : List Str) (hl : ks.length ≤ 1048576) : ∀ (rest pre : List Str), ks = pre ++ rest →
 EV Tryz.prog pol (.loop 86 26 0 [.t (.list 1 (strs ks)), .ptr 0 0 0, .t (.list 1 (strs ks)), .t (.int .i64 (ks.length : Int)), .t (.int .i64 (pre.length : Int))] [.vs 2 [g.enc.map .t]]) = some (cond (xh g.packs pre.getLast? rest) (.loop (.exit 0) [.bad] []) (.loop .ret [.t (.bool false)] []))
 | [], pre, hs => by
  have c : decide ((pre.length : Int) < (ks.length : Int)) = false := by simp [hs]
  simp only [zz.enc, List.map_cons, List.map_nil]
  refine zj Tryz.func86 rfl rfl ?_
  simp (disch := ((try simp only [LL]); omega)) only [↓GO, ↓DRW, GA, GX, ren, zm, za, refs, z8, cst, zq, isC, bin, una, z6, zd, blt, asArg, zg, zc, zf, z1, E.mkS, unN, ze, zn, zb, GS, simprocAttr, GZ, c, xh, zD]
 | x :: rest, pre, hs => by
  have c : decide ((pre.length : Int) < (ks.length : Int)) = true := by simp [hs]; omega
  have hget : (strs ks)[pre.length]? = some [.str x] := by rw [hs]; exact xl pre x rest
  have hlen : pre.length + rest.length + 1 ≤ ks.length := by rw [hs]; simp; omega
  have IH := aY g hB ks hl rest (pre ++ [x]) (by rw [hs]; simp)
  have hk := iV g x hB
  have hlt := UG (fun p => keyOf p == x) g.packs
  rw [show ((pre ++ [x]).length : Int) = (pre.length : Int) + 1 by simp, show (pre ++ [x]).getLast? = some x by simp] at IH
  rw [xh]
  unfold kb
  unfold tW at hk
  generalize ixI (vZ (fun p => keyOf p == x) g.packs 0) = n at *
  generalize (g.packs.any fun p => keyOf p == x) = b1 at *
  simp only [zz.enc, List.map_cons, List.map_nil] at hk IH ⊢
  rcases wu pre with rfl | ⟨pre', q, rfl⟩
  · clear hs
    simp only [List.length_nil, List.getLast?_nil, wL, Int.natCast_zero, Int.zero_add] at *
    cases b1 <;> simp only [Bool.not_true, Bool.not_false] at hlt
    all_goals
     refine zj Tryz.func86 rfl rfl ?_
     simp (disch := ((try simp only [LL]); omega)) only [↓GO, ↓DRW, GA, GX, ren, zm, za, refs, z8, cst, zq, isC, bin, una, z6, zd, blt, asArg, zg, zc, zf, z1, E.mkS, unN, ze, zn, zb, GS, simprocAttr, GZ, zi, c, hget, zk, hk, hlt, IH, Int.zero_add, zD]
  · have hprev : uH (strs ks) (((pre' ++ [q]).length : Int) - 1) = some [.str q] := by rw [hs]; exact uU (fun s => [T.str s]) pre' q (x :: rest)
    have hge : 1 ≤ (pre' ++ [q]).length := by simp
    have hgt : decide (((pre' ++ [q]).length : Int) > 0) = true := by simp only [decide_eq_true_eq]; omega
    have hcmp := pq x q
    rw [show (pre' ++ [q]).getLast? = some q by simp]
    simp only [wL]
    clear hs
    generalize (pre' ++ [q]).length = m at *
    cases b1 <;> simp only [Bool.not_true, Bool.not_false] at hlt <;> cases h2 : Op.bytesLess q x <;> rw [h2] at hcmp
    all_goals
     refine zj Tryz.func86 rfl rfl ?_
     simp (disch := ((try simp only [LL]); omega)) only [↓GO, ↓DRW, GA, GX, ren, zm, za, refs, z8, cst, zq, isC, bin, una, z6, zd, blt, asArg, zg, zc, zf, z1, E.mkS, unN, ze, zn, zb, GS, simprocAttr, GZ, zi, c, hget, zk, hk, hlt, hgt, hprev, hcmp, IH, zD]
theorem Zy (g : zz) (hB : GB g) (ks : List Str) (hl : ks.length ≤ 1048576) : zo (EV Tryz.prog pol) 86 [.agg (g.enc.map .t), .t (.list 1 (strs ks))] = some (.t (.bool (xh g.packs none ks))) := by
 have L := aY g hB ks hl ks [] rfl
 simp only [List.length_nil, Int.natCast_zero, List.getLast?_nil] at L
 simp only [zz.enc, List.map_cons, List.map_nil] at L ⊢
 cases h : xh g.packs none ks <;> rw [h] at L <;> simp only [cond_true, cond_false] at L
 all_goals
  apply zw
  refine zy rfl Tryz.func86 rfl (by kernel_rfl) ?_
  unfold Tryz.f86
  simp (disch := ((try simp only [LL]); omega)) only [↓GO, ↓DRW, GA, GX, ren, zm, za, refs, z8, cst, zq, isC, bin, una, z6, zd, blt, asArg, zg, zc, zf, z1, E.mkS, unN, ze, zn, zb, GS, simprocAttr, GZ, L, zi, zD]
theorem aX (g : zz) (hB : GB g) (ks : List Str) (hl : ks.length ≤ 1048576) : ∀ (rest pre : List Str), ks = pre ++ rest →
 EV Tryz.prog pol (.loop 84 26 0 [.t (.list 1 (strs ks)), .ptr 0 0 0, .t (.int .i64 (pre.length : Int))] [.vs 2 [g.enc.map .t]]) = some (cond (xh g.packs pre.getLast? rest) (.loop (.exit 0) [.bad] []) (.loop .ret [.t (.bool false)] []))
 | [], pre, hs => by
  have c : decide ((pre.length : Int) < (ks.length : Int)) = false := by simp [hs]
  simp only [zz.enc, List.map_cons, List.map_nil]
  refine zj Tryz.func84 rfl rfl ?_
  simp (disch := ((try simp only [LL]); omega)) only [↓GO, ↓DRW, GA, GX, ren, zm, za, refs, z8, cst, zq, isC, bin, una, z6, zd, blt, asArg, zg, zc, zf, z1, E.mkS, unN, ze, zn, zb, GS, simprocAttr, GZ, c, zi, xh, zD]
 | x :: rest, pre, hs => by
  have c : decide ((pre.length : Int) < (ks.length : Int)) = true := by simp [hs]; omega
  have hget : (strs ks)[pre.length]? = some [.str x] := by rw [hs]; exact xl pre x rest
  have hlen : pre.length + rest.length + 1 ≤ ks.length := by rw [hs]; simp; omega
  have IH := aX g hB ks hl rest (pre ++ [x]) (by rw [hs]; simp)
  have hk := iU g x hB
  have hlt := UG (fun p => keyOf p == x) g.packs
  rw [show ((pre ++ [x]).length : Int) = (pre.length : Int) + 1 by simp, show (pre ++ [x]).getLast? = some x by simp] at IH
  rw [xh]
  unfold kb
  unfold tW at hk
  generalize ixI (vZ (fun p => keyOf p == x) g.packs 0) = n at *
  generalize (g.packs.any fun p => keyOf p == x) = b1 at *
  simp only [zz.enc, List.map_cons, List.map_nil] at hk IH ⊢
  rcases wu pre with rfl | ⟨pre', q, rfl⟩
  · clear hs
    simp only [List.length_nil, List.getLast?_nil, wL, Int.natCast_zero, Int.zero_add] at *
    cases b1 <;> simp only [Bool.not_true, Bool.not_false] at hlt
    all_goals
     refine zj Tryz.func84 rfl rfl ?_
     simp (disch := ((try simp only [LL]); omega)) only [↓GO, ↓DRW, GA, GX, ren, zm, za, refs, z8, cst, zq, isC, bin, una, z6, zd, blt, asArg, zg, zc, zf, z1, E.mkS, unN, ze, zn, zb, GS, simprocAttr, GZ, zi, c, hget, zk, hk, hlt, IH, Int.zero_add, zD]
  · have hprev : uH (strs ks) (((pre' ++ [q]).length : Int) - 1) = some [.str q] := by rw [hs]; exact uU (fun s => [T.str s]) pre' q (x :: rest)
    have hge : 1 ≤ (pre' ++ [q]).length := by simp
    have hgt : decide (((pre' ++ [q]).length : Int) > 0) = true := by simp only [decide_eq_true_eq]; omega
    rw [show (pre' ++ [q]).getLast? = some q by simp]
    simp only [wL]
    clear hs
    generalize (pre' ++ [q]).length = m at *
    cases b1 <;> simp only [Bool.not_true, Bool.not_false] at hlt <;> cases h2 : Op.bytesLess q x
    all_goals
     refine zj Tryz.func84 rfl rfl ?_
     simp (disch := ((try simp only [LL]); omega)) only [↓GO, ↓DRW, GA, GX, ren, zm, za, refs, z8, cst, zq, isC, bin, una, z6, zd, blt, asArg, zg, zc, zf, z1, E.mkS, unN, ze, zn, zb, GS, simprocAttr, GZ, zi, c, hget, zk, hk, hlt, hgt, hprev, h2, IH, zD]
theorem Zx (g : zz) (hB : GB g) (ks : List Str) (hl : ks.length ≤ 1048576) : zo (EV Tryz.prog pol) 84 [.agg (g.enc.map .t), .t (.list 1 (strs ks))] = some (.t (.bool (xh g.packs none ks))) := by
 have L := aX g hB ks hl ks [] rfl
 simp only [List.length_nil, Int.natCast_zero, List.getLast?_nil] at L
 simp only [zz.enc, List.map_cons, List.map_nil] at L ⊢
 cases h : xh g.packs none ks <;> rw [h] at L <;> simp only [cond_true, cond_false] at L
 all_goals
  apply zw
  refine zy rfl Tryz.func84 rfl (by kernel_rfl) ?_
  unfold Tryz.f84
  simp (disch := ((try simp only [LL]); omega)) only [↓GO, ↓DRW, GA, GX, ren, zm, za, refs, z8, cst, zq, isC, bin, una, z6, zd, blt, asArg, zg, zc, zf, z1, E.mkS, unN, ze, zn, zb, GS, simprocAttr, GZ, L, zi, zD]
end Go.Proofs.YtonbkdklidfmfaaGreatDoor
/- Drawn sums and packs. Conditions: those of each lemma. -/
namespace Go.Proofs.YtonbkdklidfmfaaGreatDoor
open E
set_option linter.unusedSimpArgs false
set_option linter.unusedVariables false
set_option maxRecDepth 100000
def UX (s : zC) : Prop := s.alg.length ≤ 8 ∧ s.bytes.length ≤ 64
def nj : List Str := [[104, 49], [115, 104, 97, 49], [115, 104, 97, 50, 53, 54], [115, 104, 97, 53, 49, 50]]
theorem sM (bs : List Int) (hb : okB bs) (i : Nat) (a : Str) (n : Nat) (hn : n ≤ 64) (hi : i < 4) (ha : nj[i]? = some a) (hl : uz a = (n : Int)) (hal : a.length ≤ 8) (c : Cs) (hc : cok bs c) (out : List zC) (cap : Option Nat) (ho : out.length ≤ 4) :
 ∃ (c1 : Cs) (out1 : List zC) (cap1 : Option Nat), cok bs c1 ∧ (out1 = out ∨ ∃ s, UX s ∧ out1 = out ++ [s]) ∧ ∀ R, EV Tryz.prog pol (.loop 170 122 1 [.ptr 0 0 0, .sl 1 0 out1.length cap1, .sl 2 0 4 (some 4), .t (.int .i64 ((i + 1 : Nat) : Int))] [cuR bs c1, .ts 2 (zC.zh out1), .ts 1 (strs nj)]) = some R →
  EV Tryz.prog pol (.loop 170 122 1 [.ptr 0 0 0, .sl 1 0 out.length cap, .sl 2 0 4 (some 4), .t (.int .i64 (i : Int))] [cuR bs c, .ts 2 (zC.zh out), .ts 1 (strs nj)]) = some R := by
 have c0 : decide ((i : Int) < 4) = true := by apply decide_eq_true; omega
 have c00 : decide ((0 : Int) ≤ (i : Int)) = true := by apply decide_eq_true; omega
 have hol := zC.zu out
 obtain ⟨b, c1, hc1, d1⟩ := vC bs hb c hc 3 (by decide) (by decide)
 simp only [Int.cast_ofNat_Int] at d1
 cases b with
 | false =>
  refine ⟨c1, out, cap, hc1, .inl rfl, fun R e => ?_⟩
  rw [show ((i + 1 : Nat) : Int) = (i : Int) + 1 by omega] at e
  unfold cuR at *
  generalize zC.zh out = E0 at *
  generalize strs nj = E1 at *
  refine zj Tryz.func170 rfl rfl ?_
  simp (disch := ((try simp only [LL]); omega)) only [↓GO, ↓DRW, GA, GX, ren, zm, za, refs, z8, cst, zq, isC, bin, una, z6, zd, blt, asArg, zg, zc, zf, z1, E.mkS, unN, ze, zn, zb, GS, simprocAttr, GZ, c0, d1, zk, zD, e]
 | true =>
  have d2 := Rl a
  rw [hl] at d2
  obtain ⟨s, c2, hs, hc2, d3⟩ := Q1 bs hb c1 hc1 n hn
  have hget : (strs nj)[i]? = some [.str a] := by unfold strs; rw [List.getElem?_map, ha]; rfl
  refine ⟨c2, out ++ [⟨a, s⟩], none, hc2, .inr ⟨⟨a, s⟩, ⟨hal, by simp only; omega⟩, rfl⟩, fun R e => ?_⟩
  rw [show ((i + 1 : Nat) : Int) = (i : Int) + 1 by omega, show zC.zh (out ++ [⟨a, s⟩]) = zC.zh out ++ [[.str a, .str s]] by simp [zC.zh, zC.enc], List.length_append, List.length_singleton] at e
  unfold cuR at *
  generalize zC.zh out = E0 at *
  generalize strs nj = E1 at *
  refine zj Tryz.func170 rfl rfl ?_
  simp (disch := ((try simp only [LL]); omega)) only [↓GO, ↓DRW, GA, GX, ren, zm, za, refs, z8, cst, zq, isC, bin, una, z6, zd, blt, asArg, zg, zc, zf, z1, E.mkS, unN, ze, zn, zb, GS, simprocAttr, GZ, c0, c00, d1, d2, d3, hget, hol, zk, ya, zD, e]
  all_goals (repeat (refine zQ (by kernel_rfl) ?_))
  all_goals (first | rfl | (simp (disch := ((try simp only [LL]); omega)) only [↓GO, ↓DRW, GA, GX, ren, zm, za, refs, z8, cst, zq, isC, bin, una, z6, zd, blt, asArg, zg, zc, zf, z1, E.mkS, unN, ze, zn, zb, GS, simprocAttr, GZ, c0, c00, d1, d2, d3, hget, hol, zk, ya, zD, e]))
theorem ZZ (bs : List Int) (c : Cs) (out : List zC) (cap : Option Nat) : EV Tryz.prog pol (.loop 170 122 1 [.ptr 0 0 0, .sl 1 0 out.length cap, .sl 2 0 4 (some 4), .t (.int .i64 4)] [cuR bs c, .ts 2 (zC.zh out), .ts 1 (strs nj)])
 = some (.loop (.exit 0) [.sl 1 0 out.length cap] [cuR bs c, .ts 2 (zC.zh out)]) := by
 have hol := zC.zu out
 unfold cuR
 generalize zC.zh out = E0 at *
 generalize strs nj = E1 at *
 refine zj Tryz.func170 rfl rfl ?_
 simp (disch := ((try simp only [LL]); omega)) only [↓GO, ↓DRW, GA, GX, ren, zm, za, refs, z8, cst, zq, isC, bin, una, z6, zd, blt, asArg, zg, zc, zf, z1, E.mkS, unN, ze, zn, zb, GS, simprocAttr, GZ, zD]
def oh (k : Nat) (l : List zC) : Prop := l.length ≤ k ∧ ∀ s ∈ l, UX s
theorem uc {k : Nat} {l l1 : List zC} (h : oh k l) (h1 : l1 = l ∨ ∃ s, UX s ∧ l1 = l ++ [s]) : oh (k + 1) l1 := by
 obtain ⟨h2, h3⟩ := h
 rcases h1 with rfl | ⟨s, hs, rfl⟩
 · exact ⟨by omega, h3⟩
 · refine ⟨by simp; omega, fun x hx => ?_⟩
   rcases List.mem_append.1 hx with hx | hx
   · exact h3 x hx
   · rw [List.mem_singleton.1 hx]; exact hs
theorem Q2 (bs : List Int) (hb : okB bs) (c : Cs) (hc : cok bs c) : ∃ (l : List zC) (c' : Cs) (cap : Option Nat), oh 4 l ∧ cok bs c' ∧
 EV Tryz.prog pol (.callO false 170 [.ptr 0 0 0] [cuR bs c]) = some (.call (.sl 1 0 l.length cap) [cuR bs c', .ts 2 (zC.zh l)]) := by
 have s0 : oh 0 [] := ⟨Nat.le_refl _, fun s hs => by simp at hs⟩
 obtain ⟨c1, o1, p1, h1, e1, g1⟩ := sM bs hb 0 _ 32 (by decide) (by decide) (show nj[0]? = some [104, 49] from rfl) (by decide) (by decide) c hc [] (some 0) (by decide)
 have s1 := uc s0 e1
 obtain ⟨c2, o2, p2, h2, e2, g2⟩ := sM bs hb 1 _ 20 (by decide) (by decide) (show nj[1]? = some [115, 104, 97, 49] from rfl) (by decide) (by decide) c1 h1 o1 p1 (by have := s1.1; omega)
 have s2 := uc s1 e2
 obtain ⟨c3, o3, p3, h3, e3, g3⟩ := sM bs hb 2 _ 32 (by decide) (by decide) (show nj[2]? = some [115, 104, 97, 50, 53, 54] from rfl) (by decide) (by decide) c2 h2 o2 p2 (by have := s2.1; omega)
 have s3 := uc s2 e3
 obtain ⟨c4, o4, p4, h4, e4, g4⟩ := sM bs hb 3 _ 64 (by decide) (by decide) (show nj[3]? = some [115, 104, 97, 53, 49, 50] from rfl) (by decide) (by decide) c3 h3 o3 p3 (by have := s3.1; omega)
 have s4 := uc s3 e4
 have L := g1 _ (g2 _ (g3 _ (g4 _ (ZZ bs c4 o4 p4))))
 refine ⟨o4, c4, p4, s4, h4, ?_⟩
 simp only [List.length_nil, Int.natCast_zero, show zC.zh [] = [] from rfl, show strs nj = [[.str [104, 49]], [.str [115, 104, 97, 49]], [.str [115, 104, 97, 50, 53, 54]], [.str [115, 104, 97, 53, 49, 50]]] from rfl] at L
 clear g1 g2 g3 g4 e1 e2 e3 e4 s1 s2 s3 s4 s0 hb
 unfold cuR at *
 refine zJ Tryz.func170 rfl (by kernel_rfl) ?_
 unfold Tryz.f170
 simp (disch := ((try simp only [LL]); omega)) only [↓GO, ↓DRW, GA, GX, ren, zm, za, refs, z8, cst, zq, isC, bin, una, z6, zd, blt, asArg, zg, zc, zf, z1, E.mkS, unN, ze, zn, zb, GS, simprocAttr, GZ, L, zD]
def smP (k : Nat) (p : z7) : Prop := p.name.length ≤ 32 ∧ p.version.length ≤ 300 ∧ p.source.length ≤ 32 ∧ oh 5 p.sums ∧ p.zr.length ≤ k ∧ ∀ s ∈ p.zr, s.length ≤ 400
set_option maxHeartbeats 2000000 in
theorem Qa (bs : List Int) (hb : okB bs) (c : Cs) (hc : cok bs c) : ∃ (p : z7) (c' : Cs) (cap : Option Nat), smP 0 p ∧ cok bs c' ∧
 EV Tryz.prog pol (.callO false 134 [.ptr 0 0 0] [cuR bs c]) = some (.call (.agg [.t (.str p.name), .t (.str p.version), .t (.str p.source), .sl 1 0 p.sums.length cap, .t (.bool p.dev), .nil 1]) [cuR bs c', .ts 2 (zC.zh p.sums)]) := by
 obtain ⟨nm, c1, hn, h1, d1⟩ := UN bs hb c hc
 obtain ⟨vr, c2, hv, h2, d2⟩ := Zw bs hb c1 h1
 obtain ⟨sm, c3, cap, hs, h3, d3⟩ := Q2 bs hb c2 h2
 obtain ⟨dv, c4, h4, d4⟩ := vC bs hb c3 h3 4 (by decide) (by decide)
 obtain ⟨b, c5, h5, d5⟩ := vC bs hb c4 h4 2 (by decide) (by decide)
 simp only [Int.cast_ofNat_Int] at d4 d5
 have hs5 : oh 5 sm := ⟨by have := hs.1; omega, hs.2⟩
 have hol := zC.zu sm
 cases b with
 | false =>
  refine ⟨⟨nm, vr, [], sm, dv, []⟩, c5, cap, ⟨hn, hv, by simp, hs5, Nat.le_refl _, fun s hs => by simp at hs⟩, h5, ?_⟩
  simp only
  clear hb hn hv hs hs5
  unfold cuR at *
  generalize zC.zh sm = E0 at *
  refine zJ Tryz.func134 rfl (by kernel_rfl) ?_
  unfold Tryz.f134
  simp (disch := ((try simp only [LL]); omega)) only [↓GO, ↓DRW, GA, GX, ren, zm, za, refs, z8, cst, zq, isC, bin, una, z6, zd, blt, asArg, zg, zc, zf, z1, E.mkS, unN, ze, zn, zb, GS, simprocAttr, GZ, d1, d2, d3, d4, d5, zD]
 | true =>
  obtain ⟨s, c6, hs0, h6, d6⟩ := uC bs hb c5 h5 [[104, 116, 116, 112, 115, 58, 47, 47, 114, 101, 103, 46, 111, 114, 103, 47, 120, 46, 116, 103, 122], [103, 105, 116, 43, 115, 115, 104, 58, 120], [46]] 3 rfl (by decide) (by decide) (some 3)
  have hsl : s.length ≤ 32 := by
   simp only [List.mem_cons, List.not_mem_nil, or_false] at hs0
   rcases hs0 with rfl | rfl | rfl <;> decide
  refine ⟨⟨nm, vr, s, sm, dv, []⟩, c6, cap, ⟨hn, hv, hsl, hs5, Nat.le_refl _, fun s hs => by simp at hs⟩, h6, ?_⟩
  simp only [strs, List.map_cons, List.map_nil] at d6 ⊢
  clear hb hn hv hs hs5 hs0
  unfold cuR at *
  generalize zC.zh sm = E0 at *
  refine zJ Tryz.func134 rfl (by kernel_rfl) ?_
  unfold Tryz.f134
  simp (disch := ((try simp only [LL]); omega)) only [↓GO, ↓DRW, GA, GX, ren, zm, za, refs, z8, cst, zq, isC, bin, una, z6, zd, blt, asArg, zg, zc, zf, z1, E.mkS, unN, ze, zn, zb, GS, simprocAttr, GZ, d1, d2, d3, d4, d5, d6, zD]
end Go.Proofs.YtonbkdklidfmfaaGreatDoor
/- The laws' own functions over trees: sizes, comparisons. Conditions: those of each lemma. -/
namespace Go.Proofs.YtonbkdklidfmfaaGreatDoor
open E
set_option linter.unusedSimpArgs false
set_option linter.unusedVariables false
set_option maxRecDepth 100000
end Go.Proofs.YtonbkdklidfmfaaGreatDoor
/- Lists that own their memory, as rows; trees laid anew. Conditions: those of each lemma. -/
namespace Go.Proofs.YtonbkdklidfmfaaGreatDoor
open E
set_option linter.unusedSimpArgs false
set_option linter.unusedVariables false
set_option maxRecDepth 100000
def ocE (es : List (List T)) : List (List V) := es.map fun e => e.map oc
theorem yA (es : List (List T)) : (ocE es).length = es.length := by simp [ocE]
theorem TE (a b : List (List T)) : ocE (a ++ b) = ocE a ++ ocE b := by simp [ocE]
theorem sw (x : List T) (b : List (List T)) : ocE (x :: b) = x.map oc :: ocE b := rfl
theorem TD : ocE [] = [] := rfl
theorem TB (x : T) : refs (oc x) = [] := by cases x <;> rfl
theorem eg : ∀ e : List T, refs.refss (e.map oc) = []
 | [] => rfl
 | x :: e => by simp only [List.map_cons, refs.refss, TB, eg e, List.nil_append]
theorem xH : ∀ es : List (List T), (ocE es).flatMap refs.refss = []
 | [] => rfl
 | e :: es => by rw [sw, List.flatMap_cons, eg, xH es]; rfl
theorem RJ (m : Nat → Option Nat) (x : T) : ren m (oc x) = oc x := by cases x <;> rfl
theorem az (m : Nat → Option Nat) : ∀ e : List T, ren.rens m (e.map oc) = e.map oc
 | [] => rfl
 | x :: e => by simp only [List.map_cons, ren.rens, RJ, az m e]
theorem wa (m : Nat → Option Nat) : ∀ es : List (List T), (ocE es).map (ren.rens m) = ocE es
 | [] => rfl
 | e :: es => by rw [sw, List.map_cons, az, wa m es]
theorem vI {α : Type} (A B : List α) (x : α) (n : Nat) (h : A.length = n) : (A ++ x :: B)[n]? = some x := by
 rw [List.getElem?_append_right (by omega), h, Nat.sub_self]; rfl
theorem vl {α : Type} (A B : List α) (x y : α) (n : Nat) (h : A.length = n) : (A ++ x :: B).set n y = A ++ y :: B := by
 rw [List.set_append_right _ _ (by omega), h, Nat.sub_self]; rfl
theorem gv_oc (x : T) : gvC (oc x) = some x := by cases x <;> rfl
theorem UJ : ∀ e : List T, px (e.map oc) = some e
 | [] => rfl
 | x :: e => by simp only [List.map_cons, px, gv_oc, UJ e]
theorem ly : ∀ es : List (List T), gvE (ocE es) = some es
 | [] => rfl
 | e :: es => by rw [sw]; simp only [gvE, UJ, ly es]
theorem XN (h : Heap) (x : T) : zg h (oc x) = some x := by cases x <;> rfl
theorem fD (h : Heap) : ∀ e : List T, xN h (e.map oc) = some e
 | [] => rfl
 | x :: e => by simp only [List.map_cons, xN, XN, fD h e]
theorem sn (h : Heap) : ∀ es : List (List T), u9 h (ocE es) = some es
 | [] => rfl
 | e :: es => by rw [sw]; simp only [u9, fD, sn h es]
theorem yB : ∀ l : List Str, ry (strs l) = true
 | [] => rfl
 | x :: l => by
  have := yB l
  unfold ry strs at this ⊢
  rw [List.map_cons, List.all_cons, this]; rfl
end Go.Proofs.YtonbkdklidfmfaaGreatDoor
/- Trees laid anew; marks. Conditions: those of each lemma. -/
namespace Go.Proofs.YtonbkdklidfmfaaGreatDoor
open E
set_option linter.unusedSimpArgs false
set_option linter.unusedVariables false
set_option maxRecDepth 100000
def mkD : Nat → Nat → Str → Str
 | 0, _, out => out
 | n + 1, k, out => if k = 0 then out else mkD n (k / 10) (UInt8.ofNat (48 + k % 10) :: out)
def mkT (k : Nat) : Str := if k = 0 then [109, 48] else 109 :: mkD k k []
end Go.Proofs.YtonbkdklidfmfaaGreatDoor
/- Marks in lists of texts, in trees. Conditions: those of each lemma. -/
namespace Go.Proofs.YtonbkdklidfmfaaGreatDoor
open E
set_option linter.unusedSimpArgs false
set_option linter.unusedVariables false
set_option maxRecDepth 100000
def mkS : Nat → Nat → List Str
 | 0, _ => []
 | n + 1, k => mkT k :: mkS n (k + 1)
end Go.Proofs.YtonbkdklidfmfaaGreatDoor
/- Marks in trees. Conditions: those of each lemma. -/
namespace Go.Proofs.YtonbkdklidfmfaaGreatDoor
open E
set_option linter.unusedSimpArgs false
set_option linter.unusedVariables false
set_option maxRecDepth 100000
end Go.Proofs.YtonbkdklidfmfaaGreatDoor
/- Marks in trees, all; marks found again. Conditions: those of each lemma. -/
namespace Go.Proofs.YtonbkdklidfmfaaGreatDoor
open E
set_option linter.unusedSimpArgs false
set_option linter.unusedVariables false
set_option maxRecDepth 100000
end Go.Proofs.YtonbkdklidfmfaaGreatDoor
/- Trees copied, by both. Conditions: those of each lemma. -/
namespace Go.Proofs.YtonbkdklidfmfaaGreatDoor
open E
set_option linter.unusedSimpArgs false
set_option linter.unusedVariables false
set_option maxRecDepth 100000
end Go.Proofs.YtonbkdklidfmfaaGreatDoor
/- Trees copied by the implementation: their memory is their own; what stands under a key, by both. Conditions: those of each lemma. -/
namespace Go.Proofs.YtonbkdklidfmfaaGreatDoor
open E
set_option linter.unusedSimpArgs false
set_option linter.unusedVariables false
set_option maxRecDepth 100000
def ixS (key : Str) : Nat → List Str → Int
 | _, [] => -1
 | i, k :: r => cond (k == key) (i : Int) (ixS key (i + 1) r)
theorem Z3 (key : Str) : ∀ (r : List Str) (i : Nat), ixS key i r = -1 ∨ ((i : Int) ≤ ixS key i r ∧ ixS key i r < ((i + r.length : Nat) : Int))
 | [], i => .inl rfl
 | k :: r, i => by
  rw [ixS]
  cases hk : (k == key) with
  | true => right; simp only [cond_true, List.length_cons]; omega
  | false =>
   simp only [cond_false, List.length_cons]
   rcases Z3 key r (i + 1) with h | h
   · exact .inl h
   · right; omega
theorem l_ix (key : Str) (ks : List Str) (hl : ks.length ≤ 1048576) : ∀ (rest pre : List Str), ks = pre ++ rest → ∃ x,
 EV Tryz.prog pol (.loop 116 26 0 [.t (.list 1 (strs ks)), .t (.str key), .t (.int .i64 (ks.length : Int)), .t (.int .i64 (pre.length : Int))] []) = some (cond (decide (ixS key pre.length rest ≥ 0)) (.loop .ret [.t (.int .i64 (ixS key pre.length rest))] []) (.loop (.exit 0) [x] []))
 | [], pre, hs => by
  have c : decide ((pre.length : Int) < (ks.length : Int)) = false := by simp [hs]
  refine ⟨.bad, ?_⟩
  show _ = some (xY.loop (.exit 0) [.bad] [])
  refine zj Tryz.func116 rfl rfl ?_
  simp (disch := ((try simp only [LL]); omega)) only [↓GO, ↓DRW, GA, GX, ren, zm, za, refs, z8, cst, zq, isC, bin, una, z6, zd, blt, asArg, zg, zc, zf, z1, E.mkS, unN, ze, zn, zb, GS, simprocAttr, GZ, c]
 | x :: rest, pre, hs => by
  have c : decide ((pre.length : Int) < (ks.length : Int)) = true := by simp [hs]; omega
  have hget : (strs ks)[pre.length]? = some [.str x] := by rw [hs]; simp [strs]
  have hlen : pre.length + rest.length + 1 ≤ ks.length := by rw [hs]; simp; omega
  obtain ⟨y, IH⟩ := l_ix key ks hl rest (pre ++ [x]) (by rw [hs]; simp)
  refine ⟨y, ?_⟩
  rw [show ((pre ++ [x]).length : Int) = (pre.length : Int) + 1 by simp, show (pre ++ [x]).length = pre.length + 1 by simp] at IH
  have hsym : (key == x) = (x == key) := by rw [Bool.eq_iff_iff]; simp only [beq_iff_eq]; exact eq_comm
  clear hs
  rw [ixS]
  cases hk : (x == key) <;> rw [hk] at hsym
  · simp only [cond_false]
    refine zj Tryz.func116 rfl rfl ?_
    simp (disch := ((try simp only [LL]); omega)) only [↓GO, ↓DRW, GA, GX, ren, zm, za, refs, z8, cst, zq, isC, bin, una, z6, zd, blt, asArg, zg, zc, zf, z1, E.mkS, unN, ze, zn, zb, GS, simprocAttr, GZ, c, hget, zk, hsym, IH]
  · simp only [cond_true, show decide (((pre.length : Nat) : Int) ≥ 0) = true by simp]
    refine zj Tryz.func116 rfl rfl ?_
    simp (disch := ((try simp only [LL]); omega)) only [↓GO, ↓DRW, GA, GX, ren, zm, za, refs, z8, cst, zq, isC, bin, una, z6, zd, blt, asArg, zg, zc, zf, z1, E.mkS, unN, ze, zn, zb, GS, simprocAttr, GZ, c, hget, zk, hsym]
theorem c_ix (key : Str) (ks : List Str) (hl : ks.length ≤ 1048576) : zo (EV Tryz.prog pol) 116 [.t (.list 1 (strs ks)), .t (.str key)] = some (.t (.int .i64 (ixS key 0 ks))) := by
 obtain ⟨x, L⟩ := l_ix key ks hl ks [] rfl
 have hr := Z3 key ks 0
 simp only [List.length_nil, Int.natCast_zero] at L
 cases hd : decide (ixS key 0 ks ≥ 0) with
 | true =>
  rw [hd] at L
  simp only [cond_true] at L
  apply zw
  refine zy rfl Tryz.func116 rfl (by kernel_rfl) ?_
  unfold Tryz.f116
  simp (disch := ((try simp only [LL]); omega)) only [↓GO, ↓DRW, GA, GX, ren, zm, za, refs, z8, cst, zq, isC, bin, una, z6, zd, blt, asArg, zg, zc, zf, z1, E.mkS, unN, ze, zn, zb, GS, simprocAttr, GZ, L, zi]
 | false =>
  rw [hd] at L
  have h := of_decide_eq_false hd
  rw [show ixS key 0 ks = -1 by omega]
  simp only [cond_false] at L
  apply zw
  refine zy rfl Tryz.func116 rfl (by kernel_rfl) ?_
  unfold Tryz.f116
  simp (disch := ((try simp only [LL]); omega)) only [↓GO, ↓DRW, GA, GX, ren, zm, za, refs, z8, cst, zq, isC, bin, una, z6, zd, blt, asArg, zg, zc, zf, z1, E.mkS, unN, ze, zn, zb, GS, simprocAttr, GZ, L, zi]
end Go.Proofs.YtonbkdklidfmfaaGreatDoor
/- What stands under a key, by both. Conditions: those of each lemma. -/
namespace Go.Proofs.YtonbkdklidfmfaaGreatDoor
open E
set_option linter.unusedSimpArgs false
set_option linter.unusedVariables false
set_option maxRecDepth 100000
def zt : Tr := .mk 0 0 [] [] []
end Go.Proofs.YtonbkdklidfmfaaGreatDoor
/- Graphs laid anew, with memory of their own. Conditions: those of each lemma. -/
namespace Go.Proofs.YtonbkdklidfmfaaGreatDoor
open E
set_option linter.unusedSimpArgs false
set_option linter.unusedVariables false
set_option maxRecDepth 100000
theorem xc : ∀ l : List zC, ry (zC.zh l) = true
 | [] => rfl
 | x :: l => by
  have := xc l
  unfold ry zC.zh at this ⊢
  rw [List.map_cons, List.all_cons, this]; rfl
theorem rW : ∀ l : List z7, ((ocE (z7.zh l)).all fun c => zS.rowTs c) = true
 | [] => rfl
 | x :: l => by
  rw [show ocE (z7.zh (x :: l)) = x.enc.map oc :: ocE (z7.zh l) from rfl, List.all_cons, rW l]
  rfl
theorem q7 (a : List z7) (x : z7) : z7.zh (a ++ [x]) = z7.zh a ++ [x.enc] := by simp [z7.zh]
def zPk : List V := [.t (.str []), .t (.str []), .t (.str []), .nil 2, .t (.bool false), .nil 1]
end Go.Proofs.YtonbkdklidfmfaaGreatDoor
/- Is a graph right? By both. Conditions: those of each lemma. -/
namespace Go.Proofs.YtonbkdklidfmfaaGreatDoor
open E
set_option linter.unusedSimpArgs false
set_option linter.unusedVariables false
set_option maxRecDepth 100000
theorem ma {p : z7} {n : Nat} (h : p.y7 ≤ n) : p.zr.length ≤ n ∧ yl p.zr ≤ n ∧ p.sums.length ≤ n ∧ zC.yi p.sums ≤ n ∧ p.name.length ≤ n ∧ p.version.length ≤ n ∧ p.source.length ≤ n := by
 unfold z7.y7 at h; omega
theorem Uz (g : zz) (hB : GB g) : ∀ (rest pre : List z7), g.packs = pre ++ rest →
 EV Tryz.prog pol (.loop 32 26 0 [.ptr 0 0 0, .t (.list 6 (z7.zh g.packs)), .t (.int .i64 (g.packs.length : Int)), .t (.int .i64 (pre.length : Int))] [.vs 2 [g.enc.map .t]]) = some (cond (xF g.packs (pre.getLast?.map keyOf) rest) (.loop (.exit 0) [.ptr 0 0 0, .bad] [.vs 2 [g.enc.map .t]]) (.loop .ret [.ptr 0 0 0, .t (.bool false)] [.vs 2 [g.enc.map .t]]))
 | [], pre, hs => by
  have c : decide ((pre.length : Int) < (g.packs.length : Int)) = false := by simp [hs]
  simp only [zz.enc, List.map_cons, List.map_nil]
  refine zj Tryz.func32 rfl rfl ?_
  simp (disch := ((try simp only [LL]); omega)) only [↓GO, ↓DRW, GA, GX, ren, zm, za, refs, z8, cst, zq, isC, bin, una, z6, zd, blt, asArg, zg, zc, zf, z1, E.mkS, unN, ze, zn, zb, GS, simprocAttr, GZ, c, xF, zD]
 | x :: rest, pre, hs => by
  obtain ⟨b1, b2, b3⟩ := hB.len
  have c : decide ((pre.length : Int) < (g.packs.length : Int)) = true := by simp [hs]; omega
  have hget : (z7.zh g.packs)[pre.length]? = some x.enc := by rw [hs]; exact r9 z7.enc pre x rest
  have hlen : pre.length + rest.length + 1 ≤ g.packs.length := by rw [hs]; simp; omega
  have hxb := b3 x (by rw [hs]; simp)
  have IH := Uz g hB rest (pre ++ [x]) (by rw [hs]; simp)
  have h1 := Sk x hxb
  have h2 := gf x (by omega)
  have h3 := Zy g hB x.zr (ma hxb).1
  rw [show ((pre ++ [x]).length : Int) = (pre.length : Int) + 1 by simp, show (pre ++ [x]).getLast?.map keyOf = some (keyOf x) by simp] at IH
  rw [xF]
  generalize uB x = a1 at *
  generalize xh g.packs none x.zr = a2 at *
  rcases wu pre with rfl | ⟨pre', q, rfl⟩
  · clear hs
    generalize keyOf x = kx at *
    simp only [List.length_nil, List.getLast?_nil, Option.map_none, wL, Int.natCast_zero, Int.zero_add] at *
    simp only [zz.enc, z7.enc, List.map_cons, List.map_nil] at hget h1 h2 h3 IH ⊢
    cases a1 <;> cases a2
    all_goals
     refine zj Tryz.func32 rfl rfl ?_
     simp (disch := ((try simp only [LL]); omega)) only [↓GO, ↓DRW, GA, GX, ren, zm, za, refs, z8, cst, zq, isC, bin, una, z6, zd, blt, asArg, zg, zc, zf, z1, E.mkS, unN, ze, zn, zb, GS, simprocAttr, GZ, z7.zu, c, hget, zk, h1, h2, h3, IH, Int.zero_add, zD]
  · have hprev : uH (z7.zh g.packs) (((pre' ++ [q]).length : Int) - 1) = some q.enc := by rw [hs]; exact uU z7.enc pre' q (x :: rest)
    have h4 := gf q (by have := b3 q (by rw [hs]; simp); omega)
    have hge : 1 ≤ (pre' ++ [q]).length := by simp
    have hgt : decide (((pre' ++ [q]).length : Int) > 0) = true := by simp only [decide_eq_true_eq]; omega
    have hcmp := pq (keyOf x) (keyOf q)
    rw [show (pre' ++ [q]).getLast?.map keyOf = some (keyOf q) by simp]
    simp only [wL]
    clear hs
    generalize (pre' ++ [q]).length = m at *
    generalize keyOf x = kx at *
    generalize keyOf q = kq at *
    simp only [zz.enc, z7.enc, List.map_cons, List.map_nil] at hget hprev h1 h2 h3 h4 IH ⊢
    cases a1 <;> cases a2 <;> cases h5 : Op.bytesLess kq kx <;> rw [h5] at hcmp
    all_goals
     refine zj Tryz.func32 rfl rfl ?_
     simp (disch := ((try simp only [LL]); omega)) only [↓GO, ↓DRW, GA, GX, ren, zm, za, refs, z8, cst, zq, isC, bin, una, z6, zd, blt, asArg, zg, zc, zf, z1, E.mkS, unN, ze, zn, zb, GS, simprocAttr, GZ, z7.zu, c, hget, zk, h1, h2, h3, h4, hgt, hprev, hcmp, IH, zD]
theorem qt (g : zz) (hB : GB g) : zo (EV Tryz.prog pol) 32 [.agg (g.enc.map .t)] = some (.t (.bool (zZ g))) := by
 have L := Uz g hB g.packs [] rfl
 have h3 := Zy g hB g.top (by have := hB.len; omega)
 simp only [List.length_nil, Int.natCast_zero, List.getLast?_nil, Option.map_none] at L
 simp only [zz.enc, List.map_cons, List.map_nil] at L h3 ⊢
 unfold zZ
 generalize xh g.packs none g.top = a2 at *
 cases h : xF g.packs none g.packs <;> rw [h] at L <;> simp only [cond_true, cond_false] at L <;> cases h4 : decide ((g.packs.length : Int) ≤ 40) <;> cases a2
 all_goals
  apply zw
  refine zy rfl Tryz.func32 rfl (by kernel_rfl) ?_
  unfold Tryz.f32
  simp (disch := ((try simp only [LL]); omega)) only [↓GO, ↓DRW, GA, GX, ren, zm, za, refs, z8, cst, zq, isC, bin, una, z6, zd, blt, asArg, zg, zc, zf, z1, E.mkS, unN, ze, zn, zb, GS, simprocAttr, GZ, L, z7.zu, h3, h4, zD]
theorem Uy (g : zz) (hB : GB g) : ∀ (rest pre : List z7), g.packs = pre ++ rest →
 EV Tryz.prog pol (.loop 31 26 0 [.ptr 0 0 0, .t (.int .i64 (pre.length : Int))] [.vs 2 [g.enc.map .t]]) = some (cond (xF g.packs (pre.getLast?.map keyOf) rest) (.loop (.exit 0) [.ptr 0 0 0, .bad] [.vs 2 [g.enc.map .t]]) (.loop .ret [.ptr 0 0 0, .t (.bool false)] [.vs 2 [g.enc.map .t]]))
 | [], pre, hs => by
  have c : decide ((pre.length : Int) < (g.packs.length : Int)) = false := by simp [hs]
  simp only [zz.enc, List.map_cons, List.map_nil]
  refine zj Tryz.func31 rfl rfl ?_
  simp (disch := ((try simp only [LL]); omega)) only [↓GO, ↓DRW, GA, GX, ren, zm, za, refs, z8, cst, zq, isC, bin, una, z6, zd, blt, asArg, zg, zc, zf, z1, E.mkS, unN, ze, zn, zb, GS, simprocAttr, GZ, c, z7.zu, xF, zD]
 | x :: rest, pre, hs => by
  obtain ⟨b1, b2, b3⟩ := hB.len
  have c : decide ((pre.length : Int) < (g.packs.length : Int)) = true := by simp [hs]; omega
  have hget : (z7.zh g.packs)[pre.length]? = some x.enc := by rw [hs]; exact r9 z7.enc pre x rest
  have hlen : pre.length + rest.length + 1 ≤ g.packs.length := by rw [hs]; simp; omega
  have hxb := b3 x (by rw [hs]; simp)
  have IH := Uy g hB rest (pre ++ [x]) (by rw [hs]; simp)
  have h1 := Sj x hxb
  have h2 := uD x (by omega)
  have h3 := Zx g hB x.zr (ma hxb).1
  rw [show ((pre ++ [x]).length : Int) = (pre.length : Int) + 1 by simp, show (pre ++ [x]).getLast?.map keyOf = some (keyOf x) by simp] at IH
  rw [xF]
  generalize uB x = a1 at *
  generalize xh g.packs none x.zr = a2 at *
  rcases wu pre with rfl | ⟨pre', q, rfl⟩
  · clear hs
    generalize keyOf x = kx at *
    simp only [List.length_nil, List.getLast?_nil, Option.map_none, wL, Int.natCast_zero, Int.zero_add] at *
    simp only [zz.enc, z7.enc, List.map_cons, List.map_nil] at hget h1 h2 h3 IH ⊢
    cases a1 <;> cases a2
    all_goals
     refine zj Tryz.func31 rfl rfl ?_
     simp (disch := ((try simp only [LL]); omega)) only [↓GO, ↓DRW, GA, GX, ren, zm, za, refs, z8, cst, zq, isC, bin, una, z6, zd, blt, asArg, zg, zc, zf, z1, E.mkS, unN, ze, zn, zb, GS, simprocAttr, GZ, z7.zu, c, hget, zk, h1, h2, h3, IH, Int.zero_add, zD]
  · have hprev : uH (z7.zh g.packs) (((pre' ++ [q]).length : Int) - 1) = some q.enc := by rw [hs]; exact uU z7.enc pre' q (x :: rest)
    have h4 := uD q (by have := b3 q (by rw [hs]; simp); omega)
    have hge : 1 ≤ (pre' ++ [q]).length := by simp
    have hgt : decide (((pre' ++ [q]).length : Int) > 0) = true := by simp only [decide_eq_true_eq]; omega
    rw [show (pre' ++ [q]).getLast?.map keyOf = some (keyOf q) by simp]
    simp only [wL]
    clear hs
    generalize (pre' ++ [q]).length = m at *
    generalize keyOf x = kx at *
    generalize keyOf q = kq at *
    simp only [zz.enc, z7.enc, List.map_cons, List.map_nil] at hget hprev h1 h2 h3 h4 IH ⊢
    cases a1 <;> cases a2 <;> cases h5 : Op.bytesLess kq kx
    all_goals
     refine zj Tryz.func31 rfl rfl ?_
     simp (disch := ((try simp only [LL]); omega)) only [↓GO, ↓DRW, GA, GX, ren, zm, za, refs, z8, cst, zq, isC, bin, una, z6, zd, blt, asArg, zg, zc, zf, z1, E.mkS, unN, ze, zn, zb, GS, simprocAttr, GZ, z7.zu, c, hget, zk, h1, h2, h3, h4, hgt, hprev, h5, IH, zD]
theorem lz (g : zz) (hB : GB g) : zo (EV Tryz.prog pol) 31 [.agg (g.enc.map .t)] = some (.t (.bool (zZ g))) := by
 have L := Uy g hB g.packs [] rfl
 have h3 := Zx g hB g.top (by have := hB.len; omega)
 simp only [List.length_nil, Int.natCast_zero, List.getLast?_nil, Option.map_none] at L
 simp only [zz.enc, List.map_cons, List.map_nil] at L h3 ⊢
 unfold zZ
 generalize xh g.packs none g.top = a2 at *
 cases h : xF g.packs none g.packs <;> rw [h] at L <;> simp only [cond_true, cond_false] at L <;> cases h4 : decide ((g.packs.length : Int) ≤ 40) <;> cases a2
 all_goals
  apply zw
  refine zy rfl Tryz.func31 rfl (by kernel_rfl) ?_
  unfold Tryz.f31
  simp (disch := ((try simp only [LL]); omega)) only [↓GO, ↓DRW, GA, GX, ren, zm, za, refs, z8, cst, zq, isC, bin, una, z6, zd, blt, asArg, zg, zc, zf, z1, E.mkS, unN, ze, zn, zb, GS, simprocAttr, GZ, L, z7.zu, h3, h4, zD]
end Go.Proofs.YtonbkdklidfmfaaGreatDoor
/- The tables of a graph, plain. Conditions: none. -/
namespace Go.Proofs.YtonbkdklidfmfaaGreatDoor
open E
set_option linter.unusedVariables false
set_option linter.unusedSimpArgs false
set_option maxRecDepth 100000
end Go.Proofs.YtonbkdklidfmfaaGreatDoor
/- Keys cut, short names, by both. Conditions: those of each lemma. -/
namespace Go.Proofs.YtonbkdklidfmfaaGreatDoor
open E
set_option linter.unusedSimpArgs false
set_option linter.unusedVariables false
set_option maxRecDepth 100000
end Go.Proofs.YtonbkdklidfmfaaGreatDoor
/- What the laws' own functions do over Bound, Notice: sizes, copies, comparisons. Conditions: those of each lemma. -/
namespace Go.Proofs.YtonbkdklidfmfaaGreatDoor
open E
set_option linter.unusedSimpArgs false
set_option linter.unusedVariables false
set_option maxRecDepth 100000
structure yE where
 low : List UInt8
 high : List UInt8
def yE.enc (x : yE) : List T := [.str x.low, .str x.high]
def yE.zh (l : List yE) : List (List T) := l.map yE.enc
def yE.y7 (x : yE) : Nat := x.low.length + x.high.length
def yE.yi : List yE → Nat
 | [] => 0
 | c :: cs => yE.y7 c + yE.yi cs
def yE.ok (x : yE) : Prop := x.low.length ≤ 9223372036854775807 ∧ x.high.length ≤ 9223372036854775807
theorem yE.vK (x : yE) : x.enc.length = 2 := rfl
theorem yE.wN (x : yE) : x.enc.take 2 = x.enc := rfl
theorem yE.zu (cs : List yE) : (yE.zh cs).length = cs.length := by simp [yE.zh]
theorem yE.w6 (cs : List yE) (i : Nat) (h : i < cs.length) : (yE.zh cs)[i]? = some cs[i].enc := by simp [yE.zh, h]
theorem yE.yp : ∀ {cs : List yE} {c : yE}, c ∈ cs → c.y7 ≤ yE.yi cs
 | c' :: cs, c, h => by
  simp only [yE.yi]
  rcases List.mem_cons.1 h with rfl | h
  · omega
  · have := yE.yp h; omega
structure yn where
 name : List UInt8
 range : List UInt8
 text : List UInt8
def yn.enc (x : yn) : List T := [.str x.name, .str x.range, .str x.text]
def yn.zh (l : List yn) : List (List T) := l.map yn.enc
def yn.y7 (x : yn) : Nat := x.name.length + x.range.length + x.text.length
def yn.yi : List yn → Nat
 | [] => 0
 | c :: cs => yn.y7 c + yn.yi cs
def yn.ok (x : yn) : Prop := x.name.length ≤ 9223372036854775807 ∧ x.range.length ≤ 9223372036854775807 ∧ x.text.length ≤ 9223372036854775807
theorem yn.vK (x : yn) : x.enc.length = 3 := rfl
theorem yn.wN (x : yn) : x.enc.take 3 = x.enc := rfl
theorem yn.zu (cs : List yn) : (yn.zh cs).length = cs.length := by simp [yn.zh]
theorem yn.w6 (cs : List yn) (i : Nat) (h : i < cs.length) : (yn.zh cs)[i]? = some cs[i].enc := by simp [yn.zh, h]
theorem yn.yp : ∀ {cs : List yn} {c : yn}, c ∈ cs → c.y7 ≤ yn.yi cs
 | c' :: cs, c, h => by
  simp only [yn.yi]
  rcases List.mem_cons.1 h with rfl | h
  · omega
  · have := yn.yp h; omega
end Go.Proofs.YtonbkdklidfmfaaGreatDoor
/- Ranges, plain: both ways of reading them come to the same. Conditions: none. -/
namespace Go.Proofs.YtonbkdklidfmfaaGreatDoor
open E
set_option linter.unusedVariables false
set_option linter.unusedSimpArgs false
set_option maxRecDepth 100000
def vb (b : UInt8) : Bool := isD b || (nb b == 46 || (nb b == 45 || preB b))
theorem Wf {n : Int} (h : 0 ≤ n) : (Lib.itoa n).all isD = true ∧ Lib.itoa n ≠ [] := by
 obtain ⟨u, rfl⟩ : ∃ u : Nat, n = u := ⟨n.toNat, by omega⟩
 rw [Lib.itoa_nonneg]
 obtain ⟨a, _, c⟩ := uk u
 exact ⟨a, c⟩
def isV (s : Str) : Bool := (zT s).2
theorem oA {s : Str} (h : 0 ≤ zO s) : (∀ b ∈ s, isD b = true) ∧ Lib.itoa (zO s) = s ∧ zO s ≤ 999999999 ∧ s ≠ [] := by
 unfold zO at h ⊢
 split at h
 · rename_i v hv
   cases hc : ((decide (0 ≤ v) && decide (v ≤ 999999999)) && (Lib.itoa v == s)) with
   | false => rw [hc] at h; simp at h
   | true =>
    have hc' := hc
    simp only [Bool.and_eq_true, decide_eq_true_eq, beq_iff_eq] at hc'
    obtain ⟨⟨q1, q2⟩, q3⟩ := hc'
    obtain ⟨a, b⟩ := Wf q1
    simp only [cond_true]
    rw [q3] at a b
    exact ⟨List.all_eq_true.1 a, q3, q2, b⟩
 · simp at h
end Go.Proofs.YtonbkdklidfmfaaGreatDoor
/- Ranges, plain, the parts. Conditions: none. -/
namespace Go.Proofs.YtonbkdklidfmfaaGreatDoor
open E
set_option linter.unusedVariables false
set_option linter.unusedSimpArgs false
set_option maxRecDepth 100000
end Go.Proofs.YtonbkdklidfmfaaGreatDoor
/- Ranges, plain: a text cut at ' || ', the whole. Conditions: none. -/
namespace Go.Proofs.YtonbkdklidfmfaaGreatDoor
open E
set_option linter.unusedVariables false
set_option linter.unusedSimpArgs false
set_option maxRecDepth 100000
end Go.Proofs.YtonbkdklidfmfaaGreatDoor
/- Versions compared, plain: both ways come to the same; what is in a range. Conditions: none. -/
namespace Go.Proofs.YtonbkdklidfmfaaGreatDoor
open E
set_option linter.unusedVariables false
set_option linter.unusedSimpArgs false
set_option maxRecDepth 100000
theorem wQ : ∀ x : Str, Op.bytesLess x x = false
 | [] => rfl
 | a :: x => by rw [sA, wQ x]; simp
end Go.Proofs.YtonbkdklidfmfaaGreatDoor
/- What is in a range, what notices tell: plain; both ways come to the same. Conditions: none. -/
namespace Go.Proofs.YtonbkdklidfmfaaGreatDoor
open E
set_option linter.unusedVariables false
set_option linter.unusedSimpArgs false
set_option maxRecDepth 100000
end Go.Proofs.YtonbkdklidfmfaaGreatDoor
/- What one reaches in a graph, plain: both ways come to the same. Conditions: none. -/
namespace Go.Proofs.YtonbkdklidfmfaaGreatDoor
open E
set_option linter.unusedVariables false
set_option linter.unusedSimpArgs false
set_option maxRecDepth 100000
theorem Uq : ∀ x y : Str, Op.bytesLess x y = decide (x < y)
 | [], [] => by simp [Op.bytesLess]
 | [], b :: y => by simp [Op.bytesLess]
 | a :: x, [] => by simp [Op.bytesLess]
 | a :: x, b :: y => by
  rw [sA, Uq x y, Bool.eq_iff_iff]
  simp only [Bool.or_eq_true, decide_eq_true_eq, Bool.and_eq_true, beq_iff_eq, List.cons_lt_cons_iff]
theorem gd (x y : Str) : decide (x ≤ y) = !(Op.bytesLess y x) := by
 rw [Uq, Bool.eq_iff_iff]
 simp only [decide_eq_true_eq, Bool.not_eq_true', decide_eq_false_iff_not]
 exact Iff.rfl
theorem qU {x y : Str} (h1 : Op.bytesLess x y = false) (h2 : Op.bytesLess y x = false) : x = y := by
 have h := pq x y
 rw [h1, h2] at h
 simpa using h
theorem xT : ∀ {x y z : Str}, Op.bytesLess x y = true → Op.bytesLess y z = true → Op.bytesLess x z = true
 | [], [], z, h1, _ => by simp [Op.bytesLess] at h1
 | _ :: _, [], z, h1, _ => by simp [Op.bytesLess] at h1
 | [], _ :: _, [], _, h2 => by simp [Op.bytesLess] at h2
 | [], _ :: _, _ :: _, _, _ => by simp [Op.bytesLess]
 | _ :: _, _ :: _, [], _, h2 => by simp [Op.bytesLess] at h2
 | a :: x, b :: y, c :: z, h1, h2 => by
  rw [sA] at h1 h2 ⊢
  simp only [Bool.or_eq_true, decide_eq_true_eq, Bool.and_eq_true, beq_iff_eq, UInt8.lt_iff_toNat_lt] at h1 h2 ⊢
  rcases h1 with h1 | ⟨rfl, h1⟩
  · rcases h2 with h2 | ⟨rfl, h2⟩
    · left; omega
    · left; exact h1
  · rcases h2 with h2 | ⟨rfl, h2⟩
    · left; exact h2
    · right; exact ⟨rfl, xT h1 h2⟩
theorem mi {x y z : Str} (h1 : Op.bytesLess y x = false) (h2 : Op.bytesLess z y = false) : Op.bytesLess z x = false := by
 cases h : Op.bytesLess z x with
 | false => rfl
 | true =>
  exfalso
  cases hyz : Op.bytesLess y z with
  | true => have := xT hyz h; rw [h1] at this; cases this
  | false =>
   have := qU hyz h2
   subst this
   rw [h1] at h; cases h
def Asc (l : List Str) : Prop := l.Pairwise fun x y => Op.bytesLess y x = false
theorem dC : ∀ {a b : List Str}, Asc a → Asc b → a.Perm b → a = b
 | [], b, _, _, h => by simpa using h.symm
 | x :: a, [], _, _, h => by have := h.length_eq; simp at this
 | x :: a, y :: b, h1, h2, h => by
  have h1' := List.pairwise_cons.1 h1
  have h2' := List.pairwise_cons.1 h2
  have hxy : x = y := by
   have m1 : x ∈ y :: b := h.mem_iff.1 (by simp)
   have m2 : y ∈ x :: a := h.mem_iff.2 (by simp)
   rcases List.mem_cons.1 m1 with e | m1
   · exact e
   · rcases List.mem_cons.1 m2 with e | m2
     · exact e.symm
     · exact qU (h2'.1 x m1) (h1'.1 y m2) |>.symm ▸ rfl
  subst hxy
  rw [dC h1'.2 h2'.2 (List.Perm.cons_inv h)]
theorem Y2 (l : List Str) : Asc (wz l) := by
 have := List.pairwise_mergeSort (le := fun x y : Str => decide (x ≤ y)) (fun a b c h1 h2 => by
  rw [gd] at *
  simp only [Bool.not_eq_true'] at *
  exact mi h1 h2) (fun a b => by
  rw [gd, gd]
  cases h1 : Op.bytesLess b a <;> cases h2 : Op.bytesLess a b <;> first | rfl | skip
  have := xT h1 h2
  rw [wQ] at this; cases this) l
 refine List.Pairwise.imp (fun {a b} h => ?_) this
 rw [gd] at h
 simpa using h
theorem XL {a b : List Str} (hb : Asc b) (h : a.Perm b) : wz a = b := dC (Y2 a) hb ((nR a).trans h)
def xp : List Str → Str → List Str
 | [], s => [s]
 | x :: r, s => cond (Op.bytesLess x s) (x :: xp r s) (cond (x == s) (x :: r) (s :: x :: r))
def yg (l : List Str) (s : Str) : Bool := l.any (· == s)
theorem oe : ∀ (l : List Str) (s : Str), yg l s = false → (xp l s).Perm (l ++ [s])
 | [], s, _ => by simp [xp]
 | x :: r, s, h => by
  simp only [yg, List.any_cons, Bool.or_eq_false_iff] at h
  rw [xp, h.1]
  cases Op.bytesLess x s with
  | true => simp only [cond_true, List.cons_append]; exact (oe r s h.2).cons x
  | false => simp only [cond_false]; exact (List.perm_append_singleton s (x :: r)).symm
theorem ln : ∀ (l : List Str) (s y : Str), y ∈ xp l s → y ∈ l ∨ y = s
 | [], s, y, h => by simpa [xp] using h
 | x :: r, s, y, h => by
  rw [xp] at h
  cases h1 : Op.bytesLess x s with
  | true =>
   rw [h1, cond_true] at h
   rcases List.mem_cons.1 h with h | h
   · left; simp [h]
   · rcases ln r s y h with h | h
     · left; simp [h]
     · right; exact h
  | false =>
   rw [h1, cond_false] at h
   cases h2 : (x == s) with
   | true => rw [h2, cond_true] at h; left; exact h
   | false =>
    rw [h2, cond_false] at h
    rcases List.mem_cons.1 h with h | h
    · right; exact h
    · left; exact h
theorem dI : ∀ (l : List Str) (s : Str), Asc l → Asc (xp l s)
 | [], s, _ => by simp [xp, Asc]
 | x :: r, s, h => by
  have h' := List.pairwise_cons.1 h
  rw [xp]
  cases h1 : Op.bytesLess x s with
  | true =>
   simp only [cond_true]
   refine List.pairwise_cons.2 ⟨fun y hy => ?_, dI r s h'.2⟩
   rcases ln r s y hy with hy | rfl
   · exact h'.1 y hy
   · cases h2 : Op.bytesLess y x with
     | false => rfl
     | true => have := xT h1 h2; rw [wQ] at this; cases this
  | false =>
   simp only [cond_false]
   cases h2 : (x == s) with
   | true => exact h
   | false =>
    simp only [cond_false]
    refine List.pairwise_cons.2 ⟨fun y hy => ?_, h⟩
    rcases List.mem_cons.1 hy with rfl | hy
    · exact h1
    · exact mi h1 (h'.1 y hy)
theorem Yq {a b : List Str} (h : a.Perm b) (s : Str) : yg a s = yg b s := by
 unfold yg
 rw [Bool.eq_iff_iff, List.any_eq_true, List.any_eq_true]
 constructor
 · rintro ⟨x, h1, h2⟩; exact ⟨x, h.mem_iff.1 h1, h2⟩
 · rintro ⟨x, h1, h2⟩; exact ⟨x, h.mem_iff.2 h1, h2⟩
def yG (ps : List z7) (k : Str) : Option z7 := match tW ps k with
 | some i => ps[i]?
 | none => none
def y9 (add : List Str → Str → List Str) (ps : List z7) : Nat → List Str → List Str → List Str
 | 0, out, _ => out
 | _ + 1, out, [] => out
 | n + 1, out, k :: w => match yG ps k with
  | none => y9 add ps n out w
  | some p => cond (yg out k) (y9 add ps n out w) (y9 add ps n (add out k) (w ++ p.zr))
theorem tq (ps : List z7) : ∀ (n : Nat) (a b w : List Str), Asc b → a.Perm b → Asc (y9 xp ps n b w) ∧ (y9 (fun l s => l ++ [s]) ps n a w).Perm (y9 xp ps n b w)
 | 0, a, b, w, hb, h => ⟨hb, h⟩
 | n + 1, a, b, [], hb, h => ⟨hb, h⟩
 | n + 1, a, b, k :: w, hb, h => by
  rw [y9, y9]
  cases yG ps k with
  | none => exact tq ps n a b w hb h
  | some p =>
   rw [Yq h k]
   cases hc : yg b k with
   | true => exact tq ps n a b w hb h
   | false => exact tq ps n (a ++ [k]) (xp b k) (w ++ p.zr) (dI b k hb) ((h.append_right [k]).trans (oe b k hc).symm)
theorem nX (ps : List z7) (n : Nat) (w : List Str) : wz (y9 (fun l s => l ++ [s]) ps n [] w) = y9 xp ps n [] w := by
 obtain ⟨h1, h2⟩ := tq ps n [] [] w (by simp [Asc]) (List.Perm.refl _)
 exact XL h1 h2
def muP (out : List Str) (p : z7) : Nat := cond (yg out (keyOf p)) 0 p.zr.length
def muS (ps : List z7) (out : List Str) : Nat := (ps.map (muP out)).sum
theorem o9 (l : List Str) (k s : Str) : yg (l ++ [k]) s = (yg l s || (k == s)) := by simp [yg]
theorem Up (k : Str) (out out' : List Str) (h : ∀ s, yg out' s = (yg out s || (k == s))) : ∀ ps : List z7, muS ps out' ≤ muS ps out
 | [] => by simp [muS]
 | p :: ps => by
  have ih := Up k out out' h ps
  unfold muS at ih ⊢
  simp only [List.map_cons, List.sum_cons]
  have : muP out' p ≤ muP out p := by
   unfold muP
   rw [h]
   cases yg out (keyOf p) <;> cases (k == keyOf p) <;> simp
  omega
theorem qT (k : Str) (out out' : List Str) (h : ∀ s, yg out' s = (yg out s || (k == s))) (hk : yg out k = false) : ∀ (ps : List z7) (p : z7), p ∈ ps → keyOf p = k → muS ps out' + p.zr.length ≤ muS ps out
 | [], p, hp, _ => by simp at hp
 | q :: ps, p, hp, e => by
  unfold muS
  simp only [List.map_cons, List.sum_cons]
  rcases List.mem_cons.1 hp with rfl | hp
  · have h1 := Up k out out' h ps
    unfold muS at h1
    have : muP out' p = 0 := by unfold muP; rw [h, e, beq_self_eq_true, Bool.or_true]; rfl
    have h2 : muP out p = p.zr.length := by unfold muP; rw [e, hk]; rfl
    omega
  · have h1 := qT k out out' h hk ps p hp e
    unfold muS at h1
    have : muP out' q ≤ muP out q := by
     unfold muP
     rw [h]
     cases yg out (keyOf q) <;> cases (k == keyOf q) <;> simp
    omega
theorem mV : ∀ ps : List z7, muS ps [] ≤ z7.yi ps
 | [] => by simp [muS]
 | p :: ps => by
  have ih := mV ps
  unfold muS at ih ⊢
  simp only [List.map_cons, List.sum_cons, z7.yi]
  have : muP [] p ≤ p.y7 := by
   unfold muP
   simp only [yg, List.any_nil, cond_false, z7.y7]; omega
  omega
theorem Zl {α : Type} (p : α → Bool) : ∀ (l : List α) (n i : Nat), vZ p l n = some i → n ≤ i ∧ ∃ q, l[i - n]? = some q ∧ p q = true
 | [], n, i, h => by cases h
 | x :: r, n, i, h => by
  rw [vZ] at h
  split at h
  · rename_i hx
    cases h
    exact ⟨Nat.le_refl _, x, by simp, hx⟩
  · obtain ⟨h1, q, h2, h3⟩ := Zl p r (n + 1) i h
    refine ⟨by omega, q, ?_, h3⟩
    rw [show i - n = (i - (n + 1)) + 1 by omega]
    simpa using h2
theorem o0 {α : Type} {p : α → Bool} {l : List α} {i : Nat} (h : vZ p l 0 = some i) : ∃ q, l[i]? = some q ∧ p q = true := by
 obtain ⟨_, q, h2, h3⟩ := Zl p l 0 i h
 exact ⟨q, by simpa using h2, h3⟩
theorem wk {ps : List z7} {k : Str} {p : z7} (h : yG ps k = some p) : p ∈ ps ∧ keyOf p = k ∧ ∃ i, tW ps k = some i ∧ ps[i]? = some p := by
 unfold yG at h
 split at h
 · rename_i i hi
   exact ⟨List.mem_of_getElem? h, by
    have := o0 hi
    obtain ⟨q, h1, h2⟩ := this
    rw [h] at h1
    cases h1
    simpa using h2, i, hi, h⟩
 · cases h
theorem dc {ps : List z7} {k : Str} (h : yG ps k = none) : tW ps k = none := by
 unfold yG at h
 split at h
 · rename_i i hi
   obtain ⟨q, h1, h2⟩ := o0 hi
   rw [h] at h1; cases h1
 · assumption
end Go.Proofs.YtonbkdklidfmfaaGreatDoor
/- Who is to blame, plain: both ways come to the same. Conditions: none. -/
namespace Go.Proofs.YtonbkdklidfmfaaGreatDoor
open E
set_option linter.unusedVariables false
set_option linter.unusedSimpArgs false
set_option maxRecDepth 100000
def wc : List Str → Str → Nat
 | [], _ => 0
 | x :: r, s => cond (Op.bytesLess x s) (wc r s + 1) 0
def atS (l : List Str) (s : Str) : Bool := l[wc l s]? == some s
theorem av : ∀ (l : List Str) (s : Str), wc l s ≤ l.length
 | [], s => by simp [wc]
 | x :: r, s => by
  have := av r s
  rw [wc]
  cases Op.bytesLess x s with
  | true => simp only [cond_true, List.length_cons]; omega
  | false => simp
theorem ZD : ∀ (l : List Str) (s : Str), atS l s = false → xp l s = l.take (wc l s) ++ s :: l.drop (wc l s)
 | [], s, h => by simp [xp, wc]
 | x :: r, s, h => by
  unfold atS at h
  rw [wc] at h ⊢
  rw [xp]
  cases h1 : Op.bytesLess x s with
  | true =>
   rw [h1, cond_true, List.getElem?_cons_succ] at h
   simp only [cond_true, List.take_succ_cons, List.drop_succ_cons, List.cons_append]
   rw [ZD r s h]
  | false =>
   rw [h1, cond_false] at h
   have : (x == s) = false := by simpa using h
   simp [this]
theorem Sa {l : List Str} {s : Str} (h : yg l s = false) : atS l s = false := by
 cases ha : atS l s with
 | false => rfl
 | true =>
  unfold atS at ha
  have : l[wc l s]? = some s := by simpa using ha
  have hm := List.mem_of_getElem? this
  unfold yg at h
  rw [List.any_eq_false] at h
  exact absurd (by simp) (h s hm)
theorem oC (ps : List z7) : ∀ (o : Option Str) (l : List z7), xF ps o l = true → ∀ p ∈ l, uB p = true ∧ xh ps none p.zr = true
 | _, [], _, p, hp => by simp at hp
 | o, q :: r, h, p, hp => by
  rw [xF] at h
  simp only [Bool.and_eq_true] at h
  rcases List.mem_cons.1 hp with rfl | hp
  · exact ⟨h.1.1, h.1.2.2⟩
  · exact oC ps _ r h.2 p hp
theorem wW (ps : List z7) : ∀ (o : Option Str) (l : List Str), xh ps o l = true → (l.Pairwise fun x y => Op.bytesLess x y = true) ∧ (∀ k ∈ l, kb ps k = true) ∧ ∀ k ∈ l, wL o k = true
 | o, [], _ => by simp
 | o, k :: r, h => by
  rw [xh] at h
  simp only [Bool.and_eq_true] at h
  obtain ⟨h1, h2, h3⟩ := wW ps (some k) r h.2
  refine ⟨List.pairwise_cons.2 ⟨fun y hy => h3 y hy, h1⟩, fun y hy => ?_, fun y hy => ?_⟩
  · rcases List.mem_cons.1 hy with rfl | hy
    · exact h.1.1
    · exact h2 y hy
  · rcases List.mem_cons.1 hy with rfl | hy
    · exact h.1.2
    · cases o with
      | none => rfl
      | some q => exact xT h.1.2 (h3 y hy)
def zU (ps : List z7) (w : List Str) : List Str := y9 xp ps (w.length + muS ps []) [] w
theorem oS {g : zz} (h : zZ g = true) : (g.top.Pairwise fun x y => Op.bytesLess x y = true) ∧ ∀ k ∈ g.top, kb g.packs k = true := by
 unfold zZ at h
 simp only [Bool.and_eq_true] at h
 obtain ⟨h1, h2, _⟩ := wW g.packs none g.top h.2.2
 exact ⟨h1, h2⟩
theorem ve {g : zz} (h : zZ g = true) : ∀ p ∈ g.packs, uB p = true ∧ xh g.packs none p.zr = true := by
 unfold zZ at h
 simp only [Bool.and_eq_true] at h
 exact oC g.packs none g.packs h.1
theorem qO (add : List Str → Str → List Str) (hadd : ∀ l s y, y ∈ add l s → y ∈ l ∨ y = s) (ps : List z7) : ∀ (n : Nat) (out w : List Str), (∀ k ∈ out, ∃ p, yG ps k = some p) → ∀ k ∈ y9 add ps n out w, ∃ p, yG ps k = some p
 | 0, out, w, h, k, hk => h k hk
 | n + 1, out, [], h, k, hk => h k hk
 | n + 1, out, a :: w, h, k, hk => by
  rw [y9] at hk
  cases hf : yG ps a with
  | none => rw [hf] at hk; exact qO add hadd ps n out w h k hk
  | some p =>
   rw [hf] at hk
   simp only at hk
   cases hc : yg out a with
   | true => rw [hc, cond_true] at hk; exact qO add hadd ps n out w h k hk
   | false =>
    rw [hc, cond_false] at hk
    exact qO add hadd ps n (add out a) _ (fun y hy => by
     rcases hadd out a y hy with hy | rfl
     · exact h y hy
     · exact ⟨p, hf⟩) k hk
theorem wZ (ps : List z7) (w : List Str) : ∀ k ∈ zU ps w, ∃ p, yG ps k = some p :=
 qO xp ln ps _ [] w (by simp)
def uy (ps : List z7) (out : List Str) : Nat := ps.countP fun p => !(yg out (keyOf p))
theorem ez (k : Str) (out out' : List Str) (h : ∀ s, yg out' s = (yg out s || (k == s))) : ∀ ps : List z7, uy ps out' ≤ uy ps out
 | [] => by simp [uy]
 | p :: ps => by
  have ih := ez k out out' h ps
  unfold uy at ih ⊢
  simp only [List.countP_cons]
  rw [h (keyOf p)]
  cases yg out (keyOf p) <;> cases (k == keyOf p) <;> simp <;> omega
theorem tw (k : Str) (out out' : List Str) (h : ∀ s, yg out' s = (yg out s || (k == s))) (hk : yg out k = false) : ∀ (ps : List z7) (p : z7), p ∈ ps → keyOf p = k → uy ps out' + 1 ≤ uy ps out
 | [], p, hp, _ => by simp at hp
 | q :: ps, p, hp, e => by
  rcases List.mem_cons.1 hp with rfl | hp
  · have h1 := ez k out out' h ps
    unfold uy at h1 ⊢
    simp only [List.countP_cons]
    rw [h (keyOf p), e, hk, beq_self_eq_true]
    simp
    omega
  · have h1 := tw k out out' h hk ps p hp e
    unfold uy at h1 ⊢
    simp only [List.countP_cons]
    rw [h (keyOf q)]
    cases yg out (keyOf q) <;> cases (k == keyOf q) <;> simp <;> omega
theorem pf : ∀ (l : List Str) (k s : Str), yg (xp l k) s = (yg l s || (k == s))
 | [], k, s => by simp [xp, yg]
 | x :: r, k, s => by
  have ih := pf r k s
  unfold yg at ih ⊢
  rw [xp]
  cases h1 : Op.bytesLess x k with
  | true => simp only [cond_true, List.any_cons, ih, Bool.or_assoc]
  | false =>
   simp only [cond_false]
   cases h2 : (x == k) with
   | true =>
    have : x = k := by simpa using h2
    subst this
    simp only [cond_true, List.any_cons]
    cases (x == s) <;> simp
   | false =>
    simp only [cond_false, List.any_cons]
    cases (k == s) <;> cases (x == s) <;> simp
end Go.Proofs.YtonbkdklidfmfaaGreatDoor
/- What one reaches, by both: the functions. Conditions: those of each lemma. -/
namespace Go.Proofs.YtonbkdklidfmfaaGreatDoor
open E
set_option linter.unusedSimpArgs false
set_option linter.unusedVariables false
set_option maxRecDepth 100000
theorem vH {l : List Str} {i : Nat} {s : Str} (h : l[i]? = some s) : (strs l)[i]? = some [.str s] := by simp [strs, h]
theorem R9 (l : List Str) (hl : l.length ≤ 1048576) (s : Str) : ∀ (rest pre : List Str), l = pre ++ rest →
 EV Tryz.prog pol (.loop 81 26 0 [.t (.list 1 (strs l)), .t (.str s), .t (.int .i64 (pre.length : Int))] []) = some (cond (yg rest s) (.loop .ret [.t (.bool true)] []) (.loop (.exit 0) [.bad] []))
 | [], pre, h => by
  have c : decide ((pre.length : Int) < (l.length : Int)) = false := by simp [h]
  rw [show yg [] s = false from rfl, cond_false]
  refine zj Tryz.func81 rfl rfl ?_
  simp (disch := ((try simp only [LL]); omega)) only [↓GO, ↓DRW, GA, GX, ren, zm, za, refs, z8, cst, zq, isC, bin, una, z6, zd, blt, asArg, zg, zc, zf, z1, E.mkS, unN, ze, zn, zb, GS, simprocAttr, GZ, c, zi, zD]
 | x :: rest, pre, h => by
  have c : decide ((pre.length : Int) < (l.length : Int)) = true := by simp [h]; omega
  have hget : (strs l)[pre.length]? = some [.str x] := vH (by rw [h]; simp)
  have hlen : pre.length + rest.length + 1 ≤ l.length := by rw [h]; simp; omega
  have IH := R9 l hl s rest (pre ++ [x]) (by rw [h]; simp)
  rw [show ((pre ++ [x]).length : Int) = (pre.length : Int) + 1 by simp] at IH
  rw [show yg (x :: rest) s = ((x == s) || yg rest s) from rfl]
  clear h
  cases q : (x == s) with
  | true =>
   simp only [Bool.true_or, cond_true]
   refine zj Tryz.func81 rfl rfl ?_
   simp (disch := ((try simp only [LL]); omega)) only [↓GO, ↓DRW, GA, GX, ren, zm, za, refs, z8, cst, zq, isC, bin, una, z6, zd, blt, asArg, zg, zc, zf, z1, E.mkS, unN, ze, zn, zb, GS, simprocAttr, GZ, c, hget, zi, q, zk, zD]
  | false =>
   simp only [Bool.false_or]
   refine zj Tryz.func81 rfl rfl ?_
   simp (disch := ((try simp only [LL]); omega)) only [↓GO, ↓DRW, GA, GX, ren, zm, za, refs, z8, cst, zq, isC, bin, una, z6, zd, blt, asArg, zg, zc, zf, z1, E.mkS, unN, ze, zn, zb, GS, simprocAttr, GZ, c, hget, zi, q, zk, zD, IH]
theorem ZU (l : List Str) (hl : l.length ≤ 1048576) (s : Str) : zo (EV Tryz.prog pol) 81 [.t (.list 1 (strs l)), .t (.str s)] = some (.t (.bool (yg l s))) := by
 have L := R9 l hl s l [] rfl
 simp only [List.length_nil, Int.natCast_zero] at L
 cases q : yg l s <;> rw [q] at L <;> simp only [cond_true, cond_false] at L
 all_goals
  apply zw
  refine zy rfl Tryz.func81 rfl (by kernel_rfl) ?_
  unfold Tryz.f81
  simp (disch := ((try simp only [LL]); omega)) only [↓GO, ↓DRW, GA, GX, ren, zm, za, refs, z8, cst, zq, isC, bin, una, z6, zd, blt, asArg, zg, zc, zf, z1, E.mkS, unN, ze, zn, zb, GS, simprocAttr, GZ, L, zi, zD]
theorem Rf (l : List Str) (hl : l.length ≤ 1073741824) (s : Str) (n : Nat) (hn : n = l.length) (cap : Option Nat) : ∀ (rest pre : List Str), l = pre ++ rest →
 EV Tryz.prog pol (.loop 68 28 1 [.sl 0 0 n cap, .t (.str s), .t (.int .i64 (pre.length : Int))] [.ts 1 (strs l)]) = some (.loop (.exit 0) [.sl 0 0 n cap, .t (.str s), .t (.int .i64 ((pre.length + wc rest s : Nat) : Int))] [.ts 1 (strs l)])
 | [], pre, h => by
  have c : decide ((pre.length : Int) < (n : Int)) = false := by simp [hn, h]
  rw [show wc [] s = 0 from rfl, Nat.add_zero]
  refine zj Tryz.func68 rfl rfl ?_
  simp (disch := ((try simp only [LL]); omega)) only [↓GO, ↓DRW, GA, GX, ren, zm, za, refs, z8, cst, zq, isC, bin, una, z6, zd, blt, asArg, zg, zc, zf, z1, E.mkS, unN, ze, zn, zb, GS, simprocAttr, GZ, c, zD]
 | x :: rest, pre, h => by
  have c : decide ((pre.length : Int) < (n : Int)) = true := by simp [hn, h]; omega
  have c0 : decide ((0 : Int) ≤ (pre.length : Int)) = true := by simp
  have hget : (strs l)[pre.length]? = some [.str x] := vH (by rw [h]; simp)
  have hlen : pre.length + rest.length + 1 ≤ l.length := by rw [h]; simp; omega
  have IH := Rf l hl s n hn cap rest (pre ++ [x]) (by rw [h]; simp)
  rw [show ((pre ++ [x]).length : Int) = (pre.length : Int) + 1 by simp, show (pre ++ [x]).length + wc rest s = pre.length + (wc rest s + 1) by simp; omega] at IH
  rw [wc]
  clear h
  cases q : Op.bytesLess x s with
  | true =>
   simp only [cond_true]
   refine zj Tryz.func68 rfl rfl ?_
   simp (disch := ((try simp only [LL]); omega)) only [↓GO, ↓DRW, GA, GX, ren, zm, za, refs, z8, cst, zq, isC, bin, una, z6, zd, blt, asArg, zg, zc, zf, z1, E.mkS, unN, ze, zn, zb, GS, simprocAttr, GZ, c, c0, hget, q, zk, zD, IH]
  | false =>
   simp only [cond_false, Nat.add_zero]
   refine zj Tryz.func68 rfl rfl ?_
   simp (disch := ((try simp only [LL]); omega)) only [↓GO, ↓DRW, GA, GX, ren, zm, za, refs, z8, cst, zq, isC, bin, una, z6, zd, blt, asArg, zg, zc, zf, z1, E.mkS, unN, ze, zn, zb, GS, simprocAttr, GZ, c, c0, hget, q, zk, zD]
theorem Qk (l : List Str) (hl : l.length ≤ 1073741824) (s : Str) (n : Nat) (hn : n = l.length) (cap : Option Nat) (h : atS l s = false) : EV Tryz.prog pol (.callO false 68 [.sl 0 0 n cap, .t (.str s)] [.ts 1 (strs l)]) = some (.call (.sl 1 0 (n + 1) none) [.ts 1 (strs l), .ts 1 (strs (xp l s))]) := by
 have L := Rf l hl s n hn cap l [] rfl
 simp only [List.length_nil, Int.natCast_zero, Nat.zero_add] at L
 rw [ZD l s h]
 have hp := av l s
 unfold atS at h
 have c0 : decide ((0 : Int) ≤ ((wc l s : Nat) : Int)) = true := by simp
 have hsl : (strs l).length = n := by rw [zi, hn]
 have e : strs (l.take (wc l s) ++ s :: l.drop (wc l s)) = ((strs l).take (wc l s) ++ [[.str s]]) ++ (strs l).drop (wc l s) := by simp [strs]
 rw [e]
 have hA1 : ((strs l).take (wc l s)).length = wc l s := by rw [List.length_take, hsl]; omega
 have hB0 : ((strs l).drop (wc l s)).take (n - wc l s) = (strs l).drop (wc l s) := List.take_of_length_le (by rw [List.length_drop, hsl]; omega)
 have hB1 : ((strs l).drop (wc l s)).length = n - wc l s := by rw [List.length_drop, hsl]
 have hE : wc l s + 1 + (n - wc l s) = n + 1 := by omega
 rw [← hn] at hp
 have hnl : n ≤ 1073741824 := by omega
 cases hx : l[wc l s]? with
 | none =>
  have hlt : l.length ≤ wc l s := List.getElem?_eq_none_iff.1 hx
  have c : decide (((wc l s : Nat) : Int) < (n : Int)) = false := by rw [hn]; simpa using hlt
  clear h hx e
  generalize wc l s = p at *
  generalize hA : (strs l).take p = A at *
  generalize hB : (strs l).drop p = B at *
  have hC : (A ++ [[T.str s]]).length = p + 1 := by simp [hA1]
  refine zJ Tryz.func68 rfl (by kernel_rfl) ?_
  unfold Tryz.f68
  simp (disch := ((try simp only [LL]); omega)) only [↓GO, ↓DRW, GA, GX, ren, zm, za, refs, z8, cst, zq, isC, bin, una, z6, zd, blt, asArg, zg, zc, zf, z1, E.mkS, unN, ze, zn, zb, GS, simprocAttr, GZ, L, c, c0, hsl, Nat.sub_zero, hA, hA1, hC, hB, hB0, hB1, hE, List.nil_append, Nat.zero_add, zD, ya]
  refine zQ (by kernel_rfl) ?_
  rfl
 | some x =>
  rw [hx] at h
  have q : (x == s) = false := by simpa using h
  have hget := vH hx
  have hlt : wc l s < l.length := (List.getElem?_eq_some_iff.1 hx).1
  have c : decide (((wc l s : Nat) : Int) < (n : Int)) = true := by rw [hn]; simpa using hlt
  clear h hx e
  generalize wc l s = p at *
  generalize hA : (strs l).take p = A at *
  generalize hB : (strs l).drop p = B at *
  have hC : (A ++ [[T.str s]]).length = p + 1 := by simp [hA1]
  refine zJ Tryz.func68 rfl (by kernel_rfl) ?_
  unfold Tryz.f68
  simp (disch := ((try simp only [LL]); omega)) only [↓GO, ↓DRW, GA, GX, ren, zm, za, refs, z8, cst, zq, isC, bin, una, z6, zd, blt, asArg, zg, zc, zf, z1, E.mkS, unN, ze, zn, zb, GS, simprocAttr, GZ, L, c, c0, hget, q, hsl, Nat.sub_zero, hA, hA1, hC, hB, hB0, hB1, hE, List.nil_append, Nat.zero_add, zD, ya]
  refine zQ (by kernel_rfl) ?_
  rfl
theorem Z4 (k : Str) : ∀ (r : List Str) (i : Nat), decide (ixS k i r ≥ 0) = yg r k
 | [], i => rfl
 | x :: r, i => by
  rw [ixS, show yg (x :: r) k = ((x == k) || yg r k) from rfl]
  cases (x == k) with
  | true => simp
  | false => simp only [cond_false, Bool.false_or]; exact Z4 k r (i + 1)
theorem Rp (l : List Str) (hl : l.length ≤ 1048576) (s : Str) : zo (EV Tryz.prog pol) 78 [.t (.list 1 (strs l)), .t (.str s)] = some (.t (.bool (yg l s))) := by
 have h1 := c_ix s l hl
 have h2 := Z4 s l 0
 apply zw
 refine zy rfl Tryz.func78 rfl (by kernel_rfl) ?_
 unfold Tryz.f78
 simp (disch := ((try simp only [LL]); omega)) only [↓GO, ↓DRW, GA, GX, ren, zm, za, refs, z8, cst, zq, isC, bin, una, z6, zd, blt, asArg, zg, zc, zf, z1, E.mkS, unN, ze, zn, zb, GS, simprocAttr, GZ, h1, h2, zD]
end Go.Proofs.YtonbkdklidfmfaaGreatDoor
/- slices.IndexFunc at texts. Conditions: those of each lemma. -/
namespace Go.Proofs.YtonbkdklidfmfaaGreatDoor
open E
set_option linter.unusedSimpArgs false
set_option linter.unusedVariables false
set_option maxRecDepth 100000
end Go.Proofs.YtonbkdklidfmfaaGreatDoor
/- Versions in order, plain: one order, all that is sorted is the same. Conditions: none. -/
namespace Go.Proofs.YtonbkdklidfmfaaGreatDoor
open E
set_option linter.unusedVariables false
set_option linter.unusedSimpArgs false
set_option maxRecDepth 100000
structure Cmp {α : Type} (p : α → Prop) (c : α → α → Int) : Prop where
 anti : ∀ x y, p x → p y → c y x = - c x y
 trans : ∀ x y z, p x → p y → p z → c x y < 0 → c y z < 0 → c x z < 0
 sep : ∀ x y, p x → p y → c x y = 0 → x = y
theorem Cmp.refl {α : Type} {p : α → Prop} {c : α → α → Int} (h : Cmp p c) {x : α} (hx : p x) : c x x = 0 := by
 have := h.anti x x hx hx; omega
theorem Cmp.Rj {α β : Type} {p : β → Prop} {c : β → β → Int} (h : Cmp p c) (f : α → β) (q : α → Prop) (hp : ∀ x, q x → p (f x)) (hi : ∀ x y, q x → q y → f x = f y → x = y) : Cmp q fun x y => c (f x) (f y) :=
 ⟨fun x y hx hy => h.anti _ _ (hp x hx) (hp y hy), fun x y z hx hy hz => h.trans _ _ _ (hp x hx) (hp y hy) (hp z hz), fun x y hx hy e => hi x y hx hy (h.sep _ _ (hp x hx) (hp y hy) e)⟩
theorem Cmp.lex {α β : Type} {p : α → Prop} {q : β → Prop} {c : α → α → Int} {d : β → β → Int} (h : Cmp p c) (k : Cmp q d) : Cmp (fun x : α × β => p x.1 ∧ q x.2) fun x y => cond (c x.1 y.1 == 0) (d x.2 y.2) (c x.1 y.1) := by
 refine ⟨fun x y hx hy => ?_, fun x y z hx hy hz h1 h2 => ?_, fun x y hx hy e => ?_⟩
 · have ha := h.anti x.1 y.1 hx.1 hy.1
   cases hc : (c x.1 y.1 == 0) with
   | true =>
    have h0 : c x.1 y.1 = 0 := by simpa using hc
    rw [ha, h0, show ((-0 : Int) == 0) = true from rfl, cond_true, cond_true]
    exact k.anti _ _ hx.2 hy.2
   | false =>
    have h0 : c x.1 y.1 ≠ 0 := by simpa using hc
    have h1 : (c y.1 x.1 == 0) = false := by rw [beq_eq_false_iff_ne, ha]; omega
    rw [h1, cond_false, cond_false, ha]
 · cases hxy : (c x.1 y.1 == 0) with
   | true =>
    have e1 := h.sep _ _ hx.1 hy.1 (by simpa using hxy)
    rw [hxy, cond_true] at h1
    rw [e1]
    cases hyz : (c y.1 z.1 == 0) with
    | true => rw [hyz, cond_true] at h2; rw [cond_true]; exact k.trans _ _ _ hx.2 hy.2 hz.2 h1 h2
    | false => rw [hyz, cond_false] at h2; rw [cond_false]; exact h2
   | false =>
    rw [hxy, cond_false] at h1
    cases hyz : (c y.1 z.1 == 0) with
    | true =>
     have e1 := h.sep _ _ hy.1 hz.1 (by simpa using hyz)
     rw [← e1, hxy, cond_false]; exact h1
    | false =>
     rw [hyz, cond_false] at h2
     have h3 := h.trans _ _ _ hx.1 hy.1 hz.1 h1 h2
     have : (c x.1 z.1 == 0) = false := by rw [beq_eq_false_iff_ne]; omega
     rw [this, cond_false]; exact h3
 · cases hc : (c x.1 y.1 == 0) with
   | true =>
    rw [hc, cond_true] at e
    have e1 := h.sep _ _ hx.1 hy.1 (by simpa using hc)
    have e2 := k.sep _ _ hx.2 hy.2 e
    exact Prod.ext e1 e2
   | false => rw [hc, cond_false] at e; rw [e] at hc; cases hc
theorem uu {a b : Int} : vf a b < 0 ↔ a < b := by
 unfold vf
 by_cases h1 : a < b
 · simp [h1]
 · by_cases h2 : b < a
   · simp [h1, h2]
   · simp [h1, h2]
theorem uP (a b : Int) : vf b a = - vf a b := by
 unfold vf
 by_cases h1 : a < b
 · have h2 : ¬ b < a := by omega
   simp [h1, h2]
 · by_cases h2 : b < a
   · simp [h1, h2]
   · simp [h1, h2]
theorem w9 : Cmp (fun _ => True) vf :=
 ⟨fun x y _ _ => uP x y, fun x y z _ _ _ h1 h2 => by rw [uu] at *; omega, fun x y _ _ e => by have := uO x y; rw [e] at this; simpa using this.symm⟩
theorem Sd {a b : Str} : dU a b < 0 ↔ Op.bytesLess a b = true := by
 unfold dU
 cases Op.bytesLess a b with
 | true => simp
 | false => cases (a == b) <;> simp
theorem oa : Cmp (fun _ => True) dU := by
 refine ⟨fun x y _ _ => ?_, fun x y z _ _ _ h1 h2 => ?_, fun x y _ _ e => ?_⟩
 · unfold dU
   cases h1 : Op.bytesLess x y with
   | true =>
    have h2 : Op.bytesLess y x = false := by
     cases h : Op.bytesLess y x with
     | false => rfl
     | true => have := xT h1 h; rw [wQ] at this; cases this
    have h3 : (y == x) = false := by
     rw [beq_eq_false_iff_ne]; intro e; subst e; rw [wQ] at h1; cases h1
    rw [h2, h3]; rfl
   | false =>
    cases h2 : Op.bytesLess y x with
    | true =>
     have h3 : (x == y) = false := by
      rw [beq_eq_false_iff_ne]; intro e; subst e; rw [wQ] at h2; cases h2
     rw [h3]; rfl
    | false =>
     have := qU h1 h2
     subst this
     simp
 · rw [Sd] at *; exact xT h1 h2
 · unfold dU at e
   cases h1 : Op.bytesLess x y with
   | true => rw [h1] at e; cases e
   | false =>
    rw [h1] at e
    cases h2 : (x == y) with
    | true => simpa using h2
    | false => rw [h2] at e; cases e
theorem uN : Cmp (fun _ => True) td := by
 have inj : ∀ {x y : Str}, 0 ≤ zO x → zO x = zO y → x = y := fun {x y} h e => by
  have h1 := (oA h).2.1
  have h2 := (oA (s := y) (by rw [← e]; exact h)).2.1
  rw [← h1, ← h2, e]
 refine ⟨fun x y _ _ => ?_, fun x y z _ _ _ h1 h2 => ?_, fun x y _ _ e => ?_⟩
 · unfold td
   cases decide (zO x ≥ 0) <;> cases decide (zO y ≥ 0) <;> simp only [Bool.and_true, Bool.and_false, Bool.true_and, Bool.false_and, cond_true, cond_false]
   all_goals first | exact oa.anti x y trivial trivial | exact uP _ _ | rfl
 · unfold td at *
   cases hx : decide (zO x ≥ 0) <;> cases hy : decide (zO y ≥ 0) <;> cases hz : decide (zO z ≥ 0) <;> simp only [hx, hy, hz, Bool.and_true, Bool.and_false, Bool.true_and, Bool.false_and, cond_true, cond_false] at *
   all_goals first | exact oa.trans x y z trivial trivial trivial h1 h2 | exact w9.trans _ _ _ trivial trivial trivial h1 h2 | omega
 · unfold td at e
   cases hx : decide (zO x ≥ 0) <;> cases hy : decide (zO y ≥ 0) <;> simp only [hx, hy, Bool.and_true, Bool.and_false, Bool.true_and, Bool.false_and, cond_true, cond_false] at e
   all_goals try omega
   · exact oa.sep x y trivial trivial e
   · exact inj (of_decide_eq_true hx) (w9.sep _ _ trivial trivial e)
theorem tD (a b : Str) (l m : List Str) : vR (a :: l) (b :: m) = cond (td a b == 0) (vR l m) (td a b) := by
 unfold vR
 rw [rn]
 cases (td a b == 0) with
 | true =>
  simp only [cond_true, List.length_cons]
  cases rn l m with
  | some x => rfl
  | none =>
   simp only [Option.getD_none]
   unfold vf
   rw [show decide (((l.length + 1 : Nat) : Int) < ((m.length + 1 : Nat) : Int)) = decide ((l.length : Int) < (m.length : Int)) by rw [Bool.eq_iff_iff]; simp,
    show decide (((l.length + 1 : Nat) : Int) > ((m.length + 1 : Nat) : Int)) = decide ((l.length : Int) > (m.length : Int)) by rw [Bool.eq_iff_iff]; simp]
 | false => rfl
theorem r4 (m : List Str) : vR [] m = vf 0 (m.length : Int) := by unfold vR rn; rfl
theorem wY (l : List Str) : vR l [] = vf (l.length : Int) 0 := by unfold vR rn; cases l <;> rfl
theorem mD : ∀ l m : List Str, vR m l = - vR l m
 | [], m => by rw [r4, wY]; exact uP _ _
 | a :: l, [] => by rw [r4, wY]; exact uP _ _
 | a :: l, b :: m => by
  have h := uN.anti a b trivial trivial
  rw [tD, tD]
  cases hc : (td a b == 0) with
  | true =>
   have h0 : td a b = 0 := by simpa using hc
   rw [h, h0, show ((-0 : Int) == 0) = true from rfl, cond_true, cond_true]
   exact mD l m
  | false =>
   have h0 : td a b ≠ 0 := by simpa using hc
   have h1 : (td b a == 0) = false := by rw [beq_eq_false_iff_ne, h]; omega
   rw [h1, cond_false, cond_false, h]
theorem jn : ∀ l m : List Str, vR l m = 0 → l = m
 | [], m, e => by
  rw [r4] at e
  have := w9.sep _ _ trivial trivial e
  cases m with
  | nil => rfl
  | cons b m => simp at this; omega
 | a :: l, [], e => by
  rw [wY] at e
  have := w9.sep _ _ trivial trivial e
  simp at this; omega
 | a :: l, b :: m, e => by
  rw [tD] at e
  cases hc : (td a b == 0) with
  | true =>
   rw [hc, cond_true] at e
   rw [uN.sep a b trivial trivial (by simpa using hc), jn l m e]
  | false => rw [hc, cond_false] at e; rw [e] at hc; cases hc
theorem oZ : ∀ l m k : List Str, vR l m < 0 → vR m k < 0 → vR l k < 0
 | [], [], k, h1, h2 => h2
 | [], b :: m, [], h1, h2 => by rw [wY, uu] at h2; simp at h2; omega
 | [], b :: m, c :: k, h1, h2 => by rw [r4, uu]; simp
 | a :: l, [], k, h1, h2 => by rw [wY, uu] at h1; simp at h1; omega
 | a :: l, b :: m, [], h1, h2 => by rw [wY, uu] at h2; simp at h2; omega
 | a :: l, b :: m, c :: k, h1, h2 => by
  rw [tD] at *
  cases hxy : (td a b == 0) with
  | true =>
   have e1 := uN.sep a b trivial trivial (by simpa using hxy)
   subst e1
   rw [hxy, cond_true] at h1
   cases hyz : (td a c == 0) with
   | true => rw [hyz, cond_true] at h2; rw [cond_true]; exact oZ l m k h1 h2
   | false => rw [hyz, cond_false] at h2; rw [cond_false]; exact h2
  | false =>
   rw [hxy, cond_false] at h1
   cases hyz : (td b c == 0) with
   | true =>
    have e1 := uN.sep b c trivial trivial (by simpa using hyz)
    subst e1
    rw [hxy, cond_false]; exact h1
   | false =>
    rw [hyz, cond_false] at h2
    have h3 := uN.trans a b c trivial trivial trivial h1 h2
    have : (td a c == 0) = false := by rw [beq_eq_false_iff_ne]; omega
    rw [this, cond_false]; exact h3
def ZS (a b : List Str) : Int := cond (a == [] || b == []) (vf (b.length : Int) (a.length : Int)) (vR a b)
theorem cC : Cmp (fun _ => True) ZS := by
 refine ⟨fun x y _ _ => ?_, fun x y z _ _ _ h1 h2 => ?_, fun x y _ _ e => ?_⟩
 · unfold ZS
   rw [Bool.or_comm]
   cases (x == [] || y == []) with
   | true => exact uP _ _
   | false => exact mD x y
 · unfold ZS at *
   cases x with
   | nil =>
    simp only [beq_self_eq_true, Bool.true_or, cond_true, uu, List.length_nil] at h1
    omega
   | cons a x =>
    cases y with
    | nil =>
     simp only [beq_self_eq_true, Bool.true_or, cond_true, uu, List.length_nil] at h2
     omega
    | cons b y =>
     cases z with
     | nil =>
      simp only [beq_self_eq_true, Bool.or_true, cond_true, uu, List.length_nil, List.length_cons]
      omega
     | cons c z =>
      rw [show ((a :: x == []) || (b :: y == [])) = false from rfl, cond_false] at h1
      rw [show ((b :: y == []) || (c :: z == [])) = false from rfl, cond_false] at h2
      rw [show ((a :: x == []) || (c :: z == [])) = false from rfl, cond_false]
      exact oZ _ _ _ h1 h2
 · unfold ZS at e
   cases x with
   | nil =>
    simp only [beq_self_eq_true, Bool.true_or, cond_true, List.length_nil] at e
    have := w9.sep _ _ trivial trivial e
    cases y with
    | nil => rfl
    | cons b y => simp at this; omega
   | cons a x =>
    cases y with
    | nil =>
     simp only [beq_self_eq_true, Bool.or_true, cond_true, List.length_nil] at e
     have := w9.sep _ _ trivial trivial e
     simp at this; omega
    | cons b y =>
     rw [show ((a :: x == []) || (b :: y == [])) = false from rfl, cond_false] at e
     exact jn _ _ e
theorem Yr : Cmp (fun _ => True) dT := by
 have h := (w9.lex (w9.lex (w9.lex cC))).Rj (fun v : Ver => (v.maj, v.min, v.pat, v.pre)) (fun _ => True) (fun _ _ => ⟨trivial, trivial, trivial, trivial⟩) (fun x y _ _ e => by
  obtain ⟨a, b, c, d⟩ := x
  obtain ⟨a', b', c', d'⟩ := y
  simp only [Prod.mk.injEq] at e
  obtain ⟨rfl, rfl, rfl, rfl⟩ := e
  rfl)
 exact h
def Rk (s t : Str) : Int := dT (zT s).1 (zT t).1
theorem mC : Cmp (fun s => isV s = true) Rk :=
 Yr.Rj (fun s => (zT s).1) _ (fun _ _ => trivial) fun x y hx hy e => by
  have h1 := (wJ hx).2.1
  have h2 := (wJ hy).2.1
  rw [← h1, ← h2, e]
def SU (l : List Str) : Prop := l.Pairwise fun x y => Rk x y < 0
def AllV (l : List Str) : Prop := ∀ s ∈ l, isV s = true
theorem SU.uniq : ∀ {a b : List Str}, AllV a → AllV b → SU a → SU b → (∀ s, s ∈ a ↔ s ∈ b) → a = b
 | [], [], _, _, _, _, _ => rfl
 | [], y :: b, _, _, _, _, h => by have := (h y).2 (by simp); simp at this
 | x :: a, [], _, _, _, _, h => by have := (h x).1 (by simp); simp at this
 | x :: a, y :: b, va, vb, h1, h2, h => by
  obtain ⟨p1, p2⟩ := List.pairwise_cons.1 h1
  obtain ⟨q1, q2⟩ := List.pairwise_cons.1 h2
  have hxy : x = y := by
   rcases List.mem_cons.1 ((h x).1 (by simp)) with e | m1
   · exact e
   · rcases List.mem_cons.1 ((h y).2 (by simp)) with e | m2
     · exact e.symm
     · have a1 := p1 y m2
       have a2 := q1 x m1
       have := mC.anti x y (va x (by simp)) (vb y (by simp))
       omega
  subst hxy
  have hx := va x (by simp)
  have hr := mC.refl hx
  rw [SU.uniq (fun s hs => va s (by simp [hs])) (fun s hs => vb s (by simp [hs])) p2 q2 fun s => ?_]
  constructor
  · intro hs
    rcases List.mem_cons.1 ((h s).1 (by simp [hs])) with rfl | m
    · have := p1 s hs; omega
    · exact m
  · intro hs
    rcases List.mem_cons.1 ((h s).2 (by simp [hs])) with rfl | m
    · have := q1 s hs; omega
    · exact m
end Go.Proofs.YtonbkdklidfmfaaGreatDoor
/- What the laws' own functions do over Change: sizes, copies, comparisons. Conditions: those of each lemma. -/
namespace Go.Proofs.YtonbkdklidfmfaaGreatDoor
open E
set_option linter.unusedSimpArgs false
set_option linter.unusedVariables false
set_option maxRecDepth 100000
structure yo where
 kind : Int
 name : List UInt8
 old : List UInt8
 new : List UInt8
def yo.enc (x : yo) : List T := [.int .i64 x.kind, .str x.name, .str x.old, .str x.new]
def yo.zh (l : List yo) : List (List T) := l.map yo.enc
def yo.y7 (x : yo) : Nat := x.name.length + x.old.length + x.new.length
def yo.yi : List yo → Nat
 | [] => 0
 | c :: cs => yo.y7 c + yo.yi cs
def yo.ok (x : yo) : Prop := x.name.length ≤ 9223372036854775807 ∧ x.old.length ≤ 9223372036854775807 ∧ x.new.length ≤ 9223372036854775807
theorem yo.vK (x : yo) : x.enc.length = 4 := rfl
theorem yo.wN (x : yo) : x.enc.take 4 = x.enc := rfl
theorem yo.zu (cs : List yo) : (yo.zh cs).length = cs.length := by simp [yo.zh]
theorem yo.w6 (cs : List yo) (i : Nat) (h : i < cs.length) : (yo.zh cs)[i]? = some cs[i].enc := by simp [yo.zh, h]
theorem yo.yp : ∀ {cs : List yo} {c : yo}, c ∈ cs → c.y7 ≤ yo.yi cs
 | c' :: cs, c, h => by
  simp only [yo.yi]
  rcases List.mem_cons.1 h with rfl | h
  · omega
  · have := yo.yp h; omega
end Go.Proofs.YtonbkdklidfmfaaGreatDoor
/- Names in order, changes between graphs, plain: both ways come to the same. Conditions: none. -/
namespace Go.Proofs.YtonbkdklidfmfaaGreatDoor
open E
set_option linter.unusedVariables false
set_option linter.unusedSimpArgs false
set_option maxRecDepth 100000
def rQ (l : List Str) : Prop := l.Pairwise fun x y => Op.bytesLess x y = true
theorem RP {x y : Str} (h : Op.bytesLess x y = true) : Op.bytesLess y x = false := by
 cases h2 : Op.bytesLess y x with
 | false => rfl
 | true => have := xT h h2; rw [wQ] at this; cases this
theorem rQ.uniq : ∀ {a b : List Str}, rQ a → rQ b → (∀ s, s ∈ a ↔ s ∈ b) → a = b
 | [], [], _, _, _ => rfl
 | [], y :: b, _, _, h => by have := (h y).2 (by simp); simp at this
 | x :: a, [], _, _, h => by have := (h x).1 (by simp); simp at this
 | x :: a, y :: b, h1, h2, h => by
  obtain ⟨p1, p2⟩ := List.pairwise_cons.1 h1
  obtain ⟨q1, q2⟩ := List.pairwise_cons.1 h2
  have hxy : x = y := by
   rcases List.mem_cons.1 ((h x).1 (by simp)) with e | m1
   · exact e
   · rcases List.mem_cons.1 ((h y).2 (by simp)) with e | m2
     · exact e.symm
     · have a1 := RP (p1 y m2)
       have a2 := q1 x m1
       rw [a2] at a1; cases a1
  subst hxy
  rw [rQ.uniq p2 q2 fun s => ?_]
  constructor
  · intro hs
    rcases List.mem_cons.1 ((h s).1 (by simp [hs])) with rfl | m
    · have := p1 s hs; rw [wQ] at this; cases this
    · exact m
  · intro hs
    rcases List.mem_cons.1 ((h s).2 (by simp [hs])) with rfl | m
    · have := q1 s hs; rw [wQ] at this; cases this
    · exact m
theorem vw : ∀ (l : List Str) (s y : Str), y ∈ xp l s ↔ y ∈ l ∨ y = s
 | [], s, y => by simp [xp]
 | x :: r, s, y => by
  rw [xp]
  cases h1 : Op.bytesLess x s with
  | true => rw [cond_true, List.mem_cons, vw r s y, List.mem_cons, or_assoc]
  | false =>
   rw [cond_false]
   cases h2 : (x == s) with
   | true =>
    have : x = s := by simpa using h2
    subst this
    rw [cond_true, List.mem_cons]
    constructor
    · exact .inl
    · rintro (h | h)
      · exact h
      · exact .inl h
   | false => rw [cond_false, List.mem_cons]; exact Or.comm
theorem jz : ∀ (l : List Str) (s : Str), rQ l → rQ (xp l s)
 | [], s, _ => by simp [xp, rQ]
 | x :: r, s, h => by
  have h' := List.pairwise_cons.1 h
  rw [xp]
  cases h1 : Op.bytesLess x s with
  | true =>
   simp only [cond_true]
   refine List.pairwise_cons.2 ⟨fun y hy => ?_, jz r s h'.2⟩
   rcases (vw r s y).1 hy with hy | rfl
   · exact h'.1 y hy
   · exact h1
  | false =>
   simp only [cond_false]
   cases h2 : (x == s) with
   | true => exact h
   | false =>
    simp only [cond_false]
    have hsx : Op.bytesLess s x = true := by
     cases h3 : Op.bytesLess s x with
     | true => rfl
     | false => rw [qU h1 h3] at h2; simp at h2
    refine List.pairwise_cons.2 ⟨fun y hy => ?_, h⟩
    rcases List.mem_cons.1 hy with rfl | hy
    · exact hsx
    · exact xT hsx (h'.1 y hy)
def uw (l : List zC) : List (List Str) := l.map fun s => [s.alg, s.bytes]
end Go.Proofs.YtonbkdklidfmfaaGreatDoor
/- Lists compared, packs compared, texts kept and left out, names of two graphs, by both. Conditions: those of each lemma. -/
namespace Go.Proofs.YtonbkdklidfmfaaGreatDoor
open E
set_option linter.unusedSimpArgs false
set_option linter.unusedVariables false
set_option maxRecDepth 100000
theorem Rb (a b : List Str) (hl : a.length ≤ 4194304) : ∀ (ra rb pa pb : List Str), a = pa ++ ra → b = pb ++ rb → pa.length = pb.length → ra.length = rb.length →
 EV Tryz.prog pol (.loop 64 58 0 [.t (.list 1 (strs a)), .t (.list 1 (strs b)), .t (.int .i64 (a.length : Int)), .t (.int .i64 (pa.length : Int))] []) = some (cond (ra == rb) (.loop (.exit 0) [.bad] []) (.loop .ret [.t (.bool false)] []))
 | [], [], pa, pb, ha, hb, hp, hr => by
  have c : decide ((pa.length : Int) < (a.length : Int)) = false := by simp [ha]
  rw [show (([] : List Str) == []) = true from rfl, cond_true]
  refine zj Tryz.func64 rfl rfl ?_
  simp (disch := ((try simp only [LL]); omega)) only [↓GO, ↓DRW, GA, GX, ren, zm, za, refs, z8, cst, zq, isC, bin, una, z6, zd, blt, asArg, zg, zc, zf, z1, E.mkS, unN, ze, zn, zb, GS, simprocAttr, GZ, c, zD]
 | [], _ :: _, pa, pb, ha, hb, hp, hr => by simp at hr
 | _ :: _, [], pa, pb, ha, hb, hp, hr => by simp at hr
 | x :: ra, y :: rb, pa, pb, ha, hb, hp, hr => by
  have c : decide ((pa.length : Int) < (a.length : Int)) = true := by simp [ha]; omega
  have hg1 : (strs a)[pa.length]? = some [.str x] := vH (by rw [ha]; simp)
  have hg2 : (strs b)[pa.length]? = some [.str y] := vH (by rw [hb, hp]; simp)
  have hlen : pa.length + ra.length + 1 ≤ a.length := by rw [ha]; simp; omega
  have IH := Rb a b hl ra rb (pa ++ [x]) (pb ++ [y]) (by rw [ha]; simp) (by rw [hb]; simp) (by simp [hp]) (by simpa using hr)
  rw [show ((pa ++ [x]).length : Int) = (pa.length : Int) + 1 by simp] at IH
  rw [List.cons_beq_cons]
  clear ha hb
  cases q : (x == y) with
  | true =>
   rw [Bool.true_and]
   refine zj Tryz.func64 rfl rfl ?_
   simp (disch := ((try simp only [LL]); omega)) only [↓GO, ↓DRW, GA, GX, ren, zm, za, refs, z8, cst, zq, isC, bin, una, z6, zd, blt, asArg, zg, zc, zf, z1, E.mkS, unN, ze, zn, zb, GS, simprocAttr, GZ, c, hg1, hg2, q, bne, Bool.not_true, zk, zD, IH]
  | false =>
   rw [Bool.false_and, cond_false]
   refine zj Tryz.func64 rfl rfl ?_
   simp (disch := ((try simp only [LL]); omega)) only [↓GO, ↓DRW, GA, GX, ren, zm, za, refs, z8, cst, zq, isC, bin, una, z6, zd, blt, asArg, zg, zc, zf, z1, E.mkS, unN, ze, zn, zb, GS, simprocAttr, GZ, c, hg1, hg2, q, bne, Bool.not_false, zk, zD]
theorem WO {a b : List Str} (h : a.length ≠ b.length) : (a == b) = false := by
 rw [beq_eq_false_iff_ne]; intro e; exact h (by rw [e])
theorem c_eqI (a b : List Str) (hl : a.length ≤ 4194304) : zo (EV Tryz.prog pol) 64 [.t (.list 1 (strs a)), .t (.list 1 (strs b))] = some (.t (.bool (a == b))) := by
 by_cases hn : a.length = b.length
 · have L := Rb a b hl a b [] [] rfl rfl rfl hn
   simp only [List.length_nil, Int.natCast_zero] at L
   have c : ((a.length : Int) != (b.length : Int)) = false := by rw [hn]; simp
   cases q : (a == b) <;> rw [q] at L <;> simp only [cond_true, cond_false] at L
   all_goals
    apply zw
    refine zy rfl Tryz.func64 rfl (by kernel_rfl) ?_
    unfold Tryz.f64
    simp (disch := ((try simp only [LL]); omega)) only [↓GO, ↓DRW, GA, GX, ren, zm, za, refs, z8, cst, zq, isC, bin, una, z6, zd, blt, asArg, zg, zc, zf, z1, E.mkS, unN, ze, zn, zb, GS, simprocAttr, GZ, L, zi, c, zD]
 · have c : ((a.length : Int) != (b.length : Int)) = true := by simp; omega
   rw [WO hn]
   apply zw
   refine zy rfl Tryz.func64 rfl (by kernel_rfl) ?_
   unfold Tryz.f64
   simp (disch := ((try simp only [LL]); omega)) only [↓GO, ↓DRW, GA, GX, ren, zm, za, refs, z8, cst, zq, isC, bin, una, z6, zd, blt, asArg, zg, zc, zf, z1, E.mkS, unN, ze, zn, zb, GS, simprocAttr, GZ, zi, c, zD]
theorem Ra (a b : List Str) (hl : a.length ≤ 4194304) : ∀ (ra rb pa pb : List Str), a = pa ++ ra → b = pb ++ rb → pa.length = pb.length → ra.length = rb.length →
 EV Tryz.prog pol (.loop 61 58 0 [.t (.list 1 (strs a)), .t (.list 1 (strs b)), .t (.int .i64 (pa.length : Int))] []) = some (cond (ra == rb) (.loop (.exit 0) [.bad] []) (.loop .ret [.t (.bool false)] []))
 | [], [], pa, pb, ha, hb, hp, hr => by
  have c : decide ((pa.length : Int) < (a.length : Int)) = false := by simp [ha]
  rw [show (([] : List Str) == []) = true from rfl, cond_true]
  refine zj Tryz.func61 rfl rfl ?_
  simp (disch := ((try simp only [LL]); omega)) only [↓GO, ↓DRW, GA, GX, ren, zm, za, refs, z8, cst, zq, isC, bin, una, z6, zd, blt, asArg, zg, zc, zf, z1, E.mkS, unN, ze, zn, zb, GS, simprocAttr, GZ, c, zi, zD]
 | [], _ :: _, pa, pb, ha, hb, hp, hr => by simp at hr
 | _ :: _, [], pa, pb, ha, hb, hp, hr => by simp at hr
 | x :: ra, y :: rb, pa, pb, ha, hb, hp, hr => by
  have c : decide ((pa.length : Int) < (a.length : Int)) = true := by simp [ha]; omega
  have hg1 : (strs a)[pa.length]? = some [.str x] := vH (by rw [ha]; simp)
  have hg2 : (strs b)[pa.length]? = some [.str y] := vH (by rw [hb, hp]; simp)
  have hlen : pa.length + ra.length + 1 ≤ a.length := by rw [ha]; simp; omega
  have IH := Ra a b hl ra rb (pa ++ [x]) (pb ++ [y]) (by rw [ha]; simp) (by rw [hb]; simp) (by simp [hp]) (by simpa using hr)
  rw [show ((pa ++ [x]).length : Int) = (pa.length : Int) + 1 by simp] at IH
  rw [List.cons_beq_cons]
  clear ha hb
  cases q : (x == y) with
  | true =>
   rw [Bool.true_and]
   refine zj Tryz.func61 rfl rfl ?_
   simp (disch := ((try simp only [LL]); omega)) only [↓GO, ↓DRW, GA, GX, ren, zm, za, refs, z8, cst, zq, isC, bin, una, z6, zd, blt, asArg, zg, zc, zf, z1, E.mkS, unN, ze, zn, zb, GS, simprocAttr, GZ, c, hg1, hg2, zi, q, bne, Bool.not_true, zk, zD, IH]
  | false =>
   rw [Bool.false_and, cond_false]
   refine zj Tryz.func61 rfl rfl ?_
   simp (disch := ((try simp only [LL]); omega)) only [↓GO, ↓DRW, GA, GX, ren, zm, za, refs, z8, cst, zq, isC, bin, una, z6, zd, blt, asArg, zg, zc, zf, z1, E.mkS, unN, ze, zn, zb, GS, simprocAttr, GZ, c, hg1, hg2, zi, q, bne, Bool.not_false, zk, zD]
theorem c_eqR (a b : List Str) (hl : a.length ≤ 4194304) : zo (EV Tryz.prog pol) 61 [.t (.list 1 (strs a)), .t (.list 1 (strs b))] = some (.t (.bool (a == b))) := by
 by_cases hn : a.length = b.length
 · have L := Ra a b hl a b [] [] rfl rfl rfl hn
   simp only [List.length_nil, Int.natCast_zero] at L
   have c : ((a.length : Int) != (b.length : Int)) = false := by rw [hn]; simp
   cases q : (a == b) <;> rw [q] at L <;> simp only [cond_true, cond_false] at L
   all_goals
    apply zw
    refine zy rfl Tryz.func61 rfl (by kernel_rfl) ?_
    unfold Tryz.f61
    simp (disch := ((try simp only [LL]); omega)) only [↓GO, ↓DRW, GA, GX, ren, zm, za, refs, z8, cst, zq, isC, bin, una, z6, zd, blt, asArg, zg, zc, zf, z1, E.mkS, unN, ze, zn, zb, GS, simprocAttr, GZ, L, zi, c, zD]
 · have c : ((a.length : Int) != (b.length : Int)) = true := by simp; omega
   have hf : (a == b) = false := by rw [beq_eq_false_iff_ne]; intro e; exact hn (by rw [e])
   rw [hf]
   apply zw
   refine zy rfl Tryz.func61 rfl (by kernel_rfl) ?_
   unfold Tryz.f61
   simp (disch := ((try simp only [LL]); omega)) only [↓GO, ↓DRW, GA, GX, ren, zm, za, refs, z8, cst, zq, isC, bin, una, z6, zd, blt, asArg, zg, zc, zf, z1, E.mkS, unN, ze, zn, zb, GS, simprocAttr, GZ, zi, c, zD]
theorem nO (x : zC) (r : List zC) : uw (x :: r) = [x.alg, x.bytes] :: uw r := rfl
theorem kh (l : List zC) : (uw l).length = l.length := by simp [uw]
theorem U3 {l : List zC} {i : Nat} {s : zC} (h : l[i]? = some s) : (zC.zh l)[i]? = some [.str s.alg, .str s.bytes] := by simp [zC.zh, zC.enc, h]
theorem UA (a b : List zC) (hl : a.length ≤ 4194304) : ∀ (ra rb pa pb : List zC), a = pa ++ ra → b = pb ++ rb → pa.length = pb.length → ra.length = rb.length →
 EV Tryz.prog pol (.loop 104 58 0 [.t (.list 2 (zC.zh a)), .t (.list 2 (zC.zh b)), .t (.int .i64 (a.length : Int)), .t (.int .i64 (pa.length : Int))] []) = some (cond (uw ra == uw rb) (.loop (.exit 0) [.bad] []) (.loop .ret [.t (.bool false)] []))
 | [], [], pa, pb, ha, hb, hp, hr => by
  have c : decide ((pa.length : Int) < (a.length : Int)) = false := by simp [ha]
  rw [show (uw [] == uw []) = true from rfl, cond_true]
  refine zj Tryz.func104 rfl rfl ?_
  simp (disch := ((try simp only [LL]); omega)) only [↓GO, ↓DRW, GA, GX, ren, zm, za, refs, z8, cst, zq, isC, bin, una, z6, zd, blt, asArg, zg, zc, zf, z1, E.mkS, unN, ze, zn, zb, GS, simprocAttr, GZ, c, zD]
 | [], _ :: _, pa, pb, ha, hb, hp, hr => by simp at hr
 | _ :: _, [], pa, pb, ha, hb, hp, hr => by simp at hr
 | x :: ra, y :: rb, pa, pb, ha, hb, hp, hr => by
  have c : decide ((pa.length : Int) < (a.length : Int)) = true := by simp [ha]; omega
  have hg1 : (zC.zh a)[pa.length]? = some [.str x.alg, .str x.bytes] := U3 (by rw [ha]; simp)
  have hg2 : (zC.zh b)[pa.length]? = some [.str y.alg, .str y.bytes] := U3 (by rw [hb, hp]; simp)
  have hlen : pa.length + ra.length + 1 ≤ a.length := by rw [ha]; simp; omega
  have IH := UA a b hl ra rb (pa ++ [x]) (pb ++ [y]) (by rw [ha]; simp) (by rw [hb]; simp) (by simp [hp]) (by simpa using hr)
  rw [show ((pa ++ [x]).length : Int) = (pa.length : Int) + 1 by simp] at IH
  rw [nO, nO, List.cons_beq_cons]
  clear ha hb
  cases q : ([x.alg, x.bytes] == [y.alg, y.bytes]) with
  | true =>
   rw [Bool.true_and]
   refine zj Tryz.func104 rfl rfl ?_
   simp (disch := ((try simp only [LL]); omega)) only [↓GO, ↓DRW, GA, GX, ren, zm, za, refs, z8, cst, zq, isC, bin, una, z6, zd, blt, asArg, zg, zc, zf, z1, E.mkS, unN, ze, zn, zb, GS, simprocAttr, GZ, c, hg1, hg2, q, bne, Bool.not_true, zk, zD, IH, List.length_cons, List.length_nil, Nat.zero_add, Nat.reduceAdd, and_self, if_true]
  | false =>
   rw [Bool.false_and, cond_false]
   refine zj Tryz.func104 rfl rfl ?_
   simp (disch := ((try simp only [LL]); omega)) only [↓GO, ↓DRW, GA, GX, ren, zm, za, refs, z8, cst, zq, isC, bin, una, z6, zd, blt, asArg, zg, zc, zf, z1, E.mkS, unN, ze, zn, zb, GS, simprocAttr, GZ, c, hg1, hg2, q, bne, Bool.not_false, zk, zD, List.length_cons, List.length_nil, Nat.zero_add, Nat.reduceAdd, and_self, if_true]
theorem c_eqSI (a b : List zC) (hl : a.length ≤ 4194304) : zo (EV Tryz.prog pol) 104 [.t (.list 2 (zC.zh a)), .t (.list 2 (zC.zh b))] = some (.t (.bool (uw a == uw b))) := by
 by_cases hn : a.length = b.length
 · have L := UA a b hl a b [] [] rfl rfl rfl hn
   simp only [List.length_nil, Int.natCast_zero] at L
   have c : ((a.length : Int) != (b.length : Int)) = false := by rw [hn]; simp
   cases q : (uw a == uw b) <;> rw [q] at L <;> simp only [cond_true, cond_false] at L
   all_goals
    apply zw
    refine zy rfl Tryz.func104 rfl (by kernel_rfl) ?_
    unfold Tryz.f104
    simp (disch := ((try simp only [LL]); omega)) only [↓GO, ↓DRW, GA, GX, ren, zm, za, refs, z8, cst, zq, isC, bin, una, z6, zd, blt, asArg, zg, zc, zf, z1, E.mkS, unN, ze, zn, zb, GS, simprocAttr, GZ, L, zC.zu, c, zD]
 · have c : ((a.length : Int) != (b.length : Int)) = true := by simp; omega
   have hf : (uw a == uw b) = false := by rw [beq_eq_false_iff_ne]; intro e; exact hn (by rw [← kh a, e, kh])
   rw [hf]
   apply zw
   refine zy rfl Tryz.func104 rfl (by kernel_rfl) ?_
   unfold Tryz.f104
   simp (disch := ((try simp only [LL]); omega)) only [↓GO, ↓DRW, GA, GX, ren, zm, za, refs, z8, cst, zq, isC, bin, una, z6, zd, blt, asArg, zg, zc, zf, z1, E.mkS, unN, ze, zn, zb, GS, simprocAttr, GZ, zC.zu, c, zD]
theorem mv {α : Type} (p : α → Bool) : ∀ (l : List α) (n i : Nat), vZ p l n = some i → ∃ pre x post, l = pre ++ x :: post ∧ n + pre.length = i ∧ p x = true ∧ ∀ y ∈ pre, p y = false
 | [], n, i, h => by cases h
 | x :: r, n, i, h => by
  rw [vZ] at h
  split at h
  · rename_i hx
    cases h
    exact ⟨[], x, r, rfl, rfl, hx, fun y hy => by simp at hy⟩
  · rename_i hx
    obtain ⟨pre, y, post, e1, e2, e3, e4⟩ := mv p r (n + 1) i h
    refine ⟨x :: pre, y, post, by rw [e1]; rfl, by simp; omega, e3, fun z hz => ?_⟩
    rcases List.mem_cons.1 hz with rfl | hz
    · simpa using hx
    · exact e4 z hz
end Go.Proofs.YtonbkdklidfmfaaGreatDoor

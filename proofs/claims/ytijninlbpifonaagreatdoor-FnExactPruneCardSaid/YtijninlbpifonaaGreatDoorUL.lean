/- Joined: V3 K7 K8 V4 K9 G3 V5 V6 V7 V8 V9 V10 V11 K25 I4 V12 G5 V13 K32 K36 V14. Conditions: those of each lemma. -/
import Derived.Test.YtijninlbpifonaaGreatDoorUJ
import Derived.Test.YtijninlbpifonaaGreatDoorUK
import Derived.Test.YtijninlbpifonaaGreatDoorUI
import Derived.Test.YtijninlbpifonaaGreatDoorUH
set_option linter.unusedVariables false
set_option linter.unusedSimpArgs false
namespace Go.Proofs.YtijninlbpifonaaGreatDoor
open E
set_option linter.unusedVariables false
set_option linter.unusedSimpArgs false
set_option maxRecDepth 100000
def V3 : Str := [115, 104, 97, 49]
def j9 : Str := [115, 104, 97, 50, 53, 54]
def h1S : Str := [104, 49]
def j8 : Str := [115, 104, 97, 53, 49, 50]
def uZ (a : Str) : Int := cond (a == V3) 20 (cond (a == j9 || a == h1S) 32 (cond (a == j8) 64 (-1)))
/-- is a text above the one ahead, if there is one? -/
def wR (prev : Option Str) (s : Str) : Bool := match prev with
 | none => true
 | some p => Op.bytesLess p s
def vd : Option Str → List zD → Bool
 | _, [] => true
 | prev, s :: r => (((s.bytes.length : Int) == uZ s.alg) && wR prev s.alg) && vd (some s.alg) r
def keyOf (p : z7) : Str := (p.name ++ [64]) ++ p.version
def fZ (ps : List z7) (k : Str) : Bool := ps.any fun p => keyOf p == k
def sO (ps : List z7) (k : Str) : Option Nat := vA (fun p => keyOf p == k) ps 0
def x9 (ps : List z7) : Option Str → List Str → Bool
 | _, [] => true
 | prev, k :: r => (fZ ps k && wR prev k) && x9 ps (some k) r
def td (p : z7) : Bool := sa p.name && ((ve p.version).isSome && (uV p.source && vd none p.sums))
def xz (ps : List z7) : Option Str → List z7 → Bool
 | _, [] => true
 | prev, p :: r => (td p && (wR prev (keyOf p) && x9 ps none p.zE)) && xz ps (some (keyOf p)) r
def yK (g : zy) : Bool := xz g.packs none g.packs && (decide ((g.packs.length : Int) ≤ 40) && x9 g.packs none g.top)
theorem WN {α : Type} (p : α → Bool) (l : List α) : decide (ixI (vA p l 0) < 0) = !(l.any p) := by
 rw [← qk p l 0]
 cases vA p l 0 with
 | none => rfl
 | some n =>
  have h : ¬ ((n : Int) < 0) := by omega
  show decide ((n : Int) < 0) = false
  exact decide_eq_false h
/-- the one ahead of a place -/
theorem uj {α : Type} (f : α → List T) (pre : List α) (q : α) (rest : List α) : ti ((pre ++ [q] ++ rest).map f) (((pre ++ [q]).length : Int) - 1) = some (f q) := by
 unfold ti
 rw [if_pos (by simp)]
 have e : (((pre ++ [q]).length : Int) - 1).toNat = pre.length := by simp
 rw [e]
 simp
theorem qt {α : Type} (f : α → List T) (pre : List α) (x : α) (rest : List α) : ((pre ++ x :: rest).map f)[pre.length]? = some (f x) := by simp
theorem w7 {α : Type} (l : List α) : l = [] ∨ ∃ p q, l = p ++ [q] := by
 rcases List.eq_nil_or_concat l with h | ⟨p, q, h⟩
 · exact .inl h
 · exact .inr ⟨p, q, by rw [h, List.concat_eq_append]⟩
end Go.Proofs.YtijninlbpifonaaGreatDoor
/- Packs and graphs, by both. Conditions: those of each lemma. -/
namespace Go.Proofs.YtijninlbpifonaaGreatDoor
open E
set_option linter.unusedSimpArgs false
set_option linter.unusedVariables false
set_option maxRecDepth 100000
theorem jF (p : z7) (hb : p.zT ≤ 4194304) : zk (EV Tryz.prog pol) 50 [.agg (p.enc.map .t)] = some (.t (.str (keyOf p))) := by
 obtain ⟨name, version, source, sums, dev, zE⟩ := p
 simp only [z7.zT] at hb
 simp only [z7.enc, List.map_cons, List.map_nil, keyOf]
 apply zr
 refine zw rfl Tryz.func50 rfl (by kernel_rfl) ?_
 unfold Tryz.f50
 simp (disch := ((try simp only [LL]); omega)) only [↓GO, ↓DRW, GA, GX, ren, zm, za, refs, z8, cst, zq, isC, bin, una, z6, zd, blt, asArg, zf, zc, zg, z1, E.mkS, unN, ze, zn, zb, GS, simprocAttr, GZ, xg]
theorem jE (p : z7) (hb : p.zT ≤ 4194304) : zk (EV Tryz.prog pol) 114 [.agg (p.enc.map .t)] = some (.t (.str (keyOf p))) := by
 obtain ⟨name, version, source, sums, dev, zE⟩ := p
 simp only [z7.zT] at hb
 simp only [z7.enc, List.map_cons, List.map_nil, keyOf]
 apply zr
 refine zw rfl Tryz.func114 rfl (by kernel_rfl) ?_
 unfold Tryz.f114
 simp (disch := ((try simp only [LL]); omega)) only [↓GO, ↓DRW, GA, GX, ren, zm, za, refs, z8, cst, zq, isC, bin, una, z6, zd, blt, asArg, zf, zc, zg, z1, E.mkS, unN, ze, zn, zb, GS, simprocAttr, GZ, xg]
theorem c_slI (a : Str) : zk (EV Tryz.prog pol) 277 [.t (.str a)] = some (.t (.int .i64 (uZ a))) := by
 unfold uZ V3 j9 h1S j8
 cases h1 : (a == [115, 104, 97, 49]) <;> cases h2 : (a == [115, 104, 97, 50, 53, 54]) <;> cases h3 : (a == [104, 49]) <;> cases h4 : (a == [115, 104, 97, 53, 49, 50])
 all_goals
  apply zr
  refine zw rfl Tryz.func277 rfl (by kernel_rfl) ?_
  unfold Tryz.f277
  simp (disch := ((try simp only [LL]); omega)) only [↓GO, ↓DRW, GA, GX, ren, zm, za, refs, z8, cst, zq, isC, bin, una, z6, zd, blt, asArg, zf, zc, zg, z1, E.mkS, unN, ze, zn, zb, GS, simprocAttr, GZ, h1, h2, h3, h4]
theorem c_slR (a : Str) : zk (EV Tryz.prog pol) 216 [.t (.str a)] = some (.t (.int .i64 (uZ a))) := by
 unfold uZ V3 j9 h1S j8
 cases h1 : (a == [115, 104, 97, 49]) <;> cases h2 : (a == [115, 104, 97, 50, 53, 54]) <;> cases h3 : (a == [104, 49]) <;> cases h4 : (a == [115, 104, 97, 53, 49, 50])
 all_goals
  apply zr
  refine zw rfl Tryz.func216 rfl (by kernel_rfl) ?_
  unfold Tryz.f216
  simp (disch := ((try simp only [LL]); omega)) only [↓GO, ↓DRW, GA, GX, ren, zm, za, refs, z8, cst, zq, isC, bin, una, z6, zd, blt, asArg, zf, zc, zg, z1, E.mkS, unN, ze, zn, zb, GS, simprocAttr, GZ, h1, h2, h3, h4]
theorem cT (es : List zD) (hl : es.length ≤ 4194304) : ∀ (rest pre : List zD), es = pre ++ rest →
 EV Tryz.prog pol (.loop 219 26 0 [.t (.list 2 (zD.zu es)), .t (.list 2 (zD.zu es)), .t (.int .i64 (es.length : Int)), .t (.int .i64 (pre.length : Int))] []) = some (cond (vd (pre.getLast?.map zD.alg) rest) (.loop (.exit 0) [.bad] []) (.loop .ret [.t (.bool false)] []))
 | [], pre, hs => by
  have c : decide ((pre.length : Int) < (es.length : Int)) = false := by simp [hs]
  refine zi Tryz.func219 rfl rfl ?_
  simp (disch := ((try simp only [LL]); omega)) only [↓GO, ↓DRW, GA, GX, ren, zm, za, refs, z8, cst, zq, isC, bin, una, z6, zd, blt, asArg, zf, zc, zg, z1, E.mkS, unN, ze, zn, zb, GS, simprocAttr, GZ, c, vd]
 | x :: rest, pre, hs => by
  have c : decide ((pre.length : Int) < (es.length : Int)) = true := by simp [hs]; omega
  have hget : (zD.zu es)[pre.length]? = some [.str x.alg, .str x.bytes] := by rw [hs]; exact qt zD.enc pre x rest
  have hlen : pre.length + rest.length + 1 ≤ es.length := by rw [hs]; simp; omega
  have IH := cT es hl rest (pre ++ [x]) (by rw [hs]; simp)
  have hk := c_slI x.alg
  rw [show ((pre ++ [x]).length : Int) = (pre.length : Int) + 1 by simp, show (pre ++ [x]).getLast?.map zD.alg = some x.alg by simp] at IH
  rw [vd]
  generalize uZ x.alg = n at *
  rcases w7 pre with rfl | ⟨pre', q, rfl⟩
  · clear hs
    simp only [List.length_nil, List.getLast?_nil, Option.map_none, wR, Int.natCast_zero, Int.zero_add] at *
    cases h1 : ((x.bytes.length : Int) == n)
    all_goals
     refine zi Tryz.func219 rfl rfl ?_
     simp (disch := ((try simp only [LL]); omega)) only [↓GO, ↓DRW, GA, GX, ren, zm, za, refs, z8, cst, zq, isC, bin, una, z6, zd, blt, asArg, zf, zc, zg, z1, E.mkS, unN, ze, zn, zb, GS, simprocAttr, GZ, zD.zo, c, hget, zj, hk, h1, bne, IH, Int.zero_add]
  · have hprev : ti (zD.zu es) (((pre' ++ [q]).length : Int) - 1) = some [.str q.alg, .str q.bytes] := by rw [hs]; exact uj zD.enc pre' q (x :: rest)
    have hge : 1 ≤ (pre' ++ [q]).length := by simp
    have hgt : decide (((pre' ++ [q]).length : Int) > 0) = true := by simp only [decide_eq_true_eq]; omega
    have hcmp := qu x.alg q.alg
    rw [show (pre' ++ [q]).getLast?.map zD.alg = some q.alg by simp]
    simp only [wR]
    clear hs
    generalize (pre' ++ [q]).length = m at *
    cases h1 : ((x.bytes.length : Int) == n) <;> cases h2 : Op.bytesLess q.alg x.alg <;> rw [h2] at hcmp
    all_goals
     refine zi Tryz.func219 rfl rfl ?_
     simp (disch := ((try simp only [LL]); omega)) only [↓GO, ↓DRW, GA, GX, ren, zm, za, refs, z8, cst, zq, isC, bin, una, z6, zd, blt, asArg, zf, zc, zg, z1, E.mkS, unN, ze, zn, zb, GS, simprocAttr, GZ, zD.zo, c, hget, zj, hk, h1, bne, hgt, hprev, hcmp, IH]
theorem Ud (es : List zD) (hl : es.length ≤ 4194304) : zk (EV Tryz.prog pol) 219 [.t (.list 2 (zD.zu es))] = some (.t (.bool (vd none es))) := by
 have IH := cT es hl es [] rfl
 simp only [List.length_nil, Int.natCast_zero, List.getLast?_nil, Option.map_none] at IH
 apply zr
 refine zw rfl Tryz.func219 rfl (by kernel_rfl) ?_
 unfold Tryz.f219
 cases h : vd none es <;> rw [h] at IH <;> simp only [cond_true, cond_false] at IH <;> simp (disch := ((try simp only [LL]); omega)) only [↓GO, ↓DRW, GA, GX, ren, zm, za, refs, z8, cst, zq, isC, bin, una, z6, zd, blt, asArg, zf, zc, zg, z1, E.mkS, unN, ze, zn, zb, GS, simprocAttr, GZ, zD.zo, IH]
theorem cU (p : z7) (hb : p.zT ≤ 4194304) : ∀ (rest pre : List zD), p.sums = pre ++ rest →
 EV Tryz.prog pol (.loop 129 26 0 [.ptr 0 0 0, .t (.int .i64 (pre.length : Int))] [.vs 6 [p.enc.map .t]]) = some (cond (vd (pre.getLast?.map zD.alg) rest) (.loop (.exit 0) [.ptr 0 0 0, .bad] [.vs 6 [p.enc.map .t]]) (.loop .ret [.ptr 0 0 0, .t (.bool false)] [.vs 6 [p.enc.map .t]]))
 | [], pre, hs => by
  have c : decide ((pre.length : Int) < (p.sums.length : Int)) = false := by simp [hs]
  simp only [z7.enc, List.map_cons, List.map_nil]
  refine zi Tryz.func129 rfl rfl ?_
  simp (disch := ((try simp only [LL]); omega)) only [↓GO, ↓DRW, GA, GX, ren, zm, za, refs, z8, cst, zq, isC, bin, una, z6, zd, blt, asArg, zf, zc, zg, z1, E.mkS, unN, ze, zn, zb, GS, simprocAttr, GZ, c, zD.zo, vd, zL]
 | x :: rest, pre, hs => by
  have c : decide ((pre.length : Int) < (p.sums.length : Int)) = true := by simp [hs]; omega
  have hget : (zD.zu p.sums)[pre.length]? = some [.str x.alg, .str x.bytes] := by rw [hs]; exact qt zD.enc pre x rest
  have hlen : pre.length + rest.length + 1 ≤ p.sums.length := by rw [hs]; simp; omega
  have hpb : p.sums.length ≤ 4194304 := by unfold z7.zT at hb; omega
  have IH := cU p hb rest (pre ++ [x]) (by rw [hs]; simp)
  have hk := c_slR x.alg
  rw [show ((pre ++ [x]).length : Int) = (pre.length : Int) + 1 by simp, show (pre ++ [x]).getLast?.map zD.alg = some x.alg by simp] at IH
  rw [vd]
  have hco : ((x.bytes.length : Int) == uZ x.alg) = (uZ x.alg == (x.bytes.length : Int)) := Bool.beq_comm
  rw [hco]
  generalize uZ x.alg = n at *
  simp only [z7.enc, List.map_cons, List.map_nil] at IH ⊢
  rcases w7 pre with rfl | ⟨pre', q, rfl⟩
  · clear hs
    simp only [List.length_nil, List.getLast?_nil, Option.map_none, wR, Int.natCast_zero, Int.zero_add] at *
    cases h1 : (n == (x.bytes.length : Int))
    all_goals
     refine zi Tryz.func129 rfl rfl ?_
     simp (disch := ((try simp only [LL]); omega)) only [↓GO, ↓DRW, GA, GX, ren, zm, za, refs, z8, cst, zq, isC, bin, una, z6, zd, blt, asArg, zf, zc, zg, z1, E.mkS, unN, ze, zn, zb, GS, simprocAttr, GZ, zD.zo, c, hget, zj, hk, h1, bne, IH, Int.zero_add, zL]
  · have hprev : ti (zD.zu p.sums) (((pre' ++ [q]).length : Int) - 1) = some [.str q.alg, .str q.bytes] := by rw [hs]; exact uj zD.enc pre' q (x :: rest)
    have hge : 1 ≤ (pre' ++ [q]).length := by simp
    have hgt : decide (((pre' ++ [q]).length : Int) > 0) = true := by simp only [decide_eq_true_eq]; omega
    rw [show (pre' ++ [q]).getLast?.map zD.alg = some q.alg by simp]
    simp only [wR]
    clear hs
    generalize (pre' ++ [q]).length = m at *
    cases h1 : (n == (x.bytes.length : Int)) <;> cases h2 : Op.bytesLess q.alg x.alg
    all_goals
     refine zi Tryz.func129 rfl rfl ?_
     simp (disch := ((try simp only [LL]); omega)) only [↓GO, ↓DRW, GA, GX, ren, zm, za, refs, z8, cst, zq, isC, bin, una, z6, zd, blt, asArg, zf, zc, zg, z1, E.mkS, unN, ze, zn, zb, GS, simprocAttr, GZ, zD.zo, c, hget, zj, hk, h1, bne, hgt, hprev, h2, IH, zL]
theorem U0 (s : Str) : ((exT s).length : Int) = cond (ve s).isSome 1 0 := by
 unfold exT
 cases ve s <;> rfl
theorem Ue (p : z7) (hb : p.zT ≤ 1048576) : zk (EV Tryz.prog pol) 129 [.agg (p.enc.map .t)] = some (.t (.bool (td p))) := by
 have L := cU p (by omega) p.sums [] rfl
 simp only [z7.zT] at hb
 have h1 := Ug p.name (by omega)
 have h2 := c_exR p.version (by omega)
 have h3 := Xu p.source (by omega)
 have h4 := U0 p.version
 simp only [List.length_nil, Int.natCast_zero, List.getLast?_nil, Option.map_none] at L
 simp only [z7.enc, List.map_cons, List.map_nil] at L ⊢
 unfold td
 generalize exT p.version = et at *
 generalize vd none p.sums = b1 at *
 generalize sa p.name = b2 at *
 generalize uV p.source = b3 at *
 generalize (ve p.version).isSome = b4 at *
 cases b1 <;> simp only [cond_true, cond_false] at L <;> cases b2 <;> cases b4 <;> simp only [cond_true, cond_false] at h4 <;> cases b3
 all_goals
  apply zr
  refine zw rfl Tryz.func129 rfl (by kernel_rfl) ?_
  unfold Tryz.f129
  simp (disch := ((try simp only [LL]); omega)) only [↓GO, ↓DRW, GA, GX, ren, zm, za, refs, z8, cst, zq, isC, bin, una, z6, zd, blt, asArg, zf, zc, zg, z1, E.mkS, unN, ze, zn, zb, GS, simprocAttr, GZ, L, h1, h2, h3, h4, zL, zD.zo]
theorem Xh (s : Str) : ((exT s).length : Int) = cond (ve s).isSome 1 0 := by
 unfold exT
 cases ve s <;> rfl
theorem Uf (p : z7) (hb : p.zT ≤ 1048576) : zk (EV Tryz.prog pol) 131 [.agg (p.enc.map .t)] = some (.t (.bool (td p))) := by
 simp only [z7.zT] at hb
 have L := Ud p.sums (by omega)
 have h1 := Uh p.name (by omega)
 have h2 := c_exI p.version (by omega)
 have h3 := Xv p.source (by omega)
 have h4 := Xh p.version
 simp only [z7.enc, List.map_cons, List.map_nil]
 unfold td
 generalize exT p.version = et at *
 generalize vd none p.sums = b1 at *
 generalize sa p.name = b2 at *
 generalize uV p.source = b3 at *
 generalize (ve p.version).isSome = b4 at *
 cases b1 <;> cases b2 <;> cases b4 <;> simp only [cond_true, cond_false] at h4 <;> cases b3
 all_goals
  apply zr
  refine zw rfl Tryz.func131 rfl (by kernel_rfl) ?_
  unfold Tryz.f131
  simp (disch := ((try simp only [LL]); omega)) only [↓GO, ↓DRW, GA, GX, ren, zm, za, refs, z8, cst, zq, isC, bin, una, z6, zd, blt, asArg, zf, zc, zg, z1, E.mkS, unN, ze, zn, zb, GS, simprocAttr, GZ, L, h1, h2, h3, h4, zL, zD.zo]
/-- graphs of bounded size -/
def GB (g : zy) : Prop := g.zT ≤ 1048576
theorem GB.len {g : zy} (h : GB g) : g.packs.length ≤ 1048576 ∧ g.top.length + yh g.top ≤ 1048576 ∧ ∀ p ∈ g.packs, p.zT ≤ 1048576 := by
 unfold GB zy.zT at h
 refine ⟨by omega, by omega, fun p hp => ?_⟩
 have := z7.y7 hp
 omega
theorem Um (p : z7) (k : Str) (hb : p.zT ≤ 1048576) : zk (EV Tryz.prog pol) 134 [.agg (p.enc.map .t), .t (.fp [.str k])] = some (.t (.bool (keyOf p == k))) := by
 have h := jF p (by omega)
 simp only [z7.enc, List.map_cons, List.map_nil] at h ⊢
 apply zr
 refine zw rfl Tryz.func134 rfl (by kernel_rfl) ?_
 unfold Tryz.f134
 simp (disch := ((try simp only [LL]); omega)) only [↓GO, ↓DRW, GA, GX, ren, zm, za, refs, z8, cst, zq, isC, bin, una, z6, zd, blt, asArg, zf, zc, zg, z1, E.mkS, unN, ze, zn, zb, GS, simprocAttr, GZ, h]
theorem bP (g : zy) (k : Str) (hB : GB g) : zk (EV Tryz.prog pol) 45 [.agg (g.enc.map .t), .t (.str k)] = some (.t (.int .i64 (ixI (sO g.packs k)))) := by
 obtain ⟨b1, b2, b3⟩ := hB.len
 have h := tI 134 [.fp [.str k]] (fun p => keyOf p == k) g.packs (by omega) (fun x hx => Um x k (b3 x hx))
 simp only [zy.enc, List.map_cons, List.map_nil] at h ⊢
 unfold sO
 apply zr
 refine zw rfl Tryz.func45 rfl (by kernel_rfl) ?_
 unfold Tryz.f45
 simp (disch := ((try simp only [LL]); omega)) only [↓GO, ↓DRW, GA, GX, ren, zm, za, refs, z8, cst, zq, isC, bin, una, z6, zd, blt, asArg, zf, zc, zg, z1, E.mkS, unN, ze, zn, zb, GS, simprocAttr, GZ, h, u5, zL]
theorem b8 (g : zy) (k : Str) (hB : GB g) : ∀ (rest pre : List z7), g.packs = pre ++ rest →
 EV Tryz.prog pol (.loop 113 26 0 [.t (.str k), .ptr 0 0 0, .t (.int .i64 (pre.length : Int))] [.vs 2 [g.enc.map .t]]) = some (match vA (fun p => keyOf p == k) rest pre.length with | some i => .loop .ret [.t (.int .i64 (i : Int))] [] | none => .loop (.exit 0) [.bad] [])
 | [], pre, hs => by
  have c : decide ((pre.length : Int) < (g.packs.length : Int)) = false := by simp [hs]
  simp only [zy.enc, List.map_cons, List.map_nil]
  refine zi Tryz.func113 rfl rfl ?_
  simp (disch := ((try simp only [LL]); omega)) only [↓GO, ↓DRW, GA, GX, ren, zm, za, refs, z8, cst, zq, isC, bin, una, z6, zd, blt, asArg, zf, zc, zg, z1, E.mkS, unN, ze, zn, zb, GS, simprocAttr, GZ, c, z7.zo, vA, zL]
 | x :: rest, pre, hs => by
  obtain ⟨b1, b2, b3⟩ := hB.len
  have c : decide ((pre.length : Int) < (g.packs.length : Int)) = true := by simp [hs]; omega
  have hget : (z7.zu g.packs)[pre.length]? = some x.enc := by rw [hs]; exact qt z7.enc pre x rest
  have hlen : pre.length + rest.length + 1 ≤ g.packs.length := by rw [hs]; simp; omega
  have hk := jE x (by have := b3 x (by rw [hs]; simp); omega)
  have IH := b8 g k hB rest (pre ++ [x]) (by rw [hs]; simp)
  rw [show ((pre ++ [x]).length : Int) = (pre.length : Int) + 1 by simp, show (pre ++ [x]).length = pre.length + 1 by simp] at IH
  clear hs
  simp only [zy.enc, z7.enc, List.map_cons, List.map_nil] at hget hk IH ⊢
  rw [vA]
  cases h1 : (keyOf x == k)
  all_goals
   refine zi Tryz.func113 rfl rfl ?_
   simp (disch := ((try simp only [LL]); omega)) only [↓GO, ↓DRW, GA, GX, ren, zm, za, refs, z8, cst, zq, isC, bin, una, z6, zd, blt, asArg, zf, zc, zg, z1, E.mkS, unN, ze, zn, zb, GS, simprocAttr, GZ, c, z7.zo, hget, hk, h1, zj, IH, zL]
theorem bO (g : zy) (k : Str) (hB : GB g) : zk (EV Tryz.prog pol) 113 [.agg (g.enc.map .t), .t (.str k)] = some (.t (.int .i64 (ixI (sO g.packs k)))) := by
 have L := b8 g k hB g.packs [] rfl
 simp only [List.length_nil, Int.natCast_zero] at L
 simp only [zy.enc, List.map_cons, List.map_nil] at L ⊢
 unfold sO
 cases hf : vA (fun p => keyOf p == k) g.packs 0 <;> rw [hf] at L <;> simp only at L
 all_goals
  apply zr
  refine zw rfl Tryz.func113 rfl (by kernel_rfl) ?_
  unfold Tryz.f113
  simp (disch := ((try simp only [LL]); omega)) only [↓GO, ↓DRW, GA, GX, ren, zm, za, refs, z8, cst, zq, isC, bin, una, z6, zd, blt, asArg, zf, zc, zg, z1, E.mkS, unN, ze, zn, zb, GS, simprocAttr, GZ, L, ixI, zL]
theorem b5 (g : zy) (hB : GB g) (ks : List Str) (hl : ks.length ≤ 1048576) : ∀ (rest pre : List Str), ks = pre ++ rest →
 EV Tryz.prog pol (.loop 132 26 0 [.t (.list 1 (strs ks)), .ptr 0 0 0, .t (.list 1 (strs ks)), .t (.int .i64 (ks.length : Int)), .t (.int .i64 (pre.length : Int))] [.vs 2 [g.enc.map .t]]) = some (cond (x9 g.packs pre.getLast? rest) (.loop (.exit 0) [.bad] []) (.loop .ret [.t (.bool false)] []))
 | [], pre, hs => by
  have c : decide ((pre.length : Int) < (ks.length : Int)) = false := by simp [hs]
  simp only [zy.enc, List.map_cons, List.map_nil]
  refine zi Tryz.func132 rfl rfl ?_
  simp (disch := ((try simp only [LL]); omega)) only [↓GO, ↓DRW, GA, GX, ren, zm, za, refs, z8, cst, zq, isC, bin, una, z6, zd, blt, asArg, zf, zc, zg, z1, E.mkS, unN, ze, zn, zb, GS, simprocAttr, GZ, c, x9, zL]
 | x :: rest, pre, hs => by
  have c : decide ((pre.length : Int) < (ks.length : Int)) = true := by simp [hs]; omega
  have hget : (strs ks)[pre.length]? = some [.str x] := by rw [hs]; exact wh pre x rest
  have hlen : pre.length + rest.length + 1 ≤ ks.length := by rw [hs]; simp; omega
  have IH := b5 g hB ks hl rest (pre ++ [x]) (by rw [hs]; simp)
  have hk := bP g x hB
  have hlt := WN (fun p => keyOf p == x) g.packs
  rw [show ((pre ++ [x]).length : Int) = (pre.length : Int) + 1 by simp, show (pre ++ [x]).getLast? = some x by simp] at IH
  rw [x9]
  unfold fZ
  unfold sO at hk
  generalize ixI (vA (fun p => keyOf p == x) g.packs 0) = n at *
  generalize (g.packs.any fun p => keyOf p == x) = b1 at *
  simp only [zy.enc, List.map_cons, List.map_nil] at hk IH ⊢
  rcases w7 pre with rfl | ⟨pre', q, rfl⟩
  · clear hs
    simp only [List.length_nil, List.getLast?_nil, wR, Int.natCast_zero, Int.zero_add] at *
    cases b1 <;> simp only [Bool.not_true, Bool.not_false] at hlt
    all_goals
     refine zi Tryz.func132 rfl rfl ?_
     simp (disch := ((try simp only [LL]); omega)) only [↓GO, ↓DRW, GA, GX, ren, zm, za, refs, z8, cst, zq, isC, bin, una, z6, zd, blt, asArg, zf, zc, zg, z1, E.mkS, unN, ze, zn, zb, GS, simprocAttr, GZ, zh, c, hget, zj, hk, hlt, IH, Int.zero_add, zL]
  · have hprev : ti (strs ks) (((pre' ++ [q]).length : Int) - 1) = some [.str q] := by rw [hs]; exact uj (fun s => [T.str s]) pre' q (x :: rest)
    have hge : 1 ≤ (pre' ++ [q]).length := by simp
    have hgt : decide (((pre' ++ [q]).length : Int) > 0) = true := by simp only [decide_eq_true_eq]; omega
    have hcmp := qu x q
    rw [show (pre' ++ [q]).getLast? = some q by simp]
    simp only [wR]
    clear hs
    generalize (pre' ++ [q]).length = m at *
    cases b1 <;> simp only [Bool.not_true, Bool.not_false] at hlt <;> cases h2 : Op.bytesLess q x <;> rw [h2] at hcmp
    all_goals
     refine zi Tryz.func132 rfl rfl ?_
     simp (disch := ((try simp only [LL]); omega)) only [↓GO, ↓DRW, GA, GX, ren, zm, za, refs, z8, cst, zq, isC, bin, una, z6, zd, blt, asArg, zf, zc, zg, z1, E.mkS, unN, ze, zn, zb, GS, simprocAttr, GZ, zh, c, hget, zj, hk, hlt, hgt, hprev, hcmp, IH, zL]
theorem bL (g : zy) (hB : GB g) (ks : List Str) (hl : ks.length ≤ 1048576) : zk (EV Tryz.prog pol) 132 [.agg (g.enc.map .t), .t (.list 1 (strs ks))] = some (.t (.bool (x9 g.packs none ks))) := by
 have L := b5 g hB ks hl ks [] rfl
 simp only [List.length_nil, Int.natCast_zero, List.getLast?_nil] at L
 simp only [zy.enc, List.map_cons, List.map_nil] at L ⊢
 cases h : x9 g.packs none ks <;> rw [h] at L <;> simp only [cond_true, cond_false] at L
 all_goals
  apply zr
  refine zw rfl Tryz.func132 rfl (by kernel_rfl) ?_
  unfold Tryz.f132
  simp (disch := ((try simp only [LL]); omega)) only [↓GO, ↓DRW, GA, GX, ren, zm, za, refs, z8, cst, zq, isC, bin, una, z6, zd, blt, asArg, zf, zc, zg, z1, E.mkS, unN, ze, zn, zb, GS, simprocAttr, GZ, L, zh, zL]
theorem cZ (g : zy) (hB : GB g) (ks : List Str) (hl : ks.length ≤ 1048576) : ∀ (rest pre : List Str), ks = pre ++ rest →
 EV Tryz.prog pol (.loop 130 26 0 [.t (.list 1 (strs ks)), .ptr 0 0 0, .t (.int .i64 (pre.length : Int))] [.vs 2 [g.enc.map .t]]) = some (cond (x9 g.packs pre.getLast? rest) (.loop (.exit 0) [.bad] []) (.loop .ret [.t (.bool false)] []))
 | [], pre, hs => by
  have c : decide ((pre.length : Int) < (ks.length : Int)) = false := by simp [hs]
  simp only [zy.enc, List.map_cons, List.map_nil]
  refine zi Tryz.func130 rfl rfl ?_
  simp (disch := ((try simp only [LL]); omega)) only [↓GO, ↓DRW, GA, GX, ren, zm, za, refs, z8, cst, zq, isC, bin, una, z6, zd, blt, asArg, zf, zc, zg, z1, E.mkS, unN, ze, zn, zb, GS, simprocAttr, GZ, c, zh, x9, zL]
 | x :: rest, pre, hs => by
  have c : decide ((pre.length : Int) < (ks.length : Int)) = true := by simp [hs]; omega
  have hget : (strs ks)[pre.length]? = some [.str x] := by rw [hs]; exact wh pre x rest
  have hlen : pre.length + rest.length + 1 ≤ ks.length := by rw [hs]; simp; omega
  have IH := cZ g hB ks hl rest (pre ++ [x]) (by rw [hs]; simp)
  have hk := bO g x hB
  have hlt := WN (fun p => keyOf p == x) g.packs
  rw [show ((pre ++ [x]).length : Int) = (pre.length : Int) + 1 by simp, show (pre ++ [x]).getLast? = some x by simp] at IH
  rw [x9]
  unfold fZ
  unfold sO at hk
  generalize ixI (vA (fun p => keyOf p == x) g.packs 0) = n at *
  generalize (g.packs.any fun p => keyOf p == x) = b1 at *
  simp only [zy.enc, List.map_cons, List.map_nil] at hk IH ⊢
  rcases w7 pre with rfl | ⟨pre', q, rfl⟩
  · clear hs
    simp only [List.length_nil, List.getLast?_nil, wR, Int.natCast_zero, Int.zero_add] at *
    cases b1 <;> simp only [Bool.not_true, Bool.not_false] at hlt
    all_goals
     refine zi Tryz.func130 rfl rfl ?_
     simp (disch := ((try simp only [LL]); omega)) only [↓GO, ↓DRW, GA, GX, ren, zm, za, refs, z8, cst, zq, isC, bin, una, z6, zd, blt, asArg, zf, zc, zg, z1, E.mkS, unN, ze, zn, zb, GS, simprocAttr, GZ, zh, c, hget, zj, hk, hlt, IH, Int.zero_add, zL]
  · have hprev : ti (strs ks) (((pre' ++ [q]).length : Int) - 1) = some [.str q] := by rw [hs]; exact uj (fun s => [T.str s]) pre' q (x :: rest)
    have hge : 1 ≤ (pre' ++ [q]).length := by simp
    have hgt : decide (((pre' ++ [q]).length : Int) > 0) = true := by simp only [decide_eq_true_eq]; omega
    rw [show (pre' ++ [q]).getLast? = some q by simp]
    simp only [wR]
    clear hs
    generalize (pre' ++ [q]).length = m at *
    cases b1 <;> simp only [Bool.not_true, Bool.not_false] at hlt <;> cases h2 : Op.bytesLess q x
    all_goals
     refine zi Tryz.func130 rfl rfl ?_
     simp (disch := ((try simp only [LL]); omega)) only [↓GO, ↓DRW, GA, GX, ren, zm, za, refs, z8, cst, zq, isC, bin, una, z6, zd, blt, asArg, zf, zc, zg, z1, E.mkS, unN, ze, zn, zb, GS, simprocAttr, GZ, zh, c, hget, zj, hk, hlt, hgt, hprev, h2, IH, zL]
theorem bK (g : zy) (hB : GB g) (ks : List Str) (hl : ks.length ≤ 1048576) : zk (EV Tryz.prog pol) 130 [.agg (g.enc.map .t), .t (.list 1 (strs ks))] = some (.t (.bool (x9 g.packs none ks))) := by
 have L := cZ g hB ks hl ks [] rfl
 simp only [List.length_nil, Int.natCast_zero, List.getLast?_nil] at L
 simp only [zy.enc, List.map_cons, List.map_nil] at L ⊢
 cases h : x9 g.packs none ks <;> rw [h] at L <;> simp only [cond_true, cond_false] at L
 all_goals
  apply zr
  refine zw rfl Tryz.func130 rfl (by kernel_rfl) ?_
  unfold Tryz.f130
  simp (disch := ((try simp only [LL]); omega)) only [↓GO, ↓DRW, GA, GX, ren, zm, za, refs, z8, cst, zq, isC, bin, una, z6, zd, blt, asArg, zf, zc, zg, z1, E.mkS, unN, ze, zn, zb, GS, simprocAttr, GZ, L, zh, zL]
end Go.Proofs.YtijninlbpifonaaGreatDoor
/- Is a graph right? By both. Conditions: those of each lemma. -/
namespace Go.Proofs.YtijninlbpifonaaGreatDoor
open E
set_option linter.unusedSimpArgs false
set_option linter.unusedVariables false
set_option maxRecDepth 100000
theorem oR {p : z7} {n : Nat} (h : p.zT ≤ n) : p.zE.length ≤ n ∧ yh p.zE ≤ n ∧ p.sums.length ≤ n ∧ zD.zK p.sums ≤ n ∧ p.name.length ≤ n ∧ p.version.length ≤ n ∧ p.source.length ≤ n := by
 unfold z7.zT at h; omega
theorem WH (g : zy) (hB : GB g) : ∀ (rest pre : List z7), g.packs = pre ++ rest →
 EV Tryz.prog pol (.loop 44 26 0 [.ptr 0 0 0, .t (.list 6 (z7.zu g.packs)), .t (.int .i64 (g.packs.length : Int)), .t (.int .i64 (pre.length : Int))] [.vs 2 [g.enc.map .t]]) = some (cond (xz g.packs (pre.getLast?.map keyOf) rest) (.loop (.exit 0) [.ptr 0 0 0, .bad] [.vs 2 [g.enc.map .t]]) (.loop .ret [.ptr 0 0 0, .t (.bool false)] [.vs 2 [g.enc.map .t]]))
 | [], pre, hs => by
  have c : decide ((pre.length : Int) < (g.packs.length : Int)) = false := by simp [hs]
  simp only [zy.enc, List.map_cons, List.map_nil]
  refine zi Tryz.func44 rfl rfl ?_
  simp (disch := ((try simp only [LL]); omega)) only [↓GO, ↓DRW, GA, GX, ren, zm, za, refs, z8, cst, zq, isC, bin, una, z6, zd, blt, asArg, zf, zc, zg, z1, E.mkS, unN, ze, zn, zb, GS, simprocAttr, GZ, c, xz, zL]
 | x :: rest, pre, hs => by
  obtain ⟨b1, b2, b3⟩ := hB.len
  have c : decide ((pre.length : Int) < (g.packs.length : Int)) = true := by simp [hs]; omega
  have hget : (z7.zu g.packs)[pre.length]? = some x.enc := by rw [hs]; exact qt z7.enc pre x rest
  have hlen : pre.length + rest.length + 1 ≤ g.packs.length := by rw [hs]; simp; omega
  have hxb := b3 x (by rw [hs]; simp)
  have IH := WH g hB rest (pre ++ [x]) (by rw [hs]; simp)
  have h1 := Uf x hxb
  have h2 := jF x (by omega)
  have h3 := bL g hB x.zE (oR hxb).1
  rw [show ((pre ++ [x]).length : Int) = (pre.length : Int) + 1 by simp, show (pre ++ [x]).getLast?.map keyOf = some (keyOf x) by simp] at IH
  rw [xz]
  generalize td x = a1 at *
  generalize x9 g.packs none x.zE = a2 at *
  rcases w7 pre with rfl | ⟨pre', q, rfl⟩
  · clear hs
    generalize keyOf x = kx at *
    simp only [List.length_nil, List.getLast?_nil, Option.map_none, wR, Int.natCast_zero, Int.zero_add] at *
    simp only [zy.enc, z7.enc, List.map_cons, List.map_nil] at hget h1 h2 h3 IH ⊢
    cases a1 <;> cases a2
    all_goals
     refine zi Tryz.func44 rfl rfl ?_
     simp (disch := ((try simp only [LL]); omega)) only [↓GO, ↓DRW, GA, GX, ren, zm, za, refs, z8, cst, zq, isC, bin, una, z6, zd, blt, asArg, zf, zc, zg, z1, E.mkS, unN, ze, zn, zb, GS, simprocAttr, GZ, z7.zo, c, hget, zj, h1, h2, h3, IH, Int.zero_add, zL]
  · have hprev : ti (z7.zu g.packs) (((pre' ++ [q]).length : Int) - 1) = some q.enc := by rw [hs]; exact uj z7.enc pre' q (x :: rest)
    have h4 := jF q (by have := b3 q (by rw [hs]; simp); omega)
    have hge : 1 ≤ (pre' ++ [q]).length := by simp
    have hgt : decide (((pre' ++ [q]).length : Int) > 0) = true := by simp only [decide_eq_true_eq]; omega
    have hcmp := qu (keyOf x) (keyOf q)
    rw [show (pre' ++ [q]).getLast?.map keyOf = some (keyOf q) by simp]
    simp only [wR]
    clear hs
    generalize (pre' ++ [q]).length = m at *
    generalize keyOf x = kx at *
    generalize keyOf q = kq at *
    simp only [zy.enc, z7.enc, List.map_cons, List.map_nil] at hget hprev h1 h2 h3 h4 IH ⊢
    cases a1 <;> cases a2 <;> cases h5 : Op.bytesLess kq kx <;> rw [h5] at hcmp
    all_goals
     refine zi Tryz.func44 rfl rfl ?_
     simp (disch := ((try simp only [LL]); omega)) only [↓GO, ↓DRW, GA, GX, ren, zm, za, refs, z8, cst, zq, isC, bin, una, z6, zd, blt, asArg, zf, zc, zg, z1, E.mkS, unN, ze, zn, zb, GS, simprocAttr, GZ, z7.zo, c, hget, zj, h1, h2, h3, h4, hgt, hprev, hcmp, IH, zL]
theorem mv (g : zy) (hB : GB g) : zk (EV Tryz.prog pol) 44 [.agg (g.enc.map .t)] = some (.t (.bool (yK g))) := by
 have L := WH g hB g.packs [] rfl
 have h3 := bL g hB g.top (by have := hB.len; omega)
 simp only [List.length_nil, Int.natCast_zero, List.getLast?_nil, Option.map_none] at L
 simp only [zy.enc, List.map_cons, List.map_nil] at L h3 ⊢
 unfold yK
 generalize x9 g.packs none g.top = a2 at *
 cases h : xz g.packs none g.packs <;> rw [h] at L <;> simp only [cond_true, cond_false] at L <;> cases h4 : decide ((g.packs.length : Int) ≤ 40) <;> cases a2
 all_goals
  apply zr
  refine zw rfl Tryz.func44 rfl (by kernel_rfl) ?_
  unfold Tryz.f44
  simp (disch := ((try simp only [LL]); omega)) only [↓GO, ↓DRW, GA, GX, ren, zm, za, refs, z8, cst, zq, isC, bin, una, z6, zd, blt, asArg, zf, zc, zg, z1, E.mkS, unN, ze, zn, zb, GS, simprocAttr, GZ, L, z7.zo, h3, h4, zL]
theorem WG (g : zy) (hB : GB g) : ∀ (rest pre : List z7), g.packs = pre ++ rest →
 EV Tryz.prog pol (.loop 43 26 0 [.ptr 0 0 0, .t (.int .i64 (pre.length : Int))] [.vs 2 [g.enc.map .t]]) = some (cond (xz g.packs (pre.getLast?.map keyOf) rest) (.loop (.exit 0) [.ptr 0 0 0, .bad] [.vs 2 [g.enc.map .t]]) (.loop .ret [.ptr 0 0 0, .t (.bool false)] [.vs 2 [g.enc.map .t]]))
 | [], pre, hs => by
  have c : decide ((pre.length : Int) < (g.packs.length : Int)) = false := by simp [hs]
  simp only [zy.enc, List.map_cons, List.map_nil]
  refine zi Tryz.func43 rfl rfl ?_
  simp (disch := ((try simp only [LL]); omega)) only [↓GO, ↓DRW, GA, GX, ren, zm, za, refs, z8, cst, zq, isC, bin, una, z6, zd, blt, asArg, zf, zc, zg, z1, E.mkS, unN, ze, zn, zb, GS, simprocAttr, GZ, c, z7.zo, xz, zL]
 | x :: rest, pre, hs => by
  obtain ⟨b1, b2, b3⟩ := hB.len
  have c : decide ((pre.length : Int) < (g.packs.length : Int)) = true := by simp [hs]; omega
  have hget : (z7.zu g.packs)[pre.length]? = some x.enc := by rw [hs]; exact qt z7.enc pre x rest
  have hlen : pre.length + rest.length + 1 ≤ g.packs.length := by rw [hs]; simp; omega
  have hxb := b3 x (by rw [hs]; simp)
  have IH := WG g hB rest (pre ++ [x]) (by rw [hs]; simp)
  have h1 := Ue x hxb
  have h2 := jE x (by omega)
  have h3 := bK g hB x.zE (oR hxb).1
  rw [show ((pre ++ [x]).length : Int) = (pre.length : Int) + 1 by simp, show (pre ++ [x]).getLast?.map keyOf = some (keyOf x) by simp] at IH
  rw [xz]
  generalize td x = a1 at *
  generalize x9 g.packs none x.zE = a2 at *
  rcases w7 pre with rfl | ⟨pre', q, rfl⟩
  · clear hs
    generalize keyOf x = kx at *
    simp only [List.length_nil, List.getLast?_nil, Option.map_none, wR, Int.natCast_zero, Int.zero_add] at *
    simp only [zy.enc, z7.enc, List.map_cons, List.map_nil] at hget h1 h2 h3 IH ⊢
    cases a1 <;> cases a2
    all_goals
     refine zi Tryz.func43 rfl rfl ?_
     simp (disch := ((try simp only [LL]); omega)) only [↓GO, ↓DRW, GA, GX, ren, zm, za, refs, z8, cst, zq, isC, bin, una, z6, zd, blt, asArg, zf, zc, zg, z1, E.mkS, unN, ze, zn, zb, GS, simprocAttr, GZ, z7.zo, c, hget, zj, h1, h2, h3, IH, Int.zero_add, zL]
  · have hprev : ti (z7.zu g.packs) (((pre' ++ [q]).length : Int) - 1) = some q.enc := by rw [hs]; exact uj z7.enc pre' q (x :: rest)
    have h4 := jE q (by have := b3 q (by rw [hs]; simp); omega)
    have hge : 1 ≤ (pre' ++ [q]).length := by simp
    have hgt : decide (((pre' ++ [q]).length : Int) > 0) = true := by simp only [decide_eq_true_eq]; omega
    rw [show (pre' ++ [q]).getLast?.map keyOf = some (keyOf q) by simp]
    simp only [wR]
    clear hs
    generalize (pre' ++ [q]).length = m at *
    generalize keyOf x = kx at *
    generalize keyOf q = kq at *
    simp only [zy.enc, z7.enc, List.map_cons, List.map_nil] at hget hprev h1 h2 h3 h4 IH ⊢
    cases a1 <;> cases a2 <;> cases h5 : Op.bytesLess kq kx
    all_goals
     refine zi Tryz.func43 rfl rfl ?_
     simp (disch := ((try simp only [LL]); omega)) only [↓GO, ↓DRW, GA, GX, ren, zm, za, refs, z8, cst, zq, isC, bin, una, z6, zd, blt, asArg, zf, zc, zg, z1, E.mkS, unN, ze, zn, zb, GS, simprocAttr, GZ, z7.zo, c, hget, zj, h1, h2, h3, h4, hgt, hprev, h5, IH, zL]
theorem WZ (g : zy) (hB : GB g) : zk (EV Tryz.prog pol) 43 [.agg (g.enc.map .t)] = some (.t (.bool (yK g))) := by
 have L := WG g hB g.packs [] rfl
 have h3 := bK g hB g.top (by have := hB.len; omega)
 simp only [List.length_nil, Int.natCast_zero, List.getLast?_nil, Option.map_none] at L
 simp only [zy.enc, List.map_cons, List.map_nil] at L h3 ⊢
 unfold yK
 generalize x9 g.packs none g.top = a2 at *
 cases h : xz g.packs none g.packs <;> rw [h] at L <;> simp only [cond_true, cond_false] at L <;> cases h4 : decide ((g.packs.length : Int) ≤ 40) <;> cases a2
 all_goals
  apply zr
  refine zw rfl Tryz.func43 rfl (by kernel_rfl) ?_
  unfold Tryz.f43
  simp (disch := ((try simp only [LL]); omega)) only [↓GO, ↓DRW, GA, GX, ren, zm, za, refs, z8, cst, zq, isC, bin, una, z6, zd, blt, asArg, zf, zc, zg, z1, E.mkS, unN, ze, zn, zb, GS, simprocAttr, GZ, L, z7.zo, h3, h4, zL]
end Go.Proofs.YtijninlbpifonaaGreatDoor
/- The tables of a graph, plain. Conditions: none. -/
namespace Go.Proofs.YtijninlbpifonaaGreatDoor
open E
set_option linter.unusedVariables false
set_option linter.unusedSimpArgs false
set_option maxRecDepth 100000
end Go.Proofs.YtijninlbpifonaaGreatDoor
/- Keys cut, short names, by both. Conditions: those of each lemma. -/
namespace Go.Proofs.YtijninlbpifonaaGreatDoor
open E
set_option linter.unusedSimpArgs false
set_option linter.unusedVariables false
set_option maxRecDepth 100000
end Go.Proofs.YtijninlbpifonaaGreatDoor
/- What the laws' own functions do over Bound, Notice: sizes, copies, comparisons. Conditions: those of each lemma. -/
namespace Go.Proofs.YtijninlbpifonaaGreatDoor
open E
set_option linter.unusedSimpArgs false
set_option linter.unusedVariables false
set_option maxRecDepth 100000
structure yq where
 low : List UInt8
 high : List UInt8
def yq.enc (x : yq) : List T := [.str x.low, .str x.high]
def yq.zu (l : List yq) : List (List T) := l.map yq.enc
def yq.zT (x : yq) : Nat := x.low.length + x.high.length
def yq.zK : List yq → Nat
 | [] => 0
 | c :: cs => yq.zT c + yq.zK cs
def yq.ok (x : yq) : Prop := x.low.length ≤ 9223372036854775807 ∧ x.high.length ≤ 9223372036854775807
theorem yq.vl (x : yq) : x.enc.length = 2 := rfl
theorem yq.wj (x : yq) : x.enc.take 2 = x.enc := rfl
theorem yq.zo (cs : List yq) : (yq.zu cs).length = cs.length := by simp [yq.zu]
theorem yq.yS (cs : List yq) (i : Nat) (h : i < cs.length) : (yq.zu cs)[i]? = some cs[i].enc := by simp [yq.zu, h]
theorem yq.x6 (cs : List yq) (i : Nat) (h : i < cs.length) : yq.zK (cs.drop i) = cs[i].zT + yq.zK (cs.drop (i + 1)) := by
 rw [List.drop_eq_getElem_cons h]; rfl
theorem yq.y7 : ∀ {cs : List yq} {c : yq}, c ∈ cs → c.zT ≤ yq.zK cs
 | c' :: cs, c, h => by
  simp only [yq.zK]
  rcases List.mem_cons.1 h with rfl | h
  · omega
  · have := yq.y7 h; omega
structure zV where
 name : List UInt8
 range : List UInt8
 text : List UInt8
def zV.enc (x : zV) : List T := [.str x.name, .str x.range, .str x.text]
def zV.zu (l : List zV) : List (List T) := l.map zV.enc
def zV.zT (x : zV) : Nat := x.name.length + x.range.length + x.text.length
def zV.zK : List zV → Nat
 | [] => 0
 | c :: cs => zV.zT c + zV.zK cs
def zV.ok (x : zV) : Prop := x.name.length ≤ 9223372036854775807 ∧ x.range.length ≤ 9223372036854775807 ∧ x.text.length ≤ 9223372036854775807
theorem zV.vl (x : zV) : x.enc.length = 3 := rfl
theorem zV.wj (x : zV) : x.enc.take 3 = x.enc := rfl
theorem zV.zo (cs : List zV) : (zV.zu cs).length = cs.length := by simp [zV.zu]
theorem zV.yS (cs : List zV) (i : Nat) (h : i < cs.length) : (zV.zu cs)[i]? = some cs[i].enc := by simp [zV.zu, h]
theorem zV.x6 (cs : List zV) (i : Nat) (h : i < cs.length) : zV.zK (cs.drop i) = cs[i].zT + zV.zK (cs.drop (i + 1)) := by
 rw [List.drop_eq_getElem_cons h]; rfl
theorem zV.y7 : ∀ {cs : List zV} {c : zV}, c ∈ cs → c.zT ≤ zV.zK cs
 | c' :: cs, c, h => by
  simp only [zV.zK]
  rcases List.mem_cons.1 h with rfl | h
  · omega
  · have := zV.y7 h; omega
def fR (x : zV) : Prop := zk (EV Tryz.prog pol) 102 [.agg (x.enc.map .t), .agg (x.enc.map .t)] = some (.t (.bool true))
theorem c_eqNotice (x : zV) (ho : x.zT ≤ 1048576) : fR x := by
 obtain ⟨name, range, text⟩ := x
 simp only [zV.zT] at ho
 simp only [fR, zV.enc, List.map_cons, List.map_nil]
 apply zr
 refine zw rfl Tryz.func102 rfl (by kernel_rfl) ?_
 unfold Tryz.f102
 simp only [↓GO, ↓DRW, GA, GX, ren, zm, za, refs, z8, cst, zq, isC, bin, una, z6, zd, blt, asArg, zf, zc, zg, z1, E.mkS, unN, ze, zn, zb, GS, simprocAttr, bne_self_eq_false]
end Go.Proofs.YtijninlbpifonaaGreatDoor
/- Ranges, plain: both ways of reading them come to the same. Conditions: none. -/
namespace Go.Proofs.YtijninlbpifonaaGreatDoor
open E
set_option linter.unusedVariables false
set_option linter.unusedSimpArgs false
set_option maxRecDepth 100000
def vb (b : UInt8) : Bool := isD b || (nb b == 46 || (nb b == 45 || preB b))
theorem X8 {n : Int} (h : 0 ≤ n) : (Lib.itoa n).all isD = true ∧ Lib.itoa n ≠ [] := by
 obtain ⟨u, rfl⟩ : ∃ u : Nat, n = u := ⟨n.toNat, by omega⟩
 rw [Lib.itoa_nonneg]
 obtain ⟨a, _, c⟩ := vN u
 exact ⟨a, c⟩
/-- is a text a version's? -/
def isV (s : Str) : Bool := (zP s).2
theorem pn {s : Str} (h : 0 ≤ zJ s) : (∀ b ∈ s, isD b = true) ∧ Lib.itoa (zJ s) = s ∧ zJ s ≤ 999999999 ∧ s ≠ [] := by
 unfold zJ at h ⊢
 split at h
 · rename_i v hv
   cases hc : ((decide (0 ≤ v) && decide (v ≤ 999999999)) && (Lib.itoa v == s)) with
   | false => rw [hc] at h; simp at h
   | true =>
    have hc' := hc
    simp only [Bool.and_eq_true, decide_eq_true_eq, beq_iff_eq] at hc'
    obtain ⟨⟨q1, q2⟩, q3⟩ := hc'
    obtain ⟨a, b⟩ := X8 q1
    simp only [cond_true]
    rw [q3] at a b
    exact ⟨List.all_eq_true.1 a, q3, q2, b⟩
 · simp at h
end Go.Proofs.YtijninlbpifonaaGreatDoor
/- Ranges, plain, the parts. Conditions: none. -/
namespace Go.Proofs.YtijninlbpifonaaGreatDoor
open E
set_option linter.unusedVariables false
set_option linter.unusedSimpArgs false
set_option maxRecDepth 100000
end Go.Proofs.YtijninlbpifonaaGreatDoor
/- Ranges, plain: a text cut at ' || ', the whole. Conditions: none. -/
namespace Go.Proofs.YtijninlbpifonaaGreatDoor
open E
set_option linter.unusedVariables false
set_option linter.unusedSimpArgs false
set_option maxRecDepth 100000
end Go.Proofs.YtijninlbpifonaaGreatDoor
/- Versions compared, plain: both ways come to the same; what is in a range. Conditions: none. -/
namespace Go.Proofs.YtijninlbpifonaaGreatDoor
open E
set_option linter.unusedVariables false
set_option linter.unusedSimpArgs false
set_option maxRecDepth 100000
theorem wo : ∀ x : Str, Op.bytesLess x x = false
 | [] => rfl
 | a :: x => by rw [tT, wo x]; simp
end Go.Proofs.YtijninlbpifonaaGreatDoor
/- What is in a range, what notices tell: plain; both ways come to the same. Conditions: none. -/
namespace Go.Proofs.YtijninlbpifonaaGreatDoor
open E
set_option linter.unusedVariables false
set_option linter.unusedSimpArgs false
set_option maxRecDepth 100000
end Go.Proofs.YtijninlbpifonaaGreatDoor
/- What one reaches in a graph, plain: both ways come to the same. Conditions: none. -/
namespace Go.Proofs.YtijninlbpifonaaGreatDoor
open E
set_option linter.unusedVariables false
set_option linter.unusedSimpArgs false
set_option maxRecDepth 100000
theorem WB : ∀ x y : Str, Op.bytesLess x y = decide (x < y)
 | [], [] => by simp [Op.bytesLess]
 | [], b :: y => by simp [Op.bytesLess]
 | a :: x, [] => by simp [Op.bytesLess]
 | a :: x, b :: y => by
  rw [tT, WB x y, Bool.eq_iff_iff]
  simp only [Bool.or_eq_true, decide_eq_true_eq, Bool.and_eq_true, beq_iff_eq, List.cons_lt_cons_iff]
theorem jD (x y : Str) : decide (x ≤ y) = !(Op.bytesLess y x) := by
 rw [WB, Bool.eq_iff_iff]
 simp only [decide_eq_true_eq, Bool.not_eq_true', decide_eq_false_iff_not]
 exact Iff.rfl
theorem nU {x y : Str} (h1 : Op.bytesLess x y = false) (h2 : Op.bytesLess y x = false) : x = y := by
 have h := qu x y
 rw [h1, h2] at h
 simpa using h
theorem xL : ∀ {x y z : Str}, Op.bytesLess x y = true → Op.bytesLess y z = true → Op.bytesLess x z = true
 | [], [], z, h1, _ => by simp [Op.bytesLess] at h1
 | _ :: _, [], z, h1, _ => by simp [Op.bytesLess] at h1
 | [], _ :: _, [], _, h2 => by simp [Op.bytesLess] at h2
 | [], _ :: _, _ :: _, _, _ => by simp [Op.bytesLess]
 | _ :: _, _ :: _, [], _, h2 => by simp [Op.bytesLess] at h2
 | a :: x, b :: y, c :: z, h1, h2 => by
  rw [tT] at h1 h2 ⊢
  simp only [Bool.or_eq_true, decide_eq_true_eq, Bool.and_eq_true, beq_iff_eq, UInt8.lt_iff_toNat_lt] at h1 h2 ⊢
  rcases h1 with h1 | ⟨rfl, h1⟩
  · rcases h2 with h2 | ⟨rfl, h2⟩
    · left; omega
    · left; exact h1
  · rcases h2 with h2 | ⟨rfl, h2⟩
    · left; exact h2
    · right; exact ⟨rfl, xL h1 h2⟩
theorem oY {x y z : Str} (h1 : Op.bytesLess y x = false) (h2 : Op.bytesLess z y = false) : Op.bytesLess z x = false := by
 cases h : Op.bytesLess z x with
 | false => rfl
 | true =>
  exfalso
  cases hyz : Op.bytesLess y z with
  | true => have := xL hyz h; rw [h1] at this; cases this
  | false =>
   have := nU hyz h2
   subst this
   rw [h1] at h; cases h
def Asc (l : List Str) : Prop := l.Pairwise fun x y => Op.bytesLess y x = false
theorem fL : ∀ {a b : List Str}, Asc a → Asc b → a.Perm b → a = b
 | [], b, _, _, h => by simpa using h.symm
 | x :: a, [], _, _, h => by have := h.length_eq; simp at this
 | x :: a, y :: b, h1, h2, h => by
  have h1' := List.pairwise_cons.1 h1
  have h2' := List.pairwise_cons.1 h2
  have hxy : x = y := by
   have m1 : x ∈ y :: b := h.mem_iff.1 (by simp)
   have m2 : y ∈ x :: a := h.mem_iff.2 (by simp)
   rcases List.mem_cons.1 m1 with e | m1
   · exact e
   · rcases List.mem_cons.1 m2 with e | m2
     · exact e.symm
     · exact nU (h2'.1 x m1) (h1'.1 y m2) |>.symm ▸ rfl
  subst hxy
  rw [fL h1'.2 h2'.2 (List.Perm.cons_inv h)]
theorem ax (l : List Str) : Asc (w9 l) := by
 have := List.pairwise_mergeSort (le := fun x y : Str => decide (x ≤ y)) (fun a b c h1 h2 => by
  rw [jD] at *
  simp only [Bool.not_eq_true'] at *
  exact oY h1 h2) (fun a b => by
  rw [jD, jD]
  cases h1 : Op.bytesLess b a <;> cases h2 : Op.bytesLess a b <;> first | rfl | skip
  have := xL h1 h2
  rw [wo] at this; cases this) l
 refine List.Pairwise.imp (fun {a b} h => ?_) this
 rw [jD] at h
 simpa using h
theorem YK {a b : List Str} (hb : Asc b) (h : a.Perm b) : w9 a = b := fL (ax a) hb ((oJ a).trans h)
/-- a text put into its place -/
def xh : List Str → Str → List Str
 | [], s => [s]
 | x :: r, s => cond (Op.bytesLess x s) (x :: xh r s) (cond (x == s) (x :: r) (s :: x :: r))
def ye (l : List Str) (s : Str) : Bool := l.any (· == s)
theorem qY : ∀ (l : List Str) (s : Str), ye l s = false → (xh l s).Perm (l ++ [s])
 | [], s, _ => by simp [xh]
 | x :: r, s, h => by
  simp only [ye, List.any_cons, Bool.or_eq_false_iff] at h
  rw [xh, h.1]
  cases Op.bytesLess x s with
  | true => simp only [cond_true, List.cons_append]; exact (qY r s h.2).cons x
  | false => simp only [cond_false]; exact (List.perm_append_singleton s (x :: r)).symm
theorem fP : ∀ (l : List Str) (s y : Str), y ∈ xh l s → y ∈ l ∨ y = s
 | [], s, y, h => by simpa [xh] using h
 | x :: r, s, y, h => by
  rw [xh] at h
  cases h1 : Op.bytesLess x s with
  | true =>
   rw [h1, cond_true] at h
   rcases List.mem_cons.1 h with h | h
   · left; simp [h]
   · rcases fP r s y h with h | h
     · left; simp [h]
     · right; exact h
  | false =>
   rw [h1, cond_false] at h
   cases h2 : (x == s) with
   | true => rw [h2, cond_true] at h; left; exact h
   | false =>
    rw [h2, cond_false] at h
    rcases List.mem_cons.1 h with h | h
    · right; exact h
    · left; exact h
theorem fQ : ∀ (l : List Str) (s : Str), Asc l → Asc (xh l s)
 | [], s, _ => by simp [xh, Asc]
 | x :: r, s, h => by
  have h' := List.pairwise_cons.1 h
  rw [xh]
  cases h1 : Op.bytesLess x s with
  | true =>
   simp only [cond_true]
   refine List.pairwise_cons.2 ⟨fun y hy => ?_, fQ r s h'.2⟩
   rcases fP r s y hy with hy | rfl
   · exact h'.1 y hy
   · cases h2 : Op.bytesLess y x with
     | false => rfl
     | true => have := xL h1 h2; rw [wo] at this; cases this
  | false =>
   simp only [cond_false]
   cases h2 : (x == s) with
   | true => exact h
   | false =>
    simp only [cond_false]
    refine List.pairwise_cons.2 ⟨fun y hy => ?_, h⟩
    rcases List.mem_cons.1 hy with rfl | hy
    · exact h1
    · exact oY h1 (h'.1 y hy)
theorem aS {a b : List Str} (h : a.Perm b) (s : Str) : ye a s = ye b s := by
 unfold ye
 rw [Bool.eq_iff_iff, List.any_eq_true, List.any_eq_true]
 constructor
 · rintro ⟨x, h1, h2⟩; exact ⟨x, h.mem_iff.1 h1, h2⟩
 · rintro ⟨x, h1, h2⟩; exact ⟨x, h.mem_iff.2 h1, h2⟩
def xW (ps : List z7) (k : Str) : Option z7 := match sO ps k with
 | some i => ps[i]?
 | none => none
/-- add: how a key is laid down -/
def yg (add : List Str → Str → List Str) (ps : List z7) : Nat → List Str → List Str → List Str
 | 0, out, _ => out
 | _ + 1, out, [] => out
 | n + 1, out, k :: w => match xW ps k with
  | none => yg add ps n out w
  | some p => cond (ye out k) (yg add ps n out w) (yg add ps n (add out k) (w ++ p.zE))
theorem uK (ps : List z7) : ∀ (n : Nat) (a b w : List Str), Asc b → a.Perm b → Asc (yg xh ps n b w) ∧ (yg (fun l s => l ++ [s]) ps n a w).Perm (yg xh ps n b w)
 | 0, a, b, w, hb, h => ⟨hb, h⟩
 | n + 1, a, b, [], hb, h => ⟨hb, h⟩
 | n + 1, a, b, k :: w, hb, h => by
  rw [yg, yg]
  cases xW ps k with
  | none => exact uK ps n a b w hb h
  | some p =>
   rw [aS h k]
   cases hc : ye b k with
   | true => exact uK ps n a b w hb h
   | false => exact uK ps n (a ++ [k]) (xh b k) (w ++ p.zE) (fQ b k hb) ((h.append_right [k]).trans (qY b k hc).symm)
theorem oO (ps : List z7) (n : Nat) (w : List Str) : w9 (yg (fun l s => l ++ [s]) ps n [] w) = yg xh ps n [] w := by
 obtain ⟨h1, h2⟩ := uK ps n [] [] w (by simp [Asc]) (List.Perm.refl _)
 exact YK h1 h2
def muP (out : List Str) (p : z7) : Nat := cond (ye out (keyOf p)) 0 p.zE.length
def muS (ps : List z7) (out : List Str) : Nat := (ps.map (muP out)).sum
theorem qT (l : List Str) (k s : Str) : ye (l ++ [k]) s = (ye l s || (k == s)) := by simp [ye]
theorem WA (k : Str) (out out' : List Str) (h : ∀ s, ye out' s = (ye out s || (k == s))) : ∀ ps : List z7, muS ps out' ≤ muS ps out
 | [] => by simp [muS]
 | p :: ps => by
  have ih := WA k out out' h ps
  unfold muS at ih ⊢
  simp only [List.map_cons, List.sum_cons]
  have : muP out' p ≤ muP out p := by
   unfold muP
   rw [h]
   cases ye out (keyOf p) <;> cases (k == keyOf p) <;> simp
  omega
theorem qh (k : Str) (out out' : List Str) (h : ∀ s, ye out' s = (ye out s || (k == s))) (hk : ye out k = false) : ∀ (ps : List z7) (p : z7), p ∈ ps → keyOf p = k → muS ps out' + p.zE.length ≤ muS ps out
 | [], p, hp, _ => by simp at hp
 | q :: ps, p, hp, e => by
  unfold muS
  simp only [List.map_cons, List.sum_cons]
  rcases List.mem_cons.1 hp with rfl | hp
  · have h1 := WA k out out' h ps
    unfold muS at h1
    have : muP out' p = 0 := by unfold muP; rw [h, e, beq_self_eq_true, Bool.or_true]; rfl
    have h2 : muP out p = p.zE.length := by unfold muP; rw [e, hk]; rfl
    omega
  · have h1 := qh k out out' h hk ps p hp e
    unfold muS at h1
    have : muP out' q ≤ muP out q := by
     unfold muP
     rw [h]
     cases ye out (keyOf q) <;> cases (k == keyOf q) <;> simp
    omega
theorem nS : ∀ ps : List z7, muS ps [] ≤ z7.zK ps
 | [] => by simp [muS]
 | p :: ps => by
  have ih := nS ps
  unfold muS at ih ⊢
  simp only [List.map_cons, List.sum_cons, z7.zK]
  have : muP [] p ≤ p.zT := by
   unfold muP
   simp only [ye, List.any_nil, cond_false, z7.zT]; omega
  omega
theorem bA {α : Type} (p : α → Bool) : ∀ (l : List α) (n i : Nat), vA p l n = some i → n ≤ i ∧ ∃ q, l[i - n]? = some q ∧ p q = true
 | [], n, i, h => by cases h
 | x :: r, n, i, h => by
  rw [vA] at h
  split at h
  · rename_i hx
    cases h
    exact ⟨Nat.le_refl _, x, by simp, hx⟩
  · obtain ⟨h1, q, h2, h3⟩ := bA p r (n + 1) i h
    refine ⟨by omega, q, ?_, h3⟩
    rw [show i - n = (i - (n + 1)) + 1 by omega]
    simpa using h2
theorem qQ {α : Type} {p : α → Bool} {l : List α} {i : Nat} (h : vA p l 0 = some i) : ∃ q, l[i]? = some q ∧ p q = true := by
 obtain ⟨_, q, h2, h3⟩ := bA p l 0 i h
 exact ⟨q, by simpa using h2, h3⟩
theorem tY {ps : List z7} {k : Str} {p : z7} (h : xW ps k = some p) : p ∈ ps ∧ keyOf p = k ∧ ∃ i, sO ps k = some i ∧ ps[i]? = some p := by
 unfold xW at h
 split at h
 · rename_i i hi
   exact ⟨List.mem_of_getElem? h, by
    have := qQ hi
    obtain ⟨q, h1, h2⟩ := this
    rw [h] at h1
    cases h1
    simpa using h2, i, hi, h⟩
 · cases h
theorem fl {ps : List z7} {k : Str} (h : xW ps k = none) : sO ps k = none := by
 unfold xW at h
 split at h
 · rename_i i hi
   obtain ⟨q, h1, h2⟩ := qQ hi
   rw [h] at h1; cases h1
 · assumption
end Go.Proofs.YtijninlbpifonaaGreatDoor
/- Who is to blame, plain: both ways come to the same. Conditions: none. -/
namespace Go.Proofs.YtijninlbpifonaaGreatDoor
open E
set_option linter.unusedVariables false
set_option linter.unusedSimpArgs false
set_option maxRecDepth 100000
def xP : List Str → Str → Nat
 | [], _ => 0
 | x :: r, s => cond (Op.bytesLess x s) (xP r s + 1) 0
/-- does it stand at its place? -/
def atS (l : List Str) (s : Str) : Bool := l[xP l s]? == some s
theorem cx : ∀ (l : List Str) (s : Str), xP l s ≤ l.length
 | [], s => by simp [xP]
 | x :: r, s => by
  have := cx r s
  rw [xP]
  cases Op.bytesLess x s with
  | true => simp only [cond_true, List.length_cons]; omega
  | false => simp
theorem bT : ∀ (l : List Str) (s : Str), atS l s = false → xh l s = l.take (xP l s) ++ s :: l.drop (xP l s)
 | [], s, h => by simp [xh, xP]
 | x :: r, s, h => by
  unfold atS at h
  rw [xP] at h ⊢
  rw [xh]
  cases h1 : Op.bytesLess x s with
  | true =>
   rw [h1, cond_true, List.getElem?_cons_succ] at h
   simp only [cond_true, List.take_succ_cons, List.drop_succ_cons, List.cons_append]
   rw [bT r s h]
  | false =>
   rw [h1, cond_false] at h
   have : (x == s) = false := by simpa using h
   simp [this]
theorem U4 {l : List Str} {s : Str} (h : ye l s = false) : atS l s = false := by
 cases ha : atS l s with
 | false => rfl
 | true =>
  unfold atS at ha
  have : l[xP l s]? = some s := by simpa using ha
  have hm := List.mem_of_getElem? this
  unfold ye at h
  rw [List.any_eq_false] at h
  exact absurd (by simp) (h s hm)
theorem pq (ps : List z7) : ∀ (o : Option Str) (l : List z7), xz ps o l = true → ∀ p ∈ l, td p = true ∧ x9 ps none p.zE = true
 | _, [], _, p, hp => by simp at hp
 | o, q :: r, h, p, hp => by
  rw [xz] at h
  simp only [Bool.and_eq_true] at h
  rcases List.mem_cons.1 hp with rfl | hp
  · exact ⟨h.1.1, h.1.2.2⟩
  · exact pq ps _ r h.2 p hp
theorem rB (ps : List z7) : ∀ (o : Option Str) (l : List Str), x9 ps o l = true → (l.Pairwise fun x y => Op.bytesLess x y = true) ∧ (∀ k ∈ l, fZ ps k = true) ∧ ∀ k ∈ l, wR o k = true
 | o, [], _ => by simp
 | o, k :: r, h => by
  rw [x9] at h
  simp only [Bool.and_eq_true] at h
  obtain ⟨h1, h2, h3⟩ := rB ps (some k) r h.2
  refine ⟨List.pairwise_cons.2 ⟨fun y hy => h3 y hy, h1⟩, fun y hy => ?_, fun y hy => ?_⟩
  · rcases List.mem_cons.1 hy with rfl | hy
    · exact h.1.1
    · exact h2 y hy
  · rcases List.mem_cons.1 hy with rfl | hy
    · exact h.1.2
    · cases o with
      | none => rfl
      | some q => exact xL h.1.2 (h3 y hy)
/-- what is reached in a graph -/
def yn (ps : List z7) (w : List Str) : List Str := yg xh ps (w.length + muS ps []) [] w
theorem mL {g : zy} (h : yK g = true) : ∀ p ∈ g.packs, td p = true ∧ x9 g.packs none p.zE = true := by
 unfold yK at h
 simp only [Bool.and_eq_true] at h
 exact pq g.packs none g.packs h.1
/-- how many are not there yet -/
def vV (ps : List z7) (out : List Str) : Nat := ps.countP fun p => !(ye out (keyOf p))
theorem gG (k : Str) (out out' : List Str) (h : ∀ s, ye out' s = (ye out s || (k == s))) : ∀ ps : List z7, vV ps out' ≤ vV ps out
 | [] => by simp [vV]
 | p :: ps => by
  have ih := gG k out out' h ps
  unfold vV at ih ⊢
  simp only [List.countP_cons]
  rw [h (keyOf p)]
  cases ye out (keyOf p) <;> cases (k == keyOf p) <;> simp <;> omega
theorem uO (k : Str) (out out' : List Str) (h : ∀ s, ye out' s = (ye out s || (k == s))) (hk : ye out k = false) : ∀ (ps : List z7) (p : z7), p ∈ ps → keyOf p = k → vV ps out' + 1 ≤ vV ps out
 | [], p, hp, _ => by simp at hp
 | q :: ps, p, hp, e => by
  rcases List.mem_cons.1 hp with rfl | hp
  · have h1 := gG k out out' h ps
    unfold vV at h1 ⊢
    simp only [List.countP_cons]
    rw [h (keyOf p), e, hk, beq_self_eq_true]
    simp
    omega
  · have h1 := uO k out out' h hk ps p hp e
    unfold vV at h1 ⊢
    simp only [List.countP_cons]
    rw [h (keyOf q)]
    cases ye out (keyOf q) <;> cases (k == keyOf q) <;> simp <;> omega
theorem qn : ∀ (l : List Str) (k s : Str), ye (xh l k) s = (ye l s || (k == s))
 | [], k, s => by simp [xh, ye]
 | x :: r, k, s => by
  have ih := qn r k s
  unfold ye at ih ⊢
  rw [xh]
  cases h1 : Op.bytesLess x k with
  | true => simp only [cond_true, List.any_cons, ih, Bool.or_assoc]
  | false =>
   simp only [cond_false]
   cases h2 : (x == k) with
   | true =>
    have : x = k := by simpa using h2
    subst this
    simp only [cond_true, List.any_cons]
    cases (x == s) <;> simp
   | false =>
    simp only [cond_false, List.any_cons]
    cases (k == s) <;> cases (x == s) <;> simp
end Go.Proofs.YtijninlbpifonaaGreatDoor
/- What one reaches, by both: the functions. Conditions: those of each lemma. -/
namespace Go.Proofs.YtijninlbpifonaaGreatDoor
open E
set_option linter.unusedSimpArgs false
set_option linter.unusedVariables false
set_option maxRecDepth 100000
theorem vj {l : List Str} {i : Nat} {s : Str} (h : l[i]? = some s) : (strs l)[i]? = some [.str s] := by simp [strs, h]
theorem UU (l : List Str) (hl : l.length ≤ 1048576) (s : Str) : ∀ (rest pre : List Str), l = pre ++ rest →
 EV Tryz.prog pol (.loop 127 26 0 [.t (.list 1 (strs l)), .t (.str s), .t (.int .i64 (pre.length : Int))] []) = some (cond (ye rest s) (.loop .ret [.t (.bool true)] []) (.loop (.exit 0) [.bad] []))
 | [], pre, h => by
  have c : decide ((pre.length : Int) < (l.length : Int)) = false := by simp [h]
  rw [show ye [] s = false from rfl, cond_false]
  refine zi Tryz.func127 rfl rfl ?_
  simp (disch := ((try simp only [LL]); omega)) only [↓GO, ↓DRW, GA, GX, ren, zm, za, refs, z8, cst, zq, isC, bin, una, z6, zd, blt, asArg, zf, zc, zg, z1, E.mkS, unN, ze, zn, zb, GS, simprocAttr, GZ, c, zh, zL]
 | x :: rest, pre, h => by
  have c : decide ((pre.length : Int) < (l.length : Int)) = true := by simp [h]; omega
  have hget : (strs l)[pre.length]? = some [.str x] := vj (by rw [h]; simp)
  have hlen : pre.length + rest.length + 1 ≤ l.length := by rw [h]; simp; omega
  have IH := UU l hl s rest (pre ++ [x]) (by rw [h]; simp)
  rw [show ((pre ++ [x]).length : Int) = (pre.length : Int) + 1 by simp] at IH
  rw [show ye (x :: rest) s = ((x == s) || ye rest s) from rfl]
  clear h
  cases q : (x == s) with
  | true =>
   simp only [Bool.true_or, cond_true]
   refine zi Tryz.func127 rfl rfl ?_
   simp (disch := ((try simp only [LL]); omega)) only [↓GO, ↓DRW, GA, GX, ren, zm, za, refs, z8, cst, zq, isC, bin, una, z6, zd, blt, asArg, zf, zc, zg, z1, E.mkS, unN, ze, zn, zb, GS, simprocAttr, GZ, c, hget, zh, q, zj, zL]
  | false =>
   simp only [Bool.false_or]
   refine zi Tryz.func127 rfl rfl ?_
   simp (disch := ((try simp only [LL]); omega)) only [↓GO, ↓DRW, GA, GX, ren, zm, za, refs, z8, cst, zq, isC, bin, una, z6, zd, blt, asArg, zf, zc, zg, z1, E.mkS, unN, ze, zn, zb, GS, simprocAttr, GZ, c, hget, zh, q, zj, zL, IH]
theorem aj (l : List Str) (hl : l.length ≤ 1048576) (s : Str) : zk (EV Tryz.prog pol) 127 [.t (.list 1 (strs l)), .t (.str s)] = some (.t (.bool (ye l s))) := by
 have L := UU l hl s l [] rfl
 simp only [List.length_nil, Int.natCast_zero] at L
 cases q : ye l s <;> rw [q] at L <;> simp only [cond_true, cond_false] at L
 all_goals
  apply zr
  refine zw rfl Tryz.func127 rfl (by kernel_rfl) ?_
  unfold Tryz.f127
  simp (disch := ((try simp only [LL]); omega)) only [↓GO, ↓DRW, GA, GX, ren, zm, za, refs, z8, cst, zq, isC, bin, una, z6, zd, blt, asArg, zf, zc, zg, z1, E.mkS, unN, ze, zn, zb, GS, simprocAttr, GZ, L, zh, zL]
theorem T0 (l : List Str) (hl : l.length ≤ 1073741824) (s : Str) (n : Nat) (hn : n = l.length) (cap : Option Nat) : ∀ (rest pre : List Str), l = pre ++ rest →
 EV Tryz.prog pol (.loop 128 28 1 [.sl 0 0 n cap, .t (.str s), .t (.int .i64 (pre.length : Int))] [.ts 1 (strs l)]) = some (.loop (.exit 0) [.sl 0 0 n cap, .t (.str s), .t (.int .i64 ((pre.length + xP rest s : Nat) : Int))] [.ts 1 (strs l)])
 | [], pre, h => by
  have c : decide ((pre.length : Int) < (n : Int)) = false := by simp [hn, h]
  rw [show xP [] s = 0 from rfl, Nat.add_zero]
  refine zi Tryz.func128 rfl rfl ?_
  simp (disch := ((try simp only [LL]); omega)) only [↓GO, ↓DRW, GA, GX, ren, zm, za, refs, z8, cst, zq, isC, bin, una, z6, zd, blt, asArg, zf, zc, zg, z1, E.mkS, unN, ze, zn, zb, GS, simprocAttr, GZ, c, zL]
 | x :: rest, pre, h => by
  have c : decide ((pre.length : Int) < (n : Int)) = true := by simp [hn, h]; omega
  have c0 : decide ((0 : Int) ≤ (pre.length : Int)) = true := by simp
  have hget : (strs l)[pre.length]? = some [.str x] := vj (by rw [h]; simp)
  have hlen : pre.length + rest.length + 1 ≤ l.length := by rw [h]; simp; omega
  have IH := T0 l hl s n hn cap rest (pre ++ [x]) (by rw [h]; simp)
  rw [show ((pre ++ [x]).length : Int) = (pre.length : Int) + 1 by simp, show (pre ++ [x]).length + xP rest s = pre.length + (xP rest s + 1) by simp; omega] at IH
  rw [xP]
  clear h
  cases q : Op.bytesLess x s with
  | true =>
   simp only [cond_true]
   refine zi Tryz.func128 rfl rfl ?_
   simp (disch := ((try simp only [LL]); omega)) only [↓GO, ↓DRW, GA, GX, ren, zm, za, refs, z8, cst, zq, isC, bin, una, z6, zd, blt, asArg, zf, zc, zg, z1, E.mkS, unN, ze, zn, zb, GS, simprocAttr, GZ, c, c0, hget, q, zj, zL, IH]
  | false =>
   simp only [cond_false, Nat.add_zero]
   refine zi Tryz.func128 rfl rfl ?_
   simp (disch := ((try simp only [LL]); omega)) only [↓GO, ↓DRW, GA, GX, ren, zm, za, refs, z8, cst, zq, isC, bin, una, z6, zd, blt, asArg, zf, zc, zg, z1, E.mkS, unN, ze, zn, zb, GS, simprocAttr, GZ, c, c0, hget, q, zj, zL]
theorem TM (l : List Str) (hl : l.length ≤ 1073741824) (s : Str) (n : Nat) (hn : n = l.length) (cap : Option Nat) (h : atS l s = false) : EV Tryz.prog pol (.callO false 128 [.sl 0 0 n cap, .t (.str s)] [.ts 1 (strs l)]) = some (.call (.sl 1 0 (n + 1) none) [.ts 1 (strs l), .ts 1 (strs (xh l s))]) := by
 have L := T0 l hl s n hn cap l [] rfl
 simp only [List.length_nil, Int.natCast_zero, Nat.zero_add] at L
 rw [bT l s h]
 have hp := cx l s
 unfold atS at h
 have c0 : decide ((0 : Int) ≤ ((xP l s : Nat) : Int)) = true := by simp
 have hsl : (strs l).length = n := by rw [zh, hn]
 have e : strs (l.take (xP l s) ++ s :: l.drop (xP l s)) = ((strs l).take (xP l s) ++ [[.str s]]) ++ (strs l).drop (xP l s) := by simp [strs]
 rw [e]
 have hA1 : ((strs l).take (xP l s)).length = xP l s := by rw [List.length_take, hsl]; omega
 have hB0 : ((strs l).drop (xP l s)).take (n - xP l s) = (strs l).drop (xP l s) := List.take_of_length_le (by rw [List.length_drop, hsl]; omega)
 have hB1 : ((strs l).drop (xP l s)).length = n - xP l s := by rw [List.length_drop, hsl]
 have hE : xP l s + 1 + (n - xP l s) = n + 1 := by omega
 rw [← hn] at hp
 have hnl : n ≤ 1073741824 := by omega
 cases hx : l[xP l s]? with
 | none =>
  have hlt : l.length ≤ xP l s := List.getElem?_eq_none_iff.1 hx
  have c : decide (((xP l s : Nat) : Int) < (n : Int)) = false := by rw [hn]; simpa using hlt
  clear h hx e
  generalize xP l s = p at *
  generalize hA : (strs l).take p = A at *
  generalize hB : (strs l).drop p = B at *
  have hC : (A ++ [[T.str s]]).length = p + 1 := by simp [hA1]
  refine yd Tryz.func128 rfl (by kernel_rfl) ?_
  unfold Tryz.f128
  simp (disch := ((try simp only [LL]); omega)) only [↓GO, ↓DRW, GA, GX, ren, zm, za, refs, z8, cst, zq, isC, bin, una, z6, zd, blt, asArg, zf, zc, zg, z1, E.mkS, unN, ze, zn, zb, GS, simprocAttr, GZ, L, c, c0, hsl, Nat.sub_zero, hA, hA1, hC, hB, hB0, hB1, hE, List.nil_append, Nat.zero_add, zL, xg]
  refine yN (by kernel_rfl) ?_
  rfl
 | some x =>
  rw [hx] at h
  have q : (x == s) = false := by simpa using h
  have hget := vj hx
  have hlt : xP l s < l.length := (List.getElem?_eq_some_iff.1 hx).1
  have c : decide (((xP l s : Nat) : Int) < (n : Int)) = true := by rw [hn]; simpa using hlt
  clear h hx e
  generalize xP l s = p at *
  generalize hA : (strs l).take p = A at *
  generalize hB : (strs l).drop p = B at *
  have hC : (A ++ [[T.str s]]).length = p + 1 := by simp [hA1]
  refine yd Tryz.func128 rfl (by kernel_rfl) ?_
  unfold Tryz.f128
  simp (disch := ((try simp only [LL]); omega)) only [↓GO, ↓DRW, GA, GX, ren, zm, za, refs, z8, cst, zq, isC, bin, una, z6, zd, blt, asArg, zf, zc, zg, z1, E.mkS, unN, ze, zn, zb, GS, simprocAttr, GZ, L, c, c0, hget, q, hsl, Nat.sub_zero, hA, hA1, hC, hB, hB0, hB1, hE, List.nil_append, Nat.zero_add, zL, xg]
  refine yN (by kernel_rfl) ?_
  rfl
theorem bb (k : Str) : ∀ (r : List Str) (i : Nat), decide (ixS k i r ≥ 0) = ye r k
 | [], i => rfl
 | x :: r, i => by
  rw [ixS, show ye (x :: r) k = ((x == k) || ye r k) from rfl]
  cases (x == k) with
  | true => simp
  | false => simp only [cond_false, Bool.false_or]; exact bb k r (i + 1)
theorem T7 (l : List Str) (hl : l.length ≤ 1048576) (s : Str) : zk (EV Tryz.prog pol) 108 [.t (.list 1 (strs l)), .t (.str s)] = some (.t (.bool (ye l s))) := by
 have h1 := c_ix s l hl
 have h2 := bb s l 0
 apply zr
 refine zw rfl Tryz.func108 rfl (by kernel_rfl) ?_
 unfold Tryz.f108
 simp (disch := ((try simp only [LL]); omega)) only [↓GO, ↓DRW, GA, GX, ren, zm, za, refs, z8, cst, zq, isC, bin, una, z6, zd, blt, asArg, zf, zc, zg, z1, E.mkS, unN, ze, zn, zb, GS, simprocAttr, GZ, h1, h2, zL]
end Go.Proofs.YtijninlbpifonaaGreatDoor
/- slices.IndexFunc at texts. Conditions: those of each lemma. -/
namespace Go.Proofs.YtijninlbpifonaaGreatDoor
open E
set_option linter.unusedSimpArgs false
set_option linter.unusedVariables false
set_option maxRecDepth 100000
end Go.Proofs.YtijninlbpifonaaGreatDoor
/- Versions in order, plain: one order, all that is sorted is the same. Conditions: none. -/
namespace Go.Proofs.YtijninlbpifonaaGreatDoor
open E
set_option linter.unusedVariables false
set_option linter.unusedSimpArgs false
set_option maxRecDepth 100000
structure Cmp {α : Type} (p : α → Prop) (c : α → α → Int) : Prop where
 anti : ∀ x y, p x → p y → c y x = - c x y
 trans : ∀ x y z, p x → p y → p z → c x y < 0 → c y z < 0 → c x z < 0
 sep : ∀ x y, p x → p y → c x y = 0 → x = y
theorem Cmp.refl {α : Type} {p : α → Prop} {c : α → α → Int} (h : Cmp p c) {x : α} (hx : p x) : c x x = 0 := by
 have := h.anti x x hx hx; omega
theorem Cmp.T2 {α β : Type} {p : β → Prop} {c : β → β → Int} (h : Cmp p c) (f : α → β) (q : α → Prop) (hp : ∀ x, q x → p (f x)) (hi : ∀ x y, q x → q y → f x = f y → x = y) : Cmp q fun x y => c (f x) (f y) :=
 ⟨fun x y hx hy => h.anti _ _ (hp x hx) (hp y hy), fun x y z hx hy hz => h.trans _ _ _ (hp x hx) (hp y hy) (hp z hz), fun x y hx hy e => hi x y hx hy (h.sep _ _ (hp x hx) (hp y hy) e)⟩
theorem Cmp.lex {α β : Type} {p : α → Prop} {q : β → Prop} {c : α → α → Int} {d : β → β → Int} (h : Cmp p c) (k : Cmp q d) : Cmp (fun x : α × β => p x.1 ∧ q x.2) fun x y => cond (c x.1 y.1 == 0) (d x.2 y.2) (c x.1 y.1) := by
 refine ⟨fun x y hx hy => ?_, fun x y z hx hy hz h1 h2 => ?_, fun x y hx hy e => ?_⟩
 · have ha := h.anti x.1 y.1 hx.1 hy.1
   cases hc : (c x.1 y.1 == 0) with
   | true =>
    have h0 : c x.1 y.1 = 0 := by simpa using hc
    rw [ha, h0, show ((-0 : Int) == 0) = true from rfl, cond_true, cond_true]
    exact k.anti _ _ hx.2 hy.2
   | false =>
    have h0 : c x.1 y.1 ≠ 0 := by simpa using hc
    have h1 : (c y.1 x.1 == 0) = false := by rw [beq_eq_false_iff_ne, ha]; omega
    rw [h1, cond_false, cond_false, ha]
 · cases hxy : (c x.1 y.1 == 0) with
   | true =>
    have e1 := h.sep _ _ hx.1 hy.1 (by simpa using hxy)
    rw [hxy, cond_true] at h1
    rw [e1]
    cases hyz : (c y.1 z.1 == 0) with
    | true => rw [hyz, cond_true] at h2; rw [cond_true]; exact k.trans _ _ _ hx.2 hy.2 hz.2 h1 h2
    | false => rw [hyz, cond_false] at h2; rw [cond_false]; exact h2
   | false =>
    rw [hxy, cond_false] at h1
    cases hyz : (c y.1 z.1 == 0) with
    | true =>
     have e1 := h.sep _ _ hy.1 hz.1 (by simpa using hyz)
     rw [← e1, hxy, cond_false]; exact h1
    | false =>
     rw [hyz, cond_false] at h2
     have h3 := h.trans _ _ _ hx.1 hy.1 hz.1 h1 h2
     have : (c x.1 z.1 == 0) = false := by rw [beq_eq_false_iff_ne]; omega
     rw [this, cond_false]; exact h3
 · cases hc : (c x.1 y.1 == 0) with
   | true =>
    rw [hc, cond_true] at e
    have e1 := h.sep _ _ hx.1 hy.1 (by simpa using hc)
    have e2 := k.sep _ _ hx.2 hy.2 e
    exact Prod.ext e1 e2
   | false => rw [hc, cond_false] at e; rw [e] at hc; cases hc
theorem vT {a b : Int} : wK a b < 0 ↔ a < b := by
 unfold wK
 by_cases h1 : a < b
 · simp [h1]
 · by_cases h2 : b < a
   · simp [h1, h2]
   · simp [h1, h2]
theorem ud (a b : Int) : wK b a = - wK a b := by
 unfold wK
 by_cases h1 : a < b
 · have h2 : ¬ b < a := by omega
   simp [h1, h2]
 · by_cases h2 : b < a
   · simp [h1, h2]
   · simp [h1, h2]
theorem xM : Cmp (fun _ => True) wK :=
 ⟨fun x y _ _ => ud x y, fun x y z _ _ _ h1 h2 => by rw [vT] at *; omega, fun x y _ _ e => by have := uc x y; rw [e] at this; simpa using this.symm⟩
theorem U8 {a b : Str} : ee a b < 0 ↔ Op.bytesLess a b = true := by
 unfold ee
 cases Op.bytesLess a b with
 | true => simp
 | false => cases (a == b) <;> simp
theorem qU : Cmp (fun _ => True) ee := by
 refine ⟨fun x y _ _ => ?_, fun x y z _ _ _ h1 h2 => ?_, fun x y _ _ e => ?_⟩
 · unfold ee
   cases h1 : Op.bytesLess x y with
   | true =>
    have h2 : Op.bytesLess y x = false := by
     cases h : Op.bytesLess y x with
     | false => rfl
     | true => have := xL h1 h; rw [wo] at this; cases this
    have h3 : (y == x) = false := by
     rw [beq_eq_false_iff_ne]; intro e; subst e; rw [wo] at h1; cases h1
    rw [h2, h3]; rfl
   | false =>
    cases h2 : Op.bytesLess y x with
    | true =>
     have h3 : (x == y) = false := by
      rw [beq_eq_false_iff_ne]; intro e; subst e; rw [wo] at h2; cases h2
     rw [h3]; rfl
    | false =>
     have := nU h1 h2
     subst this
     simp
 · rw [U8] at *; exact xL h1 h2
 · unfold ee at e
   cases h1 : Op.bytesLess x y with
   | true => rw [h1] at e; cases e
   | false =>
    rw [h1] at e
    cases h2 : (x == y) with
    | true => simpa using h2
    | false => rw [h2] at e; cases e
/-- a part's place: a number ahead of all words -/
theorem ub : Cmp (fun _ => True) uy := by
 have inj : ∀ {x y : Str}, 0 ≤ zJ x → zJ x = zJ y → x = y := fun {x y} h e => by
  have h1 := (pn h).2.1
  have h2 := (pn (s := y) (by rw [← e]; exact h)).2.1
  rw [← h1, ← h2, e]
 refine ⟨fun x y _ _ => ?_, fun x y z _ _ _ h1 h2 => ?_, fun x y _ _ e => ?_⟩
 · unfold uy
   cases decide (zJ x ≥ 0) <;> cases decide (zJ y ≥ 0) <;> simp only [Bool.and_true, Bool.and_false, Bool.true_and, Bool.false_and, cond_true, cond_false]
   all_goals first | exact qU.anti x y trivial trivial | exact ud _ _ | rfl
 · unfold uy at *
   cases hx : decide (zJ x ≥ 0) <;> cases hy : decide (zJ y ≥ 0) <;> cases hz : decide (zJ z ≥ 0) <;> simp only [hx, hy, hz, Bool.and_true, Bool.and_false, Bool.true_and, Bool.false_and, cond_true, cond_false] at *
   all_goals first | exact qU.trans x y z trivial trivial trivial h1 h2 | exact xM.trans _ _ _ trivial trivial trivial h1 h2 | omega
 · unfold uy at e
   cases hx : decide (zJ x ≥ 0) <;> cases hy : decide (zJ y ≥ 0) <;> simp only [hx, hy, Bool.and_true, Bool.and_false, Bool.true_and, Bool.false_and, cond_true, cond_false] at e
   all_goals try omega
   · exact qU.sep x y trivial trivial e
   · exact inj (of_decide_eq_true hx) (xM.sep _ _ trivial trivial e)
theorem uR (a b : Str) (l m : List Str) : vv (a :: l) (b :: m) = cond (uy a b == 0) (vv l m) (uy a b) := by
 unfold vv
 rw [sK]
 cases (uy a b == 0) with
 | true =>
  simp only [cond_true, List.length_cons]
  cases sK l m with
  | some x => rfl
  | none =>
   simp only [Option.getD_none]
   unfold wK
   rw [show decide (((l.length + 1 : Nat) : Int) < ((m.length + 1 : Nat) : Int)) = decide ((l.length : Int) < (m.length : Int)) by rw [Bool.eq_iff_iff]; simp,
    show decide (((l.length + 1 : Nat) : Int) > ((m.length + 1 : Nat) : Int)) = decide ((l.length : Int) > (m.length : Int)) by rw [Bool.eq_iff_iff]; simp]
 | false => rfl
theorem sB (m : List Str) : vv [] m = wK 0 (m.length : Int) := by unfold vv sK; rfl
theorem wF (l : List Str) : vv l [] = wK (l.length : Int) 0 := by unfold vv sK; cases l <;> rfl
theorem nu : ∀ l m : List Str, vv m l = - vv l m
 | [], m => by rw [sB, wF]; exact ud _ _
 | a :: l, [] => by rw [sB, wF]; exact ud _ _
 | a :: l, b :: m => by
  have h := ub.anti a b trivial trivial
  rw [uR, uR]
  cases hc : (uy a b == 0) with
  | true =>
   have h0 : uy a b = 0 := by simpa using hc
   rw [h, h0, show ((-0 : Int) == 0) = true from rfl, cond_true, cond_true]
   exact nu l m
  | false =>
   have h0 : uy a b ≠ 0 := by simpa using hc
   have h1 : (uy b a == 0) = false := by rw [beq_eq_false_iff_ne, h]; omega
   rw [h1, cond_false, cond_false, h]
theorem km : ∀ l m : List Str, vv l m = 0 → l = m
 | [], m, e => by
  rw [sB] at e
  have := xM.sep _ _ trivial trivial e
  cases m with
  | nil => rfl
  | cons b m => simp at this; omega
 | a :: l, [], e => by
  rw [wF] at e
  have := xM.sep _ _ trivial trivial e
  simp at this; omega
 | a :: l, b :: m, e => by
  rw [uR] at e
  cases hc : (uy a b == 0) with
  | true =>
   rw [hc, cond_true] at e
   rw [ub.sep a b trivial trivial (by simpa using hc), km l m e]
  | false => rw [hc, cond_false] at e; rw [e] at hc; cases hc
theorem pU : ∀ l m k : List Str, vv l m < 0 → vv m k < 0 → vv l k < 0
 | [], [], k, h1, h2 => h2
 | [], b :: m, [], h1, h2 => by rw [wF, vT] at h2; simp at h2; omega
 | [], b :: m, c :: k, h1, h2 => by rw [sB, vT]; simp
 | a :: l, [], k, h1, h2 => by rw [wF, vT] at h1; simp at h1; omega
 | a :: l, b :: m, [], h1, h2 => by rw [wF, vT] at h2; simp at h2; omega
 | a :: l, b :: m, c :: k, h1, h2 => by
  rw [uR] at *
  cases hxy : (uy a b == 0) with
  | true =>
   have e1 := ub.sep a b trivial trivial (by simpa using hxy)
   subst e1
   rw [hxy, cond_true] at h1
   cases hyz : (uy a c == 0) with
   | true => rw [hyz, cond_true] at h2; rw [cond_true]; exact pU l m k h1 h2
   | false => rw [hyz, cond_false] at h2; rw [cond_false]; exact h2
  | false =>
   rw [hxy, cond_false] at h1
   cases hyz : (uy b c == 0) with
   | true =>
    have e1 := ub.sep b c trivial trivial (by simpa using hyz)
    subst e1
    rw [hxy, cond_false]; exact h1
   | false =>
    rw [hyz, cond_false] at h2
    have h3 := ub.trans a b c trivial trivial trivial h1 h2
    have : (uy a c == 0) = false := by rw [beq_eq_false_iff_ne]; omega
    rw [this, cond_false]; exact h3
/-- what stands behind the numbers: nothing is above all -/
def ah (a b : List Str) : Int := cond (a == [] || b == []) (wK (b.length : Int) (a.length : Int)) (vv a b)
theorem eH : Cmp (fun _ => True) ah := by
 refine ⟨fun x y _ _ => ?_, fun x y z _ _ _ h1 h2 => ?_, fun x y _ _ e => ?_⟩
 · unfold ah
   rw [Bool.or_comm]
   cases (x == [] || y == []) with
   | true => exact ud _ _
   | false => exact nu x y
 · unfold ah at *
   cases x with
   | nil =>
    simp only [beq_self_eq_true, Bool.true_or, cond_true, vT, List.length_nil] at h1
    omega
   | cons a x =>
    cases y with
    | nil =>
     simp only [beq_self_eq_true, Bool.true_or, cond_true, vT, List.length_nil] at h2
     omega
    | cons b y =>
     cases z with
     | nil =>
      simp only [beq_self_eq_true, Bool.or_true, cond_true, vT, List.length_nil, List.length_cons]
      omega
     | cons c z =>
      rw [show ((a :: x == []) || (b :: y == [])) = false from rfl, cond_false] at h1
      rw [show ((b :: y == []) || (c :: z == [])) = false from rfl, cond_false] at h2
      rw [show ((a :: x == []) || (c :: z == [])) = false from rfl, cond_false]
      exact pU _ _ _ h1 h2
 · unfold ah at e
   cases x with
   | nil =>
    simp only [beq_self_eq_true, Bool.true_or, cond_true, List.length_nil] at e
    have := xM.sep _ _ trivial trivial e
    cases y with
    | nil => rfl
    | cons b y => simp at this; omega
   | cons a x =>
    cases y with
    | nil =>
     simp only [beq_self_eq_true, Bool.or_true, cond_true, List.length_nil] at e
     have := xM.sep _ _ trivial trivial e
     simp at this; omega
    | cons b y =>
     rw [show ((a :: x == []) || (b :: y == [])) = false from rfl, cond_false] at e
     exact km _ _ e
theorem aT : Cmp (fun _ => True) ec := by
 have h := (xM.lex (xM.lex (xM.lex eH))).T2 (fun v : Ver => (v.maj, v.min, v.pat, v.pre)) (fun _ => True) (fun _ _ => ⟨trivial, trivial, trivial, trivial⟩) (fun x y _ _ e => by
  obtain ⟨a, b, c, d⟩ := x
  obtain ⟨a', b', c', d'⟩ := y
  simp only [Prod.mk.injEq] at e
  obtain ⟨rfl, rfl, rfl, rfl⟩ := e
  rfl)
 exact h
/-- texts of versions compared -/
def T3 (s t : Str) : Int := ec (zP s).1 (zP t).1
theorem nt : Cmp (fun s => isV s = true) T3 :=
 aT.T2 (fun s => (zP s).1) _ (fun _ _ => trivial) fun x y hx hy e => by
  have h1 := (we hx).2.1
  have h2 := (we hy).2.1
  rw [← h1, ← h2, e]
def UJ (l : List Str) : Prop := l.Pairwise fun x y => T3 x y < 0
def AllV (l : List Str) : Prop := ∀ s ∈ l, isV s = true
theorem UJ.uniq : ∀ {a b : List Str}, AllV a → AllV b → UJ a → UJ b → (∀ s, s ∈ a ↔ s ∈ b) → a = b
 | [], [], _, _, _, _, _ => rfl
 | [], y :: b, _, _, _, _, h => by have := (h y).2 (by simp); simp at this
 | x :: a, [], _, _, _, _, h => by have := (h x).1 (by simp); simp at this
 | x :: a, y :: b, va, vb, h1, h2, h => by
  obtain ⟨p1, p2⟩ := List.pairwise_cons.1 h1
  obtain ⟨q1, q2⟩ := List.pairwise_cons.1 h2
  have hxy : x = y := by
   rcases List.mem_cons.1 ((h x).1 (by simp)) with e | m1
   · exact e
   · rcases List.mem_cons.1 ((h y).2 (by simp)) with e | m2
     · exact e.symm
     · have a1 := p1 y m2
       have a2 := q1 x m1
       have := nt.anti x y (va x (by simp)) (vb y (by simp))
       omega
  subst hxy
  have hx := va x (by simp)
  have hr := nt.refl hx
  rw [UJ.uniq (fun s hs => va s (by simp [hs])) (fun s hs => vb s (by simp [hs])) p2 q2 fun s => ?_]
  constructor
  · intro hs
    rcases List.mem_cons.1 ((h s).1 (by simp [hs])) with rfl | m
    · have := p1 s hs; omega
    · exact m
  · intro hs
    rcases List.mem_cons.1 ((h s).2 (by simp [hs])) with rfl | m
    · have := q1 s hs; omega
    · exact m
end Go.Proofs.YtijninlbpifonaaGreatDoor
/- What the laws' own functions do over Change: sizes, copies, comparisons. Conditions: those of each lemma. -/
namespace Go.Proofs.YtijninlbpifonaaGreatDoor
open E
set_option linter.unusedSimpArgs false
set_option linter.unusedVariables false
set_option maxRecDepth 100000
structure zN where
 kind : Int
 name : List UInt8
 old : List UInt8
 new : List UInt8
def zN.enc (x : zN) : List T := [.int .i64 x.kind, .str x.name, .str x.old, .str x.new]
def zN.zu (l : List zN) : List (List T) := l.map zN.enc
def zN.zT (x : zN) : Nat := x.name.length + x.old.length + x.new.length
def zN.zK : List zN → Nat
 | [] => 0
 | c :: cs => zN.zT c + zN.zK cs
def zN.ok (x : zN) : Prop := x.name.length ≤ 9223372036854775807 ∧ x.old.length ≤ 9223372036854775807 ∧ x.new.length ≤ 9223372036854775807
theorem zN.vl (x : zN) : x.enc.length = 4 := rfl
theorem zN.wj (x : zN) : x.enc.take 4 = x.enc := rfl
theorem zN.zo (cs : List zN) : (zN.zu cs).length = cs.length := by simp [zN.zu]
theorem zN.yS (cs : List zN) (i : Nat) (h : i < cs.length) : (zN.zu cs)[i]? = some cs[i].enc := by simp [zN.zu, h]
theorem zN.x6 (cs : List zN) (i : Nat) (h : i < cs.length) : zN.zK (cs.drop i) = cs[i].zT + zN.zK (cs.drop (i + 1)) := by
 rw [List.drop_eq_getElem_cons h]; rfl
theorem zN.y7 : ∀ {cs : List zN} {c : zN}, c ∈ cs → c.zT ≤ zN.zK cs
 | c' :: cs, c, h => by
  simp only [zN.zK]
  rcases List.mem_cons.1 h with rfl | h
  · omega
  · have := zN.y7 h; omega
def s6 (x : zN) : Prop := zk (EV Tryz.prog pol) 119 [.agg (x.enc.map .t), .agg (x.enc.map .t)] = some (.t (.bool true))
theorem c_eqChange (x : zN) (ho : x.zT ≤ 4194304) : s6 x := by
 obtain ⟨kind, name, old, new⟩ := x
 simp only [zN.zT] at ho
 simp only [s6, zN.enc, List.map_cons, List.map_nil]
 apply zr
 refine zw rfl Tryz.func119 rfl (by kernel_rfl) ?_
 unfold Tryz.f119
 simp only [↓GO, ↓DRW, GA, GX, ren, zm, za, refs, z8, cst, zq, isC, bin, una, z6, zd, blt, asArg, zf, zc, zg, z1, E.mkS, unN, ze, zn, zb, GS, simprocAttr, bne_self_eq_false]
theorem pJ (cs : List zN) (hl : cs.length ≤ 4194304) (hc : ∀ c ∈ cs, s6 c) : ∀ (d i : Nat), cs.length - i = d → i ≤ cs.length →
 EV Tryz.prog pol (.loop 32 58 0 [.t (.list 4 (zN.zu cs)), .t (.list 4 (zN.zu cs)), .t (.int .i64 (i : Int))] []) = some (.loop (.exit 0) [.bad] [])
 | 0, i, hd, hi => by
  have hi' : i = cs.length := by omega
  subst hi'
  refine zi Tryz.func32 rfl rfl ?_
  have c : decide (((cs.length : Nat) : Int) < ((cs.length : Nat) : Int)) = false := by simp
  simp only [↓GO, ↓DRW, GA, GX, ren, zm, za, refs, z8, cst, zq, isC, bin, una, z6, zd, blt, asArg, zf, zc, zg, z1, E.mkS, unN, ze, zn, zb, GS, simprocAttr, zN.zo, c]
 | d + 1, i, hd, hi => by
  have hlt : i < cs.length := by omega
  have c : decide ((i : Int) < ((cs.length : Nat) : Int)) = true := by simp; omega
  have IH := pJ cs hl hc d (i + 1) (by omega) (by omega)
  have e1 : (i : Int) + 1 = ((i + 1 : Nat) : Int) := by omega
  have hcall := hc _ (List.getElem_mem hlt)
  have hget := zN.yS cs i hlt
  generalize hci : cs[i] = ci at hcall hget
  obtain ⟨kind, name, old, new⟩ := ci
  simp only [s6, zN.enc, List.map_cons, List.map_nil] at hcall hget
  refine zi Tryz.func32 rfl rfl ?_
  simp (disch := omega) only [↓GO, ↓DRW, GA, GX, ren, zm, za, refs, z8, cst, zq, isC, bin, una, z6, zd, blt, asArg, zf, zc, zg, z1, E.mkS, unN, ze, zn, zb, GS, simprocAttr, zN.zo, c, hget, zj, e1, hcall]
  exact IH
theorem c_eqChangeS (cs : List zN) (hl : cs.length ≤ 4194304) (hc : ∀ c ∈ cs, s6 c) : zk (EV Tryz.prog pol) 32 [.t (.list 4 (zN.zu cs)), .t (.list 4 (zN.zu cs))] = some (.t (.bool true)) := by
 apply zr
 refine zw rfl Tryz.func32 rfl (by kernel_rfl) ?_
 unfold Tryz.f32
 have IH := pJ cs hl hc cs.length 0 (by omega) (by omega)
 simp only [Int.natCast_zero] at IH
 simp only [↓GO, ↓DRW, GA, GX, ren, zm, za, refs, z8, cst, zq, isC, bin, una, z6, zd, blt, asArg, zf, zc, zg, z1, E.mkS, unN, ze, zn, zb, GS, simprocAttr, zN.zo, IH, bne_self_eq_false]
end Go.Proofs.YtijninlbpifonaaGreatDoor
/- Names in order, changes between graphs, plain: both ways come to the same. Conditions: none. -/
namespace Go.Proofs.YtijninlbpifonaaGreatDoor
open E
set_option linter.unusedVariables false
set_option linter.unusedSimpArgs false
set_option maxRecDepth 100000
def UK (l : List Str) : Prop := l.Pairwise fun x y => Op.bytesLess x y = true
theorem Tp {x y : Str} (h : Op.bytesLess x y = true) : Op.bytesLess y x = false := by
 cases h2 : Op.bytesLess y x with
 | false => rfl
 | true => have := xL h h2; rw [wo] at this; cases this
theorem UK.uniq : ∀ {a b : List Str}, UK a → UK b → (∀ s, s ∈ a ↔ s ∈ b) → a = b
 | [], [], _, _, _ => rfl
 | [], y :: b, _, _, h => by have := (h y).2 (by simp); simp at this
 | x :: a, [], _, _, h => by have := (h x).1 (by simp); simp at this
 | x :: a, y :: b, h1, h2, h => by
  obtain ⟨p1, p2⟩ := List.pairwise_cons.1 h1
  obtain ⟨q1, q2⟩ := List.pairwise_cons.1 h2
  have hxy : x = y := by
   rcases List.mem_cons.1 ((h x).1 (by simp)) with e | m1
   · exact e
   · rcases List.mem_cons.1 ((h y).2 (by simp)) with e | m2
     · exact e.symm
     · have a1 := Tp (p1 y m2)
       have a2 := q1 x m1
       rw [a2] at a1; cases a1
  subst hxy
  rw [UK.uniq p2 q2 fun s => ?_]
  constructor
  · intro hs
    rcases List.mem_cons.1 ((h s).1 (by simp [hs])) with rfl | m
    · have := p1 s hs; rw [wo] at this; cases this
    · exact m
  · intro hs
    rcases List.mem_cons.1 ((h s).2 (by simp [hs])) with rfl | m
    · have := q1 s hs; rw [wo] at this; cases this
    · exact m
theorem uw : ∀ (l : List Str) (s y : Str), y ∈ xh l s ↔ y ∈ l ∨ y = s
 | [], s, y => by simp [xh]
 | x :: r, s, y => by
  rw [xh]
  cases h1 : Op.bytesLess x s with
  | true => rw [cond_true, List.mem_cons, uw r s y, List.mem_cons, or_assoc]
  | false =>
   rw [cond_false]
   cases h2 : (x == s) with
   | true =>
    have : x = s := by simpa using h2
    subst this
    rw [cond_true, List.mem_cons]
    constructor
    · exact .inl
    · rintro (h | h)
      · exact h
      · exact .inl h
   | false => rw [cond_false, List.mem_cons]; exact Or.comm
def vU (l : List zD) : List (List Str) := l.map fun s => [s.alg, s.bytes]
end Go.Proofs.YtijninlbpifonaaGreatDoor
/- Lists compared, packs compared, texts kept and left out, names of two graphs, by both. Conditions: those of each lemma. -/
namespace Go.Proofs.YtijninlbpifonaaGreatDoor
open E
set_option linter.unusedSimpArgs false
set_option linter.unusedVariables false
set_option maxRecDepth 100000
theorem UX (a b : List Str) (hl : a.length ≤ 4194304) : ∀ (ra rb pa pb : List Str), a = pa ++ ra → b = pb ++ rb → pa.length = pb.length → ra.length = rb.length →
 EV Tryz.prog pol (.loop 182 58 0 [.t (.list 1 (strs a)), .t (.list 1 (strs b)), .t (.int .i64 (a.length : Int)), .t (.int .i64 (pa.length : Int))] []) = some (cond (ra == rb) (.loop (.exit 0) [.bad] []) (.loop .ret [.t (.bool false)] []))
 | [], [], pa, pb, ha, hb, hp, hr => by
  have c : decide ((pa.length : Int) < (a.length : Int)) = false := by simp [ha]
  rw [show (([] : List Str) == []) = true from rfl, cond_true]
  refine zi Tryz.func182 rfl rfl ?_
  simp (disch := ((try simp only [LL]); omega)) only [↓GO, ↓DRW, GA, GX, ren, zm, za, refs, z8, cst, zq, isC, bin, una, z6, zd, blt, asArg, zf, zc, zg, z1, E.mkS, unN, ze, zn, zb, GS, simprocAttr, GZ, c, zL]
 | [], _ :: _, pa, pb, ha, hb, hp, hr => by simp at hr
 | _ :: _, [], pa, pb, ha, hb, hp, hr => by simp at hr
 | x :: ra, y :: rb, pa, pb, ha, hb, hp, hr => by
  have c : decide ((pa.length : Int) < (a.length : Int)) = true := by simp [ha]; omega
  have hg1 : (strs a)[pa.length]? = some [.str x] := vj (by rw [ha]; simp)
  have hg2 : (strs b)[pa.length]? = some [.str y] := vj (by rw [hb, hp]; simp)
  have hlen : pa.length + ra.length + 1 ≤ a.length := by rw [ha]; simp; omega
  have IH := UX a b hl ra rb (pa ++ [x]) (pb ++ [y]) (by rw [ha]; simp) (by rw [hb]; simp) (by simp [hp]) (by simpa using hr)
  rw [show ((pa ++ [x]).length : Int) = (pa.length : Int) + 1 by simp] at IH
  rw [List.cons_beq_cons]
  clear ha hb
  cases q : (x == y) with
  | true =>
   rw [Bool.true_and]
   refine zi Tryz.func182 rfl rfl ?_
   simp (disch := ((try simp only [LL]); omega)) only [↓GO, ↓DRW, GA, GX, ren, zm, za, refs, z8, cst, zq, isC, bin, una, z6, zd, blt, asArg, zf, zc, zg, z1, E.mkS, unN, ze, zn, zb, GS, simprocAttr, GZ, c, hg1, hg2, q, bne, Bool.not_true, zj, zL, IH]
  | false =>
   rw [Bool.false_and, cond_false]
   refine zi Tryz.func182 rfl rfl ?_
   simp (disch := ((try simp only [LL]); omega)) only [↓GO, ↓DRW, GA, GX, ren, zm, za, refs, z8, cst, zq, isC, bin, una, z6, zd, blt, asArg, zf, zc, zg, z1, E.mkS, unN, ze, zn, zb, GS, simprocAttr, GZ, c, hg1, hg2, q, bne, Bool.not_false, zj, zL]
theorem XM {a b : List Str} (h : a.length ≠ b.length) : (a == b) = false := by
 rw [beq_eq_false_iff_ne]; intro e; exact h (by rw [e])
theorem c_eqI (a b : List Str) (hl : a.length ≤ 4194304) : zk (EV Tryz.prog pol) 182 [.t (.list 1 (strs a)), .t (.list 1 (strs b))] = some (.t (.bool (a == b))) := by
 by_cases hn : a.length = b.length
 · have L := UX a b hl a b [] [] rfl rfl rfl hn
   simp only [List.length_nil, Int.natCast_zero] at L
   have c : ((a.length : Int) != (b.length : Int)) = false := by rw [hn]; simp
   cases q : (a == b) <;> rw [q] at L <;> simp only [cond_true, cond_false] at L
   all_goals
    apply zr
    refine zw rfl Tryz.func182 rfl (by kernel_rfl) ?_
    unfold Tryz.f182
    simp (disch := ((try simp only [LL]); omega)) only [↓GO, ↓DRW, GA, GX, ren, zm, za, refs, z8, cst, zq, isC, bin, una, z6, zd, blt, asArg, zf, zc, zg, z1, E.mkS, unN, ze, zn, zb, GS, simprocAttr, GZ, L, zh, c, zL]
 · have c : ((a.length : Int) != (b.length : Int)) = true := by simp; omega
   rw [XM hn]
   apply zr
   refine zw rfl Tryz.func182 rfl (by kernel_rfl) ?_
   unfold Tryz.f182
   simp (disch := ((try simp only [LL]); omega)) only [↓GO, ↓DRW, GA, GX, ren, zm, za, refs, z8, cst, zq, isC, bin, una, z6, zd, blt, asArg, zf, zc, zg, z1, E.mkS, unN, ze, zn, zb, GS, simprocAttr, GZ, zh, c, zL]
theorem UW (a b : List Str) (hl : a.length ≤ 4194304) : ∀ (ra rb pa pb : List Str), a = pa ++ ra → b = pb ++ rb → pa.length = pb.length → ra.length = rb.length →
 EV Tryz.prog pol (.loop 180 58 0 [.t (.list 1 (strs a)), .t (.list 1 (strs b)), .t (.int .i64 (pa.length : Int))] []) = some (cond (ra == rb) (.loop (.exit 0) [.bad] []) (.loop .ret [.t (.bool false)] []))
 | [], [], pa, pb, ha, hb, hp, hr => by
  have c : decide ((pa.length : Int) < (a.length : Int)) = false := by simp [ha]
  rw [show (([] : List Str) == []) = true from rfl, cond_true]
  refine zi Tryz.func180 rfl rfl ?_
  simp (disch := ((try simp only [LL]); omega)) only [↓GO, ↓DRW, GA, GX, ren, zm, za, refs, z8, cst, zq, isC, bin, una, z6, zd, blt, asArg, zf, zc, zg, z1, E.mkS, unN, ze, zn, zb, GS, simprocAttr, GZ, c, zh, zL]
 | [], _ :: _, pa, pb, ha, hb, hp, hr => by simp at hr
 | _ :: _, [], pa, pb, ha, hb, hp, hr => by simp at hr
 | x :: ra, y :: rb, pa, pb, ha, hb, hp, hr => by
  have c : decide ((pa.length : Int) < (a.length : Int)) = true := by simp [ha]; omega
  have hg1 : (strs a)[pa.length]? = some [.str x] := vj (by rw [ha]; simp)
  have hg2 : (strs b)[pa.length]? = some [.str y] := vj (by rw [hb, hp]; simp)
  have hlen : pa.length + ra.length + 1 ≤ a.length := by rw [ha]; simp; omega
  have IH := UW a b hl ra rb (pa ++ [x]) (pb ++ [y]) (by rw [ha]; simp) (by rw [hb]; simp) (by simp [hp]) (by simpa using hr)
  rw [show ((pa ++ [x]).length : Int) = (pa.length : Int) + 1 by simp] at IH
  rw [List.cons_beq_cons]
  clear ha hb
  cases q : (x == y) with
  | true =>
   rw [Bool.true_and]
   refine zi Tryz.func180 rfl rfl ?_
   simp (disch := ((try simp only [LL]); omega)) only [↓GO, ↓DRW, GA, GX, ren, zm, za, refs, z8, cst, zq, isC, bin, una, z6, zd, blt, asArg, zf, zc, zg, z1, E.mkS, unN, ze, zn, zb, GS, simprocAttr, GZ, c, hg1, hg2, zh, q, bne, Bool.not_true, zj, zL, IH]
  | false =>
   rw [Bool.false_and, cond_false]
   refine zi Tryz.func180 rfl rfl ?_
   simp (disch := ((try simp only [LL]); omega)) only [↓GO, ↓DRW, GA, GX, ren, zm, za, refs, z8, cst, zq, isC, bin, una, z6, zd, blt, asArg, zf, zc, zg, z1, E.mkS, unN, ze, zn, zb, GS, simprocAttr, GZ, c, hg1, hg2, zh, q, bne, Bool.not_false, zj, zL]
theorem c_eqR (a b : List Str) (hl : a.length ≤ 4194304) : zk (EV Tryz.prog pol) 180 [.t (.list 1 (strs a)), .t (.list 1 (strs b))] = some (.t (.bool (a == b))) := by
 by_cases hn : a.length = b.length
 · have L := UW a b hl a b [] [] rfl rfl rfl hn
   simp only [List.length_nil, Int.natCast_zero] at L
   have c : ((a.length : Int) != (b.length : Int)) = false := by rw [hn]; simp
   cases q : (a == b) <;> rw [q] at L <;> simp only [cond_true, cond_false] at L
   all_goals
    apply zr
    refine zw rfl Tryz.func180 rfl (by kernel_rfl) ?_
    unfold Tryz.f180
    simp (disch := ((try simp only [LL]); omega)) only [↓GO, ↓DRW, GA, GX, ren, zm, za, refs, z8, cst, zq, isC, bin, una, z6, zd, blt, asArg, zf, zc, zg, z1, E.mkS, unN, ze, zn, zb, GS, simprocAttr, GZ, L, zh, c, zL]
 · have c : ((a.length : Int) != (b.length : Int)) = true := by simp; omega
   have hf : (a == b) = false := by rw [beq_eq_false_iff_ne]; intro e; exact hn (by rw [e])
   rw [hf]
   apply zr
   refine zw rfl Tryz.func180 rfl (by kernel_rfl) ?_
   unfold Tryz.f180
   simp (disch := ((try simp only [LL]); omega)) only [↓GO, ↓DRW, GA, GX, ren, zm, za, refs, z8, cst, zq, isC, bin, una, z6, zd, blt, asArg, zf, zc, zg, z1, E.mkS, unN, ze, zn, zb, GS, simprocAttr, GZ, zh, c, zL]
theorem oG (x : zD) (r : List zD) : vU (x :: r) = [x.alg, x.bytes] :: vU r := rfl
theorem mZ (l : List zD) : (vU l).length = l.length := by simp [vU]
theorem Wp {l : List zD} {i : Nat} {s : zD} (h : l[i]? = some s) : (zD.zu l)[i]? = some [.str s.alg, .str s.bytes] := by simp [zD.zu, zD.enc, h]
theorem WI (a b : List zD) (hl : a.length ≤ 4194304) : ∀ (ra rb pa pb : List zD), a = pa ++ ra → b = pb ++ rb → pa.length = pb.length → ra.length = rb.length →
 EV Tryz.prog pol (.loop 210 58 0 [.t (.list 2 (zD.zu a)), .t (.list 2 (zD.zu b)), .t (.int .i64 (a.length : Int)), .t (.int .i64 (pa.length : Int))] []) = some (cond (vU ra == vU rb) (.loop (.exit 0) [.bad] []) (.loop .ret [.t (.bool false)] []))
 | [], [], pa, pb, ha, hb, hp, hr => by
  have c : decide ((pa.length : Int) < (a.length : Int)) = false := by simp [ha]
  rw [show (vU [] == vU []) = true from rfl, cond_true]
  refine zi Tryz.func210 rfl rfl ?_
  simp (disch := ((try simp only [LL]); omega)) only [↓GO, ↓DRW, GA, GX, ren, zm, za, refs, z8, cst, zq, isC, bin, una, z6, zd, blt, asArg, zf, zc, zg, z1, E.mkS, unN, ze, zn, zb, GS, simprocAttr, GZ, c, zL]
 | [], _ :: _, pa, pb, ha, hb, hp, hr => by simp at hr
 | _ :: _, [], pa, pb, ha, hb, hp, hr => by simp at hr
 | x :: ra, y :: rb, pa, pb, ha, hb, hp, hr => by
  have c : decide ((pa.length : Int) < (a.length : Int)) = true := by simp [ha]; omega
  have hg1 : (zD.zu a)[pa.length]? = some [.str x.alg, .str x.bytes] := Wp (by rw [ha]; simp)
  have hg2 : (zD.zu b)[pa.length]? = some [.str y.alg, .str y.bytes] := Wp (by rw [hb, hp]; simp)
  have hlen : pa.length + ra.length + 1 ≤ a.length := by rw [ha]; simp; omega
  have IH := WI a b hl ra rb (pa ++ [x]) (pb ++ [y]) (by rw [ha]; simp) (by rw [hb]; simp) (by simp [hp]) (by simpa using hr)
  rw [show ((pa ++ [x]).length : Int) = (pa.length : Int) + 1 by simp] at IH
  rw [oG, oG, List.cons_beq_cons]
  clear ha hb
  cases q : ([x.alg, x.bytes] == [y.alg, y.bytes]) with
  | true =>
   rw [Bool.true_and]
   refine zi Tryz.func210 rfl rfl ?_
   simp (disch := ((try simp only [LL]); omega)) only [↓GO, ↓DRW, GA, GX, ren, zm, za, refs, z8, cst, zq, isC, bin, una, z6, zd, blt, asArg, zf, zc, zg, z1, E.mkS, unN, ze, zn, zb, GS, simprocAttr, GZ, c, hg1, hg2, q, bne, Bool.not_true, zj, zL, IH, List.length_cons, List.length_nil, Nat.zero_add, Nat.reduceAdd, and_self, if_true]
  | false =>
   rw [Bool.false_and, cond_false]
   refine zi Tryz.func210 rfl rfl ?_
   simp (disch := ((try simp only [LL]); omega)) only [↓GO, ↓DRW, GA, GX, ren, zm, za, refs, z8, cst, zq, isC, bin, una, z6, zd, blt, asArg, zf, zc, zg, z1, E.mkS, unN, ze, zn, zb, GS, simprocAttr, GZ, c, hg1, hg2, q, bne, Bool.not_false, zj, zL, List.length_cons, List.length_nil, Nat.zero_add, Nat.reduceAdd, and_self, if_true]
theorem c_eqSI (a b : List zD) (hl : a.length ≤ 4194304) : zk (EV Tryz.prog pol) 210 [.t (.list 2 (zD.zu a)), .t (.list 2 (zD.zu b))] = some (.t (.bool (vU a == vU b))) := by
 by_cases hn : a.length = b.length
 · have L := WI a b hl a b [] [] rfl rfl rfl hn
   simp only [List.length_nil, Int.natCast_zero] at L
   have c : ((a.length : Int) != (b.length : Int)) = false := by rw [hn]; simp
   cases q : (vU a == vU b) <;> rw [q] at L <;> simp only [cond_true, cond_false] at L
   all_goals
    apply zr
    refine zw rfl Tryz.func210 rfl (by kernel_rfl) ?_
    unfold Tryz.f210
    simp (disch := ((try simp only [LL]); omega)) only [↓GO, ↓DRW, GA, GX, ren, zm, za, refs, z8, cst, zq, isC, bin, una, z6, zd, blt, asArg, zf, zc, zg, z1, E.mkS, unN, ze, zn, zb, GS, simprocAttr, GZ, L, zD.zo, c, zL]
 · have c : ((a.length : Int) != (b.length : Int)) = true := by simp; omega
   have hf : (vU a == vU b) = false := by rw [beq_eq_false_iff_ne]; intro e; exact hn (by rw [← mZ a, e, mZ])
   rw [hf]
   apply zr
   refine zw rfl Tryz.func210 rfl (by kernel_rfl) ?_
   unfold Tryz.f210
   simp (disch := ((try simp only [LL]); omega)) only [↓GO, ↓DRW, GA, GX, ren, zm, za, refs, z8, cst, zq, isC, bin, una, z6, zd, blt, asArg, zf, zc, zg, z1, E.mkS, unN, ze, zn, zb, GS, simprocAttr, GZ, zD.zo, c, zL]
theorem nk {α : Type} (p : α → Bool) : ∀ (l : List α) (n i : Nat), vA p l n = some i → ∃ pre x post, l = pre ++ x :: post ∧ n + pre.length = i ∧ p x = true ∧ ∀ y ∈ pre, p y = false
 | [], n, i, h => by cases h
 | x :: r, n, i, h => by
  rw [vA] at h
  split at h
  · rename_i hx
    cases h
    exact ⟨[], x, r, rfl, rfl, hx, fun y hy => by simp at hy⟩
  · rename_i hx
    obtain ⟨pre, y, post, e1, e2, e3, e4⟩ := nk p r (n + 1) i h
    refine ⟨x :: pre, y, post, by rw [e1]; rfl, by simp; omega, e3, fun z hz => ?_⟩
    rcases List.mem_cons.1 hz with rfl | hz
    · simpa using hx
    · exact e4 z hz
end Go.Proofs.YtijninlbpifonaaGreatDoor
/- slices.DeleteFunc at packs that own their memory. Conditions: those of each lemma. -/
namespace Go.Proofs.YtijninlbpifonaaGreatDoor
open E
set_option linter.unusedSimpArgs false
set_option linter.unusedVariables false
set_option maxRecDepth 100000
/-- elements that name no rows, of a pack's size -/
def noR (J : List (List V)) : Prop := J.flatMap refs.refss = [] ∧ (∀ f : Nat → Option Nat, J.map (ren.rens f) = J) ∧ ∀ e ∈ J, e.length = 6
theorem uX {A B : List (List V)} (ha : noR A) (hb : noR B) : noR (A ++ B) := ⟨by rw [List.flatMap_append, ha.1, hb.1]; rfl, fun f => by rw [List.map_append, ha.2.1, hb.2.1], fun e he => (List.mem_append.1 he).elim (ha.2.2 e) (hb.2.2 e)⟩
theorem s9 (l : List z7) : noR (ocE (z7.zu l)) := ⟨yj _, fun f => yA f _, fun e he => by
 unfold ocE z7.zu at he
 simp only [List.map_map, List.mem_map] at he
 obtain ⟨x, _, rfl⟩ := he
 rfl⟩
theorem gB {e : List V} {J : List (List V)} (h1 : refs.refss e = []) (h2 : ∀ f, ren.rens f e = e) (h3 : e.length = 6) (hj : noR J) : noR (e :: J) := ⟨by rw [List.flatMap_cons, h1, hj.1]; rfl, fun f => by rw [List.map_cons, h2, hj.2.1], fun x hx => by
 rcases List.mem_cons.1 hx with rfl | hx
 · exact h3
 · exact hj.2.2 x hx⟩
theorem jk : noR [] := ⟨rfl, fun _ => rfl, fun e he => by simp at he⟩
theorem cL {e : List V} (h1 : refs.refss e = []) (h2 : ∀ f, ren.rens f e = e) (h3 : e.length = 6) : ∀ n, noR (List.replicate n e)
 | 0 => jk
 | n + 1 => by rw [List.replicate_succ]; exact gB h1 h2 h3 (cL h1 h2 h3 n)
theorem X3 {e : List V} {J : List (List V)} (h : noR (e :: J)) : noR J := by
 obtain ⟨h1, h2, h3⟩ := h
 rw [List.flatMap_cons, List.append_eq_nil_iff] at h1
 exact ⟨h1.2, fun f => by have := h2 f; rw [List.map_cons] at this; exact (List.cons.inj this).2, fun x hx => h3 x (List.mem_cons_of_mem _ hx)⟩
theorem UP (n : Nat) : noR (List.replicate n zPk) := cL rfl (fun _ => rfl) rfl n
def fgP (x : z7) : List V := [.t (.str x.name), .t (.str x.version), .t (.str x.source), .bad, .t (.bool x.dev), .bad]
theorem Wz (x : z7) : noR [fgP x] := gB rfl (fun _ => rfl) rfl jk
theorem pcons (x : z7) (r : List z7) : ocE (z7.zu (x :: r)) = [V.t (.str x.name), .t (.str x.version), .t (.str x.source), .o (.list 2 (zD.zu x.sums)), .t (.bool x.dev), .o (.list 1 (strs x.zE))] :: ocE (z7.zu r) := rfl
theorem nN (a b : List z7) : ocE (z7.zu (a ++ b)) = ocE (z7.zu a) ++ ocE (z7.zu b) := by simp [z7.zu, ocE]
theorem VX {α : Type} (p : α → Bool) (l : List α) (h : vA p l 0 = none) : l.filter (fun x => !p x) = l := by
 have h2 := qk p l 0
 rw [h] at h2
 refine List.filter_eq_self.2 fun x hx => ?_
 cases hc : p x with
 | false => rfl
 | true =>
  have : l.any p = true := List.any_eq_true.2 ⟨x, hx, hc⟩
  rw [this] at h2; cases h2
set_option maxHeartbeats 4000000 in
theorem dJ (g : Nat) (cell : T) (p : z7 → Bool) (l : List z7) (hl : l.length ≤ 1048576) (hp : ∀ x ∈ l, zk (EV Tryz.prog pol) g (.agg (x.enc.map .t) :: [.t (.fp [cell])]) = some (.t (.bool (p x)))) (n : Nat) (hn : n = l.length) (cap : Option Nat) :
 ∀ (R K : List z7) (J : List (List V)), (∀ x ∈ R, x ∈ l) → 1 ≤ J.length → noR J → K.length + J.length + R.length = l.length → ∃ J', noR J' ∧ (K ++ R.filter fun x => !p x).length + J'.length = l.length ∧
 EV Tryz.prog pol (.loop 106 122 2 [.sl 0 0 n cap, .fn g [.ptr 1 0 0], .t (.int .i64 (K.length : Int)), .t (.int .i64 ((K.length + J.length : Nat) : Int))] [.vs 6 (ocE (z7.zu K) ++ J ++ ocE (z7.zu R)), .vs 1 [[.t cell]]])
  = some (.loop (.exit 0) [.sl 0 0 n cap, .t (.int .i64 ((K ++ R.filter fun x => !p x).length : Int))] [.vs 6 (ocE (z7.zu (K ++ R.filter fun x => !p x)) ++ J'), .vs 1 [[.t cell]]])
 | [], K, J, hR, hJ, hJr, hlen => by
  have c : decide (((K.length + J.length : Nat) : Int) < (n : Int)) = false := by simp at hlen; apply decide_eq_false; omega
  refine ⟨J, hJr, by simp at hlen; simpa using hlen, ?_⟩
  have hE := uX (s9 K) hJr
  simp only [List.filter_nil, List.append_nil, show ocE (z7.zu []) = [] from rfl]
  obtain ⟨h1, h2, _⟩ := hE
  generalize ocE (z7.zu K) ++ J = E0 at *
  refine zi Tryz.func106 rfl rfl ?_
  simp (disch := ((try simp only [LL]); omega)) only [↓GO, ↓DRW, GA, GX, ren, zm, za, refs, z8, cst, zq, isC, bin, una, z6, zd, blt, asArg, zf, zc, zg, z1, E.mkS, unN, ze, zn, zb, GS, simprocAttr, zR, zS, xT, xK, xR, xQ, xU, gh1, xJ, xr, xA, ym, mkO, xB, xt, yJ, xS, zX, xI, xG, yx, oc, oTs, oT, yf, yf.rowTs, xy, isL, Bool.not_false, Bool.true_and, Bool.and_true, Bool.and_self, List.flatMap_append, List.map_append, List.set_cons_zero, List.set_cons_succ, GZ, c, h1, h2, zL]
 | x :: R, K, J, hR, hJ, hJr, hlen => by
  simp only [List.length_cons] at hlen
  have c : decide (((K.length + J.length : Nat) : Int) < (n : Int)) = true := by apply decide_eq_true; omega
  have c0 : decide ((0 : Int) ≤ ((K.length + J.length : Nat) : Int)) = true := by apply decide_eq_true; omega
  have c00 : (0 : Int) ≤ ((K.length + J.length : Nat) : Int) := by omega
  have c1 : decide ((0 : Int) ≤ (K.length : Int)) = true := by apply decide_eq_true; omega
  have c11 : (0 : Int) ≤ (K.length : Int) := by omega
  have c2 : decide ((K.length : Int) < (n : Int)) = true := by apply decide_eq_true; omega
  have d1 := hp x (hR x (by simp))
  have hkl : K.length + J.length ≤ 1048576 := by omega
  have hPl : (ocE (z7.zu K) ++ J).length = K.length + J.length := by rw [List.length_append, yQ, z7.zo]
  have hPr := uX (s9 K) hJr
  have hBr := s9 R
  have hf1 := w5 x.sums
  have hf2 := xi x.zE
  have hs1 := zD.zo x.sums
  have hs2 := zh x.zE
  rw [pcons, List.filter_cons]
  cases q : p x with
  | true =>
   rw [q] at d1
   obtain ⟨J', hJ1, hJ2, IH⟩ := dJ g cell p l hl hp n hn cap R K (J ++ [fgP x]) (fun y hy => hR y (by simp [hy])) (by simp) (uX hJr (Wz x)) (by simp; omega)
   rw [show ocE (z7.zu K) ++ (J ++ [fgP x]) ++ ocE (z7.zu R) = (ocE (z7.zu K) ++ J) ++ fgP x :: ocE (z7.zu R) by simp, show ((K.length + (J ++ [fgP x]).length : Nat) : Int) = ((K.length + J.length : Nat) : Int) + 1 by simp; omega] at IH
   refine ⟨J', hJ1, by simpa using hJ2, ?_⟩
   simp only [Bool.not_true, Bool.false_eq_true, if_false]
   obtain ⟨hP1, hP2, _⟩ := hPr
   obtain ⟨hB1, hB2, _⟩ := hBr
   have hg := fun y => vQ (ocE (z7.zu K) ++ J) (ocE (z7.zu R)) y (K.length + J.length) hPl
   have hs := fun y z => vk (ocE (z7.zu K) ++ J) (ocE (z7.zu R)) y z (K.length + J.length) hPl
   obtain ⟨name, version, source, sums, dev, zE⟩ := x
   simp only [fgP, z7.enc, List.map_cons, List.map_nil] at d1 IH hf1 hf2 hs1 hs2 ⊢
   clear hJ hlen hJr hJ1 hJ2 hp hR
   generalize ocE (z7.zu (K ++ R.filter fun x => !p x)) ++ J' = Z at *
   generalize (K ++ R.filter fun x => !p x).length = zl at *
   generalize ocE (z7.zu K) ++ J = P at *
   generalize ocE (z7.zu R) = B at *
   generalize zD.zu sums = es1 at *
   generalize strs zE = es2 at *
   have hk1 := List.take_of_length_le (Nat.le_of_eq hs1)
   have hk2 := List.take_of_length_le (Nat.le_of_eq hs2)
   generalize sums.length = n1 at *
   generalize zE.length = n2 at *
   generalize K.length = kl at *
   generalize hkj : kl + J.length = kj at *
   refine zi Tryz.func106 rfl rfl ?_
   simp (disch := ((try simp only [LL]); omega)) only [↓GO, ↓DRW, GA, GX, ren, zm, za, refs, z8, cst, zq, isC, bin, una, z6, zd, blt, asArg, zf, zc, zg, z1, E.mkS, unN, ze, zn, zb, GS, simprocAttr, zR, zS, xT, xK, xR, xQ, xU, gh1, xJ, xr, xA, ym, mkO, xB, xt, yJ, xS, zX, xI, xG, yx, oc, oTs, oT, yf, yf.rowTs, xy, isL, Bool.not_false, Bool.true_and, Bool.and_true, Bool.and_self, List.flatMap_append, List.map_append, List.set_cons_zero, List.set_cons_succ, GZ, c, c0, c00, if_true, Int.toNat_natCast, hg, hs, hf1, hf2, hs1, hs2, hk1, hk2, d1, hP1, hP2, hB1, hB2, zj, Bool.not_true, zL, IH]
  | false =>
   rw [q] at d1
   obtain ⟨j0, Jt, rfl⟩ : ∃ j0 Jt, J = j0 :: Jt := by cases J with | nil => simp at hJ | cons a t => exact ⟨a, t, rfl⟩
   have hJt := X3 hJr
   obtain ⟨J', hJ1, hJ2, IH⟩ := dJ g cell p l hl hp n hn cap R (K ++ [x]) (Jt ++ [fgP x]) (fun y hy => hR y (by simp [hy])) (by simp) (uX hJt (Wz x)) (by simp at hlen ⊢; omega)
   rw [show ocE (z7.zu (K ++ [x])) ++ (Jt ++ [fgP x]) ++ ocE (z7.zu R) = (ocE (z7.zu K) ++ [V.t (.str x.name), .t (.str x.version), .t (.str x.source), .o (.list 2 (zD.zu x.sums)), .t (.bool x.dev), .o (.list 1 (strs x.zE))] :: Jt) ++ fgP x :: ocE (z7.zu R) by rw [nN, show ocE (z7.zu [x]) = [[V.t (.str x.name), .t (.str x.version), .t (.str x.source), .o (.list 2 (zD.zu x.sums)), .t (.bool x.dev), .o (.list 1 (strs x.zE))]] from rfl]; simp,
    show ((K ++ [x]).length : Int) = (K.length : Int) + 1 by simp, show (((K ++ [x]).length + (Jt ++ [fgP x]).length : Nat) : Int) = ((K.length + (j0 :: Jt).length : Nat) : Int) + 1 by simp; omega] at IH
   refine ⟨J', hJ1, by simpa using hJ2, ?_⟩
   simp only [Bool.not_false, if_true]
   rw [show K ++ x :: R.filter (fun x => !p x) = (K ++ [x]) ++ R.filter fun x => !p x by simp]
   have hj1 : refs.refss j0 = [] := by have := hJr.1; rw [List.flatMap_cons, List.append_eq_nil_iff] at this; exact this.1
   have hj2 : ∀ f, ren.rens f j0 = j0 := fun f => by have := hJr.2.1 f; rw [List.map_cons] at this; exact (List.cons.inj this).1
   obtain ⟨hB1, hB2, _⟩ := hBr
   have hKl : (ocE (z7.zu K)).length = K.length := by rw [yQ, z7.zo]
   have hA := s9 K
   have hQl : ∀ z, (ocE (z7.zu K) ++ z :: Jt).length = K.length + (j0 :: Jt).length := fun z => by simp [yQ, z7.zo]
   have hg3 := fun z y => vQ (ocE (z7.zu K) ++ z :: Jt) (ocE (z7.zu R)) y (K.length + (j0 :: Jt).length) (hQl z)
   have hs4 := fun z y y' => vk (ocE (z7.zu K) ++ z :: Jt) (ocE (z7.zu R)) y y' (K.length + (j0 :: Jt).length) (hQl z)
   have hs2' : ∀ y z, (ocE (z7.zu K) ++ j0 :: Jt ++ y :: ocE (z7.zu R)).set K.length z = (ocE (z7.zu K) ++ z :: Jt) ++ y :: ocE (z7.zu R) := fun y z => by
    rw [List.append_assoc, List.cons_append, vk _ _ _ _ _ hKl, List.append_assoc, List.cons_append]
   have hg2' : ∀ y z, ((ocE (z7.zu K) ++ z :: Jt) ++ y :: ocE (z7.zu R))[K.length]? = some z := fun y z => by rw [List.append_assoc, List.cons_append]; exact vQ _ _ _ _ hKl
   have hs3' : ∀ y z z', ((ocE (z7.zu K) ++ z :: Jt) ++ y :: ocE (z7.zu R)).set K.length z' = (ocE (z7.zu K) ++ z' :: Jt) ++ y :: ocE (z7.zu R) := fun y z z' => by
    rw [List.append_assoc, List.cons_append, vk _ _ _ _ _ hKl, List.append_assoc, List.cons_append]
   obtain ⟨Q, hQ⟩ : ∃ Q : List V → List (List V), ∀ z, Q z = ocE (z7.zu K) ++ z :: Jt := ⟨_, fun _ => rfl⟩
   have hQ1 : ∀ z, (Q z).flatMap refs.refss = refs.refss z := fun z => by rw [hQ, List.flatMap_append, List.flatMap_cons, hA.1, hJt.1]; simp
   have hQ2 : ∀ z f, (Q z).map (ren.rens f) = Q (ren.rens f z) := fun z f => by rw [hQ, hQ, List.map_append, List.map_cons, hA.2.1, hJt.2.1]
   have hj0l : j0.length = 6 := hJr.2.2 j0 (by simp)
   have hj6 : 6 ≤ j0.length := by omega
   have hd6 : j0.drop 6 = [] := List.drop_of_length_le (by omega)
   clear hj0l
   simp only [← hQ] at hg3 hs4 hs2' hg2' hs3' IH ⊢
   clear hQ hQl hJt hA hKl hPr hPl
   obtain ⟨name, version, source, sums, dev, zE⟩ := x
   simp only [fgP, z7.enc, List.map_cons, List.map_nil] at d1 IH hf1 hf2 hs1 hs2 ⊢
   clear hJ hlen hJr hJ1 hJ2 hp hR
   generalize ocE (z7.zu ((K ++ [z7.mk name version source sums dev zE]) ++ R.filter fun x => !p x)) ++ J' = Z at *
   generalize ((K ++ [z7.mk name version source sums dev zE]) ++ R.filter fun x => !p x).length = zl at *
   generalize ocE (z7.zu R) = B at *
   generalize zD.zu sums = es1 at *
   generalize strs zE = es2 at *
   have hk1 := List.take_of_length_le (Nat.le_of_eq hs1)
   have hk2 := List.take_of_length_le (Nat.le_of_eq hs2)
   generalize sums.length = n1 at *
   generalize zE.length = n2 at *
   generalize K.length = kl at *
   generalize hkj : kl + (j0 :: Jt).length = kj at *
   have hkk : ¬ (kl = kj) := by rw [← hkj]; simp
   refine zi Tryz.func106 rfl rfl ?_
   simp (maxSteps := 1000000) (disch := ((try simp only [LL]); omega)) only [↓GO, ↓DRW, GA, GX, ren, zm, za, refs, z8, cst, zq, isC, bin, una, z6, zd, blt, asArg, zf, zc, zg, z1, E.mkS, unN, ze, zn, zb, GS, simprocAttr, zR, zS, xT, xK, xR, xQ, xU, gh1, xJ, xr, xA, ym, mkO, xB, xt, yJ, xS, zX, xI, xG, yx, oc, oTs, oT, yf, yf.rowTs, xy, isL, Bool.not_false, Bool.true_and, Bool.and_true, Bool.and_self, List.flatMap_append, List.map_append, List.set_cons_zero, List.set_cons_succ, GZ, c, c0, c00, c1, c11, c2, if_true, Int.toNat_natCast, hg2', hs3', hg3, hs4, hQ1, hQ2, hj1, hj2, hj6, hd6, hf1, hf2, hs1, hs2, hk1, hk2, d1, hB1, hB2, zj, Bool.not_false, zL, IH]
theorem TJ (g : Nat) (cell : T) (p : z7 → Bool) (l : List z7) (hl : l.length ≤ 1048576) (hp : ∀ x ∈ l, zk (EV Tryz.prog pol) g (.agg (x.enc.map .t) :: [.t (.fp [cell])]) = some (.t (.bool (p x)))) (n : Nat) (hn : n = l.length) (cap : Option Nat) :
 ∃ J', noR J' ∧ (l.filter fun x => !p x).length + J'.length = l.length ∧
 EV Tryz.prog pol (.callO false 106 [.sl 0 0 n cap, .fn g [.ptr 1 0 0]] [.vs 6 (ocE (z7.zu l)), .vs 1 [[.t cell]]])
  = some (.call (.sl 0 0 (l.filter fun x => !p x).length cap) [.vs 6 (ocE (z7.zu (l.filter fun x => !p x)) ++ J'), .vs 1 [[.t cell]]]) := by
 have d1 := tI g [.fp [cell]] p l (by omega) hp
 have ht : (ocE (z7.zu l)).take n = ocE (z7.zu l) := List.take_of_length_le (by rw [yQ, z7.zo]; omega)
 have f2 := uJ l
 cases hf : vA p l 0 with
 | none =>
  rw [hf] at d1
  have hw := VX p l hf
  refine ⟨[], jk, by rw [hw]; simp, ?_⟩
  rw [hw, List.append_nil, ← hn]
  simp only [ixI] at d1
  refine yd Tryz.func106 rfl (by kernel_rfl) ?_
  unfold Tryz.f106
  simp (disch := ((try simp only [LL]); omega)) only [↓GO, ↓DRW, GA, GX, ren, zm, za, refs, z8, cst, zq, isC, bin, una, z6, zd, blt, asArg, zf, zc, zg, z1, E.mkS, unN, ze, zn, zb, GS, simprocAttr, zR, zS, xT, xK, xR, xQ, xU, gh1, xJ, xr, xA, ym, mkO, xB, xt, yJ, xS, zX, xI, xG, yx, oc, oTs, oT, yf, yf.rowTs, xy, isL, Bool.not_false, Bool.true_and, Bool.and_true, Bool.and_self, List.flatMap_append, List.map_append, List.set_cons_zero, List.set_cons_succ, GZ, d1, u5, ht, f2, q9, yA, yj, List.drop_zero, beq_self_eq_true, zL]
 | some i =>
  rw [hf] at d1
  obtain ⟨pre, x, post, e1, e2, e3, e4⟩ := nk _ l 0 i hf
  simp only [Nat.zero_add] at e2
  have hw : (l.filter fun x => !p x) = pre ++ post.filter fun x => !p x := by
   rw [e1, List.filter_append, List.filter_cons, e3]
   simp only [Bool.not_true, Bool.false_eq_true, if_false]
   congr 1
   exact List.filter_eq_self.2 fun y hy => by rw [e4 y hy]; rfl
  have hlen : pre.length + 1 + post.length = l.length := by have h9 := congrArg List.length e1; simp at h9; omega
  have hmap : Option.map (fun x : Nat => x) cap = cap := by cases cap <;> rfl
  obtain ⟨J', hJr, hJ', L⟩ := dJ g cell p l hl hp n hn cap post pre (ocE (z7.zu [x])) (fun y hy => by rw [e1]; simp [hy]) (by rw [yQ, z7.zo]; exact Nat.le_refl _) (s9 _) (by rw [yQ, z7.zo]; simpa using hlen)
  rw [← nN, ← nN, show pre ++ [x] ++ post = l by rw [e1]; simp, show ((pre.length + (ocE (z7.zu [x])).length : Nat) : Int) = (pre.length : Int) + 1 by rw [yQ, z7.zo]; rfl, e2] at L
  have c0 : ((i : Int) == -1) = false := by rw [beq_eq_false_iff_ne]; omega
  rw [← hw] at L hJ'
  have hwl : (l.filter fun x => !p x).length ≤ n := by omega
  generalize hZ : (l.filter fun x => !p x) = Z at *
  have hZl : (ocE (z7.zu Z)).length = Z.length := by rw [yQ, z7.zo]
  have htk : (ocE (z7.zu Z) ++ J').take Z.length = ocE (z7.zu Z) := by rw [← hZl]; simp
  have hdk : (ocE (z7.zu Z) ++ J').drop (Z.length + (n - Z.length)) = [] := List.drop_of_length_le (by rw [List.length_append, hZl]; omega)
  have hEl : (ocE (z7.zu Z) ++ J').length = n := by rw [List.length_append, hZl, hn]; exact hJ'
  have hE := uX (s9 Z) hJr
  obtain ⟨h1, h2, _⟩ := hE
  refine ⟨List.replicate (n - Z.length) zPk, UP _, by rw [List.length_replicate]; omega, ?_⟩
  obtain ⟨h3, h4, _⟩ := uX (s9 Z) (UP (n - Z.length))
  have hil : i ≤ 1048576 := by omega
  have hnl : n ≤ 1048576 := by omega
  simp only [ixI] at d1
  clear hw hJ' e1 hf e4 e3 hlen hp hl
  have c1 : Z.length + (n - Z.length) ≤ n := by omega
  simp only [zPk] at h3 h4 ⊢
  generalize ocE (z7.zu Z) ++ J' = E1 at *
  generalize ocE (z7.zu Z) = E2 at *
  refine yd Tryz.func106 rfl (by kernel_rfl) ?_
  unfold Tryz.f106
  simp (disch := ((try simp only [LL]); omega)) only [↓GO, ↓DRW, GA, GX, ren, zm, za, refs, z8, cst, zq, isC, bin, una, z6, zd, blt, asArg, zf, zc, zg, z1, E.mkS, unN, ze, zn, zb, GS, simprocAttr, zR, zS, xT, xK, xR, xQ, xU, gh1, xJ, xr, xA, ym, mkO, xB, xt, yJ, xS, zX, xI, xG, yx, oc, oTs, oT, yf, yf.rowTs, xy, isL, Bool.not_false, Bool.true_and, Bool.and_true, Bool.and_self, List.flatMap_append, List.map_append, List.set_cons_zero, List.set_cons_succ, GZ, d1, u5, ht, f2, q9, yA, yj, List.drop_zero, c0, L, hEl, htk, hdk, h1, h2, h3, h4, zj, List.append_nil, zL, Nat.zero_add, Nat.sub_zero, c1, and_self, if_true, List.append_assoc, hmap]
end Go.Proofs.YtijninlbpifonaaGreatDoor
/- What is reached is closed; graphs pruned, plain: both ways come to the same. Conditions: none. -/
namespace Go.Proofs.YtijninlbpifonaaGreatDoor
open E
set_option linter.unusedVariables false
set_option linter.unusedSimpArgs false
set_option maxRecDepth 100000
theorem mb (l : List Str) (s : Str) : ye l s = true ↔ s ∈ l := by simp [ye]
theorem qP (ps : List z7) (k : Str) : fZ ps k = (xW ps k).isSome := by
 unfold xW
 have h := qk (fun p => keyOf p == k) ps 0
 unfold fZ
 rw [← h]
 show (sO ps k).isSome = _
 cases hk : sO ps k with
 | none => rfl
 | some i =>
  obtain ⟨q, h1, _⟩ := qQ hk
  simp only [Option.isSome_some, h1]
/-- what is laid down stays, what waits and is there comes, all that these need comes -/
theorem vy (ps : List z7) : ∀ (n : Nat) (out w : List Str), w.length + muS ps out ≤ n →
 (∀ k ∈ out, k ∈ yg xh ps n out w) ∧ (∀ k ∈ w, (xW ps k).isSome = true → k ∈ yg xh ps n out w) ∧
 ((∀ k p m, k ∈ out → xW ps k = some p → m ∈ p.zE → (xW ps m).isSome = true → m ∈ out ∨ m ∈ w) →
  ∀ k p m, k ∈ yg xh ps n out w → xW ps k = some p → m ∈ p.zE → (xW ps m).isSome = true → m ∈ yg xh ps n out w)
 | 0, out, w, hn => by
  have hw : w = [] := List.eq_nil_of_length_eq_zero (by omega)
  subst hw
  rw [yg]
  exact ⟨fun k h => h, fun k h => by simp at h, fun hc k p m h1 h2 h3 h4 => (hc k p m h1 h2 h3 h4).elim id fun h => by simp at h⟩
 | n + 1, out, [], hn => by
  rw [yg]
  exact ⟨fun k h => h, fun k h => by simp at h, fun hc k p m h1 h2 h3 h4 => (hc k p m h1 h2 h3 h4).elim id fun h => by simp at h⟩
 | n + 1, out, k0 :: w, hn => by
  simp only [List.length_cons] at hn
  rw [yg]
  cases hf : xW ps k0 with
  | none =>
   obtain ⟨i1, i2, i3⟩ := vy ps n out w (by omega)
   refine ⟨i1, fun k hk hs => ?_, fun hc => i3 fun k p m h1 h2 h3 h4 => ?_⟩
   · rcases List.mem_cons.1 hk with rfl | hk
     · rw [hf] at hs; cases hs
     · exact i2 k hk hs
   · rcases hc k p m h1 h2 h3 h4 with h | h
     · exact .inl h
     · rcases List.mem_cons.1 h with rfl | h
       · rw [hf] at h4; cases h4
       · exact .inr h
  | some p0 =>
   simp only
   cases hc0 : ye out k0 with
   | true =>
    have hin := (mb out k0).1 hc0
    obtain ⟨i1, i2, i3⟩ := vy ps n out w (by omega)
    rw [cond_true]
    refine ⟨i1, fun k hk hs => ?_, fun hc => i3 fun k p m h1 h2 h3 h4 => ?_⟩
    · rcases List.mem_cons.1 hk with rfl | hk
      · exact i1 _ hin
      · exact i2 k hk hs
    · rcases hc k p m h1 h2 h3 h4 with h | h
      · exact .inl h
      · rcases List.mem_cons.1 h with rfl | h
        · exact .inl hin
        · exact .inr h
   | false =>
    obtain ⟨hp, hkp, _⟩ := tY hf
    have hmu := qh k0 out (xh out k0) (qn out k0) hc0 ps p0 hp hkp
    obtain ⟨i1, i2, i3⟩ := vy ps n (xh out k0) (w ++ p0.zE) (by rw [List.length_append]; omega)
    rw [cond_false]
    refine ⟨fun k hk => i1 k ((uw out k0 k).2 (.inl hk)), fun k hk hs => ?_, fun hc => i3 fun k p m h1 h2 h3 h4 => ?_⟩
    · rcases List.mem_cons.1 hk with rfl | hk
      · exact i1 _ ((uw out _ _).2 (.inr rfl))
      · exact i2 k (List.mem_append.2 (.inl hk)) hs
    · rcases (uw out k0 k).1 h1 with h1 | rfl
      · rcases hc k p m h1 h2 h3 h4 with h | h
        · exact .inl ((uw out k0 m).2 (.inl h))
        · rcases List.mem_cons.1 h with rfl | h
          · exact .inl ((uw out _ _).2 (.inr rfl))
          · exact .inr (List.mem_append.2 (.inl h))
      · rw [hf] at h2
        cases h2
        exact .inr (List.mem_append.2 (.inr h3))
theorem ep (ps : List z7) (w : List Str) : ∀ k ∈ w, (xW ps k).isSome = true → k ∈ yn ps w := (vy ps (w.length + muS ps []) [] w (Nat.le_refl _)).2.1
theorem mI (ps : List z7) (w : List Str) : ∀ k p m, k ∈ yn ps w → xW ps k = some p → m ∈ p.zE → (xW ps m).isSome = true → m ∈ yn ps w :=
 (vy ps (w.length + muS ps []) [] w (Nat.le_refl _)).2.2 fun k p m h => by simp at h
theorem rI (a s : Str) : wR (some a) s = Op.bytesLess a s := rfl
theorem pr (ps : List z7) : ∀ (o : Option Str) (l : List z7), xz ps o l = true → (l.Pairwise fun x y => Op.bytesLess (keyOf x) (keyOf y) = true) ∧ ∀ p ∈ l, wR o (keyOf p) = true
 | o, [], _ => ⟨List.Pairwise.nil, fun p hp => by simp at hp⟩
 | o, p :: r, h => by
  rw [xz] at h
  simp only [Bool.and_eq_true] at h
  obtain ⟨⟨_, h1, _⟩, h2⟩ := h
  obtain ⟨k1, k2⟩ := pr ps (some (keyOf p)) r h2
  refine ⟨List.pairwise_cons.2 ⟨fun q hq => by have := k2 q hq; rwa [rI] at this, k1⟩, fun q hq => ?_⟩
  rcases List.mem_cons.1 hq with rfl | hq
  · exact h1
  · have h3 := k2 q hq
    rw [rI] at h3
    cases o with
    | none => rfl
    | some a => rw [rI] at h1 ⊢; exact xL h1 h3
def Vg (l : List z7) : Prop := l.Pairwise fun x y => Op.bytesLess (keyOf x) (keyOf y) = true
theorem Vg.key : ∀ {l : List z7}, Vg l → ∀ p ∈ l, ∀ q ∈ l, keyOf p = keyOf q → p = q
 | [], _, p, hp, q, hq, e => by simp at hp
 | x :: r, h, p, hp, q, hq, e => by
  obtain ⟨h1, h2⟩ := List.pairwise_cons.1 h
  rcases List.mem_cons.1 hp with rfl | hp <;> rcases List.mem_cons.1 hq with rfl | hq
  · rfl
  · have := h1 q hq; rw [e, wo] at this; cases this
  · have := h1 p (by assumption); rw [e, wo] at this; cases this
  · exact Vg.key h2 p hp q hq e
theorem ie {g : zy} (h : yK g = true) : Vg g.packs := by
 unfold yK at h
 simp only [Bool.and_eq_true] at h
 exact (pr g.packs none g.packs h.1).1
theorem eE {ps : List z7} (h : Vg ps) {p : z7} (hp : p ∈ ps) : xW ps (keyOf p) = some p := by
 have hs : (xW ps (keyOf p)).isSome = true := by
  rw [← qP]
  unfold fZ
  rw [List.any_eq_true]
  exact ⟨p, hp, by simp⟩
 obtain ⟨q, hq⟩ := Option.isSome_iff_exists.1 hs
 obtain ⟨h1, h2, _⟩ := tY hq
 rw [hq, h.key q h1 p hp h2]
def o6 (keys : List Str) (p : z7) : z7 := ⟨p.name, p.version, p.source, p.sums, p.dev, p.zE.filter (ye keys)⟩
def xu (keys : List Str) (ps : List z7) : List z7 := (ps.filter fun p => ye keys (keyOf p)).map (o6 keys)
def bZ (g : zy) (keys : List Str) : zy := ⟨g.top.filter (ye keys), xu keys g.packs⟩
def wv (keys : List Str) (ps : List z7) : List z7 := ps.filter fun p => ye keys (keyOf p)
def wN (g : zy) : zy := cond (yK g) ⟨g.top, wv (yn g.packs g.top) g.packs⟩ g
theorem filter_all {α : Type} (f : α → Bool) : ∀ l : List α, (∀ x ∈ l, f x = true) → l.filter f = l := fun l h => List.filter_eq_self.2 h
theorem er {g : zy} (h : yK g = true) : bZ g (yn g.packs g.top) = wN g := by
 have hasc := ie h
 have hpk := mL h
 have htop : ∀ k ∈ g.top, fZ g.packs k = true := by
  have h' := h
  unfold yK at h'
  simp only [Bool.and_eq_true] at h'
  exact (rB g.packs none g.top h'.2.2).2.1
 unfold wN bZ
 rw [h, cond_true]
 congr 1
 · refine filter_all _ _ fun k hk => ?_
   rw [mb]
   exact ep _ _ k hk (by rw [← qP]; exact htop k hk)
 · unfold xu wv
   conv => rhs; rw [← List.map_id (g.packs.filter _)]
   refine List.map_congr_left fun p hp => ?_
   obtain ⟨hp1, hp2⟩ := List.mem_filter.1 hp
   have e : p.zE.filter (ye (yn g.packs g.top)) = p.zE := filter_all _ _ fun k hk => by
    rw [mb] at hp2 ⊢
    refine mI _ _ (keyOf p) p k hp2 (eE hasc hp1) hk ?_
    rw [← qP]
    exact (rB g.packs none p.zE (hpk p hp1).2).2.1 k hk
   unfold o6
   rw [e]
   rfl
end Go.Proofs.YtijninlbpifonaaGreatDoor

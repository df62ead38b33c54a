/- Joined: M9 B1 B2 B3 B4 B5 B6 P1 P2 I1 I2 V1 N1 V2 N0 N2 K1. Conditions: those of each lemma. -/
import Derived.Test.YtonbkdklidfmfaaGreatDoorlI
import Derived.Test.YtonbkdklidfmfaaGreatDoorlH
import Derived.Lib.SplitLaws
import Derived.Lib.ItoaMem
import Derived.Lib.AtoiAll
import Derived.Lib.Join
set_option linter.unusedVariables false
set_option linter.unusedSimpArgs false
namespace Go.Proofs.YtonbkdklidfmfaaGreatDoor
open E
set_option linter.unusedSimpArgs false
set_option linter.unusedVariables false
set_option maxRecDepth 100000
def zt : Tr := .mk 0 0 [] [] []
theorem Vk (k : Int) : EV Tryz.prog pol (.callO false 17 [.nil 1, .t (.int .i64 k)] []) = some (.call (.t (.int .i64 k)) []) := by
 have L : EV Tryz.prog pol (.loop 17 26 0 [.nil 1, .t (.int .i64 k), .t (.int .i64 0)] []) = some (.loop (.exit 0) [.t (.int .i64 k)] []) := by
  refine zk Tryz.func17 rfl rfl ?_
  simp (disch := ((try simp only [LL]); omega)) only [↓GO, ↓DRW, GA, GX, ren, zn, za, refs, z8, cst, zr, isC, bin, una, z7, zd, blt, asArg, zg, zc, zf, z6, E.mkS, unN, ze, zq, zb, GS, simprocAttr, GZ, Int.natCast_zero]
 refine zN Tryz.func17 rfl (by kernel_rfl) ?_
 unfold Tryz.f17
 simp (disch := ((try simp only [LL]); omega)) only [↓GO, ↓DRW, GA, GX, ren, zn, za, refs, z8, cst, zr, isC, bin, una, z7, zd, blt, asArg, zg, zc, zf, z6, E.mkS, unN, ze, zq, zb, GS, simprocAttr, GZ, L]
end Go.Proofs.YtonbkdklidfmfaaGreatDoor
/- Graphs laid anew, with memory of their own. Conditions: those of each lemma. -/
namespace Go.Proofs.YtonbkdklidfmfaaGreatDoor
open E
set_option linter.unusedSimpArgs false
set_option linter.unusedVariables false
set_option maxRecDepth 100000
theorem xo : ∀ l : List zy, vO (zy.zi l) = true
 | [] => rfl
 | x :: l => by
  have := xo l
  unfold vO zy.zi at this ⊢
  rw [List.map_cons, List.all_cons, this]; rfl
theorem uf : ∀ l : List z1, ((ocE (z1.zi l)).all fun c => zM.rowTs c) = true
 | [] => rfl
 | x :: l => by
  rw [show ocE (z1.zi (x :: l)) = x.enc.map oc :: ocE (z1.zi l) from rfl, List.all_cons, uf l]
  rfl
theorem uj (a : List z1) (x : z1) : z1.zi (a ++ [x]) = z1.zi a ++ [x.enc] := by simp [z1.zi]
theorem Yx (a b : List z1) : z1.zi (a ++ b) = z1.zi a ++ z1.zi b := by simp [z1.zi]
def zPk : List V := [.t (.str []), .t (.str []), .t (.str []), .nil 2, .t (.bool false), .nil 1]
theorem Vb (cs : List zy) (hl : cs.length ≤ 1048576) (hc : ∀ c ∈ cs, dW c) : EV Tryz.prog pol (.callO false 128 [.t (.list 2 (zy.zi cs))] []) = some (.call (.sl 0 0 cs.length (some cs.length)) [.ts 2 (zy.zi cs)]) := by
 refine zN Tryz.func128 rfl (by kernel_rfl) ?_
 unfold Tryz.f128
 have h1 : ¬ ((cs.length : Int) < 0) := by omega
 have h2 : ¬ (cs.length * 32 > 140737488355328) := by omega
 have h3 : ¬ (cs.length > 140737488355328) := by omega
 have hz : List.replicate cs.length [T.str [], .str []] = ua (zy.zi cs) Wl 0 := by rw [mH, zy.zj]; rfl
 have IH := eI cs hl hc cs.length 0 (by omega) (by omega)
 simp only [Int.natCast_zero] at IH
 simp (disch := omega) only [E.mkS, ↓GO, ↓DRW, GA, GX, ren, zn, za, refs, z8, cst, zr, isC, bin, una, z7, zd, blt, asArg, zg, zc, zf, z6, E.mkS, unN, ze, zq, zb, GS, simprocAttr, zy.zj, Int.toNat_natCast, h1, h2, h3, hz, IH, ne_eq, not_true_eq_false]
def TD (x : z1) : Prop := EV Tryz.prog pol (.callO false 93 [.agg (x.enc.map .t)] []) = some (.call (.agg [.t (.str x.name), .t (.str x.version), .t (.str x.source), .sl 0 0 x.sums.length (some x.sums.length), .t (.bool x.dev), .sl 1 0 x.zz.length (some x.zz.length)]) [.ts 2 (zy.zi x.sums), .ts 1 (strs x.zz)])
theorem Tf (x : z1) (ho : x.zV ≤ 1048576) : TD x := by
 obtain ⟨name, version, source, sums, dev, zz⟩ := x
 simp only [z1.zV] at ho
 have d1 := Vb sums (by omega) (fun c hc => SH c (by have := zy.yj hc; omega))
 have d2 := lv zz (by omega)
 simp only [TD, z1.enc, List.map_cons, List.map_nil]
 refine zN Tryz.func93 rfl (by kernel_rfl) ?_
 unfold Tryz.f93
 simp (disch := ((try simp only [LL]); omega)) only [↓GO, ↓DRW, GA, GX, ren, zn, za, refs, z8, cst, zr, isC, bin, una, z7, zd, blt, asArg, zg, zc, zf, z6, E.mkS, unN, ze, zq, zb, GS, simprocAttr, zD, zE, yK, yD, yI, yH, yL, gh1, yC, yr, yw, zO, mkO, yx, yt, y7, yJ, zI, yB, yA, y9, oc, oTs, oT, zM, zM.rowTs, yv, isL, Bool.not_false, Bool.true_and, Bool.and_true, Bool.and_self, List.flatMap_append, List.map_append, List.set_cons_zero, List.set_cons_succ, GZ, d1, d2, zF]
theorem UY (cs : List z1) (hl : cs.length ≤ 1048576) (hc : ∀ c ∈ cs, TD c) : ∀ (rest pre : List z1), cs = pre ++ rest →
 EV Tryz.prog pol (.loop 44 58 0 [.t (.list 6 (z1.zi cs)), .sl 0 0 cs.length (some cs.length), .t (.int .i64 (pre.length : Int))] [.vs 6 (ocE (z1.zi pre) ++ List.replicate rest.length zPk)])
  = some (.loop (.exit 0) [.sl 0 0 cs.length (some cs.length)] [.vs 6 (ocE (z1.zi cs))])
 | [], pre, hs => by
  have c : decide ((pre.length : Int) < (cs.length : Int)) = false := by simp [hs]
  have e : cs = pre := by simpa using hs
  have hA := zR (z1.zi pre)
  have hR := fun m => zZ m (z1.zi pre)
  simp only [List.length_nil, List.replicate_zero, List.append_nil]
  refine zk Tryz.func44 rfl rfl ?_
  simp (disch := ((try simp only [LL]); omega)) only [↓GO, ↓DRW, GA, GX, ren, zn, za, refs, z8, cst, zr, isC, bin, una, z7, zd, blt, asArg, zg, zc, zf, z6, E.mkS, unN, ze, zq, zb, GS, simprocAttr, zD, zE, yK, yD, yI, yH, yL, gh1, yC, yr, yw, zO, mkO, yx, yt, y7, yJ, zI, yB, yA, y9, oc, oTs, oT, zM, zM.rowTs, yv, isL, Bool.not_false, Bool.true_and, Bool.and_true, Bool.and_self, List.flatMap_append, List.map_append, List.set_cons_zero, List.set_cons_succ, GZ, z1.zj, c, hA, hR]
  rw [e]
 | x :: rest, pre, hs => by
  have c : decide ((pre.length : Int) < (cs.length : Int)) = true := by simp [hs]; omega
  have hget : (z1.zi cs)[pre.length]? = some x.enc := by rw [hs]; simp [z1.zi]
  have hlen : pre.length + rest.length + 1 ≤ cs.length := by rw [hs]; simp; omega
  have hcx := hc x (by rw [hs]; simp)
  have c0 : decide ((0 : Int) ≤ (pre.length : Int)) = true := by simp
  have c00 : (0 : Int) ≤ (pre.length : Int) := by omega
  have IH := UY cs hl hc rest (pre ++ [x]) (by rw [hs]; simp)
  rw [show ((pre ++ [x]).length : Int) = (pre.length : Int) + 1 by simp, uj, iN, tr, iM, List.append_assoc, List.cons_append, List.nil_append] at IH
  have hAl : (ocE (z1.zi pre)).length = pre.length := by rw [zT, z1.zj]
  have hA := zR (z1.zi pre)
  have hR := fun m => zZ m (z1.zi pre)
  have hB := l6 zPk rfl rest.length
  have hRB := fun m => az m zPk rfl rest.length
  rw [List.length_cons, List.replicate_succ]
  have hg1 := fun y => xJ (ocE (z1.zi pre)) (List.replicate rest.length zPk) y pre.length hAl
  have hs1 := fun y z => xw (ocE (z1.zi pre)) (List.replicate rest.length zPk) y z pre.length hAl
  clear hs
  obtain ⟨name, version, source, sums, dev, zz⟩ := x
  have hf1 := xo sums
  have hf2 := yp zz
  simp only [TD, z1.enc, List.map_cons, List.map_nil, oc] at hcx hget IH
  generalize ocE (z1.zi pre) = A at *
  generalize List.replicate rest.length zPk = B at *
  unfold zPk
  refine zk Tryz.func44 rfl rfl ?_
  simp (disch := ((try simp only [LL]); omega)) only [↓GO, ↓DRW, GA, GX, ren, zn, za, refs, z8, cst, zr, isC, bin, una, z7, zd, blt, asArg, zg, zc, zf, z6, E.mkS, unN, ze, zq, zb, GS, simprocAttr, zD, zE, yK, yD, yI, yH, yL, gh1, yC, yr, yw, zO, mkO, yx, yt, y7, yJ, zI, yB, yA, y9, oc, oTs, oT, zM, zM.rowTs, yv, isL, Bool.not_false, Bool.true_and, Bool.and_true, Bool.and_self, List.flatMap_append, List.map_append, List.set_cons_zero, List.set_cons_succ, GZ, z1.zj, zy.zj, c, c0, c00, if_true, Int.toNat_natCast, hget, hcx, hg1, hs1, hA, hR, hB, hRB, zo, hf1, hf2, IH, zh, zT, zZ, zR, zF]
theorem mP (cs : List z1) (hl : cs.length ≤ 1048576) (hc : ∀ c ∈ cs, TD c) : EV Tryz.prog pol (.callO false 44 [.t (.list 6 (z1.zi cs))] []) = some (.call (.sl 0 0 cs.length (some cs.length)) [.vs 6 (ocE (z1.zi cs))]) := by
 refine zN Tryz.func44 rfl (by kernel_rfl) ?_
 unfold Tryz.f44
 have h1 : ¬ ((cs.length : Int) < 0) := by omega
 have h2 : ¬ (cs.length * 104 > 140737488355328) := by omega
 have h3 : ¬ (cs.length > 140737488355328) := by omega
 have L := UY cs hl hc cs [] rfl
 simp only [List.length_nil, Int.natCast_zero, show z1.zi [] = [] from rfl, iM, List.nil_append] at L
 have hB := l6 zPk rfl cs.length
 have hRB := fun m => az m zPk rfl cs.length
 unfold zPk at L hB hRB
 simp (disch := ((try simp only [LL]); omega)) only [↓GO, ↓DRW, GA, GX, ren, zn, za, refs, z8, cst, zr, isC, bin, una, z7, zd, blt, asArg, zg, zc, zf, z6, E.mkS, unN, ze, zq, zb, GS, simprocAttr, zD, zE, yK, yD, yI, yH, yL, gh1, yC, yr, yw, zO, mkO, yx, yt, y7, yJ, zI, yB, yA, y9, oc, oTs, oT, zM, zM.rowTs, yv, isL, Bool.not_false, Bool.true_and, Bool.and_true, Bool.and_self, List.flatMap_append, List.map_append, List.set_cons_zero, List.set_cons_succ, GZ, z1.zj, Int.toNat_natCast, h1, h2, h3, L, hB, hRB, zZ, zR, ne_eq, not_true_eq_false, not_false_eq_true, zF]
def Ja (x : zx) : Prop := EV Tryz.prog pol (.callO false 9 [.agg (x.enc.map .t)] []) = some (.call (.agg [.sl 0 0 x.top.length (some x.top.length), .sl 1 0 x.packs.length (some x.packs.length)]) [.ts 1 (strs x.top), .vs 6 (ocE (z1.zi x.packs))])
theorem Qp (x : zx) (ho : x.zV ≤ 1048576) : Ja x := by
 obtain ⟨top, packs⟩ := x
 simp only [zx.zV] at ho
 have d1 := lv top (by omega)
 have d2 := mP packs (by omega) (fun c hc => Tf c (by have := z1.yj hc; omega))
 simp only [Ja, zx.enc, List.map_cons, List.map_nil]
 refine zN Tryz.func9 rfl (by kernel_rfl) ?_
 unfold Tryz.f9
 simp (disch := ((try simp only [LL]); omega)) only [↓GO, ↓DRW, GA, GX, ren, zn, za, refs, z8, cst, zr, isC, bin, una, z7, zd, blt, asArg, zg, zc, zf, z6, E.mkS, unN, ze, zq, zb, GS, simprocAttr, zD, zE, yK, yD, yI, yH, yL, gh1, yC, yr, yw, zO, mkO, yx, yt, y7, yJ, zI, yB, yA, y9, oc, oTs, oT, zM, zM.rowTs, yv, isL, Bool.not_false, Bool.true_and, Bool.and_true, Bool.and_self, List.flatMap_append, List.map_append, List.set_cons_zero, List.set_cons_succ, GZ, d1, d2, zZ, zR, zF]
/-- and as a value that nobody writes -/
def Jb (x : zx) : Prop := zm (EV Tryz.prog pol) 9 [.agg (x.enc.map .t)] = some (.agg (x.enc.map .t))
theorem Qq (x : zx) (ho : x.zV ≤ 1048576) : Jb x := by
 obtain ⟨top, packs⟩ := x
 simp only [zx.zV] at ho
 have d1 := lv top (by omega)
 have d2 := mP packs (by omega) (fun c hc => Tf c (by have := z1.yj hc; omega))
 have g := Tc (z1.zi packs)
 have ht : (z1.zi packs).take packs.length = z1.zi packs := by rw [← z1.zj packs]; simp
 have ht2 : (strs top).take top.length = strs top := by rw [← zh top]; simp
 simp only [Jb, zx.enc, List.map_cons, List.map_nil]
 apply zu
 refine zw rfl Tryz.func9 rfl (by kernel_rfl) ?_
 unfold Tryz.f9
 simp (disch := ((try simp only [LL]); omega)) only [↓GO, ↓DRW, GA, GX, ren, zn, za, refs, z8, cst, zr, isC, bin, una, z7, zd, blt, asArg, zg, zc, zf, z6, E.mkS, unN, ze, zq, zb, GS, simprocAttr, zD, zE, yK, yD, yI, yH, yL, gh1, yC, yr, yw, zO, mkO, yx, yt, y7, yJ, zI, yB, yA, y9, oc, oTs, oT, zM, zM.rowTs, yv, isL, Bool.not_false, Bool.true_and, Bool.and_true, Bool.and_self, List.flatMap_append, List.map_append, List.set_cons_zero, List.set_cons_succ, GZ, d1, d2, g, ht, ht2, zZ, zR, zF]
end Go.Proofs.YtonbkdklidfmfaaGreatDoor
/- Marks in graphs. Conditions: those of each lemma. -/
namespace Go.Proofs.YtonbkdklidfmfaaGreatDoor
open E
set_option linter.unusedSimpArgs false
set_option linter.unusedVariables false
set_option maxRecDepth 100000
def sn : Nat → Nat → List zy
 | 0, _ => []
 | n + 1, k => ⟨mkT k, mkT (k + 1)⟩ :: sn n (k + 2)
theorem lh : ∀ n k, (sn n k).length = n
 | 0, _ => rfl
 | n + 1, k => by rw [sn, List.length_cons, lh n (k + 2)]
theorem kT : ∀ n k, sn (n + 1) k = sn n k ++ [⟨mkT (k + 2 * n), mkT (k + 2 * n + 1)⟩]
 | 0, k => rfl
 | n + 1, k => by
  rw [sn, kT n (k + 2), sn, List.cons_append, show k + 2 + 2 * n = k + 2 * (n + 1) by omega]
theorem eN (cs : List zy) (hl : cs.length ≤ 4194304) (cap : Option Nat) (k : Nat) (hk : k ≤ 1073741824) : ∀ (rest pre : List zy), cs = pre ++ rest →
 EV Tryz.prog pol (.loop 102 26 1 [.sl 0 0 cs.length cap, .t (.int .i64 ((k + 2 * pre.length : Nat) : Int)), .t (.int .i64 (pre.length : Int))] [.ts 2 (zy.zi (sn pre.length k) ++ zy.zi rest)])
  = some (.loop (.exit 0) [.t (.int .i64 ((k + 2 * cs.length : Nat) : Int))] [.ts 2 (zy.zi (sn cs.length k))])
 | [], pre, hs => by
  have c : decide ((pre.length : Int) < (cs.length : Int)) = false := by simp [hs]
  have e : cs = pre := by simpa using hs
  simp only [show zy.zi [] = [] from rfl, List.append_nil]
  refine zk Tryz.func102 rfl rfl ?_
  simp (disch := ((try simp only [LL]); omega)) only [↓GO, ↓DRW, GA, GX, ren, zn, za, refs, z8, cst, zr, isC, bin, una, z7, zd, blt, asArg, zg, zc, zf, z6, E.mkS, unN, ze, zq, zb, GS, simprocAttr, GZ, c]
  rw [e]
 | x :: rest, pre, hs => by
  have c : decide ((pre.length : Int) < (cs.length : Int)) = true := by simp [hs]; omega
  have c0 : decide ((0 : Int) ≤ (pre.length : Int)) = true := by simp
  have c00 : (0 : Int) ≤ (pre.length : Int) := by omega
  have hlen : pre.length + rest.length + 1 ≤ cs.length := by rw [hs]; simp; omega
  have hm := lQ (k + 2 * pre.length) (by omega)
  have hm2 := lQ (k + 2 * pre.length + 1) (by omega)
  have IH := eN cs hl cap k hk rest (pre ++ [x]) (by rw [hs]; simp)
  rw [show (pre ++ [x]).length = pre.length + 1 by simp, kT, show zy.zi (sn pre.length k ++ [⟨mkT (k + 2 * pre.length), mkT (k + 2 * pre.length + 1)⟩]) = zy.zi (sn pre.length k) ++ [[.str (mkT (k + 2 * pre.length)), .str (mkT (k + 2 * pre.length + 1))]] by simp [zy.zi, zy.enc], List.append_assoc, List.cons_append, List.nil_append] at IH
  rw [show k + 2 * (pre.length + 1) = k + 2 * pre.length + 2 by omega] at IH
  have hAl : (zy.zi (sn pre.length k)).length = pre.length := by rw [zy.zj, lh]
  rw [show zy.zi (x :: rest) = [.str x.alg, .str x.bytes] :: zy.zi rest from rfl]
  have hg1 := fun y => xJ (zy.zi (sn pre.length k)) (zy.zi rest) y pre.length hAl
  have hs1 := fun y z => xw (zy.zi (sn pre.length k)) (zy.zi rest) y z pre.length hAl
  clear hs
  generalize zy.zi (sn pre.length k) = A at *
  generalize mkT (k + 2 * pre.length + 1) = mt2 at *
  generalize mkT (k + 2 * pre.length) = mt at *
  have hkp : k + 2 * pre.length ≤ 1082130432 := by omega
  generalize k + 2 * pre.length = kp at *
  have w : IntKind.i64.wrap ((kp : Int) + 1) = ((kp + 1 : Nat) : Int) := by rw [zo (by omega)]; omega
  have w1 : IntKind.i64.wrap (((kp + 1 : Nat) : Int) + 1) = ((kp + 2 : Nat) : Int) := by rw [zo (by omega)]; omega
  have w2 : IntKind.i64.wrap ((pre.length : Int) + 1) = ((pre.length + 1 : Nat) : Int) := by rw [zo (by omega)]; omega
  refine zk Tryz.func102 rfl rfl ?_
  simp (disch := ((try simp only [LL]); omega)) only [↓GO, ↓DRW, GA, GX, ren, zn, za, refs, z8, cst, zr, isC, bin, una, z7, zd, blt, asArg, zg, zc, zf, z6, E.mkS, unN, ze, zq, zb, GS, simprocAttr, GZ, c, c0, c00, if_true, Int.toNat_natCast, hm, hm2, hg1, hs1, w, w1, w2, IH]
theorem Vl (cs : List zy) (hl : cs.length ≤ 4194304) (cap : Option Nat) (k : Nat) (hk : k ≤ 1073741824) (n : Nat) (hn : n = cs.length) :
 EV Tryz.prog pol (.callO false 102 [.sl 0 0 n cap, .t (.int .i64 (k : Int))] [.ts 2 (zy.zi cs)]) = some (.call (.t (.int .i64 ((k + 2 * cs.length : Nat) : Int))) [.ts 2 (zy.zi (sn cs.length k))]) := by
 subst hn
 have L := eN cs hl cap k hk cs [] rfl
 simp only [List.length_nil, Int.natCast_zero, sn, show zy.zi [] = [] from rfl, List.nil_append, Nat.mul_zero, Nat.add_zero] at L
 refine zN Tryz.func102 rfl (by kernel_rfl) ?_
 unfold Tryz.f102
 simp (disch := ((try simp only [LL]); omega)) only [↓GO, ↓DRW, GA, GX, ren, zn, za, refs, z8, cst, zr, isC, bin, una, z7, zd, blt, asArg, zg, zc, zf, z6, E.mkS, unN, ze, zq, zb, GS, simprocAttr, GZ, L]
end Go.Proofs.YtonbkdklidfmfaaGreatDoor
/- Marks in packs and graphs. Conditions: those of each lemma. -/
namespace Go.Proofs.YtonbkdklidfmfaaGreatDoor
open E
set_option linter.unusedSimpArgs false
set_option linter.unusedVariables false
set_option maxRecDepth 100000
def dvB (k : Nat) : Bool := (((k % 3 : Nat) : Int) == 0)
def kh (x : z1) : Nat := 4 + 2 * x.sums.length + x.zz.length
def x9 : List z1 → Nat
 | [] => 0
 | x :: r => kh x + x9 r
def TB (k : Nat) (x : z1) : z1 := ⟨mkT k, mkT (k + 1), mkT (k + 2), sn x.sums.length (k + 3), dvB (k + 3 + 2 * x.sums.length), mkS x.zz.length (k + 3 + 2 * x.sums.length + 1)⟩
def xY : Nat → List z1 → List z1
 | _, [] => []
 | k, x :: r => TB k x :: xY (k + kh x) r
theorem kU : ∀ (k : Nat) (cs : List z1), (xY k cs).length = cs.length
 | k, [] => rfl
 | k, c :: cs => by simp [xY, kU _ cs]
theorem ou : ∀ a b : List z1, x9 (a ++ b) = x9 a + x9 b
 | [], b => by simp [x9]
 | c :: a, b => by simp only [List.cons_append, x9, ou a b]; omega
theorem kV : ∀ (k : Nat) (a b : List z1), xY k (a ++ b) = xY k a ++ xY (k + x9 a) b
 | k, [], b => by simp [xY, x9]
 | k, c :: a, b => by
  simp only [List.cons_append, xY, x9, kV _ a b]
  rw [show k + kh c + x9 a = k + (kh c + x9 a) by omega]
theorem SD (x : z1) : kh x ≤ 4 + 2 * x.zV := by simp only [kh, z1.zV]; omega
theorem dE : ∀ cs : List z1, x9 cs ≤ 4 * cs.length + 2 * z1.zK cs
 | [] => by simp [x9]
 | c :: cs => by
  have h1 := SD c
  have h2 := dE cs
  simp only [x9, z1.zK, List.length_cons]; omega
theorem Za (cs : List z1) (hl : cs.length ≤ 4194304) (hb : ∀ c ∈ cs, c.zV ≤ 4194304) (cap : Option Nat) (k : Nat) (hk : k + x9 cs ≤ 1073741824) : ∀ (rest pre : List z1), cs = pre ++ rest →
 EV Tryz.prog pol (.loop 59 26 1 [.sl 0 0 cs.length cap, .t (.int .i64 ((k + x9 pre : Nat) : Int)), .t (.int .i64 (pre.length : Int))] [.vs 6 (ocE (z1.zi (xY k pre)) ++ ocE (z1.zi rest))])
  = some (.loop (.exit 0) [.t (.int .i64 ((k + x9 cs : Nat) : Int))] [.vs 6 (ocE (z1.zi (xY k cs)))])
 | [], pre, hs => by
  have c : decide ((pre.length : Int) < (cs.length : Int)) = false := by simp [hs]
  have e : cs = pre := by simpa using hs
  have hA := zR (z1.zi (xY k pre))
  have hR := fun m => zZ m (z1.zi (xY k pre))
  simp only [show ocE (z1.zi []) = [] from rfl, List.append_nil]
  refine zk Tryz.func59 rfl rfl ?_
  simp (disch := ((try simp only [LL]); omega)) only [↓GO, ↓DRW, GA, GX, ren, zn, za, refs, z8, cst, zr, isC, bin, una, z7, zd, blt, asArg, zg, zc, zf, z6, E.mkS, unN, ze, zq, zb, GS, simprocAttr, zD, zE, yK, yD, yI, yH, yL, gh1, yC, yr, yw, zO, mkO, yx, yt, y7, yJ, zI, yB, yA, y9, oc, oTs, oT, zM, zM.rowTs, yv, isL, Bool.not_false, Bool.true_and, Bool.and_true, Bool.and_self, List.flatMap_append, List.map_append, List.set_cons_zero, List.set_cons_succ, GZ, c, hA, hR]
  rw [e]
 | x :: rest, pre, hs => by
  have c : decide ((pre.length : Int) < (cs.length : Int)) = true := by simp [hs]; omega
  have c0 : decide ((0 : Int) ≤ (pre.length : Int)) = true := by simp
  have c00 : (0 : Int) ≤ (pre.length : Int) := by omega
  have hlen : pre.length + rest.length + 1 ≤ cs.length := by rw [hs]; simp; omega
  have hcn : x9 cs = x9 pre + x9 (x :: rest) := by rw [hs, ou]
  have hbx := hb x (by rw [hs]; simp)
  have IH := Za cs hl hb cap k hk rest (pre ++ [x]) (by rw [hs]; simp)
  have e1 : xY k (pre ++ [x]) = xY k pre ++ [TB (k + x9 pre) x] := by rw [kV]; simp [xY]
  have e2 : x9 (pre ++ [x]) = x9 pre + kh x := by rw [ou]; simp [x9]
  rw [e1, e2, Yx, iN, show (pre ++ [x]).length = pre.length + 1 by simp] at IH
  simp only [x9] at hcn
  have hAl : (ocE (z1.zi (xY k pre))).length = pre.length := by rw [zT, z1.zj, kU]
  have hA := zR (z1.zi (xY k pre))
  have hR := fun m => zZ m (z1.zi (xY k pre))
  have hB := zR (z1.zi rest)
  have hRB := fun m => zZ m (z1.zi rest)
  rw [show ocE (z1.zi (x :: rest)) = x.enc.map oc :: ocE (z1.zi rest) from rfl]
  rw [show ocE (z1.zi [TB (k + x9 pre) x]) = [(TB (k + x9 pre) x).enc.map oc] from rfl] at IH
  have hg1 := fun y => xJ (ocE (z1.zi (xY k pre))) (ocE (z1.zi rest)) y pre.length hAl
  have hs1 := fun y z => xw (ocE (z1.zi (xY k pre))) (ocE (z1.zi rest)) y z pre.length hAl
  clear hs e1 e2
  have hkb : k + x9 pre + kh x ≤ 1073741824 := by omega
  rw [show k + (x9 pre + kh x) = k + x9 pre + kh x by omega] at IH
  generalize k + x9 pre = kp at *
  obtain ⟨name, version, source, sums, dev, zz⟩ := x
  simp only [z1.zV] at hbx
  simp only [kh] at hkb IH
  rw [show kp + (4 + 2 * sums.length + zz.length) = kp + 3 + 2 * sums.length + 1 + zz.length by omega] at IH
  have hmt0 := lQ kp (by omega)
  have hmt1 := lQ (kp + 1) (by omega)
  have hmt2 := lQ (kp + 2) (by omega)
  have hmm := Vl sums (by omega) none (kp + 3) (by omega) sums.length rfl
  have hms := iY zz (by omega) none (kp + 3 + 2 * sums.length + 1) (by omega) zz.length rfl
  have w0 : IntKind.i64.wrap ((kp : Int) + 1) = ((kp + 1 : Nat) : Int) := by rw [zo (by omega)]; omega
  have w1 : IntKind.i64.wrap (((kp + 1 : Nat) : Int) + 1) = ((kp + 2 : Nat) : Int) := by rw [zo (by omega)]; omega
  have w2 : IntKind.i64.wrap (((kp + 2 : Nat) : Int) + 1) = ((kp + 3 : Nat) : Int) := by rw [zo (by omega)]; omega
  have w3 : IntKind.i64.wrap ((pre.length : Int) + 1) = ((pre.length + 1 : Nat) : Int) := by rw [zo (by omega)]; omega
  have w4 : IntKind.i64.wrap (((kp + 3 + 2 * sums.length : Nat) : Int) + 1) = ((kp + 3 + 2 * sums.length + 1 : Nat) : Int) := by rw [zo (by omega)]; omega
  have e1 : (((kp + 3 + 2 * sums.length : Nat) : Int)).tmod 3 = (((kp + 3 + 2 * sums.length) % 3 : Nat) : Int) := (Int.ofNat_tmod _ 3).symm
  have hr3 : (kp + 3 + 2 * sums.length) % 3 < 3 := Nat.mod_lt _ (by omega)
  have hdv : ((((kp + 3 + 2 * sums.length) % 3 : Nat) : Int) == 0) = dvB (kp + 3 + 2 * sums.length) := rfl
  have hf1 := xo sums
  have hf2 := xo (sn sums.length (kp + 3))
  have hf3 := yp zz
  have hf4 := yp (mkS zz.length (kp + 3 + 2 * sums.length + 1))
  have hl1 := lh sums.length (kp + 3)
  have hl2 := vX zz.length (kp + 3 + 2 * sums.length + 1)
  simp only [TB, z1.enc, List.map_cons, List.map_nil, oc, List.append_assoc, List.cons_append, List.nil_append] at IH ⊢
  generalize sn sums.length (kp + 3) = mm at *
  generalize mkS zz.length (kp + 3 + 2 * sums.length + 1) = ms at *
  generalize mkT (kp + 2) = mt2 at *
  generalize mkT (kp + 1) = mt1 at *
  generalize mkT kp = mt0 at *
  generalize ocE (z1.zi (xY k pre)) = A at *
  generalize ocE (z1.zi rest) = B at *
  refine zk Tryz.func59 rfl rfl ?_
  simp (disch := ((try simp only [LL]); omega)) only [↓GO, ↓DRW, GA, GX, ren, zn, za, refs, z8, cst, zr, isC, bin, una, z7, zd, blt, asArg, zg, zc, zf, z6, E.mkS, unN, ze, zq, zb, GS, simprocAttr, zD, zE, yK, yD, yI, yH, yL, gh1, yC, yr, yw, zO, mkO, yx, yt, y7, yJ, zI, yB, yA, y9, oc, oTs, oT, zM, zM.rowTs, yv, isL, Bool.not_false, Bool.true_and, Bool.and_true, Bool.and_self, List.flatMap_append, List.map_append, List.set_cons_zero, List.set_cons_succ, GZ, c, c0, c00, if_true, Int.toNat_natCast, hmt0, hmt1, hmt2, hmm, hms, hg1, hs1, hA, hR, hB, hRB, w0, w1, w2, w3, w4, e1, hdv, hf1, hf2, hf3, hf4, hl1, hl2, zh, zy.zj, z1.zj, zT, zZ, zR, IH, zF]
theorem Vm (cs : List z1) (hb : cs.length + z1.zK cs ≤ 4194304) (cap : Option Nat) (k : Nat) (hk : k + x9 cs ≤ 1073741824) (n : Nat) (hn : n = cs.length) :
 EV Tryz.prog pol (.callO false 59 [.sl 0 0 n cap, .t (.int .i64 (k : Int))] [.vs 6 (ocE (z1.zi cs))]) = some (.call (.t (.int .i64 ((k + x9 cs : Nat) : Int))) [.vs 6 (ocE (z1.zi (xY k cs)))]) := by
 subst hn
 have L := Za cs (by omega) (fun c hc => by have := z1.yj hc; omega) cap k hk cs [] rfl
 simp only [List.length_nil, Int.natCast_zero, xY, x9, show ocE (z1.zi []) = [] from rfl, List.nil_append, Nat.add_zero] at L
 refine zN Tryz.func59 rfl (by kernel_rfl) ?_
 unfold Tryz.f59
 simp (disch := ((try simp only [LL]); omega)) only [↓GO, ↓DRW, GA, GX, ren, zn, za, refs, z8, cst, zr, isC, bin, una, z7, zd, blt, asArg, zg, zc, zf, z6, E.mkS, unN, ze, zq, zb, GS, simprocAttr, zD, zE, yK, yD, yI, yH, yL, gh1, yC, yr, yw, zO, mkO, yx, yt, y7, yJ, zI, yB, yA, y9, oc, oTs, oT, zM, zM.rowTs, yv, isL, Bool.not_false, Bool.true_and, Bool.and_true, Bool.and_self, List.flatMap_append, List.map_append, List.set_cons_zero, List.set_cons_succ, GZ, L, zZ, zR, zF]
theorem SU (top : List Str) (cs : List z1) (ht : top.length ≤ 4194304) (hb : cs.length + z1.zK cs ≤ 4194304) (n1 n2 : Nat) (h1 : n1 = top.length) (h2 : n2 = cs.length) (p1 p2 : Option Nat) (k : Nat) (hk : k + top.length + x9 cs ≤ 1073741824) :
 EV Tryz.prog pol (.callO false 12 [.agg [.sl 0 0 n1 p1, .sl 1 0 n2 p2], .t (.int .i64 (k : Int))] [.ts 1 (strs top), .vs 6 (ocE (z1.zi cs))])
  = some (.call (.t (.int .i64 ((k + top.length + x9 cs : Nat) : Int))) [.ts 1 (strs (mkS top.length k)), .vs 6 (ocE (z1.zi (xY (k + top.length) cs)))]) := by
 subst h1 h2
 have d1 := iY top (by omega) p1 k (by omega) top.length rfl
 have d2 := Vm cs hb p2 (k + top.length) (by omega) cs.length rfl
 refine zN Tryz.func12 rfl (by kernel_rfl) ?_
 unfold Tryz.f12
 simp (disch := ((try simp only [LL]); omega)) only [↓GO, ↓DRW, GA, GX, ren, zn, za, refs, z8, cst, zr, isC, bin, una, z7, zd, blt, asArg, zg, zc, zf, z6, E.mkS, unN, ze, zq, zb, GS, simprocAttr, zD, zE, yK, yD, yI, yH, yL, gh1, yC, yr, yw, zO, mkO, yx, yt, y7, yJ, zI, yB, yA, y9, oc, oTs, oT, zM, zM.rowTs, yv, isL, Bool.not_false, Bool.true_and, Bool.and_true, Bool.and_self, List.flatMap_append, List.map_append, List.set_cons_zero, List.set_cons_succ, GZ, d1, d2, zZ, zR, zF]
end Go.Proofs.YtonbkdklidfmfaaGreatDoor
/- Marks in packs and graphs found again. Conditions: those of each lemma. -/
namespace Go.Proofs.YtonbkdklidfmfaaGreatDoor
open E
set_option linter.unusedSimpArgs false
set_option linter.unusedVariables false
set_option maxRecDepth 100000
end Go.Proofs.YtonbkdklidfmfaaGreatDoor
/- Graphs copied, by both. Conditions: those of each lemma. -/
namespace Go.Proofs.YtonbkdklidfmfaaGreatDoor
open E
set_option linter.unusedSimpArgs false
set_option linter.unusedVariables false
set_option maxRecDepth 100000
theorem gr (x : z1) (ho : x.zV ≤ 1048576) : zm (EV Tryz.prog pol) 69 [.agg (x.enc.map .t)] = some (.agg (x.enc.map .t)) := by
 obtain ⟨name, version, source, sums, dev, zz⟩ := x
 simp only [z1.zV] at ho
 have ht : (zy.zi sums).take sums.length = zy.zi sums := by rw [← zy.zj sums]; simp
 have ht2 : (strs zz).take zz.length = strs zz := by rw [← zh zz]; simp
 simp only [z1.enc, List.map_cons, List.map_nil]
 apply zu
 refine zw rfl Tryz.func69 rfl (by kernel_rfl) ?_
 unfold Tryz.f69
 simp (disch := ((try simp only [LL]); omega)) only [↓GO, ↓DRW, GA, GX, ren, zn, za, refs, z8, cst, zr, isC, bin, una, z7, zd, blt, asArg, zg, zc, zf, z6, E.mkS, unN, ze, zq, zb, GS, simprocAttr, GZ, ht, ht2, zh, zy.zj, zF, yY]
def zG : List V := [.nil 1, .nil 6]
theorem T5 (top : List Str) (cs : List z1) (hl : cs.length ≤ 1048576) (hkl : top.length ≤ 1048576) (hb : ∀ c ∈ cs, c.zV ≤ 1048576) : ∀ (rest pre : List z1) (m : Nat), cs = pre ++ rest → m = pre.length →
 EV Tryz.prog pol (.loop 38 58 0 [.ptr 0 0 0, .ptr 1 0 0, .ptr 2 0 0, .t (.int .i64 (pre.length : Int))] [.vs 2 [[.t (.list 1 (strs top)), .t (.list 6 (z1.zi cs))]], .vs 2 [zG], .vs 2 [[.sl 3 0 top.length none, .sl 4 0 m none]], .ts 1 (strs top), .ts 6 (z1.zi pre)])
  = some (.loop (.exit 0) [.ptr 0 0 0, .ptr 1 0 0] [.vs 2 [zG], .vs 2 [[.sl 2 0 top.length none, .sl 3 0 cs.length none]], .ts 1 (strs top), .ts 6 (z1.zi cs)])
 | [], pre, m, hs, hm => by
  have c : decide ((pre.length : Int) < (cs.length : Int)) = false := by simp [hs]
  have e : cs = pre := by simpa using hs
  simp only [zG]
  refine zk Tryz.func38 rfl rfl ?_
  simp (disch := ((try simp only [LL]); omega)) only [↓GO, ↓DRW, GA, GX, ren, zn, za, refs, z8, cst, zr, isC, bin, una, z7, zd, blt, asArg, zg, zc, zf, z6, E.mkS, unN, ze, zq, zb, GS, simprocAttr, GZ, c, z1.zj, zF]
  rw [hm, ← e]
 | x :: rest, pre, m, hs, hm => by
  have c : decide ((pre.length : Int) < (cs.length : Int)) = true := by simp [hs]; omega
  have c0 : decide ((0 : Int) ≤ (pre.length : Int)) = true := by simp
  have hget : (z1.zi cs)[pre.length]? = some x.enc := by rw [hs]; simp [z1.zi]
  have hlen : pre.length + rest.length + 1 ≤ cs.length := by rw [hs]; simp; omega
  have hcx := gr x (hb x (by rw [hs]; simp))
  have IH := T5 top cs hl hkl hb rest (pre ++ [x]) (m + 1) (by rw [hs]; simp) (by simp [hm])
  rw [uj, show ((pre ++ [x]).length : Int) = (pre.length : Int) + 1 by simp] at IH
  have hol : (z1.zi pre).length = m := by rw [z1.zj, hm]
  have hml : m ≤ 1048576 := by omega
  clear hs
  obtain ⟨name, version, source, sums, dev, zz⟩ := x
  simp only [z1.enc, List.map_cons, List.map_nil, zG] at hcx hget IH ⊢
  generalize z1.zi pre = A at *
  refine zk Tryz.func38 rfl rfl ?_
  simp (disch := ((try simp only [LL]); omega)) only [↓GO, ↓DRW, GA, GX, ren, zn, za, refs, z8, cst, zr, isC, bin, una, z7, zd, blt, asArg, zg, zc, zf, z6, E.mkS, unN, ze, zq, zb, GS, simprocAttr, GZ, c, c0, z1.zj, hget, hcx, zo, hol, IH, zF, yY]
  refine yQ (by kernel_rfl) ?_
  rfl
end Go.Proofs.YtonbkdklidfmfaaGreatDoor
/- Graphs copied by the implementation. Conditions: those of each lemma. -/
namespace Go.Proofs.YtonbkdklidfmfaaGreatDoor
open E
set_option linter.unusedSimpArgs false
set_option linter.unusedVariables false
set_option maxRecDepth 100000
theorem T6 (top : List Str) (cs : List z1) (hl : cs.length ≤ 1048576) (hkl : top.length ≤ 1048576) (hb : ∀ c ∈ cs, c.zV ≤ 1048576) : ∀ (rest pre : List z1) (m : Nat), cs = pre ++ rest → m = pre.length →
 EV Tryz.prog pol (.loop 45 58 0 [.ptr 0 0 0, .ptr 1 0 0, .t (.list 6 (z1.zi cs)), .t (.int .i64 (cs.length : Int)), .t (.int .i64 (pre.length : Int))] [.vs 2 [zG], .vs 2 [[.sl 2 0 top.length none, .sl 3 0 m none]], .ts 1 (strs top), .vs 6 (ocE (z1.zi pre))])
  = some (.loop (.exit 0) [.ptr 0 0 0, .ptr 1 0 0] [.vs 2 [zG], .vs 2 [[.sl 2 0 top.length none, .sl 3 0 cs.length none]], .ts 1 (strs top), .vs 6 (ocE (z1.zi cs))])
 | [], pre, m, hs, hm => by
  have c : decide ((pre.length : Int) < (cs.length : Int)) = false := by simp [hs]
  have e : cs = pre := by simpa using hs
  simp only [zG]
  refine zk Tryz.func45 rfl rfl ?_
  simp (disch := ((try simp only [LL]); omega)) only [↓GO, ↓DRW, GA, GX, ren, zn, za, refs, z8, cst, zr, isC, bin, una, z7, zd, blt, asArg, zg, zc, zf, z6, E.mkS, unN, ze, zq, zb, GS, simprocAttr, zD, zE, yK, yD, yI, yH, yL, gh1, yC, yr, yw, zO, mkO, yx, yt, y7, yJ, zI, yB, yA, y9, oc, oTs, oT, zM, zM.rowTs, yv, isL, Bool.not_false, Bool.true_and, Bool.and_true, Bool.and_self, List.flatMap_append, List.map_append, List.set_cons_zero, List.set_cons_succ, GZ, c, z1.zj, zZ, zR, zF]
  rw [hm, ← e]
 | x :: rest, pre, m, hs, hm => by
  have c : decide ((pre.length : Int) < (cs.length : Int)) = true := by simp [hs]; omega
  have c0 : decide ((0 : Int) ≤ (pre.length : Int)) = true := by simp
  have hget : (z1.zi cs)[pre.length]? = some x.enc := by rw [hs]; simp [z1.zi]
  have hlen : pre.length + rest.length + 1 ≤ cs.length := by rw [hs]; simp; omega
  have hbx := hb x (by rw [hs]; simp)
  have IH := T6 top cs hl hkl hb rest (pre ++ [x]) (m + 1) (by rw [hs]; simp) (by simp [hm])
  rw [uj, iN, show ((pre ++ [x]).length : Int) = (pre.length : Int) + 1 by simp] at IH
  have hol : (ocE (z1.zi pre)).length = m := by rw [zT, z1.zj, hm]
  have hml : m ≤ 1048576 := by omega
  have hA := zR (z1.zi pre)
  have hR := fun r => zZ r (z1.zi pre)
  have hm1 : m + 1 - 1 = m := by omega
  have hm0 : ¬ (m + 1 = 0) := by omega
  clear hs
  obtain ⟨name, version, source, sums, dev, zz⟩ := x
  simp only [z1.zV] at hbx
  have d1 := dH (zy.zi sums) (by rw [zy.zj]; omega)
  have d2 := tC (strs zz) (by rw [zh]; omega)
  rw [zy.zj] at d1
  rw [zh] at d2
  have hf1 := xo sums
  have hf2 := yp zz
  have hg1 := fun y => xJ (ocE (z1.zi pre)) [] y m hol
  have hs1 := fun y z => xw (ocE (z1.zi pre)) [] y z m hol
  have hle : ∀ y : List V, (ocE (z1.zi pre) ++ [y]).length = m + 1 := fun y => by simp [hol]
  simp only [z1.enc, List.map_cons, List.map_nil, zG, tr, iM, oc] at hget IH ⊢
  generalize ocE (z1.zi pre) = A at *
  refine zk Tryz.func45 rfl rfl ?_
  simp (disch := ((try simp only [LL]); omega)) only [↓GO, ↓DRW, GA, GX, ren, zn, za, refs, z8, cst, zr, isC, bin, una, z7, zd, blt, asArg, zg, zc, zf, z6, E.mkS, unN, ze, zq, zb, GS, simprocAttr, zD, zE, yK, yD, yI, yH, yL, gh1, yC, yr, yw, zO, mkO, yx, yt, y7, yJ, zI, yB, yA, y9, oc, oTs, oT, zM, zM.rowTs, yv, isL, Bool.not_false, Bool.true_and, Bool.and_true, Bool.and_self, List.flatMap_append, List.map_append, List.set_cons_zero, List.set_cons_succ, GZ, c, c0, z1.zj, zy.zj, hget, d1, d2, zo, hol, hA, hR, hm1, hm0, if_false, hg1, hs1, hle, hf1, hf2, zh, zT, zZ, zR, IH, zF, yY]
  refine yQ (by kernel_rfl) ?_
  rfl
theorem mR (top : List Str) (hkl : top.length ≤ 1048576) :
 EV Tryz.prog pol (.callO false 45 [.agg [.t (.list 1 (strs top)), .t (.list 6 [])]] []) = some (.call (.agg [.sl 0 0 top.length none, .nil 6]) [.ts 1 (strs top)]) := by
 have L : EV Tryz.prog pol (.loop 45 58 0 [.ptr 0 0 0, .ptr 1 0 0, .t (.list 6 []), .t (.int .i64 0), .t (.int .i64 0)] [.vs 2 [zG], .vs 2 [[.sl 2 0 top.length none, .nil 6]], .ts 1 (strs top)])
  = some (.loop (.exit 0) [.ptr 0 0 0, .ptr 1 0 0] [.vs 2 [zG], .vs 2 [[.sl 2 0 top.length none, .nil 6]], .ts 1 (strs top)]) := by
  simp only [zG]
  refine zk Tryz.func45 rfl rfl ?_
  simp (disch := ((try simp only [LL]); omega)) only [↓GO, ↓DRW, GA, GX, ren, zn, za, refs, z8, cst, zr, isC, bin, una, z7, zd, blt, asArg, zg, zc, zf, z6, E.mkS, unN, ze, zq, zb, GS, simprocAttr, zD, zE, yK, yD, yI, yH, yL, gh1, yC, yr, yw, zO, mkO, yx, yt, y7, yJ, zI, yB, yA, y9, oc, oTs, oT, zM, zM.rowTs, yv, isL, Bool.not_false, Bool.true_and, Bool.and_true, Bool.and_self, List.flatMap_append, List.map_append, List.set_cons_zero, List.set_cons_succ, GZ, zF]
 have d2 := tC (strs top) (by rw [zh]; omega)
 rw [zh] at d2
 simp only [zG] at L
 refine zN Tryz.func45 rfl (by kernel_rfl) ?_
 unfold Tryz.f45
 simp (disch := ((try simp only [LL]); omega)) only [↓GO, ↓DRW, GA, GX, ren, zn, za, refs, z8, cst, zr, isC, bin, una, z7, zd, blt, asArg, zg, zc, zf, z6, E.mkS, unN, ze, zq, zb, GS, simprocAttr, zD, zE, yK, yD, yI, yH, yL, gh1, yC, yr, yw, zO, mkO, yx, yt, y7, yJ, zI, yB, yA, y9, oc, oTs, oT, zM, zM.rowTs, yv, isL, Bool.not_false, Bool.true_and, Bool.and_true, Bool.and_self, List.flatMap_append, List.map_append, List.set_cons_zero, List.set_cons_succ, GZ, d2, L, List.length_nil, Int.natCast_zero, zh, zF, yY]
theorem ns (top : List Str) (x : z1) (rest : List z1) (hkl : top.length ≤ 1048576) (hl : (x :: rest).length ≤ 1048576) (hb : ∀ c ∈ x :: rest, c.zV ≤ 1048576) :
 EV Tryz.prog pol (.callO false 45 [.agg [.t (.list 1 (strs top)), .t (.list 6 (z1.zi (x :: rest)))]] []) = some (.call (.agg [.sl 0 0 top.length none, .sl 1 0 (x :: rest).length none]) [.ts 1 (strs top), .vs 6 (ocE (z1.zi (x :: rest)))]) := by
 have hbx := hb x (by simp)
 have L := T6 top (x :: rest) (by omega) (by omega) hb rest [x] 1 rfl rfl
 have L0 : EV Tryz.prog pol (.loop 45 58 0 [.ptr 0 0 0, .ptr 1 0 0, .t (.list 6 (z1.zi (x :: rest))), .t (.int .i64 ((x :: rest).length : Int)), .t (.int .i64 0)] [.vs 2 [zG], .vs 2 [[.sl 2 0 top.length none, .nil 6]], .ts 1 (strs top)])
  = some (.loop (.exit 0) [.ptr 0 0 0, .ptr 1 0 0] [.vs 2 [zG], .vs 2 [[.sl 2 0 top.length none, .sl 3 0 (x :: rest).length none]], .ts 1 (strs top), .vs 6 (ocE (z1.zi (x :: rest)))]) := by
  have c : decide ((0 : Int) < ((x :: rest).length : Int)) = true := by apply decide_eq_true; simp only [List.length_cons]; omega
  have hget : (z1.zi (x :: rest))[0]? = some x.enc := rfl
  rw [show ocE (z1.zi [x]) = [x.enc.map oc] from rfl] at L
  obtain ⟨name, version, source, sums, dev, zz⟩ := x
  simp only [z1.zV] at hbx
  have d1 := dH (zy.zi sums) (by rw [zy.zj]; omega)
  have d2 := tC (strs zz) (by rw [zh]; omega)
  rw [zy.zj] at d1
  rw [zh] at d2
  have hf1 := xo sums
  have hf2 := yp zz
  simp only [z1.enc, List.map_cons, List.map_nil, zG, List.length_cons, List.length_nil, Nat.zero_add, oc, Int.natCast_one] at hget L ⊢
  generalize hcs : z1.mk name version source sums dev zz :: rest = cs at *
  simp only [← List.length_cons (a := z1.mk name version source sums dev zz), hcs] at *
  refine zk Tryz.func45 rfl rfl ?_
  simp (disch := ((try simp only [LL]); omega)) only [↓GO, ↓DRW, GA, GX, ren, zn, za, refs, z8, cst, zr, isC, bin, una, z7, zd, blt, asArg, zg, zc, zf, z6, E.mkS, unN, ze, zq, zb, GS, simprocAttr, zD, zE, yK, yD, yI, yH, yL, gh1, yC, yr, yw, zO, mkO, yx, yt, y7, yJ, zI, yB, yA, y9, oc, oTs, oT, zM, zM.rowTs, yv, isL, Bool.not_false, Bool.true_and, Bool.and_true, Bool.and_self, List.flatMap_append, List.map_append, List.set_cons_zero, List.set_cons_succ, GZ, c, z1.zj, zy.zj, u6, hget, d1, d2, zo, Int.reduceAdd, if_false, hf1, hf2, L, zh, zF, yY, List.length_nil, Int.natCast_zero]
  refine yQ (by kernel_rfl) ?_
  rfl
 have d2 := tC (strs top) (by rw [zh]; omega)
 rw [zh] at d2
 clear L
 generalize x :: rest = cs at *
 simp only [zG] at L0
 refine zN Tryz.func45 rfl (by kernel_rfl) ?_
 unfold Tryz.f45
 simp (disch := ((try simp only [LL]); omega)) only [↓GO, ↓DRW, GA, GX, ren, zn, za, refs, z8, cst, zr, isC, bin, una, z7, zd, blt, asArg, zg, zc, zf, z6, E.mkS, unN, ze, zq, zb, GS, simprocAttr, zD, zE, yK, yD, yI, yH, yL, gh1, yC, yr, yw, zO, mkO, yx, yt, y7, yJ, zI, yB, yA, y9, oc, oTs, oT, zM, zM.rowTs, yv, isL, Bool.not_false, Bool.true_and, Bool.and_true, Bool.and_self, List.flatMap_append, List.map_append, List.set_cons_zero, List.set_cons_succ, GZ, d2, L0, zh, z1.zj, zZ, zR, zF, yY]
end Go.Proofs.YtonbkdklidfmfaaGreatDoor
/- Small tests on bytes and numbers; keys. Conditions: those of each lemma. -/
namespace Go.Proofs.YtonbkdklidfmfaaGreatDoor
open E
set_option linter.unusedSimpArgs false
set_option linter.unusedVariables false
set_option maxRecDepth 100000
theorem wM (a lo hi : Int) : zm (EV Tryz.prog pol) 46 [.t (.int .i64 a), .t (.int .i64 lo), .t (.int .i64 hi)] = some (.t (.bool (B2 a lo hi))) := by
 apply zu
 refine zw rfl Tryz.func46 rfl (by kernel_rfl) ?_
 unfold Tryz.f46
 unfold B2
 repeat' (first | (((first | with_reducible refine sj (fun hA => ?_) (fun hA => ?_) | with_reducible refine si (fun hA => ?_) (fun hA => ?_)) <;> (try simp only [bne, Bool.not_eq_true', Bool.not_eq_false'] at hA) <;> (first | (have hP := Int.le_of_eq (eq_of_beq (α := Int) hA); have hQ := Int.le_of_eq (eq_of_beq (α := Int) hA).symm) | have hP := of_decide_eq_true hA | have hP := of_decide_eq_false hA | skip)) <;> (simp (disch := ((try simp only [LL]); omega)) only [↓GO, ↓DRW, GA, GX, ren, zn, za, refs, z8, cst, zr, isC, bin, una, z7, zd, blt, asArg, zg, zc, zf, z6, E.mkS, unN, ze, zq, zb, GS, simprocAttr, zo, bne, *])) | (simp (disch := ((try simp only [LL]); omega)) only [↓GO, ↓DRW, GA, GX, ren, zn, za, refs, z8, cst, zr, isC, bin, una, z7, zd, blt, asArg, zg, zc, zf, z6, E.mkS, unN, ze, zq, zb, GS, simprocAttr, zo, bne, *]))
theorem wy (a lo hi : Int) : zm (EV Tryz.prog pol) 90 [.t (.int .i64 a), .t (.int .i64 lo), .t (.int .i64 hi)] = some (.t (.bool (B2 a lo hi))) := by
 apply zu
 refine zw rfl Tryz.func90 rfl (by kernel_rfl) ?_
 unfold Tryz.f90
 unfold B2
 repeat' (first | (((first | with_reducible refine sj (fun hA => ?_) (fun hA => ?_) | with_reducible refine si (fun hA => ?_) (fun hA => ?_)) <;> (try simp only [bne, Bool.not_eq_true', Bool.not_eq_false'] at hA) <;> (first | (have hP := Int.le_of_eq (eq_of_beq (α := Int) hA); have hQ := Int.le_of_eq (eq_of_beq (α := Int) hA).symm) | have hP := of_decide_eq_true hA | have hP := of_decide_eq_false hA | skip)) <;> (simp (disch := ((try simp only [LL]); omega)) only [↓GO, ↓DRW, GA, GX, ren, zn, za, refs, z8, cst, zr, isC, bin, una, z7, zd, blt, asArg, zg, zc, zf, z6, E.mkS, unN, ze, zq, zb, GS, simprocAttr, zo, bne, ge_iff_le, *])) | (simp (disch := ((try simp only [LL]); omega)) only [↓GO, ↓DRW, GA, GX, ren, zn, za, refs, z8, cst, zr, isC, bin, una, z7, zd, blt, asArg, zg, zc, zf, z6, E.mkS, unN, ze, zq, zb, GS, simprocAttr, zo, bne, ge_iff_le, *]))
theorem jE (a : Int) : zm (EV Tryz.prog pol) 156 [.t (.int .u8 a)] = some (.t (.bool (B2 a 97 122))) := by
 apply zu
 refine zw rfl Tryz.func156 rfl (by kernel_rfl) ?_
 unfold Tryz.f156
 unfold B2
 repeat' (first | (((first | with_reducible refine sj (fun hA => ?_) (fun hA => ?_) | with_reducible refine si (fun hA => ?_) (fun hA => ?_)) <;> (try simp only [bne, Bool.not_eq_true', Bool.not_eq_false'] at hA) <;> (first | (have hP := Int.le_of_eq (eq_of_beq (α := Int) hA); have hQ := Int.le_of_eq (eq_of_beq (α := Int) hA).symm) | have hP := of_decide_eq_true hA | have hP := of_decide_eq_false hA | skip)) <;> (simp (disch := ((try simp only [LL]); omega)) only [↓GO, ↓DRW, GA, GX, ren, zn, za, refs, z8, cst, zr, isC, bin, una, z7, zd, blt, asArg, zg, zc, zf, z6, E.mkS, unN, ze, zq, zb, GS, simprocAttr, zo, bne, ge_iff_le, *])) | (simp (disch := ((try simp only [LL]); omega)) only [↓GO, ↓DRW, GA, GX, ren, zn, za, refs, z8, cst, zr, isC, bin, una, z7, zd, blt, asArg, zg, zc, zf, z6, E.mkS, unN, ze, zq, zb, GS, simprocAttr, zo, bne, ge_iff_le, *]))
theorem oz (a : Int) : zm (EV Tryz.prog pol) 157 [.t (.int .u8 a)] = some (.t (.bool (B2 a 48 57))) := by
 apply zu
 refine zw rfl Tryz.func157 rfl (by kernel_rfl) ?_
 unfold Tryz.f157
 unfold B2
 repeat' (first | (((first | with_reducible refine sj (fun hA => ?_) (fun hA => ?_) | with_reducible refine si (fun hA => ?_) (fun hA => ?_)) <;> (try simp only [bne, Bool.not_eq_true', Bool.not_eq_false'] at hA) <;> (first | (have hP := Int.le_of_eq (eq_of_beq (α := Int) hA); have hQ := Int.le_of_eq (eq_of_beq (α := Int) hA).symm) | have hP := of_decide_eq_true hA | have hP := of_decide_eq_false hA | skip)) <;> (simp (disch := ((try simp only [LL]); omega)) only [↓GO, ↓DRW, GA, GX, ren, zn, za, refs, z8, cst, zr, isC, bin, una, z7, zd, blt, asArg, zg, zc, zf, z6, E.mkS, unN, ze, zq, zb, GS, simprocAttr, zo, bne, ge_iff_le, *])) | (simp (disch := ((try simp only [LL]); omega)) only [↓GO, ↓DRW, GA, GX, ren, zn, za, refs, z8, cst, zr, isC, bin, una, z7, zd, blt, asArg, zg, zc, zf, z6, E.mkS, unN, ze, zq, zb, GS, simprocAttr, zo, bne, ge_iff_le, *]))
theorem wrap_u8 (b : UInt8) : IntKind.i64.wrap (b.toNat : Int) = (b.toNat : Int) := by have := Tk b; exact zo (by omega)
theorem nr (b : UInt8) : zm (EV Tryz.prog pol) 149 [.t (.int .u8 (b.toNat : Int))] = some (.t (.bool (B2 (nb b) 97 122 || B2 (nb b) 48 57))) := by
 apply zu
 refine zw rfl Tryz.func149 rfl (by kernel_rfl) ?_
 unfold Tryz.f149
 have h1 := wy (b.toNat : Int) 97 122
 have h2 := wy (b.toNat : Int) 48 57
 repeat' (first | (((first | with_reducible refine sj (fun hA => ?_) (fun hA => ?_) | with_reducible refine si (fun hA => ?_) (fun hA => ?_)) <;> (try simp only [bne, Bool.not_eq_true', Bool.not_eq_false'] at hA) <;> (first | (have hP := Int.le_of_eq (eq_of_beq (α := Int) hA); have hQ := Int.le_of_eq (eq_of_beq (α := Int) hA).symm) | have hP := of_decide_eq_true hA | have hP := of_decide_eq_false hA | skip)) <;> (simp (disch := ((try simp only [LL]); omega)) only [↓GO, ↓DRW, GA, GX, ren, zn, za, refs, z8, cst, zr, isC, bin, una, z7, zd, blt, asArg, zg, zc, zf, z6, E.mkS, unN, ze, zq, zb, GS, simprocAttr, zo, bne, conv, wrap_u8, *])) | (simp (disch := ((try simp only [LL]); omega)) only [↓GO, ↓DRW, GA, GX, ren, zn, za, refs, z8, cst, zr, isC, bin, una, z7, zd, blt, asArg, zg, zc, zf, z6, E.mkS, unN, ze, zq, zb, GS, simprocAttr, zo, bne, conv, wrap_u8, *]))
theorem RD (f : Nat) (p : UInt8 → Bool) (hp : ∀ b : UInt8, zm (EV Tryz.prog pol) f [.t (.int .u8 (b.toNat : Int))] = some (.t (.bool (p b)))) (s : Str) (hl : s.length ≤ 9223372036854775807) : ∀ (rest pre : Str), s = pre ++ rest →
 EV Tryz.prog pol (.loop 154 26 0 [.t (.str s), .t (.fn f []), .t (.int .i64 (s.length : Int)), .t (.int .i64 (pre.length : Int))] []) = some (cond (rest.all p) (.loop (.exit 0) [.bad] []) (.loop .ret [.t (.bool false)] []))
 | [], pre, hs => by
  have c : decide ((pre.length : Int) < (s.length : Int)) = false := by simp [hs]
  refine zk Tryz.func154 rfl rfl ?_
  simp only [↓GO, ↓DRW, GA, GX, ren, zn, za, refs, z8, cst, zr, isC, bin, una, z7, zd, blt, asArg, zg, zc, zf, z6, E.mkS, unN, ze, zq, zb, GS, simprocAttr, c]
 | b :: rest, pre, hs => by
  have c : decide ((pre.length : Int) < (s.length : Int)) = true := by simp [hs]; omega
  have hget : s[pre.length]? = some b := by rw [hs]; exact sk pre b rest
  have hlen : s.length = pre.length + rest.length + 1 := by rw [hs]; simp; omega
  have e1 : (pre.length : Int) + 1 = ((pre ++ [b]).length : Int) := by simp
  have IH := RD f p hp s hl rest (pre ++ [b]) (by rw [hs]; simp)
  have hb := hp b
  refine zk Tryz.func154 rfl rfl ?_
  cases hpb : p b with
  | true =>
   rw [hpb] at hb
   simp (disch := omega) only [↓GO, ↓DRW, GA, GX, ren, zn, za, refs, z8, cst, zr, isC, bin, una, z7, zd, blt, asArg, zg, zc, zf, z6, E.mkS, unN, ze, zq, zb, GS, simprocAttr, c, hget, zo, hb]
   rw [e1, IH, hpb, Bool.true_and]
  | false =>
   rw [hpb] at hb
   simp (disch := omega) only [↓GO, ↓DRW, GA, GX, ren, zn, za, refs, z8, cst, zr, isC, bin, una, z7, zd, blt, asArg, zg, zc, zf, z6, E.mkS, unN, ze, zq, zb, GS, simprocAttr, c, hget, zo, hb]
   rw [hpb]; rfl
theorem Yd (f : Nat) (p : UInt8 → Bool) (hp : ∀ b : UInt8, zm (EV Tryz.prog pol) f [.t (.int .u8 (b.toNat : Int))] = some (.t (.bool (p b)))) (s : Str) (hl : s.length ≤ 9223372036854775807) :
 zm (EV Tryz.prog pol) 154 [.t (.str s), .t (.fn f [])] = some (.t (.bool (s.all p))) := by
 have IH := RD f p hp s hl s [] rfl
 simp only [List.length_nil, Int.natCast_zero] at IH
 apply zu
 refine zw rfl Tryz.func154 rfl (by kernel_rfl) ?_
 unfold Tryz.f154
 cases hb : s.all p with
 | true => rw [hb] at IH; simp only [cond_true] at IH; simp only [↓GO, ↓DRW, GA, GX, ren, zn, za, refs, z8, cst, zr, isC, bin, una, z7, zd, blt, asArg, zg, zc, zf, z6, E.mkS, unN, ze, zq, zb, GS, simprocAttr, IH]
 | false => rw [hb] at IH; simp only [cond_false] at IH; simp only [↓GO, ↓DRW, GA, GX, ren, zn, za, refs, z8, cst, zr, isC, bin, una, z7, zd, blt, asArg, zg, zc, zf, z6, E.mkS, unN, ze, zq, zb, GS, simprocAttr, IH]
end Go.Proofs.YtonbkdklidfmfaaGreatDoor
/- Digits and quotes, by both. Conditions: those of each lemma. -/
namespace Go.Proofs.YtonbkdklidfmfaaGreatDoor
open E
set_option linter.unusedSimpArgs false
set_option linter.unusedVariables false
set_option maxRecDepth 100000
end Go.Proofs.YtonbkdklidfmfaaGreatDoor
/- The library's searches, at fields. Conditions: those of each lemma. -/
namespace Go.Proofs.YtonbkdklidfmfaaGreatDoor
open E
set_option linter.unusedSimpArgs false
set_option linter.unusedVariables false
set_option maxRecDepth 100000
/-- the first place at which something holds -/
def xR {α : Type} (p : α → Bool) : List α → Nat → Option Nat
 | [], _ => none
 | x :: r, n => if p x = true then some n else xR p r (n + 1)
def ixI : Option Nat → Int
 | some n => (n : Int)
 | none => -1
theorem tA {α : Type} (p : α → Bool) : ∀ (l : List α) (n : Nat), (xR p l n).isSome = l.any p
 | [], _ => rfl
 | x :: r, n => by
  simp only [xR, List.any_cons]
  split
  · rename_i h; simp [h]
  · rename_i h; rw [tA p r (n + 1)]; simp [h]
theorem Zj {α : Type} (p : α → Bool) (l : List α) : decide (ixI (xR p l 0) ≥ 0) = l.any p := by
 rw [← tA p l 0]
 cases xR p l 0 with
 | none => rfl
 | some n => simp [ixI]
end Go.Proofs.YtonbkdklidfmfaaGreatDoor
/- The library's searches, at packs and sums. Conditions: those of each lemma. -/
namespace Go.Proofs.YtonbkdklidfmfaaGreatDoor
open E
set_option linter.unusedSimpArgs false
set_option linter.unusedVariables false
set_option maxRecDepth 100000
theorem n8 (g : Nat) (caps : List T) (p : z1 → Bool) (es : List z1) (hl : es.length ≤ 4611686018427387904) (hp : ∀ x ∈ es, zm (EV Tryz.prog pol) g (.agg (x.enc.map .t) :: caps.map .t) = some (.t (.bool (p x)))) : ∀ (rest pre : List z1), es = pre ++ rest →
 EV Tryz.prog pol (.loop 87 26 0 [.t (.list 6 (z1.zi es)), .t (.fn g caps), .t (.int .i64 (es.length : Int)), .t (.int .i64 (pre.length : Int))] []) = some (match xR p rest pre.length with | some i => .loop .ret [.t (.int .i64 (i : Int))] [] | none => .loop (.exit 0) [.bad] [])
 | [], pre, hs => by
  have c : decide ((pre.length : Int) < (es.length : Int)) = false := by simp [hs]
  refine zk Tryz.func87 rfl rfl ?_
  simp only [↓GO, ↓DRW, GA, GX, ren, zn, za, refs, z8, cst, zr, isC, bin, una, z7, zd, blt, asArg, zg, zc, zf, z6, E.mkS, unN, ze, zq, zb, GS, simprocAttr, c, xR]
 | b :: rest, pre, hs => by
  have c : decide ((pre.length : Int) < (es.length : Int)) = true := by simp [hs]; omega
  have hi : pre.length < es.length := by rw [hs]; simp
  have hget := z1.xp es pre.length hi
  have hgb : es[pre.length] = b := by simp [hs]
  rw [hgb] at hget
  have hb := hp b (by rw [hs]; simp)
  have e1 : (pre.length : Int) + 1 = ((pre ++ [b]).length : Int) := by simp
  have IH := n8 g caps p es hl hp rest (pre ++ [b]) (by rw [hs]; simp)
  refine zk Tryz.func87 rfl rfl ?_
  simp only [xR]
  cases hpb : p b with
  | true =>
   rw [hpb] at hb
   simp (disch := omega) only [↓GO, ↓DRW, GA, GX, ren, zn, za, refs, z8, cst, zr, isC, bin, una, z7, zd, blt, asArg, zg, zc, zf, z6, E.mkS, unN, ze, zq, zb, GS, simprocAttr, z1.zj, c, hget, z1.vd, z1.wk, zo, hb]
  | false =>
   rw [hpb] at hb
   simp (disch := omega) only [↓GO, ↓DRW, GA, GX, ren, zn, za, refs, z8, cst, zr, isC, bin, una, z7, zd, blt, asArg, zg, zc, zf, z6, E.mkS, unN, ze, zq, zb, GS, simprocAttr, z1.zj, c, hget, z1.vd, z1.wk, zo, hb]
   rw [e1, IH]
   simp
theorem vD (g : Nat) (caps : List T) (p : z1 → Bool) (es : List z1) (hl : es.length ≤ 4611686018427387904) (hp : ∀ x ∈ es, zm (EV Tryz.prog pol) g (.agg (x.enc.map .t) :: caps.map .t) = some (.t (.bool (p x)))) :
 zm (EV Tryz.prog pol) 87 [.t (.list 6 (z1.zi es)), .t (.fn g caps)] = some (.t (.int .i64 (ixI (xR p es 0)))) := by
 have IH := n8 g caps p es hl hp es [] rfl
 simp only [List.length_nil, Int.natCast_zero] at IH
 apply zu
 refine zw rfl Tryz.func87 rfl (by kernel_rfl) ?_
 unfold Tryz.f87
 cases hf : xR p es 0 with
 | none => rw [hf] at IH; simp only [↓GO, ↓DRW, GA, GX, ren, zn, za, refs, z8, cst, zr, isC, bin, una, z7, zd, blt, asArg, zg, zc, zf, z6, E.mkS, unN, ze, zq, zb, GS, simprocAttr, z1.zj, IH, ixI]
 | some i => rw [hf] at IH; simp only [↓GO, ↓DRW, GA, GX, ren, zn, za, refs, z8, cst, zr, isC, bin, una, z7, zd, blt, asArg, zg, zc, zf, z6, E.mkS, unN, ze, zq, zb, GS, simprocAttr, z1.zj, IH, ixI]
theorem gY (g : Nat) (caps : List T) (p : z1 → Bool) (es : List z1) (hl : es.length ≤ 4611686018427387904) (hp : ∀ x ∈ es, zm (EV Tryz.prog pol) g (.agg (x.enc.map .t) :: caps.map .t) = some (.t (.bool (p x)))) :
 zm (EV Tryz.prog pol) 54 [.t (.list 6 (z1.zi es)), .t (.fn g caps)] = some (.t (.bool (es.any p))) := by
 have h1 := vD g caps p es hl hp
 apply zu
 refine zw rfl Tryz.func54 rfl (by kernel_rfl) ?_
 unfold Tryz.f54
 have h2 := Zj p es
 simp only [↓GO, ↓DRW, GA, GX, ren, zn, za, refs, z8, cst, zr, isC, bin, una, z7, zd, blt, asArg, zg, zc, zf, z6, E.mkS, unN, ze, zq, zb, GS, simprocAttr, h1, h2]
theorem mA (g : Nat) (caps : List T) (p : zy → Bool) (es : List zy) (hl : es.length ≤ 4611686018427387904) (hp : ∀ x ∈ es, zm (EV Tryz.prog pol) g (.agg (x.enc.map .t) :: caps.map .t) = some (.t (.bool (p x)))) : ∀ (rest pre : List zy), es = pre ++ rest →
 EV Tryz.prog pol (.loop 130 26 0 [.t (.list 2 (zy.zi es)), .t (.fn g caps), .t (.int .i64 (es.length : Int)), .t (.int .i64 (pre.length : Int))] []) = some (match xR p rest pre.length with | some i => .loop .ret [.t (.int .i64 (i : Int))] [] | none => .loop (.exit 0) [.bad] [])
 | [], pre, hs => by
  have c : decide ((pre.length : Int) < (es.length : Int)) = false := by simp [hs]
  refine zk Tryz.func130 rfl rfl ?_
  simp only [↓GO, ↓DRW, GA, GX, ren, zn, za, refs, z8, cst, zr, isC, bin, una, z7, zd, blt, asArg, zg, zc, zf, z6, E.mkS, unN, ze, zq, zb, GS, simprocAttr, c, xR]
 | b :: rest, pre, hs => by
  have c : decide ((pre.length : Int) < (es.length : Int)) = true := by simp [hs]; omega
  have hi : pre.length < es.length := by rw [hs]; simp
  have hget := zy.xp es pre.length hi
  have hgb : es[pre.length] = b := by simp [hs]
  rw [hgb] at hget
  have hb := hp b (by rw [hs]; simp)
  have e1 : (pre.length : Int) + 1 = ((pre ++ [b]).length : Int) := by simp
  have IH := mA g caps p es hl hp rest (pre ++ [b]) (by rw [hs]; simp)
  refine zk Tryz.func130 rfl rfl ?_
  simp only [xR]
  cases hpb : p b with
  | true =>
   rw [hpb] at hb
   simp (disch := omega) only [↓GO, ↓DRW, GA, GX, ren, zn, za, refs, z8, cst, zr, isC, bin, una, z7, zd, blt, asArg, zg, zc, zf, z6, E.mkS, unN, ze, zq, zb, GS, simprocAttr, zy.zj, c, hget, zy.vd, zy.wk, zo, hb]
  | false =>
   rw [hpb] at hb
   simp (disch := omega) only [↓GO, ↓DRW, GA, GX, ren, zn, za, refs, z8, cst, zr, isC, bin, una, z7, zd, blt, asArg, zg, zc, zf, z6, E.mkS, unN, ze, zq, zb, GS, simprocAttr, zy.zj, c, hget, zy.vd, zy.wk, zo, hb]
   rw [e1, IH]
   simp
theorem mQ (g : Nat) (caps : List T) (p : zy → Bool) (es : List zy) (hl : es.length ≤ 4611686018427387904) (hp : ∀ x ∈ es, zm (EV Tryz.prog pol) g (.agg (x.enc.map .t) :: caps.map .t) = some (.t (.bool (p x)))) :
 zm (EV Tryz.prog pol) 130 [.t (.list 2 (zy.zi es)), .t (.fn g caps)] = some (.t (.int .i64 (ixI (xR p es 0)))) := by
 have IH := mA g caps p es hl hp es [] rfl
 simp only [List.length_nil, Int.natCast_zero] at IH
 apply zu
 refine zw rfl Tryz.func130 rfl (by kernel_rfl) ?_
 unfold Tryz.f130
 cases hf : xR p es 0 with
 | none => rw [hf] at IH; simp only [↓GO, ↓DRW, GA, GX, ren, zn, za, refs, z8, cst, zr, isC, bin, una, z7, zd, blt, asArg, zg, zc, zf, z6, E.mkS, unN, ze, zq, zb, GS, simprocAttr, zy.zj, IH, ixI]
 | some i => rw [hf] at IH; simp only [↓GO, ↓DRW, GA, GX, ren, zn, za, refs, z8, cst, zr, isC, bin, una, z7, zd, blt, asArg, zg, zc, zf, z6, E.mkS, unN, ze, zq, zb, GS, simprocAttr, zy.zj, IH, ixI]
theorem cR (g : Nat) (caps : List T) (p : zy → Bool) (es : List zy) (hl : es.length ≤ 4611686018427387904) (hp : ∀ x ∈ es, zm (EV Tryz.prog pol) g (.agg (x.enc.map .t) :: caps.map .t) = some (.t (.bool (p x)))) :
 zm (EV Tryz.prog pol) 97 [.t (.list 2 (zy.zi es)), .t (.fn g caps)] = some (.t (.bool (es.any p))) := by
 have h1 := mQ g caps p es hl hp
 apply zu
 refine zw rfl Tryz.func97 rfl (by kernel_rfl) ?_
 unfold Tryz.f97
 have h2 := Zj p es
 simp only [↓GO, ↓DRW, GA, GX, ren, zn, za, refs, z8, cst, zr, isC, bin, una, z7, zd, blt, asArg, zg, zc, zf, z6, E.mkS, unN, ze, zq, zb, GS, simprocAttr, h1, h2]
end Go.Proofs.YtonbkdklidfmfaaGreatDoor
/- Texts cut at a byte; names; plain texts. Plain. Conditions: none. -/
namespace Go.Proofs.YtonbkdklidfmfaaGreatDoor
set_option linter.unusedVariables false
set_option linter.unusedSimpArgs false
theorem mD (b : UInt8) (s : Str) : Lib.index (b :: s) [b] = 0 := by rw [Lib.index]; simp [List.isPrefixOf]
theorem nd (x b : UInt8) (s : Str) (h : x ≠ b) : Lib.index (x :: s) [b] = if Lib.index s [b] == -1 then -1 else Lib.index s [b] + 1 := by
 have hp : ([b] : List UInt8).isPrefixOf (x :: s) = false := by simp [List.isPrefixOf, Ne.symm h]
 rw [Lib.index, hp]; simp
theorem rL (b : UInt8) : ∀ s : Str, xa b s ≠ []
 | [] => by simp [xa]
 | x :: s => by
  unfold xa
  split
  · simp
  · split <;> simp
theorem ur (b : UInt8) (s : Str) : xa b (b :: s) = [] :: xa b s := by rw [xa, if_pos rfl]
theorem wT (b x : UInt8) (s p : Str) (r : List Str) (h : x ≠ b) (e : xa b s = p :: r) : xa b (x :: s) = (x :: p) :: r := by
 rw [xa, if_neg h, e]
theorem kt (b : UInt8) : ∀ s : Str, Lib.split s [b] = xa b s
 | [] => by
  unfold Lib.split
  rw [Lib.count_miss (by simp [Lib.index])]; rfl
 | x :: s => by
  have ih := kt b s
  unfold Lib.split at ih ⊢
  by_cases h : x = b
  · subst h
    rw [Lib.count_cons_eq, Nat.add_comm, Lib.splitK, mD, ur]
    simpa using ih
  · rw [Lib.count_cons_ne x b s h]
    by_cases hm : Lib.index s [b] = -1
    · rw [Lib.count_miss hm] at ih ⊢
      rw [Lib.splitK] at ih ⊢
      exact (wT b x s s [] h ih.symm).symm
    · have hge := Lib.index_ge s [b]
      obtain ⟨j, hj⟩ : ∃ j : Nat, Lib.index s [b] = j := ⟨(Lib.index s [b]).toNat, by omega⟩
      rw [Lib.count_hit (by simp) hj, Nat.add_comm] at ih ⊢
      have hb : (((j : Nat) : Int) == -1) = false := by rw [beq_eq_false_iff_ne]; omega
      have hb2 : (((j : Nat) : Int) + 1 == -1) = false := by rw [beq_eq_false_iff_ne]; omega
      rw [Lib.splitK, hj, hb] at ih
      rw [Lib.splitK, nd x b s h, hj, hb]
      simp only [Bool.false_eq_true, if_false, hb2, Int.toNat_natCast, Nat.add_zero, List.length_cons, List.length_nil, Nat.zero_add] at ih ⊢
      rw [show ((j : Int) + 1).toNat = j + 1 by omega]
      rw [List.take_succ_cons, List.drop_succ_cons]
      exact (wT b x s _ _ h ih.symm).symm
/-- a text cut at the first place of a byte -/
def yf (b : UInt8) : Str → Str × Str × Bool
 | [] => ([], [], false)
 | x :: s => if x = b then ([], s, true) else (x :: (yf b s).1, (yf b s).2.1, (yf b s).2.2)
theorem dz (b : UInt8) : ∀ s : Str, Lib.cut s [b] = yf b s
 | [] => by simp [Lib.cut, yf, Lib.index]
 | x :: s => by
  have ih := dz b s
  by_cases h : x = b
  · subst h
    unfold Lib.cut
    rw [mD, yf, if_pos rfl]; simp
  · rw [yf, if_neg h, ← ih]
    unfold Lib.cut
    rw [nd x b s h]
    have hge := Lib.index_ge s [b]
    by_cases hm : Lib.index s [b] = -1
    · rw [hm]; simp
    · obtain ⟨j, hj⟩ : ∃ j : Nat, Lib.index s [b] = j := ⟨(Lib.index s [b]).toNat, by omega⟩
      have hb : (((j : Nat) : Int) == -1) = false := by rw [beq_eq_false_iff_ne]; omega
      rw [hj, hb]
      simp only [Bool.false_eq_true, if_false]
      rw [if_pos (by omega), if_pos (by omega), show ((j : Int) + 1).toNat = j + 1 by omega]
      simp only [List.take_succ_cons, Int.toNat_natCast]
      rw [show j + 1 + [b].length = (j + [b].length) + 1 by simp, List.drop_succ_cons]
theorem nM (b : UInt8) : ∀ s : Str, s = (yf b s).1 ++ cond (yf b s).2.2 (b :: (yf b s).2.1) []
 | [] => rfl
 | x :: s => by
  rw [yf]
  split
  · rename_i h; rw [h]; rfl
  · have := nM b s
    show x :: s = (x :: (yf b s).1) ++ _
    rw [List.cons_append, ← this]
theorem dB (b : UInt8) : ∀ s : Str, b ∉ (yf b s).1
 | [] => by simp [yf]
 | x :: s => by
  rw [yf]
  split
  · simp
  · rename_i h
    have := dB b s
    simp only [List.mem_cons, not_or]
    exact ⟨Ne.symm h, this⟩
theorem mK (b : UInt8) : ∀ s : Str, (yf b s).2.2 = false → (yf b s).2.1 = []
 | [], _ => rfl
 | x :: s, h => by
  rw [yf] at h ⊢
  split at h
  · simp at h
  · rename_i hx
    rw [if_neg hx]; exact mK b s h
theorem dC (b : UInt8) (t : Str) : ∀ s : Str, b ∉ s → yf b (s ++ b :: t) = (s, t, true)
 | [], _ => by simp [yf]
 | x :: s, h => by
  simp only [List.mem_cons, not_or] at h
  rw [List.cons_append, yf, if_neg (Ne.symm h.1), dC b t s h.2]
theorem dA (b : UInt8) (t : Str) : ∀ s : Str, xa b (s ++ b :: t) = xa b s ++ xa b t
 | [] => by rw [List.nil_append, ur]; rfl
 | x :: s => by
  have ih := dA b t s
  rw [List.cons_append]
  by_cases h : x = b
  · subst h; rw [ur, ur, ih]; rfl
  · cases hc : xa b s with
    | nil => exact absurd hc (rL b s)
    | cons p r =>
     rw [hc] at ih
     rw [wT b x s p r h hc, wT b x _ p (r ++ xa b t) h ih]; rfl
def rQ : Str := [110, 111, 100, 101, 95, 109, 111, 100, 117, 108, 101, 115]
def uD (b : UInt8) : Bool := B2 (nb b) 97 122 || B2 (nb b) 48 57 || nb b == 46 || nb b == 95 || nb b == 45
def nv (s : Str) : Bool := ([64] : Str).isPrefixOf s
def xj (s : Str) : Str := match s with
 | [] => []
 | x :: r => if x = 64 then r else x :: r
/-- as the implementation asks -/
def uy (sc : Bool) : List Str → Bool
 | [] => true
 | p :: r => (!((p == []) || ((p == rQ) && !sc) || !(p.all uD))) && uy false r
def sY (s : Str) : Bool := uy (nv s) (xa 47 (xj s)) && decide ((s.length : Int) ≤ 60)
/-- as the reference asks -/
def lL : List Str → Bool
 | [] => true
 | p :: r => (!(p == rQ) && (p.all uD && !(p == []))) && lL r
def qM : List Str → Bool
 | [] => true
 | p :: r => (!(p == rQ) && ((xj p).all uD && !(xj p == []))) && lL r
theorem rk : ∀ r : List Str, lL r = uy false r
 | [] => rfl
 | p :: r => by
  rw [lL, uy, rk r]
  cases (p == []) <;> cases (p == rQ) <;> cases (p.all uD) <;> rfl
theorem YD (s : Str) : (qM (xa 47 s) && decide ((s.length : Int) ≤ 60)) = sY s := by
 unfold sY
 congr 1
 cases s with
 | nil => rfl
 | cons x t =>
  cases hc : xa 47 t with
  | nil => exact absurd hc (rL 47 t)
  | cons p r =>
   by_cases h64 : x = 64
   · subst h64
     rw [wT 47 64 t p r (by decide) hc]
     have h1 : nv (64 :: t) = true := by simp [nv, List.isPrefixOf]
     have h2 : xj (64 :: t) = t := by simp [xj]
     have h3 : xj (64 :: p) = p := by simp [xj]
     have h4 : (((64 : UInt8) :: p) == rQ) = false := by simp [rQ]
     rw [h1, h2, hc, qM, uy, h3, h4, rk]
     cases (p == []) <;> cases (p == rQ) <;> cases (p.all uD) <;> rfl
   · have h1 : nv (x :: t) = false := by simp [nv, List.isPrefixOf]; exact fun h => h64 h.symm
     have h2 : xj (x :: t) = x :: t := by simp [xj, h64]
     rw [h1, h2]
     by_cases h47 : x = 47
     · subst h47
       rw [ur, qM, uy, rk]
       rfl
     · rw [wT 47 x t p r h47 hc, qM, uy, rk]
       have h3 : xj (x :: p) = x :: p := by simp [xj, h64]
       rw [h3]
       cases ((x :: p) == []) <;> cases ((x :: p) == rQ) <;> cases ((x :: p).all uD) <;> rfl
def qL (b : UInt8) : Bool := B2 (nb b) 33 126 && (!(nb b == 34) && (!(nb b == 39) && (!(nb b == 44) && !(nb b == 92))))
def sb (s : Str) : Bool := s.all qL && decide ((s.length : Int) ≤ 100)
end Go.Proofs.YtonbkdklidfmfaaGreatDoor
/- The number of a text, plain: both ways of reading it come to the same. Conditions: none. -/
namespace Go.Proofs.YtonbkdklidfmfaaGreatDoor
set_option linter.unusedSimpArgs false
set_option linter.unusedVariables false
def isD (c : UInt8) : Bool := decide (48 ≤ c.toNat) && decide (c.toNat ≤ 57)
/-- what digits spell behind a number -/
def qG (a : Nat) (c : UInt8) : Nat := a * 10 + (c.toNat - 48)
def uW (acc : Nat) (l : List UInt8) : Nat := l.foldl qG acc
theorem mT (acc : Nat) : uW acc [] = acc := rfl
theorem o4 (acc : Nat) (c : UInt8) (l : List UInt8) : uW acc (c :: l) = uW (qG acc c) l := by
 unfold uW
 rw [List.foldl_cons]
theorem kn (c : UInt8) (l : List UInt8) (acc : Nat) : uW acc (l ++ [c]) = qG (uW acc l) c := by
 unfold uW
 rw [List.foldl_append, List.foldl_cons, List.foldl_nil]
theorem pM (c : UInt8) : isD c = true ↔ 48 ≤ c.toNat ∧ c.toNat ≤ 57 := by simp [isD]
theorem aj (acc : Nat) (c : UInt8) (h : isD c = true) : qG acc c + 1 ≤ (acc + 1) * 10 := by
 have := (pM c).1 h
 unfold qG
 omega
theorem mi (n m : Nat) : m * 10 ^ (n + 1) = m * 10 * 10 ^ n := by rw [Nat.pow_succ, Nat.mul_comm (10 ^ n) 10, Nat.mul_assoc]
theorem nB : ∀ (l : List UInt8) (acc : Nat), l.all isD = true → uW acc l < (acc + 1) * 10 ^ l.length
 | [], acc, _ => by rw [mT]; simp
 | c :: l, acc, h => by
  rw [List.all_cons, Bool.and_eq_true] at h
  have ih := nB l (qG acc c) h.2
  rw [o4, List.length_cons, mi]
  exact Nat.lt_of_lt_of_le ih (Nat.mul_le_mul_right _ (aj acc c h.1))
theorem jv {d : Nat} (h : d < 10) : (UInt8.ofNat (48 + d)).toNat = 48 + d := by
 simp [UInt8.toNat_ofNat']; omega
theorem uK (u : Nat) : (Lib.decDigits u).all isD = true ∧ uW 0 (Lib.decDigits u) = u ∧ Lib.decDigits u ≠ [] := by
 induction u using Nat.strongRecOn with
 | _ u ih =>
  rw [Lib.decDigits]
  split
  · rename_i h
    have := jv h
    refine ⟨?_, ?_, by simp⟩
    · rw [List.all_cons, List.all_nil, Bool.and_true, pM, this]; omega
    · rw [o4, mT, qG, this]; omega
  · rename_i h
    obtain ⟨h1, h2, h3⟩ := ih (u / 10) (by omega)
    have := jv (d := u % 10) (by omega)
    refine ⟨?_, ?_, by simp⟩
    · rw [List.all_append, h1, List.all_cons, List.all_nil, Bool.and_true, Bool.true_and, pM, this]; omega
    · rw [kn, h2, qG, this]; omega
theorem qR : ∀ (l : List UInt8) (acc : Nat), l.all isD = true → (acc + 1) * 10 ^ l.length ≤ 1000000000000000000 → Lib.parseUint10 acc l = .ok (uW acc l)
 | [], acc, _, _ => rfl
 | c :: l, acc, h, hb => by
  rw [List.all_cons, Bool.and_eq_true] at h
  have hp : 0 < 10 ^ l.length := Nat.pos_of_ne_zero (by intro h; simp at h)
  rw [List.length_cons, mi] at hb
  have h10 : (acc + 1) * 10 ≤ 1000000000000000000 := Nat.le_trans (Nat.le_mul_of_pos_right _ hp) hb
  have hc := (pM c).1 h.1
  have ih := qR l (qG acc c) h.2 (Nat.le_trans (Nat.mul_le_mul_right _ (aj acc c h.1)) hb)
  rw [Lib.parseUint10, if_pos hc, if_neg (by omega), if_neg (by omega), o4, ← ih]
  rfl
theorem oX : ∀ (k u : Nat), 1 ≤ k → u < 10 ^ k → Lib.nDigits u ≤ k
 | 0, u, h, _ => by omega
 | k + 1, u, _, h => by
  rw [Lib.nDigits]
  split
  · omega
  · have h10 : u / 10 < 10 ^ k := by rw [Nat.pow_succ] at h; omega
    have hk : 1 ≤ k := by
     rcases Nat.eq_zero_or_pos k with rfl | h
     · simp at h10; omega
     · exact h
    have := oX k (u / 10) hk h10
    omega
theorem sy {u : Nat} (h : u ≤ 999999999) : (Lib.decDigits u).length ≤ 9 := by
 rw [Lib.decDigits_length]
 exact oX 9 u (by omega) (by omega)
theorem fc {u : Nat} (h : u ≤ 999999999) : Lib.atoiAll (Lib.decDigits u) = .ok (u : Int) := by
 obtain ⟨h1, h2, h3⟩ := uK u
 have hl := sy h
 generalize Lib.decDigits u = l at *
 cases l with
 | nil => exact absurd rfl h3
 | cons c r =>
  have hc : isD c = true := by simp only [List.all_cons, Bool.and_eq_true] at h1; exact h1.1
  simp only [isD, Bool.and_eq_true, decide_eq_true_eq] at hc
  have hp : Lib.parseMag (c :: r) = .ok u := by
   unfold Lib.parseMag
   have : (10 : Nat) ^ (c :: r).length ≤ 10 ^ 9 := Nat.pow_le_pow_right (by omega) hl
   have e9 : (10 : Nat) ^ 9 = 1000000000 := by decide
   rw [if_neg (by simp), qR _ 0 h1 (by omega), h2]
  unfold Lib.atoiAll
  simp only
  rw [if_neg (by omega), hp]
  simp only
  rw [if_neg (by omega), if_neg (by omega), if_neg (by omega)]
/-- the number of a text, or -1 -/
def zQ (s : List UInt8) : Int :=
 match Lib.atoiAll s with
 | .ok v => cond ((decide (0 ≤ v) && decide (v ≤ 999999999)) && (Lib.itoa v == s)) v (-1)
 | _ => -1
/-- the same, by the digits -/
def rG (s : List UInt8) : Int := cond ((s.all isD && decide (s.length ≤ 9)) && (!(s == []) && (Lib.itoa (uW 0 s : Nat) == s))) (uW 0 s : Nat) (-1)
theorem kC {u : Nat} (h : u ≤ 999999999) : zQ (Lib.decDigits u) = u ∧ rG (Lib.decDigits u) = u := by
 obtain ⟨h1, h2, h3⟩ := uK u
 have hl := sy h
 refine ⟨?_, ?_⟩
 · unfold zQ
   rw [fc h]
   simp only
   rw [Lib.itoa_nonneg]
   have e1 : decide ((0 : Int) ≤ (u : Int)) = true := by simp
   have e2 : decide ((u : Int) ≤ 999999999) = true := by simp; omega
   rw [e1, e2]; simp
 · unfold rG
   rw [h1, h2, Lib.itoa_nonneg]
   have e1 : decide ((Lib.decDigits u).length ≤ 9) = true := by simpa using hl
   have e2 : (Lib.decDigits u == []) = false := by simpa using h3
   rw [e1, e2]; simp
theorem Yt {s : List UInt8} (h : ∀ u, u ≤ 999999999 → s ≠ Lib.decDigits u) : zQ s = -1 ∧ rG s = -1 := by
 refine ⟨?_, ?_⟩
 · unfold zQ
   split
   · rename_i v hv
     cases hc : ((decide (0 ≤ v) && decide (v ≤ 999999999)) && (Lib.itoa v == s)) with
     | false => rfl
     | true =>
      simp only [Bool.and_eq_true, decide_eq_true_eq] at hc
      obtain ⟨⟨c1, c2⟩, c3⟩ := hc
      obtain ⟨u, rfl⟩ : ∃ u : Nat, v = u := ⟨v.toNat, by omega⟩
      rw [Lib.itoa_nonneg] at c3
      exact absurd (eq_of_beq c3).symm (h u (by omega))
   · rfl
 · unfold rG
   cases hc : ((s.all isD && decide (s.length ≤ 9)) && (!(s == []) && (Lib.itoa (uW 0 s : Nat) == s))) with
   | false => rfl
   | true =>
    simp only [Bool.and_eq_true, decide_eq_true_eq] at hc
    obtain ⟨⟨c1, c2⟩, c3, c4⟩ := hc
    rw [Lib.itoa_nonneg] at c4
    have hv := nB s 0 c1
    have : (10 : Nat) ^ s.length ≤ 10 ^ 9 := Nat.pow_le_pow_right (by omega) c2
    have e9 : (10 : Nat) ^ 9 = 1000000000 := by decide
    exact absurd (eq_of_beq c4).symm (h _ (by omega))
theorem Yk (s : List UInt8) : rG s = zQ s := by
 by_cases h : ∃ u, u ≤ 999999999 ∧ s = Lib.decDigits u
 · obtain ⟨u, hu, rfl⟩ := h
   obtain ⟨h1, h2⟩ := kC hu
   rw [h1, h2]
 · obtain ⟨h1, h2⟩ := Yt (s := s) fun u hu he => h ⟨u, hu, he⟩
   rw [h1, h2]
end Go.Proofs.YtonbkdklidfmfaaGreatDoor
/- Versions, packs, graphs, plain. Conditions: none. -/
namespace Go.Proofs.YtonbkdklidfmfaaGreatDoor
open E
set_option linter.unusedVariables false
set_option linter.unusedSimpArgs false
set_option maxRecDepth 100000
theorem sQ (a b : UInt8) (x y : Str) : Op.bytesLess (a :: x) (b :: y) = (decide (a < b) || (a == b && Op.bytesLess x y)) := by
 rw [Op.bytesLess]
/-- '<=' on texts, said by '<' -/
theorem pJ : ∀ x y : Str, (Op.bytesLess x y || x == y) = !(Op.bytesLess y x)
 | [], [] => rfl
 | [], b :: y => by simp [Op.bytesLess]
 | a :: x, [] => by simp [Op.bytesLess]
 | a :: x, b :: y => by
  have ih := pJ x y
  rw [sQ, sQ]
  by_cases h1 : a < b
  · have h2 : ¬ b < a := by simp only [UInt8.lt_iff_toNat_lt] at h1 ⊢; omega
    have h3 : (b == a) = false := by
     rw [beq_eq_false_iff_ne]; intro h; subst h; simp only [UInt8.lt_iff_toNat_lt] at h1; omega
    simp [h1, h2, h3]
  · by_cases h2 : b < a
    · have h3 : (a == b) = false := by
       rw [beq_eq_false_iff_ne]; intro h; subst h; simp only [UInt8.lt_iff_toNat_lt] at h2; omega
      have h4 : ((a :: x) == (b :: y)) = false := by
       rw [beq_eq_false_iff_ne]; intro h; cases h; simp at h3
      simp [h1, h2, h3, h4]
    · have h3 : a = b := by
       apply UInt8.toNat_inj.1; simp only [UInt8.lt_iff_toNat_lt] at h1 h2; omega
      subst h3
      have e : ((a :: x) == (a :: y)) = (x == y) := by
       rw [Bool.eq_iff_iff]; simp
      simp only [h1, decide_false, Bool.false_or, beq_self_eq_true, Bool.true_and, e, ih]
theorem vt (b : UInt8) : ∀ s : Str, yb (xa b s) + (xa b s).length ≤ s.length + 1
 | [] => by simp [xa, yb]
 | x :: s => by
  have ih := vt b s
  by_cases h : x = b
  · subst h; rw [ur]; simp only [yb, List.length_cons, List.length_nil]; omega
  · cases hc : xa b s with
    | nil => exact absurd hc (rL b s)
    | cons p r =>
     rw [hc] at ih
     rw [wT b x s p r h hc]
     simp only [yb, List.length_cons] at ih ⊢; omega
theorem pC (b : UInt8) (s : Str) : (yf b s).1.length ≤ s.length ∧ (yf b s).2.1.length ≤ s.length := by
 have h := nM b s
 have h2 := congrArg List.length h
 rw [List.length_append] at h2
 cases hc : (yf b s).2.2 with
 | true => rw [hc] at h2; simp only [cond_true, List.length_cons] at h2; omega
 | false =>
  have := mK b s hc
  rw [this]; simp only [List.length_nil]; omega
theorem uu : ∀ {ks : List Str} {s : Str}, s ∈ ks → s.length ≤ yb ks
 | k :: ks, s, h => by
  simp only [yb]
  rcases List.mem_cons.1 h with rfl | h
  · omega
  · have := uu h; omega
theorem ly : ∀ a b : List Str, yb (a ++ b) = yb a + yb b
 | [], b => by simp [yb]
 | x :: a, b => by simp only [List.cons_append, yb, ly a b]; omega
theorem kY : ∀ l : List Str, Lib.lens l = yb l
 | [] => rfl
 | x :: l => by
  have := kY l
  simp only [yb, ← this]; simp [Lib.lens]
theorem join_le (sep : Str) : ∀ l : List Str, (Lib.join l sep).length ≤ yb l + sep.length * l.length
 | [] => by simp [Lib.join_nil]
 | x :: r => by rw [Lib.join_length, kY]; simp only [List.length_cons, Nat.mul_add, Nat.mul_one]; omega
theorem mC (sep : Str) (x : Str) (l : List Str) (y : Str) : Lib.join (x :: l ++ [y]) sep = Lib.join (x :: l) sep ++ (sep ++ y) := by
 rw [List.cons_append, Lib.join_cons, Lib.join_cons]; simp [Lib.joinTail]
structure Ver where
 maj : Int
 min : Int
 pat : Int
 pre : List Str
def Ver.enc (v : Ver) : List T := [.int .i64 v.maj, .int .i64 v.min, .int .i64 v.pat, .list 1 (strs v.pre)]
def Ver.zero : Ver := ⟨0, 0, 0, []⟩
def preB (b : UInt8) : Bool := (B2 (nb b) 97 122 || B2 (nb b) 48 57) || (B2 (nb b) 65 90 || nb b == 45)
def isNum (s : Str) : Bool := !(s == []) && s.all isD
def tI (p : Str) : Bool := B2 (p.length : Int) 1 20 && (p.all preB && (!(isNum p) || decide (0 ≤ zQ p)))
def n9 (n : Int) : Bool := B2 n 0 999999999
def x8 (v : Ver) : Bool := (n9 v.maj && (n9 v.min && n9 v.pat)) && (v.pre.all tI && decide ((v.pre.length : Int) ≤ 5))
def uR (v : Ver) : Str := (((Lib.itoa v.maj ++ [46]) ++ Lib.itoa v.min) ++ [46]) ++ Lib.itoa v.pat
def wQ (c : Str) (pre : List Str) : Str := cond (pre == []) c (c ++ ([45] ++ Lib.join pre [46]))
def yn (v : Ver) : Str := cond (x8 v) (wQ (uR v) v.pre) []
def vy (s : Str) : Option Ver :=
 match xa 46 (yf 45 s).1 with
 | [a, b, c] => some ⟨zQ a, zQ b, zQ c, cond (yf 45 s).2.2 (xa 46 (yf 45 s).2.1) []⟩
 | _ => none
def zX (s : Str) : Ver × Bool :=
 match vy s with
 | some v => cond (yn v == s) (v, true) (Ver.zero, false)
 | none => (Ver.zero, false)
theorem eC {s : Str} {v : Ver} (h : vy s = some v) : s ≠ [] := by
 intro e; subst e; simp [vy, yf, xa] at h
theorem wm {s : Str} (h : (zX s).2 = true) : vy s = some (zX s).1 ∧ yn (zX s).1 = s ∧ x8 (zX s).1 = true ∧ s ≠ [] := by
 unfold zX at h ⊢
 cases hm : vy s with
 | none => rw [hm] at h; cases h
 | some v =>
  rw [hm] at h
  simp only at h ⊢
  have hs := eC hm
  cases hc : (yn v == s) with
  | false => rw [hc] at h; cases h
  | true =>
   have he := eq_of_beq hc
   simp only [cond_true]
   refine ⟨trivial, he, ?_, hs⟩
   cases hv : x8 v with
   | true => rfl
   | false => unfold yn at he; rw [hv] at he; exact absurd he.symm hs
theorem lF (n : Int) : n9 n = true ↔ 0 ≤ n ∧ n ≤ 999999999 := by simp [n9]
theorem uY {v : Ver} (h : x8 v = true) : (0 ≤ v.maj ∧ v.maj ≤ 999999999) ∧ (0 ≤ v.min ∧ v.min ≤ 999999999) ∧ (0 ≤ v.pat ∧ v.pat ≤ 999999999) ∧ v.pre.all tI = true ∧ v.pre.length ≤ 5 := by
 unfold x8 at h
 simp only [Bool.and_eq_true, lF, decide_eq_true_eq] at h
 obtain ⟨⟨h1, h2, h3⟩, h4, h5⟩ := h
 exact ⟨h1, h2, h3, h4, by omega⟩
theorem sD (s : Str) : -1 ≤ zQ s ∧ zQ s ≤ 999999999 := by
 unfold zQ
 split
 · rename_i v _
   cases hc : ((decide (0 ≤ v) && decide (v ≤ 999999999)) && (Lib.itoa v == s)) with
   | false => simp
   | true =>
    simp only [Bool.and_eq_true, decide_eq_true_eq] at hc
    simp only [cond_true]; omega
 · simp
/-- with one number more behind -/
def qc (v : Ver) : Ver := ⟨v.maj, v.min, v.pat, v.pre ++ [[48]]⟩
theorem Yg (c : Str) (x : Str) (l : List Str) : wQ c ((x :: l) ++ [[48]]) = wQ c (x :: l) ++ [46, 48] := by
 unfold wQ
 rw [mC]
 simp
theorem beq_nil_cons {α : Type} [BEq α] (x : α) (l : List α) : ((x :: l) == []) = false := rfl
/-- a version's text with '.0' behind is read as the version with one part more, where that is right -/
theorem Yu {s : Str} (h : (zX s).2 = true) (hp : (zX s).1.pre ≠ []) :
 zX (s ++ [46, 48]) = cond (x8 (qc (zX s).1)) (qc (zX s).1, true) (Ver.zero, false) ∧ yn (qc (zX s).1) = cond (x8 (qc (zX s).1)) (s ++ [46, 48]) [] := by
 obtain ⟨hm, ht, ho, hs⟩ := wm h
 generalize (zX s).1 = v at *
 have hmk : vy (s ++ [46, 48]) = some (qc v) := by
  unfold vy at hm ⊢
  have he := nM 45 s
  have hn := dB 45 s
  cases hc : (yf 45 s).2.2 with
  | false =>
   rw [hc] at hm
   split at hm
   · cases hm; exact absurd rfl hp
   · cases hm
  | true =>
   rw [hc] at hm he
   simp only [cond_true] at he
   have h2 : yf 45 (s ++ [46, 48]) = ((yf 45 s).1, (yf 45 s).2.1 ++ [46, 48], true) := by
    conv => lhs; rw [he]
    rw [List.append_assoc, List.cons_append]
    exact dC 45 _ _ hn
   rw [h2]
   simp only
   split at hm
   · cases hm
     simp only [cond_true]
     rw [show (yf 45 s).2.1 ++ [46, 48] = (yf 45 s).2.1 ++ 46 :: [48] from rfl, dA]
     rfl
   · cases hm
 have htx : yn (qc v) = cond (x8 (qc v)) (s ++ [46, 48]) [] := by
  have ht' := ht
  unfold yn at ht' ⊢
  rw [ho] at ht'
  simp only [cond_true] at ht'
  congr 1
  rw [← ht']
  cases hv : v.pre with
  | nil => exact absurd hv hp
  | cons x l =>
   show wQ (uR v) (v.pre ++ [[48]]) = _
   rw [hv]
   exact Yg _ x l
 refine ⟨?_, htx⟩
 unfold zX
 rw [hmk]
 simp only
 rw [htx]
 cases hk : x8 (qc v) with
 | true => simp
 | false =>
  simp only [cond_false]
  have : (([] : Str) == s ++ [46, 48]) = false := by rw [beq_eq_false_iff_ne]; intro e; have := congrArg List.length e; simp at this
  rw [this]; rfl
/-- the text that a version ends ahead of, where it stands alone -/
def w8 (a b c : Int) : Str := yn ⟨a, b, c, [[48]]⟩
def lM (v : Ver) : Str := cond (v.pre == []) (w8 v.maj v.min (v.pat + 1)) (yn (qc v))
def wV (s : Str) : Option (Str × Str) := cond ((zX s).2 && !(lM (zX s).1 == [])) (some (s, lM (zX s).1)) none
def upV (v : Ver) (part : Int) : Ver := cond (part == 0) ⟨v.maj + 1, 0, 0, []⟩ (cond (part == 1) ⟨v.maj, v.min + 1, 0, []⟩ ⟨v.maj, v.min, cond (v.pre == []) (v.pat + 1) v.pat, []⟩)
def vx (v : Ver) (part : Int) : Ver := cond (!(x8 v) || !(B2 part 0 2)) v (cond (x8 (upV v part)) (upV v part) v)
def vu (a b : Int) : Int := cond (decide (a < b)) (-1) (cond (decide (a > b)) 1 0)
def cd (a b : Str) : Int := cond (Op.bytesLess a b) (-1) (cond (!(Op.bytesLess a b || a == b)) 1 0)
def tE (a b : Str) : Int := cond (decide (zQ a ≥ 0) && decide (zQ b ≥ 0)) (vu (zQ a) (zQ b)) (cond (decide (zQ a ≥ 0)) (-1) (cond (decide (zQ b ≥ 0)) 1 (cd a b)))
/-- the first place at which parts differ -/
def rN : List Str → List Str → Option Int
 | a :: l, b :: m => cond (tE a b == 0) (rN l m) (some (tE a b))
 | _, _ => none
def uc (a b : List Str) : Int := (rN a b).getD (vu (a.length : Int) (b.length : Int))
def cb (a b : Ver) : Int :=
 cond (vu a.maj b.maj == 0) (cond (vu a.min b.min == 0) (cond (vu a.pat b.pat == 0)
  (cond (a.pre == [] || b.pre == []) (vu (b.pre.length : Int) (a.pre.length : Int)) (uc a.pre b.pre))
  (vu a.pat b.pat)) (vu a.min b.min)) (vu a.maj b.maj)
theorem ti (a b : Int) : (vu a b == 0) = (a == b) := by
 unfold vu
 by_cases h1 : a < b
 · simp [h1]; omega
 · by_cases h2 : a > b
   · simp [h1, h2]; omega
   · simp [h1, h2]; omega
theorem tB (a b c a' b' c' : Int) : (cb ⟨a, b, c, []⟩ ⟨a', b', c', []⟩ == 0) = (a == a' && (b == b' && c == c')) := by
 unfold cb
 simp only [ti]
 cases h1 : (a == a') with
 | false => simp only [cond_false]; rw [ti, h1]; rfl
 | true =>
  cases h2 : (b == b') with
  | false => simp only [cond_true, cond_false]; rw [ti, h2]; rfl
  | true =>
   cases h3 : (c == c') with
   | false => simp only [cond_true, cond_false]; rw [ti, h3]; rfl
   | true => rfl
def xt (v : Ver) : Ver := ⟨v.maj, v.min, v.pat, []⟩
def lG (v : Ver) (part : Int) : Str × Bool := cond (cb (vx (xt v) part) (xt v) == 0) ([], false) (yn ⟨(vx (xt v) part).maj, (vx (xt v) part).min, (vx (xt v) part).pat, [[48]]⟩, true)
theorem TW : tI [48] = true := by
 unfold tI
 have h1 : ([48] : Str).all preB = true := by decide
 have h2 : decide (0 ≤ zQ [48]) = true := by
  have := (kC (u := 0) (by omega)).1
  rw [show Lib.decDigits 0 = [48] by rw [Lib.decDigits_one (by omega)]; rfl] at this
  rw [this]; rfl
 rw [h1, h2]; simp
theorem cg (v : Ver) : x8 (xt v) = (n9 v.maj && (n9 v.min && n9 v.pat)) := by simp [x8, xt]
theorem tM (a b c : Int) : x8 ⟨a, b, c, [[48]]⟩ = (n9 a && (n9 b && n9 c)) := by simp [x8, TW]
theorem qh (a b c : Int) : (w8 a b c == []) = !(n9 a && (n9 b && n9 c)) := by
 unfold w8 yn
 rw [tM]
 cases (n9 a && (n9 b && n9 c)) with
 | false => rfl
 | true => simp [wQ, uR]
/-- the next one of a part is told by both in one way -/
theorem VA {v : Ver} (ho : x8 v = true) (part : Int) (hp : part = 0 ∨ part = 1 ∨ part = 2) :
 lG v part = (let h := w8 (cond (part == 0) (v.maj + 1) v.maj) (cond (part == 0) 0 (cond (part == 1) (v.min + 1) v.min)) (cond (part == 2) (v.pat + 1) 0); (h, !(h == []))) := by
 obtain ⟨h1, h2, h3, _, _⟩ := uY ho
 have hb : x8 (xt v) = true := by
  rw [cg]; simp only [Bool.and_eq_true, lF]; exact ⟨h1, h2, h3⟩
 have n1 : n9 v.maj = true := (lF _).2 h1
 have n2 : n9 v.min = true := (lF _).2 h2
 have n3 : n9 v.pat = true := (lF _).2 h3
 have n0 : n9 0 = true := by decide
 unfold lG vx
 rw [hb]
 rcases hp with rfl | rfl | rfl
 · have e : upV (xt v) 0 = ⟨v.maj + 1, 0, 0, []⟩ := rfl
   rw [e]
   simp only [Bool.not_true, Bool.false_or, show B2 0 0 2 = true from rfl, cond_false]
   rw [show x8 ⟨v.maj + 1, 0, 0, []⟩ = n9 (v.maj + 1) by simp [x8, n0]]
   simp only [show ((0 : Int) == 0) = true from rfl, cond_true, show ((0 : Int) == 2) = false from rfl, cond_false]
   rw [qh, n0]
   cases hn : n9 (v.maj + 1) with
   | true =>
    have : (v.maj + 1 == v.maj) = false := by rw [beq_eq_false_iff_ne]; omega
    simp only [cond_true, xt, tB, this]
    simp [w8]
   | false =>
    simp [tB, w8, yn, tM, hn, xt]
 · have e : upV (xt v) 1 = ⟨v.maj, v.min + 1, 0, []⟩ := rfl
   rw [e]
   simp only [Bool.not_true, Bool.false_or, show B2 1 0 2 = true from rfl, cond_false]
   rw [show x8 ⟨v.maj, v.min + 1, 0, []⟩ = n9 (v.min + 1) by simp [x8, n0, n1]]
   simp only [show ((1 : Int) == 0) = false from rfl, show ((1 : Int) == 1) = true from rfl, cond_true, show ((1 : Int) == 2) = false from rfl, cond_false]
   rw [qh, n0, n1]
   cases hn : n9 (v.min + 1) with
   | true =>
    have : (v.min + 1 == v.min) = false := by rw [beq_eq_false_iff_ne]; omega
    simp only [cond_true, xt, tB, this]
    simp [w8]
   | false =>
    simp [tB, w8, yn, tM, hn, xt]
 · have e : upV (xt v) 2 = ⟨v.maj, v.min, v.pat + 1, []⟩ := rfl
   rw [e]
   simp only [Bool.not_true, Bool.false_or, show B2 2 0 2 = true from rfl, cond_false]
   rw [show x8 ⟨v.maj, v.min, v.pat + 1, []⟩ = n9 (v.pat + 1) by simp [x8, n1, n2]]
   simp only [show ((2 : Int) == 0) = false from rfl, show ((2 : Int) == 1) = false from rfl, cond_true, show ((2 : Int) == 2) = true from rfl, cond_false]
   rw [qh, n1, n2]
   cases hn : n9 (v.pat + 1) with
   | true =>
    have : (v.pat + 1 == v.pat) = false := by rw [beq_eq_false_iff_ne]; omega
    simp only [cond_true, xt, tB, this]
    simp [w8]
   | false =>
    simp [tB, w8, yn, tM, hn, xt]
end Go.Proofs.YtonbkdklidfmfaaGreatDoor
/- Numbers' texts, by both. Conditions: those of each lemma. -/
namespace Go.Proofs.YtonbkdklidfmfaaGreatDoor
open E
set_option linter.unusedSimpArgs false
set_option linter.unusedVariables false
set_option maxRecDepth 100000
theorem mv : ∀ (k u : Nat), 1 ≤ k → u < 10 ^ k → Lib.nDigits u ≤ k
 | 0, u, h, _ => by omega
 | k + 1, u, _, h => by
  rw [Lib.nDigits]
  split
  · omega
  · have h10 : u / 10 < 10 ^ k := by rw [Nat.pow_succ] at h; omega
    have hk : 1 ≤ k := by
     rcases Nat.eq_zero_or_pos k with rfl | h
     · simp at h10; omega
     · exact h
    have := mv k (u / 10) hk h10
    omega
theorem wZ (n : Int) (h0 : 0 ≤ n) (h1 : n ≤ 999999999) : (Lib.itoa n).length ≤ 9 := by
 obtain ⟨u, rfl⟩ : ∃ u : Nat, n = u := ⟨n.toNat, by omega⟩
 rw [Lib.itoa_nonneg, Lib.decDigits_length]
 exact mv 9 u (by omega) (by omega)
theorem gq (n : Int) (h0 : 0 ≤ n) (h1 : n ≤ 999999999) : zm (EV Tryz.prog pol) 203 [.t (.int .i64 n)] = some (.t (.str (Lib.itoa n))) := by
 have h := QA n (by omega) (by omega)
 apply zu
 refine zw rfl Tryz.func203 rfl (by kernel_rfl) ?_
 unfold Tryz.f203
 simp only [↓GO, ↓DRW, GA, GX, ren, zn, za, refs, z8, cst, zr, isC, bin, una, z7, zd, blt, asArg, zg, zc, zf, z6, E.mkS, unN, ze, zq, zb, GS, simprocAttr, h]
/-- the digits of a number, none for 0 -/
def ZG (m : Nat) : Str := if m = 0 then [] else Lib.decDigits m
theorem YO (m : Nat) (h : m ≠ 0) : ZG m = ZG (m / 10) ++ [UInt8.ofNat (48 + m % 10)] := by
 unfold ZG
 rw [if_neg h]
 by_cases h10 : m < 10
 · rw [if_pos (by omega), Lib.decDigits_one h10, show m % 10 = m by omega]; rfl
 · rw [if_neg (by omega)]
   conv => lhs; rw [Lib.decDigits]
   rw [dif_neg h10]
theorem V7 (d : Nat) (h : d < 10) : (List.drop d [48, 49, 50, 51, 52, 53, 54, 55, 56, 57]).take (d + 1 - d) = [UInt8.ofNat (48 + d)] := by
 have : d = 0 ∨ d = 1 ∨ d = 2 ∨ d = 3 ∨ d = 4 ∨ d = 5 ∨ d = 6 ∨ d = 7 ∨ d = 8 ∨ d = 9 := by omega
 rcases this with rfl | rfl | rfl | rfl | rfl | rfl | rfl | rfl | rfl | rfl <;> rfl
theorem RC (n : Int) : ∀ (N m : Nat) (out : Str), m ≤ N → m ≤ 999999999 → out.length + m ≤ 1000000000 →
 EV Tryz.prog pol (.loop 172 124 0 [.t (.int .i64 n), .t (.str out), .t (.int .i64 (m : Int))] [])
 = some (.loop (.exit 0) [.t (.int .i64 n), .t (.str (ZG m ++ out))] [])
 | N, 0, out, h, h1, h2 => by
  refine zk Tryz.func172 rfl rfl ?_
  simp only [↓GO, ↓DRW, GA, GX, ren, zn, za, refs, z8, cst, zr, isC, bin, una, z7, zd, blt, asArg, zg, zc, zf, z6, E.mkS, unN, ze, zq, zb, GS, simprocAttr, Int.natCast_zero, bne_self_eq_false, ZG, if_true]
 | 0, m + 1, out, h, h1, h2 => by omega
 | N + 1, m + 1, out, h, h1, h2 => by
  generalize hm : m + 1 = x at *
  have c : (((x : Nat) : Int) == 0) = false := by simp; omega
  have e1 : ((x : Nat) : Int).tmod 10 = ((x % 10 : Nat) : Int) := (Int.ofNat_tmod x 10).symm
  have e2 : ((x : Nat) : Int).tdiv 10 = ((x / 10 : Nat) : Int) := (Int.ofNat_tdiv x 10).symm
  have hd : x % 10 < 10 := Nat.mod_lt _ (by omega)
  have c2 : decide (((x % 10 : Nat) : Int) < 0) = false := by simp only [decide_eq_false_iff_not]; omega
  have hdig := V7 (x % 10) hd
  have IH := RC n N (x / 10) (UInt8.ofNat (48 + x % 10) :: out) (by omega) (by omega) (by simp only [List.length_cons]; omega)
  rw [YO x (by omega), List.append_assoc]
  rw [show [UInt8.ofNat (48 + x % 10)] ++ out = UInt8.ofNat (48 + x % 10) :: out from rfl]
  generalize UInt8.ofNat (48 + x % 10) = bd at *
  have w1 : IntKind.i64.wrap (((x % 10 : Nat) : Int) + 1) = ((x % 10 + 1 : Nat) : Int) := by rw [zo (by omega)]; omega
  have w2 : IntKind.i64.wrap ((x / 10 : Nat) : Int) = ((x / 10 : Nat) : Int) := zo (by omega)
  generalize x % 10 = xd at *
  generalize x / 10 = xq at *
  refine zk Tryz.func172 rfl rfl ?_
  simp (disch := ((try simp only [LL]); omega)) only [↓GO, ↓DRW, GA, GX, ren, zn, za, refs, z8, cst, zr, isC, bin, una, z7, zd, blt, asArg, zg, zc, zf, z6, E.mkS, unN, ze, zq, zb, GS, simprocAttr, bne, c, e1, e2, c2, w1, w2, hdig, yY, IH]
theorem gn (n : Int) (h0 : 0 ≤ n) (h1 : n ≤ 999999999) : zm (EV Tryz.prog pol) 172 [.t (.int .i64 n)] = some (.t (.str (Lib.itoa n))) := by
 obtain ⟨u, rfl⟩ : ∃ u : Nat, n = u := ⟨n.toNat, by omega⟩
 have IH := RC u u u [] (Nat.le_refl _) (by omega) (by simp; omega)
 rw [List.append_nil] at IH
 rw [Lib.itoa_nonneg]
 have c2 : decide ((u : Int) < 0) = false := by simp only [decide_eq_false_iff_not]; omega
 apply zu
 refine zw rfl Tryz.func172 rfl (by kernel_rfl) ?_
 unfold Tryz.f172
 by_cases hu : u = 0
 · subst hu
   rw [show Lib.decDigits 0 = [48] by rw [Lib.decDigits_one (by omega)]; rfl]
   simp only [↓GO, ↓DRW, GA, GX, ren, zn, za, refs, z8, cst, zr, isC, bin, una, z7, zd, blt, asArg, zg, zc, zf, z6, E.mkS, unN, ze, zq, zb, GS, simprocAttr, Int.natCast_zero]
 · have c : ((u : Int) == 0) = false := by simp; omega
   rw [show Lib.decDigits u = ZG u by simp [ZG, hu]]
   simp only [↓GO, ↓DRW, GA, GX, ren, zn, za, refs, z8, cst, zr, isC, bin, una, z7, zd, blt, asArg, zg, zc, zf, z6, E.mkS, unN, ze, zq, zb, GS, simprocAttr, c, IH, c2]
end Go.Proofs.YtonbkdklidfmfaaGreatDoor
/- The number of a text, by both. Conditions: those of each lemma. -/
namespace Go.Proofs.YtonbkdklidfmfaaGreatDoor
open E
set_option linter.unusedSimpArgs false
set_option linter.unusedVariables false
set_option maxRecDepth 100000
theorem bU (c : UInt8) : B2 (c.toNat : Int) 48 57 = isD c := by
 unfold B2 isD
 congr 1 <;> rw [decide_eq_decide] <;> omega
theorem Yb (s : Str) (hl : s.length ≤ 281474976710656) : zm (EV Tryz.prog pol) 186 [.t (.str s)] = some (.t (.int .i64 (zQ s))) := by
 have hat := QH s hl
 apply zu
 refine zw rfl Tryz.func186 rfl (by kernel_rfl) ?_
 unfold Tryz.f186
 unfold zQ
 cases ha : Lib.atoiAll s with
 | range => rw [ha] at hat; simp only at hat ⊢; simp (disch := ((try simp only [LL]); omega)) only [↓GO, ↓DRW, GA, GX, ren, zn, za, refs, z8, cst, zr, isC, bin, una, z7, zd, blt, asArg, zg, zc, zf, z6, E.mkS, unN, ze, zq, zb, GS, simprocAttr, hat]
 | ok v =>
  rw [ha] at hat
  simp only at hat ⊢
  have hw := wM v 0 999999999
  rw [show B2 v 0 999999999 = (decide (0 ≤ v) && decide (v ≤ 999999999)) from rfl] at hw
  cases hb : (decide (0 ≤ v) && decide (v ≤ 999999999)) with
  | false => rw [hb] at hw; simp (disch := ((try simp only [LL]); omega)) only [↓GO, ↓DRW, GA, GX, ren, zn, za, refs, z8, cst, zr, isC, bin, una, z7, zd, blt, asArg, zg, zc, zf, z6, E.mkS, unN, ze, zq, zb, GS, simprocAttr, hat, hw]
  | true =>
   rw [hb] at hw
   simp only [Bool.and_eq_true, decide_eq_true_eq] at hb
   have hd := gq v hb.1 hb.2
   cases he : (Lib.itoa v == s) <;> simp (disch := ((try simp only [LL]); omega)) only [↓GO, ↓DRW, GA, GX, ren, zn, za, refs, z8, cst, zr, isC, bin, una, z7, zd, blt, asArg, zg, zc, zf, z6, E.mkS, unN, ze, zq, zb, GS, simprocAttr, bne, hat, hw, hd, he]
 | _ => rw [ha] at hat; simp only at hat ⊢; simp (disch := ((try simp only [LL]); omega)) only [↓GO, ↓DRW, GA, GX, ren, zn, za, refs, z8, cst, zr, isC, bin, una, z7, zd, blt, asArg, zg, zc, zf, z6, E.mkS, unN, ze, zq, zb, GS, simprocAttr, hat]
theorem Ru (s : Str) (hl : s.length ≤ 9) : ∀ (rest pre : Str), s = pre ++ rest → pre.all isD = true →
 ∃ m : V, EV Tryz.prog pol (.loop 195 58 0 [.t (.str s), .t (.int .i64 (uW 0 pre : Nat)), .t (.int .i64 (pre.length : Int))] [])
 = some (cond (rest.all isD) (.loop (.exit 0) [.t (.str s), .bad, .t (.int .i64 (uW 0 s : Nat))] []) (.loop .ret [.t (.str s), .t (.int .i64 (-1)), m] []))
 | [], pre, hs, hd => by
  have c : decide ((pre.length : Int) < (s.length : Int)) = false := by simp [hs]
  have hp : s = pre := by simpa using hs
  refine ⟨.bad, zk Tryz.func195 rfl rfl ?_⟩
  simp only [↓GO, ↓DRW, GA, GX, ren, zn, za, refs, z8, cst, zr, isC, bin, una, z7, zd, blt, asArg, zg, zc, zf, z6, E.mkS, unN, ze, zq, zb, GS, simprocAttr, c]
  rw [hp]
 | b :: rest, pre, hs, hd => by
  have c : decide ((pre.length : Int) < (s.length : Int)) = true := by simp [hs]; omega
  have hget : s[pre.length]? = some b := by rw [hs]; exact sk pre b rest
  have hlen : s.length = pre.length + rest.length + 1 := by rw [hs]; simp; omega
  have hin := wy (b.toNat : Int) 48 57
  rw [bU] at hin
  have c9 : decide ((s.length : Int) > 9) = false := by simp only [decide_eq_false_iff_not]; omega
  have hv := nB pre 0 hd
  have hp10 : (10 : Nat) ^ pre.length ≤ 10 ^ 9 := Nat.pow_le_pow_right (by omega) (by omega)
  have e9 : (10 : Nat) ^ 9 = 1000000000 := by decide
  have hb8 := Tk b
  cases hb : isD b with
  | false =>
   rw [hb] at hin
   refine ⟨.t (.int .i64 (uW 0 pre : Nat)), zk Tryz.func195 rfl rfl ?_⟩
   clear hs hlen
   simp (disch := omega) only [↓GO, ↓DRW, GA, GX, ren, zn, za, refs, z8, cst, zr, isC, bin, una, z7, zd, blt, asArg, zg, zc, zf, z6, E.mkS, unN, ze, zq, zb, GS, simprocAttr, c, hget, zo, conv, wrap_u8, hin, List.all_cons, hb]
  | true =>
   rw [hb] at hin
   have hd2 : (pre ++ [b]).all isD = true := by rw [List.all_append, hd]; simp [hb]
   obtain ⟨m, IH⟩ := Ru s hl rest (pre ++ [b]) (by rw [hs]; simp) hd2
   have hbb := (pM b).1 hb
   have hst : ((uW 0 (pre ++ [b]) : Nat) : Int) = 10 * ((uW 0 pre : Nat) : Int) + (b.toNat : Int) - 48 := by
    rw [kn, qG]; omega
   rw [hst, show ((pre ++ [b]).length : Int) = (pre.length : Int) + 1 by simp] at IH
   have hpl : pre.length ≤ 9 := by omega
   generalize uW 0 pre = vp at *
   generalize uW 0 s = vs at *
   clear hs hlen hst
   refine ⟨m, zk Tryz.func195 rfl rfl ?_⟩
   simp (disch := omega) only [↓GO, ↓DRW, GA, GX, ren, zn, za, refs, z8, cst, zr, isC, bin, una, z7, zd, blt, asArg, zg, zc, zf, z6, E.mkS, unN, ze, zq, zb, GS, simprocAttr, c, hget, zo, conv, wrap_u8, hin, List.all_cons, hb, c9, IH]
theorem l_rdL (s : Str) (h9 : 9 < s.length) (hl : s.length ≤ 281474976710656) :
 EV Tryz.prog pol (.loop 195 58 0 [.t (.str s), .t (.int .i64 0), .t (.int .i64 0)] []) = some (.loop .ret [.t (.str s), .t (.int .i64 (-1)), .t (.int .i64 0)] []) := by
 cases s with
 | nil => simp at h9
 | cons b r =>
  have c : decide ((0 : Int) < ((b :: r).length : Int)) = true := by simp only [decide_eq_true_eq]; omega
  have c9 : decide (((b :: r).length : Int) > 9) = true := by simp only [decide_eq_true_eq]; omega
  have hget : (b :: r)[0]? = some b := rfl
  have hin := wy (b.toNat : Int) 48 57
  rw [bU] at hin
  have hb8 := Tk b
  generalize (b :: r) = s at *
  refine zk Tryz.func195 rfl rfl ?_
  cases hb : isD b with
  | false => rw [hb] at hin; simp (disch := omega) only [↓GO, ↓DRW, GA, GX, ren, zn, za, refs, z8, cst, zr, isC, bin, una, z7, zd, blt, asArg, zg, zc, zf, z6, E.mkS, unN, ze, zq, zb, GS, simprocAttr, c, u6, hget, zo, conv, wrap_u8, hin]
  | true => rw [hb] at hin; simp (disch := omega) only [↓GO, ↓DRW, GA, GX, ren, zn, za, refs, z8, cst, zr, isC, bin, una, z7, zd, blt, asArg, zg, zc, zf, z6, E.mkS, unN, ze, zq, zb, GS, simprocAttr, c, u6, hget, zo, conv, wrap_u8, hin, c9]
theorem iy (s : Str) (hl : s.length ≤ 281474976710656) : zm (EV Tryz.prog pol) 195 [.t (.str s)] = some (.t (.int .i64 (zQ s))) := by
 rw [← Yk]
 apply zu
 refine zw rfl Tryz.func195 rfl (by kernel_rfl) ?_
 unfold Tryz.f195
 unfold rG
 by_cases h9 : s.length ≤ 9
 · obtain ⟨m, IH⟩ := Ru s h9 s [] rfl rfl
   simp only [List.length_nil, Int.natCast_zero, mT] at IH
   have e9 : decide (s.length ≤ 9) = true := by simpa using h9
   have hv := nB s 0
   have hp10 : (10 : Nat) ^ s.length ≤ 10 ^ 9 := Nat.pow_le_pow_right (by omega) h9
   have e10 : (10 : Nat) ^ 9 = 1000000000 := by decide
   cases ha : s.all isD with
   | false => rw [ha] at IH; simp only [cond_false] at IH; simp (disch := ((try simp only [LL]); omega)) only [↓GO, ↓DRW, GA, GX, ren, zn, za, refs, z8, cst, zr, isC, bin, una, z7, zd, blt, asArg, zg, zc, zf, z6, E.mkS, unN, ze, zq, zb, GS, simprocAttr, IH]
   | true =>
    rw [ha] at IH; simp only [cond_true] at IH
    have hv' := hv ha
    have hd := gn (uW 0 s : Nat) (by omega) (by omega)
    cases hn : (s == []) with
    | true => simp (disch := ((try simp only [LL]); omega)) only [↓GO, ↓DRW, GA, GX, ren, zn, za, refs, z8, cst, zr, isC, bin, una, z7, zd, blt, asArg, zg, zc, zf, z6, E.mkS, unN, ze, zq, zb, GS, simprocAttr, IH, e9, hn]
    | false =>
     cases he : (Lib.itoa (uW 0 s : Nat) == s) <;> simp (disch := ((try simp only [LL]); omega)) only [↓GO, ↓DRW, GA, GX, ren, zn, za, refs, z8, cst, zr, isC, bin, una, z7, zd, blt, asArg, zg, zc, zf, z6, E.mkS, unN, ze, zq, zb, GS, simprocAttr, bne, IH, e9, hn, hd, he]
 · have e9 : decide (s.length ≤ 9) = false := by simpa using h9
   have IH := l_rdL s (by omega) (by omega)
   simp (disch := ((try simp only [LL]); omega)) only [↓GO, ↓DRW, GA, GX, ren, zn, za, refs, z8, cst, zr, isC, bin, una, z7, zd, blt, asArg, zg, zc, zf, z6, E.mkS, unN, ze, zq, zb, GS, simprocAttr, IH, e9]
end Go.Proofs.YtonbkdklidfmfaaGreatDoor
/- Names and plain texts, by both; parts between a byte. Conditions: those of each lemma. -/
namespace Go.Proofs.YtonbkdklidfmfaaGreatDoor
open E
set_option linter.unusedSimpArgs false
set_option linter.unusedVariables false
set_option maxRecDepth 100000
theorem aE : ∀ p s : Str, (decide ((s.length : Int) ≥ (p.length : Int)) && (s.take p.length == p)) = p.isPrefixOf s
 | [], s => by
  have : decide ((s.length : Int) ≥ (([] : Str).length : Int)) = true := by simp
  rw [this]; simp [List.isPrefixOf]
 | a :: p, [] => by
  have : decide ((([] : Str).length : Int) ≥ ((a :: p).length : Int)) = false := by simp only [decide_eq_false_iff_not, List.length_cons, List.length_nil]; omega
  rw [this]; simp [List.isPrefixOf]
 | a :: p, b :: s => by
  have ih := aE p s
  have e1 : decide (((b :: s).length : Int) ≥ ((a :: p).length : Int)) = decide ((s.length : Int) ≥ (p.length : Int)) := by
   rw [decide_eq_decide]; simp only [List.length_cons]; omega
  rw [e1, List.isPrefixOf, ← ih, List.length_cons, List.take_succ_cons]
  by_cases h : b = a
  · subst h
    have : (b :: List.take p.length s == b :: p) = (List.take p.length s == p) := by rw [Bool.eq_iff_iff]; simp
    rw [this]; simp
  · have h2 : (b :: List.take p.length s == a :: p) = false := by rw [beq_eq_false_iff_ne]; intro e; injection e with e1 e2; exact h e1
    have h3 : (a == b) = false := by rw [beq_eq_false_iff_ne]; exact fun e => h e.symm
    rw [h2, h3]; simp
theorem jF (s p : Str) (hs : s.length ≤ 9223372036854775807) (hp : p.length ≤ 9223372036854775807) : zm (EV Tryz.prog pol) 182 [.t (.str s), .t (.str p)] = some (.t (.bool (p.isPrefixOf s))) := by
 rw [← aE]
 apply zu
 refine zw rfl Tryz.func182 rfl (by kernel_rfl) ?_
 unfold Tryz.f182
 cases h : decide ((s.length : Int) ≥ (p.length : Int)) with
 | false => simp (disch := ((try simp only [LL]); omega)) only [↓GO, ↓DRW, GA, GX, ren, zn, za, refs, z8, cst, zr, isC, bin, una, z7, zd, blt, asArg, zg, zc, zf, z6, E.mkS, unN, ze, zq, zb, GS, simprocAttr, GZ, h]
 | true =>
  have h2 := of_decide_eq_true h
  simp (disch := ((try simp only [LL]); omega)) only [↓GO, ↓DRW, GA, GX, ren, zn, za, refs, z8, cst, zr, isC, bin, una, z7, zd, blt, asArg, zg, zc, zf, z6, E.mkS, unN, ze, zq, zb, GS, simprocAttr, GZ, h]
theorem Vq (s p : Str) (hs : s.length ≤ 9223372036854775807) (hp : p.length ≤ 9223372036854775807) : zm (EV Tryz.prog pol) 151 [.t (.str s), .t (.str p)] = some (.t (.bool (p.isPrefixOf s))) := by
 have h := jF s p hs hp
 apply zu
 refine zw rfl Tryz.func151 rfl (by kernel_rfl) ?_
 unfold Tryz.f151
 simp (disch := ((try simp only [LL]); omega)) only [↓GO, ↓DRW, GA, GX, ren, zn, za, refs, z8, cst, zr, isC, bin, una, z7, zd, blt, asArg, zg, zc, zf, z6, E.mkS, unN, ze, zq, zb, GS, simprocAttr, GZ, h]
theorem fZ : ∀ {p s : Str}, p.isPrefixOf s = true → p.length ≤ s.length
 | [], s, _ => by simp
 | a :: p, [], h => by simp [List.isPrefixOf] at h
 | a :: p, b :: s, h => by
  simp only [List.isPrefixOf, Bool.and_eq_true] at h
  have := fZ h.2
  simp only [List.length_cons]; omega
theorem cN (s p : Str) (hs : s.length ≤ 9223372036854775807) (hp : p.length ≤ 9223372036854775807) : zm (EV Tryz.prog pol) 184 [.t (.str s), .t (.str p)] = some (.t (.str (cond (p.isPrefixOf s) (s.drop p.length) s))) := by
 have h := jF s p hs hp
 apply zu
 refine zw rfl Tryz.func184 rfl (by kernel_rfl) ?_
 unfold Tryz.f184
 cases hb : p.isPrefixOf s with
 | false => rw [hb] at h; simp (disch := ((try simp only [LL]); omega)) only [↓GO, ↓DRW, GA, GX, ren, zn, za, refs, z8, cst, zr, isC, bin, una, z7, zd, blt, asArg, zg, zc, zf, z6, E.mkS, unN, ze, zq, zb, GS, simprocAttr, GZ, h]
 | true =>
  have h2 := fZ hb
  rw [hb] at h; simp (disch := ((try simp only [LL]); omega)) only [↓GO, ↓DRW, GA, GX, ren, zn, za, refs, z8, cst, zr, isC, bin, una, z7, zd, blt, asArg, zg, zc, zf, z6, E.mkS, unN, ze, zq, zb, GS, simprocAttr, GZ, h]
theorem YX (s p : Str) (hs : s.length ≤ 9223372036854775807) (hp : p.length ≤ 9223372036854775807) : zm (EV Tryz.prog pol) 153 [.t (.str s), .t (.str p)] = some (.t (.str (cond (p.isPrefixOf s) (s.drop p.length) s))) := by
 have h := cN s p hs hp
 apply zu
 refine zw rfl Tryz.func153 rfl (by kernel_rfl) ?_
 unfold Tryz.f153
 simp (disch := ((try simp only [LL]); omega)) only [↓GO, ↓DRW, GA, GX, ren, zn, za, refs, z8, cst, zr, isC, bin, una, z7, zd, blt, asArg, zg, zc, zf, z6, E.mkS, unN, ze, zq, zb, GS, simprocAttr, GZ, h]
theorem TI (s : Str) : cond (([64] : Str).isPrefixOf s) (s.drop ([64] : Str).length) s = xj s := by
 cases s with
 | nil => rfl
 | cons x s =>
  by_cases h : x = 64
  · subst h; simp [List.isPrefixOf, xj]
  · have : (64 == x) = false := by rw [beq_eq_false_iff_ne]; exact fun e => h e.symm
    simp [List.isPrefixOf, xj, h, this]
theorem SS (b : UInt8) : zm (EV Tryz.prog pol) 155 [.t (.int .u8 (b.toNat : Int))] = some (.t (.bool (uD b))) := by
 have h1 := jE (b.toNat : Int)
 have h2 := oz (b.toNat : Int)
 apply zu
 refine zw rfl Tryz.func155 rfl (by kernel_rfl) ?_
 unfold Tryz.f155
 simp only [uD, nb]
 generalize hx : B2 (b.toNat : Int) 97 122 = x1 at *
 generalize hy : B2 (b.toNat : Int) 48 57 = x2 at *
 repeat' (first | (((first | with_reducible refine sj (fun hA => ?_) (fun hA => ?_) | with_reducible refine si (fun hA => ?_) (fun hA => ?_)) <;> (try simp only [bne, Bool.not_eq_true', Bool.not_eq_false'] at hA) <;> (first | (have hP := Int.le_of_eq (eq_of_beq (α := Int) hA); have hQ := Int.le_of_eq (eq_of_beq (α := Int) hA).symm) | have hP := of_decide_eq_true hA | have hP := of_decide_eq_false hA | skip)) <;> (simp (disch := ((try simp only [LL]); omega)) only [↓GO, ↓DRW, GA, GX, ren, zn, za, refs, z8, cst, zr, isC, bin, una, z7, zd, blt, asArg, zg, zc, zf, z6, E.mkS, unN, ze, zq, zb, GS, simprocAttr, zo, bne, *])) | (simp (disch := ((try simp only [LL]); omega)) only [↓GO, ↓DRW, GA, GX, ren, zn, za, refs, z8, cst, zr, isC, bin, una, z7, zd, blt, asArg, zg, zc, zf, z6, E.mkS, unN, ze, zq, zb, GS, simprocAttr, zo, bne, *]))
theorem nW (b : UInt8) (s : Str) : lD s [b] = xa b s := by
 rw [← kt]
 unfold lD Lib.split Lib.countB
 rw [Lib.splitB_data]
theorem vZ (x : Str) (l : List Str) : strs (x :: l) = [.str x] :: strs l := rfl
theorem pc (a b : List Str) : strs (a ++ b) = strs a ++ strs b := by simp [strs]
theorem yo : strs [] = [] := rfl
/-- a place in a list of texts, told by what stands ahead of it -/
theorem wY (pre : List Str) (x : Str) (rest : List Str) : (strs (pre ++ x :: rest))[pre.length]? = some [.str x] := by
 rw [pc, vZ]
 have := sk (strs pre) [T.str x] (strs rest)
 rwa [zh] at this
theorem Z8 (s : Str) (sc : Bool) (parts : List Str) (hl : parts.length ≤ 4294967296) (hb : ∀ p ∈ parts, p.length ≤ 4294967296) : ∀ (rest pre : List Str), parts = pre ++ rest →
 EV Tryz.prog pol (.loop 123 58 0 [.t (.str s), .t (.bool sc), .t (.list 1 (strs parts)), .t (.int .i64 (parts.length : Int)), .t (.int .i64 (pre.length : Int))] []) = some (cond (uy (sc && ((pre.length : Int) == 0)) rest) (.loop (.exit 0) [.t (.str s), .bad] []) (.loop .ret [.t (.str s), .t (.bool false)] []))
 | [], pre, hs => by
  have c : decide ((pre.length : Int) < (parts.length : Int)) = false := by simp [hs]
  refine zk Tryz.func123 rfl rfl ?_
  simp only [↓GO, ↓DRW, GA, GX, ren, zn, za, refs, z8, cst, zr, isC, bin, una, z7, zd, blt, asArg, zg, zc, zf, z6, E.mkS, unN, ze, zq, zb, GS, simprocAttr, c, uy]
 | x :: rest, pre, hs => by
  have c : decide ((pre.length : Int) < (parts.length : Int)) = true := by simp [hs]; omega
  have hget : (strs parts)[pre.length]? = some [.str x] := by rw [hs]; exact wY pre x rest
  have hlen : pre.length + rest.length + 1 ≤ parts.length := by rw [hs]; simp; omega
  have hx : x.length ≤ 4294967296 := hb x (by rw [hs]; simp)
  have IH := Z8 s sc parts hl hb rest (pre ++ [x]) (by rw [hs]; simp)
  have hc := Yd 155 uD SS x (by omega)
  rw [show ((pre ++ [x]).length : Int) = (pre.length : Int) + 1 by simp] at IH
  have e0 : (((pre.length : Int) + 1 == 0)) = false := by rw [beq_eq_false_iff_ne]; omega
  rw [e0, Bool.and_false] at IH
  clear hs hb
  refine zk Tryz.func123 rfl rfl ?_
  rw [uy]
  have hN : (x == rQ) = (x == [110, 111, 100, 101, 95, 109, 111, 100, 117, 108, 101, 115]) := rfl
  rw [hN]
  cases ha : x.all uD <;> rw [ha] at hc <;> cases h1 : (x == []) <;> cases h2 : (x == [110, 111, 100, 101, 95, 109, 111, 100, 117, 108, 101, 115]) <;> cases sc <;> cases h3 : ((pre.length : Int) == 0) <;>
   simp (disch := ((try simp only [LL]); omega)) only [↓GO, ↓DRW, GA, GX, ren, zn, za, refs, z8, cst, zr, isC, bin, una, z7, zd, blt, asArg, zg, zc, zf, z6, E.mkS, unN, ze, zq, zb, GS, simprocAttr, GZ, c, hget, zo, hc, h1, h2, h3, IH, zh]
theorem SR (s : Str) (hl : s.length ≤ 1048576) : zm (EV Tryz.prog pol) 123 [.t (.str s)] = some (.t (.bool (sY s))) := by
 have h1 := Vq s [64] (by omega) (by simp)
 have h2 := YX s [64] (by omega) (by simp)
 rw [TI] at h2
 have ht : (xj s).length ≤ s.length := by
  unfold xj; split
  · simp
  · split
    · simp
    · simp
 have hbk := vt 47 (xj s)
 have h3 := iX (xj s) [47] (by omega) (by simp)
 rw [nW] at h3
 have IH := Z8 s (nv s) (xa 47 (xj s)) (by omega) (fun p hp => by have := uu hp; omega) _ [] rfl
 rw [show (([64] : Str).isPrefixOf s) = nv s from rfl] at h1
 simp only [List.length_nil, Int.natCast_zero, show ((0 : Int) == 0) = true from rfl, Bool.and_true] at IH
 apply zu
 refine zw rfl Tryz.func123 rfl (by kernel_rfl) ?_
 unfold Tryz.f123
 unfold sY
 cases hp : uy (nv s) (xa 47 (xj s)) <;> rw [hp] at IH <;> simp only [cond_true, cond_false] at IH <;>
  simp (disch := ((try simp only [LL]); omega)) only [↓GO, ↓DRW, GA, GX, ren, zn, za, refs, z8, cst, zr, isC, bin, una, z7, zd, blt, asArg, zg, zc, zf, z6, E.mkS, unN, ze, zq, zb, GS, simprocAttr, GZ, h1, h2, h3, zh, IH]
theorem bR (s : Str) (b : UInt8) (hl : s.length ≤ 4294967296) : ∀ (rest cur pre : Str) (out : List Str) (cap : Option Nat) (m : Nat), s = pre ++ (cur ++ rest) → m = pre.length + cur.length → out.length ≤ m →
 ∃ (out' : List Str) (fr : Nat) (cap' : Option Nat), out'.length ≤ s.length ∧ fr ≤ s.length ∧ out' ++ [s.drop fr] = out ++ (match xa b rest with | p :: r => (cur ++ p) :: r | [] => []) ∧
  EV Tryz.prog pol (.loop 148 122 0 [.t (.str s), .t (.int .u8 (b.toNat : Int)), .sl 0 0 out.length cap, .t (.int .i64 (pre.length : Int)), .t (.int .i64 (m : Int))] [.ts 1 (strs out)]) = some (.loop (.exit 0) [.t (.str s), .sl 0 0 out'.length cap', .t (.int .i64 (fr : Int))] [.ts 1 (strs out')])
 | [], cur, pre, out, cap, m, hs, hm, ho => by
  have c : decide ((m : Int) < (s.length : Int)) = false := by simp [hs]; omega
  have hn : s.length = pre.length + cur.length := by rw [hs]; simp
  refine ⟨out, pre.length, cap, by omega, by omega, ?_, ?_⟩
  · simp only [xa, hs, List.append_nil, List.drop_left]
  · refine zk Tryz.func148 rfl rfl ?_
    simp only [↓GO, ↓DRW, GA, GX, ren, zn, za, refs, z8, cst, zr, isC, bin, una, z7, zd, blt, asArg, zg, zc, zf, z6, E.mkS, unN, ze, zq, zb, GS, simprocAttr, c]
 | x :: rest, cur, pre, out, cap, m, hs, hm, ho => by
  have hn : s.length = pre.length + cur.length + rest.length + 1 := by rw [hs]; simp; omega
  have c : decide ((m : Int) < (s.length : Int)) = true := by simp only [decide_eq_true_eq]; omega
  have hget : s[m]? = some x := by
   rw [hs, hm, ← List.append_assoc, ← List.length_append]; exact sk (pre ++ cur) x rest
  by_cases hx : x = b
  · subst hx
    have hcut : (s.drop pre.length).take (m - pre.length) = cur := by
     rw [hs, hm, List.drop_left, show pre.length + cur.length - pre.length = cur.length by omega, List.take_left]
    obtain ⟨out', fr, cap', q1, q2, q3, q4⟩ := bR s x hl rest [] (pre ++ cur ++ [x]) (out ++ [cur]) none (m + 1) (by rw [hs]; simp) (by simp; omega) (by simp; omega)
    refine ⟨out', fr, cap', q1, q2, ?_, ?_⟩
    · rw [q3, ur]
      cases hc : xa x rest with
      | nil => exact absurd hc (rL x rest)
      | cons p r => simp
    · rw [show ((pre ++ cur ++ [x]).length : Int) = (m : Int) + 1 by simp; omega, show ((m + 1 : Nat) : Int) = (m : Int) + 1 by omega] at q4
      rw [pc, vZ, yo, List.length_append, List.length_cons, List.length_nil, Nat.zero_add] at q4
      have hol : out.length ≤ 4294967296 := by omega
      clear hs q3
      refine zk Tryz.func148 rfl rfl ?_
      simp (disch := ((try simp only [LL]); omega)) only [↓GO, ↓DRW, GA, GX, ren, zn, za, refs, z8, cst, zr, isC, bin, una, z7, zd, blt, asArg, zg, zc, zf, z6, E.mkS, unN, ze, zq, zb, GS, simprocAttr, GZ, c, hget, zo, hcut, q4, zh, yY]
  · have c2 : ((x.toNat : Int) == (b.toNat : Int)) = false := by
     rw [beq_eq_false_iff_ne]; intro e; exact hx (UInt8.toNat_inj.1 (by omega))
    obtain ⟨out', fr, cap', q1, q2, q3, q4⟩ := bR s b hl rest (cur ++ [x]) pre out cap (m + 1) (by rw [hs]; simp) (by simp; omega) (by omega)
    refine ⟨out', fr, cap', q1, q2, ?_, ?_⟩
    · rw [q3]
      cases hc : xa b rest with
      | nil => exact absurd hc (rL b rest)
      | cons p r => rw [wT b x rest p r hx hc]; simp
    · rw [show ((m + 1 : Nat) : Int) = (m : Int) + 1 by omega] at q4
      clear hs q3
      refine zk Tryz.func148 rfl rfl ?_
      simp (disch := ((try simp only [LL]); omega)) only [↓GO, ↓DRW, GA, GX, ren, zn, za, refs, z8, cst, zr, isC, bin, una, z7, zd, blt, asArg, zg, zc, zf, z6, E.mkS, unN, ze, zq, zb, GS, simprocAttr, GZ, c, hget, zo, c2, q4, zh, yY]
theorem a7 (s : Str) (b : UInt8) (hl : s.length ≤ 4194304) : zm (EV Tryz.prog pol) 148 [.t (.str s), .t (.int .u8 (b.toNat : Int))] = some (.t (.list 1 (strs (xa b s)))) := by
 obtain ⟨out, fr, cap, q1, q2, q3, q4⟩ := bR s b (by omega) s [] [] [] (some 0) 0 rfl rfl (by simp)
 simp only [List.nil_append, List.length_nil, Int.natCast_zero, yo] at q4 q3
 have e : (match xa b s with | p :: r => p :: r | [] => []) = xa b s := by cases xa b s <;> rfl
 rw [e] at q3
 have ho : (strs out ++ [[.str (List.drop fr s)]]) = strs (xa b s) := by rw [← q3, pc]; rfl
 have ht : List.take (out.length + 1) (strs (xa b s)) = strs (xa b s) := List.take_of_length_le (by rw [zh, ← q3]; simp)
 apply zu
 refine zw rfl Tryz.func148 rfl (by kernel_rfl) ?_
 unfold Tryz.f148
 simp (disch := ((try simp only [LL]); omega)) only [↓GO, ↓DRW, GA, GX, ren, zn, za, refs, z8, cst, zr, isC, bin, una, z7, zd, blt, asArg, zg, zc, zf, z6, E.mkS, unN, ze, zq, zb, GS, simprocAttr, GZ, q4, zh, yY, ho, ht]
theorem sR (s : Str) (P : T) (i : T) (p : Str) (hl : p.length ≤ 4294967296) : ∀ (rest pre : Str), p = pre ++ rest →
 EV Tryz.prog pol (.loop 120 59706 0 [.t (.str s), .t P, .t i, .t (.str p), .t (.int .i64 (pre.length : Int))] []) = some (cond (rest.all uD) (.loop (.exit 2) [.t (.str s), .bad, .t P, .t i, .t (.str p)] []) (.loop .ret [.t (.str s), .t (.bool false), .t P, .t i, .t (.str p)] []))
 | [], pre, hs => by
  have c : decide ((pre.length : Int) < (p.length : Int)) = false := by simp [hs]
  refine zk Tryz.func120 rfl rfl ?_
  simp only [↓GO, ↓DRW, GA, GX, ren, zn, za, refs, z8, cst, zr, isC, bin, una, z7, zd, blt, asArg, zg, zc, zf, z6, E.mkS, unN, ze, zq, zb, GS, simprocAttr, c]
 | b :: rest, pre, hs => by
  have c : decide ((pre.length : Int) < (p.length : Int)) = true := by simp [hs]; omega
  have hget : p[pre.length]? = some b := by rw [hs]; exact sk pre b rest
  have hlen : p.length = pre.length + rest.length + 1 := by rw [hs]; simp; omega
  have IH := sR s P i p hl rest (pre ++ [b]) (by rw [hs]; simp)
  rw [show ((pre ++ [b]).length : Int) = (pre.length : Int) + 1 by simp] at IH
  have hb := nr b
  clear hs
  refine zk Tryz.func120 rfl rfl ?_
  rw [List.all_cons, uD]
  simp only [nb] at *
  cases h1 : (B2 (b.toNat : Int) 97 122 || B2 (b.toNat : Int) 48 57) <;> rw [h1] at hb <;> cases h2 : ((b.toNat : Int) == 46) <;> cases h3 : ((b.toNat : Int) == 95) <;> cases h4 : ((b.toNat : Int) == 45) <;>
   simp (disch := ((try simp only [LL]); omega)) only [↓GO, ↓DRW, GA, GX, ren, zn, za, refs, z8, cst, zr, isC, bin, una, z7, zd, blt, asArg, zg, zc, zf, z6, E.mkS, unN, ze, zq, zb, GS, simprocAttr, GZ, c, hget, zo, hb, h2, h3, h4, bne, IH]
theorem Z7 (s : Str) (parts : List Str) (hl : parts.length ≤ 4294967296) (hb : ∀ p ∈ parts, p.length ≤ 4294967296) : ∀ (rest pre : List Str), parts = pre ++ rest → pre ≠ [] →
 EV Tryz.prog pol (.loop 120 58 0 [.t (.str s), .t (.list 1 (strs parts)), .t (.int .i64 (pre.length : Int))] []) = some (cond (lL rest) (.loop (.exit 0) [.t (.str s), .bad] []) (.loop .ret [.t (.str s), .t (.bool false)] []))
 | [], pre, hs, _ => by
  have c : decide ((pre.length : Int) < (parts.length : Int)) = false := by simp [hs]
  refine zk Tryz.func120 rfl rfl ?_
  simp only [↓GO, ↓DRW, GA, GX, ren, zn, za, refs, z8, cst, zr, isC, bin, una, z7, zd, blt, asArg, zg, zc, zf, z6, E.mkS, unN, ze, zq, zb, GS, simprocAttr, zh, c, lL]
 | x :: rest, pre, hs, hn => by
  have c : decide ((pre.length : Int) < (parts.length : Int)) = true := by simp [hs]; omega
  have hget : (strs parts)[pre.length]? = some [.str x] := by rw [hs]; exact wY pre x rest
  have hlen : pre.length + rest.length + 1 ≤ parts.length := by rw [hs]; simp; omega
  have hx : x.length ≤ 4294967296 := hb x (by rw [hs]; simp)
  have IH := Z7 s parts hl hb rest (pre ++ [x]) (by rw [hs]; simp) (by simp)
  have hin := sR s (.list 1 (strs parts)) (.int .i64 (pre.length : Int)) x hx x [] rfl
  simp only [List.length_nil, Int.natCast_zero] at hin
  rw [show ((pre ++ [x]).length : Int) = (pre.length : Int) + 1 by simp] at IH
  have e0 : (((pre.length : Int) == 0)) = false := by
   rw [beq_eq_false_iff_ne]; intro h; apply hn; apply List.eq_nil_of_length_eq_zero; omega
  clear hs hb
  refine zk Tryz.func120 rfl rfl ?_
  rw [lL]
  have hN : (x == rQ) = (x == [110, 111, 100, 101, 95, 109, 111, 100, 117, 108, 101, 115]) := rfl
  rw [hN]
  cases ha : x.all uD <;> rw [ha] at hin <;> simp only [cond_true, cond_false] at hin <;> cases h1 : (x == []) <;> cases h2 : (x == [110, 111, 100, 101, 95, 109, 111, 100, 117, 108, 101, 115]) <;>
   simp (disch := ((try simp only [LL]); omega)) only [↓GO, ↓DRW, GA, GX, ren, zn, za, refs, z8, cst, zr, isC, bin, una, z7, zd, blt, asArg, zg, zc, zf, z6, E.mkS, unN, ze, zq, zb, GS, simprocAttr, GZ, c, hget, zo, hin, h1, h2, e0, IH, zh]
theorem Si (s : Str) (parts : List Str) (hl : parts.length ≤ 4294967296) (hb : ∀ p ∈ parts, p.length ≤ 4294967296) (x : Str) (rest : List Str) (hs : parts = x :: rest) :
 EV Tryz.prog pol (.loop 120 58 0 [.t (.str s), .t (.list 1 (strs parts)), .t (.int .i64 0)] []) = some (cond (qM (x :: rest)) (.loop (.exit 0) [.t (.str s), .bad] []) (.loop .ret [.t (.str s), .t (.bool false)] [])) := by
 have c : decide ((0 : Int) < (parts.length : Int)) = true := by simp only [decide_eq_true_eq, hs, List.length_cons]; omega
 have hget : (strs parts)[0]? = some [.str x] := by rw [hs]; rfl
 have hx : x.length ≤ 4294967296 := hb x (by rw [hs]; simp)
 have IH := Z7 s parts hl hb rest [x] hs (by simp)
 simp only [List.length_nil, List.length_cons, Nat.zero_add, Int.natCast_one] at IH
 have hN : (x == rQ) = (x == [110, 111, 100, 101, 95, 109, 111, 100, 117, 108, 101, 115]) := rfl
 rw [qM, hN]
 clear hs hb hN
 cases x with
 | nil =>
  have hin := sR s (.list 1 (strs parts)) (.int .i64 0) [] hx [] [] rfl
  simp only [List.length_nil, Int.natCast_zero, List.all_nil, cond_true] at hin
  have h2 : (([] : Str) == [110, 111, 100, 101, 95, 109, 111, 100, 117, 108, 101, 115]) = false := rfl
  have h3 : (([] : Str) == []) = true := rfl
  have h4 : xj [] = [] := rfl
  refine zk Tryz.func120 rfl rfl ?_
  simp (disch := ((try simp only [LL]); omega)) only [↓GO, ↓DRW, GA, GX, ren, zn, za, refs, z8, cst, zr, isC, bin, una, z7, zd, blt, asArg, zg, zc, zf, z6, E.mkS, unN, ze, zq, zb, GS, simprocAttr, GZ, c, hget, zo, hin, zh, h2, h3, h4, Int.natCast_zero]
 | cons y t =>
  have hlt : decide (((y :: t).length : Int) > 0) = true := by simp only [decide_eq_true_eq, List.length_cons]; omega
  have hg0 : (y :: t)[0]? = some y := rfl
  have hyl : 1 ≤ (y :: t).length := by simp
  by_cases h64 : y = 64
  · subst h64
    have hin2 := sR s (.list 1 (strs parts)) (.int .i64 0) t (by simp only [List.length_cons] at hx; omega) t [] rfl
    simp only [List.length_nil, Int.natCast_zero] at hin2
    have e1 : (((64 : UInt8) :: t) == [110, 111, 100, 101, 95, 109, 111, 100, 117, 108, 101, 115]) = false := by simp
    have e2 : xj (64 :: t) = t := by simp [xj]
    have e3 : (((64 : UInt8)).toNat : Int) = 64 := rfl
    have hd : List.drop 1 ((64 : UInt8) :: t) = t := rfl
    rw [e2]
    generalize hy : (64 : UInt8) :: t = yy at *
    cases ha : t.all uD <;> rw [ha] at hin2 <;> simp only [cond_true, cond_false] at hin2 <;> cases h1 : (t == []) <;>
     refine zk Tryz.func120 rfl rfl ?_ <;> simp (disch := ((try simp only [LL]); omega)) only [↓GO, ↓DRW, GA, GX, ren, zn, za, refs, z8, cst, zr, isC, bin, una, z7, zd, blt, asArg, zg, zc, zf, z6, E.mkS, unN, ze, zq, zb, GS, simprocAttr, GZ, c, hget, zo, hin2, zh, e1, e3, hlt, hg0, hd, h1, IH, Int.zero_add]
  · have e2 : xj (y :: t) = y :: t := by simp [xj, h64]
    have e3 : ((y.toNat : Int) == 64) = false := by
     rw [beq_eq_false_iff_ne]; intro h; exact h64 (UInt8.toNat_inj.1 (by rw [show (64 : UInt8).toNat = 64 from rfl]; omega))
    have hin := sR s (.list 1 (strs parts)) (.int .i64 0) (y :: t) hx (y :: t) [] rfl
    simp only [List.length_nil, Int.natCast_zero] at hin
    rw [e2]
    have h1 : ((y :: t) == []) = false := rfl
    generalize hy : y :: t = yy at *
    cases ha : yy.all uD <;> rw [ha] at hin <;> simp only [cond_true, cond_false] at hin <;> cases h2 : (yy == [110, 111, 100, 101, 95, 109, 111, 100, 117, 108, 101, 115]) <;>
     refine zk Tryz.func120 rfl rfl ?_ <;> simp (disch := ((try simp only [LL]); omega)) only [↓GO, ↓DRW, GA, GX, ren, zn, za, refs, z8, cst, zr, isC, bin, una, z7, zd, blt, asArg, zg, zc, zf, z6, E.mkS, unN, ze, zq, zb, GS, simprocAttr, GZ, c, hget, zo, hin, zh, e3, hlt, hg0, h1, h2, IH, Int.zero_add]
theorem SQ (s : Str) (hl : s.length ≤ 1048576) : zm (EV Tryz.prog pol) 120 [.t (.str s)] = some (.t (.bool (sY s))) := by
 have hbk := vt 47 s
 have h3 := a7 s 47 (by omega)
 rw [show (((47 : UInt8)).toNat : Int) = 47 from rfl] at h3
 rw [← YD]
 cases hc : xa 47 s with
 | nil => exact absurd hc (rL 47 s)
 | cons x rest =>
  rw [hc] at h3 hbk
  have hb : ∀ p ∈ x :: rest, p.length ≤ 4294967296 := fun p hp => by have := uu hp; omega
  have LP := Si s (x :: rest) (by omega) hb x rest rfl
  generalize x :: rest = parts at *
  apply zu
  refine zw rfl Tryz.func120 rfl (by kernel_rfl) ?_
  unfold Tryz.f120
  cases hp : qM parts <;> rw [hp] at LP <;> simp only [cond_true, cond_false] at LP <;>
   simp (disch := ((try simp only [LL]); omega)) only [↓GO, ↓DRW, GA, GX, ren, zn, za, refs, z8, cst, zr, isC, bin, una, z7, zd, blt, asArg, zg, zc, zf, z6, E.mkS, unN, ze, zq, zb, GS, simprocAttr, GZ, h3, LP]
theorem Vg (b : UInt8) : zm (EV Tryz.prog pol) 160 [.t (.int .u8 (b.toNat : Int))] = some (.t (.bool (qL b))) := by
 apply zu
 refine zw rfl Tryz.func160 rfl (by kernel_rfl) ?_
 unfold Tryz.f160
 unfold qL B2
 simp only [nb]
 cases h1 : decide ((33 : Int) ≤ (b.toNat : Int)) <;> cases h2 : decide ((b.toNat : Int) ≤ 126) <;> cases h3 : ((b.toNat : Int) == 34) <;> cases h4 : ((b.toNat : Int) == 39) <;> cases h5 : ((b.toNat : Int) == 44) <;>
  simp (disch := ((try simp only [LL]); omega)) only [↓GO, ↓DRW, GA, GX, ren, zn, za, refs, z8, cst, zr, isC, bin, una, z7, zd, blt, asArg, zg, zc, zf, z6, E.mkS, unN, ze, zq, zb, GS, simprocAttr, GZ, h1, h2, h3, h4, h5, bne, ge_iff_le]
theorem Vf (s : Str) (hl : s.length ≤ 1048576) : zm (EV Tryz.prog pol) 125 [.t (.str s)] = some (.t (.bool (sb s))) := by
 have h := Yd 160 qL Vg s (by omega)
 apply zu
 refine zw rfl Tryz.func125 rfl (by kernel_rfl) ?_
 unfold Tryz.f125
 unfold sb
 cases h1 : decide ((s.length : Int) ≤ 100) <;> simp (disch := ((try simp only [LL]); omega)) only [↓GO, ↓DRW, GA, GX, ren, zn, za, refs, z8, cst, zr, isC, bin, una, z7, zd, blt, asArg, zg, zc, zf, z6, E.mkS, unN, ze, zq, zb, GS, simprocAttr, GZ, h, h1]
theorem eM (s : Str) (hl : s.length ≤ 1048576) : ∀ (rest pre : Str), s = pre ++ rest →
 EV Tryz.prog pol (.loop 122 26 0 [.t (.str s), .t (.int .i64 (pre.length : Int))] []) = some (cond (rest.all qL) (.loop (.exit 0) [.t (.str s), .bad] []) (.loop .ret [.t (.str s), .t (.bool false)] []))
 | [], pre, hs => by
  have c : decide ((pre.length : Int) < (s.length : Int)) = false := by simp [hs]
  refine zk Tryz.func122 rfl rfl ?_
  simp only [↓GO, ↓DRW, GA, GX, ren, zn, za, refs, z8, cst, zr, isC, bin, una, z7, zd, blt, asArg, zg, zc, zf, z6, E.mkS, unN, ze, zq, zb, GS, simprocAttr, c]
 | b :: rest, pre, hs => by
  have c : decide ((pre.length : Int) < (s.length : Int)) = true := by simp [hs]; omega
  have hget : s[pre.length]? = some b := by rw [hs]; exact sk pre b rest
  have hlen : s.length = pre.length + rest.length + 1 := by rw [hs]; simp; omega
  have IH := eM s hl rest (pre ++ [b]) (by rw [hs]; simp)
  rw [show ((pre ++ [b]).length : Int) = (pre.length : Int) + 1 by simp] at IH
  have hb := wy (b.toNat : Int) 33 126
  clear hs
  refine zk Tryz.func122 rfl rfl ?_
  rw [List.all_cons, qL]
  simp only [nb]
  cases h1 : B2 (b.toNat : Int) 33 126 <;> rw [h1] at hb <;> cases h3 : ((b.toNat : Int) == 34) <;> cases h4 : ((b.toNat : Int) == 39) <;> cases h5 : ((b.toNat : Int) == 44) <;> cases h6 : ((b.toNat : Int) == 92) <;>
   simp (disch := ((try simp only [LL]); omega)) only [↓GO, ↓DRW, GA, GX, ren, zn, za, refs, z8, cst, zr, isC, bin, una, z7, zd, blt, asArg, zg, zc, zf, z6, E.mkS, unN, ze, zq, zb, GS, simprocAttr, GZ, c, hget, zo, conv, wrap_u8, hb, h3, h4, h5, h6, bne, IH]
theorem Ve (s : Str) (hl : s.length ≤ 1048576) : zm (EV Tryz.prog pol) 122 [.t (.str s)] = some (.t (.bool (sb s))) := by
 have IH := eM s hl s [] rfl
 simp only [List.length_nil, Int.natCast_zero] at IH
 apply zu
 refine zw rfl Tryz.func122 rfl (by kernel_rfl) ?_
 unfold Tryz.f122
 unfold sb
 cases ha : s.all qL <;> rw [ha] at IH <;> simp only [cond_true, cond_false] at IH
 · simp (disch := ((try simp only [LL]); omega)) only [↓GO, ↓DRW, GA, GX, ren, zn, za, refs, z8, cst, zr, isC, bin, una, z7, zd, blt, asArg, zg, zc, zf, z6, E.mkS, unN, ze, zq, zb, GS, simprocAttr, GZ, IH]
 · cases h1 : decide ((s.length : Int) ≤ 100) with
   | false => simp (disch := ((try simp only [LL]); omega)) only [↓GO, ↓DRW, GA, GX, ren, zn, za, refs, z8, cst, zr, isC, bin, una, z7, zd, blt, asArg, zg, zc, zf, z6, E.mkS, unN, ze, zq, zb, GS, simprocAttr, GZ, IH, h1]
   | true =>
    have h2 := of_decide_eq_true h1
    have h3 : decide ((s.length : Int) < 20000) = true := by simp only [decide_eq_true_eq]; omega
    simp (disch := ((try simp only [LL]); omega)) only [↓GO, ↓DRW, GA, GX, ren, zn, za, refs, z8, cst, zr, isC, bin, una, z7, zd, blt, asArg, zg, zc, zf, z6, E.mkS, unN, ze, zq, zb, GS, simprocAttr, GZ, IH, h1, h3]
end Go.Proofs.YtonbkdklidfmfaaGreatDoor

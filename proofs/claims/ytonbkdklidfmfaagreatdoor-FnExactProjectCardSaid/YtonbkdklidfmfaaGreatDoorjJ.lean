/- Joined: M9 B1 B2 B3 B4 B5 B6 P1 P2 I1 I2 V1 N1 V2 N0 N2. Conditions: those of each lemma. -/
import Derived.Test.YtonbkdklidfmfaaGreatDoorjI
import Derived.Test.YtonbkdklidfmfaaGreatDoorjH
import Derived.Lib.SplitLaws
import Derived.Lib.ItoaMem
import Derived.Lib.AtoiAll
import Derived.Lib.Join
set_option linter.unusedVariables false
set_option linter.unusedSimpArgs false
namespace Go.Proofs.YtonbkdklidfmfaaGreatDoor
open E
set_option linter.unusedSimpArgs false
set_option linter.unusedVariables false
set_option maxRecDepth 100000
def zt : Tr := .mk 0 0 [] [] []
end Go.Proofs.YtonbkdklidfmfaaGreatDoor
/- Graphs laid anew, with memory of their own. Conditions: those of each lemma. -/
namespace Go.Proofs.YtonbkdklidfmfaaGreatDoor
open E
set_option linter.unusedSimpArgs false
set_option linter.unusedVariables false
set_option maxRecDepth 100000
theorem xl : ∀ l : List zy, vJ (zy.zh l) = true
 | [] => rfl
 | x :: l => by
  have := xl l
  unfold vJ zy.zh at this ⊢
  rw [List.map_cons, List.all_cons, this]; rfl
theorem ve : ∀ l : List z1, ((ocE (z1.zh l)).all fun c => zO.rowTs c) = true
 | [] => rfl
 | x :: l => by
  rw [show ocE (z1.zh (x :: l)) = x.enc.map oc :: ocE (z1.zh l) from rfl, List.all_cons, ve l]
  rfl
theorem uc (a : List z1) (x : z1) : z1.zh (a ++ [x]) = z1.zh a ++ [x.enc] := by simp [z1.zh]
theorem kA (a b : List z1) : z1.zh (a ++ b) = z1.zh a ++ z1.zh b := by simp [z1.zh]
def zPk : List V := [.t (.str []), .t (.str []), .t (.str []), .nil 2, .t (.bool false), .nil 1]
theorem WB (cs : List zy) (hl : cs.length ≤ 1048576) (hc : ∀ c ∈ cs, dG c) : EV Tryz.prog pol (.callO false 128 [.t (.list 2 (zy.zh cs))] []) = some (.call (.sl 0 0 cs.length (some cs.length)) [.ts 2 (zy.zh cs)]) := by
 refine zP Tryz.func128 rfl (by kernel_rfl) ?_
 unfold Tryz.f128
 have h1 : ¬ ((cs.length : Int) < 0) := by omega
 have h2 : ¬ (cs.length * 32 > 140737488355328) := by omega
 have h3 : ¬ (cs.length > 140737488355328) := by omega
 have hz : List.replicate cs.length [T.str [], .str []] = u5 (zy.zh cs) XQ 0 := by rw [mB, zy.zj]; rfl
 have IH := eo cs hl hc cs.length 0 (by omega) (by omega)
 simp only [Int.natCast_zero] at IH
 simp (disch := omega) only [E.mkS, ↓GO, ↓DRW, GA, GX, ren, zo, za, refs, z8, cst, zr, isC, bin, una, z7, zd, blt, asArg, zg, zc, zf, z6, E.mkS, unN, ze, zq, zb, GS, simprocAttr, zy.zj, Int.toNat_natCast, h1, h2, h3, hz, IH, ne_eq, not_true_eq_false]
def T5 (x : z1) : Prop := EV Tryz.prog pol (.callO false 93 [.agg (x.enc.map .t)] []) = some (.call (.agg [.t (.str x.name), .t (.str x.version), .t (.str x.source), .sl 0 0 x.sums.length (some x.sums.length), .t (.bool x.dev), .sl 1 0 x.zC.length (some x.zC.length)]) [.ts 2 (zy.zh x.sums), .ts 1 (strs x.zC)])
theorem UI (x : z1) (ho : x.zY ≤ 1048576) : T5 x := by
 obtain ⟨name, version, source, sums, dev, zC⟩ := x
 simp only [z1.zY] at ho
 have d1 := WB sums (by omega) (fun c hc => S6 c (by have := zy.ye hc; omega))
 have d2 := ln zC (by omega)
 simp only [T5, z1.enc, List.map_cons, List.map_nil]
 refine zP Tryz.func93 rfl (by kernel_rfl) ?_
 unfold Tryz.f93
 simp (disch := ((try simp only [LL]); omega)) only [↓GO, ↓DRW, GA, GX, ren, zo, za, refs, z8, cst, zr, isC, bin, una, z7, zd, blt, asArg, zg, zc, zf, z6, E.mkS, unN, ze, zq, zb, GS, simprocAttr, zD, zE, yT, yN, yP, yO, yU, gh1, yM, yA, yG, zR, mkO, yH, yB, y7, yS, zK, yL, yK, y9, oc, oTs, oT, zO, zO.rowTs, yF, isL, Bool.not_false, Bool.true_and, Bool.and_true, Bool.and_self, List.flatMap_append, List.map_append, List.set_cons_zero, List.set_cons_succ, GZ, d1, d2, zH]
theorem Ur (cs : List z1) (hl : cs.length ≤ 1048576) (hc : ∀ c ∈ cs, T5 c) : ∀ (rest pre : List z1), cs = pre ++ rest →
 EV Tryz.prog pol (.loop 44 58 0 [.t (.list 6 (z1.zh cs)), .sl 0 0 cs.length (some cs.length), .t (.int .i64 (pre.length : Int))] [.vs 6 (ocE (z1.zh pre) ++ List.replicate rest.length zPk)])
  = some (.loop (.exit 0) [.sl 0 0 cs.length (some cs.length)] [.vs 6 (ocE (z1.zh cs))])
 | [], pre, hs => by
  have c : decide ((pre.length : Int) < (cs.length : Int)) = false := by simp [hs]
  have e : cs = pre := by simpa using hs
  have hA := zU (z1.zh pre)
  have hR := fun m => y6 m (z1.zh pre)
  simp only [List.length_nil, List.replicate_zero, List.append_nil]
  refine zk Tryz.func44 rfl rfl ?_
  simp (disch := ((try simp only [LL]); omega)) only [↓GO, ↓DRW, GA, GX, ren, zo, za, refs, z8, cst, zr, isC, bin, una, z7, zd, blt, asArg, zg, zc, zf, z6, E.mkS, unN, ze, zq, zb, GS, simprocAttr, zD, zE, yT, yN, yP, yO, yU, gh1, yM, yA, yG, zR, mkO, yH, yB, y7, yS, zK, yL, yK, y9, oc, oTs, oT, zO, zO.rowTs, yF, isL, Bool.not_false, Bool.true_and, Bool.and_true, Bool.and_self, List.flatMap_append, List.map_append, List.set_cons_zero, List.set_cons_succ, GZ, z1.zj, c, hA, hR]
  rw [e]
 | x :: rest, pre, hs => by
  have c : decide ((pre.length : Int) < (cs.length : Int)) = true := by simp [hs]; omega
  have hget : (z1.zh cs)[pre.length]? = some x.enc := by rw [hs]; simp [z1.zh]
  have hlen : pre.length + rest.length + 1 ≤ cs.length := by rw [hs]; simp; omega
  have hcx := hc x (by rw [hs]; simp)
  have c0 : decide ((0 : Int) ≤ (pre.length : Int)) = true := by simp
  have c00 : (0 : Int) ≤ (pre.length : Int) := by omega
  have IH := Ur cs hl hc rest (pre ++ [x]) (by rw [hs]; simp)
  rw [show ((pre ++ [x]).length : Int) = (pre.length : Int) + 1 by simp, uc, iF, tk, iE, List.append_assoc, List.cons_append, List.nil_append] at IH
  have hAl : (ocE (z1.zh pre)).length = pre.length := by rw [zT, z1.zj]
  have hA := zU (z1.zh pre)
  have hR := fun m => y6 m (z1.zh pre)
  have hB := mW zPk rfl rest.length
  have hRB := fun m => bX m zPk rfl rest.length
  rw [List.length_cons, List.replicate_succ]
  have hg1 := fun y => xH (ocE (z1.zh pre)) (List.replicate rest.length zPk) y pre.length hAl
  have hs1 := fun y z => xt (ocE (z1.zh pre)) (List.replicate rest.length zPk) y z pre.length hAl
  clear hs
  obtain ⟨name, version, source, sums, dev, zC⟩ := x
  have hf1 := xl sums
  have hf2 := yq zC
  simp only [T5, z1.enc, List.map_cons, List.map_nil, oc] at hcx hget IH
  generalize ocE (z1.zh pre) = A at *
  generalize List.replicate rest.length zPk = B at *
  unfold zPk
  refine zk Tryz.func44 rfl rfl ?_
  simp (disch := ((try simp only [LL]); omega)) only [↓GO, ↓DRW, GA, GX, ren, zo, za, refs, z8, cst, zr, isC, bin, una, z7, zd, blt, asArg, zg, zc, zf, z6, E.mkS, unN, ze, zq, zb, GS, simprocAttr, zD, zE, yT, yN, yP, yO, yU, gh1, yM, yA, yG, zR, mkO, yH, yB, y7, yS, zK, yL, yK, y9, oc, oTs, oT, zO, zO.rowTs, yF, isL, Bool.not_false, Bool.true_and, Bool.and_true, Bool.and_self, List.flatMap_append, List.map_append, List.set_cons_zero, List.set_cons_succ, GZ, z1.zj, zy.zj, c, c0, c00, if_true, Int.toNat_natCast, hget, hcx, hg1, hs1, hA, hR, hB, hRB, zn, hf1, hf2, IH, zi, zT, y6, zU, zH]
theorem mJ (cs : List z1) (hl : cs.length ≤ 1048576) (hc : ∀ c ∈ cs, T5 c) : EV Tryz.prog pol (.callO false 44 [.t (.list 6 (z1.zh cs))] []) = some (.call (.sl 0 0 cs.length (some cs.length)) [.vs 6 (ocE (z1.zh cs))]) := by
 refine zP Tryz.func44 rfl (by kernel_rfl) ?_
 unfold Tryz.f44
 have h1 : ¬ ((cs.length : Int) < 0) := by omega
 have h2 : ¬ (cs.length * 104 > 140737488355328) := by omega
 have h3 : ¬ (cs.length > 140737488355328) := by omega
 have L := Ur cs hl hc cs [] rfl
 simp only [List.length_nil, Int.natCast_zero, show z1.zh [] = [] from rfl, iE, List.nil_append] at L
 have hB := mW zPk rfl cs.length
 have hRB := fun m => bX m zPk rfl cs.length
 unfold zPk at L hB hRB
 simp (disch := ((try simp only [LL]); omega)) only [↓GO, ↓DRW, GA, GX, ren, zo, za, refs, z8, cst, zr, isC, bin, una, z7, zd, blt, asArg, zg, zc, zf, z6, E.mkS, unN, ze, zq, zb, GS, simprocAttr, zD, zE, yT, yN, yP, yO, yU, gh1, yM, yA, yG, zR, mkO, yH, yB, y7, yS, zK, yL, yK, y9, oc, oTs, oT, zO, zO.rowTs, yF, isL, Bool.not_false, Bool.true_and, Bool.and_true, Bool.and_self, List.flatMap_append, List.map_append, List.set_cons_zero, List.set_cons_succ, GZ, z1.zj, Int.toNat_natCast, h1, h2, h3, L, hB, hRB, y6, zU, ne_eq, not_true_eq_false, not_false_eq_true, zH]
def Kx (x : zx) : Prop := EV Tryz.prog pol (.callO false 9 [.agg (x.enc.map .t)] []) = some (.call (.agg [.sl 0 0 x.top.length (some x.top.length), .sl 1 0 x.packs.length (some x.packs.length)]) [.ts 1 (strs x.top), .vs 6 (ocE (z1.zh x.packs))])
theorem RL (x : zx) (ho : x.zY ≤ 1048576) : Kx x := by
 obtain ⟨top, packs⟩ := x
 simp only [zx.zY] at ho
 have d1 := ln top (by omega)
 have d2 := mJ packs (by omega) (fun c hc => UI c (by have := z1.ye hc; omega))
 simp only [Kx, zx.enc, List.map_cons, List.map_nil]
 refine zP Tryz.func9 rfl (by kernel_rfl) ?_
 unfold Tryz.f9
 simp (disch := ((try simp only [LL]); omega)) only [↓GO, ↓DRW, GA, GX, ren, zo, za, refs, z8, cst, zr, isC, bin, una, z7, zd, blt, asArg, zg, zc, zf, z6, E.mkS, unN, ze, zq, zb, GS, simprocAttr, zD, zE, yT, yN, yP, yO, yU, gh1, yM, yA, yG, zR, mkO, yH, yB, y7, yS, zK, yL, yK, y9, oc, oTs, oT, zO, zO.rowTs, yF, isL, Bool.not_false, Bool.true_and, Bool.and_true, Bool.and_self, List.flatMap_append, List.map_append, List.set_cons_zero, List.set_cons_succ, GZ, d1, d2, y6, zU, zH]
/-- and as a value that nobody writes -/
def Ky (x : zx) : Prop := zm (EV Tryz.prog pol) 9 [.agg (x.enc.map .t)] = some (.agg (x.enc.map .t))
theorem RM (x : zx) (ho : x.zY ≤ 1048576) : Ky x := by
 obtain ⟨top, packs⟩ := x
 simp only [zx.zY] at ho
 have d1 := ln top (by omega)
 have d2 := mJ packs (by omega) (fun c hc => UI c (by have := z1.ye hc; omega))
 have g := UF (z1.zh packs)
 have ht : (z1.zh packs).take packs.length = z1.zh packs := by rw [← z1.zj packs]; simp
 have ht2 : (strs top).take top.length = strs top := by rw [← zi top]; simp
 simp only [Ky, zx.enc, List.map_cons, List.map_nil]
 apply zu
 refine zw rfl Tryz.func9 rfl (by kernel_rfl) ?_
 unfold Tryz.f9
 simp (disch := ((try simp only [LL]); omega)) only [↓GO, ↓DRW, GA, GX, ren, zo, za, refs, z8, cst, zr, isC, bin, una, z7, zd, blt, asArg, zg, zc, zf, z6, E.mkS, unN, ze, zq, zb, GS, simprocAttr, zD, zE, yT, yN, yP, yO, yU, gh1, yM, yA, yG, zR, mkO, yH, yB, y7, yS, zK, yL, yK, y9, oc, oTs, oT, zO, zO.rowTs, yF, isL, Bool.not_false, Bool.true_and, Bool.and_true, Bool.and_self, List.flatMap_append, List.map_append, List.set_cons_zero, List.set_cons_succ, GZ, d1, d2, g, ht, ht2, y6, zU, zH]
end Go.Proofs.YtonbkdklidfmfaaGreatDoor
/- Marks in graphs. Conditions: those of each lemma. -/
namespace Go.Proofs.YtonbkdklidfmfaaGreatDoor
open E
set_option linter.unusedSimpArgs false
set_option linter.unusedVariables false
set_option maxRecDepth 100000
def vR : Nat → Nat → List zy
 | 0, _ => []
 | n + 1, k => ⟨mkT k, mkT (k + 1)⟩ :: vR n (k + 2)
theorem vG : ∀ n k, (vR n k).length = n
 | 0, _ => rfl
 | n + 1, k => by rw [vR, List.length_cons, vG n (k + 2)]
theorem kO : ∀ n k, vR (n + 1) k = vR n k ++ [⟨mkT (k + 2 * n), mkT (k + 2 * n + 1)⟩]
 | 0, k => rfl
 | n + 1, k => by
  rw [vR, kO n (k + 2), vR, List.cons_append, show k + 2 + 2 * n = k + 2 * (n + 1) by omega]
theorem Wg : ∀ (m j q : Nat), j < m → (vR m q)[j]? = some ⟨mkT (q + 2 * j), mkT (q + 2 * j + 1)⟩ := fun m => by
 induction m with
 | zero => intro j q h; omega
 | succ m ih =>
  intro j q h
  cases j with
  | zero => rfl
  | succ j => rw [vR, List.getElem?_cons_succ, ih j (q + 2) (by omega), show q + 2 + 2 * j = q + 2 * (j + 1) by omega]
theorem eu (cs : List zy) (hl : cs.length ≤ 4194304) (cap : Option Nat) (k : Nat) (hk : k ≤ 1073741824) : ∀ (rest pre : List zy), cs = pre ++ rest →
 EV Tryz.prog pol (.loop 102 26 1 [.sl 0 0 cs.length cap, .t (.int .i64 ((k + 2 * pre.length : Nat) : Int)), .t (.int .i64 (pre.length : Int))] [.ts 2 (zy.zh (vR pre.length k) ++ zy.zh rest)])
  = some (.loop (.exit 0) [.t (.int .i64 ((k + 2 * cs.length : Nat) : Int))] [.ts 2 (zy.zh (vR cs.length k))])
 | [], pre, hs => by
  have c : decide ((pre.length : Int) < (cs.length : Int)) = false := by simp [hs]
  have e : cs = pre := by simpa using hs
  simp only [show zy.zh [] = [] from rfl, List.append_nil]
  refine zk Tryz.func102 rfl rfl ?_
  simp (disch := ((try simp only [LL]); omega)) only [↓GO, ↓DRW, GA, GX, ren, zo, za, refs, z8, cst, zr, isC, bin, una, z7, zd, blt, asArg, zg, zc, zf, z6, E.mkS, unN, ze, zq, zb, GS, simprocAttr, GZ, c]
  rw [e]
 | x :: rest, pre, hs => by
  have c : decide ((pre.length : Int) < (cs.length : Int)) = true := by simp [hs]; omega
  have c0 : decide ((0 : Int) ≤ (pre.length : Int)) = true := by simp
  have c00 : (0 : Int) ≤ (pre.length : Int) := by omega
  have hlen : pre.length + rest.length + 1 ≤ cs.length := by rw [hs]; simp; omega
  have hm := sj (k + 2 * pre.length) (by omega)
  have hm2 := sj (k + 2 * pre.length + 1) (by omega)
  have IH := eu cs hl cap k hk rest (pre ++ [x]) (by rw [hs]; simp)
  rw [show (pre ++ [x]).length = pre.length + 1 by simp, kO, show zy.zh (vR pre.length k ++ [⟨mkT (k + 2 * pre.length), mkT (k + 2 * pre.length + 1)⟩]) = zy.zh (vR pre.length k) ++ [[.str (mkT (k + 2 * pre.length)), .str (mkT (k + 2 * pre.length + 1))]] by simp [zy.zh, zy.enc], List.append_assoc, List.cons_append, List.nil_append] at IH
  rw [show k + 2 * (pre.length + 1) = k + 2 * pre.length + 2 by omega] at IH
  have hAl : (zy.zh (vR pre.length k)).length = pre.length := by rw [zy.zj, vG]
  rw [show zy.zh (x :: rest) = [.str x.alg, .str x.bytes] :: zy.zh rest from rfl]
  have hg1 := fun y => xH (zy.zh (vR pre.length k)) (zy.zh rest) y pre.length hAl
  have hs1 := fun y z => xt (zy.zh (vR pre.length k)) (zy.zh rest) y z pre.length hAl
  clear hs
  generalize zy.zh (vR pre.length k) = A at *
  generalize mkT (k + 2 * pre.length + 1) = mt2 at *
  generalize mkT (k + 2 * pre.length) = mt at *
  have hkp : k + 2 * pre.length ≤ 1082130432 := by omega
  generalize k + 2 * pre.length = kp at *
  have w : IntKind.i64.wrap ((kp : Int) + 1) = ((kp + 1 : Nat) : Int) := by rw [zn (by omega)]; omega
  have w1 : IntKind.i64.wrap (((kp + 1 : Nat) : Int) + 1) = ((kp + 2 : Nat) : Int) := by rw [zn (by omega)]; omega
  have w2 : IntKind.i64.wrap ((pre.length : Int) + 1) = ((pre.length + 1 : Nat) : Int) := by rw [zn (by omega)]; omega
  refine zk Tryz.func102 rfl rfl ?_
  simp (disch := ((try simp only [LL]); omega)) only [↓GO, ↓DRW, GA, GX, ren, zo, za, refs, z8, cst, zr, isC, bin, una, z7, zd, blt, asArg, zg, zc, zf, z6, E.mkS, unN, ze, zq, zb, GS, simprocAttr, GZ, c, c0, c00, if_true, Int.toNat_natCast, hm, hm2, hg1, hs1, w, w1, w2, IH]
theorem WL (cs : List zy) (hl : cs.length ≤ 4194304) (cap : Option Nat) (k : Nat) (hk : k ≤ 1073741824) (n : Nat) (hn : n = cs.length) :
 EV Tryz.prog pol (.callO false 102 [.sl 0 0 n cap, .t (.int .i64 (k : Int))] [.ts 2 (zy.zh cs)]) = some (.call (.t (.int .i64 ((k + 2 * cs.length : Nat) : Int))) [.ts 2 (zy.zh (vR cs.length k))]) := by
 subst hn
 have L := eu cs hl cap k hk cs [] rfl
 simp only [List.length_nil, Int.natCast_zero, vR, show zy.zh [] = [] from rfl, List.nil_append, Nat.mul_zero, Nat.add_zero] at L
 refine zP Tryz.func102 rfl (by kernel_rfl) ?_
 unfold Tryz.f102
 simp (disch := ((try simp only [LL]); omega)) only [↓GO, ↓DRW, GA, GX, ren, zo, za, refs, z8, cst, zr, isC, bin, una, z7, zd, blt, asArg, zg, zc, zf, z6, E.mkS, unN, ze, zq, zb, GS, simprocAttr, GZ, L]
theorem ev (cs : List zy) (hl : cs.length ≤ 4194304) (k : Nat) (hk : k ≤ 1073741824) (hm : cs = vR cs.length k) : ∀ (n i : Nat), i + n = cs.length →
 EV Tryz.prog pol (.loop 103 26 0 [.t (.list 2 (zy.zh cs)), .t (.int .i64 ((k + 2 * i : Nat) : Int)), .t (.int .i64 (i : Int))] []) = some (.loop (.exit 0) [.t (.int .i64 ((k + 2 * cs.length : Nat) : Int)), .bad] [])
 | 0, i, hi => by
  have c : decide ((i : Int) < (cs.length : Int)) = false := by apply decide_eq_false; omega
  have e : i = cs.length := by omega
  refine zk Tryz.func103 rfl rfl ?_
  simp (disch := ((try simp only [LL]); omega)) only [↓GO, ↓DRW, GA, GX, ren, zo, za, refs, z8, cst, zr, isC, bin, una, z7, zd, blt, asArg, zg, zc, zf, z6, E.mkS, unN, ze, zq, zb, GS, simprocAttr, GZ, c, zy.zj]
  rw [e]
 | n + 1, i, hi => by
  have c : decide ((i : Int) < (cs.length : Int)) = true := by apply decide_eq_true; omega
  have hget : (zy.zh cs)[i]? = some [.str (mkT (k + 2 * i)), .str (mkT (k + 2 * i + 1))] := by
   have := Wg cs.length i k (by omega)
   rw [hm]
   simp only [zy.zh, List.getElem?_map, vG, this, Option.map_some, zy.enc]
  have hmt := sj (k + 2 * i) (by omega)
  have hmt2 := sj (k + 2 * i + 1) (by omega)
  have IH := ev cs hl k hk hm n (i + 1) (by omega)
  rw [show k + 2 * (i + 1) = k + 2 * i + 2 by omega] at IH
  have hkp : k + 2 * i ≤ 1082130432 := by omega
  clear hm
  generalize mkT (k + 2 * i + 1) = mt2 at *
  generalize mkT (k + 2 * i) = mt at *
  generalize k + 2 * i = kp at *
  have w : IntKind.i64.wrap ((kp : Int) + 1) = ((kp + 1 : Nat) : Int) := by rw [zn (by omega)]; omega
  have w1 : IntKind.i64.wrap (((kp + 1 : Nat) : Int) + 1) = ((kp + 2 : Nat) : Int) := by rw [zn (by omega)]; omega
  have w2 : IntKind.i64.wrap ((i : Int) + 1) = ((i + 1 : Nat) : Int) := by rw [zn (by omega)]; omega
  refine zk Tryz.func103 rfl rfl ?_
  simp (disch := ((try simp only [LL]); omega)) only [↓GO, ↓DRW, GA, GX, ren, zo, za, refs, z8, cst, zr, isC, bin, una, z7, zd, blt, asArg, zg, zc, zf, z6, E.mkS, unN, ze, zq, zb, GS, simprocAttr, GZ, c, zy.zj, hget, hmt, hmt2, w, w1, w2, IH, bne_self_eq_false]
theorem WO (n k : Nat) (hn : n ≤ 4194304) (hk : k ≤ 1073741824) : zm (EV Tryz.prog pol) 103 [.t (.list 2 (zy.zh (vR n k))), .t (.int .i64 (k : Int))] = some (.t (.int .i64 ((k + 2 * n : Nat) : Int))) := by
 have L := ev (vR n k) (by rw [vG]; exact hn) k hk (by rw [vG]) n 0 (by rw [vG]; omega)
 rw [vG] at L
 simp only [Int.natCast_zero, Nat.mul_zero, Nat.add_zero] at L
 apply zu
 refine zw rfl Tryz.func103 rfl (by kernel_rfl) ?_
 unfold Tryz.f103
 simp (disch := ((try simp only [LL]); omega)) only [↓GO, ↓DRW, GA, GX, ren, zo, za, refs, z8, cst, zr, isC, bin, una, z7, zd, blt, asArg, zg, zc, zf, z6, E.mkS, unN, ze, zq, zb, GS, simprocAttr, GZ, L]
end Go.Proofs.YtonbkdklidfmfaaGreatDoor
/- Marks in packs and graphs. Conditions: those of each lemma. -/
namespace Go.Proofs.YtonbkdklidfmfaaGreatDoor
open E
set_option linter.unusedSimpArgs false
set_option linter.unusedVariables false
set_option maxRecDepth 100000
def dvB (k : Nat) : Bool := (((k % 3 : Nat) : Int) == 0)
def qH (x : z1) : Nat := 4 + 2 * x.sums.length + x.zC.length
def yg : List z1 → Nat
 | [] => 0
 | x :: r => qH x + yg r
def ay (k : Nat) (x : z1) : z1 := ⟨mkT k, mkT (k + 1), mkT (k + 2), vR x.sums.length (k + 3), dvB (k + 3 + 2 * x.sums.length), mkS x.zC.length (k + 3 + 2 * x.sums.length + 1)⟩
def xj : Nat → List z1 → List z1
 | _, [] => []
 | k, x :: r => ay k x :: xj (k + qH x) r
theorem vk : ∀ (k : Nat) (cs : List z1), (xj k cs).length = cs.length
 | k, [] => rfl
 | k, c :: cs => by simp [xj, vk _ cs]
theorem uZ : ∀ a b : List z1, yg (a ++ b) = yg a + yg b
 | [], b => by simp [yg]
 | c :: a, b => by simp only [List.cons_append, yg, uZ a b]; omega
theorem o6 : ∀ (k : Nat) (a b : List z1), xj k (a ++ b) = xj k a ++ xj (k + yg a) b
 | k, [], b => by simp [xj, yg]
 | k, c :: a, b => by
  simp only [List.cons_append, xj, yg, o6 _ a b]
  rw [show k + qH c + yg a = k + (qH c + yg a) by omega]
theorem S2 (x : z1) : qH x ≤ 4 + 2 * x.zY := by simp only [qH, z1.zY]; omega
theorem lk : ∀ cs : List z1, yg cs ≤ 4 * cs.length + 2 * z1.zJ cs
 | [] => by simp [yg]
 | c :: cs => by
  have h1 := S2 c
  have h2 := lk cs
  simp only [yg, z1.zJ, List.length_cons]; omega
theorem aJ (cs : List z1) (hl : cs.length ≤ 4194304) (hb : ∀ c ∈ cs, c.zY ≤ 4194304) (cap : Option Nat) (k : Nat) (hk : k + yg cs ≤ 1073741824) : ∀ (rest pre : List z1), cs = pre ++ rest →
 EV Tryz.prog pol (.loop 59 26 1 [.sl 0 0 cs.length cap, .t (.int .i64 ((k + yg pre : Nat) : Int)), .t (.int .i64 (pre.length : Int))] [.vs 6 (ocE (z1.zh (xj k pre)) ++ ocE (z1.zh rest))])
  = some (.loop (.exit 0) [.t (.int .i64 ((k + yg cs : Nat) : Int))] [.vs 6 (ocE (z1.zh (xj k cs)))])
 | [], pre, hs => by
  have c : decide ((pre.length : Int) < (cs.length : Int)) = false := by simp [hs]
  have e : cs = pre := by simpa using hs
  have hA := zU (z1.zh (xj k pre))
  have hR := fun m => y6 m (z1.zh (xj k pre))
  simp only [show ocE (z1.zh []) = [] from rfl, List.append_nil]
  refine zk Tryz.func59 rfl rfl ?_
  simp (disch := ((try simp only [LL]); omega)) only [↓GO, ↓DRW, GA, GX, ren, zo, za, refs, z8, cst, zr, isC, bin, una, z7, zd, blt, asArg, zg, zc, zf, z6, E.mkS, unN, ze, zq, zb, GS, simprocAttr, zD, zE, yT, yN, yP, yO, yU, gh1, yM, yA, yG, zR, mkO, yH, yB, y7, yS, zK, yL, yK, y9, oc, oTs, oT, zO, zO.rowTs, yF, isL, Bool.not_false, Bool.true_and, Bool.and_true, Bool.and_self, List.flatMap_append, List.map_append, List.set_cons_zero, List.set_cons_succ, GZ, c, hA, hR]
  rw [e]
 | x :: rest, pre, hs => by
  have c : decide ((pre.length : Int) < (cs.length : Int)) = true := by simp [hs]; omega
  have c0 : decide ((0 : Int) ≤ (pre.length : Int)) = true := by simp
  have c00 : (0 : Int) ≤ (pre.length : Int) := by omega
  have hlen : pre.length + rest.length + 1 ≤ cs.length := by rw [hs]; simp; omega
  have hcn : yg cs = yg pre + yg (x :: rest) := by rw [hs, uZ]
  have hbx := hb x (by rw [hs]; simp)
  have IH := aJ cs hl hb cap k hk rest (pre ++ [x]) (by rw [hs]; simp)
  have e1 : xj k (pre ++ [x]) = xj k pre ++ [ay (k + yg pre) x] := by rw [o6]; simp [xj]
  have e2 : yg (pre ++ [x]) = yg pre + qH x := by rw [uZ]; simp [yg]
  rw [e1, e2, kA, iF, show (pre ++ [x]).length = pre.length + 1 by simp] at IH
  simp only [yg] at hcn
  have hAl : (ocE (z1.zh (xj k pre))).length = pre.length := by rw [zT, z1.zj, vk]
  have hA := zU (z1.zh (xj k pre))
  have hR := fun m => y6 m (z1.zh (xj k pre))
  have hB := zU (z1.zh rest)
  have hRB := fun m => y6 m (z1.zh rest)
  rw [show ocE (z1.zh (x :: rest)) = x.enc.map oc :: ocE (z1.zh rest) from rfl]
  rw [show ocE (z1.zh [ay (k + yg pre) x]) = [(ay (k + yg pre) x).enc.map oc] from rfl] at IH
  have hg1 := fun y => xH (ocE (z1.zh (xj k pre))) (ocE (z1.zh rest)) y pre.length hAl
  have hs1 := fun y z => xt (ocE (z1.zh (xj k pre))) (ocE (z1.zh rest)) y z pre.length hAl
  clear hs e1 e2
  have hkb : k + yg pre + qH x ≤ 1073741824 := by omega
  rw [show k + (yg pre + qH x) = k + yg pre + qH x by omega] at IH
  generalize k + yg pre = kp at *
  obtain ⟨name, version, source, sums, dev, zC⟩ := x
  simp only [z1.zY] at hbx
  simp only [qH] at hkb IH
  rw [show kp + (4 + 2 * sums.length + zC.length) = kp + 3 + 2 * sums.length + 1 + zC.length by omega] at IH
  have hmt0 := sj kp (by omega)
  have hmt1 := sj (kp + 1) (by omega)
  have hmt2 := sj (kp + 2) (by omega)
  have hmm := WL sums (by omega) none (kp + 3) (by omega) sums.length rfl
  have hms := Zl zC (by omega) none (kp + 3 + 2 * sums.length + 1) (by omega) zC.length rfl
  have w0 : IntKind.i64.wrap ((kp : Int) + 1) = ((kp + 1 : Nat) : Int) := by rw [zn (by omega)]; omega
  have w1 : IntKind.i64.wrap (((kp + 1 : Nat) : Int) + 1) = ((kp + 2 : Nat) : Int) := by rw [zn (by omega)]; omega
  have w2 : IntKind.i64.wrap (((kp + 2 : Nat) : Int) + 1) = ((kp + 3 : Nat) : Int) := by rw [zn (by omega)]; omega
  have w3 : IntKind.i64.wrap ((pre.length : Int) + 1) = ((pre.length + 1 : Nat) : Int) := by rw [zn (by omega)]; omega
  have w4 : IntKind.i64.wrap (((kp + 3 + 2 * sums.length : Nat) : Int) + 1) = ((kp + 3 + 2 * sums.length + 1 : Nat) : Int) := by rw [zn (by omega)]; omega
  have e1 : (((kp + 3 + 2 * sums.length : Nat) : Int)).tmod 3 = (((kp + 3 + 2 * sums.length) % 3 : Nat) : Int) := (Int.ofNat_tmod _ 3).symm
  have hr3 : (kp + 3 + 2 * sums.length) % 3 < 3 := Nat.mod_lt _ (by omega)
  have hdv : ((((kp + 3 + 2 * sums.length) % 3 : Nat) : Int) == 0) = dvB (kp + 3 + 2 * sums.length) := rfl
  have hf1 := xl sums
  have hf2 := xl (vR sums.length (kp + 3))
  have hf3 := yq zC
  have hf4 := yq (mkS zC.length (kp + 3 + 2 * sums.length + 1))
  have hl1 := vG sums.length (kp + 3)
  have hl2 := vU zC.length (kp + 3 + 2 * sums.length + 1)
  simp only [ay, z1.enc, List.map_cons, List.map_nil, oc, List.append_assoc, List.cons_append, List.nil_append] at IH ⊢
  generalize vR sums.length (kp + 3) = mm at *
  generalize mkS zC.length (kp + 3 + 2 * sums.length + 1) = ms at *
  generalize mkT (kp + 2) = mt2 at *
  generalize mkT (kp + 1) = mt1 at *
  generalize mkT kp = mt0 at *
  generalize ocE (z1.zh (xj k pre)) = A at *
  generalize ocE (z1.zh rest) = B at *
  refine zk Tryz.func59 rfl rfl ?_
  simp (disch := ((try simp only [LL]); omega)) only [↓GO, ↓DRW, GA, GX, ren, zo, za, refs, z8, cst, zr, isC, bin, una, z7, zd, blt, asArg, zg, zc, zf, z6, E.mkS, unN, ze, zq, zb, GS, simprocAttr, zD, zE, yT, yN, yP, yO, yU, gh1, yM, yA, yG, zR, mkO, yH, yB, y7, yS, zK, yL, yK, y9, oc, oTs, oT, zO, zO.rowTs, yF, isL, Bool.not_false, Bool.true_and, Bool.and_true, Bool.and_self, List.flatMap_append, List.map_append, List.set_cons_zero, List.set_cons_succ, GZ, c, c0, c00, if_true, Int.toNat_natCast, hmt0, hmt1, hmt2, hmm, hms, hg1, hs1, hA, hR, hB, hRB, w0, w1, w2, w3, w4, e1, hdv, hf1, hf2, hf3, hf4, hl1, hl2, zi, zy.zj, z1.zj, zT, y6, zU, IH, zH]
theorem WM (cs : List z1) (hb : cs.length + z1.zJ cs ≤ 4194304) (cap : Option Nat) (k : Nat) (hk : k + yg cs ≤ 1073741824) (n : Nat) (hn : n = cs.length) :
 EV Tryz.prog pol (.callO false 59 [.sl 0 0 n cap, .t (.int .i64 (k : Int))] [.vs 6 (ocE (z1.zh cs))]) = some (.call (.t (.int .i64 ((k + yg cs : Nat) : Int))) [.vs 6 (ocE (z1.zh (xj k cs)))]) := by
 subst hn
 have L := aJ cs (by omega) (fun c hc => by have := z1.ye hc; omega) cap k hk cs [] rfl
 simp only [List.length_nil, Int.natCast_zero, xj, yg, show ocE (z1.zh []) = [] from rfl, List.nil_append, Nat.add_zero] at L
 refine zP Tryz.func59 rfl (by kernel_rfl) ?_
 unfold Tryz.f59
 simp (disch := ((try simp only [LL]); omega)) only [↓GO, ↓DRW, GA, GX, ren, zo, za, refs, z8, cst, zr, isC, bin, una, z7, zd, blt, asArg, zg, zc, zf, z6, E.mkS, unN, ze, zq, zb, GS, simprocAttr, zD, zE, yT, yN, yP, yO, yU, gh1, yM, yA, yG, zR, mkO, yH, yB, y7, yS, zK, yL, yK, y9, oc, oTs, oT, zO, zO.rowTs, yF, isL, Bool.not_false, Bool.true_and, Bool.and_true, Bool.and_self, List.flatMap_append, List.map_append, List.set_cons_zero, List.set_cons_succ, GZ, L, y6, zU, zH]
theorem Zm (top : List Str) (cs : List z1) (ht : top.length ≤ 4194304) (hb : cs.length + z1.zJ cs ≤ 4194304) (n1 n2 : Nat) (h1 : n1 = top.length) (h2 : n2 = cs.length) (p1 p2 : Option Nat) (k : Nat) (hk : k + top.length + yg cs ≤ 1073741824) :
 EV Tryz.prog pol (.callO false 12 [.agg [.sl 0 0 n1 p1, .sl 1 0 n2 p2], .t (.int .i64 (k : Int))] [.ts 1 (strs top), .vs 6 (ocE (z1.zh cs))])
  = some (.call (.t (.int .i64 ((k + top.length + yg cs : Nat) : Int))) [.ts 1 (strs (mkS top.length k)), .vs 6 (ocE (z1.zh (xj (k + top.length) cs)))]) := by
 subst h1 h2
 have d1 := Zl top (by omega) p1 k (by omega) top.length rfl
 have d2 := WM cs hb p2 (k + top.length) (by omega) cs.length rfl
 refine zP Tryz.func12 rfl (by kernel_rfl) ?_
 unfold Tryz.f12
 simp (disch := ((try simp only [LL]); omega)) only [↓GO, ↓DRW, GA, GX, ren, zo, za, refs, z8, cst, zr, isC, bin, una, z7, zd, blt, asArg, zg, zc, zf, z6, E.mkS, unN, ze, zq, zb, GS, simprocAttr, zD, zE, yT, yN, yP, yO, yU, gh1, yM, yA, yG, zR, mkO, yH, yB, y7, yS, zK, yL, yK, y9, oc, oTs, oT, zO, zO.rowTs, yF, isL, Bool.not_false, Bool.true_and, Bool.and_true, Bool.and_self, List.flatMap_append, List.map_append, List.set_cons_zero, List.set_cons_succ, GZ, d1, d2, y6, zU, zH]
end Go.Proofs.YtonbkdklidfmfaaGreatDoor
/- Marks in packs and graphs found again. Conditions: those of each lemma. -/
namespace Go.Proofs.YtonbkdklidfmfaaGreatDoor
open E
set_option linter.unusedSimpArgs false
set_option linter.unusedVariables false
set_option maxRecDepth 100000
theorem aO (cs : List z1) (hl : cs.length ≤ 4194304) (hb : ∀ c ∈ cs, c.zY ≤ 4194304) (k : Nat) (hk : k + yg cs ≤ 1073741824) : ∀ (rest pre : List z1), cs = pre ++ rest →
 EV Tryz.prog pol (.loop 60 26 0 [.t (.list 6 (z1.zh (xj k cs))), .t (.int .i64 ((k + yg pre : Nat) : Int)), .t (.int .i64 (pre.length : Int))] []) = some (.loop (.exit 0) [.t (.int .i64 ((k + yg cs : Nat) : Int)), .bad] [])
 | [], pre, hs => by
  have c : decide ((pre.length : Int) < (cs.length : Int)) = false := by simp [hs]
  have e : cs = pre := by simpa using hs
  have hl2 := vk k cs
  refine zk Tryz.func60 rfl rfl ?_
  simp (disch := ((try simp only [LL]); omega)) only [↓GO, ↓DRW, GA, GX, ren, zo, za, refs, z8, cst, zr, isC, bin, una, z7, zd, blt, asArg, zg, zc, zf, z6, E.mkS, unN, ze, zq, zb, GS, simprocAttr, GZ, c, z1.zj, hl2]
  rw [e]
 | x :: rest, pre, hs => by
  have c : decide ((pre.length : Int) < (cs.length : Int)) = true := by simp [hs]; omega
  have hlen : pre.length + rest.length + 1 ≤ cs.length := by rw [hs]; simp; omega
  have hcn : yg cs = yg pre + yg (x :: rest) := by rw [hs, uZ]
  have hbx := hb x (by rw [hs]; simp)
  have hget : (z1.zh (xj k cs))[pre.length]? = some (ay (k + yg pre) x).enc := by
   rw [hs, o6, kA, List.getElem?_append_right (by simp [z1.zj, vk])]
   simp [z1.zj, vk, xj, z1.zh]
  have IH := aO cs hl hb k hk rest (pre ++ [x]) (by rw [hs]; simp)
  have e2 : yg (pre ++ [x]) = yg pre + qH x := by rw [uZ]; simp [yg]
  rw [e2, show (pre ++ [x]).length = pre.length + 1 by simp, show k + (yg pre + qH x) = k + yg pre + qH x by omega] at IH
  simp only [yg] at hcn
  have hl2 := vk k cs
  have hkb : k + yg pre + qH x ≤ 1073741824 := by omega
  clear hs e2
  generalize k + yg pre = kp at *
  obtain ⟨name, version, source, sums, dev, zC⟩ := x
  simp only [z1.zY] at hbx
  simp only [qH] at hkb IH
  rw [show kp + (4 + 2 * sums.length + zC.length) = kp + 3 + 2 * sums.length + 1 + zC.length by omega] at IH
  have hmt0 := sj kp (by omega)
  have hmt1 := sj (kp + 1) (by omega)
  have hmt2 := sj (kp + 2) (by omega)
  have hmm := WO sums.length (kp + 3) (by omega) (by omega)
  have hms := Zq zC.length (kp + 3 + 2 * sums.length + 1) (by omega) (by omega)
  have w0 : IntKind.i64.wrap ((kp : Int) + 1) = ((kp + 1 : Nat) : Int) := by rw [zn (by omega)]; omega
  have w1 : IntKind.i64.wrap (((kp + 1 : Nat) : Int) + 1) = ((kp + 2 : Nat) : Int) := by rw [zn (by omega)]; omega
  have w2 : IntKind.i64.wrap (((kp + 2 : Nat) : Int) + 1) = ((kp + 3 : Nat) : Int) := by rw [zn (by omega)]; omega
  have w3 : IntKind.i64.wrap ((pre.length : Int) + 1) = ((pre.length + 1 : Nat) : Int) := by rw [zn (by omega)]; omega
  have w4 : IntKind.i64.wrap (((kp + 3 + 2 * sums.length : Nat) : Int) + 1) = ((kp + 3 + 2 * sums.length + 1 : Nat) : Int) := by rw [zn (by omega)]; omega
  have e1 : (((kp + 3 + 2 * sums.length : Nat) : Int)).tmod 3 = (((kp + 3 + 2 * sums.length) % 3 : Nat) : Int) := (Int.ofNat_tmod _ 3).symm
  have hr3 : (kp + 3 + 2 * sums.length) % 3 < 3 := Nat.mod_lt _ (by omega)
  have hdv : ((((kp + 3 + 2 * sums.length) % 3 : Nat) : Int) == 0) = dvB (kp + 3 + 2 * sums.length) := rfl
  have g1 : decide (((kp + 3 + 2 * sums.length : Nat) : Int) < 0) = false := by apply decide_eq_false; omega
  have g2 : decide (((kp + 3 + 2 * sums.length + 1 + zC.length : Nat) : Int) < 0) = false := by apply decide_eq_false; omega
  simp only [ay, z1.enc, List.map_cons, List.map_nil] at hget
  generalize vR sums.length (kp + 3) = mm at *
  generalize mkS zC.length (kp + 3 + 2 * sums.length + 1) = ms at *
  generalize mkT (kp + 2) = mt2 at *
  generalize mkT (kp + 1) = mt1 at *
  generalize mkT kp = mt0 at *
  generalize xj k cs = mks at *
  refine zk Tryz.func60 rfl rfl ?_
  simp (disch := ((try simp only [LL]); omega)) only [↓GO, ↓DRW, GA, GX, ren, zo, za, refs, z8, cst, zr, isC, bin, una, z7, zd, blt, asArg, zg, zc, zf, z6, E.mkS, unN, ze, zq, zb, GS, simprocAttr, GZ, c, z1.zj, hl2, hget, hmt0, hmt1, hmt2, hmm, hms, w0, w1, w2, w3, w4, e1, hdv, g1, g2, IH, bne_self_eq_false]
theorem WQ (cs : List z1) (hb : cs.length + z1.zJ cs ≤ 4194304) (k : Nat) (hk : k + yg cs ≤ 1073741824) : zm (EV Tryz.prog pol) 60 [.t (.list 6 (z1.zh (xj k cs))), .t (.int .i64 (k : Int))] = some (.t (.int .i64 ((k + yg cs : Nat) : Int))) := by
 have L := aO cs (by omega) (fun c hc => by have := z1.ye hc; omega) k hk cs [] rfl
 simp only [List.length_nil, Int.natCast_zero, yg, Nat.add_zero] at L
 apply zu
 refine zw rfl Tryz.func60 rfl (by kernel_rfl) ?_
 unfold Tryz.f60
 simp (disch := ((try simp only [LL]); omega)) only [↓GO, ↓DRW, GA, GX, ren, zo, za, refs, z8, cst, zr, isC, bin, una, z7, zd, blt, asArg, zg, zc, zf, z6, E.mkS, unN, ze, zq, zb, GS, simprocAttr, GZ, L]
theorem Sl (top : List Str) (cs : List z1) (ht : top.length ≤ 4194304) (hb : cs.length + z1.zJ cs ≤ 4194304) (k : Nat) (hk : k + top.length + yg cs ≤ 1073741824) :
 zm (EV Tryz.prog pol) 13 [.agg [.t (.list 1 (strs (mkS top.length k))), .t (.list 6 (z1.zh (xj (k + top.length) cs)))], .t (.int .i64 (k : Int))]
  = some (.t (.int .i64 ((k + top.length + yg cs : Nat) : Int))) := by
 have d1 := Zq top.length k (by omega) (by omega)
 have d2 := WQ cs hb (k + top.length) (by omega)
 have g1 : decide (((k + top.length : Nat) : Int) < 0) = false := by apply decide_eq_false; omega
 have g2 : decide (((k + top.length + yg cs : Nat) : Int) < 0) = false := by apply decide_eq_false; omega
 generalize mkS top.length k = ms at *
 generalize xj (k + top.length) cs = mc at *
 apply zu
 refine zw rfl Tryz.func13 rfl (by kernel_rfl) ?_
 unfold Tryz.f13
 simp (disch := ((try simp only [LL]); omega)) only [↓GO, ↓DRW, GA, GX, ren, zo, za, refs, z8, cst, zr, isC, bin, una, z7, zd, blt, asArg, zg, zc, zf, z6, E.mkS, unN, ze, zq, zb, GS, simprocAttr, GZ, d1, d2, g1, g2, zH]
end Go.Proofs.YtonbkdklidfmfaaGreatDoor
/- Graphs copied, by both. Conditions: those of each lemma. -/
namespace Go.Proofs.YtonbkdklidfmfaaGreatDoor
open E
set_option linter.unusedSimpArgs false
set_option linter.unusedVariables false
set_option maxRecDepth 100000
theorem ga (x : z1) (ho : x.zY ≤ 1048576) : zm (EV Tryz.prog pol) 69 [.agg (x.enc.map .t)] = some (.agg (x.enc.map .t)) := by
 obtain ⟨name, version, source, sums, dev, zC⟩ := x
 simp only [z1.zY] at ho
 have ht : (zy.zh sums).take sums.length = zy.zh sums := by rw [← zy.zj sums]; simp
 have ht2 : (strs zC).take zC.length = strs zC := by rw [← zi zC]; simp
 simp only [z1.enc, List.map_cons, List.map_nil]
 apply zu
 refine zw rfl Tryz.func69 rfl (by kernel_rfl) ?_
 unfold Tryz.f69
 simp (disch := ((try simp only [LL]); omega)) only [↓GO, ↓DRW, GA, GX, ren, zo, za, refs, z8, cst, zr, isC, bin, una, z7, zd, blt, asArg, zg, zc, zf, z6, E.mkS, unN, ze, zq, zb, GS, simprocAttr, GZ, ht, ht2, zi, zy.zj, zH, xb]
def zG : List V := [.nil 1, .nil 6]
theorem Uy (top : List Str) (cs : List z1) (hl : cs.length ≤ 1048576) (hkl : top.length ≤ 1048576) (hb : ∀ c ∈ cs, c.zY ≤ 1048576) : ∀ (rest pre : List z1) (m : Nat), cs = pre ++ rest → m = pre.length →
 EV Tryz.prog pol (.loop 38 58 0 [.ptr 0 0 0, .ptr 1 0 0, .ptr 2 0 0, .t (.int .i64 (pre.length : Int))] [.vs 2 [[.t (.list 1 (strs top)), .t (.list 6 (z1.zh cs))]], .vs 2 [zG], .vs 2 [[.sl 3 0 top.length none, .sl 4 0 m none]], .ts 1 (strs top), .ts 6 (z1.zh pre)])
  = some (.loop (.exit 0) [.ptr 0 0 0, .ptr 1 0 0] [.vs 2 [zG], .vs 2 [[.sl 2 0 top.length none, .sl 3 0 cs.length none]], .ts 1 (strs top), .ts 6 (z1.zh cs)])
 | [], pre, m, hs, hm => by
  have c : decide ((pre.length : Int) < (cs.length : Int)) = false := by simp [hs]
  have e : cs = pre := by simpa using hs
  simp only [zG]
  refine zk Tryz.func38 rfl rfl ?_
  simp (disch := ((try simp only [LL]); omega)) only [↓GO, ↓DRW, GA, GX, ren, zo, za, refs, z8, cst, zr, isC, bin, una, z7, zd, blt, asArg, zg, zc, zf, z6, E.mkS, unN, ze, zq, zb, GS, simprocAttr, GZ, c, z1.zj, zH]
  rw [hm, ← e]
 | x :: rest, pre, m, hs, hm => by
  have c : decide ((pre.length : Int) < (cs.length : Int)) = true := by simp [hs]; omega
  have c0 : decide ((0 : Int) ≤ (pre.length : Int)) = true := by simp
  have hget : (z1.zh cs)[pre.length]? = some x.enc := by rw [hs]; simp [z1.zh]
  have hlen : pre.length + rest.length + 1 ≤ cs.length := by rw [hs]; simp; omega
  have hcx := ga x (hb x (by rw [hs]; simp))
  have IH := Uy top cs hl hkl hb rest (pre ++ [x]) (m + 1) (by rw [hs]; simp) (by simp [hm])
  rw [uc, show ((pre ++ [x]).length : Int) = (pre.length : Int) + 1 by simp] at IH
  have hol : (z1.zh pre).length = m := by rw [z1.zj, hm]
  have hml : m ≤ 1048576 := by omega
  clear hs
  obtain ⟨name, version, source, sums, dev, zC⟩ := x
  simp only [z1.enc, List.map_cons, List.map_nil, zG] at hcx hget IH ⊢
  generalize z1.zh pre = A at *
  refine zk Tryz.func38 rfl rfl ?_
  simp (disch := ((try simp only [LL]); omega)) only [↓GO, ↓DRW, GA, GX, ren, zo, za, refs, z8, cst, zr, isC, bin, una, z7, zd, blt, asArg, zg, zc, zf, z6, E.mkS, unN, ze, zq, zb, GS, simprocAttr, GZ, c, c0, z1.zj, hget, hcx, zn, hol, IH, zH, xb]
  refine x5 (by kernel_rfl) ?_
  rfl
end Go.Proofs.YtonbkdklidfmfaaGreatDoor
/- Graphs copied by the implementation. Conditions: those of each lemma. -/
namespace Go.Proofs.YtonbkdklidfmfaaGreatDoor
open E
set_option linter.unusedSimpArgs false
set_option linter.unusedVariables false
set_option maxRecDepth 100000
theorem Uz (top : List Str) (cs : List z1) (hl : cs.length ≤ 1048576) (hkl : top.length ≤ 1048576) (hb : ∀ c ∈ cs, c.zY ≤ 1048576) : ∀ (rest pre : List z1) (m : Nat), cs = pre ++ rest → m = pre.length →
 EV Tryz.prog pol (.loop 45 58 0 [.ptr 0 0 0, .ptr 1 0 0, .t (.list 6 (z1.zh cs)), .t (.int .i64 (cs.length : Int)), .t (.int .i64 (pre.length : Int))] [.vs 2 [zG], .vs 2 [[.sl 2 0 top.length none, .sl 3 0 m none]], .ts 1 (strs top), .vs 6 (ocE (z1.zh pre))])
  = some (.loop (.exit 0) [.ptr 0 0 0, .ptr 1 0 0] [.vs 2 [zG], .vs 2 [[.sl 2 0 top.length none, .sl 3 0 cs.length none]], .ts 1 (strs top), .vs 6 (ocE (z1.zh cs))])
 | [], pre, m, hs, hm => by
  have c : decide ((pre.length : Int) < (cs.length : Int)) = false := by simp [hs]
  have e : cs = pre := by simpa using hs
  simp only [zG]
  refine zk Tryz.func45 rfl rfl ?_
  simp (disch := ((try simp only [LL]); omega)) only [↓GO, ↓DRW, GA, GX, ren, zo, za, refs, z8, cst, zr, isC, bin, una, z7, zd, blt, asArg, zg, zc, zf, z6, E.mkS, unN, ze, zq, zb, GS, simprocAttr, zD, zE, yT, yN, yP, yO, yU, gh1, yM, yA, yG, zR, mkO, yH, yB, y7, yS, zK, yL, yK, y9, oc, oTs, oT, zO, zO.rowTs, yF, isL, Bool.not_false, Bool.true_and, Bool.and_true, Bool.and_self, List.flatMap_append, List.map_append, List.set_cons_zero, List.set_cons_succ, GZ, c, z1.zj, y6, zU, zH]
  rw [hm, ← e]
 | x :: rest, pre, m, hs, hm => by
  have c : decide ((pre.length : Int) < (cs.length : Int)) = true := by simp [hs]; omega
  have c0 : decide ((0 : Int) ≤ (pre.length : Int)) = true := by simp
  have hget : (z1.zh cs)[pre.length]? = some x.enc := by rw [hs]; simp [z1.zh]
  have hlen : pre.length + rest.length + 1 ≤ cs.length := by rw [hs]; simp; omega
  have hbx := hb x (by rw [hs]; simp)
  have IH := Uz top cs hl hkl hb rest (pre ++ [x]) (m + 1) (by rw [hs]; simp) (by simp [hm])
  rw [uc, iF, show ((pre ++ [x]).length : Int) = (pre.length : Int) + 1 by simp] at IH
  have hol : (ocE (z1.zh pre)).length = m := by rw [zT, z1.zj, hm]
  have hml : m ≤ 1048576 := by omega
  have hA := zU (z1.zh pre)
  have hR := fun r => y6 r (z1.zh pre)
  have hm1 : m + 1 - 1 = m := by omega
  have hm0 : ¬ (m + 1 = 0) := by omega
  clear hs
  obtain ⟨name, version, source, sums, dev, zC⟩ := x
  simp only [z1.zY] at hbx
  have d1 := dp (zy.zh sums) (by rw [zy.zj]; omega)
  have d2 := tu (strs zC) (by rw [zi]; omega)
  rw [zy.zj] at d1
  rw [zi] at d2
  have hf1 := xl sums
  have hf2 := yq zC
  have hg1 := fun y => xH (ocE (z1.zh pre)) [] y m hol
  have hs1 := fun y z => xt (ocE (z1.zh pre)) [] y z m hol
  have hle : ∀ y : List V, (ocE (z1.zh pre) ++ [y]).length = m + 1 := fun y => by simp [hol]
  simp only [z1.enc, List.map_cons, List.map_nil, zG, tk, iE, oc] at hget IH ⊢
  generalize ocE (z1.zh pre) = A at *
  refine zk Tryz.func45 rfl rfl ?_
  simp (disch := ((try simp only [LL]); omega)) only [↓GO, ↓DRW, GA, GX, ren, zo, za, refs, z8, cst, zr, isC, bin, una, z7, zd, blt, asArg, zg, zc, zf, z6, E.mkS, unN, ze, zq, zb, GS, simprocAttr, zD, zE, yT, yN, yP, yO, yU, gh1, yM, yA, yG, zR, mkO, yH, yB, y7, yS, zK, yL, yK, y9, oc, oTs, oT, zO, zO.rowTs, yF, isL, Bool.not_false, Bool.true_and, Bool.and_true, Bool.and_self, List.flatMap_append, List.map_append, List.set_cons_zero, List.set_cons_succ, GZ, c, c0, z1.zj, zy.zj, hget, d1, d2, zn, hol, hA, hR, hm1, hm0, if_false, hg1, hs1, hle, hf1, hf2, zi, zT, y6, zU, IH, zH, xb]
  refine x5 (by kernel_rfl) ?_
  rfl
theorem mL (top : List Str) (hkl : top.length ≤ 1048576) :
 EV Tryz.prog pol (.callO false 45 [.agg [.t (.list 1 (strs top)), .t (.list 6 [])]] []) = some (.call (.agg [.sl 0 0 top.length none, .nil 6]) [.ts 1 (strs top)]) := by
 have L : EV Tryz.prog pol (.loop 45 58 0 [.ptr 0 0 0, .ptr 1 0 0, .t (.list 6 []), .t (.int .i64 0), .t (.int .i64 0)] [.vs 2 [zG], .vs 2 [[.sl 2 0 top.length none, .nil 6]], .ts 1 (strs top)])
  = some (.loop (.exit 0) [.ptr 0 0 0, .ptr 1 0 0] [.vs 2 [zG], .vs 2 [[.sl 2 0 top.length none, .nil 6]], .ts 1 (strs top)]) := by
  simp only [zG]
  refine zk Tryz.func45 rfl rfl ?_
  simp (disch := ((try simp only [LL]); omega)) only [↓GO, ↓DRW, GA, GX, ren, zo, za, refs, z8, cst, zr, isC, bin, una, z7, zd, blt, asArg, zg, zc, zf, z6, E.mkS, unN, ze, zq, zb, GS, simprocAttr, zD, zE, yT, yN, yP, yO, yU, gh1, yM, yA, yG, zR, mkO, yH, yB, y7, yS, zK, yL, yK, y9, oc, oTs, oT, zO, zO.rowTs, yF, isL, Bool.not_false, Bool.true_and, Bool.and_true, Bool.and_self, List.flatMap_append, List.map_append, List.set_cons_zero, List.set_cons_succ, GZ, zH]
 have d2 := tu (strs top) (by rw [zi]; omega)
 rw [zi] at d2
 simp only [zG] at L
 refine zP Tryz.func45 rfl (by kernel_rfl) ?_
 unfold Tryz.f45
 simp (disch := ((try simp only [LL]); omega)) only [↓GO, ↓DRW, GA, GX, ren, zo, za, refs, z8, cst, zr, isC, bin, una, z7, zd, blt, asArg, zg, zc, zf, z6, E.mkS, unN, ze, zq, zb, GS, simprocAttr, zD, zE, yT, yN, yP, yO, yU, gh1, yM, yA, yG, zR, mkO, yH, yB, y7, yS, zK, yL, yK, y9, oc, oTs, oT, zO, zO.rowTs, yF, isL, Bool.not_false, Bool.true_and, Bool.and_true, Bool.and_self, List.flatMap_append, List.map_append, List.set_cons_zero, List.set_cons_succ, GZ, d2, L, List.length_nil, Int.natCast_zero, zi, zH, xb]
theorem nk (top : List Str) (x : z1) (rest : List z1) (hkl : top.length ≤ 1048576) (hl : (x :: rest).length ≤ 1048576) (hb : ∀ c ∈ x :: rest, c.zY ≤ 1048576) :
 EV Tryz.prog pol (.callO false 45 [.agg [.t (.list 1 (strs top)), .t (.list 6 (z1.zh (x :: rest)))]] []) = some (.call (.agg [.sl 0 0 top.length none, .sl 1 0 (x :: rest).length none]) [.ts 1 (strs top), .vs 6 (ocE (z1.zh (x :: rest)))]) := by
 have hbx := hb x (by simp)
 have L := Uz top (x :: rest) (by omega) (by omega) hb rest [x] 1 rfl rfl
 have L0 : EV Tryz.prog pol (.loop 45 58 0 [.ptr 0 0 0, .ptr 1 0 0, .t (.list 6 (z1.zh (x :: rest))), .t (.int .i64 ((x :: rest).length : Int)), .t (.int .i64 0)] [.vs 2 [zG], .vs 2 [[.sl 2 0 top.length none, .nil 6]], .ts 1 (strs top)])
  = some (.loop (.exit 0) [.ptr 0 0 0, .ptr 1 0 0] [.vs 2 [zG], .vs 2 [[.sl 2 0 top.length none, .sl 3 0 (x :: rest).length none]], .ts 1 (strs top), .vs 6 (ocE (z1.zh (x :: rest)))]) := by
  have c : decide ((0 : Int) < ((x :: rest).length : Int)) = true := by apply decide_eq_true; simp only [List.length_cons]; omega
  have hget : (z1.zh (x :: rest))[0]? = some x.enc := rfl
  rw [show ocE (z1.zh [x]) = [x.enc.map oc] from rfl] at L
  obtain ⟨name, version, source, sums, dev, zC⟩ := x
  simp only [z1.zY] at hbx
  have d1 := dp (zy.zh sums) (by rw [zy.zj]; omega)
  have d2 := tu (strs zC) (by rw [zi]; omega)
  rw [zy.zj] at d1
  rw [zi] at d2
  have hf1 := xl sums
  have hf2 := yq zC
  simp only [z1.enc, List.map_cons, List.map_nil, zG, List.length_cons, List.length_nil, Nat.zero_add, oc, Int.natCast_one] at hget L ⊢
  generalize hcs : z1.mk name version source sums dev zC :: rest = cs at *
  simp only [← List.length_cons (a := z1.mk name version source sums dev zC), hcs] at *
  refine zk Tryz.func45 rfl rfl ?_
  simp (disch := ((try simp only [LL]); omega)) only [↓GO, ↓DRW, GA, GX, ren, zo, za, refs, z8, cst, zr, isC, bin, una, z7, zd, blt, asArg, zg, zc, zf, z6, E.mkS, unN, ze, zq, zb, GS, simprocAttr, zD, zE, yT, yN, yP, yO, yU, gh1, yM, yA, yG, zR, mkO, yH, yB, y7, yS, zK, yL, yK, y9, oc, oTs, oT, zO, zO.rowTs, yF, isL, Bool.not_false, Bool.true_and, Bool.and_true, Bool.and_self, List.flatMap_append, List.map_append, List.set_cons_zero, List.set_cons_succ, GZ, c, z1.zj, zy.zj, vZ, hget, d1, d2, zn, Int.reduceAdd, if_false, hf1, hf2, L, zi, zH, xb, List.length_nil, Int.natCast_zero]
  refine x5 (by kernel_rfl) ?_
  rfl
 have d2 := tu (strs top) (by rw [zi]; omega)
 rw [zi] at d2
 clear L
 generalize x :: rest = cs at *
 simp only [zG] at L0
 refine zP Tryz.func45 rfl (by kernel_rfl) ?_
 unfold Tryz.f45
 simp (disch := ((try simp only [LL]); omega)) only [↓GO, ↓DRW, GA, GX, ren, zo, za, refs, z8, cst, zr, isC, bin, una, z7, zd, blt, asArg, zg, zc, zf, z6, E.mkS, unN, ze, zq, zb, GS, simprocAttr, zD, zE, yT, yN, yP, yO, yU, gh1, yM, yA, yG, zR, mkO, yH, yB, y7, yS, zK, yL, yK, y9, oc, oTs, oT, zO, zO.rowTs, yF, isL, Bool.not_false, Bool.true_and, Bool.and_true, Bool.and_self, List.flatMap_append, List.map_append, List.set_cons_zero, List.set_cons_succ, GZ, d2, L0, zi, z1.zj, y6, zU, zH, xb]
end Go.Proofs.YtonbkdklidfmfaaGreatDoor
/- Small tests on bytes and numbers; keys. Conditions: those of each lemma. -/
namespace Go.Proofs.YtonbkdklidfmfaaGreatDoor
open E
set_option linter.unusedSimpArgs false
set_option linter.unusedVariables false
set_option maxRecDepth 100000
theorem wE (a lo hi : Int) : zm (EV Tryz.prog pol) 46 [.t (.int .i64 a), .t (.int .i64 lo), .t (.int .i64 hi)] = some (.t (.bool (B2 a lo hi))) := by
 apply zu
 refine zw rfl Tryz.func46 rfl (by kernel_rfl) ?_
 unfold Tryz.f46
 unfold B2
 repeat' (first | (((first | with_reducible refine sb (fun hA => ?_) (fun hA => ?_) | with_reducible refine sa (fun hA => ?_) (fun hA => ?_)) <;> (try simp only [bne, Bool.not_eq_true', Bool.not_eq_false'] at hA) <;> (first | (have hP := Int.le_of_eq (eq_of_beq (α := Int) hA); have hQ := Int.le_of_eq (eq_of_beq (α := Int) hA).symm) | have hP := of_decide_eq_true hA | have hP := of_decide_eq_false hA | skip)) <;> (simp (disch := ((try simp only [LL]); omega)) only [↓GO, ↓DRW, GA, GX, ren, zo, za, refs, z8, cst, zr, isC, bin, una, z7, zd, blt, asArg, zg, zc, zf, z6, E.mkS, unN, ze, zq, zb, GS, simprocAttr, zn, bne, *])) | (simp (disch := ((try simp only [LL]); omega)) only [↓GO, ↓DRW, GA, GX, ren, zo, za, refs, z8, cst, zr, isC, bin, una, z7, zd, blt, asArg, zg, zc, zf, z6, E.mkS, unN, ze, zq, zb, GS, simprocAttr, zn, bne, *]))
theorem wk (a lo hi : Int) : zm (EV Tryz.prog pol) 90 [.t (.int .i64 a), .t (.int .i64 lo), .t (.int .i64 hi)] = some (.t (.bool (B2 a lo hi))) := by
 apply zu
 refine zw rfl Tryz.func90 rfl (by kernel_rfl) ?_
 unfold Tryz.f90
 unfold B2
 repeat' (first | (((first | with_reducible refine sb (fun hA => ?_) (fun hA => ?_) | with_reducible refine sa (fun hA => ?_) (fun hA => ?_)) <;> (try simp only [bne, Bool.not_eq_true', Bool.not_eq_false'] at hA) <;> (first | (have hP := Int.le_of_eq (eq_of_beq (α := Int) hA); have hQ := Int.le_of_eq (eq_of_beq (α := Int) hA).symm) | have hP := of_decide_eq_true hA | have hP := of_decide_eq_false hA | skip)) <;> (simp (disch := ((try simp only [LL]); omega)) only [↓GO, ↓DRW, GA, GX, ren, zo, za, refs, z8, cst, zr, isC, bin, una, z7, zd, blt, asArg, zg, zc, zf, z6, E.mkS, unN, ze, zq, zb, GS, simprocAttr, zn, bne, ge_iff_le, *])) | (simp (disch := ((try simp only [LL]); omega)) only [↓GO, ↓DRW, GA, GX, ren, zo, za, refs, z8, cst, zr, isC, bin, una, z7, zd, blt, asArg, zg, zc, zf, z6, E.mkS, unN, ze, zq, zb, GS, simprocAttr, zn, bne, ge_iff_le, *]))
theorem ju (a : Int) : zm (EV Tryz.prog pol) 156 [.t (.int .u8 a)] = some (.t (.bool (B2 a 97 122))) := by
 apply zu
 refine zw rfl Tryz.func156 rfl (by kernel_rfl) ?_
 unfold Tryz.f156
 unfold B2
 repeat' (first | (((first | with_reducible refine sb (fun hA => ?_) (fun hA => ?_) | with_reducible refine sa (fun hA => ?_) (fun hA => ?_)) <;> (try simp only [bne, Bool.not_eq_true', Bool.not_eq_false'] at hA) <;> (first | (have hP := Int.le_of_eq (eq_of_beq (α := Int) hA); have hQ := Int.le_of_eq (eq_of_beq (α := Int) hA).symm) | have hP := of_decide_eq_true hA | have hP := of_decide_eq_false hA | skip)) <;> (simp (disch := ((try simp only [LL]); omega)) only [↓GO, ↓DRW, GA, GX, ren, zo, za, refs, z8, cst, zr, isC, bin, una, z7, zd, blt, asArg, zg, zc, zf, z6, E.mkS, unN, ze, zq, zb, GS, simprocAttr, zn, bne, ge_iff_le, *])) | (simp (disch := ((try simp only [LL]); omega)) only [↓GO, ↓DRW, GA, GX, ren, zo, za, refs, z8, cst, zr, isC, bin, una, z7, zd, blt, asArg, zg, zc, zf, z6, E.mkS, unN, ze, zq, zb, GS, simprocAttr, zn, bne, ge_iff_le, *]))
theorem ot (a : Int) : zm (EV Tryz.prog pol) 157 [.t (.int .u8 a)] = some (.t (.bool (B2 a 48 57))) := by
 apply zu
 refine zw rfl Tryz.func157 rfl (by kernel_rfl) ?_
 unfold Tryz.f157
 unfold B2
 repeat' (first | (((first | with_reducible refine sb (fun hA => ?_) (fun hA => ?_) | with_reducible refine sa (fun hA => ?_) (fun hA => ?_)) <;> (try simp only [bne, Bool.not_eq_true', Bool.not_eq_false'] at hA) <;> (first | (have hP := Int.le_of_eq (eq_of_beq (α := Int) hA); have hQ := Int.le_of_eq (eq_of_beq (α := Int) hA).symm) | have hP := of_decide_eq_true hA | have hP := of_decide_eq_false hA | skip)) <;> (simp (disch := ((try simp only [LL]); omega)) only [↓GO, ↓DRW, GA, GX, ren, zo, za, refs, z8, cst, zr, isC, bin, una, z7, zd, blt, asArg, zg, zc, zf, z6, E.mkS, unN, ze, zq, zb, GS, simprocAttr, zn, bne, ge_iff_le, *])) | (simp (disch := ((try simp only [LL]); omega)) only [↓GO, ↓DRW, GA, GX, ren, zo, za, refs, z8, cst, zr, isC, bin, una, z7, zd, blt, asArg, zg, zc, zf, z6, E.mkS, unN, ze, zq, zb, GS, simprocAttr, zn, bne, ge_iff_le, *]))
theorem wrap_u8 (b : UInt8) : IntKind.i64.wrap (b.toNat : Int) = (b.toNat : Int) := by have := UN b; exact zn (by omega)
theorem ni (b : UInt8) : zm (EV Tryz.prog pol) 149 [.t (.int .u8 (b.toNat : Int))] = some (.t (.bool (B2 (nb b) 97 122 || B2 (nb b) 48 57))) := by
 apply zu
 refine zw rfl Tryz.func149 rfl (by kernel_rfl) ?_
 unfold Tryz.f149
 have h1 := wk (b.toNat : Int) 97 122
 have h2 := wk (b.toNat : Int) 48 57
 repeat' (first | (((first | with_reducible refine sb (fun hA => ?_) (fun hA => ?_) | with_reducible refine sa (fun hA => ?_) (fun hA => ?_)) <;> (try simp only [bne, Bool.not_eq_true', Bool.not_eq_false'] at hA) <;> (first | (have hP := Int.le_of_eq (eq_of_beq (α := Int) hA); have hQ := Int.le_of_eq (eq_of_beq (α := Int) hA).symm) | have hP := of_decide_eq_true hA | have hP := of_decide_eq_false hA | skip)) <;> (simp (disch := ((try simp only [LL]); omega)) only [↓GO, ↓DRW, GA, GX, ren, zo, za, refs, z8, cst, zr, isC, bin, una, z7, zd, blt, asArg, zg, zc, zf, z6, E.mkS, unN, ze, zq, zb, GS, simprocAttr, zn, bne, conv, wrap_u8, *])) | (simp (disch := ((try simp only [LL]); omega)) only [↓GO, ↓DRW, GA, GX, ren, zo, za, refs, z8, cst, zr, isC, bin, una, z7, zd, blt, asArg, zg, zc, zf, z6, E.mkS, unN, ze, zq, zb, GS, simprocAttr, zn, bne, conv, wrap_u8, *]))
theorem R0 (f : Nat) (p : UInt8 → Bool) (hp : ∀ b : UInt8, zm (EV Tryz.prog pol) f [.t (.int .u8 (b.toNat : Int))] = some (.t (.bool (p b)))) (s : Str) (hl : s.length ≤ 9223372036854775807) : ∀ (rest pre : Str), s = pre ++ rest →
 EV Tryz.prog pol (.loop 154 26 0 [.t (.str s), .t (.fn f []), .t (.int .i64 (s.length : Int)), .t (.int .i64 (pre.length : Int))] []) = some (cond (rest.all p) (.loop (.exit 0) [.bad] []) (.loop .ret [.t (.bool false)] []))
 | [], pre, hs => by
  have c : decide ((pre.length : Int) < (s.length : Int)) = false := by simp [hs]
  refine zk Tryz.func154 rfl rfl ?_
  simp only [↓GO, ↓DRW, GA, GX, ren, zo, za, refs, z8, cst, zr, isC, bin, una, z7, zd, blt, asArg, zg, zc, zf, z6, E.mkS, unN, ze, zq, zb, GS, simprocAttr, c]
 | b :: rest, pre, hs => by
  have c : decide ((pre.length : Int) < (s.length : Int)) = true := by simp [hs]; omega
  have hget : s[pre.length]? = some b := by rw [hs]; exact sd pre b rest
  have hlen : s.length = pre.length + rest.length + 1 := by rw [hs]; simp; omega
  have e1 : (pre.length : Int) + 1 = ((pre ++ [b]).length : Int) := by simp
  have IH := R0 f p hp s hl rest (pre ++ [b]) (by rw [hs]; simp)
  have hb := hp b
  refine zk Tryz.func154 rfl rfl ?_
  cases hpb : p b with
  | true =>
   rw [hpb] at hb
   simp (disch := omega) only [↓GO, ↓DRW, GA, GX, ren, zo, za, refs, z8, cst, zr, isC, bin, una, z7, zd, blt, asArg, zg, zc, zf, z6, E.mkS, unN, ze, zq, zb, GS, simprocAttr, c, hget, zn, hb]
   rw [e1, IH, hpb, Bool.true_and]
  | false =>
   rw [hpb] at hb
   simp (disch := omega) only [↓GO, ↓DRW, GA, GX, ren, zo, za, refs, z8, cst, zr, isC, bin, una, z7, zd, blt, asArg, zg, zc, zf, z6, E.mkS, unN, ze, zq, zb, GS, simprocAttr, c, hget, zn, hb]
   rw [hpb]; rfl
theorem ZR (f : Nat) (p : UInt8 → Bool) (hp : ∀ b : UInt8, zm (EV Tryz.prog pol) f [.t (.int .u8 (b.toNat : Int))] = some (.t (.bool (p b)))) (s : Str) (hl : s.length ≤ 9223372036854775807) :
 zm (EV Tryz.prog pol) 154 [.t (.str s), .t (.fn f [])] = some (.t (.bool (s.all p))) := by
 have IH := R0 f p hp s hl s [] rfl
 simp only [List.length_nil, Int.natCast_zero] at IH
 apply zu
 refine zw rfl Tryz.func154 rfl (by kernel_rfl) ?_
 unfold Tryz.f154
 cases hb : s.all p with
 | true => rw [hb] at IH; simp only [cond_true] at IH; simp only [↓GO, ↓DRW, GA, GX, ren, zo, za, refs, z8, cst, zr, isC, bin, una, z7, zd, blt, asArg, zg, zc, zf, z6, E.mkS, unN, ze, zq, zb, GS, simprocAttr, IH]
 | false => rw [hb] at IH; simp only [cond_false] at IH; simp only [↓GO, ↓DRW, GA, GX, ren, zo, za, refs, z8, cst, zr, isC, bin, una, z7, zd, blt, asArg, zg, zc, zf, z6, E.mkS, unN, ze, zq, zb, GS, simprocAttr, IH]
end Go.Proofs.YtonbkdklidfmfaaGreatDoor
/- Digits and quotes, by both. Conditions: those of each lemma. -/
namespace Go.Proofs.YtonbkdklidfmfaaGreatDoor
open E
set_option linter.unusedSimpArgs false
set_option linter.unusedVariables false
set_option maxRecDepth 100000
end Go.Proofs.YtonbkdklidfmfaaGreatDoor
/- The library's searches, at fields. Conditions: those of each lemma. -/
namespace Go.Proofs.YtonbkdklidfmfaaGreatDoor
open E
set_option linter.unusedSimpArgs false
set_option linter.unusedVariables false
set_option maxRecDepth 100000
/-- the first place at which something holds -/
def xN {α : Type} (p : α → Bool) : List α → Nat → Option Nat
 | [], _ => none
 | x :: r, n => if p x = true then some n else xN p r (n + 1)
def ixI : Option Nat → Int
 | some n => (n : Int)
 | none => -1
theorem tq {α : Type} (p : α → Bool) : ∀ (l : List α) (n : Nat), (xN p l n).isSome = l.any p
 | [], _ => rfl
 | x :: r, n => by
  simp only [xN, List.any_cons]
  split
  · rename_i h; simp [h]
  · rename_i h; rw [tq p r (n + 1)]; simp [h]
theorem aT {α : Type} (p : α → Bool) (l : List α) : decide (ixI (xN p l 0) ≥ 0) = l.any p := by
 rw [← tq p l 0]
 cases xN p l 0 with
 | none => rfl
 | some n => simp [ixI]
end Go.Proofs.YtonbkdklidfmfaaGreatDoor
/- The library's searches, at packs and sums. Conditions: those of each lemma. -/
namespace Go.Proofs.YtonbkdklidfmfaaGreatDoor
open E
set_option linter.unusedSimpArgs false
set_option linter.unusedVariables false
set_option maxRecDepth 100000
theorem oY (g : Nat) (caps : List T) (p : z1 → Bool) (es : List z1) (hl : es.length ≤ 4611686018427387904) (hp : ∀ x ∈ es, zm (EV Tryz.prog pol) g (.agg (x.enc.map .t) :: caps.map .t) = some (.t (.bool (p x)))) : ∀ (rest pre : List z1), es = pre ++ rest →
 EV Tryz.prog pol (.loop 87 26 0 [.t (.list 6 (z1.zh es)), .t (.fn g caps), .t (.int .i64 (es.length : Int)), .t (.int .i64 (pre.length : Int))] []) = some (match xN p rest pre.length with | some i => .loop .ret [.t (.int .i64 (i : Int))] [] | none => .loop (.exit 0) [.bad] [])
 | [], pre, hs => by
  have c : decide ((pre.length : Int) < (es.length : Int)) = false := by simp [hs]
  refine zk Tryz.func87 rfl rfl ?_
  simp only [↓GO, ↓DRW, GA, GX, ren, zo, za, refs, z8, cst, zr, isC, bin, una, z7, zd, blt, asArg, zg, zc, zf, z6, E.mkS, unN, ze, zq, zb, GS, simprocAttr, c, xN]
 | b :: rest, pre, hs => by
  have c : decide ((pre.length : Int) < (es.length : Int)) = true := by simp [hs]; omega
  have hi : pre.length < es.length := by rw [hs]; simp
  have hget := z1.xm es pre.length hi
  have hgb : es[pre.length] = b := by simp [hs]
  rw [hgb] at hget
  have hb := hp b (by rw [hs]; simp)
  have e1 : (pre.length : Int) + 1 = ((pre ++ [b]).length : Int) := by simp
  have IH := oY g caps p es hl hp rest (pre ++ [b]) (by rw [hs]; simp)
  refine zk Tryz.func87 rfl rfl ?_
  simp only [xN]
  cases hpb : p b with
  | true =>
   rw [hpb] at hb
   simp (disch := omega) only [↓GO, ↓DRW, GA, GX, ren, zo, za, refs, z8, cst, zr, isC, bin, una, z7, zd, blt, asArg, zg, zc, zf, z6, E.mkS, unN, ze, zq, zb, GS, simprocAttr, z1.zj, c, hget, z1.wW, z1.wc, zn, hb]
  | false =>
   rw [hpb] at hb
   simp (disch := omega) only [↓GO, ↓DRW, GA, GX, ren, zo, za, refs, z8, cst, zr, isC, bin, una, z7, zd, blt, asArg, zg, zc, zf, z6, E.mkS, unN, ze, zq, zb, GS, simprocAttr, z1.zj, c, hget, z1.wW, z1.wc, zn, hb]
   rw [e1, IH]
   simp
theorem vz (g : Nat) (caps : List T) (p : z1 → Bool) (es : List z1) (hl : es.length ≤ 4611686018427387904) (hp : ∀ x ∈ es, zm (EV Tryz.prog pol) g (.agg (x.enc.map .t) :: caps.map .t) = some (.t (.bool (p x)))) :
 zm (EV Tryz.prog pol) 87 [.t (.list 6 (z1.zh es)), .t (.fn g caps)] = some (.t (.int .i64 (ixI (xN p es 0)))) := by
 have IH := oY g caps p es hl hp es [] rfl
 simp only [List.length_nil, Int.natCast_zero] at IH
 apply zu
 refine zw rfl Tryz.func87 rfl (by kernel_rfl) ?_
 unfold Tryz.f87
 cases hf : xN p es 0 with
 | none => rw [hf] at IH; simp only [↓GO, ↓DRW, GA, GX, ren, zo, za, refs, z8, cst, zr, isC, bin, una, z7, zd, blt, asArg, zg, zc, zf, z6, E.mkS, unN, ze, zq, zb, GS, simprocAttr, z1.zj, IH, ixI]
 | some i => rw [hf] at IH; simp only [↓GO, ↓DRW, GA, GX, ren, zo, za, refs, z8, cst, zr, isC, bin, una, z7, zd, blt, asArg, zg, zc, zf, z6, E.mkS, unN, ze, zq, zb, GS, simprocAttr, z1.zj, IH, ixI]
theorem gI (g : Nat) (caps : List T) (p : z1 → Bool) (es : List z1) (hl : es.length ≤ 4611686018427387904) (hp : ∀ x ∈ es, zm (EV Tryz.prog pol) g (.agg (x.enc.map .t) :: caps.map .t) = some (.t (.bool (p x)))) :
 zm (EV Tryz.prog pol) 54 [.t (.list 6 (z1.zh es)), .t (.fn g caps)] = some (.t (.bool (es.any p))) := by
 have h1 := vz g caps p es hl hp
 apply zu
 refine zw rfl Tryz.func54 rfl (by kernel_rfl) ?_
 unfold Tryz.f54
 have h2 := aT p es
 simp only [↓GO, ↓DRW, GA, GX, ren, zo, za, refs, z8, cst, zr, isC, bin, una, z7, zd, blt, asArg, zg, zc, zf, z6, E.mkS, unN, ze, zq, zb, GS, simprocAttr, h1, h2]
theorem mr (g : Nat) (caps : List T) (p : zy → Bool) (es : List zy) (hl : es.length ≤ 4611686018427387904) (hp : ∀ x ∈ es, zm (EV Tryz.prog pol) g (.agg (x.enc.map .t) :: caps.map .t) = some (.t (.bool (p x)))) : ∀ (rest pre : List zy), es = pre ++ rest →
 EV Tryz.prog pol (.loop 130 26 0 [.t (.list 2 (zy.zh es)), .t (.fn g caps), .t (.int .i64 (es.length : Int)), .t (.int .i64 (pre.length : Int))] []) = some (match xN p rest pre.length with | some i => .loop .ret [.t (.int .i64 (i : Int))] [] | none => .loop (.exit 0) [.bad] [])
 | [], pre, hs => by
  have c : decide ((pre.length : Int) < (es.length : Int)) = false := by simp [hs]
  refine zk Tryz.func130 rfl rfl ?_
  simp only [↓GO, ↓DRW, GA, GX, ren, zo, za, refs, z8, cst, zr, isC, bin, una, z7, zd, blt, asArg, zg, zc, zf, z6, E.mkS, unN, ze, zq, zb, GS, simprocAttr, c, xN]
 | b :: rest, pre, hs => by
  have c : decide ((pre.length : Int) < (es.length : Int)) = true := by simp [hs]; omega
  have hi : pre.length < es.length := by rw [hs]; simp
  have hget := zy.xm es pre.length hi
  have hgb : es[pre.length] = b := by simp [hs]
  rw [hgb] at hget
  have hb := hp b (by rw [hs]; simp)
  have e1 : (pre.length : Int) + 1 = ((pre ++ [b]).length : Int) := by simp
  have IH := mr g caps p es hl hp rest (pre ++ [b]) (by rw [hs]; simp)
  refine zk Tryz.func130 rfl rfl ?_
  simp only [xN]
  cases hpb : p b with
  | true =>
   rw [hpb] at hb
   simp (disch := omega) only [↓GO, ↓DRW, GA, GX, ren, zo, za, refs, z8, cst, zr, isC, bin, una, z7, zd, blt, asArg, zg, zc, zf, z6, E.mkS, unN, ze, zq, zb, GS, simprocAttr, zy.zj, c, hget, zy.wW, zy.wc, zn, hb]
  | false =>
   rw [hpb] at hb
   simp (disch := omega) only [↓GO, ↓DRW, GA, GX, ren, zo, za, refs, z8, cst, zr, isC, bin, una, z7, zd, blt, asArg, zg, zc, zf, z6, E.mkS, unN, ze, zq, zb, GS, simprocAttr, zy.zj, c, hget, zy.wW, zy.wc, zn, hb]
   rw [e1, IH]
   simp
theorem mK (g : Nat) (caps : List T) (p : zy → Bool) (es : List zy) (hl : es.length ≤ 4611686018427387904) (hp : ∀ x ∈ es, zm (EV Tryz.prog pol) g (.agg (x.enc.map .t) :: caps.map .t) = some (.t (.bool (p x)))) :
 zm (EV Tryz.prog pol) 130 [.t (.list 2 (zy.zh es)), .t (.fn g caps)] = some (.t (.int .i64 (ixI (xN p es 0)))) := by
 have IH := mr g caps p es hl hp es [] rfl
 simp only [List.length_nil, Int.natCast_zero] at IH
 apply zu
 refine zw rfl Tryz.func130 rfl (by kernel_rfl) ?_
 unfold Tryz.f130
 cases hf : xN p es 0 with
 | none => rw [hf] at IH; simp only [↓GO, ↓DRW, GA, GX, ren, zo, za, refs, z8, cst, zr, isC, bin, una, z7, zd, blt, asArg, zg, zc, zf, z6, E.mkS, unN, ze, zq, zb, GS, simprocAttr, zy.zj, IH, ixI]
 | some i => rw [hf] at IH; simp only [↓GO, ↓DRW, GA, GX, ren, zo, za, refs, z8, cst, zr, isC, bin, una, z7, zd, blt, asArg, zg, zc, zf, z6, E.mkS, unN, ze, zq, zb, GS, simprocAttr, zy.zj, IH, ixI]
theorem cu (g : Nat) (caps : List T) (p : zy → Bool) (es : List zy) (hl : es.length ≤ 4611686018427387904) (hp : ∀ x ∈ es, zm (EV Tryz.prog pol) g (.agg (x.enc.map .t) :: caps.map .t) = some (.t (.bool (p x)))) :
 zm (EV Tryz.prog pol) 97 [.t (.list 2 (zy.zh es)), .t (.fn g caps)] = some (.t (.bool (es.any p))) := by
 have h1 := mK g caps p es hl hp
 apply zu
 refine zw rfl Tryz.func97 rfl (by kernel_rfl) ?_
 unfold Tryz.f97
 have h2 := aT p es
 simp only [↓GO, ↓DRW, GA, GX, ren, zo, za, refs, z8, cst, zr, isC, bin, una, z7, zd, blt, asArg, zg, zc, zf, z6, E.mkS, unN, ze, zq, zb, GS, simprocAttr, h1, h2]
end Go.Proofs.YtonbkdklidfmfaaGreatDoor
/- Texts cut at a byte; names; plain texts. Plain. Conditions: none. -/
namespace Go.Proofs.YtonbkdklidfmfaaGreatDoor
set_option linter.unusedVariables false
set_option linter.unusedSimpArgs false
theorem mw (b : UInt8) (s : Str) : Lib.index (b :: s) [b] = 0 := by rw [Lib.index]; simp [List.isPrefixOf]
theorem n5 (x b : UInt8) (s : Str) (h : x ≠ b) : Lib.index (x :: s) [b] = if Lib.index s [b] == -1 then -1 else Lib.index s [b] + 1 := by
 have hp : ([b] : List UInt8).isPrefixOf (x :: s) = false := by simp [List.isPrefixOf, Ne.symm h]
 rw [Lib.index, hp]; simp
theorem rF (b : UInt8) : ∀ s : Str, x7 b s ≠ []
 | [] => by simp [x7]
 | x :: s => by
  unfold x7
  split
  · simp
  · split <;> simp
theorem uj (b : UInt8) (s : Str) : x7 b (b :: s) = [] :: x7 b s := by rw [x7, if_pos rfl]
theorem wM (b x : UInt8) (s p : Str) (r : List Str) (h : x ≠ b) (e : x7 b s = p :: r) : x7 b (x :: s) = (x :: p) :: r := by
 rw [x7, if_neg h, e]
theorem ki (b : UInt8) : ∀ s : Str, Lib.split s [b] = x7 b s
 | [] => by
  unfold Lib.split
  rw [Lib.count_miss (by simp [Lib.index])]; rfl
 | x :: s => by
  have ih := ki b s
  unfold Lib.split at ih ⊢
  by_cases h : x = b
  · subst h
    rw [Lib.count_cons_eq, Nat.add_comm, Lib.splitK, mw, uj]
    simpa using ih
  · rw [Lib.count_cons_ne x b s h]
    by_cases hm : Lib.index s [b] = -1
    · rw [Lib.count_miss hm] at ih ⊢
      rw [Lib.splitK] at ih ⊢
      exact (wM b x s s [] h ih.symm).symm
    · have hge := Lib.index_ge s [b]
      obtain ⟨j, hj⟩ : ∃ j : Nat, Lib.index s [b] = j := ⟨(Lib.index s [b]).toNat, by omega⟩
      rw [Lib.count_hit (by simp) hj, Nat.add_comm] at ih ⊢
      have hb : (((j : Nat) : Int) == -1) = false := by rw [beq_eq_false_iff_ne]; omega
      have hb2 : (((j : Nat) : Int) + 1 == -1) = false := by rw [beq_eq_false_iff_ne]; omega
      rw [Lib.splitK, hj, hb] at ih
      rw [Lib.splitK, n5 x b s h, hj, hb]
      simp only [Bool.false_eq_true, if_false, hb2, Int.toNat_natCast, Nat.add_zero, List.length_cons, List.length_nil, Nat.zero_add] at ih ⊢
      rw [show ((j : Int) + 1).toNat = j + 1 by omega]
      rw [List.take_succ_cons, List.drop_succ_cons]
      exact (wM b x s _ _ h ih.symm).symm
/-- a text cut at the first place of a byte -/
def yf (b : UInt8) : Str → Str × Str × Bool
 | [] => ([], [], false)
 | x :: s => if x = b then ([], s, true) else (x :: (yf b s).1, (yf b s).2.1, (yf b s).2.2)
theorem de (b : UInt8) : ∀ s : Str, Lib.cut s [b] = yf b s
 | [] => by simp [Lib.cut, yf, Lib.index]
 | x :: s => by
  have ih := de b s
  by_cases h : x = b
  · subst h
    unfold Lib.cut
    rw [mw, yf, if_pos rfl]; simp
  · rw [yf, if_neg h, ← ih]
    unfold Lib.cut
    rw [n5 x b s h]
    have hge := Lib.index_ge s [b]
    by_cases hm : Lib.index s [b] = -1
    · rw [hm]; simp
    · obtain ⟨j, hj⟩ : ∃ j : Nat, Lib.index s [b] = j := ⟨(Lib.index s [b]).toNat, by omega⟩
      have hb : (((j : Nat) : Int) == -1) = false := by rw [beq_eq_false_iff_ne]; omega
      rw [hj, hb]
      simp only [Bool.false_eq_true, if_false]
      rw [if_pos (by omega), if_pos (by omega), show ((j : Int) + 1).toNat = j + 1 by omega]
      simp only [List.take_succ_cons, Int.toNat_natCast]
      rw [show j + 1 + [b].length = (j + [b].length) + 1 by simp, List.drop_succ_cons]
theorem nD (b : UInt8) : ∀ s : Str, s = (yf b s).1 ++ cond (yf b s).2.2 (b :: (yf b s).2.1) []
 | [] => rfl
 | x :: s => by
  rw [yf]
  split
  · rename_i h; rw [h]; rfl
  · have := nD b s
    show x :: s = (x :: (yf b s).1) ++ _
    rw [List.cons_append, ← this]
theorem dh (b : UInt8) : ∀ s : Str, b ∉ (yf b s).1
 | [] => by simp [yf]
 | x :: s => by
  rw [yf]
  split
  · simp
  · rename_i h
    have := dh b s
    simp only [List.mem_cons, not_or]
    exact ⟨Ne.symm h, this⟩
theorem mE (b : UInt8) : ∀ s : Str, (yf b s).2.2 = false → (yf b s).2.1 = []
 | [], _ => rfl
 | x :: s, h => by
  rw [yf] at h ⊢
  split at h
  · simp at h
  · rename_i hx
    rw [if_neg hx]; exact mE b s h
theorem di (b : UInt8) (t : Str) : ∀ s : Str, b ∉ s → yf b (s ++ b :: t) = (s, t, true)
 | [], _ => by simp [yf]
 | x :: s, h => by
  simp only [List.mem_cons, not_or] at h
  rw [List.cons_append, yf, if_neg (Ne.symm h.1), di b t s h.2]
theorem df (b : UInt8) (t : Str) : ∀ s : Str, x7 b (s ++ b :: t) = x7 b s ++ x7 b t
 | [] => by rw [List.nil_append, uj]; rfl
 | x :: s => by
  have ih := df b t s
  rw [List.cons_append]
  by_cases h : x = b
  · subst h; rw [uj, uj, ih]; rfl
  · cases hc : x7 b s with
    | nil => exact absurd hc (rF b s)
    | cons p r =>
     rw [hc] at ih
     rw [wM b x s p r h hc, wM b x _ p (r ++ x7 b t) h ih]; rfl
def rK : Str := [110, 111, 100, 101, 95, 109, 111, 100, 117, 108, 101, 115]
def uz (b : UInt8) : Bool := B2 (nb b) 97 122 || B2 (nb b) 48 57 || nb b == 46 || nb b == 95 || nb b == 45
def np (s : Str) : Bool := ([64] : Str).isPrefixOf s
def xh (s : Str) : Str := match s with
 | [] => []
 | x :: r => if x = 64 then r else x :: r
/-- as the implementation asks -/
def uq (sc : Bool) : List Str → Bool
 | [] => true
 | p :: r => (!((p == []) || ((p == rK) && !sc) || !(p.all uz))) && uq false r
def sS (s : Str) : Bool := uq (np s) (x7 47 (xh s)) && decide ((s.length : Int) ≤ 60)
/-- as the reference asks -/
def lE : List Str → Bool
 | [] => true
 | p :: r => (!(p == rK) && (p.all uz && !(p == []))) && lE r
def qK : List Str → Bool
 | [] => true
 | p :: r => (!(p == rK) && ((xh p).all uz && !(xh p == []))) && lE r
theorem r5 : ∀ r : List Str, lE r = uq false r
 | [] => rfl
 | p :: r => by
  rw [lE, uq, r5 r]
  cases (p == []) <;> cases (p == rK) <;> cases (p.all uz) <;> rfl
theorem Yf (s : Str) : (qK (x7 47 s) && decide ((s.length : Int) ≤ 60)) = sS s := by
 unfold sS
 congr 1
 cases s with
 | nil => rfl
 | cons x t =>
  cases hc : x7 47 t with
  | nil => exact absurd hc (rF 47 t)
  | cons p r =>
   by_cases h64 : x = 64
   · subst h64
     rw [wM 47 64 t p r (by decide) hc]
     have h1 : np (64 :: t) = true := by simp [np, List.isPrefixOf]
     have h2 : xh (64 :: t) = t := by simp [xh]
     have h3 : xh (64 :: p) = p := by simp [xh]
     have h4 : (((64 : UInt8) :: p) == rK) = false := by simp [rK]
     rw [h1, h2, hc, qK, uq, h3, h4, r5]
     cases (p == []) <;> cases (p == rK) <;> cases (p.all uz) <;> rfl
   · have h1 : np (x :: t) = false := by simp [np, List.isPrefixOf]; exact fun h => h64 h.symm
     have h2 : xh (x :: t) = x :: t := by simp [xh, h64]
     rw [h1, h2]
     by_cases h47 : x = 47
     · subst h47
       rw [uj, qK, uq, r5]
       rfl
     · rw [wM 47 x t p r h47 hc, qK, uq, r5]
       have h3 : xh (x :: p) = x :: p := by simp [xh, h64]
       rw [h3]
       cases ((x :: p) == []) <;> cases ((x :: p) == rK) <;> cases ((x :: p).all uz) <;> rfl
def qJ (b : UInt8) : Bool := B2 (nb b) 33 126 && (!(nb b == 34) && (!(nb b == 39) && (!(nb b == 44) && !(nb b == 92))))
def tY (s : Str) : Bool := s.all qJ && decide ((s.length : Int) ≤ 100)
end Go.Proofs.YtonbkdklidfmfaaGreatDoor
/- The number of a text, plain: both ways of reading it come to the same. Conditions: none. -/
namespace Go.Proofs.YtonbkdklidfmfaaGreatDoor
set_option linter.unusedSimpArgs false
set_option linter.unusedVariables false
def isD (c : UInt8) : Bool := decide (48 ≤ c.toNat) && decide (c.toNat ≤ 57)
/-- what digits spell behind a number -/
def qD (a : Nat) (c : UInt8) : Nat := a * 10 + (c.toNat - 48)
def uR (acc : Nat) (l : List UInt8) : Nat := l.foldl qD acc
theorem mN (acc : Nat) : uR acc [] = acc := rfl
theorem pW (acc : Nat) (c : UInt8) (l : List UInt8) : uR acc (c :: l) = uR (qD acc c) l := by
 unfold uR
 rw [List.foldl_cons]
theorem ke (c : UInt8) (l : List UInt8) (acc : Nat) : uR acc (l ++ [c]) = qD (uR acc l) c := by
 unfold uR
 rw [List.foldl_append, List.foldl_cons, List.foldl_nil]
theorem pG (c : UInt8) : isD c = true ↔ 48 ≤ c.toNat ∧ c.toNat ≤ 57 := by simp [isD]
theorem bO (acc : Nat) (c : UInt8) (h : isD c = true) : qD acc c + 1 ≤ (acc + 1) * 10 := by
 have := (pG c).1 h
 unfold qD
 omega
theorem me (n m : Nat) : m * 10 ^ (n + 1) = m * 10 * 10 ^ n := by rw [Nat.pow_succ, Nat.mul_comm (10 ^ n) 10, Nat.mul_assoc]
theorem nv : ∀ (l : List UInt8) (acc : Nat), l.all isD = true → uR acc l < (acc + 1) * 10 ^ l.length
 | [], acc, _ => by rw [mN]; simp
 | c :: l, acc, h => by
  rw [List.all_cons, Bool.and_eq_true] at h
  have ih := nv l (qD acc c) h.2
  rw [pW, List.length_cons, me]
  exact Nat.lt_of_lt_of_le ih (Nat.mul_le_mul_right _ (bO acc c h.1))
theorem jk {d : Nat} (h : d < 10) : (UInt8.ofNat (48 + d)).toNat = 48 + d := by
 simp [UInt8.toNat_ofNat']; omega
theorem uG (u : Nat) : (Lib.decDigits u).all isD = true ∧ uR 0 (Lib.decDigits u) = u ∧ Lib.decDigits u ≠ [] := by
 induction u using Nat.strongRecOn with
 | _ u ih =>
  rw [Lib.decDigits]
  split
  · rename_i h
    have := jk h
    refine ⟨?_, ?_, by simp⟩
    · rw [List.all_cons, List.all_nil, Bool.and_true, pG, this]; omega
    · rw [pW, mN, qD, this]; omega
  · rename_i h
    obtain ⟨h1, h2, h3⟩ := ih (u / 10) (by omega)
    have := jk (d := u % 10) (by omega)
    refine ⟨?_, ?_, by simp⟩
    · rw [List.all_append, h1, List.all_cons, List.all_nil, Bool.and_true, Bool.true_and, pG, this]; omega
    · rw [ke, h2, qD, this]; omega
theorem qO : ∀ (l : List UInt8) (acc : Nat), l.all isD = true → (acc + 1) * 10 ^ l.length ≤ 1000000000000000000 → Lib.parseUint10 acc l = .ok (uR acc l)
 | [], acc, _, _ => rfl
 | c :: l, acc, h, hb => by
  rw [List.all_cons, Bool.and_eq_true] at h
  have hp : 0 < 10 ^ l.length := Nat.pos_of_ne_zero (by intro h; simp at h)
  rw [List.length_cons, me] at hb
  have h10 : (acc + 1) * 10 ≤ 1000000000000000000 := Nat.le_trans (Nat.le_mul_of_pos_right _ hp) hb
  have hc := (pG c).1 h.1
  have ih := qO l (qD acc c) h.2 (Nat.le_trans (Nat.mul_le_mul_right _ (bO acc c h.1)) hb)
  rw [Lib.parseUint10, if_pos hc, if_neg (by omega), if_neg (by omega), pW, ← ih]
  rfl
theorem oR : ∀ (k u : Nat), 1 ≤ k → u < 10 ^ k → Lib.nDigits u ≤ k
 | 0, u, h, _ => by omega
 | k + 1, u, _, h => by
  rw [Lib.nDigits]
  split
  · omega
  · have h10 : u / 10 < 10 ^ k := by rw [Nat.pow_succ] at h; omega
    have hk : 1 ≤ k := by
     rcases Nat.eq_zero_or_pos k with rfl | h
     · simp at h10; omega
     · exact h
    have := oR k (u / 10) hk h10
    omega
theorem so {u : Nat} (h : u ≤ 999999999) : (Lib.decDigits u).length ≤ 9 := by
 rw [Lib.decDigits_length]
 exact oR 9 u (by omega) (by omega)
theorem gK {u : Nat} (h : u ≤ 999999999) : Lib.atoiAll (Lib.decDigits u) = .ok (u : Int) := by
 obtain ⟨h1, h2, h3⟩ := uG u
 have hl := so h
 generalize Lib.decDigits u = l at *
 cases l with
 | nil => exact absurd rfl h3
 | cons c r =>
  have hc : isD c = true := by simp only [List.all_cons, Bool.and_eq_true] at h1; exact h1.1
  simp only [isD, Bool.and_eq_true, decide_eq_true_eq] at hc
  have hp : Lib.parseMag (c :: r) = .ok u := by
   unfold Lib.parseMag
   have : (10 : Nat) ^ (c :: r).length ≤ 10 ^ 9 := Nat.pow_le_pow_right (by omega) hl
   have e9 : (10 : Nat) ^ 9 = 1000000000 := by decide
   rw [if_neg (by simp), qO _ 0 h1 (by omega), h2]
  unfold Lib.atoiAll
  simp only
  rw [if_neg (by omega), hp]
  simp only
  rw [if_neg (by omega), if_neg (by omega), if_neg (by omega)]
/-- the number of a text, or -1 -/
def zN (s : List UInt8) : Int :=
 match Lib.atoiAll s with
 | .ok v => cond ((decide (0 ≤ v) && decide (v ≤ 999999999)) && (Lib.itoa v == s)) v (-1)
 | _ => -1
/-- the same, by the digits -/
def rA (s : List UInt8) : Int := cond ((s.all isD && decide (s.length ≤ 9)) && (!(s == []) && (Lib.itoa (uR 0 s : Nat) == s))) (uR 0 s : Nat) (-1)
theorem kv {u : Nat} (h : u ≤ 999999999) : zN (Lib.decDigits u) = u ∧ rA (Lib.decDigits u) = u := by
 obtain ⟨h1, h2, h3⟩ := uG u
 have hl := so h
 refine ⟨?_, ?_⟩
 · unfold zN
   rw [gK h]
   simp only
   rw [Lib.itoa_nonneg]
   have e1 : decide ((0 : Int) ≤ (u : Int)) = true := by simp
   have e2 : decide ((u : Int) ≤ 999999999) = true := by simp; omega
   rw [e1, e2]; simp
 · unfold rA
   rw [h1, h2, Lib.itoa_nonneg]
   have e1 : decide ((Lib.decDigits u).length ≤ 9) = true := by simpa using hl
   have e2 : (Lib.decDigits u == []) = false := by simpa using h3
   rw [e1, e2]; simp
theorem Y7 {s : List UInt8} (h : ∀ u, u ≤ 999999999 → s ≠ Lib.decDigits u) : zN s = -1 ∧ rA s = -1 := by
 refine ⟨?_, ?_⟩
 · unfold zN
   split
   · rename_i v hv
     cases hc : ((decide (0 ≤ v) && decide (v ≤ 999999999)) && (Lib.itoa v == s)) with
     | false => rfl
     | true =>
      simp only [Bool.and_eq_true, decide_eq_true_eq] at hc
      obtain ⟨⟨c1, c2⟩, c3⟩ := hc
      obtain ⟨u, rfl⟩ : ∃ u : Nat, v = u := ⟨v.toNat, by omega⟩
      rw [Lib.itoa_nonneg] at c3
      exact absurd (eq_of_beq c3).symm (h u (by omega))
   · rfl
 · unfold rA
   cases hc : ((s.all isD && decide (s.length ≤ 9)) && (!(s == []) && (Lib.itoa (uR 0 s : Nat) == s))) with
   | false => rfl
   | true =>
    simp only [Bool.and_eq_true, decide_eq_true_eq] at hc
    obtain ⟨⟨c1, c2⟩, c3, c4⟩ := hc
    rw [Lib.itoa_nonneg] at c4
    have hv := nv s 0 c1
    have : (10 : Nat) ^ s.length ≤ 10 ^ 9 := Nat.pow_le_pow_right (by omega) c2
    have e9 : (10 : Nat) ^ 9 = 1000000000 := by decide
    exact absurd (eq_of_beq c4).symm (h _ (by omega))
theorem ZY (s : List UInt8) : rA s = zN s := by
 by_cases h : ∃ u, u ≤ 999999999 ∧ s = Lib.decDigits u
 · obtain ⟨u, hu, rfl⟩ := h
   obtain ⟨h1, h2⟩ := kv hu
   rw [h1, h2]
 · obtain ⟨h1, h2⟩ := Y7 (s := s) fun u hu he => h ⟨u, hu, he⟩
   rw [h1, h2]
end Go.Proofs.YtonbkdklidfmfaaGreatDoor
/- Versions, packs, graphs, plain. Conditions: none. -/
namespace Go.Proofs.YtonbkdklidfmfaaGreatDoor
open E
set_option linter.unusedVariables false
set_option linter.unusedSimpArgs false
set_option maxRecDepth 100000
theorem sJ (a b : UInt8) (x y : Str) : Op.bytesLess (a :: x) (b :: y) = (decide (a < b) || (a == b && Op.bytesLess x y)) := by
 rw [Op.bytesLess]
/-- '<=' on texts, said by '<' -/
theorem pE : ∀ x y : Str, (Op.bytesLess x y || x == y) = !(Op.bytesLess y x)
 | [], [] => rfl
 | [], b :: y => by simp [Op.bytesLess]
 | a :: x, [] => by simp [Op.bytesLess]
 | a :: x, b :: y => by
  have ih := pE x y
  rw [sJ, sJ]
  by_cases h1 : a < b
  · have h2 : ¬ b < a := by simp only [UInt8.lt_iff_toNat_lt] at h1 ⊢; omega
    have h3 : (b == a) = false := by
     rw [beq_eq_false_iff_ne]; intro h; subst h; simp only [UInt8.lt_iff_toNat_lt] at h1; omega
    simp [h1, h2, h3]
  · by_cases h2 : b < a
    · have h3 : (a == b) = false := by
       rw [beq_eq_false_iff_ne]; intro h; subst h; simp only [UInt8.lt_iff_toNat_lt] at h2; omega
      have h4 : ((a :: x) == (b :: y)) = false := by
       rw [beq_eq_false_iff_ne]; intro h; cases h; simp at h3
      simp [h1, h2, h3, h4]
    · have h3 : a = b := by
       apply UInt8.toNat_inj.1; simp only [UInt8.lt_iff_toNat_lt] at h1 h2; omega
      subst h3
      have e : ((a :: x) == (a :: y)) = (x == y) := by
       rw [Bool.eq_iff_iff]; simp
      simp only [h1, decide_false, Bool.false_or, beq_self_eq_true, Bool.true_and, e, ih]
theorem vm (b : UInt8) : ∀ s : Str, ya (x7 b s) + (x7 b s).length ≤ s.length + 1
 | [] => by simp [x7, ya]
 | x :: s => by
  have ih := vm b s
  by_cases h : x = b
  · subst h; rw [uj]; simp only [ya, List.length_cons, List.length_nil]; omega
  · cases hc : x7 b s with
    | nil => exact absurd hc (rF b s)
    | cons p r =>
     rw [hc] at ih
     rw [wM b x s p r h hc]
     simp only [ya, List.length_cons] at ih ⊢; omega
theorem px (b : UInt8) (s : Str) : (yf b s).1.length ≤ s.length ∧ (yf b s).2.1.length ≤ s.length := by
 have h := nD b s
 have h2 := congrArg List.length h
 rw [List.length_append] at h2
 cases hc : (yf b s).2.2 with
 | true => rw [hc] at h2; simp only [cond_true, List.length_cons] at h2; omega
 | false =>
  have := mE b s hc
  rw [this]; simp only [List.length_nil]; omega
theorem uk : ∀ {ks : List Str} {s : Str}, s ∈ ks → s.length ≤ ya ks
 | k :: ks, s, h => by
  simp only [ya]
  rcases List.mem_cons.1 h with rfl | h
  · omega
  · have := uk h; omega
theorem lp : ∀ a b : List Str, ya (a ++ b) = ya a + ya b
 | [], b => by simp [ya]
 | x :: a, b => by simp only [List.cons_append, ya, lp a b]; omega
theorem kQ : ∀ l : List Str, Lib.lens l = ya l
 | [] => rfl
 | x :: l => by
  have := kQ l
  simp only [ya, ← this]; simp [Lib.lens]
theorem join_le (sep : Str) : ∀ l : List Str, (Lib.join l sep).length ≤ ya l + sep.length * l.length
 | [] => by simp [Lib.join_nil]
 | x :: r => by rw [Lib.join_length, kQ]; simp only [List.length_cons, Nat.mul_add, Nat.mul_one]; omega
theorem mv (sep : Str) (x : Str) (l : List Str) (y : Str) : Lib.join (x :: l ++ [y]) sep = Lib.join (x :: l) sep ++ (sep ++ y) := by
 rw [List.cons_append, Lib.join_cons, Lib.join_cons]; simp [Lib.joinTail]
structure Ver where
 maj : Int
 min : Int
 pat : Int
 pre : List Str
def Ver.enc (v : Ver) : List T := [.int .i64 v.maj, .int .i64 v.min, .int .i64 v.pat, .list 1 (strs v.pre)]
def Ver.zero : Ver := ⟨0, 0, 0, []⟩
def preB (b : UInt8) : Bool := (B2 (nb b) 97 122 || B2 (nb b) 48 57) || (B2 (nb b) 65 90 || nb b == 45)
def isNum (s : Str) : Bool := !(s == []) && s.all isD
def tE (p : Str) : Bool := B2 (p.length : Int) 1 20 && (p.all preB && (!(isNum p) || decide (0 ≤ zN p)))
def n9 (n : Int) : Bool := B2 n 0 999999999
def x6 (v : Ver) : Bool := (n9 v.maj && (n9 v.min && n9 v.pat)) && (v.pre.all tE && decide ((v.pre.length : Int) ≤ 5))
def uN (v : Ver) : Str := (((Lib.itoa v.maj ++ [46]) ++ Lib.itoa v.min) ++ [46]) ++ Lib.itoa v.pat
def wJ (c : Str) (pre : List Str) : Str := cond (pre == []) c (c ++ ([45] ++ Lib.join pre [46]))
def yo (v : Ver) : Str := cond (x6 v) (wJ (uN v) v.pre) []
def vt (s : Str) : Option Ver :=
 match x7 46 (yf 45 s).1 with
 | [a, b, c] => some ⟨zN a, zN b, zN c, cond (yf 45 s).2.2 (x7 46 (yf 45 s).2.1) []⟩
 | _ => none
def zW (s : Str) : Ver × Bool :=
 match vt s with
 | some v => cond (yo v == s) (v, true) (Ver.zero, false)
 | none => (Ver.zero, false)
theorem eg {s : Str} {v : Ver} (h : vt s = some v) : s ≠ [] := by
 intro e; subst e; simp [vt, yf, x7] at h
theorem we {s : Str} (h : (zW s).2 = true) : vt s = some (zW s).1 ∧ yo (zW s).1 = s ∧ x6 (zW s).1 = true ∧ s ≠ [] := by
 unfold zW at h ⊢
 cases hm : vt s with
 | none => rw [hm] at h; cases h
 | some v =>
  rw [hm] at h
  simp only at h ⊢
  have hs := eg hm
  cases hc : (yo v == s) with
  | false => rw [hc] at h; cases h
  | true =>
   have he := eq_of_beq hc
   simp only [cond_true]
   refine ⟨trivial, he, ?_, hs⟩
   cases hv : x6 v with
   | true => rfl
   | false => unfold yo at he; rw [hv] at he; exact absurd he.symm hs
theorem lA (n : Int) : n9 n = true ↔ 0 ≤ n ∧ n ≤ 999999999 := by simp [n9]
theorem uT {v : Ver} (h : x6 v = true) : (0 ≤ v.maj ∧ v.maj ≤ 999999999) ∧ (0 ≤ v.min ∧ v.min ≤ 999999999) ∧ (0 ≤ v.pat ∧ v.pat ≤ 999999999) ∧ v.pre.all tE = true ∧ v.pre.length ≤ 5 := by
 unfold x6 at h
 simp only [Bool.and_eq_true, lA, decide_eq_true_eq] at h
 obtain ⟨⟨h1, h2, h3⟩, h4, h5⟩ := h
 exact ⟨h1, h2, h3, h4, by omega⟩
theorem sv (s : Str) : -1 ≤ zN s ∧ zN s ≤ 999999999 := by
 unfold zN
 split
 · rename_i v _
   cases hc : ((decide (0 ≤ v) && decide (v ≤ 999999999)) && (Lib.itoa v == s)) with
   | false => simp
   | true =>
    simp only [Bool.and_eq_true, decide_eq_true_eq] at hc
    simp only [cond_true]; omega
 · simp
/-- with one number more behind -/
def q8 (v : Ver) : Ver := ⟨v.maj, v.min, v.pat, v.pre ++ [[48]]⟩
theorem ZU (c : Str) (x : Str) (l : List Str) : wJ c ((x :: l) ++ [[48]]) = wJ c (x :: l) ++ [46, 48] := by
 unfold wJ
 rw [mv]
 simp
theorem beq_nil_cons {α : Type} [BEq α] (x : α) (l : List α) : ((x :: l) == []) = false := rfl
/-- a version's text with '.0' behind is read as the version with one part more, where that is right -/
theorem Y8 {s : Str} (h : (zW s).2 = true) (hp : (zW s).1.pre ≠ []) :
 zW (s ++ [46, 48]) = cond (x6 (q8 (zW s).1)) (q8 (zW s).1, true) (Ver.zero, false) ∧ yo (q8 (zW s).1) = cond (x6 (q8 (zW s).1)) (s ++ [46, 48]) [] := by
 obtain ⟨hm, ht, ho, hs⟩ := we h
 generalize (zW s).1 = v at *
 have hmk : vt (s ++ [46, 48]) = some (q8 v) := by
  unfold vt at hm ⊢
  have he := nD 45 s
  have hn := dh 45 s
  cases hc : (yf 45 s).2.2 with
  | false =>
   rw [hc] at hm
   split at hm
   · cases hm; exact absurd rfl hp
   · cases hm
  | true =>
   rw [hc] at hm he
   simp only [cond_true] at he
   have h2 : yf 45 (s ++ [46, 48]) = ((yf 45 s).1, (yf 45 s).2.1 ++ [46, 48], true) := by
    conv => lhs; rw [he]
    rw [List.append_assoc, List.cons_append]
    exact di 45 _ _ hn
   rw [h2]
   simp only
   split at hm
   · cases hm
     simp only [cond_true]
     rw [show (yf 45 s).2.1 ++ [46, 48] = (yf 45 s).2.1 ++ 46 :: [48] from rfl, df]
     rfl
   · cases hm
 have htx : yo (q8 v) = cond (x6 (q8 v)) (s ++ [46, 48]) [] := by
  have ht' := ht
  unfold yo at ht' ⊢
  rw [ho] at ht'
  simp only [cond_true] at ht'
  congr 1
  rw [← ht']
  cases hv : v.pre with
  | nil => exact absurd hv hp
  | cons x l =>
   show wJ (uN v) (v.pre ++ [[48]]) = _
   rw [hv]
   exact ZU _ x l
 refine ⟨?_, htx⟩
 unfold zW
 rw [hmk]
 simp only
 rw [htx]
 cases hk : x6 (q8 v) with
 | true => simp
 | false =>
  simp only [cond_false]
  have : (([] : Str) == s ++ [46, 48]) = false := by rw [beq_eq_false_iff_ne]; intro e; have := congrArg List.length e; simp at this
  rw [this]; rfl
/-- the text that a version ends ahead of, where it stands alone -/
def xY (a b c : Int) : Str := yo ⟨a, b, c, [[48]]⟩
def lF (v : Ver) : Str := cond (v.pre == []) (xY v.maj v.min (v.pat + 1)) (yo (q8 v))
def wO (s : Str) : Option (Str × Str) := cond ((zW s).2 && !(lF (zW s).1 == [])) (some (s, lF (zW s).1)) none
def upV (v : Ver) (part : Int) : Ver := cond (part == 0) ⟨v.maj + 1, 0, 0, []⟩ (cond (part == 1) ⟨v.maj, v.min + 1, 0, []⟩ ⟨v.maj, v.min, cond (v.pre == []) (v.pat + 1) v.pat, []⟩)
def vr (v : Ver) (part : Int) : Ver := cond (!(x6 v) || !(B2 part 0 2)) v (cond (x6 (upV v part)) (upV v part) v)
def vn (a b : Int) : Int := cond (decide (a < b)) (-1) (cond (decide (a > b)) 1 0)
def dM (a b : Str) : Int := cond (Op.bytesLess a b) (-1) (cond (!(Op.bytesLess a b || a == b)) 1 0)
def tA (a b : Str) : Int := cond (decide (zN a ≥ 0) && decide (zN b ≥ 0)) (vn (zN a) (zN b)) (cond (decide (zN a ≥ 0)) (-1) (cond (decide (zN b ≥ 0)) 1 (dM a b)))
/-- the first place at which parts differ -/
def rH : List Str → List Str → Option Int
 | a :: l, b :: m => cond (tA a b == 0) (rH l m) (some (tA a b))
 | _, _ => none
def u7 (a b : List Str) : Int := (rH a b).getD (vn (a.length : Int) (b.length : Int))
def dL (a b : Ver) : Int :=
 cond (vn a.maj b.maj == 0) (cond (vn a.min b.min == 0) (cond (vn a.pat b.pat == 0)
  (cond (a.pre == [] || b.pre == []) (vn (b.pre.length : Int) (a.pre.length : Int)) (u7 a.pre b.pre))
  (vn a.pat b.pat)) (vn a.min b.min)) (vn a.maj b.maj)
theorem td (a b : Int) : (vn a b == 0) = (a == b) := by
 unfold vn
 by_cases h1 : a < b
 · simp [h1]; omega
 · by_cases h2 : a > b
   · simp [h1, h2]; omega
   · simp [h1, h2]; omega
theorem tr (a b c a' b' c' : Int) : (dL ⟨a, b, c, []⟩ ⟨a', b', c', []⟩ == 0) = (a == a' && (b == b' && c == c')) := by
 unfold dL
 simp only [td]
 cases h1 : (a == a') with
 | false => simp only [cond_false]; rw [td, h1]; rfl
 | true =>
  cases h2 : (b == b') with
  | false => simp only [cond_true, cond_false]; rw [td, h2]; rfl
  | true =>
   cases h3 : (c == c') with
   | false => simp only [cond_true, cond_false]; rw [td, h3]; rfl
   | true => rfl
def xp (v : Ver) : Ver := ⟨v.maj, v.min, v.pat, []⟩
def lB (v : Ver) (part : Int) : Str × Bool := cond (dL (vr (xp v) part) (xp v) == 0) ([], false) (yo ⟨(vr (xp v) part).maj, (vr (xp v) part).min, (vr (xp v) part).pat, [[48]]⟩, true)
theorem Tn : tE [48] = true := by
 unfold tE
 have h1 : ([48] : Str).all preB = true := by decide
 have h2 : decide (0 ≤ zN [48]) = true := by
  have := (kv (u := 0) (by omega)).1
  rw [show Lib.decDigits 0 = [48] by rw [Lib.decDigits_one (by omega)]; rfl] at this
  rw [this]; rfl
 rw [h1, h2]; simp
theorem dO (v : Ver) : x6 (xp v) = (n9 v.maj && (n9 v.min && n9 v.pat)) := by simp [x6, xp]
theorem tH (a b c : Int) : x6 ⟨a, b, c, [[48]]⟩ = (n9 a && (n9 b && n9 c)) := by simp [x6, Tn]
theorem qd (a b c : Int) : (xY a b c == []) = !(n9 a && (n9 b && n9 c)) := by
 unfold xY yo
 rw [tH]
 cases (n9 a && (n9 b && n9 c)) with
 | false => rfl
 | true => simp [wJ, uN]
/-- the next one of a part is told by both in one way -/
theorem V2 {v : Ver} (ho : x6 v = true) (part : Int) (hp : part = 0 ∨ part = 1 ∨ part = 2) :
 lB v part = (let h := xY (cond (part == 0) (v.maj + 1) v.maj) (cond (part == 0) 0 (cond (part == 1) (v.min + 1) v.min)) (cond (part == 2) (v.pat + 1) 0); (h, !(h == []))) := by
 obtain ⟨h1, h2, h3, _, _⟩ := uT ho
 have hb : x6 (xp v) = true := by
  rw [dO]; simp only [Bool.and_eq_true, lA]; exact ⟨h1, h2, h3⟩
 have n1 : n9 v.maj = true := (lA _).2 h1
 have n2 : n9 v.min = true := (lA _).2 h2
 have n3 : n9 v.pat = true := (lA _).2 h3
 have n0 : n9 0 = true := by decide
 unfold lB vr
 rw [hb]
 rcases hp with rfl | rfl | rfl
 · have e : upV (xp v) 0 = ⟨v.maj + 1, 0, 0, []⟩ := rfl
   rw [e]
   simp only [Bool.not_true, Bool.false_or, show B2 0 0 2 = true from rfl, cond_false]
   rw [show x6 ⟨v.maj + 1, 0, 0, []⟩ = n9 (v.maj + 1) by simp [x6, n0]]
   simp only [show ((0 : Int) == 0) = true from rfl, cond_true, show ((0 : Int) == 2) = false from rfl, cond_false]
   rw [qd, n0]
   cases hn : n9 (v.maj + 1) with
   | true =>
    have : (v.maj + 1 == v.maj) = false := by rw [beq_eq_false_iff_ne]; omega
    simp only [cond_true, xp, tr, this]
    simp [xY]
   | false =>
    simp [tr, xY, yo, tH, hn, xp]
 · have e : upV (xp v) 1 = ⟨v.maj, v.min + 1, 0, []⟩ := rfl
   rw [e]
   simp only [Bool.not_true, Bool.false_or, show B2 1 0 2 = true from rfl, cond_false]
   rw [show x6 ⟨v.maj, v.min + 1, 0, []⟩ = n9 (v.min + 1) by simp [x6, n0, n1]]
   simp only [show ((1 : Int) == 0) = false from rfl, show ((1 : Int) == 1) = true from rfl, cond_true, show ((1 : Int) == 2) = false from rfl, cond_false]
   rw [qd, n0, n1]
   cases hn : n9 (v.min + 1) with
   | true =>
    have : (v.min + 1 == v.min) = false := by rw [beq_eq_false_iff_ne]; omega
    simp only [cond_true, xp, tr, this]
    simp [xY]
   | false =>
    simp [tr, xY, yo, tH, hn, xp]
 · have e : upV (xp v) 2 = ⟨v.maj, v.min, v.pat + 1, []⟩ := rfl
   rw [e]
   simp only [Bool.not_true, Bool.false_or, show B2 2 0 2 = true from rfl, cond_false]
   rw [show x6 ⟨v.maj, v.min, v.pat + 1, []⟩ = n9 (v.pat + 1) by simp [x6, n1, n2]]
   simp only [show ((2 : Int) == 0) = false from rfl, show ((2 : Int) == 1) = false from rfl, cond_true, show ((2 : Int) == 2) = true from rfl, cond_false]
   rw [qd, n1, n2]
   cases hn : n9 (v.pat + 1) with
   | true =>
    have : (v.pat + 1 == v.pat) = false := by rw [beq_eq_false_iff_ne]; omega
    simp only [cond_true, xp, tr, this]
    simp [xY]
   | false =>
    simp [tr, xY, yo, tH, hn, xp]
end Go.Proofs.YtonbkdklidfmfaaGreatDoor
/- Numbers' texts, by both. Conditions: those of each lemma. -/
namespace Go.Proofs.YtonbkdklidfmfaaGreatDoor
open E
set_option linter.unusedSimpArgs false
set_option linter.unusedVariables false
set_option maxRecDepth 100000
theorem mo : ∀ (k u : Nat), 1 ≤ k → u < 10 ^ k → Lib.nDigits u ≤ k
 | 0, u, h, _ => by omega
 | k + 1, u, _, h => by
  rw [Lib.nDigits]
  split
  · omega
  · have h10 : u / 10 < 10 ^ k := by rw [Nat.pow_succ] at h; omega
    have hk : 1 ≤ k := by
     rcases Nat.eq_zero_or_pos k with rfl | h
     · simp at h10; omega
     · exact h
    have := mo k (u / 10) hk h10
    omega
theorem wS (n : Int) (h0 : 0 ≤ n) (h1 : n ≤ 999999999) : (Lib.itoa n).length ≤ 9 := by
 obtain ⟨u, rfl⟩ : ∃ u : Nat, n = u := ⟨n.toNat, by omega⟩
 rw [Lib.itoa_nonneg, Lib.decDigits_length]
 exact mo 9 u (by omega) (by omega)
theorem hY (n : Int) (h0 : 0 ≤ n) (h1 : n ≤ 999999999) : zm (EV Tryz.prog pol) 203 [.t (.int .i64 n)] = some (.t (.str (Lib.itoa n))) := by
 have h := RY n (by omega) (by omega)
 apply zu
 refine zw rfl Tryz.func203 rfl (by kernel_rfl) ?_
 unfold Tryz.f203
 simp only [↓GO, ↓DRW, GA, GX, ren, zo, za, refs, z8, cst, zr, isC, bin, una, z7, zd, blt, asArg, zg, zc, zf, z6, E.mkS, unN, ze, zq, zb, GS, simprocAttr, h]
/-- the digits of a number, none for 0 -/
def Zg (m : Nat) : Str := if m = 0 then [] else Lib.decDigits m
theorem Yn (m : Nat) (h : m ≠ 0) : Zg m = Zg (m / 10) ++ [UInt8.ofNat (48 + m % 10)] := by
 unfold Zg
 rw [if_neg h]
 by_cases h10 : m < 10
 · rw [if_pos (by omega), Lib.decDigits_one h10, show m % 10 = m by omega]; rfl
 · rw [if_neg (by omega)]
   conv => lhs; rw [Lib.decDigits]
   rw [dif_neg h10]
theorem Wx (d : Nat) (h : d < 10) : (List.drop d [48, 49, 50, 51, 52, 53, 54, 55, 56, 57]).take (d + 1 - d) = [UInt8.ofNat (48 + d)] := by
 have : d = 0 ∨ d = 1 ∨ d = 2 ∨ d = 3 ∨ d = 4 ∨ d = 5 ∨ d = 6 ∨ d = 7 ∨ d = 8 ∨ d = 9 := by omega
 rcases this with rfl | rfl | rfl | rfl | rfl | rfl | rfl | rfl | rfl | rfl <;> rfl
theorem SZ (n : Int) : ∀ (N m : Nat) (out : Str), m ≤ N → m ≤ 999999999 → out.length + m ≤ 1000000000 →
 EV Tryz.prog pol (.loop 172 124 0 [.t (.int .i64 n), .t (.str out), .t (.int .i64 (m : Int))] [])
 = some (.loop (.exit 0) [.t (.int .i64 n), .t (.str (Zg m ++ out))] [])
 | N, 0, out, h, h1, h2 => by
  refine zk Tryz.func172 rfl rfl ?_
  simp only [↓GO, ↓DRW, GA, GX, ren, zo, za, refs, z8, cst, zr, isC, bin, una, z7, zd, blt, asArg, zg, zc, zf, z6, E.mkS, unN, ze, zq, zb, GS, simprocAttr, Int.natCast_zero, bne_self_eq_false, Zg, if_true]
 | 0, m + 1, out, h, h1, h2 => by omega
 | N + 1, m + 1, out, h, h1, h2 => by
  generalize hm : m + 1 = x at *
  have c : (((x : Nat) : Int) == 0) = false := by simp; omega
  have e1 : ((x : Nat) : Int).tmod 10 = ((x % 10 : Nat) : Int) := (Int.ofNat_tmod x 10).symm
  have e2 : ((x : Nat) : Int).tdiv 10 = ((x / 10 : Nat) : Int) := (Int.ofNat_tdiv x 10).symm
  have hd : x % 10 < 10 := Nat.mod_lt _ (by omega)
  have c2 : decide (((x % 10 : Nat) : Int) < 0) = false := by simp only [decide_eq_false_iff_not]; omega
  have hdig := Wx (x % 10) hd
  have IH := SZ n N (x / 10) (UInt8.ofNat (48 + x % 10) :: out) (by omega) (by omega) (by simp only [List.length_cons]; omega)
  rw [Yn x (by omega), List.append_assoc]
  rw [show [UInt8.ofNat (48 + x % 10)] ++ out = UInt8.ofNat (48 + x % 10) :: out from rfl]
  generalize UInt8.ofNat (48 + x % 10) = bd at *
  have w1 : IntKind.i64.wrap (((x % 10 : Nat) : Int) + 1) = ((x % 10 + 1 : Nat) : Int) := by rw [zn (by omega)]; omega
  have w2 : IntKind.i64.wrap ((x / 10 : Nat) : Int) = ((x / 10 : Nat) : Int) := zn (by omega)
  generalize x % 10 = xd at *
  generalize x / 10 = xq at *
  refine zk Tryz.func172 rfl rfl ?_
  simp (disch := ((try simp only [LL]); omega)) only [↓GO, ↓DRW, GA, GX, ren, zo, za, refs, z8, cst, zr, isC, bin, una, z7, zd, blt, asArg, zg, zc, zf, z6, E.mkS, unN, ze, zq, zb, GS, simprocAttr, bne, c, e1, e2, c2, w1, w2, hdig, xb, IH]
theorem hX (n : Int) (h0 : 0 ≤ n) (h1 : n ≤ 999999999) : zm (EV Tryz.prog pol) 172 [.t (.int .i64 n)] = some (.t (.str (Lib.itoa n))) := by
 obtain ⟨u, rfl⟩ : ∃ u : Nat, n = u := ⟨n.toNat, by omega⟩
 have IH := SZ u u u [] (Nat.le_refl _) (by omega) (by simp; omega)
 rw [List.append_nil] at IH
 rw [Lib.itoa_nonneg]
 have c2 : decide ((u : Int) < 0) = false := by simp only [decide_eq_false_iff_not]; omega
 apply zu
 refine zw rfl Tryz.func172 rfl (by kernel_rfl) ?_
 unfold Tryz.f172
 by_cases hu : u = 0
 · subst hu
   rw [show Lib.decDigits 0 = [48] by rw [Lib.decDigits_one (by omega)]; rfl]
   simp only [↓GO, ↓DRW, GA, GX, ren, zo, za, refs, z8, cst, zr, isC, bin, una, z7, zd, blt, asArg, zg, zc, zf, z6, E.mkS, unN, ze, zq, zb, GS, simprocAttr, Int.natCast_zero]
 · have c : ((u : Int) == 0) = false := by simp; omega
   rw [show Lib.decDigits u = Zg u by simp [Zg, hu]]
   simp only [↓GO, ↓DRW, GA, GX, ren, zo, za, refs, z8, cst, zr, isC, bin, una, z7, zd, blt, asArg, zg, zc, zf, z6, E.mkS, unN, ze, zq, zb, GS, simprocAttr, c, IH, c2]
end Go.Proofs.YtonbkdklidfmfaaGreatDoor
/- The number of a text, by both. Conditions: those of each lemma. -/
namespace Go.Proofs.YtonbkdklidfmfaaGreatDoor
open E
set_option linter.unusedSimpArgs false
set_option linter.unusedVariables false
set_option maxRecDepth 100000
theorem bz (c : UInt8) : B2 (c.toNat : Int) 48 57 = isD c := by
 unfold B2 isD
 congr 1 <;> rw [decide_eq_decide] <;> omega
theorem ZP (s : Str) (hl : s.length ≤ 281474976710656) : zm (EV Tryz.prog pol) 186 [.t (.str s)] = some (.t (.int .i64 (zN s))) := by
 have hat := Q4 s hl
 apply zu
 refine zw rfl Tryz.func186 rfl (by kernel_rfl) ?_
 unfold Tryz.f186
 unfold zN
 cases ha : Lib.atoiAll s with
 | range => rw [ha] at hat; simp only at hat ⊢; simp (disch := ((try simp only [LL]); omega)) only [↓GO, ↓DRW, GA, GX, ren, zo, za, refs, z8, cst, zr, isC, bin, una, z7, zd, blt, asArg, zg, zc, zf, z6, E.mkS, unN, ze, zq, zb, GS, simprocAttr, hat]
 | ok v =>
  rw [ha] at hat
  simp only at hat ⊢
  have hw := wE v 0 999999999
  rw [show B2 v 0 999999999 = (decide (0 ≤ v) && decide (v ≤ 999999999)) from rfl] at hw
  cases hb : (decide (0 ≤ v) && decide (v ≤ 999999999)) with
  | false => rw [hb] at hw; simp (disch := ((try simp only [LL]); omega)) only [↓GO, ↓DRW, GA, GX, ren, zo, za, refs, z8, cst, zr, isC, bin, una, z7, zd, blt, asArg, zg, zc, zf, z6, E.mkS, unN, ze, zq, zb, GS, simprocAttr, hat, hw]
  | true =>
   rw [hb] at hw
   simp only [Bool.and_eq_true, decide_eq_true_eq] at hb
   have hd := hY v hb.1 hb.2
   cases he : (Lib.itoa v == s) <;> simp (disch := ((try simp only [LL]); omega)) only [↓GO, ↓DRW, GA, GX, ren, zo, za, refs, z8, cst, zr, isC, bin, una, z7, zd, blt, asArg, zg, zc, zf, z6, E.mkS, unN, ze, zq, zb, GS, simprocAttr, bne, hat, hw, hd, he]
 | _ => rw [ha] at hat; simp only at hat ⊢; simp (disch := ((try simp only [LL]); omega)) only [↓GO, ↓DRW, GA, GX, ren, zo, za, refs, z8, cst, zr, isC, bin, una, z7, zd, blt, asArg, zg, zc, zf, z6, E.mkS, unN, ze, zq, zb, GS, simprocAttr, hat]
theorem SR (s : Str) (hl : s.length ≤ 9) : ∀ (rest pre : Str), s = pre ++ rest → pre.all isD = true →
 ∃ m : V, EV Tryz.prog pol (.loop 195 58 0 [.t (.str s), .t (.int .i64 (uR 0 pre : Nat)), .t (.int .i64 (pre.length : Int))] [])
 = some (cond (rest.all isD) (.loop (.exit 0) [.t (.str s), .bad, .t (.int .i64 (uR 0 s : Nat))] []) (.loop .ret [.t (.str s), .t (.int .i64 (-1)), m] []))
 | [], pre, hs, hd => by
  have c : decide ((pre.length : Int) < (s.length : Int)) = false := by simp [hs]
  have hp : s = pre := by simpa using hs
  refine ⟨.bad, zk Tryz.func195 rfl rfl ?_⟩
  simp only [↓GO, ↓DRW, GA, GX, ren, zo, za, refs, z8, cst, zr, isC, bin, una, z7, zd, blt, asArg, zg, zc, zf, z6, E.mkS, unN, ze, zq, zb, GS, simprocAttr, c]
  rw [hp]
 | b :: rest, pre, hs, hd => by
  have c : decide ((pre.length : Int) < (s.length : Int)) = true := by simp [hs]; omega
  have hget : s[pre.length]? = some b := by rw [hs]; exact sd pre b rest
  have hlen : s.length = pre.length + rest.length + 1 := by rw [hs]; simp; omega
  have hin := wk (b.toNat : Int) 48 57
  rw [bz] at hin
  have c9 : decide ((s.length : Int) > 9) = false := by simp only [decide_eq_false_iff_not]; omega
  have hv := nv pre 0 hd
  have hp10 : (10 : Nat) ^ pre.length ≤ 10 ^ 9 := Nat.pow_le_pow_right (by omega) (by omega)
  have e9 : (10 : Nat) ^ 9 = 1000000000 := by decide
  have hb8 := UN b
  cases hb : isD b with
  | false =>
   rw [hb] at hin
   refine ⟨.t (.int .i64 (uR 0 pre : Nat)), zk Tryz.func195 rfl rfl ?_⟩
   clear hs hlen
   simp (disch := omega) only [↓GO, ↓DRW, GA, GX, ren, zo, za, refs, z8, cst, zr, isC, bin, una, z7, zd, blt, asArg, zg, zc, zf, z6, E.mkS, unN, ze, zq, zb, GS, simprocAttr, c, hget, zn, conv, wrap_u8, hin, List.all_cons, hb]
  | true =>
   rw [hb] at hin
   have hd2 : (pre ++ [b]).all isD = true := by rw [List.all_append, hd]; simp [hb]
   obtain ⟨m, IH⟩ := SR s hl rest (pre ++ [b]) (by rw [hs]; simp) hd2
   have hbb := (pG b).1 hb
   have hst : ((uR 0 (pre ++ [b]) : Nat) : Int) = 10 * ((uR 0 pre : Nat) : Int) + (b.toNat : Int) - 48 := by
    rw [ke, qD]; omega
   rw [hst, show ((pre ++ [b]).length : Int) = (pre.length : Int) + 1 by simp] at IH
   have hpl : pre.length ≤ 9 := by omega
   generalize uR 0 pre = vp at *
   generalize uR 0 s = vs at *
   clear hs hlen hst
   refine ⟨m, zk Tryz.func195 rfl rfl ?_⟩
   simp (disch := omega) only [↓GO, ↓DRW, GA, GX, ren, zo, za, refs, z8, cst, zr, isC, bin, una, z7, zd, blt, asArg, zg, zc, zf, z6, E.mkS, unN, ze, zq, zb, GS, simprocAttr, c, hget, zn, conv, wrap_u8, hin, List.all_cons, hb, c9, IH]
theorem l_rdL (s : Str) (h9 : 9 < s.length) (hl : s.length ≤ 281474976710656) :
 EV Tryz.prog pol (.loop 195 58 0 [.t (.str s), .t (.int .i64 0), .t (.int .i64 0)] []) = some (.loop .ret [.t (.str s), .t (.int .i64 (-1)), .t (.int .i64 0)] []) := by
 cases s with
 | nil => simp at h9
 | cons b r =>
  have c : decide ((0 : Int) < ((b :: r).length : Int)) = true := by simp only [decide_eq_true_eq]; omega
  have c9 : decide (((b :: r).length : Int) > 9) = true := by simp only [decide_eq_true_eq]; omega
  have hget : (b :: r)[0]? = some b := rfl
  have hin := wk (b.toNat : Int) 48 57
  rw [bz] at hin
  have hb8 := UN b
  generalize (b :: r) = s at *
  refine zk Tryz.func195 rfl rfl ?_
  cases hb : isD b with
  | false => rw [hb] at hin; simp (disch := omega) only [↓GO, ↓DRW, GA, GX, ren, zo, za, refs, z8, cst, zr, isC, bin, una, z7, zd, blt, asArg, zg, zc, zf, z6, E.mkS, unN, ze, zq, zb, GS, simprocAttr, c, vZ, hget, zn, conv, wrap_u8, hin]
  | true => rw [hb] at hin; simp (disch := omega) only [↓GO, ↓DRW, GA, GX, ren, zo, za, refs, z8, cst, zr, isC, bin, una, z7, zd, blt, asArg, zg, zc, zf, z6, E.mkS, unN, ze, zq, zb, GS, simprocAttr, c, vZ, hget, zn, conv, wrap_u8, hin, c9]
theorem il (s : Str) (hl : s.length ≤ 281474976710656) : zm (EV Tryz.prog pol) 195 [.t (.str s)] = some (.t (.int .i64 (zN s))) := by
 rw [← ZY]
 apply zu
 refine zw rfl Tryz.func195 rfl (by kernel_rfl) ?_
 unfold Tryz.f195
 unfold rA
 by_cases h9 : s.length ≤ 9
 · obtain ⟨m, IH⟩ := SR s h9 s [] rfl rfl
   simp only [List.length_nil, Int.natCast_zero, mN] at IH
   have e9 : decide (s.length ≤ 9) = true := by simpa using h9
   have hv := nv s 0
   have hp10 : (10 : Nat) ^ s.length ≤ 10 ^ 9 := Nat.pow_le_pow_right (by omega) h9
   have e10 : (10 : Nat) ^ 9 = 1000000000 := by decide
   cases ha : s.all isD with
   | false => rw [ha] at IH; simp only [cond_false] at IH; simp (disch := ((try simp only [LL]); omega)) only [↓GO, ↓DRW, GA, GX, ren, zo, za, refs, z8, cst, zr, isC, bin, una, z7, zd, blt, asArg, zg, zc, zf, z6, E.mkS, unN, ze, zq, zb, GS, simprocAttr, IH]
   | true =>
    rw [ha] at IH; simp only [cond_true] at IH
    have hv' := hv ha
    have hd := hX (uR 0 s : Nat) (by omega) (by omega)
    cases hn : (s == []) with
    | true => simp (disch := ((try simp only [LL]); omega)) only [↓GO, ↓DRW, GA, GX, ren, zo, za, refs, z8, cst, zr, isC, bin, una, z7, zd, blt, asArg, zg, zc, zf, z6, E.mkS, unN, ze, zq, zb, GS, simprocAttr, IH, e9, hn]
    | false =>
     cases he : (Lib.itoa (uR 0 s : Nat) == s) <;> simp (disch := ((try simp only [LL]); omega)) only [↓GO, ↓DRW, GA, GX, ren, zo, za, refs, z8, cst, zr, isC, bin, una, z7, zd, blt, asArg, zg, zc, zf, z6, E.mkS, unN, ze, zq, zb, GS, simprocAttr, bne, IH, e9, hn, hd, he]
 · have e9 : decide (s.length ≤ 9) = false := by simpa using h9
   have IH := l_rdL s (by omega) (by omega)
   simp (disch := ((try simp only [LL]); omega)) only [↓GO, ↓DRW, GA, GX, ren, zo, za, refs, z8, cst, zr, isC, bin, una, z7, zd, blt, asArg, zg, zc, zf, z6, E.mkS, unN, ze, zq, zb, GS, simprocAttr, IH, e9]
end Go.Proofs.YtonbkdklidfmfaaGreatDoor

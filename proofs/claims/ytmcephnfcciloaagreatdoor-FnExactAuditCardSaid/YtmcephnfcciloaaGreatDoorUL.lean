/- Joined: M1 M2 M3 M4 M5 M6 M7 M8 M9 B1 B2 B3 B4 G4 B9 V8 V4 V9 K20 K21. Conditions: those of each lemma. -/
import Derived.Test.YtmcephnfcciloaaGreatDoorUH
import Derived.Test.YtmcephnfcciloaaGreatDoorUJ
import Derived.Test.YtmcephnfcciloaaGreatDoorUK
set_option linter.unusedVariables false
set_option linter.unusedSimpArgs false
namespace Go.Proofs.YtmcephnfcciloaaGreatDoor
open E
set_option linter.unusedSimpArgs false
set_option linter.unusedVariables false
set_option maxRecDepth 100000
end Go.Proofs.YtmcephnfcciloaaGreatDoor
/- Lists that own their memory, as rows; trees laid anew. Conditions: those of each lemma. -/
namespace Go.Proofs.YtmcephnfcciloaaGreatDoor
open E
set_option linter.unusedSimpArgs false
set_option linter.unusedVariables false
set_option maxRecDepth 100000
/-- a row whose lists are owned -/
def ocE (es : List (List T)) : List (List V) := es.map fun e => e.map oc
theorem qw (es : List (List T)) : (ocE es).length = es.length := by simp [ocE]
theorem bj (a b : List (List T)) : ocE (a ++ b) = ocE a ++ ocE b := by simp [ocE]
theorem tW (x : List T) (b : List (List T)) : ocE (x :: b) = x.map oc :: ocE b := rfl
theorem bh : ocE [] = [] := rfl
theorem U3 (x : T) : refs (oc x) = [] := by cases x <;> rfl
theorem gI : ∀ e : List T, refs.refss (e.map oc) = []
  | [] => rfl
  | x :: e => by simp only [List.map_cons, refs.refss, U3, gI e, List.nil_append]
theorem yX : ∀ es : List (List T), (ocE es).flatMap refs.refss = []
  | [] => rfl
  | e :: es => by rw [tW, List.flatMap_cons, gI, yX es]; rfl
theorem TO (m : Nat → Option Nat) (x : T) : ren m (oc x) = oc x := by cases x <;> rfl
theorem bg (m : Nat → Option Nat) : ∀ e : List T, ren.rens m (e.map oc) = e.map oc
  | [] => rfl
  | x :: e => by simp only [List.map_cons, ren.rens, TO, bg m e]
theorem xy (m : Nat → Option Nat) : ∀ es : List (List T), (ocE es).map (ren.rens m) = ocE es
  | [] => rfl
  | e :: es => by rw [tW, List.map_cons, bg, xy m es]
theorem mg (z : List V) (hz : refs.refss z = []) : ∀ k, (List.replicate k z).flatMap refs.refss = []
  | 0 => rfl
  | k + 1 => by rw [List.replicate_succ, List.flatMap_cons, hz, mg z hz k]; rfl
theorem cZ (m : Nat → Option Nat) (z : List V) (hz : ren.rens m z = z) (k : Nat) : (List.replicate k z).map (ren.rens m) = List.replicate k z := by rw [List.map_replicate, hz]
theorem qy {α : Type} (A B : List α) (x : α) (n : Nat) (h : A.length = n) : (A ++ x :: B)[n]? = some x := by
  rw [List.getElem?_append_right (by omega), h, Nat.sub_self]; rfl
theorem qx {α : Type} (A B : List α) (x y : α) (n : Nat) (h : A.length = n) : (A ++ x :: B).set n y = A ++ y :: B := by
  rw [List.set_append_right _ _ (by omega), h, Nat.sub_self]; rfl
theorem gv_oc (x : T) : gvC (oc x) = some x := by cases x <;> rfl
theorem Vj : ∀ e : List T, eG (e.map oc) = some e
  | [] => rfl
  | x :: e => by simp only [List.map_cons, eG, gv_oc, Vj e]
theorem Vk : ∀ es : List (List T), gvE (ocE es) = some es
  | [] => rfl
  | e :: es => by rw [tW]; simp only [gvE, Vj, Vk es]
theorem YL (h : Heap) (x : T) : zi h (oc x) = some x := by cases x <;> rfl
theorem gd (h : Heap) : ∀ e : List T, xz h (e.map oc) = some e
  | [] => rfl
  | x :: e => by simp only [List.map_cons, xz, YL, gd h e]
theorem nY (h : Heap) : ∀ es : List (List T), vQ h (ocE es) = some es
  | [] => rfl
  | e :: es => by rw [tW]; simp only [vQ, gd, nY h es]
theorem vF : ∀ l : List Str, qM (y6 l) = true
  | [] => rfl
  | x :: l => by
    have := vF l
    unfold qM y6 at this ⊢
    rw [List.map_cons, List.all_cons, this]; rfl
theorem mE (ks : List Str) (hl : ks.length ≤ 1048576) : EV Tryz.prog pol (.callO false 30 [.t (.list 1 (y6 ks))] []) = some (.call (.sl 0 0 ks.length (some ks.length)) [.ts 1 (y6 ks)]) := by
  refine yK Tryz.func30 rfl (by kernel_rfl) ?_
  unfold Tryz.f30
  have h1 : ¬ ((ks.length : Int) < 0) := by omega
  have h2 : ¬ (ks.length * 16 > 140737488355328) := by omega
  have h3 : ¬ (ks.length > 140737488355328) := by omega
  have hz : List.replicate ks.length [T.str []] = wo (y6 ks) [.str []] 0 := by rw [uW, zP]
  have IH := pW ks hl ks.length 0 (by omega) (by omega)
  simp only [Int.natCast_zero] at IH
  simp (disch := omega) only [↓GO, ↓DRW, GA, ren, zB, zd, refs, zb, cst, zl, zH, z7, E.load, E.store, zG, isC, bin, zI, zJ, una, z8, za, zh, zK, blt, fnV, asArg, ze, zn, zo, zj, zi, zg, zk, zr, z6, zD, zF, mkS, zc, unN, zM, zm, zy, zC, zf, zN, zq, GS, Int.reduceToNat, Nat.reduceGT, ↓reduceIte, Nat.reduceAdd, Nat.reduceMul, Nat.reduceSub, Nat.reduceEqDiff, Nat.reduceLeDiff, Nat.reduceLT, Nat.reduceBEq, Int.reduceBEq, Int.reduceBNe, Int.reduceEq, Int.reduceLT, Int.reduceLE, Int.reduceGT, Int.reduceNeg, reduceCtorEq, zP, Int.toNat_natCast, h1, h2, h3, hz, IH, ne_eq, not_true_eq_false]
end Go.Proofs.YtmcephnfcciloaaGreatDoor
/- Trees laid anew; marks. Conditions: those of each lemma. -/
namespace Go.Proofs.YtmcephnfcciloaaGreatDoor
open E
set_option linter.unusedSimpArgs false
set_option linter.unusedVariables false
set_option maxRecDepth 100000
def mkD : Nat → Nat → Str → Str
  | 0, _, out => out
  | n + 1, k, out => if k = 0 then out else mkD n (k / 10) (UInt8.ofNat (48 + k % 10) :: out)
/-- a number's mark -/
def mkT (k : Nat) : Str := if k = 0 then [109, 48] else 109 :: mkD k k []
theorem Tl : ∀ (n k : Nat) (out : Str), k ≤ n → k ≤ 9223372036854775807 → out.length + k ≤ 9223372036854775000 →
    EV Tryz.prog pol (.loop 39 60 0 [.t (.int .i64 (k : Int)), .t (.str out)] []) = some (.loop (.exit 0) [.t (.str (mkD n k out))] [])
  | n, 0, out, h, h1, h2 => by
    have e : mkD n 0 out = out := by cases n <;> simp [mkD]
    rw [e]
    refine zz Tryz.func39 rfl rfl ?_
    simp (disch := ((try simp only [LL]); omega)) only [↓GO, ↓DRW, GA, ren, zB, zd, refs, zb, cst, zl, zH, z7, E.load, E.store, zG, isC, bin, zI, zJ, una, z8, za, zh, zK, blt, fnV, asArg, ze, zn, zo, zj, zi, zg, zk, zr, z6, zD, zF, mkS, zc, unN, zM, zm, zy, zC, zf, zN, zq, GS, Int.reduceToNat, Nat.reduceGT, ↓reduceIte, Nat.reduceAdd, Nat.reduceMul, Nat.reduceSub, Nat.reduceEqDiff, Nat.reduceLeDiff, Nat.reduceLT, Nat.reduceBEq, Int.reduceBEq, Int.reduceBNe, Int.reduceEq, Int.reduceLT, Int.reduceLE, Int.reduceGT, Int.reduceNeg, reduceCtorEq, GZ, Int.natCast_zero]
  | 0, k + 1, out, h, h1, h2 => by omega
  | n + 1, k + 1, out, h, h1, h2 => by
    generalize hm : k + 1 = x at *
    have c : decide (((x : Nat) : Int) > 0) = true := by apply decide_eq_true; omega
    have e1 : ((x : Nat) : Int).tmod 10 = ((x % 10 : Nat) : Int) := (Int.ofNat_tmod x 10).symm
    have e2 : ((x : Nat) : Int).tdiv 10 = ((x / 10 : Nat) : Int) := (Int.ofNat_tdiv x 10).symm
    have hd : x % 10 < 10 := Nat.mod_lt _ (by omega)
    have IH := Tl n (x / 10) (UInt8.ofNat (48 + x % 10) :: out) (by omega) (by omega) (by simp only [List.length_cons]; omega)
    have ex : mkD (n + 1) x out = mkD n (x / 10) (UInt8.ofNat (48 + x % 10) :: out) := by rw [mkD, if_neg (by omega)]
    rw [ex]
    have w1 : IntKind.i64.wrap (48 + ((x % 10 : Nat) : Int)) = ((48 + x % 10 : Nat) : Int) := by rw [zx (by omega)]; omega
    have w3 : IntKind.u8.wrap ((48 + x % 10 : Nat) : Int) = ((48 + x % 10 : Nat) : Int) := by
      have key : ∀ n : Fin 256, IntKind.u8.wrap (n.val : Int) = (n.val : Int) := by decide +kernel
      exact key ⟨48 + x % 10, by omega⟩
    have w2 : IntKind.i64.wrap ((x / 10 : Nat) : Int) = ((x / 10 : Nat) : Int) := zx (by omega)
    refine zz Tryz.func39 rfl rfl ?_
    simp (disch := ((try simp only [LL]); omega)) only [↓GO, ↓DRW, GA, ren, zB, zd, refs, zb, cst, zl, zH, z7, E.load, E.store, zG, isC, bin, zI, zJ, una, z8, za, zh, zK, blt, fnV, asArg, ze, zn, zo, zj, zi, zg, zk, zr, z6, zD, zF, mkS, zc, unN, zM, zm, zy, zC, zf, zN, zq, GS, Int.reduceToNat, Nat.reduceGT, ↓reduceIte, Nat.reduceAdd, Nat.reduceMul, Nat.reduceSub, Nat.reduceEqDiff, Nat.reduceLeDiff, Nat.reduceLT, Nat.reduceBEq, Int.reduceBEq, Int.reduceBNe, Int.reduceEq, Int.reduceLT, Int.reduceLE, Int.reduceGT, Int.reduceNeg, reduceCtorEq, GZ, c, e1, e2, w1, w2, w3, conv, wN, bytesOf, Int.toNat_natCast, List.singleton_append, wh, IH]
end Go.Proofs.YtmcephnfcciloaaGreatDoor
/- Marks in lists of texts, in trees. Conditions: those of each lemma. -/
namespace Go.Proofs.YtmcephnfcciloaaGreatDoor
open E
set_option linter.unusedSimpArgs false
set_option linter.unusedVariables false
set_option maxRecDepth 100000
theorem lk : y6 [] = [] := rfl
theorem rK (k : Nat) (h : k ≤ 1099511627776) : zE (EV Tryz.prog pol) 39 [.t (.int .i64 (k : Int))] = some (.t (.str (mkT k))) := by
  have L := Tl k k [] (Nat.le_refl _) (by omega) (by simp; omega)
  have hlen : (mkD k k []).length ≤ k := by
    have key : ∀ (n x : Nat) (out : Str), (mkD n x out).length ≤ n + out.length := fun n => by
      induction n with
      | zero => intro x out; simp [mkD]
      | succ n ih =>
        intro x out
        rw [mkD]
        split
        · omega
        · have := ih (x / 10) (UInt8.ofNat (48 + x % 10) :: out); simp only [List.length_cons] at this; omega
    have := key k k []; simpa using this
  unfold mkT
  by_cases h0 : k = 0
  · subst h0
    have c : decide (((0 : Nat) : Int) ≤ 0) = true := by decide
    rw [if_pos rfl]
    apply zu
    refine zw rfl Tryz.func39 rfl (by kernel_rfl) ?_
    unfold Tryz.f39
    simp (disch := ((try simp only [LL]); omega)) only [↓GO, ↓DRW, GA, ren, zB, zd, refs, zb, cst, zl, zH, z7, E.load, E.store, zG, isC, bin, zI, zJ, una, z8, za, zh, zK, blt, fnV, asArg, ze, zn, zo, zj, zi, zg, zk, zr, z6, zD, zF, mkS, zc, unN, zM, zm, zy, zC, zf, zN, zq, GS, Int.reduceToNat, Nat.reduceGT, ↓reduceIte, Nat.reduceAdd, Nat.reduceMul, Nat.reduceSub, Nat.reduceEqDiff, Nat.reduceLeDiff, Nat.reduceLT, Nat.reduceBEq, Int.reduceBEq, Int.reduceBNe, Int.reduceEq, Int.reduceLT, Int.reduceLE, Int.reduceGT, Int.reduceNeg, reduceCtorEq, GZ, c, Int.natCast_zero]
  · have c : decide (((k : Nat) : Int) ≤ 0) = false := by apply decide_eq_false; omega
    rw [if_neg h0]
    generalize mkD k k [] = ms at *
    apply zu
    refine zw rfl Tryz.func39 rfl (by kernel_rfl) ?_
    unfold Tryz.f39
    simp (disch := ((try simp only [LL]); omega)) only [↓GO, ↓DRW, GA, ren, zB, zd, refs, zb, cst, zl, zH, z7, E.load, E.store, zG, isC, bin, zI, zJ, una, z8, za, zh, zK, blt, fnV, asArg, ze, zn, zo, zj, zi, zg, zk, zr, z6, zD, zF, mkS, zc, unN, zM, zm, zy, zC, zf, zN, zq, GS, Int.reduceToNat, Nat.reduceGT, ↓reduceIte, Nat.reduceAdd, Nat.reduceMul, Nat.reduceSub, Nat.reduceEqDiff, Nat.reduceLeDiff, Nat.reduceLT, Nat.reduceBEq, Int.reduceBEq, Int.reduceBNe, Int.reduceEq, Int.reduceLT, Int.reduceLE, Int.reduceGT, Int.reduceNeg, reduceCtorEq, GZ, c, L, List.singleton_append, List.cons_append, List.nil_append, wh]
def mkS : Nat → Nat → List Str
  | 0, _ => []
  | n + 1, k => mkT k :: mkS n (k + 1)
theorem vr : ∀ n k, (mkS n k).length = n
  | 0, _ => rfl
  | n + 1, k => by rw [mkS, List.length_cons, vr n (k + 1)]
theorem gS : ∀ n k, mkS (n + 1) k = mkS n k ++ [mkT (k + n)]
  | 0, k => rfl
  | n + 1, k => by
    rw [mkS, gS n (k + 1), mkS, List.cons_append, show k + 1 + n = k + (n + 1) by omega]
theorem bJ (ks : List Str) (hl : ks.length ≤ 134217728) (cap : Option Nat) (k : Nat) (hk : k ≤ 1073741824) : ∀ (rest pre : List Str), ks = pre ++ rest →
    EV Tryz.prog pol (.loop 17 26 1 [.sl 0 0 ks.length cap, .t (.int .i64 ((k + pre.length : Nat) : Int)), .t (.int .i64 (pre.length : Int))] [.ts 1 (y6 (mkS pre.length k) ++ y6 rest)])
      = some (.loop (.exit 0) [.t (.int .i64 ((k + ks.length : Nat) : Int))] [.ts 1 (y6 (mkS ks.length k))])
  | [], pre, hs => by
    have c : decide ((pre.length : Int) < (ks.length : Int)) = false := by simp [hs]
    have e : ks = pre := by simpa using hs
    simp only [lk, List.append_nil]
    refine zz Tryz.func17 rfl rfl ?_
    simp (disch := ((try simp only [LL]); omega)) only [↓GO, ↓DRW, GA, ren, zB, zd, refs, zb, cst, zl, zH, z7, E.load, E.store, zG, isC, bin, zI, zJ, una, z8, za, zh, zK, blt, fnV, asArg, ze, zn, zo, zj, zi, zg, zk, zr, z6, zD, zF, mkS, zc, unN, zM, zm, zy, zC, zf, zN, zq, GS, Int.reduceToNat, Nat.reduceGT, ↓reduceIte, Nat.reduceAdd, Nat.reduceMul, Nat.reduceSub, Nat.reduceEqDiff, Nat.reduceLeDiff, Nat.reduceLT, Nat.reduceBEq, Int.reduceBEq, Int.reduceBNe, Int.reduceEq, Int.reduceLT, Int.reduceLE, Int.reduceGT, Int.reduceNeg, reduceCtorEq, GZ, c]
    rw [e]
  | x :: rest, pre, hs => by
    have c : decide ((pre.length : Int) < (ks.length : Int)) = true := by simp [hs]; omega
    have c0 : decide ((0 : Int) ≤ (pre.length : Int)) = true := by simp
    have hlen : pre.length + rest.length + 1 ≤ ks.length := by rw [hs]; simp; omega
    have hm := rK (k + pre.length) (by omega)
    have IH := bJ ks hl cap k hk rest (pre ++ [x]) (by rw [hs]; simp)
    rw [show (pre ++ [x]).length = pre.length + 1 by simp, gS, show y6 (mkS pre.length k ++ [mkT (k + pre.length)]) = y6 (mkS pre.length k) ++ [[.str (mkT (k + pre.length))]] by simp [y6], List.append_assoc, List.cons_append, List.nil_append] at IH
    rw [show k + (pre.length + 1) = k + pre.length + 1 by omega] at IH
    have w : IntKind.i64.wrap (((k + pre.length : Nat) : Int) + 1) = ((k + pre.length + 1 : Nat) : Int) := by rw [zx (by omega)]; omega
    have w2 : IntKind.i64.wrap ((pre.length : Int) + 1) = ((pre.length + 1 : Nat) : Int) := by rw [zx (by omega)]; omega
    have hAl : (y6 (mkS pre.length k)).length = pre.length := by rw [zP, vr]
    rw [show y6 (x :: rest) = [.str x] :: y6 rest from rfl]
    have hg1 := fun y => qy (y6 (mkS pre.length k)) (y6 rest) y pre.length hAl
    have hs1 := fun y z => qx (y6 (mkS pre.length k)) (y6 rest) y z pre.length hAl
    clear hs
    generalize y6 (mkS pre.length k) = A at *
    generalize mkT (k + pre.length) = mt at *
    generalize k + pre.length = kp at *
    refine zz Tryz.func17 rfl rfl ?_
    simp (disch := ((try simp only [LL]); omega)) only [↓GO, ↓DRW, GA, ren, zB, zd, refs, zb, cst, zl, zH, z7, E.load, E.store, zG, isC, bin, zI, zJ, una, z8, za, zh, zK, blt, fnV, asArg, ze, zn, zo, zj, zi, zg, zk, zr, z6, zD, zF, mkS, zc, unN, zM, zm, zy, zC, zf, zN, zq, GS, Int.reduceToNat, Nat.reduceGT, ↓reduceIte, Nat.reduceAdd, Nat.reduceMul, Nat.reduceSub, Nat.reduceEqDiff, Nat.reduceLeDiff, Nat.reduceLT, Nat.reduceBEq, Int.reduceBEq, Int.reduceBNe, Int.reduceEq, Int.reduceLT, Int.reduceLE, Int.reduceGT, Int.reduceNeg, reduceCtorEq, GZ, c, c0, if_true, Int.toNat_natCast, hm, hg1, hs1, w, w2, IH]
theorem jA (ks : List Str) (hl : ks.length ≤ 134217728) (cap : Option Nat) (k : Nat) (hk : k ≤ 1073741824) (n : Nat) (hn : n = ks.length) :
    EV Tryz.prog pol (.callO false 17 [.sl 0 0 n cap, .t (.int .i64 (k : Int))] [.ts 1 (y6 ks)]) = some (.call (.t (.int .i64 ((k + ks.length : Nat) : Int))) [.ts 1 (y6 (mkS ks.length k))]) := by
  subst hn
  have L := bJ ks hl cap k hk ks [] rfl
  simp only [List.length_nil, Int.natCast_zero, mkS, lk, List.nil_append, Nat.add_zero] at L
  refine yK Tryz.func17 rfl (by kernel_rfl) ?_
  unfold Tryz.f17
  simp (disch := ((try simp only [LL]); omega)) only [↓GO, ↓DRW, GA, ren, zB, zd, refs, zb, cst, zl, zH, z7, E.load, E.store, zG, isC, bin, zI, zJ, una, z8, za, zh, zK, blt, fnV, asArg, ze, zn, zo, zj, zi, zg, zk, zr, z6, zD, zF, mkS, zc, unN, zM, zm, zy, zC, zf, zN, zq, GS, Int.reduceToNat, Nat.reduceGT, ↓reduceIte, Nat.reduceAdd, Nat.reduceMul, Nat.reduceSub, Nat.reduceEqDiff, Nat.reduceLeDiff, Nat.reduceLT, Nat.reduceBEq, Int.reduceBEq, Int.reduceBNe, Int.reduceEq, Int.reduceLT, Int.reduceLE, Int.reduceGT, Int.reduceNeg, reduceCtorEq, GZ, L]
end Go.Proofs.YtmcephnfcciloaaGreatDoor
/- Marks in trees. Conditions: those of each lemma. -/
namespace Go.Proofs.YtmcephnfcciloaaGreatDoor
open E
set_option linter.unusedSimpArgs false
set_option linter.unusedVariables false
set_option maxRecDepth 100000
end Go.Proofs.YtmcephnfcciloaaGreatDoor
/- Marks in trees, all; marks found again. Conditions: those of each lemma. -/
namespace Go.Proofs.YtmcephnfcciloaaGreatDoor
open E
set_option linter.unusedSimpArgs false
set_option linter.unusedVariables false
set_option maxRecDepth 100000
theorem bN (ks : List Str) (hl : ks.length ≤ 134217728) (k : Nat) (hk : k ≤ 1073741824) : ∀ (n i : Nat), i + n = ks.length → ks = mkS ks.length k →
    EV Tryz.prog pol (.loop 18 26 0 [.t (.list 1 (y6 ks)), .t (.int .i64 ((k + i : Nat) : Int)), .t (.int .i64 (i : Int))] []) = some (.loop (.exit 0) [.t (.int .i64 ((k + ks.length : Nat) : Int)), .bad] [])
  | 0, i, hi, hm => by
    have c : decide ((i : Int) < (ks.length : Int)) = false := by apply decide_eq_false; omega
    have e : i = ks.length := by omega
    refine zz Tryz.func18 rfl rfl ?_
    simp (disch := ((try simp only [LL]); omega)) only [↓GO, ↓DRW, GA, ren, zB, zd, refs, zb, cst, zl, zH, z7, E.load, E.store, zG, isC, bin, zI, zJ, una, z8, za, zh, zK, blt, fnV, asArg, ze, zn, zo, zj, zi, zg, zk, zr, z6, zD, zF, mkS, zc, unN, zM, zm, zy, zC, zf, zN, zq, GS, Int.reduceToNat, Nat.reduceGT, ↓reduceIte, Nat.reduceAdd, Nat.reduceMul, Nat.reduceSub, Nat.reduceEqDiff, Nat.reduceLeDiff, Nat.reduceLT, Nat.reduceBEq, Int.reduceBEq, Int.reduceBNe, Int.reduceEq, Int.reduceLT, Int.reduceLE, Int.reduceGT, Int.reduceNeg, reduceCtorEq, GZ, c, zP]
    rw [e]
  | n + 1, i, hi, hm => by
    have c : decide ((i : Int) < (ks.length : Int)) = true := by apply decide_eq_true; omega
    have hg : ∀ (m j q : Nat), j < m → (mkS m q)[j]? = some (mkT (q + j)) := fun m => by
      induction m with
      | zero => intro j q h; omega
      | succ m ih =>
        intro j q h
        cases j with
        | zero => rfl
        | succ j => rw [mkS, List.getElem?_cons_succ, ih j (q + 1) (by omega), show q + 1 + j = q + (j + 1) by omega]
    have hget : (y6 ks)[i]? = some [.str (mkT (k + i))] := by
      have := hg ks.length i k (by omega)
      rw [hm]
      simp only [y6, List.getElem?_map, vr, this, Option.map_some]
    have hmt := rK (k + i) (by omega)
    have IH := bN ks hl k hk n (i + 1) (by omega) hm
    have w : IntKind.i64.wrap (((k + i : Nat) : Int) + 1) = ((k + (i + 1) : Nat) : Int) := by rw [zx (by omega)]; omega
    have w2 : IntKind.i64.wrap ((i : Int) + 1) = ((i + 1 : Nat) : Int) := by rw [zx (by omega)]; omega
    clear hm
    generalize mkT (k + i) = mt at *
    refine zz Tryz.func18 rfl rfl ?_
    simp (disch := ((try simp only [LL]); omega)) only [↓GO, ↓DRW, GA, ren, zB, zd, refs, zb, cst, zl, zH, z7, E.load, E.store, zG, isC, bin, zI, zJ, una, z8, za, zh, zK, blt, fnV, asArg, ze, zn, zo, zj, zi, zg, zk, zr, z6, zD, zF, mkS, zc, unN, zM, zm, zy, zC, zf, zN, zq, GS, Int.reduceToNat, Nat.reduceGT, ↓reduceIte, Nat.reduceAdd, Nat.reduceMul, Nat.reduceSub, Nat.reduceEqDiff, Nat.reduceLeDiff, Nat.reduceLT, Nat.reduceBEq, Int.reduceBEq, Int.reduceBNe, Int.reduceEq, Int.reduceLT, Int.reduceLE, Int.reduceGT, Int.reduceNeg, reduceCtorEq, GZ, c, zP, hget, hmt, w, w2, IH, bne_self_eq_false]
theorem aC (n k : Nat) (hn : n ≤ 134217728) (hk : k ≤ 1073741824) : zE (EV Tryz.prog pol) 18 [.t (.list 1 (y6 (mkS n k))), .t (.int .i64 (k : Int))] = some (.t (.int .i64 ((k + n : Nat) : Int))) := by
  have L := bN (mkS n k) (by rw [vr]; exact hn) k hk n 0 (by rw [vr]; omega) (by rw [vr])
  rw [vr] at L
  simp only [Int.natCast_zero, Nat.add_zero] at L
  apply zu
  refine zw rfl Tryz.func18 rfl (by kernel_rfl) ?_
  unfold Tryz.f18
  simp (disch := ((try simp only [LL]); omega)) only [↓GO, ↓DRW, GA, ren, zB, zd, refs, zb, cst, zl, zH, z7, E.load, E.store, zG, isC, bin, zI, zJ, una, z8, za, zh, zK, blt, fnV, asArg, ze, zn, zo, zj, zi, zg, zk, zr, z6, zD, zF, mkS, zc, unN, zM, zm, zy, zC, zf, zN, zq, GS, Int.reduceToNat, Nat.reduceGT, ↓reduceIte, Nat.reduceAdd, Nat.reduceMul, Nat.reduceSub, Nat.reduceEqDiff, Nat.reduceLeDiff, Nat.reduceLT, Nat.reduceBEq, Int.reduceBEq, Int.reduceBNe, Int.reduceEq, Int.reduceLT, Int.reduceLE, Int.reduceGT, Int.reduceNeg, reduceCtorEq, GZ, L]
end Go.Proofs.YtmcephnfcciloaaGreatDoor
/- Trees copied, by both. Conditions: those of each lemma. -/
namespace Go.Proofs.YtmcephnfcciloaaGreatDoor
open E
set_option linter.unusedSimpArgs false
set_option linter.unusedVariables false
set_option maxRecDepth 100000
end Go.Proofs.YtmcephnfcciloaaGreatDoor
/- Trees copied by the implementation: their memory is their own; what stands under a key, by both. Conditions: those of each lemma. -/
namespace Go.Proofs.YtmcephnfcciloaaGreatDoor
open E
set_option linter.unusedSimpArgs false
set_option linter.unusedVariables false
set_option maxRecDepth 100000
end Go.Proofs.YtmcephnfcciloaaGreatDoor
/- What stands under a key, by both. Conditions: those of each lemma. -/
namespace Go.Proofs.YtmcephnfcciloaaGreatDoor
open E
set_option linter.unusedSimpArgs false
set_option linter.unusedVariables false
set_option maxRecDepth 100000
theorem Xu (k : Int) : EV Tryz.prog pol (.callO false 17 [.nil 1, .t (.int .i64 k)] []) = some (.call (.t (.int .i64 k)) []) := by
  have L : EV Tryz.prog pol (.loop 17 26 0 [.nil 1, .t (.int .i64 k), .t (.int .i64 0)] []) = some (.loop (.exit 0) [.t (.int .i64 k)] []) := by
    refine zz Tryz.func17 rfl rfl ?_
    simp (disch := ((try simp only [LL]); omega)) only [↓GO, ↓DRW, GA, ren, zB, zd, refs, zb, cst, zl, zH, z7, E.load, E.store, zG, isC, bin, zI, zJ, una, z8, za, zh, zK, blt, fnV, asArg, ze, zn, zo, zj, zi, zg, zk, zr, z6, zD, zF, mkS, zc, unN, zM, zm, zy, zC, zf, zN, zq, GS, Int.reduceToNat, Nat.reduceGT, ↓reduceIte, Nat.reduceAdd, Nat.reduceMul, Nat.reduceSub, Nat.reduceEqDiff, Nat.reduceLeDiff, Nat.reduceLT, Nat.reduceBEq, Int.reduceBEq, Int.reduceBNe, Int.reduceEq, Int.reduceLT, Int.reduceLE, Int.reduceGT, Int.reduceNeg, reduceCtorEq, GZ, Int.natCast_zero]
  refine yK Tryz.func17 rfl (by kernel_rfl) ?_
  unfold Tryz.f17
  simp (disch := ((try simp only [LL]); omega)) only [↓GO, ↓DRW, GA, ren, zB, zd, refs, zb, cst, zl, zH, z7, E.load, E.store, zG, isC, bin, zI, zJ, una, z8, za, zh, zK, blt, fnV, asArg, ze, zn, zo, zj, zi, zg, zk, zr, z6, zD, zF, mkS, zc, unN, zM, zm, zy, zC, zf, zN, zq, GS, Int.reduceToNat, Nat.reduceGT, ↓reduceIte, Nat.reduceAdd, Nat.reduceMul, Nat.reduceSub, Nat.reduceEqDiff, Nat.reduceLeDiff, Nat.reduceLT, Nat.reduceBEq, Int.reduceBEq, Int.reduceBNe, Int.reduceEq, Int.reduceLT, Int.reduceLE, Int.reduceGT, Int.reduceNeg, reduceCtorEq, GZ, L]
end Go.Proofs.YtmcephnfcciloaaGreatDoor
/- Graphs laid anew, with memory of their own. Conditions: those of each lemma. -/
namespace Go.Proofs.YtmcephnfcciloaaGreatDoor
open E
set_option linter.unusedSimpArgs false
set_option linter.unusedVariables false
set_option maxRecDepth 100000
theorem uV : ∀ l : List zZ, qM (zZ.zV l) = true
  | [] => rfl
  | x :: l => by
    have := uV l
    unfold qM zZ.zV at this ⊢
    rw [List.map_cons, List.all_cons, this]; rfl
theorem eT (a : List zL) (x : zL) : zL.zV (a ++ [x]) = zL.zV a ++ [x.enc] := by simp [zL.zV]
theorem Z7 (a b : List zL) : zL.zV (a ++ b) = zL.zV a ++ zL.zV b := by simp [zL.zV]
def zPk : List V := [.t (.str []), .t (.str []), .t (.str []), .nil 2, .t (.bool false), .nil 1]
theorem Xn (cs : List zZ) (hl : cs.length ≤ 1048576) (hc : ∀ c ∈ cs, eC c) : EV Tryz.prog pol (.callO false 90 [.t (.list 2 (zZ.zV cs))] []) = some (.call (.sl 0 0 cs.length (some cs.length)) [.ts 2 (zZ.zV cs)]) := by
  refine yK Tryz.func90 rfl (by kernel_rfl) ?_
  unfold Tryz.f90
  have h1 : ¬ ((cs.length : Int) < 0) := by omega
  have h2 : ¬ (cs.length * 32 > 140737488355328) := by omega
  have h3 : ¬ (cs.length > 140737488355328) := by omega
  have hz : List.replicate cs.length [T.str [], .str []] = wo (zZ.zV cs) YC 0 := by rw [uW, zZ.zR]; rfl
  have IH := gW cs hl hc cs.length 0 (by omega) (by omega)
  simp only [Int.natCast_zero] at IH
  simp (disch := omega) only [E.mkS, ↓GO, ↓DRW, GA, ren, zB, zd, refs, zb, cst, zl, zH, z7, E.load, E.store, zG, isC, bin, zI, zJ, una, z8, za, zh, zK, blt, fnV, asArg, ze, zn, zo, zj, zi, zg, zk, zr, z6, zD, zF, mkS, zc, unN, zM, zm, zy, zC, zf, zN, zq, GS, Int.reduceToNat, Nat.reduceGT, ↓reduceIte, Nat.reduceAdd, Nat.reduceMul, Nat.reduceSub, Nat.reduceEqDiff, Nat.reduceLeDiff, Nat.reduceLT, Nat.reduceBEq, Int.reduceBEq, Int.reduceBNe, Int.reduceEq, Int.reduceLT, Int.reduceLE, Int.reduceGT, Int.reduceNeg, reduceCtorEq, zZ.zR, Int.toNat_natCast, h1, h2, h3, hz, IH, ne_eq, not_true_eq_false]
def VJ (x : zL) : Prop := EV Tryz.prog pol (.callO false 61 [.agg (x.enc.map .t)] []) = some (.call (.agg [.t (.str x.name), .t (.str x.version), .t (.str x.source), .sl 0 0 x.sums.length (some x.sums.length), .t (.bool x.dev), .sl 1 0 x.needs.length (some x.needs.length)]) [.ts 2 (zZ.zV x.sums), .ts 1 (y6 x.needs)])
theorem Vn (x : zL) (ho : x.yh ≤ 1048576) : VJ x := by
  obtain ⟨name, version, source, sums, dev, needs⟩ := x
  simp only [zL.yh] at ho
  have d1 := Xn sums (by omega) (fun c hc => UC c (by have := zZ.yp hc; omega))
  have d2 := mE needs (by omega)
  simp only [VJ, zL.enc, List.map_cons, List.map_nil]
  refine yK Tryz.func61 rfl (by kernel_rfl) ?_
  unfold Tryz.f61
  simp (disch := ((try simp only [LL]); omega)) only [↓GO, ↓DRW, GA, ren, zB, zd, refs, zb, cst, zl, zH, z7, E.load, E.store, zG, isC, bin, zI, zJ, una, z8, za, zh, zK, blt, fnV, asArg, ze, zn, zo, zj, zi, zg, zk, zr, z6, zD, zF, mkS, zc, unN, zM, zm, zy, zC, zf, zN, zq, GS, Int.reduceToNat, Nat.reduceGT, ↓reduceIte, Nat.reduceAdd, Nat.reduceMul, Nat.reduceSub, Nat.reduceEqDiff, Nat.reduceLeDiff, Nat.reduceLT, Nat.reduceBEq, Int.reduceBEq, Int.reduceBNe, Int.reduceEq, Int.reduceLT, Int.reduceLE, Int.reduceGT, Int.reduceNeg, reduceCtorEq, yO, yP, qI, r9, rO, rN, w9, mkO, tD, tr, vd, qC, yZ, r7, r4, xu, oc, oTs, oT, xf, xf.rowTs, tA, isL, Bool.not_false, Bool.true_and, Bool.and_true, Bool.and_self, List.flatMap_append, List.map_append, List.set_cons_zero, List.set_cons_succ, GZ, d1, d2, zY]
theorem V8 (cs : List zL) (hl : cs.length ≤ 1048576) (hc : ∀ c ∈ cs, VJ c) : ∀ (rest pre : List zL), cs = pre ++ rest →
    EV Tryz.prog pol (.loop 31 58 0 [.t (.list 6 (zL.zV cs)), .sl 0 0 cs.length (some cs.length), .t (.int .i64 (pre.length : Int))] [.vs 6 (ocE (zL.zV pre) ++ List.replicate rest.length zPk)])
      = some (.loop (.exit 0) [.sl 0 0 cs.length (some cs.length)] [.vs 6 (ocE (zL.zV cs))])
  | [], pre, hs => by
    have c : decide ((pre.length : Int) < (cs.length : Int)) = false := by simp [hs]
    have e : cs = pre := by simpa using hs
    have hA := yX (zL.zV pre)
    have hR := fun m => xy m (zL.zV pre)
    simp only [List.length_nil, List.replicate_zero, List.append_nil]
    refine zz Tryz.func31 rfl rfl ?_
    simp (disch := ((try simp only [LL]); omega)) only [↓GO, ↓DRW, GA, ren, zB, zd, refs, zb, cst, zl, zH, z7, E.load, E.store, zG, isC, bin, zI, zJ, una, z8, za, zh, zK, blt, fnV, asArg, ze, zn, zo, zj, zi, zg, zk, zr, z6, zD, zF, mkS, zc, unN, zM, zm, zy, zC, zf, zN, zq, GS, Int.reduceToNat, Nat.reduceGT, ↓reduceIte, Nat.reduceAdd, Nat.reduceMul, Nat.reduceSub, Nat.reduceEqDiff, Nat.reduceLeDiff, Nat.reduceLT, Nat.reduceBEq, Int.reduceBEq, Int.reduceBNe, Int.reduceEq, Int.reduceLT, Int.reduceLE, Int.reduceGT, Int.reduceNeg, reduceCtorEq, yO, yP, qI, r9, rO, rN, w9, mkO, tD, tr, vd, qC, yZ, r7, r4, xu, oc, oTs, oT, xf, xf.rowTs, tA, isL, Bool.not_false, Bool.true_and, Bool.and_true, Bool.and_self, List.flatMap_append, List.map_append, List.set_cons_zero, List.set_cons_succ, GZ, zL.zR, c, hA, hR]
    rw [e]
  | x :: rest, pre, hs => by
    have c : decide ((pre.length : Int) < (cs.length : Int)) = true := by simp [hs]; omega
    have hget : (zL.zV cs)[pre.length]? = some x.enc := by rw [hs]; simp [zL.zV]
    have hlen : pre.length + rest.length + 1 ≤ cs.length := by rw [hs]; simp; omega
    have hcx := hc x (by rw [hs]; simp)
    have c0 : decide ((0 : Int) ≤ (pre.length : Int)) = true := by simp
    have c00 : (0 : Int) ≤ (pre.length : Int) := by omega
    have IH := V8 cs hl hc rest (pre ++ [x]) (by rw [hs]; simp)
    rw [show ((pre ++ [x]).length : Int) = (pre.length : Int) + 1 by simp, eT, bj, tW, bh, List.append_assoc, List.cons_append, List.nil_append] at IH
    have hAl : (ocE (zL.zV pre)).length = pre.length := by rw [qw, zL.zR]
    have hA := yX (zL.zV pre)
    have hR := fun m => xy m (zL.zV pre)
    have hB := mg zPk rfl rest.length
    have hRB := fun m => cZ m zPk rfl rest.length
    rw [List.length_cons, List.replicate_succ]
    have hg1 := fun y => qy (ocE (zL.zV pre)) (List.replicate rest.length zPk) y pre.length hAl
    have hs1 := fun y z => qx (ocE (zL.zV pre)) (List.replicate rest.length zPk) y z pre.length hAl
    clear hs
    obtain ⟨name, version, source, sums, dev, needs⟩ := x
    have hf1 := uV sums
    have hf2 := vF needs
    simp only [VJ, zL.enc, List.map_cons, List.map_nil, oc] at hcx hget IH
    generalize ocE (zL.zV pre) = A at *
    generalize List.replicate rest.length zPk = B at *
    unfold zPk
    refine zz Tryz.func31 rfl rfl ?_
    simp (disch := ((try simp only [LL]); omega)) only [↓GO, ↓DRW, GA, ren, zB, zd, refs, zb, cst, zl, zH, z7, E.load, E.store, zG, isC, bin, zI, zJ, una, z8, za, zh, zK, blt, fnV, asArg, ze, zn, zo, zj, zi, zg, zk, zr, z6, zD, zF, mkS, zc, unN, zM, zm, zy, zC, zf, zN, zq, GS, Int.reduceToNat, Nat.reduceGT, ↓reduceIte, Nat.reduceAdd, Nat.reduceMul, Nat.reduceSub, Nat.reduceEqDiff, Nat.reduceLeDiff, Nat.reduceLT, Nat.reduceBEq, Int.reduceBEq, Int.reduceBNe, Int.reduceEq, Int.reduceLT, Int.reduceLE, Int.reduceGT, Int.reduceNeg, reduceCtorEq, yO, yP, qI, r9, rO, rN, w9, mkO, tD, tr, vd, qC, yZ, r7, r4, xu, oc, oTs, oT, xf, xf.rowTs, tA, isL, Bool.not_false, Bool.true_and, Bool.and_true, Bool.and_self, List.flatMap_append, List.map_append, List.set_cons_zero, List.set_cons_succ, GZ, zL.zR, zZ.zR, c, c0, c00, if_true, Int.toNat_natCast, hget, hcx, hg1, hs1, hA, hR, hB, hRB, zx, hf1, hf2, IH, zP, qw, xy, yX, zY]
theorem nO (cs : List zL) (hl : cs.length ≤ 1048576) (hc : ∀ c ∈ cs, VJ c) : EV Tryz.prog pol (.callO false 31 [.t (.list 6 (zL.zV cs))] []) = some (.call (.sl 0 0 cs.length (some cs.length)) [.vs 6 (ocE (zL.zV cs))]) := by
  refine yK Tryz.func31 rfl (by kernel_rfl) ?_
  unfold Tryz.f31
  have h1 : ¬ ((cs.length : Int) < 0) := by omega
  have h2 : ¬ (cs.length * 104 > 140737488355328) := by omega
  have h3 : ¬ (cs.length > 140737488355328) := by omega
  have L := V8 cs hl hc cs [] rfl
  simp only [List.length_nil, Int.natCast_zero, show zL.zV [] = [] from rfl, bh, List.nil_append] at L
  have hB := mg zPk rfl cs.length
  have hRB := fun m => cZ m zPk rfl cs.length
  unfold zPk at L hB hRB
  simp (disch := ((try simp only [LL]); omega)) only [↓GO, ↓DRW, GA, ren, zB, zd, refs, zb, cst, zl, zH, z7, E.load, E.store, zG, isC, bin, zI, zJ, una, z8, za, zh, zK, blt, fnV, asArg, ze, zn, zo, zj, zi, zg, zk, zr, z6, zD, zF, mkS, zc, unN, zM, zm, zy, zC, zf, zN, zq, GS, Int.reduceToNat, Nat.reduceGT, ↓reduceIte, Nat.reduceAdd, Nat.reduceMul, Nat.reduceSub, Nat.reduceEqDiff, Nat.reduceLeDiff, Nat.reduceLT, Nat.reduceBEq, Int.reduceBEq, Int.reduceBNe, Int.reduceEq, Int.reduceLT, Int.reduceLE, Int.reduceGT, Int.reduceNeg, reduceCtorEq, yO, yP, qI, r9, rO, rN, w9, mkO, tD, tr, vd, qC, yZ, r7, r4, xu, oc, oTs, oT, xf, xf.rowTs, tA, isL, Bool.not_false, Bool.true_and, Bool.and_true, Bool.and_self, List.flatMap_append, List.map_append, List.set_cons_zero, List.set_cons_succ, GZ, zL.zR, Int.toNat_natCast, h1, h2, h3, L, hB, hRB, xy, yX, ne_eq, not_true_eq_false, not_false_eq_true, zY]
def LC (x : zU) : Prop := EV Tryz.prog pol (.callO false 9 [.agg (x.enc.map .t)] []) = some (.call (.agg [.sl 0 0 x.top.length (some x.top.length), .sl 1 0 x.packs.length (some x.packs.length)]) [.ts 1 (y6 x.top), .vs 6 (ocE (zL.zV x.packs))])
theorem S0 (x : zU) (ho : x.yh ≤ 1048576) : LC x := by
  obtain ⟨top, packs⟩ := x
  simp only [zU.yh] at ho
  have d1 := mE top (by omega)
  have d2 := nO packs (by omega) (fun c hc => Vn c (by have := zL.yp hc; omega))
  simp only [LC, zU.enc, List.map_cons, List.map_nil]
  refine yK Tryz.func9 rfl (by kernel_rfl) ?_
  unfold Tryz.f9
  simp (disch := ((try simp only [LL]); omega)) only [↓GO, ↓DRW, GA, ren, zB, zd, refs, zb, cst, zl, zH, z7, E.load, E.store, zG, isC, bin, zI, zJ, una, z8, za, zh, zK, blt, fnV, asArg, ze, zn, zo, zj, zi, zg, zk, zr, z6, zD, zF, mkS, zc, unN, zM, zm, zy, zC, zf, zN, zq, GS, Int.reduceToNat, Nat.reduceGT, ↓reduceIte, Nat.reduceAdd, Nat.reduceMul, Nat.reduceSub, Nat.reduceEqDiff, Nat.reduceLeDiff, Nat.reduceLT, Nat.reduceBEq, Int.reduceBEq, Int.reduceBNe, Int.reduceEq, Int.reduceLT, Int.reduceLE, Int.reduceGT, Int.reduceNeg, reduceCtorEq, yO, yP, qI, r9, rO, rN, w9, mkO, tD, tr, vd, qC, yZ, r7, r4, xu, oc, oTs, oT, xf, xf.rowTs, tA, isL, Bool.not_false, Bool.true_and, Bool.and_true, Bool.and_self, List.flatMap_append, List.map_append, List.set_cons_zero, List.set_cons_succ, GZ, d1, d2, xy, yX, zY]
/-- and as a value that nobody writes -/
def LD (x : zU) : Prop := zE (EV Tryz.prog pol) 9 [.agg (x.enc.map .t)] = some (.agg (x.enc.map .t))
theorem S1 (x : zU) (ho : x.yh ≤ 1048576) : LD x := by
  obtain ⟨top, packs⟩ := x
  simp only [zU.yh] at ho
  have d1 := mE top (by omega)
  have d2 := nO packs (by omega) (fun c hc => Vn c (by have := zL.yp hc; omega))
  have g := Vk (zL.zV packs)
  have ht : (zL.zV packs).take packs.length = zL.zV packs := by rw [← zL.zR packs]; simp
  have ht2 : (y6 top).take top.length = y6 top := by rw [← zP top]; simp
  simp only [LD, zU.enc, List.map_cons, List.map_nil]
  apply zu
  refine zw rfl Tryz.func9 rfl (by kernel_rfl) ?_
  unfold Tryz.f9
  simp (disch := ((try simp only [LL]); omega)) only [↓GO, ↓DRW, GA, ren, zB, zd, refs, zb, cst, zl, zH, z7, E.load, E.store, zG, isC, bin, zI, zJ, una, z8, za, zh, zK, blt, fnV, asArg, ze, zn, zo, zj, zi, zg, zk, zr, z6, zD, zF, mkS, zc, unN, zM, zm, zy, zC, zf, zN, zq, GS, Int.reduceToNat, Nat.reduceGT, ↓reduceIte, Nat.reduceAdd, Nat.reduceMul, Nat.reduceSub, Nat.reduceEqDiff, Nat.reduceLeDiff, Nat.reduceLT, Nat.reduceBEq, Int.reduceBEq, Int.reduceBNe, Int.reduceEq, Int.reduceLT, Int.reduceLE, Int.reduceGT, Int.reduceNeg, reduceCtorEq, yO, yP, qI, r9, rO, rN, w9, mkO, tD, tr, vd, qC, yZ, r7, r4, xu, oc, oTs, oT, xf, xf.rowTs, tA, isL, Bool.not_false, Bool.true_and, Bool.and_true, Bool.and_self, List.flatMap_append, List.map_append, List.set_cons_zero, List.set_cons_succ, GZ, d1, d2, g, ht, ht2, xy, yX, zY]
end Go.Proofs.YtmcephnfcciloaaGreatDoor
/- Marks in graphs. Conditions: those of each lemma. -/
namespace Go.Proofs.YtmcephnfcciloaaGreatDoor
open E
set_option linter.unusedSimpArgs false
set_option linter.unusedVariables false
set_option maxRecDepth 100000
def tq : Nat → Nat → List zZ
  | 0, _ => []
  | n + 1, k => ⟨mkT k, mkT (k + 1)⟩ :: tq n (k + 2)
theorem mu : ∀ n k, (tq n k).length = n
  | 0, _ => rfl
  | n + 1, k => by rw [tq, List.length_cons, mu n (k + 2)]
theorem lO : ∀ n k, tq (n + 1) k = tq n k ++ [⟨mkT (k + 2 * n), mkT (k + 2 * n + 1)⟩]
  | 0, k => rfl
  | n + 1, k => by
    rw [tq, lO n (k + 2), tq, List.cons_append, show k + 2 + 2 * n = k + 2 * (n + 1) by omega]
theorem gZ (cs : List zZ) (hl : cs.length ≤ 4194304) (cap : Option Nat) (k : Nat) (hk : k ≤ 1073741824) : ∀ (rest pre : List zZ), cs = pre ++ rest →
    EV Tryz.prog pol (.loop 68 26 1 [.sl 0 0 cs.length cap, .t (.int .i64 ((k + 2 * pre.length : Nat) : Int)), .t (.int .i64 (pre.length : Int))] [.ts 2 (zZ.zV (tq pre.length k) ++ zZ.zV rest)])
      = some (.loop (.exit 0) [.t (.int .i64 ((k + 2 * cs.length : Nat) : Int))] [.ts 2 (zZ.zV (tq cs.length k))])
  | [], pre, hs => by
    have c : decide ((pre.length : Int) < (cs.length : Int)) = false := by simp [hs]
    have e : cs = pre := by simpa using hs
    simp only [show zZ.zV [] = [] from rfl, List.append_nil]
    refine zz Tryz.func68 rfl rfl ?_
    simp (disch := ((try simp only [LL]); omega)) only [↓GO, ↓DRW, GA, ren, zB, zd, refs, zb, cst, zl, zH, z7, E.load, E.store, zG, isC, bin, zI, zJ, una, z8, za, zh, zK, blt, fnV, asArg, ze, zn, zo, zj, zi, zg, zk, zr, z6, zD, zF, mkS, zc, unN, zM, zm, zy, zC, zf, zN, zq, GS, Int.reduceToNat, Nat.reduceGT, ↓reduceIte, Nat.reduceAdd, Nat.reduceMul, Nat.reduceSub, Nat.reduceEqDiff, Nat.reduceLeDiff, Nat.reduceLT, Nat.reduceBEq, Int.reduceBEq, Int.reduceBNe, Int.reduceEq, Int.reduceLT, Int.reduceLE, Int.reduceGT, Int.reduceNeg, reduceCtorEq, GZ, c]
    rw [e]
  | x :: rest, pre, hs => by
    have c : decide ((pre.length : Int) < (cs.length : Int)) = true := by simp [hs]; omega
    have c0 : decide ((0 : Int) ≤ (pre.length : Int)) = true := by simp
    have c00 : (0 : Int) ≤ (pre.length : Int) := by omega
    have hlen : pre.length + rest.length + 1 ≤ cs.length := by rw [hs]; simp; omega
    have hm := rK (k + 2 * pre.length) (by omega)
    have hm2 := rK (k + 2 * pre.length + 1) (by omega)
    have IH := gZ cs hl cap k hk rest (pre ++ [x]) (by rw [hs]; simp)
    rw [show (pre ++ [x]).length = pre.length + 1 by simp, lO, show zZ.zV (tq pre.length k ++ [⟨mkT (k + 2 * pre.length), mkT (k + 2 * pre.length + 1)⟩]) = zZ.zV (tq pre.length k) ++ [[.str (mkT (k + 2 * pre.length)), .str (mkT (k + 2 * pre.length + 1))]] by simp [zZ.zV, zZ.enc], List.append_assoc, List.cons_append, List.nil_append] at IH
    rw [show k + 2 * (pre.length + 1) = k + 2 * pre.length + 2 by omega] at IH
    have hAl : (zZ.zV (tq pre.length k)).length = pre.length := by rw [zZ.zR, mu]
    rw [show zZ.zV (x :: rest) = [.str x.alg, .str x.bytes] :: zZ.zV rest from rfl]
    have hg1 := fun y => qy (zZ.zV (tq pre.length k)) (zZ.zV rest) y pre.length hAl
    have hs1 := fun y z => qx (zZ.zV (tq pre.length k)) (zZ.zV rest) y z pre.length hAl
    clear hs
    generalize zZ.zV (tq pre.length k) = A at *
    generalize mkT (k + 2 * pre.length + 1) = mt2 at *
    generalize mkT (k + 2 * pre.length) = mt at *
    have hkp : k + 2 * pre.length ≤ 1082130432 := by omega
    generalize k + 2 * pre.length = kp at *
    have w : IntKind.i64.wrap ((kp : Int) + 1) = ((kp + 1 : Nat) : Int) := by rw [zx (by omega)]; omega
    have w1 : IntKind.i64.wrap (((kp + 1 : Nat) : Int) + 1) = ((kp + 2 : Nat) : Int) := by rw [zx (by omega)]; omega
    have w2 : IntKind.i64.wrap ((pre.length : Int) + 1) = ((pre.length + 1 : Nat) : Int) := by rw [zx (by omega)]; omega
    refine zz Tryz.func68 rfl rfl ?_
    simp (disch := ((try simp only [LL]); omega)) only [↓GO, ↓DRW, GA, ren, zB, zd, refs, zb, cst, zl, zH, z7, E.load, E.store, zG, isC, bin, zI, zJ, una, z8, za, zh, zK, blt, fnV, asArg, ze, zn, zo, zj, zi, zg, zk, zr, z6, zD, zF, mkS, zc, unN, zM, zm, zy, zC, zf, zN, zq, GS, Int.reduceToNat, Nat.reduceGT, ↓reduceIte, Nat.reduceAdd, Nat.reduceMul, Nat.reduceSub, Nat.reduceEqDiff, Nat.reduceLeDiff, Nat.reduceLT, Nat.reduceBEq, Int.reduceBEq, Int.reduceBNe, Int.reduceEq, Int.reduceLT, Int.reduceLE, Int.reduceGT, Int.reduceNeg, reduceCtorEq, GZ, c, c0, c00, if_true, Int.toNat_natCast, hm, hm2, hg1, hs1, w, w1, w2, IH]
theorem Xv (cs : List zZ) (hl : cs.length ≤ 4194304) (cap : Option Nat) (k : Nat) (hk : k ≤ 1073741824) (n : Nat) (hn : n = cs.length) :
    EV Tryz.prog pol (.callO false 68 [.sl 0 0 n cap, .t (.int .i64 (k : Int))] [.ts 2 (zZ.zV cs)]) = some (.call (.t (.int .i64 ((k + 2 * cs.length : Nat) : Int))) [.ts 2 (zZ.zV (tq cs.length k))]) := by
  subst hn
  have L := gZ cs hl cap k hk cs [] rfl
  simp only [List.length_nil, Int.natCast_zero, tq, show zZ.zV [] = [] from rfl, List.nil_append, Nat.mul_zero, Nat.add_zero] at L
  refine yK Tryz.func68 rfl (by kernel_rfl) ?_
  unfold Tryz.f68
  simp (disch := ((try simp only [LL]); omega)) only [↓GO, ↓DRW, GA, ren, zB, zd, refs, zb, cst, zl, zH, z7, E.load, E.store, zG, isC, bin, zI, zJ, una, z8, za, zh, zK, blt, fnV, asArg, ze, zn, zo, zj, zi, zg, zk, zr, z6, zD, zF, mkS, zc, unN, zM, zm, zy, zC, zf, zN, zq, GS, Int.reduceToNat, Nat.reduceGT, ↓reduceIte, Nat.reduceAdd, Nat.reduceMul, Nat.reduceSub, Nat.reduceEqDiff, Nat.reduceLeDiff, Nat.reduceLT, Nat.reduceBEq, Int.reduceBEq, Int.reduceBNe, Int.reduceEq, Int.reduceLT, Int.reduceLE, Int.reduceGT, Int.reduceNeg, reduceCtorEq, GZ, L]
end Go.Proofs.YtmcephnfcciloaaGreatDoor
/- Marks in packs and graphs. Conditions: those of each lemma. -/
namespace Go.Proofs.YtmcephnfcciloaaGreatDoor
open E
set_option linter.unusedSimpArgs false
set_option linter.unusedVariables false
set_option maxRecDepth 100000
def dvB (k : Nat) : Bool := (((k % 3 : Nat) : Int) == 0)
def ld (x : zL) : Nat := 4 + 2 * x.sums.length + x.needs.length
def yJ : List zL → Nat
  | [] => 0
  | x :: r => ld x + yJ r
def VH (k : Nat) (x : zL) : zL := ⟨mkT k, mkT (k + 1), mkT (k + 2), tq x.sums.length (k + 3), dvB (k + 3 + 2 * x.sums.length), mkS x.needs.length (k + 3 + 2 * x.sums.length + 1)⟩
def xE : Nat → List zL → List zL
  | _, [] => []
  | k, x :: r => VH k x :: xE (k + ld x) r
theorem lP : ∀ (k : Nat) (cs : List zL), (xE k cs).length = cs.length
  | k, [] => rfl
  | k, c :: cs => by simp [xE, lP _ cs]
theorem pj : ∀ a b : List zL, yJ (a ++ b) = yJ a + yJ b
  | [], b => by simp [yJ]
  | c :: a, b => by simp only [List.cons_append, yJ, pj a b]; omega
theorem lQ : ∀ (k : Nat) (a b : List zL), xE k (a ++ b) = xE k a ++ xE (k + yJ a) b
  | k, [], b => by simp [xE, yJ]
  | k, c :: a, b => by
    simp only [List.cons_append, xE, yJ, lQ _ a b]
    rw [show k + ld c + yJ a = k + (ld c + yJ a) by omega]
theorem Uw (x : zL) : ld x ≤ 4 + 2 * x.yh := by simp only [ld, zL.yh]; omega
theorem ec : ∀ cs : List zL, yJ cs ≤ 4 * cs.length + 2 * zL.ya cs
  | [] => by simp [yJ]
  | c :: cs => by
    have h1 := Uw c
    have h2 := ec cs
    simp only [yJ, zL.ya, List.length_cons]; omega
theorem bK (cs : List zL) (hl : cs.length ≤ 4194304) (hb : ∀ c ∈ cs, c.yh ≤ 4194304) (cap : Option Nat) (k : Nat) (hk : k + yJ cs ≤ 1073741824) : ∀ (rest pre : List zL), cs = pre ++ rest →
    EV Tryz.prog pol (.loop 38 26 1 [.sl 0 0 cs.length cap, .t (.int .i64 ((k + yJ pre : Nat) : Int)), .t (.int .i64 (pre.length : Int))] [.vs 6 (ocE (zL.zV (xE k pre)) ++ ocE (zL.zV rest))])
      = some (.loop (.exit 0) [.t (.int .i64 ((k + yJ cs : Nat) : Int))] [.vs 6 (ocE (zL.zV (xE k cs)))])
  | [], pre, hs => by
    have c : decide ((pre.length : Int) < (cs.length : Int)) = false := by simp [hs]
    have e : cs = pre := by simpa using hs
    have hA := yX (zL.zV (xE k pre))
    have hR := fun m => xy m (zL.zV (xE k pre))
    simp only [show ocE (zL.zV []) = [] from rfl, List.append_nil]
    refine zz Tryz.func38 rfl rfl ?_
    simp (disch := ((try simp only [LL]); omega)) only [↓GO, ↓DRW, GA, ren, zB, zd, refs, zb, cst, zl, zH, z7, E.load, E.store, zG, isC, bin, zI, zJ, una, z8, za, zh, zK, blt, fnV, asArg, ze, zn, zo, zj, zi, zg, zk, zr, z6, zD, zF, mkS, zc, unN, zM, zm, zy, zC, zf, zN, zq, GS, Int.reduceToNat, Nat.reduceGT, ↓reduceIte, Nat.reduceAdd, Nat.reduceMul, Nat.reduceSub, Nat.reduceEqDiff, Nat.reduceLeDiff, Nat.reduceLT, Nat.reduceBEq, Int.reduceBEq, Int.reduceBNe, Int.reduceEq, Int.reduceLT, Int.reduceLE, Int.reduceGT, Int.reduceNeg, reduceCtorEq, yO, yP, qI, r9, rO, rN, w9, mkO, tD, tr, vd, qC, yZ, r7, r4, xu, oc, oTs, oT, xf, xf.rowTs, tA, isL, Bool.not_false, Bool.true_and, Bool.and_true, Bool.and_self, List.flatMap_append, List.map_append, List.set_cons_zero, List.set_cons_succ, GZ, c, hA, hR]
    rw [e]
  | x :: rest, pre, hs => by
    have c : decide ((pre.length : Int) < (cs.length : Int)) = true := by simp [hs]; omega
    have c0 : decide ((0 : Int) ≤ (pre.length : Int)) = true := by simp
    have c00 : (0 : Int) ≤ (pre.length : Int) := by omega
    have hlen : pre.length + rest.length + 1 ≤ cs.length := by rw [hs]; simp; omega
    have hcn : yJ cs = yJ pre + yJ (x :: rest) := by rw [hs, pj]
    have hbx := hb x (by rw [hs]; simp)
    have IH := bK cs hl hb cap k hk rest (pre ++ [x]) (by rw [hs]; simp)
    have e1 : xE k (pre ++ [x]) = xE k pre ++ [VH (k + yJ pre) x] := by rw [lQ]; simp [xE]
    have e2 : yJ (pre ++ [x]) = yJ pre + ld x := by rw [pj]; simp [yJ]
    rw [e1, e2, Z7, bj, show (pre ++ [x]).length = pre.length + 1 by simp] at IH
    simp only [yJ] at hcn
    have hAl : (ocE (zL.zV (xE k pre))).length = pre.length := by rw [qw, zL.zR, lP]
    have hA := yX (zL.zV (xE k pre))
    have hR := fun m => xy m (zL.zV (xE k pre))
    have hB := yX (zL.zV rest)
    have hRB := fun m => xy m (zL.zV rest)
    rw [show ocE (zL.zV (x :: rest)) = x.enc.map oc :: ocE (zL.zV rest) from rfl]
    rw [show ocE (zL.zV [VH (k + yJ pre) x]) = [(VH (k + yJ pre) x).enc.map oc] from rfl] at IH
    have hg1 := fun y => qy (ocE (zL.zV (xE k pre))) (ocE (zL.zV rest)) y pre.length hAl
    have hs1 := fun y z => qx (ocE (zL.zV (xE k pre))) (ocE (zL.zV rest)) y z pre.length hAl
    clear hs e1 e2
    have hkb : k + yJ pre + ld x ≤ 1073741824 := by omega
    rw [show k + (yJ pre + ld x) = k + yJ pre + ld x by omega] at IH
    generalize k + yJ pre = kp at *
    obtain ⟨name, version, source, sums, dev, needs⟩ := x
    simp only [zL.yh] at hbx
    simp only [ld] at hkb IH
    rw [show kp + (4 + 2 * sums.length + needs.length) = kp + 3 + 2 * sums.length + 1 + needs.length by omega] at IH
    have hmt0 := rK kp (by omega)
    have hmt1 := rK (kp + 1) (by omega)
    have hmt2 := rK (kp + 2) (by omega)
    have hmm := Xv sums (by omega) none (kp + 3) (by omega) sums.length rfl
    have hms := jA needs (by omega) none (kp + 3 + 2 * sums.length + 1) (by omega) needs.length rfl
    have w0 : IntKind.i64.wrap ((kp : Int) + 1) = ((kp + 1 : Nat) : Int) := by rw [zx (by omega)]; omega
    have w1 : IntKind.i64.wrap (((kp + 1 : Nat) : Int) + 1) = ((kp + 2 : Nat) : Int) := by rw [zx (by omega)]; omega
    have w2 : IntKind.i64.wrap (((kp + 2 : Nat) : Int) + 1) = ((kp + 3 : Nat) : Int) := by rw [zx (by omega)]; omega
    have w3 : IntKind.i64.wrap ((pre.length : Int) + 1) = ((pre.length + 1 : Nat) : Int) := by rw [zx (by omega)]; omega
    have w4 : IntKind.i64.wrap (((kp + 3 + 2 * sums.length : Nat) : Int) + 1) = ((kp + 3 + 2 * sums.length + 1 : Nat) : Int) := by rw [zx (by omega)]; omega
    have e1 : (((kp + 3 + 2 * sums.length : Nat) : Int)).tmod 3 = (((kp + 3 + 2 * sums.length) % 3 : Nat) : Int) := (Int.ofNat_tmod _ 3).symm
    have hr3 : (kp + 3 + 2 * sums.length) % 3 < 3 := Nat.mod_lt _ (by omega)
    have hdv : ((((kp + 3 + 2 * sums.length) % 3 : Nat) : Int) == 0) = dvB (kp + 3 + 2 * sums.length) := rfl
    have hf1 := uV sums
    have hf2 := uV (tq sums.length (kp + 3))
    have hf3 := vF needs
    have hf4 := vF (mkS needs.length (kp + 3 + 2 * sums.length + 1))
    have hl1 := mu sums.length (kp + 3)
    have hl2 := vr needs.length (kp + 3 + 2 * sums.length + 1)
    simp only [VH, zL.enc, List.map_cons, List.map_nil, oc, List.append_assoc, List.cons_append, List.nil_append] at IH ⊢
    generalize tq sums.length (kp + 3) = mm at *
    generalize mkS needs.length (kp + 3 + 2 * sums.length + 1) = ms at *
    generalize mkT (kp + 2) = mt2 at *
    generalize mkT (kp + 1) = mt1 at *
    generalize mkT kp = mt0 at *
    generalize ocE (zL.zV (xE k pre)) = A at *
    generalize ocE (zL.zV rest) = B at *
    refine zz Tryz.func38 rfl rfl ?_
    simp (disch := ((try simp only [LL]); omega)) only [↓GO, ↓DRW, GA, ren, zB, zd, refs, zb, cst, zl, zH, z7, E.load, E.store, zG, isC, bin, zI, zJ, una, z8, za, zh, zK, blt, fnV, asArg, ze, zn, zo, zj, zi, zg, zk, zr, z6, zD, zF, mkS, zc, unN, zM, zm, zy, zC, zf, zN, zq, GS, Int.reduceToNat, Nat.reduceGT, ↓reduceIte, Nat.reduceAdd, Nat.reduceMul, Nat.reduceSub, Nat.reduceEqDiff, Nat.reduceLeDiff, Nat.reduceLT, Nat.reduceBEq, Int.reduceBEq, Int.reduceBNe, Int.reduceEq, Int.reduceLT, Int.reduceLE, Int.reduceGT, Int.reduceNeg, reduceCtorEq, yO, yP, qI, r9, rO, rN, w9, mkO, tD, tr, vd, qC, yZ, r7, r4, xu, oc, oTs, oT, xf, xf.rowTs, tA, isL, Bool.not_false, Bool.true_and, Bool.and_true, Bool.and_self, List.flatMap_append, List.map_append, List.set_cons_zero, List.set_cons_succ, GZ, c, c0, c00, if_true, Int.toNat_natCast, hmt0, hmt1, hmt2, hmm, hms, hg1, hs1, hA, hR, hB, hRB, w0, w1, w2, w3, w4, e1, hdv, hf1, hf2, hf3, hf4, hl1, hl2, zP, zZ.zR, zL.zR, qw, xy, yX, IH, zY]
theorem Xw (cs : List zL) (hb : cs.length + zL.ya cs ≤ 4194304) (cap : Option Nat) (k : Nat) (hk : k + yJ cs ≤ 1073741824) (n : Nat) (hn : n = cs.length) :
    EV Tryz.prog pol (.callO false 38 [.sl 0 0 n cap, .t (.int .i64 (k : Int))] [.vs 6 (ocE (zL.zV cs))]) = some (.call (.t (.int .i64 ((k + yJ cs : Nat) : Int))) [.vs 6 (ocE (zL.zV (xE k cs)))]) := by
  subst hn
  have L := bK cs (by omega) (fun c hc => by have := zL.yp hc; omega) cap k hk cs [] rfl
  simp only [List.length_nil, Int.natCast_zero, xE, yJ, show ocE (zL.zV []) = [] from rfl, List.nil_append, Nat.add_zero] at L
  refine yK Tryz.func38 rfl (by kernel_rfl) ?_
  unfold Tryz.f38
  simp (disch := ((try simp only [LL]); omega)) only [↓GO, ↓DRW, GA, ren, zB, zd, refs, zb, cst, zl, zH, z7, E.load, E.store, zG, isC, bin, zI, zJ, una, z8, za, zh, zK, blt, fnV, asArg, ze, zn, zo, zj, zi, zg, zk, zr, z6, zD, zF, mkS, zc, unN, zM, zm, zy, zC, zf, zN, zq, GS, Int.reduceToNat, Nat.reduceGT, ↓reduceIte, Nat.reduceAdd, Nat.reduceMul, Nat.reduceSub, Nat.reduceEqDiff, Nat.reduceLeDiff, Nat.reduceLT, Nat.reduceBEq, Int.reduceBEq, Int.reduceBNe, Int.reduceEq, Int.reduceLT, Int.reduceLE, Int.reduceGT, Int.reduceNeg, reduceCtorEq, yO, yP, qI, r9, rO, rN, w9, mkO, tD, tr, vd, qC, yZ, r7, r4, xu, oc, oTs, oT, xf, xf.rowTs, tA, isL, Bool.not_false, Bool.true_and, Bool.and_true, Bool.and_self, List.flatMap_append, List.map_append, List.set_cons_zero, List.set_cons_succ, GZ, L, xy, yX, zY]
theorem UL (top : List Str) (cs : List zL) (ht : top.length ≤ 4194304) (hb : cs.length + zL.ya cs ≤ 4194304) (n1 n2 : Nat) (h1 : n1 = top.length) (h2 : n2 = cs.length) (p1 p2 : Option Nat) (k : Nat) (hk : k + top.length + yJ cs ≤ 1073741824) :
    EV Tryz.prog pol (.callO false 15 [.agg [.sl 0 0 n1 p1, .sl 1 0 n2 p2], .t (.int .i64 (k : Int))] [.ts 1 (y6 top), .vs 6 (ocE (zL.zV cs))])
      = some (.call (.t (.int .i64 ((k + top.length + yJ cs : Nat) : Int))) [.ts 1 (y6 (mkS top.length k)), .vs 6 (ocE (zL.zV (xE (k + top.length) cs)))]) := by
  subst h1 h2
  have d1 := jA top (by omega) p1 k (by omega) top.length rfl
  have d2 := Xw cs hb p2 (k + top.length) (by omega) cs.length rfl
  refine yK Tryz.func15 rfl (by kernel_rfl) ?_
  unfold Tryz.f15
  simp (disch := ((try simp only [LL]); omega)) only [↓GO, ↓DRW, GA, ren, zB, zd, refs, zb, cst, zl, zH, z7, E.load, E.store, zG, isC, bin, zI, zJ, una, z8, za, zh, zK, blt, fnV, asArg, ze, zn, zo, zj, zi, zg, zk, zr, z6, zD, zF, mkS, zc, unN, zM, zm, zy, zC, zf, zN, zq, GS, Int.reduceToNat, Nat.reduceGT, ↓reduceIte, Nat.reduceAdd, Nat.reduceMul, Nat.reduceSub, Nat.reduceEqDiff, Nat.reduceLeDiff, Nat.reduceLT, Nat.reduceBEq, Int.reduceBEq, Int.reduceBNe, Int.reduceEq, Int.reduceLT, Int.reduceLE, Int.reduceGT, Int.reduceNeg, reduceCtorEq, yO, yP, qI, r9, rO, rN, w9, mkO, tD, tr, vd, qC, yZ, r7, r4, xu, oc, oTs, oT, xf, xf.rowTs, tA, isL, Bool.not_false, Bool.true_and, Bool.and_true, Bool.and_self, List.flatMap_append, List.map_append, List.set_cons_zero, List.set_cons_succ, GZ, d1, d2, xy, yX, zY]
end Go.Proofs.YtmcephnfcciloaaGreatDoor
/- Marks in packs and graphs found again. Conditions: those of each lemma. -/
namespace Go.Proofs.YtmcephnfcciloaaGreatDoor
open E
set_option linter.unusedSimpArgs false
set_option linter.unusedVariables false
set_option maxRecDepth 100000
end Go.Proofs.YtmcephnfcciloaaGreatDoor
/- What the laws' own functions do over lists of Notice: sizes, copies, comparisons, marks. Conditions: those of each lemma. -/
namespace Go.Proofs.YtmcephnfcciloaaGreatDoor
open E
set_option linter.unusedSimpArgs false
set_option linter.unusedVariables false
set_option maxRecDepth 100000
theorem pY (cs : List zt) (hl : cs.length ≤ 9223372036854775807) (hc : ∀ c ∈ cs, mJ c) : ∀ (d i : Nat) (n : Int), cs.length - i = d → i ≤ cs.length → 0 ≤ n → n ≤ 1048576 →
    (0 ≤ n - (zt.ya (cs.drop i) : Int) → EV Tryz.prog pol (.loop 7 122 0 [.t (.list 3 (zt.zV cs)), .t (.int .i64 n), .t (.int .i64 (i : Int))] []) = some (.loop (.exit 0) [.t (.int .i64 (n - (zt.ya (cs.drop i) : Int))), .bad] [])) ∧
    (n - (zt.ya (cs.drop i) : Int) < 0 → ∃ v, EV Tryz.prog pol (.loop 7 122 0 [.t (.list 3 (zt.zV cs)), .t (.int .i64 n), .t (.int .i64 (i : Int))] []) = some (.loop .ret [v, .t (.int .i64 (-1))] []))
  | 0, i, n, hd, hi, h0, h1 => by
    have hi' : i = cs.length := by omega
    subst hi'
    have hb : zt.ya (cs.drop cs.length) = 0 := by simp [zt.ya]
    rw [hb]
    refine ⟨fun _ => ?_, fun h => by omega⟩
    refine zz Tryz.func7 rfl rfl ?_
    have c : decide (((cs.length : Nat) : Int) < ((cs.length : Nat) : Int)) = false := by simp
    simp only [↓GO, ↓DRW, GA, ren, zB, zd, refs, zb, cst, zl, zH, z7, E.load, E.store, zG, isC, bin, zI, zJ, una, z8, za, zh, zK, blt, fnV, asArg, ze, zn, zo, zj, zi, zg, zk, zr, z6, zD, zF, mkS, zc, unN, zM, zm, zy, zC, zf, zN, zq, GS, Int.reduceToNat, Nat.reduceGT, ↓reduceIte, Nat.reduceAdd, Nat.reduceMul, Nat.reduceSub, Nat.reduceEqDiff, Nat.reduceLeDiff, Nat.reduceLT, Nat.reduceBEq, Int.reduceBEq, Int.reduceBNe, Int.reduceEq, Int.reduceLT, Int.reduceLE, Int.reduceGT, Int.reduceNeg, reduceCtorEq, zt.zR, c]
    simp
  | d + 1, i, n, hd, hi, h0, h1 => by
    have hlt : i < cs.length := by omega
    rw [zt.xi cs i hlt]
    have c : decide ((i : Int) < ((cs.length : Nat) : Int)) = true := by simp; omega
    have hcall := hc _ (List.getElem_mem hlt) n h0 h1
    have hget := zt.yR cs i hlt
    generalize hci : cs[i] = ci at hcall hget
    obtain ⟨name, range, text⟩ := ci
    simp only [zt.enc, List.map_cons, List.map_nil] at hcall hget
    generalize hbu : (zt.mk name range text).yh = bu at hcall
    have IH := pY cs hl hc d (i + 1) (n - (bu : Int)) (by omega) (by omega)
    have e1 : (i : Int) + 1 = ((i + 1 : Nat) : Int) := by omega
    by_cases hneg : n - (bu : Int) < 0
    · refine ⟨fun h => by omega, fun _ => ⟨.t (.int .i64 (-1)), ?_⟩⟩
      refine zz Tryz.func7 rfl rfl ?_
      have hle : left n bu = -1 := if_pos hneg
      rw [hle] at hcall
      simp (disch := omega) only [↓GO, ↓DRW, GA, ren, zB, zd, refs, zb, cst, zl, zH, z7, E.load, E.store, zG, isC, bin, zI, zJ, una, z8, za, zh, zK, blt, fnV, asArg, ze, zn, zo, zj, zi, zg, zk, zr, z6, zD, zF, mkS, zc, unN, zM, zm, zy, zC, zf, zN, zq, GS, Int.reduceToNat, Nat.reduceGT, ↓reduceIte, Nat.reduceAdd, Nat.reduceMul, Nat.reduceSub, Nat.reduceEqDiff, Nat.reduceLeDiff, Nat.reduceLT, Nat.reduceBEq, Int.reduceBEq, Int.reduceBNe, Int.reduceEq, Int.reduceLT, Int.reduceLE, Int.reduceGT, Int.reduceNeg, reduceCtorEq, zt.zR, c, hget, zx, hcall]
    · have hle : left n bu = n - (bu : Int) := if_neg hneg
      rw [hle] at hcall
      have c2 : decide (n - (bu : Int) < 0) = false := by simpa using hneg
      obtain ⟨I1, I2⟩ := IH (by omega) (by omega)
      refine ⟨fun h => ?_, fun h => ?_⟩
      · refine zz Tryz.func7 rfl rfl ?_
        simp (disch := omega) only [↓GO, ↓DRW, GA, ren, zB, zd, refs, zb, cst, zl, zH, z7, E.load, E.store, zG, isC, bin, zI, zJ, una, z8, za, zh, zK, blt, fnV, asArg, ze, zn, zo, zj, zi, zg, zk, zr, z6, zD, zF, mkS, zc, unN, zM, zm, zy, zC, zf, zN, zq, GS, Int.reduceToNat, Nat.reduceGT, ↓reduceIte, Nat.reduceAdd, Nat.reduceMul, Nat.reduceSub, Nat.reduceEqDiff, Nat.reduceLeDiff, Nat.reduceLT, Nat.reduceBEq, Int.reduceBEq, Int.reduceBNe, Int.reduceEq, Int.reduceLT, Int.reduceLE, Int.reduceGT, Int.reduceNeg, reduceCtorEq, zt.zR, c, hget, zx, hcall, c2, e1]
        rw [I1 (by omega), show n - (bu : Int) - (zt.ya (cs.drop (i + 1)) : Int) = n - ((bu + zt.ya (cs.drop (i + 1)) : Nat) : Int) by omega]
      · obtain ⟨v, hv⟩ := I2 (by omega)
        refine ⟨v, ?_⟩
        refine zz Tryz.func7 rfl rfl ?_
        simp (disch := omega) only [↓GO, ↓DRW, GA, ren, zB, zd, refs, zb, cst, zl, zH, z7, E.load, E.store, zG, isC, bin, zI, zJ, una, z8, za, zh, zK, blt, fnV, asArg, ze, zn, zo, zj, zi, zg, zk, zr, z6, zD, zF, mkS, zc, unN, zM, zm, zy, zC, zf, zN, zq, GS, Int.reduceToNat, Nat.reduceGT, ↓reduceIte, Nat.reduceAdd, Nat.reduceMul, Nat.reduceSub, Nat.reduceEqDiff, Nat.reduceLeDiff, Nat.reduceLT, Nat.reduceBEq, Int.reduceBEq, Int.reduceBNe, Int.reduceEq, Int.reduceLT, Int.reduceLE, Int.reduceGT, Int.reduceNeg, reduceCtorEq, zt.zR, c, hget, zx, hcall, c2, e1]
        exact hv
theorem om (cs : List zt) (hl : cs.length ≤ 9223372036854775807) (hc : ∀ c ∈ cs, mJ c) (n : Int) (h0 : 0 ≤ n) (h1 : n ≤ 1048576) :
    zE (EV Tryz.prog pol) 7 [.t (.list 3 (zt.zV cs)), .t (.int .i64 n)] = some (.t (.int .i64 (left n (cs.length + zt.ya cs)))) := by
  apply zu
  refine zw rfl Tryz.func7 rfl (by kernel_rfl) ?_
  unfold Tryz.f7
  by_cases hneg : n - (cs.length : Int) < 0
  · have c2 : decide (n - (cs.length : Int) < 0) = true := by simpa using hneg
    simp (disch := omega) only [↓GO, ↓DRW, GA, ren, zB, zd, refs, zb, cst, zl, zH, z7, E.load, E.store, zG, isC, bin, zI, zJ, una, z8, za, zh, zK, blt, fnV, asArg, ze, zn, zo, zj, zi, zg, zk, zr, z6, zD, zF, mkS, zc, unN, zM, zm, zy, zC, zf, zN, zq, GS, Int.reduceToNat, Nat.reduceGT, ↓reduceIte, Nat.reduceAdd, Nat.reduceMul, Nat.reduceSub, Nat.reduceEqDiff, Nat.reduceLeDiff, Nat.reduceLT, Nat.reduceBEq, Int.reduceBEq, Int.reduceBNe, Int.reduceEq, Int.reduceLT, Int.reduceLE, Int.reduceGT, Int.reduceNeg, reduceCtorEq, zt.zR, zx, c2]
    rw [left, if_pos (by omega)]
  · have c2 : decide (n - (cs.length : Int) < 0) = false := by simpa using hneg
    obtain ⟨I1, I2⟩ := pY cs hl hc cs.length 0 (n - (cs.length : Int)) (by omega) (by omega) (by omega) (by omega)
    simp only [List.drop_zero, Int.natCast_zero] at I1 I2
    by_cases hn2 : n - (cs.length : Int) - (zt.ya cs : Int) < 0
    · obtain ⟨v, hv⟩ := I2 hn2
      simp (disch := omega) only [↓GO, ↓DRW, GA, ren, zB, zd, refs, zb, cst, zl, zH, z7, E.load, E.store, zG, isC, bin, zI, zJ, una, z8, za, zh, zK, blt, fnV, asArg, ze, zn, zo, zj, zi, zg, zk, zr, z6, zD, zF, mkS, zc, unN, zM, zm, zy, zC, zf, zN, zq, GS, Int.reduceToNat, Nat.reduceGT, ↓reduceIte, Nat.reduceAdd, Nat.reduceMul, Nat.reduceSub, Nat.reduceEqDiff, Nat.reduceLeDiff, Nat.reduceLT, Nat.reduceBEq, Int.reduceBEq, Int.reduceBNe, Int.reduceEq, Int.reduceLT, Int.reduceLE, Int.reduceGT, Int.reduceNeg, reduceCtorEq, zt.zR, zx, c2, hv]
      rw [left, if_pos (by omega)]
    · simp (disch := omega) only [↓GO, ↓DRW, GA, ren, zB, zd, refs, zb, cst, zl, zH, z7, E.load, E.store, zG, isC, bin, zI, zJ, una, z8, za, zh, zK, blt, fnV, asArg, ze, zn, zo, zj, zi, zg, zk, zr, z6, zD, zF, mkS, zc, unN, zM, zm, zy, zC, zf, zN, zq, GS, Int.reduceToNat, Nat.reduceGT, ↓reduceIte, Nat.reduceAdd, Nat.reduceMul, Nat.reduceSub, Nat.reduceEqDiff, Nat.reduceLeDiff, Nat.reduceLT, Nat.reduceBEq, Int.reduceBEq, Int.reduceBNe, Int.reduceEq, Int.reduceLT, Int.reduceLE, Int.reduceGT, Int.reduceNeg, reduceCtorEq, zt.zR, zx, c2, I1 (by omega)]
      rw [left, if_neg (by omega), show n - (cs.length : Int) - (zt.ya cs : Int) = n - ((cs.length + zt.ya cs : Nat) : Int) by omega]
def td : List T := [.str [], .str [], .str []]
theorem tK (cs : List zt) (hl : cs.length ≤ 1048576) (hc : ∀ c ∈ cs, uF c) : ∀ (d i : Nat), cs.length - i = d → i ≤ cs.length →
    EV Tryz.prog pol (.loop 10 58 0 [.t (.list 3 (zt.zV cs)), .sl 0 0 cs.length (some cs.length), .t (.int .i64 (i : Int))] [.ts 3 (wo (zt.zV cs) td i)]) = some (.loop (.exit 0) [.sl 0 0 cs.length (some cs.length)] [.ts 3 (zt.zV cs)])
  | 0, i, hd, hi => by
    have hi' : i = cs.length := by omega
    subst hi'
    refine zz Tryz.func10 rfl rfl ?_
    have c : decide (((cs.length : Nat) : Int) < ((cs.length : Nat) : Int)) = false := by simp
    have hf : wo (zt.zV cs) td cs.length = zt.zV cs := by rw [← zt.zR cs]; exact pf _ _
    simp only [↓GO, ↓DRW, GA, ren, zB, zd, refs, zb, cst, zl, zH, z7, E.load, E.store, zG, isC, bin, zI, zJ, una, z8, za, zh, zK, blt, fnV, asArg, ze, zn, zo, zj, zi, zg, zk, zr, z6, zD, zF, mkS, zc, unN, zM, zm, zy, zC, zf, zN, zq, GS, Int.reduceToNat, Nat.reduceGT, ↓reduceIte, Nat.reduceAdd, Nat.reduceMul, Nat.reduceSub, Nat.reduceEqDiff, Nat.reduceLeDiff, Nat.reduceLT, Nat.reduceBEq, Int.reduceBEq, Int.reduceBNe, Int.reduceEq, Int.reduceLT, Int.reduceLE, Int.reduceGT, Int.reduceNeg, reduceCtorEq, zt.zR, c, hf]
  | d + 1, i, hd, hi => by
    have hlt : i < cs.length := by omega
    have hlt' : i < (zt.zV cs).length := by rw [zt.zR]; exact hlt
    have c : decide ((i : Int) < ((cs.length : Nat) : Int)) = true := by simp; omega
    have c0 : decide ((0 : Int) ≤ (i : Int)) = true := by simp
    have IH := tK cs hl hc d (i + 1) (by omega) (by omega)
    have e1 : (i : Int) + 1 = ((i + 1 : Nat) : Int) := by omega
    have hg : (wo (zt.zV cs) td i)[i]? = some [.str [], .str [], .str []] := pe (zt.zV cs) td i hlt'
    have hs := pd (zt.zV cs) td i hlt'
    have hx : (zt.zV cs)[i] = cs[i].enc := by simp [zt.zV]
    rw [hx] at hs
    have hcall := hc _ (List.getElem_mem hlt)
    have hget := zt.yR cs i hlt
    generalize hci : cs[i] = ci at hcall hget hs
    obtain ⟨name, range, text⟩ := ci
    simp only [uF, zt.enc, List.map_cons, List.map_nil] at hcall hget hs
    refine zz Tryz.func10 rfl rfl ?_
    simp (disch := omega) only [↓GO, ↓DRW, GA, ren, zB, zd, refs, zb, cst, zl, zH, z7, E.load, E.store, zG, isC, bin, zI, zJ, una, z8, za, zh, zK, blt, fnV, asArg, ze, zn, zo, zj, zi, zg, zk, zr, z6, zD, zF, mkS, zc, unN, zM, zm, zy, zC, zf, zN, zq, GS, Int.reduceToNat, Nat.reduceGT, ↓reduceIte, Nat.reduceAdd, Nat.reduceMul, Nat.reduceSub, Nat.reduceEqDiff, Nat.reduceLeDiff, Nat.reduceLT, Nat.reduceBEq, Int.reduceBEq, Int.reduceBNe, Int.reduceEq, Int.reduceLT, Int.reduceLE, Int.reduceGT, Int.reduceNeg, reduceCtorEq, zt.zR, c, c0, hget, zx, e1, hg, Int.toNat_natCast, hcall, hs]
    exact IH
theorem iu (cs : List zt) (hl : cs.length ≤ 1048576) (hc : ∀ c ∈ cs, uF c) : zE (EV Tryz.prog pol) 10 [.t (.list 3 (zt.zV cs))] = some (.t (.list 3 (zt.zV cs))) := by
  apply zu
  refine zw rfl Tryz.func10 rfl (by kernel_rfl) ?_
  unfold Tryz.f10
  have h1 : ¬ ((cs.length : Int) < 0) := by omega
  have h2 : ¬ (cs.length * 48 > 140737488355328) := by omega
  have h3 : ¬ (cs.length > 140737488355328) := by omega
  have hz : List.replicate cs.length [T.str [], .str [], .str []] = wo (zt.zV cs) td 0 := by rw [uW, zt.zR]; rfl
  have IH := tK cs hl hc cs.length 0 (by omega) (by omega)
  simp only [Int.natCast_zero] at IH
  have ht : (zt.zV cs).take cs.length = zt.zV cs := by rw [← zt.zR cs]; simp
  simp (disch := omega) only [↓GO, ↓DRW, GA, ren, zB, zd, refs, zb, cst, zl, zH, z7, E.load, E.store, zG, isC, bin, zI, zJ, una, z8, za, zh, zK, blt, fnV, asArg, ze, zn, zo, zj, zi, zg, zk, zr, z6, zD, zF, mkS, zc, unN, zM, zm, zy, zC, zf, zN, zq, GS, Int.reduceToNat, Nat.reduceGT, ↓reduceIte, Nat.reduceAdd, Nat.reduceMul, Nat.reduceSub, Nat.reduceEqDiff, Nat.reduceLeDiff, Nat.reduceLT, Nat.reduceBEq, Int.reduceBEq, Int.reduceBNe, Int.reduceEq, Int.reduceLT, Int.reduceLE, Int.reduceGT, Int.reduceNeg, reduceCtorEq, zt.zR, Int.toNat_natCast, h1, h2, h3, hz, IH, ne_eq, not_true_eq_false, ht]
theorem o6 (cs : List zt) (hl : cs.length ≤ 1048576) (hc : ∀ c ∈ cs, s9 c) : ∀ (d i : Nat), cs.length - i = d → i ≤ cs.length →
    EV Tryz.prog pol (.loop 14 58 0 [.t (.list 3 (zt.zV cs)), .t (.list 3 (zt.zV cs)), .t (.int .i64 (i : Int))] []) = some (.loop (.exit 0) [.bad] [])
  | 0, i, hd, hi => by
    have hi' : i = cs.length := by omega
    subst hi'
    refine zz Tryz.func14 rfl rfl ?_
    have c : decide (((cs.length : Nat) : Int) < ((cs.length : Nat) : Int)) = false := by simp
    simp only [↓GO, ↓DRW, GA, ren, zB, zd, refs, zb, cst, zl, zH, z7, E.load, E.store, zG, isC, bin, zI, zJ, una, z8, za, zh, zK, blt, fnV, asArg, ze, zn, zo, zj, zi, zg, zk, zr, z6, zD, zF, mkS, zc, unN, zM, zm, zy, zC, zf, zN, zq, GS, Int.reduceToNat, Nat.reduceGT, ↓reduceIte, Nat.reduceAdd, Nat.reduceMul, Nat.reduceSub, Nat.reduceEqDiff, Nat.reduceLeDiff, Nat.reduceLT, Nat.reduceBEq, Int.reduceBEq, Int.reduceBNe, Int.reduceEq, Int.reduceLT, Int.reduceLE, Int.reduceGT, Int.reduceNeg, reduceCtorEq, zt.zR, c]
  | d + 1, i, hd, hi => by
    have hlt : i < cs.length := by omega
    have c : decide ((i : Int) < ((cs.length : Nat) : Int)) = true := by simp; omega
    have IH := o6 cs hl hc d (i + 1) (by omega) (by omega)
    have e1 : (i : Int) + 1 = ((i + 1 : Nat) : Int) := by omega
    have hcall := hc _ (List.getElem_mem hlt)
    have hget := zt.yR cs i hlt
    generalize hci : cs[i] = ci at hcall hget
    obtain ⟨name, range, text⟩ := ci
    simp only [s9, zt.enc, List.map_cons, List.map_nil] at hcall hget
    refine zz Tryz.func14 rfl rfl ?_
    simp (disch := omega) only [↓GO, ↓DRW, GA, ren, zB, zd, refs, zb, cst, zl, zH, z7, E.load, E.store, zG, isC, bin, zI, zJ, una, z8, za, zh, zK, blt, fnV, asArg, ze, zn, zo, zj, zi, zg, zk, zr, z6, zD, zF, mkS, zc, unN, zM, zm, zy, zC, zf, zN, zq, GS, Int.reduceToNat, Nat.reduceGT, ↓reduceIte, Nat.reduceAdd, Nat.reduceMul, Nat.reduceSub, Nat.reduceEqDiff, Nat.reduceLeDiff, Nat.reduceLT, Nat.reduceBEq, Int.reduceBEq, Int.reduceBNe, Int.reduceEq, Int.reduceLT, Int.reduceLE, Int.reduceGT, Int.reduceNeg, reduceCtorEq, zt.zR, c, hget, zx, e1, hcall]
    exact IH
theorem ix (cs : List zt) (hl : cs.length ≤ 1048576) (hc : ∀ c ∈ cs, s9 c) : zE (EV Tryz.prog pol) 14 [.t (.list 3 (zt.zV cs)), .t (.list 3 (zt.zV cs))] = some (.t (.bool true)) := by
  apply zu
  refine zw rfl Tryz.func14 rfl (by kernel_rfl) ?_
  unfold Tryz.f14
  have IH := o6 cs hl hc cs.length 0 (by omega) (by omega)
  simp only [Int.natCast_zero] at IH
  simp only [↓GO, ↓DRW, GA, ren, zB, zd, refs, zb, cst, zl, zH, z7, E.load, E.store, zG, isC, bin, zI, zJ, una, z8, za, zh, zK, blt, fnV, asArg, ze, zn, zo, zj, zi, zg, zk, zr, z6, zD, zF, mkS, zc, unN, zM, zm, zy, zC, zf, zN, zq, GS, Int.reduceToNat, Nat.reduceGT, ↓reduceIte, Nat.reduceAdd, Nat.reduceMul, Nat.reduceSub, Nat.reduceEqDiff, Nat.reduceLeDiff, Nat.reduceLT, Nat.reduceBEq, Int.reduceBEq, Int.reduceBNe, Int.reduceEq, Int.reduceLT, Int.reduceLE, Int.reduceGT, Int.reduceNeg, reduceCtorEq, zt.zR, IH, bne_self_eq_false]
end Go.Proofs.YtmcephnfcciloaaGreatDoor
/- Notices laid anew, marked. Conditions: those of each lemma. -/
namespace Go.Proofs.YtmcephnfcciloaaGreatDoor
open E
set_option linter.unusedSimpArgs false
set_option linter.unusedVariables false
set_option maxRecDepth 100000
theorem UD (cs : List zt) (hl : cs.length ≤ 1048576) (hc : ∀ c ∈ cs, uF c) : EV Tryz.prog pol (.callO false 10 [.t (.list 3 (zt.zV cs))] []) = some (.call (.sl 0 0 cs.length (some cs.length)) [.ts 3 (zt.zV cs)]) := by
  refine yK Tryz.func10 rfl (by kernel_rfl) ?_
  unfold Tryz.f10
  have h1 : ¬ ((cs.length : Int) < 0) := by omega
  have h2 : ¬ (cs.length * 48 > 140737488355328) := by omega
  have h3 : ¬ (cs.length > 140737488355328) := by omega
  have hz : List.replicate cs.length [T.str [], .str [], .str []] = wo (zt.zV cs) td 0 := by rw [uW, zt.zR]; rfl
  have IH := tK cs hl hc cs.length 0 (by omega) (by omega)
  simp only [Int.natCast_zero] at IH
  simp (disch := omega) only [E.mkS, ↓GO, ↓DRW, GA, ren, zB, zd, refs, zb, cst, zl, zH, z7, E.load, E.store, zG, isC, bin, zI, zJ, una, z8, za, zh, zK, blt, fnV, asArg, ze, zn, zo, zj, zi, zg, zk, zr, z6, zD, zF, mkS, zc, unN, zM, zm, zy, zC, zf, zN, zq, GS, Int.reduceToNat, Nat.reduceGT, ↓reduceIte, Nat.reduceAdd, Nat.reduceMul, Nat.reduceSub, Nat.reduceEqDiff, Nat.reduceLeDiff, Nat.reduceLT, Nat.reduceBEq, Int.reduceBEq, Int.reduceBNe, Int.reduceEq, Int.reduceLT, Int.reduceLE, Int.reduceGT, Int.reduceNeg, reduceCtorEq, zt.zR, Int.toNat_natCast, h1, h2, h3, hz, IH, ne_eq, not_true_eq_false]
def tB : Nat → Nat → List zt
  | 0, _ => []
  | n + 1, k => ⟨mkT k, mkT (k + 1), mkT (k + 2)⟩ :: tB n (k + 3)
theorem gT : ∀ n k, (tB n k).length = n
  | 0, _ => rfl
  | n + 1, k => by rw [tB, List.length_cons, gT n (k + 3)]
theorem lR : ∀ n k, tB (n + 1) k = tB n k ++ [⟨mkT (k + 3 * n), mkT (k + 3 * n + 1), mkT (k + 3 * n + 2)⟩]
  | 0, k => rfl
  | n + 1, k => by
    rw [tB, lR n (k + 3), tB, List.cons_append, show k + 3 + 3 * n = k + 3 * (n + 1) by omega]
theorem fc (cs : List zt) (hl : cs.length ≤ 4194304) (cap : Option Nat) (k : Nat) (hk : k ≤ 1073741824) : ∀ (rest pre : List zt), cs = pre ++ rest →
    EV Tryz.prog pol (.loop 16 26 1 [.sl 0 0 cs.length cap, .t (.int .i64 ((k + 3 * pre.length : Nat) : Int)), .t (.int .i64 (pre.length : Int))] [.ts 3 (zt.zV (tB pre.length k) ++ zt.zV rest)])
      = some (.loop (.exit 0) [.t (.int .i64 ((k + 3 * cs.length : Nat) : Int))] [.ts 3 (zt.zV (tB cs.length k))])
  | [], pre, hs => by
    have c : decide ((pre.length : Int) < (cs.length : Int)) = false := by simp [hs]
    have e : cs = pre := by simpa using hs
    simp only [show zt.zV [] = [] from rfl, List.append_nil]
    refine zz Tryz.func16 rfl rfl ?_
    simp (disch := ((try simp only [LL]); omega)) only [↓GO, ↓DRW, GA, ren, zB, zd, refs, zb, cst, zl, zH, z7, E.load, E.store, zG, isC, bin, zI, zJ, una, z8, za, zh, zK, blt, fnV, asArg, ze, zn, zo, zj, zi, zg, zk, zr, z6, zD, zF, mkS, zc, unN, zM, zm, zy, zC, zf, zN, zq, GS, Int.reduceToNat, Nat.reduceGT, ↓reduceIte, Nat.reduceAdd, Nat.reduceMul, Nat.reduceSub, Nat.reduceEqDiff, Nat.reduceLeDiff, Nat.reduceLT, Nat.reduceBEq, Int.reduceBEq, Int.reduceBNe, Int.reduceEq, Int.reduceLT, Int.reduceLE, Int.reduceGT, Int.reduceNeg, reduceCtorEq, GZ, c]
    rw [e]
  | x :: rest, pre, hs => by
    have c : decide ((pre.length : Int) < (cs.length : Int)) = true := by simp [hs]; omega
    have c0 : decide ((0 : Int) ≤ (pre.length : Int)) = true := by simp
    have c00 : (0 : Int) ≤ (pre.length : Int) := by omega
    have hlen : pre.length + rest.length + 1 ≤ cs.length := by rw [hs]; simp; omega
    have hm := rK (k + 3 * pre.length) (by omega)
    have hm2 := rK (k + 3 * pre.length + 1) (by omega)
    have hm3 := rK (k + 3 * pre.length + 2) (by omega)
    have IH := fc cs hl cap k hk rest (pre ++ [x]) (by rw [hs]; simp)
    rw [show (pre ++ [x]).length = pre.length + 1 by simp, lR, show zt.zV (tB pre.length k ++ [⟨mkT (k + 3 * pre.length), mkT (k + 3 * pre.length + 1), mkT (k + 3 * pre.length + 2)⟩]) = zt.zV (tB pre.length k) ++ [[.str (mkT (k + 3 * pre.length)), .str (mkT (k + 3 * pre.length + 1)), .str (mkT (k + 3 * pre.length + 2))]] by simp [zt.zV, zt.enc], List.append_assoc, List.cons_append, List.nil_append] at IH
    rw [show k + 3 * (pre.length + 1) = k + 3 * pre.length + 3 by omega] at IH
    have hAl : (zt.zV (tB pre.length k)).length = pre.length := by rw [zt.zR, gT]
    rw [show zt.zV (x :: rest) = [.str x.name, .str x.range, .str x.text] :: zt.zV rest from rfl]
    have hg1 := fun y => qy (zt.zV (tB pre.length k)) (zt.zV rest) y pre.length hAl
    have hs1 := fun y z => qx (zt.zV (tB pre.length k)) (zt.zV rest) y z pre.length hAl
    clear hs
    generalize zt.zV (tB pre.length k) = A at *
    generalize mkT (k + 3 * pre.length + 2) = mt3 at *
    generalize mkT (k + 3 * pre.length + 1) = mt2 at *
    generalize mkT (k + 3 * pre.length) = mt at *
    have hkp : k + 3 * pre.length ≤ 1090519040 := by omega
    generalize k + 3 * pre.length = kp at *
    have w : IntKind.i64.wrap ((kp : Int) + 1) = ((kp + 1 : Nat) : Int) := by rw [zx (by omega)]; omega
    have w1 : IntKind.i64.wrap (((kp + 1 : Nat) : Int) + 1) = ((kp + 2 : Nat) : Int) := by rw [zx (by omega)]; omega
    have w3 : IntKind.i64.wrap (((kp + 2 : Nat) : Int) + 1) = ((kp + 3 : Nat) : Int) := by rw [zx (by omega)]; omega
    have w2 : IntKind.i64.wrap ((pre.length : Int) + 1) = ((pre.length + 1 : Nat) : Int) := by rw [zx (by omega)]; omega
    refine zz Tryz.func16 rfl rfl ?_
    simp (disch := ((try simp only [LL]); omega)) only [↓GO, ↓DRW, GA, ren, zB, zd, refs, zb, cst, zl, zH, z7, E.load, E.store, zG, isC, bin, zI, zJ, una, z8, za, zh, zK, blt, fnV, asArg, ze, zn, zo, zj, zi, zg, zk, zr, z6, zD, zF, mkS, zc, unN, zM, zm, zy, zC, zf, zN, zq, GS, Int.reduceToNat, Nat.reduceGT, ↓reduceIte, Nat.reduceAdd, Nat.reduceMul, Nat.reduceSub, Nat.reduceEqDiff, Nat.reduceLeDiff, Nat.reduceLT, Nat.reduceBEq, Int.reduceBEq, Int.reduceBNe, Int.reduceEq, Int.reduceLT, Int.reduceLE, Int.reduceGT, Int.reduceNeg, reduceCtorEq, GZ, c, c0, c00, if_true, Int.toNat_natCast, hm, hm2, hm3, hg1, hs1, w, w1, w2, w3, IH]
theorem Xx (cs : List zt) (hl : cs.length ≤ 4194304) (cap : Option Nat) (k : Nat) (hk : k ≤ 1073741824) (n : Nat) (hn : n = cs.length) :
    EV Tryz.prog pol (.callO false 16 [.sl 0 0 n cap, .t (.int .i64 (k : Int))] [.ts 3 (zt.zV cs)]) = some (.call (.t (.int .i64 ((k + 3 * cs.length : Nat) : Int))) [.ts 3 (zt.zV (tB cs.length k))]) := by
  subst hn
  have L := fc cs hl cap k hk cs [] rfl
  simp only [List.length_nil, Int.natCast_zero, tB, show zt.zV [] = [] from rfl, List.nil_append, Nat.mul_zero, Nat.add_zero] at L
  refine yK Tryz.func16 rfl (by kernel_rfl) ?_
  unfold Tryz.f16
  simp (disch := ((try simp only [LL]); omega)) only [↓GO, ↓DRW, GA, ren, zB, zd, refs, zb, cst, zl, zH, z7, E.load, E.store, zG, isC, bin, zI, zJ, una, z8, za, zh, zK, blt, fnV, asArg, ze, zn, zo, zj, zi, zg, zk, zr, z6, zD, zF, mkS, zc, unN, zM, zm, zy, zC, zf, zN, zq, GS, Int.reduceToNat, Nat.reduceGT, ↓reduceIte, Nat.reduceAdd, Nat.reduceMul, Nat.reduceSub, Nat.reduceEqDiff, Nat.reduceLeDiff, Nat.reduceLT, Nat.reduceBEq, Int.reduceBEq, Int.reduceBNe, Int.reduceEq, Int.reduceLT, Int.reduceLE, Int.reduceGT, Int.reduceNeg, reduceCtorEq, GZ, L]
end Go.Proofs.YtmcephnfcciloaaGreatDoor
/- Versions compared, plain: both ways come to the same; what is in a range. Conditions: none. -/
namespace Go.Proofs.YtmcephnfcciloaaGreatDoor
open E
set_option linter.unusedVariables false
set_option linter.unusedSimpArgs false
set_option maxRecDepth 100000
/-- a number's digits, none for zero -/
def dg (u : Nat) : Str := cond (u == 0) [] (Lib.decDigits u)
theorem oM : dg 0 = [] := rfl
theorem cE {u : Nat} (h : 0 < u) : dg u = Lib.decDigits u := by
  unfold dg; rw [show (u == 0) = false by simp; omega]; rfl
theorem jv {u : Nat} (h : 0 < u) : dg u = dg (u / 10) ++ [UInt8.ofNat (48 + u % 10)] := by
  rw [cE h, Lib.decDigits]
  split
  · rename_i h10
    rw [show u / 10 = 0 by omega, oM, show u % 10 = u by omega]; rfl
  · rename_i h10
    rw [cE (show 0 < u / 10 by omega)]
theorem jw : ∀ (n u : Nat), u ≤ n → 0 < u → ∃ c r, dg u = c :: r ∧ (c == 48) = false
  | 0, u, h, h0 => by omega
  | n + 1, u, h, h0 => by
    rw [jv h0]
    by_cases h1 : 0 < u / 10
    · obtain ⟨c, r, e1, e2⟩ := jw n (u / 10) (by omega) h1
      exact ⟨c, r ++ [UInt8.ofNat (48 + u % 10)], by rw [e1]; rfl, e2⟩
    · rw [show u / 10 = 0 by omega, oM]
      refine ⟨_, [], rfl, ?_⟩
      have key : ∀ k : Fin 10, k.val ≠ 0 → (UInt8.ofNat (48 + k.val) == 48) = false := by decide +kernel
      exact key ⟨u % 10, by omega⟩ (by simp only; omega)
def ltL (x y : Str) : Bool := decide (x.length < y.length) || (decide (x.length = y.length) && Op.bytesLess x y)
theorem Zc : ∀ x : Str, Op.bytesLess x [] = false
  | [] => rfl
  | _ :: _ => rfl
theorem jl : ∀ x : Str, Op.bytesLess x x = false
  | [] => rfl
  | a :: x => by rw [vH, jl x]; simp
theorem gV (a b : UInt8) : ∀ x y : Str, x.length = y.length → Op.bytesLess (x ++ [a]) (y ++ [b]) = (Op.bytesLess x y || (x == y && decide (a < b)))
  | [], [], _ => by
    simp only [List.nil_append]
    rw [vH]
    simp [Op.bytesLess]
  | [], _ :: _, h => by simp at h
  | _ :: _, [], h => by simp at h
  | c :: x, d :: y, h => by
    have ih := gV a b x y (by simpa using h)
    rw [List.cons_append, List.cons_append, vH, vH, ih]
    have e : ((c :: x) == (d :: y)) = (c == d && x == y) := rfl
    rw [e]
    cases decide (c < d) <;> cases (c == d) <;> cases Op.bytesLess x y <;> cases (x == y) <;> cases decide (a < b) <;> rfl
theorem X2 (a b : UInt8) (x y : Str) : ltL (x ++ [a]) (y ++ [b]) = (ltL x y || (x == y && decide (a < b))) := by
  unfold ltL
  simp only [List.length_append, List.length_cons, List.length_nil]
  by_cases h1 : x.length = y.length
  · rw [gV a b x y h1]
    have e1 : decide (x.length + 1 < y.length + 1) = false := by apply decide_eq_false; omega
    have e2 : decide (x.length < y.length) = false := by apply decide_eq_false; omega
    have e3 : decide (x.length + 1 = y.length + 1) = true := by apply decide_eq_true; omega
    have e4 : decide (x.length = y.length) = true := by apply decide_eq_true; exact h1
    simp only [Nat.zero_add, e1, e2, e3, e4, Bool.false_or, Bool.true_and]
  · have e : (x == y) = false := by rw [beq_eq_false_iff_ne]; intro h; exact h1 (by rw [h])
    have e3 : decide (x.length + 1 = y.length + 1) = false := by apply decide_eq_false; omega
    have e4 : decide (x.length = y.length) = false := by apply decide_eq_false; exact h1
    have e5 : decide (x.length + 1 < y.length + 1) = decide (x.length < y.length) := by
      rw [Bool.eq_iff_iff]; simp only [decide_eq_true_eq]; omega
    simp only [Nat.zero_add, e, e3, e4, e5, Bool.false_and, Bool.or_false]
theorem bB (x : Str) : ltL x x = false := by unfold ltL; rw [jl]; simp
theorem aP : ∀ (n u w : Nat), u + w ≤ n → ltL (dg u) (dg w) = decide (u < w)
  | 0, u, w, h => by
    have h1 : u = 0 := by omega
    have h2 : w = 0 := by omega
    subst h1; subst h2; rfl
  | n + 1, u, w, h => by
    by_cases hw : w = 0
    · subst hw
      rw [oM]
      unfold ltL
      rw [Zc]; simp
    · by_cases hu : u = 0
      · subst hu
        obtain ⟨c, r, e, _⟩ := jw w w (Nat.le_refl _) (by omega)
        rw [oM, e]
        unfold ltL
        simp; omega
      · rw [jv (show 0 < u by omega), jv (show 0 < w by omega), X2]
        have i1 := aP n (u / 10) (w / 10) (by omega)
        have i2 := aP n (w / 10) (u / 10) (by omega)
        have ed : decide (UInt8.ofNat (48 + u % 10) < UInt8.ofNat (48 + w % 10)) = decide (u % 10 < w % 10) := by
          have key : ∀ a b : Fin 10, decide (UInt8.ofNat (48 + a.val) < UInt8.ofNat (48 + b.val)) = decide (a.val < b.val) := by decide +kernel
          exact key ⟨u % 10, by omega⟩ ⟨w % 10, by omega⟩
        rw [i1, ed]
        by_cases he : u / 10 = w / 10
        · rw [he]
          simp only [beq_self_eq_true, Bool.true_and, Nat.lt_irrefl, decide_false, Bool.false_or]
          rw [Bool.eq_iff_iff]; simp only [decide_eq_true_eq]; omega
        · have hx : (dg (u / 10) == dg (w / 10)) = false := by
            rw [beq_eq_false_iff_ne]; intro hh
            rw [hh, bB] at i1
            rw [hh, bB] at i2
            have a1 := of_decide_eq_false i1.symm
            have a2 := of_decide_eq_false i2.symm
            omega
          rw [hx, Bool.false_and, Bool.or_false, Bool.eq_iff_iff]
          simp only [decide_eq_true_eq]; omega
/-- without zeros in front -/
def wb (s : Str) : Str := s.dropWhile (· == 48)
theorem oV (u : Nat) : wb (Lib.decDigits u) = dg u := by
  by_cases h : 0 < u
  · rw [← cE h]
    obtain ⟨c, r, e, e2⟩ := jw u u (Nat.le_refl _) h
    rw [e]; unfold wb; simp [List.dropWhile, e2]
  · have : u = 0 := by omega
    subst this
    rw [Lib.decDigits_one (by omega)]; rfl
def av (a b : Str) : Int := cond (isNum a && isNum b)
  (cond (x8 ((wb a).length : Int) ((wb b).length : Int) == 0) (nN (wb a) (wb b)) (x8 ((wb a).length : Int) ((wb b).length : Int)))
  (cond (isNum a) (-1) (cond (isNum b) 1 (nN a b)))
theorem lX {a : Str} (h : wm a = true) : isNum a = decide (zO a ≥ 0) := by
  unfold wm at h
  simp only [Bool.and_eq_true, Bool.or_eq_true, Bool.not_eq_true', decide_eq_true_eq] at h
  rcases h.2.2 with h1 | h1
  · rw [h1]
    symm
    apply decide_eq_false
    intro hg
    obtain ⟨a1, _, _, a4⟩ := xp (s := a) hg
    unfold isNum at h1
    have e1 : (a == []) = false := by simpa using a4
    have e2 : a.all isD = true := by rw [List.all_eq_true]; exact a1
    rw [e1, e2] at h1; cases h1
  · have e : decide (zO a ≥ 0) = true := decide_eq_true h1
    rw [e]
    obtain ⟨a1, _, _, a4⟩ := xp (s := a) h1
    unfold isNum
    have e1 : (a == []) = false := by simpa using a4
    have e2 : a.all isD = true := by rw [List.all_eq_true]; exact a1
    rw [e1, e2]; rfl
theorem nG {a : Str} (h : zO a ≥ 0) : ∃ u : Nat, zO a = u ∧ a = Lib.decDigits u := by
  obtain ⟨_, a2, _, _⟩ := xp (s := a) h
  obtain ⟨u, hu⟩ : ∃ u : Nat, zO a = u := ⟨(zO a).toNat, by omega⟩
  refine ⟨u, hu, ?_⟩
  rw [hu, Lib.itoa_nonneg] at a2
  exact a2.symm
theorem Ux (u w : Nat) : cond (x8 ((dg u).length : Int) ((dg w).length : Int) == 0) (nN (dg u) (dg w)) (x8 ((dg u).length : Int) ((dg w).length : Int)) = x8 (u : Int) (w : Int) := by
  have h1 := aP (u + w) u w (Nat.le_refl _)
  have h2 := aP (u + w) w u (by omega)
  rw [uq]
  unfold ltL at h1 h2
  rcases Nat.lt_trichotomy u w with h | h | h
  · have e : decide (u < w) = true := decide_eq_true h
    rw [e] at h1
    have r : x8 (u : Int) (w : Int) = -1 := by unfold x8; rw [show decide ((u : Int) < (w : Int)) = true by apply decide_eq_true; omega]; rfl
    rw [r]
    rcases Nat.lt_trichotomy (dg u).length (dg w).length with g | g | g
    · have e1 : (((dg u).length : Int) == ((dg w).length : Int)) = false := by rw [beq_eq_false_iff_ne]; omega
      rw [e1, cond_false]
      unfold x8; rw [show decide (((dg u).length : Int) < ((dg w).length : Int)) = true by apply decide_eq_true; omega]; rfl
    · have e1 : (((dg u).length : Int) == ((dg w).length : Int)) = true := by rw [beq_iff_eq]; omega
      rw [e1, cond_true]
      have e2 : Op.bytesLess (dg u) (dg w) = true := by
        simp only [g, Nat.lt_irrefl, decide_false, Bool.false_or, decide_true, Bool.true_and] at h1; exact h1
      unfold nN; rw [e2]; rfl
    · exfalso
      have e1 : decide ((dg u).length < (dg w).length) = false := by apply decide_eq_false; omega
      have e2 : decide ((dg u).length = (dg w).length) = false := by apply decide_eq_false; omega
      rw [e1, e2] at h1; cases h1
  · subst h
    have e1 : (((dg u).length : Int) == ((dg u).length : Int)) = true := by simp
    rw [e1, cond_true]
    have r : x8 (u : Int) (u : Int) = 0 := by unfold x8; simp
    rw [r]; unfold nN; rw [jl]; simp
  · have e : decide (w < u) = true := decide_eq_true h
    rw [e] at h2
    have r : x8 (u : Int) (w : Int) = 1 := by
      unfold x8
      rw [show decide ((u : Int) < (w : Int)) = false by apply decide_eq_false; omega, show decide ((u : Int) > (w : Int)) = true by apply decide_eq_true; omega]; rfl
    rw [r]
    rcases Nat.lt_trichotomy (dg w).length (dg u).length with g | g | g
    · have e1 : (((dg u).length : Int) == ((dg w).length : Int)) = false := by rw [beq_eq_false_iff_ne]; omega
      rw [e1, cond_false]
      unfold x8
      rw [show decide (((dg u).length : Int) < ((dg w).length : Int)) = false by apply decide_eq_false; omega, show decide (((dg u).length : Int) > ((dg w).length : Int)) = true by apply decide_eq_true; omega]; rfl
    · have e1 : (((dg u).length : Int) == ((dg w).length : Int)) = true := by rw [beq_iff_eq]; omega
      rw [e1, cond_true]
      have e2 : Op.bytesLess (dg w) (dg u) = true := by
        simp only [g, Nat.lt_irrefl, decide_false, Bool.false_or, decide_true, Bool.true_and] at h2; exact h2
      have e3 := qz (dg u) (dg w)
      rw [e2] at e3
      have e4 : Op.bytesLess (dg u) (dg w) = false := by
        cases hh : Op.bytesLess (dg u) (dg w) with
        | false => rfl
        | true => rw [hh] at e3; cases e3
      unfold nN; rw [e3, e4]; rfl
    · exfalso
      have e1 : decide ((dg w).length < (dg u).length) = false := by apply decide_eq_false; omega
      have e2 : decide ((dg w).length = (dg u).length) = false := by apply decide_eq_false; omega
      rw [e1, e2] at h2; cases h2
theorem Uy {a b : Str} (ha : wm a = true) (hb : wm b = true) : av a b = aw a b := by
  unfold av aw
  rw [lX ha, lX hb]
  cases h1 : decide (zO a ≥ 0) <;> cases h2 : decide (zO b ≥ 0) <;> simp only [Bool.and_true, Bool.and_false, Bool.true_and, Bool.false_and, cond_true, cond_false]
  obtain ⟨u, e1, e2⟩ := nG (of_decide_eq_true h1)
  obtain ⟨w, e3, e4⟩ := nG (of_decide_eq_true h2)
  rw [e1, e3, e2, e4, oV, oV]
  exact Ux u w
def sL : List Str → List Str → Option Int
  | a :: l, b :: m => cond (av a b == 0) (sL l m) (some (av a b))
  | _, _ => none
theorem gj : ∀ {a b : List Str}, (∀ x ∈ a, wm x = true) → (∀ x ∈ b, wm x = true) → sL a b = rH a b
  | [], _, _, _ => by unfold sL rH; rfl
  | _ :: _, [], _, _ => rfl
  | x :: a, y :: b, ha, hb => by
    rw [sL, rH, Uy (ha x (by simp)) (hb y (by simp)), gj (fun z hz => ha z (by simp [hz])) (fun z hz => hb z (by simp [hz]))]
def pq (a b : Ver) : Int :=
  cond (x8 a.maj b.maj == 0) (cond (x8 a.min b.min == 0) (cond (x8 a.pat b.pat == 0)
    (cond ((a.pre == []) != (b.pre == [])) (x8 (b.pre.length : Int) (a.pre.length : Int)) ((sL a.pre b.pre).getD (x8 (a.pre.length : Int) (b.pre.length : Int))))
    (x8 a.pat b.pat)) (x8 a.min b.min)) (x8 a.maj b.maj)
theorem au {a b : Ver} (ha : yv a = true) (hb : yv b = true) : pq a b = rM a b := by
  have h1 := (w6 ha).2.2.2.1
  have h2 := (w6 hb).2.2.2.1
  rw [List.all_eq_true] at h1 h2
  have hs := gj h1 h2
  unfold pq rM VE
  rw [hs]
  congr 3
  cases hx : a.pre with
  | nil =>
    cases hy : b.pre with
    | nil => rfl
    | cons y l => rfl
  | cons x k =>
    cases hy : b.pre with
    | nil => rfl
    | cons y l => rfl
end Go.Proofs.YtmcephnfcciloaaGreatDoor
/- The tables of a graph, plain. Conditions: none. -/
namespace Go.Proofs.YtmcephnfcciloaaGreatDoor
open E
set_option linter.unusedVariables false
set_option linter.unusedSimpArgs false
set_option maxRecDepth 100000
end Go.Proofs.YtmcephnfcciloaaGreatDoor
/- What is in a range, what notices tell: plain; both ways come to the same. Conditions: none. -/
namespace Go.Proofs.YtmcephnfcciloaaGreatDoor
open E
set_option linter.unusedVariables false
set_option linter.unusedSimpArgs false
set_option maxRecDepth 100000
theorem ea : ∀ a b : Str, Lib.compareBytes a b = nN a b
  | [], [] => rfl
  | [], _ :: _ => rfl
  | _ :: _, [] => by simp [Lib.compareBytes, nN, Op.bytesLess]
  | a :: x, b :: y => by
    have ih := ea x y
    unfold nN at ih ⊢
    rw [Lib.compareBytes, vH, show ((a :: x) == (b :: y)) = (a == b && x == y) from rfl]
    by_cases h1 : a < b
    · rw [if_pos h1]; simp [h1]
    · rw [if_neg h1]
      by_cases h2 : b < a
      · have h3 : (a == b) = false := by
          rw [beq_eq_false_iff_ne]; intro h; subst h; exact h1 h2
        rw [if_pos h2]; simp [h1, h3]
      · have h3 : a = b := by
          apply UInt8.toNat_inj.1; simp only [UInt8.lt_iff_toNat_lt] at h1 h2; omega
        subst h3
        rw [if_neg h2, ih]
        simp only [decide_false, h1, Bool.false_or, beq_self_eq_true, Bool.true_and]
def aJ (v l : Ver) : Bool := !(l.pre == []) && (l.maj == v.maj && (l.min == v.min && l.pat == v.pat))
def vL (v : Ver) (b : Bd) : Bool :=
  cond (((zA b.1).2 && decide (rM v (zA b.1).1 < 0)) || ((zA b.2).2 && decide (rM v (zA b.2).1 ≥ 0))) false
    (v.pre == [] || ((zA b.1).2 && aJ v (zA b.1).1))
def pr (v : Ver) (b : Bd) : Bool :=
  cond ((!(b.1 == []) && decide (pq v (zA b.1).1 < 0)) || (!(b.2 == []) && decide (pq v (zA b.2).1 ≥ 0))) false
    (v.pre == [] || aJ v (zA b.1).1)
theorem fh {s : Str} (h : isE s = true) : (!(s == [])) = (zA s).2 := by
  unfold isE at h
  cases hs : (s == []) with
  | false =>
    rw [hs, Bool.or_false] at h
    unfold isV at h
    rw [h]; rfl
  | true =>
    have : s = [] := by simpa using hs
    subst this
    cases hr : (zA []).2 with
    | false => rfl
    | true => exact absurd rfl (yu hr).2.2.2
theorem eK {v : Ver} (hv : yv v = true) {b : Bd} (h1 : isE b.1 = true) (h2 : isE b.2 = true) : pr v b = vL v b := by
  unfold pr vL
  rw [fh h1, fh h2]
  have e1 : ((zA b.1).2 && decide (pq v (zA b.1).1 < 0)) = ((zA b.1).2 && decide (rM v (zA b.1).1 < 0)) := by
    cases hr : (zA b.1).2 with
    | false => rfl
    | true => rw [au hv (yu hr).2.2.1]
  have e2 : ((zA b.2).2 && decide (pq v (zA b.2).1 ≥ 0)) = ((zA b.2).2 && decide (rM v (zA b.2).1 ≥ 0)) := by
    cases hr : (zA b.2).2 with
    | false => rfl
    | true => rw [au hv (yu hr).2.2.1]
  have e3 : aJ v (zA b.1).1 = ((zA b.1).2 && aJ v (zA b.1).1) := by
    cases hr : (zA b.1).2 with
    | false => rw [mX hr]; rfl
    | true => rfl
  rw [e1, e2, ← e3]
/-- is a version in a range? -/
def inB (s : Str) (l : List Bd) : Bool := (zA s).2 && (xk l && l.any (vL (zA s).1))
theorem er {v : Ver} (hv : yv v = true) : ∀ (l : List Bd), (l.all fun b => isE b.1 && isE b.2) = true → l.any (pr v) = l.any (vL v)
  | [], _ => rfl
  | b :: l, h => by
    simp only [List.all_cons, Bool.and_eq_true] at h
    rw [List.any_cons, List.any_cons, eK hv h.1.1 h.1.2, er hv l h.2]
def qW (x : zt) : Bool := (wq x.range).isSome && (vj x.name && (wz x.text && !(x.text == [])))
def afT (n : zt) (name ver : Str) : Bool := qW n && (n.name == name && inB ver ((wq n.range).getD []))
/-- what notices tell of a graph -/
def x7 (ns : List zt) (ps : List zL) : List Str := ps.flatMap fun p => (ns.filter fun n => afT n p.name p.version).map fun n => (keyOf p ++ [32]) ++ n.text
end Go.Proofs.YtmcephnfcciloaaGreatDoor
/- Versions compared by the implementation; what is in a range, by both; what a notice tells of. Conditions: those of each lemma. -/
namespace Go.Proofs.YtmcephnfcciloaaGreatDoor
open E
set_option linter.unusedSimpArgs false
set_option linter.unusedVariables false
set_option maxRecDepth 100000
theorem vz (a b : Int) : zE (EV Tryz.prog pol) 166 [.t (.int .i64 a), .t (.int .i64 b)] = some (.t (.int .i64 (x8 a b))) := by
  unfold x8
  cases h1 : decide (a < b) <;> cases h2 : decide (a > b)
  all_goals
    apply zu
    refine zw rfl Tryz.func166 rfl (by kernel_rfl) ?_
    unfold Tryz.f166
    simp (disch := ((try simp only [LL]); omega)) only [↓GO, ↓DRW, GA, ren, zB, zd, refs, zb, cst, zl, zH, z7, E.load, E.store, zG, isC, bin, zI, zJ, una, z8, za, zh, zK, blt, fnV, asArg, ze, zn, zo, zj, zi, zg, zk, zr, z6, zD, zF, mkS, zc, unN, zM, zm, zy, zC, zf, zN, zq, GS, Int.reduceToNat, Nat.reduceGT, ↓reduceIte, Nat.reduceAdd, Nat.reduceMul, Nat.reduceSub, Nat.reduceEqDiff, Nat.reduceLeDiff, Nat.reduceLT, Nat.reduceBEq, Int.reduceBEq, Int.reduceBNe, Int.reduceEq, Int.reduceLT, Int.reduceLE, Int.reduceGT, Int.reduceNeg, reduceCtorEq, GZ, h1, h2]
theorem bE : ∀ s : Str, s.length ≤ 4194304 → EV Tryz.prog pol (.loop 208 12 0 [.t (.str s), .t (.int .u8 48)] []) = some (.loop (.exit 0) [.t (.str (wb s))] [])
  | [], _ => by
    refine zz Tryz.func208 rfl rfl ?_
    simp (disch := ((try simp only [LL]); omega)) only [↓GO, ↓DRW, GA, ren, zB, zd, refs, zb, cst, zl, zH, z7, E.load, E.store, zG, isC, bin, zI, zJ, una, z8, za, zh, zK, blt, fnV, asArg, ze, zn, zo, zj, zi, zg, zk, zr, z6, zD, zF, mkS, zc, unN, zM, zm, zy, zC, zf, zN, zq, GS, Int.reduceToNat, Nat.reduceGT, ↓reduceIte, Nat.reduceAdd, Nat.reduceMul, Nat.reduceSub, Nat.reduceEqDiff, Nat.reduceLeDiff, Nat.reduceLT, Nat.reduceBEq, Int.reduceBEq, Int.reduceBNe, Int.reduceEq, Int.reduceLT, Int.reduceLE, Int.reduceGT, Int.reduceNeg, reduceCtorEq, GZ, List.length_nil, Int.natCast_zero]
    rfl
  | b :: s, h => by
    have c : decide (((s.length + 1 : Nat) : Int) > 0) = true := by apply decide_eq_true; omega
    have hb : ((b.toNat : Int) == 48) = (b == 48) := by
      rw [Bool.eq_iff_iff]
      simp only [beq_iff_eq]
      constructor
      · intro h; apply UInt8.toNat_inj.1; have : (48 : UInt8).toNat = 48 := rfl; omega
      · intro h; subst h; rfl
    have hcut : (1 : Int) ≤ ((s.length + 1 : Nat) : Int) := by omega
    cases hz : (b == 48) with
    | false =>
      rw [hz] at hb
      have e : wb (b :: s) = b :: s := by unfold wb; simp [List.dropWhile, hz]
      rw [e]
      refine zz Tryz.func208 rfl rfl ?_
      simp (disch := ((try simp only [LL]); omega)) only [↓GO, ↓DRW, GA, ren, zB, zd, refs, zb, cst, zl, zH, z7, E.load, E.store, zG, isC, bin, zI, zJ, una, z8, za, zh, zK, blt, fnV, asArg, ze, zn, zo, zj, zi, zg, zk, zr, z6, zD, zF, mkS, zc, unN, zM, zm, zy, zC, zf, zN, zq, GS, Int.reduceToNat, Nat.reduceGT, ↓reduceIte, Nat.reduceAdd, Nat.reduceMul, Nat.reduceSub, Nat.reduceEqDiff, Nat.reduceLeDiff, Nat.reduceLT, Nat.reduceBEq, Int.reduceBEq, Int.reduceBNe, Int.reduceEq, Int.reduceLT, Int.reduceLE, Int.reduceGT, Int.reduceNeg, reduceCtorEq, GZ, c, hb, hcut]
    | true =>
      rw [hz] at hb
      have IH := bE s (by simp only [List.length_cons] at h; omega)
      have e : wb (b :: s) = wb s := by unfold wb; simp [List.dropWhile, hz]
      rw [e]
      refine zz Tryz.func208 rfl rfl ?_
      simp (disch := ((try simp only [LL]); omega)) only [↓GO, ↓DRW, GA, ren, zB, zd, refs, zb, cst, zl, zH, z7, E.load, E.store, zG, isC, bin, zI, zJ, una, z8, za, zh, zK, blt, fnV, asArg, ze, zn, zo, zj, zi, zg, zk, zr, z6, zD, zF, mkS, zc, unN, zM, zm, zy, zC, zf, zN, zq, GS, Int.reduceToNat, Nat.reduceGT, ↓reduceIte, Nat.reduceAdd, Nat.reduceMul, Nat.reduceSub, Nat.reduceEqDiff, Nat.reduceLeDiff, Nat.reduceLT, Nat.reduceBEq, Int.reduceBEq, Int.reduceBNe, Int.reduceEq, Int.reduceLT, Int.reduceLE, Int.reduceGT, Int.reduceNeg, reduceCtorEq, GZ, c, hb, hcut, IH]
theorem ax (s : Str) (h : s.length ≤ 4194304) : zE (EV Tryz.prog pol) 190 [.t (.str s), .t (.str [48])] = some (.t (.str (wb s))) := by
  have L := bE s h
  have d : zE (EV Tryz.prog pol) 208 [.t (.str s), .t (.int .u8 48)] = some (.t (.str (wb s))) := by
    apply zu
    refine zw rfl Tryz.func208 rfl (by kernel_rfl) ?_
    unfold Tryz.f208
    simp (disch := ((try simp only [LL]); omega)) only [↓GO, ↓DRW, GA, ren, zB, zd, refs, zb, cst, zl, zH, z7, E.load, E.store, zG, isC, bin, zI, zJ, una, z8, za, zh, zK, blt, fnV, asArg, ze, zn, zo, zj, zi, zg, zk, zr, z6, zD, zF, mkS, zc, unN, zM, zm, zy, zC, zf, zN, zq, GS, Int.reduceToNat, Nat.reduceGT, ↓reduceIte, Nat.reduceAdd, Nat.reduceMul, Nat.reduceSub, Nat.reduceEqDiff, Nat.reduceLeDiff, Nat.reduceLT, Nat.reduceBEq, Int.reduceBEq, Int.reduceBNe, Int.reduceEq, Int.reduceLT, Int.reduceLE, Int.reduceGT, Int.reduceNeg, reduceCtorEq, GZ, L]
  cases hs : (s == []) with
  | true =>
    have : s = [] := by simpa using hs
    subst this
    apply zu
    refine zw rfl Tryz.func190 rfl (by kernel_rfl) ?_
    unfold Tryz.f190
    simp (disch := ((try simp only [LL]); omega)) only [↓GO, ↓DRW, GA, ren, zB, zd, refs, zb, cst, zl, zH, z7, E.load, E.store, zG, isC, bin, zI, zJ, una, z8, za, zh, zK, blt, fnV, asArg, ze, zn, zo, zj, zi, zg, zk, zr, z6, zD, zF, mkS, zc, unN, zM, zm, zy, zC, zf, zN, zq, GS, Int.reduceToNat, Nat.reduceGT, ↓reduceIte, Nat.reduceAdd, Nat.reduceMul, Nat.reduceSub, Nat.reduceEqDiff, Nat.reduceLeDiff, Nat.reduceLT, Nat.reduceBEq, Int.reduceBEq, Int.reduceBNe, Int.reduceEq, Int.reduceLT, Int.reduceLE, Int.reduceGT, Int.reduceNeg, reduceCtorEq, GZ, hs]
    rfl
  | false =>
    have h48 : (([48] : Str) == []) = false := rfl
    have h49 : ((UInt8.toNat 48 : Nat) : Int) = 48 := rfl
    have h50 : decide ((48 : Int) < 128) = true := rfl
    apply zu
    refine zw rfl Tryz.func190 rfl (by kernel_rfl) ?_
    unfold Tryz.f190
    simp (disch := ((try simp only [LL]); omega)) only [↓GO, ↓DRW, GA, ren, zB, zd, refs, zb, cst, zl, zH, z7, E.load, E.store, zG, isC, bin, zI, zJ, una, z8, za, zh, zK, blt, fnV, asArg, ze, zn, zo, zj, zi, zg, zk, zr, z6, zD, zF, mkS, zc, unN, zM, zm, zy, zC, zf, zN, zq, GS, Int.reduceToNat, Nat.reduceGT, ↓reduceIte, Nat.reduceAdd, Nat.reduceMul, Nat.reduceSub, Nat.reduceEqDiff, Nat.reduceLeDiff, Nat.reduceLT, Nat.reduceBEq, Int.reduceBEq, Int.reduceBNe, Int.reduceEq, Int.reduceLT, Int.reduceLE, Int.reduceGT, Int.reduceNeg, reduceCtorEq, GZ, hs, h48, h49, h50, d, List.length_cons, List.length_nil]
theorem XA (a b : Str) (ha : a.length ≤ 4194304) (hb : b.length ≤ 4194304) : zE (EV Tryz.prog pol) 167 [.t (.str a), .t (.str b)] = some (.t (.int .i64 (av a b))) := by
  have d1 := jB a (by omega)
  have d2 := jB b (by omega)
  have d3 := ax a ha
  have d4 := ax b hb
  have d5 := vz ((wb a).length : Int) ((wb b).length : Int)
  have d6 := Vo a b
  have d7 := Vo (wb a) (wb b)
  rw [ea] at d6 d7
  unfold av
  generalize wb a = ta at *
  generalize wb b = tb at *
  generalize x8 (ta.length : Int) (tb.length : Int) = n at *
  cases h1 : isNum a <;> cases h2 : isNum b <;> rw [h1] at d1 <;> rw [h2] at d2 <;> simp only [Bool.and_true, Bool.and_false, cond_true, cond_false]
  · apply zu
    refine zw rfl Tryz.func167 rfl (by kernel_rfl) ?_
    unfold Tryz.f167
    simp (disch := ((try simp only [LL]); omega)) only [↓GO, ↓DRW, GA, ren, zB, zd, refs, zb, cst, zl, zH, z7, E.load, E.store, zG, isC, bin, zI, zJ, una, z8, za, zh, zK, blt, fnV, asArg, ze, zn, zo, zj, zi, zg, zk, zr, z6, zD, zF, mkS, zc, unN, zM, zm, zy, zC, zf, zN, zq, GS, Int.reduceToNat, Nat.reduceGT, ↓reduceIte, Nat.reduceAdd, Nat.reduceMul, Nat.reduceSub, Nat.reduceEqDiff, Nat.reduceLeDiff, Nat.reduceLT, Nat.reduceBEq, Int.reduceBEq, Int.reduceBNe, Int.reduceEq, Int.reduceLT, Int.reduceLE, Int.reduceGT, Int.reduceNeg, reduceCtorEq, GZ, d1, d2, d6]
  · apply zu
    refine zw rfl Tryz.func167 rfl (by kernel_rfl) ?_
    unfold Tryz.f167
    simp (disch := ((try simp only [LL]); omega)) only [↓GO, ↓DRW, GA, ren, zB, zd, refs, zb, cst, zl, zH, z7, E.load, E.store, zG, isC, bin, zI, zJ, una, z8, za, zh, zK, blt, fnV, asArg, ze, zn, zo, zj, zi, zg, zk, zr, z6, zD, zF, mkS, zc, unN, zM, zm, zy, zC, zf, zN, zq, GS, Int.reduceToNat, Nat.reduceGT, ↓reduceIte, Nat.reduceAdd, Nat.reduceMul, Nat.reduceSub, Nat.reduceEqDiff, Nat.reduceLeDiff, Nat.reduceLT, Nat.reduceBEq, Int.reduceBEq, Int.reduceBNe, Int.reduceEq, Int.reduceLT, Int.reduceLE, Int.reduceGT, Int.reduceNeg, reduceCtorEq, GZ, d1, d2, d6]
  · apply zu
    refine zw rfl Tryz.func167 rfl (by kernel_rfl) ?_
    unfold Tryz.f167
    simp (disch := ((try simp only [LL]); omega)) only [↓GO, ↓DRW, GA, ren, zB, zd, refs, zb, cst, zl, zH, z7, E.load, E.store, zG, isC, bin, zI, zJ, una, z8, za, zh, zK, blt, fnV, asArg, ze, zn, zo, zj, zi, zg, zk, zr, z6, zD, zF, mkS, zc, unN, zM, zm, zy, zC, zf, zN, zq, GS, Int.reduceToNat, Nat.reduceGT, ↓reduceIte, Nat.reduceAdd, Nat.reduceMul, Nat.reduceSub, Nat.reduceEqDiff, Nat.reduceLeDiff, Nat.reduceLT, Nat.reduceBEq, Int.reduceBEq, Int.reduceBNe, Int.reduceEq, Int.reduceLT, Int.reduceLE, Int.reduceGT, Int.reduceNeg, reduceCtorEq, GZ, d1, d2, d6]
  · cases hn : (n == 0)
    all_goals
      simp only [cond_true, cond_false]
      apply zu
      refine zw rfl Tryz.func167 rfl (by kernel_rfl) ?_
      unfold Tryz.f167
      simp (disch := ((try simp only [LL]); omega)) only [↓GO, ↓DRW, GA, ren, zB, zd, refs, zb, cst, zl, zH, z7, E.load, E.store, zG, isC, bin, zI, zJ, una, z8, za, zh, zK, blt, fnV, asArg, ze, zn, zo, zj, zi, zg, zk, zr, z6, zD, zF, mkS, zc, unN, zM, zm, zy, zC, zf, zN, zq, GS, Int.reduceToNat, Nat.reduceGT, ↓reduceIte, Nat.reduceAdd, Nat.reduceMul, Nat.reduceSub, Nat.reduceEqDiff, Nat.reduceLeDiff, Nat.reduceLT, Nat.reduceBEq, Int.reduceBEq, Int.reduceBNe, Int.reduceEq, Int.reduceLT, Int.reduceLE, Int.reduceGT, Int.reduceNeg, reduceCtorEq, GZ, d1, d2, d3, d4, d5, d7, hn, bne]
theorem Uj (x1 x2 x3 x4 y1 y2 y3 y4 : T) (a b c : Int) :
    EV Tryz.prog pol (.loop 137 26 0 [.ptr 0 0 0, .ptr 1 0 0, .sl 2 0 3 (some 3), .t (.int .i64 3), .t (.int .i64 0)] [.vs 4 [[.t x1, .t x2, .t x3, .t x4]], .vs 4 [[.t y1, .t y2, .t y3, .t y4]], .ts 1 [[.int .i64 a], [.int .i64 b], [.int .i64 c]]])
    = some (cond (a == 0) (cond (b == 0) (cond (c == 0) (.loop (.exit 0) [.ptr 0 0 0, .ptr 1 0 0, .bad] [.vs 4 [[.t x1, .t x2, .t x3, .t x4]], .vs 4 [[.t y1, .t y2, .t y3, .t y4]]])
      (.loop .ret [.ptr 0 0 0, .ptr 1 0 0, .t (.int .i64 c)] [.vs 4 [[.t x1, .t x2, .t x3, .t x4]], .vs 4 [[.t y1, .t y2, .t y3, .t y4]]]))
      (.loop .ret [.ptr 0 0 0, .ptr 1 0 0, .t (.int .i64 b)] [.vs 4 [[.t x1, .t x2, .t x3, .t x4]], .vs 4 [[.t y1, .t y2, .t y3, .t y4]]]))
      (.loop .ret [.ptr 0 0 0, .ptr 1 0 0, .t (.int .i64 a)] [.vs 4 [[.t x1, .t x2, .t x3, .t x4]], .vs 4 [[.t y1, .t y2, .t y3, .t y4]]])) := by
  cases h1 : (a == 0)
  · refine zz Tryz.func137 rfl rfl ?_
    simp (disch := ((try simp only [LL]); omega)) only [↓GO, ↓DRW, GA, ren, zB, zd, refs, zb, cst, zl, zH, z7, E.load, E.store, zG, isC, bin, zI, zJ, una, z8, za, zh, zK, blt, fnV, asArg, ze, zn, zo, zj, zi, zg, zk, zr, z6, zD, zF, mkS, zc, unN, zM, zm, zy, zC, zf, zN, zq, GS, Int.reduceToNat, Nat.reduceGT, ↓reduceIte, Nat.reduceAdd, Nat.reduceMul, Nat.reduceSub, Nat.reduceEqDiff, Nat.reduceLeDiff, Nat.reduceLT, Nat.reduceBEq, Int.reduceBEq, Int.reduceBNe, Int.reduceEq, Int.reduceLT, Int.reduceLE, Int.reduceGT, Int.reduceNeg, reduceCtorEq, GZ, h1, bne, zx, zY]
  · refine zz Tryz.func137 rfl rfl ?_
    simp (disch := ((try simp only [LL]); omega)) only [↓GO, ↓DRW, GA, ren, zB, zd, refs, zb, cst, zl, zH, z7, E.load, E.store, zG, isC, bin, zI, zJ, una, z8, za, zh, zK, blt, fnV, asArg, ze, zn, zo, zj, zi, zg, zk, zr, z6, zD, zF, mkS, zc, unN, zM, zm, zy, zC, zf, zN, zq, GS, Int.reduceToNat, Nat.reduceGT, ↓reduceIte, Nat.reduceAdd, Nat.reduceMul, Nat.reduceSub, Nat.reduceEqDiff, Nat.reduceLeDiff, Nat.reduceLT, Nat.reduceBEq, Int.reduceBEq, Int.reduceBNe, Int.reduceEq, Int.reduceLT, Int.reduceLE, Int.reduceGT, Int.reduceNeg, reduceCtorEq, GZ, h1, bne, zx, zY, Int.zero_add]
    cases h2 : (b == 0)
    · refine zz Tryz.func137 rfl rfl ?_
      simp (disch := ((try simp only [LL]); omega)) only [↓GO, ↓DRW, GA, ren, zB, zd, refs, zb, cst, zl, zH, z7, E.load, E.store, zG, isC, bin, zI, zJ, una, z8, za, zh, zK, blt, fnV, asArg, ze, zn, zo, zj, zi, zg, zk, zr, z6, zD, zF, mkS, zc, unN, zM, zm, zy, zC, zf, zN, zq, GS, Int.reduceToNat, Nat.reduceGT, ↓reduceIte, Nat.reduceAdd, Nat.reduceMul, Nat.reduceSub, Nat.reduceEqDiff, Nat.reduceLeDiff, Nat.reduceLT, Nat.reduceBEq, Int.reduceBEq, Int.reduceBNe, Int.reduceEq, Int.reduceLT, Int.reduceLE, Int.reduceGT, Int.reduceNeg, reduceCtorEq, GZ, h2, bne, zx, zY]
    · refine zz Tryz.func137 rfl rfl ?_
      simp (disch := ((try simp only [LL]); omega)) only [↓GO, ↓DRW, GA, ren, zB, zd, refs, zb, cst, zl, zH, z7, E.load, E.store, zG, isC, bin, zI, zJ, una, z8, za, zh, zK, blt, fnV, asArg, ze, zn, zo, zj, zi, zg, zk, zr, z6, zD, zF, mkS, zc, unN, zM, zm, zy, zC, zf, zN, zq, GS, Int.reduceToNat, Nat.reduceGT, ↓reduceIte, Nat.reduceAdd, Nat.reduceMul, Nat.reduceSub, Nat.reduceEqDiff, Nat.reduceLeDiff, Nat.reduceLT, Nat.reduceBEq, Int.reduceBEq, Int.reduceBNe, Int.reduceEq, Int.reduceLT, Int.reduceLE, Int.reduceGT, Int.reduceNeg, reduceCtorEq, GZ, h2, bne, zx, zY, Int.reduceAdd]
      cases h3 : (c == 0)
      · refine zz Tryz.func137 rfl rfl ?_
        simp (disch := ((try simp only [LL]); omega)) only [↓GO, ↓DRW, GA, ren, zB, zd, refs, zb, cst, zl, zH, z7, E.load, E.store, zG, isC, bin, zI, zJ, una, z8, za, zh, zK, blt, fnV, asArg, ze, zn, zo, zj, zi, zg, zk, zr, z6, zD, zF, mkS, zc, unN, zM, zm, zy, zC, zf, zN, zq, GS, Int.reduceToNat, Nat.reduceGT, ↓reduceIte, Nat.reduceAdd, Nat.reduceMul, Nat.reduceSub, Nat.reduceEqDiff, Nat.reduceLeDiff, Nat.reduceLT, Nat.reduceBEq, Int.reduceBEq, Int.reduceBNe, Int.reduceEq, Int.reduceLT, Int.reduceLE, Int.reduceGT, Int.reduceNeg, reduceCtorEq, GZ, h3, bne, zx, zY]
      · refine zz Tryz.func137 rfl rfl ?_
        simp (disch := ((try simp only [LL]); omega)) only [↓GO, ↓DRW, GA, ren, zB, zd, refs, zb, cst, zl, zH, z7, E.load, E.store, zG, isC, bin, zI, zJ, una, z8, za, zh, zK, blt, fnV, asArg, ze, zn, zo, zj, zi, zg, zk, zr, z6, zD, zF, mkS, zc, unN, zM, zm, zy, zC, zf, zN, zq, GS, Int.reduceToNat, Nat.reduceGT, ↓reduceIte, Nat.reduceAdd, Nat.reduceMul, Nat.reduceSub, Nat.reduceEqDiff, Nat.reduceLeDiff, Nat.reduceLT, Nat.reduceBEq, Int.reduceBEq, Int.reduceBNe, Int.reduceEq, Int.reduceLT, Int.reduceLE, Int.reduceGT, Int.reduceNeg, reduceCtorEq, GZ, h3, bne, zx, zY, Int.reduceAdd]
        refine zz Tryz.func137 rfl rfl ?_
        simp (disch := ((try simp only [LL]); omega)) only [↓GO, ↓DRW, GA, ren, zB, zd, refs, zb, cst, zl, zH, z7, E.load, E.store, zG, isC, bin, zI, zJ, una, z8, za, zh, zK, blt, fnV, asArg, ze, zn, zo, zj, zi, zg, zk, zr, z6, zD, zF, mkS, zc, unN, zM, zm, zy, zC, zf, zN, zq, GS, Int.reduceToNat, Nat.reduceGT, ↓reduceIte, Nat.reduceAdd, Nat.reduceMul, Nat.reduceSub, Nat.reduceEqDiff, Nat.reduceLeDiff, Nat.reduceLT, Nat.reduceBEq, Int.reduceBEq, Int.reduceBNe, Int.reduceEq, Int.reduceLT, Int.reduceLE, Int.reduceGT, Int.reduceNeg, reduceCtorEq, GZ, zx, zY]
theorem bP (a b : Ver) (ha : a.sm) (hb : b.sm) (M : Nat) (hM : M = min a.pre.length b.pre.length) : ∀ (ra rb pa pb : List Str), a.pre = pa ++ ra → b.pre = pb ++ rb → pa.length = pb.length →
    EV Tryz.prog pol (.loop 137 122 0 [.ptr 0 0 0, .ptr 1 0 0, .t (.int .i64 (M : Int)), .t (.int .i64 (pa.length : Int))] [.vs 4 [a.enc.map .t], .vs 4 [b.enc.map .t]])
    = some (match sL ra rb with
      | some n => .loop .ret [.ptr 0 0 0, .ptr 1 0 0, .t (.int .i64 n)] [.vs 4 [a.enc.map .t], .vs 4 [b.enc.map .t]]
      | none => .loop (.exit 2) [.ptr 0 0 0, .ptr 1 0 0, .bad] [.vs 4 [a.enc.map .t], .vs 4 [b.enc.map .t]])
  | [], rb, pa, pb, h1, h2, h3 => by
    have l1 : a.pre.length = pa.length := by rw [h1]; simp
    have c : decide ((pa.length : Int) < (M : Int)) = false := by apply decide_eq_false; omega
    have e : sL [] rb = none := by unfold sL; rfl
    rw [e]
    simp only [Ver.enc, List.map_cons, List.map_nil]
    refine zz Tryz.func137 rfl rfl ?_
    simp (disch := ((try simp only [LL]); omega)) only [↓GO, ↓DRW, GA, ren, zB, zd, refs, zb, cst, zl, zH, z7, E.load, E.store, zG, isC, bin, zI, zJ, una, z8, za, zh, zK, blt, fnV, asArg, ze, zn, zo, zj, zi, zg, zk, zr, z6, zD, zF, mkS, zc, unN, zM, zm, zy, zC, zf, zN, zq, GS, Int.reduceToNat, Nat.reduceGT, ↓reduceIte, Nat.reduceAdd, Nat.reduceMul, Nat.reduceSub, Nat.reduceEqDiff, Nat.reduceLeDiff, Nat.reduceLT, Nat.reduceBEq, Int.reduceBEq, Int.reduceBNe, Int.reduceEq, Int.reduceLT, Int.reduceLE, Int.reduceGT, Int.reduceNeg, reduceCtorEq, GZ, zP, c, zY]
  | x :: ra, [], pa, pb, h1, h2, h3 => by
    have l2 : b.pre.length = pb.length := by rw [h2]; simp
    have c : decide ((pa.length : Int) < (M : Int)) = false := by apply decide_eq_false; omega
    rw [show sL (x :: ra) [] = none from rfl]
    simp only [Ver.enc, List.map_cons, List.map_nil]
    refine zz Tryz.func137 rfl rfl ?_
    simp (disch := ((try simp only [LL]); omega)) only [↓GO, ↓DRW, GA, ren, zB, zd, refs, zb, cst, zl, zH, z7, E.load, E.store, zG, isC, bin, zI, zJ, una, z8, za, zh, zK, blt, fnV, asArg, ze, zn, zo, zj, zi, zg, zk, zr, z6, zD, zF, mkS, zc, unN, zM, zm, zy, zC, zf, zN, zq, GS, Int.reduceToNat, Nat.reduceGT, ↓reduceIte, Nat.reduceAdd, Nat.reduceMul, Nat.reduceSub, Nat.reduceEqDiff, Nat.reduceLeDiff, Nat.reduceLT, Nat.reduceBEq, Int.reduceBEq, Int.reduceBNe, Int.reduceEq, Int.reduceLT, Int.reduceLE, Int.reduceGT, Int.reduceNeg, reduceCtorEq, GZ, zP, c, zY]
  | x :: ra, y :: rb, pa, pb, h1, h2, h3 => by
    unfold Ver.sm at ha hb
    have l1 : pa.length + ra.length + 1 = a.pre.length := by rw [h1]; simp; omega
    have l2 : pb.length + rb.length + 1 = b.pre.length := by rw [h2]; simp; omega
    have c : decide ((pa.length : Int) < (M : Int)) = true := by apply decide_eq_true; omega
    have hg1 : (y6 a.pre)[pa.length]? = some [.str x] := by rw [h1]; exact xU pa x ra
    have hg2 : (y6 b.pre)[pa.length]? = some [.str y] := by rw [h2, h3]; exact xU pb y rb
    have hx : x.length ≤ 2097152 := by have := xX (ks := a.pre) (s := x) (by rw [h1]; simp); omega
    have hy : y.length ≤ 2097152 := by have := xX (ks := b.pre) (s := y) (by rw [h2]; simp); omega
    have hp := XA x y (by omega) (by omega)
    have IH := bP a b ha hb M hM ra rb (pa ++ [x]) (pb ++ [y]) (by rw [h1]; simp) (by rw [h2]; simp) (by simp [h3])
    rw [show ((pa ++ [x]).length : Int) = (pa.length : Int) + 1 by simp] at IH
    clear h1 h2
    simp only [Ver.enc, List.map_cons, List.map_nil] at IH ⊢
    rw [sL]
    generalize av x y = n at *
    cases hn : (n == 0)
    · simp only [cond_false]
      refine zz Tryz.func137 rfl rfl ?_
      simp (disch := ((try simp only [LL]); omega)) only [↓GO, ↓DRW, GA, ren, zB, zd, refs, zb, cst, zl, zH, z7, E.load, E.store, zG, isC, bin, zI, zJ, una, z8, za, zh, zK, blt, fnV, asArg, ze, zn, zo, zj, zi, zg, zk, zr, z6, zD, zF, mkS, zc, unN, zM, zm, zy, zC, zf, zN, zq, GS, Int.reduceToNat, Nat.reduceGT, ↓reduceIte, Nat.reduceAdd, Nat.reduceMul, Nat.reduceSub, Nat.reduceEqDiff, Nat.reduceLeDiff, Nat.reduceLT, Nat.reduceBEq, Int.reduceBEq, Int.reduceBNe, Int.reduceEq, Int.reduceLT, Int.reduceLE, Int.reduceGT, Int.reduceNeg, reduceCtorEq, GZ, zP, c, hg1, hg2, hp, hn, bne, zx, zY]
    · simp only [cond_true]
      refine zz Tryz.func137 rfl rfl ?_
      simp (disch := ((try simp only [LL]); omega)) only [↓GO, ↓DRW, GA, ren, zB, zd, refs, zb, cst, zl, zH, z7, E.load, E.store, zG, isC, bin, zI, zJ, una, z8, za, zh, zK, blt, fnV, asArg, ze, zn, zo, zj, zi, zg, zk, zr, z6, zD, zF, mkS, zc, unN, zM, zm, zy, zC, zf, zN, zq, GS, Int.reduceToNat, Nat.reduceGT, ↓reduceIte, Nat.reduceAdd, Nat.reduceMul, Nat.reduceSub, Nat.reduceEqDiff, Nat.reduceLeDiff, Nat.reduceLT, Nat.reduceBEq, Int.reduceBEq, Int.reduceBNe, Int.reduceEq, Int.reduceLT, Int.reduceLE, Int.reduceGT, Int.reduceNeg, reduceCtorEq, GZ, zP, c, hg1, hg2, hp, hn, bne, zx, zY, IH]
theorem US (a b : Ver) (ha : a.sm) (hb : b.sm) : zE (EV Tryz.prog pol) 137 [.agg (a.enc.map .t), .agg (b.enc.map .t)] = some (.t (.int .i64 (pq a b))) := by
  have d1 := vz a.maj b.maj
  have d2 := vz a.min b.min
  have d3 := vz a.pat b.pat
  have d4 := vz (b.pre.length : Int) (a.pre.length : Int)
  have d5 := vz (a.pre.length : Int) (b.pre.length : Int)
  obtain ⟨M, hM⟩ : ∃ M, M = min a.pre.length b.pre.length := ⟨_, rfl⟩
  have L2 := bP a b ha hb M hM a.pre b.pre [] [] rfl rfl rfl
  have L1 := Uj (.int .i64 a.maj) (.int .i64 a.min) (.int .i64 a.pat) (.list 1 (y6 a.pre)) (.int .i64 b.maj) (.int .i64 b.min) (.int .i64 b.pat) (.list 1 (y6 b.pre)) (x8 a.maj b.maj) (x8 a.min b.min) (x8 a.pat b.pat)
  have e1 := u0 a.pre
  have e2 := u0 b.pre
  have hm : (if (b.pre.length : Int) < (a.pre.length : Int) then (b.pre.length : Int) else (a.pre.length : Int)) = (M : Int) := by split <;> omega
  clear hM
  unfold pq
  simp only [List.length_nil, Int.natCast_zero] at L2
  simp only [Ver.enc, List.map_cons, List.map_nil] at L1 L2 ⊢
  generalize x8 a.maj b.maj = n1 at *
  generalize x8 a.min b.min = n2 at *
  generalize x8 a.pat b.pat = n3 at *
  cases h1 : (n1 == 0) <;> rw [h1] at L1
  · simp only [cond_false] at L1
    apply zu
    refine zw rfl Tryz.func137 rfl (by kernel_rfl) ?_
    unfold Tryz.f137
    simp (disch := ((try simp only [LL]); omega)) only [↓GO, ↓DRW, GA, ren, zB, zd, refs, zb, cst, zl, zH, z7, E.load, E.store, zG, isC, bin, zI, zJ, una, z8, za, zh, zK, blt, fnV, asArg, ze, zn, zo, zj, zi, zg, zk, zr, z6, zD, zF, mkS, zc, unN, zM, zm, zy, zC, zf, zN, zq, GS, Int.reduceToNat, Nat.reduceGT, ↓reduceIte, Nat.reduceAdd, Nat.reduceMul, Nat.reduceSub, Nat.reduceEqDiff, Nat.reduceLeDiff, Nat.reduceLT, Nat.reduceBEq, Int.reduceBEq, Int.reduceBNe, Int.reduceEq, Int.reduceLT, Int.reduceLE, Int.reduceGT, Int.reduceNeg, reduceCtorEq, GZ, d1, d2, d3, L1, zY]
    refine yT (by kernel_rfl) ?_
    simp (disch := ((try simp only [LL]); omega)) only [↓GO, ↓DRW, GA, ren, zB, zd, refs, zb, cst, zl, zH, z7, E.load, E.store, zG, isC, bin, zI, zJ, una, z8, za, zh, zK, blt, fnV, asArg, ze, zn, zo, zj, zi, zg, zk, zr, z6, zD, zF, mkS, zc, unN, zM, zm, zy, zC, zf, zN, zq, GS, Int.reduceToNat, Nat.reduceGT, ↓reduceIte, Nat.reduceAdd, Nat.reduceMul, Nat.reduceSub, Nat.reduceEqDiff, Nat.reduceLeDiff, Nat.reduceLT, Nat.reduceBEq, Int.reduceBEq, Int.reduceBNe, Int.reduceEq, Int.reduceLT, Int.reduceLE, Int.reduceGT, Int.reduceNeg, reduceCtorEq, GZ, d1, d2, d3, L1, zY]
  · cases h2 : (n2 == 0) <;> rw [h2] at L1
    · simp only [cond_false, cond_true] at L1
      apply zu
      refine zw rfl Tryz.func137 rfl (by kernel_rfl) ?_
      unfold Tryz.f137
      simp (disch := ((try simp only [LL]); omega)) only [↓GO, ↓DRW, GA, ren, zB, zd, refs, zb, cst, zl, zH, z7, E.load, E.store, zG, isC, bin, zI, zJ, una, z8, za, zh, zK, blt, fnV, asArg, ze, zn, zo, zj, zi, zg, zk, zr, z6, zD, zF, mkS, zc, unN, zM, zm, zy, zC, zf, zN, zq, GS, Int.reduceToNat, Nat.reduceGT, ↓reduceIte, Nat.reduceAdd, Nat.reduceMul, Nat.reduceSub, Nat.reduceEqDiff, Nat.reduceLeDiff, Nat.reduceLT, Nat.reduceBEq, Int.reduceBEq, Int.reduceBNe, Int.reduceEq, Int.reduceLT, Int.reduceLE, Int.reduceGT, Int.reduceNeg, reduceCtorEq, GZ, d1, d2, d3, L1, zY]
      refine yT (by kernel_rfl) ?_
      simp (disch := ((try simp only [LL]); omega)) only [↓GO, ↓DRW, GA, ren, zB, zd, refs, zb, cst, zl, zH, z7, E.load, E.store, zG, isC, bin, zI, zJ, una, z8, za, zh, zK, blt, fnV, asArg, ze, zn, zo, zj, zi, zg, zk, zr, z6, zD, zF, mkS, zc, unN, zM, zm, zy, zC, zf, zN, zq, GS, Int.reduceToNat, Nat.reduceGT, ↓reduceIte, Nat.reduceAdd, Nat.reduceMul, Nat.reduceSub, Nat.reduceEqDiff, Nat.reduceLeDiff, Nat.reduceLT, Nat.reduceBEq, Int.reduceBEq, Int.reduceBNe, Int.reduceEq, Int.reduceLT, Int.reduceLE, Int.reduceGT, Int.reduceNeg, reduceCtorEq, GZ, d1, d2, d3, L1, zY]
    · cases h3 : (n3 == 0) <;> rw [h3] at L1
      · simp only [cond_false, cond_true] at L1
        apply zu
        refine zw rfl Tryz.func137 rfl (by kernel_rfl) ?_
        unfold Tryz.f137
        simp (disch := ((try simp only [LL]); omega)) only [↓GO, ↓DRW, GA, ren, zB, zd, refs, zb, cst, zl, zH, z7, E.load, E.store, zG, isC, bin, zI, zJ, una, z8, za, zh, zK, blt, fnV, asArg, ze, zn, zo, zj, zi, zg, zk, zr, z6, zD, zF, mkS, zc, unN, zM, zm, zy, zC, zf, zN, zq, GS, Int.reduceToNat, Nat.reduceGT, ↓reduceIte, Nat.reduceAdd, Nat.reduceMul, Nat.reduceSub, Nat.reduceEqDiff, Nat.reduceLeDiff, Nat.reduceLT, Nat.reduceBEq, Int.reduceBEq, Int.reduceBNe, Int.reduceEq, Int.reduceLT, Int.reduceLE, Int.reduceGT, Int.reduceNeg, reduceCtorEq, GZ, d1, d2, d3, L1, zY]
        refine yT (by kernel_rfl) ?_
        simp (disch := ((try simp only [LL]); omega)) only [↓GO, ↓DRW, GA, ren, zB, zd, refs, zb, cst, zl, zH, z7, E.load, E.store, zG, isC, bin, zI, zJ, una, z8, za, zh, zK, blt, fnV, asArg, ze, zn, zo, zj, zi, zg, zk, zr, z6, zD, zF, mkS, zc, unN, zM, zm, zy, zC, zf, zN, zq, GS, Int.reduceToNat, Nat.reduceGT, ↓reduceIte, Nat.reduceAdd, Nat.reduceMul, Nat.reduceSub, Nat.reduceEqDiff, Nat.reduceLeDiff, Nat.reduceLT, Nat.reduceBEq, Int.reduceBEq, Int.reduceBNe, Int.reduceEq, Int.reduceLT, Int.reduceLE, Int.reduceGT, Int.reduceNeg, reduceCtorEq, GZ, d1, d2, d3, L1, zY]
      · simp only [cond_true] at L1
        cases hs : sL a.pre b.pre <;> rw [hs] at L2 <;> simp only at L2 <;> cases h4 : (a.pre == []) <;> cases h5 : (b.pre == []) <;> rw [h4] at e1 <;> rw [h5] at e2
        all_goals
          apply zu
          refine zw rfl Tryz.func137 rfl (by kernel_rfl) ?_
          unfold Tryz.f137
          simp (disch := ((try simp only [LL]); omega)) only [↓GO, ↓DRW, GA, ren, zB, zd, refs, zb, cst, zl, zH, z7, E.load, E.store, zG, isC, bin, zI, zJ, una, z8, za, zh, zK, blt, fnV, asArg, ze, zn, zo, zj, zi, zg, zk, zr, z6, zD, zF, mkS, zc, unN, zM, zm, zy, zC, zf, zN, zq, GS, Int.reduceToNat, Nat.reduceGT, ↓reduceIte, Nat.reduceAdd, Nat.reduceMul, Nat.reduceSub, Nat.reduceEqDiff, Nat.reduceLeDiff, Nat.reduceLT, Nat.reduceBEq, Int.reduceBEq, Int.reduceBNe, Int.reduceEq, Int.reduceLT, Int.reduceLE, Int.reduceGT, Int.reduceNeg, reduceCtorEq, GZ, d1, d2, d3, d4, d5, L1, L2, hm, zP, e1, e2, bne, Bool.beq_eq_decide_eq, zY]
          refine yT (by kernel_rfl) ?_
          simp (disch := ((try simp only [LL]); omega)) only [↓GO, ↓DRW, GA, ren, zB, zd, refs, zb, cst, zl, zH, z7, E.load, E.store, zG, isC, bin, zI, zJ, una, z8, za, zh, zK, blt, fnV, asArg, ze, zn, zo, zj, zi, zg, zk, zr, z6, zD, zF, mkS, zc, unN, zM, zm, zy, zC, zf, zN, zq, GS, Int.reduceToNat, Nat.reduceGT, ↓reduceIte, Nat.reduceAdd, Nat.reduceMul, Nat.reduceSub, Nat.reduceEqDiff, Nat.reduceLeDiff, Nat.reduceLT, Nat.reduceBEq, Int.reduceBEq, Int.reduceBNe, Int.reduceEq, Int.reduceLT, Int.reduceLE, Int.reduceGT, Int.reduceNeg, reduceCtorEq, GZ, d1, d2, d3, d4, d5, L1, L2, hm, zP, e1, e2, bne, zY, Option.getD_some, Option.getD_none]
theorem Ty (a b : Str) (ha : a.length ≤ 1048700) (hb : b.length ≤ 1048700) : zE (EV Tryz.prog pol) 100 [.t (.str a), .t (.str b)] = some (.t (.int .i64 (pq (zA a).1 (zA b).1))) := by
  have d1 := oA a ha
  have d2 := oA b hb
  have d3 := US (zA a).1 (zA b).1 (yW a ha).1 (yW b hb).1
  unfold rvT at d1 d2
  generalize pq (zA a).1 (zA b).1 = n at *
  generalize (zA a).1 = va at *
  generalize (zA b).1 = vb at *
  simp only [Ver.enc, List.map_cons, List.map_nil] at d1 d2 d3
  apply zu
  refine zw rfl Tryz.func100 rfl (by kernel_rfl) ?_
  unfold Tryz.f100
  simp (disch := ((try simp only [LL]); omega)) only [↓GO, ↓DRW, GA, ren, zB, zd, refs, zb, cst, zl, zH, z7, E.load, E.store, zG, isC, bin, zI, zJ, una, z8, za, zh, zK, blt, fnV, asArg, ze, zn, zo, zj, zi, zg, zk, zr, z6, zD, zF, mkS, zc, unN, zM, zm, zy, zC, zf, zN, zq, GS, Int.reduceToNat, Nat.reduceGT, ↓reduceIte, Nat.reduceAdd, Nat.reduceMul, Nat.reduceSub, Nat.reduceEqDiff, Nat.reduceLeDiff, Nat.reduceLT, Nat.reduceBEq, Int.reduceBEq, Int.reduceBNe, Int.reduceEq, Int.reduceLT, Int.reduceLE, Int.reduceGT, Int.reduceNeg, reduceCtorEq, GZ, d1, d2, d3, zY]
end Go.Proofs.YtmcephnfcciloaaGreatDoor
/- What is in a range, by both; what a notice tells of. Conditions: those of each lemma. -/
namespace Go.Proofs.YtmcephnfcciloaaGreatDoor
open E
set_option linter.unusedSimpArgs false
set_option linter.unusedVariables false
set_option maxRecDepth 100000
theorem bX {α : Type} [BEq α] (l : List α) : decide ((l.length : Int) > 0) = !(l == []) := by
  cases l with
  | nil => rfl
  | cons x r => rw [beq_nil_cons]; simp only [Bool.not_false]; apply decide_eq_true; simp only [List.length_cons]; omega
set_option maxHeartbeats 16000000 in
theorem Tn (s : Str) (v : Ver) (hv : zA s = (v, true)) (hs : s.length ≤ 1048700) (l : List Bd) (hl : l.length ≤ 4194304) (hb : ∀ b ∈ l, b.1.length ≤ 1048700 ∧ b.2.length ≤ 1048700) : ∀ (rest pre : List Bd), l = pre ++ rest → ∃ x,
    EV Tryz.prog pol (.loop 66 122 0 [.t (.str s), .ptr 0 0 0, .t (.list 2 (bdT l)), .t (.int .i64 (l.length : Int)), .t (.int .i64 (pre.length : Int))] [.vs 4 [v.enc.map .t]])
      = some (cond (rest.any (pr v)) (.loop .ret [.t (.bool true)] []) (.loop (.exit 0) [x] []))
  | [], pre, h => by
    have c : decide ((pre.length : Int) < (l.length : Int)) = false := by simp [h]
    refine ⟨.bad, ?_⟩
    simp only [List.any_nil, cond_false, Ver.enc, List.map_cons, List.map_nil]
    refine zz Tryz.func66 rfl rfl ?_
    simp (disch := ((try simp only [LL]); omega)) only [↓GO, ↓DRW, GA, ren, zB, zd, refs, zb, cst, zl, zH, z7, E.load, E.store, zG, isC, bin, zI, zJ, una, z8, za, zh, zK, blt, fnV, asArg, ze, zn, zo, zj, zi, zg, zk, zr, z6, zD, zF, mkS, zc, unN, zM, zm, zy, zC, zf, zN, zq, GS, Int.reduceToNat, Nat.reduceGT, ↓reduceIte, Nat.reduceAdd, Nat.reduceMul, Nat.reduceSub, Nat.reduceEqDiff, Nat.reduceLeDiff, Nat.reduceLT, Nat.reduceBEq, Int.reduceBEq, Int.reduceBNe, Int.reduceEq, Int.reduceLT, Int.reduceLE, Int.reduceGT, Int.reduceNeg, reduceCtorEq, GZ, c, zY]
  | b :: rest, pre, h => by
    have c : decide ((pre.length : Int) < (l.length : Int)) = true := by simp [h]; omega
    have hget : (bdT l)[pre.length]? = some [.str b.1, .str b.2] := by rw [h]; exact wB (fun b : Bd => [T.str b.1, T.str b.2]) pre b rest
    have hlen : pre.length + rest.length + 1 ≤ l.length := by rw [h]; simp; omega
    obtain ⟨hb1, hb2⟩ := hb b (by rw [h]; simp)
    have d1 := Ty s b.1 hs hb1
    have d2 := Ty s b.2 hs hb2
    have d3 := oA b.1 hb1
    rw [hv] at d1 d2
    obtain ⟨x, IH⟩ := Tn s v hv hs l hl hb rest (pre ++ [b]) (by rw [h]; simp)
    rw [show ((pre ++ [b]).length : Int) = (pre.length : Int) + 1 by simp] at IH
    refine ⟨x, ?_⟩
    have e1 := u0 v.pre
    have e2 := bX (zA b.1).1.pre
    rw [List.any_cons]
    generalize hR : rest.any (pr v) = R at *
    have ht : pr v b = cond ((!(b.1 == []) && decide (pq v (zA b.1).1 < 0)) || (!(b.2 == []) && decide (pq v (zA b.2).1 ≥ 0))) false
      (v.pre == [] || (!((zA b.1).1.pre == []) && ((zA b.1).1.maj == v.maj && ((zA b.1).1.min == v.min && (zA b.1).1.pat == v.pat)))) := rfl
    rw [ht]
    clear h hb hv ht hR
    obtain ⟨lo, hi⟩ := b
    unfold rvT at d3
    simp only at d1 d2 d3 e2 hget ⊢
    generalize (zA lo).2 = okl at *
    generalize pq v (zA lo).1 = n1 at *
    generalize pq v (zA hi).1 = n2 at *
    generalize (zA lo).1 = vl at *
    obtain ⟨maj, min, pat, pre'⟩ := v
    obtain ⟨maj2, min2, pat2, pre2⟩ := vl
    simp only [Ver.enc, List.map_cons, List.map_nil] at d3 IH e1 e2 ⊢
    have skip : ∀ (q : Bool), q = true → True := fun _ _ => trivial
    cases q1 : (lo == []) <;> cases q2 : decide (n1 < 0) <;> cases q3 : (hi == []) <;> cases q4 : decide (n2 ≥ 0) <;> simp only [Bool.not_true, Bool.not_false, Bool.and_true, Bool.true_and, Bool.false_and, Bool.and_false, Bool.or_false, Bool.or_true, cond_true, cond_false, Bool.false_or]
    all_goals first
      | (refine zz Tryz.func66 rfl rfl ?_
         simp (disch := ((try simp only [LL]); omega)) only [↓GO, ↓DRW, GA, ren, zB, zd, refs, zb, cst, zl, zH, z7, E.load, E.store, zG, isC, bin, zI, zJ, una, z8, za, zh, zK, blt, fnV, asArg, ze, zn, zo, zj, zi, zg, zk, zr, z6, zD, zF, mkS, zc, unN, zM, zm, zy, zC, zf, zN, zq, GS, Int.reduceToNat, Nat.reduceGT, ↓reduceIte, Nat.reduceAdd, Nat.reduceMul, Nat.reduceSub, Nat.reduceEqDiff, Nat.reduceLeDiff, Nat.reduceLT, Nat.reduceBEq, Int.reduceBEq, Int.reduceBNe, Int.reduceEq, Int.reduceLT, Int.reduceLE, Int.reduceGT, Int.reduceNeg, reduceCtorEq, GZ, c, hget, d1, d2, d3, q1, q2, q3, q4, e1, e2, bne, zP, zx, zY, IH]
         done)
      | (cases q5 : (pre' == []) <;> rw [q5] at e1
         · cases q6 : (pre2 == []) <;> rw [q6] at e2
           · cases q7 : (maj2 == maj)
             · refine zz Tryz.func66 rfl rfl ?_
               simp (disch := ((try simp only [LL]); omega)) only [↓GO, ↓DRW, GA, ren, zB, zd, refs, zb, cst, zl, zH, z7, E.load, E.store, zG, isC, bin, zI, zJ, una, z8, za, zh, zK, blt, fnV, asArg, ze, zn, zo, zj, zi, zg, zk, zr, z6, zD, zF, mkS, zc, unN, zM, zm, zy, zC, zf, zN, zq, GS, Int.reduceToNat, Nat.reduceGT, ↓reduceIte, Nat.reduceAdd, Nat.reduceMul, Nat.reduceSub, Nat.reduceEqDiff, Nat.reduceLeDiff, Nat.reduceLT, Nat.reduceBEq, Int.reduceBEq, Int.reduceBNe, Int.reduceEq, Int.reduceLT, Int.reduceLE, Int.reduceGT, Int.reduceNeg, reduceCtorEq, GZ, c, hget, d1, d2, d3, q1, q2, q3, q4, e1, e2, q7, bne, zP, zx, zY, IH, Bool.not_false, Bool.not_true, Bool.and_false, Bool.false_or]
             · cases q8 : (min2 == min)
               · refine zz Tryz.func66 rfl rfl ?_
                 simp (disch := ((try simp only [LL]); omega)) only [↓GO, ↓DRW, GA, ren, zB, zd, refs, zb, cst, zl, zH, z7, E.load, E.store, zG, isC, bin, zI, zJ, una, z8, za, zh, zK, blt, fnV, asArg, ze, zn, zo, zj, zi, zg, zk, zr, z6, zD, zF, mkS, zc, unN, zM, zm, zy, zC, zf, zN, zq, GS, Int.reduceToNat, Nat.reduceGT, ↓reduceIte, Nat.reduceAdd, Nat.reduceMul, Nat.reduceSub, Nat.reduceEqDiff, Nat.reduceLeDiff, Nat.reduceLT, Nat.reduceBEq, Int.reduceBEq, Int.reduceBNe, Int.reduceEq, Int.reduceLT, Int.reduceLE, Int.reduceGT, Int.reduceNeg, reduceCtorEq, GZ, c, hget, d1, d2, d3, q1, q2, q3, q4, e1, e2, q7, q8, bne, zP, zx, zY, IH, Bool.not_false, Bool.not_true, Bool.and_false, Bool.false_or]
               · cases q9 : (pat2 == pat)
                 all_goals
                   refine zz Tryz.func66 rfl rfl ?_
                   simp (disch := ((try simp only [LL]); omega)) only [↓GO, ↓DRW, GA, ren, zB, zd, refs, zb, cst, zl, zH, z7, E.load, E.store, zG, isC, bin, zI, zJ, una, z8, za, zh, zK, blt, fnV, asArg, ze, zn, zo, zj, zi, zg, zk, zr, z6, zD, zF, mkS, zc, unN, zM, zm, zy, zC, zf, zN, zq, GS, Int.reduceToNat, Nat.reduceGT, ↓reduceIte, Nat.reduceAdd, Nat.reduceMul, Nat.reduceSub, Nat.reduceEqDiff, Nat.reduceLeDiff, Nat.reduceLT, Nat.reduceBEq, Int.reduceBEq, Int.reduceBNe, Int.reduceEq, Int.reduceLT, Int.reduceLE, Int.reduceGT, Int.reduceNeg, reduceCtorEq, GZ, c, hget, d1, d2, d3, q1, q2, q3, q4, e1, e2, q7, q8, q9, bne, zP, zx, zY, IH, Bool.not_false, Bool.not_true, Bool.and_false, Bool.false_or]
           · refine zz Tryz.func66 rfl rfl ?_
             simp (disch := ((try simp only [LL]); omega)) only [↓GO, ↓DRW, GA, ren, zB, zd, refs, zb, cst, zl, zH, z7, E.load, E.store, zG, isC, bin, zI, zJ, una, z8, za, zh, zK, blt, fnV, asArg, ze, zn, zo, zj, zi, zg, zk, zr, z6, zD, zF, mkS, zc, unN, zM, zm, zy, zC, zf, zN, zq, GS, Int.reduceToNat, Nat.reduceGT, ↓reduceIte, Nat.reduceAdd, Nat.reduceMul, Nat.reduceSub, Nat.reduceEqDiff, Nat.reduceLeDiff, Nat.reduceLT, Nat.reduceBEq, Int.reduceBEq, Int.reduceBNe, Int.reduceEq, Int.reduceLT, Int.reduceLE, Int.reduceGT, Int.reduceNeg, reduceCtorEq, GZ, c, hget, d1, d2, d3, q1, q2, q3, q4, e1, e2, bne, zP, zx, zY, IH, Bool.not_false, Bool.not_true, Bool.and_false, Bool.false_or]
         · refine zz Tryz.func66 rfl rfl ?_
           simp (disch := ((try simp only [LL]); omega)) only [↓GO, ↓DRW, GA, ren, zB, zd, refs, zb, cst, zl, zH, z7, E.load, E.store, zG, isC, bin, zI, zJ, una, z8, za, zh, zK, blt, fnV, asArg, ze, zn, zo, zj, zi, zg, zk, zr, z6, zD, zF, mkS, zc, unN, zM, zm, zy, zC, zf, zN, zq, GS, Int.reduceToNat, Nat.reduceGT, ↓reduceIte, Nat.reduceAdd, Nat.reduceMul, Nat.reduceSub, Nat.reduceEqDiff, Nat.reduceLeDiff, Nat.reduceLT, Nat.reduceBEq, Int.reduceBEq, Int.reduceBNe, Int.reduceEq, Int.reduceLT, Int.reduceLE, Int.reduceGT, Int.reduceNeg, reduceCtorEq, GZ, c, hget, d1, d2, d3, q1, q2, q3, q4, e1, e2, bne, zP, zx, zY, IH, Bool.true_or])
end Go.Proofs.YtmcephnfcciloaaGreatDoor

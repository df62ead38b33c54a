/- Joined: V7 I1 V3 K13 K14 K15 K16 K17 K18 K19 W7 W8. Conditions: those of each lemma. -/
import Derived.Test.YtmcephnfcciloaaGreatDoorUJ
import Derived.Test.YtmcephnfcciloaaGreatDoorUH
import Derived.Test.YtmcephnfcciloaaGreatDoorUI
set_option linter.unusedVariables false
set_option linter.unusedSimpArgs false
namespace Go.Proofs.YtmcephnfcciloaaGreatDoor
open E
set_option linter.unusedVariables false
set_option linter.unusedSimpArgs false
set_option maxRecDepth 100000
def wI : Str := [32, 124, 124, 32]
/-- the parts between; so many bytes are passed over first -/
def yV : Nat → Str → List Str
  | _, [] => [[]]
  | 0, x :: r => if wI.isPrefixOf (x :: r) = true then [] :: yV 3 r else match yV 0 r with
    | p :: q => (x :: p) :: q
    | [] => [[x]]
  | k + 1, _ :: r => yV k r
theorem qF : ∀ (k : Nat) (s : Str), yV k s ≠ []
  | k, [] => by cases k <;> simp [yV]
  | 0, x :: r => by
    unfold yV
    split
    · simp
    · split <;> simp
  | k + 1, x :: r => by rw [yV]; exact qF k r
theorem kD : ∀ (k : Nat) (s : Str), k ≤ s.length → yV k s = yV 0 (s.drop k)
  | 0, s, _ => rfl
  | k + 1, [], h => by simp at h
  | k + 1, x :: r, h => by rw [yV, kD k r (by simpa using h)]; rfl
theorem Tc {s : Str} (h : wI.isPrefixOf s = true) : 4 ≤ s.length := by
  have : ∀ p s : Str, p.isPrefixOf s = true → p.length ≤ s.length := fun p => by
    induction p with
    | nil => intro s _; simp
    | cons a p ih =>
      intro s h
      cases s with
      | nil => simp [List.isPrefixOf] at h
      | cons b s =>
        simp only [List.isPrefixOf, Bool.and_eq_true] at h
        have := ih s h.2
        simp only [List.length_cons]; omega
  exact this wI s h
theorem mA (x : UInt8) (r : Str) (h : wI.isPrefixOf (x :: r) = true) : yV 0 (x :: r) = [] :: yV 3 r := by rw [yV, if_pos h]
theorem uj (x : UInt8) (r p : Str) (q : List Str) (h : wI.isPrefixOf (x :: r) = false) (e : yV 0 r = p :: q) : yV 0 (x :: r) = (x :: p) :: q := by
  rw [yV, if_neg (by rw [h]; simp), e]
theorem rf : ∀ (n : Nat) (s : Str), s.length ≤ n → Lib.split s wI = yV 0 s
  | n, [], _ => by
    unfold Lib.split
    rw [Lib.count_miss (by simp [Lib.index, wI])]; rfl
  | 0, x :: r, h => by simp at h
  | n + 1, x :: r, h => by
    simp only [List.length_cons] at h
    cases hp : wI.isPrefixOf (x :: r) with
    | true =>
      have h4 := Tc hp
      simp only [List.length_cons] at h4
      have hi : Lib.index (x :: r) wI = ((0 : Nat) : Int) := by rw [Lib.index, if_pos hp]; rfl
      have ih := rf n (r.drop 3) (by rw [List.length_drop]; omega)
      unfold Lib.split at ih ⊢
      rw [Lib.count_hit (by simp [wI]) hi, Nat.add_comm, Lib.splitK, hi]
      rw [mA x r hp, kD 3 r (by omega), ← ih]
      simp [wI]
    | false =>
      have ih := rf n r (by omega)
      have hix : Lib.index (x :: r) wI = if Lib.index r wI == -1 then -1 else Lib.index r wI + 1 := by
        rw [Lib.index, hp]; simp
      unfold Lib.split at ih ⊢
      by_cases hm : Lib.index r wI = -1
      · rw [Lib.count_miss hm] at ih
        rw [Lib.count_miss (by rw [hix, hm]; rfl), Lib.splitK]
        rw [Lib.splitK] at ih
        exact (uj x r r [] hp ih.symm).symm
      · have hge := Lib.index_ge r wI
        obtain ⟨j, hj⟩ : ∃ j : Nat, Lib.index r wI = j := ⟨(Lib.index r wI).toNat, by omega⟩
        have hb : (((j : Nat) : Int) == -1) = false := by rw [beq_eq_false_iff_ne]; omega
        have hb2 : (((j + 1 : Nat) : Int) == -1) = false := by rw [beq_eq_false_iff_ne]; omega
        have hj2 : Lib.index (x :: r) wI = ((j + 1 : Nat) : Int) := by rw [hix, hj, hb]; simp
        rw [Lib.count_hit (by simp [wI]) hj, Nat.add_comm, Lib.splitK, hj, hb] at ih
        rw [Lib.count_hit (by simp [wI]) hj2, Nat.add_comm, Lib.splitK, hj2, hb2]
        simp only [Bool.false_eq_true, if_false, Int.toNat_natCast, Nat.add_zero] at ih ⊢
        rw [List.take_succ_cons, show j + 1 + wI.length = (j + wI.length) + 1 by omega, List.drop_succ_cons]
        exact (uj x r _ _ hp ih.symm).symm
theorem uk : ∀ (k : Nat) (s : Str), yk (yV k s) + (yV k s).length ≤ s.length + 1
  | k, [] => by cases k <;> simp [yV, yk]
  | 0, x :: r => by
    cases hp : wI.isPrefixOf (x :: r) with
    | true =>
      have ih := uk 3 r
      rw [mA x r hp]
      simp only [yk, List.length_cons, List.length_nil] at ih ⊢; omega
    | false =>
      have ih := uk 0 r
      cases hc : yV 0 r with
      | nil => exact absurd hc (qF 0 r)
      | cons p q =>
        rw [hc] at ih
        rw [uj x r p q hp hc]
        simp only [yk, List.length_cons] at ih ⊢; omega
  | k + 1, x :: r => by
    have ih := uk k r
    rw [yV]
    simp only [List.length_cons]; omega
def vP : List Str → Option (List Bd)
  | [] => some []
  | p :: r => match xM p with
    | some b => (match vP r with | some bs => some (b :: bs) | none => none)
    | none => none
def wq (s : Str) : Option (List Bd) := cond (decide ((s.length : Int) > 200) || decide (((yV 0 s).length : Int) > 8)) none (vP (yV 0 s))
def xk (l : List Bd) : Bool := (l.all fun b => isE b.1 && isE b.2) && B2 (l.length : Int) 1 8
theorem sJ : ∀ (l : List Str) (r : List Bd), vP l = some r → (r.all fun b => isE b.1 && isE b.2) = true ∧ r.length = l.length
  | [], r, h => by cases h; exact ⟨rfl, rfl⟩
  | p :: l, r, h => by
    unfold vP at h
    cases hp : xM p with
    | none => rw [hp] at h; cases h
    | some b =>
      rw [hp] at h
      simp only at h
      cases hl : vP l with
      | none => rw [hl] at h; cases h
      | some bs =>
        rw [hl] at h
        cases h
        obtain ⟨h1, h2⟩ := sJ l bs hl
        obtain ⟨q1, q2⟩ := YY hp
        refine ⟨?_, by simp [h2]⟩
        simp only [List.all_cons, q1, q2, h1]; rfl
/-- as the implementation asks -/
def jK (s : Str) : Option (List Bd) := cond (decide ((s.length : Int) > 200)) none (match vP (yV 0 s) with | some l => cond (xk l) (some l) none | none => none)
theorem nj (s : Str) : jK s = wq s := by
  unfold jK wq
  cases decide ((s.length : Int) > 200) with
  | true => rfl
  | false =>
    simp only [cond_false, Bool.false_or]
    cases ha : vP (yV 0 s) with
    | none => cases decide (((yV 0 s).length : Int) > 8) <;> rfl
    | some l =>
      obtain ⟨h1, h2⟩ := sJ _ _ ha
      have hn : 1 ≤ (yV 0 s).length := by
        cases hc : yV 0 s with
        | nil => exact absurd hc (qF 0 s)
        | cons p q => simp
      have hr : xk l = !decide (((yV 0 s).length : Int) > 8) := by
        unfold xk B2
        rw [h1, h2, Bool.true_and, decide_eq_true (show (1 : Int) ≤ ((yV 0 s).length : Int) by omega), Bool.true_and]
        by_cases h : ((yV 0 s).length : Int) ≤ 8
        · rw [decide_eq_true h, decide_eq_false (by omega)]; rfl
        · rw [decide_eq_false h, decide_eq_true (by omega)]; rfl
      simp only
      rw [hr]
      cases decide (((yV 0 s).length : Int) > 8) <;> rfl
end Go.Proofs.YtmcephnfcciloaaGreatDoor
/- The library's searches, at fields. Conditions: those of each lemma. -/
namespace Go.Proofs.YtmcephnfcciloaaGreatDoor
open E
set_option linter.unusedSimpArgs false
set_option linter.unusedVariables false
set_option maxRecDepth 100000
/-- the first place at which something holds -/
def r8 {α : Type} (p : α → Bool) : List α → Nat → Option Nat
  | [], _ => none
  | x :: r, n => if p x = true then some n else r8 p r (n + 1)
def ixI : Option Nat → Int
  | some n => (n : Int)
  | none => -1
theorem fK {α : Type} (p : α → Bool) : ∀ (l : List α) (n : Nat), (r8 p l n).isSome = l.any p
  | [], _ => rfl
  | x :: r, n => by
    simp only [r8, List.any_cons]
    split
    · rename_i h; simp [h]
    · rename_i h; rw [fK p r (n + 1)]; simp [h]
end Go.Proofs.YtmcephnfcciloaaGreatDoor
/- Packs and graphs, plain. Conditions: none. -/
namespace Go.Proofs.YtmcephnfcciloaaGreatDoor
open E
set_option linter.unusedVariables false
set_option linter.unusedSimpArgs false
set_option maxRecDepth 100000
def Vy : Str := [115, 104, 97, 49]
def jc : Str := [115, 104, 97, 50, 53, 54]
def h1S : Str := [104, 49]
def jb : Str := [115, 104, 97, 53, 49, 50]
def ti (a : Str) : Int := cond (a == Vy) 20 (cond (a == jc || a == h1S) 32 (cond (a == jb) 64 (-1)))
/-- is a text above the one ahead, if there is one? -/
def vS (prev : Option Str) (s : Str) : Bool := match prev with
  | none => true
  | some p => Op.bytesLess p s
def vi : Option Str → List zZ → Bool
  | _, [] => true
  | prev, s :: r => (((s.bytes.length : Int) == ti s.alg) && vS prev s.alg) && vi (some s.alg) r
def keyOf (p : zL) : Str := (p.name ++ [64]) ++ p.version
def Ly (ps : List zL) (k : Str) : Bool := ps.any fun p => keyOf p == k
def j6 (ps : List zL) (k : Str) : Option Nat := r8 (fun p => keyOf p == k) ps 0
def xZ (ps : List zL) : Option Str → List Str → Bool
  | _, [] => true
  | prev, k :: r => (Ly ps k && vS prev k) && xZ ps (some k) r
def rT (p : zL) : Bool := vj p.name && ((x6 p.version).isSome && (wz p.source && vi none p.sums))
def wV (ps : List zL) : Option Str → List zL → Bool
  | _, [] => true
  | prev, p :: r => (rT p && (vS prev (keyOf p) && xZ ps none p.needs)) && wV ps (some (keyOf p)) r
def w7 (g : zU) : Bool := wV g.packs none g.packs && (decide ((g.packs.length : Int) ≤ 40) && xZ g.packs none g.top)
theorem Vg {α : Type} (p : α → Bool) (l : List α) : decide (ixI (r8 p l 0) < 0) = !(l.any p) := by
  rw [← fK p l 0]
  cases r8 p l 0 with
  | none => rfl
  | some n =>
    have h : ¬ ((n : Int) < 0) := by omega
    show decide ((n : Int) < 0) = false
    exact decide_eq_false h
/-- the one ahead of a place -/
theorem uz {α : Type} (f : α → List T) (pre : List α) (q : α) (rest : List α) : uG ((pre ++ [q] ++ rest).map f) (((pre ++ [q]).length : Int) - 1) = some (f q) := by
  unfold uG
  rw [if_pos (by simp)]
  have e : (((pre ++ [q]).length : Int) - 1).toNat = pre.length := by simp
  rw [e]
  simp
theorem wB {α : Type} (f : α → List T) (pre : List α) (x : α) (rest : List α) : ((pre ++ x :: rest).map f)[pre.length]? = some (f x) := by simp
theorem wj {α : Type} (l : List α) : l = [] ∨ ∃ p q, l = p ++ [q] := by
  rcases List.eq_nil_or_concat l with h | ⟨p, q, h⟩
  · exact .inl h
  · exact .inr ⟨p, q, by rw [h, List.concat_eq_append]⟩
end Go.Proofs.YtmcephnfcciloaaGreatDoor
/- Ranges, by the implementation. Conditions: those of each lemma. -/
namespace Go.Proofs.YtmcephnfcciloaaGreatDoor
open E
set_option linter.unusedSimpArgs false
set_option linter.unusedVariables false
set_option maxRecDepth 100000
/-- bounds as the evaluator sees them -/
def bdT (l : List Bd) : List (List T) := l.map fun b => [.str b.1, .str b.2]
theorem xO (l : List Bd) : (bdT l).length = l.length := by simp [bdT]
theorem aF (a b : List Bd) : bdT (a ++ b) = bdT a ++ bdT b := by simp [bdT]
def bdV (b : Bd) : V := .agg [.t (.str b.1), .t (.str b.2)]
theorem V6 (s : Str) : (!(s == []) && !(isV s)) = !(isE s) := by
  unfold isE
  cases (s == []) <;> cases isV s <;> rfl
theorem qH (s : Str) (hl : s.length ≤ 1048700) : zE (EV Tryz.prog pol) 130 [.t (.str s)] = some (.t (.bool (isV s))) := by
  have h := oA s hl
  unfold rvT at h
  unfold isV
  generalize (zA s).1 = v at *
  generalize (zA s).2 = ok at *
  simp only [Ver.enc, List.map_cons, List.map_nil] at h
  apply zu
  refine zw rfl Tryz.func130 rfl (by kernel_rfl) ?_
  unfold Tryz.f130
  simp (disch := ((try simp only [LL]); omega)) only [↓GO, ↓DRW, GA, ren, zB, zd, refs, zb, cst, zl, zH, z7, E.load, E.store, zG, isC, bin, zI, zJ, una, z8, za, zh, zK, blt, fnV, asArg, ze, zn, zo, zj, zi, zg, zk, zr, z6, zD, zF, mkS, zc, unN, zM, zm, zy, zC, zf, zN, zq, GS, Int.reduceToNat, Nat.reduceGT, ↓reduceIte, Nat.reduceAdd, Nat.reduceMul, Nat.reduceSub, Nat.reduceEqDiff, Nat.reduceLeDiff, Nat.reduceLT, Nat.reduceBEq, Int.reduceBEq, Int.reduceBNe, Int.reduceEq, Int.reduceLT, Int.reduceLE, Int.reduceGT, Int.reduceNeg, reduceCtorEq, GZ, h]
theorem Va (l : List Bd) (hl : l.length ≤ 4194304) (hb : ∀ b ∈ l, b.1.length ≤ 1048700 ∧ b.2.length ≤ 1048700) : ∀ (rest pre : List Bd), l = pre ++ rest →
    EV Tryz.prog pol (.loop 98 26 0 [.t (.list 2 (bdT l)), .t (.list 2 (bdT l)), .t (.int .i64 (l.length : Int)), .t (.int .i64 (pre.length : Int))] []) = some (cond (rest.all fun b => isE b.1 && isE b.2) (.loop (.exit 0) [.t (.list 2 (bdT l)), .bad] []) (.loop .ret [.t (.list 2 (bdT l)), .t (.bool false)] []))
  | [], pre, hs => by
    have c : decide ((pre.length : Int) < (l.length : Int)) = false := by simp [hs]
    simp only [List.all_nil, cond_true]
    refine zz Tryz.func98 rfl rfl ?_
    simp (disch := ((try simp only [LL]); omega)) only [↓GO, ↓DRW, GA, ren, zB, zd, refs, zb, cst, zl, zH, z7, E.load, E.store, zG, isC, bin, zI, zJ, una, z8, za, zh, zK, blt, fnV, asArg, ze, zn, zo, zj, zi, zg, zk, zr, z6, zD, zF, mkS, zc, unN, zM, zm, zy, zC, zf, zN, zq, GS, Int.reduceToNat, Nat.reduceGT, ↓reduceIte, Nat.reduceAdd, Nat.reduceMul, Nat.reduceSub, Nat.reduceEqDiff, Nat.reduceLeDiff, Nat.reduceLT, Nat.reduceBEq, Int.reduceBEq, Int.reduceBNe, Int.reduceEq, Int.reduceLT, Int.reduceLE, Int.reduceGT, Int.reduceNeg, reduceCtorEq, GZ, c]
  | x :: rest, pre, hs => by
    have c : decide ((pre.length : Int) < (l.length : Int)) = true := by simp [hs]; omega
    have hget : (bdT l)[pre.length]? = some [.str x.1, .str x.2] := by rw [hs]; exact wB (fun b : Bd => [T.str b.1, T.str b.2]) pre x rest
    have hlen : pre.length + rest.length + 1 ≤ l.length := by rw [hs]; simp; omega
    have hx := hb x (by rw [hs]; simp)
    have h1 := qH x.1 hx.1
    have h2 := qH x.2 hx.2
    have e1 := V6 x.1
    have e2 := V6 x.2
    have IH := Va l hl hb rest (pre ++ [x]) (by rw [hs]; simp)
    rw [show ((pre ++ [x]).length : Int) = (pre.length : Int) + 1 by simp] at IH
    clear hs hb
    rw [List.all_cons]
    generalize isE x.1 = a1 at *
    generalize isE x.2 = a2 at *
    generalize isV x.1 = b1 at *
    generalize isV x.2 = b2 at *
    cases h3 : (x.1 == []) <;> cases h4 : (x.2 == []) <;> cases b1 <;> cases b2 <;> rw [h3] at e1 <;> rw [h4] at e2 <;> cases a1 <;> cases a2 <;> first
      | (exfalso; revert e1; decide)
      | (exfalso; revert e2; decide)
      | (refine zz Tryz.func98 rfl rfl ?_; simp (disch := ((try simp only [LL]); omega)) only [↓GO, ↓DRW, GA, ren, zB, zd, refs, zb, cst, zl, zH, z7, E.load, E.store, zG, isC, bin, zI, zJ, una, z8, za, zh, zK, blt, fnV, asArg, ze, zn, zo, zj, zi, zg, zk, zr, z6, zD, zF, mkS, zc, unN, zM, zm, zy, zC, zf, zN, zq, GS, Int.reduceToNat, Nat.reduceGT, ↓reduceIte, Nat.reduceAdd, Nat.reduceMul, Nat.reduceSub, Nat.reduceEqDiff, Nat.reduceLeDiff, Nat.reduceLT, Nat.reduceBEq, Int.reduceBEq, Int.reduceBNe, Int.reduceEq, Int.reduceLT, Int.reduceLE, Int.reduceGT, Int.reduceNeg, reduceCtorEq, GZ, c, hget, h1, h2, h3, h4, bne, zx, xO, IH])
theorem Vp (l : List Bd) (hl : l.length ≤ 4194304) (hb : ∀ b ∈ l, b.1.length ≤ 1048700 ∧ b.2.length ≤ 1048700) : zE (EV Tryz.prog pol) 98 [.t (.list 2 (bdT l))] = some (.t (.bool (xk l))) := by
  have L := Va l hl hb l [] rfl
  have h := uD (l.length : Int) 1 8
  simp only [List.length_nil, Int.natCast_zero] at L
  unfold xk
  generalize B2 (l.length : Int) 1 8 = b2 at *
  cases ha : (l.all fun b => isE b.1 && isE b.2) <;> rw [ha] at L <;> simp only [cond_true, cond_false] at L
  all_goals
    apply zu
    refine zw rfl Tryz.func98 rfl (by kernel_rfl) ?_
    unfold Tryz.f98
    simp (disch := ((try simp only [LL]); omega)) only [↓GO, ↓DRW, GA, ren, zB, zd, refs, zb, cst, zl, zH, z7, E.load, E.store, zG, isC, bin, zI, zJ, una, z8, za, zh, zK, blt, fnV, asArg, ze, zn, zo, zj, zi, zg, zk, zr, z6, zD, zF, mkS, zc, unN, zM, zm, zy, zC, zf, zN, zq, GS, Int.reduceToNat, Nat.reduceGT, ↓reduceIte, Nat.reduceAdd, Nat.reduceMul, Nat.reduceSub, Nat.reduceEqDiff, Nat.reduceLeDiff, Nat.reduceLT, Nat.reduceBEq, Int.reduceBEq, Int.reduceBNe, Int.reduceEq, Int.reduceLT, Int.reduceLE, Int.reduceGT, Int.reduceNeg, reduceCtorEq, GZ, L, h, xO]
theorem Zw (s : Str) (hl : s.length ≤ 1048700) : zE (EV Tryz.prog pol) 132 [.t (.str s)] = some (.tup [bdV (wc s).1, .t (.bool (wc s).2)]) := by
  have h1 := qG s [46] (by omega) (by simp)
  rw [rl] at h1
  have hbk := xL 46 s
  unfold wc
  match hp : yi 46 s with
  | [] => exact absurd hp (yU 46 s)
  | [a] =>
    rw [hp] at h1 hbk
    simp only [yk, List.length_cons, List.length_nil] at hbk
    have d1 := mT a (by omega)
    have hr := xo a
    have v1 := uE ⟨zO a, 0, 0, []⟩ (by simp [Ver.sm, yk])
    have v2 := mS (zO a) 1 0
    have v3 := mS (zO a + 1) 0 0
    have e0 : decide (zO a < 0) = !decide (0 ≤ zO a) := by
      by_cases h : zO a < 0
      · rw [decide_eq_true h, decide_eq_false (by omega)]; rfl
      · rw [decide_eq_false h, decide_eq_true (by omega)]; rfl
    simp only
    generalize yb ⟨zO a, 0, 0, []⟩ = t1 at *
    generalize ye (zO a) 1 0 = t2 at *
    generalize ye (zO a + 1) 0 0 = t3 at *
    generalize zO a = ra at *
    simp only [xj, yf, Ver.enc, List.map_cons, List.map_nil, bdV] at h1 v1 ⊢
    cases hd : decide (0 ≤ ra) <;> rw [hd] at e0 <;> simp only [Bool.not_true, Bool.not_false] at e0
    · have L : EV Tryz.prog pol (.loop 132 250 0 [.ptr 0 0 0, .t (.list 1 [[.str a]]), .sl 1 0 2 (some 2), .t (.list 1 [[.str a]]), .t (.int .i64 1), .t (.int .i64 0)] [.vs 2 [[.t (.str []), .t (.str [])]], .ts 1 [[.int .i64 0], [.int .i64 0]]])
          = some (.loop .ret [.ptr 0 0 0, .t (.bool false), .t (.list 1 [[.str a]]), .sl 1 0 2 (some 2)] [.vs 2 [[.t (.str []), .t (.str [])]], .ts 1 [[.int .i64 ra], [.int .i64 0]]]) := by
        refine zz Tryz.func132 rfl rfl ?_
        simp (disch := ((try simp only [LL]); omega)) only [↓GO, ↓DRW, GA, ren, zB, zd, refs, zb, cst, zl, zH, z7, E.load, E.store, zG, isC, bin, zI, zJ, una, z8, za, zh, zK, blt, fnV, asArg, ze, zn, zo, zj, zi, zg, zk, zr, z6, zD, zF, mkS, zc, unN, zM, zm, zy, zC, zf, zN, zq, GS, Int.reduceToNat, Nat.reduceGT, ↓reduceIte, Nat.reduceAdd, Nat.reduceMul, Nat.reduceSub, Nat.reduceEqDiff, Nat.reduceLeDiff, Nat.reduceLT, Nat.reduceBEq, Int.reduceBEq, Int.reduceBNe, Int.reduceEq, Int.reduceLT, Int.reduceLE, Int.reduceGT, Int.reduceNeg, reduceCtorEq, GZ, d1, e0, zx, zY]
      apply zu
      refine zw rfl Tryz.func132 rfl (by kernel_rfl) ?_
      unfold Tryz.f132
      simp (disch := ((try simp only [LL]); omega)) only [↓GO, ↓DRW, GA, ren, zB, zd, refs, zb, cst, zl, zH, z7, E.load, E.store, zG, isC, bin, zI, zJ, una, z8, za, zh, zK, blt, fnV, asArg, ze, zn, zo, zj, zi, zg, zk, zr, z6, zD, zF, mkS, zc, unN, zM, zm, zy, zC, zf, zN, zq, GS, Int.reduceToNat, Nat.reduceGT, ↓reduceIte, Nat.reduceAdd, Nat.reduceMul, Nat.reduceSub, Nat.reduceEqDiff, Nat.reduceLeDiff, Nat.reduceLT, Nat.reduceBEq, Int.reduceBEq, Int.reduceBNe, Int.reduceEq, Int.reduceLT, Int.reduceLE, Int.reduceGT, Int.reduceNeg, reduceCtorEq, GZ, h1, L, zY]
    · have L : EV Tryz.prog pol (.loop 132 250 0 [.ptr 0 0 0, .t (.list 1 [[.str a]]), .sl 1 0 2 (some 2), .t (.list 1 [[.str a]]), .t (.int .i64 1), .t (.int .i64 0)] [.vs 2 [[.t (.str []), .t (.str [])]], .ts 1 [[.int .i64 0], [.int .i64 0]]])
          = some (.loop (.exit 0) [.ptr 0 0 0, .bad, .t (.list 1 [[.str a]]), .sl 1 0 2 (some 2)] [.vs 2 [[.t (.str []), .t (.str [])]], .ts 1 [[.int .i64 ra], [.int .i64 0]]]) := by
        refine zz Tryz.func132 rfl rfl ?_
        simp (disch := ((try simp only [LL]); omega)) only [↓GO, ↓DRW, GA, ren, zB, zd, refs, zb, cst, zl, zH, z7, E.load, E.store, zG, isC, bin, zI, zJ, una, z8, za, zh, zK, blt, fnV, asArg, ze, zn, zo, zj, zi, zg, zk, zr, z6, zD, zF, mkS, zc, unN, zM, zm, zy, zC, zf, zN, zq, GS, Int.reduceToNat, Nat.reduceGT, ↓reduceIte, Nat.reduceAdd, Nat.reduceMul, Nat.reduceSub, Nat.reduceEqDiff, Nat.reduceLeDiff, Nat.reduceLT, Nat.reduceBEq, Int.reduceBEq, Int.reduceBNe, Int.reduceEq, Int.reduceLT, Int.reduceLE, Int.reduceGT, Int.reduceNeg, reduceCtorEq, GZ, d1, e0, zx, zY, Int.reduceAdd]
        refine zz Tryz.func132 rfl rfl ?_
        simp (disch := ((try simp only [LL]); omega)) only [↓GO, ↓DRW, GA, ren, zB, zd, refs, zb, cst, zl, zH, z7, E.load, E.store, zG, isC, bin, zI, zJ, una, z8, za, zh, zK, blt, fnV, asArg, ze, zn, zo, zj, zi, zg, zk, zr, z6, zD, zF, mkS, zc, unN, zM, zm, zy, zC, zf, zN, zq, GS, Int.reduceToNat, Nat.reduceGT, ↓reduceIte, Nat.reduceAdd, Nat.reduceMul, Nat.reduceSub, Nat.reduceEqDiff, Nat.reduceLeDiff, Nat.reduceLT, Nat.reduceBEq, Int.reduceBEq, Int.reduceBNe, Int.reduceEq, Int.reduceLT, Int.reduceLE, Int.reduceGT, Int.reduceNeg, reduceCtorEq, GZ, zY]
      apply zu
      refine zw rfl Tryz.func132 rfl (by kernel_rfl) ?_
      unfold Tryz.f132
      simp (disch := ((try simp only [LL]); omega)) only [↓GO, ↓DRW, GA, ren, zB, zd, refs, zb, cst, zl, zH, z7, E.load, E.store, zG, isC, bin, zI, zJ, una, z8, za, zh, zK, blt, fnV, asArg, ze, zn, zo, zj, zi, zg, zk, zr, z6, zD, zF, mkS, zc, unN, zM, zm, zy, zC, zf, zN, zq, GS, Int.reduceToNat, Nat.reduceGT, ↓reduceIte, Nat.reduceAdd, Nat.reduceMul, Nat.reduceSub, Nat.reduceEqDiff, Nat.reduceLeDiff, Nat.reduceLT, Nat.reduceBEq, Int.reduceBEq, Int.reduceBNe, Int.reduceEq, Int.reduceLT, Int.reduceLE, Int.reduceGT, Int.reduceNeg, reduceCtorEq, GZ, h1, L, v1, v2, v3, zx, Int.reduceAdd, yf, zY]
      refine yT (by kernel_rfl) ?_
      simp (disch := ((try simp only [LL]); omega)) only [↓GO, ↓DRW, GA, ren, zB, zd, refs, zb, cst, zl, zH, z7, E.load, E.store, zG, isC, bin, zI, zJ, una, z8, za, zh, zK, blt, fnV, asArg, ze, zn, zo, zj, zi, zg, zk, zr, z6, zD, zF, mkS, zc, unN, zM, zm, zy, zC, zf, zN, zq, GS, Int.reduceToNat, Nat.reduceGT, ↓reduceIte, Nat.reduceAdd, Nat.reduceMul, Nat.reduceSub, Nat.reduceEqDiff, Nat.reduceLeDiff, Nat.reduceLT, Nat.reduceBEq, Int.reduceBEq, Int.reduceBNe, Int.reduceEq, Int.reduceLT, Int.reduceLE, Int.reduceGT, Int.reduceNeg, reduceCtorEq, GZ, h1, L, v1, v2, v3, zx, Int.reduceAdd, yf, zY]
  | [a, b] =>
    rw [hp] at h1 hbk
    simp only [yk, List.length_cons, List.length_nil] at hbk
    have d1 := mT a (by omega)
    have d2 := mT b (by omega)
    have hr := xo a
    have hr2 := xo b
    have v1 := uE ⟨zO a, zO b, 0, []⟩ (by simp [Ver.sm, yk])
    have v2 := mS (zO a) (zO b + 1) 0
    have e0 : decide (zO a < 0) = !decide (0 ≤ zO a) := by
      by_cases h : zO a < 0
      · rw [decide_eq_true h, decide_eq_false (by omega)]; rfl
      · rw [decide_eq_false h, decide_eq_true (by omega)]; rfl
    have e1 : decide (zO b < 0) = !decide (0 ≤ zO b) := by
      by_cases h : zO b < 0
      · rw [decide_eq_true h, decide_eq_false (by omega)]; rfl
      · rw [decide_eq_false h, decide_eq_true (by omega)]; rfl
    simp only
    generalize yb ⟨zO a, zO b, 0, []⟩ = t1 at *
    generalize ye (zO a) (zO b + 1) 0 = t2 at *
    generalize zO a = ra at *
    generalize zO b = rb at *
    simp only [xj, yf, Ver.enc, List.map_cons, List.map_nil, bdV] at h1 v1 ⊢
    cases hd : decide (0 ≤ ra) <;> rw [hd] at e0 <;> simp only [Bool.not_true, Bool.not_false] at e0
    · have L : EV Tryz.prog pol (.loop 132 250 0 [.ptr 0 0 0, .t (.list 1 [[.str a], [.str b]]), .sl 1 0 2 (some 2), .t (.list 1 [[.str a], [.str b]]), .t (.int .i64 2), .t (.int .i64 0)] [.vs 2 [[.t (.str []), .t (.str [])]], .ts 1 [[.int .i64 0], [.int .i64 0]]])
          = some (.loop .ret [.ptr 0 0 0, .t (.bool false), .t (.list 1 [[.str a], [.str b]]), .sl 1 0 2 (some 2)] [.vs 2 [[.t (.str []), .t (.str [])]], .ts 1 [[.int .i64 ra], [.int .i64 0]]]) := by
        refine zz Tryz.func132 rfl rfl ?_
        simp (disch := ((try simp only [LL]); omega)) only [↓GO, ↓DRW, GA, ren, zB, zd, refs, zb, cst, zl, zH, z7, E.load, E.store, zG, isC, bin, zI, zJ, una, z8, za, zh, zK, blt, fnV, asArg, ze, zn, zo, zj, zi, zg, zk, zr, z6, zD, zF, mkS, zc, unN, zM, zm, zy, zC, zf, zN, zq, GS, Int.reduceToNat, Nat.reduceGT, ↓reduceIte, Nat.reduceAdd, Nat.reduceMul, Nat.reduceSub, Nat.reduceEqDiff, Nat.reduceLeDiff, Nat.reduceLT, Nat.reduceBEq, Int.reduceBEq, Int.reduceBNe, Int.reduceEq, Int.reduceLT, Int.reduceLE, Int.reduceGT, Int.reduceNeg, reduceCtorEq, GZ, d1, e0, zx, zY]
      apply zu
      refine zw rfl Tryz.func132 rfl (by kernel_rfl) ?_
      unfold Tryz.f132
      simp (disch := ((try simp only [LL]); omega)) only [↓GO, ↓DRW, GA, ren, zB, zd, refs, zb, cst, zl, zH, z7, E.load, E.store, zG, isC, bin, zI, zJ, una, z8, za, zh, zK, blt, fnV, asArg, ze, zn, zo, zj, zi, zg, zk, zr, z6, zD, zF, mkS, zc, unN, zM, zm, zy, zC, zf, zN, zq, GS, Int.reduceToNat, Nat.reduceGT, ↓reduceIte, Nat.reduceAdd, Nat.reduceMul, Nat.reduceSub, Nat.reduceEqDiff, Nat.reduceLeDiff, Nat.reduceLT, Nat.reduceBEq, Int.reduceBEq, Int.reduceBNe, Int.reduceEq, Int.reduceLT, Int.reduceLE, Int.reduceGT, Int.reduceNeg, reduceCtorEq, GZ, h1, L, zY]
    · cases he : decide (0 ≤ rb) <;> rw [he] at e1 <;> simp only [Bool.not_true, Bool.not_false] at e1
      · have L : EV Tryz.prog pol (.loop 132 250 0 [.ptr 0 0 0, .t (.list 1 [[.str a], [.str b]]), .sl 1 0 2 (some 2), .t (.list 1 [[.str a], [.str b]]), .t (.int .i64 2), .t (.int .i64 0)] [.vs 2 [[.t (.str []), .t (.str [])]], .ts 1 [[.int .i64 0], [.int .i64 0]]])
            = some (.loop .ret [.ptr 0 0 0, .t (.bool false), .t (.list 1 [[.str a], [.str b]]), .sl 1 0 2 (some 2)] [.vs 2 [[.t (.str []), .t (.str [])]], .ts 1 [[.int .i64 ra], [.int .i64 rb]]]) := by
          refine zz Tryz.func132 rfl rfl ?_
          simp (disch := ((try simp only [LL]); omega)) only [↓GO, ↓DRW, GA, ren, zB, zd, refs, zb, cst, zl, zH, z7, E.load, E.store, zG, isC, bin, zI, zJ, una, z8, za, zh, zK, blt, fnV, asArg, ze, zn, zo, zj, zi, zg, zk, zr, z6, zD, zF, mkS, zc, unN, zM, zm, zy, zC, zf, zN, zq, GS, Int.reduceToNat, Nat.reduceGT, ↓reduceIte, Nat.reduceAdd, Nat.reduceMul, Nat.reduceSub, Nat.reduceEqDiff, Nat.reduceLeDiff, Nat.reduceLT, Nat.reduceBEq, Int.reduceBEq, Int.reduceBNe, Int.reduceEq, Int.reduceLT, Int.reduceLE, Int.reduceGT, Int.reduceNeg, reduceCtorEq, GZ, d1, e0, zx, zY, Int.reduceAdd]
          refine zz Tryz.func132 rfl rfl ?_
          simp (disch := ((try simp only [LL]); omega)) only [↓GO, ↓DRW, GA, ren, zB, zd, refs, zb, cst, zl, zH, z7, E.load, E.store, zG, isC, bin, zI, zJ, una, z8, za, zh, zK, blt, fnV, asArg, ze, zn, zo, zj, zi, zg, zk, zr, z6, zD, zF, mkS, zc, unN, zM, zm, zy, zC, zf, zN, zq, GS, Int.reduceToNat, Nat.reduceGT, ↓reduceIte, Nat.reduceAdd, Nat.reduceMul, Nat.reduceSub, Nat.reduceEqDiff, Nat.reduceLeDiff, Nat.reduceLT, Nat.reduceBEq, Int.reduceBEq, Int.reduceBNe, Int.reduceEq, Int.reduceLT, Int.reduceLE, Int.reduceGT, Int.reduceNeg, reduceCtorEq, GZ, d2, e1, zx, zY]
        apply zu
        refine zw rfl Tryz.func132 rfl (by kernel_rfl) ?_
        unfold Tryz.f132
        simp (disch := ((try simp only [LL]); omega)) only [↓GO, ↓DRW, GA, ren, zB, zd, refs, zb, cst, zl, zH, z7, E.load, E.store, zG, isC, bin, zI, zJ, una, z8, za, zh, zK, blt, fnV, asArg, ze, zn, zo, zj, zi, zg, zk, zr, z6, zD, zF, mkS, zc, unN, zM, zm, zy, zC, zf, zN, zq, GS, Int.reduceToNat, Nat.reduceGT, ↓reduceIte, Nat.reduceAdd, Nat.reduceMul, Nat.reduceSub, Nat.reduceEqDiff, Nat.reduceLeDiff, Nat.reduceLT, Nat.reduceBEq, Int.reduceBEq, Int.reduceBNe, Int.reduceEq, Int.reduceLT, Int.reduceLE, Int.reduceGT, Int.reduceNeg, reduceCtorEq, GZ, h1, L, zY]
      · have L : EV Tryz.prog pol (.loop 132 250 0 [.ptr 0 0 0, .t (.list 1 [[.str a], [.str b]]), .sl 1 0 2 (some 2), .t (.list 1 [[.str a], [.str b]]), .t (.int .i64 2), .t (.int .i64 0)] [.vs 2 [[.t (.str []), .t (.str [])]], .ts 1 [[.int .i64 0], [.int .i64 0]]])
            = some (.loop (.exit 0) [.ptr 0 0 0, .bad, .t (.list 1 [[.str a], [.str b]]), .sl 1 0 2 (some 2)] [.vs 2 [[.t (.str []), .t (.str [])]], .ts 1 [[.int .i64 ra], [.int .i64 rb]]]) := by
          refine zz Tryz.func132 rfl rfl ?_
          simp (disch := ((try simp only [LL]); omega)) only [↓GO, ↓DRW, GA, ren, zB, zd, refs, zb, cst, zl, zH, z7, E.load, E.store, zG, isC, bin, zI, zJ, una, z8, za, zh, zK, blt, fnV, asArg, ze, zn, zo, zj, zi, zg, zk, zr, z6, zD, zF, mkS, zc, unN, zM, zm, zy, zC, zf, zN, zq, GS, Int.reduceToNat, Nat.reduceGT, ↓reduceIte, Nat.reduceAdd, Nat.reduceMul, Nat.reduceSub, Nat.reduceEqDiff, Nat.reduceLeDiff, Nat.reduceLT, Nat.reduceBEq, Int.reduceBEq, Int.reduceBNe, Int.reduceEq, Int.reduceLT, Int.reduceLE, Int.reduceGT, Int.reduceNeg, reduceCtorEq, GZ, d1, e0, zx, zY, Int.reduceAdd]
          refine zz Tryz.func132 rfl rfl ?_
          simp (disch := ((try simp only [LL]); omega)) only [↓GO, ↓DRW, GA, ren, zB, zd, refs, zb, cst, zl, zH, z7, E.load, E.store, zG, isC, bin, zI, zJ, una, z8, za, zh, zK, blt, fnV, asArg, ze, zn, zo, zj, zi, zg, zk, zr, z6, zD, zF, mkS, zc, unN, zM, zm, zy, zC, zf, zN, zq, GS, Int.reduceToNat, Nat.reduceGT, ↓reduceIte, Nat.reduceAdd, Nat.reduceMul, Nat.reduceSub, Nat.reduceEqDiff, Nat.reduceLeDiff, Nat.reduceLT, Nat.reduceBEq, Int.reduceBEq, Int.reduceBNe, Int.reduceEq, Int.reduceLT, Int.reduceLE, Int.reduceGT, Int.reduceNeg, reduceCtorEq, GZ, d2, e1, zx, zY, Int.reduceAdd]
          refine zz Tryz.func132 rfl rfl ?_
          simp (disch := ((try simp only [LL]); omega)) only [↓GO, ↓DRW, GA, ren, zB, zd, refs, zb, cst, zl, zH, z7, E.load, E.store, zG, isC, bin, zI, zJ, una, z8, za, zh, zK, blt, fnV, asArg, ze, zn, zo, zj, zi, zg, zk, zr, z6, zD, zF, mkS, zc, unN, zM, zm, zy, zC, zf, zN, zq, GS, Int.reduceToNat, Nat.reduceGT, ↓reduceIte, Nat.reduceAdd, Nat.reduceMul, Nat.reduceSub, Nat.reduceEqDiff, Nat.reduceLeDiff, Nat.reduceLT, Nat.reduceBEq, Int.reduceBEq, Int.reduceBNe, Int.reduceEq, Int.reduceLT, Int.reduceLE, Int.reduceGT, Int.reduceNeg, reduceCtorEq, GZ, zY]
        apply zu
        refine zw rfl Tryz.func132 rfl (by kernel_rfl) ?_
        unfold Tryz.f132
        simp (disch := ((try simp only [LL]); omega)) only [↓GO, ↓DRW, GA, ren, zB, zd, refs, zb, cst, zl, zH, z7, E.load, E.store, zG, isC, bin, zI, zJ, una, z8, za, zh, zK, blt, fnV, asArg, ze, zn, zo, zj, zi, zg, zk, zr, z6, zD, zF, mkS, zc, unN, zM, zm, zy, zC, zf, zN, zq, GS, Int.reduceToNat, Nat.reduceGT, ↓reduceIte, Nat.reduceAdd, Nat.reduceMul, Nat.reduceSub, Nat.reduceEqDiff, Nat.reduceLeDiff, Nat.reduceLT, Nat.reduceBEq, Int.reduceBEq, Int.reduceBNe, Int.reduceEq, Int.reduceLT, Int.reduceLE, Int.reduceGT, Int.reduceNeg, reduceCtorEq, GZ, h1, L, v1, v2, zx, yf, zY]
        refine yT (by kernel_rfl) ?_
        simp (disch := ((try simp only [LL]); omega)) only [↓GO, ↓DRW, GA, ren, zB, zd, refs, zb, cst, zl, zH, z7, E.load, E.store, zG, isC, bin, zI, zJ, una, z8, za, zh, zK, blt, fnV, asArg, ze, zn, zo, zj, zi, zg, zk, zr, z6, zD, zF, mkS, zc, unN, zM, zm, zy, zC, zf, zN, zq, GS, Int.reduceToNat, Nat.reduceGT, ↓reduceIte, Nat.reduceAdd, Nat.reduceMul, Nat.reduceSub, Nat.reduceEqDiff, Nat.reduceLeDiff, Nat.reduceLT, Nat.reduceBEq, Int.reduceBEq, Int.reduceBNe, Int.reduceEq, Int.reduceLT, Int.reduceLE, Int.reduceGT, Int.reduceNeg, reduceCtorEq, GZ, h1, L, v1, v2, zx, yf, zY]
  | a :: b :: c :: r =>
    rw [hp] at h1
    have hc : decide (((a :: b :: c :: r).length : Int) > 2) = true := by apply decide_eq_true; simp only [List.length_cons]; omega
    simp only [bdV]
    generalize a :: b :: c :: r = ps at *
    apply zu
    refine zw rfl Tryz.func132 rfl (by kernel_rfl) ?_
    unfold Tryz.f132
    simp (disch := ((try simp only [LL]); omega)) only [↓GO, ↓DRW, GA, ren, zB, zd, refs, zb, cst, zl, zH, z7, E.load, E.store, zG, isC, bin, zI, zJ, una, z8, za, zh, zK, blt, fnV, asArg, ze, zn, zo, zj, zi, zg, zk, zr, z6, zD, zF, mkS, zc, unN, zM, zm, zy, zC, zf, zN, zq, GS, Int.reduceToNat, Nat.reduceGT, ↓reduceIte, Nat.reduceAdd, Nat.reduceMul, Nat.reduceSub, Nat.reduceEqDiff, Nat.reduceLeDiff, Nat.reduceLT, Nat.reduceBEq, Int.reduceBEq, Int.reduceBNe, Int.reduceEq, Int.reduceLT, Int.reduceLE, Int.reduceGT, Int.reduceNeg, reduceCtorEq, GZ, h1, hc, zP, zY]
theorem Zz (s p : Str) (hs : s.length ≤ 9223372036854775807) (hp : p.length ≤ 9223372036854775807) : zE (EV Tryz.prog pol) 160 [.t (.str s), .t (.str p)] = some (.tup [.t (.str (cond (p.isPrefixOf s) (s.drop p.length) s)), .t (.bool (p.isPrefixOf s))]) := by
  have h := po s p hs hp
  cases hb : p.isPrefixOf s with
  | false =>
    rw [hb] at h
    apply zu
    refine zw rfl Tryz.func160 rfl (by kernel_rfl) ?_
    unfold Tryz.f160
    simp (disch := ((try simp only [LL]); omega)) only [↓GO, ↓DRW, GA, ren, zB, zd, refs, zb, cst, zl, zH, z7, E.load, E.store, zG, isC, bin, zI, zJ, una, z8, za, zh, zK, blt, fnV, asArg, ze, zn, zo, zj, zi, zg, zk, zr, z6, zD, zF, mkS, zc, unN, zM, zm, zy, zC, zf, zN, zq, GS, Int.reduceToNat, Nat.reduceGT, ↓reduceIte, Nat.reduceAdd, Nat.reduceMul, Nat.reduceSub, Nat.reduceEqDiff, Nat.reduceLeDiff, Nat.reduceLT, Nat.reduceBEq, Int.reduceBEq, Int.reduceBNe, Int.reduceEq, Int.reduceLT, Int.reduceLE, Int.reduceGT, Int.reduceNeg, reduceCtorEq, GZ, h]
  | true =>
    have h2 := mi hb
    rw [hb] at h
    apply zu
    refine zw rfl Tryz.func160 rfl (by kernel_rfl) ?_
    unfold Tryz.f160
    simp (disch := ((try simp only [LL]); omega)) only [↓GO, ↓DRW, GA, ren, zB, zd, refs, zb, cst, zl, zH, z7, E.load, E.store, zG, isC, bin, zI, zJ, una, z8, za, zh, zK, blt, fnV, asArg, ze, zn, zo, zj, zi, zg, zk, zr, z6, zD, zF, mkS, zc, unN, zM, zm, zy, zC, zf, zN, zq, GS, Int.reduceToNat, Nat.reduceGT, ↓reduceIte, Nat.reduceAdd, Nat.reduceMul, Nat.reduceSub, Nat.reduceEqDiff, Nat.reduceLeDiff, Nat.reduceLT, Nat.reduceBEq, Int.reduceBEq, Int.reduceBNe, Int.reduceEq, Int.reduceLT, Int.reduceLE, Int.reduceGT, Int.reduceNeg, reduceCtorEq, GZ, h]
theorem ei (s p : Str) (hs : s.length ≤ 9223372036854775807) (hp : p.length ≤ 9223372036854775807) : zE (EV Tryz.prog pol) 128 [.t (.str s), .t (.str p)] = some (.tup [.t (.str (cond (p.isPrefixOf s) (s.drop p.length) s)), .t (.bool (p.isPrefixOf s))]) := by
  have h := Zz s p hs hp
  apply zu
  refine zw rfl Tryz.func128 rfl (by kernel_rfl) ?_
  unfold Tryz.f128
  simp (disch := ((try simp only [LL]); omega)) only [↓GO, ↓DRW, GA, ren, zB, zd, refs, zb, cst, zl, zH, z7, E.load, E.store, zG, isC, bin, zI, zJ, una, z8, za, zh, zK, blt, fnV, asArg, ze, zn, zo, zj, zi, zg, zk, zr, z6, zD, zF, mkS, zc, unN, zM, zm, zy, zC, zf, zN, zq, GS, Int.reduceToNat, Nat.reduceGT, ↓reduceIte, Nat.reduceAdd, Nat.reduceMul, Nat.reduceSub, Nat.reduceEqDiff, Nat.reduceLeDiff, Nat.reduceLT, Nat.reduceBEq, Int.reduceBEq, Int.reduceBNe, Int.reduceEq, Int.reduceLT, Int.reduceLE, Int.reduceGT, Int.reduceNeg, reduceCtorEq, GZ, h]
theorem Xi (s : Str) : (xh s).1.length ≤ s.length ∧ (xh s).2.1.length ≤ s.length := by
  have h := congrArg List.length (jz s)
  rw [List.length_append] at h
  cases hc : (xh s).2.2 with
  | true => rw [hc] at h; simp only [cond_true, List.length_cons] at h; omega
  | false =>
    have : (xh s).2.1 = [] := by
      have key : ∀ s : Str, (xh s).2.2 = false → (xh s).2.1 = [] := fun s => by
        induction s with
        | nil => intro _; rfl
        | cons x r ih =>
          intro h
          rw [xh] at h ⊢
          split at h
          · cases h
          · rename_i hx; rw [if_neg hx]; exact ih h
      exact key s hc
    rw [this]; rw [hc] at h; simp only [cond_false, List.length_nil] at h ⊢; omega
theorem XD (s : Str) (hl : s.length ≤ 1048600) : zE (EV Tryz.prog pol) 96 [.t (.str s)] = some (.tup [bdV (xC s).1, .t (.bool (xC s).2)]) := by
  unfold xC
  cases h42 : (s == [42]) with
  | true =>
    simp only [cond_true, bdV]
    apply zu
    refine zw rfl Tryz.func96 rfl (by kernel_rfl) ?_
    unfold Tryz.f96
    simp (disch := ((try simp only [LL]); omega)) only [↓GO, ↓DRW, GA, ren, zB, zd, refs, zb, cst, zl, zH, z7, E.load, E.store, zG, isC, bin, zI, zJ, una, z8, za, zh, zK, blt, fnV, asArg, ze, zn, zo, zj, zi, zg, zk, zr, z6, zD, zF, mkS, zc, unN, zM, zm, zy, zC, zf, zN, zq, GS, Int.reduceToNat, Nat.reduceGT, ↓reduceIte, Nat.reduceAdd, Nat.reduceMul, Nat.reduceSub, Nat.reduceEqDiff, Nat.reduceLeDiff, Nat.reduceLT, Nat.reduceBEq, Int.reduceBEq, Int.reduceBNe, Int.reduceEq, Int.reduceLT, Int.reduceLE, Int.reduceGT, Int.reduceNeg, reduceCtorEq, GZ, h42]
  | false =>
    have hrv := oA s (by omega)
    obtain ⟨m1, m2, m3, m4, m5, m6, m7⟩ := yW s (by omega)
    have hpr := pI s (by omega)
    unfold rvT at hrv
    have hisv : (zA s).2 = isV s := rfl
    rw [hisv] at hrv
    simp only [cond_false]
    cases hv : isV s with
    | true =>
      have hal := aD (zA s).1 m1 (by omega) m7 m6
      rw [(yu (s := s) hv).2.1] at hal
      rw [hv] at hrv
      simp only [cond_true, bdV]
      generalize uJ (zA s).1 = hi at *
      generalize (zA s).1 = v at *
      simp only [Ver.enc, List.map_cons, List.map_nil] at hrv hal ⊢
      apply zu
      refine zw rfl Tryz.func96 rfl (by kernel_rfl) ?_
      unfold Tryz.f96
      simp (disch := ((try simp only [LL]); omega)) only [↓GO, ↓DRW, GA, ren, zB, zd, refs, zb, cst, zl, zH, z7, E.load, E.store, zG, isC, bin, zI, zJ, una, z8, za, zh, zK, blt, fnV, asArg, ze, zn, zo, zj, zi, zg, zk, zr, z6, zD, zF, mkS, zc, unN, zM, zm, zy, zC, zf, zN, zq, GS, Int.reduceToNat, Nat.reduceGT, ↓reduceIte, Nat.reduceAdd, Nat.reduceMul, Nat.reduceSub, Nat.reduceEqDiff, Nat.reduceLeDiff, Nat.reduceLT, Nat.reduceBEq, Int.reduceBEq, Int.reduceBNe, Int.reduceEq, Int.reduceLT, Int.reduceLE, Int.reduceGT, Int.reduceNeg, reduceCtorEq, GZ, h42, hrv, hal]
    | false =>
      have hc1 := ei s [62, 61] (by omega) (by simp)
      have hc2 := ei s [60] (by omega) (by simp)
      have hc3 := Tx (s.drop 2) [32, 60] (by rw [List.length_drop]; omega)
      have hcl := Xi (s.drop 2)
      rw [List.length_drop] at hcl
      have hi1 := qH (xh (s.drop 2)).1 (by omega)
      have hi2 := qH (xh (s.drop 2)).2.1 (by omega)
      rw [fV] at hc3
      have hi3 := qH (s.drop 1) (by rw [List.length_drop]; omega)
      have hpt := Zw s (by omega)
      rw [hv] at hrv
      rw [show (([62, 61] : Str).isPrefixOf s) = geP s from rfl, show (([62, 61] : Str).length) = 2 from rfl] at hc1
      rw [show (([60] : Str).isPrefixOf s) = ltP s from rfl, show (([60] : Str).length) = 1 from rfl] at hc2
      generalize (zA s).1 = v at *
      simp only [Ver.enc, List.map_cons, List.map_nil] at hrv
      simp only [cond_false]
      cases hg : geP s with
      | true =>
        rw [hg] at hc1
        simp only [cond_true] at hc1 ⊢
        generalize isV (xh (s.drop 2)).1 = b1 at *
        generalize isV (xh (s.drop 2)).2.1 = b2 at *
        generalize (xh (s.drop 2)).1 = c1 at *
        generalize (xh (s.drop 2)).2.1 = c2 at *
        generalize (xh (s.drop 2)).2.2 = b3 at *
        simp only [bdV]
        cases b1 <;> cases b3 <;> cases b2
        all_goals
          apply zu
          refine zw rfl Tryz.func96 rfl (by kernel_rfl) ?_
          unfold Tryz.f96
          simp (disch := ((try simp only [LL]); omega)) only [↓GO, ↓DRW, GA, ren, zB, zd, refs, zb, cst, zl, zH, z7, E.load, E.store, zG, isC, bin, zI, zJ, una, z8, za, zh, zK, blt, fnV, asArg, ze, zn, zo, zj, zi, zg, zk, zr, z6, zD, zF, mkS, zc, unN, zM, zm, zy, zC, zf, zN, zq, GS, Int.reduceToNat, Nat.reduceGT, ↓reduceIte, Nat.reduceAdd, Nat.reduceMul, Nat.reduceSub, Nat.reduceEqDiff, Nat.reduceLeDiff, Nat.reduceLT, Nat.reduceBEq, Int.reduceBEq, Int.reduceBNe, Int.reduceEq, Int.reduceLT, Int.reduceLE, Int.reduceGT, Int.reduceNeg, reduceCtorEq, GZ, h42, hrv, hc1, hc3, hi1, hi2]
      | false =>
        rw [hg] at hc1
        simp only [cond_false] at hc1 ⊢
        cases hlp : ltP s with
        | true =>
          rw [hlp] at hc2
          simp only [cond_true] at hc2 ⊢
          generalize isV (s.drop 1) = b1 at *
          simp only [bdV]
          apply zu
          refine zw rfl Tryz.func96 rfl (by kernel_rfl) ?_
          unfold Tryz.f96
          simp (disch := ((try simp only [LL]); omega)) only [↓GO, ↓DRW, GA, ren, zB, zd, refs, zb, cst, zl, zH, z7, E.load, E.store, zG, isC, bin, zI, zJ, una, z8, za, zh, zK, blt, fnV, asArg, ze, zn, zo, zj, zi, zg, zk, zr, z6, zD, zF, mkS, zc, unN, zM, zm, zy, zC, zf, zN, zq, GS, Int.reduceToNat, Nat.reduceGT, ↓reduceIte, Nat.reduceAdd, Nat.reduceMul, Nat.reduceSub, Nat.reduceEqDiff, Nat.reduceLeDiff, Nat.reduceLT, Nat.reduceBEq, Int.reduceBEq, Int.reduceBNe, Int.reduceEq, Int.reduceLT, Int.reduceLE, Int.reduceGT, Int.reduceNeg, reduceCtorEq, GZ, h42, hrv, hc1, hc2, hi3]
        | false =>
          rw [hlp] at hc2
          simp only [cond_false] at hc2 ⊢
          cases s with
          | nil =>
            simp only [hdB, Bool.or_false, cond_false]
            generalize wc [] = pp at *
            simp only [bdV] at hpt ⊢
            have hn : (([] : Str) == []) = true := rfl
            apply zu
            refine zw rfl Tryz.func96 rfl (by kernel_rfl) ?_
            unfold Tryz.f96
            simp (disch := ((try simp only [LL]); omega)) only [↓GO, ↓DRW, GA, ren, zB, zd, refs, zb, cst, zl, zH, z7, E.load, E.store, zG, isC, bin, zI, zJ, una, z8, za, zh, zK, blt, fnV, asArg, ze, zn, zo, zj, zi, zg, zk, zr, z6, zD, zF, mkS, zc, unN, zM, zm, zy, zC, zf, zN, zq, GS, Int.reduceToNat, Nat.reduceGT, ↓reduceIte, Nat.reduceAdd, Nat.reduceMul, Nat.reduceSub, Nat.reduceEqDiff, Nat.reduceLeDiff, Nat.reduceLT, Nat.reduceBEq, Int.reduceBEq, Int.reduceBNe, Int.reduceEq, Int.reduceLT, Int.reduceLE, Int.reduceGT, Int.reduceNeg, reduceCtorEq, GZ, h42, hrv, hc1, hc2, hn, bne, hpt]
          | cons x r =>
            have hn : ((x :: r) == []) = false := rfl
            have hg0 : (x :: r)[0]? = some x := rfl
            have hdr : (x :: r).drop 1 = r := rfl
            have hxl : 1 ≤ (x :: r).length := by simp
            have h94 : ((x.toNat : Int) == 94) = (x == 94) := by
              rw [Bool.eq_iff_iff]; simp only [beq_iff_eq]
              constructor
              · intro h; exact UInt8.toNat_inj.1 (by rw [show (94 : UInt8).toNat = 94 from rfl]; omega)
              · intro h; rw [h]; rfl
            have h126 : ((x.toNat : Int) == 126) = (x == 126) := by
              rw [Bool.eq_iff_iff]; simp only [beq_iff_eq]
              constructor
              · intro h; exact UInt8.toNat_inj.1 (by rw [show (126 : UInt8).toNat = 126 from rfl]; omega)
              · intro h; rw [h]; rfl
            have hrr := oA r (by simp only [List.length_cons] at hl; omega)
            obtain ⟨n1, n2, n3, n4, n5, n6, n7⟩ := yW r (by simp only [List.length_cons] at hl; omega)
            have z1 := mS (zA r).1.maj ((zA r).1.min + 1) 0
            have z2 := mS ((zA r).1.maj + 1) 0 0
            have z3 := mS 0 0 ((zA r).1.pat + 1)
            unfold rvT at hrr
            rw [show (zA r).2 = isV r from rfl] at hrr
            unfold Vx
            rw [hdr]
            simp only [hdB]
            clear hi3 hc3 hi1 hi2 hcl
            generalize x :: r = xr at *
            generalize isV r = b1 at *
            unfold pA
            generalize (zA r).1 = w at *
            generalize ye w.maj (w.min + 1) 0 = t1 at *
            generalize ye (w.maj + 1) 0 0 = t2 at *
            generalize ye 0 0 (w.pat + 1) = t3 at *
            generalize wc xr = pp at *
            simp only [Ver.enc, List.map_cons, List.map_nil, bdV] at hrr hpt ⊢
            cases e1 : (x == 94) <;> rw [e1] at h94
            · cases e2 : (x == 126) <;> rw [e2] at h126
              · apply zu
                refine zw rfl Tryz.func96 rfl (by kernel_rfl) ?_
                unfold Tryz.f96
                simp (disch := ((try simp only [LL]); omega)) only [↓GO, ↓DRW, GA, ren, zB, zd, refs, zb, cst, zl, zH, z7, E.load, E.store, zG, isC, bin, zI, zJ, una, z8, za, zh, zK, blt, fnV, asArg, ze, zn, zo, zj, zi, zg, zk, zr, z6, zD, zF, mkS, zc, unN, zM, zm, zy, zC, zf, zN, zq, GS, Int.reduceToNat, Nat.reduceGT, ↓reduceIte, Nat.reduceAdd, Nat.reduceMul, Nat.reduceSub, Nat.reduceEqDiff, Nat.reduceLeDiff, Nat.reduceLT, Nat.reduceBEq, Int.reduceBEq, Int.reduceBNe, Int.reduceEq, Int.reduceLT, Int.reduceLE, Int.reduceGT, Int.reduceNeg, reduceCtorEq, GZ, h42, hrv, hc1, hc2, hn, bne, hg0, h94, h126, hpt]
              · apply zu
                refine zw rfl Tryz.func96 rfl (by kernel_rfl) ?_
                unfold Tryz.f96
                simp (disch := ((try simp only [LL]); omega)) only [↓GO, ↓DRW, GA, ren, zB, zd, refs, zb, cst, zl, zH, z7, E.load, E.store, zG, isC, bin, zI, zJ, una, z8, za, zh, zK, blt, fnV, asArg, ze, zn, zo, zj, zi, zg, zk, zr, z6, zD, zF, mkS, zc, unN, zM, zm, zy, zC, zf, zN, zq, GS, Int.reduceToNat, Nat.reduceGT, ↓reduceIte, Nat.reduceAdd, Nat.reduceMul, Nat.reduceSub, Nat.reduceEqDiff, Nat.reduceLeDiff, Nat.reduceLT, Nat.reduceBEq, Int.reduceBEq, Int.reduceBNe, Int.reduceEq, Int.reduceLT, Int.reduceLE, Int.reduceGT, Int.reduceNeg, reduceCtorEq, GZ, h42, hrv, hc1, hc2, hn, bne, hg0, h94, h126, hdr, hrr, z1, zx]
            · cases e3 : decide (w.maj > 0)
              · cases e4 : (w.min == 0)
                all_goals
                  apply zu
                  refine zw rfl Tryz.func96 rfl (by kernel_rfl) ?_
                  unfold Tryz.f96
                  simp (disch := ((try simp only [LL]); omega)) only [↓GO, ↓DRW, GA, ren, zB, zd, refs, zb, cst, zl, zH, z7, E.load, E.store, zG, isC, bin, zI, zJ, una, z8, za, zh, zK, blt, fnV, asArg, ze, zn, zo, zj, zi, zg, zk, zr, z6, zD, zF, mkS, zc, unN, zM, zm, zy, zC, zf, zN, zq, GS, Int.reduceToNat, Nat.reduceGT, ↓reduceIte, Nat.reduceAdd, Nat.reduceMul, Nat.reduceSub, Nat.reduceEqDiff, Nat.reduceLeDiff, Nat.reduceLT, Nat.reduceBEq, Int.reduceBEq, Int.reduceBNe, Int.reduceEq, Int.reduceLT, Int.reduceLE, Int.reduceGT, Int.reduceNeg, reduceCtorEq, GZ, h42, hrv, hc1, hc2, hn, bne, hg0, h94, hdr, hrr, z1, z2, z3, e3, e4, zx]
              · apply zu
                refine zw rfl Tryz.func96 rfl (by kernel_rfl) ?_
                unfold Tryz.f96
                simp (disch := ((try simp only [LL]); omega)) only [↓GO, ↓DRW, GA, ren, zB, zd, refs, zb, cst, zl, zH, z7, E.load, E.store, zG, isC, bin, zI, zJ, una, z8, za, zh, zK, blt, fnV, asArg, ze, zn, zo, zj, zi, zg, zk, zr, z6, zD, zF, mkS, zc, unN, zM, zm, zy, zC, zf, zN, zq, GS, Int.reduceToNat, Nat.reduceGT, ↓reduceIte, Nat.reduceAdd, Nat.reduceMul, Nat.reduceSub, Nat.reduceEqDiff, Nat.reduceLeDiff, Nat.reduceLT, Nat.reduceBEq, Int.reduceBEq, Int.reduceBNe, Int.reduceEq, Int.reduceLT, Int.reduceLE, Int.reduceGT, Int.reduceNeg, reduceCtorEq, GZ, h42, hrv, hc1, hc2, hn, bne, hg0, h94, hdr, hrr, z1, z2, z3, e3, zx]
end Go.Proofs.YtmcephnfcciloaaGreatDoor
/- Ranges, by the implementation: the whole. Conditions: those of each lemma. -/
namespace Go.Proofs.YtmcephnfcciloaaGreatDoor
open E
set_option linter.unusedSimpArgs false
set_option linter.unusedVariables false
set_option maxRecDepth 100000
theorem gy : ∀ l : List Str, (l.all fun p => wm p) = true → yk l ≤ 20 * l.length
  | [], _ => by simp [yk]
  | p :: l, h => by
    simp only [List.all_cons, Bool.and_eq_true] at h
    have ih := gy l h.2
    have h1 := h.1
    unfold wm B2 at h1
    simp only [Bool.and_eq_true, decide_eq_true_eq] at h1
    have := h1.1.2
    simp only [yk, List.length_cons]
    omega
theorem mW {v : Ver} (h : yv v = true) : (yb v).length ≤ 140 := by
  obtain ⟨_, _, _, h4, h5⟩ := w6 h
  have h6 := gy v.pre h4
  have h7 := fZ h
  have h8 := lj (ve v) v.pre
  unfold yb
  rw [h, cond_true]
  omega
theorem Zf {s : Str} (h : isV s = true) : s.length ≤ 140 := by
  obtain ⟨_, ht, ho, _⟩ := yu h
  have := mW ho
  rwa [ht] at this
theorem lY {s : Str} (h : isE s = true) : s.length ≤ 140 := by
  unfold isE at h
  rw [Bool.or_eq_true] at h
  rcases h with h | h
  · exact Zf h
  · rw [eq_of_beq h]; simp
theorem nT {ps : List Str} {l : List Bd} (h : vP ps = some l) : ∀ b ∈ l, b.1.length ≤ 140 ∧ b.2.length ≤ 140 := fun b hb => by
  have h1 := (sJ ps l h).1
  rw [List.all_eq_true] at h1
  have h2 := h1 b hb
  rw [Bool.and_eq_true] at h2
  exact ⟨lY h2.1, lY h2.2⟩
theorem aV (s sep : Str) : sb s sep = Lib.split s sep := by
  unfold sb Lib.split Lib.countB
  rw [Lib.splitB_data]
/-- what a reading of ranges gives -/
def rrT : Option (List Bd) → V
  | some l => .tup [.t (.list 2 (bdT l)), .t (.bool true)]
  | none => .tup [.t (.list 2 []), .t (.bool false)]
/-- how the loop ends -/
def ou (ps : List Str) (acc : List Bd) (cap : Option Nat) (x : List Bd) : Option (List Bd) → xP
  | some bs => .loop (.exit 0) [.bad, .bad, .sl 0 0 (acc.length + bs.length) cap] [.ts 2 (bdT (acc ++ bs))]
  | none => .loop .ret [.nil 2, .t (.bool false), .sl 0 0 x.length cap] [.ts 2 (bdT x)]
set_option maxHeartbeats 4000000 in
theorem Tj (ps : List Str) (hl : ps.length ≤ 1048576) (hb : ∀ p ∈ ps, p.length ≤ 1048576) : ∀ (rest pre : List Str) (acc : List Bd) (cap : Option Nat) (m : Nat), ps = pre ++ rest → m = acc.length → acc.length = pre.length →
    ∃ cap' x, EV Tryz.prog pol (.loop 64 122 0 [.sl 0 0 m cap, .t (.list 1 (y6 ps)), .t (.int .i64 (ps.length : Int)), .t (.int .i64 (pre.length : Int))] [.ts 2 (bdT acc)]) = some (ou ps acc cap' x (vP rest))
  | [], pre, acc, cap, m, hs, hm, ha => by
    have c : decide ((pre.length : Int) < (ps.length : Int)) = false := by simp [hs]
    refine ⟨cap, [], ?_⟩
    simp only [vP, ou, List.append_nil, List.length_nil, Nat.add_zero]
    subst hm
    refine zz Tryz.func64 rfl rfl ?_
    simp (disch := ((try simp only [LL]); omega)) only [↓GO, ↓DRW, GA, ren, zB, zd, refs, zb, cst, zl, zH, z7, E.load, E.store, zG, isC, bin, zI, zJ, una, z8, za, zh, zK, blt, fnV, asArg, ze, zn, zo, zj, zi, zg, zk, zr, z6, zD, zF, mkS, zc, unN, zM, zm, zy, zC, zf, zN, zq, GS, Int.reduceToNat, Nat.reduceGT, ↓reduceIte, Nat.reduceAdd, Nat.reduceMul, Nat.reduceSub, Nat.reduceEqDiff, Nat.reduceLeDiff, Nat.reduceLT, Nat.reduceBEq, Int.reduceBEq, Int.reduceBNe, Int.reduceEq, Int.reduceLT, Int.reduceLE, Int.reduceGT, Int.reduceNeg, reduceCtorEq, GZ, c, zY]
  | p :: rest, pre, acc, cap, m, hs, hm, ha => by
    have c : decide ((pre.length : Int) < (ps.length : Int)) = true := by simp [hs]; omega
    have hget : (y6 ps)[pre.length]? = some [.str p] := by rw [hs]; exact wB (fun s : Str => [T.str s]) pre p rest
    have hlen : pre.length + rest.length + 1 ≤ ps.length := by rw [hs]; simp; omega
    have hpb := hb p (by rw [hs]; simp)
    have hB := XD p (by omega)
    have h1 := mF p [60] (by omega) (by simp)
    have h2 := mF p [62, 61] (by omega) (by simp)
    rw [show ([60] : Str).isPrefixOf p = ltP p from rfl] at h1
    rw [show ([62, 61] : Str).isPrefixOf p = geP p from rfl] at h2
    have hchk := Xl p
    unfold tC sM at hchk
    have IHs := fun b => Tj ps hl hb rest (pre ++ [p]) (acc ++ [b]) none (m + 1) (by rw [hs]; simp) (by simp [hm]) (by simp [ha])
    rw [show ((pre ++ [p]).length : Int) = (pre.length : Int) + 1 by simp] at IHs
    have hol : (bdT acc).length = m := by rw [xO, hm]
    have hml : m ≤ 1048578 := by omega
    have hm0 := hm
    clear hs hb
    simp only [vP]
    rw [← hchk]
    clear hchk
    generalize xC p = bb at *
    obtain ⟨⟨lo, hi⟩, ok⟩ := bb
    simp only [bdV] at hB
    simp only
    cases h3 : (p == [42]) <;> cases h4 : ltP p <;> rw [h4] at h1 <;> cases h5 : geP p <;> rw [h5] at h2 <;> cases ok <;> cases e1 : (lo == []) <;> cases e2 : (hi == []) <;>
      simp only [Bool.or_true, Bool.true_or, Bool.or_false, Bool.false_or, Bool.not_true, Bool.not_false, Bool.and_true, Bool.true_and, Bool.and_false, Bool.false_and, cond_true, cond_false]
    all_goals first
      | (refine ⟨cap, acc, ?_⟩
         unfold ou
         rw [hm]
         refine zz Tryz.func64 rfl rfl ?_
         simp (disch := ((try simp only [LL]); omega)) only [↓GO, ↓DRW, GA, ren, zB, zd, refs, zb, cst, zl, zH, z7, E.load, E.store, zG, isC, bin, zI, zJ, una, z8, za, zh, zK, blt, fnV, asArg, ze, zn, zo, zj, zi, zg, zk, zr, z6, zD, zF, mkS, zc, unN, zM, zm, zy, zC, zf, zN, zq, GS, Int.reduceToNat, Nat.reduceGT, ↓reduceIte, Nat.reduceAdd, Nat.reduceMul, Nat.reduceSub, Nat.reduceEqDiff, Nat.reduceLeDiff, Nat.reduceLT, Nat.reduceBEq, Int.reduceBEq, Int.reduceBNe, Int.reduceEq, Int.reduceLT, Int.reduceLE, Int.reduceGT, Int.reduceNeg, reduceCtorEq, GZ, c, hget, hB, h1, h2, h3, e1, e2, zx, hol, zY, wh]
         done)
      | (obtain ⟨cap', x, IH⟩ := IHs (lo, hi)
         refine ⟨cap', x, ?_⟩
         rw [aF, show bdT [(lo, hi)] = [[T.str lo, T.str hi]] from rfl] at IH
         rw [show ou ps (acc ++ [(lo, hi)]) cap' x (vP rest) = ou ps acc cap' x (match vP rest with | some bs => some ((lo, hi) :: bs) | none => none) by
           cases vP rest with
           | none => rfl
           | some bs => simp only [ou]; rw [List.append_assoc]; simp only [List.length_append, List.length_cons, List.length_nil, List.cons_append, List.nil_append]; rw [show acc.length + (0 + 1) + bs.length = acc.length + (bs.length + 1) by omega]] at IH
         refine zz Tryz.func64 rfl rfl ?_
         simp (disch := ((try simp only [LL]); omega)) only [↓GO, ↓DRW, GA, ren, zB, zd, refs, zb, cst, zl, zH, z7, E.load, E.store, zG, isC, bin, zI, zJ, una, z8, za, zh, zK, blt, fnV, asArg, ze, zn, zo, zj, zi, zg, zk, zr, z6, zD, zF, mkS, zc, unN, zM, zm, zy, zC, zf, zN, zq, GS, Int.reduceToNat, Nat.reduceGT, ↓reduceIte, Nat.reduceAdd, Nat.reduceMul, Nat.reduceSub, Nat.reduceEqDiff, Nat.reduceLeDiff, Nat.reduceLT, Nat.reduceBEq, Int.reduceBEq, Int.reduceBNe, Int.reduceEq, Int.reduceLT, Int.reduceLE, Int.reduceGT, Int.reduceNeg, reduceCtorEq, GZ, c, hget, hB, h1, h2, h3, e1, e2, zx, hol, IH, zY, wh]
         try (cases vP rest <;> rfl))
theorem Tv (s : Str) (hl : s.length ≤ 1048576) : zE (EV Tryz.prog pol) 64 [.t (.str s)] = some (rrT (jK s)) := by
  unfold jK
  cases h200 : decide ((s.length : Int) > 200) with
  | true =>
    simp only [cond_true, rrT]
    apply zu
    refine zw rfl Tryz.func64 rfl (by kernel_rfl) ?_
    unfold Tryz.f64
    simp (disch := ((try simp only [LL]); omega)) only [↓GO, ↓DRW, GA, ren, zB, zd, refs, zb, cst, zl, zH, z7, E.load, E.store, zG, isC, bin, zI, zJ, una, z8, za, zh, zK, blt, fnV, asArg, ze, zn, zo, zj, zi, zg, zk, zr, z6, zD, zF, mkS, zc, unN, zM, zm, zy, zC, zf, zN, zq, GS, Int.reduceToNat, Nat.reduceGT, ↓reduceIte, Nat.reduceAdd, Nat.reduceMul, Nat.reduceSub, Nat.reduceEqDiff, Nat.reduceLeDiff, Nat.reduceLT, Nat.reduceBEq, Int.reduceBEq, Int.reduceBNe, Int.reduceEq, Int.reduceLT, Int.reduceLE, Int.reduceGT, Int.reduceNeg, reduceCtorEq, GZ, h200]
  | false =>
    have h2 := of_decide_eq_false h200
    have h1 := qG s [32, 124, 124, 32] (by omega) (by simp)
    have hsp : sb s [32, 124, 124, 32] = yV 0 s := by
      rw [aV]; exact rf s.length s (Nat.le_refl _)
    rw [hsp] at h1
    have hbk := uk 0 s
    have hmem : ∀ p ∈ yV 0 s, p.length ≤ 1048576 := fun p hp => by have := xX hp; omega
    simp only [cond_false]
    generalize yV 0 s = ps at *
    obtain ⟨cap, x, L⟩ := Tj ps (by omega) hmem ps [] [] (some 0) 0 rfl rfl rfl
    rw [show bdT [] = [] from rfl] at L
    simp only [List.length_nil, Int.natCast_zero] at L
    cases ha : vP ps with
    | none =>
      rw [ha] at L
      simp only [ou, rrT] at L ⊢
      apply zu
      refine zw rfl Tryz.func64 rfl (by kernel_rfl) ?_
      unfold Tryz.f64
      simp (disch := ((try simp only [LL]); omega)) only [↓GO, ↓DRW, GA, ren, zB, zd, refs, zb, cst, zl, zH, z7, E.load, E.store, zG, isC, bin, zI, zJ, una, z8, za, zh, zK, blt, fnV, asArg, ze, zn, zo, zj, zi, zg, zk, zr, z6, zD, zF, mkS, zc, unN, zM, zm, zy, zC, zf, zN, zq, GS, Int.reduceToNat, Nat.reduceGT, ↓reduceIte, Nat.reduceAdd, Nat.reduceMul, Nat.reduceSub, Nat.reduceEqDiff, Nat.reduceLeDiff, Nat.reduceLT, Nat.reduceBEq, Int.reduceBEq, Int.reduceBNe, Int.reduceEq, Int.reduceLT, Int.reduceLE, Int.reduceGT, Int.reduceNeg, reduceCtorEq, GZ, h200, h1, L, zP, zY]
    | some l =>
      have hsh := nT ha
      have hll := (sJ ps l ha).2
      rw [ha] at L
      simp only [ou, List.nil_append, List.length_nil, Nat.zero_add] at L ⊢
      have hr := Vp l (by omega) (fun b hb => by have := hsh b hb; omega)
      have ht : (bdT l).take l.length = bdT l := List.take_of_length_le (by rw [xO]; omega)
      cases hk : xk l <;> rw [hk] at hr <;> simp only [cond_true, cond_false, rrT]
      all_goals
        apply zu
        refine zw rfl Tryz.func64 rfl (by kernel_rfl) ?_
        unfold Tryz.f64
        simp (disch := ((try simp only [LL]); omega)) only [↓GO, ↓DRW, GA, ren, zB, zd, refs, zb, cst, zl, zH, z7, E.load, E.store, zG, isC, bin, zI, zJ, una, z8, za, zh, zK, blt, fnV, asArg, ze, zn, zo, zj, zi, zg, zk, zr, z6, zD, zF, mkS, zc, unN, zM, zm, zy, zC, zf, zN, zq, GS, Int.reduceToNat, Nat.reduceGT, ↓reduceIte, Nat.reduceAdd, Nat.reduceMul, Nat.reduceSub, Nat.reduceEqDiff, Nat.reduceLeDiff, Nat.reduceLT, Nat.reduceBEq, Int.reduceBEq, Int.reduceBNe, Int.reduceEq, Int.reduceLT, Int.reduceLE, Int.reduceGT, Int.reduceNeg, reduceCtorEq, GZ, h200, h1, L, zP, hr, ht, xO, zY]
end Go.Proofs.YtmcephnfcciloaaGreatDoor
/- Ranges, by the reference: parts and bounds. Conditions: those of each lemma. -/
namespace Go.Proofs.YtmcephnfcciloaaGreatDoor
open E
set_option linter.unusedSimpArgs false
set_option linter.unusedVariables false
set_option maxRecDepth 100000
def bT : Option Bd → V
  | some b => .tup [.agg [.t (.str b.1), .t (.str b.2)], .t (.bool true)]
  | none => .tup [.agg [.t (.str []), .t (.str [])], .t (.bool false)]
theorem Sf (s : Str) : alT s = bT (x6 s) := by
  unfold alT bT
  cases x6 s with
  | none => rfl
  | some b => obtain ⟨a, b⟩ := b; rfl
theorem mP (x : UInt8) (c : UInt8) : ((x.toNat : Int) == (c.toNat : Int)) = (x == c) := by
  rw [Bool.eq_iff_iff]; simp only [beq_iff_eq]
  constructor
  · intro h; exact UInt8.toNat_inj.1 (by omega)
  · intro h; rw [h]
theorem Tw (s : Str) (hl : s.length ≤ 1048700) : zE (EV Tryz.prog pol) 116 [.t (.str s)] = some (.t (.bool (isE s))) := by
  have h := oz s hl
  unfold rvT at h
  unfold isE isV
  generalize (zA s).1 = v at *
  simp only [Ver.enc, List.map_cons, List.map_nil] at h
  cases hk : (zA s).2 <;> rw [hk] at h <;> cases hn : (s == [])
  all_goals
    apply zu
    refine zw rfl Tryz.func116 rfl (by kernel_rfl) ?_
    unfold Tryz.f116
    simp (disch := ((try simp only [LL]); omega)) only [↓GO, ↓DRW, GA, ren, zB, zd, refs, zb, cst, zl, zH, z7, E.load, E.store, zG, isC, bin, zI, zJ, una, z8, za, zh, zK, blt, fnV, asArg, ze, zn, zo, zj, zi, zg, zk, zr, z6, zD, zF, mkS, zc, unN, zM, zm, zy, zC, zf, zN, zq, GS, Int.reduceToNat, Nat.reduceGT, ↓reduceIte, Nat.reduceAdd, Nat.reduceMul, Nat.reduceSub, Nat.reduceEqDiff, Nat.reduceLeDiff, Nat.reduceLT, Nat.reduceBEq, Int.reduceBEq, Int.reduceBNe, Int.reduceEq, Int.reduceLT, Int.reduceLE, Int.reduceGT, Int.reduceNeg, reduceCtorEq, GZ, h, hn]
theorem V9 (l : List Bd) (hl : l.length ≤ 4194304) (hb : ∀ b ∈ l, b.1.length ≤ 1048700 ∧ b.2.length ≤ 1048700) : ∀ (rest pre : List Bd), l = pre ++ rest →
    EV Tryz.prog pol (.loop 88 26 0 [.t (.list 2 (bdT l)), .t (.int .i64 (pre.length : Int))] []) = some (cond (rest.all fun b => isE b.1 && isE b.2) (.loop (.exit 0) [.t (.list 2 (bdT l)), .bad] []) (.loop .ret [.t (.list 2 (bdT l)), .t (.bool false)] []))
  | [], pre, hs => by
    have c : decide ((pre.length : Int) < (l.length : Int)) = false := by simp [hs]
    simp only [List.all_nil, cond_true]
    refine zz Tryz.func88 rfl rfl ?_
    simp (disch := ((try simp only [LL]); omega)) only [↓GO, ↓DRW, GA, ren, zB, zd, refs, zb, cst, zl, zH, z7, E.load, E.store, zG, isC, bin, zI, zJ, una, z8, za, zh, zK, blt, fnV, asArg, ze, zn, zo, zj, zi, zg, zk, zr, z6, zD, zF, mkS, zc, unN, zM, zm, zy, zC, zf, zN, zq, GS, Int.reduceToNat, Nat.reduceGT, ↓reduceIte, Nat.reduceAdd, Nat.reduceMul, Nat.reduceSub, Nat.reduceEqDiff, Nat.reduceLeDiff, Nat.reduceLT, Nat.reduceBEq, Int.reduceBEq, Int.reduceBNe, Int.reduceEq, Int.reduceLT, Int.reduceLE, Int.reduceGT, Int.reduceNeg, reduceCtorEq, GZ, c, xO]
  | x :: rest, pre, hs => by
    have c : decide ((pre.length : Int) < (l.length : Int)) = true := by simp [hs]; omega
    have hget : (bdT l)[pre.length]? = some [.str x.1, .str x.2] := by rw [hs]; exact wB (fun b : Bd => [T.str b.1, T.str b.2]) pre x rest
    have hlen : pre.length + rest.length + 1 ≤ l.length := by rw [hs]; simp; omega
    have hx := hb x (by rw [hs]; simp)
    have h1 := Tw x.1 hx.1
    have h2 := Tw x.2 hx.2
    have IH := V9 l hl hb rest (pre ++ [x]) (by rw [hs]; simp)
    rw [show ((pre ++ [x]).length : Int) = (pre.length : Int) + 1 by simp] at IH
    clear hs hb
    rw [List.all_cons]
    generalize isE x.1 = a1 at *
    generalize isE x.2 = a2 at *
    cases a1 <;> cases a2
    all_goals
      refine zz Tryz.func88 rfl rfl ?_
      simp (disch := ((try simp only [LL]); omega)) only [↓GO, ↓DRW, GA, ren, zB, zd, refs, zb, cst, zl, zH, z7, E.load, E.store, zG, isC, bin, zI, zJ, una, z8, za, zh, zK, blt, fnV, asArg, ze, zn, zo, zj, zi, zg, zk, zr, z6, zD, zF, mkS, zc, unN, zM, zm, zy, zC, zf, zN, zq, GS, Int.reduceToNat, Nat.reduceGT, ↓reduceIte, Nat.reduceAdd, Nat.reduceMul, Nat.reduceSub, Nat.reduceEqDiff, Nat.reduceLeDiff, Nat.reduceLT, Nat.reduceBEq, Int.reduceBEq, Int.reduceBNe, Int.reduceEq, Int.reduceLT, Int.reduceLE, Int.reduceGT, Int.reduceNeg, reduceCtorEq, GZ, c, hget, h1, h2, zx, xO, IH]
theorem jQ (l : List Bd) (hl : l.length ≤ 4194304) (hb : ∀ b ∈ l, b.1.length ≤ 1048700 ∧ b.2.length ≤ 1048700) : zE (EV Tryz.prog pol) 88 [.t (.list 2 (bdT l))] = some (.t (.bool (xk l))) := by
  have L := V9 l hl hb l [] rfl
  have h := xN (l.length : Int) 1 8
  simp only [List.length_nil, Int.natCast_zero] at L
  unfold xk
  generalize B2 (l.length : Int) 1 8 = b2 at *
  cases ha : (l.all fun b => isE b.1 && isE b.2) <;> rw [ha] at L <;> simp only [cond_true, cond_false] at L
  all_goals
    apply zu
    refine zw rfl Tryz.func88 rfl (by kernel_rfl) ?_
    unfold Tryz.f88
    simp (disch := ((try simp only [LL]); omega)) only [↓GO, ↓DRW, GA, ren, zB, zd, refs, zb, cst, zl, zH, z7, E.load, E.store, zG, isC, bin, zI, zJ, una, z8, za, zh, zK, blt, fnV, asArg, ze, zn, zo, zj, zi, zg, zk, zr, z6, zD, zF, mkS, zc, unN, zM, zm, zy, zC, zf, zN, zq, GS, Int.reduceToNat, Nat.reduceGT, ↓reduceIte, Nat.reduceAdd, Nat.reduceMul, Nat.reduceSub, Nat.reduceEqDiff, Nat.reduceLeDiff, Nat.reduceLT, Nat.reduceBEq, Int.reduceBEq, Int.reduceBNe, Int.reduceEq, Int.reduceLT, Int.reduceLE, Int.reduceGT, Int.reduceNeg, reduceCtorEq, GZ, L, h, xO]
theorem Vs (s : Str) (v : Ver) (p : Int) (hs : v.sm) (hp : p = 0 ∨ p = 1 ∨ p = 2) (h1 : -1 ≤ v.maj ∧ v.maj ≤ 999999999) (h2 : -1 ≤ v.min ∧ v.min ≤ 999999999) (h3 : -1 ≤ v.pat ∧ v.pat ≤ 999999999) :
    zE (EV Tryz.prog pol) 109 [.t (.str s), .agg (v.enc.map .t), .t (.int .i64 p)] = some (bT (mQ v s p)) := by
  have d := jC v p hs hp h1 h2 h3
  unfold mQ bT
  generalize vk v p = bl at *
  obtain ⟨t, ok⟩ := bl
  simp only [Ver.enc, List.map_cons, List.map_nil] at d ⊢
  cases ok <;> simp only [cond_true, cond_false] at d ⊢
  all_goals
    apply zu
    refine zw rfl Tryz.func109 rfl (by kernel_rfl) ?_
    unfold Tryz.f109
    simp (disch := ((try simp only [LL]); omega)) only [↓GO, ↓DRW, GA, ren, zB, zd, refs, zb, cst, zl, zH, z7, E.load, E.store, zG, isC, bin, zI, zJ, una, z8, za, zh, zK, blt, fnV, asArg, ze, zn, zo, zj, zi, zg, zk, zr, z6, zD, zF, mkS, zc, unN, zM, zm, zy, zC, zf, zN, zq, GS, Int.reduceToNat, Nat.reduceGT, ↓reduceIte, Nat.reduceAdd, Nat.reduceMul, Nat.reduceSub, Nat.reduceEqDiff, Nat.reduceLeDiff, Nat.reduceLT, Nat.reduceBEq, Int.reduceBEq, Int.reduceBNe, Int.reduceEq, Int.reduceLT, Int.reduceLE, Int.reduceGT, Int.reduceNeg, reduceCtorEq, GZ, d]
theorem XC (v : Ver) : zE (EV Tryz.prog pol) 110 [.agg (v.enc.map .t)] = some (.t (.int .i64 (vO v))) := by
  unfold vO
  simp only [Ver.enc, List.map_cons, List.map_nil]
  cases h1 : decide (v.maj > 0) <;> cases h2 : decide (v.min > 0) <;> simp only [cond_true, cond_false]
  all_goals
    apply zu
    refine zw rfl Tryz.func110 rfl (by kernel_rfl) ?_
    unfold Tryz.f110
    simp (disch := ((try simp only [LL]); omega)) only [↓GO, ↓DRW, GA, ren, zB, zd, refs, zb, cst, zl, zH, z7, E.load, E.store, zG, isC, bin, zI, zJ, una, z8, za, zh, zK, blt, fnV, asArg, ze, zn, zo, zj, zi, zg, zk, zr, z6, zD, zF, mkS, zc, unN, zM, zm, zy, zC, zf, zN, zq, GS, Int.reduceToNat, Nat.reduceGT, ↓reduceIte, Nat.reduceAdd, Nat.reduceMul, Nat.reduceSub, Nat.reduceEqDiff, Nat.reduceLeDiff, Nat.reduceLT, Nat.reduceBEq, Int.reduceBEq, Int.reduceBNe, Int.reduceEq, Int.reduceLT, Int.reduceLE, Int.reduceGT, Int.reduceNeg, reduceCtorEq, GZ, h1, h2]
theorem Zs (v : Ver) : vO v = 0 ∨ vO v = 1 ∨ vO v = 2 := by
  unfold vO
  cases decide (v.maj > 0) <;> cases decide (v.min > 0) <;> simp
theorem UB (s : Str) (hl : s.length ≤ 4194304) : zE (EV Tryz.prog pol) 151 [.t (.str s)] = some (.t (.list 1 (y6 (yi 32 s)))) := by
  have h := mM s 32 hl
  rw [show (((32 : UInt8).toNat : Nat) : Int) = 32 from rfl] at h
  apply zu
  refine zw rfl Tryz.func151 rfl (by kernel_rfl) ?_
  unfold Tryz.f151
  simp (disch := ((try simp only [LL]); omega)) only [↓GO, ↓DRW, GA, ren, zB, zd, refs, zb, cst, zl, zH, z7, E.load, E.store, zG, isC, bin, zI, zJ, una, z8, za, zh, zK, blt, fnV, asArg, ze, zn, zo, zj, zi, zg, zk, zr, z6, zD, zF, mkS, zc, unN, zM, zm, zy, zC, zf, zN, zq, GS, Int.reduceToNat, Nat.reduceGT, ↓reduceIte, Nat.reduceAdd, Nat.reduceMul, Nat.reduceSub, Nat.reduceEqDiff, Nat.reduceLeDiff, Nat.reduceLT, Nat.reduceBEq, Int.reduceBEq, Int.reduceBNe, Int.reduceEq, Int.reduceLT, Int.reduceLE, Int.reduceGT, Int.reduceNeg, reduceCtorEq, GZ, h]
theorem Xr (s : Str) (hl : s.length ≤ 1048600) : zE (EV Tryz.prog pol) 112 [.t (.str s)] = some (bT (wO s)) := by
  have h1 := mM s 46 (by omega)
  rw [show (((46 : UInt8).toNat : Nat) : Int) = 46 from rfl] at h1
  have hfl : (wv s).length ≤ 1048700 := by unfold wv; cases (((yi 46 s).length : Int) == 1) <;> simp <;> omega
  have h2 := oz (wv s) hfl
  obtain ⟨m1, m2, m3, m4, m5, m6, m7⟩ := yW (wv s) hfl
  have h3 := xN ((yi 46 s).length : Int) 1 2
  have hg := jP (zA (wv s)).1.pre
  have h4 := fun hp => jC (zA (wv s)).1 (((yi 46 s).length : Int) - 1) m1 hp ⟨m3, m2⟩ ⟨m5, m4⟩ ⟨m7, m6⟩
  have hcn : 1 ≤ (yi 46 s).length := by
    cases hc : yi 46 s with
    | nil => exact absurd hc (yU 46 s)
    | cons p q => simp
  have hbk := xL 46 s
  have hB : B2 ((yi 46 s).length : Int) 1 2 = true → ((yi 46 s).length : Int) - 1 = 0 ∨ ((yi 46 s).length : Int) - 1 = 1 ∨ ((yi 46 s).length : Int) - 1 = 2 := fun h => by
    unfold B2 at h
    simp only [Bool.and_eq_true, decide_eq_true_eq] at h
    omega
  have h5 := fun h => h4 (hB h)
  clear h4 hB
  unfold wO isV
  unfold rvT at h2
  have hfull : wv s = cond (((yi 46 s).length : Int) == 1) (s ++ [46, 48, 46, 48]) (s ++ [46, 48]) := rfl
  generalize wv s = f at *
  generalize (zA f).2 = ok at *
  generalize (zA f).1 = v at *
  generalize vk v (((yi 46 s).length : Int) - 1) = bl at *
  obtain ⟨bt, bo⟩ := bl
  generalize B2 ((yi 46 s).length : Int) 1 2 = b2 at *
  generalize yi 46 s = ps at *
  simp only [Ver.enc, List.map_cons, List.map_nil] at h2 h5 ⊢
  cases h46 : ((ps.length : Int) == 1) <;> rw [h46] at hfull <;> simp only [cond_true, cond_false] at hfull <;> subst hfull <;>
    cases ok <;> cases b2 <;> cases hpre : (v.pre == []) <;> rw [hpre] at hg <;> simp only [Bool.not_true, Bool.not_false, Bool.or_true, Bool.or_false, Bool.true_or, Bool.false_or, cond_true, cond_false, bT] at hg ⊢
  all_goals simp only [true_implies, false_implies, reduceCtorEq] at h5
  all_goals cases bo
  all_goals try simp only [cond_true, cond_false]
  all_goals
    apply zu
    refine zw rfl Tryz.func112 rfl (by kernel_rfl) ?_
    unfold Tryz.f112
    simp (disch := ((try simp only [LL]); omega)) only [↓GO, ↓DRW, GA, ren, zB, zd, refs, zb, cst, zl, zH, z7, E.load, E.store, zG, isC, bin, zI, zJ, una, z8, za, zh, zK, blt, fnV, asArg, ze, zn, zo, zj, zi, zg, zk, zr, z6, zD, zF, mkS, zc, unN, zM, zm, zy, zC, zf, zN, zq, GS, Int.reduceToNat, Nat.reduceGT, ↓reduceIte, Nat.reduceAdd, Nat.reduceMul, Nat.reduceSub, Nat.reduceEqDiff, Nat.reduceLeDiff, Nat.reduceLT, Nat.reduceBEq, Int.reduceBEq, Int.reduceBNe, Int.reduceEq, Int.reduceLT, Int.reduceLE, Int.reduceGT, Int.reduceNeg, reduceCtorEq, GZ, h1, h2, h3, h46, hg, h5, zP, zx, wh]
end Go.Proofs.YtmcephnfcciloaaGreatDoor
/- Ranges, by the reference: signs, parts. Conditions: those of each lemma. -/
namespace Go.Proofs.YtmcephnfcciloaaGreatDoor
open E
set_option linter.unusedSimpArgs false
set_option linter.unusedVariables false
set_option maxRecDepth 100000
theorem WY (b : Bd) : xk [b] = (isE b.1 && isE b.2) := by
  unfold xk
  simp [B2]
/-- the head of a word -/
theorem qX (x : Str) : (ltW x = false ∧ decide ((x.length : Int) > 1) = false) ∨ (∃ a r, x = a :: r ∧ decide ((x.length : Int) > 1) = true ∧ ltW x = (a == 60)) := by
  unfold ltW
  cases h : decide ((x.length : Int) > 1) with
  | false => left; simp
  | true =>
    right
    cases x with
    | nil => simp at h
    | cons a r => exact ⟨a, r, rfl, rfl, by simp [hdB]⟩
theorem kf (x : Str) : (geW x = false ∧ decide ((x.length : Int) > 2) = false) ∨ (decide ((x.length : Int) > 2) = true ∧ geW x = (x.take 2 == [62, 61])) := by
  unfold geW
  cases h : decide ((x.length : Int) > 2) with
  | false => left; simp
  | true => right; simp
theorem l_sg1 (x : Str) : EV Tryz.prog pol (.loop 111 122 0 [.ptr 0 0 0, .t (.list 1 [[.str x]]), .ptr 1 0 0, .t (.int .i64 0)] [.vs 2 [[.t (.str []), .t (.str [])]], .vs 2 [[.t (.str []), .t (.str [])]]])
    = some (cond (geW x) (.loop (.exit 0) [.ptr 0 0 0, .bad, .t (.list 1 [[.str x]]), .ptr 1 0 0] [.vs 2 [[.t (.str []), .t (.str [])]], .vs 2 [[.t (.str (x.drop 2)), .t (.str [])]]])
      (cond (ltW x) (.loop (.exit 0) [.ptr 0 0 0, .bad, .t (.list 1 [[.str x]]), .ptr 1 0 0] [.vs 2 [[.t (.str []), .t (.str [])]], .vs 2 [[.t (.str []), .t (.str (x.drop 1))]]])
        (.loop .ret [.ptr 0 0 0, .t (.bool false), .t (.list 1 [[.str x]]), .ptr 1 0 0] [.vs 2 [[.t (.str []), .t (.str [])]], .vs 2 [[.t (.str []), .t (.str [])]]]))) := by
  have E1 : ∀ lo' hi' : Str, EV Tryz.prog pol (.loop 111 122 0 [.ptr 0 0 0, .t (.list 1 [[.str x]]), .ptr 1 0 0, .t (.int .i64 1)] [.vs 2 [[.t (.str []), .t (.str [])]], .vs 2 [[.t (.str lo'), .t (.str hi')]]]) = some (.loop (.exit 0) [.ptr 0 0 0, .bad, .t (.list 1 [[.str x]]), .ptr 1 0 0] [.vs 2 [[.t (.str []), .t (.str [])]], .vs 2 [[.t (.str lo'), .t (.str hi')]]]) := fun lo' hi' => by
    refine zz Tryz.func111 rfl rfl ?_
    simp (disch := ((try simp only [LL]); omega)) only [↓GO, ↓DRW, GA, ren, zB, zd, refs, zb, cst, zl, zH, z7, E.load, E.store, zG, isC, bin, zI, zJ, una, z8, za, zh, zK, blt, fnV, asArg, ze, zn, zo, zj, zi, zg, zk, zr, z6, zD, zF, mkS, zc, unN, zM, zm, zy, zC, zf, zN, zq, GS, Int.reduceToNat, Nat.reduceGT, ↓reduceIte, Nat.reduceAdd, Nat.reduceMul, Nat.reduceSub, Nat.reduceEqDiff, Nat.reduceLeDiff, Nat.reduceLT, Nat.reduceBEq, Int.reduceBEq, Int.reduceBNe, Int.reduceEq, Int.reduceLT, Int.reduceLE, Int.reduceGT, Int.reduceNeg, reduceCtorEq, GZ, zY]
  rcases kf x with ⟨hg, g1⟩ | ⟨g1, hg⟩
  · rw [hg]
    rcases qX x with ⟨hl, g3⟩ | ⟨a, r, hx, g3, hl⟩
    · rw [hl]
      simp only [cond_false]
      refine zz Tryz.func111 rfl rfl ?_
      simp (disch := ((try simp only [LL]); omega)) only [↓GO, ↓DRW, GA, ren, zB, zd, refs, zb, cst, zl, zH, z7, E.load, E.store, zG, isC, bin, zI, zJ, una, z8, za, zh, zK, blt, fnV, asArg, ze, zn, zo, zj, zi, zg, zk, zr, z6, zD, zF, mkS, zc, unN, zM, zm, zy, zC, zf, zN, zq, GS, Int.reduceToNat, Nat.reduceGT, ↓reduceIte, Nat.reduceAdd, Nat.reduceMul, Nat.reduceSub, Nat.reduceEqDiff, Nat.reduceLeDiff, Nat.reduceLT, Nat.reduceBEq, Int.reduceBEq, Int.reduceBNe, Int.reduceEq, Int.reduceLT, Int.reduceLE, Int.reduceGT, Int.reduceNeg, reduceCtorEq, GZ, g1, g3, zY, Int.reduceAdd, Int.reduceSub, zx]
    · rw [hl]
      have h0 : x[0]? = some a := by rw [hx]; rfl
      have h60 := mP a 60
      rw [show (((60 : UInt8).toNat : Nat) : Int) = 60 from rfl] at h60
      have hxl : 1 ≤ x.length := by rw [hx]; simp
      clear hx hl
      simp only [cond_false]
      cases hh : (a == 60) <;> rw [hh] at h60 <;> simp only [cond_true, cond_false]
      all_goals
        refine zz Tryz.func111 rfl rfl ?_
        simp (disch := ((try simp only [LL]); omega)) only [↓GO, ↓DRW, GA, ren, zB, zd, refs, zb, cst, zl, zH, z7, E.load, E.store, zG, isC, bin, zI, zJ, una, z8, za, zh, zK, blt, fnV, asArg, ze, zn, zo, zj, zi, zg, zk, zr, z6, zD, zF, mkS, zc, unN, zM, zm, zy, zC, zf, zN, zq, GS, Int.reduceToNat, Nat.reduceGT, ↓reduceIte, Nat.reduceAdd, Nat.reduceMul, Nat.reduceSub, Nat.reduceEqDiff, Nat.reduceLeDiff, Nat.reduceLT, Nat.reduceBEq, Int.reduceBEq, Int.reduceBNe, Int.reduceEq, Int.reduceLT, Int.reduceLE, Int.reduceGT, Int.reduceNeg, reduceCtorEq, GZ, g1, g3, h0, h60, E1, zY, Int.reduceAdd, Int.reduceSub, zx]
  · rw [hg]
    have h2 : 2 ≤ x.length := by have := of_decide_eq_true g1; omega
    cases ht : (x.take 2 == [62, 61]) with
    | true =>
      simp only [cond_true]
      refine zz Tryz.func111 rfl rfl ?_
      simp (disch := ((try simp only [LL]); omega)) only [↓GO, ↓DRW, GA, ren, zB, zd, refs, zb, cst, zl, zH, z7, E.load, E.store, zG, isC, bin, zI, zJ, una, z8, za, zh, zK, blt, fnV, asArg, ze, zn, zo, zj, zi, zg, zk, zr, z6, zD, zF, mkS, zc, unN, zM, zm, zy, zC, zf, zN, zq, GS, Int.reduceToNat, Nat.reduceGT, ↓reduceIte, Nat.reduceAdd, Nat.reduceMul, Nat.reduceSub, Nat.reduceEqDiff, Nat.reduceLeDiff, Nat.reduceLT, Nat.reduceBEq, Int.reduceBEq, Int.reduceBNe, Int.reduceEq, Int.reduceLT, Int.reduceLE, Int.reduceGT, Int.reduceNeg, reduceCtorEq, GZ, g1, ht, E1, zY, Int.reduceAdd, Int.reduceSub, zx]
    | false =>
      simp only [cond_false]
      rcases qX x with ⟨hl, g3⟩ | ⟨a, r, hx, g3, hl⟩
      · have := of_decide_eq_false g3; omega
      · rw [hl]
        have h0 : x[0]? = some a := by rw [hx]; rfl
        have h60 := mP a 60
        rw [show (((60 : UInt8).toNat : Nat) : Int) = 60 from rfl] at h60
        clear hx hl
        cases hh : (a == 60) <;> rw [hh] at h60 <;> simp only [cond_true, cond_false]
        all_goals
          refine zz Tryz.func111 rfl rfl ?_
          simp (disch := ((try simp only [LL]); omega)) only [↓GO, ↓DRW, GA, ren, zB, zd, refs, zb, cst, zl, zH, z7, E.load, E.store, zG, isC, bin, zI, zJ, una, z8, za, zh, zK, blt, fnV, asArg, ze, zn, zo, zj, zi, zg, zk, zr, z6, zD, zF, mkS, zc, unN, zM, zm, zy, zC, zf, zN, zq, GS, Int.reduceToNat, Nat.reduceGT, ↓reduceIte, Nat.reduceAdd, Nat.reduceMul, Nat.reduceSub, Nat.reduceEqDiff, Nat.reduceLeDiff, Nat.reduceLT, Nat.reduceBEq, Int.reduceBEq, Int.reduceBNe, Int.reduceEq, Int.reduceLT, Int.reduceLE, Int.reduceGT, Int.reduceNeg, reduceCtorEq, GZ, g1, g3, ht, h0, h60, E1, zY, Int.reduceAdd, Int.reduceSub, zx]
/-- the first round, where there are more words -/
theorem Th (x : Str) (ws : List (List T)) (n : Nat) (hn : n = ws.length) (h2 : 2 ≤ n) (hl : n ≤ 4194304) (h0 : ws[0]? = some [.str x]) (B : xP)
    (IH : geW x = true → EV Tryz.prog pol (.loop 111 122 0 [.ptr 0 0 0, .t (.list 1 ws), .ptr 1 0 0, .t (.int .i64 1)] [.vs 2 [[.t (.str []), .t (.str [])]], .vs 2 [[.t (.str (x.drop 2)), .t (.str [])]]]) = some B) :
    EV Tryz.prog pol (.loop 111 122 0 [.ptr 0 0 0, .t (.list 1 ws), .ptr 1 0 0, .t (.int .i64 0)] [.vs 2 [[.t (.str []), .t (.str [])]], .vs 2 [[.t (.str []), .t (.str [])]]])
    = some (cond (geW x) B (.loop .ret [.ptr 0 0 0, .t (.bool false), .t (.list 1 ws), .ptr 1 0 0] [.vs 2 [[.t (.str []), .t (.str [])]], .vs 2 [[.t (.str []), .t (.str [])]]])) := by
  have c0 : decide ((0 : Int) < (ws.length : Int)) = true := decide_eq_true (by omega)
  have c1 : ((0 : Int) == (ws.length : Int) - 1) = false := by rw [beq_eq_false_iff_ne]; omega
  have hg0 : uG ws 0 = some [.str x] := by rw [uf]; exact h0
  subst hn
  rcases kf x with ⟨hg, g1⟩ | ⟨g1, hg⟩
  · rw [hg]
    simp only [cond_false]
    refine zz Tryz.func111 rfl rfl ?_
    simp (disch := ((try simp only [LL]); omega)) only [↓GO, ↓DRW, GA, ren, zB, zd, refs, zb, cst, zl, zH, z7, E.load, E.store, zG, isC, bin, zI, zJ, una, z8, za, zh, zK, blt, fnV, asArg, ze, zn, zo, zj, zi, zg, zk, zr, z6, zD, zF, mkS, zc, unN, zM, zm, zy, zC, zf, zN, zq, GS, Int.reduceToNat, Nat.reduceGT, ↓reduceIte, Nat.reduceAdd, Nat.reduceMul, Nat.reduceSub, Nat.reduceEqDiff, Nat.reduceLeDiff, Nat.reduceLT, Nat.reduceBEq, Int.reduceBEq, Int.reduceBNe, Int.reduceEq, Int.reduceLT, Int.reduceLE, Int.reduceGT, Int.reduceNeg, reduceCtorEq, GZ, c0, c1, h0, hg0, g1, zY, zx]
  · rw [hg] at IH ⊢
    have hx2 : 2 ≤ x.length := by have := of_decide_eq_true g1; omega
    cases ht : (x.take 2 == [62, 61]) <;> rw [ht] at IH <;> simp only [cond_true, cond_false]
    · refine zz Tryz.func111 rfl rfl ?_
      simp (disch := ((try simp only [LL]); omega)) only [↓GO, ↓DRW, GA, ren, zB, zd, refs, zb, cst, zl, zH, z7, E.load, E.store, zG, isC, bin, zI, zJ, una, z8, za, zh, zK, blt, fnV, asArg, ze, zn, zo, zj, zi, zg, zk, zr, z6, zD, zF, mkS, zc, unN, zM, zm, zy, zC, zf, zN, zq, GS, Int.reduceToNat, Nat.reduceGT, ↓reduceIte, Nat.reduceAdd, Nat.reduceMul, Nat.reduceSub, Nat.reduceEqDiff, Nat.reduceLeDiff, Nat.reduceLT, Nat.reduceBEq, Int.reduceBEq, Int.reduceBNe, Int.reduceEq, Int.reduceLT, Int.reduceLE, Int.reduceGT, Int.reduceNeg, reduceCtorEq, GZ, c0, c1, h0, hg0, g1, ht, zY, zx]
    · have IH := IH rfl
      refine zz Tryz.func111 rfl rfl ?_
      simp (disch := ((try simp only [LL]); omega)) only [↓GO, ↓DRW, GA, ren, zB, zd, refs, zb, cst, zl, zH, z7, E.load, E.store, zG, isC, bin, zI, zJ, una, z8, za, zh, zK, blt, fnV, asArg, ze, zn, zo, zj, zi, zg, zk, zr, z6, zD, zF, mkS, zc, unN, zM, zm, zy, zC, zf, zN, zq, GS, Int.reduceToNat, Nat.reduceGT, ↓reduceIte, Nat.reduceAdd, Nat.reduceMul, Nat.reduceSub, Nat.reduceEqDiff, Nat.reduceLeDiff, Nat.reduceLT, Nat.reduceBEq, Int.reduceBEq, Int.reduceBNe, Int.reduceEq, Int.reduceLT, Int.reduceLE, Int.reduceGT, Int.reduceNeg, reduceCtorEq, GZ, c0, c1, h0, hg0, g1, ht, IH, zY, zx, Int.reduceAdd]
theorem l_sg2 (x y lo : Str) : EV Tryz.prog pol (.loop 111 122 0 [.ptr 0 0 0, .t (.list 1 [[.str x], [.str y]]), .ptr 1 0 0, .t (.int .i64 1)] [.vs 2 [[.t (.str []), .t (.str [])]], .vs 2 [[.t (.str lo), .t (.str [])]]])
    = some (cond (ltW y) (.loop (.exit 0) [.ptr 0 0 0, .bad, .t (.list 1 [[.str x], [.str y]]), .ptr 1 0 0] [.vs 2 [[.t (.str []), .t (.str [])]], .vs 2 [[.t (.str lo), .t (.str (y.drop 1))]]])
        (.loop .ret [.ptr 0 0 0, .t (.bool false), .t (.list 1 [[.str x], [.str y]]), .ptr 1 0 0] [.vs 2 [[.t (.str []), .t (.str [])]], .vs 2 [[.t (.str lo), .t (.str [])]]])) := by
  have E1 : ∀ lo' hi' : Str, EV Tryz.prog pol (.loop 111 122 0 [.ptr 0 0 0, .t (.list 1 [[.str x], [.str y]]), .ptr 1 0 0, .t (.int .i64 2)] [.vs 2 [[.t (.str []), .t (.str [])]], .vs 2 [[.t (.str lo'), .t (.str hi')]]]) = some (.loop (.exit 0) [.ptr 0 0 0, .bad, .t (.list 1 [[.str x], [.str y]]), .ptr 1 0 0] [.vs 2 [[.t (.str []), .t (.str [])]], .vs 2 [[.t (.str lo'), .t (.str hi')]]]) := fun lo' hi' => by
    refine zz Tryz.func111 rfl rfl ?_
    simp (disch := ((try simp only [LL]); omega)) only [↓GO, ↓DRW, GA, ren, zB, zd, refs, zb, cst, zl, zH, z7, E.load, E.store, zG, isC, bin, zI, zJ, una, z8, za, zh, zK, blt, fnV, asArg, ze, zn, zo, zj, zi, zg, zk, zr, z6, zD, zF, mkS, zc, unN, zM, zm, zy, zC, zf, zN, zq, GS, Int.reduceToNat, Nat.reduceGT, ↓reduceIte, Nat.reduceAdd, Nat.reduceMul, Nat.reduceSub, Nat.reduceEqDiff, Nat.reduceLeDiff, Nat.reduceLT, Nat.reduceBEq, Int.reduceBEq, Int.reduceBNe, Int.reduceEq, Int.reduceLT, Int.reduceLE, Int.reduceGT, Int.reduceNeg, reduceCtorEq, GZ, zY]
  rcases qX y with ⟨hl, g3⟩ | ⟨a, r, hx, g3, hl⟩
  · rw [hl]
    simp only [cond_false]
    refine zz Tryz.func111 rfl rfl ?_
    simp (disch := ((try simp only [LL]); omega)) only [↓GO, ↓DRW, GA, ren, zB, zd, refs, zb, cst, zl, zH, z7, E.load, E.store, zG, isC, bin, zI, zJ, una, z8, za, zh, zK, blt, fnV, asArg, ze, zn, zo, zj, zi, zg, zk, zr, z6, zD, zF, mkS, zc, unN, zM, zm, zy, zC, zf, zN, zq, GS, Int.reduceToNat, Nat.reduceGT, ↓reduceIte, Nat.reduceAdd, Nat.reduceMul, Nat.reduceSub, Nat.reduceEqDiff, Nat.reduceLeDiff, Nat.reduceLT, Nat.reduceBEq, Int.reduceBEq, Int.reduceBNe, Int.reduceEq, Int.reduceLT, Int.reduceLE, Int.reduceGT, Int.reduceNeg, reduceCtorEq, GZ, g3, zY, Int.reduceAdd, Int.reduceSub, zx]
  · rw [hl]
    have h0 : y[0]? = some a := by rw [hx]; rfl
    have h60 := mP a 60
    rw [show (((60 : UInt8).toNat : Nat) : Int) = 60 from rfl] at h60
    have hxl : 1 ≤ y.length := by rw [hx]; simp
    clear hx hl
    cases hh : (a == 60) <;> rw [hh] at h60 <;> simp only [cond_true, cond_false]
    all_goals
      refine zz Tryz.func111 rfl rfl ?_
      simp (disch := ((try simp only [LL]); omega)) only [↓GO, ↓DRW, GA, ren, zB, zd, refs, zb, cst, zl, zH, z7, E.load, E.store, zG, isC, bin, zI, zJ, una, z8, za, zh, zK, blt, fnV, asArg, ze, zn, zo, zj, zi, zg, zk, zr, z6, zD, zF, mkS, zc, unN, zM, zm, zy, zC, zf, zN, zq, GS, Int.reduceToNat, Nat.reduceGT, ↓reduceIte, Nat.reduceAdd, Nat.reduceMul, Nat.reduceSub, Nat.reduceEqDiff, Nat.reduceLeDiff, Nat.reduceLT, Nat.reduceBEq, Int.reduceBEq, Int.reduceBNe, Int.reduceEq, Int.reduceLT, Int.reduceLE, Int.reduceGT, Int.reduceNeg, reduceCtorEq, GZ, g3, h0, h60, E1, zY, Int.reduceAdd, Int.reduceSub, zx]
theorem l_sg3 (x y lo : Str) (ws : List (List T)) (n : Nat) (hn : n = ws.length) (h2 : 3 ≤ n) (hl : n ≤ 4194304) : EV Tryz.prog pol (.loop 111 122 0 [.ptr 0 0 0, .t (.list 1 ws), .ptr 1 0 0, .t (.int .i64 1)] [.vs 2 [[.t (.str []), .t (.str [])]], .vs 2 [[.t (.str lo), .t (.str [])]]])
    = some (.loop .ret [.ptr 0 0 0, .t (.bool false), .t (.list 1 ws), .ptr 1 0 0] [.vs 2 [[.t (.str []), .t (.str [])]], .vs 2 [[.t (.str lo), .t (.str [])]]]) := by
  have c0 : decide ((1 : Int) < (ws.length : Int)) = true := decide_eq_true (by omega)
  have c1 : ((1 : Int) == (ws.length : Int) - 1) = false := by rw [beq_eq_false_iff_ne]; omega
  subst hn
  refine zz Tryz.func111 rfl rfl ?_
  simp (disch := ((try simp only [LL]); omega)) only [↓GO, ↓DRW, GA, ren, zB, zd, refs, zb, cst, zl, zH, z7, E.load, E.store, zG, isC, bin, zI, zJ, una, z8, za, zh, zK, blt, fnV, asArg, ze, zn, zo, zj, zi, zg, zk, zr, z6, zD, zF, mkS, zc, unN, zM, zm, zy, zC, zf, zN, zq, GS, Int.reduceToNat, Nat.reduceGT, ↓reduceIte, Nat.reduceAdd, Nat.reduceMul, Nat.reduceSub, Nat.reduceEqDiff, Nat.reduceLeDiff, Nat.reduceLT, Nat.reduceBEq, Int.reduceBEq, Int.reduceBNe, Int.reduceEq, Int.reduceLT, Int.reduceLE, Int.reduceGT, Int.reduceNeg, reduceCtorEq, GZ, c0, c1, zY, zx]
theorem Xq (s : Str) (hl : s.length ≤ 1048600) : zE (EV Tryz.prog pol) 111 [.t (.str s)] = some (bT (u6 s)) := by
  have h1 := UB s (by omega)
  have hbk := xL 32 s
  unfold u6
  match hp : yi 32 s with
  | [] => exact absurd hp (yU 32 s)
  | [x] =>
    rw [hp] at h1 hbk
    simp only [yk, List.length_cons, List.length_nil] at hbk
    have L := l_sg1 x
    have hd2 : (x.drop 2).length ≤ x.length := by rw [List.length_drop]; omega
    have hd1 : (x.drop 1).length ≤ x.length := by rw [List.length_drop]; omega
    have r1 := jQ [(x.drop 2, [])] (by simp) (by simp; omega)
    have r2 := jQ [([], x.drop 1)] (by simp) (by simp; omega)
    rw [WY] at r1 r2
    simp only [bdT, List.map_cons, List.map_nil, xj, yf] at r1 r2 h1 ⊢
    generalize (isE (x.drop 2) && isE []) = k1 at *
    generalize (isE [] && isE (x.drop 1)) = k2 at *
    cases hg : geW x <;> rw [hg] at L <;> simp only [cond_true, cond_false] at L ⊢
    · cases hq : ltW x <;> rw [hq] at L <;> simp only [cond_true, cond_false] at L ⊢
      · simp only [bT]
        apply zu
        refine zw rfl Tryz.func111 rfl (by kernel_rfl) ?_
        unfold Tryz.f111
        simp (disch := ((try simp only [LL]); omega)) only [↓GO, ↓DRW, GA, ren, zB, zd, refs, zb, cst, zl, zH, z7, E.load, E.store, zG, isC, bin, zI, zJ, una, z8, za, zh, zK, blt, fnV, asArg, ze, zn, zo, zj, zi, zg, zk, zr, z6, zD, zF, mkS, zc, unN, zM, zm, zy, zC, zf, zN, zq, GS, Int.reduceToNat, Nat.reduceGT, ↓reduceIte, Nat.reduceAdd, Nat.reduceMul, Nat.reduceSub, Nat.reduceEqDiff, Nat.reduceLeDiff, Nat.reduceLT, Nat.reduceBEq, Int.reduceBEq, Int.reduceBNe, Int.reduceEq, Int.reduceLT, Int.reduceLE, Int.reduceGT, Int.reduceNeg, reduceCtorEq, GZ, h1, L, zY]
      · cases k2 <;> simp only [cond_true, cond_false, bT]
        all_goals
          apply zu
          refine zw rfl Tryz.func111 rfl (by kernel_rfl) ?_
          unfold Tryz.f111
          simp (disch := ((try simp only [LL]); omega)) only [↓GO, ↓DRW, GA, ren, zB, zd, refs, zb, cst, zl, zH, z7, E.load, E.store, zG, isC, bin, zI, zJ, una, z8, za, zh, zK, blt, fnV, asArg, ze, zn, zo, zj, zi, zg, zk, zr, z6, zD, zF, mkS, zc, unN, zM, zm, zy, zC, zf, zN, zq, GS, Int.reduceToNat, Nat.reduceGT, ↓reduceIte, Nat.reduceAdd, Nat.reduceMul, Nat.reduceSub, Nat.reduceEqDiff, Nat.reduceLeDiff, Nat.reduceLT, Nat.reduceBEq, Int.reduceBEq, Int.reduceBNe, Int.reduceEq, Int.reduceLT, Int.reduceLE, Int.reduceGT, Int.reduceNeg, reduceCtorEq, GZ, h1, L, r2, zY]
    · cases k1 <;> simp only [cond_true, cond_false, bT]
      all_goals
        apply zu
        refine zw rfl Tryz.func111 rfl (by kernel_rfl) ?_
        unfold Tryz.f111
        simp (disch := ((try simp only [LL]); omega)) only [↓GO, ↓DRW, GA, ren, zB, zd, refs, zb, cst, zl, zH, z7, E.load, E.store, zG, isC, bin, zI, zJ, una, z8, za, zh, zK, blt, fnV, asArg, ze, zn, zo, zj, zi, zg, zk, zr, z6, zD, zF, mkS, zc, unN, zM, zm, zy, zC, zf, zN, zq, GS, Int.reduceToNat, Nat.reduceGT, ↓reduceIte, Nat.reduceAdd, Nat.reduceMul, Nat.reduceSub, Nat.reduceEqDiff, Nat.reduceLeDiff, Nat.reduceLT, Nat.reduceBEq, Int.reduceBEq, Int.reduceBNe, Int.reduceEq, Int.reduceLT, Int.reduceLE, Int.reduceGT, Int.reduceNeg, reduceCtorEq, GZ, h1, L, r1, zY]
  | [x, y] =>
    rw [hp] at h1 hbk
    simp only [yk, List.length_cons, List.length_nil] at hbk
    have L2 := l_sg2 x y (x.drop 2)
    have L := Th x [[.str x], [.str y]] 2 rfl (by omega) (by omega) rfl _ (fun _ => L2)
    have hd2 : (x.drop 2).length ≤ x.length := by rw [List.length_drop]; omega
    have hd1 : (y.drop 1).length ≤ y.length := by rw [List.length_drop]; omega
    have r1 := jQ [(x.drop 2, y.drop 1)] (by simp) (by simp; omega)
    rw [WY] at r1
    simp only [bdT, List.map_cons, List.map_nil, xj, yf] at r1 h1 ⊢
    generalize (isE (x.drop 2) && isE (y.drop 1)) = k1 at *
    clear L2
    cases hg : geW x <;> rw [hg] at L <;> simp only [cond_true, cond_false] at L ⊢
    · simp only [bT]
      apply zu
      refine zw rfl Tryz.func111 rfl (by kernel_rfl) ?_
      unfold Tryz.f111
      simp (disch := ((try simp only [LL]); omega)) only [↓GO, ↓DRW, GA, ren, zB, zd, refs, zb, cst, zl, zH, z7, E.load, E.store, zG, isC, bin, zI, zJ, una, z8, za, zh, zK, blt, fnV, asArg, ze, zn, zo, zj, zi, zg, zk, zr, z6, zD, zF, mkS, zc, unN, zM, zm, zy, zC, zf, zN, zq, GS, Int.reduceToNat, Nat.reduceGT, ↓reduceIte, Nat.reduceAdd, Nat.reduceMul, Nat.reduceSub, Nat.reduceEqDiff, Nat.reduceLeDiff, Nat.reduceLT, Nat.reduceBEq, Int.reduceBEq, Int.reduceBNe, Int.reduceEq, Int.reduceLT, Int.reduceLE, Int.reduceGT, Int.reduceNeg, reduceCtorEq, GZ, h1, L, zY]
    · cases hq : ltW y <;> rw [hq] at L <;> simp only [cond_true, cond_false] at L ⊢
      · simp only [bT]
        apply zu
        refine zw rfl Tryz.func111 rfl (by kernel_rfl) ?_
        unfold Tryz.f111
        simp (disch := ((try simp only [LL]); omega)) only [↓GO, ↓DRW, GA, ren, zB, zd, refs, zb, cst, zl, zH, z7, E.load, E.store, zG, isC, bin, zI, zJ, una, z8, za, zh, zK, blt, fnV, asArg, ze, zn, zo, zj, zi, zg, zk, zr, z6, zD, zF, mkS, zc, unN, zM, zm, zy, zC, zf, zN, zq, GS, Int.reduceToNat, Nat.reduceGT, ↓reduceIte, Nat.reduceAdd, Nat.reduceMul, Nat.reduceSub, Nat.reduceEqDiff, Nat.reduceLeDiff, Nat.reduceLT, Nat.reduceBEq, Int.reduceBEq, Int.reduceBNe, Int.reduceEq, Int.reduceLT, Int.reduceLE, Int.reduceGT, Int.reduceNeg, reduceCtorEq, GZ, h1, L, zY]
      · cases k1 <;> simp only [cond_true, cond_false, bT]
        all_goals
          apply zu
          refine zw rfl Tryz.func111 rfl (by kernel_rfl) ?_
          unfold Tryz.f111
          simp (disch := ((try simp only [LL]); omega)) only [↓GO, ↓DRW, GA, ren, zB, zd, refs, zb, cst, zl, zH, z7, E.load, E.store, zG, isC, bin, zI, zJ, una, z8, za, zh, zK, blt, fnV, asArg, ze, zn, zo, zj, zi, zg, zk, zr, z6, zD, zF, mkS, zc, unN, zM, zm, zy, zC, zf, zN, zq, GS, Int.reduceToNat, Nat.reduceGT, ↓reduceIte, Nat.reduceAdd, Nat.reduceMul, Nat.reduceSub, Nat.reduceEqDiff, Nat.reduceLeDiff, Nat.reduceLT, Nat.reduceBEq, Int.reduceBEq, Int.reduceBNe, Int.reduceEq, Int.reduceLT, Int.reduceLE, Int.reduceGT, Int.reduceNeg, reduceCtorEq, GZ, h1, L, r1, zY]
  | x :: y :: z :: r =>
    rw [hp] at h1 hbk
    have hn : (y6 (x :: y :: z :: r)).length = r.length + 3 := by rw [zP]; simp
    have hb3 : r.length + 3 ≤ 4194304 := by simp only [List.length_cons] at hbk; omega
    have L := Th x (y6 (x :: y :: z :: r)) _ rfl (by omega) (by omega) rfl _ (fun _ => l_sg3 x y (x.drop 2) (y6 (x :: y :: z :: r)) _ rfl (by omega) (by omega))
    simp only [bT]
    generalize y6 (x :: y :: z :: r) = ws at *
    cases hg : geW x <;> rw [hg] at L <;> simp only [cond_true, cond_false] at L
    all_goals
      apply zu
      refine zw rfl Tryz.func111 rfl (by kernel_rfl) ?_
      unfold Tryz.f111
      simp (disch := ((try simp only [LL]); omega)) only [↓GO, ↓DRW, GA, ren, zB, zd, refs, zb, cst, zl, zH, z7, E.load, E.store, zG, isC, bin, zI, zJ, una, z8, za, zh, zK, blt, fnV, asArg, ze, zn, zo, zj, zi, zg, zk, zr, z6, zD, zF, mkS, zc, unN, zM, zm, zy, zC, zf, zN, zq, GS, Int.reduceToNat, Nat.reduceGT, ↓reduceIte, Nat.reduceAdd, Nat.reduceMul, Nat.reduceSub, Nat.reduceEqDiff, Nat.reduceLeDiff, Nat.reduceLT, Nat.reduceBEq, Int.reduceBEq, Int.reduceBNe, Int.reduceEq, Int.reduceLT, Int.reduceLE, Int.reduceGT, Int.reduceNeg, reduceCtorEq, GZ, h1, L, zY]
end Go.Proofs.YtmcephnfcciloaaGreatDoor
/- Ranges, by the reference: the whole. Conditions: those of each lemma. -/
namespace Go.Proofs.YtmcephnfcciloaaGreatDoor
open E
set_option linter.unusedSimpArgs false
set_option linter.unusedVariables false
set_option maxRecDepth 100000
set_option maxHeartbeats 4000000 in
theorem UH (s : Str) (hl : s.length ≤ 1048576) : zE (EV Tryz.prog pol) 86 [.t (.str s)] = some (bT (xM s)) := by
  have hs := Xq s (by omega)
  have ha := ej s (by omega)
  rw [Sf] at ha
  have hsh := Xr s (by omega)
  have hd1 : (s.drop 1).length ≤ s.length := by rw [List.length_drop]; omega
  have hrv := oz (s.drop 1) (by omega)
  obtain ⟨m1, m2, m3, m4, m5, m6, m7⟩ := yW (s.drop 1) (by omega)
  have hf1 := Vs (s.drop 1) (zA (s.drop 1)).1 1 m1 (by omega) ⟨m3, m2⟩ ⟨m5, m4⟩ ⟨m7, m6⟩
  have hf2 := Vs (s.drop 1) (zA (s.drop 1)).1 (vO (zA (s.drop 1)).1) m1 (Zs _) ⟨m3, m2⟩ ⟨m5, m4⟩ ⟨m7, m6⟩
  have hc := XC (zA (s.drop 1)).1
  unfold rvT at hrv
  rw [show (zA (s.drop 1)).2 = isV (s.drop 1) from rfl] at hrv
  unfold xM
  generalize u6 s = sg at *
  generalize x6 s = ex at *
  generalize wO s = sh at *
  generalize isV (s.drop 1) = iv at *
  generalize vO (zA (s.drop 1)).1 = cr at *
  generalize hfd : mQ (zA (s.drop 1)).1 (s.drop 1) 1 = f1 at *
  generalize hfc : mQ (zA (s.drop 1)).1 (s.drop 1) cr = f2 at *
  generalize (zA (s.drop 1)).1 = v at *
  simp only [Ver.enc, List.map_cons, List.map_nil] at hrv hf1 hf2 hc
  cases h42 : (s == [42]) with
  | true =>
    simp only [cond_true, bT]
    apply zu
    refine zw rfl Tryz.func86 rfl (by kernel_rfl) ?_
    unfold Tryz.f86
    simp (disch := ((try simp only [LL]); omega)) only [↓GO, ↓DRW, GA, ren, zB, zd, refs, zb, cst, zl, zH, z7, E.load, E.store, zG, isC, bin, zI, zJ, una, z8, za, zh, zK, blt, fnV, asArg, ze, zn, zo, zj, zi, zg, zk, zr, z6, zD, zF, mkS, zc, unN, zM, zm, zy, zC, zf, zN, zq, GS, Int.reduceToNat, Nat.reduceGT, ↓reduceIte, Nat.reduceAdd, Nat.reduceMul, Nat.reduceSub, Nat.reduceEqDiff, Nat.reduceLeDiff, Nat.reduceLT, Nat.reduceBEq, Int.reduceBEq, Int.reduceBNe, Int.reduceEq, Int.reduceLT, Int.reduceLE, Int.reduceGT, Int.reduceNeg, reduceCtorEq, GZ, h42]
  | false =>
    simp only [cond_false]
    match s with
    | [] =>
      have z1 : decide ((([] : Str).length : Int) > 1) = false := rfl
      have z0 : decide ((([] : Str).length : Int) > 0) = false := rfl
      rw [z1, z0]
      simp only [Bool.false_and, cond_false]
      cases ex <;> cases sh <;> simp only [bT] at ha hsh ⊢
      all_goals
        apply zu
        refine zw rfl Tryz.func86 rfl (by kernel_rfl) ?_
        unfold Tryz.f86
        simp (disch := ((try simp only [LL]); omega)) only [↓GO, ↓DRW, GA, ren, zB, zd, refs, zb, cst, zl, zH, z7, E.load, E.store, zG, isC, bin, zI, zJ, una, z8, za, zh, zK, blt, fnV, asArg, ze, zn, zo, zj, zi, zg, zk, zr, z6, zD, zF, mkS, zc, unN, zM, zm, zy, zC, zf, zN, zq, GS, Int.reduceToNat, Nat.reduceGT, ↓reduceIte, Nat.reduceAdd, Nat.reduceMul, Nat.reduceSub, Nat.reduceEqDiff, Nat.reduceLeDiff, Nat.reduceLT, Nat.reduceBEq, Int.reduceBEq, Int.reduceBNe, Int.reduceEq, Int.reduceLT, Int.reduceLE, Int.reduceGT, Int.reduceNeg, reduceCtorEq, GZ, h42, z1, z0, ha, hsh]
    | x :: r =>
      have z0 : decide (((x :: r).length : Int) > 0) = true := by apply decide_eq_true; simp only [List.length_cons]; omega
      have h0 : (x :: r)[0]? = some x := rfl
      have h94 := mP x 94
      have h126 := mP x 126
      have h62 := mP x 62
      have h60 := mP x 60
      rw [show (((94 : UInt8).toNat : Nat) : Int) = 94 from rfl] at h94
      rw [show (((126 : UInt8).toNat : Nat) : Int) = 126 from rfl] at h126
      rw [show (((62 : UInt8).toNat : Nat) : Int) = 62 from rfl] at h62
      rw [show (((60 : UInt8).toNat : Nat) : Int) = 60 from rfl] at h60
      have hx1 : 1 ≤ (x :: r).length := by simp
      simp only [hdB]
      rw [z0]
      generalize x :: r = xs at *
      cases z1 : decide ((xs.length : Int) > 1)
      · simp only [Bool.true_and, Bool.false_and, Bool.or_true, Bool.or_false, Bool.true_or, Bool.false_or, cond_true, cond_false, hfc, hfd]
        cases e62 : (x == 62) <;> rw [e62] at h62
        · cases e60 : (x == 60) <;> rw [e60] at h60 <;> simp only [Bool.true_and, Bool.false_and, Bool.or_true, Bool.or_false, Bool.true_or, Bool.false_or, cond_true, cond_false, hfc, hfd]
          · cases ex <;> cases sh <;> simp only [bT] at ha hsh ⊢
            all_goals
              apply zu
              refine zw rfl Tryz.func86 rfl (by kernel_rfl) ?_
              unfold Tryz.f86
              simp (disch := ((try simp only [LL]); omega)) only [↓GO, ↓DRW, GA, ren, zB, zd, refs, zb, cst, zl, zH, z7, E.load, E.store, zG, isC, bin, zI, zJ, una, z8, za, zh, zK, blt, fnV, asArg, ze, zn, zo, zj, zi, zg, zk, zr, z6, zD, zF, mkS, zc, unN, zM, zm, zy, zC, zf, zN, zq, GS, Int.reduceToNat, Nat.reduceGT, ↓reduceIte, Nat.reduceAdd, Nat.reduceMul, Nat.reduceSub, Nat.reduceEqDiff, Nat.reduceLeDiff, Nat.reduceLT, Nat.reduceBEq, Int.reduceBEq, Int.reduceBNe, Int.reduceEq, Int.reduceLT, Int.reduceLE, Int.reduceGT, Int.reduceNeg, reduceCtorEq, GZ, h42, z1, z0, h0, h62, h60, ha, hsh, zY]
          · cases sg <;> simp only [bT] at hs ⊢
            all_goals
              apply zu
              refine zw rfl Tryz.func86 rfl (by kernel_rfl) ?_
              unfold Tryz.f86
              simp (disch := ((try simp only [LL]); omega)) only [↓GO, ↓DRW, GA, ren, zB, zd, refs, zb, cst, zl, zH, z7, E.load, E.store, zG, isC, bin, zI, zJ, una, z8, za, zh, zK, blt, fnV, asArg, ze, zn, zo, zj, zi, zg, zk, zr, z6, zD, zF, mkS, zc, unN, zM, zm, zy, zC, zf, zN, zq, GS, Int.reduceToNat, Nat.reduceGT, ↓reduceIte, Nat.reduceAdd, Nat.reduceMul, Nat.reduceSub, Nat.reduceEqDiff, Nat.reduceLeDiff, Nat.reduceLT, Nat.reduceBEq, Int.reduceBEq, Int.reduceBNe, Int.reduceEq, Int.reduceLT, Int.reduceLE, Int.reduceGT, Int.reduceNeg, reduceCtorEq, GZ, h42, z1, z0, h0, h62, h60, hs, zY]
        · simp only [Bool.true_and, Bool.false_and, Bool.or_true, Bool.or_false, Bool.true_or, Bool.false_or, cond_true, cond_false, hfc, hfd]
          cases sg <;> simp only [bT] at hs ⊢
          all_goals
            apply zu
            refine zw rfl Tryz.func86 rfl (by kernel_rfl) ?_
            unfold Tryz.f86
            simp (disch := ((try simp only [LL]); omega)) only [↓GO, ↓DRW, GA, ren, zB, zd, refs, zb, cst, zl, zH, z7, E.load, E.store, zG, isC, bin, zI, zJ, una, z8, za, zh, zK, blt, fnV, asArg, ze, zn, zo, zj, zi, zg, zk, zr, z6, zD, zF, mkS, zc, unN, zM, zm, zy, zC, zf, zN, zq, GS, Int.reduceToNat, Nat.reduceGT, ↓reduceIte, Nat.reduceAdd, Nat.reduceMul, Nat.reduceSub, Nat.reduceEqDiff, Nat.reduceLeDiff, Nat.reduceLT, Nat.reduceBEq, Int.reduceBEq, Int.reduceBNe, Int.reduceEq, Int.reduceLT, Int.reduceLE, Int.reduceGT, Int.reduceNeg, reduceCtorEq, GZ, h42, z1, z0, h0, h62, hs, zY]
      · cases e94 : (x == 94) <;> rw [e94] at h94
        · cases e126 : (x == 126) <;> rw [e126] at h126 <;> simp only [Bool.true_and, Bool.false_and, Bool.or_true, Bool.or_false, Bool.true_or, Bool.false_or, cond_true, cond_false, hfc, hfd]
          · cases e62 : (x == 62) <;> rw [e62] at h62
            · cases e60 : (x == 60) <;> rw [e60] at h60 <;> simp only [Bool.true_and, Bool.false_and, Bool.or_true, Bool.or_false, Bool.true_or, Bool.false_or, cond_true, cond_false, hfc, hfd]
              · cases ex <;> cases sh <;> simp only [bT] at ha hsh ⊢
                all_goals
                  apply zu
                  refine zw rfl Tryz.func86 rfl (by kernel_rfl) ?_
                  unfold Tryz.f86
                  simp (disch := ((try simp only [LL]); omega)) only [↓GO, ↓DRW, GA, ren, zB, zd, refs, zb, cst, zl, zH, z7, E.load, E.store, zG, isC, bin, zI, zJ, una, z8, za, zh, zK, blt, fnV, asArg, ze, zn, zo, zj, zi, zg, zk, zr, z6, zD, zF, mkS, zc, unN, zM, zm, zy, zC, zf, zN, zq, GS, Int.reduceToNat, Nat.reduceGT, ↓reduceIte, Nat.reduceAdd, Nat.reduceMul, Nat.reduceSub, Nat.reduceEqDiff, Nat.reduceLeDiff, Nat.reduceLT, Nat.reduceBEq, Int.reduceBEq, Int.reduceBNe, Int.reduceEq, Int.reduceLT, Int.reduceLE, Int.reduceGT, Int.reduceNeg, reduceCtorEq, GZ, h42, z1, z0, h0, h94, h126, h62, h60, ha, hsh, zY]
              · cases sg <;> simp only [bT] at hs ⊢
                all_goals
                  apply zu
                  refine zw rfl Tryz.func86 rfl (by kernel_rfl) ?_
                  unfold Tryz.f86
                  simp (disch := ((try simp only [LL]); omega)) only [↓GO, ↓DRW, GA, ren, zB, zd, refs, zb, cst, zl, zH, z7, E.load, E.store, zG, isC, bin, zI, zJ, una, z8, za, zh, zK, blt, fnV, asArg, ze, zn, zo, zj, zi, zg, zk, zr, z6, zD, zF, mkS, zc, unN, zM, zm, zy, zC, zf, zN, zq, GS, Int.reduceToNat, Nat.reduceGT, ↓reduceIte, Nat.reduceAdd, Nat.reduceMul, Nat.reduceSub, Nat.reduceEqDiff, Nat.reduceLeDiff, Nat.reduceLT, Nat.reduceBEq, Int.reduceBEq, Int.reduceBNe, Int.reduceEq, Int.reduceLT, Int.reduceLE, Int.reduceGT, Int.reduceNeg, reduceCtorEq, GZ, h42, z1, z0, h0, h94, h126, h62, h60, hs, zY]
            · simp only [Bool.true_and, Bool.false_and, Bool.or_true, Bool.or_false, Bool.true_or, Bool.false_or, cond_true, cond_false, hfc, hfd]
              cases sg <;> simp only [bT] at hs ⊢
              all_goals
                apply zu
                refine zw rfl Tryz.func86 rfl (by kernel_rfl) ?_
                unfold Tryz.f86
                simp (disch := ((try simp only [LL]); omega)) only [↓GO, ↓DRW, GA, ren, zB, zd, refs, zb, cst, zl, zH, z7, E.load, E.store, zG, isC, bin, zI, zJ, una, z8, za, zh, zK, blt, fnV, asArg, ze, zn, zo, zj, zi, zg, zk, zr, z6, zD, zF, mkS, zc, unN, zM, zm, zy, zC, zf, zN, zq, GS, Int.reduceToNat, Nat.reduceGT, ↓reduceIte, Nat.reduceAdd, Nat.reduceMul, Nat.reduceSub, Nat.reduceEqDiff, Nat.reduceLeDiff, Nat.reduceLT, Nat.reduceBEq, Int.reduceBEq, Int.reduceBNe, Int.reduceEq, Int.reduceLT, Int.reduceLE, Int.reduceGT, Int.reduceNeg, reduceCtorEq, GZ, h42, z1, z0, h0, h94, h126, h62, hs, zY]
          · cases iv <;> simp only [Bool.not_true, Bool.not_false, cond_true, cond_false, bT] at hrv ⊢
            · apply zu
              refine zw rfl Tryz.func86 rfl (by kernel_rfl) ?_
              unfold Tryz.f86
              simp (disch := ((try simp only [LL]); omega)) only [↓GO, ↓DRW, GA, ren, zB, zd, refs, zb, cst, zl, zH, z7, E.load, E.store, zG, isC, bin, zI, zJ, una, z8, za, zh, zK, blt, fnV, asArg, ze, zn, zo, zj, zi, zg, zk, zr, z6, zD, zF, mkS, zc, unN, zM, zm, zy, zC, zf, zN, zq, GS, Int.reduceToNat, Nat.reduceGT, ↓reduceIte, Nat.reduceAdd, Nat.reduceMul, Nat.reduceSub, Nat.reduceEqDiff, Nat.reduceLeDiff, Nat.reduceLT, Nat.reduceBEq, Int.reduceBEq, Int.reduceBNe, Int.reduceEq, Int.reduceLT, Int.reduceLE, Int.reduceGT, Int.reduceNeg, reduceCtorEq, GZ, h42, z1, z0, h0, h94, h126, hrv, hx1, zY]
            · cases f1 <;> simp only [bT] at hf1 ⊢
              all_goals
                apply zu
                refine zw rfl Tryz.func86 rfl (by kernel_rfl) ?_
                unfold Tryz.f86
                simp (disch := ((try simp only [LL]); omega)) only [↓GO, ↓DRW, GA, ren, zB, zd, refs, zb, cst, zl, zH, z7, E.load, E.store, zG, isC, bin, zI, zJ, una, z8, za, zh, zK, blt, fnV, asArg, ze, zn, zo, zj, zi, zg, zk, zr, z6, zD, zF, mkS, zc, unN, zM, zm, zy, zC, zf, zN, zq, GS, Int.reduceToNat, Nat.reduceGT, ↓reduceIte, Nat.reduceAdd, Nat.reduceMul, Nat.reduceSub, Nat.reduceEqDiff, Nat.reduceLeDiff, Nat.reduceLT, Nat.reduceBEq, Int.reduceBEq, Int.reduceBNe, Int.reduceEq, Int.reduceLT, Int.reduceLE, Int.reduceGT, Int.reduceNeg, reduceCtorEq, GZ, h42, z1, z0, h0, h94, h126, hrv, hf1, hx1, zY]
                refine yT (by kernel_rfl) ?_
                rfl
        · cases e126 : (x == 126) <;> rw [e126] at h126 <;> simp only [Bool.true_and, Bool.false_and, Bool.or_true, Bool.or_false, Bool.true_or, Bool.false_or, cond_true, cond_false, hfc, hfd] <;> cases iv <;> simp only [Bool.not_true, Bool.not_false, cond_true, cond_false, bT] at hrv ⊢
          · apply zu
            refine zw rfl Tryz.func86 rfl (by kernel_rfl) ?_
            unfold Tryz.f86
            simp (disch := ((try simp only [LL]); omega)) only [↓GO, ↓DRW, GA, ren, zB, zd, refs, zb, cst, zl, zH, z7, E.load, E.store, zG, isC, bin, zI, zJ, una, z8, za, zh, zK, blt, fnV, asArg, ze, zn, zo, zj, zi, zg, zk, zr, z6, zD, zF, mkS, zc, unN, zM, zm, zy, zC, zf, zN, zq, GS, Int.reduceToNat, Nat.reduceGT, ↓reduceIte, Nat.reduceAdd, Nat.reduceMul, Nat.reduceSub, Nat.reduceEqDiff, Nat.reduceLeDiff, Nat.reduceLT, Nat.reduceBEq, Int.reduceBEq, Int.reduceBNe, Int.reduceEq, Int.reduceLT, Int.reduceLE, Int.reduceGT, Int.reduceNeg, reduceCtorEq, GZ, h42, z1, z0, h0, h94, h126, hrv, hx1, zY]
          · cases f2 <;> simp only [bT] at hf2 ⊢
            all_goals
              apply zu
              refine zw rfl Tryz.func86 rfl (by kernel_rfl) ?_
              unfold Tryz.f86
              simp (disch := ((try simp only [LL]); omega)) only [↓GO, ↓DRW, GA, ren, zB, zd, refs, zb, cst, zl, zH, z7, E.load, E.store, zG, isC, bin, zI, zJ, una, z8, za, zh, zK, blt, fnV, asArg, ze, zn, zo, zj, zi, zg, zk, zr, z6, zD, zF, mkS, zc, unN, zM, zm, zy, zC, zf, zN, zq, GS, Int.reduceToNat, Nat.reduceGT, ↓reduceIte, Nat.reduceAdd, Nat.reduceMul, Nat.reduceSub, Nat.reduceEqDiff, Nat.reduceLeDiff, Nat.reduceLT, Nat.reduceBEq, Int.reduceBEq, Int.reduceBNe, Int.reduceEq, Int.reduceLT, Int.reduceLE, Int.reduceGT, Int.reduceNeg, reduceCtorEq, GZ, h42, z1, z0, h0, h94, h126, hrv, hc, hf2, hx1, zY]
              refine yT (by kernel_rfl) ?_
              rfl
          · apply zu
            refine zw rfl Tryz.func86 rfl (by kernel_rfl) ?_
            unfold Tryz.f86
            simp (disch := ((try simp only [LL]); omega)) only [↓GO, ↓DRW, GA, ren, zB, zd, refs, zb, cst, zl, zH, z7, E.load, E.store, zG, isC, bin, zI, zJ, una, z8, za, zh, zK, blt, fnV, asArg, ze, zn, zo, zj, zi, zg, zk, zr, z6, zD, zF, mkS, zc, unN, zM, zm, zy, zC, zf, zN, zq, GS, Int.reduceToNat, Nat.reduceGT, ↓reduceIte, Nat.reduceAdd, Nat.reduceMul, Nat.reduceSub, Nat.reduceEqDiff, Nat.reduceLeDiff, Nat.reduceLT, Nat.reduceBEq, Int.reduceBEq, Int.reduceBNe, Int.reduceEq, Int.reduceLT, Int.reduceLE, Int.reduceGT, Int.reduceNeg, reduceCtorEq, GZ, h42, z1, z0, h0, h94, h126, hrv, hx1, zY]
          · cases f1 <;> simp only [bT] at hf1 ⊢
            all_goals
              apply zu
              refine zw rfl Tryz.func86 rfl (by kernel_rfl) ?_
              unfold Tryz.f86
              simp (disch := ((try simp only [LL]); omega)) only [↓GO, ↓DRW, GA, ren, zB, zd, refs, zb, cst, zl, zH, z7, E.load, E.store, zG, isC, bin, zI, zJ, una, z8, za, zh, zK, blt, fnV, asArg, ze, zn, zo, zj, zi, zg, zk, zr, z6, zD, zF, mkS, zc, unN, zM, zm, zy, zC, zf, zN, zq, GS, Int.reduceToNat, Nat.reduceGT, ↓reduceIte, Nat.reduceAdd, Nat.reduceMul, Nat.reduceSub, Nat.reduceEqDiff, Nat.reduceLeDiff, Nat.reduceLT, Nat.reduceBEq, Int.reduceBEq, Int.reduceBNe, Int.reduceEq, Int.reduceLT, Int.reduceLE, Int.reduceGT, Int.reduceNeg, reduceCtorEq, GZ, h42, z1, z0, h0, h94, h126, hrv, hc, hf1, hx1, zY]
              refine yT (by kernel_rfl) ?_
              rfl
end Go.Proofs.YtmcephnfcciloaaGreatDoor
/- Ranges, by the reference: parts cut, all; notices. Conditions: those of each lemma. -/
namespace Go.Proofs.YtmcephnfcciloaaGreatDoor
open E
set_option linter.unusedSimpArgs false
set_option linter.unusedVariables false
set_option maxRecDepth 100000
def glue (c : Str) : List Str → List Str
  | p :: r => (c ++ p) :: r
  | [] => []
theorem fy : ∀ l : List Str, glue [] l = l
  | [] => rfl
  | p :: r => rfl
theorem mB : ∀ (k : Nat) (s : Str), s.length < 4 → k ≤ s.length → yV k s = [s.drop k]
  | k, [], _, h => by
    have : k = 0 := by simpa using h
    subst this; rfl
  | 0, x :: r, h, _ => by
    have hp : wI.isPrefixOf (x :: r) = false := by
      cases h2 : wI.isPrefixOf (x :: r) with
      | false => rfl
      | true => have := Tc h2; omega
    have ih := mB 0 r (by simp only [List.length_cons] at h; omega) (by omega)
    rw [uj x r r [] hp ih]; rfl
  | k + 1, x :: r, h, hk => by
    rw [yV, mB k r (by simp only [List.length_cons] at h; omega) (by simpa using hk)]; rfl
theorem eS (s : Str) (h : 4 ≤ s.length) : wI.isPrefixOf s = (s.take 4 == wI) := by
  match s, h with
  | a :: b :: c :: d :: r, _ =>
    unfold wI
    rw [Bool.eq_iff_iff]
    simp [List.isPrefixOf]
    constructor
    · rintro ⟨h1, h2, h3, h4⟩; exact ⟨h1.symm, h2.symm, h3.symm, h4.symm⟩
    · rintro ⟨h1, h2, h3, h4⟩; exact ⟨h1.symm, h2.symm, h3.symm, h4.symm⟩
theorem qm (s : Str) (hl : s.length ≤ 4194304) : ∀ (n f m : Nat) (out : List Str) (cap : Option Nat), s.length - m = n → f ≤ s.length → m ≤ s.length → out.length ≤ m →
    ∃ (out' : List Str) (fr : Nat) (cap' : Option Nat), out'.length ≤ s.length ∧ fr ≤ s.length ∧ out' ++ [s.drop fr] = out ++ glue ((s.drop f).take (m - f)) (yV (f - m) (s.drop m)) ∧
      EV Tryz.prog pol (.loop 85 122 0 [.t (.str s), .sl 0 0 out.length cap, .t (.int .i64 (f : Int)), .t (.int .i64 (m : Int))] [.ts 1 (y6 out)]) = some (.loop (.exit 0) [.t (.str s), .sl 0 0 out'.length cap', .t (.int .i64 (fr : Int))] [.ts 1 (y6 out')])
  | n, f, m, out, cap, hn, hf, hm, ho => by
    by_cases hc : m + 4 ≤ s.length
    · have c : decide ((m : Int) + 4 ≤ (s.length : Int)) = true := decide_eq_true (by omega)
      have e4 : ((m : Int) + 4) = ((m + 4 : Nat) : Int) := by omega
      have e1 : ((m : Int) + 1) = ((m + 1 : Nat) : Int) := by omega
      have hdl : (s.drop m).length = s.length - m := List.length_drop
      obtain ⟨x, r, hx⟩ : ∃ x r, s.drop m = x :: r := by
        cases h : s.drop m with
        | nil => rw [h] at hdl; simp at hdl; omega
        | cons x r => exact ⟨x, r, rfl⟩
      have hr : s.drop (m + 1) = r := by rw [← List.drop_drop, hx]; rfl
      by_cases hfm : f ≤ m
      · have g : decide ((m : Int) ≥ (f : Int)) = true := decide_eq_true (by omega)
        have hk : f - m = 0 := by omega
        have ht := eS (s.drop m) (by omega)
        have hN : ((m : Int) + 4).toNat - m = 4 := by omega
        have hN2 : ((m : Int) + 4).toNat = m + 4 := by omega
        have hol : out.length ≤ 4194304 := by omega
        cases hp : wI.isPrefixOf (s.drop m) with
        | true =>
          obtain ⟨out', fr, cap', q1, q2, q3, q4⟩ := qm s hl (n - 1) (m + 4) (m + 1) (out ++ [(s.drop f).take (m - f)]) none (by omega) (by omega) (by omega) (by simp; omega)
          refine ⟨out', fr, cap', q1, q2, ?_, ?_⟩
          · rw [q3, hr, show m + 4 - (m + 1) = 3 by omega, show m + 1 - (m + 4) = 0 by omega, hk, hx, mA x r (by rw [← hx]; exact hp)]
            rw [show glue ((s.drop f).take (m - f)) ([] :: yV 3 r) = ((s.drop f).take (m - f) ++ []) :: yV 3 r from rfl, List.take_zero, fy, List.append_nil, List.append_assoc]; rfl
          · rw [hp] at ht
            rw [uw, xj, yf, List.length_append, List.length_cons, List.length_nil, Nat.zero_add, ← e4, ← e1] at q4
            have ht' : ((s.drop m).take 4 == [32, 124, 124, 32]) = true := ht.symm
            clear hx hr q3
            refine zz Tryz.func85 rfl rfl ?_
            simp (disch := ((try simp only [LL]); omega)) only [↓GO, ↓DRW, GA, ren, zB, zd, refs, zb, cst, zl, zH, z7, E.load, E.store, zG, isC, bin, zI, zJ, una, z8, za, zh, zK, blt, fnV, asArg, ze, zn, zo, zj, zi, zg, zk, zr, z6, zD, zF, mkS, zc, unN, zM, zm, zy, zC, zf, zN, zq, GS, Int.reduceToNat, Nat.reduceGT, ↓reduceIte, Nat.reduceAdd, Nat.reduceMul, Nat.reduceSub, Nat.reduceEqDiff, Nat.reduceLeDiff, Nat.reduceLT, Nat.reduceBEq, Int.reduceBEq, Int.reduceBNe, Int.reduceEq, Int.reduceLT, Int.reduceLE, Int.reduceGT, Int.reduceNeg, reduceCtorEq, GZ, c, g, hN, ht', zx, q4, zP, wh]
        | false =>
          obtain ⟨out', fr, cap', q1, q2, q3, q4⟩ := qm s hl (n - 1) f (m + 1) out cap (by omega) (by omega) (by omega) (by omega)
          refine ⟨out', fr, cap', q1, q2, ?_, ?_⟩
          · rw [q3, hr, hk, show f - (m + 1) = 0 by omega, hx]
            have htk : (s.drop f).take (m + 1 - f) = (s.drop f).take (m - f) ++ [x] := by
              have hdd : (s.drop f).drop (m - f) = x :: r := by rw [List.drop_drop, show f + (m - f) = m by omega]; exact hx
              rw [show m + 1 - f = (m - f) + 1 by omega, List.take_add, hdd]; rfl
            rw [htk]
            cases h0 : yV 0 r with
            | nil => exact absurd h0 (qF 0 r)
            | cons p q => rw [uj x r p q (by rw [← hx]; exact hp) h0]; simp [glue]
          · rw [hp] at ht
            rw [← e1] at q4
            have ht' : ((s.drop m).take 4 == [32, 124, 124, 32]) = false := ht.symm
            clear hx hr q3
            refine zz Tryz.func85 rfl rfl ?_
            simp (disch := ((try simp only [LL]); omega)) only [↓GO, ↓DRW, GA, ren, zB, zd, refs, zb, cst, zl, zH, z7, E.load, E.store, zG, isC, bin, zI, zJ, una, z8, za, zh, zK, blt, fnV, asArg, ze, zn, zo, zj, zi, zg, zk, zr, z6, zD, zF, mkS, zc, unN, zM, zm, zy, zC, zf, zN, zq, GS, Int.reduceToNat, Nat.reduceGT, ↓reduceIte, Nat.reduceAdd, Nat.reduceMul, Nat.reduceSub, Nat.reduceEqDiff, Nat.reduceLeDiff, Nat.reduceLT, Nat.reduceBEq, Int.reduceBEq, Int.reduceBNe, Int.reduceEq, Int.reduceLT, Int.reduceLE, Int.reduceGT, Int.reduceNeg, reduceCtorEq, GZ, c, g, hN, ht', zx, q4, zP, wh]
      · have g : decide ((m : Int) ≥ (f : Int)) = false := decide_eq_false (by omega)
        obtain ⟨out', fr, cap', q1, q2, q3, q4⟩ := qm s hl (n - 1) f (m + 1) out cap (by omega) (by omega) (by omega) (by omega)
        refine ⟨out', fr, cap', q1, q2, ?_, ?_⟩
        · rw [q3, hr, show m + 1 - f = 0 by omega, show m - f = 0 by omega, hx, show f - m = (f - (m + 1)) + 1 by omega, yV]
        · rw [← e1] at q4
          clear hx hr q3
          refine zz Tryz.func85 rfl rfl ?_
          simp (disch := ((try simp only [LL]); omega)) only [↓GO, ↓DRW, GA, ren, zB, zd, refs, zb, cst, zl, zH, z7, E.load, E.store, zG, isC, bin, zI, zJ, una, z8, za, zh, zK, blt, fnV, asArg, ze, zn, zo, zj, zi, zg, zk, zr, z6, zD, zF, mkS, zc, unN, zM, zm, zy, zC, zf, zN, zq, GS, Int.reduceToNat, Nat.reduceGT, ↓reduceIte, Nat.reduceAdd, Nat.reduceMul, Nat.reduceSub, Nat.reduceEqDiff, Nat.reduceLeDiff, Nat.reduceLT, Nat.reduceBEq, Int.reduceBEq, Int.reduceBNe, Int.reduceEq, Int.reduceLT, Int.reduceLE, Int.reduceGT, Int.reduceNeg, reduceCtorEq, GZ, c, g, zx, q4, zP, wh]
    · have c : decide ((m : Int) + 4 ≤ (s.length : Int)) = false := decide_eq_false (by omega)
      refine ⟨out, f, cap, by omega, hf, ?_, ?_⟩
      · have hdl : (s.drop m).length = s.length - m := List.length_drop
        rw [mB (f - m) (s.drop m) (by omega) (by omega)]
        simp only [glue, List.drop_drop]
        by_cases hfm : f ≤ m
        · rw [show f - m = 0 by omega, Nat.add_zero]
          congr 2
          have := List.take_append_drop (m - f) (s.drop f)
          rw [List.drop_drop, show f + (m - f) = m by omega] at this
          exact this.symm
        · rw [show m - f = 0 by omega, show m + (f - m) = f by omega]; rfl
      · refine zz Tryz.func85 rfl rfl ?_
        simp (disch := ((try simp only [LL]); omega)) only [↓GO, ↓DRW, GA, ren, zB, zd, refs, zb, cst, zl, zH, z7, E.load, E.store, zG, isC, bin, zI, zJ, una, z8, za, zh, zK, blt, fnV, asArg, ze, zn, zo, zj, zi, zg, zk, zr, z6, zD, zF, mkS, zc, unN, zM, zm, zy, zC, zf, zN, zq, GS, Int.reduceToNat, Nat.reduceGT, ↓reduceIte, Nat.reduceAdd, Nat.reduceMul, Nat.reduceSub, Nat.reduceEqDiff, Nat.reduceLeDiff, Nat.reduceLT, Nat.reduceBEq, Int.reduceBEq, Int.reduceBNe, Int.reduceEq, Int.reduceLT, Int.reduceLE, Int.reduceGT, Int.reduceNeg, reduceCtorEq, GZ, c, zx]
termination_by n f m => s.length - m
decreasing_by all_goals omega
theorem Xt (s : Str) (hl : s.length ≤ 4194304) : zE (EV Tryz.prog pol) 85 [.t (.str s)] = some (.t (.list 1 (y6 (yV 0 s)))) := by
  obtain ⟨out, fr, cap, q1, q2, q3, q4⟩ := qm s hl s.length 0 0 [] (some 0) (by omega) (by omega) (by omega) (by simp)
  simp only [List.nil_append, List.length_nil, Int.natCast_zero, yf, List.drop_zero, Nat.sub_zero, List.take_zero, fy, Nat.sub_self] at q4 q3
  have ho : (y6 out ++ [[.str (List.drop fr s)]]) = y6 (yV 0 s) := by rw [← q3, uw]; rfl
  have ht : List.take (out.length + 1) (y6 (yV 0 s)) = y6 (yV 0 s) := List.take_of_length_le (by rw [zP, ← q3]; simp)
  apply zu
  refine zw rfl Tryz.func85 rfl (by kernel_rfl) ?_
  unfold Tryz.f85
  simp (disch := ((try simp only [LL]); omega)) only [↓GO, ↓DRW, GA, ren, zB, zd, refs, zb, cst, zl, zH, z7, E.load, E.store, zG, isC, bin, zI, zJ, una, z8, za, zh, zK, blt, fnV, asArg, ze, zn, zo, zj, zi, zg, zk, zr, z6, zD, zF, mkS, zc, unN, zM, zm, zy, zC, zf, zN, zq, GS, Int.reduceToNat, Nat.reduceGT, ↓reduceIte, Nat.reduceAdd, Nat.reduceMul, Nat.reduceSub, Nat.reduceEqDiff, Nat.reduceLeDiff, Nat.reduceLT, Nat.reduceBEq, Int.reduceBEq, Int.reduceBNe, Int.reduceEq, Int.reduceLT, Int.reduceLE, Int.reduceGT, Int.reduceNeg, reduceCtorEq, GZ, q4, zP, wh, ho, ht]
end Go.Proofs.YtmcephnfcciloaaGreatDoor
/- Ranges, by the reference: the whole; notices; the law. Conditions: those of each lemma. -/
namespace Go.Proofs.YtmcephnfcciloaaGreatDoor
open E
set_option linter.unusedSimpArgs false
set_option linter.unusedVariables false
set_option maxRecDepth 100000
/-- how the reference's loop ends -/
def ot (ps : List Str) (acc : List Bd) (cap : Option Nat) (x : List Bd) : Option (List Bd) → xP
  | some bs => .loop (.exit 0) [.bad, .bad, .sl 0 0 (acc.length + bs.length) cap] [.ts 2 (bdT (acc ++ bs))]
  | none => .loop .ret [.sl 0 0 0 (some 0), .t (.bool false), .sl 1 0 x.length cap] [.ts 2 [], .ts 2 (bdT x)]
theorem Ti (ps : List Str) (hl : ps.length ≤ 1048577) (hb : ∀ p ∈ ps, p.length ≤ 1048576) : ∀ (rest pre : List Str) (acc : List Bd) (cap : Option Nat) (m : Nat), ps = pre ++ rest → m = acc.length → acc.length = pre.length →
    ∃ cap' x, EV Tryz.prog pol (.loop 58 250 0 [.sl 0 0 m cap, .t (.list 1 (y6 ps)), .t (.int .i64 (pre.length : Int))] [.ts 2 (bdT acc)]) = some (ot ps acc cap' x (vP rest))
  | [], pre, acc, cap, m, hs, hm, ha => by
    have c : decide ((pre.length : Int) < (ps.length : Int)) = false := by simp [hs]
    refine ⟨cap, [], ?_⟩
    simp only [vP, ot, List.append_nil, List.length_nil, Nat.add_zero]
    subst hm
    refine zz Tryz.func58 rfl rfl ?_
    simp (disch := ((try simp only [LL]); omega)) only [↓GO, ↓DRW, GA, ren, zB, zd, refs, zb, cst, zl, zH, z7, E.load, E.store, zG, isC, bin, zI, zJ, una, z8, za, zh, zK, blt, fnV, asArg, ze, zn, zo, zj, zi, zg, zk, zr, z6, zD, zF, mkS, zc, unN, zM, zm, zy, zC, zf, zN, zq, GS, Int.reduceToNat, Nat.reduceGT, ↓reduceIte, Nat.reduceAdd, Nat.reduceMul, Nat.reduceSub, Nat.reduceEqDiff, Nat.reduceLeDiff, Nat.reduceLT, Nat.reduceBEq, Int.reduceBEq, Int.reduceBNe, Int.reduceEq, Int.reduceLT, Int.reduceLE, Int.reduceGT, Int.reduceNeg, reduceCtorEq, GZ, c, zP, zY]
  | p :: rest, pre, acc, cap, m, hs, hm, ha => by
    have c : decide ((pre.length : Int) < (ps.length : Int)) = true := by simp [hs]; omega
    have hget : (y6 ps)[pre.length]? = some [.str p] := by rw [hs]; exact wB (fun s : Str => [T.str s]) pre p rest
    have hlen : pre.length + rest.length + 1 ≤ ps.length := by rw [hs]; simp; omega
    have hpb := hb p (by rw [hs]; simp)
    have hB := UH p hpb
    have IHs := fun b => Ti ps hl hb rest (pre ++ [p]) (acc ++ [b]) none (m + 1) (by rw [hs]; simp) (by simp [hm]) (by simp [ha])
    rw [show ((pre ++ [p]).length : Int) = (pre.length : Int) + 1 by simp] at IHs
    have hol : (bdT acc).length = m := by rw [xO, hm]
    have hml : m ≤ 1048578 := by omega
    have hpl : pre.length ≤ 1048577 := by omega
    clear hs hb
    simp only [vP]
    cases hp : xM p with
    | none =>
      rw [hp] at hB
      refine ⟨cap, acc, ?_⟩
      simp only [bT] at hB
      unfold ot
      simp only
      subst hm
      refine zz Tryz.func58 rfl rfl ?_
      simp (disch := ((try simp only [LL]); omega)) only [↓GO, ↓DRW, GA, ren, zB, zd, refs, zb, cst, zl, zH, z7, E.load, E.store, zG, isC, bin, zI, zJ, una, z8, za, zh, zK, blt, fnV, asArg, ze, zn, zo, zj, zi, zg, zk, zr, z6, zD, zF, mkS, zc, unN, zM, zm, zy, zC, zf, zN, zq, GS, Int.reduceToNat, Nat.reduceGT, ↓reduceIte, Nat.reduceAdd, Nat.reduceMul, Nat.reduceSub, Nat.reduceEqDiff, Nat.reduceLeDiff, Nat.reduceLT, Nat.reduceBEq, Int.reduceBEq, Int.reduceBNe, Int.reduceEq, Int.reduceLT, Int.reduceLE, Int.reduceGT, Int.reduceNeg, reduceCtorEq, GZ, c, hget, hB, zx, hol, zP, zY, wh]
    | some b =>
      obtain ⟨lo, hi⟩ := b
      rw [hp] at hB
      simp only [bT] at hB
      obtain ⟨cap', x, IH⟩ := IHs (lo, hi)
      refine ⟨cap', x, ?_⟩
      rw [aF, show bdT [(lo, hi)] = [[T.str lo, T.str hi]] from rfl] at IH
      simp only
      rw [show ot ps (acc ++ [(lo, hi)]) cap' x (vP rest) = ot ps acc cap' x (match vP rest with | some bs => some ((lo, hi) :: bs) | none => none) by
        cases vP rest with
        | none => rfl
        | some bs => simp only [ot]; rw [List.append_assoc]; simp only [List.length_append, List.length_cons, List.length_nil, List.cons_append, List.nil_append]; rw [show acc.length + (0 + 1) + bs.length = acc.length + (bs.length + 1) by omega]] at IH
      refine zz Tryz.func58 rfl rfl ?_
      simp (disch := ((try simp only [LL]); omega)) only [↓GO, ↓DRW, GA, ren, zB, zd, refs, zb, cst, zl, zH, z7, E.load, E.store, zG, isC, bin, zI, zJ, una, z8, za, zh, zK, blt, fnV, asArg, ze, zn, zo, zj, zi, zg, zk, zr, z6, zD, zF, mkS, zc, unN, zM, zm, zy, zC, zf, zN, zq, GS, Int.reduceToNat, Nat.reduceGT, ↓reduceIte, Nat.reduceAdd, Nat.reduceMul, Nat.reduceSub, Nat.reduceEqDiff, Nat.reduceLeDiff, Nat.reduceLT, Nat.reduceBEq, Int.reduceBEq, Int.reduceBNe, Int.reduceEq, Int.reduceLT, Int.reduceLE, Int.reduceGT, Int.reduceNeg, reduceCtorEq, GZ, c, hget, hB, zx, hol, zP, IH, zY, wh]
      try (cases vP rest <;> rfl)
theorem Tu (s : Str) (hl : s.length ≤ 1048576) : zE (EV Tryz.prog pol) 58 [.t (.str s)] = some (rrT (wq s)) := by
  unfold wq
  have h1 := Xt s (by omega)
  have hbk := uk 0 s
  have hcn : 1 ≤ (yV 0 s).length := by
    cases hc : yV 0 s with
    | nil => exact absurd hc (qF 0 s)
    | cons p q => simp
  have hmem : ∀ p ∈ yV 0 s, p.length ≤ 1048576 := fun p hp => by have := xX hp; omega
  generalize yV 0 s = ps at *
  obtain ⟨cap, x, L⟩ := Ti ps (by omega) hmem ps [] [] (some 0) 0 rfl rfl rfl
  rw [show bdT [] = [] from rfl] at L
  simp only [List.length_nil, Int.natCast_zero] at L
  have hpl : ps.length ≤ 1048577 := by omega
  cases h200 : decide ((s.length : Int) > 200) with
  | true =>
    simp only [Bool.true_or, cond_true, rrT]
    apply zu
    refine zw rfl Tryz.func58 rfl (by kernel_rfl) ?_
    unfold Tryz.f58
    simp (disch := ((try simp only [LL]); omega)) only [↓GO, ↓DRW, GA, ren, zB, zd, refs, zb, cst, zl, zH, z7, E.load, E.store, zG, isC, bin, zI, zJ, una, z8, za, zh, zK, blt, fnV, asArg, ze, zn, zo, zj, zi, zg, zk, zr, z6, zD, zF, mkS, zc, unN, zM, zm, zy, zC, zf, zN, zq, GS, Int.reduceToNat, Nat.reduceGT, ↓reduceIte, Nat.reduceAdd, Nat.reduceMul, Nat.reduceSub, Nat.reduceEqDiff, Nat.reduceLeDiff, Nat.reduceLT, Nat.reduceBEq, Int.reduceBEq, Int.reduceBNe, Int.reduceEq, Int.reduceLT, Int.reduceLE, Int.reduceGT, Int.reduceNeg, reduceCtorEq, GZ, h1, h200, zP]
  | false =>
    cases h8 : decide ((ps.length : Int) > 8) with
    | true =>
      simp only [Bool.or_true, cond_true, rrT]
      apply zu
      refine zw rfl Tryz.func58 rfl (by kernel_rfl) ?_
      unfold Tryz.f58
      simp (disch := ((try simp only [LL]); omega)) only [↓GO, ↓DRW, GA, ren, zB, zd, refs, zb, cst, zl, zH, z7, E.load, E.store, zG, isC, bin, zI, zJ, una, z8, za, zh, zK, blt, fnV, asArg, ze, zn, zo, zj, zi, zg, zk, zr, z6, zD, zF, mkS, zc, unN, zM, zm, zy, zC, zf, zN, zq, GS, Int.reduceToNat, Nat.reduceGT, ↓reduceIte, Nat.reduceAdd, Nat.reduceMul, Nat.reduceSub, Nat.reduceEqDiff, Nat.reduceLeDiff, Nat.reduceLT, Nat.reduceBEq, Int.reduceBEq, Int.reduceBNe, Int.reduceEq, Int.reduceLT, Int.reduceLE, Int.reduceGT, Int.reduceNeg, reduceCtorEq, GZ, h1, h200, h8, zP]
    | false =>
      simp only [Bool.or_false, cond_false]
      cases ha : vP ps with
      | none =>
        rw [ha] at L
        simp only [ot, rrT] at L ⊢
        apply zu
        refine zw rfl Tryz.func58 rfl (by kernel_rfl) ?_
        unfold Tryz.f58
        simp (disch := ((try simp only [LL]); omega)) only [↓GO, ↓DRW, GA, ren, zB, zd, refs, zb, cst, zl, zH, z7, E.load, E.store, zG, isC, bin, zI, zJ, una, z8, za, zh, zK, blt, fnV, asArg, ze, zn, zo, zj, zi, zg, zk, zr, z6, zD, zF, mkS, zc, unN, zM, zm, zy, zC, zf, zN, zq, GS, Int.reduceToNat, Nat.reduceGT, ↓reduceIte, Nat.reduceAdd, Nat.reduceMul, Nat.reduceSub, Nat.reduceEqDiff, Nat.reduceLeDiff, Nat.reduceLT, Nat.reduceBEq, Int.reduceBEq, Int.reduceBNe, Int.reduceEq, Int.reduceLT, Int.reduceLE, Int.reduceGT, Int.reduceNeg, reduceCtorEq, GZ, h1, h200, h8, L, zP, zY]
      | some l =>
        have hll := (sJ ps l ha).2
        rw [ha] at L
        simp only [ot, List.nil_append, List.length_nil, Nat.zero_add] at L ⊢
        have ht : (bdT l).take l.length = bdT l := List.take_of_length_le (by rw [xO]; omega)
        simp only [rrT]
        apply zu
        refine zw rfl Tryz.func58 rfl (by kernel_rfl) ?_
        unfold Tryz.f58
        simp (disch := ((try simp only [LL]); omega)) only [↓GO, ↓DRW, GA, ren, zB, zd, refs, zb, cst, zl, zH, z7, E.load, E.store, zG, isC, bin, zI, zJ, una, z8, za, zh, zK, blt, fnV, asArg, ze, zn, zo, zj, zi, zg, zk, zr, z6, zD, zF, mkS, zc, unN, zM, zm, zy, zC, zf, zN, zq, GS, Int.reduceToNat, Nat.reduceGT, ↓reduceIte, Nat.reduceAdd, Nat.reduceMul, Nat.reduceSub, Nat.reduceEqDiff, Nat.reduceLeDiff, Nat.reduceLT, Nat.reduceBEq, Int.reduceBEq, Int.reduceBNe, Int.reduceEq, Int.reduceLT, Int.reduceLE, Int.reduceGT, Int.reduceNeg, reduceCtorEq, GZ, h1, h200, h8, L, zP, ht, xO, zY]
def xI (x : zt) : Bool := (wq x.range).isSome && (vj x.name && (wz x.text && !(x.text == [])))
theorem gk (o : Option (List Bd)) : ∃ t, rrT o = .tup [.t t, .t (.bool o.isSome)] := by
  cases o with
  | none => exact ⟨_, rfl⟩
  | some l => exact ⟨_, rfl⟩
theorem c_noR (x : zt) (hb : x.yh ≤ 1048576) : zE (EV Tryz.prog pol) 59 [.agg (x.enc.map .t)] = some (.t (.bool (xI x))) := by
  obtain ⟨name, range, text⟩ := x
  simp only [zt.yh] at hb
  have h1 := Tu range (by omega)
  have h2 := ay name (by omega)
  have h3 := eg text (by omega)
  obtain ⟨t, ht⟩ := gk (wq range)
  rw [ht] at h1
  unfold xI
  simp only [zt.enc, List.map_cons, List.map_nil]
  generalize (wq range).isSome = b1 at *
  generalize vj name = b2 at *
  generalize wz text = b3 at *
  cases b2 <;> cases b1 <;> cases b3 <;> cases hn : (text == [])
  all_goals
    apply zu
    refine zw rfl Tryz.func59 rfl (by kernel_rfl) ?_
    unfold Tryz.f59
    simp (disch := ((try simp only [LL]); omega)) only [↓GO, ↓DRW, GA, ren, zB, zd, refs, zb, cst, zl, zH, z7, E.load, E.store, zG, isC, bin, zI, zJ, una, z8, za, zh, zK, blt, fnV, asArg, ze, zn, zo, zj, zi, zg, zk, zr, z6, zD, zF, mkS, zc, unN, zM, zm, zy, zC, zf, zN, zq, GS, Int.reduceToNat, Nat.reduceGT, ↓reduceIte, Nat.reduceAdd, Nat.reduceMul, Nat.reduceSub, Nat.reduceEqDiff, Nat.reduceLeDiff, Nat.reduceLT, Nat.reduceBEq, Int.reduceBEq, Int.reduceBNe, Int.reduceEq, Int.reduceLT, Int.reduceLE, Int.reduceGT, Int.reduceNeg, reduceCtorEq, GZ, h1, h2, h3, hn, bne]
theorem c_noI (x : zt) (hb : x.yh ≤ 1048576) : zE (EV Tryz.prog pol) 65 [.agg (x.enc.map .t)] = some (.t (.bool (xI x))) := by
  obtain ⟨name, range, text⟩ := x
  simp only [zt.yh] at hb
  have h1 := Tv range (by omega)
  rw [nj] at h1
  have h2 := az name (by omega)
  have h3 := eh text (by omega)
  obtain ⟨t, ht⟩ := gk (wq range)
  rw [ht] at h1
  unfold xI
  simp only [zt.enc, List.map_cons, List.map_nil]
  generalize (wq range).isSome = b1 at *
  generalize vj name = b2 at *
  generalize wz text = b3 at *
  cases b2 <;> cases b1 <;> cases b3 <;> cases hn : (text == [])
  all_goals
    apply zu
    refine zw rfl Tryz.func65 rfl (by kernel_rfl) ?_
    unfold Tryz.f65
    simp (disch := ((try simp only [LL]); omega)) only [↓GO, ↓DRW, GA, ren, zB, zd, refs, zb, cst, zl, zH, z7, E.load, E.store, zG, isC, bin, zI, zJ, una, z8, za, zh, zK, blt, fnV, asArg, ze, zn, zo, zj, zi, zg, zk, zr, z6, zD, zF, mkS, zc, unN, zM, zm, zy, zC, zf, zN, zq, GS, Int.reduceToNat, Nat.reduceGT, ↓reduceIte, Nat.reduceAdd, Nat.reduceMul, Nat.reduceSub, Nat.reduceEqDiff, Nat.reduceLeDiff, Nat.reduceLT, Nat.reduceBEq, Int.reduceBEq, Int.reduceBNe, Int.reduceEq, Int.reduceLT, Int.reduceLE, Int.reduceGT, Int.reduceNeg, reduceCtorEq, GZ, h1, h2, h3, hn, bne]
end Go.Proofs.YtmcephnfcciloaaGreatDoor
/- What the laws' arguments are: Notice. Conditions: those of each lemma. -/
namespace Go.Proofs.YtmcephnfcciloaaGreatDoor
open E
set_option linter.unusedSimpArgs false
set_option linter.unusedVariables false
set_option maxRecDepth 100000
theorem ZD {cs : List T} (h : WT Tryz.prog 48 cs) : ∃ x : zt, cs = x.enc ∧ x.ok := by
  obtain ⟨hl, hs⟩ := h.uU Tryz.underlying48
  have k0 : Tryz.prog.cellsOf 48 = 3 := by kernel_rfl
  have k1 : Tryz.prog.cellsOf 9 = 1 := by kernel_rfl
  rw [k0] at hl
  match cs, hl with
  | [y0, y1, y2], _ =>
    simp [k1] at hs
    obtain ⟨s0, s1, s2⟩ := hs
    obtain ⟨v0, e0, o0⟩ := s0.vt Tryz.underlying9
    obtain ⟨v1, e1, o1⟩ := s1.vt Tryz.underlying9
    obtain ⟨v2, e2, o2⟩ := s2.vt Tryz.underlying9
    simp at e0 e1 e2
    subst e0 e1 e2
    exact ⟨⟨v0, v1, v2⟩, rfl, ⟨o0, o1, o2⟩⟩
end Go.Proofs.YtmcephnfcciloaaGreatDoor
/- What the laws' arguments are: a graph and notices. Conditions: those of each lemma. -/
namespace Go.Proofs.YtmcephnfcciloaaGreatDoor
open E
set_option linter.unusedSimpArgs false
set_option linter.unusedVariables false
set_option maxRecDepth 100000
theorem dy {cs : List T} (h : WT Tryz.prog 26 cs) : ∃ l : List zt, cs = [.list 3 (zt.zV l)] ∧ l.length ≤ 9223372036854775807 ∧ ∀ y ∈ l, y.ok := by
  obtain ⟨es, e1, e2, e3⟩ := h.qo Tryz.underlying26
  have k0 : Tryz.prog.cellsOf 48 = 3 := by kernel_rfl
  have key : ∀ es : List (List T), (∀ c ∈ es, WT Tryz.prog 48 c) → ∃ l : List zt, es = zt.zV l ∧ ∀ y ∈ l, y.ok := fun es => by
    induction es with
    | nil => exact fun _ => ⟨[], rfl, by simp⟩
    | cons c es ih =>
      intro h
      obtain ⟨l, a1, a2⟩ := ih fun c' hc => h c' (by simp [hc])
      obtain ⟨x, a3, a4⟩ := ZD (h c (by simp))
      exact ⟨x :: l, by simp [zt.zV, a1, a3], by simpa using ⟨a4, a2⟩⟩
  obtain ⟨l, a1, a2⟩ := key es e3
  subst a1
  exact ⟨l, by rw [e1, k0], by rw [zt.zR] at e2; exact e2, a2⟩
/-- a graph and notices handed in -/
theorem eI {xs : List V} (h : WTA Tryz.prog [25, 26] xs) : ∃ (g : zU) (ns : List zt), xs = [.agg (g.enc.map .t), .t (.list 3 (zt.zV ns))] ∧ g.ok ∧ ns.length ≤ 9223372036854775807 ∧ ∀ n ∈ ns, n.ok := by
  obtain ⟨cs, v, vs, rfl, h1, h2, h3⟩ := h.fk
  obtain ⟨cs', v', vs', rfl, h1', h2', h3'⟩ := h3.fk
  have := h3'.Un
  subst this
  obtain ⟨g, rfl, ho⟩ := XS h1
  obtain ⟨ns, rfl, hl, hon⟩ := dy h1'
  obtain ⟨top, packs⟩ := g
  have e : y9 Tryz.prog 25 = true := by kernel_rfl
  have e' : y9 Tryz.prog 26 = false := by kernel_rfl
  rw [e] at h2
  rw [e'] at h2'
  simp [zh, zU.enc] at h2 h2'
  subst h2 h2'
  exact ⟨⟨top, packs⟩, ns, rfl, ho, hl, hon⟩
end Go.Proofs.YtmcephnfcciloaaGreatDoor

/- Joined: V7 I1 V3 K13 K14 K15 K16 K17 K18 K19 W7 W8 M1 M2 M3 M4 M5 M6 M7 M8 M9 B1. Conditions: those of each lemma. -/
import Derived.Test.YtijninlbpifonaaGreatDoorZJ
import Derived.Test.YtijninlbpifonaaGreatDoorZH
import Derived.Test.YtijninlbpifonaaGreatDoorZI
set_option linter.unusedVariables false
set_option linter.unusedSimpArgs false
namespace Go.Proofs.YtijninlbpifonaaGreatDoor
open E
set_option linter.unusedVariables false
set_option linter.unusedSimpArgs false
set_option maxRecDepth 100000
def wH : Str := [32, 124, 124, 32]
/-- the parts between; so many bytes are passed over first -/
def x6 : Nat → Str → List Str
 | _, [] => [[]]
 | 0, x :: r => if wH.isPrefixOf (x :: r) = true then [] :: x6 3 r else match x6 0 r with
  | p :: q => (x :: p) :: q
  | [] => [[x]]
 | k + 1, _ :: r => x6 k r
theorem pt : ∀ (k : Nat) (s : Str), x6 k s ≠ []
 | k, [] => by cases k <;> simp [x6]
 | 0, x :: r => by
  unfold x6
  split
  · simp
  · split <;> simp
 | k + 1, x :: r => by rw [x6]; exact pt k r
theorem jA : ∀ (k : Nat) (s : Str), k ≤ s.length → x6 k s = x6 0 (s.drop k)
 | 0, s, _ => rfl
 | k + 1, [], h => by simp at h
 | k + 1, x :: r, h => by rw [x6, jA k r (by simpa using h)]; rfl
theorem RA {s : Str} (h : wH.isPrefixOf s = true) : 4 ≤ s.length := by
 have : ∀ p s : Str, p.isPrefixOf s = true → p.length ≤ s.length := fun p => by
  induction p with
  | nil => intro s _; simp
  | cons a p ih =>
   intro s h
   cases s with
   | nil => simp [List.isPrefixOf] at h
   | cons b s =>
    simp only [List.isPrefixOf, Bool.and_eq_true] at h
    have := ih s h.2
    simp only [List.length_cons]; omega
 exact this wH s h
theorem ly (x : UInt8) (r : Str) (h : wH.isPrefixOf (x :: r) = true) : x6 0 (x :: r) = [] :: x6 3 r := by rw [x6, if_pos h]
theorem uG (x : UInt8) (r p : Str) (q : List Str) (h : wH.isPrefixOf (x :: r) = false) (e : x6 0 r = p :: q) : x6 0 (x :: r) = (x :: p) :: q := by
 rw [x6, if_neg (by rw [h]; simp), e]
theorem rX : ∀ (n : Nat) (s : Str), s.length ≤ n → Lib.split s wH = x6 0 s
 | n, [], _ => by
  unfold Lib.split
  rw [Lib.count_miss (by simp [Lib.index, wH])]; rfl
 | 0, x :: r, h => by simp at h
 | n + 1, x :: r, h => by
  simp only [List.length_cons] at h
  cases hp : wH.isPrefixOf (x :: r) with
  | true =>
   have h4 := RA hp
   simp only [List.length_cons] at h4
   have hi : Lib.index (x :: r) wH = ((0 : Nat) : Int) := by rw [Lib.index, if_pos hp]; rfl
   have ih := rX n (r.drop 3) (by rw [List.length_drop]; omega)
   unfold Lib.split at ih ⊢
   rw [Lib.count_hit (by simp [wH]) hi, Nat.add_comm, Lib.splitK, hi]
   rw [ly x r hp, jA 3 r (by omega), ← ih]
   simp [wH]
  | false =>
   have ih := rX n r (by omega)
   have hix : Lib.index (x :: r) wH = if Lib.index r wH == -1 then -1 else Lib.index r wH + 1 := by
    rw [Lib.index, hp]; simp
   unfold Lib.split at ih ⊢
   by_cases hm : Lib.index r wH = -1
   · rw [Lib.count_miss hm] at ih
     rw [Lib.count_miss (by rw [hix, hm]; rfl), Lib.splitK]
     rw [Lib.splitK] at ih
     exact (uG x r r [] hp ih.symm).symm
   · have hge := Lib.index_ge r wH
     obtain ⟨j, hj⟩ : ∃ j : Nat, Lib.index r wH = j := ⟨(Lib.index r wH).toNat, by omega⟩
     have hb : (((j : Nat) : Int) == -1) = false := by rw [beq_eq_false_iff_ne]; omega
     have hb2 : (((j + 1 : Nat) : Int) == -1) = false := by rw [beq_eq_false_iff_ne]; omega
     have hj2 : Lib.index (x :: r) wH = ((j + 1 : Nat) : Int) := by rw [hix, hj, hb]; simp
     rw [Lib.count_hit (by simp [wH]) hj, Nat.add_comm, Lib.splitK, hj, hb] at ih
     rw [Lib.count_hit (by simp [wH]) hj2, Nat.add_comm, Lib.splitK, hj2, hb2]
     simp only [Bool.false_eq_true, if_false, Int.toNat_natCast, Nat.add_zero] at ih ⊢
     rw [List.take_succ_cons, show j + 1 + wH.length = (j + wH.length) + 1 by omega, List.drop_succ_cons]
     exact (uG x r _ _ hp ih.symm).symm
theorem uH : ∀ (k : Nat) (s : Str), yj (x6 k s) + (x6 k s).length ≤ s.length + 1
 | k, [] => by cases k <;> simp [x6, yj]
 | 0, x :: r => by
  cases hp : wH.isPrefixOf (x :: r) with
  | true =>
   have ih := uH 3 r
   rw [ly x r hp]
   simp only [yj, List.length_cons, List.length_nil] at ih ⊢; omega
  | false =>
   have ih := uH 0 r
   cases hc : x6 0 r with
   | nil => exact absurd hc (pt 0 r)
   | cons p q =>
    rw [hc] at ih
    rw [uG x r p q hp hc]
    simp only [yj, List.length_cons] at ih ⊢; omega
 | k + 1, x :: r => by
  have ih := uH k r
  rw [x6]
  simp only [List.length_cons]; omega
def vR : List Str → Option (List Bd)
 | [] => some []
 | p :: r => match xL p with
  | some b => (match vR r with | some bs => some (b :: bs) | none => none)
  | none => none
def wo (s : Str) : Option (List Bd) := cond (decide ((s.length : Int) > 200) || decide (((x6 0 s).length : Int) > 8)) none (vR (x6 0 s))
def xn (l : List Bd) : Bool := (l.all fun b => isE b.1 && isE b.2) && B2 (l.length : Int) 1 8
theorem rz : ∀ (l : List Str) (r : List Bd), vR l = some r → (r.all fun b => isE b.1 && isE b.2) = true ∧ r.length = l.length
 | [], r, h => by cases h; exact ⟨rfl, rfl⟩
 | p :: l, r, h => by
  unfold vR at h
  cases hp : xL p with
  | none => rw [hp] at h; cases h
  | some b =>
   rw [hp] at h
   simp only at h
   cases hl : vR l with
   | none => rw [hl] at h; cases h
   | some bs =>
    rw [hl] at h
    cases h
    obtain ⟨h1, h2⟩ := rz l bs hl
    obtain ⟨q1, q2⟩ := Vm hp
    refine ⟨?_, by simp [h2]⟩
    simp only [List.all_cons, q1, q2, h1]; rfl
/-- as the implementation asks -/
def gp (s : Str) : Option (List Bd) := cond (decide ((s.length : Int) > 200)) none (match vR (x6 0 s) with | some l => cond (xn l) (some l) none | none => none)
theorem mn (s : Str) : gp s = wo s := by
 unfold gp wo
 cases decide ((s.length : Int) > 200) with
 | true => rfl
 | false =>
  simp only [cond_false, Bool.false_or]
  cases ha : vR (x6 0 s) with
  | none => cases decide (((x6 0 s).length : Int) > 8) <;> rfl
  | some l =>
   obtain ⟨h1, h2⟩ := rz _ _ ha
   have hn : 1 ≤ (x6 0 s).length := by
    cases hc : x6 0 s with
    | nil => exact absurd hc (pt 0 s)
    | cons p q => simp
   have hr : xn l = !decide (((x6 0 s).length : Int) > 8) := by
    unfold xn B2
    rw [h1, h2, Bool.true_and, decide_eq_true (show (1 : Int) ≤ ((x6 0 s).length : Int) by omega), Bool.true_and]
    by_cases h : ((x6 0 s).length : Int) ≤ 8
    · rw [decide_eq_true h, decide_eq_false (by omega)]; rfl
    · rw [decide_eq_false h, decide_eq_true (by omega)]; rfl
   simp only
   rw [hr]
   cases decide (((x6 0 s).length : Int) > 8) <;> rfl
end Go.Proofs.YtijninlbpifonaaGreatDoor
/- The library's searches, at fields. Conditions: those of each lemma. -/
namespace Go.Proofs.YtijninlbpifonaaGreatDoor
open E
set_option linter.unusedSimpArgs false
set_option linter.unusedVariables false
set_option maxRecDepth 100000
/-- the first place at which something holds -/
def jQ {α : Type} (p : α → Bool) : List α → Nat → Option Nat
 | [], _ => none
 | x :: r, n => if p x = true then some n else jQ p r (n + 1)
def ixI : Option Nat → Int
 | some n => (n : Int)
 | none => -1
theorem dB {α : Type} (p : α → Bool) : ∀ (l : List α) (n : Nat), (jQ p l n).isSome = l.any p
 | [], _ => rfl
 | x :: r, n => by
  simp only [jQ, List.any_cons]
  split
  · rename_i h; simp [h]
  · rename_i h; rw [dB p r (n + 1)]; simp [h]
theorem SD {α : Type} (p : α → Bool) (l : List α) : decide (ixI (jQ p l 0) ≥ 0) = l.any p := by
 rw [← dB p l 0]
 cases jQ p l 0 with
 | none => rfl
 | some n => simp [ixI]
end Go.Proofs.YtijninlbpifonaaGreatDoor
/- Packs and graphs, plain. Conditions: none. -/
namespace Go.Proofs.YtijninlbpifonaaGreatDoor
open E
set_option linter.unusedVariables false
set_option linter.unusedSimpArgs false
set_option maxRecDepth 100000
/-- is a text above the one ahead, if there is one? -/
def above (prev : Option Str) (s : Str) : Bool := match prev with
 | none => true
 | some p => Op.bytesLess p s
theorem rq {α : Type} (f : α → List T) (pre : List α) (x : α) (rest : List α) : ((pre ++ x :: rest).map f)[pre.length]? = some (f x) := by simp
end Go.Proofs.YtijninlbpifonaaGreatDoor
/- Ranges, by the implementation. Conditions: those of each lemma. -/
namespace Go.Proofs.YtijninlbpifonaaGreatDoor
open E
set_option linter.unusedSimpArgs false
set_option linter.unusedVariables false
set_option maxRecDepth 100000
/-- bounds as the evaluator sees them -/
def bdT (l : List Bd) : List (List T) := l.map fun b => [.str b.1, .str b.2]
theorem xQ (l : List Bd) : (bdT l).length = l.length := by simp [bdT]
theorem Yo (a b : List Bd) : bdT (a ++ b) = bdT a ++ bdT b := by simp [bdT]
def bdV (b : Bd) : V := .agg [.t (.str b.1), .t (.str b.2)]
theorem T7 (s : Str) : (!(s == []) && !(isV s)) = !(isE s) := by
 unfold isE
 cases (s == []) <;> cases isV s <;> rfl
theorem ry (s : Str) (hl : s.length ≤ 1048700) : zE (EV Tryz.prog pol) 197 [.t (.str s)] = some (.t (.bool (isV s))) := by
 have h := lX s hl
 unfold rvT at h
 unfold isV
 generalize (zx s).1 = v at *
 generalize (zx s).2 = ok at *
 simp only [Ver.enc, List.map_cons, List.map_nil] at h
 apply zz
 refine zA rfl Tryz.func197 rfl (by kernel_rfl) ?_
 unfold Tryz.f197
 simp (disch := ((try simp only [LL]); omega)) only [↓GO, ↓DRW, GA, ren, zG, zd, refs, zb, cst, zl, zM, z7, E.load, E.store, zL, isC, bin, zN, zO, una, z8, za, zh, zP, blt, fnV, asArg, ze, zn, zo, zj, zm, zg, zk, zu, z6, zK, zJ, E.mkS, zc, unN, zQ, zi, zw, zq, zC, zI, zf, zR, zr, GS, simprocAttr, GZ, h]
theorem Te (l : List Bd) (hl : l.length ≤ 4194304) (hb : ∀ b ∈ l, b.1.length ≤ 1048700 ∧ b.2.length ≤ 1048700) : ∀ (rest pre : List Bd), l = pre ++ rest →
 EV Tryz.prog pol (.loop 229 26 0 [.t (.list 2 (bdT l)), .t (.list 2 (bdT l)), .t (.int .i64 (l.length : Int)), .t (.int .i64 (pre.length : Int))] []) = some (cond (rest.all fun b => isE b.1 && isE b.2) (.loop (.exit 0) [.t (.list 2 (bdT l)), .bad] []) (.loop .ret [.t (.list 2 (bdT l)), .t (.bool false)] []))
 | [], pre, hs => by
  have c : decide ((pre.length : Int) < (l.length : Int)) = false := by simp [hs]
  simp only [List.all_nil, cond_true]
  refine zD Tryz.func229 rfl rfl ?_
  simp (disch := ((try simp only [LL]); omega)) only [↓GO, ↓DRW, GA, ren, zG, zd, refs, zb, cst, zl, zM, z7, E.load, E.store, zL, isC, bin, zN, zO, una, z8, za, zh, zP, blt, fnV, asArg, ze, zn, zo, zj, zm, zg, zk, zu, z6, zK, zJ, E.mkS, zc, unN, zQ, zi, zw, zq, zC, zI, zf, zR, zr, GS, simprocAttr, GZ, c]
 | x :: rest, pre, hs => by
  have c : decide ((pre.length : Int) < (l.length : Int)) = true := by simp [hs]; omega
  have hget : (bdT l)[pre.length]? = some [.str x.1, .str x.2] := by rw [hs]; exact rq (fun b : Bd => [T.str b.1, T.str b.2]) pre x rest
  have hlen : pre.length + rest.length + 1 ≤ l.length := by rw [hs]; simp; omega
  have hx := hb x (by rw [hs]; simp)
  have h1 := ry x.1 hx.1
  have h2 := ry x.2 hx.2
  have e1 := T7 x.1
  have e2 := T7 x.2
  have IH := Te l hl hb rest (pre ++ [x]) (by rw [hs]; simp)
  rw [show ((pre ++ [x]).length : Int) = (pre.length : Int) + 1 by simp] at IH
  clear hs hb
  rw [List.all_cons]
  generalize isE x.1 = a1 at *
  generalize isE x.2 = a2 at *
  generalize isV x.1 = b1 at *
  generalize isV x.2 = b2 at *
  cases h3 : (x.1 == []) <;> cases h4 : (x.2 == []) <;> cases b1 <;> cases b2 <;> rw [h3] at e1 <;> rw [h4] at e2 <;> cases a1 <;> cases a2 <;> first
   | (exfalso; revert e1; decide)
   | (exfalso; revert e2; decide)
   | (refine zD Tryz.func229 rfl rfl ?_; simp (disch := ((try simp only [LL]); omega)) only [↓GO, ↓DRW, GA, ren, zG, zd, refs, zb, cst, zl, zM, z7, E.load, E.store, zL, isC, bin, zN, zO, una, z8, za, zh, zP, blt, fnV, asArg, ze, zn, zo, zj, zm, zg, zk, zu, z6, zK, zJ, E.mkS, zc, unN, zQ, zi, zw, zq, zC, zI, zf, zR, zr, GS, simprocAttr, GZ, c, hget, h1, h2, h3, h4, bne, zB, xQ, IH])
theorem Tu (l : List Bd) (hl : l.length ≤ 4194304) (hb : ∀ b ∈ l, b.1.length ≤ 1048700 ∧ b.2.length ≤ 1048700) : zE (EV Tryz.prog pol) 229 [.t (.list 2 (bdT l))] = some (.t (.bool (xn l))) := by
 have L := Te l hl hb l [] rfl
 have h := uT (l.length : Int) 1 8
 simp only [List.length_nil, Int.natCast_zero] at L
 unfold xn
 generalize B2 (l.length : Int) 1 8 = b2 at *
 cases ha : (l.all fun b => isE b.1 && isE b.2) <;> rw [ha] at L <;> simp only [cond_true, cond_false] at L
 all_goals
  apply zz
  refine zA rfl Tryz.func229 rfl (by kernel_rfl) ?_
  unfold Tryz.f229
  simp (disch := ((try simp only [LL]); omega)) only [↓GO, ↓DRW, GA, ren, zG, zd, refs, zb, cst, zl, zM, z7, E.load, E.store, zL, isC, bin, zN, zO, una, z8, za, zh, zP, blt, fnV, asArg, ze, zn, zo, zj, zm, zg, zk, zu, z6, zK, zJ, E.mkS, zc, unN, zQ, zi, zw, zq, zC, zI, zf, zR, zr, GS, simprocAttr, GZ, L, h, xQ]
theorem Xt (s : Str) (hl : s.length ≤ 1048700) : zE (EV Tryz.prog pol) 284 [.t (.str s)] = some (.tup [bdV (wc s).1, .t (.bool (wc s).2)]) := by
 have h1 := pw s [46] (by omega) (by simp)
 rw [rY] at h1
 have hbk := xK 46 s
 unfold wc
 match hp : yk 46 s with
 | [] => exact absurd hp (x5 46 s)
 | [a] =>
  rw [hp] at h1 hbk
  simp only [yj, List.length_cons, List.length_nil] at hbk
  have d1 := lY a (by omega)
  have hr := xx a
  have v1 := uU ⟨zF a, 0, 0, []⟩ (by simp [Ver.sm, yj])
  have v2 := lW (zF a) 1 0
  have v3 := lW (zF a + 1) 0 0
  have e0 : decide (zF a < 0) = !decide (0 ≤ zF a) := by
   by_cases h : zF a < 0
   · rw [decide_eq_true h, decide_eq_false (by omega)]; rfl
   · rw [decide_eq_false h, decide_eq_true (by omega)]; rfl
  simp only
  generalize yc ⟨zF a, 0, 0, []⟩ = t1 at *
  generalize yg (zF a) 1 0 = t2 at *
  generalize yg (zF a + 1) 0 0 = t3 at *
  generalize zF a = ra at *
  simp only [xm, yi, Ver.enc, List.map_cons, List.map_nil, bdV] at h1 v1 ⊢
  cases hd : decide (0 ≤ ra) <;> rw [hd] at e0 <;> simp only [Bool.not_true, Bool.not_false] at e0
  · have L : EV Tryz.prog pol (.loop 284 250 0 [.ptr 0 0 0, .t (.list 1 [[.str a]]), .sl 1 0 2 (some 2), .t (.list 1 [[.str a]]), .t (.int .i64 1), .t (.int .i64 0)] [.vs 2 [[.t (.str []), .t (.str [])]], .ts 1 [[.int .i64 0], [.int .i64 0]]])
     = some (.loop .ret [.ptr 0 0 0, .t (.bool false), .t (.list 1 [[.str a]]), .sl 1 0 2 (some 2)] [.vs 2 [[.t (.str []), .t (.str [])]], .ts 1 [[.int .i64 ra], [.int .i64 0]]]) := by
     refine zD Tryz.func284 rfl rfl ?_
     simp (disch := ((try simp only [LL]); omega)) only [↓GO, ↓DRW, GA, ren, zG, zd, refs, zb, cst, zl, zM, z7, E.load, E.store, zL, isC, bin, zN, zO, una, z8, za, zh, zP, blt, fnV, asArg, ze, zn, zo, zj, zm, zg, zk, zu, z6, zK, zJ, E.mkS, zc, unN, zQ, zi, zw, zq, zC, zI, zf, zR, zr, GS, simprocAttr, GZ, d1, e0, zB, y6]
    apply zz
    refine zA rfl Tryz.func284 rfl (by kernel_rfl) ?_
    unfold Tryz.f284
    simp (disch := ((try simp only [LL]); omega)) only [↓GO, ↓DRW, GA, ren, zG, zd, refs, zb, cst, zl, zM, z7, E.load, E.store, zL, isC, bin, zN, zO, una, z8, za, zh, zP, blt, fnV, asArg, ze, zn, zo, zj, zm, zg, zk, zu, z6, zK, zJ, E.mkS, zc, unN, zQ, zi, zw, zq, zC, zI, zf, zR, zr, GS, simprocAttr, GZ, h1, L, y6]
  · have L : EV Tryz.prog pol (.loop 284 250 0 [.ptr 0 0 0, .t (.list 1 [[.str a]]), .sl 1 0 2 (some 2), .t (.list 1 [[.str a]]), .t (.int .i64 1), .t (.int .i64 0)] [.vs 2 [[.t (.str []), .t (.str [])]], .ts 1 [[.int .i64 0], [.int .i64 0]]])
     = some (.loop (.exit 0) [.ptr 0 0 0, .bad, .t (.list 1 [[.str a]]), .sl 1 0 2 (some 2)] [.vs 2 [[.t (.str []), .t (.str [])]], .ts 1 [[.int .i64 ra], [.int .i64 0]]]) := by
     refine zD Tryz.func284 rfl rfl ?_
     simp (disch := ((try simp only [LL]); omega)) only [↓GO, ↓DRW, GA, ren, zG, zd, refs, zb, cst, zl, zM, z7, E.load, E.store, zL, isC, bin, zN, zO, una, z8, za, zh, zP, blt, fnV, asArg, ze, zn, zo, zj, zm, zg, zk, zu, z6, zK, zJ, E.mkS, zc, unN, zQ, zi, zw, zq, zC, zI, zf, zR, zr, GS, simprocAttr, GZ, d1, e0, zB, y6, Int.reduceAdd]
     refine zD Tryz.func284 rfl rfl ?_
     simp (disch := ((try simp only [LL]); omega)) only [↓GO, ↓DRW, GA, ren, zG, zd, refs, zb, cst, zl, zM, z7, E.load, E.store, zL, isC, bin, zN, zO, una, z8, za, zh, zP, blt, fnV, asArg, ze, zn, zo, zj, zm, zg, zk, zu, z6, zK, zJ, E.mkS, zc, unN, zQ, zi, zw, zq, zC, zI, zf, zR, zr, GS, simprocAttr, GZ, y6]
    apply zz
    refine zA rfl Tryz.func284 rfl (by kernel_rfl) ?_
    unfold Tryz.f284
    simp (disch := ((try simp only [LL]); omega)) only [↓GO, ↓DRW, GA, ren, zG, zd, refs, zb, cst, zl, zM, z7, E.load, E.store, zL, isC, bin, zN, zO, una, z8, za, zh, zP, blt, fnV, asArg, ze, zn, zo, zj, zm, zg, zk, zu, z6, zK, zJ, E.mkS, zc, unN, zQ, zi, zw, zq, zC, zI, zf, zR, zr, GS, simprocAttr, GZ, h1, L, v1, v2, v3, zB, Int.reduceAdd, yi, y6]
    refine yZ (by kernel_rfl) ?_
    simp (disch := ((try simp only [LL]); omega)) only [↓GO, ↓DRW, GA, ren, zG, zd, refs, zb, cst, zl, zM, z7, E.load, E.store, zL, isC, bin, zN, zO, una, z8, za, zh, zP, blt, fnV, asArg, ze, zn, zo, zj, zm, zg, zk, zu, z6, zK, zJ, E.mkS, zc, unN, zQ, zi, zw, zq, zC, zI, zf, zR, zr, GS, simprocAttr, GZ, h1, L, v1, v2, v3, zB, Int.reduceAdd, yi, y6]
 | [a, b] =>
  rw [hp] at h1 hbk
  simp only [yj, List.length_cons, List.length_nil] at hbk
  have d1 := lY a (by omega)
  have d2 := lY b (by omega)
  have hr := xx a
  have hr2 := xx b
  have v1 := uU ⟨zF a, zF b, 0, []⟩ (by simp [Ver.sm, yj])
  have v2 := lW (zF a) (zF b + 1) 0
  have e0 : decide (zF a < 0) = !decide (0 ≤ zF a) := by
   by_cases h : zF a < 0
   · rw [decide_eq_true h, decide_eq_false (by omega)]; rfl
   · rw [decide_eq_false h, decide_eq_true (by omega)]; rfl
  have e1 : decide (zF b < 0) = !decide (0 ≤ zF b) := by
   by_cases h : zF b < 0
   · rw [decide_eq_true h, decide_eq_false (by omega)]; rfl
   · rw [decide_eq_false h, decide_eq_true (by omega)]; rfl
  simp only
  generalize yc ⟨zF a, zF b, 0, []⟩ = t1 at *
  generalize yg (zF a) (zF b + 1) 0 = t2 at *
  generalize zF a = ra at *
  generalize zF b = rb at *
  simp only [xm, yi, Ver.enc, List.map_cons, List.map_nil, bdV] at h1 v1 ⊢
  cases hd : decide (0 ≤ ra) <;> rw [hd] at e0 <;> simp only [Bool.not_true, Bool.not_false] at e0
  · have L : EV Tryz.prog pol (.loop 284 250 0 [.ptr 0 0 0, .t (.list 1 [[.str a], [.str b]]), .sl 1 0 2 (some 2), .t (.list 1 [[.str a], [.str b]]), .t (.int .i64 2), .t (.int .i64 0)] [.vs 2 [[.t (.str []), .t (.str [])]], .ts 1 [[.int .i64 0], [.int .i64 0]]])
     = some (.loop .ret [.ptr 0 0 0, .t (.bool false), .t (.list 1 [[.str a], [.str b]]), .sl 1 0 2 (some 2)] [.vs 2 [[.t (.str []), .t (.str [])]], .ts 1 [[.int .i64 ra], [.int .i64 0]]]) := by
     refine zD Tryz.func284 rfl rfl ?_
     simp (disch := ((try simp only [LL]); omega)) only [↓GO, ↓DRW, GA, ren, zG, zd, refs, zb, cst, zl, zM, z7, E.load, E.store, zL, isC, bin, zN, zO, una, z8, za, zh, zP, blt, fnV, asArg, ze, zn, zo, zj, zm, zg, zk, zu, z6, zK, zJ, E.mkS, zc, unN, zQ, zi, zw, zq, zC, zI, zf, zR, zr, GS, simprocAttr, GZ, d1, e0, zB, y6]
    apply zz
    refine zA rfl Tryz.func284 rfl (by kernel_rfl) ?_
    unfold Tryz.f284
    simp (disch := ((try simp only [LL]); omega)) only [↓GO, ↓DRW, GA, ren, zG, zd, refs, zb, cst, zl, zM, z7, E.load, E.store, zL, isC, bin, zN, zO, una, z8, za, zh, zP, blt, fnV, asArg, ze, zn, zo, zj, zm, zg, zk, zu, z6, zK, zJ, E.mkS, zc, unN, zQ, zi, zw, zq, zC, zI, zf, zR, zr, GS, simprocAttr, GZ, h1, L, y6]
  · cases he : decide (0 ≤ rb) <;> rw [he] at e1 <;> simp only [Bool.not_true, Bool.not_false] at e1
    · have L : EV Tryz.prog pol (.loop 284 250 0 [.ptr 0 0 0, .t (.list 1 [[.str a], [.str b]]), .sl 1 0 2 (some 2), .t (.list 1 [[.str a], [.str b]]), .t (.int .i64 2), .t (.int .i64 0)] [.vs 2 [[.t (.str []), .t (.str [])]], .ts 1 [[.int .i64 0], [.int .i64 0]]])
       = some (.loop .ret [.ptr 0 0 0, .t (.bool false), .t (.list 1 [[.str a], [.str b]]), .sl 1 0 2 (some 2)] [.vs 2 [[.t (.str []), .t (.str [])]], .ts 1 [[.int .i64 ra], [.int .i64 rb]]]) := by
       refine zD Tryz.func284 rfl rfl ?_
       simp (disch := ((try simp only [LL]); omega)) only [↓GO, ↓DRW, GA, ren, zG, zd, refs, zb, cst, zl, zM, z7, E.load, E.store, zL, isC, bin, zN, zO, una, z8, za, zh, zP, blt, fnV, asArg, ze, zn, zo, zj, zm, zg, zk, zu, z6, zK, zJ, E.mkS, zc, unN, zQ, zi, zw, zq, zC, zI, zf, zR, zr, GS, simprocAttr, GZ, d1, e0, zB, y6, Int.reduceAdd]
       refine zD Tryz.func284 rfl rfl ?_
       simp (disch := ((try simp only [LL]); omega)) only [↓GO, ↓DRW, GA, ren, zG, zd, refs, zb, cst, zl, zM, z7, E.load, E.store, zL, isC, bin, zN, zO, una, z8, za, zh, zP, blt, fnV, asArg, ze, zn, zo, zj, zm, zg, zk, zu, z6, zK, zJ, E.mkS, zc, unN, zQ, zi, zw, zq, zC, zI, zf, zR, zr, GS, simprocAttr, GZ, d2, e1, zB, y6]
      apply zz
      refine zA rfl Tryz.func284 rfl (by kernel_rfl) ?_
      unfold Tryz.f284
      simp (disch := ((try simp only [LL]); omega)) only [↓GO, ↓DRW, GA, ren, zG, zd, refs, zb, cst, zl, zM, z7, E.load, E.store, zL, isC, bin, zN, zO, una, z8, za, zh, zP, blt, fnV, asArg, ze, zn, zo, zj, zm, zg, zk, zu, z6, zK, zJ, E.mkS, zc, unN, zQ, zi, zw, zq, zC, zI, zf, zR, zr, GS, simprocAttr, GZ, h1, L, y6]
    · have L : EV Tryz.prog pol (.loop 284 250 0 [.ptr 0 0 0, .t (.list 1 [[.str a], [.str b]]), .sl 1 0 2 (some 2), .t (.list 1 [[.str a], [.str b]]), .t (.int .i64 2), .t (.int .i64 0)] [.vs 2 [[.t (.str []), .t (.str [])]], .ts 1 [[.int .i64 0], [.int .i64 0]]])
       = some (.loop (.exit 0) [.ptr 0 0 0, .bad, .t (.list 1 [[.str a], [.str b]]), .sl 1 0 2 (some 2)] [.vs 2 [[.t (.str []), .t (.str [])]], .ts 1 [[.int .i64 ra], [.int .i64 rb]]]) := by
       refine zD Tryz.func284 rfl rfl ?_
       simp (disch := ((try simp only [LL]); omega)) only [↓GO, ↓DRW, GA, ren, zG, zd, refs, zb, cst, zl, zM, z7, E.load, E.store, zL, isC, bin, zN, zO, una, z8, za, zh, zP, blt, fnV, asArg, ze, zn, zo, zj, zm, zg, zk, zu, z6, zK, zJ, E.mkS, zc, unN, zQ, zi, zw, zq, zC, zI, zf, zR, zr, GS, simprocAttr, GZ, d1, e0, zB, y6, Int.reduceAdd]
       refine zD Tryz.func284 rfl rfl ?_
       simp (disch := ((try simp only [LL]); omega)) only [↓GO, ↓DRW, GA, ren, zG, zd, refs, zb, cst, zl, zM, z7, E.load, E.store, zL, isC, bin, zN, zO, una, z8, za, zh, zP, blt, fnV, asArg, ze, zn, zo, zj, zm, zg, zk, zu, z6, zK, zJ, E.mkS, zc, unN, zQ, zi, zw, zq, zC, zI, zf, zR, zr, GS, simprocAttr, GZ, d2, e1, zB, y6, Int.reduceAdd]
       refine zD Tryz.func284 rfl rfl ?_
       simp (disch := ((try simp only [LL]); omega)) only [↓GO, ↓DRW, GA, ren, zG, zd, refs, zb, cst, zl, zM, z7, E.load, E.store, zL, isC, bin, zN, zO, una, z8, za, zh, zP, blt, fnV, asArg, ze, zn, zo, zj, zm, zg, zk, zu, z6, zK, zJ, E.mkS, zc, unN, zQ, zi, zw, zq, zC, zI, zf, zR, zr, GS, simprocAttr, GZ, y6]
      apply zz
      refine zA rfl Tryz.func284 rfl (by kernel_rfl) ?_
      unfold Tryz.f284
      simp (disch := ((try simp only [LL]); omega)) only [↓GO, ↓DRW, GA, ren, zG, zd, refs, zb, cst, zl, zM, z7, E.load, E.store, zL, isC, bin, zN, zO, una, z8, za, zh, zP, blt, fnV, asArg, ze, zn, zo, zj, zm, zg, zk, zu, z6, zK, zJ, E.mkS, zc, unN, zQ, zi, zw, zq, zC, zI, zf, zR, zr, GS, simprocAttr, GZ, h1, L, v1, v2, zB, yi, y6]
      refine yZ (by kernel_rfl) ?_
      simp (disch := ((try simp only [LL]); omega)) only [↓GO, ↓DRW, GA, ren, zG, zd, refs, zb, cst, zl, zM, z7, E.load, E.store, zL, isC, bin, zN, zO, una, z8, za, zh, zP, blt, fnV, asArg, ze, zn, zo, zj, zm, zg, zk, zu, z6, zK, zJ, E.mkS, zc, unN, zQ, zi, zw, zq, zC, zI, zf, zR, zr, GS, simprocAttr, GZ, h1, L, v1, v2, zB, yi, y6]
 | a :: b :: c :: r =>
  rw [hp] at h1
  have hc : decide (((a :: b :: c :: r).length : Int) > 2) = true := by apply decide_eq_true; simp only [List.length_cons]; omega
  simp only [bdV]
  generalize a :: b :: c :: r = ps at *
  apply zz
  refine zA rfl Tryz.func284 rfl (by kernel_rfl) ?_
  unfold Tryz.f284
  simp (disch := ((try simp only [LL]); omega)) only [↓GO, ↓DRW, GA, ren, zG, zd, refs, zb, cst, zl, zM, z7, E.load, E.store, zL, isC, bin, zN, zO, una, z8, za, zh, zP, blt, fnV, asArg, ze, zn, zo, zj, zm, zg, zk, zu, z6, zK, zJ, E.mkS, zc, unN, zQ, zi, zw, zq, zC, zI, zf, zR, zr, GS, simprocAttr, GZ, h1, hc, zH, y6]
theorem Xx (s p : Str) (hs : s.length ≤ 9223372036854775807) (hp : p.length ≤ 9223372036854775807) : zE (EV Tryz.prog pol) 332 [.t (.str s), .t (.str p)] = some (.tup [.t (.str (cond (p.isPrefixOf s) (s.drop p.length) s)), .t (.bool (p.isPrefixOf s))]) := by
 have h := o9 s p hs hp
 cases hb : p.isPrefixOf s with
 | false =>
  rw [hb] at h
  apply zz
  refine zA rfl Tryz.func332 rfl (by kernel_rfl) ?_
  unfold Tryz.f332
  simp (disch := ((try simp only [LL]); omega)) only [↓GO, ↓DRW, GA, ren, zG, zd, refs, zb, cst, zl, zM, z7, E.load, E.store, zL, isC, bin, zN, zO, una, z8, za, zh, zP, blt, fnV, asArg, ze, zn, zo, zj, zm, zg, zk, zu, z6, zK, zJ, E.mkS, zc, unN, zQ, zi, zw, zq, zC, zI, zf, zR, zr, GS, simprocAttr, GZ, h]
 | true =>
  have h2 := la hb
  rw [hb] at h
  apply zz
  refine zA rfl Tryz.func332 rfl (by kernel_rfl) ?_
  unfold Tryz.f332
  simp (disch := ((try simp only [LL]); omega)) only [↓GO, ↓DRW, GA, ren, zG, zd, refs, zb, cst, zl, zM, z7, E.load, E.store, zL, isC, bin, zN, zO, una, z8, za, zh, zP, blt, fnV, asArg, ze, zn, zo, zj, zm, zg, zk, zu, z6, zK, zJ, E.mkS, zc, unN, zQ, zi, zw, zq, zC, zI, zf, zR, zr, GS, simprocAttr, GZ, h]
theorem dX (s p : Str) (hs : s.length ≤ 9223372036854775807) (hp : p.length ≤ 9223372036854775807) : zE (EV Tryz.prog pol) 282 [.t (.str s), .t (.str p)] = some (.tup [.t (.str (cond (p.isPrefixOf s) (s.drop p.length) s)), .t (.bool (p.isPrefixOf s))]) := by
 have h := Xx s p hs hp
 apply zz
 refine zA rfl Tryz.func282 rfl (by kernel_rfl) ?_
 unfold Tryz.f282
 simp (disch := ((try simp only [LL]); omega)) only [↓GO, ↓DRW, GA, ren, zG, zd, refs, zb, cst, zl, zM, z7, E.load, E.store, zL, isC, bin, zN, zO, una, z8, za, zh, zP, blt, fnV, asArg, ze, zn, zo, zj, zm, zg, zk, zu, z6, zK, zJ, E.mkS, zc, unN, zQ, zi, zw, zq, zC, zI, zf, zR, zr, GS, simprocAttr, GZ, h]
theorem VM (s : Str) : (xi s).1.length ≤ s.length ∧ (xi s).2.1.length ≤ s.length := by
 have h := congrArg List.length (hY s)
 rw [List.length_append] at h
 cases hc : (xi s).2.2 with
 | true => rw [hc] at h; simp only [cond_true, List.length_cons] at h; omega
 | false =>
  have : (xi s).2.1 = [] := by
   have key : ∀ s : Str, (xi s).2.2 = false → (xi s).2.1 = [] := fun s => by
    induction s with
    | nil => intro _; rfl
    | cons x r ih =>
     intro h
     rw [xi] at h ⊢
     split at h
     · cases h
     · rename_i hx; rw [if_neg hx]; exact ih h
   exact key s hc
  rw [this]; rw [hc] at h; simp only [cond_false, List.length_nil] at h ⊢; omega
theorem U7 (s : Str) (hl : s.length ≤ 1048600) : zE (EV Tryz.prog pol) 227 [.t (.str s)] = some (.tup [bdV (xD s).1, .t (.bool (xD s).2)]) := by
 unfold xD
 cases h42 : (s == [42]) with
 | true =>
  simp only [cond_true, bdV]
  apply zz
  refine zA rfl Tryz.func227 rfl (by kernel_rfl) ?_
  unfold Tryz.f227
  simp (disch := ((try simp only [LL]); omega)) only [↓GO, ↓DRW, GA, ren, zG, zd, refs, zb, cst, zl, zM, z7, E.load, E.store, zL, isC, bin, zN, zO, una, z8, za, zh, zP, blt, fnV, asArg, ze, zn, zo, zj, zm, zg, zk, zu, z6, zK, zJ, E.mkS, zc, unN, zQ, zi, zw, zq, zC, zI, zf, zR, zr, GS, simprocAttr, GZ, h42]
 | false =>
  have hrv := lX s (by omega)
  obtain ⟨m1, m2, m3, m4, m5, m6, m7⟩ := yO s (by omega)
  have hpr := gH s (by omega)
  unfold rvT at hrv
  have hisv : (zx s).2 = isV s := rfl
  rw [hisv] at hrv
  simp only [cond_false]
  cases hv : isV s with
  | true =>
   have hal := Rh (zx s).1 m1 (by omega) m7 m6
   rw [(yl (s := s) hv).2.1] at hal
   rw [hv] at hrv
   simp only [cond_true, bdV]
   generalize rE (zx s).1 = hi at *
   generalize (zx s).1 = v at *
   simp only [Ver.enc, List.map_cons, List.map_nil] at hrv hal ⊢
   apply zz
   refine zA rfl Tryz.func227 rfl (by kernel_rfl) ?_
   unfold Tryz.f227
   simp (disch := ((try simp only [LL]); omega)) only [↓GO, ↓DRW, GA, ren, zG, zd, refs, zb, cst, zl, zM, z7, E.load, E.store, zL, isC, bin, zN, zO, una, z8, za, zh, zP, blt, fnV, asArg, ze, zn, zo, zj, zm, zg, zk, zu, z6, zK, zJ, E.mkS, zc, unN, zQ, zi, zw, zq, zC, zI, zf, zR, zr, GS, simprocAttr, GZ, h42, hrv, hal]
  | false =>
   have hc1 := dX s [62, 61] (by omega) (by simp)
   have hc2 := dX s [60] (by omega) (by simp)
   have hc3 := Q2 (s.drop 2) [32, 60] (by rw [List.length_drop]; omega)
   have hcl := VM (s.drop 2)
   rw [List.length_drop] at hcl
   have hi1 := ry (xi (s.drop 2)).1 (by omega)
   have hi2 := ry (xi (s.drop 2)).2.1 (by omega)
   rw [dO] at hc3
   have hi3 := ry (s.drop 1) (by rw [List.length_drop]; omega)
   have hpt := Xt s (by omega)
   rw [hv] at hrv
   rw [show (([62, 61] : Str).isPrefixOf s) = geP s from rfl, show (([62, 61] : Str).length) = 2 from rfl] at hc1
   rw [show (([60] : Str).isPrefixOf s) = ltP s from rfl, show (([60] : Str).length) = 1 from rfl] at hc2
   generalize (zx s).1 = v at *
   simp only [Ver.enc, List.map_cons, List.map_nil] at hrv
   simp only [cond_false]
   cases hg : geP s with
   | true =>
    rw [hg] at hc1
    simp only [cond_true] at hc1 ⊢
    generalize isV (xi (s.drop 2)).1 = b1 at *
    generalize isV (xi (s.drop 2)).2.1 = b2 at *
    generalize (xi (s.drop 2)).1 = c1 at *
    generalize (xi (s.drop 2)).2.1 = c2 at *
    generalize (xi (s.drop 2)).2.2 = b3 at *
    simp only [bdV]
    cases b1 <;> cases b3 <;> cases b2
    all_goals
     apply zz
     refine zA rfl Tryz.func227 rfl (by kernel_rfl) ?_
     unfold Tryz.f227
     simp (disch := ((try simp only [LL]); omega)) only [↓GO, ↓DRW, GA, ren, zG, zd, refs, zb, cst, zl, zM, z7, E.load, E.store, zL, isC, bin, zN, zO, una, z8, za, zh, zP, blt, fnV, asArg, ze, zn, zo, zj, zm, zg, zk, zu, z6, zK, zJ, E.mkS, zc, unN, zQ, zi, zw, zq, zC, zI, zf, zR, zr, GS, simprocAttr, GZ, h42, hrv, hc1, hc3, hi1, hi2]
   | false =>
    rw [hg] at hc1
    simp only [cond_false] at hc1 ⊢
    cases hlp : ltP s with
    | true =>
     rw [hlp] at hc2
     simp only [cond_true] at hc2 ⊢
     generalize isV (s.drop 1) = b1 at *
     simp only [bdV]
     apply zz
     refine zA rfl Tryz.func227 rfl (by kernel_rfl) ?_
     unfold Tryz.f227
     simp (disch := ((try simp only [LL]); omega)) only [↓GO, ↓DRW, GA, ren, zG, zd, refs, zb, cst, zl, zM, z7, E.load, E.store, zL, isC, bin, zN, zO, una, z8, za, zh, zP, blt, fnV, asArg, ze, zn, zo, zj, zm, zg, zk, zu, z6, zK, zJ, E.mkS, zc, unN, zQ, zi, zw, zq, zC, zI, zf, zR, zr, GS, simprocAttr, GZ, h42, hrv, hc1, hc2, hi3]
    | false =>
     rw [hlp] at hc2
     simp only [cond_false] at hc2 ⊢
     cases s with
     | nil =>
      simp only [hdB, Bool.or_false, cond_false]
      generalize wc [] = pp at *
      simp only [bdV] at hpt ⊢
      have hn : (([] : Str) == []) = true := rfl
      apply zz
      refine zA rfl Tryz.func227 rfl (by kernel_rfl) ?_
      unfold Tryz.f227
      simp (disch := ((try simp only [LL]); omega)) only [↓GO, ↓DRW, GA, ren, zG, zd, refs, zb, cst, zl, zM, z7, E.load, E.store, zL, isC, bin, zN, zO, una, z8, za, zh, zP, blt, fnV, asArg, ze, zn, zo, zj, zm, zg, zk, zu, z6, zK, zJ, E.mkS, zc, unN, zQ, zi, zw, zq, zC, zI, zf, zR, zr, GS, simprocAttr, GZ, h42, hrv, hc1, hc2, hn, bne, hpt]
     | cons x r =>
      have hn : ((x :: r) == []) = false := rfl
      have hg0 : (x :: r)[0]? = some x := rfl
      have hdr : (x :: r).drop 1 = r := rfl
      have hxl : 1 ≤ (x :: r).length := by simp
      have h94 : ((x.toNat : Int) == 94) = (x == 94) := by
       rw [Bool.eq_iff_iff]; simp only [beq_iff_eq]
       constructor
       · intro h; exact UInt8.toNat_inj.1 (by rw [show (94 : UInt8).toNat = 94 from rfl]; omega)
       · intro h; rw [h]; rfl
      have h126 : ((x.toNat : Int) == 126) = (x == 126) := by
       rw [Bool.eq_iff_iff]; simp only [beq_iff_eq]
       constructor
       · intro h; exact UInt8.toNat_inj.1 (by rw [show (126 : UInt8).toNat = 126 from rfl]; omega)
       · intro h; rw [h]; rfl
      have hrr := lX r (by simp only [List.length_cons] at hl; omega)
      obtain ⟨n1, n2, n3, n4, n5, n6, n7⟩ := yO r (by simp only [List.length_cons] at hl; omega)
      have z1 := lW (zx r).1.maj ((zx r).1.min + 1) 0
      have z2 := lW ((zx r).1.maj + 1) 0 0
      have z3 := lW 0 0 ((zx r).1.pat + 1)
      unfold rvT at hrr
      rw [show (zx r).2 = isV r from rfl] at hrr
      unfold TA
      rw [hdr]
      simp only [hdB]
      clear hi3 hc3 hi1 hi2 hcl
      generalize x :: r = xr at *
      generalize isV r = b1 at *
      unfold ot
      generalize (zx r).1 = w at *
      generalize yg w.maj (w.min + 1) 0 = t1 at *
      generalize yg (w.maj + 1) 0 0 = t2 at *
      generalize yg 0 0 (w.pat + 1) = t3 at *
      generalize wc xr = pp at *
      simp only [Ver.enc, List.map_cons, List.map_nil, bdV] at hrr hpt ⊢
      cases e1 : (x == 94) <;> rw [e1] at h94
      · cases e2 : (x == 126) <;> rw [e2] at h126
        · apply zz
          refine zA rfl Tryz.func227 rfl (by kernel_rfl) ?_
          unfold Tryz.f227
          simp (disch := ((try simp only [LL]); omega)) only [↓GO, ↓DRW, GA, ren, zG, zd, refs, zb, cst, zl, zM, z7, E.load, E.store, zL, isC, bin, zN, zO, una, z8, za, zh, zP, blt, fnV, asArg, ze, zn, zo, zj, zm, zg, zk, zu, z6, zK, zJ, E.mkS, zc, unN, zQ, zi, zw, zq, zC, zI, zf, zR, zr, GS, simprocAttr, GZ, h42, hrv, hc1, hc2, hn, bne, hg0, h94, h126, hpt]
        · apply zz
          refine zA rfl Tryz.func227 rfl (by kernel_rfl) ?_
          unfold Tryz.f227
          simp (disch := ((try simp only [LL]); omega)) only [↓GO, ↓DRW, GA, ren, zG, zd, refs, zb, cst, zl, zM, z7, E.load, E.store, zL, isC, bin, zN, zO, una, z8, za, zh, zP, blt, fnV, asArg, ze, zn, zo, zj, zm, zg, zk, zu, z6, zK, zJ, E.mkS, zc, unN, zQ, zi, zw, zq, zC, zI, zf, zR, zr, GS, simprocAttr, GZ, h42, hrv, hc1, hc2, hn, bne, hg0, h94, h126, hdr, hrr, z1, zB]
      · cases e3 : decide (w.maj > 0)
        · cases e4 : (w.min == 0)
          all_goals
           apply zz
           refine zA rfl Tryz.func227 rfl (by kernel_rfl) ?_
           unfold Tryz.f227
           simp (disch := ((try simp only [LL]); omega)) only [↓GO, ↓DRW, GA, ren, zG, zd, refs, zb, cst, zl, zM, z7, E.load, E.store, zL, isC, bin, zN, zO, una, z8, za, zh, zP, blt, fnV, asArg, ze, zn, zo, zj, zm, zg, zk, zu, z6, zK, zJ, E.mkS, zc, unN, zQ, zi, zw, zq, zC, zI, zf, zR, zr, GS, simprocAttr, GZ, h42, hrv, hc1, hc2, hn, bne, hg0, h94, hdr, hrr, z1, z2, z3, e3, e4, zB]
        · apply zz
          refine zA rfl Tryz.func227 rfl (by kernel_rfl) ?_
          unfold Tryz.f227
          simp (disch := ((try simp only [LL]); omega)) only [↓GO, ↓DRW, GA, ren, zG, zd, refs, zb, cst, zl, zM, z7, E.load, E.store, zL, isC, bin, zN, zO, una, z8, za, zh, zP, blt, fnV, asArg, ze, zn, zo, zj, zm, zg, zk, zu, z6, zK, zJ, E.mkS, zc, unN, zQ, zi, zw, zq, zC, zI, zf, zR, zr, GS, simprocAttr, GZ, h42, hrv, hc1, hc2, hn, bne, hg0, h94, hdr, hrr, z1, z2, z3, e3, zB]
end Go.Proofs.YtijninlbpifonaaGreatDoor
/- Ranges, by the implementation: the whole. Conditions: those of each lemma. -/
namespace Go.Proofs.YtijninlbpifonaaGreatDoor
open E
set_option linter.unusedSimpArgs false
set_option linter.unusedVariables false
set_option maxRecDepth 100000
theorem ek : ∀ l : List Str, (l.all fun p => wi p) = true → yj l ≤ 20 * l.length
 | [], _ => by simp [yj]
 | p :: l, h => by
  simp only [List.all_cons, Bool.and_eq_true] at h
  have ih := ek l h.2
  have h1 := h.1
  unfold wi B2 at h1
  simp only [Bool.and_eq_true, decide_eq_true_eq] at h1
  have := h1.1.2
  simp only [yj, List.length_cons]
  omega
theorem k9 {v : Ver} (h : yz v = true) : (yc v).length ≤ 140 := by
 obtain ⟨_, _, _, h4, h5⟩ := w3 h
 have h6 := ek v.pre h4
 have h7 := dS h
 have h8 := kF (vf v) v.pre
 unfold yc
 rw [h, cond_true]
 omega
theorem X9 {s : Str} (h : isV s = true) : s.length ≤ 140 := by
 obtain ⟨_, ht, ho, _⟩ := yl h
 have := k9 ho
 rwa [ht] at this
theorem j8 {s : Str} (h : isE s = true) : s.length ≤ 140 := by
 unfold isE at h
 rw [Bool.or_eq_true] at h
 rcases h with h | h
 · exact X9 h
 · rw [eq_of_beq h]; simp
theorem mU {ps : List Str} {l : List Bd} (h : vR ps = some l) : ∀ b ∈ l, b.1.length ≤ 140 ∧ b.2.length ≤ 140 := fun b hb => by
 have h1 := (rz ps l h).1
 rw [List.all_eq_true] at h1
 have h2 := h1 b hb
 rw [Bool.and_eq_true] at h2
 exact ⟨j8 h2.1, j8 h2.2⟩
theorem YM (s sep : Str) : sH s sep = Lib.split s sep := by
 unfold sH Lib.split Lib.countB
 rw [Lib.splitB_data]
/-- what a reading of ranges gives -/
def rrT : Option (List Bd) → V
 | some l => .tup [.t (.list 2 (bdT l)), .t (.bool true)]
 | none => .tup [.t (.list 2 []), .t (.bool false)]
/-- how the loop ends -/
def nu (ps : List Str) (acc : List Bd) (cap : Option Nat) (x : List Bd) : Option (List Bd) → xA
 | some bs => .loop (.exit 0) [.bad, .bad, .sl 0 0 (acc.length + bs.length) cap] [.ts 2 (bdT (acc ++ bs))]
 | none => .loop .ret [.nil 2, .t (.bool false), .sl 0 0 x.length cap] [.ts 2 (bdT x)]
set_option maxHeartbeats 4000000 in
theorem RJ (ps : List Str) (hl : ps.length ≤ 1048576) (hb : ∀ p ∈ ps, p.length ≤ 1048576) : ∀ (rest pre : List Str) (acc : List Bd) (cap : Option Nat) (m : Nat), ps = pre ++ rest → m = acc.length → acc.length = pre.length →
 ∃ cap' x, EV Tryz.prog pol (.loop 154 122 0 [.sl 0 0 m cap, .t (.list 1 (strs ps)), .t (.int .i64 (ps.length : Int)), .t (.int .i64 (pre.length : Int))] [.ts 2 (bdT acc)]) = some (nu ps acc cap' x (vR rest))
 | [], pre, acc, cap, m, hs, hm, ha => by
  have c : decide ((pre.length : Int) < (ps.length : Int)) = false := by simp [hs]
  refine ⟨cap, [], ?_⟩
  simp only [vR, nu, List.append_nil, List.length_nil, Nat.add_zero]
  subst hm
  refine zD Tryz.func154 rfl rfl ?_
  simp (disch := ((try simp only [LL]); omega)) only [↓GO, ↓DRW, GA, ren, zG, zd, refs, zb, cst, zl, zM, z7, E.load, E.store, zL, isC, bin, zN, zO, una, z8, za, zh, zP, blt, fnV, asArg, ze, zn, zo, zj, zm, zg, zk, zu, z6, zK, zJ, E.mkS, zc, unN, zQ, zi, zw, zq, zC, zI, zf, zR, zr, GS, simprocAttr, GZ, c, y6]
 | p :: rest, pre, acc, cap, m, hs, hm, ha => by
  have c : decide ((pre.length : Int) < (ps.length : Int)) = true := by simp [hs]; omega
  have hget : (strs ps)[pre.length]? = some [.str p] := by rw [hs]; exact rq (fun s : Str => [T.str s]) pre p rest
  have hlen : pre.length + rest.length + 1 ≤ ps.length := by rw [hs]; simp; omega
  have hpb := hb p (by rw [hs]; simp)
  have hB := U7 p (by omega)
  have h1 := lC p [60] (by omega) (by simp)
  have h2 := lC p [62, 61] (by omega) (by simp)
  rw [show ([60] : Str).isPrefixOf p = ltP p from rfl] at h1
  rw [show ([62, 61] : Str).isPrefixOf p = geP p from rfl] at h2
  have hchk := VQ p
  unfold tW rC at hchk
  have IHs := fun b => RJ ps hl hb rest (pre ++ [p]) (acc ++ [b]) none (m + 1) (by rw [hs]; simp) (by simp [hm]) (by simp [ha])
  rw [show ((pre ++ [p]).length : Int) = (pre.length : Int) + 1 by simp] at IHs
  have hol : (bdT acc).length = m := by rw [xQ, hm]
  have hml : m ≤ 1048578 := by omega
  have hm0 := hm
  clear hs hb
  simp only [vR]
  rw [← hchk]
  clear hchk
  generalize xD p = bb at *
  obtain ⟨⟨lo, hi⟩, ok⟩ := bb
  simp only [bdV] at hB
  simp only
  cases h3 : (p == [42]) <;> cases h4 : ltP p <;> rw [h4] at h1 <;> cases h5 : geP p <;> rw [h5] at h2 <;> cases ok <;> cases e1 : (lo == []) <;> cases e2 : (hi == []) <;>
   simp only [Bool.or_true, Bool.true_or, Bool.or_false, Bool.false_or, Bool.not_true, Bool.not_false, Bool.and_true, Bool.true_and, Bool.and_false, Bool.false_and, cond_true, cond_false]
  all_goals first
   | (refine ⟨cap, acc, ?_⟩
      unfold nu
      rw [hm]
      refine zD Tryz.func154 rfl rfl ?_
      simp (disch := ((try simp only [LL]); omega)) only [↓GO, ↓DRW, GA, ren, zG, zd, refs, zb, cst, zl, zM, z7, E.load, E.store, zL, isC, bin, zN, zO, una, z8, za, zh, zP, blt, fnV, asArg, ze, zn, zo, zj, zm, zg, zk, zu, z6, zK, zJ, E.mkS, zc, unN, zQ, zi, zw, zq, zC, zI, zf, zR, zr, GS, simprocAttr, GZ, c, hget, hB, h1, h2, h3, e1, e2, zB, hol, y6, wk]
      done)
   | (obtain ⟨cap', x, IH⟩ := IHs (lo, hi)
      refine ⟨cap', x, ?_⟩
      rw [Yo, show bdT [(lo, hi)] = [[T.str lo, T.str hi]] from rfl] at IH
      rw [show nu ps (acc ++ [(lo, hi)]) cap' x (vR rest) = nu ps acc cap' x (match vR rest with | some bs => some ((lo, hi) :: bs) | none => none) by
       cases vR rest with
       | none => rfl
       | some bs => simp only [nu]; rw [List.append_assoc]; simp only [List.length_append, List.length_cons, List.length_nil, List.cons_append, List.nil_append]; rw [show acc.length + (0 + 1) + bs.length = acc.length + (bs.length + 1) by omega]] at IH
      refine zD Tryz.func154 rfl rfl ?_
      simp (disch := ((try simp only [LL]); omega)) only [↓GO, ↓DRW, GA, ren, zG, zd, refs, zb, cst, zl, zM, z7, E.load, E.store, zL, isC, bin, zN, zO, una, z8, za, zh, zP, blt, fnV, asArg, ze, zn, zo, zj, zm, zg, zk, zu, z6, zK, zJ, E.mkS, zc, unN, zQ, zi, zw, zq, zC, zI, zf, zR, zr, GS, simprocAttr, GZ, c, hget, hB, h1, h2, h3, e1, e2, zB, hol, IH, y6, wk]
      try (cases vR rest <;> rfl))
theorem Q0 (s : Str) (hl : s.length ≤ 1048576) : zE (EV Tryz.prog pol) 154 [.t (.str s)] = some (rrT (gp s)) := by
 unfold gp
 cases h200 : decide ((s.length : Int) > 200) with
 | true =>
  simp only [cond_true, rrT]
  apply zz
  refine zA rfl Tryz.func154 rfl (by kernel_rfl) ?_
  unfold Tryz.f154
  simp (disch := ((try simp only [LL]); omega)) only [↓GO, ↓DRW, GA, ren, zG, zd, refs, zb, cst, zl, zM, z7, E.load, E.store, zL, isC, bin, zN, zO, una, z8, za, zh, zP, blt, fnV, asArg, ze, zn, zo, zj, zm, zg, zk, zu, z6, zK, zJ, E.mkS, zc, unN, zQ, zi, zw, zq, zC, zI, zf, zR, zr, GS, simprocAttr, GZ, h200]
 | false =>
  have h2 := of_decide_eq_false h200
  have h1 := pw s [32, 124, 124, 32] (by omega) (by simp)
  have hsp : sH s [32, 124, 124, 32] = x6 0 s := by
   rw [YM]; exact rX s.length s (Nat.le_refl _)
  rw [hsp] at h1
  have hbk := uH 0 s
  have hmem : ∀ p ∈ x6 0 s, p.length ≤ 1048576 := fun p hp => by have := xW hp; omega
  simp only [cond_false]
  generalize x6 0 s = ps at *
  obtain ⟨cap, x, L⟩ := RJ ps (by omega) hmem ps [] [] (some 0) 0 rfl rfl rfl
  rw [show bdT [] = [] from rfl] at L
  simp only [List.length_nil, Int.natCast_zero] at L
  cases ha : vR ps with
  | none =>
   rw [ha] at L
   simp only [nu, rrT] at L ⊢
   apply zz
   refine zA rfl Tryz.func154 rfl (by kernel_rfl) ?_
   unfold Tryz.f154
   simp (disch := ((try simp only [LL]); omega)) only [↓GO, ↓DRW, GA, ren, zG, zd, refs, zb, cst, zl, zM, z7, E.load, E.store, zL, isC, bin, zN, zO, una, z8, za, zh, zP, blt, fnV, asArg, ze, zn, zo, zj, zm, zg, zk, zu, z6, zK, zJ, E.mkS, zc, unN, zQ, zi, zw, zq, zC, zI, zf, zR, zr, GS, simprocAttr, GZ, h200, h1, L, zH, y6]
  | some l =>
   have hsh := mU ha
   have hll := (rz ps l ha).2
   rw [ha] at L
   simp only [nu, List.nil_append, List.length_nil, Nat.zero_add] at L ⊢
   have hr := Tu l (by omega) (fun b hb => by have := hsh b hb; omega)
   have ht : (bdT l).take l.length = bdT l := List.take_of_length_le (by rw [xQ]; omega)
   cases hk : xn l <;> rw [hk] at hr <;> simp only [cond_true, cond_false, rrT]
   all_goals
    apply zz
    refine zA rfl Tryz.func154 rfl (by kernel_rfl) ?_
    unfold Tryz.f154
    simp (disch := ((try simp only [LL]); omega)) only [↓GO, ↓DRW, GA, ren, zG, zd, refs, zb, cst, zl, zM, z7, E.load, E.store, zL, isC, bin, zN, zO, una, z8, za, zh, zP, blt, fnV, asArg, ze, zn, zo, zj, zm, zg, zk, zu, z6, zK, zJ, E.mkS, zc, unN, zQ, zi, zw, zq, zC, zI, zf, zR, zr, GS, simprocAttr, GZ, h200, h1, L, zH, hr, ht, xQ, y6]
end Go.Proofs.YtijninlbpifonaaGreatDoor
/- Ranges, by the reference: parts and bounds. Conditions: those of each lemma. -/
namespace Go.Proofs.YtijninlbpifonaaGreatDoor
open E
set_option linter.unusedSimpArgs false
set_option linter.unusedVariables false
set_option maxRecDepth 100000
def bT : Option Bd → V
 | some b => .tup [.agg [.t (.str b.1), .t (.str b.2)], .t (.bool true)]
 | none => .tup [.agg [.t (.str []), .t (.str [])], .t (.bool false)]
theorem QP (s : Str) : alT s = bT (wS s) := by
 unfold alT bT
 cases wS s with
 | none => rfl
 | some b => obtain ⟨a, b⟩ := b; rfl
theorem lT (x : UInt8) (c : UInt8) : ((x.toNat : Int) == (c.toNat : Int)) = (x == c) := by
 rw [Bool.eq_iff_iff]; simp only [beq_iff_eq]
 constructor
 · intro h; exact UInt8.toNat_inj.1 (by omega)
 · intro h; rw [h]
theorem Q1 (s : Str) (hl : s.length ≤ 1048700) : zE (EV Tryz.prog pol) 334 [.t (.str s)] = some (.t (.bool (isE s))) := by
 have h := tV s hl
 unfold rvT at h
 unfold isE isV
 generalize (zx s).1 = v at *
 simp only [Ver.enc, List.map_cons, List.map_nil] at h
 cases hk : (zx s).2 <;> rw [hk] at h <;> cases hn : (s == [])
 all_goals
  apply zz
  refine zA rfl Tryz.func334 rfl (by kernel_rfl) ?_
  unfold Tryz.f334
  simp (disch := ((try simp only [LL]); omega)) only [↓GO, ↓DRW, GA, ren, zG, zd, refs, zb, cst, zl, zM, z7, E.load, E.store, zL, isC, bin, zN, zO, una, z8, za, zh, zP, blt, fnV, asArg, ze, zn, zo, zj, zm, zg, zk, zu, z6, zK, zJ, E.mkS, zc, unN, zQ, zi, zw, zq, zC, zI, zf, zR, zr, GS, simprocAttr, GZ, h, hn]
theorem Td (l : List Bd) (hl : l.length ≤ 4194304) (hb : ∀ b ∈ l, b.1.length ≤ 1048700 ∧ b.2.length ≤ 1048700) : ∀ (rest pre : List Bd), l = pre ++ rest →
 EV Tryz.prog pol (.loop 291 26 0 [.t (.list 2 (bdT l)), .t (.int .i64 (pre.length : Int))] []) = some (cond (rest.all fun b => isE b.1 && isE b.2) (.loop (.exit 0) [.t (.list 2 (bdT l)), .bad] []) (.loop .ret [.t (.list 2 (bdT l)), .t (.bool false)] []))
 | [], pre, hs => by
  have c : decide ((pre.length : Int) < (l.length : Int)) = false := by simp [hs]
  simp only [List.all_nil, cond_true]
  refine zD Tryz.func291 rfl rfl ?_
  simp (disch := ((try simp only [LL]); omega)) only [↓GO, ↓DRW, GA, ren, zG, zd, refs, zb, cst, zl, zM, z7, E.load, E.store, zL, isC, bin, zN, zO, una, z8, za, zh, zP, blt, fnV, asArg, ze, zn, zo, zj, zm, zg, zk, zu, z6, zK, zJ, E.mkS, zc, unN, zQ, zi, zw, zq, zC, zI, zf, zR, zr, GS, simprocAttr, GZ, c, xQ]
 | x :: rest, pre, hs => by
  have c : decide ((pre.length : Int) < (l.length : Int)) = true := by simp [hs]; omega
  have hget : (bdT l)[pre.length]? = some [.str x.1, .str x.2] := by rw [hs]; exact rq (fun b : Bd => [T.str b.1, T.str b.2]) pre x rest
  have hlen : pre.length + rest.length + 1 ≤ l.length := by rw [hs]; simp; omega
  have hx := hb x (by rw [hs]; simp)
  have h1 := Q1 x.1 hx.1
  have h2 := Q1 x.2 hx.2
  have IH := Td l hl hb rest (pre ++ [x]) (by rw [hs]; simp)
  rw [show ((pre ++ [x]).length : Int) = (pre.length : Int) + 1 by simp] at IH
  clear hs hb
  rw [List.all_cons]
  generalize isE x.1 = a1 at *
  generalize isE x.2 = a2 at *
  cases a1 <;> cases a2
  all_goals
   refine zD Tryz.func291 rfl rfl ?_
   simp (disch := ((try simp only [LL]); omega)) only [↓GO, ↓DRW, GA, ren, zG, zd, refs, zb, cst, zl, zM, z7, E.load, E.store, zL, isC, bin, zN, zO, una, z8, za, zh, zP, blt, fnV, asArg, ze, zn, zo, zj, zm, zg, zk, zu, z6, zK, zJ, E.mkS, zc, unN, zQ, zi, zw, zq, zC, zI, zf, zR, zr, GS, simprocAttr, GZ, c, hget, h1, h2, zB, xQ, IH]
theorem gw (l : List Bd) (hl : l.length ≤ 4194304) (hb : ∀ b ∈ l, b.1.length ≤ 1048700 ∧ b.2.length ≤ 1048700) : zE (EV Tryz.prog pol) 291 [.t (.list 2 (bdT l))] = some (.t (.bool (xn l))) := by
 have L := Td l hl hb l [] rfl
 have h := xP (l.length : Int) 1 8
 simp only [List.length_nil, Int.natCast_zero] at L
 unfold xn
 generalize B2 (l.length : Int) 1 8 = b2 at *
 cases ha : (l.all fun b => isE b.1 && isE b.2) <;> rw [ha] at L <;> simp only [cond_true, cond_false] at L
 all_goals
  apply zz
  refine zA rfl Tryz.func291 rfl (by kernel_rfl) ?_
  unfold Tryz.f291
  simp (disch := ((try simp only [LL]); omega)) only [↓GO, ↓DRW, GA, ren, zG, zd, refs, zb, cst, zl, zM, z7, E.load, E.store, zL, isC, bin, zN, zO, una, z8, za, zh, zP, blt, fnV, asArg, ze, zn, zo, zj, zm, zg, zk, zu, z6, zK, zJ, E.mkS, zc, unN, zQ, zi, zw, zq, zC, zI, zf, zR, zr, GS, simprocAttr, GZ, L, h, xQ]
theorem Tv (s : Str) (v : Ver) (p : Int) (hs : v.sm) (hp : p = 0 ∨ p = 1 ∨ p = 2) (h1 : -1 ≤ v.maj ∧ v.maj ≤ 999999999) (h2 : -1 ≤ v.min ∧ v.min ≤ 999999999) (h3 : -1 ≤ v.pat ∧ v.pat ≤ 999999999) :
 zE (EV Tryz.prog pol) 287 [.t (.str s), .agg (v.enc.map .t), .t (.int .i64 p)] = some (bT (lU v s p)) := by
 have d := ga v p hs hp h1 h2 h3
 unfold lU bT
 generalize vj v p = bl at *
 obtain ⟨t, ok⟩ := bl
 simp only [Ver.enc, List.map_cons, List.map_nil] at d ⊢
 cases ok <;> simp only [cond_true, cond_false] at d ⊢
 all_goals
  apply zz
  refine zA rfl Tryz.func287 rfl (by kernel_rfl) ?_
  unfold Tryz.f287
  simp (disch := ((try simp only [LL]); omega)) only [↓GO, ↓DRW, GA, ren, zG, zd, refs, zb, cst, zl, zM, z7, E.load, E.store, zL, isC, bin, zN, zO, una, z8, za, zh, zP, blt, fnV, asArg, ze, zn, zo, zj, zm, zg, zk, zu, z6, zK, zJ, E.mkS, zc, unN, zQ, zi, zw, zq, zC, zI, zf, zR, zr, GS, simprocAttr, GZ, d]
theorem U6 (v : Ver) : zE (EV Tryz.prog pol) 288 [.agg (v.enc.map .t)] = some (.t (.int .i64 (vQ v))) := by
 unfold vQ
 simp only [Ver.enc, List.map_cons, List.map_nil]
 cases h1 : decide (v.maj > 0) <;> cases h2 : decide (v.min > 0) <;> simp only [cond_true, cond_false]
 all_goals
  apply zz
  refine zA rfl Tryz.func288 rfl (by kernel_rfl) ?_
  unfold Tryz.f288
  simp (disch := ((try simp only [LL]); omega)) only [↓GO, ↓DRW, GA, ren, zG, zd, refs, zb, cst, zl, zM, z7, E.load, E.store, zL, isC, bin, zN, zO, una, z8, za, zh, zP, blt, fnV, asArg, ze, zn, zo, zj, zm, zg, zk, zu, z6, zK, zJ, E.mkS, zc, unN, zQ, zi, zw, zq, zC, zI, zf, zR, zr, GS, simprocAttr, GZ, h1, h2]
theorem Xp (v : Ver) : vQ v = 0 ∨ vQ v = 1 ∨ vQ v = 2 := by
 unfold vQ
 cases decide (v.maj > 0) <;> cases decide (v.min > 0) <;> simp
theorem R2 (s : Str) (hl : s.length ≤ 4194304) : zE (EV Tryz.prog pol) 333 [.t (.str s)] = some (.t (.list 1 (strs (yk 32 s)))) := by
 have h := lP s 32 hl
 rw [show (((32 : UInt8).toNat : Nat) : Int) = 32 from rfl] at h
 apply zz
 refine zA rfl Tryz.func333 rfl (by kernel_rfl) ?_
 unfold Tryz.f333
 simp (disch := ((try simp only [LL]); omega)) only [↓GO, ↓DRW, GA, ren, zG, zd, refs, zb, cst, zl, zM, z7, E.load, E.store, zL, isC, bin, zN, zO, una, z8, za, zh, zP, blt, fnV, asArg, ze, zn, zo, zj, zm, zg, zk, zu, z6, zK, zJ, E.mkS, zc, unN, zQ, zi, zw, zq, zC, zI, zf, zR, zr, GS, simprocAttr, GZ, h]
theorem VX (s : Str) (hl : s.length ≤ 1048600) : zE (EV Tryz.prog pol) 290 [.t (.str s)] = some (bT (wP s)) := by
 have h1 := lP s 46 (by omega)
 rw [show (((46 : UInt8).toNat : Nat) : Int) = 46 from rfl] at h1
 have hfl : (wx s).length ≤ 1048700 := by unfold wx; cases (((yk 46 s).length : Int) == 1) <;> simp <;> omega
 have h2 := tV (wx s) hfl
 obtain ⟨m1, m2, m3, m4, m5, m6, m7⟩ := yO (wx s) hfl
 have h3 := xP ((yk 46 s).length : Int) 1 2
 have hg := gu (zx (wx s)).1.pre
 have h4 := fun hp => ga (zx (wx s)).1 (((yk 46 s).length : Int) - 1) m1 hp ⟨m3, m2⟩ ⟨m5, m4⟩ ⟨m7, m6⟩
 have hcn : 1 ≤ (yk 46 s).length := by
  cases hc : yk 46 s with
  | nil => exact absurd hc (x5 46 s)
  | cons p q => simp
 have hbk := xK 46 s
 have hB : B2 ((yk 46 s).length : Int) 1 2 = true → ((yk 46 s).length : Int) - 1 = 0 ∨ ((yk 46 s).length : Int) - 1 = 1 ∨ ((yk 46 s).length : Int) - 1 = 2 := fun h => by
  unfold B2 at h
  simp only [Bool.and_eq_true, decide_eq_true_eq] at h
  omega
 have h5 := fun h => h4 (hB h)
 clear h4 hB
 unfold wP isV
 unfold rvT at h2
 have hfull : wx s = cond (((yk 46 s).length : Int) == 1) (s ++ [46, 48, 46, 48]) (s ++ [46, 48]) := rfl
 generalize wx s = f at *
 generalize (zx f).2 = ok at *
 generalize (zx f).1 = v at *
 generalize vj v (((yk 46 s).length : Int) - 1) = bl at *
 obtain ⟨bt, bo⟩ := bl
 generalize B2 ((yk 46 s).length : Int) 1 2 = b2 at *
 generalize yk 46 s = ps at *
 simp only [Ver.enc, List.map_cons, List.map_nil] at h2 h5 ⊢
 cases h46 : ((ps.length : Int) == 1) <;> rw [h46] at hfull <;> simp only [cond_true, cond_false] at hfull <;> subst hfull <;>
  cases ok <;> cases b2 <;> cases hpre : (v.pre == []) <;> rw [hpre] at hg <;> simp only [Bool.not_true, Bool.not_false, Bool.or_true, Bool.or_false, Bool.true_or, Bool.false_or, cond_true, cond_false, bT] at hg ⊢
 all_goals simp only [true_implies, false_implies, reduceCtorEq] at h5
 all_goals cases bo
 all_goals try simp only [cond_true, cond_false]
 all_goals
  apply zz
  refine zA rfl Tryz.func290 rfl (by kernel_rfl) ?_
  unfold Tryz.f290
  simp (disch := ((try simp only [LL]); omega)) only [↓GO, ↓DRW, GA, ren, zG, zd, refs, zb, cst, zl, zM, z7, E.load, E.store, zL, isC, bin, zN, zO, una, z8, za, zh, zP, blt, fnV, asArg, ze, zn, zo, zj, zm, zg, zk, zu, z6, zK, zJ, E.mkS, zc, unN, zQ, zi, zw, zq, zC, zI, zf, zR, zr, GS, simprocAttr, GZ, h1, h2, h3, h46, hg, h5, zH, zB, wk]
end Go.Proofs.YtijninlbpifonaaGreatDoor
/- Ranges, by the reference: signs, parts. Conditions: those of each lemma. -/
namespace Go.Proofs.YtijninlbpifonaaGreatDoor
open E
set_option linter.unusedSimpArgs false
set_option linter.unusedVariables false
set_option maxRecDepth 100000
theorem UZ (b : Bd) : xn [b] = (isE b.1 && isE b.2) := by
 unfold xn
 simp [B2]
/-- the head of a word -/
theorem pP (x : Str) : (ltW x = false ∧ decide ((x.length : Int) > 1) = false) ∨ (∃ a r, x = a :: r ∧ decide ((x.length : Int) > 1) = true ∧ ltW x = (a == 60)) := by
 unfold ltW
 cases h : decide ((x.length : Int) > 1) with
 | false => left; simp
 | true =>
  right
  cases x with
  | nil => simp at h
  | cons a r => exact ⟨a, r, rfl, rfl, by simp [hdB]⟩
theorem jh (x : Str) : (geW x = false ∧ decide ((x.length : Int) > 2) = false) ∨ (decide ((x.length : Int) > 2) = true ∧ geW x = (x.take 2 == [62, 61])) := by
 unfold geW
 cases h : decide ((x.length : Int) > 2) with
 | false => left; simp
 | true => right; simp
theorem l_sg1 (x : Str) : EV Tryz.prog pol (.loop 289 122 0 [.ptr 0 0 0, .t (.list 1 [[.str x]]), .ptr 1 0 0, .t (.int .i64 0)] [.vs 2 [[.t (.str []), .t (.str [])]], .vs 2 [[.t (.str []), .t (.str [])]]])
 = some (cond (geW x) (.loop (.exit 0) [.ptr 0 0 0, .bad, .t (.list 1 [[.str x]]), .ptr 1 0 0] [.vs 2 [[.t (.str []), .t (.str [])]], .vs 2 [[.t (.str (x.drop 2)), .t (.str [])]]])
  (cond (ltW x) (.loop (.exit 0) [.ptr 0 0 0, .bad, .t (.list 1 [[.str x]]), .ptr 1 0 0] [.vs 2 [[.t (.str []), .t (.str [])]], .vs 2 [[.t (.str []), .t (.str (x.drop 1))]]])
   (.loop .ret [.ptr 0 0 0, .t (.bool false), .t (.list 1 [[.str x]]), .ptr 1 0 0] [.vs 2 [[.t (.str []), .t (.str [])]], .vs 2 [[.t (.str []), .t (.str [])]]]))) := by
 have E1 : ∀ lo' hi' : Str, EV Tryz.prog pol (.loop 289 122 0 [.ptr 0 0 0, .t (.list 1 [[.str x]]), .ptr 1 0 0, .t (.int .i64 1)] [.vs 2 [[.t (.str []), .t (.str [])]], .vs 2 [[.t (.str lo'), .t (.str hi')]]]) = some (.loop (.exit 0) [.ptr 0 0 0, .bad, .t (.list 1 [[.str x]]), .ptr 1 0 0] [.vs 2 [[.t (.str []), .t (.str [])]], .vs 2 [[.t (.str lo'), .t (.str hi')]]]) := fun lo' hi' => by
  refine zD Tryz.func289 rfl rfl ?_
  simp (disch := ((try simp only [LL]); omega)) only [↓GO, ↓DRW, GA, ren, zG, zd, refs, zb, cst, zl, zM, z7, E.load, E.store, zL, isC, bin, zN, zO, una, z8, za, zh, zP, blt, fnV, asArg, ze, zn, zo, zj, zm, zg, zk, zu, z6, zK, zJ, E.mkS, zc, unN, zQ, zi, zw, zq, zC, zI, zf, zR, zr, GS, simprocAttr, GZ, y6]
 rcases jh x with ⟨hg, g1⟩ | ⟨g1, hg⟩
 · rw [hg]
   rcases pP x with ⟨hl, g3⟩ | ⟨a, r, hx, g3, hl⟩
   · rw [hl]
     simp only [cond_false]
     refine zD Tryz.func289 rfl rfl ?_
     simp (disch := ((try simp only [LL]); omega)) only [↓GO, ↓DRW, GA, ren, zG, zd, refs, zb, cst, zl, zM, z7, E.load, E.store, zL, isC, bin, zN, zO, una, z8, za, zh, zP, blt, fnV, asArg, ze, zn, zo, zj, zm, zg, zk, zu, z6, zK, zJ, E.mkS, zc, unN, zQ, zi, zw, zq, zC, zI, zf, zR, zr, GS, simprocAttr, GZ, g1, g3, y6, Int.reduceAdd, Int.reduceSub, zB]
   · rw [hl]
     have h0 : x[0]? = some a := by rw [hx]; rfl
     have h60 := lT a 60
     rw [show (((60 : UInt8).toNat : Nat) : Int) = 60 from rfl] at h60
     have hxl : 1 ≤ x.length := by rw [hx]; simp
     clear hx hl
     simp only [cond_false]
     cases hh : (a == 60) <;> rw [hh] at h60 <;> simp only [cond_true, cond_false]
     all_goals
      refine zD Tryz.func289 rfl rfl ?_
      simp (disch := ((try simp only [LL]); omega)) only [↓GO, ↓DRW, GA, ren, zG, zd, refs, zb, cst, zl, zM, z7, E.load, E.store, zL, isC, bin, zN, zO, una, z8, za, zh, zP, blt, fnV, asArg, ze, zn, zo, zj, zm, zg, zk, zu, z6, zK, zJ, E.mkS, zc, unN, zQ, zi, zw, zq, zC, zI, zf, zR, zr, GS, simprocAttr, GZ, g1, g3, h0, h60, E1, y6, Int.reduceAdd, Int.reduceSub, zB]
 · rw [hg]
   have h2 : 2 ≤ x.length := by have := of_decide_eq_true g1; omega
   cases ht : (x.take 2 == [62, 61]) with
   | true =>
    simp only [cond_true]
    refine zD Tryz.func289 rfl rfl ?_
    simp (disch := ((try simp only [LL]); omega)) only [↓GO, ↓DRW, GA, ren, zG, zd, refs, zb, cst, zl, zM, z7, E.load, E.store, zL, isC, bin, zN, zO, una, z8, za, zh, zP, blt, fnV, asArg, ze, zn, zo, zj, zm, zg, zk, zu, z6, zK, zJ, E.mkS, zc, unN, zQ, zi, zw, zq, zC, zI, zf, zR, zr, GS, simprocAttr, GZ, g1, ht, E1, y6, Int.reduceAdd, Int.reduceSub, zB]
   | false =>
    simp only [cond_false]
    rcases pP x with ⟨hl, g3⟩ | ⟨a, r, hx, g3, hl⟩
    · have := of_decide_eq_false g3; omega
    · rw [hl]
      have h0 : x[0]? = some a := by rw [hx]; rfl
      have h60 := lT a 60
      rw [show (((60 : UInt8).toNat : Nat) : Int) = 60 from rfl] at h60
      clear hx hl
      cases hh : (a == 60) <;> rw [hh] at h60 <;> simp only [cond_true, cond_false]
      all_goals
       refine zD Tryz.func289 rfl rfl ?_
       simp (disch := ((try simp only [LL]); omega)) only [↓GO, ↓DRW, GA, ren, zG, zd, refs, zb, cst, zl, zM, z7, E.load, E.store, zL, isC, bin, zN, zO, una, z8, za, zh, zP, blt, fnV, asArg, ze, zn, zo, zj, zm, zg, zk, zu, z6, zK, zJ, E.mkS, zc, unN, zQ, zi, zw, zq, zC, zI, zf, zR, zr, GS, simprocAttr, GZ, g1, g3, ht, h0, h60, E1, y6, Int.reduceAdd, Int.reduceSub, zB]
/-- the first round, where there are more words -/
theorem RH (x : Str) (ws : List (List T)) (n : Nat) (hn : n = ws.length) (h2 : 2 ≤ n) (hl : n ≤ 4194304) (h0 : ws[0]? = some [.str x]) (B : xA)
 (IH : geW x = true → EV Tryz.prog pol (.loop 289 122 0 [.ptr 0 0 0, .t (.list 1 ws), .ptr 1 0 0, .t (.int .i64 1)] [.vs 2 [[.t (.str []), .t (.str [])]], .vs 2 [[.t (.str (x.drop 2)), .t (.str [])]]]) = some B) :
 EV Tryz.prog pol (.loop 289 122 0 [.ptr 0 0 0, .t (.list 1 ws), .ptr 1 0 0, .t (.int .i64 0)] [.vs 2 [[.t (.str []), .t (.str [])]], .vs 2 [[.t (.str []), .t (.str [])]]])
 = some (cond (geW x) B (.loop .ret [.ptr 0 0 0, .t (.bool false), .t (.list 1 ws), .ptr 1 0 0] [.vs 2 [[.t (.str []), .t (.str [])]], .vs 2 [[.t (.str []), .t (.str [])]]])) := by
 have c0 : decide ((0 : Int) < (ws.length : Int)) = true := decide_eq_true (by omega)
 have c1 : ((0 : Int) == (ws.length : Int) - 1) = false := by rw [beq_eq_false_iff_ne]; omega
 have hg0 : nB ws 0 = some [.str x] := by rw [uE]; exact h0
 subst hn
 rcases jh x with ⟨hg, g1⟩ | ⟨g1, hg⟩
 · rw [hg]
   simp only [cond_false]
   refine zD Tryz.func289 rfl rfl ?_
   simp (disch := ((try simp only [LL]); omega)) only [↓GO, ↓DRW, GA, ren, zG, zd, refs, zb, cst, zl, zM, z7, E.load, E.store, zL, isC, bin, zN, zO, una, z8, za, zh, zP, blt, fnV, asArg, ze, zn, zo, zj, zm, zg, zk, zu, z6, zK, zJ, E.mkS, zc, unN, zQ, zi, zw, zq, zC, zI, zf, zR, zr, GS, simprocAttr, GZ, c0, c1, h0, hg0, g1, y6, zB]
 · rw [hg] at IH ⊢
   have hx2 : 2 ≤ x.length := by have := of_decide_eq_true g1; omega
   cases ht : (x.take 2 == [62, 61]) <;> rw [ht] at IH <;> simp only [cond_true, cond_false]
   · refine zD Tryz.func289 rfl rfl ?_
     simp (disch := ((try simp only [LL]); omega)) only [↓GO, ↓DRW, GA, ren, zG, zd, refs, zb, cst, zl, zM, z7, E.load, E.store, zL, isC, bin, zN, zO, una, z8, za, zh, zP, blt, fnV, asArg, ze, zn, zo, zj, zm, zg, zk, zu, z6, zK, zJ, E.mkS, zc, unN, zQ, zi, zw, zq, zC, zI, zf, zR, zr, GS, simprocAttr, GZ, c0, c1, h0, hg0, g1, ht, y6, zB]
   · have IH := IH rfl
     refine zD Tryz.func289 rfl rfl ?_
     simp (disch := ((try simp only [LL]); omega)) only [↓GO, ↓DRW, GA, ren, zG, zd, refs, zb, cst, zl, zM, z7, E.load, E.store, zL, isC, bin, zN, zO, una, z8, za, zh, zP, blt, fnV, asArg, ze, zn, zo, zj, zm, zg, zk, zu, z6, zK, zJ, E.mkS, zc, unN, zQ, zi, zw, zq, zC, zI, zf, zR, zr, GS, simprocAttr, GZ, c0, c1, h0, hg0, g1, ht, IH, y6, zB, Int.reduceAdd]
theorem l_sg2 (x y lo : Str) : EV Tryz.prog pol (.loop 289 122 0 [.ptr 0 0 0, .t (.list 1 [[.str x], [.str y]]), .ptr 1 0 0, .t (.int .i64 1)] [.vs 2 [[.t (.str []), .t (.str [])]], .vs 2 [[.t (.str lo), .t (.str [])]]])
 = some (cond (ltW y) (.loop (.exit 0) [.ptr 0 0 0, .bad, .t (.list 1 [[.str x], [.str y]]), .ptr 1 0 0] [.vs 2 [[.t (.str []), .t (.str [])]], .vs 2 [[.t (.str lo), .t (.str (y.drop 1))]]])
  (.loop .ret [.ptr 0 0 0, .t (.bool false), .t (.list 1 [[.str x], [.str y]]), .ptr 1 0 0] [.vs 2 [[.t (.str []), .t (.str [])]], .vs 2 [[.t (.str lo), .t (.str [])]]])) := by
 have E1 : ∀ lo' hi' : Str, EV Tryz.prog pol (.loop 289 122 0 [.ptr 0 0 0, .t (.list 1 [[.str x], [.str y]]), .ptr 1 0 0, .t (.int .i64 2)] [.vs 2 [[.t (.str []), .t (.str [])]], .vs 2 [[.t (.str lo'), .t (.str hi')]]]) = some (.loop (.exit 0) [.ptr 0 0 0, .bad, .t (.list 1 [[.str x], [.str y]]), .ptr 1 0 0] [.vs 2 [[.t (.str []), .t (.str [])]], .vs 2 [[.t (.str lo'), .t (.str hi')]]]) := fun lo' hi' => by
  refine zD Tryz.func289 rfl rfl ?_
  simp (disch := ((try simp only [LL]); omega)) only [↓GO, ↓DRW, GA, ren, zG, zd, refs, zb, cst, zl, zM, z7, E.load, E.store, zL, isC, bin, zN, zO, una, z8, za, zh, zP, blt, fnV, asArg, ze, zn, zo, zj, zm, zg, zk, zu, z6, zK, zJ, E.mkS, zc, unN, zQ, zi, zw, zq, zC, zI, zf, zR, zr, GS, simprocAttr, GZ, y6]
 rcases pP y with ⟨hl, g3⟩ | ⟨a, r, hx, g3, hl⟩
 · rw [hl]
   simp only [cond_false]
   refine zD Tryz.func289 rfl rfl ?_
   simp (disch := ((try simp only [LL]); omega)) only [↓GO, ↓DRW, GA, ren, zG, zd, refs, zb, cst, zl, zM, z7, E.load, E.store, zL, isC, bin, zN, zO, una, z8, za, zh, zP, blt, fnV, asArg, ze, zn, zo, zj, zm, zg, zk, zu, z6, zK, zJ, E.mkS, zc, unN, zQ, zi, zw, zq, zC, zI, zf, zR, zr, GS, simprocAttr, GZ, g3, y6, Int.reduceAdd, Int.reduceSub, zB]
 · rw [hl]
   have h0 : y[0]? = some a := by rw [hx]; rfl
   have h60 := lT a 60
   rw [show (((60 : UInt8).toNat : Nat) : Int) = 60 from rfl] at h60
   have hxl : 1 ≤ y.length := by rw [hx]; simp
   clear hx hl
   cases hh : (a == 60) <;> rw [hh] at h60 <;> simp only [cond_true, cond_false]
   all_goals
    refine zD Tryz.func289 rfl rfl ?_
    simp (disch := ((try simp only [LL]); omega)) only [↓GO, ↓DRW, GA, ren, zG, zd, refs, zb, cst, zl, zM, z7, E.load, E.store, zL, isC, bin, zN, zO, una, z8, za, zh, zP, blt, fnV, asArg, ze, zn, zo, zj, zm, zg, zk, zu, z6, zK, zJ, E.mkS, zc, unN, zQ, zi, zw, zq, zC, zI, zf, zR, zr, GS, simprocAttr, GZ, g3, h0, h60, E1, y6, Int.reduceAdd, Int.reduceSub, zB]
theorem l_sg3 (x y lo : Str) (ws : List (List T)) (n : Nat) (hn : n = ws.length) (h2 : 3 ≤ n) (hl : n ≤ 4194304) : EV Tryz.prog pol (.loop 289 122 0 [.ptr 0 0 0, .t (.list 1 ws), .ptr 1 0 0, .t (.int .i64 1)] [.vs 2 [[.t (.str []), .t (.str [])]], .vs 2 [[.t (.str lo), .t (.str [])]]])
 = some (.loop .ret [.ptr 0 0 0, .t (.bool false), .t (.list 1 ws), .ptr 1 0 0] [.vs 2 [[.t (.str []), .t (.str [])]], .vs 2 [[.t (.str lo), .t (.str [])]]]) := by
 have c0 : decide ((1 : Int) < (ws.length : Int)) = true := decide_eq_true (by omega)
 have c1 : ((1 : Int) == (ws.length : Int) - 1) = false := by rw [beq_eq_false_iff_ne]; omega
 subst hn
 refine zD Tryz.func289 rfl rfl ?_
 simp (disch := ((try simp only [LL]); omega)) only [↓GO, ↓DRW, GA, ren, zG, zd, refs, zb, cst, zl, zM, z7, E.load, E.store, zL, isC, bin, zN, zO, una, z8, za, zh, zP, blt, fnV, asArg, ze, zn, zo, zj, zm, zg, zk, zu, z6, zK, zJ, E.mkS, zc, unN, zQ, zi, zw, zq, zC, zI, zf, zR, zr, GS, simprocAttr, GZ, c0, c1, y6, zB]
theorem VW (s : Str) (hl : s.length ≤ 1048600) : zE (EV Tryz.prog pol) 289 [.t (.str s)] = some (bT (ug s)) := by
 have h1 := R2 s (by omega)
 have hbk := xK 32 s
 unfold ug
 match hp : yk 32 s with
 | [] => exact absurd hp (x5 32 s)
 | [x] =>
  rw [hp] at h1 hbk
  simp only [yj, List.length_cons, List.length_nil] at hbk
  have L := l_sg1 x
  have hd2 : (x.drop 2).length ≤ x.length := by rw [List.length_drop]; omega
  have hd1 : (x.drop 1).length ≤ x.length := by rw [List.length_drop]; omega
  have r1 := gw [(x.drop 2, [])] (by simp) (by simp; omega)
  have r2 := gw [([], x.drop 1)] (by simp) (by simp; omega)
  rw [UZ] at r1 r2
  simp only [bdT, List.map_cons, List.map_nil, xm, yi] at r1 r2 h1 ⊢
  generalize (isE (x.drop 2) && isE []) = k1 at *
  generalize (isE [] && isE (x.drop 1)) = k2 at *
  cases hg : geW x <;> rw [hg] at L <;> simp only [cond_true, cond_false] at L ⊢
  · cases hq : ltW x <;> rw [hq] at L <;> simp only [cond_true, cond_false] at L ⊢
    · simp only [bT]
      apply zz
      refine zA rfl Tryz.func289 rfl (by kernel_rfl) ?_
      unfold Tryz.f289
      simp (disch := ((try simp only [LL]); omega)) only [↓GO, ↓DRW, GA, ren, zG, zd, refs, zb, cst, zl, zM, z7, E.load, E.store, zL, isC, bin, zN, zO, una, z8, za, zh, zP, blt, fnV, asArg, ze, zn, zo, zj, zm, zg, zk, zu, z6, zK, zJ, E.mkS, zc, unN, zQ, zi, zw, zq, zC, zI, zf, zR, zr, GS, simprocAttr, GZ, h1, L, y6]
    · cases k2 <;> simp only [cond_true, cond_false, bT]
      all_goals
       apply zz
       refine zA rfl Tryz.func289 rfl (by kernel_rfl) ?_
       unfold Tryz.f289
       simp (disch := ((try simp only [LL]); omega)) only [↓GO, ↓DRW, GA, ren, zG, zd, refs, zb, cst, zl, zM, z7, E.load, E.store, zL, isC, bin, zN, zO, una, z8, za, zh, zP, blt, fnV, asArg, ze, zn, zo, zj, zm, zg, zk, zu, z6, zK, zJ, E.mkS, zc, unN, zQ, zi, zw, zq, zC, zI, zf, zR, zr, GS, simprocAttr, GZ, h1, L, r2, y6]
  · cases k1 <;> simp only [cond_true, cond_false, bT]
    all_goals
     apply zz
     refine zA rfl Tryz.func289 rfl (by kernel_rfl) ?_
     unfold Tryz.f289
     simp (disch := ((try simp only [LL]); omega)) only [↓GO, ↓DRW, GA, ren, zG, zd, refs, zb, cst, zl, zM, z7, E.load, E.store, zL, isC, bin, zN, zO, una, z8, za, zh, zP, blt, fnV, asArg, ze, zn, zo, zj, zm, zg, zk, zu, z6, zK, zJ, E.mkS, zc, unN, zQ, zi, zw, zq, zC, zI, zf, zR, zr, GS, simprocAttr, GZ, h1, L, r1, y6]
 | [x, y] =>
  rw [hp] at h1 hbk
  simp only [yj, List.length_cons, List.length_nil] at hbk
  have L2 := l_sg2 x y (x.drop 2)
  have L := RH x [[.str x], [.str y]] 2 rfl (by omega) (by omega) rfl _ (fun _ => L2)
  have hd2 : (x.drop 2).length ≤ x.length := by rw [List.length_drop]; omega
  have hd1 : (y.drop 1).length ≤ y.length := by rw [List.length_drop]; omega
  have r1 := gw [(x.drop 2, y.drop 1)] (by simp) (by simp; omega)
  rw [UZ] at r1
  simp only [bdT, List.map_cons, List.map_nil, xm, yi] at r1 h1 ⊢
  generalize (isE (x.drop 2) && isE (y.drop 1)) = k1 at *
  clear L2
  cases hg : geW x <;> rw [hg] at L <;> simp only [cond_true, cond_false] at L ⊢
  · simp only [bT]
    apply zz
    refine zA rfl Tryz.func289 rfl (by kernel_rfl) ?_
    unfold Tryz.f289
    simp (disch := ((try simp only [LL]); omega)) only [↓GO, ↓DRW, GA, ren, zG, zd, refs, zb, cst, zl, zM, z7, E.load, E.store, zL, isC, bin, zN, zO, una, z8, za, zh, zP, blt, fnV, asArg, ze, zn, zo, zj, zm, zg, zk, zu, z6, zK, zJ, E.mkS, zc, unN, zQ, zi, zw, zq, zC, zI, zf, zR, zr, GS, simprocAttr, GZ, h1, L, y6]
  · cases hq : ltW y <;> rw [hq] at L <;> simp only [cond_true, cond_false] at L ⊢
    · simp only [bT]
      apply zz
      refine zA rfl Tryz.func289 rfl (by kernel_rfl) ?_
      unfold Tryz.f289
      simp (disch := ((try simp only [LL]); omega)) only [↓GO, ↓DRW, GA, ren, zG, zd, refs, zb, cst, zl, zM, z7, E.load, E.store, zL, isC, bin, zN, zO, una, z8, za, zh, zP, blt, fnV, asArg, ze, zn, zo, zj, zm, zg, zk, zu, z6, zK, zJ, E.mkS, zc, unN, zQ, zi, zw, zq, zC, zI, zf, zR, zr, GS, simprocAttr, GZ, h1, L, y6]
    · cases k1 <;> simp only [cond_true, cond_false, bT]
      all_goals
       apply zz
       refine zA rfl Tryz.func289 rfl (by kernel_rfl) ?_
       unfold Tryz.f289
       simp (disch := ((try simp only [LL]); omega)) only [↓GO, ↓DRW, GA, ren, zG, zd, refs, zb, cst, zl, zM, z7, E.load, E.store, zL, isC, bin, zN, zO, una, z8, za, zh, zP, blt, fnV, asArg, ze, zn, zo, zj, zm, zg, zk, zu, z6, zK, zJ, E.mkS, zc, unN, zQ, zi, zw, zq, zC, zI, zf, zR, zr, GS, simprocAttr, GZ, h1, L, r1, y6]
 | x :: y :: z :: r =>
  rw [hp] at h1 hbk
  have hn : (strs (x :: y :: z :: r)).length = r.length + 3 := by rw [zH]; simp
  have hb3 : r.length + 3 ≤ 4194304 := by simp only [List.length_cons] at hbk; omega
  have L := RH x (strs (x :: y :: z :: r)) _ rfl (by omega) (by omega) rfl _ (fun _ => l_sg3 x y (x.drop 2) (strs (x :: y :: z :: r)) _ rfl (by omega) (by omega))
  simp only [bT]
  generalize strs (x :: y :: z :: r) = ws at *
  cases hg : geW x <;> rw [hg] at L <;> simp only [cond_true, cond_false] at L
  all_goals
   apply zz
   refine zA rfl Tryz.func289 rfl (by kernel_rfl) ?_
   unfold Tryz.f289
   simp (disch := ((try simp only [LL]); omega)) only [↓GO, ↓DRW, GA, ren, zG, zd, refs, zb, cst, zl, zM, z7, E.load, E.store, zL, isC, bin, zN, zO, una, z8, za, zh, zP, blt, fnV, asArg, ze, zn, zo, zj, zm, zg, zk, zu, z6, zK, zJ, E.mkS, zc, unN, zQ, zi, zw, zq, zC, zI, zf, zR, zr, GS, simprocAttr, GZ, h1, L, y6]
end Go.Proofs.YtijninlbpifonaaGreatDoor
/- Ranges, by the reference: the whole. Conditions: those of each lemma. -/
namespace Go.Proofs.YtijninlbpifonaaGreatDoor
open E
set_option linter.unusedSimpArgs false
set_option linter.unusedVariables false
set_option maxRecDepth 100000
set_option maxHeartbeats 4000000 in
theorem R7 (s : Str) (hl : s.length ≤ 1048576) : zE (EV Tryz.prog pol) 237 [.t (.str s)] = some (bT (xL s)) := by
 have hs := VW s (by omega)
 have ha := U8 s (by omega)
 rw [QP] at ha
 have hsh := VX s (by omega)
 have hd1 : (s.drop 1).length ≤ s.length := by rw [List.length_drop]; omega
 have hrv := tV (s.drop 1) (by omega)
 obtain ⟨m1, m2, m3, m4, m5, m6, m7⟩ := yO (s.drop 1) (by omega)
 have hf1 := Tv (s.drop 1) (zx (s.drop 1)).1 1 m1 (by omega) ⟨m3, m2⟩ ⟨m5, m4⟩ ⟨m7, m6⟩
 have hf2 := Tv (s.drop 1) (zx (s.drop 1)).1 (vQ (zx (s.drop 1)).1) m1 (Xp _) ⟨m3, m2⟩ ⟨m5, m4⟩ ⟨m7, m6⟩
 have hc := U6 (zx (s.drop 1)).1
 unfold rvT at hrv
 rw [show (zx (s.drop 1)).2 = isV (s.drop 1) from rfl] at hrv
 unfold xL
 generalize ug s = sg at *
 generalize wS s = ex at *
 generalize wP s = sh at *
 generalize isV (s.drop 1) = iv at *
 generalize vQ (zx (s.drop 1)).1 = cr at *
 generalize hfd : lU (zx (s.drop 1)).1 (s.drop 1) 1 = f1 at *
 generalize hfc : lU (zx (s.drop 1)).1 (s.drop 1) cr = f2 at *
 generalize (zx (s.drop 1)).1 = v at *
 simp only [Ver.enc, List.map_cons, List.map_nil] at hrv hf1 hf2 hc
 cases h42 : (s == [42]) with
 | true =>
  simp only [cond_true, bT]
  apply zz
  refine zA rfl Tryz.func237 rfl (by kernel_rfl) ?_
  unfold Tryz.f237
  simp (disch := ((try simp only [LL]); omega)) only [↓GO, ↓DRW, GA, ren, zG, zd, refs, zb, cst, zl, zM, z7, E.load, E.store, zL, isC, bin, zN, zO, una, z8, za, zh, zP, blt, fnV, asArg, ze, zn, zo, zj, zm, zg, zk, zu, z6, zK, zJ, E.mkS, zc, unN, zQ, zi, zw, zq, zC, zI, zf, zR, zr, GS, simprocAttr, GZ, h42]
 | false =>
  simp only [cond_false]
  match s with
  | [] =>
   have z1 : decide ((([] : Str).length : Int) > 1) = false := rfl
   have z0 : decide ((([] : Str).length : Int) > 0) = false := rfl
   rw [z1, z0]
   simp only [Bool.false_and, cond_false]
   cases ex <;> cases sh <;> simp only [bT] at ha hsh ⊢
   all_goals
    apply zz
    refine zA rfl Tryz.func237 rfl (by kernel_rfl) ?_
    unfold Tryz.f237
    simp (disch := ((try simp only [LL]); omega)) only [↓GO, ↓DRW, GA, ren, zG, zd, refs, zb, cst, zl, zM, z7, E.load, E.store, zL, isC, bin, zN, zO, una, z8, za, zh, zP, blt, fnV, asArg, ze, zn, zo, zj, zm, zg, zk, zu, z6, zK, zJ, E.mkS, zc, unN, zQ, zi, zw, zq, zC, zI, zf, zR, zr, GS, simprocAttr, GZ, h42, z1, z0, ha, hsh]
  | x :: r =>
   have z0 : decide (((x :: r).length : Int) > 0) = true := by apply decide_eq_true; simp only [List.length_cons]; omega
   have h0 : (x :: r)[0]? = some x := rfl
   have h94 := lT x 94
   have h126 := lT x 126
   have h62 := lT x 62
   have h60 := lT x 60
   rw [show (((94 : UInt8).toNat : Nat) : Int) = 94 from rfl] at h94
   rw [show (((126 : UInt8).toNat : Nat) : Int) = 126 from rfl] at h126
   rw [show (((62 : UInt8).toNat : Nat) : Int) = 62 from rfl] at h62
   rw [show (((60 : UInt8).toNat : Nat) : Int) = 60 from rfl] at h60
   have hx1 : 1 ≤ (x :: r).length := by simp
   simp only [hdB]
   rw [z0]
   generalize x :: r = xs at *
   cases z1 : decide ((xs.length : Int) > 1)
   · simp only [Bool.true_and, Bool.false_and, Bool.or_true, Bool.or_false, Bool.true_or, Bool.false_or, cond_true, cond_false, hfc, hfd]
     cases e62 : (x == 62) <;> rw [e62] at h62
     · cases e60 : (x == 60) <;> rw [e60] at h60 <;> simp only [Bool.true_and, Bool.false_and, Bool.or_true, Bool.or_false, Bool.true_or, Bool.false_or, cond_true, cond_false, hfc, hfd]
       · cases ex <;> cases sh <;> simp only [bT] at ha hsh ⊢
         all_goals
          apply zz
          refine zA rfl Tryz.func237 rfl (by kernel_rfl) ?_
          unfold Tryz.f237
          simp (disch := ((try simp only [LL]); omega)) only [↓GO, ↓DRW, GA, ren, zG, zd, refs, zb, cst, zl, zM, z7, E.load, E.store, zL, isC, bin, zN, zO, una, z8, za, zh, zP, blt, fnV, asArg, ze, zn, zo, zj, zm, zg, zk, zu, z6, zK, zJ, E.mkS, zc, unN, zQ, zi, zw, zq, zC, zI, zf, zR, zr, GS, simprocAttr, GZ, h42, z1, z0, h0, h62, h60, ha, hsh, y6]
       · cases sg <;> simp only [bT] at hs ⊢
         all_goals
          apply zz
          refine zA rfl Tryz.func237 rfl (by kernel_rfl) ?_
          unfold Tryz.f237
          simp (disch := ((try simp only [LL]); omega)) only [↓GO, ↓DRW, GA, ren, zG, zd, refs, zb, cst, zl, zM, z7, E.load, E.store, zL, isC, bin, zN, zO, una, z8, za, zh, zP, blt, fnV, asArg, ze, zn, zo, zj, zm, zg, zk, zu, z6, zK, zJ, E.mkS, zc, unN, zQ, zi, zw, zq, zC, zI, zf, zR, zr, GS, simprocAttr, GZ, h42, z1, z0, h0, h62, h60, hs, y6]
     · simp only [Bool.true_and, Bool.false_and, Bool.or_true, Bool.or_false, Bool.true_or, Bool.false_or, cond_true, cond_false, hfc, hfd]
       cases sg <;> simp only [bT] at hs ⊢
       all_goals
        apply zz
        refine zA rfl Tryz.func237 rfl (by kernel_rfl) ?_
        unfold Tryz.f237
        simp (disch := ((try simp only [LL]); omega)) only [↓GO, ↓DRW, GA, ren, zG, zd, refs, zb, cst, zl, zM, z7, E.load, E.store, zL, isC, bin, zN, zO, una, z8, za, zh, zP, blt, fnV, asArg, ze, zn, zo, zj, zm, zg, zk, zu, z6, zK, zJ, E.mkS, zc, unN, zQ, zi, zw, zq, zC, zI, zf, zR, zr, GS, simprocAttr, GZ, h42, z1, z0, h0, h62, hs, y6]
   · cases e94 : (x == 94) <;> rw [e94] at h94
     · cases e126 : (x == 126) <;> rw [e126] at h126 <;> simp only [Bool.true_and, Bool.false_and, Bool.or_true, Bool.or_false, Bool.true_or, Bool.false_or, cond_true, cond_false, hfc, hfd]
       · cases e62 : (x == 62) <;> rw [e62] at h62
         · cases e60 : (x == 60) <;> rw [e60] at h60 <;> simp only [Bool.true_and, Bool.false_and, Bool.or_true, Bool.or_false, Bool.true_or, Bool.false_or, cond_true, cond_false, hfc, hfd]
           · cases ex <;> cases sh <;> simp only [bT] at ha hsh ⊢
             all_goals
              apply zz
              refine zA rfl Tryz.func237 rfl (by kernel_rfl) ?_
              unfold Tryz.f237
              simp (disch := ((try simp only [LL]); omega)) only [↓GO, ↓DRW, GA, ren, zG, zd, refs, zb, cst, zl, zM, z7, E.load, E.store, zL, isC, bin, zN, zO, una, z8, za, zh, zP, blt, fnV, asArg, ze, zn, zo, zj, zm, zg, zk, zu, z6, zK, zJ, E.mkS, zc, unN, zQ, zi, zw, zq, zC, zI, zf, zR, zr, GS, simprocAttr, GZ, h42, z1, z0, h0, h94, h126, h62, h60, ha, hsh, y6]
           · cases sg <;> simp only [bT] at hs ⊢
             all_goals
              apply zz
              refine zA rfl Tryz.func237 rfl (by kernel_rfl) ?_
              unfold Tryz.f237
              simp (disch := ((try simp only [LL]); omega)) only [↓GO, ↓DRW, GA, ren, zG, zd, refs, zb, cst, zl, zM, z7, E.load, E.store, zL, isC, bin, zN, zO, una, z8, za, zh, zP, blt, fnV, asArg, ze, zn, zo, zj, zm, zg, zk, zu, z6, zK, zJ, E.mkS, zc, unN, zQ, zi, zw, zq, zC, zI, zf, zR, zr, GS, simprocAttr, GZ, h42, z1, z0, h0, h94, h126, h62, h60, hs, y6]
         · simp only [Bool.true_and, Bool.false_and, Bool.or_true, Bool.or_false, Bool.true_or, Bool.false_or, cond_true, cond_false, hfc, hfd]
           cases sg <;> simp only [bT] at hs ⊢
           all_goals
            apply zz
            refine zA rfl Tryz.func237 rfl (by kernel_rfl) ?_
            unfold Tryz.f237
            simp (disch := ((try simp only [LL]); omega)) only [↓GO, ↓DRW, GA, ren, zG, zd, refs, zb, cst, zl, zM, z7, E.load, E.store, zL, isC, bin, zN, zO, una, z8, za, zh, zP, blt, fnV, asArg, ze, zn, zo, zj, zm, zg, zk, zu, z6, zK, zJ, E.mkS, zc, unN, zQ, zi, zw, zq, zC, zI, zf, zR, zr, GS, simprocAttr, GZ, h42, z1, z0, h0, h94, h126, h62, hs, y6]
       · cases iv <;> simp only [Bool.not_true, Bool.not_false, cond_true, cond_false, bT] at hrv ⊢
         · apply zz
           refine zA rfl Tryz.func237 rfl (by kernel_rfl) ?_
           unfold Tryz.f237
           simp (disch := ((try simp only [LL]); omega)) only [↓GO, ↓DRW, GA, ren, zG, zd, refs, zb, cst, zl, zM, z7, E.load, E.store, zL, isC, bin, zN, zO, una, z8, za, zh, zP, blt, fnV, asArg, ze, zn, zo, zj, zm, zg, zk, zu, z6, zK, zJ, E.mkS, zc, unN, zQ, zi, zw, zq, zC, zI, zf, zR, zr, GS, simprocAttr, GZ, h42, z1, z0, h0, h94, h126, hrv, hx1, y6]
         · cases f1 <;> simp only [bT] at hf1 ⊢
           all_goals
            apply zz
            refine zA rfl Tryz.func237 rfl (by kernel_rfl) ?_
            unfold Tryz.f237
            simp (disch := ((try simp only [LL]); omega)) only [↓GO, ↓DRW, GA, ren, zG, zd, refs, zb, cst, zl, zM, z7, E.load, E.store, zL, isC, bin, zN, zO, una, z8, za, zh, zP, blt, fnV, asArg, ze, zn, zo, zj, zm, zg, zk, zu, z6, zK, zJ, E.mkS, zc, unN, zQ, zi, zw, zq, zC, zI, zf, zR, zr, GS, simprocAttr, GZ, h42, z1, z0, h0, h94, h126, hrv, hf1, hx1, y6]
            refine yZ (by kernel_rfl) ?_
            rfl
     · cases e126 : (x == 126) <;> rw [e126] at h126 <;> simp only [Bool.true_and, Bool.false_and, Bool.or_true, Bool.or_false, Bool.true_or, Bool.false_or, cond_true, cond_false, hfc, hfd] <;> cases iv <;> simp only [Bool.not_true, Bool.not_false, cond_true, cond_false, bT] at hrv ⊢
       · apply zz
         refine zA rfl Tryz.func237 rfl (by kernel_rfl) ?_
         unfold Tryz.f237
         simp (disch := ((try simp only [LL]); omega)) only [↓GO, ↓DRW, GA, ren, zG, zd, refs, zb, cst, zl, zM, z7, E.load, E.store, zL, isC, bin, zN, zO, una, z8, za, zh, zP, blt, fnV, asArg, ze, zn, zo, zj, zm, zg, zk, zu, z6, zK, zJ, E.mkS, zc, unN, zQ, zi, zw, zq, zC, zI, zf, zR, zr, GS, simprocAttr, GZ, h42, z1, z0, h0, h94, h126, hrv, hx1, y6]
       · cases f2 <;> simp only [bT] at hf2 ⊢
         all_goals
          apply zz
          refine zA rfl Tryz.func237 rfl (by kernel_rfl) ?_
          unfold Tryz.f237
          simp (disch := ((try simp only [LL]); omega)) only [↓GO, ↓DRW, GA, ren, zG, zd, refs, zb, cst, zl, zM, z7, E.load, E.store, zL, isC, bin, zN, zO, una, z8, za, zh, zP, blt, fnV, asArg, ze, zn, zo, zj, zm, zg, zk, zu, z6, zK, zJ, E.mkS, zc, unN, zQ, zi, zw, zq, zC, zI, zf, zR, zr, GS, simprocAttr, GZ, h42, z1, z0, h0, h94, h126, hrv, hc, hf2, hx1, y6]
          refine yZ (by kernel_rfl) ?_
          rfl
       · apply zz
         refine zA rfl Tryz.func237 rfl (by kernel_rfl) ?_
         unfold Tryz.f237
         simp (disch := ((try simp only [LL]); omega)) only [↓GO, ↓DRW, GA, ren, zG, zd, refs, zb, cst, zl, zM, z7, E.load, E.store, zL, isC, bin, zN, zO, una, z8, za, zh, zP, blt, fnV, asArg, ze, zn, zo, zj, zm, zg, zk, zu, z6, zK, zJ, E.mkS, zc, unN, zQ, zi, zw, zq, zC, zI, zf, zR, zr, GS, simprocAttr, GZ, h42, z1, z0, h0, h94, h126, hrv, hx1, y6]
       · cases f1 <;> simp only [bT] at hf1 ⊢
         all_goals
          apply zz
          refine zA rfl Tryz.func237 rfl (by kernel_rfl) ?_
          unfold Tryz.f237
          simp (disch := ((try simp only [LL]); omega)) only [↓GO, ↓DRW, GA, ren, zG, zd, refs, zb, cst, zl, zM, z7, E.load, E.store, zL, isC, bin, zN, zO, una, z8, za, zh, zP, blt, fnV, asArg, ze, zn, zo, zj, zm, zg, zk, zu, z6, zK, zJ, E.mkS, zc, unN, zQ, zi, zw, zq, zC, zI, zf, zR, zr, GS, simprocAttr, GZ, h42, z1, z0, h0, h94, h126, hrv, hc, hf1, hx1, y6]
          refine yZ (by kernel_rfl) ?_
          rfl
end Go.Proofs.YtijninlbpifonaaGreatDoor
/- Ranges, by the reference: parts cut, all; notices. Conditions: those of each lemma. -/
namespace Go.Proofs.YtijninlbpifonaaGreatDoor
open E
set_option linter.unusedSimpArgs false
set_option linter.unusedVariables false
set_option maxRecDepth 100000
def glue (c : Str) : List Str → List Str
 | p :: r => (c ++ p) :: r
 | [] => []
theorem dn : ∀ l : List Str, glue [] l = l
 | [] => rfl
 | p :: r => rfl
theorem lz : ∀ (k : Nat) (s : Str), s.length < 4 → k ≤ s.length → x6 k s = [s.drop k]
 | k, [], _, h => by
  have : k = 0 := by simpa using h
  subst this; rfl
 | 0, x :: r, h, _ => by
  have hp : wH.isPrefixOf (x :: r) = false := by
   cases h2 : wH.isPrefixOf (x :: r) with
   | false => rfl
   | true => have := RA h2; omega
  have ih := lz 0 r (by simp only [List.length_cons] at h; omega) (by omega)
  rw [uG x r r [] hp ih]; rfl
 | k + 1, x :: r, h, hk => by
  rw [x6, lz k r (by simp only [List.length_cons] at h; omega) (by simpa using hk)]; rfl
theorem cP (s : Str) (h : 4 ≤ s.length) : wH.isPrefixOf s = (s.take 4 == wH) := by
 match s, h with
 | a :: b :: c :: d :: r, _ =>
  unfold wH
  rw [Bool.eq_iff_iff]
  simp [List.isPrefixOf]
  constructor
  · rintro ⟨h1, h2, h3, h4⟩; exact ⟨h1.symm, h2.symm, h3.symm, h4.symm⟩
  · rintro ⟨h1, h2, h3, h4⟩; exact ⟨h1.symm, h2.symm, h3.symm, h4.symm⟩
theorem qW (s : Str) (hl : s.length ≤ 4194304) : ∀ (n f m : Nat) (out : List Str) (cap : Option Nat), s.length - m = n → f ≤ s.length → m ≤ s.length → out.length ≤ m →
 ∃ (out' : List Str) (fr : Nat) (cap' : Option Nat), out'.length ≤ s.length ∧ fr ≤ s.length ∧ out' ++ [s.drop fr] = out ++ glue ((s.drop f).take (m - f)) (x6 (f - m) (s.drop m)) ∧
  EV Tryz.prog pol (.loop 236 122 0 [.t (.str s), .sl 0 0 out.length cap, .t (.int .i64 (f : Int)), .t (.int .i64 (m : Int))] [.ts 1 (strs out)]) = some (.loop (.exit 0) [.t (.str s), .sl 0 0 out'.length cap', .t (.int .i64 (fr : Int))] [.ts 1 (strs out')])
 | n, f, m, out, cap, hn, hf, hm, ho => by
  by_cases hc : m + 4 ≤ s.length
  · have c : decide ((m : Int) + 4 ≤ (s.length : Int)) = true := decide_eq_true (by omega)
    have e4 : ((m : Int) + 4) = ((m + 4 : Nat) : Int) := by omega
    have e1 : ((m : Int) + 1) = ((m + 1 : Nat) : Int) := by omega
    have hdl : (s.drop m).length = s.length - m := List.length_drop
    obtain ⟨x, r, hx⟩ : ∃ x r, s.drop m = x :: r := by
     cases h : s.drop m with
     | nil => rw [h] at hdl; simp at hdl; omega
     | cons x r => exact ⟨x, r, rfl⟩
    have hr : s.drop (m + 1) = r := by rw [← List.drop_drop, hx]; rfl
    by_cases hfm : f ≤ m
    · have g : decide ((m : Int) ≥ (f : Int)) = true := decide_eq_true (by omega)
      have hk : f - m = 0 := by omega
      have ht := cP (s.drop m) (by omega)
      have hN : ((m : Int) + 4).toNat - m = 4 := by omega
      have hN2 : ((m : Int) + 4).toNat = m + 4 := by omega
      have hol : out.length ≤ 4194304 := by omega
      cases hp : wH.isPrefixOf (s.drop m) with
      | true =>
       obtain ⟨out', fr, cap', q1, q2, q3, q4⟩ := qW s hl (n - 1) (m + 4) (m + 1) (out ++ [(s.drop f).take (m - f)]) none (by omega) (by omega) (by omega) (by simp; omega)
       refine ⟨out', fr, cap', q1, q2, ?_, ?_⟩
       · rw [q3, hr, show m + 4 - (m + 1) = 3 by omega, show m + 1 - (m + 4) = 0 by omega, hk, hx, ly x r (by rw [← hx]; exact hp)]
         rw [show glue ((s.drop f).take (m - f)) ([] :: x6 3 r) = ((s.drop f).take (m - f) ++ []) :: x6 3 r from rfl, List.take_zero, dn, List.append_nil, List.append_assoc]; rfl
       · rw [hp] at ht
         rw [uN, xm, yi, List.length_append, List.length_cons, List.length_nil, Nat.zero_add, ← e4, ← e1] at q4
         have ht' : ((s.drop m).take 4 == [32, 124, 124, 32]) = true := ht.symm
         clear hx hr q3
         refine zD Tryz.func236 rfl rfl ?_
         simp (disch := ((try simp only [LL]); omega)) only [↓GO, ↓DRW, GA, ren, zG, zd, refs, zb, cst, zl, zM, z7, E.load, E.store, zL, isC, bin, zN, zO, una, z8, za, zh, zP, blt, fnV, asArg, ze, zn, zo, zj, zm, zg, zk, zu, z6, zK, zJ, E.mkS, zc, unN, zQ, zi, zw, zq, zC, zI, zf, zR, zr, GS, simprocAttr, GZ, c, g, hN, ht', zB, q4, zH, wk]
      | false =>
       obtain ⟨out', fr, cap', q1, q2, q3, q4⟩ := qW s hl (n - 1) f (m + 1) out cap (by omega) (by omega) (by omega) (by omega)
       refine ⟨out', fr, cap', q1, q2, ?_, ?_⟩
       · rw [q3, hr, hk, show f - (m + 1) = 0 by omega, hx]
         have htk : (s.drop f).take (m + 1 - f) = (s.drop f).take (m - f) ++ [x] := by
          have hdd : (s.drop f).drop (m - f) = x :: r := by rw [List.drop_drop, show f + (m - f) = m by omega]; exact hx
          rw [show m + 1 - f = (m - f) + 1 by omega, List.take_add, hdd]; rfl
         rw [htk]
         cases h0 : x6 0 r with
         | nil => exact absurd h0 (pt 0 r)
         | cons p q => rw [uG x r p q (by rw [← hx]; exact hp) h0]; simp [glue]
       · rw [hp] at ht
         rw [← e1] at q4
         have ht' : ((s.drop m).take 4 == [32, 124, 124, 32]) = false := ht.symm
         clear hx hr q3
         refine zD Tryz.func236 rfl rfl ?_
         simp (disch := ((try simp only [LL]); omega)) only [↓GO, ↓DRW, GA, ren, zG, zd, refs, zb, cst, zl, zM, z7, E.load, E.store, zL, isC, bin, zN, zO, una, z8, za, zh, zP, blt, fnV, asArg, ze, zn, zo, zj, zm, zg, zk, zu, z6, zK, zJ, E.mkS, zc, unN, zQ, zi, zw, zq, zC, zI, zf, zR, zr, GS, simprocAttr, GZ, c, g, hN, ht', zB, q4, zH, wk]
    · have g : decide ((m : Int) ≥ (f : Int)) = false := decide_eq_false (by omega)
      obtain ⟨out', fr, cap', q1, q2, q3, q4⟩ := qW s hl (n - 1) f (m + 1) out cap (by omega) (by omega) (by omega) (by omega)
      refine ⟨out', fr, cap', q1, q2, ?_, ?_⟩
      · rw [q3, hr, show m + 1 - f = 0 by omega, show m - f = 0 by omega, hx, show f - m = (f - (m + 1)) + 1 by omega, x6]
      · rw [← e1] at q4
        clear hx hr q3
        refine zD Tryz.func236 rfl rfl ?_
        simp (disch := ((try simp only [LL]); omega)) only [↓GO, ↓DRW, GA, ren, zG, zd, refs, zb, cst, zl, zM, z7, E.load, E.store, zL, isC, bin, zN, zO, una, z8, za, zh, zP, blt, fnV, asArg, ze, zn, zo, zj, zm, zg, zk, zu, z6, zK, zJ, E.mkS, zc, unN, zQ, zi, zw, zq, zC, zI, zf, zR, zr, GS, simprocAttr, GZ, c, g, zB, q4, zH, wk]
  · have c : decide ((m : Int) + 4 ≤ (s.length : Int)) = false := decide_eq_false (by omega)
    refine ⟨out, f, cap, by omega, hf, ?_, ?_⟩
    · have hdl : (s.drop m).length = s.length - m := List.length_drop
      rw [lz (f - m) (s.drop m) (by omega) (by omega)]
      simp only [glue, List.drop_drop]
      by_cases hfm : f ≤ m
      · rw [show f - m = 0 by omega, Nat.add_zero]
        congr 2
        have := List.take_append_drop (m - f) (s.drop f)
        rw [List.drop_drop, show f + (m - f) = m by omega] at this
        exact this.symm
      · rw [show m - f = 0 by omega, show m + (f - m) = f by omega]; rfl
    · refine zD Tryz.func236 rfl rfl ?_
      simp (disch := ((try simp only [LL]); omega)) only [↓GO, ↓DRW, GA, ren, zG, zd, refs, zb, cst, zl, zM, z7, E.load, E.store, zL, isC, bin, zN, zO, una, z8, za, zh, zP, blt, fnV, asArg, ze, zn, zo, zj, zm, zg, zk, zu, z6, zK, zJ, E.mkS, zc, unN, zQ, zi, zw, zq, zC, zI, zf, zR, zr, GS, simprocAttr, GZ, c, zB]
termination_by n f m => s.length - m
decreasing_by all_goals omega
theorem U1 (s : Str) (hl : s.length ≤ 4194304) : zE (EV Tryz.prog pol) 236 [.t (.str s)] = some (.t (.list 1 (strs (x6 0 s)))) := by
 obtain ⟨out, fr, cap, q1, q2, q3, q4⟩ := qW s hl s.length 0 0 [] (some 0) (by omega) (by omega) (by omega) (by simp)
 simp only [List.nil_append, List.length_nil, Int.natCast_zero, yi, List.drop_zero, Nat.sub_zero, List.take_zero, dn, Nat.sub_self] at q4 q3
 have ho : (strs out ++ [[.str (List.drop fr s)]]) = strs (x6 0 s) := by rw [← q3, uN]; rfl
 have ht : List.take (out.length + 1) (strs (x6 0 s)) = strs (x6 0 s) := List.take_of_length_le (by rw [zH, ← q3]; simp)
 apply zz
 refine zA rfl Tryz.func236 rfl (by kernel_rfl) ?_
 unfold Tryz.f236
 simp (disch := ((try simp only [LL]); omega)) only [↓GO, ↓DRW, GA, ren, zG, zd, refs, zb, cst, zl, zM, z7, E.load, E.store, zL, isC, bin, zN, zO, una, z8, za, zh, zP, blt, fnV, asArg, ze, zn, zo, zj, zm, zg, zk, zu, z6, zK, zJ, E.mkS, zc, unN, zQ, zi, zw, zq, zC, zI, zf, zR, zr, GS, simprocAttr, GZ, q4, zH, wk, ho, ht]
end Go.Proofs.YtijninlbpifonaaGreatDoor
/- Ranges, by the reference: the whole; notices; the law. Conditions: those of each lemma. -/
namespace Go.Proofs.YtijninlbpifonaaGreatDoor
open E
set_option linter.unusedSimpArgs false
set_option linter.unusedVariables false
set_option maxRecDepth 100000
/-- how the reference's loop ends -/
def nt (ps : List Str) (acc : List Bd) (cap : Option Nat) (x : List Bd) : Option (List Bd) → xA
 | some bs => .loop (.exit 0) [.bad, .bad, .sl 0 0 (acc.length + bs.length) cap] [.ts 2 (bdT (acc ++ bs))]
 | none => .loop .ret [.sl 0 0 0 (some 0), .t (.bool false), .sl 1 0 x.length cap] [.ts 2 [], .ts 2 (bdT x)]
theorem RI (ps : List Str) (hl : ps.length ≤ 1048577) (hb : ∀ p ∈ ps, p.length ≤ 1048576) : ∀ (rest pre : List Str) (acc : List Bd) (cap : Option Nat) (m : Nat), ps = pre ++ rest → m = acc.length → acc.length = pre.length →
 ∃ cap' x, EV Tryz.prog pol (.loop 157 250 0 [.sl 0 0 m cap, .t (.list 1 (strs ps)), .t (.int .i64 (pre.length : Int))] [.ts 2 (bdT acc)]) = some (nt ps acc cap' x (vR rest))
 | [], pre, acc, cap, m, hs, hm, ha => by
  have c : decide ((pre.length : Int) < (ps.length : Int)) = false := by simp [hs]
  refine ⟨cap, [], ?_⟩
  simp only [vR, nt, List.append_nil, List.length_nil, Nat.add_zero]
  subst hm
  refine zD Tryz.func157 rfl rfl ?_
  simp (disch := ((try simp only [LL]); omega)) only [↓GO, ↓DRW, GA, ren, zG, zd, refs, zb, cst, zl, zM, z7, E.load, E.store, zL, isC, bin, zN, zO, una, z8, za, zh, zP, blt, fnV, asArg, ze, zn, zo, zj, zm, zg, zk, zu, z6, zK, zJ, E.mkS, zc, unN, zQ, zi, zw, zq, zC, zI, zf, zR, zr, GS, simprocAttr, GZ, c, zH, y6]
 | p :: rest, pre, acc, cap, m, hs, hm, ha => by
  have c : decide ((pre.length : Int) < (ps.length : Int)) = true := by simp [hs]; omega
  have hget : (strs ps)[pre.length]? = some [.str p] := by rw [hs]; exact rq (fun s : Str => [T.str s]) pre p rest
  have hlen : pre.length + rest.length + 1 ≤ ps.length := by rw [hs]; simp; omega
  have hpb := hb p (by rw [hs]; simp)
  have hB := R7 p hpb
  have IHs := fun b => RI ps hl hb rest (pre ++ [p]) (acc ++ [b]) none (m + 1) (by rw [hs]; simp) (by simp [hm]) (by simp [ha])
  rw [show ((pre ++ [p]).length : Int) = (pre.length : Int) + 1 by simp] at IHs
  have hol : (bdT acc).length = m := by rw [xQ, hm]
  have hml : m ≤ 1048578 := by omega
  have hpl : pre.length ≤ 1048577 := by omega
  clear hs hb
  simp only [vR]
  cases hp : xL p with
  | none =>
   rw [hp] at hB
   refine ⟨cap, acc, ?_⟩
   simp only [bT] at hB
   unfold nt
   simp only
   subst hm
   refine zD Tryz.func157 rfl rfl ?_
   simp (disch := ((try simp only [LL]); omega)) only [↓GO, ↓DRW, GA, ren, zG, zd, refs, zb, cst, zl, zM, z7, E.load, E.store, zL, isC, bin, zN, zO, una, z8, za, zh, zP, blt, fnV, asArg, ze, zn, zo, zj, zm, zg, zk, zu, z6, zK, zJ, E.mkS, zc, unN, zQ, zi, zw, zq, zC, zI, zf, zR, zr, GS, simprocAttr, GZ, c, hget, hB, zB, hol, zH, y6, wk]
  | some b =>
   obtain ⟨lo, hi⟩ := b
   rw [hp] at hB
   simp only [bT] at hB
   obtain ⟨cap', x, IH⟩ := IHs (lo, hi)
   refine ⟨cap', x, ?_⟩
   rw [Yo, show bdT [(lo, hi)] = [[T.str lo, T.str hi]] from rfl] at IH
   simp only
   rw [show nt ps (acc ++ [(lo, hi)]) cap' x (vR rest) = nt ps acc cap' x (match vR rest with | some bs => some ((lo, hi) :: bs) | none => none) by
    cases vR rest with
    | none => rfl
    | some bs => simp only [nt]; rw [List.append_assoc]; simp only [List.length_append, List.length_cons, List.length_nil, List.cons_append, List.nil_append]; rw [show acc.length + (0 + 1) + bs.length = acc.length + (bs.length + 1) by omega]] at IH
   refine zD Tryz.func157 rfl rfl ?_
   simp (disch := ((try simp only [LL]); omega)) only [↓GO, ↓DRW, GA, ren, zG, zd, refs, zb, cst, zl, zM, z7, E.load, E.store, zL, isC, bin, zN, zO, una, z8, za, zh, zP, blt, fnV, asArg, ze, zn, zo, zj, zm, zg, zk, zu, z6, zK, zJ, E.mkS, zc, unN, zQ, zi, zw, zq, zC, zI, zf, zR, zr, GS, simprocAttr, GZ, c, hget, hB, zB, hol, zH, IH, y6, wk]
   try (cases vR rest <;> rfl)
theorem RZ (s : Str) (hl : s.length ≤ 1048576) : zE (EV Tryz.prog pol) 157 [.t (.str s)] = some (rrT (wo s)) := by
 unfold wo
 have h1 := U1 s (by omega)
 have hbk := uH 0 s
 have hcn : 1 ≤ (x6 0 s).length := by
  cases hc : x6 0 s with
  | nil => exact absurd hc (pt 0 s)
  | cons p q => simp
 have hmem : ∀ p ∈ x6 0 s, p.length ≤ 1048576 := fun p hp => by have := xW hp; omega
 generalize x6 0 s = ps at *
 obtain ⟨cap, x, L⟩ := RI ps (by omega) hmem ps [] [] (some 0) 0 rfl rfl rfl
 rw [show bdT [] = [] from rfl] at L
 simp only [List.length_nil, Int.natCast_zero] at L
 have hpl : ps.length ≤ 1048577 := by omega
 cases h200 : decide ((s.length : Int) > 200) with
 | true =>
  simp only [Bool.true_or, cond_true, rrT]
  apply zz
  refine zA rfl Tryz.func157 rfl (by kernel_rfl) ?_
  unfold Tryz.f157
  simp (disch := ((try simp only [LL]); omega)) only [↓GO, ↓DRW, GA, ren, zG, zd, refs, zb, cst, zl, zM, z7, E.load, E.store, zL, isC, bin, zN, zO, una, z8, za, zh, zP, blt, fnV, asArg, ze, zn, zo, zj, zm, zg, zk, zu, z6, zK, zJ, E.mkS, zc, unN, zQ, zi, zw, zq, zC, zI, zf, zR, zr, GS, simprocAttr, GZ, h1, h200, zH]
 | false =>
  cases h8 : decide ((ps.length : Int) > 8) with
  | true =>
   simp only [Bool.or_true, cond_true, rrT]
   apply zz
   refine zA rfl Tryz.func157 rfl (by kernel_rfl) ?_
   unfold Tryz.f157
   simp (disch := ((try simp only [LL]); omega)) only [↓GO, ↓DRW, GA, ren, zG, zd, refs, zb, cst, zl, zM, z7, E.load, E.store, zL, isC, bin, zN, zO, una, z8, za, zh, zP, blt, fnV, asArg, ze, zn, zo, zj, zm, zg, zk, zu, z6, zK, zJ, E.mkS, zc, unN, zQ, zi, zw, zq, zC, zI, zf, zR, zr, GS, simprocAttr, GZ, h1, h200, h8, zH]
  | false =>
   simp only [Bool.or_false, cond_false]
   cases ha : vR ps with
   | none =>
    rw [ha] at L
    simp only [nt, rrT] at L ⊢
    apply zz
    refine zA rfl Tryz.func157 rfl (by kernel_rfl) ?_
    unfold Tryz.f157
    simp (disch := ((try simp only [LL]); omega)) only [↓GO, ↓DRW, GA, ren, zG, zd, refs, zb, cst, zl, zM, z7, E.load, E.store, zL, isC, bin, zN, zO, una, z8, za, zh, zP, blt, fnV, asArg, ze, zn, zo, zj, zm, zg, zk, zu, z6, zK, zJ, E.mkS, zc, unN, zQ, zi, zw, zq, zC, zI, zf, zR, zr, GS, simprocAttr, GZ, h1, h200, h8, L, zH, y6]
   | some l =>
    have hll := (rz ps l ha).2
    rw [ha] at L
    simp only [nt, List.nil_append, List.length_nil, Nat.zero_add] at L ⊢
    have ht : (bdT l).take l.length = bdT l := List.take_of_length_le (by rw [xQ]; omega)
    simp only [rrT]
    apply zz
    refine zA rfl Tryz.func157 rfl (by kernel_rfl) ?_
    unfold Tryz.f157
    simp (disch := ((try simp only [LL]); omega)) only [↓GO, ↓DRW, GA, ren, zG, zd, refs, zb, cst, zl, zM, z7, E.load, E.store, zL, isC, bin, zN, zO, una, z8, za, zh, zP, blt, fnV, asArg, ze, zn, zo, zj, zm, zg, zk, zu, z6, zK, zJ, E.mkS, zc, unN, zQ, zi, zw, zq, zC, zI, zf, zR, zr, GS, simprocAttr, GZ, h1, h200, h8, L, zH, ht, xQ, y6]
def xH (x : zy) : Bool := (wo x.range).isSome && (tK x.name && (u6 x.text && !(x.text == [])))
theorem fY (o : Option (List Bd)) : ∃ t, rrT o = .tup [.t t, .t (.bool o.isSome)] := by
 cases o with
 | none => exact ⟨_, rfl⟩
 | some l => exact ⟨_, rfl⟩
theorem c_noR (x : zy) (hb : x.yp ≤ 1048576) : zE (EV Tryz.prog pol) 67 [.agg (x.enc.map .t)] = some (.t (.bool (xH x))) := by
 obtain ⟨name, range, text⟩ := x
 simp only [zy.yp] at hb
 have h1 := RZ range (by omega)
 have h2 := R8 name (by omega)
 have h3 := VY text (by omega)
 obtain ⟨t, ht⟩ := fY (wo range)
 rw [ht] at h1
 unfold xH
 simp only [zy.enc, List.map_cons, List.map_nil]
 generalize (wo range).isSome = b1 at *
 generalize tK name = b2 at *
 generalize u6 text = b3 at *
 cases b2 <;> cases b1 <;> cases b3 <;> cases hn : (text == [])
 all_goals
  apply zz
  refine zA rfl Tryz.func67 rfl (by kernel_rfl) ?_
  unfold Tryz.f67
  simp (disch := ((try simp only [LL]); omega)) only [↓GO, ↓DRW, GA, ren, zG, zd, refs, zb, cst, zl, zM, z7, E.load, E.store, zL, isC, bin, zN, zO, una, z8, za, zh, zP, blt, fnV, asArg, ze, zn, zo, zj, zm, zg, zk, zu, z6, zK, zJ, E.mkS, zc, unN, zQ, zi, zw, zq, zC, zI, zf, zR, zr, GS, simprocAttr, GZ, h1, h2, h3, hn, bne]
theorem c_noI (x : zy) (hb : x.yp ≤ 1048576) : zE (EV Tryz.prog pol) 66 [.agg (x.enc.map .t)] = some (.t (.bool (xH x))) := by
 obtain ⟨name, range, text⟩ := x
 simp only [zy.yp] at hb
 have h1 := Q0 range (by omega)
 rw [mn] at h1
 have h2 := R9 name (by omega)
 have h3 := VZ text (by omega)
 obtain ⟨t, ht⟩ := fY (wo range)
 rw [ht] at h1
 unfold xH
 simp only [zy.enc, List.map_cons, List.map_nil]
 generalize (wo range).isSome = b1 at *
 generalize tK name = b2 at *
 generalize u6 text = b3 at *
 cases b2 <;> cases b1 <;> cases b3 <;> cases hn : (text == [])
 all_goals
  apply zz
  refine zA rfl Tryz.func66 rfl (by kernel_rfl) ?_
  unfold Tryz.f66
  simp (disch := ((try simp only [LL]); omega)) only [↓GO, ↓DRW, GA, ren, zG, zd, refs, zb, cst, zl, zM, z7, E.load, E.store, zL, isC, bin, zN, zO, una, z8, za, zh, zP, blt, fnV, asArg, ze, zn, zo, zj, zm, zg, zk, zu, z6, zK, zJ, E.mkS, zc, unN, zQ, zi, zw, zq, zC, zI, zf, zR, zr, GS, simprocAttr, GZ, h1, h2, h3, hn, bne]
end Go.Proofs.YtijninlbpifonaaGreatDoor
/- What the laws' arguments are: Notice. Conditions: those of each lemma. -/
namespace Go.Proofs.YtijninlbpifonaaGreatDoor
open E
set_option linter.unusedSimpArgs false
set_option linter.unusedVariables false
set_option maxRecDepth 100000
theorem XA {cs : List T} (h : WT Tryz.prog 104 cs) : ∃ x : zy, cs = x.enc ∧ x.ok := by
 obtain ⟨hl, hs⟩ := h.tw Tryz.underlying104
 have k0 : Tryz.prog.cellsOf 104 = 3 := by kernel_rfl
 have k1 : Tryz.prog.cellsOf 9 = 1 := by kernel_rfl
 rw [k0] at hl
 match cs, hl with
 | [y0, y1, y2], _ =>
  simp [k1] at hs
  obtain ⟨s0, s1, s2⟩ := hs
  obtain ⟨v0, e0, o0⟩ := s0.wW Tryz.underlying9
  obtain ⟨v1, e1, o1⟩ := s1.wW Tryz.underlying9
  obtain ⟨v2, e2, o2⟩ := s2.wW Tryz.underlying9
  simp at e0 e1 e2
  subst e0 e1 e2
  exact ⟨⟨v0, v1, v2⟩, rfl, ⟨o0, o1, o2⟩⟩
end Go.Proofs.YtijninlbpifonaaGreatDoor
/- What the laws' arguments are: a graph and notices. Conditions: those of each lemma. -/
namespace Go.Proofs.YtijninlbpifonaaGreatDoor
open E
set_option linter.unusedSimpArgs false
set_option linter.unusedVariables false
set_option maxRecDepth 100000
theorem bx {cs : List T} (h : WT Tryz.prog 26 cs) : ∃ l : List zy, cs = [.list 3 (zy.yb l)] ∧ l.length ≤ 9223372036854775807 ∧ ∀ y ∈ l, y.ok := by
 obtain ⟨es, e1, e2, e3⟩ := h.qY Tryz.underlying26
 have k0 : Tryz.prog.cellsOf 104 = 3 := by kernel_rfl
 have key : ∀ es : List (List T), (∀ c ∈ es, WT Tryz.prog 104 c) → ∃ l : List zy, es = zy.yb l ∧ ∀ y ∈ l, y.ok := fun es => by
  induction es with
  | nil => exact fun _ => ⟨[], rfl, by simp⟩
  | cons c es ih =>
   intro h
   obtain ⟨l, a1, a2⟩ := ih fun c' hc => h c' (by simp [hc])
   obtain ⟨x, a3, a4⟩ := XA (h c (by simp))
   exact ⟨x :: l, by simp [zy.yb, a1, a3], by simpa using ⟨a4, a2⟩⟩
 obtain ⟨l, a1, a2⟩ := key es e3
 subst a1
 exact ⟨l, by rw [e1, k0], by rw [zy.zY] at e2; exact e2, a2⟩
end Go.Proofs.YtijninlbpifonaaGreatDoor
/- The laws' own functions over trees: sizes, comparisons. Conditions: those of each lemma. -/
namespace Go.Proofs.YtijninlbpifonaaGreatDoor
open E
set_option linter.unusedSimpArgs false
set_option linter.unusedVariables false
set_option maxRecDepth 100000
end Go.Proofs.YtijninlbpifonaaGreatDoor
/- Lists that own their memory, as rows; trees laid anew. Conditions: those of each lemma. -/
namespace Go.Proofs.YtijninlbpifonaaGreatDoor
open E
set_option linter.unusedSimpArgs false
set_option linter.unusedVariables false
set_option maxRecDepth 100000
/-- a row whose lists are owned -/
def ocE (es : List (List T)) : List (List V) := es.map fun e => e.map oc
theorem Zu (es : List (List T)) : (ocE es).length = es.length := by simp [ocE]
theorem Se (a b : List (List T)) : ocE (a ++ b) = ocE a ++ ocE b := by simp [ocE]
theorem qU (x : List T) (b : List (List T)) : ocE (x :: b) = x.map oc :: ocE b := rfl
theorem Zt : ocE [] = [] := rfl
theorem Sc (x : T) : refs (oc x) = [] := by cases x <;> rfl
theorem eB : ∀ e : List T, refs.refss (e.map oc) = []
 | [] => rfl
 | x :: e => by simp only [List.map_cons, refs.refss, Sc, eB e, List.nil_append]
theorem uP : ∀ es : List (List T), (ocE es).flatMap refs.refss = []
 | [] => rfl
 | e :: es => by rw [qU, List.flatMap_cons, eB, uP es]; rfl
theorem Qi (m : Nat → Option Nat) (x : T) : ren m (oc x) = oc x := by cases x <;> rfl
theorem Zs (m : Nat → Option Nat) : ∀ e : List T, ren.rens m (e.map oc) = e.map oc
 | [] => rfl
 | x :: e => by simp only [List.map_cons, ren.rens, Qi, Zs m e]
theorem rm (m : Nat → Option Nat) : ∀ es : List (List T), (ocE es).map (ren.rens m) = ocE es
 | [] => rfl
 | e :: es => by rw [qU, List.map_cons, Zs, rm m es]
theorem l8 (z : List V) (hz : refs.refss z = []) : ∀ k, (List.replicate k z).flatMap refs.refss = []
 | 0 => rfl
 | k + 1 => by rw [List.replicate_succ, List.flatMap_cons, hz, l8 z hz k]; rfl
theorem Zi (m : Nat → Option Nat) (z : List V) (hz : ren.rens m z = z) (k : Nat) : (List.replicate k z).map (ren.rens m) = List.replicate k z := by rw [List.map_replicate, hz]
theorem Sq {α : Type} (A B : List α) (x : α) (n : Nat) (h : A.length = n) : (A ++ x :: B)[n]? = some x := by
 rw [List.getElem?_append_right (by omega), h, Nat.sub_self]; rfl
theorem Sp {α : Type} (A B : List α) (x y : α) (n : Nat) (h : A.length = n) : (A ++ x :: B).set n y = A ++ y :: B := by
 rw [List.set_append_right _ _ (by omega), h, Nat.sub_self]; rfl
theorem gv_oc (x : T) : gvC (oc x) = some x := by cases x <;> rfl
theorem Tm : ∀ e : List T, cx (e.map oc) = some e
 | [] => rfl
 | x :: e => by simp only [List.map_cons, cx, gv_oc, Tm e]
theorem Tn : ∀ es : List (List T), gvE (ocE es) = some es
 | [] => rfl
 | e :: es => by rw [qU]; simp only [gvE, Tm, Tn es]
theorem mE : ∀ l : List Str, pA (strs l) = true
 | [] => rfl
 | x :: l => by
  have := mE l
  unfold pA strs at this ⊢
  rw [List.map_cons, List.all_cons, this]; rfl
theorem dW (ks : List Str) (hl : ks.length ≤ 1048576) : EV Tryz.prog pol (.callO false 21 [.t (.list 1 (strs ks))] []) = some (.call (.sl 0 0 ks.length (some ks.length)) [.ts 1 (strs ks)]) := by
 refine ve Tryz.func21 rfl (by kernel_rfl) ?_
 unfold Tryz.f21
 have h1 : ¬ ((ks.length : Int) < 0) := by omega
 have h2 : ¬ (ks.length * 16 > 140737488355328) := by omega
 have h3 : ¬ (ks.length > 140737488355328) := by omega
 have hz : List.replicate ks.length [T.str []] = wj (strs ks) [.str []] 0 := by rw [tB, zH]
 have IH := sa ks hl ks.length 0 (by omega) (by omega)
 simp only [Int.natCast_zero] at IH
 simp (disch := omega) only [↓GO, ↓DRW, GA, ren, zG, zd, refs, zb, cst, zl, zM, z7, E.load, E.store, zL, isC, bin, zN, zO, una, z8, za, zh, zP, blt, fnV, asArg, ze, zn, zo, zj, zm, zg, zk, zu, z6, zK, zJ, E.mkS, zc, unN, zQ, zi, zw, zq, zC, zI, zf, zR, zr, GS, simprocAttr, zH, Int.toNat_natCast, h1, h2, h3, hz, IH, ne_eq, not_true_eq_false]
end Go.Proofs.YtijninlbpifonaaGreatDoor
/- Trees laid anew; marks. Conditions: those of each lemma. -/
namespace Go.Proofs.YtijninlbpifonaaGreatDoor
open E
set_option linter.unusedSimpArgs false
set_option linter.unusedVariables false
set_option maxRecDepth 100000
def mkD : Nat → Nat → Str → Str
 | 0, _, out => out
 | n + 1, k, out => if k = 0 then out else mkD n (k / 10) (UInt8.ofNat (48 + k % 10) :: out)
/-- a number's mark -/
def mkT (k : Nat) : Str := if k = 0 then [109, 48] else 109 :: mkD k k []
end Go.Proofs.YtijninlbpifonaaGreatDoor
/- Marks in lists of texts, in trees. Conditions: those of each lemma. -/
namespace Go.Proofs.YtijninlbpifonaaGreatDoor
open E
set_option linter.unusedSimpArgs false
set_option linter.unusedVariables false
set_option maxRecDepth 100000
def mkS : Nat → Nat → List Str
 | 0, _ => []
 | n + 1, k => mkT k :: mkS n (k + 1)
end Go.Proofs.YtijninlbpifonaaGreatDoor
/- Marks in trees. Conditions: those of each lemma. -/
namespace Go.Proofs.YtijninlbpifonaaGreatDoor
open E
set_option linter.unusedSimpArgs false
set_option linter.unusedVariables false
set_option maxRecDepth 100000
end Go.Proofs.YtijninlbpifonaaGreatDoor
/- Marks in trees, all; marks found again. Conditions: those of each lemma. -/
namespace Go.Proofs.YtijninlbpifonaaGreatDoor
open E
set_option linter.unusedSimpArgs false
set_option linter.unusedVariables false
set_option maxRecDepth 100000
end Go.Proofs.YtijninlbpifonaaGreatDoor
/- Trees copied, by both. Conditions: those of each lemma. -/
namespace Go.Proofs.YtijninlbpifonaaGreatDoor
open E
set_option linter.unusedSimpArgs false
set_option linter.unusedVariables false
set_option maxRecDepth 100000
end Go.Proofs.YtijninlbpifonaaGreatDoor
/- Trees copied by the implementation: their memory is their own; what stands under a key, by both. Conditions: those of each lemma. -/
namespace Go.Proofs.YtijninlbpifonaaGreatDoor
open E
set_option linter.unusedSimpArgs false
set_option linter.unusedVariables false
set_option maxRecDepth 100000
end Go.Proofs.YtijninlbpifonaaGreatDoor
/- What stands under a key, by both. Conditions: those of each lemma. -/
namespace Go.Proofs.YtijninlbpifonaaGreatDoor
open E
set_option linter.unusedSimpArgs false
set_option linter.unusedVariables false
set_option maxRecDepth 100000
def zt : Tr := .mk 0 0 [] [] []
end Go.Proofs.YtijninlbpifonaaGreatDoor
/- Graphs laid anew, with memory of their own. Conditions: those of each lemma. -/
namespace Go.Proofs.YtijninlbpifonaaGreatDoor
open E
set_option linter.unusedSimpArgs false
set_option linter.unusedVariables false
set_option maxRecDepth 100000
theorem mD : ∀ l : List yh, pA (yh.yb l) = true
 | [] => rfl
 | x :: l => by
  have := mD l
  unfold pA yh.yb at this ⊢
  rw [List.map_cons, List.all_cons, this]; rfl
theorem cQ (a : List zX) (x : zX) : zX.yb (a ++ [x]) = zX.yb a ++ [x.enc] := by simp [zX.yb]
def zPk : List V := [.t (.str []), .t (.str []), .t (.str []), .nil 2, .t (.bool false), .nil 1]
theorem VS (cs : List yh) (hl : cs.length ≤ 1048576) (hc : ∀ c ∈ cs, cp c) : EV Tryz.prog pol (.callO false 259 [.t (.list 2 (yh.yb cs))] []) = some (.call (.sl 0 0 cs.length (some cs.length)) [.ts 2 (yh.yb cs)]) := by
 refine ve Tryz.func259 rfl (by kernel_rfl) ?_
 unfold Tryz.f259
 have h1 : ¬ ((cs.length : Int) < 0) := by omega
 have h2 : ¬ (cs.length * 32 > 140737488355328) := by omega
 have h3 : ¬ (cs.length > 140737488355328) := by omega
 have hz : List.replicate cs.length [T.str [], .str []] = wj (yh.yb cs) WX 0 := by rw [tB, yh.zY]; rfl
 have IH := eP cs hl hc cs.length 0 (by omega) (by omega)
 simp only [Int.natCast_zero] at IH
 simp (disch := omega) only [E.mkS, ↓GO, ↓DRW, GA, ren, zG, zd, refs, zb, cst, zl, zM, z7, E.load, E.store, zL, isC, bin, zN, zO, una, z8, za, zh, zP, blt, fnV, asArg, ze, zn, zo, zj, zm, zg, zk, zu, z6, zK, zJ, E.mkS, zc, unN, zQ, zi, zw, zq, zC, zI, zf, zR, zr, GS, simprocAttr, yh.zY, Int.toNat_natCast, h1, h2, h3, hz, IH, ne_eq, not_true_eq_false]
def TO (x : zX) : Prop := EV Tryz.prog pol (.callO false 196 [.agg (x.enc.map .t)] []) = some (.call (.agg [.t (.str x.name), .t (.str x.version), .t (.str x.source), .sl 0 0 x.sums.length (some x.sums.length), .t (.bool x.dev), .sl 1 0 x.needs.length (some x.needs.length)]) [.ts 2 (yh.yb x.sums), .ts 1 (strs x.needs)])
theorem Qv (x : zX) (ho : x.yp ≤ 1048576) : TO x := by
 obtain ⟨name, version, source, sums, dev, needs⟩ := x
 simp only [zX.yp] at ho
 have d1 := VS sums (by omega) (fun c hc => R3 c (by have := yh.yw hc; omega))
 have d2 := dW needs (by omega)
 simp only [TO, zX.enc, List.map_cons, List.map_nil]
 refine ve Tryz.func196 rfl (by kernel_rfl) ?_
 unfold Tryz.f196
 simp (disch := ((try simp only [LL]); omega)) only [↓GO, ↓DRW, GA, ren, zG, zd, refs, zb, cst, zl, zM, z7, E.load, E.store, zL, isC, bin, zN, zO, una, z8, za, zh, zP, blt, fnV, asArg, ze, zn, zo, zj, zm, zg, zk, zu, z6, zK, zJ, E.mkS, zc, unN, zQ, zi, zw, zq, zC, zI, zf, zR, zr, GS, simprocAttr, uC, uD, WZ, cA, Yn, Ym, V0, gh1, cz, kA, jS, qt, mkO, jT, kB, nw, WY, vo, cy, ct, xS, oc, oTs, oT, wO, wO.rowTs, jP, isL, Bool.not_false, Bool.true_and, Bool.and_true, Bool.and_self, List.flatMap_append, List.map_append, List.set_cons_zero, List.set_cons_succ, GZ, d1, d2, y6]
theorem Tb (cs : List zX) (hl : cs.length ≤ 1048576) (hc : ∀ c ∈ cs, TO c) : ∀ (rest pre : List zX), cs = pre ++ rest →
 EV Tryz.prog pol (.loop 94 58 0 [.t (.list 6 (zX.yb cs)), .sl 0 0 cs.length (some cs.length), .t (.int .i64 (pre.length : Int))] [.vs 6 (ocE (zX.yb pre) ++ List.replicate rest.length zPk)])
  = some (.loop (.exit 0) [.sl 0 0 cs.length (some cs.length)] [.vs 6 (ocE (zX.yb cs))])
 | [], pre, hs => by
  have c : decide ((pre.length : Int) < (cs.length : Int)) = false := by simp [hs]
  have e : cs = pre := by simpa using hs
  have hA := uP (zX.yb pre)
  have hR := fun m => rm m (zX.yb pre)
  simp only [List.length_nil, List.replicate_zero, List.append_nil]
  refine zD Tryz.func94 rfl rfl ?_
  simp (disch := ((try simp only [LL]); omega)) only [↓GO, ↓DRW, GA, ren, zG, zd, refs, zb, cst, zl, zM, z7, E.load, E.store, zL, isC, bin, zN, zO, una, z8, za, zh, zP, blt, fnV, asArg, ze, zn, zo, zj, zm, zg, zk, zu, z6, zK, zJ, E.mkS, zc, unN, zQ, zi, zw, zq, zC, zI, zf, zR, zr, GS, simprocAttr, uC, uD, WZ, cA, Yn, Ym, V0, gh1, cz, kA, jS, qt, mkO, jT, kB, nw, WY, vo, cy, ct, xS, oc, oTs, oT, wO, wO.rowTs, jP, isL, Bool.not_false, Bool.true_and, Bool.and_true, Bool.and_self, List.flatMap_append, List.map_append, List.set_cons_zero, List.set_cons_succ, GZ, zX.zY, c, hA, hR]
  rw [e]
 | x :: rest, pre, hs => by
  have c : decide ((pre.length : Int) < (cs.length : Int)) = true := by simp [hs]; omega
  have hget : (zX.yb cs)[pre.length]? = some x.enc := by rw [hs]; simp [zX.yb]
  have hlen : pre.length + rest.length + 1 ≤ cs.length := by rw [hs]; simp; omega
  have hcx := hc x (by rw [hs]; simp)
  have c0 : decide ((0 : Int) ≤ (pre.length : Int)) = true := by simp
  have c00 : (0 : Int) ≤ (pre.length : Int) := by omega
  have IH := Tb cs hl hc rest (pre ++ [x]) (by rw [hs]; simp)
  rw [show ((pre ++ [x]).length : Int) = (pre.length : Int) + 1 by simp, cQ, Se, qU, Zt, List.append_assoc, List.cons_append, List.nil_append] at IH
  have hAl : (ocE (zX.yb pre)).length = pre.length := by rw [Zu, zX.zY]
  have hA := uP (zX.yb pre)
  have hR := fun m => rm m (zX.yb pre)
  have hB := l8 zPk rfl rest.length
  have hRB := fun m => Zi m zPk rfl rest.length
  rw [List.length_cons, List.replicate_succ]
  have hg1 := fun y => Sq (ocE (zX.yb pre)) (List.replicate rest.length zPk) y pre.length hAl
  have hs1 := fun y z => Sp (ocE (zX.yb pre)) (List.replicate rest.length zPk) y z pre.length hAl
  clear hs
  obtain ⟨name, version, source, sums, dev, needs⟩ := x
  have hf1 := mD sums
  have hf2 := mE needs
  simp only [TO, zX.enc, List.map_cons, List.map_nil, oc] at hcx hget IH
  generalize ocE (zX.yb pre) = A at *
  generalize List.replicate rest.length zPk = B at *
  unfold zPk
  refine zD Tryz.func94 rfl rfl ?_
  simp (disch := ((try simp only [LL]); omega)) only [↓GO, ↓DRW, GA, ren, zG, zd, refs, zb, cst, zl, zM, z7, E.load, E.store, zL, isC, bin, zN, zO, una, z8, za, zh, zP, blt, fnV, asArg, ze, zn, zo, zj, zm, zg, zk, zu, z6, zK, zJ, E.mkS, zc, unN, zQ, zi, zw, zq, zC, zI, zf, zR, zr, GS, simprocAttr, uC, uD, WZ, cA, Yn, Ym, V0, gh1, cz, kA, jS, qt, mkO, jT, kB, nw, WY, vo, cy, ct, xS, oc, oTs, oT, wO, wO.rowTs, jP, isL, Bool.not_false, Bool.true_and, Bool.and_true, Bool.and_self, List.flatMap_append, List.map_append, List.set_cons_zero, List.set_cons_succ, GZ, zX.zY, yh.zY, c, c0, c00, if_true, Int.toNat_natCast, hget, hcx, hg1, hs1, hA, hR, hB, hRB, zB, hf1, hf2, IH, zH, Zu, rm, uP, y6]
theorem bg (cs : List zX) (hl : cs.length ≤ 1048576) (hc : ∀ c ∈ cs, TO c) : EV Tryz.prog pol (.callO false 94 [.t (.list 6 (zX.yb cs))] []) = some (.call (.sl 0 0 cs.length (some cs.length)) [.vs 6 (ocE (zX.yb cs))]) := by
 refine ve Tryz.func94 rfl (by kernel_rfl) ?_
 unfold Tryz.f94
 have h1 : ¬ ((cs.length : Int) < 0) := by omega
 have h2 : ¬ (cs.length * 104 > 140737488355328) := by omega
 have h3 : ¬ (cs.length > 140737488355328) := by omega
 have L := Tb cs hl hc cs [] rfl
 simp only [List.length_nil, Int.natCast_zero, show zX.yb [] = [] from rfl, Zt, List.nil_append] at L
 have hB := l8 zPk rfl cs.length
 have hRB := fun m => Zi m zPk rfl cs.length
 unfold zPk at L hB hRB
 simp (disch := ((try simp only [LL]); omega)) only [↓GO, ↓DRW, GA, ren, zG, zd, refs, zb, cst, zl, zM, z7, E.load, E.store, zL, isC, bin, zN, zO, una, z8, za, zh, zP, blt, fnV, asArg, ze, zn, zo, zj, zm, zg, zk, zu, z6, zK, zJ, E.mkS, zc, unN, zQ, zi, zw, zq, zC, zI, zf, zR, zr, GS, simprocAttr, uC, uD, WZ, cA, Yn, Ym, V0, gh1, cz, kA, jS, qt, mkO, jT, kB, nw, WY, vo, cy, ct, xS, oc, oTs, oT, wO, wO.rowTs, jP, isL, Bool.not_false, Bool.true_and, Bool.and_true, Bool.and_self, List.flatMap_append, List.map_append, List.set_cons_zero, List.set_cons_succ, GZ, zX.zY, Int.toNat_natCast, h1, h2, h3, L, hB, hRB, rm, uP, ne_eq, not_true_eq_false, not_false_eq_true, y6]
/-- and as a value that nobody writes -/
def G7 (x : y8) : Prop := zE (EV Tryz.prog pol) 19 [.agg (x.enc.map .t)] = some (.agg (x.enc.map .t))
theorem Qw (x : y8) (ho : x.yp ≤ 1048576) : G7 x := by
 obtain ⟨top, packs⟩ := x
 simp only [y8.yp] at ho
 have d1 := dW top (by omega)
 have d2 := bg packs (by omega) (fun c hc => Qv c (by have := zX.yw hc; omega))
 have g := Tn (zX.yb packs)
 have ht : (zX.yb packs).take packs.length = zX.yb packs := by rw [← zX.zY packs]; simp
 have ht2 : (strs top).take top.length = strs top := by rw [← zH top]; simp
 simp only [G7, y8.enc, List.map_cons, List.map_nil]
 apply zz
 refine zA rfl Tryz.func19 rfl (by kernel_rfl) ?_
 unfold Tryz.f19
 simp (disch := ((try simp only [LL]); omega)) only [↓GO, ↓DRW, GA, ren, zG, zd, refs, zb, cst, zl, zM, z7, E.load, E.store, zL, isC, bin, zN, zO, una, z8, za, zh, zP, blt, fnV, asArg, ze, zn, zo, zj, zm, zg, zk, zu, z6, zK, zJ, E.mkS, zc, unN, zQ, zi, zw, zq, zC, zI, zf, zR, zr, GS, simprocAttr, uC, uD, WZ, cA, Yn, Ym, V0, gh1, cz, kA, jS, qt, mkO, jT, kB, nw, WY, vo, cy, ct, xS, oc, oTs, oT, wO, wO.rowTs, jP, isL, Bool.not_false, Bool.true_and, Bool.and_true, Bool.and_self, List.flatMap_append, List.map_append, List.set_cons_zero, List.set_cons_succ, GZ, d1, d2, g, ht, ht2, rm, uP, y6]
end Go.Proofs.YtijninlbpifonaaGreatDoor

/- Joined: V8 V4 V9 K20 K21 K22 I2 K7 K8 K23 K24 B10 W9. Conditions: those of each lemma. -/
import Derived.Test.YtmcephnfcciloaaGreatDoorUJ
import Derived.Test.YtmcephnfcciloaaGreatDoorUK
import Derived.Test.YtmcephnfcciloaaGreatDoorUH
set_option linter.unusedVariables false
set_option linter.unusedSimpArgs false
namespace Go.Proofs.YtmcephnfcciloaaGreatDoor
open E
set_option linter.unusedVariables false
set_option linter.unusedSimpArgs false
set_option maxRecDepth 100000
/-- a number's digits, none for zero -/
def dg (u : Nat) : Str := cond (u == 0) [] (Lib.decDigits u)
theorem oN : dg 0 = [] := rfl
theorem cH {u : Nat} (h : 0 < u) : dg u = Lib.decDigits u := by
  unfold dg; rw [show (u == 0) = false by simp; omega]; rfl
theorem jx {u : Nat} (h : 0 < u) : dg u = dg (u / 10) ++ [UInt8.ofNat (48 + u % 10)] := by
  rw [cH h, Lib.decDigits]
  split
  · rename_i h10
    rw [show u / 10 = 0 by omega, oN, show u % 10 = u by omega]; rfl
  · rename_i h10
    rw [cH (show 0 < u / 10 by omega)]
theorem jy : ∀ (n u : Nat), u ≤ n → 0 < u → ∃ c r, dg u = c :: r ∧ (c == 48) = false
  | 0, u, h, h0 => by omega
  | n + 1, u, h, h0 => by
    rw [jx h0]
    by_cases h1 : 0 < u / 10
    · obtain ⟨c, r, e1, e2⟩ := jy n (u / 10) (by omega) h1
      exact ⟨c, r ++ [UInt8.ofNat (48 + u % 10)], by rw [e1]; rfl, e2⟩
    · rw [show u / 10 = 0 by omega, oN]
      refine ⟨_, [], rfl, ?_⟩
      have key : ∀ k : Fin 10, k.val ≠ 0 → (UInt8.ofNat (48 + k.val) == 48) = false := by decide +kernel
      exact key ⟨u % 10, by omega⟩ (by simp only; omega)
def ltL (x y : Str) : Bool := decide (x.length < y.length) || (decide (x.length = y.length) && Op.bytesLess x y)
theorem Zf : ∀ x : Str, Op.bytesLess x [] = false
  | [] => rfl
  | _ :: _ => rfl
theorem jn : ∀ x : Str, Op.bytesLess x x = false
  | [] => rfl
  | a :: x => by rw [vH, jn x]; simp
theorem gX (a b : UInt8) : ∀ x y : Str, x.length = y.length → Op.bytesLess (x ++ [a]) (y ++ [b]) = (Op.bytesLess x y || (x == y && decide (a < b)))
  | [], [], _ => by
    simp only [List.nil_append]
    rw [vH]
    simp [Op.bytesLess]
  | [], _ :: _, h => by simp at h
  | _ :: _, [], h => by simp at h
  | c :: x, d :: y, h => by
    have ih := gX a b x y (by simpa using h)
    rw [List.cons_append, List.cons_append, vH, vH, ih]
    have e : ((c :: x) == (d :: y)) = (c == d && x == y) := rfl
    rw [e]
    cases decide (c < d) <;> cases (c == d) <;> cases Op.bytesLess x y <;> cases (x == y) <;> cases decide (a < b) <;> rfl
theorem X3 (a b : UInt8) (x y : Str) : ltL (x ++ [a]) (y ++ [b]) = (ltL x y || (x == y && decide (a < b))) := by
  unfold ltL
  simp only [List.length_append, List.length_cons, List.length_nil]
  by_cases h1 : x.length = y.length
  · rw [gX a b x y h1]
    have e1 : decide (x.length + 1 < y.length + 1) = false := by apply decide_eq_false; omega
    have e2 : decide (x.length < y.length) = false := by apply decide_eq_false; omega
    have e3 : decide (x.length + 1 = y.length + 1) = true := by apply decide_eq_true; omega
    have e4 : decide (x.length = y.length) = true := by apply decide_eq_true; exact h1
    simp only [Nat.zero_add, e1, e2, e3, e4, Bool.false_or, Bool.true_and]
  · have e : (x == y) = false := by rw [beq_eq_false_iff_ne]; intro h; exact h1 (by rw [h])
    have e3 : decide (x.length + 1 = y.length + 1) = false := by apply decide_eq_false; omega
    have e4 : decide (x.length = y.length) = false := by apply decide_eq_false; exact h1
    have e5 : decide (x.length + 1 < y.length + 1) = decide (x.length < y.length) := by
      rw [Bool.eq_iff_iff]; simp only [decide_eq_true_eq]; omega
    simp only [Nat.zero_add, e, e3, e4, e5, Bool.false_and, Bool.or_false]
theorem bE (x : Str) : ltL x x = false := by unfold ltL; rw [jn]; simp
theorem aS : ∀ (n u w : Nat), u + w ≤ n → ltL (dg u) (dg w) = decide (u < w)
  | 0, u, w, h => by
    have h1 : u = 0 := by omega
    have h2 : w = 0 := by omega
    subst h1; subst h2; rfl
  | n + 1, u, w, h => by
    by_cases hw : w = 0
    · subst hw
      rw [oN]
      unfold ltL
      rw [Zf]; simp
    · by_cases hu : u = 0
      · subst hu
        obtain ⟨c, r, e, _⟩ := jy w w (Nat.le_refl _) (by omega)
        rw [oN, e]
        unfold ltL
        simp; omega
      · rw [jx (show 0 < u by omega), jx (show 0 < w by omega), X3]
        have i1 := aS n (u / 10) (w / 10) (by omega)
        have i2 := aS n (w / 10) (u / 10) (by omega)
        have ed : decide (UInt8.ofNat (48 + u % 10) < UInt8.ofNat (48 + w % 10)) = decide (u % 10 < w % 10) := by
          have key : ∀ a b : Fin 10, decide (UInt8.ofNat (48 + a.val) < UInt8.ofNat (48 + b.val)) = decide (a.val < b.val) := by decide +kernel
          exact key ⟨u % 10, by omega⟩ ⟨w % 10, by omega⟩
        rw [i1, ed]
        by_cases he : u / 10 = w / 10
        · rw [he]
          simp only [beq_self_eq_true, Bool.true_and, Nat.lt_irrefl, decide_false, Bool.false_or]
          rw [Bool.eq_iff_iff]; simp only [decide_eq_true_eq]; omega
        · have hx : (dg (u / 10) == dg (w / 10)) = false := by
            rw [beq_eq_false_iff_ne]; intro hh
            rw [hh, bE] at i1
            rw [hh, bE] at i2
            have a1 := of_decide_eq_false i1.symm
            have a2 := of_decide_eq_false i2.symm
            omega
          rw [hx, Bool.false_and, Bool.or_false, Bool.eq_iff_iff]
          simp only [decide_eq_true_eq]; omega
/-- without zeros in front -/
def wb (s : Str) : Str := s.dropWhile (· == 48)
theorem oW (u : Nat) : wb (Lib.decDigits u) = dg u := by
  by_cases h : 0 < u
  · rw [← cH h]
    obtain ⟨c, r, e, e2⟩ := jy u u (Nat.le_refl _) h
    rw [e]; unfold wb; simp [List.dropWhile, e2]
  · have : u = 0 := by omega
    subst this
    rw [Lib.decDigits_one (by omega)]; rfl
def ay (a b : Str) : Int := cond (isNum a && isNum b)
  (cond (x9 ((wb a).length : Int) ((wb b).length : Int) == 0) (nN (wb a) (wb b)) (x9 ((wb a).length : Int) ((wb b).length : Int)))
  (cond (isNum a) (-1) (cond (isNum b) 1 (nN a b)))
theorem lY {a : Str} (h : wm a = true) : isNum a = decide (zO a ≥ 0) := by
  unfold wm at h
  simp only [Bool.and_eq_true, Bool.or_eq_true, Bool.not_eq_true', decide_eq_true_eq] at h
  rcases h.2.2 with h1 | h1
  · rw [h1]
    symm
    apply decide_eq_false
    intro hg
    obtain ⟨a1, _, _, a4⟩ := xp (s := a) hg
    unfold isNum at h1
    have e1 : (a == []) = false := by simpa using a4
    have e2 : a.all isD = true := by rw [List.all_eq_true]; exact a1
    rw [e1, e2] at h1; cases h1
  · have e : decide (zO a ≥ 0) = true := decide_eq_true h1
    rw [e]
    obtain ⟨a1, _, _, a4⟩ := xp (s := a) h1
    unfold isNum
    have e1 : (a == []) = false := by simpa using a4
    have e2 : a.all isD = true := by rw [List.all_eq_true]; exact a1
    rw [e1, e2]; rfl
theorem nG {a : Str} (h : zO a ≥ 0) : ∃ u : Nat, zO a = u ∧ a = Lib.decDigits u := by
  obtain ⟨_, a2, _, _⟩ := xp (s := a) h
  obtain ⟨u, hu⟩ : ∃ u : Nat, zO a = u := ⟨(zO a).toNat, by omega⟩
  refine ⟨u, hu, ?_⟩
  rw [hu, Lib.itoa_nonneg] at a2
  exact a2.symm
theorem Ux (u w : Nat) : cond (x9 ((dg u).length : Int) ((dg w).length : Int) == 0) (nN (dg u) (dg w)) (x9 ((dg u).length : Int) ((dg w).length : Int)) = x9 (u : Int) (w : Int) := by
  have h1 := aS (u + w) u w (Nat.le_refl _)
  have h2 := aS (u + w) w u (by omega)
  rw [uq]
  unfold ltL at h1 h2
  rcases Nat.lt_trichotomy u w with h | h | h
  · have e : decide (u < w) = true := decide_eq_true h
    rw [e] at h1
    have r : x9 (u : Int) (w : Int) = -1 := by unfold x9; rw [show decide ((u : Int) < (w : Int)) = true by apply decide_eq_true; omega]; rfl
    rw [r]
    rcases Nat.lt_trichotomy (dg u).length (dg w).length with g | g | g
    · have e1 : (((dg u).length : Int) == ((dg w).length : Int)) = false := by rw [beq_eq_false_iff_ne]; omega
      rw [e1, cond_false]
      unfold x9; rw [show decide (((dg u).length : Int) < ((dg w).length : Int)) = true by apply decide_eq_true; omega]; rfl
    · have e1 : (((dg u).length : Int) == ((dg w).length : Int)) = true := by rw [beq_iff_eq]; omega
      rw [e1, cond_true]
      have e2 : Op.bytesLess (dg u) (dg w) = true := by
        simp only [g, Nat.lt_irrefl, decide_false, Bool.false_or, decide_true, Bool.true_and] at h1; exact h1
      unfold nN; rw [e2]; rfl
    · exfalso
      have e1 : decide ((dg u).length < (dg w).length) = false := by apply decide_eq_false; omega
      have e2 : decide ((dg u).length = (dg w).length) = false := by apply decide_eq_false; omega
      rw [e1, e2] at h1; cases h1
  · subst h
    have e1 : (((dg u).length : Int) == ((dg u).length : Int)) = true := by simp
    rw [e1, cond_true]
    have r : x9 (u : Int) (u : Int) = 0 := by unfold x9; simp
    rw [r]; unfold nN; rw [jn]; simp
  · have e : decide (w < u) = true := decide_eq_true h
    rw [e] at h2
    have r : x9 (u : Int) (w : Int) = 1 := by
      unfold x9
      rw [show decide ((u : Int) < (w : Int)) = false by apply decide_eq_false; omega, show decide ((u : Int) > (w : Int)) = true by apply decide_eq_true; omega]; rfl
    rw [r]
    rcases Nat.lt_trichotomy (dg w).length (dg u).length with g | g | g
    · have e1 : (((dg u).length : Int) == ((dg w).length : Int)) = false := by rw [beq_eq_false_iff_ne]; omega
      rw [e1, cond_false]
      unfold x9
      rw [show decide (((dg u).length : Int) < ((dg w).length : Int)) = false by apply decide_eq_false; omega, show decide (((dg u).length : Int) > ((dg w).length : Int)) = true by apply decide_eq_true; omega]; rfl
    · have e1 : (((dg u).length : Int) == ((dg w).length : Int)) = true := by rw [beq_iff_eq]; omega
      rw [e1, cond_true]
      have e2 : Op.bytesLess (dg w) (dg u) = true := by
        simp only [g, Nat.lt_irrefl, decide_false, Bool.false_or, decide_true, Bool.true_and] at h2; exact h2
      have e3 := qz (dg u) (dg w)
      rw [e2] at e3
      have e4 : Op.bytesLess (dg u) (dg w) = false := by
        cases hh : Op.bytesLess (dg u) (dg w) with
        | false => rfl
        | true => rw [hh] at e3; cases e3
      unfold nN; rw [e3, e4]; rfl
    · exfalso
      have e1 : decide ((dg w).length < (dg u).length) = false := by apply decide_eq_false; omega
      have e2 : decide ((dg w).length = (dg u).length) = false := by apply decide_eq_false; omega
      rw [e1, e2] at h2; cases h2
theorem Uy {a b : Str} (ha : wm a = true) (hb : wm b = true) : ay a b = az a b := by
  unfold ay az
  rw [lY ha, lY hb]
  cases h1 : decide (zO a ≥ 0) <;> cases h2 : decide (zO b ≥ 0) <;> simp only [Bool.and_true, Bool.and_false, Bool.true_and, Bool.false_and, cond_true, cond_false]
  obtain ⟨u, e1, e2⟩ := nG (of_decide_eq_true h1)
  obtain ⟨w, e3, e4⟩ := nG (of_decide_eq_true h2)
  rw [e1, e3, e2, e4, oW, oW]
  exact Ux u w
def sL : List Str → List Str → Option Int
  | a :: l, b :: m => cond (ay a b == 0) (sL l m) (some (ay a b))
  | _, _ => none
theorem gk : ∀ {a b : List Str}, (∀ x ∈ a, wm x = true) → (∀ x ∈ b, wm x = true) → sL a b = rI a b
  | [], _, _, _ => by unfold sL rI; rfl
  | _ :: _, [], _, _ => rfl
  | x :: a, y :: b, ha, hb => by
    rw [sL, rI, Uy (ha x (by simp)) (hb y (by simp)), gk (fun z hz => ha z (by simp [hz])) (fun z hz => hb z (by simp [hz]))]
def pq (a b : Ver) : Int :=
  cond (x9 a.maj b.maj == 0) (cond (x9 a.min b.min == 0) (cond (x9 a.pat b.pat == 0)
    (cond ((a.pre == []) != (b.pre == [])) (x9 (b.pre.length : Int) (a.pre.length : Int)) ((sL a.pre b.pre).getD (x9 (a.pre.length : Int) (b.pre.length : Int))))
    (x9 a.pat b.pat)) (x9 a.min b.min)) (x9 a.maj b.maj)
theorem ax {a b : Ver} (ha : yv a = true) (hb : yv b = true) : pq a b = rN a b := by
  have h1 := (w6 ha).2.2.2.1
  have h2 := (w6 hb).2.2.2.1
  rw [List.all_eq_true] at h1 h2
  have hs := gk h1 h2
  unfold pq rN VE
  rw [hs]
  congr 3
  cases hx : a.pre with
  | nil =>
    cases hy : b.pre with
    | nil => rfl
    | cons y l => rfl
  | cons x k =>
    cases hy : b.pre with
    | nil => rfl
    | cons y l => rfl
end Go.Proofs.YtmcephnfcciloaaGreatDoor
/- The tables of a graph, plain. Conditions: none. -/
namespace Go.Proofs.YtmcephnfcciloaaGreatDoor
open E
set_option linter.unusedVariables false
set_option linter.unusedSimpArgs false
set_option maxRecDepth 100000
end Go.Proofs.YtmcephnfcciloaaGreatDoor
/- What is in a range, what notices tell: plain; both ways come to the same. Conditions: none. -/
namespace Go.Proofs.YtmcephnfcciloaaGreatDoor
open E
set_option linter.unusedVariables false
set_option linter.unusedSimpArgs false
set_option maxRecDepth 100000
theorem ef : ∀ a b : Str, Lib.compareBytes a b = nN a b
  | [], [] => rfl
  | [], _ :: _ => rfl
  | _ :: _, [] => by simp [Lib.compareBytes, nN, Op.bytesLess]
  | a :: x, b :: y => by
    have ih := ef x y
    unfold nN at ih ⊢
    rw [Lib.compareBytes, vH, show ((a :: x) == (b :: y)) = (a == b && x == y) from rfl]
    by_cases h1 : a < b
    · rw [if_pos h1]; simp [h1]
    · rw [if_neg h1]
      by_cases h2 : b < a
      · have h3 : (a == b) = false := by
          rw [beq_eq_false_iff_ne]; intro h; subst h; exact h1 h2
        rw [if_pos h2]; simp [h1, h3]
      · have h3 : a = b := by
          apply UInt8.toNat_inj.1; simp only [UInt8.lt_iff_toNat_lt] at h1 h2; omega
        subst h3
        rw [if_neg h2, ih]
        simp only [decide_false, h1, Bool.false_or, beq_self_eq_true, Bool.true_and]
def aM (v l : Ver) : Bool := !(l.pre == []) && (l.maj == v.maj && (l.min == v.min && l.pat == v.pat))
def vL (v : Ver) (b : Bd) : Bool :=
  cond (((zA b.1).2 && decide (rN v (zA b.1).1 < 0)) || ((zA b.2).2 && decide (rN v (zA b.2).1 ≥ 0))) false
    (v.pre == [] || ((zA b.1).2 && aM v (zA b.1).1))
def pr (v : Ver) (b : Bd) : Bool :=
  cond ((!(b.1 == []) && decide (pq v (zA b.1).1 < 0)) || (!(b.2 == []) && decide (pq v (zA b.2).1 ≥ 0))) false
    (v.pre == [] || aM v (zA b.1).1)
theorem fl {s : Str} (h : isE s = true) : (!(s == [])) = (zA s).2 := by
  unfold isE at h
  cases hs : (s == []) with
  | false =>
    rw [hs, Bool.or_false] at h
    unfold isV at h
    rw [h]; rfl
  | true =>
    have : s = [] := by simpa using hs
    subst this
    cases hr : (zA []).2 with
    | false => rfl
    | true => exact absurd rfl (yu hr).2.2.2
theorem eN {v : Ver} (hv : yv v = true) {b : Bd} (h1 : isE b.1 = true) (h2 : isE b.2 = true) : pr v b = vL v b := by
  unfold pr vL
  rw [fl h1, fl h2]
  have e1 : ((zA b.1).2 && decide (pq v (zA b.1).1 < 0)) = ((zA b.1).2 && decide (rN v (zA b.1).1 < 0)) := by
    cases hr : (zA b.1).2 with
    | false => rfl
    | true => rw [ax hv (yu hr).2.2.1]
  have e2 : ((zA b.2).2 && decide (pq v (zA b.2).1 ≥ 0)) = ((zA b.2).2 && decide (rN v (zA b.2).1 ≥ 0)) := by
    cases hr : (zA b.2).2 with
    | false => rfl
    | true => rw [ax hv (yu hr).2.2.1]
  have e3 : aM v (zA b.1).1 = ((zA b.1).2 && aM v (zA b.1).1) := by
    cases hr : (zA b.1).2 with
    | false => rw [mY hr]; rfl
    | true => rfl
  rw [e1, e2, ← e3]
/-- is a version in a range? -/
def inB (s : Str) (l : List Bd) : Bool := (zA s).2 && (xk l && l.any (vL (zA s).1))
theorem ew {v : Ver} (hv : yv v = true) : ∀ (l : List Bd), (l.all fun b => isE b.1 && isE b.2) = true → l.any (pr v) = l.any (vL v)
  | [], _ => rfl
  | b :: l, h => by
    simp only [List.all_cons, Bool.and_eq_true] at h
    rw [List.any_cons, List.any_cons, eN hv h.1.1 h.1.2, ew hv l h.2]
def qW (x : zt) : Bool := (wq x.range).isSome && (vj x.name && (wz x.text && !(x.text == [])))
def afT (n : zt) (name ver : Str) : Bool := qW n && (n.name == name && inB ver ((wq n.range).getD []))
/-- what notices tell of a graph -/
def x8 (ns : List zt) (ps : List zL) : List Str := ps.flatMap fun p => (ns.filter fun n => afT n p.name p.version).map fun n => (keyOf p ++ [32]) ++ n.text
end Go.Proofs.YtmcephnfcciloaaGreatDoor
/- Versions compared by the implementation; what is in a range, by both; what a notice tells of. Conditions: those of each lemma. -/
namespace Go.Proofs.YtmcephnfcciloaaGreatDoor
open E
set_option linter.unusedSimpArgs false
set_option linter.unusedVariables false
set_option maxRecDepth 100000
theorem vz (a b : Int) : zE (EV Tryz.prog pol) 166 [.t (.int .i64 a), .t (.int .i64 b)] = some (.t (.int .i64 (x9 a b))) := by
  unfold x9
  cases h1 : decide (a < b) <;> cases h2 : decide (a > b)
  all_goals
    apply zu
    refine zw rfl Tryz.func166 rfl (by kernel_rfl) ?_
    unfold Tryz.f166
    simp (disch := ((try simp only [LL]); omega)) only [↓GO, ↓DRW, GA, ren, zB, zd, refs, zb, cst, zl, zH, z7, E.load, E.store, zG, isC, bin, zI, zJ, una, z8, za, zh, zK, blt, fnV, asArg, ze, zn, zo, zj, zi, zg, zk, zr, z6, zD, zF, E.mkS, zc, unN, zM, zm, zy, zC, zf, zN, zq, GS, simprocAttr, GZ, h1, h2]
theorem bH : ∀ s : Str, s.length ≤ 4194304 → EV Tryz.prog pol (.loop 208 12 0 [.t (.str s), .t (.int .u8 48)] []) = some (.loop (.exit 0) [.t (.str (wb s))] [])
  | [], _ => by
    refine zz Tryz.func208 rfl rfl ?_
    simp (disch := ((try simp only [LL]); omega)) only [↓GO, ↓DRW, GA, ren, zB, zd, refs, zb, cst, zl, zH, z7, E.load, E.store, zG, isC, bin, zI, zJ, una, z8, za, zh, zK, blt, fnV, asArg, ze, zn, zo, zj, zi, zg, zk, zr, z6, zD, zF, E.mkS, zc, unN, zM, zm, zy, zC, zf, zN, zq, GS, simprocAttr, GZ, List.length_nil, Int.natCast_zero]
    rfl
  | b :: s, h => by
    have c : decide (((s.length + 1 : Nat) : Int) > 0) = true := by apply decide_eq_true; omega
    have hb : ((b.toNat : Int) == 48) = (b == 48) := by
      rw [Bool.eq_iff_iff]
      simp only [beq_iff_eq]
      constructor
      · intro h; apply UInt8.toNat_inj.1; have : (48 : UInt8).toNat = 48 := rfl; omega
      · intro h; subst h; rfl
    have hcut : (1 : Int) ≤ ((s.length + 1 : Nat) : Int) := by omega
    cases hz : (b == 48) with
    | false =>
      rw [hz] at hb
      have e : wb (b :: s) = b :: s := by unfold wb; simp [List.dropWhile, hz]
      rw [e]
      refine zz Tryz.func208 rfl rfl ?_
      simp (disch := ((try simp only [LL]); omega)) only [↓GO, ↓DRW, GA, ren, zB, zd, refs, zb, cst, zl, zH, z7, E.load, E.store, zG, isC, bin, zI, zJ, una, z8, za, zh, zK, blt, fnV, asArg, ze, zn, zo, zj, zi, zg, zk, zr, z6, zD, zF, E.mkS, zc, unN, zM, zm, zy, zC, zf, zN, zq, GS, simprocAttr, GZ, c, hb, hcut]
    | true =>
      rw [hz] at hb
      have IH := bH s (by simp only [List.length_cons] at h; omega)
      have e : wb (b :: s) = wb s := by unfold wb; simp [List.dropWhile, hz]
      rw [e]
      refine zz Tryz.func208 rfl rfl ?_
      simp (disch := ((try simp only [LL]); omega)) only [↓GO, ↓DRW, GA, ren, zB, zd, refs, zb, cst, zl, zH, z7, E.load, E.store, zG, isC, bin, zI, zJ, una, z8, za, zh, zK, blt, fnV, asArg, ze, zn, zo, zj, zi, zg, zk, zr, z6, zD, zF, E.mkS, zc, unN, zM, zm, zy, zC, zf, zN, zq, GS, simprocAttr, GZ, c, hb, hcut, IH]
theorem aA (s : Str) (h : s.length ≤ 4194304) : zE (EV Tryz.prog pol) 190 [.t (.str s), .t (.str [48])] = some (.t (.str (wb s))) := by
  have L := bH s h
  have d : zE (EV Tryz.prog pol) 208 [.t (.str s), .t (.int .u8 48)] = some (.t (.str (wb s))) := by
    apply zu
    refine zw rfl Tryz.func208 rfl (by kernel_rfl) ?_
    unfold Tryz.f208
    simp (disch := ((try simp only [LL]); omega)) only [↓GO, ↓DRW, GA, ren, zB, zd, refs, zb, cst, zl, zH, z7, E.load, E.store, zG, isC, bin, zI, zJ, una, z8, za, zh, zK, blt, fnV, asArg, ze, zn, zo, zj, zi, zg, zk, zr, z6, zD, zF, E.mkS, zc, unN, zM, zm, zy, zC, zf, zN, zq, GS, simprocAttr, GZ, L]
  cases hs : (s == []) with
  | true =>
    have : s = [] := by simpa using hs
    subst this
    apply zu
    refine zw rfl Tryz.func190 rfl (by kernel_rfl) ?_
    unfold Tryz.f190
    simp (disch := ((try simp only [LL]); omega)) only [↓GO, ↓DRW, GA, ren, zB, zd, refs, zb, cst, zl, zH, z7, E.load, E.store, zG, isC, bin, zI, zJ, una, z8, za, zh, zK, blt, fnV, asArg, ze, zn, zo, zj, zi, zg, zk, zr, z6, zD, zF, E.mkS, zc, unN, zM, zm, zy, zC, zf, zN, zq, GS, simprocAttr, GZ, hs]
    rfl
  | false =>
    have h48 : (([48] : Str) == []) = false := rfl
    have h49 : ((UInt8.toNat 48 : Nat) : Int) = 48 := rfl
    have h50 : decide ((48 : Int) < 128) = true := rfl
    apply zu
    refine zw rfl Tryz.func190 rfl (by kernel_rfl) ?_
    unfold Tryz.f190
    simp (disch := ((try simp only [LL]); omega)) only [↓GO, ↓DRW, GA, ren, zB, zd, refs, zb, cst, zl, zH, z7, E.load, E.store, zG, isC, bin, zI, zJ, una, z8, za, zh, zK, blt, fnV, asArg, ze, zn, zo, zj, zi, zg, zk, zr, z6, zD, zF, E.mkS, zc, unN, zM, zm, zy, zC, zf, zN, zq, GS, simprocAttr, GZ, hs, h48, h49, h50, d, List.length_cons, List.length_nil]
theorem XA (a b : Str) (ha : a.length ≤ 4194304) (hb : b.length ≤ 4194304) : zE (EV Tryz.prog pol) 167 [.t (.str a), .t (.str b)] = some (.t (.int .i64 (ay a b))) := by
  have d1 := jD a (by omega)
  have d2 := jD b (by omega)
  have d3 := aA a ha
  have d4 := aA b hb
  have d5 := vz ((wb a).length : Int) ((wb b).length : Int)
  have d6 := Vo a b
  have d7 := Vo (wb a) (wb b)
  rw [ef] at d6 d7
  unfold ay
  generalize wb a = ta at *
  generalize wb b = tb at *
  generalize x9 (ta.length : Int) (tb.length : Int) = n at *
  cases h1 : isNum a <;> cases h2 : isNum b <;> rw [h1] at d1 <;> rw [h2] at d2 <;> simp only [Bool.and_true, Bool.and_false, cond_true, cond_false]
  · apply zu
    refine zw rfl Tryz.func167 rfl (by kernel_rfl) ?_
    unfold Tryz.f167
    simp (disch := ((try simp only [LL]); omega)) only [↓GO, ↓DRW, GA, ren, zB, zd, refs, zb, cst, zl, zH, z7, E.load, E.store, zG, isC, bin, zI, zJ, una, z8, za, zh, zK, blt, fnV, asArg, ze, zn, zo, zj, zi, zg, zk, zr, z6, zD, zF, E.mkS, zc, unN, zM, zm, zy, zC, zf, zN, zq, GS, simprocAttr, GZ, d1, d2, d6]
  · apply zu
    refine zw rfl Tryz.func167 rfl (by kernel_rfl) ?_
    unfold Tryz.f167
    simp (disch := ((try simp only [LL]); omega)) only [↓GO, ↓DRW, GA, ren, zB, zd, refs, zb, cst, zl, zH, z7, E.load, E.store, zG, isC, bin, zI, zJ, una, z8, za, zh, zK, blt, fnV, asArg, ze, zn, zo, zj, zi, zg, zk, zr, z6, zD, zF, E.mkS, zc, unN, zM, zm, zy, zC, zf, zN, zq, GS, simprocAttr, GZ, d1, d2, d6]
  · apply zu
    refine zw rfl Tryz.func167 rfl (by kernel_rfl) ?_
    unfold Tryz.f167
    simp (disch := ((try simp only [LL]); omega)) only [↓GO, ↓DRW, GA, ren, zB, zd, refs, zb, cst, zl, zH, z7, E.load, E.store, zG, isC, bin, zI, zJ, una, z8, za, zh, zK, blt, fnV, asArg, ze, zn, zo, zj, zi, zg, zk, zr, z6, zD, zF, E.mkS, zc, unN, zM, zm, zy, zC, zf, zN, zq, GS, simprocAttr, GZ, d1, d2, d6]
  · cases hn : (n == 0)
    all_goals
      simp only [cond_true, cond_false]
      apply zu
      refine zw rfl Tryz.func167 rfl (by kernel_rfl) ?_
      unfold Tryz.f167
      simp (disch := ((try simp only [LL]); omega)) only [↓GO, ↓DRW, GA, ren, zB, zd, refs, zb, cst, zl, zH, z7, E.load, E.store, zG, isC, bin, zI, zJ, una, z8, za, zh, zK, blt, fnV, asArg, ze, zn, zo, zj, zi, zg, zk, zr, z6, zD, zF, E.mkS, zc, unN, zM, zm, zy, zC, zf, zN, zq, GS, simprocAttr, GZ, d1, d2, d3, d4, d5, d7, hn, bne]
theorem Uj (x1 x2 x3 x4 y1 y2 y3 y4 : T) (a b c : Int) :
    EV Tryz.prog pol (.loop 137 26 0 [.ptr 0 0 0, .ptr 1 0 0, .sl 2 0 3 (some 3), .t (.int .i64 3), .t (.int .i64 0)] [.vs 4 [[.t x1, .t x2, .t x3, .t x4]], .vs 4 [[.t y1, .t y2, .t y3, .t y4]], .ts 1 [[.int .i64 a], [.int .i64 b], [.int .i64 c]]])
    = some (cond (a == 0) (cond (b == 0) (cond (c == 0) (.loop (.exit 0) [.ptr 0 0 0, .ptr 1 0 0, .bad] [.vs 4 [[.t x1, .t x2, .t x3, .t x4]], .vs 4 [[.t y1, .t y2, .t y3, .t y4]]])
      (.loop .ret [.ptr 0 0 0, .ptr 1 0 0, .t (.int .i64 c)] [.vs 4 [[.t x1, .t x2, .t x3, .t x4]], .vs 4 [[.t y1, .t y2, .t y3, .t y4]]]))
      (.loop .ret [.ptr 0 0 0, .ptr 1 0 0, .t (.int .i64 b)] [.vs 4 [[.t x1, .t x2, .t x3, .t x4]], .vs 4 [[.t y1, .t y2, .t y3, .t y4]]]))
      (.loop .ret [.ptr 0 0 0, .ptr 1 0 0, .t (.int .i64 a)] [.vs 4 [[.t x1, .t x2, .t x3, .t x4]], .vs 4 [[.t y1, .t y2, .t y3, .t y4]]])) := by
  cases h1 : (a == 0)
  · refine zz Tryz.func137 rfl rfl ?_
    simp (disch := ((try simp only [LL]); omega)) only [↓GO, ↓DRW, GA, ren, zB, zd, refs, zb, cst, zl, zH, z7, E.load, E.store, zG, isC, bin, zI, zJ, una, z8, za, zh, zK, blt, fnV, asArg, ze, zn, zo, zj, zi, zg, zk, zr, z6, zD, zF, E.mkS, zc, unN, zM, zm, zy, zC, zf, zN, zq, GS, simprocAttr, GZ, h1, bne, zx, zY]
  · refine zz Tryz.func137 rfl rfl ?_
    simp (disch := ((try simp only [LL]); omega)) only [↓GO, ↓DRW, GA, ren, zB, zd, refs, zb, cst, zl, zH, z7, E.load, E.store, zG, isC, bin, zI, zJ, una, z8, za, zh, zK, blt, fnV, asArg, ze, zn, zo, zj, zi, zg, zk, zr, z6, zD, zF, E.mkS, zc, unN, zM, zm, zy, zC, zf, zN, zq, GS, simprocAttr, GZ, h1, bne, zx, zY, Int.zero_add]
    cases h2 : (b == 0)
    · refine zz Tryz.func137 rfl rfl ?_
      simp (disch := ((try simp only [LL]); omega)) only [↓GO, ↓DRW, GA, ren, zB, zd, refs, zb, cst, zl, zH, z7, E.load, E.store, zG, isC, bin, zI, zJ, una, z8, za, zh, zK, blt, fnV, asArg, ze, zn, zo, zj, zi, zg, zk, zr, z6, zD, zF, E.mkS, zc, unN, zM, zm, zy, zC, zf, zN, zq, GS, simprocAttr, GZ, h2, bne, zx, zY]
    · refine zz Tryz.func137 rfl rfl ?_
      simp (disch := ((try simp only [LL]); omega)) only [↓GO, ↓DRW, GA, ren, zB, zd, refs, zb, cst, zl, zH, z7, E.load, E.store, zG, isC, bin, zI, zJ, una, z8, za, zh, zK, blt, fnV, asArg, ze, zn, zo, zj, zi, zg, zk, zr, z6, zD, zF, E.mkS, zc, unN, zM, zm, zy, zC, zf, zN, zq, GS, simprocAttr, GZ, h2, bne, zx, zY, Int.reduceAdd]
      cases h3 : (c == 0)
      · refine zz Tryz.func137 rfl rfl ?_
        simp (disch := ((try simp only [LL]); omega)) only [↓GO, ↓DRW, GA, ren, zB, zd, refs, zb, cst, zl, zH, z7, E.load, E.store, zG, isC, bin, zI, zJ, una, z8, za, zh, zK, blt, fnV, asArg, ze, zn, zo, zj, zi, zg, zk, zr, z6, zD, zF, E.mkS, zc, unN, zM, zm, zy, zC, zf, zN, zq, GS, simprocAttr, GZ, h3, bne, zx, zY]
      · refine zz Tryz.func137 rfl rfl ?_
        simp (disch := ((try simp only [LL]); omega)) only [↓GO, ↓DRW, GA, ren, zB, zd, refs, zb, cst, zl, zH, z7, E.load, E.store, zG, isC, bin, zI, zJ, una, z8, za, zh, zK, blt, fnV, asArg, ze, zn, zo, zj, zi, zg, zk, zr, z6, zD, zF, E.mkS, zc, unN, zM, zm, zy, zC, zf, zN, zq, GS, simprocAttr, GZ, h3, bne, zx, zY, Int.reduceAdd]
        refine zz Tryz.func137 rfl rfl ?_
        simp (disch := ((try simp only [LL]); omega)) only [↓GO, ↓DRW, GA, ren, zB, zd, refs, zb, cst, zl, zH, z7, E.load, E.store, zG, isC, bin, zI, zJ, una, z8, za, zh, zK, blt, fnV, asArg, ze, zn, zo, zj, zi, zg, zk, zr, z6, zD, zF, E.mkS, zc, unN, zM, zm, zy, zC, zf, zN, zq, GS, simprocAttr, GZ, zx, zY]
theorem bS (a b : Ver) (ha : a.sm) (hb : b.sm) (M : Nat) (hM : M = min a.pre.length b.pre.length) : ∀ (ra rb pa pb : List Str), a.pre = pa ++ ra → b.pre = pb ++ rb → pa.length = pb.length →
    EV Tryz.prog pol (.loop 137 122 0 [.ptr 0 0 0, .ptr 1 0 0, .t (.int .i64 (M : Int)), .t (.int .i64 (pa.length : Int))] [.vs 4 [a.enc.map .t], .vs 4 [b.enc.map .t]])
    = some (match sL ra rb with
      | some n => .loop .ret [.ptr 0 0 0, .ptr 1 0 0, .t (.int .i64 n)] [.vs 4 [a.enc.map .t], .vs 4 [b.enc.map .t]]
      | none => .loop (.exit 2) [.ptr 0 0 0, .ptr 1 0 0, .bad] [.vs 4 [a.enc.map .t], .vs 4 [b.enc.map .t]])
  | [], rb, pa, pb, h1, h2, h3 => by
    have l1 : a.pre.length = pa.length := by rw [h1]; simp
    have c : decide ((pa.length : Int) < (M : Int)) = false := by apply decide_eq_false; omega
    have e : sL [] rb = none := by unfold sL; rfl
    rw [e]
    simp only [Ver.enc, List.map_cons, List.map_nil]
    refine zz Tryz.func137 rfl rfl ?_
    simp (disch := ((try simp only [LL]); omega)) only [↓GO, ↓DRW, GA, ren, zB, zd, refs, zb, cst, zl, zH, z7, E.load, E.store, zG, isC, bin, zI, zJ, una, z8, za, zh, zK, blt, fnV, asArg, ze, zn, zo, zj, zi, zg, zk, zr, z6, zD, zF, E.mkS, zc, unN, zM, zm, zy, zC, zf, zN, zq, GS, simprocAttr, GZ, zP, c, zY]
  | x :: ra, [], pa, pb, h1, h2, h3 => by
    have l2 : b.pre.length = pb.length := by rw [h2]; simp
    have c : decide ((pa.length : Int) < (M : Int)) = false := by apply decide_eq_false; omega
    rw [show sL (x :: ra) [] = none from rfl]
    simp only [Ver.enc, List.map_cons, List.map_nil]
    refine zz Tryz.func137 rfl rfl ?_
    simp (disch := ((try simp only [LL]); omega)) only [↓GO, ↓DRW, GA, ren, zB, zd, refs, zb, cst, zl, zH, z7, E.load, E.store, zG, isC, bin, zI, zJ, una, z8, za, zh, zK, blt, fnV, asArg, ze, zn, zo, zj, zi, zg, zk, zr, z6, zD, zF, E.mkS, zc, unN, zM, zm, zy, zC, zf, zN, zq, GS, simprocAttr, GZ, zP, c, zY]
  | x :: ra, y :: rb, pa, pb, h1, h2, h3 => by
    unfold Ver.sm at ha hb
    have l1 : pa.length + ra.length + 1 = a.pre.length := by rw [h1]; simp; omega
    have l2 : pb.length + rb.length + 1 = b.pre.length := by rw [h2]; simp; omega
    have c : decide ((pa.length : Int) < (M : Int)) = true := by apply decide_eq_true; omega
    have hg1 : (y6 a.pre)[pa.length]? = some [.str x] := by rw [h1]; exact xU pa x ra
    have hg2 : (y6 b.pre)[pa.length]? = some [.str y] := by rw [h2, h3]; exact xU pb y rb
    have hx : x.length ≤ 2097152 := by have := xX (ks := a.pre) (s := x) (by rw [h1]; simp); omega
    have hy : y.length ≤ 2097152 := by have := xX (ks := b.pre) (s := y) (by rw [h2]; simp); omega
    have hp := XA x y (by omega) (by omega)
    have IH := bS a b ha hb M hM ra rb (pa ++ [x]) (pb ++ [y]) (by rw [h1]; simp) (by rw [h2]; simp) (by simp [h3])
    rw [show ((pa ++ [x]).length : Int) = (pa.length : Int) + 1 by simp] at IH
    clear h1 h2
    simp only [Ver.enc, List.map_cons, List.map_nil] at IH ⊢
    rw [sL]
    generalize ay x y = n at *
    cases hn : (n == 0)
    · simp only [cond_false]
      refine zz Tryz.func137 rfl rfl ?_
      simp (disch := ((try simp only [LL]); omega)) only [↓GO, ↓DRW, GA, ren, zB, zd, refs, zb, cst, zl, zH, z7, E.load, E.store, zG, isC, bin, zI, zJ, una, z8, za, zh, zK, blt, fnV, asArg, ze, zn, zo, zj, zi, zg, zk, zr, z6, zD, zF, E.mkS, zc, unN, zM, zm, zy, zC, zf, zN, zq, GS, simprocAttr, GZ, zP, c, hg1, hg2, hp, hn, bne, zx, zY]
    · simp only [cond_true]
      refine zz Tryz.func137 rfl rfl ?_
      simp (disch := ((try simp only [LL]); omega)) only [↓GO, ↓DRW, GA, ren, zB, zd, refs, zb, cst, zl, zH, z7, E.load, E.store, zG, isC, bin, zI, zJ, una, z8, za, zh, zK, blt, fnV, asArg, ze, zn, zo, zj, zi, zg, zk, zr, z6, zD, zF, E.mkS, zc, unN, zM, zm, zy, zC, zf, zN, zq, GS, simprocAttr, GZ, zP, c, hg1, hg2, hp, hn, bne, zx, zY, IH]
theorem US (a b : Ver) (ha : a.sm) (hb : b.sm) : zE (EV Tryz.prog pol) 137 [.agg (a.enc.map .t), .agg (b.enc.map .t)] = some (.t (.int .i64 (pq a b))) := by
  have d1 := vz a.maj b.maj
  have d2 := vz a.min b.min
  have d3 := vz a.pat b.pat
  have d4 := vz (b.pre.length : Int) (a.pre.length : Int)
  have d5 := vz (a.pre.length : Int) (b.pre.length : Int)
  obtain ⟨M, hM⟩ : ∃ M, M = min a.pre.length b.pre.length := ⟨_, rfl⟩
  have L2 := bS a b ha hb M hM a.pre b.pre [] [] rfl rfl rfl
  have L1 := Uj (.int .i64 a.maj) (.int .i64 a.min) (.int .i64 a.pat) (.list 1 (y6 a.pre)) (.int .i64 b.maj) (.int .i64 b.min) (.int .i64 b.pat) (.list 1 (y6 b.pre)) (x9 a.maj b.maj) (x9 a.min b.min) (x9 a.pat b.pat)
  have e1 := u0 a.pre
  have e2 := u0 b.pre
  have hm : (if (b.pre.length : Int) < (a.pre.length : Int) then (b.pre.length : Int) else (a.pre.length : Int)) = (M : Int) := by split <;> omega
  clear hM
  unfold pq
  simp only [List.length_nil, Int.natCast_zero] at L2
  simp only [Ver.enc, List.map_cons, List.map_nil] at L1 L2 ⊢
  generalize x9 a.maj b.maj = n1 at *
  generalize x9 a.min b.min = n2 at *
  generalize x9 a.pat b.pat = n3 at *
  cases h1 : (n1 == 0) <;> rw [h1] at L1
  · simp only [cond_false] at L1
    apply zu
    refine zw rfl Tryz.func137 rfl (by kernel_rfl) ?_
    unfold Tryz.f137
    simp (disch := ((try simp only [LL]); omega)) only [↓GO, ↓DRW, GA, ren, zB, zd, refs, zb, cst, zl, zH, z7, E.load, E.store, zG, isC, bin, zI, zJ, una, z8, za, zh, zK, blt, fnV, asArg, ze, zn, zo, zj, zi, zg, zk, zr, z6, zD, zF, E.mkS, zc, unN, zM, zm, zy, zC, zf, zN, zq, GS, simprocAttr, GZ, d1, d2, d3, L1, zY]
    refine yT (by kernel_rfl) ?_
    simp (disch := ((try simp only [LL]); omega)) only [↓GO, ↓DRW, GA, ren, zB, zd, refs, zb, cst, zl, zH, z7, E.load, E.store, zG, isC, bin, zI, zJ, una, z8, za, zh, zK, blt, fnV, asArg, ze, zn, zo, zj, zi, zg, zk, zr, z6, zD, zF, E.mkS, zc, unN, zM, zm, zy, zC, zf, zN, zq, GS, simprocAttr, GZ, d1, d2, d3, L1, zY]
  · cases h2 : (n2 == 0) <;> rw [h2] at L1
    · simp only [cond_false, cond_true] at L1
      apply zu
      refine zw rfl Tryz.func137 rfl (by kernel_rfl) ?_
      unfold Tryz.f137
      simp (disch := ((try simp only [LL]); omega)) only [↓GO, ↓DRW, GA, ren, zB, zd, refs, zb, cst, zl, zH, z7, E.load, E.store, zG, isC, bin, zI, zJ, una, z8, za, zh, zK, blt, fnV, asArg, ze, zn, zo, zj, zi, zg, zk, zr, z6, zD, zF, E.mkS, zc, unN, zM, zm, zy, zC, zf, zN, zq, GS, simprocAttr, GZ, d1, d2, d3, L1, zY]
      refine yT (by kernel_rfl) ?_
      simp (disch := ((try simp only [LL]); omega)) only [↓GO, ↓DRW, GA, ren, zB, zd, refs, zb, cst, zl, zH, z7, E.load, E.store, zG, isC, bin, zI, zJ, una, z8, za, zh, zK, blt, fnV, asArg, ze, zn, zo, zj, zi, zg, zk, zr, z6, zD, zF, E.mkS, zc, unN, zM, zm, zy, zC, zf, zN, zq, GS, simprocAttr, GZ, d1, d2, d3, L1, zY]
    · cases h3 : (n3 == 0) <;> rw [h3] at L1
      · simp only [cond_false, cond_true] at L1
        apply zu
        refine zw rfl Tryz.func137 rfl (by kernel_rfl) ?_
        unfold Tryz.f137
        simp (disch := ((try simp only [LL]); omega)) only [↓GO, ↓DRW, GA, ren, zB, zd, refs, zb, cst, zl, zH, z7, E.load, E.store, zG, isC, bin, zI, zJ, una, z8, za, zh, zK, blt, fnV, asArg, ze, zn, zo, zj, zi, zg, zk, zr, z6, zD, zF, E.mkS, zc, unN, zM, zm, zy, zC, zf, zN, zq, GS, simprocAttr, GZ, d1, d2, d3, L1, zY]
        refine yT (by kernel_rfl) ?_
        simp (disch := ((try simp only [LL]); omega)) only [↓GO, ↓DRW, GA, ren, zB, zd, refs, zb, cst, zl, zH, z7, E.load, E.store, zG, isC, bin, zI, zJ, una, z8, za, zh, zK, blt, fnV, asArg, ze, zn, zo, zj, zi, zg, zk, zr, z6, zD, zF, E.mkS, zc, unN, zM, zm, zy, zC, zf, zN, zq, GS, simprocAttr, GZ, d1, d2, d3, L1, zY]
      · simp only [cond_true] at L1
        cases hs : sL a.pre b.pre <;> rw [hs] at L2 <;> simp only at L2 <;> cases h4 : (a.pre == []) <;> cases h5 : (b.pre == []) <;> rw [h4] at e1 <;> rw [h5] at e2
        all_goals
          apply zu
          refine zw rfl Tryz.func137 rfl (by kernel_rfl) ?_
          unfold Tryz.f137
          simp (disch := ((try simp only [LL]); omega)) only [↓GO, ↓DRW, GA, ren, zB, zd, refs, zb, cst, zl, zH, z7, E.load, E.store, zG, isC, bin, zI, zJ, una, z8, za, zh, zK, blt, fnV, asArg, ze, zn, zo, zj, zi, zg, zk, zr, z6, zD, zF, E.mkS, zc, unN, zM, zm, zy, zC, zf, zN, zq, GS, simprocAttr, GZ, d1, d2, d3, d4, d5, L1, L2, hm, zP, e1, e2, bne, Bool.beq_eq_decide_eq, zY]
          refine yT (by kernel_rfl) ?_
          simp (disch := ((try simp only [LL]); omega)) only [↓GO, ↓DRW, GA, ren, zB, zd, refs, zb, cst, zl, zH, z7, E.load, E.store, zG, isC, bin, zI, zJ, una, z8, za, zh, zK, blt, fnV, asArg, ze, zn, zo, zj, zi, zg, zk, zr, z6, zD, zF, E.mkS, zc, unN, zM, zm, zy, zC, zf, zN, zq, GS, simprocAttr, GZ, d1, d2, d3, d4, d5, L1, L2, hm, zP, e1, e2, bne, zY, Option.getD_some, Option.getD_none]
theorem Ty (a b : Str) (ha : a.length ≤ 1048700) (hb : b.length ≤ 1048700) : zE (EV Tryz.prog pol) 100 [.t (.str a), .t (.str b)] = some (.t (.int .i64 (pq (zA a).1 (zA b).1))) := by
  have d1 := oA a ha
  have d2 := oA b hb
  have d3 := US (zA a).1 (zA b).1 (yW a ha).1 (yW b hb).1
  unfold rvT at d1 d2
  generalize pq (zA a).1 (zA b).1 = n at *
  generalize (zA a).1 = va at *
  generalize (zA b).1 = vb at *
  simp only [Ver.enc, List.map_cons, List.map_nil] at d1 d2 d3
  apply zu
  refine zw rfl Tryz.func100 rfl (by kernel_rfl) ?_
  unfold Tryz.f100
  simp (disch := ((try simp only [LL]); omega)) only [↓GO, ↓DRW, GA, ren, zB, zd, refs, zb, cst, zl, zH, z7, E.load, E.store, zG, isC, bin, zI, zJ, una, z8, za, zh, zK, blt, fnV, asArg, ze, zn, zo, zj, zi, zg, zk, zr, z6, zD, zF, E.mkS, zc, unN, zM, zm, zy, zC, zf, zN, zq, GS, simprocAttr, GZ, d1, d2, d3, zY]
end Go.Proofs.YtmcephnfcciloaaGreatDoor
/- What is in a range, by both; what a notice tells of. Conditions: those of each lemma. -/
namespace Go.Proofs.YtmcephnfcciloaaGreatDoor
open E
set_option linter.unusedSimpArgs false
set_option linter.unusedVariables false
set_option maxRecDepth 100000
theorem a6 {α : Type} [BEq α] (l : List α) : decide ((l.length : Int) > 0) = !(l == []) := by
  cases l with
  | nil => rfl
  | cons x r => rw [beq_nil_cons]; simp only [Bool.not_false]; apply decide_eq_true; simp only [List.length_cons]; omega
set_option maxHeartbeats 16000000 in
theorem Tn (s : Str) (v : Ver) (hv : zA s = (v, true)) (hs : s.length ≤ 1048700) (l : List Bd) (hl : l.length ≤ 4194304) (hb : ∀ b ∈ l, b.1.length ≤ 1048700 ∧ b.2.length ≤ 1048700) : ∀ (rest pre : List Bd), l = pre ++ rest → ∃ x,
    EV Tryz.prog pol (.loop 66 122 0 [.t (.str s), .ptr 0 0 0, .t (.list 2 (bdT l)), .t (.int .i64 (l.length : Int)), .t (.int .i64 (pre.length : Int))] [.vs 4 [v.enc.map .t]])
      = some (cond (rest.any (pr v)) (.loop .ret [.t (.bool true)] []) (.loop (.exit 0) [x] []))
  | [], pre, h => by
    have c : decide ((pre.length : Int) < (l.length : Int)) = false := by simp [h]
    refine ⟨.bad, ?_⟩
    simp only [List.any_nil, cond_false, Ver.enc, List.map_cons, List.map_nil]
    refine zz Tryz.func66 rfl rfl ?_
    simp (disch := ((try simp only [LL]); omega)) only [↓GO, ↓DRW, GA, ren, zB, zd, refs, zb, cst, zl, zH, z7, E.load, E.store, zG, isC, bin, zI, zJ, una, z8, za, zh, zK, blt, fnV, asArg, ze, zn, zo, zj, zi, zg, zk, zr, z6, zD, zF, E.mkS, zc, unN, zM, zm, zy, zC, zf, zN, zq, GS, simprocAttr, GZ, c, zY]
  | b :: rest, pre, h => by
    have c : decide ((pre.length : Int) < (l.length : Int)) = true := by simp [h]; omega
    have hget : (bdT l)[pre.length]? = some [.str b.1, .str b.2] := by rw [h]; exact wB (fun b : Bd => [T.str b.1, T.str b.2]) pre b rest
    have hlen : pre.length + rest.length + 1 ≤ l.length := by rw [h]; simp; omega
    obtain ⟨hb1, hb2⟩ := hb b (by rw [h]; simp)
    have d1 := Ty s b.1 hs hb1
    have d2 := Ty s b.2 hs hb2
    have d3 := oA b.1 hb1
    rw [hv] at d1 d2
    obtain ⟨x, IH⟩ := Tn s v hv hs l hl hb rest (pre ++ [b]) (by rw [h]; simp)
    rw [show ((pre ++ [b]).length : Int) = (pre.length : Int) + 1 by simp] at IH
    refine ⟨x, ?_⟩
    have e1 := u0 v.pre
    have e2 := a6 (zA b.1).1.pre
    rw [List.any_cons]
    generalize hR : rest.any (pr v) = R at *
    have ht : pr v b = cond ((!(b.1 == []) && decide (pq v (zA b.1).1 < 0)) || (!(b.2 == []) && decide (pq v (zA b.2).1 ≥ 0))) false
      (v.pre == [] || (!((zA b.1).1.pre == []) && ((zA b.1).1.maj == v.maj && ((zA b.1).1.min == v.min && (zA b.1).1.pat == v.pat)))) := rfl
    rw [ht]
    clear h hb hv ht hR
    obtain ⟨lo, hi⟩ := b
    unfold rvT at d3
    simp only at d1 d2 d3 e2 hget ⊢
    generalize (zA lo).2 = okl at *
    generalize pq v (zA lo).1 = n1 at *
    generalize pq v (zA hi).1 = n2 at *
    generalize (zA lo).1 = vl at *
    obtain ⟨maj, min, pat, pre'⟩ := v
    obtain ⟨maj2, min2, pat2, pre2⟩ := vl
    simp only [Ver.enc, List.map_cons, List.map_nil] at d3 IH e1 e2 ⊢
    have skip : ∀ (q : Bool), q = true → True := fun _ _ => trivial
    cases q1 : (lo == []) <;> cases q2 : decide (n1 < 0) <;> cases q3 : (hi == []) <;> cases q4 : decide (n2 ≥ 0) <;> simp only [Bool.not_true, Bool.not_false, Bool.and_true, Bool.true_and, Bool.false_and, Bool.and_false, Bool.or_false, Bool.or_true, cond_true, cond_false, Bool.false_or]
    all_goals first
      | (refine zz Tryz.func66 rfl rfl ?_
         simp (disch := ((try simp only [LL]); omega)) only [↓GO, ↓DRW, GA, ren, zB, zd, refs, zb, cst, zl, zH, z7, E.load, E.store, zG, isC, bin, zI, zJ, una, z8, za, zh, zK, blt, fnV, asArg, ze, zn, zo, zj, zi, zg, zk, zr, z6, zD, zF, E.mkS, zc, unN, zM, zm, zy, zC, zf, zN, zq, GS, simprocAttr, GZ, c, hget, d1, d2, d3, q1, q2, q3, q4, e1, e2, bne, zP, zx, zY, IH]
         done)
      | (cases q5 : (pre' == []) <;> rw [q5] at e1
         · cases q6 : (pre2 == []) <;> rw [q6] at e2
           · cases q7 : (maj2 == maj)
             · refine zz Tryz.func66 rfl rfl ?_
               simp (disch := ((try simp only [LL]); omega)) only [↓GO, ↓DRW, GA, ren, zB, zd, refs, zb, cst, zl, zH, z7, E.load, E.store, zG, isC, bin, zI, zJ, una, z8, za, zh, zK, blt, fnV, asArg, ze, zn, zo, zj, zi, zg, zk, zr, z6, zD, zF, E.mkS, zc, unN, zM, zm, zy, zC, zf, zN, zq, GS, simprocAttr, GZ, c, hget, d1, d2, d3, q1, q2, q3, q4, e1, e2, q7, bne, zP, zx, zY, IH, Bool.not_false, Bool.not_true, Bool.and_false, Bool.false_or]
             · cases q8 : (min2 == min)
               · refine zz Tryz.func66 rfl rfl ?_
                 simp (disch := ((try simp only [LL]); omega)) only [↓GO, ↓DRW, GA, ren, zB, zd, refs, zb, cst, zl, zH, z7, E.load, E.store, zG, isC, bin, zI, zJ, una, z8, za, zh, zK, blt, fnV, asArg, ze, zn, zo, zj, zi, zg, zk, zr, z6, zD, zF, E.mkS, zc, unN, zM, zm, zy, zC, zf, zN, zq, GS, simprocAttr, GZ, c, hget, d1, d2, d3, q1, q2, q3, q4, e1, e2, q7, q8, bne, zP, zx, zY, IH, Bool.not_false, Bool.not_true, Bool.and_false, Bool.false_or]
               · cases q9 : (pat2 == pat)
                 all_goals
                   refine zz Tryz.func66 rfl rfl ?_
                   simp (disch := ((try simp only [LL]); omega)) only [↓GO, ↓DRW, GA, ren, zB, zd, refs, zb, cst, zl, zH, z7, E.load, E.store, zG, isC, bin, zI, zJ, una, z8, za, zh, zK, blt, fnV, asArg, ze, zn, zo, zj, zi, zg, zk, zr, z6, zD, zF, E.mkS, zc, unN, zM, zm, zy, zC, zf, zN, zq, GS, simprocAttr, GZ, c, hget, d1, d2, d3, q1, q2, q3, q4, e1, e2, q7, q8, q9, bne, zP, zx, zY, IH, Bool.not_false, Bool.not_true, Bool.and_false, Bool.false_or]
           · refine zz Tryz.func66 rfl rfl ?_
             simp (disch := ((try simp only [LL]); omega)) only [↓GO, ↓DRW, GA, ren, zB, zd, refs, zb, cst, zl, zH, z7, E.load, E.store, zG, isC, bin, zI, zJ, una, z8, za, zh, zK, blt, fnV, asArg, ze, zn, zo, zj, zi, zg, zk, zr, z6, zD, zF, E.mkS, zc, unN, zM, zm, zy, zC, zf, zN, zq, GS, simprocAttr, GZ, c, hget, d1, d2, d3, q1, q2, q3, q4, e1, e2, bne, zP, zx, zY, IH, Bool.not_false, Bool.not_true, Bool.and_false, Bool.false_or]
         · refine zz Tryz.func66 rfl rfl ?_
           simp (disch := ((try simp only [LL]); omega)) only [↓GO, ↓DRW, GA, ren, zB, zd, refs, zb, cst, zl, zH, z7, E.load, E.store, zG, isC, bin, zI, zJ, una, z8, za, zh, zK, blt, fnV, asArg, ze, zn, zo, zj, zi, zg, zk, zr, z6, zD, zF, E.mkS, zc, unN, zM, zm, zy, zC, zf, zN, zq, GS, simprocAttr, GZ, c, hget, d1, d2, d3, q1, q2, q3, q4, e1, e2, bne, zP, zx, zY, IH, Bool.true_or])
end Go.Proofs.YtmcephnfcciloaaGreatDoor
/- What is in a range, by both; what a notice tells of. Conditions: those of each lemma. -/
namespace Go.Proofs.YtmcephnfcciloaaGreatDoor
open E
set_option linter.unusedSimpArgs false
set_option linter.unusedVariables false
set_option maxRecDepth 100000
def BdB (l : List Bd) : Prop := l.length ≤ 4194304 ∧ ∀ b ∈ l, b.1.length ≤ 1048600 ∧ b.2.length ≤ 1048600
theorem c_inI (s : Str) (hs : s.length ≤ 1048576) (l : List Bd) (hl : BdB l) : zE (EV Tryz.prog pol) 66 [.t (.str s), .t (.list 2 (bdT l))] = some (.t (.bool (inB s l))) := by
  have hb : ∀ b ∈ l, b.1.length ≤ 1048700 ∧ b.2.length ≤ 1048700 := fun b hb => by have := hl.2 b hb; omega
  have d1 := oA s (by omega)
  have d2 := Vp l hl.1 hb
  unfold rvT at d1
  unfold inB
  cases ho : (zA s).2 with
  | false =>
    rw [ho] at d1
    generalize (zA s).1 = v at *
    simp only [Bool.false_and]
    obtain ⟨maj, min, pat, pre⟩ := v
    simp only [Ver.enc, List.map_cons, List.map_nil] at d1
    apply zu
    refine zw rfl Tryz.func66 rfl (by kernel_rfl) ?_
    unfold Tryz.f66
    simp (disch := ((try simp only [LL]); omega)) only [↓GO, ↓DRW, GA, ren, zB, zd, refs, zb, cst, zl, zH, z7, E.load, E.store, zG, isC, bin, zI, zJ, una, z8, za, zh, zK, blt, fnV, asArg, ze, zn, zo, zj, zi, zg, zk, zr, z6, zD, zF, E.mkS, zc, unN, zM, zm, zy, zC, zf, zN, zq, GS, simprocAttr, GZ, d1, zY]
  | true =>
    have hv : zA s = ((zA s).1, true) := by rw [← ho]
    have hvo := (yu ho).2.2.1
    obtain ⟨x, L⟩ := Tn s _ hv (by omega) l hl.1 hb l [] rfl
    rw [ho] at d1
    simp only [List.length_nil, Int.natCast_zero] at L
    cases hr : xk l with
    | false =>
      rw [hr] at d2
      generalize (zA s).1 = v at *
      simp only [Bool.true_and, Bool.false_and]
      obtain ⟨maj, min, pat, pre⟩ := v
      simp only [Ver.enc, List.map_cons, List.map_nil] at d1
      apply zu
      refine zw rfl Tryz.func66 rfl (by kernel_rfl) ?_
      unfold Tryz.f66
      simp (disch := ((try simp only [LL]); omega)) only [↓GO, ↓DRW, GA, ren, zB, zd, refs, zb, cst, zl, zH, z7, E.load, E.store, zG, isC, bin, zI, zJ, una, z8, za, zh, zK, blt, fnV, asArg, ze, zn, zo, zj, zi, zg, zk, zr, z6, zD, zF, E.mkS, zc, unN, zM, zm, zy, zC, zf, zN, zq, GS, simprocAttr, GZ, d1, d2, zY]
    | true =>
      rw [hr] at d2
      have hall : (l.all fun b => isE b.1 && isE b.2) = true := by
        unfold xk at hr
        rw [Bool.and_eq_true] at hr
        exact hr.1
      rw [ew hvo l hall] at L
      generalize l.any (vL (zA s).1) = R at *
      generalize (zA s).1 = v at *
      simp only [Bool.true_and]
      obtain ⟨maj, min, pat, pre⟩ := v
      simp only [Ver.enc, List.map_cons, List.map_nil] at d1 L
      have hbl : (bdT l).length = l.length := xO l
      cases R <;> simp only [cond_true, cond_false] at L
      all_goals
        apply zu
        refine zw rfl Tryz.func66 rfl (by kernel_rfl) ?_
        unfold Tryz.f66
        simp (disch := ((try simp only [LL]); omega)) only [↓GO, ↓DRW, GA, ren, zB, zd, refs, zb, cst, zl, zH, z7, E.load, E.store, zG, isC, bin, zI, zJ, una, z8, za, zh, zK, blt, fnV, asArg, ze, zn, zo, zj, zi, zg, zk, zr, z6, zD, zF, E.mkS, zc, unN, zM, zm, zy, zC, zf, zN, zq, GS, simprocAttr, GZ, d1, d2, L, hbl, zY]
set_option maxHeartbeats 16000000 in
theorem c_tkR (v : Ver) (hv : v.sm) (b : Bd) (hb : b.1.length ≤ 1048600 ∧ b.2.length ≤ 1048600) : zE (EV Tryz.prog pol) 89 [.agg [.t (.str b.1), .t (.str b.2)], .agg (v.enc.map .t)] = some (.t (.bool (vL v b))) := by
  obtain ⟨lo, hi⟩ := b
  simp only at hb ⊢
  have d1 := oz lo (by omega)
  have d2 := oz hi (by omega)
  have d3 := cN v (zA lo).1 hv (yW lo (by omega)).1
  have d4 := cN v (zA hi).1 hv (yW hi (by omega)).1
  have e1 := u0 v.pre
  have e2 := a6 (zA lo).1.pre
  have ht : vL v (lo, hi) = cond (((zA lo).2 && decide (rN v (zA lo).1 < 0)) || ((zA hi).2 && decide (rN v (zA hi).1 ≥ 0))) false
      (v.pre == [] || ((zA lo).2 && (!((zA lo).1.pre == []) && ((zA lo).1.maj == v.maj && ((zA lo).1.min == v.min && (zA lo).1.pat == v.pat))))) := rfl
  rw [ht]
  clear ht
  unfold rvT at d1 d2
  generalize (zA lo).2 = okl at *
  generalize (zA hi).2 = okh at *
  generalize rN v (zA lo).1 = n1 at *
  generalize rN v (zA hi).1 = n2 at *
  generalize (zA lo).1 = vl at *
  generalize (zA hi).1 = vh at *
  obtain ⟨maj, min, pat, pre'⟩ := v
  obtain ⟨maj2, min2, pat2, pre2⟩ := vl
  obtain ⟨maj3, min3, pat3, pre3⟩ := vh
  simp only [Ver.enc, List.map_cons, List.map_nil] at d1 d2 d3 d4 e1 e2 ⊢
  cases okl <;> cases q2 : decide (n1 < 0) <;> cases okh <;> cases q4 : decide (n2 ≥ 0) <;> simp only [Bool.and_true, Bool.true_and, Bool.false_and, Bool.and_false, Bool.or_false, Bool.or_true, cond_true, cond_false, Bool.false_or]
  all_goals first
    | (skip
       apply zu
       refine zw rfl Tryz.func89 rfl (by kernel_rfl) ?_
       unfold Tryz.f89
       simp (disch := ((try simp only [LL]); omega)) only [↓GO, ↓DRW, GA, ren, zB, zd, refs, zb, cst, zl, zH, z7, E.load, E.store, zG, isC, bin, zI, zJ, una, z8, za, zh, zK, blt, fnV, asArg, ze, zn, zo, zj, zi, zg, zk, zr, z6, zD, zF, E.mkS, zc, unN, zM, zm, zy, zC, zf, zN, zq, GS, simprocAttr, GZ, d1, d2, d3, d4, q2, q4, e1, e2, bne, zP, zY]
       done)
    | (cases q5 : (pre' == []) <;> rw [q5] at e1
       · cases q6 : (pre2 == []) <;> rw [q6] at e2
         · cases q7 : (maj2 == maj)
           · apply zu
             refine zw rfl Tryz.func89 rfl (by kernel_rfl) ?_
             unfold Tryz.f89
             simp (disch := ((try simp only [LL]); omega)) only [↓GO, ↓DRW, GA, ren, zB, zd, refs, zb, cst, zl, zH, z7, E.load, E.store, zG, isC, bin, zI, zJ, una, z8, za, zh, zK, blt, fnV, asArg, ze, zn, zo, zj, zi, zg, zk, zr, z6, zD, zF, E.mkS, zc, unN, zM, zm, zy, zC, zf, zN, zq, GS, simprocAttr, GZ, d1, d2, d3, d4, q2, q4, e1, e2, q7, bne, zP, zY, Bool.not_false, Bool.not_true, Bool.and_false, Bool.false_or]
           · cases q8 : (min2 == min)
             · apply zu
               refine zw rfl Tryz.func89 rfl (by kernel_rfl) ?_
               unfold Tryz.f89
               simp (disch := ((try simp only [LL]); omega)) only [↓GO, ↓DRW, GA, ren, zB, zd, refs, zb, cst, zl, zH, z7, E.load, E.store, zG, isC, bin, zI, zJ, una, z8, za, zh, zK, blt, fnV, asArg, ze, zn, zo, zj, zi, zg, zk, zr, z6, zD, zF, E.mkS, zc, unN, zM, zm, zy, zC, zf, zN, zq, GS, simprocAttr, GZ, d1, d2, d3, d4, q2, q4, e1, e2, q7, q8, bne, zP, zY, Bool.not_false, Bool.not_true, Bool.and_false, Bool.false_or]
             · cases q9 : (pat2 == pat)
               all_goals
                 apply zu
                 refine zw rfl Tryz.func89 rfl (by kernel_rfl) ?_
                 unfold Tryz.f89
                 simp (disch := ((try simp only [LL]); omega)) only [↓GO, ↓DRW, GA, ren, zB, zd, refs, zb, cst, zl, zH, z7, E.load, E.store, zG, isC, bin, zI, zJ, una, z8, za, zh, zK, blt, fnV, asArg, ze, zn, zo, zj, zi, zg, zk, zr, z6, zD, zF, E.mkS, zc, unN, zM, zm, zy, zC, zf, zN, zq, GS, simprocAttr, GZ, d1, d2, d3, d4, q2, q4, e1, e2, q7, q8, q9, bne, zP, zY, Bool.not_false, Bool.not_true, Bool.and_false, Bool.false_or]
         · apply zu
           refine zw rfl Tryz.func89 rfl (by kernel_rfl) ?_
           unfold Tryz.f89
           simp (disch := ((try simp only [LL]); omega)) only [↓GO, ↓DRW, GA, ren, zB, zd, refs, zb, cst, zl, zH, z7, E.load, E.store, zG, isC, bin, zI, zJ, una, z8, za, zh, zK, blt, fnV, asArg, ze, zn, zo, zj, zi, zg, zk, zr, z6, zD, zF, E.mkS, zc, unN, zM, zm, zy, zC, zf, zN, zq, GS, simprocAttr, GZ, d1, d2, d3, d4, q2, q4, e1, e2, bne, zP, zY, Bool.not_false, Bool.not_true, Bool.and_false, Bool.false_or]
       · apply zu
         refine zw rfl Tryz.func89 rfl (by kernel_rfl) ?_
         unfold Tryz.f89
         simp (disch := ((try simp only [LL]); omega)) only [↓GO, ↓DRW, GA, ren, zB, zd, refs, zb, cst, zl, zH, z7, E.load, E.store, zG, isC, bin, zI, zJ, una, z8, za, zh, zK, blt, fnV, asArg, ze, zn, zo, zj, zi, zg, zk, zr, z6, zD, zF, E.mkS, zc, unN, zM, zm, zy, zC, zf, zN, zq, GS, simprocAttr, GZ, d1, d2, d3, d4, q2, q4, e1, e2, bne, zP, zY, Bool.true_or])
theorem Tm (v : Ver) (hv : v.sm) (ok : Bool) (l : List Bd) (hl : BdB l) : ∀ (rest pre : List Bd), l = pre ++ rest → ∃ x,
    EV Tryz.prog pol (.loop 60 58 0 [.t (.list 2 (bdT l)), .ptr 0 0 0, .t (.bool ok), .t (.int .i64 (pre.length : Int))] [.vs 4 [v.enc.map .t]])
      = some (cond (ok && (xk l && rest.any (vL v))) (.loop .ret [.t (.bool true)] []) (.loop (.exit 0) [x] []))
  | [], pre, h => by
    have c : decide ((pre.length : Int) < (l.length : Int)) = false := by simp [h]
    refine ⟨.bad, ?_⟩
    simp only [List.any_nil, Bool.and_false, cond_false, Ver.enc, List.map_cons, List.map_nil]
    refine zz Tryz.func60 rfl rfl ?_
    simp (disch := ((try simp only [LL]); omega)) only [↓GO, ↓DRW, GA, ren, zB, zd, refs, zb, cst, zl, zH, z7, E.load, E.store, zG, isC, bin, zI, zJ, una, z8, za, zh, zK, blt, fnV, asArg, ze, zn, zo, zj, zi, zg, zk, zr, z6, zD, zF, E.mkS, zc, unN, zM, zm, zy, zC, zf, zN, zq, GS, simprocAttr, GZ, c, xO, zY]
  | b :: rest, pre, h => by
    have c : decide ((pre.length : Int) < (l.length : Int)) = true := by simp [h]; omega
    have hget : (bdT l)[pre.length]? = some [.str b.1, .str b.2] := by rw [h]; exact wB (fun b : Bd => [T.str b.1, T.str b.2]) pre b rest
    have hlen : pre.length + rest.length + 1 ≤ l.length := by rw [h]; simp; omega
    have hll := hl.1
    have d1 := c_tkR v hv b (hl.2 b (by rw [h]; simp))
    have d2 := jR l hl.1 (fun b hb => by have := hl.2 b hb; omega)
    obtain ⟨x, IH⟩ := Tm v hv ok l hl rest (pre ++ [b]) (by rw [h]; simp)
    rw [show ((pre ++ [b]).length : Int) = (pre.length : Int) + 1 by simp] at IH
    refine ⟨x, ?_⟩
    rw [List.any_cons]
    generalize rest.any (vL v) = R at *
    generalize vL v b = t at *
    generalize xk l = rk at *
    clear h hl
    obtain ⟨lo, hi⟩ := b
    simp only at d1 hget
    obtain ⟨maj, min, pat, pre'⟩ := v
    simp only [Ver.enc, List.map_cons, List.map_nil] at d1 IH ⊢
    cases ok <;> cases rk <;> cases t <;> simp only [Bool.true_and, Bool.false_and, Bool.true_or, Bool.false_or, cond_true, cond_false] at IH ⊢
    all_goals
      refine zz Tryz.func60 rfl rfl ?_
      simp (disch := ((try simp only [LL]); omega)) only [↓GO, ↓DRW, GA, ren, zB, zd, refs, zb, cst, zl, zH, z7, E.load, E.store, zG, isC, bin, zI, zJ, una, z8, za, zh, zK, blt, fnV, asArg, ze, zn, zo, zj, zi, zg, zk, zr, z6, zD, zF, E.mkS, zc, unN, zM, zm, zy, zC, zf, zN, zq, GS, simprocAttr, GZ, c, hget, d1, d2, xO, zx, zY, IH]
theorem c_inR (s : Str) (hs : s.length ≤ 1048576) (l : List Bd) (hl : BdB l) : zE (EV Tryz.prog pol) 60 [.t (.str s), .t (.list 2 (bdT l))] = some (.t (.bool (inB s l))) := by
  have d1 := oz s (by omega)
  obtain ⟨x, L⟩ := Tm (zA s).1 (yW s (by omega)).1 (zA s).2 l hl l [] rfl
  unfold rvT at d1
  unfold inB
  simp only [List.length_nil, Int.natCast_zero] at L
  generalize ((zA s).2 && (xk l && l.any (vL (zA s).1))) = R at *
  generalize (zA s).2 = ok at *
  generalize (zA s).1 = v at *
  obtain ⟨maj, min, pat, pre⟩ := v
  simp only [Ver.enc, List.map_cons, List.map_nil] at d1 L
  cases R <;> simp only [cond_true, cond_false] at L
  all_goals
    apply zu
    refine zw rfl Tryz.func60 rfl (by kernel_rfl) ?_
    unfold Tryz.f60
    simp (disch := ((try simp only [LL]); omega)) only [↓GO, ↓DRW, GA, ren, zB, zd, refs, zb, cst, zl, zH, z7, E.load, E.store, zG, isC, bin, zI, zJ, una, z8, za, zh, zK, blt, fnV, asArg, ze, zn, zo, zj, zi, zg, zk, zr, z6, zD, zF, E.mkS, zc, unN, zM, zm, zy, zC, zf, zN, zq, GS, simprocAttr, GZ, d1, L, zY]
end Go.Proofs.YtmcephnfcciloaaGreatDoor
/- The library's searches, at packs and sums. Conditions: those of each lemma. -/
namespace Go.Proofs.YtmcephnfcciloaaGreatDoor
open E
set_option linter.unusedSimpArgs false
set_option linter.unusedVariables false
set_option maxRecDepth 100000
theorem pZ (g : Nat) (caps : List T) (p : zL → Bool) (es : List zL) (hl : es.length ≤ 4611686018427387904) (hp : ∀ x ∈ es, zE (EV Tryz.prog pol) g (.agg (x.enc.map .t) :: caps.map .t) = some (.t (.bool (p x)))) : ∀ (rest pre : List zL), es = pre ++ rest →
    EV Tryz.prog pol (.loop 75 26 0 [.t (.list 6 (zL.zV es)), .t (.fn g caps), .t (.int .i64 (es.length : Int)), .t (.int .i64 (pre.length : Int))] []) = some (match r8 p rest pre.length with | some i => .loop .ret [.t (.int .i64 (i : Int))] [] | none => .loop (.exit 0) [.bad] [])
  | [], pre, hs => by
    have c : decide ((pre.length : Int) < (es.length : Int)) = false := by simp [hs]
    refine zz Tryz.func75 rfl rfl ?_
    simp only [↓GO, ↓DRW, GA, ren, zB, zd, refs, zb, cst, zl, zH, z7, E.load, E.store, zG, isC, bin, zI, zJ, una, z8, za, zh, zK, blt, fnV, asArg, ze, zn, zo, zj, zi, zg, zk, zr, z6, zD, zF, E.mkS, zc, unN, zM, zm, zy, zC, zf, zN, zq, GS, simprocAttr, c, r8]
  | b :: rest, pre, hs => by
    have c : decide ((pre.length : Int) < (es.length : Int)) = true := by simp [hs]; omega
    have hi : pre.length < es.length := by rw [hs]; simp
    have hget := zL.yR es pre.length hi
    have hgb : es[pre.length] = b := by simp [hs]
    rw [hgb] at hget
    have hb := hp b (by rw [hs]; simp)
    have e1 : (pre.length : Int) + 1 = ((pre ++ [b]).length : Int) := by simp
    have IH := pZ g caps p es hl hp rest (pre ++ [b]) (by rw [hs]; simp)
    refine zz Tryz.func75 rfl rfl ?_
    simp only [r8]
    cases hpb : p b with
    | true =>
      rw [hpb] at hb
      simp (disch := omega) only [↓GO, ↓DRW, GA, ren, zB, zd, refs, zb, cst, zl, zH, z7, E.load, E.store, zG, isC, bin, zI, zJ, una, z8, za, zh, zK, blt, fnV, asArg, ze, zn, zo, zj, zi, zg, zk, zr, z6, zD, zF, E.mkS, zc, unN, zM, zm, zy, zC, zf, zN, zq, GS, simprocAttr, zL.zR, c, hget, zL.vZ, zL.v8, zx, hb]
    | false =>
      rw [hpb] at hb
      simp (disch := omega) only [↓GO, ↓DRW, GA, ren, zB, zd, refs, zb, cst, zl, zH, z7, E.load, E.store, zG, isC, bin, zI, zJ, una, z8, za, zh, zK, blt, fnV, asArg, ze, zn, zo, zj, zi, zg, zk, zr, z6, zD, zF, E.mkS, zc, unN, zM, zm, zy, zC, zf, zN, zq, GS, simprocAttr, zL.zR, c, hget, zL.vZ, zL.v8, zx, hb]
      rw [e1, IH]
      simp
theorem ix (g : Nat) (caps : List T) (p : zL → Bool) (es : List zL) (hl : es.length ≤ 4611686018427387904) (hp : ∀ x ∈ es, zE (EV Tryz.prog pol) g (.agg (x.enc.map .t) :: caps.map .t) = some (.t (.bool (p x)))) :
    zE (EV Tryz.prog pol) 75 [.t (.list 6 (zL.zV es)), .t (.fn g caps)] = some (.t (.int .i64 (ixI (r8 p es 0)))) := by
  have IH := pZ g caps p es hl hp es [] rfl
  simp only [List.length_nil, Int.natCast_zero] at IH
  apply zu
  refine zw rfl Tryz.func75 rfl (by kernel_rfl) ?_
  unfold Tryz.f75
  cases hf : r8 p es 0 with
  | none => rw [hf] at IH; simp only [↓GO, ↓DRW, GA, ren, zB, zd, refs, zb, cst, zl, zH, z7, E.load, E.store, zG, isC, bin, zI, zJ, una, z8, za, zh, zK, blt, fnV, asArg, ze, zn, zo, zj, zi, zg, zk, zr, z6, zD, zF, E.mkS, zc, unN, zM, zm, zy, zC, zf, zN, zq, GS, simprocAttr, zL.zR, IH, ixI]
  | some i => rw [hf] at IH; simp only [↓GO, ↓DRW, GA, ren, zB, zd, refs, zb, cst, zl, zH, z7, E.load, E.store, zG, isC, bin, zI, zJ, una, z8, za, zh, zK, blt, fnV, asArg, ze, zn, zo, zj, zi, zg, zk, zr, z6, zD, zF, E.mkS, zc, unN, zM, zm, zy, zC, zf, zN, zq, GS, simprocAttr, zL.zR, IH, ixI]
end Go.Proofs.YtmcephnfcciloaaGreatDoor
/- Packs and graphs, by both. Conditions: those of each lemma. -/
namespace Go.Proofs.YtmcephnfcciloaaGreatDoor
open E
set_option linter.unusedSimpArgs false
set_option linter.unusedVariables false
set_option maxRecDepth 100000
theorem jT (p : zL) (hb : p.yh ≤ 4194304) : zE (EV Tryz.prog pol) 35 [.agg (p.enc.map .t)] = some (.t (.str (keyOf p))) := by
  obtain ⟨name, version, source, sums, dev, needs⟩ := p
  simp only [zL.yh] at hb
  simp only [zL.enc, List.map_cons, List.map_nil, keyOf]
  apply zu
  refine zw rfl Tryz.func35 rfl (by kernel_rfl) ?_
  unfold Tryz.f35
  simp (disch := ((try simp only [LL]); omega)) only [↓GO, ↓DRW, GA, ren, zB, zd, refs, zb, cst, zl, zH, z7, E.load, E.store, zG, isC, bin, zI, zJ, una, z8, za, zh, zK, blt, fnV, asArg, ze, zn, zo, zj, zi, zg, zk, zr, z6, zD, zF, E.mkS, zc, unN, zM, zm, zy, zC, zf, zN, zq, GS, simprocAttr, GZ, wh]
theorem jS (p : zL) (hb : p.yh ≤ 4194304) : zE (EV Tryz.prog pol) 29 [.agg (p.enc.map .t)] = some (.t (.str (keyOf p))) := by
  obtain ⟨name, version, source, sums, dev, needs⟩ := p
  simp only [zL.yh] at hb
  simp only [zL.enc, List.map_cons, List.map_nil, keyOf]
  apply zu
  refine zw rfl Tryz.func29 rfl (by kernel_rfl) ?_
  unfold Tryz.f29
  simp (disch := ((try simp only [LL]); omega)) only [↓GO, ↓DRW, GA, ren, zB, zd, refs, zb, cst, zl, zH, z7, E.load, E.store, zG, isC, bin, zI, zJ, una, z8, za, zh, zK, blt, fnV, asArg, ze, zn, zo, zj, zi, zg, zk, zr, z6, zD, zF, E.mkS, zc, unN, zM, zm, zy, zC, zf, zN, zq, GS, simprocAttr, GZ, wh]
theorem c_slI (a : Str) : zE (EV Tryz.prog pol) 126 [.t (.str a)] = some (.t (.int .i64 (ti a))) := by
  unfold ti Vy je h1S jd
  cases h1 : (a == [115, 104, 97, 49]) <;> cases h2 : (a == [115, 104, 97, 50, 53, 54]) <;> cases h3 : (a == [104, 49]) <;> cases h4 : (a == [115, 104, 97, 53, 49, 50])
  all_goals
    apply zu
    refine zw rfl Tryz.func126 rfl (by kernel_rfl) ?_
    unfold Tryz.f126
    simp (disch := ((try simp only [LL]); omega)) only [↓GO, ↓DRW, GA, ren, zB, zd, refs, zb, cst, zl, zH, z7, E.load, E.store, zG, isC, bin, zI, zJ, una, z8, za, zh, zK, blt, fnV, asArg, ze, zn, zo, zj, zi, zg, zk, zr, z6, zD, zF, E.mkS, zc, unN, zM, zm, zy, zC, zf, zN, zq, GS, simprocAttr, GZ, h1, h2, h3, h4]
theorem c_slR (a : Str) : zE (EV Tryz.prog pol) 81 [.t (.str a)] = some (.t (.int .i64 (ti a))) := by
  unfold ti Vy je h1S jd
  cases h1 : (a == [115, 104, 97, 49]) <;> cases h2 : (a == [115, 104, 97, 50, 53, 54]) <;> cases h3 : (a == [104, 49]) <;> cases h4 : (a == [115, 104, 97, 53, 49, 50])
  all_goals
    apply zu
    refine zw rfl Tryz.func81 rfl (by kernel_rfl) ?_
    unfold Tryz.f81
    simp (disch := ((try simp only [LL]); omega)) only [↓GO, ↓DRW, GA, ren, zB, zd, refs, zb, cst, zl, zH, z7, E.load, E.store, zG, isC, bin, zI, zJ, una, z8, za, zh, zK, blt, fnV, asArg, ze, zn, zo, zj, zi, zg, zk, zr, z6, zD, zF, E.mkS, zc, unN, zM, zm, zy, zC, zf, zN, zq, GS, simprocAttr, GZ, h1, h2, h3, h4]
theorem bI (es : List zZ) (hl : es.length ≤ 4194304) : ∀ (rest pre : List zZ), es = pre ++ rest →
    EV Tryz.prog pol (.loop 94 26 0 [.t (.list 2 (zZ.zV es)), .t (.list 2 (zZ.zV es)), .t (.int .i64 (es.length : Int)), .t (.int .i64 (pre.length : Int))] []) = some (cond (vi (pre.getLast?.map zZ.alg) rest) (.loop (.exit 0) [.bad] []) (.loop .ret [.t (.bool false)] []))
  | [], pre, hs => by
    have c : decide ((pre.length : Int) < (es.length : Int)) = false := by simp [hs]
    refine zz Tryz.func94 rfl rfl ?_
    simp (disch := ((try simp only [LL]); omega)) only [↓GO, ↓DRW, GA, ren, zB, zd, refs, zb, cst, zl, zH, z7, E.load, E.store, zG, isC, bin, zI, zJ, una, z8, za, zh, zK, blt, fnV, asArg, ze, zn, zo, zj, zi, zg, zk, zr, z6, zD, zF, E.mkS, zc, unN, zM, zm, zy, zC, zf, zN, zq, GS, simprocAttr, GZ, c, vi]
  | x :: rest, pre, hs => by
    have c : decide ((pre.length : Int) < (es.length : Int)) = true := by simp [hs]; omega
    have hget : (zZ.zV es)[pre.length]? = some [.str x.alg, .str x.bytes] := by rw [hs]; exact wB zZ.enc pre x rest
    have hlen : pre.length + rest.length + 1 ≤ es.length := by rw [hs]; simp; omega
    have IH := bI es hl rest (pre ++ [x]) (by rw [hs]; simp)
    have hk := c_slI x.alg
    rw [show ((pre ++ [x]).length : Int) = (pre.length : Int) + 1 by simp, show (pre ++ [x]).getLast?.map zZ.alg = some x.alg by simp] at IH
    rw [vi]
    generalize ti x.alg = n at *
    rcases wj pre with rfl | ⟨pre', q, rfl⟩
    · clear hs
      simp only [List.length_nil, List.getLast?_nil, Option.map_none, vS, Int.natCast_zero, Int.zero_add] at *
      cases h1 : ((x.bytes.length : Int) == n)
      all_goals
        refine zz Tryz.func94 rfl rfl ?_
        simp (disch := ((try simp only [LL]); omega)) only [↓GO, ↓DRW, GA, ren, zB, zd, refs, zb, cst, zl, zH, z7, E.load, E.store, zG, isC, bin, zI, zJ, una, z8, za, zh, zK, blt, fnV, asArg, ze, zn, zo, zj, zi, zg, zk, zr, z6, zD, zF, E.mkS, zc, unN, zM, zm, zy, zC, zf, zN, zq, GS, simprocAttr, GZ, zZ.zR, c, hget, zx, hk, h1, bne, IH, Int.zero_add]
    · have hprev : uG (zZ.zV es) (((pre' ++ [q]).length : Int) - 1) = some [.str q.alg, .str q.bytes] := by rw [hs]; exact uz zZ.enc pre' q (x :: rest)
      have hge : 1 ≤ (pre' ++ [q]).length := by simp
      have hgt : decide (((pre' ++ [q]).length : Int) > 0) = true := by simp only [decide_eq_true_eq]; omega
      have hcmp := qz x.alg q.alg
      rw [show (pre' ++ [q]).getLast?.map zZ.alg = some q.alg by simp]
      simp only [vS]
      clear hs
      generalize (pre' ++ [q]).length = m at *
      cases h1 : ((x.bytes.length : Int) == n) <;> cases h2 : Op.bytesLess q.alg x.alg <;> rw [h2] at hcmp
      all_goals
        refine zz Tryz.func94 rfl rfl ?_
        simp (disch := ((try simp only [LL]); omega)) only [↓GO, ↓DRW, GA, ren, zB, zd, refs, zb, cst, zl, zH, z7, E.load, E.store, zG, isC, bin, zI, zJ, una, z8, za, zh, zK, blt, fnV, asArg, ze, zn, zo, zj, zi, zg, zk, zr, z6, zD, zF, E.mkS, zc, unN, zM, zm, zy, zC, zf, zN, zq, GS, simprocAttr, GZ, zZ.zR, c, hget, zx, hk, h1, bne, hgt, hprev, hcmp, IH]
theorem UG (es : List zZ) (hl : es.length ≤ 4194304) : zE (EV Tryz.prog pol) 94 [.t (.list 2 (zZ.zV es))] = some (.t (.bool (vi none es))) := by
  have IH := bI es hl es [] rfl
  simp only [List.length_nil, Int.natCast_zero, List.getLast?_nil, Option.map_none] at IH
  apply zu
  refine zw rfl Tryz.func94 rfl (by kernel_rfl) ?_
  unfold Tryz.f94
  cases h : vi none es <;> rw [h] at IH <;> simp only [cond_true, cond_false] at IH <;> simp (disch := ((try simp only [LL]); omega)) only [↓GO, ↓DRW, GA, ren, zB, zd, refs, zb, cst, zl, zH, z7, E.load, E.store, zG, isC, bin, zI, zJ, una, z8, za, zh, zK, blt, fnV, asArg, ze, zn, zo, zj, zi, zg, zk, zr, z6, zD, zF, E.mkS, zc, unN, zM, zm, zy, zC, zf, zN, zq, GS, simprocAttr, GZ, zZ.zR, IH]
theorem bJ (p : zL) (hb : p.yh ≤ 4194304) : ∀ (rest pre : List zZ), p.sums = pre ++ rest →
    EV Tryz.prog pol (.loop 56 26 0 [.ptr 0 0 0, .t (.int .i64 (pre.length : Int))] [.vs 6 [p.enc.map .t]]) = some (cond (vi (pre.getLast?.map zZ.alg) rest) (.loop (.exit 0) [.ptr 0 0 0, .bad] [.vs 6 [p.enc.map .t]]) (.loop .ret [.ptr 0 0 0, .t (.bool false)] [.vs 6 [p.enc.map .t]]))
  | [], pre, hs => by
    have c : decide ((pre.length : Int) < (p.sums.length : Int)) = false := by simp [hs]
    simp only [zL.enc, List.map_cons, List.map_nil]
    refine zz Tryz.func56 rfl rfl ?_
    simp (disch := ((try simp only [LL]); omega)) only [↓GO, ↓DRW, GA, ren, zB, zd, refs, zb, cst, zl, zH, z7, E.load, E.store, zG, isC, bin, zI, zJ, una, z8, za, zh, zK, blt, fnV, asArg, ze, zn, zo, zj, zi, zg, zk, zr, z6, zD, zF, E.mkS, zc, unN, zM, zm, zy, zC, zf, zN, zq, GS, simprocAttr, GZ, c, zZ.zR, vi, zY]
  | x :: rest, pre, hs => by
    have c : decide ((pre.length : Int) < (p.sums.length : Int)) = true := by simp [hs]; omega
    have hget : (zZ.zV p.sums)[pre.length]? = some [.str x.alg, .str x.bytes] := by rw [hs]; exact wB zZ.enc pre x rest
    have hlen : pre.length + rest.length + 1 ≤ p.sums.length := by rw [hs]; simp; omega
    have hpb : p.sums.length ≤ 4194304 := by unfold zL.yh at hb; omega
    have IH := bJ p hb rest (pre ++ [x]) (by rw [hs]; simp)
    have hk := c_slR x.alg
    rw [show ((pre ++ [x]).length : Int) = (pre.length : Int) + 1 by simp, show (pre ++ [x]).getLast?.map zZ.alg = some x.alg by simp] at IH
    rw [vi]
    have hco : ((x.bytes.length : Int) == ti x.alg) = (ti x.alg == (x.bytes.length : Int)) := Bool.beq_comm
    rw [hco]
    generalize ti x.alg = n at *
    simp only [zL.enc, List.map_cons, List.map_nil] at IH ⊢
    rcases wj pre with rfl | ⟨pre', q, rfl⟩
    · clear hs
      simp only [List.length_nil, List.getLast?_nil, Option.map_none, vS, Int.natCast_zero, Int.zero_add] at *
      cases h1 : (n == (x.bytes.length : Int))
      all_goals
        refine zz Tryz.func56 rfl rfl ?_
        simp (disch := ((try simp only [LL]); omega)) only [↓GO, ↓DRW, GA, ren, zB, zd, refs, zb, cst, zl, zH, z7, E.load, E.store, zG, isC, bin, zI, zJ, una, z8, za, zh, zK, blt, fnV, asArg, ze, zn, zo, zj, zi, zg, zk, zr, z6, zD, zF, E.mkS, zc, unN, zM, zm, zy, zC, zf, zN, zq, GS, simprocAttr, GZ, zZ.zR, c, hget, zx, hk, h1, bne, IH, Int.zero_add, zY]
    · have hprev : uG (zZ.zV p.sums) (((pre' ++ [q]).length : Int) - 1) = some [.str q.alg, .str q.bytes] := by rw [hs]; exact uz zZ.enc pre' q (x :: rest)
      have hge : 1 ≤ (pre' ++ [q]).length := by simp
      have hgt : decide (((pre' ++ [q]).length : Int) > 0) = true := by simp only [decide_eq_true_eq]; omega
      rw [show (pre' ++ [q]).getLast?.map zZ.alg = some q.alg by simp]
      simp only [vS]
      clear hs
      generalize (pre' ++ [q]).length = m at *
      cases h1 : (n == (x.bytes.length : Int)) <;> cases h2 : Op.bytesLess q.alg x.alg
      all_goals
        refine zz Tryz.func56 rfl rfl ?_
        simp (disch := ((try simp only [LL]); omega)) only [↓GO, ↓DRW, GA, ren, zB, zd, refs, zb, cst, zl, zH, z7, E.load, E.store, zG, isC, bin, zI, zJ, una, z8, za, zh, zK, blt, fnV, asArg, ze, zn, zo, zj, zi, zg, zk, zr, z6, zD, zF, E.mkS, zc, unN, zM, zm, zy, zC, zf, zN, zq, GS, simprocAttr, GZ, zZ.zR, c, hget, zx, hk, h1, bne, hgt, hprev, h2, IH, zY]
theorem Us (s : Str) : ((exT s).length : Int) = cond (x6 s).isSome 1 0 := by
  unfold exT
  cases x6 s <;> rfl
theorem UI (p : zL) (hb : p.yh ≤ 1048576) : zE (EV Tryz.prog pol) 56 [.agg (p.enc.map .t)] = some (.t (.bool (rT p))) := by
  have L := bJ p (by omega) p.sums [] rfl
  simp only [zL.yh] at hb
  have h1 := aB p.name (by omega)
  have h2 := c_exR p.version (by omega)
  have h3 := ej p.source (by omega)
  have h4 := Us p.version
  simp only [List.length_nil, Int.natCast_zero, List.getLast?_nil, Option.map_none] at L
  simp only [zL.enc, List.map_cons, List.map_nil] at L ⊢
  unfold rT
  generalize exT p.version = et at *
  generalize vi none p.sums = b1 at *
  generalize vj p.name = b2 at *
  generalize wz p.source = b3 at *
  generalize (x6 p.version).isSome = b4 at *
  cases b1 <;> simp only [cond_true, cond_false] at L <;> cases b2 <;> cases b4 <;> simp only [cond_true, cond_false] at h4 <;> cases b3
  all_goals
    apply zu
    refine zw rfl Tryz.func56 rfl (by kernel_rfl) ?_
    unfold Tryz.f56
    simp (disch := ((try simp only [LL]); omega)) only [↓GO, ↓DRW, GA, ren, zB, zd, refs, zb, cst, zl, zH, z7, E.load, E.store, zG, isC, bin, zI, zJ, una, z8, za, zh, zK, blt, fnV, asArg, ze, zn, zo, zj, zi, zg, zk, zr, z6, zD, zF, E.mkS, zc, unN, zM, zm, zy, zC, zf, zN, zq, GS, simprocAttr, GZ, L, h1, h2, h3, h4, zY, zZ.zR]
theorem Xd (s : Str) : ((exT s).length : Int) = cond (x6 s).isSome 1 0 := by
  unfold exT
  cases x6 s <;> rfl
theorem UJ (p : zL) (hb : p.yh ≤ 1048576) : zE (EV Tryz.prog pol) 62 [.agg (p.enc.map .t)] = some (.t (.bool (rT p))) := by
  simp only [zL.yh] at hb
  have L := UG p.sums (by omega)
  have h1 := aC p.name (by omega)
  have h2 := c_exI p.version (by omega)
  have h3 := ek p.source (by omega)
  have h4 := Xd p.version
  simp only [zL.enc, List.map_cons, List.map_nil]
  unfold rT
  generalize exT p.version = et at *
  generalize vi none p.sums = b1 at *
  generalize vj p.name = b2 at *
  generalize wz p.source = b3 at *
  generalize (x6 p.version).isSome = b4 at *
  cases b1 <;> cases b2 <;> cases b4 <;> simp only [cond_true, cond_false] at h4 <;> cases b3
  all_goals
    apply zu
    refine zw rfl Tryz.func62 rfl (by kernel_rfl) ?_
    unfold Tryz.f62
    simp (disch := ((try simp only [LL]); omega)) only [↓GO, ↓DRW, GA, ren, zB, zd, refs, zb, cst, zl, zH, z7, E.load, E.store, zG, isC, bin, zI, zJ, una, z8, za, zh, zK, blt, fnV, asArg, ze, zn, zo, zj, zi, zg, zk, zr, z6, zD, zF, E.mkS, zc, unN, zM, zm, zy, zC, zf, zN, zq, GS, simprocAttr, GZ, L, h1, h2, h3, h4, zY, zZ.zR]
/-- graphs of bounded size -/
def GB (g : zU) : Prop := g.yh ≤ 1048576
theorem GB.len {g : zU} (h : GB g) : g.packs.length ≤ 1048576 ∧ g.top.length + yk g.top ≤ 1048576 ∧ ∀ p ∈ g.packs, p.yh ≤ 1048576 := by
  unfold GB zU.yh at h
  refine ⟨by omega, by omega, fun p hp => ?_⟩
  have := zL.yp hp
  omega
theorem UQ (p : zL) (k : Str) (hb : p.yh ≤ 1048576) : zE (EV Tryz.prog pol) 78 [.agg (p.enc.map .t), .t (.fp [.str k])] = some (.t (.bool (keyOf p == k))) := by
  have h := jT p (by omega)
  simp only [zL.enc, List.map_cons, List.map_nil] at h ⊢
  apply zu
  refine zw rfl Tryz.func78 rfl (by kernel_rfl) ?_
  unfold Tryz.f78
  simp (disch := ((try simp only [LL]); omega)) only [↓GO, ↓DRW, GA, ren, zB, zd, refs, zb, cst, zl, zH, z7, E.load, E.store, zG, isC, bin, zI, zJ, una, z8, za, zh, zK, blt, fnV, asArg, ze, zn, zo, zj, zi, zg, zk, zr, z6, zD, zF, E.mkS, zc, unN, zM, zm, zy, zC, zf, zN, zq, GS, simprocAttr, GZ, h]
theorem UP (g : zU) (k : Str) (hB : GB g) : zE (EV Tryz.prog pol) 52 [.agg (g.enc.map .t), .t (.str k)] = some (.t (.int .i64 (ixI (j8 g.packs k)))) := by
  obtain ⟨b1, b2, b3⟩ := hB.len
  have h := ix 78 [.fp [.str k]] (fun p => keyOf p == k) g.packs (by omega) (fun x hx => UQ x k (b3 x hx))
  simp only [zU.enc, List.map_cons, List.map_nil] at h ⊢
  unfold j8
  apply zu
  refine zw rfl Tryz.func52 rfl (by kernel_rfl) ?_
  unfold Tryz.f52
  simp (disch := ((try simp only [LL]); omega)) only [↓GO, ↓DRW, GA, ren, zB, zd, refs, zb, cst, zl, zH, z7, E.load, E.store, zG, isC, bin, zI, zJ, una, z8, za, zh, zK, blt, fnV, asArg, ze, zn, zo, zj, zi, zg, zk, zr, z6, zD, zF, E.mkS, zc, unN, zM, zm, zy, zC, zf, zN, zq, GS, simprocAttr, GZ, h, zY]
theorem bR (g : zU) (k : Str) (hB : GB g) : ∀ (rest pre : List zL), g.packs = pre ++ rest →
    EV Tryz.prog pol (.loop 71 26 0 [.t (.str k), .ptr 0 0 0, .t (.int .i64 (pre.length : Int))] [.vs 2 [g.enc.map .t]]) = some (match r8 (fun p => keyOf p == k) rest pre.length with | some i => .loop .ret [.t (.int .i64 (i : Int))] [] | none => .loop (.exit 0) [.bad] [])
  | [], pre, hs => by
    have c : decide ((pre.length : Int) < (g.packs.length : Int)) = false := by simp [hs]
    simp only [zU.enc, List.map_cons, List.map_nil]
    refine zz Tryz.func71 rfl rfl ?_
    simp (disch := ((try simp only [LL]); omega)) only [↓GO, ↓DRW, GA, ren, zB, zd, refs, zb, cst, zl, zH, z7, E.load, E.store, zG, isC, bin, zI, zJ, una, z8, za, zh, zK, blt, fnV, asArg, ze, zn, zo, zj, zi, zg, zk, zr, z6, zD, zF, E.mkS, zc, unN, zM, zm, zy, zC, zf, zN, zq, GS, simprocAttr, GZ, c, zL.zR, r8, zY]
  | x :: rest, pre, hs => by
    obtain ⟨b1, b2, b3⟩ := hB.len
    have c : decide ((pre.length : Int) < (g.packs.length : Int)) = true := by simp [hs]; omega
    have hget : (zL.zV g.packs)[pre.length]? = some x.enc := by rw [hs]; exact wB zL.enc pre x rest
    have hlen : pre.length + rest.length + 1 ≤ g.packs.length := by rw [hs]; simp; omega
    have hk := jS x (by have := b3 x (by rw [hs]; simp); omega)
    have IH := bR g k hB rest (pre ++ [x]) (by rw [hs]; simp)
    rw [show ((pre ++ [x]).length : Int) = (pre.length : Int) + 1 by simp, show (pre ++ [x]).length = pre.length + 1 by simp] at IH
    clear hs
    simp only [zU.enc, zL.enc, List.map_cons, List.map_nil] at hget hk IH ⊢
    rw [r8]
    cases h1 : (keyOf x == k)
    all_goals
      refine zz Tryz.func71 rfl rfl ?_
      simp (disch := ((try simp only [LL]); omega)) only [↓GO, ↓DRW, GA, ren, zB, zd, refs, zb, cst, zl, zH, z7, E.load, E.store, zG, isC, bin, zI, zJ, una, z8, za, zh, zK, blt, fnV, asArg, ze, zn, zo, zj, zi, zg, zk, zr, z6, zD, zF, E.mkS, zc, unN, zM, zm, zy, zC, zf, zN, zq, GS, simprocAttr, GZ, c, zL.zR, hget, hk, h1, zx, IH, zY]
theorem UO (g : zU) (k : Str) (hB : GB g) : zE (EV Tryz.prog pol) 71 [.agg (g.enc.map .t), .t (.str k)] = some (.t (.int .i64 (ixI (j8 g.packs k)))) := by
  have L := bR g k hB g.packs [] rfl
  simp only [List.length_nil, Int.natCast_zero] at L
  simp only [zU.enc, List.map_cons, List.map_nil] at L ⊢
  unfold j8
  cases hf : r8 (fun p => keyOf p == k) g.packs 0 <;> rw [hf] at L <;> simp only at L
  all_goals
    apply zu
    refine zw rfl Tryz.func71 rfl (by kernel_rfl) ?_
    unfold Tryz.f71
    simp (disch := ((try simp only [LL]); omega)) only [↓GO, ↓DRW, GA, ren, zB, zd, refs, zb, cst, zl, zH, z7, E.load, E.store, zG, isC, bin, zI, zJ, una, z8, za, zh, zK, blt, fnV, asArg, ze, zn, zo, zj, zi, zg, zk, zr, z6, zD, zF, E.mkS, zc, unN, zM, zm, zy, zC, zf, zN, zq, GS, simprocAttr, GZ, L, ixI, zY]
theorem bP (g : zU) (hB : GB g) (ks : List Str) (hl : ks.length ≤ 1048576) : ∀ (rest pre : List Str), ks = pre ++ rest →
    EV Tryz.prog pol (.loop 63 26 0 [.t (.list 1 (y6 ks)), .ptr 0 0 0, .t (.list 1 (y6 ks)), .t (.int .i64 (ks.length : Int)), .t (.int .i64 (pre.length : Int))] [.vs 2 [g.enc.map .t]]) = some (cond (xZ g.packs pre.getLast? rest) (.loop (.exit 0) [.bad] []) (.loop .ret [.t (.bool false)] []))
  | [], pre, hs => by
    have c : decide ((pre.length : Int) < (ks.length : Int)) = false := by simp [hs]
    simp only [zU.enc, List.map_cons, List.map_nil]
    refine zz Tryz.func63 rfl rfl ?_
    simp (disch := ((try simp only [LL]); omega)) only [↓GO, ↓DRW, GA, ren, zB, zd, refs, zb, cst, zl, zH, z7, E.load, E.store, zG, isC, bin, zI, zJ, una, z8, za, zh, zK, blt, fnV, asArg, ze, zn, zo, zj, zi, zg, zk, zr, z6, zD, zF, E.mkS, zc, unN, zM, zm, zy, zC, zf, zN, zq, GS, simprocAttr, GZ, c, xZ, zY]
  | x :: rest, pre, hs => by
    have c : decide ((pre.length : Int) < (ks.length : Int)) = true := by simp [hs]; omega
    have hget : (y6 ks)[pre.length]? = some [.str x] := by rw [hs]; exact xU pre x rest
    have hlen : pre.length + rest.length + 1 ≤ ks.length := by rw [hs]; simp; omega
    have IH := bP g hB ks hl rest (pre ++ [x]) (by rw [hs]; simp)
    have hk := UP g x hB
    have hlt := Vg (fun p => keyOf p == x) g.packs
    rw [show ((pre ++ [x]).length : Int) = (pre.length : Int) + 1 by simp, show (pre ++ [x]).getLast? = some x by simp] at IH
    rw [xZ]
    unfold Ly
    unfold j8 at hk
    generalize ixI (r8 (fun p => keyOf p == x) g.packs 0) = n at *
    generalize (g.packs.any fun p => keyOf p == x) = b1 at *
    simp only [zU.enc, List.map_cons, List.map_nil] at hk IH ⊢
    rcases wj pre with rfl | ⟨pre', q, rfl⟩
    · clear hs
      simp only [List.length_nil, List.getLast?_nil, vS, Int.natCast_zero, Int.zero_add] at *
      cases b1 <;> simp only [Bool.not_true, Bool.not_false] at hlt
      all_goals
        refine zz Tryz.func63 rfl rfl ?_
        simp (disch := ((try simp only [LL]); omega)) only [↓GO, ↓DRW, GA, ren, zB, zd, refs, zb, cst, zl, zH, z7, E.load, E.store, zG, isC, bin, zI, zJ, una, z8, za, zh, zK, blt, fnV, asArg, ze, zn, zo, zj, zi, zg, zk, zr, z6, zD, zF, E.mkS, zc, unN, zM, zm, zy, zC, zf, zN, zq, GS, simprocAttr, GZ, zP, c, hget, zx, hk, hlt, IH, Int.zero_add, zY]
    · have hprev : uG (y6 ks) (((pre' ++ [q]).length : Int) - 1) = some [.str q] := by rw [hs]; exact uz (fun s => [T.str s]) pre' q (x :: rest)
      have hge : 1 ≤ (pre' ++ [q]).length := by simp
      have hgt : decide (((pre' ++ [q]).length : Int) > 0) = true := by simp only [decide_eq_true_eq]; omega
      have hcmp := qz x q
      rw [show (pre' ++ [q]).getLast? = some q by simp]
      simp only [vS]
      clear hs
      generalize (pre' ++ [q]).length = m at *
      cases b1 <;> simp only [Bool.not_true, Bool.not_false] at hlt <;> cases h2 : Op.bytesLess q x <;> rw [h2] at hcmp
      all_goals
        refine zz Tryz.func63 rfl rfl ?_
        simp (disch := ((try simp only [LL]); omega)) only [↓GO, ↓DRW, GA, ren, zB, zd, refs, zb, cst, zl, zH, z7, E.load, E.store, zG, isC, bin, zI, zJ, una, z8, za, zh, zK, blt, fnV, asArg, ze, zn, zo, zj, zi, zg, zk, zr, z6, zD, zF, E.mkS, zc, unN, zM, zm, zy, zC, zf, zN, zq, GS, simprocAttr, GZ, zP, c, hget, zx, hk, hlt, hgt, hprev, hcmp, IH, zY]
theorem aE (g : zU) (hB : GB g) (ks : List Str) (hl : ks.length ≤ 1048576) : zE (EV Tryz.prog pol) 63 [.agg (g.enc.map .t), .t (.list 1 (y6 ks))] = some (.t (.bool (xZ g.packs none ks))) := by
  have L := bP g hB ks hl ks [] rfl
  simp only [List.length_nil, Int.natCast_zero, List.getLast?_nil] at L
  simp only [zU.enc, List.map_cons, List.map_nil] at L ⊢
  cases h : xZ g.packs none ks <;> rw [h] at L <;> simp only [cond_true, cond_false] at L
  all_goals
    apply zu
    refine zw rfl Tryz.func63 rfl (by kernel_rfl) ?_
    unfold Tryz.f63
    simp (disch := ((try simp only [LL]); omega)) only [↓GO, ↓DRW, GA, ren, zB, zd, refs, zb, cst, zl, zH, z7, E.load, E.store, zG, isC, bin, zI, zJ, una, z8, za, zh, zK, blt, fnV, asArg, ze, zn, zo, zj, zi, zg, zk, zr, z6, zD, zF, E.mkS, zc, unN, zM, zm, zy, zC, zf, zN, zq, GS, simprocAttr, GZ, L, zP, zY]
theorem bO (g : zU) (hB : GB g) (ks : List Str) (hl : ks.length ≤ 1048576) : ∀ (rest pre : List Str), ks = pre ++ rest →
    EV Tryz.prog pol (.loop 57 26 0 [.t (.list 1 (y6 ks)), .ptr 0 0 0, .t (.int .i64 (pre.length : Int))] [.vs 2 [g.enc.map .t]]) = some (cond (xZ g.packs pre.getLast? rest) (.loop (.exit 0) [.bad] []) (.loop .ret [.t (.bool false)] []))
  | [], pre, hs => by
    have c : decide ((pre.length : Int) < (ks.length : Int)) = false := by simp [hs]
    simp only [zU.enc, List.map_cons, List.map_nil]
    refine zz Tryz.func57 rfl rfl ?_
    simp (disch := ((try simp only [LL]); omega)) only [↓GO, ↓DRW, GA, ren, zB, zd, refs, zb, cst, zl, zH, z7, E.load, E.store, zG, isC, bin, zI, zJ, una, z8, za, zh, zK, blt, fnV, asArg, ze, zn, zo, zj, zi, zg, zk, zr, z6, zD, zF, E.mkS, zc, unN, zM, zm, zy, zC, zf, zN, zq, GS, simprocAttr, GZ, c, zP, xZ, zY]
  | x :: rest, pre, hs => by
    have c : decide ((pre.length : Int) < (ks.length : Int)) = true := by simp [hs]; omega
    have hget : (y6 ks)[pre.length]? = some [.str x] := by rw [hs]; exact xU pre x rest
    have hlen : pre.length + rest.length + 1 ≤ ks.length := by rw [hs]; simp; omega
    have IH := bO g hB ks hl rest (pre ++ [x]) (by rw [hs]; simp)
    have hk := UO g x hB
    have hlt := Vg (fun p => keyOf p == x) g.packs
    rw [show ((pre ++ [x]).length : Int) = (pre.length : Int) + 1 by simp, show (pre ++ [x]).getLast? = some x by simp] at IH
    rw [xZ]
    unfold Ly
    unfold j8 at hk
    generalize ixI (r8 (fun p => keyOf p == x) g.packs 0) = n at *
    generalize (g.packs.any fun p => keyOf p == x) = b1 at *
    simp only [zU.enc, List.map_cons, List.map_nil] at hk IH ⊢
    rcases wj pre with rfl | ⟨pre', q, rfl⟩
    · clear hs
      simp only [List.length_nil, List.getLast?_nil, vS, Int.natCast_zero, Int.zero_add] at *
      cases b1 <;> simp only [Bool.not_true, Bool.not_false] at hlt
      all_goals
        refine zz Tryz.func57 rfl rfl ?_
        simp (disch := ((try simp only [LL]); omega)) only [↓GO, ↓DRW, GA, ren, zB, zd, refs, zb, cst, zl, zH, z7, E.load, E.store, zG, isC, bin, zI, zJ, una, z8, za, zh, zK, blt, fnV, asArg, ze, zn, zo, zj, zi, zg, zk, zr, z6, zD, zF, E.mkS, zc, unN, zM, zm, zy, zC, zf, zN, zq, GS, simprocAttr, GZ, zP, c, hget, zx, hk, hlt, IH, Int.zero_add, zY]
    · have hprev : uG (y6 ks) (((pre' ++ [q]).length : Int) - 1) = some [.str q] := by rw [hs]; exact uz (fun s => [T.str s]) pre' q (x :: rest)
      have hge : 1 ≤ (pre' ++ [q]).length := by simp
      have hgt : decide (((pre' ++ [q]).length : Int) > 0) = true := by simp only [decide_eq_true_eq]; omega
      rw [show (pre' ++ [q]).getLast? = some q by simp]
      simp only [vS]
      clear hs
      generalize (pre' ++ [q]).length = m at *
      cases b1 <;> simp only [Bool.not_true, Bool.not_false] at hlt <;> cases h2 : Op.bytesLess q x
      all_goals
        refine zz Tryz.func57 rfl rfl ?_
        simp (disch := ((try simp only [LL]); omega)) only [↓GO, ↓DRW, GA, ren, zB, zd, refs, zb, cst, zl, zH, z7, E.load, E.store, zG, isC, bin, zI, zJ, una, z8, za, zh, zK, blt, fnV, asArg, ze, zn, zo, zj, zi, zg, zk, zr, z6, zD, zF, E.mkS, zc, unN, zM, zm, zy, zC, zf, zN, zq, GS, simprocAttr, GZ, zP, c, hget, zx, hk, hlt, hgt, hprev, h2, IH, zY]
theorem aD (g : zU) (hB : GB g) (ks : List Str) (hl : ks.length ≤ 1048576) : zE (EV Tryz.prog pol) 57 [.agg (g.enc.map .t), .t (.list 1 (y6 ks))] = some (.t (.bool (xZ g.packs none ks))) := by
  have L := bO g hB ks hl ks [] rfl
  simp only [List.length_nil, Int.natCast_zero, List.getLast?_nil] at L
  simp only [zU.enc, List.map_cons, List.map_nil] at L ⊢
  cases h : xZ g.packs none ks <;> rw [h] at L <;> simp only [cond_true, cond_false] at L
  all_goals
    apply zu
    refine zw rfl Tryz.func57 rfl (by kernel_rfl) ?_
    unfold Tryz.f57
    simp (disch := ((try simp only [LL]); omega)) only [↓GO, ↓DRW, GA, ren, zB, zd, refs, zb, cst, zl, zH, z7, E.load, E.store, zG, isC, bin, zI, zJ, una, z8, za, zh, zK, blt, fnV, asArg, ze, zn, zo, zj, zi, zg, zk, zr, z6, zD, zF, E.mkS, zc, unN, zM, zm, zy, zC, zf, zN, zq, GS, simprocAttr, GZ, L, zP, zY]
end Go.Proofs.YtmcephnfcciloaaGreatDoor
/- Is a graph right? By both. Conditions: those of each lemma. -/
namespace Go.Proofs.YtmcephnfcciloaaGreatDoor
open E
set_option linter.unusedSimpArgs false
set_option linter.unusedVariables false
set_option maxRecDepth 100000
theorem np {p : zL} {n : Nat} (h : p.yh ≤ n) : p.needs.length ≤ n ∧ yk p.needs ≤ n ∧ p.sums.length ≤ n ∧ zZ.ya p.sums ≤ n ∧ p.name.length ≤ n ∧ p.version.length ≤ n ∧ p.source.length ≤ n := by
  unfold zL.yh at h; omega
theorem Vd (g : zU) (hB : GB g) : ∀ (rest pre : List zL), g.packs = pre ++ rest →
    EV Tryz.prog pol (.loop 33 26 0 [.ptr 0 0 0, .t (.list 6 (zL.zV g.packs)), .t (.int .i64 (g.packs.length : Int)), .t (.int .i64 (pre.length : Int))] [.vs 2 [g.enc.map .t]]) = some (cond (wV g.packs (pre.getLast?.map keyOf) rest) (.loop (.exit 0) [.ptr 0 0 0, .bad] [.vs 2 [g.enc.map .t]]) (.loop .ret [.ptr 0 0 0, .t (.bool false)] [.vs 2 [g.enc.map .t]]))
  | [], pre, hs => by
    have c : decide ((pre.length : Int) < (g.packs.length : Int)) = false := by simp [hs]
    simp only [zU.enc, List.map_cons, List.map_nil]
    refine zz Tryz.func33 rfl rfl ?_
    simp (disch := ((try simp only [LL]); omega)) only [↓GO, ↓DRW, GA, ren, zB, zd, refs, zb, cst, zl, zH, z7, E.load, E.store, zG, isC, bin, zI, zJ, una, z8, za, zh, zK, blt, fnV, asArg, ze, zn, zo, zj, zi, zg, zk, zr, z6, zD, zF, E.mkS, zc, unN, zM, zm, zy, zC, zf, zN, zq, GS, simprocAttr, GZ, c, wV, zY]
  | x :: rest, pre, hs => by
    obtain ⟨b1, b2, b3⟩ := hB.len
    have c : decide ((pre.length : Int) < (g.packs.length : Int)) = true := by simp [hs]; omega
    have hget : (zL.zV g.packs)[pre.length]? = some x.enc := by rw [hs]; exact wB zL.enc pre x rest
    have hlen : pre.length + rest.length + 1 ≤ g.packs.length := by rw [hs]; simp; omega
    have hxb := b3 x (by rw [hs]; simp)
    have IH := Vd g hB rest (pre ++ [x]) (by rw [hs]; simp)
    have h1 := UJ x hxb
    have h2 := jT x (by omega)
    have h3 := aE g hB x.needs (np hxb).1
    rw [show ((pre ++ [x]).length : Int) = (pre.length : Int) + 1 by simp, show (pre ++ [x]).getLast?.map keyOf = some (keyOf x) by simp] at IH
    rw [wV]
    generalize rT x = a1 at *
    generalize xZ g.packs none x.needs = a2 at *
    rcases wj pre with rfl | ⟨pre', q, rfl⟩
    · clear hs
      generalize keyOf x = kx at *
      simp only [List.length_nil, List.getLast?_nil, Option.map_none, vS, Int.natCast_zero, Int.zero_add] at *
      simp only [zU.enc, zL.enc, List.map_cons, List.map_nil] at hget h1 h2 h3 IH ⊢
      cases a1 <;> cases a2
      all_goals
        refine zz Tryz.func33 rfl rfl ?_
        simp (disch := ((try simp only [LL]); omega)) only [↓GO, ↓DRW, GA, ren, zB, zd, refs, zb, cst, zl, zH, z7, E.load, E.store, zG, isC, bin, zI, zJ, una, z8, za, zh, zK, blt, fnV, asArg, ze, zn, zo, zj, zi, zg, zk, zr, z6, zD, zF, E.mkS, zc, unN, zM, zm, zy, zC, zf, zN, zq, GS, simprocAttr, GZ, zL.zR, c, hget, zx, h1, h2, h3, IH, Int.zero_add, zY]
    · have hprev : uG (zL.zV g.packs) (((pre' ++ [q]).length : Int) - 1) = some q.enc := by rw [hs]; exact uz zL.enc pre' q (x :: rest)
      have h4 := jT q (by have := b3 q (by rw [hs]; simp); omega)
      have hge : 1 ≤ (pre' ++ [q]).length := by simp
      have hgt : decide (((pre' ++ [q]).length : Int) > 0) = true := by simp only [decide_eq_true_eq]; omega
      have hcmp := qz (keyOf x) (keyOf q)
      rw [show (pre' ++ [q]).getLast?.map keyOf = some (keyOf q) by simp]
      simp only [vS]
      clear hs
      generalize (pre' ++ [q]).length = m at *
      generalize keyOf x = kx at *
      generalize keyOf q = kq at *
      simp only [zU.enc, zL.enc, List.map_cons, List.map_nil] at hget hprev h1 h2 h3 h4 IH ⊢
      cases a1 <;> cases a2 <;> cases h5 : Op.bytesLess kq kx <;> rw [h5] at hcmp
      all_goals
        refine zz Tryz.func33 rfl rfl ?_
        simp (disch := ((try simp only [LL]); omega)) only [↓GO, ↓DRW, GA, ren, zB, zd, refs, zb, cst, zl, zH, z7, E.load, E.store, zG, isC, bin, zI, zJ, una, z8, za, zh, zK, blt, fnV, asArg, ze, zn, zo, zj, zi, zg, zk, zr, z6, zD, zF, E.mkS, zc, unN, zM, zm, zy, zC, zf, zN, zq, GS, simprocAttr, GZ, zL.zR, c, hget, zx, h1, h2, h3, h4, hgt, hprev, hcmp, IH, zY]
theorem Vr (g : zU) (hB : GB g) : zE (EV Tryz.prog pol) 33 [.agg (g.enc.map .t)] = some (.t (.bool (w7 g))) := by
  have L := Vd g hB g.packs [] rfl
  have h3 := aE g hB g.top (by have := hB.len; omega)
  simp only [List.length_nil, Int.natCast_zero, List.getLast?_nil, Option.map_none] at L
  simp only [zU.enc, List.map_cons, List.map_nil] at L h3 ⊢
  unfold w7
  generalize xZ g.packs none g.top = a2 at *
  cases h : wV g.packs none g.packs <;> rw [h] at L <;> simp only [cond_true, cond_false] at L <;> cases h4 : decide ((g.packs.length : Int) ≤ 40) <;> cases a2
  all_goals
    apply zu
    refine zw rfl Tryz.func33 rfl (by kernel_rfl) ?_
    unfold Tryz.f33
    simp (disch := ((try simp only [LL]); omega)) only [↓GO, ↓DRW, GA, ren, zB, zd, refs, zb, cst, zl, zH, z7, E.load, E.store, zG, isC, bin, zI, zJ, una, z8, za, zh, zK, blt, fnV, asArg, ze, zn, zo, zj, zi, zg, zk, zr, z6, zD, zF, E.mkS, zc, unN, zM, zm, zy, zC, zf, zN, zq, GS, simprocAttr, GZ, L, zL.zR, h3, h4, zY]
theorem Vc (g : zU) (hB : GB g) : ∀ (rest pre : List zL), g.packs = pre ++ rest →
    EV Tryz.prog pol (.loop 27 26 0 [.ptr 0 0 0, .t (.int .i64 (pre.length : Int))] [.vs 2 [g.enc.map .t]]) = some (cond (wV g.packs (pre.getLast?.map keyOf) rest) (.loop (.exit 0) [.ptr 0 0 0, .bad] [.vs 2 [g.enc.map .t]]) (.loop .ret [.ptr 0 0 0, .t (.bool false)] [.vs 2 [g.enc.map .t]]))
  | [], pre, hs => by
    have c : decide ((pre.length : Int) < (g.packs.length : Int)) = false := by simp [hs]
    simp only [zU.enc, List.map_cons, List.map_nil]
    refine zz Tryz.func27 rfl rfl ?_
    simp (disch := ((try simp only [LL]); omega)) only [↓GO, ↓DRW, GA, ren, zB, zd, refs, zb, cst, zl, zH, z7, E.load, E.store, zG, isC, bin, zI, zJ, una, z8, za, zh, zK, blt, fnV, asArg, ze, zn, zo, zj, zi, zg, zk, zr, z6, zD, zF, E.mkS, zc, unN, zM, zm, zy, zC, zf, zN, zq, GS, simprocAttr, GZ, c, zL.zR, wV, zY]
  | x :: rest, pre, hs => by
    obtain ⟨b1, b2, b3⟩ := hB.len
    have c : decide ((pre.length : Int) < (g.packs.length : Int)) = true := by simp [hs]; omega
    have hget : (zL.zV g.packs)[pre.length]? = some x.enc := by rw [hs]; exact wB zL.enc pre x rest
    have hlen : pre.length + rest.length + 1 ≤ g.packs.length := by rw [hs]; simp; omega
    have hxb := b3 x (by rw [hs]; simp)
    have IH := Vc g hB rest (pre ++ [x]) (by rw [hs]; simp)
    have h1 := UI x hxb
    have h2 := jS x (by omega)
    have h3 := aD g hB x.needs (np hxb).1
    rw [show ((pre ++ [x]).length : Int) = (pre.length : Int) + 1 by simp, show (pre ++ [x]).getLast?.map keyOf = some (keyOf x) by simp] at IH
    rw [wV]
    generalize rT x = a1 at *
    generalize xZ g.packs none x.needs = a2 at *
    rcases wj pre with rfl | ⟨pre', q, rfl⟩
    · clear hs
      generalize keyOf x = kx at *
      simp only [List.length_nil, List.getLast?_nil, Option.map_none, vS, Int.natCast_zero, Int.zero_add] at *
      simp only [zU.enc, zL.enc, List.map_cons, List.map_nil] at hget h1 h2 h3 IH ⊢
      cases a1 <;> cases a2
      all_goals
        refine zz Tryz.func27 rfl rfl ?_
        simp (disch := ((try simp only [LL]); omega)) only [↓GO, ↓DRW, GA, ren, zB, zd, refs, zb, cst, zl, zH, z7, E.load, E.store, zG, isC, bin, zI, zJ, una, z8, za, zh, zK, blt, fnV, asArg, ze, zn, zo, zj, zi, zg, zk, zr, z6, zD, zF, E.mkS, zc, unN, zM, zm, zy, zC, zf, zN, zq, GS, simprocAttr, GZ, zL.zR, c, hget, zx, h1, h2, h3, IH, Int.zero_add, zY]
    · have hprev : uG (zL.zV g.packs) (((pre' ++ [q]).length : Int) - 1) = some q.enc := by rw [hs]; exact uz zL.enc pre' q (x :: rest)
      have h4 := jS q (by have := b3 q (by rw [hs]; simp); omega)
      have hge : 1 ≤ (pre' ++ [q]).length := by simp
      have hgt : decide (((pre' ++ [q]).length : Int) > 0) = true := by simp only [decide_eq_true_eq]; omega
      rw [show (pre' ++ [q]).getLast?.map keyOf = some (keyOf q) by simp]
      simp only [vS]
      clear hs
      generalize (pre' ++ [q]).length = m at *
      generalize keyOf x = kx at *
      generalize keyOf q = kq at *
      simp only [zU.enc, zL.enc, List.map_cons, List.map_nil] at hget hprev h1 h2 h3 h4 IH ⊢
      cases a1 <;> cases a2 <;> cases h5 : Op.bytesLess kq kx
      all_goals
        refine zz Tryz.func27 rfl rfl ?_
        simp (disch := ((try simp only [LL]); omega)) only [↓GO, ↓DRW, GA, ren, zB, zd, refs, zb, cst, zl, zH, z7, E.load, E.store, zG, isC, bin, zI, zJ, una, z8, za, zh, zK, blt, fnV, asArg, ze, zn, zo, zj, zi, zg, zk, zr, z6, zD, zF, E.mkS, zc, unN, zM, zm, zy, zC, zf, zN, zq, GS, simprocAttr, GZ, zL.zR, c, hget, zx, h1, h2, h3, h4, hgt, hprev, h5, IH, zY]
theorem Vq (g : zU) (hB : GB g) : zE (EV Tryz.prog pol) 27 [.agg (g.enc.map .t)] = some (.t (.bool (w7 g))) := by
  have L := Vc g hB g.packs [] rfl
  have h3 := aD g hB g.top (by have := hB.len; omega)
  simp only [List.length_nil, Int.natCast_zero, List.getLast?_nil, Option.map_none] at L
  simp only [zU.enc, List.map_cons, List.map_nil] at L h3 ⊢
  unfold w7
  generalize xZ g.packs none g.top = a2 at *
  cases h : wV g.packs none g.packs <;> rw [h] at L <;> simp only [cond_true, cond_false] at L <;> cases h4 : decide ((g.packs.length : Int) ≤ 40) <;> cases a2
  all_goals
    apply zu
    refine zw rfl Tryz.func27 rfl (by kernel_rfl) ?_
    unfold Tryz.f27
    simp (disch := ((try simp only [LL]); omega)) only [↓GO, ↓DRW, GA, ren, zB, zd, refs, zb, cst, zl, zH, z7, E.load, E.store, zG, isC, bin, zI, zJ, una, z8, za, zh, zK, blt, fnV, asArg, ze, zn, zo, zj, zi, zg, zk, zr, z6, zD, zF, E.mkS, zc, unN, zM, zm, zy, zC, zf, zN, zq, GS, simprocAttr, GZ, L, zL.zR, h3, h4, zY]
end Go.Proofs.YtmcephnfcciloaaGreatDoor
/- What notices tell of a graph, by both. Conditions: those of each lemma. -/
namespace Go.Proofs.YtmcephnfcciloaaGreatDoor
open E
set_option linter.unusedSimpArgs false
set_option linter.unusedVariables false
set_option maxRecDepth 100000
theorem lz {s : Str} {l : List Bd} (h : wq s = some l) : BdB l := by
  unfold wq at h
  cases hc : (decide ((s.length : Int) > 200) || decide (((yV 0 s).length : Int) > 8)) with
  | true => rw [hc] at h; cases h
  | false =>
    rw [hc, cond_false] at h
    have h1 := nT h
    have h2 := (sJ _ _ h).2
    simp only [Bool.or_eq_false_iff, decide_eq_false_iff_not] at hc
    exact ⟨by omega, fun b hb => by have := h1 b hb; omega⟩
theorem c_afI (n : zt) (hb : n.yh ≤ 1048576) (name ver : Str) (hn : name.length ≤ 1048576) (hv : ver.length ≤ 1048576) : zE (EV Tryz.prog pol) 34 [.agg (n.enc.map .t), .t (.str name), .t (.str ver)] = some (.t (.bool (afT n name ver))) := by
  have d1 := c_noI n hb
  have d2 := Tv n.range (by simp only [zt.yh] at hb; omega)
  rw [nk] at d2
  unfold afT
  have e : qW n = xI n := rfl
  rw [e]
  cases hr : wq n.range with
  | none =>
    have hno : xI n = false := by unfold xI; rw [hr]; rfl
    rw [hno] at d1 ⊢
    rw [hr] at d2
    simp only [Bool.false_and, rrT] at d2 ⊢
    obtain ⟨nm, rg, tx⟩ := n
    simp only [zt.enc, List.map_cons, List.map_nil] at d1 d2 ⊢
    apply zu
    refine zw rfl Tryz.func34 rfl (by kernel_rfl) ?_
    unfold Tryz.f34
    simp (disch := ((try simp only [LL]); omega)) only [↓GO, ↓DRW, GA, ren, zB, zd, refs, zb, cst, zl, zH, z7, E.load, E.store, zG, isC, bin, zI, zJ, una, z8, za, zh, zK, blt, fnV, asArg, ze, zn, zo, zj, zi, zg, zk, zr, z6, zD, zF, E.mkS, zc, unN, zM, zm, zy, zC, zf, zN, zq, GS, simprocAttr, GZ, d1, d2, zY]
  | some l =>
    have d3 := c_inI ver hv l (lz hr)
    rw [hr] at d2
    simp only [rrT, Option.getD_some] at d2 ⊢
    generalize xI n = ok at *
    generalize inB ver l = t at *
    obtain ⟨nm, rg, tx⟩ := n
    simp only [zt.enc, List.map_cons, List.map_nil] at d1 d2 ⊢
    cases ok <;> cases q : (nm == name) <;> simp only [Bool.true_and, Bool.false_and]
    all_goals
      apply zu
      refine zw rfl Tryz.func34 rfl (by kernel_rfl) ?_
      unfold Tryz.f34
      simp (disch := ((try simp only [LL]); omega)) only [↓GO, ↓DRW, GA, ren, zB, zd, refs, zb, cst, zl, zH, z7, E.load, E.store, zG, isC, bin, zI, zJ, una, z8, za, zh, zK, blt, fnV, asArg, ze, zn, zo, zj, zi, zg, zk, zr, z6, zD, zF, E.mkS, zc, unN, zM, zm, zy, zC, zf, zN, zq, GS, simprocAttr, GZ, d1, d2, d3, q, zY]
theorem c_afR (n : zt) (hb : n.yh ≤ 1048576) (name ver : Str) (hn : name.length ≤ 1048576) (hv : ver.length ≤ 1048576) : zE (EV Tryz.prog pol) 28 [.agg (n.enc.map .t), .t (.str name), .t (.str ver)] = some (.t (.bool (afT n name ver))) := by
  have d1 := c_noR n hb
  have d2 := Tu n.range (by simp only [zt.yh] at hb; omega)
  unfold afT
  have e : qW n = xI n := rfl
  rw [e]
  cases hr : wq n.range with
  | none =>
    have hno : xI n = false := by unfold xI; rw [hr]; rfl
    rw [hno] at d1 ⊢
    rw [hr] at d2
    simp only [Bool.false_and, rrT] at d2 ⊢
    obtain ⟨nm, rg, tx⟩ := n
    simp only [zt.enc, List.map_cons, List.map_nil] at d1 d2 ⊢
    apply zu
    refine zw rfl Tryz.func28 rfl (by kernel_rfl) ?_
    unfold Tryz.f28
    simp (disch := ((try simp only [LL]); omega)) only [↓GO, ↓DRW, GA, ren, zB, zd, refs, zb, cst, zl, zH, z7, E.load, E.store, zG, isC, bin, zI, zJ, una, z8, za, zh, zK, blt, fnV, asArg, ze, zn, zo, zj, zi, zg, zk, zr, z6, zD, zF, E.mkS, zc, unN, zM, zm, zy, zC, zf, zN, zq, GS, simprocAttr, GZ, d1, d2, zY]
  | some l =>
    have d3 := c_inR ver hv l (lz hr)
    rw [hr] at d2
    simp only [rrT, Option.getD_some] at d2 ⊢
    generalize xI n = ok at *
    generalize inB ver l = t at *
    obtain ⟨nm, rg, tx⟩ := n
    simp only [zt.enc, List.map_cons, List.map_nil] at d1 d2 ⊢
    cases ok <;> cases q : (nm == name) <;> simp only [Bool.true_and, Bool.false_and]
    all_goals
      apply zu
      refine zw rfl Tryz.func28 rfl (by kernel_rfl) ?_
      unfold Tryz.f28
      simp (disch := ((try simp only [LL]); omega)) only [↓GO, ↓DRW, GA, ren, zB, zd, refs, zb, cst, zl, zH, z7, E.load, E.store, zG, isC, bin, zI, zJ, una, z8, za, zh, zK, blt, fnV, asArg, ze, zn, zo, zj, zi, zg, zk, zr, z6, zD, zF, E.mkS, zc, unN, zM, zm, zy, zC, zf, zN, zq, GS, simprocAttr, GZ, d1, d2, d3, q, zY]
def auP (p : zL) (ns : List zt) : List Str := (ns.filter fun n => afT n p.name p.version).map fun n => (keyOf p ++ [32]) ++ n.text
theorem eu (p : zL) (n : zt) (ns : List zt) : auP p (n :: ns) = cond (afT n p.name p.version) (((keyOf p ++ [32]) ++ n.text) :: auP p ns) (auP p ns) := by
  unfold auP
  rw [List.filter_cons]
  cases afT n p.name p.version <;> rfl
theorem jH (p : zL) (ns : List zt) : (auP p ns).length ≤ ns.length := by
  unfold auP; rw [List.length_map]; exact List.length_filter_le _ _
theorem tO (ns : List zt) (p : zL) (ps : List zL) : x8 ns (p :: ps) = auP p ns ++ x8 ns ps := rfl
theorem nS (ns : List zt) : ∀ ps : List zL, (x8 ns ps).length ≤ ps.length * ns.length
  | [] => by simp [x8]
  | p :: ps => by
    rw [tO, List.length_append, List.length_cons, Nat.add_mul]
    have h1 := jH p ns
    have h2 := nS ns ps
    omega
theorem cC (ns : List zt) (hl : ns.length ≤ 1048576) (hb : ∀ n ∈ ns, n.yh ≤ 1048576) (p : zL) (hp : p.yh ≤ 1048576) (pl : T) (a b : T) (M : Nat) (hM : M ≤ 1099511627776) : ∀ (rest pre : List zt) (acc : List Str) (m : Nat) (cap : Option Nat), ns = pre ++ rest → m = acc.length → m + rest.length ≤ M → ∃ cap',
    EV Tryz.prog pol (.loop 11 31334 0 [.t (.list 3 (zt.zV ns)), .sl 0 0 m cap, .ptr 1 0 0, .t pl, .t a, .t b, .t (.list 3 (zt.zV ns)), .t (.int .i64 (ns.length : Int)), .t (.int .i64 (pre.length : Int))] [.ts 1 (y6 acc), .vs 6 [p.enc.map .t]])
      = some (.loop (.exit 2) [.t (.list 3 (zt.zV ns)), .sl 0 0 (m + (auP p rest).length) cap', .t pl, .t a, .t b] [.ts 1 (y6 (acc ++ auP p rest))])
  | [], pre, acc, m, cap, h, hm, hmM => by
    have c : decide ((pre.length : Int) < (ns.length : Int)) = false := by simp [h]
    refine ⟨cap, ?_⟩
    rw [show auP p [] = [] from rfl]
    simp only [List.append_nil, List.length_nil, Nat.add_zero, zL.enc, List.map_cons, List.map_nil]
    refine zz Tryz.func11 rfl rfl ?_
    simp (disch := ((try simp only [LL]); omega)) only [↓GO, ↓DRW, GA, ren, zB, zd, refs, zb, cst, zl, zH, z7, E.load, E.store, zG, isC, bin, zI, zJ, una, z8, za, zh, zK, blt, fnV, asArg, ze, zn, zo, zj, zi, zg, zk, zr, z6, zD, zF, E.mkS, zc, unN, zM, zm, zy, zC, zf, zN, zq, GS, simprocAttr, GZ, c, zY]
  | n :: rest, pre, acc, m, cap, h, hm, hmM => by
    have c : decide ((pre.length : Int) < (ns.length : Int)) = true := by simp [h]; omega
    have hget : (zt.zV ns)[pre.length]? = some n.enc := by rw [h]; simp [zt.zV]
    have hlen : pre.length + rest.length + 1 ≤ ns.length := by rw [h]; simp; omega
    have hnb := hb n (by rw [h]; simp)
    have hpb := hp
    simp only [zL.yh] at hpb
    have d1 := c_afI n hnb p.name p.version (by omega) (by omega)
    have d2 := jT p (by omega)
    have hkl : (keyOf p).length ≤ 2097153 := by unfold keyOf; simp only [List.length_append, List.length_cons, List.length_nil]; omega
    have htl : n.text.length ≤ 1048576 := by simp only [zt.yh] at hnb; omega
    have hsl : (y6 acc).length = m := by rw [zP, hm]
    simp only [List.length_cons] at hmM
    have IH0 := cC ns hl hb p hp pl a b M hM rest (pre ++ [n]) acc m cap (by rw [h]; simp) hm (by omega)
    have IH1 := cC ns hl hb p hp pl a b M hM rest (pre ++ [n]) (acc ++ [(keyOf p ++ [32]) ++ n.text]) (m + 1) none (by rw [h]; simp) (by simp [hm]) (by omega)
    rw [show ((pre ++ [n]).length : Int) = (pre.length : Int) + 1 by simp] at IH0 IH1
    rw [show y6 (acc ++ [(keyOf p ++ [32]) ++ n.text]) = y6 acc ++ [[.str ((keyOf p ++ [32]) ++ n.text)]] by simp [y6]] at IH1
    rw [eu]
    clear h hb
    obtain ⟨nm, rg, tx⟩ := n
    obtain ⟨name, version, source, sums, dev, needs⟩ := p
    generalize keyOf ⟨name, version, source, sums, dev, needs⟩ = key at *
    generalize auP ⟨name, version, source, sums, dev, needs⟩ rest = R at *
    simp only [zt.enc, zL.enc, List.map_cons, List.map_nil] at d1 d2 hget IH0 IH1 htl ⊢
    cases q : afT ⟨nm, rg, tx⟩ name version with
    | false =>
      obtain ⟨cap', IH⟩ := IH0
      refine ⟨cap', ?_⟩
      rw [q] at d1
      simp only [cond_false]
      refine zz Tryz.func11 rfl rfl ?_
      simp (disch := ((try simp only [LL]); omega)) only [↓GO, ↓DRW, GA, ren, zB, zd, refs, zb, cst, zl, zH, z7, E.load, E.store, zG, isC, bin, zI, zJ, una, z8, za, zh, zK, blt, fnV, asArg, ze, zn, zo, zj, zi, zg, zk, zr, z6, zD, zF, E.mkS, zc, unN, zM, zm, zy, zC, zf, zN, zq, GS, simprocAttr, GZ, c, hget, d1, zx, zY, IH]
    | true =>
      obtain ⟨cap', IH⟩ := IH1
      refine ⟨cap', ?_⟩
      rw [q] at d1
      simp only [cond_true, List.length_cons]
      rw [show m + (R.length + 1) = m + 1 + R.length by omega, show acc ++ (key ++ [32] ++ tx) :: R = (acc ++ [key ++ [32] ++ tx]) ++ R by simp]
      generalize (acc ++ [key ++ [32] ++ tx]) ++ R = Z at *
      refine zz Tryz.func11 rfl rfl ?_
      simp (disch := ((try simp only [LL]); omega)) only [↓GO, ↓DRW, GA, ren, zB, zd, refs, zb, cst, zl, zH, z7, E.load, E.store, zG, isC, bin, zI, zJ, una, z8, za, zh, zK, blt, fnV, asArg, ze, zn, zo, zj, zi, zg, zk, zr, z6, zD, zF, E.mkS, zc, unN, zM, zm, zy, zC, zf, zN, zq, GS, simprocAttr, GZ, c, hget, d1, d2, zx, hsl, zY, IH, wh]
      refine yT (by kernel_rfl) ?_
      first | rfl | exact IH
end Go.Proofs.YtmcephnfcciloaaGreatDoor
/- What notices tell of a graph, by both: the functions. Conditions: those of each lemma. -/
namespace Go.Proofs.YtmcephnfcciloaaGreatDoor
open E
set_option linter.unusedSimpArgs false
set_option linter.unusedVariables false
set_option maxRecDepth 100000
def tm (g : zU) (ns : List zt) : List Str := cond (w7 g) (x8 ns g.packs) []
theorem Tq (ns : List zt) (hl : ns.length ≤ 1048576) (hb : ∀ n ∈ ns, n.yh ≤ 1048576) (ps : List zL) (hpl : ps.length ≤ 1048576) (hp : ∀ p ∈ ps, p.yh ≤ 1048576) : ∀ (rest pre : List zL) (acc : List Str) (m : Nat) (cap : Option Nat), ps = pre ++ rest → m = acc.length → m + rest.length * ns.length ≤ 1099511627776 → ∃ cap',
    EV Tryz.prog pol (.loop 11 122 0 [.t (.list 3 (zt.zV ns)), .sl 0 0 m cap, .t (.list 6 (zL.zV ps)), .t (.int .i64 (ps.length : Int)), .t (.int .i64 (pre.length : Int))] [.ts 1 (y6 acc)])
      = some (.loop (.exit 0) [.sl 0 0 (m + (x8 ns rest).length) cap'] [.ts 1 (y6 (acc ++ x8 ns rest))])
  | [], pre, acc, m, cap, h, hm, hmM => by
    have c : decide ((pre.length : Int) < (ps.length : Int)) = false := by simp [h]
    refine ⟨cap, ?_⟩
    rw [show x8 ns [] = [] from rfl]
    simp only [List.append_nil, List.length_nil, Nat.add_zero]
    refine zz Tryz.func11 rfl rfl ?_
    simp (disch := ((try simp only [LL]); omega)) only [↓GO, ↓DRW, GA, ren, zB, zd, refs, zb, cst, zl, zH, z7, E.load, E.store, zG, isC, bin, zI, zJ, una, z8, za, zh, zK, blt, fnV, asArg, ze, zn, zo, zj, zi, zg, zk, zr, z6, zD, zF, E.mkS, zc, unN, zM, zm, zy, zC, zf, zN, zq, GS, simprocAttr, GZ, c, zY]
  | p :: rest, pre, acc, m, cap, h, hm, hmM => by
    have c : decide ((pre.length : Int) < (ps.length : Int)) = true := by simp [h]; omega
    have hget : (zL.zV ps)[pre.length]? = some p.enc := by rw [h]; simp [zL.zV]
    have hlen : pre.length + rest.length + 1 ≤ ps.length := by rw [h]; simp; omega
    have hpb := hp p (by rw [h]; simp)
    have hal := jH p ns
    rw [List.length_cons, Nat.add_mul, Nat.one_mul] at hmM
    obtain ⟨c1, L⟩ := cC ns hl hb p hpb (.list 6 (zL.zV ps)) (.int .i64 (ps.length : Int)) (.int .i64 (pre.length : Int)) 1099511627776 (by omega) ns [] acc m cap rfl hm (by omega)
    obtain ⟨c2, IH⟩ := Tq ns hl hb ps hpl hp rest (pre ++ [p]) (acc ++ auP p ns) (m + (auP p ns).length) c1 (by rw [h]; simp) (by simp [hm]) (by omega)
    rw [show ((pre ++ [p]).length : Int) = (pre.length : Int) + 1 by simp] at IH
    refine ⟨c2, ?_⟩
    rw [tO, List.length_append, ← Nat.add_assoc, ← List.append_assoc]
    clear h hb hp
    obtain ⟨name, version, source, sums, dev, needs⟩ := p
    simp only [List.length_nil, Int.natCast_zero, zL.enc, List.map_cons, List.map_nil] at hget L IH ⊢
    generalize (acc ++ auP _ ns) ++ x8 ns rest = Z at *
    generalize acc ++ auP _ ns = Y at *
    refine zz Tryz.func11 rfl rfl ?_
    simp (disch := ((try simp only [LL]); omega)) only [↓GO, ↓DRW, GA, ren, zB, zd, refs, zb, cst, zl, zH, z7, E.load, E.store, zG, isC, bin, zI, zJ, una, z8, za, zh, zK, blt, fnV, asArg, ze, zn, zo, zj, zi, zg, zk, zr, z6, zD, zF, E.mkS, zc, unN, zM, zm, zy, zC, zf, zN, zq, GS, simprocAttr, GZ, c, hget, L, zt.zR, zx, zY, IH]
theorem XE (g : zU) (hB : GB g) (ns : List zt) (hg : w7 g = false) : EV Tryz.prog pol (.callO false 11 [.agg (g.enc.map .t), .t (.list 3 (zt.zV ns))] []) = some (.call (.nil 1) []) := by
  have d1 := Vr g hB
  rw [hg] at d1
  obtain ⟨top, packs⟩ := g
  simp only [zU.enc, List.map_cons, List.map_nil] at d1 ⊢
  refine yK Tryz.func11 rfl (by kernel_rfl) ?_
  unfold Tryz.f11
  simp (disch := ((try simp only [LL]); omega)) only [↓GO, ↓DRW, GA, ren, zB, zd, refs, zb, cst, zl, zH, z7, E.load, E.store, zG, isC, bin, zI, zJ, una, z8, za, zh, zK, blt, fnV, asArg, ze, zn, zo, zj, zi, zg, zk, zr, z6, zD, zF, E.mkS, zc, unN, zM, zm, zy, zC, zf, zN, zq, GS, simprocAttr, GZ, d1, zY]
theorem ZD (g : zU) (hB : GB g) (ns : List zt) (hl : ns.length ≤ 1048576) (hb : ∀ n ∈ ns, n.yh ≤ 1048576) (hg : w7 g = true) : ∃ cap, EV Tryz.prog pol (.callO false 11 [.agg (g.enc.map .t), .t (.list 3 (zt.zV ns))] []) = some (.call (.sl 0 0 (x8 ns g.packs).length cap) [.ts 1 (y6 (x8 ns g.packs))]) := by
  have d1 := Vr g hB
  rw [hg] at d1
  obtain ⟨h1, h2, h3⟩ := hB.len
  have hmul : g.packs.length * ns.length ≤ 1048576 * 1048576 := Nat.mul_le_mul h1 hl
  obtain ⟨cap, L⟩ := Tq ns hl hb g.packs h1 h3 g.packs [] [] 0 (some 0) rfl rfl (by omega)
  refine ⟨cap, ?_⟩
  rw [show y6 [] = [] from rfl] at L
  obtain ⟨top, packs⟩ := g
  simp only [List.length_nil, Int.natCast_zero, Nat.zero_add, List.nil_append, zU.enc, List.map_cons, List.map_nil] at d1 L ⊢
  generalize x8 ns packs = Z at *
  refine yK Tryz.func11 rfl (by kernel_rfl) ?_
  unfold Tryz.f11
  simp (disch := ((try simp only [LL]); omega)) only [↓GO, ↓DRW, GA, ren, zB, zd, refs, zb, cst, zl, zH, z7, E.load, E.store, zG, isC, bin, zI, zJ, una, z8, za, zh, zK, blt, fnV, asArg, ze, zn, zo, zj, zi, zg, zk, zr, z6, zD, zF, E.mkS, zc, unN, zM, zm, zy, zC, zf, zN, zq, GS, simprocAttr, GZ, d1, L, zL.zR, zY]
theorem cB (g : zU) (hB : GB g) (ns : List zt) (hl : ns.length ≤ 1048576) (hb : ∀ n ∈ ns, n.yh ≤ 1048576) (p : zL) (hp : p.yh ≤ 1048576) (i : Nat) (hi : i ≤ 1048576) (hgp : (zL.zV g.packs)[i]? = some p.enc) : ∀ (rest pre : List zt) (acc : List Str) (m : Nat) (cap : Option Nat), ns = pre ++ rest → m = acc.length → m + rest.length ≤ 1099511627776 → ∃ cap',
    EV Tryz.prog pol (.loop 8 3730 0 [.t (.list 3 (zt.zV ns)), .ptr 0 0 0, .sl 1 0 m cap, .t (.int .i64 (i : Int)), .t (.int .i64 (pre.length : Int))] [.vs 2 [g.enc.map .t], .ts 1 (y6 acc)])
      = some (.loop (.exit 2) [.t (.list 3 (zt.zV ns)), .ptr 0 0 0, .sl 1 0 (m + (auP p rest).length) cap', .t (.int .i64 (i : Int))] [.vs 2 [g.enc.map .t], .ts 1 (y6 (acc ++ auP p rest))])
  | [], pre, acc, m, cap, h, hm, hmM => by
    have c : decide ((pre.length : Int) < (ns.length : Int)) = false := by simp [h]
    refine ⟨cap, ?_⟩
    rw [show auP p [] = [] from rfl]
    simp only [List.append_nil, List.length_nil, Nat.add_zero, zU.enc, List.map_cons, List.map_nil]
    refine zz Tryz.func8 rfl rfl ?_
    simp (disch := ((try simp only [LL]); omega)) only [↓GO, ↓DRW, GA, ren, zB, zd, refs, zb, cst, zl, zH, z7, E.load, E.store, zG, isC, bin, zI, zJ, una, z8, za, zh, zK, blt, fnV, asArg, ze, zn, zo, zj, zi, zg, zk, zr, z6, zD, zF, E.mkS, zc, unN, zM, zm, zy, zC, zf, zN, zq, GS, simprocAttr, GZ, c, zt.zR, zY]
  | n :: rest, pre, acc, m, cap, h, hm, hmM => by
    have c : decide ((pre.length : Int) < (ns.length : Int)) = true := by simp [h]; omega
    have hget : (zt.zV ns)[pre.length]? = some n.enc := by rw [h]; simp [zt.zV]
    have hlen : pre.length + rest.length + 1 ≤ ns.length := by rw [h]; simp; omega
    have hnb := hb n (by rw [h]; simp)
    have hpb := hp
    simp only [zL.yh] at hpb
    have d1 := c_afR n hnb p.name p.version (by omega) (by omega)
    have d2 := jS p (by omega)
    have hkl : (keyOf p).length ≤ 2097153 := by unfold keyOf; simp only [List.length_append, List.length_cons, List.length_nil]; omega
    have htl : n.text.length ≤ 1048576 := by simp only [zt.yh] at hnb; omega
    have hsl : (y6 acc).length = m := by rw [zP, hm]
    simp only [List.length_cons] at hmM
    have IH0 := cB g hB ns hl hb p hp i hi hgp rest (pre ++ [n]) acc m cap (by rw [h]; simp) hm (by omega)
    have IH1 := cB g hB ns hl hb p hp i hi hgp rest (pre ++ [n]) (acc ++ [(keyOf p ++ [32]) ++ n.text]) (m + 1) none (by rw [h]; simp) (by simp [hm]) (by omega)
    rw [show ((pre ++ [n]).length : Int) = (pre.length : Int) + 1 by simp] at IH0 IH1
    rw [show y6 (acc ++ [(keyOf p ++ [32]) ++ n.text]) = y6 acc ++ [[.str ((keyOf p ++ [32]) ++ n.text)]] by simp [y6]] at IH1
    rw [eu]
    clear h hb
    obtain ⟨top, packs⟩ := g
    simp only at hgp
    obtain ⟨nm, rg, tx⟩ := n
    obtain ⟨name, version, source, sums, dev, needs⟩ := p
    generalize keyOf ⟨name, version, source, sums, dev, needs⟩ = key at *
    generalize auP ⟨name, version, source, sums, dev, needs⟩ rest = R at *
    simp only [zt.enc, zL.enc, zU.enc, List.map_cons, List.map_nil] at d1 d2 hget hgp IH0 IH1 htl ⊢
    generalize zL.zV packs = PE at *
    cases q : afT ⟨nm, rg, tx⟩ name version with
    | false =>
      obtain ⟨cap', IH⟩ := IH0
      refine ⟨cap', ?_⟩
      rw [q] at d1
      simp only [cond_false]
      refine zz Tryz.func8 rfl rfl ?_
      simp (disch := ((try simp only [LL]); omega)) only [↓GO, ↓DRW, GA, ren, zB, zd, refs, zb, cst, zl, zH, z7, E.load, E.store, zG, isC, bin, zI, zJ, una, z8, za, zh, zK, blt, fnV, asArg, ze, zn, zo, zj, zi, zg, zk, zr, z6, zD, zF, E.mkS, zc, unN, zM, zm, zy, zC, zf, zN, zq, GS, simprocAttr, GZ, c, hget, hgp, d1, zt.zR, zx, zY, IH]
    | true =>
      obtain ⟨cap', IH⟩ := IH1
      refine ⟨cap', ?_⟩
      rw [q] at d1
      simp only [cond_true, List.length_cons]
      rw [show m + (R.length + 1) = m + 1 + R.length by omega, show acc ++ (key ++ [32] ++ tx) :: R = (acc ++ [key ++ [32] ++ tx]) ++ R by simp]
      generalize (acc ++ [key ++ [32] ++ tx]) ++ R = Z at *
      refine zz Tryz.func8 rfl rfl ?_
      simp (disch := ((try simp only [LL]); omega)) only [↓GO, ↓DRW, GA, ren, zB, zd, refs, zb, cst, zl, zH, z7, E.load, E.store, zG, isC, bin, zI, zJ, una, z8, za, zh, zK, blt, fnV, asArg, ze, zn, zo, zj, zi, zg, zk, zr, z6, zD, zF, E.mkS, zc, unN, zM, zm, zy, zC, zf, zN, zq, GS, simprocAttr, GZ, c, hget, hgp, d1, d2, zt.zR, zx, hsl, zY, IH, wh]
      refine yT (by kernel_rfl) ?_
      first | rfl | exact IH
theorem Tp (g : zU) (hB : GB g) (hg : w7 g = true) (ns : List zt) (hl : ns.length ≤ 1048576) (hb : ∀ n ∈ ns, n.yh ≤ 1048576) : ∀ (rest pre : List zL) (acc : List Str) (m : Nat) (cap : Option Nat), g.packs = pre ++ rest → m = acc.length → m + rest.length * ns.length ≤ 1099511627776 → ∃ cap',
    EV Tryz.prog pol (.loop 8 58 0 [.t (.list 3 (zt.zV ns)), .ptr 0 0 0, .sl 1 0 m cap, .t (.int .i64 (pre.length : Int))] [.vs 2 [g.enc.map .t], .ts 1 (y6 acc)])
      = some (.loop (.exit 0) [.sl 0 0 (m + (x8 ns rest).length) cap'] [.ts 1 (y6 (acc ++ x8 ns rest))])
  | [], pre, acc, m, cap, h, hm, hmM => by
    have c : decide ((pre.length : Int) < (g.packs.length : Int)) = false := by simp [h]
    refine ⟨cap, ?_⟩
    rw [show x8 ns [] = [] from rfl]
    obtain ⟨top, packs⟩ := g
    simp only [List.append_nil, List.length_nil, Nat.add_zero, zU.enc, List.map_cons, List.map_nil] at c ⊢
    refine zz Tryz.func8 rfl rfl ?_
    simp (disch := ((try simp only [LL]); omega)) only [↓GO, ↓DRW, GA, ren, zB, zd, refs, zb, cst, zl, zH, z7, E.load, E.store, zG, isC, bin, zI, zJ, una, z8, za, zh, zK, blt, fnV, asArg, ze, zn, zo, zj, zi, zg, zk, zr, z6, zD, zF, E.mkS, zc, unN, zM, zm, zy, zC, zf, zN, zq, GS, simprocAttr, GZ, c, zL.zR, zY]
  | p :: rest, pre, acc, m, cap, h, hm, hmM => by
    have c : decide ((pre.length : Int) < (g.packs.length : Int)) = true := by simp [h]; omega
    have hget : (zL.zV g.packs)[pre.length]? = some p.enc := by rw [h]; simp [zL.zV]
    have hlen : pre.length + rest.length + 1 ≤ g.packs.length := by rw [h]; simp; omega
    obtain ⟨q1, q2, q3⟩ := hB.len
    have hpb := q3 p (by rw [h]; simp)
    have hal := jH p ns
    have d1 := Vq g hB
    rw [hg] at d1
    rw [List.length_cons, Nat.add_mul, Nat.one_mul] at hmM
    obtain ⟨c1, L⟩ := cB g hB ns hl hb p hpb pre.length (by omega) hget ns [] acc m cap rfl hm (by omega)
    obtain ⟨c2, IH⟩ := Tp g hB hg ns hl hb rest (pre ++ [p]) (acc ++ auP p ns) (m + (auP p ns).length) c1 (by rw [h]; simp) (by simp [hm]) (by omega)
    rw [show ((pre ++ [p]).length : Int) = (pre.length : Int) + 1 by simp] at IH
    refine ⟨c2, ?_⟩
    rw [tO, List.length_append, ← Nat.add_assoc, ← List.append_assoc]
    clear h hb hB hg hget
    obtain ⟨top, packs⟩ := g
    simp only at hlen q1
    simp only [List.length_nil, Int.natCast_zero, zU.enc, List.map_cons, List.map_nil] at c d1 L IH ⊢
    generalize (acc ++ auP _ ns) ++ x8 ns rest = Z at *
    generalize acc ++ auP _ ns = Y at *
    refine zz Tryz.func8 rfl rfl ?_
    simp (disch := ((try simp only [LL]); omega)) only [↓GO, ↓DRW, GA, ren, zB, zd, refs, zb, cst, zl, zH, z7, E.load, E.store, zG, isC, bin, zI, zJ, una, z8, za, zh, zK, blt, fnV, asArg, ze, zn, zo, zj, zi, zg, zk, zr, z6, zD, zF, E.mkS, zc, unN, zM, zm, zy, zC, zf, zN, zq, GS, simprocAttr, GZ, c, d1, L, zL.zR, zx, zY, IH]
theorem c_auR (g : zU) (hB : GB g) (ns : List zt) (hl : ns.length ≤ 1048576) (hb : ∀ n ∈ ns, n.yh ≤ 1048576) : zE (EV Tryz.prog pol) 8 [.agg (g.enc.map .t), .t (.list 3 (zt.zV ns))] = some (.t (.list 1 (y6 (tm g ns)))) := by
  unfold tm
  cases hg : w7 g with
  | true =>
    obtain ⟨h1, h2, h3⟩ := hB.len
    have hmul : g.packs.length * ns.length ≤ 1048576 * 1048576 := Nat.mul_le_mul h1 hl
    obtain ⟨cap, L⟩ := Tp g hB hg ns hl hb g.packs [] [] 0 (some 0) rfl rfl (by omega)
    rw [show y6 [] = [] from rfl] at L
    obtain ⟨top, packs⟩ := g
    simp only [List.length_nil, Int.natCast_zero, Nat.zero_add, List.nil_append, zU.enc, List.map_cons, List.map_nil, cond_true] at L ⊢
    have ht : (y6 (x8 ns packs)).take (x8 ns packs).length = y6 (x8 ns packs) := by rw [← zP (x8 ns packs)]; simp
    generalize x8 ns packs = Z at *
    apply zu
    refine zw rfl Tryz.func8 rfl (by kernel_rfl) ?_
    unfold Tryz.f8
    simp (disch := ((try simp only [LL]); omega)) only [↓GO, ↓DRW, GA, ren, zB, zd, refs, zb, cst, zl, zH, z7, E.load, E.store, zG, isC, bin, zI, zJ, una, z8, za, zh, zK, blt, fnV, asArg, ze, zn, zo, zj, zi, zg, zk, zr, z6, zD, zF, E.mkS, zc, unN, zM, zm, zy, zC, zf, zN, zq, GS, simprocAttr, GZ, L, ht, zY]
  | false =>
    have d1 := Vq g hB
    rw [hg] at d1
    have L : EV Tryz.prog pol (.loop 8 58 0 [.t (.list 3 (zt.zV ns)), .ptr 0 0 0, .sl 1 0 0 (some 0), .t (.int .i64 0)] [.vs 2 [g.enc.map .t], .ts 1 []])
        = some (.loop (.exit 0) [.sl 0 0 0 (some 0)] [.ts 1 []]) := by
      obtain ⟨top, packs⟩ := g
      simp only [zU.enc, List.map_cons, List.map_nil] at d1 ⊢
      cases c : decide ((0 : Int) < (packs.length : Int))
      all_goals
        refine zz Tryz.func8 rfl rfl ?_
        simp (disch := ((try simp only [LL]); omega)) only [↓GO, ↓DRW, GA, ren, zB, zd, refs, zb, cst, zl, zH, z7, E.load, E.store, zG, isC, bin, zI, zJ, una, z8, za, zh, zK, blt, fnV, asArg, ze, zn, zo, zj, zi, zg, zk, zr, z6, zD, zF, E.mkS, zc, unN, zM, zm, zy, zC, zf, zN, zq, GS, simprocAttr, GZ, c, d1, zL.zR, zY]
    obtain ⟨top, packs⟩ := g
    simp only [zU.enc, List.map_cons, List.map_nil, cond_false] at L ⊢
    apply zu
    refine zw rfl Tryz.func8 rfl (by kernel_rfl) ?_
    unfold Tryz.f8
    simp (disch := ((try simp only [LL]); omega)) only [↓GO, ↓DRW, GA, ren, zB, zd, refs, zb, cst, zl, zH, z7, E.load, E.store, zG, isC, bin, zI, zJ, una, z8, za, zh, zK, blt, fnV, asArg, ze, zn, zo, zj, zi, zg, zk, zr, z6, zD, zF, E.mkS, zc, unN, zM, zm, zy, zC, zf, zN, zq, GS, simprocAttr, GZ, L, zY]
    try rfl
end Go.Proofs.YtmcephnfcciloaaGreatDoor
/- The law of Audit. Conditions: those of each lemma. -/
namespace Go.Proofs.YtmcephnfcciloaaGreatDoor
open E
set_option linter.unusedSimpArgs false
set_option linter.unusedVariables false
set_option maxRecDepth 100000
theorem nW (ks : List Str) (n : Nat) (h : n = ks.length) : (y6 ks).take n = y6 ks := List.take_of_length_le (by rw [zP]; omega)
theorem YH (cs : List zL) (n : Nat) (h : n = cs.length) : (ocE (zL.zV cs)).take n = ocE (zL.zV cs) := List.take_of_length_le (by rw [qw, zL.zR]; omega)
theorem VP (cs : List zt) (n : Nat) (h : n = cs.length) : (zt.zV cs).take n = zt.zV cs := List.take_of_length_le (by rw [zt.zR]; omega)
theorem di {g : zU} (h : w7 g = true) : g.packs.length ≤ 40 := by
  unfold w7 at h
  simp only [Bool.and_eq_true, decide_eq_true_eq] at h
  omega
theorem dA (g : zU) (ns : List zt) (hl : ns.length ≤ 1048576) : (tm g ns).length ≤ 134217728 := by
  unfold tm
  cases hg : w7 g with
  | false => simp
  | true =>
    rw [cond_true]
    have h1 := nS ns g.packs
    have h2 : g.packs.length * ns.length ≤ 40 * 1048576 := Nat.mul_le_mul (di hg) hl
    omega
set_option maxHeartbeats 16000000 in
theorem l0 (g : zU) (ns : List zt) (ho : g.ok) (hon : ∀ n ∈ ns, n.ok) (hb : g.yh + (ns.length + zt.ya ns) ≤ 1048576) :
    EV Tryz.prog pol (.call 3 [.agg (g.enc.map .t), .t (.list 3 (zt.zV ns))] []) = some (.call (.t (.bool true)) []) := by
  have hB : GB g := by unfold GB; omega
  have hnb : ∀ n ∈ ns, n.yh ≤ 1048576 := fun n hn => by have := zt.yp hn; omega
  have hsz := kJ g ho 1048576 (by omega) (by omega)
  rw [wC (by omega)] at hsz
  have hsz2 := om ns (by omega) (fun n hn => nQ n (hon n hn)) (1048576 - (g.yh : Int)) (by omega) (by omega)
  rw [wC (by omega)] at hsz2
  have c2 : decide (1048576 - (g.yh : Int) < 0) = false := by apply decide_eq_false; omega
  have c3 : decide (1048576 - (g.yh : Int) - ((ns.length + zt.ya ns : Nat) : Int) < 0) = false := by apply decide_eq_false; omega
  have hto := S1 g (by omega)
  have htO := S0 g (by omega)
  have hno := iw ns (by omega) (fun n hn => nP n (hnb n hn))
  have hnO := UD ns (by omega) (fun n hn => nP n (hnb n hn))
  have heqG := ZB g (by omega)
  have heqN := iy ns (by omega) (fun n hn => du n (hnb n hn))
  have hR := c_auR g hB ns (by omega) hnb
  have hZl := dA g ns (by omega)
  have heqS := tN (tm g ns) hZl
  have hb' := hb
  obtain ⟨top, packs⟩ := g
  simp only [zU.yh] at hb'
  have hcn := eg packs
  have hM1 := UL top packs (by omega) (by omega) top.length packs.length rfl rfl (some top.length) (some packs.length) 1 (by omega)
  have hM2 := Xx ns (by omega) (some ns.length) (1 + top.length + yJ packs) (by omega) ns.length rfl
  have g1 : decide (((1 + top.length + yJ packs + 3 * ns.length : Nat) : Int) < 0) = false := by apply decide_eq_false; omega
  have t1 := nW top top.length rfl
  have t2 := YH packs packs.length rfl
  have t3 := VP ns ns.length rfl
  have hnl := zt.zR ns
  unfold jI at heqG
  unfold LC at htO
  unfold LD at hto
  rw [show ((1 : Nat) : Int) = 1 from rfl] at hM1
  cases hg : w7 ⟨top, packs⟩ with
  | true =>
    obtain ⟨cap, hI⟩ := ZD ⟨top, packs⟩ hB ns (by omega) hnb hg
    have e : tm ⟨top, packs⟩ ns = x8 ns packs := by unfold tm; rw [hg]; rfl
    rw [e] at hR heqS hZl
    simp only at hI
    generalize x8 ns packs = Z at *
    have hM3 := jC Z hZl cap 1 (by omega) Z.length rfl
    have hH := aF Z.length 1 hZl (by omega)
    rw [show ((1 : Nat) : Int) = 1 from rfl] at hM3 hH
    have g2 : decide (((1 + Z.length : Nat) : Int) < 0) = false := by apply decide_eq_false; omega
    have t4 := nW Z Z.length rfl
    have t5 := nW (mkS Z.length 1) Z.length (vr _ _).symm
    have f1 := vF Z
    clear ho hon hb hb' hnb hB hg hcn e
    generalize (zU.mk top packs).yh = bt at *
    generalize zt.ya ns = bn at *
    simp only [zU.enc, List.map_cons, List.map_nil] at hsz hto htO heqG hR hI hM1 ⊢
    generalize yJ packs = m0 at *
    generalize xE (1 + top.length) packs = mc at *
    generalize mkS Z.length 1 = msz at *
    generalize mkS top.length 1 = ms at *
    generalize tB ns.length (1 + top.length + m0) = mn at *
    refine zw rfl Tryz.func3 rfl (by kernel_rfl) ?_
    unfold Tryz.f3
    simp (disch := ((try simp only [LL]); omega)) only [↓GO, ↓DRW, GA, ren, zB, zd, refs, zb, cst, zl, zH, z7, E.load, E.store, zG, isC, bin, zI, zJ, una, z8, za, zh, zK, blt, fnV, asArg, ze, zn, zo, zj, zi, zg, zk, zr, z6, zD, zF, E.mkS, zc, unN, zM, zm, zy, zC, zf, zN, zq, GS, simprocAttr, yO, yP, qI, r9, rP, rO, w9, mkO, tD, tr, vd, qC, yZ, r7, r4, xu, oc, oTs, oT, xf, xf.rowTs, tA, isL, Bool.not_false, Bool.true_and, Bool.and_true, Bool.and_self, List.flatMap_append, List.map_append, List.set_cons_zero, List.set_cons_succ, GZ, hsz, hsz2, c2, c3, hto, htO, hno, hnO, heqG, heqN, heqS, hR, hI, hM1, hM2, hM3, hH, g1, g2, t1, t2, t3, t4, t5, f1, List.drop_zero, nY, xy, yX, bne_self_eq_false, zY]
  | false =>
    have hI := XE ⟨top, packs⟩ hB ns hg
    have e : tm ⟨top, packs⟩ ns = [] := by unfold tm; rw [hg]; rfl
    rw [e, show y6 [] = [] from rfl] at hR heqS
    have hM3 := Xu 1
    have hH := aF 0 1 (by omega) (by omega)
    rw [Nat.add_zero, show ((1 : Nat) : Int) = 1 from rfl, show mkS 0 1 = [] from rfl, show y6 [] = [] from rfl] at hH
    clear ho hon hb hb' hnb hB hg hcn e hZl
    generalize (zU.mk top packs).yh = bt at *
    generalize zt.ya ns = bn at *
    simp only [zU.enc, List.map_cons, List.map_nil] at hsz hto htO heqG hR hI hM1 ⊢
    generalize yJ packs = m0 at *
    generalize xE (1 + top.length) packs = mc at *
    generalize mkS top.length 1 = ms at *
    generalize tB ns.length (1 + top.length + m0) = mn at *
    refine zw rfl Tryz.func3 rfl (by kernel_rfl) ?_
    unfold Tryz.f3
    simp (disch := ((try simp only [LL]); omega)) only [↓GO, ↓DRW, GA, ren, zB, zd, refs, zb, cst, zl, zH, z7, E.load, E.store, zG, isC, bin, zI, zJ, una, z8, za, zh, zK, blt, fnV, asArg, ze, zn, zo, zj, zi, zg, zk, zr, z6, zD, zF, E.mkS, zc, unN, zM, zm, zy, zC, zf, zN, zq, GS, simprocAttr, yO, yP, qI, r9, rP, rO, w9, mkO, tD, tr, vd, qC, yZ, r7, r4, xu, oc, oTs, oT, xf, xf.rowTs, tA, isL, Bool.not_false, Bool.true_and, Bool.and_true, Bool.and_self, List.flatMap_append, List.map_append, List.set_cons_zero, List.set_cons_succ, GZ, hsz, hsz2, c2, c3, hto, htO, hno, hnO, heqG, heqN, heqS, hR, hI, hM1, hM2, hM3, hH, g1, t1, t2, t3, List.drop_zero, nY, xy, yX, bne_self_eq_false, zY]
theorem dq (g : zU) (ns : List zt) (ho : g.ok) (hl : ns.length ≤ 9223372036854775807) (hon : ∀ n ∈ ns, n.ok) :
    EV Tryz.prog pol (.call 3 [.agg (g.enc.map .t), .t (.list 3 (zt.zV ns))] []) = some (.call (.t (.bool true)) []) := by
  have hsz := kJ g ho 1048576 (by omega) (by omega)
  by_cases hb1 : g.yh ≤ 1048576
  · by_cases hb : g.yh + (ns.length + zt.ya ns) ≤ 1048576
    · exact l0 g ns ho hon hb
    · rw [wC (by omega)] at hsz
      have hsz2 := om ns hl (fun n hn => nQ n (hon n hn)) (1048576 - (g.yh : Int)) (by omega) (by omega)
      have hle : left (1048576 - (g.yh : Int)) (ns.length + zt.ya ns) = -1 := if_pos (by omega)
      rw [hle] at hsz2
      have c2 : decide (1048576 - (g.yh : Int) < 0) = false := by apply decide_eq_false; omega
      clear hb hle ho hon
      obtain ⟨top, packs⟩ := g
      generalize (zU.mk top packs).yh = bt at *
      simp only [zU.enc, List.map_cons, List.map_nil] at hsz ⊢
      refine zw rfl Tryz.func3 rfl (by kernel_rfl) ?_
      unfold Tryz.f3
      simp (disch := ((try simp only [LL]); omega)) only [↓GO, ↓DRW, GA, ren, zB, zd, refs, zb, cst, zl, zH, z7, E.load, E.store, zG, isC, bin, zI, zJ, una, z8, za, zh, zK, blt, fnV, asArg, ze, zn, zo, zj, zi, zg, zk, zr, z6, zD, zF, E.mkS, zc, unN, zM, zm, zy, zC, zf, zN, zq, GS, simprocAttr, yO, yP, qI, r9, rP, rO, w9, mkO, tD, tr, vd, qC, yZ, r7, r4, xu, oc, oTs, oT, xf, xf.rowTs, tA, isL, Bool.not_false, Bool.true_and, Bool.and_true, Bool.and_self, List.flatMap_append, List.map_append, List.set_cons_zero, List.set_cons_succ, GZ, hsz, hsz2, c2]
  · have hle : left 1048576 g.yh = -1 := if_pos (by omega)
    rw [hle] at hsz
    clear hb1 hle ho hon
    obtain ⟨top, packs⟩ := g
    simp only [zU.enc, List.map_cons, List.map_nil] at hsz ⊢
    refine zw rfl Tryz.func3 rfl (by kernel_rfl) ?_
    unfold Tryz.f3
    simp (disch := ((try simp only [LL]); omega)) only [↓GO, ↓DRW, GA, ren, zB, zd, refs, zb, cst, zl, zH, z7, E.load, E.store, zG, isC, bin, zI, zJ, una, z8, za, zh, zK, blt, fnV, asArg, ze, zn, zo, zj, zi, zg, zk, zr, z6, zD, zF, E.mkS, zc, unN, zM, zm, zy, zC, zf, zN, zq, GS, simprocAttr, yO, yP, qI, r9, rP, rO, w9, mkO, tD, tr, vd, qC, yZ, r7, r4, xu, oc, oTs, oT, xf, xf.rowTs, tA, isL, Bool.not_false, Bool.true_and, Bool.and_true, Bool.and_self, List.flatMap_append, List.map_append, List.set_cons_zero, List.set_cons_succ, GZ, hsz]
end Go.Proofs.YtmcephnfcciloaaGreatDoor
/- The law of Audit at what is handed in. Conditions: none. -/
namespace Go.Proofs.YtmcephnfcciloaaGreatDoor
open E
theorem XK (xs : List V) (h : WTA Tryz.prog [25, 26] xs) : EV Tryz.prog pol (.call 3 xs []) = some (.call (.t (.bool true)) []) := by
  obtain ⟨g, ns, rfl, ho, hl, hon⟩ := eL h
  exact dq g ns ho hl hon
end Go.Proofs.YtmcephnfcciloaaGreatDoor

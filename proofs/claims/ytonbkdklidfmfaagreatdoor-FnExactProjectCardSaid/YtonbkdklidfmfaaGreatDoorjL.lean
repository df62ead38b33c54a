/- Joined: K9 G3 V5 V6 V7 V8 V9 V10 V11 K25 I4 V12 G5 V13 K32 K36 V14 K26. Conditions: those of each lemma. -/
import Derived.Test.YtonbkdklidfmfaaGreatDoorjK
import Derived.Test.YtonbkdklidfmfaaGreatDoorjI
import Derived.Test.YtonbkdklidfmfaaGreatDoorjJ
import Derived.Test.YtonbkdklidfmfaaGreatDoorjH
set_option linter.unusedVariables false
set_option linter.unusedSimpArgs false
namespace Go.Proofs.YtonbkdklidfmfaaGreatDoor
open E
set_option linter.unusedSimpArgs false
set_option linter.unusedVariables false
set_option maxRecDepth 100000
theorem aK (s : Str) (b : UInt8) (hl : s.length ≤ 4611686018427387904) : ∀ n : Nat, n ≤ s.length →
 EV Tryz.prog pol (.loop 164 26 0 [.t (.str s), .t (.int .u8 (b.toNat : Int)), .t (.int .i64 ((n : Int) - 1))] []) = some (match uM b s n with | some k => .loop .ret [.t (.int .i64 (k : Int))] [] | none => .loop (.exit 0) [.bad] [])
 | 0, hn => by
  have c : decide ((0 : Int) - 1 ≥ 0) = false := by decide
  refine zk Tryz.func164 rfl rfl ?_
  simp (disch := ((try simp only [LL]); omega)) only [↓GO, ↓DRW, GA, GX, ren, zo, za, refs, z8, cst, zr, isC, bin, una, z7, zd, blt, asArg, zg, zc, zf, z6, E.mkS, unN, ze, zq, zb, GS, simprocAttr, GZ, c, uM]
 | n + 1, hn => by
  have c : decide ((n : Int) ≥ 0) = true := by simp
  have e : ((n + 1 : Nat) : Int) - 1 = (n : Int) := by omega
  have IH := aK s b hl n (by omega)
  rw [e, uM]
  obtain ⟨x, hx⟩ : ∃ x, s[n]? = some x := ⟨s[n]'(by omega), by simp⟩
  rw [hx]
  by_cases h : x = b
  · subst h
    rw [if_pos rfl]
    refine zk Tryz.func164 rfl rfl ?_
    simp (disch := ((try simp only [LL]); omega)) only [↓GO, ↓DRW, GA, GX, ren, zo, za, refs, z8, cst, zr, isC, bin, una, z7, zd, blt, asArg, zg, zc, zf, z6, E.mkS, unN, ze, zq, zb, GS, simprocAttr, GZ, c, hx, zn]
  · have c2 : ((x.toNat : Int) == (b.toNat : Int)) = false := by
     rw [beq_eq_false_iff_ne]; intro e; exact h (UInt8.toNat_inj.1 (by omega))
    rw [if_neg (by simpa using h)]
    refine zk Tryz.func164 rfl rfl ?_
    simp (disch := ((try simp only [LL]); omega)) only [↓GO, ↓DRW, GA, GX, ren, zo, za, refs, z8, cst, zr, isC, bin, una, z7, zd, blt, asArg, zg, zc, zf, z6, E.mkS, unN, ze, zq, zb, GS, simprocAttr, GZ, c, hx, zn, c2, IH]
def dE (o : Option Nat) : Int := match o with | some k => (k : Int) | none => -1
theorem Si (s : Str) (b : UInt8) (hl : s.length ≤ 4611686018427387904) : zm (EV Tryz.prog pol) 164 [.t (.str s), .t (.int .u8 (b.toNat : Int))] = some (.t (.int .i64 (dE (uM b s s.length)))) := by
 have L := aK s b hl s.length (Nat.le_refl _)
 apply zu
 refine zw rfl Tryz.func164 rfl (by kernel_rfl) ?_
 unfold Tryz.f164
 cases h : uM b s s.length <;> rw [h] at L <;> simp only at L <;> simp (disch := ((try simp only [LL]); omega)) only [↓GO, ↓DRW, GA, GX, ren, zo, za, refs, z8, cst, zr, isC, bin, una, z7, zd, blt, asArg, zg, zc, zf, z6, E.mkS, unN, ze, zq, zb, GS, simprocAttr, GZ, L, zn, dE]
theorem WN (s : Str) (hl : s.length ≤ 4611686018427387904) : zm (EV Tryz.prog pol) 129 [.t (.str s), .t (.str [64])] = some (.t (.int .i64 (dE (uM 64 s s.length)))) := by
 have h := Si s 64 hl
 rw [show (((64 : UInt8)).toNat : Int) = 64 from rfl] at h
 have e : (((64 : UInt8)).toNat : Int) = 64 := rfl
 apply zu
 refine zw rfl Tryz.func129 rfl (by kernel_rfl) ?_
 unfold Tryz.f129
 simp (disch := ((try simp only [LL]); omega)) only [↓GO, ↓DRW, GA, GX, ren, zo, za, refs, z8, cst, zr, isC, bin, una, z7, zd, blt, asArg, zg, zc, zf, z6, E.mkS, unN, ze, zq, zb, GS, simprocAttr, GZ, h, e, Int.zero_add, Int.natCast_one]
theorem c_skI (k : Str) (hl : k.length ≤ 4611686018427387904) : zm (EV Tryz.prog pol) 95 [.t (.str k)] = some (.tup [.t (.str (vD k).1), .t (.str (vD k).2)]) := by
 have h := WN k hl
 unfold vD
 cases hc : uM 64 k k.length with
 | none =>
  rw [hc] at h
  simp only [dE] at h
  apply zu
  refine zw rfl Tryz.func95 rfl (by kernel_rfl) ?_
  unfold Tryz.f95
  simp (disch := ((try simp only [LL]); omega)) only [↓GO, ↓DRW, GA, GX, ren, zo, za, refs, z8, cst, zr, isC, bin, una, z7, zd, blt, asArg, zg, zc, zf, z6, E.mkS, unN, ze, zq, zb, GS, simprocAttr, GZ, h]
 | some n =>
  have hn := en 64 k k.length n hc
  rw [hc] at h
  simp only [dE] at h
  have c : decide ((n : Int) < 0) = false := decide_eq_false (by omega)
  apply zu
  refine zw rfl Tryz.func95 rfl (by kernel_rfl) ?_
  unfold Tryz.f95
  simp (disch := ((try simp only [LL]); omega)) only [↓GO, ↓DRW, GA, GX, ren, zo, za, refs, z8, cst, zr, isC, bin, una, z7, zd, blt, asArg, zg, zc, zf, z6, E.mkS, unN, ze, zq, zb, GS, simprocAttr, GZ, h, c, zn]
end Go.Proofs.YtonbkdklidfmfaaGreatDoor
/- What the laws' own functions do over Bound, Notice: sizes, copies, comparisons. Conditions: those of each lemma. -/
namespace Go.Proofs.YtonbkdklidfmfaaGreatDoor
open E
set_option linter.unusedSimpArgs false
set_option linter.unusedVariables false
set_option maxRecDepth 100000
structure yD where
 low : List UInt8
 high : List UInt8
def yD.enc (x : yD) : List T := [.str x.low, .str x.high]
def yD.zh (l : List yD) : List (List T) := l.map yD.enc
def yD.zY (x : yD) : Nat := x.low.length + x.high.length
def yD.zJ : List yD → Nat
 | [] => 0
 | c :: cs => yD.zY c + yD.zJ cs
def yD.ok (x : yD) : Prop := x.low.length ≤ 9223372036854775807 ∧ x.high.length ≤ 9223372036854775807
theorem yD.wW (x : yD) : x.enc.length = 2 := rfl
theorem yD.wc (x : yD) : x.enc.take 2 = x.enc := rfl
theorem yD.zj (cs : List yD) : (yD.zh cs).length = cs.length := by simp [yD.zh]
theorem yD.xm (cs : List yD) (i : Nat) (h : i < cs.length) : (yD.zh cs)[i]? = some cs[i].enc := by simp [yD.zh, h]
theorem yD.xG (cs : List yD) (i : Nat) (h : i < cs.length) : yD.zJ (cs.drop i) = cs[i].zY + yD.zJ (cs.drop (i + 1)) := by
 rw [List.drop_eq_getElem_cons h]; rfl
theorem yD.ye : ∀ {cs : List yD} {c : yD}, c ∈ cs → c.zY ≤ yD.zJ cs
 | c' :: cs, c, h => by
  simp only [yD.zJ]
  rcases List.mem_cons.1 h with rfl | h
  · omega
  · have := yD.ye h; omega
structure yh where
 name : List UInt8
 range : List UInt8
 text : List UInt8
def yh.enc (x : yh) : List T := [.str x.name, .str x.range, .str x.text]
def yh.zh (l : List yh) : List (List T) := l.map yh.enc
def yh.zY (x : yh) : Nat := x.name.length + x.range.length + x.text.length
def yh.zJ : List yh → Nat
 | [] => 0
 | c :: cs => yh.zY c + yh.zJ cs
def yh.ok (x : yh) : Prop := x.name.length ≤ 9223372036854775807 ∧ x.range.length ≤ 9223372036854775807 ∧ x.text.length ≤ 9223372036854775807
theorem yh.wW (x : yh) : x.enc.length = 3 := rfl
theorem yh.wc (x : yh) : x.enc.take 3 = x.enc := rfl
theorem yh.zj (cs : List yh) : (yh.zh cs).length = cs.length := by simp [yh.zh]
theorem yh.xm (cs : List yh) (i : Nat) (h : i < cs.length) : (yh.zh cs)[i]? = some cs[i].enc := by simp [yh.zh, h]
theorem yh.xG (cs : List yh) (i : Nat) (h : i < cs.length) : yh.zJ (cs.drop i) = cs[i].zY + yh.zJ (cs.drop (i + 1)) := by
 rw [List.drop_eq_getElem_cons h]; rfl
theorem yh.ye : ∀ {cs : List yh} {c : yh}, c ∈ cs → c.zY ≤ yh.zJ cs
 | c' :: cs, c, h => by
  simp only [yh.zJ]
  rcases List.mem_cons.1 h with rfl | h
  · omega
  · have := yh.ye h; omega
end Go.Proofs.YtonbkdklidfmfaaGreatDoor
/- Ranges, plain: both ways of reading them come to the same. Conditions: none. -/
namespace Go.Proofs.YtonbkdklidfmfaaGreatDoor
open E
set_option linter.unusedVariables false
set_option linter.unusedSimpArgs false
set_option maxRecDepth 100000
def vb (b : UInt8) : Bool := isD b || (nb b == 46 || (nb b == 45 || preB b))
theorem po {n : Int} (h : 0 ≤ n) : (Lib.itoa n).all isD = true ∧ Lib.itoa n ≠ [] := by
 obtain ⟨u, rfl⟩ : ∃ u : Nat, n = u := ⟨n.toNat, by omega⟩
 rw [Lib.itoa_nonneg]
 obtain ⟨a, _, c⟩ := uG u
 exact ⟨a, c⟩
theorem pJ {p q : UInt8 → Bool} (h : ∀ b, p b = true → q b = true) {l : Str} (hl : l.all p = true) : l.all q = true := by
 rw [List.all_eq_true] at hl ⊢
 exact fun x hx => h x (hl x hx)
theorem bx (b : UInt8) (h : isD b = true) : vb b = true := by unfold vb; rw [h]; rfl
theorem a8 (b : UInt8) (h : preB b = true) : vb b = true := by unfold vb; rw [h]; simp
theorem TM : ∀ l : List Str, (l.all fun p => p.all preB) = true → (Lib.join l [46]).all vb = true
 | [], _ => rfl
 | x :: r, h => by
  rw [Lib.join_cons]
  simp only [List.all_cons, Bool.and_eq_true] at h
  rw [List.all_append, pJ a8 h.1, Bool.true_and]
  have hr := h.2
  clear h
  induction r with
  | nil => rfl
  | cons y r ih =>
   simp only [List.all_cons, Bool.and_eq_true] at hr
   have e : Lib.joinTail [46] (y :: r) = 46 :: (y ++ Lib.joinTail [46] r) := by simp [Lib.joinTail]
   rw [e, List.all_cons, List.all_append, pJ a8 hr.1, ih hr.2]
   decide
theorem Tb {v : Ver} (h : x6 v = true) : (yo v).all vb = true ∧ ∃ b r, yo v = b :: r ∧ isD b = true := by
 obtain ⟨h1, h2, h3, h4, _⟩ := uT h
 obtain ⟨a1, a2⟩ := po h1.1
 obtain ⟨b1, b2⟩ := po h2.1
 obtain ⟨c1, c2⟩ := po h3.1
 have hp : (v.pre.all fun p => p.all preB) = true := by
  rw [List.all_eq_true] at h4 ⊢
  intro x hx
  have := h4 x hx
  unfold tE at this
  simp only [Bool.and_eq_true] at this
  exact this.2.1
 have hj := TM v.pre hp
 have hcore : (uN v).all vb = true := by
  unfold uN
  simp only [List.all_append, pJ bx a1, pJ bx b1, pJ bx c1]
  decide
 refine ⟨?_, ?_⟩
 · unfold yo wJ
   rw [h]
   simp only [cond_true]
   cases (v.pre == []) with
   | true => simpa using hcore
   | false =>
    simp only [cond_false, List.all_append, hcore, hj]
    decide
 · unfold yo wJ uN
   rw [h]
   simp only [cond_true]
   cases hi : Lib.itoa v.maj with
   | nil => exact absurd hi a2
   | cons b r =>
    rw [hi, List.all_cons, Bool.and_eq_true] at a1
    cases (v.pre == []) <;> exact ⟨b, _, rfl, a1.1⟩
/-- is a text a version's? -/
def isV (s : Str) : Bool := (zW s).2
theorem Ry {s : Str} (h : isV s = true) : (∀ b ∈ s, vb b = true) ∧ ∃ b r, s = b :: r ∧ isD b = true := by
 obtain ⟨_, ht, ho, _⟩ := we h
 obtain ⟨h1, h2⟩ := Tb ho
 rw [ht] at h1 h2
 exact ⟨List.all_eq_true.1 h1, h2⟩
theorem Rz {s : Str} {c : UInt8} (hc : vb c = false) (h : c ∈ s) : isV s = false := by
 cases hv : isV s with
 | false => rfl
 | true =>
  have := (Ry hv).1 c h
  rw [hc] at this; cases this
theorem oF {s : Str} (h : 0 ≤ zN s) : (∀ b ∈ s, isD b = true) ∧ Lib.itoa (zN s) = s ∧ zN s ≤ 999999999 ∧ s ≠ [] := by
 unfold zN at h ⊢
 split at h
 · rename_i v hv
   cases hc : ((decide (0 ≤ v) && decide (v ≤ 999999999)) && (Lib.itoa v == s)) with
   | false => rw [hc] at h; simp at h
   | true =>
    have hc' := hc
    simp only [Bool.and_eq_true, decide_eq_true_eq, beq_iff_eq] at hc'
    obtain ⟨⟨q1, q2⟩, q3⟩ := hc'
    obtain ⟨a, b⟩ := po q1
    simp only [cond_true]
    rw [q3] at a b
    exact ⟨List.all_eq_true.1 a, q3, q2, b⟩
 · simp at h
end Go.Proofs.YtonbkdklidfmfaaGreatDoor
/- Ranges, plain, the parts. Conditions: none. -/
namespace Go.Proofs.YtonbkdklidfmfaaGreatDoor
open E
set_option linter.unusedVariables false
set_option linter.unusedSimpArgs false
set_option maxRecDepth 100000
theorem Ws {s : Str} (h : isV s = false) : wO s = none := by
 unfold wO
 unfold isV at h
 rw [h]; rfl
end Go.Proofs.YtonbkdklidfmfaaGreatDoor
/- Ranges, plain: a text cut at ' || ', the whole. Conditions: none. -/
namespace Go.Proofs.YtonbkdklidfmfaaGreatDoor
open E
set_option linter.unusedVariables false
set_option linter.unusedSimpArgs false
set_option maxRecDepth 100000
end Go.Proofs.YtonbkdklidfmfaaGreatDoor
/- Versions compared, plain: both ways come to the same; what is in a range. Conditions: none. -/
namespace Go.Proofs.YtonbkdklidfmfaaGreatDoor
open E
set_option linter.unusedVariables false
set_option linter.unusedSimpArgs false
set_option maxRecDepth 100000
theorem wV : ∀ x : Str, Op.bytesLess x x = false
 | [] => rfl
 | a :: x => by rw [sJ, wV x]; simp
end Go.Proofs.YtonbkdklidfmfaaGreatDoor
/- What is in a range, what notices tell: plain; both ways come to the same. Conditions: none. -/
namespace Go.Proofs.YtonbkdklidfmfaaGreatDoor
open E
set_option linter.unusedVariables false
set_option linter.unusedSimpArgs false
set_option maxRecDepth 100000
end Go.Proofs.YtonbkdklidfmfaaGreatDoor
/- What one reaches in a graph, plain: both ways come to the same. Conditions: none. -/
namespace Go.Proofs.YtonbkdklidfmfaaGreatDoor
open E
set_option linter.unusedVariables false
set_option linter.unusedSimpArgs false
set_option maxRecDepth 100000
theorem Up : ∀ x y : Str, Op.bytesLess x y = decide (x < y)
 | [], [] => by simp [Op.bytesLess]
 | [], b :: y => by simp [Op.bytesLess]
 | a :: x, [] => by simp [Op.bytesLess]
 | a :: x, b :: y => by
  rw [sJ, Up x y, Bool.eq_iff_iff]
  simp only [Bool.or_eq_true, decide_eq_true_eq, Bool.and_eq_true, beq_iff_eq, List.cons_lt_cons_iff]
theorem iY (x y : Str) : decide (x ≤ y) = !(Op.bytesLess y x) := by
 rw [Up, Bool.eq_iff_iff]
 simp only [decide_eq_true_eq, Bool.not_eq_true', decide_eq_false_iff_not]
 exact Iff.rfl
theorem la {x y : Str} (h1 : Op.bytesLess x y = false) (h2 : Op.bytesLess y x = false) : x = y := by
 have h := pE x y
 rw [h1, h2] at h
 simpa using h
theorem wh : ∀ {x y z : Str}, Op.bytesLess x y = true → Op.bytesLess y z = true → Op.bytesLess x z = true
 | [], [], z, h1, _ => by simp [Op.bytesLess] at h1
 | _ :: _, [], z, h1, _ => by simp [Op.bytesLess] at h1
 | [], _ :: _, [], _, h2 => by simp [Op.bytesLess] at h2
 | [], _ :: _, _ :: _, _, _ => by simp [Op.bytesLess]
 | _ :: _, _ :: _, [], _, h2 => by simp [Op.bytesLess] at h2
 | a :: x, b :: y, c :: z, h1, h2 => by
  rw [sJ] at h1 h2 ⊢
  simp only [Bool.or_eq_true, decide_eq_true_eq, Bool.and_eq_true, beq_iff_eq, UInt8.lt_iff_toNat_lt] at h1 h2 ⊢
  rcases h1 with h1 | ⟨rfl, h1⟩
  · rcases h2 with h2 | ⟨rfl, h2⟩
    · left; omega
    · left; exact h1
  · rcases h2 with h2 | ⟨rfl, h2⟩
    · left; exact h2
    · right; exact ⟨rfl, wh h1 h2⟩
theorem mn {x y z : Str} (h1 : Op.bytesLess y x = false) (h2 : Op.bytesLess z y = false) : Op.bytesLess z x = false := by
 cases h : Op.bytesLess z x with
 | false => rfl
 | true =>
  exfalso
  cases hyz : Op.bytesLess y z with
  | true => have := wh hyz h; rw [h1] at this; cases this
  | false =>
   have := la hyz h2
   subst this
   rw [h1] at h; cases h
def Asc (l : List Str) : Prop := l.Pairwise fun x y => Op.bytesLess y x = false
theorem du : ∀ {a b : List Str}, Asc a → Asc b → a.Perm b → a = b
 | [], b, _, _, h => by simpa using h.symm
 | x :: a, [], _, _, h => by have := h.length_eq; simp at this
 | x :: a, y :: b, h1, h2, h => by
  have h1' := List.pairwise_cons.1 h1
  have h2' := List.pairwise_cons.1 h2
  have hxy : x = y := by
   have m1 : x ∈ y :: b := h.mem_iff.1 (by simp)
   have m2 : y ∈ x :: a := h.mem_iff.2 (by simp)
   rcases List.mem_cons.1 m1 with e | m1
   · exact e
   · rcases List.mem_cons.1 m2 with e | m2
     · exact e.symm
     · exact la (h2'.1 x m1) (h1'.1 y m2) |>.symm ▸ rfl
  subst hxy
  rw [du h1'.2 h2'.2 (List.Perm.cons_inv h)]
theorem ZZ (l : List Str) : Asc (wK l) := by
 have := List.pairwise_mergeSort (le := fun x y : Str => decide (x ≤ y)) (fun a b c h1 h2 => by
  rw [iY] at *
  simp only [Bool.not_eq_true'] at *
  exact mn h1 h2) (fun a b => by
  rw [iY, iY]
  cases h1 : Op.bytesLess b a <;> cases h2 : Op.bytesLess a b <;> first | rfl | skip
  have := wh h1 h2
  rw [wV] at this; cases this) l
 refine List.Pairwise.imp (fun {a b} h => ?_) this
 rw [iY] at h
 simpa using h
theorem XX {a b : List Str} (hb : Asc b) (h : a.Perm b) : wK a = b := du (ZZ a) hb ((nU a).trans h)
/-- a text put into its place -/
def xO : List Str → Str → List Str
 | [], s => [s]
 | x :: r, s => cond (Op.bytesLess x s) (x :: xO r s) (cond (x == s) (x :: r) (s :: x :: r))
def yj (l : List Str) (s : Str) : Bool := l.any (· == s)
theorem ou : ∀ (l : List Str) (s : Str), yj l s = false → (xO l s).Perm (l ++ [s])
 | [], s, _ => by simp [xO]
 | x :: r, s, h => by
  simp only [yj, List.any_cons, Bool.or_eq_false_iff] at h
  rw [xO, h.1]
  cases Op.bytesLess x s with
  | true => simp only [cond_true, List.cons_append]; exact (ou r s h.2).cons x
  | false => simp only [cond_false]; exact (List.perm_append_singleton s (x :: r)).symm
theorem dz : ∀ (l : List Str) (s y : Str), y ∈ xO l s → y ∈ l ∨ y = s
 | [], s, y, h => by simpa [xO] using h
 | x :: r, s, y, h => by
  rw [xO] at h
  cases h1 : Op.bytesLess x s with
  | true =>
   rw [h1, cond_true] at h
   rcases List.mem_cons.1 h with h | h
   · left; simp [h]
   · rcases dz r s y h with h | h
     · left; simp [h]
     · right; exact h
  | false =>
   rw [h1, cond_false] at h
   cases h2 : (x == s) with
   | true => rw [h2, cond_true] at h; left; exact h
   | false =>
    rw [h2, cond_false] at h
    rcases List.mem_cons.1 h with h | h
    · right; exact h
    · left; exact h
theorem dA : ∀ (l : List Str) (s : Str), Asc l → Asc (xO l s)
 | [], s, _ => by simp [xO, Asc]
 | x :: r, s, h => by
  have h' := List.pairwise_cons.1 h
  rw [xO]
  cases h1 : Op.bytesLess x s with
  | true =>
   simp only [cond_true]
   refine List.pairwise_cons.2 ⟨fun y hy => ?_, dA r s h'.2⟩
   rcases dz r s y hy with hy | rfl
   · exact h'.1 y hy
   · cases h2 : Op.bytesLess y x with
     | false => rfl
     | true => have := wh h1 h2; rw [wV] at this; cases this
  | false =>
   simp only [cond_false]
   cases h2 : (x == s) with
   | true => exact h
   | false =>
    simp only [cond_false]
    refine List.pairwise_cons.2 ⟨fun y hy => ?_, h⟩
    rcases List.mem_cons.1 hy with rfl | hy
    · exact h1
    · exact mn h1 (h'.1 y hy)
theorem Yp {a b : List Str} (h : a.Perm b) (s : Str) : yj a s = yj b s := by
 unfold yj
 rw [Bool.eq_iff_iff, List.any_eq_true, List.any_eq_true]
 constructor
 · rintro ⟨x, h1, h2⟩; exact ⟨x, h.mem_iff.1 h1, h2⟩
 · rintro ⟨x, h1, h2⟩; exact ⟨x, h.mem_iff.2 h1, h2⟩
def wm (ps : List z1) (k : Str) : Option z1 := match rN ps k with
 | some i => ps[i]?
 | none => none
/-- add: how a key is laid down -/
def yr (add : List Str → Str → List Str) (ps : List z1) : Nat → List Str → List Str → List Str
 | 0, out, _ => out
 | _ + 1, out, [] => out
 | n + 1, out, k :: w => match wm ps k with
  | none => yr add ps n out w
  | some p => cond (yj out k) (yr add ps n out w) (yr add ps n (add out k) (w ++ p.zC))
theorem tK (ps : List z1) : ∀ (n : Nat) (a b w : List Str), Asc b → a.Perm b → Asc (yr xO ps n b w) ∧ (yr (fun l s => l ++ [s]) ps n a w).Perm (yr xO ps n b w)
 | 0, a, b, w, hb, h => ⟨hb, h⟩
 | n + 1, a, b, [], hb, h => ⟨hb, h⟩
 | n + 1, a, b, k :: w, hb, h => by
  rw [yr, yr]
  cases wm ps k with
  | none => exact tK ps n a b w hb h
  | some p =>
   rw [Yp h k]
   cases hc : yj b k with
   | true => exact tK ps n a b w hb h
   | false => exact tK ps n (a ++ [k]) (xO b k) (w ++ p.zC) (dA b k hb) ((h.append_right [k]).trans (ou b k hc).symm)
theorem ma (ps : List z1) (n : Nat) (w : List Str) : wK (yr (fun l s => l ++ [s]) ps n [] w) = yr xO ps n [] w := by
 obtain ⟨h1, h2⟩ := tK ps n [] [] w (by simp [Asc]) (List.Perm.refl _)
 exact XX h1 h2
def muP (out : List Str) (p : z1) : Nat := cond (yj out (keyOf p)) 0 p.zC.length
def muS (ps : List z1) (out : List Str) : Nat := (ps.map (muP out)).sum
theorem om (l : List Str) (k s : Str) : yj (l ++ [k]) s = (yj l s || (k == s)) := by simp [yj]
theorem Uo (k : Str) (out out' : List Str) (h : ∀ s, yj out' s = (yj out s || (k == s))) : ∀ ps : List z1, muS ps out' ≤ muS ps out
 | [] => by simp [muS]
 | p :: ps => by
  have ih := Uo k out out' h ps
  unfold muS at ih ⊢
  simp only [List.map_cons, List.sum_cons]
  have : muP out' p ≤ muP out p := by
   unfold muP
   rw [h]
   cases yj out (keyOf p) <;> cases (k == keyOf p) <;> simp
  omega
theorem pn (k : Str) (out out' : List Str) (h : ∀ s, yj out' s = (yj out s || (k == s))) (hk : yj out k = false) : ∀ (ps : List z1) (p : z1), p ∈ ps → keyOf p = k → muS ps out' + p.zC.length ≤ muS ps out
 | [], p, hp, _ => by simp at hp
 | q :: ps, p, hp, e => by
  unfold muS
  simp only [List.map_cons, List.sum_cons]
  rcases List.mem_cons.1 hp with rfl | hp
  · have h1 := Uo k out out' h ps
    unfold muS at h1
    have : muP out' p = 0 := by unfold muP; rw [h, e, beq_self_eq_true, Bool.or_true]; rfl
    have h2 : muP out p = p.zC.length := by unfold muP; rw [e, hk]; rfl
    omega
  · have h1 := pn k out out' h hk ps p hp e
    unfold muS at h1
    have : muP out' q ≤ muP out q := by
     unfold muP
     rw [h]
     cases yj out (keyOf q) <;> cases (k == keyOf q) <;> simp
    omega
theorem l8 : ∀ ps : List z1, muS ps [] ≤ z1.zJ ps
 | [] => by simp [muS]
 | p :: ps => by
  have ih := l8 ps
  unfold muS at ih ⊢
  simp only [List.map_cons, List.sum_cons, z1.zJ]
  have : muP [] p ≤ p.zY := by
   unfold muP
   simp only [yj, List.any_nil, cond_false, z1.zY]; omega
  omega
theorem Zb {α : Type} (p : α → Bool) : ∀ (l : List α) (n i : Nat), xN p l n = some i → n ≤ i ∧ ∃ q, l[i - n]? = some q ∧ p q = true
 | [], n, i, h => by cases h
 | x :: r, n, i, h => by
  rw [xN] at h
  split at h
  · rename_i hx
    cases h
    exact ⟨Nat.le_refl _, x, by simp, hx⟩
  · obtain ⟨h1, q, h2, h3⟩ := Zb p r (n + 1) i h
    refine ⟨by omega, q, ?_, h3⟩
    rw [show i - n = (i - (n + 1)) + 1 by omega]
    simpa using h2
theorem oe {α : Type} {p : α → Bool} {l : List α} {i : Nat} (h : xN p l 0 = some i) : ∃ q, l[i]? = some q ∧ p q = true := by
 obtain ⟨_, q, h2, h3⟩ := Zb p l 0 i h
 exact ⟨q, by simpa using h2, h3⟩
theorem sO {ps : List z1} {k : Str} {p : z1} (h : wm ps k = some p) : p ∈ ps ∧ keyOf p = k ∧ ∃ i, rN ps k = some i ∧ ps[i]? = some p := by
 unfold wm at h
 split at h
 · rename_i i hi
   exact ⟨List.mem_of_getElem? h, by
    have := oe hi
    obtain ⟨q, h1, h2⟩ := this
    rw [h] at h1
    cases h1
    simpa using h2, i, hi, h⟩
 · cases h
theorem eS {ps : List z1} {k : Str} (h : wm ps k = none) : rN ps k = none := by
 unfold wm at h
 split at h
 · rename_i i hi
   obtain ⟨q, h1, h2⟩ := oe hi
   rw [h] at h1; cases h1
 · assumption
end Go.Proofs.YtonbkdklidfmfaaGreatDoor
/- Who is to blame, plain: both ways come to the same. Conditions: none. -/
namespace Go.Proofs.YtonbkdklidfmfaaGreatDoor
open E
set_option linter.unusedVariables false
set_option linter.unusedSimpArgs false
set_option maxRecDepth 100000
def wu : List Str → Str → Nat
 | [], _ => 0
 | x :: r, s => cond (Op.bytesLess x s) (wu r s + 1) 0
/-- does it stand at its place? -/
def atS (l : List Str) (s : Str) : Bool := l[wu l s]? == some s
theorem aa : ∀ (l : List Str) (s : Str), wu l s ≤ l.length
 | [], s => by simp [wu]
 | x :: r, s => by
  have := aa r s
  rw [wu]
  cases Op.bytesLess x s with
  | true => simp only [cond_true, List.length_cons]; omega
  | false => simp
theorem Zz : ∀ (l : List Str) (s : Str), atS l s = false → xO l s = l.take (wu l s) ++ s :: l.drop (wu l s)
 | [], s, h => by simp [xO, wu]
 | x :: r, s, h => by
  unfold atS at h
  rw [wu] at h ⊢
  rw [xO]
  cases h1 : Op.bytesLess x s with
  | true =>
   rw [h1, cond_true, List.getElem?_cons_succ] at h
   simp only [cond_true, List.take_succ_cons, List.drop_succ_cons, List.cons_append]
   rw [Zz r s h]
  | false =>
   rw [h1, cond_false] at h
   have : (x == s) = false := by simpa using h
   simp [this]
theorem S0 {l : List Str} {s : Str} (h : yj l s = false) : atS l s = false := by
 cases ha : atS l s with
 | false => rfl
 | true =>
  unfold atS at ha
  have : l[wu l s]? = some s := by simpa using ha
  have hm := List.mem_of_getElem? this
  unfold yj at h
  rw [List.any_eq_false] at h
  exact absurd (by simp) (h s hm)
theorem kR (a v : Str) (hv : (64 : UInt8) ∉ v) : ∀ n, n ≤ v.length → uM 64 (a ++ 64 :: v) (a.length + 1 + n) = some a.length
 | 0, _ => by simp [uM]
 | n + 1, hn => by
  have e : (a ++ 64 :: v)[a.length + 1 + n]? = v[n]? := by
   rw [List.getElem?_append_right (by omega), show a.length + 1 + n - a.length = n + 1 by omega, List.getElem?_cons_succ]
  have ne : ¬ (v[n]? = some 64) := fun h => hv (List.mem_of_getElem? h)
  rw [show a.length + 1 + (n + 1) = (a.length + 1 + n) + 1 by omega, uM, e, if_neg ne]
  exact kR a v hv n (by omega)
theorem jE (a v : Str) (hv : (64 : UInt8) ∉ v) : vD ((a ++ [64]) ++ v) = (a, v) := by
 have h := kR a v hv v.length (Nat.le_refl _)
 unfold vD
 rw [show (a ++ [64]) ++ v = a ++ 64 :: v by simp, show (a ++ 64 :: v).length = a.length + 1 + v.length by simp; omega, h]
 simp
theorem XS {v : Str} (h : (wO v).isSome = true) : (64 : UInt8) ∉ v := by
 intro hm
 have h1 := Rz (c := 64) (by decide) hm
 rw [Ws h1] at h
 cases h
theorem gq {p : z1} (h : ur p = true) : vD (keyOf p) = (p.name, p.version) := by
 unfold ur at h
 simp only [Bool.and_eq_true] at h
 exact jE p.name p.version (XS h.2.1)
theorem oH (ps : List z1) : ∀ (o : Option Str) (l : List z1), xZ ps o l = true → ∀ p ∈ l, ur p = true ∧ xx ps none p.zC = true
 | _, [], _, p, hp => by simp at hp
 | o, q :: r, h, p, hp => by
  rw [xZ] at h
  simp only [Bool.and_eq_true] at h
  rcases List.mem_cons.1 hp with rfl | hp
  · exact ⟨h.1.1, h.1.2.2⟩
  · exact oH ps _ r h.2 p hp
theorem tO (ps : List z1) : ∀ (o : Option Str) (l : List Str), xx ps o l = true → (l.Pairwise fun x y => Op.bytesLess x y = true) ∧ (∀ k ∈ l, gj ps k = true) ∧ ∀ k ∈ l, vx o k = true
 | o, [], _ => by simp
 | o, k :: r, h => by
  rw [xx] at h
  simp only [Bool.and_eq_true] at h
  obtain ⟨h1, h2, h3⟩ := tO ps (some k) r h.2
  refine ⟨List.pairwise_cons.2 ⟨fun y hy => h3 y hy, h1⟩, fun y hy => ?_, fun y hy => ?_⟩
  · rcases List.mem_cons.1 hy with rfl | hy
    · exact h.1.1
    · exact h2 y hy
  · rcases List.mem_cons.1 hy with rfl | hy
    · exact h.1.2
    · cases o with
      | none => rfl
      | some q => exact wh h.1.2 (h3 y hy)
/-- what is reached in a graph -/
def yb (ps : List z1) (w : List Str) : List Str := yr xO ps (w.length + muS ps []) [] w
theorem uF {g : zx} (h : ym g = true) : ∀ p ∈ g.packs, ur p = true ∧ xx g.packs none p.zC = true := by
 unfold ym at h
 simp only [Bool.and_eq_true] at h
 exact oH g.packs none g.packs h.1
/-- how many are not there yet -/
def uL (ps : List z1) (out : List Str) : Nat := ps.countP fun p => !(yj out (keyOf p))
theorem ei (k : Str) (out out' : List Str) (h : ∀ s, yj out' s = (yj out s || (k == s))) : ∀ ps : List z1, uL ps out' ≤ uL ps out
 | [] => by simp [uL]
 | p :: ps => by
  have ih := ei k out out' h ps
  unfold uL at ih ⊢
  simp only [List.countP_cons]
  rw [h (keyOf p)]
  cases yj out (keyOf p) <;> cases (k == keyOf p) <;> simp <;> omega
theorem tN (k : Str) (out out' : List Str) (h : ∀ s, yj out' s = (yj out s || (k == s))) (hk : yj out k = false) : ∀ (ps : List z1) (p : z1), p ∈ ps → keyOf p = k → uL ps out' + 1 ≤ uL ps out
 | [], p, hp, _ => by simp at hp
 | q :: ps, p, hp, e => by
  rcases List.mem_cons.1 hp with rfl | hp
  · have h1 := ei k out out' h ps
    unfold uL at h1 ⊢
    simp only [List.countP_cons]
    rw [h (keyOf p), e, hk, beq_self_eq_true]
    simp
    omega
  · have h1 := tN k out out' h hk ps p hp e
    unfold uL at h1 ⊢
    simp only [List.countP_cons]
    rw [h (keyOf q)]
    cases yj out (keyOf q) <;> cases (k == keyOf q) <;> simp <;> omega
theorem py : ∀ (l : List Str) (k s : Str), yj (xO l k) s = (yj l s || (k == s))
 | [], k, s => by simp [xO, yj]
 | x :: r, k, s => by
  have ih := py r k s
  unfold yj at ih ⊢
  rw [xO]
  cases h1 : Op.bytesLess x k with
  | true => simp only [cond_true, List.any_cons, ih, Bool.or_assoc]
  | false =>
   simp only [cond_false]
   cases h2 : (x == k) with
   | true =>
    have : x = k := by simpa using h2
    subst this
    simp only [cond_true, List.any_cons]
    cases (x == s) <;> simp
   | false =>
    simp only [cond_false, List.any_cons]
    cases (k == s) <;> cases (x == s) <;> simp
end Go.Proofs.YtonbkdklidfmfaaGreatDoor
/- What one reaches, by both: the functions. Conditions: those of each lemma. -/
namespace Go.Proofs.YtonbkdklidfmfaaGreatDoor
open E
set_option linter.unusedSimpArgs false
set_option linter.unusedVariables false
set_option maxRecDepth 100000
theorem wT {l : List Str} {i : Nat} {s : Str} (h : l[i]? = some s) : (strs l)[i]? = some [.str s] := by simp [strs, h]
theorem SV (l : List Str) (hl : l.length ≤ 1048576) (s : Str) : ∀ (rest pre : List Str), l = pre ++ rest →
 EV Tryz.prog pol (.loop 81 26 0 [.t (.list 1 (strs l)), .t (.str s), .t (.int .i64 (pre.length : Int))] []) = some (cond (yj rest s) (.loop .ret [.t (.bool true)] []) (.loop (.exit 0) [.bad] []))
 | [], pre, h => by
  have c : decide ((pre.length : Int) < (l.length : Int)) = false := by simp [h]
  rw [show yj [] s = false from rfl, cond_false]
  refine zk Tryz.func81 rfl rfl ?_
  simp (disch := ((try simp only [LL]); omega)) only [↓GO, ↓DRW, GA, GX, ren, zo, za, refs, z8, cst, zr, isC, bin, una, z7, zd, blt, asArg, zg, zc, zf, z6, E.mkS, unN, ze, zq, zb, GS, simprocAttr, GZ, c, zi, zH]
 | x :: rest, pre, h => by
  have c : decide ((pre.length : Int) < (l.length : Int)) = true := by simp [h]; omega
  have hget : (strs l)[pre.length]? = some [.str x] := wT (by rw [h]; simp)
  have hlen : pre.length + rest.length + 1 ≤ l.length := by rw [h]; simp; omega
  have IH := SV l hl s rest (pre ++ [x]) (by rw [h]; simp)
  rw [show ((pre ++ [x]).length : Int) = (pre.length : Int) + 1 by simp] at IH
  rw [show yj (x :: rest) s = ((x == s) || yj rest s) from rfl]
  clear h
  cases q : (x == s) with
  | true =>
   simp only [Bool.true_or, cond_true]
   refine zk Tryz.func81 rfl rfl ?_
   simp (disch := ((try simp only [LL]); omega)) only [↓GO, ↓DRW, GA, GX, ren, zo, za, refs, z8, cst, zr, isC, bin, una, z7, zd, blt, asArg, zg, zc, zf, z6, E.mkS, unN, ze, zq, zb, GS, simprocAttr, GZ, c, hget, zi, q, zn, zH]
  | false =>
   simp only [Bool.false_or]
   refine zk Tryz.func81 rfl rfl ?_
   simp (disch := ((try simp only [LL]); omega)) only [↓GO, ↓DRW, GA, GX, ren, zo, za, refs, z8, cst, zr, isC, bin, una, z7, zd, blt, asArg, zg, zc, zf, z6, E.mkS, unN, ze, zq, zb, GS, simprocAttr, GZ, c, hget, zi, q, zn, zH, IH]
theorem ZQ (l : List Str) (hl : l.length ≤ 1048576) (s : Str) : zm (EV Tryz.prog pol) 81 [.t (.list 1 (strs l)), .t (.str s)] = some (.t (.bool (yj l s))) := by
 have L := SV l hl s l [] rfl
 simp only [List.length_nil, Int.natCast_zero] at L
 cases q : yj l s <;> rw [q] at L <;> simp only [cond_true, cond_false] at L
 all_goals
  apply zu
  refine zw rfl Tryz.func81 rfl (by kernel_rfl) ?_
  unfold Tryz.f81
  simp (disch := ((try simp only [LL]); omega)) only [↓GO, ↓DRW, GA, GX, ren, zo, za, refs, z8, cst, zr, isC, bin, una, z7, zd, blt, asArg, zg, zc, zf, z6, E.mkS, unN, ze, zq, zb, GS, simprocAttr, GZ, L, zi, zH]
theorem R1 (l : List Str) (hl : l.length ≤ 1073741824) (s : Str) (n : Nat) (hn : n = l.length) (cap : Option Nat) : ∀ (rest pre : List Str), l = pre ++ rest →
 EV Tryz.prog pol (.loop 68 28 1 [.sl 0 0 n cap, .t (.str s), .t (.int .i64 (pre.length : Int))] [.ts 1 (strs l)]) = some (.loop (.exit 0) [.sl 0 0 n cap, .t (.str s), .t (.int .i64 ((pre.length + wu rest s : Nat) : Int))] [.ts 1 (strs l)])
 | [], pre, h => by
  have c : decide ((pre.length : Int) < (n : Int)) = false := by simp [hn, h]
  rw [show wu [] s = 0 from rfl, Nat.add_zero]
  refine zk Tryz.func68 rfl rfl ?_
  simp (disch := ((try simp only [LL]); omega)) only [↓GO, ↓DRW, GA, GX, ren, zo, za, refs, z8, cst, zr, isC, bin, una, z7, zd, blt, asArg, zg, zc, zf, z6, E.mkS, unN, ze, zq, zb, GS, simprocAttr, GZ, c, zH]
 | x :: rest, pre, h => by
  have c : decide ((pre.length : Int) < (n : Int)) = true := by simp [hn, h]; omega
  have c0 : decide ((0 : Int) ≤ (pre.length : Int)) = true := by simp
  have hget : (strs l)[pre.length]? = some [.str x] := wT (by rw [h]; simp)
  have hlen : pre.length + rest.length + 1 ≤ l.length := by rw [h]; simp; omega
  have IH := R1 l hl s n hn cap rest (pre ++ [x]) (by rw [h]; simp)
  rw [show ((pre ++ [x]).length : Int) = (pre.length : Int) + 1 by simp, show (pre ++ [x]).length + wu rest s = pre.length + (wu rest s + 1) by simp; omega] at IH
  rw [wu]
  clear h
  cases q : Op.bytesLess x s with
  | true =>
   simp only [cond_true]
   refine zk Tryz.func68 rfl rfl ?_
   simp (disch := ((try simp only [LL]); omega)) only [↓GO, ↓DRW, GA, GX, ren, zo, za, refs, z8, cst, zr, isC, bin, una, z7, zd, blt, asArg, zg, zc, zf, z6, E.mkS, unN, ze, zq, zb, GS, simprocAttr, GZ, c, c0, hget, q, zn, zH, IH]
  | false =>
   simp only [cond_false, Nat.add_zero]
   refine zk Tryz.func68 rfl rfl ?_
   simp (disch := ((try simp only [LL]); omega)) only [↓GO, ↓DRW, GA, GX, ren, zo, za, refs, z8, cst, zr, isC, bin, una, z7, zd, blt, asArg, zg, zc, zf, z6, E.mkS, unN, ze, zq, zb, GS, simprocAttr, GZ, c, c0, hget, q, zn, zH]
theorem Q5 (l : List Str) (hl : l.length ≤ 1073741824) (s : Str) (n : Nat) (hn : n = l.length) (cap : Option Nat) (h : atS l s = false) : EV Tryz.prog pol (.callO false 68 [.sl 0 0 n cap, .t (.str s)] [.ts 1 (strs l)]) = some (.call (.sl 1 0 (n + 1) none) [.ts 1 (strs l), .ts 1 (strs (xO l s))]) := by
 have L := R1 l hl s n hn cap l [] rfl
 simp only [List.length_nil, Int.natCast_zero, Nat.zero_add] at L
 rw [Zz l s h]
 have hp := aa l s
 unfold atS at h
 have c0 : decide ((0 : Int) ≤ ((wu l s : Nat) : Int)) = true := by simp
 have hsl : (strs l).length = n := by rw [zi, hn]
 have e : strs (l.take (wu l s) ++ s :: l.drop (wu l s)) = ((strs l).take (wu l s) ++ [[.str s]]) ++ (strs l).drop (wu l s) := by simp [strs]
 rw [e]
 have hA1 : ((strs l).take (wu l s)).length = wu l s := by rw [List.length_take, hsl]; omega
 have hB0 : ((strs l).drop (wu l s)).take (n - wu l s) = (strs l).drop (wu l s) := List.take_of_length_le (by rw [List.length_drop, hsl]; omega)
 have hB1 : ((strs l).drop (wu l s)).length = n - wu l s := by rw [List.length_drop, hsl]
 have hE : wu l s + 1 + (n - wu l s) = n + 1 := by omega
 rw [← hn] at hp
 have hnl : n ≤ 1073741824 := by omega
 cases hx : l[wu l s]? with
 | none =>
  have hlt : l.length ≤ wu l s := List.getElem?_eq_none_iff.1 hx
  have c : decide (((wu l s : Nat) : Int) < (n : Int)) = false := by rw [hn]; simpa using hlt
  clear h hx e
  generalize wu l s = p at *
  generalize hA : (strs l).take p = A at *
  generalize hB : (strs l).drop p = B at *
  have hC : (A ++ [[T.str s]]).length = p + 1 := by simp [hA1]
  refine zP Tryz.func68 rfl (by kernel_rfl) ?_
  unfold Tryz.f68
  simp (disch := ((try simp only [LL]); omega)) only [↓GO, ↓DRW, GA, GX, ren, zo, za, refs, z8, cst, zr, isC, bin, una, z7, zd, blt, asArg, zg, zc, zf, z6, E.mkS, unN, ze, zq, zb, GS, simprocAttr, GZ, L, c, c0, hsl, Nat.sub_zero, hA, hA1, hC, hB, hB0, hB1, hE, List.nil_append, Nat.zero_add, zH, xb]
  refine x5 (by kernel_rfl) ?_
  rfl
 | some x =>
  rw [hx] at h
  have q : (x == s) = false := by simpa using h
  have hget := wT hx
  have hlt : wu l s < l.length := (List.getElem?_eq_some_iff.1 hx).1
  have c : decide (((wu l s : Nat) : Int) < (n : Int)) = true := by rw [hn]; simpa using hlt
  clear h hx e
  generalize wu l s = p at *
  generalize hA : (strs l).take p = A at *
  generalize hB : (strs l).drop p = B at *
  have hC : (A ++ [[T.str s]]).length = p + 1 := by simp [hA1]
  refine zP Tryz.func68 rfl (by kernel_rfl) ?_
  unfold Tryz.f68
  simp (disch := ((try simp only [LL]); omega)) only [↓GO, ↓DRW, GA, GX, ren, zo, za, refs, z8, cst, zr, isC, bin, una, z7, zd, blt, asArg, zg, zc, zf, z6, E.mkS, unN, ze, zq, zb, GS, simprocAttr, GZ, L, c, c0, hget, q, hsl, Nat.sub_zero, hA, hA1, hC, hB, hB0, hB1, hE, List.nil_append, Nat.zero_add, zH, xb]
  refine x5 (by kernel_rfl) ?_
  rfl
theorem aS (k : Str) : ∀ (r : List Str) (i : Nat), decide (ixS k i r ≥ 0) = yj r k
 | [], i => rfl
 | x :: r, i => by
  rw [ixS, show yj (x :: r) k = ((x == k) || yj r k) from rfl]
  cases (x == k) with
  | true => simp
  | false => simp only [cond_false, Bool.false_or]; exact aS k r (i + 1)
theorem Rc (l : List Str) (hl : l.length ≤ 1048576) (s : Str) : zm (EV Tryz.prog pol) 78 [.t (.list 1 (strs l)), .t (.str s)] = some (.t (.bool (yj l s))) := by
 have h1 := c_ix s l hl
 have h2 := aS s l 0
 apply zu
 refine zw rfl Tryz.func78 rfl (by kernel_rfl) ?_
 unfold Tryz.f78
 simp (disch := ((try simp only [LL]); omega)) only [↓GO, ↓DRW, GA, GX, ren, zo, za, refs, z8, cst, zr, isC, bin, una, z7, zd, blt, asArg, zg, zc, zf, z6, E.mkS, unN, ze, zq, zb, GS, simprocAttr, GZ, h1, h2, zH]
end Go.Proofs.YtonbkdklidfmfaaGreatDoor
/- slices.IndexFunc at texts. Conditions: those of each lemma. -/
namespace Go.Proofs.YtonbkdklidfmfaaGreatDoor
open E
set_option linter.unusedSimpArgs false
set_option linter.unusedVariables false
set_option maxRecDepth 100000
theorem q6 (g : Nat) (caps : List T) (p : Str → Bool) (es : List Str) (hl : es.length ≤ 4611686018427387904) (hp : ∀ x ∈ es, zm (EV Tryz.prog pol) g (.t (.str x) :: caps.map .t) = some (.t (.bool (p x)))) : ∀ (rest pre : List Str), es = pre ++ rest →
 EV Tryz.prog pol (.loop 96 26 0 [.t (.list 1 (strs es)), .t (.fn g caps), .t (.int .i64 (es.length : Int)), .t (.int .i64 (pre.length : Int))] []) = some (match xN p rest pre.length with | some i => .loop .ret [.t (.int .i64 (i : Int))] [] | none => .loop (.exit 0) [.bad] [])
 | [], pre, hs => by
  have c : decide ((pre.length : Int) < (es.length : Int)) = false := by simp [hs]
  refine zk Tryz.func96 rfl rfl ?_
  simp only [↓GO, ↓DRW, GA, GX, ren, zo, za, refs, z8, cst, zr, isC, bin, una, z7, zd, blt, asArg, zg, zc, zf, z6, E.mkS, unN, ze, zq, zb, GS, simprocAttr, c, xN]
 | b :: rest, pre, hs => by
  have c : decide ((pre.length : Int) < (es.length : Int)) = true := by simp [hs]; omega
  have hi : pre.length < es.length := by rw [hs]; simp
  have hget := wa es pre.length hi
  have hgb : es[pre.length] = b := by simp [hs]
  rw [hgb] at hget
  have hb := hp b (by rw [hs]; simp)
  have e1 : (pre.length : Int) + 1 = ((pre ++ [b]).length : Int) := by simp
  have IH := q6 g caps p es hl hp rest (pre ++ [b]) (by rw [hs]; simp)
  refine zk Tryz.func96 rfl rfl ?_
  simp only [xN]
  cases hpb : p b with
  | true =>
   rw [hpb] at hb
   simp (disch := omega) only [↓GO, ↓DRW, GA, GX, ren, zo, za, refs, z8, cst, zr, isC, bin, una, z7, zd, blt, asArg, zg, zc, zf, z6, E.mkS, unN, ze, zq, zb, GS, simprocAttr, zi, c, hget, zn, hb]
  | false =>
   rw [hpb] at hb
   simp (disch := omega) only [↓GO, ↓DRW, GA, GX, ren, zo, za, refs, z8, cst, zr, isC, bin, una, z7, zd, blt, asArg, zg, zc, zf, z6, E.mkS, unN, ze, zq, zb, GS, simprocAttr, zi, c, hget, zn, hb]
   rw [e1, IH]
   simp
theorem lU (g : Nat) (caps : List T) (p : Str → Bool) (es : List Str) (hl : es.length ≤ 4611686018427387904) (hp : ∀ x ∈ es, zm (EV Tryz.prog pol) g (.t (.str x) :: caps.map .t) = some (.t (.bool (p x)))) :
 zm (EV Tryz.prog pol) 96 [.t (.list 1 (strs es)), .t (.fn g caps)] = some (.t (.int .i64 (ixI (xN p es 0)))) := by
 have IH := q6 g caps p es hl hp es [] rfl
 simp only [List.length_nil, Int.natCast_zero] at IH
 apply zu
 refine zw rfl Tryz.func96 rfl (by kernel_rfl) ?_
 unfold Tryz.f96
 cases hf : xN p es 0 with
 | none => rw [hf] at IH; simp only [↓GO, ↓DRW, GA, GX, ren, zo, za, refs, z8, cst, zr, isC, bin, una, z7, zd, blt, asArg, zg, zc, zf, z6, E.mkS, unN, ze, zq, zb, GS, simprocAttr, zi, IH, ixI]
 | some i => rw [hf] at IH; simp only [↓GO, ↓DRW, GA, GX, ren, zo, za, refs, z8, cst, zr, isC, bin, una, z7, zd, blt, asArg, zg, zc, zf, z6, E.mkS, unN, ze, zq, zb, GS, simprocAttr, zi, IH, ixI]
end Go.Proofs.YtonbkdklidfmfaaGreatDoor
/- Versions in order, plain: one order, all that is sorted is the same. Conditions: none. -/
namespace Go.Proofs.YtonbkdklidfmfaaGreatDoor
open E
set_option linter.unusedVariables false
set_option linter.unusedSimpArgs false
set_option maxRecDepth 100000
structure Cmp {α : Type} (p : α → Prop) (c : α → α → Int) : Prop where
 anti : ∀ x y, p x → p y → c y x = - c x y
 trans : ∀ x y z, p x → p y → p z → c x y < 0 → c y z < 0 → c x z < 0
 sep : ∀ x y, p x → p y → c x y = 0 → x = y
theorem Cmp.refl {α : Type} {p : α → Prop} {c : α → α → Int} (h : Cmp p c) {x : α} (hx : p x) : c x x = 0 := by
 have := h.anti x x hx hx; omega
theorem Cmp.R3 {α β : Type} {p : β → Prop} {c : β → β → Int} (h : Cmp p c) (f : α → β) (q : α → Prop) (hp : ∀ x, q x → p (f x)) (hi : ∀ x y, q x → q y → f x = f y → x = y) : Cmp q fun x y => c (f x) (f y) :=
 ⟨fun x y hx hy => h.anti _ _ (hp x hx) (hp y hy), fun x y z hx hy hz => h.trans _ _ _ (hp x hx) (hp y hy) (hp z hz), fun x y hx hy e => hi x y hx hy (h.sep _ _ (hp x hx) (hp y hy) e)⟩
theorem Cmp.lex {α β : Type} {p : α → Prop} {q : β → Prop} {c : α → α → Int} {d : β → β → Int} (h : Cmp p c) (k : Cmp q d) : Cmp (fun x : α × β => p x.1 ∧ q x.2) fun x y => cond (c x.1 y.1 == 0) (d x.2 y.2) (c x.1 y.1) := by
 refine ⟨fun x y hx hy => ?_, fun x y z hx hy hz h1 h2 => ?_, fun x y hx hy e => ?_⟩
 · have ha := h.anti x.1 y.1 hx.1 hy.1
   cases hc : (c x.1 y.1 == 0) with
   | true =>
    have h0 : c x.1 y.1 = 0 := by simpa using hc
    rw [ha, h0, show ((-0 : Int) == 0) = true from rfl, cond_true, cond_true]
    exact k.anti _ _ hx.2 hy.2
   | false =>
    have h0 : c x.1 y.1 ≠ 0 := by simpa using hc
    have h1 : (c y.1 x.1 == 0) = false := by rw [beq_eq_false_iff_ne, ha]; omega
    rw [h1, cond_false, cond_false, ha]
 · cases hxy : (c x.1 y.1 == 0) with
   | true =>
    have e1 := h.sep _ _ hx.1 hy.1 (by simpa using hxy)
    rw [hxy, cond_true] at h1
    rw [e1]
    cases hyz : (c y.1 z.1 == 0) with
    | true => rw [hyz, cond_true] at h2; rw [cond_true]; exact k.trans _ _ _ hx.2 hy.2 hz.2 h1 h2
    | false => rw [hyz, cond_false] at h2; rw [cond_false]; exact h2
   | false =>
    rw [hxy, cond_false] at h1
    cases hyz : (c y.1 z.1 == 0) with
    | true =>
     have e1 := h.sep _ _ hy.1 hz.1 (by simpa using hyz)
     rw [← e1, hxy, cond_false]; exact h1
    | false =>
     rw [hyz, cond_false] at h2
     have h3 := h.trans _ _ _ hx.1 hy.1 hz.1 h1 h2
     have : (c x.1 z.1 == 0) = false := by rw [beq_eq_false_iff_ne]; omega
     rw [this, cond_false]; exact h3
 · cases hc : (c x.1 y.1 == 0) with
   | true =>
    rw [hc, cond_true] at e
    have e1 := h.sep _ _ hx.1 hy.1 (by simpa using hc)
    have e2 := k.sep _ _ hx.2 hy.2 e
    exact Prod.ext e1 e2
   | false => rw [hc, cond_false] at e; rw [e] at hc; cases hc
theorem uJ {a b : Int} : vn a b < 0 ↔ a < b := by
 unfold vn
 by_cases h1 : a < b
 · simp [h1]
 · by_cases h2 : b < a
   · simp [h1, h2]
   · simp [h1, h2]
theorem te (a b : Int) : vn b a = - vn a b := by
 unfold vn
 by_cases h1 : a < b
 · have h2 : ¬ b < a := by omega
   simp [h1, h2]
 · by_cases h2 : b < a
   · simp [h1, h2]
   · simp [h1, h2]
theorem wi : Cmp (fun _ => True) vn :=
 ⟨fun x y _ _ => te x y, fun x y z _ _ _ h1 h2 => by rw [uJ] at *; omega, fun x y _ _ e => by have := td x y; rw [e] at this; simpa using this.symm⟩
theorem S4 {a b : Str} : dM a b < 0 ↔ Op.bytesLess a b = true := by
 unfold dM
 cases Op.bytesLess a b with
 | true => simp
 | false => cases (a == b) <;> simp
theorem oo : Cmp (fun _ => True) dM := by
 refine ⟨fun x y _ _ => ?_, fun x y z _ _ _ h1 h2 => ?_, fun x y _ _ e => ?_⟩
 · unfold dM
   cases h1 : Op.bytesLess x y with
   | true =>
    have h2 : Op.bytesLess y x = false := by
     cases h : Op.bytesLess y x with
     | false => rfl
     | true => have := wh h1 h; rw [wV] at this; cases this
    have h3 : (y == x) = false := by
     rw [beq_eq_false_iff_ne]; intro e; subst e; rw [wV] at h1; cases h1
    rw [h2, h3]; rfl
   | false =>
    cases h2 : Op.bytesLess y x with
    | true =>
     have h3 : (x == y) = false := by
      rw [beq_eq_false_iff_ne]; intro e; subst e; rw [wV] at h2; cases h2
     rw [h3]; rfl
    | false =>
     have := la h1 h2
     subst this
     simp
 · rw [S4] at *; exact wh h1 h2
 · unfold dM at e
   cases h1 : Op.bytesLess x y with
   | true => rw [h1] at e; cases e
   | false =>
    rw [h1] at e
    cases h2 : (x == y) with
    | true => simpa using h2
    | false => rw [h2] at e; cases e
/-- a part's place: a number ahead of all words -/
theorem tc : Cmp (fun _ => True) tA := by
 have inj : ∀ {x y : Str}, 0 ≤ zN x → zN x = zN y → x = y := fun {x y} h e => by
  have h1 := (oF h).2.1
  have h2 := (oF (s := y) (by rw [← e]; exact h)).2.1
  rw [← h1, ← h2, e]
 refine ⟨fun x y _ _ => ?_, fun x y z _ _ _ h1 h2 => ?_, fun x y _ _ e => ?_⟩
 · unfold tA
   cases decide (zN x ≥ 0) <;> cases decide (zN y ≥ 0) <;> simp only [Bool.and_true, Bool.and_false, Bool.true_and, Bool.false_and, cond_true, cond_false]
   all_goals first | exact oo.anti x y trivial trivial | exact te _ _ | rfl
 · unfold tA at *
   cases hx : decide (zN x ≥ 0) <;> cases hy : decide (zN y ≥ 0) <;> cases hz : decide (zN z ≥ 0) <;> simp only [hx, hy, hz, Bool.and_true, Bool.and_false, Bool.true_and, Bool.false_and, cond_true, cond_false] at *
   all_goals first | exact oo.trans x y z trivial trivial trivial h1 h2 | exact wi.trans _ _ _ trivial trivial trivial h1 h2 | omega
 · unfold tA at e
   cases hx : decide (zN x ≥ 0) <;> cases hy : decide (zN y ≥ 0) <;> simp only [hx, hy, Bool.and_true, Bool.and_false, Bool.true_and, Bool.false_and, cond_true, cond_false] at e
   all_goals try omega
   · exact oo.sep x y trivial trivial e
   · exact inj (of_decide_eq_true hx) (wi.sep _ _ trivial trivial e)
theorem tU (a b : Str) (l m : List Str) : u7 (a :: l) (b :: m) = cond (tA a b == 0) (u7 l m) (tA a b) := by
 unfold u7
 rw [rH]
 cases (tA a b == 0) with
 | true =>
  simp only [cond_true, List.length_cons]
  cases rH l m with
  | some x => rfl
  | none =>
   simp only [Option.getD_none]
   unfold vn
   rw [show decide (((l.length + 1 : Nat) : Int) < ((m.length + 1 : Nat) : Int)) = decide ((l.length : Int) < (m.length : Int)) by rw [Bool.eq_iff_iff]; simp,
    show decide (((l.length + 1 : Nat) : Int) > ((m.length + 1 : Nat) : Int)) = decide ((l.length : Int) > (m.length : Int)) by rw [Bool.eq_iff_iff]; simp]
 | false => rfl
theorem ry (m : List Str) : u7 [] m = vn 0 (m.length : Int) := by unfold u7 rH; rfl
theorem vi (l : List Str) : u7 l [] = vn (l.length : Int) 0 := by unfold u7 rH; cases l <;> rfl
theorem mI : ∀ l m : List Str, u7 m l = - u7 l m
 | [], m => by rw [ry, vi]; exact te _ _
 | a :: l, [] => by rw [ry, vi]; exact te _ _
 | a :: l, b :: m => by
  have h := tc.anti a b trivial trivial
  rw [tU, tU]
  cases hc : (tA a b == 0) with
  | true =>
   have h0 : tA a b = 0 := by simpa using hc
   rw [h, h0, show ((-0 : Int) == 0) = true from rfl, cond_true, cond_true]
   exact mI l m
  | false =>
   have h0 : tA a b ≠ 0 := by simpa using hc
   have h1 : (tA b a == 0) = false := by rw [beq_eq_false_iff_ne, h]; omega
   rw [h1, cond_false, cond_false, h]
theorem jq : ∀ l m : List Str, u7 l m = 0 → l = m
 | [], m, e => by
  rw [ry] at e
  have := wi.sep _ _ trivial trivial e
  cases m with
  | nil => rfl
  | cons b m => simp at this; omega
 | a :: l, [], e => by
  rw [vi] at e
  have := wi.sep _ _ trivial trivial e
  simp at this; omega
 | a :: l, b :: m, e => by
  rw [tU] at e
  cases hc : (tA a b == 0) with
  | true =>
   rw [hc, cond_true] at e
   rw [tc.sep a b trivial trivial (by simpa using hc), jq l m e]
  | false => rw [hc, cond_false] at e; rw [e] at hc; cases hc
theorem nd : ∀ l m k : List Str, u7 l m < 0 → u7 m k < 0 → u7 l k < 0
 | [], [], k, h1, h2 => h2
 | [], b :: m, [], h1, h2 => by rw [vi, uJ] at h2; simp at h2; omega
 | [], b :: m, c :: k, h1, h2 => by rw [ry, uJ]; simp
 | a :: l, [], k, h1, h2 => by rw [vi, uJ] at h1; simp at h1; omega
 | a :: l, b :: m, [], h1, h2 => by rw [vi, uJ] at h2; simp at h2; omega
 | a :: l, b :: m, c :: k, h1, h2 => by
  rw [tU] at *
  cases hxy : (tA a b == 0) with
  | true =>
   have e1 := tc.sep a b trivial trivial (by simpa using hxy)
   subst e1
   rw [hxy, cond_true] at h1
   cases hyz : (tA a c == 0) with
   | true => rw [hyz, cond_true] at h2; rw [cond_true]; exact nd l m k h1 h2
   | false => rw [hyz, cond_false] at h2; rw [cond_false]; exact h2
  | false =>
   rw [hxy, cond_false] at h1
   cases hyz : (tA b c == 0) with
   | true =>
    have e1 := tc.sep b c trivial trivial (by simpa using hyz)
    subst e1
    rw [hxy, cond_false]; exact h1
   | false =>
    rw [hyz, cond_false] at h2
    have h3 := tc.trans a b c trivial trivial trivial h1 h2
    have : (tA a c == 0) = false := by rw [beq_eq_false_iff_ne]; omega
    rw [this, cond_false]; exact h3
/-- what stands behind the numbers: nothing is above all -/
def ZO (a b : List Str) : Int := cond (a == [] || b == []) (vn (b.length : Int) (a.length : Int)) (u7 a b)
theorem cp : Cmp (fun _ => True) ZO := by
 refine ⟨fun x y _ _ => ?_, fun x y z _ _ _ h1 h2 => ?_, fun x y _ _ e => ?_⟩
 · unfold ZO
   rw [Bool.or_comm]
   cases (x == [] || y == []) with
   | true => exact te _ _
   | false => exact mI x y
 · unfold ZO at *
   cases x with
   | nil =>
    simp only [beq_self_eq_true, Bool.true_or, cond_true, uJ, List.length_nil] at h1
    omega
   | cons a x =>
    cases y with
    | nil =>
     simp only [beq_self_eq_true, Bool.true_or, cond_true, uJ, List.length_nil] at h2
     omega
    | cons b y =>
     cases z with
     | nil =>
      simp only [beq_self_eq_true, Bool.or_true, cond_true, uJ, List.length_nil, List.length_cons]
      omega
     | cons c z =>
      rw [show ((a :: x == []) || (b :: y == [])) = false from rfl, cond_false] at h1
      rw [show ((b :: y == []) || (c :: z == [])) = false from rfl, cond_false] at h2
      rw [show ((a :: x == []) || (c :: z == [])) = false from rfl, cond_false]
      exact nd _ _ _ h1 h2
 · unfold ZO at e
   cases x with
   | nil =>
    simp only [beq_self_eq_true, Bool.true_or, cond_true, List.length_nil] at e
    have := wi.sep _ _ trivial trivial e
    cases y with
    | nil => rfl
    | cons b y => simp at this; omega
   | cons a x =>
    cases y with
    | nil =>
     simp only [beq_self_eq_true, Bool.or_true, cond_true, List.length_nil] at e
     have := wi.sep _ _ trivial trivial e
     simp at this; omega
    | cons b y =>
     rw [show ((a :: x == []) || (b :: y == [])) = false from rfl, cond_false] at e
     exact jq _ _ e
theorem Yq : Cmp (fun _ => True) dL := by
 have h := (wi.lex (wi.lex (wi.lex cp))).R3 (fun v : Ver => (v.maj, v.min, v.pat, v.pre)) (fun _ => True) (fun _ _ => ⟨trivial, trivial, trivial, trivial⟩) (fun x y _ _ e => by
  obtain ⟨a, b, c, d⟩ := x
  obtain ⟨a', b', c', d'⟩ := y
  simp only [Prod.mk.injEq] at e
  obtain ⟨rfl, rfl, rfl, rfl⟩ := e
  rfl)
 exact h
/-- texts of versions compared -/
def R4 (s t : Str) : Int := dL (zW s).1 (zW t).1
theorem mH : Cmp (fun s => isV s = true) R4 :=
 Yq.R3 (fun s => (zW s).1) _ (fun _ _ => trivial) fun x y hx hy e => by
  have h1 := (we hx).2.1
  have h2 := (we hy).2.1
  rw [← h1, ← h2, e]
def SK (l : List Str) : Prop := l.Pairwise fun x y => R4 x y < 0
def AllV (l : List Str) : Prop := ∀ s ∈ l, isV s = true
theorem SK.uniq : ∀ {a b : List Str}, AllV a → AllV b → SK a → SK b → (∀ s, s ∈ a ↔ s ∈ b) → a = b
 | [], [], _, _, _, _, _ => rfl
 | [], y :: b, _, _, _, _, h => by have := (h y).2 (by simp); simp at this
 | x :: a, [], _, _, _, _, h => by have := (h x).1 (by simp); simp at this
 | x :: a, y :: b, va, vb, h1, h2, h => by
  obtain ⟨p1, p2⟩ := List.pairwise_cons.1 h1
  obtain ⟨q1, q2⟩ := List.pairwise_cons.1 h2
  have hxy : x = y := by
   rcases List.mem_cons.1 ((h x).1 (by simp)) with e | m1
   · exact e
   · rcases List.mem_cons.1 ((h y).2 (by simp)) with e | m2
     · exact e.symm
     · have a1 := p1 y m2
       have a2 := q1 x m1
       have := mH.anti x y (va x (by simp)) (vb y (by simp))
       omega
  subst hxy
  have hx := va x (by simp)
  have hr := mH.refl hx
  rw [SK.uniq (fun s hs => va s (by simp [hs])) (fun s hs => vb s (by simp [hs])) p2 q2 fun s => ?_]
  constructor
  · intro hs
    rcases List.mem_cons.1 ((h s).1 (by simp [hs])) with rfl | m
    · have := p1 s hs; omega
    · exact m
  · intro hs
    rcases List.mem_cons.1 ((h s).2 (by simp [hs])) with rfl | m
    · have := q1 s hs; omega
    · exact m
end Go.Proofs.YtonbkdklidfmfaaGreatDoor
/- What the laws' own functions do over Change: sizes, copies, comparisons. Conditions: those of each lemma. -/
namespace Go.Proofs.YtonbkdklidfmfaaGreatDoor
open E
set_option linter.unusedSimpArgs false
set_option linter.unusedVariables false
set_option maxRecDepth 100000
structure yi where
 kind : Int
 name : List UInt8
 old : List UInt8
 new : List UInt8
def yi.enc (x : yi) : List T := [.int .i64 x.kind, .str x.name, .str x.old, .str x.new]
def yi.zh (l : List yi) : List (List T) := l.map yi.enc
def yi.zY (x : yi) : Nat := x.name.length + x.old.length + x.new.length
def yi.zJ : List yi → Nat
 | [] => 0
 | c :: cs => yi.zY c + yi.zJ cs
def yi.ok (x : yi) : Prop := x.name.length ≤ 9223372036854775807 ∧ x.old.length ≤ 9223372036854775807 ∧ x.new.length ≤ 9223372036854775807
theorem yi.wW (x : yi) : x.enc.length = 4 := rfl
theorem yi.wc (x : yi) : x.enc.take 4 = x.enc := rfl
theorem yi.zj (cs : List yi) : (yi.zh cs).length = cs.length := by simp [yi.zh]
theorem yi.xm (cs : List yi) (i : Nat) (h : i < cs.length) : (yi.zh cs)[i]? = some cs[i].enc := by simp [yi.zh, h]
theorem yi.xG (cs : List yi) (i : Nat) (h : i < cs.length) : yi.zJ (cs.drop i) = cs[i].zY + yi.zJ (cs.drop (i + 1)) := by
 rw [List.drop_eq_getElem_cons h]; rfl
theorem yi.ye : ∀ {cs : List yi} {c : yi}, c ∈ cs → c.zY ≤ yi.zJ cs
 | c' :: cs, c, h => by
  simp only [yi.zJ]
  rcases List.mem_cons.1 h with rfl | h
  · omega
  · have := yi.ye h; omega
end Go.Proofs.YtonbkdklidfmfaaGreatDoor
/- Names in order, changes between graphs, plain: both ways come to the same. Conditions: none. -/
namespace Go.Proofs.YtonbkdklidfmfaaGreatDoor
open E
set_option linter.unusedVariables false
set_option linter.unusedSimpArgs false
set_option maxRecDepth 100000
def SL (l : List Str) : Prop := l.Pairwise fun x y => Op.bytesLess x y = true
theorem Rw {x y : Str} (h : Op.bytesLess x y = true) : Op.bytesLess y x = false := by
 cases h2 : Op.bytesLess y x with
 | false => rfl
 | true => have := wh h h2; rw [wV] at this; cases this
theorem SL.uniq : ∀ {a b : List Str}, SL a → SL b → (∀ s, s ∈ a ↔ s ∈ b) → a = b
 | [], [], _, _, _ => rfl
 | [], y :: b, _, _, h => by have := (h y).2 (by simp); simp at this
 | x :: a, [], _, _, h => by have := (h x).1 (by simp); simp at this
 | x :: a, y :: b, h1, h2, h => by
  obtain ⟨p1, p2⟩ := List.pairwise_cons.1 h1
  obtain ⟨q1, q2⟩ := List.pairwise_cons.1 h2
  have hxy : x = y := by
   rcases List.mem_cons.1 ((h x).1 (by simp)) with e | m1
   · exact e
   · rcases List.mem_cons.1 ((h y).2 (by simp)) with e | m2
     · exact e.symm
     · have a1 := Rw (p1 y m2)
       have a2 := q1 x m1
       rw [a2] at a1; cases a1
  subst hxy
  rw [SL.uniq p2 q2 fun s => ?_]
  constructor
  · intro hs
    rcases List.mem_cons.1 ((h s).1 (by simp [hs])) with rfl | m
    · have := p1 s hs; rw [wV] at this; cases this
    · exact m
  · intro hs
    rcases List.mem_cons.1 ((h s).2 (by simp [hs])) with rfl | m
    · have := q1 s hs; rw [wV] at this; cases this
    · exact m
theorem tw : ∀ (l : List Str) (s y : Str), y ∈ xO l s ↔ y ∈ l ∨ y = s
 | [], s, y => by simp [xO]
 | x :: r, s, y => by
  rw [xO]
  cases h1 : Op.bytesLess x s with
  | true => rw [cond_true, List.mem_cons, tw r s y, List.mem_cons, or_assoc]
  | false =>
   rw [cond_false]
   cases h2 : (x == s) with
   | true =>
    have : x = s := by simpa using h2
    subst this
    rw [cond_true, List.mem_cons]
    constructor
    · exact .inl
    · rintro (h | h)
      · exact h
      · exact .inl h
   | false => rw [cond_false, List.mem_cons]; exact Or.comm
def uK (l : List zy) : List (List Str) := l.map fun s => [s.alg, s.bytes]
end Go.Proofs.YtonbkdklidfmfaaGreatDoor
/- Lists compared, packs compared, texts kept and left out, names of two graphs, by both. Conditions: those of each lemma. -/
namespace Go.Proofs.YtonbkdklidfmfaaGreatDoor
open E
set_option linter.unusedSimpArgs false
set_option linter.unusedVariables false
set_option maxRecDepth 100000
theorem SY (a b : List Str) (hl : a.length ≤ 4194304) : ∀ (ra rb pa pb : List Str), a = pa ++ ra → b = pb ++ rb → pa.length = pb.length → ra.length = rb.length →
 EV Tryz.prog pol (.loop 64 58 0 [.t (.list 1 (strs a)), .t (.list 1 (strs b)), .t (.int .i64 (a.length : Int)), .t (.int .i64 (pa.length : Int))] []) = some (cond (ra == rb) (.loop (.exit 0) [.bad] []) (.loop .ret [.t (.bool false)] []))
 | [], [], pa, pb, ha, hb, hp, hr => by
  have c : decide ((pa.length : Int) < (a.length : Int)) = false := by simp [ha]
  rw [show (([] : List Str) == []) = true from rfl, cond_true]
  refine zk Tryz.func64 rfl rfl ?_
  simp (disch := ((try simp only [LL]); omega)) only [↓GO, ↓DRW, GA, GX, ren, zo, za, refs, z8, cst, zr, isC, bin, una, z7, zd, blt, asArg, zg, zc, zf, z6, E.mkS, unN, ze, zq, zb, GS, simprocAttr, GZ, c, zH]
 | [], _ :: _, pa, pb, ha, hb, hp, hr => by simp at hr
 | _ :: _, [], pa, pb, ha, hb, hp, hr => by simp at hr
 | x :: ra, y :: rb, pa, pb, ha, hb, hp, hr => by
  have c : decide ((pa.length : Int) < (a.length : Int)) = true := by simp [ha]; omega
  have hg1 : (strs a)[pa.length]? = some [.str x] := wT (by rw [ha]; simp)
  have hg2 : (strs b)[pa.length]? = some [.str y] := wT (by rw [hb, hp]; simp)
  have hlen : pa.length + ra.length + 1 ≤ a.length := by rw [ha]; simp; omega
  have IH := SY a b hl ra rb (pa ++ [x]) (pb ++ [y]) (by rw [ha]; simp) (by rw [hb]; simp) (by simp [hp]) (by simpa using hr)
  rw [show ((pa ++ [x]).length : Int) = (pa.length : Int) + 1 by simp] at IH
  rw [List.cons_beq_cons]
  clear ha hb
  cases q : (x == y) with
  | true =>
   rw [Bool.true_and]
   refine zk Tryz.func64 rfl rfl ?_
   simp (disch := ((try simp only [LL]); omega)) only [↓GO, ↓DRW, GA, GX, ren, zo, za, refs, z8, cst, zr, isC, bin, una, z7, zd, blt, asArg, zg, zc, zf, z6, E.mkS, unN, ze, zq, zb, GS, simprocAttr, GZ, c, hg1, hg2, q, bne, Bool.not_true, zn, zH, IH]
  | false =>
   rw [Bool.false_and, cond_false]
   refine zk Tryz.func64 rfl rfl ?_
   simp (disch := ((try simp only [LL]); omega)) only [↓GO, ↓DRW, GA, GX, ren, zo, za, refs, z8, cst, zr, isC, bin, una, z7, zd, blt, asArg, zg, zc, zf, z6, E.mkS, unN, ze, zq, zb, GS, simprocAttr, GZ, c, hg1, hg2, q, bne, Bool.not_false, zn, zH]
theorem V1 {a b : List Str} (h : a.length ≠ b.length) : (a == b) = false := by
 rw [beq_eq_false_iff_ne]; intro e; exact h (by rw [e])
theorem c_eqI (a b : List Str) (hl : a.length ≤ 4194304) : zm (EV Tryz.prog pol) 64 [.t (.list 1 (strs a)), .t (.list 1 (strs b))] = some (.t (.bool (a == b))) := by
 by_cases hn : a.length = b.length
 · have L := SY a b hl a b [] [] rfl rfl rfl hn
   simp only [List.length_nil, Int.natCast_zero] at L
   have c : ((a.length : Int) != (b.length : Int)) = false := by rw [hn]; simp
   cases q : (a == b) <;> rw [q] at L <;> simp only [cond_true, cond_false] at L
   all_goals
    apply zu
    refine zw rfl Tryz.func64 rfl (by kernel_rfl) ?_
    unfold Tryz.f64
    simp (disch := ((try simp only [LL]); omega)) only [↓GO, ↓DRW, GA, GX, ren, zo, za, refs, z8, cst, zr, isC, bin, una, z7, zd, blt, asArg, zg, zc, zf, z6, E.mkS, unN, ze, zq, zb, GS, simprocAttr, GZ, L, zi, c, zH]
 · have c : ((a.length : Int) != (b.length : Int)) = true := by simp; omega
   rw [V1 hn]
   apply zu
   refine zw rfl Tryz.func64 rfl (by kernel_rfl) ?_
   unfold Tryz.f64
   simp (disch := ((try simp only [LL]); omega)) only [↓GO, ↓DRW, GA, GX, ren, zo, za, refs, z8, cst, zr, isC, bin, una, z7, zd, blt, asArg, zg, zc, zf, z6, E.mkS, unN, ze, zq, zb, GS, simprocAttr, GZ, zi, c, zH]
theorem SX (a b : List Str) (hl : a.length ≤ 4194304) : ∀ (ra rb pa pb : List Str), a = pa ++ ra → b = pb ++ rb → pa.length = pb.length → ra.length = rb.length →
 EV Tryz.prog pol (.loop 61 58 0 [.t (.list 1 (strs a)), .t (.list 1 (strs b)), .t (.int .i64 (pa.length : Int))] []) = some (cond (ra == rb) (.loop (.exit 0) [.bad] []) (.loop .ret [.t (.bool false)] []))
 | [], [], pa, pb, ha, hb, hp, hr => by
  have c : decide ((pa.length : Int) < (a.length : Int)) = false := by simp [ha]
  rw [show (([] : List Str) == []) = true from rfl, cond_true]
  refine zk Tryz.func61 rfl rfl ?_
  simp (disch := ((try simp only [LL]); omega)) only [↓GO, ↓DRW, GA, GX, ren, zo, za, refs, z8, cst, zr, isC, bin, una, z7, zd, blt, asArg, zg, zc, zf, z6, E.mkS, unN, ze, zq, zb, GS, simprocAttr, GZ, c, zi, zH]
 | [], _ :: _, pa, pb, ha, hb, hp, hr => by simp at hr
 | _ :: _, [], pa, pb, ha, hb, hp, hr => by simp at hr
 | x :: ra, y :: rb, pa, pb, ha, hb, hp, hr => by
  have c : decide ((pa.length : Int) < (a.length : Int)) = true := by simp [ha]; omega
  have hg1 : (strs a)[pa.length]? = some [.str x] := wT (by rw [ha]; simp)
  have hg2 : (strs b)[pa.length]? = some [.str y] := wT (by rw [hb, hp]; simp)
  have hlen : pa.length + ra.length + 1 ≤ a.length := by rw [ha]; simp; omega
  have IH := SX a b hl ra rb (pa ++ [x]) (pb ++ [y]) (by rw [ha]; simp) (by rw [hb]; simp) (by simp [hp]) (by simpa using hr)
  rw [show ((pa ++ [x]).length : Int) = (pa.length : Int) + 1 by simp] at IH
  rw [List.cons_beq_cons]
  clear ha hb
  cases q : (x == y) with
  | true =>
   rw [Bool.true_and]
   refine zk Tryz.func61 rfl rfl ?_
   simp (disch := ((try simp only [LL]); omega)) only [↓GO, ↓DRW, GA, GX, ren, zo, za, refs, z8, cst, zr, isC, bin, una, z7, zd, blt, asArg, zg, zc, zf, z6, E.mkS, unN, ze, zq, zb, GS, simprocAttr, GZ, c, hg1, hg2, zi, q, bne, Bool.not_true, zn, zH, IH]
  | false =>
   rw [Bool.false_and, cond_false]
   refine zk Tryz.func61 rfl rfl ?_
   simp (disch := ((try simp only [LL]); omega)) only [↓GO, ↓DRW, GA, GX, ren, zo, za, refs, z8, cst, zr, isC, bin, una, z7, zd, blt, asArg, zg, zc, zf, z6, E.mkS, unN, ze, zq, zb, GS, simprocAttr, GZ, c, hg1, hg2, zi, q, bne, Bool.not_false, zn, zH]
theorem c_eqR (a b : List Str) (hl : a.length ≤ 4194304) : zm (EV Tryz.prog pol) 61 [.t (.list 1 (strs a)), .t (.list 1 (strs b))] = some (.t (.bool (a == b))) := by
 by_cases hn : a.length = b.length
 · have L := SX a b hl a b [] [] rfl rfl rfl hn
   simp only [List.length_nil, Int.natCast_zero] at L
   have c : ((a.length : Int) != (b.length : Int)) = false := by rw [hn]; simp
   cases q : (a == b) <;> rw [q] at L <;> simp only [cond_true, cond_false] at L
   all_goals
    apply zu
    refine zw rfl Tryz.func61 rfl (by kernel_rfl) ?_
    unfold Tryz.f61
    simp (disch := ((try simp only [LL]); omega)) only [↓GO, ↓DRW, GA, GX, ren, zo, za, refs, z8, cst, zr, isC, bin, una, z7, zd, blt, asArg, zg, zc, zf, z6, E.mkS, unN, ze, zq, zb, GS, simprocAttr, GZ, L, zi, c, zH]
 · have c : ((a.length : Int) != (b.length : Int)) = true := by simp; omega
   have hf : (a == b) = false := by rw [beq_eq_false_iff_ne]; intro e; exact hn (by rw [e])
   rw [hf]
   apply zu
   refine zw rfl Tryz.func61 rfl (by kernel_rfl) ?_
   unfold Tryz.f61
   simp (disch := ((try simp only [LL]); omega)) only [↓GO, ↓DRW, GA, GX, ren, zo, za, refs, z8, cst, zr, isC, bin, una, z7, zd, blt, asArg, zg, zc, zf, z6, E.mkS, unN, ze, zq, zb, GS, simprocAttr, GZ, zi, c, zH]
theorem nR (x : zy) (r : List zy) : uK (x :: r) = [x.alg, x.bytes] :: uK r := rfl
theorem kf (l : List zy) : (uK l).length = l.length := by simp [uK]
theorem Ud {l : List zy} {i : Nat} {s : zy} (h : l[i]? = some s) : (zy.zh l)[i]? = some [.str s.alg, .str s.bytes] := by simp [zy.zh, zy.enc, h]
theorem Uw (a b : List zy) (hl : a.length ≤ 4194304) : ∀ (ra rb pa pb : List zy), a = pa ++ ra → b = pb ++ rb → pa.length = pb.length → ra.length = rb.length →
 EV Tryz.prog pol (.loop 104 58 0 [.t (.list 2 (zy.zh a)), .t (.list 2 (zy.zh b)), .t (.int .i64 (a.length : Int)), .t (.int .i64 (pa.length : Int))] []) = some (cond (uK ra == uK rb) (.loop (.exit 0) [.bad] []) (.loop .ret [.t (.bool false)] []))
 | [], [], pa, pb, ha, hb, hp, hr => by
  have c : decide ((pa.length : Int) < (a.length : Int)) = false := by simp [ha]
  rw [show (uK [] == uK []) = true from rfl, cond_true]
  refine zk Tryz.func104 rfl rfl ?_
  simp (disch := ((try simp only [LL]); omega)) only [↓GO, ↓DRW, GA, GX, ren, zo, za, refs, z8, cst, zr, isC, bin, una, z7, zd, blt, asArg, zg, zc, zf, z6, E.mkS, unN, ze, zq, zb, GS, simprocAttr, GZ, c, zH]
 | [], _ :: _, pa, pb, ha, hb, hp, hr => by simp at hr
 | _ :: _, [], pa, pb, ha, hb, hp, hr => by simp at hr
 | x :: ra, y :: rb, pa, pb, ha, hb, hp, hr => by
  have c : decide ((pa.length : Int) < (a.length : Int)) = true := by simp [ha]; omega
  have hg1 : (zy.zh a)[pa.length]? = some [.str x.alg, .str x.bytes] := Ud (by rw [ha]; simp)
  have hg2 : (zy.zh b)[pa.length]? = some [.str y.alg, .str y.bytes] := Ud (by rw [hb, hp]; simp)
  have hlen : pa.length + ra.length + 1 ≤ a.length := by rw [ha]; simp; omega
  have IH := Uw a b hl ra rb (pa ++ [x]) (pb ++ [y]) (by rw [ha]; simp) (by rw [hb]; simp) (by simp [hp]) (by simpa using hr)
  rw [show ((pa ++ [x]).length : Int) = (pa.length : Int) + 1 by simp] at IH
  rw [nR, nR, List.cons_beq_cons]
  clear ha hb
  cases q : ([x.alg, x.bytes] == [y.alg, y.bytes]) with
  | true =>
   rw [Bool.true_and]
   refine zk Tryz.func104 rfl rfl ?_
   simp (disch := ((try simp only [LL]); omega)) only [↓GO, ↓DRW, GA, GX, ren, zo, za, refs, z8, cst, zr, isC, bin, una, z7, zd, blt, asArg, zg, zc, zf, z6, E.mkS, unN, ze, zq, zb, GS, simprocAttr, GZ, c, hg1, hg2, q, bne, Bool.not_true, zn, zH, IH, List.length_cons, List.length_nil, Nat.zero_add, Nat.reduceAdd, and_self, if_true]
  | false =>
   rw [Bool.false_and, cond_false]
   refine zk Tryz.func104 rfl rfl ?_
   simp (disch := ((try simp only [LL]); omega)) only [↓GO, ↓DRW, GA, GX, ren, zo, za, refs, z8, cst, zr, isC, bin, una, z7, zd, blt, asArg, zg, zc, zf, z6, E.mkS, unN, ze, zq, zb, GS, simprocAttr, GZ, c, hg1, hg2, q, bne, Bool.not_false, zn, zH, List.length_cons, List.length_nil, Nat.zero_add, Nat.reduceAdd, and_self, if_true]
theorem c_eqSI (a b : List zy) (hl : a.length ≤ 4194304) : zm (EV Tryz.prog pol) 104 [.t (.list 2 (zy.zh a)), .t (.list 2 (zy.zh b))] = some (.t (.bool (uK a == uK b))) := by
 by_cases hn : a.length = b.length
 · have L := Uw a b hl a b [] [] rfl rfl rfl hn
   simp only [List.length_nil, Int.natCast_zero] at L
   have c : ((a.length : Int) != (b.length : Int)) = false := by rw [hn]; simp
   cases q : (uK a == uK b) <;> rw [q] at L <;> simp only [cond_true, cond_false] at L
   all_goals
    apply zu
    refine zw rfl Tryz.func104 rfl (by kernel_rfl) ?_
    unfold Tryz.f104
    simp (disch := ((try simp only [LL]); omega)) only [↓GO, ↓DRW, GA, GX, ren, zo, za, refs, z8, cst, zr, isC, bin, una, z7, zd, blt, asArg, zg, zc, zf, z6, E.mkS, unN, ze, zq, zb, GS, simprocAttr, GZ, L, zy.zj, c, zH]
 · have c : ((a.length : Int) != (b.length : Int)) = true := by simp; omega
   have hf : (uK a == uK b) = false := by rw [beq_eq_false_iff_ne]; intro e; exact hn (by rw [← kf a, e, kf])
   rw [hf]
   apply zu
   refine zw rfl Tryz.func104 rfl (by kernel_rfl) ?_
   unfold Tryz.f104
   simp (disch := ((try simp only [LL]); omega)) only [↓GO, ↓DRW, GA, GX, ren, zo, za, refs, z8, cst, zr, isC, bin, una, z7, zd, blt, asArg, zg, zc, zf, z6, E.mkS, unN, ze, zq, zb, GS, simprocAttr, GZ, zy.zj, c, zH]
theorem qx {α : Type} (p : α → Bool) : ∀ (l : List α) (n i : Nat), xN p l n = some i → ∃ pre x post, l = pre ++ x :: post ∧ n + pre.length = i ∧ p x = true ∧ ∀ y ∈ pre, p y = false
 | [], n, i, h => by cases h
 | x :: r, n, i, h => by
  rw [xN] at h
  split at h
  · rename_i hx
    cases h
    exact ⟨[], x, r, rfl, rfl, hx, fun y hy => by simp at hy⟩
  · rename_i hx
    obtain ⟨pre, y, post, e1, e2, e3, e4⟩ := qx p r (n + 1) i h
    refine ⟨x :: pre, y, post, by rw [e1]; rfl, by simp; omega, e3, fun z hz => ?_⟩
    rcases List.mem_cons.1 hz with rfl | hz
    · simpa using hx
    · exact e4 z hz
end Go.Proofs.YtonbkdklidfmfaaGreatDoor
/- slices.DeleteFunc at packs that own their memory. Conditions: those of each lemma. -/
namespace Go.Proofs.YtonbkdklidfmfaaGreatDoor
open E
set_option linter.unusedSimpArgs false
set_option linter.unusedVariables false
set_option maxRecDepth 100000
/-- elements that name no rows, of a pack's size -/
def noR (J : List (List V)) : Prop := J.flatMap refs.refss = [] ∧ (∀ f : Nat → Option Nat, J.map (ren.rens f) = J) ∧ ∀ e ∈ J, e.length = 6
theorem xF {A B : List (List V)} (ha : noR A) (hb : noR B) : noR (A ++ B) := ⟨by rw [List.flatMap_append, ha.1, hb.1]; rfl, fun f => by rw [List.map_append, ha.2.1, hb.2.1], fun e he => (List.mem_append.1 he).elim (ha.2.2 e) (hb.2.2 e)⟩
theorem x8 (l : List z1) : noR (ocE (z1.zh l)) := ⟨zU _, fun f => y6 f _, fun e he => by
 unfold ocE z1.zh at he
 simp only [List.map_map, List.mem_map] at he
 obtain ⟨x, _, rfl⟩ := he
 rfl⟩
theorem ec {e : List V} {J : List (List V)} (h1 : refs.refss e = []) (h2 : ∀ f, ren.rens f e = e) (h3 : e.length = 6) (hj : noR J) : noR (e :: J) := ⟨by rw [List.flatMap_cons, h1, hj.1]; rfl, fun f => by rw [List.map_cons, h2, hj.2.1], fun x hx => by
 rcases List.mem_cons.1 hx with rfl | hx
 · exact h3
 · exact hj.2.2 x hx⟩
theorem pC : noR [] := ⟨rfl, fun _ => rfl, fun e he => by simp at he⟩
theorem aw {e : List V} (h1 : refs.refss e = []) (h2 : ∀ f, ren.rens f e = e) (h3 : e.length = 6) : ∀ n, noR (List.replicate n e)
 | 0 => pC
 | n + 1 => by rw [List.replicate_succ]; exact ec h1 h2 h3 (aw h1 h2 h3 n)
theorem ea {e : List V} {J : List (List V)} (h : noR (e :: J)) : noR J := by
 obtain ⟨h1, h2, h3⟩ := h
 rw [List.flatMap_cons, List.append_eq_nil_iff] at h1
 exact ⟨h1.2, fun f => by have := h2 f; rw [List.map_cons] at this; exact (List.cons.inj this).2, fun x hx => h3 x (List.mem_cons_of_mem _ hx)⟩
theorem ZG (n : Nat) : noR (List.replicate n zPk) := aw rfl (fun _ => rfl) rfl n
def fgP (x : z1) : List V := [.t (.str x.name), .t (.str x.version), .t (.str x.source), .bad, .t (.bool x.dev), .bad]
theorem oy (x : z1) : noR [fgP x] := ec rfl (fun _ => rfl) rfl pC
theorem dC (x : z1) (r : List z1) : ocE (z1.zh (x :: r)) = [V.t (.str x.name), .t (.str x.version), .t (.str x.source), .o (.list 2 (zy.zh x.sums)), .t (.bool x.dev), .o (.list 1 (strs x.zC))] :: ocE (z1.zh r) := rfl
theorem wB (a b : List z1) : ocE (z1.zh (a ++ b)) = ocE (z1.zh a) ++ ocE (z1.zh b) := by simp [z1.zh, ocE]
theorem Z9 {α : Type} (p : α → Bool) (l : List α) (h : xN p l 0 = none) : l.filter (fun x => !p x) = l := by
 have h2 := tq p l 0
 rw [h] at h2
 refine List.filter_eq_self.2 fun x hx => ?_
 cases hc : p x with
 | false => rfl
 | true =>
  have : l.any p = true := List.any_eq_true.2 ⟨x, hx, hc⟩
  rw [this] at h2; cases h2
set_option maxHeartbeats 4000000 in
theorem bo (g : Nat) (cell : T) (p : z1 → Bool) (l : List z1) (hl : l.length ≤ 1048576) (hp : ∀ x ∈ l, zm (EV Tryz.prog pol) g (.agg (x.enc.map .t) :: [.t (.fp [cell])]) = some (.t (.bool (p x)))) (n : Nat) (hn : n = l.length) (cap : Option Nat) :
 ∀ (R K : List z1) (J : List (List V)), (∀ x ∈ R, x ∈ l) → 1 ≤ J.length → noR J → K.length + J.length + R.length = l.length → ∃ J', noR J' ∧ (K ++ R.filter fun x => !p x).length + J'.length = l.length ∧
 EV Tryz.prog pol (.loop 50 122 2 [.sl 0 0 n cap, .fn g [.ptr 1 0 0], .t (.int .i64 (K.length : Int)), .t (.int .i64 ((K.length + J.length : Nat) : Int))] [.vs 6 (ocE (z1.zh K) ++ J ++ ocE (z1.zh R)), .vs 1 [[.t cell]]])
  = some (.loop (.exit 0) [.sl 0 0 n cap, .t (.int .i64 ((K ++ R.filter fun x => !p x).length : Int))] [.vs 6 (ocE (z1.zh (K ++ R.filter fun x => !p x)) ++ J'), .vs 1 [[.t cell]]])
 | [], K, J, hR, hJ, hJr, hlen => by
  have c : decide (((K.length + J.length : Nat) : Int) < (n : Int)) = false := by simp at hlen; apply decide_eq_false; omega
  refine ⟨J, hJr, by simp at hlen; simpa using hlen, ?_⟩
  have hE := xF (x8 K) hJr
  simp only [List.filter_nil, List.append_nil, show ocE (z1.zh []) = [] from rfl]
  obtain ⟨h1, h2, _⟩ := hE
  generalize ocE (z1.zh K) ++ J = E0 at *
  refine zk Tryz.func50 rfl rfl ?_
  simp (disch := ((try simp only [LL]); omega)) only [↓GO, ↓DRW, GA, GX, ren, zo, za, refs, z8, cst, zr, isC, bin, una, z7, zd, blt, asArg, zg, zc, zf, z6, E.mkS, unN, ze, zq, zb, GS, simprocAttr, zD, zE, yT, yN, yP, yO, yU, gh1, yM, yA, yG, zR, mkO, yH, yB, y7, yS, zK, yL, yK, y9, oc, oTs, oT, zO, zO.rowTs, yF, isL, Bool.not_false, Bool.true_and, Bool.and_true, Bool.and_self, List.flatMap_append, List.map_append, List.set_cons_zero, List.set_cons_succ, GZ, c, h1, h2, zH]
 | x :: R, K, J, hR, hJ, hJr, hlen => by
  simp only [List.length_cons] at hlen
  have c : decide (((K.length + J.length : Nat) : Int) < (n : Int)) = true := by apply decide_eq_true; omega
  have c0 : decide ((0 : Int) ≤ ((K.length + J.length : Nat) : Int)) = true := by apply decide_eq_true; omega
  have c00 : (0 : Int) ≤ ((K.length + J.length : Nat) : Int) := by omega
  have c1 : decide ((0 : Int) ≤ (K.length : Int)) = true := by apply decide_eq_true; omega
  have c11 : (0 : Int) ≤ (K.length : Int) := by omega
  have c2 : decide ((K.length : Int) < (n : Int)) = true := by apply decide_eq_true; omega
  have d1 := hp x (hR x (by simp))
  have hkl : K.length + J.length ≤ 1048576 := by omega
  have hPl : (ocE (z1.zh K) ++ J).length = K.length + J.length := by rw [List.length_append, zT, z1.zj]
  have hPr := xF (x8 K) hJr
  have hBr := x8 R
  have hf1 := xl x.sums
  have hf2 := yq x.zC
  have hs1 := zy.zj x.sums
  have hs2 := zi x.zC
  rw [dC, List.filter_cons]
  cases q : p x with
  | true =>
   rw [q] at d1
   obtain ⟨J', hJ1, hJ2, IH⟩ := bo g cell p l hl hp n hn cap R K (J ++ [fgP x]) (fun y hy => hR y (by simp [hy])) (by simp) (xF hJr (oy x)) (by simp; omega)
   rw [show ocE (z1.zh K) ++ (J ++ [fgP x]) ++ ocE (z1.zh R) = (ocE (z1.zh K) ++ J) ++ fgP x :: ocE (z1.zh R) by simp, show ((K.length + (J ++ [fgP x]).length : Nat) : Int) = ((K.length + J.length : Nat) : Int) + 1 by simp; omega] at IH
   refine ⟨J', hJ1, by simpa using hJ2, ?_⟩
   simp only [Bool.not_true, Bool.false_eq_true, if_false]
   obtain ⟨hP1, hP2, _⟩ := hPr
   obtain ⟨hB1, hB2, _⟩ := hBr
   have hg := fun y => xH (ocE (z1.zh K) ++ J) (ocE (z1.zh R)) y (K.length + J.length) hPl
   have hs := fun y z => xt (ocE (z1.zh K) ++ J) (ocE (z1.zh R)) y z (K.length + J.length) hPl
   obtain ⟨name, version, source, sums, dev, zC⟩ := x
   simp only [fgP, z1.enc, List.map_cons, List.map_nil] at d1 IH hf1 hf2 hs1 hs2 ⊢
   clear hJ hlen hJr hJ1 hJ2 hp hR
   generalize ocE (z1.zh (K ++ R.filter fun x => !p x)) ++ J' = Z at *
   generalize (K ++ R.filter fun x => !p x).length = zl at *
   generalize ocE (z1.zh K) ++ J = P at *
   generalize ocE (z1.zh R) = B at *
   generalize zy.zh sums = es1 at *
   generalize strs zC = es2 at *
   have hk1 := List.take_of_length_le (Nat.le_of_eq hs1)
   have hk2 := List.take_of_length_le (Nat.le_of_eq hs2)
   generalize sums.length = n1 at *
   generalize zC.length = n2 at *
   generalize K.length = kl at *
   generalize hkj : kl + J.length = kj at *
   refine zk Tryz.func50 rfl rfl ?_
   simp (disch := ((try simp only [LL]); omega)) only [↓GO, ↓DRW, GA, GX, ren, zo, za, refs, z8, cst, zr, isC, bin, una, z7, zd, blt, asArg, zg, zc, zf, z6, E.mkS, unN, ze, zq, zb, GS, simprocAttr, zD, zE, yT, yN, yP, yO, yU, gh1, yM, yA, yG, zR, mkO, yH, yB, y7, yS, zK, yL, yK, y9, oc, oTs, oT, zO, zO.rowTs, yF, isL, Bool.not_false, Bool.true_and, Bool.and_true, Bool.and_self, List.flatMap_append, List.map_append, List.set_cons_zero, List.set_cons_succ, GZ, c, c0, c00, if_true, Int.toNat_natCast, hg, hs, hf1, hf2, hs1, hs2, hk1, hk2, d1, hP1, hP2, hB1, hB2, zn, Bool.not_true, zH, IH]
  | false =>
   rw [q] at d1
   obtain ⟨j0, Jt, rfl⟩ : ∃ j0 Jt, J = j0 :: Jt := by cases J with | nil => simp at hJ | cons a t => exact ⟨a, t, rfl⟩
   have hJt := ea hJr
   obtain ⟨J', hJ1, hJ2, IH⟩ := bo g cell p l hl hp n hn cap R (K ++ [x]) (Jt ++ [fgP x]) (fun y hy => hR y (by simp [hy])) (by simp) (xF hJt (oy x)) (by simp at hlen ⊢; omega)
   rw [show ocE (z1.zh (K ++ [x])) ++ (Jt ++ [fgP x]) ++ ocE (z1.zh R) = (ocE (z1.zh K) ++ [V.t (.str x.name), .t (.str x.version), .t (.str x.source), .o (.list 2 (zy.zh x.sums)), .t (.bool x.dev), .o (.list 1 (strs x.zC))] :: Jt) ++ fgP x :: ocE (z1.zh R) by rw [wB, show ocE (z1.zh [x]) = [[V.t (.str x.name), .t (.str x.version), .t (.str x.source), .o (.list 2 (zy.zh x.sums)), .t (.bool x.dev), .o (.list 1 (strs x.zC))]] from rfl]; simp,
    show ((K ++ [x]).length : Int) = (K.length : Int) + 1 by simp, show (((K ++ [x]).length + (Jt ++ [fgP x]).length : Nat) : Int) = ((K.length + (j0 :: Jt).length : Nat) : Int) + 1 by simp; omega] at IH
   refine ⟨J', hJ1, by simpa using hJ2, ?_⟩
   simp only [Bool.not_false, if_true]
   rw [show K ++ x :: R.filter (fun x => !p x) = (K ++ [x]) ++ R.filter fun x => !p x by simp]
   have hj1 : refs.refss j0 = [] := by have := hJr.1; rw [List.flatMap_cons, List.append_eq_nil_iff] at this; exact this.1
   have hj2 : ∀ f, ren.rens f j0 = j0 := fun f => by have := hJr.2.1 f; rw [List.map_cons] at this; exact (List.cons.inj this).1
   obtain ⟨hB1, hB2, _⟩ := hBr
   have hKl : (ocE (z1.zh K)).length = K.length := by rw [zT, z1.zj]
   have hA := x8 K
   have hQl : ∀ z, (ocE (z1.zh K) ++ z :: Jt).length = K.length + (j0 :: Jt).length := fun z => by simp [zT, z1.zj]
   have hg3 := fun z y => xH (ocE (z1.zh K) ++ z :: Jt) (ocE (z1.zh R)) y (K.length + (j0 :: Jt).length) (hQl z)
   have hs4 := fun z y y' => xt (ocE (z1.zh K) ++ z :: Jt) (ocE (z1.zh R)) y y' (K.length + (j0 :: Jt).length) (hQl z)
   have hs2' : ∀ y z, (ocE (z1.zh K) ++ j0 :: Jt ++ y :: ocE (z1.zh R)).set K.length z = (ocE (z1.zh K) ++ z :: Jt) ++ y :: ocE (z1.zh R) := fun y z => by
    rw [List.append_assoc, List.cons_append, xt _ _ _ _ _ hKl, List.append_assoc, List.cons_append]
   have hg2' : ∀ y z, ((ocE (z1.zh K) ++ z :: Jt) ++ y :: ocE (z1.zh R))[K.length]? = some z := fun y z => by rw [List.append_assoc, List.cons_append]; exact xH _ _ _ _ hKl
   have hs3' : ∀ y z z', ((ocE (z1.zh K) ++ z :: Jt) ++ y :: ocE (z1.zh R)).set K.length z' = (ocE (z1.zh K) ++ z' :: Jt) ++ y :: ocE (z1.zh R) := fun y z z' => by
    rw [List.append_assoc, List.cons_append, xt _ _ _ _ _ hKl, List.append_assoc, List.cons_append]
   obtain ⟨Q, hQ⟩ : ∃ Q : List V → List (List V), ∀ z, Q z = ocE (z1.zh K) ++ z :: Jt := ⟨_, fun _ => rfl⟩
   have hQ1 : ∀ z, (Q z).flatMap refs.refss = refs.refss z := fun z => by rw [hQ, List.flatMap_append, List.flatMap_cons, hA.1, hJt.1]; simp
   have hQ2 : ∀ z f, (Q z).map (ren.rens f) = Q (ren.rens f z) := fun z f => by rw [hQ, hQ, List.map_append, List.map_cons, hA.2.1, hJt.2.1]
   have hj0l : j0.length = 6 := hJr.2.2 j0 (by simp)
   have hj6 : 6 ≤ j0.length := by omega
   have hd6 : j0.drop 6 = [] := List.drop_of_length_le (by omega)
   clear hj0l
   simp only [← hQ] at hg3 hs4 hs2' hg2' hs3' IH ⊢
   clear hQ hQl hJt hA hKl hPr hPl
   obtain ⟨name, version, source, sums, dev, zC⟩ := x
   simp only [fgP, z1.enc, List.map_cons, List.map_nil] at d1 IH hf1 hf2 hs1 hs2 ⊢
   clear hJ hlen hJr hJ1 hJ2 hp hR
   generalize ocE (z1.zh ((K ++ [z1.mk name version source sums dev zC]) ++ R.filter fun x => !p x)) ++ J' = Z at *
   generalize ((K ++ [z1.mk name version source sums dev zC]) ++ R.filter fun x => !p x).length = zl at *
   generalize ocE (z1.zh R) = B at *
   generalize zy.zh sums = es1 at *
   generalize strs zC = es2 at *
   have hk1 := List.take_of_length_le (Nat.le_of_eq hs1)
   have hk2 := List.take_of_length_le (Nat.le_of_eq hs2)
   generalize sums.length = n1 at *
   generalize zC.length = n2 at *
   generalize K.length = kl at *
   generalize hkj : kl + (j0 :: Jt).length = kj at *
   have hkk : ¬ (kl = kj) := by rw [← hkj]; simp
   refine zk Tryz.func50 rfl rfl ?_
   simp (maxSteps := 1000000) (disch := ((try simp only [LL]); omega)) only [↓GO, ↓DRW, GA, GX, ren, zo, za, refs, z8, cst, zr, isC, bin, una, z7, zd, blt, asArg, zg, zc, zf, z6, E.mkS, unN, ze, zq, zb, GS, simprocAttr, zD, zE, yT, yN, yP, yO, yU, gh1, yM, yA, yG, zR, mkO, yH, yB, y7, yS, zK, yL, yK, y9, oc, oTs, oT, zO, zO.rowTs, yF, isL, Bool.not_false, Bool.true_and, Bool.and_true, Bool.and_self, List.flatMap_append, List.map_append, List.set_cons_zero, List.set_cons_succ, GZ, c, c0, c00, c1, c11, c2, if_true, Int.toNat_natCast, hg2', hs3', hg3, hs4, hQ1, hQ2, hj1, hj2, hj6, hd6, hf1, hf2, hs1, hs2, hk1, hk2, d1, hB1, hB2, zn, Bool.not_false, zH, IH]
theorem Q2 (g : Nat) (cell : T) (p : z1 → Bool) (l : List z1) (hl : l.length ≤ 1048576) (hp : ∀ x ∈ l, zm (EV Tryz.prog pol) g (.agg (x.enc.map .t) :: [.t (.fp [cell])]) = some (.t (.bool (p x)))) (n : Nat) (hn : n = l.length) (cap : Option Nat) :
 ∃ J', noR J' ∧ (l.filter fun x => !p x).length + J'.length = l.length ∧
 EV Tryz.prog pol (.callO false 50 [.sl 0 0 n cap, .fn g [.ptr 1 0 0]] [.vs 6 (ocE (z1.zh l)), .vs 1 [[.t cell]]])
  = some (.call (.sl 0 0 (l.filter fun x => !p x).length cap) [.vs 6 (ocE (z1.zh (l.filter fun x => !p x)) ++ J'), .vs 1 [[.t cell]]]) := by
 have d1 := vz g [.fp [cell]] p l (by omega) hp
 have ht : (ocE (z1.zh l)).take n = ocE (z1.zh l) := List.take_of_length_le (by rw [zT, z1.zj]; omega)
 have f2 := ve l
 cases hf : xN p l 0 with
 | none =>
  rw [hf] at d1
  have hw := Z9 p l hf
  refine ⟨[], pC, by rw [hw]; simp, ?_⟩
  rw [hw, List.append_nil, ← hn]
  simp only [ixI] at d1
  refine zP Tryz.func50 rfl (by kernel_rfl) ?_
  unfold Tryz.f50
  simp (disch := ((try simp only [LL]); omega)) only [↓GO, ↓DRW, GA, GX, ren, zo, za, refs, z8, cst, zr, isC, bin, una, z7, zd, blt, asArg, zg, zc, zf, z6, E.mkS, unN, ze, zq, zb, GS, simprocAttr, zD, zE, yT, yN, yP, yO, yU, gh1, yM, yA, yG, zR, mkO, yH, yB, y7, yS, zK, yL, yK, y9, oc, oTs, oT, zO, zO.rowTs, yF, isL, Bool.not_false, Bool.true_and, Bool.and_true, Bool.and_self, List.flatMap_append, List.map_append, List.set_cons_zero, List.set_cons_succ, GZ, d1, wx, ht, f2, uf, y6, zU, List.drop_zero, beq_self_eq_true, zH]
 | some i =>
  rw [hf] at d1
  obtain ⟨pre, x, post, e1, e2, e3, e4⟩ := qx _ l 0 i hf
  simp only [Nat.zero_add] at e2
  have hw : (l.filter fun x => !p x) = pre ++ post.filter fun x => !p x := by
   rw [e1, List.filter_append, List.filter_cons, e3]
   simp only [Bool.not_true, Bool.false_eq_true, if_false]
   congr 1
   exact List.filter_eq_self.2 fun y hy => by rw [e4 y hy]; rfl
  have hlen : pre.length + 1 + post.length = l.length := by have h9 := congrArg List.length e1; simp at h9; omega
  have hmap : Option.map (fun x : Nat => x) cap = cap := by cases cap <;> rfl
  obtain ⟨J', hJr, hJ', L⟩ := bo g cell p l hl hp n hn cap post pre (ocE (z1.zh [x])) (fun y hy => by rw [e1]; simp [hy]) (by rw [zT, z1.zj]; exact Nat.le_refl _) (x8 _) (by rw [zT, z1.zj]; simpa using hlen)
  rw [← wB, ← wB, show pre ++ [x] ++ post = l by rw [e1]; simp, show ((pre.length + (ocE (z1.zh [x])).length : Nat) : Int) = (pre.length : Int) + 1 by rw [zT, z1.zj]; rfl, e2] at L
  have c0 : ((i : Int) == -1) = false := by rw [beq_eq_false_iff_ne]; omega
  rw [← hw] at L hJ'
  have hwl : (l.filter fun x => !p x).length ≤ n := by omega
  generalize hZ : (l.filter fun x => !p x) = Z at *
  have hZl : (ocE (z1.zh Z)).length = Z.length := by rw [zT, z1.zj]
  have htk : (ocE (z1.zh Z) ++ J').take Z.length = ocE (z1.zh Z) := by rw [← hZl]; simp
  have hdk : (ocE (z1.zh Z) ++ J').drop (Z.length + (n - Z.length)) = [] := List.drop_of_length_le (by rw [List.length_append, hZl]; omega)
  have hEl : (ocE (z1.zh Z) ++ J').length = n := by rw [List.length_append, hZl, hn]; exact hJ'
  have hE := xF (x8 Z) hJr
  obtain ⟨h1, h2, _⟩ := hE
  refine ⟨List.replicate (n - Z.length) zPk, ZG _, by rw [List.length_replicate]; omega, ?_⟩
  obtain ⟨h3, h4, _⟩ := xF (x8 Z) (ZG (n - Z.length))
  have hil : i ≤ 1048576 := by omega
  have hnl : n ≤ 1048576 := by omega
  simp only [ixI] at d1
  clear hw hJ' e1 hf e4 e3 hlen hp hl
  have c1 : Z.length + (n - Z.length) ≤ n := by omega
  simp only [zPk] at h3 h4 ⊢
  generalize ocE (z1.zh Z) ++ J' = E1 at *
  generalize ocE (z1.zh Z) = E2 at *
  refine zP Tryz.func50 rfl (by kernel_rfl) ?_
  unfold Tryz.f50
  simp (disch := ((try simp only [LL]); omega)) only [↓GO, ↓DRW, GA, GX, ren, zo, za, refs, z8, cst, zr, isC, bin, una, z7, zd, blt, asArg, zg, zc, zf, z6, E.mkS, unN, ze, zq, zb, GS, simprocAttr, zD, zE, yT, yN, yP, yO, yU, gh1, yM, yA, yG, zR, mkO, yH, yB, y7, yS, zK, yL, yK, y9, oc, oTs, oT, zO, zO.rowTs, yF, isL, Bool.not_false, Bool.true_and, Bool.and_true, Bool.and_self, List.flatMap_append, List.map_append, List.set_cons_zero, List.set_cons_succ, GZ, d1, wx, ht, f2, uf, y6, zU, List.drop_zero, c0, L, hEl, htk, hdk, h1, h2, h3, h4, zn, List.append_nil, zH, Nat.zero_add, Nat.sub_zero, c1, and_self, if_true, List.append_assoc, hmap]
end Go.Proofs.YtonbkdklidfmfaaGreatDoor
/- What is reached is closed; graphs pruned, plain: both ways come to the same. Conditions: none. -/
namespace Go.Proofs.YtonbkdklidfmfaaGreatDoor
open E
set_option linter.unusedVariables false
set_option linter.unusedSimpArgs false
set_option maxRecDepth 100000
theorem wD (l : List Str) (s : Str) : yj l s = true ↔ s ∈ l := by simp [yj]
theorem od (ps : List z1) (k : Str) : gj ps k = (wm ps k).isSome := by
 unfold wm
 have h := tq (fun p => keyOf p == k) ps 0
 unfold gj
 rw [← h]
 show (rN ps k).isSome = _
 cases hk : rN ps k with
 | none => rfl
 | some i =>
  obtain ⟨q, h1, _⟩ := oe hk
  simp only [Option.isSome_some, h1]
/-- what is laid down stays, what waits and is there comes, all that these need comes -/
theorem ub (ps : List z1) : ∀ (n : Nat) (out w : List Str), w.length + muS ps out ≤ n →
 (∀ k ∈ out, k ∈ yr xO ps n out w) ∧ (∀ k ∈ w, (wm ps k).isSome = true → k ∈ yr xO ps n out w) ∧
 ((∀ k p m, k ∈ out → wm ps k = some p → m ∈ p.zC → (wm ps m).isSome = true → m ∈ out ∨ m ∈ w) →
  ∀ k p m, k ∈ yr xO ps n out w → wm ps k = some p → m ∈ p.zC → (wm ps m).isSome = true → m ∈ yr xO ps n out w)
 | 0, out, w, hn => by
  have hw : w = [] := List.eq_nil_of_length_eq_zero (by omega)
  subst hw
  rw [yr]
  exact ⟨fun k h => h, fun k h => by simp at h, fun hc k p m h1 h2 h3 h4 => (hc k p m h1 h2 h3 h4).elim id fun h => by simp at h⟩
 | n + 1, out, [], hn => by
  rw [yr]
  exact ⟨fun k h => h, fun k h => by simp at h, fun hc k p m h1 h2 h3 h4 => (hc k p m h1 h2 h3 h4).elim id fun h => by simp at h⟩
 | n + 1, out, k0 :: w, hn => by
  simp only [List.length_cons] at hn
  rw [yr]
  cases hf : wm ps k0 with
  | none =>
   obtain ⟨i1, i2, i3⟩ := ub ps n out w (by omega)
   refine ⟨i1, fun k hk hs => ?_, fun hc => i3 fun k p m h1 h2 h3 h4 => ?_⟩
   · rcases List.mem_cons.1 hk with rfl | hk
     · rw [hf] at hs; cases hs
     · exact i2 k hk hs
   · rcases hc k p m h1 h2 h3 h4 with h | h
     · exact .inl h
     · rcases List.mem_cons.1 h with rfl | h
       · rw [hf] at h4; cases h4
       · exact .inr h
  | some p0 =>
   simp only
   cases hc0 : yj out k0 with
   | true =>
    have hin := (wD out k0).1 hc0
    obtain ⟨i1, i2, i3⟩ := ub ps n out w (by omega)
    rw [cond_true]
    refine ⟨i1, fun k hk hs => ?_, fun hc => i3 fun k p m h1 h2 h3 h4 => ?_⟩
    · rcases List.mem_cons.1 hk with rfl | hk
      · exact i1 _ hin
      · exact i2 k hk hs
    · rcases hc k p m h1 h2 h3 h4 with h | h
      · exact .inl h
      · rcases List.mem_cons.1 h with rfl | h
        · exact .inl hin
        · exact .inr h
   | false =>
    obtain ⟨hp, hkp, _⟩ := sO hf
    have hmu := pn k0 out (xO out k0) (py out k0) hc0 ps p0 hp hkp
    obtain ⟨i1, i2, i3⟩ := ub ps n (xO out k0) (w ++ p0.zC) (by rw [List.length_append]; omega)
    rw [cond_false]
    refine ⟨fun k hk => i1 k ((tw out k0 k).2 (.inl hk)), fun k hk hs => ?_, fun hc => i3 fun k p m h1 h2 h3 h4 => ?_⟩
    · rcases List.mem_cons.1 hk with rfl | hk
      · exact i1 _ ((tw out _ _).2 (.inr rfl))
      · exact i2 k (List.mem_append.2 (.inl hk)) hs
    · rcases (tw out k0 k).1 h1 with h1 | rfl
      · rcases hc k p m h1 h2 h3 h4 with h | h
        · exact .inl ((tw out k0 m).2 (.inl h))
        · rcases List.mem_cons.1 h with rfl | h
          · exact .inl ((tw out _ _).2 (.inr rfl))
          · exact .inr (List.mem_append.2 (.inl h))
      · rw [hf] at h2
        cases h2
        exact .inr (List.mem_append.2 (.inr h3))
theorem mb (ps : List z1) (w : List Str) : ∀ k ∈ w, (wm ps k).isSome = true → k ∈ yb ps w := (ub ps (w.length + muS ps []) [] w (Nat.le_refl _)).2.1
theorem rW (ps : List z1) (w : List Str) : ∀ k p m, k ∈ yb ps w → wm ps k = some p → m ∈ p.zC → (wm ps m).isSome = true → m ∈ yb ps w :=
 (ub ps (w.length + muS ps []) [] w (Nat.le_refl _)).2.2 fun k p m h => by simp at h
theorem qC (a s : Str) : vx (some a) s = Op.bytesLess a s := rfl
theorem oI (ps : List z1) : ∀ (o : Option Str) (l : List z1), xZ ps o l = true → (l.Pairwise fun x y => Op.bytesLess (keyOf x) (keyOf y) = true) ∧ ∀ p ∈ l, vx o (keyOf p) = true
 | o, [], _ => ⟨List.Pairwise.nil, fun p hp => by simp at hp⟩
 | o, p :: r, h => by
  rw [xZ] at h
  simp only [Bool.and_eq_true] at h
  obtain ⟨⟨_, h1, _⟩, h2⟩ := h
  obtain ⟨k1, k2⟩ := oI ps (some (keyOf p)) r h2
  refine ⟨List.pairwise_cons.2 ⟨fun q hq => by have := k2 q hq; rwa [qC] at this, k1⟩, fun q hq => ?_⟩
  rcases List.mem_cons.1 hq with rfl | hq
  · exact h1
  · have h3 := k2 q hq
    rw [qC] at h3
    cases o with
    | none => rfl
    | some a => rw [qC] at h1 ⊢; exact wh h1 h3
def T6 (l : List z1) : Prop := l.Pairwise fun x y => Op.bytesLess (keyOf x) (keyOf y) = true
theorem T6.key : ∀ {l : List z1}, T6 l → ∀ p ∈ l, ∀ q ∈ l, keyOf p = keyOf q → p = q
 | [], _, p, hp, q, hq, e => by simp at hp
 | x :: r, h, p, hp, q, hq, e => by
  obtain ⟨h1, h2⟩ := List.pairwise_cons.1 h
  rcases List.mem_cons.1 hp with rfl | hp <;> rcases List.mem_cons.1 hq with rfl | hq
  · rfl
  · have := h1 q hq; rw [e, wV] at this; cases this
  · have := h1 p (by assumption); rw [e, wV] at this; cases this
  · exact T6.key h2 p hp q hq e
theorem uC {g : zx} (h : ym g = true) : T6 g.packs := by
 unfold ym at h
 simp only [Bool.and_eq_true] at h
 exact (oI g.packs none g.packs h.1).1
theorem qt {ps : List z1} (h : T6 ps) {p : z1} (hp : p ∈ ps) : wm ps (keyOf p) = some p := by
 have hs : (wm ps (keyOf p)).isSome = true := by
  rw [← od]
  unfold gj
  rw [List.any_eq_true]
  exact ⟨p, hp, by simp⟩
 obtain ⟨q, hq⟩ := Option.isSome_iff_exists.1 hs
 obtain ⟨h1, h2, _⟩ := sO hq
 rw [hq, h.key q h1 p hp h2]
def rJ (keys : List Str) (p : z1) : z1 := ⟨p.name, p.version, p.source, p.sums, p.dev, p.zC.filter (yj keys)⟩
def xg (keys : List Str) (ps : List z1) : List z1 := (ps.filter fun p => yj keys (keyOf p)).map (rJ keys)
def uy (g : zx) (keys : List Str) : zx := ⟨g.top.filter (yj keys), xg keys g.packs⟩
def xe (keys : List Str) (ps : List z1) : List z1 := ps.filter fun p => yj keys (keyOf p)
def uo (g : zx) : zx := cond (ym g) ⟨g.top, xe (yb g.packs g.top) g.packs⟩ g
theorem filter_all {α : Type} (f : α → Bool) : ∀ l : List α, (∀ x ∈ l, f x = true) → l.filter f = l := fun l h => List.filter_eq_self.2 h
theorem dV {g : zx} (h : ym g = true) : uy g (yb g.packs g.top) = uo g := by
 have hasc := uC h
 have hpk := uF h
 have htop : ∀ k ∈ g.top, gj g.packs k = true := by
  have h' := h
  unfold ym at h'
  simp only [Bool.and_eq_true] at h'
  exact (tO g.packs none g.top h'.2.2).2.1
 unfold uo uy
 rw [h, cond_true]
 congr 1
 · refine filter_all _ _ fun k hk => ?_
   rw [wD]
   exact mb _ _ k hk (by rw [← od]; exact htop k hk)
 · unfold xg xe
   conv => rhs; rw [← List.map_id (g.packs.filter _)]
   refine List.map_congr_left fun p hp => ?_
   obtain ⟨hp1, hp2⟩ := List.mem_filter.1 hp
   have e : p.zC.filter (yj (yb g.packs g.top)) = p.zC := filter_all _ _ fun k hk => by
    rw [wD] at hp2 ⊢
    refine rW _ _ (keyOf p) p k hp2 (qt hasc hp1) hk ?_
    rw [← od]
    exact (tO g.packs none p.zC (hpk p hp1).2).2.1 k hk
   unfold rJ
   rw [e]
   rfl
end Go.Proofs.YtonbkdklidfmfaaGreatDoor
/- What one reaches, by both. Conditions: those of each lemma. -/
namespace Go.Proofs.YtonbkdklidfmfaaGreatDoor
open E
set_option linter.unusedSimpArgs false
set_option linter.unusedVariables false
set_option maxRecDepth 100000
def snS (l : List Str) (s : Str) : List Str := l ++ [s]
theorem qi (add : List Str → Str → List Str) (ps : List z1) (n : Nat) (out : List Str) : yr add ps n out [] = out := by cases n <;> rfl
theorem V9 {l : List Str} {s : Str} (h : yj l s = false) : (xO l s).length = l.length + 1 := by
 rw [(ou l s h).length_eq]; simp
theorem GB.zC {g : zx} (hB : GB g) {p : z1} (hp : p ∈ g.packs) : p.zC.length ≤ 1048576 := by
 obtain ⟨_, _, h3⟩ := hB.len
 have := h3 p hp
 simp only [z1.zY] at this; omega
theorem uU (ps : List z1) : ∀ (n : Nat) (out w : List Str), (yr snS ps n out w).length ≤ out.length + uL ps out
 | 0, out, w => by rw [yr]; omega
 | n + 1, out, [] => by rw [qi]; omega
 | n + 1, out, k :: w => by
  rw [yr]
  cases hf : wm ps k with
  | none => exact uU ps n out w
  | some p =>
   obtain ⟨hp, hkp, _⟩ := sO hf
   simp only
   cases hc : yj out k with
   | true => exact uU ps n out w
   | false =>
    have h1 := tN k out (out ++ [k]) (om out k) hc ps p hp hkp
    have h2 := uU ps n (snS out k) (w ++ p.zC)
    rw [cond_false]
    unfold snS at h2 ⊢
    simp only [List.length_append, List.length_cons, List.length_nil] at h2
    omega
theorem ZJ (g : zx) (hB : GB g) : ∀ (n : Nat) (out w : List Str) (es : List (List T)) (m off len : Nat) (cap cap2 : Option Nat), w.length + muS g.packs out ≤ n → n ≤ 4194304 → m = out.length → m + uL g.packs out ≤ 1048576 → len = w.length → es.drop off = strs w → off + len = es.length → ∃ cap',
 EV Tryz.prog pol (.loop 23 60 0 [.ptr 0 0 0, .sl 1 0 m cap, .sl 2 off len cap2] [.vs 2 [g.enc.map .t], .ts 1 (strs out), .ts 1 es])
  = some (.loop (.exit 0) [.sl 0 0 (yr snS g.packs n out w).length cap'] [.ts 1 (strs (yr snS g.packs n out w))])
 | n, out, [], es, m, off, len, cap, cap2, hn, hN, hm, hk, hl, hd, ho => by
  have c : decide ((len : Int) > 0) = false := by rw [hl]; rfl
  refine ⟨cap, ?_⟩
  rw [qi]
  clear hB
  obtain ⟨top, packs⟩ := g
  simp only [zx.enc, List.map_cons, List.map_nil]
  rw [← hm]
  refine zk Tryz.func23 rfl rfl ?_
  simp (disch := ((try simp only [LL]); omega)) only [↓GO, ↓DRW, GA, GX, ren, zo, za, refs, z8, cst, zr, isC, bin, una, z7, zd, blt, asArg, zg, zc, zf, z6, E.mkS, unN, ze, zq, zb, GS, simprocAttr, GZ, c, zH]
 | 0, out, k :: w, es, m, off, len, cap, cap2, hn, hN, hm, hk, hl, hd, ho => by simp at hn
 | n + 1, out, k :: w, es, m, off, len, cap, cap2, hn, hN, hm, hk, hl, hd, ho => by
  have c : decide ((len : Int) > 0) = true := by rw [hl]; simp
  have hoff : es[off]? = some [.str k] := by
   have : (es.drop off)[0]? = some [.str k] := by rw [hd]; rfl
   simpa using this
  have hd1 : es.drop (off + 1) = strs w := by
   rw [← List.drop_drop, hd]; rfl
  have hl1 : len - 1 = w.length := by rw [hl]; rfl
  have hl2 : 1 ≤ len := by rw [hl]; simp
  have hl3 : (1 : Int) ≤ (len : Int) := by omega
  have hsl : (strs out).length = m := by rw [zi, hm]
  have htk : (strs out).take m = strs out := List.take_of_length_le (by omega)
  have hml : m ≤ 1048576 := by omega
  have hll : len ≤ 4194304 := by simp only [List.length_cons] at hl hn; omega
  have d1 := Zs g k hB
  have d2 := Rc out (by omega) k
  simp only [List.length_cons] at hn
  rw [yr]
  cases hf : wm g.packs k with
  | none =>
   rw [eS hf] at d1
   have c2 : decide ((-1 : Int) ≥ 0) = false := rfl
   simp only [ixI] at d1
   obtain ⟨cap', IH⟩ := ZJ g hB n out w es m (off + 1) (len - 1) cap (cap2.map (· - 1)) (by omega) (by omega) hm hk hl1 hd1 (by omega)
   refine ⟨cap', ?_⟩
   simp only
   clear hB hf
   obtain ⟨top, packs⟩ := g
   simp only [zx.enc, List.map_cons, List.map_nil] at d1 IH ⊢
   generalize yr snS packs n out w = Z at *
   refine zk Tryz.func23 rfl rfl ?_
   simp (disch := ((try simp only [LL]); omega)) only [↓GO, ↓DRW, GA, GX, ren, zo, za, refs, z8, cst, zr, isC, bin, una, z7, zd, blt, asArg, zg, zc, zf, z6, E.mkS, unN, ze, zq, zb, GS, simprocAttr, GZ, c, c2, hoff, d1, zH, IH]
  | some p =>
   obtain ⟨hp, hkp, i, hi, hpi⟩ := sO hf
   rw [hi] at d1
   have c2 : decide ((i : Int) ≥ 0) = true := by simp
   have hnl := hB.zC hp
   have hget : (z1.zh g.packs)[i]? = some p.enc := by unfold z1.zh; rw [List.getElem?_map, hpi]; rfl
   simp only
   cases hc : yj out k with
   | true =>
    rw [hc] at d2
    obtain ⟨cap', IH⟩ := ZJ g hB n out w es m (off + 1) (len - 1) cap (cap2.map (· - 1)) (by omega) (by omega) hm hk hl1 hd1 (by omega)
    refine ⟨cap', ?_⟩
    rw [cond_true]
    clear hB hf
    obtain ⟨top, packs⟩ := g
    simp only [zx.enc, List.map_cons, List.map_nil, ixI] at d1 IH ⊢
    generalize yr snS packs n out w = Z at *
    refine zk Tryz.func23 rfl rfl ?_
    simp (disch := ((try simp only [LL]); omega)) only [↓GO, ↓DRW, GA, GX, ren, zo, za, refs, z8, cst, zr, isC, bin, una, z7, zd, blt, asArg, zg, zc, zf, z6, E.mkS, unN, ze, zq, zb, GS, simprocAttr, GZ, c, c2, hoff, d1, d2, htk, zH, IH]
   | false =>
    rw [hc] at d2
    have h1 := pn k out (out ++ [k]) (om out k) hc g.packs p hp hkp
    have h2 := tN k out (out ++ [k]) (om out k) hc g.packs p hp hkp
    obtain ⟨cap', IH⟩ := ZJ g hB n (out ++ [k]) (w ++ p.zC) (strs w ++ strs p.zC) (m + 1) 0 (w.length + p.zC.length) none none (by rw [List.length_append]; omega) (by omega) (by simp [hm]) (by omega) (by simp) (by simp [strs]) (by rw [List.length_append, zi, zi]; omega)
    have ho1 : off + 1 + w.length = es.length := by omega
    refine ⟨cap', ?_⟩
    rw [cond_false, show snS out k = out ++ [k] from rfl]
    rw [show strs (out ++ [k]) = strs out ++ [[.str k]] by simp [strs]] at IH
    clear hB hf h1 h2 hp hi hpi
    obtain ⟨top, packs⟩ := g
    obtain ⟨name, version, source, sums, dev, zC⟩ := p
    simp only [zx.enc, z1.enc, List.map_cons, List.map_nil, ixI] at d1 hget IH hnl ⊢
    generalize yr snS packs n (out ++ [k]) (w ++ zC) = Z at *
    refine zk Tryz.func23 rfl rfl ?_
    simp (disch := ((try simp only [LL]); omega)) only [↓GO, ↓DRW, GA, GX, ren, zo, za, refs, z8, cst, zr, isC, bin, una, z7, zd, blt, asArg, zg, zc, zf, z6, E.mkS, unN, ze, zq, zb, GS, simprocAttr, GZ, c, c2, hoff, d1, d2, htk, hget, hsl, hd1, hl1, ho1, zi, zH, IH, xb]
theorem R6 (g : zx) (hB : GB g) (w : List Str) (hw : w.length ≤ 1048576) (hg : ym g = true) : zm (EV Tryz.prog pol) 23 [.agg (g.enc.map .t), .t (.list 1 (strs w))] = some (.t (.list 1 (strs (yb g.packs w)))) := by
 have d1 := sW g hB
 rw [hg] at d1
 have d2 := tu (strs w) (by rw [zi]; omega)
 rw [zi] at d2
 have h1 := l8 g.packs
 have h2 := hB
 unfold GB zx.zY at h2
 have h3 : uL g.packs [] ≤ g.packs.length := List.countP_le_length
 have h4 := hB.len
 obtain ⟨cap, L⟩ := ZJ g hB (w.length + muS g.packs []) [] w (strs w) 0 0 w.length (some 0) none (Nat.le_refl _) (by omega) rfl (by omega) rfl rfl (by rw [zi]; omega)
 have e : wK (yr snS g.packs (w.length + muS g.packs []) [] w) = yb g.packs w := ma g.packs _ w
 have hlen : (yr snS g.packs (w.length + muS g.packs []) [] w).length ≤ 1073741824 := by
  have := uU g.packs (w.length + muS g.packs []) [] w
  simp only [List.length_nil] at this
  omega
 have d3 := RN _ hlen _ rfl cap
 rw [e] at d3
 have e2 : (yr snS g.packs (w.length + muS g.packs []) [] w).length = (yb g.packs w).length := by rw [← e, pX]
 rw [e2] at L d3
 have ht : (strs (yb g.packs w)).take (yb g.packs w).length = strs (yb g.packs w) := by rw [← zi (yb g.packs w)]; simp
 rw [show strs [] = [] from rfl] at L
 clear hB h1 h2 h3 h4 e e2 hlen
 obtain ⟨top, packs⟩ := g
 simp only [zx.enc, List.map_cons, List.map_nil] at d1 d3 ht L ⊢
 generalize yb packs w = Z at *
 generalize yr snS packs (w.length + muS packs []) [] w = Y at *
 apply zu
 refine zw rfl Tryz.func23 rfl (by kernel_rfl) ?_
 unfold Tryz.f23
 simp (disch := ((try simp only [LL]); omega)) only [↓GO, ↓DRW, GA, GX, ren, zo, za, refs, z8, cst, zr, isC, bin, una, z7, zd, blt, asArg, zg, zc, zf, z6, E.mkS, unN, ze, zq, zb, GS, simprocAttr, GZ, d1, d2, d3, L, ht, zH]
theorem ZI (g : zx) (hB : GB g) (hg : ym g = true) : ∀ (n : Nat) (out w : List Str) (es : List (List T)) (m off len : Nat) (cap cap2 : Option Nat), w.length + muS g.packs out ≤ n → n ≤ 4194304 → m = out.length → m + uL g.packs out ≤ 1048576 → len = w.length → es.drop off = strs w → off + len = es.length → ∃ cap',
 EV Tryz.prog pol (.loop 27 60 0 [.ptr 0 0 0, .sl 1 0 m cap, .sl 2 off len cap2] [.vs 2 [g.enc.map .t], .ts 1 (strs out), .ts 1 es])
  = some (.loop (.exit 0) [.sl 0 0 (yr xO g.packs n out w).length cap'] [.ts 1 (strs (yr xO g.packs n out w))])
 | n, out, [], es, m, off, len, cap, cap2, hn, hN, hm, hk, hl, hd, ho => by
  have c : decide ((len : Int) > 0) = false := by rw [hl]; rfl
  refine ⟨cap, ?_⟩
  rw [qi]
  clear hB hg
  obtain ⟨top, packs⟩ := g
  simp only [zx.enc, List.map_cons, List.map_nil]
  rw [← hm]
  refine zk Tryz.func27 rfl rfl ?_
  simp (disch := ((try simp only [LL]); omega)) only [↓GO, ↓DRW, GA, GX, ren, zo, za, refs, z8, cst, zr, isC, bin, una, z7, zd, blt, asArg, zg, zc, zf, z6, E.mkS, unN, ze, zq, zb, GS, simprocAttr, GZ, c, zH]
 | 0, out, k :: w, es, m, off, len, cap, cap2, hn, hN, hm, hk, hl, hd, ho => by simp at hn
 | n + 1, out, k :: w, es, m, off, len, cap, cap2, hn, hN, hm, hk, hl, hd, ho => by
  have c : decide ((len : Int) > 0) = true := by rw [hl]; simp
  have hoff : es[off]? = some [.str k] := by
   have : (es.drop off)[0]? = some [.str k] := by rw [hd]; rfl
   simpa using this
  have hd1 : es.drop (off + 1) = strs w := by
   rw [← List.drop_drop, hd]; rfl
  have hl1 : len - 1 = w.length := by rw [hl]; rfl
  have hl2 : 1 ≤ len := by rw [hl]; simp
  have hl3 : (1 : Int) ≤ (len : Int) := by omega
  have hsl : (strs out).length = m := by rw [zi, hm]
  have htk : (strs out).take m = strs out := List.take_of_length_le (by omega)
  have hml : m ≤ 1048576 := by omega
  have hll : len ≤ 4194304 := by simp only [List.length_cons] at hl hn; omega
  have d0 := hU g hB
  rw [hg] at d0
  have d1 := Zr g k hB
  have d2 := ZQ out (by omega) k
  simp only [List.length_cons] at hn
  rw [yr]
  cases hf : wm g.packs k with
  | none =>
   rw [eS hf] at d1
   have c2 : decide ((-1 : Int) < 0) = true := rfl
   simp only [ixI] at d1
   obtain ⟨cap', IH⟩ := ZI g hB hg n out w es m (off + 1) (len - 1) cap (cap2.map (· - 1)) (by omega) (by omega) hm hk hl1 hd1 (by omega)
   refine ⟨cap', ?_⟩
   simp only
   clear hB hf hg
   obtain ⟨top, packs⟩ := g
   simp only [zx.enc, List.map_cons, List.map_nil] at d0 d1 IH ⊢
   generalize yr xO packs n out w = Z at *
   refine zk Tryz.func27 rfl rfl ?_
   simp (disch := ((try simp only [LL]); omega)) only [↓GO, ↓DRW, GA, GX, ren, zo, za, refs, z8, cst, zr, isC, bin, una, z7, zd, blt, asArg, zg, zc, zf, z6, E.mkS, unN, ze, zq, zb, GS, simprocAttr, GZ, c, c2, hoff, d0, d1, zH, IH]
  | some p =>
   obtain ⟨hp, hkp, i, hi, hpi⟩ := sO hf
   rw [hi] at d1
   have c2 : decide ((i : Int) < 0) = false := by simp
   have hnl := hB.zC hp
   have hget : (z1.zh g.packs)[i]? = some p.enc := by unfold z1.zh; rw [List.getElem?_map, hpi]; rfl
   simp only
   cases hc : yj out k with
   | true =>
    rw [hc] at d2
    obtain ⟨cap', IH⟩ := ZI g hB hg n out w es m (off + 1) (len - 1) cap (cap2.map (· - 1)) (by omega) (by omega) hm hk hl1 hd1 (by omega)
    refine ⟨cap', ?_⟩
    rw [cond_true]
    clear hB hf hg
    obtain ⟨top, packs⟩ := g
    simp only [zx.enc, List.map_cons, List.map_nil, ixI] at d0 d1 IH ⊢
    generalize yr xO packs n out w = Z at *
    refine zk Tryz.func27 rfl rfl ?_
    simp (disch := ((try simp only [LL]); omega)) only [↓GO, ↓DRW, GA, GX, ren, zo, za, refs, z8, cst, zr, isC, bin, una, z7, zd, blt, asArg, zg, zc, zf, z6, E.mkS, unN, ze, zq, zb, GS, simprocAttr, GZ, c, c2, hoff, d0, d1, d2, htk, zH, IH]
   | false =>
    rw [hc] at d2
    have h1 := pn k out (xO out k) (py out k) hc g.packs p hp hkp
    have h2 := tN k out (xO out k) (py out k) hc g.packs p hp hkp
    have d3 := Q5 out (by omega) k m hm cap (S0 hc)
    obtain ⟨cap', IH⟩ := ZI g hB hg n (xO out k) (w ++ p.zC) (strs w ++ strs p.zC) (m + 1) 0 (w.length + p.zC.length) none none (by rw [List.length_append]; omega) (by omega) (by rw [V9 hc, hm]) (by omega) (by simp) (by simp [strs]) (by rw [List.length_append, zi, zi]; omega)
    have ho1 : off + 1 + w.length = es.length := by omega
    refine ⟨cap', ?_⟩
    rw [cond_false]
    clear hB hf hg h1 h2 hp hi hpi
    obtain ⟨top, packs⟩ := g
    obtain ⟨name, version, source, sums, dev, zC⟩ := p
    simp only [zx.enc, z1.enc, List.map_cons, List.map_nil, ixI] at d0 d1 hget IH hnl ⊢
    generalize yr xO packs n (xO out k) (w ++ zC) = Z at *
    generalize xO out k = out' at *
    refine zk Tryz.func27 rfl rfl ?_
    simp (disch := ((try simp only [LL]); omega)) only [↓GO, ↓DRW, GA, GX, ren, zo, za, refs, z8, cst, zr, isC, bin, una, z7, zd, blt, asArg, zg, zc, zf, z6, E.mkS, unN, ze, zq, zb, GS, simprocAttr, GZ, c, c2, hoff, d0, d1, d2, d3, hget, hsl, htk, hd1, hl1, ho1, zi, zH, IH, xb]
theorem c_reR (g : zx) (hB : GB g) (w : List Str) (hw : w.length ≤ 1048576) (hg : ym g = true) : zm (EV Tryz.prog pol) 27 [.agg (g.enc.map .t), .t (.list 1 (strs w))] = some (.t (.list 1 (strs (yb g.packs w)))) := by
 have h1 := l8 g.packs
 have h2 := hB
 unfold GB zx.zY at h2
 have h3 : uL g.packs [] ≤ g.packs.length := List.countP_le_length
 have h4 := hB.len
 obtain ⟨cap, L⟩ := ZI g hB hg (w.length + muS g.packs []) [] w (strs w) 0 0 w.length (some 0) none (Nat.le_refl _) (by omega) rfl (by omega) rfl rfl (by rw [zi]; omega)
 have e : yr xO g.packs (w.length + muS g.packs []) [] w = yb g.packs w := rfl
 rw [e] at L
 have ht : (strs (yb g.packs w)).take (yb g.packs w).length = strs (yb g.packs w) := by rw [← zi (yb g.packs w)]; simp
 rw [show strs [] = [] from rfl] at L
 clear hB h1 h2 h3 h4 e hg
 obtain ⟨top, packs⟩ := g
 simp only [zx.enc, List.map_cons, List.map_nil] at ht L ⊢
 generalize yb packs w = Z at *
 apply zu
 refine zw rfl Tryz.func27 rfl (by kernel_rfl) ?_
 unfold Tryz.f27
 simp (disch := ((try simp only [LL]); omega)) only [↓GO, ↓DRW, GA, GX, ren, zo, za, refs, z8, cst, zr, isC, bin, una, z7, zd, blt, asArg, zg, zc, zf, z6, E.mkS, unN, ze, zq, zb, GS, simprocAttr, GZ, L, ht, zi, List.nil_append, Nat.zero_add, zH, xb]
end Go.Proofs.YtonbkdklidfmfaaGreatDoor

/- Joined: N1 V2 N0 N2 K1 K2 K3 K4 K5 K6. Conditions: those of each lemma. -/
import Derived.Lib.ItoaMem
import Derived.Lib.AtoiAll
import Derived.Test.YtijninlbpifonaaGreatDoorUH
import Derived.Test.YtijninlbpifonaaGreatDoorUJ
import Derived.Lib.Join
set_option linter.unusedVariables false
set_option linter.unusedSimpArgs false
namespace Go.Proofs.YtijninlbpifonaaGreatDoor
set_option linter.unusedSimpArgs false
set_option linter.unusedVariables false
def isD (c : UInt8) : Bool := decide (48 ≤ c.toNat) && decide (c.toNat ≤ 57)
/-- what digits spell behind a number -/
def rJ (a : Nat) (c : UInt8) : Nat := a * 10 + (c.toNat - 48)
def u0 (acc : Nat) (l : List UInt8) : Nat := l.foldl rJ acc
theorem nz (acc : Nat) : u0 acc [] = acc := rfl
theorem qF (acc : Nat) (c : UInt8) (l : List UInt8) : u0 acc (c :: l) = u0 (rJ acc c) l := by
 unfold u0
 rw [List.foldl_cons]
theorem mY (c : UInt8) (l : List UInt8) (acc : Nat) : u0 acc (l ++ [c]) = rJ (u0 acc l) c := by
 unfold u0
 rw [List.foldl_append, List.foldl_cons, List.foldl_nil]
theorem qw (c : UInt8) : isD c = true ↔ 48 ≤ c.toNat ∧ c.toNat ≤ 57 := by simp [isD]
theorem cb (acc : Nat) (c : UInt8) (h : isD c = true) : rJ acc c + 1 ≤ (acc + 1) * 10 := by
 have := (qw c).1 h
 unfold rJ
 omega
theorem oQ (n m : Nat) : m * 10 ^ (n + 1) = m * 10 * 10 ^ n := by rw [Nat.pow_succ, Nat.mul_comm (10 ^ n) 10, Nat.mul_assoc]
theorem oe : ∀ (l : List UInt8) (acc : Nat), l.all isD = true → u0 acc l < (acc + 1) * 10 ^ l.length
 | [], acc, _ => by rw [nz]; simp
 | c :: l, acc, h => by
  rw [List.all_cons, Bool.and_eq_true] at h
  have ih := oe l (rJ acc c) h.2
  rw [qF, List.length_cons, oQ]
  exact Nat.lt_of_lt_of_le ih (Nat.mul_le_mul_right _ (cb acc c h.1))
theorem ke {d : Nat} (h : d < 10) : (UInt8.ofNat (48 + d)).toNat = 48 + d := by
 simp [UInt8.toNat_ofNat']; omega
theorem vN (u : Nat) : (Lib.decDigits u).all isD = true ∧ u0 0 (Lib.decDigits u) = u ∧ Lib.decDigits u ≠ [] := by
 induction u using Nat.strongRecOn with
 | _ u ih =>
  rw [Lib.decDigits]
  split
  · rename_i h
    have := ke h
    refine ⟨?_, ?_, by simp⟩
    · rw [List.all_cons, List.all_nil, Bool.and_true, qw, this]; omega
    · rw [qF, nz, rJ, this]; omega
  · rename_i h
    obtain ⟨h1, h2, h3⟩ := ih (u / 10) (by omega)
    have := ke (d := u % 10) (by omega)
    refine ⟨?_, ?_, by simp⟩
    · rw [List.all_append, h1, List.all_cons, List.all_nil, Bool.and_true, Bool.true_and, qw, this]; omega
    · rw [mY, h2, rJ, this]; omega
theorem rS : ∀ (l : List UInt8) (acc : Nat), l.all isD = true → (acc + 1) * 10 ^ l.length ≤ 1000000000000000000 → Lib.parseUint10 acc l = .ok (u0 acc l)
 | [], acc, _, _ => rfl
 | c :: l, acc, h, hb => by
  rw [List.all_cons, Bool.and_eq_true] at h
  have hp : 0 < 10 ^ l.length := Nat.pos_of_ne_zero (by intro h; simp at h)
  rw [List.length_cons, oQ] at hb
  have h10 : (acc + 1) * 10 ≤ 1000000000000000000 := Nat.le_trans (Nat.le_mul_of_pos_right _ hp) hb
  have hc := (qw c).1 h.1
  have ih := rS l (rJ acc c) h.2 (Nat.le_trans (Nat.mul_le_mul_right _ (cb acc c h.1)) hb)
  rw [Lib.parseUint10, if_pos hc, if_neg (by omega), if_neg (by omega), qF, ← ih]
  rfl
theorem pB : ∀ (k u : Nat), 1 ≤ k → u < 10 ^ k → Lib.nDigits u ≤ k
 | 0, u, h, _ => by omega
 | k + 1, u, _, h => by
  rw [Lib.nDigits]
  split
  · omega
  · have h10 : u / 10 < 10 ^ k := by rw [Nat.pow_succ] at h; omega
    have hk : 1 ≤ k := by
     rcases Nat.eq_zero_or_pos k with rfl | h
     · simp at h10; omega
     · exact h
    have := pB k (u / 10) hk h10
    omega
theorem tA {u : Nat} (h : u ≤ 999999999) : (Lib.decDigits u).length ≤ 9 := by
 rw [Lib.decDigits_length]
 exact pB 9 u (by omega) (by omega)
theorem ir {u : Nat} (h : u ≤ 999999999) : Lib.atoiAll (Lib.decDigits u) = .ok (u : Int) := by
 obtain ⟨h1, h2, h3⟩ := vN u
 have hl := tA h
 generalize Lib.decDigits u = l at *
 cases l with
 | nil => exact absurd rfl h3
 | cons c r =>
  have hc : isD c = true := by simp only [List.all_cons, Bool.and_eq_true] at h1; exact h1.1
  simp only [isD, Bool.and_eq_true, decide_eq_true_eq] at hc
  have hp : Lib.parseMag (c :: r) = .ok u := by
   unfold Lib.parseMag
   have : (10 : Nat) ^ (c :: r).length ≤ 10 ^ 9 := Nat.pow_le_pow_right (by omega) hl
   have e9 : (10 : Nat) ^ 9 = 1000000000 := by decide
   rw [if_neg (by simp), rS _ 0 h1 (by omega), h2]
  unfold Lib.atoiAll
  simp only
  rw [if_neg (by omega), hp]
  simp only
  rw [if_neg (by omega), if_neg (by omega), if_neg (by omega)]
/-- the number of a text, or -1 -/
def zJ (s : List UInt8) : Int :=
 match Lib.atoiAll s with
 | .ok v => cond ((decide (0 ≤ v) && decide (v ≤ 999999999)) && (Lib.itoa v == s)) v (-1)
 | _ => -1
/-- the same, by the digits -/
def sD (s : List UInt8) : Int := cond ((s.all isD && decide (s.length ≤ 9)) && (!(s == []) && (Lib.itoa (u0 0 s : Nat) == s))) (u0 0 s : Nat) (-1)
theorem lf {u : Nat} (h : u ≤ 999999999) : zJ (Lib.decDigits u) = u ∧ sD (Lib.decDigits u) = u := by
 obtain ⟨h1, h2, h3⟩ := vN u
 have hl := tA h
 refine ⟨?_, ?_⟩
 · unfold zJ
   rw [ir h]
   simp only
   rw [Lib.itoa_nonneg]
   have e1 : decide ((0 : Int) ≤ (u : Int)) = true := by simp
   have e2 : decide ((u : Int) ≤ 999999999) = true := by simp; omega
   rw [e1, e2]; simp
 · unfold sD
   rw [h1, h2, Lib.itoa_nonneg]
   have e1 : decide ((Lib.decDigits u).length ≤ 9) = true := by simpa using hl
   have e2 : (Lib.decDigits u == []) = false := by simpa using h3
   rw [e1, e2]; simp
theorem aD {s : List UInt8} (h : ∀ u, u ≤ 999999999 → s ≠ Lib.decDigits u) : zJ s = -1 ∧ sD s = -1 := by
 refine ⟨?_, ?_⟩
 · unfold zJ
   split
   · rename_i v hv
     cases hc : ((decide (0 ≤ v) && decide (v ≤ 999999999)) && (Lib.itoa v == s)) with
     | false => rfl
     | true =>
      simp only [Bool.and_eq_true, decide_eq_true_eq] at hc
      obtain ⟨⟨c1, c2⟩, c3⟩ := hc
      obtain ⟨u, rfl⟩ : ∃ u : Nat, v = u := ⟨v.toNat, by omega⟩
      rw [Lib.itoa_nonneg] at c3
      exact absurd (eq_of_beq c3).symm (h u (by omega))
   · rfl
 · unfold sD
   cases hc : ((s.all isD && decide (s.length ≤ 9)) && (!(s == []) && (Lib.itoa (u0 0 s : Nat) == s))) with
   | false => rfl
   | true =>
    simp only [Bool.and_eq_true, decide_eq_true_eq] at hc
    obtain ⟨⟨c1, c2⟩, c3, c4⟩ := hc
    rw [Lib.itoa_nonneg] at c4
    have hv := oe s 0 c1
    have : (10 : Nat) ^ s.length ≤ 10 ^ 9 := Nat.pow_le_pow_right (by omega) c2
    have e9 : (10 : Nat) ^ 9 = 1000000000 := by decide
    exact absurd (eq_of_beq c4).symm (h _ (by omega))
theorem aw (s : List UInt8) : sD s = zJ s := by
 by_cases h : ∃ u, u ≤ 999999999 ∧ s = Lib.decDigits u
 · obtain ⟨u, hu, rfl⟩ := h
   obtain ⟨h1, h2⟩ := lf hu
   rw [h1, h2]
 · obtain ⟨h1, h2⟩ := aD (s := s) fun u hu he => h ⟨u, hu, he⟩
   rw [h1, h2]
end Go.Proofs.YtijninlbpifonaaGreatDoor
/- Versions, packs, graphs, plain. Conditions: none. -/
namespace Go.Proofs.YtijninlbpifonaaGreatDoor
open E
set_option linter.unusedVariables false
set_option linter.unusedSimpArgs false
set_option maxRecDepth 100000
theorem tT (a b : UInt8) (x y : Str) : Op.bytesLess (a :: x) (b :: y) = (decide (a < b) || (a == b && Op.bytesLess x y)) := by
 rw [Op.bytesLess]
/-- '<=' on texts, said by '<' -/
theorem qu : ∀ x y : Str, (Op.bytesLess x y || x == y) = !(Op.bytesLess y x)
 | [], [] => rfl
 | [], b :: y => by simp [Op.bytesLess]
 | a :: x, [] => by simp [Op.bytesLess]
 | a :: x, b :: y => by
  have ih := qu x y
  rw [tT, tT]
  by_cases h1 : a < b
  · have h2 : ¬ b < a := by simp only [UInt8.lt_iff_toNat_lt] at h1 ⊢; omega
    have h3 : (b == a) = false := by
     rw [beq_eq_false_iff_ne]; intro h; subst h; simp only [UInt8.lt_iff_toNat_lt] at h1; omega
    simp [h1, h2, h3]
  · by_cases h2 : b < a
    · have h3 : (a == b) = false := by
       rw [beq_eq_false_iff_ne]; intro h; subst h; simp only [UInt8.lt_iff_toNat_lt] at h2; omega
      have h4 : ((a :: x) == (b :: y)) = false := by
       rw [beq_eq_false_iff_ne]; intro h; cases h; simp at h3
      simp [h1, h2, h3, h4]
    · have h3 : a = b := by
       apply UInt8.toNat_inj.1; simp only [UInt8.lt_iff_toNat_lt] at h1 h2; omega
      subst h3
      have e : ((a :: x) == (a :: y)) = (x == y) := by
       rw [Bool.eq_iff_iff]; simp
      simp only [h1, decide_false, Bool.false_or, beq_self_eq_true, Bool.true_and, e, ih]
theorem wJ (b : UInt8) : ∀ s : Str, yh (yE b s) + (yE b s).length ≤ s.length + 1
 | [] => by simp [yE, yh]
 | x :: s => by
  have ih := wJ b s
  by_cases h : x = b
  · subst h; rw [vC]; simp only [yh, List.length_cons, List.length_nil]; omega
  · cases hc : yE b s with
    | nil => exact absurd hc (sI b s)
    | cons p r =>
     rw [hc] at ih
     rw [wa b x s p r h hc]
     simp only [yh, List.length_cons] at ih ⊢; omega
theorem qm (b : UInt8) (s : Str) : (y8 b s).1.length ≤ s.length ∧ (y8 b s).2.1.length ≤ s.length := by
 have h := ou b s
 have h2 := congrArg List.length h
 rw [List.length_append] at h2
 cases hc : (y8 b s).2.2 with
 | true => rw [hc] at h2; simp only [cond_true, List.length_cons] at h2; omega
 | false =>
  have := nq b s hc
  rw [this]; simp only [List.length_nil]; omega
theorem vD : ∀ {ks : List Str} {s : Str}, s ∈ ks → s.length ≤ yh ks
 | k :: ks, s, h => by
  simp only [yh]
  rcases List.mem_cons.1 h with rfl | h
  · omega
  · have := vD h; omega
theorem mh : ∀ a b : List Str, yh (a ++ b) = yh a + yh b
 | [], b => by simp [yh]
 | x :: a, b => by simp only [List.cons_append, yh, mh a b]; omega
theorem lF : ∀ l : List Str, Lib.lens l = yh l
 | [] => rfl
 | x :: l => by
  have := lF l
  simp only [yh, ← this]; simp [Lib.lens]
theorem join_le (sep : Str) : ∀ l : List Str, (Lib.join l sep).length ≤ yh l + sep.length * l.length
 | [] => by simp [Lib.join_nil]
 | x :: r => by rw [Lib.join_length, lF]; simp only [List.length_cons, Nat.mul_add, Nat.mul_one]; omega
theorem nc (sep : Str) (x : Str) (l : List Str) (y : Str) : Lib.join (x :: l ++ [y]) sep = Lib.join (x :: l) sep ++ (sep ++ y) := by
 rw [List.cons_append, Lib.join_cons, Lib.join_cons]; simp [Lib.joinTail]
structure Ver where
 maj : Int
 min : Int
 pat : Int
 pre : List Str
def Ver.enc (v : Ver) : List T := [.int .i64 v.maj, .int .i64 v.min, .int .i64 v.pat, .list 1 (strs v.pre)]
def Ver.zero : Ver := ⟨0, 0, 0, []⟩
def preB (b : UInt8) : Bool := (B2 (nb b) 97 122 || B2 (nb b) 48 57) || (B2 (nb b) 65 90 || nb b == 45)
def isNum (s : Str) : Bool := !(s == []) && s.all isD
def tm (p : Str) : Bool := B2 (p.length : Int) 1 20 && (p.all preB && (!(isNum p) || decide (0 ≤ zJ p)))
def n9 (n : Int) : Bool := B2 n 0 999999999
def yG (v : Ver) : Bool := (n9 v.maj && (n9 v.min && n9 v.pat)) && (v.pre.all tm && decide ((v.pre.length : Int) ≤ 5))
def sQ (v : Ver) : Str := (((Lib.itoa v.maj ++ [46]) ++ Lib.itoa v.min) ++ [46]) ++ Lib.itoa v.pat
def wA (c : Str) (pre : List Str) : Str := cond (pre == []) c (c ++ ([45] ++ Lib.join pre [46]))
def yk (v : Ver) : Str := cond (yG v) (wA (sQ v) v.pre) []
def wP (s : Str) : Option Ver :=
 match yE 46 (y8 45 s).1 with
 | [a, b, c] => some ⟨zJ a, zJ b, zJ c, cond (y8 45 s).2.2 (yE 46 (y8 45 s).2.1) []⟩
 | _ => none
def zP (s : Str) : Ver × Bool :=
 match wP s with
 | some v => cond (yk v == s) (v, true) (Ver.zero, false)
 | none => (Ver.zero, false)
theorem gE {s : Str} {v : Ver} (h : wP s = some v) : s ≠ [] := by
 intro e; subst e; simp [wP, y8, yE] at h
theorem we {s : Str} (h : (zP s).2 = true) : wP s = some (zP s).1 ∧ yk (zP s).1 = s ∧ yG (zP s).1 = true ∧ s ≠ [] := by
 unfold zP at h ⊢
 cases hm : wP s with
 | none => rw [hm] at h; cases h
 | some v =>
  rw [hm] at h
  simp only at h ⊢
  have hs := gE hm
  cases hc : (yk v == s) with
  | false => rw [hc] at h; cases h
  | true =>
   have he := eq_of_beq hc
   simp only [cond_true]
   refine ⟨trivial, he, ?_, hs⟩
   cases hv : yG v with
   | true => rfl
   | false => unfold yk at he; rw [hv] at he; exact absurd he.symm hs
theorem mu (n : Int) : n9 n = true ↔ 0 ≤ n ∧ n ≤ 999999999 := by simp [n9]
theorem sg {v : Ver} (h : yG v = true) : (0 ≤ v.maj ∧ v.maj ≤ 999999999) ∧ (0 ≤ v.min ∧ v.min ≤ 999999999) ∧ (0 ≤ v.pat ∧ v.pat ≤ 999999999) ∧ v.pre.all tm = true ∧ v.pre.length ≤ 5 := by
 unfold yG at h
 simp only [Bool.and_eq_true, mu, decide_eq_true_eq] at h
 obtain ⟨⟨h1, h2, h3⟩, h4, h5⟩ := h
 exact ⟨h1, h2, h3, h4, by omega⟩
theorem tE (s : Str) : -1 ≤ zJ s ∧ zJ s ≤ 999999999 := by
 unfold zJ
 split
 · rename_i v _
   cases hc : ((decide (0 ≤ v) && decide (v ≤ 999999999)) && (Lib.itoa v == s)) with
   | false => simp
   | true =>
    simp only [Bool.and_eq_true, decide_eq_true_eq] at hc
    simp only [cond_true]; omega
 · simp
/-- with one number more behind -/
def r6 (v : Ver) : Ver := ⟨v.maj, v.min, v.pat, v.pre ++ [[48]]⟩
theorem aq (c : Str) (x : Str) (l : List Str) : wA c ((x :: l) ++ [[48]]) = wA c (x :: l) ++ [46, 48] := by
 unfold wA
 rw [nc]
 simp
theorem beq_nil_cons {α : Type} [BEq α] (x : α) (l : List α) : ((x :: l) == []) = false := rfl
/-- a version's text with '.0' behind is read as the version with one part more, where that is right -/
theorem aE {s : Str} (h : (zP s).2 = true) (hp : (zP s).1.pre ≠ []) :
 zP (s ++ [46, 48]) = cond (yG (r6 (zP s).1)) (r6 (zP s).1, true) (Ver.zero, false) ∧ yk (r6 (zP s).1) = cond (yG (r6 (zP s).1)) (s ++ [46, 48]) [] := by
 obtain ⟨hm, ht, ho, hs⟩ := we h
 generalize (zP s).1 = v at *
 have hmk : wP (s ++ [46, 48]) = some (r6 v) := by
  unfold wP at hm ⊢
  have he := ou 45 s
  have hn := fE 45 s
  cases hc : (y8 45 s).2.2 with
  | false =>
   rw [hc] at hm
   split at hm
   · cases hm; exact absurd rfl hp
   · cases hm
  | true =>
   rw [hc] at hm he
   simp only [cond_true] at he
   have h2 : y8 45 (s ++ [46, 48]) = ((y8 45 s).1, (y8 45 s).2.1 ++ [46, 48], true) := by
    conv => lhs; rw [he]
    rw [List.append_assoc, List.cons_append]
    exact fF 45 _ _ hn
   rw [h2]
   simp only
   split at hm
   · cases hm
     simp only [cond_true]
     rw [show (y8 45 s).2.1 ++ [46, 48] = (y8 45 s).2.1 ++ 46 :: [48] from rfl, fD]
     rfl
   · cases hm
 have htx : yk (r6 v) = cond (yG (r6 v)) (s ++ [46, 48]) [] := by
  have ht' := ht
  unfold yk at ht' ⊢
  rw [ho] at ht'
  simp only [cond_true] at ht'
  congr 1
  rw [← ht']
  cases hv : v.pre with
  | nil => exact absurd hv hp
  | cons x l =>
   show wA (sQ v) (v.pre ++ [[48]]) = _
   rw [hv]
   exact aq _ x l
 refine ⟨?_, htx⟩
 unfold zP
 rw [hmk]
 simp only
 rw [htx]
 cases hk : yG (r6 v) with
 | true => simp
 | false =>
  simp only [cond_false]
  have : (([] : Str) == s ++ [46, 48]) = false := by rw [beq_eq_false_iff_ne]; intro e; have := congrArg List.length e; simp at this
  rw [this]; rfl
/-- the text that a version ends ahead of, where it stands alone -/
def xx (a b c : Int) : Str := yk ⟨a, b, c, [[48]]⟩
def mB (v : Ver) : Str := cond (v.pre == []) (xx v.maj v.min (v.pat + 1)) (yk (r6 v))
def ve (s : Str) : Option (Str × Str) := cond ((zP s).2 && !(mB (zP s).1 == [])) (some (s, mB (zP s).1)) none
def upV (v : Ver) (part : Int) : Ver := cond (part == 0) ⟨v.maj + 1, 0, 0, []⟩ (cond (part == 1) ⟨v.maj, v.min + 1, 0, []⟩ ⟨v.maj, v.min, cond (v.pre == []) (v.pat + 1) v.pat, []⟩)
def wO (v : Ver) (part : Int) : Ver := cond (!(yG v) || !(B2 part 0 2)) v (cond (yG (upV v part)) (upV v part) v)
def wK (a b : Int) : Int := cond (decide (a < b)) (-1) (cond (decide (a > b)) 1 0)
def ee (a b : Str) : Int := cond (Op.bytesLess a b) (-1) (cond (!(Op.bytesLess a b || a == b)) 1 0)
def uy (a b : Str) : Int := cond (decide (zJ a ≥ 0) && decide (zJ b ≥ 0)) (wK (zJ a) (zJ b)) (cond (decide (zJ a ≥ 0)) (-1) (cond (decide (zJ b ≥ 0)) 1 (ee a b)))
/-- the first place at which parts differ -/
def sK : List Str → List Str → Option Int
 | a :: l, b :: m => cond (uy a b == 0) (sK l m) (some (uy a b))
 | _, _ => none
def vv (a b : List Str) : Int := (sK a b).getD (wK (a.length : Int) (b.length : Int))
def ec (a b : Ver) : Int :=
 cond (wK a.maj b.maj == 0) (cond (wK a.min b.min == 0) (cond (wK a.pat b.pat == 0)
  (cond (a.pre == [] || b.pre == []) (wK (b.pre.length : Int) (a.pre.length : Int)) (vv a.pre b.pre))
  (wK a.pat b.pat)) (wK a.min b.min)) (wK a.maj b.maj)
theorem uc (a b : Int) : (wK a b == 0) = (a == b) := by
 unfold wK
 by_cases h1 : a < b
 · simp [h1]; omega
 · by_cases h2 : a > b
   · simp [h1, h2]; omega
   · simp [h1, h2]; omega
theorem ur (a b c a' b' c' : Int) : (ec ⟨a, b, c, []⟩ ⟨a', b', c', []⟩ == 0) = (a == a' && (b == b' && c == c')) := by
 unfold ec
 simp only [uc]
 cases h1 : (a == a') with
 | false => simp only [cond_false]; rw [uc, h1]; rfl
 | true =>
  cases h2 : (b == b') with
  | false => simp only [cond_true, cond_false]; rw [uc, h2]; rfl
  | true =>
   cases h3 : (c == c') with
   | false => simp only [cond_true, cond_false]; rw [uc, h3]; rfl
   | true => rfl
def yT (v : Ver) : Ver := ⟨v.maj, v.min, v.pat, []⟩
def mw (v : Ver) (part : Int) : Str × Bool := cond (ec (wO (yT v) part) (yT v) == 0) ([], false) (yk ⟨(wO (yT v) part).maj, (wO (yT v) part).min, (wO (yT v) part).pat, [[48]]⟩, true)
theorem Vu : tm [48] = true := by
 unfold tm
 have h1 : ([48] : Str).all preB = true := by decide
 have h2 : decide (0 ≤ zJ [48]) = true := by
  have := (lf (u := 0) (by omega)).1
  rw [show Lib.decDigits 0 = [48] by rw [Lib.decDigits_one (by omega)]; rfl] at this
  rw [this]; rfl
 rw [h1, h2]; simp
theorem eg (v : Ver) : yG (yT v) = (n9 v.maj && (n9 v.min && n9 v.pat)) := by simp [yG, yT]
theorem uG (a b c : Int) : yG ⟨a, b, c, [[48]]⟩ = (n9 a && (n9 b && n9 c)) := by simp [yG, Vu]
theorem rk (a b c : Int) : (xx a b c == []) = !(n9 a && (n9 b && n9 c)) := by
 unfold xx yk
 rw [uG]
 cases (n9 a && (n9 b && n9 c)) with
 | false => rfl
 | true => simp [wA, sQ]
/-- the next one of a part is told by both in one way -/
theorem XN {v : Ver} (ho : yG v = true) (part : Int) (hp : part = 0 ∨ part = 1 ∨ part = 2) :
 mw v part = (let h := xx (cond (part == 0) (v.maj + 1) v.maj) (cond (part == 0) 0 (cond (part == 1) (v.min + 1) v.min)) (cond (part == 2) (v.pat + 1) 0); (h, !(h == []))) := by
 obtain ⟨h1, h2, h3, _, _⟩ := sg ho
 have hb : yG (yT v) = true := by
  rw [eg]; simp only [Bool.and_eq_true, mu]; exact ⟨h1, h2, h3⟩
 have n1 : n9 v.maj = true := (mu _).2 h1
 have n2 : n9 v.min = true := (mu _).2 h2
 have n3 : n9 v.pat = true := (mu _).2 h3
 have n0 : n9 0 = true := by decide
 unfold mw wO
 rw [hb]
 rcases hp with rfl | rfl | rfl
 · have e : upV (yT v) 0 = ⟨v.maj + 1, 0, 0, []⟩ := rfl
   rw [e]
   simp only [Bool.not_true, Bool.false_or, show B2 0 0 2 = true from rfl, cond_false]
   rw [show yG ⟨v.maj + 1, 0, 0, []⟩ = n9 (v.maj + 1) by simp [yG, n0]]
   simp only [show ((0 : Int) == 0) = true from rfl, cond_true, show ((0 : Int) == 2) = false from rfl, cond_false]
   rw [rk, n0]
   cases hn : n9 (v.maj + 1) with
   | true =>
    have : (v.maj + 1 == v.maj) = false := by rw [beq_eq_false_iff_ne]; omega
    simp only [cond_true, yT, ur, this]
    simp [xx]
   | false =>
    simp [ur, xx, yk, uG, hn, yT]
 · have e : upV (yT v) 1 = ⟨v.maj, v.min + 1, 0, []⟩ := rfl
   rw [e]
   simp only [Bool.not_true, Bool.false_or, show B2 1 0 2 = true from rfl, cond_false]
   rw [show yG ⟨v.maj, v.min + 1, 0, []⟩ = n9 (v.min + 1) by simp [yG, n0, n1]]
   simp only [show ((1 : Int) == 0) = false from rfl, show ((1 : Int) == 1) = true from rfl, cond_true, show ((1 : Int) == 2) = false from rfl, cond_false]
   rw [rk, n0, n1]
   cases hn : n9 (v.min + 1) with
   | true =>
    have : (v.min + 1 == v.min) = false := by rw [beq_eq_false_iff_ne]; omega
    simp only [cond_true, yT, ur, this]
    simp [xx]
   | false =>
    simp [ur, xx, yk, uG, hn, yT]
 · have e : upV (yT v) 2 = ⟨v.maj, v.min, v.pat + 1, []⟩ := rfl
   rw [e]
   simp only [Bool.not_true, Bool.false_or, show B2 2 0 2 = true from rfl, cond_false]
   rw [show yG ⟨v.maj, v.min, v.pat + 1, []⟩ = n9 (v.pat + 1) by simp [yG, n1, n2]]
   simp only [show ((2 : Int) == 0) = false from rfl, show ((2 : Int) == 1) = false from rfl, cond_true, show ((2 : Int) == 2) = true from rfl, cond_false]
   rw [rk, n1, n2]
   cases hn : n9 (v.pat + 1) with
   | true =>
    have : (v.pat + 1 == v.pat) = false := by rw [beq_eq_false_iff_ne]; omega
    simp only [cond_true, yT, ur, this]
    simp [xx]
   | false =>
    simp [ur, xx, yk, uG, hn, yT]
end Go.Proofs.YtijninlbpifonaaGreatDoor
/- Numbers' texts, by both. Conditions: those of each lemma. -/
namespace Go.Proofs.YtijninlbpifonaaGreatDoor
open E
set_option linter.unusedSimpArgs false
set_option linter.unusedVariables false
set_option maxRecDepth 100000
theorem oZ : ∀ (k u : Nat), 1 ≤ k → u < 10 ^ k → Lib.nDigits u ≤ k
 | 0, u, h, _ => by omega
 | k + 1, u, _, h => by
  rw [Lib.nDigits]
  split
  · omega
  · have h10 : u / 10 < 10 ^ k := by rw [Nat.pow_succ] at h; omega
    have hk : 1 ≤ k := by
     rcases Nat.eq_zero_or_pos k with rfl | h
     · simp at h10; omega
     · exact h
    have := oZ k (u / 10) hk h10
    omega
theorem wi (n : Int) (h0 : 0 ≤ n) (h1 : n ≤ 999999999) : (Lib.itoa n).length ≤ 9 := by
 obtain ⟨u, rfl⟩ : ∃ u : Nat, n = u := ⟨n.toNat, by omega⟩
 rw [Lib.itoa_nonneg, Lib.decDigits_length]
 exact oZ 9 u (by omega) (by omega)
theorem jH (n : Int) (h0 : 0 ≤ n) (h1 : n ≤ 999999999) : zk (EV Tryz.prog pol) 243 [.t (.int .i64 n)] = some (.t (.str (Lib.itoa n))) := by
 have h := TG n (by omega) (by omega)
 apply zr
 refine zw rfl Tryz.func243 rfl (by kernel_rfl) ?_
 unfold Tryz.f243
 simp only [↓GO, ↓DRW, GA, GX, ren, zm, za, refs, z8, cst, zq, isC, bin, una, z6, zd, blt, asArg, zf, zc, zg, z1, E.mkS, unN, ze, zn, zb, GS, simprocAttr, h]
/-- the digits of a number, none for 0 -/
def bF (m : Nat) : Str := if m = 0 then [] else Lib.decDigits m
theorem aQ (m : Nat) (h : m ≠ 0) : bF m = bF (m / 10) ++ [UInt8.ofNat (48 + m % 10)] := by
 unfold bF
 rw [if_neg h]
 by_cases h10 : m < 10
 · rw [if_pos (by omega), Lib.decDigits_one h10, show m % 10 = m by omega]; rfl
 · rw [if_neg (by omega)]
   conv => lhs; rw [Lib.decDigits]
   rw [dif_neg h10]
theorem Xl (d : Nat) (h : d < 10) : (List.drop d [48, 49, 50, 51, 52, 53, 54, 55, 56, 57]).take (d + 1 - d) = [UInt8.ofNat (48 + d)] := by
 have : d = 0 ∨ d = 1 ∨ d = 2 ∨ d = 3 ∨ d = 4 ∨ d = 5 ∨ d = 6 ∨ d = 7 ∨ d = 8 ∨ d = 9 := by omega
 rcases this with rfl | rfl | rfl | rfl | rfl | rfl | rfl | rfl | rfl | rfl <;> rfl
theorem UY (n : Int) : ∀ (N m : Nat) (out : Str), m ≤ N → m ≤ 999999999 → out.length + m ≤ 1000000000 →
 EV Tryz.prog pol (.loop 256 124 0 [.t (.int .i64 n), .t (.str out), .t (.int .i64 (m : Int))] [])
 = some (.loop (.exit 0) [.t (.int .i64 n), .t (.str (bF m ++ out))] [])
 | N, 0, out, h, h1, h2 => by
  refine zi Tryz.func256 rfl rfl ?_
  simp only [↓GO, ↓DRW, GA, GX, ren, zm, za, refs, z8, cst, zq, isC, bin, una, z6, zd, blt, asArg, zf, zc, zg, z1, E.mkS, unN, ze, zn, zb, GS, simprocAttr, Int.natCast_zero, bne_self_eq_false, bF, if_true]
 | 0, m + 1, out, h, h1, h2 => by omega
 | N + 1, m + 1, out, h, h1, h2 => by
  generalize hm : m + 1 = x at *
  have c : (((x : Nat) : Int) == 0) = false := by simp; omega
  have e1 : ((x : Nat) : Int).tmod 10 = ((x % 10 : Nat) : Int) := (Int.ofNat_tmod x 10).symm
  have e2 : ((x : Nat) : Int).tdiv 10 = ((x / 10 : Nat) : Int) := (Int.ofNat_tdiv x 10).symm
  have hd : x % 10 < 10 := Nat.mod_lt _ (by omega)
  have c2 : decide (((x % 10 : Nat) : Int) < 0) = false := by simp only [decide_eq_false_iff_not]; omega
  have hdig := Xl (x % 10) hd
  have IH := UY n N (x / 10) (UInt8.ofNat (48 + x % 10) :: out) (by omega) (by omega) (by simp only [List.length_cons]; omega)
  rw [aQ x (by omega), List.append_assoc]
  rw [show [UInt8.ofNat (48 + x % 10)] ++ out = UInt8.ofNat (48 + x % 10) :: out from rfl]
  generalize UInt8.ofNat (48 + x % 10) = bd at *
  have w1 : IntKind.i64.wrap (((x % 10 : Nat) : Int) + 1) = ((x % 10 + 1 : Nat) : Int) := by rw [zj (by omega)]; omega
  have w2 : IntKind.i64.wrap ((x / 10 : Nat) : Int) = ((x / 10 : Nat) : Int) := zj (by omega)
  generalize x % 10 = xd at *
  generalize x / 10 = xq at *
  refine zi Tryz.func256 rfl rfl ?_
  simp (disch := ((try simp only [LL]); omega)) only [↓GO, ↓DRW, GA, GX, ren, zm, za, refs, z8, cst, zq, isC, bin, una, z6, zd, blt, asArg, zf, zc, zg, z1, E.mkS, unN, ze, zn, zb, GS, simprocAttr, bne, c, e1, e2, c2, w1, w2, hdig, xg, IH]
theorem jG (n : Int) (h0 : 0 ≤ n) (h1 : n ≤ 999999999) : zk (EV Tryz.prog pol) 256 [.t (.int .i64 n)] = some (.t (.str (Lib.itoa n))) := by
 obtain ⟨u, rfl⟩ : ∃ u : Nat, n = u := ⟨n.toNat, by omega⟩
 have IH := UY u u u [] (Nat.le_refl _) (by omega) (by simp; omega)
 rw [List.append_nil] at IH
 rw [Lib.itoa_nonneg]
 have c2 : decide ((u : Int) < 0) = false := by simp only [decide_eq_false_iff_not]; omega
 apply zr
 refine zw rfl Tryz.func256 rfl (by kernel_rfl) ?_
 unfold Tryz.f256
 by_cases hu : u = 0
 · subst hu
   rw [show Lib.decDigits 0 = [48] by rw [Lib.decDigits_one (by omega)]; rfl]
   simp only [↓GO, ↓DRW, GA, GX, ren, zm, za, refs, z8, cst, zq, isC, bin, una, z6, zd, blt, asArg, zf, zc, zg, z1, E.mkS, unN, ze, zn, zb, GS, simprocAttr, Int.natCast_zero]
 · have c : ((u : Int) == 0) = false := by simp; omega
   rw [show Lib.decDigits u = bF u by simp [bF, hu]]
   simp only [↓GO, ↓DRW, GA, GX, ren, zm, za, refs, z8, cst, zq, isC, bin, una, z6, zd, blt, asArg, zf, zc, zg, z1, E.mkS, unN, ze, zn, zb, GS, simprocAttr, c, IH, c2]
end Go.Proofs.YtijninlbpifonaaGreatDoor
/- The number of a text, by both. Conditions: those of each lemma. -/
namespace Go.Proofs.YtijninlbpifonaaGreatDoor
open E
set_option linter.unusedSimpArgs false
set_option linter.unusedVariables false
set_option maxRecDepth 100000
theorem dM (c : UInt8) : B2 (c.toNat : Int) 48 57 = isD c := by
 unfold B2 isD
 congr 1 <;> rw [decide_eq_decide] <;> omega
theorem ai (s : Str) (hl : s.length ≤ 281474976710656) : zk (EV Tryz.prog pol) 163 [.t (.str s)] = some (.t (.int .i64 (zJ s))) := by
 have hat := TL s hl
 apply zr
 refine zw rfl Tryz.func163 rfl (by kernel_rfl) ?_
 unfold Tryz.f163
 unfold zJ
 cases ha : Lib.atoiAll s with
 | range => rw [ha] at hat; simp only at hat ⊢; simp (disch := ((try simp only [LL]); omega)) only [↓GO, ↓DRW, GA, GX, ren, zm, za, refs, z8, cst, zq, isC, bin, una, z6, zd, blt, asArg, zf, zc, zg, z1, E.mkS, unN, ze, zn, zb, GS, simprocAttr, hat]
 | ok v =>
  rw [ha] at hat
  simp only at hat ⊢
  have hw := tZ v 0 999999999
  rw [show B2 v 0 999999999 = (decide (0 ≤ v) && decide (v ≤ 999999999)) from rfl] at hw
  cases hb : (decide (0 ≤ v) && decide (v ≤ 999999999)) with
  | false => rw [hb] at hw; simp (disch := ((try simp only [LL]); omega)) only [↓GO, ↓DRW, GA, GX, ren, zm, za, refs, z8, cst, zq, isC, bin, una, z6, zd, blt, asArg, zf, zc, zg, z1, E.mkS, unN, ze, zn, zb, GS, simprocAttr, hat, hw]
  | true =>
   rw [hb] at hw
   simp only [Bool.and_eq_true, decide_eq_true_eq] at hb
   have hd := jH v hb.1 hb.2
   cases he : (Lib.itoa v == s) <;> simp (disch := ((try simp only [LL]); omega)) only [↓GO, ↓DRW, GA, GX, ren, zm, za, refs, z8, cst, zq, isC, bin, una, z6, zd, blt, asArg, zf, zc, zg, z1, E.mkS, unN, ze, zn, zb, GS, simprocAttr, bne, hat, hw, hd, he]
 | _ => rw [ha] at hat; simp only at hat ⊢; simp (disch := ((try simp only [LL]); omega)) only [↓GO, ↓DRW, GA, GX, ren, zm, za, refs, z8, cst, zq, isC, bin, una, z6, zd, blt, asArg, zf, zc, zg, z1, E.mkS, unN, ze, zn, zb, GS, simprocAttr, hat]
theorem US (s : Str) (hl : s.length ≤ 9) : ∀ (rest pre : Str), s = pre ++ rest → pre.all isD = true →
 ∃ m : V, EV Tryz.prog pol (.loop 192 58 0 [.t (.str s), .t (.int .i64 (u0 0 pre : Nat)), .t (.int .i64 (pre.length : Int))] [])
 = some (cond (rest.all isD) (.loop (.exit 0) [.t (.str s), .bad, .t (.int .i64 (u0 0 s : Nat))] []) (.loop .ret [.t (.str s), .t (.int .i64 (-1)), m] []))
 | [], pre, hs, hd => by
  have c : decide ((pre.length : Int) < (s.length : Int)) = false := by simp [hs]
  have hp : s = pre := by simpa using hs
  refine ⟨.bad, zi Tryz.func192 rfl rfl ?_⟩
  simp only [↓GO, ↓DRW, GA, GX, ren, zm, za, refs, z8, cst, zq, isC, bin, una, z6, zd, blt, asArg, zf, zc, zg, z1, E.mkS, unN, ze, zn, zb, GS, simprocAttr, c]
  rw [hp]
 | b :: rest, pre, hs, hd => by
  have c : decide ((pre.length : Int) < (s.length : Int)) = true := by simp [hs]; omega
  have hget : s[pre.length]? = some b := by rw [hs]; exact th pre b rest
  have hlen : s.length = pre.length + rest.length + 1 := by rw [hs]; simp; omega
  have hin := w6 (b.toNat : Int) 48 57
  rw [dM] at hin
  have c9 : decide ((s.length : Int) > 9) = false := by simp only [decide_eq_false_iff_not]; omega
  have hv := oe pre 0 hd
  have hp10 : (10 : Nat) ^ pre.length ≤ 10 ^ 9 := Nat.pow_le_pow_right (by omega) (by omega)
  have e9 : (10 : Nat) ^ 9 = 1000000000 := by decide
  have hb8 := V2 b
  cases hb : isD b with
  | false =>
   rw [hb] at hin
   refine ⟨.t (.int .i64 (u0 0 pre : Nat)), zi Tryz.func192 rfl rfl ?_⟩
   clear hs hlen
   simp (disch := omega) only [↓GO, ↓DRW, GA, GX, ren, zm, za, refs, z8, cst, zq, isC, bin, una, z6, zd, blt, asArg, zf, zc, zg, z1, E.mkS, unN, ze, zn, zb, GS, simprocAttr, c, hget, zj, conv, wrap_u8, hin, List.all_cons, hb]
  | true =>
   rw [hb] at hin
   have hd2 : (pre ++ [b]).all isD = true := by rw [List.all_append, hd]; simp [hb]
   obtain ⟨m, IH⟩ := US s hl rest (pre ++ [b]) (by rw [hs]; simp) hd2
   have hbb := (qw b).1 hb
   have hst : ((u0 0 (pre ++ [b]) : Nat) : Int) = 10 * ((u0 0 pre : Nat) : Int) + (b.toNat : Int) - 48 := by
    rw [mY, rJ]; omega
   rw [hst, show ((pre ++ [b]).length : Int) = (pre.length : Int) + 1 by simp] at IH
   have hpl : pre.length ≤ 9 := by omega
   generalize u0 0 pre = vp at *
   generalize u0 0 s = vs at *
   clear hs hlen hst
   refine ⟨m, zi Tryz.func192 rfl rfl ?_⟩
   simp (disch := omega) only [↓GO, ↓DRW, GA, GX, ren, zm, za, refs, z8, cst, zq, isC, bin, una, z6, zd, blt, asArg, zf, zc, zg, z1, E.mkS, unN, ze, zn, zb, GS, simprocAttr, c, hget, zj, conv, wrap_u8, hin, List.all_cons, hb, c9, IH]
theorem l_rdL (s : Str) (h9 : 9 < s.length) (hl : s.length ≤ 281474976710656) :
 EV Tryz.prog pol (.loop 192 58 0 [.t (.str s), .t (.int .i64 0), .t (.int .i64 0)] []) = some (.loop .ret [.t (.str s), .t (.int .i64 (-1)), .t (.int .i64 0)] []) := by
 cases s with
 | nil => simp at h9
 | cons b r =>
  have c : decide ((0 : Int) < ((b :: r).length : Int)) = true := by simp only [decide_eq_true_eq]; omega
  have c9 : decide (((b :: r).length : Int) > 9) = true := by simp only [decide_eq_true_eq]; omega
  have hget : (b :: r)[0]? = some b := rfl
  have hin := w6 (b.toNat : Int) 48 57
  rw [dM] at hin
  have hb8 := V2 b
  generalize (b :: r) = s at *
  refine zi Tryz.func192 rfl rfl ?_
  cases hb : isD b with
  | false => rw [hb] at hin; simp (disch := omega) only [↓GO, ↓DRW, GA, GX, ren, zm, za, refs, z8, cst, zq, isC, bin, una, z6, zd, blt, asArg, zf, zc, zg, z1, E.mkS, unN, ze, zn, zb, GS, simprocAttr, c, vr, hget, zj, conv, wrap_u8, hin]
  | true => rw [hb] at hin; simp (disch := omega) only [↓GO, ↓DRW, GA, GX, ren, zm, za, refs, z8, cst, zq, isC, bin, una, z6, zd, blt, asArg, zf, zc, zg, z1, E.mkS, unN, ze, zn, zb, GS, simprocAttr, c, vr, hget, zj, conv, wrap_u8, hin, c9]
theorem j4 (s : Str) (hl : s.length ≤ 281474976710656) : zk (EV Tryz.prog pol) 192 [.t (.str s)] = some (.t (.int .i64 (zJ s))) := by
 rw [← aw]
 apply zr
 refine zw rfl Tryz.func192 rfl (by kernel_rfl) ?_
 unfold Tryz.f192
 unfold sD
 by_cases h9 : s.length ≤ 9
 · obtain ⟨m, IH⟩ := US s h9 s [] rfl rfl
   simp only [List.length_nil, Int.natCast_zero, nz] at IH
   have e9 : decide (s.length ≤ 9) = true := by simpa using h9
   have hv := oe s 0
   have hp10 : (10 : Nat) ^ s.length ≤ 10 ^ 9 := Nat.pow_le_pow_right (by omega) h9
   have e10 : (10 : Nat) ^ 9 = 1000000000 := by decide
   cases ha : s.all isD with
   | false => rw [ha] at IH; simp only [cond_false] at IH; simp (disch := ((try simp only [LL]); omega)) only [↓GO, ↓DRW, GA, GX, ren, zm, za, refs, z8, cst, zq, isC, bin, una, z6, zd, blt, asArg, zf, zc, zg, z1, E.mkS, unN, ze, zn, zb, GS, simprocAttr, IH]
   | true =>
    rw [ha] at IH; simp only [cond_true] at IH
    have hv' := hv ha
    have hd := jG (u0 0 s : Nat) (by omega) (by omega)
    cases hn : (s == []) with
    | true => simp (disch := ((try simp only [LL]); omega)) only [↓GO, ↓DRW, GA, GX, ren, zm, za, refs, z8, cst, zq, isC, bin, una, z6, zd, blt, asArg, zf, zc, zg, z1, E.mkS, unN, ze, zn, zb, GS, simprocAttr, IH, e9, hn]
    | false =>
     cases he : (Lib.itoa (u0 0 s : Nat) == s) <;> simp (disch := ((try simp only [LL]); omega)) only [↓GO, ↓DRW, GA, GX, ren, zm, za, refs, z8, cst, zq, isC, bin, una, z6, zd, blt, asArg, zf, zc, zg, z1, E.mkS, unN, ze, zn, zb, GS, simprocAttr, bne, IH, e9, hn, hd, he]
 · have e9 : decide (s.length ≤ 9) = false := by simpa using h9
   have IH := l_rdL s (by omega) (by omega)
   simp (disch := ((try simp only [LL]); omega)) only [↓GO, ↓DRW, GA, GX, ren, zm, za, refs, z8, cst, zq, isC, bin, una, z6, zd, blt, asArg, zf, zc, zg, z1, E.mkS, unN, ze, zn, zb, GS, simprocAttr, IH, e9]
end Go.Proofs.YtijninlbpifonaaGreatDoor
/- Names and plain texts, by both; parts between a byte. Conditions: those of each lemma. -/
namespace Go.Proofs.YtijninlbpifonaaGreatDoor
open E
set_option linter.unusedSimpArgs false
set_option linter.unusedVariables false
set_option maxRecDepth 100000
theorem cw : ∀ p s : Str, (decide ((s.length : Int) ≥ (p.length : Int)) && (s.take p.length == p)) = p.isPrefixOf s
 | [], s => by
  have : decide ((s.length : Int) ≥ (([] : Str).length : Int)) = true := by simp
  rw [this]; simp [List.isPrefixOf]
 | a :: p, [] => by
  have : decide ((([] : Str).length : Int) ≥ ((a :: p).length : Int)) = false := by simp only [decide_eq_false_iff_not, List.length_cons, List.length_nil]; omega
  rw [this]; simp [List.isPrefixOf]
 | a :: p, b :: s => by
  have ih := cw p s
  have e1 : decide (((b :: s).length : Int) ≥ ((a :: p).length : Int)) = decide ((s.length : Int) ≥ (p.length : Int)) := by
   rw [decide_eq_decide]; simp only [List.length_cons]; omega
  rw [e1, List.isPrefixOf, ← ih, List.length_cons, List.take_succ_cons]
  by_cases h : b = a
  · subst h
    have : (b :: List.take p.length s == b :: p) = (List.take p.length s == p) := by rw [Bool.eq_iff_iff]; simp
    rw [this]; simp
  · have h2 : (b :: List.take p.length s == a :: p) = false := by rw [beq_eq_false_iff_ne]; intro e; injection e with e1 e2; exact h e1
    have h3 : (a == b) = false := by rw [beq_eq_false_iff_ne]; exact fun e => h e.symm
    rw [h2, h3]; simp
theorem ku (s p : Str) (hs : s.length ≤ 9223372036854775807) (hp : p.length ≤ 9223372036854775807) : zk (EV Tryz.prog pol) 285 [.t (.str s), .t (.str p)] = some (.t (.bool (p.isPrefixOf s))) := by
 rw [← cw]
 apply zr
 refine zw rfl Tryz.func285 rfl (by kernel_rfl) ?_
 unfold Tryz.f285
 cases h : decide ((s.length : Int) ≥ (p.length : Int)) with
 | false => simp (disch := ((try simp only [LL]); omega)) only [↓GO, ↓DRW, GA, GX, ren, zm, za, refs, z8, cst, zq, isC, bin, una, z6, zd, blt, asArg, zf, zc, zg, z1, E.mkS, unN, ze, zn, zb, GS, simprocAttr, GZ, h]
 | true =>
  have h2 := of_decide_eq_true h
  simp (disch := ((try simp only [LL]); omega)) only [↓GO, ↓DRW, GA, GX, ren, zm, za, refs, z8, cst, zq, isC, bin, una, z6, zd, blt, asArg, zf, zc, zg, z1, E.mkS, unN, ze, zn, zb, GS, simprocAttr, GZ, h]
theorem XD (s p : Str) (hs : s.length ≤ 9223372036854775807) (hp : p.length ≤ 9223372036854775807) : zk (EV Tryz.prog pol) 228 [.t (.str s), .t (.str p)] = some (.t (.bool (p.isPrefixOf s))) := by
 have h := ku s p hs hp
 apply zr
 refine zw rfl Tryz.func228 rfl (by kernel_rfl) ?_
 unfold Tryz.f228
 simp (disch := ((try simp only [LL]); omega)) only [↓GO, ↓DRW, GA, GX, ren, zm, za, refs, z8, cst, zq, isC, bin, una, z6, zd, blt, asArg, zf, zc, zg, z1, E.mkS, unN, ze, zn, zb, GS, simprocAttr, GZ, h]
theorem gb : ∀ {p s : Str}, p.isPrefixOf s = true → p.length ≤ s.length
 | [], s, _ => by simp
 | a :: p, [], h => by simp [List.isPrefixOf] at h
 | a :: p, b :: s, h => by
  simp only [List.isPrefixOf, Bool.and_eq_true] at h
  have := gb h.2
  simp only [List.length_cons]; omega
theorem eI (s p : Str) (hs : s.length ≤ 9223372036854775807) (hp : p.length ≤ 9223372036854775807) : zk (EV Tryz.prog pol) 286 [.t (.str s), .t (.str p)] = some (.t (.str (cond (p.isPrefixOf s) (s.drop p.length) s))) := by
 have h := ku s p hs hp
 apply zr
 refine zw rfl Tryz.func286 rfl (by kernel_rfl) ?_
 unfold Tryz.f286
 cases hb : p.isPrefixOf s with
 | false => rw [hb] at h; simp (disch := ((try simp only [LL]); omega)) only [↓GO, ↓DRW, GA, GX, ren, zm, za, refs, z8, cst, zq, isC, bin, una, z6, zd, blt, asArg, zf, zc, zg, z1, E.mkS, unN, ze, zn, zb, GS, simprocAttr, GZ, h]
 | true =>
  have h2 := gb hb
  rw [hb] at h; simp (disch := ((try simp only [LL]); omega)) only [↓GO, ↓DRW, GA, GX, ren, zm, za, refs, z8, cst, zq, isC, bin, una, z6, zd, blt, asArg, zf, zc, zg, z1, E.mkS, unN, ze, zn, zb, GS, simprocAttr, GZ, h]
theorem aZ (s p : Str) (hs : s.length ≤ 9223372036854775807) (hp : p.length ≤ 9223372036854775807) : zk (EV Tryz.prog pol) 230 [.t (.str s), .t (.str p)] = some (.t (.str (cond (p.isPrefixOf s) (s.drop p.length) s))) := by
 have h := eI s p hs hp
 apply zr
 refine zw rfl Tryz.func230 rfl (by kernel_rfl) ?_
 unfold Tryz.f230
 simp (disch := ((try simp only [LL]); omega)) only [↓GO, ↓DRW, GA, GX, ren, zm, za, refs, z8, cst, zq, isC, bin, una, z6, zd, blt, asArg, zf, zc, zg, z1, E.mkS, unN, ze, zn, zb, GS, simprocAttr, GZ, h]
theorem Vk (s : Str) : cond (([64] : Str).isPrefixOf s) (s.drop ([64] : Str).length) s = yO s := by
 cases s with
 | nil => rfl
 | cons x s =>
  by_cases h : x = 64
  · subst h; simp [List.isPrefixOf, yO]
  · have : (64 == x) = false := by rw [beq_eq_false_iff_ne]; exact fun e => h e.symm
    simp [List.isPrefixOf, yO, h, this]
theorem Ui (b : UInt8) : zk (EV Tryz.prog pol) 232 [.t (.int .u8 (b.toNat : Int))] = some (.t (.bool (vI b))) := by
 have h1 := kt (b.toNat : Int)
 have h2 := qW (b.toNat : Int)
 apply zr
 refine zw rfl Tryz.func232 rfl (by kernel_rfl) ?_
 unfold Tryz.f232
 simp only [vI, nb]
 generalize hx : B2 (b.toNat : Int) 97 122 = x1 at *
 generalize hy : B2 (b.toNat : Int) 48 57 = x2 at *
 repeat' (first | (((first | with_reducible refine tg (fun hA => ?_) (fun hA => ?_) | with_reducible refine te (fun hA => ?_) (fun hA => ?_)) <;> (try simp only [bne, Bool.not_eq_true', Bool.not_eq_false'] at hA) <;> (first | (have hP := Int.le_of_eq (eq_of_beq (α := Int) hA); have hQ := Int.le_of_eq (eq_of_beq (α := Int) hA).symm) | have hP := of_decide_eq_true hA | have hP := of_decide_eq_false hA | skip)) <;> (simp (disch := ((try simp only [LL]); omega)) only [↓GO, ↓DRW, GA, GX, ren, zm, za, refs, z8, cst, zq, isC, bin, una, z6, zd, blt, asArg, zf, zc, zg, z1, E.mkS, unN, ze, zn, zb, GS, simprocAttr, zj, bne, *])) | (simp (disch := ((try simp only [LL]); omega)) only [↓GO, ↓DRW, GA, GX, ren, zm, za, refs, z8, cst, zq, isC, bin, una, z6, zd, blt, asArg, zf, zc, zg, z1, E.mkS, unN, ze, zn, zb, GS, simprocAttr, zj, bne, *]))
theorem oH (b : UInt8) (s : Str) : mo s [b] = yE b s := by
 rw [← l7]
 unfold mo Lib.split Lib.countB
 rw [Lib.splitB_data]
theorem vn (x : Str) (l : List Str) : strs (x :: l) = [.str x] :: strs l := rfl
theorem q8 (a b : List Str) : strs (a ++ b) = strs a ++ strs b := by simp [strs]
theorem yc : strs [] = [] := rfl
/-- a place in a list of texts, told by what stands ahead of it -/
theorem wh (pre : List Str) (x : Str) (rest : List Str) : (strs (pre ++ x :: rest))[pre.length]? = some [.str x] := by
 rw [q8, vn]
 have := th (strs pre) [T.str x] (strs rest)
 rwa [zh] at this
theorem cW (s : Str) (sc : Bool) (parts : List Str) (hl : parts.length ≤ 4294967296) (hb : ∀ p ∈ parts, p.length ≤ 4294967296) : ∀ (rest pre : List Str), parts = pre ++ rest →
 EV Tryz.prog pol (.loop 155 58 0 [.t (.str s), .t (.bool sc), .t (.list 1 (strs parts)), .t (.int .i64 (parts.length : Int)), .t (.int .i64 (pre.length : Int))] []) = some (cond (vE (sc && ((pre.length : Int) == 0)) rest) (.loop (.exit 0) [.t (.str s), .bad] []) (.loop .ret [.t (.str s), .t (.bool false)] []))
 | [], pre, hs => by
  have c : decide ((pre.length : Int) < (parts.length : Int)) = false := by simp [hs]
  refine zi Tryz.func155 rfl rfl ?_
  simp only [↓GO, ↓DRW, GA, GX, ren, zm, za, refs, z8, cst, zq, isC, bin, una, z6, zd, blt, asArg, zf, zc, zg, z1, E.mkS, unN, ze, zn, zb, GS, simprocAttr, c, vE]
 | x :: rest, pre, hs => by
  have c : decide ((pre.length : Int) < (parts.length : Int)) = true := by simp [hs]; omega
  have hget : (strs parts)[pre.length]? = some [.str x] := by rw [hs]; exact wh pre x rest
  have hlen : pre.length + rest.length + 1 ≤ parts.length := by rw [hs]; simp; omega
  have hx : x.length ≤ 4294967296 := hb x (by rw [hs]; simp)
  have IH := cW s sc parts hl hb rest (pre ++ [x]) (by rw [hs]; simp)
  have hc := ak 232 vI Ui x (by omega)
  rw [show ((pre ++ [x]).length : Int) = (pre.length : Int) + 1 by simp] at IH
  have e0 : (((pre.length : Int) + 1 == 0)) = false := by rw [beq_eq_false_iff_ne]; omega
  rw [e0, Bool.and_false] at IH
  clear hs hb
  refine zi Tryz.func155 rfl rfl ?_
  rw [vE]
  have hN : (x == sL) = (x == [110, 111, 100, 101, 95, 109, 111, 100, 117, 108, 101, 115]) := rfl
  rw [hN]
  cases ha : x.all vI <;> rw [ha] at hc <;> cases h1 : (x == []) <;> cases h2 : (x == [110, 111, 100, 101, 95, 109, 111, 100, 117, 108, 101, 115]) <;> cases sc <;> cases h3 : ((pre.length : Int) == 0) <;>
   simp (disch := ((try simp only [LL]); omega)) only [↓GO, ↓DRW, GA, GX, ren, zm, za, refs, z8, cst, zq, isC, bin, una, z6, zd, blt, asArg, zf, zc, zg, z1, E.mkS, unN, ze, zn, zb, GS, simprocAttr, GZ, c, hget, zj, hc, h1, h2, h3, IH, zh]
theorem Uh (s : Str) (hl : s.length ≤ 1048576) : zk (EV Tryz.prog pol) 155 [.t (.str s)] = some (.t (.bool (sa s))) := by
 have h1 := XD s [64] (by omega) (by simp)
 have h2 := aZ s [64] (by omega) (by simp)
 rw [Vk] at h2
 have ht : (yO s).length ≤ s.length := by
  unfold yO; split
  · simp
  · split
    · simp
    · simp
 have hbk := wJ 47 (yO s)
 have h3 := jt (yO s) [47] (by omega) (by simp)
 rw [oH] at h3
 have IH := cW s (o7 s) (yE 47 (yO s)) (by omega) (fun p hp => by have := vD hp; omega) _ [] rfl
 rw [show (([64] : Str).isPrefixOf s) = o7 s from rfl] at h1
 simp only [List.length_nil, Int.natCast_zero, show ((0 : Int) == 0) = true from rfl, Bool.and_true] at IH
 apply zr
 refine zw rfl Tryz.func155 rfl (by kernel_rfl) ?_
 unfold Tryz.f155
 unfold sa
 cases hp : vE (o7 s) (yE 47 (yO s)) <;> rw [hp] at IH <;> simp only [cond_true, cond_false] at IH <;>
  simp (disch := ((try simp only [LL]); omega)) only [↓GO, ↓DRW, GA, GX, ren, zm, za, refs, z8, cst, zq, isC, bin, una, z6, zd, blt, asArg, zf, zc, zg, z1, E.mkS, unN, ze, zn, zb, GS, simprocAttr, GZ, h1, h2, h3, zh, IH]
theorem dK (s : Str) (b : UInt8) (hl : s.length ≤ 4294967296) : ∀ (rest cur pre : Str) (out : List Str) (cap : Option Nat) (m : Nat), s = pre ++ (cur ++ rest) → m = pre.length + cur.length → out.length ≤ m →
 ∃ (out' : List Str) (fr : Nat) (cap' : Option Nat), out'.length ≤ s.length ∧ fr ≤ s.length ∧ out' ++ [s.drop fr] = out ++ (match yE b rest with | p :: r => (cur ++ p) :: r | [] => []) ∧
  EV Tryz.prog pol (.loop 191 122 0 [.t (.str s), .t (.int .u8 (b.toNat : Int)), .sl 0 0 out.length cap, .t (.int .i64 (pre.length : Int)), .t (.int .i64 (m : Int))] [.ts 1 (strs out)]) = some (.loop (.exit 0) [.t (.str s), .sl 0 0 out'.length cap', .t (.int .i64 (fr : Int))] [.ts 1 (strs out')])
 | [], cur, pre, out, cap, m, hs, hm, ho => by
  have c : decide ((m : Int) < (s.length : Int)) = false := by simp [hs]; omega
  have hn : s.length = pre.length + cur.length := by rw [hs]; simp
  refine ⟨out, pre.length, cap, by omega, by omega, ?_, ?_⟩
  · simp only [yE, hs, List.append_nil, List.drop_left]
  · refine zi Tryz.func191 rfl rfl ?_
    simp only [↓GO, ↓DRW, GA, GX, ren, zm, za, refs, z8, cst, zq, isC, bin, una, z6, zd, blt, asArg, zf, zc, zg, z1, E.mkS, unN, ze, zn, zb, GS, simprocAttr, c]
 | x :: rest, cur, pre, out, cap, m, hs, hm, ho => by
  have hn : s.length = pre.length + cur.length + rest.length + 1 := by rw [hs]; simp; omega
  have c : decide ((m : Int) < (s.length : Int)) = true := by simp only [decide_eq_true_eq]; omega
  have hget : s[m]? = some x := by
   rw [hs, hm, ← List.append_assoc, ← List.length_append]; exact th (pre ++ cur) x rest
  by_cases hx : x = b
  · subst hx
    have hcut : (s.drop pre.length).take (m - pre.length) = cur := by
     rw [hs, hm, List.drop_left, show pre.length + cur.length - pre.length = cur.length by omega, List.take_left]
    obtain ⟨out', fr, cap', q1, q2, q3, q4⟩ := dK s x hl rest [] (pre ++ cur ++ [x]) (out ++ [cur]) none (m + 1) (by rw [hs]; simp) (by simp; omega) (by simp; omega)
    refine ⟨out', fr, cap', q1, q2, ?_, ?_⟩
    · rw [q3, vC]
      cases hc : yE x rest with
      | nil => exact absurd hc (sI x rest)
      | cons p r => simp
    · rw [show ((pre ++ cur ++ [x]).length : Int) = (m : Int) + 1 by simp; omega, show ((m + 1 : Nat) : Int) = (m : Int) + 1 by omega] at q4
      rw [q8, vn, yc, List.length_append, List.length_cons, List.length_nil, Nat.zero_add] at q4
      have hol : out.length ≤ 4294967296 := by omega
      clear hs q3
      refine zi Tryz.func191 rfl rfl ?_
      simp (disch := ((try simp only [LL]); omega)) only [↓GO, ↓DRW, GA, GX, ren, zm, za, refs, z8, cst, zq, isC, bin, una, z6, zd, blt, asArg, zf, zc, zg, z1, E.mkS, unN, ze, zn, zb, GS, simprocAttr, GZ, c, hget, zj, hcut, q4, zh, xg]
  · have c2 : ((x.toNat : Int) == (b.toNat : Int)) = false := by
     rw [beq_eq_false_iff_ne]; intro e; exact hx (UInt8.toNat_inj.1 (by omega))
    obtain ⟨out', fr, cap', q1, q2, q3, q4⟩ := dK s b hl rest (cur ++ [x]) pre out cap (m + 1) (by rw [hs]; simp) (by simp; omega) (by omega)
    refine ⟨out', fr, cap', q1, q2, ?_, ?_⟩
    · rw [q3]
      cases hc : yE b rest with
      | nil => exact absurd hc (sI b rest)
      | cons p r => rw [wa b x rest p r hx hc]; simp
    · rw [show ((m + 1 : Nat) : Int) = (m : Int) + 1 by omega] at q4
      clear hs q3
      refine zi Tryz.func191 rfl rfl ?_
      simp (disch := ((try simp only [LL]); omega)) only [↓GO, ↓DRW, GA, GX, ren, zm, za, refs, z8, cst, zq, isC, bin, una, z6, zd, blt, asArg, zf, zc, zg, z1, E.mkS, unN, ze, zn, zb, GS, simprocAttr, GZ, c, hget, zj, c2, q4, zh, xg]
theorem dT (s : Str) (b : UInt8) (hl : s.length ≤ 4194304) : zk (EV Tryz.prog pol) 191 [.t (.str s), .t (.int .u8 (b.toNat : Int))] = some (.t (.list 1 (strs (yE b s)))) := by
 obtain ⟨out, fr, cap, q1, q2, q3, q4⟩ := dK s b (by omega) s [] [] [] (some 0) 0 rfl rfl (by simp)
 simp only [List.nil_append, List.length_nil, Int.natCast_zero, yc] at q4 q3
 have e : (match yE b s with | p :: r => p :: r | [] => []) = yE b s := by cases yE b s <;> rfl
 rw [e] at q3
 have ho : (strs out ++ [[.str (List.drop fr s)]]) = strs (yE b s) := by rw [← q3, q8]; rfl
 have ht : List.take (out.length + 1) (strs (yE b s)) = strs (yE b s) := List.take_of_length_le (by rw [zh, ← q3]; simp)
 apply zr
 refine zw rfl Tryz.func191 rfl (by kernel_rfl) ?_
 unfold Tryz.f191
 simp (disch := ((try simp only [LL]); omega)) only [↓GO, ↓DRW, GA, GX, ren, zm, za, refs, z8, cst, zq, isC, bin, una, z6, zd, blt, asArg, zf, zc, zg, z1, E.mkS, unN, ze, zn, zb, GS, simprocAttr, GZ, q4, zh, xg, ho, ht]
theorem tU (s : Str) (P : T) (i : T) (p : Str) (hl : p.length ≤ 4294967296) : ∀ (rest pre : Str), p = pre ++ rest →
 EV Tryz.prog pol (.loop 158 59706 0 [.t (.str s), .t P, .t i, .t (.str p), .t (.int .i64 (pre.length : Int))] []) = some (cond (rest.all vI) (.loop (.exit 2) [.t (.str s), .bad, .t P, .t i, .t (.str p)] []) (.loop .ret [.t (.str s), .t (.bool false), .t P, .t i, .t (.str p)] []))
 | [], pre, hs => by
  have c : decide ((pre.length : Int) < (p.length : Int)) = false := by simp [hs]
  refine zi Tryz.func158 rfl rfl ?_
  simp only [↓GO, ↓DRW, GA, GX, ren, zm, za, refs, z8, cst, zq, isC, bin, una, z6, zd, blt, asArg, zf, zc, zg, z1, E.mkS, unN, ze, zn, zb, GS, simprocAttr, c]
 | b :: rest, pre, hs => by
  have c : decide ((pre.length : Int) < (p.length : Int)) = true := by simp [hs]; omega
  have hget : p[pre.length]? = some b := by rw [hs]; exact th pre b rest
  have hlen : p.length = pre.length + rest.length + 1 := by rw [hs]; simp; omega
  have IH := tU s P i p hl rest (pre ++ [b]) (by rw [hs]; simp)
  rw [show ((pre ++ [b]).length : Int) = (pre.length : Int) + 1 by simp] at IH
  have hb := pX b
  clear hs
  refine zi Tryz.func158 rfl rfl ?_
  rw [List.all_cons, vI]
  simp only [nb] at *
  cases h1 : (B2 (b.toNat : Int) 97 122 || B2 (b.toNat : Int) 48 57) <;> rw [h1] at hb <;> cases h2 : ((b.toNat : Int) == 46) <;> cases h3 : ((b.toNat : Int) == 95) <;> cases h4 : ((b.toNat : Int) == 45) <;>
   simp (disch := ((try simp only [LL]); omega)) only [↓GO, ↓DRW, GA, GX, ren, zm, za, refs, z8, cst, zq, isC, bin, una, z6, zd, blt, asArg, zf, zc, zg, z1, E.mkS, unN, ze, zn, zb, GS, simprocAttr, GZ, c, hget, zj, hb, h2, h3, h4, bne, IH]
theorem cV (s : Str) (parts : List Str) (hl : parts.length ≤ 4294967296) (hb : ∀ p ∈ parts, p.length ≤ 4294967296) : ∀ (rest pre : List Str), parts = pre ++ rest → pre ≠ [] →
 EV Tryz.prog pol (.loop 158 58 0 [.t (.str s), .t (.list 1 (strs parts)), .t (.int .i64 (pre.length : Int))] []) = some (cond (mA rest) (.loop (.exit 0) [.t (.str s), .bad] []) (.loop .ret [.t (.str s), .t (.bool false)] []))
 | [], pre, hs, _ => by
  have c : decide ((pre.length : Int) < (parts.length : Int)) = false := by simp [hs]
  refine zi Tryz.func158 rfl rfl ?_
  simp only [↓GO, ↓DRW, GA, GX, ren, zm, za, refs, z8, cst, zq, isC, bin, una, z6, zd, blt, asArg, zf, zc, zg, z1, E.mkS, unN, ze, zn, zb, GS, simprocAttr, zh, c, mA]
 | x :: rest, pre, hs, hn => by
  have c : decide ((pre.length : Int) < (parts.length : Int)) = true := by simp [hs]; omega
  have hget : (strs parts)[pre.length]? = some [.str x] := by rw [hs]; exact wh pre x rest
  have hlen : pre.length + rest.length + 1 ≤ parts.length := by rw [hs]; simp; omega
  have hx : x.length ≤ 4294967296 := hb x (by rw [hs]; simp)
  have IH := cV s parts hl hb rest (pre ++ [x]) (by rw [hs]; simp) (by simp)
  have hin := tU s (.list 1 (strs parts)) (.int .i64 (pre.length : Int)) x hx x [] rfl
  simp only [List.length_nil, Int.natCast_zero] at hin
  rw [show ((pre ++ [x]).length : Int) = (pre.length : Int) + 1 by simp] at IH
  have e0 : (((pre.length : Int) == 0)) = false := by
   rw [beq_eq_false_iff_ne]; intro h; apply hn; apply List.eq_nil_of_length_eq_zero; omega
  clear hs hb
  refine zi Tryz.func158 rfl rfl ?_
  rw [mA]
  have hN : (x == sL) = (x == [110, 111, 100, 101, 95, 109, 111, 100, 117, 108, 101, 115]) := rfl
  rw [hN]
  cases ha : x.all vI <;> rw [ha] at hin <;> simp only [cond_true, cond_false] at hin <;> cases h1 : (x == []) <;> cases h2 : (x == [110, 111, 100, 101, 95, 109, 111, 100, 117, 108, 101, 115]) <;>
   simp (disch := ((try simp only [LL]); omega)) only [↓GO, ↓DRW, GA, GX, ren, zm, za, refs, z8, cst, zq, isC, bin, una, z6, zd, blt, asArg, zf, zc, zg, z1, E.mkS, unN, ze, zn, zb, GS, simprocAttr, GZ, c, hget, zj, hin, h1, h2, e0, IH, zh]
theorem VP (s : Str) (parts : List Str) (hl : parts.length ≤ 4294967296) (hb : ∀ p ∈ parts, p.length ≤ 4294967296) (x : Str) (rest : List Str) (hs : parts = x :: rest) :
 EV Tryz.prog pol (.loop 158 58 0 [.t (.str s), .t (.list 1 (strs parts)), .t (.int .i64 0)] []) = some (cond (rQ (x :: rest)) (.loop (.exit 0) [.t (.str s), .bad] []) (.loop .ret [.t (.str s), .t (.bool false)] [])) := by
 have c : decide ((0 : Int) < (parts.length : Int)) = true := by simp only [decide_eq_true_eq, hs, List.length_cons]; omega
 have hget : (strs parts)[0]? = some [.str x] := by rw [hs]; rfl
 have hx : x.length ≤ 4294967296 := hb x (by rw [hs]; simp)
 have IH := cV s parts hl hb rest [x] hs (by simp)
 simp only [List.length_nil, List.length_cons, Nat.zero_add, Int.natCast_one] at IH
 have hN : (x == sL) = (x == [110, 111, 100, 101, 95, 109, 111, 100, 117, 108, 101, 115]) := rfl
 rw [rQ, hN]
 clear hs hb hN
 cases x with
 | nil =>
  have hin := tU s (.list 1 (strs parts)) (.int .i64 0) [] hx [] [] rfl
  simp only [List.length_nil, Int.natCast_zero, List.all_nil, cond_true] at hin
  have h2 : (([] : Str) == [110, 111, 100, 101, 95, 109, 111, 100, 117, 108, 101, 115]) = false := rfl
  have h3 : (([] : Str) == []) = true := rfl
  have h4 : yO [] = [] := rfl
  refine zi Tryz.func158 rfl rfl ?_
  simp (disch := ((try simp only [LL]); omega)) only [↓GO, ↓DRW, GA, GX, ren, zm, za, refs, z8, cst, zq, isC, bin, una, z6, zd, blt, asArg, zf, zc, zg, z1, E.mkS, unN, ze, zn, zb, GS, simprocAttr, GZ, c, hget, zj, hin, zh, h2, h3, h4, Int.natCast_zero]
 | cons y t =>
  have hlt : decide (((y :: t).length : Int) > 0) = true := by simp only [decide_eq_true_eq, List.length_cons]; omega
  have hg0 : (y :: t)[0]? = some y := rfl
  have hyl : 1 ≤ (y :: t).length := by simp
  by_cases h64 : y = 64
  · subst h64
    have hin2 := tU s (.list 1 (strs parts)) (.int .i64 0) t (by simp only [List.length_cons] at hx; omega) t [] rfl
    simp only [List.length_nil, Int.natCast_zero] at hin2
    have e1 : (((64 : UInt8) :: t) == [110, 111, 100, 101, 95, 109, 111, 100, 117, 108, 101, 115]) = false := by simp
    have e2 : yO (64 :: t) = t := by simp [yO]
    have e3 : (((64 : UInt8)).toNat : Int) = 64 := rfl
    have hd : List.drop 1 ((64 : UInt8) :: t) = t := rfl
    rw [e2]
    generalize hy : (64 : UInt8) :: t = yy at *
    cases ha : t.all vI <;> rw [ha] at hin2 <;> simp only [cond_true, cond_false] at hin2 <;> cases h1 : (t == []) <;>
     refine zi Tryz.func158 rfl rfl ?_ <;> simp (disch := ((try simp only [LL]); omega)) only [↓GO, ↓DRW, GA, GX, ren, zm, za, refs, z8, cst, zq, isC, bin, una, z6, zd, blt, asArg, zf, zc, zg, z1, E.mkS, unN, ze, zn, zb, GS, simprocAttr, GZ, c, hget, zj, hin2, zh, e1, e3, hlt, hg0, hd, h1, IH, Int.zero_add]
  · have e2 : yO (y :: t) = y :: t := by simp [yO, h64]
    have e3 : ((y.toNat : Int) == 64) = false := by
     rw [beq_eq_false_iff_ne]; intro h; exact h64 (UInt8.toNat_inj.1 (by rw [show (64 : UInt8).toNat = 64 from rfl]; omega))
    have hin := tU s (.list 1 (strs parts)) (.int .i64 0) (y :: t) hx (y :: t) [] rfl
    simp only [List.length_nil, Int.natCast_zero] at hin
    rw [e2]
    have h1 : ((y :: t) == []) = false := rfl
    generalize hy : y :: t = yy at *
    cases ha : yy.all vI <;> rw [ha] at hin <;> simp only [cond_true, cond_false] at hin <;> cases h2 : (yy == [110, 111, 100, 101, 95, 109, 111, 100, 117, 108, 101, 115]) <;>
     refine zi Tryz.func158 rfl rfl ?_ <;> simp (disch := ((try simp only [LL]); omega)) only [↓GO, ↓DRW, GA, GX, ren, zm, za, refs, z8, cst, zq, isC, bin, una, z6, zd, blt, asArg, zf, zc, zg, z1, E.mkS, unN, ze, zn, zb, GS, simprocAttr, GZ, c, hget, zj, hin, zh, e3, hlt, hg0, h1, h2, IH, Int.zero_add]
theorem Ug (s : Str) (hl : s.length ≤ 1048576) : zk (EV Tryz.prog pol) 158 [.t (.str s)] = some (.t (.bool (sa s))) := by
 have hbk := wJ 47 s
 have h3 := dT s 47 (by omega)
 rw [show (((47 : UInt8)).toNat : Int) = 47 from rfl] at h3
 rw [← aJ]
 cases hc : yE 47 s with
 | nil => exact absurd hc (sI 47 s)
 | cons x rest =>
  rw [hc] at h3 hbk
  have hb : ∀ p ∈ x :: rest, p.length ≤ 4294967296 := fun p hp => by have := vD hp; omega
  have LP := VP s (x :: rest) (by omega) hb x rest rfl
  generalize x :: rest = parts at *
  apply zr
  refine zw rfl Tryz.func158 rfl (by kernel_rfl) ?_
  unfold Tryz.f158
  cases hp : rQ parts <;> rw [hp] at LP <;> simp only [cond_true, cond_false] at LP <;>
   simp (disch := ((try simp only [LL]); omega)) only [↓GO, ↓DRW, GA, GX, ren, zm, za, refs, z8, cst, zq, isC, bin, una, z6, zd, blt, asArg, zf, zc, zg, z1, E.mkS, unN, ze, zn, zb, GS, simprocAttr, GZ, h3, LP]
theorem Xw (b : UInt8) : zk (EV Tryz.prog pol) 235 [.t (.int .u8 (b.toNat : Int))] = some (.t (.bool (rP b))) := by
 apply zr
 refine zw rfl Tryz.func235 rfl (by kernel_rfl) ?_
 unfold Tryz.f235
 unfold rP B2
 simp only [nb]
 cases h1 : decide ((33 : Int) ≤ (b.toNat : Int)) <;> cases h2 : decide ((b.toNat : Int) ≤ 126) <;> cases h3 : ((b.toNat : Int) == 34) <;> cases h4 : ((b.toNat : Int) == 39) <;> cases h5 : ((b.toNat : Int) == 44) <;>
  simp (disch := ((try simp only [LL]); omega)) only [↓GO, ↓DRW, GA, GX, ren, zm, za, refs, z8, cst, zq, isC, bin, una, z6, zd, blt, asArg, zf, zc, zg, z1, E.mkS, unN, ze, zn, zb, GS, simprocAttr, GZ, h1, h2, h3, h4, h5, bne, ge_iff_le]
theorem Xv (s : Str) (hl : s.length ≤ 1048576) : zk (EV Tryz.prog pol) 156 [.t (.str s)] = some (.t (.bool (uV s))) := by
 have h := ak 235 rP Xw s (by omega)
 apply zr
 refine zw rfl Tryz.func156 rfl (by kernel_rfl) ?_
 unfold Tryz.f156
 unfold uV
 cases h1 : decide ((s.length : Int) ≤ 100) <;> simp (disch := ((try simp only [LL]); omega)) only [↓GO, ↓DRW, GA, GX, ren, zm, za, refs, z8, cst, zq, isC, bin, una, z6, zd, blt, asArg, zf, zc, zg, z1, E.mkS, unN, ze, zn, zb, GS, simprocAttr, GZ, h, h1]
theorem gL (s : Str) (hl : s.length ≤ 1048576) : ∀ (rest pre : Str), s = pre ++ rest →
 EV Tryz.prog pol (.loop 159 26 0 [.t (.str s), .t (.int .i64 (pre.length : Int))] []) = some (cond (rest.all rP) (.loop (.exit 0) [.t (.str s), .bad] []) (.loop .ret [.t (.str s), .t (.bool false)] []))
 | [], pre, hs => by
  have c : decide ((pre.length : Int) < (s.length : Int)) = false := by simp [hs]
  refine zi Tryz.func159 rfl rfl ?_
  simp only [↓GO, ↓DRW, GA, GX, ren, zm, za, refs, z8, cst, zq, isC, bin, una, z6, zd, blt, asArg, zf, zc, zg, z1, E.mkS, unN, ze, zn, zb, GS, simprocAttr, c]
 | b :: rest, pre, hs => by
  have c : decide ((pre.length : Int) < (s.length : Int)) = true := by simp [hs]; omega
  have hget : s[pre.length]? = some b := by rw [hs]; exact th pre b rest
  have hlen : s.length = pre.length + rest.length + 1 := by rw [hs]; simp; omega
  have IH := gL s hl rest (pre ++ [b]) (by rw [hs]; simp)
  rw [show ((pre ++ [b]).length : Int) = (pre.length : Int) + 1 by simp] at IH
  have hb := w6 (b.toNat : Int) 33 126
  clear hs
  refine zi Tryz.func159 rfl rfl ?_
  rw [List.all_cons, rP]
  simp only [nb]
  cases h1 : B2 (b.toNat : Int) 33 126 <;> rw [h1] at hb <;> cases h3 : ((b.toNat : Int) == 34) <;> cases h4 : ((b.toNat : Int) == 39) <;> cases h5 : ((b.toNat : Int) == 44) <;> cases h6 : ((b.toNat : Int) == 92) <;>
   simp (disch := ((try simp only [LL]); omega)) only [↓GO, ↓DRW, GA, GX, ren, zm, za, refs, z8, cst, zq, isC, bin, una, z6, zd, blt, asArg, zf, zc, zg, z1, E.mkS, unN, ze, zn, zb, GS, simprocAttr, GZ, c, hget, zj, conv, wrap_u8, hb, h3, h4, h5, h6, bne, IH]
theorem Xu (s : Str) (hl : s.length ≤ 1048576) : zk (EV Tryz.prog pol) 159 [.t (.str s)] = some (.t (.bool (uV s))) := by
 have IH := gL s hl s [] rfl
 simp only [List.length_nil, Int.natCast_zero] at IH
 apply zr
 refine zw rfl Tryz.func159 rfl (by kernel_rfl) ?_
 unfold Tryz.f159
 unfold uV
 cases ha : s.all rP <;> rw [ha] at IH <;> simp only [cond_true, cond_false] at IH
 · simp (disch := ((try simp only [LL]); omega)) only [↓GO, ↓DRW, GA, GX, ren, zm, za, refs, z8, cst, zq, isC, bin, una, z6, zd, blt, asArg, zf, zc, zg, z1, E.mkS, unN, ze, zn, zb, GS, simprocAttr, GZ, IH]
 · cases h1 : decide ((s.length : Int) ≤ 100) with
   | false => simp (disch := ((try simp only [LL]); omega)) only [↓GO, ↓DRW, GA, GX, ren, zm, za, refs, z8, cst, zq, isC, bin, una, z6, zd, blt, asArg, zf, zc, zg, z1, E.mkS, unN, ze, zn, zb, GS, simprocAttr, GZ, IH, h1]
   | true =>
    have h2 := of_decide_eq_true h1
    have h3 : decide ((s.length : Int) < 20000) = true := by simp only [decide_eq_true_eq]; omega
    simp (disch := ((try simp only [LL]); omega)) only [↓GO, ↓DRW, GA, GX, ren, zm, za, refs, z8, cst, zq, isC, bin, una, z6, zd, blt, asArg, zf, zc, zg, z1, E.mkS, unN, ze, zn, zb, GS, simprocAttr, GZ, IH, h1, h3]
end Go.Proofs.YtijninlbpifonaaGreatDoor
/- Versions, by both. Conditions: those of each lemma. -/
namespace Go.Proofs.YtijninlbpifonaaGreatDoor
open E
set_option linter.unusedSimpArgs false
set_option linter.unusedVariables false
set_option maxRecDepth 100000
theorem UQ (n : Int) : B2 n 0 999999999 = n9 n := rfl
/-- a version of bounded size -/
def Ver.sm (v : Ver) : Prop := v.pre.length + yh v.pre ≤ 2097152
theorem oy {α : Type} [BEq α] (l : List α) : ((l.length : Int) == 0) = (l == []) := by
 cases l with
 | nil => rfl
 | cons x l =>
  have h1 : ((x :: l) == []) = false := rfl
  have h2 : (((x :: l).length : Int) == 0) = false := by rw [beq_eq_false_iff_ne]; simp only [List.length_cons]; omega
  rw [h1, h2]
theorem dN {α : Type} [BEq α] (l : List α) : decide ((l.length : Int) > 0) = !(l == []) := by
 cases l with
 | nil => rfl
 | cons x l =>
  have h1 : ((x :: l) == []) = false := rfl
  have h2 : decide (((x :: l).length : Int) > 0) = true := by simp only [decide_eq_true_eq, List.length_cons]; omega
  rw [h1, h2]; rfl
theorem WO (b : UInt8) : B2 (b.toNat : Int) 48 57 = isD b := dM b
theorem eL (a : Int) : zk (EV Tryz.prog pol) 301 [.t (.int .u8 a)] = some (.t (.bool (B2 a 97 122 || B2 a 65 90))) := by
 have h1 := kt a
 apply zr
 refine zw rfl Tryz.func301 rfl (by kernel_rfl) ?_
 unfold Tryz.f301
 cases h2 : B2 a 97 122 <;> rw [h2] at h1
 · unfold B2
   cases h3 : decide ((65 : Int) ≤ a) <;> simp (disch := ((try simp only [LL]); omega)) only [↓GO, ↓DRW, GA, GX, ren, zm, za, refs, z8, cst, zq, isC, bin, una, z6, zd, blt, asArg, zf, zc, zg, z1, E.mkS, unN, ze, zn, zb, GS, simprocAttr, GZ, h1, h3, ge_iff_le]
 · simp (disch := ((try simp only [LL]); omega)) only [↓GO, ↓DRW, GA, GX, ren, zm, za, refs, z8, cst, zq, isC, bin, una, z6, zd, blt, asArg, zf, zc, zg, z1, E.mkS, unN, ze, zn, zb, GS, simprocAttr, GZ, h1]
theorem TB (b : UInt8) : zk (EV Tryz.prog pol) 300 [.t (.int .u8 (b.toNat : Int))] = some (.t (.bool (preB b))) := by
 have h1 := eL (b.toNat : Int)
 have h2 := qW (b.toNat : Int)
 apply zr
 refine zw rfl Tryz.func300 rfl (by kernel_rfl) ?_
 unfold Tryz.f300
 unfold preB
 simp only [nb]
 cases h3 : B2 (b.toNat : Int) 97 122 <;> cases h4 : B2 (b.toNat : Int) 65 90 <;> cases h5 : B2 (b.toNat : Int) 48 57 <;> rw [h3, h4] at h1 <;> rw [h5] at h2 <;>
  simp (disch := ((try simp only [LL]); omega)) only [↓GO, ↓DRW, GA, GX, ren, zm, za, refs, z8, cst, zq, isC, bin, una, z6, zd, blt, asArg, zf, zc, zg, z1, E.mkS, unN, ze, zn, zb, GS, simprocAttr, GZ, h1, h2]
theorem Uk (b : UInt8) : zk (EV Tryz.prog pol) 234 [.t (.int .u8 (b.toNat : Int))] = some (.t (.bool (isD b))) := by
 rw [qW, WO]
theorem Uj (s : Str) (hl : s.length ≤ 9223372036854775807) : zk (EV Tryz.prog pol) 246 [.t (.str s)] = some (.t (.bool (isNum s))) := by
 have h := ak 234 isD Uk s hl
 apply zr
 refine zw rfl Tryz.func246 rfl (by kernel_rfl) ?_
 unfold Tryz.f246
 unfold isNum
 cases h1 : (s == []) <;> simp (disch := ((try simp only [LL]); omega)) only [↓GO, ↓DRW, GA, GX, ren, zm, za, refs, z8, cst, zq, isC, bin, una, z6, zd, blt, asArg, zf, zc, zg, z1, E.mkS, unN, ze, zn, zb, GS, simprocAttr, GZ, h, h1, bne]
theorem VO (x1 x2 x3 x4 : T) (a b c : Int) :
 EV Tryz.prog pol (.loop 244 26 0 [.ptr 0 0 0, .sl 1 0 3 (some 3), .t (.int .i64 3), .t (.int .i64 0)] [.vs 4 [[.t x1, .t x2, .t x3, .t x4]], .ts 1 [[.int .i64 a], [.int .i64 b], [.int .i64 c]]])
 = some (cond (n9 a && (n9 b && n9 c)) (.loop (.exit 0) [.ptr 0 0 0, .bad] [.vs 4 [[.t x1, .t x2, .t x3, .t x4]]]) (.loop .ret [.ptr 0 0 0, .t (.bool false)] [.vs 4 [[.t x1, .t x2, .t x3, .t x4]]])) := by
 have ha := tZ a 0 999999999
 have hb := tZ b 0 999999999
 have hc := tZ c 0 999999999
 rw [UQ] at ha hb hc
 cases h1 : n9 a <;> rw [h1] at ha
 · refine zi Tryz.func244 rfl rfl ?_
   simp (disch := ((try simp only [LL]); omega)) only [↓GO, ↓DRW, GA, GX, ren, zm, za, refs, z8, cst, zq, isC, bin, una, z6, zd, blt, asArg, zf, zc, zg, z1, E.mkS, unN, ze, zn, zb, GS, simprocAttr, GZ, ha, zj, zL, Int.cast_ofNat_Int]
 · refine zi Tryz.func244 rfl rfl ?_
   simp (disch := ((try simp only [LL]); omega)) only [↓GO, ↓DRW, GA, GX, ren, zm, za, refs, z8, cst, zq, isC, bin, una, z6, zd, blt, asArg, zf, zc, zg, z1, E.mkS, unN, ze, zn, zb, GS, simprocAttr, GZ, ha, zj, zL, Int.cast_ofNat_Int]
   cases h2 : n9 b <;> rw [h2] at hb
   · refine zi Tryz.func244 rfl rfl ?_
     simp (disch := ((try simp only [LL]); omega)) only [↓GO, ↓DRW, GA, GX, ren, zm, za, refs, z8, cst, zq, isC, bin, una, z6, zd, blt, asArg, zf, zc, zg, z1, E.mkS, unN, ze, zn, zb, GS, simprocAttr, GZ, hb, zj, Int.zero_add, zL, Int.cast_ofNat_Int, Int.reduceAdd]
   · refine zi Tryz.func244 rfl rfl ?_
     simp (disch := ((try simp only [LL]); omega)) only [↓GO, ↓DRW, GA, GX, ren, zm, za, refs, z8, cst, zq, isC, bin, una, z6, zd, blt, asArg, zf, zc, zg, z1, E.mkS, unN, ze, zn, zb, GS, simprocAttr, GZ, hb, zj, Int.zero_add, zL, Int.cast_ofNat_Int, Int.reduceAdd]
     cases h3 : n9 c <;> rw [h3] at hc
     · refine zi Tryz.func244 rfl rfl ?_
       simp (disch := ((try simp only [LL]); omega)) only [↓GO, ↓DRW, GA, GX, ren, zm, za, refs, z8, cst, zq, isC, bin, una, z6, zd, blt, asArg, zf, zc, zg, z1, E.mkS, unN, ze, zn, zb, GS, simprocAttr, GZ, hc, zj, Int.zero_add, zL, Int.cast_ofNat_Int, Int.reduceAdd]
     · refine zi Tryz.func244 rfl rfl ?_
       simp (disch := ((try simp only [LL]); omega)) only [↓GO, ↓DRW, GA, GX, ren, zm, za, refs, z8, cst, zq, isC, bin, una, z6, zd, blt, asArg, zf, zc, zg, z1, E.mkS, unN, ze, zn, zb, GS, simprocAttr, GZ, hc, zj, Int.zero_add, zL, Int.cast_ofNat_Int, Int.reduceAdd]
       refine zi Tryz.func244 rfl rfl ?_
       simp (disch := ((try simp only [LL]); omega)) only [↓GO, ↓DRW, GA, GX, ren, zm, za, refs, z8, cst, zq, isC, bin, una, z6, zd, blt, asArg, zf, zc, zg, z1, E.mkS, unN, ze, zn, zb, GS, simprocAttr, GZ, zj, Int.zero_add, zL, Int.cast_ofNat_Int, Int.reduceAdd]
theorem cS (v : Ver) (hs : v.sm) : ∀ (rest pre : List Str), v.pre = pre ++ rest →
 EV Tryz.prog pol (.loop 244 58 0 [.ptr 0 0 0, .t (.list 1 (strs v.pre)), .t (.int .i64 (v.pre.length : Int)), .t (.int .i64 (pre.length : Int))] [.vs 4 [v.enc.map .t]])
 = some (cond (rest.all tm) (.loop (.exit 2) [.ptr 0 0 0, .bad] [.vs 4 [v.enc.map .t]]) (.loop .ret [.ptr 0 0 0, .t (.bool false)] [.vs 4 [v.enc.map .t]]))
 | [], pre, hp => by
  have c : decide ((pre.length : Int) < (v.pre.length : Int)) = false := by simp [hp]
  refine zi Tryz.func244 rfl rfl ?_
  simp only [↓GO, ↓DRW, GA, GX, ren, zm, za, refs, z8, cst, zq, isC, bin, una, z6, zd, blt, asArg, zf, zc, zg, z1, E.mkS, unN, ze, zn, zb, GS, simprocAttr, c, Ver.enc]
 | x :: rest, pre, hp => by
  unfold Ver.sm at hs
  have c : decide ((pre.length : Int) < (v.pre.length : Int)) = true := by simp [hp]; omega
  have hget : (strs v.pre)[pre.length]? = some [.str x] := by rw [hp]; exact wh pre x rest
  have hlen : pre.length + rest.length + 1 ≤ v.pre.length := by rw [hp]; simp; omega
  have hx : x.length ≤ 2097152 := by have := vD (ks := v.pre) (s := x) (by rw [hp]; simp); omega
  have IH := cS v hs rest (pre ++ [x]) (by rw [hp]; simp)
  rw [show ((pre ++ [x]).length : Int) = (pre.length : Int) + 1 by simp] at IH
  have h1 := tZ (x.length : Int) 1 20
  have h2 := ak 300 preB TB x (by omega)
  have h3 := Uj x (by omega)
  have h4 := ai x (by omega)
  clear hp
  simp only [Ver.enc, List.map_cons, List.map_nil] at IH ⊢
  rw [List.all_cons, tm]
  have e4 : decide (zJ x < 0) = !decide (0 ≤ zJ x) := by
   rcases Int.lt_or_le (zJ x) 0 with h | h
   · have a : ¬ (0 ≤ zJ x) := by omega
     simp [h, a]
   · have a : ¬ (zJ x < 0) := by omega
     simp [h, a]
  generalize B2 (x.length : Int) 1 20 = b1 at *
  generalize x.all preB = b2 at *
  generalize isNum x = b3 at *
  generalize zJ x = rd at *
  generalize decide (0 ≤ rd) = b4 at *
  cases b1 <;> cases b2 <;> cases b3 <;> cases b4 <;> refine zi Tryz.func244 rfl rfl ?_ <;>
   simp (disch := ((try simp only [LL]); omega)) only [↓GO, ↓DRW, GA, GX, ren, zm, za, refs, z8, cst, zq, isC, bin, una, z6, zd, blt, asArg, zf, zc, zg, z1, E.mkS, unN, ze, zn, zb, GS, simprocAttr, GZ, c, hget, zj, h1, h2, h3, h4, e4, zh, IH, zL]
theorem Ty (v : Ver) (hs : v.sm) : zk (EV Tryz.prog pol) 244 [.agg (v.enc.map .t)] = some (.t (.bool (yG v))) := by
 have h1 := VO (.int .i64 v.maj) (.int .i64 v.min) (.int .i64 v.pat) (.list 1 (strs v.pre)) v.maj v.min v.pat
 have h2 := cS v hs v.pre [] rfl
 unfold Ver.sm at hs
 simp only [List.length_nil, Int.natCast_zero] at h2
 simp only [Ver.enc, List.map_cons, List.map_nil] at h1 h2 ⊢
 unfold yG
 generalize (n9 v.maj && (n9 v.min && n9 v.pat)) = b1 at *
 generalize v.pre.all tm = b2 at *
 apply zr
 refine zw rfl Tryz.func244 rfl (by kernel_rfl) ?_
 unfold Tryz.f244
 cases b1 <;> cases b2 <;> simp only [cond_true, cond_false] at h1 h2 <;>
  simp (disch := ((try simp only [LL]); omega)) only [↓GO, ↓DRW, GA, GX, ren, zm, za, refs, z8, cst, zq, isC, bin, una, z6, zd, blt, asArg, zf, zc, zg, z1, E.mkS, unN, ze, zn, zb, GS, simprocAttr, GZ, h1, h2, zh, zL, Int.cast_ofNat_Int]
theorem Ul (b : UInt8) : zk (EV Tryz.prog pol) 352 [.t (.int .u8 (b.toNat : Int))] = some (.t (.bool (B2 (b.toNat : Int) 65 90))) := by
 have h := w6 (b.toNat : Int) 65 90
 apply zr
 refine zw rfl Tryz.func352 rfl (by kernel_rfl) ?_
 unfold Tryz.f352
 simp (disch := ((try simp only [LL]); omega)) only [↓GO, ↓DRW, GA, GX, ren, zm, za, refs, z8, cst, zq, isC, bin, una, z6, zd, blt, asArg, zf, zc, zg, z1, E.mkS, unN, ze, zn, zb, GS, simprocAttr, GZ, h, conv, wrap_u8]
theorem WJ (s : Str) (hl : s.length ≤ 2097152) : ∀ (rest pre : Str), s = pre ++ rest →
 EV Tryz.prog pol (.loop 353 26 0 [.t (.str s), .t (.int .i64 (pre.length : Int))] []) = some (cond (rest.all isD) (.loop (.exit 0) [.t (.str s), .bad] []) (.loop .ret [.t (.str s), .t (.bool false)] []))
 | [], pre, hs => by
  have c : decide ((pre.length : Int) < (s.length : Int)) = false := by simp [hs]
  refine zi Tryz.func353 rfl rfl ?_
  simp only [↓GO, ↓DRW, GA, GX, ren, zm, za, refs, z8, cst, zq, isC, bin, una, z6, zd, blt, asArg, zf, zc, zg, z1, E.mkS, unN, ze, zn, zb, GS, simprocAttr, c]
 | b :: rest, pre, hs => by
  have c : decide ((pre.length : Int) < (s.length : Int)) = true := by simp [hs]; omega
  have hget : s[pre.length]? = some b := by rw [hs]; exact th pre b rest
  have hlen : s.length = pre.length + rest.length + 1 := by rw [hs]; simp; omega
  have IH := WJ s hl rest (pre ++ [b]) (by rw [hs]; simp)
  rw [show ((pre ++ [b]).length : Int) = (pre.length : Int) + 1 by simp] at IH
  have hb := w6 (b.toNat : Int) 48 57
  rw [WO] at hb
  clear hs
  refine zi Tryz.func353 rfl rfl ?_
  cases h1 : isD b <;> rw [h1] at hb <;>
   simp (disch := ((try simp only [LL]); omega)) only [↓GO, ↓DRW, GA, GX, ren, zm, za, refs, z8, cst, zq, isC, bin, una, z6, zd, blt, asArg, zf, zc, zg, z1, E.mkS, unN, ze, zn, zb, GS, simprocAttr, GZ, c, hget, zj, conv, wrap_u8, hb, h1, IH]
theorem TH (s : Str) (hl : s.length ≤ 2097152) : zk (EV Tryz.prog pol) 353 [.t (.str s)] = some (.t (.bool (isNum s))) := by
 have IH := WJ s hl s [] rfl
 simp only [List.length_nil, Int.natCast_zero] at IH
 apply zr
 refine zw rfl Tryz.func353 rfl (by kernel_rfl) ?_
 unfold Tryz.f353
 unfold isNum
 cases h1 : s.all isD <;> rw [h1] at IH <;> simp only [cond_true, cond_false] at IH <;>
  simp (disch := ((try simp only [LL]); omega)) only [↓GO, ↓DRW, GA, GX, ren, zm, za, refs, z8, cst, zq, isC, bin, una, z6, zd, blt, asArg, zf, zc, zg, z1, E.mkS, unN, ze, zn, zb, GS, simprocAttr, GZ, IH, bne]
theorem WE (s : Str) (hl : s.length ≤ 2097152) : ∀ (rest pre : Str), s = pre ++ rest →
 EV Tryz.prog pol (.loop 311 26 0 [.t (.str s), .t (.int .i64 (pre.length : Int))] []) = some (cond (rest.all preB) (.loop (.exit 0) [.t (.str s), .bad] []) (.loop .ret [.t (.str s), .t (.bool false)] []))
 | [], pre, hs => by
  have c : decide ((pre.length : Int) < (s.length : Int)) = false := by simp [hs]
  refine zi Tryz.func311 rfl rfl ?_
  simp only [↓GO, ↓DRW, GA, GX, ren, zm, za, refs, z8, cst, zq, isC, bin, una, z6, zd, blt, asArg, zf, zc, zg, z1, E.mkS, unN, ze, zn, zb, GS, simprocAttr, c]
 | b :: rest, pre, hs => by
  have c : decide ((pre.length : Int) < (s.length : Int)) = true := by simp [hs]; omega
  have hget : s[pre.length]? = some b := by rw [hs]; exact th pre b rest
  have hlen : s.length = pre.length + rest.length + 1 := by rw [hs]; simp; omega
  have IH := WE s hl rest (pre ++ [b]) (by rw [hs]; simp)
  rw [show ((pre ++ [b]).length : Int) = (pre.length : Int) + 1 by simp] at IH
  have hb := pX b
  have hg := Ul b
  clear hs
  refine zi Tryz.func311 rfl rfl ?_
  rw [List.all_cons, preB]
  simp only [nb] at *
  cases h1 : (B2 (b.toNat : Int) 97 122 || B2 (b.toNat : Int) 48 57) <;> rw [h1] at hb <;> cases h2 : B2 (b.toNat : Int) 65 90 <;> rw [h2] at hg <;> cases h3 : ((b.toNat : Int) == 45) <;>
   simp (disch := ((try simp only [LL]); omega)) only [↓GO, ↓DRW, GA, GX, ren, zm, za, refs, z8, cst, zq, isC, bin, una, z6, zd, blt, asArg, zf, zc, zg, z1, E.mkS, unN, ze, zn, zb, GS, simprocAttr, GZ, c, hget, zj, hb, hg, h3, bne, IH]
theorem TA (s : Str) (hl : s.length ≤ 2097152) : zk (EV Tryz.prog pol) 311 [.t (.str s)] = some (.t (.bool (tm s))) := by
 have IH := WE s hl s [] rfl
 simp only [List.length_nil, Int.natCast_zero] at IH
 have h1 := w6 (s.length : Int) 1 20
 have h3 := TH s hl
 have h4 := j4 s (by omega)
 apply zr
 refine zw rfl Tryz.func311 rfl (by kernel_rfl) ?_
 unfold Tryz.f311
 unfold tm
 generalize B2 (s.length : Int) 1 20 = b1 at *
 generalize isNum s = b3 at *
 generalize zJ s = rd at *
 cases ha : s.all preB <;> rw [ha] at IH <;> simp only [cond_true, cond_false] at IH <;> cases b1 <;> cases b3 <;>
  simp (disch := ((try simp only [LL]); omega)) only [↓GO, ↓DRW, GA, GX, ren, zm, za, refs, z8, cst, zq, isC, bin, una, z6, zd, blt, asArg, zf, zc, zg, z1, E.mkS, unN, ze, zn, zb, GS, simprocAttr, GZ, IH, h1, h3, h4, ge_iff_le]
theorem WC (v : Ver) (hs : v.sm) : ∀ (rest pre : List Str), v.pre = pre ++ rest →
 EV Tryz.prog pol (.loop 257 26 0 [.ptr 0 0 0, .t (.int .i64 (pre.length : Int))] [.vs 4 [v.enc.map .t]])
 = some (cond (rest.all tm) (.loop (.exit 0) [.ptr 0 0 0, .bad] [.vs 4 [v.enc.map .t]]) (.loop .ret [.ptr 0 0 0, .t (.bool false)] [.vs 4 [v.enc.map .t]]))
 | [], pre, hp => by
  have c : decide ((pre.length : Int) < (v.pre.length : Int)) = false := by simp [hp]
  refine zi Tryz.func257 rfl rfl ?_
  simp only [↓GO, ↓DRW, GA, GX, ren, zm, za, refs, z8, cst, zq, isC, bin, una, z6, zd, blt, asArg, zf, zc, zg, z1, E.mkS, unN, ze, zn, zb, GS, simprocAttr, zh, c, Ver.enc]
 | x :: rest, pre, hp => by
  unfold Ver.sm at hs
  have c : decide ((pre.length : Int) < (v.pre.length : Int)) = true := by simp [hp]; omega
  have hget : (strs v.pre)[pre.length]? = some [.str x] := by rw [hp]; exact wh pre x rest
  have hlen : pre.length + rest.length + 1 ≤ v.pre.length := by rw [hp]; simp; omega
  have hx : x.length ≤ 2097152 := by have := vD (ks := v.pre) (s := x) (by rw [hp]; simp); omega
  have IH := WC v hs rest (pre ++ [x]) (by rw [hp]; simp)
  rw [show ((pre ++ [x]).length : Int) = (pre.length : Int) + 1 by simp] at IH
  have h1 := TA x hx
  clear hp
  simp only [Ver.enc, List.map_cons, List.map_nil] at IH ⊢
  cases h2 : tm x <;> rw [h2] at h1 <;> refine zi Tryz.func257 rfl rfl ?_ <;>
   simp (disch := ((try simp only [LL]); omega)) only [↓GO, ↓DRW, GA, GX, ren, zm, za, refs, z8, cst, zq, isC, bin, una, z6, zd, blt, asArg, zf, zc, zg, z1, E.mkS, unN, ze, zn, zb, GS, simprocAttr, GZ, c, hget, zj, h1, h2, zh, IH, zL]
theorem dS (v : Ver) (hs : v.sm) : zk (EV Tryz.prog pol) 257 [.agg (v.enc.map .t)] = some (.t (.bool (yG v))) := by
 have h2 := WC v hs v.pre [] rfl
 have ha := w6 v.maj 0 999999999
 have hb := w6 v.min 0 999999999
 have hc := w6 v.pat 0 999999999
 rw [UQ] at ha hb hc
 unfold Ver.sm at hs
 simp only [List.length_nil, Int.natCast_zero] at h2
 simp only [Ver.enc, List.map_cons, List.map_nil] at h2 ⊢
 unfold yG
 generalize n9 v.maj = b1 at *
 generalize n9 v.min = b3 at *
 generalize n9 v.pat = b4 at *
 generalize v.pre.all tm = b2 at *
 apply zr
 refine zw rfl Tryz.func257 rfl (by kernel_rfl) ?_
 unfold Tryz.f257
 cases b2 <;> simp only [cond_true, cond_false] at h2 <;> cases b1 <;> cases b3 <;> cases b4 <;>
  simp (disch := ((try simp only [LL]); omega)) only [↓GO, ↓DRW, GA, GX, ren, zm, za, refs, z8, cst, zq, isC, bin, una, z6, zd, blt, asArg, zf, zc, zg, z1, E.mkS, unN, ze, zn, zb, GS, simprocAttr, GZ, h2, ha, hb, hc, zh, zL]
end Go.Proofs.YtijninlbpifonaaGreatDoor
/- The text of a version, and back, by both. Conditions: those of each lemma. -/
namespace Go.Proofs.YtijninlbpifonaaGreatDoor
open E
set_option linter.unusedSimpArgs false
set_option linter.unusedVariables false
set_option maxRecDepth 100000
theorem eh (c : Str) (x : Str) : ∀ pre : List Str, wA c (pre ++ [x]) = cond (pre == []) ((c ++ [45]) ++ x) ((wA c pre ++ [46]) ++ x)
 | [] => by simp [wA, Lib.join_one]
 | y :: l => by
  unfold wA
  rw [nc]
  simp
theorem ar (c : Str) (l : List Str) : (wA c l).length ≤ c.length + yh l + l.length + 1 := by
 have h := join_le [46] l
 unfold wA
 cases l with
 | nil => simp only [show (([] : List Str) == []) = true from rfl, cond_true]; omega
 | cons x r =>
  simp only [beq_nil_cons, cond_false, List.length_append, List.length_cons, List.length_nil] at h ⊢
  omega
theorem Xm {v : Ver} (h : yG v = true) : (sQ v).length ≤ 29 := by
 obtain ⟨h1, h2, h3, _, _⟩ := sg h
 have a := wi v.maj h1.1 h1.2
 have b := wi v.min h2.1 h2.2
 have c := wi v.pat h3.1 h3.2
 unfold sQ
 simp only [List.length_append, List.length_cons, List.length_nil]
 omega
theorem qo (v : Ver) (hs : v.sm) : zk (EV Tryz.prog pol) 164 [.agg (v.enc.map .t)] = some (.t (.str (yk v))) := by
 have h1 := Ty v hs
 unfold Ver.sm at hs
 unfold yk
 cases ho : yG v with
 | false =>
  rw [ho] at h1
  simp only [Ver.enc, List.map_cons, List.map_nil] at h1 ⊢
  apply zr
  refine zw rfl Tryz.func164 rfl (by kernel_rfl) ?_
  unfold Tryz.f164
  simp (disch := ((try simp only [LL]); omega)) only [↓GO, ↓DRW, GA, GX, ren, zm, za, refs, z8, cst, zq, isC, bin, una, z6, zd, blt, asArg, zf, zc, zg, z1, E.mkS, unN, ze, zn, zb, GS, simprocAttr, GZ, h1]
 | true =>
  obtain ⟨q1, q2, q3, _, _⟩ := sg ho
  have a := wi v.maj q1.1 q1.2
  have b := wi v.min q2.1 q2.2
  have c := wi v.pat q3.1 q3.2
  have d1 := jH v.maj q1.1 q1.2
  have d2 := jH v.min q2.1 q2.2
  have d3 := jH v.pat q3.1 q3.2
  have hj := join_le [46] v.pre
  simp only [List.length_cons, List.length_nil] at hj
  have h2 := TF v.pre [46] (by omega) (by omega)
  have hg := dN v.pre
  rw [ho] at h1
  unfold wA sQ
  simp only [Ver.enc, List.map_cons, List.map_nil] at h1 ⊢
  cases hp : (v.pre == []) <;> rw [hp] at hg <;> simp only [Bool.not_true, Bool.not_false] at hg
  · apply zr
    refine zw rfl Tryz.func164 rfl (by kernel_rfl) ?_
    unfold Tryz.f164
    simp (disch := ((try simp only [LL]); omega)) only [↓GO, ↓DRW, GA, GX, ren, zm, za, refs, z8, cst, zq, isC, bin, una, z6, zd, blt, asArg, zf, zc, zg, z1, E.mkS, unN, ze, zn, zb, GS, simprocAttr, GZ, h1, d1, d2, d3, h2, hg, xg, zh, List.append_assoc]
  · apply zr
    refine zw rfl Tryz.func164 rfl (by kernel_rfl) ?_
    unfold Tryz.f164
    simp (disch := ((try simp only [LL]); omega)) only [↓GO, ↓DRW, GA, GX, ren, zm, za, refs, z8, cst, zq, isC, bin, una, z6, zd, blt, asArg, zf, zc, zg, z1, E.mkS, unN, ze, zn, zb, GS, simprocAttr, GZ, h1, d1, d2, d3, h2, hg, xg, zh, List.append_assoc]
theorem UR (v : Ver) (hs : v.sm) (c : Str) (hc : c.length ≤ 40) : ∀ (rest pre : List Str), v.pre = pre ++ rest →
 EV Tryz.prog pol (.loop 193 122 0 [.ptr 0 0 0, .t (.str (wA c pre)), .t (.int .i64 (pre.length : Int))] [.vs 4 [v.enc.map .t]])
 = some (.loop (.exit 0) [.t (.str (wA c v.pre))] [])
 | [], pre, hp => by
  have c : decide ((pre.length : Int) < (v.pre.length : Int)) = false := by simp [hp]
  have e : v.pre = pre := by simpa using hp
  refine zi Tryz.func193 rfl rfl ?_
  simp only [↓GO, ↓DRW, GA, GX, ren, zm, za, refs, z8, cst, zq, isC, bin, una, z6, zd, blt, asArg, zf, zc, zg, z1, E.mkS, unN, ze, zn, zb, GS, simprocAttr, zh, c, Ver.enc, zL]
  rw [e]
 | x :: rest, pre, hp => by
  unfold Ver.sm at hs
  have c2 : decide ((pre.length : Int) < (v.pre.length : Int)) = true := by simp [hp]; omega
  have hget : (strs v.pre)[pre.length]? = some [.str x] := by rw [hp]; exact wh pre x rest
  have hlen : pre.length + rest.length + 1 ≤ v.pre.length := by rw [hp]; simp; omega
  have hbk : yh pre + x.length ≤ yh v.pre := by rw [hp, mh]; simp only [yh]; omega
  have ht := ar c pre
  have IH := UR v hs c hc rest (pre ++ [x]) (by rw [hp]; simp)
  rw [show ((pre ++ [x]).length : Int) = (pre.length : Int) + 1 by simp, eh] at IH
  have he := oy pre
  have e0 : (pre == []) = true → wA c pre = c := fun h => by unfold wA; rw [h]; rfl
  clear hp
  simp only [Ver.enc, List.map_cons, List.map_nil] at IH ⊢
  cases h0 : (pre == []) <;> rw [h0] at he IH <;> simp only [cond_true, cond_false] at IH
  · refine zi Tryz.func193 rfl rfl ?_
    simp (disch := ((try simp only [LL]); omega)) only [↓GO, ↓DRW, GA, GX, ren, zm, za, refs, z8, cst, zq, isC, bin, una, z6, zd, blt, asArg, zf, zc, zg, z1, E.mkS, unN, ze, zn, zb, GS, simprocAttr, GZ, c2, hget, zj, he, zh, IH, zL, xg]
  · have e1 := e0 h0
    rw [e1]
    refine zi Tryz.func193 rfl rfl ?_
    simp (disch := ((try simp only [LL]); omega)) only [↓GO, ↓DRW, GA, GX, ren, zm, za, refs, z8, cst, zq, isC, bin, una, z6, zd, blt, asArg, zf, zc, zg, z1, E.mkS, unN, ze, zn, zb, GS, simprocAttr, GZ, c2, hget, zj, he, zh, IH, zL, xg]
theorem fH (v : Ver) (hs : v.sm) : zk (EV Tryz.prog pol) 193 [.agg (v.enc.map .t)] = some (.t (.str (yk v))) := by
 have h1 := dS v hs
 unfold yk
 cases ho : yG v with
 | false =>
  rw [ho] at h1
  simp only [Ver.enc, List.map_cons, List.map_nil] at h1 ⊢
  apply zr
  refine zw rfl Tryz.func193 rfl (by kernel_rfl) ?_
  unfold Tryz.f193
  simp (disch := ((try simp only [LL]); omega)) only [↓GO, ↓DRW, GA, GX, ren, zm, za, refs, z8, cst, zq, isC, bin, una, z6, zd, blt, asArg, zf, zc, zg, z1, E.mkS, unN, ze, zn, zb, GS, simprocAttr, GZ, h1]
 | true =>
  obtain ⟨q1, q2, q3, _, _⟩ := sg ho
  have a := wi v.maj q1.1 q1.2
  have b := wi v.min q2.1 q2.2
  have c := wi v.pat q3.1 q3.2
  have d1 := jG v.maj q1.1 q1.2
  have d2 := jG v.min q2.1 q2.2
  have d3 := jG v.pat q3.1 q3.2
  have hc := Xm ho
  have h2 := UR v hs (sQ v) (by omega) v.pre [] rfl
  rw [ho] at h1
  rw [show wA (sQ v) [] = sQ v from rfl] at h2
  simp only [List.length_nil, Int.natCast_zero] at h2
  simp only [cond_true]
  generalize wA (sQ v) v.pre = tt at *
  unfold sQ at h2
  simp only [Ver.enc, List.map_cons, List.map_nil] at h1 h2 ⊢
  apply zr
  refine zw rfl Tryz.func193 rfl (by kernel_rfl) ?_
  unfold Tryz.f193
  simp (disch := ((try simp only [LL]); omega)) only [↓GO, ↓DRW, GA, GX, ren, zm, za, refs, z8, cst, zq, isC, bin, una, z6, zd, blt, asArg, zf, zc, zg, z1, E.mkS, unN, ze, zn, zb, GS, simprocAttr, GZ, h1, d1, d2, d3, h2, xg, zL]
theorem n5 {s : Str} (h : (yE 46 (y8 45 s).1).length ≠ 3) : wP s = none := by
 unfold wP
 split
 · rename_i a b c he; rw [he] at h; exact absurd rfl h
 · rfl
theorem nT {s : Str} {v : Ver} (h : wP s = some v) (hl : s.length ≤ 1048700) : v.sm ∧ v.maj ≤ 999999999 ∧ -1 ≤ v.maj ∧ v.min ≤ 999999999 ∧ -1 ≤ v.min ∧ v.pat ≤ 999999999 ∧ -1 ≤ v.pat := by
 unfold wP at h
 split at h
 · rename_i a b c he
   cases h
   have h1 := tE a
   have h2 := tE b
   have h3 := tE c
   refine ⟨?_, h1.2, h1.1, h2.2, h2.1, h3.2, h3.1⟩
   have := wJ 46 (y8 45 s).2.1
   have h5 := (qm 45 s).2
   unfold Ver.sm
   cases (y8 45 s).2.2 with
   | true => simp only [cond_true]; omega
   | false => simp [yh]
 · cases h
theorem oN (s : Str) (hl : s.length ≤ 1048700) : (zP s).1.sm ∧ (zP s).1.maj ≤ 999999999 ∧ -1 ≤ (zP s).1.maj ∧ (zP s).1.min ≤ 999999999 ∧ -1 ≤ (zP s).1.min ∧ (zP s).1.pat ≤ 999999999 ∧ -1 ≤ (zP s).1.pat := by
 unfold zP
 cases hm : wP s with
 | none => simp [Ver.zero, Ver.sm, yh]
 | some v =>
  have := nT hm hl
  simp only
  cases (yk v == s) with
  | true => exact this
  | false => simp [Ver.zero, Ver.sm, yh]
def rvT (s : Str) : V := .tup [.agg ((zP s).1.enc.map .t), .t (.bool (zP s).2)]
theorem c_rvI (s : Str) (hl : s.length ≤ 1048700) : zk (EV Tryz.prog pol) 71 [.t (.str s)] = some (rvT s) := by
 have h1 := c_cut s [45] (by omega)
 rw [fC] at h1
 have hl1 := qm 45 s
 have h2 := jt (y8 45 s).1 [46] (by omega) (by simp)
 have h3 := jt (y8 45 s).2.1 [46] (by omega) (by simp)
 rw [oH] at h2 h3
 unfold rvT zP
 by_cases hn : (yE 46 (y8 45 s).1).length = 3
 · obtain ⟨a, b, c, hp⟩ : ∃ a b c, yE 46 (y8 45 s).1 = [a, b, c] := by
    match hq : yE 46 (y8 45 s).1, hn with
    | [a, b, c], _ => exact ⟨a, b, c, rfl⟩
   have hm : wP s = some ⟨zJ a, zJ b, zJ c, cond (y8 45 s).2.2 (yE 46 (y8 45 s).2.1) []⟩ := by unfold wP; rw [hp]
   have hne := gE hm
   have hsm := (nT hm hl).1
   have hbk := wJ 46 (y8 45 s).1
   rw [hp] at h2 hbk
   simp only [yh] at hbk
   have d1 := ai a (by omega)
   have d2 := ai b (by omega)
   have d3 := ai c (by omega)
   have hv := qo _ hsm
   rw [hm]
   have hs0 : (s == []) = false := by rw [beq_eq_false_iff_ne]; exact hne
   simp only [Ver.enc, List.map_cons, List.map_nil, vn, yc] at hv h2 ⊢
   generalize zJ a = ra at *
   generalize zJ b = rb at *
   generalize zJ c = rc at *
   cases hh : (y8 45 s).2.2 <;> rw [hh] at h1 hv <;> simp only [cond_true, cond_false, yc] at hv ⊢
   · generalize yk ⟨ra, rb, rc, []⟩ = tt at *
     clear hm hsm
     cases he : (tt == s)
     · apply zr
       refine zw rfl Tryz.func71 rfl (by kernel_rfl) ?_
       unfold Tryz.f71
       simp (disch := ((try simp only [LL]); omega)) only [↓GO, ↓DRW, GA, GX, ren, zm, za, refs, z8, cst, zq, isC, bin, una, z6, zd, blt, asArg, zf, zc, zg, z1, E.mkS, unN, ze, zn, zb, GS, simprocAttr, GZ, h1, h2, d1, d2, d3, hv, he, bne, hs0, Ver.zero, yc]
       refine yN (by kernel_rfl) ?_
       simp (disch := ((try simp only [LL]); omega)) only [↓GO, ↓DRW, GA, GX, ren, zm, za, refs, z8, cst, zq, isC, bin, una, z6, zd, blt, asArg, zf, zc, zg, z1, E.mkS, unN, ze, zn, zb, GS, simprocAttr, GZ, h1, h2, d1, d2, d3, hv, he, bne, hs0, Ver.zero, yc]
     · apply zr
       refine zw rfl Tryz.func71 rfl (by kernel_rfl) ?_
       unfold Tryz.f71
       simp (disch := ((try simp only [LL]); omega)) only [↓GO, ↓DRW, GA, GX, ren, zm, za, refs, z8, cst, zq, isC, bin, una, z6, zd, blt, asArg, zf, zc, zg, z1, E.mkS, unN, ze, zn, zb, GS, simprocAttr, GZ, h1, h2, d1, d2, d3, hv, he, bne, hs0, yc]
       refine yN (by kernel_rfl) ?_
       simp (disch := ((try simp only [LL]); omega)) only [↓GO, ↓DRW, GA, GX, ren, zm, za, refs, z8, cst, zq, isC, bin, una, z6, zd, blt, asArg, zf, zc, zg, z1, E.mkS, unN, ze, zn, zb, GS, simprocAttr, GZ, h1, h2, d1, d2, d3, hv, he, bne, hs0, yc]
   · generalize yk ⟨ra, rb, rc, yE 46 (y8 45 s).2.1⟩ = tt at *
     clear hm hsm
     generalize yE 46 (y8 45 s).2.1 = pp at *
     cases he : (tt == s)
     · apply zr
       refine zw rfl Tryz.func71 rfl (by kernel_rfl) ?_
       unfold Tryz.f71
       simp (disch := ((try simp only [LL]); omega)) only [↓GO, ↓DRW, GA, GX, ren, zm, za, refs, z8, cst, zq, isC, bin, una, z6, zd, blt, asArg, zf, zc, zg, z1, E.mkS, unN, ze, zn, zb, GS, simprocAttr, GZ, h1, h2, h3, d1, d2, d3, hv, he, bne, hs0, Ver.zero, yc]
       refine yN (by kernel_rfl) ?_
       simp (disch := ((try simp only [LL]); omega)) only [↓GO, ↓DRW, GA, GX, ren, zm, za, refs, z8, cst, zq, isC, bin, una, z6, zd, blt, asArg, zf, zc, zg, z1, E.mkS, unN, ze, zn, zb, GS, simprocAttr, GZ, h1, h2, h3, d1, d2, d3, hv, he, bne, hs0, Ver.zero, yc]
     · apply zr
       refine zw rfl Tryz.func71 rfl (by kernel_rfl) ?_
       unfold Tryz.f71
       simp (disch := ((try simp only [LL]); omega)) only [↓GO, ↓DRW, GA, GX, ren, zm, za, refs, z8, cst, zq, isC, bin, una, z6, zd, blt, asArg, zf, zc, zg, z1, E.mkS, unN, ze, zn, zb, GS, simprocAttr, GZ, h1, h2, h3, d1, d2, d3, hv, he, bne, hs0, yc]
       refine yN (by kernel_rfl) ?_
       simp (disch := ((try simp only [LL]); omega)) only [↓GO, ↓DRW, GA, GX, ren, zm, za, refs, z8, cst, zq, isC, bin, una, z6, zd, blt, asArg, zf, zc, zg, z1, E.mkS, unN, ze, zn, zb, GS, simprocAttr, GZ, h1, h2, h3, d1, d2, d3, hv, he, bne, hs0, yc]
 · have hm := n5 hn
   rw [hm]
   have hc : (((yE 46 (y8 45 s).1).length : Int) == 3) = false := by rw [beq_eq_false_iff_ne]; omega
   generalize yE 46 (y8 45 s).1 = parts at *
   apply zr
   refine zw rfl Tryz.func71 rfl (by kernel_rfl) ?_
   unfold Tryz.f71
   simp (disch := ((try simp only [LL]); omega)) only [↓GO, ↓DRW, GA, GX, ren, zm, za, refs, z8, cst, zq, isC, bin, una, z6, zd, blt, asArg, zf, zc, zg, z1, E.mkS, unN, ze, zn, zb, GS, simprocAttr, GZ, h1, h2, hc, bne, zh, Ver.zero, Ver.enc, yc]
theorem l_at (s : Str) (b : UInt8) (hl : s.length ≤ 4194304) : ∀ (rest pre : Str), s = pre ++ rest →
 EV Tryz.prog pol (.loop 190 26 0 [.t (.str s), .t (.int .u8 (b.toNat : Int)), .t (.int .i64 (pre.length : Int))] []) = some (cond (y8 b rest).2.2 (.loop .ret [.t (.int .i64 ((pre.length : Int) + ((y8 b rest).1.length : Int)))] []) (.loop (.exit 0) [.bad] []))
 | [], pre, hs => by
  have c : decide ((pre.length : Int) < (s.length : Int)) = false := by simp [hs]
  refine zi Tryz.func190 rfl rfl ?_
  simp only [↓GO, ↓DRW, GA, GX, ren, zm, za, refs, z8, cst, zq, isC, bin, una, z6, zd, blt, asArg, zf, zc, zg, z1, E.mkS, unN, ze, zn, zb, GS, simprocAttr, c, y8]
 | x :: rest, pre, hs => by
  have c : decide ((pre.length : Int) < (s.length : Int)) = true := by simp [hs]; omega
  have hget : s[pre.length]? = some x := by rw [hs]; exact th pre x rest
  have hlen : s.length = pre.length + rest.length + 1 := by rw [hs]; simp; omega
  have IH := l_at s b hl rest (pre ++ [x]) (by rw [hs]; simp)
  rw [show ((pre ++ [x]).length : Int) = (pre.length : Int) + 1 by simp] at IH
  rw [y8]
  clear hs
  by_cases hx : x = b
  · subst hx
    rw [if_pos rfl]
    refine zi Tryz.func190 rfl rfl ?_
    simp (disch := ((try simp only [LL]); omega)) only [↓GO, ↓DRW, GA, GX, ren, zm, za, refs, z8, cst, zq, isC, bin, una, z6, zd, blt, asArg, zf, zc, zg, z1, E.mkS, unN, ze, zn, zb, GS, simprocAttr, GZ, c, hget, zj, Int.natCast_zero, Int.add_zero]
  · have c2 : ((x.toNat : Int) == (b.toNat : Int)) = false := by
     rw [beq_eq_false_iff_ne]; intro e; exact hx (UInt8.toNat_inj.1 (by omega))
    rw [if_neg hx]
    rw [show (((x :: (y8 b rest).1).length : Nat) : Int) = ((y8 b rest).1.length : Int) + 1 by simp, show (pre.length : Int) + (((y8 b rest).1.length : Int) + 1) = (pre.length : Int) + 1 + ((y8 b rest).1.length : Int) by omega]
    refine zi Tryz.func190 rfl rfl ?_
    simp (disch := ((try simp only [LL]); omega)) only [↓GO, ↓DRW, GA, GX, ren, zm, za, refs, z8, cst, zq, isC, bin, una, z6, zd, blt, asArg, zf, zc, zg, z1, E.mkS, unN, ze, zn, zb, GS, simprocAttr, GZ, c, hget, zj, c2, IH]
def atV (b : UInt8) (s : Str) : Int := cond (y8 b s).2.2 ((y8 b s).1.length : Int) (-1)
theorem c_at (s : Str) (b : UInt8) (hl : s.length ≤ 4194304) : zk (EV Tryz.prog pol) 190 [.t (.str s), .t (.int .u8 (b.toNat : Int))] = some (.t (.int .i64 (atV b s))) := by
 have IH := l_at s b hl s [] rfl
 simp only [List.length_nil, Int.natCast_zero, Int.zero_add] at IH
 unfold atV
 apply zr
 refine zw rfl Tryz.func190 rfl (by kernel_rfl) ?_
 unfold Tryz.f190
 cases h : (y8 b s).2.2 <;> rw [h] at IH <;> simp only [cond_true, cond_false] at IH <;> simp (disch := ((try simp only [LL]); omega)) only [↓GO, ↓DRW, GA, GX, ren, zm, za, refs, z8, cst, zq, isC, bin, una, z6, zd, blt, asArg, zf, zc, zg, z1, E.mkS, unN, ze, zn, zb, GS, simprocAttr, GZ, IH]
theorem T4 (s : Str) (hl : s.length ≤ 1048700) : zk (EV Tryz.prog pol) 90 [.t (.str s)] = some (rvT s) := by
 have h1 := c_at s 45 (by omega)
 rw [show (((45 : UInt8)).toNat : Int) = 45 from rfl] at h1
 have hl1 := qm 45 s
 have h2 := dT (y8 45 s).1 46 (by omega)
 have h3 := dT (y8 45 s).2.1 46 (by omega)
 rw [show (((46 : UInt8)).toNat : Int) = 46 from rfl] at h2 h3
 have hce := ou 45 s
 unfold rvT zP
 unfold atV at h1
 have hA : (y8 45 s).2.2 = false → (y8 45 s).1 = s := fun h => by rw [h, cond_false, List.append_nil] at hce; exact hce.symm
 have hB : (y8 45 s).2.2 = true → s.take (y8 45 s).1.length = (y8 45 s).1 ∧ s.drop ((y8 45 s).1.length + 1) = (y8 45 s).2.1 ∧ (y8 45 s).1.length + 1 ≤ s.length := fun h => by
  rw [h, cond_true] at hce
  have e1 : s.take (y8 45 s).1.length = (y8 45 s).1 := by
   conv => lhs; arg 2; rw [hce]
   exact List.take_left
  have e2 : s.drop ((y8 45 s).1.length + 1) = (y8 45 s).2.1 := by
   conv => lhs; arg 2; rw [hce]
   rw [← List.drop_drop, List.drop_left]; rfl
  refine ⟨e1, e2, ?_⟩
  have := congrArg List.length hce
  rw [List.length_append, List.length_cons] at this
  omega
 clear hce
 by_cases hn : (yE 46 (y8 45 s).1).length = 3
 · obtain ⟨a, b, c, hp⟩ : ∃ a b c, yE 46 (y8 45 s).1 = [a, b, c] := by
    match hq : yE 46 (y8 45 s).1, hn with
    | [a, b, c], _ => exact ⟨a, b, c, rfl⟩
   have hm : wP s = some ⟨zJ a, zJ b, zJ c, cond (y8 45 s).2.2 (yE 46 (y8 45 s).2.1) []⟩ := by unfold wP; rw [hp]
   have hsm := (nT hm hl).1
   have hbk := wJ 46 (y8 45 s).1
   rw [hp] at h2 hbk
   simp only [yh] at hbk
   have d1 := j4 a (by omega)
   have d2 := j4 b (by omega)
   have d3 := j4 c (by omega)
   have hv := fH _ hsm
   rw [hm]
   simp only [Ver.enc, List.map_cons, List.map_nil, vn, yc] at hv h2 ⊢
   generalize zJ a = ra at *
   generalize zJ b = rb at *
   generalize zJ c = rc at *
   cases hh : (y8 45 s).2.2 <;> rw [hh] at h1 hv <;> simp only [cond_true, cond_false, yc] at hv h1 ⊢
   · have hA' := hA hh
     rw [hA'] at h2
     generalize yk ⟨ra, rb, rc, []⟩ = tt at *
     clear hm hsm hA hB hp
     cases he : (tt == s)
     · apply zr
       refine zw rfl Tryz.func90 rfl (by kernel_rfl) ?_
       unfold Tryz.f90
       simp (disch := ((try simp only [LL]); omega)) only [↓GO, ↓DRW, GA, GX, ren, zm, za, refs, z8, cst, zq, isC, bin, una, z6, zd, blt, asArg, zf, zc, zg, z1, E.mkS, unN, ze, zn, zb, GS, simprocAttr, GZ, h1, h2, d1, d2, d3, hv, he, bne, ge_iff_le, Ver.zero, yc]
     · apply zr
       refine zw rfl Tryz.func90 rfl (by kernel_rfl) ?_
       unfold Tryz.f90
       simp (disch := ((try simp only [LL]); omega)) only [↓GO, ↓DRW, GA, GX, ren, zm, za, refs, z8, cst, zq, isC, bin, una, z6, zd, blt, asArg, zf, zc, zg, z1, E.mkS, unN, ze, zn, zb, GS, simprocAttr, GZ, h1, h2, d1, d2, d3, hv, he, bne, ge_iff_le, yc]
   · obtain ⟨b1, b2, b3⟩ := hB hh
     generalize yk ⟨ra, rb, rc, yE 46 (y8 45 s).2.1⟩ = tt at *
     clear hm hsm hA hB hp
     generalize yE 46 (y8 45 s).2.1 = pp at *
     have g0 : decide ((0 : Int) ≤ ((y8 45 s).1.length : Int)) = true := by simp
     generalize (y8 45 s).2.1 = tl at *
     generalize (y8 45 s).1 = hd at *
     cases he : (tt == s)
     · apply zr
       refine zw rfl Tryz.func90 rfl (by kernel_rfl) ?_
       unfold Tryz.f90
       simp (disch := ((try simp only [LL]); omega)) only [↓GO, ↓DRW, GA, GX, ren, zm, za, refs, z8, cst, zq, isC, bin, una, z6, zd, blt, asArg, zf, zc, zg, z1, E.mkS, unN, ze, zn, zb, GS, simprocAttr, GZ, h1, h2, h3, d1, d2, d3, hv, he, bne, ge_iff_le, g0, b1, b2, zj, Ver.zero, yc]
     · apply zr
       refine zw rfl Tryz.func90 rfl (by kernel_rfl) ?_
       unfold Tryz.f90
       simp (disch := ((try simp only [LL]); omega)) only [↓GO, ↓DRW, GA, GX, ren, zm, za, refs, z8, cst, zq, isC, bin, una, z6, zd, blt, asArg, zf, zc, zg, z1, E.mkS, unN, ze, zn, zb, GS, simprocAttr, GZ, h1, h2, h3, d1, d2, d3, hv, he, bne, ge_iff_le, g0, b1, b2, zj]
 · have hm := n5 hn
   rw [hm]
   have hc : (((yE 46 (y8 45 s).1).length : Int) == 3) = false := by rw [beq_eq_false_iff_ne]; omega
   cases hh : (y8 45 s).2.2 <;> rw [hh] at h1 <;> simp only [cond_true, cond_false] at h1
   · have hA' := hA hh
     rw [hA'] at h2 hc
     generalize yE 46 s = parts at *
     apply zr
     refine zw rfl Tryz.func90 rfl (by kernel_rfl) ?_
     unfold Tryz.f90
     simp (disch := ((try simp only [LL]); omega)) only [↓GO, ↓DRW, GA, GX, ren, zm, za, refs, z8, cst, zq, isC, bin, una, z6, zd, blt, asArg, zf, zc, zg, z1, E.mkS, unN, ze, zn, zb, GS, simprocAttr, GZ, h1, h2, hc, bne, ge_iff_le, zh, Ver.zero, Ver.enc, yc]
   · obtain ⟨b1, b2, b3⟩ := hB hh
     have g0 : decide ((0 : Int) ≤ ((y8 45 s).1.length : Int)) = true := by simp
     generalize yE 46 (y8 45 s).1 = parts at *
     generalize yE 46 (y8 45 s).2.1 = pp at *
     generalize (y8 45 s).2.1 = tl at *
     generalize (y8 45 s).1 = hd at *
     apply zr
     refine zw rfl Tryz.func90 rfl (by kernel_rfl) ?_
     unfold Tryz.f90
     simp (disch := ((try simp only [LL]); omega)) only [↓GO, ↓DRW, GA, GX, ren, zm, za, refs, z8, cst, zq, isC, bin, una, z6, zd, blt, asArg, zf, zc, zg, z1, E.mkS, unN, ze, zn, zb, GS, simprocAttr, GZ, h1, h2, h3, hc, bne, ge_iff_le, g0, b1, b2, zj, zh, Ver.zero, Ver.enc, yc]
end Go.Proofs.YtijninlbpifonaaGreatDoor
/- The range of a version alone, by both. Conditions: those of each lemma. -/
namespace Go.Proofs.YtijninlbpifonaaGreatDoor
open E
set_option linter.unusedSimpArgs false
set_option linter.unusedVariables false
set_option maxRecDepth 100000
theorem cd (a b c : Int) : Ver.sm ⟨a, b, c, [[48]]⟩ := by simp [Ver.sm, yh]
theorem c_zpI (a b c : Int) : zk (EV Tryz.prog pol) 283 [.t (.int .i64 a), .t (.int .i64 b), .t (.int .i64 c)] = some (.t (.str (xx a b c))) := by
 have h := qo ⟨a, b, c, [[48]]⟩ (cd a b c)
 simp only [Ver.enc, List.map_cons, List.map_nil, vn, yc] at h
 unfold xx
 apply zr
 refine zw rfl Tryz.func283 rfl (by kernel_rfl) ?_
 unfold Tryz.f283
 simp (disch := ((try simp only [LL]); omega)) only [↓GO, ↓DRW, GA, GX, ren, zm, za, refs, z8, cst, zq, isC, bin, una, z6, zd, blt, asArg, zf, zc, zg, z1, E.mkS, unN, ze, zn, zb, GS, simprocAttr, GZ, h]
theorem Uq (v : Ver) (hs : v.sm) (hp : v.pre.length + yh v.pre ≤ 2097150) (h0 : -1 ≤ v.pat) (h1 : v.pat ≤ 999999999) : zk (EV Tryz.prog pol) 276 [.agg (v.enc.map .t)] = some (.agg [.t (.str (yk v)), .t (.str (mB v))]) := by
 have a1 := c_zpI v.maj v.min (v.pat + 1)
 have a2 := qo v hs
 have hpv : (r6 v).sm := by
  unfold Ver.sm r6
  simp only [List.length_append, List.length_cons, List.length_nil, mh, yh]; omega
 have a3 := qo (r6 v) hpv
 unfold Ver.sm at hs
 have a4 := uu (strs v.pre) (by rw [zh]; omega)
 have ht : List.take (v.pre.length + 1) (strs v.pre ++ [[T.str [48]]]) = strs v.pre ++ [[T.str [48]]] := List.take_of_length_le (by simp [zh])
 have hg := dN v.pre
 unfold mB
 rw [show (r6 v).enc = [.int .i64 v.maj, .int .i64 v.min, .int .i64 v.pat, .list 1 (strs v.pre ++ [[.str [48]]])] by unfold Ver.enc r6; rw [q8]; rfl] at a3
 simp only [Ver.enc, List.map_cons, List.map_nil] at a2 a3 ⊢
 rw [zh] at a4
 generalize yk (r6 v) = tp at *
 generalize yk v = tv at *
 generalize xx v.maj v.min (v.pat + 1) = tz at *
 cases hb : (v.pre == []) <;> rw [hb] at hg <;> simp only [Bool.not_true, Bool.not_false] at hg
 · apply zr
   refine zw rfl Tryz.func276 rfl (by kernel_rfl) ?_
   unfold Tryz.f276
   simp (disch := ((try simp only [LL]); omega)) only [↓GO, ↓DRW, GA, GX, ren, zm, za, refs, z8, cst, zq, isC, bin, una, z6, zd, blt, asArg, zf, zc, zg, z1, E.mkS, unN, ze, zn, zb, GS, simprocAttr, GZ, a1, a2, a3, a4, ht, hg, zj, zh, xg, zL]
 · apply zr
   refine zw rfl Tryz.func276 rfl (by kernel_rfl) ?_
   unfold Tryz.f276
   simp (disch := ((try simp only [LL]); omega)) only [↓GO, ↓DRW, GA, GX, ren, zm, za, refs, z8, cst, zq, isC, bin, una, z6, zd, blt, asArg, zf, zc, zg, z1, E.mkS, unN, ze, zn, zb, GS, simprocAttr, GZ, a1, a2, a3, a4, ht, hg, zj, zh, xg, zL]
def exT (s : Str) : List (List T) := match ve s with
 | some (l, h) => [[.str l, .str h]]
 | none => []
theorem jS (s : Str) (hl : s.length ≤ 1048700) : (zP s).1.pre.length + yh (zP s).1.pre ≤ 1048701 := by
 unfold zP
 cases hm : wP s with
 | none => simp [Ver.zero, yh]
 | some v =>
  have h : v.pre.length + yh v.pre ≤ 1048701 := by
   unfold wP at hm
   split at hm
   · cases hm
     have := wJ 46 (y8 45 s).2.1
     have h5 := (qm 45 s).2
     cases (y8 45 s).2.2 with
     | true => simp only [cond_true]; omega
     | false => simp [yh]
   · cases hm
  simp only
  cases (yk v == s) with
  | true => exact h
  | false => simp [Ver.zero, yh]
theorem c_exI (s : Str) (hl : s.length ≤ 1048700) : zk (EV Tryz.prog pol) 218 [.t (.str s)] = some (.t (.list 2 (exT s))) := by
 have h1 := c_rvI s hl
 obtain ⟨m1, m2, m3, m4, m5, m6, m7⟩ := oN s hl
 have hp := jS s hl
 have h2 := Uq (zP s).1 m1 (by omega) m7 m6
 unfold exT ve
 unfold rvT at h1
 cases hk : (zP s).2 with
 | false =>
  rw [hk] at h1
  generalize (zP s).1 = v at *
  generalize yk v = tv at *
  generalize mB v = hv at *
  simp only [Ver.enc, List.map_cons, List.map_nil] at h1 h2 ⊢
  apply zr
  refine zw rfl Tryz.func218 rfl (by kernel_rfl) ?_
  unfold Tryz.f218
  simp (disch := ((try simp only [LL]); omega)) only [↓GO, ↓DRW, GA, GX, ren, zm, za, refs, z8, cst, zq, isC, bin, una, z6, zd, blt, asArg, zf, zc, zg, z1, E.mkS, unN, ze, zn, zb, GS, simprocAttr, GZ, h1, h2]
 | true =>
  have ht := (we hk).2.1
  rw [ht] at h2
  rw [hk] at h1
  generalize (zP s).1 = v at *
  generalize mB v = hv at *
  simp only [Ver.enc, List.map_cons, List.map_nil] at h1 h2 ⊢
  cases he : (hv == [])
  · apply zr
    refine zw rfl Tryz.func218 rfl (by kernel_rfl) ?_
    unfold Tryz.f218
    simp (disch := ((try simp only [LL]); omega)) only [↓GO, ↓DRW, GA, GX, ren, zm, za, refs, z8, cst, zq, isC, bin, una, z6, zd, blt, asArg, zf, zc, zg, z1, E.mkS, unN, ze, zn, zb, GS, simprocAttr, GZ, h1, h2, he]
  · apply zr
    refine zw rfl Tryz.func218 rfl (by kernel_rfl) ?_
    unfold Tryz.f218
    simp (disch := ((try simp only [LL]); omega)) only [↓GO, ↓DRW, GA, GX, ren, zm, za, refs, z8, cst, zq, isC, bin, una, z6, zd, blt, asArg, zf, zc, zg, z1, E.mkS, unN, ze, zn, zb, GS, simprocAttr, GZ, h1, h2, he]
end Go.Proofs.YtijninlbpifonaaGreatDoor
/- Versions compared, the next one, the range of one alone, by the reference. Conditions: those of each lemma. -/
namespace Go.Proofs.YtijninlbpifonaaGreatDoor
open E
set_option linter.unusedSimpArgs false
set_option linter.unusedVariables false
set_option maxRecDepth 100000
theorem pf (a b : Int) : zk (EV Tryz.prog pol) 194 [.t (.int .i64 a), .t (.int .i64 b)] = some (.t (.int .i64 (wK a b))) := by
 unfold wK
 cases h1 : decide (a < b) <;> cases h2 : decide (a > b)
 all_goals
  apply zr
  refine zw rfl Tryz.func194 rfl (by kernel_rfl) ?_
  unfold Tryz.f194
  simp (disch := ((try simp only [LL]); omega)) only [↓GO, ↓DRW, GA, GX, ren, zm, za, refs, z8, cst, zq, isC, bin, una, z6, zd, blt, asArg, zf, zc, zg, z1, E.mkS, unN, ze, zn, zb, GS, simprocAttr, GZ, h1, h2]
theorem Ub (a b : Str) : zk (EV Tryz.prog pol) 258 [.t (.str a), .t (.str b)] = some (.t (.int .i64 (ee a b))) := by
 unfold ee
 cases h1 : Op.bytesLess a b <;> cases h2 : (a == b)
 all_goals
  apply zr
  refine zw rfl Tryz.func258 rfl (by kernel_rfl) ?_
  unfold Tryz.f258
  simp (disch := ((try simp only [LL]); omega)) only [↓GO, ↓DRW, GA, GX, ren, zm, za, refs, z8, cst, zq, isC, bin, una, z6, zd, blt, asArg, zf, zc, zg, z1, E.mkS, unN, ze, zn, zb, GS, simprocAttr, GZ, h1, h2]
theorem TD (a b : Str) (ha : a.length ≤ 4194304) (hb : b.length ≤ 4194304) : zk (EV Tryz.prog pol) 195 [.t (.str a), .t (.str b)] = some (.t (.int .i64 (uy a b))) := by
 have d1 := j4 a (by omega)
 have d2 := j4 b (by omega)
 have d3 := pf (zJ a) (zJ b)
 have d4 := Ub a b
 unfold uy
 generalize zJ a = ra at *
 generalize zJ b = rb at *
 cases h1 : decide (ra ≥ 0) <;> cases h2 : decide (rb ≥ 0)
 all_goals
  apply zr
  refine zw rfl Tryz.func195 rfl (by kernel_rfl) ?_
  unfold Tryz.f195
  simp (disch := ((try simp only [LL]); omega)) only [↓GO, ↓DRW, GA, GX, ren, zm, za, refs, z8, cst, zq, isC, bin, una, z6, zd, blt, asArg, zf, zc, zg, z1, E.mkS, unN, ze, zn, zb, GS, simprocAttr, GZ, d1, d2, d3, d4, h1, h2]
theorem Tq (x1 x2 x3 x4 y1 y2 y3 y4 : T) (a b c : Int) :
 EV Tryz.prog pol (.loop 92 58 0 [.ptr 0 0 0, .ptr 1 0 0, .sl 2 0 3 (some 3), .t (.int .i64 0)] [.vs 4 [[.t x1, .t x2, .t x3, .t x4]], .vs 4 [[.t y1, .t y2, .t y3, .t y4]], .ts 1 [[.int .i64 a], [.int .i64 b], [.int .i64 c]]])
 = some (cond (a == 0) (cond (b == 0) (cond (c == 0) (.loop (.exit 0) [.ptr 0 0 0, .ptr 1 0 0, .bad] [.vs 4 [[.t x1, .t x2, .t x3, .t x4]], .vs 4 [[.t y1, .t y2, .t y3, .t y4]]])
  (.loop .ret [.ptr 0 0 0, .ptr 1 0 0, .t (.int .i64 c)] [.vs 4 [[.t x1, .t x2, .t x3, .t x4]], .vs 4 [[.t y1, .t y2, .t y3, .t y4]]]))
  (.loop .ret [.ptr 0 0 0, .ptr 1 0 0, .t (.int .i64 b)] [.vs 4 [[.t x1, .t x2, .t x3, .t x4]], .vs 4 [[.t y1, .t y2, .t y3, .t y4]]]))
  (.loop .ret [.ptr 0 0 0, .ptr 1 0 0, .t (.int .i64 a)] [.vs 4 [[.t x1, .t x2, .t x3, .t x4]], .vs 4 [[.t y1, .t y2, .t y3, .t y4]]])) := by
 cases h1 : (a == 0)
 · refine zi Tryz.func92 rfl rfl ?_
   simp (disch := ((try simp only [LL]); omega)) only [↓GO, ↓DRW, GA, GX, ren, zm, za, refs, z8, cst, zq, isC, bin, una, z6, zd, blt, asArg, zf, zc, zg, z1, E.mkS, unN, ze, zn, zb, GS, simprocAttr, GZ, h1, bne, zj, zL]
 · refine zi Tryz.func92 rfl rfl ?_
   simp (disch := ((try simp only [LL]); omega)) only [↓GO, ↓DRW, GA, GX, ren, zm, za, refs, z8, cst, zq, isC, bin, una, z6, zd, blt, asArg, zf, zc, zg, z1, E.mkS, unN, ze, zn, zb, GS, simprocAttr, GZ, h1, bne, zj, zL, Int.zero_add]
   cases h2 : (b == 0)
   · refine zi Tryz.func92 rfl rfl ?_
     simp (disch := ((try simp only [LL]); omega)) only [↓GO, ↓DRW, GA, GX, ren, zm, za, refs, z8, cst, zq, isC, bin, una, z6, zd, blt, asArg, zf, zc, zg, z1, E.mkS, unN, ze, zn, zb, GS, simprocAttr, GZ, h2, bne, zj, zL]
   · refine zi Tryz.func92 rfl rfl ?_
     simp (disch := ((try simp only [LL]); omega)) only [↓GO, ↓DRW, GA, GX, ren, zm, za, refs, z8, cst, zq, isC, bin, una, z6, zd, blt, asArg, zf, zc, zg, z1, E.mkS, unN, ze, zn, zb, GS, simprocAttr, GZ, h2, bne, zj, zL, Int.reduceAdd]
     cases h3 : (c == 0)
     · refine zi Tryz.func92 rfl rfl ?_
       simp (disch := ((try simp only [LL]); omega)) only [↓GO, ↓DRW, GA, GX, ren, zm, za, refs, z8, cst, zq, isC, bin, una, z6, zd, blt, asArg, zf, zc, zg, z1, E.mkS, unN, ze, zn, zb, GS, simprocAttr, GZ, h3, bne, zj, zL]
     · refine zi Tryz.func92 rfl rfl ?_
       simp (disch := ((try simp only [LL]); omega)) only [↓GO, ↓DRW, GA, GX, ren, zm, za, refs, z8, cst, zq, isC, bin, una, z6, zd, blt, asArg, zf, zc, zg, z1, E.mkS, unN, ze, zn, zb, GS, simprocAttr, GZ, h3, bne, zj, zL, Int.reduceAdd]
       refine zi Tryz.func92 rfl rfl ?_
       simp (disch := ((try simp only [LL]); omega)) only [↓GO, ↓DRW, GA, GX, ren, zm, za, refs, z8, cst, zq, isC, bin, una, z6, zd, blt, asArg, zf, zc, zg, z1, E.mkS, unN, ze, zn, zb, GS, simprocAttr, GZ, zj, zL]
theorem WM (a b : Ver) (ha : a.sm) (hb : b.sm) : ∀ (ra rb pa pb : List Str), a.pre = pa ++ ra → b.pre = pb ++ rb → pa.length = pb.length →
 EV Tryz.prog pol (.loop 92 250 0 [.ptr 0 0 0, .ptr 1 0 0, .t (.int .i64 (pa.length : Int))] [.vs 4 [a.enc.map .t], .vs 4 [b.enc.map .t]])
 = some (match sK ra rb with
  | some n => .loop .ret [.ptr 0 0 0, .ptr 1 0 0, .t (.int .i64 n)] [.vs 4 [a.enc.map .t], .vs 4 [b.enc.map .t]]
  | none => .loop (.exit 2) [.ptr 0 0 0, .ptr 1 0 0, .bad] [.vs 4 [a.enc.map .t], .vs 4 [b.enc.map .t]])
 | [], rb, pa, pb, h1, h2, h3 => by
  have c : decide ((pa.length : Int) < (a.pre.length : Int)) = false := by simp [h1]
  simp only [Ver.enc, List.map_cons, List.map_nil, sK]
  refine zi Tryz.func92 rfl rfl ?_
  simp (disch := ((try simp only [LL]); omega)) only [↓GO, ↓DRW, GA, GX, ren, zm, za, refs, z8, cst, zq, isC, bin, una, z6, zd, blt, asArg, zf, zc, zg, z1, E.mkS, unN, ze, zn, zb, GS, simprocAttr, GZ, zh, c, zL]
 | x :: ra, [], pa, pb, h1, h2, h3 => by
  have c : decide ((pa.length : Int) < (a.pre.length : Int)) = true := by simp [h1]; omega
  have c2 : decide ((pa.length : Int) < (b.pre.length : Int)) = false := by simp [h2]; omega
  simp only [Ver.enc, List.map_cons, List.map_nil, sK]
  refine zi Tryz.func92 rfl rfl ?_
  simp (disch := ((try simp only [LL]); omega)) only [↓GO, ↓DRW, GA, GX, ren, zm, za, refs, z8, cst, zq, isC, bin, una, z6, zd, blt, asArg, zf, zc, zg, z1, E.mkS, unN, ze, zn, zb, GS, simprocAttr, GZ, zh, c, c2, zL]
 | x :: ra, y :: rb, pa, pb, h1, h2, h3 => by
  unfold Ver.sm at ha hb
  have c : decide ((pa.length : Int) < (a.pre.length : Int)) = true := by simp [h1]; omega
  have c2 : decide ((pa.length : Int) < (b.pre.length : Int)) = true := by simp [h2]; omega
  have hg1 : (strs a.pre)[pa.length]? = some [.str x] := by rw [h1]; exact wh pa x ra
  have hg2 : (strs b.pre)[pa.length]? = some [.str y] := by rw [h2, h3]; exact wh pb y rb
  have hlen : pa.length + ra.length + 1 ≤ a.pre.length := by rw [h1]; simp; omega
  have hx : x.length ≤ 2097152 := by have := vD (ks := a.pre) (s := x) (by rw [h1]; simp); omega
  have hy : y.length ≤ 2097152 := by have := vD (ks := b.pre) (s := y) (by rw [h2]; simp); omega
  have hp := TD x y (by omega) (by omega)
  have IH := WM a b ha hb ra rb (pa ++ [x]) (pb ++ [y]) (by rw [h1]; simp) (by rw [h2]; simp) (by simp [h3])
  rw [show ((pa ++ [x]).length : Int) = (pa.length : Int) + 1 by simp] at IH
  clear h1 h2
  simp only [Ver.enc, List.map_cons, List.map_nil] at IH ⊢
  rw [sK]
  generalize uy x y = n at *
  cases hn : (n == 0)
  · simp only [cond_false]
    refine zi Tryz.func92 rfl rfl ?_
    simp (disch := ((try simp only [LL]); omega)) only [↓GO, ↓DRW, GA, GX, ren, zm, za, refs, z8, cst, zq, isC, bin, una, z6, zd, blt, asArg, zf, zc, zg, z1, E.mkS, unN, ze, zn, zb, GS, simprocAttr, GZ, zh, c, c2, hg1, hg2, hp, hn, bne, zj, zL]
  · simp only [cond_true]
    refine zi Tryz.func92 rfl rfl ?_
    simp (disch := ((try simp only [LL]); omega)) only [↓GO, ↓DRW, GA, GX, ren, zm, za, refs, z8, cst, zq, isC, bin, una, z6, zd, blt, asArg, zf, zc, zg, z1, E.mkS, unN, ze, zn, zb, GS, simprocAttr, GZ, zh, c, c2, hg1, hg2, hp, hn, bne, zj, zL, IH]
theorem TK (a b : Ver) (ha : a.sm) (hb : b.sm) : zk (EV Tryz.prog pol) 92 [.agg (a.enc.map .t), .agg (b.enc.map .t)] = some (.t (.int .i64 (ec a b))) := by
 have d1 := pf a.maj b.maj
 have d2 := pf a.min b.min
 have d3 := pf a.pat b.pat
 have d4 := pf (b.pre.length : Int) (a.pre.length : Int)
 have d5 := pf (a.pre.length : Int) (b.pre.length : Int)
 have L2 := WM a b ha hb a.pre b.pre [] [] rfl rfl rfl
 have L1 := Tq (.int .i64 a.maj) (.int .i64 a.min) (.int .i64 a.pat) (.list 1 (strs a.pre)) (.int .i64 b.maj) (.int .i64 b.min) (.int .i64 b.pat) (.list 1 (strs b.pre)) (wK a.maj b.maj) (wK a.min b.min) (wK a.pat b.pat)
 have e1 := oy a.pre
 have e2 := oy b.pre
 unfold ec vv
 simp only [List.length_nil, Int.natCast_zero] at L2
 simp only [Ver.enc, List.map_cons, List.map_nil] at L1 L2 ⊢
 generalize wK a.maj b.maj = n1 at *
 generalize wK a.min b.min = n2 at *
 generalize wK a.pat b.pat = n3 at *
 cases h1 : (n1 == 0) <;> rw [h1] at L1
 · simp only [cond_false] at L1
   apply zr
   refine zw rfl Tryz.func92 rfl (by kernel_rfl) ?_
   unfold Tryz.f92
   simp (disch := ((try simp only [LL]); omega)) only [↓GO, ↓DRW, GA, GX, ren, zm, za, refs, z8, cst, zq, isC, bin, una, z6, zd, blt, asArg, zf, zc, zg, z1, E.mkS, unN, ze, zn, zb, GS, simprocAttr, GZ, d1, d2, d3, L1, zL]
   refine yN (by kernel_rfl) ?_
   simp (disch := ((try simp only [LL]); omega)) only [↓GO, ↓DRW, GA, GX, ren, zm, za, refs, z8, cst, zq, isC, bin, una, z6, zd, blt, asArg, zf, zc, zg, z1, E.mkS, unN, ze, zn, zb, GS, simprocAttr, GZ, d1, d2, d3, L1, zL]
 · cases h2 : (n2 == 0) <;> rw [h2] at L1
   · simp only [cond_false, cond_true] at L1
     apply zr
     refine zw rfl Tryz.func92 rfl (by kernel_rfl) ?_
     unfold Tryz.f92
     simp (disch := ((try simp only [LL]); omega)) only [↓GO, ↓DRW, GA, GX, ren, zm, za, refs, z8, cst, zq, isC, bin, una, z6, zd, blt, asArg, zf, zc, zg, z1, E.mkS, unN, ze, zn, zb, GS, simprocAttr, GZ, d1, d2, d3, L1, zL]
     refine yN (by kernel_rfl) ?_
     simp (disch := ((try simp only [LL]); omega)) only [↓GO, ↓DRW, GA, GX, ren, zm, za, refs, z8, cst, zq, isC, bin, una, z6, zd, blt, asArg, zf, zc, zg, z1, E.mkS, unN, ze, zn, zb, GS, simprocAttr, GZ, d1, d2, d3, L1, zL]
   · cases h3 : (n3 == 0) <;> rw [h3] at L1
     · simp only [cond_false, cond_true] at L1
       apply zr
       refine zw rfl Tryz.func92 rfl (by kernel_rfl) ?_
       unfold Tryz.f92
       simp (disch := ((try simp only [LL]); omega)) only [↓GO, ↓DRW, GA, GX, ren, zm, za, refs, z8, cst, zq, isC, bin, una, z6, zd, blt, asArg, zf, zc, zg, z1, E.mkS, unN, ze, zn, zb, GS, simprocAttr, GZ, d1, d2, d3, L1, zL]
       refine yN (by kernel_rfl) ?_
       simp (disch := ((try simp only [LL]); omega)) only [↓GO, ↓DRW, GA, GX, ren, zm, za, refs, z8, cst, zq, isC, bin, una, z6, zd, blt, asArg, zf, zc, zg, z1, E.mkS, unN, ze, zn, zb, GS, simprocAttr, GZ, d1, d2, d3, L1, zL]
     · simp only [cond_true] at L1
       cases hs : sK a.pre b.pre <;> rw [hs] at L2 <;> simp only at L2 <;> cases h4 : (a.pre == []) <;> cases h5 : (b.pre == []) <;> rw [h4] at e1 <;> rw [h5] at e2
       all_goals
        apply zr
        refine zw rfl Tryz.func92 rfl (by kernel_rfl) ?_
        unfold Tryz.f92
        simp (disch := ((try simp only [LL]); omega)) only [↓GO, ↓DRW, GA, GX, ren, zm, za, refs, z8, cst, zq, isC, bin, una, z6, zd, blt, asArg, zf, zc, zg, z1, E.mkS, unN, ze, zn, zb, GS, simprocAttr, GZ, d1, d2, d3, d4, d5, L1, L2, zh, e1, e2, zL]
        refine yN (by kernel_rfl) ?_
        simp (disch := ((try simp only [LL]); omega)) only [↓GO, ↓DRW, GA, GX, ren, zm, za, refs, z8, cst, zq, isC, bin, una, z6, zd, blt, asArg, zf, zc, zg, z1, E.mkS, unN, ze, zn, zb, GS, simprocAttr, GZ, d1, d2, d3, d4, d5, L1, L2, zh, e1, e2, zL, Option.getD_some, Option.getD_none]
end Go.Proofs.YtijninlbpifonaaGreatDoor
/- The next version, the range of one alone, by the reference. Conditions: those of each lemma. -/
namespace Go.Proofs.YtijninlbpifonaaGreatDoor
open E
set_option linter.unusedSimpArgs false
set_option linter.unusedVariables false
set_option maxRecDepth 100000
theorem UL (v : Ver) (p : Int) : (upV v p).sm := by
 unfold upV
 cases (p == 0) <;> cases (p == 1) <;> simp [Ver.sm, yh]
theorem VG {v : Ver} (h : v.sm) (p : Int) : (wO v p).sm := by
 unfold wO
 cases (!(yG v) || !(B2 p 0 2)) <;> cases yG (upV v p) <;> simp only [cond_true, cond_false] <;> first | exact h | exact UL v p
theorem TE (v : Ver) (p : Int) (hs : v.sm) (hp : p = 0 ∨ p = 1 ∨ p = 2) (h1 : -1 ≤ v.maj ∧ v.maj ≤ 999999999) (h2 : -1 ≤ v.min ∧ v.min ≤ 999999999) (h3 : -1 ≤ v.pat ∧ v.pat ≤ 999999999) :
 zk (EV Tryz.prog pol) 358 [.agg (v.enc.map .t), .t (.int .i64 p)] = some (.agg ((wO v p).enc.map .t)) := by
 have d1 := dS v hs
 have d2 := dS (upV v p) (UL v p)
 have d3 := w6 p 0 2
 have hb : B2 p 0 2 = true := by rcases hp with rfl | rfl | rfl <;> rfl
 have e1 := oy v.pre
 have ht : List.take (0 + (strs v.pre).length) (strs v.pre) = strs v.pre := List.take_of_length_le (by omega)
 have ht2 : List.take v.pre.length (strs v.pre) = strs v.pre := List.take_of_length_le (by rw [zh]; omega)
 unfold Ver.sm at hs
 rw [hb] at d3
 unfold wO
 rw [hb]
 simp only [Bool.not_true, Bool.or_false]
 cases ho : yG v <;> rw [ho] at d1
 · simp only [Ver.enc, List.map_cons, List.map_nil, Bool.not_false, cond_true] at d1 ⊢
   apply zr
   refine zw rfl Tryz.func358 rfl (by kernel_rfl) ?_
   unfold Tryz.f358
   simp (disch := ((try simp only [LL]); omega)) only [↓GO, ↓DRW, GA, GX, ren, zm, za, refs, z8, cst, zq, isC, bin, una, z6, zd, blt, asArg, zf, zc, zg, z1, E.mkS, unN, ze, zn, zb, GS, simprocAttr, GZ, d1, zh, ht, ht2, xg]
 · simp only [Bool.not_true, cond_false]
   unfold upV at d2 ⊢
   rcases hp with rfl | rfl | rfl
   · simp only [show ((0 : Int) == 0) = true from rfl, cond_true] at d2 ⊢
     cases hu : yG ⟨v.maj + 1, 0, 0, []⟩ <;> rw [hu] at d2 <;> simp only [Ver.enc, List.map_cons, List.map_nil, yc, cond_true, cond_false] at d1 d2 ⊢
     all_goals
      apply zr
      refine zw rfl Tryz.func358 rfl (by kernel_rfl) ?_
      unfold Tryz.f358
      simp (disch := ((try simp only [LL]); omega)) only [↓GO, ↓DRW, GA, GX, ren, zm, za, refs, z8, cst, zq, isC, bin, una, z6, zd, blt, asArg, zf, zc, zg, z1, E.mkS, unN, ze, zn, zb, GS, simprocAttr, GZ, d1, d2, d3, zh, ht, ht2, xg, zj]
   · simp only [show ((1 : Int) == 0) = false from rfl, show ((1 : Int) == 1) = true from rfl, cond_true, cond_false] at d2 ⊢
     cases hu : yG ⟨v.maj, v.min + 1, 0, []⟩ <;> rw [hu] at d2 <;> simp only [Ver.enc, List.map_cons, List.map_nil, yc, cond_true, cond_false] at d1 d2 ⊢
     all_goals
      apply zr
      refine zw rfl Tryz.func358 rfl (by kernel_rfl) ?_
      unfold Tryz.f358
      simp (disch := ((try simp only [LL]); omega)) only [↓GO, ↓DRW, GA, GX, ren, zm, za, refs, z8, cst, zq, isC, bin, una, z6, zd, blt, asArg, zf, zc, zg, z1, E.mkS, unN, ze, zn, zb, GS, simprocAttr, GZ, d1, d2, d3, zh, ht, ht2, xg, zj]
   · simp only [show ((2 : Int) == 0) = false from rfl, show ((2 : Int) == 1) = false from rfl, cond_false] at d2 ⊢
     cases hq : (v.pre == []) <;> rw [hq] at e1 d2 <;> simp only [cond_true, cond_false] at d2 ⊢
     · cases hu : yG ⟨v.maj, v.min, v.pat, []⟩ <;> rw [hu] at d2 <;> simp only [Ver.enc, List.map_cons, List.map_nil, yc, cond_true, cond_false] at d1 d2 ⊢
       all_goals
        apply zr
        refine zw rfl Tryz.func358 rfl (by kernel_rfl) ?_
        unfold Tryz.f358
        simp (disch := ((try simp only [LL]); omega)) only [↓GO, ↓DRW, GA, GX, ren, zm, za, refs, z8, cst, zq, isC, bin, una, z6, zd, blt, asArg, zf, zc, zg, z1, E.mkS, unN, ze, zn, zb, GS, simprocAttr, GZ, d1, d2, d3, e1, zh, ht, ht2, xg, zj]
     · cases hu : yG ⟨v.maj, v.min, v.pat + 1, []⟩ <;> rw [hu] at d2 <;> simp only [Ver.enc, List.map_cons, List.map_nil, yc, cond_true, cond_false] at d1 d2 ⊢
       all_goals
        apply zr
        refine zw rfl Tryz.func358 rfl (by kernel_rfl) ?_
        unfold Tryz.f358
        simp (disch := ((try simp only [LL]); omega)) only [↓GO, ↓DRW, GA, GX, ren, zm, za, refs, z8, cst, zq, isC, bin, una, z6, zd, blt, asArg, zf, zc, zg, z1, E.mkS, unN, ze, zn, zb, GS, simprocAttr, GZ, d1, d2, d3, e1, zh, ht, ht2, xg, zj]
theorem jx (v : Ver) : (yT v).sm := by simp [yT, Ver.sm, yh]
theorem Up (v : Ver) (p : Int) (hs : v.sm) (hp : p = 0 ∨ p = 1 ∨ p = 2) (h1 : -1 ≤ v.maj ∧ v.maj ≤ 999999999) (h2 : -1 ≤ v.min ∧ v.min ≤ 999999999) (h3 : -1 ≤ v.pat ∧ v.pat ≤ 999999999) :
 zk (EV Tryz.prog pol) 328 [.agg (v.enc.map .t), .t (.int .i64 p)] = some (.tup [.t (.str (mw v p).1), .t (.bool (mw v p).2)]) := by
 have d1 := TE (yT v) p (jx v) hp h1 h2 h3
 have d2 := TK (wO (yT v) p) (yT v) (VG (jx v) p) (jx v)
 have d3 := fH ⟨(wO (yT v) p).maj, (wO (yT v) p).min, (wO (yT v) p).pat, [[48]]⟩ (cd _ _ _)
 unfold mw
 generalize ec (wO (yT v) p) (yT v) = cm at *
 generalize yk ⟨(wO (yT v) p).maj, (wO (yT v) p).min, (wO (yT v) p).pat, [[48]]⟩ = tx at *
 generalize wO (yT v) p = nx at *
 simp only [Ver.enc, yT, List.map_cons, List.map_nil, vn, yc] at d1 d2 d3 ⊢
 cases hc : (cm == 0)
 all_goals
  apply zr
  refine zw rfl Tryz.func328 rfl (by kernel_rfl) ?_
  unfold Tryz.f328
  simp (disch := ((try simp only [LL]); omega)) only [↓GO, ↓DRW, GA, GX, ren, zm, za, refs, z8, cst, zq, isC, bin, una, z6, zd, blt, asArg, zf, zc, zg, z1, E.mkS, unN, ze, zn, zb, GS, simprocAttr, GZ, d1, d2, d3, hc, yc]
def alT (s : Str) : V := match ve s with
 | some (l, h) => .tup [.agg [.t (.str l), .t (.str h)], .t (.bool true)]
 | none => .tup [.agg [.t (.str []), .t (.str [])], .t (.bool false)]
theorem XG (s : Str) (hl : s.length ≤ 1048600) : zk (EV Tryz.prog pol) 275 [.t (.str s)] = some (alT s) := by
 have d1 := T4 s (by omega)
 have d2 := T4 (s ++ [46, 48]) (by simp only [List.length_append, List.length_cons, List.length_nil]; omega)
 obtain ⟨m1, m2, m3, m4, m5, m6, m7⟩ := oN s (by omega)
 have d3 := Up (zP s).1 2 m1 (by omega) ⟨m3, m2⟩ ⟨m5, m4⟩ ⟨m7, m6⟩
 have hg := dN (zP s).1.pre
 unfold rvT at d1 d2
 unfold alT ve mB
 cases hk : (zP s).2 with
 | false =>
  rw [hk] at d1
  generalize (zP s).1 = v at *
  simp only [Bool.false_and, cond_false]
  simp only [Ver.enc, List.map_cons, List.map_nil] at d1 ⊢
  apply zr
  refine zw rfl Tryz.func275 rfl (by kernel_rfl) ?_
  unfold Tryz.f275
  simp (disch := ((try simp only [LL]); omega)) only [↓GO, ↓DRW, GA, GX, ren, zm, za, refs, z8, cst, zq, isC, bin, una, z6, zd, blt, asArg, zf, zc, zg, z1, E.mkS, unN, ze, zn, zb, GS, simprocAttr, GZ, d1]
 | true =>
  have ho := (we hk).2.2.1
  rw [hk] at d1
  cases hp : ((zP s).1.pre == []) with
  | true =>
   have hb := XN ho 2 (by omega)
   simp only [show ((2 : Int) == 0) = false from rfl, show ((2 : Int) == 1) = false from rfl, show ((2 : Int) == 2) = true from rfl, cond_true, cond_false] at hb
   rw [hb] at d3
   rw [hp] at hg
   simp only [Bool.not_true, cond_true, Bool.true_and] at hg ⊢
   generalize (zP s).1 = v at *
   generalize xx v.maj v.min (v.pat + 1) = zp at *
   simp only [Ver.enc, List.map_cons, List.map_nil] at d1 d3 ⊢
   clear d2 hb
   cases hz : (zp == []) <;> rw [hz] at d3 <;> simp only [Bool.not_true, Bool.not_false, cond_true, cond_false] at d3 ⊢
   all_goals
    apply zr
    refine zw rfl Tryz.func275 rfl (by kernel_rfl) ?_
    unfold Tryz.f275
    simp (disch := ((try simp only [LL]); omega)) only [↓GO, ↓DRW, GA, GX, ren, zm, za, refs, z8, cst, zq, isC, bin, una, z6, zd, blt, asArg, zf, zc, zg, z1, E.mkS, unN, ze, zn, zb, GS, simprocAttr, GZ, d1, d3, hg, zh]
  | false =>
   obtain ⟨r1, r2⟩ := aE hk (fun h => by rw [h] at hp; cases hp)
   rw [r1] at d2
   rw [hp] at hg
   simp only [Bool.not_false, cond_false, Bool.true_and] at hg ⊢
   rw [r2]
   generalize yG (r6 (zP s).1) = pk at *
   generalize r6 (zP s).1 = pv at *
   generalize (zP s).1 = v at *
   have hne : ((s ++ [46, 48]) == []) = false := by cases s <;> rfl
   simp only [Ver.enc, List.map_cons, List.map_nil] at d1 ⊢
   cases pk <;> simp only [Ver.enc, List.map_cons, List.map_nil, cond_true, cond_false, hne, Bool.not_false, show (([] : Str) == []) = true from rfl, Bool.not_true] at d2 ⊢
   all_goals
    apply zr
    refine zw rfl Tryz.func275 rfl (by kernel_rfl) ?_
    unfold Tryz.f275
    simp (disch := ((try simp only [LL]); omega)) only [↓GO, ↓DRW, GA, GX, ren, zm, za, refs, z8, cst, zq, isC, bin, una, z6, zd, blt, asArg, zf, zc, zg, z1, E.mkS, unN, ze, zn, zb, GS, simprocAttr, GZ, d1, d2, hg, zh, xg]
theorem c_exR (s : Str) (hl : s.length ≤ 1048600) : zk (EV Tryz.prog pol) 217 [.t (.str s)] = some (.t (.list 2 (exT s))) := by
 have d1 := XG s hl
 unfold exT
 unfold alT at d1
 cases he : ve s with
 | none =>
  rw [he] at d1
  simp only at d1 ⊢
  apply zr
  refine zw rfl Tryz.func217 rfl (by kernel_rfl) ?_
  unfold Tryz.f217
  simp (disch := ((try simp only [LL]); omega)) only [↓GO, ↓DRW, GA, GX, ren, zm, za, refs, z8, cst, zq, isC, bin, una, z6, zd, blt, asArg, zf, zc, zg, z1, E.mkS, unN, ze, zn, zb, GS, simprocAttr, GZ, d1]
 | some x =>
  obtain ⟨l, h⟩ := x
  rw [he] at d1
  simp only at d1 ⊢
  apply zr
  refine zw rfl Tryz.func217 rfl (by kernel_rfl) ?_
  unfold Tryz.f217
  simp (disch := ((try simp only [LL]); omega)) only [↓GO, ↓DRW, GA, GX, ren, zm, za, refs, z8, cst, zq, isC, bin, una, z6, zd, blt, asArg, zf, zc, zg, z1, E.mkS, unN, ze, zn, zb, GS, simprocAttr, GZ, d1]
end Go.Proofs.YtijninlbpifonaaGreatDoor

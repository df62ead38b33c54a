/- Joined: V1 N1 V2 N0 N2 K1 K2 P2 K3 K4. Conditions: those of each lemma. -/
import Derived.Test.YtmcephnfcciloaaGreatDoorYF
import Derived.Lib.SplitLaws
import Derived.Lib.ItoaMem
import Derived.Lib.AtoiAll
import Derived.Test.YtmcephnfcciloaaGreatDoorYG
import Derived.Lib.Join
import Derived.Test.YtmcephnfcciloaaGreatDoorYH
set_option linter.unusedVariables false
set_option linter.unusedSimpArgs false
namespace Go.Proofs.YtmcephnfcciloaaGreatDoor
set_option linter.unusedVariables false
set_option linter.unusedSimpArgs false
theorem my (b : UInt8) (s : Str) : Lib.index (b :: s) [b] = 0 := by rw [Lib.index]; simp [List.isPrefixOf]
theorem oO (x b : UInt8) (s : Str) (h : x ≠ b) : Lib.index (x :: s) [b] = if Lib.index s [b] == -1 then -1 else Lib.index s [b] + 1 := by
  have hp : ([b] : List UInt8).isPrefixOf (x :: s) = false := by simp [List.isPrefixOf, Ne.symm h]
  rw [Lib.index, hp]; simp
theorem yX (b : UInt8) : ∀ s : Str, yi b s ≠ []
  | [] => by simp [yi]
  | x :: s => by
    unfold yi
    split
    · simp
    · split <;> simp
theorem wq (b : UInt8) (s : Str) : yi b (b :: s) = [] :: yi b s := by rw [yi, if_pos rfl]
theorem yI (b x : UInt8) (s p : Str) (r : List Str) (h : x ≠ b) (e : yi b s = p :: r) : yi b (x :: s) = (x :: p) :: r := by
  rw [yi, if_neg h, e]
theorem ko (b : UInt8) : ∀ s : Str, Lib.split s [b] = yi b s
  | [] => by
    unfold Lib.split
    rw [Lib.count_miss (by simp [Lib.index])]; rfl
  | x :: s => by
    have ih := ko b s
    unfold Lib.split at ih ⊢
    by_cases h : x = b
    · subst h
      rw [Lib.count_cons_eq, Nat.add_comm, Lib.splitK, my, wq]
      simpa using ih
    · rw [Lib.count_cons_ne x b s h]
      by_cases hm : Lib.index s [b] = -1
      · rw [Lib.count_miss hm] at ih ⊢
        rw [Lib.splitK] at ih ⊢
        exact (yI b x s s [] h ih.symm).symm
      · have hge := Lib.index_ge s [b]
        obtain ⟨j, hj⟩ : ∃ j : Nat, Lib.index s [b] = j := ⟨(Lib.index s [b]).toNat, by omega⟩
        rw [Lib.count_hit (by simp) hj, Nat.add_comm] at ih ⊢
        have hb : (((j : Nat) : Int) == -1) = false := by rw [beq_eq_false_iff_ne]; omega
        have hb2 : (((j : Nat) : Int) + 1 == -1) = false := by rw [beq_eq_false_iff_ne]; omega
        rw [Lib.splitK, hj, hb] at ih
        rw [Lib.splitK, oO x b s h, hj, hb]
        simp only [Bool.false_eq_true, if_false, hb2, Int.toNat_natCast, Nat.add_zero, List.length_cons, List.length_nil, Nat.zero_add] at ih ⊢
        rw [show ((j : Int) + 1).toNat = j + 1 by omega]
        rw [List.take_succ_cons, List.drop_succ_cons]
        exact (yI b x s _ _ h ih.symm).symm
/-- a text cut at the first place of a byte -/
def yl (b : UInt8) : Str → Str × Str × Bool
  | [] => ([], [], false)
  | x :: s => if x = b then ([], s, true) else (x :: (yl b s).1, (yl b s).2.1, (yl b s).2.2)
theorem dt (b : UInt8) : ∀ s : Str, Lib.cut s [b] = yl b s
  | [] => by simp [Lib.cut, yl, Lib.index]
  | x :: s => by
    have ih := dt b s
    by_cases h : x = b
    · subst h
      unfold Lib.cut
      rw [my, yl, if_pos rfl]; simp
    · rw [yl, if_neg h, ← ih]
      unfold Lib.cut
      rw [oO x b s h]
      have hge := Lib.index_ge s [b]
      by_cases hm : Lib.index s [b] = -1
      · rw [hm]; simp
      · obtain ⟨j, hj⟩ : ∃ j : Nat, Lib.index s [b] = j := ⟨(Lib.index s [b]).toNat, by omega⟩
        have hb : (((j : Nat) : Int) == -1) = false := by rw [beq_eq_false_iff_ne]; omega
        rw [hj, hb]
        simp only [Bool.false_eq_true, if_false]
        rw [if_pos (by omega), if_pos (by omega), show ((j : Int) + 1).toNat = j + 1 by omega]
        simp only [List.take_succ_cons, Int.toNat_natCast]
        rw [show j + 1 + [b].length = (j + [b].length) + 1 by simp, List.drop_succ_cons]
theorem r6 (b : UInt8) : ∀ s : Str, s = (yl b s).1 ++ cond (yl b s).2.2 (b :: (yl b s).2.1) []
  | [] => rfl
  | x :: s => by
    rw [yl]
    split
    · rename_i h; rw [h]; rfl
    · have := r6 b s
      show x :: s = (x :: (yl b s).1) ++ _
      rw [List.cons_append, ← this]
theorem lr (b : UInt8) : ∀ s : Str, b ∉ (yl b s).1
  | [] => by simp [yl]
  | x :: s => by
    rw [yl]
    split
    · simp
    · rename_i h
      have := lr b s
      simp only [List.mem_cons, not_or]
      exact ⟨Ne.symm h, this⟩
theorem mG (b : UInt8) : ∀ s : Str, (yl b s).2.2 = false → (yl b s).2.1 = []
  | [], _ => rfl
  | x :: s, h => by
    rw [yl] at h ⊢
    split at h
    · simp at h
    · rename_i hx
      rw [if_neg hx]; exact mG b s h
theorem lu (b : UInt8) (t : Str) : ∀ s : Str, b ∉ s → yl b (s ++ b :: t) = (s, t, true)
  | [], _ => by simp [yl]
  | x :: s, h => by
    simp only [List.mem_cons, not_or] at h
    rw [List.cons_append, yl, if_neg (Ne.symm h.1), lu b t s h.2]
theorem Zz (b : UInt8) : ∀ s : Str, b ∉ s → yl b s = (s, [], false)
  | [], _ => by simp [yl]
  | x :: s, h => by
    simp only [List.mem_cons, not_or] at h
    rw [yl, if_neg (Ne.symm h.1), Zz b s h.2]
theorem uQ (b : UInt8) (t : Str) : ∀ s : Str, yi b (s ++ b :: t) = yi b s ++ yi b t
  | [] => by rw [List.nil_append, wq]; rfl
  | x :: s => by
    have ih := uQ b t s
    rw [List.cons_append]
    by_cases h : x = b
    · subst h; rw [wq, wq, ih]; rfl
    · cases hc : yi b s with
      | nil => exact absurd hc (yX b s)
      | cons p r =>
        rw [hc] at ih
        rw [yI b x s p r h hc, yI b x _ p (r ++ yi b t) h ih]; rfl
theorem nD (b : UInt8) : ∀ s : Str, b ∉ s → yi b s = [s]
  | [], _ => rfl
  | x :: s, h => by
    simp only [List.mem_cons, not_or] at h
    exact yI b x s s [] (Ne.symm h.1) (nD b s h.2)
def rl : Str := [110, 111, 100, 101, 95, 109, 111, 100, 117, 108, 101, 115]
def ua (b : UInt8) : Bool := B2 (nb b) 97 122 || B2 (nb b) 48 57 || nb b == 46 || nb b == 95 || nb b == 45
def ng (s : Str) : Bool := ([64] : Str).isPrefixOf s
def yV (s : Str) : Str := match s with
  | [] => []
  | x :: r => if x = 64 then r else x :: r
/-- as the implementation asks -/
def vZ (sc : Bool) : List Str → Bool
  | [] => true
  | p :: r => (!((p == []) || ((p == rl) && !sc) || !(p.all ua))) && vZ false r
def vx (s : Str) : Bool := vZ (ng s) (yi 47 (yV s)) && decide ((s.length : Int) ≤ 60)
/-- as the reference asks -/
def lL : List Str → Bool
  | [] => true
  | p :: r => (!(p == rl) && (p.all ua && !(p == []))) && lL r
def qn : List Str → Bool
  | [] => true
  | p :: r => (!(p == rl) && ((yV p).all ua && !(yV p == []))) && lL r
theorem sL : ∀ r : List Str, lL r = vZ false r
  | [] => rfl
  | p :: r => by
    rw [lL, vZ, sL r]
    cases (p == []) <;> cases (p == rl) <;> cases (p.all ua) <;> rfl
theorem Yn (s : Str) : (qn (yi 47 s) && decide ((s.length : Int) ≤ 60)) = vx s := by
  unfold vx
  congr 1
  cases s with
  | nil => rfl
  | cons x t =>
    cases hc : yi 47 t with
    | nil => exact absurd hc (yX 47 t)
    | cons p r =>
      by_cases h64 : x = 64
      · subst h64
        rw [yI 47 64 t p r (by decide) hc]
        have h1 : ng (64 :: t) = true := by simp [ng, List.isPrefixOf]
        have h2 : yV (64 :: t) = t := by simp [yV]
        have h3 : yV (64 :: p) = p := by simp [yV]
        have h4 : (((64 : UInt8) :: p) == rl) = false := by simp [rl]
        rw [h1, h2, hc, qn, vZ, h3, h4, sL]
        cases (p == []) <;> cases (p == rl) <;> cases (p.all ua) <;> rfl
      · have h1 : ng (x :: t) = false := by simp [ng, List.isPrefixOf]; exact fun h => h64 h.symm
        have h2 : yV (x :: t) = x :: t := by simp [yV, h64]
        rw [h1, h2]
        by_cases h47 : x = 47
        · subst h47
          rw [wq, qn, vZ, sL]
          rfl
        · rw [yI 47 x t p r h47 hc, qn, vZ, sL]
          have h3 : yV (x :: p) = x :: p := by simp [yV, h64]
          rw [h3]
          cases ((x :: p) == []) <;> cases ((x :: p) == rl) <;> cases ((x :: p).all ua) <;> rfl
def qm (b : UInt8) : Bool := B2 (nb b) 33 126 && (!(nb b == 34) && (!(nb b == 39) && (!(nb b == 44) && !(nb b == 92))))
def wJ (s : Str) : Bool := s.all qm && decide ((s.length : Int) ≤ 100)
end Go.Proofs.YtmcephnfcciloaaGreatDoor
/- The number of a text, plain: both ways of reading it come to the same. Conditions: none. -/
namespace Go.Proofs.YtmcephnfcciloaaGreatDoor
set_option linter.unusedSimpArgs false
set_option linter.unusedVariables false
def isD (c : UInt8) : Bool := decide (48 ≤ c.toNat) && decide (c.toNat ≤ 57)
/-- what digits spell behind a number -/
def qb (a : Nat) (c : UInt8) : Nat := a * 10 + (c.toNat - 48)
def uA (acc : Nat) (l : List UInt8) : Nat := l.foldl qb acc
theorem mQ (acc : Nat) : uA acc [] = acc := rfl
theorem py (acc : Nat) (c : UInt8) (l : List UInt8) : uA acc (c :: l) = uA (qb acc c) l := by
  unfold uA
  rw [List.foldl_cons]
theorem ki (c : UInt8) (l : List UInt8) (acc : Nat) : uA acc (l ++ [c]) = qb (uA acc l) c := by
  unfold uA
  rw [List.foldl_append, List.foldl_cons, List.foldl_nil]
theorem qV (c : UInt8) : isD c = true ↔ 48 ≤ c.toNat ∧ c.toNat ≤ 57 := by simp [isD]
theorem ao (acc : Nat) (c : UInt8) (h : isD c = true) : qb acc c + 1 ≤ (acc + 1) * 10 := by
  have := (qV c).1 h
  unfold qb
  omega
theorem mf (n m : Nat) : m * 10 ^ (n + 1) = m * 10 * 10 ^ n := by rw [Nat.pow_succ, Nat.mul_comm (10 ^ n) 10, Nat.mul_assoc]
theorem nr : ∀ (l : List UInt8) (acc : Nat), l.all isD = true → uA acc l < (acc + 1) * 10 ^ l.length
  | [], acc, _ => by rw [mQ]; simp
  | c :: l, acc, h => by
    rw [List.all_cons, Bool.and_eq_true] at h
    have ih := nr l (qb acc c) h.2
    rw [py, List.length_cons, mf]
    exact Nat.lt_of_lt_of_le ih (Nat.mul_le_mul_right _ (ao acc c h.1))
theorem jn {d : Nat} (h : d < 10) : (UInt8.ofNat (48 + d)).toNat = 48 + d := by
  simp [UInt8.toNat_ofNat']; omega
theorem ud (u : Nat) : (Lib.decDigits u).all isD = true ∧ uA 0 (Lib.decDigits u) = u ∧ Lib.decDigits u ≠ [] := by
  induction u using Nat.strongRecOn with
  | _ u ih =>
    rw [Lib.decDigits]
    split
    · rename_i h
      have := jn h
      refine ⟨?_, ?_, by simp⟩
      · rw [List.all_cons, List.all_nil, Bool.and_true, qV, this]; omega
      · rw [py, mQ, qb, this]; omega
    · rename_i h
      obtain ⟨h1, h2, h3⟩ := ih (u / 10) (by omega)
      have := jn (d := u % 10) (by omega)
      refine ⟨?_, ?_, by simp⟩
      · rw [List.all_append, h1, List.all_cons, List.all_nil, Bool.and_true, Bool.true_and, qV, this]; omega
      · rw [ki, h2, qb, this]; omega
theorem qt : ∀ (l : List UInt8) (acc : Nat), l.all isD = true → (acc + 1) * 10 ^ l.length ≤ 1000000000000000000 → Lib.parseUint10 acc l = .ok (uA acc l)
  | [], acc, _, _ => rfl
  | c :: l, acc, h, hb => by
    rw [List.all_cons, Bool.and_eq_true] at h
    have hp : 0 < 10 ^ l.length := Nat.pos_of_ne_zero (by intro h; simp at h)
    rw [List.length_cons, mf] at hb
    have h10 : (acc + 1) * 10 ≤ 1000000000000000000 := Nat.le_trans (Nat.le_mul_of_pos_right _ hp) hb
    have hc := (qV c).1 h.1
    have ih := qt l (qb acc c) h.2 (Nat.le_trans (Nat.mul_le_mul_right _ (ao acc c h.1)) hb)
    rw [Lib.parseUint10, if_pos hc, if_neg (by omega), if_neg (by omega), py, ← ih]
    rfl
theorem oF : ∀ (k u : Nat), 1 ≤ k → u < 10 ^ k → Lib.nDigits u ≤ k
  | 0, u, h, _ => by omega
  | k + 1, u, _, h => by
    rw [Lib.nDigits]
    split
    · omega
    · have h10 : u / 10 < 10 ^ k := by rw [Nat.pow_succ] at h; omega
      have hk : 1 ≤ k := by
        rcases Nat.eq_zero_or_pos k with rfl | h
        · simp at h10; omega
        · exact h
      have := oF k (u / 10) hk h10
      omega
theorem tX {u : Nat} (h : u ≤ 999999999) : (Lib.decDigits u).length ≤ 9 := by
  rw [Lib.decDigits_length]
  exact oF 9 u (by omega) (by omega)
theorem gD {u : Nat} (h : u ≤ 999999999) : Lib.atoiAll (Lib.decDigits u) = .ok (u : Int) := by
  obtain ⟨h1, h2, h3⟩ := ud u
  have hl := tX h
  generalize Lib.decDigits u = l at *
  cases l with
  | nil => exact absurd rfl h3
  | cons c r =>
    have hc : isD c = true := by simp only [List.all_cons, Bool.and_eq_true] at h1; exact h1.1
    simp only [isD, Bool.and_eq_true, decide_eq_true_eq] at hc
    have hp : Lib.parseMag (c :: r) = .ok u := by
      unfold Lib.parseMag
      have : (10 : Nat) ^ (c :: r).length ≤ 10 ^ 9 := Nat.pow_le_pow_right (by omega) hl
      have e9 : (10 : Nat) ^ 9 = 1000000000 := by decide
      rw [if_neg (by simp), qt _ 0 h1 (by omega), h2]
    unfold Lib.atoiAll
    simp only
    rw [if_neg (by omega), hp]
    simp only
    rw [if_neg (by omega), if_neg (by omega), if_neg (by omega)]
/-- the number of a text, or -1 -/
def zP (s : List UInt8) : Int :=
  match Lib.atoiAll s with
  | .ok v => cond ((decide (0 ≤ v) && decide (v ≤ 999999999)) && (Lib.itoa v == s)) v (-1)
  | _ => -1
/-- the same, by the digits -/
def sW (s : List UInt8) : Int := cond ((s.all isD && decide (s.length ≤ 9)) && (!(s == []) && (Lib.itoa (uA 0 s : Nat) == s))) (uA 0 s : Nat) (-1)
theorem vH {u : Nat} (h : u ≤ 999999999) : zP (Lib.decDigits u) = u ∧ sW (Lib.decDigits u) = u := by
  obtain ⟨h1, h2, h3⟩ := ud u
  have hl := tX h
  refine ⟨?_, ?_⟩
  · unfold zP
    rw [gD h]
    simp only
    rw [Lib.itoa_nonneg]
    have e1 : decide ((0 : Int) ≤ (u : Int)) = true := by simp
    have e2 : decide ((u : Int) ≤ 999999999) = true := by simp; omega
    rw [e1, e2]; simp
  · unfold sW
    rw [h1, h2, Lib.itoa_nonneg]
    have e1 : decide ((Lib.decDigits u).length ≤ 9) = true := by simpa using hl
    have e2 : (Lib.decDigits u == []) = false := by simpa using h3
    rw [e1, e2]; simp
theorem Yg {s : List UInt8} (h : ∀ u, u ≤ 999999999 → s ≠ Lib.decDigits u) : zP s = -1 ∧ sW s = -1 := by
  refine ⟨?_, ?_⟩
  · unfold zP
    split
    · rename_i v hv
      cases hc : ((decide (0 ≤ v) && decide (v ≤ 999999999)) && (Lib.itoa v == s)) with
      | false => rfl
      | true =>
        simp only [Bool.and_eq_true, decide_eq_true_eq] at hc
        obtain ⟨⟨c1, c2⟩, c3⟩ := hc
        obtain ⟨u, rfl⟩ : ∃ u : Nat, v = u := ⟨v.toNat, by omega⟩
        rw [Lib.itoa_nonneg] at c3
        exact absurd (eq_of_beq c3).symm (h u (by omega))
    · rfl
  · unfold sW
    cases hc : ((s.all isD && decide (s.length ≤ 9)) && (!(s == []) && (Lib.itoa (uA 0 s : Nat) == s))) with
    | false => rfl
    | true =>
      simp only [Bool.and_eq_true, decide_eq_true_eq] at hc
      obtain ⟨⟨c1, c2⟩, c3, c4⟩ := hc
      rw [Lib.itoa_nonneg] at c4
      have hv := nr s 0 c1
      have : (10 : Nat) ^ s.length ≤ 10 ^ 9 := Nat.pow_le_pow_right (by omega) c2
      have e9 : (10 : Nat) ^ 9 = 1000000000 := by decide
      exact absurd (eq_of_beq c4).symm (h _ (by omega))
theorem Y8 (s : List UInt8) : sW s = zP s := by
  by_cases h : ∃ u, u ≤ 999999999 ∧ s = Lib.decDigits u
  · obtain ⟨u, hu, rfl⟩ := h
    obtain ⟨h1, h2⟩ := vH hu
    rw [h1, h2]
  · obtain ⟨h1, h2⟩ := Yg (s := s) fun u hu he => h ⟨u, hu, he⟩
    rw [h1, h2]
end Go.Proofs.YtmcephnfcciloaaGreatDoor
/- Versions, packs, graphs, plain. Conditions: none. -/
namespace Go.Proofs.YtmcephnfcciloaaGreatDoor
open E
set_option linter.unusedVariables false
set_option linter.unusedSimpArgs false
set_option maxRecDepth 100000
theorem wH (a b : UInt8) (x y : Str) : Op.bytesLess (a :: x) (b :: y) = (decide (a < b) || (a == b && Op.bytesLess x y)) := by
  rw [Op.bytesLess]
/-- '<=' on texts, said by '<' -/
theorem r5 : ∀ x y : Str, (Op.bytesLess x y || x == y) = !(Op.bytesLess y x)
  | [], [] => rfl
  | [], b :: y => by simp [Op.bytesLess]
  | a :: x, [] => by simp [Op.bytesLess]
  | a :: x, b :: y => by
    have ih := r5 x y
    rw [wH, wH]
    by_cases h1 : a < b
    · have h2 : ¬ b < a := by simp only [UInt8.lt_iff_toNat_lt] at h1 ⊢; omega
      have h3 : (b == a) = false := by
        rw [beq_eq_false_iff_ne]; intro h; subst h; simp only [UInt8.lt_iff_toNat_lt] at h1; omega
      simp [h1, h2, h3]
    · by_cases h2 : b < a
      · have h3 : (a == b) = false := by
          rw [beq_eq_false_iff_ne]; intro h; subst h; simp only [UInt8.lt_iff_toNat_lt] at h2; omega
        have h4 : ((a :: x) == (b :: y)) = false := by
          rw [beq_eq_false_iff_ne]; intro h; cases h; simp at h3
        simp [h1, h2, h3, h4]
      · have h3 : a = b := by
          apply UInt8.toNat_inj.1; simp only [UInt8.lt_iff_toNat_lt] at h1 h2; omega
        subst h3
        have e : ((a :: x) == (a :: y)) = (x == y) := by
          rw [Bool.eq_iff_iff]; simp
        simp only [h1, decide_false, Bool.false_or, beq_self_eq_true, Bool.true_and, e, ih]
theorem xR (b : UInt8) : ∀ s : Str, yk (yi b s) + (yi b s).length ≤ s.length + 1
  | [] => by simp [yi, yk]
  | x :: s => by
    have ih := xR b s
    by_cases h : x = b
    · subst h; rw [wq]; simp only [yk, List.length_cons, List.length_nil]; omega
    · cases hc : yi b s with
      | nil => exact absurd hc (yX b s)
      | cons p r =>
        rw [hc] at ih
        rw [yI b x s p r h hc]
        simp only [yk, List.length_cons] at ih ⊢; omega
theorem qO (b : UInt8) (s : Str) : (yl b s).1.length ≤ s.length ∧ (yl b s).2.1.length ≤ s.length := by
  have h := r6 b s
  have h2 := congrArg List.length h
  rw [List.length_append] at h2
  cases hc : (yl b s).2.2 with
  | true => rw [hc] at h2; simp only [cond_true, List.length_cons] at h2; omega
  | false =>
    have := mG b s hc
    rw [this]; simp only [List.length_nil]; omega
theorem wb : ∀ {ks : List Str} {s : Str}, s ∈ ks → s.length ≤ yk ks
  | k :: ks, s, h => by
    simp only [yk]
    rcases List.mem_cons.1 h with rfl | h
    · omega
    · have := wb h; omega
theorem lA : ∀ a b : List Str, yk (a ++ b) = yk a + yk b
  | [], b => by simp [yk]
  | x :: a, b => by simp only [List.cons_append, yk, lA a b]; omega
theorem kT : ∀ l : List Str, Lib.lens l = yk l
  | [] => rfl
  | x :: l => by
    have := kT l
    simp only [yk, ← this]; simp [Lib.lens]
theorem join_le (sep : Str) : ∀ l : List Str, (Lib.join l sep).length ≤ yk l + sep.length * l.length
  | [] => by simp [Lib.join_nil]
  | x :: r => by rw [Lib.join_length, kT]; simp only [List.length_cons, Nat.mul_add, Nat.mul_one]; omega
theorem mw (sep : Str) (x : Str) (l : List Str) (y : Str) : Lib.join (x :: l ++ [y]) sep = Lib.join (x :: l) sep ++ (sep ++ y) := by
  rw [List.cons_append, Lib.join_cons, Lib.join_cons]; simp [Lib.joinTail]
structure Ver where
  maj : Int
  min : Int
  pat : Int
  pre : List Str
def Ver.enc (v : Ver) : List T := [.int .i64 v.maj, .int .i64 v.min, .int .i64 v.pat, .list 1 (zV v.pre)]
def Ver.zero : Ver := ⟨0, 0, 0, []⟩
def preB (b : UInt8) : Bool := (B2 (nb b) 97 122 || B2 (nb b) 48 57) || (B2 (nb b) 65 90 || nb b == 45)
def isNum (s : Str) : Bool := !(s == []) && s.all isD
def wA (p : Str) : Bool := B2 (p.length : Int) 1 20 && (p.all preB && (!(isNum p) || decide (0 ≤ zP p)))
def n9 (n : Int) : Bool := B2 n 0 999999999
def yw (v : Ver) : Bool := (n9 v.maj && (n9 v.min && n9 v.pat)) && (v.pre.all wA && decide ((v.pre.length : Int) ≤ 5))
def vr (v : Ver) : Str := (((Lib.itoa v.maj ++ [46]) ++ Lib.itoa v.min) ++ [46]) ++ Lib.itoa v.pat
def wh (c : Str) (pre : List Str) : Str := cond (pre == []) c (c ++ ([45] ++ Lib.join pre [46]))
def yb (v : Ver) : Str := cond (yw v) (wh (vr v) v.pre) []
def w6 (s : Str) : Option Ver :=
  match yi 46 (yl 45 s).1 with
  | [a, b, c] => some ⟨zP a, zP b, zP c, cond (yl 45 s).2.2 (yi 46 (yl 45 s).2.1) []⟩
  | _ => none
def zM (s : Str) : Ver × Bool :=
  match w6 s with
  | some v => cond (yb v == s) (v, true) (Ver.zero, false)
  | none => (Ver.zero, false)
theorem eg {s : Str} {v : Ver} (h : w6 s = some v) : s ≠ [] := by
  intro e; subst e; simp [w6, yl, yi] at h
theorem yv {s : Str} (h : (zM s).2 = true) : w6 s = some (zM s).1 ∧ yb (zM s).1 = s ∧ yw (zM s).1 = true ∧ s ≠ [] := by
  unfold zM at h ⊢
  cases hm : w6 s with
  | none => rw [hm] at h; cases h
  | some v =>
    rw [hm] at h
    simp only at h ⊢
    have hs := eg hm
    cases hc : (yb v == s) with
    | false => rw [hc] at h; cases h
    | true =>
      have he := eq_of_beq hc
      simp only [cond_true]
      refine ⟨trivial, he, ?_, hs⟩
      cases hv : yw v with
      | true => rfl
      | false => unfold yb at he; rw [hv] at he; exact absurd he.symm hs
theorem lU {s : Str} (h : (zM s).2 = false) : (zM s).1 = Ver.zero := by
  unfold zM at h ⊢
  cases hm : w6 s with
  | none => rfl
  | some v =>
    rw [hm] at h
    simp only at h ⊢
    cases hc : (yb v == s) with
    | true => rw [hc] at h; cases h
    | false => rfl
theorem o7 (n : Int) : n9 n = true ↔ 0 ≤ n ∧ n ≤ 999999999 := by simp [n9]
theorem wg {v : Ver} (h : yw v = true) : (0 ≤ v.maj ∧ v.maj ≤ 999999999) ∧ (0 ≤ v.min ∧ v.min ≤ 999999999) ∧ (0 ≤ v.pat ∧ v.pat ≤ 999999999) ∧ v.pre.all wA = true ∧ v.pre.length ≤ 5 := by
  unfold yw at h
  simp only [Bool.and_eq_true, o7, decide_eq_true_eq] at h
  obtain ⟨⟨h1, h2, h3⟩, h4, h5⟩ := h
  exact ⟨h1, h2, h3, h4, by omega⟩
theorem xy (s : Str) : -1 ≤ zP s ∧ zP s ≤ 999999999 := by
  unfold zP
  split
  · rename_i v _
    cases hc : ((decide (0 ≤ v) && decide (v ≤ 999999999)) && (Lib.itoa v == s)) with
    | false => simp
    | true =>
      simp only [Bool.and_eq_true, decide_eq_true_eq] at hc
      simp only [cond_true]; omega
  · simp
/-- with one number more behind -/
def sD (v : Ver) : Ver := ⟨v.maj, v.min, v.pat, v.pre ++ [[48]]⟩
theorem Y4 (c : Str) (x : Str) (l : List Str) : wh c ((x :: l) ++ [[48]]) = wh c (x :: l) ++ [46, 48] := by
  unfold wh
  rw [mw]
  simp
theorem beq_nil_cons {α : Type} [BEq α] (x : α) (l : List α) : ((x :: l) == []) = false := rfl
/-- a version's text with '.0' behind is read as the version with one part more, where that is right -/
theorem kv {s : Str} (h : (zM s).2 = true) (hp : (zM s).1.pre ≠ []) :
    zM (s ++ [46, 48]) = cond (yw (sD (zM s).1)) (sD (zM s).1, true) (Ver.zero, false) ∧ yb (sD (zM s).1) = cond (yw (sD (zM s).1)) (s ++ [46, 48]) [] := by
  obtain ⟨hm, ht, ho, hs⟩ := yv h
  generalize (zM s).1 = v at *
  have hmk : w6 (s ++ [46, 48]) = some (sD v) := by
    unfold w6 at hm ⊢
    have he := r6 45 s
    have hn := lr 45 s
    cases hc : (yl 45 s).2.2 with
    | false =>
      rw [hc] at hm
      split at hm
      · cases hm; exact absurd rfl hp
      · cases hm
    | true =>
      rw [hc] at hm he
      simp only [cond_true] at he
      have h2 : yl 45 (s ++ [46, 48]) = ((yl 45 s).1, (yl 45 s).2.1 ++ [46, 48], true) := by
        conv => lhs; rw [he]
        rw [List.append_assoc, List.cons_append]
        exact lu 45 _ _ hn
      rw [h2]
      simp only
      split at hm
      · cases hm
        simp only [cond_true]
        rw [show (yl 45 s).2.1 ++ [46, 48] = (yl 45 s).2.1 ++ 46 :: [48] from rfl, uQ]
        rfl
      · cases hm
  have htx : yb (sD v) = cond (yw (sD v)) (s ++ [46, 48]) [] := by
    have ht' := ht
    unfold yb at ht' ⊢
    rw [ho] at ht'
    simp only [cond_true] at ht'
    congr 1
    rw [← ht']
    cases hv : v.pre with
    | nil => exact absurd hv hp
    | cons x l =>
      show wh (vr v) (v.pre ++ [[48]]) = _
      rw [hv]
      exact Y4 _ x l
  refine ⟨?_, htx⟩
  unfold zM
  rw [hmk]
  simp only
  rw [htx]
  cases hk : yw (sD v) with
  | true => simp
  | false =>
    simp only [cond_false]
    have : (([] : Str) == s ++ [46, 48]) = false := by rw [beq_eq_false_iff_ne]; intro e; have := congrArg List.length e; simp at this
    rw [this]; rfl
/-- the text that a version ends ahead of, where it stands alone -/
def ye (a b c : Int) : Str := yb ⟨a, b, c, [[48]]⟩
def uY (v : Ver) : Str := cond (v.pre == []) (ye v.maj v.min (v.pat + 1)) (yb (sD v))
def x6 (s : Str) : Option (Str × Str) := cond ((zM s).2 && !(uY (zM s).1 == [])) (some (s, uY (zM s).1)) none
def upV (v : Ver) (part : Int) : Ver := cond (part == 0) ⟨v.maj + 1, 0, 0, []⟩ (cond (part == 1) ⟨v.maj, v.min + 1, 0, []⟩ ⟨v.maj, v.min, cond (v.pre == []) (v.pat + 1) v.pat, []⟩)
def v8 (v : Ver) (part : Int) : Ver := cond (!(yw v) || !(B2 part 0 2)) v (cond (yw (upV v part)) (upV v part) v)
def xb (a b : Int) : Int := cond (decide (a < b)) (-1) (cond (decide (a > b)) 1 0)
def mI (a b : Str) : Int := cond (Op.bytesLess a b) (-1) (cond (!(Op.bytesLess a b || a == b)) 1 0)
def ZC (a b : Str) : Int := cond (decide (zP a ≥ 0) && decide (zP b ≥ 0)) (xb (zP a) (zP b)) (cond (decide (zP a ≥ 0)) (-1) (cond (decide (zP b ≥ 0)) 1 (mI a b)))
/-- the first place at which parts differ -/
def qc : List Str → List Str → Option Int
  | a :: l, b :: m => cond (ZC a b == 0) (qc l m) (some (ZC a b))
  | _, _ => none
def Tb (a b : List Str) : Int := (qc a b).getD (xb (a.length : Int) (b.length : Int))
def qj (a b : Ver) : Int :=
  cond (xb a.maj b.maj == 0) (cond (xb a.min b.min == 0) (cond (xb a.pat b.pat == 0)
    (cond (a.pre == [] || b.pre == []) (xb (b.pre.length : Int) (a.pre.length : Int)) (Tb a.pre b.pre))
    (xb a.pat b.pat)) (xb a.min b.min)) (xb a.maj b.maj)
theorem uJ (a b : Int) : (xb a b == 0) = (a == b) := by
  unfold xb
  by_cases h1 : a < b
  · simp [h1]; omega
  · by_cases h2 : a > b
    · simp [h1, h2]; omega
    · simp [h1, h2]; omega
theorem uR (a b c a' b' c' : Int) : (qj ⟨a, b, c, []⟩ ⟨a', b', c', []⟩ == 0) = (a == a' && (b == b' && c == c')) := by
  unfold qj
  simp only [uJ]
  cases h1 : (a == a') with
  | false => simp only [cond_false]; rw [uJ, h1]; rfl
  | true =>
    cases h2 : (b == b') with
    | false => simp only [cond_true, cond_false]; rw [uJ, h2]; rfl
    | true =>
      cases h3 : (c == c') with
      | false => simp only [cond_true, cond_false]; rw [uJ, h3]; rfl
      | true => rfl
def x8 (v : Ver) : Ver := ⟨v.maj, v.min, v.pat, []⟩
def vy (v : Ver) (part : Int) : Str × Bool := cond (qj (v8 (x8 v) part) (x8 v) == 0) ([], false) (yb ⟨(v8 (x8 v) part).maj, (v8 (x8 v) part).min, (v8 (x8 v) part).pat, [[48]]⟩, true)
theorem Tz : wA [48] = true := by
  unfold wA
  have h1 : ([48] : Str).all preB = true := by decide
  have h2 : decide (0 ≤ zP [48]) = true := by
    have := (vH (u := 0) (by omega)).1
    rw [show Lib.decDigits 0 = [48] by rw [Lib.decDigits_one (by omega)]; rfl] at this
    rw [this]; rfl
  rw [h1, h2]; simp
theorem ca (v : Ver) : yw (x8 v) = (n9 v.maj && (n9 v.min && n9 v.pat)) := by simp [yw, x8]
theorem vP (a b c : Int) : yw ⟨a, b, c, [[48]]⟩ = (n9 a && (n9 b && n9 c)) := by simp [yw, Tz]
theorem te (a b c : Int) : (ye a b c == []) = !(n9 a && (n9 b && n9 c)) := by
  unfold ye yb
  rw [vP]
  cases (n9 a && (n9 b && n9 c)) with
  | false => rfl
  | true => simp [wh, vr]
/-- the next one of a part is told by both in one way -/
theorem vX {v : Ver} (ho : yw v = true) (part : Int) (hp : part = 0 ∨ part = 1 ∨ part = 2) :
    vy v part = (let h := ye (cond (part == 0) (v.maj + 1) v.maj) (cond (part == 0) 0 (cond (part == 1) (v.min + 1) v.min)) (cond (part == 2) (v.pat + 1) 0); (h, !(h == []))) := by
  obtain ⟨h1, h2, h3, _, _⟩ := wg ho
  have hb : yw (x8 v) = true := by
    rw [ca]; simp only [Bool.and_eq_true, o7]; exact ⟨h1, h2, h3⟩
  have n1 : n9 v.maj = true := (o7 _).2 h1
  have n2 : n9 v.min = true := (o7 _).2 h2
  have n3 : n9 v.pat = true := (o7 _).2 h3
  have n0 : n9 0 = true := by decide
  unfold vy v8
  rw [hb]
  rcases hp with rfl | rfl | rfl
  · have e : upV (x8 v) 0 = ⟨v.maj + 1, 0, 0, []⟩ := rfl
    rw [e]
    simp only [Bool.not_true, Bool.false_or, show B2 0 0 2 = true from rfl, cond_false]
    rw [show yw ⟨v.maj + 1, 0, 0, []⟩ = n9 (v.maj + 1) by simp [yw, n0]]
    simp only [show ((0 : Int) == 0) = true from rfl, cond_true, show ((0 : Int) == 2) = false from rfl, cond_false]
    rw [te, n0]
    cases hn : n9 (v.maj + 1) with
    | true =>
      have : (v.maj + 1 == v.maj) = false := by rw [beq_eq_false_iff_ne]; omega
      simp only [cond_true, x8, uR, this]
      simp [ye]
    | false =>
      simp [uR, ye, yb, vP, hn, x8]
  · have e : upV (x8 v) 1 = ⟨v.maj, v.min + 1, 0, []⟩ := rfl
    rw [e]
    simp only [Bool.not_true, Bool.false_or, show B2 1 0 2 = true from rfl, cond_false]
    rw [show yw ⟨v.maj, v.min + 1, 0, []⟩ = n9 (v.min + 1) by simp [yw, n0, n1]]
    simp only [show ((1 : Int) == 0) = false from rfl, show ((1 : Int) == 1) = true from rfl, cond_true, show ((1 : Int) == 2) = false from rfl, cond_false]
    rw [te, n0, n1]
    cases hn : n9 (v.min + 1) with
    | true =>
      have : (v.min + 1 == v.min) = false := by rw [beq_eq_false_iff_ne]; omega
      simp only [cond_true, x8, uR, this]
      simp [ye]
    | false =>
      simp [uR, ye, yb, vP, hn, x8]
  · have e : upV (x8 v) 2 = ⟨v.maj, v.min, v.pat + 1, []⟩ := rfl
    rw [e]
    simp only [Bool.not_true, Bool.false_or, show B2 2 0 2 = true from rfl, cond_false]
    rw [show yw ⟨v.maj, v.min, v.pat + 1, []⟩ = n9 (v.pat + 1) by simp [yw, n1, n2]]
    simp only [show ((2 : Int) == 0) = false from rfl, show ((2 : Int) == 1) = false from rfl, cond_true, show ((2 : Int) == 2) = true from rfl, cond_false]
    rw [te, n1, n2]
    cases hn : n9 (v.pat + 1) with
    | true =>
      have : (v.pat + 1 == v.pat) = false := by rw [beq_eq_false_iff_ne]; omega
      simp only [cond_true, x8, uR, this]
      simp [ye]
    | false =>
      simp [uR, ye, yb, vP, hn, x8]
end Go.Proofs.YtmcephnfcciloaaGreatDoor
/- Numbers' texts, by both. Conditions: those of each lemma. -/
namespace Go.Proofs.YtmcephnfcciloaaGreatDoor
open E
set_option linter.unusedSimpArgs false
set_option linter.unusedVariables false
set_option maxRecDepth 100000
theorem mr : ∀ (k u : Nat), 1 ≤ k → u < 10 ^ k → Lib.nDigits u ≤ k
  | 0, u, h, _ => by omega
  | k + 1, u, _, h => by
    rw [Lib.nDigits]
    split
    · omega
    · have h10 : u / 10 < 10 ^ k := by rw [Nat.pow_succ] at h; omega
      have hk : 1 ≤ k := by
        rcases Nat.eq_zero_or_pos k with rfl | h
        · simp at h10; omega
        · exact h
      have := mr k (u / 10) hk h10
      omega
theorem wI (n : Int) (h0 : 0 ≤ n) (h1 : n ≤ 999999999) : (Lib.itoa n).length ≤ 9 := by
  obtain ⟨u, rfl⟩ : ∃ u : Nat, n = u := ⟨n.toNat, by omega⟩
  rw [Lib.itoa_nonneg, Lib.decDigits_length]
  exact mr 9 u (by omega) (by omega)
theorem hJ (n : Int) (h0 : 0 ≤ n) (h1 : n ≤ 999999999) : zC (EV Tryz.prog pol) 163 [.t (.int .i64 n)] = some (.t (.str (Lib.itoa n))) := by
  have h := RR n (by omega) (by omega)
  apply zw
  refine zy rfl Tryz.func163 rfl (by kernel_rfl) ?_
  unfold Tryz.f163
  simp only [↓GO, ↓DRW, GA, ren, zA, zd, refs, zb, cst, zl, zG, z7, E.load, E.store, zF, isC, bin, zH, zI, una, z8, za, zh, zJ, blt, fnV, asArg, ze, zn, zo, zj, zi, zg, zk, zr, z6, zD, zE, E.mkS, zc, unN, zK, zm, zz, zB, zf, zL, zq, GS, simprocAttr, h]
/-- the digits of a number, none for 0 -/
def Zv (m : Nat) : Str := if m = 0 then [] else Lib.decDigits m
theorem YA (m : Nat) (h : m ≠ 0) : Zv m = Zv (m / 10) ++ [UInt8.ofNat (48 + m % 10)] := by
  unfold Zv
  rw [if_neg h]
  by_cases h10 : m < 10
  · rw [if_pos (by omega), Lib.decDigits_one h10, show m % 10 = m by omega]; rfl
  · rw [if_neg (by omega)]
    conv => lhs; rw [Lib.decDigits]
    rw [dif_neg h10]
theorem Wq (d : Nat) (h : d < 10) : (List.drop d [48, 49, 50, 51, 52, 53, 54, 55, 56, 57]).take (d + 1 - d) = [UInt8.ofNat (48 + d)] := by
  have : d = 0 ∨ d = 1 ∨ d = 2 ∨ d = 3 ∨ d = 4 ∨ d = 5 ∨ d = 6 ∨ d = 7 ∨ d = 8 ∨ d = 9 := by omega
  rcases this with rfl | rfl | rfl | rfl | rfl | rfl | rfl | rfl | rfl | rfl <;> rfl
theorem R2 (n : Int) : ∀ (N m : Nat) (out : Str), m ≤ N → m ≤ 999999999 → out.length + m ≤ 1000000000 →
    EV Tryz.prog pol (.loop 152 124 0 [.t (.int .i64 n), .t (.str out), .t (.int .i64 (m : Int))] [])
    = some (.loop (.exit 0) [.t (.int .i64 n), .t (.str (Zv m ++ out))] [])
  | N, 0, out, h, h1, h2 => by
    refine zu Tryz.func152 rfl rfl ?_
    simp only [↓GO, ↓DRW, GA, ren, zA, zd, refs, zb, cst, zl, zG, z7, E.load, E.store, zF, isC, bin, zH, zI, una, z8, za, zh, zJ, blt, fnV, asArg, ze, zn, zo, zj, zi, zg, zk, zr, z6, zD, zE, E.mkS, zc, unN, zK, zm, zz, zB, zf, zL, zq, GS, simprocAttr, Int.natCast_zero, bne_self_eq_false, Zv, if_true]
  | 0, m + 1, out, h, h1, h2 => by omega
  | N + 1, m + 1, out, h, h1, h2 => by
    generalize hm : m + 1 = x at *
    have c : (((x : Nat) : Int) == 0) = false := by simp; omega
    have e1 : ((x : Nat) : Int).tmod 10 = ((x % 10 : Nat) : Int) := (Int.ofNat_tmod x 10).symm
    have e2 : ((x : Nat) : Int).tdiv 10 = ((x / 10 : Nat) : Int) := (Int.ofNat_tdiv x 10).symm
    have hd : x % 10 < 10 := Nat.mod_lt _ (by omega)
    have c2 : decide (((x % 10 : Nat) : Int) < 0) = false := by simp only [decide_eq_false_iff_not]; omega
    have hdig := Wq (x % 10) hd
    have IH := R2 n N (x / 10) (UInt8.ofNat (48 + x % 10) :: out) (by omega) (by omega) (by simp only [List.length_cons]; omega)
    rw [YA x (by omega), List.append_assoc]
    rw [show [UInt8.ofNat (48 + x % 10)] ++ out = UInt8.ofNat (48 + x % 10) :: out from rfl]
    generalize UInt8.ofNat (48 + x % 10) = bd at *
    have w1 : IntKind.i64.wrap (((x % 10 : Nat) : Int) + 1) = ((x % 10 + 1 : Nat) : Int) := by rw [zx (by omega)]; omega
    have w2 : IntKind.i64.wrap ((x / 10 : Nat) : Int) = ((x / 10 : Nat) : Int) := zx (by omega)
    generalize x % 10 = xd at *
    generalize x / 10 = xq at *
    refine zu Tryz.func152 rfl rfl ?_
    simp (disch := ((try simp only [LL]); omega)) only [↓GO, ↓DRW, GA, ren, zA, zd, refs, zb, cst, zl, zG, z7, E.load, E.store, zF, isC, bin, zH, zI, una, z8, za, zh, zJ, blt, fnV, asArg, ze, zn, zo, zj, zi, zg, zk, zr, z6, zD, zE, E.mkS, zc, unN, zK, zm, zz, zB, zf, zL, zq, GS, simprocAttr, bne, c, e1, e2, c2, w1, w2, hdig, xK, IH]
theorem iZ (n : Int) (h0 : 0 ≤ n) (h1 : n ≤ 999999999) : zC (EV Tryz.prog pol) 152 [.t (.int .i64 n)] = some (.t (.str (Lib.itoa n))) := by
  obtain ⟨u, rfl⟩ : ∃ u : Nat, n = u := ⟨n.toNat, by omega⟩
  have IH := R2 u u u [] (Nat.le_refl _) (by omega) (by simp; omega)
  rw [List.append_nil] at IH
  rw [Lib.itoa_nonneg]
  have c2 : decide ((u : Int) < 0) = false := by simp only [decide_eq_false_iff_not]; omega
  apply zw
  refine zy rfl Tryz.func152 rfl (by kernel_rfl) ?_
  unfold Tryz.f152
  by_cases hu : u = 0
  · subst hu
    rw [show Lib.decDigits 0 = [48] by rw [Lib.decDigits_one (by omega)]; rfl]
    simp only [↓GO, ↓DRW, GA, ren, zA, zd, refs, zb, cst, zl, zG, z7, E.load, E.store, zF, isC, bin, zH, zI, una, z8, za, zh, zJ, blt, fnV, asArg, ze, zn, zo, zj, zi, zg, zk, zr, z6, zD, zE, E.mkS, zc, unN, zK, zm, zz, zB, zf, zL, zq, GS, simprocAttr, Int.natCast_zero]
  · have c : ((u : Int) == 0) = false := by simp; omega
    rw [show Lib.decDigits u = Zv u by simp [Zv, hu]]
    simp only [↓GO, ↓DRW, GA, ren, zA, zd, refs, zb, cst, zl, zG, z7, E.load, E.store, zF, isC, bin, zH, zI, una, z8, za, zh, zJ, blt, fnV, asArg, ze, zn, zo, zj, zi, zg, zk, zr, z6, zD, zE, E.mkS, zc, unN, zK, zm, zz, zB, zf, zL, zq, GS, simprocAttr, c, IH, c2]
end Go.Proofs.YtmcephnfcciloaaGreatDoor
/- The number of a text, by both. Conditions: those of each lemma. -/
namespace Go.Proofs.YtmcephnfcciloaaGreatDoor
open E
set_option linter.unusedSimpArgs false
set_option linter.unusedVariables false
set_option maxRecDepth 100000
theorem bU (c : UInt8) : B2 (c.toNat : Int) 48 57 = isD c := by
  unfold B2 isD
  congr 1 <;> rw [decide_eq_decide] <;> omega
theorem lQ (s : Str) (hl : s.length ≤ 281474976710656) : zC (EV Tryz.prog pol) 135 [.t (.str s)] = some (.t (.int .i64 (zP s))) := by
  have hat := RW s hl
  apply zw
  refine zy rfl Tryz.func135 rfl (by kernel_rfl) ?_
  unfold Tryz.f135
  unfold zP
  cases ha : Lib.atoiAll s with
  | range => rw [ha] at hat; simp only at hat ⊢; simp (disch := ((try simp only [LL]); omega)) only [↓GO, ↓DRW, GA, ren, zA, zd, refs, zb, cst, zl, zG, z7, E.load, E.store, zF, isC, bin, zH, zI, una, z8, za, zh, zJ, blt, fnV, asArg, ze, zn, zo, zj, zi, zg, zk, zr, z6, zD, zE, E.mkS, zc, unN, zK, zm, zz, zB, zf, zL, zq, GS, simprocAttr, hat]
  | ok v =>
    rw [ha] at hat
    simp only at hat ⊢
    have hw := uS v 0 999999999
    rw [show B2 v 0 999999999 = (decide (0 ≤ v) && decide (v ≤ 999999999)) from rfl] at hw
    cases hb : (decide (0 ≤ v) && decide (v ≤ 999999999)) with
    | false => rw [hb] at hw; simp (disch := ((try simp only [LL]); omega)) only [↓GO, ↓DRW, GA, ren, zA, zd, refs, zb, cst, zl, zG, z7, E.load, E.store, zF, isC, bin, zH, zI, una, z8, za, zh, zJ, blt, fnV, asArg, ze, zn, zo, zj, zi, zg, zk, zr, z6, zD, zE, E.mkS, zc, unN, zK, zm, zz, zB, zf, zL, zq, GS, simprocAttr, hat, hw]
    | true =>
      rw [hb] at hw
      simp only [Bool.and_eq_true, decide_eq_true_eq] at hb
      have hd := hJ v hb.1 hb.2
      cases he : (Lib.itoa v == s) <;> simp (disch := ((try simp only [LL]); omega)) only [↓GO, ↓DRW, GA, ren, zA, zd, refs, zb, cst, zl, zG, z7, E.load, E.store, zF, isC, bin, zH, zI, una, z8, za, zh, zJ, blt, fnV, asArg, ze, zn, zo, zj, zi, zg, zk, zr, z6, zD, zE, E.mkS, zc, unN, zK, zm, zz, zB, zf, zL, zq, GS, simprocAttr, bne, hat, hw, hd, he]
  | _ => rw [ha] at hat; simp only at hat ⊢; simp (disch := ((try simp only [LL]); omega)) only [↓GO, ↓DRW, GA, ren, zA, zd, refs, zb, cst, zl, zG, z7, E.load, E.store, zF, isC, bin, zH, zI, una, z8, za, zh, zJ, blt, fnV, asArg, ze, zn, zo, zj, zi, zg, zk, zr, z6, zD, zE, E.mkS, zc, unN, zK, zm, zz, zB, zf, zL, zq, GS, simprocAttr, hat]
theorem SX (s : Str) (hl : s.length ≤ 9) : ∀ (rest pre : Str), s = pre ++ rest → pre.all isD = true →
    ∃ m : V, EV Tryz.prog pol (.loop 114 58 0 [.t (.str s), .t (.int .i64 (uA 0 pre : Nat)), .t (.int .i64 (pre.length : Int))] [])
    = some (cond (rest.all isD) (.loop (.exit 0) [.t (.str s), .bad, .t (.int .i64 (uA 0 s : Nat))] []) (.loop .ret [.t (.str s), .t (.int .i64 (-1)), m] []))
  | [], pre, hs, hd => by
    have c : decide ((pre.length : Int) < (s.length : Int)) = false := by simp [hs]
    have hp : s = pre := by simpa using hs
    refine ⟨.bad, zu Tryz.func114 rfl rfl ?_⟩
    simp only [↓GO, ↓DRW, GA, ren, zA, zd, refs, zb, cst, zl, zG, z7, E.load, E.store, zF, isC, bin, zH, zI, una, z8, za, zh, zJ, blt, fnV, asArg, ze, zn, zo, zj, zi, zg, zk, zr, z6, zD, zE, E.mkS, zc, unN, zK, zm, zz, zB, zf, zL, zq, GS, simprocAttr, c]
    rw [hp]
  | b :: rest, pre, hs, hd => by
    have c : decide ((pre.length : Int) < (s.length : Int)) = true := by simp [hs]; omega
    have hget : s[pre.length]? = some b := by rw [hs]; exact tN pre b rest
    have hlen : s.length = pre.length + rest.length + 1 := by rw [hs]; simp; omega
    have hin := xX (b.toNat : Int) 48 57
    rw [bU] at hin
    have c9 : decide ((s.length : Int) > 9) = false := by simp only [decide_eq_false_iff_not]; omega
    have hv := nr pre 0 hd
    have hp10 : (10 : Nat) ^ pre.length ≤ 10 ^ 9 := Nat.pow_le_pow_right (by omega) (by omega)
    have e9 : (10 : Nat) ^ 9 = 1000000000 := by decide
    have hb8 := T2 b
    cases hb : isD b with
    | false =>
      rw [hb] at hin
      refine ⟨.t (.int .i64 (uA 0 pre : Nat)), zu Tryz.func114 rfl rfl ?_⟩
      clear hs hlen
      simp (disch := omega) only [↓GO, ↓DRW, GA, ren, zA, zd, refs, zb, cst, zl, zG, z7, E.load, E.store, zF, isC, bin, zH, zI, una, z8, za, zh, zJ, blt, fnV, asArg, ze, zn, zo, zj, zi, zg, zk, zr, z6, zD, zE, E.mkS, zc, unN, zK, zm, zz, zB, zf, zL, zq, GS, simprocAttr, c, hget, zx, conv, wrap_u8, hin, List.all_cons, hb]
    | true =>
      rw [hb] at hin
      have hd2 : (pre ++ [b]).all isD = true := by rw [List.all_append, hd]; simp [hb]
      obtain ⟨m, IH⟩ := SX s hl rest (pre ++ [b]) (by rw [hs]; simp) hd2
      have hbb := (qV b).1 hb
      have hst : ((uA 0 (pre ++ [b]) : Nat) : Int) = 10 * ((uA 0 pre : Nat) : Int) + (b.toNat : Int) - 48 := by
        rw [ki, qb]; omega
      rw [hst, show ((pre ++ [b]).length : Int) = (pre.length : Int) + 1 by simp] at IH
      have hpl : pre.length ≤ 9 := by omega
      generalize uA 0 pre = vp at *
      generalize uA 0 s = vs at *
      clear hs hlen hst
      refine ⟨m, zu Tryz.func114 rfl rfl ?_⟩
      simp (disch := omega) only [↓GO, ↓DRW, GA, ren, zA, zd, refs, zb, cst, zl, zG, z7, E.load, E.store, zF, isC, bin, zH, zI, una, z8, za, zh, zJ, blt, fnV, asArg, ze, zn, zo, zj, zi, zg, zk, zr, z6, zD, zE, E.mkS, zc, unN, zK, zm, zz, zB, zf, zL, zq, GS, simprocAttr, c, hget, zx, conv, wrap_u8, hin, List.all_cons, hb, c9, IH]
theorem l_rdL (s : Str) (h9 : 9 < s.length) (hl : s.length ≤ 281474976710656) :
    EV Tryz.prog pol (.loop 114 58 0 [.t (.str s), .t (.int .i64 0), .t (.int .i64 0)] []) = some (.loop .ret [.t (.str s), .t (.int .i64 (-1)), .t (.int .i64 0)] []) := by
  cases s with
  | nil => simp at h9
  | cons b r =>
    have c : decide ((0 : Int) < ((b :: r).length : Int)) = true := by simp only [decide_eq_true_eq]; omega
    have c9 : decide (((b :: r).length : Int) > 9) = true := by simp only [decide_eq_true_eq]; omega
    have hget : (b :: r)[0]? = some b := rfl
    have hin := xX (b.toNat : Int) 48 57
    rw [bU] at hin
    have hb8 := T2 b
    generalize (b :: r) = s at *
    refine zu Tryz.func114 rfl rfl ?_
    cases hb : isD b with
    | false => rw [hb] at hin; simp (disch := omega) only [↓GO, ↓DRW, GA, ren, zA, zd, refs, zb, cst, zl, zG, z7, E.load, E.store, zF, isC, bin, zH, zI, una, z8, za, zh, zJ, blt, fnV, asArg, ze, zn, zo, zj, zi, zg, zk, zr, z6, zD, zE, E.mkS, zc, unN, zK, zm, zz, zB, zf, zL, zq, GS, simprocAttr, c, uE, hget, zx, conv, wrap_u8, hin]
    | true => rw [hb] at hin; simp (disch := omega) only [↓GO, ↓DRW, GA, ren, zA, zd, refs, zb, cst, zl, zG, z7, E.load, E.store, zF, isC, bin, zH, zI, una, z8, za, zh, zJ, blt, fnV, asArg, ze, zn, zo, zj, zi, zg, zk, zr, z6, zD, zE, E.mkS, zc, unN, zK, zm, zz, zB, zf, zL, zq, GS, simprocAttr, c, uE, hget, zx, conv, wrap_u8, hin, c9]
theorem jX (s : Str) (hl : s.length ≤ 281474976710656) : zC (EV Tryz.prog pol) 114 [.t (.str s)] = some (.t (.int .i64 (zP s))) := by
  rw [← Y8]
  apply zw
  refine zy rfl Tryz.func114 rfl (by kernel_rfl) ?_
  unfold Tryz.f114
  unfold sW
  by_cases h9 : s.length ≤ 9
  · obtain ⟨m, IH⟩ := SX s h9 s [] rfl rfl
    simp only [List.length_nil, Int.natCast_zero, mQ] at IH
    have e9 : decide (s.length ≤ 9) = true := by simpa using h9
    have hv := nr s 0
    have hp10 : (10 : Nat) ^ s.length ≤ 10 ^ 9 := Nat.pow_le_pow_right (by omega) h9
    have e10 : (10 : Nat) ^ 9 = 1000000000 := by decide
    cases ha : s.all isD with
    | false => rw [ha] at IH; simp only [cond_false] at IH; simp (disch := ((try simp only [LL]); omega)) only [↓GO, ↓DRW, GA, ren, zA, zd, refs, zb, cst, zl, zG, z7, E.load, E.store, zF, isC, bin, zH, zI, una, z8, za, zh, zJ, blt, fnV, asArg, ze, zn, zo, zj, zi, zg, zk, zr, z6, zD, zE, E.mkS, zc, unN, zK, zm, zz, zB, zf, zL, zq, GS, simprocAttr, IH]
    | true =>
      rw [ha] at IH; simp only [cond_true] at IH
      have hv' := hv ha
      have hd := iZ (uA 0 s : Nat) (by omega) (by omega)
      cases hn : (s == []) with
      | true => simp (disch := ((try simp only [LL]); omega)) only [↓GO, ↓DRW, GA, ren, zA, zd, refs, zb, cst, zl, zG, z7, E.load, E.store, zF, isC, bin, zH, zI, una, z8, za, zh, zJ, blt, fnV, asArg, ze, zn, zo, zj, zi, zg, zk, zr, z6, zD, zE, E.mkS, zc, unN, zK, zm, zz, zB, zf, zL, zq, GS, simprocAttr, IH, e9, hn]
      | false =>
        cases he : (Lib.itoa (uA 0 s : Nat) == s) <;> simp (disch := ((try simp only [LL]); omega)) only [↓GO, ↓DRW, GA, ren, zA, zd, refs, zb, cst, zl, zG, z7, E.load, E.store, zF, isC, bin, zH, zI, una, z8, za, zh, zJ, blt, fnV, asArg, ze, zn, zo, zj, zi, zg, zk, zr, z6, zD, zE, E.mkS, zc, unN, zK, zm, zz, zB, zf, zL, zq, GS, simprocAttr, bne, IH, e9, hn, hd, he]
  · have e9 : decide (s.length ≤ 9) = false := by simpa using h9
    have IH := l_rdL s (by omega) (by omega)
    simp (disch := ((try simp only [LL]); omega)) only [↓GO, ↓DRW, GA, ren, zA, zd, refs, zb, cst, zl, zG, z7, E.load, E.store, zF, isC, bin, zH, zI, una, z8, za, zh, zJ, blt, fnV, asArg, ze, zn, zo, zj, zi, zg, zk, zr, z6, zD, zE, E.mkS, zc, unN, zK, zm, zz, zB, zf, zL, zq, GS, simprocAttr, IH, e9]
end Go.Proofs.YtmcephnfcciloaaGreatDoor
/- Names and plain texts, by both; parts between a byte. Conditions: those of each lemma. -/
namespace Go.Proofs.YtmcephnfcciloaaGreatDoor
open E
set_option linter.unusedSimpArgs false
set_option linter.unusedVariables false
set_option maxRecDepth 100000
theorem aD : ∀ p s : Str, (decide ((s.length : Int) ≥ (p.length : Int)) && (s.take p.length == p)) = p.isPrefixOf s
  | [], s => by
    have : decide ((s.length : Int) ≥ (([] : Str).length : Int)) = true := by simp
    rw [this]; simp [List.isPrefixOf]
  | a :: p, [] => by
    have : decide ((([] : Str).length : Int) ≥ ((a :: p).length : Int)) = false := by simp only [decide_eq_false_iff_not, List.length_cons, List.length_nil]; omega
    rw [this]; simp [List.isPrefixOf]
  | a :: p, b :: s => by
    have ih := aD p s
    have e1 : decide (((b :: s).length : Int) ≥ ((a :: p).length : Int)) = decide ((s.length : Int) ≥ (p.length : Int)) := by
      rw [decide_eq_decide]; simp only [List.length_cons]; omega
    rw [e1, List.isPrefixOf, ← ih, List.length_cons, List.take_succ_cons]
    by_cases h : b = a
    · subst h
      have : (b :: List.take p.length s == b :: p) = (List.take p.length s == p) := by rw [Bool.eq_iff_iff]; simp
      rw [this]; simp
    · have h2 : (b :: List.take p.length s == a :: p) = false := by rw [beq_eq_false_iff_ne]; intro e; injection e with e1 e2; exact h e1
      have h3 : (a == b) = false := by rw [beq_eq_false_iff_ne]; exact fun e => h e.symm
      rw [h2, h3]; simp
theorem pV (s p : Str) (hs : s.length ≤ 9223372036854775807) (hp : p.length ≤ 9223372036854775807) : zC (EV Tryz.prog pol) 133 [.t (.str s), .t (.str p)] = some (.t (.bool (p.isPrefixOf s))) := by
  rw [← aD]
  apply zw
  refine zy rfl Tryz.func133 rfl (by kernel_rfl) ?_
  unfold Tryz.f133
  cases h : decide ((s.length : Int) ≥ (p.length : Int)) with
  | false => simp (disch := ((try simp only [LL]); omega)) only [↓GO, ↓DRW, GA, ren, zA, zd, refs, zb, cst, zl, zG, z7, E.load, E.store, zF, isC, bin, zH, zI, una, z8, za, zh, zJ, blt, fnV, asArg, ze, zn, zo, zj, zi, zg, zk, zr, z6, zD, zE, E.mkS, zc, unN, zK, zm, zz, zB, zf, zL, zq, GS, simprocAttr, GZ, h]
  | true =>
    have h2 := of_decide_eq_true h
    simp (disch := ((try simp only [LL]); omega)) only [↓GO, ↓DRW, GA, ren, zA, zd, refs, zb, cst, zl, zG, z7, E.load, E.store, zF, isC, bin, zH, zI, una, z8, za, zh, zJ, blt, fnV, asArg, ze, zn, zo, zj, zi, zg, zk, zr, z6, zD, zE, E.mkS, zc, unN, zK, zm, zz, zB, zf, zL, zq, GS, simprocAttr, GZ, h]
theorem lz (s p : Str) (hs : s.length ≤ 9223372036854775807) (hp : p.length ≤ 9223372036854775807) : zC (EV Tryz.prog pol) 97 [.t (.str s), .t (.str p)] = some (.t (.bool (p.isPrefixOf s))) := by
  have h := pV s p hs hp
  apply zw
  refine zy rfl Tryz.func97 rfl (by kernel_rfl) ?_
  unfold Tryz.f97
  simp (disch := ((try simp only [LL]); omega)) only [↓GO, ↓DRW, GA, ren, zA, zd, refs, zb, cst, zl, zG, z7, E.load, E.store, zF, isC, bin, zH, zI, una, z8, za, zh, zJ, blt, fnV, asArg, ze, zn, zo, zj, zi, zg, zk, zr, z6, zD, zE, E.mkS, zc, unN, zK, zm, zz, zB, zf, zL, zq, GS, simprocAttr, GZ, h]
theorem l0 : ∀ {p s : Str}, p.isPrefixOf s = true → p.length ≤ s.length
  | [], s, _ => by simp
  | a :: p, [], h => by simp [List.isPrefixOf] at h
  | a :: p, b :: s, h => by
    simp only [List.isPrefixOf, Bool.and_eq_true] at h
    have := l0 h.2
    simp only [List.length_cons]; omega
theorem cE (s p : Str) (hs : s.length ≤ 9223372036854775807) (hp : p.length ≤ 9223372036854775807) : zC (EV Tryz.prog pol) 156 [.t (.str s), .t (.str p)] = some (.t (.str (cond (p.isPrefixOf s) (s.drop p.length) s))) := by
  have h := pV s p hs hp
  apply zw
  refine zy rfl Tryz.func156 rfl (by kernel_rfl) ?_
  unfold Tryz.f156
  cases hb : p.isPrefixOf s with
  | false => rw [hb] at h; simp (disch := ((try simp only [LL]); omega)) only [↓GO, ↓DRW, GA, ren, zA, zd, refs, zb, cst, zl, zG, z7, E.load, E.store, zF, isC, bin, zH, zI, una, z8, za, zh, zJ, blt, fnV, asArg, ze, zn, zo, zj, zi, zg, zk, zr, z6, zD, zE, E.mkS, zc, unN, zK, zm, zz, zB, zf, zL, zq, GS, simprocAttr, GZ, h]
  | true =>
    have h2 := l0 hb
    rw [hb] at h; simp (disch := ((try simp only [LL]); omega)) only [↓GO, ↓DRW, GA, ren, zA, zd, refs, zb, cst, zl, zG, z7, E.load, E.store, zF, isC, bin, zH, zI, una, z8, za, zh, zJ, blt, fnV, asArg, ze, zn, zo, zj, zi, zg, zk, zr, z6, zD, zE, E.mkS, zc, unN, zK, zm, zz, zB, zf, zL, zq, GS, simprocAttr, GZ, h]
theorem YI (s p : Str) (hs : s.length ≤ 9223372036854775807) (hp : p.length ≤ 9223372036854775807) : zC (EV Tryz.prog pol) 119 [.t (.str s), .t (.str p)] = some (.t (.str (cond (p.isPrefixOf s) (s.drop p.length) s))) := by
  have h := cE s p hs hp
  apply zw
  refine zy rfl Tryz.func119 rfl (by kernel_rfl) ?_
  unfold Tryz.f119
  simp (disch := ((try simp only [LL]); omega)) only [↓GO, ↓DRW, GA, ren, zA, zd, refs, zb, cst, zl, zG, z7, E.load, E.store, zF, isC, bin, zH, zI, una, z8, za, zh, zJ, blt, fnV, asArg, ze, zn, zo, zj, zi, zg, zk, zr, z6, zD, zE, E.mkS, zc, unN, zK, zm, zz, zB, zf, zL, zq, GS, simprocAttr, GZ, h]
theorem Tm (s : Str) : cond (([64] : Str).isPrefixOf s) (s.drop ([64] : Str).length) s = yV s := by
  cases s with
  | nil => rfl
  | cons x s =>
    by_cases h : x = 64
    · subst h; simp [List.isPrefixOf, yV]
    · have : (64 == x) = false := by rw [beq_eq_false_iff_ne]; exact fun e => h e.symm
      simp [List.isPrefixOf, yV, h, this]
theorem Sn (b : UInt8) : zC (EV Tryz.prog pol) 121 [.t (.int .u8 (b.toNat : Int))] = some (.t (.bool (ua b))) := by
  have h1 := jy (b.toNat : Int)
  have h2 := pU (b.toNat : Int)
  apply zw
  refine zy rfl Tryz.func121 rfl (by kernel_rfl) ?_
  unfold Tryz.f121
  simp only [ua, nb]
  generalize hx : B2 (b.toNat : Int) 97 122 = x1 at *
  generalize hy : B2 (b.toNat : Int) 48 57 = x2 at *
  repeat' (first | (((first | with_reducible refine uy (fun hA => ?_) (fun hA => ?_) | with_reducible refine uw (fun hA => ?_) (fun hA => ?_)) <;> (try simp only [bne, Bool.not_eq_true', Bool.not_eq_false'] at hA) <;> (first | (have hP := Int.le_of_eq (eq_of_beq (α := Int) hA); have hQ := Int.le_of_eq (eq_of_beq (α := Int) hA).symm) | have hP := of_decide_eq_true hA | have hP := of_decide_eq_false hA | skip)) <;> (simp (disch := ((try simp only [LL]); omega)) only [↓GO, ↓DRW, GA, ren, zA, zd, refs, zb, cst, zl, zG, z7, E.load, E.store, zF, isC, bin, zH, zI, una, z8, za, zh, zJ, blt, fnV, asArg, ze, zn, zo, zj, zi, zg, zk, zr, z6, zD, zE, E.mkS, zc, unN, zK, zm, zz, zB, zf, zL, zq, GS, simprocAttr, zx, bne, *])) | (simp (disch := ((try simp only [LL]); omega)) only [↓GO, ↓DRW, GA, ren, zA, zd, refs, zb, cst, zl, zG, z7, E.load, E.store, zF, isC, bin, zH, zI, una, z8, za, zh, zJ, blt, fnV, asArg, ze, zn, zo, zj, zi, zg, zk, zr, z6, zD, zE, E.mkS, zc, unN, zK, zm, zz, zB, zf, zL, zq, GS, simprocAttr, zx, bne, *]))
theorem rL (b : UInt8) (s : Str) : sA s [b] = yi b s := by
  rw [← ko]
  unfold sA Lib.split Lib.countB
  rw [Lib.splitB_data]
theorem xp (x : Str) (l : List Str) : zV (x :: l) = [.str x] :: zV l := rfl
theorem uM (a b : List Str) : zV (a ++ b) = zV a ++ zV b := by simp [zV]
theorem yf : zV [] = [] := rfl
/-- a place in a list of texts, told by what stands ahead of it -/
theorem w8 (pre : List Str) (x : Str) (rest : List Str) : (zV (pre ++ x :: rest))[pre.length]? = some [.str x] := by
  rw [uM, xp]
  have := tN (zV pre) [T.str x] (zV rest)
  rwa [zO] at this
theorem Z0 (s : Str) (sc : Bool) (parts : List Str) (hl : parts.length ≤ 4294967296) (hb : ∀ p ∈ parts, p.length ≤ 4294967296) : ∀ (rest pre : List Str), parts = pre ++ rest →
    EV Tryz.prog pol (.loop 91 58 0 [.t (.str s), .t (.bool sc), .t (.list 1 (zV parts)), .t (.int .i64 (parts.length : Int)), .t (.int .i64 (pre.length : Int))] []) = some (cond (vZ (sc && ((pre.length : Int) == 0)) rest) (.loop (.exit 0) [.t (.str s), .bad] []) (.loop .ret [.t (.str s), .t (.bool false)] []))
  | [], pre, hs => by
    have c : decide ((pre.length : Int) < (parts.length : Int)) = false := by simp [hs]
    refine zu Tryz.func91 rfl rfl ?_
    simp only [↓GO, ↓DRW, GA, ren, zA, zd, refs, zb, cst, zl, zG, z7, E.load, E.store, zF, isC, bin, zH, zI, una, z8, za, zh, zJ, blt, fnV, asArg, ze, zn, zo, zj, zi, zg, zk, zr, z6, zD, zE, E.mkS, zc, unN, zK, zm, zz, zB, zf, zL, zq, GS, simprocAttr, c, vZ]
  | x :: rest, pre, hs => by
    have c : decide ((pre.length : Int) < (parts.length : Int)) = true := by simp [hs]; omega
    have hget : (zV parts)[pre.length]? = some [.str x] := by rw [hs]; exact w8 pre x rest
    have hlen : pre.length + rest.length + 1 ≤ parts.length := by rw [hs]; simp; omega
    have hx : x.length ≤ 4294967296 := hb x (by rw [hs]; simp)
    have IH := Z0 s sc parts hl hb rest (pre ++ [x]) (by rw [hs]; simp)
    have hc := Y2 121 ua Sn x (by omega)
    rw [show ((pre ++ [x]).length : Int) = (pre.length : Int) + 1 by simp] at IH
    have e0 : (((pre.length : Int) + 1 == 0)) = false := by rw [beq_eq_false_iff_ne]; omega
    rw [e0, Bool.and_false] at IH
    clear hs hb
    refine zu Tryz.func91 rfl rfl ?_
    rw [vZ]
    have hN : (x == rl) = (x == [110, 111, 100, 101, 95, 109, 111, 100, 117, 108, 101, 115]) := rfl
    rw [hN]
    cases ha : x.all ua <;> rw [ha] at hc <;> cases h1 : (x == []) <;> cases h2 : (x == [110, 111, 100, 101, 95, 109, 111, 100, 117, 108, 101, 115]) <;> cases sc <;> cases h3 : ((pre.length : Int) == 0) <;>
      simp (disch := ((try simp only [LL]); omega)) only [↓GO, ↓DRW, GA, ren, zA, zd, refs, zb, cst, zl, zG, z7, E.load, E.store, zF, isC, bin, zH, zI, una, z8, za, zh, zJ, blt, fnV, asArg, ze, zn, zo, zj, zi, zg, zk, zr, z6, zD, zE, E.mkS, zc, unN, zK, zm, zz, zB, zf, zL, zq, GS, simprocAttr, GZ, c, hget, zx, hc, h1, h2, h3, IH, zO]
theorem ZF (s : Str) (hl : s.length ≤ 1048576) : zC (EV Tryz.prog pol) 91 [.t (.str s)] = some (.t (.bool (vx s))) := by
  have h1 := lz s [64] (by omega) (by simp)
  have h2 := YI s [64] (by omega) (by simp)
  rw [Tm] at h2
  have ht : (yV s).length ≤ s.length := by
    unfold yV; split
    · simp
    · split
      · simp
      · simp
  have hbk := xR 47 (yV s)
  have h3 := pc (yV s) [47] (by omega) (by simp)
  rw [rL] at h3
  have IH := Z0 s (ng s) (yi 47 (yV s)) (by omega) (fun p hp => by have := wb hp; omega) _ [] rfl
  rw [show (([64] : Str).isPrefixOf s) = ng s from rfl] at h1
  simp only [List.length_nil, Int.natCast_zero, show ((0 : Int) == 0) = true from rfl, Bool.and_true] at IH
  apply zw
  refine zy rfl Tryz.func91 rfl (by kernel_rfl) ?_
  unfold Tryz.f91
  unfold vx
  cases hp : vZ (ng s) (yi 47 (yV s)) <;> rw [hp] at IH <;> simp only [cond_true, cond_false] at IH <;>
    simp (disch := ((try simp only [LL]); omega)) only [↓GO, ↓DRW, GA, ren, zA, zd, refs, zb, cst, zl, zG, z7, E.load, E.store, zF, isC, bin, zH, zI, una, z8, za, zh, zJ, blt, fnV, asArg, ze, zn, zo, zj, zi, zg, zk, zr, z6, zD, zE, E.mkS, zc, unN, zK, zm, zz, zB, zf, zL, zq, GS, simprocAttr, GZ, h1, h2, h3, zO, IH]
theorem bQ (s : Str) (b : UInt8) (hl : s.length ≤ 4294967296) : ∀ (rest cur pre : Str) (out : List Str) (cap : Option Nat) (m : Nat), s = pre ++ (cur ++ rest) → m = pre.length + cur.length → out.length ≤ m →
    ∃ (out' : List Str) (fr : Nat) (cap' : Option Nat), out'.length ≤ s.length ∧ fr ≤ s.length ∧ out' ++ [s.drop fr] = out ++ (match yi b rest with | p :: r => (cur ++ p) :: r | [] => []) ∧
      EV Tryz.prog pol (.loop 105 122 0 [.t (.str s), .t (.int .u8 (b.toNat : Int)), .sl 0 0 out.length cap, .t (.int .i64 (pre.length : Int)), .t (.int .i64 (m : Int))] [.ts 1 (zV out)]) = some (.loop (.exit 0) [.t (.str s), .sl 0 0 out'.length cap', .t (.int .i64 (fr : Int))] [.ts 1 (zV out')])
  | [], cur, pre, out, cap, m, hs, hm, ho => by
    have c : decide ((m : Int) < (s.length : Int)) = false := by simp [hs]; omega
    have hn : s.length = pre.length + cur.length := by rw [hs]; simp
    refine ⟨out, pre.length, cap, by omega, by omega, ?_, ?_⟩
    · simp only [yi, hs, List.append_nil, List.drop_left]
    · refine zu Tryz.func105 rfl rfl ?_
      simp only [↓GO, ↓DRW, GA, ren, zA, zd, refs, zb, cst, zl, zG, z7, E.load, E.store, zF, isC, bin, zH, zI, una, z8, za, zh, zJ, blt, fnV, asArg, ze, zn, zo, zj, zi, zg, zk, zr, z6, zD, zE, E.mkS, zc, unN, zK, zm, zz, zB, zf, zL, zq, GS, simprocAttr, c]
  | x :: rest, cur, pre, out, cap, m, hs, hm, ho => by
    have hn : s.length = pre.length + cur.length + rest.length + 1 := by rw [hs]; simp; omega
    have c : decide ((m : Int) < (s.length : Int)) = true := by simp only [decide_eq_true_eq]; omega
    have hget : s[m]? = some x := by
      rw [hs, hm, ← List.append_assoc, ← List.length_append]; exact tN (pre ++ cur) x rest
    by_cases hx : x = b
    · subst hx
      have hcut : (s.drop pre.length).take (m - pre.length) = cur := by
        rw [hs, hm, List.drop_left, show pre.length + cur.length - pre.length = cur.length by omega, List.take_left]
      obtain ⟨out', fr, cap', q1, q2, q3, q4⟩ := bQ s x hl rest [] (pre ++ cur ++ [x]) (out ++ [cur]) none (m + 1) (by rw [hs]; simp) (by simp; omega) (by simp; omega)
      refine ⟨out', fr, cap', q1, q2, ?_, ?_⟩
      · rw [q3, wq]
        cases hc : yi x rest with
        | nil => exact absurd hc (yX x rest)
        | cons p r => simp
      · rw [show ((pre ++ cur ++ [x]).length : Int) = (m : Int) + 1 by simp; omega, show ((m + 1 : Nat) : Int) = (m : Int) + 1 by omega] at q4
        rw [uM, xp, yf, List.length_append, List.length_cons, List.length_nil, Nat.zero_add] at q4
        have hol : out.length ≤ 4294967296 := by omega
        clear hs q3
        refine zu Tryz.func105 rfl rfl ?_
        simp (disch := ((try simp only [LL]); omega)) only [↓GO, ↓DRW, GA, ren, zA, zd, refs, zb, cst, zl, zG, z7, E.load, E.store, zF, isC, bin, zH, zI, una, z8, za, zh, zJ, blt, fnV, asArg, ze, zn, zo, zj, zi, zg, zk, zr, z6, zD, zE, E.mkS, zc, unN, zK, zm, zz, zB, zf, zL, zq, GS, simprocAttr, GZ, c, hget, zx, hcut, q4, zO, xK]
    · have c2 : ((x.toNat : Int) == (b.toNat : Int)) = false := by
        rw [beq_eq_false_iff_ne]; intro e; exact hx (UInt8.toNat_inj.1 (by omega))
      obtain ⟨out', fr, cap', q1, q2, q3, q4⟩ := bQ s b hl rest (cur ++ [x]) pre out cap (m + 1) (by rw [hs]; simp) (by simp; omega) (by omega)
      refine ⟨out', fr, cap', q1, q2, ?_, ?_⟩
      · rw [q3]
        cases hc : yi b rest with
        | nil => exact absurd hc (yX b rest)
        | cons p r => rw [yI b x rest p r hx hc]; simp
      · rw [show ((m + 1 : Nat) : Int) = (m : Int) + 1 by omega] at q4
        clear hs q3
        refine zu Tryz.func105 rfl rfl ?_
        simp (disch := ((try simp only [LL]); omega)) only [↓GO, ↓DRW, GA, ren, zA, zd, refs, zb, cst, zl, zG, z7, E.load, E.store, zF, isC, bin, zH, zI, una, z8, za, zh, zJ, blt, fnV, asArg, ze, zn, zo, zj, zi, zg, zk, zr, z6, zD, zE, E.mkS, zc, unN, zK, zm, zz, zB, zf, zL, zq, GS, simprocAttr, GZ, c, hget, zx, c2, q4, zO, xK]
theorem lI (s : Str) (b : UInt8) (hl : s.length ≤ 4194304) : zC (EV Tryz.prog pol) 105 [.t (.str s), .t (.int .u8 (b.toNat : Int))] = some (.t (.list 1 (zV (yi b s)))) := by
  obtain ⟨out, fr, cap, q1, q2, q3, q4⟩ := bQ s b (by omega) s [] [] [] (some 0) 0 rfl rfl (by simp)
  simp only [List.nil_append, List.length_nil, Int.natCast_zero, yf] at q4 q3
  have e : (match yi b s with | p :: r => p :: r | [] => []) = yi b s := by cases yi b s <;> rfl
  rw [e] at q3
  have ho : (zV out ++ [[.str (List.drop fr s)]]) = zV (yi b s) := by rw [← q3, uM]; rfl
  have ht : List.take (out.length + 1) (zV (yi b s)) = zV (yi b s) := List.take_of_length_le (by rw [zO, ← q3]; simp)
  apply zw
  refine zy rfl Tryz.func105 rfl (by kernel_rfl) ?_
  unfold Tryz.f105
  simp (disch := ((try simp only [LL]); omega)) only [↓GO, ↓DRW, GA, ren, zA, zd, refs, zb, cst, zl, zG, z7, E.load, E.store, zF, isC, bin, zH, zI, una, z8, za, zh, zJ, blt, fnV, asArg, ze, zn, zo, zj, zi, zg, zk, zr, z6, zD, zE, E.mkS, zc, unN, zK, zm, zz, zB, zf, zL, zq, GS, simprocAttr, GZ, q4, zO, xK, ho, ht]
theorem so (s : Str) (P : T) (i : T) (p : Str) (hl : p.length ≤ 4294967296) : ∀ (rest pre : Str), p = pre ++ rest →
    EV Tryz.prog pol (.loop 82 59706 0 [.t (.str s), .t P, .t i, .t (.str p), .t (.int .i64 (pre.length : Int))] []) = some (cond (rest.all ua) (.loop (.exit 2) [.t (.str s), .bad, .t P, .t i, .t (.str p)] []) (.loop .ret [.t (.str s), .t (.bool false), .t P, .t i, .t (.str p)] []))
  | [], pre, hs => by
    have c : decide ((pre.length : Int) < (p.length : Int)) = false := by simp [hs]
    refine zu Tryz.func82 rfl rfl ?_
    simp only [↓GO, ↓DRW, GA, ren, zA, zd, refs, zb, cst, zl, zG, z7, E.load, E.store, zF, isC, bin, zH, zI, una, z8, za, zh, zJ, blt, fnV, asArg, ze, zn, zo, zj, zi, zg, zk, zr, z6, zD, zE, E.mkS, zc, unN, zK, zm, zz, zB, zf, zL, zq, GS, simprocAttr, c]
  | b :: rest, pre, hs => by
    have c : decide ((pre.length : Int) < (p.length : Int)) = true := by simp [hs]; omega
    have hget : p[pre.length]? = some b := by rw [hs]; exact tN pre b rest
    have hlen : p.length = pre.length + rest.length + 1 := by rw [hs]; simp; omega
    have IH := so s P i p hl rest (pre ++ [b]) (by rw [hs]; simp)
    rw [show ((pre ++ [b]).length : Int) = (pre.length : Int) + 1 by simp] at IH
    have hb := oZ b
    clear hs
    refine zu Tryz.func82 rfl rfl ?_
    rw [List.all_cons, ua]
    simp only [nb] at *
    cases h1 : (B2 (b.toNat : Int) 97 122 || B2 (b.toNat : Int) 48 57) <;> rw [h1] at hb <;> cases h2 : ((b.toNat : Int) == 46) <;> cases h3 : ((b.toNat : Int) == 95) <;> cases h4 : ((b.toNat : Int) == 45) <;>
      simp (disch := ((try simp only [LL]); omega)) only [↓GO, ↓DRW, GA, ren, zA, zd, refs, zb, cst, zl, zG, z7, E.load, E.store, zF, isC, bin, zH, zI, una, z8, za, zh, zJ, blt, fnV, asArg, ze, zn, zo, zj, zi, zg, zk, zr, z6, zD, zE, E.mkS, zc, unN, zK, zm, zz, zB, zf, zL, zq, GS, simprocAttr, GZ, c, hget, zx, hb, h2, h3, h4, bne, IH]
theorem aZ (s : Str) (parts : List Str) (hl : parts.length ≤ 4294967296) (hb : ∀ p ∈ parts, p.length ≤ 4294967296) : ∀ (rest pre : List Str), parts = pre ++ rest → pre ≠ [] →
    EV Tryz.prog pol (.loop 82 58 0 [.t (.str s), .t (.list 1 (zV parts)), .t (.int .i64 (pre.length : Int))] []) = some (cond (lL rest) (.loop (.exit 0) [.t (.str s), .bad] []) (.loop .ret [.t (.str s), .t (.bool false)] []))
  | [], pre, hs, _ => by
    have c : decide ((pre.length : Int) < (parts.length : Int)) = false := by simp [hs]
    refine zu Tryz.func82 rfl rfl ?_
    simp only [↓GO, ↓DRW, GA, ren, zA, zd, refs, zb, cst, zl, zG, z7, E.load, E.store, zF, isC, bin, zH, zI, una, z8, za, zh, zJ, blt, fnV, asArg, ze, zn, zo, zj, zi, zg, zk, zr, z6, zD, zE, E.mkS, zc, unN, zK, zm, zz, zB, zf, zL, zq, GS, simprocAttr, zO, c, lL]
  | x :: rest, pre, hs, hn => by
    have c : decide ((pre.length : Int) < (parts.length : Int)) = true := by simp [hs]; omega
    have hget : (zV parts)[pre.length]? = some [.str x] := by rw [hs]; exact w8 pre x rest
    have hlen : pre.length + rest.length + 1 ≤ parts.length := by rw [hs]; simp; omega
    have hx : x.length ≤ 4294967296 := hb x (by rw [hs]; simp)
    have IH := aZ s parts hl hb rest (pre ++ [x]) (by rw [hs]; simp) (by simp)
    have hin := so s (.list 1 (zV parts)) (.int .i64 (pre.length : Int)) x hx x [] rfl
    simp only [List.length_nil, Int.natCast_zero] at hin
    rw [show ((pre ++ [x]).length : Int) = (pre.length : Int) + 1 by simp] at IH
    have e0 : (((pre.length : Int) == 0)) = false := by
      rw [beq_eq_false_iff_ne]; intro h; apply hn; apply List.eq_nil_of_length_eq_zero; omega
    clear hs hb
    refine zu Tryz.func82 rfl rfl ?_
    rw [lL]
    have hN : (x == rl) = (x == [110, 111, 100, 101, 95, 109, 111, 100, 117, 108, 101, 115]) := rfl
    rw [hN]
    cases ha : x.all ua <;> rw [ha] at hin <;> simp only [cond_true, cond_false] at hin <;> cases h1 : (x == []) <;> cases h2 : (x == [110, 111, 100, 101, 95, 109, 111, 100, 117, 108, 101, 115]) <;>
      simp (disch := ((try simp only [LL]); omega)) only [↓GO, ↓DRW, GA, ren, zA, zd, refs, zb, cst, zl, zG, z7, E.load, E.store, zF, isC, bin, zH, zI, una, z8, za, zh, zJ, blt, fnV, asArg, ze, zn, zo, zj, zi, zg, zk, zr, z6, zD, zE, E.mkS, zc, unN, zK, zm, zz, zB, zf, zL, zq, GS, simprocAttr, GZ, c, hget, zx, hin, h1, h2, e0, IH, zO]
theorem TS (s : Str) (parts : List Str) (hl : parts.length ≤ 4294967296) (hb : ∀ p ∈ parts, p.length ≤ 4294967296) (x : Str) (rest : List Str) (hs : parts = x :: rest) :
    EV Tryz.prog pol (.loop 82 58 0 [.t (.str s), .t (.list 1 (zV parts)), .t (.int .i64 0)] []) = some (cond (qn (x :: rest)) (.loop (.exit 0) [.t (.str s), .bad] []) (.loop .ret [.t (.str s), .t (.bool false)] [])) := by
  have c : decide ((0 : Int) < (parts.length : Int)) = true := by simp only [decide_eq_true_eq, hs, List.length_cons]; omega
  have hget : (zV parts)[0]? = some [.str x] := by rw [hs]; rfl
  have hx : x.length ≤ 4294967296 := hb x (by rw [hs]; simp)
  have IH := aZ s parts hl hb rest [x] hs (by simp)
  simp only [List.length_nil, List.length_cons, Nat.zero_add, Int.natCast_one] at IH
  have hN : (x == rl) = (x == [110, 111, 100, 101, 95, 109, 111, 100, 117, 108, 101, 115]) := rfl
  rw [qn, hN]
  clear hs hb hN
  cases x with
  | nil =>
    have hin := so s (.list 1 (zV parts)) (.int .i64 0) [] hx [] [] rfl
    simp only [List.length_nil, Int.natCast_zero, List.all_nil, cond_true] at hin
    have h2 : (([] : Str) == [110, 111, 100, 101, 95, 109, 111, 100, 117, 108, 101, 115]) = false := rfl
    have h3 : (([] : Str) == []) = true := rfl
    have h4 : yV [] = [] := rfl
    refine zu Tryz.func82 rfl rfl ?_
    simp (disch := ((try simp only [LL]); omega)) only [↓GO, ↓DRW, GA, ren, zA, zd, refs, zb, cst, zl, zG, z7, E.load, E.store, zF, isC, bin, zH, zI, una, z8, za, zh, zJ, blt, fnV, asArg, ze, zn, zo, zj, zi, zg, zk, zr, z6, zD, zE, E.mkS, zc, unN, zK, zm, zz, zB, zf, zL, zq, GS, simprocAttr, GZ, c, hget, zx, hin, zO, h2, h3, h4, Int.natCast_zero]
  | cons y t =>
    have hlt : decide (((y :: t).length : Int) > 0) = true := by simp only [decide_eq_true_eq, List.length_cons]; omega
    have hg0 : (y :: t)[0]? = some y := rfl
    have hyl : 1 ≤ (y :: t).length := by simp
    by_cases h64 : y = 64
    · subst h64
      have hin2 := so s (.list 1 (zV parts)) (.int .i64 0) t (by simp only [List.length_cons] at hx; omega) t [] rfl
      simp only [List.length_nil, Int.natCast_zero] at hin2
      have e1 : (((64 : UInt8) :: t) == [110, 111, 100, 101, 95, 109, 111, 100, 117, 108, 101, 115]) = false := by simp
      have e2 : yV (64 :: t) = t := by simp [yV]
      have e3 : (((64 : UInt8)).toNat : Int) = 64 := rfl
      have hd : List.drop 1 ((64 : UInt8) :: t) = t := rfl
      rw [e2]
      generalize hy : (64 : UInt8) :: t = yy at *
      cases ha : t.all ua <;> rw [ha] at hin2 <;> simp only [cond_true, cond_false] at hin2 <;> cases h1 : (t == []) <;>
        refine zu Tryz.func82 rfl rfl ?_ <;> simp (disch := ((try simp only [LL]); omega)) only [↓GO, ↓DRW, GA, ren, zA, zd, refs, zb, cst, zl, zG, z7, E.load, E.store, zF, isC, bin, zH, zI, una, z8, za, zh, zJ, blt, fnV, asArg, ze, zn, zo, zj, zi, zg, zk, zr, z6, zD, zE, E.mkS, zc, unN, zK, zm, zz, zB, zf, zL, zq, GS, simprocAttr, GZ, c, hget, zx, hin2, zO, e1, e3, hlt, hg0, hd, h1, IH, Int.zero_add]
    · have e2 : yV (y :: t) = y :: t := by simp [yV, h64]
      have e3 : ((y.toNat : Int) == 64) = false := by
        rw [beq_eq_false_iff_ne]; intro h; exact h64 (UInt8.toNat_inj.1 (by rw [show (64 : UInt8).toNat = 64 from rfl]; omega))
      have hin := so s (.list 1 (zV parts)) (.int .i64 0) (y :: t) hx (y :: t) [] rfl
      simp only [List.length_nil, Int.natCast_zero] at hin
      rw [e2]
      have h1 : ((y :: t) == []) = false := rfl
      generalize hy : y :: t = yy at *
      cases ha : yy.all ua <;> rw [ha] at hin <;> simp only [cond_true, cond_false] at hin <;> cases h2 : (yy == [110, 111, 100, 101, 95, 109, 111, 100, 117, 108, 101, 115]) <;>
        refine zu Tryz.func82 rfl rfl ?_ <;> simp (disch := ((try simp only [LL]); omega)) only [↓GO, ↓DRW, GA, ren, zA, zd, refs, zb, cst, zl, zG, z7, E.load, E.store, zF, isC, bin, zH, zI, una, z8, za, zh, zJ, blt, fnV, asArg, ze, zn, zo, zj, zi, zg, zk, zr, z6, zD, zE, E.mkS, zc, unN, zK, zm, zz, zB, zf, zL, zq, GS, simprocAttr, GZ, c, hget, zx, hin, zO, e3, hlt, hg0, h1, h2, IH, Int.zero_add]
theorem ZE (s : Str) (hl : s.length ≤ 1048576) : zC (EV Tryz.prog pol) 82 [.t (.str s)] = some (.t (.bool (vx s))) := by
  have hbk := xR 47 s
  have h3 := lI s 47 (by omega)
  rw [show (((47 : UInt8)).toNat : Int) = 47 from rfl] at h3
  rw [← Yn]
  cases hc : yi 47 s with
  | nil => exact absurd hc (yX 47 s)
  | cons x rest =>
    rw [hc] at h3 hbk
    have hb : ∀ p ∈ x :: rest, p.length ≤ 4294967296 := fun p hp => by have := wb hp; omega
    have LP := TS s (x :: rest) (by omega) hb x rest rfl
    generalize x :: rest = parts at *
    apply zw
    refine zy rfl Tryz.func82 rfl (by kernel_rfl) ?_
    unfold Tryz.f82
    cases hp : qn parts <;> rw [hp] at LP <;> simp only [cond_true, cond_false] at LP <;>
      simp (disch := ((try simp only [LL]); omega)) only [↓GO, ↓DRW, GA, ren, zA, zd, refs, zb, cst, zl, zG, z7, E.load, E.store, zF, isC, bin, zH, zI, una, z8, za, zh, zJ, blt, fnV, asArg, ze, zn, zo, zj, zi, zg, zk, zr, z6, zD, zE, E.mkS, zc, unN, zK, zm, zz, zB, zf, zL, zq, GS, simprocAttr, GZ, h3, LP]
theorem WC (b : UInt8) : zC (EV Tryz.prog pol) 125 [.t (.int .u8 (b.toNat : Int))] = some (.t (.bool (qm b))) := by
  apply zw
  refine zy rfl Tryz.func125 rfl (by kernel_rfl) ?_
  unfold Tryz.f125
  unfold qm B2
  simp only [nb]
  cases h1 : decide ((33 : Int) ≤ (b.toNat : Int)) <;> cases h2 : decide ((b.toNat : Int) ≤ 126) <;> cases h3 : ((b.toNat : Int) == 34) <;> cases h4 : ((b.toNat : Int) == 39) <;> cases h5 : ((b.toNat : Int) == 44) <;>
    simp (disch := ((try simp only [LL]); omega)) only [↓GO, ↓DRW, GA, ren, zA, zd, refs, zb, cst, zl, zG, z7, E.load, E.store, zF, isC, bin, zH, zI, una, z8, za, zh, zJ, blt, fnV, asArg, ze, zn, zo, zj, zi, zg, zk, zr, z6, zD, zE, E.mkS, zc, unN, zK, zm, zz, zB, zf, zL, zq, GS, simprocAttr, GZ, h1, h2, h3, h4, h5, bne, ge_iff_le]
theorem dC (s : Str) (hl : s.length ≤ 1048576) : zC (EV Tryz.prog pol) 93 [.t (.str s)] = some (.t (.bool (wJ s))) := by
  have h := Y2 125 qm WC s (by omega)
  apply zw
  refine zy rfl Tryz.func93 rfl (by kernel_rfl) ?_
  unfold Tryz.f93
  unfold wJ
  cases h1 : decide ((s.length : Int) ≤ 100) <;> simp (disch := ((try simp only [LL]); omega)) only [↓GO, ↓DRW, GA, ren, zA, zd, refs, zb, cst, zl, zG, z7, E.load, E.store, zF, isC, bin, zH, zI, una, z8, za, zh, zJ, blt, fnV, asArg, ze, zn, zo, zj, zi, zg, zk, zr, z6, zD, zE, E.mkS, zc, unN, zK, zm, zz, zB, zf, zL, zq, GS, simprocAttr, GZ, h, h1]
theorem eu (s : Str) (hl : s.length ≤ 1048576) : ∀ (rest pre : Str), s = pre ++ rest →
    EV Tryz.prog pol (.loop 84 26 0 [.t (.str s), .t (.int .i64 (pre.length : Int))] []) = some (cond (rest.all qm) (.loop (.exit 0) [.t (.str s), .bad] []) (.loop .ret [.t (.str s), .t (.bool false)] []))
  | [], pre, hs => by
    have c : decide ((pre.length : Int) < (s.length : Int)) = false := by simp [hs]
    refine zu Tryz.func84 rfl rfl ?_
    simp only [↓GO, ↓DRW, GA, ren, zA, zd, refs, zb, cst, zl, zG, z7, E.load, E.store, zF, isC, bin, zH, zI, una, z8, za, zh, zJ, blt, fnV, asArg, ze, zn, zo, zj, zi, zg, zk, zr, z6, zD, zE, E.mkS, zc, unN, zK, zm, zz, zB, zf, zL, zq, GS, simprocAttr, c]
  | b :: rest, pre, hs => by
    have c : decide ((pre.length : Int) < (s.length : Int)) = true := by simp [hs]; omega
    have hget : s[pre.length]? = some b := by rw [hs]; exact tN pre b rest
    have hlen : s.length = pre.length + rest.length + 1 := by rw [hs]; simp; omega
    have IH := eu s hl rest (pre ++ [b]) (by rw [hs]; simp)
    rw [show ((pre ++ [b]).length : Int) = (pre.length : Int) + 1 by simp] at IH
    have hb := xX (b.toNat : Int) 33 126
    clear hs
    refine zu Tryz.func84 rfl rfl ?_
    rw [List.all_cons, qm]
    simp only [nb]
    cases h1 : B2 (b.toNat : Int) 33 126 <;> rw [h1] at hb <;> cases h3 : ((b.toNat : Int) == 34) <;> cases h4 : ((b.toNat : Int) == 39) <;> cases h5 : ((b.toNat : Int) == 44) <;> cases h6 : ((b.toNat : Int) == 92) <;>
      simp (disch := ((try simp only [LL]); omega)) only [↓GO, ↓DRW, GA, ren, zA, zd, refs, zb, cst, zl, zG, z7, E.load, E.store, zF, isC, bin, zH, zI, una, z8, za, zh, zJ, blt, fnV, asArg, ze, zn, zo, zj, zi, zg, zk, zr, z6, zD, zE, E.mkS, zc, unN, zK, zm, zz, zB, zf, zL, zq, GS, simprocAttr, GZ, c, hget, zx, conv, wrap_u8, hb, h3, h4, h5, h6, bne, IH]
theorem dB (s : Str) (hl : s.length ≤ 1048576) : zC (EV Tryz.prog pol) 84 [.t (.str s)] = some (.t (.bool (wJ s))) := by
  have IH := eu s hl s [] rfl
  simp only [List.length_nil, Int.natCast_zero] at IH
  apply zw
  refine zy rfl Tryz.func84 rfl (by kernel_rfl) ?_
  unfold Tryz.f84
  unfold wJ
  cases ha : s.all qm <;> rw [ha] at IH <;> simp only [cond_true, cond_false] at IH
  · simp (disch := ((try simp only [LL]); omega)) only [↓GO, ↓DRW, GA, ren, zA, zd, refs, zb, cst, zl, zG, z7, E.load, E.store, zF, isC, bin, zH, zI, una, z8, za, zh, zJ, blt, fnV, asArg, ze, zn, zo, zj, zi, zg, zk, zr, z6, zD, zE, E.mkS, zc, unN, zK, zm, zz, zB, zf, zL, zq, GS, simprocAttr, GZ, IH]
  · cases h1 : decide ((s.length : Int) ≤ 100) with
    | false => simp (disch := ((try simp only [LL]); omega)) only [↓GO, ↓DRW, GA, ren, zA, zd, refs, zb, cst, zl, zG, z7, E.load, E.store, zF, isC, bin, zH, zI, una, z8, za, zh, zJ, blt, fnV, asArg, ze, zn, zo, zj, zi, zg, zk, zr, z6, zD, zE, E.mkS, zc, unN, zK, zm, zz, zB, zf, zL, zq, GS, simprocAttr, GZ, IH, h1]
    | true =>
      have h2 := of_decide_eq_true h1
      have h3 : decide ((s.length : Int) < 20000) = true := by simp only [decide_eq_true_eq]; omega
      simp (disch := ((try simp only [LL]); omega)) only [↓GO, ↓DRW, GA, ren, zA, zd, refs, zb, cst, zl, zG, z7, E.load, E.store, zF, isC, bin, zH, zI, una, z8, za, zh, zJ, blt, fnV, asArg, ze, zn, zo, zj, zi, zg, zk, zr, z6, zD, zE, E.mkS, zc, unN, zK, zm, zz, zB, zf, zL, zq, GS, simprocAttr, GZ, IH, h1, h3]
end Go.Proofs.YtmcephnfcciloaaGreatDoor
/- Versions, by both. Conditions: those of each lemma. -/
namespace Go.Proofs.YtmcephnfcciloaaGreatDoor
open E
set_option linter.unusedSimpArgs false
set_option linter.unusedVariables false
set_option maxRecDepth 100000
theorem zZ (h : Heap) (ids : List Nat) : reach h 3 ids = uu h 3 ids := (sN h 3 ids).symm
theorem SQ (n : Int) : B2 n 0 999999999 = n9 n := rfl
/-- a version of bounded size -/
def Ver.sm (v : Ver) : Prop := v.pre.length + yk v.pre ≤ 2097152
theorem uk {α : Type} [BEq α] (l : List α) : ((l.length : Int) == 0) = (l == []) := by
  cases l with
  | nil => rfl
  | cons x l =>
    have h1 : ((x :: l) == []) = false := rfl
    have h2 : (((x :: l).length : Int) == 0) = false := by rw [beq_eq_false_iff_ne]; simp only [List.length_cons]; omega
    rw [h1, h2]
theorem iX {α : Type} [BEq α] (l : List α) : decide ((l.length : Int) > 0) = !(l == []) := by
  cases l with
  | nil => rfl
  | cons x l =>
    have h1 : ((x :: l) == []) = false := rfl
    have h2 : decide (((x :: l).length : Int) > 0) = true := by simp only [decide_eq_true_eq, List.length_cons]; omega
    rw [h1, h2]; rfl
theorem UM (b : UInt8) : B2 (b.toNat : Int) 48 57 = isD b := bU b
theorem cG (a : Int) : zC (EV Tryz.prog pol) 185 [.t (.int .u8 a)] = some (.t (.bool (B2 a 97 122 || B2 a 65 90))) := by
  have h1 := jy a
  apply zw
  refine zy rfl Tryz.func185 rfl (by kernel_rfl) ?_
  unfold Tryz.f185
  cases h2 : B2 a 97 122 <;> rw [h2] at h1
  · unfold B2
    cases h3 : decide ((65 : Int) ≤ a) <;> simp (disch := ((try simp only [LL]); omega)) only [↓GO, ↓DRW, GA, ren, zA, zd, refs, zb, cst, zl, zG, z7, E.load, E.store, zF, isC, bin, zH, zI, una, z8, za, zh, zJ, blt, fnV, asArg, ze, zn, zo, zj, zi, zg, zk, zr, z6, zD, zE, E.mkS, zc, unN, zK, zm, zz, zB, zf, zL, zq, GS, simprocAttr, GZ, h1, h3, ge_iff_le]
  · simp (disch := ((try simp only [LL]); omega)) only [↓GO, ↓DRW, GA, ren, zA, zd, refs, zb, cst, zl, zG, z7, E.load, E.store, zF, isC, bin, zH, zI, una, z8, za, zh, zJ, blt, fnV, asArg, ze, zn, zo, zj, zi, zg, zk, zr, z6, zD, zE, E.mkS, zc, unN, zK, zm, zz, zB, zf, zL, zq, GS, simprocAttr, GZ, h1]
theorem RM (b : UInt8) : zC (EV Tryz.prog pol) 184 [.t (.int .u8 (b.toNat : Int))] = some (.t (.bool (preB b))) := by
  have h1 := cG (b.toNat : Int)
  have h2 := pU (b.toNat : Int)
  apply zw
  refine zy rfl Tryz.func184 rfl (by kernel_rfl) ?_
  unfold Tryz.f184
  unfold preB
  simp only [nb]
  cases h3 : B2 (b.toNat : Int) 97 122 <;> cases h4 : B2 (b.toNat : Int) 65 90 <;> cases h5 : B2 (b.toNat : Int) 48 57 <;> rw [h3, h4] at h1 <;> rw [h5] at h2 <;>
    simp (disch := ((try simp only [LL]); omega)) only [↓GO, ↓DRW, GA, ren, zA, zd, refs, zb, cst, zl, zG, z7, E.load, E.store, zF, isC, bin, zH, zI, una, z8, za, zh, zJ, blt, fnV, asArg, ze, zn, zo, zj, zi, zg, zk, zr, z6, zD, zE, E.mkS, zc, unN, zK, zm, zz, zB, zf, zL, zq, GS, simprocAttr, GZ, h1, h2]
theorem Sq (b : UInt8) : zC (EV Tryz.prog pol) 123 [.t (.int .u8 (b.toNat : Int))] = some (.t (.bool (isD b))) := by
  rw [pU, UM]
theorem iI (s : Str) (hl : s.length ≤ 9223372036854775807) : zC (EV Tryz.prog pol) 186 [.t (.str s)] = some (.t (.bool (isNum s))) := by
  have h := Y2 123 isD Sq s hl
  apply zw
  refine zy rfl Tryz.func186 rfl (by kernel_rfl) ?_
  unfold Tryz.f186
  unfold isNum
  cases h1 : (s == []) <;> simp (disch := ((try simp only [LL]); omega)) only [↓GO, ↓DRW, GA, ren, zA, zd, refs, zb, cst, zl, zG, z7, E.load, E.store, zF, isC, bin, zH, zI, una, z8, za, zh, zJ, blt, fnV, asArg, ze, zn, zo, zj, zi, zg, zk, zr, z6, zD, zE, E.mkS, zc, unN, zK, zm, zz, zB, zf, zL, zq, GS, simprocAttr, GZ, h, h1, bne]
theorem TR (x1 x2 x3 x4 : T) (a b c : Int) :
    EV Tryz.prog pol (.loop 164 26 0 [.ptr 0 0 0, .sl 1 0 3 (some 3), .t (.int .i64 3), .t (.int .i64 0)] [.vs 4 [[.t x1, .t x2, .t x3, .t x4]], .ts 1 [[.int .i64 a], [.int .i64 b], [.int .i64 c]]])
    = some (cond (n9 a && (n9 b && n9 c)) (.loop (.exit 0) [.ptr 0 0 0, .bad] [.vs 4 [[.t x1, .t x2, .t x3, .t x4]]]) (.loop .ret [.ptr 0 0 0, .t (.bool false)] [.vs 4 [[.t x1, .t x2, .t x3, .t x4]]])) := by
  have ha := uS a 0 999999999
  have hb := uS b 0 999999999
  have hc := uS c 0 999999999
  rw [SQ] at ha hb hc
  cases h1 : n9 a <;> rw [h1] at ha
  · refine zu Tryz.func164 rfl rfl ?_
    simp (disch := ((try simp only [LL]); omega)) only [↓GO, ↓DRW, GA, ren, zA, zd, refs, zb, cst, zl, zG, z7, E.load, E.store, zF, isC, bin, zH, zI, una, z8, za, zh, zJ, blt, fnV, asArg, ze, zn, zo, zj, zi, zg, zk, zr, z6, zD, zE, E.mkS, zc, unN, zK, zm, zz, zB, zf, zL, zq, GS, simprocAttr, GZ, ha, zx, zZ, Int.cast_ofNat_Int]
  · refine zu Tryz.func164 rfl rfl ?_
    simp (disch := ((try simp only [LL]); omega)) only [↓GO, ↓DRW, GA, ren, zA, zd, refs, zb, cst, zl, zG, z7, E.load, E.store, zF, isC, bin, zH, zI, una, z8, za, zh, zJ, blt, fnV, asArg, ze, zn, zo, zj, zi, zg, zk, zr, z6, zD, zE, E.mkS, zc, unN, zK, zm, zz, zB, zf, zL, zq, GS, simprocAttr, GZ, ha, zx, zZ, Int.cast_ofNat_Int]
    cases h2 : n9 b <;> rw [h2] at hb
    · refine zu Tryz.func164 rfl rfl ?_
      simp (disch := ((try simp only [LL]); omega)) only [↓GO, ↓DRW, GA, ren, zA, zd, refs, zb, cst, zl, zG, z7, E.load, E.store, zF, isC, bin, zH, zI, una, z8, za, zh, zJ, blt, fnV, asArg, ze, zn, zo, zj, zi, zg, zk, zr, z6, zD, zE, E.mkS, zc, unN, zK, zm, zz, zB, zf, zL, zq, GS, simprocAttr, GZ, hb, zx, Int.zero_add, zZ, Int.cast_ofNat_Int, Int.reduceAdd]
    · refine zu Tryz.func164 rfl rfl ?_
      simp (disch := ((try simp only [LL]); omega)) only [↓GO, ↓DRW, GA, ren, zA, zd, refs, zb, cst, zl, zG, z7, E.load, E.store, zF, isC, bin, zH, zI, una, z8, za, zh, zJ, blt, fnV, asArg, ze, zn, zo, zj, zi, zg, zk, zr, z6, zD, zE, E.mkS, zc, unN, zK, zm, zz, zB, zf, zL, zq, GS, simprocAttr, GZ, hb, zx, Int.zero_add, zZ, Int.cast_ofNat_Int, Int.reduceAdd]
      cases h3 : n9 c <;> rw [h3] at hc
      · refine zu Tryz.func164 rfl rfl ?_
        simp (disch := ((try simp only [LL]); omega)) only [↓GO, ↓DRW, GA, ren, zA, zd, refs, zb, cst, zl, zG, z7, E.load, E.store, zF, isC, bin, zH, zI, una, z8, za, zh, zJ, blt, fnV, asArg, ze, zn, zo, zj, zi, zg, zk, zr, z6, zD, zE, E.mkS, zc, unN, zK, zm, zz, zB, zf, zL, zq, GS, simprocAttr, GZ, hc, zx, Int.zero_add, zZ, Int.cast_ofNat_Int, Int.reduceAdd]
      · refine zu Tryz.func164 rfl rfl ?_
        simp (disch := ((try simp only [LL]); omega)) only [↓GO, ↓DRW, GA, ren, zA, zd, refs, zb, cst, zl, zG, z7, E.load, E.store, zF, isC, bin, zH, zI, una, z8, za, zh, zJ, blt, fnV, asArg, ze, zn, zo, zj, zi, zg, zk, zr, z6, zD, zE, E.mkS, zc, unN, zK, zm, zz, zB, zf, zL, zq, GS, simprocAttr, GZ, hc, zx, Int.zero_add, zZ, Int.cast_ofNat_Int, Int.reduceAdd]
        refine zu Tryz.func164 rfl rfl ?_
        simp (disch := ((try simp only [LL]); omega)) only [↓GO, ↓DRW, GA, ren, zA, zd, refs, zb, cst, zl, zG, z7, E.load, E.store, zF, isC, bin, zH, zI, una, z8, za, zh, zJ, blt, fnV, asArg, ze, zn, zo, zj, zi, zg, zk, zr, z6, zD, zE, E.mkS, zc, unN, zK, zm, zz, zB, zf, zL, zq, GS, simprocAttr, GZ, zx, Int.zero_add, zZ, Int.cast_ofNat_Int, Int.reduceAdd]
theorem aV (v : Ver) (hs : v.sm) : ∀ (rest pre : List Str), v.pre = pre ++ rest →
    EV Tryz.prog pol (.loop 164 58 0 [.ptr 0 0 0, .t (.list 1 (zV v.pre)), .t (.int .i64 (v.pre.length : Int)), .t (.int .i64 (pre.length : Int))] [.vs 4 [v.enc.map .t]])
    = some (cond (rest.all wA) (.loop (.exit 2) [.ptr 0 0 0, .bad] [.vs 4 [v.enc.map .t]]) (.loop .ret [.ptr 0 0 0, .t (.bool false)] [.vs 4 [v.enc.map .t]]))
  | [], pre, hp => by
    have c : decide ((pre.length : Int) < (v.pre.length : Int)) = false := by simp [hp]
    refine zu Tryz.func164 rfl rfl ?_
    simp only [↓GO, ↓DRW, GA, ren, zA, zd, refs, zb, cst, zl, zG, z7, E.load, E.store, zF, isC, bin, zH, zI, una, z8, za, zh, zJ, blt, fnV, asArg, ze, zn, zo, zj, zi, zg, zk, zr, z6, zD, zE, E.mkS, zc, unN, zK, zm, zz, zB, zf, zL, zq, GS, simprocAttr, c, Ver.enc]
  | x :: rest, pre, hp => by
    unfold Ver.sm at hs
    have c : decide ((pre.length : Int) < (v.pre.length : Int)) = true := by simp [hp]; omega
    have hget : (zV v.pre)[pre.length]? = some [.str x] := by rw [hp]; exact w8 pre x rest
    have hlen : pre.length + rest.length + 1 ≤ v.pre.length := by rw [hp]; simp; omega
    have hx : x.length ≤ 2097152 := by have := wb (ks := v.pre) (s := x) (by rw [hp]; simp); omega
    have IH := aV v hs rest (pre ++ [x]) (by rw [hp]; simp)
    rw [show ((pre ++ [x]).length : Int) = (pre.length : Int) + 1 by simp] at IH
    have h1 := uS (x.length : Int) 1 20
    have h2 := Y2 184 preB RM x (by omega)
    have h3 := iI x (by omega)
    have h4 := lQ x (by omega)
    clear hp
    simp only [Ver.enc, List.map_cons, List.map_nil] at IH ⊢
    rw [List.all_cons, wA]
    have e4 : decide (zP x < 0) = !decide (0 ≤ zP x) := by
      rcases Int.lt_or_le (zP x) 0 with h | h
      · have a : ¬ (0 ≤ zP x) := by omega
        simp [h, a]
      · have a : ¬ (zP x < 0) := by omega
        simp [h, a]
    generalize B2 (x.length : Int) 1 20 = b1 at *
    generalize x.all preB = b2 at *
    generalize isNum x = b3 at *
    generalize zP x = rd at *
    generalize decide (0 ≤ rd) = b4 at *
    cases b1 <;> cases b2 <;> cases b3 <;> cases b4 <;> refine zu Tryz.func164 rfl rfl ?_ <;>
      simp (disch := ((try simp only [LL]); omega)) only [↓GO, ↓DRW, GA, ren, zA, zd, refs, zb, cst, zl, zG, z7, E.load, E.store, zF, isC, bin, zH, zI, una, z8, za, zh, zJ, blt, fnV, asArg, ze, zn, zo, zj, zi, zg, zk, zr, z6, zD, zE, E.mkS, zc, unN, zK, zm, zz, zB, zf, zL, zq, GS, simprocAttr, GZ, c, hget, zx, h1, h2, h3, h4, e4, zO, IH, zZ]
theorem RG (v : Ver) (hs : v.sm) : zC (EV Tryz.prog pol) 164 [.agg (v.enc.map .t)] = some (.t (.bool (yw v))) := by
  have h1 := TR (.int .i64 v.maj) (.int .i64 v.min) (.int .i64 v.pat) (.list 1 (zV v.pre)) v.maj v.min v.pat
  have h2 := aV v hs v.pre [] rfl
  unfold Ver.sm at hs
  simp only [List.length_nil, Int.natCast_zero] at h2
  simp only [Ver.enc, List.map_cons, List.map_nil] at h1 h2 ⊢
  unfold yw
  generalize (n9 v.maj && (n9 v.min && n9 v.pat)) = b1 at *
  generalize v.pre.all wA = b2 at *
  apply zw
  refine zy rfl Tryz.func164 rfl (by kernel_rfl) ?_
  unfold Tryz.f164
  cases b1 <;> cases b2 <;> simp only [cond_true, cond_false] at h1 h2 <;>
    simp (disch := ((try simp only [LL]); omega)) only [↓GO, ↓DRW, GA, ren, zA, zd, refs, zb, cst, zl, zG, z7, E.load, E.store, zF, isC, bin, zH, zI, una, z8, za, zh, zJ, blt, fnV, asArg, ze, zn, zo, zj, zi, zg, zk, zr, z6, zD, zE, E.mkS, zc, unN, zK, zm, zz, zB, zf, zL, zq, GS, simprocAttr, GZ, h1, h2, zO, zZ, Int.cast_ofNat_Int]
theorem Ss (b : UInt8) : zC (EV Tryz.prog pol) 193 [.t (.int .u8 (b.toNat : Int))] = some (.t (.bool (B2 (b.toNat : Int) 65 90))) := by
  have h := xX (b.toNat : Int) 65 90
  apply zw
  refine zy rfl Tryz.func193 rfl (by kernel_rfl) ?_
  unfold Tryz.f193
  simp (disch := ((try simp only [LL]); omega)) only [↓GO, ↓DRW, GA, ren, zA, zd, refs, zb, cst, zl, zG, z7, E.load, E.store, zF, isC, bin, zH, zI, una, z8, za, zh, zJ, blt, fnV, asArg, ze, zn, zo, zj, zi, zg, zk, zr, z6, zD, zE, E.mkS, zc, unN, zK, zm, zz, zB, zf, zL, zq, GS, simprocAttr, GZ, h, conv, wrap_u8]
theorem UH (s : Str) (hl : s.length ≤ 2097152) : ∀ (rest pre : Str), s = pre ++ rest →
    EV Tryz.prog pol (.loop 194 26 0 [.t (.str s), .t (.int .i64 (pre.length : Int))] []) = some (cond (rest.all isD) (.loop (.exit 0) [.t (.str s), .bad] []) (.loop .ret [.t (.str s), .t (.bool false)] []))
  | [], pre, hs => by
    have c : decide ((pre.length : Int) < (s.length : Int)) = false := by simp [hs]
    refine zu Tryz.func194 rfl rfl ?_
    simp only [↓GO, ↓DRW, GA, ren, zA, zd, refs, zb, cst, zl, zG, z7, E.load, E.store, zF, isC, bin, zH, zI, una, z8, za, zh, zJ, blt, fnV, asArg, ze, zn, zo, zj, zi, zg, zk, zr, z6, zD, zE, E.mkS, zc, unN, zK, zm, zz, zB, zf, zL, zq, GS, simprocAttr, c]
  | b :: rest, pre, hs => by
    have c : decide ((pre.length : Int) < (s.length : Int)) = true := by simp [hs]; omega
    have hget : s[pre.length]? = some b := by rw [hs]; exact tN pre b rest
    have hlen : s.length = pre.length + rest.length + 1 := by rw [hs]; simp; omega
    have IH := UH s hl rest (pre ++ [b]) (by rw [hs]; simp)
    rw [show ((pre ++ [b]).length : Int) = (pre.length : Int) + 1 by simp] at IH
    have hb := xX (b.toNat : Int) 48 57
    rw [UM] at hb
    clear hs
    refine zu Tryz.func194 rfl rfl ?_
    cases h1 : isD b <;> rw [h1] at hb <;>
      simp (disch := ((try simp only [LL]); omega)) only [↓GO, ↓DRW, GA, ren, zA, zd, refs, zb, cst, zl, zG, z7, E.load, E.store, zF, isC, bin, zH, zI, una, z8, za, zh, zJ, blt, fnV, asArg, ze, zn, zo, zj, zi, zg, zk, zr, z6, zD, zE, E.mkS, zc, unN, zK, zm, zz, zB, zf, zL, zq, GS, simprocAttr, GZ, c, hget, zx, conv, wrap_u8, hb, h1, IH]
theorem RS (s : Str) (hl : s.length ≤ 2097152) : zC (EV Tryz.prog pol) 194 [.t (.str s)] = some (.t (.bool (isNum s))) := by
  have IH := UH s hl s [] rfl
  simp only [List.length_nil, Int.natCast_zero] at IH
  apply zw
  refine zy rfl Tryz.func194 rfl (by kernel_rfl) ?_
  unfold Tryz.f194
  unfold isNum
  cases h1 : s.all isD <;> rw [h1] at IH <;> simp only [cond_true, cond_false] at IH <;>
    simp (disch := ((try simp only [LL]); omega)) only [↓GO, ↓DRW, GA, ren, zA, zd, refs, zb, cst, zl, zG, z7, E.load, E.store, zF, isC, bin, zH, zI, una, z8, za, zh, zJ, blt, fnV, asArg, ze, zn, zo, zj, zi, zg, zk, zr, z6, zD, zE, E.mkS, zc, unN, zK, zm, zz, zB, zf, zL, zq, GS, simprocAttr, GZ, IH, bne]
theorem UE (s : Str) (hl : s.length ≤ 2097152) : ∀ (rest pre : Str), s = pre ++ rest →
    EV Tryz.prog pol (.loop 175 26 0 [.t (.str s), .t (.int .i64 (pre.length : Int))] []) = some (cond (rest.all preB) (.loop (.exit 0) [.t (.str s), .bad] []) (.loop .ret [.t (.str s), .t (.bool false)] []))
  | [], pre, hs => by
    have c : decide ((pre.length : Int) < (s.length : Int)) = false := by simp [hs]
    refine zu Tryz.func175 rfl rfl ?_
    simp only [↓GO, ↓DRW, GA, ren, zA, zd, refs, zb, cst, zl, zG, z7, E.load, E.store, zF, isC, bin, zH, zI, una, z8, za, zh, zJ, blt, fnV, asArg, ze, zn, zo, zj, zi, zg, zk, zr, z6, zD, zE, E.mkS, zc, unN, zK, zm, zz, zB, zf, zL, zq, GS, simprocAttr, c]
  | b :: rest, pre, hs => by
    have c : decide ((pre.length : Int) < (s.length : Int)) = true := by simp [hs]; omega
    have hget : s[pre.length]? = some b := by rw [hs]; exact tN pre b rest
    have hlen : s.length = pre.length + rest.length + 1 := by rw [hs]; simp; omega
    have IH := UE s hl rest (pre ++ [b]) (by rw [hs]; simp)
    rw [show ((pre ++ [b]).length : Int) = (pre.length : Int) + 1 by simp] at IH
    have hb := oZ b
    have hg := Ss b
    clear hs
    refine zu Tryz.func175 rfl rfl ?_
    rw [List.all_cons, preB]
    simp only [nb] at *
    cases h1 : (B2 (b.toNat : Int) 97 122 || B2 (b.toNat : Int) 48 57) <;> rw [h1] at hb <;> cases h2 : B2 (b.toNat : Int) 65 90 <;> rw [h2] at hg <;> cases h3 : ((b.toNat : Int) == 45) <;>
      simp (disch := ((try simp only [LL]); omega)) only [↓GO, ↓DRW, GA, ren, zA, zd, refs, zb, cst, zl, zG, z7, E.load, E.store, zF, isC, bin, zH, zI, una, z8, za, zh, zJ, blt, fnV, asArg, ze, zn, zo, zj, zi, zg, zk, zr, z6, zD, zE, E.mkS, zc, unN, zK, zm, zz, zB, zf, zL, zq, GS, simprocAttr, GZ, c, hget, zx, hb, hg, h3, bne, IH]
theorem RL (s : Str) (hl : s.length ≤ 2097152) : zC (EV Tryz.prog pol) 175 [.t (.str s)] = some (.t (.bool (wA s))) := by
  have IH := UE s hl s [] rfl
  simp only [List.length_nil, Int.natCast_zero] at IH
  have h1 := xX (s.length : Int) 1 20
  have h3 := RS s hl
  have h4 := jX s (by omega)
  apply zw
  refine zy rfl Tryz.func175 rfl (by kernel_rfl) ?_
  unfold Tryz.f175
  unfold wA
  generalize B2 (s.length : Int) 1 20 = b1 at *
  generalize isNum s = b3 at *
  generalize zP s = rd at *
  cases ha : s.all preB <;> rw [ha] at IH <;> simp only [cond_true, cond_false] at IH <;> cases b1 <;> cases b3 <;>
    simp (disch := ((try simp only [LL]); omega)) only [↓GO, ↓DRW, GA, ren, zA, zd, refs, zb, cst, zl, zG, z7, E.load, E.store, zF, isC, bin, zH, zI, una, z8, za, zh, zJ, blt, fnV, asArg, ze, zn, zo, zj, zi, zg, zk, zr, z6, zD, zE, E.mkS, zc, unN, zK, zm, zz, zB, zf, zL, zq, GS, simprocAttr, GZ, IH, h1, h3, h4, ge_iff_le]
theorem UA (v : Ver) (hs : v.sm) : ∀ (rest pre : List Str), v.pre = pre ++ rest →
    EV Tryz.prog pol (.loop 153 26 0 [.ptr 0 0 0, .t (.int .i64 (pre.length : Int))] [.vs 4 [v.enc.map .t]])
    = some (cond (rest.all wA) (.loop (.exit 0) [.ptr 0 0 0, .bad] [.vs 4 [v.enc.map .t]]) (.loop .ret [.ptr 0 0 0, .t (.bool false)] [.vs 4 [v.enc.map .t]]))
  | [], pre, hp => by
    have c : decide ((pre.length : Int) < (v.pre.length : Int)) = false := by simp [hp]
    refine zu Tryz.func153 rfl rfl ?_
    simp only [↓GO, ↓DRW, GA, ren, zA, zd, refs, zb, cst, zl, zG, z7, E.load, E.store, zF, isC, bin, zH, zI, una, z8, za, zh, zJ, blt, fnV, asArg, ze, zn, zo, zj, zi, zg, zk, zr, z6, zD, zE, E.mkS, zc, unN, zK, zm, zz, zB, zf, zL, zq, GS, simprocAttr, zO, c, Ver.enc]
  | x :: rest, pre, hp => by
    unfold Ver.sm at hs
    have c : decide ((pre.length : Int) < (v.pre.length : Int)) = true := by simp [hp]; omega
    have hget : (zV v.pre)[pre.length]? = some [.str x] := by rw [hp]; exact w8 pre x rest
    have hlen : pre.length + rest.length + 1 ≤ v.pre.length := by rw [hp]; simp; omega
    have hx : x.length ≤ 2097152 := by have := wb (ks := v.pre) (s := x) (by rw [hp]; simp); omega
    have IH := UA v hs rest (pre ++ [x]) (by rw [hp]; simp)
    rw [show ((pre ++ [x]).length : Int) = (pre.length : Int) + 1 by simp] at IH
    have h1 := RL x hx
    clear hp
    simp only [Ver.enc, List.map_cons, List.map_nil] at IH ⊢
    cases h2 : wA x <;> rw [h2] at h1 <;> refine zu Tryz.func153 rfl rfl ?_ <;>
      simp (disch := ((try simp only [LL]); omega)) only [↓GO, ↓DRW, GA, ren, zA, zd, refs, zb, cst, zl, zG, z7, E.load, E.store, zF, isC, bin, zH, zI, una, z8, za, zh, zJ, blt, fnV, asArg, ze, zn, zo, zj, zi, zg, zk, zr, z6, zD, zE, E.mkS, zc, unN, zK, zm, zz, zB, zf, zL, zq, GS, simprocAttr, GZ, c, hget, zx, h1, h2, zO, IH, zZ]
theorem a6 (v : Ver) (hs : v.sm) : zC (EV Tryz.prog pol) 153 [.agg (v.enc.map .t)] = some (.t (.bool (yw v))) := by
  have h2 := UA v hs v.pre [] rfl
  have ha := xX v.maj 0 999999999
  have hb := xX v.min 0 999999999
  have hc := xX v.pat 0 999999999
  rw [SQ] at ha hb hc
  unfold Ver.sm at hs
  simp only [List.length_nil, Int.natCast_zero] at h2
  simp only [Ver.enc, List.map_cons, List.map_nil] at h2 ⊢
  unfold yw
  generalize n9 v.maj = b1 at *
  generalize n9 v.min = b3 at *
  generalize n9 v.pat = b4 at *
  generalize v.pre.all wA = b2 at *
  apply zw
  refine zy rfl Tryz.func153 rfl (by kernel_rfl) ?_
  unfold Tryz.f153
  cases b2 <;> simp only [cond_true, cond_false] at h2 <;> cases b1 <;> cases b3 <;> cases b4 <;>
    simp (disch := ((try simp only [LL]); omega)) only [↓GO, ↓DRW, GA, ren, zA, zd, refs, zb, cst, zl, zG, z7, E.load, E.store, zF, isC, bin, zH, zI, una, z8, za, zh, zJ, blt, fnV, asArg, ze, zn, zo, zj, zi, zg, zk, zr, z6, zD, zE, E.mkS, zc, unN, zK, zm, zz, zB, zf, zL, zq, GS, simprocAttr, GZ, h2, ha, hb, hc, zO, zZ]
end Go.Proofs.YtmcephnfcciloaaGreatDoor
/- Digits and quotes, by both. Conditions: those of each lemma. -/
namespace Go.Proofs.YtmcephnfcciloaaGreatDoor
open E
set_option linter.unusedSimpArgs false
set_option linter.unusedVariables false
set_option maxRecDepth 100000
theorem yP {α : Type} {b : Bool} {x y r : Option α} (h : b = true) (hx : x = r) : (if b = true then x else y) = r := by rw [h]; exact hx
end Go.Proofs.YtmcephnfcciloaaGreatDoor
/- The text of a version, and back, by both. Conditions: those of each lemma. -/
namespace Go.Proofs.YtmcephnfcciloaaGreatDoor
open E
set_option linter.unusedSimpArgs false
set_option linter.unusedVariables false
set_option maxRecDepth 100000
theorem cd (c : Str) (x : Str) : ∀ pre : List Str, wh c (pre ++ [x]) = cond (pre == []) ((c ++ [45]) ++ x) ((wh c pre ++ [46]) ++ x)
  | [] => by simp [wh, Lib.join_one]
  | y :: l => by
    unfold wh
    rw [mw]
    simp
theorem kj (c : Str) (l : List Str) : (wh c l).length ≤ c.length + yk l + l.length + 1 := by
  have h := join_le [46] l
  unfold wh
  cases l with
  | nil => simp only [show (([] : List Str) == []) = true from rfl, cond_true]; omega
  | cons x r =>
    simp only [beq_nil_cons, cond_false, List.length_append, List.length_cons, List.length_nil] at h ⊢
    omega
theorem dw {v : Ver} (h : yw v = true) : (vr v).length ≤ 29 := by
  obtain ⟨h1, h2, h3, _, _⟩ := wg h
  have a := wI v.maj h1.1 h1.2
  have b := wI v.min h2.1 h2.2
  have c := wI v.pat h3.1 h3.2
  unfold vr
  simp only [List.length_append, List.length_cons, List.length_nil]
  omega
theorem uT (v : Ver) (hs : v.sm) : zC (EV Tryz.prog pol) 136 [.agg (v.enc.map .t)] = some (.t (.str (yb v))) := by
  have h1 := RG v hs
  unfold Ver.sm at hs
  unfold yb
  cases ho : yw v with
  | false =>
    rw [ho] at h1
    simp only [Ver.enc, List.map_cons, List.map_nil] at h1 ⊢
    apply zw
    refine zy rfl Tryz.func136 rfl (by kernel_rfl) ?_
    unfold Tryz.f136
    simp (disch := ((try simp only [LL]); omega)) only [↓GO, ↓DRW, GA, ren, zA, zd, refs, zb, cst, zl, zG, z7, E.load, E.store, zF, isC, bin, zH, zI, una, z8, za, zh, zJ, blt, fnV, asArg, ze, zn, zo, zj, zi, zg, zk, zr, z6, zD, zE, E.mkS, zc, unN, zK, zm, zz, zB, zf, zL, zq, GS, simprocAttr, GZ, h1]
  | true =>
    obtain ⟨q1, q2, q3, _, _⟩ := wg ho
    have a := wI v.maj q1.1 q1.2
    have b := wI v.min q2.1 q2.2
    have c := wI v.pat q3.1 q3.2
    have d1 := hJ v.maj q1.1 q1.2
    have d2 := hJ v.min q2.1 q2.2
    have d3 := hJ v.pat q3.1 q3.2
    have hj := join_le [46] v.pre
    simp only [List.length_cons, List.length_nil] at hj
    have h2 := RQ v.pre [46] (by omega) (by omega)
    have hg := iX v.pre
    rw [ho] at h1
    unfold wh vr
    simp only [Ver.enc, List.map_cons, List.map_nil] at h1 ⊢
    cases hp : (v.pre == []) <;> rw [hp] at hg <;> simp only [Bool.not_true, Bool.not_false] at hg
    · apply zw
      refine zy rfl Tryz.func136 rfl (by kernel_rfl) ?_
      unfold Tryz.f136
      simp (disch := ((try simp only [LL]); omega)) only [↓GO, ↓DRW, GA, ren, zA, zd, refs, zb, cst, zl, zG, z7, E.load, E.store, zF, isC, bin, zH, zI, una, z8, za, zh, zJ, blt, fnV, asArg, ze, zn, zo, zj, zi, zg, zk, zr, z6, zD, zE, E.mkS, zc, unN, zK, zm, zz, zB, zf, zL, zq, GS, simprocAttr, GZ, h1, d1, d2, d3, h2, hg, xK, zO, List.append_assoc]
    · apply zw
      refine zy rfl Tryz.func136 rfl (by kernel_rfl) ?_
      unfold Tryz.f136
      simp (disch := ((try simp only [LL]); omega)) only [↓GO, ↓DRW, GA, ren, zA, zd, refs, zb, cst, zl, zG, z7, E.load, E.store, zF, isC, bin, zH, zI, una, z8, za, zh, zJ, blt, fnV, asArg, ze, zn, zo, zj, zi, zg, zk, zr, z6, zD, zE, E.mkS, zc, unN, zK, zm, zz, zB, zf, zL, zq, GS, simprocAttr, GZ, h1, d1, d2, d3, h2, hg, xK, zO, List.append_assoc]
theorem SR (v : Ver) (hs : v.sm) (c : Str) (hc : c.length ≤ 40) : ∀ (rest pre : List Str), v.pre = pre ++ rest →
    EV Tryz.prog pol (.loop 115 122 0 [.ptr 0 0 0, .t (.str (wh c pre)), .t (.int .i64 (pre.length : Int))] [.vs 4 [v.enc.map .t]])
    = some (.loop (.exit 0) [.t (.str (wh c v.pre))] [])
  | [], pre, hp => by
    have c : decide ((pre.length : Int) < (v.pre.length : Int)) = false := by simp [hp]
    have e : v.pre = pre := by simpa using hp
    refine zu Tryz.func115 rfl rfl ?_
    simp only [↓GO, ↓DRW, GA, ren, zA, zd, refs, zb, cst, zl, zG, z7, E.load, E.store, zF, isC, bin, zH, zI, una, z8, za, zh, zJ, blt, fnV, asArg, ze, zn, zo, zj, zi, zg, zk, zr, z6, zD, zE, E.mkS, zc, unN, zK, zm, zz, zB, zf, zL, zq, GS, simprocAttr, zO, c, Ver.enc, zZ]
    rw [e]
  | x :: rest, pre, hp => by
    unfold Ver.sm at hs
    have c2 : decide ((pre.length : Int) < (v.pre.length : Int)) = true := by simp [hp]; omega
    have hget : (zV v.pre)[pre.length]? = some [.str x] := by rw [hp]; exact w8 pre x rest
    have hlen : pre.length + rest.length + 1 ≤ v.pre.length := by rw [hp]; simp; omega
    have hbk : yk pre + x.length ≤ yk v.pre := by rw [hp, lA]; simp only [yk]; omega
    have ht := kj c pre
    have IH := SR v hs c hc rest (pre ++ [x]) (by rw [hp]; simp)
    rw [show ((pre ++ [x]).length : Int) = (pre.length : Int) + 1 by simp, cd] at IH
    have he := uk pre
    have e0 : (pre == []) = true → wh c pre = c := fun h => by unfold wh; rw [h]; rfl
    clear hp
    simp only [Ver.enc, List.map_cons, List.map_nil] at IH ⊢
    cases h0 : (pre == []) <;> rw [h0] at he IH <;> simp only [cond_true, cond_false] at IH
    · refine zu Tryz.func115 rfl rfl ?_
      simp (disch := ((try simp only [LL]); omega)) only [↓GO, ↓DRW, GA, ren, zA, zd, refs, zb, cst, zl, zG, z7, E.load, E.store, zF, isC, bin, zH, zI, una, z8, za, zh, zJ, blt, fnV, asArg, ze, zn, zo, zj, zi, zg, zk, zr, z6, zD, zE, E.mkS, zc, unN, zK, zm, zz, zB, zf, zL, zq, GS, simprocAttr, GZ, c2, hget, zx, he, zO, IH, zZ, xK]
    · have e1 := e0 h0
      rw [e1]
      refine zu Tryz.func115 rfl rfl ?_
      simp (disch := ((try simp only [LL]); omega)) only [↓GO, ↓DRW, GA, ren, zA, zd, refs, zb, cst, zl, zG, z7, E.load, E.store, zF, isC, bin, zH, zI, una, z8, za, zh, zJ, blt, fnV, asArg, ze, zn, zo, zj, zi, zg, zk, zr, z6, zD, zE, E.mkS, zc, unN, zK, zm, zz, zB, zf, zL, zq, GS, simprocAttr, GZ, c2, hget, zx, he, zO, IH, zZ, xK]
theorem dA (v : Ver) (hs : v.sm) : zC (EV Tryz.prog pol) 115 [.agg (v.enc.map .t)] = some (.t (.str (yb v))) := by
  have h1 := a6 v hs
  unfold yb
  cases ho : yw v with
  | false =>
    rw [ho] at h1
    simp only [Ver.enc, List.map_cons, List.map_nil] at h1 ⊢
    apply zw
    refine zy rfl Tryz.func115 rfl (by kernel_rfl) ?_
    unfold Tryz.f115
    simp (disch := ((try simp only [LL]); omega)) only [↓GO, ↓DRW, GA, ren, zA, zd, refs, zb, cst, zl, zG, z7, E.load, E.store, zF, isC, bin, zH, zI, una, z8, za, zh, zJ, blt, fnV, asArg, ze, zn, zo, zj, zi, zg, zk, zr, z6, zD, zE, E.mkS, zc, unN, zK, zm, zz, zB, zf, zL, zq, GS, simprocAttr, GZ, h1]
  | true =>
    obtain ⟨q1, q2, q3, _, _⟩ := wg ho
    have a := wI v.maj q1.1 q1.2
    have b := wI v.min q2.1 q2.2
    have c := wI v.pat q3.1 q3.2
    have d1 := iZ v.maj q1.1 q1.2
    have d2 := iZ v.min q2.1 q2.2
    have d3 := iZ v.pat q3.1 q3.2
    have hc := dw ho
    have h2 := SR v hs (vr v) (by omega) v.pre [] rfl
    rw [ho] at h1
    rw [show wh (vr v) [] = vr v from rfl] at h2
    simp only [List.length_nil, Int.natCast_zero] at h2
    simp only [cond_true]
    generalize wh (vr v) v.pre = tt at *
    unfold vr at h2
    simp only [Ver.enc, List.map_cons, List.map_nil] at h1 h2 ⊢
    apply zw
    refine zy rfl Tryz.func115 rfl (by kernel_rfl) ?_
    unfold Tryz.f115
    simp (disch := ((try simp only [LL]); omega)) only [↓GO, ↓DRW, GA, ren, zA, zd, refs, zb, cst, zl, zG, z7, E.load, E.store, zF, isC, bin, zH, zI, una, z8, za, zh, zJ, blt, fnV, asArg, ze, zn, zo, zj, zi, zg, zk, zr, z6, zD, zE, E.mkS, zc, unN, zK, zm, zz, zB, zf, zL, zq, GS, simprocAttr, GZ, h1, d1, d2, d3, h2, xK, zZ]
theorem mu {s : Str} (h : (yi 46 (yl 45 s).1).length ≠ 3) : w6 s = none := by
  unfold w6
  split
  · rename_i a b c he; rw [he] at h; exact absurd rfl h
  · rfl
theorem ld {s : Str} {v : Ver} (h : w6 s = some v) (hl : s.length ≤ 1048700) : v.sm ∧ v.maj ≤ 999999999 ∧ -1 ≤ v.maj ∧ v.min ≤ 999999999 ∧ -1 ≤ v.min ∧ v.pat ≤ 999999999 ∧ -1 ≤ v.pat := by
  unfold w6 at h
  split at h
  · rename_i a b c he
    cases h
    have h1 := xy a
    have h2 := xy b
    have h3 := xy c
    refine ⟨?_, h1.2, h1.1, h2.2, h2.1, h3.2, h3.1⟩
    have := xR 46 (yl 45 s).2.1
    have h5 := (qO 45 s).2
    unfold Ver.sm
    cases (yl 45 s).2.2 with
    | true => simp only [cond_true]; omega
    | false => simp [yk]
  · cases h
theorem x7 (s : Str) (hl : s.length ≤ 1048700) : (zM s).1.sm ∧ (zM s).1.maj ≤ 999999999 ∧ -1 ≤ (zM s).1.maj ∧ (zM s).1.min ≤ 999999999 ∧ -1 ≤ (zM s).1.min ∧ (zM s).1.pat ≤ 999999999 ∧ -1 ≤ (zM s).1.pat := by
  unfold zM
  cases hm : w6 s with
  | none => simp [Ver.zero, Ver.sm, yk]
  | some v =>
    have := ld hm hl
    simp only
    cases (yb v == s) with
    | true => exact this
    | false => simp [Ver.zero, Ver.sm, yk]
def rvT (s : Str) : V := .tup [.agg ((zM s).1.enc.map .t), .t (.bool (zM s).2)]
theorem nj (s : Str) (hl : s.length ≤ 1048700) : zC (EV Tryz.prog pol) 99 [.t (.str s)] = some (rvT s) := by
  have h1 := Ra s [45] (by omega)
  rw [dt] at h1
  have hl1 := qO 45 s
  have h2 := pc (yl 45 s).1 [46] (by omega) (by simp)
  have h3 := pc (yl 45 s).2.1 [46] (by omega) (by simp)
  rw [rL] at h2 h3
  unfold rvT zM
  by_cases hn : (yi 46 (yl 45 s).1).length = 3
  · obtain ⟨a, b, c, hp⟩ : ∃ a b c, yi 46 (yl 45 s).1 = [a, b, c] := by
      match hq : yi 46 (yl 45 s).1, hn with
      | [a, b, c], _ => exact ⟨a, b, c, rfl⟩
    have hm : w6 s = some ⟨zP a, zP b, zP c, cond (yl 45 s).2.2 (yi 46 (yl 45 s).2.1) []⟩ := by unfold w6; rw [hp]
    have hne := eg hm
    have hsm := (ld hm hl).1
    have hbk := xR 46 (yl 45 s).1
    rw [hp] at h2 hbk
    simp only [yk] at hbk
    have d1 := lQ a (by omega)
    have d2 := lQ b (by omega)
    have d3 := lQ c (by omega)
    have hv := uT _ hsm
    rw [hm]
    have hs0 : (s == []) = false := by rw [beq_eq_false_iff_ne]; exact hne
    simp only [Ver.enc, List.map_cons, List.map_nil, xp, yf] at hv h2 ⊢
    generalize zP a = ra at *
    generalize zP b = rb at *
    generalize zP c = rc at *
    cases hh : (yl 45 s).2.2 <;> rw [hh] at h1 hv <;> simp only [cond_true, cond_false, yf] at hv ⊢
    · generalize yb ⟨ra, rb, rc, []⟩ = tt at *
      clear hm hsm
      cases he : (tt == s)
      · apply zw
        refine zy rfl Tryz.func99 rfl (by kernel_rfl) ?_
        unfold Tryz.f99
        simp (disch := ((try simp only [LL]); omega)) only [↓GO, ↓DRW, GA, ren, zA, zd, refs, zb, cst, zl, zG, z7, E.load, E.store, zF, isC, bin, zH, zI, una, z8, za, zh, zJ, blt, fnV, asArg, ze, zn, zo, zj, zi, zg, zk, zr, z6, zD, zE, E.mkS, zc, unN, zK, zm, zz, zB, zf, zL, zq, GS, simprocAttr, GZ, h1, h2, d1, d2, d3, hv, he, bne, hs0, Ver.zero, yf]
        refine yP (by kernel_rfl) ?_
        simp (disch := ((try simp only [LL]); omega)) only [↓GO, ↓DRW, GA, ren, zA, zd, refs, zb, cst, zl, zG, z7, E.load, E.store, zF, isC, bin, zH, zI, una, z8, za, zh, zJ, blt, fnV, asArg, ze, zn, zo, zj, zi, zg, zk, zr, z6, zD, zE, E.mkS, zc, unN, zK, zm, zz, zB, zf, zL, zq, GS, simprocAttr, GZ, h1, h2, d1, d2, d3, hv, he, bne, hs0, Ver.zero, yf]
      · apply zw
        refine zy rfl Tryz.func99 rfl (by kernel_rfl) ?_
        unfold Tryz.f99
        simp (disch := ((try simp only [LL]); omega)) only [↓GO, ↓DRW, GA, ren, zA, zd, refs, zb, cst, zl, zG, z7, E.load, E.store, zF, isC, bin, zH, zI, una, z8, za, zh, zJ, blt, fnV, asArg, ze, zn, zo, zj, zi, zg, zk, zr, z6, zD, zE, E.mkS, zc, unN, zK, zm, zz, zB, zf, zL, zq, GS, simprocAttr, GZ, h1, h2, d1, d2, d3, hv, he, bne, hs0, yf]
        refine yP (by kernel_rfl) ?_
        simp (disch := ((try simp only [LL]); omega)) only [↓GO, ↓DRW, GA, ren, zA, zd, refs, zb, cst, zl, zG, z7, E.load, E.store, zF, isC, bin, zH, zI, una, z8, za, zh, zJ, blt, fnV, asArg, ze, zn, zo, zj, zi, zg, zk, zr, z6, zD, zE, E.mkS, zc, unN, zK, zm, zz, zB, zf, zL, zq, GS, simprocAttr, GZ, h1, h2, d1, d2, d3, hv, he, bne, hs0, yf]
    · generalize yb ⟨ra, rb, rc, yi 46 (yl 45 s).2.1⟩ = tt at *
      clear hm hsm
      generalize yi 46 (yl 45 s).2.1 = pp at *
      cases he : (tt == s)
      · apply zw
        refine zy rfl Tryz.func99 rfl (by kernel_rfl) ?_
        unfold Tryz.f99
        simp (disch := ((try simp only [LL]); omega)) only [↓GO, ↓DRW, GA, ren, zA, zd, refs, zb, cst, zl, zG, z7, E.load, E.store, zF, isC, bin, zH, zI, una, z8, za, zh, zJ, blt, fnV, asArg, ze, zn, zo, zj, zi, zg, zk, zr, z6, zD, zE, E.mkS, zc, unN, zK, zm, zz, zB, zf, zL, zq, GS, simprocAttr, GZ, h1, h2, h3, d1, d2, d3, hv, he, bne, hs0, Ver.zero, yf]
        refine yP (by kernel_rfl) ?_
        simp (disch := ((try simp only [LL]); omega)) only [↓GO, ↓DRW, GA, ren, zA, zd, refs, zb, cst, zl, zG, z7, E.load, E.store, zF, isC, bin, zH, zI, una, z8, za, zh, zJ, blt, fnV, asArg, ze, zn, zo, zj, zi, zg, zk, zr, z6, zD, zE, E.mkS, zc, unN, zK, zm, zz, zB, zf, zL, zq, GS, simprocAttr, GZ, h1, h2, h3, d1, d2, d3, hv, he, bne, hs0, Ver.zero, yf]
      · apply zw
        refine zy rfl Tryz.func99 rfl (by kernel_rfl) ?_
        unfold Tryz.f99
        simp (disch := ((try simp only [LL]); omega)) only [↓GO, ↓DRW, GA, ren, zA, zd, refs, zb, cst, zl, zG, z7, E.load, E.store, zF, isC, bin, zH, zI, una, z8, za, zh, zJ, blt, fnV, asArg, ze, zn, zo, zj, zi, zg, zk, zr, z6, zD, zE, E.mkS, zc, unN, zK, zm, zz, zB, zf, zL, zq, GS, simprocAttr, GZ, h1, h2, h3, d1, d2, d3, hv, he, bne, hs0, yf]
        refine yP (by kernel_rfl) ?_
        simp (disch := ((try simp only [LL]); omega)) only [↓GO, ↓DRW, GA, ren, zA, zd, refs, zb, cst, zl, zG, z7, E.load, E.store, zF, isC, bin, zH, zI, una, z8, za, zh, zJ, blt, fnV, asArg, ze, zn, zo, zj, zi, zg, zk, zr, z6, zD, zE, E.mkS, zc, unN, zK, zm, zz, zB, zf, zL, zq, GS, simprocAttr, GZ, h1, h2, h3, d1, d2, d3, hv, he, bne, hs0, yf]
  · have hm := mu hn
    rw [hm]
    have hc : (((yi 46 (yl 45 s).1).length : Int) == 3) = false := by rw [beq_eq_false_iff_ne]; omega
    generalize yi 46 (yl 45 s).1 = parts at *
    apply zw
    refine zy rfl Tryz.func99 rfl (by kernel_rfl) ?_
    unfold Tryz.f99
    simp (disch := ((try simp only [LL]); omega)) only [↓GO, ↓DRW, GA, ren, zA, zd, refs, zb, cst, zl, zG, z7, E.load, E.store, zF, isC, bin, zH, zI, una, z8, za, zh, zJ, blt, fnV, asArg, ze, zn, zo, zj, zi, zg, zk, zr, z6, zD, zE, E.mkS, zc, unN, zK, zm, zz, zB, zf, zL, zq, GS, simprocAttr, GZ, h1, h2, hc, bne, zO, Ver.zero, Ver.enc, yf]
theorem l_at (s : Str) (b : UInt8) (hl : s.length ≤ 4194304) : ∀ (rest pre : Str), s = pre ++ rest →
    EV Tryz.prog pol (.loop 113 26 0 [.t (.str s), .t (.int .u8 (b.toNat : Int)), .t (.int .i64 (pre.length : Int))] []) = some (cond (yl b rest).2.2 (.loop .ret [.t (.int .i64 ((pre.length : Int) + ((yl b rest).1.length : Int)))] []) (.loop (.exit 0) [.bad] []))
  | [], pre, hs => by
    have c : decide ((pre.length : Int) < (s.length : Int)) = false := by simp [hs]
    refine zu Tryz.func113 rfl rfl ?_
    simp only [↓GO, ↓DRW, GA, ren, zA, zd, refs, zb, cst, zl, zG, z7, E.load, E.store, zF, isC, bin, zH, zI, una, z8, za, zh, zJ, blt, fnV, asArg, ze, zn, zo, zj, zi, zg, zk, zr, z6, zD, zE, E.mkS, zc, unN, zK, zm, zz, zB, zf, zL, zq, GS, simprocAttr, c, yl]
  | x :: rest, pre, hs => by
    have c : decide ((pre.length : Int) < (s.length : Int)) = true := by simp [hs]; omega
    have hget : s[pre.length]? = some x := by rw [hs]; exact tN pre x rest
    have hlen : s.length = pre.length + rest.length + 1 := by rw [hs]; simp; omega
    have IH := l_at s b hl rest (pre ++ [x]) (by rw [hs]; simp)
    rw [show ((pre ++ [x]).length : Int) = (pre.length : Int) + 1 by simp] at IH
    rw [yl]
    clear hs
    by_cases hx : x = b
    · subst hx
      rw [if_pos rfl]
      refine zu Tryz.func113 rfl rfl ?_
      simp (disch := ((try simp only [LL]); omega)) only [↓GO, ↓DRW, GA, ren, zA, zd, refs, zb, cst, zl, zG, z7, E.load, E.store, zF, isC, bin, zH, zI, una, z8, za, zh, zJ, blt, fnV, asArg, ze, zn, zo, zj, zi, zg, zk, zr, z6, zD, zE, E.mkS, zc, unN, zK, zm, zz, zB, zf, zL, zq, GS, simprocAttr, GZ, c, hget, zx, Int.natCast_zero, Int.add_zero]
    · have c2 : ((x.toNat : Int) == (b.toNat : Int)) = false := by
        rw [beq_eq_false_iff_ne]; intro e; exact hx (UInt8.toNat_inj.1 (by omega))
      rw [if_neg hx]
      rw [show (((x :: (yl b rest).1).length : Nat) : Int) = ((yl b rest).1.length : Int) + 1 by simp, show (pre.length : Int) + (((yl b rest).1.length : Int) + 1) = (pre.length : Int) + 1 + ((yl b rest).1.length : Int) by omega]
      refine zu Tryz.func113 rfl rfl ?_
      simp (disch := ((try simp only [LL]); omega)) only [↓GO, ↓DRW, GA, ren, zA, zd, refs, zb, cst, zl, zG, z7, E.load, E.store, zF, isC, bin, zH, zI, una, z8, za, zh, zJ, blt, fnV, asArg, ze, zn, zo, zj, zi, zg, zk, zr, z6, zD, zE, E.mkS, zc, unN, zK, zm, zz, zB, zf, zL, zq, GS, simprocAttr, GZ, c, hget, zx, c2, IH]
def atV (b : UInt8) (s : Str) : Int := cond (yl b s).2.2 ((yl b s).1.length : Int) (-1)
theorem c_at (s : Str) (b : UInt8) (hl : s.length ≤ 4194304) : zC (EV Tryz.prog pol) 113 [.t (.str s), .t (.int .u8 (b.toNat : Int))] = some (.t (.int .i64 (atV b s))) := by
  have IH := l_at s b hl s [] rfl
  simp only [List.length_nil, Int.natCast_zero, Int.zero_add] at IH
  unfold atV
  apply zw
  refine zy rfl Tryz.func113 rfl (by kernel_rfl) ?_
  unfold Tryz.f113
  cases h : (yl b s).2.2 <;> rw [h] at IH <;> simp only [cond_true, cond_false] at IH <;> simp (disch := ((try simp only [LL]); omega)) only [↓GO, ↓DRW, GA, ren, zA, zd, refs, zb, cst, zl, zG, z7, E.load, E.store, zF, isC, bin, zH, zI, una, z8, za, zh, zJ, blt, fnV, asArg, ze, zn, zo, zj, zi, zg, zk, zr, z6, zD, zE, E.mkS, zc, unN, zK, zm, zz, zB, zf, zL, zq, GS, simprocAttr, GZ, IH]
theorem ni (s : Str) (hl : s.length ≤ 1048700) : zC (EV Tryz.prog pol) 87 [.t (.str s)] = some (rvT s) := by
  have h1 := c_at s 45 (by omega)
  rw [show (((45 : UInt8)).toNat : Int) = 45 from rfl] at h1
  have hl1 := qO 45 s
  have h2 := lI (yl 45 s).1 46 (by omega)
  have h3 := lI (yl 45 s).2.1 46 (by omega)
  rw [show (((46 : UInt8)).toNat : Int) = 46 from rfl] at h2 h3
  have hce := r6 45 s
  unfold rvT zM
  unfold atV at h1
  have hA : (yl 45 s).2.2 = false → (yl 45 s).1 = s := fun h => by rw [h, cond_false, List.append_nil] at hce; exact hce.symm
  have hB : (yl 45 s).2.2 = true → s.take (yl 45 s).1.length = (yl 45 s).1 ∧ s.drop ((yl 45 s).1.length + 1) = (yl 45 s).2.1 ∧ (yl 45 s).1.length + 1 ≤ s.length := fun h => by
    rw [h, cond_true] at hce
    have e1 : s.take (yl 45 s).1.length = (yl 45 s).1 := by
      conv => lhs; arg 2; rw [hce]
      exact List.take_left
    have e2 : s.drop ((yl 45 s).1.length + 1) = (yl 45 s).2.1 := by
      conv => lhs; arg 2; rw [hce]
      rw [← List.drop_drop, List.drop_left]; rfl
    refine ⟨e1, e2, ?_⟩
    have := congrArg List.length hce
    rw [List.length_append, List.length_cons] at this
    omega
  clear hce
  by_cases hn : (yi 46 (yl 45 s).1).length = 3
  · obtain ⟨a, b, c, hp⟩ : ∃ a b c, yi 46 (yl 45 s).1 = [a, b, c] := by
      match hq : yi 46 (yl 45 s).1, hn with
      | [a, b, c], _ => exact ⟨a, b, c, rfl⟩
    have hm : w6 s = some ⟨zP a, zP b, zP c, cond (yl 45 s).2.2 (yi 46 (yl 45 s).2.1) []⟩ := by unfold w6; rw [hp]
    have hsm := (ld hm hl).1
    have hbk := xR 46 (yl 45 s).1
    rw [hp] at h2 hbk
    simp only [yk] at hbk
    have d1 := jX a (by omega)
    have d2 := jX b (by omega)
    have d3 := jX c (by omega)
    have hv := dA _ hsm
    rw [hm]
    simp only [Ver.enc, List.map_cons, List.map_nil, xp, yf] at hv h2 ⊢
    generalize zP a = ra at *
    generalize zP b = rb at *
    generalize zP c = rc at *
    cases hh : (yl 45 s).2.2 <;> rw [hh] at h1 hv <;> simp only [cond_true, cond_false, yf] at hv h1 ⊢
    · have hA' := hA hh
      rw [hA'] at h2
      generalize yb ⟨ra, rb, rc, []⟩ = tt at *
      clear hm hsm hA hB hp
      cases he : (tt == s)
      · apply zw
        refine zy rfl Tryz.func87 rfl (by kernel_rfl) ?_
        unfold Tryz.f87
        simp (disch := ((try simp only [LL]); omega)) only [↓GO, ↓DRW, GA, ren, zA, zd, refs, zb, cst, zl, zG, z7, E.load, E.store, zF, isC, bin, zH, zI, una, z8, za, zh, zJ, blt, fnV, asArg, ze, zn, zo, zj, zi, zg, zk, zr, z6, zD, zE, E.mkS, zc, unN, zK, zm, zz, zB, zf, zL, zq, GS, simprocAttr, GZ, h1, h2, d1, d2, d3, hv, he, bne, ge_iff_le, Ver.zero, yf]
      · apply zw
        refine zy rfl Tryz.func87 rfl (by kernel_rfl) ?_
        unfold Tryz.f87
        simp (disch := ((try simp only [LL]); omega)) only [↓GO, ↓DRW, GA, ren, zA, zd, refs, zb, cst, zl, zG, z7, E.load, E.store, zF, isC, bin, zH, zI, una, z8, za, zh, zJ, blt, fnV, asArg, ze, zn, zo, zj, zi, zg, zk, zr, z6, zD, zE, E.mkS, zc, unN, zK, zm, zz, zB, zf, zL, zq, GS, simprocAttr, GZ, h1, h2, d1, d2, d3, hv, he, bne, ge_iff_le, yf]
    · obtain ⟨b1, b2, b3⟩ := hB hh
      generalize yb ⟨ra, rb, rc, yi 46 (yl 45 s).2.1⟩ = tt at *
      clear hm hsm hA hB hp
      generalize yi 46 (yl 45 s).2.1 = pp at *
      have g0 : decide ((0 : Int) ≤ ((yl 45 s).1.length : Int)) = true := by simp
      generalize (yl 45 s).2.1 = tl at *
      generalize (yl 45 s).1 = hd at *
      cases he : (tt == s)
      · apply zw
        refine zy rfl Tryz.func87 rfl (by kernel_rfl) ?_
        unfold Tryz.f87
        simp (disch := ((try simp only [LL]); omega)) only [↓GO, ↓DRW, GA, ren, zA, zd, refs, zb, cst, zl, zG, z7, E.load, E.store, zF, isC, bin, zH, zI, una, z8, za, zh, zJ, blt, fnV, asArg, ze, zn, zo, zj, zi, zg, zk, zr, z6, zD, zE, E.mkS, zc, unN, zK, zm, zz, zB, zf, zL, zq, GS, simprocAttr, GZ, h1, h2, h3, d1, d2, d3, hv, he, bne, ge_iff_le, g0, b1, b2, zx, Ver.zero, yf]
      · apply zw
        refine zy rfl Tryz.func87 rfl (by kernel_rfl) ?_
        unfold Tryz.f87
        simp (disch := ((try simp only [LL]); omega)) only [↓GO, ↓DRW, GA, ren, zA, zd, refs, zb, cst, zl, zG, z7, E.load, E.store, zF, isC, bin, zH, zI, una, z8, za, zh, zJ, blt, fnV, asArg, ze, zn, zo, zj, zi, zg, zk, zr, z6, zD, zE, E.mkS, zc, unN, zK, zm, zz, zB, zf, zL, zq, GS, simprocAttr, GZ, h1, h2, h3, d1, d2, d3, hv, he, bne, ge_iff_le, g0, b1, b2, zx]
  · have hm := mu hn
    rw [hm]
    have hc : (((yi 46 (yl 45 s).1).length : Int) == 3) = false := by rw [beq_eq_false_iff_ne]; omega
    cases hh : (yl 45 s).2.2 <;> rw [hh] at h1 <;> simp only [cond_true, cond_false] at h1
    · have hA' := hA hh
      rw [hA'] at h2 hc
      generalize yi 46 s = parts at *
      apply zw
      refine zy rfl Tryz.func87 rfl (by kernel_rfl) ?_
      unfold Tryz.f87
      simp (disch := ((try simp only [LL]); omega)) only [↓GO, ↓DRW, GA, ren, zA, zd, refs, zb, cst, zl, zG, z7, E.load, E.store, zF, isC, bin, zH, zI, una, z8, za, zh, zJ, blt, fnV, asArg, ze, zn, zo, zj, zi, zg, zk, zr, z6, zD, zE, E.mkS, zc, unN, zK, zm, zz, zB, zf, zL, zq, GS, simprocAttr, GZ, h1, h2, hc, bne, ge_iff_le, zO, Ver.zero, Ver.enc, yf]
    · obtain ⟨b1, b2, b3⟩ := hB hh
      have g0 : decide ((0 : Int) ≤ ((yl 45 s).1.length : Int)) = true := by simp
      generalize yi 46 (yl 45 s).1 = parts at *
      generalize yi 46 (yl 45 s).2.1 = pp at *
      generalize (yl 45 s).2.1 = tl at *
      generalize (yl 45 s).1 = hd at *
      apply zw
      refine zy rfl Tryz.func87 rfl (by kernel_rfl) ?_
      unfold Tryz.f87
      simp (disch := ((try simp only [LL]); omega)) only [↓GO, ↓DRW, GA, ren, zA, zd, refs, zb, cst, zl, zG, z7, E.load, E.store, zF, isC, bin, zH, zI, una, z8, za, zh, zJ, blt, fnV, asArg, ze, zn, zo, zj, zi, zg, zk, zr, z6, zD, zE, E.mkS, zc, unN, zK, zm, zz, zB, zf, zL, zq, GS, simprocAttr, GZ, h1, h2, h3, hc, bne, ge_iff_le, g0, b1, b2, zx, zO, Ver.zero, Ver.enc, yf]
end Go.Proofs.YtmcephnfcciloaaGreatDoor
/- The range of a version alone, by both. Conditions: those of each lemma. -/
namespace Go.Proofs.YtmcephnfcciloaaGreatDoor
open E
set_option linter.unusedSimpArgs false
set_option linter.unusedVariables false
set_option maxRecDepth 100000
theorem aq (a b c : Int) : Ver.sm ⟨a, b, c, [[48]]⟩ := by simp [Ver.sm, yk]
theorem lP (a b c : Int) : zC (EV Tryz.prog pol) 131 [.t (.int .i64 a), .t (.int .i64 b), .t (.int .i64 c)] = some (.t (.str (ye a b c))) := by
  have h := uT ⟨a, b, c, [[48]]⟩ (aq a b c)
  simp only [Ver.enc, List.map_cons, List.map_nil, xp, yf] at h
  unfold ye
  apply zw
  refine zy rfl Tryz.func131 rfl (by kernel_rfl) ?_
  unfold Tryz.f131
  simp (disch := ((try simp only [LL]); omega)) only [↓GO, ↓DRW, GA, ren, zA, zd, refs, zb, cst, zl, zG, z7, E.load, E.store, zF, isC, bin, zH, zI, una, z8, za, zh, zJ, blt, fnV, asArg, ze, zn, zo, zj, zi, zg, zk, zr, z6, zD, zE, E.mkS, zc, unN, zK, zm, zz, zB, zf, zL, zq, GS, simprocAttr, GZ, h]
theorem ZJ (v : Ver) (hs : v.sm) (hp : v.pre.length + yk v.pre ≤ 2097150) (h0 : -1 ≤ v.pat) (h1 : v.pat ≤ 999999999) : zC (EV Tryz.prog pol) 124 [.agg (v.enc.map .t)] = some (.agg [.t (.str (yb v)), .t (.str (uY v))]) := by
  have a1 := lP v.maj v.min (v.pat + 1)
  have a2 := uT v hs
  have hpv : (sD v).sm := by
    unfold Ver.sm sD
    simp only [List.length_append, List.length_cons, List.length_nil, lA, yk]; omega
  have a3 := uT (sD v) hpv
  unfold Ver.sm at hs
  have a4 := dE (zV v.pre) (by rw [zO]; omega)
  have ht : List.take (v.pre.length + 1) (zV v.pre ++ [[T.str [48]]]) = zV v.pre ++ [[T.str [48]]] := List.take_of_length_le (by simp [zO])
  have hg := iX v.pre
  unfold uY
  rw [show (sD v).enc = [.int .i64 v.maj, .int .i64 v.min, .int .i64 v.pat, .list 1 (zV v.pre ++ [[.str [48]]])] by unfold Ver.enc sD; rw [uM]; rfl] at a3
  simp only [Ver.enc, List.map_cons, List.map_nil] at a2 a3 ⊢
  rw [zO] at a4
  generalize yb (sD v) = tp at *
  generalize yb v = tv at *
  generalize ye v.maj v.min (v.pat + 1) = tz at *
  cases hb : (v.pre == []) <;> rw [hb] at hg <;> simp only [Bool.not_true, Bool.not_false] at hg
  · apply zw
    refine zy rfl Tryz.func124 rfl (by kernel_rfl) ?_
    unfold Tryz.f124
    simp (disch := ((try simp only [LL]); omega)) only [↓GO, ↓DRW, GA, ren, zA, zd, refs, zb, cst, zl, zG, z7, E.load, E.store, zF, isC, bin, zH, zI, una, z8, za, zh, zJ, blt, fnV, asArg, ze, zn, zo, zj, zi, zg, zk, zr, z6, zD, zE, E.mkS, zc, unN, zK, zm, zz, zB, zf, zL, zq, GS, simprocAttr, GZ, a1, a2, a3, a4, ht, hg, zx, zO, xK, zZ]
  · apply zw
    refine zy rfl Tryz.func124 rfl (by kernel_rfl) ?_
    unfold Tryz.f124
    simp (disch := ((try simp only [LL]); omega)) only [↓GO, ↓DRW, GA, ren, zA, zd, refs, zb, cst, zl, zG, z7, E.load, E.store, zF, isC, bin, zH, zI, una, z8, za, zh, zJ, blt, fnV, asArg, ze, zn, zo, zj, zi, zg, zk, zr, z6, zD, zE, E.mkS, zc, unN, zK, zm, zz, zB, zf, zL, zq, GS, simprocAttr, GZ, a1, a2, a3, a4, ht, hg, zx, zO, xK, zZ]
def exT (s : Str) : List (List T) := match x6 s with
  | some (l, h) => [[.str l, .str h]]
  | none => []
theorem ou (s : Str) (hl : s.length ≤ 1048700) : (zM s).1.pre.length + yk (zM s).1.pre ≤ 1048701 := by
  unfold zM
  cases hm : w6 s with
  | none => simp [Ver.zero, yk]
  | some v =>
    have h : v.pre.length + yk v.pre ≤ 1048701 := by
      unfold w6 at hm
      split at hm
      · cases hm
        have := xR 46 (yl 45 s).2.1
        have h5 := (qO 45 s).2
        cases (yl 45 s).2.2 with
        | true => simp only [cond_true]; omega
        | false => simp [yk]
      · cases hm
    simp only
    cases (yb v == s) with
    | true => exact h
    | false => simp [Ver.zero, yk]
theorem c_exI (s : Str) (hl : s.length ≤ 1048700) : zC (EV Tryz.prog pol) 92 [.t (.str s)] = some (.t (.list 2 (exT s))) := by
  have h1 := nj s hl
  obtain ⟨m1, m2, m3, m4, m5, m6, m7⟩ := x7 s hl
  have hp := ou s hl
  have h2 := ZJ (zM s).1 m1 (by omega) m7 m6
  unfold exT x6
  unfold rvT at h1
  cases hk : (zM s).2 with
  | false =>
    rw [hk] at h1
    generalize (zM s).1 = v at *
    generalize yb v = tv at *
    generalize uY v = hv at *
    simp only [Ver.enc, List.map_cons, List.map_nil] at h1 h2 ⊢
    apply zw
    refine zy rfl Tryz.func92 rfl (by kernel_rfl) ?_
    unfold Tryz.f92
    simp (disch := ((try simp only [LL]); omega)) only [↓GO, ↓DRW, GA, ren, zA, zd, refs, zb, cst, zl, zG, z7, E.load, E.store, zF, isC, bin, zH, zI, una, z8, za, zh, zJ, blt, fnV, asArg, ze, zn, zo, zj, zi, zg, zk, zr, z6, zD, zE, E.mkS, zc, unN, zK, zm, zz, zB, zf, zL, zq, GS, simprocAttr, GZ, h1, h2]
  | true =>
    have ht := (yv hk).2.1
    rw [ht] at h2
    rw [hk] at h1
    generalize (zM s).1 = v at *
    generalize uY v = hv at *
    simp only [Ver.enc, List.map_cons, List.map_nil] at h1 h2 ⊢
    cases he : (hv == [])
    · apply zw
      refine zy rfl Tryz.func92 rfl (by kernel_rfl) ?_
      unfold Tryz.f92
      simp (disch := ((try simp only [LL]); omega)) only [↓GO, ↓DRW, GA, ren, zA, zd, refs, zb, cst, zl, zG, z7, E.load, E.store, zF, isC, bin, zH, zI, una, z8, za, zh, zJ, blt, fnV, asArg, ze, zn, zo, zj, zi, zg, zk, zr, z6, zD, zE, E.mkS, zc, unN, zK, zm, zz, zB, zf, zL, zq, GS, simprocAttr, GZ, h1, h2, he]
    · apply zw
      refine zy rfl Tryz.func92 rfl (by kernel_rfl) ?_
      unfold Tryz.f92
      simp (disch := ((try simp only [LL]); omega)) only [↓GO, ↓DRW, GA, ren, zA, zd, refs, zb, cst, zl, zG, z7, E.load, E.store, zF, isC, bin, zH, zI, una, z8, za, zh, zJ, blt, fnV, asArg, ze, zn, zo, zj, zi, zg, zk, zr, z6, zD, zE, E.mkS, zc, unN, zK, zm, zz, zB, zf, zL, zq, GS, simprocAttr, GZ, h1, h2, he]
end Go.Proofs.YtmcephnfcciloaaGreatDoor

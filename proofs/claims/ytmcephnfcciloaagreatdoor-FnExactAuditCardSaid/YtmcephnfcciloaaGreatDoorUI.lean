/- Joined: V1 N1 V2 N0 N2 K1 K2 P2 K3 K4. Conditions: those of each lemma. -/
import Derived.Test.YtmcephnfcciloaaGreatDoorUF
import Derived.Lib.SplitLaws
import Derived.Lib.ItoaMem
import Derived.Lib.AtoiAll
import Derived.Test.YtmcephnfcciloaaGreatDoorUG
import Derived.Lib.Join
import Derived.Test.YtmcephnfcciloaaGreatDoorUH
set_option linter.unusedVariables false
set_option linter.unusedSimpArgs false
namespace Go.Proofs.YtmcephnfcciloaaGreatDoor
set_option linter.unusedVariables false
set_option linter.unusedSimpArgs false
theorem nA (b : UInt8) (s : Str) : Lib.index (b :: s) [b] = 0 := by rw [Lib.index]; simp [List.isPrefixOf]
theorem o7 (x b : UInt8) (s : Str) (h : x ≠ b) : Lib.index (x :: s) [b] = if Lib.index s [b] == -1 then -1 else Lib.index s [b] + 1 := by
  have hp : ([b] : List UInt8).isPrefixOf (x :: s) = false := by simp [List.isPrefixOf, Ne.symm h]
  rw [Lib.index, hp]; simp
theorem yU (b : UInt8) : ∀ s : Str, yi b s ≠ []
  | [] => by simp [yi]
  | x :: s => by
    unfold yi
    split
    · simp
    · split <;> simp
theorem wg (b : UInt8) (s : Str) : yi b (b :: s) = [] :: yi b s := by rw [yi, if_pos rfl]
theorem yF (b x : UInt8) (s p : Str) (r : List Str) (h : x ≠ b) (e : yi b s = p :: r) : yi b (x :: s) = (x :: p) :: r := by
  rw [yi, if_neg h, e]
theorem lq (b : UInt8) : ∀ s : Str, Lib.split s [b] = yi b s
  | [] => by
    unfold Lib.split
    rw [Lib.count_miss (by simp [Lib.index])]; rfl
  | x :: s => by
    have ih := lq b s
    unfold Lib.split at ih ⊢
    by_cases h : x = b
    · subst h
      rw [Lib.count_cons_eq, Nat.add_comm, Lib.splitK, nA, wg]
      simpa using ih
    · rw [Lib.count_cons_ne x b s h]
      by_cases hm : Lib.index s [b] = -1
      · rw [Lib.count_miss hm] at ih ⊢
        rw [Lib.splitK] at ih ⊢
        exact (yF b x s s [] h ih.symm).symm
      · have hge := Lib.index_ge s [b]
        obtain ⟨j, hj⟩ : ∃ j : Nat, Lib.index s [b] = j := ⟨(Lib.index s [b]).toNat, by omega⟩
        rw [Lib.count_hit (by simp) hj, Nat.add_comm] at ih ⊢
        have hb : (((j : Nat) : Int) == -1) = false := by rw [beq_eq_false_iff_ne]; omega
        have hb2 : (((j : Nat) : Int) + 1 == -1) = false := by rw [beq_eq_false_iff_ne]; omega
        rw [Lib.splitK, hj, hb] at ih
        rw [Lib.splitK, o7 x b s h, hj, hb]
        simp only [Bool.false_eq_true, if_false, hb2, Int.toNat_natCast, Nat.add_zero, List.length_cons, List.length_nil, Nat.zero_add] at ih ⊢
        rw [show ((j : Int) + 1).toNat = j + 1 by omega]
        rw [List.take_succ_cons, List.drop_succ_cons]
        exact (yF b x s _ _ h ih.symm).symm
/-- a text cut at the first place of a byte -/
def yl (b : UInt8) : Str → Str × Str × Bool
  | [] => ([], [], false)
  | x :: s => if x = b then ([], s, true) else (x :: (yl b s).1, (yl b s).2.1, (yl b s).2.2)
theorem fZ (b : UInt8) : ∀ s : Str, Lib.cut s [b] = yl b s
  | [] => by simp [Lib.cut, yl, Lib.index]
  | x :: s => by
    have ih := fZ b s
    by_cases h : x = b
    · subst h
      unfold Lib.cut
      rw [nA, yl, if_pos rfl]; simp
    · rw [yl, if_neg h, ← ih]
      unfold Lib.cut
      rw [o7 x b s h]
      have hge := Lib.index_ge s [b]
      by_cases hm : Lib.index s [b] = -1
      · rw [hm]; simp
      · obtain ⟨j, hj⟩ : ∃ j : Nat, Lib.index s [b] = j := ⟨(Lib.index s [b]).toNat, by omega⟩
        have hb : (((j : Nat) : Int) == -1) = false := by rw [beq_eq_false_iff_ne]; omega
        rw [hj, hb]
        simp only [Bool.false_eq_true, if_false]
        rw [if_pos (by omega), if_pos (by omega), show ((j : Int) + 1).toNat = j + 1 by omega]
        simp only [List.take_succ_cons, Int.toNat_natCast]
        rw [show j + 1 + [b].length = (j + [b].length) + 1 by simp, List.drop_succ_cons]
theorem sI (b : UInt8) : ∀ s : Str, s = (yl b s).1 ++ cond (yl b s).2.2 (b :: (yl b s).2.1) []
  | [] => rfl
  | x :: s => by
    rw [yl]
    split
    · rename_i h; rw [h]; rfl
    · have := sI b s
      show x :: s = (x :: (yl b s).1) ++ _
      rw [List.cons_append, ← this]
theorem mC (b : UInt8) : ∀ s : Str, b ∉ (yl b s).1
  | [] => by simp [yl]
  | x :: s => by
    rw [yl]
    split
    · simp
    · rename_i h
      have := mC b s
      simp only [List.mem_cons, not_or]
      exact ⟨Ne.symm h, this⟩
theorem nK (b : UInt8) : ∀ s : Str, (yl b s).2.2 = false → (yl b s).2.1 = []
  | [], _ => rfl
  | x :: s, h => by
    rw [yl] at h ⊢
    split at h
    · simp at h
    · rename_i hx
      rw [if_neg hx]; exact nK b s h
theorem mD (b : UInt8) (t : Str) : ∀ s : Str, b ∉ s → yl b (s ++ b :: t) = (s, t, true)
  | [], _ => by simp [yl]
  | x :: s, h => by
    simp only [List.mem_cons, not_or] at h
    rw [List.cons_append, yl, if_neg (Ne.symm h.1), mD b t s h.2]
theorem aw (b : UInt8) : ∀ s : Str, b ∉ s → yl b s = (s, [], false)
  | [], _ => by simp [yl]
  | x :: s, h => by
    simp only [List.mem_cons, not_or] at h
    rw [yl, if_neg (Ne.symm h.1), aw b s h.2]
theorem uB (b : UInt8) (t : Str) : ∀ s : Str, yi b (s ++ b :: t) = yi b s ++ yi b t
  | [] => by rw [List.nil_append, wg]; rfl
  | x :: s => by
    have ih := uB b t s
    rw [List.cons_append]
    by_cases h : x = b
    · subst h; rw [wg, wg, ih]; rfl
    · cases hc : yi b s with
      | nil => exact absurd hc (yU b s)
      | cons p r =>
        rw [hc] at ih
        rw [yF b x s p r h hc, yF b x _ p (r ++ yi b t) h ih]; rfl
theorem oO (b : UInt8) : ∀ s : Str, b ∉ s → yi b s = [s]
  | [], _ => rfl
  | x :: s, h => by
    simp only [List.mem_cons, not_or] at h
    exact yF b x s s [] (Ne.symm h.1) (oO b s h.2)
def sN : Str := [110, 111, 100, 101, 95, 109, 111, 100, 117, 108, 101, 115]
def vR (b : UInt8) : Bool := B2 (nb b) 97 122 || B2 (nb b) 48 57 || nb b == 46 || nb b == 95 || nb b == 45
def ov (s : Str) : Bool := ([64] : Str).isPrefixOf s
def yQ (s : Str) : Str := match s with
  | [] => []
  | x :: r => if x = 64 then r else x :: r
/-- as the implementation asks -/
def vM (sc : Bool) : List Str → Bool
  | [] => true
  | p :: r => (!((p == []) || ((p == sN) && !sc) || !(p.all vR))) && vM false r
def vj (s : Str) : Bool := vM (ov s) (yi 47 (yQ s)) && decide ((s.length : Int) ≤ 60)
/-- as the reference asks -/
def mP : List Str → Bool
  | [] => true
  | p :: r => (!(p == sN) && (p.all vR && !(p == []))) && mP r
def rS : List Str → Bool
  | [] => true
  | p :: r => (!(p == sN) && ((yQ p).all vR && !(yQ p == []))) && mP r
theorem so : ∀ r : List Str, mP r = vM false r
  | [] => rfl
  | p :: r => by
    rw [mP, vM, so r]
    cases (p == []) <;> cases (p == sN) <;> cases (p.all vR) <;> rfl
theorem Ze (s : Str) : (rS (yi 47 s) && decide ((s.length : Int) ≤ 60)) = vj s := by
  unfold vj
  congr 1
  cases s with
  | nil => rfl
  | cons x t =>
    cases hc : yi 47 t with
    | nil => exact absurd hc (yU 47 t)
    | cons p r =>
      by_cases h64 : x = 64
      · subst h64
        rw [yF 47 64 t p r (by decide) hc]
        have h1 : ov (64 :: t) = true := by simp [ov, List.isPrefixOf]
        have h2 : yQ (64 :: t) = t := by simp [yQ]
        have h3 : yQ (64 :: p) = p := by simp [yQ]
        have h4 : (((64 : UInt8) :: p) == sN) = false := by simp [sN]
        rw [h1, h2, hc, rS, vM, h3, h4, so]
        cases (p == []) <;> cases (p == sN) <;> cases (p.all vR) <;> rfl
      · have h1 : ov (x :: t) = false := by simp [ov, List.isPrefixOf]; exact fun h => h64 h.symm
        have h2 : yQ (x :: t) = x :: t := by simp [yQ, h64]
        rw [h1, h2]
        by_cases h47 : x = 47
        · subst h47
          rw [wg, rS, vM, so]
          rfl
        · rw [yF 47 x t p r h47 hc, rS, vM, so]
          have h3 : yQ (x :: p) = x :: p := by simp [yQ, h64]
          rw [h3]
          cases ((x :: p) == []) <;> cases ((x :: p) == sN) <;> cases ((x :: p).all vR) <;> rfl
def rR (b : UInt8) : Bool := B2 (nb b) 33 126 && (!(nb b == 34) && (!(nb b == 39) && (!(nb b == 44) && !(nb b == 92))))
def wz (s : Str) : Bool := s.all rR && decide ((s.length : Int) ≤ 100)
end Go.Proofs.YtmcephnfcciloaaGreatDoor
/- The number of a text, plain: both ways of reading it come to the same. Conditions: none. -/
namespace Go.Proofs.YtmcephnfcciloaaGreatDoor
set_option linter.unusedSimpArgs false
set_option linter.unusedVariables false
def isD (c : UInt8) : Bool := decide (48 ≤ c.toNat) && decide (c.toNat ≤ 57)
/-- what digits spell behind a number -/
def rH (a : Nat) (c : UInt8) : Nat := a * 10 + (c.toNat - 48)
def ud (acc : Nat) (l : List UInt8) : Nat := l.foldl rH acc
theorem nV (acc : Nat) : ud acc [] = acc := rfl
theorem qQ (acc : Nat) (c : UInt8) (l : List UInt8) : ud acc (c :: l) = ud (rH acc c) l := by
  unfold ud
  rw [List.foldl_cons]
theorem lj (c : UInt8) (l : List UInt8) (acc : Nat) : ud acc (l ++ [c]) = rH (ud acc l) c := by
  unfold ud
  rw [List.foldl_append, List.foldl_cons, List.foldl_nil]
theorem qB (c : UInt8) : isD c = true ↔ 48 ≤ c.toNat ∧ c.toNat ≤ 57 := by simp [isD]
theorem cU (acc : Nat) (c : UInt8) (h : isD c = true) : rH acc c + 1 ≤ (acc + 1) * 10 := by
  have := (qB c).1 h
  unfold rH
  omega
theorem nn (n m : Nat) : m * 10 ^ (n + 1) = m * 10 * 10 ^ n := by rw [Nat.pow_succ, Nat.mul_comm (10 ^ n) 10, Nat.mul_assoc]
theorem oF : ∀ (l : List UInt8) (acc : Nat), l.all isD = true → ud acc l < (acc + 1) * 10 ^ l.length
  | [], acc, _ => by rw [nV]; simp
  | c :: l, acc, h => by
    rw [List.all_cons, Bool.and_eq_true] at h
    have ih := oF l (rH acc c) h.2
    rw [qQ, List.length_cons, nn]
    exact Nat.lt_of_lt_of_le ih (Nat.mul_le_mul_right _ (cU acc c h.1))
theorem kA {d : Nat} (h : d < 10) : (UInt8.ofNat (48 + d)).toNat = 48 + d := by
  simp [UInt8.toNat_ofNat']; omega
theorem vV (u : Nat) : (Lib.decDigits u).all isD = true ∧ ud 0 (Lib.decDigits u) = u ∧ Lib.decDigits u ≠ [] := by
  induction u using Nat.strongRecOn with
  | _ u ih =>
    rw [Lib.decDigits]
    split
    · rename_i h
      have := kA h
      refine ⟨?_, ?_, by simp⟩
      · rw [List.all_cons, List.all_nil, Bool.and_true, qB, this]; omega
      · rw [qQ, nV, rH, this]; omega
    · rename_i h
      obtain ⟨h1, h2, h3⟩ := ih (u / 10) (by omega)
      have := kA (d := u % 10) (by omega)
      refine ⟨?_, ?_, by simp⟩
      · rw [List.all_append, h1, List.all_cons, List.all_nil, Bool.and_true, Bool.true_and, qB, this]; omega
      · rw [lj, h2, rH, this]; omega
theorem rX : ∀ (l : List UInt8) (acc : Nat), l.all isD = true → (acc + 1) * 10 ^ l.length ≤ 1000000000000000000 → Lib.parseUint10 acc l = .ok (ud acc l)
  | [], acc, _, _ => rfl
  | c :: l, acc, h, hb => by
    rw [List.all_cons, Bool.and_eq_true] at h
    have hp : 0 < 10 ^ l.length := Nat.pos_of_ne_zero (by intro h; simp at h)
    rw [List.length_cons, nn] at hb
    have h10 : (acc + 1) * 10 ≤ 1000000000000000000 := Nat.le_trans (Nat.le_mul_of_pos_right _ hp) hb
    have hc := (qB c).1 h.1
    have ih := rX l (rH acc c) h.2 (Nat.le_trans (Nat.mul_le_mul_right _ (cU acc c h.1)) hb)
    rw [Lib.parseUint10, if_pos hc, if_neg (by omega), if_neg (by omega), qQ, ← ih]
    rfl
theorem pT : ∀ (k u : Nat), 1 ≤ k → u < 10 ^ k → Lib.nDigits u ≤ k
  | 0, u, h, _ => by omega
  | k + 1, u, _, h => by
    rw [Lib.nDigits]
    split
    · omega
    · have h10 : u / 10 < 10 ^ k := by rw [Nat.pow_succ] at h; omega
      have hk : 1 ≤ k := by
        rcases Nat.eq_zero_or_pos k with rfl | h
        · simp at h10; omega
        · exact h
      have := pT k (u / 10) hk h10
      omega
theorem tG {u : Nat} (h : u ≤ 999999999) : (Lib.decDigits u).length ≤ 9 := by
  rw [Lib.decDigits_length]
  exact pT 9 u (by omega) (by omega)
theorem iE {u : Nat} (h : u ≤ 999999999) : Lib.atoiAll (Lib.decDigits u) = .ok (u : Int) := by
  obtain ⟨h1, h2, h3⟩ := vV u
  have hl := tG h
  generalize Lib.decDigits u = l at *
  cases l with
  | nil => exact absurd rfl h3
  | cons c r =>
    have hc : isD c = true := by simp only [List.all_cons, Bool.and_eq_true] at h1; exact h1.1
    simp only [isD, Bool.and_eq_true, decide_eq_true_eq] at hc
    have hp : Lib.parseMag (c :: r) = .ok u := by
      unfold Lib.parseMag
      have : (10 : Nat) ^ (c :: r).length ≤ 10 ^ 9 := Nat.pow_le_pow_right (by omega) hl
      have e9 : (10 : Nat) ^ 9 = 1000000000 := by decide
      rw [if_neg (by simp), rX _ 0 h1 (by omega), h2]
    unfold Lib.atoiAll
    simp only
    rw [if_neg (by omega), hp]
    simp only
    rw [if_neg (by omega), if_neg (by omega), if_neg (by omega)]
/-- the number of a text, or -1 -/
def zO (s : List UInt8) : Int :=
  match Lib.atoiAll s with
  | .ok v => cond ((decide (0 ≤ v) && decide (v ≤ 999999999)) && (Lib.itoa v == s)) v (-1)
  | _ => -1
/-- the same, by the digits -/
def sD (s : List UInt8) : Int := cond ((s.all isD && decide (s.length ≤ 9)) && (!(s == []) && (Lib.itoa (ud 0 s : Nat) == s))) (ud 0 s : Nat) (-1)
theorem vw {u : Nat} (h : u ≤ 999999999) : zO (Lib.decDigits u) = u ∧ sD (Lib.decDigits u) = u := by
  obtain ⟨h1, h2, h3⟩ := vV u
  have hl := tG h
  refine ⟨?_, ?_⟩
  · unfold zO
    rw [iE h]
    simp only
    rw [Lib.itoa_nonneg]
    have e1 : decide ((0 : Int) ≤ (u : Int)) = true := by simp
    have e2 : decide ((u : Int) ≤ 999999999) = true := by simp; omega
    rw [e1, e2]; simp
  · unfold sD
    rw [h1, h2, Lib.itoa_nonneg]
    have e1 : decide ((Lib.decDigits u).length ≤ 9) = true := by simpa using hl
    have e2 : (Lib.decDigits u == []) = false := by simpa using h3
    rw [e1, e2]; simp
theorem Z8 {s : List UInt8} (h : ∀ u, u ≤ 999999999 → s ≠ Lib.decDigits u) : zO s = -1 ∧ sD s = -1 := by
  refine ⟨?_, ?_⟩
  · unfold zO
    split
    · rename_i v hv
      cases hc : ((decide (0 ≤ v) && decide (v ≤ 999999999)) && (Lib.itoa v == s)) with
      | false => rfl
      | true =>
        simp only [Bool.and_eq_true, decide_eq_true_eq] at hc
        obtain ⟨⟨c1, c2⟩, c3⟩ := hc
        obtain ⟨u, rfl⟩ : ∃ u : Nat, v = u := ⟨v.toNat, by omega⟩
        rw [Lib.itoa_nonneg] at c3
        exact absurd (eq_of_beq c3).symm (h u (by omega))
    · rfl
  · unfold sD
    cases hc : ((s.all isD && decide (s.length ≤ 9)) && (!(s == []) && (Lib.itoa (ud 0 s : Nat) == s))) with
    | false => rfl
    | true =>
      simp only [Bool.and_eq_true, decide_eq_true_eq] at hc
      obtain ⟨⟨c1, c2⟩, c3, c4⟩ := hc
      rw [Lib.itoa_nonneg] at c4
      have hv := oF s 0 c1
      have : (10 : Nat) ^ s.length ≤ 10 ^ 9 := Nat.pow_le_pow_right (by omega) c2
      have e9 : (10 : Nat) ^ 9 = 1000000000 := by decide
      exact absurd (eq_of_beq c4).symm (h _ (by omega))
theorem aZ (s : List UInt8) : sD s = zO s := by
  by_cases h : ∃ u, u ≤ 999999999 ∧ s = Lib.decDigits u
  · obtain ⟨u, hu, rfl⟩ := h
    obtain ⟨h1, h2⟩ := vw hu
    rw [h1, h2]
  · obtain ⟨h1, h2⟩ := Z8 (s := s) fun u hu he => h ⟨u, hu, he⟩
    rw [h1, h2]
end Go.Proofs.YtmcephnfcciloaaGreatDoor
/- Versions, packs, graphs, plain. Conditions: none. -/
namespace Go.Proofs.YtmcephnfcciloaaGreatDoor
open E
set_option linter.unusedVariables false
set_option linter.unusedSimpArgs false
set_option maxRecDepth 100000
theorem vH (a b : UInt8) (x y : Str) : Op.bytesLess (a :: x) (b :: y) = (decide (a < b) || (a == b && Op.bytesLess x y)) := by
  rw [Op.bytesLess]
/-- '<=' on texts, said by '<' -/
theorem qz : ∀ x y : Str, (Op.bytesLess x y || x == y) = !(Op.bytesLess y x)
  | [], [] => rfl
  | [], b :: y => by simp [Op.bytesLess]
  | a :: x, [] => by simp [Op.bytesLess]
  | a :: x, b :: y => by
    have ih := qz x y
    rw [vH, vH]
    by_cases h1 : a < b
    · have h2 : ¬ b < a := by simp only [UInt8.lt_iff_toNat_lt] at h1 ⊢; omega
      have h3 : (b == a) = false := by
        rw [beq_eq_false_iff_ne]; intro h; subst h; simp only [UInt8.lt_iff_toNat_lt] at h1; omega
      simp [h1, h2, h3]
    · by_cases h2 : b < a
      · have h3 : (a == b) = false := by
          rw [beq_eq_false_iff_ne]; intro h; subst h; simp only [UInt8.lt_iff_toNat_lt] at h2; omega
        have h4 : ((a :: x) == (b :: y)) = false := by
          rw [beq_eq_false_iff_ne]; intro h; cases h; simp at h3
        simp [h1, h2, h3, h4]
      · have h3 : a = b := by
          apply UInt8.toNat_inj.1; simp only [UInt8.lt_iff_toNat_lt] at h1 h2; omega
        subst h3
        have e : ((a :: x) == (a :: y)) = (x == y) := by
          rw [Bool.eq_iff_iff]; simp
        simp only [h1, decide_false, Bool.false_or, beq_self_eq_true, Bool.true_and, e, ih]
theorem xL (b : UInt8) : ∀ s : Str, yk (yi b s) + (yi b s).length ≤ s.length + 1
  | [] => by simp [yi, yk]
  | x :: s => by
    have ih := xL b s
    by_cases h : x = b
    · subst h; rw [wg]; simp only [yk, List.length_cons, List.length_nil]; omega
    · cases hc : yi b s with
      | nil => exact absurd hc (yU b s)
      | cons p r =>
        rw [hc] at ih
        rw [yF b x s p r h hc]
        simp only [yk, List.length_cons] at ih ⊢; omega
theorem qt (b : UInt8) (s : Str) : (yl b s).1.length ≤ s.length ∧ (yl b s).2.1.length ≤ s.length := by
  have h := sI b s
  have h2 := congrArg List.length h
  rw [List.length_append] at h2
  cases hc : (yl b s).2.2 with
  | true => rw [hc] at h2; simp only [cond_true, List.length_cons] at h2; omega
  | false =>
    have := nK b s hc
    rw [this]; simp only [List.length_nil]; omega
theorem xX : ∀ {ks : List Str} {s : Str}, s ∈ ks → s.length ≤ yk ks
  | k :: ks, s, h => by
    simp only [yk]
    rcases List.mem_cons.1 h with rfl | h
    · omega
    · have := xX h; omega
theorem mG : ∀ a b : List Str, yk (a ++ b) = yk a + yk b
  | [], b => by simp [yk]
  | x :: a, b => by simp only [List.cons_append, yk, mG a b]; omega
theorem lU : ∀ l : List Str, Lib.lens l = yk l
  | [] => rfl
  | x :: l => by
    have := lU l
    simp only [yk, ← this]; simp [Lib.lens]
theorem join_le (sep : Str) : ∀ l : List Str, (Lib.join l sep).length ≤ yk l + sep.length * l.length
  | [] => by simp [Lib.join_nil]
  | x :: r => by rw [Lib.join_length, lU]; simp only [List.length_cons, Nat.mul_add, Nat.mul_one]; omega
theorem nz (sep : Str) (x : Str) (l : List Str) (y : Str) : Lib.join (x :: l ++ [y]) sep = Lib.join (x :: l) sep ++ (sep ++ y) := by
  rw [List.cons_append, Lib.join_cons, Lib.join_cons]; simp [Lib.joinTail]
structure Ver where
  maj : Int
  min : Int
  pat : Int
  pre : List Str
def Ver.enc (v : Ver) : List T := [.int .i64 v.maj, .int .i64 v.min, .int .i64 v.pat, .list 1 (y6 v.pre)]
def Ver.zero : Ver := ⟨0, 0, 0, []⟩
def preB (b : UInt8) : Bool := (B2 (nb b) 97 122 || B2 (nb b) 48 57) || (B2 (nb b) 65 90 || nb b == 45)
def isNum (s : Str) : Bool := !(s == []) && s.all isD
def wm (p : Str) : Bool := B2 (p.length : Int) 1 20 && (p.all preB && (!(isNum p) || decide (0 ≤ zO p)))
def n9 (n : Int) : Bool := B2 n 0 999999999
def yv (v : Ver) : Bool := (n9 v.maj && (n9 v.min && n9 v.pat)) && (v.pre.all wm && decide ((v.pre.length : Int) ≤ 5))
def ve (v : Ver) : Str := (((Lib.itoa v.maj ++ [46]) ++ Lib.itoa v.min) ++ [46]) ++ Lib.itoa v.pat
def w8 (c : Str) (pre : List Str) : Str := cond (pre == []) c (c ++ ([45] ++ Lib.join pre [46]))
def yb (v : Ver) : Str := cond (yv v) (w8 (ve v) v.pre) []
def xS (s : Str) : Option Ver :=
  match yi 46 (yl 45 s).1 with
  | [a, b, c] => some ⟨zO a, zO b, zO c, cond (yl 45 s).2.2 (yi 46 (yl 45 s).2.1) []⟩
  | _ => none
def zA (s : Str) : Ver × Bool :=
  match xS s with
  | some v => cond (yb v == s) (v, true) (Ver.zero, false)
  | none => (Ver.zero, false)
theorem gT {s : Str} {v : Ver} (h : xS s = some v) : s ≠ [] := by
  intro e; subst e; simp [xS, yl, yi] at h
theorem yu {s : Str} (h : (zA s).2 = true) : xS s = some (zA s).1 ∧ yb (zA s).1 = s ∧ yv (zA s).1 = true ∧ s ≠ [] := by
  unfold zA at h ⊢
  cases hm : xS s with
  | none => rw [hm] at h; cases h
  | some v =>
    rw [hm] at h
    simp only at h ⊢
    have hs := gT hm
    cases hc : (yb v == s) with
    | false => rw [hc] at h; cases h
    | true =>
      have he := eq_of_beq hc
      simp only [cond_true]
      refine ⟨trivial, he, ?_, hs⟩
      cases hv : yv v with
      | true => rfl
      | false => unfold yb at he; rw [hv] at he; exact absurd he.symm hs
theorem mY {s : Str} (h : (zA s).2 = false) : (zA s).1 = Ver.zero := by
  unfold zA at h ⊢
  cases hm : xS s with
  | none => rfl
  | some v =>
    rw [hm] at h
    simp only at h ⊢
    cases hc : (yb v == s) with
    | true => rw [hc] at h; cases h
    | false => rfl
theorem pw (n : Int) : n9 n = true ↔ 0 ≤ n ∧ n ≤ 999999999 := by simp [n9]
theorem w6 {v : Ver} (h : yv v = true) : (0 ≤ v.maj ∧ v.maj ≤ 999999999) ∧ (0 ≤ v.min ∧ v.min ≤ 999999999) ∧ (0 ≤ v.pat ∧ v.pat ≤ 999999999) ∧ v.pre.all wm = true ∧ v.pre.length ≤ 5 := by
  unfold yv at h
  simp only [Bool.and_eq_true, pw, decide_eq_true_eq] at h
  obtain ⟨⟨h1, h2, h3⟩, h4, h5⟩ := h
  exact ⟨h1, h2, h3, h4, by omega⟩
theorem xo (s : Str) : -1 ≤ zO s ∧ zO s ≤ 999999999 := by
  unfold zO
  split
  · rename_i v _
    cases hc : ((decide (0 ≤ v) && decide (v ≤ 999999999)) && (Lib.itoa v == s)) with
    | false => simp
    | true =>
      simp only [Bool.and_eq_true, decide_eq_true_eq] at hc
      simp only [cond_true]; omega
  · simp
/-- with one number more behind -/
def se (v : Ver) : Ver := ⟨v.maj, v.min, v.pat, v.pre ++ [[48]]⟩
theorem aV (c : Str) (x : Str) (l : List Str) : w8 c ((x :: l) ++ [[48]]) = w8 c (x :: l) ++ [46, 48] := by
  unfold w8
  rw [nz]
  simp
theorem beq_nil_cons {α : Type} [BEq α] (x : α) (l : List α) : ((x :: l) == []) = false := rfl
/-- a version's text with '.0' behind is read as the version with one part more, where that is right -/
theorem ly {s : Str} (h : (zA s).2 = true) (hp : (zA s).1.pre ≠ []) :
    zA (s ++ [46, 48]) = cond (yv (se (zA s).1)) (se (zA s).1, true) (Ver.zero, false) ∧ yb (se (zA s).1) = cond (yv (se (zA s).1)) (s ++ [46, 48]) [] := by
  obtain ⟨hm, ht, ho, hs⟩ := yu h
  generalize (zA s).1 = v at *
  have hmk : xS (s ++ [46, 48]) = some (se v) := by
    unfold xS at hm ⊢
    have he := sI 45 s
    have hn := mC 45 s
    cases hc : (yl 45 s).2.2 with
    | false =>
      rw [hc] at hm
      split at hm
      · cases hm; exact absurd rfl hp
      · cases hm
    | true =>
      rw [hc] at hm he
      simp only [cond_true] at he
      have h2 : yl 45 (s ++ [46, 48]) = ((yl 45 s).1, (yl 45 s).2.1 ++ [46, 48], true) := by
        conv => lhs; rw [he]
        rw [List.append_assoc, List.cons_append]
        exact mD 45 _ _ hn
      rw [h2]
      simp only
      split at hm
      · cases hm
        simp only [cond_true]
        rw [show (yl 45 s).2.1 ++ [46, 48] = (yl 45 s).2.1 ++ 46 :: [48] from rfl, uB]
        rfl
      · cases hm
  have htx : yb (se v) = cond (yv (se v)) (s ++ [46, 48]) [] := by
    have ht' := ht
    unfold yb at ht' ⊢
    rw [ho] at ht'
    simp only [cond_true] at ht'
    congr 1
    rw [← ht']
    cases hv : v.pre with
    | nil => exact absurd hv hp
    | cons x l =>
      show w8 (ve v) (v.pre ++ [[48]]) = _
      rw [hv]
      exact aV _ x l
  refine ⟨?_, htx⟩
  unfold zA
  rw [hmk]
  simp only
  rw [htx]
  cases hk : yv (se v) with
  | true => simp
  | false =>
    simp only [cond_false]
    have : (([] : Str) == s ++ [46, 48]) = false := by rw [beq_eq_false_iff_ne]; intro e; have := congrArg List.length e; simp at this
    rw [this]; rfl
/-- the text that a version ends ahead of, where it stands alone -/
def ye (a b c : Int) : Str := yb ⟨a, b, c, [[48]]⟩
def uJ (v : Ver) : Str := cond (v.pre == []) (ye v.maj v.min (v.pat + 1)) (yb (se v))
def x6 (s : Str) : Option (Str × Str) := cond ((zA s).2 && !(uJ (zA s).1 == [])) (some (s, uJ (zA s).1)) none
def upV (v : Ver) (part : Int) : Ver := cond (part == 0) ⟨v.maj + 1, 0, 0, []⟩ (cond (part == 1) ⟨v.maj, v.min + 1, 0, []⟩ ⟨v.maj, v.min, cond (v.pre == []) (v.pat + 1) v.pat, []⟩)
def wQ (v : Ver) (part : Int) : Ver := cond (!(yv v) || !(B2 part 0 2)) v (cond (yv (upV v part)) (upV v part) v)
def x9 (a b : Int) : Int := cond (decide (a < b)) (-1) (cond (decide (a > b)) 1 0)
def nN (a b : Str) : Int := cond (Op.bytesLess a b) (-1) (cond (!(Op.bytesLess a b || a == b)) 1 0)
def az (a b : Str) : Int := cond (decide (zO a ≥ 0) && decide (zO b ≥ 0)) (x9 (zO a) (zO b)) (cond (decide (zO a ≥ 0)) (-1) (cond (decide (zO b ≥ 0)) 1 (nN a b)))
/-- the first place at which parts differ -/
def rI : List Str → List Str → Option Int
  | a :: l, b :: m => cond (az a b == 0) (rI l m) (some (az a b))
  | _, _ => none
def VE (a b : List Str) : Int := (rI a b).getD (x9 (a.length : Int) (b.length : Int))
def rN (a b : Ver) : Int :=
  cond (x9 a.maj b.maj == 0) (cond (x9 a.min b.min == 0) (cond (x9 a.pat b.pat == 0)
    (cond (a.pre == [] || b.pre == []) (x9 (b.pre.length : Int) (a.pre.length : Int)) (VE a.pre b.pre))
    (x9 a.pat b.pat)) (x9 a.min b.min)) (x9 a.maj b.maj)
theorem uq (a b : Int) : (x9 a b == 0) = (a == b) := by
  unfold x9
  by_cases h1 : a < b
  · simp [h1]; omega
  · by_cases h2 : a > b
    · simp [h1, h2]; omega
    · simp [h1, h2]; omega
theorem uC (a b c a' b' c' : Int) : (rN ⟨a, b, c, []⟩ ⟨a', b', c', []⟩ == 0) = (a == a' && (b == b' && c == c')) := by
  unfold rN
  simp only [uq]
  cases h1 : (a == a') with
  | false => simp only [cond_false]; rw [uq, h1]; rfl
  | true =>
    cases h2 : (b == b') with
    | false => simp only [cond_true, cond_false]; rw [uq, h2]; rfl
    | true =>
      cases h3 : (c == c') with
      | false => simp only [cond_true, cond_false]; rw [uq, h3]; rfl
      | true => rfl
def yY (v : Ver) : Ver := ⟨v.maj, v.min, v.pat, []⟩
def vk (v : Ver) (part : Int) : Str × Bool := cond (rN (wQ (yY v) part) (yY v) == 0) ([], false) (yb ⟨(wQ (yY v) part).maj, (wQ (yY v) part).min, (wQ (yY v) part).pat, [[48]]⟩, true)
theorem VZ : wm [48] = true := by
  unfold wm
  have h1 : ([48] : Str).all preB = true := by decide
  have h2 : decide (0 ≤ zO [48]) = true := by
    have := (vw (u := 0) (by omega)).1
    rw [show Lib.decDigits 0 = [48] by rw [Lib.decDigits_one (by omega)]; rfl] at this
    rw [this]; rfl
  rw [h1, h2]; simp
theorem eM (v : Ver) : yv (yY v) = (n9 v.maj && (n9 v.min && n9 v.pat)) := by simp [yv, yY]
theorem vB (a b c : Int) : yv ⟨a, b, c, [[48]]⟩ = (n9 a && (n9 b && n9 c)) := by simp [yv, VZ]
theorem uM (a b c : Int) : (ye a b c == []) = !(n9 a && (n9 b && n9 c)) := by
  unfold ye yb
  rw [vB]
  cases (n9 a && (n9 b && n9 c)) with
  | false => rfl
  | true => simp [w8, ve]
/-- the next one of a part is told by both in one way -/
theorem vK {v : Ver} (ho : yv v = true) (part : Int) (hp : part = 0 ∨ part = 1 ∨ part = 2) :
    vk v part = (let h := ye (cond (part == 0) (v.maj + 1) v.maj) (cond (part == 0) 0 (cond (part == 1) (v.min + 1) v.min)) (cond (part == 2) (v.pat + 1) 0); (h, !(h == []))) := by
  obtain ⟨h1, h2, h3, _, _⟩ := w6 ho
  have hb : yv (yY v) = true := by
    rw [eM]; simp only [Bool.and_eq_true, pw]; exact ⟨h1, h2, h3⟩
  have n1 : n9 v.maj = true := (pw _).2 h1
  have n2 : n9 v.min = true := (pw _).2 h2
  have n3 : n9 v.pat = true := (pw _).2 h3
  have n0 : n9 0 = true := by decide
  unfold vk wQ
  rw [hb]
  rcases hp with rfl | rfl | rfl
  · have e : upV (yY v) 0 = ⟨v.maj + 1, 0, 0, []⟩ := rfl
    rw [e]
    simp only [Bool.not_true, Bool.false_or, show B2 0 0 2 = true from rfl, cond_false]
    rw [show yv ⟨v.maj + 1, 0, 0, []⟩ = n9 (v.maj + 1) by simp [yv, n0]]
    simp only [show ((0 : Int) == 0) = true from rfl, cond_true, show ((0 : Int) == 2) = false from rfl, cond_false]
    rw [uM, n0]
    cases hn : n9 (v.maj + 1) with
    | true =>
      have : (v.maj + 1 == v.maj) = false := by rw [beq_eq_false_iff_ne]; omega
      simp only [cond_true, yY, uC, this]
      simp [ye]
    | false =>
      simp [uC, ye, yb, vB, hn, yY]
  · have e : upV (yY v) 1 = ⟨v.maj, v.min + 1, 0, []⟩ := rfl
    rw [e]
    simp only [Bool.not_true, Bool.false_or, show B2 1 0 2 = true from rfl, cond_false]
    rw [show yv ⟨v.maj, v.min + 1, 0, []⟩ = n9 (v.min + 1) by simp [yv, n0, n1]]
    simp only [show ((1 : Int) == 0) = false from rfl, show ((1 : Int) == 1) = true from rfl, cond_true, show ((1 : Int) == 2) = false from rfl, cond_false]
    rw [uM, n0, n1]
    cases hn : n9 (v.min + 1) with
    | true =>
      have : (v.min + 1 == v.min) = false := by rw [beq_eq_false_iff_ne]; omega
      simp only [cond_true, yY, uC, this]
      simp [ye]
    | false =>
      simp [uC, ye, yb, vB, hn, yY]
  · have e : upV (yY v) 2 = ⟨v.maj, v.min, v.pat + 1, []⟩ := rfl
    rw [e]
    simp only [Bool.not_true, Bool.false_or, show B2 2 0 2 = true from rfl, cond_false]
    rw [show yv ⟨v.maj, v.min, v.pat + 1, []⟩ = n9 (v.pat + 1) by simp [yv, n1, n2]]
    simp only [show ((2 : Int) == 0) = false from rfl, show ((2 : Int) == 1) = false from rfl, cond_true, show ((2 : Int) == 2) = true from rfl, cond_false]
    rw [uM, n1, n2]
    cases hn : n9 (v.pat + 1) with
    | true =>
      have : (v.pat + 1 == v.pat) = false := by rw [beq_eq_false_iff_ne]; omega
      simp only [cond_true, yY, uC, this]
      simp [ye]
    | false =>
      simp [uC, ye, yb, vB, hn, yY]
end Go.Proofs.YtmcephnfcciloaaGreatDoor
/- Numbers' texts, by both. Conditions: those of each lemma. -/
namespace Go.Proofs.YtmcephnfcciloaaGreatDoor
open E
set_option linter.unusedSimpArgs false
set_option linter.unusedVariables false
set_option maxRecDepth 100000
theorem nw : ∀ (k u : Nat), 1 ≤ k → u < 10 ^ k → Lib.nDigits u ≤ k
  | 0, u, h, _ => by omega
  | k + 1, u, _, h => by
    rw [Lib.nDigits]
    split
    · omega
    · have h10 : u / 10 < 10 ^ k := by rw [Nat.pow_succ] at h; omega
      have hk : 1 ≤ k := by
        rcases Nat.eq_zero_or_pos k with rfl | h
        · simp at h10; omega
        · exact h
      have := nw k (u / 10) hk h10
      omega
theorem wy (n : Int) (h0 : 0 ≤ n) (h1 : n ≤ 999999999) : (Lib.itoa n).length ≤ 9 := by
  obtain ⟨u, rfl⟩ : ∃ u : Nat, n = u := ⟨n.toNat, by omega⟩
  rw [Lib.itoa_nonneg, Lib.decDigits_length]
  exact nw 9 u (by omega) (by omega)
theorem jV (n : Int) (h0 : 0 ≤ n) (h1 : n ≤ 999999999) : zE (EV Tryz.prog pol) 163 [.t (.int .i64 n)] = some (.t (.str (Lib.itoa n))) := by
  have h := S7 n (by omega) (by omega)
  apply zu
  refine zw rfl Tryz.func163 rfl (by kernel_rfl) ?_
  unfold Tryz.f163
  simp only [↓GO, ↓DRW, GA, ren, zB, zd, refs, zb, cst, zl, zH, z7, E.load, E.store, zG, isC, bin, zI, zJ, una, z8, za, zh, zK, blt, fnV, asArg, ze, zn, zo, zj, zi, zg, zk, zr, z6, zD, zF, E.mkS, zc, unN, zM, zm, zy, zC, zf, zN, zq, GS, simprocAttr, h]
/-- the digits of a number, none for 0 -/
def aq (m : Nat) : Str := if m = 0 then [] else Lib.decDigits m
theorem Zq (m : Nat) (h : m ≠ 0) : aq m = aq (m / 10) ++ [UInt8.ofNat (48 + m % 10)] := by
  unfold aq
  rw [if_neg h]
  by_cases h10 : m < 10
  · rw [if_pos (by omega), Lib.decDigits_one h10, show m % 10 = m by omega]; rfl
  · rw [if_neg (by omega)]
    conv => lhs; rw [Lib.decDigits]
    rw [dif_neg h10]
theorem Xh (d : Nat) (h : d < 10) : (List.drop d [48, 49, 50, 51, 52, 53, 54, 55, 56, 57]).take (d + 1 - d) = [UInt8.ofNat (48 + d)] := by
  have : d = 0 ∨ d = 1 ∨ d = 2 ∨ d = 3 ∨ d = 4 ∨ d = 5 ∨ d = 6 ∨ d = 7 ∨ d = 8 ∨ d = 9 := by omega
  rcases this with rfl | rfl | rfl | rfl | rfl | rfl | rfl | rfl | rfl | rfl <;> rfl
theorem To (n : Int) : ∀ (N m : Nat) (out : Str), m ≤ N → m ≤ 999999999 → out.length + m ≤ 1000000000 →
    EV Tryz.prog pol (.loop 152 124 0 [.t (.int .i64 n), .t (.str out), .t (.int .i64 (m : Int))] [])
    = some (.loop (.exit 0) [.t (.int .i64 n), .t (.str (aq m ++ out))] [])
  | N, 0, out, h, h1, h2 => by
    refine zz Tryz.func152 rfl rfl ?_
    simp only [↓GO, ↓DRW, GA, ren, zB, zd, refs, zb, cst, zl, zH, z7, E.load, E.store, zG, isC, bin, zI, zJ, una, z8, za, zh, zK, blt, fnV, asArg, ze, zn, zo, zj, zi, zg, zk, zr, z6, zD, zF, E.mkS, zc, unN, zM, zm, zy, zC, zf, zN, zq, GS, simprocAttr, Int.natCast_zero, bne_self_eq_false, aq, if_true]
  | 0, m + 1, out, h, h1, h2 => by omega
  | N + 1, m + 1, out, h, h1, h2 => by
    generalize hm : m + 1 = x at *
    have c : (((x : Nat) : Int) == 0) = false := by simp; omega
    have e1 : ((x : Nat) : Int).tmod 10 = ((x % 10 : Nat) : Int) := (Int.ofNat_tmod x 10).symm
    have e2 : ((x : Nat) : Int).tdiv 10 = ((x / 10 : Nat) : Int) := (Int.ofNat_tdiv x 10).symm
    have hd : x % 10 < 10 := Nat.mod_lt _ (by omega)
    have c2 : decide (((x % 10 : Nat) : Int) < 0) = false := by simp only [decide_eq_false_iff_not]; omega
    have hdig := Xh (x % 10) hd
    have IH := To n N (x / 10) (UInt8.ofNat (48 + x % 10) :: out) (by omega) (by omega) (by simp only [List.length_cons]; omega)
    rw [Zq x (by omega), List.append_assoc]
    rw [show [UInt8.ofNat (48 + x % 10)] ++ out = UInt8.ofNat (48 + x % 10) :: out from rfl]
    generalize UInt8.ofNat (48 + x % 10) = bd at *
    have w1 : IntKind.i64.wrap (((x % 10 : Nat) : Int) + 1) = ((x % 10 + 1 : Nat) : Int) := by rw [zx (by omega)]; omega
    have w2 : IntKind.i64.wrap ((x / 10 : Nat) : Int) = ((x / 10 : Nat) : Int) := zx (by omega)
    generalize x % 10 = xd at *
    generalize x / 10 = xq at *
    refine zz Tryz.func152 rfl rfl ?_
    simp (disch := ((try simp only [LL]); omega)) only [↓GO, ↓DRW, GA, ren, zB, zd, refs, zb, cst, zl, zH, z7, E.load, E.store, zG, isC, bin, zI, zJ, una, z8, za, zh, zK, blt, fnV, asArg, ze, zn, zo, zj, zi, zg, zk, zr, z6, zD, zF, E.mkS, zc, unN, zM, zm, zy, zC, zf, zN, zq, GS, simprocAttr, bne, c, e1, e2, c2, w1, w2, hdig, wh, IH]
theorem jU (n : Int) (h0 : 0 ≤ n) (h1 : n ≤ 999999999) : zE (EV Tryz.prog pol) 152 [.t (.int .i64 n)] = some (.t (.str (Lib.itoa n))) := by
  obtain ⟨u, rfl⟩ : ∃ u : Nat, n = u := ⟨n.toNat, by omega⟩
  have IH := To u u u [] (Nat.le_refl _) (by omega) (by simp; omega)
  rw [List.append_nil] at IH
  rw [Lib.itoa_nonneg]
  have c2 : decide ((u : Int) < 0) = false := by simp only [decide_eq_false_iff_not]; omega
  apply zu
  refine zw rfl Tryz.func152 rfl (by kernel_rfl) ?_
  unfold Tryz.f152
  by_cases hu : u = 0
  · subst hu
    rw [show Lib.decDigits 0 = [48] by rw [Lib.decDigits_one (by omega)]; rfl]
    simp only [↓GO, ↓DRW, GA, ren, zB, zd, refs, zb, cst, zl, zH, z7, E.load, E.store, zG, isC, bin, zI, zJ, una, z8, za, zh, zK, blt, fnV, asArg, ze, zn, zo, zj, zi, zg, zk, zr, z6, zD, zF, E.mkS, zc, unN, zM, zm, zy, zC, zf, zN, zq, GS, simprocAttr, Int.natCast_zero]
  · have c : ((u : Int) == 0) = false := by simp; omega
    rw [show Lib.decDigits u = aq u by simp [aq, hu]]
    simp only [↓GO, ↓DRW, GA, ren, zB, zd, refs, zb, cst, zl, zH, z7, E.load, E.store, zG, isC, bin, zI, zJ, una, z8, za, zh, zK, blt, fnV, asArg, ze, zn, zo, zj, zi, zg, zk, zr, z6, zD, zF, E.mkS, zc, unN, zM, zm, zy, zC, zf, zN, zq, GS, simprocAttr, c, IH, c2]
end Go.Proofs.YtmcephnfcciloaaGreatDoor
/- The number of a text, by both. Conditions: those of each lemma. -/
namespace Go.Proofs.YtmcephnfcciloaaGreatDoor
open E
set_option linter.unusedSimpArgs false
set_option linter.unusedVariables false
set_option maxRecDepth 100000
theorem cF (c : UInt8) : B2 (c.toNat : Int) 48 57 = isD c := by
  unfold B2 isD
  congr 1 <;> rw [decide_eq_decide] <;> omega
theorem mU (s : Str) (hl : s.length ≤ 281474976710656) : zE (EV Tryz.prog pol) 135 [.t (.str s)] = some (.t (.int .i64 (zO s))) := by
  have hat := S9 s hl
  apply zu
  refine zw rfl Tryz.func135 rfl (by kernel_rfl) ?_
  unfold Tryz.f135
  unfold zO
  cases ha : Lib.atoiAll s with
  | range => rw [ha] at hat; simp only at hat ⊢; simp (disch := ((try simp only [LL]); omega)) only [↓GO, ↓DRW, GA, ren, zB, zd, refs, zb, cst, zl, zH, z7, E.load, E.store, zG, isC, bin, zI, zJ, una, z8, za, zh, zK, blt, fnV, asArg, ze, zn, zo, zj, zi, zg, zk, zr, z6, zD, zF, E.mkS, zc, unN, zM, zm, zy, zC, zf, zN, zq, GS, simprocAttr, hat]
  | ok v =>
    rw [ha] at hat
    simp only at hat ⊢
    have hw := uD v 0 999999999
    rw [show B2 v 0 999999999 = (decide (0 ≤ v) && decide (v ≤ 999999999)) from rfl] at hw
    cases hb : (decide (0 ≤ v) && decide (v ≤ 999999999)) with
    | false => rw [hb] at hw; simp (disch := ((try simp only [LL]); omega)) only [↓GO, ↓DRW, GA, ren, zB, zd, refs, zb, cst, zl, zH, z7, E.load, E.store, zG, isC, bin, zI, zJ, una, z8, za, zh, zK, blt, fnV, asArg, ze, zn, zo, zj, zi, zg, zk, zr, z6, zD, zF, E.mkS, zc, unN, zM, zm, zy, zC, zf, zN, zq, GS, simprocAttr, hat, hw]
    | true =>
      rw [hb] at hw
      simp only [Bool.and_eq_true, decide_eq_true_eq] at hb
      have hd := jV v hb.1 hb.2
      cases he : (Lib.itoa v == s) <;> simp (disch := ((try simp only [LL]); omega)) only [↓GO, ↓DRW, GA, ren, zB, zd, refs, zb, cst, zl, zH, z7, E.load, E.store, zG, isC, bin, zI, zJ, una, z8, za, zh, zK, blt, fnV, asArg, ze, zn, zo, zj, zi, zg, zk, zr, z6, zD, zF, E.mkS, zc, unN, zM, zm, zy, zC, zf, zN, zq, GS, simprocAttr, bne, hat, hw, hd, he]
  | _ => rw [ha] at hat; simp only at hat ⊢; simp (disch := ((try simp only [LL]); omega)) only [↓GO, ↓DRW, GA, ren, zB, zd, refs, zb, cst, zl, zH, z7, E.load, E.store, zG, isC, bin, zI, zJ, una, z8, za, zh, zK, blt, fnV, asArg, ze, zn, zo, zj, zi, zg, zk, zr, z6, zD, zF, E.mkS, zc, unN, zM, zm, zy, zC, zf, zN, zq, GS, simprocAttr, hat]
theorem Tk (s : Str) (hl : s.length ≤ 9) : ∀ (rest pre : Str), s = pre ++ rest → pre.all isD = true →
    ∃ m : V, EV Tryz.prog pol (.loop 114 58 0 [.t (.str s), .t (.int .i64 (ud 0 pre : Nat)), .t (.int .i64 (pre.length : Int))] [])
    = some (cond (rest.all isD) (.loop (.exit 0) [.t (.str s), .bad, .t (.int .i64 (ud 0 s : Nat))] []) (.loop .ret [.t (.str s), .t (.int .i64 (-1)), m] []))
  | [], pre, hs, hd => by
    have c : decide ((pre.length : Int) < (s.length : Int)) = false := by simp [hs]
    have hp : s = pre := by simpa using hs
    refine ⟨.bad, zz Tryz.func114 rfl rfl ?_⟩
    simp only [↓GO, ↓DRW, GA, ren, zB, zd, refs, zb, cst, zl, zH, z7, E.load, E.store, zG, isC, bin, zI, zJ, una, z8, za, zh, zK, blt, fnV, asArg, ze, zn, zo, zj, zi, zg, zk, zr, z6, zD, zF, E.mkS, zc, unN, zM, zm, zy, zC, zf, zN, zq, GS, simprocAttr, c]
    rw [hp]
  | b :: rest, pre, hs, hd => by
    have c : decide ((pre.length : Int) < (s.length : Int)) = true := by simp [hs]; omega
    have hget : s[pre.length]? = some b := by rw [hs]; exact tn pre b rest
    have hlen : s.length = pre.length + rest.length + 1 := by rw [hs]; simp; omega
    have hin := xN (b.toNat : Int) 48 57
    rw [cF] at hin
    have c9 : decide ((s.length : Int) > 9) = false := by simp only [decide_eq_false_iff_not]; omega
    have hv := oF pre 0 hd
    have hp10 : (10 : Nat) ^ pre.length ≤ 10 ^ 9 := Nat.pow_le_pow_right (by omega) (by omega)
    have e9 : (10 : Nat) ^ 9 = 1000000000 := by decide
    have hb8 := Vv b
    cases hb : isD b with
    | false =>
      rw [hb] at hin
      refine ⟨.t (.int .i64 (ud 0 pre : Nat)), zz Tryz.func114 rfl rfl ?_⟩
      clear hs hlen
      simp (disch := omega) only [↓GO, ↓DRW, GA, ren, zB, zd, refs, zb, cst, zl, zH, z7, E.load, E.store, zG, isC, bin, zI, zJ, una, z8, za, zh, zK, blt, fnV, asArg, ze, zn, zo, zj, zi, zg, zk, zr, z6, zD, zF, E.mkS, zc, unN, zM, zm, zy, zC, zf, zN, zq, GS, simprocAttr, c, hget, zx, conv, wrap_u8, hin, List.all_cons, hb]
    | true =>
      rw [hb] at hin
      have hd2 : (pre ++ [b]).all isD = true := by rw [List.all_append, hd]; simp [hb]
      obtain ⟨m, IH⟩ := Tk s hl rest (pre ++ [b]) (by rw [hs]; simp) hd2
      have hbb := (qB b).1 hb
      have hst : ((ud 0 (pre ++ [b]) : Nat) : Int) = 10 * ((ud 0 pre : Nat) : Int) + (b.toNat : Int) - 48 := by
        rw [lj, rH]; omega
      rw [hst, show ((pre ++ [b]).length : Int) = (pre.length : Int) + 1 by simp] at IH
      have hpl : pre.length ≤ 9 := by omega
      generalize ud 0 pre = vp at *
      generalize ud 0 s = vs at *
      clear hs hlen hst
      refine ⟨m, zz Tryz.func114 rfl rfl ?_⟩
      simp (disch := omega) only [↓GO, ↓DRW, GA, ren, zB, zd, refs, zb, cst, zl, zH, z7, E.load, E.store, zG, isC, bin, zI, zJ, una, z8, za, zh, zK, blt, fnV, asArg, ze, zn, zo, zj, zi, zg, zk, zr, z6, zD, zF, E.mkS, zc, unN, zM, zm, zy, zC, zf, zN, zq, GS, simprocAttr, c, hget, zx, conv, wrap_u8, hin, List.all_cons, hb, c9, IH]
theorem l_rdL (s : Str) (h9 : 9 < s.length) (hl : s.length ≤ 281474976710656) :
    EV Tryz.prog pol (.loop 114 58 0 [.t (.str s), .t (.int .i64 0), .t (.int .i64 0)] []) = some (.loop .ret [.t (.str s), .t (.int .i64 (-1)), .t (.int .i64 0)] []) := by
  cases s with
  | nil => simp at h9
  | cons b r =>
    have c : decide ((0 : Int) < ((b :: r).length : Int)) = true := by simp only [decide_eq_true_eq]; omega
    have c9 : decide (((b :: r).length : Int) > 9) = true := by simp only [decide_eq_true_eq]; omega
    have hget : (b :: r)[0]? = some b := rfl
    have hin := xN (b.toNat : Int) 48 57
    rw [cF] at hin
    have hb8 := Vv b
    generalize (b :: r) = s at *
    refine zz Tryz.func114 rfl rfl ?_
    cases hb : isD b with
    | false => rw [hb] at hin; simp (disch := omega) only [↓GO, ↓DRW, GA, ren, zB, zd, refs, zb, cst, zl, zH, z7, E.load, E.store, zG, isC, bin, zI, zJ, una, z8, za, zh, zK, blt, fnV, asArg, ze, zn, zo, zj, zi, zg, zk, zr, z6, zD, zF, E.mkS, zc, unN, zM, zm, zy, zC, zf, zN, zq, GS, simprocAttr, c, uf, hget, zx, conv, wrap_u8, hin]
    | true => rw [hb] at hin; simp (disch := omega) only [↓GO, ↓DRW, GA, ren, zB, zd, refs, zb, cst, zl, zH, z7, E.load, E.store, zG, isC, bin, zI, zJ, una, z8, za, zh, zK, blt, fnV, asArg, ze, zn, zo, zj, zi, zg, zk, zr, z6, zD, zF, E.mkS, zc, unN, zM, zm, zy, zC, zf, zN, zq, GS, simprocAttr, c, uf, hget, zx, conv, wrap_u8, hin, c9]
theorem ja (s : Str) (hl : s.length ≤ 281474976710656) : zE (EV Tryz.prog pol) 114 [.t (.str s)] = some (.t (.int .i64 (zO s))) := by
  rw [← aZ]
  apply zu
  refine zw rfl Tryz.func114 rfl (by kernel_rfl) ?_
  unfold Tryz.f114
  unfold sD
  by_cases h9 : s.length ≤ 9
  · obtain ⟨m, IH⟩ := Tk s h9 s [] rfl rfl
    simp only [List.length_nil, Int.natCast_zero, nV] at IH
    have e9 : decide (s.length ≤ 9) = true := by simpa using h9
    have hv := oF s 0
    have hp10 : (10 : Nat) ^ s.length ≤ 10 ^ 9 := Nat.pow_le_pow_right (by omega) h9
    have e10 : (10 : Nat) ^ 9 = 1000000000 := by decide
    cases ha : s.all isD with
    | false => rw [ha] at IH; simp only [cond_false] at IH; simp (disch := ((try simp only [LL]); omega)) only [↓GO, ↓DRW, GA, ren, zB, zd, refs, zb, cst, zl, zH, z7, E.load, E.store, zG, isC, bin, zI, zJ, una, z8, za, zh, zK, blt, fnV, asArg, ze, zn, zo, zj, zi, zg, zk, zr, z6, zD, zF, E.mkS, zc, unN, zM, zm, zy, zC, zf, zN, zq, GS, simprocAttr, IH]
    | true =>
      rw [ha] at IH; simp only [cond_true] at IH
      have hv' := hv ha
      have hd := jU (ud 0 s : Nat) (by omega) (by omega)
      cases hn : (s == []) with
      | true => simp (disch := ((try simp only [LL]); omega)) only [↓GO, ↓DRW, GA, ren, zB, zd, refs, zb, cst, zl, zH, z7, E.load, E.store, zG, isC, bin, zI, zJ, una, z8, za, zh, zK, blt, fnV, asArg, ze, zn, zo, zj, zi, zg, zk, zr, z6, zD, zF, E.mkS, zc, unN, zM, zm, zy, zC, zf, zN, zq, GS, simprocAttr, IH, e9, hn]
      | false =>
        cases he : (Lib.itoa (ud 0 s : Nat) == s) <;> simp (disch := ((try simp only [LL]); omega)) only [↓GO, ↓DRW, GA, ren, zB, zd, refs, zb, cst, zl, zH, z7, E.load, E.store, zG, isC, bin, zI, zJ, una, z8, za, zh, zK, blt, fnV, asArg, ze, zn, zo, zj, zi, zg, zk, zr, z6, zD, zF, E.mkS, zc, unN, zM, zm, zy, zC, zf, zN, zq, GS, simprocAttr, bne, IH, e9, hn, hd, he]
  · have e9 : decide (s.length ≤ 9) = false := by simpa using h9
    have IH := l_rdL s (by omega) (by omega)
    simp (disch := ((try simp only [LL]); omega)) only [↓GO, ↓DRW, GA, ren, zB, zd, refs, zb, cst, zl, zH, z7, E.load, E.store, zG, isC, bin, zI, zJ, una, z8, za, zh, zK, blt, fnV, asArg, ze, zn, zo, zj, zi, zg, zk, zr, z6, zD, zF, E.mkS, zc, unN, zM, zm, zy, zC, zf, zN, zq, GS, simprocAttr, IH, e9]
end Go.Proofs.YtmcephnfcciloaaGreatDoor
/- Names and plain texts, by both; parts between a byte. Conditions: those of each lemma. -/
namespace Go.Proofs.YtmcephnfcciloaaGreatDoor
open E
set_option linter.unusedSimpArgs false
set_option linter.unusedVariables false
set_option maxRecDepth 100000
theorem bc : ∀ p s : Str, (decide ((s.length : Int) ≥ (p.length : Int)) && (s.take p.length == p)) = p.isPrefixOf s
  | [], s => by
    have : decide ((s.length : Int) ≥ (([] : Str).length : Int)) = true := by simp
    rw [this]; simp [List.isPrefixOf]
  | a :: p, [] => by
    have : decide ((([] : Str).length : Int) ≥ ((a :: p).length : Int)) = false := by simp only [decide_eq_false_iff_not, List.length_cons, List.length_nil]; omega
    rw [this]; simp [List.isPrefixOf]
  | a :: p, b :: s => by
    have ih := bc p s
    have e1 : decide (((b :: s).length : Int) ≥ ((a :: p).length : Int)) = decide ((s.length : Int) ≥ (p.length : Int)) := by
      rw [decide_eq_decide]; simp only [List.length_cons]; omega
    rw [e1, List.isPrefixOf, ← ih, List.length_cons, List.take_succ_cons]
    by_cases h : b = a
    · subst h
      have : (b :: List.take p.length s == b :: p) = (List.take p.length s == p) := by rw [Bool.eq_iff_iff]; simp
      rw [this]; simp
    · have h2 : (b :: List.take p.length s == a :: p) = false := by rw [beq_eq_false_iff_ne]; intro e; injection e with e1 e2; exact h e1
      have h3 : (a == b) = false := by rw [beq_eq_false_iff_ne]; exact fun e => h e.symm
      rw [h2, h3]; simp
theorem po (s p : Str) (hs : s.length ≤ 9223372036854775807) (hp : p.length ≤ 9223372036854775807) : zE (EV Tryz.prog pol) 133 [.t (.str s), .t (.str p)] = some (.t (.bool (p.isPrefixOf s))) := by
  rw [← bc]
  apply zu
  refine zw rfl Tryz.func133 rfl (by kernel_rfl) ?_
  unfold Tryz.f133
  cases h : decide ((s.length : Int) ≥ (p.length : Int)) with
  | false => simp (disch := ((try simp only [LL]); omega)) only [↓GO, ↓DRW, GA, ren, zB, zd, refs, zb, cst, zl, zH, z7, E.load, E.store, zG, isC, bin, zI, zJ, una, z8, za, zh, zK, blt, fnV, asArg, ze, zn, zo, zj, zi, zg, zk, zr, z6, zD, zF, E.mkS, zc, unN, zM, zm, zy, zC, zf, zN, zq, GS, simprocAttr, GZ, h]
  | true =>
    have h2 := of_decide_eq_true h
    simp (disch := ((try simp only [LL]); omega)) only [↓GO, ↓DRW, GA, ren, zB, zd, refs, zb, cst, zl, zH, z7, E.load, E.store, zG, isC, bin, zI, zJ, una, z8, za, zh, zK, blt, fnV, asArg, ze, zn, zo, zj, zi, zg, zk, zr, z6, zD, zF, E.mkS, zc, unN, zM, zm, zy, zC, zf, zN, zq, GS, simprocAttr, GZ, h]
theorem mF (s p : Str) (hs : s.length ≤ 9223372036854775807) (hp : p.length ≤ 9223372036854775807) : zE (EV Tryz.prog pol) 97 [.t (.str s), .t (.str p)] = some (.t (.bool (p.isPrefixOf s))) := by
  have h := po s p hs hp
  apply zu
  refine zw rfl Tryz.func97 rfl (by kernel_rfl) ?_
  unfold Tryz.f97
  simp (disch := ((try simp only [LL]); omega)) only [↓GO, ↓DRW, GA, ren, zB, zd, refs, zb, cst, zl, zH, z7, E.load, E.store, zG, isC, bin, zI, zJ, una, z8, za, zh, zK, blt, fnV, asArg, ze, zn, zo, zj, zi, zg, zk, zr, z6, zD, zF, E.mkS, zc, unN, zM, zm, zy, zC, zf, zN, zq, GS, simprocAttr, GZ, h]
theorem mi : ∀ {p s : Str}, p.isPrefixOf s = true → p.length ≤ s.length
  | [], s, _ => by simp
  | a :: p, [], h => by simp [List.isPrefixOf] at h
  | a :: p, b :: s, h => by
    simp only [List.isPrefixOf, Bool.and_eq_true] at h
    have := mi h.2
    simp only [List.length_cons]; omega
theorem dp (s p : Str) (hs : s.length ≤ 9223372036854775807) (hp : p.length ≤ 9223372036854775807) : zE (EV Tryz.prog pol) 156 [.t (.str s), .t (.str p)] = some (.t (.str (cond (p.isPrefixOf s) (s.drop p.length) s))) := by
  have h := po s p hs hp
  apply zu
  refine zw rfl Tryz.func156 rfl (by kernel_rfl) ?_
  unfold Tryz.f156
  cases hb : p.isPrefixOf s with
  | false => rw [hb] at h; simp (disch := ((try simp only [LL]); omega)) only [↓GO, ↓DRW, GA, ren, zB, zd, refs, zb, cst, zl, zH, z7, E.load, E.store, zG, isC, bin, zI, zJ, una, z8, za, zh, zK, blt, fnV, asArg, ze, zn, zo, zj, zi, zg, zk, zr, z6, zD, zF, E.mkS, zc, unN, zM, zm, zy, zC, zf, zN, zq, GS, simprocAttr, GZ, h]
  | true =>
    have h2 := mi hb
    rw [hb] at h; simp (disch := ((try simp only [LL]); omega)) only [↓GO, ↓DRW, GA, ren, zB, zd, refs, zb, cst, zl, zH, z7, E.load, E.store, zG, isC, bin, zI, zJ, una, z8, za, zh, zK, blt, fnV, asArg, ze, zn, zo, zj, zi, zg, zk, zr, z6, zD, zF, E.mkS, zc, unN, zM, zm, zy, zC, zf, zN, zq, GS, simprocAttr, GZ, h]
theorem Zx (s p : Str) (hs : s.length ≤ 9223372036854775807) (hp : p.length ≤ 9223372036854775807) : zE (EV Tryz.prog pol) 119 [.t (.str s), .t (.str p)] = some (.t (.str (cond (p.isPrefixOf s) (s.drop p.length) s))) := by
  have h := dp s p hs hp
  apply zu
  refine zw rfl Tryz.func119 rfl (by kernel_rfl) ?_
  unfold Tryz.f119
  simp (disch := ((try simp only [LL]); omega)) only [↓GO, ↓DRW, GA, ren, zB, zd, refs, zb, cst, zl, zH, z7, E.load, E.store, zG, isC, bin, zI, zJ, una, z8, za, zh, zK, blt, fnV, asArg, ze, zn, zo, zj, zi, zg, zk, zr, z6, zD, zF, E.mkS, zc, unN, zM, zm, zy, zC, zf, zN, zq, GS, simprocAttr, GZ, h]
theorem VN (s : Str) : cond (([64] : Str).isPrefixOf s) (s.drop ([64] : Str).length) s = yQ s := by
  cases s with
  | nil => rfl
  | cons x s =>
    by_cases h : x = 64
    · subst h; simp [List.isPrefixOf, yQ]
    · have : (64 == x) = false := by rw [beq_eq_false_iff_ne]; exact fun e => h e.symm
      simp [List.isPrefixOf, yQ, h, this]
theorem UK (b : UInt8) : zE (EV Tryz.prog pol) 121 [.t (.int .u8 (b.toNat : Int))] = some (.t (.bool (vR b))) := by
  have h1 := kK (b.toNat : Int)
  have h2 := pn (b.toNat : Int)
  apply zu
  refine zw rfl Tryz.func121 rfl (by kernel_rfl) ?_
  unfold Tryz.f121
  simp only [vR, nb]
  generalize hx : B2 (b.toNat : Int) 97 122 = x1 at *
  generalize hy : B2 (b.toNat : Int) 48 57 = x2 at *
  repeat' (first | (((first | with_reducible refine ub (fun hA => ?_) (fun hA => ?_) | with_reducible refine ua (fun hA => ?_) (fun hA => ?_)) <;> (try simp only [bne, Bool.not_eq_true', Bool.not_eq_false'] at hA) <;> (first | (have hP := Int.le_of_eq (eq_of_beq (α := Int) hA); have hQ := Int.le_of_eq (eq_of_beq (α := Int) hA).symm) | have hP := of_decide_eq_true hA | have hP := of_decide_eq_false hA | skip)) <;> (simp (disch := ((try simp only [LL]); omega)) only [↓GO, ↓DRW, GA, ren, zB, zd, refs, zb, cst, zl, zH, z7, E.load, E.store, zG, isC, bin, zI, zJ, una, z8, za, zh, zK, blt, fnV, asArg, ze, zn, zo, zj, zi, zg, zk, zr, z6, zD, zF, E.mkS, zc, unN, zM, zm, zy, zC, zf, zN, zq, GS, simprocAttr, zx, bne, *])) | (simp (disch := ((try simp only [LL]); omega)) only [↓GO, ↓DRW, GA, ren, zB, zd, refs, zb, cst, zl, zH, z7, E.load, E.store, zG, isC, bin, zI, zJ, una, z8, za, zh, zK, blt, fnV, asArg, ze, zn, zo, zj, zi, zg, zk, zr, z6, zD, zF, E.mkS, zc, unN, zM, zm, zy, zC, zf, zN, zq, GS, simprocAttr, zx, bne, *]))
theorem rm (b : UInt8) (s : Str) : sb s [b] = yi b s := by
  rw [← lq]
  unfold sb Lib.split Lib.countB
  rw [Lib.splitB_data]
theorem xj (x : Str) (l : List Str) : y6 (x :: l) = [.str x] :: y6 l := rfl
theorem uw (a b : List Str) : y6 (a ++ b) = y6 a ++ y6 b := by simp [y6]
theorem yf : y6 [] = [] := rfl
/-- a place in a list of texts, told by what stands ahead of it -/
theorem xU (pre : List Str) (x : Str) (rest : List Str) : (y6 (pre ++ x :: rest))[pre.length]? = some [.str x] := by
  rw [uw, xj]
  have := tn (y6 pre) [T.str x] (y6 rest)
  rwa [zP] at this
theorem bL (s : Str) (sc : Bool) (parts : List Str) (hl : parts.length ≤ 4294967296) (hb : ∀ p ∈ parts, p.length ≤ 4294967296) : ∀ (rest pre : List Str), parts = pre ++ rest →
    EV Tryz.prog pol (.loop 91 58 0 [.t (.str s), .t (.bool sc), .t (.list 1 (y6 parts)), .t (.int .i64 (parts.length : Int)), .t (.int .i64 (pre.length : Int))] []) = some (cond (vM (sc && ((pre.length : Int) == 0)) rest) (.loop (.exit 0) [.t (.str s), .bad] []) (.loop .ret [.t (.str s), .t (.bool false)] []))
  | [], pre, hs => by
    have c : decide ((pre.length : Int) < (parts.length : Int)) = false := by simp [hs]
    refine zz Tryz.func91 rfl rfl ?_
    simp only [↓GO, ↓DRW, GA, ren, zB, zd, refs, zb, cst, zl, zH, z7, E.load, E.store, zG, isC, bin, zI, zJ, una, z8, za, zh, zK, blt, fnV, asArg, ze, zn, zo, zj, zi, zg, zk, zr, z6, zD, zF, E.mkS, zc, unN, zM, zm, zy, zC, zf, zN, zq, GS, simprocAttr, c, vM]
  | x :: rest, pre, hs => by
    have c : decide ((pre.length : Int) < (parts.length : Int)) = true := by simp [hs]; omega
    have hget : (y6 parts)[pre.length]? = some [.str x] := by rw [hs]; exact xU pre x rest
    have hlen : pre.length + rest.length + 1 ≤ parts.length := by rw [hs]; simp; omega
    have hx : x.length ≤ 4294967296 := hb x (by rw [hs]; simp)
    have IH := bL s sc parts hl hb rest (pre ++ [x]) (by rw [hs]; simp)
    have hc := aT 121 vR UK x (by omega)
    rw [show ((pre ++ [x]).length : Int) = (pre.length : Int) + 1 by simp] at IH
    have e0 : (((pre.length : Int) + 1 == 0)) = false := by rw [beq_eq_false_iff_ne]; omega
    rw [e0, Bool.and_false] at IH
    clear hs hb
    refine zz Tryz.func91 rfl rfl ?_
    rw [vM]
    have hN : (x == sN) = (x == [110, 111, 100, 101, 95, 109, 111, 100, 117, 108, 101, 115]) := rfl
    rw [hN]
    cases ha : x.all vR <;> rw [ha] at hc <;> cases h1 : (x == []) <;> cases h2 : (x == [110, 111, 100, 101, 95, 109, 111, 100, 117, 108, 101, 115]) <;> cases sc <;> cases h3 : ((pre.length : Int) == 0) <;>
      simp (disch := ((try simp only [LL]); omega)) only [↓GO, ↓DRW, GA, ren, zB, zd, refs, zb, cst, zl, zH, z7, E.load, E.store, zG, isC, bin, zI, zJ, una, z8, za, zh, zK, blt, fnV, asArg, ze, zn, zo, zj, zi, zg, zk, zr, z6, zD, zF, E.mkS, zc, unN, zM, zm, zy, zC, zf, zN, zq, GS, simprocAttr, GZ, c, hget, zx, hc, h1, h2, h3, IH, zP]
theorem aC (s : Str) (hl : s.length ≤ 1048576) : zE (EV Tryz.prog pol) 91 [.t (.str s)] = some (.t (.bool (vj s))) := by
  have h1 := mF s [64] (by omega) (by simp)
  have h2 := Zx s [64] (by omega) (by simp)
  rw [VN] at h2
  have ht : (yQ s).length ≤ s.length := by
    unfold yQ; split
    · simp
    · split
      · simp
      · simp
  have hbk := xL 47 (yQ s)
  have h3 := qG (yQ s) [47] (by omega) (by simp)
  rw [rm] at h3
  have IH := bL s (ov s) (yi 47 (yQ s)) (by omega) (fun p hp => by have := xX hp; omega) _ [] rfl
  rw [show (([64] : Str).isPrefixOf s) = ov s from rfl] at h1
  simp only [List.length_nil, Int.natCast_zero, show ((0 : Int) == 0) = true from rfl, Bool.and_true] at IH
  apply zu
  refine zw rfl Tryz.func91 rfl (by kernel_rfl) ?_
  unfold Tryz.f91
  unfold vj
  cases hp : vM (ov s) (yi 47 (yQ s)) <;> rw [hp] at IH <;> simp only [cond_true, cond_false] at IH <;>
    simp (disch := ((try simp only [LL]); omega)) only [↓GO, ↓DRW, GA, ren, zB, zd, refs, zb, cst, zl, zH, z7, E.load, E.store, zG, isC, bin, zI, zJ, una, z8, za, zh, zK, blt, fnV, asArg, ze, zn, zo, zj, zi, zg, zk, zr, z6, zD, zF, E.mkS, zc, unN, zM, zm, zy, zC, zf, zN, zq, GS, simprocAttr, GZ, h1, h2, h3, zP, IH]
theorem cA (s : Str) (b : UInt8) (hl : s.length ≤ 4294967296) : ∀ (rest cur pre : Str) (out : List Str) (cap : Option Nat) (m : Nat), s = pre ++ (cur ++ rest) → m = pre.length + cur.length → out.length ≤ m →
    ∃ (out' : List Str) (fr : Nat) (cap' : Option Nat), out'.length ≤ s.length ∧ fr ≤ s.length ∧ out' ++ [s.drop fr] = out ++ (match yi b rest with | p :: r => (cur ++ p) :: r | [] => []) ∧
      EV Tryz.prog pol (.loop 105 122 0 [.t (.str s), .t (.int .u8 (b.toNat : Int)), .sl 0 0 out.length cap, .t (.int .i64 (pre.length : Int)), .t (.int .i64 (m : Int))] [.ts 1 (y6 out)]) = some (.loop (.exit 0) [.t (.str s), .sl 0 0 out'.length cap', .t (.int .i64 (fr : Int))] [.ts 1 (y6 out')])
  | [], cur, pre, out, cap, m, hs, hm, ho => by
    have c : decide ((m : Int) < (s.length : Int)) = false := by simp [hs]; omega
    have hn : s.length = pre.length + cur.length := by rw [hs]; simp
    refine ⟨out, pre.length, cap, by omega, by omega, ?_, ?_⟩
    · simp only [yi, hs, List.append_nil, List.drop_left]
    · refine zz Tryz.func105 rfl rfl ?_
      simp only [↓GO, ↓DRW, GA, ren, zB, zd, refs, zb, cst, zl, zH, z7, E.load, E.store, zG, isC, bin, zI, zJ, una, z8, za, zh, zK, blt, fnV, asArg, ze, zn, zo, zj, zi, zg, zk, zr, z6, zD, zF, E.mkS, zc, unN, zM, zm, zy, zC, zf, zN, zq, GS, simprocAttr, c]
  | x :: rest, cur, pre, out, cap, m, hs, hm, ho => by
    have hn : s.length = pre.length + cur.length + rest.length + 1 := by rw [hs]; simp; omega
    have c : decide ((m : Int) < (s.length : Int)) = true := by simp only [decide_eq_true_eq]; omega
    have hget : s[m]? = some x := by
      rw [hs, hm, ← List.append_assoc, ← List.length_append]; exact tn (pre ++ cur) x rest
    by_cases hx : x = b
    · subst hx
      have hcut : (s.drop pre.length).take (m - pre.length) = cur := by
        rw [hs, hm, List.drop_left, show pre.length + cur.length - pre.length = cur.length by omega, List.take_left]
      obtain ⟨out', fr, cap', q1, q2, q3, q4⟩ := cA s x hl rest [] (pre ++ cur ++ [x]) (out ++ [cur]) none (m + 1) (by rw [hs]; simp) (by simp; omega) (by simp; omega)
      refine ⟨out', fr, cap', q1, q2, ?_, ?_⟩
      · rw [q3, wg]
        cases hc : yi x rest with
        | nil => exact absurd hc (yU x rest)
        | cons p r => simp
      · rw [show ((pre ++ cur ++ [x]).length : Int) = (m : Int) + 1 by simp; omega, show ((m + 1 : Nat) : Int) = (m : Int) + 1 by omega] at q4
        rw [uw, xj, yf, List.length_append, List.length_cons, List.length_nil, Nat.zero_add] at q4
        have hol : out.length ≤ 4294967296 := by omega
        clear hs q3
        refine zz Tryz.func105 rfl rfl ?_
        simp (disch := ((try simp only [LL]); omega)) only [↓GO, ↓DRW, GA, ren, zB, zd, refs, zb, cst, zl, zH, z7, E.load, E.store, zG, isC, bin, zI, zJ, una, z8, za, zh, zK, blt, fnV, asArg, ze, zn, zo, zj, zi, zg, zk, zr, z6, zD, zF, E.mkS, zc, unN, zM, zm, zy, zC, zf, zN, zq, GS, simprocAttr, GZ, c, hget, zx, hcut, q4, zP, wh]
    · have c2 : ((x.toNat : Int) == (b.toNat : Int)) = false := by
        rw [beq_eq_false_iff_ne]; intro e; exact hx (UInt8.toNat_inj.1 (by omega))
      obtain ⟨out', fr, cap', q1, q2, q3, q4⟩ := cA s b hl rest (cur ++ [x]) pre out cap (m + 1) (by rw [hs]; simp) (by simp; omega) (by omega)
      refine ⟨out', fr, cap', q1, q2, ?_, ?_⟩
      · rw [q3]
        cases hc : yi b rest with
        | nil => exact absurd hc (yU b rest)
        | cons p r => rw [yF b x rest p r hx hc]; simp
      · rw [show ((m + 1 : Nat) : Int) = (m : Int) + 1 by omega] at q4
        clear hs q3
        refine zz Tryz.func105 rfl rfl ?_
        simp (disch := ((try simp only [LL]); omega)) only [↓GO, ↓DRW, GA, ren, zB, zd, refs, zb, cst, zl, zH, z7, E.load, E.store, zG, isC, bin, zI, zJ, una, z8, za, zh, zK, blt, fnV, asArg, ze, zn, zo, zj, zi, zg, zk, zr, z6, zD, zF, E.mkS, zc, unN, zM, zm, zy, zC, zf, zN, zq, GS, simprocAttr, GZ, c, hget, zx, c2, q4, zP, wh]
theorem mN (s : Str) (b : UInt8) (hl : s.length ≤ 4194304) : zE (EV Tryz.prog pol) 105 [.t (.str s), .t (.int .u8 (b.toNat : Int))] = some (.t (.list 1 (y6 (yi b s)))) := by
  obtain ⟨out, fr, cap, q1, q2, q3, q4⟩ := cA s b (by omega) s [] [] [] (some 0) 0 rfl rfl (by simp)
  simp only [List.nil_append, List.length_nil, Int.natCast_zero, yf] at q4 q3
  have e : (match yi b s with | p :: r => p :: r | [] => []) = yi b s := by cases yi b s <;> rfl
  rw [e] at q3
  have ho : (y6 out ++ [[.str (List.drop fr s)]]) = y6 (yi b s) := by rw [← q3, uw]; rfl
  have ht : List.take (out.length + 1) (y6 (yi b s)) = y6 (yi b s) := List.take_of_length_le (by rw [zP, ← q3]; simp)
  apply zu
  refine zw rfl Tryz.func105 rfl (by kernel_rfl) ?_
  unfold Tryz.f105
  simp (disch := ((try simp only [LL]); omega)) only [↓GO, ↓DRW, GA, ren, zB, zd, refs, zb, cst, zl, zH, z7, E.load, E.store, zG, isC, bin, zI, zJ, una, z8, za, zh, zK, blt, fnV, asArg, ze, zn, zo, zj, zi, zg, zk, zr, z6, zD, zF, E.mkS, zc, unN, zM, zm, zy, zC, zf, zN, zq, GS, simprocAttr, GZ, q4, zP, wh, ho, ht]
theorem tY (s : Str) (P : T) (i : T) (p : Str) (hl : p.length ≤ 4294967296) : ∀ (rest pre : Str), p = pre ++ rest →
    EV Tryz.prog pol (.loop 82 59706 0 [.t (.str s), .t P, .t i, .t (.str p), .t (.int .i64 (pre.length : Int))] []) = some (cond (rest.all vR) (.loop (.exit 2) [.t (.str s), .bad, .t P, .t i, .t (.str p)] []) (.loop .ret [.t (.str s), .t (.bool false), .t P, .t i, .t (.str p)] []))
  | [], pre, hs => by
    have c : decide ((pre.length : Int) < (p.length : Int)) = false := by simp [hs]
    refine zz Tryz.func82 rfl rfl ?_
    simp only [↓GO, ↓DRW, GA, ren, zB, zd, refs, zb, cst, zl, zH, z7, E.load, E.store, zG, isC, bin, zI, zJ, una, z8, za, zh, zK, blt, fnV, asArg, ze, zn, zo, zj, zi, zg, zk, zr, z6, zD, zF, E.mkS, zc, unN, zM, zm, zy, zC, zf, zN, zq, GS, simprocAttr, c]
  | b :: rest, pre, hs => by
    have c : decide ((pre.length : Int) < (p.length : Int)) = true := by simp [hs]; omega
    have hget : p[pre.length]? = some b := by rw [hs]; exact tn pre b rest
    have hlen : p.length = pre.length + rest.length + 1 := by rw [hs]; simp; omega
    have IH := tY s P i p hl rest (pre ++ [b]) (by rw [hs]; simp)
    rw [show ((pre ++ [b]).length : Int) = (pre.length : Int) + 1 by simp] at IH
    have hb := oo b
    clear hs
    refine zz Tryz.func82 rfl rfl ?_
    rw [List.all_cons, vR]
    simp only [nb] at *
    cases h1 : (B2 (b.toNat : Int) 97 122 || B2 (b.toNat : Int) 48 57) <;> rw [h1] at hb <;> cases h2 : ((b.toNat : Int) == 46) <;> cases h3 : ((b.toNat : Int) == 95) <;> cases h4 : ((b.toNat : Int) == 45) <;>
      simp (disch := ((try simp only [LL]); omega)) only [↓GO, ↓DRW, GA, ren, zB, zd, refs, zb, cst, zl, zH, z7, E.load, E.store, zG, isC, bin, zI, zJ, una, z8, za, zh, zK, blt, fnV, asArg, ze, zn, zo, zj, zi, zg, zk, zr, z6, zD, zF, E.mkS, zc, unN, zM, zm, zy, zC, zf, zN, zq, GS, simprocAttr, GZ, c, hget, zx, hb, h2, h3, h4, bne, IH]
theorem bK (s : Str) (parts : List Str) (hl : parts.length ≤ 4294967296) (hb : ∀ p ∈ parts, p.length ≤ 4294967296) : ∀ (rest pre : List Str), parts = pre ++ rest → pre ≠ [] →
    EV Tryz.prog pol (.loop 82 58 0 [.t (.str s), .t (.list 1 (y6 parts)), .t (.int .i64 (pre.length : Int))] []) = some (cond (mP rest) (.loop (.exit 0) [.t (.str s), .bad] []) (.loop .ret [.t (.str s), .t (.bool false)] []))
  | [], pre, hs, _ => by
    have c : decide ((pre.length : Int) < (parts.length : Int)) = false := by simp [hs]
    refine zz Tryz.func82 rfl rfl ?_
    simp only [↓GO, ↓DRW, GA, ren, zB, zd, refs, zb, cst, zl, zH, z7, E.load, E.store, zG, isC, bin, zI, zJ, una, z8, za, zh, zK, blt, fnV, asArg, ze, zn, zo, zj, zi, zg, zk, zr, z6, zD, zF, E.mkS, zc, unN, zM, zm, zy, zC, zf, zN, zq, GS, simprocAttr, zP, c, mP]
  | x :: rest, pre, hs, hn => by
    have c : decide ((pre.length : Int) < (parts.length : Int)) = true := by simp [hs]; omega
    have hget : (y6 parts)[pre.length]? = some [.str x] := by rw [hs]; exact xU pre x rest
    have hlen : pre.length + rest.length + 1 ≤ parts.length := by rw [hs]; simp; omega
    have hx : x.length ≤ 4294967296 := hb x (by rw [hs]; simp)
    have IH := bK s parts hl hb rest (pre ++ [x]) (by rw [hs]; simp) (by simp)
    have hin := tY s (.list 1 (y6 parts)) (.int .i64 (pre.length : Int)) x hx x [] rfl
    simp only [List.length_nil, Int.natCast_zero] at hin
    rw [show ((pre ++ [x]).length : Int) = (pre.length : Int) + 1 by simp] at IH
    have e0 : (((pre.length : Int) == 0)) = false := by
      rw [beq_eq_false_iff_ne]; intro h; apply hn; apply List.eq_nil_of_length_eq_zero; omega
    clear hs hb
    refine zz Tryz.func82 rfl rfl ?_
    rw [mP]
    have hN : (x == sN) = (x == [110, 111, 100, 101, 95, 109, 111, 100, 117, 108, 101, 115]) := rfl
    rw [hN]
    cases ha : x.all vR <;> rw [ha] at hin <;> simp only [cond_true, cond_false] at hin <;> cases h1 : (x == []) <;> cases h2 : (x == [110, 111, 100, 101, 95, 109, 111, 100, 117, 108, 101, 115]) <;>
      simp (disch := ((try simp only [LL]); omega)) only [↓GO, ↓DRW, GA, ren, zB, zd, refs, zb, cst, zl, zH, z7, E.load, E.store, zG, isC, bin, zI, zJ, una, z8, za, zh, zK, blt, fnV, asArg, ze, zn, zo, zj, zi, zg, zk, zr, z6, zD, zF, E.mkS, zc, unN, zM, zm, zy, zC, zf, zN, zq, GS, simprocAttr, GZ, c, hget, zx, hin, h1, h2, e0, IH, zP]
theorem Ui (s : Str) (parts : List Str) (hl : parts.length ≤ 4294967296) (hb : ∀ p ∈ parts, p.length ≤ 4294967296) (x : Str) (rest : List Str) (hs : parts = x :: rest) :
    EV Tryz.prog pol (.loop 82 58 0 [.t (.str s), .t (.list 1 (y6 parts)), .t (.int .i64 0)] []) = some (cond (rS (x :: rest)) (.loop (.exit 0) [.t (.str s), .bad] []) (.loop .ret [.t (.str s), .t (.bool false)] [])) := by
  have c : decide ((0 : Int) < (parts.length : Int)) = true := by simp only [decide_eq_true_eq, hs, List.length_cons]; omega
  have hget : (y6 parts)[0]? = some [.str x] := by rw [hs]; rfl
  have hx : x.length ≤ 4294967296 := hb x (by rw [hs]; simp)
  have IH := bK s parts hl hb rest [x] hs (by simp)
  simp only [List.length_nil, List.length_cons, Nat.zero_add, Int.natCast_one] at IH
  have hN : (x == sN) = (x == [110, 111, 100, 101, 95, 109, 111, 100, 117, 108, 101, 115]) := rfl
  rw [rS, hN]
  clear hs hb hN
  cases x with
  | nil =>
    have hin := tY s (.list 1 (y6 parts)) (.int .i64 0) [] hx [] [] rfl
    simp only [List.length_nil, Int.natCast_zero, List.all_nil, cond_true] at hin
    have h2 : (([] : Str) == [110, 111, 100, 101, 95, 109, 111, 100, 117, 108, 101, 115]) = false := rfl
    have h3 : (([] : Str) == []) = true := rfl
    have h4 : yQ [] = [] := rfl
    refine zz Tryz.func82 rfl rfl ?_
    simp (disch := ((try simp only [LL]); omega)) only [↓GO, ↓DRW, GA, ren, zB, zd, refs, zb, cst, zl, zH, z7, E.load, E.store, zG, isC, bin, zI, zJ, una, z8, za, zh, zK, blt, fnV, asArg, ze, zn, zo, zj, zi, zg, zk, zr, z6, zD, zF, E.mkS, zc, unN, zM, zm, zy, zC, zf, zN, zq, GS, simprocAttr, GZ, c, hget, zx, hin, zP, h2, h3, h4, Int.natCast_zero]
  | cons y t =>
    have hlt : decide (((y :: t).length : Int) > 0) = true := by simp only [decide_eq_true_eq, List.length_cons]; omega
    have hg0 : (y :: t)[0]? = some y := rfl
    have hyl : 1 ≤ (y :: t).length := by simp
    by_cases h64 : y = 64
    · subst h64
      have hin2 := tY s (.list 1 (y6 parts)) (.int .i64 0) t (by simp only [List.length_cons] at hx; omega) t [] rfl
      simp only [List.length_nil, Int.natCast_zero] at hin2
      have e1 : (((64 : UInt8) :: t) == [110, 111, 100, 101, 95, 109, 111, 100, 117, 108, 101, 115]) = false := by simp
      have e2 : yQ (64 :: t) = t := by simp [yQ]
      have e3 : (((64 : UInt8)).toNat : Int) = 64 := rfl
      have hd : List.drop 1 ((64 : UInt8) :: t) = t := rfl
      rw [e2]
      generalize hy : (64 : UInt8) :: t = yy at *
      cases ha : t.all vR <;> rw [ha] at hin2 <;> simp only [cond_true, cond_false] at hin2 <;> cases h1 : (t == []) <;>
        refine zz Tryz.func82 rfl rfl ?_ <;> simp (disch := ((try simp only [LL]); omega)) only [↓GO, ↓DRW, GA, ren, zB, zd, refs, zb, cst, zl, zH, z7, E.load, E.store, zG, isC, bin, zI, zJ, una, z8, za, zh, zK, blt, fnV, asArg, ze, zn, zo, zj, zi, zg, zk, zr, z6, zD, zF, E.mkS, zc, unN, zM, zm, zy, zC, zf, zN, zq, GS, simprocAttr, GZ, c, hget, zx, hin2, zP, e1, e3, hlt, hg0, hd, h1, IH, Int.zero_add]
    · have e2 : yQ (y :: t) = y :: t := by simp [yQ, h64]
      have e3 : ((y.toNat : Int) == 64) = false := by
        rw [beq_eq_false_iff_ne]; intro h; exact h64 (UInt8.toNat_inj.1 (by rw [show (64 : UInt8).toNat = 64 from rfl]; omega))
      have hin := tY s (.list 1 (y6 parts)) (.int .i64 0) (y :: t) hx (y :: t) [] rfl
      simp only [List.length_nil, Int.natCast_zero] at hin
      rw [e2]
      have h1 : ((y :: t) == []) = false := rfl
      generalize hy : y :: t = yy at *
      cases ha : yy.all vR <;> rw [ha] at hin <;> simp only [cond_true, cond_false] at hin <;> cases h2 : (yy == [110, 111, 100, 101, 95, 109, 111, 100, 117, 108, 101, 115]) <;>
        refine zz Tryz.func82 rfl rfl ?_ <;> simp (disch := ((try simp only [LL]); omega)) only [↓GO, ↓DRW, GA, ren, zB, zd, refs, zb, cst, zl, zH, z7, E.load, E.store, zG, isC, bin, zI, zJ, una, z8, za, zh, zK, blt, fnV, asArg, ze, zn, zo, zj, zi, zg, zk, zr, z6, zD, zF, E.mkS, zc, unN, zM, zm, zy, zC, zf, zN, zq, GS, simprocAttr, GZ, c, hget, zx, hin, zP, e3, hlt, hg0, h1, h2, IH, Int.zero_add]
theorem aB (s : Str) (hl : s.length ≤ 1048576) : zE (EV Tryz.prog pol) 82 [.t (.str s)] = some (.t (.bool (vj s))) := by
  have hbk := xL 47 s
  have h3 := mN s 47 (by omega)
  rw [show (((47 : UInt8)).toNat : Int) = 47 from rfl] at h3
  rw [← Ze]
  cases hc : yi 47 s with
  | nil => exact absurd hc (yU 47 s)
  | cons x rest =>
    rw [hc] at h3 hbk
    have hb : ∀ p ∈ x :: rest, p.length ≤ 4294967296 := fun p hp => by have := xX hp; omega
    have LP := Ui s (x :: rest) (by omega) hb x rest rfl
    generalize x :: rest = parts at *
    apply zu
    refine zw rfl Tryz.func82 rfl (by kernel_rfl) ?_
    unfold Tryz.f82
    cases hp : rS parts <;> rw [hp] at LP <;> simp only [cond_true, cond_false] at LP <;>
      simp (disch := ((try simp only [LL]); omega)) only [↓GO, ↓DRW, GA, ren, zB, zd, refs, zb, cst, zl, zH, z7, E.load, E.store, zG, isC, bin, zI, zJ, una, z8, za, zh, zK, blt, fnV, asArg, ze, zn, zo, zj, zi, zg, zk, zr, z6, zD, zF, E.mkS, zc, unN, zM, zm, zy, zC, zf, zN, zq, GS, simprocAttr, GZ, h3, LP]
theorem Xs (b : UInt8) : zE (EV Tryz.prog pol) 125 [.t (.int .u8 (b.toNat : Int))] = some (.t (.bool (rR b))) := by
  apply zu
  refine zw rfl Tryz.func125 rfl (by kernel_rfl) ?_
  unfold Tryz.f125
  unfold rR B2
  simp only [nb]
  cases h1 : decide ((33 : Int) ≤ (b.toNat : Int)) <;> cases h2 : decide ((b.toNat : Int) ≤ 126) <;> cases h3 : ((b.toNat : Int) == 34) <;> cases h4 : ((b.toNat : Int) == 39) <;> cases h5 : ((b.toNat : Int) == 44) <;>
    simp (disch := ((try simp only [LL]); omega)) only [↓GO, ↓DRW, GA, ren, zB, zd, refs, zb, cst, zl, zH, z7, E.load, E.store, zG, isC, bin, zI, zJ, una, z8, za, zh, zK, blt, fnV, asArg, ze, zn, zo, zj, zi, zg, zk, zr, z6, zD, zF, E.mkS, zc, unN, zM, zm, zy, zC, zf, zN, zq, GS, simprocAttr, GZ, h1, h2, h3, h4, h5, bne, ge_iff_le]
theorem ek (s : Str) (hl : s.length ≤ 1048576) : zE (EV Tryz.prog pol) 93 [.t (.str s)] = some (.t (.bool (wz s))) := by
  have h := aT 125 rR Xs s (by omega)
  apply zu
  refine zw rfl Tryz.func93 rfl (by kernel_rfl) ?_
  unfold Tryz.f93
  unfold wz
  cases h1 : decide ((s.length : Int) ≤ 100) <;> simp (disch := ((try simp only [LL]); omega)) only [↓GO, ↓DRW, GA, ren, zB, zd, refs, zb, cst, zl, zH, z7, E.load, E.store, zG, isC, bin, zI, zJ, una, z8, za, zh, zK, blt, fnV, asArg, ze, zn, zo, zj, zi, zg, zk, zr, z6, zD, zF, E.mkS, zc, unN, zM, zm, zy, zC, zf, zN, zq, GS, simprocAttr, GZ, h, h1]
theorem fc (s : Str) (hl : s.length ≤ 1048576) : ∀ (rest pre : Str), s = pre ++ rest →
    EV Tryz.prog pol (.loop 84 26 0 [.t (.str s), .t (.int .i64 (pre.length : Int))] []) = some (cond (rest.all rR) (.loop (.exit 0) [.t (.str s), .bad] []) (.loop .ret [.t (.str s), .t (.bool false)] []))
  | [], pre, hs => by
    have c : decide ((pre.length : Int) < (s.length : Int)) = false := by simp [hs]
    refine zz Tryz.func84 rfl rfl ?_
    simp only [↓GO, ↓DRW, GA, ren, zB, zd, refs, zb, cst, zl, zH, z7, E.load, E.store, zG, isC, bin, zI, zJ, una, z8, za, zh, zK, blt, fnV, asArg, ze, zn, zo, zj, zi, zg, zk, zr, z6, zD, zF, E.mkS, zc, unN, zM, zm, zy, zC, zf, zN, zq, GS, simprocAttr, c]
  | b :: rest, pre, hs => by
    have c : decide ((pre.length : Int) < (s.length : Int)) = true := by simp [hs]; omega
    have hget : s[pre.length]? = some b := by rw [hs]; exact tn pre b rest
    have hlen : s.length = pre.length + rest.length + 1 := by rw [hs]; simp; omega
    have IH := fc s hl rest (pre ++ [b]) (by rw [hs]; simp)
    rw [show ((pre ++ [b]).length : Int) = (pre.length : Int) + 1 by simp] at IH
    have hb := xN (b.toNat : Int) 33 126
    clear hs
    refine zz Tryz.func84 rfl rfl ?_
    rw [List.all_cons, rR]
    simp only [nb]
    cases h1 : B2 (b.toNat : Int) 33 126 <;> rw [h1] at hb <;> cases h3 : ((b.toNat : Int) == 34) <;> cases h4 : ((b.toNat : Int) == 39) <;> cases h5 : ((b.toNat : Int) == 44) <;> cases h6 : ((b.toNat : Int) == 92) <;>
      simp (disch := ((try simp only [LL]); omega)) only [↓GO, ↓DRW, GA, ren, zB, zd, refs, zb, cst, zl, zH, z7, E.load, E.store, zG, isC, bin, zI, zJ, una, z8, za, zh, zK, blt, fnV, asArg, ze, zn, zo, zj, zi, zg, zk, zr, z6, zD, zF, E.mkS, zc, unN, zM, zm, zy, zC, zf, zN, zq, GS, simprocAttr, GZ, c, hget, zx, conv, wrap_u8, hb, h3, h4, h5, h6, bne, IH]
theorem ej (s : Str) (hl : s.length ≤ 1048576) : zE (EV Tryz.prog pol) 84 [.t (.str s)] = some (.t (.bool (wz s))) := by
  have IH := fc s hl s [] rfl
  simp only [List.length_nil, Int.natCast_zero] at IH
  apply zu
  refine zw rfl Tryz.func84 rfl (by kernel_rfl) ?_
  unfold Tryz.f84
  unfold wz
  cases ha : s.all rR <;> rw [ha] at IH <;> simp only [cond_true, cond_false] at IH
  · simp (disch := ((try simp only [LL]); omega)) only [↓GO, ↓DRW, GA, ren, zB, zd, refs, zb, cst, zl, zH, z7, E.load, E.store, zG, isC, bin, zI, zJ, una, z8, za, zh, zK, blt, fnV, asArg, ze, zn, zo, zj, zi, zg, zk, zr, z6, zD, zF, E.mkS, zc, unN, zM, zm, zy, zC, zf, zN, zq, GS, simprocAttr, GZ, IH]
  · cases h1 : decide ((s.length : Int) ≤ 100) with
    | false => simp (disch := ((try simp only [LL]); omega)) only [↓GO, ↓DRW, GA, ren, zB, zd, refs, zb, cst, zl, zH, z7, E.load, E.store, zG, isC, bin, zI, zJ, una, z8, za, zh, zK, blt, fnV, asArg, ze, zn, zo, zj, zi, zg, zk, zr, z6, zD, zF, E.mkS, zc, unN, zM, zm, zy, zC, zf, zN, zq, GS, simprocAttr, GZ, IH, h1]
    | true =>
      have h2 := of_decide_eq_true h1
      have h3 : decide ((s.length : Int) < 20000) = true := by simp only [decide_eq_true_eq]; omega
      simp (disch := ((try simp only [LL]); omega)) only [↓GO, ↓DRW, GA, ren, zB, zd, refs, zb, cst, zl, zH, z7, E.load, E.store, zG, isC, bin, zI, zJ, una, z8, za, zh, zK, blt, fnV, asArg, ze, zn, zo, zj, zi, zg, zk, zr, z6, zD, zF, E.mkS, zc, unN, zM, zm, zy, zC, zf, zN, zq, GS, simprocAttr, GZ, IH, h1, h3]
end Go.Proofs.YtmcephnfcciloaaGreatDoor
/- Versions, by both. Conditions: those of each lemma. -/
namespace Go.Proofs.YtmcephnfcciloaaGreatDoor
open E
set_option linter.unusedSimpArgs false
set_option linter.unusedVariables false
set_option maxRecDepth 100000
theorem zY (h : Heap) (ids : List Nat) : reach h 3 ids = u9 h 3 ids := (sr h 3 ids).symm
theorem Tf (n : Int) : B2 n 0 999999999 = n9 n := rfl
/-- a version of bounded size -/
def Ver.sm (v : Ver) : Prop := v.pre.length + yk v.pre ≤ 2097152
theorem u0 {α : Type} [BEq α] (l : List α) : ((l.length : Int) == 0) = (l == []) := by
  cases l with
  | nil => rfl
  | cons x l =>
    have h1 : ((x :: l) == []) = false := rfl
    have h2 : (((x :: l).length : Int) == 0) = false := by rw [beq_eq_false_iff_ne]; simp only [List.length_cons]; omega
    rw [h1, h2]
theorem jQ {α : Type} [BEq α] (l : List α) : decide ((l.length : Int) > 0) = !(l == []) := by
  cases l with
  | nil => rfl
  | cons x l =>
    have h1 : ((x :: l) == []) = false := rfl
    have h2 : decide (((x :: l).length : Int) > 0) = true := by simp only [decide_eq_true_eq, List.length_cons]; omega
    rw [h1, h2]; rfl
theorem Vh (b : UInt8) : B2 (b.toNat : Int) 48 57 = isD b := cF b
theorem dt (a : Int) : zE (EV Tryz.prog pol) 185 [.t (.int .u8 a)] = some (.t (.bool (B2 a 97 122 || B2 a 65 90))) := by
  have h1 := kK a
  apply zu
  refine zw rfl Tryz.func185 rfl (by kernel_rfl) ?_
  unfold Tryz.f185
  cases h2 : B2 a 97 122 <;> rw [h2] at h1
  · unfold B2
    cases h3 : decide ((65 : Int) ≤ a) <;> simp (disch := ((try simp only [LL]); omega)) only [↓GO, ↓DRW, GA, ren, zB, zd, refs, zb, cst, zl, zH, z7, E.load, E.store, zG, isC, bin, zI, zJ, una, z8, za, zh, zK, blt, fnV, asArg, ze, zn, zo, zj, zi, zg, zk, zr, z6, zD, zF, E.mkS, zc, unN, zM, zm, zy, zC, zf, zN, zq, GS, simprocAttr, GZ, h1, h3, ge_iff_le]
  · simp (disch := ((try simp only [LL]); omega)) only [↓GO, ↓DRW, GA, ren, zB, zd, refs, zb, cst, zl, zH, z7, E.load, E.store, zG, isC, bin, zI, zJ, una, z8, za, zh, zK, blt, fnV, asArg, ze, zn, zo, zj, zi, zg, zk, zr, z6, zD, zF, E.mkS, zc, unN, zM, zm, zy, zC, zf, zN, zq, GS, simprocAttr, GZ, h1]
theorem S3 (b : UInt8) : zE (EV Tryz.prog pol) 184 [.t (.int .u8 (b.toNat : Int))] = some (.t (.bool (preB b))) := by
  have h1 := dt (b.toNat : Int)
  have h2 := pn (b.toNat : Int)
  apply zu
  refine zw rfl Tryz.func184 rfl (by kernel_rfl) ?_
  unfold Tryz.f184
  unfold preB
  simp only [nb]
  cases h3 : B2 (b.toNat : Int) 97 122 <;> cases h4 : B2 (b.toNat : Int) 65 90 <;> cases h5 : B2 (b.toNat : Int) 48 57 <;> rw [h3, h4] at h1 <;> rw [h5] at h2 <;>
    simp (disch := ((try simp only [LL]); omega)) only [↓GO, ↓DRW, GA, ren, zB, zd, refs, zb, cst, zl, zH, z7, E.load, E.store, zG, isC, bin, zI, zJ, una, z8, za, zh, zK, blt, fnV, asArg, ze, zn, zo, zj, zi, zg, zk, zr, z6, zD, zF, E.mkS, zc, unN, zM, zm, zy, zC, zf, zN, zq, GS, simprocAttr, GZ, h1, h2]
theorem UM (b : UInt8) : zE (EV Tryz.prog pol) 123 [.t (.int .u8 (b.toNat : Int))] = some (.t (.bool (isD b))) := by
  rw [pn, Vh]
theorem jD (s : Str) (hl : s.length ≤ 9223372036854775807) : zE (EV Tryz.prog pol) 186 [.t (.str s)] = some (.t (.bool (isNum s))) := by
  have h := aT 123 isD UM s hl
  apply zu
  refine zw rfl Tryz.func186 rfl (by kernel_rfl) ?_
  unfold Tryz.f186
  unfold isNum
  cases h1 : (s == []) <;> simp (disch := ((try simp only [LL]); omega)) only [↓GO, ↓DRW, GA, ren, zB, zd, refs, zb, cst, zl, zH, z7, E.load, E.store, zG, isC, bin, zI, zJ, una, z8, za, zh, zK, blt, fnV, asArg, ze, zn, zo, zj, zi, zg, zk, zr, z6, zD, zF, E.mkS, zc, unN, zM, zm, zy, zC, zf, zN, zq, GS, simprocAttr, GZ, h, h1, bne]
theorem Uh (x1 x2 x3 x4 : T) (a b c : Int) :
    EV Tryz.prog pol (.loop 164 26 0 [.ptr 0 0 0, .sl 1 0 3 (some 3), .t (.int .i64 3), .t (.int .i64 0)] [.vs 4 [[.t x1, .t x2, .t x3, .t x4]], .ts 1 [[.int .i64 a], [.int .i64 b], [.int .i64 c]]])
    = some (cond (n9 a && (n9 b && n9 c)) (.loop (.exit 0) [.ptr 0 0 0, .bad] [.vs 4 [[.t x1, .t x2, .t x3, .t x4]]]) (.loop .ret [.ptr 0 0 0, .t (.bool false)] [.vs 4 [[.t x1, .t x2, .t x3, .t x4]]])) := by
  have ha := uD a 0 999999999
  have hb := uD b 0 999999999
  have hc := uD c 0 999999999
  rw [Tf] at ha hb hc
  cases h1 : n9 a <;> rw [h1] at ha
  · refine zz Tryz.func164 rfl rfl ?_
    simp (disch := ((try simp only [LL]); omega)) only [↓GO, ↓DRW, GA, ren, zB, zd, refs, zb, cst, zl, zH, z7, E.load, E.store, zG, isC, bin, zI, zJ, una, z8, za, zh, zK, blt, fnV, asArg, ze, zn, zo, zj, zi, zg, zk, zr, z6, zD, zF, E.mkS, zc, unN, zM, zm, zy, zC, zf, zN, zq, GS, simprocAttr, GZ, ha, zx, zY, Int.cast_ofNat_Int]
  · refine zz Tryz.func164 rfl rfl ?_
    simp (disch := ((try simp only [LL]); omega)) only [↓GO, ↓DRW, GA, ren, zB, zd, refs, zb, cst, zl, zH, z7, E.load, E.store, zG, isC, bin, zI, zJ, una, z8, za, zh, zK, blt, fnV, asArg, ze, zn, zo, zj, zi, zg, zk, zr, z6, zD, zF, E.mkS, zc, unN, zM, zm, zy, zC, zf, zN, zq, GS, simprocAttr, GZ, ha, zx, zY, Int.cast_ofNat_Int]
    cases h2 : n9 b <;> rw [h2] at hb
    · refine zz Tryz.func164 rfl rfl ?_
      simp (disch := ((try simp only [LL]); omega)) only [↓GO, ↓DRW, GA, ren, zB, zd, refs, zb, cst, zl, zH, z7, E.load, E.store, zG, isC, bin, zI, zJ, una, z8, za, zh, zK, blt, fnV, asArg, ze, zn, zo, zj, zi, zg, zk, zr, z6, zD, zF, E.mkS, zc, unN, zM, zm, zy, zC, zf, zN, zq, GS, simprocAttr, GZ, hb, zx, Int.zero_add, zY, Int.cast_ofNat_Int, Int.reduceAdd]
    · refine zz Tryz.func164 rfl rfl ?_
      simp (disch := ((try simp only [LL]); omega)) only [↓GO, ↓DRW, GA, ren, zB, zd, refs, zb, cst, zl, zH, z7, E.load, E.store, zG, isC, bin, zI, zJ, una, z8, za, zh, zK, blt, fnV, asArg, ze, zn, zo, zj, zi, zg, zk, zr, z6, zD, zF, E.mkS, zc, unN, zM, zm, zy, zC, zf, zN, zq, GS, simprocAttr, GZ, hb, zx, Int.zero_add, zY, Int.cast_ofNat_Int, Int.reduceAdd]
      cases h3 : n9 c <;> rw [h3] at hc
      · refine zz Tryz.func164 rfl rfl ?_
        simp (disch := ((try simp only [LL]); omega)) only [↓GO, ↓DRW, GA, ren, zB, zd, refs, zb, cst, zl, zH, z7, E.load, E.store, zG, isC, bin, zI, zJ, una, z8, za, zh, zK, blt, fnV, asArg, ze, zn, zo, zj, zi, zg, zk, zr, z6, zD, zF, E.mkS, zc, unN, zM, zm, zy, zC, zf, zN, zq, GS, simprocAttr, GZ, hc, zx, Int.zero_add, zY, Int.cast_ofNat_Int, Int.reduceAdd]
      · refine zz Tryz.func164 rfl rfl ?_
        simp (disch := ((try simp only [LL]); omega)) only [↓GO, ↓DRW, GA, ren, zB, zd, refs, zb, cst, zl, zH, z7, E.load, E.store, zG, isC, bin, zI, zJ, una, z8, za, zh, zK, blt, fnV, asArg, ze, zn, zo, zj, zi, zg, zk, zr, z6, zD, zF, E.mkS, zc, unN, zM, zm, zy, zC, zf, zN, zq, GS, simprocAttr, GZ, hc, zx, Int.zero_add, zY, Int.cast_ofNat_Int, Int.reduceAdd]
        refine zz Tryz.func164 rfl rfl ?_
        simp (disch := ((try simp only [LL]); omega)) only [↓GO, ↓DRW, GA, ren, zB, zd, refs, zb, cst, zl, zH, z7, E.load, E.store, zG, isC, bin, zI, zJ, una, z8, za, zh, zK, blt, fnV, asArg, ze, zn, zo, zj, zi, zg, zk, zr, z6, zD, zF, E.mkS, zc, unN, zM, zm, zy, zC, zf, zN, zq, GS, simprocAttr, GZ, zx, Int.zero_add, zY, Int.cast_ofNat_Int, Int.reduceAdd]
theorem bG (v : Ver) (hs : v.sm) : ∀ (rest pre : List Str), v.pre = pre ++ rest →
    EV Tryz.prog pol (.loop 164 58 0 [.ptr 0 0 0, .t (.list 1 (y6 v.pre)), .t (.int .i64 (v.pre.length : Int)), .t (.int .i64 (pre.length : Int))] [.vs 4 [v.enc.map .t]])
    = some (cond (rest.all wm) (.loop (.exit 2) [.ptr 0 0 0, .bad] [.vs 4 [v.enc.map .t]]) (.loop .ret [.ptr 0 0 0, .t (.bool false)] [.vs 4 [v.enc.map .t]]))
  | [], pre, hp => by
    have c : decide ((pre.length : Int) < (v.pre.length : Int)) = false := by simp [hp]
    refine zz Tryz.func164 rfl rfl ?_
    simp only [↓GO, ↓DRW, GA, ren, zB, zd, refs, zb, cst, zl, zH, z7, E.load, E.store, zG, isC, bin, zI, zJ, una, z8, za, zh, zK, blt, fnV, asArg, ze, zn, zo, zj, zi, zg, zk, zr, z6, zD, zF, E.mkS, zc, unN, zM, zm, zy, zC, zf, zN, zq, GS, simprocAttr, c, Ver.enc]
  | x :: rest, pre, hp => by
    unfold Ver.sm at hs
    have c : decide ((pre.length : Int) < (v.pre.length : Int)) = true := by simp [hp]; omega
    have hget : (y6 v.pre)[pre.length]? = some [.str x] := by rw [hp]; exact xU pre x rest
    have hlen : pre.length + rest.length + 1 ≤ v.pre.length := by rw [hp]; simp; omega
    have hx : x.length ≤ 2097152 := by have := xX (ks := v.pre) (s := x) (by rw [hp]; simp); omega
    have IH := bG v hs rest (pre ++ [x]) (by rw [hp]; simp)
    rw [show ((pre ++ [x]).length : Int) = (pre.length : Int) + 1 by simp] at IH
    have h1 := uD (x.length : Int) 1 20
    have h2 := aT 184 preB S3 x (by omega)
    have h3 := jD x (by omega)
    have h4 := mU x (by omega)
    clear hp
    simp only [Ver.enc, List.map_cons, List.map_nil] at IH ⊢
    rw [List.all_cons, wm]
    have e4 : decide (zO x < 0) = !decide (0 ≤ zO x) := by
      rcases Int.lt_or_le (zO x) 0 with h | h
      · have a : ¬ (0 ≤ zO x) := by omega
        simp [h, a]
      · have a : ¬ (zO x < 0) := by omega
        simp [h, a]
    generalize B2 (x.length : Int) 1 20 = b1 at *
    generalize x.all preB = b2 at *
    generalize isNum x = b3 at *
    generalize zO x = rd at *
    generalize decide (0 ≤ rd) = b4 at *
    cases b1 <;> cases b2 <;> cases b3 <;> cases b4 <;> refine zz Tryz.func164 rfl rfl ?_ <;>
      simp (disch := ((try simp only [LL]); omega)) only [↓GO, ↓DRW, GA, ren, zB, zd, refs, zb, cst, zl, zH, z7, E.load, E.store, zG, isC, bin, zI, zJ, una, z8, za, zh, zK, blt, fnV, asArg, ze, zn, zo, zj, zi, zg, zk, zr, z6, zD, zF, E.mkS, zc, unN, zM, zm, zy, zC, zf, zN, zq, GS, simprocAttr, GZ, c, hget, zx, h1, h2, h3, h4, e4, zP, IH, zY]
theorem TZ (v : Ver) (hs : v.sm) : zE (EV Tryz.prog pol) 164 [.agg (v.enc.map .t)] = some (.t (.bool (yv v))) := by
  have h1 := Uh (.int .i64 v.maj) (.int .i64 v.min) (.int .i64 v.pat) (.list 1 (y6 v.pre)) v.maj v.min v.pat
  have h2 := bG v hs v.pre [] rfl
  unfold Ver.sm at hs
  simp only [List.length_nil, Int.natCast_zero] at h2
  simp only [Ver.enc, List.map_cons, List.map_nil] at h1 h2 ⊢
  unfold yv
  generalize (n9 v.maj && (n9 v.min && n9 v.pat)) = b1 at *
  generalize v.pre.all wm = b2 at *
  apply zu
  refine zw rfl Tryz.func164 rfl (by kernel_rfl) ?_
  unfold Tryz.f164
  cases b1 <;> cases b2 <;> simp only [cond_true, cond_false] at h1 h2 <;>
    simp (disch := ((try simp only [LL]); omega)) only [↓GO, ↓DRW, GA, ren, zB, zd, refs, zb, cst, zl, zH, z7, E.load, E.store, zG, isC, bin, zI, zJ, una, z8, za, zh, zK, blt, fnV, asArg, ze, zn, zo, zj, zi, zg, zk, zr, z6, zD, zF, E.mkS, zc, unN, zM, zm, zy, zC, zf, zN, zq, GS, simprocAttr, GZ, h1, h2, zP, zY, Int.cast_ofNat_Int]
theorem UN (b : UInt8) : zE (EV Tryz.prog pol) 193 [.t (.int .u8 (b.toNat : Int))] = some (.t (.bool (B2 (b.toNat : Int) 65 90))) := by
  have h := xN (b.toNat : Int) 65 90
  apply zu
  refine zw rfl Tryz.func193 rfl (by kernel_rfl) ?_
  unfold Tryz.f193
  simp (disch := ((try simp only [LL]); omega)) only [↓GO, ↓DRW, GA, ren, zB, zd, refs, zb, cst, zl, zH, z7, E.load, E.store, zG, isC, bin, zI, zJ, una, z8, za, zh, zK, blt, fnV, asArg, ze, zn, zo, zj, zi, zg, zk, zr, z6, zD, zF, E.mkS, zc, unN, zM, zm, zy, zC, zf, zN, zq, GS, simprocAttr, GZ, h, conv, wrap_u8]
theorem Ve (s : Str) (hl : s.length ≤ 2097152) : ∀ (rest pre : Str), s = pre ++ rest →
    EV Tryz.prog pol (.loop 194 26 0 [.t (.str s), .t (.int .i64 (pre.length : Int))] []) = some (cond (rest.all isD) (.loop (.exit 0) [.t (.str s), .bad] []) (.loop .ret [.t (.str s), .t (.bool false)] []))
  | [], pre, hs => by
    have c : decide ((pre.length : Int) < (s.length : Int)) = false := by simp [hs]
    refine zz Tryz.func194 rfl rfl ?_
    simp only [↓GO, ↓DRW, GA, ren, zB, zd, refs, zb, cst, zl, zH, z7, E.load, E.store, zG, isC, bin, zI, zJ, una, z8, za, zh, zK, blt, fnV, asArg, ze, zn, zo, zj, zi, zg, zk, zr, z6, zD, zF, E.mkS, zc, unN, zM, zm, zy, zC, zf, zN, zq, GS, simprocAttr, c]
  | b :: rest, pre, hs => by
    have c : decide ((pre.length : Int) < (s.length : Int)) = true := by simp [hs]; omega
    have hget : s[pre.length]? = some b := by rw [hs]; exact tn pre b rest
    have hlen : s.length = pre.length + rest.length + 1 := by rw [hs]; simp; omega
    have IH := Ve s hl rest (pre ++ [b]) (by rw [hs]; simp)
    rw [show ((pre ++ [b]).length : Int) = (pre.length : Int) + 1 by simp] at IH
    have hb := xN (b.toNat : Int) 48 57
    rw [Vh] at hb
    clear hs
    refine zz Tryz.func194 rfl rfl ?_
    cases h1 : isD b <;> rw [h1] at hb <;>
      simp (disch := ((try simp only [LL]); omega)) only [↓GO, ↓DRW, GA, ren, zB, zd, refs, zb, cst, zl, zH, z7, E.load, E.store, zG, isC, bin, zI, zJ, una, z8, za, zh, zK, blt, fnV, asArg, ze, zn, zo, zj, zi, zg, zk, zr, z6, zD, zF, E.mkS, zc, unN, zM, zm, zy, zC, zf, zN, zq, GS, simprocAttr, GZ, c, hget, zx, conv, wrap_u8, hb, h1, IH]
theorem S8 (s : Str) (hl : s.length ≤ 2097152) : zE (EV Tryz.prog pol) 194 [.t (.str s)] = some (.t (.bool (isNum s))) := by
  have IH := Ve s hl s [] rfl
  simp only [List.length_nil, Int.natCast_zero] at IH
  apply zu
  refine zw rfl Tryz.func194 rfl (by kernel_rfl) ?_
  unfold Tryz.f194
  unfold isNum
  cases h1 : s.all isD <;> rw [h1] at IH <;> simp only [cond_true, cond_false] at IH <;>
    simp (disch := ((try simp only [LL]); omega)) only [↓GO, ↓DRW, GA, ren, zB, zd, refs, zb, cst, zl, zH, z7, E.load, E.store, zG, isC, bin, zI, zJ, una, z8, za, zh, zK, blt, fnV, asArg, ze, zn, zo, zj, zi, zg, zk, zr, z6, zD, zF, E.mkS, zc, unN, zM, zm, zy, zC, zf, zN, zq, GS, simprocAttr, GZ, IH, bne]
theorem Vb (s : Str) (hl : s.length ≤ 2097152) : ∀ (rest pre : Str), s = pre ++ rest →
    EV Tryz.prog pol (.loop 175 26 0 [.t (.str s), .t (.int .i64 (pre.length : Int))] []) = some (cond (rest.all preB) (.loop (.exit 0) [.t (.str s), .bad] []) (.loop .ret [.t (.str s), .t (.bool false)] []))
  | [], pre, hs => by
    have c : decide ((pre.length : Int) < (s.length : Int)) = false := by simp [hs]
    refine zz Tryz.func175 rfl rfl ?_
    simp only [↓GO, ↓DRW, GA, ren, zB, zd, refs, zb, cst, zl, zH, z7, E.load, E.store, zG, isC, bin, zI, zJ, una, z8, za, zh, zK, blt, fnV, asArg, ze, zn, zo, zj, zi, zg, zk, zr, z6, zD, zF, E.mkS, zc, unN, zM, zm, zy, zC, zf, zN, zq, GS, simprocAttr, c]
  | b :: rest, pre, hs => by
    have c : decide ((pre.length : Int) < (s.length : Int)) = true := by simp [hs]; omega
    have hget : s[pre.length]? = some b := by rw [hs]; exact tn pre b rest
    have hlen : s.length = pre.length + rest.length + 1 := by rw [hs]; simp; omega
    have IH := Vb s hl rest (pre ++ [b]) (by rw [hs]; simp)
    rw [show ((pre ++ [b]).length : Int) = (pre.length : Int) + 1 by simp] at IH
    have hb := oo b
    have hg := UN b
    clear hs
    refine zz Tryz.func175 rfl rfl ?_
    rw [List.all_cons, preB]
    simp only [nb] at *
    cases h1 : (B2 (b.toNat : Int) 97 122 || B2 (b.toNat : Int) 48 57) <;> rw [h1] at hb <;> cases h2 : B2 (b.toNat : Int) 65 90 <;> rw [h2] at hg <;> cases h3 : ((b.toNat : Int) == 45) <;>
      simp (disch := ((try simp only [LL]); omega)) only [↓GO, ↓DRW, GA, ren, zB, zd, refs, zb, cst, zl, zH, z7, E.load, E.store, zG, isC, bin, zI, zJ, una, z8, za, zh, zK, blt, fnV, asArg, ze, zn, zo, zj, zi, zg, zk, zr, z6, zD, zF, E.mkS, zc, unN, zM, zm, zy, zC, zf, zN, zq, GS, simprocAttr, GZ, c, hget, zx, hb, hg, h3, bne, IH]
theorem S2 (s : Str) (hl : s.length ≤ 2097152) : zE (EV Tryz.prog pol) 175 [.t (.str s)] = some (.t (.bool (wm s))) := by
  have IH := Vb s hl s [] rfl
  simp only [List.length_nil, Int.natCast_zero] at IH
  have h1 := xN (s.length : Int) 1 20
  have h3 := S8 s hl
  have h4 := ja s (by omega)
  apply zu
  refine zw rfl Tryz.func175 rfl (by kernel_rfl) ?_
  unfold Tryz.f175
  unfold wm
  generalize B2 (s.length : Int) 1 20 = b1 at *
  generalize isNum s = b3 at *
  generalize zO s = rd at *
  cases ha : s.all preB <;> rw [ha] at IH <;> simp only [cond_true, cond_false] at IH <;> cases b1 <;> cases b3 <;>
    simp (disch := ((try simp only [LL]); omega)) only [↓GO, ↓DRW, GA, ren, zB, zd, refs, zb, cst, zl, zH, z7, E.load, E.store, zG, isC, bin, zI, zJ, una, z8, za, zh, zK, blt, fnV, asArg, ze, zn, zo, zj, zi, zg, zk, zr, z6, zD, zF, E.mkS, zc, unN, zM, zm, zy, zC, zf, zN, zq, GS, simprocAttr, GZ, IH, h1, h3, h4, ge_iff_le]
theorem V7 (v : Ver) (hs : v.sm) : ∀ (rest pre : List Str), v.pre = pre ++ rest →
    EV Tryz.prog pol (.loop 153 26 0 [.ptr 0 0 0, .t (.int .i64 (pre.length : Int))] [.vs 4 [v.enc.map .t]])
    = some (cond (rest.all wm) (.loop (.exit 0) [.ptr 0 0 0, .bad] [.vs 4 [v.enc.map .t]]) (.loop .ret [.ptr 0 0 0, .t (.bool false)] [.vs 4 [v.enc.map .t]]))
  | [], pre, hp => by
    have c : decide ((pre.length : Int) < (v.pre.length : Int)) = false := by simp [hp]
    refine zz Tryz.func153 rfl rfl ?_
    simp only [↓GO, ↓DRW, GA, ren, zB, zd, refs, zb, cst, zl, zH, z7, E.load, E.store, zG, isC, bin, zI, zJ, una, z8, za, zh, zK, blt, fnV, asArg, ze, zn, zo, zj, zi, zg, zk, zr, z6, zD, zF, E.mkS, zc, unN, zM, zm, zy, zC, zf, zN, zq, GS, simprocAttr, zP, c, Ver.enc]
  | x :: rest, pre, hp => by
    unfold Ver.sm at hs
    have c : decide ((pre.length : Int) < (v.pre.length : Int)) = true := by simp [hp]; omega
    have hget : (y6 v.pre)[pre.length]? = some [.str x] := by rw [hp]; exact xU pre x rest
    have hlen : pre.length + rest.length + 1 ≤ v.pre.length := by rw [hp]; simp; omega
    have hx : x.length ≤ 2097152 := by have := xX (ks := v.pre) (s := x) (by rw [hp]; simp); omega
    have IH := V7 v hs rest (pre ++ [x]) (by rw [hp]; simp)
    rw [show ((pre ++ [x]).length : Int) = (pre.length : Int) + 1 by simp] at IH
    have h1 := S2 x hx
    clear hp
    simp only [Ver.enc, List.map_cons, List.map_nil] at IH ⊢
    cases h2 : wm x <;> rw [h2] at h1 <;> refine zz Tryz.func153 rfl rfl ?_ <;>
      simp (disch := ((try simp only [LL]); omega)) only [↓GO, ↓DRW, GA, ren, zB, zd, refs, zb, cst, zl, zH, z7, E.load, E.store, zG, isC, bin, zI, zJ, una, z8, za, zh, zK, blt, fnV, asArg, ze, zn, zo, zj, zi, zg, zk, zr, z6, zD, zF, E.mkS, zc, unN, zM, zm, zy, zC, zf, zN, zq, GS, simprocAttr, GZ, c, hget, zx, h1, h2, zP, IH, zY]
theorem cM (v : Ver) (hs : v.sm) : zE (EV Tryz.prog pol) 153 [.agg (v.enc.map .t)] = some (.t (.bool (yv v))) := by
  have h2 := V7 v hs v.pre [] rfl
  have ha := xN v.maj 0 999999999
  have hb := xN v.min 0 999999999
  have hc := xN v.pat 0 999999999
  rw [Tf] at ha hb hc
  unfold Ver.sm at hs
  simp only [List.length_nil, Int.natCast_zero] at h2
  simp only [Ver.enc, List.map_cons, List.map_nil] at h2 ⊢
  unfold yv
  generalize n9 v.maj = b1 at *
  generalize n9 v.min = b3 at *
  generalize n9 v.pat = b4 at *
  generalize v.pre.all wm = b2 at *
  apply zu
  refine zw rfl Tryz.func153 rfl (by kernel_rfl) ?_
  unfold Tryz.f153
  cases b2 <;> simp only [cond_true, cond_false] at h2 <;> cases b1 <;> cases b3 <;> cases b4 <;>
    simp (disch := ((try simp only [LL]); omega)) only [↓GO, ↓DRW, GA, ren, zB, zd, refs, zb, cst, zl, zH, z7, E.load, E.store, zG, isC, bin, zI, zJ, una, z8, za, zh, zK, blt, fnV, asArg, ze, zn, zo, zj, zi, zg, zk, zr, z6, zD, zF, E.mkS, zc, unN, zM, zm, zy, zC, zf, zN, zq, GS, simprocAttr, GZ, h2, ha, hb, hc, zP, zY]
end Go.Proofs.YtmcephnfcciloaaGreatDoor
/- Digits and quotes, by both. Conditions: those of each lemma. -/
namespace Go.Proofs.YtmcephnfcciloaaGreatDoor
open E
set_option linter.unusedSimpArgs false
set_option linter.unusedVariables false
set_option maxRecDepth 100000
theorem yT {α : Type} {b : Bool} {x y r : Option α} (h : b = true) (hx : x = r) : (if b = true then x else y) = r := by rw [h]; exact hx
end Go.Proofs.YtmcephnfcciloaaGreatDoor
/- The text of a version, and back, by both. Conditions: those of each lemma. -/
namespace Go.Proofs.YtmcephnfcciloaaGreatDoor
open E
set_option linter.unusedSimpArgs false
set_option linter.unusedVariables false
set_option maxRecDepth 100000
theorem eO (c : Str) (x : Str) : ∀ pre : List Str, w8 c (pre ++ [x]) = cond (pre == []) ((c ++ [45]) ++ x) ((w8 c pre ++ [46]) ++ x)
  | [] => by simp [w8, Lib.join_one]
  | y :: l => by
    unfold w8
    rw [nz]
    simp
theorem lk (c : Str) (l : List Str) : (w8 c l).length ≤ c.length + yk l + l.length + 1 := by
  have h := join_le [46] l
  unfold w8
  cases l with
  | nil => simp only [show (([] : List Str) == []) = true from rfl, cond_true]; omega
  | cons x r =>
    simp only [beq_nil_cons, cond_false, List.length_append, List.length_cons, List.length_nil] at h ⊢
    omega
theorem ee {v : Ver} (h : yv v = true) : (ve v).length ≤ 29 := by
  obtain ⟨h1, h2, h3, _, _⟩ := w6 h
  have a := wy v.maj h1.1 h1.2
  have b := wy v.min h2.1 h2.2
  have c := wy v.pat h3.1 h3.2
  unfold ve
  simp only [List.length_append, List.length_cons, List.length_nil]
  omega
theorem uE (v : Ver) (hs : v.sm) : zE (EV Tryz.prog pol) 136 [.agg (v.enc.map .t)] = some (.t (.str (yb v))) := by
  have h1 := TZ v hs
  unfold Ver.sm at hs
  unfold yb
  cases ho : yv v with
  | false =>
    rw [ho] at h1
    simp only [Ver.enc, List.map_cons, List.map_nil] at h1 ⊢
    apply zu
    refine zw rfl Tryz.func136 rfl (by kernel_rfl) ?_
    unfold Tryz.f136
    simp (disch := ((try simp only [LL]); omega)) only [↓GO, ↓DRW, GA, ren, zB, zd, refs, zb, cst, zl, zH, z7, E.load, E.store, zG, isC, bin, zI, zJ, una, z8, za, zh, zK, blt, fnV, asArg, ze, zn, zo, zj, zi, zg, zk, zr, z6, zD, zF, E.mkS, zc, unN, zM, zm, zy, zC, zf, zN, zq, GS, simprocAttr, GZ, h1]
  | true =>
    obtain ⟨q1, q2, q3, _, _⟩ := w6 ho
    have a := wy v.maj q1.1 q1.2
    have b := wy v.min q2.1 q2.2
    have c := wy v.pat q3.1 q3.2
    have d1 := jV v.maj q1.1 q1.2
    have d2 := jV v.min q2.1 q2.2
    have d3 := jV v.pat q3.1 q3.2
    have hj := join_le [46] v.pre
    simp only [List.length_cons, List.length_nil] at hj
    have h2 := S6 v.pre [46] (by omega) (by omega)
    have hg := jQ v.pre
    rw [ho] at h1
    unfold w8 ve
    simp only [Ver.enc, List.map_cons, List.map_nil] at h1 ⊢
    cases hp : (v.pre == []) <;> rw [hp] at hg <;> simp only [Bool.not_true, Bool.not_false] at hg
    · apply zu
      refine zw rfl Tryz.func136 rfl (by kernel_rfl) ?_
      unfold Tryz.f136
      simp (disch := ((try simp only [LL]); omega)) only [↓GO, ↓DRW, GA, ren, zB, zd, refs, zb, cst, zl, zH, z7, E.load, E.store, zG, isC, bin, zI, zJ, una, z8, za, zh, zK, blt, fnV, asArg, ze, zn, zo, zj, zi, zg, zk, zr, z6, zD, zF, E.mkS, zc, unN, zM, zm, zy, zC, zf, zN, zq, GS, simprocAttr, GZ, h1, d1, d2, d3, h2, hg, wh, zP, List.append_assoc]
    · apply zu
      refine zw rfl Tryz.func136 rfl (by kernel_rfl) ?_
      unfold Tryz.f136
      simp (disch := ((try simp only [LL]); omega)) only [↓GO, ↓DRW, GA, ren, zB, zd, refs, zb, cst, zl, zH, z7, E.load, E.store, zG, isC, bin, zI, zJ, una, z8, za, zh, zK, blt, fnV, asArg, ze, zn, zo, zj, zi, zg, zk, zr, z6, zD, zF, E.mkS, zc, unN, zM, zm, zy, zC, zf, zN, zq, GS, simprocAttr, GZ, h1, d1, d2, d3, h2, hg, wh, zP, List.append_assoc]
theorem Tg (v : Ver) (hs : v.sm) (c : Str) (hc : c.length ≤ 40) : ∀ (rest pre : List Str), v.pre = pre ++ rest →
    EV Tryz.prog pol (.loop 115 122 0 [.ptr 0 0 0, .t (.str (w8 c pre)), .t (.int .i64 (pre.length : Int))] [.vs 4 [v.enc.map .t]])
    = some (.loop (.exit 0) [.t (.str (w8 c v.pre))] [])
  | [], pre, hp => by
    have c : decide ((pre.length : Int) < (v.pre.length : Int)) = false := by simp [hp]
    have e : v.pre = pre := by simpa using hp
    refine zz Tryz.func115 rfl rfl ?_
    simp only [↓GO, ↓DRW, GA, ren, zB, zd, refs, zb, cst, zl, zH, z7, E.load, E.store, zG, isC, bin, zI, zJ, una, z8, za, zh, zK, blt, fnV, asArg, ze, zn, zo, zj, zi, zg, zk, zr, z6, zD, zF, E.mkS, zc, unN, zM, zm, zy, zC, zf, zN, zq, GS, simprocAttr, zP, c, Ver.enc, zY]
    rw [e]
  | x :: rest, pre, hp => by
    unfold Ver.sm at hs
    have c2 : decide ((pre.length : Int) < (v.pre.length : Int)) = true := by simp [hp]; omega
    have hget : (y6 v.pre)[pre.length]? = some [.str x] := by rw [hp]; exact xU pre x rest
    have hlen : pre.length + rest.length + 1 ≤ v.pre.length := by rw [hp]; simp; omega
    have hbk : yk pre + x.length ≤ yk v.pre := by rw [hp, mG]; simp only [yk]; omega
    have ht := lk c pre
    have IH := Tg v hs c hc rest (pre ++ [x]) (by rw [hp]; simp)
    rw [show ((pre ++ [x]).length : Int) = (pre.length : Int) + 1 by simp, eO] at IH
    have he := u0 pre
    have e0 : (pre == []) = true → w8 c pre = c := fun h => by unfold w8; rw [h]; rfl
    clear hp
    simp only [Ver.enc, List.map_cons, List.map_nil] at IH ⊢
    cases h0 : (pre == []) <;> rw [h0] at he IH <;> simp only [cond_true, cond_false] at IH
    · refine zz Tryz.func115 rfl rfl ?_
      simp (disch := ((try simp only [LL]); omega)) only [↓GO, ↓DRW, GA, ren, zB, zd, refs, zb, cst, zl, zH, z7, E.load, E.store, zG, isC, bin, zI, zJ, una, z8, za, zh, zK, blt, fnV, asArg, ze, zn, zo, zj, zi, zg, zk, zr, z6, zD, zF, E.mkS, zc, unN, zM, zm, zy, zC, zf, zN, zq, GS, simprocAttr, GZ, c2, hget, zx, he, zP, IH, zY, wh]
    · have e1 := e0 h0
      rw [e1]
      refine zz Tryz.func115 rfl rfl ?_
      simp (disch := ((try simp only [LL]); omega)) only [↓GO, ↓DRW, GA, ren, zB, zd, refs, zb, cst, zl, zH, z7, E.load, E.store, zG, isC, bin, zI, zJ, una, z8, za, zh, zK, blt, fnV, asArg, ze, zn, zo, zj, zi, zg, zk, zr, z6, zD, zF, E.mkS, zc, unN, zM, zm, zy, zC, zf, zN, zq, GS, simprocAttr, GZ, c2, hget, zx, he, zP, IH, zY, wh]
theorem ei (v : Ver) (hs : v.sm) : zE (EV Tryz.prog pol) 115 [.agg (v.enc.map .t)] = some (.t (.str (yb v))) := by
  have h1 := cM v hs
  unfold yb
  cases ho : yv v with
  | false =>
    rw [ho] at h1
    simp only [Ver.enc, List.map_cons, List.map_nil] at h1 ⊢
    apply zu
    refine zw rfl Tryz.func115 rfl (by kernel_rfl) ?_
    unfold Tryz.f115
    simp (disch := ((try simp only [LL]); omega)) only [↓GO, ↓DRW, GA, ren, zB, zd, refs, zb, cst, zl, zH, z7, E.load, E.store, zG, isC, bin, zI, zJ, una, z8, za, zh, zK, blt, fnV, asArg, ze, zn, zo, zj, zi, zg, zk, zr, z6, zD, zF, E.mkS, zc, unN, zM, zm, zy, zC, zf, zN, zq, GS, simprocAttr, GZ, h1]
  | true =>
    obtain ⟨q1, q2, q3, _, _⟩ := w6 ho
    have a := wy v.maj q1.1 q1.2
    have b := wy v.min q2.1 q2.2
    have c := wy v.pat q3.1 q3.2
    have d1 := jU v.maj q1.1 q1.2
    have d2 := jU v.min q2.1 q2.2
    have d3 := jU v.pat q3.1 q3.2
    have hc := ee ho
    have h2 := Tg v hs (ve v) (by omega) v.pre [] rfl
    rw [ho] at h1
    rw [show w8 (ve v) [] = ve v from rfl] at h2
    simp only [List.length_nil, Int.natCast_zero] at h2
    simp only [cond_true]
    generalize w8 (ve v) v.pre = tt at *
    unfold ve at h2
    simp only [Ver.enc, List.map_cons, List.map_nil] at h1 h2 ⊢
    apply zu
    refine zw rfl Tryz.func115 rfl (by kernel_rfl) ?_
    unfold Tryz.f115
    simp (disch := ((try simp only [LL]); omega)) only [↓GO, ↓DRW, GA, ren, zB, zd, refs, zb, cst, zl, zH, z7, E.load, E.store, zG, isC, bin, zI, zJ, una, z8, za, zh, zK, blt, fnV, asArg, ze, zn, zo, zj, zi, zg, zk, zr, z6, zD, zF, E.mkS, zc, unN, zM, zm, zy, zC, zf, zN, zq, GS, simprocAttr, GZ, h1, d1, d2, d3, h2, wh, zY]
theorem ny {s : Str} (h : (yi 46 (yl 45 s).1).length ≠ 3) : xS s = none := by
  unfold xS
  split
  · rename_i a b c he; rw [he] at h; exact absurd rfl h
  · rfl
theorem mr {s : Str} {v : Ver} (h : xS s = some v) (hl : s.length ≤ 1048700) : v.sm ∧ v.maj ≤ 999999999 ∧ -1 ≤ v.maj ∧ v.min ≤ 999999999 ∧ -1 ≤ v.min ∧ v.pat ≤ 999999999 ∧ -1 ≤ v.pat := by
  unfold xS at h
  split at h
  · rename_i a b c he
    cases h
    have h1 := xo a
    have h2 := xo b
    have h3 := xo c
    refine ⟨?_, h1.2, h1.1, h2.2, h2.1, h3.2, h3.1⟩
    have := xL 46 (yl 45 s).2.1
    have h5 := (qt 45 s).2
    unfold Ver.sm
    cases (yl 45 s).2.2 with
    | true => simp only [cond_true]; omega
    | false => simp [yk]
  · cases h
theorem yW (s : Str) (hl : s.length ≤ 1048700) : (zA s).1.sm ∧ (zA s).1.maj ≤ 999999999 ∧ -1 ≤ (zA s).1.maj ∧ (zA s).1.min ≤ 999999999 ∧ -1 ≤ (zA s).1.min ∧ (zA s).1.pat ≤ 999999999 ∧ -1 ≤ (zA s).1.pat := by
  unfold zA
  cases hm : xS s with
  | none => simp [Ver.zero, Ver.sm, yk]
  | some v =>
    have := mr hm hl
    simp only
    cases (yb v == s) with
    | true => exact this
    | false => simp [Ver.zero, Ver.sm, yk]
def rvT (s : Str) : V := .tup [.agg ((zA s).1.enc.map .t), .t (.bool (zA s).2)]
theorem oA (s : Str) (hl : s.length ≤ 1048700) : zE (EV Tryz.prog pol) 99 [.t (.str s)] = some (rvT s) := by
  have h1 := Tx s [45] (by omega)
  rw [fZ] at h1
  have hl1 := qt 45 s
  have h2 := qG (yl 45 s).1 [46] (by omega) (by simp)
  have h3 := qG (yl 45 s).2.1 [46] (by omega) (by simp)
  rw [rm] at h2 h3
  unfold rvT zA
  by_cases hn : (yi 46 (yl 45 s).1).length = 3
  · obtain ⟨a, b, c, hp⟩ : ∃ a b c, yi 46 (yl 45 s).1 = [a, b, c] := by
      match hq : yi 46 (yl 45 s).1, hn with
      | [a, b, c], _ => exact ⟨a, b, c, rfl⟩
    have hm : xS s = some ⟨zO a, zO b, zO c, cond (yl 45 s).2.2 (yi 46 (yl 45 s).2.1) []⟩ := by unfold xS; rw [hp]
    have hne := gT hm
    have hsm := (mr hm hl).1
    have hbk := xL 46 (yl 45 s).1
    rw [hp] at h2 hbk
    simp only [yk] at hbk
    have d1 := mU a (by omega)
    have d2 := mU b (by omega)
    have d3 := mU c (by omega)
    have hv := uE _ hsm
    rw [hm]
    have hs0 : (s == []) = false := by rw [beq_eq_false_iff_ne]; exact hne
    simp only [Ver.enc, List.map_cons, List.map_nil, xj, yf] at hv h2 ⊢
    generalize zO a = ra at *
    generalize zO b = rb at *
    generalize zO c = rc at *
    cases hh : (yl 45 s).2.2 <;> rw [hh] at h1 hv <;> simp only [cond_true, cond_false, yf] at hv ⊢
    · generalize yb ⟨ra, rb, rc, []⟩ = tt at *
      clear hm hsm
      cases he : (tt == s)
      · apply zu
        refine zw rfl Tryz.func99 rfl (by kernel_rfl) ?_
        unfold Tryz.f99
        simp (disch := ((try simp only [LL]); omega)) only [↓GO, ↓DRW, GA, ren, zB, zd, refs, zb, cst, zl, zH, z7, E.load, E.store, zG, isC, bin, zI, zJ, una, z8, za, zh, zK, blt, fnV, asArg, ze, zn, zo, zj, zi, zg, zk, zr, z6, zD, zF, E.mkS, zc, unN, zM, zm, zy, zC, zf, zN, zq, GS, simprocAttr, GZ, h1, h2, d1, d2, d3, hv, he, bne, hs0, Ver.zero, yf]
        refine yT (by kernel_rfl) ?_
        simp (disch := ((try simp only [LL]); omega)) only [↓GO, ↓DRW, GA, ren, zB, zd, refs, zb, cst, zl, zH, z7, E.load, E.store, zG, isC, bin, zI, zJ, una, z8, za, zh, zK, blt, fnV, asArg, ze, zn, zo, zj, zi, zg, zk, zr, z6, zD, zF, E.mkS, zc, unN, zM, zm, zy, zC, zf, zN, zq, GS, simprocAttr, GZ, h1, h2, d1, d2, d3, hv, he, bne, hs0, Ver.zero, yf]
      · apply zu
        refine zw rfl Tryz.func99 rfl (by kernel_rfl) ?_
        unfold Tryz.f99
        simp (disch := ((try simp only [LL]); omega)) only [↓GO, ↓DRW, GA, ren, zB, zd, refs, zb, cst, zl, zH, z7, E.load, E.store, zG, isC, bin, zI, zJ, una, z8, za, zh, zK, blt, fnV, asArg, ze, zn, zo, zj, zi, zg, zk, zr, z6, zD, zF, E.mkS, zc, unN, zM, zm, zy, zC, zf, zN, zq, GS, simprocAttr, GZ, h1, h2, d1, d2, d3, hv, he, bne, hs0, yf]
        refine yT (by kernel_rfl) ?_
        simp (disch := ((try simp only [LL]); omega)) only [↓GO, ↓DRW, GA, ren, zB, zd, refs, zb, cst, zl, zH, z7, E.load, E.store, zG, isC, bin, zI, zJ, una, z8, za, zh, zK, blt, fnV, asArg, ze, zn, zo, zj, zi, zg, zk, zr, z6, zD, zF, E.mkS, zc, unN, zM, zm, zy, zC, zf, zN, zq, GS, simprocAttr, GZ, h1, h2, d1, d2, d3, hv, he, bne, hs0, yf]
    · generalize yb ⟨ra, rb, rc, yi 46 (yl 45 s).2.1⟩ = tt at *
      clear hm hsm
      generalize yi 46 (yl 45 s).2.1 = pp at *
      cases he : (tt == s)
      · apply zu
        refine zw rfl Tryz.func99 rfl (by kernel_rfl) ?_
        unfold Tryz.f99
        simp (disch := ((try simp only [LL]); omega)) only [↓GO, ↓DRW, GA, ren, zB, zd, refs, zb, cst, zl, zH, z7, E.load, E.store, zG, isC, bin, zI, zJ, una, z8, za, zh, zK, blt, fnV, asArg, ze, zn, zo, zj, zi, zg, zk, zr, z6, zD, zF, E.mkS, zc, unN, zM, zm, zy, zC, zf, zN, zq, GS, simprocAttr, GZ, h1, h2, h3, d1, d2, d3, hv, he, bne, hs0, Ver.zero, yf]
        refine yT (by kernel_rfl) ?_
        simp (disch := ((try simp only [LL]); omega)) only [↓GO, ↓DRW, GA, ren, zB, zd, refs, zb, cst, zl, zH, z7, E.load, E.store, zG, isC, bin, zI, zJ, una, z8, za, zh, zK, blt, fnV, asArg, ze, zn, zo, zj, zi, zg, zk, zr, z6, zD, zF, E.mkS, zc, unN, zM, zm, zy, zC, zf, zN, zq, GS, simprocAttr, GZ, h1, h2, h3, d1, d2, d3, hv, he, bne, hs0, Ver.zero, yf]
      · apply zu
        refine zw rfl Tryz.func99 rfl (by kernel_rfl) ?_
        unfold Tryz.f99
        simp (disch := ((try simp only [LL]); omega)) only [↓GO, ↓DRW, GA, ren, zB, zd, refs, zb, cst, zl, zH, z7, E.load, E.store, zG, isC, bin, zI, zJ, una, z8, za, zh, zK, blt, fnV, asArg, ze, zn, zo, zj, zi, zg, zk, zr, z6, zD, zF, E.mkS, zc, unN, zM, zm, zy, zC, zf, zN, zq, GS, simprocAttr, GZ, h1, h2, h3, d1, d2, d3, hv, he, bne, hs0, yf]
        refine yT (by kernel_rfl) ?_
        simp (disch := ((try simp only [LL]); omega)) only [↓GO, ↓DRW, GA, ren, zB, zd, refs, zb, cst, zl, zH, z7, E.load, E.store, zG, isC, bin, zI, zJ, una, z8, za, zh, zK, blt, fnV, asArg, ze, zn, zo, zj, zi, zg, zk, zr, z6, zD, zF, E.mkS, zc, unN, zM, zm, zy, zC, zf, zN, zq, GS, simprocAttr, GZ, h1, h2, h3, d1, d2, d3, hv, he, bne, hs0, yf]
  · have hm := ny hn
    rw [hm]
    have hc : (((yi 46 (yl 45 s).1).length : Int) == 3) = false := by rw [beq_eq_false_iff_ne]; omega
    generalize yi 46 (yl 45 s).1 = parts at *
    apply zu
    refine zw rfl Tryz.func99 rfl (by kernel_rfl) ?_
    unfold Tryz.f99
    simp (disch := ((try simp only [LL]); omega)) only [↓GO, ↓DRW, GA, ren, zB, zd, refs, zb, cst, zl, zH, z7, E.load, E.store, zG, isC, bin, zI, zJ, una, z8, za, zh, zK, blt, fnV, asArg, ze, zn, zo, zj, zi, zg, zk, zr, z6, zD, zF, E.mkS, zc, unN, zM, zm, zy, zC, zf, zN, zq, GS, simprocAttr, GZ, h1, h2, hc, bne, zP, Ver.zero, Ver.enc, yf]
theorem l_at (s : Str) (b : UInt8) (hl : s.length ≤ 4194304) : ∀ (rest pre : Str), s = pre ++ rest →
    EV Tryz.prog pol (.loop 113 26 0 [.t (.str s), .t (.int .u8 (b.toNat : Int)), .t (.int .i64 (pre.length : Int))] []) = some (cond (yl b rest).2.2 (.loop .ret [.t (.int .i64 ((pre.length : Int) + ((yl b rest).1.length : Int)))] []) (.loop (.exit 0) [.bad] []))
  | [], pre, hs => by
    have c : decide ((pre.length : Int) < (s.length : Int)) = false := by simp [hs]
    refine zz Tryz.func113 rfl rfl ?_
    simp only [↓GO, ↓DRW, GA, ren, zB, zd, refs, zb, cst, zl, zH, z7, E.load, E.store, zG, isC, bin, zI, zJ, una, z8, za, zh, zK, blt, fnV, asArg, ze, zn, zo, zj, zi, zg, zk, zr, z6, zD, zF, E.mkS, zc, unN, zM, zm, zy, zC, zf, zN, zq, GS, simprocAttr, c, yl]
  | x :: rest, pre, hs => by
    have c : decide ((pre.length : Int) < (s.length : Int)) = true := by simp [hs]; omega
    have hget : s[pre.length]? = some x := by rw [hs]; exact tn pre x rest
    have hlen : s.length = pre.length + rest.length + 1 := by rw [hs]; simp; omega
    have IH := l_at s b hl rest (pre ++ [x]) (by rw [hs]; simp)
    rw [show ((pre ++ [x]).length : Int) = (pre.length : Int) + 1 by simp] at IH
    rw [yl]
    clear hs
    by_cases hx : x = b
    · subst hx
      rw [if_pos rfl]
      refine zz Tryz.func113 rfl rfl ?_
      simp (disch := ((try simp only [LL]); omega)) only [↓GO, ↓DRW, GA, ren, zB, zd, refs, zb, cst, zl, zH, z7, E.load, E.store, zG, isC, bin, zI, zJ, una, z8, za, zh, zK, blt, fnV, asArg, ze, zn, zo, zj, zi, zg, zk, zr, z6, zD, zF, E.mkS, zc, unN, zM, zm, zy, zC, zf, zN, zq, GS, simprocAttr, GZ, c, hget, zx, Int.natCast_zero, Int.add_zero]
    · have c2 : ((x.toNat : Int) == (b.toNat : Int)) = false := by
        rw [beq_eq_false_iff_ne]; intro e; exact hx (UInt8.toNat_inj.1 (by omega))
      rw [if_neg hx]
      rw [show (((x :: (yl b rest).1).length : Nat) : Int) = ((yl b rest).1.length : Int) + 1 by simp, show (pre.length : Int) + (((yl b rest).1.length : Int) + 1) = (pre.length : Int) + 1 + ((yl b rest).1.length : Int) by omega]
      refine zz Tryz.func113 rfl rfl ?_
      simp (disch := ((try simp only [LL]); omega)) only [↓GO, ↓DRW, GA, ren, zB, zd, refs, zb, cst, zl, zH, z7, E.load, E.store, zG, isC, bin, zI, zJ, una, z8, za, zh, zK, blt, fnV, asArg, ze, zn, zo, zj, zi, zg, zk, zr, z6, zD, zF, E.mkS, zc, unN, zM, zm, zy, zC, zf, zN, zq, GS, simprocAttr, GZ, c, hget, zx, c2, IH]
def atV (b : UInt8) (s : Str) : Int := cond (yl b s).2.2 ((yl b s).1.length : Int) (-1)
theorem c_at (s : Str) (b : UInt8) (hl : s.length ≤ 4194304) : zE (EV Tryz.prog pol) 113 [.t (.str s), .t (.int .u8 (b.toNat : Int))] = some (.t (.int .i64 (atV b s))) := by
  have IH := l_at s b hl s [] rfl
  simp only [List.length_nil, Int.natCast_zero, Int.zero_add] at IH
  unfold atV
  apply zu
  refine zw rfl Tryz.func113 rfl (by kernel_rfl) ?_
  unfold Tryz.f113
  cases h : (yl b s).2.2 <;> rw [h] at IH <;> simp only [cond_true, cond_false] at IH <;> simp (disch := ((try simp only [LL]); omega)) only [↓GO, ↓DRW, GA, ren, zB, zd, refs, zb, cst, zl, zH, z7, E.load, E.store, zG, isC, bin, zI, zJ, una, z8, za, zh, zK, blt, fnV, asArg, ze, zn, zo, zj, zi, zg, zk, zr, z6, zD, zF, E.mkS, zc, unN, zM, zm, zy, zC, zf, zN, zq, GS, simprocAttr, GZ, IH]
theorem oz (s : Str) (hl : s.length ≤ 1048700) : zE (EV Tryz.prog pol) 87 [.t (.str s)] = some (rvT s) := by
  have h1 := c_at s 45 (by omega)
  rw [show (((45 : UInt8)).toNat : Int) = 45 from rfl] at h1
  have hl1 := qt 45 s
  have h2 := mN (yl 45 s).1 46 (by omega)
  have h3 := mN (yl 45 s).2.1 46 (by omega)
  rw [show (((46 : UInt8)).toNat : Int) = 46 from rfl] at h2 h3
  have hce := sI 45 s
  unfold rvT zA
  unfold atV at h1
  have hA : (yl 45 s).2.2 = false → (yl 45 s).1 = s := fun h => by rw [h, cond_false, List.append_nil] at hce; exact hce.symm
  have hB : (yl 45 s).2.2 = true → s.take (yl 45 s).1.length = (yl 45 s).1 ∧ s.drop ((yl 45 s).1.length + 1) = (yl 45 s).2.1 ∧ (yl 45 s).1.length + 1 ≤ s.length := fun h => by
    rw [h, cond_true] at hce
    have e1 : s.take (yl 45 s).1.length = (yl 45 s).1 := by
      conv => lhs; arg 2; rw [hce]
      exact List.take_left
    have e2 : s.drop ((yl 45 s).1.length + 1) = (yl 45 s).2.1 := by
      conv => lhs; arg 2; rw [hce]
      rw [← List.drop_drop, List.drop_left]; rfl
    refine ⟨e1, e2, ?_⟩
    have := congrArg List.length hce
    rw [List.length_append, List.length_cons] at this
    omega
  clear hce
  by_cases hn : (yi 46 (yl 45 s).1).length = 3
  · obtain ⟨a, b, c, hp⟩ : ∃ a b c, yi 46 (yl 45 s).1 = [a, b, c] := by
      match hq : yi 46 (yl 45 s).1, hn with
      | [a, b, c], _ => exact ⟨a, b, c, rfl⟩
    have hm : xS s = some ⟨zO a, zO b, zO c, cond (yl 45 s).2.2 (yi 46 (yl 45 s).2.1) []⟩ := by unfold xS; rw [hp]
    have hsm := (mr hm hl).1
    have hbk := xL 46 (yl 45 s).1
    rw [hp] at h2 hbk
    simp only [yk] at hbk
    have d1 := ja a (by omega)
    have d2 := ja b (by omega)
    have d3 := ja c (by omega)
    have hv := ei _ hsm
    rw [hm]
    simp only [Ver.enc, List.map_cons, List.map_nil, xj, yf] at hv h2 ⊢
    generalize zO a = ra at *
    generalize zO b = rb at *
    generalize zO c = rc at *
    cases hh : (yl 45 s).2.2 <;> rw [hh] at h1 hv <;> simp only [cond_true, cond_false, yf] at hv h1 ⊢
    · have hA' := hA hh
      rw [hA'] at h2
      generalize yb ⟨ra, rb, rc, []⟩ = tt at *
      clear hm hsm hA hB hp
      cases he : (tt == s)
      · apply zu
        refine zw rfl Tryz.func87 rfl (by kernel_rfl) ?_
        unfold Tryz.f87
        simp (disch := ((try simp only [LL]); omega)) only [↓GO, ↓DRW, GA, ren, zB, zd, refs, zb, cst, zl, zH, z7, E.load, E.store, zG, isC, bin, zI, zJ, una, z8, za, zh, zK, blt, fnV, asArg, ze, zn, zo, zj, zi, zg, zk, zr, z6, zD, zF, E.mkS, zc, unN, zM, zm, zy, zC, zf, zN, zq, GS, simprocAttr, GZ, h1, h2, d1, d2, d3, hv, he, bne, ge_iff_le, Ver.zero, yf]
      · apply zu
        refine zw rfl Tryz.func87 rfl (by kernel_rfl) ?_
        unfold Tryz.f87
        simp (disch := ((try simp only [LL]); omega)) only [↓GO, ↓DRW, GA, ren, zB, zd, refs, zb, cst, zl, zH, z7, E.load, E.store, zG, isC, bin, zI, zJ, una, z8, za, zh, zK, blt, fnV, asArg, ze, zn, zo, zj, zi, zg, zk, zr, z6, zD, zF, E.mkS, zc, unN, zM, zm, zy, zC, zf, zN, zq, GS, simprocAttr, GZ, h1, h2, d1, d2, d3, hv, he, bne, ge_iff_le, yf]
    · obtain ⟨b1, b2, b3⟩ := hB hh
      generalize yb ⟨ra, rb, rc, yi 46 (yl 45 s).2.1⟩ = tt at *
      clear hm hsm hA hB hp
      generalize yi 46 (yl 45 s).2.1 = pp at *
      have g0 : decide ((0 : Int) ≤ ((yl 45 s).1.length : Int)) = true := by simp
      generalize (yl 45 s).2.1 = tl at *
      generalize (yl 45 s).1 = hd at *
      cases he : (tt == s)
      · apply zu
        refine zw rfl Tryz.func87 rfl (by kernel_rfl) ?_
        unfold Tryz.f87
        simp (disch := ((try simp only [LL]); omega)) only [↓GO, ↓DRW, GA, ren, zB, zd, refs, zb, cst, zl, zH, z7, E.load, E.store, zG, isC, bin, zI, zJ, una, z8, za, zh, zK, blt, fnV, asArg, ze, zn, zo, zj, zi, zg, zk, zr, z6, zD, zF, E.mkS, zc, unN, zM, zm, zy, zC, zf, zN, zq, GS, simprocAttr, GZ, h1, h2, h3, d1, d2, d3, hv, he, bne, ge_iff_le, g0, b1, b2, zx, Ver.zero, yf]
      · apply zu
        refine zw rfl Tryz.func87 rfl (by kernel_rfl) ?_
        unfold Tryz.f87
        simp (disch := ((try simp only [LL]); omega)) only [↓GO, ↓DRW, GA, ren, zB, zd, refs, zb, cst, zl, zH, z7, E.load, E.store, zG, isC, bin, zI, zJ, una, z8, za, zh, zK, blt, fnV, asArg, ze, zn, zo, zj, zi, zg, zk, zr, z6, zD, zF, E.mkS, zc, unN, zM, zm, zy, zC, zf, zN, zq, GS, simprocAttr, GZ, h1, h2, h3, d1, d2, d3, hv, he, bne, ge_iff_le, g0, b1, b2, zx]
  · have hm := ny hn
    rw [hm]
    have hc : (((yi 46 (yl 45 s).1).length : Int) == 3) = false := by rw [beq_eq_false_iff_ne]; omega
    cases hh : (yl 45 s).2.2 <;> rw [hh] at h1 <;> simp only [cond_true, cond_false] at h1
    · have hA' := hA hh
      rw [hA'] at h2 hc
      generalize yi 46 s = parts at *
      apply zu
      refine zw rfl Tryz.func87 rfl (by kernel_rfl) ?_
      unfold Tryz.f87
      simp (disch := ((try simp only [LL]); omega)) only [↓GO, ↓DRW, GA, ren, zB, zd, refs, zb, cst, zl, zH, z7, E.load, E.store, zG, isC, bin, zI, zJ, una, z8, za, zh, zK, blt, fnV, asArg, ze, zn, zo, zj, zi, zg, zk, zr, z6, zD, zF, E.mkS, zc, unN, zM, zm, zy, zC, zf, zN, zq, GS, simprocAttr, GZ, h1, h2, hc, bne, ge_iff_le, zP, Ver.zero, Ver.enc, yf]
    · obtain ⟨b1, b2, b3⟩ := hB hh
      have g0 : decide ((0 : Int) ≤ ((yl 45 s).1.length : Int)) = true := by simp
      generalize yi 46 (yl 45 s).1 = parts at *
      generalize yi 46 (yl 45 s).2.1 = pp at *
      generalize (yl 45 s).2.1 = tl at *
      generalize (yl 45 s).1 = hd at *
      apply zu
      refine zw rfl Tryz.func87 rfl (by kernel_rfl) ?_
      unfold Tryz.f87
      simp (disch := ((try simp only [LL]); omega)) only [↓GO, ↓DRW, GA, ren, zB, zd, refs, zb, cst, zl, zH, z7, E.load, E.store, zG, isC, bin, zI, zJ, una, z8, za, zh, zK, blt, fnV, asArg, ze, zn, zo, zj, zi, zg, zk, zr, z6, zD, zF, E.mkS, zc, unN, zM, zm, zy, zC, zf, zN, zq, GS, simprocAttr, GZ, h1, h2, h3, hc, bne, ge_iff_le, g0, b1, b2, zx, zP, Ver.zero, Ver.enc, yf]
end Go.Proofs.YtmcephnfcciloaaGreatDoor
/- The range of a version alone, by both. Conditions: those of each lemma. -/
namespace Go.Proofs.YtmcephnfcciloaaGreatDoor
open E
set_option linter.unusedSimpArgs false
set_option linter.unusedVariables false
set_option maxRecDepth 100000
theorem cV (a b c : Int) : Ver.sm ⟨a, b, c, [[48]]⟩ := by simp [Ver.sm, yk]
theorem mT (a b c : Int) : zE (EV Tryz.prog pol) 131 [.t (.int .i64 a), .t (.int .i64 b), .t (.int .i64 c)] = some (.t (.str (ye a b c))) := by
  have h := uE ⟨a, b, c, [[48]]⟩ (cV a b c)
  simp only [Ver.enc, List.map_cons, List.map_nil, xj, yf] at h
  unfold ye
  apply zu
  refine zw rfl Tryz.func131 rfl (by kernel_rfl) ?_
  unfold Tryz.f131
  simp (disch := ((try simp only [LL]); omega)) only [↓GO, ↓DRW, GA, ren, zB, zd, refs, zb, cst, zl, zH, z7, E.load, E.store, zG, isC, bin, zI, zJ, una, z8, za, zh, zK, blt, fnV, asArg, ze, zn, zo, zj, zi, zg, zk, zr, z6, zD, zF, E.mkS, zc, unN, zM, zm, zy, zC, zf, zN, zq, GS, simprocAttr, GZ, h]
theorem aG (v : Ver) (hs : v.sm) (hp : v.pre.length + yk v.pre ≤ 2097150) (h0 : -1 ≤ v.pat) (h1 : v.pat ≤ 999999999) : zE (EV Tryz.prog pol) 124 [.agg (v.enc.map .t)] = some (.agg [.t (.str (yb v)), .t (.str (uJ v))]) := by
  have a1 := mT v.maj v.min (v.pat + 1)
  have a2 := uE v hs
  have hpv : (se v).sm := by
    unfold Ver.sm se
    simp only [List.length_append, List.length_cons, List.length_nil, mG, yk]; omega
  have a3 := uE (se v) hpv
  unfold Ver.sm at hs
  have a4 := XB (y6 v.pre) (by rw [zP]; omega)
  have ht : List.take (v.pre.length + 1) (y6 v.pre ++ [[T.str [48]]]) = y6 v.pre ++ [[T.str [48]]] := List.take_of_length_le (by simp [zP])
  have hg := jQ v.pre
  unfold uJ
  rw [show (se v).enc = [.int .i64 v.maj, .int .i64 v.min, .int .i64 v.pat, .list 1 (y6 v.pre ++ [[.str [48]]])] by unfold Ver.enc se; rw [uw]; rfl] at a3
  simp only [Ver.enc, List.map_cons, List.map_nil] at a2 a3 ⊢
  rw [zP] at a4
  generalize yb (se v) = tp at *
  generalize yb v = tv at *
  generalize ye v.maj v.min (v.pat + 1) = tz at *
  cases hb : (v.pre == []) <;> rw [hb] at hg <;> simp only [Bool.not_true, Bool.not_false] at hg
  · apply zu
    refine zw rfl Tryz.func124 rfl (by kernel_rfl) ?_
    unfold Tryz.f124
    simp (disch := ((try simp only [LL]); omega)) only [↓GO, ↓DRW, GA, ren, zB, zd, refs, zb, cst, zl, zH, z7, E.load, E.store, zG, isC, bin, zI, zJ, una, z8, za, zh, zK, blt, fnV, asArg, ze, zn, zo, zj, zi, zg, zk, zr, z6, zD, zF, E.mkS, zc, unN, zM, zm, zy, zC, zf, zN, zq, GS, simprocAttr, GZ, a1, a2, a3, a4, ht, hg, zx, zP, wh, zY]
  · apply zu
    refine zw rfl Tryz.func124 rfl (by kernel_rfl) ?_
    unfold Tryz.f124
    simp (disch := ((try simp only [LL]); omega)) only [↓GO, ↓DRW, GA, ren, zB, zd, refs, zb, cst, zl, zH, z7, E.load, E.store, zG, isC, bin, zI, zJ, una, z8, za, zh, zK, blt, fnV, asArg, ze, zn, zo, zj, zi, zg, zk, zr, z6, zD, zF, E.mkS, zc, unN, zM, zm, zy, zC, zf, zN, zq, GS, simprocAttr, GZ, a1, a2, a3, a4, ht, hg, zx, zP, wh, zY]
def exT (s : Str) : List (List T) := match x6 s with
  | some (l, h) => [[.str l, .str h]]
  | none => []
theorem pI (s : Str) (hl : s.length ≤ 1048700) : (zA s).1.pre.length + yk (zA s).1.pre ≤ 1048701 := by
  unfold zA
  cases hm : xS s with
  | none => simp [Ver.zero, yk]
  | some v =>
    have h : v.pre.length + yk v.pre ≤ 1048701 := by
      unfold xS at hm
      split at hm
      · cases hm
        have := xL 46 (yl 45 s).2.1
        have h5 := (qt 45 s).2
        cases (yl 45 s).2.2 with
        | true => simp only [cond_true]; omega
        | false => simp [yk]
      · cases hm
    simp only
    cases (yb v == s) with
    | true => exact h
    | false => simp [Ver.zero, yk]
theorem c_exI (s : Str) (hl : s.length ≤ 1048700) : zE (EV Tryz.prog pol) 92 [.t (.str s)] = some (.t (.list 2 (exT s))) := by
  have h1 := oA s hl
  obtain ⟨m1, m2, m3, m4, m5, m6, m7⟩ := yW s hl
  have hp := pI s hl
  have h2 := aG (zA s).1 m1 (by omega) m7 m6
  unfold exT x6
  unfold rvT at h1
  cases hk : (zA s).2 with
  | false =>
    rw [hk] at h1
    generalize (zA s).1 = v at *
    generalize yb v = tv at *
    generalize uJ v = hv at *
    simp only [Ver.enc, List.map_cons, List.map_nil] at h1 h2 ⊢
    apply zu
    refine zw rfl Tryz.func92 rfl (by kernel_rfl) ?_
    unfold Tryz.f92
    simp (disch := ((try simp only [LL]); omega)) only [↓GO, ↓DRW, GA, ren, zB, zd, refs, zb, cst, zl, zH, z7, E.load, E.store, zG, isC, bin, zI, zJ, una, z8, za, zh, zK, blt, fnV, asArg, ze, zn, zo, zj, zi, zg, zk, zr, z6, zD, zF, E.mkS, zc, unN, zM, zm, zy, zC, zf, zN, zq, GS, simprocAttr, GZ, h1, h2]
  | true =>
    have ht := (yu hk).2.1
    rw [ht] at h2
    rw [hk] at h1
    generalize (zA s).1 = v at *
    generalize uJ v = hv at *
    simp only [Ver.enc, List.map_cons, List.map_nil] at h1 h2 ⊢
    cases he : (hv == [])
    · apply zu
      refine zw rfl Tryz.func92 rfl (by kernel_rfl) ?_
      unfold Tryz.f92
      simp (disch := ((try simp only [LL]); omega)) only [↓GO, ↓DRW, GA, ren, zB, zd, refs, zb, cst, zl, zH, z7, E.load, E.store, zG, isC, bin, zI, zJ, una, z8, za, zh, zK, blt, fnV, asArg, ze, zn, zo, zj, zi, zg, zk, zr, z6, zD, zF, E.mkS, zc, unN, zM, zm, zy, zC, zf, zN, zq, GS, simprocAttr, GZ, h1, h2, he]
    · apply zu
      refine zw rfl Tryz.func92 rfl (by kernel_rfl) ?_
      unfold Tryz.f92
      simp (disch := ((try simp only [LL]); omega)) only [↓GO, ↓DRW, GA, ren, zB, zd, refs, zb, cst, zl, zH, z7, E.load, E.store, zG, isC, bin, zI, zJ, una, z8, za, zh, zK, blt, fnV, asArg, ze, zn, zo, zj, zi, zg, zk, zr, z6, zD, zF, E.mkS, zc, unN, zM, zm, zy, zC, zf, zN, zq, GS, simprocAttr, GZ, h1, h2, he]
end Go.Proofs.YtmcephnfcciloaaGreatDoor

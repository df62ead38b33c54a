/- Joined: V2 N0 N2 K1 K2. Conditions: those of each lemma. -/
import Derived.Test.YtkpmachalipmpaaGreatDoorUE
import Derived.Test.YtkpmachalipmpaaGreatDoorUF
import Derived.Lib.Join
import Derived.Lib.ItoaMem
set_option linter.unusedVariables false
set_option linter.unusedSimpArgs false
namespace Go.Proofs.YtkpmachalipmpaaGreatDoor
open E
set_option linter.unusedVariables false
set_option linter.unusedSimpArgs false
set_option maxRecDepth 100000
theorem lss_cons (a b : UInt8) (x y : Str) : Op.bytesLess (a :: x) (b :: y) = (decide (a < b) || (a == b && Op.bytesLess x y)) := by
  rw [Op.bytesLess]
/-- '<=' on texts, said by '<' -/
theorem lss_leq : ∀ x y : Str, (Op.bytesLess x y || x == y) = !(Op.bytesLess y x)
  | [], [] => rfl
  | [], b :: y => by simp [Op.bytesLess]
  | a :: x, [] => by simp [Op.bytesLess]
  | a :: x, b :: y => by
    have ih := lss_leq x y
    rw [lss_cons, lss_cons]
    by_cases h1 : a < b
    · have h2 : ¬ b < a := by simp only [UInt8.lt_iff_toNat_lt] at h1 ⊢; omega
      have h3 : (b == a) = false := by
        rw [beq_eq_false_iff_ne]; intro h; subst h; simp only [UInt8.lt_iff_toNat_lt] at h1; omega
      simp [h1, h2, h3]
    · by_cases h2 : b < a
      · have h3 : (a == b) = false := by
          rw [beq_eq_false_iff_ne]; intro h; subst h; simp only [UInt8.lt_iff_toNat_lt] at h2; omega
        have h4 : ((a :: x) == (b :: y)) = false := by
          rw [beq_eq_false_iff_ne]; intro h; cases h; simp at h3
        simp [h1, h2, h3, h4]
      · have h3 : a = b := by
          apply UInt8.toNat_inj.1; simp only [UInt8.lt_iff_toNat_lt] at h1 h2; omega
        subst h3
        have e : ((a :: x) == (a :: y)) = (x == y) := by
          rw [Bool.eq_iff_iff]; simp
        simp only [h1, decide_false, Bool.false_or, beq_self_eq_true, Bool.true_and, e, ih]
/-! ### Sizes of parts -/
theorem bulk_cutS (b : UInt8) : ∀ s : Str, bulkS (cutS b s) + (cutS b s).length ≤ s.length + 1
  | [] => by simp [cutS, bulkS]
  | x :: s => by
    have ih := bulk_cutS b s
    by_cases h : x = b
    · subst h; rw [cutS_hit]; simp only [bulkS, List.length_cons, List.length_nil]; omega
    · cases hc : cutS b s with
      | nil => exact absurd hc (cutS_ne b s)
      | cons p r =>
        rw [hc] at ih
        rw [cutS_miss b x s p r h hc]
        simp only [bulkS, List.length_cons] at ih ⊢; omega
theorem cut1_len (b : UInt8) (s : Str) : (cut1 b s).1.length ≤ s.length ∧ (cut1 b s).2.1.length ≤ s.length := by
  have h := cut1_eq b s
  have h2 := congrArg List.length h
  rw [List.length_append] at h2
  cases hc : (cut1 b s).2.2 with
  | true => rw [hc] at h2; simp only [cond_true, List.length_cons] at h2; omega
  | false =>
    have := cut1_false b s hc
    rw [this]; simp only [List.length_nil]; omega
theorem bulk_mem : ∀ {ks : List Str} {s : Str}, s ∈ ks → s.length ≤ bulkS ks
  | k :: ks, s, h => by
    simp only [bulkS]
    rcases List.mem_cons.1 h with rfl | h
    · omega
    · have := bulk_mem h; omega
theorem bulk_app : ∀ a b : List Str, bulkS (a ++ b) = bulkS a + bulkS b
  | [], b => by simp [bulkS]
  | x :: a, b => by simp only [List.cons_append, bulkS, bulk_app a b]; omega
theorem lens_bulk : ∀ l : List Str, Lib.lens l = bulkS l
  | [] => rfl
  | x :: l => by
    have := lens_bulk l
    simp only [bulkS, ← this]; simp [Lib.lens]
theorem join_le (sep : Str) : ∀ l : List Str, (Lib.join l sep).length ≤ bulkS l + sep.length * l.length
  | [] => by simp [Lib.join_nil]
  | x :: r => by rw [Lib.join_length, lens_bulk]; simp only [List.length_cons, Nat.mul_add, Nat.mul_one]; omega
theorem join_snoc1 (sep : Str) (x : Str) (l : List Str) (y : Str) : Lib.join (x :: l ++ [y]) sep = Lib.join (x :: l) sep ++ (sep ++ y) := by
  rw [List.cons_append, Lib.join_cons, Lib.join_cons]; simp [Lib.joinTail]
/-! ### Versions -/
structure Ver where
  maj : Int
  min : Int
  pat : Int
  pre : List Str
def Ver.enc (v : Ver) : List T := [.int .i64 v.maj, .int .i64 v.min, .int .i64 v.pat, .list 1 (strs v.pre)]
def Ver.zero : Ver := ⟨0, 0, 0, []⟩
def preB (b : UInt8) : Bool := (B2 (nb b) 97 122 || B2 (nb b) 48 57) || (B2 (nb b) 65 90 || nb b == 45)
def isNum (s : Str) : Bool := !(s == []) && s.all isD
def preOk (p : Str) : Bool := B2 (p.length : Int) 1 20 && (p.all preB && (!(isNum p) || decide (0 ≤ readDec p)))
def n9 (n : Int) : Bool := B2 n 0 999999999
def verOk (v : Ver) : Bool := (n9 v.maj && (n9 v.min && n9 v.pat)) && (v.pre.all preOk && decide ((v.pre.length : Int) ≤ 5))
def coreV (v : Ver) : Str := (((Lib.itoa v.maj ++ [46]) ++ Lib.itoa v.min) ++ [46]) ++ Lib.itoa v.pat
def tailV (c : Str) (pre : List Str) : Str := cond (pre == []) c (c ++ ([45] ++ Lib.join pre [46]))
def verText (v : Ver) : Str := cond (verOk v) (tailV (coreV v) v.pre) []
def mkVer (s : Str) : Option Ver :=
  match cutS 46 (cut1 45 s).1 with
  | [a, b, c] => some ⟨readDec a, readDec b, readDec c, cond (cut1 45 s).2.2 (cutS 46 (cut1 45 s).2.1) []⟩
  | _ => none
def readVer (s : Str) : Ver × Bool :=
  match mkVer s with
  | some v => cond (verText v == s) (v, true) (Ver.zero, false)
  | none => (Ver.zero, false)
theorem mkVer_ne {s : Str} {v : Ver} (h : mkVer s = some v) : s ≠ [] := by
  intro e; subst e; simp [mkVer, cut1, cutS] at h
theorem readVer_true {s : Str} (h : (readVer s).2 = true) : mkVer s = some (readVer s).1 ∧ verText (readVer s).1 = s ∧ verOk (readVer s).1 = true ∧ s ≠ [] := by
  unfold readVer at h ⊢
  cases hm : mkVer s with
  | none => rw [hm] at h; cases h
  | some v =>
    rw [hm] at h
    simp only at h ⊢
    have hs := mkVer_ne hm
    cases hc : (verText v == s) with
    | false => rw [hc] at h; cases h
    | true =>
      have he := eq_of_beq hc
      simp only [cond_true]
      refine ⟨trivial, he, ?_, hs⟩
      cases hv : verOk v with
      | true => rfl
      | false => unfold verText at he; rw [hv] at he; exact absurd he.symm hs
theorem readVer_false {s : Str} (h : (readVer s).2 = false) : (readVer s).1 = Ver.zero := by
  unfold readVer at h ⊢
  cases hm : mkVer s with
  | none => rfl
  | some v =>
    rw [hm] at h
    simp only at h ⊢
    cases hc : (verText v == s) with
    | true => rw [hc] at h; cases h
    | false => rfl
theorem n9_iff (n : Int) : n9 n = true ↔ 0 ≤ n ∧ n ≤ 999999999 := by simp [n9]
theorem verOk_num {v : Ver} (h : verOk v = true) : (0 ≤ v.maj ∧ v.maj ≤ 999999999) ∧ (0 ≤ v.min ∧ v.min ≤ 999999999) ∧ (0 ≤ v.pat ∧ v.pat ≤ 999999999) ∧ v.pre.all preOk = true ∧ v.pre.length ≤ 5 := by
  unfold verOk at h
  simp only [Bool.and_eq_true, n9_iff, decide_eq_true_eq] at h
  obtain ⟨⟨h1, h2, h3⟩, h4, h5⟩ := h
  exact ⟨h1, h2, h3, h4, by omega⟩
theorem readDec_rng (s : Str) : -1 ≤ readDec s ∧ readDec s ≤ 999999999 := by
  unfold readDec
  split
  · rename_i v _
    cases hc : ((decide (0 ≤ v) && decide (v ≤ 999999999)) && (Lib.itoa v == s)) with
    | false => simp
    | true =>
      simp only [Bool.and_eq_true, decide_eq_true_eq] at hc
      simp only [cond_true]; omega
  · simp
/-- with one number more behind -/
def preV (v : Ver) : Ver := ⟨v.maj, v.min, v.pat, v.pre ++ [[48]]⟩
theorem tail_more (c : Str) (x : Str) (l : List Str) : tailV c ((x :: l) ++ [[48]]) = tailV c (x :: l) ++ [46, 48] := by
  unfold tailV
  rw [join_snoc1]
  simp
theorem beq_nil_cons {α : Type} [BEq α] (x : α) (l : List α) : ((x :: l) == []) = false := rfl
/-- a version's text with '.0' behind is read as the version with one part more, where that is right -/
theorem read_more {s : Str} (h : (readVer s).2 = true) (hp : (readVer s).1.pre ≠ []) :
    readVer (s ++ [46, 48]) = cond (verOk (preV (readVer s).1)) (preV (readVer s).1, true) (Ver.zero, false) ∧ verText (preV (readVer s).1) = cond (verOk (preV (readVer s).1)) (s ++ [46, 48]) [] := by
  obtain ⟨hm, ht, ho, hs⟩ := readVer_true h
  generalize (readVer s).1 = v at *
  have hmk : mkVer (s ++ [46, 48]) = some (preV v) := by
    unfold mkVer at hm ⊢
    have he := cut1_eq 45 s
    have hn := cut1_not 45 s
    cases hc : (cut1 45 s).2.2 with
    | false =>
      rw [hc] at hm
      split at hm
      · cases hm; exact absurd rfl hp
      · cases hm
    | true =>
      rw [hc] at hm he
      simp only [cond_true] at he
      have h2 : cut1 45 (s ++ [46, 48]) = ((cut1 45 s).1, (cut1 45 s).2.1 ++ [46, 48], true) := by
        conv => lhs; rw [he]
        rw [List.append_assoc, List.cons_append]
        exact cut1_app 45 _ _ hn
      rw [h2]
      simp only
      split at hm
      · cases hm
        simp only [cond_true]
        rw [show (cut1 45 s).2.1 ++ [46, 48] = (cut1 45 s).2.1 ++ 46 :: [48] from rfl, cutS_app]
        rfl
      · cases hm
  have htx : verText (preV v) = cond (verOk (preV v)) (s ++ [46, 48]) [] := by
    have ht' := ht
    unfold verText at ht' ⊢
    rw [ho] at ht'
    simp only [cond_true] at ht'
    congr 1
    rw [← ht']
    cases hv : v.pre with
    | nil => exact absurd hv hp
    | cons x l =>
      show tailV (coreV v) (v.pre ++ [[48]]) = _
      rw [hv]
      exact tail_more _ x l
  refine ⟨?_, htx⟩
  unfold readVer
  rw [hmk]
  simp only
  rw [htx]
  cases hk : verOk (preV v) with
  | true => simp
  | false =>
    simp only [cond_false]
    have : (([] : Str) == s ++ [46, 48]) = false := by rw [beq_eq_false_iff_ne]; intro e; have := congrArg List.length e; simp at this
    rw [this]; rfl
/-- the text that a version ends ahead of, where it stands alone -/
def zeroPre (a b c : Int) : Str := verText ⟨a, b, c, [[48]]⟩
def highV (v : Ver) : Str := cond (v.pre == []) (zeroPre v.maj v.min (v.pat + 1)) (verText (preV v))
def exactB (s : Str) : Option (Str × Str) := cond ((readVer s).2 && !(highV (readVer s).1 == [])) (some (s, highV (readVer s).1)) none
/-! ### the next version -/
def upV (v : Ver) (part : Int) : Ver := cond (part == 0) ⟨v.maj + 1, 0, 0, []⟩ (cond (part == 1) ⟨v.maj, v.min + 1, 0, []⟩ ⟨v.maj, v.min, cond (v.pre == []) (v.pat + 1) v.pat, []⟩)
def nextV (v : Ver) (part : Int) : Ver := cond (!(verOk v) || !(B2 part 0 2)) v (cond (verOk (upV v part)) (upV v part) v)
def cmpI (a b : Int) : Int := cond (decide (a < b)) (-1) (cond (decide (a > b)) 1 0)
def cmpS (a b : Str) : Int := cond (Op.bytesLess a b) (-1) (cond (!(Op.bytesLess a b || a == b)) 1 0)
def cmpP (a b : Str) : Int := cond (decide (readDec a ≥ 0) && decide (readDec b ≥ 0)) (cmpI (readDec a) (readDec b)) (cond (decide (readDec a ≥ 0)) (-1) (cond (decide (readDec b ≥ 0)) 1 (cmpS a b)))
/-- the first place at which parts differ -/
def scanP : List Str → List Str → Option Int
  | a :: l, b :: m => cond (cmpP a b == 0) (scanP l m) (some (cmpP a b))
  | _, _ => none
def cmpPs (a b : List Str) : Int := (scanP a b).getD (cmpI (a.length : Int) (b.length : Int))
def cmpV (a b : Ver) : Int :=
  cond (cmpI a.maj b.maj == 0) (cond (cmpI a.min b.min == 0) (cond (cmpI a.pat b.pat == 0)
    (cond (a.pre == [] || b.pre == []) (cmpI (b.pre.length : Int) (a.pre.length : Int)) (cmpPs a.pre b.pre))
    (cmpI a.pat b.pat)) (cmpI a.min b.min)) (cmpI a.maj b.maj)
theorem cmpI_zero (a b : Int) : (cmpI a b == 0) = (a == b) := by
  unfold cmpI
  by_cases h1 : a < b
  · simp [h1]; omega
  · by_cases h2 : a > b
    · simp [h1, h2]; omega
    · simp [h1, h2]; omega
theorem cmpV_num (a b c a' b' c' : Int) : (cmpV ⟨a, b, c, []⟩ ⟨a', b', c', []⟩ == 0) = (a == a' && (b == b' && c == c')) := by
  unfold cmpV
  simp only [cmpI_zero]
  cases h1 : (a == a') with
  | false => simp only [cond_false]; rw [cmpI_zero, h1]; rfl
  | true =>
    cases h2 : (b == b') with
    | false => simp only [cond_true, cond_false]; rw [cmpI_zero, h2]; rfl
    | true =>
      cases h3 : (c == c') with
      | false => simp only [cond_true, cond_false]; rw [cmpI_zero, h3]; rfl
      | true => rfl
def bareV (v : Ver) : Ver := ⟨v.maj, v.min, v.pat, []⟩
def belowV (v : Ver) (part : Int) : Str × Bool := cond (cmpV (nextV (bareV v) part) (bareV v) == 0) ([], false) (verText ⟨(nextV (bareV v) part).maj, (nextV (bareV v) part).min, (nextV (bareV v) part).pat, [[48]]⟩, true)
theorem pre0_ok : preOk [48] = true := by
  unfold preOk
  have h1 : ([48] : Str).all preB = true := by decide
  have h2 : decide (0 ≤ readDec [48]) = true := by
    have := (read_some (u := 0) (by omega)).1
    rw [show Lib.decDigits 0 = [48] by rw [Lib.decDigits_one (by omega)]; rfl] at this
    rw [this]; rfl
  rw [h1, h2]; simp
theorem verOk_bare (v : Ver) : verOk (bareV v) = (n9 v.maj && (n9 v.min && n9 v.pat)) := by simp [verOk, bareV]
theorem verOk_zero (a b c : Int) : verOk ⟨a, b, c, [[48]]⟩ = (n9 a && (n9 b && n9 c)) := by simp [verOk, pre0_ok]
theorem zeroPre_ne (a b c : Int) : (zeroPre a b c == []) = !(n9 a && (n9 b && n9 c)) := by
  unfold zeroPre verText
  rw [verOk_zero]
  cases (n9 a && (n9 b && n9 c)) with
  | false => rfl
  | true => simp [tailV, coreV]
/-- the next one of a part is told by both in one way -/
theorem below_eq {v : Ver} (ho : verOk v = true) (part : Int) (hp : part = 0 ∨ part = 1 ∨ part = 2) :
    belowV v part = (let h := zeroPre (cond (part == 0) (v.maj + 1) v.maj) (cond (part == 0) 0 (cond (part == 1) (v.min + 1) v.min)) (cond (part == 2) (v.pat + 1) 0); (h, !(h == []))) := by
  obtain ⟨h1, h2, h3, _, _⟩ := verOk_num ho
  have hb : verOk (bareV v) = true := by
    rw [verOk_bare]; simp only [Bool.and_eq_true, n9_iff]; exact ⟨h1, h2, h3⟩
  have n1 : n9 v.maj = true := (n9_iff _).2 h1
  have n2 : n9 v.min = true := (n9_iff _).2 h2
  have n3 : n9 v.pat = true := (n9_iff _).2 h3
  have n0 : n9 0 = true := by decide
  unfold belowV nextV
  rw [hb]
  rcases hp with rfl | rfl | rfl
  · have e : upV (bareV v) 0 = ⟨v.maj + 1, 0, 0, []⟩ := rfl
    rw [e]
    simp only [Bool.not_true, Bool.false_or, show B2 0 0 2 = true from rfl, cond_false]
    rw [show verOk ⟨v.maj + 1, 0, 0, []⟩ = n9 (v.maj + 1) by simp [verOk, n0]]
    simp only [show ((0 : Int) == 0) = true from rfl, cond_true, show ((0 : Int) == 2) = false from rfl, cond_false]
    rw [zeroPre_ne, n0]
    cases hn : n9 (v.maj + 1) with
    | true =>
      have : (v.maj + 1 == v.maj) = false := by rw [beq_eq_false_iff_ne]; omega
      simp only [cond_true, bareV, cmpV_num, this]
      simp [zeroPre]
    | false =>
      simp [cmpV_num, zeroPre, verText, verOk_zero, hn, bareV]
  · have e : upV (bareV v) 1 = ⟨v.maj, v.min + 1, 0, []⟩ := rfl
    rw [e]
    simp only [Bool.not_true, Bool.false_or, show B2 1 0 2 = true from rfl, cond_false]
    rw [show verOk ⟨v.maj, v.min + 1, 0, []⟩ = n9 (v.min + 1) by simp [verOk, n0, n1]]
    simp only [show ((1 : Int) == 0) = false from rfl, show ((1 : Int) == 1) = true from rfl, cond_true, show ((1 : Int) == 2) = false from rfl, cond_false]
    rw [zeroPre_ne, n0, n1]
    cases hn : n9 (v.min + 1) with
    | true =>
      have : (v.min + 1 == v.min) = false := by rw [beq_eq_false_iff_ne]; omega
      simp only [cond_true, bareV, cmpV_num, this]
      simp [zeroPre]
    | false =>
      simp [cmpV_num, zeroPre, verText, verOk_zero, hn, bareV]
  · have e : upV (bareV v) 2 = ⟨v.maj, v.min, v.pat + 1, []⟩ := rfl
    rw [e]
    simp only [Bool.not_true, Bool.false_or, show B2 2 0 2 = true from rfl, cond_false]
    rw [show verOk ⟨v.maj, v.min, v.pat + 1, []⟩ = n9 (v.pat + 1) by simp [verOk, n1, n2]]
    simp only [show ((2 : Int) == 0) = false from rfl, show ((2 : Int) == 1) = false from rfl, cond_true, show ((2 : Int) == 2) = true from rfl, cond_false]
    rw [zeroPre_ne, n1, n2]
    cases hn : n9 (v.pat + 1) with
    | true =>
      have : (v.pat + 1 == v.pat) = false := by rw [beq_eq_false_iff_ne]; omega
      simp only [cond_true, bareV, cmpV_num, this]
      simp [zeroPre]
    | false =>
      simp [cmpV_num, zeroPre, verText, verOk_zero, hn, bareV]
end Go.Proofs.YtkpmachalipmpaaGreatDoor
/- Numbers' texts, by both. Conditions: those of each lemma. -/
namespace Go.Proofs.YtkpmachalipmpaaGreatDoor
open E
set_option linter.unusedSimpArgs false
set_option linter.unusedVariables false
set_option maxRecDepth 100000
theorem nDigits_le : ∀ (k u : Nat), 1 ≤ k → u < 10 ^ k → Lib.nDigits u ≤ k
  | 0, u, h, _ => by omega
  | k + 1, u, _, h => by
    rw [Lib.nDigits]
    split
    · omega
    · have h10 : u / 10 < 10 ^ k := by rw [Nat.pow_succ] at h; omega
      have hk : 1 ≤ k := by
        rcases Nat.eq_zero_or_pos k with rfl | h
        · simp at h10; omega
        · exact h
      have := nDigits_le k (u / 10) hk h10
      omega
theorem itoa_len (n : Int) (h0 : 0 ≤ n) (h1 : n ≤ 999999999) : (Lib.itoa n).length ≤ 9 := by
  obtain ⟨u, rfl⟩ : ∃ u : Nat, n = u := ⟨n.toNat, by omega⟩
  rw [Lib.itoa_nonneg, Lib.decDigits_length]
  exact nDigits_le 9 u (by omega) (by omega)
theorem c_decI (n : Int) (h0 : 0 ≤ n) (h1 : n ≤ 999999999) : callPure (EV Tryz.prog pol) 191 [.t (.int .i64 n)] = some (.t (.str (Lib.itoa n))) := by
  have h := c_itoa n (by omega) (by omega)
  apply eq_call
  refine call_eq rfl Tryz.func191 rfl (by kernel_rfl) ?_
  unfold Tryz.f191
  simp only [↓GO, ↓DRW, GA, ren, renB, footX, refs, cellsV, cst, cstAt, nilC, idxAddr, E.load, E.store, binO, isC, bin, ibin, sbin, una, isShift, okCell, packV, lenV, blt, fnV, asArg, snapV, snapS, snapP, snapC, flatV, flatT, openK, layBack, allT, allZ, mkS, srcOf0, unN, idxV, nilEq, give, tupV, mkEnv, extV, pickV, LVS, OVS, LTS, TYS, PMS, pmT, Int.reduceToNat, Nat.reduceGT, ↓reduceIte, Nat.reduceAdd, Nat.reduceMul, Nat.reduceSub, Nat.reduceEqDiff, Nat.reduceLeDiff, Nat.reduceLT, Nat.reduceBEq, Int.reduceBEq, Int.reduceBNe, Int.reduceEq, Int.reduceLT, Int.reduceLE, Int.reduceGT, Int.reduceNeg, reduceCtorEq, h]
/-- the digits of a number, none for 0 -/
def digs (m : Nat) : Str := if m = 0 then [] else Lib.decDigits m
theorem digs_step (m : Nat) (h : m ≠ 0) : digs m = digs (m / 10) ++ [UInt8.ofNat (48 + m % 10)] := by
  unfold digs
  rw [if_neg h]
  by_cases h10 : m < 10
  · rw [if_pos (by omega), Lib.decDigits_one h10, show m % 10 = m by omega]; rfl
  · rw [if_neg (by omega)]
    conv => lhs; rw [Lib.decDigits]
    rw [dif_neg h10]
theorem digit_at (d : Nat) (h : d < 10) : (List.drop d [48, 49, 50, 51, 52, 53, 54, 55, 56, 57]).take (d + 1 - d) = [UInt8.ofNat (48 + d)] := by
  have : d = 0 ∨ d = 1 ∨ d = 2 ∨ d = 3 ∨ d = 4 ∨ d = 5 ∨ d = 6 ∨ d = 7 ∨ d = 8 ∨ d = 9 := by omega
  rcases this with rfl | rfl | rfl | rfl | rfl | rfl | rfl | rfl | rfl | rfl <;> rfl
theorem l_dec (n : Int) : ∀ (N m : Nat) (out : Str), m ≤ N → m ≤ 999999999 → out.length + m ≤ 1000000000 →
    EV Tryz.prog pol (.loop 207 124 0 [.t (.int .i64 n), .t (.str out), .t (.int .i64 (m : Int))] [])
    = some (.loop (.exit 0) [.t (.int .i64 n), .t (.str (digs m ++ out))] [])
  | N, 0, out, h, h1, h2 => by
    refine loop_eq Tryz.func207 rfl rfl ?_
    simp only [↓GO, ↓DRW, GA, ren, renB, footX, refs, cellsV, cst, cstAt, nilC, idxAddr, E.load, E.store, binO, isC, bin, ibin, sbin, una, isShift, okCell, packV, lenV, blt, fnV, asArg, snapV, snapS, snapP, snapC, flatV, flatT, openK, layBack, allT, allZ, mkS, srcOf0, unN, idxV, nilEq, give, tupV, mkEnv, extV, pickV, LVS, OVS, LTS, TYS, PMS, pmT, Int.reduceToNat, Nat.reduceGT, ↓reduceIte, Nat.reduceAdd, Nat.reduceMul, Nat.reduceSub, Nat.reduceEqDiff, Nat.reduceLeDiff, Nat.reduceLT, Nat.reduceBEq, Int.reduceBEq, Int.reduceBNe, Int.reduceEq, Int.reduceLT, Int.reduceLE, Int.reduceGT, Int.reduceNeg, reduceCtorEq, Int.natCast_zero, bne_self_eq_false, digs, if_true]
  | 0, m + 1, out, h, h1, h2 => by omega
  | N + 1, m + 1, out, h, h1, h2 => by
    generalize hm : m + 1 = x at *
    have c : (((x : Nat) : Int) == 0) = false := by simp; omega
    have e1 : ((x : Nat) : Int).tmod 10 = ((x % 10 : Nat) : Int) := (Int.ofNat_tmod x 10).symm
    have e2 : ((x : Nat) : Int).tdiv 10 = ((x / 10 : Nat) : Int) := (Int.ofNat_tdiv x 10).symm
    have hd : x % 10 < 10 := Nat.mod_lt _ (by omega)
    have c2 : decide (((x % 10 : Nat) : Int) < 0) = false := by simp only [decide_eq_false_iff_not]; omega
    have hdig := digit_at (x % 10) hd
    have IH := l_dec n N (x / 10) (UInt8.ofNat (48 + x % 10) :: out) (by omega) (by omega) (by simp only [List.length_cons]; omega)
    rw [digs_step x (by omega), List.append_assoc]
    rw [show [UInt8.ofNat (48 + x % 10)] ++ out = UInt8.ofNat (48 + x % 10) :: out from rfl]
    generalize UInt8.ofNat (48 + x % 10) = bd at *
    have w1 : IntKind.i64.wrap (((x % 10 : Nat) : Int) + 1) = ((x % 10 + 1 : Nat) : Int) := by rw [wrap_in (by omega)]; omega
    have w2 : IntKind.i64.wrap ((x / 10 : Nat) : Int) = ((x / 10 : Nat) : Int) := wrap_in (by omega)
    generalize x % 10 = xd at *
    generalize x / 10 = xq at *
    refine loop_eq Tryz.func207 rfl rfl ?_
    simp (disch := ((try simp only [List.length_cons, List.length_append, List.length_nil, List.length_map]); omega)) only [↓GO, ↓DRW, GA, ren, renB, footX, refs, cellsV, cst, cstAt, nilC, idxAddr, E.load, E.store, binO, isC, bin, ibin, sbin, una, isShift, okCell, packV, lenV, blt, fnV, asArg, snapV, snapS, snapP, snapC, flatV, flatT, openK, layBack, allT, allZ, mkS, srcOf0, unN, idxV, nilEq, give, tupV, mkEnv, extV, pickV, LVS, OVS, LTS, TYS, PMS, pmT, Int.reduceToNat, Nat.reduceGT, ↓reduceIte, Nat.reduceAdd, Nat.reduceMul, Nat.reduceSub, Nat.reduceEqDiff, Nat.reduceLeDiff, Nat.reduceLT, Nat.reduceBEq, Int.reduceBEq, Int.reduceBNe, Int.reduceEq, Int.reduceLT, Int.reduceLE, Int.reduceGT, Int.reduceNeg, reduceCtorEq, bne, c, e1, e2, c2, w1, w2, hdig, le_T, IH]
theorem c_decR (n : Int) (h0 : 0 ≤ n) (h1 : n ≤ 999999999) : callPure (EV Tryz.prog pol) 207 [.t (.int .i64 n)] = some (.t (.str (Lib.itoa n))) := by
  obtain ⟨u, rfl⟩ : ∃ u : Nat, n = u := ⟨n.toNat, by omega⟩
  have IH := l_dec u u u [] (Nat.le_refl _) (by omega) (by simp; omega)
  rw [List.append_nil] at IH
  rw [Lib.itoa_nonneg]
  have c2 : decide ((u : Int) < 0) = false := by simp only [decide_eq_false_iff_not]; omega
  apply eq_call
  refine call_eq rfl Tryz.func207 rfl (by kernel_rfl) ?_
  unfold Tryz.f207
  by_cases hu : u = 0
  · subst hu
    rw [show Lib.decDigits 0 = [48] by rw [Lib.decDigits_one (by omega)]; rfl]
    simp only [↓GO, ↓DRW, GA, ren, renB, footX, refs, cellsV, cst, cstAt, nilC, idxAddr, E.load, E.store, binO, isC, bin, ibin, sbin, una, isShift, okCell, packV, lenV, blt, fnV, asArg, snapV, snapS, snapP, snapC, flatV, flatT, openK, layBack, allT, allZ, mkS, srcOf0, unN, idxV, nilEq, give, tupV, mkEnv, extV, pickV, LVS, OVS, LTS, TYS, PMS, pmT, Int.reduceToNat, Nat.reduceGT, ↓reduceIte, Nat.reduceAdd, Nat.reduceMul, Nat.reduceSub, Nat.reduceEqDiff, Nat.reduceLeDiff, Nat.reduceLT, Nat.reduceBEq, Int.reduceBEq, Int.reduceBNe, Int.reduceEq, Int.reduceLT, Int.reduceLE, Int.reduceGT, Int.reduceNeg, reduceCtorEq, Int.natCast_zero]
  · have c : ((u : Int) == 0) = false := by simp; omega
    rw [show Lib.decDigits u = digs u by simp [digs, hu]]
    simp only [↓GO, ↓DRW, GA, ren, renB, footX, refs, cellsV, cst, cstAt, nilC, idxAddr, E.load, E.store, binO, isC, bin, ibin, sbin, una, isShift, okCell, packV, lenV, blt, fnV, asArg, snapV, snapS, snapP, snapC, flatV, flatT, openK, layBack, allT, allZ, mkS, srcOf0, unN, idxV, nilEq, give, tupV, mkEnv, extV, pickV, LVS, OVS, LTS, TYS, PMS, pmT, Int.reduceToNat, Nat.reduceGT, ↓reduceIte, Nat.reduceAdd, Nat.reduceMul, Nat.reduceSub, Nat.reduceEqDiff, Nat.reduceLeDiff, Nat.reduceLT, Nat.reduceBEq, Int.reduceBEq, Int.reduceBNe, Int.reduceEq, Int.reduceLT, Int.reduceLE, Int.reduceGT, Int.reduceNeg, reduceCtorEq, c, IH, c2]
end Go.Proofs.YtkpmachalipmpaaGreatDoor
/- The number of a text, by both. Conditions: those of each lemma. -/
namespace Go.Proofs.YtkpmachalipmpaaGreatDoor
open E
set_option linter.unusedSimpArgs false
set_option linter.unusedVariables false
set_option maxRecDepth 100000
theorem isD_B2 (c : UInt8) : B2 (c.toNat : Int) 48 57 = isD c := by
  unfold B2 isD
  congr 1 <;> rw [decide_eq_decide] <;> omega
theorem c_rdI (s : Str) (hl : s.length ≤ 281474976710656) : callPure (EV Tryz.prog pol) 197 [.t (.str s)] = some (.t (.int .i64 (readDec s))) := by
  have hat := c_atoi s hl
  apply eq_call
  refine call_eq rfl Tryz.func197 rfl (by kernel_rfl) ?_
  unfold Tryz.f197
  unfold readDec
  cases ha : Lib.atoiAll s with
  | range => rw [ha] at hat; simp only at hat ⊢; simp (disch := ((try simp only [List.length_cons, List.length_append, List.length_nil, List.length_map]); omega)) only [↓GO, ↓DRW, GA, ren, renB, footX, refs, cellsV, cst, cstAt, nilC, idxAddr, E.load, E.store, binO, isC, bin, ibin, sbin, una, isShift, okCell, packV, lenV, blt, fnV, asArg, snapV, snapS, snapP, snapC, flatV, flatT, openK, layBack, allT, allZ, mkS, srcOf0, unN, idxV, nilEq, give, tupV, mkEnv, extV, pickV, LVS, OVS, LTS, TYS, PMS, pmT, Int.reduceToNat, Nat.reduceGT, ↓reduceIte, Nat.reduceAdd, Nat.reduceMul, Nat.reduceSub, Nat.reduceEqDiff, Nat.reduceLeDiff, Nat.reduceLT, Nat.reduceBEq, Int.reduceBEq, Int.reduceBNe, Int.reduceEq, Int.reduceLT, Int.reduceLE, Int.reduceGT, Int.reduceNeg, reduceCtorEq, hat]
  | ok v =>
    rw [ha] at hat
    simp only at hat ⊢
    have hw := c_within v 0 999999999
    rw [show B2 v 0 999999999 = (decide (0 ≤ v) && decide (v ≤ 999999999)) from rfl] at hw
    cases hb : (decide (0 ≤ v) && decide (v ≤ 999999999)) with
    | false => rw [hb] at hw; simp (disch := ((try simp only [List.length_cons, List.length_append, List.length_nil, List.length_map]); omega)) only [↓GO, ↓DRW, GA, ren, renB, footX, refs, cellsV, cst, cstAt, nilC, idxAddr, E.load, E.store, binO, isC, bin, ibin, sbin, una, isShift, okCell, packV, lenV, blt, fnV, asArg, snapV, snapS, snapP, snapC, flatV, flatT, openK, layBack, allT, allZ, mkS, srcOf0, unN, idxV, nilEq, give, tupV, mkEnv, extV, pickV, LVS, OVS, LTS, TYS, PMS, pmT, Int.reduceToNat, Nat.reduceGT, ↓reduceIte, Nat.reduceAdd, Nat.reduceMul, Nat.reduceSub, Nat.reduceEqDiff, Nat.reduceLeDiff, Nat.reduceLT, Nat.reduceBEq, Int.reduceBEq, Int.reduceBNe, Int.reduceEq, Int.reduceLT, Int.reduceLE, Int.reduceGT, Int.reduceNeg, reduceCtorEq, hat, hw]
    | true =>
      rw [hb] at hw
      simp only [Bool.and_eq_true, decide_eq_true_eq] at hb
      have hd := c_decI v hb.1 hb.2
      cases he : (Lib.itoa v == s) <;> simp (disch := ((try simp only [List.length_cons, List.length_append, List.length_nil, List.length_map]); omega)) only [↓GO, ↓DRW, GA, ren, renB, footX, refs, cellsV, cst, cstAt, nilC, idxAddr, E.load, E.store, binO, isC, bin, ibin, sbin, una, isShift, okCell, packV, lenV, blt, fnV, asArg, snapV, snapS, snapP, snapC, flatV, flatT, openK, layBack, allT, allZ, mkS, srcOf0, unN, idxV, nilEq, give, tupV, mkEnv, extV, pickV, LVS, OVS, LTS, TYS, PMS, pmT, Int.reduceToNat, Nat.reduceGT, ↓reduceIte, Nat.reduceAdd, Nat.reduceMul, Nat.reduceSub, Nat.reduceEqDiff, Nat.reduceLeDiff, Nat.reduceLT, Nat.reduceBEq, Int.reduceBEq, Int.reduceBNe, Int.reduceEq, Int.reduceLT, Int.reduceLE, Int.reduceGT, Int.reduceNeg, reduceCtorEq, bne, hat, hw, hd, he]
  | _ => rw [ha] at hat; simp only at hat ⊢; simp (disch := ((try simp only [List.length_cons, List.length_append, List.length_nil, List.length_map]); omega)) only [↓GO, ↓DRW, GA, ren, renB, footX, refs, cellsV, cst, cstAt, nilC, idxAddr, E.load, E.store, binO, isC, bin, ibin, sbin, una, isShift, okCell, packV, lenV, blt, fnV, asArg, snapV, snapS, snapP, snapC, flatV, flatT, openK, layBack, allT, allZ, mkS, srcOf0, unN, idxV, nilEq, give, tupV, mkEnv, extV, pickV, LVS, OVS, LTS, TYS, PMS, pmT, Int.reduceToNat, Nat.reduceGT, ↓reduceIte, Nat.reduceAdd, Nat.reduceMul, Nat.reduceSub, Nat.reduceEqDiff, Nat.reduceLeDiff, Nat.reduceLT, Nat.reduceBEq, Int.reduceBEq, Int.reduceBNe, Int.reduceEq, Int.reduceLT, Int.reduceLE, Int.reduceGT, Int.reduceNeg, reduceCtorEq, hat]
theorem l_rdR (s : Str) (hl : s.length ≤ 9) : ∀ (rest pre : Str), s = pre ++ rest → pre.all isD = true →
    ∃ m : V, EV Tryz.prog pol (.loop 241 58 0 [.t (.str s), .t (.int .i64 (valD 0 pre : Nat)), .t (.int .i64 (pre.length : Int))] [])
    = some (cond (rest.all isD) (.loop (.exit 0) [.t (.str s), .bad, .t (.int .i64 (valD 0 s : Nat))] []) (.loop .ret [.t (.str s), .t (.int .i64 (-1)), m] []))
  | [], pre, hs, hd => by
    have c : decide ((pre.length : Int) < (s.length : Int)) = false := by simp [hs]
    have hp : s = pre := by simpa using hs
    refine ⟨.bad, loop_eq Tryz.func241 rfl rfl ?_⟩
    simp only [↓GO, ↓DRW, GA, ren, renB, footX, refs, cellsV, cst, cstAt, nilC, idxAddr, E.load, E.store, binO, isC, bin, ibin, sbin, una, isShift, okCell, packV, lenV, blt, fnV, asArg, snapV, snapS, snapP, snapC, flatV, flatT, openK, layBack, allT, allZ, mkS, srcOf0, unN, idxV, nilEq, give, tupV, mkEnv, extV, pickV, LVS, OVS, LTS, TYS, PMS, pmT, Int.reduceToNat, Nat.reduceGT, ↓reduceIte, Nat.reduceAdd, Nat.reduceMul, Nat.reduceSub, Nat.reduceEqDiff, Nat.reduceLeDiff, Nat.reduceLT, Nat.reduceBEq, Int.reduceBEq, Int.reduceBNe, Int.reduceEq, Int.reduceLT, Int.reduceLE, Int.reduceGT, Int.reduceNeg, reduceCtorEq, c]
    rw [hp]
  | b :: rest, pre, hs, hd => by
    have c : decide ((pre.length : Int) < (s.length : Int)) = true := by simp [hs]; omega
    have hget : s[pre.length]? = some b := by rw [hs]; exact at_zip pre b rest
    have hlen : s.length = pre.length + rest.length + 1 := by rw [hs]; simp; omega
    have hin := c_l01In (b.toNat : Int) 48 57
    rw [isD_B2] at hin
    have c9 : decide ((s.length : Int) > 9) = false := by simp only [decide_eq_false_iff_not]; omega
    have hv := valD_lt pre 0 hd
    have hp10 : (10 : Nat) ^ pre.length ≤ 10 ^ 9 := Nat.pow_le_pow_right (by omega) (by omega)
    have e9 : (10 : Nat) ^ 9 = 1000000000 := by decide
    have hb8 := u8_lt b
    cases hb : isD b with
    | false =>
      rw [hb] at hin
      refine ⟨.t (.int .i64 (valD 0 pre : Nat)), loop_eq Tryz.func241 rfl rfl ?_⟩
      clear hs hlen
      simp (disch := omega) only [↓GO, ↓DRW, GA, ren, renB, footX, refs, cellsV, cst, cstAt, nilC, idxAddr, E.load, E.store, binO, isC, bin, ibin, sbin, una, isShift, okCell, packV, lenV, blt, fnV, asArg, snapV, snapS, snapP, snapC, flatV, flatT, openK, layBack, allT, allZ, mkS, srcOf0, unN, idxV, nilEq, give, tupV, mkEnv, extV, pickV, LVS, OVS, LTS, TYS, PMS, pmT, Int.reduceToNat, Nat.reduceGT, ↓reduceIte, Nat.reduceAdd, Nat.reduceMul, Nat.reduceSub, Nat.reduceEqDiff, Nat.reduceLeDiff, Nat.reduceLT, Nat.reduceBEq, Int.reduceBEq, Int.reduceBNe, Int.reduceEq, Int.reduceLT, Int.reduceLE, Int.reduceGT, Int.reduceNeg, reduceCtorEq, c, hget, wrap_in, conv, wrap_u8, hin, List.all_cons, hb]
    | true =>
      rw [hb] at hin
      have hd2 : (pre ++ [b]).all isD = true := by rw [List.all_append, hd]; simp [hb]
      obtain ⟨m, IH⟩ := l_rdR s hl rest (pre ++ [b]) (by rw [hs]; simp) hd2
      have hbb := (isD_iff b).1 hb
      have hst : ((valD 0 (pre ++ [b]) : Nat) : Int) = 10 * ((valD 0 pre : Nat) : Int) + (b.toNat : Int) - 48 := by
        rw [valD_snoc, stepD]; omega
      rw [hst, show ((pre ++ [b]).length : Int) = (pre.length : Int) + 1 by simp] at IH
      have hpl : pre.length ≤ 9 := by omega
      generalize valD 0 pre = vp at *
      generalize valD 0 s = vs at *
      clear hs hlen hst
      refine ⟨m, loop_eq Tryz.func241 rfl rfl ?_⟩
      simp (disch := omega) only [↓GO, ↓DRW, GA, ren, renB, footX, refs, cellsV, cst, cstAt, nilC, idxAddr, E.load, E.store, binO, isC, bin, ibin, sbin, una, isShift, okCell, packV, lenV, blt, fnV, asArg, snapV, snapS, snapP, snapC, flatV, flatT, openK, layBack, allT, allZ, mkS, srcOf0, unN, idxV, nilEq, give, tupV, mkEnv, extV, pickV, LVS, OVS, LTS, TYS, PMS, pmT, Int.reduceToNat, Nat.reduceGT, ↓reduceIte, Nat.reduceAdd, Nat.reduceMul, Nat.reduceSub, Nat.reduceEqDiff, Nat.reduceLeDiff, Nat.reduceLT, Nat.reduceBEq, Int.reduceBEq, Int.reduceBNe, Int.reduceEq, Int.reduceLT, Int.reduceLE, Int.reduceGT, Int.reduceNeg, reduceCtorEq, c, hget, wrap_in, conv, wrap_u8, hin, List.all_cons, hb, c9, IH]
theorem l_rdL (s : Str) (h9 : 9 < s.length) (hl : s.length ≤ 281474976710656) :
    EV Tryz.prog pol (.loop 241 58 0 [.t (.str s), .t (.int .i64 0), .t (.int .i64 0)] []) = some (.loop .ret [.t (.str s), .t (.int .i64 (-1)), .t (.int .i64 0)] []) := by
  cases s with
  | nil => simp at h9
  | cons b r =>
    have c : decide ((0 : Int) < ((b :: r).length : Int)) = true := by simp only [decide_eq_true_eq]; omega
    have c9 : decide (((b :: r).length : Int) > 9) = true := by simp only [decide_eq_true_eq]; omega
    have hget : (b :: r)[0]? = some b := rfl
    have hin := c_l01In (b.toNat : Int) 48 57
    rw [isD_B2] at hin
    have hb8 := u8_lt b
    generalize (b :: r) = s at *
    refine loop_eq Tryz.func241 rfl rfl ?_
    cases hb : isD b with
    | false => rw [hb] at hin; simp (disch := omega) only [↓GO, ↓DRW, GA, ren, renB, footX, refs, cellsV, cst, cstAt, nilC, idxAddr, E.load, E.store, binO, isC, bin, ibin, sbin, una, isShift, okCell, packV, lenV, blt, fnV, asArg, snapV, snapS, snapP, snapC, flatV, flatT, openK, layBack, allT, allZ, mkS, srcOf0, unN, idxV, nilEq, give, tupV, mkEnv, extV, pickV, LVS, OVS, LTS, TYS, PMS, pmT, Int.reduceToNat, Nat.reduceGT, ↓reduceIte, Nat.reduceAdd, Nat.reduceMul, Nat.reduceSub, Nat.reduceEqDiff, Nat.reduceLeDiff, Nat.reduceLT, Nat.reduceBEq, Int.reduceBEq, Int.reduceBNe, Int.reduceEq, Int.reduceLT, Int.reduceLE, Int.reduceGT, Int.reduceNeg, reduceCtorEq, c, getE_zero, hget, wrap_in, conv, wrap_u8, hin]
    | true => rw [hb] at hin; simp (disch := omega) only [↓GO, ↓DRW, GA, ren, renB, footX, refs, cellsV, cst, cstAt, nilC, idxAddr, E.load, E.store, binO, isC, bin, ibin, sbin, una, isShift, okCell, packV, lenV, blt, fnV, asArg, snapV, snapS, snapP, snapC, flatV, flatT, openK, layBack, allT, allZ, mkS, srcOf0, unN, idxV, nilEq, give, tupV, mkEnv, extV, pickV, LVS, OVS, LTS, TYS, PMS, pmT, Int.reduceToNat, Nat.reduceGT, ↓reduceIte, Nat.reduceAdd, Nat.reduceMul, Nat.reduceSub, Nat.reduceEqDiff, Nat.reduceLeDiff, Nat.reduceLT, Nat.reduceBEq, Int.reduceBEq, Int.reduceBNe, Int.reduceEq, Int.reduceLT, Int.reduceLE, Int.reduceGT, Int.reduceNeg, reduceCtorEq, c, getE_zero, hget, wrap_in, conv, wrap_u8, hin, c9]
theorem c_rdR (s : Str) (hl : s.length ≤ 281474976710656) : callPure (EV Tryz.prog pol) 241 [.t (.str s)] = some (.t (.int .i64 (readDec s))) := by
  rw [← spec_read]
  apply eq_call
  refine call_eq rfl Tryz.func241 rfl (by kernel_rfl) ?_
  unfold Tryz.f241
  unfold specDec
  by_cases h9 : s.length ≤ 9
  · obtain ⟨m, IH⟩ := l_rdR s h9 s [] rfl rfl
    simp only [List.length_nil, Int.natCast_zero, valD_nil] at IH
    have e9 : decide (s.length ≤ 9) = true := by simpa using h9
    have hv := valD_lt s 0
    have hp10 : (10 : Nat) ^ s.length ≤ 10 ^ 9 := Nat.pow_le_pow_right (by omega) h9
    have e10 : (10 : Nat) ^ 9 = 1000000000 := by decide
    cases ha : s.all isD with
    | false => rw [ha] at IH; simp only [cond_false] at IH; simp (disch := ((try simp only [List.length_cons, List.length_append, List.length_nil, List.length_map]); omega)) only [↓GO, ↓DRW, GA, ren, renB, footX, refs, cellsV, cst, cstAt, nilC, idxAddr, E.load, E.store, binO, isC, bin, ibin, sbin, una, isShift, okCell, packV, lenV, blt, fnV, asArg, snapV, snapS, snapP, snapC, flatV, flatT, openK, layBack, allT, allZ, mkS, srcOf0, unN, idxV, nilEq, give, tupV, mkEnv, extV, pickV, LVS, OVS, LTS, TYS, PMS, pmT, Int.reduceToNat, Nat.reduceGT, ↓reduceIte, Nat.reduceAdd, Nat.reduceMul, Nat.reduceSub, Nat.reduceEqDiff, Nat.reduceLeDiff, Nat.reduceLT, Nat.reduceBEq, Int.reduceBEq, Int.reduceBNe, Int.reduceEq, Int.reduceLT, Int.reduceLE, Int.reduceGT, Int.reduceNeg, reduceCtorEq, IH]
    | true =>
      rw [ha] at IH; simp only [cond_true] at IH
      have hv' := hv ha
      have hd := c_decR (valD 0 s : Nat) (by omega) (by omega)
      cases hn : (s == []) with
      | true => simp (disch := ((try simp only [List.length_cons, List.length_append, List.length_nil, List.length_map]); omega)) only [↓GO, ↓DRW, GA, ren, renB, footX, refs, cellsV, cst, cstAt, nilC, idxAddr, E.load, E.store, binO, isC, bin, ibin, sbin, una, isShift, okCell, packV, lenV, blt, fnV, asArg, snapV, snapS, snapP, snapC, flatV, flatT, openK, layBack, allT, allZ, mkS, srcOf0, unN, idxV, nilEq, give, tupV, mkEnv, extV, pickV, LVS, OVS, LTS, TYS, PMS, pmT, Int.reduceToNat, Nat.reduceGT, ↓reduceIte, Nat.reduceAdd, Nat.reduceMul, Nat.reduceSub, Nat.reduceEqDiff, Nat.reduceLeDiff, Nat.reduceLT, Nat.reduceBEq, Int.reduceBEq, Int.reduceBNe, Int.reduceEq, Int.reduceLT, Int.reduceLE, Int.reduceGT, Int.reduceNeg, reduceCtorEq, IH, e9, hn]
      | false =>
        cases he : (Lib.itoa (valD 0 s : Nat) == s) <;> simp (disch := ((try simp only [List.length_cons, List.length_append, List.length_nil, List.length_map]); omega)) only [↓GO, ↓DRW, GA, ren, renB, footX, refs, cellsV, cst, cstAt, nilC, idxAddr, E.load, E.store, binO, isC, bin, ibin, sbin, una, isShift, okCell, packV, lenV, blt, fnV, asArg, snapV, snapS, snapP, snapC, flatV, flatT, openK, layBack, allT, allZ, mkS, srcOf0, unN, idxV, nilEq, give, tupV, mkEnv, extV, pickV, LVS, OVS, LTS, TYS, PMS, pmT, Int.reduceToNat, Nat.reduceGT, ↓reduceIte, Nat.reduceAdd, Nat.reduceMul, Nat.reduceSub, Nat.reduceEqDiff, Nat.reduceLeDiff, Nat.reduceLT, Nat.reduceBEq, Int.reduceBEq, Int.reduceBNe, Int.reduceEq, Int.reduceLT, Int.reduceLE, Int.reduceGT, Int.reduceNeg, reduceCtorEq, bne, IH, e9, hn, hd, he]
  · have e9 : decide (s.length ≤ 9) = false := by simpa using h9
    have IH := l_rdL s (by omega) (by omega)
    simp (disch := ((try simp only [List.length_cons, List.length_append, List.length_nil, List.length_map]); omega)) only [↓GO, ↓DRW, GA, ren, renB, footX, refs, cellsV, cst, cstAt, nilC, idxAddr, E.load, E.store, binO, isC, bin, ibin, sbin, una, isShift, okCell, packV, lenV, blt, fnV, asArg, snapV, snapS, snapP, snapC, flatV, flatT, openK, layBack, allT, allZ, mkS, srcOf0, unN, idxV, nilEq, give, tupV, mkEnv, extV, pickV, LVS, OVS, LTS, TYS, PMS, pmT, Int.reduceToNat, Nat.reduceGT, ↓reduceIte, Nat.reduceAdd, Nat.reduceMul, Nat.reduceSub, Nat.reduceEqDiff, Nat.reduceLeDiff, Nat.reduceLT, Nat.reduceBEq, Int.reduceBEq, Int.reduceBNe, Int.reduceEq, Int.reduceLT, Int.reduceLE, Int.reduceGT, Int.reduceNeg, reduceCtorEq, IH, e9]
end Go.Proofs.YtkpmachalipmpaaGreatDoor
/- Names and plain texts, by both; parts between a byte. Conditions: those of each lemma. -/
namespace Go.Proofs.YtkpmachalipmpaaGreatDoor
open E
set_option linter.unusedSimpArgs false
set_option linter.unusedVariables false
set_option maxRecDepth 100000
theorem pref_eq : ∀ p s : Str, (decide ((s.length : Int) ≥ (p.length : Int)) && (s.take p.length == p)) = p.isPrefixOf s
  | [], s => by
    have : decide ((s.length : Int) ≥ (([] : Str).length : Int)) = true := by simp
    rw [this]; simp [List.isPrefixOf]
  | a :: p, [] => by
    have : decide ((([] : Str).length : Int) ≥ ((a :: p).length : Int)) = false := by simp only [decide_eq_false_iff_not, List.length_cons, List.length_nil]; omega
    rw [this]; simp [List.isPrefixOf]
  | a :: p, b :: s => by
    have ih := pref_eq p s
    have e1 : decide (((b :: s).length : Int) ≥ ((a :: p).length : Int)) = decide ((s.length : Int) ≥ (p.length : Int)) := by
      rw [decide_eq_decide]; simp only [List.length_cons]; omega
    rw [e1, List.isPrefixOf, ← ih, List.length_cons, List.take_succ_cons]
    by_cases h : b = a
    · subst h
      have : (b :: List.take p.length s == b :: p) = (List.take p.length s == p) := by rw [Bool.eq_iff_iff]; simp
      rw [this]; simp
    · have h2 : (b :: List.take p.length s == a :: p) = false := by rw [beq_eq_false_iff_ne]; intro e; injection e with e1 e2; exact h e1
      have h3 : (a == b) = false := by rw [beq_eq_false_iff_ne]; exact fun e => h e.symm
      rw [h2, h3]; simp
theorem c_hasPreL (s p : Str) (hs : s.length ≤ 9223372036854775807) (hp : p.length ≤ 9223372036854775807) : callPure (EV Tryz.prog pol) 173 [.t (.str s), .t (.str p)] = some (.t (.bool (p.isPrefixOf s))) := by
  rw [← pref_eq]
  apply eq_call
  refine call_eq rfl Tryz.func173 rfl (by kernel_rfl) ?_
  unfold Tryz.f173
  cases h : decide ((s.length : Int) ≥ (p.length : Int)) with
  | false => simp (disch := ((try simp only [List.length_cons, List.length_append, List.length_nil, List.length_map]); omega)) only [↓GO, ↓DRW, GA, ren, renB, footX, refs, cellsV, cst, cstAt, nilC, idxAddr, E.load, E.store, binO, isC, bin, ibin, sbin, una, isShift, okCell, packV, lenV, blt, fnV, asArg, snapV, snapS, snapP, snapC, flatV, flatT, openK, layBack, allT, allZ, mkS, srcOf0, unN, idxV, nilEq, give, tupV, mkEnv, extV, pickV, LVS, OVS, LTS, TYS, PMS, pmT, Int.reduceToNat, Nat.reduceGT, ↓reduceIte, Nat.reduceAdd, Nat.reduceMul, Nat.reduceSub, Nat.reduceEqDiff, Nat.reduceLeDiff, Nat.reduceLT, Nat.reduceBEq, Int.reduceBEq, Int.reduceBNe, Int.reduceEq, Int.reduceLT, Int.reduceLE, Int.reduceGT, Int.reduceNeg, reduceCtorEq, Int.cast_ofNat_Int, getE_zero, getE_one, getE_two, Option.isSome_none, h]
  | true =>
    have h2 := of_decide_eq_true h
    simp (disch := ((try simp only [List.length_cons, List.length_append, List.length_nil, List.length_map]); omega)) only [↓GO, ↓DRW, GA, ren, renB, footX, refs, cellsV, cst, cstAt, nilC, idxAddr, E.load, E.store, binO, isC, bin, ibin, sbin, una, isShift, okCell, packV, lenV, blt, fnV, asArg, snapV, snapS, snapP, snapC, flatV, flatT, openK, layBack, allT, allZ, mkS, srcOf0, unN, idxV, nilEq, give, tupV, mkEnv, extV, pickV, LVS, OVS, LTS, TYS, PMS, pmT, Int.reduceToNat, Nat.reduceGT, ↓reduceIte, Nat.reduceAdd, Nat.reduceMul, Nat.reduceSub, Nat.reduceEqDiff, Nat.reduceLeDiff, Nat.reduceLT, Nat.reduceBEq, Int.reduceBEq, Int.reduceBNe, Int.reduceEq, Int.reduceLT, Int.reduceLE, Int.reduceGT, Int.reduceNeg, reduceCtorEq, Int.cast_ofNat_Int, getE_zero, getE_one, getE_two, Option.isSome_none, h]
theorem c_hasPre (s p : Str) (hs : s.length ≤ 9223372036854775807) (hp : p.length ≤ 9223372036854775807) : callPure (EV Tryz.prog pol) 82 [.t (.str s), .t (.str p)] = some (.t (.bool (p.isPrefixOf s))) := by
  have h := c_hasPreL s p hs hp
  apply eq_call
  refine call_eq rfl Tryz.func82 rfl (by kernel_rfl) ?_
  unfold Tryz.f82
  simp (disch := ((try simp only [List.length_cons, List.length_append, List.length_nil, List.length_map]); omega)) only [↓GO, ↓DRW, GA, ren, renB, footX, refs, cellsV, cst, cstAt, nilC, idxAddr, E.load, E.store, binO, isC, bin, ibin, sbin, una, isShift, okCell, packV, lenV, blt, fnV, asArg, snapV, snapS, snapP, snapC, flatV, flatT, openK, layBack, allT, allZ, mkS, srcOf0, unN, idxV, nilEq, give, tupV, mkEnv, extV, pickV, LVS, OVS, LTS, TYS, PMS, pmT, Int.reduceToNat, Nat.reduceGT, ↓reduceIte, Nat.reduceAdd, Nat.reduceMul, Nat.reduceSub, Nat.reduceEqDiff, Nat.reduceLeDiff, Nat.reduceLT, Nat.reduceBEq, Int.reduceBEq, Int.reduceBNe, Int.reduceEq, Int.reduceLT, Int.reduceLE, Int.reduceGT, Int.reduceNeg, reduceCtorEq, Int.cast_ofNat_Int, getE_zero, getE_one, getE_two, Option.isSome_none, h]
theorem pref_len : ∀ {p s : Str}, p.isPrefixOf s = true → p.length ≤ s.length
  | [], s, _ => by simp
  | a :: p, [], h => by simp [List.isPrefixOf] at h
  | a :: p, b :: s, h => by
    simp only [List.isPrefixOf, Bool.and_eq_true] at h
    have := pref_len h.2
    simp only [List.length_cons]; omega
theorem c_trimPreL (s p : Str) (hs : s.length ≤ 9223372036854775807) (hp : p.length ≤ 9223372036854775807) : callPure (EV Tryz.prog pol) 263 [.t (.str s), .t (.str p)] = some (.t (.str (cond (p.isPrefixOf s) (s.drop p.length) s))) := by
  have h := c_hasPreL s p hs hp
  apply eq_call
  refine call_eq rfl Tryz.func263 rfl (by kernel_rfl) ?_
  unfold Tryz.f263
  cases hb : p.isPrefixOf s with
  | false => rw [hb] at h; simp (disch := ((try simp only [List.length_cons, List.length_append, List.length_nil, List.length_map]); omega)) only [↓GO, ↓DRW, GA, ren, renB, footX, refs, cellsV, cst, cstAt, nilC, idxAddr, E.load, E.store, binO, isC, bin, ibin, sbin, una, isShift, okCell, packV, lenV, blt, fnV, asArg, snapV, snapS, snapP, snapC, flatV, flatT, openK, layBack, allT, allZ, mkS, srcOf0, unN, idxV, nilEq, give, tupV, mkEnv, extV, pickV, LVS, OVS, LTS, TYS, PMS, pmT, Int.reduceToNat, Nat.reduceGT, ↓reduceIte, Nat.reduceAdd, Nat.reduceMul, Nat.reduceSub, Nat.reduceEqDiff, Nat.reduceLeDiff, Nat.reduceLT, Nat.reduceBEq, Int.reduceBEq, Int.reduceBNe, Int.reduceEq, Int.reduceLT, Int.reduceLE, Int.reduceGT, Int.reduceNeg, reduceCtorEq, Int.cast_ofNat_Int, getE_zero, getE_one, getE_two, Option.isSome_none, h]
  | true =>
    have h2 := pref_len hb
    rw [hb] at h; simp (disch := ((try simp only [List.length_cons, List.length_append, List.length_nil, List.length_map]); omega)) only [↓GO, ↓DRW, GA, ren, renB, footX, refs, cellsV, cst, cstAt, nilC, idxAddr, E.load, E.store, binO, isC, bin, ibin, sbin, una, isShift, okCell, packV, lenV, blt, fnV, asArg, snapV, snapS, snapP, snapC, flatV, flatT, openK, layBack, allT, allZ, mkS, srcOf0, unN, idxV, nilEq, give, tupV, mkEnv, extV, pickV, LVS, OVS, LTS, TYS, PMS, pmT, Int.reduceToNat, Nat.reduceGT, ↓reduceIte, Nat.reduceAdd, Nat.reduceMul, Nat.reduceSub, Nat.reduceEqDiff, Nat.reduceLeDiff, Nat.reduceLT, Nat.reduceBEq, Int.reduceBEq, Int.reduceBNe, Int.reduceEq, Int.reduceLT, Int.reduceLE, Int.reduceGT, Int.reduceNeg, reduceCtorEq, Int.cast_ofNat_Int, getE_zero, getE_one, getE_two, Option.isSome_none, h]
theorem c_trimPre (s p : Str) (hs : s.length ≤ 9223372036854775807) (hp : p.length ≤ 9223372036854775807) : callPure (EV Tryz.prog pol) 184 [.t (.str s), .t (.str p)] = some (.t (.str (cond (p.isPrefixOf s) (s.drop p.length) s))) := by
  have h := c_trimPreL s p hs hp
  apply eq_call
  refine call_eq rfl Tryz.func184 rfl (by kernel_rfl) ?_
  unfold Tryz.f184
  simp (disch := ((try simp only [List.length_cons, List.length_append, List.length_nil, List.length_map]); omega)) only [↓GO, ↓DRW, GA, ren, renB, footX, refs, cellsV, cst, cstAt, nilC, idxAddr, E.load, E.store, binO, isC, bin, ibin, sbin, una, isShift, okCell, packV, lenV, blt, fnV, asArg, snapV, snapS, snapP, snapC, flatV, flatT, openK, layBack, allT, allZ, mkS, srcOf0, unN, idxV, nilEq, give, tupV, mkEnv, extV, pickV, LVS, OVS, LTS, TYS, PMS, pmT, Int.reduceToNat, Nat.reduceGT, ↓reduceIte, Nat.reduceAdd, Nat.reduceMul, Nat.reduceSub, Nat.reduceEqDiff, Nat.reduceLeDiff, Nat.reduceLT, Nat.reduceBEq, Int.reduceBEq, Int.reduceBNe, Int.reduceEq, Int.reduceLT, Int.reduceLE, Int.reduceGT, Int.reduceNeg, reduceCtorEq, Int.cast_ofNat_Int, getE_zero, getE_one, getE_two, Option.isSome_none, h]
theorem trim_at (s : Str) : cond (([64] : Str).isPrefixOf s) (s.drop ([64] : Str).length) s = trimAt s := by
  cases s with
  | nil => rfl
  | cons x s =>
    by_cases h : x = 64
    · subst h; simp [List.isPrefixOf, trimAt]
    · have : (64 == x) = false := by rw [beq_eq_false_iff_ne]; exact fun e => h e.symm
      simp [List.isPrefixOf, trimAt, h, this]
theorem c_nameB (b : UInt8) : callPure (EV Tryz.prog pol) 186 [.t (.int .u8 (b.toNat : Int))] = some (.t (.bool (nameB b))) := by
  have h1 := c_isLower (b.toNat : Int)
  have h2 := c_isDigit (b.toNat : Int)
  apply eq_call
  refine call_eq rfl Tryz.func186 rfl (by kernel_rfl) ?_
  unfold Tryz.f186
  simp only [nameB, nb]
  generalize hx : B2 (b.toNat : Int) 97 122 = x1 at *
  generalize hy : B2 (b.toNat : Int) 48 57 = x2 at *
  repeat' (first | (((first | with_reducible refine cK_any (fun hA => ?_) (fun hA => ?_) | with_reducible refine gW_any (fun hA => ?_) (fun hA => ?_)) <;> (try simp only [bne, Bool.not_eq_true', Bool.not_eq_false'] at hA) <;> (first | (have hP := Int.le_of_eq (eq_of_beq (α := Int) hA); have hQ := Int.le_of_eq (eq_of_beq (α := Int) hA).symm) | have hP := of_decide_eq_true hA | have hP := of_decide_eq_false hA | skip)) <;> (simp (disch := ((try simp only [List.length_cons, List.length_append, List.length_nil, List.length_map]); omega)) only [↓GO, ↓DRW, GA, ren, renB, footX, refs, cellsV, cst, cstAt, nilC, idxAddr, E.load, E.store, binO, isC, bin, ibin, sbin, una, isShift, okCell, packV, lenV, blt, fnV, asArg, snapV, snapS, snapP, snapC, flatV, flatT, openK, layBack, allT, allZ, mkS, srcOf0, unN, idxV, nilEq, give, tupV, mkEnv, extV, pickV, LVS, OVS, LTS, TYS, PMS, pmT, Int.reduceToNat, Nat.reduceGT, ↓reduceIte, Nat.reduceAdd, Nat.reduceMul, Nat.reduceSub, Nat.reduceEqDiff, Nat.reduceLeDiff, Nat.reduceLT, Nat.reduceBEq, Int.reduceBEq, Int.reduceBNe, Int.reduceEq, Int.reduceLT, Int.reduceLE, Int.reduceGT, Int.reduceNeg, reduceCtorEq, wrap_in, bne, *])) | (simp (disch := ((try simp only [List.length_cons, List.length_append, List.length_nil, List.length_map]); omega)) only [↓GO, ↓DRW, GA, ren, renB, footX, refs, cellsV, cst, cstAt, nilC, idxAddr, E.load, E.store, binO, isC, bin, ibin, sbin, una, isShift, okCell, packV, lenV, blt, fnV, asArg, snapV, snapS, snapP, snapC, flatV, flatT, openK, layBack, allT, allZ, mkS, srcOf0, unN, idxV, nilEq, give, tupV, mkEnv, extV, pickV, LVS, OVS, LTS, TYS, PMS, pmT, Int.reduceToNat, Nat.reduceGT, ↓reduceIte, Nat.reduceAdd, Nat.reduceMul, Nat.reduceSub, Nat.reduceEqDiff, Nat.reduceLeDiff, Nat.reduceLT, Nat.reduceBEq, Int.reduceBEq, Int.reduceBNe, Int.reduceEq, Int.reduceLT, Int.reduceLE, Int.reduceGT, Int.reduceNeg, reduceCtorEq, wrap_in, bne, *]))
theorem splitS_cut (b : UInt8) (s : Str) : splitS s [b] = cutS b s := by
  rw [← split_cut]
  unfold splitS Lib.split Lib.countB
  rw [Lib.splitB_data]
theorem strs_cons (x : Str) (l : List Str) : strs (x :: l) = [.str x] :: strs l := rfl
theorem strs_app (a b : List Str) : strs (a ++ b) = strs a ++ strs b := by simp [strs]
theorem strs_nil : strs [] = [] := rfl
/-- a place in a list of texts, told by what stands ahead of it -/
theorem strs_zip (pre : List Str) (x : Str) (rest : List Str) : (strs (pre ++ x :: rest))[pre.length]? = some [.str x] := by
  rw [strs_app, strs_cons]
  have := at_zip (strs pre) [T.str x] (strs rest)
  rwa [strs_len] at this
theorem l_nameI (s : Str) (sc : Bool) (parts : List Str) (hl : parts.length ≤ 4294967296) (hb : ∀ p ∈ parts, p.length ≤ 4294967296) : ∀ (rest pre : List Str), parts = pre ++ rest →
    EV Tryz.prog pol (.loop 89 58 0 [.t (.str s), .t (.bool sc), .t (.list 1 (strs parts)), .t (.int .i64 (parts.length : Int)), .t (.int .i64 (pre.length : Int))] []) = some (cond (partsI (sc && ((pre.length : Int) == 0)) rest) (.loop (.exit 0) [.t (.str s), .bad] []) (.loop .ret [.t (.str s), .t (.bool false)] []))
  | [], pre, hs => by
    have c : decide ((pre.length : Int) < (parts.length : Int)) = false := by simp [hs]
    refine loop_eq Tryz.func89 rfl rfl ?_
    simp only [↓GO, ↓DRW, GA, ren, renB, footX, refs, cellsV, cst, cstAt, nilC, idxAddr, E.load, E.store, binO, isC, bin, ibin, sbin, una, isShift, okCell, packV, lenV, blt, fnV, asArg, snapV, snapS, snapP, snapC, flatV, flatT, openK, layBack, allT, allZ, mkS, srcOf0, unN, idxV, nilEq, give, tupV, mkEnv, extV, pickV, LVS, OVS, LTS, TYS, PMS, pmT, Int.reduceToNat, Nat.reduceGT, ↓reduceIte, Nat.reduceAdd, Nat.reduceMul, Nat.reduceSub, Nat.reduceEqDiff, Nat.reduceLeDiff, Nat.reduceLT, Nat.reduceBEq, Int.reduceBEq, Int.reduceBNe, Int.reduceEq, Int.reduceLT, Int.reduceLE, Int.reduceGT, Int.reduceNeg, reduceCtorEq, c, partsI]
  | x :: rest, pre, hs => by
    have c : decide ((pre.length : Int) < (parts.length : Int)) = true := by simp [hs]; omega
    have hget : (strs parts)[pre.length]? = some [.str x] := by rw [hs]; exact strs_zip pre x rest
    have hlen : pre.length + rest.length + 1 ≤ parts.length := by rw [hs]; simp; omega
    have hx : x.length ≤ 4294967296 := hb x (by rw [hs]; simp)
    have IH := l_nameI s sc parts hl hb rest (pre ++ [x]) (by rw [hs]; simp)
    have hc := c_all 186 nameB c_nameB x (by omega)
    rw [show ((pre ++ [x]).length : Int) = (pre.length : Int) + 1 by simp] at IH
    have e0 : (((pre.length : Int) + 1 == 0)) = false := by rw [beq_eq_false_iff_ne]; omega
    rw [e0, Bool.and_false] at IH
    clear hs hb
    refine loop_eq Tryz.func89 rfl rfl ?_
    rw [partsI]
    have hN : (x == nodeM) = (x == [110, 111, 100, 101, 95, 109, 111, 100, 117, 108, 101, 115]) := rfl
    rw [hN]
    cases ha : x.all nameB <;> rw [ha] at hc <;> cases h1 : (x == []) <;> cases h2 : (x == [110, 111, 100, 101, 95, 109, 111, 100, 117, 108, 101, 115]) <;> cases sc <;> cases h3 : ((pre.length : Int) == 0) <;>
      simp (disch := ((try simp only [List.length_cons, List.length_append, List.length_nil, List.length_map]); omega)) only [↓GO, ↓DRW, GA, ren, renB, footX, refs, cellsV, cst, cstAt, nilC, idxAddr, E.load, E.store, binO, isC, bin, ibin, sbin, una, isShift, okCell, packV, lenV, blt, fnV, asArg, snapV, snapS, snapP, snapC, flatV, flatT, openK, layBack, allT, allZ, mkS, srcOf0, unN, idxV, nilEq, give, tupV, mkEnv, extV, pickV, LVS, OVS, LTS, TYS, PMS, pmT, Int.reduceToNat, Nat.reduceGT, ↓reduceIte, Nat.reduceAdd, Nat.reduceMul, Nat.reduceSub, Nat.reduceEqDiff, Nat.reduceLeDiff, Nat.reduceLT, Nat.reduceBEq, Int.reduceBEq, Int.reduceBNe, Int.reduceEq, Int.reduceLT, Int.reduceLE, Int.reduceGT, Int.reduceNeg, reduceCtorEq, Int.cast_ofNat_Int, getE_zero, getE_one, getE_two, Option.isSome_none, c, hget, wrap_in, hc, h1, h2, h3, IH, strs_len]
theorem c_nameI (s : Str) (hl : s.length ≤ 1048576) : callPure (EV Tryz.prog pol) 89 [.t (.str s)] = some (.t (.bool (nameOk s))) := by
  have h1 := c_hasPre s [64] (by omega) (by simp)
  have h2 := c_trimPre s [64] (by omega) (by simp)
  rw [trim_at] at h2
  have ht : (trimAt s).length ≤ s.length := by
    unfold trimAt; split
    · simp
    · split
      · simp
      · simp
  have hbk := bulk_cutS 47 (trimAt s)
  have h3 := c_split (trimAt s) [47] (by omega) (by simp)
  rw [splitS_cut] at h3
  have IH := l_nameI s (hasAt s) (cutS 47 (trimAt s)) (by omega) (fun p hp => by have := bulk_mem hp; omega) _ [] rfl
  rw [show (([64] : Str).isPrefixOf s) = hasAt s from rfl] at h1
  simp only [List.length_nil, Int.natCast_zero, show ((0 : Int) == 0) = true from rfl, Bool.and_true] at IH
  apply eq_call
  refine call_eq rfl Tryz.func89 rfl (by kernel_rfl) ?_
  unfold Tryz.f89
  unfold nameOk
  cases hp : partsI (hasAt s) (cutS 47 (trimAt s)) <;> rw [hp] at IH <;> simp only [cond_true, cond_false] at IH <;>
    simp (disch := ((try simp only [List.length_cons, List.length_append, List.length_nil, List.length_map]); omega)) only [↓GO, ↓DRW, GA, ren, renB, footX, refs, cellsV, cst, cstAt, nilC, idxAddr, E.load, E.store, binO, isC, bin, ibin, sbin, una, isShift, okCell, packV, lenV, blt, fnV, asArg, snapV, snapS, snapP, snapC, flatV, flatT, openK, layBack, allT, allZ, mkS, srcOf0, unN, idxV, nilEq, give, tupV, mkEnv, extV, pickV, LVS, OVS, LTS, TYS, PMS, pmT, Int.reduceToNat, Nat.reduceGT, ↓reduceIte, Nat.reduceAdd, Nat.reduceMul, Nat.reduceSub, Nat.reduceEqDiff, Nat.reduceLeDiff, Nat.reduceLT, Nat.reduceBEq, Int.reduceBEq, Int.reduceBNe, Int.reduceEq, Int.reduceLT, Int.reduceLE, Int.reduceGT, Int.reduceNeg, reduceCtorEq, Int.cast_ofNat_Int, getE_zero, getE_one, getE_two, Option.isSome_none, h1, h2, h3, strs_len, IH]
theorem l_cutR (s : Str) (b : UInt8) (hl : s.length ≤ 4294967296) : ∀ (rest cur pre : Str) (out : List Str) (cap : Option Nat) (m : Nat), s = pre ++ (cur ++ rest) → m = pre.length + cur.length → out.length ≤ m →
    ∃ (out' : List Str) (fr : Nat) (cap' : Option Nat), out'.length ≤ s.length ∧ fr ≤ s.length ∧ out' ++ [s.drop fr] = out ++ (match cutS b rest with | p :: r => (cur ++ p) :: r | [] => []) ∧
      EV Tryz.prog pol (.loop 178 122 0 [.t (.str s), .t (.int .u8 (b.toNat : Int)), .sl 0 0 out.length cap, .t (.int .i64 (pre.length : Int)), .t (.int .i64 (m : Int))] [.ts 1 (strs out)]) = some (.loop (.exit 0) [.t (.str s), .sl 0 0 out'.length cap', .t (.int .i64 (fr : Int))] [.ts 1 (strs out')])
  | [], cur, pre, out, cap, m, hs, hm, ho => by
    have c : decide ((m : Int) < (s.length : Int)) = false := by simp [hs]; omega
    have hn : s.length = pre.length + cur.length := by rw [hs]; simp
    refine ⟨out, pre.length, cap, by omega, by omega, ?_, ?_⟩
    · simp only [cutS, hs, List.append_nil, List.drop_left]
    · refine loop_eq Tryz.func178 rfl rfl ?_
      simp only [↓GO, ↓DRW, GA, ren, renB, footX, refs, cellsV, cst, cstAt, nilC, idxAddr, E.load, E.store, binO, isC, bin, ibin, sbin, una, isShift, okCell, packV, lenV, blt, fnV, asArg, snapV, snapS, snapP, snapC, flatV, flatT, openK, layBack, allT, allZ, mkS, srcOf0, unN, idxV, nilEq, give, tupV, mkEnv, extV, pickV, LVS, OVS, LTS, TYS, PMS, pmT, Int.reduceToNat, Nat.reduceGT, ↓reduceIte, Nat.reduceAdd, Nat.reduceMul, Nat.reduceSub, Nat.reduceEqDiff, Nat.reduceLeDiff, Nat.reduceLT, Nat.reduceBEq, Int.reduceBEq, Int.reduceBNe, Int.reduceEq, Int.reduceLT, Int.reduceLE, Int.reduceGT, Int.reduceNeg, reduceCtorEq, c]
  | x :: rest, cur, pre, out, cap, m, hs, hm, ho => by
    have hn : s.length = pre.length + cur.length + rest.length + 1 := by rw [hs]; simp; omega
    have c : decide ((m : Int) < (s.length : Int)) = true := by simp only [decide_eq_true_eq]; omega
    have hget : s[m]? = some x := by
      rw [hs, hm, ← List.append_assoc, ← List.length_append]; exact at_zip (pre ++ cur) x rest
    by_cases hx : x = b
    · subst hx
      have hcut : (s.drop pre.length).take (m - pre.length) = cur := by
        rw [hs, hm, List.drop_left, show pre.length + cur.length - pre.length = cur.length by omega, List.take_left]
      obtain ⟨out', fr, cap', q1, q2, q3, q4⟩ := l_cutR s x hl rest [] (pre ++ cur ++ [x]) (out ++ [cur]) none (m + 1) (by rw [hs]; simp) (by simp; omega) (by simp; omega)
      refine ⟨out', fr, cap', q1, q2, ?_, ?_⟩
      · rw [q3, cutS_hit]
        cases hc : cutS x rest with
        | nil => exact absurd hc (cutS_ne x rest)
        | cons p r => simp
      · rw [show ((pre ++ cur ++ [x]).length : Int) = (m : Int) + 1 by simp; omega, show ((m + 1 : Nat) : Int) = (m : Int) + 1 by omega] at q4
        rw [strs_app, strs_cons, strs_nil, List.length_append, List.length_cons, List.length_nil, Nat.zero_add] at q4
        have hol : out.length ≤ 4294967296 := by omega
        clear hs q3
        refine loop_eq Tryz.func178 rfl rfl ?_
        simp (disch := ((try simp only [List.length_cons, List.length_append, List.length_nil, List.length_map]); omega)) only [↓GO, ↓DRW, GA, ren, renB, footX, refs, cellsV, cst, cstAt, nilC, idxAddr, E.load, E.store, binO, isC, bin, ibin, sbin, una, isShift, okCell, packV, lenV, blt, fnV, asArg, snapV, snapS, snapP, snapC, flatV, flatT, openK, layBack, allT, allZ, mkS, srcOf0, unN, idxV, nilEq, give, tupV, mkEnv, extV, pickV, LVS, OVS, LTS, TYS, PMS, pmT, Int.reduceToNat, Nat.reduceGT, ↓reduceIte, Nat.reduceAdd, Nat.reduceMul, Nat.reduceSub, Nat.reduceEqDiff, Nat.reduceLeDiff, Nat.reduceLT, Nat.reduceBEq, Int.reduceBEq, Int.reduceBNe, Int.reduceEq, Int.reduceLT, Int.reduceLE, Int.reduceGT, Int.reduceNeg, reduceCtorEq, Int.cast_ofNat_Int, getE_zero, getE_one, getE_two, Option.isSome_none, c, hget, wrap_in, hcut, q4, strs_len, le_T]
    · have c2 : ((x.toNat : Int) == (b.toNat : Int)) = false := by
        rw [beq_eq_false_iff_ne]; intro e; exact hx (UInt8.toNat_inj.1 (by omega))
      obtain ⟨out', fr, cap', q1, q2, q3, q4⟩ := l_cutR s b hl rest (cur ++ [x]) pre out cap (m + 1) (by rw [hs]; simp) (by simp; omega) (by omega)
      refine ⟨out', fr, cap', q1, q2, ?_, ?_⟩
      · rw [q3]
        cases hc : cutS b rest with
        | nil => exact absurd hc (cutS_ne b rest)
        | cons p r => rw [cutS_miss b x rest p r hx hc]; simp
      · rw [show ((m + 1 : Nat) : Int) = (m : Int) + 1 by omega] at q4
        clear hs q3
        refine loop_eq Tryz.func178 rfl rfl ?_
        simp (disch := ((try simp only [List.length_cons, List.length_append, List.length_nil, List.length_map]); omega)) only [↓GO, ↓DRW, GA, ren, renB, footX, refs, cellsV, cst, cstAt, nilC, idxAddr, E.load, E.store, binO, isC, bin, ibin, sbin, una, isShift, okCell, packV, lenV, blt, fnV, asArg, snapV, snapS, snapP, snapC, flatV, flatT, openK, layBack, allT, allZ, mkS, srcOf0, unN, idxV, nilEq, give, tupV, mkEnv, extV, pickV, LVS, OVS, LTS, TYS, PMS, pmT, Int.reduceToNat, Nat.reduceGT, ↓reduceIte, Nat.reduceAdd, Nat.reduceMul, Nat.reduceSub, Nat.reduceEqDiff, Nat.reduceLeDiff, Nat.reduceLT, Nat.reduceBEq, Int.reduceBEq, Int.reduceBNe, Int.reduceEq, Int.reduceLT, Int.reduceLE, Int.reduceGT, Int.reduceNeg, reduceCtorEq, Int.cast_ofNat_Int, getE_zero, getE_one, getE_two, Option.isSome_none, c, hget, wrap_in, c2, q4, strs_len, le_T]
theorem c_cutR (s : Str) (b : UInt8) (hl : s.length ≤ 4194304) : callPure (EV Tryz.prog pol) 178 [.t (.str s), .t (.int .u8 (b.toNat : Int))] = some (.t (.list 1 (strs (cutS b s)))) := by
  obtain ⟨out, fr, cap, q1, q2, q3, q4⟩ := l_cutR s b (by omega) s [] [] [] (some 0) 0 rfl rfl (by simp)
  simp only [List.nil_append, List.length_nil, Int.natCast_zero, strs_nil] at q4 q3
  have e : (match cutS b s with | p :: r => p :: r | [] => []) = cutS b s := by cases cutS b s <;> rfl
  rw [e] at q3
  have ho : (strs out ++ [[.str (List.drop fr s)]]) = strs (cutS b s) := by rw [← q3, strs_app]; rfl
  have ht : List.take (out.length + 1) (strs (cutS b s)) = strs (cutS b s) := List.take_of_length_le (by rw [strs_len, ← q3]; simp)
  apply eq_call
  refine call_eq rfl Tryz.func178 rfl (by kernel_rfl) ?_
  unfold Tryz.f178
  simp (disch := ((try simp only [List.length_cons, List.length_append, List.length_nil, List.length_map]); omega)) only [↓GO, ↓DRW, GA, ren, renB, footX, refs, cellsV, cst, cstAt, nilC, idxAddr, E.load, E.store, binO, isC, bin, ibin, sbin, una, isShift, okCell, packV, lenV, blt, fnV, asArg, snapV, snapS, snapP, snapC, flatV, flatT, openK, layBack, allT, allZ, mkS, srcOf0, unN, idxV, nilEq, give, tupV, mkEnv, extV, pickV, LVS, OVS, LTS, TYS, PMS, pmT, Int.reduceToNat, Nat.reduceGT, ↓reduceIte, Nat.reduceAdd, Nat.reduceMul, Nat.reduceSub, Nat.reduceEqDiff, Nat.reduceLeDiff, Nat.reduceLT, Nat.reduceBEq, Int.reduceBEq, Int.reduceBNe, Int.reduceEq, Int.reduceLT, Int.reduceLE, Int.reduceGT, Int.reduceNeg, reduceCtorEq, Int.cast_ofNat_Int, getE_zero, getE_one, getE_two, Option.isSome_none, q4, strs_len, le_T, ho, ht]
theorem l_nameIn (s : Str) (P : T) (i : T) (p : Str) (hl : p.length ≤ 4294967296) : ∀ (rest pre : Str), p = pre ++ rest →
    EV Tryz.prog pol (.loop 86 59706 0 [.t (.str s), .t P, .t i, .t (.str p), .t (.int .i64 (pre.length : Int))] []) = some (cond (rest.all nameB) (.loop (.exit 2) [.t (.str s), .bad, .t P, .t i, .t (.str p)] []) (.loop .ret [.t (.str s), .t (.bool false), .t P, .t i, .t (.str p)] []))
  | [], pre, hs => by
    have c : decide ((pre.length : Int) < (p.length : Int)) = false := by simp [hs]
    refine loop_eq Tryz.func86 rfl rfl ?_
    simp only [↓GO, ↓DRW, GA, ren, renB, footX, refs, cellsV, cst, cstAt, nilC, idxAddr, E.load, E.store, binO, isC, bin, ibin, sbin, una, isShift, okCell, packV, lenV, blt, fnV, asArg, snapV, snapS, snapP, snapC, flatV, flatT, openK, layBack, allT, allZ, mkS, srcOf0, unN, idxV, nilEq, give, tupV, mkEnv, extV, pickV, LVS, OVS, LTS, TYS, PMS, pmT, Int.reduceToNat, Nat.reduceGT, ↓reduceIte, Nat.reduceAdd, Nat.reduceMul, Nat.reduceSub, Nat.reduceEqDiff, Nat.reduceLeDiff, Nat.reduceLT, Nat.reduceBEq, Int.reduceBEq, Int.reduceBNe, Int.reduceEq, Int.reduceLT, Int.reduceLE, Int.reduceGT, Int.reduceNeg, reduceCtorEq, c]
  | b :: rest, pre, hs => by
    have c : decide ((pre.length : Int) < (p.length : Int)) = true := by simp [hs]; omega
    have hget : p[pre.length]? = some b := by rw [hs]; exact at_zip pre b rest
    have hlen : p.length = pre.length + rest.length + 1 := by rw [hs]; simp; omega
    have IH := l_nameIn s P i p hl rest (pre ++ [b]) (by rw [hs]; simp)
    rw [show ((pre ++ [b]).length : Int) = (pre.length : Int) + 1 by simp] at IH
    have hb := c_l01Letter b
    clear hs
    refine loop_eq Tryz.func86 rfl rfl ?_
    rw [List.all_cons, nameB]
    simp only [nb] at *
    cases h1 : (B2 (b.toNat : Int) 97 122 || B2 (b.toNat : Int) 48 57) <;> rw [h1] at hb <;> cases h2 : ((b.toNat : Int) == 46) <;> cases h3 : ((b.toNat : Int) == 95) <;> cases h4 : ((b.toNat : Int) == 45) <;>
      simp (disch := ((try simp only [List.length_cons, List.length_append, List.length_nil, List.length_map]); omega)) only [↓GO, ↓DRW, GA, ren, renB, footX, refs, cellsV, cst, cstAt, nilC, idxAddr, E.load, E.store, binO, isC, bin, ibin, sbin, una, isShift, okCell, packV, lenV, blt, fnV, asArg, snapV, snapS, snapP, snapC, flatV, flatT, openK, layBack, allT, allZ, mkS, srcOf0, unN, idxV, nilEq, give, tupV, mkEnv, extV, pickV, LVS, OVS, LTS, TYS, PMS, pmT, Int.reduceToNat, Nat.reduceGT, ↓reduceIte, Nat.reduceAdd, Nat.reduceMul, Nat.reduceSub, Nat.reduceEqDiff, Nat.reduceLeDiff, Nat.reduceLT, Nat.reduceBEq, Int.reduceBEq, Int.reduceBNe, Int.reduceEq, Int.reduceLT, Int.reduceLE, Int.reduceGT, Int.reduceNeg, reduceCtorEq, Int.cast_ofNat_Int, getE_zero, getE_one, getE_two, Option.isSome_none, c, hget, wrap_in, hb, h2, h3, h4, bne, IH]
theorem l_nameR (s : Str) (parts : List Str) (hl : parts.length ≤ 4294967296) (hb : ∀ p ∈ parts, p.length ≤ 4294967296) : ∀ (rest pre : List Str), parts = pre ++ rest → pre ≠ [] →
    EV Tryz.prog pol (.loop 86 58 0 [.t (.str s), .t (.list 1 (strs parts)), .t (.int .i64 (pre.length : Int))] []) = some (cond (restR rest) (.loop (.exit 0) [.t (.str s), .bad] []) (.loop .ret [.t (.str s), .t (.bool false)] []))
  | [], pre, hs, _ => by
    have c : decide ((pre.length : Int) < (parts.length : Int)) = false := by simp [hs]
    refine loop_eq Tryz.func86 rfl rfl ?_
    simp only [↓GO, ↓DRW, GA, ren, renB, footX, refs, cellsV, cst, cstAt, nilC, idxAddr, E.load, E.store, binO, isC, bin, ibin, sbin, una, isShift, okCell, packV, lenV, blt, fnV, asArg, snapV, snapS, snapP, snapC, flatV, flatT, openK, layBack, allT, allZ, mkS, srcOf0, unN, idxV, nilEq, give, tupV, mkEnv, extV, pickV, LVS, OVS, LTS, TYS, PMS, pmT, Int.reduceToNat, Nat.reduceGT, ↓reduceIte, Nat.reduceAdd, Nat.reduceMul, Nat.reduceSub, Nat.reduceEqDiff, Nat.reduceLeDiff, Nat.reduceLT, Nat.reduceBEq, Int.reduceBEq, Int.reduceBNe, Int.reduceEq, Int.reduceLT, Int.reduceLE, Int.reduceGT, Int.reduceNeg, reduceCtorEq, strs_len, c, restR]
  | x :: rest, pre, hs, hn => by
    have c : decide ((pre.length : Int) < (parts.length : Int)) = true := by simp [hs]; omega
    have hget : (strs parts)[pre.length]? = some [.str x] := by rw [hs]; exact strs_zip pre x rest
    have hlen : pre.length + rest.length + 1 ≤ parts.length := by rw [hs]; simp; omega
    have hx : x.length ≤ 4294967296 := hb x (by rw [hs]; simp)
    have IH := l_nameR s parts hl hb rest (pre ++ [x]) (by rw [hs]; simp) (by simp)
    have hin := l_nameIn s (.list 1 (strs parts)) (.int .i64 (pre.length : Int)) x hx x [] rfl
    simp only [List.length_nil, Int.natCast_zero] at hin
    rw [show ((pre ++ [x]).length : Int) = (pre.length : Int) + 1 by simp] at IH
    have e0 : (((pre.length : Int) == 0)) = false := by
      rw [beq_eq_false_iff_ne]; intro h; apply hn; apply List.eq_nil_of_length_eq_zero; omega
    clear hs hb
    refine loop_eq Tryz.func86 rfl rfl ?_
    rw [restR]
    have hN : (x == nodeM) = (x == [110, 111, 100, 101, 95, 109, 111, 100, 117, 108, 101, 115]) := rfl
    rw [hN]
    cases ha : x.all nameB <;> rw [ha] at hin <;> simp only [cond_true, cond_false] at hin <;> cases h1 : (x == []) <;> cases h2 : (x == [110, 111, 100, 101, 95, 109, 111, 100, 117, 108, 101, 115]) <;>
      simp (disch := ((try simp only [List.length_cons, List.length_append, List.length_nil, List.length_map]); omega)) only [↓GO, ↓DRW, GA, ren, renB, footX, refs, cellsV, cst, cstAt, nilC, idxAddr, E.load, E.store, binO, isC, bin, ibin, sbin, una, isShift, okCell, packV, lenV, blt, fnV, asArg, snapV, snapS, snapP, snapC, flatV, flatT, openK, layBack, allT, allZ, mkS, srcOf0, unN, idxV, nilEq, give, tupV, mkEnv, extV, pickV, LVS, OVS, LTS, TYS, PMS, pmT, Int.reduceToNat, Nat.reduceGT, ↓reduceIte, Nat.reduceAdd, Nat.reduceMul, Nat.reduceSub, Nat.reduceEqDiff, Nat.reduceLeDiff, Nat.reduceLT, Nat.reduceBEq, Int.reduceBEq, Int.reduceBNe, Int.reduceEq, Int.reduceLT, Int.reduceLE, Int.reduceGT, Int.reduceNeg, reduceCtorEq, Int.cast_ofNat_Int, getE_zero, getE_one, getE_two, Option.isSome_none, c, hget, wrap_in, hin, h1, h2, e0, IH, strs_len]
theorem l_name0 (s : Str) (parts : List Str) (hl : parts.length ≤ 4294967296) (hb : ∀ p ∈ parts, p.length ≤ 4294967296) (x : Str) (rest : List Str) (hs : parts = x :: rest) :
    EV Tryz.prog pol (.loop 86 58 0 [.t (.str s), .t (.list 1 (strs parts)), .t (.int .i64 0)] []) = some (cond (partsR (x :: rest)) (.loop (.exit 0) [.t (.str s), .bad] []) (.loop .ret [.t (.str s), .t (.bool false)] [])) := by
  have c : decide ((0 : Int) < (parts.length : Int)) = true := by simp only [decide_eq_true_eq, hs, List.length_cons]; omega
  have hget : (strs parts)[0]? = some [.str x] := by rw [hs]; rfl
  have hx : x.length ≤ 4294967296 := hb x (by rw [hs]; simp)
  have IH := l_nameR s parts hl hb rest [x] hs (by simp)
  simp only [List.length_nil, List.length_cons, Nat.zero_add, Int.natCast_one] at IH
  have hN : (x == nodeM) = (x == [110, 111, 100, 101, 95, 109, 111, 100, 117, 108, 101, 115]) := rfl
  rw [partsR, hN]
  clear hs hb hN
  cases x with
  | nil =>
    have hin := l_nameIn s (.list 1 (strs parts)) (.int .i64 0) [] hx [] [] rfl
    simp only [List.length_nil, Int.natCast_zero, List.all_nil, cond_true] at hin
    have h2 : (([] : Str) == [110, 111, 100, 101, 95, 109, 111, 100, 117, 108, 101, 115]) = false := rfl
    have h3 : (([] : Str) == []) = true := rfl
    have h4 : trimAt [] = [] := rfl
    refine loop_eq Tryz.func86 rfl rfl ?_
    simp (disch := ((try simp only [List.length_cons, List.length_append, List.length_nil, List.length_map]); omega)) only [↓GO, ↓DRW, GA, ren, renB, footX, refs, cellsV, cst, cstAt, nilC, idxAddr, E.load, E.store, binO, isC, bin, ibin, sbin, una, isShift, okCell, packV, lenV, blt, fnV, asArg, snapV, snapS, snapP, snapC, flatV, flatT, openK, layBack, allT, allZ, mkS, srcOf0, unN, idxV, nilEq, give, tupV, mkEnv, extV, pickV, LVS, OVS, LTS, TYS, PMS, pmT, Int.reduceToNat, Nat.reduceGT, ↓reduceIte, Nat.reduceAdd, Nat.reduceMul, Nat.reduceSub, Nat.reduceEqDiff, Nat.reduceLeDiff, Nat.reduceLT, Nat.reduceBEq, Int.reduceBEq, Int.reduceBNe, Int.reduceEq, Int.reduceLT, Int.reduceLE, Int.reduceGT, Int.reduceNeg, reduceCtorEq, Int.cast_ofNat_Int, getE_zero, getE_one, getE_two, Option.isSome_none, c, hget, wrap_in, hin, strs_len, h2, h3, h4, Int.natCast_zero]
  | cons y t =>
    have hlt : decide (((y :: t).length : Int) > 0) = true := by simp only [decide_eq_true_eq, List.length_cons]; omega
    have hg0 : (y :: t)[0]? = some y := rfl
    have hyl : 1 ≤ (y :: t).length := by simp
    by_cases h64 : y = 64
    · subst h64
      have hin2 := l_nameIn s (.list 1 (strs parts)) (.int .i64 0) t (by simp only [List.length_cons] at hx; omega) t [] rfl
      simp only [List.length_nil, Int.natCast_zero] at hin2
      have e1 : (((64 : UInt8) :: t) == [110, 111, 100, 101, 95, 109, 111, 100, 117, 108, 101, 115]) = false := by simp
      have e2 : trimAt (64 :: t) = t := by simp [trimAt]
      have e3 : (((64 : UInt8)).toNat : Int) = 64 := rfl
      have hd : List.drop 1 ((64 : UInt8) :: t) = t := rfl
      rw [e2]
      generalize hy : (64 : UInt8) :: t = yy at *
      cases ha : t.all nameB <;> rw [ha] at hin2 <;> simp only [cond_true, cond_false] at hin2 <;> cases h1 : (t == []) <;>
        refine loop_eq Tryz.func86 rfl rfl ?_ <;> simp (disch := ((try simp only [List.length_cons, List.length_append, List.length_nil, List.length_map]); omega)) only [↓GO, ↓DRW, GA, ren, renB, footX, refs, cellsV, cst, cstAt, nilC, idxAddr, E.load, E.store, binO, isC, bin, ibin, sbin, una, isShift, okCell, packV, lenV, blt, fnV, asArg, snapV, snapS, snapP, snapC, flatV, flatT, openK, layBack, allT, allZ, mkS, srcOf0, unN, idxV, nilEq, give, tupV, mkEnv, extV, pickV, LVS, OVS, LTS, TYS, PMS, pmT, Int.reduceToNat, Nat.reduceGT, ↓reduceIte, Nat.reduceAdd, Nat.reduceMul, Nat.reduceSub, Nat.reduceEqDiff, Nat.reduceLeDiff, Nat.reduceLT, Nat.reduceBEq, Int.reduceBEq, Int.reduceBNe, Int.reduceEq, Int.reduceLT, Int.reduceLE, Int.reduceGT, Int.reduceNeg, reduceCtorEq, Int.cast_ofNat_Int, getE_zero, getE_one, getE_two, Option.isSome_none, c, hget, wrap_in, hin2, strs_len, e1, e3, hlt, hg0, hd, h1, IH, Int.zero_add]
    · have e2 : trimAt (y :: t) = y :: t := by simp [trimAt, h64]
      have e3 : ((y.toNat : Int) == 64) = false := by
        rw [beq_eq_false_iff_ne]; intro h; exact h64 (UInt8.toNat_inj.1 (by rw [show (64 : UInt8).toNat = 64 from rfl]; omega))
      have hin := l_nameIn s (.list 1 (strs parts)) (.int .i64 0) (y :: t) hx (y :: t) [] rfl
      simp only [List.length_nil, Int.natCast_zero] at hin
      rw [e2]
      have h1 : ((y :: t) == []) = false := rfl
      generalize hy : y :: t = yy at *
      cases ha : yy.all nameB <;> rw [ha] at hin <;> simp only [cond_true, cond_false] at hin <;> cases h2 : (yy == [110, 111, 100, 101, 95, 109, 111, 100, 117, 108, 101, 115]) <;>
        refine loop_eq Tryz.func86 rfl rfl ?_ <;> simp (disch := ((try simp only [List.length_cons, List.length_append, List.length_nil, List.length_map]); omega)) only [↓GO, ↓DRW, GA, ren, renB, footX, refs, cellsV, cst, cstAt, nilC, idxAddr, E.load, E.store, binO, isC, bin, ibin, sbin, una, isShift, okCell, packV, lenV, blt, fnV, asArg, snapV, snapS, snapP, snapC, flatV, flatT, openK, layBack, allT, allZ, mkS, srcOf0, unN, idxV, nilEq, give, tupV, mkEnv, extV, pickV, LVS, OVS, LTS, TYS, PMS, pmT, Int.reduceToNat, Nat.reduceGT, ↓reduceIte, Nat.reduceAdd, Nat.reduceMul, Nat.reduceSub, Nat.reduceEqDiff, Nat.reduceLeDiff, Nat.reduceLT, Nat.reduceBEq, Int.reduceBEq, Int.reduceBNe, Int.reduceEq, Int.reduceLT, Int.reduceLE, Int.reduceGT, Int.reduceNeg, reduceCtorEq, Int.cast_ofNat_Int, getE_zero, getE_one, getE_two, Option.isSome_none, c, hget, wrap_in, hin, strs_len, e3, hlt, hg0, h1, h2, IH, Int.zero_add]
theorem c_nameR (s : Str) (hl : s.length ≤ 1048576) : callPure (EV Tryz.prog pol) 86 [.t (.str s)] = some (.t (.bool (nameOk s))) := by
  have hbk := bulk_cutS 47 s
  have h3 := c_cutR s 47 (by omega)
  rw [show (((47 : UInt8)).toNat : Int) = 47 from rfl] at h3
  rw [← name_same]
  cases hc : cutS 47 s with
  | nil => exact absurd hc (cutS_ne 47 s)
  | cons x rest =>
    rw [hc] at h3 hbk
    have hb : ∀ p ∈ x :: rest, p.length ≤ 4294967296 := fun p hp => by have := bulk_mem hp; omega
    have LP := l_name0 s (x :: rest) (by omega) hb x rest rfl
    generalize x :: rest = parts at *
    apply eq_call
    refine call_eq rfl Tryz.func86 rfl (by kernel_rfl) ?_
    unfold Tryz.f86
    cases hp : partsR parts <;> rw [hp] at LP <;> simp only [cond_true, cond_false] at LP <;>
      simp (disch := ((try simp only [List.length_cons, List.length_append, List.length_nil, List.length_map]); omega)) only [↓GO, ↓DRW, GA, ren, renB, footX, refs, cellsV, cst, cstAt, nilC, idxAddr, E.load, E.store, binO, isC, bin, ibin, sbin, una, isShift, okCell, packV, lenV, blt, fnV, asArg, snapV, snapS, snapP, snapC, flatV, flatT, openK, layBack, allT, allZ, mkS, srcOf0, unN, idxV, nilEq, give, tupV, mkEnv, extV, pickV, LVS, OVS, LTS, TYS, PMS, pmT, Int.reduceToNat, Nat.reduceGT, ↓reduceIte, Nat.reduceAdd, Nat.reduceMul, Nat.reduceSub, Nat.reduceEqDiff, Nat.reduceLeDiff, Nat.reduceLT, Nat.reduceBEq, Int.reduceBEq, Int.reduceBNe, Int.reduceEq, Int.reduceLT, Int.reduceLE, Int.reduceGT, Int.reduceNeg, reduceCtorEq, Int.cast_ofNat_Int, getE_zero, getE_one, getE_two, Option.isSome_none, h3, LP]
theorem c_plainB (b : UInt8) : callPure (EV Tryz.prog pol) 189 [.t (.int .u8 (b.toNat : Int))] = some (.t (.bool (plainB b))) := by
  apply eq_call
  refine call_eq rfl Tryz.func189 rfl (by kernel_rfl) ?_
  unfold Tryz.f189
  unfold plainB B2
  simp only [nb]
  cases h1 : decide ((33 : Int) ≤ (b.toNat : Int)) <;> cases h2 : decide ((b.toNat : Int) ≤ 126) <;> cases h3 : ((b.toNat : Int) == 34) <;> cases h4 : ((b.toNat : Int) == 39) <;> cases h5 : ((b.toNat : Int) == 44) <;>
    simp (disch := ((try simp only [List.length_cons, List.length_append, List.length_nil, List.length_map]); omega)) only [↓GO, ↓DRW, GA, ren, renB, footX, refs, cellsV, cst, cstAt, nilC, idxAddr, E.load, E.store, binO, isC, bin, ibin, sbin, una, isShift, okCell, packV, lenV, blt, fnV, asArg, snapV, snapS, snapP, snapC, flatV, flatT, openK, layBack, allT, allZ, mkS, srcOf0, unN, idxV, nilEq, give, tupV, mkEnv, extV, pickV, LVS, OVS, LTS, TYS, PMS, pmT, Int.reduceToNat, Nat.reduceGT, ↓reduceIte, Nat.reduceAdd, Nat.reduceMul, Nat.reduceSub, Nat.reduceEqDiff, Nat.reduceLeDiff, Nat.reduceLT, Nat.reduceBEq, Int.reduceBEq, Int.reduceBNe, Int.reduceEq, Int.reduceLT, Int.reduceLE, Int.reduceGT, Int.reduceNeg, reduceCtorEq, Int.cast_ofNat_Int, getE_zero, getE_one, getE_two, Option.isSome_none, h1, h2, h3, h4, h5, bne, ge_iff_le]
theorem c_plainI (s : Str) (hl : s.length ≤ 1048576) : callPure (EV Tryz.prog pol) 90 [.t (.str s)] = some (.t (.bool (plainOk s))) := by
  have h := c_all 189 plainB c_plainB s (by omega)
  apply eq_call
  refine call_eq rfl Tryz.func90 rfl (by kernel_rfl) ?_
  unfold Tryz.f90
  unfold plainOk
  cases h1 : decide ((s.length : Int) ≤ 100) <;> simp (disch := ((try simp only [List.length_cons, List.length_append, List.length_nil, List.length_map]); omega)) only [↓GO, ↓DRW, GA, ren, renB, footX, refs, cellsV, cst, cstAt, nilC, idxAddr, E.load, E.store, binO, isC, bin, ibin, sbin, una, isShift, okCell, packV, lenV, blt, fnV, asArg, snapV, snapS, snapP, snapC, flatV, flatT, openK, layBack, allT, allZ, mkS, srcOf0, unN, idxV, nilEq, give, tupV, mkEnv, extV, pickV, LVS, OVS, LTS, TYS, PMS, pmT, Int.reduceToNat, Nat.reduceGT, ↓reduceIte, Nat.reduceAdd, Nat.reduceMul, Nat.reduceSub, Nat.reduceEqDiff, Nat.reduceLeDiff, Nat.reduceLT, Nat.reduceBEq, Int.reduceBEq, Int.reduceBNe, Int.reduceEq, Int.reduceLT, Int.reduceLE, Int.reduceGT, Int.reduceNeg, reduceCtorEq, Int.cast_ofNat_Int, getE_zero, getE_one, getE_two, Option.isSome_none, h, h1]
theorem l_plainR (s : Str) (hl : s.length ≤ 1048576) : ∀ (rest pre : Str), s = pre ++ rest →
    EV Tryz.prog pol (.loop 87 26 0 [.t (.str s), .t (.int .i64 (pre.length : Int))] []) = some (cond (rest.all plainB) (.loop (.exit 0) [.t (.str s), .bad] []) (.loop .ret [.t (.str s), .t (.bool false)] []))
  | [], pre, hs => by
    have c : decide ((pre.length : Int) < (s.length : Int)) = false := by simp [hs]
    refine loop_eq Tryz.func87 rfl rfl ?_
    simp only [↓GO, ↓DRW, GA, ren, renB, footX, refs, cellsV, cst, cstAt, nilC, idxAddr, E.load, E.store, binO, isC, bin, ibin, sbin, una, isShift, okCell, packV, lenV, blt, fnV, asArg, snapV, snapS, snapP, snapC, flatV, flatT, openK, layBack, allT, allZ, mkS, srcOf0, unN, idxV, nilEq, give, tupV, mkEnv, extV, pickV, LVS, OVS, LTS, TYS, PMS, pmT, Int.reduceToNat, Nat.reduceGT, ↓reduceIte, Nat.reduceAdd, Nat.reduceMul, Nat.reduceSub, Nat.reduceEqDiff, Nat.reduceLeDiff, Nat.reduceLT, Nat.reduceBEq, Int.reduceBEq, Int.reduceBNe, Int.reduceEq, Int.reduceLT, Int.reduceLE, Int.reduceGT, Int.reduceNeg, reduceCtorEq, c]
  | b :: rest, pre, hs => by
    have c : decide ((pre.length : Int) < (s.length : Int)) = true := by simp [hs]; omega
    have hget : s[pre.length]? = some b := by rw [hs]; exact at_zip pre b rest
    have hlen : s.length = pre.length + rest.length + 1 := by rw [hs]; simp; omega
    have IH := l_plainR s hl rest (pre ++ [b]) (by rw [hs]; simp)
    rw [show ((pre ++ [b]).length : Int) = (pre.length : Int) + 1 by simp] at IH
    have hb := c_l01In (b.toNat : Int) 33 126
    clear hs
    refine loop_eq Tryz.func87 rfl rfl ?_
    rw [List.all_cons, plainB]
    simp only [nb]
    cases h1 : B2 (b.toNat : Int) 33 126 <;> rw [h1] at hb <;> cases h3 : ((b.toNat : Int) == 34) <;> cases h4 : ((b.toNat : Int) == 39) <;> cases h5 : ((b.toNat : Int) == 44) <;> cases h6 : ((b.toNat : Int) == 92) <;>
      simp (disch := ((try simp only [List.length_cons, List.length_append, List.length_nil, List.length_map]); omega)) only [↓GO, ↓DRW, GA, ren, renB, footX, refs, cellsV, cst, cstAt, nilC, idxAddr, E.load, E.store, binO, isC, bin, ibin, sbin, una, isShift, okCell, packV, lenV, blt, fnV, asArg, snapV, snapS, snapP, snapC, flatV, flatT, openK, layBack, allT, allZ, mkS, srcOf0, unN, idxV, nilEq, give, tupV, mkEnv, extV, pickV, LVS, OVS, LTS, TYS, PMS, pmT, Int.reduceToNat, Nat.reduceGT, ↓reduceIte, Nat.reduceAdd, Nat.reduceMul, Nat.reduceSub, Nat.reduceEqDiff, Nat.reduceLeDiff, Nat.reduceLT, Nat.reduceBEq, Int.reduceBEq, Int.reduceBNe, Int.reduceEq, Int.reduceLT, Int.reduceLE, Int.reduceGT, Int.reduceNeg, reduceCtorEq, Int.cast_ofNat_Int, getE_zero, getE_one, getE_two, Option.isSome_none, c, hget, wrap_in, conv, wrap_u8, hb, h3, h4, h5, h6, bne, IH]
theorem c_plainR (s : Str) (hl : s.length ≤ 1048576) : callPure (EV Tryz.prog pol) 87 [.t (.str s)] = some (.t (.bool (plainOk s))) := by
  have IH := l_plainR s hl s [] rfl
  simp only [List.length_nil, Int.natCast_zero] at IH
  apply eq_call
  refine call_eq rfl Tryz.func87 rfl (by kernel_rfl) ?_
  unfold Tryz.f87
  unfold plainOk
  cases ha : s.all plainB <;> rw [ha] at IH <;> simp only [cond_true, cond_false] at IH
  · simp (disch := ((try simp only [List.length_cons, List.length_append, List.length_nil, List.length_map]); omega)) only [↓GO, ↓DRW, GA, ren, renB, footX, refs, cellsV, cst, cstAt, nilC, idxAddr, E.load, E.store, binO, isC, bin, ibin, sbin, una, isShift, okCell, packV, lenV, blt, fnV, asArg, snapV, snapS, snapP, snapC, flatV, flatT, openK, layBack, allT, allZ, mkS, srcOf0, unN, idxV, nilEq, give, tupV, mkEnv, extV, pickV, LVS, OVS, LTS, TYS, PMS, pmT, Int.reduceToNat, Nat.reduceGT, ↓reduceIte, Nat.reduceAdd, Nat.reduceMul, Nat.reduceSub, Nat.reduceEqDiff, Nat.reduceLeDiff, Nat.reduceLT, Nat.reduceBEq, Int.reduceBEq, Int.reduceBNe, Int.reduceEq, Int.reduceLT, Int.reduceLE, Int.reduceGT, Int.reduceNeg, reduceCtorEq, Int.cast_ofNat_Int, getE_zero, getE_one, getE_two, Option.isSome_none, IH]
  · cases h1 : decide ((s.length : Int) ≤ 100) with
    | false => simp (disch := ((try simp only [List.length_cons, List.length_append, List.length_nil, List.length_map]); omega)) only [↓GO, ↓DRW, GA, ren, renB, footX, refs, cellsV, cst, cstAt, nilC, idxAddr, E.load, E.store, binO, isC, bin, ibin, sbin, una, isShift, okCell, packV, lenV, blt, fnV, asArg, snapV, snapS, snapP, snapC, flatV, flatT, openK, layBack, allT, allZ, mkS, srcOf0, unN, idxV, nilEq, give, tupV, mkEnv, extV, pickV, LVS, OVS, LTS, TYS, PMS, pmT, Int.reduceToNat, Nat.reduceGT, ↓reduceIte, Nat.reduceAdd, Nat.reduceMul, Nat.reduceSub, Nat.reduceEqDiff, Nat.reduceLeDiff, Nat.reduceLT, Nat.reduceBEq, Int.reduceBEq, Int.reduceBNe, Int.reduceEq, Int.reduceLT, Int.reduceLE, Int.reduceGT, Int.reduceNeg, reduceCtorEq, Int.cast_ofNat_Int, getE_zero, getE_one, getE_two, Option.isSome_none, IH, h1]
    | true =>
      have h2 := of_decide_eq_true h1
      have h3 : decide ((s.length : Int) < 20000) = true := by simp only [decide_eq_true_eq]; omega
      simp (disch := ((try simp only [List.length_cons, List.length_append, List.length_nil, List.length_map]); omega)) only [↓GO, ↓DRW, GA, ren, renB, footX, refs, cellsV, cst, cstAt, nilC, idxAddr, E.load, E.store, binO, isC, bin, ibin, sbin, una, isShift, okCell, packV, lenV, blt, fnV, asArg, snapV, snapS, snapP, snapC, flatV, flatT, openK, layBack, allT, allZ, mkS, srcOf0, unN, idxV, nilEq, give, tupV, mkEnv, extV, pickV, LVS, OVS, LTS, TYS, PMS, pmT, Int.reduceToNat, Nat.reduceGT, ↓reduceIte, Nat.reduceAdd, Nat.reduceMul, Nat.reduceSub, Nat.reduceEqDiff, Nat.reduceLeDiff, Nat.reduceLT, Nat.reduceBEq, Int.reduceBEq, Int.reduceBNe, Int.reduceEq, Int.reduceLT, Int.reduceLE, Int.reduceGT, Int.reduceNeg, reduceCtorEq, Int.cast_ofNat_Int, getE_zero, getE_one, getE_two, Option.isSome_none, IH, h1, h3]
end Go.Proofs.YtkpmachalipmpaaGreatDoor
/- Versions, by both. Conditions: those of each lemma. -/
namespace Go.Proofs.YtkpmachalipmpaaGreatDoor
open E
set_option linter.unusedSimpArgs false
set_option linter.unusedVariables false
set_option maxRecDepth 100000
theorem rch3 (h : Heap) (ids : List Nat) : reach h 3 ids = reach' h 3 ids := (reach'_eq h 3 ids).symm
theorem n9_B2 (n : Int) : B2 n 0 999999999 = n9 n := rfl
/-- a version of bounded size -/
def Ver.sm (v : Ver) : Prop := v.pre.length + bulkS v.pre ≤ 2097152
theorem beq_len {α : Type} [BEq α] (l : List α) : ((l.length : Int) == 0) = (l == []) := by
  cases l with
  | nil => rfl
  | cons x l =>
    have h1 : ((x :: l) == []) = false := rfl
    have h2 : (((x :: l).length : Int) == 0) = false := by rw [beq_eq_false_iff_ne]; simp only [List.length_cons]; omega
    rw [h1, h2]
theorem gt_len {α : Type} [BEq α] (l : List α) : decide ((l.length : Int) > 0) = !(l == []) := by
  cases l with
  | nil => rfl
  | cons x l =>
    have h1 : ((x :: l) == []) = false := rfl
    have h2 : decide (((x :: l).length : Int) > 0) = true := by simp only [decide_eq_true_eq, List.length_cons]; omega
    rw [h1, h2]; rfl
theorem isD_u8 (b : UInt8) : B2 (b.toNat : Int) 48 57 = isD b := isD_B2 b
theorem c_isLetter (a : Int) : callPure (EV Tryz.prog pol) 384 [.t (.int .u8 a)] = some (.t (.bool (B2 a 97 122 || B2 a 65 90))) := by
  have h1 := c_isLower a
  apply eq_call
  refine call_eq rfl Tryz.func384 rfl (by kernel_rfl) ?_
  unfold Tryz.f384
  cases h2 : B2 a 97 122 <;> rw [h2] at h1
  · unfold B2
    cases h3 : decide ((65 : Int) ≤ a) <;> simp (disch := ((try simp only [List.length_cons, List.length_append, List.length_nil, List.length_map]); omega)) only [↓GO, ↓DRW, GA, ren, renB, footX, refs, cellsV, cst, cstAt, nilC, idxAddr, E.load, E.store, binO, isC, bin, ibin, sbin, una, isShift, okCell, packV, lenV, blt, fnV, asArg, snapV, snapS, snapP, snapC, flatV, flatT, openK, layBack, allT, allZ, mkS, srcOf0, unN, idxV, nilEq, give, tupV, mkEnv, extV, pickV, LVS, OVS, LTS, TYS, PMS, pmT, Int.reduceToNat, Nat.reduceGT, ↓reduceIte, Nat.reduceAdd, Nat.reduceMul, Nat.reduceSub, Nat.reduceEqDiff, Nat.reduceLeDiff, Nat.reduceLT, Nat.reduceBEq, Int.reduceBEq, Int.reduceBNe, Int.reduceEq, Int.reduceLT, Int.reduceLE, Int.reduceGT, Int.reduceNeg, reduceCtorEq, Int.cast_ofNat_Int, getE_zero, getE_one, getE_two, Option.isSome_none, h1, h3, ge_iff_le]
  · simp (disch := ((try simp only [List.length_cons, List.length_append, List.length_nil, List.length_map]); omega)) only [↓GO, ↓DRW, GA, ren, renB, footX, refs, cellsV, cst, cstAt, nilC, idxAddr, E.load, E.store, binO, isC, bin, ibin, sbin, una, isShift, okCell, packV, lenV, blt, fnV, asArg, snapV, snapS, snapP, snapC, flatV, flatT, openK, layBack, allT, allZ, mkS, srcOf0, unN, idxV, nilEq, give, tupV, mkEnv, extV, pickV, LVS, OVS, LTS, TYS, PMS, pmT, Int.reduceToNat, Nat.reduceGT, ↓reduceIte, Nat.reduceAdd, Nat.reduceMul, Nat.reduceSub, Nat.reduceEqDiff, Nat.reduceLeDiff, Nat.reduceLT, Nat.reduceBEq, Int.reduceBEq, Int.reduceBNe, Int.reduceEq, Int.reduceLT, Int.reduceLE, Int.reduceGT, Int.reduceNeg, reduceCtorEq, Int.cast_ofNat_Int, getE_zero, getE_one, getE_two, Option.isSome_none, h1]
theorem c_preB (b : UInt8) : callPure (EV Tryz.prog pol) 383 [.t (.int .u8 (b.toNat : Int))] = some (.t (.bool (preB b))) := by
  have h1 := c_isLetter (b.toNat : Int)
  have h2 := c_isDigit (b.toNat : Int)
  apply eq_call
  refine call_eq rfl Tryz.func383 rfl (by kernel_rfl) ?_
  unfold Tryz.f383
  unfold preB
  simp only [nb]
  cases h3 : B2 (b.toNat : Int) 97 122 <;> cases h4 : B2 (b.toNat : Int) 65 90 <;> cases h5 : B2 (b.toNat : Int) 48 57 <;> rw [h3, h4] at h1 <;> rw [h5] at h2 <;>
    simp (disch := ((try simp only [List.length_cons, List.length_append, List.length_nil, List.length_map]); omega)) only [↓GO, ↓DRW, GA, ren, renB, footX, refs, cellsV, cst, cstAt, nilC, idxAddr, E.load, E.store, binO, isC, bin, ibin, sbin, una, isShift, okCell, packV, lenV, blt, fnV, asArg, snapV, snapS, snapP, snapC, flatV, flatT, openK, layBack, allT, allZ, mkS, srcOf0, unN, idxV, nilEq, give, tupV, mkEnv, extV, pickV, LVS, OVS, LTS, TYS, PMS, pmT, Int.reduceToNat, Nat.reduceGT, ↓reduceIte, Nat.reduceAdd, Nat.reduceMul, Nat.reduceSub, Nat.reduceEqDiff, Nat.reduceLeDiff, Nat.reduceLT, Nat.reduceBEq, Int.reduceBEq, Int.reduceBNe, Int.reduceEq, Int.reduceLT, Int.reduceLE, Int.reduceGT, Int.reduceNeg, reduceCtorEq, Int.cast_ofNat_Int, getE_zero, getE_one, getE_two, Option.isSome_none, h1, h2]
theorem c_isDig (b : UInt8) : callPure (EV Tryz.prog pol) 188 [.t (.int .u8 (b.toNat : Int))] = some (.t (.bool (isD b))) := by
  rw [c_isDigit, isD_u8]
theorem c_isNum (s : Str) (hl : s.length ≤ 9223372036854775807) : callPure (EV Tryz.prog pol) 355 [.t (.str s)] = some (.t (.bool (isNum s))) := by
  have h := c_all 188 isD c_isDig s hl
  apply eq_call
  refine call_eq rfl Tryz.func355 rfl (by kernel_rfl) ?_
  unfold Tryz.f355
  unfold isNum
  cases h1 : (s == []) <;> simp (disch := ((try simp only [List.length_cons, List.length_append, List.length_nil, List.length_map]); omega)) only [↓GO, ↓DRW, GA, ren, renB, footX, refs, cellsV, cst, cstAt, nilC, idxAddr, E.load, E.store, binO, isC, bin, ibin, sbin, una, isShift, okCell, packV, lenV, blt, fnV, asArg, snapV, snapS, snapP, snapC, flatV, flatT, openK, layBack, allT, allZ, mkS, srcOf0, unN, idxV, nilEq, give, tupV, mkEnv, extV, pickV, LVS, OVS, LTS, TYS, PMS, pmT, Int.reduceToNat, Nat.reduceGT, ↓reduceIte, Nat.reduceAdd, Nat.reduceMul, Nat.reduceSub, Nat.reduceEqDiff, Nat.reduceLeDiff, Nat.reduceLT, Nat.reduceBEq, Int.reduceBEq, Int.reduceBNe, Int.reduceEq, Int.reduceLT, Int.reduceLE, Int.reduceGT, Int.reduceNeg, reduceCtorEq, Int.cast_ofNat_Int, getE_zero, getE_one, getE_two, Option.isSome_none, h, h1, bne]
theorem l_vokI1 (x1 x2 x3 x4 : T) (a b c : Int) :
    EV Tryz.prog pol (.loop 354 26 0 [.ptr 0 0 0, .sl 1 0 3 (some 3), .t (.int .i64 3), .t (.int .i64 0)] [.vs 4 [[.t x1, .t x2, .t x3, .t x4]], .ts 1 [[.int .i64 a], [.int .i64 b], [.int .i64 c]]])
    = some (cond (n9 a && (n9 b && n9 c)) (.loop (.exit 0) [.ptr 0 0 0, .bad] [.vs 4 [[.t x1, .t x2, .t x3, .t x4]]]) (.loop .ret [.ptr 0 0 0, .t (.bool false)] [.vs 4 [[.t x1, .t x2, .t x3, .t x4]]])) := by
  have ha := c_within a 0 999999999
  have hb := c_within b 0 999999999
  have hc := c_within c 0 999999999
  rw [n9_B2] at ha hb hc
  cases h1 : n9 a <;> rw [h1] at ha
  · refine loop_eq Tryz.func354 rfl rfl ?_
    simp (disch := ((try simp only [List.length_cons, List.length_append, List.length_nil, List.length_map]); omega)) only [↓GO, ↓DRW, GA, ren, renB, footX, refs, cellsV, cst, cstAt, nilC, idxAddr, E.load, E.store, binO, isC, bin, ibin, sbin, una, isShift, okCell, packV, lenV, blt, fnV, asArg, snapV, snapS, snapP, snapC, flatV, flatT, openK, layBack, allT, allZ, mkS, srcOf0, unN, idxV, nilEq, give, tupV, mkEnv, extV, pickV, LVS, OVS, LTS, TYS, PMS, pmT, Int.reduceToNat, Nat.reduceGT, ↓reduceIte, Nat.reduceAdd, Nat.reduceMul, Nat.reduceSub, Nat.reduceEqDiff, Nat.reduceLeDiff, Nat.reduceLT, Nat.reduceBEq, Int.reduceBEq, Int.reduceBNe, Int.reduceEq, Int.reduceLT, Int.reduceLE, Int.reduceGT, Int.reduceNeg, reduceCtorEq, Int.cast_ofNat_Int, getE_zero, getE_one, getE_two, Option.isSome_none, ha, wrap_in, rch3, Int.cast_ofNat_Int]
  · refine loop_eq Tryz.func354 rfl rfl ?_
    simp (disch := ((try simp only [List.length_cons, List.length_append, List.length_nil, List.length_map]); omega)) only [↓GO, ↓DRW, GA, ren, renB, footX, refs, cellsV, cst, cstAt, nilC, idxAddr, E.load, E.store, binO, isC, bin, ibin, sbin, una, isShift, okCell, packV, lenV, blt, fnV, asArg, snapV, snapS, snapP, snapC, flatV, flatT, openK, layBack, allT, allZ, mkS, srcOf0, unN, idxV, nilEq, give, tupV, mkEnv, extV, pickV, LVS, OVS, LTS, TYS, PMS, pmT, Int.reduceToNat, Nat.reduceGT, ↓reduceIte, Nat.reduceAdd, Nat.reduceMul, Nat.reduceSub, Nat.reduceEqDiff, Nat.reduceLeDiff, Nat.reduceLT, Nat.reduceBEq, Int.reduceBEq, Int.reduceBNe, Int.reduceEq, Int.reduceLT, Int.reduceLE, Int.reduceGT, Int.reduceNeg, reduceCtorEq, Int.cast_ofNat_Int, getE_zero, getE_one, getE_two, Option.isSome_none, ha, wrap_in, rch3, Int.cast_ofNat_Int]
    cases h2 : n9 b <;> rw [h2] at hb
    · refine loop_eq Tryz.func354 rfl rfl ?_
      simp (disch := ((try simp only [List.length_cons, List.length_append, List.length_nil, List.length_map]); omega)) only [↓GO, ↓DRW, GA, ren, renB, footX, refs, cellsV, cst, cstAt, nilC, idxAddr, E.load, E.store, binO, isC, bin, ibin, sbin, una, isShift, okCell, packV, lenV, blt, fnV, asArg, snapV, snapS, snapP, snapC, flatV, flatT, openK, layBack, allT, allZ, mkS, srcOf0, unN, idxV, nilEq, give, tupV, mkEnv, extV, pickV, LVS, OVS, LTS, TYS, PMS, pmT, Int.reduceToNat, Nat.reduceGT, ↓reduceIte, Nat.reduceAdd, Nat.reduceMul, Nat.reduceSub, Nat.reduceEqDiff, Nat.reduceLeDiff, Nat.reduceLT, Nat.reduceBEq, Int.reduceBEq, Int.reduceBNe, Int.reduceEq, Int.reduceLT, Int.reduceLE, Int.reduceGT, Int.reduceNeg, reduceCtorEq, Int.cast_ofNat_Int, getE_zero, getE_one, getE_two, Option.isSome_none, hb, wrap_in, Int.zero_add, rch3, Int.cast_ofNat_Int, Int.reduceAdd]
    · refine loop_eq Tryz.func354 rfl rfl ?_
      simp (disch := ((try simp only [List.length_cons, List.length_append, List.length_nil, List.length_map]); omega)) only [↓GO, ↓DRW, GA, ren, renB, footX, refs, cellsV, cst, cstAt, nilC, idxAddr, E.load, E.store, binO, isC, bin, ibin, sbin, una, isShift, okCell, packV, lenV, blt, fnV, asArg, snapV, snapS, snapP, snapC, flatV, flatT, openK, layBack, allT, allZ, mkS, srcOf0, unN, idxV, nilEq, give, tupV, mkEnv, extV, pickV, LVS, OVS, LTS, TYS, PMS, pmT, Int.reduceToNat, Nat.reduceGT, ↓reduceIte, Nat.reduceAdd, Nat.reduceMul, Nat.reduceSub, Nat.reduceEqDiff, Nat.reduceLeDiff, Nat.reduceLT, Nat.reduceBEq, Int.reduceBEq, Int.reduceBNe, Int.reduceEq, Int.reduceLT, Int.reduceLE, Int.reduceGT, Int.reduceNeg, reduceCtorEq, Int.cast_ofNat_Int, getE_zero, getE_one, getE_two, Option.isSome_none, hb, wrap_in, Int.zero_add, rch3, Int.cast_ofNat_Int, Int.reduceAdd]
      cases h3 : n9 c <;> rw [h3] at hc
      · refine loop_eq Tryz.func354 rfl rfl ?_
        simp (disch := ((try simp only [List.length_cons, List.length_append, List.length_nil, List.length_map]); omega)) only [↓GO, ↓DRW, GA, ren, renB, footX, refs, cellsV, cst, cstAt, nilC, idxAddr, E.load, E.store, binO, isC, bin, ibin, sbin, una, isShift, okCell, packV, lenV, blt, fnV, asArg, snapV, snapS, snapP, snapC, flatV, flatT, openK, layBack, allT, allZ, mkS, srcOf0, unN, idxV, nilEq, give, tupV, mkEnv, extV, pickV, LVS, OVS, LTS, TYS, PMS, pmT, Int.reduceToNat, Nat.reduceGT, ↓reduceIte, Nat.reduceAdd, Nat.reduceMul, Nat.reduceSub, Nat.reduceEqDiff, Nat.reduceLeDiff, Nat.reduceLT, Nat.reduceBEq, Int.reduceBEq, Int.reduceBNe, Int.reduceEq, Int.reduceLT, Int.reduceLE, Int.reduceGT, Int.reduceNeg, reduceCtorEq, Int.cast_ofNat_Int, getE_zero, getE_one, getE_two, Option.isSome_none, hc, wrap_in, Int.zero_add, rch3, Int.cast_ofNat_Int, Int.reduceAdd]
      · refine loop_eq Tryz.func354 rfl rfl ?_
        simp (disch := ((try simp only [List.length_cons, List.length_append, List.length_nil, List.length_map]); omega)) only [↓GO, ↓DRW, GA, ren, renB, footX, refs, cellsV, cst, cstAt, nilC, idxAddr, E.load, E.store, binO, isC, bin, ibin, sbin, una, isShift, okCell, packV, lenV, blt, fnV, asArg, snapV, snapS, snapP, snapC, flatV, flatT, openK, layBack, allT, allZ, mkS, srcOf0, unN, idxV, nilEq, give, tupV, mkEnv, extV, pickV, LVS, OVS, LTS, TYS, PMS, pmT, Int.reduceToNat, Nat.reduceGT, ↓reduceIte, Nat.reduceAdd, Nat.reduceMul, Nat.reduceSub, Nat.reduceEqDiff, Nat.reduceLeDiff, Nat.reduceLT, Nat.reduceBEq, Int.reduceBEq, Int.reduceBNe, Int.reduceEq, Int.reduceLT, Int.reduceLE, Int.reduceGT, Int.reduceNeg, reduceCtorEq, Int.cast_ofNat_Int, getE_zero, getE_one, getE_two, Option.isSome_none, hc, wrap_in, Int.zero_add, rch3, Int.cast_ofNat_Int, Int.reduceAdd]
        refine loop_eq Tryz.func354 rfl rfl ?_
        simp (disch := ((try simp only [List.length_cons, List.length_append, List.length_nil, List.length_map]); omega)) only [↓GO, ↓DRW, GA, ren, renB, footX, refs, cellsV, cst, cstAt, nilC, idxAddr, E.load, E.store, binO, isC, bin, ibin, sbin, una, isShift, okCell, packV, lenV, blt, fnV, asArg, snapV, snapS, snapP, snapC, flatV, flatT, openK, layBack, allT, allZ, mkS, srcOf0, unN, idxV, nilEq, give, tupV, mkEnv, extV, pickV, LVS, OVS, LTS, TYS, PMS, pmT, Int.reduceToNat, Nat.reduceGT, ↓reduceIte, Nat.reduceAdd, Nat.reduceMul, Nat.reduceSub, Nat.reduceEqDiff, Nat.reduceLeDiff, Nat.reduceLT, Nat.reduceBEq, Int.reduceBEq, Int.reduceBNe, Int.reduceEq, Int.reduceLT, Int.reduceLE, Int.reduceGT, Int.reduceNeg, reduceCtorEq, Int.cast_ofNat_Int, getE_zero, getE_one, getE_two, Option.isSome_none, wrap_in, Int.zero_add, rch3, Int.cast_ofNat_Int, Int.reduceAdd]
theorem l_vokI2 (v : Ver) (hs : v.sm) : ∀ (rest pre : List Str), v.pre = pre ++ rest →
    EV Tryz.prog pol (.loop 354 58 0 [.ptr 0 0 0, .t (.list 1 (strs v.pre)), .t (.int .i64 (v.pre.length : Int)), .t (.int .i64 (pre.length : Int))] [.vs 4 [v.enc.map .t]])
    = some (cond (rest.all preOk) (.loop (.exit 2) [.ptr 0 0 0, .bad] [.vs 4 [v.enc.map .t]]) (.loop .ret [.ptr 0 0 0, .t (.bool false)] [.vs 4 [v.enc.map .t]]))
  | [], pre, hp => by
    have c : decide ((pre.length : Int) < (v.pre.length : Int)) = false := by simp [hp]
    refine loop_eq Tryz.func354 rfl rfl ?_
    simp only [↓GO, ↓DRW, GA, ren, renB, footX, refs, cellsV, cst, cstAt, nilC, idxAddr, E.load, E.store, binO, isC, bin, ibin, sbin, una, isShift, okCell, packV, lenV, blt, fnV, asArg, snapV, snapS, snapP, snapC, flatV, flatT, openK, layBack, allT, allZ, mkS, srcOf0, unN, idxV, nilEq, give, tupV, mkEnv, extV, pickV, LVS, OVS, LTS, TYS, PMS, pmT, Int.reduceToNat, Nat.reduceGT, ↓reduceIte, Nat.reduceAdd, Nat.reduceMul, Nat.reduceSub, Nat.reduceEqDiff, Nat.reduceLeDiff, Nat.reduceLT, Nat.reduceBEq, Int.reduceBEq, Int.reduceBNe, Int.reduceEq, Int.reduceLT, Int.reduceLE, Int.reduceGT, Int.reduceNeg, reduceCtorEq, c, Ver.enc]
  | x :: rest, pre, hp => by
    unfold Ver.sm at hs
    have c : decide ((pre.length : Int) < (v.pre.length : Int)) = true := by simp [hp]; omega
    have hget : (strs v.pre)[pre.length]? = some [.str x] := by rw [hp]; exact strs_zip pre x rest
    have hlen : pre.length + rest.length + 1 ≤ v.pre.length := by rw [hp]; simp; omega
    have hx : x.length ≤ 2097152 := by have := bulk_mem (ks := v.pre) (s := x) (by rw [hp]; simp); omega
    have IH := l_vokI2 v hs rest (pre ++ [x]) (by rw [hp]; simp)
    rw [show ((pre ++ [x]).length : Int) = (pre.length : Int) + 1 by simp] at IH
    have h1 := c_within (x.length : Int) 1 20
    have h2 := c_all 383 preB c_preB x (by omega)
    have h3 := c_isNum x (by omega)
    have h4 := c_rdI x (by omega)
    clear hp
    simp only [Ver.enc, List.map_cons, List.map_nil] at IH ⊢
    rw [List.all_cons, preOk]
    have e4 : decide (readDec x < 0) = !decide (0 ≤ readDec x) := by
      rcases Int.lt_or_le (readDec x) 0 with h | h
      · have a : ¬ (0 ≤ readDec x) := by omega
        simp [h, a]
      · have a : ¬ (readDec x < 0) := by omega
        simp [h, a]
    generalize B2 (x.length : Int) 1 20 = b1 at *
    generalize x.all preB = b2 at *
    generalize isNum x = b3 at *
    generalize readDec x = rd at *
    generalize decide (0 ≤ rd) = b4 at *
    cases b1 <;> cases b2 <;> cases b3 <;> cases b4 <;> refine loop_eq Tryz.func354 rfl rfl ?_ <;>
      simp (disch := ((try simp only [List.length_cons, List.length_append, List.length_nil, List.length_map]); omega)) only [↓GO, ↓DRW, GA, ren, renB, footX, refs, cellsV, cst, cstAt, nilC, idxAddr, E.load, E.store, binO, isC, bin, ibin, sbin, una, isShift, okCell, packV, lenV, blt, fnV, asArg, snapV, snapS, snapP, snapC, flatV, flatT, openK, layBack, allT, allZ, mkS, srcOf0, unN, idxV, nilEq, give, tupV, mkEnv, extV, pickV, LVS, OVS, LTS, TYS, PMS, pmT, Int.reduceToNat, Nat.reduceGT, ↓reduceIte, Nat.reduceAdd, Nat.reduceMul, Nat.reduceSub, Nat.reduceEqDiff, Nat.reduceLeDiff, Nat.reduceLT, Nat.reduceBEq, Int.reduceBEq, Int.reduceBNe, Int.reduceEq, Int.reduceLT, Int.reduceLE, Int.reduceGT, Int.reduceNeg, reduceCtorEq, Int.cast_ofNat_Int, getE_zero, getE_one, getE_two, Option.isSome_none, c, hget, wrap_in, h1, h2, h3, h4, e4, strs_len, IH, rch3]
theorem c_vokI (v : Ver) (hs : v.sm) : callPure (EV Tryz.prog pol) 354 [.agg (v.enc.map .t)] = some (.t (.bool (verOk v))) := by
  have h1 := l_vokI1 (.int .i64 v.maj) (.int .i64 v.min) (.int .i64 v.pat) (.list 1 (strs v.pre)) v.maj v.min v.pat
  have h2 := l_vokI2 v hs v.pre [] rfl
  unfold Ver.sm at hs
  simp only [List.length_nil, Int.natCast_zero] at h2
  simp only [Ver.enc, List.map_cons, List.map_nil] at h1 h2 ⊢
  unfold verOk
  generalize (n9 v.maj && (n9 v.min && n9 v.pat)) = b1 at *
  generalize v.pre.all preOk = b2 at *
  apply eq_call
  refine call_eq rfl Tryz.func354 rfl (by kernel_rfl) ?_
  unfold Tryz.f354
  cases b1 <;> cases b2 <;> simp only [cond_true, cond_false] at h1 h2 <;>
    simp (disch := ((try simp only [List.length_cons, List.length_append, List.length_nil, List.length_map]); omega)) only [↓GO, ↓DRW, GA, ren, renB, footX, refs, cellsV, cst, cstAt, nilC, idxAddr, E.load, E.store, binO, isC, bin, ibin, sbin, una, isShift, okCell, packV, lenV, blt, fnV, asArg, snapV, snapS, snapP, snapC, flatV, flatT, openK, layBack, allT, allZ, mkS, srcOf0, unN, idxV, nilEq, give, tupV, mkEnv, extV, pickV, LVS, OVS, LTS, TYS, PMS, pmT, Int.reduceToNat, Nat.reduceGT, ↓reduceIte, Nat.reduceAdd, Nat.reduceMul, Nat.reduceSub, Nat.reduceEqDiff, Nat.reduceLeDiff, Nat.reduceLT, Nat.reduceBEq, Int.reduceBEq, Int.reduceBNe, Int.reduceEq, Int.reduceLT, Int.reduceLE, Int.reduceGT, Int.reduceNeg, reduceCtorEq, Int.cast_ofNat_Int, getE_zero, getE_one, getE_two, Option.isSome_none, h1, h2, strs_len, rch3, Int.cast_ofNat_Int]
theorem c_great (b : UInt8) : callPure (EV Tryz.prog pol) 378 [.t (.int .u8 (b.toNat : Int))] = some (.t (.bool (B2 (b.toNat : Int) 65 90))) := by
  have h := c_l01In (b.toNat : Int) 65 90
  apply eq_call
  refine call_eq rfl Tryz.func378 rfl (by kernel_rfl) ?_
  unfold Tryz.f378
  simp (disch := ((try simp only [List.length_cons, List.length_append, List.length_nil, List.length_map]); omega)) only [↓GO, ↓DRW, GA, ren, renB, footX, refs, cellsV, cst, cstAt, nilC, idxAddr, E.load, E.store, binO, isC, bin, ibin, sbin, una, isShift, okCell, packV, lenV, blt, fnV, asArg, snapV, snapS, snapP, snapC, flatV, flatT, openK, layBack, allT, allZ, mkS, srcOf0, unN, idxV, nilEq, give, tupV, mkEnv, extV, pickV, LVS, OVS, LTS, TYS, PMS, pmT, Int.reduceToNat, Nat.reduceGT, ↓reduceIte, Nat.reduceAdd, Nat.reduceMul, Nat.reduceSub, Nat.reduceEqDiff, Nat.reduceLeDiff, Nat.reduceLT, Nat.reduceBEq, Int.reduceBEq, Int.reduceBNe, Int.reduceEq, Int.reduceLT, Int.reduceLE, Int.reduceGT, Int.reduceNeg, reduceCtorEq, Int.cast_ofNat_Int, getE_zero, getE_one, getE_two, Option.isSome_none, h, conv, wrap_u8]
theorem l_digR (s : Str) (hl : s.length ≤ 2097152) : ∀ (rest pre : Str), s = pre ++ rest →
    EV Tryz.prog pol (.loop 379 26 0 [.t (.str s), .t (.int .i64 (pre.length : Int))] []) = some (cond (rest.all isD) (.loop (.exit 0) [.t (.str s), .bad] []) (.loop .ret [.t (.str s), .t (.bool false)] []))
  | [], pre, hs => by
    have c : decide ((pre.length : Int) < (s.length : Int)) = false := by simp [hs]
    refine loop_eq Tryz.func379 rfl rfl ?_
    simp only [↓GO, ↓DRW, GA, ren, renB, footX, refs, cellsV, cst, cstAt, nilC, idxAddr, E.load, E.store, binO, isC, bin, ibin, sbin, una, isShift, okCell, packV, lenV, blt, fnV, asArg, snapV, snapS, snapP, snapC, flatV, flatT, openK, layBack, allT, allZ, mkS, srcOf0, unN, idxV, nilEq, give, tupV, mkEnv, extV, pickV, LVS, OVS, LTS, TYS, PMS, pmT, Int.reduceToNat, Nat.reduceGT, ↓reduceIte, Nat.reduceAdd, Nat.reduceMul, Nat.reduceSub, Nat.reduceEqDiff, Nat.reduceLeDiff, Nat.reduceLT, Nat.reduceBEq, Int.reduceBEq, Int.reduceBNe, Int.reduceEq, Int.reduceLT, Int.reduceLE, Int.reduceGT, Int.reduceNeg, reduceCtorEq, c]
  | b :: rest, pre, hs => by
    have c : decide ((pre.length : Int) < (s.length : Int)) = true := by simp [hs]; omega
    have hget : s[pre.length]? = some b := by rw [hs]; exact at_zip pre b rest
    have hlen : s.length = pre.length + rest.length + 1 := by rw [hs]; simp; omega
    have IH := l_digR s hl rest (pre ++ [b]) (by rw [hs]; simp)
    rw [show ((pre ++ [b]).length : Int) = (pre.length : Int) + 1 by simp] at IH
    have hb := c_l01In (b.toNat : Int) 48 57
    rw [isD_u8] at hb
    clear hs
    refine loop_eq Tryz.func379 rfl rfl ?_
    cases h1 : isD b <;> rw [h1] at hb <;>
      simp (disch := ((try simp only [List.length_cons, List.length_append, List.length_nil, List.length_map]); omega)) only [↓GO, ↓DRW, GA, ren, renB, footX, refs, cellsV, cst, cstAt, nilC, idxAddr, E.load, E.store, binO, isC, bin, ibin, sbin, una, isShift, okCell, packV, lenV, blt, fnV, asArg, snapV, snapS, snapP, snapC, flatV, flatT, openK, layBack, allT, allZ, mkS, srcOf0, unN, idxV, nilEq, give, tupV, mkEnv, extV, pickV, LVS, OVS, LTS, TYS, PMS, pmT, Int.reduceToNat, Nat.reduceGT, ↓reduceIte, Nat.reduceAdd, Nat.reduceMul, Nat.reduceSub, Nat.reduceEqDiff, Nat.reduceLeDiff, Nat.reduceLT, Nat.reduceBEq, Int.reduceBEq, Int.reduceBNe, Int.reduceEq, Int.reduceLT, Int.reduceLE, Int.reduceGT, Int.reduceNeg, reduceCtorEq, Int.cast_ofNat_Int, getE_zero, getE_one, getE_two, Option.isSome_none, c, hget, wrap_in, conv, wrap_u8, hb, h1, IH]
theorem c_digR (s : Str) (hl : s.length ≤ 2097152) : callPure (EV Tryz.prog pol) 379 [.t (.str s)] = some (.t (.bool (isNum s))) := by
  have IH := l_digR s hl s [] rfl
  simp only [List.length_nil, Int.natCast_zero] at IH
  apply eq_call
  refine call_eq rfl Tryz.func379 rfl (by kernel_rfl) ?_
  unfold Tryz.f379
  unfold isNum
  cases h1 : s.all isD <;> rw [h1] at IH <;> simp only [cond_true, cond_false] at IH <;>
    simp (disch := ((try simp only [List.length_cons, List.length_append, List.length_nil, List.length_map]); omega)) only [↓GO, ↓DRW, GA, ren, renB, footX, refs, cellsV, cst, cstAt, nilC, idxAddr, E.load, E.store, binO, isC, bin, ibin, sbin, una, isShift, okCell, packV, lenV, blt, fnV, asArg, snapV, snapS, snapP, snapC, flatV, flatT, openK, layBack, allT, allZ, mkS, srcOf0, unN, idxV, nilEq, give, tupV, mkEnv, extV, pickV, LVS, OVS, LTS, TYS, PMS, pmT, Int.reduceToNat, Nat.reduceGT, ↓reduceIte, Nat.reduceAdd, Nat.reduceMul, Nat.reduceSub, Nat.reduceEqDiff, Nat.reduceLeDiff, Nat.reduceLT, Nat.reduceBEq, Int.reduceBEq, Int.reduceBNe, Int.reduceEq, Int.reduceLT, Int.reduceLE, Int.reduceGT, Int.reduceNeg, reduceCtorEq, Int.cast_ofNat_Int, getE_zero, getE_one, getE_two, Option.isSome_none, IH, bne]
theorem l_preR (s : Str) (hl : s.length ≤ 2097152) : ∀ (rest pre : Str), s = pre ++ rest →
    EV Tryz.prog pol (.loop 344 26 0 [.t (.str s), .t (.int .i64 (pre.length : Int))] []) = some (cond (rest.all preB) (.loop (.exit 0) [.t (.str s), .bad] []) (.loop .ret [.t (.str s), .t (.bool false)] []))
  | [], pre, hs => by
    have c : decide ((pre.length : Int) < (s.length : Int)) = false := by simp [hs]
    refine loop_eq Tryz.func344 rfl rfl ?_
    simp only [↓GO, ↓DRW, GA, ren, renB, footX, refs, cellsV, cst, cstAt, nilC, idxAddr, E.load, E.store, binO, isC, bin, ibin, sbin, una, isShift, okCell, packV, lenV, blt, fnV, asArg, snapV, snapS, snapP, snapC, flatV, flatT, openK, layBack, allT, allZ, mkS, srcOf0, unN, idxV, nilEq, give, tupV, mkEnv, extV, pickV, LVS, OVS, LTS, TYS, PMS, pmT, Int.reduceToNat, Nat.reduceGT, ↓reduceIte, Nat.reduceAdd, Nat.reduceMul, Nat.reduceSub, Nat.reduceEqDiff, Nat.reduceLeDiff, Nat.reduceLT, Nat.reduceBEq, Int.reduceBEq, Int.reduceBNe, Int.reduceEq, Int.reduceLT, Int.reduceLE, Int.reduceGT, Int.reduceNeg, reduceCtorEq, c]
  | b :: rest, pre, hs => by
    have c : decide ((pre.length : Int) < (s.length : Int)) = true := by simp [hs]; omega
    have hget : s[pre.length]? = some b := by rw [hs]; exact at_zip pre b rest
    have hlen : s.length = pre.length + rest.length + 1 := by rw [hs]; simp; omega
    have IH := l_preR s hl rest (pre ++ [b]) (by rw [hs]; simp)
    rw [show ((pre ++ [b]).length : Int) = (pre.length : Int) + 1 by simp] at IH
    have hb := c_l01Letter b
    have hg := c_great b
    clear hs
    refine loop_eq Tryz.func344 rfl rfl ?_
    rw [List.all_cons, preB]
    simp only [nb] at *
    cases h1 : (B2 (b.toNat : Int) 97 122 || B2 (b.toNat : Int) 48 57) <;> rw [h1] at hb <;> cases h2 : B2 (b.toNat : Int) 65 90 <;> rw [h2] at hg <;> cases h3 : ((b.toNat : Int) == 45) <;>
      simp (disch := ((try simp only [List.length_cons, List.length_append, List.length_nil, List.length_map]); omega)) only [↓GO, ↓DRW, GA, ren, renB, footX, refs, cellsV, cst, cstAt, nilC, idxAddr, E.load, E.store, binO, isC, bin, ibin, sbin, una, isShift, okCell, packV, lenV, blt, fnV, asArg, snapV, snapS, snapP, snapC, flatV, flatT, openK, layBack, allT, allZ, mkS, srcOf0, unN, idxV, nilEq, give, tupV, mkEnv, extV, pickV, LVS, OVS, LTS, TYS, PMS, pmT, Int.reduceToNat, Nat.reduceGT, ↓reduceIte, Nat.reduceAdd, Nat.reduceMul, Nat.reduceSub, Nat.reduceEqDiff, Nat.reduceLeDiff, Nat.reduceLT, Nat.reduceBEq, Int.reduceBEq, Int.reduceBNe, Int.reduceEq, Int.reduceLT, Int.reduceLE, Int.reduceGT, Int.reduceNeg, reduceCtorEq, Int.cast_ofNat_Int, getE_zero, getE_one, getE_two, Option.isSome_none, c, hget, wrap_in, hb, hg, h3, bne, IH]
theorem c_preR (s : Str) (hl : s.length ≤ 2097152) : callPure (EV Tryz.prog pol) 344 [.t (.str s)] = some (.t (.bool (preOk s))) := by
  have IH := l_preR s hl s [] rfl
  simp only [List.length_nil, Int.natCast_zero] at IH
  have h1 := c_l01In (s.length : Int) 1 20
  have h3 := c_digR s hl
  have h4 := c_rdR s (by omega)
  apply eq_call
  refine call_eq rfl Tryz.func344 rfl (by kernel_rfl) ?_
  unfold Tryz.f344
  unfold preOk
  generalize B2 (s.length : Int) 1 20 = b1 at *
  generalize isNum s = b3 at *
  generalize readDec s = rd at *
  cases ha : s.all preB <;> rw [ha] at IH <;> simp only [cond_true, cond_false] at IH <;> cases b1 <;> cases b3 <;>
    simp (disch := ((try simp only [List.length_cons, List.length_append, List.length_nil, List.length_map]); omega)) only [↓GO, ↓DRW, GA, ren, renB, footX, refs, cellsV, cst, cstAt, nilC, idxAddr, E.load, E.store, binO, isC, bin, ibin, sbin, una, isShift, okCell, packV, lenV, blt, fnV, asArg, snapV, snapS, snapP, snapC, flatV, flatT, openK, layBack, allT, allZ, mkS, srcOf0, unN, idxV, nilEq, give, tupV, mkEnv, extV, pickV, LVS, OVS, LTS, TYS, PMS, pmT, Int.reduceToNat, Nat.reduceGT, ↓reduceIte, Nat.reduceAdd, Nat.reduceMul, Nat.reduceSub, Nat.reduceEqDiff, Nat.reduceLeDiff, Nat.reduceLT, Nat.reduceBEq, Int.reduceBEq, Int.reduceBNe, Int.reduceEq, Int.reduceLT, Int.reduceLE, Int.reduceGT, Int.reduceNeg, reduceCtorEq, Int.cast_ofNat_Int, getE_zero, getE_one, getE_two, Option.isSome_none, IH, h1, h3, h4, ge_iff_le]
theorem l_vokR (v : Ver) (hs : v.sm) : ∀ (rest pre : List Str), v.pre = pre ++ rest →
    EV Tryz.prog pol (.loop 303 26 0 [.ptr 0 0 0, .t (.int .i64 (pre.length : Int))] [.vs 4 [v.enc.map .t]])
    = some (cond (rest.all preOk) (.loop (.exit 0) [.ptr 0 0 0, .bad] [.vs 4 [v.enc.map .t]]) (.loop .ret [.ptr 0 0 0, .t (.bool false)] [.vs 4 [v.enc.map .t]]))
  | [], pre, hp => by
    have c : decide ((pre.length : Int) < (v.pre.length : Int)) = false := by simp [hp]
    refine loop_eq Tryz.func303 rfl rfl ?_
    simp only [↓GO, ↓DRW, GA, ren, renB, footX, refs, cellsV, cst, cstAt, nilC, idxAddr, E.load, E.store, binO, isC, bin, ibin, sbin, una, isShift, okCell, packV, lenV, blt, fnV, asArg, snapV, snapS, snapP, snapC, flatV, flatT, openK, layBack, allT, allZ, mkS, srcOf0, unN, idxV, nilEq, give, tupV, mkEnv, extV, pickV, LVS, OVS, LTS, TYS, PMS, pmT, Int.reduceToNat, Nat.reduceGT, ↓reduceIte, Nat.reduceAdd, Nat.reduceMul, Nat.reduceSub, Nat.reduceEqDiff, Nat.reduceLeDiff, Nat.reduceLT, Nat.reduceBEq, Int.reduceBEq, Int.reduceBNe, Int.reduceEq, Int.reduceLT, Int.reduceLE, Int.reduceGT, Int.reduceNeg, reduceCtorEq, strs_len, c, Ver.enc]
  | x :: rest, pre, hp => by
    unfold Ver.sm at hs
    have c : decide ((pre.length : Int) < (v.pre.length : Int)) = true := by simp [hp]; omega
    have hget : (strs v.pre)[pre.length]? = some [.str x] := by rw [hp]; exact strs_zip pre x rest
    have hlen : pre.length + rest.length + 1 ≤ v.pre.length := by rw [hp]; simp; omega
    have hx : x.length ≤ 2097152 := by have := bulk_mem (ks := v.pre) (s := x) (by rw [hp]; simp); omega
    have IH := l_vokR v hs rest (pre ++ [x]) (by rw [hp]; simp)
    rw [show ((pre ++ [x]).length : Int) = (pre.length : Int) + 1 by simp] at IH
    have h1 := c_preR x hx
    clear hp
    simp only [Ver.enc, List.map_cons, List.map_nil] at IH ⊢
    cases h2 : preOk x <;> rw [h2] at h1 <;> refine loop_eq Tryz.func303 rfl rfl ?_ <;>
      simp (disch := ((try simp only [List.length_cons, List.length_append, List.length_nil, List.length_map]); omega)) only [↓GO, ↓DRW, GA, ren, renB, footX, refs, cellsV, cst, cstAt, nilC, idxAddr, E.load, E.store, binO, isC, bin, ibin, sbin, una, isShift, okCell, packV, lenV, blt, fnV, asArg, snapV, snapS, snapP, snapC, flatV, flatT, openK, layBack, allT, allZ, mkS, srcOf0, unN, idxV, nilEq, give, tupV, mkEnv, extV, pickV, LVS, OVS, LTS, TYS, PMS, pmT, Int.reduceToNat, Nat.reduceGT, ↓reduceIte, Nat.reduceAdd, Nat.reduceMul, Nat.reduceSub, Nat.reduceEqDiff, Nat.reduceLeDiff, Nat.reduceLT, Nat.reduceBEq, Int.reduceBEq, Int.reduceBNe, Int.reduceEq, Int.reduceLT, Int.reduceLE, Int.reduceGT, Int.reduceNeg, reduceCtorEq, Int.cast_ofNat_Int, getE_zero, getE_one, getE_two, Option.isSome_none, c, hget, wrap_in, h1, h2, strs_len, IH, rch3]
theorem c_vokR (v : Ver) (hs : v.sm) : callPure (EV Tryz.prog pol) 303 [.agg (v.enc.map .t)] = some (.t (.bool (verOk v))) := by
  have h2 := l_vokR v hs v.pre [] rfl
  have ha := c_l01In v.maj 0 999999999
  have hb := c_l01In v.min 0 999999999
  have hc := c_l01In v.pat 0 999999999
  rw [n9_B2] at ha hb hc
  unfold Ver.sm at hs
  simp only [List.length_nil, Int.natCast_zero] at h2
  simp only [Ver.enc, List.map_cons, List.map_nil] at h2 ⊢
  unfold verOk
  generalize n9 v.maj = b1 at *
  generalize n9 v.min = b3 at *
  generalize n9 v.pat = b4 at *
  generalize v.pre.all preOk = b2 at *
  apply eq_call
  refine call_eq rfl Tryz.func303 rfl (by kernel_rfl) ?_
  unfold Tryz.f303
  cases b2 <;> simp only [cond_true, cond_false] at h2 <;> cases b1 <;> cases b3 <;> cases b4 <;>
    simp (disch := ((try simp only [List.length_cons, List.length_append, List.length_nil, List.length_map]); omega)) only [↓GO, ↓DRW, GA, ren, renB, footX, refs, cellsV, cst, cstAt, nilC, idxAddr, E.load, E.store, binO, isC, bin, ibin, sbin, una, isShift, okCell, packV, lenV, blt, fnV, asArg, snapV, snapS, snapP, snapC, flatV, flatT, openK, layBack, allT, allZ, mkS, srcOf0, unN, idxV, nilEq, give, tupV, mkEnv, extV, pickV, LVS, OVS, LTS, TYS, PMS, pmT, Int.reduceToNat, Nat.reduceGT, ↓reduceIte, Nat.reduceAdd, Nat.reduceMul, Nat.reduceSub, Nat.reduceEqDiff, Nat.reduceLeDiff, Nat.reduceLT, Nat.reduceBEq, Int.reduceBEq, Int.reduceBNe, Int.reduceEq, Int.reduceLT, Int.reduceLE, Int.reduceGT, Int.reduceNeg, reduceCtorEq, Int.cast_ofNat_Int, getE_zero, getE_one, getE_two, Option.isSome_none, h2, ha, hb, hc, strs_len, rch3]
end Go.Proofs.YtkpmachalipmpaaGreatDoor

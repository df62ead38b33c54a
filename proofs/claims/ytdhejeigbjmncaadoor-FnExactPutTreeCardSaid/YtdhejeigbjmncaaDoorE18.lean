/- Where a walk stands at a test: its two roads. Conditions: those of each lemma. -/
import Derived.Test.YtdhejeigbjmncaaDoorE17
namespace Go.Proofs.YtdhejeigbjmncaaDoor.E
set_option linter.unusedVariables false
set_option linter.unusedSimpArgs false

section
variable {C : Cx} {a c : Code} {n : Nat} {fs : List Fr} {k : Fin'} {e : Env} {h : Heap} {r : Option Resp} {p : Prop} [Decidable p]
theorem cK_dec (ht : p → decide p = true → goC C a (2 * n) fs k e h = r) (hf : ¬ p → decide p = false → goC C c (2 * n + 1) fs k e h = r) : cK C (.t (.bool (decide p))) a c n fs k e h = r := by
  by_cases hp : p
  · have hd := decide_eq_true hp; rw [hd]; exact ht hp hd
  · have hd := decide_eq_false hp; rw [hd]; exact hf hp hd
theorem cK_ndec (ht : ¬ p → decide p = false → goC C a (2 * n) fs k e h = r) (hf : p → decide p = true → goC C c (2 * n + 1) fs k e h = r) : cK C (.t (.bool (!decide p))) a c n fs k e h = r := by
  by_cases hp : p
  · have hd := decide_eq_true hp; rw [hd]; exact hf hp hd
  · have hd := decide_eq_false hp; rw [hd]; exact ht hp hd
theorem cK_beq {α : Type} [BEq α] [LawfulBEq α] {x y : α} (ht : x = y → (x == y) = true → goC C a (2 * n) fs k e h = r) (hf : ¬ x = y → (x == y) = false → goC C c (2 * n + 1) fs k e h = r) : cK C (.t (.bool (x == y))) a c n fs k e h = r := by
  cases hb : x == y with
  | true => exact ht (eq_of_beq hb) hb
  | false => exact hf (by intro e; subst e; simp at hb) hb
theorem cK_bne {α : Type} [BEq α] [LawfulBEq α] {x y : α} (ht : ¬ x = y → (x == y) = false → goC C a (2 * n) fs k e h = r) (hf : x = y → (x == y) = true → goC C c (2 * n + 1) fs k e h = r) : cK C (.t (.bool (x != y))) a c n fs k e h = r := by
  unfold bne
  cases hb : x == y with
  | true => exact hf (eq_of_beq hb) hb
  | false => exact ht (by intro e; subst e; simp at hb) hb
theorem cK_nbeq {α : Type} [BEq α] [LawfulBEq α] {x y : α} (ht : ¬ x = y → (x == y) = false → goC C a (2 * n) fs k e h = r) (hf : x = y → (x == y) = true → goC C c (2 * n + 1) fs k e h = r) : cK C (.t (.bool (!(x == y)))) a c n fs k e h = r := cK_bne ht hf
theorem cK_any {b : Bool} (ht : b = true → goC C a (2 * n) fs k e h = r) (hf : b = false → goC C c (2 * n + 1) fs k e h = r) : cK C (.t (.bool b)) a c n fs k e h = r := cK_split ht hf
theorem cK_nany {b : Bool} (ht : b = false → goC C a (2 * n) fs k e h = r) (hf : b = true → goC C c (2 * n + 1) fs k e h = r) : cK C (.t (.bool (!b))) a c n fs k e h = r := by
  cases b with
  | true => exact hf rfl
  | false => exact ht rfl

variable {q : Rg} {o : Oper} {rest : List Oper} {w : Bool}
theorem gW_dec (ht : p → decide p = true → goW C (wantV (.t (.bool true)) w) q o rest fs k e h = r) (hf : ¬ p → decide p = false → goW C (wantV (.t (.bool false)) w) q o rest fs k e h = r) : goW C (wantV (.t (.bool (decide p))) w) q o rest fs k e h = r := by
  by_cases hp : p
  · have hd := decide_eq_true hp; rw [hd]; exact ht hp hd
  · have hd := decide_eq_false hp; rw [hd]; exact hf hp hd
theorem gW_beq {α : Type} [BEq α] [LawfulBEq α] {x y : α} (ht : x = y → (x == y) = true → goW C (wantV (.t (.bool true)) w) q o rest fs k e h = r) (hf : ¬ x = y → (x == y) = false → goW C (wantV (.t (.bool false)) w) q o rest fs k e h = r) : goW C (wantV (.t (.bool (x == y))) w) q o rest fs k e h = r := by
  cases hb : x == y with
  | true => exact ht (eq_of_beq hb) hb
  | false => exact hf (by intro e; subst e; simp at hb) hb
theorem gW_any {b : Bool} (ht : b = true → goW C (wantV (.t (.bool true)) w) q o rest fs k e h = r) (hf : b = false → goW C (wantV (.t (.bool false)) w) q o rest fs k e h = r) : goW C (wantV (.t (.bool b)) w) q o rest fs k e h = r := by
  cases b with
  | true => exact ht rfl
  | false => exact hf rfl
end
/-- what is left of a budget -/
def left (n : Int) (b : Nat) : Int := if n - (b : Int) < 0 then -1 else n - (b : Int)
theorem left_lt (n : Int) (b : Nat) : (left n b < 0) = (n < (b : Int)) := by unfold left; split <;> simp <;> omega
theorem left_eq {n : Int} {b : Nat} (h : (b : Int) ≤ n) : left n b = n - (b : Int) := by unfold left; rw [if_neg (by omega)]
theorem left_leaf {x n : Int} {b : Nat} (h : (n < (b : Int) ∧ x = -1) ∨ ((b : Int) ≤ n ∧ x = n - (b : Int))) : some (Resp.call (.t (.int .i64 x)) []) = some (Resp.call (.t (.int .i64 (left n b))) []) := by
  have : x = left n b := by
    unfold left
    split <;> omega
  rw [this]
theorem left_leaf' {x n : Int} {b : Nat} (h : (n < (b : Int) ∧ x = -1) ∨ ((b : Int) ≤ n ∧ x = n - (b : Int))) : Resp.call (.t (.int .i64 x)) [] = Resp.call (.t (.int .i64 (left n b))) [] := Option.some.inj (left_leaf h)
theorem le_T {m n : Nat} (h : m ≤ n) : (m ≤ n) = True := eq_true h
/-- a place in a list, told by what stands ahead of it -/
theorem at_zip {α : Type} (pre : List α) (b : α) (rest : List α) : (pre ++ b :: rest)[pre.length]? = some b := by simp
theorem eq_callO {P : Program} {pol : Pol} {gv : Bool} {g : Nat} {args : List V} {h : Heap} {r : Option Resp} (hr : EV P pol (.callO gv g args h) = r) : (EV P pol) (.callO gv g args h) = r := hr

theorem asArgs_t : ∀ l : List T, asArg.asArgs (l.map V.t) = some (l.map V.t)
  | [] => rfl
  | x :: l => by simp only [List.map_cons, asArg.asArgs, asArg, asArgs_t l]
theorem refss_t : ∀ l : List T, refs.refss (l.map V.t) = []
  | [] => rfl
  | x :: l => by simp only [List.map_cons, refs.refss, refs, refss_t l, List.append_nil]
theorem rens_t (m : Nat → Option Nat) : ∀ l : List T, ren.rens m (l.map V.t) = l.map V.t
  | [] => rfl
  | x :: l => by simp only [List.map_cons, ren.rens, ren, rens_t m l]
theorem allT_t : ∀ l : List T, allT (l.map V.t) = some l
  | [] => rfl
  | x :: l => by simp only [List.map_cons, allT, allT_t l]
/-! ### Parts of texts and lists -/
section
variable {P : Program} {ty : TypeId} {k1 k2 : IntKind} {x y : Int} {h : Heap}
theorem bndV_in {d mx : Nat} (h0 : 0 ≤ x) (h1 : x ≤ (mx : Int)) : bndV d mx (some (.t (.int k1 x))) = some x.toNat := by
  simp only [bndV]; rw [if_pos ⟨h0, h1⟩]
theorem cutB_2 {n : Nat} (h0 : 0 ≤ x) (h1 : x ≤ y) (h2 : y ≤ (n : Int)) : cutB n (some (.t (.int k1 x))) (some (.t (.int k2 y))) = some (x.toNat, y.toNat) := by
  unfold cutB
  rw [bndV_in (by omega) h2]
  simp only
  rw [bndV_in h0 (by omega)]
theorem cutB_1 {n : Nat} (h0 : 0 ≤ x) (h1 : x ≤ (n : Int)) : cutB n (some (.t (.int k1 x))) none = some (x.toNat, n) := by
  unfold cutB
  simp only [bndV]
  rw [if_pos ⟨h0, h1⟩]
theorem cutB_0 {n : Nat} (h0 : 0 ≤ y) (h2 : y ≤ (n : Int)) : cutB n none (some (.t (.int k2 y))) = some (0, y.toNat) := by
  unfold cutB
  rw [bndV_in h0 h2]
  simp only [bndV]
theorem cut_str2 {l : List UInt8} (h0 : 0 ≤ x) (h1 : x ≤ y) (h2 : y ≤ (l.length : Int)) : cut P ty (.t (.str l)) (some (.t (.int k1 x))) (some (.t (.int k2 y))) none h = if isStr P ty = true then some (.t (.str ((l.drop x.toNat).take (y.toNat - x.toNat)))) else none := by
  simp only [cut, cutB_2 h0 h1 h2, Option.isNone_none, Bool.and_true]
theorem cut_str1 {l : List UInt8} (h0 : 0 ≤ x) (h1 : x ≤ (l.length : Int)) : cut P ty (.t (.str l)) (some (.t (.int k1 x))) none none h = if isStr P ty = true then some (.t (.str (l.drop x.toNat))) else none := by
  simp only [cut, cutB_1 h0 h1, Option.isNone_none, Bool.and_true]
  rw [List.take_of_length_le (by simp)]
theorem cut_str0 {l : List UInt8} (h0 : 0 ≤ y) (h2 : y ≤ (l.length : Int)) : cut P ty (.t (.str l)) none (some (.t (.int k2 y))) none h = if isStr P ty = true then some (.t (.str (l.take y.toNat))) else none := by
  simp only [cut, cutB_0 h0 h2, Option.isNone_none, Bool.and_true, List.drop_zero, Nat.sub_zero]
theorem cut_list2 {sz : Nat} {es : List (List T)} (h0 : 0 ≤ x) (h1 : x ≤ y) (h2 : y ≤ (es.length : Int)) : cut P ty (.t (.list sz es)) (some (.t (.int k1 x))) (some (.t (.int k2 y))) none h = match elOf P ty with
    | some el => if (sz == szOf P el || es.isEmpty) = true then some (.t (.list sz ((es.drop x.toNat).take (y.toNat - x.toNat)))) else none
    | none => none := by
  simp only [cut, cutB_2 h0 h1 h2, Option.isNone_none, Bool.and_true]
  cases elOf P ty <;> rfl
theorem cut_list1 {sz : Nat} {es : List (List T)} (h0 : 0 ≤ x) (h1 : x ≤ (es.length : Int)) : cut P ty (.t (.list sz es)) (some (.t (.int k1 x))) none none h = match elOf P ty with
    | some el => if (sz == szOf P el || es.isEmpty) = true then some (.t (.list sz (es.drop x.toNat))) else none
    | none => none := by
  have e : (es.drop x.toNat).take (es.length - x.toNat) = es.drop x.toNat := List.take_of_length_le (by simp)
  simp only [cut, cutB_1 h0 h1, Option.isNone_none, Bool.and_true, e]
  cases elOf P ty <;> rfl
theorem cut_list0 {sz : Nat} {es : List (List T)} (h0 : 0 ≤ y) (h2 : y ≤ (es.length : Int)) : cut P ty (.t (.list sz es)) none (some (.t (.int k2 y))) none h = match elOf P ty with
    | some el => if (sz == szOf P el || es.isEmpty) = true then some (.t (.list sz (es.take y.toNat))) else none
    | none => none := by
  simp only [cut, cutB_0 h0 h2, Option.isNone_none, Bool.and_true, List.drop_zero, Nat.sub_zero]
  cases elOf P ty <;> rfl
theorem cut_sl2 {r off len : Nat} {cap : Option Nat} (h0 : 0 ≤ x) (h1 : x ≤ y) (h2 : y ≤ (len : Int)) : cut P ty (.sl r off len cap) (some (.t (.int k1 x))) (some (.t (.int k2 y))) none h = match elOf P ty with
    | some el => if ((h[r]?.bind blkSz) == some (szOf P el)) = true then some (.sl r (off + x.toNat) (y.toNat - x.toNat) (cap.map (· - x.toNat))) else none
    | none => none := by
  simp only [cut, cutB_2 h0 h1 h2]
  cases elOf P ty <;> rfl
theorem cut_sl1 {r off len : Nat} {cap : Option Nat} (h0 : 0 ≤ x) (h1 : x ≤ (len : Int)) : cut P ty (.sl r off len cap) (some (.t (.int k1 x))) none none h = match elOf P ty with
    | some el => if ((h[r]?.bind blkSz) == some (szOf P el)) = true then some (.sl r (off + x.toNat) (len - x.toNat) (cap.map (· - x.toNat))) else none
    | none => none := by
  simp only [cut, cutB_1 h0 h1]
  cases elOf P ty <;> rfl
theorem cut_sl0 {r off len : Nat} {cap : Option Nat} (h0 : 0 ≤ y) (h2 : y ≤ (len : Int)) : cut P ty (.sl r off len cap) none (some (.t (.int k2 y))) none h = match elOf P ty with
    | some el => if ((h[r]?.bind blkSz) == some (szOf P el)) = true then some (.sl r (off + 0) (y.toNat - 0) (cap.map (· - 0))) else none
    | none => none := by
  simp only [cut, cutB_0 h0 h2]
  cases elOf P ty <;> rfl
theorem toNat_succ (n : Nat) : ((n : Int) + 1).toNat = n + 1 := by omega
theorem one_of {α : Type} (pre : List α) (b : α) (rest : List α) : ((pre ++ b :: rest).drop pre.length).take (pre.length + 1 - pre.length) = [b] := by
  have e : pre.length + 1 - pre.length = 1 := by omega
  rw [List.drop_left, e]; rfl
end
end Go.Proofs.YtdhejeigbjmncaaDoor.E

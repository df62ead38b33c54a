/- Joined: A3 G3 V5 V6 V7 G1 I1. Conditions: those of each lemma. -/
import Derived.Test.YtkpmachalipmpaaGreatDoorUH
import Derived.Test.YtkpmachalipmpaaGreatDoorUG
set_option linter.unusedVariables false
set_option linter.unusedSimpArgs false
namespace Go.Proofs.YtkpmachalipmpaaGreatDoor
open E
set_option linter.unusedSimpArgs false
set_option linter.unusedVariables false
set_option maxRecDepth 100000

structure LField where
  key : List UInt8
  text : List UInt8
  list : List (List UInt8)
  isList : Bool
def LField.enc (x : LField) : List T := [.str x.key, .str x.text, .list 1 (strs x.list), .bool x.isList]
def LField.encs (l : List LField) : List (List T) := l.map LField.enc
def LField.bulk (x : LField) : Nat := x.key.length + x.text.length + (x.list.length + bulkS x.list)
def LField.bulks : List LField → Nat
  | [] => 0
  | c :: cs => LField.bulk c + LField.bulks cs
def LField.ok (x : LField) : Prop := x.key.length ≤ 9223372036854775807 ∧ x.text.length ≤ 9223372036854775807 ∧ x.list.length ≤ 9223372036854775807 ∧ (∀ s ∈ x.list, s.length ≤ 9223372036854775807)
theorem LField.enc_len (x : LField) : x.enc.length = 4 := rfl
theorem LField.enc_take (x : LField) : x.enc.take 4 = x.enc := rfl
theorem LField.encs_len (cs : List LField) : (LField.encs cs).length = cs.length := by simp [LField.encs]
theorem LField.encs_get (cs : List LField) (i : Nat) (h : i < cs.length) : (LField.encs cs)[i]? = some cs[i].enc := by simp [LField.encs, h]
theorem LField.bulks_drop (cs : List LField) (i : Nat) (h : i < cs.length) : LField.bulks (cs.drop i) = cs[i].bulk + LField.bulks (cs.drop (i + 1)) := by
  rw [List.drop_eq_getElem_cons h]; rfl
theorem LField.bulks_mem : ∀ {cs : List LField} {c : LField}, c ∈ cs → c.bulk ≤ LField.bulks cs
  | c' :: cs, c, h => by
    simp only [LField.bulks]
    rcases List.mem_cons.1 h with rfl | h
    · omega
    · have := LField.bulks_mem h; omega
structure LTable where
  name : List UInt8
  fields : List LField
def LTable.enc (x : LTable) : List T := [.str x.name, .list 4 (LField.encs x.fields)]
def LTable.encs (l : List LTable) : List (List T) := l.map LTable.enc
def LTable.bulk (x : LTable) : Nat := x.name.length + (x.fields.length + LField.bulks x.fields)
def LTable.bulks : List LTable → Nat
  | [] => 0
  | c :: cs => LTable.bulk c + LTable.bulks cs
def LTable.ok (x : LTable) : Prop := x.name.length ≤ 9223372036854775807 ∧ x.fields.length ≤ 9223372036854775807 ∧ (∀ y ∈ x.fields, y.ok)
theorem LTable.enc_len (x : LTable) : x.enc.length = 2 := rfl
theorem LTable.enc_take (x : LTable) : x.enc.take 2 = x.enc := rfl
theorem LTable.encs_len (cs : List LTable) : (LTable.encs cs).length = cs.length := by simp [LTable.encs]
theorem LTable.encs_get (cs : List LTable) (i : Nat) (h : i < cs.length) : (LTable.encs cs)[i]? = some cs[i].enc := by simp [LTable.encs, h]
theorem LTable.bulks_drop (cs : List LTable) (i : Nat) (h : i < cs.length) : LTable.bulks (cs.drop i) = cs[i].bulk + LTable.bulks (cs.drop (i + 1)) := by
  rw [List.drop_eq_getElem_cons h]; rfl
theorem LTable.bulks_mem : ∀ {cs : List LTable} {c : LTable}, c ∈ cs → c.bulk ≤ LTable.bulks cs
  | c' :: cs, c, h => by
    simp only [LTable.bulks]
    rcases List.mem_cons.1 h with rfl | h
    · omega
    · have := LTable.bulks_mem h; omega
end Go.Proofs.YtkpmachalipmpaaGreatDoor
/- What the laws' own functions do over Bound, Notice: sizes, copies, comparisons. Conditions: those of each lemma. -/
namespace Go.Proofs.YtkpmachalipmpaaGreatDoor
open E
set_option linter.unusedSimpArgs false
set_option linter.unusedVariables false
set_option maxRecDepth 100000

structure LBound where
  low : List UInt8
  high : List UInt8
def LBound.enc (x : LBound) : List T := [.str x.low, .str x.high]
def LBound.encs (l : List LBound) : List (List T) := l.map LBound.enc
def LBound.bulk (x : LBound) : Nat := x.low.length + x.high.length
def LBound.bulks : List LBound → Nat
  | [] => 0
  | c :: cs => LBound.bulk c + LBound.bulks cs
def LBound.ok (x : LBound) : Prop := x.low.length ≤ 9223372036854775807 ∧ x.high.length ≤ 9223372036854775807
theorem LBound.enc_len (x : LBound) : x.enc.length = 2 := rfl
theorem LBound.enc_take (x : LBound) : x.enc.take 2 = x.enc := rfl
theorem LBound.encs_len (cs : List LBound) : (LBound.encs cs).length = cs.length := by simp [LBound.encs]
theorem LBound.encs_get (cs : List LBound) (i : Nat) (h : i < cs.length) : (LBound.encs cs)[i]? = some cs[i].enc := by simp [LBound.encs, h]
theorem LBound.bulks_drop (cs : List LBound) (i : Nat) (h : i < cs.length) : LBound.bulks (cs.drop i) = cs[i].bulk + LBound.bulks (cs.drop (i + 1)) := by
  rw [List.drop_eq_getElem_cons h]; rfl
theorem LBound.bulks_mem : ∀ {cs : List LBound} {c : LBound}, c ∈ cs → c.bulk ≤ LBound.bulks cs
  | c' :: cs, c, h => by
    simp only [LBound.bulks]
    rcases List.mem_cons.1 h with rfl | h
    · omega
    · have := LBound.bulks_mem h; omega
structure LNotice where
  name : List UInt8
  range : List UInt8
  text : List UInt8
def LNotice.enc (x : LNotice) : List T := [.str x.name, .str x.range, .str x.text]
def LNotice.encs (l : List LNotice) : List (List T) := l.map LNotice.enc
def LNotice.bulk (x : LNotice) : Nat := x.name.length + x.range.length + x.text.length
def LNotice.bulks : List LNotice → Nat
  | [] => 0
  | c :: cs => LNotice.bulk c + LNotice.bulks cs
def LNotice.ok (x : LNotice) : Prop := x.name.length ≤ 9223372036854775807 ∧ x.range.length ≤ 9223372036854775807 ∧ x.text.length ≤ 9223372036854775807
theorem LNotice.enc_len (x : LNotice) : x.enc.length = 3 := rfl
theorem LNotice.enc_take (x : LNotice) : x.enc.take 3 = x.enc := rfl
theorem LNotice.encs_len (cs : List LNotice) : (LNotice.encs cs).length = cs.length := by simp [LNotice.encs]
theorem LNotice.encs_get (cs : List LNotice) (i : Nat) (h : i < cs.length) : (LNotice.encs cs)[i]? = some cs[i].enc := by simp [LNotice.encs, h]
theorem LNotice.bulks_drop (cs : List LNotice) (i : Nat) (h : i < cs.length) : LNotice.bulks (cs.drop i) = cs[i].bulk + LNotice.bulks (cs.drop (i + 1)) := by
  rw [List.drop_eq_getElem_cons h]; rfl
theorem LNotice.bulks_mem : ∀ {cs : List LNotice} {c : LNotice}, c ∈ cs → c.bulk ≤ LNotice.bulks cs
  | c' :: cs, c, h => by
    simp only [LNotice.bulks]
    rcases List.mem_cons.1 h with rfl | h
    · omega
    · have := LNotice.bulks_mem h; omega
def SzNotice (x : LNotice) : Prop := ∀ n : Int, 0 ≤ n → n ≤ 1048576 → callPure (EV Tryz.prog pol) 15 [.agg (x.enc.map .t), .t (.int .i64 n)] = some (.t (.int .i64 (left n x.bulk)))
theorem c_szNotice (x : LNotice) (ho : x.ok) : SzNotice x := by
  obtain ⟨name, range, text⟩ := x
  intro n h0 h1
  simp only [LNotice.ok] at ho
  simp only [LNotice.enc, List.map_cons, List.map_nil]
  apply eq_call
  refine call_eq rfl Tryz.func15 rfl (by kernel_rfl) ?_
  unfold Tryz.f15
  repeat' (first | (((first | with_reducible refine cK_any (fun hA => ?_) (fun hA => ?_) | with_reducible refine gW_any (fun hA => ?_) (fun hA => ?_)) <;> (try simp only [bne, Bool.not_eq_true', Bool.not_eq_false'] at hA) <;> (first | (have hP := Int.le_of_eq (eq_of_beq (α := Int) hA); have hQ := Int.le_of_eq (eq_of_beq (α := Int) hA).symm) | have hP := of_decide_eq_true hA | have hP := of_decide_eq_false hA | skip)) <;> (simp (disch := ((try simp only [List.length_cons, List.length_append, List.length_nil, List.length_map]); omega)) only [↓GO, ↓DRW, GA, ren, renB, footX, refs, cellsV, cst, cstAt, nilC, idxAddr, E.load, E.store, binO, isC, bin, ibin, sbin, una, isShift, okCell, packV, lenV, blt, fnV, asArg, snapV, snapS, snapP, snapC, flatV, flatT, openK, layBack, allT, allZ, mkS, srcOf0, unN, idxV, nilEq, give, tupV, mkEnv, extV, pickV, LVS, OVS, LTS, TYS, PMS, pmT, Int.reduceToNat, Nat.reduceGT, ↓reduceIte, Nat.reduceAdd, Nat.reduceMul, Nat.reduceSub, Nat.reduceEqDiff, Nat.reduceLeDiff, Nat.reduceLT, Nat.reduceBEq, Int.reduceBEq, Int.reduceBNe, Int.reduceEq, Int.reduceLT, Int.reduceLE, Int.reduceGT, Int.reduceNeg, reduceCtorEq, wrap_in, bne, left_lt, left_eq, *])) | (simp (disch := ((try simp only [List.length_cons, List.length_append, List.length_nil, List.length_map]); omega)) only [↓GO, ↓DRW, GA, ren, renB, footX, refs, cellsV, cst, cstAt, nilC, idxAddr, E.load, E.store, binO, isC, bin, ibin, sbin, una, isShift, okCell, packV, lenV, blt, fnV, asArg, snapV, snapS, snapP, snapC, flatV, flatT, openK, layBack, allT, allZ, mkS, srcOf0, unN, idxV, nilEq, give, tupV, mkEnv, extV, pickV, LVS, OVS, LTS, TYS, PMS, pmT, Int.reduceToNat, Nat.reduceGT, ↓reduceIte, Nat.reduceAdd, Nat.reduceMul, Nat.reduceSub, Nat.reduceEqDiff, Nat.reduceLeDiff, Nat.reduceLT, Nat.reduceBEq, Int.reduceBEq, Int.reduceBNe, Int.reduceEq, Int.reduceLT, Int.reduceLE, Int.reduceGT, Int.reduceNeg, reduceCtorEq, wrap_in, bne, left_lt, left_eq, *]))
  all_goals (refine left_leaf' ?_; simp only [LNotice.bulk, and_true]; omega)
def ToNotice (x : LNotice) : Prop := callPure (EV Tryz.prog pol) 17 [.agg (x.enc.map .t)] = some (.agg (x.enc.map .t))
theorem c_toNotice (x : LNotice) (ho : x.bulk ≤ 1048576) : ToNotice x := by
  obtain ⟨name, range, text⟩ := x
  simp only [LNotice.bulk] at ho
  simp only [ToNotice, LNotice.enc, List.map_cons, List.map_nil]
  apply eq_call
  refine call_eq rfl Tryz.func17 rfl (by kernel_rfl) ?_
  unfold Tryz.f17
  simp only [↓GO, ↓DRW, GA, ren, renB, footX, refs, cellsV, cst, cstAt, nilC, idxAddr, E.load, E.store, binO, isC, bin, ibin, sbin, una, isShift, okCell, packV, lenV, blt, fnV, asArg, snapV, snapS, snapP, snapC, flatV, flatT, openK, layBack, allT, allZ, mkS, srcOf0, unN, idxV, nilEq, give, tupV, mkEnv, extV, pickV, LVS, OVS, LTS, TYS, PMS, pmT, Int.reduceToNat, Nat.reduceGT, ↓reduceIte, Nat.reduceAdd, Nat.reduceMul, Nat.reduceSub, Nat.reduceEqDiff, Nat.reduceLeDiff, Nat.reduceLT, Nat.reduceBEq, Int.reduceBEq, Int.reduceBNe, Int.reduceEq, Int.reduceLT, Int.reduceLE, Int.reduceGT, Int.reduceNeg, reduceCtorEq]
def EqNotice (x : LNotice) : Prop := callPure (EV Tryz.prog pol) 170 [.agg (x.enc.map .t), .agg (x.enc.map .t)] = some (.t (.bool true))
theorem c_eqNotice (x : LNotice) (ho : x.bulk ≤ 1048576) : EqNotice x := by
  obtain ⟨name, range, text⟩ := x
  simp only [LNotice.bulk] at ho
  simp only [EqNotice, LNotice.enc, List.map_cons, List.map_nil]
  apply eq_call
  refine call_eq rfl Tryz.func170 rfl (by kernel_rfl) ?_
  unfold Tryz.f170
  simp only [↓GO, ↓DRW, GA, ren, renB, footX, refs, cellsV, cst, cstAt, nilC, idxAddr, E.load, E.store, binO, isC, bin, ibin, sbin, una, isShift, okCell, packV, lenV, blt, fnV, asArg, snapV, snapS, snapP, snapC, flatV, flatT, openK, layBack, allT, allZ, mkS, srcOf0, unN, idxV, nilEq, give, tupV, mkEnv, extV, pickV, LVS, OVS, LTS, TYS, PMS, pmT, Int.reduceToNat, Nat.reduceGT, ↓reduceIte, Nat.reduceAdd, Nat.reduceMul, Nat.reduceSub, Nat.reduceEqDiff, Nat.reduceLeDiff, Nat.reduceLT, Nat.reduceBEq, Int.reduceBEq, Int.reduceBNe, Int.reduceEq, Int.reduceLT, Int.reduceLE, Int.reduceGT, Int.reduceNeg, reduceCtorEq, bne_self_eq_false]
end Go.Proofs.YtkpmachalipmpaaGreatDoor
/- Ranges, plain: both ways of reading them come to the same. Conditions: none. -/
namespace Go.Proofs.YtkpmachalipmpaaGreatDoor
open E
set_option linter.unusedVariables false
set_option linter.unusedSimpArgs false
set_option maxRecDepth 100000
/-! ### what a version's text is made of -/
def vb (b : UInt8) : Bool := isD b || (nb b == 46 || (nb b == 45 || preB b))
theorem itoa_all {n : Int} (h : 0 ≤ n) : (Lib.itoa n).all isD = true ∧ Lib.itoa n ≠ [] := by
  obtain ⟨u, rfl⟩ : ∃ u : Nat, n = u := ⟨n.toNat, by omega⟩
  rw [Lib.itoa_nonneg]
  obtain ⟨a, _, c⟩ := decDigits_all u
  exact ⟨a, c⟩
theorem all_imp {p q : UInt8 → Bool} (h : ∀ b, p b = true → q b = true) {l : Str} (hl : l.all p = true) : l.all q = true := by
  rw [List.all_eq_true] at hl ⊢
  exact fun x hx => h x (hl x hx)
theorem isD_vb (b : UInt8) (h : isD b = true) : vb b = true := by unfold vb; rw [h]; rfl
theorem preB_vb (b : UInt8) (h : preB b = true) : vb b = true := by unfold vb; rw [h]; simp
theorem join_vb : ∀ l : List Str, (l.all fun p => p.all preB) = true → (Lib.join l [46]).all vb = true
  | [], _ => rfl
  | x :: r, h => by
    rw [Lib.join_cons]
    simp only [List.all_cons, Bool.and_eq_true] at h
    rw [List.all_append, all_imp preB_vb h.1, Bool.true_and]
    have hr := h.2
    clear h
    induction r with
    | nil => rfl
    | cons y r ih =>
      simp only [List.all_cons, Bool.and_eq_true] at hr
      have e : Lib.joinTail [46] (y :: r) = 46 :: (y ++ Lib.joinTail [46] r) := by simp [Lib.joinTail]
      rw [e, List.all_cons, List.all_append, all_imp preB_vb hr.1, ih hr.2]
      decide
theorem text_vb {v : Ver} (h : verOk v = true) : (verText v).all vb = true ∧ ∃ b r, verText v = b :: r ∧ isD b = true := by
  obtain ⟨h1, h2, h3, h4, _⟩ := verOk_num h
  obtain ⟨a1, a2⟩ := itoa_all h1.1
  obtain ⟨b1, b2⟩ := itoa_all h2.1
  obtain ⟨c1, c2⟩ := itoa_all h3.1
  have hp : (v.pre.all fun p => p.all preB) = true := by
    rw [List.all_eq_true] at h4 ⊢
    intro x hx
    have := h4 x hx
    unfold preOk at this
    simp only [Bool.and_eq_true] at this
    exact this.2.1
  have hj := join_vb v.pre hp
  have hcore : (coreV v).all vb = true := by
    unfold coreV
    simp only [List.all_append, all_imp isD_vb a1, all_imp isD_vb b1, all_imp isD_vb c1]
    decide
  refine ⟨?_, ?_⟩
  · unfold verText tailV
    rw [h]
    simp only [cond_true]
    cases (v.pre == []) with
    | true => simpa using hcore
    | false =>
      simp only [cond_false, List.all_append, hcore, hj]
      decide
  · unfold verText tailV coreV
    rw [h]
    simp only [cond_true]
    cases hi : Lib.itoa v.maj with
    | nil => exact absurd hi a2
    | cons b r =>
      rw [hi, List.all_cons, Bool.and_eq_true] at a1
      cases (v.pre == []) <;> exact ⟨b, _, rfl, a1.1⟩
/-- is a text a version's? -/
def isV (s : Str) : Bool := (readVer s).2
theorem isV_vb {s : Str} (h : isV s = true) : (∀ b ∈ s, vb b = true) ∧ ∃ b r, s = b :: r ∧ isD b = true := by
  obtain ⟨_, ht, ho, _⟩ := readVer_true h
  obtain ⟨h1, h2⟩ := text_vb ho
  rw [ht] at h1 h2
  exact ⟨List.all_eq_true.1 h1, h2⟩
theorem isV_no {s : Str} {c : UInt8} (hc : vb c = false) (h : c ∈ s) : isV s = false := by
  cases hv : isV s with
  | false => rfl
  | true =>
    have := (isV_vb hv).1 c h
    rw [hc] at this; cases this
theorem isV_head {b : UInt8} {r : Str} (hb : isD b = false) : isV (b :: r) = false := by
  cases hv : isV (b :: r) with
  | false => rfl
  | true =>
    obtain ⟨_, b', r', e, h⟩ := isV_vb hv
    cases e
    rw [hb] at h; cases h
theorem isV_nil : isV [] = false := by
  cases hv : isV [] with
  | false => rfl
  | true => obtain ⟨_, _, _, e, _⟩ := isV_vb hv; cases e
theorem cutS_count (b : UInt8) : ∀ s : Str, (cutS b s).length = s.count b + 1
  | [] => rfl
  | x :: s => by
    have ih := cutS_count b s
    by_cases h : x = b
    · subst h; rw [cutS_hit, List.length_cons, ih, List.count_cons_self]
    · cases hc : cutS b s with
      | nil => exact absurd hc (cutS_ne b s)
      | cons p r =>
        rw [cutS_miss b x s p r h hc, List.count_cons_of_ne (by simpa using h)]
        rw [hc] at ih
        simpa using ih
theorem isV_parts {s : Str} (h : isV s = true) : 3 ≤ (cutS 46 s).length := by
  obtain ⟨hm, _, _, _⟩ := readVer_true h
  have he := cut1_eq 45 s
  have h3 : (cutS 46 (cut1 45 s).1).length = 3 := by
    unfold mkVer at hm
    split at hm
    · rename_i a b c hp; rw [hp]; rfl
    · cases hm
  rw [cutS_count] at h3 ⊢
  rw [he, List.count_append]; omega
/-- the parts of a list of two -/
theorem cutS_one {b : UInt8} : ∀ {s a : Str}, cutS b s = [a] → s = a ∧ b ∉ a
  | [], a, h => by cases h; simp
  | x :: s, a, h => by
    by_cases hx : x = b
    · subst hx
      rw [cutS_hit] at h
      injection h with _ h2
      exact absurd h2 (cutS_ne x s)
    · cases hc : cutS b s with
      | nil => exact absurd hc (cutS_ne b s)
      | cons p r =>
        rw [cutS_miss b x s p r hx hc] at h
        injection h with h1 h2
        subst h2
        obtain ⟨e1, e2⟩ := cutS_one hc
        subst h1
        refine ⟨by rw [e1], ?_⟩
        simp only [List.mem_cons, not_or]
        exact ⟨Ne.symm hx, e2⟩
theorem cutS_cons {b : UInt8} : ∀ {s a a' : Str} {r : List Str}, cutS b s = a :: a' :: r → ∃ t, s = a ++ b :: t ∧ b ∉ a ∧ cutS b t = a' :: r
  | [], a, a', r, h => by simp [cutS] at h
  | x :: s, a, a', r, h => by
    by_cases hx : x = b
    · subst hx
      rw [cutS_hit] at h
      injection h with h1 h2
      subst h1
      exact ⟨s, rfl, by simp, h2⟩
    · cases hc : cutS b s with
      | nil => exact absurd hc (cutS_ne b s)
      | cons p q =>
        rw [cutS_miss b x s p q hx hc] at h
        injection h with h1 h2
        subst h1 h2
        obtain ⟨t, e1, e2, e3⟩ := cutS_cons hc
        refine ⟨t, by rw [e1]; rfl, ?_, e3⟩
        simp only [List.mem_cons, not_or]
        exact ⟨Ne.symm hx, e2⟩
theorem readDec_all {s : Str} (h : 0 ≤ readDec s) : (∀ b ∈ s, isD b = true) ∧ Lib.itoa (readDec s) = s ∧ readDec s ≤ 999999999 ∧ s ≠ [] := by
  unfold readDec at h ⊢
  split at h
  · rename_i v hv
    cases hc : ((decide (0 ≤ v) && decide (v ≤ 999999999)) && (Lib.itoa v == s)) with
    | false => rw [hc] at h; simp at h
    | true =>
      have hc' := hc
      simp only [Bool.and_eq_true, decide_eq_true_eq, beq_iff_eq] at hc'
      obtain ⟨⟨q1, q2⟩, q3⟩ := hc'
      obtain ⟨a, b⟩ := itoa_all q1
      simp only [cond_true]
      rw [q3] at a b
      exact ⟨List.all_eq_true.1 a, q3, q2, b⟩
  · simp at h
theorem readDec_no {s : Str} {c : UInt8} (hc : isD c = false) (h : c ∈ s) : readDec s = -1 := by
  have h1 := readDec_rng s
  by_cases h2 : 0 ≤ readDec s
  · have := (readDec_all h2).1 c h
    rw [hc] at this; cases this
  · omega
theorem readDec_zero : readDec [48] = 0 := by
  have := (read_some (u := 0) (by omega)).1
  rwa [show Lib.decDigits 0 = [48] by rw [Lib.decDigits_one (by omega)]; rfl] at this
theorem itoa_zero : Lib.itoa 0 = [48] := by
  have := Lib.itoa_nonneg 0
  rw [show ((0 : Nat) : Int) = 0 from rfl] at this
  rw [this, Lib.decDigits_one (by omega)]; rfl
/-! ### a part without signs -/
def shortI (s : Str) : Option (Str × Str) := match cutS 46 s with
  | [a] => cond (decide (0 ≤ readDec a) && !(zeroPre (readDec a + 1) 0 0 == [])) (some (verText ⟨readDec a, 0, 0, []⟩, zeroPre (readDec a + 1) 0 0)) none
  | [a, b] => cond ((decide (0 ≤ readDec a) && decide (0 ≤ readDec b)) && !(zeroPre (readDec a) (readDec b + 1) 0 == [])) (some (verText ⟨readDec a, readDec b, 0, []⟩, zeroPre (readDec a) (readDec b + 1) 0)) none
  | _ => none
def fullR (s : Str) : Str := cond (((cutS 46 s).length : Int) == 1) (s ++ [46, 48, 46, 48]) (s ++ [46, 48])
def shortR (s : Str) : Option (Str × Str) :=
  cond (!(isV (fullR s)) || (!(B2 ((cutS 46 s).length : Int) 1 2) || !((readVer (fullR s)).1.pre == []))) none
    (cond (belowV (readVer (fullR s)).1 (((cutS 46 s).length : Int) - 1)).2 (some (fullR s, (belowV (readVer (fullR s)).1 (((cutS 46 s).length : Int) - 1)).1)) none)
theorem isV_dash {s : Str} (h : (45 : UInt8) ∈ s) (hv : isV s = true) : (readVer s).1.pre ≠ [] := by
  obtain ⟨hm, _, _, _⟩ := readVer_true hv
  have he := cut1_eq 45 s
  have hn := cut1_not 45 s
  unfold mkVer at hm
  split at hm
  · injection hm with hm
    rw [← hm]
    cases hc : (cut1 45 s).2.2 with
    | false =>
      rw [hc, cond_false, List.append_nil] at he
      rw [he] at h
      exact absurd h hn
    | true => exact cutS_ne 46 _
  · cases hm
theorem not45 {s : Str} (h : ∀ b ∈ s, isD b = true) : (45 : UInt8) ∉ s := fun hm => by
  have := h 45 hm
  revert this; decide
theorem not46 {s : Str} (h : ∀ b ∈ s, isD b = true) : (46 : UInt8) ∉ s := fun hm => by
  have := h 46 hm
  revert this; decide
theorem n9_of {n : Int} (h0 : 0 ≤ n) (h1 : n ≤ 999999999) : n9 n = true := (n9_iff n).2 ⟨h0, h1⟩
/-- a text of numbers alone is read as they are -/
theorem read_three {a b c s : Str} (hd : (45 : UInt8) ∉ s) (hc : cutS 46 s = [a, b, c]) :
    readVer s = cond (verText ⟨readDec a, readDec b, readDec c, []⟩ == s) (⟨readDec a, readDec b, readDec c, []⟩, true) (Ver.zero, false) := by
  unfold readVer mkVer
  rw [cut1_no 45 s hd]
  simp only
  rw [hc]
  simp only [cond_false]
theorem verOk_three (a b c : Int) : verOk ⟨a, b, c, []⟩ = (n9 a && (n9 b && n9 c)) := by simp [verOk]
theorem n9_dec (s : Str) : n9 (readDec s) = decide (0 ≤ readDec s) := by
  have := readDec_rng s
  unfold n9 B2
  have : decide (readDec s ≤ 999999999) = true := decide_eq_true this.2
  rw [this, Bool.and_true]
theorem text_three {a b c : Int} (ha : n9 a = true) (hb : n9 b = true) (hc : n9 c = true) : verText ⟨a, b, c, []⟩ = Lib.itoa a ++ [46] ++ Lib.itoa b ++ [46] ++ Lib.itoa c := by
  unfold verText tailV coreV
  rw [verOk_three, ha, hb, hc]
  rfl
theorem text_bad {a b c : Int} (h : (n9 a && (n9 b && n9 c)) = false) : verText ⟨a, b, c, []⟩ = [] := by
  unfold verText
  rw [verOk_three, h]; rfl
theorem n9_zero : n9 0 = true := by decide
theorem short_same (s : Str) : shortR s = shortI s := by
  unfold shortI
  split
  · rename_i a hp
    obtain ⟨rfl, hn⟩ := cutS_one hp
    have hfull : fullR s = s ++ [46, 48, 46, 48] := by unfold fullR; rw [hp]; rfl
    unfold shortR
    rw [hp, hfull]
    by_cases h45 : (45 : UInt8) ∈ s
    · have hd := readDec_no (c := 45) (by decide) h45
      rw [hd]
      have hr : (!(isV (s ++ [46, 48, 46, 48])) || (!(B2 (([s] : List Str).length : Int) 1 2) || !((readVer (s ++ [46, 48, 46, 48])).1.pre == []))) = true := by
        cases hv : isV (s ++ [46, 48, 46, 48]) with
        | false => rfl
        | true =>
          have := isV_dash (s := s ++ [46, 48, 46, 48]) (by simp [h45]) hv
          have h2 : ((readVer (s ++ [46, 48, 46, 48])).1.pre == []) = false := by
            cases hx : (readVer (s ++ [46, 48, 46, 48])).1.pre with
            | nil => exact absurd hx this
            | cons x y => rfl
          rw [h2]; simp
      rw [hr]; rfl
    · have h45' : (45 : UInt8) ∉ s ++ [46, 48, 46, 48] := by simp [h45]
      have hc3 : cutS 46 (s ++ [46, 48, 46, 48]) = [s, [48], [48]] := by
        rw [show s ++ [46, 48, 46, 48] = s ++ 46 :: [48, 46, 48] from rfl, cutS_app, hp]; rfl
      have hr := read_three h45' hc3
      rw [readDec_zero] at hr
      unfold isV
      rw [hr]
      have hn9 := n9_dec s
      by_cases h0 : 0 ≤ readDec s
      · obtain ⟨_, hi, _, _⟩ := readDec_all h0
        have hn : n9 (readDec s) = true := by rw [hn9]; exact decide_eq_true h0
        have ht := text_three hn n9_zero n9_zero
        rw [hi, itoa_zero] at ht
        have he : (verText ⟨readDec s, 0, 0, []⟩ == s ++ [46, 48, 46, 48]) = true := by rw [ht]; simp
        have hok : verOk ⟨readDec s, 0, 0, []⟩ = true := by rw [verOk_three, hn]; rfl
        rw [he]
        simp only [cond_true]
        have hb := below_eq hok 0 (by omega)
        simp only [show ((0 : Int) == 0) = true from rfl, cond_true, show ((0 : Int) == 2) = false from rfl, cond_false] at hb
        rw [show (([s] : List Str).length : Int) - 1 = 0 from rfl, hb, decide_eq_true h0, ht]
        simp only [show B2 (([s] : List Str).length : Int) 1 2 = true from rfl, show (([] : List Str) == []) = true from rfl, Bool.not_true, Bool.or_false, cond_false, Bool.true_and]
        simp
      · have hn : (n9 (readDec s) && (n9 0 && n9 0)) = false := by rw [hn9, decide_eq_false h0]; rfl
        rw [text_bad hn]
        have he : (([] : Str) == s ++ [46, 48, 46, 48]) = false := by rw [beq_eq_false_iff_ne]; intro e; have := congrArg List.length e; simp at this
        rw [he, decide_eq_false h0]
        rfl
  · rename_i a b hp
    obtain ⟨t, rfl, hna, hct⟩ := cutS_cons hp
    obtain ⟨rfl, hnb⟩ := cutS_one hct
    generalize hsd : a ++ 46 :: t = s at *
    have hfull : fullR s = s ++ [46, 48] := by unfold fullR; rw [hp]; rfl
    unfold shortR
    rw [hp, hfull]
    by_cases h45 : (45 : UInt8) ∈ s
    · have hd : (decide (0 ≤ readDec a) && decide (0 ≤ readDec t)) = false := by
        rw [← hsd] at h45
        simp only [List.mem_append, List.mem_cons] at h45
        rcases h45 with h | h | h
        · rw [readDec_no (c := 45) (by decide) h]; rfl
        · exact absurd h (by decide)
        · rw [readDec_no (c := 45) (by decide) h]; simp
      rw [hd]
      have hr : (!(isV (s ++ [46, 48])) || (!(B2 (([a, t] : List Str).length : Int) 1 2) || !((readVer (s ++ [46, 48])).1.pre == []))) = true := by
        cases hv : isV (s ++ [46, 48]) with
        | false => rfl
        | true =>
          have := isV_dash (s := s ++ [46, 48]) (by simp [h45]) hv
          have h2 : ((readVer (s ++ [46, 48])).1.pre == []) = false := by
            cases hx : (readVer (s ++ [46, 48])).1.pre with
            | nil => exact absurd hx this
            | cons x y => rfl
          rw [h2]; simp
      rw [hr]; rfl
    · have h45' : (45 : UInt8) ∉ s ++ [46, 48] := by simp [h45]
      have hc3 : cutS 46 (s ++ [46, 48]) = [a, t, [48]] := by
        rw [show s ++ [46, 48] = s ++ 46 :: [48] from rfl, cutS_app, hp]; rfl
      have hr := read_three h45' hc3
      rw [readDec_zero] at hr
      unfold isV
      rw [hr]
      have hna := n9_dec a
      have hnt := n9_dec t
      by_cases h0 : 0 ≤ readDec a ∧ 0 ≤ readDec t
      · obtain ⟨_, hi, _, _⟩ := readDec_all h0.1
        obtain ⟨_, hj, _, _⟩ := readDec_all h0.2
        have hn : n9 (readDec a) = true := by rw [hna]; exact decide_eq_true h0.1
        have hm : n9 (readDec t) = true := by rw [hnt]; exact decide_eq_true h0.2
        have ht := text_three hn hm n9_zero
        rw [hi, hj, itoa_zero] at ht
        have he : (verText ⟨readDec a, readDec t, 0, []⟩ == s ++ [46, 48]) = true := by rw [ht, ← hsd]; simp
        have hok : verOk ⟨readDec a, readDec t, 0, []⟩ = true := by rw [verOk_three, hn, hm]; rfl
        rw [he]
        simp only [cond_true]
        have hb := below_eq hok 1 (by omega)
        simp only [show ((1 : Int) == 0) = false from rfl, show ((1 : Int) == 1) = true from rfl, cond_true, show ((1 : Int) == 2) = false from rfl, cond_false] at hb
        rw [show (([a, t] : List Str).length : Int) - 1 = 1 from rfl, hb, decide_eq_true h0.1, decide_eq_true h0.2, eq_of_beq he]
        simp only [show B2 (([a, t] : List Str).length : Int) 1 2 = true from rfl, show (([] : List Str) == []) = true from rfl, Bool.not_true, Bool.or_false, cond_false, Bool.true_and]
      · have hd : (decide (0 ≤ readDec a) && decide (0 ≤ readDec t)) = false := by simpa using h0
        have hn : (n9 (readDec a) && (n9 (readDec t) && n9 0)) = false := by rw [hna, hnt, ← Bool.and_assoc, hd]; rfl
        rw [text_bad hn]
        have he : (([] : Str) == s ++ [46, 48]) = false := by rw [beq_eq_false_iff_ne]; intro e; have := congrArg List.length e; simp at this
        rw [he, hd]
        rfl
  · rename_i h1 h2
    have hlen : B2 ((cutS 46 s).length : Int) 1 2 = false := by
      match hc : cutS 46 s, h1, h2 with
      | [], _, _ => exact absurd hc (cutS_ne 46 s)
      | [a], h1, _ => exact absurd rfl (h1 a)
      | [a, b], _, h2 => exact absurd rfl (h2 a b)
      | a :: b :: c :: r, _, _ =>
        have : decide (((a :: b :: c :: r).length : Int) ≤ 2) = false := decide_eq_false (by simp only [List.length_cons]; omega)
        unfold B2; rw [this, Bool.and_false]
    unfold shortR
    rw [hlen]
    simp
end Go.Proofs.YtkpmachalipmpaaGreatDoor
/- Ranges, plain, the parts. Conditions: none. -/
namespace Go.Proofs.YtkpmachalipmpaaGreatDoor
open E
set_option linter.unusedVariables false
set_option linter.unusedSimpArgs false
set_option maxRecDepth 100000
/-- a text cut at ' <' -/
def cut2 : Str → Str × Str × Bool
  | [] => ([], [], false)
  | x :: r => if ([32, 60] : Str).isPrefixOf (x :: r) = true then ([], r.drop 1, true) else (x :: (cut2 r).1, (cut2 r).2.1, (cut2 r).2.2)
theorem cut_cut2 : ∀ s : Str, Lib.cut s [32, 60] = cut2 s
  | [] => by simp [Lib.cut, cut2, Lib.index]
  | x :: s => by
    have ih := cut_cut2 s
    rw [cut2]
    by_cases h : ([32, 60] : Str).isPrefixOf (x :: s) = true
    · rw [if_pos h]
      unfold Lib.cut
      rw [Lib.index, if_pos h]
      simp
    · rw [if_neg h, ← ih]
      unfold Lib.cut
      rw [Lib.index, if_neg h]
      have hge := Lib.index_ge s [32, 60]
      by_cases hm : Lib.index s [32, 60] = -1
      · rw [hm]; simp
      · obtain ⟨j, hj⟩ : ∃ j : Nat, Lib.index s [32, 60] = j := ⟨(Lib.index s [32, 60]).toNat, by omega⟩
        have hb : (((j : Nat) : Int) == -1) = false := by rw [beq_eq_false_iff_ne]; omega
        rw [hj, hb]
        simp only [Bool.false_eq_true, if_false]
        rw [if_pos (by omega), if_pos (by omega), show ((j : Int) + 1).toNat = j + 1 by omega]
        simp only [List.take_succ_cons, Int.toNat_natCast]
        rw [show j + 1 + ([32, 60] : Str).length = (j + ([32, 60] : Str).length) + 1 by simp only [List.length_cons, List.length_nil], List.drop_succ_cons]
theorem pref2 {x : UInt8} {r : Str} (h : ([32, 60] : Str).isPrefixOf (x :: r) = true) : x = 32 ∧ r = 60 :: r.drop 1 := by
  cases r with
  | nil => simp [List.isPrefixOf] at h
  | cons y r =>
    simp only [List.isPrefixOf, Bool.and_true, Bool.and_eq_true, beq_iff_eq] at h
    obtain ⟨h1, h2⟩ := h
    subst h1 h2
    exact ⟨rfl, rfl⟩
theorem cut2_eq : ∀ s : Str, s = (cut2 s).1 ++ cond (cut2 s).2.2 (32 :: 60 :: (cut2 s).2.1) []
  | [] => rfl
  | x :: s => by
    rw [cut2]
    by_cases h : ([32, 60] : Str).isPrefixOf (x :: s) = true
    · obtain ⟨h1, h2⟩ := pref2 h
      rw [if_pos h]
      subst h1
      simp only [List.nil_append, cond_true]
      rw [← h2]
    · rw [if_neg h]
      have := cut2_eq s
      show x :: s = (x :: (cut2 s).1) ++ _
      rw [List.cons_append, ← this]
theorem cut2_no : ∀ s : Str, (32 : UInt8) ∉ s → cut2 s = (s, [], false)
  | [], _ => rfl
  | x :: s, h => by
    simp only [List.mem_cons, not_or] at h
    have hp : ¬ ([32, 60] : Str).isPrefixOf (x :: s) = true := fun hp => h.1 (pref2 hp).1.symm
    rw [cut2, if_neg hp, cut2_no s h.2]
theorem cut2_app (t : Str) : ∀ s : Str, (32 : UInt8) ∉ s → cut2 (s ++ 32 :: 60 :: t) = (s, t, true)
  | [], _ => by
    rw [List.nil_append, cut2, if_pos (by simp [List.isPrefixOf])]; rfl
  | x :: s, h => by
    simp only [List.mem_cons, not_or] at h
    have hp : ¬ ([32, 60] : Str).isPrefixOf (x :: (s ++ 32 :: 60 :: t)) = true := fun hp => h.1 (pref2 hp).1.symm
    rw [List.cons_append, cut2, if_neg hp, cut2_app t s h.2]
theorem cut2_miss (t : Str) (ht : (32 : UInt8) ∉ t) (hn : ∀ r, t ≠ 60 :: r) : ∀ s : Str, (32 : UInt8) ∉ s → cut2 (s ++ 32 :: t) = (s ++ 32 :: t, [], false)
  | [], _ => by
    have hp : ¬ ([32, 60] : Str).isPrefixOf (32 :: t) = true := fun hp => hn _ (pref2 hp).2
    rw [List.nil_append, cut2, if_neg hp, cut2_no t ht]
  | x :: s, h => by
    simp only [List.mem_cons, not_or] at h
    have hp : ¬ ([32, 60] : Str).isPrefixOf (x :: (s ++ 32 :: t)) = true := fun hp => h.1 (pref2 hp).1.symm
    rw [List.cons_append, cut2, if_neg hp, cut2_miss t ht hn s h.2]
/-! ### a part, by the implementation -/
abbrev Bd := Str × Str
def geP (s : Str) : Bool := ([62, 61] : Str).isPrefixOf s
def ltP (s : Str) : Bool := ([60] : Str).isPrefixOf s
def hdB (c : UInt8) : Str → Bool
  | [] => false
  | x :: _ => x == c
def caretI (v : Ver) : Str := cond (decide (v.maj > 0)) (zeroPre (v.maj + 1) 0 0) (cond (v.min == 0) (zeroPre 0 0 (v.pat + 1)) (zeroPre v.maj (v.min + 1) 0))
def partialI (s : Str) : Bd × Bool := match cutS 46 s with
  | [a] => cond (decide (0 ≤ readDec a)) ((verText ⟨readDec a, 0, 0, []⟩, zeroPre (readDec a + 1) 0 0), true) (([], []), false)
  | [a, b] => cond (decide (0 ≤ readDec a) && decide (0 ≤ readDec b)) ((verText ⟨readDec a, readDec b, 0, []⟩, zeroPre (readDec a) (readDec b + 1) 0), true) (([], []), false)
  | _ => (([], []), false)
def signH (s : Str) : Str := cond (hdB 94 s) (caretI (readVer (s.drop 1)).1) (zeroPre (readVer (s.drop 1)).1.maj ((readVer (s.drop 1)).1.min + 1) 0)
def boundI (s : Str) : Bd × Bool :=
  cond (s == [42]) (([], []), true)
  (cond (isV s) ((s, highV (readVer s).1), true)
  (cond (geP s) (((cut2 (s.drop 2)).1, (cut2 (s.drop 2)).2.1), isV (cut2 (s.drop 2)).1 && (!(cut2 (s.drop 2)).2.2 || isV (cut2 (s.drop 2)).2.1))
  (cond (ltP s) (([], s.drop 1), isV (s.drop 1))
  (cond (hdB 94 s || hdB 126 s) ((s.drop 1, signH s), isV (s.drop 1))
  (partialI s)))))
def openI (s : Str) : Bool := s == [42] || (ltP s || geP s)
def chkI (s : Str) : Option Bd := cond (!((boundI s).2) || (!(openI s) && (((boundI s).1.1 == []) || ((boundI s).1.2 == [])))) none (some (boundI s).1)
/-! ### a part, by the reference -/
def isE (s : Str) : Bool := isV s || s == []
def caretR (v : Ver) : Int := cond (decide (v.maj > 0)) 0 (cond (decide (v.min > 0)) 1 2)
def geW (x : Str) : Bool := decide ((x.length : Int) > 2) && (x.take 2 == [62, 61])
def ltW (x : Str) : Bool := decide ((x.length : Int) > 1) && hdB 60 x
def signsR (s : Str) : Option Bd := match cutS 32 s with
  | [x] => cond (geW x) (cond (isE (x.drop 2) && isE []) (some (x.drop 2, [])) none) (cond (ltW x) (cond (isE [] && isE (x.drop 1)) (some ([], x.drop 1)) none) none)
  | [x, y] => cond (geW x) (cond (ltW y) (cond (isE (x.drop 2) && isE (y.drop 1)) (some (x.drop 2, y.drop 1)) none) none) none
  | _ => none
def fromR (v : Ver) (t : Str) (p : Int) : Option Bd := cond (belowV v p).2 (some (t, (belowV v p).1)) none
def partR (s : Str) : Option Bd :=
  cond (s == [42]) (some ([], []))
  (cond (decide ((s.length : Int) > 1) && (hdB 94 s || hdB 126 s)) (cond (!(isV (s.drop 1))) none (fromR (readVer (s.drop 1)).1 (s.drop 1) (cond (hdB 126 s) 1 (caretR (readVer (s.drop 1)).1))))
  (cond (decide ((s.length : Int) > 0) && (hdB 62 s || hdB 60 s)) (signsR s)
  (match exactB s with | some x => some x | none => shortR s)))
theorem isE_nil : isE [] = true := by simp [isE]
theorem isE_ne {s : Str} (h : s ≠ []) : isE s = isV s := by
  unfold isE
  have : (s == []) = false := by
    cases s with
    | nil => exact absurd rfl h
    | cons x r => rfl
  rw [this, Bool.or_false]
theorem exact_no {s : Str} (h : isV s = false) : exactB s = none := by
  unfold exactB
  unfold isV at h
  rw [h]; rfl
theorem shortI_bad {s : Str} {c : UInt8} {a : Str} {r : List Str} (hp : cutS 46 s = (c :: a) :: r) (hc : isD c = false) : shortI s = none := by
  have hd := readDec_no (s := c :: a) hc (by simp)
  have h0 : decide ((0 : Int) ≤ -1) = false := by decide
  unfold shortI
  rw [hp]
  cases r with
  | nil => simp only [hd, h0, Bool.false_and, cond_false]
  | cons b r => cases r with
    | nil => simp only [hd, h0, Bool.false_and, cond_false]
    | cons _ _ => rfl
theorem shortI_nil : shortI [] = none := by
  unfold shortI
  have h0 : decide (0 ≤ readDec []) = false := by
    apply decide_eq_false
    intro h
    exact (readDec_all h).2.2.2 rfl
  rw [show cutS 46 ([] : Str) = [[]] from rfl]
  simp only [h0, Bool.false_and, cond_false]
theorem cut_head {c : UInt8} {r : Str} (h : c ≠ 46) : ∃ a q, cutS 46 (c :: r) = (c :: a) :: q := by
  cases hc : cutS 46 r with
  | nil => exact absurd hc (cutS_ne 46 r)
  | cons p q => exact ⟨p, q, cutS_miss 46 c r p q h hc⟩
theorem chk_partial {s : Str} (hb : boundI s = partialI s) (ho : openI s = false) : chkI s = shortI s := by
  unfold chkI
  rw [hb, ho]
  unfold partialI shortI
  match cutS 46 s with
  | [] => rfl
  | [a] =>
    simp only
    cases h : decide (0 ≤ readDec a) with
    | false => simp
    | true =>
      have hn : n9 (readDec a) = true := by rw [n9_dec]; exact h
      have : (verText ⟨readDec a, 0, 0, []⟩ == []) = false := by rw [text_three hn n9_zero n9_zero]; simp
      simp only [cond_true, Bool.not_true, Bool.false_or, Bool.not_false, Bool.true_and, this]
      cases (zeroPre (readDec a + 1) 0 0 == []) <;> rfl
  | [a, b] =>
    simp only
    cases h : decide (0 ≤ readDec a) with
    | false => simp
    | true =>
      cases h2 : decide (0 ≤ readDec b) with
      | false => simp
      | true =>
        have hn : n9 (readDec a) = true := by rw [n9_dec]; exact h
        have hm : n9 (readDec b) = true := by rw [n9_dec]; exact h2
        have : (verText ⟨readDec a, readDec b, 0, []⟩ == []) = false := by rw [text_three hn hm n9_zero]; simp
        simp only [cond_true, Bool.not_true, Bool.false_or, Bool.not_false, Bool.true_and, Bool.and_self, this]
        cases (zeroPre (readDec a) (readDec b + 1) 0 == []) <;> rfl
  | a :: b :: c :: r => rfl
theorem chk_ver {s : Str} (hv : isV s = true) : chkI s = partR s := by
  obtain ⟨_, x, r, rfl, hx⟩ := isV_vb hv
  have hne : ∀ c : UInt8, isD c = false → (x == c) = false := fun c hc => by
    rw [beq_eq_false_iff_ne]; intro e; subst e; rw [hx] at hc; cases hc
  have h42 := hne 42 (by decide)
  have h94 := hne 94 (by decide)
  have h126 := hne 126 (by decide)
  have h62 := hne 62 (by decide)
  have h60 := hne 60 (by decide)
  have hs : ((x :: r) == [42]) = false := by rw [beq_eq_false_iff_ne]; intro e; cases e; simp at h42
  have hge : geP (x :: r) = false := by
    cases r with
    | nil => simp [geP, List.isPrefixOf]
    | cons y r => simp only [geP, List.isPrefixOf]; rw [show ((62 : UInt8) == x) = false by rw [Bool.beq_comm]; exact h62]; rfl
  have hlt : ltP (x :: r) = false := by simp only [ltP, List.isPrefixOf]; rw [show ((60 : UInt8) == x) = false by rw [Bool.beq_comm]; exact h60]; rfl
  have hlong := isV_parts hv
  have hB : B2 ((cutS 46 (x :: r)).length : Int) 1 2 = false := by
    have : decide (((cutS 46 (x :: r)).length : Int) ≤ 2) = false := decide_eq_false (by omega)
    unfold B2; rw [this, Bool.and_false]
  have hsh : shortR (x :: r) = none := by unfold shortR; rw [hB]; simp
  unfold chkI partR boundI openI exactB
  have hv' : (readVer (x :: r)).2 = true := hv
  rw [hs, hv, hge, hlt, hv', hsh]
  simp only [hdB, h94, h126, h62, h60, cond_false, cond_true, Bool.or_false, Bool.and_false, Bool.not_true, Bool.not_false, Bool.false_or, Bool.true_and]
  rw [show ((x :: r) == []) = false from rfl]
  simp only [Bool.false_or]
  cases (highV (readVer (x :: r)).1 == []) <;> rfl
theorem below_sign {v : Ver} {t : Str} (ho : verOk v = true) (b : Bool) : fromR v t (cond (!b) 1 (caretR v)) = cond (cond b (caretI v) (zeroPre v.maj (v.min + 1) 0) == []) none (some (t, cond b (caretI v) (zeroPre v.maj (v.min + 1) 0))) := by
  obtain ⟨h1, h2, h3, _, _⟩ := verOk_num ho
  unfold fromR
  cases b with
  | false =>
    have hb := below_eq ho 1 (by omega)
    simp only [show ((1 : Int) == 0) = false from rfl, show ((1 : Int) == 1) = true from rfl, cond_true, show ((1 : Int) == 2) = false from rfl, cond_false] at hb
    simp only [Bool.not_false, cond_true, cond_false]
    rw [hb]
    cases (zeroPre v.maj (v.min + 1) 0 == []) <;> rfl
  | true =>
    simp only [Bool.not_true, cond_true, cond_false]
    unfold caretR caretI
    cases h4 : decide (v.maj > 0) with
    | true =>
      have hb := below_eq ho 0 (by omega)
      simp only [show ((0 : Int) == 0) = true from rfl, cond_true, show ((0 : Int) == 2) = false from rfl, cond_false] at hb
      simp only [cond_true]
      rw [hb]
      cases (zeroPre (v.maj + 1) 0 0 == []) <;> rfl
    | false =>
      have h5 : v.maj = 0 := by have := of_decide_eq_false h4; omega
      cases h6 : decide (v.min > 0) with
      | true =>
        have h7 : (v.min == 0) = false := by have := of_decide_eq_true h6; rw [beq_eq_false_iff_ne]; omega
        have hb := below_eq ho 1 (by omega)
        simp only [show ((1 : Int) == 0) = false from rfl, show ((1 : Int) == 1) = true from rfl, cond_true, show ((1 : Int) == 2) = false from rfl, cond_false] at hb
        simp only [cond_true, cond_false, h7]
        rw [hb]
        cases (zeroPre v.maj (v.min + 1) 0 == []) <;> rfl
      | false =>
        have h7 : v.min = 0 := by have := of_decide_eq_false h6; omega
        have hb := below_eq ho 2 (by omega)
        simp only [show ((2 : Int) == 0) = false from rfl, show ((2 : Int) == 1) = false from rfl, show ((2 : Int) == 2) = true from rfl, cond_true, cond_false] at hb
        simp only [cond_false]
        rw [hb, h5, h7]
        simp only [show ((0 : Int) == 0) = true from rfl, cond_true]
        cases (zeroPre 0 0 (v.pat + 1) == []) <;> rfl
theorem head_eq (c x : UInt8) (r : Str) : ([c] : Str).isPrefixOf (x :: r) = (x == c) := by
  simp only [List.isPrefixOf, Bool.and_true]; exact Bool.beq_comm
theorem len_gt1 (x : UInt8) (r : Str) : decide (((x :: r).length : Int) > 1) = !(r == []) := by
  cases r with
  | nil => rfl
  | cons y r =>
    have : ((y :: r) == []) = false := rfl
    rw [this]
    apply decide_eq_true
    simp only [List.length_cons]; omega
/-- what follows where no sign stands ahead -/
theorem tail_same {s : Str} (hv : isV s = false) : (match exactB s with | some x => some x | none => shortR s) = shortI s := by
  rw [exact_no hv]
  exact short_same s
theorem chk_sign (x : UInt8) (r : Str) (hx : x = 94 ∨ x = 126) : chkI (x :: r) = partR (x :: r) := by
  have hd : isD x = false := by rcases hx with rfl | rfl <;> decide
  have h42 : ((x :: r) == [42]) = false := by rw [beq_eq_false_iff_ne]; intro e; cases e; rcases hx with h | h <;> cases h
  have hv := isV_head (r := r) hd
  have hge : geP (x :: r) = false := by
    unfold geP
    rcases hx with rfl | rfl <;> cases r <;> simp [List.isPrefixOf]
  have hlt : ltP (x :: r) = false := by
    unfold ltP
    rcases hx with rfl | rfl <;> simp [List.isPrefixOf]
  have h1 : (hdB 94 (x :: r) || hdB 126 (x :: r)) = true := by rcases hx with rfl | rfl <;> rfl
  have h2 : hdB 126 (x :: r) = !(hdB 94 (x :: r)) := by rcases hx with rfl | rfl <;> rfl
  have h3 : (hdB 62 (x :: r) || hdB 60 (x :: r)) = false := by rcases hx with rfl | rfl <;> rfl
  cases hr : (r == []) with
  | true =>
    obtain rfl : r = [] := by
      cases r with
      | nil => rfl
      | cons y r => cases hr
    have hp : ∃ a q, cutS 46 [x] = (x :: a) :: q := cut_head (by rcases hx with rfl | rfl <;> decide)
    obtain ⟨a, q, hp⟩ := hp
    have hsh := shortI_bad hp hd
    unfold chkI partR boundI openI
    rw [h42, hv, hge, hlt, h1, h3, len_gt1, hr, tail_same hv, hsh]
    simp only [List.drop_succ_cons, List.drop_zero, isV_nil]
    rfl
  | false =>
    unfold chkI partR boundI openI
    rw [h42, hv, hge, hlt, h1, len_gt1, hr, h2]
    unfold signH
    simp only [List.drop_succ_cons, List.drop_zero, cond_false, cond_true, Bool.or_false, Bool.not_false, Bool.true_and, Bool.not_true, Bool.false_and, hr, Bool.false_or]
    cases hvr : isV r with
    | false => rfl
    | true =>
      obtain ⟨_, _, ho, _⟩ := readVer_true hvr
      rw [below_sign ho]
      simp only [Bool.not_true, Bool.false_or, cond_false]
theorem geW_cons (p : Str) : geW (62 :: 61 :: p) = !(p == []) := by
  unfold geW
  cases p with
  | nil => rfl
  | cons x p =>
    have : decide (((62 :: 61 :: x :: p : Str).length : Int) > 2) = true := by apply decide_eq_true; simp only [List.length_cons]; omega
    rw [this]; rfl
theorem ltW_cons (p : Str) : ltW (60 :: p) = !(p == []) := by
  unfold ltW
  rw [len_gt1]
  simp [hdB]
theorem isV_or_nil (p : Str) : (!(p == []) && isE p) = isV p := by
  cases p with
  | nil => rw [isV_nil]; rfl
  | cons x r => rw [isE_ne (by simp)]; rfl
theorem mem_of_cut {s : Str} {c1 c2 : Str} {two : Bool} (h : cut2 s = (c1, c2, two)) (h32 : 2 ≤ s.count 32) : (isV c1 && (!two || isV c2)) = false := by
  have he := cut2_eq s
  rw [h] at he
  simp only at he
  cases two with
  | false =>
    rw [cond_false, List.append_nil] at he
    have : (32 : UInt8) ∈ c1 := by rw [← he]; exact List.count_pos_iff.1 (by omega)
    rw [isV_no (c := 32) (by decide) this]; rfl
  | true =>
    rw [cond_true] at he
    rw [he, List.count_append, List.count_cons_self, List.count_cons_of_ne (by decide)] at h32
    by_cases h1 : 0 < c1.count 32
    · rw [isV_no (c := 32) (by decide) (List.count_pos_iff.1 h1)]; rfl
    · rw [isV_no (s := c2) (c := 32) (by decide) (List.count_pos_iff.1 (by omega))]; simp
theorem chk_ge (t : Str) : chkI (62 :: 61 :: t) = partR (62 :: 61 :: t) := by
  have hv := isV_head (b := 62) (r := 61 :: t) (by decide)
  have hge : geP (62 :: 61 :: t) = true := by simp [geP, List.isPrefixOf]
  have h42 : ((62 :: 61 :: t : Str) == [42]) = false := rfl
  have hR : partR (62 :: 61 :: t) = signsR (62 :: 61 :: t) := by
    unfold partR
    rw [h42]
    simp only [hdB, show ((62 : UInt8) == 94) = false from rfl, show ((62 : UInt8) == 126) = false from rfl, show ((62 : UInt8) == 62) = true from rfl, Bool.or_false, Bool.and_false, cond_false, Bool.true_or, Bool.and_true]
    have : decide (((62 :: 61 :: t : Str).length : Int) > 0) = true := by apply decide_eq_true; simp only [List.length_cons]; omega
    rw [this]; rfl
  have hI : chkI (62 :: 61 :: t) = cond (isV (cut2 t).1 && (!(cut2 t).2.2 || isV (cut2 t).2.1)) (some ((cut2 t).1, (cut2 t).2.1)) none := by
    unfold chkI boundI openI
    rw [h42, hv, hge]
    simp only [cond_false, cond_true, Bool.or_true, Bool.not_true, Bool.false_and, Bool.or_false, List.drop_succ_cons, List.drop_zero]
    cases (isV (cut2 t).1 && (!(cut2 t).2.2 || isV (cut2 t).2.1)) <;> rfl
  rw [hI, hR]
  unfold signsR
  cases hc : cutS 32 t with
  | nil => exact absurd hc (cutS_ne 32 t)
  | cons p q =>
    have hw : cutS 32 (62 :: 61 :: t) = (62 :: 61 :: p) :: q := cutS_miss 32 62 (61 :: t) (61 :: p) q (by decide) (cutS_miss 32 61 t p q (by decide) hc)
    rw [hw]
    cases q with
    | nil =>
      obtain ⟨rfl, hn⟩ := cutS_one hc
      rw [cut2_no t hn]
      simp only [geW_cons, List.drop_succ_cons, List.drop_zero, isE_nil, Bool.and_true, Bool.not_false, Bool.true_or]
      have hl2 : ltW (62 :: 61 :: t) = false := by unfold ltW; simp [hdB]
      rw [← isV_or_nil t, hl2]
      cases (t == []) with
      | true => rfl
      | false => rfl
    | cons y q =>
      obtain ⟨u, rfl, hn, hcu⟩ := cutS_cons hc
      cases q with
      | nil =>
        obtain ⟨rfl, hny⟩ := cutS_one hcu
        simp only [geW_cons, List.drop_succ_cons, List.drop_zero]
        by_cases hy : ∃ z, u = 60 :: z
        · obtain ⟨z, rfl⟩ := hy
          rw [cut2_app z p hn]
          simp only [ltW_cons, List.drop_succ_cons, List.drop_zero, Bool.not_true, Bool.false_or]
          rw [← isV_or_nil p, ← isV_or_nil z]
          cases (p == []) <;> cases (z == []) <;> simp
        · rw [cut2_miss u hny (fun r hr => hy ⟨r, hr⟩) p hn]
          have h1 : isV (p ++ 32 :: u) = false := isV_no (c := 32) (by decide) (by simp)
          have h2 : ltW u = false := by
            unfold ltW
            cases u with
            | nil => rfl
            | cons c r =>
              have : (c == 60) = false := by rw [beq_eq_false_iff_ne]; intro e; exact hy ⟨r, by rw [e]⟩
              simp only [hdB, this, Bool.and_false]
          rw [h1, h2]
          simp
      | cons z q =>
        obtain ⟨w, rfl, hn2, _⟩ := cutS_cons hcu
        have h2 : 2 ≤ (p ++ 32 :: (y ++ 32 :: w)).count 32 := by
          simp only [List.count_append, List.count_cons_self]; omega
        have := mem_of_cut (s := p ++ 32 :: (y ++ 32 :: w)) rfl h2
        rw [this]
        rfl
theorem chk_lt (t : Str) : chkI (60 :: t) = partR (60 :: t) := by
  have hv := isV_head (b := 60) (r := t) (by decide)
  have hge : geP (60 :: t) = false := by cases t <;> simp [geP, List.isPrefixOf]
  have hlt : ltP (60 :: t) = true := by simp [ltP, List.isPrefixOf]
  have h42 : ((60 :: t : Str) == [42]) = false := by rw [beq_eq_false_iff_ne]; intro e; cases e
  have hR : partR (60 :: t) = signsR (60 :: t) := by
    unfold partR
    rw [h42]
    simp only [hdB, show ((60 : UInt8) == 94) = false from rfl, show ((60 : UInt8) == 126) = false from rfl, show ((60 : UInt8) == 62) = false from rfl, show ((60 : UInt8) == 60) = true from rfl, Bool.or_false, Bool.and_false, cond_false, Bool.or_true, Bool.and_true]
    have : decide (((60 :: t : Str).length : Int) > 0) = true := by apply decide_eq_true; simp only [List.length_cons]; omega
    rw [this]; rfl
  have hI : chkI (60 :: t) = cond (isV t) (some ([], t)) none := by
    unfold chkI boundI openI
    rw [h42, hv, hge, hlt]
    simp only [cond_false, cond_true, Bool.or_true, Bool.true_or, Bool.not_true, Bool.false_and, Bool.or_false, List.drop_succ_cons, List.drop_zero]
    cases isV t <;> rfl
  rw [hI, hR]
  unfold signsR
  cases hc : cutS 32 t with
  | nil => exact absurd hc (cutS_ne 32 t)
  | cons p q =>
    have hw : cutS 32 (60 :: t) = (60 :: p) :: q := cutS_miss 32 60 t p q (by decide) hc
    have hg : geW (60 :: p) = false := by
      unfold geW
      cases p with
      | nil => rfl
      | cons a b => simp
    rw [hw]
    cases q with
    | nil =>
      obtain ⟨rfl, hn⟩ := cutS_one hc
      simp only [hg, cond_false, ltW_cons, List.drop_succ_cons, List.drop_zero, isE_nil, Bool.true_and]
      rw [← isV_or_nil t]
      cases (t == []) <;> rfl
    | cons y q =>
      obtain ⟨u, rfl, hn, hcu⟩ := cutS_cons hc
      have h1 : isV (p ++ 32 :: u) = false := isV_no (c := 32) (by decide) (by simp)
      rw [h1]
      cases q with
      | nil => simp only [hg, cond_false]
      | cons z q => rfl
theorem chk_other (x : UInt8) (r : Str) (hv : isV (x :: r) = false) (h42 : ((x :: r) == [42]) = false) (h94 : x ≠ 94) (h126 : x ≠ 126) (h60 : x ≠ 60) (h62 : x = 62 → ∀ t, r ≠ 61 :: t) : chkI (x :: r) = partR (x :: r) := by
  have e94 : (x == 94) = false := by rw [beq_eq_false_iff_ne]; exact h94
  have e126 : (x == 126) = false := by rw [beq_eq_false_iff_ne]; exact h126
  have e60 : (x == 60) = false := by rw [beq_eq_false_iff_ne]; exact h60
  have hge : geP (x :: r) = false := by
    unfold geP
    cases hg : ([62, 61] : Str).isPrefixOf (x :: r) with
    | false => rfl
    | true =>
      cases r with
      | nil => simp [List.isPrefixOf] at hg
      | cons y r =>
        simp only [List.isPrefixOf, Bool.and_true, Bool.and_eq_true, beq_iff_eq] at hg
        exact absurd (by rw [← hg.2]) (h62 hg.1.symm r)
  have hlt : ltP (x :: r) = false := by unfold ltP; rw [head_eq]; exact e60
  have hb : boundI (x :: r) = partialI (x :: r) := by
    unfold boundI
    rw [h42, hv, hge, hlt]
    simp only [hdB, e94, e126, cond_false, Bool.or_false]
  have ho : openI (x :: r) = false := by unfold openI; rw [h42, hge, hlt]; rfl
  rw [chk_partial hb ho]
  unfold partR
  rw [h42, tail_same hv]
  simp only [hdB, e94, e126, e60, Bool.or_false, Bool.and_false, cond_false]
  have hl : decide (((x :: r).length : Int) > 0) = true := by apply decide_eq_true; simp only [List.length_cons]; omega
  rw [hl, Bool.true_and]
  cases h : (x == 62) with
  | false => rfl
  | true =>
    have hx := eq_of_beq h
    subst hx
    obtain ⟨a, q, hp⟩ := cut_head (c := 62) (r := r) (by decide)
    rw [shortI_bad hp (by decide)]
    simp only [cond_true]
    unfold signsR
    cases hc : cutS 32 r with
    | nil => exact absurd hc (cutS_ne 32 r)
    | cons p w =>
      rw [cutS_miss 32 62 r p w (by decide) hc]
      have hg : geW (62 :: p) = false := by
        unfold geW
        cases p with
        | nil => rfl
        | cons y p =>
          have hr : ∃ t, r = y :: t := by
            cases w with
            | nil => obtain ⟨e, _⟩ := cutS_one hc; exact ⟨p, e⟩
            | cons w1 w2 => obtain ⟨t, e, _⟩ := cutS_cons hc; exact ⟨p ++ 32 :: t, e⟩
          obtain ⟨t, rfl⟩ := hr
          have hy : y ≠ 61 := fun e => h62 rfl t (by rw [e])
          have : ((List.take 2 (62 :: y :: p)) == [62, 61]) = false := by
            rw [beq_eq_false_iff_ne]; intro e; simp at e; exact hy e
          rw [this, Bool.and_false]
      cases w with
      | nil =>
        have hl2 : ltW (62 :: p) = false := by unfold ltW; simp [hdB]
        simp only [hg, hl2, cond_false]
      | cons y w => cases w with
        | nil => simp only [hg, cond_false]
        | cons _ _ => rfl
theorem chk_nil : chkI [] = partR [] := by
  have hb : boundI [] = partialI [] := by
    unfold boundI
    rw [isV_nil]; rfl
  rw [chk_partial hb rfl, shortI_nil]
  unfold partR
  rw [tail_same isV_nil, shortI_nil]
  rfl
theorem chk_star : chkI [42] = partR [42] := by
  unfold chkI partR boundI openI
  rfl
/-- both take a part alike -/
theorem chk_same (s : Str) : chkI s = partR s := by
  cases s with
  | nil => exact chk_nil
  | cons x r =>
    by_cases h42 : ((x :: r) == [42]) = true
    · rw [eq_of_beq h42]; exact chk_star
    · have h42' : ((x :: r) == [42]) = false := by simpa using h42
      cases hv : isV (x :: r) with
      | true => exact chk_ver hv
      | false =>
        by_cases h1 : x = 94
        · exact chk_sign x r (.inl h1)
        · by_cases h2 : x = 126
          · exact chk_sign x r (.inr h2)
          · by_cases h3 : x = 60
            · subst h3; exact chk_lt r
            · by_cases h4 : x = 62 ∧ ∃ t, r = 61 :: t
              · obtain ⟨rfl, t, rfl⟩ := h4; exact chk_ge t
              · exact chk_other x r hv h42' h1 h2 h3 fun hx t ht => h4 ⟨hx, t, ht⟩
/-- what a part gives has versions for its ends -/
theorem zero_isV {a b c : Int} (h : (zeroPre a b c == []) = false) : isV (zeroPre a b c) = true := by
  have hz := zeroPre_ne a b c
  rw [h] at hz
  have hn : (n9 a && (n9 b && n9 c)) = true := by
    cases hh : (n9 a && (n9 b && n9 c)) with
    | true => rfl
    | false => rw [hh] at hz; cases hz
  have hok : verOk ⟨a, b, c, [[48]]⟩ = true := by rw [verOk_zero]; exact hn
  simp only [Bool.and_eq_true, n9_iff] at hn
  obtain ⟨ha, hb, hc⟩ := hn
  obtain ⟨da, _⟩ := itoa_all ha.1
  obtain ⟨db, _⟩ := itoa_all hb.1
  obtain ⟨dc, _⟩ := itoa_all hc.1
  have ht : zeroPre a b c = (Lib.itoa a ++ 46 :: (Lib.itoa b ++ 46 :: Lib.itoa c)) ++ 45 :: [48] := by
    unfold zeroPre verText tailV coreV
    rw [hok]
    simp [Lib.join_one]
  have ra : readDec (Lib.itoa a) = a := by
    obtain ⟨u, rfl⟩ : ∃ u : Nat, a = u := ⟨a.toNat, by omega⟩
    rw [Lib.itoa_nonneg]; exact (read_some (by omega)).1
  have rb : readDec (Lib.itoa b) = b := by
    obtain ⟨u, rfl⟩ : ∃ u : Nat, b = u := ⟨b.toNat, by omega⟩
    rw [Lib.itoa_nonneg]; exact (read_some (by omega)).1
  have rc : readDec (Lib.itoa c) = c := by
    obtain ⟨u, rfl⟩ : ∃ u : Nat, c = u := ⟨c.toNat, by omega⟩
    rw [Lib.itoa_nonneg]; exact (read_some (by omega)).1
  have na := List.all_eq_true.1 da
  have nb := List.all_eq_true.1 db
  have nc := List.all_eq_true.1 dc
  have h45 : (45 : UInt8) ∉ Lib.itoa a ++ 46 :: (Lib.itoa b ++ 46 :: Lib.itoa c) := by
    simp only [List.mem_append, List.mem_cons, not_or]
    exact ⟨not45 na, by decide, not45 nb, by decide, not45 nc⟩
  have hm : mkVer (zeroPre a b c) = some ⟨a, b, c, [[48]]⟩ := by
    unfold mkVer
    rw [ht, cut1_app 45 [48] _ h45]
    simp only
    rw [cutS_app, cutS_no 46 _ (not46 na), cutS_app, cutS_no 46 _ (not46 nb), cutS_no 46 _ (not46 nc)]
    simp only [List.cons_append, List.nil_append, cond_true]
    rw [ra, rb, rc]; rfl
  unfold isV readVer
  rw [hm]
  simp only
  have : (verText ⟨a, b, c, [[48]]⟩ == zeroPre a b c) = true := by unfold zeroPre; simp
  rw [this]; rfl
theorem exact_isV {s : Str} {b : Bd} (h : exactB s = some b) : isV b.1 = true ∧ isV b.2 = true := by
  unfold exactB at h
  cases hv : (readVer s).2 with
  | false => rw [hv] at h; cases h
  | true =>
    rw [hv] at h
    cases hh : (highV (readVer s).1 == []) with
    | true => rw [hh] at h; cases h
    | false =>
      rw [hh] at h
      simp only [Bool.not_false, Bool.and_self, cond_true] at h
      injection h with h
      subst h
      refine ⟨hv, ?_⟩
      show isV (highV (readVer s).1) = true
      unfold highV at hh ⊢
      cases hp : ((readVer s).1.pre == []) with
      | true => rw [hp] at hh; simp only [cond_true] at hh ⊢; exact zero_isV hh
      | false =>
        rw [hp] at hh
        simp only [cond_false] at hh ⊢
        obtain ⟨r1, r2⟩ := read_more hv (fun e => by rw [e] at hp; cases hp)
        cases hk : verOk (preV (readVer s).1) with
        | false => rw [r2, hk] at hh; cases hh
        | true =>
          rw [r2, hk]
          simp only [cond_true]
          unfold isV
          rw [r1, hk]; rfl
theorem short_isV {s : Str} {b : Bd} (h : shortR s = some b) : isV b.1 = true ∧ isV b.2 = true := by
  have hI := h
  rw [short_same] at hI
  refine ⟨?_, ?_⟩
  · unfold shortR at h
    cases h1 : (!(isV (fullR s)) || (!(B2 ((cutS 46 s).length : Int) 1 2) || !((readVer (fullR s)).1.pre == []))) with
    | true => rw [h1] at h; cases h
    | false =>
      rw [h1] at h
      simp only [cond_false] at h
      cases h2 : (belowV (readVer (fullR s)).1 (((cutS 46 s).length : Int) - 1)).2 with
      | false => rw [h2] at h; cases h
      | true =>
        rw [h2] at h
        injection h with h
        subst h
        simp only [Bool.or_eq_false_iff, Bool.not_eq_false'] at h1
        exact h1.1
  · unfold shortI at hI
    split at hI
    · rename_i a _
      cases h1 : (decide (0 ≤ readDec a) && !(zeroPre (readDec a + 1) 0 0 == [])) with
      | false => rw [h1] at hI; cases hI
      | true =>
        rw [h1] at hI
        injection hI with hI
        subst hI
        simp only [Bool.and_eq_true, Bool.not_eq_true'] at h1
        exact zero_isV h1.2
    · rename_i a b _
      cases h1 : ((decide (0 ≤ readDec a) && decide (0 ≤ readDec b)) && !(zeroPre (readDec a) (readDec b + 1) 0 == [])) with
      | false => rw [h1] at hI; cases hI
      | true =>
        rw [h1] at hI
        injection hI with hI
        subst hI
        simp only [Bool.and_eq_true, Bool.not_eq_true'] at h1
        exact zero_isV h1.2
    · cases hI
theorem some_of_cond {α : Type} {b : Bool} {x y : α} (h : cond b (some x) none = some y) : b = true ∧ x = y := by
  cases b with
  | false => cases h
  | true => injection h with h; exact ⟨rfl, h⟩
theorem part_isE {s : Str} {b : Bd} (h : partR s = some b) : isE b.1 = true ∧ isE b.2 = true := by
  have ofV : ∀ {t : Str}, isV t = true → isE t = true := fun {t} h => by unfold isE; rw [h]; rfl
  unfold partR at h
  cases h1 : (s == [42]) with
  | true => rw [h1] at h; injection h with h; subst h; exact ⟨isE_nil, isE_nil⟩
  | false =>
    rw [h1] at h
    simp only [cond_false] at h
    cases h2 : (decide ((s.length : Int) > 1) && (hdB 94 s || hdB 126 s)) with
    | true =>
      rw [h2] at h
      simp only [cond_true] at h
      cases hv : isV (s.drop 1) with
      | false => rw [hv] at h; cases h
      | true =>
        rw [hv] at h
        simp only [Bool.not_true, cond_false] at h
        obtain ⟨_, _, ho, _⟩ := readVer_true hv
        have hh : hdB 126 s = !(hdB 94 s) := by
          cases s with
          | nil => simp [hdB] at h2
          | cons x r =>
            simp only [hdB, Bool.and_eq_true, Bool.or_eq_true, beq_iff_eq] at h2
            rcases h2.2 with e | e <;> rw [e] <;> rfl
        rw [hh, below_sign ho] at h
        have key : ∀ z : Str, cond (z == []) none (some (s.drop 1, z)) = some b → (∀ (hz : (z == []) = false), isV z = true) → isE b.1 = true ∧ isE b.2 = true := fun z hz hzv => by
          cases hn : (z == []) with
          | true => rw [hn] at hz; cases hz
          | false =>
            rw [hn] at hz
            injection hz with hz
            subst hz
            exact ⟨ofV hv, ofV (hzv hn)⟩
        refine key _ h fun hz => ?_
        cases hb : hdB 94 s with
        | false => rw [hb] at hz; simp only [cond_false] at hz ⊢; exact zero_isV hz
        | true =>
          rw [hb] at hz
          simp only [cond_true] at hz ⊢
          unfold caretI at hz ⊢
          cases h5 : decide ((readVer (s.drop 1)).1.maj > 0) with
          | true => rw [h5] at hz; simp only [cond_true] at hz ⊢; exact zero_isV hz
          | false =>
            rw [h5] at hz
            simp only [cond_false] at hz ⊢
            cases h6 : ((readVer (s.drop 1)).1.min == 0) with
            | true => rw [h6] at hz; simp only [cond_true] at hz ⊢; exact zero_isV hz
            | false => rw [h6] at hz; simp only [cond_false] at hz ⊢; exact zero_isV hz
    | false =>
      rw [h2] at h
      simp only [cond_false] at h
      cases h3 : (decide ((s.length : Int) > 0) && (hdB 62 s || hdB 60 s)) with
      | true =>
        rw [h3] at h
        simp only [cond_true] at h
        unfold signsR at h
        split at h
        · rename_i x _
          cases hg : geW x with
          | true =>
            rw [hg] at h
            obtain ⟨q1, q2⟩ := some_of_cond h
            subst q2
            simpa using q1
          | false =>
            rw [hg] at h
            simp only [cond_false] at h
            cases hl : ltW x with
            | false => rw [hl] at h; cases h
            | true =>
              rw [hl] at h
              obtain ⟨q1, q2⟩ := some_of_cond h
              subst q2
              simpa using q1
        · rename_i x y _
          cases hg : geW x with
          | false => rw [hg] at h; cases h
          | true =>
            rw [hg] at h
            simp only [cond_true] at h
            cases hl : ltW y with
            | false => rw [hl] at h; cases h
            | true =>
              rw [hl] at h
              obtain ⟨q1, q2⟩ := some_of_cond h
              subst q2
              simpa using q1
        · cases h
      | false =>
        rw [h3] at h
        simp only [cond_false] at h
        cases hx : exactB s with
        | some x =>
          rw [hx] at h
          injection h with h
          subst h
          obtain ⟨q1, q2⟩ := exact_isV hx
          exact ⟨ofV q1, ofV q2⟩
        | none =>
          rw [hx] at h
          obtain ⟨q1, q2⟩ := short_isV h
          exact ⟨ofV q1, ofV q2⟩
end Go.Proofs.YtkpmachalipmpaaGreatDoor
/- Ranges, plain: a text cut at ' || ', the whole. Conditions: none. -/
namespace Go.Proofs.YtkpmachalipmpaaGreatDoor
open E
set_option linter.unusedVariables false
set_option linter.unusedSimpArgs false
set_option maxRecDepth 100000
def sep4 : Str := [32, 124, 124, 32]
/-- the parts between; so many bytes are passed over first -/
def cutK : Nat → Str → List Str
  | _, [] => [[]]
  | 0, x :: r => if sep4.isPrefixOf (x :: r) = true then [] :: cutK 3 r else match cutK 0 r with
    | p :: q => (x :: p) :: q
    | [] => [[x]]
  | k + 1, _ :: r => cutK k r
theorem cutK_ne : ∀ (k : Nat) (s : Str), cutK k s ≠ []
  | k, [] => by cases k <;> simp [cutK]
  | 0, x :: r => by
    unfold cutK
    split
    · simp
    · split <;> simp
  | k + 1, x :: r => by rw [cutK]; exact cutK_ne k r
theorem cutK_drop : ∀ (k : Nat) (s : Str), k ≤ s.length → cutK k s = cutK 0 (s.drop k)
  | 0, s, _ => rfl
  | k + 1, [], h => by simp at h
  | k + 1, x :: r, h => by rw [cutK, cutK_drop k r (by simpa using h)]; rfl
theorem pref4 {s : Str} (h : sep4.isPrefixOf s = true) : 4 ≤ s.length := by
  have : ∀ p s : Str, p.isPrefixOf s = true → p.length ≤ s.length := fun p => by
    induction p with
    | nil => intro s _; simp
    | cons a p ih =>
      intro s h
      cases s with
      | nil => simp [List.isPrefixOf] at h
      | cons b s =>
        simp only [List.isPrefixOf, Bool.and_eq_true] at h
        have := ih s h.2
        simp only [List.length_cons]; omega
  exact this sep4 s h
theorem cutK_hit (x : UInt8) (r : Str) (h : sep4.isPrefixOf (x :: r) = true) : cutK 0 (x :: r) = [] :: cutK 3 r := by rw [cutK, if_pos h]
theorem cutK_miss (x : UInt8) (r p : Str) (q : List Str) (h : sep4.isPrefixOf (x :: r) = false) (e : cutK 0 r = p :: q) : cutK 0 (x :: r) = (x :: p) :: q := by
  rw [cutK, if_neg (by rw [h]; simp), e]
theorem split_cutK : ∀ (n : Nat) (s : Str), s.length ≤ n → Lib.split s sep4 = cutK 0 s
  | n, [], _ => by
    unfold Lib.split
    rw [Lib.count_miss (by simp [Lib.index, sep4])]; rfl
  | 0, x :: r, h => by simp at h
  | n + 1, x :: r, h => by
    simp only [List.length_cons] at h
    cases hp : sep4.isPrefixOf (x :: r) with
    | true =>
      have h4 := pref4 hp
      simp only [List.length_cons] at h4
      have hi : Lib.index (x :: r) sep4 = ((0 : Nat) : Int) := by rw [Lib.index, if_pos hp]; rfl
      have ih := split_cutK n (r.drop 3) (by rw [List.length_drop]; omega)
      unfold Lib.split at ih ⊢
      rw [Lib.count_hit (by simp [sep4]) hi, Nat.add_comm, Lib.splitK, hi]
      rw [cutK_hit x r hp, cutK_drop 3 r (by omega), ← ih]
      simp [sep4]
    | false =>
      have ih := split_cutK n r (by omega)
      have hix : Lib.index (x :: r) sep4 = if Lib.index r sep4 == -1 then -1 else Lib.index r sep4 + 1 := by
        rw [Lib.index, hp]; simp
      unfold Lib.split at ih ⊢
      by_cases hm : Lib.index r sep4 = -1
      · rw [Lib.count_miss hm] at ih
        rw [Lib.count_miss (by rw [hix, hm]; rfl), Lib.splitK]
        rw [Lib.splitK] at ih
        exact (cutK_miss x r r [] hp ih.symm).symm
      · have hge := Lib.index_ge r sep4
        obtain ⟨j, hj⟩ : ∃ j : Nat, Lib.index r sep4 = j := ⟨(Lib.index r sep4).toNat, by omega⟩
        have hb : (((j : Nat) : Int) == -1) = false := by rw [beq_eq_false_iff_ne]; omega
        have hb2 : (((j + 1 : Nat) : Int) == -1) = false := by rw [beq_eq_false_iff_ne]; omega
        have hj2 : Lib.index (x :: r) sep4 = ((j + 1 : Nat) : Int) := by rw [hix, hj, hb]; simp
        rw [Lib.count_hit (by simp [sep4]) hj, Nat.add_comm, Lib.splitK, hj, hb] at ih
        rw [Lib.count_hit (by simp [sep4]) hj2, Nat.add_comm, Lib.splitK, hj2, hb2]
        simp only [Bool.false_eq_true, if_false, Int.toNat_natCast, Nat.add_zero] at ih ⊢
        rw [List.take_succ_cons, show j + 1 + sep4.length = (j + sep4.length) + 1 by omega, List.drop_succ_cons]
        exact (cutK_miss x r _ _ hp ih.symm).symm
theorem cutK_bulk : ∀ (k : Nat) (s : Str), bulkS (cutK k s) + (cutK k s).length ≤ s.length + 1
  | k, [] => by cases k <;> simp [cutK, bulkS]
  | 0, x :: r => by
    cases hp : sep4.isPrefixOf (x :: r) with
    | true =>
      have ih := cutK_bulk 3 r
      rw [cutK_hit x r hp]
      simp only [bulkS, List.length_cons, List.length_nil] at ih ⊢; omega
    | false =>
      have ih := cutK_bulk 0 r
      cases hc : cutK 0 r with
      | nil => exact absurd hc (cutK_ne 0 r)
      | cons p q =>
        rw [hc] at ih
        rw [cutK_miss x r p q hp hc]
        simp only [bulkS, List.length_cons] at ih ⊢; omega
  | k + 1, x :: r => by
    have ih := cutK_bulk k r
    rw [cutK]
    simp only [List.length_cons]; omega
/-! ### the whole -/
def allP : List Str → Option (List Bd)
  | [] => some []
  | p :: r => match partR p with
    | some b => (match allP r with | some bs => some (b :: bs) | none => none)
    | none => none
def rangeP (s : Str) : Option (List Bd) := cond (decide ((s.length : Int) > 200) || decide (((cutK 0 s).length : Int) > 8)) none (allP (cutK 0 s))
def rangeOk (l : List Bd) : Bool := (l.all fun b => isE b.1 && isE b.2) && B2 (l.length : Int) 1 8
theorem allP_ok : ∀ (l : List Str) (r : List Bd), allP l = some r → (r.all fun b => isE b.1 && isE b.2) = true ∧ r.length = l.length
  | [], r, h => by cases h; exact ⟨rfl, rfl⟩
  | p :: l, r, h => by
    unfold allP at h
    cases hp : partR p with
    | none => rw [hp] at h; cases h
    | some b =>
      rw [hp] at h
      simp only at h
      cases hl : allP l with
      | none => rw [hl] at h; cases h
      | some bs =>
        rw [hl] at h
        cases h
        obtain ⟨h1, h2⟩ := allP_ok l bs hl
        obtain ⟨q1, q2⟩ := part_isE hp
        refine ⟨?_, by simp [h2]⟩
        simp only [List.all_cons, q1, q2, h1]; rfl
/-- as the implementation asks -/
def rangeI (s : Str) : Option (List Bd) := cond (decide ((s.length : Int) > 200)) none (match allP (cutK 0 s) with | some l => cond (rangeOk l) (some l) none | none => none)
theorem range_same (s : Str) : rangeI s = rangeP s := by
  unfold rangeI rangeP
  cases decide ((s.length : Int) > 200) with
  | true => rfl
  | false =>
    simp only [cond_false, Bool.false_or]
    cases ha : allP (cutK 0 s) with
    | none => cases decide (((cutK 0 s).length : Int) > 8) <;> rfl
    | some l =>
      obtain ⟨h1, h2⟩ := allP_ok _ _ ha
      have hn : 1 ≤ (cutK 0 s).length := by
        cases hc : cutK 0 s with
        | nil => exact absurd hc (cutK_ne 0 s)
        | cons p q => simp
      have hr : rangeOk l = !decide (((cutK 0 s).length : Int) > 8) := by
        unfold rangeOk B2
        rw [h1, h2, Bool.true_and, decide_eq_true (show (1 : Int) ≤ ((cutK 0 s).length : Int) by omega), Bool.true_and]
        by_cases h : ((cutK 0 s).length : Int) ≤ 8
        · rw [decide_eq_true h, decide_eq_false (by omega)]; rfl
        · rw [decide_eq_false h, decide_eq_true (by omega)]; rfl
      simp only
      rw [hr]
      cases decide (((cutK 0 s).length : Int) > 8) <;> rfl
end Go.Proofs.YtkpmachalipmpaaGreatDoor
/- What the laws' own functions do over Sum, Pack, Graph: sizes, copies, comparisons. Conditions: those of each lemma. -/
namespace Go.Proofs.YtkpmachalipmpaaGreatDoor
open E
set_option linter.unusedSimpArgs false
set_option linter.unusedVariables false
set_option maxRecDepth 100000

structure LSum where
  alg : List UInt8
  bytes : List UInt8
def LSum.enc (x : LSum) : List T := [.str x.alg, .str x.bytes]
def LSum.encs (l : List LSum) : List (List T) := l.map LSum.enc
def LSum.bulk (x : LSum) : Nat := x.alg.length + x.bytes.length
def LSum.bulks : List LSum → Nat
  | [] => 0
  | c :: cs => LSum.bulk c + LSum.bulks cs
def LSum.ok (x : LSum) : Prop := x.alg.length ≤ 9223372036854775807 ∧ x.bytes.length ≤ 9223372036854775807
theorem LSum.enc_len (x : LSum) : x.enc.length = 2 := rfl
theorem LSum.enc_take (x : LSum) : x.enc.take 2 = x.enc := rfl
theorem LSum.encs_len (cs : List LSum) : (LSum.encs cs).length = cs.length := by simp [LSum.encs]
theorem LSum.encs_get (cs : List LSum) (i : Nat) (h : i < cs.length) : (LSum.encs cs)[i]? = some cs[i].enc := by simp [LSum.encs, h]
theorem LSum.bulks_drop (cs : List LSum) (i : Nat) (h : i < cs.length) : LSum.bulks (cs.drop i) = cs[i].bulk + LSum.bulks (cs.drop (i + 1)) := by
  rw [List.drop_eq_getElem_cons h]; rfl
theorem LSum.bulks_mem : ∀ {cs : List LSum} {c : LSum}, c ∈ cs → c.bulk ≤ LSum.bulks cs
  | c' :: cs, c, h => by
    simp only [LSum.bulks]
    rcases List.mem_cons.1 h with rfl | h
    · omega
    · have := LSum.bulks_mem h; omega
def SzSum (x : LSum) : Prop := ∀ n : Int, 0 ≤ n → n ≤ 1048576 → callPure (EV Tryz.prog pol) 326 [.agg (x.enc.map .t), .t (.int .i64 n)] = some (.t (.int .i64 (left n x.bulk)))
theorem c_szSum (x : LSum) (ho : x.ok) : SzSum x := by
  obtain ⟨alg, bytes⟩ := x
  intro n h0 h1
  simp only [LSum.ok] at ho
  simp only [LSum.enc, List.map_cons, List.map_nil]
  apply eq_call
  refine call_eq rfl Tryz.func326 rfl (by kernel_rfl) ?_
  unfold Tryz.f326
  repeat' (first | (((first | with_reducible refine cK_any (fun hA => ?_) (fun hA => ?_) | with_reducible refine gW_any (fun hA => ?_) (fun hA => ?_)) <;> (try simp only [bne, Bool.not_eq_true', Bool.not_eq_false'] at hA) <;> (first | (have hP := Int.le_of_eq (eq_of_beq (α := Int) hA); have hQ := Int.le_of_eq (eq_of_beq (α := Int) hA).symm) | have hP := of_decide_eq_true hA | have hP := of_decide_eq_false hA | skip)) <;> (simp (disch := ((try simp only [List.length_cons, List.length_append, List.length_nil, List.length_map]); omega)) only [↓GO, ↓DRW, GA, ren, renB, footX, refs, cellsV, cst, cstAt, nilC, idxAddr, E.load, E.store, binO, isC, bin, ibin, sbin, una, isShift, okCell, packV, lenV, blt, fnV, asArg, snapV, snapS, snapP, snapC, flatV, flatT, openK, layBack, allT, allZ, mkS, srcOf0, unN, idxV, nilEq, give, tupV, mkEnv, extV, pickV, LVS, OVS, LTS, TYS, PMS, pmT, Int.reduceToNat, Nat.reduceGT, ↓reduceIte, Nat.reduceAdd, Nat.reduceMul, Nat.reduceSub, Nat.reduceEqDiff, Nat.reduceLeDiff, Nat.reduceLT, Nat.reduceBEq, Int.reduceBEq, Int.reduceBNe, Int.reduceEq, Int.reduceLT, Int.reduceLE, Int.reduceGT, Int.reduceNeg, reduceCtorEq, wrap_in, bne, left_lt, left_eq, *])) | (simp (disch := ((try simp only [List.length_cons, List.length_append, List.length_nil, List.length_map]); omega)) only [↓GO, ↓DRW, GA, ren, renB, footX, refs, cellsV, cst, cstAt, nilC, idxAddr, E.load, E.store, binO, isC, bin, ibin, sbin, una, isShift, okCell, packV, lenV, blt, fnV, asArg, snapV, snapS, snapP, snapC, flatV, flatT, openK, layBack, allT, allZ, mkS, srcOf0, unN, idxV, nilEq, give, tupV, mkEnv, extV, pickV, LVS, OVS, LTS, TYS, PMS, pmT, Int.reduceToNat, Nat.reduceGT, ↓reduceIte, Nat.reduceAdd, Nat.reduceMul, Nat.reduceSub, Nat.reduceEqDiff, Nat.reduceLeDiff, Nat.reduceLT, Nat.reduceBEq, Int.reduceBEq, Int.reduceBNe, Int.reduceEq, Int.reduceLT, Int.reduceLE, Int.reduceGT, Int.reduceNeg, reduceCtorEq, wrap_in, bne, left_lt, left_eq, *]))
  all_goals (refine left_leaf' ?_; simp only [LSum.bulk, and_true]; omega)
theorem l_szSumS (cs : List LSum) (hl : cs.length ≤ 9223372036854775807) (hc : ∀ c ∈ cs, SzSum c) : ∀ (d i : Nat) (n : Int), cs.length - i = d → i ≤ cs.length → 0 ≤ n → n ≤ 1048576 →
    (0 ≤ n - (LSum.bulks (cs.drop i) : Int) → EV Tryz.prog pol (.loop 275 122 0 [.t (.list 2 (LSum.encs cs)), .t (.int .i64 n), .t (.int .i64 (i : Int))] []) = some (.loop (.exit 0) [.t (.int .i64 (n - (LSum.bulks (cs.drop i) : Int))), .bad] [])) ∧
    (n - (LSum.bulks (cs.drop i) : Int) < 0 → ∃ v, EV Tryz.prog pol (.loop 275 122 0 [.t (.list 2 (LSum.encs cs)), .t (.int .i64 n), .t (.int .i64 (i : Int))] []) = some (.loop .ret [v, .t (.int .i64 (-1))] []))
  | 0, i, n, hd, hi, h0, h1 => by
    have hi' : i = cs.length := by omega
    subst hi'
    have hb : LSum.bulks (cs.drop cs.length) = 0 := by simp [LSum.bulks]
    rw [hb]
    refine ⟨fun _ => ?_, fun h => by omega⟩
    refine loop_eq Tryz.func275 rfl rfl ?_
    have c : decide (((cs.length : Nat) : Int) < ((cs.length : Nat) : Int)) = false := by simp
    simp only [↓GO, ↓DRW, GA, ren, renB, footX, refs, cellsV, cst, cstAt, nilC, idxAddr, E.load, E.store, binO, isC, bin, ibin, sbin, una, isShift, okCell, packV, lenV, blt, fnV, asArg, snapV, snapS, snapP, snapC, flatV, flatT, openK, layBack, allT, allZ, mkS, srcOf0, unN, idxV, nilEq, give, tupV, mkEnv, extV, pickV, LVS, OVS, LTS, TYS, PMS, pmT, Int.reduceToNat, Nat.reduceGT, ↓reduceIte, Nat.reduceAdd, Nat.reduceMul, Nat.reduceSub, Nat.reduceEqDiff, Nat.reduceLeDiff, Nat.reduceLT, Nat.reduceBEq, Int.reduceBEq, Int.reduceBNe, Int.reduceEq, Int.reduceLT, Int.reduceLE, Int.reduceGT, Int.reduceNeg, reduceCtorEq, LSum.encs_len, c]
    simp
  | d + 1, i, n, hd, hi, h0, h1 => by
    have hlt : i < cs.length := by omega
    rw [LSum.bulks_drop cs i hlt]
    have c : decide ((i : Int) < ((cs.length : Nat) : Int)) = true := by simp; omega
    have hcall := hc _ (List.getElem_mem hlt) n h0 h1
    have hget := LSum.encs_get cs i hlt
    generalize hci : cs[i] = ci at hcall hget
    obtain ⟨alg, bytes⟩ := ci
    simp only [LSum.enc, List.map_cons, List.map_nil] at hcall hget
    generalize hbu : (LSum.mk alg bytes).bulk = bu at hcall
    have IH := l_szSumS cs hl hc d (i + 1) (n - (bu : Int)) (by omega) (by omega)
    have e1 : (i : Int) + 1 = ((i + 1 : Nat) : Int) := by omega
    by_cases hneg : n - (bu : Int) < 0
    · refine ⟨fun h => by omega, fun _ => ⟨.t (.int .i64 (-1)), ?_⟩⟩
      refine loop_eq Tryz.func275 rfl rfl ?_
      have hle : left n bu = -1 := if_pos hneg
      rw [hle] at hcall
      simp (disch := omega) only [↓GO, ↓DRW, GA, ren, renB, footX, refs, cellsV, cst, cstAt, nilC, idxAddr, E.load, E.store, binO, isC, bin, ibin, sbin, una, isShift, okCell, packV, lenV, blt, fnV, asArg, snapV, snapS, snapP, snapC, flatV, flatT, openK, layBack, allT, allZ, mkS, srcOf0, unN, idxV, nilEq, give, tupV, mkEnv, extV, pickV, LVS, OVS, LTS, TYS, PMS, pmT, Int.reduceToNat, Nat.reduceGT, ↓reduceIte, Nat.reduceAdd, Nat.reduceMul, Nat.reduceSub, Nat.reduceEqDiff, Nat.reduceLeDiff, Nat.reduceLT, Nat.reduceBEq, Int.reduceBEq, Int.reduceBNe, Int.reduceEq, Int.reduceLT, Int.reduceLE, Int.reduceGT, Int.reduceNeg, reduceCtorEq, LSum.encs_len, c, hget, wrap_in, hcall]
    · have hle : left n bu = n - (bu : Int) := if_neg hneg
      rw [hle] at hcall
      have c2 : decide (n - (bu : Int) < 0) = false := by simpa using hneg
      obtain ⟨I1, I2⟩ := IH (by omega) (by omega)
      refine ⟨fun h => ?_, fun h => ?_⟩
      · refine loop_eq Tryz.func275 rfl rfl ?_
        simp (disch := omega) only [↓GO, ↓DRW, GA, ren, renB, footX, refs, cellsV, cst, cstAt, nilC, idxAddr, E.load, E.store, binO, isC, bin, ibin, sbin, una, isShift, okCell, packV, lenV, blt, fnV, asArg, snapV, snapS, snapP, snapC, flatV, flatT, openK, layBack, allT, allZ, mkS, srcOf0, unN, idxV, nilEq, give, tupV, mkEnv, extV, pickV, LVS, OVS, LTS, TYS, PMS, pmT, Int.reduceToNat, Nat.reduceGT, ↓reduceIte, Nat.reduceAdd, Nat.reduceMul, Nat.reduceSub, Nat.reduceEqDiff, Nat.reduceLeDiff, Nat.reduceLT, Nat.reduceBEq, Int.reduceBEq, Int.reduceBNe, Int.reduceEq, Int.reduceLT, Int.reduceLE, Int.reduceGT, Int.reduceNeg, reduceCtorEq, LSum.encs_len, c, hget, wrap_in, hcall, c2, e1]
        rw [I1 (by omega), show n - (bu : Int) - (LSum.bulks (cs.drop (i + 1)) : Int) = n - ((bu + LSum.bulks (cs.drop (i + 1)) : Nat) : Int) by omega]
      · obtain ⟨v, hv⟩ := I2 (by omega)
        refine ⟨v, ?_⟩
        refine loop_eq Tryz.func275 rfl rfl ?_
        simp (disch := omega) only [↓GO, ↓DRW, GA, ren, renB, footX, refs, cellsV, cst, cstAt, nilC, idxAddr, E.load, E.store, binO, isC, bin, ibin, sbin, una, isShift, okCell, packV, lenV, blt, fnV, asArg, snapV, snapS, snapP, snapC, flatV, flatT, openK, layBack, allT, allZ, mkS, srcOf0, unN, idxV, nilEq, give, tupV, mkEnv, extV, pickV, LVS, OVS, LTS, TYS, PMS, pmT, Int.reduceToNat, Nat.reduceGT, ↓reduceIte, Nat.reduceAdd, Nat.reduceMul, Nat.reduceSub, Nat.reduceEqDiff, Nat.reduceLeDiff, Nat.reduceLT, Nat.reduceBEq, Int.reduceBEq, Int.reduceBNe, Int.reduceEq, Int.reduceLT, Int.reduceLE, Int.reduceGT, Int.reduceNeg, reduceCtorEq, LSum.encs_len, c, hget, wrap_in, hcall, c2, e1]
        exact hv
theorem c_szSumS (cs : List LSum) (hl : cs.length ≤ 9223372036854775807) (hc : ∀ c ∈ cs, SzSum c) (n : Int) (h0 : 0 ≤ n) (h1 : n ≤ 1048576) :
    callPure (EV Tryz.prog pol) 275 [.t (.list 2 (LSum.encs cs)), .t (.int .i64 n)] = some (.t (.int .i64 (left n (cs.length + LSum.bulks cs)))) := by
  apply eq_call
  refine call_eq rfl Tryz.func275 rfl (by kernel_rfl) ?_
  unfold Tryz.f275
  by_cases hneg : n - (cs.length : Int) < 0
  · have c2 : decide (n - (cs.length : Int) < 0) = true := by simpa using hneg
    simp (disch := omega) only [↓GO, ↓DRW, GA, ren, renB, footX, refs, cellsV, cst, cstAt, nilC, idxAddr, E.load, E.store, binO, isC, bin, ibin, sbin, una, isShift, okCell, packV, lenV, blt, fnV, asArg, snapV, snapS, snapP, snapC, flatV, flatT, openK, layBack, allT, allZ, mkS, srcOf0, unN, idxV, nilEq, give, tupV, mkEnv, extV, pickV, LVS, OVS, LTS, TYS, PMS, pmT, Int.reduceToNat, Nat.reduceGT, ↓reduceIte, Nat.reduceAdd, Nat.reduceMul, Nat.reduceSub, Nat.reduceEqDiff, Nat.reduceLeDiff, Nat.reduceLT, Nat.reduceBEq, Int.reduceBEq, Int.reduceBNe, Int.reduceEq, Int.reduceLT, Int.reduceLE, Int.reduceGT, Int.reduceNeg, reduceCtorEq, LSum.encs_len, wrap_in, c2]
    rw [left, if_pos (by omega)]
  · have c2 : decide (n - (cs.length : Int) < 0) = false := by simpa using hneg
    obtain ⟨I1, I2⟩ := l_szSumS cs hl hc cs.length 0 (n - (cs.length : Int)) (by omega) (by omega) (by omega) (by omega)
    simp only [List.drop_zero, Int.natCast_zero] at I1 I2
    by_cases hn2 : n - (cs.length : Int) - (LSum.bulks cs : Int) < 0
    · obtain ⟨v, hv⟩ := I2 hn2
      simp (disch := omega) only [↓GO, ↓DRW, GA, ren, renB, footX, refs, cellsV, cst, cstAt, nilC, idxAddr, E.load, E.store, binO, isC, bin, ibin, sbin, una, isShift, okCell, packV, lenV, blt, fnV, asArg, snapV, snapS, snapP, snapC, flatV, flatT, openK, layBack, allT, allZ, mkS, srcOf0, unN, idxV, nilEq, give, tupV, mkEnv, extV, pickV, LVS, OVS, LTS, TYS, PMS, pmT, Int.reduceToNat, Nat.reduceGT, ↓reduceIte, Nat.reduceAdd, Nat.reduceMul, Nat.reduceSub, Nat.reduceEqDiff, Nat.reduceLeDiff, Nat.reduceLT, Nat.reduceBEq, Int.reduceBEq, Int.reduceBNe, Int.reduceEq, Int.reduceLT, Int.reduceLE, Int.reduceGT, Int.reduceNeg, reduceCtorEq, LSum.encs_len, wrap_in, c2, hv]
      rw [left, if_pos (by omega)]
    · simp (disch := omega) only [↓GO, ↓DRW, GA, ren, renB, footX, refs, cellsV, cst, cstAt, nilC, idxAddr, E.load, E.store, binO, isC, bin, ibin, sbin, una, isShift, okCell, packV, lenV, blt, fnV, asArg, snapV, snapS, snapP, snapC, flatV, flatT, openK, layBack, allT, allZ, mkS, srcOf0, unN, idxV, nilEq, give, tupV, mkEnv, extV, pickV, LVS, OVS, LTS, TYS, PMS, pmT, Int.reduceToNat, Nat.reduceGT, ↓reduceIte, Nat.reduceAdd, Nat.reduceMul, Nat.reduceSub, Nat.reduceEqDiff, Nat.reduceLeDiff, Nat.reduceLT, Nat.reduceBEq, Int.reduceBEq, Int.reduceBNe, Int.reduceEq, Int.reduceLT, Int.reduceLE, Int.reduceGT, Int.reduceNeg, reduceCtorEq, LSum.encs_len, wrap_in, c2, I1 (by omega)]
      rw [left, if_neg (by omega), show n - (cs.length : Int) - (LSum.bulks cs : Int) = n - ((cs.length + LSum.bulks cs : Nat) : Int) by omega]
def ToSum (x : LSum) : Prop := callPure (EV Tryz.prog pol) 327 [.agg (x.enc.map .t)] = some (.agg (x.enc.map .t))
theorem c_toSum (x : LSum) (ho : x.bulk ≤ 1048576) : ToSum x := by
  obtain ⟨alg, bytes⟩ := x
  simp only [LSum.bulk] at ho
  simp only [ToSum, LSum.enc, List.map_cons, List.map_nil]
  apply eq_call
  refine call_eq rfl Tryz.func327 rfl (by kernel_rfl) ?_
  unfold Tryz.f327
  simp only [↓GO, ↓DRW, GA, ren, renB, footX, refs, cellsV, cst, cstAt, nilC, idxAddr, E.load, E.store, binO, isC, bin, ibin, sbin, una, isShift, okCell, packV, lenV, blt, fnV, asArg, snapV, snapS, snapP, snapC, flatV, flatT, openK, layBack, allT, allZ, mkS, srcOf0, unN, idxV, nilEq, give, tupV, mkEnv, extV, pickV, LVS, OVS, LTS, TYS, PMS, pmT, Int.reduceToNat, Nat.reduceGT, ↓reduceIte, Nat.reduceAdd, Nat.reduceMul, Nat.reduceSub, Nat.reduceEqDiff, Nat.reduceLeDiff, Nat.reduceLT, Nat.reduceBEq, Int.reduceBEq, Int.reduceBNe, Int.reduceEq, Int.reduceLT, Int.reduceLE, Int.reduceGT, Int.reduceNeg, reduceCtorEq]
def zSum : List T := [.str [], .str []]
theorem l_toSumS (cs : List LSum) (hl : cs.length ≤ 1048576) (hc : ∀ c ∈ cs, ToSum c) : ∀ (d i : Nat), cs.length - i = d → i ≤ cs.length →
    EV Tryz.prog pol (.loop 277 58 0 [.t (.list 2 (LSum.encs cs)), .sl 0 0 cs.length (some cs.length), .t (.int .i64 (i : Int))] [.ts 2 (fillE (LSum.encs cs) zSum i)]) = some (.loop (.exit 0) [.sl 0 0 cs.length (some cs.length)] [.ts 2 (LSum.encs cs)])
  | 0, i, hd, hi => by
    have hi' : i = cs.length := by omega
    subst hi'
    refine loop_eq Tryz.func277 rfl rfl ?_
    have c : decide (((cs.length : Nat) : Int) < ((cs.length : Nat) : Int)) = false := by simp
    have hf : fillE (LSum.encs cs) zSum cs.length = LSum.encs cs := by rw [← LSum.encs_len cs]; exact fillE_all _ _
    simp only [↓GO, ↓DRW, GA, ren, renB, footX, refs, cellsV, cst, cstAt, nilC, idxAddr, E.load, E.store, binO, isC, bin, ibin, sbin, una, isShift, okCell, packV, lenV, blt, fnV, asArg, snapV, snapS, snapP, snapC, flatV, flatT, openK, layBack, allT, allZ, mkS, srcOf0, unN, idxV, nilEq, give, tupV, mkEnv, extV, pickV, LVS, OVS, LTS, TYS, PMS, pmT, Int.reduceToNat, Nat.reduceGT, ↓reduceIte, Nat.reduceAdd, Nat.reduceMul, Nat.reduceSub, Nat.reduceEqDiff, Nat.reduceLeDiff, Nat.reduceLT, Nat.reduceBEq, Int.reduceBEq, Int.reduceBNe, Int.reduceEq, Int.reduceLT, Int.reduceLE, Int.reduceGT, Int.reduceNeg, reduceCtorEq, LSum.encs_len, c, hf]
  | d + 1, i, hd, hi => by
    have hlt : i < cs.length := by omega
    have hlt' : i < (LSum.encs cs).length := by rw [LSum.encs_len]; exact hlt
    have c : decide ((i : Int) < ((cs.length : Nat) : Int)) = true := by simp; omega
    have c0 : decide ((0 : Int) ≤ (i : Int)) = true := by simp
    have IH := l_toSumS cs hl hc d (i + 1) (by omega) (by omega)
    have e1 : (i : Int) + 1 = ((i + 1 : Nat) : Int) := by omega
    have hg : (fillE (LSum.encs cs) zSum i)[i]? = some [.str [], .str []] := fillE_get (LSum.encs cs) zSum i hlt'
    have hs := fillE_set (LSum.encs cs) zSum i hlt'
    have hx : (LSum.encs cs)[i] = cs[i].enc := by simp [LSum.encs]
    rw [hx] at hs
    have hcall := hc _ (List.getElem_mem hlt)
    have hget := LSum.encs_get cs i hlt
    generalize hci : cs[i] = ci at hcall hget hs
    obtain ⟨alg, bytes⟩ := ci
    simp only [ToSum, LSum.enc, List.map_cons, List.map_nil] at hcall hget hs
    refine loop_eq Tryz.func277 rfl rfl ?_
    simp (disch := omega) only [↓GO, ↓DRW, GA, ren, renB, footX, refs, cellsV, cst, cstAt, nilC, idxAddr, E.load, E.store, binO, isC, bin, ibin, sbin, una, isShift, okCell, packV, lenV, blt, fnV, asArg, snapV, snapS, snapP, snapC, flatV, flatT, openK, layBack, allT, allZ, mkS, srcOf0, unN, idxV, nilEq, give, tupV, mkEnv, extV, pickV, LVS, OVS, LTS, TYS, PMS, pmT, Int.reduceToNat, Nat.reduceGT, ↓reduceIte, Nat.reduceAdd, Nat.reduceMul, Nat.reduceSub, Nat.reduceEqDiff, Nat.reduceLeDiff, Nat.reduceLT, Nat.reduceBEq, Int.reduceBEq, Int.reduceBNe, Int.reduceEq, Int.reduceLT, Int.reduceLE, Int.reduceGT, Int.reduceNeg, reduceCtorEq, LSum.encs_len, c, c0, hget, wrap_in, e1, hg, Int.toNat_natCast, hcall, hs]
    exact IH
theorem c_toSumS (cs : List LSum) (hl : cs.length ≤ 1048576) (hc : ∀ c ∈ cs, ToSum c) : callPure (EV Tryz.prog pol) 277 [.t (.list 2 (LSum.encs cs))] = some (.t (.list 2 (LSum.encs cs))) := by
  apply eq_call
  refine call_eq rfl Tryz.func277 rfl (by kernel_rfl) ?_
  unfold Tryz.f277
  have h1 : ¬ ((cs.length : Int) < 0) := by omega
  have h2 : ¬ (cs.length * 32 > 140737488355328) := by omega
  have h3 : ¬ (cs.length > 140737488355328) := by omega
  have hz : List.replicate cs.length [T.str [], .str []] = fillE (LSum.encs cs) zSum 0 := by rw [fillE_zero, LSum.encs_len]; rfl
  have IH := l_toSumS cs hl hc cs.length 0 (by omega) (by omega)
  simp only [Int.natCast_zero] at IH
  have ht : (LSum.encs cs).take cs.length = LSum.encs cs := by rw [← LSum.encs_len cs]; simp
  simp (disch := omega) only [↓GO, ↓DRW, GA, ren, renB, footX, refs, cellsV, cst, cstAt, nilC, idxAddr, E.load, E.store, binO, isC, bin, ibin, sbin, una, isShift, okCell, packV, lenV, blt, fnV, asArg, snapV, snapS, snapP, snapC, flatV, flatT, openK, layBack, allT, allZ, mkS, srcOf0, unN, idxV, nilEq, give, tupV, mkEnv, extV, pickV, LVS, OVS, LTS, TYS, PMS, pmT, Int.reduceToNat, Nat.reduceGT, ↓reduceIte, Nat.reduceAdd, Nat.reduceMul, Nat.reduceSub, Nat.reduceEqDiff, Nat.reduceLeDiff, Nat.reduceLT, Nat.reduceBEq, Int.reduceBEq, Int.reduceBNe, Int.reduceEq, Int.reduceLT, Int.reduceLE, Int.reduceGT, Int.reduceNeg, reduceCtorEq, LSum.encs_len, Int.toNat_natCast, h1, h2, h3, hz, IH, ne_eq, not_true_eq_false, ht]
def EqSum (x : LSum) : Prop := callPure (EV Tryz.prog pol) 328 [.agg (x.enc.map .t), .agg (x.enc.map .t)] = some (.t (.bool true))
theorem c_eqSum (x : LSum) (ho : x.bulk ≤ 1048576) : EqSum x := by
  obtain ⟨alg, bytes⟩ := x
  simp only [LSum.bulk] at ho
  simp only [EqSum, LSum.enc, List.map_cons, List.map_nil]
  apply eq_call
  refine call_eq rfl Tryz.func328 rfl (by kernel_rfl) ?_
  unfold Tryz.f328
  simp only [↓GO, ↓DRW, GA, ren, renB, footX, refs, cellsV, cst, cstAt, nilC, idxAddr, E.load, E.store, binO, isC, bin, ibin, sbin, una, isShift, okCell, packV, lenV, blt, fnV, asArg, snapV, snapS, snapP, snapC, flatV, flatT, openK, layBack, allT, allZ, mkS, srcOf0, unN, idxV, nilEq, give, tupV, mkEnv, extV, pickV, LVS, OVS, LTS, TYS, PMS, pmT, Int.reduceToNat, Nat.reduceGT, ↓reduceIte, Nat.reduceAdd, Nat.reduceMul, Nat.reduceSub, Nat.reduceEqDiff, Nat.reduceLeDiff, Nat.reduceLT, Nat.reduceBEq, Int.reduceBEq, Int.reduceBNe, Int.reduceEq, Int.reduceLT, Int.reduceLE, Int.reduceGT, Int.reduceNeg, reduceCtorEq, bne_self_eq_false]
theorem l_eqSumS (cs : List LSum) (hl : cs.length ≤ 1048576) (hc : ∀ c ∈ cs, EqSum c) : ∀ (d i : Nat), cs.length - i = d → i ≤ cs.length →
    EV Tryz.prog pol (.loop 278 58 0 [.t (.list 2 (LSum.encs cs)), .t (.list 2 (LSum.encs cs)), .t (.int .i64 (i : Int))] []) = some (.loop (.exit 0) [.bad] [])
  | 0, i, hd, hi => by
    have hi' : i = cs.length := by omega
    subst hi'
    refine loop_eq Tryz.func278 rfl rfl ?_
    have c : decide (((cs.length : Nat) : Int) < ((cs.length : Nat) : Int)) = false := by simp
    simp only [↓GO, ↓DRW, GA, ren, renB, footX, refs, cellsV, cst, cstAt, nilC, idxAddr, E.load, E.store, binO, isC, bin, ibin, sbin, una, isShift, okCell, packV, lenV, blt, fnV, asArg, snapV, snapS, snapP, snapC, flatV, flatT, openK, layBack, allT, allZ, mkS, srcOf0, unN, idxV, nilEq, give, tupV, mkEnv, extV, pickV, LVS, OVS, LTS, TYS, PMS, pmT, Int.reduceToNat, Nat.reduceGT, ↓reduceIte, Nat.reduceAdd, Nat.reduceMul, Nat.reduceSub, Nat.reduceEqDiff, Nat.reduceLeDiff, Nat.reduceLT, Nat.reduceBEq, Int.reduceBEq, Int.reduceBNe, Int.reduceEq, Int.reduceLT, Int.reduceLE, Int.reduceGT, Int.reduceNeg, reduceCtorEq, LSum.encs_len, c]
  | d + 1, i, hd, hi => by
    have hlt : i < cs.length := by omega
    have c : decide ((i : Int) < ((cs.length : Nat) : Int)) = true := by simp; omega
    have IH := l_eqSumS cs hl hc d (i + 1) (by omega) (by omega)
    have e1 : (i : Int) + 1 = ((i + 1 : Nat) : Int) := by omega
    have hcall := hc _ (List.getElem_mem hlt)
    have hget := LSum.encs_get cs i hlt
    generalize hci : cs[i] = ci at hcall hget
    obtain ⟨alg, bytes⟩ := ci
    simp only [EqSum, LSum.enc, List.map_cons, List.map_nil] at hcall hget
    refine loop_eq Tryz.func278 rfl rfl ?_
    simp (disch := omega) only [↓GO, ↓DRW, GA, ren, renB, footX, refs, cellsV, cst, cstAt, nilC, idxAddr, E.load, E.store, binO, isC, bin, ibin, sbin, una, isShift, okCell, packV, lenV, blt, fnV, asArg, snapV, snapS, snapP, snapC, flatV, flatT, openK, layBack, allT, allZ, mkS, srcOf0, unN, idxV, nilEq, give, tupV, mkEnv, extV, pickV, LVS, OVS, LTS, TYS, PMS, pmT, Int.reduceToNat, Nat.reduceGT, ↓reduceIte, Nat.reduceAdd, Nat.reduceMul, Nat.reduceSub, Nat.reduceEqDiff, Nat.reduceLeDiff, Nat.reduceLT, Nat.reduceBEq, Int.reduceBEq, Int.reduceBNe, Int.reduceEq, Int.reduceLT, Int.reduceLE, Int.reduceGT, Int.reduceNeg, reduceCtorEq, LSum.encs_len, c, hget, wrap_in, e1, hcall]
    exact IH
theorem c_eqSumS (cs : List LSum) (hl : cs.length ≤ 1048576) (hc : ∀ c ∈ cs, EqSum c) : callPure (EV Tryz.prog pol) 278 [.t (.list 2 (LSum.encs cs)), .t (.list 2 (LSum.encs cs))] = some (.t (.bool true)) := by
  apply eq_call
  refine call_eq rfl Tryz.func278 rfl (by kernel_rfl) ?_
  unfold Tryz.f278
  have IH := l_eqSumS cs hl hc cs.length 0 (by omega) (by omega)
  simp only [Int.natCast_zero] at IH
  simp only [↓GO, ↓DRW, GA, ren, renB, footX, refs, cellsV, cst, cstAt, nilC, idxAddr, E.load, E.store, binO, isC, bin, ibin, sbin, una, isShift, okCell, packV, lenV, blt, fnV, asArg, snapV, snapS, snapP, snapC, flatV, flatT, openK, layBack, allT, allZ, mkS, srcOf0, unN, idxV, nilEq, give, tupV, mkEnv, extV, pickV, LVS, OVS, LTS, TYS, PMS, pmT, Int.reduceToNat, Nat.reduceGT, ↓reduceIte, Nat.reduceAdd, Nat.reduceMul, Nat.reduceSub, Nat.reduceEqDiff, Nat.reduceLeDiff, Nat.reduceLT, Nat.reduceBEq, Int.reduceBEq, Int.reduceBNe, Int.reduceEq, Int.reduceLT, Int.reduceLE, Int.reduceGT, Int.reduceNeg, reduceCtorEq, LSum.encs_len, IH, bne_self_eq_false]
structure LPack where
  name : List UInt8
  version : List UInt8
  source : List UInt8
  sums : List LSum
  dev : Bool
  needs : List (List UInt8)
def LPack.enc (x : LPack) : List T := [.str x.name, .str x.version, .str x.source, .list 2 (LSum.encs x.sums), .bool x.dev, .list 1 (strs x.needs)]
def LPack.encs (l : List LPack) : List (List T) := l.map LPack.enc
def LPack.bulk (x : LPack) : Nat := x.name.length + x.version.length + x.source.length + (x.sums.length + LSum.bulks x.sums) + (x.needs.length + bulkS x.needs)
def LPack.bulks : List LPack → Nat
  | [] => 0
  | c :: cs => LPack.bulk c + LPack.bulks cs
def LPack.ok (x : LPack) : Prop := x.name.length ≤ 9223372036854775807 ∧ x.version.length ≤ 9223372036854775807 ∧ x.source.length ≤ 9223372036854775807 ∧ x.sums.length ≤ 9223372036854775807 ∧ (∀ y ∈ x.sums, y.ok) ∧ x.needs.length ≤ 9223372036854775807 ∧ (∀ s ∈ x.needs, s.length ≤ 9223372036854775807)
theorem LPack.enc_len (x : LPack) : x.enc.length = 6 := rfl
theorem LPack.enc_take (x : LPack) : x.enc.take 6 = x.enc := rfl
theorem LPack.encs_len (cs : List LPack) : (LPack.encs cs).length = cs.length := by simp [LPack.encs]
theorem LPack.encs_get (cs : List LPack) (i : Nat) (h : i < cs.length) : (LPack.encs cs)[i]? = some cs[i].enc := by simp [LPack.encs, h]
theorem LPack.bulks_drop (cs : List LPack) (i : Nat) (h : i < cs.length) : LPack.bulks (cs.drop i) = cs[i].bulk + LPack.bulks (cs.drop (i + 1)) := by
  rw [List.drop_eq_getElem_cons h]; rfl
theorem LPack.bulks_mem : ∀ {cs : List LPack} {c : LPack}, c ∈ cs → c.bulk ≤ LPack.bulks cs
  | c' :: cs, c, h => by
    simp only [LPack.bulks]
    rcases List.mem_cons.1 h with rfl | h
    · omega
    · have := LPack.bulks_mem h; omega
def SzPack (x : LPack) : Prop := ∀ n : Int, 0 ≤ n → n ≤ 1048576 → callPure (EV Tryz.prog pol) 210 [.agg (x.enc.map .t), .t (.int .i64 n)] = some (.t (.int .i64 (left n x.bulk)))
theorem c_szPack (x : LPack) (ho : x.ok) : SzPack x := by
  obtain ⟨name, version, source, sums, dev, needs⟩ := x
  intro n h0 h1
  simp only [LPack.ok] at ho
  simp only [LPack.enc, List.map_cons, List.map_nil]
  apply eq_call
  refine call_eq rfl Tryz.func210 rfl (by kernel_rfl) ?_
  unfold Tryz.f210
  have k_sums := c_szSumS sums (by first | exact ho.1 | simp_all) (fun c hc => c_szSum c (by simp_all))
  have k_needs := c_szStringS needs (by first | exact ho.1 | simp_all) (by first | exact ho.2 | simp_all)
  repeat' (first | (((first | with_reducible refine cK_any (fun hA => ?_) (fun hA => ?_) | with_reducible refine gW_any (fun hA => ?_) (fun hA => ?_)) <;> (try simp only [bne, Bool.not_eq_true', Bool.not_eq_false'] at hA) <;> (first | (have hP := Int.le_of_eq (eq_of_beq (α := Int) hA); have hQ := Int.le_of_eq (eq_of_beq (α := Int) hA).symm) | have hP := of_decide_eq_true hA | have hP := of_decide_eq_false hA | skip)) <;> (simp (disch := ((try simp only [List.length_cons, List.length_append, List.length_nil, List.length_map]); omega)) only [↓GO, ↓DRW, GA, ren, renB, footX, refs, cellsV, cst, cstAt, nilC, idxAddr, E.load, E.store, binO, isC, bin, ibin, sbin, una, isShift, okCell, packV, lenV, blt, fnV, asArg, snapV, snapS, snapP, snapC, flatV, flatT, openK, layBack, allT, allZ, mkS, srcOf0, unN, idxV, nilEq, give, tupV, mkEnv, extV, pickV, LVS, OVS, LTS, TYS, PMS, pmT, Int.reduceToNat, Nat.reduceGT, ↓reduceIte, Nat.reduceAdd, Nat.reduceMul, Nat.reduceSub, Nat.reduceEqDiff, Nat.reduceLeDiff, Nat.reduceLT, Nat.reduceBEq, Int.reduceBEq, Int.reduceBNe, Int.reduceEq, Int.reduceLT, Int.reduceLE, Int.reduceGT, Int.reduceNeg, reduceCtorEq, wrap_in, bne, left_lt, left_eq, k_sums, k_needs, *])) | (simp (disch := ((try simp only [List.length_cons, List.length_append, List.length_nil, List.length_map]); omega)) only [↓GO, ↓DRW, GA, ren, renB, footX, refs, cellsV, cst, cstAt, nilC, idxAddr, E.load, E.store, binO, isC, bin, ibin, sbin, una, isShift, okCell, packV, lenV, blt, fnV, asArg, snapV, snapS, snapP, snapC, flatV, flatT, openK, layBack, allT, allZ, mkS, srcOf0, unN, idxV, nilEq, give, tupV, mkEnv, extV, pickV, LVS, OVS, LTS, TYS, PMS, pmT, Int.reduceToNat, Nat.reduceGT, ↓reduceIte, Nat.reduceAdd, Nat.reduceMul, Nat.reduceSub, Nat.reduceEqDiff, Nat.reduceLeDiff, Nat.reduceLT, Nat.reduceBEq, Int.reduceBEq, Int.reduceBNe, Int.reduceEq, Int.reduceLT, Int.reduceLE, Int.reduceGT, Int.reduceNeg, reduceCtorEq, wrap_in, bne, left_lt, left_eq, k_sums, k_needs, *]))
  all_goals (refine left_leaf' ?_; simp only [LPack.bulk, and_true]; omega)
theorem l_szPackS (cs : List LPack) (hl : cs.length ≤ 9223372036854775807) (hc : ∀ c ∈ cs, SzPack c) : ∀ (d i : Nat) (n : Int), cs.length - i = d → i ≤ cs.length → 0 ≤ n → n ≤ 1048576 →
    (0 ≤ n - (LPack.bulks (cs.drop i) : Int) → EV Tryz.prog pol (.loop 113 122 0 [.t (.list 6 (LPack.encs cs)), .t (.int .i64 n), .t (.int .i64 (i : Int))] []) = some (.loop (.exit 0) [.t (.int .i64 (n - (LPack.bulks (cs.drop i) : Int))), .bad] [])) ∧
    (n - (LPack.bulks (cs.drop i) : Int) < 0 → ∃ v, EV Tryz.prog pol (.loop 113 122 0 [.t (.list 6 (LPack.encs cs)), .t (.int .i64 n), .t (.int .i64 (i : Int))] []) = some (.loop .ret [v, .t (.int .i64 (-1))] []))
  | 0, i, n, hd, hi, h0, h1 => by
    have hi' : i = cs.length := by omega
    subst hi'
    have hb : LPack.bulks (cs.drop cs.length) = 0 := by simp [LPack.bulks]
    rw [hb]
    refine ⟨fun _ => ?_, fun h => by omega⟩
    refine loop_eq Tryz.func113 rfl rfl ?_
    have c : decide (((cs.length : Nat) : Int) < ((cs.length : Nat) : Int)) = false := by simp
    simp only [↓GO, ↓DRW, GA, ren, renB, footX, refs, cellsV, cst, cstAt, nilC, idxAddr, E.load, E.store, binO, isC, bin, ibin, sbin, una, isShift, okCell, packV, lenV, blt, fnV, asArg, snapV, snapS, snapP, snapC, flatV, flatT, openK, layBack, allT, allZ, mkS, srcOf0, unN, idxV, nilEq, give, tupV, mkEnv, extV, pickV, LVS, OVS, LTS, TYS, PMS, pmT, Int.reduceToNat, Nat.reduceGT, ↓reduceIte, Nat.reduceAdd, Nat.reduceMul, Nat.reduceSub, Nat.reduceEqDiff, Nat.reduceLeDiff, Nat.reduceLT, Nat.reduceBEq, Int.reduceBEq, Int.reduceBNe, Int.reduceEq, Int.reduceLT, Int.reduceLE, Int.reduceGT, Int.reduceNeg, reduceCtorEq, LPack.encs_len, c]
    simp
  | d + 1, i, n, hd, hi, h0, h1 => by
    have hlt : i < cs.length := by omega
    rw [LPack.bulks_drop cs i hlt]
    have c : decide ((i : Int) < ((cs.length : Nat) : Int)) = true := by simp; omega
    have hcall := hc _ (List.getElem_mem hlt) n h0 h1
    have hget := LPack.encs_get cs i hlt
    generalize hci : cs[i] = ci at hcall hget
    obtain ⟨name, version, source, sums, dev, needs⟩ := ci
    simp only [LPack.enc, List.map_cons, List.map_nil] at hcall hget
    generalize hbu : (LPack.mk name version source sums dev needs).bulk = bu at hcall
    have IH := l_szPackS cs hl hc d (i + 1) (n - (bu : Int)) (by omega) (by omega)
    have e1 : (i : Int) + 1 = ((i + 1 : Nat) : Int) := by omega
    by_cases hneg : n - (bu : Int) < 0
    · refine ⟨fun h => by omega, fun _ => ⟨.t (.int .i64 (-1)), ?_⟩⟩
      refine loop_eq Tryz.func113 rfl rfl ?_
      have hle : left n bu = -1 := if_pos hneg
      rw [hle] at hcall
      simp (disch := omega) only [↓GO, ↓DRW, GA, ren, renB, footX, refs, cellsV, cst, cstAt, nilC, idxAddr, E.load, E.store, binO, isC, bin, ibin, sbin, una, isShift, okCell, packV, lenV, blt, fnV, asArg, snapV, snapS, snapP, snapC, flatV, flatT, openK, layBack, allT, allZ, mkS, srcOf0, unN, idxV, nilEq, give, tupV, mkEnv, extV, pickV, LVS, OVS, LTS, TYS, PMS, pmT, Int.reduceToNat, Nat.reduceGT, ↓reduceIte, Nat.reduceAdd, Nat.reduceMul, Nat.reduceSub, Nat.reduceEqDiff, Nat.reduceLeDiff, Nat.reduceLT, Nat.reduceBEq, Int.reduceBEq, Int.reduceBNe, Int.reduceEq, Int.reduceLT, Int.reduceLE, Int.reduceGT, Int.reduceNeg, reduceCtorEq, LPack.encs_len, c, hget, wrap_in, hcall]
    · have hle : left n bu = n - (bu : Int) := if_neg hneg
      rw [hle] at hcall
      have c2 : decide (n - (bu : Int) < 0) = false := by simpa using hneg
      obtain ⟨I1, I2⟩ := IH (by omega) (by omega)
      refine ⟨fun h => ?_, fun h => ?_⟩
      · refine loop_eq Tryz.func113 rfl rfl ?_
        simp (disch := omega) only [↓GO, ↓DRW, GA, ren, renB, footX, refs, cellsV, cst, cstAt, nilC, idxAddr, E.load, E.store, binO, isC, bin, ibin, sbin, una, isShift, okCell, packV, lenV, blt, fnV, asArg, snapV, snapS, snapP, snapC, flatV, flatT, openK, layBack, allT, allZ, mkS, srcOf0, unN, idxV, nilEq, give, tupV, mkEnv, extV, pickV, LVS, OVS, LTS, TYS, PMS, pmT, Int.reduceToNat, Nat.reduceGT, ↓reduceIte, Nat.reduceAdd, Nat.reduceMul, Nat.reduceSub, Nat.reduceEqDiff, Nat.reduceLeDiff, Nat.reduceLT, Nat.reduceBEq, Int.reduceBEq, Int.reduceBNe, Int.reduceEq, Int.reduceLT, Int.reduceLE, Int.reduceGT, Int.reduceNeg, reduceCtorEq, LPack.encs_len, c, hget, wrap_in, hcall, c2, e1]
        rw [I1 (by omega), show n - (bu : Int) - (LPack.bulks (cs.drop (i + 1)) : Int) = n - ((bu + LPack.bulks (cs.drop (i + 1)) : Nat) : Int) by omega]
      · obtain ⟨v, hv⟩ := I2 (by omega)
        refine ⟨v, ?_⟩
        refine loop_eq Tryz.func113 rfl rfl ?_
        simp (disch := omega) only [↓GO, ↓DRW, GA, ren, renB, footX, refs, cellsV, cst, cstAt, nilC, idxAddr, E.load, E.store, binO, isC, bin, ibin, sbin, una, isShift, okCell, packV, lenV, blt, fnV, asArg, snapV, snapS, snapP, snapC, flatV, flatT, openK, layBack, allT, allZ, mkS, srcOf0, unN, idxV, nilEq, give, tupV, mkEnv, extV, pickV, LVS, OVS, LTS, TYS, PMS, pmT, Int.reduceToNat, Nat.reduceGT, ↓reduceIte, Nat.reduceAdd, Nat.reduceMul, Nat.reduceSub, Nat.reduceEqDiff, Nat.reduceLeDiff, Nat.reduceLT, Nat.reduceBEq, Int.reduceBEq, Int.reduceBNe, Int.reduceEq, Int.reduceLT, Int.reduceLE, Int.reduceGT, Int.reduceNeg, reduceCtorEq, LPack.encs_len, c, hget, wrap_in, hcall, c2, e1]
        exact hv
theorem c_szPackS (cs : List LPack) (hl : cs.length ≤ 9223372036854775807) (hc : ∀ c ∈ cs, SzPack c) (n : Int) (h0 : 0 ≤ n) (h1 : n ≤ 1048576) :
    callPure (EV Tryz.prog pol) 113 [.t (.list 6 (LPack.encs cs)), .t (.int .i64 n)] = some (.t (.int .i64 (left n (cs.length + LPack.bulks cs)))) := by
  apply eq_call
  refine call_eq rfl Tryz.func113 rfl (by kernel_rfl) ?_
  unfold Tryz.f113
  by_cases hneg : n - (cs.length : Int) < 0
  · have c2 : decide (n - (cs.length : Int) < 0) = true := by simpa using hneg
    simp (disch := omega) only [↓GO, ↓DRW, GA, ren, renB, footX, refs, cellsV, cst, cstAt, nilC, idxAddr, E.load, E.store, binO, isC, bin, ibin, sbin, una, isShift, okCell, packV, lenV, blt, fnV, asArg, snapV, snapS, snapP, snapC, flatV, flatT, openK, layBack, allT, allZ, mkS, srcOf0, unN, idxV, nilEq, give, tupV, mkEnv, extV, pickV, LVS, OVS, LTS, TYS, PMS, pmT, Int.reduceToNat, Nat.reduceGT, ↓reduceIte, Nat.reduceAdd, Nat.reduceMul, Nat.reduceSub, Nat.reduceEqDiff, Nat.reduceLeDiff, Nat.reduceLT, Nat.reduceBEq, Int.reduceBEq, Int.reduceBNe, Int.reduceEq, Int.reduceLT, Int.reduceLE, Int.reduceGT, Int.reduceNeg, reduceCtorEq, LPack.encs_len, wrap_in, c2]
    rw [left, if_pos (by omega)]
  · have c2 : decide (n - (cs.length : Int) < 0) = false := by simpa using hneg
    obtain ⟨I1, I2⟩ := l_szPackS cs hl hc cs.length 0 (n - (cs.length : Int)) (by omega) (by omega) (by omega) (by omega)
    simp only [List.drop_zero, Int.natCast_zero] at I1 I2
    by_cases hn2 : n - (cs.length : Int) - (LPack.bulks cs : Int) < 0
    · obtain ⟨v, hv⟩ := I2 hn2
      simp (disch := omega) only [↓GO, ↓DRW, GA, ren, renB, footX, refs, cellsV, cst, cstAt, nilC, idxAddr, E.load, E.store, binO, isC, bin, ibin, sbin, una, isShift, okCell, packV, lenV, blt, fnV, asArg, snapV, snapS, snapP, snapC, flatV, flatT, openK, layBack, allT, allZ, mkS, srcOf0, unN, idxV, nilEq, give, tupV, mkEnv, extV, pickV, LVS, OVS, LTS, TYS, PMS, pmT, Int.reduceToNat, Nat.reduceGT, ↓reduceIte, Nat.reduceAdd, Nat.reduceMul, Nat.reduceSub, Nat.reduceEqDiff, Nat.reduceLeDiff, Nat.reduceLT, Nat.reduceBEq, Int.reduceBEq, Int.reduceBNe, Int.reduceEq, Int.reduceLT, Int.reduceLE, Int.reduceGT, Int.reduceNeg, reduceCtorEq, LPack.encs_len, wrap_in, c2, hv]
      rw [left, if_pos (by omega)]
    · simp (disch := omega) only [↓GO, ↓DRW, GA, ren, renB, footX, refs, cellsV, cst, cstAt, nilC, idxAddr, E.load, E.store, binO, isC, bin, ibin, sbin, una, isShift, okCell, packV, lenV, blt, fnV, asArg, snapV, snapS, snapP, snapC, flatV, flatT, openK, layBack, allT, allZ, mkS, srcOf0, unN, idxV, nilEq, give, tupV, mkEnv, extV, pickV, LVS, OVS, LTS, TYS, PMS, pmT, Int.reduceToNat, Nat.reduceGT, ↓reduceIte, Nat.reduceAdd, Nat.reduceMul, Nat.reduceSub, Nat.reduceEqDiff, Nat.reduceLeDiff, Nat.reduceLT, Nat.reduceBEq, Int.reduceBEq, Int.reduceBNe, Int.reduceEq, Int.reduceLT, Int.reduceLE, Int.reduceGT, Int.reduceNeg, reduceCtorEq, LPack.encs_len, wrap_in, c2, I1 (by omega)]
      rw [left, if_neg (by omega), show n - (cs.length : Int) - (LPack.bulks cs : Int) = n - ((cs.length + LPack.bulks cs : Nat) : Int) by omega]
def ToPack (x : LPack) : Prop := callPure (EV Tryz.prog pol) 212 [.agg (x.enc.map .t)] = some (.agg (x.enc.map .t))
theorem c_toPack (x : LPack) (ho : x.bulk ≤ 1048576) : ToPack x := by
  obtain ⟨name, version, source, sums, dev, needs⟩ := x
  simp only [LPack.bulk] at ho
  simp only [ToPack, LPack.enc, List.map_cons, List.map_nil]
  apply eq_call
  refine call_eq rfl Tryz.func212 rfl (by kernel_rfl) ?_
  unfold Tryz.f212
  simp only [↓GO, ↓DRW, GA, ren, renB, footX, refs, cellsV, cst, cstAt, nilC, idxAddr, E.load, E.store, binO, isC, bin, ibin, sbin, una, isShift, okCell, packV, lenV, blt, fnV, asArg, snapV, snapS, snapP, snapC, flatV, flatT, openK, layBack, allT, allZ, mkS, srcOf0, unN, idxV, nilEq, give, tupV, mkEnv, extV, pickV, LVS, OVS, LTS, TYS, PMS, pmT, Int.reduceToNat, Nat.reduceGT, ↓reduceIte, Nat.reduceAdd, Nat.reduceMul, Nat.reduceSub, Nat.reduceEqDiff, Nat.reduceLeDiff, Nat.reduceLT, Nat.reduceBEq, Int.reduceBEq, Int.reduceBNe, Int.reduceEq, Int.reduceLT, Int.reduceLE, Int.reduceGT, Int.reduceNeg, reduceCtorEq, c_toSumS sums (by omega) (fun c hc => c_toSum c (by have := LSum.bulks_mem hc; omega)), c_toStringS needs (by omega)]
def zPack : List T := [.str [], .str [], .str [], .list 2 [], .bool false, .list 1 []]
theorem l_toPackS (cs : List LPack) (hl : cs.length ≤ 1048576) (hc : ∀ c ∈ cs, ToPack c) : ∀ (d i : Nat), cs.length - i = d → i ≤ cs.length →
    EV Tryz.prog pol (.loop 117 58 0 [.t (.list 6 (LPack.encs cs)), .sl 0 0 cs.length (some cs.length), .t (.int .i64 (i : Int))] [.ts 6 (fillE (LPack.encs cs) zPack i)]) = some (.loop (.exit 0) [.sl 0 0 cs.length (some cs.length)] [.ts 6 (LPack.encs cs)])
  | 0, i, hd, hi => by
    have hi' : i = cs.length := by omega
    subst hi'
    refine loop_eq Tryz.func117 rfl rfl ?_
    have c : decide (((cs.length : Nat) : Int) < ((cs.length : Nat) : Int)) = false := by simp
    have hf : fillE (LPack.encs cs) zPack cs.length = LPack.encs cs := by rw [← LPack.encs_len cs]; exact fillE_all _ _
    simp only [↓GO, ↓DRW, GA, ren, renB, footX, refs, cellsV, cst, cstAt, nilC, idxAddr, E.load, E.store, binO, isC, bin, ibin, sbin, una, isShift, okCell, packV, lenV, blt, fnV, asArg, snapV, snapS, snapP, snapC, flatV, flatT, openK, layBack, allT, allZ, mkS, srcOf0, unN, idxV, nilEq, give, tupV, mkEnv, extV, pickV, LVS, OVS, LTS, TYS, PMS, pmT, Int.reduceToNat, Nat.reduceGT, ↓reduceIte, Nat.reduceAdd, Nat.reduceMul, Nat.reduceSub, Nat.reduceEqDiff, Nat.reduceLeDiff, Nat.reduceLT, Nat.reduceBEq, Int.reduceBEq, Int.reduceBNe, Int.reduceEq, Int.reduceLT, Int.reduceLE, Int.reduceGT, Int.reduceNeg, reduceCtorEq, LPack.encs_len, c, hf]
  | d + 1, i, hd, hi => by
    have hlt : i < cs.length := by omega
    have hlt' : i < (LPack.encs cs).length := by rw [LPack.encs_len]; exact hlt
    have c : decide ((i : Int) < ((cs.length : Nat) : Int)) = true := by simp; omega
    have c0 : decide ((0 : Int) ≤ (i : Int)) = true := by simp
    have IH := l_toPackS cs hl hc d (i + 1) (by omega) (by omega)
    have e1 : (i : Int) + 1 = ((i + 1 : Nat) : Int) := by omega
    have hg : (fillE (LPack.encs cs) zPack i)[i]? = some [.str [], .str [], .str [], .list 2 [], .bool false, .list 1 []] := fillE_get (LPack.encs cs) zPack i hlt'
    have hs := fillE_set (LPack.encs cs) zPack i hlt'
    have hx : (LPack.encs cs)[i] = cs[i].enc := by simp [LPack.encs]
    rw [hx] at hs
    have hcall := hc _ (List.getElem_mem hlt)
    have hget := LPack.encs_get cs i hlt
    generalize hci : cs[i] = ci at hcall hget hs
    obtain ⟨name, version, source, sums, dev, needs⟩ := ci
    simp only [ToPack, LPack.enc, List.map_cons, List.map_nil] at hcall hget hs
    refine loop_eq Tryz.func117 rfl rfl ?_
    simp (disch := omega) only [↓GO, ↓DRW, GA, ren, renB, footX, refs, cellsV, cst, cstAt, nilC, idxAddr, E.load, E.store, binO, isC, bin, ibin, sbin, una, isShift, okCell, packV, lenV, blt, fnV, asArg, snapV, snapS, snapP, snapC, flatV, flatT, openK, layBack, allT, allZ, mkS, srcOf0, unN, idxV, nilEq, give, tupV, mkEnv, extV, pickV, LVS, OVS, LTS, TYS, PMS, pmT, Int.reduceToNat, Nat.reduceGT, ↓reduceIte, Nat.reduceAdd, Nat.reduceMul, Nat.reduceSub, Nat.reduceEqDiff, Nat.reduceLeDiff, Nat.reduceLT, Nat.reduceBEq, Int.reduceBEq, Int.reduceBNe, Int.reduceEq, Int.reduceLT, Int.reduceLE, Int.reduceGT, Int.reduceNeg, reduceCtorEq, LPack.encs_len, c, c0, hget, wrap_in, e1, hg, Int.toNat_natCast, hcall, hs]
    exact IH
theorem c_toPackS (cs : List LPack) (hl : cs.length ≤ 1048576) (hc : ∀ c ∈ cs, ToPack c) : callPure (EV Tryz.prog pol) 117 [.t (.list 6 (LPack.encs cs))] = some (.t (.list 6 (LPack.encs cs))) := by
  apply eq_call
  refine call_eq rfl Tryz.func117 rfl (by kernel_rfl) ?_
  unfold Tryz.f117
  have h1 : ¬ ((cs.length : Int) < 0) := by omega
  have h2 : ¬ (cs.length * 104 > 140737488355328) := by omega
  have h3 : ¬ (cs.length > 140737488355328) := by omega
  have hz : List.replicate cs.length [T.str [], .str [], .str [], .list 2 [], .bool false, .list 1 []] = fillE (LPack.encs cs) zPack 0 := by rw [fillE_zero, LPack.encs_len]; rfl
  have IH := l_toPackS cs hl hc cs.length 0 (by omega) (by omega)
  simp only [Int.natCast_zero] at IH
  have ht : (LPack.encs cs).take cs.length = LPack.encs cs := by rw [← LPack.encs_len cs]; simp
  simp (disch := omega) only [↓GO, ↓DRW, GA, ren, renB, footX, refs, cellsV, cst, cstAt, nilC, idxAddr, E.load, E.store, binO, isC, bin, ibin, sbin, una, isShift, okCell, packV, lenV, blt, fnV, asArg, snapV, snapS, snapP, snapC, flatV, flatT, openK, layBack, allT, allZ, mkS, srcOf0, unN, idxV, nilEq, give, tupV, mkEnv, extV, pickV, LVS, OVS, LTS, TYS, PMS, pmT, Int.reduceToNat, Nat.reduceGT, ↓reduceIte, Nat.reduceAdd, Nat.reduceMul, Nat.reduceSub, Nat.reduceEqDiff, Nat.reduceLeDiff, Nat.reduceLT, Nat.reduceBEq, Int.reduceBEq, Int.reduceBNe, Int.reduceEq, Int.reduceLT, Int.reduceLE, Int.reduceGT, Int.reduceNeg, reduceCtorEq, LPack.encs_len, Int.toNat_natCast, h1, h2, h3, hz, IH, ne_eq, not_true_eq_false, ht]
def EqPack (x : LPack) : Prop := callPure (EV Tryz.prog pol) 214 [.agg (x.enc.map .t), .agg (x.enc.map .t)] = some (.t (.bool true))
theorem c_eqPack (x : LPack) (ho : x.bulk ≤ 1048576) : EqPack x := by
  obtain ⟨name, version, source, sums, dev, needs⟩ := x
  simp only [LPack.bulk] at ho
  simp only [EqPack, LPack.enc, List.map_cons, List.map_nil]
  apply eq_call
  refine call_eq rfl Tryz.func214 rfl (by kernel_rfl) ?_
  unfold Tryz.f214
  simp only [↓GO, ↓DRW, GA, ren, renB, footX, refs, cellsV, cst, cstAt, nilC, idxAddr, E.load, E.store, binO, isC, bin, ibin, sbin, una, isShift, okCell, packV, lenV, blt, fnV, asArg, snapV, snapS, snapP, snapC, flatV, flatT, openK, layBack, allT, allZ, mkS, srcOf0, unN, idxV, nilEq, give, tupV, mkEnv, extV, pickV, LVS, OVS, LTS, TYS, PMS, pmT, Int.reduceToNat, Nat.reduceGT, ↓reduceIte, Nat.reduceAdd, Nat.reduceMul, Nat.reduceSub, Nat.reduceEqDiff, Nat.reduceLeDiff, Nat.reduceLT, Nat.reduceBEq, Int.reduceBEq, Int.reduceBNe, Int.reduceEq, Int.reduceLT, Int.reduceLE, Int.reduceGT, Int.reduceNeg, reduceCtorEq, bne_self_eq_false, c_eqSumS sums (by omega) (fun c hc => c_eqSum c (by have := LSum.bulks_mem hc; omega)), c_eqStringS needs (by omega)]
theorem l_eqPackS (cs : List LPack) (hl : cs.length ≤ 1048576) (hc : ∀ c ∈ cs, EqPack c) : ∀ (d i : Nat), cs.length - i = d → i ≤ cs.length →
    EV Tryz.prog pol (.loop 125 58 0 [.t (.list 6 (LPack.encs cs)), .t (.list 6 (LPack.encs cs)), .t (.int .i64 (i : Int))] []) = some (.loop (.exit 0) [.bad] [])
  | 0, i, hd, hi => by
    have hi' : i = cs.length := by omega
    subst hi'
    refine loop_eq Tryz.func125 rfl rfl ?_
    have c : decide (((cs.length : Nat) : Int) < ((cs.length : Nat) : Int)) = false := by simp
    simp only [↓GO, ↓DRW, GA, ren, renB, footX, refs, cellsV, cst, cstAt, nilC, idxAddr, E.load, E.store, binO, isC, bin, ibin, sbin, una, isShift, okCell, packV, lenV, blt, fnV, asArg, snapV, snapS, snapP, snapC, flatV, flatT, openK, layBack, allT, allZ, mkS, srcOf0, unN, idxV, nilEq, give, tupV, mkEnv, extV, pickV, LVS, OVS, LTS, TYS, PMS, pmT, Int.reduceToNat, Nat.reduceGT, ↓reduceIte, Nat.reduceAdd, Nat.reduceMul, Nat.reduceSub, Nat.reduceEqDiff, Nat.reduceLeDiff, Nat.reduceLT, Nat.reduceBEq, Int.reduceBEq, Int.reduceBNe, Int.reduceEq, Int.reduceLT, Int.reduceLE, Int.reduceGT, Int.reduceNeg, reduceCtorEq, LPack.encs_len, c]
  | d + 1, i, hd, hi => by
    have hlt : i < cs.length := by omega
    have c : decide ((i : Int) < ((cs.length : Nat) : Int)) = true := by simp; omega
    have IH := l_eqPackS cs hl hc d (i + 1) (by omega) (by omega)
    have e1 : (i : Int) + 1 = ((i + 1 : Nat) : Int) := by omega
    have hcall := hc _ (List.getElem_mem hlt)
    have hget := LPack.encs_get cs i hlt
    generalize hci : cs[i] = ci at hcall hget
    obtain ⟨name, version, source, sums, dev, needs⟩ := ci
    simp only [EqPack, LPack.enc, List.map_cons, List.map_nil] at hcall hget
    refine loop_eq Tryz.func125 rfl rfl ?_
    simp (disch := omega) only [↓GO, ↓DRW, GA, ren, renB, footX, refs, cellsV, cst, cstAt, nilC, idxAddr, E.load, E.store, binO, isC, bin, ibin, sbin, una, isShift, okCell, packV, lenV, blt, fnV, asArg, snapV, snapS, snapP, snapC, flatV, flatT, openK, layBack, allT, allZ, mkS, srcOf0, unN, idxV, nilEq, give, tupV, mkEnv, extV, pickV, LVS, OVS, LTS, TYS, PMS, pmT, Int.reduceToNat, Nat.reduceGT, ↓reduceIte, Nat.reduceAdd, Nat.reduceMul, Nat.reduceSub, Nat.reduceEqDiff, Nat.reduceLeDiff, Nat.reduceLT, Nat.reduceBEq, Int.reduceBEq, Int.reduceBNe, Int.reduceEq, Int.reduceLT, Int.reduceLE, Int.reduceGT, Int.reduceNeg, reduceCtorEq, LPack.encs_len, c, hget, wrap_in, e1, hcall]
    exact IH
theorem c_eqPackS (cs : List LPack) (hl : cs.length ≤ 1048576) (hc : ∀ c ∈ cs, EqPack c) : callPure (EV Tryz.prog pol) 125 [.t (.list 6 (LPack.encs cs)), .t (.list 6 (LPack.encs cs))] = some (.t (.bool true)) := by
  apply eq_call
  refine call_eq rfl Tryz.func125 rfl (by kernel_rfl) ?_
  unfold Tryz.f125
  have IH := l_eqPackS cs hl hc cs.length 0 (by omega) (by omega)
  simp only [Int.natCast_zero] at IH
  simp only [↓GO, ↓DRW, GA, ren, renB, footX, refs, cellsV, cst, cstAt, nilC, idxAddr, E.load, E.store, binO, isC, bin, ibin, sbin, una, isShift, okCell, packV, lenV, blt, fnV, asArg, snapV, snapS, snapP, snapC, flatV, flatT, openK, layBack, allT, allZ, mkS, srcOf0, unN, idxV, nilEq, give, tupV, mkEnv, extV, pickV, LVS, OVS, LTS, TYS, PMS, pmT, Int.reduceToNat, Nat.reduceGT, ↓reduceIte, Nat.reduceAdd, Nat.reduceMul, Nat.reduceSub, Nat.reduceEqDiff, Nat.reduceLeDiff, Nat.reduceLT, Nat.reduceBEq, Int.reduceBEq, Int.reduceBNe, Int.reduceEq, Int.reduceLT, Int.reduceLE, Int.reduceGT, Int.reduceNeg, reduceCtorEq, LPack.encs_len, IH, bne_self_eq_false]
structure LGraph where
  top : List (List UInt8)
  packs : List LPack
def LGraph.enc (x : LGraph) : List T := [.list 1 (strs x.top), .list 6 (LPack.encs x.packs)]
def LGraph.encs (l : List LGraph) : List (List T) := l.map LGraph.enc
def LGraph.bulk (x : LGraph) : Nat := (x.top.length + bulkS x.top) + (x.packs.length + LPack.bulks x.packs)
def LGraph.bulks : List LGraph → Nat
  | [] => 0
  | c :: cs => LGraph.bulk c + LGraph.bulks cs
def LGraph.ok (x : LGraph) : Prop := x.top.length ≤ 9223372036854775807 ∧ (∀ s ∈ x.top, s.length ≤ 9223372036854775807) ∧ x.packs.length ≤ 9223372036854775807 ∧ (∀ y ∈ x.packs, y.ok)
theorem LGraph.enc_len (x : LGraph) : x.enc.length = 2 := rfl
theorem LGraph.enc_take (x : LGraph) : x.enc.take 2 = x.enc := rfl
theorem LGraph.encs_len (cs : List LGraph) : (LGraph.encs cs).length = cs.length := by simp [LGraph.encs]
theorem LGraph.encs_get (cs : List LGraph) (i : Nat) (h : i < cs.length) : (LGraph.encs cs)[i]? = some cs[i].enc := by simp [LGraph.encs, h]
theorem LGraph.bulks_drop (cs : List LGraph) (i : Nat) (h : i < cs.length) : LGraph.bulks (cs.drop i) = cs[i].bulk + LGraph.bulks (cs.drop (i + 1)) := by
  rw [List.drop_eq_getElem_cons h]; rfl
theorem LGraph.bulks_mem : ∀ {cs : List LGraph} {c : LGraph}, c ∈ cs → c.bulk ≤ LGraph.bulks cs
  | c' :: cs, c, h => by
    simp only [LGraph.bulks]
    rcases List.mem_cons.1 h with rfl | h
    · omega
    · have := LGraph.bulks_mem h; omega
def SzGraph (x : LGraph) : Prop := ∀ n : Int, 0 ≤ n → n ≤ 1048576 → callPure (EV Tryz.prog pol) 44 [.agg (x.enc.map .t), .t (.int .i64 n)] = some (.t (.int .i64 (left n x.bulk)))
theorem c_szGraph (x : LGraph) (ho : x.ok) : SzGraph x := by
  obtain ⟨top, packs⟩ := x
  intro n h0 h1
  simp only [LGraph.ok] at ho
  simp only [LGraph.enc, List.map_cons, List.map_nil]
  apply eq_call
  refine call_eq rfl Tryz.func44 rfl (by kernel_rfl) ?_
  unfold Tryz.f44
  have k_top := c_szStringS top (by first | exact ho.1 | simp_all) (by first | exact ho.2 | simp_all)
  have k_packs := c_szPackS packs (by first | exact ho.1 | simp_all) (fun c hc => c_szPack c (by simp_all))
  repeat' (first | (((first | with_reducible refine cK_any (fun hA => ?_) (fun hA => ?_) | with_reducible refine gW_any (fun hA => ?_) (fun hA => ?_)) <;> (try simp only [bne, Bool.not_eq_true', Bool.not_eq_false'] at hA) <;> (first | (have hP := Int.le_of_eq (eq_of_beq (α := Int) hA); have hQ := Int.le_of_eq (eq_of_beq (α := Int) hA).symm) | have hP := of_decide_eq_true hA | have hP := of_decide_eq_false hA | skip)) <;> (simp (disch := ((try simp only [List.length_cons, List.length_append, List.length_nil, List.length_map]); omega)) only [↓GO, ↓DRW, GA, ren, renB, footX, refs, cellsV, cst, cstAt, nilC, idxAddr, E.load, E.store, binO, isC, bin, ibin, sbin, una, isShift, okCell, packV, lenV, blt, fnV, asArg, snapV, snapS, snapP, snapC, flatV, flatT, openK, layBack, allT, allZ, mkS, srcOf0, unN, idxV, nilEq, give, tupV, mkEnv, extV, pickV, LVS, OVS, LTS, TYS, PMS, pmT, Int.reduceToNat, Nat.reduceGT, ↓reduceIte, Nat.reduceAdd, Nat.reduceMul, Nat.reduceSub, Nat.reduceEqDiff, Nat.reduceLeDiff, Nat.reduceLT, Nat.reduceBEq, Int.reduceBEq, Int.reduceBNe, Int.reduceEq, Int.reduceLT, Int.reduceLE, Int.reduceGT, Int.reduceNeg, reduceCtorEq, wrap_in, bne, left_lt, left_eq, k_top, k_packs, *])) | (simp (disch := ((try simp only [List.length_cons, List.length_append, List.length_nil, List.length_map]); omega)) only [↓GO, ↓DRW, GA, ren, renB, footX, refs, cellsV, cst, cstAt, nilC, idxAddr, E.load, E.store, binO, isC, bin, ibin, sbin, una, isShift, okCell, packV, lenV, blt, fnV, asArg, snapV, snapS, snapP, snapC, flatV, flatT, openK, layBack, allT, allZ, mkS, srcOf0, unN, idxV, nilEq, give, tupV, mkEnv, extV, pickV, LVS, OVS, LTS, TYS, PMS, pmT, Int.reduceToNat, Nat.reduceGT, ↓reduceIte, Nat.reduceAdd, Nat.reduceMul, Nat.reduceSub, Nat.reduceEqDiff, Nat.reduceLeDiff, Nat.reduceLT, Nat.reduceBEq, Int.reduceBEq, Int.reduceBNe, Int.reduceEq, Int.reduceLT, Int.reduceLE, Int.reduceGT, Int.reduceNeg, reduceCtorEq, wrap_in, bne, left_lt, left_eq, k_top, k_packs, *]))
  all_goals (refine left_leaf' ?_; simp only [LGraph.bulk, and_true]; omega)
def ToGraph (x : LGraph) : Prop := callPure (EV Tryz.prog pol) 46 [.agg (x.enc.map .t)] = some (.agg (x.enc.map .t))
theorem c_toGraph (x : LGraph) (ho : x.bulk ≤ 1048576) : ToGraph x := by
  obtain ⟨top, packs⟩ := x
  simp only [LGraph.bulk] at ho
  simp only [ToGraph, LGraph.enc, List.map_cons, List.map_nil]
  apply eq_call
  refine call_eq rfl Tryz.func46 rfl (by kernel_rfl) ?_
  unfold Tryz.f46
  simp only [↓GO, ↓DRW, GA, ren, renB, footX, refs, cellsV, cst, cstAt, nilC, idxAddr, E.load, E.store, binO, isC, bin, ibin, sbin, una, isShift, okCell, packV, lenV, blt, fnV, asArg, snapV, snapS, snapP, snapC, flatV, flatT, openK, layBack, allT, allZ, mkS, srcOf0, unN, idxV, nilEq, give, tupV, mkEnv, extV, pickV, LVS, OVS, LTS, TYS, PMS, pmT, Int.reduceToNat, Nat.reduceGT, ↓reduceIte, Nat.reduceAdd, Nat.reduceMul, Nat.reduceSub, Nat.reduceEqDiff, Nat.reduceLeDiff, Nat.reduceLT, Nat.reduceBEq, Int.reduceBEq, Int.reduceBNe, Int.reduceEq, Int.reduceLT, Int.reduceLE, Int.reduceGT, Int.reduceNeg, reduceCtorEq, c_toStringS top (by omega), c_toPackS packs (by omega) (fun c hc => c_toPack c (by have := LPack.bulks_mem hc; omega))]
def EqGraph (x : LGraph) : Prop := callPure (EV Tryz.prog pol) 48 [.agg (x.enc.map .t), .agg (x.enc.map .t)] = some (.t (.bool true))
theorem c_eqGraph (x : LGraph) (ho : x.bulk ≤ 1048576) : EqGraph x := by
  obtain ⟨top, packs⟩ := x
  simp only [LGraph.bulk] at ho
  simp only [EqGraph, LGraph.enc, List.map_cons, List.map_nil]
  apply eq_call
  refine call_eq rfl Tryz.func48 rfl (by kernel_rfl) ?_
  unfold Tryz.f48
  simp only [↓GO, ↓DRW, GA, ren, renB, footX, refs, cellsV, cst, cstAt, nilC, idxAddr, E.load, E.store, binO, isC, bin, ibin, sbin, una, isShift, okCell, packV, lenV, blt, fnV, asArg, snapV, snapS, snapP, snapC, flatV, flatT, openK, layBack, allT, allZ, mkS, srcOf0, unN, idxV, nilEq, give, tupV, mkEnv, extV, pickV, LVS, OVS, LTS, TYS, PMS, pmT, Int.reduceToNat, Nat.reduceGT, ↓reduceIte, Nat.reduceAdd, Nat.reduceMul, Nat.reduceSub, Nat.reduceEqDiff, Nat.reduceLeDiff, Nat.reduceLT, Nat.reduceBEq, Int.reduceBEq, Int.reduceBNe, Int.reduceEq, Int.reduceLT, Int.reduceLE, Int.reduceGT, Int.reduceNeg, reduceCtorEq, bne_self_eq_false, c_eqStringS top (by omega), c_eqPackS packs (by omega) (fun c hc => c_eqPack c (by have := LPack.bulks_mem hc; omega))]
end Go.Proofs.YtkpmachalipmpaaGreatDoor
/- The library's searches, at fields. Conditions: those of each lemma. -/
namespace Go.Proofs.YtkpmachalipmpaaGreatDoor
open E
set_option linter.unusedSimpArgs false
set_option linter.unusedVariables false
set_option maxRecDepth 100000
/-- the first place at which something holds -/
def fidx {α : Type} (p : α → Bool) : List α → Nat → Option Nat
  | [], _ => none
  | x :: r, n => if p x = true then some n else fidx p r (n + 1)
def ixI : Option Nat → Int
  | some n => (n : Int)
  | none => -1
theorem fidx_any {α : Type} (p : α → Bool) : ∀ (l : List α) (n : Nat), (fidx p l n).isSome = l.any p
  | [], _ => rfl
  | x :: r, n => by
    simp only [fidx, List.any_cons]
    split
    · rename_i h; simp [h]
    · rename_i h; rw [fidx_any p r (n + 1)]; simp [h]
theorem ixI_any {α : Type} (p : α → Bool) (l : List α) : decide (ixI (fidx p l 0) ≥ 0) = l.any p := by
  rw [← fidx_any p l 0]
  cases fidx p l 0 with
  | none => rfl
  | some n => simp [ixI]

theorem l_idxF_Field (g : Nat) (caps : List T) (p : LField → Bool) (es : List LField) (hl : es.length ≤ 4611686018427387904) (hp : ∀ x ∈ es, callPure (EV Tryz.prog pol) g (.agg (x.enc.map .t) :: caps.map .t) = some (.t (.bool (p x)))) : ∀ (rest pre : List LField), es = pre ++ rest →
    EV Tryz.prog pol (.loop 333 26 0 [.t (.list 4 (LField.encs es)), .t (.fn g caps), .t (.int .i64 (es.length : Int)), .t (.int .i64 (pre.length : Int))] []) = some (match fidx p rest pre.length with | some i => .loop .ret [.t (.int .i64 (i : Int))] [] | none => .loop (.exit 0) [.bad] [])
  | [], pre, hs => by
    have c : decide ((pre.length : Int) < (es.length : Int)) = false := by simp [hs]
    refine loop_eq Tryz.func333 rfl rfl ?_
    simp only [↓GO, ↓DRW, GA, ren, renB, footX, refs, cellsV, cst, cstAt, nilC, idxAddr, E.load, E.store, binO, isC, bin, ibin, sbin, una, isShift, okCell, packV, lenV, blt, fnV, asArg, snapV, snapS, snapP, snapC, flatV, flatT, openK, layBack, allT, allZ, mkS, srcOf0, unN, idxV, nilEq, give, tupV, mkEnv, extV, pickV, LVS, OVS, LTS, TYS, PMS, pmT, Int.reduceToNat, Nat.reduceGT, ↓reduceIte, Nat.reduceAdd, Nat.reduceMul, Nat.reduceSub, Nat.reduceEqDiff, Nat.reduceLeDiff, Nat.reduceLT, Nat.reduceBEq, Int.reduceBEq, Int.reduceBNe, Int.reduceEq, Int.reduceLT, Int.reduceLE, Int.reduceGT, Int.reduceNeg, reduceCtorEq, c, fidx]
  | b :: rest, pre, hs => by
    have c : decide ((pre.length : Int) < (es.length : Int)) = true := by simp [hs]; omega
    have hi : pre.length < es.length := by rw [hs]; simp
    have hget := LField.encs_get es pre.length hi
    have hgb : es[pre.length] = b := by simp [hs]
    rw [hgb] at hget
    have hb := hp b (by rw [hs]; simp)
    have e1 : (pre.length : Int) + 1 = ((pre ++ [b]).length : Int) := by simp
    have IH := l_idxF_Field g caps p es hl hp rest (pre ++ [b]) (by rw [hs]; simp)
    refine loop_eq Tryz.func333 rfl rfl ?_
    simp only [fidx]
    cases hpb : p b with
    | true =>
      rw [hpb] at hb
      simp (disch := omega) only [↓GO, ↓DRW, GA, ren, renB, footX, refs, cellsV, cst, cstAt, nilC, idxAddr, E.load, E.store, binO, isC, bin, ibin, sbin, una, isShift, okCell, packV, lenV, blt, fnV, asArg, snapV, snapS, snapP, snapC, flatV, flatT, openK, layBack, allT, allZ, mkS, srcOf0, unN, idxV, nilEq, give, tupV, mkEnv, extV, pickV, LVS, OVS, LTS, TYS, PMS, pmT, Int.reduceToNat, Nat.reduceGT, ↓reduceIte, Nat.reduceAdd, Nat.reduceMul, Nat.reduceSub, Nat.reduceEqDiff, Nat.reduceLeDiff, Nat.reduceLT, Nat.reduceBEq, Int.reduceBEq, Int.reduceBNe, Int.reduceEq, Int.reduceLT, Int.reduceLE, Int.reduceGT, Int.reduceNeg, reduceCtorEq, LField.encs_len, c, hget, LField.enc_len, LField.enc_take, wrap_in, hb]
    | false =>
      rw [hpb] at hb
      simp (disch := omega) only [↓GO, ↓DRW, GA, ren, renB, footX, refs, cellsV, cst, cstAt, nilC, idxAddr, E.load, E.store, binO, isC, bin, ibin, sbin, una, isShift, okCell, packV, lenV, blt, fnV, asArg, snapV, snapS, snapP, snapC, flatV, flatT, openK, layBack, allT, allZ, mkS, srcOf0, unN, idxV, nilEq, give, tupV, mkEnv, extV, pickV, LVS, OVS, LTS, TYS, PMS, pmT, Int.reduceToNat, Nat.reduceGT, ↓reduceIte, Nat.reduceAdd, Nat.reduceMul, Nat.reduceSub, Nat.reduceEqDiff, Nat.reduceLeDiff, Nat.reduceLT, Nat.reduceBEq, Int.reduceBEq, Int.reduceBNe, Int.reduceEq, Int.reduceLT, Int.reduceLE, Int.reduceGT, Int.reduceNeg, reduceCtorEq, LField.encs_len, c, hget, LField.enc_len, LField.enc_take, wrap_in, hb]
      rw [e1, IH]
      simp
theorem c_idxF_Field (g : Nat) (caps : List T) (p : LField → Bool) (es : List LField) (hl : es.length ≤ 4611686018427387904) (hp : ∀ x ∈ es, callPure (EV Tryz.prog pol) g (.agg (x.enc.map .t) :: caps.map .t) = some (.t (.bool (p x)))) :
    callPure (EV Tryz.prog pol) 333 [.t (.list 4 (LField.encs es)), .t (.fn g caps)] = some (.t (.int .i64 (ixI (fidx p es 0)))) := by
  have IH := l_idxF_Field g caps p es hl hp es [] rfl
  simp only [List.length_nil, Int.natCast_zero] at IH
  apply eq_call
  refine call_eq rfl Tryz.func333 rfl (by kernel_rfl) ?_
  unfold Tryz.f333
  cases hf : fidx p es 0 with
  | none => rw [hf] at IH; simp only [↓GO, ↓DRW, GA, ren, renB, footX, refs, cellsV, cst, cstAt, nilC, idxAddr, E.load, E.store, binO, isC, bin, ibin, sbin, una, isShift, okCell, packV, lenV, blt, fnV, asArg, snapV, snapS, snapP, snapC, flatV, flatT, openK, layBack, allT, allZ, mkS, srcOf0, unN, idxV, nilEq, give, tupV, mkEnv, extV, pickV, LVS, OVS, LTS, TYS, PMS, pmT, Int.reduceToNat, Nat.reduceGT, ↓reduceIte, Nat.reduceAdd, Nat.reduceMul, Nat.reduceSub, Nat.reduceEqDiff, Nat.reduceLeDiff, Nat.reduceLT, Nat.reduceBEq, Int.reduceBEq, Int.reduceBNe, Int.reduceEq, Int.reduceLT, Int.reduceLE, Int.reduceGT, Int.reduceNeg, reduceCtorEq, LField.encs_len, IH, ixI]
  | some i => rw [hf] at IH; simp only [↓GO, ↓DRW, GA, ren, renB, footX, refs, cellsV, cst, cstAt, nilC, idxAddr, E.load, E.store, binO, isC, bin, ibin, sbin, una, isShift, okCell, packV, lenV, blt, fnV, asArg, snapV, snapS, snapP, snapC, flatV, flatT, openK, layBack, allT, allZ, mkS, srcOf0, unN, idxV, nilEq, give, tupV, mkEnv, extV, pickV, LVS, OVS, LTS, TYS, PMS, pmT, Int.reduceToNat, Nat.reduceGT, ↓reduceIte, Nat.reduceAdd, Nat.reduceMul, Nat.reduceSub, Nat.reduceEqDiff, Nat.reduceLeDiff, Nat.reduceLT, Nat.reduceBEq, Int.reduceBEq, Int.reduceBNe, Int.reduceEq, Int.reduceLT, Int.reduceLE, Int.reduceGT, Int.reduceNeg, reduceCtorEq, LField.encs_len, IH, ixI]
theorem c_conF_Field (g : Nat) (caps : List T) (p : LField → Bool) (es : List LField) (hl : es.length ≤ 4611686018427387904) (hp : ∀ x ∈ es, callPure (EV Tryz.prog pol) g (.agg (x.enc.map .t) :: caps.map .t) = some (.t (.bool (p x)))) :
    callPure (EV Tryz.prog pol) 284 [.t (.list 4 (LField.encs es)), .t (.fn g caps)] = some (.t (.bool (es.any p))) := by
  have h1 := c_idxF_Field g caps p es hl hp
  apply eq_call
  refine call_eq rfl Tryz.func284 rfl (by kernel_rfl) ?_
  unfold Tryz.f284
  have h2 := ixI_any p es
  simp only [↓GO, ↓DRW, GA, ren, renB, footX, refs, cellsV, cst, cstAt, nilC, idxAddr, E.load, E.store, binO, isC, bin, ibin, sbin, una, isShift, okCell, packV, lenV, blt, fnV, asArg, snapV, snapS, snapP, snapC, flatV, flatT, openK, layBack, allT, allZ, mkS, srcOf0, unN, idxV, nilEq, give, tupV, mkEnv, extV, pickV, LVS, OVS, LTS, TYS, PMS, pmT, Int.reduceToNat, Nat.reduceGT, ↓reduceIte, Nat.reduceAdd, Nat.reduceMul, Nat.reduceSub, Nat.reduceEqDiff, Nat.reduceLeDiff, Nat.reduceLT, Nat.reduceBEq, Int.reduceBEq, Int.reduceBNe, Int.reduceEq, Int.reduceLT, Int.reduceLE, Int.reduceGT, Int.reduceNeg, reduceCtorEq, h1, h2]
end Go.Proofs.YtkpmachalipmpaaGreatDoor

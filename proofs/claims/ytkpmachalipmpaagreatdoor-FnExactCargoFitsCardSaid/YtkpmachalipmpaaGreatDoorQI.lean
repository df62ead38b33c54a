/- Joined: A3 I1 G1 I2 V3 K7. Conditions: those of each lemma. -/
import Derived.Test.YtkpmachalipmpaaGreatDoorQH
import Derived.Test.YtkpmachalipmpaaGreatDoorQG
set_option linter.unusedVariables false
set_option linter.unusedSimpArgs false
namespace Go.Proofs.YtkpmachalipmpaaGreatDoor
open E
set_option linter.unusedSimpArgs false
set_option linter.unusedVariables false
set_option maxRecDepth 100000

structure LField where
  key : List UInt8
  text : List UInt8
  list : List (List UInt8)
  isList : Bool
def LField.enc (x : LField) : List T := [.str x.key, .str x.text, .list 1 (strs x.list), .bool x.isList]
def LField.encs (l : List LField) : List (List T) := l.map LField.enc
def LField.bulk (x : LField) : Nat := x.key.length + x.text.length + (x.list.length + bulkS x.list)
def LField.bulks : List LField → Nat
  | [] => 0
  | c :: cs => LField.bulk c + LField.bulks cs
def LField.ok (x : LField) : Prop := x.key.length ≤ 9223372036854775807 ∧ x.text.length ≤ 9223372036854775807 ∧ x.list.length ≤ 9223372036854775807 ∧ (∀ s ∈ x.list, s.length ≤ 9223372036854775807)
theorem LField.enc_len (x : LField) : x.enc.length = 4 := rfl
theorem LField.enc_take (x : LField) : x.enc.take 4 = x.enc := rfl
theorem LField.encs_len (cs : List LField) : (LField.encs cs).length = cs.length := by simp [LField.encs]
theorem LField.encs_get (cs : List LField) (i : Nat) (h : i < cs.length) : (LField.encs cs)[i]? = some cs[i].enc := by simp [LField.encs, h]
theorem LField.bulks_drop (cs : List LField) (i : Nat) (h : i < cs.length) : LField.bulks (cs.drop i) = cs[i].bulk + LField.bulks (cs.drop (i + 1)) := by
  rw [List.drop_eq_getElem_cons h]; rfl
theorem LField.bulks_mem : ∀ {cs : List LField} {c : LField}, c ∈ cs → c.bulk ≤ LField.bulks cs
  | c' :: cs, c, h => by
    simp only [LField.bulks]
    rcases List.mem_cons.1 h with rfl | h
    · omega
    · have := LField.bulks_mem h; omega
structure LTable where
  name : List UInt8
  fields : List LField
def LTable.enc (x : LTable) : List T := [.str x.name, .list 4 (LField.encs x.fields)]
def LTable.encs (l : List LTable) : List (List T) := l.map LTable.enc
def LTable.bulk (x : LTable) : Nat := x.name.length + (x.fields.length + LField.bulks x.fields)
def LTable.bulks : List LTable → Nat
  | [] => 0
  | c :: cs => LTable.bulk c + LTable.bulks cs
def LTable.ok (x : LTable) : Prop := x.name.length ≤ 9223372036854775807 ∧ x.fields.length ≤ 9223372036854775807 ∧ (∀ y ∈ x.fields, y.ok)
theorem LTable.enc_len (x : LTable) : x.enc.length = 2 := rfl
theorem LTable.enc_take (x : LTable) : x.enc.take 2 = x.enc := rfl
theorem LTable.encs_len (cs : List LTable) : (LTable.encs cs).length = cs.length := by simp [LTable.encs]
theorem LTable.encs_get (cs : List LTable) (i : Nat) (h : i < cs.length) : (LTable.encs cs)[i]? = some cs[i].enc := by simp [LTable.encs, h]
theorem LTable.bulks_drop (cs : List LTable) (i : Nat) (h : i < cs.length) : LTable.bulks (cs.drop i) = cs[i].bulk + LTable.bulks (cs.drop (i + 1)) := by
  rw [List.drop_eq_getElem_cons h]; rfl
theorem LTable.bulks_mem : ∀ {cs : List LTable} {c : LTable}, c ∈ cs → c.bulk ≤ LTable.bulks cs
  | c' :: cs, c, h => by
    simp only [LTable.bulks]
    rcases List.mem_cons.1 h with rfl | h
    · omega
    · have := LTable.bulks_mem h; omega
end Go.Proofs.YtkpmachalipmpaaGreatDoor
/- The library's searches, at fields. Conditions: those of each lemma. -/
namespace Go.Proofs.YtkpmachalipmpaaGreatDoor
open E
set_option linter.unusedSimpArgs false
set_option linter.unusedVariables false
set_option maxRecDepth 100000
/-- the first place at which something holds -/
def fidx {α : Type} (p : α → Bool) : List α → Nat → Option Nat
  | [], _ => none
  | x :: r, n => if p x = true then some n else fidx p r (n + 1)
def ixI : Option Nat → Int
  | some n => (n : Int)
  | none => -1
theorem fidx_any {α : Type} (p : α → Bool) : ∀ (l : List α) (n : Nat), (fidx p l n).isSome = l.any p
  | [], _ => rfl
  | x :: r, n => by
    simp only [fidx, List.any_cons]
    split
    · rename_i h; simp [h]
    · rename_i h; rw [fidx_any p r (n + 1)]; simp [h]
theorem ixI_any {α : Type} (p : α → Bool) (l : List α) : decide (ixI (fidx p l 0) ≥ 0) = l.any p := by
  rw [← fidx_any p l 0]
  cases fidx p l 0 with
  | none => rfl
  | some n => simp [ixI]

theorem l_idxF_Field (g : Nat) (caps : List T) (p : LField → Bool) (es : List LField) (hl : es.length ≤ 4611686018427387904) (hp : ∀ x ∈ es, callPure (EV Tryz.prog pol) g (.agg (x.enc.map .t) :: caps.map .t) = some (.t (.bool (p x)))) : ∀ (rest pre : List LField), es = pre ++ rest →
    EV Tryz.prog pol (.loop 333 26 0 [.t (.list 4 (LField.encs es)), .t (.fn g caps), .t (.int .i64 (es.length : Int)), .t (.int .i64 (pre.length : Int))] []) = some (match fidx p rest pre.length with | some i => .loop .ret [.t (.int .i64 (i : Int))] [] | none => .loop (.exit 0) [.bad] [])
  | [], pre, hs => by
    have c : decide ((pre.length : Int) < (es.length : Int)) = false := by simp [hs]
    refine loop_eq Tryz.func333 rfl rfl ?_
    simp only [↓GO, ↓DRW, GA, ren, renB, footX, refs, cellsV, cst, cstAt, nilC, idxAddr, E.load, E.store, binO, isC, bin, ibin, sbin, una, isShift, okCell, packV, lenV, blt, fnV, asArg, snapV, snapS, snapP, snapC, flatV, flatT, openK, layBack, allT, allZ, mkS, srcOf0, unN, idxV, nilEq, give, tupV, mkEnv, extV, pickV, LVS, OVS, LTS, TYS, PMS, pmT, Int.reduceToNat, Nat.reduceGT, ↓reduceIte, Nat.reduceAdd, Nat.reduceMul, Nat.reduceSub, Nat.reduceEqDiff, Nat.reduceLeDiff, Nat.reduceLT, Nat.reduceBEq, Int.reduceBEq, Int.reduceBNe, Int.reduceEq, Int.reduceLT, Int.reduceLE, Int.reduceGT, Int.reduceNeg, reduceCtorEq, c, fidx]
  | b :: rest, pre, hs => by
    have c : decide ((pre.length : Int) < (es.length : Int)) = true := by simp [hs]; omega
    have hi : pre.length < es.length := by rw [hs]; simp
    have hget := LField.encs_get es pre.length hi
    have hgb : es[pre.length] = b := by simp [hs]
    rw [hgb] at hget
    have hb := hp b (by rw [hs]; simp)
    have e1 : (pre.length : Int) + 1 = ((pre ++ [b]).length : Int) := by simp
    have IH := l_idxF_Field g caps p es hl hp rest (pre ++ [b]) (by rw [hs]; simp)
    refine loop_eq Tryz.func333 rfl rfl ?_
    simp only [fidx]
    cases hpb : p b with
    | true =>
      rw [hpb] at hb
      simp (disch := omega) only [↓GO, ↓DRW, GA, ren, renB, footX, refs, cellsV, cst, cstAt, nilC, idxAddr, E.load, E.store, binO, isC, bin, ibin, sbin, una, isShift, okCell, packV, lenV, blt, fnV, asArg, snapV, snapS, snapP, snapC, flatV, flatT, openK, layBack, allT, allZ, mkS, srcOf0, unN, idxV, nilEq, give, tupV, mkEnv, extV, pickV, LVS, OVS, LTS, TYS, PMS, pmT, Int.reduceToNat, Nat.reduceGT, ↓reduceIte, Nat.reduceAdd, Nat.reduceMul, Nat.reduceSub, Nat.reduceEqDiff, Nat.reduceLeDiff, Nat.reduceLT, Nat.reduceBEq, Int.reduceBEq, Int.reduceBNe, Int.reduceEq, Int.reduceLT, Int.reduceLE, Int.reduceGT, Int.reduceNeg, reduceCtorEq, LField.encs_len, c, hget, LField.enc_len, LField.enc_take, wrap_in, hb]
    | false =>
      rw [hpb] at hb
      simp (disch := omega) only [↓GO, ↓DRW, GA, ren, renB, footX, refs, cellsV, cst, cstAt, nilC, idxAddr, E.load, E.store, binO, isC, bin, ibin, sbin, una, isShift, okCell, packV, lenV, blt, fnV, asArg, snapV, snapS, snapP, snapC, flatV, flatT, openK, layBack, allT, allZ, mkS, srcOf0, unN, idxV, nilEq, give, tupV, mkEnv, extV, pickV, LVS, OVS, LTS, TYS, PMS, pmT, Int.reduceToNat, Nat.reduceGT, ↓reduceIte, Nat.reduceAdd, Nat.reduceMul, Nat.reduceSub, Nat.reduceEqDiff, Nat.reduceLeDiff, Nat.reduceLT, Nat.reduceBEq, Int.reduceBEq, Int.reduceBNe, Int.reduceEq, Int.reduceLT, Int.reduceLE, Int.reduceGT, Int.reduceNeg, reduceCtorEq, LField.encs_len, c, hget, LField.enc_len, LField.enc_take, wrap_in, hb]
      rw [e1, IH]
      simp
theorem c_idxF_Field (g : Nat) (caps : List T) (p : LField → Bool) (es : List LField) (hl : es.length ≤ 4611686018427387904) (hp : ∀ x ∈ es, callPure (EV Tryz.prog pol) g (.agg (x.enc.map .t) :: caps.map .t) = some (.t (.bool (p x)))) :
    callPure (EV Tryz.prog pol) 333 [.t (.list 4 (LField.encs es)), .t (.fn g caps)] = some (.t (.int .i64 (ixI (fidx p es 0)))) := by
  have IH := l_idxF_Field g caps p es hl hp es [] rfl
  simp only [List.length_nil, Int.natCast_zero] at IH
  apply eq_call
  refine call_eq rfl Tryz.func333 rfl (by kernel_rfl) ?_
  unfold Tryz.f333
  cases hf : fidx p es 0 with
  | none => rw [hf] at IH; simp only [↓GO, ↓DRW, GA, ren, renB, footX, refs, cellsV, cst, cstAt, nilC, idxAddr, E.load, E.store, binO, isC, bin, ibin, sbin, una, isShift, okCell, packV, lenV, blt, fnV, asArg, snapV, snapS, snapP, snapC, flatV, flatT, openK, layBack, allT, allZ, mkS, srcOf0, unN, idxV, nilEq, give, tupV, mkEnv, extV, pickV, LVS, OVS, LTS, TYS, PMS, pmT, Int.reduceToNat, Nat.reduceGT, ↓reduceIte, Nat.reduceAdd, Nat.reduceMul, Nat.reduceSub, Nat.reduceEqDiff, Nat.reduceLeDiff, Nat.reduceLT, Nat.reduceBEq, Int.reduceBEq, Int.reduceBNe, Int.reduceEq, Int.reduceLT, Int.reduceLE, Int.reduceGT, Int.reduceNeg, reduceCtorEq, LField.encs_len, IH, ixI]
  | some i => rw [hf] at IH; simp only [↓GO, ↓DRW, GA, ren, renB, footX, refs, cellsV, cst, cstAt, nilC, idxAddr, E.load, E.store, binO, isC, bin, ibin, sbin, una, isShift, okCell, packV, lenV, blt, fnV, asArg, snapV, snapS, snapP, snapC, flatV, flatT, openK, layBack, allT, allZ, mkS, srcOf0, unN, idxV, nilEq, give, tupV, mkEnv, extV, pickV, LVS, OVS, LTS, TYS, PMS, pmT, Int.reduceToNat, Nat.reduceGT, ↓reduceIte, Nat.reduceAdd, Nat.reduceMul, Nat.reduceSub, Nat.reduceEqDiff, Nat.reduceLeDiff, Nat.reduceLT, Nat.reduceBEq, Int.reduceBEq, Int.reduceBNe, Int.reduceEq, Int.reduceLT, Int.reduceLE, Int.reduceGT, Int.reduceNeg, reduceCtorEq, LField.encs_len, IH, ixI]
theorem c_conF_Field (g : Nat) (caps : List T) (p : LField → Bool) (es : List LField) (hl : es.length ≤ 4611686018427387904) (hp : ∀ x ∈ es, callPure (EV Tryz.prog pol) g (.agg (x.enc.map .t) :: caps.map .t) = some (.t (.bool (p x)))) :
    callPure (EV Tryz.prog pol) 284 [.t (.list 4 (LField.encs es)), .t (.fn g caps)] = some (.t (.bool (es.any p))) := by
  have h1 := c_idxF_Field g caps p es hl hp
  apply eq_call
  refine call_eq rfl Tryz.func284 rfl (by kernel_rfl) ?_
  unfold Tryz.f284
  have h2 := ixI_any p es
  simp only [↓GO, ↓DRW, GA, ren, renB, footX, refs, cellsV, cst, cstAt, nilC, idxAddr, E.load, E.store, binO, isC, bin, ibin, sbin, una, isShift, okCell, packV, lenV, blt, fnV, asArg, snapV, snapS, snapP, snapC, flatV, flatT, openK, layBack, allT, allZ, mkS, srcOf0, unN, idxV, nilEq, give, tupV, mkEnv, extV, pickV, LVS, OVS, LTS, TYS, PMS, pmT, Int.reduceToNat, Nat.reduceGT, ↓reduceIte, Nat.reduceAdd, Nat.reduceMul, Nat.reduceSub, Nat.reduceEqDiff, Nat.reduceLeDiff, Nat.reduceLT, Nat.reduceBEq, Int.reduceBEq, Int.reduceBNe, Int.reduceEq, Int.reduceLT, Int.reduceLE, Int.reduceGT, Int.reduceNeg, reduceCtorEq, h1, h2]
end Go.Proofs.YtkpmachalipmpaaGreatDoor
/- What the laws' own functions do over Sum, Pack, Graph: sizes, copies, comparisons. Conditions: those of each lemma. -/
namespace Go.Proofs.YtkpmachalipmpaaGreatDoor
open E
set_option linter.unusedSimpArgs false
set_option linter.unusedVariables false
set_option maxRecDepth 100000

structure LSum where
  alg : List UInt8
  bytes : List UInt8
def LSum.enc (x : LSum) : List T := [.str x.alg, .str x.bytes]
def LSum.encs (l : List LSum) : List (List T) := l.map LSum.enc
def LSum.bulk (x : LSum) : Nat := x.alg.length + x.bytes.length
def LSum.bulks : List LSum → Nat
  | [] => 0
  | c :: cs => LSum.bulk c + LSum.bulks cs
def LSum.ok (x : LSum) : Prop := x.alg.length ≤ 9223372036854775807 ∧ x.bytes.length ≤ 9223372036854775807
theorem LSum.enc_len (x : LSum) : x.enc.length = 2 := rfl
theorem LSum.enc_take (x : LSum) : x.enc.take 2 = x.enc := rfl
theorem LSum.encs_len (cs : List LSum) : (LSum.encs cs).length = cs.length := by simp [LSum.encs]
theorem LSum.encs_get (cs : List LSum) (i : Nat) (h : i < cs.length) : (LSum.encs cs)[i]? = some cs[i].enc := by simp [LSum.encs, h]
theorem LSum.bulks_drop (cs : List LSum) (i : Nat) (h : i < cs.length) : LSum.bulks (cs.drop i) = cs[i].bulk + LSum.bulks (cs.drop (i + 1)) := by
  rw [List.drop_eq_getElem_cons h]; rfl
theorem LSum.bulks_mem : ∀ {cs : List LSum} {c : LSum}, c ∈ cs → c.bulk ≤ LSum.bulks cs
  | c' :: cs, c, h => by
    simp only [LSum.bulks]
    rcases List.mem_cons.1 h with rfl | h
    · omega
    · have := LSum.bulks_mem h; omega
def SzSum (x : LSum) : Prop := ∀ n : Int, 0 ≤ n → n ≤ 1048576 → callPure (EV Tryz.prog pol) 326 [.agg (x.enc.map .t), .t (.int .i64 n)] = some (.t (.int .i64 (left n x.bulk)))
theorem c_szSum (x : LSum) (ho : x.ok) : SzSum x := by
  obtain ⟨alg, bytes⟩ := x
  intro n h0 h1
  simp only [LSum.ok] at ho
  simp only [LSum.enc, List.map_cons, List.map_nil]
  apply eq_call
  refine call_eq rfl Tryz.func326 rfl (by kernel_rfl) ?_
  unfold Tryz.f326
  repeat' (first | (((first | with_reducible refine cK_any (fun hA => ?_) (fun hA => ?_) | with_reducible refine gW_any (fun hA => ?_) (fun hA => ?_)) <;> (try simp only [bne, Bool.not_eq_true', Bool.not_eq_false'] at hA) <;> (first | (have hP := Int.le_of_eq (eq_of_beq (α := Int) hA); have hQ := Int.le_of_eq (eq_of_beq (α := Int) hA).symm) | have hP := of_decide_eq_true hA | have hP := of_decide_eq_false hA | skip)) <;> (simp (disch := ((try simp only [List.length_cons, List.length_append, List.length_nil, List.length_map]); omega)) only [↓GO, ↓DRW, GA, ren, renB, footX, refs, cellsV, cst, cstAt, nilC, idxAddr, E.load, E.store, binO, isC, bin, ibin, sbin, una, isShift, okCell, packV, lenV, blt, fnV, asArg, snapV, snapS, snapP, snapC, flatV, flatT, openK, layBack, allT, allZ, mkS, srcOf0, unN, idxV, nilEq, give, tupV, mkEnv, extV, pickV, LVS, OVS, LTS, TYS, PMS, pmT, Int.reduceToNat, Nat.reduceGT, ↓reduceIte, Nat.reduceAdd, Nat.reduceMul, Nat.reduceSub, Nat.reduceEqDiff, Nat.reduceLeDiff, Nat.reduceLT, Nat.reduceBEq, Int.reduceBEq, Int.reduceBNe, Int.reduceEq, Int.reduceLT, Int.reduceLE, Int.reduceGT, Int.reduceNeg, reduceCtorEq, wrap_in, bne, left_lt, left_eq, *])) | (simp (disch := ((try simp only [List.length_cons, List.length_append, List.length_nil, List.length_map]); omega)) only [↓GO, ↓DRW, GA, ren, renB, footX, refs, cellsV, cst, cstAt, nilC, idxAddr, E.load, E.store, binO, isC, bin, ibin, sbin, una, isShift, okCell, packV, lenV, blt, fnV, asArg, snapV, snapS, snapP, snapC, flatV, flatT, openK, layBack, allT, allZ, mkS, srcOf0, unN, idxV, nilEq, give, tupV, mkEnv, extV, pickV, LVS, OVS, LTS, TYS, PMS, pmT, Int.reduceToNat, Nat.reduceGT, ↓reduceIte, Nat.reduceAdd, Nat.reduceMul, Nat.reduceSub, Nat.reduceEqDiff, Nat.reduceLeDiff, Nat.reduceLT, Nat.reduceBEq, Int.reduceBEq, Int.reduceBNe, Int.reduceEq, Int.reduceLT, Int.reduceLE, Int.reduceGT, Int.reduceNeg, reduceCtorEq, wrap_in, bne, left_lt, left_eq, *]))
  all_goals (refine left_leaf' ?_; simp only [LSum.bulk, and_true]; omega)
theorem l_szSumS (cs : List LSum) (hl : cs.length ≤ 9223372036854775807) (hc : ∀ c ∈ cs, SzSum c) : ∀ (d i : Nat) (n : Int), cs.length - i = d → i ≤ cs.length → 0 ≤ n → n ≤ 1048576 →
    (0 ≤ n - (LSum.bulks (cs.drop i) : Int) → EV Tryz.prog pol (.loop 275 122 0 [.t (.list 2 (LSum.encs cs)), .t (.int .i64 n), .t (.int .i64 (i : Int))] []) = some (.loop (.exit 0) [.t (.int .i64 (n - (LSum.bulks (cs.drop i) : Int))), .bad] [])) ∧
    (n - (LSum.bulks (cs.drop i) : Int) < 0 → ∃ v, EV Tryz.prog pol (.loop 275 122 0 [.t (.list 2 (LSum.encs cs)), .t (.int .i64 n), .t (.int .i64 (i : Int))] []) = some (.loop .ret [v, .t (.int .i64 (-1))] []))
  | 0, i, n, hd, hi, h0, h1 => by
    have hi' : i = cs.length := by omega
    subst hi'
    have hb : LSum.bulks (cs.drop cs.length) = 0 := by simp [LSum.bulks]
    rw [hb]
    refine ⟨fun _ => ?_, fun h => by omega⟩
    refine loop_eq Tryz.func275 rfl rfl ?_
    have c : decide (((cs.length : Nat) : Int) < ((cs.length : Nat) : Int)) = false := by simp
    simp only [↓GO, ↓DRW, GA, ren, renB, footX, refs, cellsV, cst, cstAt, nilC, idxAddr, E.load, E.store, binO, isC, bin, ibin, sbin, una, isShift, okCell, packV, lenV, blt, fnV, asArg, snapV, snapS, snapP, snapC, flatV, flatT, openK, layBack, allT, allZ, mkS, srcOf0, unN, idxV, nilEq, give, tupV, mkEnv, extV, pickV, LVS, OVS, LTS, TYS, PMS, pmT, Int.reduceToNat, Nat.reduceGT, ↓reduceIte, Nat.reduceAdd, Nat.reduceMul, Nat.reduceSub, Nat.reduceEqDiff, Nat.reduceLeDiff, Nat.reduceLT, Nat.reduceBEq, Int.reduceBEq, Int.reduceBNe, Int.reduceEq, Int.reduceLT, Int.reduceLE, Int.reduceGT, Int.reduceNeg, reduceCtorEq, LSum.encs_len, c]
    simp
  | d + 1, i, n, hd, hi, h0, h1 => by
    have hlt : i < cs.length := by omega
    rw [LSum.bulks_drop cs i hlt]
    have c : decide ((i : Int) < ((cs.length : Nat) : Int)) = true := by simp; omega
    have hcall := hc _ (List.getElem_mem hlt) n h0 h1
    have hget := LSum.encs_get cs i hlt
    generalize hci : cs[i] = ci at hcall hget
    obtain ⟨alg, bytes⟩ := ci
    simp only [LSum.enc, List.map_cons, List.map_nil] at hcall hget
    generalize hbu : (LSum.mk alg bytes).bulk = bu at hcall
    have IH := l_szSumS cs hl hc d (i + 1) (n - (bu : Int)) (by omega) (by omega)
    have e1 : (i : Int) + 1 = ((i + 1 : Nat) : Int) := by omega
    by_cases hneg : n - (bu : Int) < 0
    · refine ⟨fun h => by omega, fun _ => ⟨.t (.int .i64 (-1)), ?_⟩⟩
      refine loop_eq Tryz.func275 rfl rfl ?_
      have hle : left n bu = -1 := if_pos hneg
      rw [hle] at hcall
      simp (disch := omega) only [↓GO, ↓DRW, GA, ren, renB, footX, refs, cellsV, cst, cstAt, nilC, idxAddr, E.load, E.store, binO, isC, bin, ibin, sbin, una, isShift, okCell, packV, lenV, blt, fnV, asArg, snapV, snapS, snapP, snapC, flatV, flatT, openK, layBack, allT, allZ, mkS, srcOf0, unN, idxV, nilEq, give, tupV, mkEnv, extV, pickV, LVS, OVS, LTS, TYS, PMS, pmT, Int.reduceToNat, Nat.reduceGT, ↓reduceIte, Nat.reduceAdd, Nat.reduceMul, Nat.reduceSub, Nat.reduceEqDiff, Nat.reduceLeDiff, Nat.reduceLT, Nat.reduceBEq, Int.reduceBEq, Int.reduceBNe, Int.reduceEq, Int.reduceLT, Int.reduceLE, Int.reduceGT, Int.reduceNeg, reduceCtorEq, LSum.encs_len, c, hget, wrap_in, hcall]
    · have hle : left n bu = n - (bu : Int) := if_neg hneg
      rw [hle] at hcall
      have c2 : decide (n - (bu : Int) < 0) = false := by simpa using hneg
      obtain ⟨I1, I2⟩ := IH (by omega) (by omega)
      refine ⟨fun h => ?_, fun h => ?_⟩
      · refine loop_eq Tryz.func275 rfl rfl ?_
        simp (disch := omega) only [↓GO, ↓DRW, GA, ren, renB, footX, refs, cellsV, cst, cstAt, nilC, idxAddr, E.load, E.store, binO, isC, bin, ibin, sbin, una, isShift, okCell, packV, lenV, blt, fnV, asArg, snapV, snapS, snapP, snapC, flatV, flatT, openK, layBack, allT, allZ, mkS, srcOf0, unN, idxV, nilEq, give, tupV, mkEnv, extV, pickV, LVS, OVS, LTS, TYS, PMS, pmT, Int.reduceToNat, Nat.reduceGT, ↓reduceIte, Nat.reduceAdd, Nat.reduceMul, Nat.reduceSub, Nat.reduceEqDiff, Nat.reduceLeDiff, Nat.reduceLT, Nat.reduceBEq, Int.reduceBEq, Int.reduceBNe, Int.reduceEq, Int.reduceLT, Int.reduceLE, Int.reduceGT, Int.reduceNeg, reduceCtorEq, LSum.encs_len, c, hget, wrap_in, hcall, c2, e1]
        rw [I1 (by omega), show n - (bu : Int) - (LSum.bulks (cs.drop (i + 1)) : Int) = n - ((bu + LSum.bulks (cs.drop (i + 1)) : Nat) : Int) by omega]
      · obtain ⟨v, hv⟩ := I2 (by omega)
        refine ⟨v, ?_⟩
        refine loop_eq Tryz.func275 rfl rfl ?_
        simp (disch := omega) only [↓GO, ↓DRW, GA, ren, renB, footX, refs, cellsV, cst, cstAt, nilC, idxAddr, E.load, E.store, binO, isC, bin, ibin, sbin, una, isShift, okCell, packV, lenV, blt, fnV, asArg, snapV, snapS, snapP, snapC, flatV, flatT, openK, layBack, allT, allZ, mkS, srcOf0, unN, idxV, nilEq, give, tupV, mkEnv, extV, pickV, LVS, OVS, LTS, TYS, PMS, pmT, Int.reduceToNat, Nat.reduceGT, ↓reduceIte, Nat.reduceAdd, Nat.reduceMul, Nat.reduceSub, Nat.reduceEqDiff, Nat.reduceLeDiff, Nat.reduceLT, Nat.reduceBEq, Int.reduceBEq, Int.reduceBNe, Int.reduceEq, Int.reduceLT, Int.reduceLE, Int.reduceGT, Int.reduceNeg, reduceCtorEq, LSum.encs_len, c, hget, wrap_in, hcall, c2, e1]
        exact hv
theorem c_szSumS (cs : List LSum) (hl : cs.length ≤ 9223372036854775807) (hc : ∀ c ∈ cs, SzSum c) (n : Int) (h0 : 0 ≤ n) (h1 : n ≤ 1048576) :
    callPure (EV Tryz.prog pol) 275 [.t (.list 2 (LSum.encs cs)), .t (.int .i64 n)] = some (.t (.int .i64 (left n (cs.length + LSum.bulks cs)))) := by
  apply eq_call
  refine call_eq rfl Tryz.func275 rfl (by kernel_rfl) ?_
  unfold Tryz.f275
  by_cases hneg : n - (cs.length : Int) < 0
  · have c2 : decide (n - (cs.length : Int) < 0) = true := by simpa using hneg
    simp (disch := omega) only [↓GO, ↓DRW, GA, ren, renB, footX, refs, cellsV, cst, cstAt, nilC, idxAddr, E.load, E.store, binO, isC, bin, ibin, sbin, una, isShift, okCell, packV, lenV, blt, fnV, asArg, snapV, snapS, snapP, snapC, flatV, flatT, openK, layBack, allT, allZ, mkS, srcOf0, unN, idxV, nilEq, give, tupV, mkEnv, extV, pickV, LVS, OVS, LTS, TYS, PMS, pmT, Int.reduceToNat, Nat.reduceGT, ↓reduceIte, Nat.reduceAdd, Nat.reduceMul, Nat.reduceSub, Nat.reduceEqDiff, Nat.reduceLeDiff, Nat.reduceLT, Nat.reduceBEq, Int.reduceBEq, Int.reduceBNe, Int.reduceEq, Int.reduceLT, Int.reduceLE, Int.reduceGT, Int.reduceNeg, reduceCtorEq, LSum.encs_len, wrap_in, c2]
    rw [left, if_pos (by omega)]
  · have c2 : decide (n - (cs.length : Int) < 0) = false := by simpa using hneg
    obtain ⟨I1, I2⟩ := l_szSumS cs hl hc cs.length 0 (n - (cs.length : Int)) (by omega) (by omega) (by omega) (by omega)
    simp only [List.drop_zero, Int.natCast_zero] at I1 I2
    by_cases hn2 : n - (cs.length : Int) - (LSum.bulks cs : Int) < 0
    · obtain ⟨v, hv⟩ := I2 hn2
      simp (disch := omega) only [↓GO, ↓DRW, GA, ren, renB, footX, refs, cellsV, cst, cstAt, nilC, idxAddr, E.load, E.store, binO, isC, bin, ibin, sbin, una, isShift, okCell, packV, lenV, blt, fnV, asArg, snapV, snapS, snapP, snapC, flatV, flatT, openK, layBack, allT, allZ, mkS, srcOf0, unN, idxV, nilEq, give, tupV, mkEnv, extV, pickV, LVS, OVS, LTS, TYS, PMS, pmT, Int.reduceToNat, Nat.reduceGT, ↓reduceIte, Nat.reduceAdd, Nat.reduceMul, Nat.reduceSub, Nat.reduceEqDiff, Nat.reduceLeDiff, Nat.reduceLT, Nat.reduceBEq, Int.reduceBEq, Int.reduceBNe, Int.reduceEq, Int.reduceLT, Int.reduceLE, Int.reduceGT, Int.reduceNeg, reduceCtorEq, LSum.encs_len, wrap_in, c2, hv]
      rw [left, if_pos (by omega)]
    · simp (disch := omega) only [↓GO, ↓DRW, GA, ren, renB, footX, refs, cellsV, cst, cstAt, nilC, idxAddr, E.load, E.store, binO, isC, bin, ibin, sbin, una, isShift, okCell, packV, lenV, blt, fnV, asArg, snapV, snapS, snapP, snapC, flatV, flatT, openK, layBack, allT, allZ, mkS, srcOf0, unN, idxV, nilEq, give, tupV, mkEnv, extV, pickV, LVS, OVS, LTS, TYS, PMS, pmT, Int.reduceToNat, Nat.reduceGT, ↓reduceIte, Nat.reduceAdd, Nat.reduceMul, Nat.reduceSub, Nat.reduceEqDiff, Nat.reduceLeDiff, Nat.reduceLT, Nat.reduceBEq, Int.reduceBEq, Int.reduceBNe, Int.reduceEq, Int.reduceLT, Int.reduceLE, Int.reduceGT, Int.reduceNeg, reduceCtorEq, LSum.encs_len, wrap_in, c2, I1 (by omega)]
      rw [left, if_neg (by omega), show n - (cs.length : Int) - (LSum.bulks cs : Int) = n - ((cs.length + LSum.bulks cs : Nat) : Int) by omega]
def ToSum (x : LSum) : Prop := callPure (EV Tryz.prog pol) 327 [.agg (x.enc.map .t)] = some (.agg (x.enc.map .t))
theorem c_toSum (x : LSum) (ho : x.bulk ≤ 1048576) : ToSum x := by
  obtain ⟨alg, bytes⟩ := x
  simp only [LSum.bulk] at ho
  simp only [ToSum, LSum.enc, List.map_cons, List.map_nil]
  apply eq_call
  refine call_eq rfl Tryz.func327 rfl (by kernel_rfl) ?_
  unfold Tryz.f327
  simp only [↓GO, ↓DRW, GA, ren, renB, footX, refs, cellsV, cst, cstAt, nilC, idxAddr, E.load, E.store, binO, isC, bin, ibin, sbin, una, isShift, okCell, packV, lenV, blt, fnV, asArg, snapV, snapS, snapP, snapC, flatV, flatT, openK, layBack, allT, allZ, mkS, srcOf0, unN, idxV, nilEq, give, tupV, mkEnv, extV, pickV, LVS, OVS, LTS, TYS, PMS, pmT, Int.reduceToNat, Nat.reduceGT, ↓reduceIte, Nat.reduceAdd, Nat.reduceMul, Nat.reduceSub, Nat.reduceEqDiff, Nat.reduceLeDiff, Nat.reduceLT, Nat.reduceBEq, Int.reduceBEq, Int.reduceBNe, Int.reduceEq, Int.reduceLT, Int.reduceLE, Int.reduceGT, Int.reduceNeg, reduceCtorEq]
def zSum : List T := [.str [], .str []]
theorem l_toSumS (cs : List LSum) (hl : cs.length ≤ 1048576) (hc : ∀ c ∈ cs, ToSum c) : ∀ (d i : Nat), cs.length - i = d → i ≤ cs.length →
    EV Tryz.prog pol (.loop 277 58 0 [.t (.list 2 (LSum.encs cs)), .sl 0 0 cs.length (some cs.length), .t (.int .i64 (i : Int))] [.ts 2 (fillE (LSum.encs cs) zSum i)]) = some (.loop (.exit 0) [.sl 0 0 cs.length (some cs.length)] [.ts 2 (LSum.encs cs)])
  | 0, i, hd, hi => by
    have hi' : i = cs.length := by omega
    subst hi'
    refine loop_eq Tryz.func277 rfl rfl ?_
    have c : decide (((cs.length : Nat) : Int) < ((cs.length : Nat) : Int)) = false := by simp
    have hf : fillE (LSum.encs cs) zSum cs.length = LSum.encs cs := by rw [← LSum.encs_len cs]; exact fillE_all _ _
    simp only [↓GO, ↓DRW, GA, ren, renB, footX, refs, cellsV, cst, cstAt, nilC, idxAddr, E.load, E.store, binO, isC, bin, ibin, sbin, una, isShift, okCell, packV, lenV, blt, fnV, asArg, snapV, snapS, snapP, snapC, flatV, flatT, openK, layBack, allT, allZ, mkS, srcOf0, unN, idxV, nilEq, give, tupV, mkEnv, extV, pickV, LVS, OVS, LTS, TYS, PMS, pmT, Int.reduceToNat, Nat.reduceGT, ↓reduceIte, Nat.reduceAdd, Nat.reduceMul, Nat.reduceSub, Nat.reduceEqDiff, Nat.reduceLeDiff, Nat.reduceLT, Nat.reduceBEq, Int.reduceBEq, Int.reduceBNe, Int.reduceEq, Int.reduceLT, Int.reduceLE, Int.reduceGT, Int.reduceNeg, reduceCtorEq, LSum.encs_len, c, hf]
  | d + 1, i, hd, hi => by
    have hlt : i < cs.length := by omega
    have hlt' : i < (LSum.encs cs).length := by rw [LSum.encs_len]; exact hlt
    have c : decide ((i : Int) < ((cs.length : Nat) : Int)) = true := by simp; omega
    have c0 : decide ((0 : Int) ≤ (i : Int)) = true := by simp
    have IH := l_toSumS cs hl hc d (i + 1) (by omega) (by omega)
    have e1 : (i : Int) + 1 = ((i + 1 : Nat) : Int) := by omega
    have hg : (fillE (LSum.encs cs) zSum i)[i]? = some [.str [], .str []] := fillE_get (LSum.encs cs) zSum i hlt'
    have hs := fillE_set (LSum.encs cs) zSum i hlt'
    have hx : (LSum.encs cs)[i] = cs[i].enc := by simp [LSum.encs]
    rw [hx] at hs
    have hcall := hc _ (List.getElem_mem hlt)
    have hget := LSum.encs_get cs i hlt
    generalize hci : cs[i] = ci at hcall hget hs
    obtain ⟨alg, bytes⟩ := ci
    simp only [ToSum, LSum.enc, List.map_cons, List.map_nil] at hcall hget hs
    refine loop_eq Tryz.func277 rfl rfl ?_
    simp (disch := omega) only [↓GO, ↓DRW, GA, ren, renB, footX, refs, cellsV, cst, cstAt, nilC, idxAddr, E.load, E.store, binO, isC, bin, ibin, sbin, una, isShift, okCell, packV, lenV, blt, fnV, asArg, snapV, snapS, snapP, snapC, flatV, flatT, openK, layBack, allT, allZ, mkS, srcOf0, unN, idxV, nilEq, give, tupV, mkEnv, extV, pickV, LVS, OVS, LTS, TYS, PMS, pmT, Int.reduceToNat, Nat.reduceGT, ↓reduceIte, Nat.reduceAdd, Nat.reduceMul, Nat.reduceSub, Nat.reduceEqDiff, Nat.reduceLeDiff, Nat.reduceLT, Nat.reduceBEq, Int.reduceBEq, Int.reduceBNe, Int.reduceEq, Int.reduceLT, Int.reduceLE, Int.reduceGT, Int.reduceNeg, reduceCtorEq, LSum.encs_len, c, c0, hget, wrap_in, e1, hg, Int.toNat_natCast, hcall, hs]
    exact IH
theorem c_toSumS (cs : List LSum) (hl : cs.length ≤ 1048576) (hc : ∀ c ∈ cs, ToSum c) : callPure (EV Tryz.prog pol) 277 [.t (.list 2 (LSum.encs cs))] = some (.t (.list 2 (LSum.encs cs))) := by
  apply eq_call
  refine call_eq rfl Tryz.func277 rfl (by kernel_rfl) ?_
  unfold Tryz.f277
  have h1 : ¬ ((cs.length : Int) < 0) := by omega
  have h2 : ¬ (cs.length * 32 > 140737488355328) := by omega
  have h3 : ¬ (cs.length > 140737488355328) := by omega
  have hz : List.replicate cs.length [T.str [], .str []] = fillE (LSum.encs cs) zSum 0 := by rw [fillE_zero, LSum.encs_len]; rfl
  have IH := l_toSumS cs hl hc cs.length 0 (by omega) (by omega)
  simp only [Int.natCast_zero] at IH
  have ht : (LSum.encs cs).take cs.length = LSum.encs cs := by rw [← LSum.encs_len cs]; simp
  simp (disch := omega) only [↓GO, ↓DRW, GA, ren, renB, footX, refs, cellsV, cst, cstAt, nilC, idxAddr, E.load, E.store, binO, isC, bin, ibin, sbin, una, isShift, okCell, packV, lenV, blt, fnV, asArg, snapV, snapS, snapP, snapC, flatV, flatT, openK, layBack, allT, allZ, mkS, srcOf0, unN, idxV, nilEq, give, tupV, mkEnv, extV, pickV, LVS, OVS, LTS, TYS, PMS, pmT, Int.reduceToNat, Nat.reduceGT, ↓reduceIte, Nat.reduceAdd, Nat.reduceMul, Nat.reduceSub, Nat.reduceEqDiff, Nat.reduceLeDiff, Nat.reduceLT, Nat.reduceBEq, Int.reduceBEq, Int.reduceBNe, Int.reduceEq, Int.reduceLT, Int.reduceLE, Int.reduceGT, Int.reduceNeg, reduceCtorEq, LSum.encs_len, Int.toNat_natCast, h1, h2, h3, hz, IH, ne_eq, not_true_eq_false, ht]
def EqSum (x : LSum) : Prop := callPure (EV Tryz.prog pol) 328 [.agg (x.enc.map .t), .agg (x.enc.map .t)] = some (.t (.bool true))
theorem c_eqSum (x : LSum) (ho : x.bulk ≤ 1048576) : EqSum x := by
  obtain ⟨alg, bytes⟩ := x
  simp only [LSum.bulk] at ho
  simp only [EqSum, LSum.enc, List.map_cons, List.map_nil]
  apply eq_call
  refine call_eq rfl Tryz.func328 rfl (by kernel_rfl) ?_
  unfold Tryz.f328
  simp only [↓GO, ↓DRW, GA, ren, renB, footX, refs, cellsV, cst, cstAt, nilC, idxAddr, E.load, E.store, binO, isC, bin, ibin, sbin, una, isShift, okCell, packV, lenV, blt, fnV, asArg, snapV, snapS, snapP, snapC, flatV, flatT, openK, layBack, allT, allZ, mkS, srcOf0, unN, idxV, nilEq, give, tupV, mkEnv, extV, pickV, LVS, OVS, LTS, TYS, PMS, pmT, Int.reduceToNat, Nat.reduceGT, ↓reduceIte, Nat.reduceAdd, Nat.reduceMul, Nat.reduceSub, Nat.reduceEqDiff, Nat.reduceLeDiff, Nat.reduceLT, Nat.reduceBEq, Int.reduceBEq, Int.reduceBNe, Int.reduceEq, Int.reduceLT, Int.reduceLE, Int.reduceGT, Int.reduceNeg, reduceCtorEq, bne_self_eq_false]
theorem l_eqSumS (cs : List LSum) (hl : cs.length ≤ 1048576) (hc : ∀ c ∈ cs, EqSum c) : ∀ (d i : Nat), cs.length - i = d → i ≤ cs.length →
    EV Tryz.prog pol (.loop 278 58 0 [.t (.list 2 (LSum.encs cs)), .t (.list 2 (LSum.encs cs)), .t (.int .i64 (i : Int))] []) = some (.loop (.exit 0) [.bad] [])
  | 0, i, hd, hi => by
    have hi' : i = cs.length := by omega
    subst hi'
    refine loop_eq Tryz.func278 rfl rfl ?_
    have c : decide (((cs.length : Nat) : Int) < ((cs.length : Nat) : Int)) = false := by simp
    simp only [↓GO, ↓DRW, GA, ren, renB, footX, refs, cellsV, cst, cstAt, nilC, idxAddr, E.load, E.store, binO, isC, bin, ibin, sbin, una, isShift, okCell, packV, lenV, blt, fnV, asArg, snapV, snapS, snapP, snapC, flatV, flatT, openK, layBack, allT, allZ, mkS, srcOf0, unN, idxV, nilEq, give, tupV, mkEnv, extV, pickV, LVS, OVS, LTS, TYS, PMS, pmT, Int.reduceToNat, Nat.reduceGT, ↓reduceIte, Nat.reduceAdd, Nat.reduceMul, Nat.reduceSub, Nat.reduceEqDiff, Nat.reduceLeDiff, Nat.reduceLT, Nat.reduceBEq, Int.reduceBEq, Int.reduceBNe, Int.reduceEq, Int.reduceLT, Int.reduceLE, Int.reduceGT, Int.reduceNeg, reduceCtorEq, LSum.encs_len, c]
  | d + 1, i, hd, hi => by
    have hlt : i < cs.length := by omega
    have c : decide ((i : Int) < ((cs.length : Nat) : Int)) = true := by simp; omega
    have IH := l_eqSumS cs hl hc d (i + 1) (by omega) (by omega)
    have e1 : (i : Int) + 1 = ((i + 1 : Nat) : Int) := by omega
    have hcall := hc _ (List.getElem_mem hlt)
    have hget := LSum.encs_get cs i hlt
    generalize hci : cs[i] = ci at hcall hget
    obtain ⟨alg, bytes⟩ := ci
    simp only [EqSum, LSum.enc, List.map_cons, List.map_nil] at hcall hget
    refine loop_eq Tryz.func278 rfl rfl ?_
    simp (disch := omega) only [↓GO, ↓DRW, GA, ren, renB, footX, refs, cellsV, cst, cstAt, nilC, idxAddr, E.load, E.store, binO, isC, bin, ibin, sbin, una, isShift, okCell, packV, lenV, blt, fnV, asArg, snapV, snapS, snapP, snapC, flatV, flatT, openK, layBack, allT, allZ, mkS, srcOf0, unN, idxV, nilEq, give, tupV, mkEnv, extV, pickV, LVS, OVS, LTS, TYS, PMS, pmT, Int.reduceToNat, Nat.reduceGT, ↓reduceIte, Nat.reduceAdd, Nat.reduceMul, Nat.reduceSub, Nat.reduceEqDiff, Nat.reduceLeDiff, Nat.reduceLT, Nat.reduceBEq, Int.reduceBEq, Int.reduceBNe, Int.reduceEq, Int.reduceLT, Int.reduceLE, Int.reduceGT, Int.reduceNeg, reduceCtorEq, LSum.encs_len, c, hget, wrap_in, e1, hcall]
    exact IH
theorem c_eqSumS (cs : List LSum) (hl : cs.length ≤ 1048576) (hc : ∀ c ∈ cs, EqSum c) : callPure (EV Tryz.prog pol) 278 [.t (.list 2 (LSum.encs cs)), .t (.list 2 (LSum.encs cs))] = some (.t (.bool true)) := by
  apply eq_call
  refine call_eq rfl Tryz.func278 rfl (by kernel_rfl) ?_
  unfold Tryz.f278
  have IH := l_eqSumS cs hl hc cs.length 0 (by omega) (by omega)
  simp only [Int.natCast_zero] at IH
  simp only [↓GO, ↓DRW, GA, ren, renB, footX, refs, cellsV, cst, cstAt, nilC, idxAddr, E.load, E.store, binO, isC, bin, ibin, sbin, una, isShift, okCell, packV, lenV, blt, fnV, asArg, snapV, snapS, snapP, snapC, flatV, flatT, openK, layBack, allT, allZ, mkS, srcOf0, unN, idxV, nilEq, give, tupV, mkEnv, extV, pickV, LVS, OVS, LTS, TYS, PMS, pmT, Int.reduceToNat, Nat.reduceGT, ↓reduceIte, Nat.reduceAdd, Nat.reduceMul, Nat.reduceSub, Nat.reduceEqDiff, Nat.reduceLeDiff, Nat.reduceLT, Nat.reduceBEq, Int.reduceBEq, Int.reduceBNe, Int.reduceEq, Int.reduceLT, Int.reduceLE, Int.reduceGT, Int.reduceNeg, reduceCtorEq, LSum.encs_len, IH, bne_self_eq_false]
structure LPack where
  name : List UInt8
  version : List UInt8
  source : List UInt8
  sums : List LSum
  dev : Bool
  needs : List (List UInt8)
def LPack.enc (x : LPack) : List T := [.str x.name, .str x.version, .str x.source, .list 2 (LSum.encs x.sums), .bool x.dev, .list 1 (strs x.needs)]
def LPack.encs (l : List LPack) : List (List T) := l.map LPack.enc
def LPack.bulk (x : LPack) : Nat := x.name.length + x.version.length + x.source.length + (x.sums.length + LSum.bulks x.sums) + (x.needs.length + bulkS x.needs)
def LPack.bulks : List LPack → Nat
  | [] => 0
  | c :: cs => LPack.bulk c + LPack.bulks cs
def LPack.ok (x : LPack) : Prop := x.name.length ≤ 9223372036854775807 ∧ x.version.length ≤ 9223372036854775807 ∧ x.source.length ≤ 9223372036854775807 ∧ x.sums.length ≤ 9223372036854775807 ∧ (∀ y ∈ x.sums, y.ok) ∧ x.needs.length ≤ 9223372036854775807 ∧ (∀ s ∈ x.needs, s.length ≤ 9223372036854775807)
theorem LPack.enc_len (x : LPack) : x.enc.length = 6 := rfl
theorem LPack.enc_take (x : LPack) : x.enc.take 6 = x.enc := rfl
theorem LPack.encs_len (cs : List LPack) : (LPack.encs cs).length = cs.length := by simp [LPack.encs]
theorem LPack.encs_get (cs : List LPack) (i : Nat) (h : i < cs.length) : (LPack.encs cs)[i]? = some cs[i].enc := by simp [LPack.encs, h]
theorem LPack.bulks_drop (cs : List LPack) (i : Nat) (h : i < cs.length) : LPack.bulks (cs.drop i) = cs[i].bulk + LPack.bulks (cs.drop (i + 1)) := by
  rw [List.drop_eq_getElem_cons h]; rfl
theorem LPack.bulks_mem : ∀ {cs : List LPack} {c : LPack}, c ∈ cs → c.bulk ≤ LPack.bulks cs
  | c' :: cs, c, h => by
    simp only [LPack.bulks]
    rcases List.mem_cons.1 h with rfl | h
    · omega
    · have := LPack.bulks_mem h; omega
def SzPack (x : LPack) : Prop := ∀ n : Int, 0 ≤ n → n ≤ 1048576 → callPure (EV Tryz.prog pol) 210 [.agg (x.enc.map .t), .t (.int .i64 n)] = some (.t (.int .i64 (left n x.bulk)))
theorem c_szPack (x : LPack) (ho : x.ok) : SzPack x := by
  obtain ⟨name, version, source, sums, dev, needs⟩ := x
  intro n h0 h1
  simp only [LPack.ok] at ho
  simp only [LPack.enc, List.map_cons, List.map_nil]
  apply eq_call
  refine call_eq rfl Tryz.func210 rfl (by kernel_rfl) ?_
  unfold Tryz.f210
  have k_sums := c_szSumS sums (by first | exact ho.1 | simp_all) (fun c hc => c_szSum c (by simp_all))
  have k_needs := c_szStringS needs (by first | exact ho.1 | simp_all) (by first | exact ho.2 | simp_all)
  repeat' (first | (((first | with_reducible refine cK_any (fun hA => ?_) (fun hA => ?_) | with_reducible refine gW_any (fun hA => ?_) (fun hA => ?_)) <;> (try simp only [bne, Bool.not_eq_true', Bool.not_eq_false'] at hA) <;> (first | (have hP := Int.le_of_eq (eq_of_beq (α := Int) hA); have hQ := Int.le_of_eq (eq_of_beq (α := Int) hA).symm) | have hP := of_decide_eq_true hA | have hP := of_decide_eq_false hA | skip)) <;> (simp (disch := ((try simp only [List.length_cons, List.length_append, List.length_nil, List.length_map]); omega)) only [↓GO, ↓DRW, GA, ren, renB, footX, refs, cellsV, cst, cstAt, nilC, idxAddr, E.load, E.store, binO, isC, bin, ibin, sbin, una, isShift, okCell, packV, lenV, blt, fnV, asArg, snapV, snapS, snapP, snapC, flatV, flatT, openK, layBack, allT, allZ, mkS, srcOf0, unN, idxV, nilEq, give, tupV, mkEnv, extV, pickV, LVS, OVS, LTS, TYS, PMS, pmT, Int.reduceToNat, Nat.reduceGT, ↓reduceIte, Nat.reduceAdd, Nat.reduceMul, Nat.reduceSub, Nat.reduceEqDiff, Nat.reduceLeDiff, Nat.reduceLT, Nat.reduceBEq, Int.reduceBEq, Int.reduceBNe, Int.reduceEq, Int.reduceLT, Int.reduceLE, Int.reduceGT, Int.reduceNeg, reduceCtorEq, wrap_in, bne, left_lt, left_eq, k_sums, k_needs, *])) | (simp (disch := ((try simp only [List.length_cons, List.length_append, List.length_nil, List.length_map]); omega)) only [↓GO, ↓DRW, GA, ren, renB, footX, refs, cellsV, cst, cstAt, nilC, idxAddr, E.load, E.store, binO, isC, bin, ibin, sbin, una, isShift, okCell, packV, lenV, blt, fnV, asArg, snapV, snapS, snapP, snapC, flatV, flatT, openK, layBack, allT, allZ, mkS, srcOf0, unN, idxV, nilEq, give, tupV, mkEnv, extV, pickV, LVS, OVS, LTS, TYS, PMS, pmT, Int.reduceToNat, Nat.reduceGT, ↓reduceIte, Nat.reduceAdd, Nat.reduceMul, Nat.reduceSub, Nat.reduceEqDiff, Nat.reduceLeDiff, Nat.reduceLT, Nat.reduceBEq, Int.reduceBEq, Int.reduceBNe, Int.reduceEq, Int.reduceLT, Int.reduceLE, Int.reduceGT, Int.reduceNeg, reduceCtorEq, wrap_in, bne, left_lt, left_eq, k_sums, k_needs, *]))
  all_goals (refine left_leaf' ?_; simp only [LPack.bulk, and_true]; omega)
theorem l_szPackS (cs : List LPack) (hl : cs.length ≤ 9223372036854775807) (hc : ∀ c ∈ cs, SzPack c) : ∀ (d i : Nat) (n : Int), cs.length - i = d → i ≤ cs.length → 0 ≤ n → n ≤ 1048576 →
    (0 ≤ n - (LPack.bulks (cs.drop i) : Int) → EV Tryz.prog pol (.loop 113 122 0 [.t (.list 6 (LPack.encs cs)), .t (.int .i64 n), .t (.int .i64 (i : Int))] []) = some (.loop (.exit 0) [.t (.int .i64 (n - (LPack.bulks (cs.drop i) : Int))), .bad] [])) ∧
    (n - (LPack.bulks (cs.drop i) : Int) < 0 → ∃ v, EV Tryz.prog pol (.loop 113 122 0 [.t (.list 6 (LPack.encs cs)), .t (.int .i64 n), .t (.int .i64 (i : Int))] []) = some (.loop .ret [v, .t (.int .i64 (-1))] []))
  | 0, i, n, hd, hi, h0, h1 => by
    have hi' : i = cs.length := by omega
    subst hi'
    have hb : LPack.bulks (cs.drop cs.length) = 0 := by simp [LPack.bulks]
    rw [hb]
    refine ⟨fun _ => ?_, fun h => by omega⟩
    refine loop_eq Tryz.func113 rfl rfl ?_
    have c : decide (((cs.length : Nat) : Int) < ((cs.length : Nat) : Int)) = false := by simp
    simp only [↓GO, ↓DRW, GA, ren, renB, footX, refs, cellsV, cst, cstAt, nilC, idxAddr, E.load, E.store, binO, isC, bin, ibin, sbin, una, isShift, okCell, packV, lenV, blt, fnV, asArg, snapV, snapS, snapP, snapC, flatV, flatT, openK, layBack, allT, allZ, mkS, srcOf0, unN, idxV, nilEq, give, tupV, mkEnv, extV, pickV, LVS, OVS, LTS, TYS, PMS, pmT, Int.reduceToNat, Nat.reduceGT, ↓reduceIte, Nat.reduceAdd, Nat.reduceMul, Nat.reduceSub, Nat.reduceEqDiff, Nat.reduceLeDiff, Nat.reduceLT, Nat.reduceBEq, Int.reduceBEq, Int.reduceBNe, Int.reduceEq, Int.reduceLT, Int.reduceLE, Int.reduceGT, Int.reduceNeg, reduceCtorEq, LPack.encs_len, c]
    simp
  | d + 1, i, n, hd, hi, h0, h1 => by
    have hlt : i < cs.length := by omega
    rw [LPack.bulks_drop cs i hlt]
    have c : decide ((i : Int) < ((cs.length : Nat) : Int)) = true := by simp; omega
    have hcall := hc _ (List.getElem_mem hlt) n h0 h1
    have hget := LPack.encs_get cs i hlt
    generalize hci : cs[i] = ci at hcall hget
    obtain ⟨name, version, source, sums, dev, needs⟩ := ci
    simp only [LPack.enc, List.map_cons, List.map_nil] at hcall hget
    generalize hbu : (LPack.mk name version source sums dev needs).bulk = bu at hcall
    have IH := l_szPackS cs hl hc d (i + 1) (n - (bu : Int)) (by omega) (by omega)
    have e1 : (i : Int) + 1 = ((i + 1 : Nat) : Int) := by omega
    by_cases hneg : n - (bu : Int) < 0
    · refine ⟨fun h => by omega, fun _ => ⟨.t (.int .i64 (-1)), ?_⟩⟩
      refine loop_eq Tryz.func113 rfl rfl ?_
      have hle : left n bu = -1 := if_pos hneg
      rw [hle] at hcall
      simp (disch := omega) only [↓GO, ↓DRW, GA, ren, renB, footX, refs, cellsV, cst, cstAt, nilC, idxAddr, E.load, E.store, binO, isC, bin, ibin, sbin, una, isShift, okCell, packV, lenV, blt, fnV, asArg, snapV, snapS, snapP, snapC, flatV, flatT, openK, layBack, allT, allZ, mkS, srcOf0, unN, idxV, nilEq, give, tupV, mkEnv, extV, pickV, LVS, OVS, LTS, TYS, PMS, pmT, Int.reduceToNat, Nat.reduceGT, ↓reduceIte, Nat.reduceAdd, Nat.reduceMul, Nat.reduceSub, Nat.reduceEqDiff, Nat.reduceLeDiff, Nat.reduceLT, Nat.reduceBEq, Int.reduceBEq, Int.reduceBNe, Int.reduceEq, Int.reduceLT, Int.reduceLE, Int.reduceGT, Int.reduceNeg, reduceCtorEq, LPack.encs_len, c, hget, wrap_in, hcall]
    · have hle : left n bu = n - (bu : Int) := if_neg hneg
      rw [hle] at hcall
      have c2 : decide (n - (bu : Int) < 0) = false := by simpa using hneg
      obtain ⟨I1, I2⟩ := IH (by omega) (by omega)
      refine ⟨fun h => ?_, fun h => ?_⟩
      · refine loop_eq Tryz.func113 rfl rfl ?_
        simp (disch := omega) only [↓GO, ↓DRW, GA, ren, renB, footX, refs, cellsV, cst, cstAt, nilC, idxAddr, E.load, E.store, binO, isC, bin, ibin, sbin, una, isShift, okCell, packV, lenV, blt, fnV, asArg, snapV, snapS, snapP, snapC, flatV, flatT, openK, layBack, allT, allZ, mkS, srcOf0, unN, idxV, nilEq, give, tupV, mkEnv, extV, pickV, LVS, OVS, LTS, TYS, PMS, pmT, Int.reduceToNat, Nat.reduceGT, ↓reduceIte, Nat.reduceAdd, Nat.reduceMul, Nat.reduceSub, Nat.reduceEqDiff, Nat.reduceLeDiff, Nat.reduceLT, Nat.reduceBEq, Int.reduceBEq, Int.reduceBNe, Int.reduceEq, Int.reduceLT, Int.reduceLE, Int.reduceGT, Int.reduceNeg, reduceCtorEq, LPack.encs_len, c, hget, wrap_in, hcall, c2, e1]
        rw [I1 (by omega), show n - (bu : Int) - (LPack.bulks (cs.drop (i + 1)) : Int) = n - ((bu + LPack.bulks (cs.drop (i + 1)) : Nat) : Int) by omega]
      · obtain ⟨v, hv⟩ := I2 (by omega)
        refine ⟨v, ?_⟩
        refine loop_eq Tryz.func113 rfl rfl ?_
        simp (disch := omega) only [↓GO, ↓DRW, GA, ren, renB, footX, refs, cellsV, cst, cstAt, nilC, idxAddr, E.load, E.store, binO, isC, bin, ibin, sbin, una, isShift, okCell, packV, lenV, blt, fnV, asArg, snapV, snapS, snapP, snapC, flatV, flatT, openK, layBack, allT, allZ, mkS, srcOf0, unN, idxV, nilEq, give, tupV, mkEnv, extV, pickV, LVS, OVS, LTS, TYS, PMS, pmT, Int.reduceToNat, Nat.reduceGT, ↓reduceIte, Nat.reduceAdd, Nat.reduceMul, Nat.reduceSub, Nat.reduceEqDiff, Nat.reduceLeDiff, Nat.reduceLT, Nat.reduceBEq, Int.reduceBEq, Int.reduceBNe, Int.reduceEq, Int.reduceLT, Int.reduceLE, Int.reduceGT, Int.reduceNeg, reduceCtorEq, LPack.encs_len, c, hget, wrap_in, hcall, c2, e1]
        exact hv
theorem c_szPackS (cs : List LPack) (hl : cs.length ≤ 9223372036854775807) (hc : ∀ c ∈ cs, SzPack c) (n : Int) (h0 : 0 ≤ n) (h1 : n ≤ 1048576) :
    callPure (EV Tryz.prog pol) 113 [.t (.list 6 (LPack.encs cs)), .t (.int .i64 n)] = some (.t (.int .i64 (left n (cs.length + LPack.bulks cs)))) := by
  apply eq_call
  refine call_eq rfl Tryz.func113 rfl (by kernel_rfl) ?_
  unfold Tryz.f113
  by_cases hneg : n - (cs.length : Int) < 0
  · have c2 : decide (n - (cs.length : Int) < 0) = true := by simpa using hneg
    simp (disch := omega) only [↓GO, ↓DRW, GA, ren, renB, footX, refs, cellsV, cst, cstAt, nilC, idxAddr, E.load, E.store, binO, isC, bin, ibin, sbin, una, isShift, okCell, packV, lenV, blt, fnV, asArg, snapV, snapS, snapP, snapC, flatV, flatT, openK, layBack, allT, allZ, mkS, srcOf0, unN, idxV, nilEq, give, tupV, mkEnv, extV, pickV, LVS, OVS, LTS, TYS, PMS, pmT, Int.reduceToNat, Nat.reduceGT, ↓reduceIte, Nat.reduceAdd, Nat.reduceMul, Nat.reduceSub, Nat.reduceEqDiff, Nat.reduceLeDiff, Nat.reduceLT, Nat.reduceBEq, Int.reduceBEq, Int.reduceBNe, Int.reduceEq, Int.reduceLT, Int.reduceLE, Int.reduceGT, Int.reduceNeg, reduceCtorEq, LPack.encs_len, wrap_in, c2]
    rw [left, if_pos (by omega)]
  · have c2 : decide (n - (cs.length : Int) < 0) = false := by simpa using hneg
    obtain ⟨I1, I2⟩ := l_szPackS cs hl hc cs.length 0 (n - (cs.length : Int)) (by omega) (by omega) (by omega) (by omega)
    simp only [List.drop_zero, Int.natCast_zero] at I1 I2
    by_cases hn2 : n - (cs.length : Int) - (LPack.bulks cs : Int) < 0
    · obtain ⟨v, hv⟩ := I2 hn2
      simp (disch := omega) only [↓GO, ↓DRW, GA, ren, renB, footX, refs, cellsV, cst, cstAt, nilC, idxAddr, E.load, E.store, binO, isC, bin, ibin, sbin, una, isShift, okCell, packV, lenV, blt, fnV, asArg, snapV, snapS, snapP, snapC, flatV, flatT, openK, layBack, allT, allZ, mkS, srcOf0, unN, idxV, nilEq, give, tupV, mkEnv, extV, pickV, LVS, OVS, LTS, TYS, PMS, pmT, Int.reduceToNat, Nat.reduceGT, ↓reduceIte, Nat.reduceAdd, Nat.reduceMul, Nat.reduceSub, Nat.reduceEqDiff, Nat.reduceLeDiff, Nat.reduceLT, Nat.reduceBEq, Int.reduceBEq, Int.reduceBNe, Int.reduceEq, Int.reduceLT, Int.reduceLE, Int.reduceGT, Int.reduceNeg, reduceCtorEq, LPack.encs_len, wrap_in, c2, hv]
      rw [left, if_pos (by omega)]
    · simp (disch := omega) only [↓GO, ↓DRW, GA, ren, renB, footX, refs, cellsV, cst, cstAt, nilC, idxAddr, E.load, E.store, binO, isC, bin, ibin, sbin, una, isShift, okCell, packV, lenV, blt, fnV, asArg, snapV, snapS, snapP, snapC, flatV, flatT, openK, layBack, allT, allZ, mkS, srcOf0, unN, idxV, nilEq, give, tupV, mkEnv, extV, pickV, LVS, OVS, LTS, TYS, PMS, pmT, Int.reduceToNat, Nat.reduceGT, ↓reduceIte, Nat.reduceAdd, Nat.reduceMul, Nat.reduceSub, Nat.reduceEqDiff, Nat.reduceLeDiff, Nat.reduceLT, Nat.reduceBEq, Int.reduceBEq, Int.reduceBNe, Int.reduceEq, Int.reduceLT, Int.reduceLE, Int.reduceGT, Int.reduceNeg, reduceCtorEq, LPack.encs_len, wrap_in, c2, I1 (by omega)]
      rw [left, if_neg (by omega), show n - (cs.length : Int) - (LPack.bulks cs : Int) = n - ((cs.length + LPack.bulks cs : Nat) : Int) by omega]
def ToPack (x : LPack) : Prop := callPure (EV Tryz.prog pol) 212 [.agg (x.enc.map .t)] = some (.agg (x.enc.map .t))
theorem c_toPack (x : LPack) (ho : x.bulk ≤ 1048576) : ToPack x := by
  obtain ⟨name, version, source, sums, dev, needs⟩ := x
  simp only [LPack.bulk] at ho
  simp only [ToPack, LPack.enc, List.map_cons, List.map_nil]
  apply eq_call
  refine call_eq rfl Tryz.func212 rfl (by kernel_rfl) ?_
  unfold Tryz.f212
  simp only [↓GO, ↓DRW, GA, ren, renB, footX, refs, cellsV, cst, cstAt, nilC, idxAddr, E.load, E.store, binO, isC, bin, ibin, sbin, una, isShift, okCell, packV, lenV, blt, fnV, asArg, snapV, snapS, snapP, snapC, flatV, flatT, openK, layBack, allT, allZ, mkS, srcOf0, unN, idxV, nilEq, give, tupV, mkEnv, extV, pickV, LVS, OVS, LTS, TYS, PMS, pmT, Int.reduceToNat, Nat.reduceGT, ↓reduceIte, Nat.reduceAdd, Nat.reduceMul, Nat.reduceSub, Nat.reduceEqDiff, Nat.reduceLeDiff, Nat.reduceLT, Nat.reduceBEq, Int.reduceBEq, Int.reduceBNe, Int.reduceEq, Int.reduceLT, Int.reduceLE, Int.reduceGT, Int.reduceNeg, reduceCtorEq, c_toSumS sums (by omega) (fun c hc => c_toSum c (by have := LSum.bulks_mem hc; omega)), c_toStringS needs (by omega)]
def zPack : List T := [.str [], .str [], .str [], .list 2 [], .bool false, .list 1 []]
theorem l_toPackS (cs : List LPack) (hl : cs.length ≤ 1048576) (hc : ∀ c ∈ cs, ToPack c) : ∀ (d i : Nat), cs.length - i = d → i ≤ cs.length →
    EV Tryz.prog pol (.loop 117 58 0 [.t (.list 6 (LPack.encs cs)), .sl 0 0 cs.length (some cs.length), .t (.int .i64 (i : Int))] [.ts 6 (fillE (LPack.encs cs) zPack i)]) = some (.loop (.exit 0) [.sl 0 0 cs.length (some cs.length)] [.ts 6 (LPack.encs cs)])
  | 0, i, hd, hi => by
    have hi' : i = cs.length := by omega
    subst hi'
    refine loop_eq Tryz.func117 rfl rfl ?_
    have c : decide (((cs.length : Nat) : Int) < ((cs.length : Nat) : Int)) = false := by simp
    have hf : fillE (LPack.encs cs) zPack cs.length = LPack.encs cs := by rw [← LPack.encs_len cs]; exact fillE_all _ _
    simp only [↓GO, ↓DRW, GA, ren, renB, footX, refs, cellsV, cst, cstAt, nilC, idxAddr, E.load, E.store, binO, isC, bin, ibin, sbin, una, isShift, okCell, packV, lenV, blt, fnV, asArg, snapV, snapS, snapP, snapC, flatV, flatT, openK, layBack, allT, allZ, mkS, srcOf0, unN, idxV, nilEq, give, tupV, mkEnv, extV, pickV, LVS, OVS, LTS, TYS, PMS, pmT, Int.reduceToNat, Nat.reduceGT, ↓reduceIte, Nat.reduceAdd, Nat.reduceMul, Nat.reduceSub, Nat.reduceEqDiff, Nat.reduceLeDiff, Nat.reduceLT, Nat.reduceBEq, Int.reduceBEq, Int.reduceBNe, Int.reduceEq, Int.reduceLT, Int.reduceLE, Int.reduceGT, Int.reduceNeg, reduceCtorEq, LPack.encs_len, c, hf]
  | d + 1, i, hd, hi => by
    have hlt : i < cs.length := by omega
    have hlt' : i < (LPack.encs cs).length := by rw [LPack.encs_len]; exact hlt
    have c : decide ((i : Int) < ((cs.length : Nat) : Int)) = true := by simp; omega
    have c0 : decide ((0 : Int) ≤ (i : Int)) = true := by simp
    have IH := l_toPackS cs hl hc d (i + 1) (by omega) (by omega)
    have e1 : (i : Int) + 1 = ((i + 1 : Nat) : Int) := by omega
    have hg : (fillE (LPack.encs cs) zPack i)[i]? = some [.str [], .str [], .str [], .list 2 [], .bool false, .list 1 []] := fillE_get (LPack.encs cs) zPack i hlt'
    have hs := fillE_set (LPack.encs cs) zPack i hlt'
    have hx : (LPack.encs cs)[i] = cs[i].enc := by simp [LPack.encs]
    rw [hx] at hs
    have hcall := hc _ (List.getElem_mem hlt)
    have hget := LPack.encs_get cs i hlt
    generalize hci : cs[i] = ci at hcall hget hs
    obtain ⟨name, version, source, sums, dev, needs⟩ := ci
    simp only [ToPack, LPack.enc, List.map_cons, List.map_nil] at hcall hget hs
    refine loop_eq Tryz.func117 rfl rfl ?_
    simp (disch := omega) only [↓GO, ↓DRW, GA, ren, renB, footX, refs, cellsV, cst, cstAt, nilC, idxAddr, E.load, E.store, binO, isC, bin, ibin, sbin, una, isShift, okCell, packV, lenV, blt, fnV, asArg, snapV, snapS, snapP, snapC, flatV, flatT, openK, layBack, allT, allZ, mkS, srcOf0, unN, idxV, nilEq, give, tupV, mkEnv, extV, pickV, LVS, OVS, LTS, TYS, PMS, pmT, Int.reduceToNat, Nat.reduceGT, ↓reduceIte, Nat.reduceAdd, Nat.reduceMul, Nat.reduceSub, Nat.reduceEqDiff, Nat.reduceLeDiff, Nat.reduceLT, Nat.reduceBEq, Int.reduceBEq, Int.reduceBNe, Int.reduceEq, Int.reduceLT, Int.reduceLE, Int.reduceGT, Int.reduceNeg, reduceCtorEq, LPack.encs_len, c, c0, hget, wrap_in, e1, hg, Int.toNat_natCast, hcall, hs]
    exact IH
theorem c_toPackS (cs : List LPack) (hl : cs.length ≤ 1048576) (hc : ∀ c ∈ cs, ToPack c) : callPure (EV Tryz.prog pol) 117 [.t (.list 6 (LPack.encs cs))] = some (.t (.list 6 (LPack.encs cs))) := by
  apply eq_call
  refine call_eq rfl Tryz.func117 rfl (by kernel_rfl) ?_
  unfold Tryz.f117
  have h1 : ¬ ((cs.length : Int) < 0) := by omega
  have h2 : ¬ (cs.length * 104 > 140737488355328) := by omega
  have h3 : ¬ (cs.length > 140737488355328) := by omega
  have hz : List.replicate cs.length [T.str [], .str [], .str [], .list 2 [], .bool false, .list 1 []] = fillE (LPack.encs cs) zPack 0 := by rw [fillE_zero, LPack.encs_len]; rfl
  have IH := l_toPackS cs hl hc cs.length 0 (by omega) (by omega)
  simp only [Int.natCast_zero] at IH
  have ht : (LPack.encs cs).take cs.length = LPack.encs cs := by rw [← LPack.encs_len cs]; simp
  simp (disch := omega) only [↓GO, ↓DRW, GA, ren, renB, footX, refs, cellsV, cst, cstAt, nilC, idxAddr, E.load, E.store, binO, isC, bin, ibin, sbin, una, isShift, okCell, packV, lenV, blt, fnV, asArg, snapV, snapS, snapP, snapC, flatV, flatT, openK, layBack, allT, allZ, mkS, srcOf0, unN, idxV, nilEq, give, tupV, mkEnv, extV, pickV, LVS, OVS, LTS, TYS, PMS, pmT, Int.reduceToNat, Nat.reduceGT, ↓reduceIte, Nat.reduceAdd, Nat.reduceMul, Nat.reduceSub, Nat.reduceEqDiff, Nat.reduceLeDiff, Nat.reduceLT, Nat.reduceBEq, Int.reduceBEq, Int.reduceBNe, Int.reduceEq, Int.reduceLT, Int.reduceLE, Int.reduceGT, Int.reduceNeg, reduceCtorEq, LPack.encs_len, Int.toNat_natCast, h1, h2, h3, hz, IH, ne_eq, not_true_eq_false, ht]
def EqPack (x : LPack) : Prop := callPure (EV Tryz.prog pol) 214 [.agg (x.enc.map .t), .agg (x.enc.map .t)] = some (.t (.bool true))
theorem c_eqPack (x : LPack) (ho : x.bulk ≤ 1048576) : EqPack x := by
  obtain ⟨name, version, source, sums, dev, needs⟩ := x
  simp only [LPack.bulk] at ho
  simp only [EqPack, LPack.enc, List.map_cons, List.map_nil]
  apply eq_call
  refine call_eq rfl Tryz.func214 rfl (by kernel_rfl) ?_
  unfold Tryz.f214
  simp only [↓GO, ↓DRW, GA, ren, renB, footX, refs, cellsV, cst, cstAt, nilC, idxAddr, E.load, E.store, binO, isC, bin, ibin, sbin, una, isShift, okCell, packV, lenV, blt, fnV, asArg, snapV, snapS, snapP, snapC, flatV, flatT, openK, layBack, allT, allZ, mkS, srcOf0, unN, idxV, nilEq, give, tupV, mkEnv, extV, pickV, LVS, OVS, LTS, TYS, PMS, pmT, Int.reduceToNat, Nat.reduceGT, ↓reduceIte, Nat.reduceAdd, Nat.reduceMul, Nat.reduceSub, Nat.reduceEqDiff, Nat.reduceLeDiff, Nat.reduceLT, Nat.reduceBEq, Int.reduceBEq, Int.reduceBNe, Int.reduceEq, Int.reduceLT, Int.reduceLE, Int.reduceGT, Int.reduceNeg, reduceCtorEq, bne_self_eq_false, c_eqSumS sums (by omega) (fun c hc => c_eqSum c (by have := LSum.bulks_mem hc; omega)), c_eqStringS needs (by omega)]
theorem l_eqPackS (cs : List LPack) (hl : cs.length ≤ 1048576) (hc : ∀ c ∈ cs, EqPack c) : ∀ (d i : Nat), cs.length - i = d → i ≤ cs.length →
    EV Tryz.prog pol (.loop 125 58 0 [.t (.list 6 (LPack.encs cs)), .t (.list 6 (LPack.encs cs)), .t (.int .i64 (i : Int))] []) = some (.loop (.exit 0) [.bad] [])
  | 0, i, hd, hi => by
    have hi' : i = cs.length := by omega
    subst hi'
    refine loop_eq Tryz.func125 rfl rfl ?_
    have c : decide (((cs.length : Nat) : Int) < ((cs.length : Nat) : Int)) = false := by simp
    simp only [↓GO, ↓DRW, GA, ren, renB, footX, refs, cellsV, cst, cstAt, nilC, idxAddr, E.load, E.store, binO, isC, bin, ibin, sbin, una, isShift, okCell, packV, lenV, blt, fnV, asArg, snapV, snapS, snapP, snapC, flatV, flatT, openK, layBack, allT, allZ, mkS, srcOf0, unN, idxV, nilEq, give, tupV, mkEnv, extV, pickV, LVS, OVS, LTS, TYS, PMS, pmT, Int.reduceToNat, Nat.reduceGT, ↓reduceIte, Nat.reduceAdd, Nat.reduceMul, Nat.reduceSub, Nat.reduceEqDiff, Nat.reduceLeDiff, Nat.reduceLT, Nat.reduceBEq, Int.reduceBEq, Int.reduceBNe, Int.reduceEq, Int.reduceLT, Int.reduceLE, Int.reduceGT, Int.reduceNeg, reduceCtorEq, LPack.encs_len, c]
  | d + 1, i, hd, hi => by
    have hlt : i < cs.length := by omega
    have c : decide ((i : Int) < ((cs.length : Nat) : Int)) = true := by simp; omega
    have IH := l_eqPackS cs hl hc d (i + 1) (by omega) (by omega)
    have e1 : (i : Int) + 1 = ((i + 1 : Nat) : Int) := by omega
    have hcall := hc _ (List.getElem_mem hlt)
    have hget := LPack.encs_get cs i hlt
    generalize hci : cs[i] = ci at hcall hget
    obtain ⟨name, version, source, sums, dev, needs⟩ := ci
    simp only [EqPack, LPack.enc, List.map_cons, List.map_nil] at hcall hget
    refine loop_eq Tryz.func125 rfl rfl ?_
    simp (disch := omega) only [↓GO, ↓DRW, GA, ren, renB, footX, refs, cellsV, cst, cstAt, nilC, idxAddr, E.load, E.store, binO, isC, bin, ibin, sbin, una, isShift, okCell, packV, lenV, blt, fnV, asArg, snapV, snapS, snapP, snapC, flatV, flatT, openK, layBack, allT, allZ, mkS, srcOf0, unN, idxV, nilEq, give, tupV, mkEnv, extV, pickV, LVS, OVS, LTS, TYS, PMS, pmT, Int.reduceToNat, Nat.reduceGT, ↓reduceIte, Nat.reduceAdd, Nat.reduceMul, Nat.reduceSub, Nat.reduceEqDiff, Nat.reduceLeDiff, Nat.reduceLT, Nat.reduceBEq, Int.reduceBEq, Int.reduceBNe, Int.reduceEq, Int.reduceLT, Int.reduceLE, Int.reduceGT, Int.reduceNeg, reduceCtorEq, LPack.encs_len, c, hget, wrap_in, e1, hcall]
    exact IH
theorem c_eqPackS (cs : List LPack) (hl : cs.length ≤ 1048576) (hc : ∀ c ∈ cs, EqPack c) : callPure (EV Tryz.prog pol) 125 [.t (.list 6 (LPack.encs cs)), .t (.list 6 (LPack.encs cs))] = some (.t (.bool true)) := by
  apply eq_call
  refine call_eq rfl Tryz.func125 rfl (by kernel_rfl) ?_
  unfold Tryz.f125
  have IH := l_eqPackS cs hl hc cs.length 0 (by omega) (by omega)
  simp only [Int.natCast_zero] at IH
  simp only [↓GO, ↓DRW, GA, ren, renB, footX, refs, cellsV, cst, cstAt, nilC, idxAddr, E.load, E.store, binO, isC, bin, ibin, sbin, una, isShift, okCell, packV, lenV, blt, fnV, asArg, snapV, snapS, snapP, snapC, flatV, flatT, openK, layBack, allT, allZ, mkS, srcOf0, unN, idxV, nilEq, give, tupV, mkEnv, extV, pickV, LVS, OVS, LTS, TYS, PMS, pmT, Int.reduceToNat, Nat.reduceGT, ↓reduceIte, Nat.reduceAdd, Nat.reduceMul, Nat.reduceSub, Nat.reduceEqDiff, Nat.reduceLeDiff, Nat.reduceLT, Nat.reduceBEq, Int.reduceBEq, Int.reduceBNe, Int.reduceEq, Int.reduceLT, Int.reduceLE, Int.reduceGT, Int.reduceNeg, reduceCtorEq, LPack.encs_len, IH, bne_self_eq_false]
structure LGraph where
  top : List (List UInt8)
  packs : List LPack
def LGraph.enc (x : LGraph) : List T := [.list 1 (strs x.top), .list 6 (LPack.encs x.packs)]
def LGraph.encs (l : List LGraph) : List (List T) := l.map LGraph.enc
def LGraph.bulk (x : LGraph) : Nat := (x.top.length + bulkS x.top) + (x.packs.length + LPack.bulks x.packs)
def LGraph.bulks : List LGraph → Nat
  | [] => 0
  | c :: cs => LGraph.bulk c + LGraph.bulks cs
def LGraph.ok (x : LGraph) : Prop := x.top.length ≤ 9223372036854775807 ∧ (∀ s ∈ x.top, s.length ≤ 9223372036854775807) ∧ x.packs.length ≤ 9223372036854775807 ∧ (∀ y ∈ x.packs, y.ok)
theorem LGraph.enc_len (x : LGraph) : x.enc.length = 2 := rfl
theorem LGraph.enc_take (x : LGraph) : x.enc.take 2 = x.enc := rfl
theorem LGraph.encs_len (cs : List LGraph) : (LGraph.encs cs).length = cs.length := by simp [LGraph.encs]
theorem LGraph.encs_get (cs : List LGraph) (i : Nat) (h : i < cs.length) : (LGraph.encs cs)[i]? = some cs[i].enc := by simp [LGraph.encs, h]
theorem LGraph.bulks_drop (cs : List LGraph) (i : Nat) (h : i < cs.length) : LGraph.bulks (cs.drop i) = cs[i].bulk + LGraph.bulks (cs.drop (i + 1)) := by
  rw [List.drop_eq_getElem_cons h]; rfl
theorem LGraph.bulks_mem : ∀ {cs : List LGraph} {c : LGraph}, c ∈ cs → c.bulk ≤ LGraph.bulks cs
  | c' :: cs, c, h => by
    simp only [LGraph.bulks]
    rcases List.mem_cons.1 h with rfl | h
    · omega
    · have := LGraph.bulks_mem h; omega
def SzGraph (x : LGraph) : Prop := ∀ n : Int, 0 ≤ n → n ≤ 1048576 → callPure (EV Tryz.prog pol) 44 [.agg (x.enc.map .t), .t (.int .i64 n)] = some (.t (.int .i64 (left n x.bulk)))
theorem c_szGraph (x : LGraph) (ho : x.ok) : SzGraph x := by
  obtain ⟨top, packs⟩ := x
  intro n h0 h1
  simp only [LGraph.ok] at ho
  simp only [LGraph.enc, List.map_cons, List.map_nil]
  apply eq_call
  refine call_eq rfl Tryz.func44 rfl (by kernel_rfl) ?_
  unfold Tryz.f44
  have k_top := c_szStringS top (by first | exact ho.1 | simp_all) (by first | exact ho.2 | simp_all)
  have k_packs := c_szPackS packs (by first | exact ho.1 | simp_all) (fun c hc => c_szPack c (by simp_all))
  repeat' (first | (((first | with_reducible refine cK_any (fun hA => ?_) (fun hA => ?_) | with_reducible refine gW_any (fun hA => ?_) (fun hA => ?_)) <;> (try simp only [bne, Bool.not_eq_true', Bool.not_eq_false'] at hA) <;> (first | (have hP := Int.le_of_eq (eq_of_beq (α := Int) hA); have hQ := Int.le_of_eq (eq_of_beq (α := Int) hA).symm) | have hP := of_decide_eq_true hA | have hP := of_decide_eq_false hA | skip)) <;> (simp (disch := ((try simp only [List.length_cons, List.length_append, List.length_nil, List.length_map]); omega)) only [↓GO, ↓DRW, GA, ren, renB, footX, refs, cellsV, cst, cstAt, nilC, idxAddr, E.load, E.store, binO, isC, bin, ibin, sbin, una, isShift, okCell, packV, lenV, blt, fnV, asArg, snapV, snapS, snapP, snapC, flatV, flatT, openK, layBack, allT, allZ, mkS, srcOf0, unN, idxV, nilEq, give, tupV, mkEnv, extV, pickV, LVS, OVS, LTS, TYS, PMS, pmT, Int.reduceToNat, Nat.reduceGT, ↓reduceIte, Nat.reduceAdd, Nat.reduceMul, Nat.reduceSub, Nat.reduceEqDiff, Nat.reduceLeDiff, Nat.reduceLT, Nat.reduceBEq, Int.reduceBEq, Int.reduceBNe, Int.reduceEq, Int.reduceLT, Int.reduceLE, Int.reduceGT, Int.reduceNeg, reduceCtorEq, wrap_in, bne, left_lt, left_eq, k_top, k_packs, *])) | (simp (disch := ((try simp only [List.length_cons, List.length_append, List.length_nil, List.length_map]); omega)) only [↓GO, ↓DRW, GA, ren, renB, footX, refs, cellsV, cst, cstAt, nilC, idxAddr, E.load, E.store, binO, isC, bin, ibin, sbin, una, isShift, okCell, packV, lenV, blt, fnV, asArg, snapV, snapS, snapP, snapC, flatV, flatT, openK, layBack, allT, allZ, mkS, srcOf0, unN, idxV, nilEq, give, tupV, mkEnv, extV, pickV, LVS, OVS, LTS, TYS, PMS, pmT, Int.reduceToNat, Nat.reduceGT, ↓reduceIte, Nat.reduceAdd, Nat.reduceMul, Nat.reduceSub, Nat.reduceEqDiff, Nat.reduceLeDiff, Nat.reduceLT, Nat.reduceBEq, Int.reduceBEq, Int.reduceBNe, Int.reduceEq, Int.reduceLT, Int.reduceLE, Int.reduceGT, Int.reduceNeg, reduceCtorEq, wrap_in, bne, left_lt, left_eq, k_top, k_packs, *]))
  all_goals (refine left_leaf' ?_; simp only [LGraph.bulk, and_true]; omega)
def ToGraph (x : LGraph) : Prop := callPure (EV Tryz.prog pol) 46 [.agg (x.enc.map .t)] = some (.agg (x.enc.map .t))
theorem c_toGraph (x : LGraph) (ho : x.bulk ≤ 1048576) : ToGraph x := by
  obtain ⟨top, packs⟩ := x
  simp only [LGraph.bulk] at ho
  simp only [ToGraph, LGraph.enc, List.map_cons, List.map_nil]
  apply eq_call
  refine call_eq rfl Tryz.func46 rfl (by kernel_rfl) ?_
  unfold Tryz.f46
  simp only [↓GO, ↓DRW, GA, ren, renB, footX, refs, cellsV, cst, cstAt, nilC, idxAddr, E.load, E.store, binO, isC, bin, ibin, sbin, una, isShift, okCell, packV, lenV, blt, fnV, asArg, snapV, snapS, snapP, snapC, flatV, flatT, openK, layBack, allT, allZ, mkS, srcOf0, unN, idxV, nilEq, give, tupV, mkEnv, extV, pickV, LVS, OVS, LTS, TYS, PMS, pmT, Int.reduceToNat, Nat.reduceGT, ↓reduceIte, Nat.reduceAdd, Nat.reduceMul, Nat.reduceSub, Nat.reduceEqDiff, Nat.reduceLeDiff, Nat.reduceLT, Nat.reduceBEq, Int.reduceBEq, Int.reduceBNe, Int.reduceEq, Int.reduceLT, Int.reduceLE, Int.reduceGT, Int.reduceNeg, reduceCtorEq, c_toStringS top (by omega), c_toPackS packs (by omega) (fun c hc => c_toPack c (by have := LPack.bulks_mem hc; omega))]
def EqGraph (x : LGraph) : Prop := callPure (EV Tryz.prog pol) 48 [.agg (x.enc.map .t), .agg (x.enc.map .t)] = some (.t (.bool true))
theorem c_eqGraph (x : LGraph) (ho : x.bulk ≤ 1048576) : EqGraph x := by
  obtain ⟨top, packs⟩ := x
  simp only [LGraph.bulk] at ho
  simp only [EqGraph, LGraph.enc, List.map_cons, List.map_nil]
  apply eq_call
  refine call_eq rfl Tryz.func48 rfl (by kernel_rfl) ?_
  unfold Tryz.f48
  simp only [↓GO, ↓DRW, GA, ren, renB, footX, refs, cellsV, cst, cstAt, nilC, idxAddr, E.load, E.store, binO, isC, bin, ibin, sbin, una, isShift, okCell, packV, lenV, blt, fnV, asArg, snapV, snapS, snapP, snapC, flatV, flatT, openK, layBack, allT, allZ, mkS, srcOf0, unN, idxV, nilEq, give, tupV, mkEnv, extV, pickV, LVS, OVS, LTS, TYS, PMS, pmT, Int.reduceToNat, Nat.reduceGT, ↓reduceIte, Nat.reduceAdd, Nat.reduceMul, Nat.reduceSub, Nat.reduceEqDiff, Nat.reduceLeDiff, Nat.reduceLT, Nat.reduceBEq, Int.reduceBEq, Int.reduceBNe, Int.reduceEq, Int.reduceLT, Int.reduceLE, Int.reduceGT, Int.reduceNeg, reduceCtorEq, bne_self_eq_false, c_eqStringS top (by omega), c_eqPackS packs (by omega) (fun c hc => c_eqPack c (by have := LPack.bulks_mem hc; omega))]
end Go.Proofs.YtkpmachalipmpaaGreatDoor
/- The library's searches, at packs and sums. Conditions: those of each lemma. -/
namespace Go.Proofs.YtkpmachalipmpaaGreatDoor
open E
set_option linter.unusedSimpArgs false
set_option linter.unusedVariables false
set_option maxRecDepth 100000
theorem l_idxF_Pack (g : Nat) (caps : List T) (p : LPack → Bool) (es : List LPack) (hl : es.length ≤ 4611686018427387904) (hp : ∀ x ∈ es, callPure (EV Tryz.prog pol) g (.agg (x.enc.map .t) :: caps.map .t) = some (.t (.bool (p x)))) : ∀ (rest pre : List LPack), es = pre ++ rest →
    EV Tryz.prog pol (.loop 152 26 0 [.t (.list 6 (LPack.encs es)), .t (.fn g caps), .t (.int .i64 (es.length : Int)), .t (.int .i64 (pre.length : Int))] []) = some (match fidx p rest pre.length with | some i => .loop .ret [.t (.int .i64 (i : Int))] [] | none => .loop (.exit 0) [.bad] [])
  | [], pre, hs => by
    have c : decide ((pre.length : Int) < (es.length : Int)) = false := by simp [hs]
    refine loop_eq Tryz.func152 rfl rfl ?_
    simp only [↓GO, ↓DRW, GA, ren, renB, footX, refs, cellsV, cst, cstAt, nilC, idxAddr, E.load, E.store, binO, isC, bin, ibin, sbin, una, isShift, okCell, packV, lenV, blt, fnV, asArg, snapV, snapS, snapP, snapC, flatV, flatT, openK, layBack, allT, allZ, mkS, srcOf0, unN, idxV, nilEq, give, tupV, mkEnv, extV, pickV, LVS, OVS, LTS, TYS, PMS, pmT, Int.reduceToNat, Nat.reduceGT, ↓reduceIte, Nat.reduceAdd, Nat.reduceMul, Nat.reduceSub, Nat.reduceEqDiff, Nat.reduceLeDiff, Nat.reduceLT, Nat.reduceBEq, Int.reduceBEq, Int.reduceBNe, Int.reduceEq, Int.reduceLT, Int.reduceLE, Int.reduceGT, Int.reduceNeg, reduceCtorEq, c, fidx]
  | b :: rest, pre, hs => by
    have c : decide ((pre.length : Int) < (es.length : Int)) = true := by simp [hs]; omega
    have hi : pre.length < es.length := by rw [hs]; simp
    have hget := LPack.encs_get es pre.length hi
    have hgb : es[pre.length] = b := by simp [hs]
    rw [hgb] at hget
    have hb := hp b (by rw [hs]; simp)
    have e1 : (pre.length : Int) + 1 = ((pre ++ [b]).length : Int) := by simp
    have IH := l_idxF_Pack g caps p es hl hp rest (pre ++ [b]) (by rw [hs]; simp)
    refine loop_eq Tryz.func152 rfl rfl ?_
    simp only [fidx]
    cases hpb : p b with
    | true =>
      rw [hpb] at hb
      simp (disch := omega) only [↓GO, ↓DRW, GA, ren, renB, footX, refs, cellsV, cst, cstAt, nilC, idxAddr, E.load, E.store, binO, isC, bin, ibin, sbin, una, isShift, okCell, packV, lenV, blt, fnV, asArg, snapV, snapS, snapP, snapC, flatV, flatT, openK, layBack, allT, allZ, mkS, srcOf0, unN, idxV, nilEq, give, tupV, mkEnv, extV, pickV, LVS, OVS, LTS, TYS, PMS, pmT, Int.reduceToNat, Nat.reduceGT, ↓reduceIte, Nat.reduceAdd, Nat.reduceMul, Nat.reduceSub, Nat.reduceEqDiff, Nat.reduceLeDiff, Nat.reduceLT, Nat.reduceBEq, Int.reduceBEq, Int.reduceBNe, Int.reduceEq, Int.reduceLT, Int.reduceLE, Int.reduceGT, Int.reduceNeg, reduceCtorEq, LPack.encs_len, c, hget, LPack.enc_len, LPack.enc_take, wrap_in, hb]
    | false =>
      rw [hpb] at hb
      simp (disch := omega) only [↓GO, ↓DRW, GA, ren, renB, footX, refs, cellsV, cst, cstAt, nilC, idxAddr, E.load, E.store, binO, isC, bin, ibin, sbin, una, isShift, okCell, packV, lenV, blt, fnV, asArg, snapV, snapS, snapP, snapC, flatV, flatT, openK, layBack, allT, allZ, mkS, srcOf0, unN, idxV, nilEq, give, tupV, mkEnv, extV, pickV, LVS, OVS, LTS, TYS, PMS, pmT, Int.reduceToNat, Nat.reduceGT, ↓reduceIte, Nat.reduceAdd, Nat.reduceMul, Nat.reduceSub, Nat.reduceEqDiff, Nat.reduceLeDiff, Nat.reduceLT, Nat.reduceBEq, Int.reduceBEq, Int.reduceBNe, Int.reduceEq, Int.reduceLT, Int.reduceLE, Int.reduceGT, Int.reduceNeg, reduceCtorEq, LPack.encs_len, c, hget, LPack.enc_len, LPack.enc_take, wrap_in, hb]
      rw [e1, IH]
      simp
theorem c_idxF_Pack (g : Nat) (caps : List T) (p : LPack → Bool) (es : List LPack) (hl : es.length ≤ 4611686018427387904) (hp : ∀ x ∈ es, callPure (EV Tryz.prog pol) g (.agg (x.enc.map .t) :: caps.map .t) = some (.t (.bool (p x)))) :
    callPure (EV Tryz.prog pol) 152 [.t (.list 6 (LPack.encs es)), .t (.fn g caps)] = some (.t (.int .i64 (ixI (fidx p es 0)))) := by
  have IH := l_idxF_Pack g caps p es hl hp es [] rfl
  simp only [List.length_nil, Int.natCast_zero] at IH
  apply eq_call
  refine call_eq rfl Tryz.func152 rfl (by kernel_rfl) ?_
  unfold Tryz.f152
  cases hf : fidx p es 0 with
  | none => rw [hf] at IH; simp only [↓GO, ↓DRW, GA, ren, renB, footX, refs, cellsV, cst, cstAt, nilC, idxAddr, E.load, E.store, binO, isC, bin, ibin, sbin, una, isShift, okCell, packV, lenV, blt, fnV, asArg, snapV, snapS, snapP, snapC, flatV, flatT, openK, layBack, allT, allZ, mkS, srcOf0, unN, idxV, nilEq, give, tupV, mkEnv, extV, pickV, LVS, OVS, LTS, TYS, PMS, pmT, Int.reduceToNat, Nat.reduceGT, ↓reduceIte, Nat.reduceAdd, Nat.reduceMul, Nat.reduceSub, Nat.reduceEqDiff, Nat.reduceLeDiff, Nat.reduceLT, Nat.reduceBEq, Int.reduceBEq, Int.reduceBNe, Int.reduceEq, Int.reduceLT, Int.reduceLE, Int.reduceGT, Int.reduceNeg, reduceCtorEq, LPack.encs_len, IH, ixI]
  | some i => rw [hf] at IH; simp only [↓GO, ↓DRW, GA, ren, renB, footX, refs, cellsV, cst, cstAt, nilC, idxAddr, E.load, E.store, binO, isC, bin, ibin, sbin, una, isShift, okCell, packV, lenV, blt, fnV, asArg, snapV, snapS, snapP, snapC, flatV, flatT, openK, layBack, allT, allZ, mkS, srcOf0, unN, idxV, nilEq, give, tupV, mkEnv, extV, pickV, LVS, OVS, LTS, TYS, PMS, pmT, Int.reduceToNat, Nat.reduceGT, ↓reduceIte, Nat.reduceAdd, Nat.reduceMul, Nat.reduceSub, Nat.reduceEqDiff, Nat.reduceLeDiff, Nat.reduceLT, Nat.reduceBEq, Int.reduceBEq, Int.reduceBNe, Int.reduceEq, Int.reduceLT, Int.reduceLE, Int.reduceGT, Int.reduceNeg, reduceCtorEq, LPack.encs_len, IH, ixI]
theorem c_conF_Pack (g : Nat) (caps : List T) (p : LPack → Bool) (es : List LPack) (hl : es.length ≤ 4611686018427387904) (hp : ∀ x ∈ es, callPure (EV Tryz.prog pol) g (.agg (x.enc.map .t) :: caps.map .t) = some (.t (.bool (p x)))) :
    callPure (EV Tryz.prog pol) 129 [.t (.list 6 (LPack.encs es)), .t (.fn g caps)] = some (.t (.bool (es.any p))) := by
  have h1 := c_idxF_Pack g caps p es hl hp
  apply eq_call
  refine call_eq rfl Tryz.func129 rfl (by kernel_rfl) ?_
  unfold Tryz.f129
  have h2 := ixI_any p es
  simp only [↓GO, ↓DRW, GA, ren, renB, footX, refs, cellsV, cst, cstAt, nilC, idxAddr, E.load, E.store, binO, isC, bin, ibin, sbin, una, isShift, okCell, packV, lenV, blt, fnV, asArg, snapV, snapS, snapP, snapC, flatV, flatT, openK, layBack, allT, allZ, mkS, srcOf0, unN, idxV, nilEq, give, tupV, mkEnv, extV, pickV, LVS, OVS, LTS, TYS, PMS, pmT, Int.reduceToNat, Nat.reduceGT, ↓reduceIte, Nat.reduceAdd, Nat.reduceMul, Nat.reduceSub, Nat.reduceEqDiff, Nat.reduceLeDiff, Nat.reduceLT, Nat.reduceBEq, Int.reduceBEq, Int.reduceBNe, Int.reduceEq, Int.reduceLT, Int.reduceLE, Int.reduceGT, Int.reduceNeg, reduceCtorEq, h1, h2]
theorem l_idxF_Sum (g : Nat) (caps : List T) (p : LSum → Bool) (es : List LSum) (hl : es.length ≤ 4611686018427387904) (hp : ∀ x ∈ es, callPure (EV Tryz.prog pol) g (.agg (x.enc.map .t) :: caps.map .t) = some (.t (.bool (p x)))) : ∀ (rest pre : List LSum), es = pre ++ rest →
    EV Tryz.prog pol (.loop 213 26 0 [.t (.list 2 (LSum.encs es)), .t (.fn g caps), .t (.int .i64 (es.length : Int)), .t (.int .i64 (pre.length : Int))] []) = some (match fidx p rest pre.length with | some i => .loop .ret [.t (.int .i64 (i : Int))] [] | none => .loop (.exit 0) [.bad] [])
  | [], pre, hs => by
    have c : decide ((pre.length : Int) < (es.length : Int)) = false := by simp [hs]
    refine loop_eq Tryz.func213 rfl rfl ?_
    simp only [↓GO, ↓DRW, GA, ren, renB, footX, refs, cellsV, cst, cstAt, nilC, idxAddr, E.load, E.store, binO, isC, bin, ibin, sbin, una, isShift, okCell, packV, lenV, blt, fnV, asArg, snapV, snapS, snapP, snapC, flatV, flatT, openK, layBack, allT, allZ, mkS, srcOf0, unN, idxV, nilEq, give, tupV, mkEnv, extV, pickV, LVS, OVS, LTS, TYS, PMS, pmT, Int.reduceToNat, Nat.reduceGT, ↓reduceIte, Nat.reduceAdd, Nat.reduceMul, Nat.reduceSub, Nat.reduceEqDiff, Nat.reduceLeDiff, Nat.reduceLT, Nat.reduceBEq, Int.reduceBEq, Int.reduceBNe, Int.reduceEq, Int.reduceLT, Int.reduceLE, Int.reduceGT, Int.reduceNeg, reduceCtorEq, c, fidx]
  | b :: rest, pre, hs => by
    have c : decide ((pre.length : Int) < (es.length : Int)) = true := by simp [hs]; omega
    have hi : pre.length < es.length := by rw [hs]; simp
    have hget := LSum.encs_get es pre.length hi
    have hgb : es[pre.length] = b := by simp [hs]
    rw [hgb] at hget
    have hb := hp b (by rw [hs]; simp)
    have e1 : (pre.length : Int) + 1 = ((pre ++ [b]).length : Int) := by simp
    have IH := l_idxF_Sum g caps p es hl hp rest (pre ++ [b]) (by rw [hs]; simp)
    refine loop_eq Tryz.func213 rfl rfl ?_
    simp only [fidx]
    cases hpb : p b with
    | true =>
      rw [hpb] at hb
      simp (disch := omega) only [↓GO, ↓DRW, GA, ren, renB, footX, refs, cellsV, cst, cstAt, nilC, idxAddr, E.load, E.store, binO, isC, bin, ibin, sbin, una, isShift, okCell, packV, lenV, blt, fnV, asArg, snapV, snapS, snapP, snapC, flatV, flatT, openK, layBack, allT, allZ, mkS, srcOf0, unN, idxV, nilEq, give, tupV, mkEnv, extV, pickV, LVS, OVS, LTS, TYS, PMS, pmT, Int.reduceToNat, Nat.reduceGT, ↓reduceIte, Nat.reduceAdd, Nat.reduceMul, Nat.reduceSub, Nat.reduceEqDiff, Nat.reduceLeDiff, Nat.reduceLT, Nat.reduceBEq, Int.reduceBEq, Int.reduceBNe, Int.reduceEq, Int.reduceLT, Int.reduceLE, Int.reduceGT, Int.reduceNeg, reduceCtorEq, LSum.encs_len, c, hget, LSum.enc_len, LSum.enc_take, wrap_in, hb]
    | false =>
      rw [hpb] at hb
      simp (disch := omega) only [↓GO, ↓DRW, GA, ren, renB, footX, refs, cellsV, cst, cstAt, nilC, idxAddr, E.load, E.store, binO, isC, bin, ibin, sbin, una, isShift, okCell, packV, lenV, blt, fnV, asArg, snapV, snapS, snapP, snapC, flatV, flatT, openK, layBack, allT, allZ, mkS, srcOf0, unN, idxV, nilEq, give, tupV, mkEnv, extV, pickV, LVS, OVS, LTS, TYS, PMS, pmT, Int.reduceToNat, Nat.reduceGT, ↓reduceIte, Nat.reduceAdd, Nat.reduceMul, Nat.reduceSub, Nat.reduceEqDiff, Nat.reduceLeDiff, Nat.reduceLT, Nat.reduceBEq, Int.reduceBEq, Int.reduceBNe, Int.reduceEq, Int.reduceLT, Int.reduceLE, Int.reduceGT, Int.reduceNeg, reduceCtorEq, LSum.encs_len, c, hget, LSum.enc_len, LSum.enc_take, wrap_in, hb]
      rw [e1, IH]
      simp
theorem c_idxF_Sum (g : Nat) (caps : List T) (p : LSum → Bool) (es : List LSum) (hl : es.length ≤ 4611686018427387904) (hp : ∀ x ∈ es, callPure (EV Tryz.prog pol) g (.agg (x.enc.map .t) :: caps.map .t) = some (.t (.bool (p x)))) :
    callPure (EV Tryz.prog pol) 213 [.t (.list 2 (LSum.encs es)), .t (.fn g caps)] = some (.t (.int .i64 (ixI (fidx p es 0)))) := by
  have IH := l_idxF_Sum g caps p es hl hp es [] rfl
  simp only [List.length_nil, Int.natCast_zero] at IH
  apply eq_call
  refine call_eq rfl Tryz.func213 rfl (by kernel_rfl) ?_
  unfold Tryz.f213
  cases hf : fidx p es 0 with
  | none => rw [hf] at IH; simp only [↓GO, ↓DRW, GA, ren, renB, footX, refs, cellsV, cst, cstAt, nilC, idxAddr, E.load, E.store, binO, isC, bin, ibin, sbin, una, isShift, okCell, packV, lenV, blt, fnV, asArg, snapV, snapS, snapP, snapC, flatV, flatT, openK, layBack, allT, allZ, mkS, srcOf0, unN, idxV, nilEq, give, tupV, mkEnv, extV, pickV, LVS, OVS, LTS, TYS, PMS, pmT, Int.reduceToNat, Nat.reduceGT, ↓reduceIte, Nat.reduceAdd, Nat.reduceMul, Nat.reduceSub, Nat.reduceEqDiff, Nat.reduceLeDiff, Nat.reduceLT, Nat.reduceBEq, Int.reduceBEq, Int.reduceBNe, Int.reduceEq, Int.reduceLT, Int.reduceLE, Int.reduceGT, Int.reduceNeg, reduceCtorEq, LSum.encs_len, IH, ixI]
  | some i => rw [hf] at IH; simp only [↓GO, ↓DRW, GA, ren, renB, footX, refs, cellsV, cst, cstAt, nilC, idxAddr, E.load, E.store, binO, isC, bin, ibin, sbin, una, isShift, okCell, packV, lenV, blt, fnV, asArg, snapV, snapS, snapP, snapC, flatV, flatT, openK, layBack, allT, allZ, mkS, srcOf0, unN, idxV, nilEq, give, tupV, mkEnv, extV, pickV, LVS, OVS, LTS, TYS, PMS, pmT, Int.reduceToNat, Nat.reduceGT, ↓reduceIte, Nat.reduceAdd, Nat.reduceMul, Nat.reduceSub, Nat.reduceEqDiff, Nat.reduceLeDiff, Nat.reduceLT, Nat.reduceBEq, Int.reduceBEq, Int.reduceBNe, Int.reduceEq, Int.reduceLT, Int.reduceLE, Int.reduceGT, Int.reduceNeg, reduceCtorEq, LSum.encs_len, IH, ixI]
theorem c_conF_Sum (g : Nat) (caps : List T) (p : LSum → Bool) (es : List LSum) (hl : es.length ≤ 4611686018427387904) (hp : ∀ x ∈ es, callPure (EV Tryz.prog pol) g (.agg (x.enc.map .t) :: caps.map .t) = some (.t (.bool (p x)))) :
    callPure (EV Tryz.prog pol) 119 [.t (.list 2 (LSum.encs es)), .t (.fn g caps)] = some (.t (.bool (es.any p))) := by
  have h1 := c_idxF_Sum g caps p es hl hp
  apply eq_call
  refine call_eq rfl Tryz.func119 rfl (by kernel_rfl) ?_
  unfold Tryz.f119
  have h2 := ixI_any p es
  simp only [↓GO, ↓DRW, GA, ren, renB, footX, refs, cellsV, cst, cstAt, nilC, idxAddr, E.load, E.store, binO, isC, bin, ibin, sbin, una, isShift, okCell, packV, lenV, blt, fnV, asArg, snapV, snapS, snapP, snapC, flatV, flatT, openK, layBack, allT, allZ, mkS, srcOf0, unN, idxV, nilEq, give, tupV, mkEnv, extV, pickV, LVS, OVS, LTS, TYS, PMS, pmT, Int.reduceToNat, Nat.reduceGT, ↓reduceIte, Nat.reduceAdd, Nat.reduceMul, Nat.reduceSub, Nat.reduceEqDiff, Nat.reduceLeDiff, Nat.reduceLT, Nat.reduceBEq, Int.reduceBEq, Int.reduceBNe, Int.reduceEq, Int.reduceLT, Int.reduceLE, Int.reduceGT, Int.reduceNeg, reduceCtorEq, h1, h2]
end Go.Proofs.YtkpmachalipmpaaGreatDoor
/- Packs and graphs, plain. Conditions: none. -/
namespace Go.Proofs.YtkpmachalipmpaaGreatDoor
open E
set_option linter.unusedVariables false
set_option linter.unusedSimpArgs false
set_option maxRecDepth 100000
def sha1S : Str := [115, 104, 97, 49]
def sha256S : Str := [115, 104, 97, 50, 53, 54]
def h1S : Str := [104, 49]
def sha512S : Str := [115, 104, 97, 53, 49, 50]
def sumLen (a : Str) : Int := cond (a == sha1S) 20 (cond (a == sha256S || a == h1S) 32 (cond (a == sha512S) 64 (-1)))
/-- is a text above the one ahead, if there is one? -/
def above (prev : Option Str) (s : Str) : Bool := match prev with
  | none => true
  | some p => Op.bytesLess p s
def sumsOk : Option Str → List LSum → Bool
  | _, [] => true
  | prev, s :: r => (((s.bytes.length : Int) == sumLen s.alg) && above prev s.alg) && sumsOk (some s.alg) r
def keyOf (p : LPack) : Str := (p.name ++ [64]) ++ p.version
def hasK (ps : List LPack) (k : Str) : Bool := ps.any fun p => keyOf p == k
def findK (ps : List LPack) (k : Str) : Option Nat := fidx (fun p => keyOf p == k) ps 0
def keysOk (ps : List LPack) : Option Str → List Str → Bool
  | _, [] => true
  | prev, k :: r => (hasK ps k && above prev k) && keysOk ps (some k) r
def packOk (p : LPack) : Bool := nameOk p.name && ((exactB p.version).isSome && (plainOk p.source && sumsOk none p.sums))
def packsOk (ps : List LPack) : Option Str → List LPack → Bool
  | _, [] => true
  | prev, p :: r => (packOk p && (above prev (keyOf p) && keysOk ps none p.needs)) && packsOk ps (some (keyOf p)) r
def graphOk (g : LGraph) : Bool := packsOk g.packs none g.packs && (decide ((g.packs.length : Int) ≤ 40) && keysOk g.packs none g.top)
theorem ixI_lt {α : Type} (p : α → Bool) (l : List α) : decide (ixI (fidx p l 0) < 0) = !(l.any p) := by
  rw [← fidx_any p l 0]
  cases fidx p l 0 with
  | none => rfl
  | some n =>
    have h : ¬ ((n : Int) < 0) := by omega
    show decide ((n : Int) < 0) = false
    exact decide_eq_false h
/-- the one ahead of a place -/
theorem prev_get {α : Type} (f : α → List T) (pre : List α) (q : α) (rest : List α) : getE ((pre ++ [q] ++ rest).map f) (((pre ++ [q]).length : Int) - 1) = some (f q) := by
  unfold getE
  rw [if_pos (by simp)]
  have e : (((pre ++ [q]).length : Int) - 1).toNat = pre.length := by simp
  rw [e]
  simp
theorem map_zip {α : Type} (f : α → List T) (pre : List α) (x : α) (rest : List α) : ((pre ++ x :: rest).map f)[pre.length]? = some (f x) := by simp
theorem key_len (p : LPack) : (keyOf p).length ≤ p.bulk + 1 := by
  unfold keyOf LPack.bulk
  simp only [List.length_append, List.length_cons, List.length_nil]; omega
theorem nil_or_snoc {α : Type} (l : List α) : l = [] ∨ ∃ p q, l = p ++ [q] := by
  rcases List.eq_nil_or_concat l with h | ⟨p, q, h⟩
  · exact .inl h
  · exact .inr ⟨p, q, by rw [h, List.concat_eq_append]⟩
end Go.Proofs.YtkpmachalipmpaaGreatDoor
/- Packs and graphs, by both. Conditions: those of each lemma. -/
namespace Go.Proofs.YtkpmachalipmpaaGreatDoor
open E
set_option linter.unusedSimpArgs false
set_option linter.unusedVariables false
set_option maxRecDepth 100000
theorem c_keyI (p : LPack) (hb : p.bulk ≤ 4194304) : callPure (EV Tryz.prog pol) 71 [.agg (p.enc.map .t)] = some (.t (.str (keyOf p))) := by
  obtain ⟨name, version, source, sums, dev, needs⟩ := p
  simp only [LPack.bulk] at hb
  simp only [LPack.enc, List.map_cons, List.map_nil, keyOf]
  apply eq_call
  refine call_eq rfl Tryz.func71 rfl (by kernel_rfl) ?_
  unfold Tryz.f71
  simp (disch := ((try simp only [List.length_cons, List.length_append, List.length_nil, List.length_map]); omega)) only [↓GO, ↓DRW, GA, ren, renB, footX, refs, cellsV, cst, cstAt, nilC, idxAddr, E.load, E.store, binO, isC, bin, ibin, sbin, una, isShift, okCell, packV, lenV, blt, fnV, asArg, snapV, snapS, snapP, snapC, flatV, flatT, openK, layBack, allT, allZ, mkS, srcOf0, unN, idxV, nilEq, give, tupV, mkEnv, extV, pickV, LVS, OVS, LTS, TYS, PMS, pmT, Int.reduceToNat, Nat.reduceGT, ↓reduceIte, Nat.reduceAdd, Nat.reduceMul, Nat.reduceSub, Nat.reduceEqDiff, Nat.reduceLeDiff, Nat.reduceLT, Nat.reduceBEq, Int.reduceBEq, Int.reduceBNe, Int.reduceEq, Int.reduceLT, Int.reduceLE, Int.reduceGT, Int.reduceNeg, reduceCtorEq, Int.cast_ofNat_Int, getE_zero, getE_one, getE_two, Option.isSome_none, le_T]
theorem c_keyR (p : LPack) (hb : p.bulk ≤ 4194304) : callPure (EV Tryz.prog pol) 149 [.agg (p.enc.map .t)] = some (.t (.str (keyOf p))) := by
  obtain ⟨name, version, source, sums, dev, needs⟩ := p
  simp only [LPack.bulk] at hb
  simp only [LPack.enc, List.map_cons, List.map_nil, keyOf]
  apply eq_call
  refine call_eq rfl Tryz.func149 rfl (by kernel_rfl) ?_
  unfold Tryz.f149
  simp (disch := ((try simp only [List.length_cons, List.length_append, List.length_nil, List.length_map]); omega)) only [↓GO, ↓DRW, GA, ren, renB, footX, refs, cellsV, cst, cstAt, nilC, idxAddr, E.load, E.store, binO, isC, bin, ibin, sbin, una, isShift, okCell, packV, lenV, blt, fnV, asArg, snapV, snapS, snapP, snapC, flatV, flatT, openK, layBack, allT, allZ, mkS, srcOf0, unN, idxV, nilEq, give, tupV, mkEnv, extV, pickV, LVS, OVS, LTS, TYS, PMS, pmT, Int.reduceToNat, Nat.reduceGT, ↓reduceIte, Nat.reduceAdd, Nat.reduceMul, Nat.reduceSub, Nat.reduceEqDiff, Nat.reduceLeDiff, Nat.reduceLT, Nat.reduceBEq, Int.reduceBEq, Int.reduceBNe, Int.reduceEq, Int.reduceLT, Int.reduceLE, Int.reduceGT, Int.reduceNeg, reduceCtorEq, Int.cast_ofNat_Int, getE_zero, getE_one, getE_two, Option.isSome_none, le_T]
theorem c_slI (a : Str) : callPure (EV Tryz.prog pol) 300 [.t (.str a)] = some (.t (.int .i64 (sumLen a))) := by
  unfold sumLen sha1S sha256S h1S sha512S
  cases h1 : (a == [115, 104, 97, 49]) <;> cases h2 : (a == [115, 104, 97, 50, 53, 54]) <;> cases h3 : (a == [104, 49]) <;> cases h4 : (a == [115, 104, 97, 53, 49, 50])
  all_goals
    apply eq_call
    refine call_eq rfl Tryz.func300 rfl (by kernel_rfl) ?_
    unfold Tryz.f300
    simp (disch := ((try simp only [List.length_cons, List.length_append, List.length_nil, List.length_map]); omega)) only [↓GO, ↓DRW, GA, ren, renB, footX, refs, cellsV, cst, cstAt, nilC, idxAddr, E.load, E.store, binO, isC, bin, ibin, sbin, una, isShift, okCell, packV, lenV, blt, fnV, asArg, snapV, snapS, snapP, snapC, flatV, flatT, openK, layBack, allT, allZ, mkS, srcOf0, unN, idxV, nilEq, give, tupV, mkEnv, extV, pickV, LVS, OVS, LTS, TYS, PMS, pmT, Int.reduceToNat, Nat.reduceGT, ↓reduceIte, Nat.reduceAdd, Nat.reduceMul, Nat.reduceSub, Nat.reduceEqDiff, Nat.reduceLeDiff, Nat.reduceLT, Nat.reduceBEq, Int.reduceBEq, Int.reduceBNe, Int.reduceEq, Int.reduceLT, Int.reduceLE, Int.reduceGT, Int.reduceNeg, reduceCtorEq, Int.cast_ofNat_Int, getE_zero, getE_one, getE_two, Option.isSome_none, h1, h2, h3, h4]
theorem c_slR (a : Str) : callPure (EV Tryz.prog pol) 231 [.t (.str a)] = some (.t (.int .i64 (sumLen a))) := by
  unfold sumLen sha1S sha256S h1S sha512S
  cases h1 : (a == [115, 104, 97, 49]) <;> cases h2 : (a == [115, 104, 97, 50, 53, 54]) <;> cases h3 : (a == [104, 49]) <;> cases h4 : (a == [115, 104, 97, 53, 49, 50])
  all_goals
    apply eq_call
    refine call_eq rfl Tryz.func231 rfl (by kernel_rfl) ?_
    unfold Tryz.f231
    simp (disch := ((try simp only [List.length_cons, List.length_append, List.length_nil, List.length_map]); omega)) only [↓GO, ↓DRW, GA, ren, renB, footX, refs, cellsV, cst, cstAt, nilC, idxAddr, E.load, E.store, binO, isC, bin, ibin, sbin, una, isShift, okCell, packV, lenV, blt, fnV, asArg, snapV, snapS, snapP, snapC, flatV, flatT, openK, layBack, allT, allZ, mkS, srcOf0, unN, idxV, nilEq, give, tupV, mkEnv, extV, pickV, LVS, OVS, LTS, TYS, PMS, pmT, Int.reduceToNat, Nat.reduceGT, ↓reduceIte, Nat.reduceAdd, Nat.reduceMul, Nat.reduceSub, Nat.reduceEqDiff, Nat.reduceLeDiff, Nat.reduceLT, Nat.reduceBEq, Int.reduceBEq, Int.reduceBNe, Int.reduceEq, Int.reduceLT, Int.reduceLE, Int.reduceGT, Int.reduceNeg, reduceCtorEq, Int.cast_ofNat_Int, getE_zero, getE_one, getE_two, Option.isSome_none, h1, h2, h3, h4]
theorem l_sumsI (es : List LSum) (hl : es.length ≤ 4194304) : ∀ (rest pre : List LSum), es = pre ++ rest →
    EV Tryz.prog pol (.loop 234 26 0 [.t (.list 2 (LSum.encs es)), .t (.list 2 (LSum.encs es)), .t (.int .i64 (es.length : Int)), .t (.int .i64 (pre.length : Int))] []) = some (cond (sumsOk (pre.getLast?.map LSum.alg) rest) (.loop (.exit 0) [.bad] []) (.loop .ret [.t (.bool false)] []))
  | [], pre, hs => by
    have c : decide ((pre.length : Int) < (es.length : Int)) = false := by simp [hs]
    refine loop_eq Tryz.func234 rfl rfl ?_
    simp (disch := ((try simp only [List.length_cons, List.length_append, List.length_nil, List.length_map]); omega)) only [↓GO, ↓DRW, GA, ren, renB, footX, refs, cellsV, cst, cstAt, nilC, idxAddr, E.load, E.store, binO, isC, bin, ibin, sbin, una, isShift, okCell, packV, lenV, blt, fnV, asArg, snapV, snapS, snapP, snapC, flatV, flatT, openK, layBack, allT, allZ, mkS, srcOf0, unN, idxV, nilEq, give, tupV, mkEnv, extV, pickV, LVS, OVS, LTS, TYS, PMS, pmT, Int.reduceToNat, Nat.reduceGT, ↓reduceIte, Nat.reduceAdd, Nat.reduceMul, Nat.reduceSub, Nat.reduceEqDiff, Nat.reduceLeDiff, Nat.reduceLT, Nat.reduceBEq, Int.reduceBEq, Int.reduceBNe, Int.reduceEq, Int.reduceLT, Int.reduceLE, Int.reduceGT, Int.reduceNeg, reduceCtorEq, Int.cast_ofNat_Int, getE_zero, getE_one, getE_two, Option.isSome_none, c, sumsOk]
  | x :: rest, pre, hs => by
    have c : decide ((pre.length : Int) < (es.length : Int)) = true := by simp [hs]; omega
    have hget : (LSum.encs es)[pre.length]? = some [.str x.alg, .str x.bytes] := by rw [hs]; exact map_zip LSum.enc pre x rest
    have hlen : pre.length + rest.length + 1 ≤ es.length := by rw [hs]; simp; omega
    have IH := l_sumsI es hl rest (pre ++ [x]) (by rw [hs]; simp)
    have hk := c_slI x.alg
    rw [show ((pre ++ [x]).length : Int) = (pre.length : Int) + 1 by simp, show (pre ++ [x]).getLast?.map LSum.alg = some x.alg by simp] at IH
    rw [sumsOk]
    generalize sumLen x.alg = n at *
    rcases nil_or_snoc pre with rfl | ⟨pre', q, rfl⟩
    · clear hs
      simp only [List.length_nil, List.getLast?_nil, Option.map_none, above, Int.natCast_zero, Int.zero_add] at *
      cases h1 : ((x.bytes.length : Int) == n)
      all_goals
        refine loop_eq Tryz.func234 rfl rfl ?_
        simp (disch := ((try simp only [List.length_cons, List.length_append, List.length_nil, List.length_map]); omega)) only [↓GO, ↓DRW, GA, ren, renB, footX, refs, cellsV, cst, cstAt, nilC, idxAddr, E.load, E.store, binO, isC, bin, ibin, sbin, una, isShift, okCell, packV, lenV, blt, fnV, asArg, snapV, snapS, snapP, snapC, flatV, flatT, openK, layBack, allT, allZ, mkS, srcOf0, unN, idxV, nilEq, give, tupV, mkEnv, extV, pickV, LVS, OVS, LTS, TYS, PMS, pmT, Int.reduceToNat, Nat.reduceGT, ↓reduceIte, Nat.reduceAdd, Nat.reduceMul, Nat.reduceSub, Nat.reduceEqDiff, Nat.reduceLeDiff, Nat.reduceLT, Nat.reduceBEq, Int.reduceBEq, Int.reduceBNe, Int.reduceEq, Int.reduceLT, Int.reduceLE, Int.reduceGT, Int.reduceNeg, reduceCtorEq, Int.cast_ofNat_Int, getE_zero, getE_one, getE_two, Option.isSome_none, LSum.encs_len, c, hget, wrap_in, hk, h1, bne, IH, Int.zero_add]
    · have hprev : getE (LSum.encs es) (((pre' ++ [q]).length : Int) - 1) = some [.str q.alg, .str q.bytes] := by rw [hs]; exact prev_get LSum.enc pre' q (x :: rest)
      have hge : 1 ≤ (pre' ++ [q]).length := by simp
      have hgt : decide (((pre' ++ [q]).length : Int) > 0) = true := by simp only [decide_eq_true_eq]; omega
      have hcmp := lss_leq x.alg q.alg
      rw [show (pre' ++ [q]).getLast?.map LSum.alg = some q.alg by simp]
      simp only [above]
      clear hs
      generalize (pre' ++ [q]).length = m at *
      cases h1 : ((x.bytes.length : Int) == n) <;> cases h2 : Op.bytesLess q.alg x.alg <;> rw [h2] at hcmp
      all_goals
        refine loop_eq Tryz.func234 rfl rfl ?_
        simp (disch := ((try simp only [List.length_cons, List.length_append, List.length_nil, List.length_map]); omega)) only [↓GO, ↓DRW, GA, ren, renB, footX, refs, cellsV, cst, cstAt, nilC, idxAddr, E.load, E.store, binO, isC, bin, ibin, sbin, una, isShift, okCell, packV, lenV, blt, fnV, asArg, snapV, snapS, snapP, snapC, flatV, flatT, openK, layBack, allT, allZ, mkS, srcOf0, unN, idxV, nilEq, give, tupV, mkEnv, extV, pickV, LVS, OVS, LTS, TYS, PMS, pmT, Int.reduceToNat, Nat.reduceGT, ↓reduceIte, Nat.reduceAdd, Nat.reduceMul, Nat.reduceSub, Nat.reduceEqDiff, Nat.reduceLeDiff, Nat.reduceLT, Nat.reduceBEq, Int.reduceBEq, Int.reduceBNe, Int.reduceEq, Int.reduceLT, Int.reduceLE, Int.reduceGT, Int.reduceNeg, reduceCtorEq, Int.cast_ofNat_Int, getE_zero, getE_one, getE_two, Option.isSome_none, LSum.encs_len, c, hget, wrap_in, hk, h1, bne, hgt, hprev, hcmp, IH]
theorem c_sumsI (es : List LSum) (hl : es.length ≤ 4194304) : callPure (EV Tryz.prog pol) 234 [.t (.list 2 (LSum.encs es))] = some (.t (.bool (sumsOk none es))) := by
  have IH := l_sumsI es hl es [] rfl
  simp only [List.length_nil, Int.natCast_zero, List.getLast?_nil, Option.map_none] at IH
  apply eq_call
  refine call_eq rfl Tryz.func234 rfl (by kernel_rfl) ?_
  unfold Tryz.f234
  cases h : sumsOk none es <;> rw [h] at IH <;> simp only [cond_true, cond_false] at IH <;> simp (disch := ((try simp only [List.length_cons, List.length_append, List.length_nil, List.length_map]); omega)) only [↓GO, ↓DRW, GA, ren, renB, footX, refs, cellsV, cst, cstAt, nilC, idxAddr, E.load, E.store, binO, isC, bin, ibin, sbin, una, isShift, okCell, packV, lenV, blt, fnV, asArg, snapV, snapS, snapP, snapC, flatV, flatT, openK, layBack, allT, allZ, mkS, srcOf0, unN, idxV, nilEq, give, tupV, mkEnv, extV, pickV, LVS, OVS, LTS, TYS, PMS, pmT, Int.reduceToNat, Nat.reduceGT, ↓reduceIte, Nat.reduceAdd, Nat.reduceMul, Nat.reduceSub, Nat.reduceEqDiff, Nat.reduceLeDiff, Nat.reduceLT, Nat.reduceBEq, Int.reduceBEq, Int.reduceBNe, Int.reduceEq, Int.reduceLT, Int.reduceLE, Int.reduceGT, Int.reduceNeg, reduceCtorEq, Int.cast_ofNat_Int, getE_zero, getE_one, getE_two, Option.isSome_none, LSum.encs_len, IH]
theorem l_packR (p : LPack) (hb : p.bulk ≤ 4194304) : ∀ (rest pre : List LSum), p.sums = pre ++ rest →
    EV Tryz.prog pol (.loop 147 26 0 [.ptr 0 0 0, .t (.int .i64 (pre.length : Int))] [.vs 6 [p.enc.map .t]]) = some (cond (sumsOk (pre.getLast?.map LSum.alg) rest) (.loop (.exit 0) [.ptr 0 0 0, .bad] [.vs 6 [p.enc.map .t]]) (.loop .ret [.ptr 0 0 0, .t (.bool false)] [.vs 6 [p.enc.map .t]]))
  | [], pre, hs => by
    have c : decide ((pre.length : Int) < (p.sums.length : Int)) = false := by simp [hs]
    simp only [LPack.enc, List.map_cons, List.map_nil]
    refine loop_eq Tryz.func147 rfl rfl ?_
    simp (disch := ((try simp only [List.length_cons, List.length_append, List.length_nil, List.length_map]); omega)) only [↓GO, ↓DRW, GA, ren, renB, footX, refs, cellsV, cst, cstAt, nilC, idxAddr, E.load, E.store, binO, isC, bin, ibin, sbin, una, isShift, okCell, packV, lenV, blt, fnV, asArg, snapV, snapS, snapP, snapC, flatV, flatT, openK, layBack, allT, allZ, mkS, srcOf0, unN, idxV, nilEq, give, tupV, mkEnv, extV, pickV, LVS, OVS, LTS, TYS, PMS, pmT, Int.reduceToNat, Nat.reduceGT, ↓reduceIte, Nat.reduceAdd, Nat.reduceMul, Nat.reduceSub, Nat.reduceEqDiff, Nat.reduceLeDiff, Nat.reduceLT, Nat.reduceBEq, Int.reduceBEq, Int.reduceBNe, Int.reduceEq, Int.reduceLT, Int.reduceLE, Int.reduceGT, Int.reduceNeg, reduceCtorEq, Int.cast_ofNat_Int, getE_zero, getE_one, getE_two, Option.isSome_none, c, LSum.encs_len, sumsOk, rch3]
  | x :: rest, pre, hs => by
    have c : decide ((pre.length : Int) < (p.sums.length : Int)) = true := by simp [hs]; omega
    have hget : (LSum.encs p.sums)[pre.length]? = some [.str x.alg, .str x.bytes] := by rw [hs]; exact map_zip LSum.enc pre x rest
    have hlen : pre.length + rest.length + 1 ≤ p.sums.length := by rw [hs]; simp; omega
    have hpb : p.sums.length ≤ 4194304 := by unfold LPack.bulk at hb; omega
    have IH := l_packR p hb rest (pre ++ [x]) (by rw [hs]; simp)
    have hk := c_slR x.alg
    rw [show ((pre ++ [x]).length : Int) = (pre.length : Int) + 1 by simp, show (pre ++ [x]).getLast?.map LSum.alg = some x.alg by simp] at IH
    rw [sumsOk]
    have hco : ((x.bytes.length : Int) == sumLen x.alg) = (sumLen x.alg == (x.bytes.length : Int)) := Bool.beq_comm
    rw [hco]
    generalize sumLen x.alg = n at *
    simp only [LPack.enc, List.map_cons, List.map_nil] at IH ⊢
    rcases nil_or_snoc pre with rfl | ⟨pre', q, rfl⟩
    · clear hs
      simp only [List.length_nil, List.getLast?_nil, Option.map_none, above, Int.natCast_zero, Int.zero_add] at *
      cases h1 : (n == (x.bytes.length : Int))
      all_goals
        refine loop_eq Tryz.func147 rfl rfl ?_
        simp (disch := ((try simp only [List.length_cons, List.length_append, List.length_nil, List.length_map]); omega)) only [↓GO, ↓DRW, GA, ren, renB, footX, refs, cellsV, cst, cstAt, nilC, idxAddr, E.load, E.store, binO, isC, bin, ibin, sbin, una, isShift, okCell, packV, lenV, blt, fnV, asArg, snapV, snapS, snapP, snapC, flatV, flatT, openK, layBack, allT, allZ, mkS, srcOf0, unN, idxV, nilEq, give, tupV, mkEnv, extV, pickV, LVS, OVS, LTS, TYS, PMS, pmT, Int.reduceToNat, Nat.reduceGT, ↓reduceIte, Nat.reduceAdd, Nat.reduceMul, Nat.reduceSub, Nat.reduceEqDiff, Nat.reduceLeDiff, Nat.reduceLT, Nat.reduceBEq, Int.reduceBEq, Int.reduceBNe, Int.reduceEq, Int.reduceLT, Int.reduceLE, Int.reduceGT, Int.reduceNeg, reduceCtorEq, Int.cast_ofNat_Int, getE_zero, getE_one, getE_two, Option.isSome_none, LSum.encs_len, c, hget, wrap_in, hk, h1, bne, IH, Int.zero_add, rch3]
    · have hprev : getE (LSum.encs p.sums) (((pre' ++ [q]).length : Int) - 1) = some [.str q.alg, .str q.bytes] := by rw [hs]; exact prev_get LSum.enc pre' q (x :: rest)
      have hge : 1 ≤ (pre' ++ [q]).length := by simp
      have hgt : decide (((pre' ++ [q]).length : Int) > 0) = true := by simp only [decide_eq_true_eq]; omega
      rw [show (pre' ++ [q]).getLast?.map LSum.alg = some q.alg by simp]
      simp only [above]
      clear hs
      generalize (pre' ++ [q]).length = m at *
      cases h1 : (n == (x.bytes.length : Int)) <;> cases h2 : Op.bytesLess q.alg x.alg
      all_goals
        refine loop_eq Tryz.func147 rfl rfl ?_
        simp (disch := ((try simp only [List.length_cons, List.length_append, List.length_nil, List.length_map]); omega)) only [↓GO, ↓DRW, GA, ren, renB, footX, refs, cellsV, cst, cstAt, nilC, idxAddr, E.load, E.store, binO, isC, bin, ibin, sbin, una, isShift, okCell, packV, lenV, blt, fnV, asArg, snapV, snapS, snapP, snapC, flatV, flatT, openK, layBack, allT, allZ, mkS, srcOf0, unN, idxV, nilEq, give, tupV, mkEnv, extV, pickV, LVS, OVS, LTS, TYS, PMS, pmT, Int.reduceToNat, Nat.reduceGT, ↓reduceIte, Nat.reduceAdd, Nat.reduceMul, Nat.reduceSub, Nat.reduceEqDiff, Nat.reduceLeDiff, Nat.reduceLT, Nat.reduceBEq, Int.reduceBEq, Int.reduceBNe, Int.reduceEq, Int.reduceLT, Int.reduceLE, Int.reduceGT, Int.reduceNeg, reduceCtorEq, Int.cast_ofNat_Int, getE_zero, getE_one, getE_two, Option.isSome_none, LSum.encs_len, c, hget, wrap_in, hk, h1, bne, hgt, hprev, h2, IH, rch3]
theorem exT_len (s : Str) : ((exT s).length : Int) = cond (exactB s).isSome 1 0 := by
  unfold exT
  cases exactB s <;> rfl
theorem c_packR (p : LPack) (hb : p.bulk ≤ 1048576) : callPure (EV Tryz.prog pol) 147 [.agg (p.enc.map .t)] = some (.t (.bool (packOk p))) := by
  have L := l_packR p (by omega) p.sums [] rfl
  simp only [LPack.bulk] at hb
  have h1 := c_nameR p.name (by omega)
  have h2 := c_exR p.version (by omega)
  have h3 := c_plainR p.source (by omega)
  have h4 := exT_len p.version
  simp only [List.length_nil, Int.natCast_zero, List.getLast?_nil, Option.map_none] at L
  simp only [LPack.enc, List.map_cons, List.map_nil] at L ⊢
  unfold packOk
  generalize exT p.version = et at *
  generalize sumsOk none p.sums = b1 at *
  generalize nameOk p.name = b2 at *
  generalize plainOk p.source = b3 at *
  generalize (exactB p.version).isSome = b4 at *
  cases b1 <;> simp only [cond_true, cond_false] at L <;> cases b2 <;> cases b4 <;> simp only [cond_true, cond_false] at h4 <;> cases b3
  all_goals
    apply eq_call
    refine call_eq rfl Tryz.func147 rfl (by kernel_rfl) ?_
    unfold Tryz.f147
    simp (disch := ((try simp only [List.length_cons, List.length_append, List.length_nil, List.length_map]); omega)) only [↓GO, ↓DRW, GA, ren, renB, footX, refs, cellsV, cst, cstAt, nilC, idxAddr, E.load, E.store, binO, isC, bin, ibin, sbin, una, isShift, okCell, packV, lenV, blt, fnV, asArg, snapV, snapS, snapP, snapC, flatV, flatT, openK, layBack, allT, allZ, mkS, srcOf0, unN, idxV, nilEq, give, tupV, mkEnv, extV, pickV, LVS, OVS, LTS, TYS, PMS, pmT, Int.reduceToNat, Nat.reduceGT, ↓reduceIte, Nat.reduceAdd, Nat.reduceMul, Nat.reduceSub, Nat.reduceEqDiff, Nat.reduceLeDiff, Nat.reduceLT, Nat.reduceBEq, Int.reduceBEq, Int.reduceBNe, Int.reduceEq, Int.reduceLT, Int.reduceLE, Int.reduceGT, Int.reduceNeg, reduceCtorEq, Int.cast_ofNat_Int, getE_zero, getE_one, getE_two, Option.isSome_none, L, h1, h2, h3, h4, rch3, LSum.encs_len]
theorem exT_lenI (s : Str) : ((exT s).length : Int) = cond (exactB s).isSome 1 0 := by
  unfold exT
  cases exactB s <;> rfl
theorem c_packI (p : LPack) (hb : p.bulk ≤ 1048576) : callPure (EV Tryz.prog pol) 150 [.agg (p.enc.map .t)] = some (.t (.bool (packOk p))) := by
  simp only [LPack.bulk] at hb
  have L := c_sumsI p.sums (by omega)
  have h1 := c_nameI p.name (by omega)
  have h2 := c_exI p.version (by omega)
  have h3 := c_plainI p.source (by omega)
  have h4 := exT_lenI p.version
  simp only [LPack.enc, List.map_cons, List.map_nil]
  unfold packOk
  generalize exT p.version = et at *
  generalize sumsOk none p.sums = b1 at *
  generalize nameOk p.name = b2 at *
  generalize plainOk p.source = b3 at *
  generalize (exactB p.version).isSome = b4 at *
  cases b1 <;> cases b2 <;> cases b4 <;> simp only [cond_true, cond_false] at h4 <;> cases b3
  all_goals
    apply eq_call
    refine call_eq rfl Tryz.func150 rfl (by kernel_rfl) ?_
    unfold Tryz.f150
    simp (disch := ((try simp only [List.length_cons, List.length_append, List.length_nil, List.length_map]); omega)) only [↓GO, ↓DRW, GA, ren, renB, footX, refs, cellsV, cst, cstAt, nilC, idxAddr, E.load, E.store, binO, isC, bin, ibin, sbin, una, isShift, okCell, packV, lenV, blt, fnV, asArg, snapV, snapS, snapP, snapC, flatV, flatT, openK, layBack, allT, allZ, mkS, srcOf0, unN, idxV, nilEq, give, tupV, mkEnv, extV, pickV, LVS, OVS, LTS, TYS, PMS, pmT, Int.reduceToNat, Nat.reduceGT, ↓reduceIte, Nat.reduceAdd, Nat.reduceMul, Nat.reduceSub, Nat.reduceEqDiff, Nat.reduceLeDiff, Nat.reduceLT, Nat.reduceBEq, Int.reduceBEq, Int.reduceBNe, Int.reduceEq, Int.reduceLT, Int.reduceLE, Int.reduceGT, Int.reduceNeg, reduceCtorEq, Int.cast_ofNat_Int, getE_zero, getE_one, getE_two, Option.isSome_none, L, h1, h2, h3, h4, rch3, LSum.encs_len]
/-- graphs of bounded size -/
def GB (g : LGraph) : Prop := g.bulk ≤ 1048576
theorem GB.len {g : LGraph} (h : GB g) : g.packs.length ≤ 1048576 ∧ g.top.length + bulkS g.top ≤ 1048576 ∧ ∀ p ∈ g.packs, p.bulk ≤ 1048576 := by
  unfold GB LGraph.bulk at h
  refine ⟨by omega, by omega, fun p hp => ?_⟩
  have := LPack.bulks_mem hp
  omega
theorem c_find1 (p : LPack) (k : Str) (hb : p.bulk ≤ 1048576) : callPure (EV Tryz.prog pol) 153 [.agg (p.enc.map .t), .t (.fp [.str k])] = some (.t (.bool (keyOf p == k))) := by
  have h := c_keyI p (by omega)
  simp only [LPack.enc, List.map_cons, List.map_nil] at h ⊢
  apply eq_call
  refine call_eq rfl Tryz.func153 rfl (by kernel_rfl) ?_
  unfold Tryz.f153
  simp (disch := ((try simp only [List.length_cons, List.length_append, List.length_nil, List.length_map]); omega)) only [↓GO, ↓DRW, GA, ren, renB, footX, refs, cellsV, cst, cstAt, nilC, idxAddr, E.load, E.store, binO, isC, bin, ibin, sbin, una, isShift, okCell, packV, lenV, blt, fnV, asArg, snapV, snapS, snapP, snapC, flatV, flatT, openK, layBack, allT, allZ, mkS, srcOf0, unN, idxV, nilEq, give, tupV, mkEnv, extV, pickV, LVS, OVS, LTS, TYS, PMS, pmT, Int.reduceToNat, Nat.reduceGT, ↓reduceIte, Nat.reduceAdd, Nat.reduceMul, Nat.reduceSub, Nat.reduceEqDiff, Nat.reduceLeDiff, Nat.reduceLT, Nat.reduceBEq, Int.reduceBEq, Int.reduceBNe, Int.reduceEq, Int.reduceLT, Int.reduceLE, Int.reduceGT, Int.reduceNeg, reduceCtorEq, Int.cast_ofNat_Int, getE_zero, getE_one, getE_two, Option.isSome_none, h]
theorem c_findI (g : LGraph) (k : Str) (hB : GB g) : callPure (EV Tryz.prog pol) 66 [.agg (g.enc.map .t), .t (.str k)] = some (.t (.int .i64 (ixI (findK g.packs k)))) := by
  obtain ⟨b1, b2, b3⟩ := hB.len
  have h := c_idxF_Pack 153 [.fp [.str k]] (fun p => keyOf p == k) g.packs (by omega) (fun x hx => c_find1 x k (b3 x hx))
  simp only [LGraph.enc, List.map_cons, List.map_nil] at h ⊢
  unfold findK
  apply eq_call
  refine call_eq rfl Tryz.func66 rfl (by kernel_rfl) ?_
  unfold Tryz.f66
  simp (disch := ((try simp only [List.length_cons, List.length_append, List.length_nil, List.length_map]); omega)) only [↓GO, ↓DRW, GA, ren, renB, footX, refs, cellsV, cst, cstAt, nilC, idxAddr, E.load, E.store, binO, isC, bin, ibin, sbin, una, isShift, okCell, packV, lenV, blt, fnV, asArg, snapV, snapS, snapP, snapC, flatV, flatT, openK, layBack, allT, allZ, mkS, srcOf0, unN, idxV, nilEq, give, tupV, mkEnv, extV, pickV, LVS, OVS, LTS, TYS, PMS, pmT, Int.reduceToNat, Nat.reduceGT, ↓reduceIte, Nat.reduceAdd, Nat.reduceMul, Nat.reduceSub, Nat.reduceEqDiff, Nat.reduceLeDiff, Nat.reduceLT, Nat.reduceBEq, Int.reduceBEq, Int.reduceBNe, Int.reduceEq, Int.reduceLT, Int.reduceLE, Int.reduceGT, Int.reduceNeg, reduceCtorEq, Int.cast_ofNat_Int, getE_zero, getE_one, getE_two, Option.isSome_none, h, rch3]
theorem l_findR (g : LGraph) (k : Str) (hB : GB g) : ∀ (rest pre : List LPack), g.packs = pre ++ rest →
    EV Tryz.prog pol (.loop 141 26 0 [.t (.str k), .ptr 0 0 0, .t (.int .i64 (pre.length : Int))] [.vs 2 [g.enc.map .t]]) = some (match fidx (fun p => keyOf p == k) rest pre.length with | some i => .loop .ret [.t (.int .i64 (i : Int))] [] | none => .loop (.exit 0) [.bad] [])
  | [], pre, hs => by
    have c : decide ((pre.length : Int) < (g.packs.length : Int)) = false := by simp [hs]
    simp only [LGraph.enc, List.map_cons, List.map_nil]
    refine loop_eq Tryz.func141 rfl rfl ?_
    simp (disch := ((try simp only [List.length_cons, List.length_append, List.length_nil, List.length_map]); omega)) only [↓GO, ↓DRW, GA, ren, renB, footX, refs, cellsV, cst, cstAt, nilC, idxAddr, E.load, E.store, binO, isC, bin, ibin, sbin, una, isShift, okCell, packV, lenV, blt, fnV, asArg, snapV, snapS, snapP, snapC, flatV, flatT, openK, layBack, allT, allZ, mkS, srcOf0, unN, idxV, nilEq, give, tupV, mkEnv, extV, pickV, LVS, OVS, LTS, TYS, PMS, pmT, Int.reduceToNat, Nat.reduceGT, ↓reduceIte, Nat.reduceAdd, Nat.reduceMul, Nat.reduceSub, Nat.reduceEqDiff, Nat.reduceLeDiff, Nat.reduceLT, Nat.reduceBEq, Int.reduceBEq, Int.reduceBNe, Int.reduceEq, Int.reduceLT, Int.reduceLE, Int.reduceGT, Int.reduceNeg, reduceCtorEq, Int.cast_ofNat_Int, getE_zero, getE_one, getE_two, Option.isSome_none, c, LPack.encs_len, fidx, rch3]
  | x :: rest, pre, hs => by
    obtain ⟨b1, b2, b3⟩ := hB.len
    have c : decide ((pre.length : Int) < (g.packs.length : Int)) = true := by simp [hs]; omega
    have hget : (LPack.encs g.packs)[pre.length]? = some x.enc := by rw [hs]; exact map_zip LPack.enc pre x rest
    have hlen : pre.length + rest.length + 1 ≤ g.packs.length := by rw [hs]; simp; omega
    have hk := c_keyR x (by have := b3 x (by rw [hs]; simp); omega)
    have IH := l_findR g k hB rest (pre ++ [x]) (by rw [hs]; simp)
    rw [show ((pre ++ [x]).length : Int) = (pre.length : Int) + 1 by simp, show (pre ++ [x]).length = pre.length + 1 by simp] at IH
    clear hs
    simp only [LGraph.enc, LPack.enc, List.map_cons, List.map_nil] at hget hk IH ⊢
    rw [fidx]
    cases h1 : (keyOf x == k)
    all_goals
      refine loop_eq Tryz.func141 rfl rfl ?_
      simp (disch := ((try simp only [List.length_cons, List.length_append, List.length_nil, List.length_map]); omega)) only [↓GO, ↓DRW, GA, ren, renB, footX, refs, cellsV, cst, cstAt, nilC, idxAddr, E.load, E.store, binO, isC, bin, ibin, sbin, una, isShift, okCell, packV, lenV, blt, fnV, asArg, snapV, snapS, snapP, snapC, flatV, flatT, openK, layBack, allT, allZ, mkS, srcOf0, unN, idxV, nilEq, give, tupV, mkEnv, extV, pickV, LVS, OVS, LTS, TYS, PMS, pmT, Int.reduceToNat, Nat.reduceGT, ↓reduceIte, Nat.reduceAdd, Nat.reduceMul, Nat.reduceSub, Nat.reduceEqDiff, Nat.reduceLeDiff, Nat.reduceLT, Nat.reduceBEq, Int.reduceBEq, Int.reduceBNe, Int.reduceEq, Int.reduceLT, Int.reduceLE, Int.reduceGT, Int.reduceNeg, reduceCtorEq, Int.cast_ofNat_Int, getE_zero, getE_one, getE_two, Option.isSome_none, c, LPack.encs_len, hget, hk, h1, wrap_in, IH, rch3]
theorem c_findR (g : LGraph) (k : Str) (hB : GB g) : callPure (EV Tryz.prog pol) 141 [.agg (g.enc.map .t), .t (.str k)] = some (.t (.int .i64 (ixI (findK g.packs k)))) := by
  have L := l_findR g k hB g.packs [] rfl
  simp only [List.length_nil, Int.natCast_zero] at L
  simp only [LGraph.enc, List.map_cons, List.map_nil] at L ⊢
  unfold findK
  cases hf : fidx (fun p => keyOf p == k) g.packs 0 <;> rw [hf] at L <;> simp only at L
  all_goals
    apply eq_call
    refine call_eq rfl Tryz.func141 rfl (by kernel_rfl) ?_
    unfold Tryz.f141
    simp (disch := ((try simp only [List.length_cons, List.length_append, List.length_nil, List.length_map]); omega)) only [↓GO, ↓DRW, GA, ren, renB, footX, refs, cellsV, cst, cstAt, nilC, idxAddr, E.load, E.store, binO, isC, bin, ibin, sbin, una, isShift, okCell, packV, lenV, blt, fnV, asArg, snapV, snapS, snapP, snapC, flatV, flatT, openK, layBack, allT, allZ, mkS, srcOf0, unN, idxV, nilEq, give, tupV, mkEnv, extV, pickV, LVS, OVS, LTS, TYS, PMS, pmT, Int.reduceToNat, Nat.reduceGT, ↓reduceIte, Nat.reduceAdd, Nat.reduceMul, Nat.reduceSub, Nat.reduceEqDiff, Nat.reduceLeDiff, Nat.reduceLT, Nat.reduceBEq, Int.reduceBEq, Int.reduceBNe, Int.reduceEq, Int.reduceLT, Int.reduceLE, Int.reduceGT, Int.reduceNeg, reduceCtorEq, Int.cast_ofNat_Int, getE_zero, getE_one, getE_two, Option.isSome_none, L, ixI, rch3]
theorem l_keysI (g : LGraph) (hB : GB g) (ks : List Str) (hl : ks.length ≤ 1048576) : ∀ (rest pre : List Str), ks = pre ++ rest →
    EV Tryz.prog pol (.loop 151 26 0 [.t (.list 1 (strs ks)), .ptr 0 0 0, .t (.list 1 (strs ks)), .t (.int .i64 (ks.length : Int)), .t (.int .i64 (pre.length : Int))] [.vs 2 [g.enc.map .t]]) = some (cond (keysOk g.packs pre.getLast? rest) (.loop (.exit 0) [.bad] []) (.loop .ret [.t (.bool false)] []))
  | [], pre, hs => by
    have c : decide ((pre.length : Int) < (ks.length : Int)) = false := by simp [hs]
    simp only [LGraph.enc, List.map_cons, List.map_nil]
    refine loop_eq Tryz.func151 rfl rfl ?_
    simp (disch := ((try simp only [List.length_cons, List.length_append, List.length_nil, List.length_map]); omega)) only [↓GO, ↓DRW, GA, ren, renB, footX, refs, cellsV, cst, cstAt, nilC, idxAddr, E.load, E.store, binO, isC, bin, ibin, sbin, una, isShift, okCell, packV, lenV, blt, fnV, asArg, snapV, snapS, snapP, snapC, flatV, flatT, openK, layBack, allT, allZ, mkS, srcOf0, unN, idxV, nilEq, give, tupV, mkEnv, extV, pickV, LVS, OVS, LTS, TYS, PMS, pmT, Int.reduceToNat, Nat.reduceGT, ↓reduceIte, Nat.reduceAdd, Nat.reduceMul, Nat.reduceSub, Nat.reduceEqDiff, Nat.reduceLeDiff, Nat.reduceLT, Nat.reduceBEq, Int.reduceBEq, Int.reduceBNe, Int.reduceEq, Int.reduceLT, Int.reduceLE, Int.reduceGT, Int.reduceNeg, reduceCtorEq, Int.cast_ofNat_Int, getE_zero, getE_one, getE_two, Option.isSome_none, c, keysOk, rch3]
  | x :: rest, pre, hs => by
    have c : decide ((pre.length : Int) < (ks.length : Int)) = true := by simp [hs]; omega
    have hget : (strs ks)[pre.length]? = some [.str x] := by rw [hs]; exact strs_zip pre x rest
    have hlen : pre.length + rest.length + 1 ≤ ks.length := by rw [hs]; simp; omega
    have IH := l_keysI g hB ks hl rest (pre ++ [x]) (by rw [hs]; simp)
    have hk := c_findI g x hB
    have hlt := ixI_lt (fun p => keyOf p == x) g.packs
    rw [show ((pre ++ [x]).length : Int) = (pre.length : Int) + 1 by simp, show (pre ++ [x]).getLast? = some x by simp] at IH
    rw [keysOk]
    unfold hasK
    unfold findK at hk
    generalize ixI (fidx (fun p => keyOf p == x) g.packs 0) = n at *
    generalize (g.packs.any fun p => keyOf p == x) = b1 at *
    simp only [LGraph.enc, List.map_cons, List.map_nil] at hk IH ⊢
    rcases nil_or_snoc pre with rfl | ⟨pre', q, rfl⟩
    · clear hs
      simp only [List.length_nil, List.getLast?_nil, above, Int.natCast_zero, Int.zero_add] at *
      cases b1 <;> simp only [Bool.not_true, Bool.not_false] at hlt
      all_goals
        refine loop_eq Tryz.func151 rfl rfl ?_
        simp (disch := ((try simp only [List.length_cons, List.length_append, List.length_nil, List.length_map]); omega)) only [↓GO, ↓DRW, GA, ren, renB, footX, refs, cellsV, cst, cstAt, nilC, idxAddr, E.load, E.store, binO, isC, bin, ibin, sbin, una, isShift, okCell, packV, lenV, blt, fnV, asArg, snapV, snapS, snapP, snapC, flatV, flatT, openK, layBack, allT, allZ, mkS, srcOf0, unN, idxV, nilEq, give, tupV, mkEnv, extV, pickV, LVS, OVS, LTS, TYS, PMS, pmT, Int.reduceToNat, Nat.reduceGT, ↓reduceIte, Nat.reduceAdd, Nat.reduceMul, Nat.reduceSub, Nat.reduceEqDiff, Nat.reduceLeDiff, Nat.reduceLT, Nat.reduceBEq, Int.reduceBEq, Int.reduceBNe, Int.reduceEq, Int.reduceLT, Int.reduceLE, Int.reduceGT, Int.reduceNeg, reduceCtorEq, Int.cast_ofNat_Int, getE_zero, getE_one, getE_two, Option.isSome_none, strs_len, c, hget, wrap_in, hk, hlt, IH, Int.zero_add, rch3]
    · have hprev : getE (strs ks) (((pre' ++ [q]).length : Int) - 1) = some [.str q] := by rw [hs]; exact prev_get (fun s => [T.str s]) pre' q (x :: rest)
      have hge : 1 ≤ (pre' ++ [q]).length := by simp
      have hgt : decide (((pre' ++ [q]).length : Int) > 0) = true := by simp only [decide_eq_true_eq]; omega
      have hcmp := lss_leq x q
      rw [show (pre' ++ [q]).getLast? = some q by simp]
      simp only [above]
      clear hs
      generalize (pre' ++ [q]).length = m at *
      cases b1 <;> simp only [Bool.not_true, Bool.not_false] at hlt <;> cases h2 : Op.bytesLess q x <;> rw [h2] at hcmp
      all_goals
        refine loop_eq Tryz.func151 rfl rfl ?_
        simp (disch := ((try simp only [List.length_cons, List.length_append, List.length_nil, List.length_map]); omega)) only [↓GO, ↓DRW, GA, ren, renB, footX, refs, cellsV, cst, cstAt, nilC, idxAddr, E.load, E.store, binO, isC, bin, ibin, sbin, una, isShift, okCell, packV, lenV, blt, fnV, asArg, snapV, snapS, snapP, snapC, flatV, flatT, openK, layBack, allT, allZ, mkS, srcOf0, unN, idxV, nilEq, give, tupV, mkEnv, extV, pickV, LVS, OVS, LTS, TYS, PMS, pmT, Int.reduceToNat, Nat.reduceGT, ↓reduceIte, Nat.reduceAdd, Nat.reduceMul, Nat.reduceSub, Nat.reduceEqDiff, Nat.reduceLeDiff, Nat.reduceLT, Nat.reduceBEq, Int.reduceBEq, Int.reduceBNe, Int.reduceEq, Int.reduceLT, Int.reduceLE, Int.reduceGT, Int.reduceNeg, reduceCtorEq, Int.cast_ofNat_Int, getE_zero, getE_one, getE_two, Option.isSome_none, strs_len, c, hget, wrap_in, hk, hlt, hgt, hprev, hcmp, IH, rch3]
theorem c_keysI (g : LGraph) (hB : GB g) (ks : List Str) (hl : ks.length ≤ 1048576) : callPure (EV Tryz.prog pol) 151 [.agg (g.enc.map .t), .t (.list 1 (strs ks))] = some (.t (.bool (keysOk g.packs none ks))) := by
  have L := l_keysI g hB ks hl ks [] rfl
  simp only [List.length_nil, Int.natCast_zero, List.getLast?_nil] at L
  simp only [LGraph.enc, List.map_cons, List.map_nil] at L ⊢
  cases h : keysOk g.packs none ks <;> rw [h] at L <;> simp only [cond_true, cond_false] at L
  all_goals
    apply eq_call
    refine call_eq rfl Tryz.func151 rfl (by kernel_rfl) ?_
    unfold Tryz.f151
    simp (disch := ((try simp only [List.length_cons, List.length_append, List.length_nil, List.length_map]); omega)) only [↓GO, ↓DRW, GA, ren, renB, footX, refs, cellsV, cst, cstAt, nilC, idxAddr, E.load, E.store, binO, isC, bin, ibin, sbin, una, isShift, okCell, packV, lenV, blt, fnV, asArg, snapV, snapS, snapP, snapC, flatV, flatT, openK, layBack, allT, allZ, mkS, srcOf0, unN, idxV, nilEq, give, tupV, mkEnv, extV, pickV, LVS, OVS, LTS, TYS, PMS, pmT, Int.reduceToNat, Nat.reduceGT, ↓reduceIte, Nat.reduceAdd, Nat.reduceMul, Nat.reduceSub, Nat.reduceEqDiff, Nat.reduceLeDiff, Nat.reduceLT, Nat.reduceBEq, Int.reduceBEq, Int.reduceBNe, Int.reduceEq, Int.reduceLT, Int.reduceLE, Int.reduceGT, Int.reduceNeg, reduceCtorEq, Int.cast_ofNat_Int, getE_zero, getE_one, getE_two, Option.isSome_none, L, strs_len, rch3]
theorem l_keysR (g : LGraph) (hB : GB g) (ks : List Str) (hl : ks.length ≤ 1048576) : ∀ (rest pre : List Str), ks = pre ++ rest →
    EV Tryz.prog pol (.loop 148 26 0 [.t (.list 1 (strs ks)), .ptr 0 0 0, .t (.int .i64 (pre.length : Int))] [.vs 2 [g.enc.map .t]]) = some (cond (keysOk g.packs pre.getLast? rest) (.loop (.exit 0) [.bad] []) (.loop .ret [.t (.bool false)] []))
  | [], pre, hs => by
    have c : decide ((pre.length : Int) < (ks.length : Int)) = false := by simp [hs]
    simp only [LGraph.enc, List.map_cons, List.map_nil]
    refine loop_eq Tryz.func148 rfl rfl ?_
    simp (disch := ((try simp only [List.length_cons, List.length_append, List.length_nil, List.length_map]); omega)) only [↓GO, ↓DRW, GA, ren, renB, footX, refs, cellsV, cst, cstAt, nilC, idxAddr, E.load, E.store, binO, isC, bin, ibin, sbin, una, isShift, okCell, packV, lenV, blt, fnV, asArg, snapV, snapS, snapP, snapC, flatV, flatT, openK, layBack, allT, allZ, mkS, srcOf0, unN, idxV, nilEq, give, tupV, mkEnv, extV, pickV, LVS, OVS, LTS, TYS, PMS, pmT, Int.reduceToNat, Nat.reduceGT, ↓reduceIte, Nat.reduceAdd, Nat.reduceMul, Nat.reduceSub, Nat.reduceEqDiff, Nat.reduceLeDiff, Nat.reduceLT, Nat.reduceBEq, Int.reduceBEq, Int.reduceBNe, Int.reduceEq, Int.reduceLT, Int.reduceLE, Int.reduceGT, Int.reduceNeg, reduceCtorEq, Int.cast_ofNat_Int, getE_zero, getE_one, getE_two, Option.isSome_none, c, strs_len, keysOk, rch3]
  | x :: rest, pre, hs => by
    have c : decide ((pre.length : Int) < (ks.length : Int)) = true := by simp [hs]; omega
    have hget : (strs ks)[pre.length]? = some [.str x] := by rw [hs]; exact strs_zip pre x rest
    have hlen : pre.length + rest.length + 1 ≤ ks.length := by rw [hs]; simp; omega
    have IH := l_keysR g hB ks hl rest (pre ++ [x]) (by rw [hs]; simp)
    have hk := c_findR g x hB
    have hlt := ixI_lt (fun p => keyOf p == x) g.packs
    rw [show ((pre ++ [x]).length : Int) = (pre.length : Int) + 1 by simp, show (pre ++ [x]).getLast? = some x by simp] at IH
    rw [keysOk]
    unfold hasK
    unfold findK at hk
    generalize ixI (fidx (fun p => keyOf p == x) g.packs 0) = n at *
    generalize (g.packs.any fun p => keyOf p == x) = b1 at *
    simp only [LGraph.enc, List.map_cons, List.map_nil] at hk IH ⊢
    rcases nil_or_snoc pre with rfl | ⟨pre', q, rfl⟩
    · clear hs
      simp only [List.length_nil, List.getLast?_nil, above, Int.natCast_zero, Int.zero_add] at *
      cases b1 <;> simp only [Bool.not_true, Bool.not_false] at hlt
      all_goals
        refine loop_eq Tryz.func148 rfl rfl ?_
        simp (disch := ((try simp only [List.length_cons, List.length_append, List.length_nil, List.length_map]); omega)) only [↓GO, ↓DRW, GA, ren, renB, footX, refs, cellsV, cst, cstAt, nilC, idxAddr, E.load, E.store, binO, isC, bin, ibin, sbin, una, isShift, okCell, packV, lenV, blt, fnV, asArg, snapV, snapS, snapP, snapC, flatV, flatT, openK, layBack, allT, allZ, mkS, srcOf0, unN, idxV, nilEq, give, tupV, mkEnv, extV, pickV, LVS, OVS, LTS, TYS, PMS, pmT, Int.reduceToNat, Nat.reduceGT, ↓reduceIte, Nat.reduceAdd, Nat.reduceMul, Nat.reduceSub, Nat.reduceEqDiff, Nat.reduceLeDiff, Nat.reduceLT, Nat.reduceBEq, Int.reduceBEq, Int.reduceBNe, Int.reduceEq, Int.reduceLT, Int.reduceLE, Int.reduceGT, Int.reduceNeg, reduceCtorEq, Int.cast_ofNat_Int, getE_zero, getE_one, getE_two, Option.isSome_none, strs_len, c, hget, wrap_in, hk, hlt, IH, Int.zero_add, rch3]
    · have hprev : getE (strs ks) (((pre' ++ [q]).length : Int) - 1) = some [.str q] := by rw [hs]; exact prev_get (fun s => [T.str s]) pre' q (x :: rest)
      have hge : 1 ≤ (pre' ++ [q]).length := by simp
      have hgt : decide (((pre' ++ [q]).length : Int) > 0) = true := by simp only [decide_eq_true_eq]; omega
      rw [show (pre' ++ [q]).getLast? = some q by simp]
      simp only [above]
      clear hs
      generalize (pre' ++ [q]).length = m at *
      cases b1 <;> simp only [Bool.not_true, Bool.not_false] at hlt <;> cases h2 : Op.bytesLess q x
      all_goals
        refine loop_eq Tryz.func148 rfl rfl ?_
        simp (disch := ((try simp only [List.length_cons, List.length_append, List.length_nil, List.length_map]); omega)) only [↓GO, ↓DRW, GA, ren, renB, footX, refs, cellsV, cst, cstAt, nilC, idxAddr, E.load, E.store, binO, isC, bin, ibin, sbin, una, isShift, okCell, packV, lenV, blt, fnV, asArg, snapV, snapS, snapP, snapC, flatV, flatT, openK, layBack, allT, allZ, mkS, srcOf0, unN, idxV, nilEq, give, tupV, mkEnv, extV, pickV, LVS, OVS, LTS, TYS, PMS, pmT, Int.reduceToNat, Nat.reduceGT, ↓reduceIte, Nat.reduceAdd, Nat.reduceMul, Nat.reduceSub, Nat.reduceEqDiff, Nat.reduceLeDiff, Nat.reduceLT, Nat.reduceBEq, Int.reduceBEq, Int.reduceBNe, Int.reduceEq, Int.reduceLT, Int.reduceLE, Int.reduceGT, Int.reduceNeg, reduceCtorEq, Int.cast_ofNat_Int, getE_zero, getE_one, getE_two, Option.isSome_none, strs_len, c, hget, wrap_in, hk, hlt, hgt, hprev, h2, IH, rch3]
theorem c_keysR (g : LGraph) (hB : GB g) (ks : List Str) (hl : ks.length ≤ 1048576) : callPure (EV Tryz.prog pol) 148 [.agg (g.enc.map .t), .t (.list 1 (strs ks))] = some (.t (.bool (keysOk g.packs none ks))) := by
  have L := l_keysR g hB ks hl ks [] rfl
  simp only [List.length_nil, Int.natCast_zero, List.getLast?_nil] at L
  simp only [LGraph.enc, List.map_cons, List.map_nil] at L ⊢
  cases h : keysOk g.packs none ks <;> rw [h] at L <;> simp only [cond_true, cond_false] at L
  all_goals
    apply eq_call
    refine call_eq rfl Tryz.func148 rfl (by kernel_rfl) ?_
    unfold Tryz.f148
    simp (disch := ((try simp only [List.length_cons, List.length_append, List.length_nil, List.length_map]); omega)) only [↓GO, ↓DRW, GA, ren, renB, footX, refs, cellsV, cst, cstAt, nilC, idxAddr, E.load, E.store, binO, isC, bin, ibin, sbin, una, isShift, okCell, packV, lenV, blt, fnV, asArg, snapV, snapS, snapP, snapC, flatV, flatT, openK, layBack, allT, allZ, mkS, srcOf0, unN, idxV, nilEq, give, tupV, mkEnv, extV, pickV, LVS, OVS, LTS, TYS, PMS, pmT, Int.reduceToNat, Nat.reduceGT, ↓reduceIte, Nat.reduceAdd, Nat.reduceMul, Nat.reduceSub, Nat.reduceEqDiff, Nat.reduceLeDiff, Nat.reduceLT, Nat.reduceBEq, Int.reduceBEq, Int.reduceBNe, Int.reduceEq, Int.reduceLT, Int.reduceLE, Int.reduceGT, Int.reduceNeg, reduceCtorEq, Int.cast_ofNat_Int, getE_zero, getE_one, getE_two, Option.isSome_none, L, strs_len, rch3]
end Go.Proofs.YtkpmachalipmpaaGreatDoor

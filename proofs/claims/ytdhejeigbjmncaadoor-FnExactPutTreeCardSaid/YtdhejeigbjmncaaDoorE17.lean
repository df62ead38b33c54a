/- What a law's text needs besides: shapes of arguments, arithmetic in range, the policy's guard. Conditions: those of each lemma. -/
import Derived.Test.YtdhejeigbjmncaaDoorE16
import Derived.IntWalk
namespace Go.Proofs.YtdhejeigbjmncaaDoor.E
set_option linter.unusedVariables false
set_option linter.unusedSimpArgs false

/-- are all of a function's regions in open order such that the order does not matter? -/
def drawAll (d : Array Oper → Bool) : Code → Bool
  | .region _ ops draw => !draw || d ops
  | .seq a b => drawAll d a && drawAll d b
  | .cond _ a b => drawAll d a && drawAll d b
  | .block _ c => drawAll d c
  | .loop c => drawAll d c
  | _ => true
def polOf (P : Program) (pm : Nat → Nat → PM) (live outs : Nat → Nat → List Nat) (dr : Nat → Bool) (ext : Nat → List V → Option V) : Pol :=
  let p0 : Pol := ⟨pm, live, outs, fun _ => false, dr, ext⟩
  ⟨pm, live, outs, fun f => match P.funcs[f]? with
    | some fn => match fn.body with
      | some c => !codeOK (drOK P p0 f) fn.ntmps c
      | none => false
    | none => false, dr, ext⟩
theorem polOf_ok {P : Program} {pm : Nat → Nat → PM} {live outs : Nat → Nat → List Nat} {dr : Nat → Bool} {ext : Nat → List V → Option V} : ∀ f fn c, (polOf P pm live outs dr ext).no f = false → P.funcs[f]? = some fn → fn.body = some c → codeOK (drOK P (polOf P pm live outs dr ext) f) fn.ntmps c = true := by
  intro f fn c h h1 h2
  simp only [polOf] at h
  rw [h1] at h
  simp only [h2] at h
  have : codeOK (drOK P ⟨pm, live, outs, fun _ => false, dr, ext⟩ f) fn.ntmps c = true := by simpa using h
  exact this

variable {P : Program}
theorem WT.inv_int {t : TypeId} {k : IntKind} {cs : List T} (ht : P.underlying t = some (.int k)) (h : WT P t cs) : ∃ n, cs = [.int k n] ∧ (Lit.int k n).wf = true := by
  cases h with
  | int _ k' n h hw => rw [ht] at h; cases h; exact ⟨n, rfl, hw⟩
  | bool _ b h => rw [ht] at h; cases h
  | str _ l h => rw [ht] at h; cases h
  | list _ e es h => rw [ht] at h; cases h
  | struct _ fs cs h => rw [ht] at h; cases h
theorem WT.inv_bool {t : TypeId} {cs : List T} (ht : P.underlying t = some .bool) (h : WT P t cs) : ∃ b, cs = [.bool b] := by
  cases h with
  | int _ k' n h hw => rw [ht] at h; cases h
  | bool _ b h => exact ⟨b, rfl⟩
  | str _ l h => rw [ht] at h; cases h
  | list _ e es h => rw [ht] at h; cases h
  | struct _ fs cs h => rw [ht] at h; cases h
theorem WT.inv_str {t : TypeId} {cs : List T} (ht : P.underlying t = some .string) (h : WT P t cs) : ∃ l, cs = [.str l] ∧ l.length ≤ 9223372036854775807 := by
  cases h with
  | int _ k' n h hw => rw [ht] at h; cases h
  | bool _ b h => rw [ht] at h; cases h
  | str _ l h hl => exact ⟨l, rfl, hl⟩
  | list _ e es h => rw [ht] at h; cases h
  | struct _ fs cs h => rw [ht] at h; cases h
theorem WT.inv_list {t e : TypeId} {cs : List T} (ht : P.underlying t = some (.slice e)) (h : WT P t cs) : ∃ es, cs = [.list (P.cellsOf e) es] ∧ es.length ≤ 9223372036854775807 ∧ ∀ c ∈ es, WT P e c := by
  cases h with
  | int _ k' n h hw => rw [ht] at h; cases h
  | bool _ b h => rw [ht] at h; cases h
  | str _ l h hl => rw [ht] at h; cases h
  | list _ e es h hl hs => rw [ht] at h; cases h; exact ⟨es, rfl, hl, hs⟩
  | struct _ fs cs h => rw [ht] at h; cases h
theorem WT.inv_struct {t : TypeId} {fs : Array Go.Field} {cs : List T} (ht : P.underlying t = some (.struct fs)) (h : WT P t cs) : cs.length = P.cellsOf t ∧ ∀ f ∈ fs.toList, WT P f.type ((cs.drop f.offset).take (P.cellsOf f.type)) := by
  cases h with
  | int _ k' n h hw => rw [ht] at h; cases h
  | bool _ b h => rw [ht] at h; cases h
  | str _ l h hl => rw [ht] at h; cases h
  | list _ e es h => rw [ht] at h; cases h
  | struct _ fs cs h hl hs => rw [ht] at h; cases h; exact ⟨hl, hs⟩
theorem WTA.inv_nil {xs : List V} (h : WTA P [] xs) : xs = [] := by cases h; rfl
theorem WTA.inv_cons {t : TypeId} {ts : List TypeId} {xs : List V} (h : WTA P (t :: ts) xs) : ∃ cs v vs, xs = v :: vs ∧ WT P t cs ∧ packV (aggOf P t) (cs.map .t) = some v ∧ WTA P ts vs := by
  cases h with
  | cons _ _ cs v vs h hp hs => exact ⟨cs, v, vs, rfl, h, hp, hs⟩

theorem wrap_in {x : Int} (h : -9223372036854775808 ≤ x ∧ x ≤ 9223372036854775807) : IntKind.i64.wrap x = x := Go.IntWalk.i64_in x h
theorem add_in {x y : List UInt8} (h : x.length + y.length ≤ 9223372036854775807) : (if x.length + y.length ≤ 9223372036854775807 then some (T.str (x ++ y)) else none) = some (T.str (x ++ y)) := if_pos h
/-- the rows' new numbers, step by step -/
def idx' : List Nat → Nat → Nat → Option Nat
  | [], _, _ => none
  | x :: xs, r, n => if x = r then some n else idx' xs r (n + 1)
theorem idx'_eq : ∀ (ids : List Nat) (r n : Nat), idx' ids r n = if ids.idxOf r < ids.length then some (ids.idxOf r + n) else none
  | [], r, n => by simp [idx']
  | x :: xs, r, n => by
    simp only [idx']
    by_cases h : x = r
    · subst h; simp
    · rw [if_neg h, idx'_eq xs r (n + 1), List.idxOf_cons]
      have : (x == r) = false := by simpa using h
      simp only [this, cond_false, List.length_cons, Nat.add_lt_add_iff_right]
      split
      · congr 1; omega
      · rfl
theorem idx_eq (ids : List Nat) (r : Nat) : idx ids r = idx' ids r 0 := by rw [idx'_eq]; rfl
def getB (h : Heap) (r : Nat) : Blk := h[r]?.getD .dead
def prows (ids : List Nat) (h : Heap) : List Nat → Heap
  | [] => []
  | r :: rs => renB (idx ids) (getB h r) :: prows ids h rs
theorem prows_eq (ids : List Nat) (h : Heap) : ∀ l : List Nat, prows ids h l = l.map fun r => renB (idx ids) (h[r]?.getD .dead)
  | [] => rfl
  | r :: rs => by simp only [prows, getB, List.map_cons, prows_eq ids h rs]
def brefs (h : Heap) : List Nat → List Nat
  | [] => []
  | r :: rs => blkRefs h r ++ brefs h rs
theorem brefs_eq (h : Heap) : ∀ l : List Nat, brefs h l = l.flatMap (blkRefs h)
  | [] => rfl
  | r :: rs => by simp only [brefs, List.flatMap_cons, brefs_eq h rs]
def reach' (h : Heap) : Nat → List Nat → List Nat
  | 0, ids => ids
  | n + 1, ids => reach' h n (nodups ids (brefs h ids))
theorem reach'_eq (h : Heap) : ∀ (n : Nat) (ids : List Nat), reach' h n ids = reach h n ids
  | 0, ids => rfl
  | n + 1, ids => by simp only [reach', reach, brefs_eq, reach'_eq h n]
theorem openIds_eq (h : Heap) (args : List V) : openIds h args = reach' h 3 (nodups [] (refs.refss args)) := (reach'_eq h 3 _).symm
def rangeL : Nat → Nat → List Nat
  | 0, _ => []
  | n + 1, k => k :: rangeL n (k + 1)
theorem rangeL_eq : ∀ (n k : Nat), rangeL n k = List.range' k n
  | 0, k => rfl
  | n + 1, k => by simp only [rangeL, List.range'_succ, rangeL_eq n (k + 1)]
def pK (ids : List Nat) (vals : List V) (h : Heap) : List V × Heap := (ren.rens (idx ids) vals, prows ids h ids)
theorem packH_eq (m : Nat) (vals : List V) (h : Heap) : packH m vals h = pK (reach' h 3 (nodups (rangeL m 0) (refs.refss vals))) vals h := by
  unfold packH pK
  simp only [reach'_eq, prows_eq, rangeL_eq, List.range_eq_range']
theorem pK_1 (ids : List Nat) (vals : List V) (h : Heap) : (pK ids vals h).1 = ren.rens (idx ids) vals := rfl
theorem pK_2 (ids : List Nat) (vals : List V) (h : Heap) : (pK ids vals h).2 = prows ids h ids := rfl
theorem opl_alloc (t : TypeId) : (Op.alloc t).operands.toList = [] := rfl
theorem opl_move (x : Operand) : (Op.move x).operands.toList = [x] := rfl
theorem opl_assign (x : Operand) : (Op.assign x).operands.toList = [x] := rfl
theorem opl_box (t : TypeId) (x : Operand) : (Op.box t x).operands.toList = [x] := rfl
theorem opl_load (t : TypeId) (x : Operand) : (Op.load t x).operands.toList = [x] := rfl
theorem opl_unOp (o : UnOp) (t : TypeId) (x : Operand) : (Op.unOp o t x).operands.toList = [x] := rfl
theorem opl_convert (t u : TypeId) (x : Operand) : (Op.convert t u x).operands.toList = [x] := rfl
theorem opl_nilCheck (x : Operand) : (Op.nilCheck x).operands.toList = [x] := rfl
theorem opl_fieldAddr (t : TypeId) (x : Operand) (i : Nat) : (Op.fieldAddr t x i).operands.toList = [x] := rfl
theorem opl_field (t : TypeId) (x : Operand) (i : Nat) : (Op.field t x i).operands.toList = [x] := rfl
theorem opl_extract (x : Operand) (i : Nat) : (Op.extract x i).operands.toList = [x] := rfl
theorem opl_pick (c a b : Operand) : (Op.pick c a b).operands.toList = [c, a, b] := rfl
theorem opl_build (t : TypeId) (l : List (Nat × Operand)) : (Op.build t l.toArray).operands.toList = l.map (·.2) := by simp [Op.operands]
theorem opl_buildSlice (t : TypeId) (n : Nat) (l : List (Nat × Operand)) : (Op.buildSlice t n l.toArray).operands.toList = l.map (·.2) := by simp [Op.operands]
theorem opl_store (t : TypeId) (x y : Operand) : (Op.store t x y).operands.toList = [x, y] := rfl
theorem opl_binOp (o : BinOp) (t u : TypeId) (x y : Operand) : (Op.binOp o t x y u).operands.toList = [x, y] := rfl
theorem opl_makeSlice (t : TypeId) (x y : Operand) : (Op.makeSlice t x y).operands.toList = [x, y] := rfl
theorem opl_indexAddr (t : TypeId) (x y : Operand) : (Op.indexAddr t x y).operands.toList = [x, y] := rfl
theorem opl_index (t : TypeId) (x y : Operand) : (Op.index t x y).operands.toList = [x, y] := rfl
theorem opl_slice (t : TypeId) (x : Operand) (lo hi mx : Option Operand) : (Op.slice t x lo hi mx).operands.toList = x :: (lo.toList ++ hi.toList ++ mx.toList) := by cases lo <;> cases hi <;> cases mx <;> rfl
theorem opl_call (f : Operand) (l : List Operand) (tys : Array TypeId) : (Op.call ⟨.value f, l.toArray, tys⟩).operands.toList = f :: l := by simp [Op.operands, Call.operands]
theorem opl_builtin (b : Builtin) (l : List Operand) (tys : Array TypeId) : (Op.call ⟨.builtin b, l.toArray, tys⟩).operands.toList = l := by simp [Op.operands, Call.operands]
theorem OPL : type_of% opl_alloc ∧ type_of% opl_move ∧ type_of% opl_assign ∧ type_of% opl_box ∧ type_of% opl_load ∧ type_of% opl_unOp ∧ type_of% opl_convert ∧ type_of% opl_nilCheck ∧ type_of% opl_fieldAddr ∧ type_of% opl_field ∧ type_of% opl_extract ∧ type_of% opl_pick ∧ type_of% opl_build ∧ type_of% opl_buildSlice ∧ type_of% opl_store ∧ type_of% opl_binOp ∧ type_of% opl_makeSlice ∧ type_of% opl_indexAddr ∧ type_of% opl_index ∧ type_of% opl_slice ∧ type_of% opl_call ∧ type_of% opl_builtin :=
  ⟨opl_alloc, opl_move, opl_assign, opl_box, opl_load, opl_unOp, opl_convert, opl_nilCheck, opl_fieldAddr, opl_field, opl_extract, opl_pick, opl_build, opl_buildSlice, opl_store, opl_binOp, opl_makeSlice, opl_indexAddr, opl_index, opl_slice, opl_call, opl_builtin⟩
/-- guards -/
def dstAt : List Oper → Nat → Option Nat
  | [], _ => none
  | o :: _, 0 => o.dst
  | _ :: r, n + 1 => dstAt r n
theorem dstAt_eq : ∀ (l : List Oper) (j : Nat), dstAt l j = (l[j]?).bind (·.dst)
  | [], j => by simp [dstAt]
  | o :: r, 0 => rfl
  | o :: r, j + 1 => by simp [dstAt, dstAt_eq r j]
def wantV (v : V) (b : Bool) : Option Bool :=
  match v with
  | .t (.bool c) => some (c == b)
  | .und => some false
  | _ => none
def wantK (d : Option Nat) (b : Bool) (e : Env) : Option Bool :=
  match d with
  | some d => wantV (e d) b
  | none => none
theorem want_guard (l : List Oper) (dst : Option Nat) (op : Op) (ty : TypeId) (pos : String) (after : Array Edge) (j : Nat) (b : Bool) (e : Env) : want l.toArray ⟨dst, op, ty, pos, after, some (j, b)⟩ e = wantK (dstAt l j) b e := by
  unfold want wantK wantV
  rw [dstAt_eq]
  simp only [List.getElem?_toArray]
  cases (l[j]?).bind (·.dst) <;> rfl
theorem wantK_some (d : Nat) (b : Bool) (e : Env) : wantK (some d) b e = wantV (e d) b := rfl
theorem wantV_tt : wantV (.t (.bool true)) true = some true := rfl
theorem wantV_tf : wantV (.t (.bool true)) false = some false := rfl
theorem wantV_ft : wantV (.t (.bool false)) true = some false := rfl
theorem wantV_ff : wantV (.t (.bool false)) false = some true := rfl
theorem wantV_u (b : Bool) : wantV .und b = some false := rfl
theorem getE_nat {α : Type} (es : List α) (k : Nat) : getE es (k : Int) = es[k]? := by simp [getE]
theorem getE_zero {α : Type} (es : List α) : getE es 0 = es[0]? := by simp [getE]
theorem eq_call {pol : Pol} {g : Nat} {args : List V} {v : V} (h : EV P pol (.call g args []) = some (.call v [])) : callPure (EV P pol) g args = some v := by
  unfold callPure; rw [h]
end Go.Proofs.YtdhejeigbjmncaaDoor.E

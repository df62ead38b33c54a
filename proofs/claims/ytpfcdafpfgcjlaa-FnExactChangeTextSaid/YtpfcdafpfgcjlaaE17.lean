/- What a law's text needs besides: shapes of arguments, arithmetic in range, the policy's guard. Conditions: those of each lemma. -/
import Derived.Test.YtpfcdafpfgcjlaaE16
import Derived.IntWalk
namespace Go.Proofs.Ytpfcdafpfgcjlaa.E
set_option linter.unusedVariables false
set_option linter.unusedSimpArgs false

/-- functions whose code the evaluator leaves alone -/
def noOf (P : Program) (f : Nat) : Bool := match P.funcs[f]? with
  | some fn => match fn.body with
    | some c => !codeOK fn.ntmps c
    | none => false
  | none => false
theorem noOf_ok {P : Program} : ∀ f fn c, noOf P f = false → P.funcs[f]? = some fn → fn.body = some c → codeOK fn.ntmps c = true := by
  intro f fn c h h1 h2
  unfold noOf at h
  rw [h1] at h
  simp only [h2] at h
  simpa using h

variable {P : Program}
theorem WT.inv_int {t : TypeId} {k : IntKind} {cs : List T} (ht : P.underlying t = some (.int k)) (h : WT P t cs) : ∃ n, cs = [.int k n] ∧ (Lit.int k n).wf = true := by
  cases h with
  | int _ k' n h hw => rw [ht] at h; cases h; exact ⟨n, rfl, hw⟩
  | bool _ b h => rw [ht] at h; cases h
  | str _ l h => rw [ht] at h; cases h
  | list _ e es h => rw [ht] at h; cases h
  | struct _ fs cs h => rw [ht] at h; cases h
theorem WT.inv_bool {t : TypeId} {cs : List T} (ht : P.underlying t = some .bool) (h : WT P t cs) : ∃ b, cs = [.bool b] := by
  cases h with
  | int _ k' n h hw => rw [ht] at h; cases h
  | bool _ b h => exact ⟨b, rfl⟩
  | str _ l h => rw [ht] at h; cases h
  | list _ e es h => rw [ht] at h; cases h
  | struct _ fs cs h => rw [ht] at h; cases h
theorem WT.inv_str {t : TypeId} {cs : List T} (ht : P.underlying t = some .string) (h : WT P t cs) : ∃ l, cs = [.str l] ∧ l.length ≤ 9223372036854775807 := by
  cases h with
  | int _ k' n h hw => rw [ht] at h; cases h
  | bool _ b h => rw [ht] at h; cases h
  | str _ l h hl => exact ⟨l, rfl, hl⟩
  | list _ e es h => rw [ht] at h; cases h
  | struct _ fs cs h => rw [ht] at h; cases h
theorem WT.inv_list {t e : TypeId} {cs : List T} (ht : P.underlying t = some (.slice e)) (h : WT P t cs) : ∃ es, cs = [.list (P.cellsOf e) es] ∧ es.length ≤ 9223372036854775807 ∧ ∀ c ∈ es, WT P e c := by
  cases h with
  | int _ k' n h hw => rw [ht] at h; cases h
  | bool _ b h => rw [ht] at h; cases h
  | str _ l h hl => rw [ht] at h; cases h
  | list _ e es h hl hs => rw [ht] at h; cases h; exact ⟨es, rfl, hl, hs⟩
  | struct _ fs cs h => rw [ht] at h; cases h
theorem WT.inv_struct {t : TypeId} {fs : Array Go.Field} {cs : List T} (ht : P.underlying t = some (.struct fs)) (h : WT P t cs) : cs.length = P.cellsOf t ∧ ∀ f ∈ fs.toList, WT P f.type ((cs.drop f.offset).take (P.cellsOf f.type)) := by
  cases h with
  | int _ k' n h hw => rw [ht] at h; cases h
  | bool _ b h => rw [ht] at h; cases h
  | str _ l h hl => rw [ht] at h; cases h
  | list _ e es h => rw [ht] at h; cases h
  | struct _ fs cs h hl hs => rw [ht] at h; cases h; exact ⟨hl, hs⟩
theorem WTA.inv_nil {xs : List V} (h : WTA P [] xs) : xs = [] := by cases h; rfl
theorem WTA.inv_cons {t : TypeId} {ts : List TypeId} {xs : List V} (h : WTA P (t :: ts) xs) : ∃ cs v vs, xs = v :: vs ∧ WT P t cs ∧ packV (aggOf P t) (cs.map .t) = some v ∧ WTA P ts vs := by
  cases h with
  | cons _ _ cs v vs h hp hs => exact ⟨cs, v, vs, rfl, h, hp, hs⟩

theorem wrap_in {x : Int} (h : -9223372036854775808 ≤ x ∧ x ≤ 9223372036854775807) : IntKind.i64.wrap x = x := Go.IntWalk.i64_in x h
theorem add_in {x y : List UInt8} (h : x.length + y.length ≤ 9223372036854775807) : (if x.length + y.length ≤ 9223372036854775807 then some (T.str (x ++ y)) else none) = some (T.str (x ++ y)) := if_pos h
theorem eq_call {pol : Pol} {g : Nat} {args : List V} {v : V} (h : EV P pol (.call g args []) = some (.call v [])) : callPure (EV P pol) g args = some v := by
  unfold callPure; rw [h]
end Go.Proofs.Ytpfcdafpfgcjlaa.E

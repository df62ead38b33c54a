/- The evaluator's operations are those of the machine: what does not call. Conditions: those of each lemma. -/
import Derived.Test.YtdhejeigbjmncaaDoorE2
import Derived.Laws.Sem
import Derived.Laws.Cells
import Derived.Laws.Append
import Derived.Deep.MidRow
namespace Go.Proofs.YtdhejeigbjmncaaDoor.E
set_option linter.unusedVariables false
set_option linter.unusedSimpArgs false

variable {P : Program} {w : World} {F : Nat → Prop} {ρ : Locs} {Ow : Own} {h : Heap}

/-! ### Operands -/
def RE (w : World) (F : Nat → Prop) (ρ : Locs) (a : Act) (e : Env) : Prop := ∀ t, RV w F ρ (a.tmps.getD t undef) (e t)

theorem cstAt_rv (ty : TypeId) (v : Value) : RV w F ρ v (cstAt P ty v) := by
  unfold cstAt
  split
  · exact .t _ _ (.int _ _)
  · exact .t _ _ (.bool _)
  · exact .t _ _ (.str _ _ rfl)
  · split
    · exact .nil _
    · exact .bad _
  · exact .t _ _ .nilp
  · exact .t _ _ .nilf
  · exact .t _ _ .nili
  · exact .bad _
theorem cstAll_rv : ∀ (vs : List Value) (ts : List TypeId), RVs w F ρ vs (cstAll P vs ts)
  | [], _ => by simp only [cstAll]; exact .nil
  | v :: vs, [] => by simp only [cstAll]; exact .cons (.bad _) (cstAll_rv vs [])
  | v :: vs, t :: ts => by simp only [cstAll]; exact .cons (cstAt_rv t v) (cstAll_rv vs ts)
theorem cst_rv (ty : TypeId) (v : Value) : RV w F ρ v (cst P ty v) := by
  unfold cst
  split
  · exact RV.agg' (cstAll_rv _ _)
  · exact cstAt_rv ty v
theorem opv_rv {a : Act} {e : Env} (he : RE w F ρ a e) (ty : TypeId) (x : Operand) : RV w F ρ (a.eval x) (opv P e ty x) := by
  cases x with
  | tmp t => exact he t
  | const v => exact cst_rv ty v
  | func f => exact .t _ _ (RT.fn' .nil)
  | global g => exact .bad _

theorem rt_cells {u : Value} {x : T} (hu : RT w F u x) : u.cells = #[u] ∧ u.oneCell' = true := by cases hu <;> exact ⟨rfl, rfl⟩
theorem rv_one {u : Value} {v : V} (hu : RV w F ρ u v) (hv : okCell v = true) : u.cells = #[u] ∧ u.oneCell' = true ∧ cellsV v = [v] := by
  cases hu with
  | t u x hx => exact ⟨(rt_cells hx).1, (rt_cells hx).2, rfl⟩
  | nil | sl | slP | ptr | fn => exact ⟨rfl, rfl, rfl⟩
  | agg | tup | und | bad => simp [okCell] at hv
theorem rv_cells {u : Value} {v : V} (hu : RV w F ρ u v) (hv : (cellsV v).all okCell = true) : RVs w F ρ u.cells.toList (cellsV v) := by
  cases v with
  | agg cs =>
    cases hu with
    | agg vs cs g hs hg hr => exact rvs_of hs hg hr
  | t x => obtain ⟨h1, h2, h3⟩ := rv_one hu rfl; rw [h1]; exact .cons hu .nil
  | nil => obtain ⟨h1, h2, h3⟩ := rv_one hu rfl; rw [h1]; exact .cons hu .nil
  | sl => obtain ⟨h1, h2, h3⟩ := rv_one hu rfl; rw [h1]; exact .cons hu .nil
  | ptr => obtain ⟨h1, h2, h3⟩ := rv_one hu rfl; rw [h1]; exact .cons hu .nil
  | fn => obtain ⟨h1, h2, h3⟩ := rv_one hu rfl; rw [h1]; exact .cons hu .nil
  | tup => simp [cellsV, okCell] at hv
  | und => simp [cellsV, okCell] at hv
  | bad => simp [cellsV, okCell] at hv
theorem rvs_one {us : List Value} {vs : List V} (hu : RVs w F ρ us vs) (hv : vs.all okCell = true) : us.all (·.oneCell') = true := by
  induction hu with
  | nil => rfl
  | cons hx _ ih =>
    simp only [List.all_cons, Bool.and_eq_true] at hv ⊢
    exact ⟨(rv_one hx hv.1).2.1, ih hv.2⟩
theorem packV_rv {a : Bool} {us : List Value} {cs : List V} {v : V} (hp : packV a cs = some v) (hr : RVs w F ρ us cs) :
    (a = true → RV w F ρ (.agg us.toArray) v) ∧ (a = false → ∃ u, us = [u] ∧ RV w F ρ u v) := by
  unfold packV at hp
  cases a with
  | true => simp at hp; subst hp; exact ⟨fun _ => RV.agg' hr, fun h => absurd h (by simp)⟩
  | false =>
    simp at hp
    refine ⟨fun h => absurd h (by simp), fun _ => ?_⟩
    split at hp
    · cases hp
      cases hr with
      | cons hx hs => cases hs; exact ⟨_, rfl, hx⟩
    · cases hp
theorem rvs_drop {us : List Value} {vs : List V} (hu : RVs w F ρ us vs) (n : Nat) : RVs w F ρ (us.drop n) (vs.drop n) :=
  forall₂_of (by simp [forall₂_len hu]) fun j u v h1 h2 => by
    rw [List.getElem?_drop] at h1 h2
    obtain ⟨u', h3, h4⟩ := forall₂_get hu _ _ h2
    rw [h1] at h3; cases h3; exact h4
theorem rvs_take {us : List Value} {vs : List V} (hu : RVs w F ρ us vs) (n : Nat) : RVs w F ρ (us.take n) (vs.take n) :=
  forall₂_of (by simp [forall₂_len hu]) fun j u v h1 h2 => by
    rw [List.getElem?_take] at h1 h2
    split at h1
    · rename_i hj
      simp only [hj, if_true] at h2
      obtain ⟨u', h3, h4⟩ := forall₂_get hu _ _ h2
      rw [h1] at h3; cases h3; exact h4
    · cases h1
theorem rts_rvs {us : List Value} {xs : List T} (hu : RTs w F us xs) : RVs w F ρ us (xs.map .t) := by
  induction hu with
  | nil => exact .nil
  | cons hx _ ih => exact .cons (.t _ _ hx) ih
theorem allT_rts : ∀ {us : List Value} {vs : List V} {xs : List T}, RVs w F ρ us vs → allT vs = some xs → RTs w F us xs
  | _, [], xs, hu, hx => by cases hu; simp [allT] at hx; subst hx; exact .nil
  | _, v :: vs, xs, hu, hx => by
    cases hu with
    | cons h1 hs =>
      unfold allT at hx
      split at hx
      · split at hx
        · rename_i x _ xs' hxs
          cases hx
          cases h1 with
          | t u x hx => exact .cons hx (allT_rts hs hxs)
        · cases hx
      · cases hx

/-! ### Reading memory -/
theorem rowOK_range {α : Type} {L : Loc} {es : List (List α)} {R : Value → α → Prop} (hr : RowOK w L es R) {i j n : Nat} {cs : List α} (hi : es[i]? = some cs) (hj : j + n ≤ cs.length) :
    ∃ us : List Value, us.length = n ∧ w.rangeAt L.b (L.o + (i * L.sz + j)) us ∧ All2 R us ((cs.drop j).take n) := by
  obtain ⟨hn, hl, c, el, fr, hh, hs, hf, hz, hc⟩ := hr
  have hlen := hl cs (List.mem_of_getElem? hi)
  have hx : ∀ k, k < n → ∃ u x, c[L.o + (i * L.sz + (j + k))]? = some u ∧ cs[j + k]? = some x ∧ R u x := fun k hk => by
    have hk' : j + k < cs.length := by omega
    obtain ⟨u, hu, hru⟩ := hc i (j + k) cs _ hi (List.getElem?_eq_getElem hk')
    exact ⟨u, _, hu, List.getElem?_eq_getElem hk', hru⟩
  refine ⟨(List.range n).map fun k => (c[L.o + (i * L.sz + (j + k))]?).getD undef, by simp, fun k v hv => ?_, forall₂_of (by simp; omega) fun k u v hu hv => ?_⟩
  · simp only [List.getElem?_map, List.getElem?_range] at hv
    by_cases hk : k < n
    · obtain ⟨u, x, hu, _, _⟩ := hx k hk
      simp [hk, hu] at hv
      subst hv
      unfold World.cell?
      rw [hh]
      simp only [Option.isSome_none]
      rw [show L.o + (i * L.sz + j) + k = L.o + (i * L.sz + (j + k)) by omega]
      simpa using hu
    · simp [hk] at hv
  · have hk : k < n := by
      rcases Nat.lt_or_ge k n with h | h
      · exact h
      · rw [List.getElem?_take] at hv; simp [Nat.not_lt.2 h] at hv
    obtain ⟨u', x, h1, h2, h3⟩ := hx k hk
    simp [List.getElem?_range, hk, h1] at hu
    rw [List.getElem?_take, List.getElem?_drop] at hv
    simp [hk, h2] at hv
    subst hu; subst hv; exact h3
theorem all2_map {α β γ : Type} {R : α → β → Prop} {R' : α → γ → Prop} {f : β → γ} {us : List α} {vs : List β} (h : All2 R us vs) (hf : ∀ u v, R u v → R' u (f v)) : All2 R' us (vs.map f) := by
  induction h with
  | nil => exact .nil
  | cons hx _ ih => exact .cons (hf _ _ hx) ih
theorem ldCells_ok (hS : St w F ρ Ow h) {r i j n : Nat} {cs : List V} (hl : ldCells h r i j n = some cs) {u : Value} (hu : RV w F ρ u (.ptr r i j)) :
    ∃ (b o : Nat) (us : List Value), u = .pointer (some ⟨b, o, none⟩) ∧ us.length = n ∧ w.rangeAt b o us ∧ RVs w F ρ us cs := by
  cases hu with
  | ptr r i j L hρ =>
    refine ⟨L.b, L.o + (i * L.sz + j), ?_⟩
    unfold ldCells at hl
    split at hl
    · rename_i sz es hb
      split at hl
      · rename_i ls hi
        split at hl
        · rename_i hj
          cases hl
          have := hS.blk r _ hb
          rcases this with ⟨L', h1, h2, h3, _⟩ | ⟨h1, _⟩
          · rw [hρ] at h1; cases h1
            obtain ⟨us, e1, e2, e3⟩ := rowOK_range h3 hi hj
            exact ⟨us, rfl, e1, e2, all2_map e3 fun u v hx => .t _ _ hx⟩
          · rw [hρ] at h1; cases h1
        · cases hl
      · cases hl
    · rename_i sz es hb
      split at hl
      · rename_i ls hi
        split at hl
        · rename_i hj
          cases hl
          have := hS.blk r _ hb
          rcases this with ⟨L', h1, h2, h3, _⟩ | ⟨h1, _⟩
          · rw [hρ] at h1; cases h1
            obtain ⟨us, e1, e2, e3⟩ := rowOK_range h3 hi hj
            exact ⟨us, rfl, e1, e2, all2_map e3 fun u v hx => .t _ _ hx⟩
          · rw [hρ] at h1; cases h1
        · cases hl
      · cases hl
    · rename_i sz es hb
      split at hl
      · rename_i ls hi
        split at hl
        · rename_i hj
          cases hl
          have := hS.blk r _ hb
          rcases this with ⟨L', h1, h2, h3, _⟩ | ⟨h1, _⟩
          · rw [hρ] at h1; cases h1
            obtain ⟨us, e1, e2, e3⟩ := rowOK_range h3 hi hj
            exact ⟨us, rfl, e1, e2, e3⟩
          · rw [hρ] at h1; cases h1
        · cases hl
      · cases hl
    · cases hl

/-! ### Types -/
theorem run_isAgg {t : TypeId} {d : TypeDesc} (hd : P.underlying t = some d) : (isAgg t).run P w = .ok (aggOf P t) w := by
  simp only [isAgg, underlying, Sem.run_bind, run_program, Result.andThen_ok, hd, Sem.run_pure, aggOf]
  cases d <;> rfl
theorem info_of_underlying {t : TypeId} {d : TypeDesc} (hd : P.underlying t = some d) : ∃ i, P.info? t = some i := by
  unfold Program.underlying at hd
  cases hi : P.info? t with
  | none => simp [hi] at hd
  | some i => exact ⟨i, rfl⟩
theorem run_sizeOf {t : TypeId} {i : TypeInfo} (hi : P.info? t = some i) : (sizeOf t).run P w = .ok (szOf P t) w := by
  simp [sizeOf, typeInfo, hi, szOf, Program.cellsOf]
theorem run_underlying' {t : TypeId} {d : TypeDesc} (hd : P.underlying t = some d) : (underlying t).run P w = .ok d w := by
  simp [underlying, hd]
theorem run_zeroValue {t : TypeId} {i : TypeInfo} {z : Value} (hi : P.info? t = some i) (hz : i.zero = some z) : (zeroValue t).run P w = .ok z w := by
  simp [zeroValue, typeInfo, hi, hz]

/-- a load at an address whose cells are known -/
theorem run_load_cells {t : TypeId} {d : TypeDesc} (hd : P.underlying t = some d) {b o : Nat} {us : List Value} {cs : List V} {v : V} (hl : us.length = szOf P t) (hr : w.rangeAt b o us)
    (hc : RVs w F ρ us cs) (hp : packV (aggOf P t) cs = some v) : ∃ u, (loadVar t ⟨b, o, none⟩).run P w = .ok u w ∧ RV w F ρ u v := by
  obtain ⟨i, hi⟩ := info_of_underlying hd
  obtain ⟨h1, h2⟩ := packV_rv hp hc
  cases ha : aggOf P t with
  | true =>
    refine ⟨_, ?_, h1 ha⟩
    have hcells : (loadCells ⟨b, o, none⟩ us.length).run P w = .ok us.toArray w :=
      run_loadCells_list (P := P) w ⟨b, o, none⟩ us (fun j v hv => by rw [Addr.add_mid]; exact hr j v hv)
    simp only [loadVar, Sem.run_bind, run_isAgg hd, Result.andThen_ok, ha, if_true, run_sizeOf hi, ← hl, hcells, Sem.run_pure]
  | false =>
    obtain ⟨u, rfl, hv⟩ := h2 ha
    refine ⟨u, ?_, hv⟩
    have := hr 0 u rfl
    simp only [Nat.add_zero] at this
    simp [loadVar, Sem.run_bind, run_isAgg hd, ha, this]
end Go.Proofs.YtdhejeigbjmncaaDoor.E

/- The evaluator's operations are those of the machine: new rows, stores, appends. Conditions: those of each lemma. -/
import Derived.Test.YtdhejeigbjmncaaDoorE4
import Derived.Deep.Upon
namespace Go.Proofs.YtdhejeigbjmncaaDoor.E
set_option linter.unusedVariables false
set_option linter.unusedSimpArgs false

variable {P : Program} {w : World} {F : Nat → Prop} {ρ : Locs} {Ow : Own} {h : Heap}

/-! ### What a store does to a block -/
theorem setCell_heap (w : World) (b o : Nat) (v : Value) (c : Array Value) (el : TypeId) (fr : Nat × Nat) (hb : w.heap[b]? = some (.cells c el fr)) :
    (w.setCell ⟨b, o, none⟩ v).heap[b]? = some (.cells (c.setIfInBounds o v) el fr) := by
  simp [World.setCell, Array.getElem?_modify, hb]
theorem setCell_far (w : World) (b o : Nat) (v : Value) (k : Nat) (hk : k ≠ b) : (w.setCell ⟨b, o, none⟩ v).heap[k]? = w.heap[k]? := by
  simp [World.setCell, Array.getElem?_modify, Ne.symm hk]
theorem setCells_size : ∀ (vs : List Value) (b o : Nat) (w : World), (w.setCells b o vs).heap.size = w.heap.size
  | [], _, _, _ => rfl
  | v :: r, b, o, w => by rw [World.setCells, setCells_size r]; simp [World.setCell]
theorem setCells_rest : ∀ (vs : List Value) (b o : Nat) (w : World), (w.setCells b o vs).os = w.os ∧ (w.setCells b o vs).tape = w.tape ∧ (w.setCells b o vs).output = w.output
  | [], _, _, _ => ⟨rfl, rfl, rfl⟩
  | v :: r, b, o, w => by rw [World.setCells]; exact setCells_rest r b (o + 1) _
theorem setCells_far : ∀ (vs : List Value) (b o : Nat) (w : World) (k : Nat), k ≠ b → (w.setCells b o vs).heap[k]? = w.heap[k]?
  | [], _, _, _, _, _ => rfl
  | v :: r, b, o, w, k, hk => by rw [World.setCells, setCells_far r b (o + 1) _ k hk, setCell_far w b o v k hk]
theorem setCells_near : ∀ (vs : List Value) (b o : Nat) (w : World) (c : Array Value) (el : TypeId) (fr : Nat × Nat), w.heap[b]? = some (.cells c el fr) → o + vs.length ≤ c.size →
    ∃ c', (w.setCells b o vs).heap[b]? = some (.cells c' el fr) ∧ c'.size = c.size ∧ ∀ k, c'[k]? = if o ≤ k ∧ k < o + vs.length then vs[k - o]? else c[k]?
  | [], b, o, w, c, el, fr, hb, _ => ⟨c, hb, rfl, fun k => by simp only [List.length_nil, Nat.add_zero]; rw [if_neg (by omega)]⟩
  | v :: r, b, o, w, c, el, fr, hb, hl => by
    simp only [List.length_cons] at hl
    obtain ⟨c', h1, h2, h3⟩ := setCells_near r b (o + 1) _ _ el fr (setCell_heap w b o v c el fr hb) (by simp; omega)
    refine ⟨c', h1, by simpa using h2, fun k => ?_⟩
    rw [h3 k]
    simp only [List.length_cons]
    by_cases hk : o = k
    · subst hk
      rw [if_neg (by omega), if_pos (by omega)]
      simp [show o < c.size by omega]
    · by_cases hk' : o + 1 ≤ k ∧ k < o + 1 + r.length
      · rw [if_pos hk', if_pos (by omega), show k - o = (k - (o + 1)) + 1 by omega]
        simp
      · rw [if_neg hk', if_neg (by omega), Array.getElem?_setIfInBounds_ne hk]

/-! ### A new block -/
theorem alloc_heap (w : World) (o : Obj) : (w.alloc o).heap = w.heap.push o := rfl
theorem new_world (w : World) (o : Obj) : (w.alloc o).heap[w.heap.size]? = some o := by simp [alloc_heap]
theorem nH_get {N : Option Nat} {h : Heap} {blk : Blk} (hN : ∀ i, N = some i → i < h.length) (r : Nat) : (nH N h blk)[r]? = if r = nI N h then some blk else h[r]? := by
  cases N with
  | none =>
    by_cases he : r = nI none h
    · rw [if_pos he]
      have he' : r = h.length := he
      subst he'
      show (h ++ [blk])[h.length]? = some blk
      simp
    · rw [if_neg he]
      have he' : r ≠ h.length := he
      show (h ++ [blk])[r]? = h[r]?
      rcases Nat.lt_or_ge r h.length with hlt | hge
      · rw [List.getElem?_append_left hlt]
      · rw [List.getElem?_append_right hge, List.getElem?_eq_none (by simp; omega), List.getElem?_eq_none hge]
  | some i =>
    have hi := hN i rfl
    by_cases he : r = nI (some i) h
    · rw [if_pos he]
      have he' : r = i := he
      subst he'
      show (h.set r blk)[r]? = some blk
      simp [hi]
    · rw [if_neg he]
      have he' : ¬ i = r := fun e => he e.symm
      show (h.set i blk)[r]? = h[r]?
      rw [List.getElem?_set_ne he']
theorem nH_len {N : Option Nat} {h : Heap} {blk : Blk} : h.length ≤ (nH N h blk).length ∧ (∀ i, N = some i → i < h.length → nI N h < (nH N h blk).length) ∧ (N = none → nI N h < (nH N h blk).length) := by
  cases N <;> simp [nH, nI]
/-- an operation may lay a new row -/
structure OkO (Ow : Own) (w : World) (ρ : Locs) (h : Heap) : Prop where
  blk : ∀ b, w.heap.size ≤ b → Ow b
  free : ¬ Ow.z (nI Ow.N h)
  dead : ∀ i, Ow.N = some i → h[i]? = some .dead ∧ ρ i = none
/-- code may lay new rows -/
structure OkC (Ow : Own) (w : World) : Prop where
  blk : ∀ b, w.heap.size ≤ b → Ow b
  z : ∀ r, ¬ Ow.z r
  n : Ow.N = none
theorem OkC.op (hO : OkC Ow w) : OkO Ow w ρ h := ⟨hO.blk, hO.z _, fun i hi => by rw [hO.n] at hi; cases hi⟩
theorem OkC.mono {w' : World} (hO : OkC Ow w) (hs : w.heap.size ≤ w'.heap.size) : OkC Ow w' := ⟨fun b hb => hO.blk b (Nat.le_trans hs hb), hO.z, hO.n⟩
theorem OkC.own (b : Nat → Prop) (hb : ∀ k, w.heap.size ≤ k → b k) : OkC (own b) w := ⟨hb, fun _ h => h, rfl⟩
theorem OkO.drew (hO : OkO Ow w ρ h) : OkO Ow w.drew ρ h := ⟨hO.blk, hO.free, hO.dead⟩
theorem OkO.lt (hO : OkO Ow w ρ h) : ∀ i, Ow.N = some i → i < h.length := fun i hi => (List.getElem?_eq_some_iff.1 (hO.dead i hi).1).1
theorem OkO.vac (hO : OkO Ow w ρ h) (hS : St w F ρ Ow h) : ρ (nI Ow.N h) = none := by
  cases hN : Ow.N with
  | none => exact hS.out _ (Nat.le_refl _)
  | some i => exact (hO.dead i hN).2
theorem OkO.set (hO : OkO Ow w ρ h) {r : Nat} {b b' : Blk} (hb : h[r]? = some b) (hd : b ≠ .dead) : OkO Ow w ρ (h.set r b') := by
  refine ⟨hO.blk, ?_, fun i hi => ?_⟩
  · have := hO.free
    cases hN : Ow.N <;> simp [hN, nI] at this ⊢ <;> exact this
  · have hne : r ≠ i := fun e => by
      subst e; rw [(hO.dead r hi).1] at hb; cases hb; exact hd rfl
    rw [List.getElem?_set_ne hne]
    exact hO.dead i hi
theorem OkO.new (hO : OkO Ow w ρ h) (hS : St w F ρ Ow h) {l : Option Loc} : Ext ρ (fun r => if r = nI Ow.N h then some l else ρ r) ∧ (∀ r, Ow.z r → (fun r => if r = nI Ow.N h then some l else ρ r) r = ρ r) := by
  refine ⟨fun r l' hr => ?_, fun r hr => ?_⟩
  · by_cases he : r = nI Ow.N h
    · subst he; rw [hO.vac hS] at hr; cases hr
    · simp [he, hr]
  · have : r ≠ nI Ow.N h := fun e => hO.free (e ▸ hr)
    simp [this]
theorem OkO.out (hO : OkO Ow w ρ h) (hS : St w F ρ Ow h) {blk : Blk} {h0 : Heap} (hh : h0.length = h.length) {l : Option Loc} {r : Nat} (hr : (nH Ow.N h0 blk).length ≤ r) : (fun r => if r = nI Ow.N h then some l else ρ r) r = none := by
  have h1 : r ≠ nI Ow.N h ∧ h.length ≤ r := by
    cases hN : Ow.N with
    | none => simp [hN, nH, nI] at hr ⊢; omega
    | some i =>
      have := hO.lt i hN
      simp [hN, nH, nI] at hr ⊢; omega
  simp only [h1.1, if_false]
  exact hS.out r h1.2
theorem nxt_new (hS : St w F ρ Ow h) (hO : OkO Ow w ρ h) (o : Obj) (l : Option Loc) :
    Nxt Ow w F ρ (w.alloc o) F (fun r => if r = nI Ow.N h then some l else ρ r) :=
  ⟨rfl, rfl, rfl, by simp [alloc_heap], fun b hb _ => by simp [alloc_heap, Array.getElem?_push, Nat.ne_of_lt hb],
    fun b hb => by have := hS.fsz b hb; simp [alloc_heap, Array.getElem?_push, Nat.ne_of_lt this], fun _ x => x, fun _ x => .inl x, (hO.new hS).1, (hO.new hS).2⟩
theorem new_st (hS : St w F ρ Ow h) (hO : OkO Ow w ρ h) (arr : Array Value) (el : TypeId) (sz n : Nat) (blk : Blk)
    (hblk : ∀ ρ' : Locs, Ext ρ ρ' → ρ' (nI Ow.N h) = some (some ⟨w.heap.size, 0, sz, n, arr.size⟩) → ¬ F w.heap.size → Ow w.heap.size → Agree F w (w.alloc (.cells arr el)) → RB (w.alloc (.cells arr el)) F ρ' Ow (nI Ow.N h) blk) :
    ∃ ρ', St (w.alloc (.cells arr el)) F ρ' Ow (nH Ow.N h blk) ∧ Nxt Ow w F ρ (w.alloc (.cells arr el)) F ρ' ∧ ρ' (nI Ow.N h) = some (some ⟨w.heap.size, 0, sz, n, arr.size⟩) := by
  have hN := nxt_new hS hO (.cells arr el) (some ⟨w.heap.size, 0, sz, n, arr.size⟩)
  have hnF : ¬ F w.heap.size := fun x => by have := hS.fsz _ x; omega
  refine ⟨_, hS.next hN (fun r hr => hO.out hS rfl hr) (fun b hb => Nat.lt_of_lt_of_le (hS.fsz b hb) hN.size) (fun r b hr => ?_), hN, by simp⟩
  rw [nH_get hO.lt] at hr
  split at hr
  · rename_i he
    subst he
    cases hr
    refine .inr ⟨hblk _ hN.ext (by simp) hnF (hO.blk _ (Nat.le_refl _)) hN.agree, fun L hL hw r' b' L' hne hr' hw' hL' => ?_⟩
    simp at hL
    subst hL
    simp only [hne, if_false] at hL'
    rw [nH_get hO.lt, if_neg hne] at hr'
    obtain ⟨_, _, h3⟩ := (hS.blk r' b' hr').notF hw' hL'
    simp
    omega
  · refine .inl ⟨hr, fun L hL hw => ?_⟩
    obtain ⟨h1, h2, h3⟩ := (hS.blk r b hr).notF hw hL
    exact ⟨by simp [alloc_heap, Array.getElem?_push, Nat.ne_of_lt h3], h1⟩

/-- cells laid one behind the other -/
theorem flat_get {α : Type} : ∀ {es : List (List α)} {sz : Nat}, (∀ e ∈ es, e.length = sz) → ∀ {i j : Nat} {cs : List α} {x : α}, es[i]? = some cs → cs[j]? = some x → es.flatten[i * sz + j]? = some x
  | [], _, _, _, _, _, _, hi, _ => by simp at hi
  | e :: es, sz, hz, i, j, cs, x, hi, hj => by
    have he : e.length = sz := hz e (by simp)
    cases i with
    | zero =>
      simp at hi; subst hi
      have hlt : j < e.length := (List.getElem?_eq_some_iff.1 hj).1
      simp only [List.flatten_cons, Nat.zero_mul, Nat.zero_add]
      rw [List.getElem?_append_left hlt]; exact hj
    | succ i =>
      simp only [List.flatten_cons]
      rw [List.getElem?_append_right (by rw [Nat.add_mul]; omega), he, show (i + 1) * sz + j - sz = i * sz + j by rw [Nat.add_mul]; omega]
      exact flat_get (fun e' he' => hz e' (by simp [he'])) (by simpa using hi) hj
theorem flat_len {α : Type} : ∀ {es : List (List α)} {sz : Nat}, (∀ e ∈ es, e.length = sz) → es.flatten.length = es.length * sz
  | [], _, _ => by simp
  | e :: es, sz, hz => by
    simp only [List.flatten_cons, List.length_append, List.length_cons]
    rw [flat_len (fun e' he' => hz e' (by simp [he'])), hz e (by simp), Nat.add_mul]
    omega
theorem all2_get' {α β : Type} {R : α → β → Prop} {us : List α} {vs : List β} (h : All2 R us vs) {k : Nat} {v : β} (hv : vs[k]? = some v) : ∃ u, us[k]? = some u ∧ R u v := forall₂_get h k v hv

theorem rowOK_new {α : Type} {R : Value → α → Prop} {arr : Array Value} {el : TypeId} {es : List (List α)} {sz : Nat} (hz : ∀ e ∈ es, e.length = sz) (hsz : es.length * sz ≤ arr.size)
    (hr : All2 R (arr.toList.take (es.length * sz)) es.flatten) : RowOK (w.alloc (.cells arr el)) ⟨w.heap.size, 0, sz, es.length, arr.size⟩ es R := by
  refine ⟨rfl, hz, arr, el, (0, 0), new_world w _, rfl, fun k _ => by simp, by simpa using hsz, fun i j cs x hi hj => ?_⟩
  obtain ⟨u, hu, hru⟩ := all2_get' hr (flat_get hz hi hj)
  refine ⟨u, ?_, hru⟩
  rw [List.getElem?_take] at hu
  split at hu
  · simpa using hu
  · cases hu

theorem new_ts (hS : St w F ρ Ow h) (hO : OkO Ow w ρ h) {arr : Array Value} {el : TypeId} {es : List (List T)} {sz : Nat} (hz : ∀ e ∈ es, e.length = sz) (hsz : es.length * sz ≤ arr.size)
    (hr : RTs w F (arr.toList.take (es.length * sz)) es.flatten) :
    ∃ ρ', St (w.alloc (.cells arr el)) F ρ' Ow (nH Ow.N h (.ts sz es)) ∧ Nxt Ow w F ρ (w.alloc (.cells arr el)) F ρ' ∧ ρ' (nI Ow.N h) = some (some ⟨w.heap.size, 0, sz, es.length, arr.size⟩) :=
  new_st hS hO arr el sz es.length (.ts sz es) fun ρ' hρ hL hF hOw hA =>
    .inl ⟨_, hL, rfl, rowOK_new hz hsz (forall₂_imp hr fun _ _ x => x.mono hA fun _ y => y), hF, hOw⟩
theorem new_vs (hS : St w F ρ Ow h) (hO : OkO Ow w ρ h) {arr : Array Value} {el : TypeId} {cs : List V} (hr : RVs w F ρ arr.toList cs) :
    ∃ ρ', St (w.alloc (.cells arr el)) F ρ' Ow (nH Ow.N h (.vs cs.length [cs])) ∧ Nxt Ow w F ρ (w.alloc (.cells arr el)) F ρ' ∧ ρ' (nI Ow.N h) = some (some ⟨w.heap.size, 0, cs.length, 1, arr.size⟩) := by
  have hl := forall₂_len hr
  refine new_st hS hO arr el cs.length 1 (.vs cs.length [cs]) fun ρ' hρ hL hF hOw hA => .inl ⟨_, hL, rfl, ?_, hF, hOw⟩
  have := rowOK_new (w := w) (R := RV (w.alloc (.cells arr el)) F ρ') (arr := arr) (el := el) (es := [cs]) (sz := cs.length) (fun e he => by simp at he; rw [he]) (by simp at hl ⊢; omega)
    (by simp only [List.length_singleton, Nat.one_mul, List.flatten_singleton]
        rw [List.take_of_length_le (by simp at hl ⊢; omega)]
        exact forall₂_imp hr fun _ _ x => x.mono hA (fun _ y => y) hρ)
  exact this

/-! ### A store -/
theorem splice_len {α : Type} {cs xs : List α} {j : Nat} (hj : j + xs.length ≤ cs.length) : (splice cs j xs).length = cs.length := by
  simp [splice]; omega
theorem splice_get {α : Type} {cs xs : List α} {j : Nat} (hj : j + xs.length ≤ cs.length) (k : Nat) : (splice cs j xs)[k]? = if j ≤ k ∧ k < j + xs.length then xs[k - j]? else cs[k]? := by
  unfold splice
  rw [List.append_assoc]
  by_cases h1 : k < j
  · rw [List.getElem?_append_left (by simp; omega), List.getElem?_take, if_pos h1, if_neg (by omega)]
  · rw [List.getElem?_append_right (by simp; omega)]
    simp only [List.length_take, Nat.min_eq_left (show j ≤ cs.length by omega)]
    by_cases h2 : k < j + xs.length
    · rw [List.getElem?_append_left (by omega), if_pos (by omega)]
    · rw [List.getElem?_append_right (by omega), if_neg (by omega), List.getElem?_drop]
      congr 1; omega
theorem rowOK_store {α : Type} {R R' : Value → α → Prop} {L : Loc} {es : List (List α)} (hr : RowOK w L es R) (hR : ∀ u x, R u x → R' u x) {i j : Nat} {cs xs : List α} {us : List Value} (hi : es[i]? = some cs) (hj : j + xs.length ≤ cs.length)
    (hu : All2 R' us xs) : RowOK (w.setCells L.b (L.o + (i * L.sz + j)) us) L (es.set i (splice cs j xs)) R' := by
  obtain ⟨hn, hl, c, el, fr, hh, hs, hf, hz, hc⟩ := hr
  have hul := forall₂_len hu
  have hcl := hl cs (List.mem_of_getElem? hi)
  have hil : i < es.length := (List.getElem?_eq_some_iff.1 hi).1
  have hin : (i + 1) * L.sz ≤ L.n * L.sz := Nat.mul_le_mul_right _ (by omega)
  rw [Nat.add_mul] at hin
  obtain ⟨c', k1, k2, k3⟩ := setCells_near us L.b (L.o + (i * L.sz + j)) w c el fr hh (by omega)
  refine ⟨by simpa using hn, fun e he => ?_, c', el, fr, k1, by omega, fun k hk => hf k (by omega), hz, fun i' j' cs' x hi' hj' => ?_⟩
  · rcases List.mem_or_eq_of_mem_set he with he | rfl
    · exact hl e he
    · rw [splice_len hj]; exact hcl
  · rw [List.getElem?_set] at hi'
    rw [k3]
    split at hi'
    · rename_i e; subst e
      cases hi'
      rw [splice_get hj] at hj'
      split at hj'
      · rename_i hjj
        rw [if_pos (by omega), show L.o + (i * L.sz + j') - (L.o + (i * L.sz + j)) = j' - j by omega]
        exact forall₂_get hu _ _ hj'
      · rename_i hjj
        rw [if_neg (by omega)]
        obtain ⟨u, h1, h2⟩ := hc i j' _ _ hi hj'
        exact ⟨u, h1, hR _ _ h2⟩
    · rename_i hne
      obtain ⟨u, h1, h2⟩ := hc i' j' _ _ hi' hj'
      have hjl : j' < L.sz := by
        have := (List.getElem?_eq_some_iff.1 hj').1
        rw [hl cs' (List.mem_of_getElem? hi')] at this
        exact this
      rw [if_neg ?_]
      · exact ⟨u, h1, hR _ _ h2⟩
      · rcases Nat.lt_or_ge i' i with hlt | hge
        · have : (i' + 1) * L.sz ≤ i * L.sz := Nat.mul_le_mul_right _ (by omega)
          rw [Nat.add_mul] at this
          omega
        · have : (i + 1) * L.sz ≤ i' * L.sz := Nat.mul_le_mul_right _ (by omega)
          rw [Nat.add_mul] at this
          omega
/-- the world behind a store into a row of the call's own -/
theorem nxt_store (hS : St w F ρ Ow h) {L : Loc} (hF : ¬ F L.b) (hOw : Ow L.b) (o : Nat) (us : List Value) : Nxt Ow w F ρ (w.setCells L.b o us) F ρ := by
  obtain ⟨h1, h2, h3⟩ := setCells_rest us L.b o w
  refine ⟨h1, h2, h3, by rw [setCells_size]; exact Nat.le_refl _, fun b _ hb => setCells_far us L.b o w b fun e => hb (e ▸ hOw), fun b hb => setCells_far us L.b o w b fun e => hF (e ▸ hb), fun _ x => x, fun _ x => .inl x, Ext.refl _, fun _ _ => rfl⟩
theorem store_st (hS : St w F ρ Ow h) {r : Nat} {b blk : Blk} {L : Loc} (hb : h[r]? = some b) (hw : writes b = true) (hL : ρ r = some (some L)) (o : Nat) (us : List Value)
    (hblk : Nxt Ow w F ρ (w.setCells L.b o us) F ρ → RB (w.setCells L.b o us) F ρ Ow r blk) : St (w.setCells L.b o us) F ρ Ow (h.set r blk) ∧ Nxt Ow w F ρ (w.setCells L.b o us) F ρ := by
  obtain ⟨h1, h2, h3⟩ := (hS.blk r b hb).notF hw hL
  have hN := nxt_store hS h1 h2 o us
  refine ⟨hS.next hN (fun r' hr' => hS.out r' (by simpa using hr')) (fun b hb => by rw [setCells_size]; exact hS.fsz b hb) (fun r' b' hr' => ?_), hN⟩
  rw [List.getElem?_set] at hr'
  split at hr'
  · rename_i e; subst e
    split at hr'
    · cases hr'
      refine .inr ⟨hblk hN, fun L1 hL1 hw1 r2 b2 L2 hne hr2 hw2 hL2 he => ?_⟩
      rw [hL] at hL1; cases hL1
      rw [List.getElem?_set] at hr2
      split at hr2
      · rename_i e2; exact hne e2.symm
      · exact hne (hS.inj r2 r b2 b L2 L hr2 hb hw2 hw hL2 hL he)
    · cases hr'
  · rename_i hne
    refine .inl ⟨hr', fun L' hL' hw' => ?_⟩
    obtain ⟨k1, k2, k3⟩ := (hS.blk r' b' hr').notF hw' hL'
    refine ⟨setCells_far us L.b o w L'.b fun e => hne (hS.inj r r' b b' L L' hb hr' hw hw' hL hL' e.symm), k1⟩

theorem giveT_ok (hS : St w F ρ Ow h) {us : List Value} {vs : List V} (hu : RVs w F ρ us vs) {xs : List T} {h' : Heap} (hg : giveT h vs = some (xs, h')) :
    ∃ F', RTs w F' us xs ∧ St w F' ρ Ow h' ∧ Nxt Ow w F ρ w F' ρ := by
  unfold giveT at hg
  split at hg
  · rename_i ys h1 he
    split at hg
    · rename_i ts ht; cases hg
      obtain ⟨F', k1, k2, k3⟩ := gives_ok ρ vs hS hu he
      exact ⟨F', allT_rts k1 ht, k2, k3⟩
    · cases hg
  · cases hg

/-- cells that are there, and may be written -/
theorem there_of {c : Array Value} {el : TypeId} {fr : Nat × Nat} {b o n : Nat} (hh : w.heap[b]? = some (.cells c el fr)) (hf : ∀ k, k < c.size → ¬(fr.1 ≤ k ∧ k < fr.2)) (hn : o + n ≤ c.size) : w.there b o n := fun j hj => by
  constructor
  · simp [World.cell?, hh, show o + j < c.size by omega]
  · have := hf (o + j) (by omega)
    simp only [World.frozen?, hh]
    simp only [Bool.and_eq_false_iff, decide_eq_false_iff_not]
    omega
theorem stCells_ok (hS : St w F ρ Ow h) {r i j : Nat} {vs : List V} {h' : Heap} (hs : stCells h r i j vs = some h') {u : Value} (hp : RV w F ρ u (.ptr r i j)) {us : List Value} (hu : RVs w F ρ us vs) :
    ∃ b o F', u = .pointer (some ⟨b, o, none⟩) ∧ w.there b o us.length ∧ St (w.setCells b o us) F' ρ Ow h' ∧ Nxt Ow w F ρ (w.setCells b o us) F' ρ := by
  have hul := forall₂_len hu
  cases hp with
  | ptr r i j L hρ =>
    refine ⟨L.b, L.o + (i * L.sz + j), ?_⟩
    unfold stCells at hs
    split at hs
    · rename_i sz es hb
      split at hs
      · rename_i cs hi
        split at hs
        · rename_i hj
          cases hs
          rcases hS.blk r _ hb with ⟨L', h1, h2, h3, h4, h5⟩ | ⟨h1, _⟩
          · rw [hρ] at h1; cases h1
            have hth : w.there L.b (L.o + (i * L.sz + j)) us.length := by
              obtain ⟨hn, hl, c, el, fr, hh, hsz, hf, hz, hc⟩ := h3
              have hin : (i + 1) * L.sz ≤ L.n * L.sz := Nat.mul_le_mul_right _ (by have := (List.getElem?_eq_some_iff.1 hi).1; omega)
              rw [Nat.add_mul] at hin
              have := hl cs (List.mem_of_getElem? hi)
              exact there_of hh hf (by omega)
            obtain ⟨k1, k2⟩ := store_st hS (blk := .vs sz (es.set i (splice cs j vs))) hb rfl hρ (L.o + (i * L.sz + j)) us fun hN =>
              .inl ⟨L, hρ, h2, rowOK_store h3 (fun _ _ x => hN.rv x) hi hj (hN.rvs hu), h4, h5⟩
            exact ⟨F, rfl, hth, k1, k2⟩
          · rw [hρ] at h1; cases h1
        · cases hs
      · cases hs
    · rename_i sz es hb
      split at hs
      · rename_i cs hi
        split at hs
        · rename_i hj
          split at hs
          · rename_i xs h2 hg
            split at hs
            · rename_i sz' es' hb'
              cases hs
              obtain ⟨F', k1, k2, k3⟩ := giveT_ok hS hu hg
              have hxl := forall₂_len k1
              rcases hS.blk r _ hb with ⟨L', h1, h2', h3, h4, h5⟩ | ⟨h1, _⟩
              · rw [hρ] at h1; cases h1
                have hth : w.there L.b (L.o + (i * L.sz + j)) us.length := by
                  obtain ⟨hn, hl, c, el, fr, hh, hsz, hf, hz, hc⟩ := h3
                  have hin : (i + 1) * L.sz ≤ L.n * L.sz := Nat.mul_le_mul_right _ (by have := (List.getElem?_eq_some_iff.1 hi).1; omega)
                  rw [Nat.add_mul] at hin
                  have := hl cs (List.mem_of_getElem? hi)
                  exact there_of hh hf (by omega)
                have hnF := ((k2.blk r _ hb').notF rfl hρ)
                obtain ⟨k4, k5⟩ := store_st k2 (blk := .ts sz (es.set i (splice cs j xs))) hb' rfl hρ (L.o + (i * L.sz + j)) us fun hN =>
                  .inl ⟨L, hρ, h2', rowOK_store (h3.mono rfl fun _ _ x => k3.rt x) (fun _ _ x => hN.rt x) hi (by omega) (forall₂_imp k1 fun _ _ x => hN.rt x), hnF.1, hnF.2.1⟩
                exact ⟨F', rfl, hth, k4, k3.trans k5⟩
              · rw [hρ] at h1; cases h1
            · cases hs
          · cases hs
        · cases hs
      · cases hs
    · cases hs
end Go.Proofs.YtdhejeigbjmncaaDoor.E

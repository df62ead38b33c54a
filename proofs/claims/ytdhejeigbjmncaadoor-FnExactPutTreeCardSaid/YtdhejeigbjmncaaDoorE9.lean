/- The evaluator's operations are those of the machine: what makes memory, conversions, builtins. Conditions: those of each lemma. -/
import Derived.Test.YtdhejeigbjmncaaDoorE8
namespace Go.Proofs.YtdhejeigbjmncaaDoor.E
set_option linter.unusedVariables false
set_option linter.unusedSimpArgs false

variable {P : Program} {w : World} {F : Nat → Prop} {ρ : Locs} {Ow : Own} {h : Heap}

theorem zero_ok {t : TypeId} {zs : List V} (hz : zeroOf P t = some zs) : ∃ inf z, P.info? t = some inf ∧ inf.zero = some z ∧ z.cells.size = inf.size ∧ RVs w F ρ z.cells.toList zs ∧ zs.length = szOf P t := by
  unfold zeroOf at hz
  split at hz
  · rename_i inf hinf
    split at hz
    · rename_i z hzz
      simp only at hz
      split at hz
      · rename_i hb
        cases hz
        simp only [Bool.and_eq_true, beq_iff_eq] at hb
        have hr := cstAll_rv (P := P) (w := w) (F := F) (ρ := ρ) z.cells.toList (leafs P 8 t)
        have := forall₂_len hr
        exact ⟨inf, z, hinf, hzz, hb.1, hr, by rw [← this]; simp [hb.1, szOf, Program.cellsOf, hinf]⟩
      · cases hz
    · cases hz
  · cases hz
theorem new_ptr (hS : St w F ρ Ow h) (hO : OkO Ow w ρ h) {arr : Array Value} {el : TypeId} {cs : List V} (hr : RVs w F ρ arr.toList cs) :
    ∃ ρ', RV (w.alloc (.cells arr el)) F ρ' (.pointer (some ⟨w.heap.size, 0, none⟩)) (.ptr (nI Ow.N h) 0 0) ∧ St (w.alloc (.cells arr el)) F ρ' Ow (nH Ow.N h (.vs cs.length [cs])) ∧ Nxt Ow w F ρ (w.alloc (.cells arr el)) F ρ' := by
  obtain ⟨ρ', k1, k2, k3⟩ := new_vs (el := el) hS hO hr
  refine ⟨ρ', ?_, k1, k2⟩
  have := RV.ptr (w := w.alloc (.cells arr el)) (F := F) (ρ := ρ') (nI Ow.N h) 0 0 _ k3
  simpa using this
theorem alloc_ok (hS : St w F ρ Ow h) (hO : OkO Ow w ρ h) {t : TypeId} {zs : List V} (hz : zeroOf P t = some zs) :
    Runs P w F ρ Ow (Instr.alloc t true (.tuple #[])) (.ptr (nI Ow.N h) 0 0) (nH Ow.N h (.vs zs.length [zs])) := by
  obtain ⟨inf, z, h1, h2, h3, h4, h5⟩ := zero_ok (w := w) (F := F) (ρ := ρ) hz
  obtain ⟨ρ', k1, k2, k3⟩ := new_ptr (el := t) hS hO h4
  exact ⟨_, F, ρ', _, by simp [Instr.alloc, run_zeroValue h1 h2, newVar, newRow], k1, k2, k3⟩
theorem box_ok (hS : St w F ρ Ow h) (hO : OkO Ow w ρ h) {t : TypeId} {u : Value} {v : V} (hu : RV w F ρ u v) (hv : (cellsV v).all okCell = true) :
    Runs P w F ρ Ow (Instr.box t u) (.ptr (nI Ow.N h) 0 0) (nH Ow.N h (.vs (cellsV v).length [cellsV v])) := by
  obtain ⟨ρ', k1, k2, k3⟩ := new_ptr (el := t) hS hO (rv_cells hu hv)
  exact ⟨_, F, ρ', _, by simp [Instr.box, newVar, newRow], k1, k2, k3⟩

/-! ### Literals -/
theorem foldl_set (off : Nat) : ∀ (l : List Value) (k : Nat) (cs : Array Value), off + k + l.length ≤ cs.size →
    ((l.zipIdx k).foldl (fun cs (x : Value × Nat) => cs.setIfInBounds (off + x.2) x.1) cs).size = cs.size ∧
    ∀ m, ((l.zipIdx k).foldl (fun cs (x : Value × Nat) => cs.setIfInBounds (off + x.2) x.1) cs)[m]? = if off + k ≤ m ∧ m < off + k + l.length then l[m - (off + k)]? else cs[m]?
  | [], k, cs, _ => ⟨rfl, fun m => by simp only [List.zipIdx_nil, List.foldl_nil, List.length_nil]; rw [if_neg (by omega)]⟩
  | x :: l, k, cs, hl => by
    simp only [List.length_cons] at hl
    simp only [List.zipIdx_cons, List.foldl_cons]
    obtain ⟨h1, h2⟩ := foldl_set off l (k + 1) (cs.setIfInBounds (off + k) x) (by simp; omega)
    refine ⟨by simpa using h1, fun m => ?_⟩
    rw [h2]
    simp only [List.length_cons]
    by_cases hm : off + k = m
    · subst hm
      rw [if_neg (by omega), if_pos (by omega)]
      simp [show off + k < cs.size by omega]
    · by_cases hm' : off + (k + 1) ≤ m ∧ m < off + (k + 1) + l.length
      · rw [if_pos hm', if_pos (by omega), show m - (off + k) = (m - (off + (k + 1))) + 1 by omega]; simp
      · rw [if_neg hm', if_neg (by omega), Array.getElem?_setIfInBounds_ne hm]
theorem foldl_splice (off : Nat) (v cs : Array Value) (hl : off + v.size ≤ cs.size) : (v.zipIdx.foldl (fun cs (c, j) => cs.setIfInBounds (off + j) c) cs).toList = splice cs.toList off v.toList := by
  have h1 : v.zipIdx.foldl (fun cs (c, j) => cs.setIfInBounds (off + j) c) cs = (v.toList.zipIdx 0).foldl (fun cs (x : Value × Nat) => cs.setIfInBounds (off + x.2) x.1) cs := by
    rw [← Array.foldl_toList]; simp
  obtain ⟨h2, h3⟩ := foldl_set off v.toList 0 cs (by simpa using hl)
  rw [h1]
  apply List.ext_getElem?
  intro m
  rw [Array.getElem?_toList, h3, splice_get (by simpa using hl)]
  simp
theorem rvs_splice {us vs' : List Value} {cs xs : List V} (h1 : RVs w F ρ us cs) (h2 : RVs w F ρ vs' xs) (j : Nat) : RVs w F ρ (splice us j vs') (splice cs j xs) := by
  unfold splice
  rw [forall₂_len h2]
  exact forall₂_append (forall₂_append (rvs_take h1 _) h2) (rvs_drop h1 _)
/-- a struct's places -/
def placesOf (P : Program) (fs : Array Go.Field) : Array (Nat × Nat) := fs.map fun f => (f.offset, szOf P f.type)
theorem run_places (fs : Array Go.Field) (hf : ∀ f ∈ fs, ∃ i, P.info? f.type = some i) : (fs.mapM (m := Sem) fun (f : Go.Field) => do pure (f.offset, ← sizeOf f.type)).run P w = .ok (placesOf P fs) w := by
  have key : ∀ l : List Go.Field, (∀ f ∈ l, ∃ i, P.info? f.type = some i) → (l.mapM (m := Sem) fun (f : Go.Field) => do pure (f.offset, ← sizeOf f.type)).run P w = .ok (l.map fun f => (f.offset, szOf P f.type)) w := by
    intro l
    induction l with
    | nil => intro _; simp
    | cons f l ih =>
      intro hl
      obtain ⟨i, hi⟩ := hl f (by simp)
      have ih' := ih fun f hf => hl f (by simp [hf])
      rw [List.mapM_cons, Sem.run_bind, Sem.run_bind, run_sizeOf hi]
      simp only [Result.andThen_ok, Sem.run_pure]
      rw [Sem.run_bind, ih']
      rfl
  rw [Array.mapM_eq_mapM_toList, Sem.run_map, key fs.toList (fun f hx => hf f (by simpa using hx))]
  simp only [Result.andThen_ok, placesOf]
  congr 1
  apply Array.ext'
  simp
theorem parts_rv {a : Act} {e : Env} (he : RE w F ρ a e) (ty : Nat → TypeId) : ∀ ps : List (Nat × Operand), All2 (fun (x : Nat × Value) (y : Nat × V) => x.1 = y.1 ∧ RV w F ρ x.2 y.2) (ps.map fun (i, x) => (i, a.eval x)) (partsV P e ty ps)
  | [] => .nil
  | (i, x) :: ps => by simp only [List.map_cons, partsV]; exact .cons ⟨rfl, opv_rv he _ _⟩ (parts_rv he ty ps)
theorem strOK_eq {t : TypeId} (ht : strOK P t = true) : ∃ fs, P.underlying t = some (.struct fs) ∧ ∀ f ∈ fs, ∃ i, P.info? f.type = some i := by
  unfold strOK at ht
  split at ht
  · rename_i fs hfs
    exact ⟨fs, hfs, fun f hf => Option.isSome_iff_exists.1 (List.all_eq_true.1 ht f (by simpa using hf))⟩
  · cases ht
theorem fill_ok {t : TypeId} {fs : Array Go.Field} (hfs : P.underlying t = some (.struct fs)) : ∀ {ps : List (Nat × Value)} {qs : List (Nat × V)} {arr : Array Value} {cs cs' : List V},
    All2 (fun (x : Nat × Value) (y : Nat × V) => x.1 = y.1 ∧ RV w F ρ x.2 y.2) ps qs → RVs w F ρ arr.toList cs → fillV P t cs qs = some cs' →
    ∃ arr', Instr.fill ((placesOf P fs)[·]?) arr ps = some arr' ∧ RVs w F ρ arr'.toList cs'
  | _, [], arr, cs, cs', hp, hr, hf => by cases hp; simp only [fillV] at hf; cases hf; exact ⟨arr, rfl, hr⟩
  | _, (i, v) :: qs, arr, cs, cs', hp, hr, hf => by
    cases hp with
    | cons hx hps =>
    rename_i x ps
    obtain ⟨j, uv⟩ := x
    obtain ⟨rfl, hv⟩ := hx
    simp only [fillV] at hf
    split at hf
    · rename_i o n a hfo
      obtain ⟨fs', f, inf, d, h1, h2, rfl, h4, h5, h6, h7, h8, h9⟩ := fOf_eq hfo
      rw [hfs] at h1; cases h1
      split at hf
      · rename_i hc
        obtain ⟨c1, c2, c3⟩ := hc
        have hcells := rv_cells hv c3
        have hl := forall₂_len hcells
        have hal := forall₂_len hr
        have hsz : uv.cells.size = n := by rw [← c1]; simpa using hl
        obtain ⟨arr', e1, e2⟩ := fill_ok hfs (arr := uv.cells.zipIdx.foldl (fun cs (c, j) => cs.setIfInBounds (f.offset + j) c) arr) hps (by
          rw [foldl_splice _ _ _ (by rw [hsz]; simp at hal; omega)]
          exact rvs_splice hr hcells _) hf
        refine ⟨arr', ?_, e2⟩
        have hpl : (placesOf P fs)[j]? = some (f.offset, n) := by simp [placesOf, Array.getElem?_map, h2, h9]
        simp only [Instr.fill, hpl]
        rw [if_neg (by simp; constructor; · exact hsz
                       · rw [hsz]; simp at hal; omega)]
        exact e1
      · cases hf
    · cases hf
theorem build_ok (hS : St w F ρ Ow h) {t : TypeId} (ht : strOK P t = true) {zs cs : List V} (hz : zeroOf P t = some zs) {ps : Array (Nat × Value)} {qs : List (Nat × V)} (hp : All2 (fun (x : Nat × Value) (y : Nat × V) => x.1 = y.1 ∧ RV w F ρ x.2 y.2) ps.toList qs)
    (hf : fillV P t zs qs = some cs) : Runs P w F ρ Ow (Instr.build t ps) (.agg cs) h := by
  obtain ⟨fs, hfs, hall⟩ := strOK_eq ht
  obtain ⟨inf, z, h1, h2, h3, h4, h5⟩ := zero_ok (w := w) (F := F) (ρ := ρ) hz
  obtain ⟨arr', e1, e2⟩ := fill_ok hfs hp h4 hf
  refine Runs.same hS (u := .agg arr') ?_ (RV.agg' e2)
  simp only [Instr.build, Sem.run_bind, run_zeroValue h1 h2, Result.andThen_ok, run_underlying' hfs, run_places fs hall]
  simp only [e1, Sem.run_pure]
theorem fillS_ok {sz : Nat} : ∀ {ps : List (Nat × Value)} {qs : List (Nat × V)} {n : Nat} {css : List (List V)} {arr : Array Value},
    All2 (fun (x : Nat × Value) (y : Nat × V) => x.1 = y.1 ∧ RV w F ρ x.2 y.2) ps qs → fillS sz n qs = some css → (n + qs.length) * sz ≤ arr.size →
    ∃ arr' us, Instr.fill (fun i => some (i * sz, sz)) arr ps = some arr' ∧ arr'.size = arr.size ∧ RVs w F ρ us css.flatten ∧ us.length = qs.length * sz ∧ (∀ c ∈ css, c.length = sz) ∧ css.length = qs.length ∧
      (∀ m, arr'[m]? = if n * sz ≤ m ∧ m < (n + qs.length) * sz then us[m - n * sz]? else arr[m]?) ∧ (∀ c ∈ css, c.all okCell = true)
  | _, [], n, css, arr, hp, hf, hl => by
    cases hp; simp only [fillS] at hf; cases hf
    exact ⟨arr, [], rfl, rfl, .nil, by simp, (fun c hc => by cases hc), rfl, fun m => by simp only [List.length_nil, Nat.add_zero]; rw [if_neg (by omega)], fun c hc => by cases hc⟩
  | _, (i, v) :: qs, n, css, arr, hp, hf, hl => by
    cases hp with
    | cons hx hps =>
    rename_i x ps
    obtain ⟨j, uv⟩ := x
    obtain ⟨rfl, hv⟩ := hx
    simp only [fillS] at hf
    split at hf
    · rename_i hc
      obtain ⟨rfl, c1, c3⟩ := hc
      split at hf
      · rename_i r hr
        cases hf
        have hcells := rv_cells hv c3
        have hul := forall₂_len hcells
        have hsz : uv.cells.size = sz := by rw [← c1]; simpa using hul
        simp only [List.length_cons] at hl
        have m1 : (j + (qs.length + 1)) * sz = j * sz + sz + qs.length * sz := by rw [Nat.add_mul, Nat.add_mul]; omega
        have m2 : (j + 1 + qs.length) * sz = j * sz + sz + qs.length * sz := by rw [Nat.add_mul, Nat.add_mul]; omega
        have hfit : j * sz + uv.cells.size ≤ arr.size := by omega
        have hsplice := foldl_splice (j * sz) uv.cells arr hfit
        have hsize : (uv.cells.zipIdx.foldl (fun cs (c, j') => cs.setIfInBounds (j * sz + j') c) arr).size = arr.size := by
          have := congrArg List.length hsplice
          rw [splice_len (by simpa using hfit)] at this
          simpa using this
        obtain ⟨arr', us, e1, e2, e3, e4, e5, e6, e7, e8⟩ := fillS_ok (arr := uv.cells.zipIdx.foldl (fun cs (c, j') => cs.setIfInBounds (j * sz + j') c) arr) hps hr (by rw [hsize]; omega)
        refine ⟨arr', uv.cells.toList ++ us, ?_, by rw [e2, hsize], ?_, by simp only [List.length_append, List.length_cons, e4]; rw [Nat.add_mul]; simp [hsz]; omega, ?_, by simp [e6], fun m => ?_, ?_⟩
        · simp only [Instr.fill]
          rw [if_neg (by simp; constructor; · exact hsz
                         · omega)]
          exact e1
        · simp only [List.flatten_cons]; exact forall₂_append hcells e3
        · intro c hc
          rcases List.mem_cons.1 hc with rfl | hc
          · exact c1
          · exact e5 c hc
        · rw [e7]
          simp only [List.length_cons]
          have m3 : (j + 1) * sz = j * sz + sz := by rw [Nat.add_mul]; omega
          by_cases hm : (j + 1) * sz ≤ m ∧ m < (j + 1 + qs.length) * sz
          · rw [if_pos hm, if_pos (by omega), List.getElem?_append_right (by simp; omega)]
            congr 1; simp; omega
          · rw [if_neg hm, ← Array.getElem?_toList, hsplice, splice_get (by simpa using hfit)]
            by_cases hm2 : j * sz ≤ m ∧ m < j * sz + uv.cells.toList.length
            · rw [if_pos hm2, if_pos (by simp at hm2; omega), List.getElem?_append_left (by simp at hm2 ⊢; omega)]
            · rw [if_neg hm2, if_neg (by simp at hm2; omega)]; simp
        · intro c hc
          rcases List.mem_cons.1 hc with rfl | hc
          · exact c3
          · exact e8 c hc
      · cases hf
    · cases hf
theorem giveTs_ok : ∀ {css : List (List V)} {F : Nat → Prop} {h h' : Heap} {us : List Value} {es : List (List T)}, St w F ρ Ow h → RVs w F ρ us css.flatten → giveTs h css = some (es, h') →
    ∃ F', RTs w F' us es.flatten ∧ St w F' ρ Ow h' ∧ Nxt Ow w F ρ w F' ρ ∧ es.length = css.length ∧ (∀ (i : Nat) (c : List V) (e : List T), css[i]? = some c → es[i]? = some e → e.length = c.length)
  | [], F, h, h', us, es, hS, hu, hg => by simp only [giveTs] at hg; cases hg; cases hu; exact ⟨F, .nil, hS, Nxt.refl _ _ _ _, rfl, fun i c e hi => by simp at hi⟩
  | c :: css, F, h, h', us, es, hS, hu, hg => by
    simp only [giveTs] at hg
    split at hg
    · rename_i x h1 hx
      split at hg
      · rename_i xs h2 hxs
        cases hg
        simp only [List.flatten_cons] at hu
        have hl := forall₂_len hu
        simp only [List.length_append] at hl
        have e0 : us = us.take c.length ++ us.drop c.length := (List.take_append_drop _ _).symm
        have r1 : RVs w F ρ (us.take c.length) c := by
          have := rvs_take hu c.length
          simpa using this
        have r2 : RVs w F ρ (us.drop c.length) css.flatten := by
          have := rvs_drop hu c.length
          simpa using this
        obtain ⟨F1, k1, k2, k3⟩ := giveT_ok hS r1 hx
        obtain ⟨F2, k4, k5, k6, k7, k8⟩ := giveTs_ok k2 (k3.rvs r2) hxs
        refine ⟨F2, ?_, k5, k3.trans k6, by simp [k7], fun i c' e hi he => ?_⟩
        · rw [e0]; simp only [List.flatten_cons]
          exact forall₂_append (forall₂_imp k1 fun _ _ z => k6.rt z) k4
        · cases i with
          | zero =>
            simp at hi he; subst hi; subst he
            have := forall₂_len k1
            simp at this; omega
          | succ i => exact k8 i c' e (by simpa using hi) (by simpa using he)
      · cases hg
    · cases hg
mutual
theorem give_dead : ∀ (v : V) {h h' : Heap} {v' : V}, give h v = some (v', h') → h'.length = h.length ∧ ∀ i : Nat, h[i]? = some .dead → h'[i]? = some .dead
  | .sl r off len cap, h, h', v', hg => by
    simp only [give] at hg
    split at hg
    · rename_i sz es hb
      cases hg
      refine ⟨by simp, fun i hi => ?_⟩
      rw [List.getElem?_set_ne (fun e => by subst e; rw [hi] at hb; cases hb)]
      exact hi
    · cases hg; exact ⟨rfl, fun _ x => x⟩
    · cases hg
  | .nil sz, h, h', v', hg => by simp only [give] at hg; cases hg; exact ⟨rfl, fun _ x => x⟩
  | .agg cs, h, h', v', hg => by
    simp only [give] at hg
    split at hg
    · rename_i cs' h1 hc; cases hg; exact gives_dead cs hc
    · cases hg
  | .tup cs, h, h', v', hg => by
    simp only [give] at hg
    split at hg
    · rename_i cs' h1 hc; cases hg; exact gives_dead cs hc
    · cases hg
  | .t x, h, h', v', hg => by simp only [give] at hg; cases hg; exact ⟨rfl, fun _ x => x⟩
  | .fn f cs, h, h', v', hg => by
    simp only [give] at hg
    split at hg
    · cases hg; exact ⟨rfl, fun _ x => x⟩
    · cases hg
  | .ptr r i j, h, h', v', hg => by simp [give] at hg
  | .und, h, h', v', hg => by simp [give] at hg
  | .bad, h, h', v', hg => by simp [give] at hg
theorem gives_dead : ∀ (vs : List V) {h h' : Heap} {vs' : List V}, give.gives h vs = some (vs', h') → h'.length = h.length ∧ ∀ i : Nat, h[i]? = some .dead → h'[i]? = some .dead
  | [], h, h', vs', hg => by simp only [give.gives] at hg; cases hg; exact ⟨rfl, fun _ x => x⟩
  | v :: vs, h, h', vs', hg => by
    simp only [give.gives] at hg
    split at hg
    · rename_i x h1 h1e
      split at hg
      · rename_i xs h2 h2e
        cases hg
        obtain ⟨a1, a2⟩ := give_dead v h1e
        obtain ⟨b1, b2⟩ := gives_dead vs h2e
        exact ⟨b1.trans a1, fun i hi => b2 i (a2 i hi)⟩
      · cases hg
    · cases hg
end
theorem giveTs_dead : ∀ {css : List (List V)} {h h' : Heap} {es : List (List T)}, giveTs h css = some (es, h') → h'.length = h.length ∧ ∀ i : Nat, h[i]? = some .dead → h'[i]? = some .dead
  | [], h, h', es, hg => by simp only [giveTs] at hg; cases hg; exact ⟨rfl, fun _ x => x⟩
  | c :: css, h, h', es, hg => by
    simp only [giveTs] at hg
    split at hg
    · rename_i x h1 h1e
      split at hg
      · rename_i xs h2 h2e
        cases hg
        unfold giveT at h1e
        split at h1e
        · rename_i ys h3 h3e
          split at h1e
          · cases h1e
            obtain ⟨a1, a2⟩ := gives_dead c h3e
            obtain ⟨b1, b2⟩ := giveTs_dead h2e
            exact ⟨b1.trans a1, fun i hi => b2 i (a2 i hi)⟩
          · cases h1e
        · cases h1e
      · cases hg
    · cases hg
theorem giveTs_free (hO : OkO Ow w ρ h) {css : List (List V)} {h' : Heap} {es : List (List T)} (hg : giveTs h css = some (es, h')) : OkO Ow w ρ h' := by
  obtain ⟨h1, h2⟩ := giveTs_dead hg
  refine ⟨hO.blk, ?_, fun i hi => ⟨h2 i (hO.dead i hi).1, (hO.dead i hi).2⟩⟩
  have := hO.free
  cases hN : Ow.N <;> simp [hN, nI, h1] at this ⊢ <;> exact this
theorem buildSlice_ok (hS : St w F ρ Ow h) (hO : OkO Ow w ρ h) {t el : TypeId} (hel : elOf P t = some el) {ps : Array (Nat × Value)} {qs : List (Nat × V)}
    (hp : All2 (fun (x : Nat × Value) (y : Nat × V) => x.1 = y.1 ∧ RV w F ρ x.2 y.2) ps.toList qs) (hs0 : szOf P el ≠ 0) (hs1 : ¬ qs.length * szOf P el > 16777216) {css : List (List V)} (hf : fillS (szOf P el) 0 qs = some css) {es : List (List T)} {h' : Heap} (hg : giveTs h css = some (es, h')) {zs : List V} (hz : zeroOf P el = some zs) :
    Runs P w F ρ Ow (Instr.buildSlice t qs.length ps) (.sl (nI Ow.N h') 0 qs.length (some qs.length)) (nH Ow.N h' (.ts (szOf P el) es)) := by
  obtain ⟨hty, _, _⟩ := elOf_eq hel
  obtain ⟨inf, z, i1, i2, i3, i4, i5⟩ := zero_ok (w := w) (F := F) (ρ := ρ) hz
  have hszi : inf.size = szOf P el := by simp [szOf, Program.cellsOf, i1]
  have harr : ((Array.range (qs.length * szOf P el)).map (z.cells[· % z.cells.size]!)).size = qs.length * szOf P el := by simp
  obtain ⟨arr', us, e1, e2, e3, e4, e5, e6, e7, e8⟩ := fillS_ok (arr := (Array.range (qs.length * szOf P el)).map (z.cells[· % z.cells.size]!)) hp hf (by rw [harr]; simp)
  obtain ⟨F', k1, k2, k3, k4, k5⟩ := giveTs_ok hS e3 hg
  have harr' : arr'.toList = us := by
    apply List.ext_getElem?
    intro m
    rw [Array.getElem?_toList, e7]
    simp only [Nat.zero_mul, Nat.zero_le, true_and, Nat.zero_add, Nat.sub_zero]
    split
    · rfl
    · rename_i hm
      rw [Array.getElem?_eq_none (by rw [harr]; omega), List.getElem?_eq_none (by omega)]
  have hes : ∀ e ∈ es, e.length = szOf P el := fun e he => by
    obtain ⟨i, hi⟩ := List.mem_iff_getElem?.1 he
    have hil := (List.getElem?_eq_some_iff.1 hi).1
    have hc := List.getElem?_eq_getElem (l := css) (i := i) (by omega)
    rw [k5 i _ _ hc hi]
    exact e5 _ (List.getElem_mem _)
  have hsz' : arr'.size = qs.length * szOf P el := by rw [e2, harr]
  obtain ⟨ρ', n1, n2, n3⟩ := new_ts (w := w) (arr := arr') (el := el) (es := es) (sz := szOf P el) k2 (giveTs_free hO hg) hes (by rw [hsz', k4, e6]; exact Nat.le_refl _)
    (by rw [List.take_of_length_le (by rw [harr', k4, e6, e4]; exact Nat.le_refl _), harr']; exact k1)
  refine ⟨_, F', ρ', .slice (some ⟨w.heap.size, 0, none⟩) qs.length qs.length, ?_, ?_, n1, k3.trans n2⟩
  · by_cases hl : qs.length = 0
    · have hq : qs = [] := List.eq_nil_of_length_eq_zero hl
      subst hq
      cases hp' : ps.toList with
      | cons x l => rw [hp'] at hp; cases hp
      | nil =>
        have ha : arr' = #[] := by
          apply Array.ext'; rw [harr']; exact List.eq_nil_of_length_eq_zero (by simpa using e4)
        simp only [List.length_nil, Nat.zero_mul] at e1
        rw [hp'] at e1
        simp only [Instr.fill, Option.some.injEq] at e1
        have hr0 : ∀ f : Nat → Value, Array.map f (Array.range 0) = #[] := fun f => by apply Array.ext'; simp
        simp [Instr.buildSlice, run_underlying' hty, run_sizeOf i1, hp', Instr.fill, newRow, ha, hr0]
    · have hne : ¬ qs.length * inf.size = 0 := by
        rw [hszi]; exact Nat.mul_ne_zero hl hs0
      exact run_buildSlice w t el qs.length ps arr' inf z hty i1 i2 (by rw [hszi]; simpa using hs1) hne (by rw [hszi]; exact e1)
  · refine .sl _ 0 _ _ _ _ _ n3 (.inl (by simp)) (Nat.le_refl _) (by simp [k4, e6]) (fun hcap => by cases hcap) (fun k hk => by cases hk; rfl) (fun _ => ?_)
    simp only [Nat.zero_add]; rw [hsz']; exact Nat.le_refl _
end Go.Proofs.YtdhejeigbjmncaaDoor.E

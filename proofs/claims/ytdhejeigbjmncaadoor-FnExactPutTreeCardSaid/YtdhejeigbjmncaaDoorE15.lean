/- From the evaluator's answer to a law's row: what is read as data is what the evaluator works on. Conditions: those of each lemma. -/
import Derived.Test.YtdhejeigbjmncaaDoorE14
import Derived.ProofKit
import Derived.ReadAgain
import Derived.ChangeSame
namespace Go.Proofs.YtdhejeigbjmncaaDoor.E
set_option linter.unusedVariables false
set_option linter.unusedSimpArgs false

/-- cells of a type -/
inductive WT (P : Program) : TypeId → List T → Prop
  | int (t : TypeId) (k : IntKind) (n : Int) (h : P.underlying t = some (.int k)) (hw : (Lit.int k n).wf = true) : WT P t [.int k n]
  | bool (t : TypeId) (b : Bool) (h : P.underlying t = some .bool) : WT P t [.bool b]
  | str (t : TypeId) (l : List UInt8) (h : P.underlying t = some .string) (hl : l.length ≤ maxLen) : WT P t [.str l]
  | list (t e : TypeId) (es : List (List T)) (h : P.underlying t = some (.slice e)) (hl : es.length ≤ maxLen) (hs : ∀ c ∈ es, WT P e c) : WT P t [.list (P.cellsOf e) es]
  | struct (t : TypeId) (fs : Array Go.Field) (cs : List T) (h : P.underlying t = some (.struct fs)) (hl : cs.length = P.cellsOf t)
      (hs : ∀ f ∈ fs.toList, WT P f.type ((cs.drop f.offset).take (P.cellsOf f.type))) : WT P t cs
inductive WTA (P : Program) : List TypeId → List V → Prop
  | nil : WTA P [] []
  | cons (t : TypeId) (ts : List TypeId) (cs : List T) (v : V) (vs : List V) (h : WT P t cs) (hp : packV (aggOf P t) (cs.map .t) = some v) (hs : WTA P ts vs) : WTA P (t :: ts) (v :: vs)
/-- fields one behind the other -/
def inRow (P : Program) (size : Nat) : Nat → List Go.Field → Bool
  | o, [] => o == size
  | o, f :: fs => f.offset == o && inRow P size (o + P.cellsOf f.type) fs
/-- a closed set of plain types -/
def okTypes (P : Program) (l : List TypeId) : Bool := l.all fun t => match P.underlying t with
  | some (.int _) | some .bool | some .string => P.cellsOf t == 1
  | some (.slice e) => l.contains e && decide (0 < P.cellsOf e) && P.cellsOf t == 1
  | some (.struct fs) => (fs.toList.all fun f => l.contains f.type) && inRow P (P.cellsOf t) 0 fs.toList
  | _ => false

theorem mapM_some {α β : Type} {f : α → Option β} : ∀ {l : List α} {r : List β}, l.mapM f = some r → r.length = l.length ∧ ∀ (i : Nat) (x : α), l[i]? = some x → ∃ y, r[i]? = some y ∧ f x = some y
  | [], r, h => by simp at h; subst h; exact ⟨rfl, fun i x hi => by simp at hi⟩
  | a :: l, r, h => by
    rw [List.mapM_cons] at h
    cases ha : f a with
    | none => simp [ha] at h
    | some b =>
      cases hl : l.mapM f with
      | none => simp [ha, hl] at h
      | some r' =>
        simp [ha, hl] at h
        subst h
        obtain ⟨h1, h2⟩ := mapM_some hl
        refine ⟨by simp [h1], fun i x hi => ?_⟩
        cases i with
        | zero => simp at hi; subst hi; exact ⟨b, rfl, ha⟩
        | succ i => exact h2 i x (by simpa using hi)
theorem cells_some {w : World} {base : Nat} {a : Addr} {n : Nat} {cs : List Value} (h : w.cells? base a n = some cs) : cs.length = n ∧ ∀ j, j < n → ∃ u, cs[j]? = some u ∧ w.cell? (a.add j) = some u := by
  unfold World.cells? at h
  split at h
  · obtain ⟨h1, h2⟩ := mapM_some h
    refine ⟨by simpa using h1, fun j hj => ?_⟩
    obtain ⟨u, e1, e2⟩ := h2 j j (by simp [hj])
    exact ⟨u, e1, e2⟩
  · cases h

variable {P : Program} {w : World} {H : Type} {enc : TypeId × Value → H}

theorem okT_get {l : List TypeId} (ho : okTypes P l = true) {t : TypeId} (ht : t ∈ l) : (match P.underlying t with
  | some (.int _) | some .bool | some .string => P.cellsOf t == 1
  | some (.slice e) => l.contains e && decide (0 < P.cellsOf e) && P.cellsOf t == 1
  | some (.struct fs) => (fs.toList.all fun f => l.contains f.type) && inRow P (P.cellsOf t) 0 fs.toList
  | _ => false) = true := List.all_eq_true.1 ho t ht

theorem fields_rt {size : Nat} {cs : List Value} (hcs : cs.length = size) : ∀ (fs : List Go.Field) (o : Nat), inRow P size o fs = true →
    (∀ f ∈ fs, ∃ ts, RTs w (fun b => b < w.heap.size) ((cs.drop f.offset).take (P.cellsOf f.type)) ts ∧ WT P f.type ts) →
    o ≤ size ∧ ∃ ts, RTs w (fun b => b < w.heap.size) (cs.drop o) ts ∧ ∀ f ∈ fs, o ≤ f.offset ∧ WT P f.type ((ts.drop (f.offset - o)).take (P.cellsOf f.type))
  | [], o, hr, _ => by
    simp only [inRow, beq_iff_eq] at hr
    subst hr
    exact ⟨Nat.le_refl _, [], by rw [List.drop_of_length_le (by omega)]; exact .nil, fun f hf => by cases hf⟩
  | f :: fs, o, hr, he => by
    simp only [inRow, Bool.and_eq_true, beq_iff_eq] at hr
    obtain ⟨rfl, hr⟩ := hr
    obtain ⟨k1, ts', k2, k3⟩ := fields_rt hcs fs _ hr (fun g hg => he g (by simp [hg]))
    obtain ⟨tf, t1, t2⟩ := he f (by simp)
    have hlen : tf.length = P.cellsOf f.type := by rw [← forall₂_len t1]; simp; omega
    refine ⟨by omega, tf ++ ts', ?_, fun g hg => ?_⟩
    · have := forall₂_append t1 k2
      rwa [← List.drop_drop, List.take_append_drop] at this
    · rcases List.mem_cons.1 hg with rfl | hg
      · refine ⟨Nat.le_refl _, ?_⟩
        rw [Nat.sub_self, List.drop_zero, List.take_append_of_le_length (by omega), List.take_of_length_le (by omega)]
        exact t2
      · obtain ⟨g1, g2⟩ := k3 g hg
        refine ⟨by omega, ?_⟩
        have e1 : (tf ++ ts').drop (g.offset - f.offset) = ts'.drop (g.offset - (f.offset + P.cellsOf f.type)) := by
          rw [List.drop_append, List.drop_of_length_le (by omega), List.nil_append]
          congr 1; omega
        rw [e1]; exact g2
theorem trod_rt {l : List TypeId} (ho : okTypes P l = true) {spare : Nat → Bool} {held : Bool} {base : Nat} : ∀ (n : Nat) (t : TypeId), t ∈ l → ∀ (cs : List Value) (x : DataW H × List MemPlace), DataW.trod enc P w base spare held n t cs = some x →
    ∃ ts : List T, RTs w (fun b => b < w.heap.size) cs ts ∧ WT P t ts := by
  intro n
  induction n with
  | zero => intro t _ cs x h; simp [DataW.trod] at h
  | succ n ih =>
    intro t ht cs x h
    have hok := okT_get ho ht
    unfold DataW.trod at h
    split at h
    · rename_i b hu
      exact ⟨[.bool b], .cons (.bool b) .nil, .bool t b hu⟩
    · rename_i k k' m hu
      split at h
      · rename_i hk
        obtain ⟨rfl, hw⟩ := hk
        exact ⟨[.int k' m], .cons (.int k' m) .nil, .int t k' m hu hw⟩
      · cases h
    · rename_i hu; rw [hu] at hok; cases hok
    · rename_i s hu
      split at h
      · rename_i hs
        exact ⟨[.str s.data.toList], .cons (.str s _ rfl) .nil, .str t _ hu (by simpa using hs)⟩
      · cases h
    · rename_i hu; rw [hu] at hok; cases hok
    · rename_i hu; rw [hu] at hok; cases hok
    · rename_i e hu
      refine ⟨[.list (P.cellsOf e) []], .cons (rt_nil _ none _) .nil, .list t e [] hu (Nat.zero_le _) (fun c hc => by cases hc)⟩
    · rename_i e ad len cap hu
      rw [hu] at hok
      simp only [Bool.and_eq_true, List.contains_iff_mem, decide_eq_true_eq] at hok
      obtain ⟨⟨he, hpos⟩, hone⟩ := hok
      split at h
      · rename_i hc
        cases hm : (List.range len).mapM fun i => (w.cells? base (ad.add (i * P.cellsOf e)) (P.cellsOf e)).bind (DataW.trod enc P w base spare held n e) with
        | none => simp [hm] at h
        | some elems =>
          obtain ⟨m1, m2⟩ := mapM_some hm
          have each : ∀ i, i < len → ∃ (csi : List Value) (tsi : List T), w.cells? base (ad.add (i * P.cellsOf e)) (P.cellsOf e) = some csi ∧ RTs w (fun b => b < w.heap.size) csi tsi ∧ WT P e tsi := fun i hi => by
            obtain ⟨y, _, hy⟩ := m2 i i (by simp [hi])
            cases hcs : w.cells? base (ad.add (i * P.cellsOf e)) (P.cellsOf e) with
            | none => simp [hcs] at hy
            | some csi =>
              simp [hcs] at hy
              obtain ⟨tsi, t1, t2⟩ := ih e he csi y hy
              exact ⟨csi, tsi, rfl, t1, t2⟩
          have hex : ∃ f : Nat → List T, ∀ i, i < len → ∃ csi : List Value, w.cells? base (ad.add (i * P.cellsOf e)) (P.cellsOf e) = some csi ∧ RTs w (fun b => b < w.heap.size) csi (f i) ∧ WT P e (f i) :=
            ⟨fun i => if hi : i < len then (each i hi).choose_spec.choose else [], fun i hi => by
              simp only [hi, dif_pos]
              exact ⟨(each i hi).choose, (each i hi).choose_spec.choose_spec⟩⟩
          obtain ⟨f, hf⟩ := hex
          refine ⟨[.list (P.cellsOf e) ((List.range len).map f)], .cons ?_ .nil, .list t e _ hu (by simp; omega) (fun c hc => ?_)⟩
          · refine .list (some ad) len cap (P.cellsOf e) _ (fun i j => (w.cell? ((ad.add (i * P.cellsOf e)).add j)).getD undef) (by simp) hc.2.1 (fun hp => ?_) (fun c hc => ?_) (fun i j cs x hi hj => ?_)
            · obtain ⟨csi, e1, e2, e3⟩ := hf 0 hp
              obtain ⟨c1, c2⟩ := cells_some e1
              obtain ⟨u, u1, u2⟩ := c2 0 hpos
              have hadd0 : (ad.add (0 * P.cellsOf e)).add 0 = ad := by simp [Addr.add]
              rw [hadd0] at u2
              obtain ⟨b, o, spot⟩ := ad
              have hspot : spot = none := by
                cases spot with
                | none => rfl
                | some s => unfold World.cell? at u2; split at u2 <;> simp at u2
              subst hspot
              refine ⟨b, o, rfl, ?_, fun i j hi hj => ?_⟩
              · unfold World.cell? at u2
                split at u2
                · rename_i hh; exact (Array.getElem?_eq_some_iff.1 hh).1
                · cases u2
              · obtain ⟨csi, e1, e2, e3⟩ := hf i hi
                obtain ⟨c1, c2⟩ := cells_some e1
                obtain ⟨u, u1, u2⟩ := c2 j hj
                simp only [Addr.add_mid] at u2 ⊢
                rw [u2, show o + (i * P.cellsOf e + j) = o + i * P.cellsOf e + j by omega, u2]
                rfl
            · simp only [List.mem_map, List.mem_range] at hc
              obtain ⟨i, hi, rfl⟩ := hc
              obtain ⟨csi, e1, e2, e3⟩ := hf i hi
              rw [← forall₂_len e2]; exact (cells_some e1).1
            · have hil : i < len := by have := (List.getElem?_eq_some_iff.1 hi).1; simpa using this
              simp [hil] at hi
              subst hi
              obtain ⟨csi, e1, e2, e3⟩ := hf i hil
              obtain ⟨c1, c2⟩ := cells_some e1
              obtain ⟨u, u1, u2⟩ := forall₂_get e2 j x hj
              have hjl : j < P.cellsOf e := by rw [← c1]; exact (List.getElem?_eq_some_iff.1 u1).1
              obtain ⟨u', u3, u4⟩ := c2 j hjl
              rw [u1] at u3; cases u3
              rw [u4]; exact u2
          · simp only [List.mem_map, List.mem_range] at hc
            obtain ⟨i, hi, rfl⟩ := hc
            exact (hf i hi).choose_spec.2.2
      · cases h
    · rename_i cs _ _ fs hu
      rw [hu] at hok
      simp only [List.all_eq_true, Bool.and_eq_true, List.contains_iff_mem] at hok
      obtain ⟨hmem, hrow⟩ := hok
      split at h
      · rename_i hl
        cases hm : fs.toList.mapM fun f => DataW.trod enc P w base spare held n f.type ((cs.drop f.offset).take (P.cellsOf f.type)) with
        | none => simp [hm] at h
        | some xs =>
          obtain ⟨_, m2⟩ := mapM_some hm
          obtain ⟨_, ts, t1, t2⟩ := fields_rt hl fs.toList 0 hrow fun f hf => by
            obtain ⟨i, hi⟩ := List.mem_iff_getElem?.1 hf
            obtain ⟨y, _, hy⟩ := m2 i f hi
            exact ih f.type (hmem f hf) _ y hy
          simp only [List.drop_zero] at t1
          refine ⟨ts, t1, .struct t fs ts hu (by rw [← forall₂_len t1]; exact hl) fun f hf => ?_⟩
          have := (t2 f hf).2
          simpa using this
      · cases h
    all_goals first
      | (rename_i hu; rw [hu] at hok; cases hok; done)
      | (cases h; done)

theorem pack_one {t : TypeId} {ts : List T} (hw : WT P t ts) : ∃ v, packV (aggOf P t) (ts.map .t) = some v := by
  cases hw with
  | int t k n h => simp [packV, aggOf, h]
  | bool t b h => simp [packV, aggOf, h]
  | str t l h => simp [packV, aggOf, h]
  | list t e es h => simp [packV, aggOf, h]
  | struct t fs cs h => simp [packV, aggOf, h]
theorem one_cell {r : Reach} {b : Nat} {t : TypeId} {v : Value} (ha : aggOf P t = false) (hok : Value.okWide P w r b t v) : v.cells = #[v] := by
  cases v with
  | agg cs =>
    exfalso
    unfold Value.okWide at hok
    split at hok
    · rename_i h; simp [aggOf, h] at ha
    · rename_i h; simp [aggOf, h] at ha
    · unfold Cell.okWide at hok
      split at hok
      all_goals first
        | (rename_i h1 h2; cases h2; done)
        | skip
      all_goals (unfold Cell.ok at hok; split at hok <;> first | (rename_i h1 h2; cases h2; done) | exact hok)
  | _ => rfl
theorem args_rt {l : List TypeId} (ho : okTypes P l = true) {base : Nat} {r : Reach} {b : Nat} : ∀ (ts : List TypeId), (∀ t ∈ ts, t ∈ l) → ∀ (vs : List Value) (ds : List (DataW H)) (ps : List MemPlace), DataW.TrodAll enc P w base (fun _ => true) true ts vs ds ps →
    (∀ (j : Nat) t v, ts[j]? = some t → vs[j]? = some v → Value.okWide P w r b t v) →
    ∃ xs, RVs w (fun b => b < w.heap.size) noRows vs xs ∧ WTA P ts xs
  | [], _, vs, ds, ps, h, _ => by
    cases vs with
    | nil => exact ⟨[], .nil, .nil⟩
    | cons => simp [DataW.TrodAll] at h
  | t :: ts, hl, vs, ds, ps, h, hagg => by
    cases vs with
    | nil => simp [DataW.TrodAll] at h
    | cons v vs =>
    cases ds with
    | nil => simp [DataW.TrodAll] at h
    | cons d ds =>
      obtain ⟨p, q, ⟨n, hn⟩, h2, _⟩ := h
      obtain ⟨cs, c1, c2⟩ := trod_rt ho n t (hl t (by simp)) _ _ hn
      obtain ⟨x, hx⟩ := pack_one c2
      obtain ⟨xs, x1, x2⟩ := args_rt ho ts (fun t ht => hl t (by simp [ht])) vs ds q h2 (fun j t' v' h1 h2 => hagg (j + 1) t' v' (by simpa using h1) (by simpa using h2))
      refine ⟨x :: xs, .cons ?_ x1, .cons t ts cs x xs c2 hx x2⟩
      obtain ⟨k1, k2⟩ := packV_rv hx (rts_rvs (ρ := noRows) c1)
      have hv := hagg 0 t v rfl rfl
      cases ha : aggOf P t with
      | true =>
        have := k1 ha
        have hag : ∃ cs, v = .agg cs := by
          unfold Value.okWide at hv
          split at hv
          · obtain ⟨cs, e, _⟩ := hv; exact ⟨cs, e⟩
          · obtain ⟨cs, e, _⟩ := hv; exact ⟨cs, e⟩
          · rename_i h1 h2
            unfold aggOf at ha
            split at ha
            · rename_i h; exact absurd h (h1 _)
            · rename_i h; exact absurd h (h2 _ _)
            · cases ha
        obtain ⟨cs', rfl⟩ := hag
        simpa [Value.cells] using this
      | false =>
        obtain ⟨u, hu, hr⟩ := k2 ha
        have h1 := one_cell ha hv
        rw [h1] at hu
        have : v = u := by simpa using hu
        rw [this]; exact hr

theorem same_of {w' : World} {F F' : Nat → Prop} (hn : Nxt (own fun b => w.heap.size ≤ b) w F noRows w' F' noRows) (p : MemPlace) (hp : p.block < w.heap.size) : w.sameAt w' p := by
  cases p with
  | cell b off =>
    have hb : b < w.heap.size := hp
    have h := hn.keep b hb (Nat.not_le.2 hb)
    unfold World.sameAt World.cell?
    simp only [h]
  | map b =>
    have hb : b < w.heap.size := hp
    exact hn.keep b hb (Nat.not_le.2 hb)
theorem trodAll_carry {w' : World} {base : Nat} {spare : Nat → Bool} {held : Bool} : ∀ {ts : List TypeId} {vs : List Value} {ds : List (DataW H)} {ps : List MemPlace}, DataW.TrodAll enc P w base spare held ts vs ds ps → (∀ p ∈ ps, w.sameAt w' p) → DataW.TrodAll enc P w' base spare held ts vs ds ps
  | [], [], [], _, h, _ => h
  | _ :: _, _ :: _, _ :: _, _, ⟨p, q, ⟨n, h1⟩, h2, e⟩, hs =>
    ⟨p, q, ⟨n, DataW.trod_carry n _ _ _ h1 fun x hx => hs x (by rw [e]; exact List.mem_append_left _ hx)⟩, trodAll_carry h2 fun x hx => hs x (by rw [e]; exact List.mem_append_right _ hx), e⟩
/-- a law's row out of the evaluator's answer -/
theorem row_of {pol : Pol} {W : World} (hE : ExtOK P W pol) (hP : ∀ f fn c, pol.no f = false → P.funcs[f]? = some fn → fn.body = some c → codeOK (drOK P pol f) fn.ntmps c = true)
    {f : Func} {g : Nat} {s : ChangeSpec} {base : Nat} {args : Array Value} {ds gs : List (DataW H)} {before : List MemPlace} {l : List TypeId} {tb : TypeId} {T : TypeId → Prop}
    (ho : okTypes P l = true) (hl : ∀ t ∈ f.params.toList, t ∈ l) (hvars : s.vars = [])
    (hK : Kids P T) (hz : ∀ t e, T t → P.underlying t = some (.slice e) → 0 < P.cellsOf e) (hT : ∀ t ∈ f.params.toList, T t)
    (hval : ∀ (j : Nat) t v, f.params[j]? = some t → args[j]? = some v → Value.okWide P W .any base t v)
    (hW : DataW.Whole enc P f.params.toList s.vars false W args.toList ds gs before)
    (hfn : gs = [] → (s.fn H (ds ++ gs)).results = [.lit (.bool true)] ∧ (s.fn H (ds ++ gs)).args = ds ∧ (s.fn H (ds ++ gs)).vars = [])
    (hr : f.resultTypes = #[tb]) (hb : P.underlying tb = some .bool)
    (hev : ∀ xs, WTA P f.params.toList xs → EV P pol (.call g xs []) = some (.call (.t (.bool true)) [])) :
    Calls P g args W fun e W' => ∃ v, e = .returned v ∧ s.post enc P f false true false false W args v W' := by
  have hW0 := hW
  obtain ⟨p, q, hA, hV, rfl, hfz, hnd⟩ := hW
  rw [hvars] at hV
  obtain ⟨rfl, rfl⟩ := Go.ChangeShapes.trodVars_none hV
  obtain ⟨hf1, hf2, hf3⟩ := hfn rfl
  obtain ⟨xs, x1, x2⟩ := args_rt ho f.params.toList hl args.toList ds p hA (fun j t v h1 h2 => hval j t v (by simpa using h1) (by simpa using h2))
  refine (EV_call hE hP (hev xs x2) W (fun b => b < W.heap.size) args ⟨Nat.le_refl _, fun b hb => hb, fun b hb => rfl⟩ (fun b h => h) x1).mono fun e W' ⟨u, F', he, hru, hF', hn⟩ => ?_
  have hu : u = .bool true := by cases hru with | t u x h => cases h; rfl
  subst hu
  refine ⟨_, he, ds, [], p ++ [], [], p, [], hW0, ?_, ?_, ?_, ?_, by simp⟩
  · rw [hf1, hr]
    exact Go.ChangeShapes.trodAll_mk1 (Go.RowKit.shut_bool hb true)
  · rw [hf2]
    have h1 := DataW.TrodAll.respare (spare' := fun b => decide (b < W.heap.size)) hK hz hT hA (fun x hx => by simpa using hA.lt x hx)
    exact trodAll_carry h1 fun x hx => same_of hn x (hA.lt x hx)
  · rw [hf3, hvars]; rfl
  · refine ⟨hn.os, hn.output, fun i hi => ?_⟩
    rw [hn.keep i hi (Nat.not_le.2 hi)]
    have : W.heap[i]? = some W.heap[i] := Array.getElem?_eq_getElem hi
    rw [this]
    generalize W.heap[i] = c
    cases c <;> simp
end Go.Proofs.YtdhejeigbjmncaaDoor.E

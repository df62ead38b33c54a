/- The evaluator's operations are those of the machine: what changes rows. Conditions: those of each lemma. -/
import Derived.Test.YtdhejeigbjmncaaDoorE3
namespace Go.Proofs.YtdhejeigbjmncaaDoor.E
set_option linter.unusedVariables false
set_option linter.unusedSimpArgs false

variable {P : Program} {w : World} {F : Nat → Prop} {ρ : Locs} {Ow : Own} {h : Heap}

theorem RB.notF {r : Nat} {b : Blk} (hb : RB w F ρ Ow r b) (hw : writes b = true) {L : Loc} (hρ : ρ r = some (some L)) : ¬ F L.b ∧ Ow L.b ∧ L.b < w.heap.size := by
  cases b with
  | ts sz es =>
    rcases hb with ⟨L', h1, h2, h3, h4, h5⟩ | ⟨h1, h2⟩
    · rw [hρ] at h1; cases h1
      obtain ⟨_, _, c, el, fr, hh, _⟩ := h3
      exact ⟨h4, h5, (Array.getElem?_eq_some_iff.1 hh).1⟩
    · rw [hρ] at h1; cases h1
  | vs sz es =>
    rcases hb with ⟨L', h1, h2, h3, h4, h5⟩ | ⟨h1, h2⟩
    · rw [hρ] at h1; cases h1
      obtain ⟨_, _, c, el, fr, hh, _⟩ := h3
      exact ⟨h4, h5, (Array.getElem?_eq_some_iff.1 hh).1⟩
    · rw [hρ] at h1; cases h1
  | fz | dead => simp [writes] at hw
theorem RB.some {r : Nat} {b : Blk} (hb : RB w F ρ Ow r b) (hw : b ≠ .dead) : ∃ l, ρ r = some l := by
  cases b with
  | ts | vs | fz => rcases hb with ⟨L', h1, _⟩ | ⟨h1, h2⟩ <;> exact ⟨_, h1⟩
  | dead => exact absurd rfl hw

/-- a state under a change of the world -/
theorem St.next {w' : World} {F' : Nat → Prop} {ρ' : Locs} {h' : Heap} (hS : St w F ρ Ow h) (hN : Nxt Ow w F ρ w' F' ρ') (hout : ∀ r, h'.length ≤ r → ρ' r = none) (hfsz : ∀ b, F' b → b < w'.heap.size)
    (hb : ∀ r b, h'[r]? = some b → (h[r]? = some b ∧ ∀ L, ρ r = some (some L) → writes b = true → w'.heap[L.b]? = w.heap[L.b]? ∧ ¬ F' L.b) ∨
      (RB w' F' ρ' Ow r b ∧ ∀ L, ρ' r = some (some L) → writes b = true → ∀ r' b' L', r' ≠ r → h'[r']? = some b' → writes b' = true → ρ' r' = some (some L') → L'.b ≠ L.b)) : St w' F' ρ' Ow h' := by
  refine ⟨fun r b hr => ?_, fun r r' b b' L L' hr hr' hw hw' hL hL' he => ?_, hfsz, hout⟩
  · rcases hb r b hr with ⟨h1, h2⟩ | ⟨h1, _⟩
    · exact (hS.blk r b h1).mono hN.agree hN.grow hN.ext h2
    · exact h1
  · rcases hb r b hr with ⟨h1, h2⟩ | ⟨h1, h2⟩
    · rcases hb r' b' hr' with ⟨h3, h4⟩ | ⟨h3, h4⟩
      · obtain ⟨l, hl⟩ := (hS.blk r b h1).some (by intro e; subst e; simp [writes] at hw)
        obtain ⟨l', hl'⟩ := (hS.blk r' b' h3).some (by intro e; subst e; simp [writes] at hw')
        have e1 := hN.ext _ _ hl
        have e2 := hN.ext _ _ hl'
        rw [e1] at hL; cases hL
        rw [e2] at hL'; cases hL'
        exact hS.inj r r' b b' L L' h1 h3 hw hw' hl hl' he
      · rcases Nat.lt_or_ge r r' with hlt | hge
        · exact absurd he (h4 L' hL' hw' r b L (by omega) hr hw hL)
        · rcases Nat.lt_or_ge r' r with hlt' | hge'
          · exact absurd he (h4 L' hL' hw' r b L (by omega) hr hw hL)
          · omega
    · rcases Nat.lt_or_ge r r' with hlt | hge
      · exact absurd he.symm (h2 L hL hw r' b' L' (by omega) hr' hw' hL')
      · rcases Nat.lt_or_ge r' r with hlt' | hge'
        · exact absurd he.symm (h2 L hL hw r' b' L' (by omega) hr' hw' hL')
        · omega

/-- what of a row a slice shows, once nobody writes it -/
theorem rt_of_row {F' : Nat → Prop} {u : Value} {r off len sz : Nat} {cap : Option Nat} {es : List (List T)} {L : Loc} (hρ : ρ r = some (some L)) (hu : RV w F ρ u (.sl r off len cap)) (hL : L.sz = sz)
    (hr : RowOK w L es (RT w F')) (hF : F' L.b) : RT w F' u (.list sz ((es.drop off).take len)) := by
  cases hu with
  | slP r cap a hρ' hc => rw [hρ] at hρ'; cases hρ'
  | sl r off len cap L' a c hρ' ha hl hn hc0 hc1 hz =>
    rw [hρ] at hρ'; cases hρ'
    subst hL
    obtain ⟨h1, h2, cc, el, fr, hh, hs, hf, hzz, hc⟩ := hr
    refine .list a len c L.sz _ (fun i j => (cc[L.o + ((off + i) * L.sz + j)]?).getD undef) (by simp; omega) hl (fun hp => ?_) (fun e he => h2 e (List.mem_of_mem_drop (List.mem_of_mem_take he))) fun i j cs x hi hj => ?_
    · have hne : ¬ c = 0 := by omega
      refine ⟨L.b, L.o + off * L.sz, ha.resolve_right hne, hF, fun i j hi hj => ?_⟩
      have hi' : off + i < es.length := by omega
      obtain ⟨u, hu, _⟩ := hc (off + i) j _ _ (List.getElem?_eq_getElem hi') (List.getElem?_eq_getElem (by rw [h2 _ (List.getElem_mem hi')]; exact hj))
      rw [hu]
      unfold World.cell?
      rw [hh]
      simp only [Option.isSome_none, Option.getD_some]
      rw [show L.o + off * L.sz + (i * L.sz + j) = L.o + ((off + i) * L.sz + j) by rw [Nat.add_mul]; omega]
      simpa using hu
    · rw [List.getElem?_take] at hi
      split at hi
      · rw [List.getElem?_drop] at hi
        obtain ⟨u, hu, hru⟩ := hc (off + i) j _ _ hi hj
        rw [hu]; exact hru
      · cases hi
theorem rt_nil (F' : Nat → Prop) (a : Option Addr) (sz : Nat) : RT w F' (.slice a 0 0) (.list sz []) :=
  .list a 0 0 sz [] (fun _ _ => undef) rfl (Nat.le_refl _) (fun h => absurd h (by omega)) (fun e he => by cases he) (fun i j cs x hi => by simp at hi)

theorem give_row (hS : St w F ρ Ow h) {r off len sz : Nat} {cap : Option Nat} {es : List (List T)} (hb : h[r]? = some (.ts sz es)) {u : Value} (hu : RV w F ρ u (.sl r off len cap)) :
    ∃ F', RV w F' ρ u (.t (.list sz ((es.drop off).take len))) ∧ St w F' ρ Ow (h.set r (.fz sz es)) ∧ Nxt Ow w F ρ w F' ρ := by
  rcases hS.blk r _ hb with ⟨L, h1, h2, h3, h4, h5⟩ | ⟨h1, h2⟩
  · have hsz : L.b < w.heap.size := by
      obtain ⟨_, _, c, el, fr, hh, _⟩ := h3
      exact (Array.getElem?_eq_some_iff.1 hh).1
    have hN : Nxt Ow w F ρ w (fun b => F b ∨ b = L.b) ρ :=
      ⟨rfl, rfl, rfl, Nat.le_refl _, fun _ _ _ => rfl, fun _ _ => rfl, fun _ x => .inl x, fun b x => x.imp id fun (e : b = L.b) => e ▸ h5, Ext.refl _, fun _ _ => rfl⟩
    have h3' : RowOK w L es (RT w (fun b => F b ∨ b = L.b)) := h3.mono rfl fun u x hx => hx.mono hN.agree hN.grow
    refine ⟨_, .t _ _ (rt_of_row h1 hu h2 h3' (.inr rfl)), hS.next hN (fun r' hr' => hS.out r' (by simpa using hr')) (fun b x => x.elim (hS.fsz b) fun (e : b = L.b) => e ▸ hsz) (fun r' b' hr' => ?_), hN⟩
    rw [List.getElem?_set] at hr'
    split at hr'
    · rename_i e; subst e
      split at hr'
      · cases hr'
        exact .inr ⟨.inl ⟨L, h1, h2, h3', .inr rfl⟩, fun L' _ hw => by simp [writes] at hw⟩
      · cases hr'
    · rename_i hne
      refine .inl ⟨hr', fun L' hL' hw => ⟨rfl, ?_⟩⟩
      rintro (x | x)
      · exact ((hS.blk r' b' hr').notF hw hL').1 x
      · exact hne (hS.inj r r' _ b' L L' hb hr' rfl hw h1 hL' x.symm)
  · subst h2
    cases hu with
    | sl r off len cap L a c hρ' => rw [h1] at hρ'; cases hρ'
    | slP r cap a hρ hc =>
      have hN := Nxt.refl Ow w F ρ
      refine ⟨F, .t _ _ (by simpa using rt_nil F a sz), hS.next hN (fun r' hr' => hS.out r' (by simpa using hr')) hS.fsz (fun r' b' hr' => ?_), hN⟩
      rw [List.getElem?_set] at hr'
      split at hr'
      · rename_i e; subst e
        split at hr'
        · cases hr'
          exact .inr ⟨.inr ⟨h1, rfl⟩, fun L' _ hw => by simp [writes] at hw⟩
        · cases hr'
      · exact .inl ⟨hr', fun L' hL' hw => ⟨rfl, ((hS.blk r' b' hr').notF hw hL').1⟩⟩
theorem give_fz (hS : St w F ρ Ow h) {r off len sz : Nat} {cap : Option Nat} {es : List (List T)} (hb : h[r]? = some (.fz sz es)) {u : Value} (hu : RV w F ρ u (.sl r off len cap)) :
    RV w F ρ u (.t (.list sz ((es.drop off).take len))) := by
  rcases hS.blk r _ hb with ⟨L, h1, h2, h3, h4⟩ | ⟨h1, h2⟩
  · exact .t _ _ (rt_of_row h1 hu h2 h3 h4)
  · subst h2
    cases hu with
    | sl r off len cap L a c hρ' => rw [h1] at hρ'; cases hρ'
    | slP r cap a hρ hc => exact .t _ _ (by simpa using rt_nil F a sz)
theorem nil_list {ρ' : Locs} {u : Value} {sz : Nat} (hu : RV w F ρ u (.nil sz)) : RV w F ρ' u (.t (.list sz [])) := by
  cases hu; exact .t _ _ (rt_nil F none sz)
theorem any_t {ρ' : Locs} {u : Value} {x : T} (hu : RV w F ρ u (.t x)) : RV w F ρ' u (.t x) := by
  cases hu with
  | t _ _ hx => exact .t _ _ hx
theorem fn_t {ρ' : Locs} {u : Value} {f : Nat} {caps : List V} {xs : List T} (hu : RV w F ρ u (.fn f caps)) (hx : allT caps = some xs) : RV w F ρ' u (.t (.fn f xs)) := by
  cases hu with
  | fn f vs cs g hs hg hr => exact .t _ _ (RT.fn' (allT_rts (rvs_of hs hg hr) hx))

mutual
theorem give_ok (ρ' : Locs) : ∀ (v : V) {F : Nat → Prop} {h h' : Heap} {u : Value} {v' : V}, St w F ρ Ow h → RV w F ρ u v → give h v = some (v', h') →
    ∃ F', RV w F' ρ' u v' ∧ St w F' ρ Ow h' ∧ Nxt Ow w F ρ w F' ρ
  | .sl r off len cap, F, h, h', u, v', hS, hu, hg => by
    simp only [give] at hg
    split at hg
    · rename_i sz es hb; cases hg; obtain ⟨F', k1, k2, k3⟩ := give_row hS hb hu; exact ⟨F', any_t k1, k2, k3⟩
    · rename_i sz es hb; cases hg; exact ⟨F, any_t (give_fz hS hb hu), hS, Nxt.refl _ _ _ _⟩
    · cases hg
  | .nil sz, F, h, h', u, v', hS, hu, hg => by
    simp only [give] at hg; cases hg
    exact ⟨F, nil_list hu, hS, Nxt.refl _ _ _ _⟩
  | .agg cs, F, h, h', u, v', hS, hu, hg => by
    simp only [give] at hg
    split at hg
    · rename_i cs' h1 he; cases hg
      cases hu with
      | agg vs cs g hs hg' hr =>
        obtain ⟨F', k1, k2, k3⟩ := gives_ok ρ' cs hS (rvs_of hs hg' hr) he
        exact ⟨F', RV.agg' k1, k2, k3⟩
    · cases hg
  | .tup cs, F, h, h', u, v', hS, hu, hg => by
    simp only [give] at hg
    split at hg
    · rename_i cs' h1 he; cases hg
      cases hu with
      | tup vs cs g hs hg' hr =>
        obtain ⟨F', k1, k2, k3⟩ := gives_ok ρ' cs hS (rvs_of hs hg' hr) he
        exact ⟨F', RV.tup' k1, k2, k3⟩
    · cases hg
  | .t x, F, h, h', u, v', hS, hu, hg => by
    simp only [give] at hg; cases hg
    exact ⟨F, any_t hu, hS, Nxt.refl _ _ _ _⟩
  | .fn f caps, F, h, h', u, v', hS, hu, hg => by
    simp only [give] at hg
    split at hg
    · rename_i xs hx; cases hg; exact ⟨F, fn_t hu hx, hS, Nxt.refl _ _ _ _⟩
    · cases hg
  | .ptr _ _ _, F, h, h', u, v', hS, hu, hg => by simp [give] at hg
  | .und, F, h, h', u, v', hS, hu, hg => by simp [give] at hg
  | .bad, F, h, h', u, v', hS, hu, hg => by simp [give] at hg
theorem gives_ok (ρ' : Locs) : ∀ (vs : List V) {F : Nat → Prop} {h h' : Heap} {us : List Value} {vs' : List V}, St w F ρ Ow h → RVs w F ρ us vs → give.gives h vs = some (vs', h') →
    ∃ F', RVs w F' ρ' us vs' ∧ St w F' ρ Ow h' ∧ Nxt Ow w F ρ w F' ρ
  | [], F, h, h', us, vs', hS, hu, hg => by
    simp only [give.gives] at hg; cases hg; cases hu
    exact ⟨F, .nil, hS, Nxt.refl _ _ _ _⟩
  | v :: vs, F, h, h', us, vs', hS, hu, hg => by
    simp only [give.gives] at hg
    split at hg
    · rename_i x h1 he
      split at hg
      · rename_i xs h2 he2; cases hg
        cases hu with
        | cons hv hvs =>
          obtain ⟨F1, k1, k2, k3⟩ := give_ok ρ' v hS hv he
          obtain ⟨F2, k4, k5, k6⟩ := gives_ok ρ' vs k2 (k3.rvs hvs) he2
          exact ⟨F2, .cons (k1.mono k6.agree k6.grow (Ext.refl _)) k4, k5, k3.trans k6⟩
      · cases hg
    · cases hg
end

mutual
theorem asArg_ok (ρ' : Locs) : ∀ (v : V) {u : Value} {v' : V}, RV w F ρ u v → asArg v = some v' → RV w F ρ' u v'
  | .nil sz, u, v', hu, hg => by simp only [asArg] at hg; cases hg; exact nil_list hu
  | .agg cs, u, v', hu, hg => by
    simp only [asArg] at hg
    split at hg
    · rename_i cs' he; cases hg
      cases hu with
      | agg vs cs g hs hg' hr => exact RV.agg' (asArgs_ok ρ' cs (rvs_of hs hg' hr) he)
    · cases hg
  | .tup cs, u, v', hu, hg => by
    simp only [asArg] at hg
    split at hg
    · rename_i cs' he; cases hg
      cases hu with
      | tup vs cs g hs hg' hr => exact RV.tup' (asArgs_ok ρ' cs (rvs_of hs hg' hr) he)
    · cases hg
  | .t x, u, v', hu, hg => by simp only [asArg] at hg; cases hg; exact any_t hu
  | .fn f caps, u, v', hu, hg => by
    simp only [asArg] at hg
    split at hg
    · rename_i xs hx; cases hg; exact fn_t hu hx
    · cases hg
  | .sl _ _ _ _, u, v', hu, hg => by simp [asArg] at hg
  | .ptr _ _ _, u, v', hu, hg => by simp [asArg] at hg
  | .und, u, v', hu, hg => by simp [asArg] at hg
  | .bad, u, v', hu, hg => by simp [asArg] at hg
theorem asArgs_ok (ρ' : Locs) : ∀ (vs : List V) {us : List Value} {vs' : List V}, RVs w F ρ us vs → asArg.asArgs vs = some vs' → RVs w F ρ' us vs'
  | [], us, vs', hu, hg => by simp only [asArg.asArgs] at hg; cases hg; cases hu; exact .nil
  | v :: vs, us, vs', hu, hg => by
    simp only [asArg.asArgs] at hg
    split at hg
    · rename_i x he
      split at hg
      · rename_i xs he2; cases hg
        cases hu with
        | cons hv hvs => exact .cons (asArg_ok ρ' v hv he) (asArgs_ok ρ' vs hvs he2)
      · cases hg
    · cases hg
end
end Go.Proofs.YtdhejeigbjmncaaDoor.E

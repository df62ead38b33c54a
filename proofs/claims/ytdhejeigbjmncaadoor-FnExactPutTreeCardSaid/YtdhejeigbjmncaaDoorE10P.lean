/- What rows become under other numbers: for loops, for calls on a caller's own rows; what rows show while nobody writes them. Conditions: those of each lemma. -/
import Derived.Test.YtdhejeigbjmncaaDoorE10
namespace Go.Proofs.YtdhejeigbjmncaaDoor.E
set_option linter.unusedVariables false
set_option linter.unusedSimpArgs false

variable {P : Program} {w : World} {F : Nat → Prop} {ρ : Locs} {Ow : Own} {h : Heap}

/-! ### Rows under new numbers -/
theorem idx_get {ids : List Nat} {r i : Nat} (hi : idx ids r = some i) : ids[i]? = some r := by
  unfold idx at hi
  split at hi
  · rename_i hlt
    cases hi
    rw [List.getElem?_eq_getElem hlt, List.getElem_idxOf hlt]
  · cases hi
def renLocs (ρ : Locs) (ids : List Nat) : Locs := fun i => (ids[i]?).bind ρ
mutual
theorem ren_gen {mp : Nat → Option Nat} {ρ2 : Locs} (hm : ∀ r r', mp r = some r' → ∀ l, ρ r = some l → ρ2 r' = some l) : ∀ (v : V) {u : Value}, RV w F ρ u v → RV w F ρ2 u (ren mp v)
  | .sl r off len cap, u, hu => by
    simp only [ren]
    split
    · rename_i r' hr
      cases hu with
      | sl r off len cap L a c hρ ha h1 hn hc0 hc1 hz => exact .sl r' off len cap L a c (hm _ _ hr _ hρ) ha h1 hn hc0 hc1 hz
      | slP r cap a hρ hc => exact .slP r' cap a (hm _ _ hr _ hρ) hc
    · exact .bad _
  | .ptr r i j, u, hu => by
    simp only [ren]
    split
    · rename_i r' hr
      cases hu with
      | ptr r i j L hρ => exact .ptr r' i j L (hm _ _ hr _ hρ)
    · exact .bad _
  | .agg cs, u, hu => by
    simp only [ren]
    cases hu with
    | agg vs cs g hs hg hr => exact RV.agg' (rens_gen hm cs (rvs_of hs hg hr))
  | .tup cs, u, hu => by
    simp only [ren]
    cases hu with
    | tup vs cs g hs hg hr => exact RV.tup' (rens_gen hm cs (rvs_of hs hg hr))
  | .fn f cs, u, hu => by
    simp only [ren]
    cases hu with
    | fn f vs cs g hs hg hr => exact RV.fn' (rens_gen hm cs (rvs_of hs hg hr))
  | .t x, u, hu => by simp only [ren]; exact any_t hu
  | .nil sz, u, hu => by simp only [ren]; cases hu; exact .nil sz
  | .und, u, hu => by simp only [ren]; generalize hz : V.und = z at hu; cases hu <;> first | exact .und | cases hz
  | .bad, u, hu => by simp only [ren]; exact .bad _
theorem rens_gen {mp : Nat → Option Nat} {ρ2 : Locs} (hm : ∀ r r', mp r = some r' → ∀ l, ρ r = some l → ρ2 r' = some l) : ∀ (vs : List V) {us : List Value}, RVs w F ρ us vs → RVs w F ρ2 us (ren.rens mp vs)
  | [], us, hu => by cases hu; simp only [ren.rens]; exact .nil
  | v :: vs, us, hu => by
    cases hu with
    | cons h1 h2 => simp only [ren.rens]; exact .cons (ren_gen hm v h1) (rens_gen hm vs h2)
end
theorem ren_locs (ids : List Nat) (r r' : Nat) (hr : idx ids r = some r') (l : Option Loc) (hl : ρ r = some l) : renLocs ρ ids r' = some l := by
  have hg := idx_get hr
  simp [renLocs, hg, hl]
theorem ren_ok (ids : List Nat) (v : V) {u : Value} (hu : RV w F ρ u v) : RV w F (renLocs ρ ids) u (ren (idx ids) v) := ren_gen (ren_locs ids) v hu
theorem rens_ok (ids : List Nat) (vs : List V) {us : List Value} (hu : RVs w F ρ us vs) : RVs w F (renLocs ρ ids) us (ren.rens (idx ids) vs) := rens_gen (ren_locs ids) vs hu
theorem rens_len (m : Nat → Option Nat) : ∀ vs : List V, (ren.rens m vs).length = vs.length
  | [] => rfl
  | v :: vs => by simp [ren.rens, rens_len m vs]
theorem rens_get (m : Nat → Option Nat) : ∀ (vs : List V) (j : Nat), (ren.rens m vs)[j]? = (vs[j]?).map (ren m)
  | [], j => by simp [ren.rens]
  | v :: vs, 0 => by simp [ren.rens]
  | v :: vs, j + 1 => by simp [ren.rens, rens_get m vs j]
theorem renB_gen {mp : Nat → Option Nat} {ρ2 : Locs} {Ow2 : Own} (hm : ∀ r r', mp r = some r' → ∀ l, ρ r = some l → ρ2 r' = some l) {r i : Nat} {b : Blk} (hl : b ≠ .dead → ρ2 i = ρ r) (hOw : ∀ L, writes b = true → ρ r = some (some L) → Ow L.b → Ow2 L.b)
    (hb : RB w F ρ Ow r b) : RB w F ρ2 Ow2 i (renB mp b) := by
  cases b with
  | ts sz es =>
    have hl := hl (by simp)
    rcases hb with ⟨L, h1, h2, h3, h4, h5⟩ | ⟨h1, h2⟩
    · exact .inl ⟨L, hl.trans h1, h2, h3, h4, hOw L rfl h1 h5⟩
    · exact .inr ⟨hl.trans h1, h2⟩
  | fz sz es =>
    have hl := hl (by simp)
    rcases hb with ⟨L, h1, h2, h3, h4⟩ | ⟨h1, h2⟩
    · exact .inl ⟨L, hl.trans h1, h2, h3, h4⟩
    · exact .inr ⟨hl.trans h1, h2⟩
  | dead => trivial
  | vs sz es =>
    have hl := hl (by simp)
    rcases hb with ⟨L, h1, h2, h3, h4, h5⟩ | ⟨h1, h2⟩
    · refine .inl ⟨L, hl.trans h1, h2, ?_, h4, hOw L rfl h1 h5⟩
      obtain ⟨k1, k2, c, el, fr, k3, k4, k5, k6, k7⟩ := h3
      refine ⟨by simpa using k1, fun e he => ?_, c, el, fr, k3, k4, k5, k6, fun i' j cs x hi' hj => ?_⟩
      · simp only [List.mem_map] at he
        obtain ⟨e0, he0, rfl⟩ := he
        rw [rens_len]; exact k2 e0 he0
      · rw [List.getElem?_map] at hi'
        cases hes : es[i']? with
        | none => simp [hes] at hi'
        | some e0 =>
          simp [hes] at hi'
          subst hi'
          rw [rens_get] at hj
          cases he0 : e0[j]? with
          | none => simp [he0] at hj
          | some x0 =>
            simp [he0] at hj
            subst hj
            obtain ⟨u, hu, hru⟩ := k7 i' j e0 x0 hes he0
            exact ⟨u, hu, ren_gen hm x0 hru⟩
    · refine .inr ⟨hl.trans h1, by simp [h2]⟩
theorem renB_ok {r : Nat} {b : Blk} (ids : List Nat) {i : Nat} (hi : ids[i]? = some r) (hb : RB w F ρ Ow r b) : RB w F (renLocs ρ ids) Ow i (renB (idx ids) b) :=
  renB_gen (ren_locs ids) (fun _ => by simp [renLocs, hi]) (fun _ _ _ h => h) hb
theorem writes_renB (m : Nat → Option Nat) (b : Blk) : writes (renB m b) = writes b := by cases b <;> rfl

theorem nodups_ok : ∀ (l seen : List Nat), seen.Nodup → (nodups seen l).Nodup
  | [], seen, hs => hs
  | r :: l, seen, hs => by
    simp only [nodups]
    split
    · exact nodups_ok l seen hs
    · rename_i hr
      refine nodups_ok l _ ?_
      rw [List.nodup_append]
      exact ⟨hs, by simp, fun a ha b hb => by simp at hb; subst hb; exact fun e => hr (e ▸ ha)⟩
theorem reach_ok (h : Heap) : ∀ (n : Nat) (ids : List Nat), ids.Nodup → (reach h n ids).Nodup
  | 0, ids, hs => hs
  | n + 1, ids, hs => by simp only [reach]; exact reach_ok h n _ (nodups_ok _ _ hs)
theorem nodups_pre : ∀ (l seen : List Nat), ∃ t, nodups seen l = seen ++ t
  | [], seen => ⟨[], by simp [nodups]⟩
  | r :: l, seen => by
    simp only [nodups]
    split
    · exact nodups_pre l seen
    · obtain ⟨t, ht⟩ := nodups_pre l (seen ++ [r])
      exact ⟨r :: t, by rw [ht]; simp⟩
theorem reach_pre (h : Heap) : ∀ (n : Nat) (ids : List Nat), ∃ t, reach h n ids = ids ++ t
  | 0, ids => ⟨[], by simp [reach]⟩
  | n + 1, ids => by
    simp only [reach]
    obtain ⟨t, ht⟩ := nodups_pre (ids.flatMap (blkRefs h)) ids
    obtain ⟨t', ht'⟩ := reach_pre h n (nodups ids (ids.flatMap (blkRefs h)))
    exact ⟨t ++ t', by rw [ht', ht]; simp⟩
/-- the first rows keep their numbers -/
theorem pack_first (m : Nat) (vals : List V) (h : Heap) (r : Nat) (hr : r < m) : (reach h 3 (nodups (List.range m) (refs.refss vals)))[r]? = some r := by
  obtain ⟨t, ht⟩ := nodups_pre (refs.refss vals) (List.range m)
  obtain ⟨t', ht'⟩ := reach_pre h 3 (nodups (List.range m) (refs.refss vals))
  rw [ht', ht, List.append_assoc, List.getElem?_append_left (by simpa using hr)]
  simp [hr]
def fRows (ids : List Nat) (h : Heap) : Heap := ids.map fun r => renB (idx ids) (h[r]?.getD .dead)
theorem pack_ids {ids : List Nat} (hnd : ids.Nodup) (hS : St w F ρ Ow h) : St w F (renLocs ρ ids) Ow (fRows ids h) := by
  unfold fRows
  refine ⟨fun i b hi => ?_, fun i j b b' L L' hi hj hw hw' hL hL' heq => ?_, hS.fsz, fun i hi => ?_⟩
  · simp only [List.getElem?_map] at hi
    cases hr : ids[i]? with
    | none => simp [hr] at hi
    | some r =>
      simp [hr] at hi
      subst hi
      cases hb : h[r]? with
      | none => simp [renB]; trivial
      | some b0 => simp; exact renB_ok ids hr (hS.blk r b0 hb)
  · simp only [List.getElem?_map] at hi hj
    cases hr : ids[i]? with
    | none => simp [hr] at hi
    | some r =>
    cases hr' : ids[j]? with
    | none => simp [hr'] at hj
    | some r' =>
      simp [hr] at hi
      simp [hr'] at hj
      subst hi; subst hj
      rw [writes_renB] at hw hw'
      cases hb : h[r]? with
      | none => simp [hb, writes] at hw
      | some b0 =>
      cases hb' : h[r']? with
      | none => simp [hb', writes] at hw'
      | some b1 =>
        simp [hb] at hw
        simp [hb'] at hw'
        have e1 : ρ r = some (some L) := by rw [← hL]; simp [renLocs, hr]
        have e2 : ρ r' = some (some L') := by rw [← hL']; simp [renLocs, hr']
        have := hS.inj r r' b0 b1 L L' hb hb' hw hw' e1 e2 heq
        subst this
        have hi1 := (List.getElem?_eq_some_iff.1 hr)
        have hj1 := (List.getElem?_eq_some_iff.1 hr')
        obtain ⟨x1, x2⟩ := hi1
        obtain ⟨y1, y2⟩ := hj1
        have hpw := List.pairwise_iff_getElem.1 hnd
        rcases Nat.lt_or_ge i j with hlt | hge
        · exact absurd (x2.trans y2.symm) (hpw i j x1 y1 hlt)
        · rcases Nat.lt_or_ge j i with hlt | hge'
          · exact absurd (y2.trans x2.symm) (hpw j i y1 x1 hlt)
          · omega
  · simp only [List.length_map] at hi
    simp [renLocs, List.getElem?_eq_none hi]



theorem pack_st {m : Nat} {vals : List V} (hS : St w F ρ Ow h) {us : List Value} (hu : RVs w F ρ us vals) :
    ∃ ρ', RVs w F ρ' us (packH m vals h).1 ∧ St w F ρ' Ow (packH m vals h).2 ∧ ∀ r, r < m → ρ' r = ρ r := by
  have hfirst := pack_first m vals h
  have hnd : (reach h 3 (nodups (List.range m) (refs.refss vals))).Nodup := reach_ok h 3 _ (nodups_ok _ _ List.nodup_range)
  exact ⟨renLocs ρ _, rens_ok _ vals hu, pack_ids hnd hS, fun r hr => by simp [renLocs, hfirst r hr]⟩

def noRows : Locs := fun _ => none
theorem noRows_ext (ρ : Locs) : Ext noRows ρ := fun _ _ h => by cases h
/-! ### Open calls: a part of the rows, and back -/
/-- what an open call may write: its rows' blocks, and new ones -/
def openOwn (Ow : Own) (w : World) (ρ : Locs) (h : Heap) : Own :=
  own fun b => Ow b ∧ (w.heap.size ≤ b ∨ ∃ i bl L, h[i]? = some bl ∧ writes bl = true ∧ ρ i = some (some L) ∧ L.b = b)
theorem open_st {ids : List Nat} (hS : St w F (renLocs ρ ids) Ow (fRows ids h)) : St w F (renLocs ρ ids) (openOwn Ow w (renLocs ρ ids) (fRows ids h)) (fRows ids h) := by
  refine ⟨fun r b hr => ?_, hS.inj, hS.fsz, hS.out⟩
  have h0 := hS.blk r b hr
  have sub : ∀ L, renLocs ρ ids r = some (some L) → writes b = true → Ow L.b → (openOwn Ow w (renLocs ρ ids) (fRows ids h)) L.b := fun L h1 h2 h3 => ⟨h3, .inr ⟨r, b, L, hr, h2, h1, rfl⟩⟩
  cases b with
  | ts sz es =>
    rcases h0 with ⟨L, h1, h2, h3, h4, h5⟩ | h0
    · exact .inl ⟨L, h1, h2, h3, h4, sub L h1 rfl h5⟩
    · exact .inr h0
  | vs sz es =>
    rcases h0 with ⟨L, h1, h2, h3, h4, h5⟩ | h0
    · exact .inl ⟨L, h1, h2, h3, h4, sub L h1 rfl h5⟩
    · exact .inr h0
  | fz sz es => exact h0
  | dead => trivial
theorem liveB_iff {k : Nat} : liveB h k = true ↔ ∃ b, h[k]? = some b ∧ b ≠ .dead := by
  unfold liveB
  cases hk : h[k]? with
  | none => simp
  | some b => cases b <;> simp
theorem layBack_len (mp : Nat → Option Nat) (h0 : Heap) : ∀ (ids : List Nat) (bs h : Heap), (layBack mp h0 ids bs h).length = h.length
  | [], bs, h => by simp [layBack]
  | i :: is, [], h => by simp [layBack]
  | i :: is, b :: bs, h => by simp only [layBack]; rw [layBack_len]; split <;> simp
theorem layBack_off (mp : Nat → Option Nat) (h0 : Heap) {k : Nat} : ∀ (ids : List Nat) (bs h : Heap), (k ∈ ids → liveB h0 k = false) → (layBack mp h0 ids bs h)[k]? = h[k]?
  | [], bs, h, _ => by simp [layBack]
  | i :: is, [], h, _ => by simp [layBack]
  | i :: is, b :: bs, h, hk => by
    simp only [layBack]
    rw [layBack_off mp h0 is bs _ fun hx => hk (by simp [hx])]
    split
    · rename_i hl
      by_cases e : i = k
      · subst e; rw [hk (by simp)] at hl; cases hl
      · exact List.getElem?_set_ne e
    · rfl
theorem layBack_on (mp : Nat → Option Nat) (h0 : Heap) {k : Nat} (hl : liveB h0 k = true) : ∀ (ids : List Nat) (bs h : Heap) (j : Nat) (b : Blk), ids.Nodup → ids[j]? = some k → bs[j]? = some b → k < h.length → (layBack mp h0 ids bs h)[k]? = some (renB mp b)
  | [], bs, h, j, b, _, hi, _, _ => by simp at hi
  | i :: is, [], h, j, b, _, _, hb, _ => by simp at hb
  | i :: is, b0 :: bs, h, j, b, hnd, hi, hb, hk => by
    simp only [layBack]
    have hnd' := List.nodup_cons.1 hnd
    cases j with
    | zero =>
      simp at hi hb
      subst hi; subst hb
      rw [layBack_off mp h0 is bs _ fun hx => absurd hx hnd'.1, if_pos hl]
      simp [hk]
    | succ j =>
      refine layBack_on mp h0 hl is bs _ j b hnd'.2 (by simpa using hi) (by simpa using hb) ?_
      split <;> simpa using hk
theorem open_back {ids : List Nat} (hnd : ids.Nodup) (hS : St w F ρ Ow h) (hz : ∀ r, Ow.z r → r < h.length) {w' : World} {F' : Nat → Prop} {ρ' : Locs} {h1 h2 : Heap} {u : Value} {v v2 : V} {N : Option Nat} (hb : openBack N ids v h1 h = some (v2, h2))
    (hu : RV w' F' ρ' u v) (hS1 : St w' F' ρ' (openOwn Ow w (renLocs ρ ids) (fRows ids h)) h1) (hN : Nxt (openOwn Ow w (renLocs ρ ids) (fRows ids h)) w F noRows w' F' noRows) (hk : ∀ r l, r < ids.length → renLocs ρ ids r = some l → ρ' r = some l) :
    ∃ ρ2, RV w' F' ρ2 u v2 ∧ St w' F' ρ2 Ow h2 ∧ Nxt Ow w F ρ w' F' ρ2 := by
  unfold openBack at hb
  split at hb
  · cases hb
  rename_i hc
  simp only [Bool.or_eq_true, decide_eq_true_eq, not_or, Nat.not_lt] at hc
  obtain ⟨hlen, -⟩ := hc
  cases hb
  let ρ2 : Locs := fun r => if r < h.length then ρ r else ρ' (ids.length + (r - h.length))
  have lo : ∀ r, r < h.length → ρ2 r = ρ r := fun r hr => if_pos hr
  have hi : ∀ t, ρ2 (h.length + t) = ρ' (ids.length + t) := fun t => by
    show (if h.length + t < h.length then _ else _) = _
    rw [if_neg (by omega)]; congr 1; omega
  have hext : Ext ρ ρ2 := fun r l hl => by
    rcases Nat.lt_or_ge r h.length with h1 | h1
    · rw [lo r h1]; exact hl
    · rw [hS.out r h1] at hl; cases hl
  -- a live row that came in
  have come : ∀ j k, ids[j]? = some k → liveB h k = true → k < h.length ∧ ρ2 k = ρ' j ∧ ∃ l, ρ k = some l := fun j k hj hl => by
    obtain ⟨b, hb, hne⟩ := liveB_iff.1 hl
    have hkl := (List.getElem?_eq_some_iff.1 hb).1
    obtain ⟨l, hl'⟩ := (hS.blk k b hb).some hne
    refine ⟨hkl, ?_, l, hl'⟩
    rw [lo k hkl, hl']
    exact (hk j l (List.getElem?_eq_some_iff.1 hj).1 (by simp [renLocs, hj, hl'])).symm
  have hm : ∀ r r', backN ids h r = some r' → ∀ l, ρ' r = some l → ρ2 r' = some l := fun r r' hr l hl => by
    unfold backN at hr
    split at hr
    · split at hr
      · rename_i k hk'
        split at hr
        · rename_i hlv
          cases hr
          rw [(come r _ hk' hlv).2.1]; exact hl
        · cases hr
      · cases hr
    · rename_i hge
      cases hr
      rw [hi, show ids.length + (r - ids.length) = r by omega]; exact hl
  -- rows by where they come from
  have orig : ∀ k b, (layBack (backN ids h) h ids h1 h ++ (h1.drop ids.length).map (renB (backN ids h)))[k]? = some b →
      (k < h.length ∧ h[k]? = some b ∧ (k ∈ ids → liveB h k = false)) ∨ ∃ j b1, h1[j]? = some b1 ∧ b = renB (backN ids h) b1 ∧ ρ2 k = ρ' j ∧ ((ids[j]? = some k ∧ liveB h k = true) ∨ (ids.length ≤ j ∧ k = h.length + (j - ids.length))) := fun k b hkb => by
    rcases Nat.lt_or_ge k h.length with hlt | hge
    · rw [List.getElem?_append_left (by rw [layBack_len]; exact hlt)] at hkb
      by_cases hin : k ∈ ids ∧ liveB h k = true
      · right
        obtain ⟨j, hj⟩ := List.mem_iff_getElem?.1 hin.1
        have hjl := (List.getElem?_eq_some_iff.1 hj).1
        have hbj := List.getElem?_eq_getElem (show j < h1.length by omega)
        rw [layBack_on _ h hin.2 ids h1 h j _ hnd hj hbj hlt] at hkb
        cases hkb
        exact ⟨j, _, hbj, rfl, (come j k hj hin.2).2.1, .inl ⟨hj, hin.2⟩⟩
      · have hoff : k ∈ ids → liveB h k = false := fun hx => by simpa [hx] using hin
        rw [layBack_off _ h ids h1 h hoff] at hkb
        exact .inl ⟨hlt, hkb, hoff⟩
    · rw [List.getElem?_append_right (by rw [layBack_len]; exact hge), layBack_len, List.getElem?_map, List.getElem?_drop] at hkb
      right
      cases hx : h1[ids.length + (k - h.length)]? with
      | none => simp [hx] at hkb
      | some b1 =>
        simp [hx] at hkb
        refine ⟨_, b1, hx, hkb.symm, ?_, .inr ⟨by omega, by omega⟩⟩
        have := hi (k - h.length)
        rwa [show h.length + (k - h.length) = k by omega] at this
  have hOw : ∀ b, (openOwn Ow w (renLocs ρ ids) (fRows ids h)) b → Ow b := fun b hx => hx.1
  -- a row that did not go in keeps its block
  have apart : ∀ k b, h[k]? = some b → (k ∈ ids → liveB h k = false) → writes b = true → ∀ L, ρ k = some (some L) → ¬ (openOwn Ow w (renLocs ρ ids) (fRows ids h)) L.b := fun k b hb hoff hw L hL hx => by
    obtain ⟨h3, h4, h5⟩ := (hS.blk k b hb).notF hw hL
    obtain ⟨_, hx | ⟨i, bl, L', hi', hw', hL', he⟩⟩ := hx
    · omega
    · simp only [fRows, List.getElem?_map] at hi'
      cases hr : ids[i]? with
      | none => simp [hr] at hi'
      | some r =>
        simp [hr] at hi'
        subst hi'
        rw [writes_renB] at hw'
        cases hb' : h[r]? with
        | none => simp [hb', writes] at hw'
        | some b' =>
          simp [hb'] at hw'
          have e1 : ρ r = some (some L') := by rw [← hL']; simp [renLocs, hr]
          have := hS.inj k r b b' L L' hb hb' hw hw' hL e1 he.symm
          subst this
          have hlv := hoff (List.mem_of_getElem? hr)
          rw [hb'] at hb; cases hb
          have : liveB h k = true := liveB_iff.2 ⟨_, hb', by intro e; subst e; simp [writes] at hw⟩
          rw [hlv] at this; cases this
  have hkeep : ∀ k b, h[k]? = some b → (k ∈ ids → liveB h k = false) → ∀ L, ρ k = some (some L) → writes b = true → w'.heap[L.b]? = w.heap[L.b]? ∧ ¬ F' L.b := fun k b hb hoff L hL hw => by
    obtain ⟨h3, h4, h5⟩ := (hS.blk k b hb).notF hw hL
    have hno := apart k b hb hoff hw L hL
    exact ⟨hN.keep L.b h5 hno, fun hx => (hN.new L.b hx).elim h3 hno⟩
  refine ⟨ρ2, ren_gen hm v hu, ⟨fun k b hkb => ?_, fun k k' b b' L L' hkb hkb' hw hw' hL hL' he => ?_, hS1.fsz, fun k hk' => ?_⟩, ⟨hN.os, hN.tape, hN.output, hN.size, fun b hb ho => hN.keep b hb fun hx => ho (hOw b hx), hN.agree, hN.grow, fun b hb => (hN.new b hb).imp id (hOw b), hext, fun r hr => lo r (hz r hr)⟩⟩
  · rcases orig k b hkb with ⟨h3, h4, h5⟩ | ⟨j, b1, h3, rfl, h5, h6⟩
    · exact (hS.blk k b h4).mono hN.agree hN.grow hext (hkeep k b h4 h5)
    · exact renB_gen hm (fun _ => h5) (fun L _ _ hx => hOw _ hx) (hS1.blk j b1 h3)
  · have toOld : ∀ k b L, h[k]? = some b → ρ2 k = some (some L) → writes b = true → ρ k = some (some L) := fun k b L hb hL hw => by
      rw [← lo k (List.getElem?_eq_some_iff.1 hb).1]; exact hL
    rcases orig k b hkb with ⟨h3, h4, h5⟩ | ⟨j, b1, h3, rfl, h5, h6⟩
    · have hL0 := toOld k b L h4 hL hw
      rcases orig k' b' hkb' with ⟨g3, g4, g5⟩ | ⟨j', b1', g3, rfl, g5, g6⟩
      · exact hS.inj k k' b b' L L' h4 g4 hw hw' hL0 (toOld k' b' L' g4 hL' hw') he
      · exfalso
        rw [writes_renB] at hw'
        rw [g5] at hL'
        have := ((hS1.blk j' b1' g3).notF hw' hL').2.1
        rw [← he] at this
        exact apart k b h4 h5 hw L hL0 this
    · rw [writes_renB] at hw
      rw [h5] at hL
      rcases orig k' b' hkb' with ⟨g3, g4, g5⟩ | ⟨j', b1', g3, rfl, g5, g6⟩
      · exfalso
        have := ((hS1.blk j b1 h3).notF hw hL).2.1
        rw [he] at this
        exact apart k' b' g4 g5 hw' L' (toOld k' b' L' g4 hL' hw') this
      · rw [writes_renB] at hw'
        rw [g5] at hL'
        have := hS1.inj j j' b1 b1' L L' h3 g3 hw hw' hL hL' he
        subst this
        rcases h6 with ⟨h6, _⟩ | ⟨h6, h7⟩
        · rcases g6 with ⟨g6, _⟩ | ⟨g6, _⟩
          · rw [h6] at g6; cases g6; rfl
          · have := (List.getElem?_eq_some_iff.1 h6).1; omega
        · rcases g6 with ⟨g6, _⟩ | ⟨_, g7⟩
          · have := (List.getElem?_eq_some_iff.1 g6).1; omega
          · omega
  · simp only [List.length_append, layBack_len, List.length_map, List.length_drop] at hk'
    have : ρ2 k = ρ' (ids.length + (k - h.length)) := by
      have := hi (k - h.length)
      rwa [show h.length + (k - h.length) = k by omega] at this
    rw [this]
    exact hS1.out _ (by omega)

/-! ### Rows as they are now -/
theorem rt_row (hS : St w F ρ Ow h) {r off len sz : Nat} {cap : Option Nat} {es : List (List T)} (hb : h[r]? = some (.ts sz es) ∨ h[r]? = some (.fz sz es)) {u : Value} (hu : RV w F ρ u (.sl r off len cap)) {F' : Nat → Prop} (hF : ∀ b, b < w.heap.size → F' b) :
    RT w F' u (.list sz ((es.drop off).take len)) := by
  have main : ∀ L, ρ r = some (some L) → L.sz = sz → RowOK w L es (RT w F) → RT w F' u (.list sz ((es.drop off).take len)) := fun L h1 h2 h3 => by
    have hlt : L.b < w.heap.size := by
      obtain ⟨_, _, c, el, fr, hh, _⟩ := h3
      exact (Array.getElem?_eq_some_iff.1 hh).1
    exact rt_of_row h1 hu h2 (h3.mono rfl fun u x hx => hx.mono (fun _ _ => rfl) fun b hb => hF b (hS.fsz b hb)) (hF _ hlt)
  have empty : ρ r = some none → es = [] → RT w F' u (.list sz ((es.drop off).take len)) := fun h1 h2 => by
    subst h2
    cases hu with
    | sl r off len cap L a c hρ' => rw [h1] at hρ'; cases hρ'
    | slP r cap a hρ hc => simpa using rt_nil F' a sz
  rcases hb with hb | hb
  · rcases hS.blk r _ hb with ⟨L, h1, h2, h3, h4, h5⟩ | ⟨h1, h2⟩
    · exact main L h1 h2 h3
    · exact empty h1 h2
  · rcases hS.blk r _ hb with ⟨L, h1, h2, h3, h4⟩ | ⟨h1, h2⟩
    · exact main L h1 h2 h3
    · exact empty h1 h2
theorem snapC_ok (hS : St w F ρ Ow h) {F' : Nat → Prop} (hF : ∀ b, b < w.heap.size → F' b) {v : V} {u : Value} {x : T} (hu : RV w F ρ u v) (hx : snapC h v = some x) : RT w F' u x := by
  cases v with
  | t y =>
    simp only [snapC] at hx; cases hx
    cases hu with
    | t _ _ hy => exact hy.mono (fun _ _ => rfl) fun b hb => hF b (hS.fsz b hb)
  | nil sz =>
    simp only [snapC] at hx; cases hx
    cases hu; exact rt_nil F' none sz
  | sl r off len cap =>
    simp only [snapC] at hx
    split at hx
    · rename_i sz es hb; cases hx; exact rt_row hS (.inl hb) hu hF
    · rename_i sz es hb; cases hx; exact rt_row hS (.inr hb) hu hF
    · cases hx
  | _ => simp [snapC] at hx
theorem snapCs_ok (hS : St w F ρ Ow h) {F' : Nat → Prop} (hF : ∀ b, b < w.heap.size → F' b) : ∀ {vs : List V} {us : List Value} {xs : List T}, RVs w F ρ us vs → snapCs h vs = some xs → RTs w F' us xs
  | [], us, xs, hu, hx => by simp only [snapCs] at hx; cases hx; cases hu; exact .nil
  | v :: vs, us, xs, hu, hx => by
    simp only [snapCs] at hx
    split at hx
    · rename_i x h1
      split at hx
      · rename_i xs' h2
        cases hx
        cases hu with
        | cons a b => exact .cons (snapC_ok hS hF a h1) (snapCs_ok hS hF b h2)
      · cases hx
    · cases hx
theorem snapCs_len : ∀ {vs : List V} {xs : List T}, snapCs h vs = some xs → xs.length = vs.length
  | [], xs, hx => by simp only [snapCs] at hx; cases hx; rfl
  | v :: vs, xs, hx => by
    simp only [snapCs] at hx
    split at hx
    · split at hx
      · rename_i xs' h2; cases hx; simp [snapCs_len h2]
      · cases hx
    · cases hx
theorem snapCs_get : ∀ {vs : List V} {xs : List T}, snapCs h vs = some xs → ∀ (j : Nat) x, xs[j]? = some x → ∃ v, vs[j]? = some v ∧ snapC h v = some x
  | [], xs, hx, j, x, hj => by simp only [snapCs] at hx; cases hx; simp at hj
  | v :: vs, xs, hx, j, x, hj => by
    simp only [snapCs] at hx
    split at hx
    · rename_i y h1
      split at hx
      · rename_i xs' h2
        cases hx
        cases j with
        | zero => simp at hj; subst hj; exact ⟨v, rfl, h1⟩
        | succ j => simpa using snapCs_get h2 j x (by simpa using hj)
      · cases hx
    · cases hx
theorem snapE_get : ∀ {es : List (List V)} {xs : List (List T)}, snapE h es = some xs → xs.length = es.length ∧ ∀ (i : Nat) ys, xs[i]? = some ys → ∃ cs, es[i]? = some cs ∧ snapCs h cs = some ys
  | [], xs, hx => by simp only [snapE] at hx; cases hx; exact ⟨rfl, fun i ys hi => by simp at hi⟩
  | c :: cs, xs, hx => by
    simp only [snapE] at hx
    split at hx
    · rename_i y h1
      split at hx
      · rename_i xs' h2
        cases hx
        obtain ⟨k1, k2⟩ := snapE_get h2
        refine ⟨by simp [k1], fun i ys hi => ?_⟩
        cases i with
        | zero => simp at hi; subst hi; exact ⟨c, rfl, h1⟩
        | succ i => simpa using k2 i ys (by simpa using hi)
      · cases hx
    · cases hx
/-- a struct's or a row's place, seen through a pointer that reads alone -/
theorem rt_fp {L : Loc} {i j : Nat} {α : Type} {es : List (List α)} {R : Value → α → Prop} (hr : RowOK w L es R) {cs : List α} (hi : es[i]? = some cs) {xs : List T} (hl : xs.length ≤ (cs.drop j).length) {F' : Nat → Prop} (hF : F' L.b)
    (hx : ∀ (k : Nat) x u v, xs[k]? = some x → (cs.drop j)[k]? = some v → R u v → RT w F' u x) : RT w F' (.pointer (some ⟨L.b, L.o + (i * L.sz + j), none⟩)) (.fp xs) := by
  obtain ⟨h1, h2, cc, el, fr, hh, hs, hf, hzz, hc⟩ := hr
  have key : ∀ k, k < xs.length → ∃ v u, (cs.drop j)[k]? = some v ∧ cc[L.o + (i * L.sz + (j + k))]? = some u ∧ R u v := fun k hk => by
    have hk' : k < (cs.drop j).length := Nat.lt_of_lt_of_le hk hl
    have hv := List.getElem?_eq_getElem hk'
    have hv' := hv
    rw [List.getElem?_drop] at hv'
    obtain ⟨u, hu, hru⟩ := hc i (j + k) cs _ hi hv'
    exact ⟨_, u, hv, hu, hru⟩
  refine .fp L.b _ xs (fun k => (cc[L.o + (i * L.sz + (j + k))]?).getD undef) hF (fun k hk => ?_) fun k x hk => ?_
  · obtain ⟨v, u, e1, e2, e3⟩ := key k hk
    rw [e2]
    unfold World.cell?
    rw [hh]
    simp only [Option.isSome_none, Option.getD_some]
    rw [show L.o + (i * L.sz + j) + k = L.o + (i * L.sz + (j + k)) by omega]
    simpa using e2
  · have hkl : k < xs.length := (List.getElem?_eq_some_iff.1 hk).1
    obtain ⟨v, u, e1, e2, e3⟩ := key k hkl
    rw [e2]
    exact hx k x u v hk e1 e3
theorem snapP_ok (hS : St w F ρ Ow h) {F' : Nat → Prop} (hF : ∀ b, b < w.heap.size → F' b) {ρ' : Locs} {r i j : Nat} {u : Value} (hu : RV w F ρ u (.ptr r i j)) {v' : V} (hx : snapP h h[r]? i j = some v') : RV w F' ρ' u v' := by
  have lt : ∀ {α : Type} {L : Loc} {es : List (List α)} {R : Value → α → Prop}, RowOK w L es R → F' L.b := fun hr => by
    obtain ⟨_, _, c, el, fr, hh, _⟩ := hr
    exact hF _ (Array.getElem?_eq_some_iff.1 hh).1
  cases hu with
  | ptr r i j L hρ =>
  have flat : ∀ es : List (List T), RowOK w L es (RT w F) → ∀ cs, es[i]? = some cs → RV w F' ρ' (.pointer (some ⟨L.b, L.o + (i * L.sz + j), none⟩)) (.t (.fp (cs.drop j))) := fun es h3 cs hi =>
    .t _ _ (rt_fp h3 hi (Nat.le_refl _) (lt h3) fun k x u v h1 h2 hr => by
      rw [h1] at h2; cases h2
      exact hr.mono (fun _ _ => rfl) fun b hb => hF b (hS.fsz b hb))
  unfold snapP at hx
  split at hx
  · rename_i sz es hb
    split at hx
    · rename_i cs hi
      cases hx
      rcases hS.blk r _ hb with ⟨L', h1, h2, h3, h4, h5⟩ | ⟨h1, h2⟩
      · rw [hρ] at h1; cases h1; exact flat es h3 cs hi
      · rw [hρ] at h1; cases h1
    · cases hx
  · rename_i sz es hb
    split at hx
    · rename_i cs hi
      cases hx
      rcases hS.blk r _ hb with ⟨L', h1, h2, h3, h4⟩ | ⟨h1, h2⟩
      · rw [hρ] at h1; cases h1; exact flat es h3 cs hi
      · rw [hρ] at h1; cases h1
    · cases hx
  · rename_i sz es hb
    split at hx
    · rename_i cs hi
      split at hx
      · rename_i xs hxs
        cases hx
        rcases hS.blk r _ hb with ⟨L', h1, h2, h3, h4, h5⟩ | ⟨h1, h2⟩
        · rw [hρ] at h1; cases h1
          refine .t _ _ (rt_fp h3 hi (by rw [snapCs_len hxs]; exact Nat.le_refl _) (lt h3) fun k x u v h1 h2 hr => ?_)
          obtain ⟨v', e1, e2⟩ := snapCs_get hxs k x h1
          rw [e1] at h2; cases h2
          exact snapC_ok hS hF hr e2
        · rw [hρ] at h1; cases h1
      · cases hx
    · cases hx
  · cases hx
theorem snapS_ok (hS : St w F ρ Ow h) {F' : Nat → Prop} (hF : ∀ b, b < w.heap.size → F' b) {ρ' : Locs} {r off len : Nat} {cap : Option Nat} {u : Value} (hu : RV w F ρ u (.sl r off len cap)) {v' : V} (hx : snapS h h[r]? off len = some v') : RV w F' ρ' u v' := by
  unfold snapS at hx
  split at hx
  · rename_i sz es hb; cases hx; exact .t _ _ (rt_row hS (.inl hb) hu hF)
  · rename_i sz es hb; cases hx; exact .t _ _ (rt_row hS (.inr hb) hu hF)
  · rename_i sz es hb
    split at hx
    · rename_i xs hxs
      cases hx
      obtain ⟨e1, e2⟩ := snapE_get hxs
      rcases hS.blk r _ hb with ⟨L, h1, h2, h3, h4, h5⟩ | ⟨h1, h2⟩
      · cases hu with
        | slP r cap a hρ' hc => rw [h1] at hρ'; cases hρ'
        | sl r off len cap L' a c hρ' ha hl hn hc0 hc1 hz =>
          rw [h1] at hρ'; cases hρ'
          obtain ⟨k1, k2, cc, el, fr, hh, hs, hf, hzz, hc⟩ := h3
          subst h2
          have hlen : ((es.drop off).take len).length = len := by simp; omega
          have cell : ∀ i j, i < len → j < L.sz → ∃ v u x, ((es.drop off).take len)[i]?.bind (·[j]?) = some v ∧ (xs[i]?).bind (·[j]?) = some x ∧ cc[L.o + ((off + i) * L.sz + j)]? = some u ∧ RV w F ρ u v ∧ snapC h v = some x := fun i j hi hj => by
            have hi' : i < xs.length := by omega
            obtain ⟨cs, c1, c2⟩ := e2 i _ (List.getElem?_eq_getElem hi')
            have c1' := c1
            rw [List.getElem?_take, if_pos hi, List.getElem?_drop] at c1'
            have hcl := k2 cs (List.mem_of_getElem? c1')
            have hxl := snapCs_len c2
            have hjl : j < (xs[i]'hi').length := by omega
            obtain ⟨v, d1, d2⟩ := snapCs_get c2 j _ (List.getElem?_eq_getElem hjl)
            obtain ⟨u, hu, hru⟩ := hc (off + i) j cs v c1' d1
            exact ⟨v, u, _, by rw [c1]; exact d1, by rw [List.getElem?_eq_getElem hi']; exact List.getElem?_eq_getElem hjl, hu, hru, d2⟩
          refine .t _ _ (.list a len c L.sz _ (fun i j => (cc[L.o + ((off + i) * L.sz + j)]?).getD undef) (by omega) hl (fun hp => ?_) (fun e he => ?_) fun i j cs x hi hj => ?_)
          · have hne : ¬ c = 0 := by omega
            refine ⟨L.b, L.o + off * L.sz, ha.resolve_right hne, hF _ (Array.getElem?_eq_some_iff.1 hh).1, fun i j hi hj => ?_⟩
            obtain ⟨v, u, x, d1, d2, d3, d4, d5⟩ := cell i j hi hj
            rw [d3]
            unfold World.cell?
            rw [hh]
            simp only [Option.isSome_none, Option.getD_some]
            rw [show L.o + off * L.sz + (i * L.sz + j) = L.o + ((off + i) * L.sz + j) by rw [Nat.add_mul]; omega]
            simpa using d3
          · obtain ⟨i, hi⟩ := List.mem_iff_getElem?.1 he
            obtain ⟨cs, c1, c2⟩ := e2 i e hi
            rw [snapCs_len c2]
            exact k2 cs (List.mem_of_mem_drop (List.mem_of_mem_take (List.mem_of_getElem? c1)))
          · obtain ⟨cs', c1, c2⟩ := e2 i cs hi
            have hil : i < len := by have := (List.getElem?_eq_some_iff.1 hi).1; omega
            have hjl : j < L.sz := by
              have h1 := (List.getElem?_eq_some_iff.1 hj).1
              rw [snapCs_len c2, k2 cs' (List.mem_of_mem_drop (List.mem_of_mem_take (List.mem_of_getElem? c1)))] at h1
              exact h1
            obtain ⟨v, u, x', d1, d2, d3, d4, d5⟩ := cell i j hil hjl
            rw [hi] at d2
            simp only [Option.bind_some] at d2
            rw [hj] at d2; cases d2
            rw [d3]
            exact snapC_ok hS hF d4 d5
      · subst h2
        have hx0 : xs = [] := List.eq_nil_of_length_eq_zero (by simpa using e1)
        subst hx0
        cases hu with
        | sl r off len cap L a c hρ' => rw [h1] at hρ'; cases hρ'
        | slP r cap a hρ hc => exact .t _ _ (rt_nil F' a sz)
    · cases hx
  · cases hx
mutual
theorem snapV_ok (hS : St w F ρ Ow h) {F' : Nat → Prop} (hF : ∀ b, b < w.heap.size → F' b) {ρ' : Locs} : ∀ (v : V) {u : Value} {v' : V}, RV w F ρ u v → snapV h v = some v' → RV w F' ρ' u v'
  | .t x, u, v', hu, hx => by
    simp only [snapV] at hx; cases hx
    cases hu with
    | t _ _ hy => exact .t _ _ (hy.mono (fun _ _ => rfl) fun b hb => hF b (hS.fsz b hb))
  | .nil sz, u, v', hu, hx => by simp only [snapV] at hx; cases hx; cases hu; exact .t _ _ (rt_nil F' none sz)
  | .sl r off len cap, u, v', hu, hx => by simp only [snapV] at hx; exact snapS_ok hS hF hu hx
  | .ptr r i j, u, v', hu, hx => by simp only [snapV] at hx; exact snapP_ok hS hF hu hx
  | .agg cs, u, v', hu, hx => by
    simp only [snapV] at hx
    split at hx
    · rename_i cs' he; cases hx
      cases hu with
      | agg vs cs g hs hg hr => exact RV.agg' (snapVs_ok hS hF cs (rvs_of hs hg hr) he)
    · cases hx
  | .tup cs, u, v', hu, hx => by
    simp only [snapV] at hx
    split at hx
    · rename_i cs' he; cases hx
      cases hu with
      | tup vs cs g hs hg hr => exact RV.tup' (snapVs_ok hS hF cs (rvs_of hs hg hr) he)
    · cases hx
  | .fn f cs, u, v', hu, hx => by
    simp only [snapV] at hx
    split at hx
    · rename_i cs' he
      split at hx
      · rename_i xs hxs
        cases hx
        cases hu with
        | fn f vs cs g hs hg hr =>
          have := snapVs_ok hS hF (ρ' := ρ') cs (rvs_of hs hg hr) he
          exact .t _ _ (RT.fn' (allT_rts this hxs))
      · cases hx
    · cases hx
  | .und, u, v', hu, hx => by simp [snapV] at hx
  | .bad, u, v', hu, hx => by simp [snapV] at hx
theorem snapVs_ok (hS : St w F ρ Ow h) {F' : Nat → Prop} (hF : ∀ b, b < w.heap.size → F' b) {ρ' : Locs} : ∀ (vs : List V) {us : List Value} {vs' : List V}, RVs w F ρ us vs → snapV.snapVs h vs = some vs' → RVs w F' ρ' us vs'
  | [], us, vs', hu, hx => by simp only [snapV.snapVs] at hx; cases hx; cases hu; exact .nil
  | v :: vs, us, vs', hu, hx => by
    simp only [snapV.snapVs] at hx
    split at hx
    · rename_i x he
      split at hx
      · rename_i xs he2; cases hx
        cases hu with
        | cons hv hvs => exact .cons (snapV_ok hS hF v hv he) (snapVs_ok hS hF vs hvs he2)
      · cases hx
    · cases hx
end
/-- what holds no memory is so whatever is read alone -/
theorem flatT_ok {F' : Nat → Prop} {u : Value} {x : T} (hu : RT w F u x) (hx : flatT x = true) : RT w F' u x := by
  cases hu with
  | int k n => exact .int k n
  | bool b => exact .bool b
  | str s l h => exact .str s l h
  | nilp => exact .nilp
  | nilf => exact .nilf
  | nili => exact .nili
  | nni t v => exact .nni t v
  | list a n c sz es g hn hc h0 hz hr =>
    simp only [flatT, List.isEmpty_iff] at hx
    subst hx
    simp only [List.length_nil] at hn
    subst hn
    exact .list a 0 c sz [] g rfl hc (fun h => absurd h (by omega)) (fun e he => by cases he) (fun i j cs x hi => by simp at hi)
  | nlist | fp | fn => simp [flatT] at hx
mutual
theorem flatV_ok {F' : Nat → Prop} {ρ' : Locs} : ∀ (v : V) {u : Value}, RV w F ρ u v → flatV v = true → RV w F' ρ' u v
  | .t x, u, hu, hx => by cases hu with | t _ _ hy => exact .t _ _ (flatT_ok hy hx)
  | .agg cs, u, hu, hx => by
    simp only [flatV] at hx
    cases hu with
    | agg vs cs g hs hg hr => exact RV.agg' (flatVs_ok cs (rvs_of hs hg hr) hx)
  | .tup cs, u, hu, hx => by
    simp only [flatV] at hx
    cases hu with
    | tup vs cs g hs hg hr => exact RV.tup' (flatVs_ok cs (rvs_of hs hg hr) hx)
  | .nil _, u, hu, hx => by simp [flatV] at hx
  | .sl _ _ _ _, u, hu, hx => by simp [flatV] at hx
  | .ptr _ _ _, u, hu, hx => by simp [flatV] at hx
  | .fn _ _, u, hu, hx => by simp [flatV] at hx
  | .und, u, hu, hx => by simp [flatV] at hx
  | .bad, u, hu, hx => by simp [flatV] at hx
theorem flatVs_ok {F' : Nat → Prop} {ρ' : Locs} : ∀ (vs : List V) {us : List Value}, RVs w F ρ us vs → flatV.flatVs vs = true → RVs w F' ρ' us vs
  | [], us, hu, hx => by cases hu; exact .nil
  | v :: vs, us, hu, hx => by
    simp only [flatV.flatVs, Bool.and_eq_true] at hx
    cases hu with
    | cons h1 h2 => exact .cons (flatV_ok v h1 hx.1) (flatVs_ok vs h2 hx.2)
end
end Go.Proofs.YtdhejeigbjmncaaDoor.E

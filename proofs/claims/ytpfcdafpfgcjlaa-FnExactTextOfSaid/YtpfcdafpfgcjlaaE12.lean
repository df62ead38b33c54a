/- The evaluator's regions and code are those of the machine. Conditions: those of each lemma. -/
import Derived.Test.YtpfcdafpfgcjlaaE11
namespace Go.Proofs.Ytpfcdafpfgcjlaa.E
set_option linter.unusedVariables false
set_option linter.unusedSimpArgs false

variable {P : Program} {w : World} {F : Nat → Prop} {ρ : Locs} {Ow : Own} {h : Heap}

/-! ### Slots -/
theorem put_re {a : Act} {e : Env} (he : RE w F ρ a e) {dst : Option Nat} (hd : ∀ d, dst = some d → d < a.tmps.size) {u : Value} {v : V} (hu : RV w F ρ u v) : RE w F ρ (a.put dst u) (put e dst v) := by
  intro t
  cases dst with
  | none => exact he t
  | some d =>
    have hd' := hd d rfl
    simp only [Act.put, put, upd, Array.getD_eq_getD_getElem?]
    by_cases ht : t = d
    · subst ht; simp [hd', hu]
    · have := he t
      simp only [Array.getD_eq_getD_getElem?] at this
      simp [ht, Array.getElem?_setIfInBounds_ne (Ne.symm ht), this]
theorem Nxt.re {w' : World} {F' : Nat → Prop} {ρ' : Locs} (hN : Nxt Ow w F ρ w' F' ρ') {a : Act} {e : Env} (he : RE w F ρ a e) : RE w' F' ρ' a e := fun t => hN.rv (he t)
theorem put_size (a : Act) (dst : Option Nat) (u : Value) : (a.put dst u).tmps.size = a.tmps.size ∧ (a.put dst u).defers = a.defers := by
  cases dst <;> simp [Act.put]
theorem want_ok {ops : Array Oper} {o : Oper} {e : Env} {b : Bool} (hw : want ops o e = some b) {a : Act} (he : RE w F ρ a e) : Region.wanted o (yielded ops a.tmps) = b := by
  unfold want at hw
  unfold Region.wanted
  split at hw
  · rename_i hg; cases hw; rw [hg]
  · rename_i j c hg
    rw [hg]
    simp only
    split at hw
    · rename_i d hd
      have hr := he d
      simp only [yielded, hd, Option.bind_some]
      split at hw
      · rename_i c' hc
        rw [hc] at hr
        have := rv_bool hr
        cases hw
        rw [Array.getD_eq_getD_getElem?] at this
        cases ht : a.tmps[d]? with
        | none => rw [ht] at this; simp [undef] at this
        | some x => rw [ht] at this; simp at this; subst this; simp
      · rename_i hc
        rw [hc] at hr
        cases hw
        have hund : a.tmps.getD d undef = undef := by
          generalize hgx : a.tmps.getD d undef = z at hr
          cases hr; rfl
        rw [Array.getD_eq_getD_getElem?] at hund
        cases ht : a.tmps[d]? with
        | none => simp
        | some x => rw [ht] at hund; simp [undef] at hund; subst hund; simp
      · cases hw
    · cases hw

/-! ### A region in the text's order -/
/-- the operations at places, in order -/
def evIdx (P : Program) (pol : Pol) (rec : Rec) (f : Nat) (ops : Array Oper) : List Nat → Env → Heap → Option (Env × Heap)
  | [], e, h => some (e, h)
  | i :: rest, e, h => match ops[i]? with
    | some o => match evOne P pol rec f none ops o e h with
      | some (e', h') => evIdx P pol rec f ops rest e' h'
      | none => none
    | none => none
theorem evIdx_eq {pol : Pol} {rec : Rec} {f : Nat} {ops : Array Oper} : ∀ (l : List Nat) (os : List Oper) (e : Env) (h : Heap), l.map (ops[·]?) = os.map some → evOps P pol rec f ops os e h = evIdx P pol rec f ops l e h
  | [], [], e, h, _ => rfl
  | [], _ :: _, e, h, hl => by simp at hl
  | _ :: _, [], e, h, hl => by simp at hl
  | i :: l, o :: os, e, h, hl => by
    simp only [List.map_cons, List.cons.injEq] at hl
    simp only [evOps, evIdx, hl.1]
    cases evOne P pol rec f none ops o e h with
    | none => rfl
    | some x => exact evIdx_eq l os x.1 x.2 hl.2
theorem range_ops (ops : Array Oper) : (List.range ops.size).map (ops[·]?) = ops.toList.map some := by
  apply List.ext_getElem?
  intro i
  by_cases hi : i < ops.size
  · simp [hi]
  · simp [hi]
/-- a region's slots lie within the frame -/
def dstOK (n : Nat) (ops : Array Oper) : Bool := ops.toList.all fun o => match o.dst with | some d => decide (d < n) | none => true
theorem dstOK_get {n : Nat} {ops : Array Oper} (hd : dstOK n ops = true) {i : Nat} {o : Oper} (ho : ops[i]? = some o) : ∀ d, o.dst = some d → d < n := fun d hdst => by
  have := List.all_eq_true.1 hd o (by rw [Array.mem_toList_iff]; exact Array.mem_of_getElem? ho)
  rw [hdst] at this
  simpa using this

/-- what code leaves behind -/
def After (Ow : Own) (w : World) (F : Nat → Prop) (ρ : Locs) (n : Nat) (e' : Env) (h' : Heap) (K : Act → World → Prop) : Prop :=
  ∀ a' w' F' ρ', RE w' F' ρ' a' e' → St w' F' ρ' Ow h' → Nxt Ow w F ρ w' F' ρ' → a'.tmps.size = n → a'.defers = [] → K a' w'
theorem After.step {w1 : World} {F1 : Nat → Prop} {ρ1 : Locs} {n : Nat} {e' : Env} {h' : Heap} {K : Act → World → Prop} (hK : After Ow w F ρ n e' h' K) (hN : Nxt Ow w F ρ w1 F1 ρ1) : After Ow w1 F1 ρ1 n e' h' K :=
  fun a' w' F' ρ' h1 h2 h3 h4 h5 => hK a' w' F' ρ' h1 h2 (hN.trans h3) h4 h5

theorem one_wp {pol : Pol} {rec : Rec} (hrec : CallOK P rec) {f : Nat} {ops : Array Oper} {i : Nat} {o : Oper} (ho : ops[i]? = some o) {e e' : Env} {h' : Heap} (hev : evOne P pol rec f Ow.N ops o e h = some (e', h')) (hS : St w F ρ Ow h) (hO : OkO Ow w ρ h)
    {a : Act} (he : RE w F ρ a e) {n : Nat} (hn : a.tmps.size = n) (hd : a.defers = []) (hdst : dstOK n ops = true) {Q : Exit → Act → World → Prop} {K : Act → World → Prop} (hK : After Ow w F ρ n e' h' K) : wpOp P ops Q i K a w := by
  have hdo : ∀ d, o.dst = some d → d < a.tmps.size := fun d hx => by rw [hn]; exact dstOK_get hdst ho d hx
  unfold evOne at hev
  unfold wpOp
  simp only [ho]
  split at hev
  · rename_i hw
    rw [want_ok hw he]
    simp only [if_true]
    split at hev
    · rename_i v h1 hop
      cases hev
      left
      refine op_wp hrec hop hS hO he fun w' F' ρ' u h1 h2 h3 => ?_
      obtain ⟨s1, s2⟩ := put_size a o.dst u
      exact hK _ w' F' ρ' (put_re (h3.re he) hdo h1) h2 h3 (s1.trans hn) (s2.trans hd)
    · cases hev
  · rename_i hw
    cases hev
    rw [want_ok hw he]
    simp only [Bool.false_eq_true, if_false]
    obtain ⟨s1, s2⟩ := put_size a o.dst undef
    exact hK _ w F ρ (put_re he hdo .und) hS (Nxt.refl _ _ _ _) (s1.trans hn) (s2.trans hd)
  · cases hev
theorem idx_wp {pol : Pol} {rec : Rec} (hrec : CallOK P rec) {f : Nat} {ops : Array Oper} {n : Nat} (hdst : dstOK n ops = true) {Q : Exit → Act → World → Prop} : ∀ (l : List Nat) {w : World} {F : Nat → Prop} {ρ : Locs} {h : Heap} {e e' : Env} {h' : Heap} {a : Act},
    evIdx P pol rec f ops l e h = some (e', h') → St w F ρ Ow h → OkC Ow w → RE w F ρ a e → a.tmps.size = n → a.defers = [] → After Ow w F ρ n e' h' (Q .normal) → wpOps P ops Q l a w
  | [], w, F, ρ, h, e, e', h', a, hev, hS, hO, he, hn, hd, hK => by
    simp only [evIdx] at hev; cases hev
    exact hK a w F ρ he hS (Nxt.refl _ _ _ _) hn hd
  | i :: rest, w, F, ρ, h, e, e', h', a, hev, hS, hO, he, hn, hd, hK => by
    simp only [evIdx] at hev
    split at hev
    · rename_i o ho
      split at hev
      · rename_i e1 h1 h1ev
        rw [wpOps_cons]
        refine one_wp hrec ho (by rw [hO.n]; exact h1ev) hS hO.op he hn hd hdst fun a' w' F' ρ' k1 k2 k3 k4 k5 => ?_
        exact idx_wp hrec hdst rest hev k2 (hO.mono k3.size) k1 k4 k5 (hK.step k3)
      · cases hev
    · cases hev

/-! ### Loops: from the loop's own mark on -/
def LoopWp (P : Program) (c : Code) (Q : Exit → Act → World → Prop) (a : Act) (w : World) : Prop :=
  ∀ (b : Frame) (k : List Item) (cs : List Frame), ∃ e a' w', Q e a' w' ∧ Arrives P (lone (b.at a (.inLoop c :: k)) cs w) b k cs e a' w'
theorem loop_body {c : Code} {Q : Exit → Act → World → Prop} {a : Act} {w : World} (hb : c.wp P (Exit.then (LoopWp P c Q) Q) a w) (b : Frame) (k : List Item) (cs : List Frame) :
    ∃ e a' w', Q e a' w' ∧ Arrives P (lone (b.at a (.code c :: .inLoop c :: k)) cs w) b k cs e a' w' := by
  obtain ⟨e, a1, w1, hq, harr⟩ := hb b (.inLoop c :: k) cs
  cases e with
  | normal =>
    obtain ⟨e2, a2, w2, hq2, harr2⟩ := hq b k cs
    exact ⟨e2, a2, w2, hq2, .of_steps harr harr2⟩
  | exit id => exact ⟨.exit id, a1, w1, hq, fun k' hk => harr k' (by simpa [exitTo] using hk)⟩
  | goto l => exact ⟨.goto l, a1, w1, hq, fun k' hk => harr k' (by simpa [gotoIn] using hk)⟩
  | ret => exact ⟨.ret, a1, w1, hq, harr⟩
  | panic chain => exact ⟨.panic chain, a1, w1, hq, harr⟩
  | outgrown => exact ⟨.outgrown, a1, w1, hq, harr⟩
theorem loop_wp {c : Code} {Q : Exit → Act → World → Prop} {a : Act} {w : World} (hb : c.wp P (Exit.then (LoopWp P c Q) Q) a w) : (Code.loop c).wp P Q a w := fun b k cs => by
  obtain ⟨e, a', w', hq, harr⟩ := loop_body hb b k cs
  exact ⟨e, a', w', hq, .of_steps (.one step_loop) harr⟩
theorem loop_again {c : Code} {Q : Exit → Act → World → Prop} {a : Act} {w : World} (hb : c.wp P (Exit.then (LoopWp P c Q) Q) a w) : LoopWp P c Q a w := fun b k cs => by
  obtain ⟨e, a', w', hq, harr⟩ := loop_body hb b k cs
  exact ⟨e, a', w', hq, .of_steps (.one step_inLoop) harr⟩

/-! ### Rows under new numbers -/
theorem idx_get {ids : List Nat} {r i : Nat} (hi : idx ids r = some i) : ids[i]? = some r := by
  unfold idx at hi
  split at hi
  · rename_i hlt
    cases hi
    rw [List.getElem?_eq_getElem hlt, List.getElem_idxOf hlt]
  · cases hi
def renLocs (ρ : Locs) (ids : List Nat) : Locs := fun i => (ids[i]?).bind ρ
mutual
theorem ren_ok (ids : List Nat) : ∀ (v : V) {u : Value}, RV w F ρ u v → RV w F (renLocs ρ ids) u (ren (idx ids) v)
  | .sl r off len cap, u, hu => by
    simp only [ren]
    split
    · rename_i r' hr
      have hg := idx_get hr
      have hl : renLocs ρ ids r' = ρ r := by simp [renLocs, hg]
      cases hu with
      | sl r off len cap L a c hρ ha h1 hn hc0 hc1 hz => exact .sl r' off len cap L a c (hl.trans hρ) ha h1 hn hc0 hc1 hz
      | slP r cap a hρ hc => exact .slP r' cap a (hl.trans hρ) hc
    · exact .bad _
  | .ptr r i j, u, hu => by
    simp only [ren]
    split
    · rename_i r' hr
      have hg := idx_get hr
      have hl : renLocs ρ ids r' = ρ r := by simp [renLocs, hg]
      cases hu with
      | ptr r i j L hρ => exact .ptr r' i j L (hl.trans hρ)
    · exact .bad _
  | .agg cs, u, hu => by
    simp only [ren]
    cases hu with
    | agg vs cs g hs hg hr => exact RV.agg' (rens_ok ids cs (rvs_of hs hg hr))
  | .tup cs, u, hu => by
    simp only [ren]
    cases hu with
    | tup vs cs g hs hg hr => exact RV.tup' (rens_ok ids cs (rvs_of hs hg hr))
  | .fn f cs, u, hu => by
    simp only [ren]
    cases hu with
    | fn f vs cs g hs hg hr => exact RV.fn' (rens_ok ids cs (rvs_of hs hg hr))
  | .t x, u, hu => by simp only [ren]; exact any_t hu
  | .nil sz, u, hu => by simp only [ren]; cases hu; exact .nil sz
  | .und, u, hu => by simp only [ren]; generalize hz : V.und = z at hu; cases hu <;> first | exact .und | cases hz
  | .bad, u, hu => by simp only [ren]; exact .bad _
theorem rens_ok (ids : List Nat) : ∀ (vs : List V) {us : List Value}, RVs w F ρ us vs → RVs w F (renLocs ρ ids) us (ren.rens (idx ids) vs)
  | [], us, hu => by cases hu; simp only [ren.rens]; exact .nil
  | v :: vs, us, hu => by
    cases hu with
    | cons h1 h2 => simp only [ren.rens]; exact .cons (ren_ok ids v h1) (rens_ok ids vs h2)
end
theorem rens_len (m : Nat → Option Nat) : ∀ vs : List V, (ren.rens m vs).length = vs.length
  | [] => rfl
  | v :: vs => by simp [ren.rens, rens_len m vs]
theorem rens_get (m : Nat → Option Nat) : ∀ (vs : List V) (j : Nat), (ren.rens m vs)[j]? = (vs[j]?).map (ren m)
  | [], j => by simp [ren.rens]
  | v :: vs, 0 => by simp [ren.rens]
  | v :: vs, j + 1 => by simp [ren.rens, rens_get m vs j]
theorem renB_ok {r : Nat} {b : Blk} (ids : List Nat) {i : Nat} (hi : ids[i]? = some r) (hb : RB w F ρ Ow r b) : RB w F (renLocs ρ ids) Ow i (renB (idx ids) b) := by
  have hl : renLocs ρ ids i = ρ r := by simp [renLocs, hi]
  cases b with
  | ts sz es =>
    rcases hb with ⟨L, h1, h2, h3, h4, h5⟩ | ⟨h1, h2⟩
    · exact .inl ⟨L, hl.trans h1, h2, h3, h4, h5⟩
    · exact .inr ⟨hl.trans h1, h2⟩
  | fz sz es =>
    rcases hb with ⟨L, h1, h2, h3, h4⟩ | ⟨h1, h2⟩
    · exact .inl ⟨L, hl.trans h1, h2, h3, h4⟩
    · exact .inr ⟨hl.trans h1, h2⟩
  | dead => trivial
  | vs sz es =>
    rcases hb with ⟨L, h1, h2, h3, h4, h5⟩ | ⟨h1, h2⟩
    · refine .inl ⟨L, hl.trans h1, h2, ?_, h4, h5⟩
      obtain ⟨k1, k2, c, el, fr, k3, k4, k5, k6, k7⟩ := h3
      refine ⟨by simpa using k1, fun e he => ?_, c, el, fr, k3, k4, k5, k6, fun i' j cs x hi' hj => ?_⟩
      · simp only [List.mem_map] at he
        obtain ⟨e0, he0, rfl⟩ := he
        rw [rens_len]; exact k2 e0 he0
      · rw [List.getElem?_map] at hi'
        cases hes : es[i']? with
        | none => simp [hes] at hi'
        | some e0 =>
          simp [hes] at hi'
          subst hi'
          rw [rens_get] at hj
          cases he0 : e0[j]? with
          | none => simp [he0] at hj
          | some x0 =>
            simp [he0] at hj
            subst hj
            obtain ⟨u, hu, hru⟩ := k7 i' j e0 x0 hes he0
            exact ⟨u, hu, ren_ok ids x0 hru⟩
    · refine .inr ⟨hl.trans h1, by simp [h2]⟩
theorem writes_renB (m : Nat → Option Nat) (b : Blk) : writes (renB m b) = writes b := by cases b <;> rfl

theorem nodups_ok : ∀ (l seen : List Nat), seen.Nodup → (nodups seen l).Nodup
  | [], seen, hs => hs
  | r :: l, seen, hs => by
    simp only [nodups]
    split
    · exact nodups_ok l seen hs
    · rename_i hr
      refine nodups_ok l _ ?_
      rw [List.nodup_append]
      exact ⟨hs, by simp, fun a ha b hb => by simp at hb; subst hb; exact fun e => hr (e ▸ ha)⟩
theorem reach_ok (h : Heap) : ∀ (n : Nat) (ids : List Nat), ids.Nodup → (reach h n ids).Nodup
  | 0, ids, hs => hs
  | n + 1, ids, hs => by simp only [reach]; exact reach_ok h n _ (nodups_ok _ _ hs)
theorem pack_st {m : Nat} {vals : List V} (hS : St w F ρ Ow h) {us : List Value} (hu : RVs w F ρ us vals) :
    ∃ ρ', RVs w F ρ' us (packH m vals h).1 ∧ St w F ρ' Ow (packH m vals h).2 := by
  unfold packH
  have hids := reach_ok h 3 _ (nodups_ok (refs.refss vals) [] (by simp))
  generalize hgi : reach h 3 (nodups (List.range m) (refs.refss vals)) = ids
  have hnd : ids.Nodup := by rw [← hgi]; exact reach_ok h 3 _ (nodups_ok _ _ List.nodup_range)
  refine ⟨renLocs ρ ids, rens_ok ids vals hu, ⟨fun i b hi => ?_, fun i j b b' L L' hi hj hw hw' hL hL' heq => ?_, hS.fsz, fun i hi => ?_⟩⟩
  · simp only [List.getElem?_map] at hi
    cases hr : ids[i]? with
    | none => simp [hr] at hi
    | some r =>
      simp [hr] at hi
      subst hi
      cases hb : h[r]? with
      | none => simp [renB]; trivial
      | some b0 => simp; exact renB_ok ids hr (hS.blk r b0 hb)
  · simp only [List.getElem?_map] at hi hj
    cases hr : ids[i]? with
    | none => simp [hr] at hi
    | some r =>
    cases hr' : ids[j]? with
    | none => simp [hr'] at hj
    | some r' =>
      simp [hr] at hi
      simp [hr'] at hj
      subst hi; subst hj
      rw [writes_renB] at hw hw'
      cases hb : h[r]? with
      | none => simp [hb, writes] at hw
      | some b0 =>
      cases hb' : h[r']? with
      | none => simp [hb', writes] at hw'
      | some b1 =>
        simp [hb] at hw
        simp [hb'] at hw'
        have e1 : ρ r = some (some L) := by rw [← hL]; simp [renLocs, hr]
        have e2 : ρ r' = some (some L') := by rw [← hL']; simp [renLocs, hr']
        have := hS.inj r r' b0 b1 L L' hb hb' hw hw' e1 e2 heq
        subst this
        have hi1 := (List.getElem?_eq_some_iff.1 hr)
        have hj1 := (List.getElem?_eq_some_iff.1 hr')
        obtain ⟨x1, x2⟩ := hi1
        obtain ⟨y1, y2⟩ := hj1
        have hpw := List.pairwise_iff_getElem.1 hnd
        rcases Nat.lt_or_ge i j with hlt | hge
        · exact absurd (x2.trans y2.symm) (hpw i j x1 y1 hlt)
        · rcases Nat.lt_or_ge j i with hlt | hge'
          · exact absurd (y2.trans x2.symm) (hpw j i y1 x1 hlt)
          · omega
  · simp only [List.length_map] at hi
    simp [renLocs, List.getElem?_eq_none hi]

/-- slots and their values -/
def slotVals (a : Act) (ss : List Nat) : List Value := ss.map fun t => a.tmps.getD t undef
theorem slotVals_rv {a : Act} {e : Env} (he : RE w F ρ a e) : ∀ ss : List Nat, RVs w F ρ (slotVals a ss) (ss.map e)
  | [] => .nil
  | s :: ss => .cons (he s) (slotVals_rv he ss)
theorem mkEnv_re {a : Act} : ∀ (ss : List Nat) (vals : List V), RVs w F ρ (slotVals a ss) vals → RE w F ρ a (mkEnv ss vals)
  | [], _, _ => fun t => by simp only [mkEnv]; exact .bad _
  | s :: ss, [], hv => by cases hv
  | s :: ss, v :: vals, hv => by
    cases hv with
    | cons h1 h2 =>
      intro t
      simp only [mkEnv, upd]
      split
      · rename_i e; subst e; exact h1
      · exact mkEnv_re ss vals h2 t

/-! ### Paths -/
theorem turnsF_stable : ∀ (n m p : Nat), p ≤ n → p ≤ m → turnsF n p = turnsF m p
  | 0, 0, p, _, _ => rfl
  | 0, m + 1, p, h1, h2 => by have : p = 0 := by omega
                              subst this; simp [turnsF]
  | n + 1, 0, p, h1, h2 => by have : p = 0 := by omega
                              subst this; simp [turnsF]
  | n + 1, m + 1, p, h1, h2 => by
    simp only [turnsF]
    split
    · rfl
    · rw [turnsF_stable n m (p / 2) (by omega) (by omega)]
theorem turns_two {p : Nat} (hp : 1 ≤ p) (d : Nat) (hd : d ≤ 1) : turns (2 * p + d) = turns p ++ [d == 1] := by
  unfold turns
  obtain ⟨n, hn⟩ : ∃ n, 2 * p + d = n + 1 := ⟨2 * p + d - 1, by omega⟩
  rw [hn]
  simp only [turnsF]
  rw [if_neg (by omega), ← hn, show (2 * p + d) / 2 = p by omega, show (2 * p + d) % 2 = d by omega, turnsF_stable n p p (by omega) (Nat.le_refl _)]
theorem codeAt_append : ∀ (ds : List Bool) (c c' : Code) (d : Bool), codeAt c ds = some c' → codeAt c (ds ++ [d]) = codeAt c' [d]
  | [], c, c', d, h => by simp only [codeAt] at h; cases h; rfl
  | x :: ds, c, c', d, h => by
    cases c with
    | seq a b => simp only [codeAt, List.cons_append] at h ⊢; exact codeAt_append ds _ _ d h
    | cond o a b => simp only [codeAt, List.cons_append] at h ⊢; exact codeAt_append ds _ _ d h
    | block id b => simp only [codeAt, List.cons_append] at h ⊢; exact codeAt_append ds _ _ d h
    | loop b => simp only [codeAt, List.cons_append] at h ⊢; exact codeAt_append ds _ _ d h
    | _ => simp [codeAt] at h
end Go.Proofs.Ytpfcdafpfgcjlaa.E

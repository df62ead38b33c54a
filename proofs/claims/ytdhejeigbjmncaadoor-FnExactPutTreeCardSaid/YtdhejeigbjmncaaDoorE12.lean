/- The evaluator's regions and code are those of the machine. Conditions: those of each lemma. -/
import Derived.Test.YtdhejeigbjmncaaDoorE11
namespace Go.Proofs.YtdhejeigbjmncaaDoor.E
set_option linter.unusedVariables false
set_option linter.unusedSimpArgs false

variable {P : Program} {w : World} {F : Nat → Prop} {ρ : Locs} {Ow : Own} {h : Heap}

/-! ### Slots -/
theorem put_re {a : Act} {e : Env} (he : RE w F ρ a e) {dst : Option Nat} (hd : ∀ d, dst = some d → d < a.tmps.size) {u : Value} {v : V} (hu : RV w F ρ u v) : RE w F ρ (a.put dst u) (put e dst v) := by
  intro t
  cases dst with
  | none => exact he t
  | some d =>
    have hd' := hd d rfl
    simp only [Act.put, put, upd, Array.getD_eq_getD_getElem?]
    by_cases ht : t = d
    · subst ht; simp [hd', hu]
    · have := he t
      simp only [Array.getD_eq_getD_getElem?] at this
      simp [ht, Array.getElem?_setIfInBounds_ne (Ne.symm ht), this]
theorem Nxt.re {w' : World} {F' : Nat → Prop} {ρ' : Locs} (hN : Nxt Ow w F ρ w' F' ρ') {a : Act} {e : Env} (he : RE w F ρ a e) : RE w' F' ρ' a e := fun t => hN.rv (he t)
theorem put_size (a : Act) (dst : Option Nat) (u : Value) : (a.put dst u).tmps.size = a.tmps.size ∧ (a.put dst u).defers = a.defers := by
  cases dst <;> simp [Act.put]
theorem want_ok {ops : Array Oper} {o : Oper} {e : Env} {b : Bool} (hw : want ops o e = some b) {a : Act} (he : RE w F ρ a e) : Region.wanted o (yielded ops a.tmps) = b := by
  unfold want at hw
  unfold Region.wanted
  split at hw
  · rename_i hg; cases hw; rw [hg]
  · rename_i j c hg
    rw [hg]
    simp only
    split at hw
    · rename_i d hd
      have hr := he d
      simp only [yielded, hd, Option.bind_some]
      split at hw
      · rename_i c' hc
        rw [hc] at hr
        have := rv_bool hr
        cases hw
        rw [Array.getD_eq_getD_getElem?] at this
        cases ht : a.tmps[d]? with
        | none => rw [ht] at this; simp [undef] at this
        | some x => rw [ht] at this; simp at this; subst this; simp
      · rename_i hc
        rw [hc] at hr
        cases hw
        have hund : a.tmps.getD d undef = undef := by
          generalize hgx : a.tmps.getD d undef = z at hr
          cases hr; rfl
        rw [Array.getD_eq_getD_getElem?] at hund
        cases ht : a.tmps[d]? with
        | none => simp
        | some x => rw [ht] at hund; simp [undef] at hund; subst hund; simp
      · cases hw
    · cases hw

/-! ### A region in the text's order -/
/-- the operations at places, in order -/
def evIdx (P : Program) (pol : Pol) (rec : Rec) (f : Nat) (ops : Array Oper) : List Nat → Env → Heap → Option (Env × Heap)
  | [], e, h => some (e, h)
  | i :: rest, e, h => match ops[i]? with
    | some o => match evOne P pol rec f none ops o e h with
      | some (e', h') => evIdx P pol rec f ops rest e' h'
      | none => none
    | none => none
theorem evIdx_eq {pol : Pol} {rec : Rec} {f : Nat} {ops : Array Oper} : ∀ (l : List Nat) (os : List Oper) (e : Env) (h : Heap), l.map (ops[·]?) = os.map some → evOps P pol rec f ops os e h = evIdx P pol rec f ops l e h
  | [], [], e, h, _ => rfl
  | [], _ :: _, e, h, hl => by simp at hl
  | _ :: _, [], e, h, hl => by simp at hl
  | i :: l, o :: os, e, h, hl => by
    simp only [List.map_cons, List.cons.injEq] at hl
    simp only [evOps, evIdx, hl.1]
    cases evOne P pol rec f none ops o e h with
    | none => rfl
    | some x => exact evIdx_eq l os x.1 x.2 hl.2
theorem range_ops (ops : Array Oper) : (List.range ops.size).map (ops[·]?) = ops.toList.map some := by
  apply List.ext_getElem?
  intro i
  by_cases hi : i < ops.size
  · simp [hi]
  · simp [hi]
/-- a region's slots lie within the frame -/
def dstOK (n : Nat) (ops : Array Oper) : Bool := ops.toList.all fun o => match o.dst with | some d => decide (d < n) | none => true
theorem dstOK_get {n : Nat} {ops : Array Oper} (hd : dstOK n ops = true) {i : Nat} {o : Oper} (ho : ops[i]? = some o) : ∀ d, o.dst = some d → d < n := fun d hdst => by
  have := List.all_eq_true.1 hd o (by rw [Array.mem_toList_iff]; exact Array.mem_of_getElem? ho)
  rw [hdst] at this
  simpa using this

/-- what code leaves behind -/
def After (Ow : Own) (w : World) (F : Nat → Prop) (ρ : Locs) (n : Nat) (e' : Env) (h' : Heap) (K : Act → World → Prop) : Prop :=
  ∀ a' w' F' ρ', RE w' F' ρ' a' e' → St w' F' ρ' Ow h' → Nxt Ow w F ρ w' F' ρ' → a'.tmps.size = n → a'.defers = [] → K a' w'
theorem After.step {w1 : World} {F1 : Nat → Prop} {ρ1 : Locs} {n : Nat} {e' : Env} {h' : Heap} {K : Act → World → Prop} (hK : After Ow w F ρ n e' h' K) (hN : Nxt Ow w F ρ w1 F1 ρ1) : After Ow w1 F1 ρ1 n e' h' K :=
  fun a' w' F' ρ' h1 h2 h3 h4 h5 => hK a' w' F' ρ' h1 h2 (hN.trans h3) h4 h5

theorem one_wp {pol : Pol} {rec : Rec} {W0 : World} (hB : Base W0 w F) (hrec : CallOK P W0 rec) {f : Nat} {ops : Array Oper} {i : Nat} {o : Oper} (ho : ops[i]? = some o) {e e' : Env} {h' : Heap} (hev : evOne P pol rec f Ow.N ops o e h = some (e', h')) (hS : St w F ρ Ow h) (hO : OkO Ow w ρ h) (hz : ∀ r, Ow.z r → r < h.length)
    {a : Act} (he : RE w F ρ a e) {n : Nat} (hn : a.tmps.size = n) (hd : a.defers = []) (hdst : dstOK n ops = true) {Q : Exit → Act → World → Prop} {K : Act → World → Prop} (hK : After Ow w F ρ n e' h' K) : wpOp P ops Q i K a w := by
  have hdo : ∀ d, o.dst = some d → d < a.tmps.size := fun d hx => by rw [hn]; exact dstOK_get hdst ho d hx
  unfold evOne at hev
  unfold wpOp
  simp only [ho]
  split at hev
  · rename_i hw
    rw [want_ok hw he]
    simp only [if_true]
    split at hev
    · rename_i v h1 hop
      cases hev
      left
      refine op_wp hB hrec hop hS hO hz he fun w' F' ρ' u h1 h2 h3 => ?_
      obtain ⟨s1, s2⟩ := put_size a o.dst u
      exact hK _ w' F' ρ' (put_re (h3.re he) hdo h1) h2 h3 (s1.trans hn) (s2.trans hd)
    · cases hev
  · rename_i hw
    cases hev
    rw [want_ok hw he]
    simp only [Bool.false_eq_true, if_false]
    obtain ⟨s1, s2⟩ := put_size a o.dst undef
    exact hK _ w F ρ (put_re he hdo .und) hS (Nxt.refl _ _ _ _) (s1.trans hn) (s2.trans hd)
  · cases hev
theorem idx_wp {W0 : World} {pol : Pol} {rec : Rec} (hrec : CallOK P W0 rec) {f : Nat} {ops : Array Oper} {n : Nat} (hdst : dstOK n ops = true) {Q : Exit → Act → World → Prop} : ∀ (l : List Nat) {w : World} {F : Nat → Prop} {ρ : Locs} {h : Heap} {e e' : Env} {h' : Heap} {a : Act},
    evIdx P pol rec f ops l e h = some (e', h') → Base W0 w F → St w F ρ Ow h → OkC Ow w → RE w F ρ a e → a.tmps.size = n → a.defers = [] → After Ow w F ρ n e' h' (Q .normal) → wpOps P ops Q l a w
  | [], w, F, ρ, h, e, e', h', a, hev, hB, hS, hO, he, hn, hd, hK => by
    simp only [evIdx] at hev; cases hev
    exact hK a w F ρ he hS (Nxt.refl _ _ _ _) hn hd
  | i :: rest, w, F, ρ, h, e, e', h', a, hev, hB, hS, hO, he, hn, hd, hK => by
    simp only [evIdx] at hev
    split at hev
    · rename_i o ho
      split at hev
      · rename_i e1 h1 h1ev
        rw [wpOps_cons]
        refine one_wp hB hrec ho (by rw [hO.n]; exact h1ev) hS hO.op (fun r hr => absurd hr (hO.z r)) he hn hd hdst fun a' w' F' ρ' k1 k2 k3 k4 k5 => ?_
        exact idx_wp hrec hdst rest hev (hB.next k3) k2 (hO.mono k3.size) k1 k4 k5 (hK.step k3)
      · cases hev
    · cases hev

/-! ### Loops: from the loop's own mark on -/
def LoopWp (P : Program) (c : Code) (Q : Exit → Act → World → Prop) (a : Act) (w : World) : Prop :=
  ∀ (b : Frame) (k : List Item) (cs : List Frame), ∃ e a' w', Q e a' w' ∧ Arrives P (lone (b.at a (.inLoop c :: k)) cs w) b k cs e a' w'
theorem loop_body {c : Code} {Q : Exit → Act → World → Prop} {a : Act} {w : World} (hb : c.wp P (Exit.then (LoopWp P c Q) Q) a w) (b : Frame) (k : List Item) (cs : List Frame) :
    ∃ e a' w', Q e a' w' ∧ Arrives P (lone (b.at a (.code c :: .inLoop c :: k)) cs w) b k cs e a' w' := by
  obtain ⟨e, a1, w1, hq, harr⟩ := hb b (.inLoop c :: k) cs
  cases e with
  | normal =>
    obtain ⟨e2, a2, w2, hq2, harr2⟩ := hq b k cs
    exact ⟨e2, a2, w2, hq2, .of_steps harr harr2⟩
  | exit id => exact ⟨.exit id, a1, w1, hq, fun k' hk => harr k' (by simpa [exitTo] using hk)⟩
  | goto l => exact ⟨.goto l, a1, w1, hq, fun k' hk => harr k' (by simpa [gotoIn] using hk)⟩
  | ret => exact ⟨.ret, a1, w1, hq, harr⟩
  | panic chain => exact ⟨.panic chain, a1, w1, hq, harr⟩
  | outgrown => exact ⟨.outgrown, a1, w1, hq, harr⟩
theorem loop_wp {c : Code} {Q : Exit → Act → World → Prop} {a : Act} {w : World} (hb : c.wp P (Exit.then (LoopWp P c Q) Q) a w) : (Code.loop c).wp P Q a w := fun b k cs => by
  obtain ⟨e, a', w', hq, harr⟩ := loop_body hb b k cs
  exact ⟨e, a', w', hq, .of_steps (.one step_loop) harr⟩
theorem loop_again {c : Code} {Q : Exit → Act → World → Prop} {a : Act} {w : World} (hb : c.wp P (Exit.then (LoopWp P c Q) Q) a w) : LoopWp P c Q a w := fun b k cs => by
  obtain ⟨e, a', w', hq, harr⟩ := loop_body hb b k cs
  exact ⟨e, a', w', hq, .of_steps (.one step_inLoop) harr⟩

/-- slots and their values -/
def slotVals (a : Act) (ss : List Nat) : List Value := ss.map fun t => a.tmps.getD t undef
theorem slotVals_rv {a : Act} {e : Env} (he : RE w F ρ a e) : ∀ ss : List Nat, RVs w F ρ (slotVals a ss) (ss.map e)
  | [] => .nil
  | s :: ss => .cons (he s) (slotVals_rv he ss)
theorem mkEnv_re {a : Act} : ∀ (ss : List Nat) (vals : List V), RVs w F ρ (slotVals a ss) vals → RE w F ρ a (mkEnv ss vals)
  | [], _, _ => fun t => by simp only [mkEnv]; exact .bad _
  | s :: ss, [], hv => by cases hv
  | s :: ss, v :: vals, hv => by
    cases hv with
    | cons h1 h2 =>
      intro t
      simp only [mkEnv, upd]
      split
      · rename_i e; subst e; exact h1
      · exact mkEnv_re ss vals h2 t

/-! ### Paths -/
theorem turnsF_stable : ∀ (n m p : Nat), p ≤ n → p ≤ m → turnsF n p = turnsF m p
  | 0, 0, p, _, _ => rfl
  | 0, m + 1, p, h1, h2 => by have : p = 0 := by omega
                              subst this; simp [turnsF]
  | n + 1, 0, p, h1, h2 => by have : p = 0 := by omega
                              subst this; simp [turnsF]
  | n + 1, m + 1, p, h1, h2 => by
    simp only [turnsF]
    split
    · rfl
    · rw [turnsF_stable n m (p / 2) (by omega) (by omega)]
theorem turns_two {p : Nat} (hp : 1 ≤ p) (d : Nat) (hd : d ≤ 1) : turns (2 * p + d) = turns p ++ [d == 1] := by
  unfold turns
  obtain ⟨n, hn⟩ : ∃ n, 2 * p + d = n + 1 := ⟨2 * p + d - 1, by omega⟩
  rw [hn]
  simp only [turnsF]
  rw [if_neg (by omega), ← hn, show (2 * p + d) / 2 = p by omega, show (2 * p + d) % 2 = d by omega, turnsF_stable n p p (by omega) (Nat.le_refl _)]
theorem codeAt_append : ∀ (ds : List Bool) (c c' : Code) (d : Bool), codeAt c ds = some c' → codeAt c (ds ++ [d]) = codeAt c' [d]
  | [], c, c', d, h => by simp only [codeAt] at h; cases h; rfl
  | x :: ds, c, c', d, h => by
    cases c with
    | seq a b => simp only [codeAt, List.cons_append] at h ⊢; exact codeAt_append ds _ _ d h
    | cond o a b => simp only [codeAt, List.cons_append] at h ⊢; exact codeAt_append ds _ _ d h
    | block id b => simp only [codeAt, List.cons_append] at h ⊢; exact codeAt_append ds _ _ d h
    | loop b => simp only [codeAt, List.cons_append] at h ⊢; exact codeAt_append ds _ _ d h
    | _ => simp [codeAt] at h
end Go.Proofs.YtdhejeigbjmncaaDoor.E

/- The evaluator's code and calls are the machine's: whatever the evaluator answers, the machine returns. Conditions: those of each lemma. -/
import Derived.Test.YtdhejeigbjmncaaDoorE12D
namespace Go.Proofs.YtdhejeigbjmncaaDoor.E
set_option linter.unusedVariables false
set_option linter.unusedSimpArgs false

variable {P : Program} {w : World} {F : Nat → Prop} {ρ : Locs} {Ow : Own} {h : Heap}

def exi : Exi → Exit
  | .normal => .normal
  | .exit id => .exit id
  | .ret => .ret

/-- code whose regions' slots lie within the frame -/
def codeOK (d : Array Oper → Bool) (n : Nat) : Code → Bool
  | .region _ ops draw => dstOK n ops && (!draw || d ops)
  | .seq a b => codeOK d n a && codeOK d n b
  | .cond _ a b => codeOK d n a && codeOK d n b
  | .block _ c => codeOK d n c
  | .loop c => codeOK d n c
  | _ => true
theorem codeAt_ok {d : Array Oper → Bool} {n : Nat} : ∀ (ds : List Bool) {c c' : Code}, codeOK d n c = true → codeAt c ds = some c' → codeOK d n c' = true
  | [], c, c', hc, h => by simp only [codeAt] at h; cases h; exact hc
  | x :: ds, c, c', hc, h => by
    cases c with
    | seq a b =>
      simp only [codeAt] at h; simp only [codeOK, Bool.and_eq_true] at hc
      refine codeAt_ok ds (c := if x then b else a) ?_ h
      split
      · exact hc.2
      · exact hc.1
    | cond o a b =>
      simp only [codeAt] at h; simp only [codeOK, Bool.and_eq_true] at hc
      refine codeAt_ok ds (c := if x then b else a) ?_ h
      split
      · exact hc.2
      · exact hc.1
    | block id b => simp only [codeAt] at h; exact codeAt_ok ds (c := b) hc h
    | loop b => simp only [codeAt] at h; exact codeAt_ok ds (c := b) hc h
    | _ => simp [codeAt] at h

/-- what is known of inner loops -/
def LoopOK (P : Program) (W0 : World) (pol : Pol) (rec : Rec) : Prop :=
  ∀ f p m vals h x outs h', rec (.loop f p m vals h) = some (.loop x outs h') →
    ∃ fn c b, P.funcs[f]? = some fn ∧ fn.body = some c ∧ codeAt c (turns p) = some (.loop b) ∧
      (1 ≤ p → codeOK (drOK P pol f) fn.ntmps c = true → ∀ (Ow : Own) (w : World) (F : Nat → Prop) (ρ : Locs) (a : Act) (Q : Exit → Act → World → Prop), Base W0 w F → St w F ρ Ow h → OkC Ow w → RVs w F ρ (slotVals a (pol.live f p)) vals → a.tmps.size = fn.ntmps → a.defers = [] →
        (∀ a' w' F' ρ', RE w' F' ρ' a' (mkEnv (pol.outs f p) outs) → St w' F' ρ' Ow h' → Nxt Ow w F noRows w' F' noRows → (∀ r l, r < m → ρ r = some l → ρ' r = some l) → a'.tmps.size = fn.ntmps → a'.defers = [] → Q (exi x) a' w') →
        (Code.loop b).wp P Q a w ∧ LoopWp P b Q a w)

theorem Nxt.forget {w1 : World} {F1 : Nat → Prop} {ρ1 ρa : Locs} (h : Nxt Ow w F ρ w1 F1 ρ1) (he : Ext ρa ρa) : Nxt Ow w F ρa w1 F1 ρa :=
  ⟨h.os, h.tape, h.output, h.size, h.keep, h.agree, h.grow, h.new, he, fun _ _ => rfl⟩

/-- after code: its exit, slots, rows; the rows' numbers may be others -/
def AfterC (Ow : Own) (w : World) (F : Nat → Prop) (ρ : Locs) (m : Nat) (n : Nat) (x : Exi) (e' : Env) (h' : Heap) (Q : Exit → Act → World → Prop) : Prop :=
  ∀ a' w' F' ρ', RE w' F' ρ' a' e' → St w' F' ρ' Ow h' → Nxt Ow w F noRows w' F' noRows → (∀ r l, r < m → ρ r = some l → ρ' r = some l) → a'.tmps.size = n → a'.defers = [] → Q (exi x) a' w'
theorem AfterC.step {w1 : World} {F1 : Nat → Prop} {ρ1 : Locs} {m : Nat} {n : Nat} {x : Exi} {e' : Env} {h' : Heap} {Q : Exit → Act → World → Prop} (hK : AfterC Ow w F ρ m n x e' h' Q) (hN : Nxt Ow w F noRows w1 F1 noRows) (hx : ∀ r l, r < m → ρ r = some l → ρ1 r = some l) : AfterC Ow w1 F1 ρ1 m n x e' h' Q :=
  fun a' w' F' ρ' h1 h2 h3 h4 h5 h6 => hK a' w' F' ρ' h1 h2 (hN.trans h3) (fun r l hr hl => h4 r l hr (hx r l hr hl)) h5 h6

theorem code_wp {W0 : World} {pol : Pol} {rec : Rec} (hrec : CallOK P W0 rec) (hloop : LoopOK P W0 pol rec) {f : Nat} {fn : Func} {body : Code} (hf : P.funcs[f]? = some fn) (hbody : fn.body = some body) (hbOK : codeOK (drOK P pol f) fn.ntmps body = true) {m : Nat} :
    ∀ (c : Code) (p : Nat) {w : World} {F : Nat → Prop} {ρ : Locs} {h : Heap} {e : Env} {x : Exi} {e' : Env} {h' : Heap} {a : Act} {Q : Exit → Act → World → Prop},
      evC P pol rec f m c p e h = some (x, e', h') → 1 ≤ p → codeAt body (turns p) = some c → Base W0 w F → St w F ρ Ow h → OkC Ow w → RE w F ρ a e → a.tmps.size = fn.ntmps → a.defers = [] →
      AfterC Ow w F ρ m fn.ntmps x e' h' Q → c.wp P Q a w
  | .skip, p, w, F, ρ, h, e, x, e', h', a, Q, hev, hp, hat, hB, hS, hO, he, hn, hd, hQ => by
    simp only [evC] at hev; cases hev
    exact wp_skip (hQ a w F ρ he hS (Nxt.refl _ _ _ _) (fun _ _ _ x => x) hn hd)
  | .exit id, p, w, F, ρ, h, e, x, e', h', a, Q, hev, hp, hat, hB, hS, hO, he, hn, hd, hQ => by
    simp only [evC] at hev; cases hev
    exact wp_exit (hQ a w F ρ he hS (Nxt.refl _ _ _ _) (fun _ _ _ x => x) hn hd)
  | .ret, p, w, F, ρ, h, e, x, e', h', a, Q, hev, hp, hat, hB, hS, hO, he, hn, hd, hQ => by
    simp only [evC] at hev; cases hev
    exact wp_ret (hQ a w F ρ he hS (Nxt.refl _ _ _ _) (fun _ _ _ x => x) hn hd)
  | .seq c1 c2, p, w, F, ρ, h, e, x, e', h', a, Q, hev, hp, hat, hB, hS, hO, he, hn, hd, hQ => by
    simp only [evC] at hev
    have a1 : codeAt body (turns (2 * p)) = some c1 := by
      have := turns_two hp 0 (by omega); simp only [Nat.add_zero] at this
      rw [this, codeAt_append _ _ _ _ hat]; rfl
    have a2 : codeAt body (turns (2 * p + 1)) = some c2 := by
      rw [turns_two hp 1 (by omega), codeAt_append _ _ _ _ hat]; rfl
    refine wp_seq ?_
    split at hev
    · rename_i e1 h1 h1ev
      refine code_wp hrec hloop hf hbody hbOK c1 (2 * p) h1ev (by omega) a1 hB hS hO he hn hd fun a' w' F' ρ' k1 k2 k3 kx k4 k5 => ?_
      exact code_wp hrec hloop hf hbody hbOK c2 (2 * p + 1) hev (by omega) a2 (hB.next k3) k2 (hO.mono k3.size) k1 k4 k5 (hQ.step k3 kx)
    · rename_i hne
      refine code_wp hrec hloop hf hbody hbOK c1 (2 * p) hev (by omega) a1 hB hS hO he hn hd fun a' w' F' ρ' k1 k2 k3 kx k4 k5 => ?_
      have := hQ a' w' F' ρ' k1 k2 k3 kx k4 k5
      cases x with
      | normal => exact absurd hev (hne e' h')
      | exit id => exact this
      | ret => exact this
  | .cond c c1 c2, p, w, F, ρ, h, e, x, e', h', a, Q, hev, hp, hat, hB, hS, hO, he, hn, hd, hQ => by
    simp only [evC] at hev
    have a1 : codeAt body (turns (2 * p)) = some c1 := by
      have := turns_two hp 0 (by omega); simp only [Nat.add_zero] at this
      rw [this, codeAt_append _ _ _ _ hat]; rfl
    have a2 : codeAt body (turns (2 * p + 1)) = some c2 := by
      rw [turns_two hp 1 (by omega), codeAt_append _ _ _ _ hat]; rfl
    split at hev
    · rename_i t hc
      have hcv := opv_rv (P := P) he 0 c
      rw [hc] at hcv
      refine wp_cond (t := t) (rv_bool hcv) ?_
      cases t with
      | true => simp only [if_true] at hev ⊢; exact code_wp hrec hloop hf hbody hbOK c1 (2 * p) hev (by omega) a1 hB hS hO he hn hd hQ
      | false => simp only [Bool.false_eq_true, if_false] at hev ⊢; exact code_wp hrec hloop hf hbody hbOK c2 (2 * p + 1) hev (by omega) a2 hB hS hO he hn hd hQ
    · cases hev
  | .block id c, p, w, F, ρ, h, e, x, e', h', a, Q, hev, hp, hat, hB, hS, hO, he, hn, hd, hQ => by
    simp only [evC] at hev
    have a1 : codeAt body (turns (2 * p)) = some c := by
      have := turns_two hp 0 (by omega); simp only [Nat.add_zero] at this
      rw [this, codeAt_append _ _ _ _ hat]; rfl
    refine wp_block ?_
    split at hev
    · rename_i id' e1 h1 h1ev
      refine code_wp hrec hloop hf hbody hbOK c (2 * p) h1ev (by omega) a1 hB hS hO he hn hd fun a' w' F' ρ' k1 k2 k3 kx k4 k5 => ?_
      simp only [exi, Exit.inBlock]
      split at hev
      · rename_i hid
        cases hev
        rw [if_pos hid]
        exact hQ a' w' F' ρ' k1 k2 k3 kx k4 k5
      · rename_i hid
        cases hev
        rw [if_neg hid]
        exact hQ a' w' F' ρ' k1 k2 k3 kx k4 k5
    · rename_i hne
      refine code_wp hrec hloop hf hbody hbOK c (2 * p) hev (by omega) a1 hB hS hO he hn hd fun a' w' F' ρ' k1 k2 k3 kx k4 k5 => ?_
      have := hQ a' w' F' ρ' k1 k2 k3 kx k4 k5
      cases x with
      | normal => exact this
      | exit id' => exact absurd hev (hne id' e' h')
      | ret => exact this
  | .loop b, p, w, F, ρ, h, e, x, e', h', a, Q, hev, hp, hat, hB, hS, hO, he, hn, hd, hQ => by
    simp only [evC] at hev
    split at hev
    · rename_i x' outs h1 hr
      cases hev
      obtain ⟨fn', c', b', f1, f2, f3, f4⟩ := hloop f p m _ _ _ _ _ hr
      rw [hf] at f1; cases f1
      rw [hbody] at f2; cases f2
      rw [hat] at f3; cases f3
      obtain ⟨ρ', k1, k2, kp⟩ := pack_st (m := m) hS (slotVals_rv he (pol.live f p))
      exact (f4 hp hbOK Ow w F ρ' a Q hB k2 hO k1 hn hd (hQ.step (Nxt.refl _ _ _ _) fun r l hr hl => (kp r hr).trans hl)).1
    · cases hev
  | .region id ops draw, p, w, F, ρ, h, e, x, e', h', a, Q, hev, hp, hat, hB, hS, hO, he, hn, hd, hQ => by
    simp only [evC] at hev
    split at hev
    · cases hev
    · rename_i hdr
      have hcOK := codeAt_ok _ hbOK hat
      simp only [codeOK, Bool.and_eq_true] at hcOK
      obtain ⟨hdst, hdraw⟩ := hcOK
      split at hev
      · rename_i e1 h1 hops
        cases hev
        cases draw with
        | false =>
          simp only [Bool.false_and, Bool.false_eq_true, if_false] at hops
          rw [evIdx_eq (List.range ops.size) ops.toList e h (range_ops ops)] at hops
          exact wp_region (idx_wp hrec hdst _ hops hB hS hO he hn hd fun a' w' F' ρ' k1 k2 k3 k4 k5 => hQ a' w' F' ρ' k1 k2 (k3.forget (Ext.refl _)) (fun r l _ hl => k3.ext r l hl) k4 k5)
        | true =>
          have hdr' : pol.dr f = true := by simpa using hdr
          have hok : drawOK P ops = true := by simpa [drOK, hdr'] using hdraw
          simp only [Bool.true_and] at hops
          exact draw_wp hB hrec hdst hok hops hS hO he hn hd fun a' w' F' ρ' k1 k2 k3 k4 k5 => hQ a' w' F' ρ' k1 k2 (k3.forget (Ext.refl _)) (fun r l _ hl => k3.ext r l hl) k4 k5
      · cases hev
  | .rangeFunc _ _ _ _, p, w, F, ρ, h, e, x, e', h', a, Q, hev, hp, hat, hB, hS, hO, he, hn, hd, hQ => by simp [evC] at hev
  | .scope _, p, w, F, ρ, h, e, x, e', h', a, Q, hev, hp, hat, hB, hS, hO, he, hn, hd, hQ => by simp [evC] at hev
  | .label _, p, w, F, ρ, h, e, x, e', h', a, Q, hev, hp, hat, hB, hS, hO, he, hn, hd, hQ => by simp [evC] at hev
  | .goto _, p, w, F, ρ, h, e, x, e', h', a, Q, hev, hp, hat, hB, hS, hO, he, hn, hd, hQ => by simp [evC] at hev
  | .refuse _, p, w, F, ρ, h, e, x, e', h', a, Q, hev, hp, hat, hB, hS, hO, he, hn, hd, hQ => by simp [evC] at hev

/-! ### Results, entries -/
def resSem (a : Act) : ResultVar → Sem Value
  | .tmp t => pure (a.tmps.getD t undef)
  | .cell b t => do loadVar t (← asAddr (a.tmps.getD b undef))
theorem resV_ok (hS : St w F ρ Ow h) {a : Act} {e : Env} (he : RE w F ρ a e) : ∀ (rs : List ResultVar) {vs : List V}, resV P e h rs = some vs →
    ∃ us : List Value, (rs.mapM (resSem a)).run P w = .ok us w ∧ RVs w F ρ us vs
  | [], vs, hr => by simp only [resV] at hr; cases hr; exact ⟨[], rfl, .nil⟩
  | .tmp t :: rs, vs, hr => by
    simp only [resV] at hr
    split at hr
    · rename_i vs' h1
      cases hr
      obtain ⟨us, e1, e2⟩ := resV_ok hS he rs h1
      refine ⟨a.tmps.getD t undef :: us, ?_, .cons (he t) e2⟩
      have e5 : (resSem a (.tmp t)).run P w = .ok (a.tmps.getD t undef) w := rfl
      rw [List.mapM_cons, Sem.run_bind, e5]
      simp only [Result.andThen_ok]
      rw [Sem.run_bind, e1]
      rfl
    · cases hr
  | .cell b t :: rs, vs, hr => by
    simp only [resV] at hr
    split at hr
    · rename_i v hl
      split at hr
      · rename_i vs' h1
        cases hr
        obtain ⟨us, e1, e2⟩ := resV_ok hS he rs h1
        obtain ⟨u, e3, e4⟩ := load_ok (P := P) hS hl (he b)
        have hptr : ∃ ad, a.tmps.getD b undef = .pointer (some ad) := by
          have hb := he b
          unfold load at hl
          generalize hgx : a.tmps.getD b undef = z at hb
          generalize hge : e b = eb at hb hl
          cases hb with
          | ptr => exact ⟨_, rfl⟩
          | t _ _ hx => cases hx <;> first | exact ⟨_, rfl⟩ | simp at hl
          | _ => simp at hl
        obtain ⟨ad, hptr⟩ := hptr
        refine ⟨u :: us, ?_, .cons e4 e2⟩
        have e3' : (loadVar t ad).run P w = .ok u w := by
          rw [hptr] at e3
          simpa [Instr.loadAt, Instr.sureAddr] using e3
        have e5 : (resSem a (.cell b t)).run P w = .ok u w := by simp [resSem, hptr, asAddr, e3']
        rw [List.mapM_cons, Sem.run_bind, e5]
        simp only [Result.andThen_ok]
        rw [Sem.run_bind, e1]
        rfl
      · cases hr
    · cases hr
theorem results_ok (hS : St w F ρ Ow h) {a : Act} {e : Env} (he : RE w F ρ a e) {fn : Func} {vs : List V} (hr : resV P e h fn.results.toList = some vs) : ∃ u, (results fn a.tmps).run P w = .ok u w ∧ RV w F ρ u (tupV vs) := by
  obtain ⟨us, e1, e2⟩ := resV_ok hS he fn.results.toList hr
  have hm : (fn.results.mapM (resSem a)).run P w = .ok us.toArray w := by
    rw [Array.mapM_eq_mapM_toList, Sem.run_map, e1]; rfl
  have hres : results fn a.tmps = (do let vs ← fn.results.mapM (resSem a); pure (if h : vs.size = 1 then vs[0] else .tuple vs)) := by
    unfold results
    congr 2
  rw [hres, Sem.run_bind, hm]
  simp only [Result.andThen_ok, Sem.run_pure]
  refine ⟨_, rfl, ?_⟩
  cases e2 with
  | nil => exact RV.tup' .nil
  | cons h1 h2 =>
    cases h2 with
    | nil => simpa [tupV] using h1
    | cons h3 h4 =>
      rw [dif_neg (by simp)]
      simp only [tupV]
      exact RV.tup' (.cons h1 (.cons h3 h4))
theorem range_vals : ∀ (us : List Value) (n : Nat) (pre : List Value) (post : List Value), n = us.length → slotVals ⟨(pre ++ us ++ post).toArray, []⟩ ((List.range' pre.length n)) = us
  | [], n, pre, post, hn => by subst hn; rfl
  | u :: us, n, pre, post, hn => by
    subst hn
    simp only [List.length_cons, List.range'_succ, slotVals, List.map_cons]
    have h1 := range_vals us us.length (pre ++ [u]) post rfl
    simp only [List.length_append, List.length_singleton, slotVals, List.append_assoc, List.singleton_append, List.cons_append, List.nil_append] at h1
    simp only [List.append_assoc, List.cons_append]
    rw [h1]
    congr 1
    simp [List.getElem?_append_right]

/-- what is shown by other means is so -/
def ExtOK (P : Program) (W0 : World) (pol : Pol) : Prop :=
  ∀ g args v, pol.ext g args = some v →
    (∃ fn, P.funcs[g]? = some fn ∧ (fn.name == "runtime.NumGoroutine") = false ∧ fn.body.isNone = false) ∧
    ∀ (w : World) (F : Nat → Prop) (us : Array Value), Base W0 w F → (∀ b, F b → b < w.heap.size) → RVs w F noRows us.toList args →
      Calls P g us w fun e w' => ∃ u F', e = .returned u ∧ RV w' F' noRows u v ∧ (∀ b, F' b → b < w'.heap.size) ∧ Nxt (own fun b => w.heap.size ≤ b) w F noRows w' F' noRows
theorem step_ok {W0 : World} {pol : Pol} {rec : Rec} (hE : ExtOK P W0 pol) (hP : ∀ f fn c, pol.no f = false → P.funcs[f]? = some fn → fn.body = some c → codeOK (drOK P pol f) fn.ntmps c = true) (hrec : CallOK P W0 rec) (hloop : LoopOK P W0 pol rec) : CallOK P W0 (step P pol rec) ∧ LoopOK P W0 pol (step P pol rec) := by
  refine ⟨⟨?_, ?_⟩, ?_⟩
  · intro g args v hs
    simp only [step] at hs
    split at hs
    · rename_i v' hx
      split at hs
      · cases hs; exact hE g args _ hx
      · cases hs
    split at hs
    · rename_i fn hf
      split at hs
      · rename_i c hb
        split at hs
        · cases hs
        · rename_i hc
          simp only [Bool.or_eq_true, decide_eq_true_eq, not_or, Bool.not_eq_true, Nat.not_lt] at hc
          obtain ⟨⟨c1, c2⟩, c3⟩ := hc
          refine ⟨⟨fn, hf, c2, by simp [hb]⟩, fun w F us hB hF hu => ?_⟩
          have hul := forall₂_len hu
          have hbOK := hP g fn c c1 hf hb
          have hS0 : St w F noRows (own fun b => w.heap.size ≤ b) [] := ⟨fun r b hr => by simp at hr, fun r r' b b' L L' hr => by simp at hr, hF, fun _ _ => rfl⟩
          have hE0 : RE w F noRows ⟨us ++ Array.replicate (fn.ntmps - us.size) undef, []⟩ (mkEnv (List.range args.length) args) := by
            refine mkEnv_re _ _ ?_
            have := range_vals us.toList args.length [] (List.replicate (fn.ntmps - us.size) undef) hul.symm
            simp only [List.length_nil, List.nil_append] at this
            rw [List.range_eq_range']
            have e0 : (⟨us ++ Array.replicate (fn.ntmps - us.size) undef, []⟩ : Act) = ⟨(us.toList ++ List.replicate (fn.ntmps - us.size) undef).toArray, []⟩ := by
              congr 1
              apply Array.ext'
              simp
            rw [e0, this]
            exact hu
          have hn0 : (us ++ Array.replicate (fn.ntmps - us.size) undef).size = fn.ntmps := by simp at hul ⊢; omega
          have finish : ∀ (x : Exi) e' h', (exi x = .normal ∨ exi x = .ret) → (match resV P e' h' fn.results.toList with
              | some vs => match give h' (tupV vs) with
                | some (v, h'') => some (Resp.call v (h''.take 0))
                | none => none
              | none => none) = some (.call v []) → evC P pol rec g 0 c 1 (mkEnv (List.range args.length) args) [] = some (x, e', h') →
              Calls P g us w fun e w' => ∃ u F', e = .returned u ∧ RV w' F' noRows u v ∧ (∀ b, F' b → b < w'.heap.size) ∧ Nxt (own fun b => w.heap.size ≤ b) w F noRows w' F' noRows := by
            intro x e' h' hx hfin hev
            refine calls_of_wp hf hb (code_wp (m := 0) hrec hloop hf hb hbOK c 1 hev (Nat.le_refl _) rfl hB hS0 (OkC.own _ fun b hb => hb) hE0 hn0 rfl fun a' w' F' ρ' k1 k2 k3 kx k4 k5 => ?_)
            split at hfin
            · rename_i vs hvs
              split at hfin
              · rename_i v' h2 hg
                cases hfin
                obtain ⟨u, r1, r2⟩ := results_ok k2 k1 hvs
                obtain ⟨F2, g1, g2, g3⟩ := give_ok noRows (tupV vs) k2 r2 hg
                have : a'.defers = [] ∧ ∃ v', (results fn a'.tmps).run P w' = .ok v' w' ∧ ∃ u F', Ending.returned v' = .returned u ∧ RV w' F' noRows u v ∧ (∀ b, F' b → b < w'.heap.size) ∧ Nxt (own fun b => w.heap.size ≤ b) w F noRows w' F' noRows :=
                  ⟨k5, u, r1, u, F2, rfl, g1, g2.fsz, k3.trans (g3.forget (Ext.refl _))⟩
                rcases hx with hx | hx <;> rw [hx] <;> exact this
              · cases hfin
            · cases hfin
          split at hs
          · rename_i e' h' hev
            exact finish .normal e' h' (.inl rfl) hs hev
          · rename_i e' h' hev
            exact finish .ret e' h' (.inr rfl) hs hev
          · cases hs
      · cases hs
    · cases hs
  · intro gv g args h v h' hs
    simp only [step] at hs
    split at hs
    · rename_i fn hf
      split at hs
      · rename_i c hb
        split at hs
        · cases hs
        · rename_i hc
          simp only [Bool.or_eq_true, decide_eq_true_eq, not_or, Bool.not_eq_true, Nat.not_lt] at hc
          obtain ⟨⟨c1, c2⟩, c3⟩ := hc
          refine ⟨⟨fn, hf, c2, by simp [hb]⟩, fun Ow w F ρ us hB hS hO hu => ?_⟩
          have hul := forall₂_len hu
          have hbOK := hP g fn c c1 hf hb
          have hE0 : RE w F ρ ⟨us ++ Array.replicate (fn.ntmps - us.size) undef, []⟩ (mkEnv (List.range args.length) args) := by
            refine mkEnv_re _ _ ?_
            have := range_vals us.toList args.length [] (List.replicate (fn.ntmps - us.size) undef) hul.symm
            simp only [List.length_nil, List.nil_append] at this
            rw [List.range_eq_range']
            have e0 : (⟨us ++ Array.replicate (fn.ntmps - us.size) undef, []⟩ : Act) = ⟨(us.toList ++ List.replicate (fn.ntmps - us.size) undef).toArray, []⟩ := by
              congr 1
              apply Array.ext'
              simp
            rw [e0, this]
            exact hu
          have hn0 : (us ++ Array.replicate (fn.ntmps - us.size) undef).size = fn.ntmps := by simp at hul ⊢; omega
          have finish : ∀ (x : Exi) e' h1, (exi x = .normal ∨ exi x = .ret) → retO gv h.length (resV P e' h1 fn.results.toList) h1 = some (.call v h') → evC P pol rec g h.length c 1 (mkEnv (List.range args.length) args) h = some (x, e', h1) →
              Calls P g us w fun e w' => ∃ u F' ρ', e = .returned u ∧ RV w' F' ρ' u v ∧ St w' F' ρ' Ow h' ∧ Nxt Ow w F noRows w' F' noRows ∧ ∀ r l, r < h.length → ρ r = some l → ρ' r = some l := by
            intro x e' h1 hx hfin hev
            refine calls_of_wp hf hb (code_wp (m := h.length) hrec hloop hf hb hbOK c 1 hev (Nat.le_refl _) rfl hB hS hO hE0 hn0 rfl fun a' w' F' ρ' k1 k2 k3 kx k4 k5 => ?_)
            unfold retO at hfin
            split at hfin
            · rename_i vs hvs
              obtain ⟨u, r1, r2⟩ := results_ok k2 k1 hvs
              cases gv with
              | false =>
                simp only [Bool.false_eq_true, if_false] at hfin
                cases hfin
                have hnd : (reach h1 3 (nodups (List.range h.length) (refs.refss vs))).Nodup := reach_ok h1 3 _ (nodups_ok _ _ List.nodup_range)
                have hfirst := pack_first h.length vs h1
                have hS2 := pack_ids hnd k2
                have hv : ∀ l : List V, ren (idx (reach h1 3 (nodups (List.range h.length) (refs.refss vs)))) (tupV l) = tupV (ren.rens (idx (reach h1 3 (nodups (List.range h.length) (refs.refss vs)))) l) := fun l => by
                  match l with
                  | [] => rfl
                  | [a] => rfl
                  | a :: b :: l => rfl
                have : a'.defers = [] ∧ ∃ v', (results fn a'.tmps).run P w' = .ok v' w' ∧ ∃ u F' ρ', Ending.returned v' = .returned u ∧ RV w' F' ρ' u (tupV (packH h.length vs h1).1) ∧ St w' F' ρ' Ow (packH h.length vs h1).2 ∧ Nxt Ow w F noRows w' F' noRows ∧ ∀ r l, r < h.length → ρ r = some l → ρ' r = some l :=
                  ⟨k5, u, r1, u, F', renLocs ρ' _, rfl, by have := ren_ok (reach h1 3 (nodups (List.range h.length) (refs.refss vs))) _ r2; rw [hv] at this; exact this, hS2, k3, fun r l hr hl => by simp [renLocs, hfirst r hr, kx r l hr hl]⟩
                rcases hx with hx | hx <;> rw [hx] <;> exact this
              | true =>
                simp only [if_true] at hfin
                split at hfin
                · rename_i v' h2 hg
                  cases hfin
                  obtain ⟨F2, g1, g2, g3⟩ := give_ok noRows (tupV vs) k2 r2 hg
                  have hnd : (reach h2 3 (nodups (List.range h.length) (refs.refss []))).Nodup := reach_ok h2 3 _ (nodups_ok _ _ List.nodup_range)
                  have hfirst := pack_first h.length [] h2
                  have hS2 := pack_ids hnd g2
                  have : a'.defers = [] ∧ ∃ v', (results fn a'.tmps).run P w' = .ok v' w' ∧ ∃ u F' ρ', Ending.returned v' = .returned u ∧ RV w' F' ρ' u v ∧ St w' F' ρ' Ow (packH h.length [] h2).2 ∧ Nxt Ow w F noRows w' F' noRows ∧ ∀ r l, r < h.length → ρ r = some l → ρ' r = some l :=
                    ⟨k5, u, r1, u, F2, renLocs ρ' _, rfl, g1.mono (fun _ _ => rfl) (fun _ x => x) (noRows_ext _), hS2, k3.trans (g3.forget (Ext.refl _)), fun r l hr hl => by simp [renLocs, hfirst r hr, kx r l hr hl]⟩
                  rcases hx with hx | hx <;> rw [hx] <;> exact this
                · cases hfin
            · cases hfin
          split at hs
          · rename_i e' h1 hev
            exact finish .normal e' h1 (.inl rfl) hs hev
          · rename_i e' h1 hev
            exact finish .ret e' h1 (.inr rfl) hs hev
          · cases hs
      · cases hs
    · cases hs
  · intro f p m vals h x outs h' hs
    simp only [step] at hs
    split at hs
    · rename_i fn hf
      split at hs
      · rename_i c hb
        split at hs
        · rename_i b hat
          refine ⟨fn, c, b, hf, hb, hat, fun hp hbOK Ow w F ρ a Q hB hS hO hv hn hd hQ => ?_⟩
          have hat' : codeAt c (turns (2 * p)) = some b := by
            have := turns_two hp 0 (by omega); simp only [Nat.add_zero] at this
            rw [this, codeAt_append _ _ _ _ hat]; rfl
          have body : b.wp P (Exit.then (LoopWp P b Q) Q) a w := by
            split at hs
            · rename_i e1 h1 hev
              refine code_wp hrec hloop hf hb hbOK b (2 * p) hev (by omega) hat' hB hS hO (mkEnv_re _ _ hv) hn hd fun a' w' F' ρ' k1 k2 k3 kx k4 k5 => ?_
              obtain ⟨fn2, c2, b2, i1, i2, i3, i4⟩ := hloop f p m _ _ _ _ _ hs
              rw [hf] at i1; cases i1
              rw [hb] at i2; cases i2
              rw [hat] at i3; cases i3
              obtain ⟨ρ2, j1, j2, jp⟩ := pack_st (m := m) k2 (slotVals_rv k1 (pol.live f p))
              exact (i4 hp hbOK Ow w' F' ρ2 a' Q (hB.next k3) j2 (hO.mono k3.size) j1 k4 k5 fun a2 w2 F2 ρ2' l1 l2 l3 lx l4 l5 => hQ a2 w2 F2 ρ2' l1 l2 (k3.trans l3) (fun r l hr hl => lx r l hr ((jp r hr).trans (kx r l hr hl))) l4 l5).2
            · rename_i x' e1 h1 hne hev
              cases hs
              refine code_wp hrec hloop hf hb hbOK b (2 * p) hev (by omega) hat' hB hS hO (mkEnv_re _ _ hv) hn hd fun a' w' F' ρ' k1 k2 k3 kx k4 k5 => ?_
              obtain ⟨ρ2, j1, j2, jp⟩ := pack_st (m := m) k2 (slotVals_rv k1 (pol.outs f p))
              have := hQ a' w' F' ρ2 (mkEnv_re _ _ j1) j2 k3 (fun r l hr hl => (jp r hr).trans (kx r l hr hl)) k4 k5
              cases x with
              | normal => exact absurd rfl hne
              | exit id => exact this
              | ret => exact this
            · cases hs
          exact ⟨loop_wp body, loop_again body⟩
        · cases hs
      · cases hs
    · cases hs
theorem it_ok {W0 : World} {pol : Pol} (hE : ExtOK P W0 pol) (hP : ∀ f fn c, pol.no f = false → P.funcs[f]? = some fn → fn.body = some c → codeOK (drOK P pol f) fn.ntmps c = true) : ∀ n, CallOK P W0 (it P pol n) ∧ LoopOK P W0 pol (it P pol n)
  | 0 => ⟨⟨fun g args v hs => by simp [it] at hs, fun gv g args h v h' hs => by simp [it] at hs⟩, fun f p m vals h x outs h' hs => by simp [it] at hs⟩
  | n + 1 => step_ok hE hP (it_ok hE hP n).1 (it_ok hE hP n).2
end Go.Proofs.YtdhejeigbjmncaaDoor.E

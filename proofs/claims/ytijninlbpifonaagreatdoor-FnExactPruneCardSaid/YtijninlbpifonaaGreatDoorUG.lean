/- Joined: E13 E14 E15 E16 E17 E18. Conditions: those of each lemma. -/
import Derived.Test.YtijninlbpifonaaGreatDoorUF
import Derived.ProofKit
import Derived.ReadAgain
import Derived.ChangeSame
import Derived.IntWalk
set_option linter.unusedVariables false
set_option linter.unusedSimpArgs false
namespace Go.Proofs.YtijninlbpifonaaGreatDoor.E
set_option linter.unusedVariables false
set_option linter.unusedSimpArgs false
variable {P : Program} {w : World} {F : Nat → Prop} {ρ : y6} {Ow : Own} {h : Heap}
def exi : Exi → Exit
 | .normal => .normal
 | .exit id => .exit id
 | .ret => .ret
/-- code whose regions' slots lie within the frame -/
def yR (d : Array Oper → Bool) (n : Nat) : Code → Bool
 | .region _ ops draw => qC n ops && (!draw || d ops)
 | .seq a b => yR d n a && yR d n b
 | .cond _ a b => yR d n a && yR d n b
 | .block _ c => yR d n c
 | .loop c => yR d n c
 | _ => true
theorem u9 {d : Array Oper → Bool} {n : Nat} : ∀ (ds : List Bool) {c c' : Code}, yR d n c = true → yD c ds = some c' → yR d n c' = true
 | [], c, c', hc, h => by simp only [yD] at h; cases h; exact hc
 | x :: ds, c, c', hc, h => by
  cases c with
  | seq a b =>
   simp only [yD] at h; simp only [yR, Bool.and_eq_true] at hc
   refine u9 ds (c := if x then b else a) ?_ h
   split
   · exact hc.2
   · exact hc.1
  | cond o a b =>
   simp only [yD] at h; simp only [yR, Bool.and_eq_true] at hc
   refine u9 ds (c := if x then b else a) ?_ h
   split
   · exact hc.2
   · exact hc.1
  | block id b => simp only [yD] at h; exact u9 ds (c := b) hc h
  | loop b => simp only [yD] at h; exact u9 ds (c := b) hc h
  | _ => simp [yD] at h
/-- what is known of inner loops -/
def jJ (P : Program) (W0 : World) (pol : Pol) (rec : Rec) : Prop :=
 ∀ f p m vals h x outs h', rec (.loop f p m vals h) = some (.loop x outs h') →
  ∃ fn c b, P.funcs[f]? = some fn ∧ fn.body = some c ∧ yD c (turns p) = some (.loop b) ∧
   (1 ≤ p → yR (qZ P pol f) fn.ntmps c = true → ∀ (Ow : Own) (w : World) (F : Nat → Prop) (ρ : y6) (a : Act) (Q : Exit → Act → World → Prop), wL W0 w F → St w F ρ Ow h → OkC Ow w → RVs w F ρ (ug a (pol.live f p)) vals → a.tmps.size = fn.ntmps → a.defers = [] →
    (∀ a' w' F' ρ', RE w' F' ρ' a' (zb (pol.outs f p) outs) → St w' F' ρ' Ow h' → Nxt Ow w F zH w' F' zH → (∀ r l, r < m → ρ r = some l → ρ' r = some l) → a'.tmps.size = fn.ntmps → a'.defers = [] → Q (exi x) a' w') →
    (Code.loop b).wp P Q a w ∧ ph P b Q a w)
theorem Nxt.forget {w1 : World} {F1 : Nat → Prop} {ρ1 ρa : y6} (h : Nxt Ow w F ρ w1 F1 ρ1) (he : Ext ρa ρa) : Nxt Ow w F ρa w1 F1 ρa :=
 ⟨h.os, h.tape, h.output, h.size, h.keep, h.agree, h.grow, h.new, he, fun _ _ => rfl⟩
/-- after code: its exit, slots, rows; the rows' numbers may be others -/
def jL (Ow : Own) (w : World) (F : Nat → Prop) (ρ : y6) (m : Nat) (n : Nat) (x : Exi) (e' : Env) (h' : Heap) (Q : Exit → Act → World → Prop) : Prop :=
 ∀ a' w' F' ρ', RE w' F' ρ' a' e' → St w' F' ρ' Ow h' → Nxt Ow w F zH w' F' zH → (∀ r l, r < m → ρ r = some l → ρ' r = some l) → a'.tmps.size = n → a'.defers = [] → Q (exi x) a' w'
theorem jL.step {w1 : World} {F1 : Nat → Prop} {ρ1 : y6} {m : Nat} {n : Nat} {x : Exi} {e' : Env} {h' : Heap} {Q : Exit → Act → World → Prop} (hK : jL Ow w F ρ m n x e' h' Q) (hN : Nxt Ow w F zH w1 F1 zH) (hx : ∀ r l, r < m → ρ r = some l → ρ1 r = some l) : jL Ow w1 F1 ρ1 m n x e' h' Q :=
 fun a' w' F' ρ' h1 h2 h3 h4 h5 h6 => hK a' w' F' ρ' h1 h2 (hN.trans h3) (fun r l hr hl => h4 r l hr (hx r l hr hl)) h5 h6
theorem wq {W0 : World} {pol : Pol} {rec : Rec} (hrec : xw P W0 rec) (hloop : jJ P W0 pol rec) {f : Nat} {fn : Func} {body : Code} (hf : P.funcs[f]? = some fn) (hbody : fn.body = some body) (hbOK : yR (qZ P pol f) fn.ntmps body = true) {m : Nat} :
 ∀ (c : Code) (p : Nat) {w : World} {F : Nat → Prop} {ρ : y6} {h : Heap} {e : Env} {x : Exi} {e' : Env} {h' : Heap} {a : Act} {Q : Exit → Act → World → Prop},
  evC P pol rec f m c p e h = some (x, e', h') → 1 ≤ p → yD body (turns p) = some c → wL W0 w F → St w F ρ Ow h → OkC Ow w → RE w F ρ a e → a.tmps.size = fn.ntmps → a.defers = [] →
  jL Ow w F ρ m fn.ntmps x e' h' Q → c.wp P Q a w
 | .skip, p, w, F, ρ, h, e, x, e', h', a, Q, hev, hp, hat, hB, hS, hO, he, hn, hd, hQ => by
  simp only [evC] at hev; cases hev
  exact wp_skip (hQ a w F ρ he hS (Nxt.refl _ _ _ _) (fun _ _ _ x => x) hn hd)
 | .exit id, p, w, F, ρ, h, e, x, e', h', a, Q, hev, hp, hat, hB, hS, hO, he, hn, hd, hQ => by
  simp only [evC] at hev; cases hev
  exact wp_exit (hQ a w F ρ he hS (Nxt.refl _ _ _ _) (fun _ _ _ x => x) hn hd)
 | .ret, p, w, F, ρ, h, e, x, e', h', a, Q, hev, hp, hat, hB, hS, hO, he, hn, hd, hQ => by
  simp only [evC] at hev; cases hev
  exact wp_ret (hQ a w F ρ he hS (Nxt.refl _ _ _ _) (fun _ _ _ x => x) hn hd)
 | .seq c1 c2, p, w, F, ρ, h, e, x, e', h', a, Q, hev, hp, hat, hB, hS, hO, he, hn, hd, hQ => by
  simp only [evC] at hev
  have a1 : yD body (turns (2 * p)) = some c1 := by
   have := vm hp 0 (by omega); simp only [Nat.add_zero] at this
   rw [this, yB _ _ _ _ hat]; rfl
  have a2 : yD body (turns (2 * p + 1)) = some c2 := by
   rw [vm hp 1 (by omega), yB _ _ _ _ hat]; rfl
  refine wp_seq ?_
  split at hev
  · rename_i e1 h1 h1ev
    refine wq hrec hloop hf hbody hbOK c1 (2 * p) h1ev (by omega) a1 hB hS hO he hn hd fun a' w' F' ρ' k1 k2 k3 kx k4 k5 => ?_
    exact wq hrec hloop hf hbody hbOK c2 (2 * p + 1) hev (by omega) a2 (hB.next k3) k2 (hO.mono k3.size) k1 k4 k5 (hQ.step k3 kx)
  · rename_i hne
    refine wq hrec hloop hf hbody hbOK c1 (2 * p) hev (by omega) a1 hB hS hO he hn hd fun a' w' F' ρ' k1 k2 k3 kx k4 k5 => ?_
    have := hQ a' w' F' ρ' k1 k2 k3 kx k4 k5
    cases x with
    | normal => exact absurd hev (hne e' h')
    | exit id => exact this
    | ret => exact this
 | .cond c c1 c2, p, w, F, ρ, h, e, x, e', h', a, Q, hev, hp, hat, hB, hS, hO, he, hn, hd, hQ => by
  simp only [evC] at hev
  have a1 : yD body (turns (2 * p)) = some c1 := by
   have := vm hp 0 (by omega); simp only [Nat.add_zero] at this
   rw [this, yB _ _ _ _ hat]; rfl
  have a2 : yD body (turns (2 * p + 1)) = some c2 := by
   rw [vm hp 1 (by omega), yB _ _ _ _ hat]; rfl
  split at hev
  · rename_i t hc
    have hcv := yw (P := P) he 0 c
    rw [hc] at hcv
    refine wp_cond (t := t) (ja hcv) ?_
    cases t with
    | true => simp only [if_true] at hev ⊢; exact wq hrec hloop hf hbody hbOK c1 (2 * p) hev (by omega) a1 hB hS hO he hn hd hQ
    | false => simp only [Bool.false_eq_true, if_false] at hev ⊢; exact wq hrec hloop hf hbody hbOK c2 (2 * p + 1) hev (by omega) a2 hB hS hO he hn hd hQ
  · cases hev
 | .block id c, p, w, F, ρ, h, e, x, e', h', a, Q, hev, hp, hat, hB, hS, hO, he, hn, hd, hQ => by
  simp only [evC] at hev
  have a1 : yD body (turns (2 * p)) = some c := by
   have := vm hp 0 (by omega); simp only [Nat.add_zero] at this
   rw [this, yB _ _ _ _ hat]; rfl
  refine wp_block ?_
  split at hev
  · rename_i id' e1 h1 h1ev
    refine wq hrec hloop hf hbody hbOK c (2 * p) h1ev (by omega) a1 hB hS hO he hn hd fun a' w' F' ρ' k1 k2 k3 kx k4 k5 => ?_
    simp only [exi, Exit.inBlock]
    split at hev
    · rename_i hid
      cases hev
      rw [if_pos hid]
      exact hQ a' w' F' ρ' k1 k2 k3 kx k4 k5
    · rename_i hid
      cases hev
      rw [if_neg hid]
      exact hQ a' w' F' ρ' k1 k2 k3 kx k4 k5
  · rename_i hne
    refine wq hrec hloop hf hbody hbOK c (2 * p) hev (by omega) a1 hB hS hO he hn hd fun a' w' F' ρ' k1 k2 k3 kx k4 k5 => ?_
    have := hQ a' w' F' ρ' k1 k2 k3 kx k4 k5
    cases x with
    | normal => exact this
    | exit id' => exact absurd hev (hne id' e' h')
    | ret => exact this
 | .loop b, p, w, F, ρ, h, e, x, e', h', a, Q, hev, hp, hat, hB, hS, hO, he, hn, hd, hQ => by
  simp only [evC] at hev
  split at hev
  · rename_i x' outs h1 hr
    cases hev
    obtain ⟨fn', c', b', f1, f2, f3, f4⟩ := hloop f p m _ _ _ _ _ hr
    rw [hf] at f1; cases f1
    rw [hbody] at f2; cases f2
    rw [hat] at f3; cases f3
    obtain ⟨ρ', k1, k2, kp⟩ := jf (m := m) hS (vK he (pol.live f p))
    exact (f4 hp hbOK Ow w F ρ' a Q hB k2 hO k1 hn hd (hQ.step (Nxt.refl _ _ _ _) fun r l hr hl => (kp r hr).trans hl)).1
  · cases hev
 | .region id ops draw, p, w, F, ρ, h, e, x, e', h', a, Q, hev, hp, hat, hB, hS, hO, he, hn, hd, hQ => by
  simp only [evC] at hev
  split at hev
  · cases hev
  · rename_i hdr
    have hcOK := u9 _ hbOK hat
    simp only [yR, Bool.and_eq_true] at hcOK
    obtain ⟨hdst, hdraw⟩ := hcOK
    split at hev
    · rename_i e1 h1 hops
      cases hev
      cases draw with
      | false =>
       simp only [Bool.false_and, Bool.false_eq_true, if_false] at hops
       rw [fq (List.range ops.size) ops.toList e _ (qI ops)] at hops
       obtain ⟨ρ1, g1, g2⟩ := WU hO.z e (pol.gh f id) hS
       exact wp_region (WQ hrec hdst _ hops hB g1 hO (g2.re he) hn hd fun a' w' F' ρ' k1 k2 k3 k4 k5 => hQ a' w' F' ρ' k1 k2 (k3.forget (Ext.refl _)) (fun r l _ hl => k3.ext r l (g2.ext r l hl)) k4 k5)
      | true =>
       have hdr' : pol.dr f = true := by simpa using hdr
       have hok : pe P ops = true := by simpa [qZ, hdr'] using hdraw
       simp only [Bool.true_and, if_true] at hops
       by_cases hc : (pol.own f && pol.dm f id) = true
       · by_cases hall : ops.toList.all (yt pol f) = true
         · simp only [hall, Bool.not_true, Bool.false_eq_true, if_false] at hops
           have hops' : (if !(ops.toList.all (yt pol f)) then sd P pol rec f ops e h else wQ P pol rec f ops ops.toList e h) = some (e', h') := by
            simp only [hall, Bool.not_true, Bool.false_eq_true, if_false]; exact hops
           exact bE hB hrec hdst hok hops' hS hO he hn hd fun a' w' F' ρ' k1 k2 k3 k4 k5 => hQ a' w' F' ρ' k1 k2 (k3.forget (Ext.refl _)) (fun r l _ hl => k3.ext r l hl) k4 k5
         · simp only [hall, hc, Bool.not_false, if_true] at hops
           exact Xo hB hrec hdst hok hops hS hO he hn hd fun a' w' F' ρ' k1 k2 k3 k4 k5 => hQ a' w' F' ρ' k1 k2 (k3.forget (Ext.refl _)) (fun r l _ hl => k3.ext r l hl) k4 k5
       · simp only [hc, Bool.false_eq_true, if_false] at hops
         exact bE hB hrec hdst hok hops hS hO he hn hd fun a' w' F' ρ' k1 k2 k3 k4 k5 => hQ a' w' F' ρ' k1 k2 (k3.forget (Ext.refl _)) (fun r l _ hl => k3.ext r l hl) k4 k5
    · cases hev
 | .rangeFunc _ _ _ _, p, w, F, ρ, h, e, x, e', h', a, Q, hev, hp, hat, hB, hS, hO, he, hn, hd, hQ => by simp [evC] at hev
 | .scope _, p, w, F, ρ, h, e, x, e', h', a, Q, hev, hp, hat, hB, hS, hO, he, hn, hd, hQ => by simp [evC] at hev
 | .label _, p, w, F, ρ, h, e, x, e', h', a, Q, hev, hp, hat, hB, hS, hO, he, hn, hd, hQ => by simp [evC] at hev
 | .goto _, p, w, F, ρ, h, e, x, e', h', a, Q, hev, hp, hat, hB, hS, hO, he, hn, hd, hQ => by simp [evC] at hev
 | .refuse _, p, w, F, ρ, h, e, x, e', h', a, Q, hev, hp, hat, hB, hS, hO, he, hn, hd, hQ => by simp [evC] at hev
def pc (a : Act) : ResultVar → Sem Value
 | .tmp t => pure (a.tmps.getD t undef)
 | .cell b t => do loadVar t (← asAddr (a.tmps.getD b undef))
theorem jc (hS : St w F ρ Ow h) {a : Act} {e : Env} (he : RE w F ρ a e) : ∀ (rs : List ResultVar) {vs : List V}, wX P e h rs = some vs →
 ∃ us : List Value, (rs.mapM (pc a)).run P w = .ok us w ∧ RVs w F ρ us vs
 | [], vs, hr => by simp only [wX] at hr; cases hr; exact ⟨[], rfl, .nil⟩
 | .tmp t :: rs, vs, hr => by
  simp only [wX] at hr
  split at hr
  · rename_i vs' h1
    cases hr
    obtain ⟨us, e1, e2⟩ := jc hS he rs h1
    refine ⟨a.tmps.getD t undef :: us, ?_, .cons (he t) e2⟩
    have e5 : (pc a (.tmp t)).run P w = .ok (a.tmps.getD t undef) w := rfl
    rw [List.mapM_cons, Sem.run_bind, e5]
    simp only [Result.andThen_ok]
    rw [Sem.run_bind, e1]
    rfl
  · cases hr
 | .cell b t :: rs, vs, hr => by
  simp only [wX] at hr
  split at hr
  · rename_i v hl
    split at hr
    · rename_i vs' h1
      cases hr
      obtain ⟨us, e1, e2⟩ := jc hS he rs h1
      obtain ⟨u, e3, e4⟩ := cO (P := P) hS hl (he b)
      have hptr : ∃ ad, a.tmps.getD b undef = .pointer (some ad) := by
       have hb := he b
       unfold load at hl
       generalize hgx : a.tmps.getD b undef = z at hb
       generalize hge : e b = eb at hb hl
       cases hb with
       | ptr => exact ⟨_, rfl⟩
       | t _ _ hx => cases hx <;> first | exact ⟨_, rfl⟩ | simp at hl
       | _ => simp at hl
      obtain ⟨ad, hptr⟩ := hptr
      refine ⟨u :: us, ?_, .cons e4 e2⟩
      have e3' : (loadVar t ad).run P w = .ok u w := by
       rw [hptr] at e3
       simpa [Instr.loadAt, Instr.sureAddr] using e3
      have e5 : (pc a (.cell b t)).run P w = .ok u w := by simp [pc, hptr, asAddr, e3']
      rw [List.mapM_cons, Sem.run_bind, e5]
      simp only [Result.andThen_ok]
      rw [Sem.run_bind, e1]
      rfl
    · cases hr
  · cases hr
theorem oL (hS : St w F ρ Ow h) {a : Act} {e : Env} (he : RE w F ρ a e) {fn : Func} {vs : List V} (hr : wX P e h fn.results.toList = some vs) : ∃ u, (results fn a.tmps).run P w = .ok u w ∧ RV w F ρ u (zn vs) := by
 obtain ⟨us, e1, e2⟩ := jc hS he fn.results.toList hr
 have hm : (fn.results.mapM (pc a)).run P w = .ok us.toArray w := by
  rw [Array.mapM_eq_mapM_toList, Sem.run_map, e1]; rfl
 have hres : results fn a.tmps = (do let vs ← fn.results.mapM (pc a); pure (if h : vs.size = 1 then vs[0] else .tuple vs)) := by
  unfold results
  congr 2
 rw [hres, Sem.run_bind, hm]
 simp only [Result.andThen_ok, Sem.run_pure]
 refine ⟨_, rfl, ?_⟩
 cases e2 with
 | nil => exact RV.kA .nil
 | cons h1 h2 =>
  cases h2 with
  | nil => simpa [zn] using h1
  | cons h3 h4 =>
   rw [dif_neg (by simp)]
   simp only [zn]
   exact RV.kA (.cons h1 (.cons h3 h4))
theorem rq : ∀ (us : List Value) (n : Nat) (pre : List Value) (post : List Value), n = us.length → ug ⟨(pre ++ us ++ post).toArray, []⟩ ((List.range' pre.length n)) = us
 | [], n, pre, post, hn => by subst hn; rfl
 | u :: us, n, pre, post, hn => by
  subst hn
  simp only [List.length_cons, List.range'_succ, ug, List.map_cons]
  have h1 := rq us us.length (pre ++ [u]) post rfl
  simp only [List.length_append, List.length_singleton, ug, List.append_assoc, List.singleton_append, List.cons_append, List.nil_append] at h1
  simp only [List.append_assoc, List.cons_append]
  rw [h1]
  congr 1
  simp [List.getElem?_append_right]
/-- what is shown by other means is so -/
def ExtPK (P : Program) (W0 : World) (pol : Pol) : Prop :=
 ∀ g args v, pol.ext g args = some v →
  (∃ fn, P.funcs[g]? = some fn ∧ (fn.name == "runtime.NumGoroutine") = false ∧ fn.body.isNone = false) ∧
  ∀ (w : World) (F : Nat → Prop) (us : Array Value), wL W0 w F → (∀ b, F b → b < w.heap.size) → RVs w F zH us.toList args →
   Calls P g us w fun e w' => ∃ u F', e = .returned u ∧ RV w' F' zH u v ∧ (∀ b, F' b → b < w'.heap.size) ∧ Nxt (own fun b => w.heap.size ≤ b) w F zH w' F' zH
/-- one function, called with rows of the caller's: shown by other means -/
def sf (P : Program) (W0 : World) (g : Nat) (e : List V → Heap → Option (V × Heap)) : Prop :=
 ∀ args h v h', e args h = some (v, h') →
  (∃ fn, P.funcs[g]? = some fn ∧ (fn.name == "runtime.NumGoroutine") = false ∧ fn.body.isNone = false) ∧
  ∀ (Ow : Own) (w : World) (F : Nat → Prop) (ρ : y6) (us : Array Value), wL W0 w F → St w F ρ Ow h → OkC Ow w → RVs w F ρ us.toList args →
   Calls P g us w fun e w' => ∃ u F' ρ', e = .returned u ∧ RV w' F' ρ' u v ∧ St w' F' ρ' Ow h' ∧ Nxt Ow w F zH w' F' zH ∧ ∀ r l, r < h.length → ρ r = some l → ρ' r = some l
structure mF (P : Program) (W0 : World) (pol : Pol) : Prop where
 p : ExtPK P W0 pol
 o : ∀ g, sf P W0 g (pol.extO g)
theorem Vl {W0 : World} {pol : Pol} {rec : Rec} (hE : mF P W0 pol) (hP : ∀ f fn c, pol.no f = false → P.funcs[f]? = some fn → fn.body = some c → yR (qZ P pol f) fn.ntmps c = true) (hrec : xw P W0 rec) (hloop : jJ P W0 pol rec) : xw P W0 (step P pol rec) ∧ jJ P W0 pol (step P pol rec) := by
 refine ⟨⟨?_, ?_⟩, ?_⟩
 · intro g args v hs
   simp only [step] at hs
   split at hs
   · rename_i v' hx
     split at hs
     · cases hs; exact hE.p g args _ hx
     · cases hs
   split at hs
   · rename_i fn hf
     split at hs
     · rename_i c hb
       split at hs
       · cases hs
       · rename_i hc
         simp only [Bool.or_eq_true, decide_eq_true_eq, not_or, Bool.not_eq_true, Nat.not_lt] at hc
         obtain ⟨⟨c1, c2⟩, c3⟩ := hc
         refine ⟨⟨fn, hf, c2, by simp [hb]⟩, fun w F us hB hF hu => ?_⟩
         have hul := zI hu
         have hbOK := hP g fn c c1 hf hb
         have hS0 : St w F zH (own fun b => w.heap.size ≤ b) [] := Wq hF
         have hE0 : RE w F zH ⟨us ++ Array.replicate (fn.ntmps - us.size) undef, []⟩ (zb (List.range args.length) args) := by
          refine uo _ _ ?_
          have := rq us.toList args.length [] (List.replicate (fn.ntmps - us.size) undef) hul.symm
          simp only [List.length_nil, List.nil_append] at this
          rw [List.range_eq_range']
          have e0 : (⟨us ++ Array.replicate (fn.ntmps - us.size) undef, []⟩ : Act) = ⟨(us.toList ++ List.replicate (fn.ntmps - us.size) undef).toArray, []⟩ := by
           congr 1
           apply Array.ext'
           simp
          rw [e0, this]
          exact hu
         have hn0 : (us ++ Array.replicate (fn.ntmps - us.size) undef).size = fn.ntmps := by simp at hul ⊢; omega
         have finish : ∀ (x : Exi) e' h', (exi x = .normal ∨ exi x = .ret) → (match wX P e' h' fn.results.toList with
          | some vs => match yz h' (zn vs) with
           | some (v, h'') => some (xD.call v (h''.take 0))
           | none => none
          | none => none) = some (.call v []) → evC P pol rec g 0 c 1 (zb (List.range args.length) args) [] = some (x, e', h') →
          Calls P g us w fun e w' => ∃ u F', e = .returned u ∧ RV w' F' zH u v ∧ (∀ b, F' b → b < w'.heap.size) ∧ Nxt (own fun b => w.heap.size ≤ b) w F zH w' F' zH := by
          intro x e' h' hx hfin hev
          refine calls_of_wp hf hb (wq (m := 0) hrec hloop hf hb hbOK c 1 hev (Nat.le_refl _) rfl hB hS0 (OkC.own _ fun b hb => hb) hE0 hn0 rfl fun a' w' F' ρ' k1 k2 k3 kx k4 k5 => ?_)
          split at hfin
          · rename_i vs hvs
            split at hfin
            · rename_i v' h2 hg
              cases hfin
              obtain ⟨u, r1, r2⟩ := oL k2 k1 hvs
              obtain ⟨F2, g1, g2, g3⟩ := jm zH (zn vs) k2 r2 hg
              have : a'.defers = [] ∧ ∃ v', (results fn a'.tmps).run P w' = .ok v' w' ∧ ∃ u F', Ending.returned v' = .returned u ∧ RV w' F' zH u v ∧ (∀ b, F' b → b < w'.heap.size) ∧ Nxt (own fun b => w.heap.size ≤ b) w F zH w' F' zH :=
               ⟨k5, u, r1, u, F2, rfl, g1, g2.fsz, k3.trans (g3.forget (Ext.refl _))⟩
              rcases hx with hx | hx <;> rw [hx] <;> exact this
            · cases hfin
          · cases hfin
         split at hs
         · rename_i e' h' hev
           exact finish .normal e' h' (.inl rfl) hs hev
         · rename_i e' h' hev
           exact finish .ret e' h' (.inr rfl) hs hev
         · cases hs
     · cases hs
   · cases hs
 · intro gv g args h v h' hs
   simp only [step] at hs
   split at hs
   · rename_i x hx
     cases gv with
     | true => cases hs
     | false =>
      simp only [Bool.false_eq_true, if_false] at hs
      cases hs
      exact hE.o g args h _ _ hx
   split at hs
   · rename_i fn hf
     split at hs
     · rename_i c hb
       split at hs
       · cases hs
       · rename_i hc
         simp only [Bool.or_eq_true, decide_eq_true_eq, not_or, Bool.not_eq_true, Nat.not_lt] at hc
         obtain ⟨⟨c1, c2⟩, c3⟩ := hc
         refine ⟨⟨fn, hf, c2, by simp [hb]⟩, fun Ow w F ρ us hB hS hO hu => ?_⟩
         have hul := zI hu
         have hbOK := hP g fn c c1 hf hb
         have hE0 : RE w F ρ ⟨us ++ Array.replicate (fn.ntmps - us.size) undef, []⟩ (zb (List.range args.length) args) := by
          refine uo _ _ ?_
          have := rq us.toList args.length [] (List.replicate (fn.ntmps - us.size) undef) hul.symm
          simp only [List.length_nil, List.nil_append] at this
          rw [List.range_eq_range']
          have e0 : (⟨us ++ Array.replicate (fn.ntmps - us.size) undef, []⟩ : Act) = ⟨(us.toList ++ List.replicate (fn.ntmps - us.size) undef).toArray, []⟩ := by
           congr 1
           apply Array.ext'
           simp
          rw [e0, this]
          exact hu
         have hn0 : (us ++ Array.replicate (fn.ntmps - us.size) undef).size = fn.ntmps := by simp at hul ⊢; omega
         have finish : ∀ (x : Exi) e' h1, (exi x = .normal ∨ exi x = .ret) → oK gv h.length (wX P e' h1 fn.results.toList) h1 = some (.call v h') → evC P pol rec g h.length c 1 (zb (List.range args.length) args) h = some (x, e', h1) →
          Calls P g us w fun e w' => ∃ u F' ρ', e = .returned u ∧ RV w' F' ρ' u v ∧ St w' F' ρ' Ow h' ∧ Nxt Ow w F zH w' F' zH ∧ ∀ r l, r < h.length → ρ r = some l → ρ' r = some l := by
          intro x e' h1 hx hfin hev
          refine calls_of_wp hf hb (wq (m := h.length) hrec hloop hf hb hbOK c 1 hev (Nat.le_refl _) rfl hB hS hO hE0 hn0 rfl fun a' w' F' ρ' k1 k2 k3 kx k4 k5 => ?_)
          unfold oK at hfin
          split at hfin
          · rename_i vs hvs
            obtain ⟨u, r1, r2⟩ := oL k2 k1 hvs
            cases gv with
            | false =>
             simp only [Bool.false_eq_true, if_false] at hfin
             cases hfin
             have hnd : (reach h1 3 (yv (List.range h.length) (refs.refss vs))).Nodup := tO h1 3 _ (wG _ _ List.nodup_range)
             have hfirst := ru h.length vs h1
             have hS2 := qg hnd k2
             have hv : ∀ l : List V, ren (idx (reach h1 3 (yv (List.range h.length) (refs.refss vs)))) (zn l) = zn (ren.rens (idx (reach h1 3 (yv (List.range h.length) (refs.refss vs)))) l) := fun l => by
              match l with
              | [] => rfl
              | [a] => rfl
              | a :: b :: l => rfl
             have : a'.defers = [] ∧ ∃ v', (results fn a'.tmps).run P w' = .ok v' w' ∧ ∃ u F' ρ', Ending.returned v' = .returned u ∧ RV w' F' ρ' u (zn (ya h.length vs h1).1) ∧ St w' F' ρ' Ow (ya h.length vs h1).2 ∧ Nxt Ow w F zH w' F' zH ∧ ∀ r l, r < h.length → ρ r = some l → ρ' r = some l :=
              ⟨k5, u, r1, u, F', zU ρ' _, rfl, by have := Th (reach h1 3 (yv (List.range h.length) (refs.refss vs))) _ r2; rw [hv] at this; exact this, hS2, k3, fun r l hr hl => by simp [zU, hfirst r hr, kx r l hr hl]⟩
             rcases hx with hx | hx <;> rw [hx] <;> exact this
            | true =>
             simp only [if_true] at hfin
             split at hfin
             · rename_i v' h2 hg
               cases hfin
               obtain ⟨F2, g1, g2, g3⟩ := jm zH (zn vs) k2 r2 hg
               have hnd : (reach h2 3 (yv (List.range h.length) (refs.refss []))).Nodup := tO h2 3 _ (wG _ _ List.nodup_range)
               have hfirst := ru h.length [] h2
               have hS2 := qg hnd g2
               have : a'.defers = [] ∧ ∃ v', (results fn a'.tmps).run P w' = .ok v' w' ∧ ∃ u F' ρ', Ending.returned v' = .returned u ∧ RV w' F' ρ' u v ∧ St w' F' ρ' Ow (ya h.length [] h2).2 ∧ Nxt Ow w F zH w' F' zH ∧ ∀ r l, r < h.length → ρ r = some l → ρ' r = some l :=
                ⟨k5, u, r1, u, F2, zU ρ' _, rfl, g1.mono (fun _ _ => rfl) (fun _ x => x) (oX _), hS2, k3.trans (g3.forget (Ext.refl _)), fun r l hr hl => by simp [zU, hfirst r hr, kx r l hr hl]⟩
               rcases hx with hx | hx <;> rw [hx] <;> exact this
             · cases hfin
          · cases hfin
         split at hs
         · rename_i e' h1 hev
           exact finish .normal e' h1 (.inl rfl) hs hev
         · rename_i e' h1 hev
           exact finish .ret e' h1 (.inr rfl) hs hev
         · cases hs
     · cases hs
   · cases hs
 · intro f p m vals h x outs h' hs
   simp only [step] at hs
   split at hs
   · rename_i fn hf
     split at hs
     · rename_i c hb
       split at hs
       · rename_i b hat
         refine ⟨fn, c, b, hf, hb, hat, fun hp hbOK Ow w F ρ a Q hB hS hO hv hn hd hQ => ?_⟩
         have hat' : yD c (turns (2 * p)) = some b := by
          have := vm hp 0 (by omega); simp only [Nat.add_zero] at this
          rw [this, yB _ _ _ _ hat]; rfl
         have body : b.wp P (Exit.then (ph P b Q) Q) a w := by
          split at hs
          · rename_i e1 h1 hev
            refine wq hrec hloop hf hb hbOK b (2 * p) hev (by omega) hat' hB hS hO (uo _ _ hv) hn hd fun a' w' F' ρ' k1 k2 k3 kx k4 k5 => ?_
            obtain ⟨fn2, c2, b2, i1, i2, i3, i4⟩ := hloop f p m _ _ _ _ _ hs
            rw [hf] at i1; cases i1
            rw [hb] at i2; cases i2
            rw [hat] at i3; cases i3
            obtain ⟨ρ2, j1, j2, jp⟩ := jf (m := m) k2 (vK k1 (pol.live f p))
            exact (i4 hp hbOK Ow w' F' ρ2 a' Q (hB.next k3) j2 (hO.mono k3.size) j1 k4 k5 fun a2 w2 F2 ρ2' l1 l2 l3 lx l4 l5 => hQ a2 w2 F2 ρ2' l1 l2 (k3.trans l3) (fun r l hr hl => lx r l hr ((jp r hr).trans (kx r l hr hl))) l4 l5).2
          · rename_i x' e1 h1 hne hev
            cases hs
            refine wq hrec hloop hf hb hbOK b (2 * p) hev (by omega) hat' hB hS hO (uo _ _ hv) hn hd fun a' w' F' ρ' k1 k2 k3 kx k4 k5 => ?_
            obtain ⟨ρ2, j1, j2, jp⟩ := jf (m := m) k2 (vK k1 (pol.outs f p))
            have := hQ a' w' F' ρ2 (uo _ _ j1) j2 k3 (fun r l hr hl => (jp r hr).trans (kx r l hr hl)) k4 k5
            cases x with
            | normal => exact absurd rfl hne
            | exit id => exact this
            | ret => exact this
          · cases hs
         exact ⟨VK body, ey body⟩
       · cases hs
     · cases hs
   · cases hs
theorem ae {W0 : World} {pol : Pol} (hE : mF P W0 pol) (hP : ∀ f fn c, pol.no f = false → P.funcs[f]? = some fn → fn.body = some c → yR (qZ P pol f) fn.ntmps c = true) : ∀ n, xw P W0 (it P pol n) ∧ jJ P W0 pol (it P pol n)
 | 0 => ⟨⟨fun g args v hs => by simp [it] at hs, fun gv g args h v h' hs => by simp [it] at hs⟩, fun f p m vals h x outs h' hs => by simp [it] at hs⟩
 | n + 1 => Vl hE hP (ae hE hP n).1 (ae hE hP n).2
end Go.Proofs.YtijninlbpifonaaGreatDoor.E
/- The evaluator without a bound on rounds: its answers, its equations. Conditions: those of each lemma. -/
namespace Go.Proofs.YtijninlbpifonaaGreatDoor.E
set_option linter.unusedVariables false
set_option linter.unusedSimpArgs false
variable {P : Program} {pol : Pol}
open Classical in
/-- what the evaluator answers, with as many rounds as it takes -/
noncomputable def EV (P : Program) (pol : Pol) : Rec := fun req => if h : ∃ r, ∃ n, it P pol n req = some r then some h.choose else none
def Le (a b : Rec) : Prop := ∀ req r, a req = some r → b req = some r
structure zO {α : Type} (P : Program) (pol : Pol) (G : Rec → Option α) : Prop where
 mono : ∀ a b, Le a b → ∀ r, G a = some r → G b = some r
 cont : (∀ n, Le (it P pol n) (it P pol (n + 1))) → ∀ r, G (EV P pol) = some r → ∃ n, G (it P pol n) = some r
theorem zO.const {α : Type} (x : Option α) : zO P pol (fun _ => x) := ⟨fun _ _ _ _ h => h, fun _ r h => ⟨0, h⟩⟩
theorem Le.le (hm : ∀ n, Le (it P pol n) (it P pol (n + 1))) {n m : Nat} (h : n ≤ m) : Le (it P pol n) (it P pol m) := by
 induction h with
 | refl => exact fun _ _ x => x
 | step _ ih => exact fun req r x => hm _ req r (ih req r x)
theorem zO.req (req : Req) : zO P pol (fun rec => rec req) := by
 refine ⟨fun a b h r hr => h req r hr, fun hm r hr => ?_⟩
 unfold EV at hr
 split at hr
 · rename_i hx
   obtain ⟨n, hn⟩ := hx.choose_spec
   cases hr
   exact ⟨n, hn⟩
 · cases hr
theorem zO.bind {α β : Type} {G : Rec → Option α} {H : α → Rec → Option β} (hG : zO P pol G) (hH : ∀ a, zO P pol (H a)) : zO P pol (fun rec => (G rec).bind fun a => H a rec) := by
 refine ⟨fun a b h r hr => ?_, fun hm r hr => ?_⟩
 · cases hg : G a with
   | none => simp [hg] at hr
   | some x =>
    simp only [hg, Option.bind_some] at hr
    simp only [hG.mono a b h x hg, Option.bind_some]
    exact (hH x).mono a b h r hr
 · cases hg : G (EV P pol) with
   | none => simp [hg] at hr
   | some x =>
    simp only [hg, Option.bind_some] at hr
    obtain ⟨n, hn⟩ := hG.cont hm x hg
    obtain ⟨m, hm'⟩ := (hH x).cont hm r hr
    refine ⟨max n m, ?_⟩
    simp only [hG.mono _ _ (Le.le hm (Nat.le_max_left n m)) x hn, Option.bind_some]
    exact (hH x).mono _ _ (Le.le hm (Nat.le_max_right n m)) r hm'
theorem zO.congr {α : Type} {G G' : Rec → Option α} (h : ∀ rec, G' rec = G rec) (hG : zO P pol G) : zO P pol G' := by
 have : G' = G := funext h
 rw [this]; exact hG
theorem vO (g : Nat) (args : List V) : zO P pol (fun rec => zk rec g args) :=
 (zO.bind (zO.req (.call g args [])) (fun r => zO.const (match r with | .call v [] => some v | _ => none))).congr fun rec => by
  unfold zk
  cases rec (.call g args []) with
  | none => rfl
  | some r => cases r with
   | call v h => cases h <;> rfl
   | loop => rfl
theorem il (f : Nat) (N : Option Nat) (dst : Option Nat) (g : Nat) (args : List V) (h : Heap) : zO P pol (fun rec => wz pol rec f N dst g args h) := by
 unfold wz
 cases pol.pm f (dst.getD 0) with
 | pure =>
  simp only
  cases asArg.asArgs args with
  | none =>
   simp only
   cases yl.snapVs h args with
   | none => exact zO.const none
   | some az => exact (zO.bind (vO g az) (fun v => zO.const (if zc v then some (v, h) else none))).congr fun rec => by simp only; cases zk rec g az <;> rfl
  | some az => exact (zO.bind (vO g az) (fun v => zO.const (some (v, h)))).congr fun rec => by simp only; cases zk rec g az <;> rfl
 | frz =>
  simp only
  cases yz.gives h args with
  | none => exact zO.const none
  | some x => exact (zO.bind (vO g x.1) (fun v => zO.const (some (v, x.2)))).congr fun rec => by simp only; cases zk rec g x.1 <;> rfl
 | opn gv =>
  show zO P pol (fun rec => (match rec (.callO gv g (ya 0 args h).1 (ya 0 args h).2) with
   | some (.call v h1) => yL N (x5 h args) v h1 h
   | _ => none))
  refine (zO.bind (zO.req (.callO gv g (ya 0 args h).1 (ya 0 args h).2)) (fun r => zO.const (match r with | .call v h1 => yL N (x5 h args) v h1 h | _ => none))).congr fun rec => ?_
  generalize rec (.callO gv g (ya 0 args h).1 (ya 0 args h).2) = x
  cases x with
  | none => rfl
  | some r => cases r <;> rfl
 | brw => exact zO.const none
 | all => exact zO.const none
theorem eN (g : Nat) (args : List V) (h : Heap) : zO P pol (fun rec => qD rec g args h) := by
 unfold qD
 cases yl.snapVs h args with
 | none => exact zO.const none
 | some az =>
  refine (zO.bind (zO.req (.callO false g az [])) (fun r => zO.const (match r with | .call v h1 => (if yf v && h1.all xy then yL none [] v h1 h else none) | _ => none))).congr fun rec => ?_
  simp only
  generalize rec (.callO false g az []) = x
  cases x with
  | none => rfl
  | some r => cases r <;> rfl
theorem eP (g : Nat) (args : List V) (h : Heap) : zO P pol (fun rec => j6 rec g args h) := by
 unfold j6
 refine (zO.bind (zO.req (.callO false g args h)) (fun r => zO.const (match r with | .call v h1 => some (v, h1) | _ => none))).congr fun rec => ?_
 generalize rec (.callO false g args h) = x
 cases x with
 | none => rfl
 | some r => cases r <;> rfl
theorem sy (f : Nat) (N : Option Nat) (o : Oper) (e : Env) (h : Heap) : zO P pol (fun rec => zQ P pol rec f N o e h) := by
 obtain ⟨dst, op, ty, pos, after, guard⟩ := o
 cases op with
 | call c =>
  obtain ⟨callee, args, tys⟩ := c
  cases callee with
  | value x =>
   simp only [zQ]
   cases fnV (opv P e 0 x) with
   | none => exact zO.const none
   | some y => exact il f N dst y.1 _ h
  | builtin b => exact zO.const (blt P N b tys.toList (yo P e args.toList tys.toList) h)
  | invoke r m => exact zO.const none
 | makeFunc fn first caps => cases fn <;> exact zO.const _
 | _ => simp only [zQ]; exact zO.const _
theorem eF (f : Nat) (o : Oper) (e : Env) (h : Heap) : zO P pol (fun rec => vu P pol rec f o e h) := by
 unfold vu
 split
 rotate_left
 · exact sy f none o e h
 have old : ∀ {G : Rec → Option (V × Heap)}, (∀ rec, G rec = none) → zO P pol (fun rec => match G rec with | some r => some r | none => zQ P pol rec f none o e h) := fun hG =>
  (sy f none o e h).congr fun rec => by rw [hG rec]
 have one : ∀ (x : Option (V × Heap)), zO P pol (fun rec => match x with | some r => some r | none => zQ P pol rec f none o e h) := fun x => by
  cases x with
  | none => exact sy f none o e h
  | some r => exact zO.const _
 obtain ⟨dst, op, ty, pos, after, guard⟩ := o
 cases op with
 | buildSlice t len parts => exact one _
 | makeSlice t l c => exact one _
 | call c =>
  obtain ⟨callee, args, tys⟩ := c
  cases callee with
  | builtin b => exact one _
  | invoke r m => exact old fun rec => rfl
  | value x =>
   simp only [yV]
   cases hx : fnV (opv P e 0 x) with
   | none => exact old fun rec => rfl
   | some y =>
    simp only
    cases hp : pol.pm f (dst.getD 0) with
    | brw =>
     refine (eN y.1 (yo P e args.toList tys.toList ++ y.2) h).congr fun rec => ?_
     simp only [zQ, hx, wz, hp]
     cases qD rec y.1 (yo P e args.toList tys.toList ++ y.2) h <;> rfl
    | all =>
     refine (eP y.1 (yo P e args.toList tys.toList ++ y.2) h).congr fun rec => ?_
     simp only [zQ, hx, wz, hp]
     cases j6 rec y.1 (yo P e args.toList tys.toList ++ y.2) h <;> rfl
    | _ => exact old fun rec => rfl
 | _ => exact old fun rec => rfl
theorem pT (f : Nat) (ops : Array Oper) (o : Oper) (e : Env) (h : Heap) : zO P pol (fun rec => wx P pol rec f ops o e h) := by
 unfold wx
 cases want ops o e with
 | none => exact zO.const none
 | some b => cases b with
  | false => exact zO.const _
  | true => exact (zO.bind (eF f o e h) (fun x => zO.const (some (put e o.dst x.1, x.2)))).congr fun rec => by simp only; cases vu P pol rec f o e h <;> rfl
theorem np (f : Nat) (N : Option Nat) (ops : Array Oper) (o : Oper) (e : Env) (h : Heap) : zO P pol (fun rec => tq P pol rec f N ops o e h) := by
 unfold tq
 cases want ops o e with
 | none => exact zO.const none
 | some b => cases b with
  | false => exact zO.const _
  | true => exact (zO.bind (sy f N o e h) (fun x => zO.const (some (put e o.dst x.1, x.2)))).congr fun rec => by simp only; cases zQ P pol rec f N o e h <;> rfl
theorem nn (f : Nat) (ops : Array Oper) : ∀ (l : List Oper) (e : Env) (h : Heap), zO P pol (fun rec => rL P pol rec f ops l e h)
 | [], e, h => zO.const _
 | o :: l, e, h => (zO.bind (pT f ops o e h) (fun x => nn f ops l x.1 x.2)).congr fun rec => by simp only [rL]; cases wx P pol rec f ops o e h <;> rfl
theorem pQ (f : Nat) (ops : Array Oper) : ∀ (l : List Oper) (e : Env) (h : Heap), zO P pol (fun rec => wQ P pol rec f ops l e h)
 | [], e, h => zO.const _
 | o :: l, e, h => (zO.bind (np f none ops o e h) (fun x => pQ f ops l x.1 x.2)).congr fun rec => by simp only [wQ]; cases tq P pol rec f none ops o e h <;> rfl
theorem ft (f : Nat) (ops : Array Oper) : ∀ (Ns : List (Option Nat)) (l : List Oper) (e : Env) (h : Heap), zO P pol (fun rec => evD P pol rec f ops Ns l e h)
 | [], [], e, h => zO.const _
 | [], _ :: _, e, h => zO.const none
 | _ :: _, [], e, h => zO.const none
 | N :: Ns, o :: l, e, h => (zO.bind (np f N ops o e h) (fun x => zO.bind (ft f ops Ns l x.1 x.2) (fun y => zO.const (some (xn N o e h :: y.1, y.2.1, y.2.2))))).congr fun rec => by
  simp only [evD]
  cases tq P pol rec f N ops o e h with
  | none => rfl
  | some x => simp only [Option.bind_some]; cases evD P pol rec f ops Ns l x.1 x.2 <;> rfl
theorem fo (f : Nat) (ops : Array Oper) : ∀ (l : List Oper) (e : Env) (h : Heap), zO P pol (fun rec => evR P pol rec f ops l e h)
 | [], e, h => zO.const _
 | o :: l, e, h => (zO.bind (pT f ops o e h) (fun x => zO.bind (fo f ops l x.1 x.2) (fun y => zO.const (some ((h.length :: yu none o e h) :: y.1, y.2.1, y.2.2))))).congr fun rec => by
  simp only [evR]
  cases wx P pol rec f ops o e h with
  | none => rfl
  | some x => simp only [Option.bind_some]; cases evR P pol rec f ops l x.1 x.2 <;> rfl
theorem Xi (f : Nat) (ops : Array Oper) (e : Env) (h : Heap) : zO P pol (fun rec => evZ P pol rec f ops e h) :=
 (zO.bind (fo f ops ops.toList e h) (fun y => zO.const (if zOK pol f ops y.1 then some (y.2.1, y.2.2) else none))).congr fun rec => by
  unfold evZ
  cases evR P pol rec f ops ops.toList e h <;> rfl
theorem ik (f : Nat) (ops : Array Oper) (e : Env) (h : Heap) : zO P pol (fun rec => sd P pol rec f ops e h) :=
 (zO.bind (ft f ops (vc pol f h.length ops.toList) ops.toList e (h ++ List.replicate (wy pol f ops.toList) .dead)) (fun y => zO.const (if fU pol f ops y.1 then some (y.2.1, y.2.2) else none))).congr fun rec => by
  unfold sd
  cases evD P pol rec f ops (vc pol f h.length ops.toList) ops.toList e (h ++ List.replicate (wy pol f ops.toList) .dead) <;> rfl
theorem v7 (f m : Nat) : ∀ (c : Code) (p : Nat) (e : Env) (h : Heap), zO P pol (fun rec => evC P pol rec f m c p e h)
 | .skip, p, e, h => zO.const _
 | .exit _, p, e, h => zO.const _
 | .ret, p, e, h => zO.const _
 | .seq a b, p, e, h => (zO.bind (v7 f m a (2 * p) e h) (fun x => (match x with
  | (.normal, e', h') => v7 f m b (2 * p + 1) e' h'
  | (.exit id, e', h') => zO.const (some (Exi.exit id, e', h'))
  | (.ret, e', h') => zO.const (some (Exi.ret, e', h')) : zO P pol (fun rec => match x with
  | (.normal, e', h') => evC P pol rec f m b (2 * p + 1) e' h'
  | (.exit id, e', h') => some (.exit id, e', h')
  | (.ret, e', h') => some (.ret, e', h'))))).congr fun rec => by
   simp only [evC]
   cases evC P pol rec f m a (2 * p) e h with
   | none => rfl
   | some x => obtain ⟨x, e', h'⟩ := x; cases x <;> rfl
 | .cond c a b, p, e, h => by
  simp only [evC]
  split
  · rename_i t ht
    cases t with
    | true => exact v7 f m a (2 * p) e h
    | false => exact v7 f m b (2 * p + 1) e h
  · exact zO.const none
 | .block id c, p, e, h => (zO.bind (v7 f m c (2 * p) e h) (fun x => zO.const (match x with
  | (.exit id', e', h') => if id' = id then some (.normal, e', h') else some (.exit id', e', h')
  | r => some r))).congr fun rec => by
   simp only [evC]
   cases evC P pol rec f m c (2 * p) e h with
   | none => rfl
   | some x => obtain ⟨x, e', h'⟩ := x; cases x <;> rfl
 | .loop _, p, e, h => (zO.bind (zO.req (.loop f p m (ya m ((pol.live f p).map e) h).1 (ya m ((pol.live f p).map e) h).2)) (fun x => zO.const (match x with
  | .loop x vals h' => some (x, zb (pol.outs f p) vals, h')
  | _ => none))).congr fun rec => by
   simp only [evC]
   cases rec (.loop f p m (ya m ((pol.live f p).map e) h).1 (ya m ((pol.live f p).map e) h).2) with
   | none => rfl
   | some x => cases x <;> rfl
 | .region id ops draw, p, e, h => by
  simp only [evC]
  split
  · exact zO.const none
  · split
    · split
      · exact (zO.bind (Xi f ops e h) (fun x => zO.const (some (Exi.normal, x.1, x.2)))).congr fun rec => by cases evZ P pol rec f ops e h <;> rfl
      · exact (zO.bind (ik f ops e h) (fun x => zO.const (some (Exi.normal, x.1, x.2)))).congr fun rec => by cases sd P pol rec f ops e h <;> rfl
    · split
      · exact (zO.bind (pQ f ops ops.toList e h) (fun x => zO.const (some (Exi.normal, x.1, x.2)))).congr fun rec => by cases wQ P pol rec f ops ops.toList e h <;> rfl
      · exact (zO.bind (nn f ops ops.toList e (ghH (pol.gh f id) e h)) (fun x => zO.const (some (Exi.normal, x.1, x.2)))).congr fun rec => by cases rL P pol rec f ops ops.toList e (ghH (pol.gh f id) e h) <;> rfl
 | .rangeFunc _ _ _ _, p, e, h => zO.const _
 | .scope _, p, e, h => zO.const _
 | .label _, p, e, h => zO.const _
 | .goto _, p, e, h => zO.const _
 | .refuse _, p, e, h => zO.const _
theorem l6 (req : Req) : zO P pol (fun rec => step P pol rec req) := by
 cases req with
 | call f args h =>
  simp only [step]
  cases pol.ext f args with
  | some v => exact zO.const _
  | none =>
  simp only
  cases P.funcs[f]? with
  | none => exact zO.const none
  | some fn =>
   simp only
   cases fn.body with
   | none => exact zO.const none
   | some c =>
    simp only
    split
    · exact zO.const none
    · refine (zO.bind (v7 f h.length c 1 (zb (List.range args.length) args) h) (fun x => zO.const (match x with
       | (.normal, e', h') => (match wX P e' h' fn.results.toList with
        | some vs => match yz h' (zn vs) with
         | some (v, h'') => some (xD.call v (h''.take h.length))
         | none => none
        | none => none)
       | (.ret, e', h') => (match wX P e' h' fn.results.toList with
        | some vs => match yz h' (zn vs) with
         | some (v, h'') => some (xD.call v (h''.take h.length))
         | none => none
        | none => none)
       | _ => none))).congr fun rec => ?_
      cases evC P pol rec f h.length c 1 (zb (List.range args.length) args) h with
      | none => rfl
      | some x => obtain ⟨x, e', h'⟩ := x; cases x <;> rfl
 | callO gv f args h =>
  simp only [step]
  cases pol.extO f args h with
  | some x => exact zO.const _
  | none =>
  simp only
  cases P.funcs[f]? with
  | none => exact zO.const none
  | some fn =>
   simp only
   cases fn.body with
   | none => exact zO.const none
   | some c =>
    simp only
    split
    · exact zO.const none
    · refine (zO.bind (v7 f h.length c 1 (zb (List.range args.length) args) h) (fun x => zO.const (match x with
       | (.normal, e', h') => oK gv h.length (wX P e' h' fn.results.toList) h'
       | (.ret, e', h') => oK gv h.length (wX P e' h' fn.results.toList) h'
       | _ => none))).congr fun rec => ?_
      cases evC P pol rec f h.length c 1 (zb (List.range args.length) args) h with
      | none => rfl
      | some x => obtain ⟨x, e', h'⟩ := x; cases x <;> rfl
 | loop f p m vals h =>
  simp only [step]
  cases P.funcs[f]? with
  | none => exact zO.const none
  | some fn =>
   simp only
   cases fn.body with
   | none => exact zO.const none
   | some c =>
    simp only
    split
    · rename_i b hb
      refine (zO.bind (v7 f m b (2 * p) (zb (pol.live f p) vals) h) (fun x => (match x with
       | (.normal, e', h') => zO.req (.loop f p m (ya m ((pol.live f p).map e') h').1 (ya m ((pol.live f p).map e') h').2)
       | (.exit id, e', h') => zO.const (some (xD.loop (.exit id) (ya m ((pol.outs f p).map e') h').1 (ya m ((pol.outs f p).map e') h').2))
       | (.ret, e', h') => zO.const (some (xD.loop .ret (ya m ((pol.outs f p).map e') h').1 (ya m ((pol.outs f p).map e') h').2)) : zO P pol (fun rec => match x with
       | (.normal, e', h') => rec (.loop f p m (ya m ((pol.live f p).map e') h').1 (ya m ((pol.live f p).map e') h').2)
       | (.exit id, e', h') => some (.loop (.exit id) (ya m ((pol.outs f p).map e') h').1 (ya m ((pol.outs f p).map e') h').2)
       | (.ret, e', h') => some (.loop .ret (ya m ((pol.outs f p).map e') h').1 (ya m ((pol.outs f p).map e') h').2))))).congr fun rec => ?_
      cases evC P pol rec f m b (2 * p) (zb (pol.live f p) vals) h with
      | none => rfl
      | some x => obtain ⟨x, e', h'⟩ := x; cases x <;> rfl
    · exact zO.const none
theorem qv : ∀ n, Le (it P pol n) (it P pol (n + 1))
 | 0 => fun req r h => by simp [it] at h
 | n + 1 => fun req r h => (l6 req).mono _ _ (qv n) r h
theorem EV_of {n : Nat} {req : Req} {r : xD} (h : it P pol n req = some r) : EV P pol req = some r := by
 unfold EV
 have hx : ∃ r, ∃ n, it P pol n req = some r := ⟨r, n, h⟩
 rw [dif_pos hx]
 obtain ⟨m, hm⟩ := hx.choose_spec
 have h1 := Le.le qv (Nat.le_max_left n m) req r h
 have h2 := Le.le qv (Nat.le_max_right n m) req _ hm
 rw [h1] at h2
 exact h2.symm
theorem T8 {req : Req} {r : xD} (h : EV P pol req = some r) : ∃ n, it P pol n req = some r := (zO.req req).cont qv r h
/-- one step from the evaluator's own answers -/
theorem qz {req : Req} {r : xD} (h : step P pol (EV P pol) req = some r) : EV P pol req = some r := by
 obtain ⟨n, hn⟩ := (l6 req).cont qv r h
 exact EV_of (n := n + 1) hn
/-- what is shown by other means -/
theorem mz {g : Nat} {args : List V} {v : V} (h : pol.ext g args = some v) : EV P pol (.call g args []) = some (.call v []) := by
 apply qz
 simp [step, h]
theorem jy {g : Nat} {args : List V} {h : Heap} {x : V × Heap} (hx : pol.extO g args h = some x) : EV P pol (.callO false g args h) = some (.call x.1 x.2) := by
 apply qz
 simp [step, hx]
theorem UA {W0 : World} (hE : mF P W0 pol) (hP : ∀ f fn c, pol.no f = false → P.funcs[f]? = some fn → fn.body = some c → yR (qZ P pol f) fn.ntmps c = true) {g : Nat} {args : List V} {v : V} (h : EV P pol (.call g args []) = some (.call v [])) :
 ∀ (w : World) (F : Nat → Prop) (us : Array Value), wL W0 w F → (∀ b, F b → b < w.heap.size) → RVs w F zH us.toList args →
  Calls P g us w fun e w' => ∃ u F', e = .returned u ∧ RV w' F' zH u v ∧ (∀ b, F' b → b < w'.heap.size) ∧ Nxt (own fun b => w.heap.size ≤ b) w F zH w' F' zH := by
 obtain ⟨n, hn⟩ := T8 h
 exact ((ae hE hP n).1.clo g args v hn).2
theorem mn {W0 : World} (hE : mF P W0 pol) (hP : ∀ f fn c, pol.no f = false → P.funcs[f]? = some fn → fn.body = some c → yR (qZ P pol f) fn.ntmps c = true) {gv : Bool} {g : Nat} {args : List V} {h h' : Heap} {v : V} (hv : EV P pol (.callO gv g args h) = some (.call v h')) :
 (∃ fn, P.funcs[g]? = some fn ∧ (fn.name == "runtime.NumGoroutine") = false ∧ fn.body.isNone = false) ∧
 ∀ (Ow : Own) (w : World) (F : Nat → Prop) (ρ : y6) (us : Array Value), wL W0 w F → St w F ρ Ow h → OkC Ow w → RVs w F ρ us.toList args →
  Calls P g us w fun e w' => ∃ u F' ρ', e = .returned u ∧ RV w' F' ρ' u v ∧ St w' F' ρ' Ow h' ∧ Nxt Ow w F zH w' F' zH ∧ ∀ r l, r < h.length → ρ r = some l → ρ' r = some l := by
 obtain ⟨n, hn⟩ := T8 hv
 exact (ae hE hP n).1.opn gv g args h v h' hn
end Go.Proofs.YtijninlbpifonaaGreatDoor.E
/- From the evaluator's answer to a law's row: what is read as data is what the evaluator works on. Conditions: those of each lemma. -/
namespace Go.Proofs.YtijninlbpifonaaGreatDoor.E
set_option linter.unusedVariables false
set_option linter.unusedSimpArgs false
/-- cells of a type -/
inductive WT (P : Program) : TypeId → List T → Prop
 | int (t : TypeId) (k : IntKind) (n : Int) (h : P.underlying t = some (.int k)) (hw : (Lit.int k n).wf = true) : WT P t [.int k n]
 | bool (t : TypeId) (b : Bool) (h : P.underlying t = some .bool) : WT P t [.bool b]
 | str (t : TypeId) (l : List UInt8) (h : P.underlying t = some .string) (hl : l.length ≤ maxLen) : WT P t [.str l]
 | list (t e : TypeId) (es : List (List T)) (h : P.underlying t = some (.slice e)) (hl : es.length ≤ maxLen) (hs : ∀ c ∈ es, WT P e c) : WT P t [.list (P.cellsOf e) es]
 | struct (t : TypeId) (fs : Array Go.Field) (cs : List T) (h : P.underlying t = some (.struct fs)) (hl : cs.length = P.cellsOf t)
  (hs : ∀ f ∈ fs.toList, WT P f.type ((cs.drop f.offset).take (P.cellsOf f.type))) : WT P t cs
inductive WTA (P : Program) : List TypeId → List V → Prop
 | nil : WTA P [] []
 | cons (t : TypeId) (ts : List TypeId) (cs : List T) (v : V) (vs : List V) (h : WT P t cs) (hp : zd (zF P t) (cs.map .t) = some v) (hs : WTA P ts vs) : WTA P (t :: ts) (v :: vs)
/-- fields one behind the other -/
def kZ (P : Program) (size : Nat) : Nat → List Go.Field → Bool
 | o, [] => o == size
 | o, f :: fs => f.offset == o && kZ P size (o + P.cellsOf f.type) fs
/-- a closed set of plain types -/
def oo (P : Program) (l : List TypeId) : Bool := l.all fun t => match P.underlying t with
 | some (.int _) | some .bool | some .string => P.cellsOf t == 1
 | some (.slice e) => l.contains e && decide (0 < P.cellsOf e) && P.cellsOf t == 1
 | some (.struct fs) => (fs.toList.all fun f => l.contains f.type) && kZ P (P.cellsOf t) 0 fs.toList
 | _ => false
theorem mapM_some {α β : Type} {f : α → Option β} : ∀ {l : List α} {r : List β}, l.mapM f = some r → r.length = l.length ∧ ∀ (i : Nat) (x : α), l[i]? = some x → ∃ y, r[i]? = some y ∧ f x = some y
 | [], r, h => by simp at h; subst h; exact ⟨rfl, fun i x hi => by simp at hi⟩
 | a :: l, r, h => by
  rw [List.mapM_cons] at h
  cases ha : f a with
  | none => simp [ha] at h
  | some b =>
   cases hl : l.mapM f with
   | none => simp [ha, hl] at h
   | some r' =>
    simp [ha, hl] at h
    subst h
    obtain ⟨h1, h2⟩ := mapM_some hl
    refine ⟨by simp [h1], fun i x hi => ?_⟩
    cases i with
    | zero => simp at hi; subst hi; exact ⟨b, rfl, ha⟩
    | succ i => exact h2 i x (by simpa using hi)
theorem uS {w : World} {base : Nat} {a : Addr} {n : Nat} {cs : List Value} (h : w.cells? base a n = some cs) : cs.length = n ∧ ∀ j, j < n → ∃ u, cs[j]? = some u ∧ w.cell? (a.add j) = some u := by
 unfold World.cells? at h
 split at h
 · obtain ⟨h1, h2⟩ := mapM_some h
   refine ⟨by simpa using h1, fun j hj => ?_⟩
   obtain ⟨u, e1, e2⟩ := h2 j j (by simp [hj])
   exact ⟨u, e1, e2⟩
 · cases h
variable {P : Program} {w : World} {H : Type} {enc : TypeId × Value → H}
theorem Vy {l : List TypeId} (ho : oo P l = true) {t : TypeId} (ht : t ∈ l) : (match P.underlying t with
 | some (.int _) | some .bool | some .string => P.cellsOf t == 1
 | some (.slice e) => l.contains e && decide (0 < P.cellsOf e) && P.cellsOf t == 1
 | some (.struct fs) => (fs.toList.all fun f => l.contains f.type) && kZ P (P.cellsOf t) 0 fs.toList
 | _ => false) = true := List.all_eq_true.1 ho t ht
theorem lY {size : Nat} {cs : List Value} (hcs : cs.length = size) : ∀ (fs : List Go.Field) (o : Nat), kZ P size o fs = true →
 (∀ f ∈ fs, ∃ ts, RTs w (fun b => b < w.heap.size) ((cs.drop f.offset).take (P.cellsOf f.type)) ts ∧ WT P f.type ts) →
 o ≤ size ∧ ∃ ts, RTs w (fun b => b < w.heap.size) (cs.drop o) ts ∧ ∀ f ∈ fs, o ≤ f.offset ∧ WT P f.type ((ts.drop (f.offset - o)).take (P.cellsOf f.type))
 | [], o, hr, _ => by
  simp only [kZ, beq_iff_eq] at hr
  subst hr
  exact ⟨Nat.le_refl _, [], by rw [List.drop_of_length_le (by omega)]; exact .nil, fun f hf => by cases hf⟩
 | f :: fs, o, hr, he => by
  simp only [kZ, Bool.and_eq_true, beq_iff_eq] at hr
  obtain ⟨rfl, hr⟩ := hr
  obtain ⟨k1, ts', k2, k3⟩ := lY hcs fs _ hr (fun g hg => he g (by simp [hg]))
  obtain ⟨tf, t1, t2⟩ := he f (by simp)
  have hlen : tf.length = P.cellsOf f.type := by rw [← zI t1]; simp; omega
  refine ⟨by omega, tf ++ ts', ?_, fun g hg => ?_⟩
  · have := yC t1 k2
    rwa [← List.drop_drop, List.take_append_drop] at this
  · rcases List.mem_cons.1 hg with rfl | hg
    · refine ⟨Nat.le_refl _, ?_⟩
      rw [Nat.sub_self, List.drop_zero, List.take_append_of_le_length (by omega), List.take_of_length_le (by omega)]
      exact t2
    · obtain ⟨g1, g2⟩ := k3 g hg
      refine ⟨by omega, ?_⟩
      have e1 : (tf ++ ts').drop (g.offset - f.offset) = ts'.drop (g.offset - (f.offset + P.cellsOf f.type)) := by
       rw [List.drop_append, List.drop_of_length_le (by omega), List.nil_append]
       congr 1; omega
      rw [e1]; exact g2
theorem Vj {l : List TypeId} (ho : oo P l = true) {spare : Nat → Bool} {held : Bool} {base : Nat} : ∀ (n : Nat) (t : TypeId), t ∈ l → ∀ (cs : List Value) (x : DataW H × List MemPlace), DataW.trod enc P w base spare held n t cs = some x →
 ∃ ts : List T, RTs w (fun b => b < w.heap.size) cs ts ∧ WT P t ts := by
 intro n
 induction n with
 | zero => intro t _ cs x h; simp [DataW.trod] at h
 | succ n ih =>
  intro t ht cs x h
  have hok := Vy ho ht
  unfold DataW.trod at h
  split at h
  · rename_i b hu
    exact ⟨[.bool b], .cons (.bool b) .nil, .bool t b hu⟩
  · rename_i k k' m hu
    split at h
    · rename_i hk
      obtain ⟨rfl, hw⟩ := hk
      exact ⟨[.int k' m], .cons (.int k' m) .nil, .int t k' m hu hw⟩
    · cases h
  · rename_i hu; rw [hu] at hok; cases hok
  · rename_i s hu
    split at h
    · rename_i hs
      exact ⟨[.str s.data.toList], .cons (.str s _ rfl) .nil, .str t _ hu (by simpa using hs)⟩
    · cases h
  · rename_i hu; rw [hu] at hok; cases hok
  · rename_i hu; rw [hu] at hok; cases hok
  · rename_i e hu
    refine ⟨[.list (P.cellsOf e) []], .cons (wM _ none _) .nil, .list t e [] hu (Nat.zero_le _) (fun c hc => by cases hc)⟩
  · rename_i e ad len cap hu
    rw [hu] at hok
    simp only [Bool.and_eq_true, List.contains_iff_mem, decide_eq_true_eq] at hok
    obtain ⟨⟨he, hpos⟩, hone⟩ := hok
    split at h
    · rename_i hc
      cases hm : (List.range len).mapM fun i => (w.cells? base (ad.add (i * P.cellsOf e)) (P.cellsOf e)).bind (DataW.trod enc P w base spare held n e) with
      | none => simp [hm] at h
      | some elems =>
       obtain ⟨m1, m2⟩ := mapM_some hm
       have each : ∀ i, i < len → ∃ (csi : List Value) (tsi : List T), w.cells? base (ad.add (i * P.cellsOf e)) (P.cellsOf e) = some csi ∧ RTs w (fun b => b < w.heap.size) csi tsi ∧ WT P e tsi := fun i hi => by
        obtain ⟨y, _, hy⟩ := m2 i i (by simp [hi])
        cases hcs : w.cells? base (ad.add (i * P.cellsOf e)) (P.cellsOf e) with
        | none => simp [hcs] at hy
        | some csi =>
         simp [hcs] at hy
         obtain ⟨tsi, t1, t2⟩ := ih e he csi y hy
         exact ⟨csi, tsi, rfl, t1, t2⟩
       have hex : ∃ f : Nat → List T, ∀ i, i < len → ∃ csi : List Value, w.cells? base (ad.add (i * P.cellsOf e)) (P.cellsOf e) = some csi ∧ RTs w (fun b => b < w.heap.size) csi (f i) ∧ WT P e (f i) :=
        ⟨fun i => if hi : i < len then (each i hi).choose_spec.choose else [], fun i hi => by
         simp only [hi, dif_pos]
         exact ⟨(each i hi).choose, (each i hi).choose_spec.choose_spec⟩⟩
       obtain ⟨f, hf⟩ := hex
       refine ⟨[.list (P.cellsOf e) ((List.range len).map f)], .cons ?_ .nil, .list t e _ hu (by simp; omega) (fun c hc => ?_)⟩
       · refine .list (some ad) len cap (P.cellsOf e) _ (fun i j => (w.cell? ((ad.add (i * P.cellsOf e)).add j)).getD undef) (by simp) hc.2.1 (fun hp => ?_) (fun c hc => ?_) (fun i j cs x hi hj => ?_)
         · obtain ⟨csi, e1, e2, e3⟩ := hf 0 hp
           obtain ⟨c1, c2⟩ := uS e1
           obtain ⟨u, u1, u2⟩ := c2 0 hpos
           have hadd0 : (ad.add (0 * P.cellsOf e)).add 0 = ad := by simp [Addr.add]
           rw [hadd0] at u2
           obtain ⟨b, o, spot⟩ := ad
           have hspot : spot = none := by
            cases spot with
            | none => rfl
            | some s => unfold World.cell? at u2; split at u2 <;> simp at u2
           subst hspot
           refine ⟨b, o, rfl, ?_, fun i j hi hj => ?_⟩
           · unfold World.cell? at u2
             split at u2
             · rename_i hh; exact (Array.getElem?_eq_some_iff.1 hh).1
             · cases u2
           · obtain ⟨csi, e1, e2, e3⟩ := hf i hi
             obtain ⟨c1, c2⟩ := uS e1
             obtain ⟨u, u1, u2⟩ := c2 j hj
             simp only [Addr.add_mid] at u2 ⊢
             rw [u2, show o + (i * P.cellsOf e + j) = o + i * P.cellsOf e + j by omega, u2]
             rfl
         · simp only [List.mem_map, List.mem_range] at hc
           obtain ⟨i, hi, rfl⟩ := hc
           obtain ⟨csi, e1, e2, e3⟩ := hf i hi
           rw [← zI e2]; exact (uS e1).1
         · have hil : i < len := by have := (List.getElem?_eq_some_iff.1 hi).1; simpa using this
           simp [hil] at hi
           subst hi
           obtain ⟨csi, e1, e2, e3⟩ := hf i hil
           obtain ⟨c1, c2⟩ := uS e1
           obtain ⟨u, u1, u2⟩ := yb e2 j x hj
           have hjl : j < P.cellsOf e := by rw [← c1]; exact (List.getElem?_eq_some_iff.1 u1).1
           obtain ⟨u', u3, u4⟩ := c2 j hjl
           rw [u1] at u3; cases u3
           rw [u4]; exact u2
       · simp only [List.mem_map, List.mem_range] at hc
         obtain ⟨i, hi, rfl⟩ := hc
         exact (hf i hi).choose_spec.2.2
    · cases h
  · rename_i cs _ _ fs hu
    rw [hu] at hok
    simp only [List.all_eq_true, Bool.and_eq_true, List.contains_iff_mem] at hok
    obtain ⟨hmem, hrow⟩ := hok
    split at h
    · rename_i hl
      cases hm : fs.toList.mapM fun f => DataW.trod enc P w base spare held n f.type ((cs.drop f.offset).take (P.cellsOf f.type)) with
      | none => simp [hm] at h
      | some xs =>
       obtain ⟨_, m2⟩ := mapM_some hm
       obtain ⟨_, ts, t1, t2⟩ := lY hl fs.toList 0 hrow fun f hf => by
        obtain ⟨i, hi⟩ := List.mem_iff_getElem?.1 hf
        obtain ⟨y, _, hy⟩ := m2 i f hi
        exact ih f.type (hmem f hf) _ y hy
       simp only [List.drop_zero] at t1
       refine ⟨ts, t1, .struct t fs ts hu (by rw [← zI t1]; exact hl) fun f hf => ?_⟩
       have := (t2 f hf).2
       simpa using this
    · cases h
  all_goals first
   | (rename_i hu; rw [hu] at hok; cases hok; done)
   | (cases h; done)
theorem X0 {t : TypeId} {ts : List T} (hw : WT P t ts) : ∃ v, zd (zF P t) (ts.map .t) = some v := by
 cases hw with
 | int t k n h => simp [zd, zF, h]
 | bool t b h => simp [zd, zF, h]
 | str t l h => simp [zd, zF, h]
 | list t e es h => simp [zd, zF, h]
 | struct t fs cs h => simp [zd, zF, h]
theorem one_cell {r : Reach} {b : Nat} {t : TypeId} {v : Value} (ha : zF P t = false) (hok : Value.okWide P w r b t v) : v.cells = #[v] := by
 cases v with
 | agg cs =>
  exfalso
  unfold Value.okWide at hok
  split at hok
  · rename_i h; simp [zF, h] at ha
  · rename_i h; simp [zF, h] at ha
  · unfold Cell.okWide at hok
    split at hok
    all_goals first
     | (rename_i h1 h2; cases h2; done)
     | skip
    all_goals (unfold Cell.ok at hok; split at hok <;> first | (rename_i h1 h2; cases h2; done) | exact hok)
 | _ => rfl
theorem bR {l : List TypeId} (ho : oo P l = true) {base : Nat} {r : Reach} {b : Nat} : ∀ (ts : List TypeId), (∀ t ∈ ts, t ∈ l) → ∀ (vs : List Value) (ds : List (DataW H)) (ps : List MemPlace), DataW.TrodAll enc P w base (fun _ => true) true ts vs ds ps →
 (∀ (j : Nat) t v, ts[j]? = some t → vs[j]? = some v → Value.okWide P w r b t v) →
 ∃ xs, RVs w (fun b => b < w.heap.size) zH vs xs ∧ WTA P ts xs
 | [], _, vs, ds, ps, h, _ => by
  cases vs with
  | nil => exact ⟨[], .nil, .nil⟩
  | cons => simp [DataW.TrodAll] at h
 | t :: ts, hl, vs, ds, ps, h, hagg => by
  cases vs with
  | nil => simp [DataW.TrodAll] at h
  | cons v vs =>
  cases ds with
  | nil => simp [DataW.TrodAll] at h
  | cons d ds =>
   obtain ⟨p, q, ⟨n, hn⟩, h2, _⟩ := h
   obtain ⟨cs, c1, c2⟩ := Vj ho n t (hl t (by simp)) _ _ hn
   obtain ⟨x, hx⟩ := X0 c2
   obtain ⟨xs, x1, x2⟩ := bR ho ts (fun t ht => hl t (by simp [ht])) vs ds q h2 (fun j t' v' h1 h2 => hagg (j + 1) t' v' (by simpa using h1) (by simpa using h2))
   refine ⟨x :: xs, .cons ?_ x1, .cons t ts cs x xs c2 hx x2⟩
   obtain ⟨k1, k2⟩ := nO hx (jb (ρ := zH) c1)
   have hv := hagg 0 t v rfl rfl
   cases ha : zF P t with
   | true =>
    have := k1 ha
    have hag : ∃ cs, v = .agg cs := by
     unfold Value.okWide at hv
     split at hv
     · obtain ⟨cs, e, _⟩ := hv; exact ⟨cs, e⟩
     · obtain ⟨cs, e, _⟩ := hv; exact ⟨cs, e⟩
     · rename_i h1 h2
       unfold zF at ha
       split at ha
       · rename_i h; exact absurd h (h1 _)
       · rename_i h; exact absurd h (h2 _ _)
       · cases ha
    obtain ⟨cs', rfl⟩ := hag
    simpa [Value.cells] using this
   | false =>
    obtain ⟨u, hu, hr⟩ := k2 ha
    have h1 := one_cell ha hv
    rw [h1] at hu
    have : v = u := by simpa using hu
    rw [this]; exact hr
theorem Vq {w' : World} {F F' : Nat → Prop} (hn : Nxt (own fun b => w.heap.size ≤ b) w F zH w' F' zH) (p : MemPlace) (hp : p.block < w.heap.size) : w.sameAt w' p := by
 cases p with
 | cell b off =>
  have hb : b < w.heap.size := hp
  have h := hn.keep b hb (Nat.not_le.2 hb)
  unfold World.sameAt World.cell?
  simp only [h]
 | map b =>
  have hb : b < w.heap.size := hp
  exact hn.keep b hb (Nat.not_le.2 hb)
theorem sT {w' : World} {base : Nat} {spare : Nat → Bool} {held : Bool} : ∀ {ts : List TypeId} {vs : List Value} {ds : List (DataW H)} {ps : List MemPlace}, DataW.TrodAll enc P w base spare held ts vs ds ps → (∀ p ∈ ps, w.sameAt w' p) → DataW.TrodAll enc P w' base spare held ts vs ds ps
 | [], [], [], _, h, _ => h
 | _ :: _, _ :: _, _ :: _, _, ⟨p, q, ⟨n, h1⟩, h2, e⟩, hs =>
  ⟨p, q, ⟨n, DataW.trod_carry n _ _ _ h1 fun x hx => hs x (by rw [e]; exact List.mem_append_left _ hx)⟩, sT h2 fun x hx => hs x (by rw [e]; exact List.mem_append_right _ hx), e⟩
/-- a law's row out of the evaluator's answer -/
theorem Tg {pol : Pol} {W : World} (hE : mF P W pol) (hP : ∀ f fn c, pol.no f = false → P.funcs[f]? = some fn → fn.body = some c → yR (qZ P pol f) fn.ntmps c = true)
 {f : Func} {g : Nat} {s : ChangeSpec} {base : Nat} {args : Array Value} {ds gs : List (DataW H)} {before : List MemPlace} {l : List TypeId} {tb : TypeId} {T : TypeId → Prop}
 (ho : oo P l = true) (hl : ∀ t ∈ f.params.toList, t ∈ l) (hvars : s.vars = [])
 (hK : Kids P T) (hz : ∀ t e, T t → P.underlying t = some (.slice e) → 0 < P.cellsOf e) (hT : ∀ t ∈ f.params.toList, T t)
 (hval : ∀ (j : Nat) t v, f.params[j]? = some t → args[j]? = some v → Value.okWide P W .any base t v)
 (hW : DataW.Whole enc P f.params.toList s.vars false W args.toList ds gs before)
 (hfn : gs = [] → (s.fn H (ds ++ gs)).results = [.lit (.bool true)] ∧ (s.fn H (ds ++ gs)).args = ds ∧ (s.fn H (ds ++ gs)).vars = [])
 (hr : f.resultTypes = #[tb]) (hb : P.underlying tb = some .bool)
 (hev : ∀ xs, WTA P f.params.toList xs → EV P pol (.call g xs []) = some (.call (.t (.bool true)) [])) :
 Calls P g args W fun e W' => ∃ v, e = .returned v ∧ s.post enc P f false true false false W args v W' := by
 have hW0 := hW
 obtain ⟨p, q, hA, hV, rfl, hfz, hnd⟩ := hW
 rw [hvars] at hV
 obtain ⟨rfl, rfl⟩ := Go.ChangeShapes.trodVars_none hV
 obtain ⟨hf1, hf2, hf3⟩ := hfn rfl
 obtain ⟨xs, x1, x2⟩ := bR ho f.params.toList hl args.toList ds p hA (fun j t v h1 h2 => hval j t v (by simpa using h1) (by simpa using h2))
 refine (UA hE hP (hev xs x2) W (fun b => b < W.heap.size) args ⟨Nat.le_refl _, fun b hb => hb, fun b hb => rfl⟩ (fun b h => h) x1).mono fun e W' ⟨u, F', he, hru, hF', hn⟩ => ?_
 have hu : u = .bool true := by cases hru with | t u x h => cases h; rfl
 subst hu
 refine ⟨_, he, ds, [], p ++ [], [], p, [], hW0, ?_, ?_, ?_, ?_, by simp⟩
 · rw [hf1, hr]
   exact Go.ChangeShapes.trodAll_mk1 (Go.RowKit.shut_bool hb true)
 · rw [hf2]
   have h1 := DataW.TrodAll.respare (spare' := fun b => decide (b < W.heap.size)) hK hz hT hA (fun x hx => by simpa using hA.lt x hx)
   exact sT h1 fun x hx => Vq hn x (hA.lt x hx)
 · rw [hf3, hvars]; rfl
 · refine ⟨hn.os, hn.output, fun i hi => ?_⟩
   rw [hn.keep i hi (Nat.not_le.2 hi)]
   have : W.heap[i]? = some W.heap[i] := Array.getElem?_eq_getElem hi
   rw [this]
   generalize W.heap[i] = c
   cases c <;> simp
end Go.Proofs.YtijninlbpifonaaGreatDoor.E
/- The evaluator as a machine with a stack, for proofs that step through code. Conditions: those of each lemma. -/
namespace Go.Proofs.YtijninlbpifonaaGreatDoor.E
set_option linter.unusedVariables false
set_option linter.unusedSimpArgs false
structure Cx where
 P : Program
 pol : Pol
 rc : Rec
 f : Nat
 m : Nat
/-- what comes behind -/
inductive Fr where
 | seq (c : Code) (p : Nat)
 | blk (id : Nat)
inductive rf where
 | call (res : List ResultVar)
 | callO (gv : Bool) (res : List ResultVar)
 | loop (p : Nat)
def fX (P : Program) (m : Nat) (r : Option (List V)) (h : Heap) : Option xD :=
 match r with
 | some vs => match yz h (zn vs) with
  | some (v, h'') => some (.call v (h''.take m))
  | none => none
 | none => none
def ni (C : Cx) : rf → Exi → Env → Heap → Option xD
 | .call res, x, e, h => match x with
  | .normal | .ret => fX C.P C.m (wX C.P e h res) h
  | .exit _ => none
 | .callO gv res, x, e, h => match x with
  | .normal | .ret => oK gv C.m (wX C.P e h res) h
  | .exit _ => none
 | .loop p, x, e, h => match x with
  | .normal => C.rc (.loop C.f p C.m (ya C.m ((C.pol.live C.f p).map e) h).1 (ya C.m ((C.pol.live C.f p).map e) h).2)
  | x => some (.loop x (ya C.m ((C.pol.outs C.f p).map e) h).1 (ya C.m ((C.pol.outs C.f p).map e) h).2)
def goX (C : Cx) : List Fr → rf → Exi → Env → Heap → Option xD
 | [], k, x, e, h => ni C k x e h
 | .seq c p :: fs, k, x, e, h => match x with
  | .normal => (match evC C.P C.pol C.rc C.f C.m c p e h with | some (x', e', h') => goX C fs k x' e' h' | none => none)
  | x => goX C fs k x e h
 | .blk id :: fs, k, x, e, h => match x with
  | .exit id' => if id' = id then goX C fs k .normal e h else goX C fs k (.exit id') e h
  | x => goX C fs k x e h
def goC (C : Cx) (c : Code) (p : Nat) (fs : List Fr) (k : rf) (e : Env) (h : Heap) : Option xD :=
 match evC C.P C.pol C.rc C.f C.m c p e h with | some (x', e', h') => goX C fs k x' e' h' | none => none
/-- a region: its operations; the number kept for the next row, the numbers behind it; what was touched; is its order open? -/
structure Rg where
 ops : Array Oper
 N : Option Nat
 Ns : List (Option Nat)
 acc : List (List Nat)
 d : Bool
 x : Bool
def goR (C : Cx) (q : Rg) (rest : List Oper) (fs : List Fr) (k : rf) (e : Env) (h : Heap) : Option xD :=
 if q.d then if q.x then (match evR C.P C.pol C.rc C.f q.ops rest e h with
  | some (rs, e', h') => if zOK C.pol C.f q.ops (q.acc.reverse ++ rs) then goX C fs k .normal e' h' else none
  | none => none) else (match evD C.P C.pol C.rc C.f q.ops q.Ns rest e h with
  | some (fps, e', h') => if fU C.pol C.f q.ops (q.acc.reverse ++ fps) then goX C fs k .normal e' h' else none
  | none => none)
 else if q.x then (match rL C.P C.pol C.rc C.f q.ops rest e h with | some (e', h') => goX C fs k .normal e' h' | none => none)
 else match wQ C.P C.pol C.rc C.f q.ops rest e h with | some (e', h') => goX C fs k .normal e' h' | none => none
/-- an operation; where owned values are made, their ways come first -/
def mD (C : Cx) (q : Rg) (o : Oper) (e : Env) (h : Heap) : Option (V × Heap) :=
 if q.x && C.pol.own C.f then (match yV C.P C.pol C.rc C.f o e h with | some r => some r | none => zQ C.P C.pol C.rc C.f q.N o e h) else zQ C.P C.pol C.rc C.f q.N o e h
def kB (a b : Bool) (x y : Option (V × Heap)) : Option (V × Heap) := if a && b then (match x with | some r => some r | none => y) else y
def r8 (C : Cx) (q : Rg) (o : Oper) (rest : List Oper) (fs : List Fr) (k : rf) (e : Env) (h : Heap) : Option xD :=
 match zQ C.P C.pol C.rc C.f q.N o e h with | some (v, h') => goR C q rest fs k (put e o.dst v) h' | none => none
def goW (C : Cx) (w : Option Bool) (q : Rg) (o : Oper) (rest : List Oper) (fs : List Fr) (k : rf) (e : Env) (h : Heap) : Option xD :=
 match w with
 | some true => (match mD C q o e h with | some (v, h') => goR C q rest fs k (put e o.dst v) h' | none => none)
 | some false => goR C q rest fs k (put e o.dst .und) h
 | none => none
/-- a value, then the rest -/
def r1 (C : Cx) (r : Option V) (dst : Option Nat) (q : Rg) (rest : List Oper) (fs : List Fr) (k : rf) (e : Env) (h : Heap) : Option xD :=
 match r with | some v => goR C q rest fs k (put e dst v) h | none => none
def r2 (C : Cx) (r : Option (V × Heap)) (dst : Option Nat) (q : Rg) (rest : List Oper) (fs : List Fr) (k : rf) (e : Env) : Option xD :=
 match r with | some (v, h) => goR C q rest fs k (put e dst v) h | none => none
def rh (C : Cx) (r : Option Heap) (dst : Option Nat) (q : Rg) (rest : List Oper) (fs : List Fr) (k : rf) (e : Env) : Option xD :=
 match r with | some h => goR C q rest fs k (put e dst .und) h | none => none
def cK (C : Cx) (v : V) (a b : Code) (p : Nat) (fs : List Fr) (k : rf) (e : Env) (h : Heap) : Option xD :=
 match v with
 | .t (.bool t) => if t then goC C a (2 * p) fs k e h else goC C b (2 * p + 1) fs k e h
 | _ => none
def lK (C : Cx) (r : Option xD) (outs : List Nat) (fs : List Fr) (k : rf) : Option xD :=
 match r with
 | some (.loop x vals h') => goX C fs k x (zb outs vals) h'
 | _ => none
/-- a called function's answer -/
def bY (N : Option Nat) (ids : List Nat) (r : Option xD) (h : Heap) : Option (V × Heap) :=
 match r with
 | some (.call v h1) => yL N ids v h1 h
 | _ => none
def uE (C : Cx) (N : Option Nat) (m : PM) (fv : Option (Nat × List V)) (args : List V) (h : Heap) : Option (V × Heap) :=
 match fv with
 | some (g, caps) => match m with
  | .pure => (match asArg.asArgs (args ++ caps) with | some az => (match zk C.rc g az with | some v => some (v, h) | none => none) | none => (match yl.snapVs h (args ++ caps) with | some az => (match zk C.rc g az with | some v => (if zc v then some (v, h) else none) | none => none) | none => none))
  | .frz => (match yz.gives h (args ++ caps) with | some (az, h') => (match zk C.rc g az with | some v => some (v, h') | none => none) | none => none)
  | .opn gv => bY N (x5 h (args ++ caps)) (C.rc (.callO gv g (ya 0 (args ++ caps) h).1 (ya 0 (args ++ caps) h).2)) h
  | .brw => none
  | .all => none
 | none => none
def bX (c a b : V) : Option V :=
 match c with
 | .t (.bool t) => some (if t then a else b)
 | _ => none
def UC (P : Program) (t : TypeId) (x i : V) : Option V :=
 match x, i with
 | .t (.str l), .t (.int _ n) => if isStr P t then (match ti l n with | some b => some (.t (.int .u8 (b.toNat : Int))) | none => none) else none
 | _, _ => none
def UF (x : V) (i : Nat) : Option V :=
 match x with
 | .tup vs => vs[i]?
 | _ => none
def pg (N : Option Nat) (z : Option (List V)) (h : Heap) : Option (V × Heap) :=
 match z with
 | some zs => if zs.isEmpty then none else some (.ptr (nI N h) 0 0, nH N h (.vs zs.length [zs]))
 | none => none
def Jb (N : Option Nat) (cs : List V) (h : Heap) : Option (V × Heap) :=
 if cs.isEmpty || !cs.all zY then none else some (.ptr (nI N h) 0 0, nH N h (.vs cs.length [cs]))
/-- the slots at a call's start -/
def bS (args : List V) : Env := fun t => (args[t]?).getD .bad
theorem rV : ∀ (args : List V) (s t : Nat), zb (List.range' s args.length) args t = if s ≤ t then (args[t - s]?).getD .bad else .bad
 | [], s, t => by simp [zb]
 | v :: vs, s, t => by
  simp only [List.length_cons, List.range'_succ, zb, upd, rV vs (s + 1) t]
  by_cases h : t = s
  · subst h; simp
  · simp only [h, if_false]
    by_cases h2 : s + 1 ≤ t
    · have e : t - s = (t - (s + 1)) + 1 := by omega
      simp only [h2, if_true, show s ≤ t by omega, e, List.getElem?_cons_succ]
    · simp only [h2, if_false, show ¬ s ≤ t by omega]
theorem pC (args : List V) : zb (List.range args.length) args = bS args := by
 funext t
 rw [List.range_eq_range', rV args 0 t]
 simp [bS]
theorem kv (v : V) (vs : List V) : bS (v :: vs) 0 = v := rfl
theorem ky (v : V) (vs : List V) (n : Nat) : bS (v :: vs) (n + 1) = bS vs n := rfl
theorem zw {P : Program} {pol : Pol} {f : Nat} {fn : Func} {c : Code} {args : List V} {h : Heap} {r : xD} (hx : pol.ext f args = none) (hf : P.funcs[f]? = some fn) (hb : fn.body = some c)
 (hn : (pol.no f || fn.name == "runtime.NumGoroutine" || decide (fn.ntmps < args.length)) = false)
 (hg : goC ⟨P, pol, EV P pol, f, h.length⟩ c 1 [] (.call fn.results.toList) (bS args) h = some r) : EV P pol (.call f args h) = some r := by
 rw [← pC] at hg
 apply qz
 simp only [E.step, hx, hf, hb, hn]
 unfold goC at hg
 simp only at hg
 cases hc : evC P pol (EV P pol) f h.length c 1 (zb (List.range args.length) args) h with
 | none => simp [hc] at hg
 | some x =>
  obtain ⟨x, e', h'⟩ := x
  simp only [hc, goX, ni] at hg
  simp only [Bool.false_eq_true, if_false]
  cases x with
  | exit id => cases hg
  | _ =>
   simp only [fX] at hg
   cases hres : wX P e' h' fn.results.toList with
   | none => simp [hres] at hg
   | some vs =>
    simp only [hres] at hg ⊢
    cases hgv : yz h' (zn vs) with
    | none => simp [hgv] at hg
    | some y => simpa only [hgv] using hg
theorem yd {P : Program} {pol : Pol} {gv : Bool} {f : Nat} {fn : Func} {c : Code} {args : List V} {h : Heap} {r : xD} (hf : P.funcs[f]? = some fn) (hb : fn.body = some c)
 (hn : (pol.no f || fn.name == "runtime.NumGoroutine" || decide (fn.ntmps < args.length)) = false)
 (hg : goC ⟨P, pol, EV P pol, f, h.length⟩ c 1 [] (.callO gv fn.results.toList) (bS args) h = some r) (hx : pol.extO f args h = none := by rfl) : EV P pol (.callO gv f args h) = some r := by
 rw [← pC] at hg
 apply qz
 simp only [E.step, hx, hf, hb, hn]
 unfold goC at hg
 simp only at hg
 cases hc : evC P pol (EV P pol) f h.length c 1 (zb (List.range args.length) args) h with
 | none => simp [hc] at hg
 | some x =>
  obtain ⟨x, e', h'⟩ := x
  simp only [hc, goX, ni] at hg
  simp only [Bool.false_eq_true, if_false]
  cases x with
  | exit id => cases hg
  | _ => exact hg
theorem zi {P : Program} {pol : Pol} {f p m : Nat} {fn : Func} {c b : Code} {vals : List V} {h : Heap} {r : xD} (hf : P.funcs[f]? = some fn) (hb : fn.body = some c) (hc : yD c (turns p) = some (.loop b))
 (hg : goC ⟨P, pol, EV P pol, f, m⟩ b (2 * p) [] (.loop p) (zb (pol.live f p) vals) h = some r) : EV P pol (.loop f p m vals h) = some r := by
 apply qz
 simp only [E.step, hf, hb, hc]
 unfold goC at hg
 simp only at hg
 cases hc : evC P pol (EV P pol) f m b (2 * p) (zb (pol.live f p) vals) h with
 | none => simp [hc] at hg
 | some x =>
  obtain ⟨x, e', h'⟩ := x
  simp only [hc, goX, ni] at hg
  cases x with
  | normal => exact hg
  | ret => exact hg
  | exit id => exact hg
section
variable (C : Cx) (p : Nat) (fs : List Fr) (k : rf) (e : Env) (h : Heap) (q : Rg) (rest : List Oper) (dst : Option Nat) (ty : TypeId) (pos : String) (after : Array Edge)
theorem bw (a b : Code) : goC C (.seq a b) p fs k e h = goC C a (2 * p) (.seq b (2 * p + 1) :: fs) k e h := by
 unfold goC; simp only [evC, goX]
 cases evC C.P C.pol C.rc C.f C.m a (2 * p) e h with
 | none => rfl
 | some x => obtain ⟨x, e', h'⟩ := x; cases x <;> rfl
theorem gY (c : Operand) (a b : Code) : goC C (.cond c a b) p fs k e h = cK C (opv C.P e 0 c) a b p fs k e h := by
 unfold goC cK; simp only [evC]
 cases opv C.P e 0 c with
 | t x => cases x with
  | bool t => cases t <;> rfl
  | _ => rfl
 | _ => rfl
theorem lN (id : Nat) (a : Code) : goC C (.block id a) p fs k e h = goC C a (2 * p) (.blk id :: fs) k e h := by
 unfold goC; simp only [evC, goX]
 cases evC C.P C.pol C.rc C.f C.m a (2 * p) e h with
 | none => rfl
 | some x =>
  obtain ⟨x, e', h'⟩ := x
  cases x with
  | exit id' => simp only; by_cases hi : id' = id <;> simp [hi]
  | _ => rfl
theorem gV (a : Code) : goC C (.loop a) p fs k e h = lK C (C.rc (.loop C.f p C.m (ya C.m ((C.pol.live C.f p).map e) h).1 (ya C.m ((C.pol.live C.f p).map e) h).2)) (C.pol.outs C.f p) fs k := by
 unfold goC lK; simp only [evC]
 cases C.rc (.loop C.f p C.m (ya C.m ((C.pol.live C.f p).map e) h).1 (ya C.m ((C.pol.live C.f p).map e) h).2) with
 | none => rfl
 | some x => cases x <;> rfl
theorem gW (id : Nat) : goC C (.exit id) p fs k e h = goX C fs k (.exit id) e h := rfl
theorem bx : goC C .ret p fs k e h = goX C fs k .ret e h := rfl
theorem gU : goC C .skip p fs k e h = goX C fs k .normal e h := rfl
theorem ng (n : Nat) (l : List Oper) : goC C (.region n l.toArray false) p fs k e h = goR C ⟨l.toArray, none, [], [], false, true⟩ l fs k e (ghH (C.pol.gh C.f n) e h) := by
 unfold goC goR; simp only [evC, List.toList_toArray, Bool.false_and, Bool.false_eq_true, if_false, if_true]
 cases rL C.P C.pol C.rc C.f l.toArray l e (ghH (C.pol.gh C.f n) e h) <;> rfl
/-- a region in open order -/
def goD (C : Cx) (simple z : Bool) (l : List Oper) (fs : List Fr) (k : rf) (e : Env) (h : Heap) : Option xD :=
 if simple then goR C ⟨l.toArray, none, [], [], false, false⟩ l fs k e h else if z then goR C ⟨l.toArray, none, [], [], true, true⟩ l fs k e h else goR C ⟨l.toArray, none, vc C.pol C.f h.length l, [], true, false⟩ l fs k e (h ++ List.replicate (wy C.pol C.f l) .dead)
theorem gX (n : Nat) (l : List Oper) (hd : C.pol.dr C.f = true) : goC C (.region n l.toArray true) p fs k e h = goD C (l.all (yt C.pol C.f)) (C.pol.own C.f && C.pol.dm C.f n) l fs k e h := by
 unfold goC goD; simp only [evC, hd, List.toList_toArray]
 cases hn : l.all (yt C.pol C.f) with
 | true =>
  simp only [Bool.not_true, Bool.and_false, Bool.false_eq_true, if_false, if_true]
  unfold goR
  simp only [Bool.false_eq_true, if_false]
  cases wQ C.P C.pol C.rc C.f l.toArray l e h <;> rfl
 | false =>
  simp only [Bool.not_true, Bool.not_false, Bool.and_true, Bool.and_false, Bool.false_eq_true, if_false, if_true]
  by_cases hc : (C.pol.own C.f && C.pol.dm C.f n) = true
  · simp only [hc, if_true]
    unfold evZ goR
    simp only [List.toList_toArray, if_true, List.reverse_nil, List.nil_append]
    cases evR C.P C.pol C.rc C.f l.toArray l e h with
    | none => rfl
    | some x =>
     obtain ⟨y1, y2, y3⟩ := x
     by_cases hx : zOK C.pol C.f l.toArray y1 = true
     · simp only [hx, if_true]
     · simp only [hx, Bool.false_eq_true, if_false]
  simp only [hc, Bool.false_eq_true, if_false]
  unfold sd goR
  simp only [List.toList_toArray, if_true, Bool.false_eq_true, if_false, List.reverse_nil, List.nil_append]
  cases evD C.P C.pol C.rc C.f l.toArray (vc C.pol C.f h.length l) l e (h ++ List.replicate (wy C.pol C.f l) .dead) with
  | none => rfl
  | some x =>
   obtain ⟨y1, y2, y3⟩ := x
   by_cases hx : fU C.pol C.f l.toArray y1 = true
   · simp only [hx, if_true]
   · simp only [hx, Bool.false_eq_true, if_false]
theorem gT (z : Bool) (l : List Oper) : goD C true z l fs k e h = goR C ⟨l.toArray, none, [], [], false, false⟩ l fs k e h := rfl
theorem T1 (l : List Oper) : goD C false true l fs k e h = goR C ⟨l.toArray, none, [], [], true, true⟩ l fs k e h := rfl
theorem lM (l : List Oper) : goD C false false l fs k e h = goR C ⟨l.toArray, none, vc C.pol C.f h.length l, [], true, false⟩ l fs k e (h ++ List.replicate (wy C.pol C.f l) .dead) := rfl
theorem bp (x : Exi) : goX C [] k x e h = ni C k x e h := rfl
theorem bo (c : Code) : goX C (.seq c p :: fs) k .normal e h = goC C c p fs k e h := rfl
theorem pN (c : Code) : goX C (.seq c p :: fs) k .ret e h = goX C fs k .ret e h := rfl
theorem rW (c : Code) (id : Nat) : goX C (.seq c p :: fs) k (.exit id) e h = goX C fs k (.exit id) e h := rfl
theorem bq (id : Nat) : goX C (.blk id :: fs) k .normal e h = goX C fs k .normal e h := rfl
theorem pO (id : Nat) : goX C (.blk id :: fs) k .ret e h = goX C fs k .ret e h := rfl
theorem rX (id id' : Nat) : goX C (.blk id :: fs) k (.exit id') e h = if id' = id then goX C fs k .normal e h else goX C fs k (.exit id') e h := rfl
theorem br (ops : Array Oper) (x : Bool) : goR C ⟨ops, none, [], [], false, x⟩ [] fs k e h = goX C fs k .normal e h := by cases x <;> rfl
theorem U1 (ops : Array Oper) (o : Oper) : mD C ⟨ops, none, [], [], false, true⟩ o e h = vu C.P C.pol C.rc C.f o e h := rfl
theorem bD {q : Rg} (hx : q.x = false) (o : Oper) : mD C q o e h = zQ C.P C.pol C.rc C.f q.N o e h := by unfold mD; rw [hx]; rfl
theorem gS (ops : Array Oper) (x : Bool) (o : Oper) : goR C ⟨ops, none, [], [], false, x⟩ (o :: rest) fs k e h = goW C (want ops o e) ⟨ops, none, [], [], false, x⟩ o rest fs k e h := by
 cases x with
 | true =>
  unfold goR goW; simp only [Bool.false_eq_true, if_false, if_true, rL, wx]
  cases want ops o e with
  | none => rfl
  | some b => cases b with
   | false => simp only [goR, Bool.false_eq_true, if_false, if_true]
   | true => simp only [U1]; cases vu C.P C.pol C.rc C.f o e h with
    | none => rfl
    | some x => simp only [goR, Bool.false_eq_true, if_false, if_true]
 | false =>
  unfold goR goW; simp only [Bool.false_eq_true, if_false, wQ, tq]
  cases want ops o e with
  | none => rfl
  | some b => cases b with
   | false => simp only [goR, Bool.false_eq_true, if_false]
   | true => simp only [bD (q := ⟨ops, none, [], [], false, false⟩) C e h rfl]; cases zQ C.P C.pol C.rc C.f none o e h with
    | none => rfl
    | some x => simp only [goR, Bool.false_eq_true, if_false]
theorem gR (ops : Array Oper) (N : Option Nat) (acc : List (List Nat)) : goR C ⟨ops, N, [], acc, true, false⟩ [] fs k e h = if fU C.pol C.f ops acc.reverse then goX C fs k .normal e h else none := by
 unfold goR; simp only [if_true, Bool.false_eq_true, if_false, evD, List.append_nil]
theorem lL (ops : Array Oper) (N N' : Option Nat) (Ns : List (Option Nat)) (acc : List (List Nat)) (o : Oper) : goR C ⟨ops, N, N' :: Ns, acc, true, false⟩ (o :: rest) fs k e h = goW C (want ops o e) ⟨ops, N', Ns, xn N' o e h :: acc, true, false⟩ o rest fs k e h := by
 unfold goR goW; simp only [if_true, Bool.false_eq_true, if_false, evD, tq]
 cases want ops o e with
 | none => rfl
 | some b => cases b with
  | false =>
   simp only [goR, if_true, Bool.false_eq_true, if_false, List.reverse_cons, List.append_assoc, List.singleton_append]
   cases evD C.P C.pol C.rc C.f ops Ns rest (put e o.dst .und) h <;> rfl
  | true => simp only [bD (q := ⟨ops, N', Ns, xn N' o e h :: acc, true, false⟩) C e h rfl]; cases zQ C.P C.pol C.rc C.f N' o e h with
   | none => rfl
   | some x =>
    simp only [goR, if_true, Bool.false_eq_true, if_false, List.reverse_cons, List.append_assoc, List.singleton_append]
    cases evD C.P C.pol C.rc C.f ops Ns rest (put e o.dst x.1) x.2 <;> rfl
theorem gQ (ops : Array Oper) (acc : List (List Nat)) : goR C ⟨ops, none, [], acc, true, true⟩ [] fs k e h = if zOK C.pol C.f ops acc.reverse then goX C fs k .normal e h else none := by
 unfold goR; simp only [if_true, evR, List.append_nil]
theorem lJ (ops : Array Oper) (acc : List (List Nat)) (o : Oper) : goR C ⟨ops, none, [], acc, true, true⟩ (o :: rest) fs k e h = goW C (want ops o e) ⟨ops, none, [], (h.length :: yu none o e h) :: acc, true, true⟩ o rest fs k e h := by
 unfold goR goW; simp only [if_true, evR, wx]
 cases want ops o e with
 | none => rfl
 | some b => cases b with
  | false =>
   simp only [goR, if_true, List.reverse_cons, List.append_assoc, List.singleton_append]
   cases evR C.P C.pol C.rc C.f ops rest (put e o.dst .und) h <;> rfl
  | true =>
   rw [show mD C ⟨ops, none, [], (h.length :: yu none o e h) :: acc, true, true⟩ o e h = vu C.P C.pol C.rc C.f o e h from rfl]
   cases vu C.P C.pol C.rc C.f o e h with
   | none => rfl
   | some x =>
    simp only [goR, if_true, List.reverse_cons, List.append_assoc, List.singleton_append]
    cases evR C.P C.pol C.rc C.f ops rest (put e o.dst x.1) x.2 <;> rfl
theorem yr {o : Oper} (ho : yV C.P C.pol C.rc C.f o e h = none) : goW C (some true) q o rest fs k e h = r8 C q o rest fs k e h := by
 unfold goW r8 mD
 simp only [ho, ite_self]
theorem oq {o : Oper} {x y : Option (V × Heap)} (hx : yV C.P C.pol C.rc C.f o e h = x) (hy : zQ C.P C.pol C.rc C.f q.N o e h = y) : goW C (some true) q o rest fs k e h = r2 C (kB q.x (C.pol.own C.f) x y) o.dst q rest fs k e := by
 unfold goW mD r2 kB
 rw [hx, hy]
theorem ch (b : Bool) (x y : Option (V × Heap)) : kB false b x y = y := rfl
theorem cg (a : Bool) (x y : Option (V × Heap)) : kB a false x y = y := by cases a <;> rfl
theorem zR (r : V × Heap) (y : Option (V × Heap)) : kB true true (some r) y = some r := rfl
theorem zS (y : Option (V × Heap)) : kB true true none y = y := rfl
theorem lI (o : Oper) : goW C (some false) q o rest fs k e h = goR C q rest fs k (put e o.dst .und) h := rfl
theorem mX (ops : Array Oper) (op : Op) : want ops ⟨dst, op, ty, pos, after, none⟩ e = some true := rfl
variable (g : Option (Nat × Bool))
theorem Wv (x : Operand) : goW C (some true) q ⟨dst, .move x, ty, pos, after, g⟩ rest fs k e h = goR C q rest fs k (put e dst (opv C.P e ty x)) h := (yr C fs k e h q rest (by rfl)).trans rfl
theorem gu (x : Operand) : goW C (some true) q ⟨dst, .assign x, ty, pos, after, g⟩ rest fs k e h = goR C q rest fs k (put e dst (opv C.P e ty x)) h := (yr C fs k e h q rest (by rfl)).trans rfl
theorem Wu (c a b : Operand) : goW C (some true) q ⟨dst, .pick c a b, ty, pos, after, g⟩ rest fs k e h = r1 C (bX (opv C.P e 0 c) (opv C.P e ty a) (opv C.P e ty b)) dst q rest fs k e h := by
 rw [yr C fs k e h q rest (by rfl)]; simp only [r8, zQ, r1, bX]
 cases opv C.P e 0 c with
 | t x => cases x <;> rfl
 | _ => rfl
theorem cI (t : TypeId) : goW C (some true) q ⟨dst, .alloc t, ty, pos, after, g⟩ rest fs k e h = r2 C (pg q.N (zeroOf C.P t) h) dst q rest fs k e := by
 rw [yr C fs k e h q rest (by rfl)]; simp only [r8, zQ, r2, pg]
 cases zeroOf C.P t with
 | none => rfl
 | some zs => rfl
theorem UO (t : TypeId) (x : Operand) : goW C (some true) q ⟨dst, .box t x, ty, pos, after, g⟩ rest fs k e h = r2 C (Jb q.N (z8 (opv C.P e t x)) h) dst q rest fs k e := (yr C fs k e h q rest (by rfl)).trans rfl
def jI (P : Program) (t : TypeId) (ps : List (Nat × V)) : Option V :=
 if yY P t then (match zeroOf P t with
  | some zs => (match tn P t zs ps with | some cs => some (.agg cs) | none => none)
  | none => none) else none
theorem cG (t : TypeId) (l : List (Nat × Operand)) : goW C (some true) q ⟨dst, .build t l.toArray, ty, pos, after, g⟩ rest fs k e h = r1 C (jI C.P t (yW C.P e (fTy C.P t) l)) dst q rest fs k e h := by
 rw [yr C fs k e h q rest (by rfl)]; simp only [r8, zQ, r1, jI]
 cases yY C.P t with
 | false => rfl
 | true => cases zeroOf C.P t with
  | none => rfl
  | some zs => simp only [if_true]; cases tn C.P t zs (yW C.P e (fTy C.P t) l) <;> rfl
def jA (P : Program) (N : Option Nat) (t : TypeId) (len n : Nat) (ps : TypeId → List (Nat × V)) (h : Heap) : Option (V × Heap) :=
 match zM P t with
 | some el => if zx P el = 0 ∨ len * zx P el > 16777216 ∨ n ≠ len ∨ (zeroOf P el).isNone = true then none else
  match wg (zx P el) 0 (ps el) with
  | some css => match xm h css with
   | some (es, h') => some (.sl (nI N h') 0 len (some len), nH N h' (.ts (zx P el) es))
   | none => none
  | none => none
 | none => none
def ym (P : Program) (t : TypeId) (len n : Nat) (ps : TypeId → List (Nat × V)) (h : Heap) : Option (V × Heap) :=
 match zM P t with
 | some el => if zx P el = 0 ∨ len * zx P el > 16777216 ∨ n ≠ len ∨ (zeroOf P el).isNone = true ∨ zx P el = 1 then none else
  match wg (zx P el) 0 (ps el) with
  | some css => some (.sl h.length 0 len (some len), h ++ [.vs (zx P el) css])
  | none => none
 | none => none
theorem rU (t : TypeId) (len : Nat) (l : List (Nat × Operand)) : goW C (some true) q ⟨dst, .buildSlice t len l.toArray, ty, pos, after, g⟩ rest fs k e h =
 r2 C (kB q.x (C.pol.own C.f) (ym C.P t len l.length (fun el => yW C.P e (fun _ => el) l) h) (jA C.P q.N t len l.length (fun el => yW C.P e (fun _ => el) l) h)) dst q rest fs k e :=
 oq C fs k e h q rest (by simp only [yV, ym, List.size_toArray]; rfl) (by simp only [zQ, jA, List.size_toArray]; rfl)
theorem Ww (t : TypeId) (a : Operand) : goW C (some true) q ⟨dst, .load t a, ty, pos, after, g⟩ rest fs k e h = r1 C (load C.P t (opv C.P e 0 a) h) dst q rest fs k e h := by
 rw [yr C fs k e h q rest (by rfl)]; simp only [r8, zQ, r1]; cases load C.P t (opv C.P e 0 a) h <;> rfl
theorem cC (t : TypeId) (a x : Operand) : goW C (some true) q ⟨dst, .store t a x, ty, pos, after, g⟩ rest fs k e h = rh C (store C.P t (opv C.P e 0 a) (opv C.P e t x) h) dst q rest fs k e := by
 rw [yr C fs k e h q rest (by rfl)]; simp only [r8, zQ, rh]; cases store C.P t (opv C.P e 0 a) (opv C.P e t x) h <;> rfl
theorem cH (op : BinOp) (t u : TypeId) (x y : Operand) : goW C (some true) q ⟨dst, .binOp op t x y u, ty, pos, after, g⟩ rest fs k e h = r1 C (zq C.P op t y (opv C.P e t x) (opv C.P e u y)) dst q rest fs k e h := by
 rw [yr C fs k e h q rest (by rfl)]; simp only [r8, zQ, r1]; cases zq C.P op t y (opv C.P e t x) (opv C.P e u y) <;> rfl
theorem Wt (op : UnOp) (t : TypeId) (x : Operand) : goW C (some true) q ⟨dst, .unOp op t x, ty, pos, after, g⟩ rest fs k e h = r1 C (una op (opv C.P e t x)) dst q rest fs k e h := by
 rw [yr C fs k e h q rest (by rfl)]; simp only [r8, zQ, r1]; cases una op (opv C.P e t x) <;> rfl
theorem lA (s d : TypeId) (x : Operand) : goW C (some true) q ⟨dst, .convert s d x, ty, pos, after, g⟩ rest fs k e h = r1 C (conv C.P s d (opv C.P e s x) h) dst q rest fs k e h := by
 rw [yr C fs k e h q rest (by rfl)]; simp only [r8, zQ, r1]; cases conv C.P s d (opv C.P e s x) h <;> rfl
def mkS (P : Program) (N : Option Nat) (t : TypeId) (l c : V) (h : Heap) : Option (V × Heap) :=
 match zM P t, l, c with
 | some el, .t (.int _ n), .t (.int _ m) => match zeroOf P el with
  | some zs => match r9 zs with
   | some z => if zx P el = 0 ∨ n < 0 ∨ n ≠ m ∨ n.toNat * P.bytesOf el > y9 ∨ n.toNat > y9 then none else
    some (.sl (nI N h) 0 n.toNat (some n.toNat), nH N h (.ts (zx P el) (List.replicate n.toNat z)))
   | none => none
  | none => none
 | _, _, _ => none
def mkO (P : Program) (t : TypeId) (l c : V) (h : Heap) : Option (V × Heap) :=
 match zM P t, l, c with
 | some el, .t (.int _ n), .t (.int _ m) => match zeroOf P el with
  | some zs => if zx P el = 0 ∨ n < 0 ∨ n ≠ m ∨ n.toNat * P.bytesOf el > y9 ∨ n.toNat > y9 ∨ ¬ (zs.all zY = true) then none else
   some (.sl h.length 0 n.toNat (some n.toNat), h ++ [.vs (zx P el) (List.replicate n.toNat zs)])
  | none => none
 | _, _, _ => none
theorem py (t : TypeId) (l c : Operand) : goW C (some true) q ⟨dst, .makeSlice t l c, ty, pos, after, g⟩ rest fs k e h =
 r2 C (kB q.x (C.pol.own C.f) (mkO C.P t (opv C.P e 0 l) (opv C.P e 0 c) h) (mkS C.P q.N t (opv C.P e 0 l) (opv C.P e 0 c) h)) dst q rest fs k e :=
 oq C fs k e h q rest rfl rfl
theorem cD (t : TypeId) (x : Operand) (lo hi mx : Option Operand) : goW C (some true) q ⟨dst, .slice t x lo hi mx, ty, pos, after, g⟩ rest fs k e h = r1 C (cut C.P t (opv C.P e t x) (r7 C.P e lo) (r7 C.P e hi) (r7 C.P e mx) h) dst q rest fs k e h := by
 rw [yr C fs k e h q rest (by rfl)]; simp only [r8, zQ, r1]; cases cut C.P t (opv C.P e t x) (r7 C.P e lo) (r7 C.P e hi) (r7 C.P e mx) h <;> rfl
theorem oV (x : Operand) : goW C (some true) q ⟨dst, .nilCheck x, ty, pos, after, g⟩ rest fs k e h = r1 C (fY (opv C.P e 0 x)) dst q rest fs k e h := by
 rw [yr C fs k e h q rest (by rfl)]; simp only [r8, zQ, r1]; cases fY (opv C.P e 0 x) <;> rfl
theorem pA (s : TypeId) (x : Operand) (i : Nat) : goW C (some true) q ⟨dst, .fieldAddr s x i, ty, pos, after, g⟩ rest fs k e h = r1 C (uY C.P s (opv C.P e 0 x) i) dst q rest fs k e h := by
 rw [yr C fs k e h q rest (by rfl)]; simp only [r8, zQ, r1]; cases uY C.P s (opv C.P e 0 x) i <;> rfl
theorem cF (s : TypeId) (x : Operand) (i : Nat) : goW C (some true) q ⟨dst, .field s x i, ty, pos, after, g⟩ rest fs k e h = r1 C (fld C.P s (opv C.P e s x) i) dst q rest fs k e h := by
 rw [yr C fs k e h q rest (by rfl)]; simp only [r8, zQ, r1]; cases fld C.P s (opv C.P e s x) i <;> rfl
theorem pz (t : TypeId) (x i : Operand) : goW C (some true) q ⟨dst, .indexAddr t x i, ty, pos, after, g⟩ rest fs k e h = r1 C (wV C.P t (opv C.P e t x) (opv C.P e 0 i) h) dst q rest fs k e h := by
 rw [yr C fs k e h q rest (by rfl)]; simp only [r8, zQ, r1]; cases wV C.P t (opv C.P e t x) (opv C.P e 0 i) h <;> rfl
theorem cE (t : TypeId) (x i : Operand) : goW C (some true) q ⟨dst, .index t x i, ty, pos, after, g⟩ rest fs k e h = r1 C (UC C.P t (opv C.P e t x) (opv C.P e 0 i)) dst q rest fs k e h := by
 rw [yr C fs k e h q rest (by rfl)]; simp only [r8, zQ, r1, UC]
 cases opv C.P e t x with
 | t a => cases a with
  | str l => cases opv C.P e 0 i with
   | t b => cases b with
    | int kk n => simp only; cases isStr C.P t with
     | false => rfl
     | true => simp only [if_true]; cases ti l n <;> rfl
    | _ => rfl
   | _ => rfl
  | _ => rfl
 | _ => rfl
theorem lz (x : Operand) (i : Nat) : goW C (some true) q ⟨dst, .extract x i, ty, pos, after, g⟩ rest fs k e h = r1 C (UF (opv C.P e 0 x) i) dst q rest fs k e h := by
 rw [yr C fs k e h q rest (by rfl)]; simp only [r8, zQ, r1, UF]
 cases opv C.P e 0 x with
 | tup vs => simp only; cases vs[i]? <;> rfl
 | _ => rfl
def xT (P : Program) (b : Builtin) (args : List V) (tys : List TypeId) (h : Heap) : Option (V × Heap) :=
 match b, args, tys with
 | .append, [s, x], [t, u] => xB P t u s x h
 | .clear, [x], [t] => xr P t x h
 | _, _, _ => none
theorem lB (b : Builtin) (args : List Operand) (tys : List TypeId) : goW C (some true) q ⟨dst, .call ⟨.builtin b, args.toArray, tys.toArray⟩, ty, pos, after, g⟩ rest fs k e h =
 r2 C (kB q.x (C.pol.own C.f) (xT C.P b (yo C.P e args tys) tys h) (blt C.P q.N b tys (yo C.P e args tys) h)) dst q rest fs k e :=
 oq C fs k e h q rest rfl rfl
def xQ (r : Option xD) (h : Heap) : Option (V × Heap) :=
 match r with
 | some (.call v h1) => if yf v && h1.all xy then yL none [] v h1 h else none
 | _ => none
def xR (rc : Rec) (g : Nat) (az : Option (List V)) (h : Heap) : Option (V × Heap) :=
 match az with
 | some az => xQ (rc (.callO false g az [])) h
 | none => none
def xU (r : Option xD) : Option (V × Heap) :=
 match r with
 | some (.call v h1) => some (v, h1)
 | _ => none
def xK (C : Cx) (m : PM) (fv : Option (Nat × List V)) (args : List V) (h : Heap) : Option (V × Heap) :=
 match fv with
 | some (g, caps) => (match m with
  | .brw => xR C.rc g (yl.snapVs h (args ++ caps)) h
  | .all => xU (C.rc (.callO false g (args ++ caps) h))
  | _ => none)
 | none => none
theorem VC (x : Operand) (args : List Operand) (tys : List TypeId) : zQ C.P C.pol C.rc C.f q.N ⟨dst, .call ⟨.value x, args.toArray, tys.toArray⟩, ty, pos, after, g⟩ e h = uE C q.N (C.pol.pm C.f (dst.getD 0)) (fnV (opv C.P e 0 x)) (yo C.P e args tys) h := by
 simp only [zQ, uE]
 cases fnV (opv C.P e 0 x) with
 | none => rfl
 | some y =>
  obtain ⟨g, caps⟩ := y
  simp only [wz]
  cases C.pol.pm C.f (dst.getD 0) with
  | pure => simp only; cases asArg.asArgs (yo C.P e args tys ++ caps) with
   | none => simp only; cases yl.snapVs h (yo C.P e args tys ++ caps) with
    | none => rfl
    | some az => simp only; cases zk C.rc g az <;> rfl
   | some az => simp only; cases zk C.rc g az <;> rfl
  | frz => simp only; cases yz.gives h (yo C.P e args tys ++ caps) with
   | none => rfl
   | some az => simp only; cases zk C.rc g az.1 <;> rfl
  | opn gv =>
   simp only [bY]
   cases C.rc (.callO gv g (ya 0 (yo C.P e args tys ++ caps) h).1 (ya 0 (yo C.P e args tys ++ caps) h).2) with
   | none => rfl
   | some r => cases r <;> rfl
  | brw => rfl
  | all => rfl
theorem VB (x : Operand) (args : List Operand) (tys : List TypeId) : yV C.P C.pol C.rc C.f ⟨dst, .call ⟨.value x, args.toArray, tys.toArray⟩, ty, pos, after, g⟩ e h = xK C (C.pol.pm C.f (dst.getD 0)) (fnV (opv C.P e 0 x)) (yo C.P e args tys) h := by
 simp only [yV, xK]
 cases fnV (opv C.P e 0 x) with
 | none => rfl
 | some y =>
  obtain ⟨g, caps⟩ := y
  simp only
  cases C.pol.pm C.f (dst.getD 0) with
  | brw =>
   simp only [qD, xR, xQ]
   cases yl.snapVs h (yo C.P e args tys ++ caps) <;> rfl
  | _ => rfl
theorem Wy (x : Operand) (args : List Operand) (tys : List TypeId) : goW C (some true) q ⟨dst, .call ⟨.value x, args.toArray, tys.toArray⟩, ty, pos, after, g⟩ rest fs k e h =
 r2 C (kB q.x (C.pol.own C.f) (xK C (C.pol.pm C.f (dst.getD 0)) (fnV (opv C.P e 0 x)) (yo C.P e args tys) h) (uE C q.N (C.pol.pm C.f (dst.getD 0)) (fnV (opv C.P e 0 x)) (yo C.P e args tys) h)) dst q rest fs k e :=
 oq C fs k e h q rest (VB C e h dst ty pos after g x args tys) (VC C e h q dst ty pos after g x args tys)
theorem oW (fn : Nat) (caps : List Operand) : goW C (some true) q ⟨dst, .makeFunc (.func fn) #[] caps.toArray, ty, pos, after, g⟩ rest fs k e h = goR C q rest fs k (put e dst (.fn fn (yo C.P e caps []))) h := (yr C fs k e h q rest (by rfl)).trans rfl
theorem cu (v : V) : r1 C (some v) dst q rest fs k e h = goR C q rest fs k (put e dst v) h := rfl
theorem ct (v : V) : r2 C (some (v, h)) dst q rest fs k e = goR C q rest fs k (put e dst v) h := rfl
theorem cp : rh C (some h) dst q rest fs k e = goR C q rest fs k (put e dst .und) h := rfl
theorem bQ (a b : Code) : cK C (.t (.bool true)) a b p fs k e h = goC C a (2 * p) fs k e h := rfl
theorem fJ (a b : Code) : cK C (.t (.bool false)) a b p fs k e h = goC C b (2 * p + 1) fs k e h := rfl
theorem XH {C : Cx} {b : Bool} {a c : Code} {p : Nat} {fs : List Fr} {k : rf} {e : Env} {h : Heap} {r : Option xD} (ht : b = true → goC C a (2 * p) fs k e h = r) (hf : b = false → goC C c (2 * p + 1) fs k e h = r) : cK C (.t (.bool b)) a c p fs k e h = r := by
 cases b with
 | true => exact ht rfl
 | false => exact hf rfl
theorem b9 (x : Exi) (vals : List V) (outs : List Nat) : lK C (some (.loop x vals h)) outs fs k = goX C fs k x (zb outs vals) h := rfl
theorem fm (res : List ResultVar) : ni C (.call res) .ret e h = fX C.P C.m (wX C.P e h res) h := rfl
theorem pP (res : List ResultVar) : ni C (.call res) .normal e h = fX C.P C.m (wX C.P e h res) h := rfl
theorem lR (gv : Bool) (res : List ResultVar) : ni C (.callO gv res) .ret e h = oK gv C.m (wX C.P e h res) h := rfl
theorem rZ (gv : Bool) (res : List ResultVar) : ni C (.callO gv res) .normal e h = oK gv C.m (wX C.P e h res) h := rfl
theorem nh : ni C (.loop p) .normal e h = C.rc (.loop C.f p C.m (ya C.m ((C.pol.live C.f p).map e) h).1 (ya C.m ((C.pol.live C.f p).map e) h).2) := rfl
theorem lT (id : Nat) : ni C (.loop p) (.exit id) e h = some (.loop (.exit id) (ya C.m ((C.pol.outs C.f p).map e) h).1 (ya C.m ((C.pol.outs C.f p).map e) h).2) := rfl
theorem lS : ni C (.loop p) .ret e h = some (.loop .ret (ya C.m ((C.pol.outs C.f p).map e) h).1 (ya C.m ((C.pol.outs C.f p).map e) h).2) := rfl
end
theorem Wo (e : Env) (d : Nat) (v : V) (t : Nat) : upd e d v t = if t = d then v else e t := rfl
theorem hX (e : Env) (d : Nat) (v : V) : put e (some d) v = upd e d v := rfl
theorem hY (e : Env) (v : V) : put e none v = e := rfl
/-- the machine's equations -/
theorem GO : type_of% bw ∧ type_of% gY ∧ type_of% lN ∧ type_of% gV ∧ type_of% gW ∧ type_of% bx ∧ type_of% gU ∧ type_of% ng ∧ type_of% ch ∧ type_of% cg ∧ type_of% gT ∧ type_of% T1 ∧ type_of% lM ∧ type_of% gQ ∧ type_of% lJ ∧ type_of% bp ∧ type_of% bo ∧ type_of% pN ∧ type_of% rW ∧ type_of% bq ∧ type_of% pO ∧ type_of% rX ∧ type_of% br ∧ type_of% gS ∧ type_of% gR ∧ type_of% lL ∧ type_of% lI ∧ type_of% Wv ∧ type_of% gu ∧ type_of% Wu ∧ type_of% cI ∧ type_of% UO ∧ type_of% cG ∧ type_of% rU ∧ type_of% Ww ∧ type_of% cC ∧ type_of% cH ∧ type_of% Wt ∧ type_of% lA ∧ type_of% py ∧ type_of% cD ∧ type_of% oV ∧ type_of% pA ∧ type_of% cF ∧ type_of% pz ∧ type_of% cE ∧ type_of% lz ∧ type_of% lB ∧ type_of% Wy ∧ type_of% oW ∧ type_of% cu ∧ type_of% ct ∧ type_of% cp ∧ type_of% bQ ∧ type_of% fJ ∧ type_of% b9 ∧ type_of% fm ∧ type_of% pP ∧ type_of% lR ∧ type_of% rZ ∧ type_of% nh ∧ type_of% lT ∧ type_of% lS :=
 ⟨bw, gY, lN, gV, gW, bx, gU, ng, ch, cg, gT, T1, lM, gQ, lJ, bp, bo, pN, rW, bq, pO, rX, br, gS, gR, lL, lI, Wv, gu, Wu, cI, UO, cG, rU, Ww, cC, cH, Wt, lA, py, cD, oV, pA, cF, pz, cE, lz, lB, Wy, oW, cu, ct, cp, bQ, fJ, b9, fm, pP, lR, rZ, nh, lT, lS⟩
end Go.Proofs.YtijninlbpifonaaGreatDoor.E
/- What a law's text needs besides: shapes of arguments, arithmetic in range, the policy's guard. Conditions: those of each lemma. -/
namespace Go.Proofs.YtijninlbpifonaaGreatDoor.E
set_option linter.unusedVariables false
set_option linter.unusedSimpArgs false
def fS (P : Program) (pm : Nat → Nat → PM) (live outs : Nat → Nat → List Nat) (dr : Nat → Bool) (ext : Nat → List V → Option V) (extO : Nat → List V → Heap → Option (V × Heap) := fun _ _ _ => none) (ow : Nat → Bool := fun _ => false) (gh : Nat → Nat → List Gh := fun _ _ => []) (dm : Nat → Nat → Bool := fun _ _ => false) : Pol :=
 let p0 : Pol := ⟨pm, live, outs, fun _ => false, dr, ext, extO, ow, gh, dm⟩
 ⟨pm, live, outs, fun f => match P.funcs[f]? with
  | some fn => match fn.body with
   | some c => !yR (qZ P p0 f) fn.ntmps c
   | none => false
  | none => false, dr, ext, extO, ow, gh, dm⟩
theorem gd {P : Program} {pm : Nat → Nat → PM} {live outs : Nat → Nat → List Nat} {dr : Nat → Bool} {ext : Nat → List V → Option V} {extO : Nat → List V → Heap → Option (V × Heap)} {ow : Nat → Bool} {gh : Nat → Nat → List Gh} {dm : Nat → Nat → Bool} : ∀ f fn c, (fS P pm live outs dr ext extO ow gh dm).no f = false → P.funcs[f]? = some fn → fn.body = some c → yR (qZ P (fS P pm live outs dr ext extO ow gh dm) f) fn.ntmps c = true := by
 intro f fn c h h1 h2
 simp only [fS] at h
 rw [h1] at h
 simp only [h2] at h
 have : yR (qZ P ⟨pm, live, outs, fun _ => false, dr, ext, extO, ow, gh, dm⟩ f) fn.ntmps c = true := by simpa using h
 exact this
variable {P : Program}
theorem WT.Xa {t : TypeId} {cs : List T} (ht : P.underlying t = some .bool) (h : WT P t cs) : ∃ b, cs = [.bool b] := by
 cases h with
 | int _ k' n h hw => rw [ht] at h; cases h
 | bool _ b h => exact ⟨b, rfl⟩
 | str _ l h => rw [ht] at h; cases h
 | list _ e es h => rw [ht] at h; cases h
 | struct _ fs cs h => rw [ht] at h; cases h
theorem WT.sH {t : TypeId} {cs : List T} (ht : P.underlying t = some .string) (h : WT P t cs) : ∃ l, cs = [.str l] ∧ l.length ≤ 9223372036854775807 := by
 cases h with
 | int _ k' n h hw => rw [ht] at h; cases h
 | bool _ b h => rw [ht] at h; cases h
 | str _ l h hl => exact ⟨l, rfl, hl⟩
 | list _ e es h => rw [ht] at h; cases h
 | struct _ fs cs h => rw [ht] at h; cases h
theorem WT.nX {t e : TypeId} {cs : List T} (ht : P.underlying t = some (.slice e)) (h : WT P t cs) : ∃ es, cs = [.list (P.cellsOf e) es] ∧ es.length ≤ 9223372036854775807 ∧ ∀ c ∈ es, WT P e c := by
 cases h with
 | int _ k' n h hw => rw [ht] at h; cases h
 | bool _ b h => rw [ht] at h; cases h
 | str _ l h hl => rw [ht] at h; cases h
 | list _ e es h hl hs => rw [ht] at h; cases h; exact ⟨es, rfl, hl, hs⟩
 | struct _ fs cs h => rw [ht] at h; cases h
theorem WT.rC {t : TypeId} {fs : Array Go.Field} {cs : List T} (ht : P.underlying t = some (.struct fs)) (h : WT P t cs) : cs.length = P.cellsOf t ∧ ∀ f ∈ fs.toList, WT P f.type ((cs.drop f.offset).take (P.cellsOf f.type)) := by
 cases h with
 | int _ k' n h hw => rw [ht] at h; cases h
 | bool _ b h => rw [ht] at h; cases h
 | str _ l h hl => rw [ht] at h; cases h
 | list _ e es h => rw [ht] at h; cases h
 | struct _ fs cs h hl hs => rw [ht] at h; cases h; exact ⟨hl, hs⟩
theorem WTA.VS {xs : List V} (h : WTA P [] xs) : xs = [] := by cases h; rfl
theorem WTA.X9 {t : TypeId} {ts : List TypeId} {xs : List V} (h : WTA P (t :: ts) xs) : ∃ cs v vs, xs = v :: vs ∧ WT P t cs ∧ zd (zF P t) (cs.map .t) = some v ∧ WTA P ts vs := by
 cases h with
 | cons _ _ cs v vs h hp hs => exact ⟨cs, v, vs, rfl, h, hp, hs⟩
theorem zj {x : Int} (h : -9223372036854775808 ≤ x ∧ x ≤ 9223372036854775807) : IntKind.i64.wrap x = x := Go.IntWalk.i64_in x h
/-- the rows' new numbers, step by step -/
def jM : List Nat → Nat → Nat → Option Nat
 | [], _, _ => none
 | x :: xs, r, n => if x = r then some n else jM xs r (n + 1)
theorem bg : ∀ (ids : List Nat) (r n : Nat), jM ids r n = if ids.idxOf r < ids.length then some (ids.idxOf r + n) else none
 | [], r, n => by simp [jM]
 | x :: xs, r, n => by
  simp only [jM]
  by_cases h : x = r
  · subst h; simp
  · rw [if_neg h, bg xs r (n + 1), List.idxOf_cons]
    have : (x == r) = false := by simpa using h
    simp only [this, cond_false, List.length_cons, Nat.add_lt_add_iff_right]
    split
    · congr 1; omega
    · rfl
theorem idx_eq (ids : List Nat) (r : Nat) : idx ids r = jM ids r 0 := by rw [bg]; rfl
def UD (h : Heap) (r : Nat) : Blk := h[r]?.getD .dead
def qB (ids : List Nat) (h : Heap) : List Nat → Heap
 | [] => []
 | r :: rs => zm (idx ids) (UD h r) :: qB ids h rs
theorem ga (ids : List Nat) (h : Heap) : ∀ l : List Nat, qB ids h l = l.map fun r => zm (idx ids) (h[r]?.getD .dead)
 | [] => rfl
 | r :: rs => by simp only [qB, UD, List.map_cons, ga ids h rs]
def o9 (h : Heap) : List Nat → List Nat
 | [] => []
 | r :: rs => yU h r ++ o9 h rs
theorem fK (h : Heap) : ∀ l : List Nat, o9 h l = l.flatMap (yU h)
 | [] => rfl
 | r :: rs => by simp only [o9, List.flatMap_cons, fK h rs]
def vX (h : Heap) : Nat → List Nat → List Nat
 | 0, ids => ids
 | n + 1, ids => vX h n (yv ids (o9 h ids))
theorem sq (h : Heap) : ∀ (n : Nat) (ids : List Nat), vX h n ids = reach h n ids
 | 0, ids => rfl
 | n + 1, ids => by simp only [vX, reach, fK, sq h n]
theorem oU (h : Heap) (args : List V) : x5 h args = vX h 3 (yv [] (refs.refss args)) := (sq h 3 _).symm
def s8 : Nat → Nat → List Nat
 | 0, _ => []
 | n + 1, k => k :: s8 n (k + 1)
theorem lh : ∀ (n k : Nat), s8 n k = List.range' k n
 | 0, k => rfl
 | n + 1, k => by simp only [s8, List.range'_succ, lh n (k + 1)]
def pK (ids : List Nat) (vals : List V) (h : Heap) : List V × Heap := (ren.rens (idx ids) vals, qB ids h ids)
theorem gg (m : Nat) (vals : List V) (h : Heap) : ya m vals h = pK (vX h 3 (yv (s8 m 0) (refs.refss vals))) vals h := by
 unfold ya pK
 simp only [sq, ga, lh, List.range_eq_range']
theorem pK_1 (ids : List Nat) (vals : List V) (h : Heap) : (pK ids vals h).1 = ren.rens (idx ids) vals := rfl
theorem pK_2 (ids : List Nat) (vals : List V) (h : Heap) : (pK ids vals h).2 = qB ids h ids := rfl
theorem lv (t : TypeId) : (Op.alloc t).operands.toList = [] := rfl
theorem gk (x : Operand) : (Op.move x).operands.toList = [x] := rfl
theorem oS (x : Operand) : (Op.assign x).operands.toList = [x] := rfl
theorem cz (t : TypeId) (x : Operand) : (Op.box t x).operands.toList = [x] := rfl
theorem gl (t : TypeId) (x : Operand) : (Op.load t x).operands.toList = [x] := rfl
theorem gi (o : UnOp) (t : TypeId) (x : Operand) : (Op.unOp o t x).operands.toList = [x] := rfl
theorem pw (t u : TypeId) (x : Operand) : (Op.convert t u x).operands.toList = [x] := rfl
theorem rT (x : Operand) : (Op.nilCheck x).operands.toList = [x] := rfl
theorem r4 (t : TypeId) (x : Operand) (i : Nat) : (Op.fieldAddr t x i).operands.toList = [x] := rfl
theorem lq (t : TypeId) (x : Operand) (i : Nat) : (Op.field t x i).operands.toList = [x] := rfl
theorem pt (x : Operand) (i : Nat) : (Op.extract x i).operands.toList = [x] := rfl
theorem gj (c a b : Operand) : (Op.pick c a b).operands.toList = [c, a, b] := rfl
theorem lr (t : TypeId) (l : List (Nat × Operand)) : (Op.build t l.toArray).operands.toList = l.map (·.2) := by simp [Op.operands]
theorem tw (t : TypeId) (n : Nat) (l : List (Nat × Operand)) : (Op.buildSlice t n l.toArray).operands.toList = l.map (·.2) := by simp [Op.operands]
theorem lk (t : TypeId) (x y : Operand) : (Op.store t x y).operands.toList = [x, y] := rfl
theorem lu (o : BinOp) (t u : TypeId) (x y : Operand) : (Op.binOp o t x y u).operands.toList = [x, y] := rfl
theorem sY (t : TypeId) (x y : Operand) : (Op.makeSlice t x y).operands.toList = [x, y] := rfl
theorem sZ (t : TypeId) (x y : Operand) : (Op.indexAddr t x y).operands.toList = [x, y] := rfl
theorem lp (t : TypeId) (x y : Operand) : (Op.index t x y).operands.toList = [x, y] := rfl
theorem ln (t : TypeId) (x : Operand) (lo hi mx : Option Operand) : (Op.slice t x lo hi mx).operands.toList = x :: (lo.toList ++ hi.toList ++ mx.toList) := by cases lo <;> cases hi <;> cases mx <;> rfl
theorem gm (f : Operand) (l : List Operand) (tys : Array TypeId) : (Op.call ⟨.value f, l.toArray, tys⟩).operands.toList = f :: l := by simp [Op.operands, Call.operands]
theorem px (b : Builtin) (l : List Operand) (tys : Array TypeId) : (Op.call ⟨.builtin b, l.toArray, tys⟩).operands.toList = l := by simp [Op.operands, Call.operands]
theorem OPL : type_of% lv ∧ type_of% gk ∧ type_of% oS ∧ type_of% cz ∧ type_of% gl ∧ type_of% gi ∧ type_of% pw ∧ type_of% rT ∧ type_of% r4 ∧ type_of% lq ∧ type_of% pt ∧ type_of% gj ∧ type_of% lr ∧ type_of% tw ∧ type_of% lk ∧ type_of% lu ∧ type_of% sY ∧ type_of% sZ ∧ type_of% lp ∧ type_of% ln ∧ type_of% gm ∧ type_of% px :=
 ⟨lv, gk, oS, cz, gl, gi, pw, rT, r4, lq, pt, gj, lr, tw, lk, lu, sY, sZ, lp, ln, gm, px⟩
/-- guards -/
def sP : List Oper → Nat → Option Nat
 | [], _ => none
 | o :: _, 0 => o.dst
 | _ :: r, n + 1 => sP r n
theorem fw : ∀ (l : List Oper) (j : Nat), sP l j = (l[j]?).bind (·.dst)
 | [], j => by simp [sP]
 | o :: r, 0 => rfl
 | o :: r, j + 1 => by simp [sP, fw r j]
def sJ (v : V) (b : Bool) : Option Bool :=
 match v with
 | .t (.bool c) => some (c == b)
 | .und => some false
 | _ => none
def V1 (d : Option Nat) (b : Bool) (e : Env) : Option Bool :=
 match d with
 | some d => sJ (e d) b
 | none => none
theorem oC (l : List Oper) (dst : Option Nat) (op : Op) (ty : TypeId) (pos : String) (after : Array Edge) (j : Nat) (b : Bool) (e : Env) : want l.toArray ⟨dst, op, ty, pos, after, some (j, b)⟩ e = V1 (sP l j) b e := by
 unfold want V1 sJ
 rw [fw]
 simp only [List.getElem?_toArray]
 cases (l[j]?).bind (·.dst) <;> rfl
theorem oE (d : Nat) (b : Bool) (e : Env) : V1 (some d) b e = sJ (e d) b := rfl
theorem iM : sJ (.t (.bool true)) true = some true := rfl
theorem iN : sJ (.t (.bool true)) false = some false := rfl
theorem iO : sJ (.t (.bool false)) true = some false := rfl
theorem iP : sJ (.t (.bool false)) false = some true := rfl
theorem ca (b : Bool) : sJ .und b = some false := rfl
theorem fg {α : Type} (es : List α) (k : Nat) : ti es (k : Int) = es[k]? := by simp [ti]
theorem vr {α : Type} (es : List α) : ti es 0 = es[0]? := by simp [ti]
theorem zr {pol : Pol} {g : Nat} {args : List V} {v : V} (h : EV P pol (.call g args []) = some (.call v [])) : zk (EV P pol) g args = some v := by
 unfold zk; rw [h]
end Go.Proofs.YtijninlbpifonaaGreatDoor.E
/- Where a walk stands at a test: its two roads. Conditions: those of each lemma. -/
namespace Go.Proofs.YtijninlbpifonaaGreatDoor.E
set_option linter.unusedVariables false
set_option linter.unusedSimpArgs false
section
variable {C : Cx} {a c : Code} {n : Nat} {fs : List Fr} {k : rf} {e : Env} {h : Heap} {r : Option xD} {p : Prop} [Decidable p]
theorem tg {b : Bool} (ht : b = true → goC C a (2 * n) fs k e h = r) (hf : b = false → goC C c (2 * n + 1) fs k e h = r) : cK C (.t (.bool b)) a c n fs k e h = r := XH ht hf
variable {q : Rg} {o : Oper} {rest : List Oper} {w : Bool}
theorem te {b : Bool} (ht : b = true → goW C (sJ (.t (.bool true)) w) q o rest fs k e h = r) (hf : b = false → goW C (sJ (.t (.bool false)) w) q o rest fs k e h = r) : goW C (sJ (.t (.bool b)) w) q o rest fs k e h = r := by
 cases b with
 | true => exact ht rfl
 | false => exact hf rfl
end
/-- what is left of a budget -/
def left (n : Int) (b : Nat) : Int := if n - (b : Int) < 0 then -1 else n - (b : Int)
theorem sG (n : Int) (b : Nat) : (left n b < 0) = (n < (b : Int)) := by unfold left; split <;> simp <;> omega
theorem vR {n : Int} {b : Nat} (h : (b : Int) ≤ n) : left n b = n - (b : Int) := by unfold left; rw [if_neg (by omega)]
theorem aK {x n : Int} {b : Nat} (h : (n < (b : Int) ∧ x = -1) ∨ ((b : Int) ≤ n ∧ x = n - (b : Int))) : some (xD.call (.t (.int .i64 x)) []) = some (xD.call (.t (.int .i64 (left n b))) []) := by
 have : x = left n b := by
  unfold left
  split <;> omega
 rw [this]
theorem rz {x n : Int} {b : Nat} (h : (n < (b : Int) ∧ x = -1) ∨ ((b : Int) ≤ n ∧ x = n - (b : Int))) : xD.call (.t (.int .i64 x)) [] = xD.call (.t (.int .i64 (left n b))) [] := Option.some.inj (aK h)
theorem xg {m n : Nat} (h : m ≤ n) : (m ≤ n) = True := eq_true h
/-- a place in a list, told by what stands ahead of it -/
theorem th {α : Type} (pre : List α) (b : α) (rest : List α) : (pre ++ b :: rest)[pre.length]? = some b := by simp
theorem mi : ∀ l : List T, asArg.asArgs (l.map V.t) = some (l.map V.t)
 | [] => rfl
 | x :: l => by simp only [List.map_cons, asArg.asArgs, asArg, mi l]
theorem jd : ∀ l : List T, refs.refss (l.map V.t) = []
 | [] => rfl
 | x :: l => by simp only [List.map_cons, refs.refss, refs, jd l, List.append_nil]
theorem dF (m : Nat → Option Nat) : ∀ l : List T, ren.rens m (l.map V.t) = l.map V.t
 | [] => rfl
 | x :: l => by simp only [List.map_cons, ren.rens, ren, dF m l]
theorem dV : ∀ l : List T, u5 (l.map V.t) = some l
 | [] => rfl
 | x :: l => by simp only [List.map_cons, u5, dV l]
section
variable {P : Program} {ty : TypeId} {k1 k2 : IntKind} {x y : Int} {h : Heap}
theorem jw {d mx : Nat} (h0 : 0 ≤ x) (h1 : x ≤ (mx : Int)) : ef d mx (some (.t (.int k1 x))) = some x.toNat := by
 simp only [ef]; rw [if_pos ⟨h0, h1⟩]
theorem dP {n : Nat} (h0 : 0 ≤ x) (h1 : x ≤ y) (h2 : y ≤ (n : Int)) : ob n (some (.t (.int k1 x))) (some (.t (.int k2 y))) = some (x.toNat, y.toNat) := by
 unfold ob
 rw [jw (by omega) h2]
 simp only
 rw [jw h0 (by omega)]
theorem dQ {n : Nat} (h0 : 0 ≤ x) (h1 : x ≤ (n : Int)) : ob n (some (.t (.int k1 x))) none = some (x.toNat, n) := by
 unfold ob
 simp only [ef]
 rw [if_pos ⟨h0, h1⟩]
theorem dR {n : Nat} (h0 : 0 ≤ y) (h2 : y ≤ (n : Int)) : ob n none (some (.t (.int k2 y))) = some (0, y.toNat) := by
 unfold ob
 rw [jw h0 h2]
 simp only [ef]
theorem fy {l : List UInt8} (h0 : 0 ≤ x) (h1 : x ≤ y) (h2 : y ≤ (l.length : Int)) : cut P ty (.t (.str l)) (some (.t (.int k1 x))) (some (.t (.int k2 y))) none h = if isStr P ty = true then some (.t (.str ((l.drop x.toNat).take (y.toNat - x.toNat)))) else none := by
 simp only [cut, dP h0 h1 h2, Option.isNone_none, Bool.and_true]
theorem fA {l : List UInt8} (h0 : 0 ≤ x) (h1 : x ≤ (l.length : Int)) : cut P ty (.t (.str l)) (some (.t (.int k1 x))) none none h = if isStr P ty = true then some (.t (.str (l.drop x.toNat))) else none := by
 simp only [cut, dQ h0 h1, Option.isNone_none, Bool.and_true]
 rw [List.take_of_length_le (by simp)]
theorem fB {l : List UInt8} (h0 : 0 ≤ y) (h2 : y ≤ (l.length : Int)) : cut P ty (.t (.str l)) none (some (.t (.int k2 y))) none h = if isStr P ty = true then some (.t (.str (l.take y.toNat))) else none := by
 simp only [cut, dR h0 h2, Option.isNone_none, Bool.and_true, List.drop_zero, Nat.sub_zero]
theorem kf {sz : Nat} {es : List (List T)} (h0 : 0 ≤ x) (h1 : x ≤ y) (h2 : y ≤ (es.length : Int)) : cut P ty (.t (.list sz es)) (some (.t (.int k1 x))) (some (.t (.int k2 y))) none h = match zM P ty with
 | some el => if (sz == zx P el || es.isEmpty) = true then some (.t (.list sz ((es.drop x.toNat).take (y.toNat - x.toNat)))) else none
 | none => none := by
 simp only [cut, dP h0 h1 h2, Option.isNone_none, Bool.and_true]
 cases zM P ty <;> rfl
theorem kg {sz : Nat} {es : List (List T)} (h0 : 0 ≤ x) (h1 : x ≤ (es.length : Int)) : cut P ty (.t (.list sz es)) (some (.t (.int k1 x))) none none h = match zM P ty with
 | some el => if (sz == zx P el || es.isEmpty) = true then some (.t (.list sz (es.drop x.toNat))) else none
 | none => none := by
 have e : (es.drop x.toNat).take (es.length - x.toNat) = es.drop x.toNat := List.take_of_length_le (by simp)
 simp only [cut, dQ h0 h1, Option.isNone_none, Bool.and_true, e]
 cases zM P ty <;> rfl
theorem kh {sz : Nat} {es : List (List T)} (h0 : 0 ≤ y) (h2 : y ≤ (es.length : Int)) : cut P ty (.t (.list sz es)) none (some (.t (.int k2 y))) none h = match zM P ty with
 | some el => if (sz == zx P el || es.isEmpty) = true then some (.t (.list sz (es.take y.toNat))) else none
 | none => none := by
 simp only [cut, dR h0 h2, Option.isNone_none, Bool.and_true, List.drop_zero, Nat.sub_zero]
 cases zM P ty <;> rfl
theorem bG {r off len : Nat} {cap : Option Nat} (h0 : 0 ≤ x) (h1 : x ≤ y) (h2 : y ≤ (len : Int)) : cut P ty (.sl r off len cap) (some (.t (.int k1 x))) (some (.t (.int k2 y))) none h = match zM P ty with
 | some el => if ((h[r]?.bind v8) == some (zx P el)) = true then some (.sl r (off + x.toNat) (y.toNat - x.toNat) (cap.map (· - x.toNat))) else none
 | none => none := by
 simp only [cut, dP h0 h1 h2]
 cases zM P ty <;> rfl
theorem bH {r off len : Nat} {cap : Option Nat} (h0 : 0 ≤ x) (h1 : x ≤ (len : Int)) : cut P ty (.sl r off len cap) (some (.t (.int k1 x))) none none h = match zM P ty with
 | some el => if ((h[r]?.bind v8) == some (zx P el)) = true then some (.sl r (off + x.toNat) (len - x.toNat) (cap.map (· - x.toNat))) else none
 | none => none := by
 simp only [cut, dQ h0 h1]
 cases zM P ty <;> rfl
theorem bI {r off len : Nat} {cap : Option Nat} (h0 : 0 ≤ y) (h2 : y ≤ (len : Int)) : cut P ty (.sl r off len cap) none (some (.t (.int k2 y))) none h = match zM P ty with
 | some el => if ((h[r]?.bind v8) == some (zx P el)) = true then some (.sl r (off + 0) (y.toNat - 0) (cap.map (· - 0))) else none
 | none => none := by
 simp only [cut, dR h0 h2]
 cases zM P ty <;> rfl
theorem oF (n : Nat) : ((n : Int) + 1).toNat = n + 1 := by omega
end
theorem ff {α : Type} (es : List α) : ti es (1 : Int) = es[1]? := rfl
theorem fe {α : Type} (es : List α) : ti es (2 : Int) = es[2]? := rfl
end Go.Proofs.YtijninlbpifonaaGreatDoor.E

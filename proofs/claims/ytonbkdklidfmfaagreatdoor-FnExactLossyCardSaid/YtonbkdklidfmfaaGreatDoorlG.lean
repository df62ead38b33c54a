/- Joined: E13 E14 E15 E16 E17 E18. Conditions: those of each lemma. -/
import Derived.Test.YtonbkdklidfmfaaGreatDoorlF
import Derived.ProofKit
import Derived.ReadAgain
import Derived.ChangeSame
import Derived.IntWalk
set_option linter.unusedVariables false
set_option linter.unusedSimpArgs false
namespace Go.Proofs.YtonbkdklidfmfaaGreatDoor.E
set_option linter.unusedVariables false
set_option linter.unusedSimpArgs false
variable {P : Program} {w : World} {F : Nat → Prop} {ρ : ye} {Ow : Own} {h : Heap}
def exi : Exi → Exit
 | .normal => .normal
 | .exit id => .exit id
 | .ret => .ret
/-- code whose regions' slots lie within the frame -/
def xA (d : Array Oper → Bool) (n : Nat) : Code → Bool
 | .region _ ops draw => pW n ops && (!draw || d ops)
 | .seq a b => xA d n a && xA d n b
 | .cond _ a b => xA d n a && xA d n b
 | .block _ c => xA d n c
 | .loop c => xA d n c
 | _ => true
theorem tg {d : Array Oper → Bool} {n : Nat} : ∀ (ds : List Bool) {c c' : Code}, xA d n c = true → x5 c ds = some c' → xA d n c' = true
 | [], c, c', hc, h => by simp only [x5] at h; cases h; exact hc
 | x :: ds, c, c', hc, h => by
  cases c with
  | seq a b =>
   simp only [x5] at h; simp only [xA, Bool.and_eq_true] at hc
   refine tg ds (c := if x then b else a) ?_ h
   split
   · exact hc.2
   · exact hc.1
  | cond o a b =>
   simp only [x5] at h; simp only [xA, Bool.and_eq_true] at hc
   refine tg ds (c := if x then b else a) ?_ h
   split
   · exact hc.2
   · exact hc.1
  | block id b => simp only [x5] at h; exact tg ds (c := b) hc h
  | loop b => simp only [x5] at h; exact tg ds (c := b) hc h
  | _ => simp [x5] at h
/-- what is known of inner loops -/
def gw (P : Program) (W0 : World) (pol : Pol) (rec : Rec) : Prop :=
 ∀ f p m vals h x outs h', rec (.loop f p m vals h) = some (.loop x outs h') →
  ∃ fn c b, P.funcs[f]? = some fn ∧ fn.body = some c ∧ x5 c (turns p) = some (.loop b) ∧
   (1 ≤ p → xA (ny P pol f) fn.ntmps c = true → ∀ (Ow : Own) (w : World) (F : Nat → Prop) (ρ : ye) (a : Act) (Q : Exit → Act → World → Prop), vv W0 w F → St w F ρ Ow h → OkC Ow w → RVs w F ρ (tn a (pol.live f p)) vals → a.tmps.size = fn.ntmps → a.defers = [] →
    (∀ a' w' F' ρ', RE w' F' ρ' a' (zb (pol.outs f p) outs) → St w' F' ρ' Ow h' → Nxt Ow w F zL w' F' zL → (∀ r l, r < m → ρ r = some l → ρ' r = some l) → a'.tmps.size = fn.ntmps → a'.defers = [] → Q (exi x) a' w') →
    (Code.loop b).wp P Q a w ∧ oI P b Q a w)
theorem Nxt.forget {w1 : World} {F1 : Nat → Prop} {ρ1 ρa : ye} (h : Nxt Ow w F ρ w1 F1 ρ1) (he : Ext ρa ρa) : Nxt Ow w F ρa w1 F1 ρa :=
 ⟨h.os, h.tape, h.output, h.size, h.keep, h.agree, h.grow, h.new, he, fun _ _ => rfl⟩
/-- after code: its exit, slots, rows; the rows' numbers may be others -/
def gy (Ow : Own) (w : World) (F : Nat → Prop) (ρ : ye) (m : Nat) (n : Nat) (x : Exi) (e' : Env) (h' : Heap) (Q : Exit → Act → World → Prop) : Prop :=
 ∀ a' w' F' ρ', RE w' F' ρ' a' e' → St w' F' ρ' Ow h' → Nxt Ow w F zL w' F' zL → (∀ r l, r < m → ρ r = some l → ρ' r = some l) → a'.tmps.size = n → a'.defers = [] → Q (exi x) a' w'
theorem gy.step {w1 : World} {F1 : Nat → Prop} {ρ1 : ye} {m : Nat} {n : Nat} {x : Exi} {e' : Env} {h' : Heap} {Q : Exit → Act → World → Prop} (hK : gy Ow w F ρ m n x e' h' Q) (hN : Nxt Ow w F zL w1 F1 zL) (hx : ∀ r l, r < m → ρ r = some l → ρ1 r = some l) : gy Ow w1 F1 ρ1 m n x e' h' Q :=
 fun a' w' F' ρ' h1 h2 h3 h4 h5 h6 => hK a' w' F' ρ' h1 h2 (hN.trans h3) (fun r l hr hl => h4 r l hr (hx r l hr hl)) h5 h6
theorem ve {W0 : World} {pol : Pol} {rec : Rec} (hrec : w7 P W0 rec) (hloop : gw P W0 pol rec) {f : Nat} {fn : Func} {body : Code} (hf : P.funcs[f]? = some fn) (hbody : fn.body = some body) (hbOK : xA (ny P pol f) fn.ntmps body = true) {m : Nat} :
 ∀ (c : Code) (p : Nat) {w : World} {F : Nat → Prop} {ρ : ye} {h : Heap} {e : Env} {x : Exi} {e' : Env} {h' : Heap} {a : Act} {Q : Exit → Act → World → Prop},
  evC P pol rec f m c p e h = some (x, e', h') → 1 ≤ p → x5 body (turns p) = some c → vv W0 w F → St w F ρ Ow h → OkC Ow w → RE w F ρ a e → a.tmps.size = fn.ntmps → a.defers = [] →
  gy Ow w F ρ m fn.ntmps x e' h' Q → c.wp P Q a w
 | .skip, p, w, F, ρ, h, e, x, e', h', a, Q, hev, hp, hat, hB, hS, hO, he, hn, hd, hQ => by
  simp only [evC] at hev; cases hev
  exact wp_skip (hQ a w F ρ he hS (Nxt.refl _ _ _ _) (fun _ _ _ x => x) hn hd)
 | .exit id, p, w, F, ρ, h, e, x, e', h', a, Q, hev, hp, hat, hB, hS, hO, he, hn, hd, hQ => by
  simp only [evC] at hev; cases hev
  exact wp_exit (hQ a w F ρ he hS (Nxt.refl _ _ _ _) (fun _ _ _ x => x) hn hd)
 | .ret, p, w, F, ρ, h, e, x, e', h', a, Q, hev, hp, hat, hB, hS, hO, he, hn, hd, hQ => by
  simp only [evC] at hev; cases hev
  exact wp_ret (hQ a w F ρ he hS (Nxt.refl _ _ _ _) (fun _ _ _ x => x) hn hd)
 | .seq c1 c2, p, w, F, ρ, h, e, x, e', h', a, Q, hev, hp, hat, hB, hS, hO, he, hn, hd, hQ => by
  simp only [evC] at hev
  have a1 : x5 body (turns (2 * p)) = some c1 := by
   have := vY hp 0 (by omega); simp only [Nat.add_zero] at this
   rw [this, yX _ _ _ _ hat]; rfl
  have a2 : x5 body (turns (2 * p + 1)) = some c2 := by
   rw [vY hp 1 (by omega), yX _ _ _ _ hat]; rfl
  refine wp_seq ?_
  split at hev
  · rename_i e1 h1 h1ev
    refine ve hrec hloop hf hbody hbOK c1 (2 * p) h1ev (by omega) a1 hB hS hO he hn hd fun a' w' F' ρ' k1 k2 k3 kx k4 k5 => ?_
    exact ve hrec hloop hf hbody hbOK c2 (2 * p + 1) hev (by omega) a2 (hB.next k3) k2 (hO.mono k3.size) k1 k4 k5 (hQ.step k3 kx)
  · rename_i hne
    refine ve hrec hloop hf hbody hbOK c1 (2 * p) hev (by omega) a1 hB hS hO he hn hd fun a' w' F' ρ' k1 k2 k3 kx k4 k5 => ?_
    have := hQ a' w' F' ρ' k1 k2 k3 kx k4 k5
    cases x with
    | normal => exact absurd hev (hne e' h')
    | exit id => exact this
    | ret => exact this
 | .cond c c1 c2, p, w, F, ρ, h, e, x, e', h', a, Q, hev, hp, hat, hB, hS, hO, he, hn, hd, hQ => by
  simp only [evC] at hev
  have a1 : x5 body (turns (2 * p)) = some c1 := by
   have := vY hp 0 (by omega); simp only [Nat.add_zero] at this
   rw [this, yX _ _ _ _ hat]; rfl
  have a2 : x5 body (turns (2 * p + 1)) = some c2 := by
   rw [vY hp 1 (by omega), yX _ _ _ _ hat]; rfl
  split at hev
  · rename_i t hc
    have hcv := yU (P := P) he 0 c
    rw [hc] at hcv
    refine wp_cond (t := t) (iE hcv) ?_
    cases t with
    | true => simp only [if_true] at hev ⊢; exact ve hrec hloop hf hbody hbOK c1 (2 * p) hev (by omega) a1 hB hS hO he hn hd hQ
    | false => simp only [Bool.false_eq_true, if_false] at hev ⊢; exact ve hrec hloop hf hbody hbOK c2 (2 * p + 1) hev (by omega) a2 hB hS hO he hn hd hQ
  · cases hev
 | .block id c, p, w, F, ρ, h, e, x, e', h', a, Q, hev, hp, hat, hB, hS, hO, he, hn, hd, hQ => by
  simp only [evC] at hev
  have a1 : x5 body (turns (2 * p)) = some c := by
   have := vY hp 0 (by omega); simp only [Nat.add_zero] at this
   rw [this, yX _ _ _ _ hat]; rfl
  refine wp_block ?_
  split at hev
  · rename_i id' e1 h1 h1ev
    refine ve hrec hloop hf hbody hbOK c (2 * p) h1ev (by omega) a1 hB hS hO he hn hd fun a' w' F' ρ' k1 k2 k3 kx k4 k5 => ?_
    simp only [exi, Exit.inBlock]
    split at hev
    · rename_i hid
      cases hev
      rw [if_pos hid]
      exact hQ a' w' F' ρ' k1 k2 k3 kx k4 k5
    · rename_i hid
      cases hev
      rw [if_neg hid]
      exact hQ a' w' F' ρ' k1 k2 k3 kx k4 k5
  · rename_i hne
    refine ve hrec hloop hf hbody hbOK c (2 * p) hev (by omega) a1 hB hS hO he hn hd fun a' w' F' ρ' k1 k2 k3 kx k4 k5 => ?_
    have := hQ a' w' F' ρ' k1 k2 k3 kx k4 k5
    cases x with
    | normal => exact this
    | exit id' => exact absurd hev (hne id' e' h')
    | ret => exact this
 | .loop b, p, w, F, ρ, h, e, x, e', h', a, Q, hev, hp, hat, hB, hS, hO, he, hn, hd, hQ => by
  simp only [evC] at hev
  split at hev
  · rename_i x' outs h1 hr
    cases hev
    obtain ⟨fn', c', b', f1, f2, f3, f4⟩ := hloop f p m _ _ _ _ _ hr
    rw [hf] at f1; cases f1
    rw [hbody] at f2; cases f2
    rw [hat] at f3; cases f3
    obtain ⟨ρ', k1, k2, kp⟩ := iK (m := m) hS (uF he (pol.live f p))
    exact (f4 hp hbOK Ow w F ρ' a Q hB k2 hO k1 hn hd (hQ.step (Nxt.refl _ _ _ _) fun r l hr hl => (kp r hr).trans hl)).1
  · cases hev
 | .region id ops draw, p, w, F, ρ, h, e, x, e', h', a, Q, hev, hp, hat, hB, hS, hO, he, hn, hd, hQ => by
  simp only [evC] at hev
  split at hev
  · cases hev
  · rename_i hdr
    have hcOK := tg _ hbOK hat
    simp only [xA, Bool.and_eq_true] at hcOK
    obtain ⟨hdst, hdraw⟩ := hcOK
    split at hev
    · rename_i e1 h1 hops
      cases hev
      cases draw with
      | false =>
       simp only [Bool.false_and, Bool.false_eq_true, if_false] at hops
       rw [dp (List.range ops.size) ops.toList e _ (o8 ops)] at hops
       obtain ⟨ρ1, g1, g2⟩ := Td hO.z e (pol.gh f id) hS
       exact wp_region (Ta hrec hdst _ hops hB g1 hO (g2.re he) hn hd fun a' w' F' ρ' k1 k2 k3 k4 k5 => hQ a' w' F' ρ' k1 k2 (k3.forget (Ext.refl _)) (fun r l _ hl => k3.ext r l (g2.ext r l hl)) k4 k5)
      | true =>
       have hdr' : pol.dr f = true := by simpa using hdr
       have hok : oD P ops = true := by simpa [ny, hdr'] using hdraw
       simp only [Bool.true_and, if_true] at hops
       by_cases hc : (pol.own f && pol.dm f id) = true
       · by_cases hall : ops.toList.all (yR pol f) = true
         · simp only [hall, Bool.not_true, Bool.false_eq_true, if_false] at hops
           have hops' : (if !(ops.toList.all (yR pol f)) then r4 P pol rec f ops e h else vA P pol rec f ops ops.toList e h) = some (e', h') := by
            simp only [hall, Bool.not_true, Bool.false_eq_true, if_false]; exact hops
           exact ZF hB hrec hdst hok hops' hS hO he hn hd fun a' w' F' ρ' k1 k2 k3 k4 k5 => hQ a' w' F' ρ' k1 k2 (k3.forget (Ext.refl _)) (fun r l _ hl => k3.ext r l hl) k4 k5
         · simp only [hall, hc, Bool.not_false, if_true] at hops
           exact Va hB hrec hdst hok hops hS hO he hn hd fun a' w' F' ρ' k1 k2 k3 k4 k5 => hQ a' w' F' ρ' k1 k2 (k3.forget (Ext.refl _)) (fun r l _ hl => k3.ext r l hl) k4 k5
       · simp only [hc, Bool.false_eq_true, if_false] at hops
         exact ZF hB hrec hdst hok hops hS hO he hn hd fun a' w' F' ρ' k1 k2 k3 k4 k5 => hQ a' w' F' ρ' k1 k2 (k3.forget (Ext.refl _)) (fun r l _ hl => k3.ext r l hl) k4 k5
    · cases hev
 | .rangeFunc _ _ _ _, p, w, F, ρ, h, e, x, e', h', a, Q, hev, hp, hat, hB, hS, hO, he, hn, hd, hQ => by simp [evC] at hev
 | .scope _, p, w, F, ρ, h, e, x, e', h', a, Q, hev, hp, hat, hB, hS, hO, he, hn, hd, hQ => by simp [evC] at hev
 | .label _, p, w, F, ρ, h, e, x, e', h', a, Q, hev, hp, hat, hB, hS, hO, he, hn, hd, hQ => by simp [evC] at hev
 | .goto _, p, w, F, ρ, h, e, x, e', h', a, Q, hev, hp, hat, hB, hS, hO, he, hn, hd, hQ => by simp [evC] at hev
 | .refuse _, p, w, F, ρ, h, e, x, e', h', a, Q, hev, hp, hat, hB, hS, hO, he, hn, hd, hQ => by simp [evC] at hev
def oB (a : Act) : ResultVar → Sem Value
 | .tmp t => pure (a.tmps.getD t undef)
 | .cell b t => do loadVar t (← asAddr (a.tmps.getD b undef))
theorem iG (hS : St w F ρ Ow h) {a : Act} {e : Env} (he : RE w F ρ a e) : ∀ (rs : List ResultVar) {vs : List V}, vI P e h rs = some vs →
 ∃ us : List Value, (rs.mapM (oB a)).run P w = .ok us w ∧ RVs w F ρ us vs
 | [], vs, hr => by simp only [vI] at hr; cases hr; exact ⟨[], rfl, .nil⟩
 | .tmp t :: rs, vs, hr => by
  simp only [vI] at hr
  split at hr
  · rename_i vs' h1
    cases hr
    obtain ⟨us, e1, e2⟩ := iG hS he rs h1
    refine ⟨a.tmps.getD t undef :: us, ?_, .cons (he t) e2⟩
    have e5 : (oB a (.tmp t)).run P w = .ok (a.tmps.getD t undef) w := rfl
    rw [List.mapM_cons, Sem.run_bind, e5]
    simp only [Result.andThen_ok]
    rw [Sem.run_bind, e1]
    rfl
  · cases hr
 | .cell b t :: rs, vs, hr => by
  simp only [vI] at hr
  split at hr
  · rename_i v hl
    split at hr
    · rename_i vs' h1
      cases hr
      obtain ⟨us, e1, e2⟩ := iG hS he rs h1
      obtain ⟨u, e3, e4⟩ := aW (P := P) hS hl (he b)
      have hptr : ∃ ad, a.tmps.getD b undef = .pointer (some ad) := by
       have hb := he b
       unfold load at hl
       generalize hgx : a.tmps.getD b undef = z at hb
       generalize hge : e b = eb at hb hl
       cases hb with
       | ptr => exact ⟨_, rfl⟩
       | t _ _ hx => cases hx <;> first | exact ⟨_, rfl⟩ | simp at hl
       | _ => simp at hl
      obtain ⟨ad, hptr⟩ := hptr
      refine ⟨u :: us, ?_, .cons e4 e2⟩
      have e3' : (loadVar t ad).run P w = .ok u w := by
       rw [hptr] at e3
       simpa [Instr.loadAt, Instr.sureAddr] using e3
      have e5 : (oB a (.cell b t)).run P w = .ok u w := by simp [oB, hptr, asAddr, e3']
      rw [List.mapM_cons, Sem.run_bind, e5]
      simp only [Result.andThen_ok]
      rw [Sem.run_bind, e1]
      rfl
    · cases hr
  · cases hr
theorem mb (hS : St w F ρ Ow h) {a : Act} {e : Env} (he : RE w F ρ a e) {fn : Func} {vs : List V} (hr : vI P e h fn.results.toList = some vs) : ∃ u, (results fn a.tmps).run P w = .ok u w ∧ RV w F ρ u (zq vs) := by
 obtain ⟨us, e1, e2⟩ := iG hS he fn.results.toList hr
 have hm : (fn.results.mapM (oB a)).run P w = .ok us.toArray w := by
  rw [Array.mapM_eq_mapM_toList, Sem.run_map, e1]; rfl
 have hres : results fn a.tmps = (do let vs ← fn.results.mapM (oB a); pure (if h : vs.size = 1 then vs[0] else .tuple vs)) := by
  unfold results
  congr 2
 rw [hres, Sem.run_bind, hm]
 simp only [Result.andThen_ok, Sem.run_pure]
 refine ⟨_, rfl, ?_⟩
 cases e2 with
 | nil => exact RV.jJ .nil
 | cons h1 h2 =>
  cases h2 with
  | nil => simpa [zq] using h1
  | cons h3 h4 =>
   rw [dif_neg (by simp)]
   simp only [zq]
   exact RV.jJ (.cons h1 (.cons h3 h4))
theorem qn : ∀ (us : List Value) (n : Nat) (pre : List Value) (post : List Value), n = us.length → tn ⟨(pre ++ us ++ post).toArray, []⟩ ((List.range' pre.length n)) = us
 | [], n, pre, post, hn => by subst hn; rfl
 | u :: us, n, pre, post, hn => by
  subst hn
  simp only [List.length_cons, List.range'_succ, tn, List.map_cons]
  have h1 := qn us us.length (pre ++ [u]) post rfl
  simp only [List.length_append, List.length_singleton, tn, List.append_assoc, List.singleton_append, List.cons_append, List.nil_append] at h1
  simp only [List.append_assoc, List.cons_append]
  rw [h1]
  congr 1
  simp [List.getElem?_append_right]
/-- what is shown by other means is so -/
def ExtPK (P : Program) (W0 : World) (pol : Pol) : Prop :=
 ∀ g args v, pol.ext g args = some v →
  (∃ fn, P.funcs[g]? = some fn ∧ (fn.name == "runtime.NumGoroutine") = false ∧ fn.body.isNone = false) ∧
  ∀ (w : World) (F : Nat → Prop) (us : Array Value), vv W0 w F → (∀ b, F b → b < w.heap.size) → RVs w F zL us.toList args →
   Calls P g us w fun e w' => ∃ u F', e = .returned u ∧ RV w' F' zL u v ∧ (∀ b, F' b → b < w'.heap.size) ∧ Nxt (own fun b => w.heap.size ≤ b) w F zL w' F' zL
/-- one function, called with rows of the caller's: shown by other means -/
def qP (P : Program) (W0 : World) (g : Nat) (e : List V → Heap → Option (V × Heap)) : Prop :=
 ∀ args h v h', e args h = some (v, h') →
  (∃ fn, P.funcs[g]? = some fn ∧ (fn.name == "runtime.NumGoroutine") = false ∧ fn.body.isNone = false) ∧
  ∀ (Ow : Own) (w : World) (F : Nat → Prop) (ρ : ye) (us : Array Value), vv W0 w F → St w F ρ Ow h → OkC Ow w → RVs w F ρ us.toList args →
   Calls P g us w fun e w' => ∃ u F' ρ', e = .returned u ∧ RV w' F' ρ' u v ∧ St w' F' ρ' Ow h' ∧ Nxt Ow w F zL w' F' zL ∧ ∀ r l, r < h.length → ρ r = some l → ρ' r = some l
structure lR (P : Program) (W0 : World) (pol : Pol) : Prop where
 p : ExtPK P W0 pol
 o : ∀ g, qP P W0 g (pol.extO g)
theorem TL {W0 : World} {pol : Pol} {rec : Rec} (hE : lR P W0 pol) (hP : ∀ f fn c, pol.no f = false → P.funcs[f]? = some fn → fn.body = some c → xA (ny P pol f) fn.ntmps c = true) (hrec : w7 P W0 rec) (hloop : gw P W0 pol rec) : w7 P W0 (step P pol rec) ∧ gw P W0 pol (step P pol rec) := by
 refine ⟨⟨?_, ?_⟩, ?_⟩
 · intro g args v hs
   simp only [step] at hs
   split at hs
   · rename_i v' hx
     split at hs
     · cases hs; exact hE.p g args _ hx
     · cases hs
   split at hs
   · rename_i fn hf
     split at hs
     · rename_i c hb
       split at hs
       · cases hs
       · rename_i hc
         simp only [Bool.or_eq_true, decide_eq_true_eq, not_or, Bool.not_eq_true, Nat.not_lt] at hc
         obtain ⟨⟨c1, c2⟩, c3⟩ := hc
         refine ⟨⟨fn, hf, c2, by simp [hb]⟩, fun w F us hB hF hu => ?_⟩
         have hul := zP hu
         have hbOK := hP g fn c c1 hf hb
         have hS0 : St w F zL (own fun b => w.heap.size ≤ b) [] := UK hF
         have hE0 : RE w F zL ⟨us ++ Array.replicate (fn.ntmps - us.size) undef, []⟩ (zb (List.range args.length) args) := by
          refine tu _ _ ?_
          have := qn us.toList args.length [] (List.replicate (fn.ntmps - us.size) undef) hul.symm
          simp only [List.length_nil, List.nil_append] at this
          rw [List.range_eq_range']
          have e0 : (⟨us ++ Array.replicate (fn.ntmps - us.size) undef, []⟩ : Act) = ⟨(us.toList ++ List.replicate (fn.ntmps - us.size) undef).toArray, []⟩ := by
           congr 1
           apply Array.ext'
           simp
          rw [e0, this]
          exact hu
         have hn0 : (us ++ Array.replicate (fn.ntmps - us.size) undef).size = fn.ntmps := by simp at hul ⊢; omega
         have finish : ∀ (x : Exi) e' h', (exi x = .normal ∨ exi x = .ret) → (match vI P e' h' fn.results.toList with
          | some vs => match yV h' (zq vs) with
           | some (v, h'') => some (wg.call v (h''.take 0))
           | none => none
          | none => none) = some (.call v []) → evC P pol rec g 0 c 1 (zb (List.range args.length) args) [] = some (x, e', h') →
          Calls P g us w fun e w' => ∃ u F', e = .returned u ∧ RV w' F' zL u v ∧ (∀ b, F' b → b < w'.heap.size) ∧ Nxt (own fun b => w.heap.size ≤ b) w F zL w' F' zL := by
          intro x e' h' hx hfin hev
          refine calls_of_wp hf hb (ve (m := 0) hrec hloop hf hb hbOK c 1 hev (Nat.le_refl _) rfl hB hS0 (OkC.own _ fun b hb => hb) hE0 hn0 rfl fun a' w' F' ρ' k1 k2 k3 kx k4 k5 => ?_)
          split at hfin
          · rename_i vs hvs
            split at hfin
            · rename_i v' h2 hg
              cases hfin
              obtain ⟨u, r1, r2⟩ := mb k2 k1 hvs
              obtain ⟨F2, g1, g2, g3⟩ := iQ zL (zq vs) k2 r2 hg
              have : a'.defers = [] ∧ ∃ v', (results fn a'.tmps).run P w' = .ok v' w' ∧ ∃ u F', Ending.returned v' = .returned u ∧ RV w' F' zL u v ∧ (∀ b, F' b → b < w'.heap.size) ∧ Nxt (own fun b => w.heap.size ≤ b) w F zL w' F' zL :=
               ⟨k5, u, r1, u, F2, rfl, g1, g2.fsz, k3.trans (g3.forget (Ext.refl _))⟩
              rcases hx with hx | hx <;> rw [hx] <;> exact this
            · cases hfin
          · cases hfin
         split at hs
         · rename_i e' h' hev
           exact finish .normal e' h' (.inl rfl) hs hev
         · rename_i e' h' hev
           exact finish .ret e' h' (.inr rfl) hs hev
         · cases hs
     · cases hs
   · cases hs
 · intro gv g args h v h' hs
   simp only [step] at hs
   split at hs
   · rename_i x hx
     cases gv with
     | true => cases hs
     | false =>
      simp only [Bool.false_eq_true, if_false] at hs
      cases hs
      exact hE.o g args h _ _ hx
   split at hs
   · rename_i fn hf
     split at hs
     · rename_i c hb
       split at hs
       · cases hs
       · rename_i hc
         simp only [Bool.or_eq_true, decide_eq_true_eq, not_or, Bool.not_eq_true, Nat.not_lt] at hc
         obtain ⟨⟨c1, c2⟩, c3⟩ := hc
         refine ⟨⟨fn, hf, c2, by simp [hb]⟩, fun Ow w F ρ us hB hS hO hu => ?_⟩
         have hul := zP hu
         have hbOK := hP g fn c c1 hf hb
         have hE0 : RE w F ρ ⟨us ++ Array.replicate (fn.ntmps - us.size) undef, []⟩ (zb (List.range args.length) args) := by
          refine tu _ _ ?_
          have := qn us.toList args.length [] (List.replicate (fn.ntmps - us.size) undef) hul.symm
          simp only [List.length_nil, List.nil_append] at this
          rw [List.range_eq_range']
          have e0 : (⟨us ++ Array.replicate (fn.ntmps - us.size) undef, []⟩ : Act) = ⟨(us.toList ++ List.replicate (fn.ntmps - us.size) undef).toArray, []⟩ := by
           congr 1
           apply Array.ext'
           simp
          rw [e0, this]
          exact hu
         have hn0 : (us ++ Array.replicate (fn.ntmps - us.size) undef).size = fn.ntmps := by simp at hul ⊢; omega
         have finish : ∀ (x : Exi) e' h1, (exi x = .normal ∨ exi x = .ret) → ma gv h.length (vI P e' h1 fn.results.toList) h1 = some (.call v h') → evC P pol rec g h.length c 1 (zb (List.range args.length) args) h = some (x, e', h1) →
          Calls P g us w fun e w' => ∃ u F' ρ', e = .returned u ∧ RV w' F' ρ' u v ∧ St w' F' ρ' Ow h' ∧ Nxt Ow w F zL w' F' zL ∧ ∀ r l, r < h.length → ρ r = some l → ρ' r = some l := by
          intro x e' h1 hx hfin hev
          refine calls_of_wp hf hb (ve (m := h.length) hrec hloop hf hb hbOK c 1 hev (Nat.le_refl _) rfl hB hS hO hE0 hn0 rfl fun a' w' F' ρ' k1 k2 k3 kx k4 k5 => ?_)
          unfold ma at hfin
          split at hfin
          · rename_i vs hvs
            obtain ⟨u, r1, r2⟩ := mb k2 k1 hvs
            cases gv with
            | false =>
             simp only [Bool.false_eq_true, if_false] at hfin
             cases hfin
             have hnd : (reach h1 3 (yS (List.range h.length) (refs.refss vs))).Nodup := sO h1 3 _ (vq _ _ List.nodup_range)
             have hfirst := qp h.length vs h1
             have hS2 := po hnd k2
             have hv : ∀ l : List V, ren (idx (reach h1 3 (yS (List.range h.length) (refs.refss vs)))) (zq l) = zq (ren.rens (idx (reach h1 3 (yS (List.range h.length) (refs.refss vs)))) l) := fun l => by
              match l with
              | [] => rfl
              | [a] => rfl
              | a :: b :: l => rfl
             have : a'.defers = [] ∧ ∃ v', (results fn a'.tmps).run P w' = .ok v' w' ∧ ∃ u F' ρ', Ending.returned v' = .returned u ∧ RV w' F' ρ' u (zq (yl h.length vs h1).1) ∧ St w' F' ρ' Ow (yl h.length vs h1).2 ∧ Nxt Ow w F zL w' F' zL ∧ ∀ r l, r < h.length → ρ r = some l → ρ' r = some l :=
              ⟨k5, u, r1, u, F', ya ρ' _, rfl, by have := Q5 (reach h1 3 (yS (List.range h.length) (refs.refss vs))) _ r2; rw [hv] at this; exact this, hS2, k3, fun r l hr hl => by simp [ya, hfirst r hr, kx r l hr hl]⟩
             rcases hx with hx | hx <;> rw [hx] <;> exact this
            | true =>
             simp only [if_true] at hfin
             split at hfin
             · rename_i v' h2 hg
               cases hfin
               obtain ⟨F2, g1, g2, g3⟩ := iQ zL (zq vs) k2 r2 hg
               have hnd : (reach h2 3 (yS (List.range h.length) (refs.refss []))).Nodup := sO h2 3 _ (vq _ _ List.nodup_range)
               have hfirst := qp h.length [] h2
               have hS2 := po hnd g2
               have : a'.defers = [] ∧ ∃ v', (results fn a'.tmps).run P w' = .ok v' w' ∧ ∃ u F' ρ', Ending.returned v' = .returned u ∧ RV w' F' ρ' u v ∧ St w' F' ρ' Ow (yl h.length [] h2).2 ∧ Nxt Ow w F zL w' F' zL ∧ ∀ r l, r < h.length → ρ r = some l → ρ' r = some l :=
                ⟨k5, u, r1, u, F2, ya ρ' _, rfl, g1.mono (fun _ _ => rfl) (fun _ x => x) (mr _), hS2, k3.trans (g3.forget (Ext.refl _)), fun r l hr hl => by simp [ya, hfirst r hr, kx r l hr hl]⟩
               rcases hx with hx | hx <;> rw [hx] <;> exact this
             · cases hfin
          · cases hfin
         split at hs
         · rename_i e' h1 hev
           exact finish .normal e' h1 (.inl rfl) hs hev
         · rename_i e' h1 hev
           exact finish .ret e' h1 (.inr rfl) hs hev
         · cases hs
     · cases hs
   · cases hs
 · intro f p m vals h x outs h' hs
   simp only [step] at hs
   split at hs
   · rename_i fn hf
     split at hs
     · rename_i c hb
       split at hs
       · rename_i b hat
         refine ⟨fn, c, b, hf, hb, hat, fun hp hbOK Ow w F ρ a Q hB hS hO hv hn hd hQ => ?_⟩
         have hat' : x5 c (turns (2 * p)) = some b := by
          have := vY hp 0 (by omega); simp only [Nat.add_zero] at this
          rw [this, yX _ _ _ _ hat]; rfl
         have body : b.wp P (Exit.then (oI P b Q) Q) a w := by
          split at hs
          · rename_i e1 h1 hev
            refine ve hrec hloop hf hb hbOK b (2 * p) hev (by omega) hat' hB hS hO (tu _ _ hv) hn hd fun a' w' F' ρ' k1 k2 k3 kx k4 k5 => ?_
            obtain ⟨fn2, c2, b2, i1, i2, i3, i4⟩ := hloop f p m _ _ _ _ _ hs
            rw [hf] at i1; cases i1
            rw [hb] at i2; cases i2
            rw [hat] at i3; cases i3
            obtain ⟨ρ2, j1, j2, jp⟩ := iK (m := m) k2 (uF k1 (pol.live f p))
            exact (i4 hp hbOK Ow w' F' ρ2 a' Q (hB.next k3) j2 (hO.mono k3.size) j1 k4 k5 fun a2 w2 F2 ρ2' l1 l2 l3 lx l4 l5 => hQ a2 w2 F2 ρ2' l1 l2 (k3.trans l3) (fun r l hr hl => lx r l hr ((jp r hr).trans (kx r l hr hl))) l4 l5).2
          · rename_i x' e1 h1 hne hev
            cases hs
            refine ve hrec hloop hf hb hbOK b (2 * p) hev (by omega) hat' hB hS hO (tu _ _ hv) hn hd fun a' w' F' ρ' k1 k2 k3 kx k4 k5 => ?_
            obtain ⟨ρ2, j1, j2, jp⟩ := iK (m := m) k2 (uF k1 (pol.outs f p))
            have := hQ a' w' F' ρ2 (tu _ _ j1) j2 k3 (fun r l hr hl => (jp r hr).trans (kx r l hr hl)) k4 k5
            cases x with
            | normal => exact absurd rfl hne
            | exit id => exact this
            | ret => exact this
          · cases hs
         exact ⟨Sd body, cA body⟩
       · cases hs
     · cases hs
   · cases hs
theorem Y8 {W0 : World} {pol : Pol} (hE : lR P W0 pol) (hP : ∀ f fn c, pol.no f = false → P.funcs[f]? = some fn → fn.body = some c → xA (ny P pol f) fn.ntmps c = true) : ∀ n, w7 P W0 (it P pol n) ∧ gw P W0 pol (it P pol n)
 | 0 => ⟨⟨fun g args v hs => by simp [it] at hs, fun gv g args h v h' hs => by simp [it] at hs⟩, fun f p m vals h x outs h' hs => by simp [it] at hs⟩
 | n + 1 => TL hE hP (Y8 hE hP n).1 (Y8 hE hP n).2
end Go.Proofs.YtonbkdklidfmfaaGreatDoor.E
/- The evaluator without a bound on rounds: its answers, its equations. Conditions: those of each lemma. -/
namespace Go.Proofs.YtonbkdklidfmfaaGreatDoor.E
set_option linter.unusedVariables false
set_option linter.unusedSimpArgs false
variable {P : Program} {pol : Pol}
open Classical in
/-- what the evaluator answers, with as many rounds as it takes -/
noncomputable def EV (P : Program) (pol : Pol) : Rec := fun req => if h : ∃ r, ∃ n, it P pol n req = some r then some h.choose else none
def Le (a b : Rec) : Prop := ∀ req r, a req = some r → b req = some r
structure zW {α : Type} (P : Program) (pol : Pol) (G : Rec → Option α) : Prop where
 mono : ∀ a b, Le a b → ∀ r, G a = some r → G b = some r
 cont : (∀ n, Le (it P pol n) (it P pol (n + 1))) → ∀ r, G (EV P pol) = some r → ∃ n, G (it P pol n) = some r
theorem zW.const {α : Type} (x : Option α) : zW P pol (fun _ => x) := ⟨fun _ _ _ _ h => h, fun _ r h => ⟨0, h⟩⟩
theorem Le.le (hm : ∀ n, Le (it P pol n) (it P pol (n + 1))) {n m : Nat} (h : n ≤ m) : Le (it P pol n) (it P pol m) := by
 induction h with
 | refl => exact fun _ _ x => x
 | step _ ih => exact fun req r x => hm _ req r (ih req r x)
theorem zW.req (req : Req) : zW P pol (fun rec => rec req) := by
 refine ⟨fun a b h r hr => h req r hr, fun hm r hr => ?_⟩
 unfold EV at hr
 split at hr
 · rename_i hx
   obtain ⟨n, hn⟩ := hx.choose_spec
   cases hr
   exact ⟨n, hn⟩
 · cases hr
theorem zW.bind {α β : Type} {G : Rec → Option α} {H : α → Rec → Option β} (hG : zW P pol G) (hH : ∀ a, zW P pol (H a)) : zW P pol (fun rec => (G rec).bind fun a => H a rec) := by
 refine ⟨fun a b h r hr => ?_, fun hm r hr => ?_⟩
 · cases hg : G a with
   | none => simp [hg] at hr
   | some x =>
    simp only [hg, Option.bind_some] at hr
    simp only [hG.mono a b h x hg, Option.bind_some]
    exact (hH x).mono a b h r hr
 · cases hg : G (EV P pol) with
   | none => simp [hg] at hr
   | some x =>
    simp only [hg, Option.bind_some] at hr
    obtain ⟨n, hn⟩ := hG.cont hm x hg
    obtain ⟨m, hm'⟩ := (hH x).cont hm r hr
    refine ⟨max n m, ?_⟩
    simp only [hG.mono _ _ (Le.le hm (Nat.le_max_left n m)) x hn, Option.bind_some]
    exact (hH x).mono _ _ (Le.le hm (Nat.le_max_right n m)) r hm'
theorem zW.congr {α : Type} {G G' : Rec → Option α} (h : ∀ rec, G' rec = G rec) (hG : zW P pol G) : zW P pol G' := by
 have : G' = G := funext h
 rw [this]; exact hG
theorem uL (g : Nat) (args : List V) : zW P pol (fun rec => zm rec g args) :=
 (zW.bind (zW.req (.call g args [])) (fun r => zW.const (match r with | .call v [] => some v | _ => none))).congr fun rec => by
  unfold zm
  cases rec (.call g args []) with
  | none => rfl
  | some r => cases r with
   | call v h => cases h <;> rfl
   | loop => rfl
theorem gX (f : Nat) (N : Option Nat) (dst : Option Nat) (g : Nat) (args : List V) (h : Heap) : zW P pol (fun rec => wE pol rec f N dst g args h) := by
 unfold wE
 cases pol.pm f (dst.getD 0) with
 | pure =>
  simp only
  cases asArg.asArgs args with
  | none =>
   simp only
   cases yE.snapVs h args with
   | none => exact zW.const none
   | some az => exact (zW.bind (uL g az) (fun v => zW.const (if zc v then some (v, h) else none))).congr fun rec => by simp only; cases zm rec g az <;> rfl
  | some az => exact (zW.bind (uL g az) (fun v => zW.const (some (v, h)))).congr fun rec => by simp only; cases zm rec g az <;> rfl
 | frz =>
  simp only
  cases yV.gives h args with
  | none => exact zW.const none
  | some x => exact (zW.bind (uL g x.1) (fun v => zW.const (some (v, x.2)))).congr fun rec => by simp only; cases zm rec g x.1 <;> rfl
 | opn gv =>
  show zW P pol (fun rec => (match rec (.callO gv g (yl 0 args h).1 (yl 0 args h).2) with
   | some (.call v h1) => x7 N (xu h args) v h1 h
   | _ => none))
  refine (zW.bind (zW.req (.callO gv g (yl 0 args h).1 (yl 0 args h).2)) (fun r => zW.const (match r with | .call v h1 => x7 N (xu h args) v h1 h | _ => none))).congr fun rec => ?_
  generalize rec (.callO gv g (yl 0 args h).1 (yl 0 args h).2) = x
  cases x with
  | none => rfl
  | some r => cases r <;> rfl
 | brw => exact zW.const none
 | all => exact zW.const none
theorem cT (g : Nat) (args : List V) (h : Heap) : zW P pol (fun rec => pY rec g args h) := by
 unfold pY
 cases yE.snapVs h args with
 | none => exact zW.const none
 | some az =>
  refine (zW.bind (zW.req (.callO false g az [])) (fun r => zW.const (match r with | .call v h1 => (if zM v && h1.all yv then x7 none [] v h1 h else none) | _ => none))).congr fun rec => ?_
  simp only
  generalize rec (.callO false g az []) = x
  cases x with
  | none => rfl
  | some r => cases r <;> rfl
theorem cV (g : Nat) (args : List V) (h : Heap) : zW P pol (fun rec => iA rec g args h) := by
 unfold iA
 refine (zW.bind (zW.req (.callO false g args h)) (fun r => zW.const (match r with | .call v h1 => some (v, h1) | _ => none))).congr fun rec => ?_
 generalize rec (.callO false g args h) = x
 cases x with
 | none => rfl
 | some r => cases r <;> rfl
theorem rC (f : Nat) (N : Option Nat) (o : Oper) (e : Env) (h : Heap) : zW P pol (fun rec => zY P pol rec f N o e h) := by
 obtain ⟨dst, op, ty, pos, after, guard⟩ := o
 cases op with
 | call c =>
  obtain ⟨callee, args, tys⟩ := c
  cases callee with
  | value x =>
   simp only [zY]
   cases fnV (opv P e 0 x) with
   | none => exact zW.const none
   | some y => exact gX f N dst y.1 _ h
  | builtin b => exact zW.const (blt P N b tys.toList (yF P e args.toList tys.toList) h)
  | invoke r m => exact zW.const none
 | makeFunc fn first caps => cases fn <;> exact zW.const _
 | _ => simp only [zY]; exact zW.const _
theorem cJ (f : Nat) (o : Oper) (e : Env) (h : Heap) : zW P pol (fun rec => ub P pol rec f o e h) := by
 unfold ub
 split
 rotate_left
 · exact rC f none o e h
 have old : ∀ {G : Rec → Option (V × Heap)}, (∀ rec, G rec = none) → zW P pol (fun rec => match G rec with | some r => some r | none => zY P pol rec f none o e h) := fun hG =>
  (rC f none o e h).congr fun rec => by rw [hG rec]
 have one : ∀ (x : Option (V × Heap)), zW P pol (fun rec => match x with | some r => some r | none => zY P pol rec f none o e h) := fun x => by
  cases x with
  | none => exact rC f none o e h
  | some r => exact zW.const _
 obtain ⟨dst, op, ty, pos, after, guard⟩ := o
 cases op with
 | buildSlice t len parts => exact one _
 | makeSlice t l c => exact one _
 | call c =>
  obtain ⟨callee, args, tys⟩ := c
  cases callee with
  | builtin b => exact one _
  | invoke r m => exact old fun rec => rfl
  | value x =>
   simp only [xB]
   cases hx : fnV (opv P e 0 x) with
   | none => exact old fun rec => rfl
   | some y =>
    simp only
    cases hp : pol.pm f (dst.getD 0) with
    | brw =>
     refine (cT y.1 (yF P e args.toList tys.toList ++ y.2) h).congr fun rec => ?_
     simp only [zY, hx, wE, hp]
     cases pY rec y.1 (yF P e args.toList tys.toList ++ y.2) h <;> rfl
    | all =>
     refine (cV y.1 (yF P e args.toList tys.toList ++ y.2) h).congr fun rec => ?_
     simp only [zY, hx, wE, hp]
     cases iA rec y.1 (yF P e args.toList tys.toList ++ y.2) h <;> rfl
    | _ => exact old fun rec => rfl
 | _ => exact old fun rec => rfl
theorem nk (f : Nat) (ops : Array Oper) (o : Oper) (e : Env) (h : Heap) : zW P pol (fun rec => vg P pol rec f ops o e h) := by
 unfold vg
 cases want ops o e with
 | none => exact zW.const none
 | some b => cases b with
  | false => exact zW.const _
  | true => exact (zW.bind (cJ f o e h) (fun x => zW.const (some (put e o.dst x.1, x.2)))).congr fun rec => by simp only; cases ub P pol rec f o e h <;> rfl
theorem mJ (f : Nat) (N : Option Nat) (ops : Array Oper) (o : Oper) (e : Env) (h : Heap) : zW P pol (fun rec => sv P pol rec f N ops o e h) := by
 unfold sv
 cases want ops o e with
 | none => exact zW.const none
 | some b => cases b with
  | false => exact zW.const _
  | true => exact (zW.bind (rC f N o e h) (fun x => zW.const (some (put e o.dst x.1, x.2)))).congr fun rec => by simp only; cases zY P pol rec f N o e h <;> rfl
theorem mI (f : Nat) (ops : Array Oper) : ∀ (l : List Oper) (e : Env) (h : Heap), zW P pol (fun rec => qI P pol rec f ops l e h)
 | [], e, h => zW.const _
 | o :: l, e, h => (zW.bind (nk f ops o e h) (fun x => mI f ops l x.1 x.2)).congr fun rec => by simp only [qI]; cases vg P pol rec f ops o e h <;> rfl
theorem nj (f : Nat) (ops : Array Oper) : ∀ (l : List Oper) (e : Env) (h : Heap), zW P pol (fun rec => vA P pol rec f ops l e h)
 | [], e, h => zW.const _
 | o :: l, e, h => (zW.bind (mJ f none ops o e h) (fun x => nj f ops l x.1 x.2)).congr fun rec => by simp only [vA]; cases sv P pol rec f none ops o e h <;> rfl
theorem dq (f : Nat) (ops : Array Oper) : ∀ (Ns : List (Option Nat)) (l : List Oper) (e : Env) (h : Heap), zW P pol (fun rec => evD P pol rec f ops Ns l e h)
 | [], [], e, h => zW.const _
 | [], _ :: _, e, h => zW.const none
 | _ :: _, [], e, h => zW.const none
 | N :: Ns, o :: l, e, h => (zW.bind (mJ f N ops o e h) (fun x => zW.bind (dq f ops Ns l x.1 x.2) (fun y => zW.const (some (xZ N o e h :: y.1, y.2.1, y.2.2))))).congr fun rec => by
  simp only [evD]
  cases sv P pol rec f N ops o e h with
  | none => rfl
  | some x => simp only [Option.bind_some]; cases evD P pol rec f ops Ns l x.1 x.2 <;> rfl
theorem dn (f : Nat) (ops : Array Oper) : ∀ (l : List Oper) (e : Env) (h : Heap), zW P pol (fun rec => evR P pol rec f ops l e h)
 | [], e, h => zW.const _
 | o :: l, e, h => (zW.bind (nk f ops o e h) (fun x => zW.bind (dn f ops l x.1 x.2) (fun y => zW.const (some ((h.length :: yM none o e h) :: y.1, y.2.1, y.2.2))))).congr fun rec => by
  simp only [evR]
  cases vg P pol rec f ops o e h with
  | none => rfl
  | some x => simp only [Option.bind_some]; cases evR P pol rec f ops l x.1 x.2 <;> rfl
theorem V4 (f : Nat) (ops : Array Oper) (e : Env) (h : Heap) : zW P pol (fun rec => evZ P pol rec f ops e h) :=
 (zW.bind (dn f ops ops.toList e h) (fun y => zW.const (if zOK pol f ops y.1 then some (y.2.1, y.2.2) else none))).congr fun rec => by
  unfold evZ
  cases evR P pol rec f ops ops.toList e h <;> rfl
theorem gW (f : Nat) (ops : Array Oper) (e : Env) (h : Heap) : zW P pol (fun rec => r4 P pol rec f ops e h) :=
 (zW.bind (dq f ops (vQ pol f h.length ops.toList) ops.toList e (h ++ List.replicate (vh pol f ops.toList) .dead)) (fun y => zW.const (if dV pol f ops y.1 then some (y.2.1, y.2.2) else none))).congr fun rec => by
  unfold r4
  cases evD P pol rec f ops (vQ pol f h.length ops.toList) ops.toList e (h ++ List.replicate (vh pol f ops.toList) .dead) <;> rfl
theorem vL (f m : Nat) : ∀ (c : Code) (p : Nat) (e : Env) (h : Heap), zW P pol (fun rec => evC P pol rec f m c p e h)
 | .skip, p, e, h => zW.const _
 | .exit _, p, e, h => zW.const _
 | .ret, p, e, h => zW.const _
 | .seq a b, p, e, h => (zW.bind (vL f m a (2 * p) e h) (fun x => (match x with
  | (.normal, e', h') => vL f m b (2 * p + 1) e' h'
  | (.exit id, e', h') => zW.const (some (Exi.exit id, e', h'))
  | (.ret, e', h') => zW.const (some (Exi.ret, e', h')) : zW P pol (fun rec => match x with
  | (.normal, e', h') => evC P pol rec f m b (2 * p + 1) e' h'
  | (.exit id, e', h') => some (.exit id, e', h')
  | (.ret, e', h') => some (.ret, e', h'))))).congr fun rec => by
   simp only [evC]
   cases evC P pol rec f m a (2 * p) e h with
   | none => rfl
   | some x => obtain ⟨x, e', h'⟩ := x; cases x <;> rfl
 | .cond c a b, p, e, h => by
  simp only [evC]
  split
  · rename_i t ht
    cases t with
    | true => exact vL f m a (2 * p) e h
    | false => exact vL f m b (2 * p + 1) e h
  · exact zW.const none
 | .block id c, p, e, h => (zW.bind (vL f m c (2 * p) e h) (fun x => zW.const (match x with
  | (.exit id', e', h') => if id' = id then some (.normal, e', h') else some (.exit id', e', h')
  | r => some r))).congr fun rec => by
   simp only [evC]
   cases evC P pol rec f m c (2 * p) e h with
   | none => rfl
   | some x => obtain ⟨x, e', h'⟩ := x; cases x <;> rfl
 | .loop _, p, e, h => (zW.bind (zW.req (.loop f p m (yl m ((pol.live f p).map e) h).1 (yl m ((pol.live f p).map e) h).2)) (fun x => zW.const (match x with
  | .loop x vals h' => some (x, zb (pol.outs f p) vals, h')
  | _ => none))).congr fun rec => by
   simp only [evC]
   cases rec (.loop f p m (yl m ((pol.live f p).map e) h).1 (yl m ((pol.live f p).map e) h).2) with
   | none => rfl
   | some x => cases x <;> rfl
 | .region id ops draw, p, e, h => by
  simp only [evC]
  split
  · exact zW.const none
  · split
    · split
      · exact (zW.bind (V4 f ops e h) (fun x => zW.const (some (Exi.normal, x.1, x.2)))).congr fun rec => by cases evZ P pol rec f ops e h <;> rfl
      · exact (zW.bind (gW f ops e h) (fun x => zW.const (some (Exi.normal, x.1, x.2)))).congr fun rec => by cases r4 P pol rec f ops e h <;> rfl
    · split
      · exact (zW.bind (nj f ops ops.toList e h) (fun x => zW.const (some (Exi.normal, x.1, x.2)))).congr fun rec => by cases vA P pol rec f ops ops.toList e h <;> rfl
      · exact (zW.bind (mI f ops ops.toList e (ghH (pol.gh f id) e h)) (fun x => zW.const (some (Exi.normal, x.1, x.2)))).congr fun rec => by cases qI P pol rec f ops ops.toList e (ghH (pol.gh f id) e h) <;> rfl
 | .rangeFunc _ _ _ _, p, e, h => zW.const _
 | .scope _, p, e, h => zW.const _
 | .label _, p, e, h => zW.const _
 | .goto _, p, e, h => zW.const _
 | .refuse _, p, e, h => zW.const _
theorem kr (req : Req) : zW P pol (fun rec => step P pol rec req) := by
 cases req with
 | call f args h =>
  simp only [step]
  cases pol.ext f args with
  | some v => exact zW.const _
  | none =>
  simp only
  cases P.funcs[f]? with
  | none => exact zW.const none
  | some fn =>
   simp only
   cases fn.body with
   | none => exact zW.const none
   | some c =>
    simp only
    split
    · exact zW.const none
    · refine (zW.bind (vL f h.length c 1 (zb (List.range args.length) args) h) (fun x => zW.const (match x with
       | (.normal, e', h') => (match vI P e' h' fn.results.toList with
        | some vs => match yV h' (zq vs) with
         | some (v, h'') => some (wg.call v (h''.take h.length))
         | none => none
        | none => none)
       | (.ret, e', h') => (match vI P e' h' fn.results.toList with
        | some vs => match yV h' (zq vs) with
         | some (v, h'') => some (wg.call v (h''.take h.length))
         | none => none
        | none => none)
       | _ => none))).congr fun rec => ?_
      cases evC P pol rec f h.length c 1 (zb (List.range args.length) args) h with
      | none => rfl
      | some x => obtain ⟨x, e', h'⟩ := x; cases x <;> rfl
 | callO gv f args h =>
  simp only [step]
  cases pol.extO f args h with
  | some x => exact zW.const _
  | none =>
  simp only
  cases P.funcs[f]? with
  | none => exact zW.const none
  | some fn =>
   simp only
   cases fn.body with
   | none => exact zW.const none
   | some c =>
    simp only
    split
    · exact zW.const none
    · refine (zW.bind (vL f h.length c 1 (zb (List.range args.length) args) h) (fun x => zW.const (match x with
       | (.normal, e', h') => ma gv h.length (vI P e' h' fn.results.toList) h'
       | (.ret, e', h') => ma gv h.length (vI P e' h' fn.results.toList) h'
       | _ => none))).congr fun rec => ?_
      cases evC P pol rec f h.length c 1 (zb (List.range args.length) args) h with
      | none => rfl
      | some x => obtain ⟨x, e', h'⟩ := x; cases x <;> rfl
 | loop f p m vals h =>
  simp only [step]
  cases P.funcs[f]? with
  | none => exact zW.const none
  | some fn =>
   simp only
   cases fn.body with
   | none => exact zW.const none
   | some c =>
    simp only
    split
    · rename_i b hb
      refine (zW.bind (vL f m b (2 * p) (zb (pol.live f p) vals) h) (fun x => (match x with
       | (.normal, e', h') => zW.req (.loop f p m (yl m ((pol.live f p).map e') h').1 (yl m ((pol.live f p).map e') h').2)
       | (.exit id, e', h') => zW.const (some (wg.loop (.exit id) (yl m ((pol.outs f p).map e') h').1 (yl m ((pol.outs f p).map e') h').2))
       | (.ret, e', h') => zW.const (some (wg.loop .ret (yl m ((pol.outs f p).map e') h').1 (yl m ((pol.outs f p).map e') h').2)) : zW P pol (fun rec => match x with
       | (.normal, e', h') => rec (.loop f p m (yl m ((pol.live f p).map e') h').1 (yl m ((pol.live f p).map e') h').2)
       | (.exit id, e', h') => some (.loop (.exit id) (yl m ((pol.outs f p).map e') h').1 (yl m ((pol.outs f p).map e') h').2)
       | (.ret, e', h') => some (.loop .ret (yl m ((pol.outs f p).map e') h').1 (yl m ((pol.outs f p).map e') h').2))))).congr fun rec => ?_
      cases evC P pol rec f m b (2 * p) (zb (pol.live f p) vals) h with
      | none => rfl
      | some x => obtain ⟨x, e', h'⟩ := x; cases x <;> rfl
    · exact zW.const none
theorem pL : ∀ n, Le (it P pol n) (it P pol (n + 1))
 | 0 => fun req r h => by simp [it] at h
 | n + 1 => fun req r h => (kr req).mono _ _ (pL n) r h
theorem EV_of {n : Nat} {req : Req} {r : wg} (h : it P pol n req = some r) : EV P pol req = some r := by
 unfold EV
 have hx : ∃ r, ∃ n, it P pol n req = some r := ⟨r, n, h⟩
 rw [dif_pos hx]
 obtain ⟨m, hm⟩ := hx.choose_spec
 have h1 := Le.le pL (Nat.le_max_left n m) req r h
 have h2 := Le.le pL (Nat.le_max_right n m) req _ hm
 rw [h1] at h2
 exact h2.symm
theorem RW {req : Req} {r : wg} (h : EV P pol req = some r) : ∃ n, it P pol n req = some r := (zW.req req).cont pL r h
/-- one step from the evaluator's own answers -/
theorem pQ {req : Req} {r : wg} (h : step P pol (EV P pol) req = some r) : EV P pol req = some r := by
 obtain ⟨n, hn⟩ := (kr req).cont pL r h
 exact EV_of (n := n + 1) hn
/-- what is shown by other means -/
theorem lI {g : Nat} {args : List V} {v : V} (h : pol.ext g args = some v) : EV P pol (.call g args []) = some (.call v []) := by
 apply pQ
 simp [step, h]
theorem gb {g : Nat} {args : List V} {h : Heap} {x : V × Heap} (hx : pol.extO g args h = some x) : EV P pol (.callO false g args h) = some (.call x.1 x.2) := by
 apply pQ
 simp [step, hx]
theorem Rc {W0 : World} (hE : lR P W0 pol) (hP : ∀ f fn c, pol.no f = false → P.funcs[f]? = some fn → fn.body = some c → xA (ny P pol f) fn.ntmps c = true) {g : Nat} {args : List V} {v : V} (h : EV P pol (.call g args []) = some (.call v [])) :
 ∀ (w : World) (F : Nat → Prop) (us : Array Value), vv W0 w F → (∀ b, F b → b < w.heap.size) → RVs w F zL us.toList args →
  Calls P g us w fun e w' => ∃ u F', e = .returned u ∧ RV w' F' zL u v ∧ (∀ b, F' b → b < w'.heap.size) ∧ Nxt (own fun b => w.heap.size ≤ b) w F zL w' F' zL := by
 obtain ⟨n, hn⟩ := RW h
 exact ((Y8 hE hP n).1.clo g args v hn).2
theorem lC {W0 : World} (hE : lR P W0 pol) (hP : ∀ f fn c, pol.no f = false → P.funcs[f]? = some fn → fn.body = some c → xA (ny P pol f) fn.ntmps c = true) {gv : Bool} {g : Nat} {args : List V} {h h' : Heap} {v : V} (hv : EV P pol (.callO gv g args h) = some (.call v h')) :
 (∃ fn, P.funcs[g]? = some fn ∧ (fn.name == "runtime.NumGoroutine") = false ∧ fn.body.isNone = false) ∧
 ∀ (Ow : Own) (w : World) (F : Nat → Prop) (ρ : ye) (us : Array Value), vv W0 w F → St w F ρ Ow h → OkC Ow w → RVs w F ρ us.toList args →
  Calls P g us w fun e w' => ∃ u F' ρ', e = .returned u ∧ RV w' F' ρ' u v ∧ St w' F' ρ' Ow h' ∧ Nxt Ow w F zL w' F' zL ∧ ∀ r l, r < h.length → ρ r = some l → ρ' r = some l := by
 obtain ⟨n, hn⟩ := RW hv
 exact (Y8 hE hP n).1.opn gv g args h v h' hn
end Go.Proofs.YtonbkdklidfmfaaGreatDoor.E
/- From the evaluator's answer to a law's row: what is read as data is what the evaluator works on. Conditions: those of each lemma. -/
namespace Go.Proofs.YtonbkdklidfmfaaGreatDoor.E
set_option linter.unusedVariables false
set_option linter.unusedSimpArgs false
/-- cells of a type -/
inductive WT (P : Program) : TypeId → List T → Prop
 | int (t : TypeId) (k : IntKind) (n : Int) (h : P.underlying t = some (.int k)) (hw : (Lit.int k n).wf = true) : WT P t [.int k n]
 | bool (t : TypeId) (b : Bool) (h : P.underlying t = some .bool) : WT P t [.bool b]
 | str (t : TypeId) (l : List UInt8) (h : P.underlying t = some .string) (hl : l.length ≤ maxLen) : WT P t [.str l]
 | list (t e : TypeId) (es : List (List T)) (h : P.underlying t = some (.slice e)) (hl : es.length ≤ maxLen) (hs : ∀ c ∈ es, WT P e c) : WT P t [.list (P.cellsOf e) es]
 | struct (t : TypeId) (fs : Array Go.Field) (cs : List T) (h : P.underlying t = some (.struct fs)) (hl : cs.length = P.cellsOf t)
  (hs : ∀ f ∈ fs.toList, WT P f.type ((cs.drop f.offset).take (P.cellsOf f.type))) : WT P t cs
inductive WTA (P : Program) : List TypeId → List V → Prop
 | nil : WTA P [] []
 | cons (t : TypeId) (ts : List TypeId) (cs : List T) (v : V) (vs : List V) (h : WT P t cs) (hp : zd (zS P t) (cs.map .t) = some v) (hs : WTA P ts vs) : WTA P (t :: ts) (v :: vs)
/-- fields one behind the other -/
def iw (P : Program) (size : Nat) : Nat → List Go.Field → Bool
 | o, [] => o == size
 | o, f :: fs => f.offset == o && iw P size (o + P.cellsOf f.type) fs
/-- a closed set of plain types -/
def nG (P : Program) (l : List TypeId) : Bool := l.all fun t => match P.underlying t with
 | some (.int _) | some .bool | some .string => P.cellsOf t == 1
 | some (.slice e) => l.contains e && decide (0 < P.cellsOf e) && P.cellsOf t == 1
 | some (.struct fs) => (fs.toList.all fun f => l.contains f.type) && iw P (P.cellsOf t) 0 fs.toList
 | _ => false
theorem mapM_some {α β : Type} {f : α → Option β} : ∀ {l : List α} {r : List β}, l.mapM f = some r → r.length = l.length ∧ ∀ (i : Nat) (x : α), l[i]? = some x → ∃ y, r[i]? = some y ∧ f x = some y
 | [], r, h => by simp at h; subst h; exact ⟨rfl, fun i x hi => by simp at hi⟩
 | a :: l, r, h => by
  rw [List.mapM_cons] at h
  cases ha : f a with
  | none => simp [ha] at h
  | some b =>
   cases hl : l.mapM f with
   | none => simp [ha, hl] at h
   | some r' =>
    simp [ha, hl] at h
    subst h
    obtain ⟨h1, h2⟩ := mapM_some hl
    refine ⟨by simp [h1], fun i x hi => ?_⟩
    cases i with
    | zero => simp at hi; subst hi; exact ⟨b, rfl, ha⟩
    | succ i => exact h2 i x (by simpa using hi)
theorem s8 {w : World} {base : Nat} {a : Addr} {n : Nat} {cs : List Value} (h : w.cells? base a n = some cs) : cs.length = n ∧ ∀ j, j < n → ∃ u, cs[j]? = some u ∧ w.cell? (a.add j) = some u := by
 unfold World.cells? at h
 split at h
 · obtain ⟨h1, h2⟩ := mapM_some h
   refine ⟨by simpa using h1, fun j hj => ?_⟩
   obtain ⟨u, e1, e2⟩ := h2 j j (by simp [hj])
   exact ⟨u, e1, e2⟩
 · cases h
variable {P : Program} {w : World} {H : Type} {enc : TypeId × Value → H}
theorem S1 {l : List TypeId} (ho : nG P l = true) {t : TypeId} (ht : t ∈ l) : (match P.underlying t with
 | some (.int _) | some .bool | some .string => P.cellsOf t == 1
 | some (.slice e) => l.contains e && decide (0 < P.cellsOf e) && P.cellsOf t == 1
 | some (.struct fs) => (fs.toList.all fun f => l.contains f.type) && iw P (P.cellsOf t) 0 fs.toList
 | _ => false) = true := List.all_eq_true.1 ho t ht
theorem jm {size : Nat} {cs : List Value} (hcs : cs.length = size) : ∀ (fs : List Go.Field) (o : Nat), iw P size o fs = true →
 (∀ f ∈ fs, ∃ ts, RTs w (fun b => b < w.heap.size) ((cs.drop f.offset).take (P.cellsOf f.type)) ts ∧ WT P f.type ts) →
 o ≤ size ∧ ∃ ts, RTs w (fun b => b < w.heap.size) (cs.drop o) ts ∧ ∀ f ∈ fs, o ≤ f.offset ∧ WT P f.type ((ts.drop (f.offset - o)).take (P.cellsOf f.type))
 | [], o, hr, _ => by
  simp only [iw, beq_iff_eq] at hr
  subst hr
  exact ⟨Nat.le_refl _, [], by rw [List.drop_of_length_le (by omega)]; exact .nil, fun f hf => by cases hf⟩
 | f :: fs, o, hr, he => by
  simp only [iw, Bool.and_eq_true, beq_iff_eq] at hr
  obtain ⟨rfl, hr⟩ := hr
  obtain ⟨k1, ts', k2, k3⟩ := jm hcs fs _ hr (fun g hg => he g (by simp [hg]))
  obtain ⟨tf, t1, t2⟩ := he f (by simp)
  have hlen : tf.length = P.cellsOf f.type := by rw [← zP t1]; simp; omega
  refine ⟨by omega, tf ++ ts', ?_, fun g hg => ?_⟩
  · have := yZ t1 k2
    rwa [← List.drop_drop, List.take_append_drop] at this
  · rcases List.mem_cons.1 hg with rfl | hg
    · refine ⟨Nat.le_refl _, ?_⟩
      rw [Nat.sub_self, List.drop_zero, List.take_append_of_le_length (by omega), List.take_of_length_le (by omega)]
      exact t2
    · obtain ⟨g1, g2⟩ := k3 g hg
      refine ⟨by omega, ?_⟩
      have e1 : (tf ++ ts').drop (g.offset - f.offset) = ts'.drop (g.offset - (f.offset + P.cellsOf f.type)) := by
       rw [List.drop_append, List.drop_of_length_le (by omega), List.nil_append]
       congr 1; omega
      rw [e1]; exact g2
theorem TH {l : List TypeId} (ho : nG P l = true) {spare : Nat → Bool} {held : Bool} {base : Nat} : ∀ (n : Nat) (t : TypeId), t ∈ l → ∀ (cs : List Value) (x : DataW H × List MemPlace), DataW.trod enc P w base spare held n t cs = some x →
 ∃ ts : List T, RTs w (fun b => b < w.heap.size) cs ts ∧ WT P t ts := by
 intro n
 induction n with
 | zero => intro t _ cs x h; simp [DataW.trod] at h
 | succ n ih =>
  intro t ht cs x h
  have hok := S1 ho ht
  unfold DataW.trod at h
  split at h
  · rename_i b hu
    exact ⟨[.bool b], .cons (.bool b) .nil, .bool t b hu⟩
  · rename_i k k' m hu
    split at h
    · rename_i hk
      obtain ⟨rfl, hw⟩ := hk
      exact ⟨[.int k' m], .cons (.int k' m) .nil, .int t k' m hu hw⟩
    · cases h
  · rename_i hu; rw [hu] at hok; cases hok
  · rename_i s hu
    split at h
    · rename_i hs
      exact ⟨[.str s.data.toList], .cons (.str s _ rfl) .nil, .str t _ hu (by simpa using hs)⟩
    · cases h
  · rename_i hu; rw [hu] at hok; cases hok
  · rename_i hu; rw [hu] at hok; cases hok
  · rename_i e hu
    refine ⟨[.list (P.cellsOf e) []], .cons (vw _ none _) .nil, .list t e [] hu (Nat.zero_le _) (fun c hc => by cases hc)⟩
  · rename_i e ad len cap hu
    rw [hu] at hok
    simp only [Bool.and_eq_true, List.contains_iff_mem, decide_eq_true_eq] at hok
    obtain ⟨⟨he, hpos⟩, hone⟩ := hok
    split at h
    · rename_i hc
      cases hm : (List.range len).mapM fun i => (w.cells? base (ad.add (i * P.cellsOf e)) (P.cellsOf e)).bind (DataW.trod enc P w base spare held n e) with
      | none => simp [hm] at h
      | some elems =>
       obtain ⟨m1, m2⟩ := mapM_some hm
       have each : ∀ i, i < len → ∃ (csi : List Value) (tsi : List T), w.cells? base (ad.add (i * P.cellsOf e)) (P.cellsOf e) = some csi ∧ RTs w (fun b => b < w.heap.size) csi tsi ∧ WT P e tsi := fun i hi => by
        obtain ⟨y, _, hy⟩ := m2 i i (by simp [hi])
        cases hcs : w.cells? base (ad.add (i * P.cellsOf e)) (P.cellsOf e) with
        | none => simp [hcs] at hy
        | some csi =>
         simp [hcs] at hy
         obtain ⟨tsi, t1, t2⟩ := ih e he csi y hy
         exact ⟨csi, tsi, rfl, t1, t2⟩
       have hex : ∃ f : Nat → List T, ∀ i, i < len → ∃ csi : List Value, w.cells? base (ad.add (i * P.cellsOf e)) (P.cellsOf e) = some csi ∧ RTs w (fun b => b < w.heap.size) csi (f i) ∧ WT P e (f i) :=
        ⟨fun i => if hi : i < len then (each i hi).choose_spec.choose else [], fun i hi => by
         simp only [hi, dif_pos]
         exact ⟨(each i hi).choose, (each i hi).choose_spec.choose_spec⟩⟩
       obtain ⟨f, hf⟩ := hex
       refine ⟨[.list (P.cellsOf e) ((List.range len).map f)], .cons ?_ .nil, .list t e _ hu (by simp; omega) (fun c hc => ?_)⟩
       · refine .list (some ad) len cap (P.cellsOf e) _ (fun i j => (w.cell? ((ad.add (i * P.cellsOf e)).add j)).getD undef) (by simp) hc.2.1 (fun hp => ?_) (fun c hc => ?_) (fun i j cs x hi hj => ?_)
         · obtain ⟨csi, e1, e2, e3⟩ := hf 0 hp
           obtain ⟨c1, c2⟩ := s8 e1
           obtain ⟨u, u1, u2⟩ := c2 0 hpos
           have hadd0 : (ad.add (0 * P.cellsOf e)).add 0 = ad := by simp [Addr.add]
           rw [hadd0] at u2
           obtain ⟨b, o, spot⟩ := ad
           have hspot : spot = none := by
            cases spot with
            | none => rfl
            | some s => unfold World.cell? at u2; split at u2 <;> simp at u2
           subst hspot
           refine ⟨b, o, rfl, ?_, fun i j hi hj => ?_⟩
           · unfold World.cell? at u2
             split at u2
             · rename_i hh; exact (Array.getElem?_eq_some_iff.1 hh).1
             · cases u2
           · obtain ⟨csi, e1, e2, e3⟩ := hf i hi
             obtain ⟨c1, c2⟩ := s8 e1
             obtain ⟨u, u1, u2⟩ := c2 j hj
             simp only [Addr.add_mid] at u2 ⊢
             rw [u2, show o + (i * P.cellsOf e + j) = o + i * P.cellsOf e + j by omega, u2]
             rfl
         · simp only [List.mem_map, List.mem_range] at hc
           obtain ⟨i, hi, rfl⟩ := hc
           obtain ⟨csi, e1, e2, e3⟩ := hf i hi
           rw [← zP e2]; exact (s8 e1).1
         · have hil : i < len := by have := (List.getElem?_eq_some_iff.1 hi).1; simpa using this
           simp [hil] at hi
           subst hi
           obtain ⟨csi, e1, e2, e3⟩ := hf i hil
           obtain ⟨c1, c2⟩ := s8 e1
           obtain ⟨u, u1, u2⟩ := ym e2 j x hj
           have hjl : j < P.cellsOf e := by rw [← c1]; exact (List.getElem?_eq_some_iff.1 u1).1
           obtain ⟨u', u3, u4⟩ := c2 j hjl
           rw [u1] at u3; cases u3
           rw [u4]; exact u2
       · simp only [List.mem_map, List.mem_range] at hc
         obtain ⟨i, hi, rfl⟩ := hc
         exact (hf i hi).choose_spec.2.2
    · cases h
  · rename_i cs _ _ fs hu
    rw [hu] at hok
    simp only [List.all_eq_true, Bool.and_eq_true, List.contains_iff_mem] at hok
    obtain ⟨hmem, hrow⟩ := hok
    split at h
    · rename_i hl
      cases hm : fs.toList.mapM fun f => DataW.trod enc P w base spare held n f.type ((cs.drop f.offset).take (P.cellsOf f.type)) with
      | none => simp [hm] at h
      | some xs =>
       obtain ⟨_, m2⟩ := mapM_some hm
       obtain ⟨_, ts, t1, t2⟩ := jm hl fs.toList 0 hrow fun f hf => by
        obtain ⟨i, hi⟩ := List.mem_iff_getElem?.1 hf
        obtain ⟨y, _, hy⟩ := m2 i f hi
        exact ih f.type (hmem f hf) _ y hy
       simp only [List.drop_zero] at t1
       refine ⟨ts, t1, .struct t fs ts hu (by rw [← zP t1]; exact hl) fun f hf => ?_⟩
       have := (t2 f hf).2
       simpa using this
    · cases h
  all_goals first
   | (rename_i hu; rw [hu] at hok; cases hok; done)
   | (cases h; done)
theorem WK {t : TypeId} {ts : List T} (hw : WT P t ts) : ∃ v, zd (zS P t) (ts.map .t) = some v := by
 cases hw with
 | int t k n h => simp [zd, zS, h]
 | bool t b h => simp [zd, zS, h]
 | str t l h => simp [zd, zS, h]
 | list t e es h => simp [zd, zS, h]
 | struct t fs cs h => simp [zd, zS, h]
theorem one_cell {r : Reach} {b : Nat} {t : TypeId} {v : Value} (ha : zS P t = false) (hok : Value.okWide P w r b t v) : v.cells = #[v] := by
 cases v with
 | agg cs =>
  exfalso
  unfold Value.okWide at hok
  split at hok
  · rename_i h; simp [zS, h] at ha
  · rename_i h; simp [zS, h] at ha
  · unfold Cell.okWide at hok
    split at hok
    all_goals first
     | (rename_i h1 h2; cases h2; done)
     | skip
    all_goals (unfold Cell.ok at hok; split at hok <;> first | (rename_i h1 h2; cases h2; done) | exact hok)
 | _ => rfl
theorem ZR {l : List TypeId} (ho : nG P l = true) {base : Nat} {r : Reach} {b : Nat} : ∀ (ts : List TypeId), (∀ t ∈ ts, t ∈ l) → ∀ (vs : List Value) (ds : List (DataW H)) (ps : List MemPlace), DataW.TrodAll enc P w base (fun _ => true) true ts vs ds ps →
 (∀ (j : Nat) t v, ts[j]? = some t → vs[j]? = some v → Value.okWide P w r b t v) →
 ∃ xs, RVs w (fun b => b < w.heap.size) zL vs xs ∧ WTA P ts xs
 | [], _, vs, ds, ps, h, _ => by
  cases vs with
  | nil => exact ⟨[], .nil, .nil⟩
  | cons => simp [DataW.TrodAll] at h
 | t :: ts, hl, vs, ds, ps, h, hagg => by
  cases vs with
  | nil => simp [DataW.TrodAll] at h
  | cons v vs =>
  cases ds with
  | nil => simp [DataW.TrodAll] at h
  | cons d ds =>
   obtain ⟨p, q, ⟨n, hn⟩, h2, _⟩ := h
   obtain ⟨cs, c1, c2⟩ := TH ho n t (hl t (by simp)) _ _ hn
   obtain ⟨x, hx⟩ := WK c2
   obtain ⟨xs, x1, x2⟩ := ZR ho ts (fun t ht => hl t (by simp [ht])) vs ds q h2 (fun j t' v' h1 h2 => hagg (j + 1) t' v' (by simpa using h1) (by simpa using h2))
   refine ⟨x :: xs, .cons ?_ x1, .cons t ts cs x xs c2 hx x2⟩
   obtain ⟨k1, k2⟩ := l9 hx (iF (ρ := zL) c1)
   have hv := hagg 0 t v rfl rfl
   cases ha : zS P t with
   | true =>
    have := k1 ha
    have hag : ∃ cs, v = .agg cs := by
     unfold Value.okWide at hv
     split at hv
     · obtain ⟨cs, e, _⟩ := hv; exact ⟨cs, e⟩
     · obtain ⟨cs, e, _⟩ := hv; exact ⟨cs, e⟩
     · rename_i h1 h2
       unfold zS at ha
       split at ha
       · rename_i h; exact absurd h (h1 _)
       · rename_i h; exact absurd h (h2 _ _)
       · cases ha
    obtain ⟨cs', rfl⟩ := hag
    simpa [Value.cells] using this
   | false =>
    obtain ⟨u, hu, hr⟩ := k2 ha
    have h1 := one_cell ha hv
    rw [h1] at hu
    have : v = u := by simpa using hu
    rw [this]; exact hr
theorem TQ {w' : World} {F F' : Nat → Prop} (hn : Nxt (own fun b => w.heap.size ≤ b) w F zL w' F' zL) (p : MemPlace) (hp : p.block < w.heap.size) : w.sameAt w' p := by
 cases p with
 | cell b off =>
  have hb : b < w.heap.size := hp
  have h := hn.keep b hb (Nat.not_le.2 hb)
  unfold World.sameAt World.cell?
  simp only [h]
 | map b =>
  have hb : b < w.heap.size := hp
  exact hn.keep b hb (Nat.not_le.2 hb)
theorem rV {w' : World} {base : Nat} {spare : Nat → Bool} {held : Bool} : ∀ {ts : List TypeId} {vs : List Value} {ds : List (DataW H)} {ps : List MemPlace}, DataW.TrodAll enc P w base spare held ts vs ds ps → (∀ p ∈ ps, w.sameAt w' p) → DataW.TrodAll enc P w' base spare held ts vs ds ps
 | [], [], [], _, h, _ => h
 | _ :: _, _ :: _, _ :: _, _, ⟨p, q, ⟨n, h1⟩, h2, e⟩, hs =>
  ⟨p, q, ⟨n, DataW.trod_carry n _ _ _ h1 fun x hx => hs x (by rw [e]; exact List.mem_append_left _ hx)⟩, rV h2 fun x hx => hs x (by rw [e]; exact List.mem_append_right _ hx), e⟩
/-- a law's row out of the evaluator's answer -/
theorem Q4 {pol : Pol} {W : World} (hE : lR P W pol) (hP : ∀ f fn c, pol.no f = false → P.funcs[f]? = some fn → fn.body = some c → xA (ny P pol f) fn.ntmps c = true)
 {f : Func} {g : Nat} {s : ChangeSpec} {base : Nat} {args : Array Value} {ds gs : List (DataW H)} {before : List MemPlace} {l : List TypeId} {tb : TypeId} {T : TypeId → Prop}
 (ho : nG P l = true) (hl : ∀ t ∈ f.params.toList, t ∈ l) (hvars : s.vars = [])
 (hK : Kids P T) (hz : ∀ t e, T t → P.underlying t = some (.slice e) → 0 < P.cellsOf e) (hT : ∀ t ∈ f.params.toList, T t)
 (hval : ∀ (j : Nat) t v, f.params[j]? = some t → args[j]? = some v → Value.okWide P W .any base t v)
 (hW : DataW.Whole enc P f.params.toList s.vars false W args.toList ds gs before)
 (hfn : gs = [] → (s.fn H (ds ++ gs)).results = [.lit (.bool true)] ∧ (s.fn H (ds ++ gs)).args = ds ∧ (s.fn H (ds ++ gs)).vars = [])
 (hr : f.resultTypes = #[tb]) (hb : P.underlying tb = some .bool)
 (hev : ∀ xs, WTA P f.params.toList xs → EV P pol (.call g xs []) = some (.call (.t (.bool true)) [])) :
 Calls P g args W fun e W' => ∃ v, e = .returned v ∧ s.post enc P f false true false false W args v W' := by
 have hW0 := hW
 obtain ⟨p, q, hA, hV, rfl, hfz, hnd⟩ := hW
 rw [hvars] at hV
 obtain ⟨rfl, rfl⟩ := Go.ChangeShapes.trodVars_none hV
 obtain ⟨hf1, hf2, hf3⟩ := hfn rfl
 obtain ⟨xs, x1, x2⟩ := ZR ho f.params.toList hl args.toList ds p hA (fun j t v h1 h2 => hval j t v (by simpa using h1) (by simpa using h2))
 refine (Rc hE hP (hev xs x2) W (fun b => b < W.heap.size) args ⟨Nat.le_refl _, fun b hb => hb, fun b hb => rfl⟩ (fun b h => h) x1).mono fun e W' ⟨u, F', he, hru, hF', hn⟩ => ?_
 have hu : u = .bool true := by cases hru with | t u x h => cases h; rfl
 subst hu
 refine ⟨_, he, ds, [], p ++ [], [], p, [], hW0, ?_, ?_, ?_, ?_, by simp⟩
 · rw [hf1, hr]
   exact Go.ChangeShapes.trodAll_mk1 (Go.RowKit.shut_bool hb true)
 · rw [hf2]
   have h1 := DataW.TrodAll.respare (spare' := fun b => decide (b < W.heap.size)) hK hz hT hA (fun x hx => by simpa using hA.lt x hx)
   exact rV h1 fun x hx => TQ hn x (hA.lt x hx)
 · rw [hf3, hvars]; rfl
 · refine ⟨hn.os, hn.output, fun i hi => ?_⟩
   rw [hn.keep i hi (Nat.not_le.2 hi)]
   have : W.heap[i]? = some W.heap[i] := Array.getElem?_eq_getElem hi
   rw [this]
   generalize W.heap[i] = c
   cases c <;> simp
end Go.Proofs.YtonbkdklidfmfaaGreatDoor.E
/- The evaluator as a machine with a stack, for proofs that step through code. Conditions: those of each lemma. -/
namespace Go.Proofs.YtonbkdklidfmfaaGreatDoor.E
set_option linter.unusedVariables false
set_option linter.unusedSimpArgs false
structure Cx where
 P : Program
 pol : Pol
 rc : Rec
 f : Nat
 m : Nat
/-- what comes behind -/
inductive Fr where
 | seq (c : Code) (p : Nat)
 | blk (id : Nat)
inductive qg where
 | call (res : List ResultVar)
 | callO (gv : Bool) (res : List ResultVar)
 | loop (p : Nat)
def dY (P : Program) (m : Nat) (r : Option (List V)) (h : Heap) : Option wg :=
 match r with
 | some vs => match yV h (zq vs) with
  | some (v, h'') => some (.call v (h''.take m))
  | none => none
 | none => none
def mG (C : Cx) : qg → Exi → Env → Heap → Option wg
 | .call res, x, e, h => match x with
  | .normal | .ret => dY C.P C.m (vI C.P e h res) h
  | .exit _ => none
 | .callO gv res, x, e, h => match x with
  | .normal | .ret => ma gv C.m (vI C.P e h res) h
  | .exit _ => none
 | .loop p, x, e, h => match x with
  | .normal => C.rc (.loop C.f p C.m (yl C.m ((C.pol.live C.f p).map e) h).1 (yl C.m ((C.pol.live C.f p).map e) h).2)
  | x => some (.loop x (yl C.m ((C.pol.outs C.f p).map e) h).1 (yl C.m ((C.pol.outs C.f p).map e) h).2)
def goX (C : Cx) : List Fr → qg → Exi → Env → Heap → Option wg
 | [], k, x, e, h => mG C k x e h
 | .seq c p :: fs, k, x, e, h => match x with
  | .normal => (match evC C.P C.pol C.rc C.f C.m c p e h with | some (x', e', h') => goX C fs k x' e' h' | none => none)
  | x => goX C fs k x e h
 | .blk id :: fs, k, x, e, h => match x with
  | .exit id' => if id' = id then goX C fs k .normal e h else goX C fs k (.exit id') e h
  | x => goX C fs k x e h
def goC (C : Cx) (c : Code) (p : Nat) (fs : List Fr) (k : qg) (e : Env) (h : Heap) : Option wg :=
 match evC C.P C.pol C.rc C.f C.m c p e h with | some (x', e', h') => goX C fs k x' e' h' | none => none
/-- a region: its operations; the number kept for the next row, the numbers behind it; what was touched; is its order open? -/
structure Rg where
 ops : Array Oper
 N : Option Nat
 Ns : List (Option Nat)
 acc : List (List Nat)
 d : Bool
 x : Bool
def goR (C : Cx) (q : Rg) (rest : List Oper) (fs : List Fr) (k : qg) (e : Env) (h : Heap) : Option wg :=
 if q.d then if q.x then (match evR C.P C.pol C.rc C.f q.ops rest e h with
  | some (rs, e', h') => if zOK C.pol C.f q.ops (q.acc.reverse ++ rs) then goX C fs k .normal e' h' else none
  | none => none) else (match evD C.P C.pol C.rc C.f q.ops q.Ns rest e h with
  | some (fps, e', h') => if dV C.pol C.f q.ops (q.acc.reverse ++ fps) then goX C fs k .normal e' h' else none
  | none => none)
 else if q.x then (match qI C.P C.pol C.rc C.f q.ops rest e h with | some (e', h') => goX C fs k .normal e' h' | none => none)
 else match vA C.P C.pol C.rc C.f q.ops rest e h with | some (e', h') => goX C fs k .normal e' h' | none => none
/-- an operation; where owned values are made, their ways come first -/
def lO (C : Cx) (q : Rg) (o : Oper) (e : Env) (h : Heap) : Option (V × Heap) :=
 if q.x && C.pol.own C.f then (match xB C.P C.pol C.rc C.f o e h with | some r => some r | none => zY C.P C.pol C.rc C.f q.N o e h) else zY C.P C.pol C.rc C.f q.N o e h
def jK (a b : Bool) (x y : Option (V × Heap)) : Option (V × Heap) := if a && b then (match x with | some r => some r | none => y) else y
def qe (C : Cx) (q : Rg) (o : Oper) (rest : List Oper) (fs : List Fr) (k : qg) (e : Env) (h : Heap) : Option wg :=
 match zY C.P C.pol C.rc C.f q.N o e h with | some (v, h') => goR C q rest fs k (put e o.dst v) h' | none => none
def goW (C : Cx) (w : Option Bool) (q : Rg) (o : Oper) (rest : List Oper) (fs : List Fr) (k : qg) (e : Env) (h : Heap) : Option wg :=
 match w with
 | some true => (match lO C q o e h with | some (v, h') => goR C q rest fs k (put e o.dst v) h' | none => none)
 | some false => goR C q rest fs k (put e o.dst .und) h
 | none => none
/-- a value, then the rest -/
def r1 (C : Cx) (r : Option V) (dst : Option Nat) (q : Rg) (rest : List Oper) (fs : List Fr) (k : qg) (e : Env) (h : Heap) : Option wg :=
 match r with | some v => goR C q rest fs k (put e dst v) h | none => none
def r2 (C : Cx) (r : Option (V × Heap)) (dst : Option Nat) (q : Rg) (rest : List Oper) (fs : List Fr) (k : qg) (e : Env) : Option wg :=
 match r with | some (v, h) => goR C q rest fs k (put e dst v) h | none => none
def rh (C : Cx) (r : Option Heap) (dst : Option Nat) (q : Rg) (rest : List Oper) (fs : List Fr) (k : qg) (e : Env) : Option wg :=
 match r with | some h => goR C q rest fs k (put e dst .und) h | none => none
def cK (C : Cx) (v : V) (a b : Code) (p : Nat) (fs : List Fr) (k : qg) (e : Env) (h : Heap) : Option wg :=
 match v with
 | .t (.bool t) => if t then goC C a (2 * p) fs k e h else goC C b (2 * p + 1) fs k e h
 | _ => none
def lK (C : Cx) (r : Option wg) (outs : List Nat) (fs : List Fr) (k : qg) : Option wg :=
 match r with
 | some (.loop x vals h') => goX C fs k x (zb outs vals) h'
 | _ => none
/-- a called function's answer -/
def Y0 (N : Option Nat) (ids : List Nat) (r : Option wg) (h : Heap) : Option (V × Heap) :=
 match r with
 | some (.call v h1) => x7 N ids v h1 h
 | _ => none
def tK (C : Cx) (N : Option Nat) (m : PM) (fv : Option (Nat × List V)) (args : List V) (h : Heap) : Option (V × Heap) :=
 match fv with
 | some (g, caps) => match m with
  | .pure => (match asArg.asArgs (args ++ caps) with | some az => (match zm C.rc g az with | some v => some (v, h) | none => none) | none => (match yE.snapVs h (args ++ caps) with | some az => (match zm C.rc g az with | some v => (if zc v then some (v, h) else none) | none => none) | none => none))
  | .frz => (match yV.gives h (args ++ caps) with | some (az, h') => (match zm C.rc g az with | some v => some (v, h') | none => none) | none => none)
  | .opn gv => Y0 N (xu h (args ++ caps)) (C.rc (.callO gv g (yl 0 (args ++ caps) h).1 (yl 0 (args ++ caps) h).2)) h
  | .brw => none
  | .all => none
 | none => none
def ZZ (c a b : V) : Option V :=
 match c with
 | .t (.bool t) => some (if t then a else b)
 | _ => none
def Ri (P : Program) (t : TypeId) (x i : V) : Option V :=
 match x, i with
 | .t (.str l), .t (.int _ n) => if isStr P t then (match uX l n with | some b => some (.t (.int .u8 (b.toNat : Int))) | none => none) else none
 | _, _ => none
def Rl (x : V) (i : Nat) : Option V :=
 match x with
 | .tup vs => vs[i]?
 | _ => none
def oH (N : Option Nat) (z : Option (List V)) (h : Heap) : Option (V × Heap) :=
 match z with
 | some zs => if zs.isEmpty then none else some (.ptr (nI N h) 0 0, nH N h (.vs zs.length [zs]))
 | none => none
def J9 (N : Option Nat) (cs : List V) (h : Heap) : Option (V × Heap) :=
 if cs.isEmpty || !cs.all yd then none else some (.ptr (nI N h) 0 0, nH N h (.vs cs.length [cs]))
/-- the slots at a call's start -/
def ZS (args : List V) : Env := fun t => (args[t]?).getD .bad
theorem qU : ∀ (args : List V) (s t : Nat), zb (List.range' s args.length) args t = if s ≤ t then (args[t - s]?).getD .bad else .bad
 | [], s, t => by simp [zb]
 | v :: vs, s, t => by
  simp only [List.length_cons, List.range'_succ, zb, upd, qU vs (s + 1) t]
  by_cases h : t = s
  · subst h; simp
  · simp only [h, if_false]
    by_cases h2 : s + 1 ≤ t
    · have e : t - s = (t - (s + 1)) + 1 := by omega
      simp only [h2, if_true, show s ≤ t by omega, e, List.getElem?_cons_succ]
    · simp only [h2, if_false, show ¬ s ≤ t by omega]
theorem oY (args : List V) : zb (List.range args.length) args = ZS args := by
 funext t
 rw [List.range_eq_range', qU args 0 t]
 simp [ZS]
theorem jG (v : V) (vs : List V) : ZS (v :: vs) 0 = v := rfl
theorem jH (v : V) (vs : List V) (n : Nat) : ZS (v :: vs) (n + 1) = ZS vs n := rfl
theorem zw {P : Program} {pol : Pol} {f : Nat} {fn : Func} {c : Code} {args : List V} {h : Heap} {r : wg} (hx : pol.ext f args = none) (hf : P.funcs[f]? = some fn) (hb : fn.body = some c)
 (hn : (pol.no f || fn.name == "runtime.NumGoroutine" || decide (fn.ntmps < args.length)) = false)
 (hg : goC ⟨P, pol, EV P pol, f, h.length⟩ c 1 [] (.call fn.results.toList) (ZS args) h = some r) : EV P pol (.call f args h) = some r := by
 rw [← oY] at hg
 apply pQ
 simp only [E.step, hx, hf, hb, hn]
 unfold goC at hg
 simp only at hg
 cases hc : evC P pol (EV P pol) f h.length c 1 (zb (List.range args.length) args) h with
 | none => simp [hc] at hg
 | some x =>
  obtain ⟨x, e', h'⟩ := x
  simp only [hc, goX, mG] at hg
  simp only [Bool.false_eq_true, if_false]
  cases x with
  | exit id => cases hg
  | _ =>
   simp only [dY] at hg
   cases hres : vI P e' h' fn.results.toList with
   | none => simp [hres] at hg
   | some vs =>
    simp only [hres] at hg ⊢
    cases hgv : yV h' (zq vs) with
    | none => simp [hgv] at hg
    | some y => simpa only [hgv] using hg
theorem zN {P : Program} {pol : Pol} {gv : Bool} {f : Nat} {fn : Func} {c : Code} {args : List V} {h : Heap} {r : wg} (hf : P.funcs[f]? = some fn) (hb : fn.body = some c)
 (hn : (pol.no f || fn.name == "runtime.NumGoroutine" || decide (fn.ntmps < args.length)) = false)
 (hg : goC ⟨P, pol, EV P pol, f, h.length⟩ c 1 [] (.callO gv fn.results.toList) (ZS args) h = some r) (hx : pol.extO f args h = none := by rfl) : EV P pol (.callO gv f args h) = some r := by
 rw [← oY] at hg
 apply pQ
 simp only [E.step, hx, hf, hb, hn]
 unfold goC at hg
 simp only at hg
 cases hc : evC P pol (EV P pol) f h.length c 1 (zb (List.range args.length) args) h with
 | none => simp [hc] at hg
 | some x =>
  obtain ⟨x, e', h'⟩ := x
  simp only [hc, goX, mG] at hg
  simp only [Bool.false_eq_true, if_false]
  cases x with
  | exit id => cases hg
  | _ => exact hg
theorem zk {P : Program} {pol : Pol} {f p m : Nat} {fn : Func} {c b : Code} {vals : List V} {h : Heap} {r : wg} (hf : P.funcs[f]? = some fn) (hb : fn.body = some c) (hc : x5 c (turns p) = some (.loop b))
 (hg : goC ⟨P, pol, EV P pol, f, m⟩ b (2 * p) [] (.loop p) (zb (pol.live f p) vals) h = some r) : EV P pol (.loop f p m vals h) = some r := by
 apply pQ
 simp only [E.step, hf, hb, hc]
 unfold goC at hg
 simp only at hg
 cases hc : evC P pol (EV P pol) f m b (2 * p) (zb (pol.live f p) vals) h with
 | none => simp [hc] at hg
 | some x =>
  obtain ⟨x, e', h'⟩ := x
  simp only [hc, goX, mG] at hg
  cases x with
  | normal => exact hg
  | ret => exact hg
  | exit id => exact hg
section
variable (C : Cx) (p : Nat) (fs : List Fr) (k : qg) (e : Env) (h : Heap) (q : Rg) (rest : List Oper) (dst : Option Nat) (ty : TypeId) (pos : String) (after : Array Edge)
theorem Zx (a b : Code) : goC C (.seq a b) p fs k e h = goC C a (2 * p) (.seq b (2 * p + 1) :: fs) k e h := by
 unfold goC; simp only [evC, goX]
 cases evC C.P C.pol C.rc C.f C.m a (2 * p) e h with
 | none => rfl
 | some x => obtain ⟨x, e', h'⟩ := x; cases x <;> rfl
theorem eZ (c : Operand) (a b : Code) : goC C (.cond c a b) p fs k e h = cK C (opv C.P e 0 c) a b p fs k e h := by
 unfold goC cK; simp only [evC]
 cases opv C.P e 0 c with
 | t x => cases x with
  | bool t => cases t <;> rfl
  | _ => rfl
 | _ => rfl
theorem ja (id : Nat) (a : Code) : goC C (.block id a) p fs k e h = goC C a (2 * p) (.blk id :: fs) k e h := by
 unfold goC; simp only [evC, goX]
 cases evC C.P C.pol C.rc C.f C.m a (2 * p) e h with
 | none => rfl
 | some x =>
  obtain ⟨x, e', h'⟩ := x
  cases x with
  | exit id' => simp only; by_cases hi : id' = id <;> simp [hi]
  | _ => rfl
theorem eW (a : Code) : goC C (.loop a) p fs k e h = lK C (C.rc (.loop C.f p C.m (yl C.m ((C.pol.live C.f p).map e) h).1 (yl C.m ((C.pol.live C.f p).map e) h).2)) (C.pol.outs C.f p) fs k := by
 unfold goC lK; simp only [evC]
 cases C.rc (.loop C.f p C.m (yl C.m ((C.pol.live C.f p).map e) h).1 (yl C.m ((C.pol.live C.f p).map e) h).2) with
 | none => rfl
 | some x => cases x <;> rfl
theorem eX (id : Nat) : goC C (.exit id) p fs k e h = goX C fs k (.exit id) e h := rfl
theorem Zy : goC C .ret p fs k e h = goX C fs k .ret e h := rfl
theorem eV : goC C .skip p fs k e h = goX C fs k .normal e h := rfl
theorem mE (n : Nat) (l : List Oper) : goC C (.region n l.toArray false) p fs k e h = goR C ⟨l.toArray, none, [], [], false, true⟩ l fs k e (ghH (C.pol.gh C.f n) e h) := by
 unfold goC goR; simp only [evC, List.toList_toArray, Bool.false_and, Bool.false_eq_true, if_false, if_true]
 cases qI C.P C.pol C.rc C.f l.toArray l e (ghH (C.pol.gh C.f n) e h) <;> rfl
/-- a region in open order -/
def goD (C : Cx) (simple z : Bool) (l : List Oper) (fs : List Fr) (k : qg) (e : Env) (h : Heap) : Option wg :=
 if simple then goR C ⟨l.toArray, none, [], [], false, false⟩ l fs k e h else if z then goR C ⟨l.toArray, none, [], [], true, true⟩ l fs k e h else goR C ⟨l.toArray, none, vQ C.pol C.f h.length l, [], true, false⟩ l fs k e (h ++ List.replicate (vh C.pol C.f l) .dead)
theorem eY (n : Nat) (l : List Oper) (hd : C.pol.dr C.f = true) : goC C (.region n l.toArray true) p fs k e h = goD C (l.all (yR C.pol C.f)) (C.pol.own C.f && C.pol.dm C.f n) l fs k e h := by
 unfold goC goD; simp only [evC, hd, List.toList_toArray]
 cases hn : l.all (yR C.pol C.f) with
 | true =>
  simp only [Bool.not_true, Bool.and_false, Bool.false_eq_true, if_false, if_true]
  unfold goR
  simp only [Bool.false_eq_true, if_false]
  cases vA C.P C.pol C.rc C.f l.toArray l e h <;> rfl
 | false =>
  simp only [Bool.not_true, Bool.not_false, Bool.and_true, Bool.and_false, Bool.false_eq_true, if_false, if_true]
  by_cases hc : (C.pol.own C.f && C.pol.dm C.f n) = true
  · simp only [hc, if_true]
    unfold evZ goR
    simp only [List.toList_toArray, if_true, List.reverse_nil, List.nil_append]
    cases evR C.P C.pol C.rc C.f l.toArray l e h with
    | none => rfl
    | some x =>
     obtain ⟨y1, y2, y3⟩ := x
     by_cases hx : zOK C.pol C.f l.toArray y1 = true
     · simp only [hx, if_true]
     · simp only [hx, Bool.false_eq_true, if_false]
  simp only [hc, Bool.false_eq_true, if_false]
  unfold r4 goR
  simp only [List.toList_toArray, if_true, Bool.false_eq_true, if_false, List.reverse_nil, List.nil_append]
  cases evD C.P C.pol C.rc C.f l.toArray (vQ C.pol C.f h.length l) l e (h ++ List.replicate (vh C.pol C.f l) .dead) with
  | none => rfl
  | some x =>
   obtain ⟨y1, y2, y3⟩ := x
   by_cases hx : dV C.pol C.f l.toArray y1 = true
   · simp only [hx, if_true]
   · simp only [hx, Bool.false_eq_true, if_false]
theorem eU (z : Bool) (l : List Oper) : goD C true z l fs k e h = goR C ⟨l.toArray, none, [], [], false, false⟩ l fs k e h := rfl
theorem RG (l : List Oper) : goD C false true l fs k e h = goR C ⟨l.toArray, none, [], [], true, true⟩ l fs k e h := rfl
theorem j9 (l : List Oper) : goD C false false l fs k e h = goR C ⟨l.toArray, none, vQ C.pol C.f h.length l, [], true, false⟩ l fs k e (h ++ List.replicate (vh C.pol C.f l) .dead) := rfl
theorem Zu (x : Exi) : goX C [] k x e h = mG C k x e h := rfl
theorem Zs (c : Code) : goX C (.seq c p :: fs) k .normal e h = goC C c p fs k e h := rfl
theorem ng (c : Code) : goX C (.seq c p :: fs) k .ret e h = goX C fs k .ret e h := rfl
theorem qV (c : Code) (id : Nat) : goX C (.seq c p :: fs) k (.exit id) e h = goX C fs k (.exit id) e h := rfl
theorem Zv (id : Nat) : goX C (.blk id :: fs) k .normal e h = goX C fs k .normal e h := rfl
theorem nh (id : Nat) : goX C (.blk id :: fs) k .ret e h = goX C fs k .ret e h := rfl
theorem qW (id id' : Nat) : goX C (.blk id :: fs) k (.exit id') e h = if id' = id then goX C fs k .normal e h else goX C fs k (.exit id') e h := rfl
theorem Zw (ops : Array Oper) (x : Bool) : goR C ⟨ops, none, [], [], false, x⟩ [] fs k e h = goX C fs k .normal e h := by cases x <;> rfl
theorem Sy (ops : Array Oper) (o : Oper) : lO C ⟨ops, none, [], [], false, true⟩ o e h = ub C.P C.pol C.rc C.f o e h := rfl
theorem ZE {q : Rg} (hx : q.x = false) (o : Oper) : lO C q o e h = zY C.P C.pol C.rc C.f q.N o e h := by unfold lO; rw [hx]; rfl
theorem eT (ops : Array Oper) (x : Bool) (o : Oper) : goR C ⟨ops, none, [], [], false, x⟩ (o :: rest) fs k e h = goW C (want ops o e) ⟨ops, none, [], [], false, x⟩ o rest fs k e h := by
 cases x with
 | true =>
  unfold goR goW; simp only [Bool.false_eq_true, if_false, if_true, qI, vg]
  cases want ops o e with
  | none => rfl
  | some b => cases b with
   | false => simp only [goR, Bool.false_eq_true, if_false, if_true]
   | true => simp only [Sy]; cases ub C.P C.pol C.rc C.f o e h with
    | none => rfl
    | some x => simp only [goR, Bool.false_eq_true, if_false, if_true]
 | false =>
  unfold goR goW; simp only [Bool.false_eq_true, if_false, vA, sv]
  cases want ops o e with
  | none => rfl
  | some b => cases b with
   | false => simp only [goR, Bool.false_eq_true, if_false]
   | true => simp only [ZE (q := ⟨ops, none, [], [], false, false⟩) C e h rfl]; cases zY C.P C.pol C.rc C.f none o e h with
    | none => rfl
    | some x => simp only [goR, Bool.false_eq_true, if_false]
theorem eS (ops : Array Oper) (N : Option Nat) (acc : List (List Nat)) : goR C ⟨ops, N, [], acc, true, false⟩ [] fs k e h = if dV C.pol C.f ops acc.reverse then goX C fs k .normal e h else none := by
 unfold goR; simp only [if_true, Bool.false_eq_true, if_false, evD, List.append_nil]
theorem j8 (ops : Array Oper) (N N' : Option Nat) (Ns : List (Option Nat)) (acc : List (List Nat)) (o : Oper) : goR C ⟨ops, N, N' :: Ns, acc, true, false⟩ (o :: rest) fs k e h = goW C (want ops o e) ⟨ops, N', Ns, xZ N' o e h :: acc, true, false⟩ o rest fs k e h := by
 unfold goR goW; simp only [if_true, Bool.false_eq_true, if_false, evD, sv]
 cases want ops o e with
 | none => rfl
 | some b => cases b with
  | false =>
   simp only [goR, if_true, Bool.false_eq_true, if_false, List.reverse_cons, List.append_assoc, List.singleton_append]
   cases evD C.P C.pol C.rc C.f ops Ns rest (put e o.dst .und) h <;> rfl
  | true => simp only [ZE (q := ⟨ops, N', Ns, xZ N' o e h :: acc, true, false⟩) C e h rfl]; cases zY C.P C.pol C.rc C.f N' o e h with
   | none => rfl
   | some x =>
    simp only [goR, if_true, Bool.false_eq_true, if_false, List.reverse_cons, List.append_assoc, List.singleton_append]
    cases evD C.P C.pol C.rc C.f ops Ns rest (put e o.dst x.1) x.2 <;> rfl
theorem eR (ops : Array Oper) (acc : List (List Nat)) : goR C ⟨ops, none, [], acc, true, true⟩ [] fs k e h = if zOK C.pol C.f ops acc.reverse then goX C fs k .normal e h else none := by
 unfold goR; simp only [if_true, evR, List.append_nil]
theorem j7 (ops : Array Oper) (acc : List (List Nat)) (o : Oper) : goR C ⟨ops, none, [], acc, true, true⟩ (o :: rest) fs k e h = goW C (want ops o e) ⟨ops, none, [], (h.length :: yM none o e h) :: acc, true, true⟩ o rest fs k e h := by
 unfold goR goW; simp only [if_true, evR, vg]
 cases want ops o e with
 | none => rfl
 | some b => cases b with
  | false =>
   simp only [goR, if_true, List.reverse_cons, List.append_assoc, List.singleton_append]
   cases evR C.P C.pol C.rc C.f ops rest (put e o.dst .und) h <;> rfl
  | true =>
   rw [show lO C ⟨ops, none, [], (h.length :: yM none o e h) :: acc, true, true⟩ o e h = ub C.P C.pol C.rc C.f o e h from rfl]
   cases ub C.P C.pol C.rc C.f o e h with
   | none => rfl
   | some x =>
    simp only [goR, if_true, List.reverse_cons, List.append_assoc, List.singleton_append]
    cases evR C.P C.pol C.rc C.f ops rest (put e o.dst x.1) x.2 <;> rfl
theorem yP {o : Oper} (ho : xB C.P C.pol C.rc C.f o e h = none) : goW C (some true) q o rest fs k e h = qe C q o rest fs k e h := by
 unfold goW qe lO
 simp only [ho, ite_self]
theorem nJ {o : Oper} {x y : Option (V × Heap)} (hx : xB C.P C.pol C.rc C.f o e h = x) (hy : zY C.P C.pol C.rc C.f q.N o e h = y) : goW C (some true) q o rest fs k e h = r2 C (jK q.x (C.pol.own C.f) x y) o.dst q rest fs k e := by
 unfold goW lO r2 jK
 rw [hx, hy]
theorem ar (b : Bool) (x y : Option (V × Heap)) : jK false b x y = y := rfl
theorem aq (a : Bool) (x y : Option (V × Heap)) : jK a false x y = y := by cases a <;> rfl
theorem zD (r : V × Heap) (y : Option (V × Heap)) : jK true true (some r) y = some r := rfl
theorem zE (y : Option (V × Heap)) : jK true true none y = y := rfl
theorem j6 (o : Oper) : goW C (some false) q o rest fs k e h = goR C q rest fs k (put e o.dst .und) h := rfl
theorem km (ops : Array Oper) (op : Op) : want ops ⟨dst, op, ty, pos, after, none⟩ e = some true := rfl
variable (g : Option (Nat × Bool))
theorem UP (x : Operand) : goW C (some true) q ⟨dst, .move x, ty, pos, after, g⟩ rest fs k e h = goR C q rest fs k (put e dst (opv C.P e ty x)) h := (yP C fs k e h q rest (by rfl)).trans rfl
theorem ep (x : Operand) : goW C (some true) q ⟨dst, .assign x, ty, pos, after, g⟩ rest fs k e h = goR C q rest fs k (put e dst (opv C.P e ty x)) h := (yP C fs k e h q rest (by rfl)).trans rfl
theorem UO (c a b : Operand) : goW C (some true) q ⟨dst, .pick c a b, ty, pos, after, g⟩ rest fs k e h = r1 C (ZZ (opv C.P e 0 c) (opv C.P e ty a) (opv C.P e ty b)) dst q rest fs k e h := by
 rw [yP C fs k e h q rest (by rfl)]; simp only [qe, zY, r1, ZZ]
 cases opv C.P e 0 c with
 | t x => cases x <;> rfl
 | _ => rfl
theorem aS (t : TypeId) : goW C (some true) q ⟨dst, .alloc t, ty, pos, after, g⟩ rest fs k e h = r2 C (oH q.N (zeroOf C.P t) h) dst q rest fs k e := by
 rw [yP C fs k e h q rest (by rfl)]; simp only [qe, zY, r2, oH]
 cases zeroOf C.P t with
 | none => rfl
 | some zs => rfl
theorem Rr (t : TypeId) (x : Operand) : goW C (some true) q ⟨dst, .box t x, ty, pos, after, g⟩ rest fs k e h = r2 C (J9 q.N (z8 (opv C.P e t x)) h) dst q rest fs k e := (yP C fs k e h q rest (by rfl)).trans rfl
def gu (P : Program) (t : TypeId) (ps : List (Nat × V)) : Option V :=
 if wH P t then (match zeroOf P t with
  | some zs => (match su P t zs ps with | some cs => some (.agg cs) | none => none)
  | none => none) else none
theorem aQ (t : TypeId) (l : List (Nat × Operand)) : goW C (some true) q ⟨dst, .build t l.toArray, ty, pos, after, g⟩ rest fs k e h = r1 C (gu C.P t (xE C.P e (fTy C.P t) l)) dst q rest fs k e h := by
 rw [yP C fs k e h q rest (by rfl)]; simp only [qe, zY, r1, gu]
 cases wH C.P t with
 | false => rfl
 | true => cases zeroOf C.P t with
  | none => rfl
  | some zs => simp only [if_true]; cases su C.P t zs (xE C.P e (fTy C.P t) l) <;> rfl
def gf (P : Program) (N : Option Nat) (t : TypeId) (len n : Nat) (ps : TypeId → List (Nat × V)) (h : Heap) : Option (V × Heap) :=
 match y8 P t with
 | some el => if zC P el = 0 ∨ len * zC P el > 16777216 ∨ n ≠ len ∨ (zeroOf P el).isNone = true then none else
  match wX (zC P el) 0 (ps el) with
  | some css => match xX h css with
   | some (es, h') => some (.sl (nI N h') 0 len (some len), nH N h' (.ts (zC P el) es))
   | none => none
  | none => none
 | none => none
def zO (P : Program) (t : TypeId) (len n : Nat) (ps : TypeId → List (Nat × V)) (h : Heap) : Option (V × Heap) :=
 match y8 P t with
 | some el => if zC P el = 0 ∨ len * zC P el > 16777216 ∨ n ≠ len ∨ (zeroOf P el).isNone = true ∨ zC P el = 1 then none else
  match wX (zC P el) 0 (ps el) with
  | some css => some (.sl h.length 0 len (some len), h ++ [.vs (zC P el) css])
  | none => none
 | none => none
theorem qT (t : TypeId) (len : Nat) (l : List (Nat × Operand)) : goW C (some true) q ⟨dst, .buildSlice t len l.toArray, ty, pos, after, g⟩ rest fs k e h =
 r2 C (jK q.x (C.pol.own C.f) (zO C.P t len l.length (fun el => xE C.P e (fun _ => el) l) h) (gf C.P q.N t len l.length (fun el => xE C.P e (fun _ => el) l) h)) dst q rest fs k e :=
 nJ C fs k e h q rest (by simp only [xB, zO, List.size_toArray]; rfl) (by simp only [zY, gf, List.size_toArray]; rfl)
theorem UQ (t : TypeId) (a : Operand) : goW C (some true) q ⟨dst, .load t a, ty, pos, after, g⟩ rest fs k e h = r1 C (load C.P t (opv C.P e 0 a) h) dst q rest fs k e h := by
 rw [yP C fs k e h q rest (by rfl)]; simp only [qe, zY, r1]; cases load C.P t (opv C.P e 0 a) h <;> rfl
theorem aM (t : TypeId) (a x : Operand) : goW C (some true) q ⟨dst, .store t a x, ty, pos, after, g⟩ rest fs k e h = rh C (store C.P t (opv C.P e 0 a) (opv C.P e t x) h) dst q rest fs k e := by
 rw [yP C fs k e h q rest (by rfl)]; simp only [qe, zY, rh]; cases store C.P t (opv C.P e 0 a) (opv C.P e t x) h <;> rfl
theorem aR (op : BinOp) (t u : TypeId) (x y : Operand) : goW C (some true) q ⟨dst, .binOp op t x y u, ty, pos, after, g⟩ rest fs k e h = r1 C (zr C.P op t y (opv C.P e t x) (opv C.P e u y)) dst q rest fs k e h := by
 rw [yP C fs k e h q rest (by rfl)]; simp only [qe, zY, r1]; cases zr C.P op t y (opv C.P e t x) (opv C.P e u y) <;> rfl
theorem UN (op : UnOp) (t : TypeId) (x : Operand) : goW C (some true) q ⟨dst, .unOp op t x, ty, pos, after, g⟩ rest fs k e h = r1 C (una op (opv C.P e t x)) dst q rest fs k e h := by
 rw [yP C fs k e h q rest (by rfl)]; simp only [qe, zY, r1]; cases una op (opv C.P e t x) <;> rfl
theorem kP (s d : TypeId) (x : Operand) : goW C (some true) q ⟨dst, .convert s d x, ty, pos, after, g⟩ rest fs k e h = r1 C (conv C.P s d (opv C.P e s x) h) dst q rest fs k e h := by
 rw [yP C fs k e h q rest (by rfl)]; simp only [qe, zY, r1]; cases conv C.P s d (opv C.P e s x) h <;> rfl
def mkS (P : Program) (N : Option Nat) (t : TypeId) (l c : V) (h : Heap) : Option (V × Heap) :=
 match y8 P t, l, c with
 | some el, .t (.int _ n), .t (.int _ m) => match zeroOf P el with
  | some zs => match qf zs with
   | some z => if zC P el = 0 ∨ n < 0 ∨ n ≠ m ∨ n.toNat * P.bytesOf el > yk ∨ n.toNat > yk then none else
    some (.sl (nI N h) 0 n.toNat (some n.toNat), nH N h (.ts (zC P el) (List.replicate n.toNat z)))
   | none => none
  | none => none
 | _, _, _ => none
def mkO (P : Program) (t : TypeId) (l c : V) (h : Heap) : Option (V × Heap) :=
 match y8 P t, l, c with
 | some el, .t (.int _ n), .t (.int _ m) => match zeroOf P el with
  | some zs => if zC P el = 0 ∨ n < 0 ∨ n ≠ m ∨ n.toNat * P.bytesOf el > yk ∨ n.toNat > yk ∨ ¬ (zs.all yd = true) then none else
   some (.sl h.length 0 n.toNat (some n.toNat), h ++ [.vs (zC P el) (List.replicate n.toNat zs)])
  | none => none
 | _, _, _ => none
theorem oS (t : TypeId) (l c : Operand) : goW C (some true) q ⟨dst, .makeSlice t l c, ty, pos, after, g⟩ rest fs k e h =
 r2 C (jK q.x (C.pol.own C.f) (mkO C.P t (opv C.P e 0 l) (opv C.P e 0 c) h) (mkS C.P q.N t (opv C.P e 0 l) (opv C.P e 0 c) h)) dst q rest fs k e :=
 nJ C fs k e h q rest rfl rfl
theorem aN (t : TypeId) (x : Operand) (lo hi mx : Option Operand) : goW C (some true) q ⟨dst, .slice t x lo hi mx, ty, pos, after, g⟩ rest fs k e h = r1 C (cut C.P t (opv C.P e t x) (qd C.P e lo) (qd C.P e hi) (qd C.P e mx) h) dst q rest fs k e h := by
 rw [yP C fs k e h q rest (by rfl)]; simp only [qe, zY, r1]; cases cut C.P t (opv C.P e t x) (qd C.P e lo) (qd C.P e hi) (qd C.P e mx) h <;> rfl
theorem mo (x : Operand) : goW C (some true) q ⟨dst, .nilCheck x, ty, pos, after, g⟩ rest fs k e h = r1 C (dZ (opv C.P e 0 x)) dst q rest fs k e h := by
 rw [yP C fs k e h q rest (by rfl)]; simp only [qe, zY, r1]; cases dZ (opv C.P e 0 x) <;> rfl
theorem oV (s : TypeId) (x : Operand) (i : Nat) : goW C (some true) q ⟨dst, .fieldAddr s x i, ty, pos, after, g⟩ rest fs k e h = r1 C (se C.P s (opv C.P e 0 x) i) dst q rest fs k e h := by
 rw [yP C fs k e h q rest (by rfl)]; simp only [qe, zY, r1]; cases se C.P s (opv C.P e 0 x) i <;> rfl
theorem aP (s : TypeId) (x : Operand) (i : Nat) : goW C (some true) q ⟨dst, .field s x i, ty, pos, after, g⟩ rest fs k e h = r1 C (fld C.P s (opv C.P e s x) i) dst q rest fs k e h := by
 rw [yP C fs k e h q rest (by rfl)]; simp only [qe, zY, r1]; cases fld C.P s (opv C.P e s x) i <;> rfl
theorem oU (t : TypeId) (x i : Operand) : goW C (some true) q ⟨dst, .indexAddr t x i, ty, pos, after, g⟩ rest fs k e h = r1 C (vF C.P t (opv C.P e t x) (opv C.P e 0 i) h) dst q rest fs k e h := by
 rw [yP C fs k e h q rest (by rfl)]; simp only [qe, zY, r1]; cases vF C.P t (opv C.P e t x) (opv C.P e 0 i) h <;> rfl
theorem aO (t : TypeId) (x i : Operand) : goW C (some true) q ⟨dst, .index t x i, ty, pos, after, g⟩ rest fs k e h = r1 C (Ri C.P t (opv C.P e t x) (opv C.P e 0 i)) dst q rest fs k e h := by
 rw [yP C fs k e h q rest (by rfl)]; simp only [qe, zY, r1, Ri]
 cases opv C.P e t x with
 | t a => cases a with
  | str l => cases opv C.P e 0 i with
   | t b => cases b with
    | int kk n => simp only; cases isStr C.P t with
     | false => rfl
     | true => simp only [if_true]; cases uX l n <;> rfl
    | _ => rfl
   | _ => rfl
  | _ => rfl
 | _ => rfl
theorem kO (x : Operand) (i : Nat) : goW C (some true) q ⟨dst, .extract x i, ty, pos, after, g⟩ rest fs k e h = r1 C (Rl (opv C.P e 0 x) i) dst q rest fs k e h := by
 rw [yP C fs k e h q rest (by rfl)]; simp only [qe, zY, r1, Rl]
 cases opv C.P e 0 x with
 | tup vs => simp only; cases vs[i]? <;> rfl
 | _ => rfl
def yK (P : Program) (b : Builtin) (args : List V) (tys : List TypeId) (h : Heap) : Option (V × Heap) :=
 match b, args, tys with
 | .append, [s, x], [t, u] => yx P t u s x h
 | .clear, [x], [t] => yr P t x h
 | _, _, _ => none
theorem kQ (b : Builtin) (args : List Operand) (tys : List TypeId) : goW C (some true) q ⟨dst, .call ⟨.builtin b, args.toArray, tys.toArray⟩, ty, pos, after, g⟩ rest fs k e h =
 r2 C (jK q.x (C.pol.own C.f) (yK C.P b (yF C.P e args tys) tys h) (blt C.P q.N b tys (yF C.P e args tys) h)) dst q rest fs k e :=
 nJ C fs k e h q rest rfl rfl
def yH (r : Option wg) (h : Heap) : Option (V × Heap) :=
 match r with
 | some (.call v h1) => if zM v && h1.all yv then x7 none [] v h1 h else none
 | _ => none
def yI (rc : Rec) (g : Nat) (az : Option (List V)) (h : Heap) : Option (V × Heap) :=
 match az with
 | some az => yH (rc (.callO false g az [])) h
 | none => none
def yL (r : Option wg) : Option (V × Heap) :=
 match r with
 | some (.call v h1) => some (v, h1)
 | _ => none
def yD (C : Cx) (m : PM) (fv : Option (Nat × List V)) (args : List V) (h : Heap) : Option (V × Heap) :=
 match fv with
 | some (g, caps) => (match m with
  | .brw => yI C.rc g (yE.snapVs h (args ++ caps)) h
  | .all => yL (C.rc (.callO false g (args ++ caps) h))
  | _ => none)
 | none => none
theorem S5 (x : Operand) (args : List Operand) (tys : List TypeId) : zY C.P C.pol C.rc C.f q.N ⟨dst, .call ⟨.value x, args.toArray, tys.toArray⟩, ty, pos, after, g⟩ e h = tK C q.N (C.pol.pm C.f (dst.getD 0)) (fnV (opv C.P e 0 x)) (yF C.P e args tys) h := by
 simp only [zY, tK]
 cases fnV (opv C.P e 0 x) with
 | none => rfl
 | some y =>
  obtain ⟨g, caps⟩ := y
  simp only [wE]
  cases C.pol.pm C.f (dst.getD 0) with
  | pure => simp only; cases asArg.asArgs (yF C.P e args tys ++ caps) with
   | none => simp only; cases yE.snapVs h (yF C.P e args tys ++ caps) with
    | none => rfl
    | some az => simp only; cases zm C.rc g az <;> rfl
   | some az => simp only; cases zm C.rc g az <;> rfl
  | frz => simp only; cases yV.gives h (yF C.P e args tys ++ caps) with
   | none => rfl
   | some az => simp only; cases zm C.rc g az.1 <;> rfl
  | opn gv =>
   simp only [Y0]
   cases C.rc (.callO gv g (yl 0 (yF C.P e args tys ++ caps) h).1 (yl 0 (yF C.P e args tys ++ caps) h).2) with
   | none => rfl
   | some r => cases r <;> rfl
  | brw => rfl
  | all => rfl
theorem S4 (x : Operand) (args : List Operand) (tys : List TypeId) : xB C.P C.pol C.rc C.f ⟨dst, .call ⟨.value x, args.toArray, tys.toArray⟩, ty, pos, after, g⟩ e h = yD C (C.pol.pm C.f (dst.getD 0)) (fnV (opv C.P e 0 x)) (yF C.P e args tys) h := by
 simp only [xB, yD]
 cases fnV (opv C.P e 0 x) with
 | none => rfl
 | some y =>
  obtain ⟨g, caps⟩ := y
  simp only
  cases C.pol.pm C.f (dst.getD 0) with
  | brw =>
   simp only [pY, yI, yH]
   cases yE.snapVs h (yF C.P e args tys ++ caps) <;> rfl
  | _ => rfl
theorem US (x : Operand) (args : List Operand) (tys : List TypeId) : goW C (some true) q ⟨dst, .call ⟨.value x, args.toArray, tys.toArray⟩, ty, pos, after, g⟩ rest fs k e h =
 r2 C (jK q.x (C.pol.own C.f) (yD C (C.pol.pm C.f (dst.getD 0)) (fnV (opv C.P e 0 x)) (yF C.P e args tys) h) (tK C q.N (C.pol.pm C.f (dst.getD 0)) (fnV (opv C.P e 0 x)) (yF C.P e args tys) h)) dst q rest fs k e :=
 nJ C fs k e h q rest (S4 C e h dst ty pos after g x args tys) (S5 C e h q dst ty pos after g x args tys)
theorem mq (fn : Nat) (caps : List Operand) : goW C (some true) q ⟨dst, .makeFunc (.func fn) #[] caps.toArray, ty, pos, after, g⟩ rest fs k e h = goR C q rest fs k (put e dst (.fn fn (yF C.P e caps []))) h := (yP C fs k e h q rest (by rfl)).trans rfl
theorem aC (v : V) : r1 C (some v) dst q rest fs k e h = goR C q rest fs k (put e dst v) h := rfl
theorem aB (v : V) : r2 C (some (v, h)) dst q rest fs k e = goR C q rest fs k (put e dst v) h := rfl
theorem ay : rh C (some h) dst q rest fs k e = goR C q rest fs k (put e dst .und) h := rfl
theorem ZP (a b : Code) : cK C (.t (.bool true)) a b p fs k e h = goC C a (2 * p) fs k e h := rfl
theorem dI (a b : Code) : cK C (.t (.bool false)) a b p fs k e h = goC C b (2 * p + 1) fs k e h := rfl
theorem Vu {C : Cx} {b : Bool} {a c : Code} {p : Nat} {fs : List Fr} {k : qg} {e : Env} {h : Heap} {r : Option wg} (ht : b = true → goC C a (2 * p) fs k e h = r) (hf : b = false → goC C c (2 * p + 1) fs k e h = r) : cK C (.t (.bool b)) a c p fs k e h = r := by
 cases b with
 | true => exact ht rfl
 | false => exact hf rfl
theorem Zg (x : Exi) (vals : List V) (outs : List Nat) : lK C (some (.loop x vals h)) outs fs k = goX C fs k x (zb outs vals) h := rfl
theorem dj (res : List ResultVar) : mG C (.call res) .ret e h = dY C.P C.m (vI C.P e h res) h := rfl
theorem ni (res : List ResultVar) : mG C (.call res) .normal e h = dY C.P C.m (vI C.P e h res) h := rfl
theorem je (gv : Bool) (res : List ResultVar) : mG C (.callO gv res) .ret e h = ma gv C.m (vI C.P e h res) h := rfl
theorem qY (gv : Bool) (res : List ResultVar) : mG C (.callO gv res) .normal e h = ma gv C.m (vI C.P e h res) h := rfl
theorem mF : mG C (.loop p) .normal e h = C.rc (.loop C.f p C.m (yl C.m ((C.pol.live C.f p).map e) h).1 (yl C.m ((C.pol.live C.f p).map e) h).2) := rfl
theorem jg (id : Nat) : mG C (.loop p) (.exit id) e h = some (.loop (.exit id) (yl C.m ((C.pol.outs C.f p).map e) h).1 (yl C.m ((C.pol.outs C.f p).map e) h).2) := rfl
theorem jf : mG C (.loop p) .ret e h = some (.loop .ret (yl C.m ((C.pol.outs C.f p).map e) h).1 (yl C.m ((C.pol.outs C.f p).map e) h).2) := rfl
end
theorem UI (e : Env) (d : Nat) (v : V) (t : Nat) : upd e d v t = if t = d then v else e t := rfl
theorem fW (e : Env) (d : Nat) (v : V) : put e (some d) v = upd e d v := rfl
theorem fX (e : Env) (v : V) : put e none v = e := rfl
/-- the machine's equations -/
theorem GO : type_of% Zx ∧ type_of% eZ ∧ type_of% ja ∧ type_of% eW ∧ type_of% eX ∧ type_of% Zy ∧ type_of% eV ∧ type_of% mE ∧ type_of% ar ∧ type_of% aq ∧ type_of% eU ∧ type_of% RG ∧ type_of% j9 ∧ type_of% eR ∧ type_of% j7 ∧ type_of% Zu ∧ type_of% Zs ∧ type_of% ng ∧ type_of% qV ∧ type_of% Zv ∧ type_of% nh ∧ type_of% qW ∧ type_of% Zw ∧ type_of% eT ∧ type_of% eS ∧ type_of% j8 ∧ type_of% j6 ∧ type_of% UP ∧ type_of% ep ∧ type_of% UO ∧ type_of% aS ∧ type_of% Rr ∧ type_of% aQ ∧ type_of% qT ∧ type_of% UQ ∧ type_of% aM ∧ type_of% aR ∧ type_of% UN ∧ type_of% kP ∧ type_of% oS ∧ type_of% aN ∧ type_of% mo ∧ type_of% oV ∧ type_of% aP ∧ type_of% oU ∧ type_of% aO ∧ type_of% kO ∧ type_of% kQ ∧ type_of% US ∧ type_of% mq ∧ type_of% aC ∧ type_of% aB ∧ type_of% ay ∧ type_of% ZP ∧ type_of% dI ∧ type_of% Zg ∧ type_of% dj ∧ type_of% ni ∧ type_of% je ∧ type_of% qY ∧ type_of% mF ∧ type_of% jg ∧ type_of% jf :=
 ⟨Zx, eZ, ja, eW, eX, Zy, eV, mE, ar, aq, eU, RG, j9, eR, j7, Zu, Zs, ng, qV, Zv, nh, qW, Zw, eT, eS, j8, j6, UP, ep, UO, aS, Rr, aQ, qT, UQ, aM, aR, UN, kP, oS, aN, mo, oV, aP, oU, aO, kO, kQ, US, mq, aC, aB, ay, ZP, dI, Zg, dj, ni, je, qY, mF, jg, jf⟩
end Go.Proofs.YtonbkdklidfmfaaGreatDoor.E
/- What a law's text needs besides: shapes of arguments, arithmetic in range, the policy's guard. Conditions: those of each lemma. -/
namespace Go.Proofs.YtonbkdklidfmfaaGreatDoor.E
set_option linter.unusedVariables false
set_option linter.unusedSimpArgs false
def dR (P : Program) (pm : Nat → Nat → PM) (live outs : Nat → Nat → List Nat) (dr : Nat → Bool) (ext : Nat → List V → Option V) (extO : Nat → List V → Heap → Option (V × Heap) := fun _ _ _ => none) (ow : Nat → Bool := fun _ => false) (gh : Nat → Nat → List Gh := fun _ _ => []) (dm : Nat → Nat → Bool := fun _ _ => false) : Pol :=
 let p0 : Pol := ⟨pm, live, outs, fun _ => false, dr, ext, extO, ow, gh, dm⟩
 ⟨pm, live, outs, fun f => match P.funcs[f]? with
  | some fn => match fn.body with
   | some c => !xA (ny P p0 f) fn.ntmps c
   | none => false
  | none => false, dr, ext, extO, ow, gh, dm⟩
theorem ea {P : Program} {pm : Nat → Nat → PM} {live outs : Nat → Nat → List Nat} {dr : Nat → Bool} {ext : Nat → List V → Option V} {extO : Nat → List V → Heap → Option (V × Heap)} {ow : Nat → Bool} {gh : Nat → Nat → List Gh} {dm : Nat → Nat → Bool} : ∀ f fn c, (dR P pm live outs dr ext extO ow gh dm).no f = false → P.funcs[f]? = some fn → fn.body = some c → xA (ny P (dR P pm live outs dr ext extO ow gh dm) f) fn.ntmps c = true := by
 intro f fn c h h1 h2
 simp only [dR] at h
 rw [h1] at h
 simp only [h2] at h
 have : xA (ny P ⟨pm, live, outs, fun _ => false, dr, ext, extO, ow, gh, dm⟩ f) fn.ntmps c = true := by simpa using h
 exact this
variable {P : Program}
theorem WT.Sq {t : TypeId} {k : IntKind} {cs : List T} (ht : P.underlying t = some (.int k)) (h : WT P t cs) : ∃ n, cs = [.int k n] ∧ (Lit.int k n).wf = true := by
 cases h with
 | int _ k' n h hw => rw [ht] at h; cases h; exact ⟨n, rfl, hw⟩
 | bool _ b h => rw [ht] at h; cases h
 | str _ l h => rw [ht] at h; cases h
 | list _ e es h => rw [ht] at h; cases h
 | struct _ fs cs h => rw [ht] at h; cases h
theorem WT.WU {t : TypeId} {cs : List T} (ht : P.underlying t = some .bool) (h : WT P t cs) : ∃ b, cs = [.bool b] := by
 cases h with
 | int _ k' n h hw => rw [ht] at h; cases h
 | bool _ b h => exact ⟨b, rfl⟩
 | str _ l h => rw [ht] at h; cases h
 | list _ e es h => rw [ht] at h; cases h
 | struct _ fs cs h => rw [ht] at h; cases h
theorem WT.rK {t : TypeId} {cs : List T} (ht : P.underlying t = some .string) (h : WT P t cs) : ∃ l, cs = [.str l] ∧ l.length ≤ 9223372036854775807 := by
 cases h with
 | int _ k' n h hw => rw [ht] at h; cases h
 | bool _ b h => rw [ht] at h; cases h
 | str _ l h hl => exact ⟨l, rfl, hl⟩
 | list _ e es h => rw [ht] at h; cases h
 | struct _ fs cs h => rw [ht] at h; cases h
theorem WT.lp {t e : TypeId} {cs : List T} (ht : P.underlying t = some (.slice e)) (h : WT P t cs) : ∃ es, cs = [.list (P.cellsOf e) es] ∧ es.length ≤ 9223372036854775807 ∧ ∀ c ∈ es, WT P e c := by
 cases h with
 | int _ k' n h hw => rw [ht] at h; cases h
 | bool _ b h => rw [ht] at h; cases h
 | str _ l h hl => rw [ht] at h; cases h
 | list _ e es h hl hs => rw [ht] at h; cases h; exact ⟨es, rfl, hl, hs⟩
 | struct _ fs cs h => rw [ht] at h; cases h
theorem WT.qv {t : TypeId} {fs : Array Go.Field} {cs : List T} (ht : P.underlying t = some (.struct fs)) (h : WT P t cs) : cs.length = P.cellsOf t ∧ ∀ f ∈ fs.toList, WT P f.type ((cs.drop f.offset).take (P.cellsOf f.type)) := by
 cases h with
 | int _ k' n h hw => rw [ht] at h; cases h
 | bool _ b h => rw [ht] at h; cases h
 | str _ l h hl => rw [ht] at h; cases h
 | list _ e es h => rw [ht] at h; cases h
 | struct _ fs cs h hl hs => rw [ht] at h; cases h; exact ⟨hl, hs⟩
theorem WTA.Sp {xs : List V} (h : WTA P [] xs) : xs = [] := by cases h; rfl
theorem WTA.eQ {t : TypeId} {ts : List TypeId} {xs : List V} (h : WTA P (t :: ts) xs) : ∃ cs v vs, xs = v :: vs ∧ WT P t cs ∧ zd (zS P t) (cs.map .t) = some v ∧ WTA P ts vs := by
 cases h with
 | cons _ _ cs v vs h hp hs => exact ⟨cs, v, vs, rfl, h, hp, hs⟩
theorem zo {x : Int} (h : -9223372036854775808 ≤ x ∧ x ≤ 9223372036854775807) : IntKind.i64.wrap x = x := Go.IntWalk.i64_in x h
/-- the rows' new numbers, step by step -/
def gz : List Nat → Nat → Nat → Option Nat
 | [], _, _ => none
 | x :: xs, r, n => if x = r then some n else gz xs r (n + 1)
theorem Zm : ∀ (ids : List Nat) (r n : Nat), gz ids r n = if ids.idxOf r < ids.length then some (ids.idxOf r + n) else none
 | [], r, n => by simp [gz]
 | x :: xs, r, n => by
  simp only [gz]
  by_cases h : x = r
  · subst h; simp
  · rw [if_neg h, Zm xs r (n + 1), List.idxOf_cons]
    have : (x == r) = false := by simpa using h
    simp only [this, cond_false, List.length_cons, Nat.add_lt_add_iff_right]
    split
    · congr 1; omega
    · rfl
theorem idx_eq (ids : List Nat) (r : Nat) : idx ids r = gz ids r 0 := by rw [Zm]; rfl
def Rj (h : Heap) (r : Nat) : Blk := h[r]?.getD .dead
def pU (ids : List Nat) (h : Heap) : List Nat → Heap
 | [] => []
 | r :: rs => zn (idx ids) (Rj h r) :: pU ids h rs
theorem fY (ids : List Nat) (h : Heap) : ∀ l : List Nat, pU ids h l = l.map fun r => zn (idx ids) (h[r]?.getD .dead)
 | [] => rfl
 | r :: rs => by simp only [pU, Rj, List.map_cons, fY ids h rs]
def nw (h : Heap) : List Nat → List Nat
 | [] => []
 | r :: rs => xx h r ++ nw h rs
theorem dJ (h : Heap) : ∀ l : List Nat, nw h l = l.flatMap (xx h)
 | [] => rfl
 | r :: rs => by simp only [nw, List.flatMap_cons, dJ h rs]
def uS (h : Heap) : Nat → List Nat → List Nat
 | 0, ids => ids
 | n + 1, ids => uS h n (yS ids (nw h ids))
theorem rn (h : Heap) : ∀ (n : Nat) (ids : List Nat), uS h n ids = reach h n ids
 | 0, ids => rfl
 | n + 1, ids => by simp only [uS, reach, dJ, rn h n]
theorem mn (h : Heap) (args : List V) : xu h args = uS h 3 (yS [] (refs.refss args)) := (rn h 3 _).symm
def sX : Nat → Nat → List Nat
 | 0, _ => []
 | n + 1, k => k :: sX n (k + 1)
theorem kE : ∀ (n k : Nat), sX n k = List.range' k n
 | 0, k => rfl
 | n + 1, k => by simp only [sX, List.range'_succ, kE n (k + 1)]
def pK (ids : List Nat) (vals : List V) (h : Heap) : List V × Heap := (ren.rens (idx ids) vals, pU ids h ids)
theorem ee (m : Nat) (vals : List V) (h : Heap) : yl m vals h = pK (uS h 3 (yS (sX m 0) (refs.refss vals))) vals h := by
 unfold yl pK
 simp only [rn, fY, kE, List.range_eq_range']
theorem pK_1 (ids : List Nat) (vals : List V) (h : Heap) : (pK ids vals h).1 = ren.rens (idx ids) vals := rfl
theorem pK_2 (ids : List Nat) (vals : List V) (h : Heap) : (pK ids vals h).2 = pU ids h ids := rfl
theorem kM (t : TypeId) : (Op.alloc t).operands.toList = [] := rfl
theorem eh (x : Operand) : (Op.move x).operands.toList = [x] := rfl
theorem ml (x : Operand) : (Op.assign x).operands.toList = [x] := rfl
theorem aJ (t : TypeId) (x : Operand) : (Op.box t x).operands.toList = [x] := rfl
theorem ei (t : TypeId) (x : Operand) : (Op.load t x).operands.toList = [x] := rfl
theorem ef (o : UnOp) (t : TypeId) (x : Operand) : (Op.unOp o t x).operands.toList = [x] := rfl
theorem oP (t u : TypeId) (x : Operand) : (Op.convert t u x).operands.toList = [x] := rfl
theorem qS (x : Operand) : (Op.nilCheck x).operands.toList = [x] := rfl
theorem q9 (t : TypeId) (x : Operand) (i : Nat) : (Op.fieldAddr t x i).operands.toList = [x] := rfl
theorem kJ (t : TypeId) (x : Operand) (i : Nat) : (Op.field t x i).operands.toList = [x] := rfl
theorem oO (x : Operand) (i : Nat) : (Op.extract x i).operands.toList = [x] := rfl
theorem eg (c a b : Operand) : (Op.pick c a b).operands.toList = [c, a, b] := rfl
theorem kK (t : TypeId) (l : List (Nat × Operand)) : (Op.build t l.toArray).operands.toList = l.map (·.2) := by simp [Op.operands]
theorem sx (t : TypeId) (n : Nat) (l : List (Nat × Operand)) : (Op.buildSlice t n l.toArray).operands.toList = l.map (·.2) := by simp [Op.operands]
theorem kG (t : TypeId) (x y : Operand) : (Op.store t x y).operands.toList = [x, y] := rfl
theorem kL (o : BinOp) (t u : TypeId) (x y : Operand) : (Op.binOp o t x y u).operands.toList = [x, y] := rfl
theorem q7 (t : TypeId) (x y : Operand) : (Op.makeSlice t x y).operands.toList = [x, y] := rfl
theorem q8 (t : TypeId) (x y : Operand) : (Op.indexAddr t x y).operands.toList = [x, y] := rfl
theorem kI (t : TypeId) (x y : Operand) : (Op.index t x y).operands.toList = [x, y] := rfl
theorem kH (t : TypeId) (x : Operand) (lo hi mx : Option Operand) : (Op.slice t x lo hi mx).operands.toList = x :: (lo.toList ++ hi.toList ++ mx.toList) := by cases lo <;> cases hi <;> cases mx <;> rfl
theorem ej (f : Operand) (l : List Operand) (tys : Array TypeId) : (Op.call ⟨.value f, l.toArray, tys⟩).operands.toList = f :: l := by simp [Op.operands, Call.operands]
theorem oQ (b : Builtin) (l : List Operand) (tys : Array TypeId) : (Op.call ⟨.builtin b, l.toArray, tys⟩).operands.toList = l := by simp [Op.operands, Call.operands]
theorem OPL : type_of% kM ∧ type_of% eh ∧ type_of% ml ∧ type_of% aJ ∧ type_of% ei ∧ type_of% ef ∧ type_of% oP ∧ type_of% qS ∧ type_of% q9 ∧ type_of% kJ ∧ type_of% oO ∧ type_of% eg ∧ type_of% kK ∧ type_of% sx ∧ type_of% kG ∧ type_of% kL ∧ type_of% q7 ∧ type_of% q8 ∧ type_of% kI ∧ type_of% kH ∧ type_of% ej ∧ type_of% oQ :=
 ⟨kM, eh, ml, aJ, ei, ef, oP, qS, q9, kJ, oO, eg, kK, sx, kG, kL, q7, q8, kI, kH, ej, oQ⟩
/-- guards -/
def rS : List Oper → Nat → Option Nat
 | [], _ => none
 | o :: _, 0 => o.dst
 | _ :: r, n + 1 => rS r n
theorem du : ∀ (l : List Oper) (j : Nat), rS l j = (l[j]?).bind (·.dst)
 | [], j => by simp [rS]
 | o :: r, 0 => rfl
 | o :: r, j + 1 => by simp [rS, du r j]
def rM (v : V) (b : Bool) : Option Bool :=
 match v with
 | .t (.bool c) => some (c == b)
 | .und => some false
 | _ => none
def Tj (d : Option Nat) (b : Bool) (e : Env) : Option Bool :=
 match d with
 | some d => rM (e d) b
 | none => none
theorem nR (l : List Oper) (dst : Option Nat) (op : Op) (ty : TypeId) (pos : String) (after : Array Edge) (j : Nat) (b : Bool) (e : Env) : want l.toArray ⟨dst, op, ty, pos, after, some (j, b)⟩ e = Tj (rS l j) b e := by
 unfold want Tj rM
 rw [du]
 simp only [List.getElem?_toArray]
 cases (l[j]?).bind (·.dst) <;> rfl
theorem nT (d : Nat) (b : Bool) (e : Env) : Tj (some d) b e = rM (e d) b := rfl
theorem fG : rM (.t (.bool true)) true = some true := rfl
theorem fH : rM (.t (.bool true)) false = some false := rfl
theorem fI : rM (.t (.bool false)) true = some false := rfl
theorem fJ : rM (.t (.bool false)) false = some true := rfl
theorem ah (b : Bool) : rM .und b = some false := rfl
theorem df {α : Type} (es : List α) (k : Nat) : uX es (k : Int) = es[k]? := by simp [uX]
theorem u6 {α : Type} (es : List α) : uX es 0 = es[0]? := by simp [uX]
theorem zu {pol : Pol} {g : Nat} {args : List V} {v : V} (h : EV P pol (.call g args []) = some (.call v [])) : zm (EV P pol) g args = some v := by
 unfold zm; rw [h]
end Go.Proofs.YtonbkdklidfmfaaGreatDoor.E
/- Where a walk stands at a test: its two roads. Conditions: those of each lemma. -/
namespace Go.Proofs.YtonbkdklidfmfaaGreatDoor.E
set_option linter.unusedVariables false
set_option linter.unusedSimpArgs false
section
variable {C : Cx} {a c : Code} {n : Nat} {fs : List Fr} {k : qg} {e : Env} {h : Heap} {r : Option wg} {p : Prop} [Decidable p]
theorem sj {b : Bool} (ht : b = true → goC C a (2 * n) fs k e h = r) (hf : b = false → goC C c (2 * n + 1) fs k e h = r) : cK C (.t (.bool b)) a c n fs k e h = r := Vu ht hf
variable {q : Rg} {o : Oper} {rest : List Oper} {w : Bool}
theorem si {b : Bool} (ht : b = true → goW C (rM (.t (.bool true)) w) q o rest fs k e h = r) (hf : b = false → goW C (rM (.t (.bool false)) w) q o rest fs k e h = r) : goW C (rM (.t (.bool b)) w) q o rest fs k e h = r := by
 cases b with
 | true => exact ht rfl
 | false => exact hf rfl
end
/-- what is left of a budget -/
def left (n : Int) (b : Nat) : Int := if n - (b : Int) < 0 then -1 else n - (b : Int)
theorem rJ (n : Int) (b : Nat) : (left n b < 0) = (n < (b : Int)) := by unfold left; split <;> simp <;> omega
theorem left_eq {n : Int} {b : Nat} (h : (b : Int) ≤ n) : left n b = n - (b : Int) := by unfold left; rw [if_neg (by omega)]
theorem YH {x n : Int} {b : Nat} (h : (n < (b : Int) ∧ x = -1) ∨ ((b : Int) ≤ n ∧ x = n - (b : Int))) : some (wg.call (.t (.int .i64 x)) []) = some (wg.call (.t (.int .i64 (left n b))) []) := by
 have : x = left n b := by
  unfold left
  split <;> omega
 rw [this]
theorem qt {x n : Int} {b : Nat} (h : (n < (b : Int) ∧ x = -1) ∨ ((b : Int) ≤ n ∧ x = n - (b : Int))) : wg.call (.t (.int .i64 x)) [] = wg.call (.t (.int .i64 (left n b))) [] := Option.some.inj (YH h)
theorem yY {m n : Nat} (h : m ≤ n) : (m ≤ n) = True := eq_true h
/-- a place in a list, told by what stands ahead of it -/
theorem sk {α : Type} (pre : List α) (b : α) (rest : List α) : (pre ++ b :: rest)[pre.length]? = some b := by simp
theorem lz : ∀ l : List T, asArg.asArgs (l.map V.t) = some (l.map V.t)
 | [] => rfl
 | x :: l => by simp only [List.map_cons, asArg.asArgs, asArg, lz l]
theorem iH : ∀ l : List T, refs.refss (l.map V.t) = []
 | [] => rfl
 | x :: l => by simp only [List.map_cons, refs.refss, refs, iH l, List.append_nil]
theorem bK (m : Nat → Option Nat) : ∀ l : List T, ren.rens m (l.map V.t) = l.map V.t
 | [] => rfl
 | x :: l => by simp only [List.map_cons, ren.rens, ren, bK m l]
theorem a8 : ∀ l : List T, wD (l.map V.t) = some l
 | [] => rfl
 | x :: l => by simp only [List.map_cons, wD, a8 l]
section
variable {P : Program} {ty : TypeId} {k1 k2 : IntKind} {x y : Int} {h : Heap}
theorem hX {d mx : Nat} (h0 : 0 ≤ x) (h1 : x ≤ (mx : Int)) : cf d mx (some (.t (.int k1 x))) = some x.toNat := by
 simp only [cf]; rw [if_pos ⟨h0, h1⟩]
theorem bX {n : Nat} (h0 : 0 ≤ x) (h1 : x ≤ y) (h2 : y ≤ (n : Int)) : nz n (some (.t (.int k1 x))) (some (.t (.int k2 y))) = some (x.toNat, y.toNat) := by
 unfold nz
 rw [hX (by omega) h2]
 simp only
 rw [hX h0 (by omega)]
theorem bY {n : Nat} (h0 : 0 ≤ x) (h1 : x ≤ (n : Int)) : nz n (some (.t (.int k1 x))) none = some (x.toNat, n) := by
 unfold nz
 simp only [cf]
 rw [if_pos ⟨h0, h1⟩]
theorem bZ {n : Nat} (h0 : 0 ≤ y) (h2 : y ≤ (n : Int)) : nz n none (some (.t (.int k2 y))) = some (0, y.toNat) := by
 unfold nz
 rw [hX h0 h2]
 simp only [cf]
theorem dw {l : List UInt8} (h0 : 0 ≤ x) (h1 : x ≤ y) (h2 : y ≤ (l.length : Int)) : cut P ty (.t (.str l)) (some (.t (.int k1 x))) (some (.t (.int k2 y))) none h = if isStr P ty = true then some (.t (.str ((l.drop x.toNat).take (y.toNat - x.toNat)))) else none := by
 simp only [cut, bX h0 h1 h2, Option.isNone_none, Bool.and_true]
theorem dx {l : List UInt8} (h0 : 0 ≤ x) (h1 : x ≤ (l.length : Int)) : cut P ty (.t (.str l)) (some (.t (.int k1 x))) none none h = if isStr P ty = true then some (.t (.str (l.drop x.toNat))) else none := by
 simp only [cut, bY h0 h1, Option.isNone_none, Bool.and_true]
 rw [List.take_of_length_le (by simp)]
theorem dy {l : List UInt8} (h0 : 0 ≤ y) (h2 : y ≤ (l.length : Int)) : cut P ty (.t (.str l)) none (some (.t (.int k2 y))) none h = if isStr P ty = true then some (.t (.str (l.take y.toNat))) else none := by
 simp only [cut, bZ h0 h2, Option.isNone_none, Bool.and_true, List.drop_zero, Nat.sub_zero]
theorem jw {sz : Nat} {es : List (List T)} (h0 : 0 ≤ x) (h1 : x ≤ y) (h2 : y ≤ (es.length : Int)) : cut P ty (.t (.list sz es)) (some (.t (.int k1 x))) (some (.t (.int k2 y))) none h = match y8 P ty with
 | some el => if (sz == zC P el || es.isEmpty) = true then some (.t (.list sz ((es.drop x.toNat).take (y.toNat - x.toNat)))) else none
 | none => none := by
 simp only [cut, bX h0 h1 h2, Option.isNone_none, Bool.and_true]
 cases y8 P ty <;> rfl
theorem jx {sz : Nat} {es : List (List T)} (h0 : 0 ≤ x) (h1 : x ≤ (es.length : Int)) : cut P ty (.t (.list sz es)) (some (.t (.int k1 x))) none none h = match y8 P ty with
 | some el => if (sz == zC P el || es.isEmpty) = true then some (.t (.list sz (es.drop x.toNat))) else none
 | none => none := by
 have e : (es.drop x.toNat).take (es.length - x.toNat) = es.drop x.toNat := List.take_of_length_le (by simp)
 simp only [cut, bY h0 h1, Option.isNone_none, Bool.and_true, e]
 cases y8 P ty <;> rfl
theorem jy {sz : Nat} {es : List (List T)} (h0 : 0 ≤ y) (h2 : y ≤ (es.length : Int)) : cut P ty (.t (.list sz es)) none (some (.t (.int k2 y))) none h = match y8 P ty with
 | some el => if (sz == zC P el || es.isEmpty) = true then some (.t (.list sz (es.take y.toNat))) else none
 | none => none := by
 simp only [cut, bZ h0 h2, Option.isNone_none, Bool.and_true, List.drop_zero, Nat.sub_zero]
 cases y8 P ty <;> rfl
theorem ZH {r off len : Nat} {cap : Option Nat} (h0 : 0 ≤ x) (h1 : x ≤ y) (h2 : y ≤ (len : Int)) : cut P ty (.sl r off len cap) (some (.t (.int k1 x))) (some (.t (.int k2 y))) none h = match y8 P ty with
 | some el => if ((h[r]?.bind vP) == some (zC P el)) = true then some (.sl r (off + x.toNat) (y.toNat - x.toNat) (cap.map (· - x.toNat))) else none
 | none => none := by
 simp only [cut, bX h0 h1 h2]
 cases y8 P ty <;> rfl
theorem ZI {r off len : Nat} {cap : Option Nat} (h0 : 0 ≤ x) (h1 : x ≤ (len : Int)) : cut P ty (.sl r off len cap) (some (.t (.int k1 x))) none none h = match y8 P ty with
 | some el => if ((h[r]?.bind vP) == some (zC P el)) = true then some (.sl r (off + x.toNat) (len - x.toNat) (cap.map (· - x.toNat))) else none
 | none => none := by
 simp only [cut, bY h0 h1]
 cases y8 P ty <;> rfl
theorem ZJ {r off len : Nat} {cap : Option Nat} (h0 : 0 ≤ y) (h2 : y ≤ (len : Int)) : cut P ty (.sl r off len cap) none (some (.t (.int k2 y))) none h = match y8 P ty with
 | some el => if ((h[r]?.bind vP) == some (zC P el)) = true then some (.sl r (off + 0) (y.toNat - 0) (cap.map (· - 0))) else none
 | none => none := by
 simp only [cut, bZ h0 h2]
 cases y8 P ty <;> rfl
theorem nU (n : Nat) : ((n : Int) + 1).toNat = n + 1 := by omega
end
theorem de {α : Type} (es : List α) : uX es (1 : Int) = es[1]? := rfl
theorem dd {α : Type} (es : List α) : uX es (2 : Int) = es[2]? := rfl
end Go.Proofs.YtonbkdklidfmfaaGreatDoor.E

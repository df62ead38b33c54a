/- The evaluator without a bound on rounds: its answers, its equations. Conditions: those of each lemma. -/
import Derived.Test.YtdhejeigbjmncaaDoorE13
namespace Go.Proofs.YtdhejeigbjmncaaDoor.E
set_option linter.unusedVariables false
set_option linter.unusedSimpArgs false

variable {P : Program} {pol : Pol}

open Classical in
/-- what the evaluator answers, with as many rounds as it takes -/
noncomputable def EV (P : Program) (pol : Pol) : Rec := fun req => if h : ∃ r, ∃ n, it P pol n req = some r then some h.choose else none

def Le (a b : Rec) : Prop := ∀ req r, a req = some r → b req = some r
structure Cont {α : Type} (P : Program) (pol : Pol) (G : Rec → Option α) : Prop where
  mono : ∀ a b, Le a b → ∀ r, G a = some r → G b = some r
  cont : (∀ n, Le (it P pol n) (it P pol (n + 1))) → ∀ r, G (EV P pol) = some r → ∃ n, G (it P pol n) = some r
theorem Cont.const {α : Type} (x : Option α) : Cont P pol (fun _ => x) := ⟨fun _ _ _ _ h => h, fun _ r h => ⟨0, h⟩⟩
theorem Le.le (hm : ∀ n, Le (it P pol n) (it P pol (n + 1))) {n m : Nat} (h : n ≤ m) : Le (it P pol n) (it P pol m) := by
  induction h with
  | refl => exact fun _ _ x => x
  | step _ ih => exact fun req r x => hm _ req r (ih req r x)
theorem Cont.req (req : Req) : Cont P pol (fun rec => rec req) := by
  refine ⟨fun a b h r hr => h req r hr, fun hm r hr => ?_⟩
  unfold EV at hr
  split at hr
  · rename_i hx
    obtain ⟨n, hn⟩ := hx.choose_spec
    cases hr
    exact ⟨n, hn⟩
  · cases hr
theorem Cont.bind {α β : Type} {G : Rec → Option α} {H : α → Rec → Option β} (hG : Cont P pol G) (hH : ∀ a, Cont P pol (H a)) : Cont P pol (fun rec => (G rec).bind fun a => H a rec) := by
  refine ⟨fun a b h r hr => ?_, fun hm r hr => ?_⟩
  · cases hg : G a with
    | none => simp [hg] at hr
    | some x =>
      simp only [hg, Option.bind_some] at hr
      simp only [hG.mono a b h x hg, Option.bind_some]
      exact (hH x).mono a b h r hr
  · cases hg : G (EV P pol) with
    | none => simp [hg] at hr
    | some x =>
      simp only [hg, Option.bind_some] at hr
      obtain ⟨n, hn⟩ := hG.cont hm x hg
      obtain ⟨m, hm'⟩ := (hH x).cont hm r hr
      refine ⟨max n m, ?_⟩
      simp only [hG.mono _ _ (Le.le hm (Nat.le_max_left n m)) x hn, Option.bind_some]
      exact (hH x).mono _ _ (Le.le hm (Nat.le_max_right n m)) r hm'
theorem Cont.congr {α : Type} {G G' : Rec → Option α} (h : ∀ rec, G' rec = G rec) (hG : Cont P pol G) : Cont P pol G' := by
  have : G' = G := funext h
  rw [this]; exact hG

theorem callPure_cont (g : Nat) (args : List V) : Cont P pol (fun rec => callPure rec g args) :=
  (Cont.bind (Cont.req (.call g args [])) (fun r => Cont.const (match r with | .call v [] => some v | _ => none))).congr fun rec => by
    unfold callPure
    cases rec (.call g args []) with
    | none => rfl
    | some r => cases r with
      | call v h => cases h <;> rfl
      | loop => rfl
theorem callOp_cont (f : Nat) (N : Option Nat) (dst : Option Nat) (g : Nat) (args : List V) (h : Heap) : Cont P pol (fun rec => callOp pol rec f N dst g args h) := by
  unfold callOp
  cases pol.pm f (dst.getD 0) with
  | pure =>
    simp only
    cases asArg.asArgs args with
    | none =>
      simp only
      cases snapV.snapVs h args with
      | none => exact Cont.const none
      | some as => exact (Cont.bind (callPure_cont g as) (fun v => Cont.const (if flatV v then some (v, h) else none))).congr fun rec => by simp only; cases callPure rec g as <;> rfl
    | some as => exact (Cont.bind (callPure_cont g as) (fun v => Cont.const (some (v, h)))).congr fun rec => by simp only; cases callPure rec g as <;> rfl
  | frz =>
    simp only
    cases give.gives h args with
    | none => exact Cont.const none
    | some x => exact (Cont.bind (callPure_cont g x.1) (fun v => Cont.const (some (v, x.2)))).congr fun rec => by simp only; cases callPure rec g x.1 <;> rfl
  | opn gv =>
    show Cont P pol (fun rec => (match rec (.callO gv g (packH 0 args h).1 (packH 0 args h).2) with
      | some (.call v h1) => openBack N (openIds h args) v h1 h
      | _ => none))
    refine (Cont.bind (Cont.req (.callO gv g (packH 0 args h).1 (packH 0 args h).2)) (fun r => Cont.const (match r with | .call v h1 => openBack N (openIds h args) v h1 h | _ => none))).congr fun rec => ?_
    generalize rec (.callO gv g (packH 0 args h).1 (packH 0 args h).2) = x
    cases x with
    | none => rfl
    | some r => cases r <;> rfl
theorem evOp_cont (f : Nat) (N : Option Nat) (o : Oper) (e : Env) (h : Heap) : Cont P pol (fun rec => evOp P pol rec f N o e h) := by
  obtain ⟨dst, op, ty, pos, after, guard⟩ := o
  cases op with
  | call c =>
    obtain ⟨callee, args, tys⟩ := c
    cases callee with
    | value x =>
      simp only [evOp]
      cases fnV (opv P e 0 x) with
      | none => exact Cont.const none
      | some y => exact callOp_cont f N dst y.1 _ h
    | builtin b => exact Cont.const (blt P N b tys.toList (opvs P e args.toList tys.toList) h)
    | invoke r m => exact Cont.const none
  | makeFunc fn first caps => cases fn <;> exact Cont.const _
  | _ => simp only [evOp]; exact Cont.const _
theorem evOne_cont (f : Nat) (N : Option Nat) (ops : Array Oper) (o : Oper) (e : Env) (h : Heap) : Cont P pol (fun rec => evOne P pol rec f N ops o e h) := by
  unfold evOne
  cases want ops o e with
  | none => exact Cont.const none
  | some b => cases b with
    | false => exact Cont.const _
    | true => exact (Cont.bind (evOp_cont f N o e h) (fun x => Cont.const (some (put e o.dst x.1, x.2)))).congr fun rec => by simp only; cases evOp P pol rec f N o e h <;> rfl
theorem evOps_cont (f : Nat) (ops : Array Oper) : ∀ (l : List Oper) (e : Env) (h : Heap), Cont P pol (fun rec => evOps P pol rec f ops l e h)
  | [], e, h => Cont.const _
  | o :: l, e, h => (Cont.bind (evOne_cont f none ops o e h) (fun x => evOps_cont f ops l x.1 x.2)).congr fun rec => by simp only [evOps]; cases evOne P pol rec f none ops o e h <;> rfl
theorem evD_cont (f : Nat) (ops : Array Oper) : ∀ (Ns : List (Option Nat)) (l : List Oper) (e : Env) (h : Heap), Cont P pol (fun rec => evD P pol rec f ops Ns l e h)
  | [], [], e, h => Cont.const _
  | [], _ :: _, e, h => Cont.const none
  | _ :: _, [], e, h => Cont.const none
  | N :: Ns, o :: l, e, h => (Cont.bind (evOne_cont f N ops o e h) (fun x => Cont.bind (evD_cont f ops Ns l x.1 x.2) (fun y => Cont.const (some (foot N o e h :: y.1, y.2.1, y.2.2))))).congr fun rec => by
    simp only [evD]
    cases evOne P pol rec f N ops o e h with
    | none => rfl
    | some x => simp only [Option.bind_some]; cases evD P pol rec f ops Ns l x.1 x.2 <;> rfl
theorem evDraw_cont (f : Nat) (ops : Array Oper) (e : Env) (h : Heap) : Cont P pol (fun rec => evDraw P pol rec f ops e h) :=
  (Cont.bind (evD_cont f ops (nids pol f h.length ops.toList) ops.toList e (h ++ List.replicate (cntNew pol f ops.toList) .dead)) (fun y => Cont.const (if dynOK pol f ops y.1 then some (y.2.1, y.2.2) else none))).congr fun rec => by
    unfold evDraw
    cases evD P pol rec f ops (nids pol f h.length ops.toList) ops.toList e (h ++ List.replicate (cntNew pol f ops.toList) .dead) <;> rfl
theorem evC_cont (f m : Nat) : ∀ (c : Code) (p : Nat) (e : Env) (h : Heap), Cont P pol (fun rec => evC P pol rec f m c p e h)
  | .skip, p, e, h => Cont.const _
  | .exit _, p, e, h => Cont.const _
  | .ret, p, e, h => Cont.const _
  | .seq a b, p, e, h => (Cont.bind (evC_cont f m a (2 * p) e h) (fun x => (match x with
      | (.normal, e', h') => evC_cont f m b (2 * p + 1) e' h'
      | (.exit id, e', h') => Cont.const (some (Exi.exit id, e', h'))
      | (.ret, e', h') => Cont.const (some (Exi.ret, e', h')) : Cont P pol (fun rec => match x with
      | (.normal, e', h') => evC P pol rec f m b (2 * p + 1) e' h'
      | (.exit id, e', h') => some (.exit id, e', h')
      | (.ret, e', h') => some (.ret, e', h'))))).congr fun rec => by
        simp only [evC]
        cases evC P pol rec f m a (2 * p) e h with
        | none => rfl
        | some x => obtain ⟨x, e', h'⟩ := x; cases x <;> rfl
  | .cond c a b, p, e, h => by
    simp only [evC]
    split
    · rename_i t ht
      cases t with
      | true => exact evC_cont f m a (2 * p) e h
      | false => exact evC_cont f m b (2 * p + 1) e h
    · exact Cont.const none
  | .block id c, p, e, h => (Cont.bind (evC_cont f m c (2 * p) e h) (fun x => Cont.const (match x with
      | (.exit id', e', h') => if id' = id then some (.normal, e', h') else some (.exit id', e', h')
      | r => some r))).congr fun rec => by
        simp only [evC]
        cases evC P pol rec f m c (2 * p) e h with
        | none => rfl
        | some x => obtain ⟨x, e', h'⟩ := x; cases x <;> rfl
  | .loop _, p, e, h => (Cont.bind (Cont.req (.loop f p m (packH m ((pol.live f p).map e) h).1 (packH m ((pol.live f p).map e) h).2)) (fun x => Cont.const (match x with
      | .loop x vals h' => some (x, mkEnv (pol.outs f p) vals, h')
      | _ => none))).congr fun rec => by
        simp only [evC]
        cases rec (.loop f p m (packH m ((pol.live f p).map e) h).1 (packH m ((pol.live f p).map e) h).2) with
        | none => rfl
        | some x => cases x <;> rfl
  | .region _ ops draw, p, e, h => by
    simp only [evC]
    split
    · exact Cont.const none
    · split
      · exact (Cont.bind (evDraw_cont f ops e h) (fun x => Cont.const (some (Exi.normal, x.1, x.2)))).congr fun rec => by cases evDraw P pol rec f ops e h <;> rfl
      · exact (Cont.bind (evOps_cont f ops ops.toList e h) (fun x => Cont.const (some (Exi.normal, x.1, x.2)))).congr fun rec => by cases evOps P pol rec f ops ops.toList e h <;> rfl
  | .rangeFunc _ _ _ _, p, e, h => Cont.const _
  | .scope _, p, e, h => Cont.const _
  | .label _, p, e, h => Cont.const _
  | .goto _, p, e, h => Cont.const _
  | .refuse _, p, e, h => Cont.const _
theorem step_cont (req : Req) : Cont P pol (fun rec => step P pol rec req) := by
  cases req with
  | call f args h =>
    simp only [step]
    cases pol.ext f args with
    | some v => exact Cont.const _
    | none =>
    simp only
    cases P.funcs[f]? with
    | none => exact Cont.const none
    | some fn =>
      simp only
      cases fn.body with
      | none => exact Cont.const none
      | some c =>
        simp only
        split
        · exact Cont.const none
        · refine (Cont.bind (evC_cont f h.length c 1 (mkEnv (List.range args.length) args) h) (fun x => Cont.const (match x with
            | (.normal, e', h') => (match resV P e' h' fn.results.toList with
              | some vs => match give h' (tupV vs) with
                | some (v, h'') => some (Resp.call v (h''.take h.length))
                | none => none
              | none => none)
            | (.ret, e', h') => (match resV P e' h' fn.results.toList with
              | some vs => match give h' (tupV vs) with
                | some (v, h'') => some (Resp.call v (h''.take h.length))
                | none => none
              | none => none)
            | _ => none))).congr fun rec => ?_
          cases evC P pol rec f h.length c 1 (mkEnv (List.range args.length) args) h with
          | none => rfl
          | some x => obtain ⟨x, e', h'⟩ := x; cases x <;> rfl
  | callO gv f args h =>
    simp only [step]
    cases P.funcs[f]? with
    | none => exact Cont.const none
    | some fn =>
      simp only
      cases fn.body with
      | none => exact Cont.const none
      | some c =>
        simp only
        split
        · exact Cont.const none
        · refine (Cont.bind (evC_cont f h.length c 1 (mkEnv (List.range args.length) args) h) (fun x => Cont.const (match x with
            | (.normal, e', h') => retO gv h.length (resV P e' h' fn.results.toList) h'
            | (.ret, e', h') => retO gv h.length (resV P e' h' fn.results.toList) h'
            | _ => none))).congr fun rec => ?_
          cases evC P pol rec f h.length c 1 (mkEnv (List.range args.length) args) h with
          | none => rfl
          | some x => obtain ⟨x, e', h'⟩ := x; cases x <;> rfl
  | loop f p m vals h =>
    simp only [step]
    cases P.funcs[f]? with
    | none => exact Cont.const none
    | some fn =>
      simp only
      cases fn.body with
      | none => exact Cont.const none
      | some c =>
        simp only
        split
        · rename_i b hb
          refine (Cont.bind (evC_cont f m b (2 * p) (mkEnv (pol.live f p) vals) h) (fun x => (match x with
            | (.normal, e', h') => Cont.req (.loop f p m (packH m ((pol.live f p).map e') h').1 (packH m ((pol.live f p).map e') h').2)
            | (.exit id, e', h') => Cont.const (some (Resp.loop (.exit id) (packH m ((pol.outs f p).map e') h').1 (packH m ((pol.outs f p).map e') h').2))
            | (.ret, e', h') => Cont.const (some (Resp.loop .ret (packH m ((pol.outs f p).map e') h').1 (packH m ((pol.outs f p).map e') h').2)) : Cont P pol (fun rec => match x with
            | (.normal, e', h') => rec (.loop f p m (packH m ((pol.live f p).map e') h').1 (packH m ((pol.live f p).map e') h').2)
            | (.exit id, e', h') => some (.loop (.exit id) (packH m ((pol.outs f p).map e') h').1 (packH m ((pol.outs f p).map e') h').2)
            | (.ret, e', h') => some (.loop .ret (packH m ((pol.outs f p).map e') h').1 (packH m ((pol.outs f p).map e') h').2))))).congr fun rec => ?_
          cases evC P pol rec f m b (2 * p) (mkEnv (pol.live f p) vals) h with
          | none => rfl
          | some x => obtain ⟨x, e', h'⟩ := x; cases x <;> rfl
        · exact Cont.const none
theorem it_mono : ∀ n, Le (it P pol n) (it P pol (n + 1))
  | 0 => fun req r h => by simp [it] at h
  | n + 1 => fun req r h => (step_cont req).mono _ _ (it_mono n) r h
theorem EV_of {n : Nat} {req : Req} {r : Resp} (h : it P pol n req = some r) : EV P pol req = some r := by
  unfold EV
  have hx : ∃ r, ∃ n, it P pol n req = some r := ⟨r, n, h⟩
  rw [dif_pos hx]
  obtain ⟨m, hm⟩ := hx.choose_spec
  have h1 := Le.le it_mono (Nat.le_max_left n m) req r h
  have h2 := Le.le it_mono (Nat.le_max_right n m) req _ hm
  rw [h1] at h2
  exact h2.symm
theorem EV_it {req : Req} {r : Resp} (h : EV P pol req = some r) : ∃ n, it P pol n req = some r := (Cont.req req).cont it_mono r h
/-- one step from the evaluator's own answers -/
theorem EV_step {req : Req} {r : Resp} (h : step P pol (EV P pol) req = some r) : EV P pol req = some r := by
  obtain ⟨n, hn⟩ := (step_cont req).cont it_mono r h
  exact EV_of (n := n + 1) hn
/-- what is shown by other means -/
theorem EV_ext {g : Nat} {args : List V} {v : V} (h : pol.ext g args = some v) : EV P pol (.call g args []) = some (.call v []) := by
  apply EV_step
  simp [step, h]
theorem ext_none {W0 : World} (h : ∀ g args, pol.ext g args = none) : ExtOK P W0 pol := fun g args v hv => by rw [h] at hv; cases hv
theorem EV_call {W0 : World} (hE : ExtOK P W0 pol) (hP : ∀ f fn c, pol.no f = false → P.funcs[f]? = some fn → fn.body = some c → codeOK (drOK P pol f) fn.ntmps c = true) {g : Nat} {args : List V} {v : V} (h : EV P pol (.call g args []) = some (.call v [])) :
    ∀ (w : World) (F : Nat → Prop) (us : Array Value), Base W0 w F → (∀ b, F b → b < w.heap.size) → RVs w F noRows us.toList args →
      Calls P g us w fun e w' => ∃ u F', e = .returned u ∧ RV w' F' noRows u v ∧ (∀ b, F' b → b < w'.heap.size) ∧ Nxt (own fun b => w.heap.size ≤ b) w F noRows w' F' noRows := by
  obtain ⟨n, hn⟩ := EV_it h
  exact ((it_ok hE hP n).1.clo g args v hn).2
end Go.Proofs.YtdhejeigbjmncaaDoor.E

/- The evaluator as a machine with a stack, for proofs that step through code. Conditions: those of each lemma. -/
import Derived.Test.YtdhejeigbjmncaaDoorE15
namespace Go.Proofs.YtdhejeigbjmncaaDoor.E
set_option linter.unusedVariables false
set_option linter.unusedSimpArgs false

structure Cx where
  P : Program
  pol : Pol
  rc : Rec
  f : Nat
  m : Nat
/-- what comes behind -/
inductive Fr where
  | seq (c : Code) (p : Nat)
  | blk (id : Nat)
inductive Fin' where
  | call (res : List ResultVar)
  | callO (gv : Bool) (res : List ResultVar)
  | loop (p : Nat)

def retV (P : Program) (m : Nat) (r : Option (List V)) (h : Heap) : Option Resp :=
  match r with
  | some vs => match give h (tupV vs) with
    | some (v, h'') => some (.call v (h''.take m))
    | none => none
  | none => none
def finK (C : Cx) : Fin' → Exi → Env → Heap → Option Resp
  | .call res, x, e, h => match x with
    | .normal | .ret => retV C.P C.m (resV C.P e h res) h
    | .exit _ => none
  | .callO gv res, x, e, h => match x with
    | .normal | .ret => retO gv C.m (resV C.P e h res) h
    | .exit _ => none
  | .loop p, x, e, h => match x with
    | .normal => C.rc (.loop C.f p C.m (packH C.m ((C.pol.live C.f p).map e) h).1 (packH C.m ((C.pol.live C.f p).map e) h).2)
    | x => some (.loop x (packH C.m ((C.pol.outs C.f p).map e) h).1 (packH C.m ((C.pol.outs C.f p).map e) h).2)
def goX (C : Cx) : List Fr → Fin' → Exi → Env → Heap → Option Resp
  | [], k, x, e, h => finK C k x e h
  | .seq c p :: fs, k, x, e, h => match x with
    | .normal => (match evC C.P C.pol C.rc C.f C.m c p e h with | some (x', e', h') => goX C fs k x' e' h' | none => none)
    | x => goX C fs k x e h
  | .blk id :: fs, k, x, e, h => match x with
    | .exit id' => if id' = id then goX C fs k .normal e h else goX C fs k (.exit id') e h
    | x => goX C fs k x e h
def goC (C : Cx) (c : Code) (p : Nat) (fs : List Fr) (k : Fin') (e : Env) (h : Heap) : Option Resp :=
  match evC C.P C.pol C.rc C.f C.m c p e h with | some (x', e', h') => goX C fs k x' e' h' | none => none
/-- a region: its operations; the number kept for the next row, the numbers behind it; what was touched; is its order open? -/
structure Rg where
  ops : Array Oper
  N : Option Nat
  Ns : List (Option Nat)
  acc : List (List Nat)
  d : Bool
def goR (C : Cx) (q : Rg) (rest : List Oper) (fs : List Fr) (k : Fin') (e : Env) (h : Heap) : Option Resp :=
  if q.d then (match evD C.P C.pol C.rc C.f q.ops q.Ns rest e h with
    | some (fps, e', h') => if dynOK C.pol C.f q.ops (q.acc.reverse ++ fps) then goX C fs k .normal e' h' else none
    | none => none)
  else match evOps C.P C.pol C.rc C.f q.ops rest e h with | some (e', h') => goX C fs k .normal e' h' | none => none
def goW (C : Cx) (w : Option Bool) (q : Rg) (o : Oper) (rest : List Oper) (fs : List Fr) (k : Fin') (e : Env) (h : Heap) : Option Resp :=
  match w with
  | some true => (match evOp C.P C.pol C.rc C.f q.N o e h with | some (v, h') => goR C q rest fs k (put e o.dst v) h' | none => none)
  | some false => goR C q rest fs k (put e o.dst .und) h
  | none => none
/-- a value, then the rest -/
def r1 (C : Cx) (r : Option V) (dst : Option Nat) (q : Rg) (rest : List Oper) (fs : List Fr) (k : Fin') (e : Env) (h : Heap) : Option Resp :=
  match r with | some v => goR C q rest fs k (put e dst v) h | none => none
def r2 (C : Cx) (r : Option (V × Heap)) (dst : Option Nat) (q : Rg) (rest : List Oper) (fs : List Fr) (k : Fin') (e : Env) : Option Resp :=
  match r with | some (v, h) => goR C q rest fs k (put e dst v) h | none => none
def rh (C : Cx) (r : Option Heap) (dst : Option Nat) (q : Rg) (rest : List Oper) (fs : List Fr) (k : Fin') (e : Env) : Option Resp :=
  match r with | some h => goR C q rest fs k (put e dst .und) h | none => none
def cK (C : Cx) (v : V) (a b : Code) (p : Nat) (fs : List Fr) (k : Fin') (e : Env) (h : Heap) : Option Resp :=
  match v with
  | .t (.bool t) => if t then goC C a (2 * p) fs k e h else goC C b (2 * p + 1) fs k e h
  | _ => none
def lK (C : Cx) (r : Option Resp) (outs : List Nat) (fs : List Fr) (k : Fin') : Option Resp :=
  match r with
  | some (.loop x vals h') => goX C fs k x (mkEnv outs vals) h'
  | _ => none
/-- a called function's answer -/
def openK (N : Option Nat) (ids : List Nat) (r : Option Resp) (h : Heap) : Option (V × Heap) :=
  match r with
  | some (.call v h1) => openBack N ids v h1 h
  | _ => none
def callK (C : Cx) (N : Option Nat) (m : PM) (fv : Option (Nat × List V)) (args : List V) (h : Heap) : Option (V × Heap) :=
  match fv with
  | some (g, caps) => match m with
    | .pure => (match asArg.asArgs (args ++ caps) with | some as => (match callPure C.rc g as with | some v => some (v, h) | none => none) | none => (match snapV.snapVs h (args ++ caps) with | some as => (match callPure C.rc g as with | some v => (if flatV v then some (v, h) else none) | none => none) | none => none))
    | .frz => (match give.gives h (args ++ caps) with | some (as, h') => (match callPure C.rc g as with | some v => some (v, h') | none => none) | none => none)
    | .opn gv => openK N (openIds h (args ++ caps)) (C.rc (.callO gv g (packH 0 (args ++ caps) h).1 (packH 0 (args ++ caps) h).2)) h
  | none => none
def pickV (c a b : V) : Option V :=
  match c with
  | .t (.bool t) => some (if t then a else b)
  | _ => none
def idxV (P : Program) (t : TypeId) (x i : V) : Option V :=
  match x, i with
  | .t (.str l), .t (.int _ n) => if isStr P t then (match getE l n with | some b => some (.t (.int .u8 (b.toNat : Int))) | none => none) else none
  | _, _ => none
def extV (x : V) (i : Nat) : Option V :=
  match x with
  | .tup vs => vs[i]?
  | _ => none
def allocK (N : Option Nat) (z : Option (List V)) (h : Heap) : Option (V × Heap) :=
  match z with
  | some zs => if zs.isEmpty then none else some (.ptr (nI N h) 0 0, nH N h (.vs zs.length [zs]))
  | none => none
def boxK (N : Option Nat) (cs : List V) (h : Heap) : Option (V × Heap) :=
  if cs.isEmpty || !cs.all okCell then none else some (.ptr (nI N h) 0 0, nH N h (.vs cs.length [cs]))

/-- the slots at a call's start -/
def argE (args : List V) : Env := fun t => (args[t]?).getD .bad
theorem mkEnv_range' : ∀ (args : List V) (s t : Nat), mkEnv (List.range' s args.length) args t = if s ≤ t then (args[t - s]?).getD .bad else .bad
  | [], s, t => by simp [mkEnv]
  | v :: vs, s, t => by
    simp only [List.length_cons, List.range'_succ, mkEnv, upd, mkEnv_range' vs (s + 1) t]
    by_cases h : t = s
    · subst h; simp
    · simp only [h, if_false]
      by_cases h2 : s + 1 ≤ t
      · have e : t - s = (t - (s + 1)) + 1 := by omega
        simp only [h2, if_true, show s ≤ t by omega, e, List.getElem?_cons_succ]
      · simp only [h2, if_false, show ¬ s ≤ t by omega]
theorem mkEnv_range (args : List V) : mkEnv (List.range args.length) args = argE args := by
  funext t
  rw [List.range_eq_range', mkEnv_range' args 0 t]
  simp [argE]
theorem argE_zero (v : V) (vs : List V) : argE (v :: vs) 0 = v := rfl
theorem argE_succ (v : V) (vs : List V) (n : Nat) : argE (v :: vs) (n + 1) = argE vs n := rfl
theorem call_eq {P : Program} {pol : Pol} {f : Nat} {fn : Func} {c : Code} {args : List V} {h : Heap} {r : Resp} (hx : pol.ext f args = none) (hf : P.funcs[f]? = some fn) (hb : fn.body = some c)
    (hn : (pol.no f || fn.name == "runtime.NumGoroutine" || decide (fn.ntmps < args.length)) = false)
    (hg : goC ⟨P, pol, EV P pol, f, h.length⟩ c 1 [] (.call fn.results.toList) (argE args) h = some r) : EV P pol (.call f args h) = some r := by
  rw [← mkEnv_range] at hg
  apply EV_step
  simp only [E.step, hx, hf, hb, hn]
  unfold goC at hg
  simp only at hg
  cases hc : evC P pol (EV P pol) f h.length c 1 (mkEnv (List.range args.length) args) h with
  | none => simp [hc] at hg
  | some x =>
    obtain ⟨x, e', h'⟩ := x
    simp only [hc, goX, finK] at hg
    simp only [Bool.false_eq_true, if_false]
    cases x with
    | exit id => cases hg
    | _ =>
      simp only [retV] at hg
      cases hres : resV P e' h' fn.results.toList with
      | none => simp [hres] at hg
      | some vs =>
        simp only [hres] at hg ⊢
        cases hgv : give h' (tupV vs) with
        | none => simp [hgv] at hg
        | some y => simpa only [hgv] using hg
theorem callO_eq {P : Program} {pol : Pol} {gv : Bool} {f : Nat} {fn : Func} {c : Code} {args : List V} {h : Heap} {r : Resp} (hf : P.funcs[f]? = some fn) (hb : fn.body = some c)
    (hn : (pol.no f || fn.name == "runtime.NumGoroutine" || decide (fn.ntmps < args.length)) = false)
    (hg : goC ⟨P, pol, EV P pol, f, h.length⟩ c 1 [] (.callO gv fn.results.toList) (argE args) h = some r) : EV P pol (.callO gv f args h) = some r := by
  rw [← mkEnv_range] at hg
  apply EV_step
  simp only [E.step, hf, hb, hn]
  unfold goC at hg
  simp only at hg
  cases hc : evC P pol (EV P pol) f h.length c 1 (mkEnv (List.range args.length) args) h with
  | none => simp [hc] at hg
  | some x =>
    obtain ⟨x, e', h'⟩ := x
    simp only [hc, goX, finK] at hg
    simp only [Bool.false_eq_true, if_false]
    cases x with
    | exit id => cases hg
    | _ => exact hg
theorem loop_eq {P : Program} {pol : Pol} {f p m : Nat} {fn : Func} {c b : Code} {vals : List V} {h : Heap} {r : Resp} (hf : P.funcs[f]? = some fn) (hb : fn.body = some c) (hc : codeAt c (turns p) = some (.loop b))
    (hg : goC ⟨P, pol, EV P pol, f, m⟩ b (2 * p) [] (.loop p) (mkEnv (pol.live f p) vals) h = some r) : EV P pol (.loop f p m vals h) = some r := by
  apply EV_step
  simp only [E.step, hf, hb, hc]
  unfold goC at hg
  simp only at hg
  cases hc : evC P pol (EV P pol) f m b (2 * p) (mkEnv (pol.live f p) vals) h with
  | none => simp [hc] at hg
  | some x =>
    obtain ⟨x, e', h'⟩ := x
    simp only [hc, goX, finK] at hg
    cases x with
    | normal => exact hg
    | ret => exact hg
    | exit id => exact hg

section
variable (C : Cx) (p : Nat) (fs : List Fr) (k : Fin') (e : Env) (h : Heap) (q : Rg) (rest : List Oper) (dst : Option Nat) (ty : TypeId) (pos : String) (after : Array Edge)
theorem goC_seq (a b : Code) : goC C (.seq a b) p fs k e h = goC C a (2 * p) (.seq b (2 * p + 1) :: fs) k e h := by
  unfold goC; simp only [evC, goX]
  cases evC C.P C.pol C.rc C.f C.m a (2 * p) e h with
  | none => rfl
  | some x => obtain ⟨x, e', h'⟩ := x; cases x <;> rfl
theorem goC_cond (c : Operand) (a b : Code) : goC C (.cond c a b) p fs k e h = cK C (opv C.P e 0 c) a b p fs k e h := by
  unfold goC cK; simp only [evC]
  cases opv C.P e 0 c with
  | t x => cases x with
    | bool t => cases t <;> rfl
    | _ => rfl
  | _ => rfl
theorem goC_block (id : Nat) (a : Code) : goC C (.block id a) p fs k e h = goC C a (2 * p) (.blk id :: fs) k e h := by
  unfold goC; simp only [evC, goX]
  cases evC C.P C.pol C.rc C.f C.m a (2 * p) e h with
  | none => rfl
  | some x =>
    obtain ⟨x, e', h'⟩ := x
    cases x with
    | exit id' => simp only; by_cases hi : id' = id <;> simp [hi]
    | _ => rfl
theorem goC_loop (a : Code) : goC C (.loop a) p fs k e h = lK C (C.rc (.loop C.f p C.m (packH C.m ((C.pol.live C.f p).map e) h).1 (packH C.m ((C.pol.live C.f p).map e) h).2)) (C.pol.outs C.f p) fs k := by
  unfold goC lK; simp only [evC]
  cases C.rc (.loop C.f p C.m (packH C.m ((C.pol.live C.f p).map e) h).1 (packH C.m ((C.pol.live C.f p).map e) h).2) with
  | none => rfl
  | some x => cases x <;> rfl
theorem goC_exit (id : Nat) : goC C (.exit id) p fs k e h = goX C fs k (.exit id) e h := rfl
theorem goC_ret : goC C .ret p fs k e h = goX C fs k .ret e h := rfl
theorem goC_skip : goC C .skip p fs k e h = goX C fs k .normal e h := rfl
theorem goC_region (n : Nat) (l : List Oper) : goC C (.region n l.toArray false) p fs k e h = goR C ⟨l.toArray, none, [], [], false⟩ l fs k e h := by
  unfold goC goR; simp only [evC, List.toList_toArray, Bool.false_and, Bool.false_eq_true, if_false]
  cases evOps C.P C.pol C.rc C.f l.toArray l e h <;> rfl
/-- a region in open order -/
def goD (C : Cx) (simple : Bool) (l : List Oper) (fs : List Fr) (k : Fin') (e : Env) (h : Heap) : Option Resp :=
  if simple then goR C ⟨l.toArray, none, [], [], false⟩ l fs k e h else goR C ⟨l.toArray, none, nids C.pol C.f h.length l, [], true⟩ l fs k e (h ++ List.replicate (cntNew C.pol C.f l) .dead)
theorem goC_draw (n : Nat) (l : List Oper) (hd : C.pol.dr C.f = true) : goC C (.region n l.toArray true) p fs k e h = goD C (l.all (nonW C.pol C.f)) l fs k e h := by
  unfold goC goD; simp only [evC, hd, List.toList_toArray]
  cases hn : l.all (nonW C.pol C.f) with
  | true =>
    simp only [Bool.not_true, Bool.and_false, Bool.false_eq_true, if_false, if_true]
    unfold goR
    simp only [Bool.false_eq_true, if_false]
    cases evOps C.P C.pol C.rc C.f l.toArray l e h <;> rfl
  | false =>
    simp only [Bool.not_true, Bool.not_false, Bool.and_true, Bool.and_false, Bool.false_eq_true, if_false, if_true]
    unfold evDraw goR
    simp only [List.toList_toArray, if_true, List.reverse_nil, List.nil_append]
    cases evD C.P C.pol C.rc C.f l.toArray (nids C.pol C.f h.length l) l e (h ++ List.replicate (cntNew C.pol C.f l) .dead) with
    | none => rfl
    | some x =>
      obtain ⟨y1, y2, y3⟩ := x
      by_cases hx : dynOK C.pol C.f l.toArray y1 = true
      · simp only [hx, if_true]
      · simp only [hx, Bool.false_eq_true, if_false]
theorem goD_true (l : List Oper) : goD C true l fs k e h = goR C ⟨l.toArray, none, [], [], false⟩ l fs k e h := rfl
theorem goD_false (l : List Oper) : goD C false l fs k e h = goR C ⟨l.toArray, none, nids C.pol C.f h.length l, [], true⟩ l fs k e (h ++ List.replicate (cntNew C.pol C.f l) .dead) := rfl
theorem goX_nil (x : Exi) : goX C [] k x e h = finK C k x e h := rfl
theorem goX_seq (c : Code) : goX C (.seq c p :: fs) k .normal e h = goC C c p fs k e h := rfl
theorem goX_seq_ret (c : Code) : goX C (.seq c p :: fs) k .ret e h = goX C fs k .ret e h := rfl
theorem goX_seq_exit (c : Code) (id : Nat) : goX C (.seq c p :: fs) k (.exit id) e h = goX C fs k (.exit id) e h := rfl
theorem goX_blk (id : Nat) : goX C (.blk id :: fs) k .normal e h = goX C fs k .normal e h := rfl
theorem goX_blk_ret (id : Nat) : goX C (.blk id :: fs) k .ret e h = goX C fs k .ret e h := rfl
theorem goX_blk_exit (id id' : Nat) : goX C (.blk id :: fs) k (.exit id') e h = if id' = id then goX C fs k .normal e h else goX C fs k (.exit id') e h := rfl
theorem goR_nil (ops : Array Oper) : goR C ⟨ops, none, [], [], false⟩ [] fs k e h = goX C fs k .normal e h := rfl
theorem goR_cons (ops : Array Oper) (o : Oper) : goR C ⟨ops, none, [], [], false⟩ (o :: rest) fs k e h = goW C (want ops o e) ⟨ops, none, [], [], false⟩ o rest fs k e h := by
  unfold goR goW; simp only [Bool.false_eq_true, if_false, evOps, evOne]
  cases want ops o e with
  | none => rfl
  | some b => cases b with
    | false => simp only [goR, Bool.false_eq_true, if_false]
    | true => simp only; cases evOp C.P C.pol C.rc C.f none o e h with
      | none => rfl
      | some x => simp only [goR, Bool.false_eq_true, if_false]
theorem goR_dnil (ops : Array Oper) (N : Option Nat) (acc : List (List Nat)) : goR C ⟨ops, N, [], acc, true⟩ [] fs k e h = if dynOK C.pol C.f ops acc.reverse then goX C fs k .normal e h else none := by
  unfold goR; simp only [if_true, evD, List.append_nil]
theorem goR_dcons (ops : Array Oper) (N N' : Option Nat) (Ns : List (Option Nat)) (acc : List (List Nat)) (o : Oper) : goR C ⟨ops, N, N' :: Ns, acc, true⟩ (o :: rest) fs k e h = goW C (want ops o e) ⟨ops, N', Ns, foot N' o e h :: acc, true⟩ o rest fs k e h := by
  unfold goR goW; simp only [if_true, evD, evOne]
  cases want ops o e with
  | none => rfl
  | some b => cases b with
    | false =>
      simp only [goR, if_true, List.reverse_cons, List.append_assoc, List.singleton_append]
      cases evD C.P C.pol C.rc C.f ops Ns rest (put e o.dst .und) h <;> rfl
    | true => simp only; cases evOp C.P C.pol C.rc C.f N' o e h with
      | none => rfl
      | some x =>
        simp only [goR, if_true, List.reverse_cons, List.append_assoc, List.singleton_append]
        cases evD C.P C.pol C.rc C.f ops Ns rest (put e o.dst x.1) x.2 <;> rfl
theorem goW_false (o : Oper) : goW C (some false) q o rest fs k e h = goR C q rest fs k (put e o.dst .und) h := rfl
theorem want_none (ops : Array Oper) (op : Op) : want ops ⟨dst, op, ty, pos, after, none⟩ e = some true := rfl
variable (g : Option (Nat × Bool))
theorem o_move (x : Operand) : goW C (some true) q ⟨dst, .move x, ty, pos, after, g⟩ rest fs k e h = goR C q rest fs k (put e dst (opv C.P e ty x)) h := rfl
theorem o_assign (x : Operand) : goW C (some true) q ⟨dst, .assign x, ty, pos, after, g⟩ rest fs k e h = goR C q rest fs k (put e dst (opv C.P e ty x)) h := rfl
theorem o_pick (c a b : Operand) : goW C (some true) q ⟨dst, .pick c a b, ty, pos, after, g⟩ rest fs k e h = r1 C (pickV (opv C.P e 0 c) (opv C.P e ty a) (opv C.P e ty b)) dst q rest fs k e h := by
  simp only [goW, evOp, r1, pickV]
  cases opv C.P e 0 c with
  | t x => cases x <;> rfl
  | _ => rfl
theorem o_alloc (t : TypeId) : goW C (some true) q ⟨dst, .alloc t, ty, pos, after, g⟩ rest fs k e h = r2 C (allocK q.N (zeroOf C.P t) h) dst q rest fs k e := by
  simp only [goW, evOp, r2, allocK]
  cases zeroOf C.P t with
  | none => rfl
  | some zs => rfl
theorem o_box (t : TypeId) (x : Operand) : goW C (some true) q ⟨dst, .box t x, ty, pos, after, g⟩ rest fs k e h = r2 C (boxK q.N (cellsV (opv C.P e t x)) h) dst q rest fs k e := rfl
def buildV (P : Program) (t : TypeId) (ps : List (Nat × V)) : Option V :=
  if strOK P t then (match zeroOf P t with
    | some zs => (match fillV P t zs ps with | some cs => some (.agg cs) | none => none)
    | none => none) else none
theorem o_build (t : TypeId) (l : List (Nat × Operand)) : goW C (some true) q ⟨dst, .build t l.toArray, ty, pos, after, g⟩ rest fs k e h = r1 C (buildV C.P t (partsV C.P e (fTy C.P t) l)) dst q rest fs k e h := by
  simp only [goW, evOp, r1, buildV]
  cases strOK C.P t with
  | false => rfl
  | true => cases zeroOf C.P t with
    | none => rfl
    | some zs => simp only [if_true]; cases fillV C.P t zs (partsV C.P e (fTy C.P t) l) <;> rfl
def sliceK (P : Program) (N : Option Nat) (t : TypeId) (len n : Nat) (ps : TypeId → List (Nat × V)) (h : Heap) : Option (V × Heap) :=
  match elOf P t with
  | some el => if szOf P el = 0 ∨ len * szOf P el > 16777216 ∨ n ≠ len ∨ (zeroOf P el).isNone = true then none else
    match fillS (szOf P el) 0 (ps el) with
    | some css => match giveTs h css with
      | some (es, h') => some (.sl (nI N h') 0 len (some len), nH N h' (.ts (szOf P el) es))
      | none => none
    | none => none
  | none => none
theorem o_buildSlice (t : TypeId) (len : Nat) (l : List (Nat × Operand)) : goW C (some true) q ⟨dst, .buildSlice t len l.toArray, ty, pos, after, g⟩ rest fs k e h = r2 C (sliceK C.P q.N t len l.length (fun el => partsV C.P e (fun _ => el) l) h) dst q rest fs k e := by
  simp only [goW, evOp, r2, sliceK, List.size_toArray]
  rfl
theorem o_load (t : TypeId) (a : Operand) : goW C (some true) q ⟨dst, .load t a, ty, pos, after, g⟩ rest fs k e h = r1 C (load C.P t (opv C.P e 0 a) h) dst q rest fs k e h := by
  simp only [goW, evOp, r1]; cases load C.P t (opv C.P e 0 a) h <;> rfl
theorem o_store (t : TypeId) (a x : Operand) : goW C (some true) q ⟨dst, .store t a x, ty, pos, after, g⟩ rest fs k e h = rh C (store C.P t (opv C.P e 0 a) (opv C.P e t x) h) dst q rest fs k e := by
  simp only [goW, evOp, rh]; cases store C.P t (opv C.P e 0 a) (opv C.P e t x) h <;> rfl
theorem o_binOp (op : BinOp) (t u : TypeId) (x y : Operand) : goW C (some true) q ⟨dst, .binOp op t x y u, ty, pos, after, g⟩ rest fs k e h = r1 C (binO C.P op t y (opv C.P e t x) (opv C.P e u y)) dst q rest fs k e h := by
  simp only [goW, evOp, r1]; cases binO C.P op t y (opv C.P e t x) (opv C.P e u y) <;> rfl
theorem o_unOp (op : UnOp) (t : TypeId) (x : Operand) : goW C (some true) q ⟨dst, .unOp op t x, ty, pos, after, g⟩ rest fs k e h = r1 C (una op (opv C.P e t x)) dst q rest fs k e h := by
  simp only [goW, evOp, r1]; cases una op (opv C.P e t x) <;> rfl
theorem o_convert (s d : TypeId) (x : Operand) : goW C (some true) q ⟨dst, .convert s d x, ty, pos, after, g⟩ rest fs k e h = r1 C (conv C.P s d (opv C.P e s x) h) dst q rest fs k e h := by
  simp only [goW, evOp, r1]; cases conv C.P s d (opv C.P e s x) h <;> rfl
def mkS (P : Program) (N : Option Nat) (t : TypeId) (l c : V) (h : Heap) : Option (V × Heap) :=
  match elOf P t, l, c with
  | some el, .t (.int _ n), .t (.int _ m) => match zeroOf P el with
    | some zs => match allZ zs with
      | some z => if szOf P el = 0 ∨ n < 0 ∨ n ≠ m ∨ n.toNat * P.bytesOf el > maxBytes ∨ n.toNat > maxBytes then none else
        some (.sl (nI N h) 0 n.toNat (some n.toNat), nH N h (.ts (szOf P el) (List.replicate n.toNat z)))
      | none => none
    | none => none
  | _, _, _ => none
theorem o_makeSlice (t : TypeId) (l c : Operand) : goW C (some true) q ⟨dst, .makeSlice t l c, ty, pos, after, g⟩ rest fs k e h = r2 C (mkS C.P q.N t (opv C.P e 0 l) (opv C.P e 0 c) h) dst q rest fs k e := rfl
theorem o_slice (t : TypeId) (x : Operand) (lo hi mx : Option Operand) : goW C (some true) q ⟨dst, .slice t x lo hi mx, ty, pos, after, g⟩ rest fs k e h = r1 C (cut C.P t (opv C.P e t x) (opvO C.P e lo) (opvO C.P e hi) (opvO C.P e mx) h) dst q rest fs k e h := by
  simp only [goW, evOp, r1]; cases cut C.P t (opv C.P e t x) (opvO C.P e lo) (opvO C.P e hi) (opvO C.P e mx) h <;> rfl
theorem o_nilCheck (x : Operand) : goW C (some true) q ⟨dst, .nilCheck x, ty, pos, after, g⟩ rest fs k e h = r1 C (nilC (opv C.P e 0 x)) dst q rest fs k e h := by
  simp only [goW, evOp, r1]; cases nilC (opv C.P e 0 x) <;> rfl
theorem o_fieldAddr (s : TypeId) (x : Operand) (i : Nat) : goW C (some true) q ⟨dst, .fieldAddr s x i, ty, pos, after, g⟩ rest fs k e h = r1 C (fldAddr C.P s (opv C.P e 0 x) i) dst q rest fs k e h := by
  simp only [goW, evOp, r1]; cases fldAddr C.P s (opv C.P e 0 x) i <;> rfl
theorem o_field (s : TypeId) (x : Operand) (i : Nat) : goW C (some true) q ⟨dst, .field s x i, ty, pos, after, g⟩ rest fs k e h = r1 C (fld C.P s (opv C.P e s x) i) dst q rest fs k e h := by
  simp only [goW, evOp, r1]; cases fld C.P s (opv C.P e s x) i <;> rfl
theorem o_indexAddr (t : TypeId) (x i : Operand) : goW C (some true) q ⟨dst, .indexAddr t x i, ty, pos, after, g⟩ rest fs k e h = r1 C (idxAddr C.P t (opv C.P e t x) (opv C.P e 0 i) h) dst q rest fs k e h := by
  simp only [goW, evOp, r1]; cases idxAddr C.P t (opv C.P e t x) (opv C.P e 0 i) h <;> rfl
theorem o_index (t : TypeId) (x i : Operand) : goW C (some true) q ⟨dst, .index t x i, ty, pos, after, g⟩ rest fs k e h = r1 C (idxV C.P t (opv C.P e t x) (opv C.P e 0 i)) dst q rest fs k e h := by
  simp only [goW, evOp, r1, idxV]
  cases opv C.P e t x with
  | t a => cases a with
    | str l => cases opv C.P e 0 i with
      | t b => cases b with
        | int kk n => simp only; cases isStr C.P t with
          | false => rfl
          | true => simp only [if_true]; cases getE l n <;> rfl
        | _ => rfl
      | _ => rfl
    | _ => rfl
  | _ => rfl
theorem o_extract (x : Operand) (i : Nat) : goW C (some true) q ⟨dst, .extract x i, ty, pos, after, g⟩ rest fs k e h = r1 C (extV (opv C.P e 0 x) i) dst q rest fs k e h := by
  simp only [goW, evOp, r1, extV]
  cases opv C.P e 0 x with
  | tup vs => simp only; cases vs[i]? <;> rfl
  | _ => rfl
theorem o_builtin (b : Builtin) (args : List Operand) (tys : List TypeId) : goW C (some true) q ⟨dst, .call ⟨.builtin b, args.toArray, tys.toArray⟩, ty, pos, after, g⟩ rest fs k e h = r2 C (blt C.P q.N b tys (opvs C.P e args tys) h) dst q rest fs k e := by
  simp only [goW, evOp, r2]
theorem o_call (x : Operand) (args : List Operand) (tys : List TypeId) : goW C (some true) q ⟨dst, .call ⟨.value x, args.toArray, tys.toArray⟩, ty, pos, after, g⟩ rest fs k e h = r2 C (callK C q.N (C.pol.pm C.f (dst.getD 0)) (fnV (opv C.P e 0 x)) (opvs C.P e args tys) h) dst q rest fs k e := by
  simp only [goW, evOp, r2, callK]
  cases fnV (opv C.P e 0 x) with
  | none => rfl
  | some y =>
    obtain ⟨g, caps⟩ := y
    simp only [callOp]
    cases C.pol.pm C.f (dst.getD 0) with
    | pure => simp only; cases asArg.asArgs (opvs C.P e args tys ++ caps) with
      | none => simp only; cases snapV.snapVs h (opvs C.P e args tys ++ caps) with
        | none => rfl
        | some as => simp only; cases callPure C.rc g as <;> rfl
      | some as => simp only; cases callPure C.rc g as <;> rfl
    | frz => simp only; cases give.gives h (opvs C.P e args tys ++ caps) with
      | none => rfl
      | some as => simp only; cases callPure C.rc g as.1 <;> rfl
    | opn gv =>
      simp only [openK]
      cases C.rc (.callO gv g (packH 0 (opvs C.P e args tys ++ caps) h).1 (packH 0 (opvs C.P e args tys ++ caps) h).2) with
      | none => rfl
      | some r => cases r <;> rfl
theorem o_makeFunc (fn : Nat) (caps : List Operand) : goW C (some true) q ⟨dst, .makeFunc (.func fn) #[] caps.toArray, ty, pos, after, g⟩ rest fs k e h = goR C q rest fs k (put e dst (.fn fn (opvs C.P e caps []))) h := rfl
theorem r1_some (v : V) : r1 C (some v) dst q rest fs k e h = goR C q rest fs k (put e dst v) h := rfl
theorem r2_some (v : V) : r2 C (some (v, h)) dst q rest fs k e = goR C q rest fs k (put e dst v) h := rfl
theorem rh_some : rh C (some h) dst q rest fs k e = goR C q rest fs k (put e dst .und) h := rfl
theorem cK_true (a b : Code) : cK C (.t (.bool true)) a b p fs k e h = goC C a (2 * p) fs k e h := rfl
theorem cK_false (a b : Code) : cK C (.t (.bool false)) a b p fs k e h = goC C b (2 * p + 1) fs k e h := rfl
theorem cK_split {C : Cx} {b : Bool} {a c : Code} {p : Nat} {fs : List Fr} {k : Fin'} {e : Env} {h : Heap} {r : Option Resp} (ht : b = true → goC C a (2 * p) fs k e h = r) (hf : b = false → goC C c (2 * p + 1) fs k e h = r) : cK C (.t (.bool b)) a c p fs k e h = r := by
  cases b with
  | true => exact ht rfl
  | false => exact hf rfl
theorem lK_some (x : Exi) (vals : List V) (outs : List Nat) : lK C (some (.loop x vals h)) outs fs k = goX C fs k x (mkEnv outs vals) h := rfl
theorem finK_ret (res : List ResultVar) : finK C (.call res) .ret e h = retV C.P C.m (resV C.P e h res) h := rfl
theorem finK_normal (res : List ResultVar) : finK C (.call res) .normal e h = retV C.P C.m (resV C.P e h res) h := rfl
theorem finK_oret (gv : Bool) (res : List ResultVar) : finK C (.callO gv res) .ret e h = retO gv C.m (resV C.P e h res) h := rfl
theorem finK_onormal (gv : Bool) (res : List ResultVar) : finK C (.callO gv res) .normal e h = retO gv C.m (resV C.P e h res) h := rfl
theorem finK_again : finK C (.loop p) .normal e h = C.rc (.loop C.f p C.m (packH C.m ((C.pol.live C.f p).map e) h).1 (packH C.m ((C.pol.live C.f p).map e) h).2) := rfl
theorem finK_exit (id : Nat) : finK C (.loop p) (.exit id) e h = some (.loop (.exit id) (packH C.m ((C.pol.outs C.f p).map e) h).1 (packH C.m ((C.pol.outs C.f p).map e) h).2) := rfl
theorem finK_lret : finK C (.loop p) .ret e h = some (.loop .ret (packH C.m ((C.pol.outs C.f p).map e) h).1 (packH C.m ((C.pol.outs C.f p).map e) h).2) := rfl
end
theorem upd_at (e : Env) (d : Nat) (v : V) (t : Nat) : upd e d v t = if t = d then v else e t := rfl
theorem put_some (e : Env) (d : Nat) (v : V) : put e (some d) v = upd e d v := rfl
theorem put_none (e : Env) (v : V) : put e none v = e := rfl

/-- the machine's equations -/
theorem GO : type_of% goC_seq ∧ type_of% goC_cond ∧ type_of% goC_block ∧ type_of% goC_loop ∧ type_of% goC_exit ∧ type_of% goC_ret ∧ type_of% goC_skip ∧ type_of% goC_region ∧ type_of% goD_true ∧ type_of% goD_false ∧ type_of% goX_nil ∧ type_of% goX_seq ∧ type_of% goX_seq_ret ∧ type_of% goX_seq_exit ∧ type_of% goX_blk ∧ type_of% goX_blk_ret ∧ type_of% goX_blk_exit ∧ type_of% goR_nil ∧ type_of% goR_cons ∧ type_of% goR_dnil ∧ type_of% goR_dcons ∧ type_of% goW_false ∧ type_of% o_move ∧ type_of% o_assign ∧ type_of% o_pick ∧ type_of% o_alloc ∧ type_of% o_box ∧ type_of% o_build ∧ type_of% o_buildSlice ∧ type_of% o_load ∧ type_of% o_store ∧ type_of% o_binOp ∧ type_of% o_unOp ∧ type_of% o_convert ∧ type_of% o_makeSlice ∧ type_of% o_slice ∧ type_of% o_nilCheck ∧ type_of% o_fieldAddr ∧ type_of% o_field ∧ type_of% o_indexAddr ∧ type_of% o_index ∧ type_of% o_extract ∧ type_of% o_builtin ∧ type_of% o_call ∧ type_of% o_makeFunc ∧ type_of% r1_some ∧ type_of% r2_some ∧ type_of% rh_some ∧ type_of% cK_true ∧ type_of% cK_false ∧ type_of% lK_some ∧ type_of% finK_ret ∧ type_of% finK_normal ∧ type_of% finK_oret ∧ type_of% finK_onormal ∧ type_of% finK_again ∧ type_of% finK_exit ∧ type_of% finK_lret :=
  ⟨goC_seq, goC_cond, goC_block, goC_loop, goC_exit, goC_ret, goC_skip, goC_region, goD_true, goD_false, goX_nil, goX_seq, goX_seq_ret, goX_seq_exit, goX_blk, goX_blk_ret, goX_blk_exit, goR_nil, goR_cons, goR_dnil, goR_dcons, goW_false, o_move, o_assign, o_pick, o_alloc, o_box, o_build, o_buildSlice, o_load, o_store, o_binOp, o_unOp, o_convert, o_makeSlice, o_slice, o_nilCheck, o_fieldAddr, o_field, o_indexAddr, o_index, o_extract, o_builtin, o_call, o_makeFunc, r1_some, r2_some, rh_some, cK_true, cK_false, lK_some, finK_ret, finK_normal, finK_oret, finK_onormal, finK_again, finK_exit, finK_lret⟩
end Go.Proofs.YtdhejeigbjmncaaDoor.E

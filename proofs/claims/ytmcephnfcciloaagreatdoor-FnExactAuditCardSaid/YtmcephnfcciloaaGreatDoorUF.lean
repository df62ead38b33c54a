/- Joined: E16 E17 E18 E19 T1 T2 XL X1 X2 X3 X4. Conditions: those of each lemma. -/
import Derived.Test.YtmcephnfcciloaaGreatDoorUE
import Derived.IntWalk
import Derived.Shelf.Strings.Builder1
import Derived.Shelf.Strings.Builder2
import Derived.Shelf.Strings.OnBuilder
import Derived.Shelf.Small.Utf8
import Derived.Shelf.Small.Bits
import Derived.Shelf.Small.Strs
import Derived.Shelf.Utf8.RuneCount
import Derived.Shelf.Strconv.Atoi
import Derived.Shelf.Strconv.Itoa0
import Derived.Shelf.Strconv.Itoa1
import Derived.Shelf.LaysM
import Derived.Shelf.Strconv.Itoa2
import Derived.Shelf.Strconv.Itoa3
import Derived.Shelf.Strconv.AtoiErrFast
import Derived.Shelf.Strconv.ParseIntEmpty
import Derived.Shelf.Strconv.AtoiFail
import Derived.Shelf.Strconv.Clone
import Derived.Shelf.Strconv.SyntaxError
import Derived.Shelf.LaysC
import Derived.Shelf.Strconv.ToError
import Derived.Shelf.Strconv.Lower
import Derived.Shelf.Strconv.ParseUint10
import Derived.Shelf.Strconv.ParseUint10Empty
import Derived.Shelf.Strconv.ParseUint10Any
import Derived.Shelf.Strconv.ParseInt10
import Derived.Shelf.Strconv.AtoiLong
import Derived.Shelf.Strconv.AtoiInnerAll
import Derived.Shelf.Strconv.RangeError
import Derived.Shelf.Strconv.ToErrorRange
import Derived.Shelf.Strconv.AtoiAll
import Derived.Shelf.Strconv.ErrVarAll
import Derived.Shelf.Strings.Search1
import Derived.Shelf.Strings.Search2
import Derived.Shelf.Strings.Search3
import Derived.Shelf.Strings.Cut
import Derived.Shelf.Strings.Count
import Derived.Shelf.Strings.Shaped
import Derived.Shelf.Sort.Plain
import Derived.Shelf.Strings.Split
import Derived.Shelf.Strings.SplitShaped
import Derived.Shelf.Unicode.Decode
import Derived.Shelf.Strings.Runes
import Derived.Shelf.Strings.RuneCount
import Derived.Shelf.Strings.AsciiSet
import Derived.Shelf.Strings.Explode
import Derived.Shelf.Unicode.DecodeSlow
import Derived.Shelf.Unicode.DecodeAny
import Derived.Ground.Names2Prog
import Derived.Shelf.Slices.Clone
import Derived.Ground.SlgnProg
import Derived.Shelf.SlicesE.Clone
import Derived.Test.YtmcephnfcciloaaGreatDoorProg
import Derived.Lib.SortBridge
import Derived.Shelf.Slices.In.SortNone
set_option linter.unusedVariables false
set_option linter.unusedSimpArgs false
namespace Go.Proofs.YtmcephnfcciloaaGreatDoor.E
set_option linter.unusedVariables false
set_option linter.unusedSimpArgs false
structure Cx where
  P : Program
  pol : Pol
  rc : Rec
  f : Nat
  m : Nat
/-- what comes behind -/
inductive Fr where
  | seq (c : Code) (p : Nat)
  | blk (id : Nat)
inductive sY where
  | call (res : List ResultVar)
  | callO (gv : Bool) (res : List ResultVar)
  | loop (p : Nat)
def eH (P : Program) (m : Nat) (r : Option (List V)) (h : Heap) : Option xN :=
  match r with
  | some vs => match zy h (zC vs) with
    | some (v, h'') => some (.call v (h''.take m))
    | none => none
  | none => none
def nz (C : Cx) : sY → Exi → Env → Heap → Option xN
  | .call res, x, e, h => match x with
    | .normal | .ret => eH C.P C.m (wW C.P e h res) h
    | .exit _ => none
  | .callO gv res, x, e, h => match x with
    | .normal | .ret => oY gv C.m (wW C.P e h res) h
    | .exit _ => none
  | .loop p, x, e, h => match x with
    | .normal => C.rc (.loop C.f p C.m (yo C.m ((C.pol.live C.f p).map e) h).1 (yo C.m ((C.pol.live C.f p).map e) h).2)
    | x => some (.loop x (yo C.m ((C.pol.outs C.f p).map e) h).1 (yo C.m ((C.pol.outs C.f p).map e) h).2)
def goX (C : Cx) : List Fr → sY → Exi → Env → Heap → Option xN
  | [], k, x, e, h => nz C k x e h
  | .seq c p :: fs, k, x, e, h => match x with
    | .normal => (match evC C.P C.pol C.rc C.f C.m c p e h with | some (x', e', h') => goX C fs k x' e' h' | none => none)
    | x => goX C fs k x e h
  | .blk id :: fs, k, x, e, h => match x with
    | .exit id' => if id' = id then goX C fs k .normal e h else goX C fs k (.exit id') e h
    | x => goX C fs k x e h
def goC (C : Cx) (c : Code) (p : Nat) (fs : List Fr) (k : sY) (e : Env) (h : Heap) : Option xN :=
  match evC C.P C.pol C.rc C.f C.m c p e h with | some (x', e', h') => goX C fs k x' e' h' | none => none
/-- a region: its operations; the number kept for the next row, the numbers behind it; what was touched; is its order open? -/
structure Rg where
  ops : Array Oper
  N : Option Nat
  Ns : List (Option Nat)
  acc : List (List Nat)
  d : Bool
  x : Bool
def goR (C : Cx) (q : Rg) (rest : List Oper) (fs : List Fr) (k : sY) (e : Env) (h : Heap) : Option xN :=
  if q.d then if q.x then (match evR C.P C.pol C.rc C.f q.ops rest e h with
    | some (rs, e', h') => if zOK C.pol C.f q.ops (q.acc.reverse ++ rs) then goX C fs k .normal e' h' else none
    | none => none) else (match evD C.P C.pol C.rc C.f q.ops q.Ns rest e h with
    | some (fps, e', h') => if eD C.pol C.f q.ops (q.acc.reverse ++ fps) then goX C fs k .normal e' h' else none
    | none => none)
  else if q.x then (match rB C.P C.pol C.rc C.f q.ops rest e h with | some (e', h') => goX C fs k .normal e' h' | none => none)
  else match wN C.P C.pol C.rc C.f q.ops rest e h with | some (e', h') => goX C fs k .normal e' h' | none => none
/-- an operation; where owned values are made, their ways come first -/
def mO (C : Cx) (q : Rg) (o : Oper) (e : Env) (h : Heap) : Option (V × Heap) :=
  if q.x && C.pol.own C.f then (match xa C.P C.pol C.rc C.f o e h with | some r => some r | none => yc C.P C.pol C.rc C.f q.N o e h) else yc C.P C.pol C.rc C.f q.N o e h
def kK (a b : Bool) (x y : Option (V × Heap)) : Option (V × Heap) := if a && b then (match x with | some r => some r | none => y) else y
def sU (C : Cx) (q : Rg) (o : Oper) (rest : List Oper) (fs : List Fr) (k : sY) (e : Env) (h : Heap) : Option xN :=
  match yc C.P C.pol C.rc C.f q.N o e h with | some (v, h') => goR C q rest fs k (put e o.dst v) h' | none => none
def goW (C : Cx) (w : Option Bool) (q : Rg) (o : Oper) (rest : List Oper) (fs : List Fr) (k : sY) (e : Env) (h : Heap) : Option xN :=
  match w with
  | some true => (match mO C q o e h with | some (v, h') => goR C q rest fs k (put e o.dst v) h' | none => none)
  | some false => goR C q rest fs k (put e o.dst .und) h
  | none => none
/-- a value, then the rest -/
def r1 (C : Cx) (r : Option V) (dst : Option Nat) (q : Rg) (rest : List Oper) (fs : List Fr) (k : sY) (e : Env) (h : Heap) : Option xN :=
  match r with | some v => goR C q rest fs k (put e dst v) h | none => none
def r2 (C : Cx) (r : Option (V × Heap)) (dst : Option Nat) (q : Rg) (rest : List Oper) (fs : List Fr) (k : sY) (e : Env) : Option xN :=
  match r with | some (v, h) => goR C q rest fs k (put e dst v) h | none => none
def rh (C : Cx) (r : Option Heap) (dst : Option Nat) (q : Rg) (rest : List Oper) (fs : List Fr) (k : sY) (e : Env) : Option xN :=
  match r with | some h => goR C q rest fs k (put e dst .und) h | none => none
def cK (C : Cx) (v : V) (a b : Code) (p : Nat) (fs : List Fr) (k : sY) (e : Env) (h : Heap) : Option xN :=
  match v with
  | .t (.bool t) => if t then goC C a (2 * p) fs k e h else goC C b (2 * p + 1) fs k e h
  | _ => none
def lK (C : Cx) (r : Option xN) (outs : List Nat) (fs : List Fr) (k : sY) : Option xN :=
  match r with
  | some (.loop x vals h') => goX C fs k x (ze outs vals) h'
  | _ => none
/-- a called function's answer -/
def zr (N : Option Nat) (ids : List Nat) (r : Option xN) (h : Heap) : Option (V × Heap) :=
  match r with
  | some (.call v h1) => yN N ids v h1 h
  | _ => none
def uH (C : Cx) (N : Option Nat) (m : PM) (fv : Option (Nat × List V)) (args : List V) (h : Heap) : Option (V × Heap) :=
  match fv with
  | some (g, caps) => match m with
    | .pure => (match asArg.asArgs (args ++ caps) with | some az => (match zE C.rc g az with | some v => some (v, h) | none => none) | none => (match zd.snapVs h (args ++ caps) with | some az => (match zE C.rc g az with | some v => (if zg v then some (v, h) else none) | none => none) | none => none))
    | .frz => (match zy.gives h (args ++ caps) with | some (az, h') => (match zE C.rc g az with | some v => some (v, h') | none => none) | none => none)
    | .opn gv => zr N (xg h (args ++ caps)) (C.rc (.callO gv g (yo 0 (args ++ caps) h).1 (yo 0 (args ++ caps) h).2)) h
    | .brw => none
  | none => none
def zq (c a b : V) : Option V :=
  match c with
  | .t (.bool t) => some (if t then a else b)
  | _ => none
def zM (P : Program) (t : TypeId) (x i : V) : Option V :=
  match x, i with
  | .t (.str l), .t (.int _ n) => if isStr P t then (match uD l n with | some b => some (.t (.int .u8 (b.toNat : Int))) | none => none) else none
  | _, _ => none
def zN (x : V) (i : Nat) : Option V :=
  match x with
  | .tup vs => vs[i]?
  | _ => none
def po (N : Option Nat) (z : Option (List V)) (h : Heap) : Option (V × Heap) :=
  match z with
  | some zs => if zs.isEmpty then none else some (.ptr (nI N h) 0 0, nH N h (.vs zs.length [zs]))
  | none => none
def Kj (N : Option Nat) (cs : List V) (h : Heap) : Option (V × Heap) :=
  if cs.isEmpty || !cs.all za then none else some (.ptr (nI N h) 0 0, nH N h (.vs cs.length [cs]))
/-- the slots at a call's start -/
def aM (args : List V) : Env := fun t => (args[t]?).getD .bad
theorem rT : ∀ (args : List V) (s t : Nat), ze (List.range' s args.length) args t = if s ≤ t then (args[t - s]?).getD .bad else .bad
  | [], s, t => by simp [ze]
  | v :: vs, s, t => by
    simp only [List.length_cons, List.range'_succ, ze, upd, rT vs (s + 1) t]
    by_cases h : t = s
    · subst h; simp
    · simp only [h, if_false]
      by_cases h2 : s + 1 ≤ t
      · have e : t - s = (t - (s + 1)) + 1 := by omega
        simp only [h2, if_true, show s ≤ t by omega, e, List.getElem?_cons_succ]
      · simp only [h2, if_false, show ¬ s ≤ t by omega]
theorem pH (args : List V) : ze (List.range args.length) args = aM args := by
  funext t
  rw [List.range_eq_range', rT args 0 t]
  simp [aM]
theorem kH (v : V) (vs : List V) : aM (v :: vs) 0 = v := rfl
theorem kI (v : V) (vs : List V) (n : Nat) : aM (v :: vs) (n + 1) = aM vs n := rfl
theorem zw {P : Program} {pol : Pol} {f : Nat} {fn : Func} {c : Code} {args : List V} {h : Heap} {r : xN} (hx : pol.ext f args = none) (hf : P.funcs[f]? = some fn) (hb : fn.body = some c)
    (hn : (pol.no f || fn.name == "runtime.NumGoroutine" || decide (fn.ntmps < args.length)) = false)
    (hg : goC ⟨P, pol, EV P pol, f, h.length⟩ c 1 [] (.call fn.results.toList) (aM args) h = some r) : EV P pol (.call f args h) = some r := by
  rw [← pH] at hg
  apply qB
  simp only [E.step, hx, hf, hb, hn]
  unfold goC at hg
  simp only at hg
  cases hc : evC P pol (EV P pol) f h.length c 1 (ze (List.range args.length) args) h with
  | none => simp [hc] at hg
  | some x =>
    obtain ⟨x, e', h'⟩ := x
    simp only [hc, goX, nz] at hg
    simp only [Bool.false_eq_true, if_false]
    cases x with
    | exit id => cases hg
    | _ =>
      simp only [eH] at hg
      cases hres : wW P e' h' fn.results.toList with
      | none => simp [hres] at hg
      | some vs =>
        simp only [hres] at hg ⊢
        cases hgv : zy h' (zC vs) with
        | none => simp [hgv] at hg
        | some y => simpa only [hgv] using hg
theorem yK {P : Program} {pol : Pol} {gv : Bool} {f : Nat} {fn : Func} {c : Code} {args : List V} {h : Heap} {r : xN} (hf : P.funcs[f]? = some fn) (hb : fn.body = some c)
    (hn : (pol.no f || fn.name == "runtime.NumGoroutine" || decide (fn.ntmps < args.length)) = false)
    (hg : goC ⟨P, pol, EV P pol, f, h.length⟩ c 1 [] (.callO gv fn.results.toList) (aM args) h = some r) (hx : pol.extO f args h = none := by rfl) : EV P pol (.callO gv f args h) = some r := by
  rw [← pH] at hg
  apply qB
  simp only [E.step, hx, hf, hb, hn]
  unfold goC at hg
  simp only at hg
  cases hc : evC P pol (EV P pol) f h.length c 1 (ze (List.range args.length) args) h with
  | none => simp [hc] at hg
  | some x =>
    obtain ⟨x, e', h'⟩ := x
    simp only [hc, goX, nz] at hg
    simp only [Bool.false_eq_true, if_false]
    cases x with
    | exit id => cases hg
    | _ => exact hg
theorem zz {P : Program} {pol : Pol} {f p m : Nat} {fn : Func} {c b : Code} {vals : List V} {h : Heap} {r : xN} (hf : P.funcs[f]? = some fn) (hb : fn.body = some c) (hc : yH c (turns p) = some (.loop b))
    (hg : goC ⟨P, pol, EV P pol, f, m⟩ b (2 * p) [] (.loop p) (ze (pol.live f p) vals) h = some r) : EV P pol (.loop f p m vals h) = some r := by
  apply qB
  simp only [E.step, hf, hb, hc]
  unfold goC at hg
  simp only at hg
  cases hc : evC P pol (EV P pol) f m b (2 * p) (ze (pol.live f p) vals) h with
  | none => simp [hc] at hg
  | some x =>
    obtain ⟨x, e', h'⟩ := x
    simp only [hc, goX, nz] at hg
    cases x with
    | normal => exact hg
    | ret => exact hg
    | exit id => exact hg
section
variable (C : Cx) (p : Nat) (fs : List Fr) (k : sY) (e : Env) (h : Heap) (q : Rg) (rest : List Oper) (dst : Option Nat) (ty : TypeId) (pos : String) (after : Array Edge)
theorem ai (a b : Code) : goC C (.seq a b) p fs k e h = goC C a (2 * p) (.seq b (2 * p + 1) :: fs) k e h := by
  unfold goC; simp only [evC, goX]
  cases evC C.P C.pol C.rc C.f C.m a (2 * p) e h with
  | none => rfl
  | some x => obtain ⟨x, e', h'⟩ := x; cases x <;> rfl
theorem fC (c : Operand) (a b : Code) : goC C (.cond c a b) p fs k e h = cK C (opv C.P e 0 c) a b p fs k e h := by
  unfold goC cK; simp only [evC]
  cases opv C.P e 0 c with
  | t x => cases x with
    | bool t => cases t <;> rfl
    | _ => rfl
  | _ => rfl
theorem lZ (id : Nat) (a : Code) : goC C (.block id a) p fs k e h = goC C a (2 * p) (.blk id :: fs) k e h := by
  unfold goC; simp only [evC, goX]
  cases evC C.P C.pol C.rc C.f C.m a (2 * p) e h with
  | none => rfl
  | some x =>
    obtain ⟨x, e', h'⟩ := x
    cases x with
    | exit id' => simp only; by_cases hi : id' = id <;> simp [hi]
    | _ => rfl
theorem fy (a : Code) : goC C (.loop a) p fs k e h = lK C (C.rc (.loop C.f p C.m (yo C.m ((C.pol.live C.f p).map e) h).1 (yo C.m ((C.pol.live C.f p).map e) h).2)) (C.pol.outs C.f p) fs k := by
  unfold goC lK; simp only [evC]
  cases C.rc (.loop C.f p C.m (yo C.m ((C.pol.live C.f p).map e) h).1 (yo C.m ((C.pol.live C.f p).map e) h).2) with
  | none => rfl
  | some x => cases x <;> rfl
theorem fA (id : Nat) : goC C (.exit id) p fs k e h = goX C fs k (.exit id) e h := rfl
theorem aj : goC C .ret p fs k e h = goX C fs k .ret e h := rfl
theorem fx : goC C .skip p fs k e h = goX C fs k .normal e h := rfl
theorem nw (n : Nat) (l : List Oper) : goC C (.region n l.toArray false) p fs k e h = goR C ⟨l.toArray, none, [], [], false, true⟩ l fs k e (ghH (C.pol.gh C.f n) e h) := by
  unfold goC goR; simp only [evC, List.toList_toArray, Bool.false_and, Bool.false_eq_true, if_false, if_true]
  cases rB C.P C.pol C.rc C.f l.toArray l e (ghH (C.pol.gh C.f n) e h) <;> rfl
/-- a region in open order -/
def goD (C : Cx) (simple z : Bool) (l : List Oper) (fs : List Fr) (k : sY) (e : Env) (h : Heap) : Option xN :=
  if simple then goR C ⟨l.toArray, none, [], [], false, false⟩ l fs k e h else if z then goR C ⟨l.toArray, none, [], [], true, true⟩ l fs k e h else goR C ⟨l.toArray, none, ve C.pol C.f h.length l, [], true, false⟩ l fs k e (h ++ List.replicate (wD C.pol C.f l) .dead)
theorem fB (n : Nat) (l : List Oper) (hd : C.pol.dr C.f = true) : goC C (.region n l.toArray true) p fs k e h = goD C (l.all (yB C.pol C.f)) (C.pol.own C.f && C.pol.dm C.f n) l fs k e h := by
  unfold goC goD; simp only [evC, hd, List.toList_toArray]
  cases hn : l.all (yB C.pol C.f) with
  | true =>
    simp only [Bool.not_true, Bool.and_false, Bool.false_eq_true, if_false, if_true]
    unfold goR
    simp only [Bool.false_eq_true, if_false]
    cases wN C.P C.pol C.rc C.f l.toArray l e h <;> rfl
  | false =>
    simp only [Bool.not_true, Bool.not_false, Bool.and_true, Bool.and_false, Bool.false_eq_true, if_false, if_true]
    by_cases hc : (C.pol.own C.f && C.pol.dm C.f n) = true
    · simp only [hc, if_true]
      unfold evZ goR
      simp only [List.toList_toArray, if_true, List.reverse_nil, List.nil_append]
      cases evR C.P C.pol C.rc C.f l.toArray l e h with
      | none => rfl
      | some x =>
        obtain ⟨y1, y2, y3⟩ := x
        by_cases hx : zOK C.pol C.f l.toArray y1 = true
        · simp only [hx, if_true]
        · simp only [hx, Bool.false_eq_true, if_false]
    simp only [hc, Bool.false_eq_true, if_false]
    unfold s9 goR
    simp only [List.toList_toArray, if_true, Bool.false_eq_true, if_false, List.reverse_nil, List.nil_append]
    cases evD C.P C.pol C.rc C.f l.toArray (ve C.pol C.f h.length l) l e (h ++ List.replicate (wD C.pol C.f l) .dead) with
    | none => rfl
    | some x =>
      obtain ⟨y1, y2, y3⟩ := x
      by_cases hx : eD C.pol C.f l.toArray y1 = true
      · simp only [hx, if_true]
      · simp only [hx, Bool.false_eq_true, if_false]
theorem fw (z : Bool) (l : List Oper) : goD C true z l fs k e h = goR C ⟨l.toArray, none, [], [], false, false⟩ l fs k e h := rfl
theorem S8 (l : List Oper) : goD C false true l fs k e h = goR C ⟨l.toArray, none, [], [], true, true⟩ l fs k e h := rfl
theorem lY (l : List Oper) : goD C false false l fs k e h = goR C ⟨l.toArray, none, ve C.pol C.f h.length l, [], true, false⟩ l fs k e (h ++ List.replicate (wD C.pol C.f l) .dead) := rfl
theorem ae (x : Exi) : goX C [] k x e h = nz C k x e h := rfl
theorem ab (c : Code) : goX C (.seq c p :: fs) k .normal e h = goC C c p fs k e h := rfl
theorem pT (c : Code) : goX C (.seq c p :: fs) k .ret e h = goX C fs k .ret e h := rfl
theorem rU (c : Code) (id : Nat) : goX C (.seq c p :: fs) k (.exit id) e h = goX C fs k (.exit id) e h := rfl
theorem af (id : Nat) : goX C (.blk id :: fs) k .normal e h = goX C fs k .normal e h := rfl
theorem pU (id : Nat) : goX C (.blk id :: fs) k .ret e h = goX C fs k .ret e h := rfl
theorem rV (id id' : Nat) : goX C (.blk id :: fs) k (.exit id') e h = if id' = id then goX C fs k .normal e h else goX C fs k (.exit id') e h := rfl
theorem ah (ops : Array Oper) (x : Bool) : goR C ⟨ops, none, [], [], false, x⟩ [] fs k e h = goX C fs k .normal e h := by cases x <;> rfl
theorem T9 (ops : Array Oper) (o : Oper) : mO C ⟨ops, none, [], [], false, true⟩ o e h = vy C.P C.pol C.rc C.f o e h := rfl
theorem aq {q : Rg} (hx : q.x = false) (o : Oper) : mO C q o e h = yc C.P C.pol C.rc C.f q.N o e h := by unfold mO; rw [hx]; rfl
theorem fu (ops : Array Oper) (x : Bool) (o : Oper) : goR C ⟨ops, none, [], [], false, x⟩ (o :: rest) fs k e h = goW C (want ops o e) ⟨ops, none, [], [], false, x⟩ o rest fs k e h := by
  cases x with
  | true =>
    unfold goR goW; simp only [Bool.false_eq_true, if_false, if_true, rB, wC]
    cases want ops o e with
    | none => rfl
    | some b => cases b with
      | false => simp only [goR, Bool.false_eq_true, if_false, if_true]
      | true => simp only [T9]; cases vy C.P C.pol C.rc C.f o e h with
        | none => rfl
        | some x => simp only [goR, Bool.false_eq_true, if_false, if_true]
  | false =>
    unfold goR goW; simp only [Bool.false_eq_true, if_false, wN, tq]
    cases want ops o e with
    | none => rfl
    | some b => cases b with
      | false => simp only [goR, Bool.false_eq_true, if_false]
      | true => simp only [aq (q := ⟨ops, none, [], [], false, false⟩) C e h rfl]; cases yc C.P C.pol C.rc C.f none o e h with
        | none => rfl
        | some x => simp only [goR, Bool.false_eq_true, if_false]
theorem ft (ops : Array Oper) (N : Option Nat) (acc : List (List Nat)) : goR C ⟨ops, N, [], acc, true, false⟩ [] fs k e h = if eD C.pol C.f ops acc.reverse then goX C fs k .normal e h else none := by
  unfold goR; simp only [if_true, Bool.false_eq_true, if_false, evD, List.append_nil]
theorem lX (ops : Array Oper) (N N' : Option Nat) (Ns : List (Option Nat)) (acc : List (List Nat)) (o : Oper) : goR C ⟨ops, N, N' :: Ns, acc, true, false⟩ (o :: rest) fs k e h = goW C (want ops o e) ⟨ops, N', Ns, yw N' o e h :: acc, true, false⟩ o rest fs k e h := by
  unfold goR goW; simp only [if_true, Bool.false_eq_true, if_false, evD, tq]
  cases want ops o e with
  | none => rfl
  | some b => cases b with
    | false =>
      simp only [goR, if_true, Bool.false_eq_true, if_false, List.reverse_cons, List.append_assoc, List.singleton_append]
      cases evD C.P C.pol C.rc C.f ops Ns rest (put e o.dst .und) h <;> rfl
    | true => simp only [aq (q := ⟨ops, N', Ns, yw N' o e h :: acc, true, false⟩) C e h rfl]; cases yc C.P C.pol C.rc C.f N' o e h with
      | none => rfl
      | some x =>
        simp only [goR, if_true, Bool.false_eq_true, if_false, List.reverse_cons, List.append_assoc, List.singleton_append]
        cases evD C.P C.pol C.rc C.f ops Ns rest (put e o.dst x.1) x.2 <;> rfl
theorem fq (ops : Array Oper) (acc : List (List Nat)) : goR C ⟨ops, none, [], acc, true, true⟩ [] fs k e h = if zOK C.pol C.f ops acc.reverse then goX C fs k .normal e h else none := by
  unfold goR; simp only [if_true, evR, List.append_nil]
theorem lW (ops : Array Oper) (acc : List (List Nat)) (o : Oper) : goR C ⟨ops, none, [], acc, true, true⟩ (o :: rest) fs k e h = goW C (want ops o e) ⟨ops, none, [], (h.length :: yw none o e h) :: acc, true, true⟩ o rest fs k e h := by
  unfold goR goW; simp only [if_true, evR, wC]
  cases want ops o e with
  | none => rfl
  | some b => cases b with
    | false =>
      simp only [goR, if_true, List.reverse_cons, List.append_assoc, List.singleton_append]
      cases evR C.P C.pol C.rc C.f ops rest (put e o.dst .und) h <;> rfl
    | true =>
      rw [show mO C ⟨ops, none, [], (h.length :: yw none o e h) :: acc, true, true⟩ o e h = vy C.P C.pol C.rc C.f o e h from rfl]
      cases vy C.P C.pol C.rc C.f o e h with
      | none => rfl
      | some x =>
        simp only [goR, if_true, List.reverse_cons, List.append_assoc, List.singleton_append]
        cases evR C.P C.pol C.rc C.f ops rest (put e o.dst x.1) x.2 <;> rfl
theorem yA {o : Oper} (ho : xa C.P C.pol C.rc C.f o e h = none) : goW C (some true) q o rest fs k e h = sU C q o rest fs k e h := by
  unfold goW sU mO
  simp only [ho, ite_self]
theorem oG {o : Oper} {x y : Option (V × Heap)} (hx : xa C.P C.pol C.rc C.f o e h = x) (hy : yc C.P C.pol C.rc C.f q.N o e h = y) : goW C (some true) q o rest fs k e h = r2 C (kK q.x (C.pol.own C.f) x y) o.dst q rest fs k e := by
  unfold goW mO r2 kK
  rw [hx, hy]
theorem b6 (b : Bool) (x y : Option (V × Heap)) : kK false b x y = y := rfl
theorem b5 (a : Bool) (x y : Option (V × Heap)) : kK a false x y = y := by cases a <;> rfl
theorem yO (r : V × Heap) (y : Option (V × Heap)) : kK true true (some r) y = some r := rfl
theorem yP (y : Option (V × Heap)) : kK true true none y = y := rfl
theorem lV (o : Oper) : goW C (some false) q o rest fs k e h = goR C q rest fs k (put e o.dst .und) h := rfl
theorem la (ops : Array Oper) (op : Op) : want ops ⟨dst, op, ty, pos, after, none⟩ e = some true := rfl
variable (g : Option (Nat × Bool))
theorem VI (x : Operand) : goW C (some true) q ⟨dst, .move x, ty, pos, after, g⟩ rest fs k e h = goR C q rest fs k (put e dst (opv C.P e ty x)) h := (yA C fs k e h q rest (by rfl)).trans rfl
theorem gM (x : Operand) : goW C (some true) q ⟨dst, .assign x, ty, pos, after, g⟩ rest fs k e h = goR C q rest fs k (put e dst (opv C.P e ty x)) h := (yA C fs k e h q rest (by rfl)).trans rfl
theorem VH (c a b : Operand) : goW C (some true) q ⟨dst, .pick c a b, ty, pos, after, g⟩ rest fs k e h = r1 C (zq (opv C.P e 0 c) (opv C.P e ty a) (opv C.P e ty b)) dst q rest fs k e h := by
  rw [yA C fs k e h q rest (by rfl)]; simp only [sU, yc, r1, zq]
  cases opv C.P e 0 c with
  | t x => cases x <;> rfl
  | _ => rfl
theorem bF (t : TypeId) : goW C (some true) q ⟨dst, .alloc t, ty, pos, after, g⟩ rest fs k e h = r2 C (po q.N (zeroOf C.P t) h) dst q rest fs k e := by
  rw [yA C fs k e h q rest (by rfl)]; simp only [sU, yc, r2, po]
  cases zeroOf C.P t with
  | none => rfl
  | some zs => rfl
theorem TU (t : TypeId) (x : Operand) : goW C (some true) q ⟨dst, .box t x, ty, pos, after, g⟩ rest fs k e h = r2 C (Kj q.N (zb (opv C.P e t x)) h) dst q rest fs k e := (yA C fs k e h q rest (by rfl)).trans rfl
def jW (P : Program) (t : TypeId) (ps : List (Nat × V)) : Option V :=
  if xl P t then (match zeroOf P t with
    | some zs => (match tn P t zs ps with | some cs => some (.agg cs) | none => none)
    | none => none) else none
theorem bD (t : TypeId) (l : List (Nat × Operand)) : goW C (some true) q ⟨dst, .build t l.toArray, ty, pos, after, g⟩ rest fs k e h = r1 C (jW C.P t (xb C.P e (fTy C.P t) l)) dst q rest fs k e h := by
  rw [yA C fs k e h q rest (by rfl)]; simp only [sU, yc, r1, jW]
  cases xl C.P t with
  | false => rfl
  | true => cases zeroOf C.P t with
    | none => rfl
    | some zs => simp only [if_true]; cases tn C.P t zs (xb C.P e (fTy C.P t) l) <;> rfl
def jK (P : Program) (N : Option Nat) (t : TypeId) (len n : Nat) (ps : TypeId → List (Nat × V)) (h : Heap) : Option (V × Heap) :=
  match yg P t with
  | some el => if zS P el = 0 ∨ len * zS P el > 16777216 ∨ n ≠ len ∨ (zeroOf P el).isNone = true then none else
    match wq (zS P el) 0 (ps el) with
    | some css => match xA h css with
      | some (es, h') => some (.sl (nI N h') 0 len (some len), nH N h' (.ts (zS P el) es))
      | none => none
    | none => none
  | none => none
def w7 (P : Program) (t : TypeId) (len n : Nat) (ps : TypeId → List (Nat × V)) (h : Heap) : Option (V × Heap) :=
  match yg P t with
  | some el => if zS P el = 0 ∨ len * zS P el > 16777216 ∨ n ≠ len ∨ (zeroOf P el).isNone = true ∨ zS P el = 1 then none else
    match wq (zS P el) 0 (ps el) with
    | some css => some (.sl h.length 0 len (some len), h ++ [.vs (zS P el) css])
    | none => none
  | none => none
theorem rS (t : TypeId) (len : Nat) (l : List (Nat × Operand)) : goW C (some true) q ⟨dst, .buildSlice t len l.toArray, ty, pos, after, g⟩ rest fs k e h =
    r2 C (kK q.x (C.pol.own C.f) (w7 C.P t len l.length (fun el => xb C.P e (fun _ => el) l) h) (jK C.P q.N t len l.length (fun el => xb C.P e (fun _ => el) l) h)) dst q rest fs k e :=
  oG C fs k e h q rest (by simp only [xa, w7, List.size_toArray]; rfl) (by simp only [yc, jK, List.size_toArray]; rfl)
theorem VJ (t : TypeId) (a : Operand) : goW C (some true) q ⟨dst, .load t a, ty, pos, after, g⟩ rest fs k e h = r1 C (load C.P t (opv C.P e 0 a) h) dst q rest fs k e h := by
  rw [yA C fs k e h q rest (by rfl)]; simp only [sU, yc, r1]; cases load C.P t (opv C.P e 0 a) h <;> rfl
theorem bz (t : TypeId) (a x : Operand) : goW C (some true) q ⟨dst, .store t a x, ty, pos, after, g⟩ rest fs k e h = rh C (store C.P t (opv C.P e 0 a) (opv C.P e t x) h) dst q rest fs k e := by
  rw [yA C fs k e h q rest (by rfl)]; simp only [sU, yc, rh]; cases store C.P t (opv C.P e 0 a) (opv C.P e t x) h <;> rfl
theorem bE (op : BinOp) (t u : TypeId) (x y : Operand) : goW C (some true) q ⟨dst, .binOp op t x y u, ty, pos, after, g⟩ rest fs k e h = r1 C (zG C.P op t y (opv C.P e t x) (opv C.P e u y)) dst q rest fs k e h := by
  rw [yA C fs k e h q rest (by rfl)]; simp only [sU, yc, r1]; cases zG C.P op t y (opv C.P e t x) (opv C.P e u y) <;> rfl
theorem VG (op : UnOp) (t : TypeId) (x : Operand) : goW C (some true) q ⟨dst, .unOp op t x, ty, pos, after, g⟩ rest fs k e h = r1 C (una op (opv C.P e t x)) dst q rest fs k e h := by
  rw [yA C fs k e h q rest (by rfl)]; simp only [sU, yc, r1]; cases una op (opv C.P e t x) <;> rfl
theorem lF (s d : TypeId) (x : Operand) : goW C (some true) q ⟨dst, .convert s d x, ty, pos, after, g⟩ rest fs k e h = r1 C (conv C.P s d (opv C.P e s x) h) dst q rest fs k e h := by
  rw [yA C fs k e h q rest (by rfl)]; simp only [sU, yc, r1]; cases conv C.P s d (opv C.P e s x) h <;> rfl
def mkS (P : Program) (N : Option Nat) (t : TypeId) (l c : V) (h : Heap) : Option (V × Heap) :=
  match yg P t, l, c with
  | some el, .t (.int _ n), .t (.int _ m) => match zeroOf P el with
    | some zs => match zF zs with
      | some z => if zS P el = 0 ∨ n < 0 ∨ n ≠ m ∨ n.toNat * P.bytesOf el > yn ∨ n.toNat > yn then none else
        some (.sl (nI N h) 0 n.toNat (some n.toNat), nH N h (.ts (zS P el) (List.replicate n.toNat z)))
      | none => none
    | none => none
  | _, _, _ => none
def mkO (P : Program) (t : TypeId) (l c : V) (h : Heap) : Option (V × Heap) :=
  match yg P t, l, c with
  | some el, .t (.int _ n), .t (.int _ m) => match zeroOf P el with
    | some zs => if zS P el = 0 ∨ n < 0 ∨ n ≠ m ∨ n.toNat * P.bytesOf el > yn ∨ n.toNat > yn ∨ ¬ (zs.all za = true) then none else
        some (.sl h.length 0 n.toNat (some n.toNat), h ++ [.vs (zS P el) (List.replicate n.toNat zs)])
    | none => none
  | _, _, _ => none
theorem pD (t : TypeId) (l c : Operand) : goW C (some true) q ⟨dst, .makeSlice t l c, ty, pos, after, g⟩ rest fs k e h =
    r2 C (kK q.x (C.pol.own C.f) (mkO C.P t (opv C.P e 0 l) (opv C.P e 0 c) h) (mkS C.P q.N t (opv C.P e 0 l) (opv C.P e 0 c) h)) dst q rest fs k e :=
  oG C fs k e h q rest rfl rfl
theorem bA (t : TypeId) (x : Operand) (lo hi mx : Option Operand) : goW C (some true) q ⟨dst, .slice t x lo hi mx, ty, pos, after, g⟩ rest fs k e h = r1 C (cut C.P t (opv C.P e t x) (sT C.P e lo) (sT C.P e hi) (sT C.P e mx) h) dst q rest fs k e h := by
  rw [yA C fs k e h q rest (by rfl)]; simp only [sU, yc, r1]; cases cut C.P t (opv C.P e t x) (sT C.P e lo) (sT C.P e hi) (sT C.P e mx) h <;> rfl
theorem nn (x : Operand) : goW C (some true) q ⟨dst, .nilCheck x, ty, pos, after, g⟩ rest fs k e h = r1 C (zH (opv C.P e 0 x)) dst q rest fs k e h := by
  rw [yA C fs k e h q rest (by rfl)]; simp only [sU, yc, r1]; cases zH (opv C.P e 0 x) <;> rfl
theorem pF (s : TypeId) (x : Operand) (i : Nat) : goW C (some true) q ⟨dst, .fieldAddr s x i, ty, pos, after, g⟩ rest fs k e h = r1 C (td C.P s (opv C.P e 0 x) i) dst q rest fs k e h := by
  rw [yA C fs k e h q rest (by rfl)]; simp only [sU, yc, r1]; cases td C.P s (opv C.P e 0 x) i <;> rfl
theorem bC (s : TypeId) (x : Operand) (i : Nat) : goW C (some true) q ⟨dst, .field s x i, ty, pos, after, g⟩ rest fs k e h = r1 C (fld C.P s (opv C.P e s x) i) dst q rest fs k e h := by
  rw [yA C fs k e h q rest (by rfl)]; simp only [sU, yc, r1]; cases fld C.P s (opv C.P e s x) i <;> rfl
theorem pE (t : TypeId) (x i : Operand) : goW C (some true) q ⟨dst, .indexAddr t x i, ty, pos, after, g⟩ rest fs k e h = r1 C (z7 C.P t (opv C.P e t x) (opv C.P e 0 i) h) dst q rest fs k e h := by
  rw [yA C fs k e h q rest (by rfl)]; simp only [sU, yc, r1]; cases z7 C.P t (opv C.P e t x) (opv C.P e 0 i) h <;> rfl
theorem bB (t : TypeId) (x i : Operand) : goW C (some true) q ⟨dst, .index t x i, ty, pos, after, g⟩ rest fs k e h = r1 C (zM C.P t (opv C.P e t x) (opv C.P e 0 i)) dst q rest fs k e h := by
  rw [yA C fs k e h q rest (by rfl)]; simp only [sU, yc, r1, zM]
  cases opv C.P e t x with
  | t a => cases a with
    | str l => cases opv C.P e 0 i with
      | t b => cases b with
        | int kk n => simp only; cases isStr C.P t with
          | false => rfl
          | true => simp only [if_true]; cases uD l n <;> rfl
        | _ => rfl
      | _ => rfl
    | _ => rfl
  | _ => rfl
theorem lE (x : Operand) (i : Nat) : goW C (some true) q ⟨dst, .extract x i, ty, pos, after, g⟩ rest fs k e h = r1 C (zN (opv C.P e 0 x) i) dst q rest fs k e h := by
  rw [yA C fs k e h q rest (by rfl)]; simp only [sU, yc, r1, zN]
  cases opv C.P e 0 x with
  | tup vs => simp only; cases vs[i]? <;> rfl
  | _ => rfl
def qz (P : Program) (b : Builtin) (args : List V) (tys : List TypeId) (h : Heap) : Option (V × Heap) :=
  match b, args, tys with
  | .append, [s, x], [t, u] => tA P t u s x h
  | _, _, _ => none
theorem lG (b : Builtin) (args : List Operand) (tys : List TypeId) : goW C (some true) q ⟨dst, .call ⟨.builtin b, args.toArray, tys.toArray⟩, ty, pos, after, g⟩ rest fs k e h =
    r2 C (kK q.x (C.pol.own C.f) (qz C.P b (yI C.P e args tys) tys h) (blt C.P q.N b tys (yI C.P e args tys) h)) dst q rest fs k e :=
  oG C fs k e h q rest rfl rfl
def rF (r : Option xN) (h : Heap) : Option (V × Heap) :=
  match r with
  | some (.call v h1) => if xf v && h1.all tr then yN none [] v h1 h else none
  | _ => none
def rG (rc : Rec) (g : Nat) (az : Option (List V)) (h : Heap) : Option (V × Heap) :=
  match az with
  | some az => rF (rc (.callO false g az [])) h
  | none => none
def sX (C : Cx) (m : PM) (fv : Option (Nat × List V)) (args : List V) (h : Heap) : Option (V × Heap) :=
  match fv with
  | some (g, caps) => (match m with
    | .brw => rG C.rc g (zd.snapVs h (args ++ caps)) h
    | _ => none)
  | none => none
theorem UM (x : Operand) (args : List Operand) (tys : List TypeId) : yc C.P C.pol C.rc C.f q.N ⟨dst, .call ⟨.value x, args.toArray, tys.toArray⟩, ty, pos, after, g⟩ e h = uH C q.N (C.pol.pm C.f (dst.getD 0)) (fnV (opv C.P e 0 x)) (yI C.P e args tys) h := by
  simp only [yc, uH]
  cases fnV (opv C.P e 0 x) with
  | none => rfl
  | some y =>
    obtain ⟨g, caps⟩ := y
    simp only [wO]
    cases C.pol.pm C.f (dst.getD 0) with
    | pure => simp only; cases asArg.asArgs (yI C.P e args tys ++ caps) with
      | none => simp only; cases zd.snapVs h (yI C.P e args tys ++ caps) with
        | none => rfl
        | some az => simp only; cases zE C.rc g az <;> rfl
      | some az => simp only; cases zE C.rc g az <;> rfl
    | frz => simp only; cases zy.gives h (yI C.P e args tys ++ caps) with
      | none => rfl
      | some az => simp only; cases zE C.rc g az.1 <;> rfl
    | opn gv =>
      simp only [zr]
      cases C.rc (.callO gv g (yo 0 (yI C.P e args tys ++ caps) h).1 (yo 0 (yI C.P e args tys ++ caps) h).2) with
      | none => rfl
      | some r => cases r <;> rfl
    | brw => rfl
theorem UL (x : Operand) (args : List Operand) (tys : List TypeId) : xa C.P C.pol C.rc C.f ⟨dst, .call ⟨.value x, args.toArray, tys.toArray⟩, ty, pos, after, g⟩ e h = sX C (C.pol.pm C.f (dst.getD 0)) (fnV (opv C.P e 0 x)) (yI C.P e args tys) h := by
  simp only [xa, sX]
  cases fnV (opv C.P e 0 x) with
  | none => rfl
  | some y =>
    obtain ⟨g, caps⟩ := y
    simp only
    cases C.pol.pm C.f (dst.getD 0) with
    | brw =>
      simp only [qF, rG, rF]
      cases zd.snapVs h (yI C.P e args tys ++ caps) <;> rfl
    | _ => rfl
theorem VL (x : Operand) (args : List Operand) (tys : List TypeId) : goW C (some true) q ⟨dst, .call ⟨.value x, args.toArray, tys.toArray⟩, ty, pos, after, g⟩ rest fs k e h =
    r2 C (kK q.x (C.pol.own C.f) (sX C (C.pol.pm C.f (dst.getD 0)) (fnV (opv C.P e 0 x)) (yI C.P e args tys) h) (uH C q.N (C.pol.pm C.f (dst.getD 0)) (fnV (opv C.P e 0 x)) (yI C.P e args tys) h)) dst q rest fs k e :=
  oG C fs k e h q rest (UL C e h dst ty pos after g x args tys) (UM C e h q dst ty pos after g x args tys)
theorem np (fn : Nat) (caps : List Operand) : goW C (some true) q ⟨dst, .makeFunc (.func fn) #[] caps.toArray, ty, pos, after, g⟩ rest fs k e h = goR C q rest fs k (put e dst (.fn fn (yI C.P e caps []))) h := (yA C fs k e h q rest (by rfl)).trans rfl
theorem bg (v : V) : r1 C (some v) dst q rest fs k e h = goR C q rest fs k (put e dst v) h := rfl
theorem bf (v : V) : r2 C (some (v, h)) dst q rest fs k e = goR C q rest fs k (put e dst v) h := rfl
theorem b9 : rh C (some h) dst q rest fs k e = goR C q rest fs k (put e dst .und) h := rfl
theorem aJ (a b : Code) : cK C (.t (.bool true)) a b p fs k e h = goC C a (2 * p) fs k e h := rfl
theorem ep (a b : Code) : cK C (.t (.bool false)) a b p fs k e h = goC C b (2 * p + 1) fs k e h := rfl
theorem XR {C : Cx} {b : Bool} {a c : Code} {p : Nat} {fs : List Fr} {k : sY} {e : Env} {h : Heap} {r : Option xN} (ht : b = true → goC C a (2 * p) fs k e h = r) (hf : b = false → goC C c (2 * p + 1) fs k e h = r) : cK C (.t (.bool b)) a c p fs k e h = r := by
  cases b with
  | true => exact ht rfl
  | false => exact hf rfl
theorem bX (x : Exi) (vals : List V) (outs : List Nat) : lK C (some (.loop x vals h)) outs fs k = goX C fs k x (ze outs vals) h := rfl
theorem fN (res : List ResultVar) : nz C (.call res) .ret e h = eH C.P C.m (wW C.P e h res) h := rfl
theorem pV (res : List ResultVar) : nz C (.call res) .normal e h = eH C.P C.m (wW C.P e h res) h := rfl
theorem ke (gv : Bool) (res : List ResultVar) : nz C (.callO gv res) .ret e h = oY gv C.m (wW C.P e h res) h := rfl
theorem rX (gv : Bool) (res : List ResultVar) : nz C (.callO gv res) .normal e h = oY gv C.m (wW C.P e h res) h := rfl
theorem ny : nz C (.loop p) .normal e h = C.rc (.loop C.f p C.m (yo C.m ((C.pol.live C.f p).map e) h).1 (yo C.m ((C.pol.live C.f p).map e) h).2) := rfl
theorem kg (id : Nat) : nz C (.loop p) (.exit id) e h = some (.loop (.exit id) (yo C.m ((C.pol.outs C.f p).map e) h).1 (yo C.m ((C.pol.outs C.f p).map e) h).2) := rfl
theorem kf : nz C (.loop p) .ret e h = some (.loop .ret (yo C.m ((C.pol.outs C.f p).map e) h).1 (yo C.m ((C.pol.outs C.f p).map e) h).2) := rfl
end
theorem VB (e : Env) (d : Nat) (v : V) (t : Nat) : upd e d v t = if t = d then v else e t := rfl
theorem gx (e : Env) (d : Nat) (v : V) : put e (some d) v = upd e d v := rfl
theorem gy (e : Env) (v : V) : put e none v = e := rfl
/-- the machine's equations -/
theorem GO : type_of% ai ∧ type_of% fC ∧ type_of% lZ ∧ type_of% fy ∧ type_of% fA ∧ type_of% aj ∧ type_of% fx ∧ type_of% nw ∧ type_of% b6 ∧ type_of% b5 ∧ type_of% fw ∧ type_of% S8 ∧ type_of% lY ∧ type_of% fq ∧ type_of% lW ∧ type_of% ae ∧ type_of% ab ∧ type_of% pT ∧ type_of% rU ∧ type_of% af ∧ type_of% pU ∧ type_of% rV ∧ type_of% ah ∧ type_of% fu ∧ type_of% ft ∧ type_of% lX ∧ type_of% lV ∧ type_of% VI ∧ type_of% gM ∧ type_of% VH ∧ type_of% bF ∧ type_of% TU ∧ type_of% bD ∧ type_of% rS ∧ type_of% VJ ∧ type_of% bz ∧ type_of% bE ∧ type_of% VG ∧ type_of% lF ∧ type_of% pD ∧ type_of% bA ∧ type_of% nn ∧ type_of% pF ∧ type_of% bC ∧ type_of% pE ∧ type_of% bB ∧ type_of% lE ∧ type_of% lG ∧ type_of% VL ∧ type_of% np ∧ type_of% bg ∧ type_of% bf ∧ type_of% b9 ∧ type_of% aJ ∧ type_of% ep ∧ type_of% bX ∧ type_of% fN ∧ type_of% pV ∧ type_of% ke ∧ type_of% rX ∧ type_of% ny ∧ type_of% kg ∧ type_of% kf :=
  ⟨ai, fC, lZ, fy, fA, aj, fx, nw, b6, b5, fw, S8, lY, fq, lW, ae, ab, pT, rU, af, pU, rV, ah, fu, ft, lX, lV, VI, gM, VH, bF, TU, bD, rS, VJ, bz, bE, VG, lF, pD, bA, nn, pF, bC, pE, bB, lE, lG, VL, np, bg, bf, b9, aJ, ep, bX, fN, pV, ke, rX, ny, kg, kf⟩
end Go.Proofs.YtmcephnfcciloaaGreatDoor.E
/- What a law's text needs besides: shapes of arguments, arithmetic in range, the policy's guard. Conditions: those of each lemma. -/
namespace Go.Proofs.YtmcephnfcciloaaGreatDoor.E
set_option linter.unusedVariables false
set_option linter.unusedSimpArgs false
def eA (P : Program) (pm : Nat → Nat → PM) (live outs : Nat → Nat → List Nat) (dr : Nat → Bool) (ext : Nat → List V → Option V) (extO : Nat → List V → Heap → Option (V × Heap) := fun _ _ _ => none) (ow : Nat → Bool := fun _ => false) (gh : Nat → Nat → List Gh := fun _ _ => []) (dm : Nat → Nat → Bool := fun _ _ => false) : Pol :=
  let p0 : Pol := ⟨pm, live, outs, fun _ => false, dr, ext, extO, ow, gh, dm⟩
  ⟨pm, live, outs, fun f => match P.funcs[f]? with
    | some fn => match fn.body with
      | some c => !x7 (ou P p0 f) fn.ntmps c
      | none => false
    | none => false, dr, ext, extO, ow, gh, dm⟩
theorem gB {P : Program} {pm : Nat → Nat → PM} {live outs : Nat → Nat → List Nat} {dr : Nat → Bool} {ext : Nat → List V → Option V} {extO : Nat → List V → Heap → Option (V × Heap)} {ow : Nat → Bool} {gh : Nat → Nat → List Gh} {dm : Nat → Nat → Bool} : ∀ f fn c, (eA P pm live outs dr ext extO ow gh dm).no f = false → P.funcs[f]? = some fn → fn.body = some c → x7 (ou P (eA P pm live outs dr ext extO ow gh dm) f) fn.ntmps c = true := by
  intro f fn c h h1 h2
  simp only [eA] at h
  rw [h1] at h
  simp only [h2] at h
  have : x7 (ou P ⟨pm, live, outs, fun _ => false, dr, ext, extO, ow, gh, dm⟩ f) fn.ntmps c = true := by simpa using h
  exact this
variable {P : Program}
theorem WT.Xg {t : TypeId} {cs : List T} (ht : P.underlying t = some .bool) (h : WT P t cs) : ∃ b, cs = [.bool b] := by
  cases h with
  | int _ k' n h hw => rw [ht] at h; cases h
  | bool _ b h => exact ⟨b, rfl⟩
  | str _ l h => rw [ht] at h; cases h
  | list _ e es h => rw [ht] at h; cases h
  | struct _ fs cs h => rw [ht] at h; cases h
theorem WT.vq {t : TypeId} {cs : List T} (ht : P.underlying t = some .string) (h : WT P t cs) : ∃ l, cs = [.str l] ∧ l.length ≤ 9223372036854775807 := by
  cases h with
  | int _ k' n h hw => rw [ht] at h; cases h
  | bool _ b h => rw [ht] at h; cases h
  | str _ l h hl => exact ⟨l, rfl, hl⟩
  | list _ e es h => rw [ht] at h; cases h
  | struct _ fs cs h => rw [ht] at h; cases h
theorem WT.qi {t e : TypeId} {cs : List T} (ht : P.underlying t = some (.slice e)) (h : WT P t cs) : ∃ es, cs = [.list (P.cellsOf e) es] ∧ es.length ≤ 9223372036854775807 ∧ ∀ c ∈ es, WT P e c := by
  cases h with
  | int _ k' n h hw => rw [ht] at h; cases h
  | bool _ b h => rw [ht] at h; cases h
  | str _ l h hl => rw [ht] at h; cases h
  | list _ e es h hl hs => rw [ht] at h; cases h; exact ⟨es, rfl, hl, hs⟩
  | struct _ fs cs h => rw [ht] at h; cases h
theorem WT.uR {t : TypeId} {fs : Array Go.Field} {cs : List T} (ht : P.underlying t = some (.struct fs)) (h : WT P t cs) : cs.length = P.cellsOf t ∧ ∀ f ∈ fs.toList, WT P f.type ((cs.drop f.offset).take (P.cellsOf f.type)) := by
  cases h with
  | int _ k' n h hw => rw [ht] at h; cases h
  | bool _ b h => rw [ht] at h; cases h
  | str _ l h hl => rw [ht] at h; cases h
  | list _ e es h => rw [ht] at h; cases h
  | struct _ fs cs h hl hs => rw [ht] at h; cases h; exact ⟨hl, hs⟩
theorem WTA.T3 {xs : List V} (h : WTA P [] xs) : xs = [] := by cases h; rfl
theorem WTA.fo {t : TypeId} {ts : List TypeId} {xs : List V} (h : WTA P (t :: ts) xs) : ∃ cs v vs, xs = v :: vs ∧ WT P t cs ∧ zh (y9 P t) (cs.map .t) = some v ∧ WTA P ts vs := by
  cases h with
  | cons _ _ cs v vs h hp hs => exact ⟨cs, v, vs, rfl, h, hp, hs⟩
theorem zx {x : Int} (h : -9223372036854775808 ≤ x ∧ x ≤ 9223372036854775807) : IntKind.i64.wrap x = x := Go.IntWalk.i64_in x h
/-- the rows' new numbers, step by step -/
def ia : List Nat → Nat → Nat → Option Nat
  | [], _, _ => none
  | x :: xs, r, n => if x = r then some n else ia xs r (n + 1)
theorem a6 : ∀ (ids : List Nat) (r n : Nat), ia ids r n = if ids.idxOf r < ids.length then some (ids.idxOf r + n) else none
  | [], r, n => by simp [ia]
  | x :: xs, r, n => by
    simp only [ia]
    by_cases h : x = r
    · subst h; simp
    · rw [if_neg h, a6 xs r (n + 1), List.idxOf_cons]
      have : (x == r) = false := by simpa using h
      simp only [this, cond_false, List.length_cons, Nat.add_lt_add_iff_right]
      split
      · congr 1; omega
      · rfl
theorem idx_eq (ids : List Nat) (r : Nat) : idx ids r = ia ids r 0 := by rw [a6]; rfl
def TN (h : Heap) (r : Nat) : Blk := h[r]?.getD .dead
def qC (ids : List Nat) (h : Heap) : List Nat → Heap
  | [] => []
  | r :: rs => zB (idx ids) (TN h r) :: qC ids h rs
theorem gz (ids : List Nat) (h : Heap) : ∀ l : List Nat, qC ids h l = l.map fun r => zB (idx ids) (h[r]?.getD .dead)
  | [] => rfl
  | r :: rs => by simp only [qC, TN, List.map_cons, gz ids h rs]
def ot (h : Heap) : List Nat → List Nat
  | [] => []
  | r :: rs => x5 h r ++ ot h rs
theorem er (h : Heap) : ∀ l : List Nat, ot h l = l.flatMap (x5 h)
  | [] => rfl
  | r :: rs => by simp only [ot, List.flatMap_cons, er h rs]
def vK (h : Heap) : Nat → List Nat → List Nat
  | 0, ids => ids
  | n + 1, ids => vK h n (yC ids (ot h ids))
theorem ud (h : Heap) : ∀ (n : Nat) (ids : List Nat), vK h n ids = reach h n ids
  | 0, ids => rfl
  | n + 1, ids => by simp only [vK, reach, er, ud h n]
theorem nk (h : Heap) (args : List V) : xg h args = vK h 3 (yC [] (refs.refss args)) := (ud h 3 _).symm
def s6 : Nat → Nat → List Nat
  | 0, _ => []
  | n + 1, k => k :: s6 n (k + 1)
theorem lr : ∀ (n k : Nat), s6 n k = List.range' k n
  | 0, k => rfl
  | n + 1, k => by simp only [s6, List.range'_succ, lr n (k + 1)]
def pK (ids : List Nat) (vals : List V) (h : Heap) : List V × Heap := (ren.rens (idx ids) vals, qC ids h ids)
theorem gD (m : Nat) (vals : List V) (h : Heap) : yo m vals h = pK (vK h 3 (yC (s6 m 0) (refs.refss vals))) vals h := by
  unfold yo pK
  simp only [ud, gz, lr, List.range_eq_range']
theorem pK_1 (ids : List Nat) (vals : List V) (h : Heap) : (pK ids vals h).1 = ren.rens (idx ids) vals := rfl
theorem pK_2 (ids : List Nat) (vals : List V) (h : Heap) : (pK ids vals h).2 = qC ids h ids := rfl
theorem lC (t : TypeId) : (Op.alloc t).operands.toList = [] := rfl
theorem gG (x : Operand) : (Op.move x).operands.toList = [x] := rfl
theorem nj (x : Operand) : (Op.assign x).operands.toList = [x] := rfl
theorem bp (t : TypeId) (x : Operand) : (Op.box t x).operands.toList = [x] := rfl
theorem gH (t : TypeId) (x : Operand) : (Op.load t x).operands.toList = [x] := rfl
theorem gE (o : UnOp) (t : TypeId) (x : Operand) : (Op.unOp o t x).operands.toList = [x] := rfl
theorem pB (t u : TypeId) (x : Operand) : (Op.convert t u x).operands.toList = [x] := rfl
theorem rR (x : Operand) : (Op.nilCheck x).operands.toList = [x] := rfl
theorem sR (t : TypeId) (x : Operand) (i : Nat) : (Op.fieldAddr t x i).operands.toList = [x] := rfl
theorem lz (t : TypeId) (x : Operand) (i : Nat) : (Op.field t x i).operands.toList = [x] := rfl
theorem pA (x : Operand) (i : Nat) : (Op.extract x i).operands.toList = [x] := rfl
theorem gF (c a b : Operand) : (Op.pick c a b).operands.toList = [c, a, b] := rfl
theorem lA (t : TypeId) (l : List (Nat × Operand)) : (Op.build t l.toArray).operands.toList = l.map (·.2) := by simp [Op.operands]
theorem tC (t : TypeId) (n : Nat) (l : List (Nat × Operand)) : (Op.buildSlice t n l.toArray).operands.toList = l.map (·.2) := by simp [Op.operands]
theorem lu (t : TypeId) (x y : Operand) : (Op.store t x y).operands.toList = [x, y] := rfl
theorem lB (o : BinOp) (t u : TypeId) (x y : Operand) : (Op.binOp o t x y u).operands.toList = [x, y] := rfl
theorem sP (t : TypeId) (x y : Operand) : (Op.makeSlice t x y).operands.toList = [x, y] := rfl
theorem sQ (t : TypeId) (x y : Operand) : (Op.indexAddr t x y).operands.toList = [x, y] := rfl
theorem ly (t : TypeId) (x y : Operand) : (Op.index t x y).operands.toList = [x, y] := rfl
theorem lv (t : TypeId) (x : Operand) (lo hi mx : Option Operand) : (Op.slice t x lo hi mx).operands.toList = x :: (lo.toList ++ hi.toList ++ mx.toList) := by cases lo <;> cases hi <;> cases mx <;> rfl
theorem gI (f : Operand) (l : List Operand) (tys : Array TypeId) : (Op.call ⟨.value f, l.toArray, tys⟩).operands.toList = f :: l := by simp [Op.operands, Call.operands]
theorem pC (b : Builtin) (l : List Operand) (tys : Array TypeId) : (Op.call ⟨.builtin b, l.toArray, tys⟩).operands.toList = l := by simp [Op.operands, Call.operands]
theorem OPL : type_of% lC ∧ type_of% gG ∧ type_of% nj ∧ type_of% bp ∧ type_of% gH ∧ type_of% gE ∧ type_of% pB ∧ type_of% rR ∧ type_of% sR ∧ type_of% lz ∧ type_of% pA ∧ type_of% gF ∧ type_of% lA ∧ type_of% tC ∧ type_of% lu ∧ type_of% lB ∧ type_of% sP ∧ type_of% sQ ∧ type_of% ly ∧ type_of% lv ∧ type_of% gI ∧ type_of% pC :=
  ⟨lC, gG, nj, bp, gH, gE, pB, rR, sR, lz, pA, gF, lA, tC, lu, lB, sP, sQ, ly, lv, gI, pC⟩
/-- guards -/
def sH : List Oper → Nat → Option Nat
  | [], _ => none
  | o :: _, 0 => o.dst
  | _ :: r, n + 1 => sH r n
theorem fT : ∀ (l : List Oper) (j : Nat), sH l j = (l[j]?).bind (·.dst)
  | [], j => by simp [sH]
  | o :: r, 0 => rfl
  | o :: r, j + 1 => by simp [sH, fT r j]
def sC (v : V) (b : Bool) : Option Bool :=
  match v with
  | .t (.bool c) => some (c == b)
  | .und => some false
  | _ => none
def Ua (d : Option Nat) (b : Bool) (e : Env) : Option Bool :=
  match d with
  | some d => sC (e d) b
  | none => none
theorem oN (l : List Oper) (dst : Option Nat) (op : Op) (ty : TypeId) (pos : String) (after : Array Edge) (j : Nat) (b : Bool) (e : Env) : want l.toArray ⟨dst, op, ty, pos, after, some (j, b)⟩ e = Ua (sH l j) b e := by
  unfold want Ua sC
  rw [fT]
  simp only [List.getElem?_toArray]
  cases (l[j]?).bind (·.dst) <;> rfl
theorem oP (d : Nat) (b : Bool) (e : Env) : Ua (some d) b e = sC (e d) b := rfl
theorem hX : sC (.t (.bool true)) true = some true := rfl
theorem hY : sC (.t (.bool true)) false = some false := rfl
theorem hZ : sC (.t (.bool false)) true = some false := rfl
theorem ga : sC (.t (.bool false)) false = some true := rfl
theorem cW (b : Bool) : sC .und b = some false := rfl
theorem fJ {α : Type} (es : List α) (k : Nat) : uD es (k : Int) = es[k]? := by simp [uD]
theorem ue {α : Type} (es : List α) : uD es 0 = es[0]? := by simp [uD]
theorem zu {pol : Pol} {g : Nat} {args : List V} {v : V} (h : EV P pol (.call g args []) = some (.call v [])) : zE (EV P pol) g args = some v := by
  unfold zE; rw [h]
end Go.Proofs.YtmcephnfcciloaaGreatDoor.E
/- Where a walk stands at a test: its two roads. Conditions: those of each lemma. -/
namespace Go.Proofs.YtmcephnfcciloaaGreatDoor.E
set_option linter.unusedVariables false
set_option linter.unusedSimpArgs false
section
variable {C : Cx} {a c : Code} {n : Nat} {fs : List Fr} {k : sY} {e : Env} {h : Heap} {r : Option xN} {p : Prop} [Decidable p]
theorem u9 {b : Bool} (ht : b = true → goC C a (2 * n) fs k e h = r) (hf : b = false → goC C c (2 * n + 1) fs k e h = r) : cK C (.t (.bool b)) a c n fs k e h = r := XR ht hf
variable {q : Rg} {o : Oper} {rest : List Oper} {w : Bool}
theorem u7 {b : Bool} (ht : b = true → goW C (sC (.t (.bool true)) w) q o rest fs k e h = r) (hf : b = false → goW C (sC (.t (.bool false)) w) q o rest fs k e h = r) : goW C (sC (.t (.bool b)) w) q o rest fs k e h = r := by
  cases b with
  | true => exact ht rfl
  | false => exact hf rfl
end
/-- what is left of a budget -/
def left (n : Int) (b : Nat) : Int := if n - (b : Int) < 0 then -1 else n - (b : Int)
theorem vW (n : Int) (b : Nat) : (left n b < 0) = (n < (b : Int)) := by unfold left; split <;> simp <;> omega
theorem wz {n : Int} {b : Nat} (h : (b : Int) ≤ n) : left n b = n - (b : Int) := by unfold left; rw [if_neg (by omega)]
theorem Zh {x n : Int} {b : Nat} (h : (n < (b : Int) ∧ x = -1) ∨ ((b : Int) ≤ n ∧ x = n - (b : Int))) : some (xN.call (.t (.int .i64 x)) []) = some (xN.call (.t (.int .i64 (left n b))) []) := by
  have : x = left n b := by
    unfold left
    split <;> omega
  rw [this]
theorem uP {x n : Int} {b : Nat} (h : (n < (b : Int) ∧ x = -1) ∨ ((b : Int) ≤ n ∧ x = n - (b : Int))) : xN.call (.t (.int .i64 x)) [] = xN.call (.t (.int .i64 (left n b))) [] := Option.some.inj (Zh h)
theorem wc {m n : Nat} (h : m ≤ n) : (m ≤ n) = True := eq_true h
/-- a place in a list, told by what stands ahead of it -/
theorem tj {α : Type} (pre : List α) (b : α) (rest : List α) : (pre ++ b :: rest)[pre.length]? = some b := by simp
theorem mD : ∀ l : List T, asArg.asArgs (l.map V.t) = some (l.map V.t)
  | [] => rfl
  | x :: l => by simp only [List.map_cons, asArg.asArgs, asArg, mD l]
theorem ji : ∀ l : List T, refs.refss (l.map V.t) = []
  | [] => rfl
  | x :: l => by simp only [List.map_cons, refs.refss, refs, ji l, List.append_nil]
theorem cz (m : Nat → Option Nat) : ∀ l : List T, ren.rens m (l.map V.t) = l.map V.t
  | [] => rfl
  | x :: l => by simp only [List.map_cons, ren.rens, ren, cz m l]
theorem cR : ∀ l : List T, zD (l.map V.t) = some l
  | [] => rfl
  | x :: l => by simp only [List.map_cons, zD, cR l]
section
variable {P : Program} {ty : TypeId} {k1 k2 : IntKind} {x y : Int} {h : Heap}
theorem jF {d mx : Nat} (h0 : 0 ≤ x) (h1 : x ≤ (mx : Int)) : eJ d mx (some (.t (.int k1 x))) = some x.toNat := by
  simp only [eJ]; rw [if_pos ⟨h0, h1⟩]
theorem cM {n : Nat} (h0 : 0 ≤ x) (h1 : x ≤ y) (h2 : y ≤ (n : Int)) : ov n (some (.t (.int k1 x))) (some (.t (.int k2 y))) = some (x.toNat, y.toNat) := by
  unfold ov
  rw [jF (by omega) h2]
  simp only
  rw [jF h0 (by omega)]
theorem cN {n : Nat} (h0 : 0 ≤ x) (h1 : x ≤ (n : Int)) : ov n (some (.t (.int k1 x))) none = some (x.toNat, n) := by
  unfold ov
  simp only [eJ]
  rw [if_pos ⟨h0, h1⟩]
theorem cO {n : Nat} (h0 : 0 ≤ y) (h2 : y ≤ (n : Int)) : ov n none (some (.t (.int k2 y))) = some (0, y.toNat) := by
  unfold ov
  rw [jF h0 h2]
  simp only [eJ]
theorem fU {l : List UInt8} (h0 : 0 ≤ x) (h1 : x ≤ y) (h2 : y ≤ (l.length : Int)) : cut P ty (.t (.str l)) (some (.t (.int k1 x))) (some (.t (.int k2 y))) none h = if isStr P ty = true then some (.t (.str ((l.drop x.toNat).take (y.toNat - x.toNat)))) else none := by
  simp only [cut, cM h0 h1 h2, Option.isNone_none, Bool.and_true]
theorem fV {l : List UInt8} (h0 : 0 ≤ x) (h1 : x ≤ (l.length : Int)) : cut P ty (.t (.str l)) (some (.t (.int k1 x))) none none h = if isStr P ty = true then some (.t (.str (l.drop x.toNat))) else none := by
  simp only [cut, cN h0 h1, Option.isNone_none, Bool.and_true]
  rw [List.take_of_length_le (by simp)]
theorem fW {l : List UInt8} (h0 : 0 ≤ y) (h2 : y ≤ (l.length : Int)) : cut P ty (.t (.str l)) none (some (.t (.int k2 y))) none h = if isStr P ty = true then some (.t (.str (l.take y.toNat))) else none := by
  simp only [cut, cO h0 h2, Option.isNone_none, Bool.and_true, List.drop_zero, Nat.sub_zero]
theorem kv {sz : Nat} {es : List (List T)} (h0 : 0 ≤ x) (h1 : x ≤ y) (h2 : y ≤ (es.length : Int)) : cut P ty (.t (.list sz es)) (some (.t (.int k1 x))) (some (.t (.int k2 y))) none h = match yg P ty with
    | some el => if (sz == zS P el || es.isEmpty) = true then some (.t (.list sz ((es.drop x.toNat).take (y.toNat - x.toNat)))) else none
    | none => none := by
  simp only [cut, cM h0 h1 h2, Option.isNone_none, Bool.and_true]
  cases yg P ty <;> rfl
theorem ky {sz : Nat} {es : List (List T)} (h0 : 0 ≤ x) (h1 : x ≤ (es.length : Int)) : cut P ty (.t (.list sz es)) (some (.t (.int k1 x))) none none h = match yg P ty with
    | some el => if (sz == zS P el || es.isEmpty) = true then some (.t (.list sz (es.drop x.toNat))) else none
    | none => none := by
  have e : (es.drop x.toNat).take (es.length - x.toNat) = es.drop x.toNat := List.take_of_length_le (by simp)
  simp only [cut, cN h0 h1, Option.isNone_none, Bool.and_true, e]
  cases yg P ty <;> rfl
theorem kz {sz : Nat} {es : List (List T)} (h0 : 0 ≤ y) (h2 : y ≤ (es.length : Int)) : cut P ty (.t (.list sz es)) none (some (.t (.int k2 y))) none h = match yg P ty with
    | some el => if (sz == zS P el || es.isEmpty) = true then some (.t (.list sz (es.take y.toNat))) else none
    | none => none := by
  simp only [cut, cO h0 h2, Option.isNone_none, Bool.and_true, List.drop_zero, Nat.sub_zero]
  cases yg P ty <;> rfl
theorem av {r off len : Nat} {cap : Option Nat} (h0 : 0 ≤ x) (h1 : x ≤ y) (h2 : y ≤ (len : Int)) : cut P ty (.sl r off len cap) (some (.t (.int k1 x))) (some (.t (.int k2 y))) none h = match yg P ty with
    | some el => if ((h[r]?.bind vd) == some (zS P el)) = true then some (.sl r (off + x.toNat) (y.toNat - x.toNat) (cap.map (· - x.toNat))) else none
    | none => none := by
  simp only [cut, cM h0 h1 h2]
  cases yg P ty <;> rfl
theorem aw {r off len : Nat} {cap : Option Nat} (h0 : 0 ≤ x) (h1 : x ≤ (len : Int)) : cut P ty (.sl r off len cap) (some (.t (.int k1 x))) none none h = match yg P ty with
    | some el => if ((h[r]?.bind vd) == some (zS P el)) = true then some (.sl r (off + x.toNat) (len - x.toNat) (cap.map (· - x.toNat))) else none
    | none => none := by
  simp only [cut, cN h0 h1]
  cases yg P ty <;> rfl
theorem ax {r off len : Nat} {cap : Option Nat} (h0 : 0 ≤ y) (h2 : y ≤ (len : Int)) : cut P ty (.sl r off len cap) none (some (.t (.int k2 y))) none h = match yg P ty with
    | some el => if ((h[r]?.bind vd) == some (zS P el)) = true then some (.sl r (off + 0) (y.toNat - 0) (cap.map (· - 0))) else none
    | none => none := by
  simp only [cut, cO h0 h2]
  cases yg P ty <;> rfl
theorem oR (n : Nat) : ((n : Int) + 1).toNat = n + 1 := by omega
end
theorem fI {α : Type} (es : List α) : uD es (1 : Int) = es[1]? := rfl
theorem fH {α : Type} (es : List α) : uD es (2 : Int) = es[2]? := rfl
end Go.Proofs.YtmcephnfcciloaaGreatDoor.E
/- The machine's equations in one. Conditions: none. -/
namespace Go.Proofs.YtmcephnfcciloaaGreatDoor.E
set_option linter.unusedVariables false
set_option maxRecDepth 100000
theorem GP0 : type_of% @vK.eq_1 ∧ type_of% @vK.eq_2 ∧ type_of% @yC.eq_1 ∧ type_of% @yC.eq_2 ∧ type_of% @ot.eq_1 ∧ type_of% @ot.eq_2 ∧ type_of% @s6.eq_1 ∧ type_of% @s6.eq_2 ∧ type_of% @ia.eq_1 ∧ type_of% @ia.eq_2 ∧ type_of% @ren.rens.eq_1 ∧ type_of% @ren.rens.eq_2 ∧ type_of% @qC.eq_1 ∧ type_of% @qC.eq_2 ∧ type_of% @TN.eq_1 ∧ type_of% @x5.eq_1 ∧ type_of% @nI.eq_1 ∧ type_of% @nI.eq_2 ∧ type_of% @nH.eq_1 ∧ type_of% @nH.eq_2 ∧ type_of% @ve.eq_1 ∧ type_of% @ve.eq_2 ∧ type_of% @wD.eq_1 ∧ type_of% @wD.eq_2 ∧ type_of% @xK.eq_1 ∧ type_of% @yB.eq_1 ∧ type_of% @yw.eq_1 ∧ type_of% @yw.eq_2 ∧ type_of% @refs.refss.eq_1 ∧ type_of% @refs.refss.eq_2 ∧ type_of% @opv.eq_1 ∧ type_of% @opv.eq_2 ∧ type_of% @opv.eq_3 ∧ type_of% @opv.eq_4 ∧ type_of% @yI.eq_1 ∧ type_of% @yI.eq_2 ∧ type_of% @yI.eq_3 ∧ type_of% @sT.eq_1 ∧ type_of% @sT.eq_2 ∧ type_of% @Kj.eq_1 ∧ type_of% @po.eq_1 ∧ type_of% @po.eq_2 ∧ type_of% @xc.eq_1 ∧ type_of% @xc.eq_2 ∧ type_of% @xc.eq_3 ∧ type_of% @td.eq_1 ∧ type_of% @fld.eq_1 ∧ type_of% @vX.eq_1 :=
  ⟨@vK.eq_1, @vK.eq_2, @yC.eq_1, @yC.eq_2, @ot.eq_1, @ot.eq_2, @s6.eq_1, @s6.eq_2, @ia.eq_1, @ia.eq_2, @ren.rens.eq_1, @ren.rens.eq_2, @qC.eq_1, @qC.eq_2, @TN.eq_1, @x5.eq_1, @nI.eq_1, @nI.eq_2, @nH.eq_1, @nH.eq_2, @ve.eq_1, @ve.eq_2, @wD.eq_1, @wD.eq_2, @xK.eq_1, @yB.eq_1, @yw.eq_1, @yw.eq_2, @refs.refss.eq_1, @refs.refss.eq_2, @opv.eq_1, @opv.eq_2, @opv.eq_3, @opv.eq_4, @yI.eq_1, @yI.eq_2, @yI.eq_3, @sT.eq_1, @sT.eq_2, @Kj.eq_1, @po.eq_1, @po.eq_2, @xc.eq_1, @xc.eq_2, @xc.eq_3, @td.eq_1, @fld.eq_1, @vX.eq_1⟩
theorem GP1 : type_of% @uZ.eq_1 ∧ type_of% @xW.eq_1 ∧ type_of% @uH.eq_1 ∧ type_of% @uH.eq_2 ∧ type_of% @uH.eq_3 ∧ type_of% @uH.eq_4 ∧ type_of% @uH.eq_5 ∧ type_of% @ghH.eq_1 ∧ type_of% @ghH.eq_2 ∧ type_of% @asArg.asArgs.eq_1 ∧ type_of% @asArg.asArgs.eq_2 ∧ type_of% @zd.snapVs.eq_1 ∧ type_of% @zd.snapVs.eq_2 ∧ type_of% @xy.eq_1 ∧ type_of% @xy.eq_2 ∧ type_of% @vP.eq_1 ∧ type_of% @vP.eq_2 ∧ type_of% @zg.flatVs.eq_1 ∧ type_of% @zg.flatVs.eq_2 ∧ type_of% @nk ∧ type_of% @yN.eq_1 ∧ type_of% @wE.eq_1 ∧ type_of% @xe.eq_1 ∧ type_of% @oY.eq_1 ∧ type_of% @oY.eq_2 ∧ type_of% @om.eq_1 ∧ type_of% @pg.eq_1 ∧ type_of% @jK.eq_1 ∧ type_of% @wq.eq_1 ∧ type_of% @wq.eq_2 ∧ type_of% @xA.eq_1 ∧ type_of% @xA.eq_2 ∧ type_of% @yn.eq_1 ∧ type_of% @app.eq_1 ∧ type_of% @j5.eq_1 ∧ type_of% @zy.gives.eq_1 ∧ type_of% @zy.gives.eq_2 ∧ type_of% @sG.eq_1 ∧ type_of% @eH.eq_1 ∧ type_of% @eH.eq_2 ∧ type_of% @wW.eq_1 ∧ type_of% @wW.eq_2 ∧ type_of% @wW.eq_3 ∧ type_of% @vd.eq_1 ∧ type_of% @vd.eq_2 ∧ type_of% @vd.eq_3 ∧ type_of% @vd.eq_4 ∧ type_of% @sH.eq_1 ∧ type_of% @sH.eq_2 ∧ type_of% @sH.eq_3 ∧ type_of% @xb.eq_1 :=
  ⟨@uZ.eq_1, @xW.eq_1, @uH.eq_1, @uH.eq_2, @uH.eq_3, @uH.eq_4, @uH.eq_5, @ghH.eq_1, @ghH.eq_2, @asArg.asArgs.eq_1, @asArg.asArgs.eq_2, @zd.snapVs.eq_1, @zd.snapVs.eq_2, @xy.eq_1, @xy.eq_2, @vP.eq_1, @vP.eq_2, @zg.flatVs.eq_1, @zg.flatVs.eq_2, @nk, @yN.eq_1, @wE.eq_1, @xe.eq_1, @oY.eq_1, @oY.eq_2, @om.eq_1, @pg.eq_1, @jK.eq_1, @wq.eq_1, @wq.eq_2, @xA.eq_1, @xA.eq_2, @yn.eq_1, @app.eq_1, @j5.eq_1, @zy.gives.eq_1, @zy.gives.eq_2, @sG.eq_1, @eH.eq_1, @eH.eq_2, @wW.eq_1, @wW.eq_2, @wW.eq_3, @vd.eq_1, @vd.eq_2, @vd.eq_3, @vd.eq_4, @sH.eq_1, @sH.eq_2, @sH.eq_3, @xb.eq_1⟩
theorem GP2 : type_of% @xb.eq_2 ∧ type_of% @jW.eq_1 ∧ type_of% @tn.eq_1 ∧ type_of% @tn.eq_2 ∧ type_of% @la ∧ type_of% @gD ∧ type_of% @pK_1 ∧ type_of% @pK_2 ∧ type_of% @idx_eq ∧ type_of% @fJ ∧ type_of% @List.flatMap_nil.{0, 0} ∧ type_of% @List.flatMap_cons.{0, 0} ∧ type_of% @List.mem_cons.{0} ∧ type_of% @List.not_mem_nil.{0} ∧ type_of% @or_false ∧ type_of% @false_or ∧ type_of% @or_true ∧ type_of% @true_or ∧ type_of% @OPL ∧ type_of% @Option.toList_some.{0} ∧ type_of% @Option.toList_none.{0} ∧ type_of% @VB ∧ type_of% @gx ∧ type_of% @gy ∧ type_of% @kH ∧ type_of% @kI ∧ type_of% @mD ∧ type_of% @ji ∧ type_of% @cz ∧ type_of% @cR ∧ type_of% @fU ∧ type_of% @fV ∧ type_of% @fW ∧ type_of% @kv ∧ type_of% @ky ∧ type_of% @kz ∧ type_of% @av ∧ type_of% @aw ∧ type_of% @ax ∧ type_of% @Int.toNat_natCast ∧ type_of% @oR ∧ type_of% @ne_eq.{1} ∧ type_of% @List.isEmpty_nil.{0} ∧ type_of% @List.replicate_succ.{0} ∧ type_of% @List.replicate_zero.{0} ∧ type_of% @Nat.zero_mul ∧ type_of% @List.append_nil.{0} ∧ type_of% @oN :=
  ⟨@xb.eq_2, @jW.eq_1, @tn.eq_1, @tn.eq_2, @la, @gD, @pK_1, @pK_2, @idx_eq, @fJ, @List.flatMap_nil.{0, 0}, @List.flatMap_cons.{0, 0}, @List.mem_cons.{0}, @List.not_mem_nil.{0}, @or_false, @false_or, @or_true, @true_or, @OPL, @Option.toList_some.{0}, @Option.toList_none.{0}, @VB, @gx, @gy, @kH, @kI, @mD, @ji, @cz, @cR, @fU, @fV, @fW, @kv, @ky, @kz, @av, @aw, @ax, @Int.toNat_natCast, @oR, @ne_eq.{1}, @List.isEmpty_nil.{0}, @List.replicate_succ.{0}, @List.replicate_zero.{0}, @Nat.zero_mul, @List.append_nil.{0}, @oN⟩
theorem GP3 : type_of% @oP ∧ type_of% @hX ∧ type_of% @hY ∧ type_of% @hZ ∧ type_of% @ga ∧ type_of% @cW ∧ type_of% @Option.map_some.{0, 0} ∧ type_of% @Option.map_none.{0, 0} ∧ type_of% @Option.bind_some.{0, 0} ∧ type_of% @Option.bind_none.{0, 0} ∧ type_of% @Option.getD_some.{0} ∧ type_of% @Option.getD_none.{0} ∧ type_of% @List.map_cons.{0, 0} ∧ type_of% @List.map_nil.{0, 0} ∧ type_of% @List.all_cons.{0} ∧ type_of% @List.all_nil.{0} ∧ type_of% @List.isEmpty_cons.{0} ∧ type_of% @List.length_nil.{0} ∧ type_of% @List.length_cons.{0} ∧ type_of% @List.nil_append.{0} ∧ type_of% @List.cons_append.{0} ∧ type_of% @List.getElem?_cons_zero.{0} ∧ type_of% @List.getElem?_cons_succ.{0} ∧ type_of% @List.set_cons_zero.{0} ∧ type_of% @List.set_cons_succ.{0} ∧ type_of% @List.drop_zero.{0} ∧ type_of% @List.drop_succ_cons.{0} ∧ type_of% @List.take_succ_cons.{0} ∧ type_of% @List.take_zero.{0} ∧ type_of% @List.drop_nil.{0} ∧ type_of% @List.take_nil.{0} ∧ type_of% @List.toList_toArray.{0} ∧ type_of% @Bool.and_true ∧ type_of% @Bool.not_true ∧ type_of% @Bool.not_false ∧ type_of% @Bool.false_or ∧ type_of% @Bool.or_false ∧ type_of% @Bool.or_true ∧ type_of% @Bool.true_or ∧ type_of% @Bool.and_false ∧ type_of% @Bool.true_and ∧ type_of% @Bool.false_and ∧ type_of% @Bool.false_eq_true ∧ type_of% @and_true ∧ type_of% @true_and ∧ type_of% @and_self ∧ type_of% @Option.some.injEq.{0} ∧ type_of% @ite_true.{1} :=
  ⟨@oP, @hX, @hY, @hZ, @ga, @cW, @Option.map_some.{0, 0}, @Option.map_none.{0, 0}, @Option.bind_some.{0, 0}, @Option.bind_none.{0, 0}, @Option.getD_some.{0}, @Option.getD_none.{0}, @List.map_cons.{0, 0}, @List.map_nil.{0, 0}, @List.all_cons.{0}, @List.all_nil.{0}, @List.isEmpty_cons.{0}, @List.length_nil.{0}, @List.length_cons.{0}, @List.nil_append.{0}, @List.cons_append.{0}, @List.getElem?_cons_zero.{0}, @List.getElem?_cons_succ.{0}, @List.set_cons_zero.{0}, @List.set_cons_succ.{0}, @List.drop_zero.{0}, @List.drop_succ_cons.{0}, @List.take_succ_cons.{0}, @List.take_zero.{0}, @List.drop_nil.{0}, @List.take_nil.{0}, @List.toList_toArray.{0}, @Bool.and_true, @Bool.not_true, @Bool.not_false, @Bool.false_or, @Bool.or_false, @Bool.or_true, @Bool.true_or, @Bool.and_false, @Bool.true_and, @Bool.false_and, @Bool.false_eq_true, @and_true, @true_and, @and_self, @Option.some.injEq.{0}, @ite_true.{1}⟩
theorem GP4 : type_of% @ite_false.{1} ∧ type_of% @decide_true ∧ type_of% @decide_false ∧ type_of% @not_true_eq_false ∧ type_of% @not_false_eq_true ∧ type_of% @beq_self_eq_true.{0} ∧ type_of% @Nat.zero_add ∧ type_of% @Nat.add_zero ∧ type_of% @Nat.le_refl ∧ type_of% @Nat.not_lt_zero ∧ type_of% @Option.isNone_some.{0} ∧ type_of% @Option.isSome_some.{0} ∧ type_of% @cond_true.{1} ∧ type_of% @cond_false.{1} :=
  ⟨@ite_false.{1}, @decide_true, @decide_false, @not_true_eq_false, @not_false_eq_true, @beq_self_eq_true.{0}, @Nat.zero_add, @Nat.add_zero, @Nat.le_refl, @Nat.not_lt_zero, @Option.isNone_some.{0}, @Option.isSome_some.{0}, @cond_true.{1}, @cond_false.{1}⟩
theorem GA : type_of% @GP0 ∧ type_of% @GP1 ∧ type_of% @GP2 ∧ type_of% @GP3 ∧ type_of% @GP4 :=
  ⟨@GP0, @GP1, @GP2, @GP3, @GP4⟩
theorem LL : type_of% @List.length_cons.{0} ∧ type_of% @List.length_append.{0} ∧ type_of% @List.length_nil.{0} ∧ type_of% @List.length_map.{0, 0} := ⟨@List.length_cons.{0}, @List.length_append.{0}, @List.length_nil.{0}, @List.length_map.{0, 0}⟩
theorem GZ : type_of% @Int.cast_ofNat_Int ∧ type_of% @ue ∧ type_of% @fI ∧ type_of% @fH ∧ type_of% @Option.isSome_none.{0} := ⟨@Int.cast_ofNat_Int, @ue, @fI, @fH, @Option.isSome_none.{0}⟩
end Go.Proofs.YtmcephnfcciloaaGreatDoor.E
/- Plain words about texts: digits, quotes, joins. Conditions: those of each lemma. -/
namespace Go.Proofs.YtmcephnfcciloaaGreatDoor
set_option linter.unusedVariables false
set_option linter.unusedSimpArgs false
abbrev Str := List UInt8
abbrev B2 (a lo hi : Int) : Bool := decide (lo ≤ a) && decide (a ≤ hi)
/-- a byte's number -/
abbrev nb (b : UInt8) : Int := (b.toNat : Int)
theorem Ub (b : UInt8) : (b.toNat : Int) < 256 ∧ (0 : Int) ≤ (b.toNat : Int) := by have := b.toNat_lt; omega
/-- the parts between a byte -/
def yi (b : UInt8) : Str → List Str
  | [] => [[]]
  | x :: s => if x = b then [] :: yi b s else match yi b s with
    | p :: r => (x :: p) :: r
    | [] => [[x]]
end Go.Proofs.YtmcephnfcciloaaGreatDoor
/- Lists of texts, trees: as the evaluator sees them; their sizes. Conditions: those of each lemma. -/
namespace Go.Proofs.YtmcephnfcciloaaGreatDoor
open E
set_option linter.unusedSimpArgs false
set_option linter.unusedVariables false
set_option maxRecDepth 100000
/-- a list of texts -/
def y6 (ks : List (List UInt8)) : List (List T) := ks.map fun s => [.str s]
def yk : List (List UInt8) → Nat
  | [] => 0
  | s :: ks => s.length + yk ks
theorem zR (ks : List (List UInt8)) : (y6 ks).length = ks.length := by simp [y6]
theorem wV (ks : List (List UInt8)) (i : Nat) (h : i < ks.length) : (y6 ks)[i]? = some [.str ks[i]] := by simp [y6, h]
theorem du (ks : List (List UInt8)) (i : Nat) (h : i < ks.length) : yk (ks.drop i) = ks[i].length + yk (ks.drop (i + 1)) := by
  rw [List.drop_eq_getElem_cons h]; rfl
/-- a row filled up to a place -/
def wj (xs : List (List T)) (z : List T) (i : Nat) : List (List T) := xs.take i ++ List.replicate (xs.length - i) z
theorem uT (xs : List (List T)) (z : List T) : wj xs z 0 = List.replicate xs.length z := by simp [wj]
theorem qT (xs : List (List T)) (z : List T) : wj xs z xs.length = xs := by simp [wj]
theorem qS (xs : List (List T)) (z : List T) (i : Nat) (h : i < xs.length) : (wj xs z i)[i]? = some z := by
  unfold wj
  rw [List.getElem?_append_right (by simp; omega), List.getElem?_replicate, if_pos (by simp; omega)]
theorem qR (xs : List (List T)) (z : List T) (i : Nat) (h : i < xs.length) : (wj xs z i).set i xs[i] = wj xs z (i + 1) := by
  unfold wj
  apply List.ext_getElem?
  intro j
  rw [List.getElem?_set]
  by_cases hj : i = j
  · subst hj
    rw [if_pos rfl, if_pos (by simp; omega), List.getElem?_append_left (by simp; omega)]
    simp [h]
  · rw [if_neg hj]
    rcases Nat.lt_or_ge j i with hlt | hge
    · rw [List.getElem?_append_left (by simp; omega), List.getElem?_append_left (by simp; omega)]
      rw [List.getElem?_take, List.getElem?_take, if_pos hlt, if_pos (by omega)]
    · rw [List.getElem?_append_right (by simp; omega), List.getElem?_append_right (by simp; omega), List.getElem?_replicate, List.getElem?_replicate]
      simp only [List.length_take]
      by_cases hk : j < xs.length
      · rw [if_pos (by omega), if_pos (by omega)]
      · rw [if_neg (by omega), if_neg (by omega)]
inductive Tr where
  | mk (k n : Int) (s : List UInt8) (ks : List (List UInt8)) (cs : List Tr)
mutual
def Tr.enc : Tr → List T
  | .mk k n s ks cs => [.int .i64 k, .int .i64 n, .str s, .list 1 (y6 ks), .list 5 (Tr.zV cs)]
def Tr.zV : List Tr → List (List T)
  | [] => []
  | c :: cs => Tr.enc c :: Tr.zV cs
end
mutual
def Tr.yh : Tr → Nat
  | .mk _ _ s ks cs => s.length + ks.length + yk ks + cs.length + Tr.ya cs
def Tr.ya : List Tr → Nat
  | [] => 0
  | c :: cs => Tr.yh c + Tr.ya cs
end
mutual
def Tr.ok : Tr → Prop
  | .mk _ _ s ks cs => s.length ≤ 9223372036854775807 ∧ ks.length ≤ 9223372036854775807 ∧ (∀ x ∈ ks, x.length ≤ 9223372036854775807) ∧ cs.length ≤ 9223372036854775807 ∧ Tr.oks cs
def Tr.oks : List Tr → Prop
  | [] => True
  | c :: cs => Tr.ok c ∧ Tr.oks cs
end
theorem Tr.jw : ∀ cs : List Tr, Tr.zV cs = cs.map Tr.enc
  | [] => rfl
  | c :: cs => by simp [Tr.zV, Tr.jw cs]
theorem Tr.zT (cs : List Tr) : (Tr.zV cs).length = cs.length := by simp [Tr.jw]
theorem Tr.yS (cs : List Tr) (i : Nat) (h : i < cs.length) : (Tr.zV cs)[i]? = some cs[i].enc := by simp [Tr.jw, h]
theorem Tr.xi (cs : List Tr) (i : Nat) (h : i < cs.length) : Tr.ya (cs.drop i) = cs[i].yh + Tr.ya (cs.drop (i + 1)) := by
  rw [List.drop_eq_getElem_cons h]; rfl
theorem Tr.yp : ∀ {cs : List Tr} {c : Tr}, c ∈ cs → c.yh ≤ Tr.ya cs
  | c' :: cs, c, h => by
    simp only [Tr.ya]
    rcases List.mem_cons.1 h with rfl | h
    · omega
    · have := Tr.yp h; omega
end Go.Proofs.YtmcephnfcciloaaGreatDoor
/- The shelf's contracts at this program, laid by the kit's own tool. Conditions: none. -/
namespace Go.Proofs
open Go.Shelf
def Tryz.lays156_ren : Go.Shelf.Ren := ⟨fun | 156 => 165 | 165 => 187 | 166 => 188 | 169 => 189 | 240 => 206 | 241 => 207 | 276 => 219 | 277 => 220 | n => n, fun | 31 => 22 | 9 => 9 | 3 => 3 | 4 => 4 | 0 => 0 | 20 => 20 | 72 => 176 | 76 => 161 | 70 => 174 | 37 => 89 | 75 => 160 | 127 => 189 | 164 => 210 | 5 => 5 | 80 => 178 | n => n, fun | n => n⟩
theorem Tryz.lays156 : Go.Proofs.Lays.n156 Tryz.prog Tryz.lays156_ren := {
  mixed := by kernel_rfl
  f156 := Tryz.func165.trans (congrArg some (by kernel_rfl))
  f165 := Tryz.func187.trans (congrArg some (by kernel_rfl))
  f166 := Tryz.func188.trans (congrArg some (by kernel_rfl))
  f169 := Tryz.func189.trans (congrArg some (by kernel_rfl))
  f240 := Tryz.func206.trans (congrArg some (by kernel_rfl))
  f241 := Tryz.func207.trans (congrArg some (by kernel_rfl))
  f276 := Tryz.func219.trans (congrArg some (by kernel_rfl))
  f277 := Tryz.func220.trans (congrArg some (by kernel_rfl))
  t0 := Tryz.underlying0
  a0 := Tryz.isAgg0
  z0 := Tryz.sizeOf0
  v0 := Tryz.zeroValue0
  t3 := Tryz.underlying3
  a3 := Tryz.isAgg3
  z3 := Tryz.sizeOf3
  v3 := Tryz.zeroValue3
  t4 := Tryz.underlying4
  a4 := Tryz.isAgg4
  z4 := Tryz.sizeOf4
  v4 := Tryz.zeroValue4
  t9 := Tryz.underlying9
  a9 := Tryz.isAgg9
  z9 := Tryz.sizeOf9
  v9 := Tryz.zeroValue9
  t20 := Tryz.underlying20
  a20 := Tryz.isAgg20
  z20 := Tryz.sizeOf20
  v20 := Tryz.zeroValue20
  t31 := Tryz.underlying22
  a31 := Tryz.isAgg22
  z31 := Tryz.sizeOf22
  v31 := Tryz.zeroValue22
  t37 := Tryz.underlying89
  a37 := Tryz.isAgg89
  z37 := Tryz.sizeOf89
  v37 := Tryz.zeroValue89
  t70 := Tryz.underlying174
  a70 := Tryz.isAgg174
  z70 := Tryz.sizeOf174
  v70 := Tryz.zeroValue174
  t72 := Tryz.underlying176
  a72 := Tryz.isAgg176
  z72 := Tryz.sizeOf176
  v72 := Tryz.zeroValue176
  t75 := Tryz.underlying160
  a75 := Tryz.isAgg160
  z75 := Tryz.sizeOf160
  v75 := Tryz.zeroValue160
  t76 := Tryz.underlying161
  a76 := Tryz.isAgg161
  z76 := Tryz.sizeOf161
  v76 := Tryz.zeroValue161
  t127 := Tryz.underlying189
  a127 := Tryz.isAgg189
  z127 := Tryz.sizeOf189
  v127 := Tryz.zeroValue189
  t164 := Tryz.underlying210
  a164 := Tryz.isAgg210
  z164 := Tryz.sizeOf210
  v164 := Tryz.zeroValue210 }
theorem Tryz.Builder_Extra_156 : Builder.Extra Tryz.prog Tryz.lays156_ren := {
  sizeBuilder := by kernel_rfl
  liesBuilder := by kernel_rfl
  t5 := Tryz.underlying5
  a5 := Tryz.isAgg5
  z5 := Tryz.sizeOf5
  v5 := Tryz.zeroValue5
  infoByte := by kernel_rfl
  cellsByte := by kernel_rfl
  sizeByte := by kernel_rfl
  neB5 := by decide }
def Tryz.lays106_ren : Go.Shelf.Ren := ⟨fun | 106 => 191 | 213 => 212 | 265 => 223 | n => n, fun | 9 => 9 | 3 => 3 | n => n, fun | n => n⟩
theorem Tryz.lays106 : Go.Proofs.Lays.n106 Tryz.prog Tryz.lays106_ren := {
  mixed := by kernel_rfl
  f106 := Tryz.func191.trans (congrArg some (by kernel_rfl))
  f213 := Tryz.func212.trans (congrArg some (by kernel_rfl))
  f265 := Tryz.func223.trans (congrArg some (by kernel_rfl))
  t3 := Tryz.underlying3
  a3 := Tryz.isAgg3
  z3 := Tryz.sizeOf3
  v3 := Tryz.zeroValue3
  t9 := Tryz.underlying9
  a9 := Tryz.isAgg9
  z9 := Tryz.sizeOf9
  v9 := Tryz.zeroValue9 }
def Tryz.laysM171_ren : Go.Shelf.Ren := ⟨fun | 171 => 183 | 243 => 205 | 246 => 218 | 283 => 226 | 284 => 227 | 285 => 228 | 286 => 229 | 129 => 149 | 317 => 231 | 318 => 232 | 319 => 233 | 320 => 234 | 337 => 237 | 338 => 238 | n => n, fun | 3 => 3 | 9 => 9 | 2 => 2 | 4 => 4 | 171 => 218 | 0 => 0 | 53 => 153 | 37 => 89 | 5 => 5 | 173 => 220 | 212 => 224 | 51 => 151 | 20 => 20 | 213 => 225 | 46 => 120 | 232 => 228 | 233 => 229 | n => n, fun | 17 => 5 | 18 => 6 | 19 => 7 | n => n⟩
theorem Tryz.laysM171 : Go.Proofs.LaysM.n171 Tryz.prog Tryz.laysM171_ren := {
  mixed := by kernel_rfl
  f129 := Tryz.func149.trans (congrArg some (by kernel_rfl))
  f171 := Tryz.func183.trans (congrArg some (by kernel_rfl))
  f243 := Tryz.func205.trans (congrArg some (by kernel_rfl))
  f246 := Tryz.func218.trans (congrArg some (by kernel_rfl))
  f283 := Tryz.func226.trans (congrArg some (by kernel_rfl))
  f284 := Tryz.func227.trans (congrArg some (by kernel_rfl))
  f285 := Tryz.func228.trans (congrArg some (by kernel_rfl))
  f286 := Tryz.func229.trans (congrArg some (by kernel_rfl))
  f317 := Tryz.func231.trans (congrArg some (by kernel_rfl))
  f318 := Tryz.func232.trans (congrArg some (by kernel_rfl))
  f319 := Tryz.func233.trans (congrArg some (by kernel_rfl))
  f320 := Tryz.func234.trans (congrArg some (by kernel_rfl))
  f337 := Tryz.func237.trans (congrArg some (by kernel_rfl))
  f338 := Tryz.func238.trans (congrArg some (by kernel_rfl))
  t0 := Tryz.underlying0
  a0 := Tryz.isAgg0
  z0 := Tryz.sizeOf0
  v0 := Tryz.zeroValue0
  t2 := Tryz.underlying2
  a2 := Tryz.isAgg2
  z2 := Tryz.sizeOf2
  v2 := Tryz.zeroValue2
  t3 := Tryz.underlying3
  a3 := Tryz.isAgg3
  z3 := Tryz.sizeOf3
  v3 := Tryz.zeroValue3
  t4 := Tryz.underlying4
  a4 := Tryz.isAgg4
  z4 := Tryz.sizeOf4
  v4 := Tryz.zeroValue4
  t5 := Tryz.underlying5
  a5 := Tryz.isAgg5
  z5 := Tryz.sizeOf5
  v5 := Tryz.zeroValue5
  t9 := Tryz.underlying9
  a9 := Tryz.isAgg9
  z9 := Tryz.sizeOf9
  v9 := Tryz.zeroValue9
  t20 := Tryz.underlying20
  a20 := Tryz.isAgg20
  z20 := Tryz.sizeOf20
  v20 := Tryz.zeroValue20
  t37 := Tryz.underlying89
  a37 := Tryz.isAgg89
  z37 := Tryz.sizeOf89
  v37 := Tryz.zeroValue89
  t46 := Tryz.underlying120
  a46 := Tryz.isAgg120
  z46 := Tryz.sizeOf120
  v46 := Tryz.zeroValue120
  t51 := Tryz.underlying151
  a51 := Tryz.isAgg151
  z51 := Tryz.sizeOf151
  v51 := Tryz.zeroValue151
  t53 := Tryz.underlying153
  a53 := Tryz.isAgg153
  z53 := Tryz.sizeOf153
  v53 := Tryz.zeroValue153
  t171 := Tryz.underlying218
  a171 := Tryz.isAgg218
  z171 := Tryz.sizeOf218
  v171 := Tryz.zeroValue218
  t173 := Tryz.underlying220
  a173 := Tryz.isAgg220
  z173 := Tryz.sizeOf220
  v173 := Tryz.zeroValue220
  t212 := Tryz.underlying224
  a212 := Tryz.isAgg224
  z212 := Tryz.sizeOf224
  v212 := Tryz.zeroValue224
  t213 := Tryz.underlying225
  a213 := Tryz.isAgg225
  z213 := Tryz.sizeOf225
  t232 := Tryz.underlying228
  a232 := Tryz.isAgg228
  z232 := Tryz.sizeOf228
  v232 := Tryz.zeroValue228
  t233 := Tryz.underlying229
  a233 := Tryz.isAgg229
  z233 := Tryz.sizeOf229
  v233 := Tryz.zeroValue229
  g17 := by kernel_rfl
  g18 := by kernel_rfl
  g19 := by kernel_rfl
  i0 := by kernel_rfl
  i2 := by kernel_rfl
  i3 := by kernel_rfl
  i4 := by kernel_rfl
  i5 := by kernel_rfl
  i9 := by kernel_rfl
  i20 := by kernel_rfl
  i37 := by kernel_rfl
  i46 := by kernel_rfl
  i51 := by kernel_rfl
  i53 := by kernel_rfl
  i171 := by kernel_rfl
  i173 := by kernel_rfl
  i212 := by kernel_rfl
  i232 := by kernel_rfl
  i233 := by kernel_rfl
  m17 := by kernel_rfl
  m18 := by kernel_rfl
  m19 := by kernel_rfl }
def Tryz.laysC172_ren : Go.Shelf.Ren := ⟨fun | 172 => 162 | 244 => 181 | 245 => 182 | 247 => 200 | 279 => 201 | 280 => 202 | 281 => 203 | 282 => 204 | 287 => 215 | 316 => 216 | 171 => 183 | 205 => 217 | 321 => 224 | 322 => 225 | 243 => 205 | 246 => 218 | 283 => 226 | 284 => 227 | 285 => 228 | 286 => 229 | 129 => 149 | 317 => 231 | 318 => 232 | 319 => 233 | 320 => 234 | 337 => 237 | 338 => 238 | n => n, fun | 9 => 9 | 3 => 3 | 75 => 160 | 76 => 161 | 4 => 4 | 5 => 5 | 167 => 183 | 37 => 89 | 0 => 0 | 85 => 184 | 2 => 2 | 168 => 186 | 53 => 153 | 175 => 203 | 46 => 120 | 210 => 207 | 127 => 189 | 145 => 217 | 143 => 215 | 21 => 21 | 171 => 218 | 173 => 220 | 212 => 224 | 51 => 151 | 20 => 20 | 213 => 225 | 232 => 228 | 233 => 229 | 80 => 178 | n => n, fun | 15 => 3 | 16 => 4 | 17 => 5 | 18 => 6 | 19 => 7 | n => n⟩
theorem Tryz.laysC172 : Go.Proofs.LaysC.n172 Tryz.prog Tryz.laysC172_ren := {
  mixed := by kernel_rfl
  f129 := Tryz.func149.trans (congrArg some (by kernel_rfl))
  f171 := Tryz.func183.trans (congrArg some (by kernel_rfl))
  f172 := Tryz.func162.trans (congrArg some (by kernel_rfl))
  f205 := Tryz.func217.trans (congrArg some (by kernel_rfl))
  f243 := Tryz.func205.trans (congrArg some (by kernel_rfl))
  f244 := Tryz.func181.trans (congrArg some (by kernel_rfl))
  f245 := Tryz.func182.trans (congrArg some (by kernel_rfl))
  f246 := Tryz.func218.trans (congrArg some (by kernel_rfl))
  f247 := Tryz.func200.trans (congrArg some (by kernel_rfl))
  f279 := Tryz.func201.trans (congrArg some (by kernel_rfl))
  f280 := Tryz.func202.trans (congrArg some (by kernel_rfl))
  f281 := Tryz.func203.trans (congrArg some (by kernel_rfl))
  f282 := Tryz.func204.trans (congrArg some (by kernel_rfl))
  f283 := Tryz.func226.trans (congrArg some (by kernel_rfl))
  f284 := Tryz.func227.trans (congrArg some (by kernel_rfl))
  f285 := Tryz.func228.trans (congrArg some (by kernel_rfl))
  f286 := Tryz.func229.trans (congrArg some (by kernel_rfl))
  f287 := Tryz.func215.trans (congrArg some (by kernel_rfl))
  f316 := Tryz.func216.trans (congrArg some (by kernel_rfl))
  f317 := Tryz.func231.trans (congrArg some (by kernel_rfl))
  f318 := Tryz.func232.trans (congrArg some (by kernel_rfl))
  f319 := Tryz.func233.trans (congrArg some (by kernel_rfl))
  f320 := Tryz.func234.trans (congrArg some (by kernel_rfl))
  f321 := Tryz.func224.trans (congrArg some (by kernel_rfl))
  f322 := Tryz.func225.trans (congrArg some (by kernel_rfl))
  f337 := Tryz.func237.trans (congrArg some (by kernel_rfl))
  f338 := Tryz.func238.trans (congrArg some (by kernel_rfl))
  t0 := Tryz.underlying0
  a0 := Tryz.isAgg0
  z0 := Tryz.sizeOf0
  v0 := Tryz.zeroValue0
  t2 := Tryz.underlying2
  a2 := Tryz.isAgg2
  z2 := Tryz.sizeOf2
  v2 := Tryz.zeroValue2
  t3 := Tryz.underlying3
  a3 := Tryz.isAgg3
  z3 := Tryz.sizeOf3
  v3 := Tryz.zeroValue3
  t4 := Tryz.underlying4
  a4 := Tryz.isAgg4
  z4 := Tryz.sizeOf4
  v4 := Tryz.zeroValue4
  t5 := Tryz.underlying5
  a5 := Tryz.isAgg5
  z5 := Tryz.sizeOf5
  v5 := Tryz.zeroValue5
  t9 := Tryz.underlying9
  a9 := Tryz.isAgg9
  z9 := Tryz.sizeOf9
  v9 := Tryz.zeroValue9
  t20 := Tryz.underlying20
  a20 := Tryz.isAgg20
  z20 := Tryz.sizeOf20
  v20 := Tryz.zeroValue20
  t21 := Tryz.underlying21
  a21 := Tryz.isAgg21
  z21 := Tryz.sizeOf21
  v21 := Tryz.zeroValue21
  t37 := Tryz.underlying89
  a37 := Tryz.isAgg89
  z37 := Tryz.sizeOf89
  v37 := Tryz.zeroValue89
  t46 := Tryz.underlying120
  a46 := Tryz.isAgg120
  z46 := Tryz.sizeOf120
  v46 := Tryz.zeroValue120
  t51 := Tryz.underlying151
  a51 := Tryz.isAgg151
  z51 := Tryz.sizeOf151
  v51 := Tryz.zeroValue151
  t53 := Tryz.underlying153
  a53 := Tryz.isAgg153
  z53 := Tryz.sizeOf153
  v53 := Tryz.zeroValue153
  t75 := Tryz.underlying160
  a75 := Tryz.isAgg160
  z75 := Tryz.sizeOf160
  v75 := Tryz.zeroValue160
  t76 := Tryz.underlying161
  a76 := Tryz.isAgg161
  z76 := Tryz.sizeOf161
  v76 := Tryz.zeroValue161
  t85 := Tryz.underlying184
  a85 := Tryz.isAgg184
  z85 := Tryz.sizeOf184
  v85 := Tryz.zeroValue184
  t127 := Tryz.underlying189
  a127 := Tryz.isAgg189
  z127 := Tryz.sizeOf189
  v127 := Tryz.zeroValue189
  t143 := Tryz.underlying215
  a143 := Tryz.isAgg215
  z143 := Tryz.sizeOf215
  v143 := Tryz.zeroValue215
  t145 := Tryz.underlying217
  a145 := Tryz.isAgg217
  z145 := Tryz.sizeOf217
  v145 := Tryz.zeroValue217
  t167 := Tryz.underlying183
  a167 := Tryz.isAgg183
  z167 := Tryz.sizeOf183
  v167 := Tryz.zeroValue183
  t168 := Tryz.underlying186
  a168 := Tryz.isAgg186
  z168 := Tryz.sizeOf186
  v168 := Tryz.zeroValue186
  t171 := Tryz.underlying218
  a171 := Tryz.isAgg218
  z171 := Tryz.sizeOf218
  v171 := Tryz.zeroValue218
  t173 := Tryz.underlying220
  a173 := Tryz.isAgg220
  z173 := Tryz.sizeOf220
  v173 := Tryz.zeroValue220
  t175 := Tryz.underlying203
  a175 := Tryz.isAgg203
  z175 := Tryz.sizeOf203
  v175 := Tryz.zeroValue203
  t210 := Tryz.underlying207
  a210 := Tryz.isAgg207
  z210 := Tryz.sizeOf207
  v210 := Tryz.zeroValue207
  t212 := Tryz.underlying224
  a212 := Tryz.isAgg224
  z212 := Tryz.sizeOf224
  v212 := Tryz.zeroValue224
  t213 := Tryz.underlying225
  a213 := Tryz.isAgg225
  z213 := Tryz.sizeOf225
  t232 := Tryz.underlying228
  a232 := Tryz.isAgg228
  z232 := Tryz.sizeOf228
  v232 := Tryz.zeroValue228
  t233 := Tryz.underlying229
  a233 := Tryz.isAgg229
  z233 := Tryz.sizeOf229
  v233 := Tryz.zeroValue229
  g15 := by kernel_rfl
  g16 := by kernel_rfl
  g17 := by kernel_rfl
  g18 := by kernel_rfl
  g19 := by kernel_rfl
  t80 := Tryz.underlying178
  a80 := Tryz.isAgg178
  z80 := Tryz.sizeOf178
  v80 := Tryz.zeroValue178
  i0 := by kernel_rfl
  i2 := by kernel_rfl
  i3 := by kernel_rfl
  i4 := by kernel_rfl
  i5 := by kernel_rfl
  i9 := by kernel_rfl
  i20 := by kernel_rfl
  i21 := by kernel_rfl
  i37 := by kernel_rfl
  i46 := by kernel_rfl
  i51 := by kernel_rfl
  i53 := by kernel_rfl
  i75 := by kernel_rfl
  i76 := by kernel_rfl
  i80 := by kernel_rfl
  i85 := by kernel_rfl
  i127 := by kernel_rfl
  i143 := by kernel_rfl
  i145 := by kernel_rfl
  i167 := by kernel_rfl
  i168 := by kernel_rfl
  i171 := by kernel_rfl
  i173 := by kernel_rfl
  i175 := by kernel_rfl
  i210 := by kernel_rfl
  i212 := by kernel_rfl
  i232 := by kernel_rfl
  i233 := by kernel_rfl
  m15 := by kernel_rfl
  m16 := by kernel_rfl
  m17 := by kernel_rfl
  m18 := by kernel_rfl
  m19 := by kernel_rfl
  c0 := by kernel_rfl
  c2 := by kernel_rfl
  c3 := by kernel_rfl
  c4 := by kernel_rfl
  c5 := by kernel_rfl
  c9 := by kernel_rfl
  c20 := by kernel_rfl
  c21 := by kernel_rfl
  c37 := by kernel_rfl
  c46 := by kernel_rfl
  c51 := by kernel_rfl
  c53 := by kernel_rfl
  c75 := by kernel_rfl
  c76 := by kernel_rfl
  c80 := by kernel_rfl
  c85 := by kernel_rfl
  c127 := by kernel_rfl
  c143 := by kernel_rfl
  c145 := by kernel_rfl
  c167 := by kernel_rfl
  c168 := by kernel_rfl
  c171 := by kernel_rfl
  c173 := by kernel_rfl
  c175 := by kernel_rfl
  c210 := by kernel_rfl
  c212 := by kernel_rfl
  c213 := by kernel_rfl
  c232 := by kernel_rfl
  c233 := by kernel_rfl }
def Tryz.laysM145_ren : Go.Shelf.Ren := ⟨fun | 145 => 129 | 220 => 161 | 219 => 180 | 217 => 196 | 225 => 197 | 224 => 198 | 267 => 199 | 266 => 213 | 314 => 214 | n => n, fun | 9 => 9 | 4 => 4 | 59 => 138 | 3 => 3 | 5 => 5 | 46 => 120 | 146 => 201 | 51 => 151 | n => n, fun | 1 => 0 | n => n⟩
theorem Tryz.laysM145 : Go.Proofs.LaysM.n145 Tryz.prog Tryz.laysM145_ren := {
  mixed := by kernel_rfl
  f145 := Tryz.func129.trans (congrArg some (by kernel_rfl))
  f217 := Tryz.func196.trans (congrArg some (by kernel_rfl))
  f219 := Tryz.func180.trans (congrArg some (by kernel_rfl))
  f220 := Tryz.func161.trans (congrArg some (by kernel_rfl))
  f224 := Tryz.func198.trans (congrArg some (by kernel_rfl))
  f225 := Tryz.func197.trans (congrArg some (by kernel_rfl))
  f266 := Tryz.func213.trans (congrArg some (by kernel_rfl))
  f267 := Tryz.func199.trans (congrArg some (by kernel_rfl))
  f314 := Tryz.func214.trans (congrArg some (by kernel_rfl))
  t3 := Tryz.underlying3
  a3 := Tryz.isAgg3
  z3 := Tryz.sizeOf3
  v3 := Tryz.zeroValue3
  t4 := Tryz.underlying4
  a4 := Tryz.isAgg4
  z4 := Tryz.sizeOf4
  v4 := Tryz.zeroValue4
  t5 := Tryz.underlying5
  a5 := Tryz.isAgg5
  z5 := Tryz.sizeOf5
  v5 := Tryz.zeroValue5
  t9 := Tryz.underlying9
  a9 := Tryz.isAgg9
  z9 := Tryz.sizeOf9
  v9 := Tryz.zeroValue9
  t46 := Tryz.underlying120
  a46 := Tryz.isAgg120
  z46 := Tryz.sizeOf120
  v46 := Tryz.zeroValue120
  t51 := Tryz.underlying151
  a51 := Tryz.isAgg151
  z51 := Tryz.sizeOf151
  v51 := Tryz.zeroValue151
  t59 := Tryz.underlying138
  a59 := Tryz.isAgg138
  z59 := Tryz.sizeOf138
  v59 := Tryz.zeroValue138
  t146 := Tryz.underlying201
  a146 := Tryz.isAgg201
  z146 := Tryz.sizeOf201
  v146 := Tryz.zeroValue201
  g1 := by kernel_rfl
  i3 := by kernel_rfl
  i4 := by kernel_rfl
  i5 := by kernel_rfl
  i9 := by kernel_rfl
  i46 := by kernel_rfl
  i51 := by kernel_rfl
  i59 := by kernel_rfl
  i146 := by kernel_rfl
  m1 := by kernel_rfl
  s1_3 := fun w h => Go.Proofs.cell_of_shapedOpen_int (zero := #[.int .i64 0]) (t := 3) h (of_decide_eq_true (by kernel_rfl)) (by kernel_rfl) rfl (by kernel_rfl) (by kernel_rfl) Tryz.underlying3 }
def Tryz.lays190_ren : Go.Shelf.Ren := ⟨fun | 190 => 74 | 125 => 103 | 258 => 102 | 128 => 148 | 129 => 149 | 302 => 139 | 303 => 140 | 304 => 141 | 305 => 142 | 306 => 143 | 307 => 144 | 308 => 145 | 309 => 146 | 310 => 147 | 333 => 168 | 329 => 169 | 330 => 170 | 334 => 171 | 335 => 172 | 336 => 173 | 344 => 192 | n => n, fun | 31 => 22 | 9 => 9 | 3 => 3 | 46 => 120 | 0 => 0 | 51 => 151 | 53 => 153 | 4 => 4 | 183 => 144 | 182 => 143 | 131 => 148 | 5 => 5 | 218 => 164 | 222 => 168 | 228 => 179 | 229 => 180 | n => n, fun | n => n⟩
theorem Tryz.lays190 : Go.Proofs.Lays.n190 Tryz.prog Tryz.lays190_ren := {
  mixed := by kernel_rfl
  f125 := Tryz.func103.trans (congrArg some (by kernel_rfl))
  f128 := Tryz.func148.trans (congrArg some (by kernel_rfl))
  f129 := Tryz.func149.trans (congrArg some (by kernel_rfl))
  f190 := Tryz.func74.trans (congrArg some (by kernel_rfl))
  f258 := Tryz.func102.trans (congrArg some (by kernel_rfl))
  f302 := Tryz.func139.trans (congrArg some (by kernel_rfl))
  f303 := Tryz.func140.trans (congrArg some (by kernel_rfl))
  f304 := Tryz.func141.trans (congrArg some (by kernel_rfl))
  f305 := Tryz.func142.trans (congrArg some (by kernel_rfl))
  f306 := Tryz.func143.trans (congrArg some (by kernel_rfl))
  f307 := Tryz.func144.trans (congrArg some (by kernel_rfl))
  f308 := Tryz.func145.trans (congrArg some (by kernel_rfl))
  f309 := Tryz.func146.trans (congrArg some (by kernel_rfl))
  f310 := Tryz.func147.trans (congrArg some (by kernel_rfl))
  f329 := Tryz.func169.trans (congrArg some (by kernel_rfl))
  f330 := Tryz.func170.trans (congrArg some (by kernel_rfl))
  f333 := Tryz.func168.trans (congrArg some (by kernel_rfl))
  f334 := Tryz.func171.trans (congrArg some (by kernel_rfl))
  f335 := Tryz.func172.trans (congrArg some (by kernel_rfl))
  f336 := Tryz.func173.trans (congrArg some (by kernel_rfl))
  f344 := Tryz.func192.trans (congrArg some (by kernel_rfl))
  t0 := Tryz.underlying0
  a0 := Tryz.isAgg0
  z0 := Tryz.sizeOf0
  v0 := Tryz.zeroValue0
  t3 := Tryz.underlying3
  a3 := Tryz.isAgg3
  z3 := Tryz.sizeOf3
  v3 := Tryz.zeroValue3
  t4 := Tryz.underlying4
  a4 := Tryz.isAgg4
  z4 := Tryz.sizeOf4
  v4 := Tryz.zeroValue4
  t5 := Tryz.underlying5
  a5 := Tryz.isAgg5
  z5 := Tryz.sizeOf5
  v5 := Tryz.zeroValue5
  t9 := Tryz.underlying9
  a9 := Tryz.isAgg9
  z9 := Tryz.sizeOf9
  v9 := Tryz.zeroValue9
  t31 := Tryz.underlying22
  a31 := Tryz.isAgg22
  z31 := Tryz.sizeOf22
  v31 := Tryz.zeroValue22
  t46 := Tryz.underlying120
  a46 := Tryz.isAgg120
  z46 := Tryz.sizeOf120
  v46 := Tryz.zeroValue120
  t51 := Tryz.underlying151
  a51 := Tryz.isAgg151
  z51 := Tryz.sizeOf151
  v51 := Tryz.zeroValue151
  t53 := Tryz.underlying153
  a53 := Tryz.isAgg153
  z53 := Tryz.sizeOf153
  v53 := Tryz.zeroValue153
  t131 := Tryz.underlying148
  a131 := Tryz.isAgg148
  z131 := Tryz.sizeOf148
  v131 := Tryz.zeroValue148
  t182 := Tryz.underlying143
  a182 := Tryz.isAgg143
  z182 := Tryz.sizeOf143
  v182 := Tryz.zeroValue143
  t183 := Tryz.underlying144
  a183 := Tryz.isAgg144
  z183 := Tryz.sizeOf144
  v183 := Tryz.zeroValue144
  t218 := Tryz.underlying164
  a218 := Tryz.isAgg164
  z218 := Tryz.sizeOf164
  v218 := Tryz.zeroValue164
  t222 := Tryz.underlying168
  a222 := Tryz.isAgg168
  z222 := Tryz.sizeOf168
  v222 := Tryz.zeroValue168
  t228 := Tryz.underlying179
  a228 := Tryz.isAgg179
  z228 := Tryz.sizeOf179
  v228 := Tryz.zeroValue179
  t229 := Tryz.underlying180
  a229 := Tryz.isAgg180
  z229 := Tryz.sizeOf180
  v229 := Tryz.zeroValue180 }
def Tryz.laysM146_ren : Go.Shelf.Ren := ⟨fun | 146 => 95 | 221 => 127 | 268 => 157 | 138 => 158 | 143 => 159 | 195 => 177 | 197 => 178 | 218 => 179 | 219 => 180 | 260 => 195 | 217 => 196 | 225 => 197 | 224 => 198 | 267 => 199 | 266 => 213 | 314 => 214 | n => n, fun | 9 => 9 | 31 => 22 | 3 => 3 | 4 => 4 | 0 => 0 | 105 => 171 | 21 => 21 | 5 => 5 | 46 => 120 | 119 => 197 | 139 => 200 | 138 => 199 | 146 => 201 | 51 => 151 | n => n, fun | 1 => 0 | 3 => 1 | 4 => 2 | n => n⟩
theorem Tryz.laysM146 : Go.Proofs.LaysM.n146 Tryz.prog Tryz.laysM146_ren := {
  mixed := by kernel_rfl
  f138 := Tryz.func158.trans (congrArg some (by kernel_rfl))
  f143 := Tryz.func159.trans (congrArg some (by kernel_rfl))
  f146 := Tryz.func95.trans (congrArg some (by kernel_rfl))
  f195 := Tryz.func177.trans (congrArg some (by kernel_rfl))
  f197 := Tryz.func178.trans (congrArg some (by kernel_rfl))
  f217 := Tryz.func196.trans (congrArg some (by kernel_rfl))
  f218 := Tryz.func179.trans (congrArg some (by kernel_rfl))
  f219 := Tryz.func180.trans (congrArg some (by kernel_rfl))
  f221 := Tryz.func127.trans (congrArg some (by kernel_rfl))
  f224 := Tryz.func198.trans (congrArg some (by kernel_rfl))
  f225 := Tryz.func197.trans (congrArg some (by kernel_rfl))
  f260 := Tryz.func195.trans (congrArg some (by kernel_rfl))
  f266 := Tryz.func213.trans (congrArg some (by kernel_rfl))
  f267 := Tryz.func199.trans (congrArg some (by kernel_rfl))
  f268 := Tryz.func157.trans (congrArg some (by kernel_rfl))
  f314 := Tryz.func214.trans (congrArg some (by kernel_rfl))
  t0 := Tryz.underlying0
  a0 := Tryz.isAgg0
  z0 := Tryz.sizeOf0
  v0 := Tryz.zeroValue0
  t3 := Tryz.underlying3
  a3 := Tryz.isAgg3
  z3 := Tryz.sizeOf3
  v3 := Tryz.zeroValue3
  t4 := Tryz.underlying4
  a4 := Tryz.isAgg4
  z4 := Tryz.sizeOf4
  v4 := Tryz.zeroValue4
  t5 := Tryz.underlying5
  a5 := Tryz.isAgg5
  z5 := Tryz.sizeOf5
  v5 := Tryz.zeroValue5
  t9 := Tryz.underlying9
  a9 := Tryz.isAgg9
  z9 := Tryz.sizeOf9
  v9 := Tryz.zeroValue9
  t21 := Tryz.underlying21
  a21 := Tryz.isAgg21
  z21 := Tryz.sizeOf21
  v21 := Tryz.zeroValue21
  t31 := Tryz.underlying22
  a31 := Tryz.isAgg22
  z31 := Tryz.sizeOf22
  v31 := Tryz.zeroValue22
  t46 := Tryz.underlying120
  a46 := Tryz.isAgg120
  z46 := Tryz.sizeOf120
  v46 := Tryz.zeroValue120
  t51 := Tryz.underlying151
  a51 := Tryz.isAgg151
  z51 := Tryz.sizeOf151
  v51 := Tryz.zeroValue151
  t105 := Tryz.underlying171
  a105 := Tryz.isAgg171
  z105 := Tryz.sizeOf171
  v105 := Tryz.zeroValue171
  t119 := Tryz.underlying197
  a119 := Tryz.isAgg197
  z119 := Tryz.sizeOf197
  t138 := Tryz.underlying199
  a138 := Tryz.isAgg199
  z138 := Tryz.sizeOf199
  v138 := Tryz.zeroValue199
  t139 := Tryz.underlying200
  a139 := Tryz.isAgg200
  z139 := Tryz.sizeOf200
  v139 := Tryz.zeroValue200
  t146 := Tryz.underlying201
  a146 := Tryz.isAgg201
  z146 := Tryz.sizeOf201
  v146 := Tryz.zeroValue201
  g1 := by kernel_rfl
  g3 := by kernel_rfl
  g4 := by kernel_rfl
  i0 := by kernel_rfl
  i3 := by kernel_rfl
  i4 := by kernel_rfl
  i5 := by kernel_rfl
  i9 := by kernel_rfl
  i21 := by kernel_rfl
  i31 := by kernel_rfl
  i46 := by kernel_rfl
  i51 := by kernel_rfl
  i105 := by kernel_rfl
  i138 := by kernel_rfl
  i139 := by kernel_rfl
  i146 := by kernel_rfl
  m1 := by kernel_rfl
  s1_3 := fun w h => Go.Proofs.cell_of_shapedOpen_int (zero := #[.int .i64 0]) (t := 3) h (of_decide_eq_true (by kernel_rfl)) (by kernel_rfl) rfl (by kernel_rfl) (by kernel_rfl) Tryz.underlying3
  m3 := by kernel_rfl
  m4 := by kernel_rfl }
end Go.Proofs
/- What the library's functions answer, by the kit's own contract. Conditions: those of each lemma. -/
namespace Go.Proofs
open Go.Shelf
theorem Tryz.join_none (a : Option Addr) (c : Nat) (sep : ByteArray) (w : World) :
    Calls Tryz.prog 165 #[.slice a 0 c, .string sep] w fun e w' => e = .returned (.string ⟨#[]⟩) ∧ w' = w := Any.strings_Join_none Tryz.lays156 Tryz.Builder_Extra_156 a c sep w
theorem Tryz.join_some (bk o c : Nat) (xs : List ByteArray) (sep : ByteArray) (w : World)
    (hcells : ∀ (j : Nat) x, xs[j]? = some x → w.cell? ⟨bk, o + j, none⟩ = some (.string x))
    (hbk : bk < w.heap.size) (hN : xs.length ≤ 140737488355328) (hcap : xs.length ≤ c)
    (hlen : (Lib.join (xs.map (·.data.toList)) sep.data.toList).length ≤ 140737488355328) :
    Calls Tryz.prog 165 #[.slice (some ⟨bk, o, none⟩) xs.length c, .string sep] w fun e w' => e = .returned (.string ⟨(Lib.join (xs.map (·.data.toList)) sep.data.toList).toArray⟩) ∧ Go.RowKit.Below w.heap.size w w' :=
  Any.strings_Join Tryz.lays156 Tryz.Builder_Extra_156 bk o c xs sep w hcells hbk hN hcap hlen
theorem Tryz.itoa (n : Int) (h0 : -9223372036854775808 ≤ n) (h1 : n ≤ 9223372036854775807) (w : World) (htab : Lib.TabIs Tryz.prog w "internal/strconv.uint64pow10" .u64 Lib.pow10Tab) :
    Calls Tryz.prog 183 #[.int .i64 n] w fun e w' => e = .returned (.string ⟨(Lib.itoa n).toArray⟩) ∧ ∃ k os, w' = Go.Sort.grow (w.drewN k) os := Any.strconv_Itoa Tryz.laysM171 n h0 h1 w htab
theorem Tryz.iz (w : World) (e : TypeId) (s : ByteArray) : Go.RowKit.Below w.heap.size w (Lib.bytesWorld w e s) :=
  ⟨rfl, rfl, rfl, by rw [Lib.bytesWorld_size]; omega, fun k hk => Lib.bytesWorld_at_old w e s k hk⟩
theorem Tryz.TB (s : ByteArray) (hmax : s.size ≤ 281474976710656) (v : Int) (h : Lib.atoiAll s.data.toList = .ok v) (w : World) :
    Calls Tryz.prog 162 #[.string s] w fun e w' => e = .returned (.tuple #[.int .i64 v, .nilIface]) ∧ Go.RowKit.Below w.heap.size w w' :=
  (Any.strconv_Atoi_ok Tryz.laysC172 s (by omega) v h w).mono fun e w' ⟨h1, h2⟩ => ⟨h1, by
    rcases h2 with rfl | ⟨t, rfl⟩
    · exact Go.RowKit.Below.refl _ _
    · exact Tryz.iz _ _ _⟩
theorem Tryz.XX (s : ByteArray) (hlim : s.size ≤ 281474976710656) (h : Lib.atoiAll s.data.toList = .syntax) (tp : TypeId) (p : Value) (w : World) (hvar : w.var? Tryz.prog "strconv.ErrSyntax" = some #[.iface tp p]) :
    Calls Tryz.prog 162 #[.string s] w fun e w' => ∃ t z, e = .returned (.tuple #[.int .i64 0, .iface t z]) ∧ Go.RowKit.Below w.heap.size w w' :=
  (Any.strconv_Atoi_syntax_var Tryz.laysC172 s hlim h tp p w hvar).mono fun e w' ⟨N, h1, _, _, h2⟩ => ⟨_, _, h1, h2⟩
theorem Tryz.XY (s : ByteArray) (hlim : s.size ≤ 281474976710656) (h : Lib.atoiAll s.data.toList = .range) (tp : TypeId) (p : Value) (w : World) (hvar : w.var? Tryz.prog "strconv.ErrRange" = some #[.iface tp p]) :
    Calls Tryz.prog 162 #[.string s] w fun e w' => ∃ t z, e = .returned (.tuple #[.int .i64 (Lib.atoiSat s.data.toList), .iface t z]) ∧ Go.RowKit.Below w.heap.size w w' :=
  (Any.strconv_Atoi_range_var Tryz.laysC172 s hlim h tp p w hvar).mono fun e w' ⟨N, h1, _, _, h2⟩ => ⟨_, _, h1, h2⟩
theorem Tryz.X3 (a b : ByteArray) (w : World) : Calls Tryz.prog 191 #[.string a, .string b] w fun e w' => e = .returned (.int .i64 (Lib.compareBytes a.data.toList b.data.toList)) ∧ w' = w := Any.strings_Compare Tryz.lays106 a b w
end Go.Proofs
/- What the library's functions answer, as the evaluator takes it. Conditions: those of each lemma. -/
namespace Go.Proofs.YtmcephnfcciloaaGreatDoor
open E
set_option linter.unusedSimpArgs false
set_option linter.unusedVariables false
set_option maxRecDepth 100000
/-- a list's texts -/
def strsOf : List (List T) → Option (List Str)
  | [] => some []
  | c :: r => match c with
    | [.str l] => (match strsOf r with | some ks => some (l :: ks) | none => none)
    | _ => none
theorem pw : ∀ ks : List Str, strsOf (y6 ks) = some ks
  | [] => rfl
  | k :: ks => by
    have := pw ks
    simp only [y6] at this
    simp only [y6, List.map_cons, strsOf, this]
theorem qJ : ∀ {es : List (List T)} {ks : List Str}, strsOf es = some ks → es = y6 ks
  | [], ks, h => by simp only [strsOf] at h; cases h; rfl
  | c :: r, ks, h => by
    simp only [strsOf] at h
    split at h
    · split at h
      · rename_i ks' hk; cases h; rw [qJ hk]; rfl
      · cases h
    · cases h
/-- what is shown by other means -/
def aQ : List V → Option V
  | [.t (.list 1 es), .t (.str sep)] => match strsOf es with
    | some ks => if ks.length ≤ 140737488355328 ∧ (Lib.join ks sep).length ≤ 140737488355328 then some (.t (.str (Lib.join ks sep))) else none
    | none => none
  | _ => none
def ql : List V → Option V
  | [.t (.str a), .t (.str b)] => some (.t (.int .i64 (Lib.compareBytes a b)))
  | _ => none
def aR : List V → Option V
  | [.t (.int .i64 n)] => if -9223372036854775808 ≤ n ∧ n ≤ 9223372036854775807 then some (.t (.str (Lib.itoa n))) else none
  | _ => none
def aV : List V → Option V
  | [.t (.str s)] => if s.length ≤ 281474976710656 then (match Lib.atoiAll s with
    | .ok v => some (.tup [.t (.int .i64 v), .t .nili])
    | .syntax => some (.tup [.t (.int .i64 0), .t .nni])
    | .range => some (.tup [.t (.int .i64 (Lib.atoiSat s)), .t .nni])) else none
  | _ => none
def TP : List V → Option V
  | [.t (.str s), .t (.str sep)] => if s.length < 4294967281 then some (.tup [.t (.str (Lib.cut s sep).1), .t (.str (Lib.cut s sep).2.1), .t (.bool (Lib.cut s sep).2.2)]) else none
  | _ => none
/-- the parts of a text -/
def tZ (s sep : Str) : List Str := (Lib.splitB ⟨sep.toArray⟩ 0 (Lib.countB ⟨s.toArray⟩ ⟨sep.toArray⟩) ⟨s.toArray⟩).map (·.data.toList)
def jJ : List V → Option V
  | [.t (.str s), .t (.str sep)] => if s.length < 4294967281 ∧ 1 ≤ sep.length then some (.t (.list 1 (y6 (tZ s sep)))) else none
  | _ => none
/-- a list of texts as it lies in memory -/
theorem UD {w : World} {F : Nat → Prop} {u : Value} {ks : List Str} (h : RT w F u (.list 1 (y6 ks))) :
    ∃ a c, u = .slice a ks.length c ∧ ks.length ≤ c ∧ (0 < ks.length → ∃ b o, a = some ⟨b, o, none⟩ ∧ F b ∧ ∀ (j : Nat) x, (ks.map fun l => (⟨l.toArray⟩ : ByteArray))[j]? = some x → w.cell? ⟨b, o + j, none⟩ = some (.string x)) := by
  cases h with
  | list a n c sz es g hn hc h0 hz hr =>
    rw [zR] at hn
    subst hn
    refine ⟨a, c, rfl, hc, fun hp => ?_⟩
    obtain ⟨b, o, e1, e2, e3⟩ := h0 hp
    refine ⟨b, o, e1, e2, fun j x hj => ?_⟩
    have hjl : j < ks.length := by have := (List.getElem?_eq_some_iff.1 hj).1; simpa using this
    have h1 := e3 j 0 hjl (by omega)
    have h2 := hr j 0 [.str ks[j]] (.str ks[j]) (wV ks j hjl) rfl
    rw [show o + (j * 1 + 0) = o + j by omega] at h1
    rw [h1]
    generalize g j 0 = gv at h2
    cases h2 with
    | str s _ hs =>
      simp [hjl] at hj
      rw [← hj, ← hs]
theorem vv {w w' : World} {F : Nat → Prop} (h : Go.RowKit.Below w.heap.size w w') (hF : ∀ b, F b → b < w.heap.size) : (∀ b, F b → b < w'.heap.size) ∧ Nxt (own fun b => w.heap.size ≤ b) w F y7 w' F y7 :=
  ⟨fun b hb => Nat.lt_of_lt_of_le (hF b hb) h.size, ⟨h.os, h.tape, h.output, h.size, fun b hb _ => h.block b hb, fun b hb => h.block b (hF b hb), fun _ hb => hb, fun _ hb => .inl hb, Ext.refl _, fun _ _ => rfl⟩⟩
/-- a function is as it is told -/
def jc (W0 : World) (g : Nat) (e : List V → Option V) : Prop := ∀ args v, e args = some v →
    (∃ fn, Tryz.prog.funcs[g]? = some fn ∧ (fn.name == "runtime.NumGoroutine") = false ∧ fn.body.isNone = false) ∧
    ∀ (w : World) (F : Nat → Prop) (us : Array Value), v7 W0 w F → (∀ b, F b → b < w.heap.size) → RVs w F y7 us.toList args →
      Calls Tryz.prog g us w fun e w' => ∃ u F', e = .returned u ∧ RV w' F' y7 u v ∧ (∀ b, F' b → b < w'.heap.size) ∧ Nxt (own fun b => w.heap.size ≤ b) w F y7 w' F' y7
theorem T1 (W0 : World) : jc W0 165 aQ := by
  intro args v hv'
  unfold aQ at hv'
  split at hv'
  · rename_i es sep
    split at hv'
    · rename_i ks hks
      split at hv'
      · rename_i hl
        cases hv'
        obtain rfl := qJ hks
        refine ⟨⟨Tryz.f165, Tryz.func165, by kernel_rfl, by kernel_rfl⟩, fun w F us hB hF hu => ?_⟩
        obtain ⟨us⟩ := us
        change RVs w F y7 us _ at hu
        cases hu with
        | cons h1 h2 =>
        cases h2 with
        | cons h2 h3 =>
        cases h3
        obtain ⟨s, rfl, hs⟩ := tg h2
        obtain ⟨a, c, rfl, hc, h0⟩ := UD (TM h1)
        have hfin : ∀ (e : Ending) (w' : World), (e = .returned (.string ⟨(Lib.join ks sep).toArray⟩) ∧ Go.RowKit.Below w.heap.size w w') → ∃ u F', e = .returned u ∧ RV w' F' y7 u (.t (.str (Lib.join ks sep))) ∧ (∀ b, F' b → b < w'.heap.size) ∧ Nxt (own fun b => w.heap.size ≤ b) w F y7 w' F' y7 := by
          rintro e w' ⟨rfl, hb⟩
          obtain ⟨k1, k2⟩ := vv hb hF
          exact ⟨_, F, rfl, .t _ _ (.str _ _ (by simp)), k1, k2⟩
        by_cases hk : ks.length = 0
        · have hk' : ks = [] := List.eq_nil_of_length_eq_zero hk
          subst hk'
          refine (Tryz.join_none a c s w).mono fun e w' ⟨h1, h2⟩ => hfin e w' ⟨?_, ?_⟩
          · rw [h1]; rfl
          · rw [h2]; exact Go.RowKit.Below.refl _ _
        · obtain ⟨b, o, rfl, hb, hcell⟩ := h0 (by omega)
          have hmap : (ks.map fun l => (⟨l.toArray⟩ : ByteArray)).map (·.data.toList) = ks := by
            rw [List.map_map]
            have : ((fun x : ByteArray => x.data.toList) ∘ fun l : List UInt8 => (⟨l.toArray⟩ : ByteArray)) = id := by funext l; simp
            rw [this]; simp
          have := Tryz.join_some b o c (ks.map fun l => (⟨l.toArray⟩ : ByteArray)) s w hcell (hF b hb) (by simpa using hl.1) (by simpa using hc) (by rw [hmap, hs]; exact hl.2)
          rw [hmap, hs, List.length_map] at this
          exact this.mono fun e w' h => hfin e w' h
      · cases hv'
    · cases hv'
  · cases hv'
theorem dk (W0 : World) : jc W0 191 ql := by
  intro args v hv'
  unfold ql at hv'
  split at hv'
  · rename_i a b
    cases hv'
    refine ⟨⟨Tryz.f191, Tryz.func191, by kernel_rfl, by kernel_rfl⟩, fun w F us hB hF hu => ?_⟩
    obtain ⟨us⟩ := us
    change RVs w F y7 us _ at hu
    cases hu with
    | cons h1 h2 =>
    cases h2 with
    | cons h2 h3 =>
    cases h3
    obtain ⟨s1, rfl, hs1⟩ := tg h1
    obtain ⟨s2, rfl, hs2⟩ := tg h2
    refine (Tryz.X3 s1 s2 w).mono fun e w' h => ?_
    obtain ⟨rfl, rfl⟩ := h
    rw [hs1, hs2]
    exact ⟨_, F, rfl, .t _ _ (.int _ _), hF, Nxt.refl _ _ _ _⟩
  · cases hv'
theorem dw (w : World) (k : Nat) (os : Array Obj) : Go.RowKit.Below w.heap.size w (Go.Sort.grow (w.drewN k) os) :=
  ⟨rfl, rfl, rfl, by simp [Go.Sort.grow], fun b hb => by simp [Go.Sort.grow, Array.getElem?_append_left hb]⟩
theorem YT {W0 w : World} {F : Nat → Prop} {n : String} {k : IntKind} {zs : List Int} (hB : v7 W0 w F) (h : Lib.TabIs Tryz.prog W0 n k zs) : Lib.TabIs Tryz.prog w n k zs := by
  unfold Lib.TabIs World.var? at *
  cases hg : Tryz.prog.globalNamed n with
  | none => simp [hg] at h
  | some g =>
    simp only [hg, Option.bind_some] at h ⊢
    have hlt : g < W0.heap.size := by
      refine Nat.lt_of_not_le fun hc => ?_
      rw [Array.getElem?_eq_none hc] at h
      cases h
    rw [hB.heap g hlt]
    exact h
theorem T2 (W0 : World) (hT : Lib.TabIs Tryz.prog W0 "internal/strconv.uint64pow10" .u64 Lib.pow10Tab) : jc W0 183 aR := by
  intro args v hv'
  unfold aR at hv'
  split at hv'
  · rename_i n
    split at hv'
    · rename_i hn
      cases hv'
      refine ⟨⟨Tryz.f183, Tryz.func183, by kernel_rfl, by kernel_rfl⟩, fun w F us hB hF hu => ?_⟩
      obtain ⟨us⟩ := us
      change RVs w F y7 us _ at hu
      cases hu with
      | cons h1 h2 =>
      cases h2
      cases h1 with
      | t _ _ h1 =>
      cases h1
      refine (Tryz.itoa n hn.1 hn.2 w (YT hB hT)).mono fun e w' h => ?_
      obtain ⟨rfl, k, os, rfl⟩ := h
      obtain ⟨k1, k2⟩ := vv (dw w k os) hF
      exact ⟨_, F, rfl, .t _ _ (.str _ _ (by simp)), k1, k2⟩
    · cases hv'
  · cases hv'
theorem gb {W0 w : World} {F : Nat → Prop} {n : String} {cs : Array Value} (hB : v7 W0 w F) (h : W0.var? Tryz.prog n = some cs) : w.var? Tryz.prog n = some cs := by
  unfold World.var? at *
  cases hg : Tryz.prog.globalNamed n with
  | none => simp [hg] at h
  | some g =>
    simp only [hg, Option.bind_some] at h ⊢
    have hlt : g < W0.heap.size := by
      refine Nat.lt_of_not_le fun hc => ?_
      rw [Array.getElem?_eq_none hc] at h
      cases h
    rw [hB.heap g hlt]
    exact h
theorem cy {w : World} {F : Nat → Prop} {ρ : ym} {u1 u2 : Value} {x1 x2 : T} (h1 : RT w F u1 x1) (h2 : RT w F u2 x2) : RV w F ρ (.tuple #[u1, u2]) (.tup [.t x1, .t x2]) := by
  refine .tup _ _ (fun j => if j = 0 then u1 else u2) rfl (fun j hj => ?_) fun j x hj => ?_
  · match j, hj with
    | 0, _ => rfl
    | 1, _ => rfl
  · match j, hj with
    | 0, hj => cases hj; exact .t _ _ h1
    | 1, hj => cases hj; exact .t _ _ h2
    | j + 2, hj => simp at hj
theorem TC (W0 : World) (hS : ∃ tp p, W0.var? Tryz.prog "strconv.ErrSyntax" = some #[.iface tp p]) (hR : ∃ tp p, W0.var? Tryz.prog "strconv.ErrRange" = some #[.iface tp p]) : jc W0 162 aV := by
  intro args v hv'
  unfold aV at hv'
  split at hv'
  · rename_i l
    split at hv'
    · rename_i hl
      refine ⟨⟨Tryz.f162, Tryz.func162, by kernel_rfl, by kernel_rfl⟩, fun w F us hB hF hu => ?_⟩
      obtain ⟨us⟩ := us
      change RVs w F y7 us _ at hu
      cases hu with
      | cons h1 h2 =>
      cases h2
      obtain ⟨s, rfl, hs⟩ := tg h1
      have hsz : s.size ≤ 281474976710656 := by
        have : s.data.toList.length = s.size := by simp
        rw [hs] at this
        omega
      obtain ⟨tS, pS, hS⟩ := hS
      obtain ⟨tR, pR, hR⟩ := hR
      split at hv'
      · rename_i n hn
        cases hv'
        refine (Tryz.TB s hsz n (by rw [hs]; exact hn) w).mono fun e w' h => ?_
        obtain ⟨rfl, hb⟩ := h
        obtain ⟨k1, k2⟩ := vv hb hF
        exact ⟨_, F, rfl, cy (.int _ _) .nili, k1, k2⟩
      · rename_i hn
        cases hv'
        refine (Tryz.XX s hsz (by rw [hs]; exact hn) tS pS w (gb hB hS)).mono fun e w' h => ?_
        obtain ⟨t, z, rfl, hb⟩ := h
        obtain ⟨k1, k2⟩ := vv hb hF
        exact ⟨_, F, rfl, cy (.int _ _) (.nni t z), k1, k2⟩
      · rename_i hn
        cases hv'
        refine (Tryz.XY s hsz (by rw [hs]; exact hn) tR pR w (gb hB hR)).mono fun e w' h => ?_
        obtain ⟨t, z, rfl, hb⟩ := h
        obtain ⟨k1, k2⟩ := vv hb hF
        rw [hs]
        exact ⟨_, F, rfl, cy (.int _ _) (.nni t z), k1, k2⟩
    · cases hv'
  · cases hv'
theorem kD {W0 w : World} {F : Nat → Prop} {a : Addr} {v : Value} (hB : v7 W0 w F) (h : W0.cell? a = some v) : w.cell? a = some v := by
  have hlt : a.block < W0.heap.size := by
    refine Nat.lt_of_not_le fun hc => ?_
    simp [World.cell?, Array.getElem?_eq_none hc] at h
  unfold World.cell? at h ⊢
  rw [hB.heap _ hlt]
  exact h
theorem iy (w : World) (n : Nat) : Go.RowKit.Below w.heap.size w (w.drewN n) := ⟨rfl, rfl, rfl, Nat.le_refl _, fun _ _ => rfl⟩
theorem X5 {w : World} {F : Nat → Prop} {ρ : ym} {u1 u2 u3 : Value} {x1 x2 x3 : T} (h1 : RT w F u1 x1) (h2 : RT w F u2 x2) (h3 : RT w F u3 x3) : RV w F ρ (.tuple #[u1, u2, u3]) (.tup [.t x1, .t x2, .t x3]) := by
  refine .tup _ _ (fun j => if j = 0 then u1 else if j = 1 then u2 else u3) rfl (fun j hj => ?_) fun j x hj => ?_
  · match j, hj with
    | 0, _ => rfl
    | 1, _ => rfl
    | 2, _ => rfl
  · match j, hj with
    | 0, hj => cases hj; exact .t _ _ h1
    | 1, hj => cases hj; exact .t _ _ h2
    | 2, hj => cases hj; exact .t _ _ h3
    | j + 3, hj => simp at hj
theorem SC (W0 : World) (hM : ∃ m, W0.cell? ⟨Tryz.laysM145_ren.g 1, 0, none⟩ = some (.int .i64 m)) : jc W0 129 TP := by
  intro args v hv'
  unfold TP at hv'
  split at hv'
  · rename_i l lsep
    split at hv'
    · rename_i hl
      cases hv'
      refine ⟨⟨Tryz.f129, Tryz.func129, by kernel_rfl, by kernel_rfl⟩, fun w F us hB hF hu => ?_⟩
      obtain ⟨us⟩ := us
      change RVs w F y7 us _ at hu
      cases hu with
      | cons h1 h2 =>
      cases h2 with
      | cons h2 h3 =>
      cases h3
      obtain ⟨s, rfl, hs⟩ := tg h1
      obtain ⟨sep, rfl, hsep⟩ := tg h2
      have hsz : s.size < 4294967281 := by
        have : s.data.toList.length = s.size := by simp
        rw [hs] at this
        omega
      obtain ⟨m, hM⟩ := hM
      refine (Any.strings_Cut { Tryz.laysM145 with } s sep m w hsz (kD hB hM)).mono fun e w' h => ?_
      rw [hs, hsep] at h
      obtain ⟨rfl, n, rfl⟩ := h
      obtain ⟨k1, k2⟩ := vv (iy w n) hF
      exact ⟨_, F, rfl, X5 (.str _ _ (by simp)) (.str _ _ (by simp)) (.bool _), k1, k2⟩
    · cases hv'
  · cases hv'
end Go.Proofs.YtmcephnfcciloaaGreatDoor
/- What strings.Split answers, as the evaluator takes it. Conditions: those of each lemma. -/
namespace Go.Proofs.YtmcephnfcciloaaGreatDoor
open E
set_option linter.unusedSimpArgs false
set_option linter.unusedVariables false
set_option maxRecDepth 100000
/-- a row of texts laid behind all -/
theorem Zi (w : World) (F : Nat → Prop) (hF : ∀ b, F b → b < w.heap.size) (t : TypeId) (ps : List ByteArray) (n : Nat) (hn : ps.length = n) :
    RT (w.alloc (.cells (ps.map Value.string).toArray t)) (fun b => F b ∨ b = w.heap.size) (.slice (some ⟨w.heap.size, 0, none⟩) n n) (.list 1 (y6 (ps.map (·.data.toList)))) := by
  have hcell : ∀ j, j < ps.length → (w.alloc (.cells (ps.map Value.string).toArray t)).cell? ⟨w.heap.size, j, none⟩ = some (.string (ps.getD j ByteArray.empty)) := fun j hj => by
    have ha : (w.alloc (.cells (ps.map Value.string).toArray t)).heap = w.heap.push (.cells (ps.map Value.string).toArray t) := rfl
    unfold World.cell?
    rw [ha]
    simp [hj, List.getD]
  generalize w.alloc (.cells (ps.map Value.string).toArray t) = w1 at *
  refine RT.list (F := fun b => F b ∨ b = w.heap.size) (some ⟨w.heap.size, 0, none⟩) n n 1 (y6 (ps.map (·.data.toList))) (fun i _ => .string (ps.getD i ByteArray.empty)) (by rw [zR, List.length_map]; exact hn) (Nat.le_refl _) (fun _ => ⟨w.heap.size, 0, rfl, Or.inr rfl, fun i j hi hj => ?_⟩) (fun e he => ?_) fun i j cs x hi hj => ?_
  · obtain rfl : j = 0 := by omega
    rw [show 0 + (i * 1 + 0) = i by omega]
    exact hcell i (by omega)
  · simp only [y6, List.mem_map] at he
    obtain ⟨a, _, rfl⟩ := he
    rfl
  · simp only [y6, List.map_map, List.getElem?_map, Option.map_eq_some_iff] at hi
    obtain ⟨a, ha, rfl⟩ := hi
    match j, hj with
    | 0, hj =>
      simp [Function.comp] at hj
      subst hj
      have : ps.getD i ByteArray.empty = a := by simp [List.getD, ha]
      rw [this]
      exact .str _ _ rfl
    | j + 1, hj => simp at hj
theorem Ze (w : World) (F : Nat → Prop) (hF : ∀ b, F b → b < w.heap.size) (o : Obj) : (∀ b, (F b ∨ b = w.heap.size) → b < (w.alloc o).heap.size) ∧ Nxt (own fun b => w.heap.size ≤ b) w F y7 (w.alloc o) (fun b => F b ∨ b = w.heap.size) y7 := by
  have ha : (w.alloc o).heap = w.heap.push o := rfl
  have hsz : (w.alloc o).heap.size = w.heap.size + 1 := by rw [ha, Array.size_push]
  have hold : ∀ b, b < w.heap.size → (w.alloc o).heap[b]? = w.heap[b]? := fun b hb => by
    rw [ha, Array.getElem?_push_lt hb, Array.getElem?_eq_getElem hb]
  refine ⟨fun b hb => ?_, rfl, rfl, rfl, by omega, fun b hb _ => hold b hb, fun b hb => hold b (hF b hb), fun _ hb => .inl hb, fun b hb => ?_, Ext.refl _, fun _ _ => rfl⟩
  · rcases hb with hb | rfl
    · have := hF b hb; omega
    · omega
  · rcases hb with hb | rfl
    · exact .inl hb
    · exact .inr (Nat.le_refl _)
theorem YW (W0 : World) (hM : ∃ m, W0.cell? ⟨Tryz.laysM146_ren.g 1, 0, none⟩ = some (.int .i64 m)) : jc W0 95 jJ := by
  intro args v hv'
  unfold jJ at hv'
  split at hv'
  · rename_i l lsep
    split at hv'
    · rename_i hl
      cases hv'
      refine ⟨⟨Tryz.f95, Tryz.func95, by kernel_rfl, by kernel_rfl⟩, fun w F us hB hF hu => ?_⟩
      obtain ⟨us⟩ := us
      change RVs w F y7 us _ at hu
      cases hu with
      | cons h1 h2 =>
      cases h2 with
      | cons h2 h3 =>
      cases h3
      obtain ⟨s, rfl, hs⟩ := tg h1
      obtain ⟨sep, rfl, hsep⟩ := tg h2
      have hsz : s.size < 4294967281 := by
        have : s.data.toList.length = s.size := by simp
        rw [hs] at this
        omega
      have hsp : 1 ≤ sep.size := by
        have : sep.data.toList.length = sep.size := by simp
        rw [hsep] at this
        omega
      obtain ⟨m, hM⟩ := hM
      refine (Any.strings_Split { Tryz.laysM146 with } Tryz.laysM146.i9 s sep m w hsz (kD hB hM) hsp).mono fun e w' h => ?_
      have es : (⟨l.toArray⟩ : ByteArray) = s := by rw [← hs]
      have esep : (⟨lsep.toArray⟩ : ByteArray) = sep := by rw [← hsep]
      have hlen := Lib.splitB_all sep hsp 0 (Lib.countB s sep) s rfl
      unfold tZ
      rw [es, esep]
      obtain ⟨rfl, rfl⟩ := h
      generalize Lib.splitB sep 0 (Lib.countB s sep) s = ps at *
      generalize Lib.countB s sep = n at *
      obtain ⟨k1, k2⟩ := Ze w F hF (.cells (ps.map Value.string).toArray (Tryz.laysM146_ren.t 9))
      exact ⟨_, fun b => F b ∨ b = w.heap.size, rfl, .t _ _ (Zi w F hF _ ps (n + 1) hlen), k1, k2⟩
    · cases hv'
  · cases hv'
end Go.Proofs.YtmcephnfcciloaaGreatDoor
/- slices.Sort at texts, by the kit's own contract: on rows. Conditions: those of each lemma. -/
namespace Go.Proofs.YtmcephnfcciloaaGreatDoor
open E
set_option linter.unusedSimpArgs false
set_option linter.unusedVariables false
set_option maxRecDepth 100000
def u0 (ks : List Str) : List Str := ks.mergeSort fun x y => decide (x ≤ y)
theorem eR (ks : List Str) : (u0 ks).Perm ks := List.mergeSort_perm _ _
theorem Z1 (ks : List Str) : (u0 ks).length = ks.length := (eR ks).length_eq
def Uc (args : List V) (h : Heap) : Option (V × Heap) :=
  match args, h with
  | [.sl 0 0 n cap], [.ts 1 es] => match strsOf es with
    | some ks => if n = ks.length ∧ ks.length ≤ 1073741824 then some (.tup [], [.ts 1 (y6 (u0 ks))]) else none
    | none => none
  | _, _ => none
variable {w : World} {F : Nat → Prop} {ρ : ym} {Ow : Own} {h : Heap}
theorem gP (hS : St w F ρ Ow h) {w' : World} (h1 : w'.os = w.os) (h2 : w'.tape = w.tape) (h3 : w'.output = w.output) (h4 : w.heap.size ≤ w'.heap.size) (h5 : ∀ b, b < w.heap.size → w'.heap[b]? = w.heap[b]?) : St w' F ρ Ow h ∧ Nxt Ow w F ρ w' F ρ := by
  have hN : Nxt Ow w F ρ w' F ρ := ⟨h1, h2, h3, h4, fun b hb _ => h5 b hb, fun b hb => h5 b (hS.fsz b hb), fun _ x => x, fun _ x => .inl x, Ext.refl _, fun _ _ => rfl⟩
  refine ⟨hS.next hN hS.out (fun b hb => Nat.lt_of_lt_of_le (hS.fsz b hb) h4) (fun r b hr => .inl ⟨hr, fun L hL hw => ⟨h5 _ ((hS.blk r b hr).wX hw hL).2.2, ((hS.blk r b hr).wX hw hL).1⟩⟩)
    (hS.owned hN (fun b _ hF hlt _ => ⟨h5 b hlt, hF⟩) (fun r i j x ho => ⟨ho, fun L u hL hu => ?_⟩) fun r b L hr hw hL => .inr (hS.same (Ext.refl _) hr hw hL)), hN⟩
  obtain ⟨c, el', fr, q1, q2⟩ := hu
  exact ⟨c, el', fr, (h5 _ (Array.getElem?_eq_some_iff.1 q1).1).trans q1, q2⟩
theorem Tryz.eP (p : Option Addr) (cap : Nat) (w : World) : Calls Tryz.prog 74 #[.slice p 0 cap] w fun e w' => e = .returned (.tuple #[]) ∧ w' = w := Any.slices_Sort_string_none Tryz.lays190 p cap w
theorem Tryz.ssort (blk off cap : Nat) (ss : List (List UInt8)) (w : World) (hH : Go.Sort.Holds encStr w blk off ss.toArray) (hblk : blk < w.heap.size) (hsz : ss.length < 4611686018427387904) :
    Calls Tryz.prog 74 #[.slice (some ⟨blk, off, none⟩) ss.length cap] w fun e w' =>
      e = .returned (.tuple #[]) ∧ ∃ n os, w' = Go.Sort.grow (Go.Sort.putRow encStr (Go.Sort.ahead w n) blk off (ss.mergeSort fun x y => decide (x ≤ y)).toArray) os := Any.slices_Sort_string Tryz.lays190 blk off cap ss w hH hblk hsz
theorem Uz (W0 : World) : pr Tryz.prog W0 74 Uc := by
  intro args h v h' hv
  unfold Uc at hv
  split at hv
  · rename_i n cap es
    split at hv
    · rename_i ks hks
      split at hv
      · rename_i hn
        obtain ⟨hn, hlim⟩ := hn
        cases hv
        obtain rfl := qJ hks
        refine ⟨⟨Tryz.f74, Tryz.func74, by kernel_rfl, by kernel_rfl⟩, fun Ow w F ρ us hB hS hO hu => ?_⟩
        obtain ⟨us⟩ := us
        change RVs w F ρ us _ at hu
        cases hu with
        | cons h1 h2 =>
        cases h2
        subst hn
        have htup' : ∀ {w' : World}, RV w' F ρ (.tuple #[]) (.tup []) := .tup _ _ (fun _ => undef) rfl (fun j hj => by simp at hj) fun j x hj => by simp at hj
        have htup : RV w F ρ (.tuple #[]) (.tup []) := htup'
        have none_case : ks = [] → ∀ (a : Option Addr) (c : Nat), Calls Tryz.prog 74 #[.slice a 0 c] w fun e w' => ∃ u F' ρ', e = .returned u ∧ RV w' F' ρ' u (.tup []) ∧ St w' F' ρ' Ow [.ts 1 (y6 (u0 ks))] ∧ Nxt Ow w F y7 w' F' y7 ∧ ∀ r l, r < 1 → ρ r = some l → ρ' r = some l := fun hk a c => by
          subst hk
          refine (Tryz.eP a c w).mono fun e w' hp => ?_
          obtain ⟨rfl, rfl⟩ := hp
          exact ⟨_, F, ρ, rfl, htup, by rw [show u0 [] = [] by simp [u0]]; exact hS, Nxt.refl _ _ _ _, fun _ _ _ hl => hl⟩
        generalize hkl : ks.length = kl at h1
        cases h1 with
        | slP r cap a hρ hc => exact none_case (List.eq_nil_of_length_eq_zero hkl) a 0
        | sl r off len cap L a c hρ ha hl hnn hc0 hc1 hz =>
          by_cases hk0 : ks = []
          · subst hk0
            simp at hkl
            subst hkl
            exact none_case rfl a c
          · have hpos : 0 < ks.length := by cases ks with | nil => exact absurd rfl hk0 | cons x r => simp
            have hcne : c ≠ 0 := by omega
            obtain rfl := ha.resolve_right hcne
            rcases hS.blk 0 _ rfl with ⟨L', q1, q2, q3, q4, q5⟩ | ⟨q1, q2⟩
            · rw [q1] at hρ; cases hρ
              have hrow := q3
              obtain ⟨e1, e2, cc, el, fr, e3, e4, e5, e6, e7⟩ := q3
              rw [zR] at e1
              have hlt : L.b < w.heap.size := (Array.getElem?_eq_some_iff.1 e3).1
              have hcell : ∀ j (hj : j < ks.length), cc[L.o + j]? = some (encStr ks[j]) := fun j hj => by
                obtain ⟨u, hu, hr⟩ := e7 j 0 [.str ks[j]] (.str ks[j]) (wV ks j hj) rfl
                rw [q2, show L.o + (j * 1 + 0) = L.o + j by omega] at hu
                rw [hu]
                cases hr with
                | str s _ hs =>
                  show some (Value.string s) = some (Value.string ⟨ks[j].toArray⟩)
                  rw [← hs]
              have hzz : L.o + L.n ≤ L.z := by rw [q2, Nat.mul_one] at e6; exact e6
              have hH : Go.Sort.Holds encStr w L.b L.o ks.toArray := fun j hj => by
                have hj' : j < ks.length := by simpa using hj
                have hlen : L.o + j < cc.size := by rw [e4]; omega
                have hx := hcell j hj'
                refine ⟨?_, ?_⟩
                · unfold World.cell?
                  rw [e3]
                  simp [hx, hj']
                · unfold World.frozen?
                  rw [e3]
                  have := e5 (L.o + j) hlen
                  simp only [decide_eq_false_iff_not, Bool.and_eq_false_iff, not_and, Nat.not_lt] at this ⊢
                  first | exact this | simpa using this | (simp; omega)
              have hslen := Z1 ks
              refine Calls.mono (by
                have := Tryz.ssort L.b L.o c ks w hH hlt (by omega)
                rw [hkl] at this
                rw [show L.o + 0 * L.sz = L.o by omega]
                exact this) fun e w' hp => ?_
              obtain ⟨rfl, q, os, hw'⟩ := hp
              change w' = Go.Sort.grow (Go.Sort.putRow encStr (Go.Sort.ahead w q) L.b L.o (u0 ks).toArray) os at hw'
              rw [Lib.putRow_eq_setCells encStr w L.b L.o ks.toArray (u0 ks) q hH (by rw [hslen]; simp)] at hw'
              obtain ⟨hS1, hN1⟩ := gP (w' := w.drewN q) hS rfl rfl rfl (Nat.le_refl _) (fun _ _ => rfl)
              have hfit : L.o + ((u0 ks).map encStr).length ≤ cc.size := by rw [List.length_map, hslen, e4]; omega
              obtain ⟨c', k1, k2, k3⟩ := xC ((u0 ks).map encStr) L.b L.o (w.drewN q) cc el fr e3 hfit
              obtain ⟨hS2, hN2⟩ := nS (blk := .ts 1 (y6 (u0 ks))) hS1 (r := 0) rfl rfl q1 L.o ((u0 ks).map encStr) (fun hN => .inl ⟨L, q1, q2, ⟨by rw [zR, hslen]; exact e1, fun e he => by
                  simp only [y6, List.mem_map] at he
                  obtain ⟨x, _, rfl⟩ := he
                  exact q2.symm, c', el, fr, k1, by rw [k2, e4], fun k hk => e5 k (by rw [← k2]; exact hk), e6, fun i j cs x hi hj => by
                    have hil := (List.getElem?_eq_some_iff.1 hi).1
                    rw [zR] at hil
                    rw [wV (u0 ks) i hil] at hi
                    cases hi
                    match j, hj with
                    | 0, hj =>
                      cases hj
                      refine ⟨encStr (u0 ks)[i], ?_, .str _ _ (by simp)⟩
                      rw [q2, show L.o + (i * 1 + 0) = L.o + i by omega, k3, if_pos ⟨by omega, by rw [List.length_map]; omega⟩, show L.o + i - L.o = i by omega]
                      simp [hil]
                    | j + 1, hj => simp at hj⟩, q4, q5⟩) (fun i j x ho => by
                  obtain ⟨sz, es, cs, h1, _⟩ := ho
                  simp at h1)
              obtain ⟨hS3, hN3⟩ := gP (w' := w') hS2 (by rw [hw']; rfl) (by rw [hw']; rfl) (by rw [hw']; rfl) (by rw [hw']; simp [Go.Sort.grow]) (fun b hb => by rw [hw']; simp only [Go.Sort.grow]; rw [Array.getElem?_append_left hb])
              exact ⟨_, F, ρ, rfl, htup', hS3, ((hN1.trans hN2).trans hN3).forget (Ext.refl _), fun _ _ _ hl => hl⟩
            · have : ks = [] := by
                have := congrArg List.length q2
                rw [zR] at this
                exact List.eq_nil_of_length_eq_zero this
              exact absurd this hk0
      · cases hv
    · cases hv
  · cases hv
end Go.Proofs.YtmcephnfcciloaaGreatDoor

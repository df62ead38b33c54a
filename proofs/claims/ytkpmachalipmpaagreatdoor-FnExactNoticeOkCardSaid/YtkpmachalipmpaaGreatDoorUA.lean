/- Joined: E1 E2 E3 E4 E5 E6. Conditions: those of each lemma. -/
import Derived.Orders
import Derived.Laws.Sem
import Derived.Laws.Cells
import Derived.Laws.Append
import Derived.Deep.MidRow
import Derived.Deep.Upon
import Derived.Deep.AppendSrc
set_option linter.unusedVariables false
set_option linter.unusedSimpArgs false
namespace Go.Proofs.YtkpmachalipmpaaGreatDoor.E

/-- values that nobody writes any more -/
inductive T where
  | int (k : IntKind) (n : Int)
  | bool (b : Bool)
  | str (l : List UInt8)
  | list (sz : Nat) (es : List (List T))
  | nlist (b : Bool) (sz : Nat) (es : List (List T))
  | fp (cs : List T)
  | fn (f : Nat) (caps : List T)
  | nilp
  | nilf
  | nili
  | nni

/-- values while a call runs -/
inductive V where
  | t (x : T)
  | nil (sz : Nat)
  | sl (r off len : Nat) (cap : Option Nat)
  | ptr (r i j : Nat)
  | agg (cs : List V)
  | tup (vs : List V)
  | fn (f : Nat) (caps : List V)
  | und
  | bad

/-- rows of the call's own: written and read; with rows of its own inside; read alone; given away -/
inductive Blk where
  | ts (sz : Nat) (es : List (List T))
  | vs (sz : Nat) (es : List (List V))
  | fz (sz : Nat) (es : List (List T))
  | dead

abbrev Heap := List Blk
abbrev Env := Nat → V

def upd (e : Env) (d : Nat) (v : V) : Env := fun t => if t = d then v else e t
def put (e : Env) : Option Nat → V → Env
  | some d, v => upd e d v
  | none, _ => e

/-! ### Types -/
def szOf (P : Program) (t : TypeId) : Nat := P.cellsOf t
def aggOf (P : Program) (t : TypeId) : Bool := match P.underlying t with | some (.struct _) | some (.array _ _) => true | _ => false
def elOf (P : Program) (t : TypeId) : Option TypeId := match P.underlying t with | some (.slice e) => if (P.info? e).isSome then some e else none | _ => none
def isStr (P : Program) (t : TypeId) : Bool := match P.underlying t with | some .string => true | _ => false
def isInt (P : Program) (t : TypeId) : Option IntKind := match P.underlying t with | some (.int k) => some k | _ => none
/-- a struct's field: its place, its size, and whether it is a struct itself -/
def fOf (P : Program) (s : TypeId) (i : Nat) : Option (Nat × Nat × Bool) :=
  match P.underlying s with
  | some (.struct fs) => match fs[i]? with
    | some f => match P.info? f.type with
      | some inf => match P.underlying f.type with
        | some _ => if inf.size = 0 then none else some (f.offset, inf.size, aggOf P f.type)
        | none => none
      | none => none
    | none => none
  | _ => none

/-- a struct type whose fields' types are all known -/
def strOK (P : Program) (t : TypeId) : Bool :=
  match P.underlying t with
  | some (.struct fs) => fs.toList.all fun f => (P.info? f.type).isSome
  | _ => false
def isBoolT (P : Program) (t : TypeId) : Bool := match P.underlying t with | some .bool => true | _ => false
def isSl (P : Program) (t : TypeId) : Bool := match P.underlying t with | some (.slice _) => true | _ => false
def known (P : Program) (t : TypeId) : Bool := (P.underlying t).isSome

/-- a constant as it is read; a nil slice's element size comes from its type -/
def cstAt (P : Program) (ty : TypeId) : Value → V
  | .int k n => .t (.int k n)
  | .bool b => .t (.bool b)
  | .string s => .t (.str s.data.toList)
  | .slice none 0 0 => match elOf P ty with | some e => .nil (szOf P e) | none => .bad
  | .pointer none => .t .nilp
  | .nilFunc => .t .nilf
  | .nilIface => .t .nili
  | _ => .bad
/-- the types of a type's cells -/
def leafs (P : Program) : Nat → TypeId → List TypeId
  | 0, _ => []
  | n + 1, t => match P.underlying t with
    | some (.struct fs) => fs.toList.flatMap fun f => leafs P n f.type
    | _ => [t]
def isBad : V → Bool
  | .bad => true
  | _ => false
def cstAll (P : Program) : List Value → List TypeId → List V
  | v :: vs, t :: ts => cstAt P t v :: cstAll P vs ts
  | _ :: vs, [] => .bad :: cstAll P vs []
  | [], _ => []
/-- a type's zero value, cell by cell -/
def zeroOf (P : Program) (t : TypeId) : Option (List V) :=
  match P.info? t with
  | some inf => match inf.zero with
    | some z =>
      let cs := cstAll P z.cells.toList (leafs P 8 t)
      if z.cells.size == inf.size && !cs.any isBad then some cs else none
    | none => none
  | none => none
def cst (P : Program) (ty : TypeId) : Value → V
  | .agg cs => .agg (cstAll P cs.toList (leafs P 8 ty))
  | v => cstAt P ty v

def opv (P : Program) (e : Env) (ty : TypeId) : Operand → V
  | .tmp t => e t
  | .const v => cst P ty v
  | .func f => .t (.fn f [])
  | .global _ => .bad

/-! ### Small words -/
def cellsV : V → List V
  | .agg cs => cs
  | v => [v]
def packV (a : Bool) (cs : List V) : Option V :=
  if a then some (.agg cs) else match cs with
    | [v] => some v
    | _ => none
/-- a value of one cell that may be stored -/
def okCell : V → Bool
  | .t _ | .nil _ | .sl _ _ _ _ | .ptr _ _ _ | .fn _ _ => true
  | _ => false
def ofV : V → Option T
  | .t x => some x
  | _ => none
def allT : List V → Option (List T)
  | [] => some []
  | v :: vs => match v with
    | .t x => match allT vs with | some xs => some (x :: xs) | none => none
    | _ => none
/-- cells that nobody writes, a nil slice among them -/
def allZ : List V → Option (List T)
  | [] => some []
  | v :: vs => match v with
    | .t x => match allZ vs with | some xs => some (x :: xs) | none => none
    | .nil sz => match allZ vs with | some xs => some (.list sz [] :: xs) | none => none
    | _ => none
def getE {α : Type} (es : List α) (i : Int) : Option α := if 0 ≤ i then es[i.toNat]? else none
/-- as an argument or a result: no rows of the caller's own -/
def asArg : V → Option V
  | .t x => some (.t x)
  | .nil sz => some (.t (.list sz []))
  | .agg cs => match asArgs cs with | some cs' => some (.agg cs') | none => none
  | .tup cs => match asArgs cs with | some cs' => some (.tup cs') | none => none
  | .fn f caps => match allT caps with | some xs => some (.t (.fn f xs)) | none => none
  | _ => none
  where asArgs : List V → Option (List V)
  | [] => some []
  | v :: vs => match asArg v with | some x => (match asArgs vs with | some xs => some (x :: xs) | none => none) | none => none

/-- a slice of the call's own is given away: read alone from now on -/
def give (h : Heap) : V → Option (V × Heap)
  | .sl r off len _ => match h[r]? with
    | some (.ts sz es) => some (.t (.list sz ((es.drop off).take len)), h.set r (.fz sz es))
    | some (.fz sz es) => some (.t (.list sz ((es.drop off).take len)), h)
    | _ => none
  | .nil sz => some (.t (.list sz []), h)
  | .agg cs => match gives h cs with | some (cs', h') => some (.agg cs', h') | none => none
  | .tup cs => match gives h cs with | some (cs', h') => some (.tup cs', h') | none => none
  | .t x => some (.t x, h)
  | .fn f caps => match allT caps with | some xs => some (.t (.fn f xs), h) | none => none
  | _ => none
  where gives (h : Heap) : List V → Option (List V × Heap)
  | [] => some ([], h)
  | v :: vs => match give h v with
    | some (x, h') => (match gives h' vs with | some (xs, h'') => some (x :: xs, h'') | none => none)
    | none => none
def giveT (h : Heap) (vs : List V) : Option (List T × Heap) :=
  match give.gives h vs with
  | some (xs, h') => match allT xs with | some ts => some (ts, h') | none => none
  | none => none

/-! ### Memory -/
def ldCells (h : Heap) (r i j n : Nat) : Option (List V) :=
  match h[r]? with
  | some (.ts _ es) | some (.fz _ es) => match es[i]? with
    | some cs => if j + n ≤ cs.length then some (((cs.drop j).take n).map .t) else none
    | none => none
  | some (.vs _ es) => match es[i]? with
    | some cs => if j + n ≤ cs.length then some ((cs.drop j).take n) else none
    | none => none
  | _ => none
def splice {α : Type} (cs : List α) (j : Nat) (xs : List α) : List α := cs.take j ++ xs ++ cs.drop (j + xs.length)
def stCells (h : Heap) (r i j : Nat) (vs : List V) : Option Heap :=
  match h[r]? with
  | some (.vs sz es) => match es[i]? with
    | some cs => if j + vs.length ≤ cs.length then some (h.set r (.vs sz (es.set i (splice cs j vs)))) else none
    | none => none
  | some (.ts sz es) => match es[i]? with
    | some cs => if j + vs.length ≤ cs.length then
        match giveT h vs with
        | some (xs, h') => match h'[r]? with
          | some (.ts _ _) => some (h'.set r (.ts sz (es.set i (splice cs j xs))))
          | _ => none
        | none => none
      else none
    | none => none
  | _ => none
def blkSz : Blk → Option Nat
  | .ts sz _ | .vs sz _ | .fz sz _ => some sz
  | .dead => none
def blkN : Blk → Nat
  | .ts _ es | .fz _ es => es.length
  | .vs _ es => es.length
  | .dead => 0
def maxBytes : Nat := 140737488355328

/-! ### Operations -/
def ibits (op : BinOp) (k : IntKind) (x y : Int) : Option Int :=
  let a := BitVec.ofInt k.bits x
  let b := BitVec.ofInt k.bits y
  match op with
  | .and => some (k.wrap (a &&& b).toNat)
  | .or => some (k.wrap (a ||| b).toNat)
  | .xor => some (k.wrap (a ^^^ b).toNat)
  | .andNot => some (k.wrap (a &&& ~~~b).toNat)
  | _ => none
def ishift (op : BinOp) (k : IntKind) (x y : Int) : Option Int :=
  if y < 0 then none else
  match op with
  | .shl => some (k.wrap (x * 2 ^ (min y.toNat k.bits)))
  | .shr => some (x.fdiv (2 ^ (min y.toNat k.bits)))
  | _ => none
def ibin (op : BinOp) (k : IntKind) (x y : Int) : Option T :=
  match op with
  | .add => some (.int k (k.wrap (x + y)))
  | .sub => some (.int k (k.wrap (x - y)))
  | .mul => some (.int k (k.wrap (x * y)))
  | .quo => if y = 0 then none else some (.int k (k.wrap (x.tdiv y)))
  | .rem => if y = 0 then none else some (.int k (x.tmod y))
  | .eql => some (.bool (x == y))
  | .neq => some (.bool (x != y))
  | .lss => some (.bool (decide (x < y)))
  | .leq => some (.bool (decide (x ≤ y)))
  | .gtr => some (.bool (decide (x > y)))
  | .geq => some (.bool (decide (x ≥ y)))
  | op => (ibits op k x y).map (.int k)
def sbin (op : BinOp) (x y : List UInt8) : Option T :=
  match op with
  | .add => if x.length + y.length ≤ 9223372036854775807 then some (.str (x ++ y)) else none
  | .eql => some (.bool (x == y))
  | .neq => some (.bool (!(x == y)))
  | .lss => some (.bool (Op.bytesLess x y))
  | .leq => some (.bool (Op.bytesLess x y || x == y))
  | .gtr => some (.bool (!(Op.bytesLess x y || x == y)))
  | .geq => some (.bool (!(Op.bytesLess x y)))
  | _ => none
def isShift : BinOp → Bool
  | .shl | .shr => true
  | _ => false
/-- is a slice nil? -/
def nilEq (op : BinOp) (b : Bool) : Option V :=
  match op with
  | .eql => some (.t (.bool b))
  | .neq => some (.t (.bool !b))
  | _ => none
def bin (P : Program) (op : BinOp) (ty : TypeId) : V → V → Option V
  | .t (.int k x), .t (.int k' y) =>
    if isShift op then (ishift op k x y).map (fun n => .t (.int k n))
    else if k = k' then (ibin op k x y).map .t else none
  | .t (.str x), .t (.str y) => (sbin op x y).map .t
  | .t (.bool x), .t (.bool y) => if isBoolT P ty then (match op with
    | .eql => some (.t (.bool (x == y)))
    | .neq => some (.t (.bool (!(x == y))))
    | _ => none) else none
  | .t (.nlist b _ _), .nil _ => if isSl P ty then nilEq op b else none
  | .nil _, .nil _ => if isSl P ty then nilEq op true else none
  | _, _ => none
def isIf (P : Program) (t : TypeId) : Bool := match P.underlying t with | some (.interface _) => true | _ => false
def isC : Operand → Bool
  | .const _ => true
  | _ => false
/-- as 'bin'; an interface asked whether it is nil -/
def binO (P : Program) (op : BinOp) (ty : TypeId) (y : Operand) (v1 v2 : V) : Option V :=
  match v1, v2 with
  | .t .nni, .t .nili => if isIf P ty then nilEq op false else none
  | .t .nili, .t .nili => if isIf P ty && isC y then nilEq op true else none
  | v1, v2 => bin P op ty v1 v2
def una (op : UnOp) : V → Option V
  | .t (.bool b) => match op with | .not => some (.t (.bool !b)) | _ => none
  | .t (.int k n) => match op with
    | .neg => some (.t (.int k (k.wrap (0 - n))))
    | .xor => (ibits .xor k (if k.signed then -1 else k.max) n).map fun m => .t (.int k m)
    | _ => none
  | _ => none

/-- 's[lo:hi:mx]' -/
def bndV (dflt mx : Nat) : Option V → Option Nat
  | none => some dflt
  | some (.t (.int _ n)) => if 0 ≤ n ∧ n ≤ mx then some n.toNat else none
  | _ => none
def cutB (len : Nat) (lo hi : Option V) : Option (Nat × Nat) :=
  match bndV len len hi with
  | some h => match bndV 0 h lo with
    | some l => some (l, h)
    | none => none
  | none => none
def cut (P : Program) (ty : TypeId) (x : V) (lo hi mx : Option V) (h : Heap) : Option V :=
  match x with
  | .t (.str l) => if isStr P ty && mx.isNone then (match cutB l.length lo hi with | some (a, b) => some (.t (.str ((l.drop a).take (b - a)))) | none => none) else none
  | .t (.list sz es) => match elOf P ty with
    | some el => if (sz == szOf P el || es.isEmpty) && mx.isNone then (match cutB es.length lo hi with | some (a, b) => some (.t (.list sz ((es.drop a).take (b - a)))) | none => none) else none
    | none => none
  | .sl r off len cap => match elOf P ty with
    | some el => if (h[r]?.bind blkSz) == some (szOf P el) then
        match mx with
        | none => (match cutB len lo hi with | some (a, b) => some (.sl r (off + a) (b - a) (cap.map (· - a))) | none => none)
        | some (.t (.int _ m)) => if 0 ≤ m ∧ m ≤ len then (match hi with
            | none => none
            | some _ => match cutB m.toNat lo hi with | some (a, b) => some (.sl r (off + a) (b - a) (some (m.toNat - a))) | none => none) else none
        | _ => none
      else none
    | none => none
  | _ => none
def idxAddr (P : Program) (ty : TypeId) (x i : V) (h : Heap) : Option V :=
  match i with
  | .t (.int _ n) => match elOf P ty with
    | some el => match x with
      | .t (.list sz es) => if sz == szOf P el then (match getE es n with | some cs => some (.t (.fp cs)) | none => none) else none
      | .sl r off len _ => if (h[r]?.bind blkSz) == some (szOf P el) && decide (0 ≤ n) && decide (n < len) then some (.ptr r (off + n.toNat) 0) else none
      | _ => none
    | none => none
  | _ => none
/-- a pointer that is not nil -/
def nilC : V → Option V
  | .ptr r i j => some (.ptr r i j)
  | .t (.fp cs) => some (.t (.fp cs))
  | _ => none
def fldAddr (P : Program) (s : TypeId) (x : V) (i : Nat) : Option V :=
  match fOf P s i with
  | some (o, _, _) => match x with
    | .ptr r a j => some (.ptr r a (j + o))
    | .t (.fp cs) => if o ≤ cs.length then some (.t (.fp (cs.drop o))) else none
    | _ => none
  | none => none
def fld (P : Program) (s : TypeId) (x : V) (i : Nat) : Option V :=
  match fOf P s i with
  | some (o, n, a) => match x with
    | .agg cs => if o + n ≤ cs.length then packV a ((cs.drop o).take n) else none
    | _ => none
  | none => none
def load (P : Program) (ty : TypeId) (x : V) (h : Heap) : Option V :=
  match x with
  | .ptr r i j => if known P ty then (match ldCells h r i j (szOf P ty) with | some cs => packV (aggOf P ty) cs | none => none) else none
  | .t (.fp cs) => if known P ty ∧ szOf P ty ≤ cs.length then packV (aggOf P ty) ((cs.take (szOf P ty)).map .t) else none
  | _ => none
def store (P : Program) (ty : TypeId) (x v : V) (h : Heap) : Option Heap :=
  match x with
  | .ptr r i j => if known P ty ∧ (cellsV v).length = szOf P ty ∧ (cellsV v).all okCell = true then stCells h r i j (cellsV v) else none
  | _ => none
/-- a struct's literal: the zero value with parts laid over it -/
def fillV (P : Program) (s : TypeId) : List V → List (Nat × V) → Option (List V)
  | cs, [] => some cs
  | cs, (i, v) :: rest => match fOf P s i with
    | some (o, n, _) => if (cellsV v).length = n ∧ o + n ≤ cs.length ∧ (cellsV v).all okCell = true then fillV P s (splice cs o (cellsV v)) rest else none
    | none => none
/-- a slice's literal: every element named, in order -/
def fillS (sz : Nat) : Nat → List (Nat × V) → Option (List (List V))
  | _, [] => some []
  | n, (i, v) :: rest => if i = n ∧ (cellsV v).length = sz ∧ (cellsV v).all okCell = true then (match fillS sz (n + 1) rest with | some r => some (cellsV v :: r) | none => none) else none
def giveTs (h : Heap) : List (List V) → Option (List (List T) × Heap)
  | [] => some ([], h)
  | c :: cs => match giveT h c with
    | some (x, h') => (match giveTs h' cs with | some (xs, h'') => some (x :: xs, h'') | none => none)
    | none => none
def bytesOf : List (List T) → Option (List Int)
  | [] => some []
  | c :: r => match c with
    | [.int .u8 n] => match bytesOf r with | some l => some (n :: l) | none => none
    | _ => none
def bytesElem (P : Program) (src : TypeId) : Bool :=
  match elOf P src with
  | some el => isInt P el == some .u8 && szOf P el == 1
  | none => false
def conv (P : Program) (src dst : TypeId) (x : V) (h : Heap) : Option V :=
  match isInt P dst with
  | some k => match x with
    | .t (.int _ n) => if known P src then some (.t (.int k (k.wrap n))) else none
    | _ => none
  | none => if isStr P dst then (match x with
    | .t (.str l) => if known P src then some (.t (.str l)) else none
    | .sl r off len _ => if bytesElem P src then (match h[r]? with
      | some (.ts 1 es) => match bytesOf ((es.drop off).take len) with | some l => some (.t (.str (l.map fun n => UInt8.ofNat n.toNat))) | none => none
      | some (.fz 1 es) => match bytesOf ((es.drop off).take len) with | some l => some (.t (.str (l.map fun n => UInt8.ofNat n.toNat))) | none => none
      | _ => none) else none
    | .nil _ => if bytesElem P src then some (.t (.str [])) else none
    | .t (.list 1 es) => if bytesElem P src then (match bytesOf es with | some l => some (.t (.str (l.map fun n => UInt8.ofNat n.toNat))) | none => none) else none
    | _ => none) else none

def lenV (P : Program) (ty : TypeId) (x : V) : Option Nat :=
  if isStr P ty then (match x with
    | .t (.str l) => some l.length
    | _ => none)
  else if isSl P ty then (match x with
    | .t (.list _ es) => some es.length
    | .nil _ => some 0
    | .sl _ _ len _ => some len
    | _ => none)
  else none
/-- what is appended: elements that nobody writes -/
def srcOf0 (P : Program) (el tx : TypeId) (x : V) (h : Heap) : Option (List (List T)) :=
  match elOf P tx with
  | some _ => match x with
    | .t (.list sz es) => if sz == szOf P el || es.isEmpty then some es else none
    | .nil _ => some []
    | .sl r off len _ => match h[r]? with
      | some (.ts sz es) => if sz == szOf P el then some ((es.drop off).take len) else none
      | some (.fz sz es) => if sz == szOf P el then some ((es.drop off).take len) else none
      | _ => none
    | _ => none
  | none => match x with
    | .t (.str l) => if isStr P tx ∧ szOf P el = 1 then some (l.map fun b => [.int .u8 (b.toNat : Int)]) else none
    | _ => none
def unN : V → V
  | .t (.nlist _ sz es) => .t (.list sz es)
  | v => v
def srcOf (P : Program) (el tx : TypeId) (x : V) (h : Heap) : Option (List (List T)) := srcOf0 P el tx (unN x) h
/-- where a new row goes: behind all others, or to a number kept for it -/
def nI (N : Option Nat) (h : Heap) : Nat := match N with | none => h.length | some i => i
def nH (N : Option Nat) (h : Heap) (b : Blk) : Heap := match N with | none => h ++ [b] | some i => h.set i b
/-- append: a row that may have been made longer in place, or made anew: its elder names are gone -/
def app (P : Program) (N : Option Nat) (ty tx : TypeId) (s x : V) (h : Heap) : Option (V × Heap) :=
  match elOf P ty with
  | none => none
  | some el => match srcOf P el tx x h with
    | none => none
    | some xs => match s with
      | .nil sz => if sz = szOf P el ∧ 0 < sz ∧ xs.length * (2 * P.bytesOf el) ≤ maxBytes ∧ xs.length ≤ maxBytes ∧ (zeroOf P el).isSome = true then some (.sl (nI N h) 0 xs.length none, nH N h (.ts sz xs)) else none
      | .sl r off len cap => match h[r]? with
        | some (.ts sz es) =>
          if sz = szOf P el ∧ 0 < sz ∧ off + len = es.length ∧ (len + xs.length) * (2 * P.bytesOf el) ≤ maxBytes ∧ len + xs.length ≤ maxBytes ∧ (zeroOf P el).isSome = true then
            some (.sl (nI N h) 0 (len + xs.length) none, nH N (h.set r .dead) (.ts sz (es.drop off ++ xs)))
          else none
        | _ => none
      | _ => none

/-! ### Rows under other numbers -/
/-- values under new numbers of rows; what has none is lost -/
def ren (m : Nat → Option Nat) : V → V
  | .sl r off len cap => match m r with | some r' => .sl r' off len cap | none => .bad
  | .ptr r i j => match m r with | some r' => .ptr r' i j | none => .bad
  | .agg cs => .agg (rens m cs)
  | .tup cs => .tup (rens m cs)
  | .fn f cs => .fn f (rens m cs)
  | v => v
  where rens (m : Nat → Option Nat) : List V → List V
  | [] => []
  | v :: vs => ren m v :: rens m vs
/-- the rows that values name, in order -/
def refs : V → List Nat
  | .sl r _ _ _ => [r]
  | .ptr r _ _ => [r]
  | .agg cs => refss cs
  | .tup cs => refss cs
  | .fn _ cs => refss cs
  | _ => []
  where refss : List V → List Nat
  | [] => []
  | v :: vs => refs v ++ refss vs
def nodups : List Nat → List Nat → List Nat
  | seen, [] => seen
  | seen, r :: rs => if r ∈ seen then nodups seen rs else nodups (seen ++ [r]) rs
def blkRefs (h : Heap) (r : Nat) : List Nat :=
  match h[r]? with
  | some (.vs _ es) => es.flatMap refs.refss
  | _ => []
/-- the first m rows stay; then those that the values name, and what is named inside them -/
def reach (h : Heap) : Nat → List Nat → List Nat
  | 0, ids => ids
  | n + 1, ids => reach h n (nodups ids (ids.flatMap (blkRefs h)))
def idx (ids : List Nat) (r : Nat) : Option Nat := if ids.idxOf r < ids.length then some (ids.idxOf r) else none
def renB (m : Nat → Option Nat) : Blk → Blk
  | .vs sz es => .vs sz (es.map (ren.rens m))
  | b => b
def packH (m : Nat) (vals : List V) (h : Heap) : List V × Heap :=
  let ids := reach h 3 (nodups (List.range m) (refs.refss vals))
  (ren.rens (idx ids) vals, ids.map fun r => renB (idx ids) (h[r]?.getD .dead))


/-! ### Calls -/
/-- requests: a call whose answer is given away; a call on the caller's own rows; a loop -/
inductive Req where
  | call (f : Nat) (args : List V) (h : Heap)
  | callO (gv : Bool) (f : Nat) (args : List V) (h : Heap)
  | loop (f : Nat) (path m : Nat) (vals : List V) (h : Heap)
inductive Exi where
  | normal
  | exit (id : Nat)
  | ret
inductive Resp where
  | call (v : V) (h : Heap)
  | loop (e : Exi) (vals : List V) (h : Heap)
abbrev Rec := Req → Option Resp

inductive PM where
  | pure
  | frz
  | opn (gv : Bool)
/-- how calls hand on their arguments; what is shown by other means (ext); which slots a loop keeps (path: 1, then 2p and 2p+1 down the code) -/

structure Pol where
  pm : Nat → Nat → PM
  live : Nat → Nat → List Nat
  outs : Nat → Nat → List Nat
  no : Nat → Bool
  dr : Nat → Bool
  ext : Nat → List V → Option V := fun _ _ => none
  extO : Nat → List V → Heap → Option (V × Heap) := fun _ _ _ => none

def callPure (rec : Rec) (g : Nat) (args : List V) : Option V :=
  match rec (.call g args []) with
  | some (.call v []) => some v
  | _ => none
/-- values as they are now: rows read, which nobody writes while the callee runs -/
def snapC (h : Heap) : V → Option T
  | .t x => some x
  | .nil sz => some (.list sz [])
  | .sl r off len _ => match h[r]? with
    | some (.ts sz es) => some (.list sz ((es.drop off).take len))
    | some (.fz sz es) => some (.list sz ((es.drop off).take len))
    | _ => none
  | _ => none
def snapCs (h : Heap) : List V → Option (List T)
  | [] => some []
  | v :: vs => match snapC h v with | some x => (match snapCs h vs with | some xs => some (x :: xs) | none => none) | none => none
def snapE (h : Heap) : List (List V) → Option (List (List T))
  | [] => some []
  | c :: cs => match snapCs h c with | some x => (match snapE h cs with | some xs => some (x :: xs) | none => none) | none => none
def snapP (h : Heap) (b : Option Blk) (i j : Nat) : Option V :=
  match b with
  | some (.ts _ es) => match es[i]? with | some cs => some (.t (.fp (cs.drop j))) | none => none
  | some (.fz _ es) => match es[i]? with | some cs => some (.t (.fp (cs.drop j))) | none => none
  | some (.vs _ es) => match es[i]? with | some cs => (match snapCs h (cs.drop j) with | some xs => some (.t (.fp xs)) | none => none) | none => none
  | _ => none
def snapS (h : Heap) (b : Option Blk) (off len : Nat) : Option V :=
  match b with
  | some (.ts sz es) => some (.t (.list sz ((es.drop off).take len)))
  | some (.fz sz es) => some (.t (.list sz ((es.drop off).take len)))
  | some (.vs sz es) => match snapE h ((es.drop off).take len) with | some xs => some (.t (.list sz xs)) | none => none
  | _ => none
def snapV (h : Heap) : V → Option V
  | .t x => some (.t x)
  | .nil sz => some (.t (.list sz []))
  | .sl r off len _ => snapS h h[r]? off len
  | .ptr r i j => snapP h h[r]? i j
  | .agg cs => match snapVs h cs with | some cs' => some (.agg cs') | none => none
  | .tup cs => match snapVs h cs with | some cs' => some (.tup cs') | none => none
  | .fn f caps => match snapVs h caps with | some cs' => (match allT cs' with | some xs => some (.t (.fn f xs)) | none => none) | none => none
  | _ => none
  where snapVs (h : Heap) : List V → Option (List V)
  | [] => some []
  | v :: vs => match snapV h v with | some x => (match snapVs h vs with | some xs => some (x :: xs) | none => none) | none => none
/-- no memory in it -/
def flatT : T → Bool
  | .int _ _ | .bool _ | .str _ | .nilp | .nilf | .nili | .nni => true
  | .list _ es => es.isEmpty
  | _ => false
def flatV : V → Bool
  | .t x => flatT x
  | .agg cs => flatVs cs
  | .tup cs => flatVs cs
  | _ => false
  where flatVs : List V → Bool
  | [] => true
  | v :: vs => flatV v && flatVs vs
/-- the rows that an open call sees, and their way back -/
def openIds (h : Heap) (args : List V) : List Nat := reach h 3 (nodups [] (refs.refss args))
def liveB (h : Heap) (k : Nat) : Bool := match h[k]? with | some .dead => false | some _ => true | none => false
def backN (ids : List Nat) (h : Heap) (r : Nat) : Option Nat :=
  if r < ids.length then (match ids[r]? with | some k => if liveB h k then some k else none | none => none) else some (h.length + (r - ids.length))
def layBack (mp : Nat → Option Nat) (h0 : Heap) : List Nat → Heap → Heap → Heap
  | i :: is, b :: bs, h => layBack mp h0 is bs (if liveB h0 i then h.set i (renB mp b) else h)
  | _, _, h => h
def openBack (N : Option Nat) (ids : List Nat) (v : V) (h1 h : Heap) : Option (V × Heap) :=
  if decide (h1.length < ids.length) || (N.isSome && decide (ids.length < h1.length)) then none else
  some (ren (backN ids h) v, layBack (backN ids h) h ids h1 h ++ (h1.drop ids.length).map (renB (backN ids h)))
def callOp (pol : Pol) (rec : Rec) (f : Nat) (N : Option Nat) (dst : Option Nat) (g : Nat) (args : List V) (h : Heap) : Option (V × Heap) :=
  match pol.pm f (dst.getD 0) with
  | .pure => match asArg.asArgs args with
    | some as => match callPure rec g as with | some v => some (v, h) | none => none
    | none => match snapV.snapVs h args with
      | some as => match callPure rec g as with | some v => if flatV v then some (v, h) else none | none => none
      | none => none
  | .frz => match give.gives h args with
    | some (as, h') => match callPure rec g as with | some v => some (v, h') | none => none
    | none => none
  | .opn gv => match rec (.callO gv g (packH 0 args h).1 (packH 0 args h).2) with
    | some (.call v h1) => openBack N (openIds h args) v h1 h
    | _ => none
def fnV : V → Option (Nat × List V)
  | .t (.fn f caps) => some (f, caps.map .t)
  | .fn f caps => some (f, caps)
  | _ => none
def opvs (P : Program) (e : Env) : List Operand → List TypeId → List V
  | x :: xs, t :: ts => opv P e t x :: opvs P e xs ts
  | x :: xs, [] => opv P e 0 x :: opvs P e xs []
  | [], _ => []
def opvO (P : Program) (e : Env) : Option Operand → Option V
  | some x => some (opv P e 0 x)
  | none => none
def partsV (P : Program) (e : Env) (ty : Nat → TypeId) : List (Nat × Operand) → List (Nat × V)
  | [] => []
  | (i, x) :: r => (i, opv P e (ty i) x) :: partsV P e ty r
def fTy (P : Program) (s : TypeId) (i : Nat) : TypeId :=
  match P.underlying s with
  | some (.struct fs) => match fs[i]? with | some f => f.type | none => 0
  | _ => 0
def blt (P : Program) (N : Option Nat) (b : Builtin) (tys : List TypeId) (args : List V) (h : Heap) : Option (V × Heap) :=
  match b, args with
  | .len, [x] => match tys with
    | [t] => match lenV P t x with | some n => some (.t (.int .i64 n), h) | none => none
    | _ => none
  | .append, [s, x] => match tys with
    | [t, u] => app P N t u s x h
    | _ => none
  | .min, [.t (.int k x), .t (.int k' y)] => if k = k' then some (.t (.int k (if y < x then y else x)), h) else none
  | .max, [.t (.int k x), .t (.int k' y)] => if k = k' then some (.t (.int k (if y > x then y else x)), h) else none
  | _, _ => none

def evOp (P : Program) (pol : Pol) (rec : Rec) (f : Nat) (N : Option Nat) (o : Oper) (e : Env) (h : Heap) : Option (V × Heap) :=
  match o.op with
  | .move x | .assign x => some (opv P e o.type x, h)
  | .pick c a b => match opv P e 0 c with
    | .t (.bool t) => some (if t then opv P e o.type a else opv P e o.type b, h)
    | _ => none
  | .alloc t => match zeroOf P t with
    | some zs => if zs.isEmpty then none else some (.ptr (nI N h) 0 0, nH N h (.vs zs.length [zs]))
    | none => none
  | .box t x => let cs := cellsV (opv P e t x); if cs.isEmpty || !cs.all okCell then none else some (.ptr (nI N h) 0 0, nH N h (.vs cs.length [cs]))
  | .build t parts => if strOK P t then (match zeroOf P t with
      | some zs => match fillV P t zs (partsV P e (fTy P t) parts.toList) with | some cs => some (.agg cs, h) | none => none
      | none => none) else none
  | .buildSlice t len parts => match elOf P t with
    | some el => if szOf P el = 0 ∨ len * szOf P el > 16777216 ∨ parts.size ≠ len ∨ (zeroOf P el).isNone = true then none else
      match fillS (szOf P el) 0 (partsV P e (fun _ => el) parts.toList) with
      | some css => match giveTs h css with
        | some (es, h') => some (.sl (nI N h') 0 len (some len), nH N h' (.ts (szOf P el) es))
        | none => none
      | none => none
    | none => none
  | .load t a => match load P t (opv P e 0 a) h with | some v => some (v, h) | none => none
  | .store t a x => match store P t (opv P e 0 a) (opv P e t x) h with | some h' => some (.und, h') | none => none
  | .binOp op t x y u => match binO P op t y (opv P e t x) (opv P e u y) with | some v => some (v, h) | none => none
  | .unOp op t x => match una op (opv P e t x) with | some v => some (v, h) | none => none
  | .convert src dst x => match conv P src dst (opv P e src x) h with | some v => some (v, h) | none => none
  | .makeFunc (.func g) first caps => if first.size = 0 then some (.fn g (opvs P e caps.toList []), h) else none
  | .makeSlice t l c => match elOf P t, opv P e 0 l, opv P e 0 c with
    | some el, .t (.int _ n), .t (.int _ m) => match zeroOf P el with
      | some zs => match allZ zs with
        | some z => if szOf P el = 0 ∨ n < 0 ∨ n ≠ m ∨ n.toNat * P.bytesOf el > maxBytes ∨ n.toNat > maxBytes then none else
          some (.sl (nI N h) 0 n.toNat (some n.toNat), nH N h (.ts (szOf P el) (List.replicate n.toNat z)))
        | none => none
      | none => none
    | _, _, _ => none
  | .slice t x lo hi mx => match cut P t (opv P e t x) (opvO P e lo) (opvO P e hi) (opvO P e mx) h with | some v => some (v, h) | none => none
  | .nilCheck x => match nilC (opv P e 0 x) with | some v => some (v, h) | none => none
  | .fieldAddr s x i => match fldAddr P s (opv P e 0 x) i with | some v => some (v, h) | none => none
  | .field s x i => match fld P s (opv P e s x) i with | some v => some (v, h) | none => none
  | .indexAddr t x i => match idxAddr P t (opv P e t x) (opv P e 0 i) h with | some v => some (v, h) | none => none
  | .index t x i => match opv P e t x, opv P e 0 i with
    | .t (.str l), .t (.int _ n) => if isStr P t then (match getE l n with | some b => some (.t (.int .u8 (b.toNat : Int)), h) | none => none) else none
    | _, _ => none
  | .extract x i => match opv P e 0 x with
    | .tup vs => match vs[i]? with | some v => some (v, h) | none => none
    | _ => none
  | .call c => match c.callee with
    | .builtin b => blt P N b c.argTypes.toList (opvs P e c.args.toList c.argTypes.toList) h
    | .value x => match fnV (opv P e 0 x) with
      | some (g, caps) => callOp pol rec f N o.dst g (opvs P e c.args.toList c.argTypes.toList ++ caps) h
      | none => none
    | .invoke _ _ => none
  | _ => none

/-! ### Regions, code -/
/-- is the operation wanted? -/
def want (ops : Array Oper) (o : Oper) (e : Env) : Option Bool :=
  match o.guard with
  | none => some true
  | some (j, b) => match (ops[j]?).bind (·.dst) with
    | some d => match e d with
      | .t (.bool c) => some (c == b)
      | .und => some false
      | _ => none
    | none => none
def evOne (P : Program) (pol : Pol) (rec : Rec) (f : Nat) (N : Option Nat) (ops : Array Oper) (o : Oper) (e : Env) (h : Heap) : Option (Env × Heap) :=
  match want ops o e with
  | some true => match evOp P pol rec f N o e h with | some (v, h') => some (put e o.dst v, h') | none => none
  | some false => some (put e o.dst .und, h)
  | none => none
def evOps (P : Program) (pol : Pol) (rec : Rec) (f : Nat) (ops : Array Oper) : List Oper → Env → Heap → Option (Env × Heap)
  | [], e, h => some (e, h)
  | o :: rest, e, h => match evOne P pol rec f none ops o e h with
    | some (e', h') => evOps P pol rec f ops rest e' h'
    | none => none

/-- operations that leave the rows as they are -/
def nonW (pol : Pol) (f : Nat) (o : Oper) : Bool :=
  match o.op with
  | .move _ | .assign _ | .pick _ _ _ | .load _ _ | .binOp _ _ _ _ _ | .unOp _ _ _ | .convert _ _ _ | .slice _ _ _ _ _ | .nilCheck _ | .fieldAddr _ _ _ | .field _ _ _ | .indexAddr _ _ _ | .index _ _ _ | .extract _ _ | .build _ _ => true
  | .call c => match c.callee with
    | .builtin b => (match b with | .len => true | .min => true | .max => true | _ => false)
    | .value _ => (match pol.pm f (o.dst.getD 0) with | .pure => true | _ => false)
    | .invoke _ _ => false
  | _ => false
/-- edges that point to what stands ahead; what does not wait is apart -/
def pairsOK (ops : Array Oper) : Bool :=
  (List.range ops.size).all fun j => match ops[j]? with
    | some oj => (oj.after.all fun e => !Region.binds .any e || decide (e.on < j)) && (List.range j).all fun i => match ops[i]? with
      | some oi => (oj.after.any fun e => Region.binds .any e && e.on == i) || oi.apart ops oj
      | none => true
    | none => true
/-- a region whose order is open: all of its orders come to the same -/
def drawOK (P : Program) (ops : Array Oper) : Bool := P.follows .mixedOrders && pairsOK ops
def drOK (P : Program) (pol : Pol) (f : Nat) (ops : Array Oper) : Bool := !pol.dr f || drawOK P ops
/-- operations that lay a new row, or may write rows of theirs alone -/
def isNew (pol : Pol) (f : Nat) (o : Oper) : Bool :=
  match o.op with
  | .alloc _ | .box _ _ | .buildSlice _ _ _ | .makeSlice _ _ _ => true
  | .call c => match c.callee with
    | .builtin b => (match b with | .append => true | _ => false)
    | .value _ => (match pol.pm f (o.dst.getD 0) with | .opn _ => true | _ => false)
    | .invoke _ _ => false
  | _ => false
/-- the numbers kept for their rows -/
def nids (pol : Pol) (f : Nat) : Nat → List Oper → List (Option Nat)
  | _, [] => []
  | b, o :: r => if isNew pol f o then some b :: nids pol f (b + 1) r else none :: nids pol f b r
def cntNew (pol : Pol) (f : Nat) : List Oper → Nat
  | [] => 0
  | o :: r => if isNew pol f o then cntNew pol f r + 1 else cntNew pol f r
/-- the rows that an operation may touch -/
def footX (e : Env) : List Operand → List Nat
  | [] => []
  | .tmp t :: r => refs (e t) ++ footX e r
  | _ :: r => footX e r
/-- calls look through rows -/
def isDeep (o : Oper) : Bool :=
  match o.op with
  | .call c => match c.callee with
    | .value _ => true
    | _ => false
  | _ => false
def footD (deep : Bool) (ids : List Nat) (h : Heap) : List Nat := if deep then reach h 3 (nodups [] ids) else ids
def foot (N : Option Nat) (o : Oper) (e : Env) (h : Heap) : List Nat := (match N with | some i => [i] | none => []) ++ footD (isDeep o) (footX e o.op.operands.toList) h
def evD (P : Program) (pol : Pol) (rec : Rec) (f : Nat) (ops : Array Oper) : List (Option Nat) → List Oper → Env → Heap → Option (List (List Nat) × Env × Heap)
  | [], [], e, h => some ([], e, h)
  | N :: Ns, o :: rest, e, h => match evOne P pol rec f N ops o e h with
    | some (e', h') => match evD P pol rec f ops Ns rest e' h' with
      | some (fs, e'', h'') => some (foot N o e h :: fs, e'', h'')
      | none => none
    | none => none
  | _, _, _, _ => none
def soft (pol : Pol) (f : Nat) (o : Oper) : Bool := nonW pol f o || isNew pol f o
def disj (xs ys : List Nat) : Bool := xs.all fun r => !ys.contains r
/-- one waits for another, by some steps -/
def pathB (ops : Array Oper) : Nat → Nat → Nat → Bool
  | 0, _, _ => false
  | n + 1, i, j => match ops[j]? with
    | some oj => oj.after.any fun e => Region.binds .any e && (e.on == i || pathB ops n i e.on)
    | none => false
/-- two operations that may change places -/
def pairOK (pol : Pol) (f : Nat) (ops : Array Oper) (oi oj : Oper) (i j : Nat) (fi fj : List Nat) : Bool :=
  (oj.after.any fun e => Region.binds .any e && e.on == i) || ((soft pol f oi && soft pol f oj && ((nonW pol f oi && nonW pol f oj) || disj fi fj)) || pathB ops 3 i j)
def dynOK (pol : Pol) (f : Nat) (ops : Array Oper) (fps : List (List Nat)) : Bool :=
  (List.range ops.size).all fun j => match ops[j]? with
    | some oj => (List.range j).all fun i => match ops[i]? with
      | some oi => pairOK pol f ops oi oj i j (fps.getD i []) (fps.getD j [])
      | none => true
    | none => true
def evDraw (P : Program) (pol : Pol) (rec : Rec) (f : Nat) (ops : Array Oper) (e : Env) (h : Heap) : Option (Env × Heap) :=
  match evD P pol rec f ops (nids pol f h.length ops.toList) ops.toList e (h ++ List.replicate (cntNew pol f ops.toList) .dead) with
  | some (fps, e', h') => if dynOK pol f ops fps then some (e', h') else none
  | none => none

def mkEnv : List Nat → List V → Env
  | s :: ss, v :: vs => upd (mkEnv ss vs) s v
  | _, _ => fun _ => .bad

/-- code: an exit, the slots, the rows. m: how many rows came in -/
def evC (P : Program) (pol : Pol) (rec : Rec) (f : Nat) (m : Nat) : Code → Nat → Env → Heap → Option (Exi × Env × Heap)
  | .skip, _, e, h => some (.normal, e, h)
  | .seq a b, p, e, h => match evC P pol rec f m a (2 * p) e h with
    | some (.normal, e', h') => evC P pol rec f m b (2 * p + 1) e' h'
    | r => r
  | .cond c a b, p, e, h => match opv P e 0 c with
    | .t (.bool t) => if t then evC P pol rec f m a (2 * p) e h else evC P pol rec f m b (2 * p + 1) e h
    | _ => none
  | .block id c, p, e, h => match evC P pol rec f m c (2 * p) e h with
    | some (.exit id', e', h') => if id' = id then some (.normal, e', h') else some (.exit id', e', h')
    | r => r
  | .loop _, p, e, h =>
    let q := packH m ((pol.live f p).map e) h
    match rec (.loop f p m q.1 q.2) with
    | some (.loop x vals h') => some (x, mkEnv (pol.outs f p) vals, h')
    | _ => none
  | .exit id, _, e, h => some (.exit id, e, h)
  | .ret, _, e, h => some (.ret, e, h)
  | .region _ ops draw, _, e, h =>
    if draw && !pol.dr f then none else
    match (if draw && !(ops.toList.all (nonW pol f)) then evDraw P pol rec f ops e h else evOps P pol rec f ops ops.toList e h) with
    | some (e', h') => some (.normal, e', h')
    | none => none
  | _, _, _, _ => none

/-- the code at a path -/
def codeAt : Code → List Bool → Option Code
  | c, [] => some c
  | .seq a b, d :: ds => codeAt (if d then b else a) ds
  | .cond _ a b, d :: ds => codeAt (if d then b else a) ds
  | .block _ c, _ :: ds => codeAt c ds
  | .loop c, _ :: ds => codeAt c ds
  | _, _ => none
/-- a path's turns -/
def turnsF : Nat → Nat → List Bool
  | 0, _ => []
  | n + 1, p => if p ≤ 1 then [] else turnsF n (p / 2) ++ [p % 2 == 1]
def turns (p : Nat) : List Bool := turnsF p p

/-- a function's results -/
def resV (P : Program) (e : Env) (h : Heap) : List ResultVar → Option (List V)
  | [] => some []
  | .tmp t :: r => match resV P e h r with | some vs => some (e t :: vs) | none => none
  | .cell a t :: r => match load P t (e a) h with
    | some v => (match resV P e h r with | some vs => some (v :: vs) | none => none)
    | none => none
def tupV : List V → V
  | [v] => v
  | vs => .tup vs

/-- an open call's answer: given away, or with its new rows -/
def retO (gv : Bool) (m : Nat) (r : Option (List V)) (h : Heap) : Option Resp :=
  match r with
  | some vs => if gv then (match give h (tupV vs) with
      | some (v, h') => some (.call v (packH m [] h').2)
      | none => none)
    else some (.call (tupV (packH m vs h).1) (packH m vs h).2)
  | none => none
def step (P : Program) (pol : Pol) (rec : Rec) : Req → Option Resp
  | .call f args h => match pol.ext f args with
    | some v => if h.isEmpty then some (.call v []) else none
    | none => match P.funcs[f]? with
    | some fn => match fn.body with
      | some c =>
        if pol.no f || fn.name == "runtime.NumGoroutine" || decide (fn.ntmps < args.length) then none else
        match evC P pol rec f h.length c 1 (mkEnv (List.range args.length) args) h with
        | some (.normal, e', h') | some (.ret, e', h') => match resV P e' h' fn.results.toList with
          | some vs => match give h' (tupV vs) with
            | some (v, h'') => some (.call v (h''.take h.length))
            | none => none
          | none => none
        | _ => none
      | none => none
    | none => none
  | .callO gv f args h => match pol.extO f args h with
    | some x => if gv then none else some (.call x.1 x.2)
    | none => match P.funcs[f]? with
    | some fn => match fn.body with
      | some c =>
        if pol.no f || fn.name == "runtime.NumGoroutine" || decide (fn.ntmps < args.length) then none else
        match evC P pol rec f h.length c 1 (mkEnv (List.range args.length) args) h with
        | some (.normal, e', h') | some (.ret, e', h') => retO gv h.length (resV P e' h' fn.results.toList) h'
        | _ => none
      | none => none
    | none => none
  | .loop f p m vals h => match P.funcs[f]? with
    | some fn => match fn.body with
      | some c => match codeAt c (turns p) with
        | some (.loop b) =>
          match evC P pol rec f m b (2 * p) (mkEnv (pol.live f p) vals) h with
          | some (.normal, e', h') =>
            let q := packH m ((pol.live f p).map e') h'
            rec (.loop f p m q.1 q.2)
          | some (x, e', h') =>
            let q := packH m ((pol.outs f p).map e') h'
            some (.loop x q.1 q.2)
          | none => none
        | _ => none
      | none => none
    | none => none

def it (P : Program) (pol : Pol) : Nat → Rec
  | 0 => fun _ => none
  | n + 1 => step P pol (it P pol n)
end Go.Proofs.YtkpmachalipmpaaGreatDoor.E
/- What the evaluator's values stand for in memory: relations, and how they outlast what happens. Conditions: those of each lemma. -/
namespace Go.Proofs.YtkpmachalipmpaaGreatDoor.E
set_option linter.unusedVariables false

structure Loc where
  b : Nat
  o : Nat
  sz : Nat
  n : Nat
  z : Nat

inductive RT (w : World) (F : Nat → Prop) : Value → T → Prop
  | int (k : IntKind) (n : Int) : RT w F (.int k n) (.int k n)
  | bool (b : Bool) : RT w F (.bool b) (.bool b)
  | str (s : ByteArray) (l : List UInt8) (h : s.data.toList = l) : RT w F (.string s) (.str l)
  | list (a : Option Addr) (n c sz : Nat) (es : List (List T)) (g : Nat → Nat → Value) (hn : es.length = n) (hc : n ≤ c)
      (h0 : 0 < n → ∃ b o, a = some ⟨b, o, none⟩ ∧ F b ∧ ∀ i j, i < n → j < sz → w.cell? ⟨b, o + (i * sz + j), none⟩ = some (g i j))
      (hz : ∀ e ∈ es, e.length = sz)
      (hr : ∀ i j cs x, es[i]? = some cs → cs[j]? = some x → RT w F (g i j) x) : RT w F (.slice a n c) (.list sz es)
  | nlist (a : Option Addr) (n c sz : Nat) (es : List (List T)) (b : Bool) (hb : a.isNone = b) (h : RT w F (.slice a n c) (.list sz es)) : RT w F (.slice a n c) (.nlist b sz es)
  | fp (b o : Nat) (cs : List T) (g : Nat → Value) (hF : F b) (hc : ∀ j, j < cs.length → w.cell? ⟨b, o + j, none⟩ = some (g j))
      (hr : ∀ j x, cs[j]? = some x → RT w F (g j) x) : RT w F (.pointer (some ⟨b, o, none⟩)) (.fp cs)
  | fn (f : Nat) (caps : List T) (vs : Array Value) (hv : vs.size = caps.length) (g : Nat → Value)
      (hg : ∀ j, j < caps.length → vs[j]? = some (g j)) (hr : ∀ j x, caps[j]? = some x → RT w F (g j) x) : RT w F (.func (.func f) #[] vs) (.fn f caps)
  | nilp : RT w F (.pointer none) .nilp
  | nilf : RT w F .nilFunc .nilf
  | nili : RT w F .nilIface .nili
  | nni (t : TypeId) (v : Value) : RT w F (.iface t v) .nni

abbrev Locs := Nat → Option (Option Loc)

inductive RV (w : World) (F : Nat → Prop) (ρ : Locs) : Value → V → Prop
  | t (u : Value) (x : T) (h : RT w F u x) : RV w F ρ u (.t x)
  | nil (sz : Nat) : RV w F ρ (.slice none 0 0) (.nil sz)
  | sl (r off len : Nat) (cap : Option Nat) (L : Loc) (a : Option Addr) (c : Nat) (hρ : ρ r = some (some L))
      (ha : a = some ⟨L.b, L.o + off * L.sz, none⟩ ∨ c = 0) (hl : len ≤ c) (hn : off + len ≤ L.n)
      (hc0 : cap = none → L.n ≤ off + c) (hc1 : ∀ k, cap = some k → c = k) (hz : c ≠ 0 → L.o + (off + c) * L.sz ≤ L.z) :
      RV w F ρ (.slice a len c) (.sl r off len cap)
  | slP (r : Nat) (cap : Option Nat) (a : Option Addr) (hρ : ρ r = some none) (hc : cap = none ∨ cap = some 0) : RV w F ρ (.slice a 0 0) (.sl r 0 0 cap)
  | ptr (r i j : Nat) (L : Loc) (hρ : ρ r = some (some L)) : RV w F ρ (.pointer (some ⟨L.b, L.o + (i * L.sz + j), none⟩)) (.ptr r i j)
  | agg (vs : Array Value) (cs : List V) (g : Nat → Value) (hs : vs.size = cs.length) (hg : ∀ j, j < cs.length → vs[j]? = some (g j))
      (hr : ∀ j x, cs[j]? = some x → RV w F ρ (g j) x) : RV w F ρ (.agg vs) (.agg cs)
  | tup (vs : Array Value) (cs : List V) (g : Nat → Value) (hs : vs.size = cs.length) (hg : ∀ j, j < cs.length → vs[j]? = some (g j))
      (hr : ∀ j x, cs[j]? = some x → RV w F ρ (g j) x) : RV w F ρ (.tuple vs) (.tup cs)
  | fn (f : Nat) (vs : Array Value) (cs : List V) (g : Nat → Value) (hs : vs.size = cs.length) (hg : ∀ j, j < cs.length → vs[j]? = some (g j))
      (hr : ∀ j x, cs[j]? = some x → RV w F ρ (g j) x) : RV w F ρ (.func (.func f) #[] vs) (.fn f cs)
  | und : RV w F ρ undef .und
  | bad (u : Value) : RV w F ρ u .bad

/-- two lists, one by one -/
inductive All2 {α β : Type} (R : α → β → Prop) : List α → List β → Prop
  | nil : All2 R [] []
  | cons {u : α} {v : β} {us : List α} {vs : List β} (h : R u v) (hs : All2 R us vs) : All2 R (u :: us) (v :: vs)
/-- values, one by one -/
def RVs (w : World) (F : Nat → Prop) (ρ : Locs) (us : List Value) (vs : List V) : Prop := All2 (RV w F ρ) us vs
def RTs (w : World) (F : Nat → Prop) (us : List Value) (xs : List T) : Prop := All2 (RT w F) us xs

theorem forall₂_of {α β : Type} {R : α → β → Prop} : ∀ {us : List α} {vs : List β}, us.length = vs.length → (∀ (j : Nat) u v, us[j]? = some u → vs[j]? = some v → R u v) → All2 R us vs
  | [], [], _, _ => .nil
  | [], _ :: _, h, _ => by simp at h
  | _ :: _, [], h, _ => by simp at h
  | u :: us, v :: vs, h, hr => .cons (hr 0 u v rfl rfl) (forall₂_of (by simpa using h) fun j a b ha hb => hr (j + 1) a b (by simpa using ha) (by simpa using hb))
theorem forall₂_len {α β : Type} {R : α → β → Prop} {us : List α} {vs : List β} (h : All2 R us vs) : us.length = vs.length := by
  induction h with
  | nil => rfl
  | cons _ _ ih => simp [ih]
theorem forall₂_get {α β : Type} {R : α → β → Prop} {us : List α} {vs : List β} (h : All2 R us vs) : ∀ (j : Nat) v, vs[j]? = some v → ∃ u, us[j]? = some u ∧ R u v := by
  induction h with
  | nil => intro j v h; simp at h
  | cons hx _ ih =>
    intro j v hj
    cases j with
    | zero => simp at hj; subst hj; exact ⟨_, rfl, hx⟩
    | succ j => simpa using ih j v (by simpa using hj)
theorem forall₂_imp {α β : Type} {R R' : α → β → Prop} {us : List α} {vs : List β} (h : All2 R us vs) (hi : ∀ u v, R u v → R' u v) : All2 R' us vs := by
  induction h with
  | nil => exact .nil
  | cons hx _ ih => exact .cons (hi _ _ hx) ih
theorem forall₂_append {α β : Type} {R : α → β → Prop} {us us' : List α} {vs vs' : List β} (h : All2 R us vs) (h' : All2 R us' vs') : All2 R (us ++ us') (vs ++ vs') := by
  induction h with
  | nil => exact h'
  | cons hx _ ih => exact .cons hx ih

theorem RV.agg' {w : World} {F : Nat → Prop} {ρ : Locs} {vs : Array Value} {cs : List V} (h : RVs w F ρ vs.toList cs) : RV w F ρ (.agg vs) (.agg cs) := by
  have hl := forall₂_len h
  refine .agg vs cs (fun j => (vs[j]?).getD undef) (by simpa using hl) (fun j hj => ?_) fun j x hx => ?_
  · have : j < vs.size := by simp at hl; omega
    simp [this]
  · obtain ⟨u, hu, hr⟩ := forall₂_get h j x hx
    have : vs[j]? = some u := by simpa using hu
    simpa [this] using hr
theorem RV.tup' {w : World} {F : Nat → Prop} {ρ : Locs} {vs : Array Value} {cs : List V} (h : RVs w F ρ vs.toList cs) : RV w F ρ (.tuple vs) (.tup cs) := by
  have hl := forall₂_len h
  refine .tup vs cs (fun j => (vs[j]?).getD undef) (by simpa using hl) (fun j hj => ?_) fun j x hx => ?_
  · have : j < vs.size := by simp at hl; omega
    simp [this]
  · obtain ⟨u, hu, hr⟩ := forall₂_get h j x hx
    have : vs[j]? = some u := by simpa using hu
    simpa [this] using hr
theorem RV.fn' {w : World} {F : Nat → Prop} {ρ : Locs} {f : Nat} {vs : Array Value} {cs : List V} (h : RVs w F ρ vs.toList cs) : RV w F ρ (.func (.func f) #[] vs) (.fn f cs) := by
  have hl := forall₂_len h
  refine .fn f vs cs (fun j => (vs[j]?).getD undef) (by simpa using hl) (fun j hj => ?_) fun j x hx => ?_
  · have : j < vs.size := by simp at hl; omega
    simp [this]
  · obtain ⟨u, hu, hr⟩ := forall₂_get h j x hx
    have : vs[j]? = some u := by simpa using hu
    simpa [this] using hr
theorem RT.fn' {w : World} {F : Nat → Prop} {f : Nat} {vs : Array Value} {cs : List T} (h : RTs w F vs.toList cs) : RT w F (.func (.func f) #[] vs) (.fn f cs) := by
  have hl := forall₂_len h
  refine .fn f cs vs (by simpa using hl) (fun j => (vs[j]?).getD undef) (fun j hj => ?_) fun j x hx => ?_
  · have : j < vs.size := by simp at hl; omega
    simp [this]
  · obtain ⟨u, hu, hr⟩ := forall₂_get h j x hx
    have : vs[j]? = some u := by simpa using hu
    simpa [this] using hr
theorem rvs_of {w : World} {F : Nat → Prop} {ρ : Locs} {vs : Array Value} {cs : List V} {g : Nat → Value} (hs : vs.size = cs.length) (hg : ∀ j, j < cs.length → vs[j]? = some (g j))
    (hr : ∀ j x, cs[j]? = some x → RV w F ρ (g j) x) : RVs w F ρ vs.toList cs :=
  forall₂_of (by simpa using hs) fun j u v hu hv => by
    have hj : j < cs.length := by
      rcases Nat.lt_or_ge j cs.length with h | h
      · exact h
      · rw [List.getElem?_eq_none h] at hv; cases hv
    have h1 := hg j hj
    have h2 : vs[j]? = some u := by simpa using hu
    rw [h1] at h2
    cases h2
    exact hr j v hv
theorem rts_of {w : World} {F : Nat → Prop} {vs : Array Value} {cs : List T} {g : Nat → Value} (hs : vs.size = cs.length) (hg : ∀ j, j < cs.length → vs[j]? = some (g j))
    (hr : ∀ j x, cs[j]? = some x → RT w F (g j) x) : RTs w F vs.toList cs :=
  forall₂_of (by simpa using hs) fun j u v hu hv => by
    have hj : j < cs.length := by
      rcases Nat.lt_or_ge j cs.length with h | h
      · exact h
      · rw [List.getElem?_eq_none h] at hv; cases hv
    have h1 := hg j hj
    have h2 : vs[j]? = some u := by simpa using hu
    rw [h1] at h2
    cases h2
    exact hr j v hv

/-! ### They outlast -/
/-- what stays as it was: the blocks of F -/
def Agree (F : Nat → Prop) (w w' : World) : Prop := ∀ b, F b → w'.heap[b]? = w.heap[b]?
theorem Agree.cell {F : Nat → Prop} {w w' : World} (h : Agree F w w') {b : Nat} (hb : F b) (o : Nat) (s : Option Nat) : w'.cell? ⟨b, o, s⟩ = w.cell? ⟨b, o, s⟩ := by
  unfold World.cell?; simp only [h b hb]
theorem RT.mono {w w' : World} {F F' : Nat → Prop} (hA : Agree F w w') (hF : ∀ b, F b → F' b) {u : Value} {x : T} (h : RT w F u x) : RT w' F' u x := by
  induction h with
  | int k n => exact .int k n
  | bool b => exact .bool b
  | str s l h => exact .str s l h
  | list a n c sz es g hn hc h0 hz hr ih =>
    refine .list a n c sz es g hn hc (fun hp => ?_) hz ih
    obtain ⟨b, o, e, hb, hcell⟩ := h0 hp
    exact ⟨b, o, e, hF b hb, fun i j hi hj => (hA.cell hb _ _).trans (hcell i j hi hj)⟩
  | nlist a n c sz es b hb h ih => exact .nlist a n c sz es b hb ih
  | fp b o cs g hb hc hr ih => exact .fp b o cs g (hF b hb) (fun j hj => (hA.cell hb _ _).trans (hc j hj)) ih
  | fn f caps vs hv g hg hr ih => exact .fn f caps vs hv g hg ih
  | nilp => exact .nilp
  | nilf => exact .nilf
  | nili => exact .nili
  | nni t v => exact .nni t v
def Ext (ρ ρ' : Locs) : Prop := ∀ r l, ρ r = some l → ρ' r = some l
theorem Ext.refl (ρ : Locs) : Ext ρ ρ := fun _ _ h => h
theorem Ext.trans {ρ ρ' ρ'' : Locs} (h : Ext ρ ρ') (h' : Ext ρ' ρ'') : Ext ρ ρ'' := fun r l e => h' r l (h r l e)
theorem RV.mono {w w' : World} {F F' : Nat → Prop} {ρ ρ' : Locs} (hA : Agree F w w') (hF : ∀ b, F b → F' b) (hρ : Ext ρ ρ') {u : Value} {v : V} (h : RV w F ρ u v) : RV w' F' ρ' u v := by
  induction h with
  | t u x h => exact .t u x (h.mono hA hF)
  | nil sz => exact .nil sz
  | sl r off len cap L a c h ha hl hn hc0 hc1 hz => exact .sl r off len cap L a c (hρ _ _ h) ha hl hn hc0 hc1 hz
  | slP r cap a h hc => exact .slP r cap a (hρ _ _ h) hc
  | ptr r i j L h => exact .ptr r i j L (hρ _ _ h)
  | agg vs cs g hs hg hr ih => exact .agg vs cs g hs hg ih
  | tup vs cs g hs hg hr ih => exact .tup vs cs g hs hg ih
  | fn f vs cs g hs hg hr ih => exact .fn f vs cs g hs hg ih
  | und => exact .und
  | bad u => exact .bad u

/-! ### The rows -/
/-- what a piece of code may do: the blocks it may write; the rows' numbers that are kept for others; where its new row goes -/
structure Own where
  b : Nat → Prop
  z : Nat → Prop
  N : Option Nat
instance : CoeFun Own (fun _ => Nat → Prop) := ⟨Own.b⟩
def own (b : Nat → Prop) : Own := ⟨b, fun _ => False, none⟩

structure RowOK {α : Type} (w : World) (L : Loc) (es : List (List α)) (R : Value → α → Prop) : Prop where
  n : es.length = L.n
  len : ∀ e ∈ es, e.length = L.sz
  cells : ∃ c el fr, w.heap[L.b]? = some (.cells c el fr) ∧ c.size = L.z ∧ (∀ k, k < c.size → ¬(fr.1 ≤ k ∧ k < fr.2)) ∧ L.o + L.n * L.sz ≤ L.z ∧
    ∀ i j cs x, es[i]? = some cs → cs[j]? = some x → ∃ u, c[L.o + (i * L.sz + j)]? = some u ∧ R u x

def RB (w : World) (F : Nat → Prop) (ρ : Locs) (Ow : Own) (r : Nat) : Blk → Prop
  | .ts sz es => (∃ L, ρ r = some (some L) ∧ L.sz = sz ∧ RowOK w L es (RT w F) ∧ ¬ F L.b ∧ Ow L.b) ∨ (ρ r = some none ∧ es = [])
  | .vs sz es => (∃ L, ρ r = some (some L) ∧ L.sz = sz ∧ RowOK w L es (RV w F ρ) ∧ ¬ F L.b ∧ Ow L.b) ∨ (ρ r = some none ∧ es = [])
  | .fz sz es => (∃ L, ρ r = some (some L) ∧ L.sz = sz ∧ RowOK w L es (RT w F) ∧ F L.b) ∨ (ρ r = some none ∧ es = [])
  | .dead => True
def writes : Blk → Bool
  | .ts _ _ | .vs _ _ => true
  | _ => false

structure St (w : World) (F : Nat → Prop) (ρ : Locs) (Ow : Own) (h : Heap) : Prop where
  blk : ∀ r b, h[r]? = some b → RB w F ρ Ow r b
  inj : ∀ r r' b b' L L', h[r]? = some b → h[r']? = some b' → writes b = true → writes b' = true → ρ r = some (some L) → ρ r' = some (some L') → L.b = L'.b → r = r'
  fsz : ∀ b, F b → b < w.heap.size
  out : ∀ r, h.length ≤ r → ρ r = none

/-- what one step may change -/
structure Nxt (Ow : Own) (w : World) (F : Nat → Prop) (ρ : Locs) (w' : World) (F' : Nat → Prop) (ρ' : Locs) : Prop where
  os : w'.os = w.os
  tape : w'.tape = w.tape
  output : w'.output = w.output
  size : w.heap.size ≤ w'.heap.size
  keep : ∀ b, b < w.heap.size → ¬ Ow b → w'.heap[b]? = w.heap[b]?
  agree : Agree F w w'
  grow : ∀ b, F b → F' b
  new : ∀ b, F' b → F b ∨ Ow b
  ext : Ext ρ ρ'
  res : ∀ r, Ow.z r → ρ' r = ρ r
theorem Nxt.refl (Ow : Own) (w : World) (F : Nat → Prop) (ρ : Locs) : Nxt Ow w F ρ w F ρ :=
  ⟨rfl, rfl, rfl, Nat.le_refl _, fun _ _ _ => rfl, fun _ _ => rfl, fun _ h => h, fun _ h => .inl h, Ext.refl _, fun _ _ => rfl⟩
theorem Nxt.trans {Ow : Own} {w w1 w2 : World} {F F1 F2 : Nat → Prop} {ρ ρ1 ρ2 : Locs} (h : Nxt Ow w F ρ w1 F1 ρ1) (k : Nxt Ow w1 F1 ρ1 w2 F2 ρ2) : Nxt Ow w F ρ w2 F2 ρ2 :=
  ⟨k.os.trans h.os, k.tape.trans h.tape, k.output.trans h.output, Nat.le_trans h.size k.size,
    fun b hb ho => (k.keep b (Nat.lt_of_lt_of_le hb h.size) ho).trans (h.keep b hb ho),
    fun b hb => (k.agree b (h.grow b hb)).trans (h.agree b hb), fun b hb => k.grow b (h.grow b hb),
    fun b hb => (k.new b hb).elim (fun x => h.new b x) .inr, h.ext.trans k.ext, fun r hr => (k.res r hr).trans (h.res r hr)⟩
theorem Nxt.rv {Ow : Own} {w w1 : World} {F F1 : Nat → Prop} {ρ ρ1 : Locs} (h : Nxt Ow w F ρ w1 F1 ρ1) {u : Value} {v : V} (k : RV w F ρ u v) : RV w1 F1 ρ1 u v := k.mono h.agree h.grow h.ext
theorem Nxt.rvs {Ow : Own} {w w1 : World} {F F1 : Nat → Prop} {ρ ρ1 : Locs} (h : Nxt Ow w F ρ w1 F1 ρ1) {us : List Value} {vs : List V} (k : RVs w F ρ us vs) : RVs w1 F1 ρ1 us vs := forall₂_imp k fun _ _ => h.rv
theorem Nxt.rt {Ow : Own} {w w1 : World} {F F1 : Nat → Prop} {ρ ρ1 : Locs} (h : Nxt Ow w F ρ w1 F1 ρ1) {u : Value} {v : T} (k : RT w F u v) : RT w1 F1 u v := k.mono h.agree h.grow

/-- rows whose block stays as it is stay -/
theorem RowOK.mono {α : Type} {w w' : World} {L : Loc} {es : List (List α)} {R R' : Value → α → Prop} (h : RowOK w L es R) (hb : w'.heap[L.b]? = w.heap[L.b]?) (hR : ∀ u x, R u x → R' u x) : RowOK w' L es R' := by
  obtain ⟨n, len, c, el, fr, hh, hs, hf, hz, hc⟩ := h
  refine ⟨n, len, c, el, fr, hb.trans hh, hs, hf, hz, fun i j cs x h1 h2 => ?_⟩
  obtain ⟨u, hu, hr⟩ := hc i j cs x h1 h2
  exact ⟨u, hu, hR u x hr⟩
/-- one row under a change of the world that leaves its block alone -/
theorem RB.mono {w w' : World} {F F' : Nat → Prop} {ρ ρ' : Locs} {Ow : Own} {r : Nat} {b : Blk} (h : RB w F ρ Ow r b) (hA : Agree F w w') (hF : ∀ b, F b → F' b) (hρ : Ext ρ ρ')
    (hk : ∀ L, ρ r = some (some L) → writes b = true → w'.heap[L.b]? = w.heap[L.b]? ∧ ¬ F' L.b) : RB w' F' ρ' Ow r b := by
  cases b with
  | ts sz es =>
    rcases h with ⟨L, h1, h2, h3, h4, h5⟩ | ⟨h1, h2⟩
    · exact .inl ⟨L, hρ _ _ h1, h2, h3.mono (hk L h1 rfl).1 fun u x hx => hx.mono hA hF, (hk L h1 rfl).2, h5⟩
    · exact .inr ⟨hρ _ _ h1, h2⟩
  | vs sz es =>
    rcases h with ⟨L, h1, h2, h3, h4, h5⟩ | ⟨h1, h2⟩
    · exact .inl ⟨L, hρ _ _ h1, h2, h3.mono (hk L h1 rfl).1 fun u x hx => hx.mono hA hF hρ, (hk L h1 rfl).2, h5⟩
    · exact .inr ⟨hρ _ _ h1, h2⟩
  | fz sz es =>
    rcases h with ⟨L, h1, h2, h3, h4⟩ | ⟨h1, h2⟩
    · exact .inl ⟨L, hρ _ _ h1, h2, h3.mono (hA _ h4) fun u x hx => hx.mono hA hF, hF _ h4⟩
    · exact .inr ⟨hρ _ _ h1, h2⟩
  | dead => trivial
end Go.Proofs.YtkpmachalipmpaaGreatDoor.E
/- The evaluator's operations are those of the machine: what does not call. Conditions: those of each lemma. -/
namespace Go.Proofs.YtkpmachalipmpaaGreatDoor.E
set_option linter.unusedVariables false
set_option linter.unusedSimpArgs false

variable {P : Program} {w : World} {F : Nat → Prop} {ρ : Locs} {Ow : Own} {h : Heap}

/-! ### Operands -/
def RE (w : World) (F : Nat → Prop) (ρ : Locs) (a : Act) (e : Env) : Prop := ∀ t, RV w F ρ (a.tmps.getD t undef) (e t)

theorem cstAt_rv (ty : TypeId) (v : Value) : RV w F ρ v (cstAt P ty v) := by
  unfold cstAt
  split
  · exact .t _ _ (.int _ _)
  · exact .t _ _ (.bool _)
  · exact .t _ _ (.str _ _ rfl)
  · split
    · exact .nil _
    · exact .bad _
  · exact .t _ _ .nilp
  · exact .t _ _ .nilf
  · exact .t _ _ .nili
  · exact .bad _
theorem cstAll_rv : ∀ (vs : List Value) (ts : List TypeId), RVs w F ρ vs (cstAll P vs ts)
  | [], _ => by simp only [cstAll]; exact .nil
  | v :: vs, [] => by simp only [cstAll]; exact .cons (.bad _) (cstAll_rv vs [])
  | v :: vs, t :: ts => by simp only [cstAll]; exact .cons (cstAt_rv t v) (cstAll_rv vs ts)
theorem cst_rv (ty : TypeId) (v : Value) : RV w F ρ v (cst P ty v) := by
  unfold cst
  split
  · exact RV.agg' (cstAll_rv _ _)
  · exact cstAt_rv ty v
theorem opv_rv {a : Act} {e : Env} (he : RE w F ρ a e) (ty : TypeId) (x : Operand) : RV w F ρ (a.eval x) (opv P e ty x) := by
  cases x with
  | tmp t => exact he t
  | const v => exact cst_rv ty v
  | func f => exact .t _ _ (RT.fn' .nil)
  | global g => exact .bad _

theorem rt_cells {u : Value} {x : T} (hu : RT w F u x) : u.cells = #[u] ∧ u.oneCell' = true := by cases hu <;> exact ⟨rfl, rfl⟩
theorem rv_one {u : Value} {v : V} (hu : RV w F ρ u v) (hv : okCell v = true) : u.cells = #[u] ∧ u.oneCell' = true ∧ cellsV v = [v] := by
  cases hu with
  | t u x hx => exact ⟨(rt_cells hx).1, (rt_cells hx).2, rfl⟩
  | nil | sl | slP | ptr | fn => exact ⟨rfl, rfl, rfl⟩
  | agg | tup | und | bad => simp [okCell] at hv
theorem rv_cells {u : Value} {v : V} (hu : RV w F ρ u v) (hv : (cellsV v).all okCell = true) : RVs w F ρ u.cells.toList (cellsV v) := by
  cases v with
  | agg cs =>
    cases hu with
    | agg vs cs g hs hg hr => exact rvs_of hs hg hr
  | t x => obtain ⟨h1, h2, h3⟩ := rv_one hu rfl; rw [h1]; exact .cons hu .nil
  | nil => obtain ⟨h1, h2, h3⟩ := rv_one hu rfl; rw [h1]; exact .cons hu .nil
  | sl => obtain ⟨h1, h2, h3⟩ := rv_one hu rfl; rw [h1]; exact .cons hu .nil
  | ptr => obtain ⟨h1, h2, h3⟩ := rv_one hu rfl; rw [h1]; exact .cons hu .nil
  | fn => obtain ⟨h1, h2, h3⟩ := rv_one hu rfl; rw [h1]; exact .cons hu .nil
  | tup => simp [cellsV, okCell] at hv
  | und => simp [cellsV, okCell] at hv
  | bad => simp [cellsV, okCell] at hv
theorem rvs_one {us : List Value} {vs : List V} (hu : RVs w F ρ us vs) (hv : vs.all okCell = true) : us.all (·.oneCell') = true := by
  induction hu with
  | nil => rfl
  | cons hx _ ih =>
    simp only [List.all_cons, Bool.and_eq_true] at hv ⊢
    exact ⟨(rv_one hx hv.1).2.1, ih hv.2⟩
theorem packV_rv {a : Bool} {us : List Value} {cs : List V} {v : V} (hp : packV a cs = some v) (hr : RVs w F ρ us cs) :
    (a = true → RV w F ρ (.agg us.toArray) v) ∧ (a = false → ∃ u, us = [u] ∧ RV w F ρ u v) := by
  unfold packV at hp
  cases a with
  | true => simp at hp; subst hp; exact ⟨fun _ => RV.agg' hr, fun h => absurd h (by simp)⟩
  | false =>
    simp at hp
    refine ⟨fun h => absurd h (by simp), fun _ => ?_⟩
    split at hp
    · cases hp
      cases hr with
      | cons hx hs => cases hs; exact ⟨_, rfl, hx⟩
    · cases hp
theorem rvs_drop {us : List Value} {vs : List V} (hu : RVs w F ρ us vs) (n : Nat) : RVs w F ρ (us.drop n) (vs.drop n) :=
  forall₂_of (by simp [forall₂_len hu]) fun j u v h1 h2 => by
    rw [List.getElem?_drop] at h1 h2
    obtain ⟨u', h3, h4⟩ := forall₂_get hu _ _ h2
    rw [h1] at h3; cases h3; exact h4
theorem rvs_take {us : List Value} {vs : List V} (hu : RVs w F ρ us vs) (n : Nat) : RVs w F ρ (us.take n) (vs.take n) :=
  forall₂_of (by simp [forall₂_len hu]) fun j u v h1 h2 => by
    rw [List.getElem?_take] at h1 h2
    split at h1
    · rename_i hj
      simp only [hj, if_true] at h2
      obtain ⟨u', h3, h4⟩ := forall₂_get hu _ _ h2
      rw [h1] at h3; cases h3; exact h4
    · cases h1
theorem rts_rvs {us : List Value} {xs : List T} (hu : RTs w F us xs) : RVs w F ρ us (xs.map .t) := by
  induction hu with
  | nil => exact .nil
  | cons hx _ ih => exact .cons (.t _ _ hx) ih
theorem allT_rts : ∀ {us : List Value} {vs : List V} {xs : List T}, RVs w F ρ us vs → allT vs = some xs → RTs w F us xs
  | _, [], xs, hu, hx => by cases hu; simp [allT] at hx; subst hx; exact .nil
  | _, v :: vs, xs, hu, hx => by
    cases hu with
    | cons h1 hs =>
      unfold allT at hx
      split at hx
      · split at hx
        · rename_i x _ xs' hxs
          cases hx
          cases h1 with
          | t u x hx => exact .cons hx (allT_rts hs hxs)
        · cases hx
      · cases hx

/-! ### Reading memory -/
theorem rowOK_range {α : Type} {L : Loc} {es : List (List α)} {R : Value → α → Prop} (hr : RowOK w L es R) {i j n : Nat} {cs : List α} (hi : es[i]? = some cs) (hj : j + n ≤ cs.length) :
    ∃ us : List Value, us.length = n ∧ w.rangeAt L.b (L.o + (i * L.sz + j)) us ∧ All2 R us ((cs.drop j).take n) := by
  obtain ⟨hn, hl, c, el, fr, hh, hs, hf, hz, hc⟩ := hr
  have hlen := hl cs (List.mem_of_getElem? hi)
  have hx : ∀ k, k < n → ∃ u x, c[L.o + (i * L.sz + (j + k))]? = some u ∧ cs[j + k]? = some x ∧ R u x := fun k hk => by
    have hk' : j + k < cs.length := by omega
    obtain ⟨u, hu, hru⟩ := hc i (j + k) cs _ hi (List.getElem?_eq_getElem hk')
    exact ⟨u, _, hu, List.getElem?_eq_getElem hk', hru⟩
  refine ⟨(List.range n).map fun k => (c[L.o + (i * L.sz + (j + k))]?).getD undef, by simp, fun k v hv => ?_, forall₂_of (by simp; omega) fun k u v hu hv => ?_⟩
  · simp only [List.getElem?_map, List.getElem?_range] at hv
    by_cases hk : k < n
    · obtain ⟨u, x, hu, _, _⟩ := hx k hk
      simp [hk, hu] at hv
      subst hv
      unfold World.cell?
      rw [hh]
      simp only [Option.isSome_none]
      rw [show L.o + (i * L.sz + j) + k = L.o + (i * L.sz + (j + k)) by omega]
      simpa using hu
    · simp [hk] at hv
  · have hk : k < n := by
      rcases Nat.lt_or_ge k n with h | h
      · exact h
      · rw [List.getElem?_take] at hv; simp [Nat.not_lt.2 h] at hv
    obtain ⟨u', x, h1, h2, h3⟩ := hx k hk
    simp [List.getElem?_range, hk, h1] at hu
    rw [List.getElem?_take, List.getElem?_drop] at hv
    simp [hk, h2] at hv
    subst hu; subst hv; exact h3
theorem all2_map {α β γ : Type} {R : α → β → Prop} {R' : α → γ → Prop} {f : β → γ} {us : List α} {vs : List β} (h : All2 R us vs) (hf : ∀ u v, R u v → R' u (f v)) : All2 R' us (vs.map f) := by
  induction h with
  | nil => exact .nil
  | cons hx _ ih => exact .cons (hf _ _ hx) ih
theorem ldCells_ok (hS : St w F ρ Ow h) {r i j n : Nat} {cs : List V} (hl : ldCells h r i j n = some cs) {u : Value} (hu : RV w F ρ u (.ptr r i j)) :
    ∃ (b o : Nat) (us : List Value), u = .pointer (some ⟨b, o, none⟩) ∧ us.length = n ∧ w.rangeAt b o us ∧ RVs w F ρ us cs := by
  cases hu with
  | ptr r i j L hρ =>
    refine ⟨L.b, L.o + (i * L.sz + j), ?_⟩
    unfold ldCells at hl
    split at hl
    · rename_i sz es hb
      split at hl
      · rename_i ls hi
        split at hl
        · rename_i hj
          cases hl
          have := hS.blk r _ hb
          rcases this with ⟨L', h1, h2, h3, _⟩ | ⟨h1, _⟩
          · rw [hρ] at h1; cases h1
            obtain ⟨us, e1, e2, e3⟩ := rowOK_range h3 hi hj
            exact ⟨us, rfl, e1, e2, all2_map e3 fun u v hx => .t _ _ hx⟩
          · rw [hρ] at h1; cases h1
        · cases hl
      · cases hl
    · rename_i sz es hb
      split at hl
      · rename_i ls hi
        split at hl
        · rename_i hj
          cases hl
          have := hS.blk r _ hb
          rcases this with ⟨L', h1, h2, h3, _⟩ | ⟨h1, _⟩
          · rw [hρ] at h1; cases h1
            obtain ⟨us, e1, e2, e3⟩ := rowOK_range h3 hi hj
            exact ⟨us, rfl, e1, e2, all2_map e3 fun u v hx => .t _ _ hx⟩
          · rw [hρ] at h1; cases h1
        · cases hl
      · cases hl
    · rename_i sz es hb
      split at hl
      · rename_i ls hi
        split at hl
        · rename_i hj
          cases hl
          have := hS.blk r _ hb
          rcases this with ⟨L', h1, h2, h3, _⟩ | ⟨h1, _⟩
          · rw [hρ] at h1; cases h1
            obtain ⟨us, e1, e2, e3⟩ := rowOK_range h3 hi hj
            exact ⟨us, rfl, e1, e2, e3⟩
          · rw [hρ] at h1; cases h1
        · cases hl
      · cases hl
    · cases hl

/-! ### Types -/
theorem run_isAgg {t : TypeId} {d : TypeDesc} (hd : P.underlying t = some d) : (isAgg t).run P w = .ok (aggOf P t) w := by
  simp only [isAgg, underlying, Sem.run_bind, run_program, Result.andThen_ok, hd, Sem.run_pure, aggOf]
  cases d <;> rfl
theorem info_of_underlying {t : TypeId} {d : TypeDesc} (hd : P.underlying t = some d) : ∃ i, P.info? t = some i := by
  unfold Program.underlying at hd
  cases hi : P.info? t with
  | none => simp [hi] at hd
  | some i => exact ⟨i, rfl⟩
theorem run_sizeOf {t : TypeId} {i : TypeInfo} (hi : P.info? t = some i) : (sizeOf t).run P w = .ok (szOf P t) w := by
  simp [sizeOf, typeInfo, hi, szOf, Program.cellsOf]
theorem run_underlying' {t : TypeId} {d : TypeDesc} (hd : P.underlying t = some d) : (underlying t).run P w = .ok d w := by
  simp [underlying, hd]
theorem run_zeroValue {t : TypeId} {i : TypeInfo} {z : Value} (hi : P.info? t = some i) (hz : i.zero = some z) : (zeroValue t).run P w = .ok z w := by
  simp [zeroValue, typeInfo, hi, hz]

/-- a load at an address whose cells are known -/
theorem run_load_cells {t : TypeId} {d : TypeDesc} (hd : P.underlying t = some d) {b o : Nat} {us : List Value} {cs : List V} {v : V} (hl : us.length = szOf P t) (hr : w.rangeAt b o us)
    (hc : RVs w F ρ us cs) (hp : packV (aggOf P t) cs = some v) : ∃ u, (loadVar t ⟨b, o, none⟩).run P w = .ok u w ∧ RV w F ρ u v := by
  obtain ⟨i, hi⟩ := info_of_underlying hd
  obtain ⟨h1, h2⟩ := packV_rv hp hc
  cases ha : aggOf P t with
  | true =>
    refine ⟨_, ?_, h1 ha⟩
    have hcells : (loadCells ⟨b, o, none⟩ us.length).run P w = .ok us.toArray w :=
      run_loadCells_list (P := P) w ⟨b, o, none⟩ us (fun j v hv => by rw [Addr.add_mid]; exact hr j v hv)
    simp only [loadVar, Sem.run_bind, run_isAgg hd, Result.andThen_ok, ha, if_true, run_sizeOf hi, ← hl, hcells, Sem.run_pure]
  | false =>
    obtain ⟨u, rfl, hv⟩ := h2 ha
    refine ⟨u, ?_, hv⟩
    have := hr 0 u rfl
    simp only [Nat.add_zero] at this
    simp [loadVar, Sem.run_bind, run_isAgg hd, ha, this]
end Go.Proofs.YtkpmachalipmpaaGreatDoor.E
/- The evaluator's operations are those of the machine: what changes rows. Conditions: those of each lemma. -/
namespace Go.Proofs.YtkpmachalipmpaaGreatDoor.E
set_option linter.unusedVariables false
set_option linter.unusedSimpArgs false

variable {P : Program} {w : World} {F : Nat → Prop} {ρ : Locs} {Ow : Own} {h : Heap}

theorem RB.notF {r : Nat} {b : Blk} (hb : RB w F ρ Ow r b) (hw : writes b = true) {L : Loc} (hρ : ρ r = some (some L)) : ¬ F L.b ∧ Ow L.b ∧ L.b < w.heap.size := by
  cases b with
  | ts sz es =>
    rcases hb with ⟨L', h1, h2, h3, h4, h5⟩ | ⟨h1, h2⟩
    · rw [hρ] at h1; cases h1
      obtain ⟨_, _, c, el, fr, hh, _⟩ := h3
      exact ⟨h4, h5, (Array.getElem?_eq_some_iff.1 hh).1⟩
    · rw [hρ] at h1; cases h1
  | vs sz es =>
    rcases hb with ⟨L', h1, h2, h3, h4, h5⟩ | ⟨h1, h2⟩
    · rw [hρ] at h1; cases h1
      obtain ⟨_, _, c, el, fr, hh, _⟩ := h3
      exact ⟨h4, h5, (Array.getElem?_eq_some_iff.1 hh).1⟩
    · rw [hρ] at h1; cases h1
  | fz | dead => simp [writes] at hw
theorem RB.some {r : Nat} {b : Blk} (hb : RB w F ρ Ow r b) (hw : b ≠ .dead) : ∃ l, ρ r = some l := by
  cases b with
  | ts | vs | fz => rcases hb with ⟨L', h1, _⟩ | ⟨h1, h2⟩ <;> exact ⟨_, h1⟩
  | dead => exact absurd rfl hw

/-- a state under a change of the world -/
theorem St.next {w' : World} {F' : Nat → Prop} {ρ' : Locs} {h' : Heap} (hS : St w F ρ Ow h) (hN : Nxt Ow w F ρ w' F' ρ') (hout : ∀ r, h'.length ≤ r → ρ' r = none) (hfsz : ∀ b, F' b → b < w'.heap.size)
    (hb : ∀ r b, h'[r]? = some b → (h[r]? = some b ∧ ∀ L, ρ r = some (some L) → writes b = true → w'.heap[L.b]? = w.heap[L.b]? ∧ ¬ F' L.b) ∨
      (RB w' F' ρ' Ow r b ∧ ∀ L, ρ' r = some (some L) → writes b = true → ∀ r' b' L', r' ≠ r → h'[r']? = some b' → writes b' = true → ρ' r' = some (some L') → L'.b ≠ L.b)) : St w' F' ρ' Ow h' := by
  refine ⟨fun r b hr => ?_, fun r r' b b' L L' hr hr' hw hw' hL hL' he => ?_, hfsz, hout⟩
  · rcases hb r b hr with ⟨h1, h2⟩ | ⟨h1, _⟩
    · exact (hS.blk r b h1).mono hN.agree hN.grow hN.ext h2
    · exact h1
  · rcases hb r b hr with ⟨h1, h2⟩ | ⟨h1, h2⟩
    · rcases hb r' b' hr' with ⟨h3, h4⟩ | ⟨h3, h4⟩
      · obtain ⟨l, hl⟩ := (hS.blk r b h1).some (by intro e; subst e; simp [writes] at hw)
        obtain ⟨l', hl'⟩ := (hS.blk r' b' h3).some (by intro e; subst e; simp [writes] at hw')
        have e1 := hN.ext _ _ hl
        have e2 := hN.ext _ _ hl'
        rw [e1] at hL; cases hL
        rw [e2] at hL'; cases hL'
        exact hS.inj r r' b b' L L' h1 h3 hw hw' hl hl' he
      · rcases Nat.lt_or_ge r r' with hlt | hge
        · exact absurd he (h4 L' hL' hw' r b L (by omega) hr hw hL)
        · rcases Nat.lt_or_ge r' r with hlt' | hge'
          · exact absurd he (h4 L' hL' hw' r b L (by omega) hr hw hL)
          · omega
    · rcases Nat.lt_or_ge r r' with hlt | hge
      · exact absurd he.symm (h2 L hL hw r' b' L' (by omega) hr' hw' hL')
      · rcases Nat.lt_or_ge r' r with hlt' | hge'
        · exact absurd he.symm (h2 L hL hw r' b' L' (by omega) hr' hw' hL')
        · omega

/-- what of a row a slice shows, once nobody writes it -/
theorem rt_of_row {F' : Nat → Prop} {u : Value} {r off len sz : Nat} {cap : Option Nat} {es : List (List T)} {L : Loc} (hρ : ρ r = some (some L)) (hu : RV w F ρ u (.sl r off len cap)) (hL : L.sz = sz)
    (hr : RowOK w L es (RT w F')) (hF : F' L.b) : RT w F' u (.list sz ((es.drop off).take len)) := by
  cases hu with
  | slP r cap a hρ' hc => rw [hρ] at hρ'; cases hρ'
  | sl r off len cap L' a c hρ' ha hl hn hc0 hc1 hz =>
    rw [hρ] at hρ'; cases hρ'
    subst hL
    obtain ⟨h1, h2, cc, el, fr, hh, hs, hf, hzz, hc⟩ := hr
    refine .list a len c L.sz _ (fun i j => (cc[L.o + ((off + i) * L.sz + j)]?).getD undef) (by simp; omega) hl (fun hp => ?_) (fun e he => h2 e (List.mem_of_mem_drop (List.mem_of_mem_take he))) fun i j cs x hi hj => ?_
    · have hne : ¬ c = 0 := by omega
      refine ⟨L.b, L.o + off * L.sz, ha.resolve_right hne, hF, fun i j hi hj => ?_⟩
      have hi' : off + i < es.length := by omega
      obtain ⟨u, hu, _⟩ := hc (off + i) j _ _ (List.getElem?_eq_getElem hi') (List.getElem?_eq_getElem (by rw [h2 _ (List.getElem_mem hi')]; exact hj))
      rw [hu]
      unfold World.cell?
      rw [hh]
      simp only [Option.isSome_none, Option.getD_some]
      rw [show L.o + off * L.sz + (i * L.sz + j) = L.o + ((off + i) * L.sz + j) by rw [Nat.add_mul]; omega]
      simpa using hu
    · rw [List.getElem?_take] at hi
      split at hi
      · rw [List.getElem?_drop] at hi
        obtain ⟨u, hu, hru⟩ := hc (off + i) j _ _ hi hj
        rw [hu]; exact hru
      · cases hi
theorem rt_nil (F' : Nat → Prop) (a : Option Addr) (sz : Nat) : RT w F' (.slice a 0 0) (.list sz []) :=
  .list a 0 0 sz [] (fun _ _ => undef) rfl (Nat.le_refl _) (fun h => absurd h (by omega)) (fun e he => by cases he) (fun i j cs x hi => by simp at hi)

theorem give_row (hS : St w F ρ Ow h) {r off len sz : Nat} {cap : Option Nat} {es : List (List T)} (hb : h[r]? = some (.ts sz es)) {u : Value} (hu : RV w F ρ u (.sl r off len cap)) :
    ∃ F', RV w F' ρ u (.t (.list sz ((es.drop off).take len))) ∧ St w F' ρ Ow (h.set r (.fz sz es)) ∧ Nxt Ow w F ρ w F' ρ := by
  rcases hS.blk r _ hb with ⟨L, h1, h2, h3, h4, h5⟩ | ⟨h1, h2⟩
  · have hsz : L.b < w.heap.size := by
      obtain ⟨_, _, c, el, fr, hh, _⟩ := h3
      exact (Array.getElem?_eq_some_iff.1 hh).1
    have hN : Nxt Ow w F ρ w (fun b => F b ∨ b = L.b) ρ :=
      ⟨rfl, rfl, rfl, Nat.le_refl _, fun _ _ _ => rfl, fun _ _ => rfl, fun _ x => .inl x, fun b x => x.imp id fun (e : b = L.b) => e ▸ h5, Ext.refl _, fun _ _ => rfl⟩
    have h3' : RowOK w L es (RT w (fun b => F b ∨ b = L.b)) := h3.mono rfl fun u x hx => hx.mono hN.agree hN.grow
    refine ⟨_, .t _ _ (rt_of_row h1 hu h2 h3' (.inr rfl)), hS.next hN (fun r' hr' => hS.out r' (by simpa using hr')) (fun b x => x.elim (hS.fsz b) fun (e : b = L.b) => e ▸ hsz) (fun r' b' hr' => ?_), hN⟩
    rw [List.getElem?_set] at hr'
    split at hr'
    · rename_i e; subst e
      split at hr'
      · cases hr'
        exact .inr ⟨.inl ⟨L, h1, h2, h3', .inr rfl⟩, fun L' _ hw => by simp [writes] at hw⟩
      · cases hr'
    · rename_i hne
      refine .inl ⟨hr', fun L' hL' hw => ⟨rfl, ?_⟩⟩
      rintro (x | x)
      · exact ((hS.blk r' b' hr').notF hw hL').1 x
      · exact hne (hS.inj r r' _ b' L L' hb hr' rfl hw h1 hL' x.symm)
  · subst h2
    cases hu with
    | sl r off len cap L a c hρ' => rw [h1] at hρ'; cases hρ'
    | slP r cap a hρ hc =>
      have hN := Nxt.refl Ow w F ρ
      refine ⟨F, .t _ _ (by simpa using rt_nil F a sz), hS.next hN (fun r' hr' => hS.out r' (by simpa using hr')) hS.fsz (fun r' b' hr' => ?_), hN⟩
      rw [List.getElem?_set] at hr'
      split at hr'
      · rename_i e; subst e
        split at hr'
        · cases hr'
          exact .inr ⟨.inr ⟨h1, rfl⟩, fun L' _ hw => by simp [writes] at hw⟩
        · cases hr'
      · exact .inl ⟨hr', fun L' hL' hw => ⟨rfl, ((hS.blk r' b' hr').notF hw hL').1⟩⟩
theorem give_fz (hS : St w F ρ Ow h) {r off len sz : Nat} {cap : Option Nat} {es : List (List T)} (hb : h[r]? = some (.fz sz es)) {u : Value} (hu : RV w F ρ u (.sl r off len cap)) :
    RV w F ρ u (.t (.list sz ((es.drop off).take len))) := by
  rcases hS.blk r _ hb with ⟨L, h1, h2, h3, h4⟩ | ⟨h1, h2⟩
  · exact .t _ _ (rt_of_row h1 hu h2 h3 h4)
  · subst h2
    cases hu with
    | sl r off len cap L a c hρ' => rw [h1] at hρ'; cases hρ'
    | slP r cap a hρ hc => exact .t _ _ (by simpa using rt_nil F a sz)
theorem nil_list {ρ' : Locs} {u : Value} {sz : Nat} (hu : RV w F ρ u (.nil sz)) : RV w F ρ' u (.t (.list sz [])) := by
  cases hu; exact .t _ _ (rt_nil F none sz)
theorem any_t {ρ' : Locs} {u : Value} {x : T} (hu : RV w F ρ u (.t x)) : RV w F ρ' u (.t x) := by
  cases hu with
  | t _ _ hx => exact .t _ _ hx
theorem fn_t {ρ' : Locs} {u : Value} {f : Nat} {caps : List V} {xs : List T} (hu : RV w F ρ u (.fn f caps)) (hx : allT caps = some xs) : RV w F ρ' u (.t (.fn f xs)) := by
  cases hu with
  | fn f vs cs g hs hg hr => exact .t _ _ (RT.fn' (allT_rts (rvs_of hs hg hr) hx))

mutual
theorem give_ok (ρ' : Locs) : ∀ (v : V) {F : Nat → Prop} {h h' : Heap} {u : Value} {v' : V}, St w F ρ Ow h → RV w F ρ u v → give h v = some (v', h') →
    ∃ F', RV w F' ρ' u v' ∧ St w F' ρ Ow h' ∧ Nxt Ow w F ρ w F' ρ
  | .sl r off len cap, F, h, h', u, v', hS, hu, hg => by
    simp only [give] at hg
    split at hg
    · rename_i sz es hb; cases hg; obtain ⟨F', k1, k2, k3⟩ := give_row hS hb hu; exact ⟨F', any_t k1, k2, k3⟩
    · rename_i sz es hb; cases hg; exact ⟨F, any_t (give_fz hS hb hu), hS, Nxt.refl _ _ _ _⟩
    · cases hg
  | .nil sz, F, h, h', u, v', hS, hu, hg => by
    simp only [give] at hg; cases hg
    exact ⟨F, nil_list hu, hS, Nxt.refl _ _ _ _⟩
  | .agg cs, F, h, h', u, v', hS, hu, hg => by
    simp only [give] at hg
    split at hg
    · rename_i cs' h1 he; cases hg
      cases hu with
      | agg vs cs g hs hg' hr =>
        obtain ⟨F', k1, k2, k3⟩ := gives_ok ρ' cs hS (rvs_of hs hg' hr) he
        exact ⟨F', RV.agg' k1, k2, k3⟩
    · cases hg
  | .tup cs, F, h, h', u, v', hS, hu, hg => by
    simp only [give] at hg
    split at hg
    · rename_i cs' h1 he; cases hg
      cases hu with
      | tup vs cs g hs hg' hr =>
        obtain ⟨F', k1, k2, k3⟩ := gives_ok ρ' cs hS (rvs_of hs hg' hr) he
        exact ⟨F', RV.tup' k1, k2, k3⟩
    · cases hg
  | .t x, F, h, h', u, v', hS, hu, hg => by
    simp only [give] at hg; cases hg
    exact ⟨F, any_t hu, hS, Nxt.refl _ _ _ _⟩
  | .fn f caps, F, h, h', u, v', hS, hu, hg => by
    simp only [give] at hg
    split at hg
    · rename_i xs hx; cases hg; exact ⟨F, fn_t hu hx, hS, Nxt.refl _ _ _ _⟩
    · cases hg
  | .ptr _ _ _, F, h, h', u, v', hS, hu, hg => by simp [give] at hg
  | .und, F, h, h', u, v', hS, hu, hg => by simp [give] at hg
  | .bad, F, h, h', u, v', hS, hu, hg => by simp [give] at hg
theorem gives_ok (ρ' : Locs) : ∀ (vs : List V) {F : Nat → Prop} {h h' : Heap} {us : List Value} {vs' : List V}, St w F ρ Ow h → RVs w F ρ us vs → give.gives h vs = some (vs', h') →
    ∃ F', RVs w F' ρ' us vs' ∧ St w F' ρ Ow h' ∧ Nxt Ow w F ρ w F' ρ
  | [], F, h, h', us, vs', hS, hu, hg => by
    simp only [give.gives] at hg; cases hg; cases hu
    exact ⟨F, .nil, hS, Nxt.refl _ _ _ _⟩
  | v :: vs, F, h, h', us, vs', hS, hu, hg => by
    simp only [give.gives] at hg
    split at hg
    · rename_i x h1 he
      split at hg
      · rename_i xs h2 he2; cases hg
        cases hu with
        | cons hv hvs =>
          obtain ⟨F1, k1, k2, k3⟩ := give_ok ρ' v hS hv he
          obtain ⟨F2, k4, k5, k6⟩ := gives_ok ρ' vs k2 (k3.rvs hvs) he2
          exact ⟨F2, .cons (k1.mono k6.agree k6.grow (Ext.refl _)) k4, k5, k3.trans k6⟩
      · cases hg
    · cases hg
end

mutual
theorem asArg_ok (ρ' : Locs) : ∀ (v : V) {u : Value} {v' : V}, RV w F ρ u v → asArg v = some v' → RV w F ρ' u v'
  | .nil sz, u, v', hu, hg => by simp only [asArg] at hg; cases hg; exact nil_list hu
  | .agg cs, u, v', hu, hg => by
    simp only [asArg] at hg
    split at hg
    · rename_i cs' he; cases hg
      cases hu with
      | agg vs cs g hs hg' hr => exact RV.agg' (asArgs_ok ρ' cs (rvs_of hs hg' hr) he)
    · cases hg
  | .tup cs, u, v', hu, hg => by
    simp only [asArg] at hg
    split at hg
    · rename_i cs' he; cases hg
      cases hu with
      | tup vs cs g hs hg' hr => exact RV.tup' (asArgs_ok ρ' cs (rvs_of hs hg' hr) he)
    · cases hg
  | .t x, u, v', hu, hg => by simp only [asArg] at hg; cases hg; exact any_t hu
  | .fn f caps, u, v', hu, hg => by
    simp only [asArg] at hg
    split at hg
    · rename_i xs hx; cases hg; exact fn_t hu hx
    · cases hg
  | .sl _ _ _ _, u, v', hu, hg => by simp [asArg] at hg
  | .ptr _ _ _, u, v', hu, hg => by simp [asArg] at hg
  | .und, u, v', hu, hg => by simp [asArg] at hg
  | .bad, u, v', hu, hg => by simp [asArg] at hg
theorem asArgs_ok (ρ' : Locs) : ∀ (vs : List V) {us : List Value} {vs' : List V}, RVs w F ρ us vs → asArg.asArgs vs = some vs' → RVs w F ρ' us vs'
  | [], us, vs', hu, hg => by simp only [asArg.asArgs] at hg; cases hg; cases hu; exact .nil
  | v :: vs, us, vs', hu, hg => by
    simp only [asArg.asArgs] at hg
    split at hg
    · rename_i x he
      split at hg
      · rename_i xs he2; cases hg
        cases hu with
        | cons hv hvs => exact .cons (asArg_ok ρ' v hv he) (asArgs_ok ρ' vs hvs he2)
      · cases hg
    · cases hg
end
end Go.Proofs.YtkpmachalipmpaaGreatDoor.E
/- The evaluator's operations are those of the machine: new rows, stores, appends. Conditions: those of each lemma. -/
namespace Go.Proofs.YtkpmachalipmpaaGreatDoor.E
set_option linter.unusedVariables false
set_option linter.unusedSimpArgs false

variable {P : Program} {w : World} {F : Nat → Prop} {ρ : Locs} {Ow : Own} {h : Heap}

/-! ### What a store does to a block -/
theorem setCell_heap (w : World) (b o : Nat) (v : Value) (c : Array Value) (el : TypeId) (fr : Nat × Nat) (hb : w.heap[b]? = some (.cells c el fr)) :
    (w.setCell ⟨b, o, none⟩ v).heap[b]? = some (.cells (c.setIfInBounds o v) el fr) := by
  simp [World.setCell, Array.getElem?_modify, hb]
theorem setCell_far (w : World) (b o : Nat) (v : Value) (k : Nat) (hk : k ≠ b) : (w.setCell ⟨b, o, none⟩ v).heap[k]? = w.heap[k]? := by
  simp [World.setCell, Array.getElem?_modify, Ne.symm hk]
theorem setCells_size : ∀ (vs : List Value) (b o : Nat) (w : World), (w.setCells b o vs).heap.size = w.heap.size
  | [], _, _, _ => rfl
  | v :: r, b, o, w => by rw [World.setCells, setCells_size r]; simp [World.setCell]
theorem setCells_rest : ∀ (vs : List Value) (b o : Nat) (w : World), (w.setCells b o vs).os = w.os ∧ (w.setCells b o vs).tape = w.tape ∧ (w.setCells b o vs).output = w.output
  | [], _, _, _ => ⟨rfl, rfl, rfl⟩
  | v :: r, b, o, w => by rw [World.setCells]; exact setCells_rest r b (o + 1) _
theorem setCells_far : ∀ (vs : List Value) (b o : Nat) (w : World) (k : Nat), k ≠ b → (w.setCells b o vs).heap[k]? = w.heap[k]?
  | [], _, _, _, _, _ => rfl
  | v :: r, b, o, w, k, hk => by rw [World.setCells, setCells_far r b (o + 1) _ k hk, setCell_far w b o v k hk]
theorem setCells_near : ∀ (vs : List Value) (b o : Nat) (w : World) (c : Array Value) (el : TypeId) (fr : Nat × Nat), w.heap[b]? = some (.cells c el fr) → o + vs.length ≤ c.size →
    ∃ c', (w.setCells b o vs).heap[b]? = some (.cells c' el fr) ∧ c'.size = c.size ∧ ∀ k, c'[k]? = if o ≤ k ∧ k < o + vs.length then vs[k - o]? else c[k]?
  | [], b, o, w, c, el, fr, hb, _ => ⟨c, hb, rfl, fun k => by simp only [List.length_nil, Nat.add_zero]; rw [if_neg (by omega)]⟩
  | v :: r, b, o, w, c, el, fr, hb, hl => by
    simp only [List.length_cons] at hl
    obtain ⟨c', h1, h2, h3⟩ := setCells_near r b (o + 1) _ _ el fr (setCell_heap w b o v c el fr hb) (by simp; omega)
    refine ⟨c', h1, by simpa using h2, fun k => ?_⟩
    rw [h3 k]
    simp only [List.length_cons]
    by_cases hk : o = k
    · subst hk
      rw [if_neg (by omega), if_pos (by omega)]
      simp [show o < c.size by omega]
    · by_cases hk' : o + 1 ≤ k ∧ k < o + 1 + r.length
      · rw [if_pos hk', if_pos (by omega), show k - o = (k - (o + 1)) + 1 by omega]
        simp
      · rw [if_neg hk', if_neg (by omega), Array.getElem?_setIfInBounds_ne hk]

/-! ### A new block -/
theorem alloc_heap (w : World) (o : Obj) : (w.alloc o).heap = w.heap.push o := rfl
theorem new_world (w : World) (o : Obj) : (w.alloc o).heap[w.heap.size]? = some o := by simp [alloc_heap]
theorem nH_get {N : Option Nat} {h : Heap} {blk : Blk} (hN : ∀ i, N = some i → i < h.length) (r : Nat) : (nH N h blk)[r]? = if r = nI N h then some blk else h[r]? := by
  cases N with
  | none =>
    by_cases he : r = nI none h
    · rw [if_pos he]
      have he' : r = h.length := he
      subst he'
      show (h ++ [blk])[h.length]? = some blk
      simp
    · rw [if_neg he]
      have he' : r ≠ h.length := he
      show (h ++ [blk])[r]? = h[r]?
      rcases Nat.lt_or_ge r h.length with hlt | hge
      · rw [List.getElem?_append_left hlt]
      · rw [List.getElem?_append_right hge, List.getElem?_eq_none (by simp; omega), List.getElem?_eq_none hge]
  | some i =>
    have hi := hN i rfl
    by_cases he : r = nI (some i) h
    · rw [if_pos he]
      have he' : r = i := he
      subst he'
      show (h.set r blk)[r]? = some blk
      simp [hi]
    · rw [if_neg he]
      have he' : ¬ i = r := fun e => he e.symm
      show (h.set i blk)[r]? = h[r]?
      rw [List.getElem?_set_ne he']
theorem nH_len {N : Option Nat} {h : Heap} {blk : Blk} : h.length ≤ (nH N h blk).length ∧ (∀ i, N = some i → i < h.length → nI N h < (nH N h blk).length) ∧ (N = none → nI N h < (nH N h blk).length) := by
  cases N <;> simp [nH, nI]
/-- an operation may lay a new row -/
structure OkO (Ow : Own) (w : World) (ρ : Locs) (h : Heap) : Prop where
  blk : ∀ b, w.heap.size ≤ b → Ow b
  free : ¬ Ow.z (nI Ow.N h)
  dead : ∀ i, Ow.N = some i → h[i]? = some .dead ∧ ρ i = none
/-- code may lay new rows -/
structure OkC (Ow : Own) (w : World) : Prop where
  blk : ∀ b, w.heap.size ≤ b → Ow b
  z : ∀ r, ¬ Ow.z r
  n : Ow.N = none
theorem OkC.op (hO : OkC Ow w) : OkO Ow w ρ h := ⟨hO.blk, hO.z _, fun i hi => by rw [hO.n] at hi; cases hi⟩
theorem OkC.mono {w' : World} (hO : OkC Ow w) (hs : w.heap.size ≤ w'.heap.size) : OkC Ow w' := ⟨fun b hb => hO.blk b (Nat.le_trans hs hb), hO.z, hO.n⟩
theorem OkC.own (b : Nat → Prop) (hb : ∀ k, w.heap.size ≤ k → b k) : OkC (own b) w := ⟨hb, fun _ h => h, rfl⟩
theorem OkO.drew (hO : OkO Ow w ρ h) : OkO Ow w.drew ρ h := ⟨hO.blk, hO.free, hO.dead⟩
theorem OkO.lt (hO : OkO Ow w ρ h) : ∀ i, Ow.N = some i → i < h.length := fun i hi => (List.getElem?_eq_some_iff.1 (hO.dead i hi).1).1
theorem OkO.vac (hO : OkO Ow w ρ h) (hS : St w F ρ Ow h) : ρ (nI Ow.N h) = none := by
  cases hN : Ow.N with
  | none => exact hS.out _ (Nat.le_refl _)
  | some i => exact (hO.dead i hN).2
theorem OkO.set (hO : OkO Ow w ρ h) {r : Nat} {b b' : Blk} (hb : h[r]? = some b) (hd : b ≠ .dead) : OkO Ow w ρ (h.set r b') := by
  refine ⟨hO.blk, ?_, fun i hi => ?_⟩
  · have := hO.free
    cases hN : Ow.N <;> simp [hN, nI] at this ⊢ <;> exact this
  · have hne : r ≠ i := fun e => by
      subst e; rw [(hO.dead r hi).1] at hb; cases hb; exact hd rfl
    rw [List.getElem?_set_ne hne]
    exact hO.dead i hi
theorem OkO.new (hO : OkO Ow w ρ h) (hS : St w F ρ Ow h) {l : Option Loc} : Ext ρ (fun r => if r = nI Ow.N h then some l else ρ r) ∧ (∀ r, Ow.z r → (fun r => if r = nI Ow.N h then some l else ρ r) r = ρ r) := by
  refine ⟨fun r l' hr => ?_, fun r hr => ?_⟩
  · by_cases he : r = nI Ow.N h
    · subst he; rw [hO.vac hS] at hr; cases hr
    · simp [he, hr]
  · have : r ≠ nI Ow.N h := fun e => hO.free (e ▸ hr)
    simp [this]
theorem OkO.out (hO : OkO Ow w ρ h) (hS : St w F ρ Ow h) {blk : Blk} {h0 : Heap} (hh : h0.length = h.length) {l : Option Loc} {r : Nat} (hr : (nH Ow.N h0 blk).length ≤ r) : (fun r => if r = nI Ow.N h then some l else ρ r) r = none := by
  have h1 : r ≠ nI Ow.N h ∧ h.length ≤ r := by
    cases hN : Ow.N with
    | none => simp [hN, nH, nI] at hr ⊢; omega
    | some i =>
      have := hO.lt i hN
      simp [hN, nH, nI] at hr ⊢; omega
  simp only [h1.1, if_false]
  exact hS.out r h1.2
theorem nxt_new (hS : St w F ρ Ow h) (hO : OkO Ow w ρ h) (o : Obj) (l : Option Loc) :
    Nxt Ow w F ρ (w.alloc o) F (fun r => if r = nI Ow.N h then some l else ρ r) :=
  ⟨rfl, rfl, rfl, by simp [alloc_heap], fun b hb _ => by simp [alloc_heap, Array.getElem?_push, Nat.ne_of_lt hb],
    fun b hb => by have := hS.fsz b hb; simp [alloc_heap, Array.getElem?_push, Nat.ne_of_lt this], fun _ x => x, fun _ x => .inl x, (hO.new hS).1, (hO.new hS).2⟩
theorem new_st (hS : St w F ρ Ow h) (hO : OkO Ow w ρ h) (arr : Array Value) (el : TypeId) (sz n : Nat) (blk : Blk)
    (hblk : ∀ ρ' : Locs, Ext ρ ρ' → ρ' (nI Ow.N h) = some (some ⟨w.heap.size, 0, sz, n, arr.size⟩) → ¬ F w.heap.size → Ow w.heap.size → Agree F w (w.alloc (.cells arr el)) → RB (w.alloc (.cells arr el)) F ρ' Ow (nI Ow.N h) blk) :
    ∃ ρ', St (w.alloc (.cells arr el)) F ρ' Ow (nH Ow.N h blk) ∧ Nxt Ow w F ρ (w.alloc (.cells arr el)) F ρ' ∧ ρ' (nI Ow.N h) = some (some ⟨w.heap.size, 0, sz, n, arr.size⟩) := by
  have hN := nxt_new hS hO (.cells arr el) (some ⟨w.heap.size, 0, sz, n, arr.size⟩)
  have hnF : ¬ F w.heap.size := fun x => by have := hS.fsz _ x; omega
  refine ⟨_, hS.next hN (fun r hr => hO.out hS rfl hr) (fun b hb => Nat.lt_of_lt_of_le (hS.fsz b hb) hN.size) (fun r b hr => ?_), hN, by simp⟩
  rw [nH_get hO.lt] at hr
  split at hr
  · rename_i he
    subst he
    cases hr
    refine .inr ⟨hblk _ hN.ext (by simp) hnF (hO.blk _ (Nat.le_refl _)) hN.agree, fun L hL hw r' b' L' hne hr' hw' hL' => ?_⟩
    simp at hL
    subst hL
    simp only [hne, if_false] at hL'
    rw [nH_get hO.lt, if_neg hne] at hr'
    obtain ⟨_, _, h3⟩ := (hS.blk r' b' hr').notF hw' hL'
    simp
    omega
  · refine .inl ⟨hr, fun L hL hw => ?_⟩
    obtain ⟨h1, h2, h3⟩ := (hS.blk r b hr).notF hw hL
    exact ⟨by simp [alloc_heap, Array.getElem?_push, Nat.ne_of_lt h3], h1⟩

/-- cells laid one behind the other -/
theorem flat_get {α : Type} : ∀ {es : List (List α)} {sz : Nat}, (∀ e ∈ es, e.length = sz) → ∀ {i j : Nat} {cs : List α} {x : α}, es[i]? = some cs → cs[j]? = some x → es.flatten[i * sz + j]? = some x
  | [], _, _, _, _, _, _, hi, _ => by simp at hi
  | e :: es, sz, hz, i, j, cs, x, hi, hj => by
    have he : e.length = sz := hz e (by simp)
    cases i with
    | zero =>
      simp at hi; subst hi
      have hlt : j < e.length := (List.getElem?_eq_some_iff.1 hj).1
      simp only [List.flatten_cons, Nat.zero_mul, Nat.zero_add]
      rw [List.getElem?_append_left hlt]; exact hj
    | succ i =>
      simp only [List.flatten_cons]
      rw [List.getElem?_append_right (by rw [Nat.add_mul]; omega), he, show (i + 1) * sz + j - sz = i * sz + j by rw [Nat.add_mul]; omega]
      exact flat_get (fun e' he' => hz e' (by simp [he'])) (by simpa using hi) hj
theorem flat_len {α : Type} : ∀ {es : List (List α)} {sz : Nat}, (∀ e ∈ es, e.length = sz) → es.flatten.length = es.length * sz
  | [], _, _ => by simp
  | e :: es, sz, hz => by
    simp only [List.flatten_cons, List.length_append, List.length_cons]
    rw [flat_len (fun e' he' => hz e' (by simp [he'])), hz e (by simp), Nat.add_mul]
    omega
theorem all2_get' {α β : Type} {R : α → β → Prop} {us : List α} {vs : List β} (h : All2 R us vs) {k : Nat} {v : β} (hv : vs[k]? = some v) : ∃ u, us[k]? = some u ∧ R u v := forall₂_get h k v hv

theorem rowOK_new {α : Type} {R : Value → α → Prop} {arr : Array Value} {el : TypeId} {es : List (List α)} {sz : Nat} (hz : ∀ e ∈ es, e.length = sz) (hsz : es.length * sz ≤ arr.size)
    (hr : All2 R (arr.toList.take (es.length * sz)) es.flatten) : RowOK (w.alloc (.cells arr el)) ⟨w.heap.size, 0, sz, es.length, arr.size⟩ es R := by
  refine ⟨rfl, hz, arr, el, (0, 0), new_world w _, rfl, fun k _ => by simp, by simpa using hsz, fun i j cs x hi hj => ?_⟩
  obtain ⟨u, hu, hru⟩ := all2_get' hr (flat_get hz hi hj)
  refine ⟨u, ?_, hru⟩
  rw [List.getElem?_take] at hu
  split at hu
  · simpa using hu
  · cases hu

theorem new_ts (hS : St w F ρ Ow h) (hO : OkO Ow w ρ h) {arr : Array Value} {el : TypeId} {es : List (List T)} {sz : Nat} (hz : ∀ e ∈ es, e.length = sz) (hsz : es.length * sz ≤ arr.size)
    (hr : RTs w F (arr.toList.take (es.length * sz)) es.flatten) :
    ∃ ρ', St (w.alloc (.cells arr el)) F ρ' Ow (nH Ow.N h (.ts sz es)) ∧ Nxt Ow w F ρ (w.alloc (.cells arr el)) F ρ' ∧ ρ' (nI Ow.N h) = some (some ⟨w.heap.size, 0, sz, es.length, arr.size⟩) :=
  new_st hS hO arr el sz es.length (.ts sz es) fun ρ' hρ hL hF hOw hA =>
    .inl ⟨_, hL, rfl, rowOK_new hz hsz (forall₂_imp hr fun _ _ x => x.mono hA fun _ y => y), hF, hOw⟩
theorem new_vs (hS : St w F ρ Ow h) (hO : OkO Ow w ρ h) {arr : Array Value} {el : TypeId} {cs : List V} (hr : RVs w F ρ arr.toList cs) :
    ∃ ρ', St (w.alloc (.cells arr el)) F ρ' Ow (nH Ow.N h (.vs cs.length [cs])) ∧ Nxt Ow w F ρ (w.alloc (.cells arr el)) F ρ' ∧ ρ' (nI Ow.N h) = some (some ⟨w.heap.size, 0, cs.length, 1, arr.size⟩) := by
  have hl := forall₂_len hr
  refine new_st hS hO arr el cs.length 1 (.vs cs.length [cs]) fun ρ' hρ hL hF hOw hA => .inl ⟨_, hL, rfl, ?_, hF, hOw⟩
  have := rowOK_new (w := w) (R := RV (w.alloc (.cells arr el)) F ρ') (arr := arr) (el := el) (es := [cs]) (sz := cs.length) (fun e he => by simp at he; rw [he]) (by simp at hl ⊢; omega)
    (by simp only [List.length_singleton, Nat.one_mul, List.flatten_singleton]
        rw [List.take_of_length_le (by simp at hl ⊢; omega)]
        exact forall₂_imp hr fun _ _ x => x.mono hA (fun _ y => y) hρ)
  exact this

/-! ### A store -/
theorem splice_len {α : Type} {cs xs : List α} {j : Nat} (hj : j + xs.length ≤ cs.length) : (splice cs j xs).length = cs.length := by
  simp [splice]; omega
theorem splice_get {α : Type} {cs xs : List α} {j : Nat} (hj : j + xs.length ≤ cs.length) (k : Nat) : (splice cs j xs)[k]? = if j ≤ k ∧ k < j + xs.length then xs[k - j]? else cs[k]? := by
  unfold splice
  rw [List.append_assoc]
  by_cases h1 : k < j
  · rw [List.getElem?_append_left (by simp; omega), List.getElem?_take, if_pos h1, if_neg (by omega)]
  · rw [List.getElem?_append_right (by simp; omega)]
    simp only [List.length_take, Nat.min_eq_left (show j ≤ cs.length by omega)]
    by_cases h2 : k < j + xs.length
    · rw [List.getElem?_append_left (by omega), if_pos (by omega)]
    · rw [List.getElem?_append_right (by omega), if_neg (by omega), List.getElem?_drop]
      congr 1; omega
theorem rowOK_store {α : Type} {R R' : Value → α → Prop} {L : Loc} {es : List (List α)} (hr : RowOK w L es R) (hR : ∀ u x, R u x → R' u x) {i j : Nat} {cs xs : List α} {us : List Value} (hi : es[i]? = some cs) (hj : j + xs.length ≤ cs.length)
    (hu : All2 R' us xs) : RowOK (w.setCells L.b (L.o + (i * L.sz + j)) us) L (es.set i (splice cs j xs)) R' := by
  obtain ⟨hn, hl, c, el, fr, hh, hs, hf, hz, hc⟩ := hr
  have hul := forall₂_len hu
  have hcl := hl cs (List.mem_of_getElem? hi)
  have hil : i < es.length := (List.getElem?_eq_some_iff.1 hi).1
  have hin : (i + 1) * L.sz ≤ L.n * L.sz := Nat.mul_le_mul_right _ (by omega)
  rw [Nat.add_mul] at hin
  obtain ⟨c', k1, k2, k3⟩ := setCells_near us L.b (L.o + (i * L.sz + j)) w c el fr hh (by omega)
  refine ⟨by simpa using hn, fun e he => ?_, c', el, fr, k1, by omega, fun k hk => hf k (by omega), hz, fun i' j' cs' x hi' hj' => ?_⟩
  · rcases List.mem_or_eq_of_mem_set he with he | rfl
    · exact hl e he
    · rw [splice_len hj]; exact hcl
  · rw [List.getElem?_set] at hi'
    rw [k3]
    split at hi'
    · rename_i e; subst e
      cases hi'
      rw [splice_get hj] at hj'
      split at hj'
      · rename_i hjj
        rw [if_pos (by omega), show L.o + (i * L.sz + j') - (L.o + (i * L.sz + j)) = j' - j by omega]
        exact forall₂_get hu _ _ hj'
      · rename_i hjj
        rw [if_neg (by omega)]
        obtain ⟨u, h1, h2⟩ := hc i j' _ _ hi hj'
        exact ⟨u, h1, hR _ _ h2⟩
    · rename_i hne
      obtain ⟨u, h1, h2⟩ := hc i' j' _ _ hi' hj'
      have hjl : j' < L.sz := by
        have := (List.getElem?_eq_some_iff.1 hj').1
        rw [hl cs' (List.mem_of_getElem? hi')] at this
        exact this
      rw [if_neg ?_]
      · exact ⟨u, h1, hR _ _ h2⟩
      · rcases Nat.lt_or_ge i' i with hlt | hge
        · have : (i' + 1) * L.sz ≤ i * L.sz := Nat.mul_le_mul_right _ (by omega)
          rw [Nat.add_mul] at this
          omega
        · have : (i + 1) * L.sz ≤ i' * L.sz := Nat.mul_le_mul_right _ (by omega)
          rw [Nat.add_mul] at this
          omega
/-- the world behind a store into a row of the call's own -/
theorem nxt_store (hS : St w F ρ Ow h) {L : Loc} (hF : ¬ F L.b) (hOw : Ow L.b) (o : Nat) (us : List Value) : Nxt Ow w F ρ (w.setCells L.b o us) F ρ := by
  obtain ⟨h1, h2, h3⟩ := setCells_rest us L.b o w
  refine ⟨h1, h2, h3, by rw [setCells_size]; exact Nat.le_refl _, fun b _ hb => setCells_far us L.b o w b fun e => hb (e ▸ hOw), fun b hb => setCells_far us L.b o w b fun e => hF (e ▸ hb), fun _ x => x, fun _ x => .inl x, Ext.refl _, fun _ _ => rfl⟩
theorem store_st (hS : St w F ρ Ow h) {r : Nat} {b blk : Blk} {L : Loc} (hb : h[r]? = some b) (hw : writes b = true) (hL : ρ r = some (some L)) (o : Nat) (us : List Value)
    (hblk : Nxt Ow w F ρ (w.setCells L.b o us) F ρ → RB (w.setCells L.b o us) F ρ Ow r blk) : St (w.setCells L.b o us) F ρ Ow (h.set r blk) ∧ Nxt Ow w F ρ (w.setCells L.b o us) F ρ := by
  obtain ⟨h1, h2, h3⟩ := (hS.blk r b hb).notF hw hL
  have hN := nxt_store hS h1 h2 o us
  refine ⟨hS.next hN (fun r' hr' => hS.out r' (by simpa using hr')) (fun b hb => by rw [setCells_size]; exact hS.fsz b hb) (fun r' b' hr' => ?_), hN⟩
  rw [List.getElem?_set] at hr'
  split at hr'
  · rename_i e; subst e
    split at hr'
    · cases hr'
      refine .inr ⟨hblk hN, fun L1 hL1 hw1 r2 b2 L2 hne hr2 hw2 hL2 he => ?_⟩
      rw [hL] at hL1; cases hL1
      rw [List.getElem?_set] at hr2
      split at hr2
      · rename_i e2; exact hne e2.symm
      · exact hne (hS.inj r2 r b2 b L2 L hr2 hb hw2 hw hL2 hL he)
    · cases hr'
  · rename_i hne
    refine .inl ⟨hr', fun L' hL' hw' => ?_⟩
    obtain ⟨k1, k2, k3⟩ := (hS.blk r' b' hr').notF hw' hL'
    refine ⟨setCells_far us L.b o w L'.b fun e => hne (hS.inj r r' b b' L L' hb hr' hw hw' hL hL' e.symm), k1⟩

theorem giveT_ok (hS : St w F ρ Ow h) {us : List Value} {vs : List V} (hu : RVs w F ρ us vs) {xs : List T} {h' : Heap} (hg : giveT h vs = some (xs, h')) :
    ∃ F', RTs w F' us xs ∧ St w F' ρ Ow h' ∧ Nxt Ow w F ρ w F' ρ := by
  unfold giveT at hg
  split at hg
  · rename_i ys h1 he
    split at hg
    · rename_i ts ht; cases hg
      obtain ⟨F', k1, k2, k3⟩ := gives_ok ρ vs hS hu he
      exact ⟨F', allT_rts k1 ht, k2, k3⟩
    · cases hg
  · cases hg

/-- cells that are there, and may be written -/
theorem there_of {c : Array Value} {el : TypeId} {fr : Nat × Nat} {b o n : Nat} (hh : w.heap[b]? = some (.cells c el fr)) (hf : ∀ k, k < c.size → ¬(fr.1 ≤ k ∧ k < fr.2)) (hn : o + n ≤ c.size) : w.there b o n := fun j hj => by
  constructor
  · simp [World.cell?, hh, show o + j < c.size by omega]
  · have := hf (o + j) (by omega)
    simp only [World.frozen?, hh]
    simp only [Bool.and_eq_false_iff, decide_eq_false_iff_not]
    omega
theorem stCells_ok (hS : St w F ρ Ow h) {r i j : Nat} {vs : List V} {h' : Heap} (hs : stCells h r i j vs = some h') {u : Value} (hp : RV w F ρ u (.ptr r i j)) {us : List Value} (hu : RVs w F ρ us vs) :
    ∃ b o F', u = .pointer (some ⟨b, o, none⟩) ∧ w.there b o us.length ∧ St (w.setCells b o us) F' ρ Ow h' ∧ Nxt Ow w F ρ (w.setCells b o us) F' ρ := by
  have hul := forall₂_len hu
  cases hp with
  | ptr r i j L hρ =>
    refine ⟨L.b, L.o + (i * L.sz + j), ?_⟩
    unfold stCells at hs
    split at hs
    · rename_i sz es hb
      split at hs
      · rename_i cs hi
        split at hs
        · rename_i hj
          cases hs
          rcases hS.blk r _ hb with ⟨L', h1, h2, h3, h4, h5⟩ | ⟨h1, _⟩
          · rw [hρ] at h1; cases h1
            have hth : w.there L.b (L.o + (i * L.sz + j)) us.length := by
              obtain ⟨hn, hl, c, el, fr, hh, hsz, hf, hz, hc⟩ := h3
              have hin : (i + 1) * L.sz ≤ L.n * L.sz := Nat.mul_le_mul_right _ (by have := (List.getElem?_eq_some_iff.1 hi).1; omega)
              rw [Nat.add_mul] at hin
              have := hl cs (List.mem_of_getElem? hi)
              exact there_of hh hf (by omega)
            obtain ⟨k1, k2⟩ := store_st hS (blk := .vs sz (es.set i (splice cs j vs))) hb rfl hρ (L.o + (i * L.sz + j)) us fun hN =>
              .inl ⟨L, hρ, h2, rowOK_store h3 (fun _ _ x => hN.rv x) hi hj (hN.rvs hu), h4, h5⟩
            exact ⟨F, rfl, hth, k1, k2⟩
          · rw [hρ] at h1; cases h1
        · cases hs
      · cases hs
    · rename_i sz es hb
      split at hs
      · rename_i cs hi
        split at hs
        · rename_i hj
          split at hs
          · rename_i xs h2 hg
            split at hs
            · rename_i sz' es' hb'
              cases hs
              obtain ⟨F', k1, k2, k3⟩ := giveT_ok hS hu hg
              have hxl := forall₂_len k1
              rcases hS.blk r _ hb with ⟨L', h1, h2', h3, h4, h5⟩ | ⟨h1, _⟩
              · rw [hρ] at h1; cases h1
                have hth : w.there L.b (L.o + (i * L.sz + j)) us.length := by
                  obtain ⟨hn, hl, c, el, fr, hh, hsz, hf, hz, hc⟩ := h3
                  have hin : (i + 1) * L.sz ≤ L.n * L.sz := Nat.mul_le_mul_right _ (by have := (List.getElem?_eq_some_iff.1 hi).1; omega)
                  rw [Nat.add_mul] at hin
                  have := hl cs (List.mem_of_getElem? hi)
                  exact there_of hh hf (by omega)
                have hnF := ((k2.blk r _ hb').notF rfl hρ)
                obtain ⟨k4, k5⟩ := store_st k2 (blk := .ts sz (es.set i (splice cs j xs))) hb' rfl hρ (L.o + (i * L.sz + j)) us fun hN =>
                  .inl ⟨L, hρ, h2', rowOK_store (h3.mono rfl fun _ _ x => k3.rt x) (fun _ _ x => hN.rt x) hi (by omega) (forall₂_imp k1 fun _ _ x => hN.rt x), hnF.1, hnF.2.1⟩
                exact ⟨F', rfl, hth, k4, k3.trans k5⟩
              · rw [hρ] at h1; cases h1
            · cases hs
          · cases hs
        · cases hs
      · cases hs
    · cases hs
end Go.Proofs.YtkpmachalipmpaaGreatDoor.E
/- The evaluator's append is the machine's. Conditions: those of each lemma. -/
namespace Go.Proofs.YtkpmachalipmpaaGreatDoor.E
set_option linter.unusedVariables false
set_option linter.unusedSimpArgs false

variable {P : Program} {w : World} {F : Nat → Prop} {ρ : Locs} {Ow : Own} {h : Heap}

theorem nxt_drew (hS : St w F ρ Ow h) : St w.drew F ρ Ow h ∧ Nxt Ow w F ρ w.drew F ρ := by
  have hN : Nxt Ow w F ρ w.drew F ρ := ⟨rfl, rfl, rfl, Nat.le_refl _, fun _ _ _ => rfl, fun _ _ => rfl, fun _ x => x, fun _ x => .inl x, Ext.refl _, fun _ _ => rfl⟩
  exact ⟨hS.next hN hS.out hS.fsz (fun r b hr => .inl ⟨hr, fun L hL hw => ⟨rfl, ((hS.blk r b hr).notF hw hL).1⟩⟩), hN⟩
theorem kill_st (hS : St w F ρ Ow h) (r : Nat) : St w F ρ Ow (h.set r .dead) :=
  hS.next (Nxt.refl Ow w F ρ) (fun r' hr' => hS.out r' (by simpa using hr')) hS.fsz fun r' b' hr' => by
    rw [List.getElem?_set] at hr'
    split at hr'
    · rename_i e; subst e
      split at hr'
      · cases hr'; exact .inr ⟨trivial, fun L' _ hw => by simp [writes] at hw⟩
      · cases hr'
    · exact .inl ⟨hr', fun L' hL' hw => ⟨rfl, ((hS.blk r' b' hr').notF hw hL').1⟩⟩
/-- a row that is nowhere: it has no elements -/
theorem ghost_st (hS : St w F ρ Ow h) (hO : OkO Ow w ρ h) (sz : Nat) : ∃ ρ', St w F ρ' Ow (nH Ow.N h (.ts sz [])) ∧ Nxt Ow w F ρ w F ρ' ∧ ρ' (nI Ow.N h) = some none := by
  have hN : Nxt Ow w F ρ w F (fun r => if r = nI Ow.N h then some none else ρ r) := ⟨rfl, rfl, rfl, Nat.le_refl _, fun _ _ _ => rfl, fun _ _ => rfl, fun _ x => x, fun _ x => .inl x, (hO.new hS).1, (hO.new hS).2⟩
  refine ⟨_, hS.next hN (fun r hr => hO.out hS rfl hr) hS.fsz (fun r b hr => ?_), hN, by simp⟩
  rw [nH_get hO.lt] at hr
  split at hr
  · rename_i he
    subst he
    cases hr
    exact .inr ⟨.inr ⟨by simp, rfl⟩, fun L hL => by simp at hL⟩
  · exact .inl ⟨hr, fun L hL hw => ⟨rfl, ((hS.blk r b hr).notF hw hL).1⟩⟩

/-- what is appended, in memory -/
theorem src_ok0 (hS : St w F ρ Ow h) {el tx : TypeId} {x : V} {xs : List (List T)} (hx : srcOf0 P el tx x h = some xs) {u : Value} (hu : RV w F ρ u x) (hel : szOf P el ≠ 0) :
    (∃ news, Src P (szOf P el) tx u xs.length news w ∧ RTs w F news xs.flatten ∧ ∀ e ∈ xs, e.length = szOf P el) := by
  unfold srcOf0 at hx
  split at hx
  rotate_left
  · split at hx
    · rename_i l
      split at hx
      · rename_i hi
        cases hx
        cases hu with
        | t u x hx =>
          cases hx with
          | str s l hl =>
            subst hl
            have hk : P.underlying tx = some .string := by
              have := hi.1
              unfold isStr at this
              split at this
              · assumption
              · simp at this
            have hflat : (List.map (fun b : UInt8 => [T.int .u8 (b.toNat : Int)]) s.data.toList).flatten = s.data.toList.map fun b => T.int .u8 (b.toNat : Int) := by
              induction s.data.toList with
              | nil => rfl
              | cons a l ih => simp [ih]
            refine ⟨byteCells s, ?_, ?_, fun e he => ?_⟩
            · rw [hi.2]
              have := Src.ofString (P := P) w hk s
              rwa [show (List.map (fun b : UInt8 => [T.int .u8 (b.toNat : Int)]) s.data.toList).length = s.size by simp]
            · rw [hflat]
              unfold byteCells
              generalize s.data.toList = l
              induction l with
              | nil => exact .nil
              | cons a l ih => exact .cons (.int _ _) ih
            · simp only [List.mem_map] at he
              obtain ⟨b, _, rfl⟩ := he
              simp [hi.2]
      · cases hx
    · cases hx
  rename_i e' hel'
  have he' : P.underlying tx = some (.slice e') := by
    unfold elOf at hel'
    split at hel'
    · split at hel'
      · cases hel'; assumption
      · cases hel'
    · cases hel'
  split at hx
  · rename_i sz es
    split at hx
    · rename_i hsz
      cases hx
      cases hu with
      | t u x hx =>
        cases hx with
        | list a n c sz es g hn hc h0 hz hr =>
          subst hn
          by_cases hne : xs = []
          · subst hne
            refine ⟨[], ?_, .nil, fun e he => by cases he⟩
            cases a with
            | none => exact Src.ofNil w he' c
            | some ad => exact Src.ofSlice w he' ad 0 c [] (by simp) (fun j u hj => by simp at hj) (fun u hu => by cases hu)
          · have hsz' : sz = szOf P el := by
              simp at hsz
              rcases hsz with h1 | h1
              · exact h1
              · exact absurd h1 hne
            subst hsz'
            obtain ⟨b, o, rfl, hb, hcell⟩ := h0 (List.length_pos_iff.2 hne)
            have hlen := flat_len hz
            have hpos : 0 < szOf P el := by omega
            have hlook : ∀ k, k < xs.length * szOf P el → ∃ y, xs.flatten[k]? = some y ∧ RT w F (g (k / szOf P el) (k % szOf P el)) y ∧ w.cell? ⟨b, o + k, none⟩ = some (g (k / szOf P el) (k % szOf P el)) := fun k hk => by
              have h1 : k / szOf P el < xs.length := (Nat.div_lt_iff_lt_mul hpos).2 hk
              have h2 : k % szOf P el < szOf P el := Nat.mod_lt _ hpos
              have h3 := Nat.div_add_mod k (szOf P el)
              have h4 : (xs[k / szOf P el]'h1).length = szOf P el := hz _ (List.getElem_mem h1)
              have hget := flat_get hz (List.getElem?_eq_getElem h1) (List.getElem?_eq_getElem (show k % szOf P el < (xs[k / szOf P el]'h1).length by omega))
              rw [show k / szOf P el * szOf P el + k % szOf P el = k by rw [Nat.mul_comm]; omega] at hget
              refine ⟨_, hget, hr _ _ _ _ (List.getElem?_eq_getElem h1) (List.getElem?_eq_getElem (by omega)), ?_⟩
              have := hcell (k / szOf P el) (k % szOf P el) h1 h2
              rw [show k / szOf P el * szOf P el + k % szOf P el = k by rw [Nat.mul_comm]; omega] at this
              exact this
            refine ⟨(List.range (xs.length * szOf P el)).map fun k => g (k / szOf P el) (k % szOf P el), ?_, forall₂_of (by simp [hlen]) fun k u v hu hv => ?_, hz⟩
            · refine Src.ofSlice w he' _ _ _ _ (by simp) (fun j u hj => ?_) (fun u hu => ?_)
              · have hjl : j < xs.length * szOf P el := by
                  have := (List.getElem?_eq_some_iff.1 hj).1; simpa using this
                obtain ⟨y, _, _, h3⟩ := hlook j hjl
                simp [hjl] at hj
                subst hj
                rw [Addr.add_mid]; exact h3
              · simp only [List.mem_map, List.mem_range] at hu
                obtain ⟨k, hk, rfl⟩ := hu
                obtain ⟨y, _, h2, _⟩ := hlook k hk
                exact (rt_cells h2).2
            · have hkl : k < xs.length * szOf P el := by
                have := (List.getElem?_eq_some_iff.1 hu).1; simpa using this
              obtain ⟨y, h1, h2, _⟩ := hlook k hkl
              simp [hkl] at hu
              subst hu
              rw [h1] at hv; cases hv; exact h2
    · cases hx
  · cases hx
    cases hu with
    | nil sz => exact ⟨[], Src.ofNil w he' 0, .nil, fun e he => by cases he⟩
  · rename_i r off len cap
    have main : ∀ sz (es : List (List T)), ((∃ L, ρ r = some (some L) ∧ L.sz = sz ∧ RowOK w L es (RT w F)) ∨ (ρ r = some none ∧ es = [])) → sz = szOf P el → xs = (es.drop off).take len →
        ∃ news, Src P (szOf P el) tx u xs.length news w ∧ RTs w F news xs.flatten ∧ ∀ e ∈ xs, e.length = szOf P el := by
      intro sz es hrow hsz hxs
      cases hu with
      | slP r cap a hρ hc =>
        simp at hxs; subst hxs
        refine ⟨[], ?_, .nil, fun e he => by cases he⟩
        cases a with
        | none => exact Src.ofNil w he' 0
        | some ad => exact Src.ofSlice w he' ad 0 0 [] (by simp) (fun j u hj => by simp at hj) (fun u hu => by cases hu)
      | sl r off len cap L a c hρ ha hl hn hc0 hc1 hz =>
        rcases hrow with ⟨L', h1, h2, h3⟩ | ⟨h1, _⟩
        · rw [hρ] at h1; cases h1
          obtain ⟨hn', hl', cc, el', fr, hh, hs, hf, hzz, hcc⟩ := h3
          have hzlen : ∀ e ∈ xs, e.length = szOf P el := fun e he => by
            rw [hxs] at he; rw [hl' e (List.mem_of_mem_drop (List.mem_of_mem_take he)), h2, hsz]
          have hxl : xs.length = len := by rw [hxs]; simp; omega
          have hpos : 0 < szOf P el := by omega
          by_cases hlen0 : len = 0
          · subst hlen0
            have hxe : xs = [] := List.eq_nil_of_length_eq_zero hxl
            subst hxe
            refine ⟨[], ?_, .nil, fun e he => by cases he⟩
            cases a with
            | none => exact Src.ofNil w he' c
            | some ad => exact Src.ofSlice w he' ad 0 c [] (by simp) (fun j u hj => by simp at hj) (fun u hu => by cases hu)
          · have hc' : c ≠ 0 := by omega
            obtain rfl := ha.resolve_right hc'
            have hsz' : L.sz = szOf P el := h2.trans hsz
            have hlook : ∀ k, k < xs.length * szOf P el → ∃ y u, xs.flatten[k]? = some y ∧ RT w F u y ∧ w.cell? ⟨L.b, L.o + off * L.sz + k, none⟩ = some u := fun k hk => by
              have h1 : k / szOf P el < xs.length := (Nat.div_lt_iff_lt_mul hpos).2 hk
              have h2 : k % szOf P el < szOf P el := Nat.mod_lt _ hpos
              have h3 := Nat.div_add_mod k (szOf P el)
              have h4 : (xs[k / szOf P el]'h1).length = szOf P el := hzlen _ (List.getElem_mem h1)
              have hget := flat_get hzlen (List.getElem?_eq_getElem h1) (List.getElem?_eq_getElem (show k % szOf P el < (xs[k / szOf P el]'h1).length by omega))
              rw [show k / szOf P el * szOf P el + k % szOf P el = k by rw [Nat.mul_comm]; omega] at hget
              have hes : es[off + k / szOf P el]? = some (xs[k / szOf P el]'h1) := by
                have h5 : ((es.drop off).take len)[k / szOf P el]? = some (xs[k / szOf P el]'h1) := hxs ▸ List.getElem?_eq_getElem h1
                rw [List.getElem?_take, List.getElem?_drop, if_pos (by omega)] at h5
                exact h5
              obtain ⟨u, hu, hru⟩ := hcc _ _ _ _ hes (List.getElem?_eq_getElem (show k % szOf P el < (xs[k / szOf P el]'h1).length by omega))
              refine ⟨_, u, hget, hru, ?_⟩
              unfold World.cell?
              rw [hh]
              simp only [Option.isSome_none]
              rw [show L.o + off * L.sz + k = L.o + ((off + k / szOf P el) * L.sz + k % szOf P el) by
                rw [Nat.add_mul, hsz', Nat.mul_comm (k / szOf P el)]; omega]
              simpa using hu
            refine ⟨(List.range (xs.length * szOf P el)).map fun k => (w.cell? ⟨L.b, L.o + off * L.sz + k, none⟩).getD undef, ?_, forall₂_of (by simp [flat_len hzlen]) fun k u v hu hv => ?_, hzlen⟩
            · rw [← hxl]
              refine Src.ofSlice w he' _ _ _ _ (by simp) (fun j u hj => ?_) (fun u hu => ?_)
              · have hjl : j < xs.length * szOf P el := by
                  have := (List.getElem?_eq_some_iff.1 hj).1; simpa using this
                obtain ⟨y, u', _, _, h3⟩ := hlook j hjl
                simp [hjl, h3] at hj
                subst hj
                rw [Addr.add_mid]; exact h3
              · simp only [List.mem_map, List.mem_range] at hu
                obtain ⟨k, hk, rfl⟩ := hu
                obtain ⟨y, u', _, h2, h3⟩ := hlook k hk
                rw [h3]; exact (rt_cells h2).2
            · have hkl : k < xs.length * szOf P el := by
                have := (List.getElem?_eq_some_iff.1 hu).1; simpa using this
              obtain ⟨y, u', h1, h2, h3⟩ := hlook k hkl
              simp [hkl, h3] at hu
              subst hu
              rw [h1] at hv; cases hv; exact h2
        · rw [hρ] at h1; cases h1
    split at hx
    · rename_i sz es hb
      split at hx
      · rename_i hsz
        cases hx
        exact main sz es ((hS.blk r _ hb).imp (fun ⟨L, a, b, c, _⟩ => ⟨L, a, b, c⟩) id) (by simpa using hsz) rfl
      · cases hx
    · rename_i sz es hb
      split at hx
      · rename_i hsz
        cases hx
        exact main sz es ((hS.blk r _ hb).imp (fun ⟨L, a, b, c, _⟩ => ⟨L, a, b, c⟩) id) (by simpa using hsz) rfl
      · cases hx
    · cases hx
  · cases hx

theorem unN_rv {u : Value} {x : V} (hu : RV w F ρ u x) : RV w F ρ u (unN x) := by
  cases hu with
  | t u x hx =>
    cases hx with
    | nlist a n c sz es b hb h => exact .t _ _ h
    | int k n => exact .t _ _ (.int k n)
    | bool b => exact .t _ _ (.bool b)
    | str s l h => exact .t _ _ (.str s l h)
    | list a n c sz es g hn hc h0 hz hr => exact .t _ _ (.list a n c sz es g hn hc h0 hz hr)
    | fp b o cs g hF hc hr => exact .t _ _ (.fp b o cs g hF hc hr)
    | fn f caps vs hv g hg hr => exact .t _ _ (.fn f caps vs hv g hg hr)
    | nilp => exact .t _ _ .nilp
    | nilf => exact .t _ _ .nilf
    | nili => exact .t _ _ .nili
    | nni t v => exact .t _ _ (.nni t v)
  | nil sz => exact .nil sz
  | sl r off len cap L a c hρ ha hl hn hc0 hc1 hz => exact .sl r off len cap L a c hρ ha hl hn hc0 hc1 hz
  | slP r cap a hρ hc => exact .slP r cap a hρ hc
  | ptr r i j L hρ => exact .ptr r i j L hρ
  | agg vs cs g hs hg hr => exact .agg vs cs g hs hg hr
  | tup vs cs g hs hg hr => exact .tup vs cs g hs hg hr
  | fn f vs cs g hs hg hr => exact .fn f vs cs g hs hg hr
  | und => exact .und
  | bad u => exact .bad u
theorem src_ok (hS : St w F ρ Ow h) {el tx : TypeId} {x : V} {xs : List (List T)} (hx : srcOf P el tx x h = some xs) {u : Value} (hu : RV w F ρ u x) (hel : szOf P el ≠ 0) :
    (∃ news, Src P (szOf P el) tx u xs.length news w ∧ RTs w F news xs.flatten ∧ ∀ e ∈ xs, e.length = szOf P el) := src_ok0 hS hx (unN_rv hu) hel
def cutH (h : Heap) (r : Option Nat) : Heap := match r with | some r => h.set r .dead | none => h
/-- a new row behind an append that had no room -/
theorem grow_st (hS : St w F ρ Ow h) (hO : OkO Ow w ρ h) {el : TypeId} {i : TypeInfo} {z : Value} (hi : P.info? el = some i) (hz : i.zero = some z) (hzs : z.cells.size = i.size) (r : Option Nat) (hr0 : ∀ k, r = some k → ∃ b, h[k]? = some b ∧ b ≠ .dead)
    {olds news : List Value} {es : List (List T)} (hes : ∀ e ∈ es, e.length = i.size) {need c0 : Nat} (hn : es.length = need) (hc0 : c0 < need) (hr : RTs w F (olds ++ news) es.flatten) (h1 : 0 < i.size) :
    ∃ ρ', St (w.drew.alloc (.cells ((olds ++ news).toArray ++ Builtin.zeroCells z.cells (grownCap w need c0 el - need)) el)) F ρ' Ow (nH Ow.N (cutH h r) (.ts i.size es)) ∧
      Nxt Ow w F ρ (w.drew.alloc (.cells ((olds ++ news).toArray ++ Builtin.zeroCells z.cells (grownCap w need c0 el - need)) el)) F ρ' ∧
      RV (w.drew.alloc (.cells ((olds ++ news).toArray ++ Builtin.zeroCells z.cells (grownCap w need c0 el - need)) el)) F ρ' (.slice (some ⟨w.heap.size, 0, none⟩) need (grownCap w need c0 el)) (.sl (nI Ow.N h) 0 need none) := by
  obtain ⟨hS1, hN1⟩ := nxt_drew hS
  have hS2 : St w.drew F ρ Ow (cutH h r) := by
    cases r with
    | none => exact hS1
    | some r => exact kill_st hS1 r
  have hlen : nI Ow.N (cutH h r) = nI Ow.N h := by cases r <;> cases Ow.N <;> simp [nI, cutH]
  have hO2 : OkO Ow w.drew ρ (cutH h r) := by
    cases r with
    | none => exact hO.drew
    | some r => obtain ⟨b, h1, h2⟩ := hr0 r rfl; exact (hO.set h1 h2).drew
  have hfl := forall₂_len hr
  have hfl' := flat_len hes
  have hge := grownCap_ge w need c0 el
  have hsize : ((olds ++ news).toArray ++ Builtin.zeroCells z.cells (grownCap w need c0 el - need)).size = grownCap w need c0 el * i.size := by
    simp only [Array.size_append, List.size_toArray, size_zeroCells, hzs, hfl, hfl', hn, ← Nat.add_mul]
    congr 1
    omega
  have hsz : need * i.size ≤ grownCap w need c0 el * i.size := Nat.mul_le_mul_right _ hge
  obtain ⟨ρ', k1, k2, k3⟩ := new_ts (w := w.drew) hS2 hO2 (arr := (olds ++ news).toArray ++ Builtin.zeroCells z.cells (grownCap w need c0 el - need)) (el := el) (es := es) (sz := i.size) hes (by rw [hsize, hn]; exact hsz)
    (by
      rw [Array.toList_append, List.take_append_of_le_length (by simp [hfl, hfl'])]
      rw [List.take_of_length_le (by simp [hfl, hfl'])]
      exact forall₂_imp hr fun _ _ x => hN1.rt x)
  refine ⟨ρ', k1, hN1.trans k2, ?_⟩
  rw [hlen] at k3
  have := RV.sl (w := w.drew.alloc (.cells ((olds ++ news).toArray ++ Builtin.zeroCells z.cells (grownCap w need c0 el - need)) el)) (F := F) (ρ := ρ') (nI Ow.N h) 0 need none _ (some ⟨w.heap.size, 0, none⟩) (grownCap w need c0 el) k3 (.inl (by simp)) hge (by simp [hn]) (fun _ => by simp [hn]; omega)
    (fun k hk => by cases hk) (fun _ => by simp only [Nat.zero_add]; rw [hsize]; exact Nat.le_refl _)
  exact this

/-- a row that is made longer where it lies -/
theorem place_st (hS : St w F ρ Ow h) (hO : OkO Ow w ρ h) {r off sz : Nat} {es : List (List T)} {L : Loc} (hb : h[r]? = some (.ts sz es)) (hL : ρ r = some (some L)) (hsz : L.sz = sz) (hrow : RowOK w L es (RT w F)) (hF : ¬ F L.b) (hOw : Ow L.b)
    {len c : Nat} (hoff : off + len = es.length) {xs : List (List T)} {news : List Value} (hnews : RTs w F news xs.flatten) (hxs : ∀ e ∈ xs, e.length = sz) (hc : len + xs.length ≤ c) (hz : L.o + (off + c) * L.sz ≤ L.z) :
    ∃ ρ', St (w.setCells L.b (L.o + off * L.sz + len * L.sz) news) F ρ' Ow (nH Ow.N (h.set r .dead) (.ts sz (es.drop off ++ xs))) ∧ Nxt Ow w F ρ (w.setCells L.b (L.o + off * L.sz + len * L.sz) news) F ρ' ∧
      RV (w.setCells L.b (L.o + off * L.sz + len * L.sz) news) F ρ' (.slice (some ⟨L.b, L.o + off * L.sz, none⟩) (len + xs.length) c) (.sl (nI Ow.N h) 0 (len + xs.length) none) ∧ w.there L.b (L.o + off * L.sz + len * L.sz) news.length := by
  subst hsz
  have hrow' := hrow
  obtain ⟨hn, hl, cc, el', fr, hh, hs, hf, hzz, hcc⟩ := hrow
  have hfl := forall₂_len hnews
  have hfl' := flat_len hxs
  have hmul : (off + (len + xs.length)) * L.sz ≤ (off + c) * L.sz := Nat.mul_le_mul_right _ (by omega)
  have e1 : (off + (len + xs.length)) * L.sz = off * L.sz + (len * L.sz + xs.length * L.sz) := by rw [Nat.add_mul, Nat.add_mul]
  obtain ⟨c', k1, k2, k3⟩ := setCells_near news L.b (L.o + off * L.sz + len * L.sz) w cc el' fr hh (by omega)
  have hS1 := kill_st hS r
  have hN := nxt_store hS hF hOw (L.o + off * L.sz + len * L.sz) news
  have hO1 : OkO Ow w ρ (h.set r .dead) := hO.set hb (by simp)
  have hnI : nI Ow.N (h.set r .dead) = nI Ow.N h := by cases Ow.N <;> simp [nI]
  have hN' : Nxt Ow w F ρ (w.setCells L.b (L.o + off * L.sz + len * L.sz) news) F (fun r' => if r' = nI Ow.N h then some (some ⟨L.b, L.o + off * L.sz, L.sz, len + xs.length, L.z⟩) else ρ r') :=
    ⟨hN.os, hN.tape, hN.output, hN.size, hN.keep, hN.agree, hN.grow, hN.new, (hO.new hS).1, (hO.new hS).2⟩
  have hrh : r < h.length := (List.getElem?_eq_some_iff.1 hb).1
  refine ⟨_, hS.next hN' (fun r' hr' => hO.out hS (h0 := h.set r .dead) (by simp) hr') (fun b hb => by rw [setCells_size]; exact hS.fsz b hb) (fun r' b' hr' => ?_), hN', ?_, there_of hh hf (by omega)⟩
  · rw [nH_get hO1.lt, hnI] at hr'
    split at hr'
    rotate_left
    · rw [List.getElem?_set] at hr'
      split at hr'
      · rename_i e; subst e
        cases hr'
        exact .inr ⟨trivial, fun L' _ hw => by simp [writes] at hw⟩
      · rename_i hne
        refine .inl ⟨hr', fun L' hL' hw => ⟨setCells_far _ _ _ _ _ fun e => hne (hS.inj r r' _ b' L L' hb hr' rfl hw hL hL' e.symm), ((hS.blk r' b' hr').notF hw hL').1⟩⟩
    · rename_i he
      subst he
      cases hr'
      refine .inr ⟨.inl ⟨⟨L.b, L.o + off * L.sz, L.sz, len + xs.length, L.z⟩, by simp, rfl, ⟨by simp; omega, fun e he => ?_, c', el', fr, k1, by simpa using k2.trans hs, fun k hk => hf k (by omega), by simp only [Nat.add_mul]; omega, fun i j cs x hi hj => ?_⟩, hF, hOw⟩, fun L1 hL1 hw r2 b2 L2 hne hr2 hw2 hL2 => ?_⟩
      · rcases List.mem_append.1 he with he | he
        · exact hl e (List.mem_of_mem_drop he)
        · exact hxs e he
      · simp only
        rw [k3]
        by_cases hil : i < len
        · rw [List.getElem?_append_left (by simp; omega), List.getElem?_drop] at hi
          have hjl : j < L.sz := by
            have := (List.getElem?_eq_some_iff.1 hj).1
            rwa [hl cs (List.mem_of_getElem? hi)] at this
          have : (i + 1) * L.sz ≤ len * L.sz := Nat.mul_le_mul_right _ (by omega)
          rw [Nat.add_mul] at this
          rw [if_neg (by omega)]
          obtain ⟨u, hu, hru⟩ := hcc _ _ _ _ hi hj
          refine ⟨u, ?_, hN.rt hru⟩
          rw [← hu]
          congr 1
          rw [Nat.add_mul]; omega
        · rw [List.getElem?_append_right (by simp; omega)] at hi
          have hi' : xs[i - len]? = some cs := by rw [← hi]; congr 1; simp; omega
          have hjl : j < L.sz := by
            have := (List.getElem?_eq_some_iff.1 hj).1
            rwa [hxs cs (List.mem_of_getElem? hi')] at this
          have hil' := (List.getElem?_eq_some_iff.1 hi').1
          have a1 : (i - len + 1) * L.sz ≤ xs.length * L.sz := Nat.mul_le_mul_right _ (by omega)
          have a2 : i * L.sz = len * L.sz + (i - len) * L.sz := by rw [← Nat.add_mul]; congr 1; omega
          rw [Nat.add_mul] at a1
          rw [if_pos (by omega)]
          obtain ⟨u, hu, hru⟩ := forall₂_get hnews _ _ (flat_get hxs hi' hj)
          refine ⟨u, ?_, hN.rt hru⟩
          rw [← hu]
          congr 1
          omega
      · simp at hL1
        subst hL1
        simp only [hne, if_false] at hL2
        rw [nH_get hO1.lt, hnI, if_neg hne, List.getElem?_set] at hr2
        split at hr2
        · rename_i e; subst e
          cases hr2
          simp [writes] at hw2
        · rename_i hne2
          exact fun e => hne2 (hS.inj r r2 _ b2 L L2 hb hr2 rfl hw2 hL hL2 e.symm)
  · refine .sl _ _ _ _ ⟨L.b, L.o + off * L.sz, L.sz, len + xs.length, L.z⟩ _ _ (by simp) (.inl (by simp)) hc (by simp) (fun _ => by simp; omega) (fun k hk => by cases hk) (fun _ => ?_)
    simp only [Nat.zero_add]
    rw [Nat.add_mul] at hz
    omega
end Go.Proofs.YtkpmachalipmpaaGreatDoor.E

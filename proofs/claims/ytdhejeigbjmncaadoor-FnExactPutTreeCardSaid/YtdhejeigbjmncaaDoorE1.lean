/- An evaluator of loaded Go code over plain values: immutable trees, and rows of the call's own. Definitions alone. Conditions: none. -/
import Derived.Orders
namespace Go.Proofs.YtdhejeigbjmncaaDoor.E

/-- values that nobody writes any more -/
inductive T where
  | int (k : IntKind) (n : Int)
  | bool (b : Bool)
  | str (l : List UInt8)
  | list (sz : Nat) (es : List (List T))
  | nlist (b : Bool) (sz : Nat) (es : List (List T))
  | fp (cs : List T)
  | fn (f : Nat) (caps : List T)
  | nilp
  | nilf
  | nili
  | nni

/-- values while a call runs -/
inductive V where
  | t (x : T)
  | nil (sz : Nat)
  | sl (r off len : Nat) (cap : Option Nat)
  | ptr (r i j : Nat)
  | agg (cs : List V)
  | tup (vs : List V)
  | fn (f : Nat) (caps : List V)
  | und
  | bad

/-- rows of the call's own: written and read; with rows of its own inside; read alone; given away -/
inductive Blk where
  | ts (sz : Nat) (es : List (List T))
  | vs (sz : Nat) (es : List (List V))
  | fz (sz : Nat) (es : List (List T))
  | dead

abbrev Heap := List Blk
abbrev Env := Nat → V

def upd (e : Env) (d : Nat) (v : V) : Env := fun t => if t = d then v else e t
def put (e : Env) : Option Nat → V → Env
  | some d, v => upd e d v
  | none, _ => e

/-! ### Types -/
def szOf (P : Program) (t : TypeId) : Nat := P.cellsOf t
def aggOf (P : Program) (t : TypeId) : Bool := match P.underlying t with | some (.struct _) | some (.array _ _) => true | _ => false
def elOf (P : Program) (t : TypeId) : Option TypeId := match P.underlying t with | some (.slice e) => if (P.info? e).isSome then some e else none | _ => none
def isStr (P : Program) (t : TypeId) : Bool := match P.underlying t with | some .string => true | _ => false
def isInt (P : Program) (t : TypeId) : Option IntKind := match P.underlying t with | some (.int k) => some k | _ => none
/-- a struct's field: its place, its size, and whether it is a struct itself -/
def fOf (P : Program) (s : TypeId) (i : Nat) : Option (Nat × Nat × Bool) :=
  match P.underlying s with
  | some (.struct fs) => match fs[i]? with
    | some f => match P.info? f.type with
      | some inf => match P.underlying f.type with
        | some _ => if inf.size = 0 then none else some (f.offset, inf.size, aggOf P f.type)
        | none => none
      | none => none
    | none => none
  | _ => none

/-- a struct type whose fields' types are all known -/
def strOK (P : Program) (t : TypeId) : Bool :=
  match P.underlying t with
  | some (.struct fs) => fs.toList.all fun f => (P.info? f.type).isSome
  | _ => false
def isBoolT (P : Program) (t : TypeId) : Bool := match P.underlying t with | some .bool => true | _ => false
def isSl (P : Program) (t : TypeId) : Bool := match P.underlying t with | some (.slice _) => true | _ => false
def known (P : Program) (t : TypeId) : Bool := (P.underlying t).isSome

/-- a constant as it is read; a nil slice's element size comes from its type -/
def cstAt (P : Program) (ty : TypeId) : Value → V
  | .int k n => .t (.int k n)
  | .bool b => .t (.bool b)
  | .string s => .t (.str s.data.toList)
  | .slice none 0 0 => match elOf P ty with | some e => .nil (szOf P e) | none => .bad
  | .pointer none => .t .nilp
  | .nilFunc => .t .nilf
  | .nilIface => .t .nili
  | _ => .bad
/-- the types of a type's cells -/
def leafs (P : Program) : Nat → TypeId → List TypeId
  | 0, _ => []
  | n + 1, t => match P.underlying t with
    | some (.struct fs) => fs.toList.flatMap fun f => leafs P n f.type
    | _ => [t]
def isBad : V → Bool
  | .bad => true
  | _ => false
def cstAll (P : Program) : List Value → List TypeId → List V
  | v :: vs, t :: ts => cstAt P t v :: cstAll P vs ts
  | _ :: vs, [] => .bad :: cstAll P vs []
  | [], _ => []
/-- a type's zero value, cell by cell -/
def zeroOf (P : Program) (t : TypeId) : Option (List V) :=
  match P.info? t with
  | some inf => match inf.zero with
    | some z =>
      let cs := cstAll P z.cells.toList (leafs P 8 t)
      if z.cells.size == inf.size && !cs.any isBad then some cs else none
    | none => none
  | none => none
def cst (P : Program) (ty : TypeId) : Value → V
  | .agg cs => .agg (cstAll P cs.toList (leafs P 8 ty))
  | v => cstAt P ty v

def opv (P : Program) (e : Env) (ty : TypeId) : Operand → V
  | .tmp t => e t
  | .const v => cst P ty v
  | .func f => .t (.fn f [])
  | .global _ => .bad

/-! ### Small words -/
def cellsV : V → List V
  | .agg cs => cs
  | v => [v]
def packV (a : Bool) (cs : List V) : Option V :=
  if a then some (.agg cs) else match cs with
    | [v] => some v
    | _ => none
/-- a value of one cell that may be stored -/
def okCell : V → Bool
  | .t _ | .nil _ | .sl _ _ _ _ | .ptr _ _ _ | .fn _ _ => true
  | _ => false
def ofV : V → Option T
  | .t x => some x
  | _ => none
def allT : List V → Option (List T)
  | [] => some []
  | v :: vs => match v with
    | .t x => match allT vs with | some xs => some (x :: xs) | none => none
    | _ => none
/-- cells that nobody writes, a nil slice among them -/
def allZ : List V → Option (List T)
  | [] => some []
  | v :: vs => match v with
    | .t x => match allZ vs with | some xs => some (x :: xs) | none => none
    | .nil sz => match allZ vs with | some xs => some (.list sz [] :: xs) | none => none
    | _ => none
def getE {α : Type} (es : List α) (i : Int) : Option α := if 0 ≤ i then es[i.toNat]? else none
/-- as an argument or a result: no rows of the caller's own -/
def asArg : V → Option V
  | .t x => some (.t x)
  | .nil sz => some (.t (.list sz []))
  | .agg cs => match asArgs cs with | some cs' => some (.agg cs') | none => none
  | .tup cs => match asArgs cs with | some cs' => some (.tup cs') | none => none
  | .fn f caps => match allT caps with | some xs => some (.t (.fn f xs)) | none => none
  | _ => none
  where asArgs : List V → Option (List V)
  | [] => some []
  | v :: vs => match asArg v with | some x => (match asArgs vs with | some xs => some (x :: xs) | none => none) | none => none

/-- a slice of the call's own is given away: read alone from now on -/
def give (h : Heap) : V → Option (V × Heap)
  | .sl r off len _ => match h[r]? with
    | some (.ts sz es) => some (.t (.list sz ((es.drop off).take len)), h.set r (.fz sz es))
    | some (.fz sz es) => some (.t (.list sz ((es.drop off).take len)), h)
    | _ => none
  | .nil sz => some (.t (.list sz []), h)
  | .agg cs => match gives h cs with | some (cs', h') => some (.agg cs', h') | none => none
  | .tup cs => match gives h cs with | some (cs', h') => some (.tup cs', h') | none => none
  | .t x => some (.t x, h)
  | .fn f caps => match allT caps with | some xs => some (.t (.fn f xs), h) | none => none
  | _ => none
  where gives (h : Heap) : List V → Option (List V × Heap)
  | [] => some ([], h)
  | v :: vs => match give h v with
    | some (x, h') => (match gives h' vs with | some (xs, h'') => some (x :: xs, h'') | none => none)
    | none => none
def giveT (h : Heap) (vs : List V) : Option (List T × Heap) :=
  match give.gives h vs with
  | some (xs, h') => match allT xs with | some ts => some (ts, h') | none => none
  | none => none

/-! ### Memory -/
def ldCells (h : Heap) (r i j n : Nat) : Option (List V) :=
  match h[r]? with
  | some (.ts _ es) | some (.fz _ es) => match es[i]? with
    | some cs => if j + n ≤ cs.length then some (((cs.drop j).take n).map .t) else none
    | none => none
  | some (.vs _ es) => match es[i]? with
    | some cs => if j + n ≤ cs.length then some ((cs.drop j).take n) else none
    | none => none
  | _ => none
def splice {α : Type} (cs : List α) (j : Nat) (xs : List α) : List α := cs.take j ++ xs ++ cs.drop (j + xs.length)
def stCells (h : Heap) (r i j : Nat) (vs : List V) : Option Heap :=
  match h[r]? with
  | some (.vs sz es) => match es[i]? with
    | some cs => if j + vs.length ≤ cs.length then some (h.set r (.vs sz (es.set i (splice cs j vs)))) else none
    | none => none
  | some (.ts sz es) => match es[i]? with
    | some cs => if j + vs.length ≤ cs.length then
        match giveT h vs with
        | some (xs, h') => match h'[r]? with
          | some (.ts _ _) => some (h'.set r (.ts sz (es.set i (splice cs j xs))))
          | _ => none
        | none => none
      else none
    | none => none
  | _ => none
def blkSz : Blk → Option Nat
  | .ts sz _ | .vs sz _ | .fz sz _ => some sz
  | .dead => none
def blkN : Blk → Nat
  | .ts _ es | .fz _ es => es.length
  | .vs _ es => es.length
  | .dead => 0
def maxBytes : Nat := 140737488355328

/-! ### Operations -/
def ibits (op : BinOp) (k : IntKind) (x y : Int) : Option Int :=
  let a := BitVec.ofInt k.bits x
  let b := BitVec.ofInt k.bits y
  match op with
  | .and => some (k.wrap (a &&& b).toNat)
  | .or => some (k.wrap (a ||| b).toNat)
  | .xor => some (k.wrap (a ^^^ b).toNat)
  | .andNot => some (k.wrap (a &&& ~~~b).toNat)
  | _ => none
def ishift (op : BinOp) (k : IntKind) (x y : Int) : Option Int :=
  if y < 0 then none else
  match op with
  | .shl => some (k.wrap (x * 2 ^ (min y.toNat k.bits)))
  | .shr => some (x.fdiv (2 ^ (min y.toNat k.bits)))
  | _ => none
def ibin (op : BinOp) (k : IntKind) (x y : Int) : Option T :=
  match op with
  | .add => some (.int k (k.wrap (x + y)))
  | .sub => some (.int k (k.wrap (x - y)))
  | .mul => some (.int k (k.wrap (x * y)))
  | .quo => if y = 0 then none else some (.int k (k.wrap (x.tdiv y)))
  | .rem => if y = 0 then none else some (.int k (x.tmod y))
  | .eql => some (.bool (x == y))
  | .neq => some (.bool (x != y))
  | .lss => some (.bool (decide (x < y)))
  | .leq => some (.bool (decide (x ≤ y)))
  | .gtr => some (.bool (decide (x > y)))
  | .geq => some (.bool (decide (x ≥ y)))
  | op => (ibits op k x y).map (.int k)
def sbin (op : BinOp) (x y : List UInt8) : Option T :=
  match op with
  | .add => if x.length + y.length ≤ 9223372036854775807 then some (.str (x ++ y)) else none
  | .eql => some (.bool (x == y))
  | .neq => some (.bool (!(x == y)))
  | .lss => some (.bool (Op.bytesLess x y))
  | .leq => some (.bool (Op.bytesLess x y || x == y))
  | .gtr => some (.bool (!(Op.bytesLess x y || x == y)))
  | .geq => some (.bool (!(Op.bytesLess x y)))
  | _ => none
def isShift : BinOp → Bool
  | .shl | .shr => true
  | _ => false
/-- is a slice nil? -/
def nilEq (op : BinOp) (b : Bool) : Option V :=
  match op with
  | .eql => some (.t (.bool b))
  | .neq => some (.t (.bool !b))
  | _ => none
def bin (P : Program) (op : BinOp) (ty : TypeId) : V → V → Option V
  | .t (.int k x), .t (.int k' y) =>
    if isShift op then (ishift op k x y).map (fun n => .t (.int k n))
    else if k = k' then (ibin op k x y).map .t else none
  | .t (.str x), .t (.str y) => (sbin op x y).map .t
  | .t (.bool x), .t (.bool y) => if isBoolT P ty then (match op with
    | .eql => some (.t (.bool (x == y)))
    | .neq => some (.t (.bool (!(x == y))))
    | _ => none) else none
  | .t (.nlist b _ _), .nil _ => if isSl P ty then nilEq op b else none
  | .nil _, .nil _ => if isSl P ty then nilEq op true else none
  | _, _ => none
def isIf (P : Program) (t : TypeId) : Bool := match P.underlying t with | some (.interface _) => true | _ => false
def isC : Operand → Bool
  | .const _ => true
  | _ => false
/-- as 'bin'; an interface asked whether it is nil -/
def binO (P : Program) (op : BinOp) (ty : TypeId) (y : Operand) (v1 v2 : V) : Option V :=
  match v1, v2 with
  | .t .nni, .t .nili => if isIf P ty then nilEq op false else none
  | .t .nili, .t .nili => if isIf P ty && isC y then nilEq op true else none
  | v1, v2 => bin P op ty v1 v2
def una (op : UnOp) : V → Option V
  | .t (.bool b) => match op with | .not => some (.t (.bool !b)) | _ => none
  | .t (.int k n) => match op with
    | .neg => some (.t (.int k (k.wrap (0 - n))))
    | .xor => (ibits .xor k (if k.signed then -1 else k.max) n).map fun m => .t (.int k m)
    | _ => none
  | _ => none

/-- 's[lo:hi:mx]' -/
def bndV (dflt mx : Nat) : Option V → Option Nat
  | none => some dflt
  | some (.t (.int _ n)) => if 0 ≤ n ∧ n ≤ mx then some n.toNat else none
  | _ => none
def cutB (len : Nat) (lo hi : Option V) : Option (Nat × Nat) :=
  match bndV len len hi with
  | some h => match bndV 0 h lo with
    | some l => some (l, h)
    | none => none
  | none => none
def cut (P : Program) (ty : TypeId) (x : V) (lo hi mx : Option V) (h : Heap) : Option V :=
  match x with
  | .t (.str l) => if isStr P ty && mx.isNone then (match cutB l.length lo hi with | some (a, b) => some (.t (.str ((l.drop a).take (b - a)))) | none => none) else none
  | .t (.list sz es) => match elOf P ty with
    | some el => if (sz == szOf P el || es.isEmpty) && mx.isNone then (match cutB es.length lo hi with | some (a, b) => some (.t (.list sz ((es.drop a).take (b - a)))) | none => none) else none
    | none => none
  | .sl r off len cap => match elOf P ty with
    | some el => if (h[r]?.bind blkSz) == some (szOf P el) then
        match mx with
        | none => (match cutB len lo hi with | some (a, b) => some (.sl r (off + a) (b - a) (cap.map (· - a))) | none => none)
        | some (.t (.int _ m)) => if 0 ≤ m ∧ m ≤ len then (match hi with
            | none => none
            | some _ => match cutB m.toNat lo hi with | some (a, b) => some (.sl r (off + a) (b - a) (some (m.toNat - a))) | none => none) else none
        | _ => none
      else none
    | none => none
  | _ => none
def idxAddr (P : Program) (ty : TypeId) (x i : V) (h : Heap) : Option V :=
  match i with
  | .t (.int _ n) => match elOf P ty with
    | some el => match x with
      | .t (.list sz es) => if sz == szOf P el then (match getE es n with | some cs => some (.t (.fp cs)) | none => none) else none
      | .sl r off len _ => if (h[r]?.bind blkSz) == some (szOf P el) && decide (0 ≤ n) && decide (n < len) then some (.ptr r (off + n.toNat) 0) else none
      | _ => none
    | none => none
  | _ => none
/-- a pointer that is not nil -/
def nilC : V → Option V
  | .ptr r i j => some (.ptr r i j)
  | .t (.fp cs) => some (.t (.fp cs))
  | _ => none
def fldAddr (P : Program) (s : TypeId) (x : V) (i : Nat) : Option V :=
  match fOf P s i with
  | some (o, _, _) => match x with
    | .ptr r a j => some (.ptr r a (j + o))
    | .t (.fp cs) => if o ≤ cs.length then some (.t (.fp (cs.drop o))) else none
    | _ => none
  | none => none
def fld (P : Program) (s : TypeId) (x : V) (i : Nat) : Option V :=
  match fOf P s i with
  | some (o, n, a) => match x with
    | .agg cs => if o + n ≤ cs.length then packV a ((cs.drop o).take n) else none
    | _ => none
  | none => none
def load (P : Program) (ty : TypeId) (x : V) (h : Heap) : Option V :=
  match x with
  | .ptr r i j => if known P ty then (match ldCells h r i j (szOf P ty) with | some cs => packV (aggOf P ty) cs | none => none) else none
  | .t (.fp cs) => if known P ty ∧ szOf P ty ≤ cs.length then packV (aggOf P ty) ((cs.take (szOf P ty)).map .t) else none
  | _ => none
def store (P : Program) (ty : TypeId) (x v : V) (h : Heap) : Option Heap :=
  match x with
  | .ptr r i j => if known P ty ∧ (cellsV v).length = szOf P ty ∧ (cellsV v).all okCell = true then stCells h r i j (cellsV v) else none
  | _ => none
/-- a struct's literal: the zero value with parts laid over it -/
def fillV (P : Program) (s : TypeId) : List V → List (Nat × V) → Option (List V)
  | cs, [] => some cs
  | cs, (i, v) :: rest => match fOf P s i with
    | some (o, n, _) => if (cellsV v).length = n ∧ o + n ≤ cs.length ∧ (cellsV v).all okCell = true then fillV P s (splice cs o (cellsV v)) rest else none
    | none => none
/-- a slice's literal: every element named, in order -/
def fillS (sz : Nat) : Nat → List (Nat × V) → Option (List (List V))
  | _, [] => some []
  | n, (i, v) :: rest => if i = n ∧ (cellsV v).length = sz ∧ (cellsV v).all okCell = true then (match fillS sz (n + 1) rest with | some r => some (cellsV v :: r) | none => none) else none
def giveTs (h : Heap) : List (List V) → Option (List (List T) × Heap)
  | [] => some ([], h)
  | c :: cs => match giveT h c with
    | some (x, h') => (match giveTs h' cs with | some (xs, h'') => some (x :: xs, h'') | none => none)
    | none => none
def bytesOf : List (List T) → Option (List Int)
  | [] => some []
  | c :: r => match c with
    | [.int .u8 n] => match bytesOf r with | some l => some (n :: l) | none => none
    | _ => none
def bytesElem (P : Program) (src : TypeId) : Bool :=
  match elOf P src with
  | some el => isInt P el == some .u8 && szOf P el == 1
  | none => false
def conv (P : Program) (src dst : TypeId) (x : V) (h : Heap) : Option V :=
  match isInt P dst with
  | some k => match x with
    | .t (.int _ n) => if known P src then some (.t (.int k (k.wrap n))) else none
    | _ => none
  | none => if isStr P dst then (match x with
    | .t (.str l) => if known P src then some (.t (.str l)) else none
    | .sl r off len _ => if bytesElem P src then (match h[r]? with
      | some (.ts 1 es) => match bytesOf ((es.drop off).take len) with | some l => some (.t (.str (l.map fun n => UInt8.ofNat n.toNat))) | none => none
      | some (.fz 1 es) => match bytesOf ((es.drop off).take len) with | some l => some (.t (.str (l.map fun n => UInt8.ofNat n.toNat))) | none => none
      | _ => none) else none
    | .nil _ => if bytesElem P src then some (.t (.str [])) else none
    | .t (.list 1 es) => if bytesElem P src then (match bytesOf es with | some l => some (.t (.str (l.map fun n => UInt8.ofNat n.toNat))) | none => none) else none
    | _ => none) else none

def lenV (P : Program) (ty : TypeId) (x : V) : Option Nat :=
  if isStr P ty then (match x with
    | .t (.str l) => some l.length
    | _ => none)
  else if isSl P ty then (match x with
    | .t (.list _ es) => some es.length
    | .nil _ => some 0
    | .sl _ _ len _ => some len
    | _ => none)
  else none
/-- what is appended: elements that nobody writes -/
def srcOf0 (P : Program) (el tx : TypeId) (x : V) (h : Heap) : Option (List (List T)) :=
  match elOf P tx with
  | some _ => match x with
    | .t (.list sz es) => if sz == szOf P el || es.isEmpty then some es else none
    | .nil _ => some []
    | .sl r off len _ => match h[r]? with
      | some (.ts sz es) => if sz == szOf P el then some ((es.drop off).take len) else none
      | some (.fz sz es) => if sz == szOf P el then some ((es.drop off).take len) else none
      | _ => none
    | _ => none
  | none => match x with
    | .t (.str l) => if isStr P tx ∧ szOf P el = 1 then some (l.map fun b => [.int .u8 (b.toNat : Int)]) else none
    | _ => none
def unN : V → V
  | .t (.nlist _ sz es) => .t (.list sz es)
  | v => v
def srcOf (P : Program) (el tx : TypeId) (x : V) (h : Heap) : Option (List (List T)) := srcOf0 P el tx (unN x) h
/-- where a new row goes: behind all others, or to a number kept for it -/
def nI (N : Option Nat) (h : Heap) : Nat := match N with | none => h.length | some i => i
def nH (N : Option Nat) (h : Heap) (b : Blk) : Heap := match N with | none => h ++ [b] | some i => h.set i b
/-- append: a row that may have been made longer in place, or made anew: its elder names are gone -/
def app (P : Program) (N : Option Nat) (ty tx : TypeId) (s x : V) (h : Heap) : Option (V × Heap) :=
  match elOf P ty with
  | none => none
  | some el => match srcOf P el tx x h with
    | none => none
    | some xs => match s with
      | .nil sz => if sz = szOf P el ∧ 0 < sz ∧ xs.length * (2 * P.bytesOf el) ≤ maxBytes ∧ xs.length ≤ maxBytes ∧ (zeroOf P el).isSome = true then some (.sl (nI N h) 0 xs.length none, nH N h (.ts sz xs)) else none
      | .sl r off len cap => match h[r]? with
        | some (.ts sz es) =>
          if sz = szOf P el ∧ 0 < sz ∧ off + len = es.length ∧ (len + xs.length) * (2 * P.bytesOf el) ≤ maxBytes ∧ len + xs.length ≤ maxBytes ∧ (zeroOf P el).isSome = true then
            some (.sl (nI N h) 0 (len + xs.length) none, nH N (h.set r .dead) (.ts sz (es.drop off ++ xs)))
          else none
        | _ => none
      | _ => none

/-! ### Rows under other numbers -/
/-- values under new numbers of rows; what has none is lost -/
def ren (m : Nat → Option Nat) : V → V
  | .sl r off len cap => match m r with | some r' => .sl r' off len cap | none => .bad
  | .ptr r i j => match m r with | some r' => .ptr r' i j | none => .bad
  | .agg cs => .agg (rens m cs)
  | .tup cs => .tup (rens m cs)
  | .fn f cs => .fn f (rens m cs)
  | v => v
  where rens (m : Nat → Option Nat) : List V → List V
  | [] => []
  | v :: vs => ren m v :: rens m vs
/-- the rows that values name, in order -/
def refs : V → List Nat
  | .sl r _ _ _ => [r]
  | .ptr r _ _ => [r]
  | .agg cs => refss cs
  | .tup cs => refss cs
  | .fn _ cs => refss cs
  | _ => []
  where refss : List V → List Nat
  | [] => []
  | v :: vs => refs v ++ refss vs
def nodups : List Nat → List Nat → List Nat
  | seen, [] => seen
  | seen, r :: rs => if r ∈ seen then nodups seen rs else nodups (seen ++ [r]) rs
def blkRefs (h : Heap) (r : Nat) : List Nat :=
  match h[r]? with
  | some (.vs _ es) => es.flatMap refs.refss
  | _ => []
/-- the first m rows stay; then those that the values name, and what is named inside them -/
def reach (h : Heap) : Nat → List Nat → List Nat
  | 0, ids => ids
  | n + 1, ids => reach h n (nodups ids (ids.flatMap (blkRefs h)))
def idx (ids : List Nat) (r : Nat) : Option Nat := if ids.idxOf r < ids.length then some (ids.idxOf r) else none
def renB (m : Nat → Option Nat) : Blk → Blk
  | .vs sz es => .vs sz (es.map (ren.rens m))
  | b => b
def packH (m : Nat) (vals : List V) (h : Heap) : List V × Heap :=
  let ids := reach h 3 (nodups (List.range m) (refs.refss vals))
  (ren.rens (idx ids) vals, ids.map fun r => renB (idx ids) (h[r]?.getD .dead))


/-! ### Calls -/
/-- requests: a call whose answer is given away; a call on the caller's own rows; a loop -/
inductive Req where
  | call (f : Nat) (args : List V) (h : Heap)
  | callO (gv : Bool) (f : Nat) (args : List V) (h : Heap)
  | loop (f : Nat) (path m : Nat) (vals : List V) (h : Heap)
inductive Exi where
  | normal
  | exit (id : Nat)
  | ret
inductive Resp where
  | call (v : V) (h : Heap)
  | loop (e : Exi) (vals : List V) (h : Heap)
abbrev Rec := Req → Option Resp

inductive PM where
  | pure
  | frz
  | opn (gv : Bool)
/-- how calls hand on their arguments; what is shown by other means (ext); which slots a loop keeps (path: 1, then 2p and 2p+1 down the code) -/

structure Pol where
  pm : Nat → Nat → PM
  live : Nat → Nat → List Nat
  outs : Nat → Nat → List Nat
  no : Nat → Bool
  dr : Nat → Bool
  ext : Nat → List V → Option V := fun _ _ => none

def callPure (rec : Rec) (g : Nat) (args : List V) : Option V :=
  match rec (.call g args []) with
  | some (.call v []) => some v
  | _ => none
/-- values as they are now: rows read, which nobody writes while the callee runs -/
def snapC (h : Heap) : V → Option T
  | .t x => some x
  | .nil sz => some (.list sz [])
  | .sl r off len _ => match h[r]? with
    | some (.ts sz es) => some (.list sz ((es.drop off).take len))
    | some (.fz sz es) => some (.list sz ((es.drop off).take len))
    | _ => none
  | _ => none
def snapCs (h : Heap) : List V → Option (List T)
  | [] => some []
  | v :: vs => match snapC h v with | some x => (match snapCs h vs with | some xs => some (x :: xs) | none => none) | none => none
def snapE (h : Heap) : List (List V) → Option (List (List T))
  | [] => some []
  | c :: cs => match snapCs h c with | some x => (match snapE h cs with | some xs => some (x :: xs) | none => none) | none => none
def snapP (h : Heap) (b : Option Blk) (i j : Nat) : Option V :=
  match b with
  | some (.ts _ es) => match es[i]? with | some cs => some (.t (.fp (cs.drop j))) | none => none
  | some (.fz _ es) => match es[i]? with | some cs => some (.t (.fp (cs.drop j))) | none => none
  | some (.vs _ es) => match es[i]? with | some cs => (match snapCs h (cs.drop j) with | some xs => some (.t (.fp xs)) | none => none) | none => none
  | _ => none
def snapS (h : Heap) (b : Option Blk) (off len : Nat) : Option V :=
  match b with
  | some (.ts sz es) => some (.t (.list sz ((es.drop off).take len)))
  | some (.fz sz es) => some (.t (.list sz ((es.drop off).take len)))
  | some (.vs sz es) => match snapE h ((es.drop off).take len) with | some xs => some (.t (.list sz xs)) | none => none
  | _ => none
def snapV (h : Heap) : V → Option V
  | .t x => some (.t x)
  | .nil sz => some (.t (.list sz []))
  | .sl r off len _ => snapS h h[r]? off len
  | .ptr r i j => snapP h h[r]? i j
  | .agg cs => match snapVs h cs with | some cs' => some (.agg cs') | none => none
  | .tup cs => match snapVs h cs with | some cs' => some (.tup cs') | none => none
  | .fn f caps => match snapVs h caps with | some cs' => (match allT cs' with | some xs => some (.t (.fn f xs)) | none => none) | none => none
  | _ => none
  where snapVs (h : Heap) : List V → Option (List V)
  | [] => some []
  | v :: vs => match snapV h v with | some x => (match snapVs h vs with | some xs => some (x :: xs) | none => none) | none => none
/-- no memory in it -/
def flatT : T → Bool
  | .int _ _ | .bool _ | .str _ | .nilp | .nilf | .nili | .nni => true
  | .list _ es => es.isEmpty
  | _ => false
def flatV : V → Bool
  | .t x => flatT x
  | .agg cs => flatVs cs
  | .tup cs => flatVs cs
  | _ => false
  where flatVs : List V → Bool
  | [] => true
  | v :: vs => flatV v && flatVs vs
/-- the rows that an open call sees, and their way back -/
def openIds (h : Heap) (args : List V) : List Nat := reach h 3 (nodups [] (refs.refss args))
def liveB (h : Heap) (k : Nat) : Bool := match h[k]? with | some .dead => false | some _ => true | none => false
def backN (ids : List Nat) (h : Heap) (r : Nat) : Option Nat :=
  if r < ids.length then (match ids[r]? with | some k => if liveB h k then some k else none | none => none) else some (h.length + (r - ids.length))
def layBack (mp : Nat → Option Nat) (h0 : Heap) : List Nat → Heap → Heap → Heap
  | i :: is, b :: bs, h => layBack mp h0 is bs (if liveB h0 i then h.set i (renB mp b) else h)
  | _, _, h => h
def openBack (N : Option Nat) (ids : List Nat) (v : V) (h1 h : Heap) : Option (V × Heap) :=
  if decide (h1.length < ids.length) || (N.isSome && decide (ids.length < h1.length)) then none else
  some (ren (backN ids h) v, layBack (backN ids h) h ids h1 h ++ (h1.drop ids.length).map (renB (backN ids h)))
def callOp (pol : Pol) (rec : Rec) (f : Nat) (N : Option Nat) (dst : Option Nat) (g : Nat) (args : List V) (h : Heap) : Option (V × Heap) :=
  match pol.pm f (dst.getD 0) with
  | .pure => match asArg.asArgs args with
    | some as => match callPure rec g as with | some v => some (v, h) | none => none
    | none => match snapV.snapVs h args with
      | some as => match callPure rec g as with | some v => if flatV v then some (v, h) else none | none => none
      | none => none
  | .frz => match give.gives h args with
    | some (as, h') => match callPure rec g as with | some v => some (v, h') | none => none
    | none => none
  | .opn gv => match rec (.callO gv g (packH 0 args h).1 (packH 0 args h).2) with
    | some (.call v h1) => openBack N (openIds h args) v h1 h
    | _ => none
def fnV : V → Option (Nat × List V)
  | .t (.fn f caps) => some (f, caps.map .t)
  | .fn f caps => some (f, caps)
  | _ => none
def opvs (P : Program) (e : Env) : List Operand → List TypeId → List V
  | x :: xs, t :: ts => opv P e t x :: opvs P e xs ts
  | x :: xs, [] => opv P e 0 x :: opvs P e xs []
  | [], _ => []
def opvO (P : Program) (e : Env) : Option Operand → Option V
  | some x => some (opv P e 0 x)
  | none => none
def partsV (P : Program) (e : Env) (ty : Nat → TypeId) : List (Nat × Operand) → List (Nat × V)
  | [] => []
  | (i, x) :: r => (i, opv P e (ty i) x) :: partsV P e ty r
def fTy (P : Program) (s : TypeId) (i : Nat) : TypeId :=
  match P.underlying s with
  | some (.struct fs) => match fs[i]? with | some f => f.type | none => 0
  | _ => 0
def blt (P : Program) (N : Option Nat) (b : Builtin) (tys : List TypeId) (args : List V) (h : Heap) : Option (V × Heap) :=
  match b, args with
  | .len, [x] => match tys with
    | [t] => match lenV P t x with | some n => some (.t (.int .i64 n), h) | none => none
    | _ => none
  | .append, [s, x] => match tys with
    | [t, u] => app P N t u s x h
    | _ => none
  | .min, [.t (.int k x), .t (.int k' y)] => if k = k' then some (.t (.int k (if y < x then y else x)), h) else none
  | .max, [.t (.int k x), .t (.int k' y)] => if k = k' then some (.t (.int k (if y > x then y else x)), h) else none
  | _, _ => none

def evOp (P : Program) (pol : Pol) (rec : Rec) (f : Nat) (N : Option Nat) (o : Oper) (e : Env) (h : Heap) : Option (V × Heap) :=
  match o.op with
  | .move x | .assign x => some (opv P e o.type x, h)
  | .pick c a b => match opv P e 0 c with
    | .t (.bool t) => some (if t then opv P e o.type a else opv P e o.type b, h)
    | _ => none
  | .alloc t => match zeroOf P t with
    | some zs => if zs.isEmpty then none else some (.ptr (nI N h) 0 0, nH N h (.vs zs.length [zs]))
    | none => none
  | .box t x => let cs := cellsV (opv P e t x); if cs.isEmpty || !cs.all okCell then none else some (.ptr (nI N h) 0 0, nH N h (.vs cs.length [cs]))
  | .build t parts => if strOK P t then (match zeroOf P t with
      | some zs => match fillV P t zs (partsV P e (fTy P t) parts.toList) with | some cs => some (.agg cs, h) | none => none
      | none => none) else none
  | .buildSlice t len parts => match elOf P t with
    | some el => if szOf P el = 0 ∨ len * szOf P el > 16777216 ∨ parts.size ≠ len ∨ (zeroOf P el).isNone = true then none else
      match fillS (szOf P el) 0 (partsV P e (fun _ => el) parts.toList) with
      | some css => match giveTs h css with
        | some (es, h') => some (.sl (nI N h') 0 len (some len), nH N h' (.ts (szOf P el) es))
        | none => none
      | none => none
    | none => none
  | .load t a => match load P t (opv P e 0 a) h with | some v => some (v, h) | none => none
  | .store t a x => match store P t (opv P e 0 a) (opv P e t x) h with | some h' => some (.und, h') | none => none
  | .binOp op t x y u => match binO P op t y (opv P e t x) (opv P e u y) with | some v => some (v, h) | none => none
  | .unOp op t x => match una op (opv P e t x) with | some v => some (v, h) | none => none
  | .convert src dst x => match conv P src dst (opv P e src x) h with | some v => some (v, h) | none => none
  | .makeFunc (.func g) first caps => if first.size = 0 then some (.fn g (opvs P e caps.toList []), h) else none
  | .makeSlice t l c => match elOf P t, opv P e 0 l, opv P e 0 c with
    | some el, .t (.int _ n), .t (.int _ m) => match zeroOf P el with
      | some zs => match allZ zs with
        | some z => if szOf P el = 0 ∨ n < 0 ∨ n ≠ m ∨ n.toNat * P.bytesOf el > maxBytes ∨ n.toNat > maxBytes then none else
          some (.sl (nI N h) 0 n.toNat (some n.toNat), nH N h (.ts (szOf P el) (List.replicate n.toNat z)))
        | none => none
      | none => none
    | _, _, _ => none
  | .slice t x lo hi mx => match cut P t (opv P e t x) (opvO P e lo) (opvO P e hi) (opvO P e mx) h with | some v => some (v, h) | none => none
  | .nilCheck x => match nilC (opv P e 0 x) with | some v => some (v, h) | none => none
  | .fieldAddr s x i => match fldAddr P s (opv P e 0 x) i with | some v => some (v, h) | none => none
  | .field s x i => match fld P s (opv P e s x) i with | some v => some (v, h) | none => none
  | .indexAddr t x i => match idxAddr P t (opv P e t x) (opv P e 0 i) h with | some v => some (v, h) | none => none
  | .index t x i => match opv P e t x, opv P e 0 i with
    | .t (.str l), .t (.int _ n) => if isStr P t then (match getE l n with | some b => some (.t (.int .u8 (b.toNat : Int)), h) | none => none) else none
    | _, _ => none
  | .extract x i => match opv P e 0 x with
    | .tup vs => match vs[i]? with | some v => some (v, h) | none => none
    | _ => none
  | .call c => match c.callee with
    | .builtin b => blt P N b c.argTypes.toList (opvs P e c.args.toList c.argTypes.toList) h
    | .value x => match fnV (opv P e 0 x) with
      | some (g, caps) => callOp pol rec f N o.dst g (opvs P e c.args.toList c.argTypes.toList ++ caps) h
      | none => none
    | .invoke _ _ => none
  | _ => none

/-! ### Regions, code -/
/-- is the operation wanted? -/
def want (ops : Array Oper) (o : Oper) (e : Env) : Option Bool :=
  match o.guard with
  | none => some true
  | some (j, b) => match (ops[j]?).bind (·.dst) with
    | some d => match e d with
      | .t (.bool c) => some (c == b)
      | .und => some false
      | _ => none
    | none => none
def evOne (P : Program) (pol : Pol) (rec : Rec) (f : Nat) (N : Option Nat) (ops : Array Oper) (o : Oper) (e : Env) (h : Heap) : Option (Env × Heap) :=
  match want ops o e with
  | some true => match evOp P pol rec f N o e h with | some (v, h') => some (put e o.dst v, h') | none => none
  | some false => some (put e o.dst .und, h)
  | none => none
def evOps (P : Program) (pol : Pol) (rec : Rec) (f : Nat) (ops : Array Oper) : List Oper → Env → Heap → Option (Env × Heap)
  | [], e, h => some (e, h)
  | o :: rest, e, h => match evOne P pol rec f none ops o e h with
    | some (e', h') => evOps P pol rec f ops rest e' h'
    | none => none

/-- operations that leave the rows as they are -/
def nonW (pol : Pol) (f : Nat) (o : Oper) : Bool :=
  match o.op with
  | .move _ | .assign _ | .pick _ _ _ | .load _ _ | .binOp _ _ _ _ _ | .unOp _ _ _ | .convert _ _ _ | .slice _ _ _ _ _ | .nilCheck _ | .fieldAddr _ _ _ | .field _ _ _ | .indexAddr _ _ _ | .index _ _ _ | .extract _ _ | .build _ _ => true
  | .call c => match c.callee with
    | .builtin b => (match b with | .len => true | .min => true | .max => true | _ => false)
    | .value _ => (match pol.pm f (o.dst.getD 0) with | .pure => true | _ => false)
    | .invoke _ _ => false
  | _ => false
/-- edges that point to what stands ahead; what does not wait is apart -/
def pairsOK (ops : Array Oper) : Bool :=
  (List.range ops.size).all fun j => match ops[j]? with
    | some oj => (oj.after.all fun e => !Region.binds .any e || decide (e.on < j)) && (List.range j).all fun i => match ops[i]? with
      | some oi => (oj.after.any fun e => Region.binds .any e && e.on == i) || oi.apart ops oj
      | none => true
    | none => true
/-- a region whose order is open: all of its orders come to the same -/
def drawOK (P : Program) (ops : Array Oper) : Bool := P.follows .mixedOrders && pairsOK ops
def drOK (P : Program) (pol : Pol) (f : Nat) (ops : Array Oper) : Bool := !pol.dr f || drawOK P ops
/-- operations that lay a new row, or may write rows of theirs alone -/
def isNew (pol : Pol) (f : Nat) (o : Oper) : Bool :=
  match o.op with
  | .alloc _ | .box _ _ | .buildSlice _ _ _ | .makeSlice _ _ _ => true
  | .call c => match c.callee with
    | .builtin b => (match b with | .append => true | _ => false)
    | .value _ => (match pol.pm f (o.dst.getD 0) with | .opn _ => true | _ => false)
    | .invoke _ _ => false
  | _ => false
/-- the numbers kept for their rows -/
def nids (pol : Pol) (f : Nat) : Nat → List Oper → List (Option Nat)
  | _, [] => []
  | b, o :: r => if isNew pol f o then some b :: nids pol f (b + 1) r else none :: nids pol f b r
def cntNew (pol : Pol) (f : Nat) : List Oper → Nat
  | [] => 0
  | o :: r => if isNew pol f o then cntNew pol f r + 1 else cntNew pol f r
/-- the rows that an operation may touch -/
def footX (e : Env) : List Operand → List Nat
  | [] => []
  | .tmp t :: r => refs (e t) ++ footX e r
  | _ :: r => footX e r
/-- calls look through rows -/
def isDeep (o : Oper) : Bool :=
  match o.op with
  | .call c => match c.callee with
    | .value _ => true
    | _ => false
  | _ => false
def footD (deep : Bool) (ids : List Nat) (h : Heap) : List Nat := if deep then reach h 3 (nodups [] ids) else ids
def foot (N : Option Nat) (o : Oper) (e : Env) (h : Heap) : List Nat := (match N with | some i => [i] | none => []) ++ footD (isDeep o) (footX e o.op.operands.toList) h
def evD (P : Program) (pol : Pol) (rec : Rec) (f : Nat) (ops : Array Oper) : List (Option Nat) → List Oper → Env → Heap → Option (List (List Nat) × Env × Heap)
  | [], [], e, h => some ([], e, h)
  | N :: Ns, o :: rest, e, h => match evOne P pol rec f N ops o e h with
    | some (e', h') => match evD P pol rec f ops Ns rest e' h' with
      | some (fs, e'', h'') => some (foot N o e h :: fs, e'', h'')
      | none => none
    | none => none
  | _, _, _, _ => none
def soft (pol : Pol) (f : Nat) (o : Oper) : Bool := nonW pol f o || isNew pol f o
def disj (xs ys : List Nat) : Bool := xs.all fun r => !ys.contains r
/-- two operations that may change places -/
def pairOK (pol : Pol) (f : Nat) (oi oj : Oper) (i : Nat) (fi fj : List Nat) : Bool :=
  (oj.after.any fun e => Region.binds .any e && e.on == i) || (soft pol f oi && soft pol f oj && ((nonW pol f oi && nonW pol f oj) || disj fi fj))
def dynOK (pol : Pol) (f : Nat) (ops : Array Oper) (fps : List (List Nat)) : Bool :=
  (List.range ops.size).all fun j => match ops[j]? with
    | some oj => (List.range j).all fun i => match ops[i]? with
      | some oi => pairOK pol f oi oj i (fps.getD i []) (fps.getD j [])
      | none => true
    | none => true
def evDraw (P : Program) (pol : Pol) (rec : Rec) (f : Nat) (ops : Array Oper) (e : Env) (h : Heap) : Option (Env × Heap) :=
  match evD P pol rec f ops (nids pol f h.length ops.toList) ops.toList e (h ++ List.replicate (cntNew pol f ops.toList) .dead) with
  | some (fps, e', h') => if dynOK pol f ops fps then some (e', h') else none
  | none => none

def mkEnv : List Nat → List V → Env
  | s :: ss, v :: vs => upd (mkEnv ss vs) s v
  | _, _ => fun _ => .bad

/-- code: an exit, the slots, the rows. m: how many rows came in -/
def evC (P : Program) (pol : Pol) (rec : Rec) (f : Nat) (m : Nat) : Code → Nat → Env → Heap → Option (Exi × Env × Heap)
  | .skip, _, e, h => some (.normal, e, h)
  | .seq a b, p, e, h => match evC P pol rec f m a (2 * p) e h with
    | some (.normal, e', h') => evC P pol rec f m b (2 * p + 1) e' h'
    | r => r
  | .cond c a b, p, e, h => match opv P e 0 c with
    | .t (.bool t) => if t then evC P pol rec f m a (2 * p) e h else evC P pol rec f m b (2 * p + 1) e h
    | _ => none
  | .block id c, p, e, h => match evC P pol rec f m c (2 * p) e h with
    | some (.exit id', e', h') => if id' = id then some (.normal, e', h') else some (.exit id', e', h')
    | r => r
  | .loop _, p, e, h =>
    let q := packH m ((pol.live f p).map e) h
    match rec (.loop f p m q.1 q.2) with
    | some (.loop x vals h') => some (x, mkEnv (pol.outs f p) vals, h')
    | _ => none
  | .exit id, _, e, h => some (.exit id, e, h)
  | .ret, _, e, h => some (.ret, e, h)
  | .region _ ops draw, _, e, h =>
    if draw && !pol.dr f then none else
    match (if draw && !(ops.toList.all (nonW pol f)) then evDraw P pol rec f ops e h else evOps P pol rec f ops ops.toList e h) with
    | some (e', h') => some (.normal, e', h')
    | none => none
  | _, _, _, _ => none

/-- the code at a path -/
def codeAt : Code → List Bool → Option Code
  | c, [] => some c
  | .seq a b, d :: ds => codeAt (if d then b else a) ds
  | .cond _ a b, d :: ds => codeAt (if d then b else a) ds
  | .block _ c, _ :: ds => codeAt c ds
  | .loop c, _ :: ds => codeAt c ds
  | _, _ => none
/-- a path's turns -/
def turnsF : Nat → Nat → List Bool
  | 0, _ => []
  | n + 1, p => if p ≤ 1 then [] else turnsF n (p / 2) ++ [p % 2 == 1]
def turns (p : Nat) : List Bool := turnsF p p

/-- a function's results -/
def resV (P : Program) (e : Env) (h : Heap) : List ResultVar → Option (List V)
  | [] => some []
  | .tmp t :: r => match resV P e h r with | some vs => some (e t :: vs) | none => none
  | .cell a t :: r => match load P t (e a) h with
    | some v => (match resV P e h r with | some vs => some (v :: vs) | none => none)
    | none => none
def tupV : List V → V
  | [v] => v
  | vs => .tup vs

/-- an open call's answer: given away, or with its new rows -/
def retO (gv : Bool) (m : Nat) (r : Option (List V)) (h : Heap) : Option Resp :=
  match r with
  | some vs => if gv then (match give h (tupV vs) with
      | some (v, h') => some (.call v (packH m [] h').2)
      | none => none)
    else some (.call (tupV (packH m vs h).1) (packH m vs h).2)
  | none => none
def step (P : Program) (pol : Pol) (rec : Rec) : Req → Option Resp
  | .call f args h => match pol.ext f args with
    | some v => if h.isEmpty then some (.call v []) else none
    | none => match P.funcs[f]? with
    | some fn => match fn.body with
      | some c =>
        if pol.no f || fn.name == "runtime.NumGoroutine" || decide (fn.ntmps < args.length) then none else
        match evC P pol rec f h.length c 1 (mkEnv (List.range args.length) args) h with
        | some (.normal, e', h') | some (.ret, e', h') => match resV P e' h' fn.results.toList with
          | some vs => match give h' (tupV vs) with
            | some (v, h'') => some (.call v (h''.take h.length))
            | none => none
          | none => none
        | _ => none
      | none => none
    | none => none
  | .callO gv f args h => match P.funcs[f]? with
    | some fn => match fn.body with
      | some c =>
        if pol.no f || fn.name == "runtime.NumGoroutine" || decide (fn.ntmps < args.length) then none else
        match evC P pol rec f h.length c 1 (mkEnv (List.range args.length) args) h with
        | some (.normal, e', h') | some (.ret, e', h') => retO gv h.length (resV P e' h' fn.results.toList) h'
        | _ => none
      | none => none
    | none => none
  | .loop f p m vals h => match P.funcs[f]? with
    | some fn => match fn.body with
      | some c => match codeAt c (turns p) with
        | some (.loop b) =>
          match evC P pol rec f m b (2 * p) (mkEnv (pol.live f p) vals) h with
          | some (.normal, e', h') =>
            let q := packH m ((pol.live f p).map e') h'
            rec (.loop f p m q.1 q.2)
          | some (x, e', h') =>
            let q := packH m ((pol.outs f p).map e') h'
            some (.loop x q.1 q.2)
          | none => none
        | _ => none
      | none => none
    | none => none

def it (P : Program) (pol : Pol) : Nat → Rec
  | 0 => fun _ => none
  | n + 1 => step P pol (it P pol n)
end Go.Proofs.YtdhejeigbjmncaaDoor.E

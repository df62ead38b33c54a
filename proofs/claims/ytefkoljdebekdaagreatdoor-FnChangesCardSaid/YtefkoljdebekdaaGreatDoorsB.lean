/- Joined: E1 E2 E3 E4. Conditions: those of each lemma. -/
import Derived.Orders
import Derived.Laws.Sem
import Derived.Laws.Cells
import Derived.Laws.Append
import Derived.Deep.MidRow
set_option linter.unusedVariables false
set_option linter.unusedSimpArgs false
namespace Go.Proofs.YtefkoljdebekdaaGreatDoor.E
inductive T where
 | int (k:IntKind) (n:Int)
 | bool (b:Bool)
 | str (l:List UInt8)
 | list (sz:Nat) (es:List (List T))
 | nlist (b:Bool) (sz:Nat) (es:List (List T))
 | fp (cs:List T)
 | fn (f:Nat) (caps:List T)
 | nilp
 | nilf
 | nili
 | nni
inductive V where
 | t (x:T)
 | nil (sz:Nat)
 | sl (r off len:Nat) (cap:Option Nat)
 | ptr (r i j:Nat)
 | agg (cs:List V)
 | tup (vs:List V)
 | fn (f:Nat) (caps:List V)
 | o (x:T)
 | und
 | bad
inductive Blk where
 | ts (sz:Nat) (es:List (List T))
 | vs (sz:Nat) (es:List (List V))
 | fz (sz:Nat) (es:List (List T))
 | dead
abbrev Heap:=List Blk
abbrev Env:=Nat→V
def upd (e:Env)(d:Nat)(v:V):Env:=fun t=>if t=d then v else e t
def put (e:Env):Option Nat→V→Env
 | some d,v=>upd e d v
 | none,_=>e
def zC (P:Program)(t:TypeId):Nat:=P.cellsOf t
def yd (P:Program)(t:TypeId):Bool:=match P.underlying t with|some (.struct _)|some (.array _ _)=>true|_=>false
def yo (P:Program)(t:TypeId):Option TypeId:=match P.underlying t with|some (.slice e)=>if (P.info? e).isSome then some e else none|_=>none
def isStr (P:Program)(t:TypeId):Bool:=match P.underlying t with|some .string=>true|_=>false
def isInt (P:Program)(t:TypeId):Option IntKind:=match P.underlying t with|some (.int k)=>some k|_=>none
def fOf (P : Program) (s : TypeId) (i : Nat) : Option (Nat × Nat × Bool) :=
 match P.underlying s with
 | some (.struct fs) => match fs[i]? with
  | some f => match P.info? f.type with
   | some inf=>match P.underlying f.type with
    | some _=>if inf.size=0 then none else some (f.offset,inf.size,yd P f.type)
    | none=>none
   | none=>none
  | none=>none
 | _=>none
def uR (P:Program)(t:TypeId):Bool :=
 match P.underlying t with
 | some (.struct fs)=>fs.toList.all fun f=>(P.info? f.type).isSome
 | _=>false
def zZ (P:Program)(t:TypeId):Bool:=match P.underlying t with|some .bool=>true|_=>false
def xH (P:Program)(t:TypeId):Bool:=match P.underlying t with|some (.slice _)=>true|_=>false
def known (P:Program)(t:TypeId):Bool:=(P.underlying t).isSome
def wJ (P:Program)(ty:TypeId):Value→V
 | .int k n=>.t (.int k n)
 | .bool b=>.t (.bool b)
 | .string s=>.t (.str s.data.toList)
 | .slice none 0 0=>match yo P ty with|some e=>.nil (zC P e)|none=>.bad
 | .pointer none=>.t .nilp
 | .nilFunc=>.t .nilf
 | .nilIface=>.t .nili
 | _=>.bad
def Xb (P:Program):Nat→TypeId→List TypeId
 | 0,_=>[]
 | n+1,t=>match P.underlying t with
  | some (.struct fs)=>fs.toList.flatMap fun f=>Xb P n f.type
  | _=>[t]
def ff:V→Bool
 | .bad=>true
 | _=>false
def xE (P:Program):List Value→List TypeId→List V
 | v::vs,t::ts=>wJ P t v::xE P vs ts
 | _::vs,[]=>.bad::xE P vs []
 | [],_=>[]
def zeroOf (P:Program)(t:TypeId):Option (List V) :=
 match P.info? t with
 | some inf => match inf.zero with
  | some z =>
   let cs:=xE P z.cells.toList (Xb P 8 t)
   if z.cells.size==inf.size&&!cs.any ff then some cs else none
  | none=>none
 | none=>none
def cst (P:Program)(ty:TypeId):Value→V
 | .agg cs=>.agg (xE P cs.toList (Xb P 8 ty))
 | v=>wJ P ty v
def opv (P:Program)(e:Env)(ty:TypeId):Operand→V
 | .tmp t=>e t
 | .const v=>cst P ty v
 | .func f=>.t (.fn f [])
 | .global _=>.bad
def z7:V→List V
 | .agg cs=>cs
 | v=>[v]
def zd (a:Bool)(cs:List V):Option V :=
 if a then some (.agg cs) else match cs with
  | [v]=>some v
  | _=>none
def y5:V→Bool
 | .t _|.nil _|.sl _ _ _ _|.ptr _ _ _|.fn _ _=>true
 | _=>false
def ti:List V→Option (List T)
 | []=>some []
 | v::vs=>match v with
  | .t x=>match ti vs with|some xs=>some (x::xs)|none=>none
  | _=>none
def qO:List V→Option (List T)
 | []=>some []
 | v::vs=>match v with
  | .t x=>match qO vs with|some xs=>some (x::xs)|none=>none
  | .nil sz=>match qO vs with|some xs=>some (.list sz []::xs)|none=>none
  | _=>none
def uJ {α:Type}(es:List α)(i:Int):Option α:=if 0≤i then es[i.toNat]? else none
def asArg:V→Option V
 | .t x=>some (.t x)
 | .nil sz=>some (.t (.list sz []))
 | .agg cs=>match asArgs cs with|some cs'=>some (.agg cs')|none=>none
 | .tup cs=>match asArgs cs with|some cs'=>some (.tup cs')|none=>none
 | .fn f caps=>match ti caps with|some xs=>some (.t (.fn f xs))|none=>none
 | _=>none
 where asArgs:List V→Option (List V)
 | []=>some []
 | v::vs=>match asArg v with|some x=>(match asArgs vs with|some xs=>some (x::xs)|none=>none)|none=>none
def gvC:V→Option T
 | .t x=>some x
 | .o x=>some x
 | .nil sz=>some (.list sz [])
 | _=>none
def oN:List V→Option (List T)
 | []=>some []
 | v::vs=>match gvC v with|some x=>(match oN vs with|some xs=>some (x::xs)|none=>none)|none=>none
def gvE:List (List V)→Option (List (List T))
 | []=>some []
 | c::cs=>match oN c with|some x=>(match gvE cs with|some xs=>some (x::xs)|none=>none)|none=>none
def yP (h:Heap):V→Option (V×Heap)
 | .sl r off len _=>match h[r]? with
  | some (.ts sz es)=>some (.t (.list sz ((es.drop off).take len)),h.set r (.fz sz es))
  | some (.fz sz es)=>some (.t (.list sz ((es.drop off).take len)),h)
  | some (.vs sz es)=>(match gvE es with|some xs=>some (.t (.list sz ((xs.drop off).take len)),h.set r (.fz sz xs))|none=>none)
  | _=>none
 | .nil sz=>some (.t (.list sz []),h)
 | .agg cs=>match gives h cs with|some (cs',h')=>some (.agg cs',h')|none=>none
 | .tup cs=>match gives h cs with|some (cs',h')=>some (.tup cs',h')|none=>none
 | .t x=>some (.t x,h)
 | .fn f caps=>match ti caps with|some xs=>some (.t (.fn f xs),h)|none=>none
 | _=>none
 where gives (h:Heap):List V→Option (List V×Heap)
 | []=>some ([],h)
 | v::vs=>match yP h v with
  | some (x,h')=>(match gives h' vs with|some (xs,h'')=>some (x::xs,h'')|none=>none)
  | none=>none
def qn (h:Heap)(vs:List V):Option (List T×Heap) :=
 match yP.gives h vs with
 | some (xs,h')=>match ti xs with|some ts=>some (ts,h')|none=>none
 | none=>none
def uk (h:Heap)(r i j n:Nat):Option (List V) :=
 match h[r]? with
 | some (.ts _ es)|some (.fz _ es)=>match es[i]? with
  | some cs=>if j+n≤cs.length then some (((cs.drop j).take n).map .t) else none
  | none=>none
 | some (.vs _ es)=>match es[i]? with
  | some cs=>if j+n≤cs.length then some ((cs.drop j).take n) else none
  | none=>none
 | _=>none
def wB {α:Type}(cs:List α)(j:Nat)(xs:List α):List α:=cs.take j++xs++cs.drop (j+xs.length)
def sy (h : Heap) (r i j : Nat) (vs : List V) : Option Heap :=
 match h[r]? with
 | some (.vs sz es)=>match es[i]? with
  | some cs=>if j+vs.length≤cs.length then some (h.set r (.vs sz (es.set i (wB cs j vs)))) else none
  | none=>none
 | some (.ts sz es) => match es[i]? with
  | some cs => if j + vs.length ≤ cs.length then
   match qn h vs with
   | some (xs,h')=>match h'[r]? with
    | some (.ts _ _)=>some (h'.set r (.ts sz (es.set i (wB cs j xs))))
    | _=>none
   | none=>none
   else none
  | none=>none
 | _=>none
def xt:Blk→Option Nat
 | .ts sz _|.vs sz _|.fz sz _=>some sz
 | .dead=>none
def ya:Nat:=140737488355328
def Te (op:BinOp)(k:IntKind)(x y:Int):Option Int :=
 let a:=BitVec.ofInt k.bits x
 let b:=BitVec.ofInt k.bits y
 match op with
 | .and=>some (k.wrap (a &&& b).toNat)
 | .or=>some (k.wrap (a ||| b).toNat)
 | .xor=>some (k.wrap (a ^^^ b).toNat)
 | .andNot=>some (k.wrap (a &&& ~~~b).toNat)
 | _=>none
def jA (op:BinOp)(k:IntKind)(x y:Int):Option Int :=
 if y<0 then none else
 match op with
 | .shl=>some (k.wrap (x*2 ^ (min y.toNat k.bits)))
 | .shr=>some (x.fdiv (2 ^ (min y.toNat k.bits)))
 | _=>none
def vY (op:BinOp)(k:IntKind)(x y:Int):Option T :=
 match op with
 | .add=>some (.int k (k.wrap (x+y)))
 | .sub=>some (.int k (k.wrap (x - y)))
 | .mul=>some (.int k (k.wrap (x*y)))
 | .quo=>if y=0 then none else some (.int k (k.wrap (x.tdiv y)))
 | .rem=>if y=0 then none else some (.int k (x.tmod y))
 | .eql=>some (.bool (x==y))
 | .neq=>some (.bool (x != y))
 | .lss=>some (.bool (decide (x<y)))
 | .leq=>some (.bool (decide (x≤y)))
 | .gtr=>some (.bool (decide (x > y)))
 | .geq=>some (.bool (decide (x≥y)))
 | op=>(Te op k x y).map (.int k)
def qJ (op:BinOp)(x y:List UInt8):Option T :=
 match op with
 | .add=>if x.length+y.length≤9223372036854775807 then some (.str (x++y)) else none
 | .eql=>some (.bool (x==y))
 | .neq=>some (.bool (!(x==y)))
 | .lss=>some (.bool (Op.bytesLess x y))
 | .leq=>some (.bool (Op.bytesLess x y||x==y))
 | .gtr=>some (.bool (!(Op.bytesLess x y||x==y)))
 | .geq=>some (.bool (!(Op.bytesLess x y)))
 | _=>none
def z6:BinOp→Bool
 | .shl|.shr=>true
 | _=>false
def ze (op:BinOp)(b:Bool):Option V :=
 match op with
 | .eql=>some (.t (.bool b))
 | .neq=>some (.t (.bool !b))
 | _=>none
def Ra (P:Program):Nat→List Field→Bool
 | _,[]=>true
 | i, f :: r => f.name != "_" && f.offset == i && isStr P f.type && Ra P (i + 1) r
def jG (P:Program)(t:TypeId):Bool :=
 match P.underlying t with
 | some (.struct fs)=>!P.stoodInHeld t&&!P.eqGuardType P.depth t&&Ra P 0 fs.toList
 | _=>false
def nFs (P:Program)(t:TypeId):Nat :=
 match P.underlying t with
 | some (.struct fs)=>fs.toList.length
 | _=>0
def oW:List V→Option (List (List UInt8))
 | []=>some []
 | v::vs=>match v with
  | .t (.str s)=>match oW vs with|some l=>some (s::l)|none=>none
  | _=>none
def Xq (n:Nat)(op:BinOp)(a b:List V):Option V :=
 match oW a,oW b with
 | some x,some y=>if x.length=n∧y.length=n then ze op (x==y) else none
 | _,_=>none
def kds (P:Program):Nat→List Field→Option (List Bool)
 | _,[]=>some []
 | i, f :: r => if f.name != "_" && f.offset == i then (if isStr P f.type then (match kds P (i + 1) r with | some l => some (true :: l) | none => none)
  else if (isInt P f.type).isSome then (match kds P (i+1) r with|some l=>some (false::l)|none=>none) else none) else none
def Th (P:Program)(t:TypeId):Option (List Bool) :=
 match P.underlying t with
 | some (.struct fs)=>if !P.stoodInHeld t&&!P.eqGuardType P.depth t then kds P 0 fs.toList else none
 | _=>none
def vh:List Bool→List V→List V→Option Bool
 | [],[],[]=>some true
 | true::ks,.t (.str s)::r,.t (.str s')::r'=>(match vh ks r r' with|some b=>some ((s==s')&&b)|none=>none)
 | false::ks,.t (.int k x)::r,.t (.int k' x')::r'=>if k=k' then (match vh ks r r' with|some b=>some ((x==x')&&b)|none=>none) else none
 | _,_,_=>none
def mf (op:BinOp)(ks:Option (List Bool))(a b:List V):Option V :=
 match ks with
 | some l=>(match vh l a b with|some t=>ze op t|none=>none)
 | none=>none
def bin (P:Program)(op:BinOp)(ty:TypeId):V→V→Option V
 | .t (.int k x),.t (.int k' y) =>
  if z6 op then (jA op k x y).map (fun n=>.t (.int k n))
  else if k=k' then (vY op k x y).map .t else none
 | .t (.str x),.t (.str y)=>(qJ op x y).map .t
 | .t (.bool x),.t (.bool y)=>if zZ P ty then (match op with
  | .eql=>some (.t (.bool (x==y)))
  | .neq=>some (.t (.bool (!(x==y))))
  | _=>none) else none
 | .t (.nlist b _ _),.nil _=>if xH P ty then ze op b else none
 | .nil _,.nil _=>if xH P ty then ze op true else none
 | .agg a,.agg b=>if jG P ty then Xq (nFs P ty) op a b else mf op (Th P ty) a b
 | _,_=>none
def isIf (P:Program)(t:TypeId):Bool:=match P.underlying t with|some (.interface _)=>true|_=>false
def isC:Operand→Bool
 | .const _=>true
 | _=>false
def zm (P:Program)(op:BinOp)(ty:TypeId)(y:Operand)(v1 v2:V):Option V :=
 match v1,v2 with
 | .t .nni,.t .nili=>if isIf P ty then ze op false else none
 | .t .nili,.t .nili=>if isIf P ty&&isC y then ze op true else none
 | v1,v2=>bin P op ty v1 v2
def una (op:UnOp):V→Option V
 | .t (.bool b)=>match op with|.not=>some (.t (.bool !b))|_=>none
 | .t (.int k n)=>match op with
  | .neg=>some (.t (.int k (k.wrap (0 - n))))
  | .xor=>(Te .xor k (if k.signed then -1 else k.max) n).map fun m=>.t (.int k m)
  | _=>none
 | _=>none
def a7 (dflt mx:Nat):Option V→Option Nat
 | none=>some dflt
 | some (.t (.int _ n))=>if 0≤n∧n≤mx then some n.toNat else none
 | _=>none
def l6 (len:Nat)(lo hi:Option V):Option (Nat×Nat) :=
 match a7 len len hi with
 | some h=>match a7 0 h lo with
  | some l=>some (l,h)
  | none=>none
 | none=>none
def cut (P : Program) (ty : TypeId) (x : V) (lo hi mx : Option V) (h : Heap) : Option V :=
 match x with
 | .t (.str l)=>if isStr P ty&&mx.isNone then (match l6 l.length lo hi with|some (a,b)=>some (.t (.str ((l.drop a).take (b - a))))|none=>none) else none
 | .t (.list sz es)=>match yo P ty with
  | some el=>if (sz==zC P el||es.isEmpty)&&mx.isNone then (match l6 es.length lo hi with|some (a,b)=>some (.t (.list sz ((es.drop a).take (b - a))))|none=>none) else none
  | none=>none
 | .sl r off len cap => match yo P ty with
  | some el => if (h[r]?.bind xt) == some (zC P el) then
   match mx with
   | none=>(match l6 len lo hi with|some (a,b)=>some (.sl r (off+a) (b - a) (cap.map (· - a)))|none=>none)
   | some (.t (.int _ m))=>if 0≤m∧m≤len then (match hi with
    | none=>none
    | some _=>match l6 m.toNat lo hi with|some (a,b)=>some (.sl r (off+a) (b - a) (some (m.toNat - a)))|none=>none) else none
   | _=>none
   else none
  | none=>none
 | _=>none
def vU (P:Program)(ty:TypeId)(x i:V)(h:Heap):Option V :=
 match i with
 | .t (.int _ n) => match yo P ty with
  | some el=>match x with
   | .t (.list sz es)=>if sz==zC P el then (match uJ es n with|some cs=>some (.t (.fp cs))|none=>none) else none
   | .sl r off len _=>if (h[r]?.bind xt)==some (zC P el)&&decide (0≤n)&&decide (n<len) then some (.ptr r (off+n.toNat) 0) else none
   | _=>none
  | none=>none
 | _=>none
def bZ:V→Option V
 | .ptr r i j=>some (.ptr r i j)
 | .t (.fp cs)=>some (.t (.fp cs))
 | _=>none
def sE (P:Program)(s:TypeId)(x:V)(i:Nat):Option V :=
 match fOf P s i with
 | some (o,_,_)=>match x with
  | .ptr r a j=>some (.ptr r a (j+o))
  | .t (.fp cs)=>if o≤cs.length then some (.t (.fp (cs.drop o))) else none
  | _=>none
 | none=>none
def fld (P:Program)(s:TypeId)(x:V)(i:Nat):Option V :=
 match fOf P s i with
 | some (o,n,a)=>match x with
  | .agg cs=>if o+n≤cs.length then zd a ((cs.drop o).take n) else none
  | _=>none
 | none=>none
def load (P:Program)(ty:TypeId)(x:V)(h:Heap):Option V :=
 match x with
 | .ptr r i j=>if known P ty then (match uk h r i j (zC P ty) with|some cs=>zd (yd P ty) cs|none=>none) else none
 | .t (.fp cs)=>if known P ty∧zC P ty≤cs.length then zd (yd P ty) ((cs.take (zC P ty)).map .t) else none
 | _=>none
def store (P:Program)(ty:TypeId)(x v:V)(h:Heap):Option Heap :=
 match x with
 | .ptr r i j=>if known P ty∧(z7 v).length=zC P ty∧(z7 v).all y5=true then sy h r i j (z7 v) else none
 | _=>none
def sP (P:Program)(s:TypeId):List V→List (Nat×V)→Option (List V)
 | cs,[]=>some cs
 | cs,(i,v)::rest=>match fOf P s i with
  | some (o,n,_)=>if (z7 v).length=n∧o+n≤cs.length∧(z7 v).all y5=true then sP P s (wB cs o (z7 v)) rest else none
  | none=>none
def vk (sz:Nat):Nat→List (Nat×V)→Option (List (List V))
 | _,[]=>some []
 | n,(i,v)::rest=>if i=n∧(z7 v).length=sz∧(z7 v).all y5=true then (match vk sz (n+1) rest with|some r=>some (z7 v::r)|none=>none) else none
def w4 (h:Heap):List (List V)→Option (List (List T)×Heap)
 | []=>some ([],h)
 | c::cs=>match qn h c with
  | some (x,h')=>(match w4 h' cs with|some (xs,h'')=>some (x::xs,h'')|none=>none)
  | none=>none
def bytesOf:List (List T)→Option (List Int)
 | []=>some []
 | c::r=>match c with
  | [.int .u8 n]=>match bytesOf r with|some l=>some (n::l)|none=>none
  | _=>none
def vK (P:Program)(src:TypeId):Bool :=
 match yo P src with
 | some el=>isInt P el==some .u8&&zC P el==1
 | none=>false
def conv (P:Program)(src dst:TypeId)(x:V)(h:Heap):Option V :=
 match isInt P dst with
 | some k=>match x with
  | .t (.int _ n)=>if known P src then some (.t (.int k (k.wrap n))) else none
  | _=>none
 | none => if isStr P dst then (match x with
  | .t (.str l)=>if known P src then some (.t (.str l)) else none
  | .sl r off len _=>if vK P src then (match h[r]? with
   | some (.ts 1 es)=>match bytesOf ((es.drop off).take len) with|some l=>some (.t (.str (l.map fun n=>UInt8.ofNat n.toNat)))|none=>none
   | some (.fz 1 es)=>match bytesOf ((es.drop off).take len) with|some l=>some (.t (.str (l.map fun n=>UInt8.ofNat n.toNat)))|none=>none
   | _=>none) else none
  | .nil _=>if vK P src then some (.t (.str [])) else none
  | .t (.list 1 es)=>if vK P src then (match bytesOf es with|some l=>some (.t (.str (l.map fun n=>UInt8.ofNat n.toNat)))|none=>none) else none
  | _=>none) else none
def jS (P:Program)(ty:TypeId)(x:V):Option Nat :=
 if isStr P ty then (match x with
  | .t (.str l)=>some l.length
  | _=>none)
 else if xH P ty then (match x with
  | .t (.list _ es)=>some es.length
  | .nil _=>some 0
  | .sl _ _ len _=>some len
  | _=>none)
 else none
def vz (P:Program)(el tx:TypeId)(x:V)(h:Heap):Option (List (List T)) :=
 match yo P tx with
 | some _ => match x with
  | .t (.list sz es)=>if sz==zC P el||es.isEmpty then some es else none
  | .nil _=>some []
  | .sl r off len _=>match h[r]? with
   | some (.ts sz es)=>if sz==zC P el then some ((es.drop off).take len) else none
   | some (.fz sz es)=>if sz==zC P el then some ((es.drop off).take len) else none
   | _=>none
  | _=>none
 | none=>match x with
  | .t (.str l)=>if isStr P tx∧zC P el=1 then some (l.map fun b=>[.int .u8 (b.toNat:Int)]) else none
  | _=>none
def unN:V→V
 | .t (.nlist _ sz es)=>.t (.list sz es)
 | v=>v
def fc (P:Program)(el tx:TypeId)(x:V)(h:Heap):Option (List (List T)):=vz P el tx (unN x) h
def nI (N:Option Nat)(h:Heap):Nat:=match N with|none=>h.length|some i=>i
def nH (N:Option Nat)(h:Heap)(b:Blk):Heap:=match N with|none=>h++[b]|some i=>h.set i b
def app (P : Program) (N : Option Nat) (ty tx : TypeId) (s x : V) (h : Heap) : Option (V × Heap) :=
 match yo P ty with
 | none=>none
 | some el => match fc P el tx x h with
  | none=>none
  | some xs => match s with
   | .nil sz=>if sz=zC P el∧0<sz∧xs.length*(2*P.bytesOf el)≤ya∧xs.length≤ya∧(zeroOf P el).isSome=true then some (.sl (nI N h) 0 xs.length none,nH N h (.ts sz xs)) else none
   | .sl r off len cap => match h[r]? with
    | some (.ts sz es) =>
     if sz=zC P el∧0<sz∧off+len=es.length∧(len+xs.length)*(2*P.bytesOf el)≤ya∧len+xs.length≤ya∧(zeroOf P el).isSome=true then
      some (.sl (nI N h) 0 (len+xs.length) none,nH N (h.set r .dead) (.ts sz (es.drop off++xs)))
     else none
    | _=>none
   | _=>none
def ren (m:Nat→Option Nat):V→V
 | .sl r off len cap=>match m r with|some r'=>.sl r' off len cap|none=>.bad
 | .ptr r i j=>match m r with|some r'=>.ptr r' i j|none=>.bad
 | .agg cs=>.agg (rens m cs)
 | .tup cs=>.tup (rens m cs)
 | .fn f cs=>.fn f (rens m cs)
 | v=>v
 where rens (m:Nat→Option Nat):List V→List V
 | []=>[]
 | v::vs=>ren m v::rens m vs
def refs:V→List Nat
 | .sl r _ _ _=>[r]
 | .ptr r _ _=>[r]
 | .agg cs=>refss cs
 | .tup cs=>refss cs
 | .fn _ cs=>refss cs
 | _=>[]
 where refss:List V→List Nat
 | []=>[]
 | v::vs=>refs v++refss vs
def yL:List Nat→List Nat→List Nat
 | seen,[]=>seen
 | seen,r::rs=>if r∈seen then yL seen rs else yL (seen++[r]) rs
def xz (h:Heap)(r:Nat):List Nat :=
 match h[r]? with
 | some (.vs _ es)=>es.flatMap refs.refss
 | _=>[]
def reach (h:Heap):Nat→List Nat→List Nat
 | 0,ids=>ids
 | n+1,ids=>reach h n (yL ids (ids.flatMap (xz h)))
def idx (ids:List Nat)(r:Nat):Option Nat:=if ids.idxOf r<ids.length then some (ids.idxOf r) else none
def zj (m:Nat→Option Nat):Blk→Blk
 | .vs sz es=>.vs sz (es.map (ren.rens m))
 | b=>b
def yj (m:Nat)(vals:List V)(h:Heap):List V×Heap :=
 let ids:=reach h 3 (yL (List.range m) (refs.refss vals))
 (ren.rens (idx ids) vals,ids.map fun r=>zj (idx ids) (h[r]?.getD .dead))
inductive Req where
 | call (f:Nat) (args:List V) (h:Heap)
 | callO (gv:Bool) (f:Nat) (args:List V) (h:Heap)
 | loop (f:Nat) (path m:Nat) (vals:List V) (h:Heap)
inductive Exi where
 | normal
 | exit (id:Nat)
 | ret
inductive w7 where
 | call (v:V) (h:Heap)
 | loop (e:Exi) (vals:List V) (h:Heap)
abbrev Rec:=Req→Option w7
inductive PM where
 | pure
 | frz
 | opn (gv:Bool)
 | brw
 | all
inductive GM where
 | fold
 | unf
 | fgt
 | frz
structure Gh where
 fold:GM
 s:Nat
 i:Option Nat
 cells:List (Nat×Bool)
 via:Option Nat:=none
structure Pol where
 pm:Nat→Nat→PM
 live:Nat→Nat→List Nat
 outs:Nat→Nat→List Nat
 no:Nat→Bool
 dr:Nat→Bool
 ext:Nat→List V→Option V:=fun _ _=>none
 extO:Nat→List V→Heap→Option (V×Heap):=fun _ _ _=>none
 own:Nat→Bool:=fun _=>false
 gh:Nat→Nat→List Gh:=fun _ _=>[]
 dm:Nat→Nat→Bool:=fun _ _=>false
def zr (rec:Rec)(g:Nat)(args:List V):Option V :=
 match rec (.call g args []) with
 | some (.call v [])=>some v
 | _=>none
def sN (h:Heap):V→Option T
 | .t x=>some x
 | .ptr r i j=>match h[r]? with
  | some (.ts _ es)=>match es[i]? with|some cs=>some (.fp (cs.drop j))|none=>none
  | some (.fz _ es)=>match es[i]? with|some cs=>some (.fp (cs.drop j))|none=>none
  | some (.vs _ es)=>match es[i]? with|some cs=>(match ti (cs.drop j) with|some xs=>some (.fp xs)|none=>none)|none=>none
  | _=>none
 | _=>none
def ud (h:Heap):List V→Option (List T)
 | []=>some []
 | v::vs=>match sN h v with|some x=>(match ud h vs with|some xs=>some (x::xs)|none=>none)|none=>none
def vc (h:Heap):V→Option T
 | .t x=>some x
 | .nil sz=>some (.list sz [])
 | .sl r off len _=>match h[r]? with
  | some (.ts sz es)=>some (.list sz ((es.drop off).take len))
  | some (.fz sz es)=>some (.list sz ((es.drop off).take len))
  | _=>none
 | .fn f caps=>match ud h caps with|some xs=>some (.fn f xs)|none=>none
 | _=>none
def zg (h:Heap):V→Option T
 | .o x=>some x
 | v=>vc h v
def xX (h:Heap):List V→Option (List T)
 | []=>some []
 | v::vs=>match zg h v with|some x=>(match xX h vs with|some xs=>some (x::xs)|none=>none)|none=>none
def uS (h:Heap):List (List V)→Option (List (List T))
 | []=>some []
 | c::cs=>match xX h c with|some x=>(match uS h cs with|some xs=>some (x::xs)|none=>none)|none=>none
def sM (h:Heap)(b:Option Blk)(i j:Nat):Option V :=
 match b with
 | some (.ts _ es)=>match es[i]? with|some cs=>some (.t (.fp (cs.drop j)))|none=>none
 | some (.fz _ es)=>match es[i]? with|some cs=>some (.t (.fp (cs.drop j)))|none=>none
 | some (.vs _ es)=>match es[i]? with|some cs=>(match xX h (cs.drop j) with|some xs=>some (.t (.fp xs))|none=>none)|none=>none
 | _=>none
def sL (h:Heap)(b:Option Blk)(off len:Nat):Option V :=
 match b with
 | some (.ts sz es)=>some (.t (.list sz ((es.drop off).take len)))
 | some (.fz sz es)=>some (.t (.list sz ((es.drop off).take len)))
 | some (.vs sz es)=>match uS h ((es.drop off).take len) with|some xs=>some (.t (.list sz xs))|none=>none
 | _=>none
def yI (h:Heap):V→Option V
 | .t x=>some (.t x)
 | .nil sz=>some (.t (.list sz []))
 | .sl r off len _=>sL h h[r]? off len
 | .ptr r i j=>sM h h[r]? i j
 | .agg cs=>match snapVs h cs with|some cs'=>some (.agg cs')|none=>none
 | .tup cs=>match snapVs h cs with|some cs'=>some (.tup cs')|none=>none
 | .fn f caps=>match snapVs h caps with|some cs'=>(match ti cs' with|some xs=>some (.t (.fn f xs))|none=>none)|none=>none
 | _=>none
 where snapVs (h:Heap):List V→Option (List V)
 | []=>some []
 | v::vs=>match yI h v with|some x=>(match snapVs h vs with|some xs=>some (x::xs)|none=>none)|none=>none
def zf:T→Bool
 | .int _ _|.bool _|.str _|.nilp|.nilf|.nili|.nni=>true
 | .list _ es=>es.isEmpty
 | _=>false
def zc:V→Bool
 | .t x=>zf x
 | .agg cs=>flatVs cs
 | .tup cs=>flatVs cs
 | _=>false
 where flatVs:List V→Bool
 | []=>true
 | v::vs=>zc v&&flatVs vs
def xy (h:Heap)(args:List V):List Nat:=reach h 3 (yL [] (refs.refss args))
def xG (h:Heap)(k:Nat):Bool:=match h[k]? with|some .dead=>false|some _=>true|none=>false
def vB (ids:List Nat)(h:Heap)(r:Nat):Option Nat :=
 if r<ids.length then (match ids[r]? with|some k=>if xG h k then some k else none|none=>none) else some (h.length+(r - ids.length))
def z1 (mp:Nat→Option Nat)(h0:Heap):List Nat→Heap→Heap→Heap
 | i::is,b::bs,h=>z1 mp h0 is bs (if xG h0 i then h.set i (zj mp b) else h)
 | _,_,h=>h
def x7 (N:Option Nat)(ids:List Nat)(v:V)(h1 h:Heap):Option (V×Heap) :=
 if decide (h1.length<ids.length)||(N.isSome&&decide (ids.length<h1.length)) then none else
 some (ren (vB ids h) v,z1 (vB ids h) h ids h1 h++(h1.drop ids.length).map (zj (vB ids h)))
def wL (pol:Pol)(rec:Rec)(f:Nat)(N:Option Nat)(dst:Option Nat)(g:Nat)(args:List V)(h:Heap):Option (V×Heap) :=
 match pol.pm f (dst.getD 0) with
 | .pure => match asArg.asArgs args with
  | some az=>match zr rec g az with|some v=>some (v,h)|none=>none
  | none=>match yI.snapVs h args with
   | some az=>match zr rec g az with|some v=>if zc v then some (v,h) else none|none=>none
   | none=>none
 | .frz=>match yP.gives h args with
  | some (az,h')=>match zr rec g az with|some v=>some (v,h')|none=>none
  | none=>none
 | .opn gv=>match rec (.callO gv g (yj 0 args h).1 (yj 0 args h).2) with
  | some (.call v h1)=>x7 N (xy h args) v h1 h
  | _=>none
 | .brw=>none
 | .all=>none
def fnV:V→Option (Nat×List V)
 | .t (.fn f caps)=>some (f,caps.map .t)
 | .fn f caps=>some (f,caps)
 | _=>none
def yl (P:Program)(e:Env):List Operand→List TypeId→List V
 | x::xs,t::ts=>opv P e t x::yl P e xs ts
 | x::xs,[]=>opv P e 0 x::yl P e xs []
 | [],_=>[]
def qL (P:Program)(e:Env):Option Operand→Option V
 | some x=>some (opv P e 0 x)
 | none=>none
def xD (P:Program)(e:Env)(ty:Nat→TypeId):List (Nat×Operand)→List (Nat×V)
 | []=>[]
 | (i,x)::r=>(i,opv P e (ty i) x)::xD P e ty r
def fTy (P:Program)(s:TypeId)(i:Nat):TypeId :=
 match P.underlying s with
 | some (.struct fs)=>match fs[i]? with|some f=>f.type|none=>0
 | _=>0
def blt (P:Program)(N:Option Nat)(b:Builtin)(tys:List TypeId)(args:List V)(h:Heap):Option (V×Heap) :=
 match b,args with
 | .len,[x]=>match tys with
  | [t]=>match jS P t x with|some n=>some (.t (.int .i64 n),h)|none=>none
  | _=>none
 | .append,[s,x]=>match tys with
  | [t,u]=>app P N t u s x h
  | _=>none
 | .min,[.t (.int k x),.t (.int k' y)]=>if k=k' then some (.t (.int k (if y<x then y else x)),h) else none
 | .max,[.t (.int k x),.t (.int k' y)]=>if k=k' then some (.t (.int k (if y > x then y else x)),h) else none
 | _,_=>none
def zU (P : Program) (pol : Pol) (rec : Rec) (f : Nat) (N : Option Nat) (o : Oper) (e : Env) (h : Heap) : Option (V × Heap) :=
 match o.op with
 | .move x|.assign x=>some (opv P e o.type x,h)
 | .pick c a b=>match opv P e 0 c with
  | .t (.bool t)=>some (if t then opv P e o.type a else opv P e o.type b,h)
  | _=>none
 | .alloc t=>match zeroOf P t with
  | some zs=>if zs.isEmpty then none else some (.ptr (nI N h) 0 0,nH N h (.vs zs.length [zs]))
  | none=>none
 | .box t x=>let cs:=z7 (opv P e t x);if cs.isEmpty||!cs.all y5 then none else some (.ptr (nI N h) 0 0,nH N h (.vs cs.length [cs]))
 | .build t parts=>if uR P t then (match zeroOf P t with
  | some zs=>match sP P t zs (xD P e (fTy P t) parts.toList) with|some cs=>some (.agg cs,h)|none=>none
  | none=>none) else none
 | .buildSlice t len parts => match yo P t with
  | some el => if zC P el = 0 ∨ len * zC P el > 16777216 ∨ parts.size ≠ len ∨ (zeroOf P el).isNone = true then none else
   match vk (zC P el) 0 (xD P e (fun _=>el) parts.toList) with
   | some css=>match w4 h css with
    | some (es,h')=>some (.sl (nI N h') 0 len (some len),nH N h' (.ts (zC P el) es))
    | none=>none
   | none=>none
  | none=>none
 | .load t a=>match load P t (opv P e 0 a) h with|some v=>some (v,h)|none=>none
 | .store t a x=>match store P t (opv P e 0 a) (opv P e t x) h with|some h'=>some (.und,h')|none=>none
 | .binOp op t x y u=>match zm P op t y (opv P e t x) (opv P e u y) with|some v=>some (v,h)|none=>none
 | .unOp op t x=>match una op (opv P e t x) with|some v=>some (v,h)|none=>none
 | .convert src dst x=>match conv P src dst (opv P e src x) h with|some v=>some (v,h)|none=>none
 | .makeFunc (.func g) first caps=>if first.size=0 then some (.fn g (yl P e caps.toList []),h) else none
 | .makeSlice t l c => match yo P t, opv P e 0 l, opv P e 0 c with
  | some el, .t (.int _ n), .t (.int _ m) => match zeroOf P el with
   | some zs => match qO zs with
    | some z=>if zC P el=0∨n<0∨n≠m∨n.toNat*P.bytesOf el > ya∨n.toNat > ya then none else
     some (.sl (nI N h) 0 n.toNat (some n.toNat),nH N h (.ts (zC P el) (List.replicate n.toNat z)))
    | none=>none
   | none=>none
  | _,_,_=>none
 | .slice t x lo hi mx=>match cut P t (opv P e t x) (qL P e lo) (qL P e hi) (qL P e mx) h with|some v=>some (v,h)|none=>none
 | .nilCheck x=>match bZ (opv P e 0 x) with|some v=>some (v,h)|none=>none
 | .fieldAddr s x i=>match sE P s (opv P e 0 x) i with|some v=>some (v,h)|none=>none
 | .field s x i=>match fld P s (opv P e s x) i with|some v=>some (v,h)|none=>none
 | .indexAddr t x i=>match vU P t (opv P e t x) (opv P e 0 i) h with|some v=>some (v,h)|none=>none
 | .index t x i=>match opv P e t x,opv P e 0 i with
  | .t (.str l),.t (.int _ n)=>if isStr P t then (match uJ l n with|some b=>some (.t (.int .u8 (b.toNat:Int)),h)|none=>none) else none
  | _,_=>none
 | .extract x i=>match opv P e 0 x with
  | .tup vs=>match vs[i]? with|some v=>some (v,h)|none=>none
  | _=>none
 | .call c => match c.callee with
  | .builtin b=>blt P N b c.argTypes.toList (yl P e c.args.toList c.argTypes.toList) h
  | .value x=>match fnV (opv P e 0 x) with
   | some (g,caps)=>wL pol rec f N o.dst g (yl P e c.args.toList c.argTypes.toList++caps) h
   | none=>none
  | .invoke _ _=>none
 | _=>none
def oc:T→V
 | .list sz es=>.o (.list sz es)
 | x=>.t x
def isL:T→Bool
 | .list _ _|.nlist _ _ _=>true
 | _=>false
def oT:V→Option T
 | .t x=>if zf x&&!isL x then some x else none
 | .o x=>some x
 | .nil sz=>some (.list sz [])
 | _=>none
def oTs:List V→Option (List T)
 | []=>some []
 | v::vs=>match oT v with|some x=>(match oTs vs with|some xs=>some (x::xs)|none=>none)|none=>none
def ZS:List (List V)→Option (List (List T))
 | []=>some []
 | c::cs=>match oTs c with|some x=>(match ZS cs with|some xs=>some (x::xs)|none=>none)|none=>none
def qp (es:List (List T)):Bool:=es.all fun c=>c.all fun x=>zf x&&!isL x
def zY (es:List (List V))(i j:Nat)(cs:List V)(v:V):List (List V):=es.set i (cs.set j v)
def yv (r i : Nat) (c : Nat × Bool) (h : Heap) : Heap :=
 match h[r]? with
 | some (.vs sz es) => match es[i]? with
  | some cs => match cs[c.1]? with
   | some (.o (.list sz' es')) =>
    if c.2 then (if qp es' then h.set r (.vs sz (zY es i c.1 cs (.sl h.length 0 es'.length none)))++[.ts sz' es'] else h)
    else h.set r (.vs sz (zY es i c.1 cs (.sl h.length 0 es'.length none)))++[.vs sz' (es'.map fun e=>e.map oc)]
   | _=>h
  | none=>h
 | _=>h
def yx (r i : Nat) (c : Nat × Bool) (h : Heap) : Heap :=
 match h[r]? with
 | some (.vs sz es) => match es[i]? with
  | some cs => match cs[c.1]? with
   | some (.nil sz')=>h.set r (.vs sz (zY es i c.1 cs (.o (.list sz' []))))
   | some (.sl r' off len _) => if off = 0 ∧ r' ≠ r then (match h[r']? with
    | some (.ts sz' es')=>if es'.length=len∧qp es'=true then (h.set r (.vs sz (zY es i c.1 cs (.o (.list sz' es'))))).set r' .dead
     else if len≤es'.length∧qp (es'.take len)=true then (h.set r (.vs sz (zY es i c.1 cs (.o (.list sz' (es'.take len)))))).set r' .dead else h
    | some (.vs sz' es')=>if es'.length=len then (match ZS es' with
     | some xs=>(h.set r (.vs sz (zY es i c.1 cs (.o (.list sz' xs))))).set r' .dead
     | none=>h)
     else if len≤es'.length then (match ZS (es'.take len) with
     | some xs=>(h.set r (.vs sz (zY es i c.1 cs (.o (.list sz' xs))))).set r' .dead
     | none=>h) else h
    | _=>h) else h
   | _=>h
  | none=>h
 | _=>h
def yz (r i:Nat)(c:Nat×Bool)(h:Heap):Heap :=
 match h[r]? with
 | some (.vs sz es)=>match es[i]? with
  | some cs=>h.set r (.vs sz (zY es i c.1 cs .bad))
  | none=>h
 | _=>h
def yw (r i : Nat) (c : Nat × Bool) (h : Heap) : Heap :=
 match h[r]? with
 | some (.vs sz es) => match es[i]? with
  | some cs => match cs[c.1]? with
   | some (.sl r' off len _) => if r' = r then h else (match h[r']? with
    | some (.ts sz' es')=>(h.set r' (.fz sz' es')).set r (.vs sz (zY es i c.1 cs (.t (.list sz' ((es'.drop off).take len)))))
    | some (.fz sz' es')=>h.set r (.vs sz (zY es i c.1 cs (.t (.list sz' ((es'.drop off).take len)))))
    | some (.vs sz' es')=>(match gvE es' with
     | some xs=>(h.set r' (.fz sz' xs)).set r (.vs sz (zY es i c.1 cs (.t (.list sz' ((xs.drop off).take len)))))
     | none=>h)
    | _=>h)
   | some (.nil sz')=>h.set r (.vs sz (zY es i c.1 cs (.t (.list sz' []))))
   | _=>h
  | none=>h
 | _=>h
def yB (e:Env)(i:Option Nat):V→Option (Nat×Nat)
 | .sl r off len _=>match i with
  | some t=>(match e t with|.t (.int _ n)=>if 0≤n then some (r,off+n.toNat) else none|_=>none)
  | none=>if len=0 then none else some (r,off+len - 1)
 | .ptr r a _=>some (r,a)
 | _=>none
def yF (e:Env)(h:Heap)(s:Nat)(via i:Option Nat):Option (Nat×Nat) :=
 match via with
 | none=>yB e i (e s)
 | some c=>match e s with
  | .ptr r a j=>(match uk h r a (j+c) 1 with|some [v]=>yB e i v|_=>none)
  | _=>none
def gh1 (m:GM)(r i:Nat)(c:Nat×Bool)(h:Heap):Heap :=
 match m with
 | .fold=>yx r i c h
 | .unf=>yv r i c h
 | .fgt=>yz r i c h
 | .frz=>yw r i c h
def zI (m:GM)(r i:Nat):List (Nat×Bool)→Heap→Heap
 | [],h=>h
 | c::cs,h=>zI m r i cs (gh1 m r i c h)
def zX (g:Gh)(e:Env)(h:Heap):Heap :=
 match yF e h g.s g.via g.i with
 | some (r,i)=>zI g.fold r i g.cells h
 | none=>h
def ghH:List Gh→Env→Heap→Heap
 | [],_,h=>h
 | g::gs,e,h=>ghH gs e (zX g e h)
def zQ:V→Bool
 | .t x=>zf x&&!isL x
 | .nil _|.o _|.sl _ _ _ _=>true
 | .agg cs=>rowTs cs
 | .tup cs=>rowTs cs
 | _=>false
 where rowTs:List V→Bool
 | []=>true
 | v::vs=>zQ v&&rowTs vs
def yt:Blk→Bool
 | .ts _ es=>qp es
 | .vs _ es=>es.all fun c=>zQ.rowTs c
 | .dead=>true
 | _=>false
def n5 (rec:Rec)(g:Nat)(args:List V)(h:Heap):Option (V×Heap) :=
 match yI.snapVs h args with
 | some az=>match rec (.callO false g az []) with
  | some (.call v h1)=>if zQ v&&h1.all yt then x7 none [] v h1 h else none
  | _=>none
 | none=>none
def fq (rec:Rec)(g:Nat)(args:List V)(h:Heap):Option (V×Heap) :=
 match rec (.callO false g args h) with
 | some (.call v h1)=>some (v,h1)
 | _=>none
def yf (P : Program) (ty tx : TypeId) (s x : V) (h : Heap) : Option (V × Heap) :=
 match yo P ty,yo P tx with
 | some el, some _ => match s, x with
  | .sl r off len cap, .sl r2 off2 len2 _ => match h[r]?, h[r2]? with
   | some (.vs sz es), some (.vs sz2 es2) =>
    if sz=zC P el∧sz2=sz∧0<sz∧r≠r2∧off=0∧len=es.length∧off2=0∧len2=es2.length∧(es2.all fun c=>c.all y5)=true∧(len+len2)*(2*P.bytesOf el)≤ya∧len+len2≤ya∧(zeroOf P el).isSome=true then
     some (.sl h.length 0 (len+len2) none,h.set r .dead++[.vs sz (es++es2)])
    else none
   | _,_=>none
  | _,_=>none
 | _,_=>none
def mvC:V→Bool
 | .o _=>true
 | v=>y5 v
def unO:V→V
 | .o _=>.bad
 | v=>v
def yg (P : Program) (ty tx : TypeId) (s x : V) (h : Heap) : Option (V × Heap) :=
 match yo P ty,yo P tx with
 | some el, some _ => match s, x with
  | .sl r off len cap, .sl r2 off2 len2 _ => match h[r]?, h[r2]? with
   | some (.vs sz es), some (.vs sz2 es2) =>
    if sz=zC P el∧sz2=sz∧0<sz∧r≠r2∧off=0∧len=es.length∧off2+len2≤es2.length∧(((es2.drop off2).take len2).all fun c=>c.all mvC)=true∧(len+len2)*(2*P.bytesOf el)≤ya∧len+len2≤ya∧(zeroOf P el).isSome=true then
     some (.sl h.length 0 (len+len2) none,(h.set r .dead++[Blk.vs sz (es++(es2.drop off2).take len2)]).set r2 (Blk.vs sz (es2.take off2++((es2.drop off2).take len2).map (fun c=>c.map unO)++es2.drop (off2+len2))))
    else none
   | _,_=>none
  | _,_=>none
 | _,_=>none
def yn (P:Program)(ty tx:TypeId)(s x:V)(h:Heap):Option (V×Heap) :=
 match s with
 | .nil sz=>(match yf P ty tx (.sl h.length 0 0 none) x (h++[.vs sz []]) with|some q=>some q|none=>yg P ty tx (.sl h.length 0 0 none) x (h++[.vs sz []]))
 | s=>(match yf P ty tx s x h with|some q=>some q|none=>yg P ty tx s x h)
def yu (sz:Nat)(zs:List V)(r off len:Nat)(h:Heap):Option (V×Heap) :=
 match h[r]? with
 | some (.ts sz' es)=>match qO zs with
  | some z=>if sz'=sz∧off+len≤es.length then some (.tup [],h.set r (.ts sz' (es.take off++List.replicate len z++es.drop (off+len)))) else none
  | none=>none
 | some (.vs sz' es)=>if sz'=sz∧off+len≤es.length then some (.tup [],h.set r (.vs sz' (es.take off++List.replicate len zs++es.drop (off+len)))) else none
 | _=>none
def yr (P:Program)(t:TypeId)(x:V)(h:Heap):Option (V×Heap) :=
 match yo P t with
 | some el => match x with
  | .nil _=>some (.tup [],h)
  | .sl r off len _=>match zeroOf P el with
   | some zs=>yu (zC P el) zs r off len h
   | none=>none
  | _=>none
 | none=>none
def yS (P : Program) (pol : Pol) (rec : Rec) (f : Nat) (N : Option Nat) (o : Oper) (e : Env) (h : Heap) : Option (V × Heap) :=
 match o.op with
 | .buildSlice t len parts => match yo P t with
  | some el=>if zC P el=0∨len*zC P el > 16777216∨parts.size≠len∨(zeroOf P el).isNone=true∨zC P el=1 then none else
   match vk (zC P el) 0 (xD P e (fun _=>el) parts.toList) with
   | some css=>some (.sl (nI N h) 0 len (some len),nH N h (.vs (zC P el) css))
   | none=>none
  | none=>none
 | .makeSlice t l c => match yo P t, opv P e 0 l, opv P e 0 c with
  | some el, .t (.int _ n), .t (.int _ m) => match zeroOf P el with
   | some zs=>if zC P el=0∨n<0∨n≠m∨n.toNat*P.bytesOf el > ya∨n.toNat > ya∨¬ (zs.all y5=true) then none else
    some (.sl h.length 0 n.toNat (some n.toNat),h++[.vs (zC P el) (List.replicate n.toNat zs)])
   | none=>none
  | _,_,_=>none
 | .call c => match c.callee with
  | .builtin b=>match b,yl P e c.args.toList c.argTypes.toList,c.argTypes.toList with
   | .append,[s,x],[t,u]=>yn P t u s x h
   | .clear,[x],[t]=>yr P t x h
   | _,_,_=>none
  | .value x => match fnV (opv P e 0 x) with
   | some (g,caps)=>match pol.pm f (o.dst.getD 0) with
    | .brw=>n5 rec g (yl P e c.args.toList c.argTypes.toList++caps) h
    | .all=>fq rec g (yl P e c.args.toList c.argTypes.toList++caps) h
    | _=>none
   | none=>none
  | .invoke _ _=>none
 | _=>none
def bare {α:Type}(N:Option Nat)(x:Option α):Option α :=
 match N with
 | none=>x
 | some _=>none
def isB (o:Oper):Bool :=
 match o.op with
 | .buildSlice _ _ _=>true
 | _=>false
def bN (N:Option Nat)(o:Oper):Option Nat:=if isB o then N else none
def we (P:Program)(pol:Pol)(rec:Rec)(f:Nat)(N:Option Nat)(o:Oper)(e:Env)(h:Heap):Option (V×Heap) :=
 if pol.own f then (match yS P pol rec f N o e h with|some r=>some r|none=>bare (bN N o) (zU P pol rec f N o e h)) else zU P pol rec f N o e h
def want (ops:Array Oper)(o:Oper)(e:Env):Option Bool :=
 match o.guard with
 | none=>some true
 | some (j, b) => match (ops[j]?).bind (·.dst) with
  | some d=>match e d with
   | .t (.bool c)=>some (c==b)
   | .und=>some false
   | _=>none
  | none=>none
def uC (P:Program)(pol:Pol)(rec:Rec)(f:Nat)(N:Option Nat)(ops:Array Oper)(o:Oper)(e:Env)(h:Heap):Option (Env×Heap) :=
 match want ops o e with
 | some true=>match zU P pol rec f N o e h with|some (v,h')=>some (put e o.dst v,h')|none=>none
 | some false=>some (put e o.dst .und,h)
 | none=>none
def w5 (P:Program)(pol:Pol)(rec:Rec)(f:Nat)(N:Option Nat)(ops:Array Oper)(o:Oper)(e:Env)(h:Heap):Option (Env×Heap) :=
 match want ops o e with
 | some true=>match we P pol rec f N o e h with|some (v,h')=>some (put e o.dst v,h')|none=>none
 | some false=>some (put e o.dst .und,h)
 | none=>none
def si (P:Program)(pol:Pol)(rec:Rec)(f:Nat)(ops:Array Oper):List Oper→Env→Heap→Option (Env×Heap)
 | [],e,h=>some (e,h)
 | o::rest,e,h=>match w5 P pol rec f none ops o e h with
  | some (e',h')=>si P pol rec f ops rest e' h'
  | none=>none
def wK (P:Program)(pol:Pol)(rec:Rec)(f:Nat)(ops:Array Oper):List Oper→Env→Heap→Option (Env×Heap)
 | [],e,h=>some (e,h)
 | o::rest,e,h=>match uC P pol rec f none ops o e h with
  | some (e',h')=>wK P pol rec f ops rest e' h'
  | none=>none
def ym (pol:Pol)(f:Nat)(o:Oper):Bool :=
 match o.op with
 | .move _|.assign _|.pick _ _ _|.load _ _|.binOp _ _ _ _ _|.unOp _ _ _|.convert _ _ _|.slice _ _ _ _ _|.nilCheck _|.fieldAddr _ _ _|.field _ _ _|.indexAddr _ _ _|.index _ _ _|.extract _ _|.build _ _=>true
 | .call c=>match c.callee with
  | .builtin b=>(match b with|.len=>true|.min=>true|.max=>true|_=>false)
  | .value _=>(match pol.pm f (o.dst.getD 0) with|.pure=>true|_=>false)
  | .invoke _ _=>false
 | _=>false
def lh (ops:Array Oper):Bool :=
 (List.range ops.size).all fun j=>match ops[j]? with
  | some oj=>(oj.after.all fun e=>!Region.binds .any e||decide (e.on<j))&&(List.range j).all fun i=>match ops[i]? with
   | some oi=>(oj.after.any fun e=>Region.binds .any e&&e.on==i)||oi.apart ops oj
   | none=>true
  | none=>true
def ma (P:Program)(ops:Array Oper):Bool:=P.follows .mixedOrders&&lh ops
def oQ (P:Program)(pol:Pol)(f:Nat)(ops:Array Oper):Bool:=!pol.dr f||ma P ops
def xr (pol:Pol)(f:Nat)(o:Oper):Bool :=
 match o.op with
 | .alloc _|.box _ _|.buildSlice _ _ _|.makeSlice _ _ _=>true
 | .call c=>match c.callee with
  | .builtin b=>(match b with|.append=>true|_=>false)
  | .value _=>(match pol.pm f (o.dst.getD 0) with|.opn _=>true|_=>false)
  | .invoke _ _=>false
 | _=>false
def vC (pol:Pol)(f:Nat):Nat→List Oper→List (Option Nat)
 | _,[]=>[]
 | b,o::r=>if xr pol f o then some b::vC pol f (b+1) r else none::vC pol f b r
def wF (pol:Pol)(f:Nat):List Oper→Nat
 | []=>0
 | o::r=>if xr pol f o then wF pol f r+1 else wF pol f r
def za (e:Env):List Operand→List Nat
 | []=>[]
 | .tmp t::r=>refs (e t)++za e r
 | _::r=>za e r
def wD (o:Oper):Bool :=
 match o.op with
 | .call c=>match c.callee with
  | .value _=>true
  | _=>false
 | _=>false
def qo (deep:Bool)(ids:List Nat)(h:Heap):List Nat:=if deep then reach h 3 (yL [] ids) else ids
def yb (N:Option Nat)(o:Oper)(e:Env)(h:Heap):List Nat:=(match N with|some i=>[i]|none=>[])++qo (wD o) (za e o.op.operands.toList) h
def nL:Option Nat→List Nat
 | some i=>[i]
 | none=>[]
def hdL:List Operand→List Operand
 | x::_=>[x]
 | []=>[]
def wN (N:Option Nat)(o:Oper)(e:Env)(h:Heap):List Nat :=
 match o.op with
 | .move _|.assign _|.pick _ _ _|.load _ _|.binOp _ _ _ _ _|.unOp _ _ _|.convert _ _ _|.slice _ _ _ _ _|.nilCheck _|.fieldAddr _ _ _|.field _ _ _|.indexAddr _ _ _|.index _ _ _|.extract _ _|.build _ _=>[]
 | .call c=>match c.callee with
  | .builtin b=>(match b with|.append=>nL N++za e (hdL c.args.toList)|_=>yb N o e h)
  | _=>yb N o e h
 | _=>yb N o e h
def w6 (N:Option Nat)(o:Oper)(e:Env)(h:Heap):List Nat:=(wN N o e h).length::(wN N o e h++yb N o e h)
def wrE:List Nat→List Nat
 | n::l=>l.take n
 | []=>[]
def alE:List Nat→List Nat
 | n::l=>l.drop n
 | []=>[]
def evD (P:Program)(pol:Pol)(rec:Rec)(f:Nat)(ops:Array Oper):List (Option Nat)→List Oper→Env→Heap→Option (List (List Nat)×Env×Heap)
 | [],[],e,h=>some ([],e,h)
 | N :: Ns, o :: rest, e, h => match uC P pol rec f N ops o e h with
  | some (e',h')=>match evD P pol rec f ops Ns rest e' h' with
   | some (fs,e'',h'')=>some (w6 N o e h::fs,e'',h'')
   | none=>none
  | none=>none
 | _,_,_,_=>none
def soft (pol:Pol)(f:Nat)(o:Oper):Bool:=ym pol f o||xr pol f o
def Rc (xs ys:List Nat):Bool:=xs.all fun r=>!ys.contains r
def Xh (xs ys:List Nat):Bool:=Rc (wrE xs) (alE ys)&&Rc (wrE ys) (alE xs)
def bR (ops:Array Oper):Nat→Nat→Nat→Bool
 | 0,_,_=>false
 | n+1,i,j=>match ops[j]? with
  | some oj=>oj.after.any fun e=>Region.binds .any e&&(e.on==i||bR ops n i e.on)
  | none=>false
def U5 (pol:Pol)(f:Nat)(ops:Array Oper)(oi oj:Oper)(i j:Nat)(fi fj:List Nat):Bool :=
 (oj.after.any fun e=>Region.binds .any e&&e.on==i)||((soft pol f oi&&soft pol f oj&&((ym pol f oi&&ym pol f oj)||Xh fi fj))||bR ops 6 i j)
def bV (pol:Pol)(f:Nat)(ops:Array Oper)(fps:List (List Nat)):Bool :=
 (List.range ops.size).all fun j=>match ops[j]? with
  | some oj=>(List.range j).all fun i=>match ops[i]? with
   | some oi=>U5 pol f ops oi oj i j (fps.getD i []) (fps.getD j [])
   | none=>true
  | none=>true
def okK (pol:Pol)(f:Nat)(o:Oper):Bool :=
 match o.op with
 | .alloc _|.box _ _|.buildSlice _ _ _|.makeSlice _ _ _=>true
 | .call c=>match c.callee with
  | .builtin b=>(match b with|.append=>true|_=>false)
  | .value _=>(match pol.pm f (o.dst.getD 0) with|.brw=>true|.opn _=>true|_=>false)
  | .invoke _ _=>false
 | _=>false
def bW:List Nat→List Nat→Bool
 | _::fs,n::ws=>fs.all fun r=>decide (r<n)&&!ws.contains r
 | _,_=>false
def xI (o:Oper):Bool :=
 match o.op with
 | .call c=>match c.callee with
  | .builtin b=>(match b with|.append=>true|_=>false)
  | _=>false
 | _=>false
def sO (o:Oper):Bool :=
 match o.op with
 | .slice _ _ _ _ _=>true
 | _=>false
def oL (o:Oper):Bool :=
 match o.op with
 | .store _ _ _=>true
 | _=>false
def qj (pol:Pol)(f:Nat)(o:Oper):Bool:=ym pol f o||(isB o||(xI o||oL o))
def kids:Nat→List Oper→List (Option Nat)
 | _,[]=>[none]
 | b,o::r=>if isB o then some b::kids (b+1) r else none::kids b r
def oR:List Oper→Nat
 | []=>0
 | o::r=>if isB o then oR r+1 else oR r
def hdN:List (Option Nat)→Option Nat
 | []=>none
 | N::_=>N
def R6 (rb ra:List Nat):Bool:=Rc rb.tail ra.tail&&decide (rb.tail.headD 0<ra.headD 0)
def UZ (oi oj:Oper)(ri rj:List Nat):Bool:=(isB oi&&(isB oj||xI oj)&&R6 ri rj)||(xI oi&&isB oj&&R6 rj ri)
def R5 (rs ra:List Nat):Bool:=rs.tail.all fun r=>!(ra.tail.head? == some r)&&decide (r<ra.headD 0)
def kh (o:Oper):Bool :=
 match o.op with
 | .move _|.assign _|.pick _ _ _|.binOp _ _ _ _ _|.unOp _ _ _=>true
 | _=>false
def UY (oi oj:Oper)(ri rj:List Nat):Bool:=(sO oi&&xI oj&&R5 ri rj)||((xI oi&&sO oj&&R5 rj ri)||((kh oi&&oL oj)||(oL oi&&kh oj)))
def Rl (pol:Pol)(f:Nat)(kp:Bool)(ops:Array Oper)(oi oj:Oper)(i j:Nat)(ri rj:List Nat):Bool :=
 bR ops 8 i j||((ym pol f oi&&ym pol f oj)||((ym pol f oi&&okK pol f oj&&bW ri rj)||((okK pol f oi&&ym pol f oj&&bW rj ri)||((kp&&UZ oi oj ri rj)||UY oi oj ri rj))))
def zOK (pol:Pol)(f:Nat)(kp:Bool)(ops:Array Oper)(rs:List (List Nat)):Bool :=
 (!kp||(pol.own f&&ops.toList.all (qj pol f)))&&(List.range ops.size).all fun j=>match ops[j]? with
  | some oj=>(List.range j).all fun i=>match ops[i]? with
   | some oi=>Rl pol f kp ops oi oj i j (rs.getD i []) (rs.getD j [])
   | none=>true
  | none=>true
def evR (P:Program)(pol:Pol)(rec:Rec)(f:Nat)(ops:Array Oper):List (Option Nat)→List Oper→Env→Heap→Option (List (List Nat)×Env×Heap)
 | _,[],e,h=>some ([],e,h)
 | Ns, o :: rest, e, h => match w5 P pol rec f (hdN Ns) ops o e h with
  | some (e',h')=>match evR P pol rec f ops Ns.tail rest e' h' with
   | some (rs,e'',h'')=>some ((h.length::yb (hdN Ns) o e h)::rs,e'',h'')
   | none=>none
  | none=>none
def evZ (P:Program)(pol:Pol)(rec:Rec)(f:Nat)(kp:Bool)(ops:Array Oper)(e:Env)(h:Heap):Option (Env×Heap) :=
 match evR P pol rec f ops (if kp then kids h.length ops.toList else []) ops.toList e (if kp then h++List.replicate (oR ops.toList) .dead else h) with
 | some (rs,e',h')=>if zOK pol f kp ops rs then some (e',h') else none
 | none=>none
def uN (P:Program)(pol:Pol)(rec:Rec)(f:Nat)(ops:Array Oper)(e:Env)(h:Heap):Option (Env×Heap) :=
 match evD P pol rec f ops (vC pol f h.length ops.toList) ops.toList e (h++List.replicate (wF pol f ops.toList) .dead) with
 | some (fps,e',h')=>if bV pol f ops fps then some (e',h') else none
 | none=>none
def zb:List Nat→List V→Env
 | s::ss,v::vs=>upd (zb ss vs) s v
 | _,_=>fun _=>.bad
def evC (P:Program)(pol:Pol)(rec:Rec)(f:Nat)(m:Nat):Code→Nat→Env→Heap→Option (Exi×Env×Heap)
 | .skip,_,e,h=>some (.normal,e,h)
 | .seq a b,p,e,h=>match evC P pol rec f m a (2*p) e h with
  | some (.normal,e',h')=>evC P pol rec f m b (2*p+1) e' h'
  | r=>r
 | .cond c a b,p,e,h=>match opv P e 0 c with
  | .t (.bool t)=>if t then evC P pol rec f m a (2*p) e h else evC P pol rec f m b (2*p+1) e h
  | _=>none
 | .block id c,p,e,h=>match evC P pol rec f m c (2*p) e h with
  | some (.exit id',e',h')=>if id'=id then some (.normal,e',h') else some (.exit id',e',h')
  | r=>r
 | .loop _,p,e,h =>
  let q:=yj m ((pol.live f p).map e) h
  match rec (.loop f p m q.1 q.2) with
  | some (.loop x vals h')=>some (x,zb (pol.outs f p) vals,h')
  | _=>none
 | .exit id,_,e,h=>some (.exit id,e,h)
 | .ret,_,e,h=>some (.ret,e,h)
 | .region n ops draw,_,e,h =>
  if draw&&!pol.dr f then none else
  match (if draw&&!(ops.toList.all (ym pol f)) then (if pol.own f&&pol.dm f n then evZ P pol rec f (pol.dm f (n+1000)) ops e (ghH (pol.gh f n) e h) else uN P pol rec f ops e (ghH (pol.gh f n) e h)) else if draw then wK P pol rec f ops ops.toList e (ghH (pol.gh f n) e h) else si P pol rec f ops ops.toList e (ghH (pol.gh f n) e h)) with
  | some (e',h')=>some (.normal,e',h')
  | none=>none
 | _,_,_,_=>none
def yZ:Code→List Bool→Option Code
 | c,[]=>some c
 | .seq a b,d::ds=>yZ (if d then b else a) ds
 | .cond _ a b,d::ds=>yZ (if d then b else a) ds
 | .block _ c,_::ds=>yZ c ds
 | .loop c,_::ds=>yZ c ds
 | _,_=>none
def rD:Nat→Nat→List Bool
 | 0,_=>[]
 | n+1,p=>if p≤1 then [] else rD n (p / 2)++[p % 2==1]
def turns (p:Nat):List Bool:=rD p p
def vW (P:Program)(e:Env)(h:Heap):List ResultVar→Option (List V)
 | []=>some []
 | .tmp t::r=>match vW P e h r with|some vs=>some (e t::vs)|none=>none
 | .cell a t::r=>match load P t (e a) h with
  | some v=>(match vW P e h r with|some vs=>some (v::vs)|none=>none)
  | none=>none
def zk:List V→V
 | [v]=>v
 | vs=>.tup vs
def lQ (gv:Bool)(m:Nat)(r:Option (List V))(h:Heap):Option w7 :=
 match r with
 | some vs=>if gv then (match yP h (zk vs) with
  | some (v,h')=>some (.call v (yj m [] h').2)
  | none=>none)
  else some (.call (zk (yj m vs h).1) (yj m vs h).2)
 | none=>none
def step (P : Program) (pol : Pol) (rec : Rec) : Req → Option w7
 | .call f args h => match pol.ext f args with
  | some v=>if h.isEmpty then some (.call v []) else none
  | none=>match P.funcs[f]? with
  | some fn => match fn.body with
   | some c =>
    if pol.no f || fn.name == "runtime.NumGoroutine" || decide (fn.ntmps < args.length) then none else
    match evC P pol rec f h.length c 1 (zb (List.range args.length) args) h with
    | some (.normal, e', h') | some (.ret, e', h') => match vW P e' h' fn.results.toList with
     | some vs=>match yP h' (zk vs) with
      | some (v,h'')=>some (.call v (h''.take h.length))
      | none=>none
     | none=>none
    | _=>none
   | none=>none
  | none=>none
 | .callO gv f args h => match pol.extO f args h with
  | some x=>if gv then none else some (.call x.1 x.2)
  | none=>match P.funcs[f]? with
  | some fn => match fn.body with
   | some c =>
    if pol.no f || fn.name == "runtime.NumGoroutine" || decide (fn.ntmps < args.length) then none else
    match evC P pol rec f h.length c 1 (zb (List.range args.length) args) h with
    | some (.normal,e',h')|some (.ret,e',h')=>lQ gv h.length (vW P e' h' fn.results.toList) h'
    | _=>none
   | none=>none
  | none=>none
 | .loop f p m vals h => match P.funcs[f]? with
  | some fn => match fn.body with
   | some c => match yZ c (turns p) with
    | some (.loop b) =>
     match evC P pol rec f m b (2*p) (zb (pol.live f p) vals) h with
     | some (.normal,e',h') =>
      let q:=yj m ((pol.live f p).map e') h'
      rec (.loop f p m q.1 q.2)
     | some (x,e',h') =>
      let q:=yj m ((pol.outs f p).map e') h'
      some (.loop x q.1 q.2)
     | none=>none
    | _=>none
   | none=>none
  | none=>none
def it (P:Program)(pol:Pol):Nat→Rec
 | 0=>fun _=>none
 | n+1=>step P pol (it P pol n)
structure Loc where
 b:Nat
 o:Nat
 sz:Nat
 n:Nat
 z:Nat
inductive RT (w:World) (F:Nat→Prop):Value→T→Prop
 | int (k:IntKind) (n:Int):RT w F (.int k n) (.int k n)
 | bool (b:Bool):RT w F (.bool b) (.bool b)
 | str (s:ByteArray) (l:List UInt8) (h:s.data.toList=l):RT w F (.string s) (.str l)
 | list (a:Option Addr) (n c sz:Nat) (es:List (List T)) (g:Nat→Nat→Value) (hn:es.length=n) (hc:n≤c)
  (h0:0<n→∃ b o,a=some ⟨b,o,none⟩∧F b∧∀ i j,i<n→j<sz→w.cell? ⟨b,o+(i*sz+j),none⟩=some (g i j))
  (hz:∀ e∈es,e.length=sz)
  (hr:∀ i j cs x,es[i]? = some cs→cs[j]? = some x→RT w F (g i j) x):RT w F (.slice a n c) (.list sz es)
 | nlist (a:Option Addr) (n c sz:Nat) (es:List (List T)) (b:Bool) (hb:a.isNone=b) (h:RT w F (.slice a n c) (.list sz es)):RT w F (.slice a n c) (.nlist b sz es)
 | fp (b o:Nat) (cs:List T) (g:Nat→Value) (hF:F b) (hc:∀ j,j<cs.length→w.cell? ⟨b,o+j,none⟩=some (g j))
  (hr:∀ j x,cs[j]? = some x→RT w F (g j) x):RT w F (.pointer (some ⟨b,o,none⟩)) (.fp cs)
 | fn (f:Nat) (caps:List T) (vs:Array Value) (hv:vs.size=caps.length) (g:Nat→Value)
  (hg:∀ j,j<caps.length→vs[j]? = some (g j)) (hr:∀ j x,caps[j]? = some x→RT w F (g j) x):RT w F (.func (.func f) #[] vs) (.fn f caps)
 | nilp:RT w F (.pointer none) .nilp
 | nilf:RT w F .nilFunc .nilf
 | nili:RT w F .nilIface .nili
 | nni (t:TypeId) (v:Value):RT w F (.iface t v) .nni
abbrev y9:=Nat→Option (Option Loc)
inductive RV (w:World) (F:Nat→Prop) (ρ:y9):Value→V→Prop
 | t (u:Value) (x:T) (h:RT w F u x):RV w F ρ u (.t x)
 | nil (sz:Nat):RV w F ρ (.slice none 0 0) (.nil sz)
 | sl (r off len:Nat) (cap:Option Nat) (L:Loc) (a:Option Addr) (c:Nat) (hρ:ρ r=some (some L))
  (ha:a=some ⟨L.b,L.o+off*L.sz,none⟩∨c=0) (hl:len≤c) (hn:off+len≤L.n)
  (hc0:cap=none→L.n≤off+c) (hc1:∀ k,cap=some k→c=k) (hz:c≠0→L.o+(off+c)*L.sz≤L.z) :
  RV w F ρ (.slice a len c) (.sl r off len cap)
 | slP (r:Nat) (cap:Option Nat) (a:Option Addr) (hρ:ρ r=some none) (hc:cap=none∨cap=some 0):RV w F ρ (.slice a 0 0) (.sl r 0 0 cap)
 | ptr (r i j:Nat) (L:Loc) (hρ:ρ r=some (some L)):RV w F ρ (.pointer (some ⟨L.b,L.o+(i*L.sz+j),none⟩)) (.ptr r i j)
 | agg (vs:Array Value) (cs:List V) (g:Nat→Value) (hs:vs.size=cs.length) (hg:∀ j,j<cs.length→vs[j]? = some (g j))
  (hr:∀ j x,cs[j]? = some x→RV w F ρ (g j) x):RV w F ρ (.agg vs) (.agg cs)
 | tup (vs:Array Value) (cs:List V) (g:Nat→Value) (hs:vs.size=cs.length) (hg:∀ j,j<cs.length→vs[j]? = some (g j))
  (hr:∀ j x,cs[j]? = some x→RV w F ρ (g j) x):RV w F ρ (.tuple vs) (.tup cs)
 | fn (f:Nat) (vs:Array Value) (cs:List V) (g:Nat→Value) (hs:vs.size=cs.length) (hg:∀ j,j<cs.length→vs[j]? = some (g j))
  (hr:∀ j x,cs[j]? = some x→RV w F ρ (g j) x):RV w F ρ (.func (.func f) #[] vs) (.fn f cs)
 | o (u:Value) (x:T):RV w F ρ u (.o x)
 | und:RV w F ρ undef .und
 | bad (u:Value):RV w F ρ u .bad
inductive vg {α β:Type} (R:α→β→Prop):List α→List β→Prop
 | nil:vg R [] []
 | cons {u:α} {v:β} {us:List α} {vs:List β} (h:R u v) (hs:vg R us vs):vg R (u::us) (v::vs)
def RVs (w:World)(F:Nat→Prop)(ρ:y9)(us:List Value)(vs:List V):Prop:=vg (RV w F ρ) us vs
def RTs (w:World)(F:Nat→Prop)(us:List Value)(xs:List T):Prop:=vg (RT w F) us xs
theorem x6 {α β:Type}{R:α→β→Prop}:∀ {us:List α} {vs:List β},us.length=vs.length→(∀ (j:Nat) u v,us[j]? = some u→vs[j]? = some v→R u v)→vg R us vs
 | [],[],_,_=>.nil
 | [],_::_,h,_=>by simp at h
 | _::_,[],h,_=>by simp at h
 | u::us,v::vs,h,hr=>.cons (hr 0 u v rfl rfl) (x6 (by simpa using h) fun j a b ha hb=>hr (j+1) a b (by simpa using ha) (by simpa using hb))
theorem zP {α β:Type}{R:α→β→Prop}{us:List α}{vs:List β}(h:vg R us vs):us.length=vs.length:=by
 induction h with
 | nil=>rfl
 | cons _ _ ih=>simp[ih]
theorem yh {α β:Type}{R:α→β→Prop}{us:List α}{vs:List β}(h:vg R us vs):∀ (j:Nat) v,vs[j]? = some v→∃ u,us[j]? = some u∧R u v:=by
 induction h with
 | nil=>intro j v h;simp at h
 | cons hx _ ih =>
  intro j v hj
  cases j with
  | zero=>simp at hj;subst hj;exact⟨_,rfl,hx⟩
  | succ j=>simpa using ih j v (by simpa using hj)
theorem xS {α β:Type}{R R':α→β→Prop}{us:List α}{vs:List β}(h:vg R us vs)(hi:∀ u v,R u v→R' u v):vg R' us vs:=by
 induction h with
 | nil=>exact .nil
 | cons hx _ ih=>exact .cons (hi _ _ hx) ih
theorem yY {α β:Type}{R:α→β→Prop}{us us':List α}{vs vs':List β}(h:vg R us vs)(h':vg R us' vs'):vg R (us++us') (vs++vs'):=by
 induction h with
 | nil=>exact h'
 | cons hx _ ih=>exact .cons hx ih
theorem RV.eI {w:World}{F:Nat→Prop}{ρ:y9}{vs:Array Value}{cs:List V}(h:RVs w F ρ vs.toList cs):RV w F ρ (.agg vs) (.agg cs):=by
 have hl:=zP h;refine .agg vs cs (fun j=>(vs[j]?).getD undef) (by simpa using hl) (fun j hj=>?_) fun j x hx=>?_
 · have:j<vs.size:=by simp at hl;omega
   simp[this]
 · obtain⟨u,hu,hr⟩:=yh h j x hx;have:vs[j]? = some u:=by simpa using hu
   simpa [this] using hr
theorem RV.gN {w:World}{F:Nat→Prop}{ρ:y9}{vs:Array Value}{cs:List V}(h:RVs w F ρ vs.toList cs):RV w F ρ (.tuple vs) (.tup cs):=by
 have hl:=zP h;refine .tup vs cs (fun j=>(vs[j]?).getD undef) (by simpa using hl) (fun j hj=>?_) fun j x hx=>?_
 · have:j<vs.size:=by simp at hl;omega
   simp[this]
 · obtain⟨u,hu,hr⟩:=yh h j x hx;have:vs[j]? = some u:=by simpa using hu
   simpa [this] using hr
theorem RV.fn' {w:World}{F:Nat→Prop}{ρ:y9}{f:Nat}{vs:Array Value}{cs:List V}(h:RVs w F ρ vs.toList cs):RV w F ρ (.func (.func f) #[] vs) (.fn f cs):=by
 have hl:=zP h;refine .fn f vs cs (fun j=>(vs[j]?).getD undef) (by simpa using hl) (fun j hj=>?_) fun j x hx=>?_
 · have:j<vs.size:=by simp at hl;omega
   simp[this]
 · obtain⟨u,hu,hr⟩:=yh h j x hx;have:vs[j]? = some u:=by simpa using hu
   simpa [this] using hr
theorem RT.fn' {w:World}{F:Nat→Prop}{f:Nat}{vs:Array Value}{cs:List T}(h:RTs w F vs.toList cs):RT w F (.func (.func f) #[] vs) (.fn f cs):=by
 have hl:=zP h;refine .fn f cs vs (by simpa using hl) (fun j=>(vs[j]?).getD undef) (fun j hj=>?_) fun j x hx=>?_
 · have:j<vs.size:=by simp at hl;omega
   simp[this]
 · obtain⟨u,hu,hr⟩:=yh h j x hx;have:vs[j]? = some u:=by simpa using hu
   simpa [this] using hr
theorem xp {w:World} {F:Nat→Prop} {ρ:y9} {vs:Array Value} {cs:List V} {g:Nat→Value} (hs:vs.size=cs.length) (hg:∀ j,j<cs.length→vs[j]? = some (g j))
 (hr:∀ j x,cs[j]? = some x→RV w F ρ (g j) x):RVs w F ρ vs.toList cs :=
 x6 (by simpa using hs) fun j u v hu hv=>by
  have hj:j<cs.length:=by
   rcases Nat.lt_or_ge j cs.length with h|h
   · exact h
   · rw[List.getElem?_eq_none h]at hv;cases hv
  have h1:=hg j hj;have h2:vs[j]? = some u:=by simpa using hu
  rw[h1]at h2
  cases h2;exact hr j v hv
theorem Q6 {w:World} {F:Nat→Prop} {vs:Array Value} {cs:List T} {g:Nat→Value} (hs:vs.size=cs.length) (hg:∀ j,j<cs.length→vs[j]? = some (g j))
 (hr:∀ j x,cs[j]? = some x→RT w F (g j) x):RTs w F vs.toList cs :=
 x6 (by simpa using hs) fun j u v hu hv=>by
  have hj:j<cs.length:=by
   rcases Nat.lt_or_ge j cs.length with h|h
   · exact h
   · rw[List.getElem?_eq_none h]at hv;cases hv
  have h1:=hg j hj;have h2:vs[j]? = some u:=by simpa using hu
  rw[h1]at h2
  cases h2;exact hr j v hv
def jI (F:Nat→Prop)(w w':World):Prop:=∀ b,F b→w'.heap[b]? = w.heap[b]?
theorem jI.cell {F:Nat→Prop}{w w':World}(h:jI F w w'){b:Nat}(hb:F b)(o:Nat)(s:Option Nat):w'.cell? ⟨b,o,s⟩=w.cell? ⟨b,o,s⟩:=by
 unfold World.cell?;simp only[h b hb]
theorem RT.mono {w w':World}{F F':Nat→Prop}(hA:jI F w w')(hF:∀ b,F b→F' b){u:Value}{x:T}(h:RT w F u x):RT w' F' u x:=by
 induction h with
 | int k n=>exact .int k n
 | bool b=>exact .bool b
 | str s l h=>exact .str s l h
 | list a n c sz es g hn hc h0 hz hr ih =>
  refine .list a n c sz es g hn hc (fun hp=>?_) hz ih;obtain⟨b,o,e,hb,hcell⟩:=h0 hp;exact⟨b,o,e,hF b hb,fun i j hi hj=>(hA.cell hb _ _).trans (hcell i j hi hj)⟩
 | nlist a n c sz es b hb h ih=>exact .nlist a n c sz es b hb ih
 | fp b o cs g hb hc hr ih=>exact .fp b o cs g (hF b hb) (fun j hj=>(hA.cell hb _ _).trans (hc j hj)) ih
 | fn f caps vs hv g hg hr ih=>exact .fn f caps vs hv g hg ih
 | nilp=>exact .nilp
 | nilf=>exact .nilf
 | nili=>exact .nili
 | nni t v=>exact .nni t v
def Ext (ρ ρ':y9):Prop:=∀ r l,ρ r=some l→ρ' r=some l
theorem Ext.refl (ρ:y9):Ext ρ ρ:=fun _ _ h=>h
theorem Ext.trans {ρ ρ' ρ'':y9}(h:Ext ρ ρ')(h':Ext ρ' ρ''):Ext ρ ρ'':=fun r l e=>h' r l (h r l e)
theorem RV.mono {w w':World}{F F':Nat→Prop}{ρ ρ':y9}(hA:jI F w w')(hF:∀ b,F b→F' b)(hρ:Ext ρ ρ'){u:Value}{v:V}(h:RV w F ρ u v):RV w' F' ρ' u v:=by
 induction h with
 | t u x h=>exact .t u x (h.mono hA hF)
 | nil sz=>exact .nil sz
 | sl r off len cap L a c h ha hl hn hc0 hc1 hz=>exact .sl r off len cap L a c (hρ _ _ h) ha hl hn hc0 hc1 hz
 | slP r cap a h hc=>exact .slP r cap a (hρ _ _ h) hc
 | ptr r i j L h=>exact .ptr r i j L (hρ _ _ h)
 | agg vs cs g hs hg hr ih=>exact .agg vs cs g hs hg ih
 | tup vs cs g hs hg hr ih=>exact .tup vs cs g hs hg ih
 | fn f vs cs g hs hg hr ih=>exact .fn f vs cs g hs hg ih
 | o u x=>exact .o u x
 | und=>exact .und
 | bad u=>exact .bad u
inductive RO (w:World):Value→T→(Nat→Prop)→Prop
 | flat (u:Value) (x:T) (S:Nat→Prop) (hx:isL x=false) (hf:zf x=true) (h:RT w (fun _=>False) u x):RO w u x S
 | empty (a:Option Addr) (sz:Nat) (S:Nat→Prop):RO w (.slice a 0 0) (.list sz []) S
 | list (L:Loc) (c:Nat) (es:List (List T)) (S:Nat→Prop) (cc:Array Value) (el:TypeId) (fr:Nat×Nat) (g:Nat→Nat→Value) (fp:Nat→Nat→Nat→Prop)
  (hn:es.length=L.n) (hlen:∀ e∈es,e.length=L.sz) (hc:L.n≤c) (hz:c≠0→L.o+c*L.sz≤L.z)
  (hh:w.heap[L.b]? = some (.cells cc el fr)) (hs:cc.size=L.z) (hf:∀ k,k<cc.size→¬(fr.1≤k∧k<fr.2)) (hb:L.o+L.n*L.sz≤L.z)
  (hg:∀ i j cs x,es[i]? = some cs→cs[j]? = some x→cc[L.o+(i*L.sz+j)]? = some (g i j))
  (hr:∀ i j cs x,es[i]? = some cs→cs[j]? = some x→RO w (g i j) x (fp i j))
  (hS:S L.b) (hfp:∀ i j b,fp i j b→S b∧b≠L.b) (sep:∀ i j i' j' b,fp i j b→fp i' j' b→i=i'∧j=j') :
  RO w (.slice (some ⟨L.b,L.o,none⟩) L.n c) (.list L.sz es) S
theorem RO.mono {w w':World}{u:Value}{x:T}{S:Nat→Prop}(h:RO w u x S):∀ {S':Nat→Prop},(∀ b,S b→S' b∧w'.heap[b]? = w.heap[b]?)→RO w' u x S':=by
 induction h with
 | flat u x S hx hf h=>exact fun _=>.flat u x _ hx hf (h.mono (fun _ hb=>hb.elim) fun _ hb=>hb)
 | empty a sz S=>exact fun _=>.empty a sz _
 | list L c es S cc el fr g fp hn hlen hc hz hh hs hf hb hg hr hS hfp sep ih =>
  exact fun hA=>.list L c es _ cc el fr g fp hn hlen hc hz ((hA _ hS).2.trans hh) hs hf hb hg (fun i j cs x h1 h2=>ih i j cs x h1 h2 fun b hb=>⟨hb,(hA b (hfp i j b hb).1).2⟩) (hA _ hS).1 (fun i j b hb=>⟨(hA b (hfp i j b hb).1).1,(hfp i j b hb).2⟩) sep
theorem RO.cut {w:World}{u:Value}{x:T}{S:Nat→Prop}(h:RO w u x S):RO w u x fun b=>S b∧b<w.heap.size:=by
 induction h with
 | flat u x S hx hf h=>exact .flat u x _ hx hf h
 | empty a sz S=>exact .empty a sz _
 | list L c es S cc el fr g fp hn hlen hc hz hh hs hf hb hg hr hS hfp sep ih =>
  exact .list L c es _ cc el fr g (fun i j b=>fp i j b∧b<w.heap.size) hn hlen hc hz hh hs hf hb hg ih ⟨hS,(Array.getElem?_eq_some_iff.1 hh).1⟩ (fun i j b hb=>⟨⟨(hfp i j b hb.1).1,hb.2⟩,(hfp i j b hb.1).2⟩) fun i j i' j' b h1 h2=>sep i j i' j' b h1.1 h2.1
def cellAt (w:World)(L:Loc)(i j:Nat)(u:Value):Prop:=∃ c el fr,w.heap[L.b]? = some (.cells c el fr)∧c[L.o+(i*L.sz+j)]? = some u
def oAt (h:Heap)(r i j:Nat)(x:T):Prop:=∃ sz es cs,h[r]? = some (.vs sz es)∧es[i]? = some cs∧cs[j]? = some (.o x)
structure Own where
 b:Nat→Prop
 z:Nat→Prop
 N:Option Nat
instance:CoeFun Own (fun _=>Nat→Prop):=⟨Own.b⟩
def own (b:Nat→Prop):Own:=⟨b,fun _=>False,none⟩
structure xw {α:Type} (w:World) (L:Loc) (es:List (List α)) (R:Value→α→Prop):Prop where
 n:es.length=L.n
 len:∀ e∈es,e.length=L.sz
 cells:∃ c el fr,w.heap[L.b]? = some (.cells c el fr)∧c.size=L.z∧(∀ k,k<c.size→¬(fr.1≤k∧k<fr.2))∧L.o+L.n*L.sz≤L.z ∧
  ∀ i j cs x,es[i]? = some cs→cs[j]? = some x→∃ u,c[L.o+(i*L.sz+j)]? = some u∧R u x
def RB (w:World)(F:Nat→Prop)(ρ:y9)(Ow:Own)(r:Nat):Blk→Prop
 | .ts sz es=>(∃ L,ρ r=some (some L)∧L.sz=sz∧xw w L es (RT w F)∧¬ F L.b∧Ow L.b)∨(ρ r=some none∧es=[])
 | .vs sz es=>(∃ L,ρ r=some (some L)∧L.sz=sz∧xw w L es (RV w F ρ)∧¬ F L.b∧Ow L.b)∨(ρ r=some none∧es=[])
 | .fz sz es=>(∃ L,ρ r=some (some L)∧L.sz=sz∧xw w L es (RT w F)∧F L.b)∨(ρ r=some none∧es=[])
 | .dead=>True
def writes:Blk→Bool
 | .ts _ _|.vs _ _=>true
 | _=>false
structure sk (w:World) (F:Nat→Prop) (ρ:y9) (Ow:Own) (h:Heap) (φ:Nat→Nat→Nat→Nat→Prop):Prop where
 cell:∀ r i j x,oAt h r i j x→∃ L u,ρ r=some (some L)∧cellAt w L i j u∧RO w u x (φ r i j)
 act:∀ r i j b,φ r i j b→(∃ x,oAt h r i j x)∧¬ F b∧Ow b∧b<w.heap.size
 sep:∀ r i j r' i' j' b,φ r i j b→φ r' i' j' b→r=r'∧i=i'∧j=j'
 apart:∀ r i j b r' b' L',φ r i j b→h[r']? = some b'→writes b'=true→ρ r'=some (some L')→L'.b≠b
structure St (w:World) (F:Nat→Prop) (ρ:y9) (Ow:Own) (h:Heap):Prop where
 blk:∀ r b,h[r]? = some b→RB w F ρ Ow r b
 inj:∀ r r' b b' L L',h[r]? = some b→h[r']? = some b'→writes b=true→writes b'=true→ρ r=some (some L)→ρ r'=some (some L')→L.b=L'.b→r=r'
 fsz:∀ b,F b→b<w.heap.size
 out:∀ r,h.length≤r→ρ r=none
 own:∃ φ,sk w F ρ Ow h φ
structure Nxt (Ow:Own) (w:World) (F:Nat→Prop) (ρ:y9) (w':World) (F':Nat→Prop) (ρ':y9):Prop where
 os:w'.os=w.os
 tape:w'.tape=w.tape
 output:w'.output=w.output
 size:w.heap.size≤w'.heap.size
 keep:∀ b,b<w.heap.size→¬ Ow b→w'.heap[b]? = w.heap[b]?
 agree:jI F w w'
 grow:∀ b,F b→F' b
 new:∀ b,F' b→F b∨Ow b
 ext:Ext ρ ρ'
 res:∀ r,Ow.z r→ρ' r=ρ r
theorem Nxt.refl (Ow:Own)(w:World)(F:Nat→Prop)(ρ:y9):Nxt Ow w F ρ w F ρ :=
 ⟨rfl,rfl,rfl,Nat.le_refl _,fun _ _ _=>rfl,fun _ _=>rfl,fun _ h=>h,fun _ h=>.inl h,Ext.refl _,fun _ _=>rfl⟩
theorem Nxt.trans {Ow:Own}{w w1 w2:World}{F F1 F2:Nat→Prop}{ρ ρ1 ρ2:y9}(h:Nxt Ow w F ρ w1 F1 ρ1)(k:Nxt Ow w1 F1 ρ1 w2 F2 ρ2):Nxt Ow w F ρ w2 F2 ρ2 :=
 ⟨k.os.trans h.os,k.tape.trans h.tape,k.output.trans h.output,Nat.le_trans h.size k.size,
  fun b hb ho=>(k.keep b (Nat.lt_of_lt_of_le hb h.size) ho).trans (h.keep b hb ho),
  fun b hb=>(k.agree b (h.grow b hb)).trans (h.agree b hb),fun b hb=>k.grow b (h.grow b hb),
  fun b hb=>(k.new b hb).elim (fun x=>h.new b x) .inr,h.ext.trans k.ext,fun r hr=>(k.res r hr).trans (h.res r hr)⟩
theorem Nxt.rv {Ow:Own}{w w1:World}{F F1:Nat→Prop}{ρ ρ1:y9}(h:Nxt Ow w F ρ w1 F1 ρ1){u:Value}{v:V}(k:RV w F ρ u v):RV w1 F1 ρ1 u v:=k.mono h.agree h.grow h.ext
theorem Nxt.rvs {Ow:Own}{w w1:World}{F F1:Nat→Prop}{ρ ρ1:y9}(h:Nxt Ow w F ρ w1 F1 ρ1){us:List Value}{vs:List V}(k:RVs w F ρ us vs):RVs w1 F1 ρ1 us vs:=xS k fun _ _=>h.rv
theorem Nxt.rt {Ow:Own}{w w1:World}{F F1:Nat→Prop}{ρ ρ1:y9}(h:Nxt Ow w F ρ w1 F1 ρ1){u:Value}{v:T}(k:RT w F u v):RT w1 F1 u v:=k.mono h.agree h.grow
theorem xw.mono {α:Type}{w w':World}{L:Loc}{es:List (List α)}{R R':Value→α→Prop}(h:xw w L es R)(hb:w'.heap[L.b]? = w.heap[L.b]?)(hR:∀ u x,R u x→R' u x):xw w' L es R':=by
 obtain⟨n,len,c,el,fr,hh,hs,hf,hz,hc⟩:=h;refine⟨n,len,c,el,fr,hb.trans hh,hs,hf,hz,fun i j cs x h1 h2=>?_⟩;obtain⟨u,hu,hr⟩:=hc i j cs x h1 h2;exact⟨u,hu,hR u x hr⟩
theorem RB.mono {w w':World} {F F':Nat→Prop} {ρ ρ':y9} {Ow:Own} {r:Nat} {b:Blk} (h:RB w F ρ Ow r b) (hA:jI F w w') (hF:∀ b,F b→F' b) (hρ:Ext ρ ρ')
 (hk:∀ L,ρ r=some (some L)→writes b=true→w'.heap[L.b]? = w.heap[L.b]? ∧ ¬ F' L.b):RB w' F' ρ' Ow r b:=by
 cases b with
 | ts sz es =>
  rcases h with⟨L,h1,h2,h3,h4,h5⟩|⟨h1,h2⟩
  · exact .inl ⟨L,hρ _ _ h1,h2,h3.mono (hk L h1 rfl).1 fun u x hx=>hx.mono hA hF,(hk L h1 rfl).2,h5⟩
  · exact .inr ⟨hρ _ _ h1,h2⟩
 | vs sz es =>
  rcases h with⟨L,h1,h2,h3,h4,h5⟩|⟨h1,h2⟩
  · exact .inl ⟨L,hρ _ _ h1,h2,h3.mono (hk L h1 rfl).1 fun u x hx=>hx.mono hA hF hρ,(hk L h1 rfl).2,h5⟩
  · exact .inr ⟨hρ _ _ h1,h2⟩
 | fz sz es =>
  rcases h with⟨L,h1,h2,h3,h4⟩|⟨h1,h2⟩
  · exact .inl ⟨L,hρ _ _ h1,h2,h3.mono (hA _ h4) fun u x hx=>hx.mono hA hF,hF _ h4⟩
  · exact .inr ⟨hρ _ _ h1,h2⟩
 | dead=>trivial
theorem sk.next {w w':World} {F F':Nat→Prop} {ρ ρ':y9} {Ow:Own} {h h':Heap} {φ:Nat→Nat→Nat→Nat→Prop} (hφ:sk w F ρ Ow h φ) (hρ:Ext ρ ρ') (hsz:w.heap.size≤w'.heap.size)
 (hb:∀ r i j b,φ r i j b→w'.heap[b]? = w.heap[b]? ∧ ¬ F' b)
 (hc:∀ r i j x,oAt h' r i j x→oAt h r i j x∧∀ L u,ρ r=some (some L)→cellAt w L i j u→cellAt w' L i j u)
 (hr:∀ r b L,h'[r]? = some b→writes b=true→ρ' r=some (some L)→w.heap.size≤L.b∨∃ r0 b0 L0,h[r0]? = some b0∧writes b0=true∧ρ r0=some (some L0)∧L0.b=L.b):∃ φ',sk w' F' ρ' Ow h' φ':=by
 refine⟨fun r i j b=>φ r i j b∧∃ x,oAt h' r i j x,⟨fun r i j x ho=>?_,fun r i j b hb'=>?_,fun r i j r' i' j' b h1 h2=>hφ.sep r i j r' i' j' b h1.1 h2.1,fun r i j b r' b' L' h1 h2 h3 h4 he=>?_⟩⟩
 · obtain⟨ho0,hcell⟩:=hc r i j x ho;obtain⟨L,u,h1,h2,h3⟩:=hφ.cell r i j x ho0;exact⟨L,u,hρ _ _ h1,hcell L u h1 h2,h3.mono fun b hb'=>⟨⟨hb',x,ho⟩,(hb r i j b hb').1⟩⟩
 · obtain⟨hb',x,ho⟩:=hb';obtain⟨_,_,h3,h4⟩:=hφ.act r i j b hb';exact⟨⟨x,ho⟩,(hb r i j b hb').2,h3,Nat.lt_of_lt_of_le h4 hsz⟩
 · obtain⟨h1,x,ho⟩:=h1;rcases hr r' b' L' h2 h3 h4 with h5|⟨r0,b0,L0,k1,k2,k3,k4⟩
   · have:=(hφ.act r i j b h1).2.2.2;omega
   · exact hφ.apart r i j b r0 b0 L0 h1 k1 k2 k3 (k4.trans he)
variable {P:Program} {w:World} {F:Nat→Prop} {ρ:y9} {Ow:Own} {h:Heap}
def RE (w:World)(F:Nat→Prop)(ρ:y9)(a:Act)(e:Env):Prop:=∀ t,RV w F ρ (a.tmps.getD t undef) (e t)
theorem bC (ty:TypeId)(v:Value):RV w F ρ v (wJ P ty v):=by
 unfold wJ
 split
 · exact .t _ _ (.int _ _)
 · exact .t _ _ (.bool _)
 · exact .t _ _ (.str _ _ rfl)
 · split
   · exact .nil _
   · exact .bad _
 · exact .t _ _ .nilp
 · exact .t _ _ .nilf
 · exact .t _ _ .nili
 · exact .bad _
theorem rW:∀ (vs:List Value) (ts:List TypeId),RVs w F ρ vs (xE P vs ts)
 | [],_=>by simp only[xE];exact .nil
 | v::vs,[]=>by simp only[xE];exact .cons (.bad _) (rW vs [])
 | v::vs,t::ts=>by simp only[xE];exact .cons (bC t v) (rW vs ts)
theorem Qs (ty:TypeId)(v:Value):RV w F ρ v (cst P ty v):=by
 unfold cst
 split
 · exact RV.eI (rW _ _)
 · exact bC ty v
theorem yO {a:Act}{e:Env}(he:RE w F ρ a e)(ty:TypeId)(x:Operand):RV w F ρ (a.eval x) (opv P e ty x):=by
 cases x with
 | tmp t=>exact he t
 | const v=>exact Qs ty v
 | func f=>exact .t _ _ (RT.fn' .nil)
 | global g=>exact .bad _
theorem rk {u:Value}{x:T}(hu:RT w F u x):u.cells = #[u]∧u.oneCell'=true:=by cases hu<;>exact⟨rfl,rfl⟩
theorem rE {u:Value}{v:V}(hu:RV w F ρ u v)(hv:y5 v=true):u.cells = #[u]∧u.oneCell'=true∧z7 v=[v]:=by
 cases hu with
 | t u x hx=>exact⟨(rk hx).1,(rk hx).2,rfl⟩
 | nil|sl|slP|ptr|fn=>exact⟨rfl,rfl,rfl⟩
 | agg|tup|o|und|bad=>simp[y5]at hv
theorem pY {u:Value}{v:V}(hu:RV w F ρ u v)(hv:(z7 v).all y5=true):RVs w F ρ u.cells.toList (z7 v):=by
 cases v with
 | agg cs =>
  cases hu with
  | agg vs cs g hs hg hr=>exact xp hs hg hr
 | t x=>obtain⟨h1,h2,h3⟩:=rE hu rfl;rw[h1];exact .cons hu .nil
 | nil=>obtain⟨h1,h2,h3⟩:=rE hu rfl;rw[h1];exact .cons hu .nil
 | sl=>obtain⟨h1,h2,h3⟩:=rE hu rfl;rw[h1];exact .cons hu .nil
 | ptr=>obtain⟨h1,h2,h3⟩:=rE hu rfl;rw[h1];exact .cons hu .nil
 | fn=>obtain⟨h1,h2,h3⟩:=rE hu rfl;rw[h1];exact .cons hu .nil
 | tup=>simp[z7,y5]at hv
 | o=>simp[z7,y5]at hv
 | und=>simp[z7,y5]at hv
 | bad=>simp[z7,y5]at hv
theorem Zu {us:List Value}{vs:List V}(hu:RVs w F ρ us vs)(hv:vs.all y5=true):us.all (·.oneCell')=true:=by
 induction hu with
 | nil=>rfl
 | cons hx _ ih =>
  simp only[List.all_cons,Bool.and_eq_true]at hv ⊢;exact⟨(rE hx hv.1).2.1,ih hv.2⟩
theorem kW {a:Bool}{us:List Value}{cs:List V}{v:V}(hp:zd a cs=some v)(hr:RVs w F ρ us cs) :
 (a=true→RV w F ρ (.agg us.toArray) v)∧(a=false→∃ u,us=[u]∧RV w F ρ u v):=by
 unfold zd at hp
 cases a with
 | true=>simp at hp;subst hp;exact⟨fun _=>RV.eI hr,fun h=>absurd h (by simp)⟩
 | false =>
  simp at hp;refine⟨fun h=>absurd h (by simp),fun _=>?_⟩
  split at hp
  · cases hp
    cases hr with
    | cons hx hs=>cases hs;exact⟨_,rfl,hx⟩
  · cases hp
theorem kR {us:List Value}{vs:List V}(hu:RVs w F ρ us vs)(n:Nat):RVs w F ρ (us.drop n) (vs.drop n) :=
 x6 (by simp[zP hu]) fun j u v h1 h2=>by
  rw[List.getElem?_drop]at h1 h2;obtain⟨u',h3,h4⟩:=yh hu _ _ h2;rw[h1]at h3;cases h3;exact h4
theorem kQ {us:List Value}{vs:List V}(hu:RVs w F ρ us vs)(n:Nat):RVs w F ρ (us.take n) (vs.take n) :=
 x6 (by simp [zP hu]) fun j u v h1 h2 => by
  rw[List.getElem?_take]at h1 h2
  split at h1
  · rename_i hj;simp only[hj,if_true]at h2;obtain⟨u',h3,h4⟩:=yh hu _ _ h2;rw[h1]at h3;cases h3;exact h4
  · cases h1
theorem fC {us:List Value}{xs:List T}(hu:RTs w F us xs):RVs w F ρ us (xs.map .t):=by
 induction hu with
 | nil=>exact .nil
 | cons hx _ ih=>exact .cons (.t _ _ hx) ih
theorem oF:∀ {us:List Value} {vs:List V} {xs:List T},RVs w F ρ us vs→ti vs=some xs→RTs w F us xs
 | _,[],xs,hu,hx=>by cases hu;simp[ti]at hx;subst hx;exact .nil
 | _, v :: vs, xs, hu, hx => by
  cases hu with
  | cons h1 hs =>
   unfold ti at hx
   split at hx
   · split at hx
     · rename_i x _ xs' hxs
       cases hx
       cases h1 with
       | t u x hx=>exact .cons hx (oF hs hxs)
     · cases hx
   · cases hx
theorem sW {α:Type}{L:Loc}{es:List (List α)}{R:Value→α→Prop}(hr:xw w L es R){i j n:Nat}{cs:List α}(hi:es[i]? = some cs)(hj:j+n≤cs.length) :
 ∃ us:List Value,us.length=n∧w.rangeAt L.b (L.o+(i*L.sz+j)) us∧vg R us ((cs.drop j).take n):=by
 obtain⟨hn,hl,c,el,fr,hh,hs,hf,hz,hc⟩:=hr;have hlen:=hl cs (List.mem_of_getElem? hi);have hx:∀ k,k<n→∃ u x,c[L.o+(i*L.sz+(j+k))]? = some u∧cs[j+k]? = some x∧R u x:=fun k hk=>by
  have hk':j+k<cs.length:=by omega
  obtain⟨u,hu,hru⟩:=hc i (j+k) cs _ hi (List.getElem?_eq_getElem hk');exact⟨u,_,hu,List.getElem?_eq_getElem hk',hru⟩
 refine⟨(List.range n).map fun k=>(c[L.o+(i*L.sz+(j+k))]?).getD undef,by simp,fun k v hv=>?_,x6 (by simp;omega) fun k u v hu hv=>?_⟩
 · simp only[List.getElem?_map,List.getElem?_range]at hv
   by_cases hk:k<n
   · obtain⟨u,x,hu,_,_⟩:=hx k hk;simp[hk,hu]at hv;subst hv;unfold World.cell?;rw[hh];simp only[Option.isSome_none];rw[show L.o+(i*L.sz+j)+k=L.o+(i*L.sz+(j+k)) by omega];simpa using hu
   · simp[hk]at hv
 · have hk:k<n:=by
    rcases Nat.lt_or_ge k n with h|h
    · exact h
    · rw[List.getElem?_take]at hv;simp[Nat.not_lt.2 h]at hv
   obtain⟨u',x,h1,h2,h3⟩:=hx k hk;simp[List.getElem?_range,hk,h1]at hu;rw[List.getElem?_take,List.getElem?_drop]at hv;simp[hk,h2]at hv;subst hu;subst hv;exact h3
theorem bM {α β γ:Type}{R:α→β→Prop}{R':α→γ→Prop}{f:β→γ}{us:List α}{vs:List β}(h:vg R us vs)(hf:∀ u v,R u v→R' u (f v)):vg R' us (vs.map f):=by
 induction h with
 | nil=>exact .nil
 | cons hx _ ih=>exact .cons (hf _ _ hx) ih
theorem av (hS : St w F ρ Ow h) {r i j n : Nat} {cs : List V} (hl : uk h r i j n = some cs) {u : Value} (hu : RV w F ρ u (.ptr r i j)) :
 ∃ (b o:Nat) (us:List Value),u=.pointer (some ⟨b,o,none⟩)∧us.length=n∧w.rangeAt b o us∧RVs w F ρ us cs:=by
 cases hu with
 | ptr r i j L hρ =>
  refine⟨L.b,L.o+(i*L.sz+j),?_⟩;unfold uk at hl
  split at hl
  · rename_i sz es hb
    split at hl
    · rename_i ls hi
      split at hl
      · rename_i hj
        cases hl;have:=hS.blk r _ hb;rcases this with⟨L',h1,h2,h3,_⟩|⟨h1,_⟩
        · rw[hρ]at h1;cases h1;obtain⟨us,e1,e2,e3⟩:=sW h3 hi hj;exact⟨us,rfl,e1,e2,bM e3 fun u v hx=>.t _ _ hx⟩
        · rw[hρ]at h1;cases h1
      · cases hl
    · cases hl
  · rename_i sz es hb
    split at hl
    · rename_i ls hi
      split at hl
      · rename_i hj
        cases hl;have:=hS.blk r _ hb;rcases this with⟨L',h1,h2,h3,_⟩|⟨h1,_⟩
        · rw[hρ]at h1;cases h1;obtain⟨us,e1,e2,e3⟩:=sW h3 hi hj;exact⟨us,rfl,e1,e2,bM e3 fun u v hx=>.t _ _ hx⟩
        · rw[hρ]at h1;cases h1
      · cases hl
    · cases hl
  · rename_i sz es hb
    split at hl
    · rename_i ls hi
      split at hl
      · rename_i hj
        cases hl;have:=hS.blk r _ hb;rcases this with⟨L',h1,h2,h3,_⟩|⟨h1,_⟩
        · rw[hρ]at h1;cases h1;obtain⟨us,e1,e2,e3⟩:=sW h3 hi hj;exact⟨us,rfl,e1,e2,e3⟩
        · rw[hρ]at h1;cases h1
      · cases hl
    · cases hl
  · cases hl
theorem rK {t:TypeId}{d:TypeDesc}(hd:P.underlying t=some d):(isAgg t).run P w=.ok (yd P t) w:=by
 simp only[isAgg,underlying,Sem.run_bind,run_program,Result.andThen_ok,hd,Sem.run_pure,yd]
 cases d<;>rfl
theorem info_of_underlying {t:TypeId}{d:TypeDesc}(hd:P.underlying t=some d):∃ i,P.info? t=some i:=by
 unfold Program.underlying at hd
 cases hi:P.info? t with
 | none=>simp[hi]at hd
 | some i=>exact⟨i,rfl⟩
theorem run_sizeOf {t:TypeId}{i:TypeInfo}(hi:P.info? t=some i):(sizeOf t).run P w=.ok (zC P t) w:=by
 simp[sizeOf,typeInfo,hi,zC,Program.cellsOf]
theorem zF {t:TypeId}{d:TypeDesc}(hd:P.underlying t=some d):(underlying t).run P w=.ok d w:=by
 simp[underlying,hd]
theorem tc {t:TypeId}{i:TypeInfo}{z:Value}(hi:P.info? t=some i)(hz:i.zero=some z):(zeroValue t).run P w=.ok z w:=by
 simp[zeroValue,typeInfo,hi,hz]
theorem sQ {t:TypeId} {d:TypeDesc} (hd:P.underlying t=some d) {b o:Nat} {us:List Value} {cs:List V} {v:V} (hl:us.length=zC P t) (hr:w.rangeAt b o us)
 (hc:RVs w F ρ us cs) (hp:zd (yd P t) cs=some v):∃ u,(loadVar t ⟨b,o,none⟩).run P w=.ok u w∧RV w F ρ u v:=by
 obtain⟨i,hi⟩:=info_of_underlying hd;obtain⟨h1,h2⟩:=kW hp hc
 cases ha:yd P t with
 | true =>
  refine⟨_,?_,h1 ha⟩;have hcells:(loadCells ⟨b,o,none⟩ us.length).run P w=.ok us.toArray w :=
   run_loadCells_list (P:=P) w ⟨b,o,none⟩ us (fun j v hv=>by rw[Addr.add_mid];exact hr j v hv)
  simp only[loadVar,Sem.run_bind,rK hd,Result.andThen_ok,ha,if_true,run_sizeOf hi,← hl,hcells,Sem.run_pure]
 | false =>
  obtain⟨u,rfl,hv⟩:=h2 ha;refine⟨u,?_,hv⟩;have:=hr 0 u rfl;simp only[Nat.add_zero]at this;simp[loadVar,Sem.run_bind,rK hd,ha,this]
end Go.Proofs.YtefkoljdebekdaaGreatDoor.E
/- The evaluator's operations are those of the machine: what changes rows. Conditions: those of each lemma. -/
namespace Go.Proofs.YtefkoljdebekdaaGreatDoor.E
variable {P:Program} {w:World} {F:Nat→Prop} {ρ:y9} {Ow:Own} {h:Heap}
theorem RB.vX {r:Nat}{b:Blk}(hb:RB w F ρ Ow r b)(hw:writes b=true){L:Loc}(hρ:ρ r=some (some L)):¬ F L.b∧Ow L.b∧L.b<w.heap.size:=by
 cases b with
 | ts sz es =>
  rcases hb with⟨L',h1,h2,h3,h4,h5⟩|⟨h1,h2⟩
  · rw[hρ]at h1;cases h1;obtain⟨_,_,c,el,fr,hh,_⟩:=h3;exact⟨h4,h5,(Array.getElem?_eq_some_iff.1 hh).1⟩
  · rw[hρ]at h1;cases h1
 | vs sz es =>
  rcases hb with⟨L',h1,h2,h3,h4,h5⟩|⟨h1,h2⟩
  · rw[hρ]at h1;cases h1;obtain⟨_,_,c,el,fr,hh,_⟩:=h3;exact⟨h4,h5,(Array.getElem?_eq_some_iff.1 hh).1⟩
  · rw[hρ]at h1;cases h1
 | fz|dead=>simp[writes]at hw
theorem RB.some {r:Nat}{b:Blk}(hb:RB w F ρ Ow r b)(hw:b≠.dead):∃ l,ρ r=some l:=by
 cases b with
 | ts|vs|fz=>rcases hb with⟨L',h1,_⟩|⟨h1,h2⟩<;>exact⟨_,h1⟩
 | dead=>exact absurd rfl hw
theorem St.next {w':World} {F':Nat→Prop} {ρ':y9} {h':Heap} (hS:St w F ρ Ow h) (hN:Nxt Ow w F ρ w' F' ρ') (hout:∀ r,h'.length≤r→ρ' r=none) (hfsz:∀ b,F' b→b<w'.heap.size)
 (hb:∀ r b,h'[r]? = some b→(h[r]? = some b∧∀ L,ρ r=some (some L)→writes b=true→w'.heap[L.b]? = w.heap[L.b]? ∧ ¬ F' L.b) ∨
  (RB w' F' ρ' Ow r b∧∀ L,ρ' r=some (some L)→writes b=true→∀ r' b' L',r'≠r→h'[r']? = some b'→writes b'=true→ρ' r'=some (some L')→L'.b≠L.b)) (hown:∃ φ,sk w' F' ρ' Ow h' φ):St w' F' ρ' Ow h':=by
 refine⟨fun r b hr=>?_,fun r r' b b' L L' hr hr' hw hw' hL hL' he=>?_,hfsz,hout,hown⟩
 · rcases hb r b hr with⟨h1,h2⟩|⟨h1,_⟩
   · exact (hS.blk r b h1).mono hN.agree hN.grow hN.ext h2
   · exact h1
 · rcases hb r b hr with⟨h1,h2⟩|⟨h1,h2⟩
   · rcases hb r' b' hr' with⟨h3,h4⟩|⟨h3,h4⟩
     · obtain⟨l,hl⟩:=(hS.blk r b h1).some (by intro e;subst e;simp[writes]at hw);obtain⟨l',hl'⟩:=(hS.blk r' b' h3).some (by intro e;subst e;simp[writes]at hw');have e1:=hN.ext _ _ hl;have e2:=hN.ext _ _ hl';rw[e1]at hL;cases hL;rw[e2]at hL';cases hL';exact hS.inj r r' b b' L L' h1 h3 hw hw' hl hl' he
     · rcases Nat.lt_or_ge r r' with hlt|hge
       · exact absurd he (h4 L' hL' hw' r b L (by omega) hr hw hL)
       · rcases Nat.lt_or_ge r' r with hlt'|hge'
         · exact absurd he (h4 L' hL' hw' r b L (by omega) hr hw hL)
         · omega
   · rcases Nat.lt_or_ge r r' with hlt|hge
     · exact absurd he.symm (h2 L hL hw r' b' L' (by omega) hr' hw' hL')
     · rcases Nat.lt_or_ge r' r with hlt'|hge'
       · exact absurd he.symm (h2 L hL hw r' b' L' (by omega) hr' hw' hL')
       · omega
theorem St.owned {w':World} {F':Nat→Prop} {ρ':y9} {h':Heap} (hS:St w F ρ Ow h) (hN:Nxt Ow w F ρ w' F' ρ')
 (hb:∀ b,Ow b→¬ F b→b<w.heap.size→(∀ r b0 L0,h[r]? = some b0→writes b0=true→ρ r=some (some L0)→L0.b≠b)→w'.heap[b]? = w.heap[b]? ∧ ¬ F' b)
 (hc:∀ r i j x,oAt h' r i j x→oAt h r i j x∧∀ L u,ρ r=some (some L)→cellAt w L i j u→cellAt w' L i j u)
 (hr:∀ r b L,h'[r]? = some b→writes b=true→ρ' r=some (some L)→w.heap.size≤L.b∨∃ r0 b0 L0,h[r0]? = some b0∧writes b0=true∧ρ r0=some (some L0)∧L0.b=L.b):∃ φ',sk w' F' ρ' Ow h' φ':=by
 obtain⟨φ,hφ⟩:=hS.own;refine hφ.next hN.ext hN.size (fun r i j b hx=>?_) hc hr;obtain⟨_,h2,h3,h4⟩:=hφ.act r i j b hx;exact hb b h3 h2 h4 fun r' b0 L0 k1 k2 k3=>hφ.apart r i j b r' b0 L0 hx k1 k2 k3
theorem St.same (hS:St w F ρ Ow h){ρ':y9}(hρ:Ext ρ ρ'){r:Nat}{b:Blk}{L:Loc}(hb:h[r]? = some b)(hw:writes b=true)(hL:ρ' r=some (some L)) :
 ∃ r0 b0 L0,h[r0]? = some b0∧writes b0=true∧ρ r0=some (some L0)∧L0.b=L.b:=by
 obtain⟨l,hl⟩:=(hS.blk r b hb).some (by intro e;subst e;simp[writes]at hw);have e:=hρ _ _ hl;rw[e]at hL;cases hL;exact⟨r,b,L,hb,hw,hl,rfl⟩
theorem v7 {w':World}{L:Loc}{i j:Nat}{u:Value}(hb:w'.heap[L.b]? = w.heap[L.b]?)(h:cellAt w L i j u):cellAt w' L i j u:=by
 obtain⟨c,el,fr,h1,h2⟩:=h;exact⟨c,el,fr,hb.trans h1,h2⟩
theorem fL {h':Heap}{r i j:Nat}{x:T}(ho:oAt h' r i j x)(hne:h'[r]? = h[r]?):oAt h r i j x:=by
 obtain⟨sz,es,cs,h1,h2⟩:=ho;exact⟨sz,es,cs,hne▸h1,h2⟩
theorem q9 {r0 r i j:Nat}{blk:Blk}{x:T}(hn:∀ sz es,blk≠.vs sz es)(ho:oAt (h.set r0 blk) r i j x):oAt h r i j x:=by
 obtain⟨sz,es,cs,h1,h2⟩:=ho;rw[List.getElem?_set]at h1
 split at h1
 · split at h1
   · cases h1;exact absurd rfl (hn sz es)
   · cases h1
 · exact⟨sz,es,cs,h1,h2⟩
theorem sq (hS:St w F ρ Ow h){ρ':y9}{r0 r:Nat}{b0 b blk:Blk}{L:Loc}(hb0:h[r0]? = some b0)(hw0:writes b0=true)(hρ:Ext ρ ρ')(hb:(h.set r0 blk)[r]? = some b)(hw:writes b=true)(hL:ρ' r=some (some L)) :
 ∃ r1 b1 L1,h[r1]? = some b1∧writes b1=true∧ρ r1=some (some L1)∧L1.b=L.b:=by
 rw[List.getElem?_set]at hb
 split at hb
 · rename_i e;subst e;exact hS.same hρ hb0 hw0 hL
 · exact hS.same hρ hb hw hL
theorem tH {F':Nat→Prop} {u:Value} {r off len sz:Nat} {cap:Option Nat} {es:List (List T)} {L:Loc} (hρ:ρ r=some (some L)) (hu:RV w F ρ u (.sl r off len cap)) (hL:L.sz=sz)
 (hr:xw w L es (RT w F')) (hF:F' L.b):RT w F' u (.list sz ((es.drop off).take len)):=by
 cases hu with
 | slP r cap a hρ' hc=>rw[hρ]at hρ';cases hρ'
 | sl r off len cap L' a c hρ' ha hl hn hc0 hc1 hz =>
  rw[hρ]at hρ';cases hρ';subst hL;obtain⟨h1,h2,cc,el,fr,hh,hs,hf,hzz,hc⟩:=hr;refine .list a len c L.sz _ (fun i j=>(cc[L.o+((off+i)*L.sz+j)]?).getD undef) (by simp;omega) hl (fun hp=>?_) (fun e he=>h2 e (List.mem_of_mem_drop (List.mem_of_mem_take he))) fun i j cs x hi hj=>?_
  · have hne:¬ c=0:=by omega
    refine⟨L.b,L.o+off*L.sz,ha.resolve_right hne,hF,fun i j hi hj=>?_⟩;have hi':off+i<es.length:=by omega
    obtain⟨u,hu,_⟩:=hc (off+i) j _ _ (List.getElem?_eq_getElem hi') (List.getElem?_eq_getElem (by rw[h2 _ (List.getElem_mem hi')];exact hj));rw[hu];unfold World.cell?;rw[hh];simp only[Option.isSome_none,Option.getD_some];rw[show L.o+off*L.sz+(i*L.sz+j)=L.o+((off+i)*L.sz+j) by rw[Nat.add_mul];omega];simpa using hu
  · rw[List.getElem?_take]at hi
    split at hi
    · rw[List.getElem?_drop]at hi;obtain⟨u,hu,hru⟩:=hc (off+i) j _ _ hi hj;rw[hu];exact hru
    · cases hi
theorem vi (F':Nat→Prop)(a:Option Addr)(sz:Nat):RT w F' (.slice a 0 0) (.list sz []) :=
 .list a 0 0 sz [] (fun _ _=>undef) rfl (Nat.le_refl _) (fun h=>absurd h (by omega)) (fun e he=>by cases he) (fun i j cs x hi=>by simp at hi)
theorem cZ (hS : St w F ρ Ow h) {r off len sz : Nat} {cap : Option Nat} {es : List (List T)} (hb : h[r]? = some (.ts sz es)) {u : Value} (hu : RV w F ρ u (.sl r off len cap)) :
 ∃ F',RV w F' ρ u (.t (.list sz ((es.drop off).take len)))∧St w F' ρ Ow (h.set r (.fz sz es))∧Nxt Ow w F ρ w F' ρ:=by
 rcases hS.blk r _ hb with⟨L,h1,h2,h3,h4,h5⟩|⟨h1,h2⟩
 · have hsz:L.b<w.heap.size:=by
    obtain⟨_,_,c,el,fr,hh,_⟩:=h3;exact (Array.getElem?_eq_some_iff.1 hh).1
   have hN:Nxt Ow w F ρ w (fun b=>F b∨b=L.b) ρ :=
    ⟨rfl,rfl,rfl,Nat.le_refl _,fun _ _ _=>rfl,fun _ _=>rfl,fun _ x=>.inl x,fun b x=>x.imp id fun (e:b=L.b)=>e▸h5,Ext.refl _,fun _ _=>rfl⟩
   have h3':xw w L es (RT w (fun b=>F b∨b=L.b)):=h3.mono rfl fun u x hx=>hx.mono hN.agree hN.grow
   refine⟨_,.t _ _ (tH h1 hu h2 h3' (.inr rfl)),hS.next hN (fun r' hr'=>hS.out r' (by simpa using hr')) (fun b x=>x.elim (hS.fsz b) fun (e:b=L.b)=>e▸hsz) (fun r' b' hr'=>?_)
    (hS.owned hN (fun b _ hF _ hne=>⟨rfl,fun x=>x.elim hF fun (e:b=L.b)=>hne r _ L hb rfl h1 e.symm⟩) (fun r' i j x ho=>⟨q9 (by rintro _ _ ⟨⟩) ho,fun _ _ _ hx=>hx⟩)
     fun r' b' L' hr' hw hL'=>.inr (sq hS hb rfl (Ext.refl _) hr' hw hL')),hN⟩
   rw[List.getElem?_set]at hr'
   split at hr'
   · rename_i e;subst e
     split at hr'
     · cases hr';exact .inr ⟨.inl ⟨L,h1,h2,h3',.inr rfl⟩,fun L' _ hw=>by simp[writes]at hw⟩
     · cases hr'
   · rename_i hne;refine .inl ⟨hr',fun L' hL' hw=>⟨rfl,?_⟩⟩
     rintro (x|x)
     · exact ((hS.blk r' b' hr').vX hw hL').1 x
     · exact hne (hS.inj r r' _ b' L L' hb hr' rfl hw h1 hL' x.symm)
 · subst h2
   cases hu with
   | sl r off len cap L a c hρ'=>rw[h1]at hρ';cases hρ'
   | slP r cap a hρ hc =>
    have hN:=Nxt.refl Ow w F ρ;refine⟨F,.t _ _ (by simpa using vi F a sz),hS.next hN (fun r' hr'=>hS.out r' (by simpa using hr')) hS.fsz (fun r' b' hr'=>?_)
     (hS.owned hN (fun b _ hF _ _=>⟨rfl,hF⟩) (fun r' i j x ho=>⟨q9 (by rintro _ _ ⟨⟩) ho,fun _ _ _ hx=>hx⟩) fun r' b' L' hr' hw hL'=>.inr (sq hS hb rfl (Ext.refl _) hr' hw hL')),hN⟩
    rw[List.getElem?_set]at hr'
    split at hr'
    · rename_i e;subst e
      split at hr'
      · cases hr';exact .inr ⟨.inr ⟨h1,rfl⟩,fun L' _ hw=>by simp[writes]at hw⟩
      · cases hr'
    · exact .inl ⟨hr',fun L' hL' hw=>⟨rfl,((hS.blk r' b' hr').vX hw hL').1⟩⟩
theorem RO.rtS {u:Value}{x:T}{S:Nat→Prop}(hu:RO w u x S){F':Nat→Prop}:(∀ b,S b→F' b)→RT w F' u x:=by
 induction hu with
 | flat u x S hx hf h=>exact fun _=>h.mono (fun _ _=>rfl) fun _ hb=>hb.elim
 | empty a sz S=>exact fun _=>vi F' a sz
 | list L c es S cc el fr g fp hn hlen hc hz hh hs hf hb hg hr hS hfp sep ih =>
  intro hF;refine .list _ _ c _ es g hn hc (fun _=>⟨L.b,L.o,rfl,hF _ hS,fun i j hi hj=>?_⟩) hlen fun i j cs x h1 h2=>ih i j cs x h1 h2 fun b hb=>hF b (hfp i j b hb).1
  have hi':i<es.length:=by omega
  have h1:=List.getElem?_eq_getElem hi';have h2:=List.getElem?_eq_getElem (show j<(es[i]'hi').length by rw[hlen _ (List.getElem_mem hi')];exact hj);have:=hg i j _ _ h1 h2;unfold World.cell?;rw[hh];simpa using this
theorem je:∀ {vs:List V} {xs:List T},oN vs=some xs→xs.length=vs.length∧∀ (j:Nat) x,xs[j]? = some x→∃ v,vs[j]? = some v∧gvC v=some x
 | [],xs,hx=>by simp only[oN]at hx;cases hx;exact⟨rfl,fun j x hj=>by simp at hj⟩
 | v::vs,xs,hx=>by
  simp only[oN]at hx
  split at hx
  · rename_i y h1
    split at hx
    · rename_i xs' h2
      cases hx;obtain⟨k1,k2⟩:=je h2;refine⟨by simp[k1],fun j x hj=>?_⟩
      cases j with
      | zero=>simp at hj;subst hj;exact⟨v,rfl,h1⟩
      | succ j=>simpa using k2 j x (by simpa using hj)
    · cases hx
  · cases hx
theorem Ys:∀ {es:List (List V)} {xs:List (List T)},gvE es=some xs→xs.length=es.length∧∀ (i:Nat) ys,xs[i]? = some ys→∃ cs,es[i]? = some cs∧oN cs=some ys
 | [],xs,hx=>by simp only[gvE]at hx;cases hx;exact⟨rfl,fun i ys hi=>by simp at hi⟩
 | c::cs,xs,hx=>by
  simp only[gvE]at hx
  split at hx
  · rename_i y h1
    split at hx
    · rename_i xs' h2
      cases hx;obtain⟨k1,k2⟩:=Ys h2;refine⟨by simp[k1],fun i ys hi=>?_⟩
      cases i with
      | zero=>simp at hi;subst hi;exact⟨c,rfl,h1⟩
      | succ i=>simpa using k2 i ys (by simpa using hi)
    · cases hx
  · cases hx
theorem b5 (hS:St w F ρ Ow h){r off len sz:Nat}{cap:Option Nat}{es:List (List V)}{xs:List (List T)}(hb:h[r]? = some (.vs sz es))(hx:gvE es=some xs){u:Value}(hu:RV w F ρ u (.sl r off len cap)) :
 ∃ F',RV w F' ρ u (.t (.list sz ((xs.drop off).take len)))∧St w F' ρ Ow (h.set r (.fz sz xs))∧Nxt Ow w F ρ w F' ρ:=by
 obtain⟨e1,e2⟩:=Ys hx;obtain⟨φ,hφ⟩:=hS.own;rcases hS.blk r _ hb with⟨L,h1,h2,h3,h4,h5⟩|⟨h1,h2⟩
 · have hsz:L.b<w.heap.size:=by
    obtain⟨_,_,c,el,fr,hh,_⟩:=h3;exact (Array.getElem?_eq_some_iff.1 hh).1
   let F':Nat→Prop:=fun b=>F b∨b=L.b∨∃ i j,φ r i j b
   have hN:Nxt Ow w F ρ w F' ρ :=
    ⟨rfl,rfl,rfl,Nat.le_refl _,fun _ _ _=>rfl,fun _ _=>rfl,fun _ x=>.inl x,fun b x=>by
     rcases x with x|rfl|⟨i,j,x⟩
     · exact .inl x
     · exact .inr h5
     · exact .inr (hφ.act r i j b x).2.2.1,Ext.refl _,fun _ _=>rfl⟩
   have h3':xw w L xs (RT w F'):=by
    obtain⟨k1,k2,cc,el,fr,k3,k4,k5,k6,k7⟩:=h3;refine⟨by omega,fun e he=>?_,cc,el,fr,k3,k4,k5,k6,fun i j cs x hi hj=>?_⟩
    · obtain⟨i,hi⟩:=List.mem_iff_getElem?.1 he;obtain⟨cs,c1,c2⟩:=e2 i e hi;rw[(je c2).1];exact k2 cs (List.mem_of_getElem? c1)
    · obtain⟨cs0,c1,c2⟩:=e2 i cs hi;obtain⟨v,d1,d2⟩:=(je c2).2 j x hj;obtain⟨u,hu,hr⟩:=k7 i j cs0 v c1 d1;refine⟨u,hu,?_⟩
      cases v with
      | t y =>
       simp only[gvC]at d2;cases d2
       cases hr with
       | t _ _ hr=>exact hr.mono hN.agree hN.grow
      | o y =>
       simp only[gvC]at d2;cases d2;obtain⟨L1,u1,p1,⟨c1',e1',f1',p2,p3⟩,p4⟩:=hφ.cell r i j x ⟨_,es,cs0,hb,c1,d1⟩;rw[h1]at p1;cases p1;rw[k3]at p2;cases p2;rw[hu]at p3;cases p3;exact p4.rtS fun b hb=>.inr (.inr ⟨i,j,hb⟩)
      | nil s =>
       simp only[gvC]at d2;cases d2
       cases hr;exact vi F' none s
      | _=>simp[gvC]at d2
   have hnF:∀ k b' L',h[k]? = some b'→writes b'=true→ρ k=some (some L')→k≠r→¬ F' L'.b:=fun k b' L' q1 q2 q3 hne hx=>by
    rcases hx with hx|hx|⟨i,j,hx⟩
    · exact ((hS.blk k b' q1).vX q2 q3).1 hx
    · exact hne (hS.inj k r b' _ L' L q1 hb q2 rfl q3 h1 hx)
    · exact hφ.apart r i j L'.b k b' L' hx q1 q2 q3 rfl
   refine⟨F',.t _ _ (tH h1 hu h2 h3' (.inr (.inl rfl))),hS.next hN (fun r' hr'=>hS.out r' (by simpa using hr')) (fun b x=>?_) (fun r' b' hr'=>?_) ⟨fun k i j b=>k≠r∧φ k i j b,fun k i j x ho=>?_,fun k i j b hb'=>?_,fun k i j k' i' j' b q1 q2=>hφ.sep k i j k' i' j' b q1.2 q2.2,fun k i j b k' b' L' q1 q2 q3 q4=>?_⟩,hN⟩
   · rcases x with x|rfl|⟨i,j,x⟩
     · exact hS.fsz b x
     · exact hsz
     · exact (hφ.act r i j b x).2.2.2
   · rw[List.getElem?_set]at hr'
     split at hr'
     · rename_i e;subst e
       split at hr'
       · cases hr';exact .inr ⟨.inl ⟨L,h1,h2,h3',.inr (.inl rfl)⟩,fun L' _ hw=>by simp[writes]at hw⟩
       · cases hr'
     · rename_i hne;exact .inl ⟨hr',fun L' hL' hw=>⟨rfl,hnF r' b' L' hr' hw hL' fun e=>hne e.symm⟩⟩
   · have hne:k≠r:=fun e=>by
      subst e;obtain⟨s,e,c,q1,_⟩:=ho;have hrl:=(List.getElem?_eq_some_iff.1 hb).1;simp[hrl]at q1
     obtain⟨L',u',q1,q2,q3⟩:=hφ.cell k i j x (q9 (by rintro _ _ ⟨⟩) ho);exact⟨L',u',q1,q2,q3.mono fun b hb'=>⟨⟨hne,hb'⟩,rfl⟩⟩
   · obtain⟨hne,hb'⟩:=hb';obtain⟨⟨x,s,e,c,q1,q2⟩,q3,q4,q5⟩:=hφ.act k i j b hb';refine⟨⟨x,s,e,c,by rw[List.getElem?_set_ne (Ne.symm hne)];exact q1,q2⟩,fun hx=>?_,q4,q5⟩;rcases hx with hx|rfl|⟨i',j',hx⟩
     · exact q3 hx
     · exact hφ.apart k i j L.b r _ L hb' hb rfl h1 rfl
     · exact hne (hφ.sep k i j r i' j' b hb' hx).1
   · rw[List.getElem?_set]at q2
     split at q2
     · split at q2
       · cases q2;simp[writes]at q3
       · cases q2
     · exact hφ.apart k i j b k' b' L' q1.2 q2 q3 q4
 · subst h2;simp only[gvE]at hx
   cases hx
   cases hu with
   | sl r off len cap L a c hρ'=>rw[h1]at hρ';cases hρ'
   | slP r cap a hρ hc =>
    have hN:=Nxt.refl Ow w F ρ;refine⟨F,.t _ _ (by simpa using vi F a sz),hS.next hN (fun r' hr'=>hS.out r' (by simpa using hr')) hS.fsz (fun r' b' hr'=>?_)
     (hS.owned hN (fun b _ hF _ _=>⟨rfl,hF⟩) (fun r' i j x ho=>⟨q9 (by rintro _ _ ⟨⟩) ho,fun _ _ _ hx=>hx⟩) fun r' b' L' hr' hw hL'=>.inr (sq hS hb rfl (Ext.refl _) hr' hw hL')),hN⟩
    rw[List.getElem?_set]at hr'
    split at hr'
    · rename_i e;subst e
      split at hr'
      · cases hr';exact .inr ⟨.inr ⟨h1,rfl⟩,fun L' _ hw=>by simp[writes]at hw⟩
      · cases hr'
    · exact .inl ⟨hr',fun L' hL' hw=>⟨rfl,((hS.blk r' b' hr').vX hw hL').1⟩⟩
theorem Sf (hS:St w F ρ Ow h){r off len sz:Nat}{cap:Option Nat}{es:List (List T)}(hb:h[r]? = some (.fz sz es)){u:Value}(hu:RV w F ρ u (.sl r off len cap)) :
 RV w F ρ u (.t (.list sz ((es.drop off).take len))):=by
 rcases hS.blk r _ hb with⟨L,h1,h2,h3,h4⟩|⟨h1,h2⟩
 · exact .t _ _ (tH h1 hu h2 h3 h4)
 · subst h2
   cases hu with
   | sl r off len cap L a c hρ'=>rw[h1]at hρ';cases hρ'
   | slP r cap a hρ hc=>exact .t _ _ (by simpa using vi F a sz)
theorem cy {ρ':y9}{u:Value}{sz:Nat}(hu:RV w F ρ u (.nil sz)):RV w F ρ' u (.t (.list sz [])):=by
 cases hu;exact .t _ _ (vi F none sz)
theorem fm {ρ':y9}{u:Value}{x:T}(hu:RV w F ρ u (.t x)):RV w F ρ' u (.t x):=by
 cases hu with
 | t _ _ hx=>exact .t _ _ hx
theorem fn_t {ρ':y9}{u:Value}{f:Nat}{caps:List V}{xs:List T}(hu:RV w F ρ u (.fn f caps))(hx:ti caps=some xs):RV w F ρ' u (.t (.fn f xs)):=by
 cases hu with
 | fn f vs cs g hs hg hr=>exact .t _ _ (RT.fn' (oF (xp hs hg hr) hx))
mutual
theorem fP (ρ':y9):∀ (v:V) {F:Nat→Prop} {h h':Heap} {u:Value} {v':V},St w F ρ Ow h→RV w F ρ u v→yP h v=some (v',h') →
 ∃ F',RV w F' ρ' u v'∧St w F' ρ Ow h'∧Nxt Ow w F ρ w F' ρ
 | .sl r off len cap,F,h,h',u,v',hS,hu,hg=>by
  simp only[yP]at hg
  split at hg
  · rename_i sz es hb;cases hg;obtain⟨F',k1,k2,k3⟩:=cZ hS hb hu;exact⟨F',fm k1,k2,k3⟩
  · rename_i sz es hb;cases hg;exact⟨F,fm (Sf hS hb hu),hS,Nxt.refl _ _ _ _⟩
  · rename_i sz es hb
    split at hg
    · rename_i xs hx;cases hg;obtain⟨F',k1,k2,k3⟩:=b5 hS hb hx hu;exact⟨F',fm k1,k2,k3⟩
    · cases hg
  · cases hg
 | .nil sz,F,h,h',u,v',hS,hu,hg=>by
  simp only[yP]at hg;cases hg;exact⟨F,cy hu,hS,Nxt.refl _ _ _ _⟩
 | .agg cs,F,h,h',u,v',hS,hu,hg=>by
  simp only[yP]at hg
  split at hg
  · rename_i cs' h1 he;cases hg
    cases hu with
    | agg vs cs g hs hg' hr =>
     obtain⟨F',k1,k2,k3⟩:=rA ρ' cs hS (xp hs hg' hr) he;exact⟨F',RV.eI k1,k2,k3⟩
  · cases hg
 | .tup cs,F,h,h',u,v',hS,hu,hg=>by
  simp only[yP]at hg
  split at hg
  · rename_i cs' h1 he;cases hg
    cases hu with
    | tup vs cs g hs hg' hr =>
     obtain⟨F',k1,k2,k3⟩:=rA ρ' cs hS (xp hs hg' hr) he;exact⟨F',RV.gN k1,k2,k3⟩
  · cases hg
 | .t x,F,h,h',u,v',hS,hu,hg=>by
  simp only[yP]at hg;cases hg;exact⟨F,fm hu,hS,Nxt.refl _ _ _ _⟩
 | .fn f caps,F,h,h',u,v',hS,hu,hg=>by
  simp only[yP]at hg
  split at hg
  · rename_i xs hx;cases hg;exact⟨F,fn_t hu hx,hS,Nxt.refl _ _ _ _⟩
  · cases hg
 | .ptr _ _ _,F,h,h',u,v',hS,hu,hg=>by simp[yP]at hg
 | .und,F,h,h',u,v',hS,hu,hg=>by simp[yP]at hg
 | .bad,F,h,h',u,v',hS,hu,hg=>by simp[yP]at hg
theorem rA (ρ':y9):∀ (vs:List V) {F:Nat→Prop} {h h':Heap} {us:List Value} {vs':List V},St w F ρ Ow h→RVs w F ρ us vs→yP.gives h vs=some (vs',h') →
 ∃ F',RVs w F' ρ' us vs'∧St w F' ρ Ow h'∧Nxt Ow w F ρ w F' ρ
 | [],F,h,h',us,vs',hS,hu,hg=>by
  simp only[yP.gives]at hg;cases hg;cases hu;exact⟨F,.nil,hS,Nxt.refl _ _ _ _⟩
 | v::vs,F,h,h',us,vs',hS,hu,hg=>by
  simp only[yP.gives]at hg
  split at hg
  · rename_i x h1 he
    split at hg
    · rename_i xs h2 he2;cases hg
      cases hu with
      | cons hv hvs =>
       obtain⟨F1,k1,k2,k3⟩:=fP ρ' v hS hv he;obtain⟨F2,k4,k5,k6⟩:=rA ρ' vs k2 (k3.rvs hvs) he2;exact⟨F2,.cons (k1.mono k6.agree k6.grow (Ext.refl _)) k4,k5,k3.trans k6⟩
    · cases hg
  · cases hg
end
mutual
theorem VG (ρ':y9):∀ (v:V) {u:Value} {v':V},RV w F ρ u v→asArg v=some v'→RV w F ρ' u v'
 | .nil sz,u,v',hu,hg=>by simp only[asArg]at hg;cases hg;exact cy hu
 | .agg cs,u,v',hu,hg=>by
  simp only[asArg]at hg
  split at hg
  · rename_i cs' he;cases hg
    cases hu with
    | agg vs cs g hs hg' hr=>exact RV.eI (q7 ρ' cs (xp hs hg' hr) he)
  · cases hg
 | .tup cs,u,v',hu,hg=>by
  simp only[asArg]at hg
  split at hg
  · rename_i cs' he;cases hg
    cases hu with
    | tup vs cs g hs hg' hr=>exact RV.gN (q7 ρ' cs (xp hs hg' hr) he)
  · cases hg
 | .t x,u,v',hu,hg=>by simp only[asArg]at hg;cases hg;exact fm hu
 | .fn f caps,u,v',hu,hg=>by
  simp only[asArg]at hg
  split at hg
  · rename_i xs hx;cases hg;exact fn_t hu hx
  · cases hg
 | .sl _ _ _ _,u,v',hu,hg=>by simp[asArg]at hg
 | .ptr _ _ _,u,v',hu,hg=>by simp[asArg]at hg
 | .und,u,v',hu,hg=>by simp[asArg]at hg
 | .bad,u,v',hu,hg=>by simp[asArg]at hg
theorem q7 (ρ':y9):∀ (vs:List V) {us:List Value} {vs':List V},RVs w F ρ us vs→asArg.asArgs vs=some vs'→RVs w F ρ' us vs'
 | [],us,vs',hu,hg=>by simp only[asArg.asArgs]at hg;cases hg;cases hu;exact .nil
 | v::vs,us,vs',hu,hg=>by
  simp only[asArg.asArgs]at hg
  split at hg
  · rename_i x he
    split at hg
    · rename_i xs he2;cases hg
      cases hu with
      | cons hv hvs=>exact .cons (VG ρ' v hv he) (q7 ρ' vs hvs he2)
    · cases hg
  · cases hg
end
end Go.Proofs.YtefkoljdebekdaaGreatDoor.E

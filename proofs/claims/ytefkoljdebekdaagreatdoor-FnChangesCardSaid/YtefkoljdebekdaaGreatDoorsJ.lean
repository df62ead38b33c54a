/- Joined: V2 N0 N2 K1 K2 J2 J3 P2 K3. Conditions: those of each lemma. -/
import Derived.Test.YtefkoljdebekdaaGreatDoorsH
import Derived.Test.YtefkoljdebekdaaGreatDoorsI
import Derived.Lib.Join
import Derived.Lib.ItoaMem
set_option linter.unusedVariables false
set_option linter.unusedSimpArgs false
set_option maxRecDepth 100000
set_option maxHeartbeats 40000000
namespace Go.Proofs.YtefkoljdebekdaaGreatDoor
open Go.Proofs.Tryz
open E
theorem vl (a b:UInt8)(x y:Str):Op.bytesLess (a::x) (b::y)=(decide (a<b)||(a==b&&Op.bytesLess x y)):=by
 rw[Op.bytesLess]
theorem qd:∀ x y:Str,(Op.bytesLess x y||x==y) = !(Op.bytesLess y x)
 | [],[]=>rfl
 | [],b::y=>by simp[Op.bytesLess]
 | a::x,[]=>by simp[Op.bytesLess]
 | a :: x, b :: y => by
  have ih:=qd x y;rw[vl,vl]
  by_cases h1:a<b
  · have h2:¬ b<a:=by simp only[UInt8.lt_iff_toNat_lt]at h1 ⊢;omega
    have h3:(b==a)=false:=by
     rw[beq_eq_false_iff_ne];intro h;subst h;simp only[UInt8.lt_iff_toNat_lt]at h1;omega
    simp[h1,h2,h3]
  · by_cases h2:b<a
    · have h3:(a==b)=false:=by
       rw[beq_eq_false_iff_ne];intro h;subst h;simp only[UInt8.lt_iff_toNat_lt]at h2;omega
      have h4:((a::x)==(b::y))=false:=by
       rw[beq_eq_false_iff_ne];intro h;cases h;simp at h3
      simp[h1,h2,h3,h4]
    · have h3:a=b:=by
       apply UInt8.toNat_inj.1;simp only[UInt8.lt_iff_toNat_lt]at h1 h2;omega
      subst h3;have e:((a::x)==(a::y))=(x==y):=by
       rw[Bool.eq_iff_iff];simp
      simp only[h1,decide_false,Bool.false_or,beq_self_eq_true,Bool.true_and,e,ih]
theorem vL (b:UInt8):∀ s:Str,yc (x8 b s)+(x8 b s).length≤s.length+1
 | []=>by simp[x8,yc]
 | x :: s => by
  have ih:=vL b s
  by_cases h:x=b
  · subst h;rw[uK];simp only[yc,List.length_cons,List.length_nil];omega
  · cases hc:x8 b s with
    | nil=>exact absurd hc (qe b s)
    | cons p r =>
     rw[hc]at ih;rw[vf b x s p r h hc];simp only[yc,List.length_cons]at ih ⊢;omega
theorem oC (b:UInt8)(s:Str):(yi b s).1.length≤s.length∧(yi b s).2.1.length≤s.length:=by
 have h:=lz b s;have h2:=congrArg List.length h;rw[List.length_append]at h2
 cases hc:(yi b s).2.2 with
 | true=>rw[hc]at h2;simp only[cond_true,List.length_cons]at h2;omega
 | false =>
  have:=kC b s hc;rw[this];simp only[List.length_nil];omega
theorem vq:∀ {ks:List Str} {s:Str},s∈ks→s.length≤yc ks
 | k::ks,s,h=>by
  simp only[yc];rcases List.mem_cons.1 h with rfl|h
  · omega
  · have:=vq h;omega
theorem jm:∀ a b:List Str,yc (a++b)=yc a+yc b
 | [],b=>by simp[yc]
 | x::a,b=>by simp only[List.cons_append,yc,jm a b];omega
theorem iK:∀ l:List Str,Lib.lens l=yc l
 | []=>rfl
 | x::l=>by
  have:=iK l;simp only[yc,← this];simp[Lib.lens]
theorem join_le (sep:Str):∀ l:List Str,(Lib.join l sep).length≤yc l+sep.length*l.length
 | []=>by simp[Lib.join_nil]
 | x::r=>by rw[Lib.join_length,iK];simp only[List.length_cons,Nat.mul_add,Nat.mul_one];omega
theorem kg (sep:Str)(x:Str)(l:List Str)(y:Str):Lib.join (x::l++[y]) sep=Lib.join (x::l) sep++(sep++y):=by
 rw[List.cons_append,Lib.join_cons,Lib.join_cons];simp[Lib.joinTail]
structure Ver where
 maj:Int
 min:Int
 pat:Int
 pre:List Str
def Ver.enc (v:Ver):List T:=[.int .i64 v.maj,.int .i64 v.min,.int .i64 v.pat,.list 1 (strs v.pre)]
def Ver.zero:Ver:=⟨0,0,0,[]⟩
def preB (b:UInt8):Bool:=(B2 (nb b) 97 122||B2 (nb b) 48 57)||(B2 (nb b) 65 90||nb b==45)
def isNum (s:Str):Bool:=!(s==[])&&s.all isD
def vA (p:Str):Bool:=B2 (p.length:Int) 1 20&&(p.all preB&&(!(isNum p)||decide (0≤zN p)))
def n9 (n:Int):Bool:=B2 n 0 999999999
def yW (v:Ver):Bool:=(n9 v.maj&&(n9 v.min&&n9 v.pat))&&(v.pre.all vA&&decide ((v.pre.length:Int)≤5))
def uU (v:Ver):Str:=(((Lib.itoa v.maj++[46])++Lib.itoa v.min)++[46])++Lib.itoa v.pat
def v8 (c:Str)(pre:List Str):Str:=cond (pre==[]) c (c++([45]++Lib.join pre [46]))
def y7 (v:Ver):Str:=cond (yW v) (v8 (uU v) v.pre) []
def vQ (s:Str):Option Ver :=
 match x8 46 (yi 45 s).1 with
 | [a,b,c]=>some ⟨zN a,zN b,zN c,cond (yi 45 s).2.2 (x8 46 (yi 45 s).2.1) []⟩
 | _=>none
def zJ (s:Str):Ver×Bool :=
 match vQ s with
 | some v=>cond (y7 v==s) (v,true) (Ver.zero,false)
 | none=>(Ver.zero,false)
theorem cC {s:Str}{v:Ver}(h:vQ s=some v):s≠[]:=by
 intro e;subst e;simp[vQ,yi,x8]at h
theorem xf {s:Str}(h:(zJ s).2=true):vQ s=some (zJ s).1∧y7 (zJ s).1=s∧yW (zJ s).1=true∧s≠[]:=by
 unfold zJ at h ⊢
 cases hm:vQ s with
 | none=>rw[hm]at h;cases h
 | some v =>
  rw[hm]at h;simp only at h ⊢;have hs:=cC hm
  cases hc:(y7 v==s) with
  | false=>rw[hc]at h;cases h
  | true =>
   have he:=eq_of_beq hc;simp only[cond_true];refine⟨trivial,he,?_,hs⟩
   cases hv:yW v with
   | true=>rfl
   | false=>unfold y7 at he;rw[hv]at he;exact absurd he.symm hs
theorem jz (n:Int):n9 n=true↔0≤n∧n≤999999999:=by simp[n9]
theorem vG {v:Ver}(h:yW v=true):(0≤v.maj∧v.maj≤999999999)∧(0≤v.min∧v.min≤999999999)∧(0≤v.pat∧v.pat≤999999999)∧v.pre.all vA=true∧v.pre.length≤5:=by
 unfold yW at h;simp only[Bool.and_eq_true,jz,decide_eq_true_eq]at h;obtain⟨⟨h1,h2,h3⟩,h4,h5⟩:=h;exact⟨h1,h2,h3,h4,by omega⟩
theorem sX (s:Str) : -1≤zN s∧zN s≤999999999:=by
 unfold zN
 split
 · rename_i v _
   cases hc:((decide (0≤v)&&decide (v≤999999999))&&(Lib.itoa v==s)) with
   | false=>simp
   | true =>
    simp only[Bool.and_eq_true,decide_eq_true_eq]at hc;simp only[cond_true];omega
 · simp
def qK (v:Ver):Ver:=⟨v.maj,v.min,v.pat,v.pre++[[48]]⟩
theorem Xs (c:Str)(x:Str)(l:List Str):v8 c ((x::l)++[[48]])=v8 c (x::l)++[46,48]:=by
 unfold v8;rw[kg];simp
theorem beq_nil_cons {α:Type} [BEq α](x:α)(l:List α):((x::l)==[])=false:=rfl
theorem XI {s:Str}(h:(zJ s).2=true)(hp:(zJ s).1.pre≠[]) :
 zJ (s++[46,48])=cond (yW (qK (zJ s).1)) (qK (zJ s).1,true) (Ver.zero,false)∧y7 (qK (zJ s).1)=cond (yW (qK (zJ s).1)) (s++[46,48]) []:=by
 obtain⟨hm,ht,ho,hs⟩:=xf h;generalize (zJ s).1=v at *;have hmk:vQ (s++[46,48])=some (qK v):=by
  unfold vQ at hm ⊢;have he:=lz 45 s;have hn:=bA 45 s
  cases hc:(yi 45 s).2.2 with
  | false =>
   rw[hc]at hm
   split at hm
   · cases hm;exact absurd rfl hp
   · cases hm
  | true =>
   rw[hc]at hm he;simp only[cond_true]at he;have h2:yi 45 (s++[46,48])=((yi 45 s).1,(yi 45 s).2.1++[46,48],true):=by
    conv=>lhs;rw[he]
    rw[List.append_assoc,List.cons_append];exact bB 45 _ _ hn
   rw[h2];simp only
   split at hm
   · cases hm;simp only[cond_true];rw[show (yi 45 s).2.1++[46,48]=(yi 45 s).2.1++46::[48] from rfl,bz];rfl
   · cases hm
 have htx:y7 (qK v)=cond (yW (qK v)) (s++[46,48]) []:=by
  have ht':=ht;unfold y7 at ht' ⊢;rw[ho]at ht';simp only[cond_true]at ht'
  congr 1
  rw[← ht']
  cases hv:v.pre with
  | nil=>exact absurd hv hp
  | cons x l =>
   show v8 (uU v) (v.pre++[[48]])=_
   rw[hv];exact Xs _ x l
 refine⟨?_,htx⟩;unfold zJ;rw[hmk];simp only;rw[htx]
 cases hk:yW (qK v) with
 | true=>simp
 | false =>
  simp only[cond_false];have:(([]:Str)==s++[46,48])=false:=by rw[beq_eq_false_iff_ne];intro e;have:=congrArg List.length e;simp at this
  rw[this];rfl
def wj (a b c:Int):Str:=y7 ⟨a,b,c,[[48]]⟩
def jE (v:Ver):Str:=cond (v.pre==[]) (wj v.maj v.min (v.pat+1)) (y7 (qK v))
def wE (s:Str):Option (Str×Str):=cond ((zJ s).2&&!(jE (zJ s).1==[])) (some (s,jE (zJ s).1)) none
def upV (v:Ver)(part:Int):Ver:=cond (part==0) ⟨v.maj+1,0,0,[]⟩ (cond (part==1) ⟨v.maj,v.min+1,0,[]⟩ ⟨v.maj,v.min,cond (v.pre==[]) (v.pat+1) v.pat,[]⟩)
def vO (v:Ver)(part:Int):Ver:=cond (!(yW v)||!(B2 part 0 2)) v (cond (yW (upV v part)) (upV v part) v)
def xe (a b:Int):Int:=cond (decide (a<b)) (-1) (cond (decide (a > b)) 1 0)
def qN (a b:Str):Int:=cond (Op.bytesLess a b) (-1) (cond (!(Op.bytesLess a b||a==b)) 1 0)
def tg (a b:Str):Int:=cond (decide (zN a≥0)&&decide (zN b≥0)) (xe (zN a) (zN b)) (cond (decide (zN a≥0)) (-1) (cond (decide (zN b≥0)) 1 (qN a b)))
def tk:List Str→List Str→Option Int
 | a::l,b::m=>cond (tg a b==0) (tk l m) (some (tg a b))
 | _,_=>none
def ua (a b:List Str):Int:=(tk a b).getD (xe (a.length:Int) (b.length:Int))
def kG (a b:Ver):Int :=
 cond (xe a.maj b.maj==0) (cond (xe a.min b.min==0) (cond (xe a.pat b.pat==0)
  (cond (a.pre==[]||b.pre==[]) (xe (b.pre.length:Int) (a.pre.length:Int)) (ua a.pre b.pre))
  (xe a.pat b.pat)) (xe a.min b.min)) (xe a.maj b.maj)
theorem uA (a b:Int):(xe a b==0)=(a==b):=by
 unfold xe
 by_cases h1:a<b
 · simp[h1];omega
 · by_cases h2:a > b
   · simp[h1,h2];omega
   · simp[h1,h2];omega
theorem s6 (a b c a' b' c':Int):(kG ⟨a,b,c,[]⟩ ⟨a',b',c',[]⟩==0)=(a==a'&&(b==b'&&c==c')):=by
 unfold kG;simp only[uA]
 cases h1:(a==a') with
 | false=>simp only[cond_false];rw[uA,h1];rfl
 | true =>
  cases h2:(b==b') with
  | false=>simp only[cond_true,cond_false];rw[uA,h2];rfl
  | true =>
   cases h3:(c==c') with
   | false=>simp only[cond_true,cond_false];rw[uA,h3];rfl
   | true=>rfl
def xu (v:Ver):Ver:=⟨v.maj,v.min,v.pat,[]⟩
def jC (v:Ver)(part:Int):Str×Bool:=cond (kG (vO (xu v) part) (xu v)==0) ([],false) (y7 ⟨(vO (xu v) part).maj,(vO (xu v) part).min,(vO (xu v) part).pat,[[48]]⟩,true)
theorem TH:vA [48]=true:=by
 unfold vA;have h1:([48]:Str).all preB=true:=by decide
 have h2:decide (0≤zN [48])=true:=by
  have:=(iu (u:=0) (by omega)).1;rw[show Lib.decDigits 0=[48] by rw[Lib.decDigits_one (by omega)];rfl]at this;rw[this];rfl
 rw[h1,h2];simp
theorem aa (v:Ver):yW (xu v)=(n9 v.maj&&(n9 v.min&&n9 v.pat)):=by simp[yW,xu]
theorem sn (a b c:Int):yW ⟨a,b,c,[[48]]⟩=(n9 a&&(n9 b&&n9 c)):=by simp[yW,TH]
theorem qR (a b c:Int):(wj a b c==[]) = !(n9 a&&(n9 b&&n9 c)):=by
 unfold wj y7;rw[sn]
 cases (n9 a&&(n9 b&&n9 c)) with
 | false=>rfl
 | true=>simp[v8,uU]
theorem VD {v:Ver}(ho:yW v=true)(part:Int)(hp:part=0∨part=1∨part=2) :
 jC v part=(let h:=wj (cond (part==0) (v.maj+1) v.maj) (cond (part==0) 0 (cond (part==1) (v.min+1) v.min)) (cond (part==2) (v.pat+1) 0);(h,!(h==[]))):=by
 obtain⟨h1,h2,h3,_,_⟩:=vG ho;have hb:yW (xu v)=true:=by
  rw[aa];simp only[Bool.and_eq_true,jz];exact⟨h1,h2,h3⟩
 have n1:n9 v.maj=true:=(jz _).2 h1;have n2:n9 v.min=true:=(jz _).2 h2;have n3:n9 v.pat=true:=(jz _).2 h3;have n0:n9 0=true:=by decide
 unfold jC vO;rw[hb];rcases hp with rfl|rfl|rfl
 · have e:upV (xu v) 0=⟨v.maj+1,0,0,[]⟩:=rfl;rw[e];simp only[Bool.not_true,Bool.false_or,show B2 0 0 2=true from rfl,cond_false];rw[show yW ⟨v.maj+1,0,0,[]⟩=n9 (v.maj+1) by simp[yW,n0]];simp only[show ((0:Int)==0)=true from rfl,cond_true,show ((0:Int)==2)=false from rfl,cond_false];rw[qR,n0]
   cases hn:n9 (v.maj+1) with
   | true =>
    have:(v.maj+1==v.maj)=false:=by rw[beq_eq_false_iff_ne];omega
    simp only[cond_true,xu,s6,this];simp[wj]
   | false =>
    simp[s6,wj,y7,sn,hn,xu]
 · have e:upV (xu v) 1=⟨v.maj,v.min+1,0,[]⟩:=rfl;rw[e];simp only[Bool.not_true,Bool.false_or,show B2 1 0 2=true from rfl,cond_false];rw[show yW ⟨v.maj,v.min+1,0,[]⟩=n9 (v.min+1) by simp[yW,n0,n1]];simp only[show ((1:Int)==0)=false from rfl,show ((1:Int)==1)=true from rfl,cond_true,show ((1:Int)==2)=false from rfl,cond_false];rw[qR,n0,n1]
   cases hn:n9 (v.min+1) with
   | true =>
    have:(v.min+1==v.min)=false:=by rw[beq_eq_false_iff_ne];omega
    simp only[cond_true,xu,s6,this];simp[wj]
   | false =>
    simp[s6,wj,y7,sn,hn,xu]
 · have e:upV (xu v) 2=⟨v.maj,v.min,v.pat+1,[]⟩:=rfl;rw[e];simp only[Bool.not_true,Bool.false_or,show B2 2 0 2=true from rfl,cond_false];rw[show yW ⟨v.maj,v.min,v.pat+1,[]⟩=n9 (v.pat+1) by simp[yW,n1,n2]];simp only[show ((2:Int)==0)=false from rfl,show ((2:Int)==1)=false from rfl,cond_true,show ((2:Int)==2)=true from rfl,cond_false];rw[qR,n1,n2]
   cases hn:n9 (v.pat+1) with
   | true =>
    have:(v.pat+1==v.pat)=false:=by rw[beq_eq_false_iff_ne];omega
    simp only[cond_true,xu,s6,this];simp[wj]
   | false =>
    simp[s6,wj,y7,sn,hn,xu]
theorem ke:∀ (k u:Nat),1≤k→u<10 ^ k→Lib.nDigits u≤k
 | 0,u,h,_=>by omega
 | k + 1, u, _, h => by
  rw[Lib.nDigits]
  split
  · omega
  · have h10:u / 10<10 ^ k:=by rw[Nat.pow_succ]at h;omega
    have hk:1≤k:=by
     rcases Nat.eq_zero_or_pos k with rfl|h
     · simp at h10;omega
     · exact h
    have:=ke k (u / 10) hk h10;omega
theorem vm (n:Int)(h0:0≤n)(h1:n≤999999999):(Lib.itoa n).length≤9:=by
 obtain⟨u,rfl⟩:∃ u:Nat,n=u:=⟨n.toNat,by omega⟩;rw[Lib.itoa_nonneg,Lib.decDigits_length];exact ke 9 u (by omega) (by omega)
theorem eC (n:Int)(h0:0≤n)(h1:n≤999999999):zr (EV prog pol) 189 [.t (.int .i64 n)]=some (.t (.str (Lib.itoa n))):=by
 have h:=QF n (by omega) (by omega);apply zu;refine zx rfl func189 rfl (by kernel_rfl) ?_;unfold Tryz.f189;simp only[↓GO,↓DRW,GA,GX,ren,zj,za,refs,z7,cst,zm,isC,bin,una,z6,zd,blt,asArg,zg,zc,zf,z1,zn,unN,ze,zk,zb,GS,simprocAttr,h]
def YI (m:Nat):Str:=if m=0 then [] else Lib.decDigits m
theorem XW (m:Nat)(h:m≠0):YI m=YI (m / 10)++[UInt8.ofNat (48+m % 10)]:=by
 unfold YI;rw[if_neg h]
 by_cases h10:m<10
 · rw[if_pos (by omega),Lib.decDigits_one h10,show m % 10=m by omega];rfl
 · rw[if_neg (by omega)]
   conv=>lhs;rw[Lib.decDigits]
   rw[dif_neg h10]
theorem Vc (d:Nat)(h:d<10):(List.drop d [48,49,50,51,52,53,54,55,56,57]).take (d+1 - d)=[UInt8.ofNat (48+d)]:=by
 have:d=0∨d=1∨d=2∨d=3∨d=4∨d=5∨d=6∨d=7∨d=8∨d=9:=by omega
 rcases this with rfl|rfl|rfl|rfl|rfl|rfl|rfl|rfl|rfl|rfl<;>rfl
theorem RD (n:Int):∀ (N m:Nat) (out:Str),m≤N→m≤999999999→out.length+m≤1000000000 →
 EV prog pol (.loop 205 124 0 [.t (.int .i64 n),.t (.str out),.t (.int .i64 (m:Int))] [])
 = some (.loop (.exit 0) [.t (.int .i64 n),.t (.str (YI m++out))] [])
 | N,0,out,h,h1,h2=>by
  refine zh func205 rfl rfl ?_;simp only[↓GO,↓DRW,GA,GX,ren,zj,za,refs,z7,cst,zm,isC,bin,una,z6,zd,blt,asArg,zg,zc,zf,z1,zn,unN,ze,zk,zb,GS,simprocAttr,Int.natCast_zero,bne_self_eq_false,YI,if_true]
 | 0,m+1,out,h,h1,h2=>by omega
 | N+1,m+1,out,h,h1,h2=>by
  generalize hm:m+1=x at *;have c:(((x:Nat):Int)==0)=false:=by simp;omega
  have e1:((x:Nat):Int).tmod 10=((x % 10:Nat):Int):=(Int.ofNat_tmod x 10).symm;have e2:((x:Nat):Int).tdiv 10=((x / 10:Nat):Int):=(Int.ofNat_tdiv x 10).symm;have hd:x % 10<10:=Nat.mod_lt _ (by omega);have c2:decide (((x % 10:Nat):Int)<0)=false:=by simp only[decide_eq_false_iff_not];omega
  have hdig:=Vc (x % 10) hd;have IH:=RD n N (x / 10) (UInt8.ofNat (48+x % 10)::out) (by omega) (by omega) (by simp only[List.length_cons];omega);rw[XW x (by omega),List.append_assoc];rw[show [UInt8.ofNat (48+x % 10)]++out=UInt8.ofNat (48+x % 10)::out from rfl];generalize UInt8.ofNat (48+x % 10)=bd at *;have w1:IntKind.i64.wrap (((x % 10:Nat):Int)+1)=((x % 10+1:Nat):Int):=by rw[zi (by omega)];omega
  have w2:IntKind.i64.wrap ((x / 10:Nat):Int)=((x / 10:Nat):Int):=zi (by omega);generalize x % 10=xd at *;generalize x / 10=xq at *;refine zh func205 rfl rfl ?_;simp (disch:=(try simp only[LL]);omega) only[↓GO,↓DRW,GA,GX,ren,zj,za,refs,z7,cst,zm,isC,bin,una,z6,zd,blt,asArg,zg,zc,zf,z1,zn,unN,ze,zk,zb,GS,simprocAttr,bne,c,e1,e2,c2,w1,w2,hdig,y6,IH]
theorem eB (n:Int)(h0:0≤n)(h1:n≤999999999):zr (EV prog pol) 205 [.t (.int .i64 n)]=some (.t (.str (Lib.itoa n))):=by
 obtain⟨u,rfl⟩:∃ u:Nat,n=u:=⟨n.toNat,by omega⟩;have IH:=RD u u u [] (Nat.le_refl _) (by omega) (by simp;omega);rw[List.append_nil]at IH;rw[Lib.itoa_nonneg];have c2:decide ((u:Int)<0)=false:=by simp only[decide_eq_false_iff_not];omega
 apply zu;refine zx rfl func205 rfl (by kernel_rfl) ?_;unfold Tryz.f205
 by_cases hu:u=0
 · subst hu;rw[show Lib.decDigits 0=[48] by rw[Lib.decDigits_one (by omega)];rfl];simp only[↓GO,↓DRW,GA,GX,ren,zj,za,refs,z7,cst,zm,isC,bin,una,z6,zd,blt,asArg,zg,zc,zf,z1,zn,unN,ze,zk,zb,GS,simprocAttr,Int.natCast_zero]
 · have c:((u:Int)==0)=false:=by simp;omega
   rw[show Lib.decDigits u=YI u by simp[YI,hu]];simp only[↓GO,↓DRW,GA,GX,ren,zj,za,refs,z7,cst,zm,isC,bin,una,z6,zd,blt,asArg,zg,zc,zf,z1,zn,unN,ze,zk,zb,GS,simprocAttr,c,IH,c2]
theorem Z0 (c:UInt8):B2 (c.toNat:Int) 48 57=isD c:=by
 unfold B2 isD
 congr 1<;>rw[decide_eq_decide]<;>omega
theorem Xm (s:Str)(hl:s.length≤281474976710656):zr (EV prog pol) 127 [.t (.str s)]=some (.t (.int .i64 (zN s))):=by
 have hat:=QL s hl;apply zu;refine zx rfl func127 rfl (by kernel_rfl) ?_;unfold Tryz.f127;unfold zN
 cases ha:Lib.atoiAll s with
 | range=>rw[ha]at hat;simp only at hat ⊢;simp (disch:=(try simp only[LL]);omega) only[↓GO,↓DRW,GA,GX,ren,zj,za,refs,z7,cst,zm,isC,bin,una,z6,zd,blt,asArg,zg,zc,zf,z1,zn,unN,ze,zk,zb,GS,simprocAttr,hat]
 | ok v =>
  rw[ha]at hat;simp only at hat ⊢;have hw:=rC v 0 999999999;rw[show B2 v 0 999999999=(decide (0≤v)&&decide (v≤999999999)) from rfl]at hw
  cases hb:(decide (0≤v)&&decide (v≤999999999)) with
  | false=>rw[hb]at hw;simp (disch:=(try simp only[LL]);omega) only[↓GO,↓DRW,GA,GX,ren,zj,za,refs,z7,cst,zm,isC,bin,una,z6,zd,blt,asArg,zg,zc,zf,z1,zn,unN,ze,zk,zb,GS,simprocAttr,hat,hw]
  | true =>
   rw[hb]at hw;simp only[Bool.and_eq_true,decide_eq_true_eq]at hb;have hd:=eC v hb.1 hb.2
   cases he:(Lib.itoa v==s)<;>simp (disch:=(try simp only[LL]);omega) only[↓GO,↓DRW,GA,GX,ren,zj,za,refs,z7,cst,zm,isC,bin,una,z6,zd,blt,asArg,zg,zc,zf,z1,zn,unN,ze,zk,zb,GS,simprocAttr,bne,hat,hw,hd,he]
 | _=>rw[ha]at hat;simp only at hat ⊢;simp (disch:=(try simp only[LL]);omega) only[↓GO,↓DRW,GA,GX,ren,zj,za,refs,z7,cst,zm,isC,bin,una,z6,zd,blt,asArg,zg,zc,zf,z1,zn,unN,ze,zk,zb,GS,simprocAttr,hat]
theorem Rt (s:Str)(hl:s.length≤9):∀ (rest pre:Str),s=pre++rest→pre.all isD=true →
 ∃ m:V,EV prog pol (.loop 183 58 0 [.t (.str s),.t (.int .i64 (tD 0 pre:Nat)),.t (.int .i64 (pre.length:Int))] [])
 = some (cond (rest.all isD) (.loop (.exit 0) [.t (.str s),.bad,.t (.int .i64 (tD 0 s:Nat))] []) (.loop .ret [.t (.str s),.t (.int .i64 (-1)),m] []))
 | [],pre,hs,hd=>by
  have c:decide ((pre.length:Int)<(s.length:Int))=false:=by simp[hs]
  have hp:s=pre:=by simpa using hs
  refine⟨.bad,zh func183 rfl rfl ?_⟩;simp only[↓GO,↓DRW,GA,GX,ren,zj,za,refs,z7,cst,zm,isC,bin,una,z6,zd,blt,asArg,zg,zc,zf,z1,zn,unN,ze,zk,zb,GS,simprocAttr,c];rw[hp]
 | b :: rest, pre, hs, hd => by
  have c:decide ((pre.length:Int)<(s.length:Int))=true:=by simp[hs];omega
  have hget:s[pre.length]? = some b:=by rw[hs];exact sI pre b rest
  have hlen:s.length=pre.length+rest.length+1:=by rw[hs];simp;omega
  have hin:=wV (b.toNat:Int) 48 57;rw[Z0]at hin;have c9:decide ((s.length:Int) > 9)=false:=by simp only[decide_eq_false_iff_not];omega
  have hv:=lb pre 0 hd;have hp10:(10:Nat) ^ pre.length≤10 ^ 9:=Nat.pow_le_pow_right (by omega) (by omega);have e9:(10:Nat) ^ 9=1000000000:=by decide
  have hb8:=UW b
  cases hb:isD b with
  | false =>
   rw[hb]at hin;refine⟨.t (.int .i64 (tD 0 pre:Nat)),zh func183 rfl rfl ?_⟩;clear hs hlen;simp (disch:=omega) only[↓GO,↓DRW,GA,GX,ren,zj,za,refs,z7,cst,zm,isC,bin,una,z6,zd,blt,asArg,zg,zc,zf,z1,zn,unN,ze,zk,zb,GS,simprocAttr,c,hget,zi,conv,wrap_u8,hin,List.all_cons,hb]
  | true =>
   rw[hb]at hin;have hd2:(pre++[b]).all isD=true:=by rw[List.all_append,hd];simp[hb]
   obtain⟨m,IH⟩:=Rt s hl rest (pre++[b]) (by rw[hs];simp) hd2;have hbb:=(oM b).1 hb;have hst:((tD 0 (pre++[b]):Nat):Int)=10*((tD 0 pre:Nat):Int)+(b.toNat:Int) - 48:=by
    rw[jY,px];omega
   rw[hst,show ((pre++[b]).length:Int)=(pre.length:Int)+1 by simp]at IH;have hpl:pre.length≤9:=by omega
   generalize tD 0 pre=vp at *;generalize tD 0 s=vs at *;clear hs hlen hst;refine⟨m,zh func183 rfl rfl ?_⟩;simp (disch:=omega) only[↓GO,↓DRW,GA,GX,ren,zj,za,refs,z7,cst,zm,isC,bin,una,z6,zd,blt,asArg,zg,zc,zf,z1,zn,unN,ze,zk,zb,GS,simprocAttr,c,hget,zi,conv,wrap_u8,hin,List.all_cons,hb,c9,IH]
theorem l_rdL (s:Str)(h9:9<s.length)(hl:s.length≤281474976710656) :
 EV prog pol (.loop 183 58 0 [.t (.str s),.t (.int .i64 0),.t (.int .i64 0)] [])=some (.loop .ret [.t (.str s),.t (.int .i64 (-1)),.t (.int .i64 0)] []):=by
 cases s with
 | nil=>simp at h9
 | cons b r =>
  have c:decide ((0:Int)<((b::r).length:Int))=true:=by simp only[decide_eq_true_eq];omega
  have c9:decide (((b::r).length:Int) > 9)=true:=by simp only[decide_eq_true_eq];omega
  have hget:(b::r)[0]? = some b:=rfl;have hin:=wV (b.toNat:Int) 48 57;rw[Z0]at hin;have hb8:=UW b;generalize (b::r)=s at *;refine zh func183 rfl rfl ?_
  cases hb:isD b with
  | false=>rw[hb]at hin;simp (disch:=omega) only[↓GO,↓DRW,GA,GX,ren,zj,za,refs,z7,cst,zm,isC,bin,una,z6,zd,blt,asArg,zg,zc,zf,z1,zn,unN,ze,zk,zb,GS,simprocAttr,c,tJ,hget,zi,conv,wrap_u8,hin]
  | true=>rw[hb]at hin;simp (disch:=omega) only[↓GO,↓DRW,GA,GX,ren,zj,za,refs,z7,cst,zm,isC,bin,una,z6,zd,blt,asArg,zg,zc,zf,z1,zn,unN,ze,zk,zb,GS,simprocAttr,c,tJ,hget,zi,conv,wrap_u8,hin,c9]
theorem fl (s:Str)(hl:s.length≤281474976710656):zr (EV prog pol) 183 [.t (.str s)]=some (.t (.int .i64 (zN s))):=by
 rw[← Xv];apply zu;refine zx rfl func183 rfl (by kernel_rfl) ?_;unfold Tryz.f183;unfold q8
 by_cases h9:s.length≤9
 · obtain⟨m,IH⟩:=Rt s h9 s [] rfl rfl;simp only[List.length_nil,Int.natCast_zero,kL]at IH;have e9:decide (s.length≤9)=true:=by simpa using h9
   have hv:=lb s 0;have hp10:(10:Nat) ^ s.length≤10 ^ 9:=Nat.pow_le_pow_right (by omega) h9;have e10:(10:Nat) ^ 9=1000000000:=by decide
   cases ha:s.all isD with
   | false=>rw[ha]at IH;simp only[cond_false]at IH;simp (disch:=(try simp only[LL]);omega) only[↓GO,↓DRW,GA,GX,ren,zj,za,refs,z7,cst,zm,isC,bin,una,z6,zd,blt,asArg,zg,zc,zf,z1,zn,unN,ze,zk,zb,GS,simprocAttr,IH]
   | true =>
    rw[ha]at IH;simp only[cond_true]at IH;have hv':=hv ha;have hd:=eB (tD 0 s:Nat) (by omega) (by omega)
    cases hn:(s==[]) with
    | true=>simp (disch:=(try simp only[LL]);omega) only[↓GO,↓DRW,GA,GX,ren,zj,za,refs,z7,cst,zm,isC,bin,una,z6,zd,blt,asArg,zg,zc,zf,z1,zn,unN,ze,zk,zb,GS,simprocAttr,IH,e9,hn]
    | false =>
     cases he:(Lib.itoa (tD 0 s:Nat)==s)<;>simp (disch:=(try simp only[LL]);omega) only[↓GO,↓DRW,GA,GX,ren,zj,za,refs,z7,cst,zm,isC,bin,una,z6,zd,blt,asArg,zg,zc,zf,z1,zn,unN,ze,zk,zb,GS,simprocAttr,bne,IH,e9,hn,hd,he]
 · have e9:decide (s.length≤9)=false:=by simpa using h9
   have IH:=l_rdL s (by omega) (by omega);simp (disch:=(try simp only[LL]);omega) only[↓GO,↓DRW,GA,GX,ren,zj,za,refs,z7,cst,zm,isC,bin,una,z6,zd,blt,asArg,zg,zc,zf,z1,zn,unN,ze,zk,zb,GS,simprocAttr,IH,e9]
theorem ZE:∀ p s:Str,(decide ((s.length:Int)≥(p.length:Int))&&(s.take p.length==p))=p.isPrefixOf s
 | [],s=>by
  have:decide ((s.length:Int)≥(([]:Str).length:Int))=true:=by simp
  rw[this];simp[List.isPrefixOf]
 | a::p,[]=>by
  have:decide ((([]:Str).length:Int)≥((a::p).length:Int))=false:=by simp only[decide_eq_false_iff_not,List.length_cons,List.length_nil];omega
  rw[this];simp[List.isPrefixOf]
 | a :: p, b :: s => by
  have ih:=ZE p s;have e1:decide (((b::s).length:Int)≥((a::p).length:Int))=decide ((s.length:Int)≥(p.length:Int)):=by
   rw[decide_eq_decide];simp only[List.length_cons];omega
  rw[e1,List.isPrefixOf,← ih,List.length_cons,List.take_succ_cons]
  by_cases h:b=a
  · subst h;have:(b::List.take p.length s==b::p)=(List.take p.length s==p):=by rw[Bool.eq_iff_iff];simp
    rw[this];simp
  · have h2:(b::List.take p.length s==a::p)=false:=by rw[beq_eq_false_iff_ne];intro e;injection e with e1 e2;exact h e1
    have h3:(a==b)=false:=by rw[beq_eq_false_iff_ne];exact fun e=>h e.symm
    rw[h2,h3];simp
theorem gE (s p:Str)(hs:s.length≤9223372036854775807)(hp:p.length≤9223372036854775807):zr (EV prog pol) 212 [.t (.str s),.t (.str p)]=some (.t (.bool (p.isPrefixOf s))):=by
 rw[← ZE];apply zu;refine zx rfl func212 rfl (by kernel_rfl) ?_;unfold Tryz.f212
 cases h:decide ((s.length:Int)≥(p.length:Int)) with
 | false=>simp (disch:=(try simp only[LL]);omega) only[↓GO,↓DRW,GA,GX,ren,zj,za,refs,z7,cst,zm,isC,bin,una,z6,zd,blt,asArg,zg,zc,zf,z1,zn,unN,ze,zk,zb,GS,simprocAttr,GZ,h]
 | true =>
  have h2:=of_decide_eq_true h;simp (disch:=(try simp only[LL]);omega) only[↓GO,↓DRW,GA,GX,ren,zj,za,refs,z7,cst,zm,isC,bin,una,z6,zd,blt,asArg,zg,zc,zf,z1,zn,unN,ze,zk,zb,GS,simprocAttr,GZ,h]
theorem Vo (s p:Str)(hs:s.length≤9223372036854775807)(hp:p.length≤9223372036854775807):zr (EV prog pol) 169 [.t (.str s),.t (.str p)]=some (.t (.bool (p.isPrefixOf s))):=by
 have h:=gE s p hs hp;apply zu;refine zx rfl func169 rfl (by kernel_rfl) ?_;unfold Tryz.f169;simp (disch:=(try simp only[LL]);omega) only[↓GO,↓DRW,GA,GX,ren,zj,za,refs,z7,cst,zm,isC,bin,una,z6,zd,blt,asArg,zg,zc,zf,z1,zn,unN,ze,zk,zb,GS,simprocAttr,GZ,h]
theorem dT:∀ {p s:Str},p.isPrefixOf s=true→p.length≤s.length
 | [],s,_=>by simp
 | a::p,[],h=>by simp[List.isPrefixOf]at h
 | a::p,b::s,h=>by
  simp only[List.isPrefixOf,Bool.and_eq_true]at h;have:=dT h.2;simp only[List.length_cons];omega
theorem aI (s p:Str)(hs:s.length≤9223372036854775807)(hp:p.length≤9223372036854775807):zr (EV prog pol) 213 [.t (.str s),.t (.str p)]=some (.t (.str (cond (p.isPrefixOf s) (s.drop p.length) s))):=by
 have h:=gE s p hs hp;apply zu;refine zx rfl func213 rfl (by kernel_rfl) ?_;unfold Tryz.f213
 cases hb:p.isPrefixOf s with
 | false=>rw[hb]at h;simp (disch:=(try simp only[LL]);omega) only[↓GO,↓DRW,GA,GX,ren,zj,za,refs,z7,cst,zm,isC,bin,una,z6,zd,blt,asArg,zg,zc,zf,z1,zn,unN,ze,zk,zb,GS,simprocAttr,GZ,h]
 | true =>
  have h2:=dT hb;rw[hb]at h;simp (disch:=(try simp only[LL]);omega) only[↓GO,↓DRW,GA,GX,ren,zj,za,refs,z7,cst,zm,isC,bin,una,z6,zd,blt,asArg,zg,zc,zf,z1,zn,unN,ze,zk,zb,GS,simprocAttr,GZ,h]
theorem W9 (s p:Str)(hs:s.length≤9223372036854775807)(hp:p.length≤9223372036854775807):zr (EV prog pol) 171 [.t (.str s),.t (.str p)]=some (.t (.str (cond (p.isPrefixOf s) (s.drop p.length) s))):=by
 have h:=aI s p hs hp;apply zu;refine zx rfl func171 rfl (by kernel_rfl) ?_;unfold Tryz.f171;simp (disch:=(try simp only[LL]);omega) only[↓GO,↓DRW,GA,GX,ren,zj,za,refs,z7,cst,zm,isC,bin,una,z6,zd,blt,asArg,zg,zc,zf,z1,zn,unN,ze,zk,zb,GS,simprocAttr,GZ,h]
theorem Ts (s:Str):cond (([64]:Str).isPrefixOf s) (s.drop ([64]:Str).length) s=xm s:=by
 cases s with
 | nil=>rfl
 | cons x s =>
  by_cases h:x=64
  · subst h;simp[List.isPrefixOf,xm]
  · have:(64==x)=false:=by rw[beq_eq_false_iff_ne];exact fun e=>h e.symm
    simp[List.isPrefixOf,xm,h,this]
theorem SI (b:UInt8):zr (EV prog pol) 173 [.t (.int .u8 (b.toNat:Int))]=some (.t (.bool (uT b))):=by
 have h1:=gD (b.toNat:Int);have h2:=nR (b.toNat:Int);apply zu;refine zx rfl func173 rfl (by kernel_rfl) ?_;unfold Tryz.f173;simp only[uT,nb];generalize hx:B2 (b.toNat:Int) 97 122=x1 at *;generalize hy:B2 (b.toNat:Int) 48 57=x2 at *
 repeat' (first|(((first|with_reducible refine mc (fun hA=>?_) (fun hA=>?_)|with_reducible refine nZ (fun hA=>?_) (fun hA=>?_))<;>(try simp only[bne,Bool.not_eq_true',Bool.not_eq_false']at hA)<;>(first|(have hP:=Int.le_of_eq (eq_of_beq (α:=Int) hA);have hQ:=Int.le_of_eq (eq_of_beq (α:=Int) hA).symm)|have hP:=of_decide_eq_true hA|have hP:=of_decide_eq_false hA|skip))<;>(simp (disch:=(try simp only[LL]);omega) only[↓GO,↓DRW,GA,GX,ren,zj,za,refs,z7,cst,zm,isC,bin,una,z6,zd,blt,asArg,zg,zc,zf,z1,zn,unN,ze,zk,zb,GS,simprocAttr,zi,bne, *]))|(simp (disch:=(try simp only[LL]);omega) only[↓GO,↓DRW,GA,GX,ren,zj,za,refs,z7,cst,zm,isC,bin,una,z6,zd,blt,asArg,zg,zc,zf,z1,zn,unN,ze,zk,zb,GS,simprocAttr,zi,bne, *]))
theorem lM (b:UInt8)(s:Str):jw s [b]=x8 b s:=by
 rw[← ig];unfold jw Lib.split Lib.countB;rw[Lib.splitB_data]
theorem uu (x:Str)(l:List Str):strs (x::l)=[.str x]::strs l:=rfl
theorem pU (a b:List Str):strs (a++b)=strs a++strs b:=by simp[strs]
theorem yk:strs []=[]:=rfl
theorem wA (pre:List Str)(x:Str)(rest:List Str):(strs (pre++x::rest))[pre.length]? = some [.str x]:=by
 rw[pU,uu];have:=sI (strs pre) [T.str x] (strs rest)
 rwa [zo]at this
theorem Ya (s:Str)(sc:Bool)(parts:List Str)(hl:parts.length≤4294967296)(hb:∀ p∈parts,p.length≤4294967296):∀ (rest pre:List Str),parts=pre++rest →
 EV prog pol (.loop 112 58 0 [.t (.str s),.t (.bool sc),.t (.list 1 (strs parts)),.t (.int .i64 (parts.length:Int)),.t (.int .i64 (pre.length:Int))] [])=some (cond (uL (sc&&((pre.length:Int)==0)) rest) (.loop (.exit 0) [.t (.str s),.bad] []) (.loop .ret [.t (.str s),.t (.bool false)] []))
 | [],pre,hs=>by
  have c:decide ((pre.length:Int)<(parts.length:Int))=false:=by simp[hs]
  refine zh func112 rfl rfl ?_;simp only[↓GO,↓DRW,GA,GX,ren,zj,za,refs,z7,cst,zm,isC,bin,una,z6,zd,blt,asArg,zg,zc,zf,z1,zn,unN,ze,zk,zb,GS,simprocAttr,c,uL]
 | x :: rest, pre, hs => by
  have c:decide ((pre.length:Int)<(parts.length:Int))=true:=by simp[hs];omega
  have hget:(strs parts)[pre.length]? = some [.str x]:=by rw[hs];exact wA pre x rest
  have hlen:pre.length+rest.length+1≤parts.length:=by rw[hs];simp;omega
  have hx:x.length≤4294967296:=hb x (by rw[hs];simp);have IH:=Ya s sc parts hl hb rest (pre++[x]) (by rw[hs];simp);have hc:=Xo 173 uT SI x (by omega);rw[show ((pre++[x]).length:Int)=(pre.length:Int)+1 by simp]at IH;have e0:(((pre.length:Int)+1==0))=false:=by rw[beq_eq_false_iff_ne];omega
  rw[e0,Bool.and_false]at IH;clear hs hb;refine zh func112 rfl rfl ?_;rw[uL];have hN:(x==ql)=(x==[110,111,100,101,95,109,111,100,117,108,101,115]):=rfl;rw[hN]
  cases ha:x.all uT<;>rw[ha]at hc<;>cases h1:(x==[])<;>cases h2:(x==[110,111,100,101,95,109,111,100,117,108,101,115])<;>cases sc<;>cases h3:((pre.length:Int)==0) <;>
   simp (disch:=(try simp only[LL]);omega) only[↓GO,↓DRW,GA,GX,ren,zj,za,refs,z7,cst,zm,isC,bin,una,z6,zd,blt,asArg,zg,zc,zf,z1,zn,unN,ze,zk,zb,GS,simprocAttr,GZ,c,hget,zi,hc,h1,h2,h3,IH,zo]
theorem SH (s:Str)(hl:s.length≤1048576):zr (EV prog pol) 112 [.t (.str s)]=some (.t (.bool (rG s))):=by
 have h1:=Vo s [64] (by omega) (by simp);have h2:=W9 s [64] (by omega) (by simp);rw[Ts]at h2;have ht:(xm s).length≤s.length:=by
  unfold xm;split
  · simp
  · split
    · simp
    · simp
 have hbk:=vL 47 (xm s);have h3:=fV (xm s) [47] (by omega) (by simp);rw[lM]at h3;have IH:=Ya s (mW s) (x8 47 (xm s)) (by omega) (fun p hp=>by have:=vq hp;omega) _ [] rfl;rw[show (([64]:Str).isPrefixOf s)=mW s from rfl]at h1;simp only[List.length_nil,Int.natCast_zero,show ((0:Int)==0)=true from rfl,Bool.and_true]at IH;apply zu;refine zx rfl func112 rfl (by kernel_rfl) ?_;unfold Tryz.f112;unfold rG
 cases hp:uL (mW s) (x8 47 (xm s))<;>rw[hp]at IH<;>simp only[cond_true,cond_false]at IH <;>
  simp (disch:=(try simp only[LL]);omega) only[↓GO,↓DRW,GA,GX,ren,zj,za,refs,z7,cst,zm,isC,bin,una,z6,zd,blt,asArg,zg,zc,zf,z1,zn,unN,ze,zk,zb,GS,simprocAttr,GZ,h1,h2,h3,zo,IH]
theorem aX (s:Str)(b:UInt8)(hl:s.length≤4294967296):∀ (rest cur pre:Str) (out:List Str) (cap:Option Nat) (m:Nat),s=pre++(cur++rest)→m=pre.length+cur.length→out.length≤m →
 ∃ (out':List Str) (fr:Nat) (cap':Option Nat),out'.length≤s.length∧fr≤s.length∧out'++[s.drop fr]=out++(match x8 b rest with|p::r=>(cur++p)::r|[]=>[]) ∧
  EV prog pol (.loop 179 122 0 [.t (.str s),.t (.int .u8 (b.toNat:Int)),.sl 0 0 out.length cap,.t (.int .i64 (pre.length:Int)),.t (.int .i64 (m:Int))] [.ts 1 (strs out)])=some (.loop (.exit 0) [.t (.str s),.sl 0 0 out'.length cap',.t (.int .i64 (fr:Int))] [.ts 1 (strs out')])
 | [],cur,pre,out,cap,m,hs,hm,ho=>by
  have c:decide ((m:Int)<(s.length:Int))=false:=by simp[hs];omega
  have hn:s.length=pre.length+cur.length:=by rw[hs];simp
  refine⟨out,pre.length,cap,by omega,by omega,?_,?_⟩
  · simp only[x8,hs,List.append_nil,List.drop_left]
  · refine zh func179 rfl rfl ?_;simp only[↓GO,↓DRW,GA,GX,ren,zj,za,refs,z7,cst,zm,isC,bin,una,z6,zd,blt,asArg,zg,zc,zf,z1,zn,unN,ze,zk,zb,GS,simprocAttr,c]
 | x :: rest, cur, pre, out, cap, m, hs, hm, ho => by
  have hn:s.length=pre.length+cur.length+rest.length+1:=by rw[hs];simp;omega
  have c:decide ((m:Int)<(s.length:Int))=true:=by simp only[decide_eq_true_eq];omega
  have hget:s[m]? = some x:=by
   rw[hs,hm,← List.append_assoc,← List.length_append];exact sI (pre++cur) x rest
  by_cases hx:x=b
  · subst hx;have hcut:(s.drop pre.length).take (m - pre.length)=cur:=by
     rw[hs,hm,List.drop_left,show pre.length+cur.length - pre.length=cur.length by omega,List.take_left]
    obtain⟨out',fr,cap',q1,q2,q3,q4⟩:=aX s x hl rest [] (pre++cur++[x]) (out++[cur]) none (m+1) (by rw[hs];simp) (by simp;omega) (by simp;omega);refine⟨out',fr,cap',q1,q2,?_,?_⟩
    · rw[q3,uK]
      cases hc:x8 x rest with
      | nil=>exact absurd hc (qe x rest)
      | cons p r=>simp
    · rw[show ((pre++cur++[x]).length:Int)=(m:Int)+1 by simp;omega,show ((m+1:Nat):Int)=(m:Int)+1 by omega]at q4;rw[pU,uu,yk,List.length_append,List.length_cons,List.length_nil,Nat.zero_add]at q4;have hol:out.length≤4294967296:=by omega
      clear hs q3;refine zh func179 rfl rfl ?_;simp (disch:=(try simp only[LL]);omega) only[↓GO,↓DRW,GA,GX,ren,zj,za,refs,z7,cst,zm,isC,bin,una,z6,zd,blt,asArg,zg,zc,zf,z1,zn,unN,ze,zk,zb,GS,simprocAttr,GZ,c,hget,zi,hcut,q4,zo,y6]
  · have c2:((x.toNat:Int)==(b.toNat:Int))=false:=by
     rw[beq_eq_false_iff_ne];intro e;exact hx (UInt8.toNat_inj.1 (by omega))
    obtain⟨out',fr,cap',q1,q2,q3,q4⟩:=aX s b hl rest (cur++[x]) pre out cap (m+1) (by rw[hs];simp) (by simp;omega) (by omega);refine⟨out',fr,cap',q1,q2,?_,?_⟩
    · rw[q3]
      cases hc:x8 b rest with
      | nil=>exact absurd hc (qe b rest)
      | cons p r=>rw[vf b x rest p r hx hc];simp
    · rw[show ((m+1:Nat):Int)=(m:Int)+1 by omega]at q4;clear hs q3;refine zh func179 rfl rfl ?_;simp (disch:=(try simp only[LL]);omega) only[↓GO,↓DRW,GA,GX,ren,zj,za,refs,z7,cst,zm,isC,bin,una,z6,zd,blt,asArg,zg,zc,zf,z1,zn,unN,ze,zk,zb,GS,simprocAttr,GZ,c,hget,zi,c2,q4,zo,y6]
theorem Zf (s:Str)(b:UInt8)(hl:s.length≤4194304):zr (EV prog pol) 179 [.t (.str s),.t (.int .u8 (b.toNat:Int))]=some (.t (.list 1 (strs (x8 b s)))):=by
 obtain⟨out,fr,cap,q1,q2,q3,q4⟩:=aX s b (by omega) s [] [] [] (some 0) 0 rfl rfl (by simp);simp only[List.nil_append,List.length_nil,Int.natCast_zero,yk]at q4 q3;have e:(match x8 b s with|p::r=>p::r|[]=>[])=x8 b s:=by cases x8 b s<;>rfl
 rw[e]at q3;have ho:(strs out++[[.str (List.drop fr s)]])=strs (x8 b s):=by rw[← q3,pU];rfl
 have ht:List.take (out.length+1) (strs (x8 b s))=strs (x8 b s):=List.take_of_length_le (by rw[zo,← q3];simp);apply zu;refine zx rfl func179 rfl (by kernel_rfl) ?_;unfold Tryz.f179;simp (disch:=(try simp only[LL]);omega) only[↓GO,↓DRW,GA,GX,ren,zj,za,refs,z7,cst,zm,isC,bin,una,z6,zd,blt,asArg,zg,zc,zf,z1,zn,unN,ze,zk,zb,GS,simprocAttr,GZ,q4,zo,y6,ho,ht]
theorem ru (s:Str)(P:T)(i:T)(p:Str)(hl:p.length≤4294967296):∀ (rest pre:Str),p=pre++rest →
 EV prog pol (.loop 115 59706 0 [.t (.str s),.t P,.t i,.t (.str p),.t (.int .i64 (pre.length:Int))] [])=some (cond (rest.all uT) (.loop (.exit 2) [.t (.str s),.bad,.t P,.t i,.t (.str p)] []) (.loop .ret [.t (.str s),.t (.bool false),.t P,.t i,.t (.str p)] []))
 | [],pre,hs=>by
  have c:decide ((pre.length:Int)<(p.length:Int))=false:=by simp[hs]
  refine zh func115 rfl rfl ?_;simp only[↓GO,↓DRW,GA,GX,ren,zj,za,refs,z7,cst,zm,isC,bin,una,z6,zd,blt,asArg,zg,zc,zf,z1,zn,unN,ze,zk,zb,GS,simprocAttr,c]
 | b :: rest, pre, hs => by
  have c:decide ((pre.length:Int)<(p.length:Int))=true:=by simp[hs];omega
  have hget:p[pre.length]? = some b:=by rw[hs];exact sI pre b rest
  have hlen:p.length=pre.length+rest.length+1:=by rw[hs];simp;omega
  have IH:=ru s P i p hl rest (pre++[b]) (by rw[hs];simp);rw[show ((pre++[b]).length:Int)=(pre.length:Int)+1 by simp]at IH;have hb:=mS b;clear hs;refine zh func115 rfl rfl ?_;rw[List.all_cons,uT];simp only[nb]at *
  cases h1:(B2 (b.toNat:Int) 97 122||B2 (b.toNat:Int) 48 57)<;>rw[h1]at hb<;>cases h2:((b.toNat:Int)==46)<;>cases h3:((b.toNat:Int)==95)<;>cases h4:((b.toNat:Int)==45) <;>
   simp (disch:=(try simp only[LL]);omega) only[↓GO,↓DRW,GA,GX,ren,zj,za,refs,z7,cst,zm,isC,bin,una,z6,zd,blt,asArg,zg,zc,zf,z1,zn,unN,ze,zk,zb,GS,simprocAttr,GZ,c,hget,zi,hb,h2,h3,h4,bne,IH]
theorem Y9 (s:Str)(parts:List Str)(hl:parts.length≤4294967296)(hb:∀ p∈parts,p.length≤4294967296):∀ (rest pre:List Str),parts=pre++rest→pre≠[] →
 EV prog pol (.loop 115 58 0 [.t (.str s),.t (.list 1 (strs parts)),.t (.int .i64 (pre.length:Int))] [])=some (cond (jD rest) (.loop (.exit 0) [.t (.str s),.bad] []) (.loop .ret [.t (.str s),.t (.bool false)] []))
 | [],pre,hs,_=>by
  have c:decide ((pre.length:Int)<(parts.length:Int))=false:=by simp[hs]
  refine zh func115 rfl rfl ?_;simp only[↓GO,↓DRW,GA,GX,ren,zj,za,refs,z7,cst,zm,isC,bin,una,z6,zd,blt,asArg,zg,zc,zf,z1,zn,unN,ze,zk,zb,GS,simprocAttr,zo,c,jD]
 | x :: rest, pre, hs, hn => by
  have c:decide ((pre.length:Int)<(parts.length:Int))=true:=by simp[hs];omega
  have hget:(strs parts)[pre.length]? = some [.str x]:=by rw[hs];exact wA pre x rest
  have hlen:pre.length+rest.length+1≤parts.length:=by rw[hs];simp;omega
  have hx:x.length≤4294967296:=hb x (by rw[hs];simp);have IH:=Y9 s parts hl hb rest (pre++[x]) (by rw[hs];simp) (by simp);have hin:=ru s (.list 1 (strs parts)) (.int .i64 (pre.length:Int)) x hx x [] rfl;simp only[List.length_nil,Int.natCast_zero]at hin;rw[show ((pre++[x]).length:Int)=(pre.length:Int)+1 by simp]at IH;have e0:(((pre.length:Int)==0))=false:=by
   rw[beq_eq_false_iff_ne];intro h;apply hn;apply List.eq_nil_of_length_eq_zero;omega
  clear hs hb;refine zh func115 rfl rfl ?_;rw[jD];have hN:(x==ql)=(x==[110,111,100,101,95,109,111,100,117,108,101,115]):=rfl;rw[hN]
  cases ha:x.all uT<;>rw[ha]at hin<;>simp only[cond_true,cond_false]at hin<;>cases h1:(x==[])<;>cases h2:(x==[110,111,100,101,95,109,111,100,117,108,101,115]) <;>
   simp (disch:=(try simp only[LL]);omega) only[↓GO,↓DRW,GA,GX,ren,zj,za,refs,z7,cst,zm,isC,bin,una,z6,zd,blt,asArg,zg,zc,zf,z1,zn,unN,ze,zk,zb,GS,simprocAttr,GZ,c,hget,zi,hin,h1,h2,e0,IH,zo]
theorem S5 (s:Str)(parts:List Str)(hl:parts.length≤4294967296)(hb:∀ p∈parts,p.length≤4294967296)(x:Str)(rest:List Str)(hs:parts=x::rest) :
 EV prog pol (.loop 115 58 0 [.t (.str s),.t (.list 1 (strs parts)),.t (.int .i64 0)] [])=some (cond (pD (x::rest)) (.loop (.exit 0) [.t (.str s),.bad] []) (.loop .ret [.t (.str s),.t (.bool false)] [])):=by
 have c:decide ((0:Int)<(parts.length:Int))=true:=by simp only[decide_eq_true_eq,hs,List.length_cons];omega
 have hget:(strs parts)[0]? = some [.str x]:=by rw[hs];rfl
 have hx:x.length≤4294967296:=hb x (by rw[hs];simp);have IH:=Y9 s parts hl hb rest [x] hs (by simp);simp only[List.length_nil,List.length_cons,Nat.zero_add,Int.natCast_one]at IH;have hN:(x==ql)=(x==[110,111,100,101,95,109,111,100,117,108,101,115]):=rfl;rw[pD,hN];clear hs hb hN
 cases x with
 | nil =>
  have hin:=ru s (.list 1 (strs parts)) (.int .i64 0) [] hx [] [] rfl;simp only[List.length_nil,Int.natCast_zero,List.all_nil,cond_true]at hin;have h2:(([]:Str)==[110,111,100,101,95,109,111,100,117,108,101,115])=false:=rfl;have h3:(([]:Str)==[])=true:=rfl;have h4:xm []=[]:=rfl;refine zh func115 rfl rfl ?_;simp (disch:=(try simp only[LL]);omega) only[↓GO,↓DRW,GA,GX,ren,zj,za,refs,z7,cst,zm,isC,bin,una,z6,zd,blt,asArg,zg,zc,zf,z1,zn,unN,ze,zk,zb,GS,simprocAttr,GZ,c,hget,zi,hin,zo,h2,h3,h4,Int.natCast_zero]
 | cons y t =>
  have hlt:decide (((y::t).length:Int) > 0)=true:=by simp only[decide_eq_true_eq,List.length_cons];omega
  have hg0:(y::t)[0]? = some y:=rfl;have hyl:1≤(y::t).length:=by simp
  by_cases h64:y=64
  · subst h64;have hin2:=ru s (.list 1 (strs parts)) (.int .i64 0) t (by simp only[List.length_cons]at hx;omega) t [] rfl;simp only[List.length_nil,Int.natCast_zero]at hin2;have e1:(((64:UInt8)::t)==[110,111,100,101,95,109,111,100,117,108,101,115])=false:=by simp
    have e2:xm (64::t)=t:=by simp[xm]
    have e3:(((64:UInt8)).toNat:Int)=64:=rfl;have hd:List.drop 1 ((64:UInt8)::t)=t:=rfl;rw[e2];generalize hy:(64:UInt8)::t=yy at *
    cases ha:t.all uT<;>rw[ha]at hin2<;>simp only[cond_true,cond_false]at hin2<;>cases h1:(t==[]) <;>
     refine zh func115 rfl rfl ?_<;>simp (disch:=(try simp only[LL]);omega) only[↓GO,↓DRW,GA,GX,ren,zj,za,refs,z7,cst,zm,isC,bin,una,z6,zd,blt,asArg,zg,zc,zf,z1,zn,unN,ze,zk,zb,GS,simprocAttr,GZ,c,hget,zi,hin2,zo,e1,e3,hlt,hg0,hd,h1,IH,Int.zero_add]
  · have e2:xm (y::t)=y::t:=by simp[xm,h64]
    have e3:((y.toNat:Int)==64)=false:=by
     rw[beq_eq_false_iff_ne];intro h;exact h64 (UInt8.toNat_inj.1 (by rw[show (64:UInt8).toNat=64 from rfl];omega))
    have hin:=ru s (.list 1 (strs parts)) (.int .i64 0) (y::t) hx (y::t) [] rfl;simp only[List.length_nil,Int.natCast_zero]at hin;rw[e2];have h1:((y::t)==[])=false:=rfl;generalize hy:y::t=yy at *
    cases ha:yy.all uT<;>rw[ha]at hin<;>simp only[cond_true,cond_false]at hin<;>cases h2:(yy==[110,111,100,101,95,109,111,100,117,108,101,115]) <;>
     refine zh func115 rfl rfl ?_<;>simp (disch:=(try simp only[LL]);omega) only[↓GO,↓DRW,GA,GX,ren,zj,za,refs,z7,cst,zm,isC,bin,una,z6,zd,blt,asArg,zg,zc,zf,z1,zn,unN,ze,zk,zb,GS,simprocAttr,GZ,c,hget,zi,hin,zo,e3,hlt,hg0,h1,h2,IH,Int.zero_add]
theorem SG (s:Str)(hl:s.length≤1048576):zr (EV prog pol) 115 [.t (.str s)]=some (.t (.bool (rG s))):=by
 have hbk:=vL 47 s;have h3:=Zf s 47 (by omega);rw[show (((47:UInt8)).toNat:Int)=47 from rfl]at h3;rw[← XN]
 cases hc:x8 47 s with
 | nil=>exact absurd hc (qe 47 s)
 | cons x rest =>
  rw[hc]at h3 hbk;have hb:∀ p∈x::rest,p.length≤4294967296:=fun p hp=>by have:=vq hp;omega
  have LP:=S5 s (x::rest) (by omega) hb x rest rfl;generalize x::rest=parts at *;apply zu;refine zx rfl func115 rfl (by kernel_rfl) ?_;unfold Tryz.f115
  cases hp:pD parts<;>rw[hp]at LP<;>simp only[cond_true,cond_false]at LP <;>
   simp (disch:=(try simp only[LL]);omega) only[↓GO,↓DRW,GA,GX,ren,zj,za,refs,z7,cst,zm,isC,bin,una,z6,zd,blt,asArg,zg,zc,zf,z1,zn,unN,ze,zk,zb,GS,simprocAttr,GZ,h3,LP]
theorem Vn (b:UInt8):zr (EV prog pol) 176 [.t (.int .u8 (b.toNat:Int))]=some (.t (.bool (pC b))):=by
 apply zu;refine zx rfl func176 rfl (by kernel_rfl) ?_;unfold Tryz.f176;unfold pC B2;simp only[nb]
 cases h1:decide ((33:Int)≤(b.toNat:Int))<;>cases h2:decide ((b.toNat:Int)≤126)<;>cases h3:((b.toNat:Int)==34)<;>cases h4:((b.toNat:Int)==39)<;>cases h5:((b.toNat:Int)==44) <;>
  simp (disch:=(try simp only[LL]);omega) only[↓GO,↓DRW,GA,GX,ren,zj,za,refs,z7,cst,zm,isC,bin,una,z6,zd,blt,asArg,zg,zc,zf,z1,zn,unN,ze,zk,zb,GS,simprocAttr,GZ,h1,h2,h3,h4,h5,bne,ge_iff_le]
theorem Vm (s:Str)(hl:s.length≤1048576):zr (EV prog pol) 113 [.t (.str s)]=some (.t (.bool (sA s))):=by
 have h:=Xo 176 pC Vn s (by omega);apply zu;refine zx rfl func113 rfl (by kernel_rfl) ?_;unfold Tryz.f113;unfold sA
 cases h1:decide ((s.length:Int)≤100)<;>simp (disch:=(try simp only[LL]);omega) only[↓GO,↓DRW,GA,GX,ren,zj,za,refs,z7,cst,zm,isC,bin,una,z6,zd,blt,asArg,zg,zc,zf,z1,zn,unN,ze,zk,zb,GS,simprocAttr,GZ,h,h1]
theorem cL (s:Str)(hl:s.length≤1048576):∀ (rest pre:Str),s=pre++rest →
 EV prog pol (.loop 116 26 0 [.t (.str s),.t (.int .i64 (pre.length:Int))] [])=some (cond (rest.all pC) (.loop (.exit 0) [.t (.str s),.bad] []) (.loop .ret [.t (.str s),.t (.bool false)] []))
 | [],pre,hs=>by
  have c:decide ((pre.length:Int)<(s.length:Int))=false:=by simp[hs]
  refine zh func116 rfl rfl ?_;simp only[↓GO,↓DRW,GA,GX,ren,zj,za,refs,z7,cst,zm,isC,bin,una,z6,zd,blt,asArg,zg,zc,zf,z1,zn,unN,ze,zk,zb,GS,simprocAttr,c]
 | b :: rest, pre, hs => by
  have c:decide ((pre.length:Int)<(s.length:Int))=true:=by simp[hs];omega
  have hget:s[pre.length]? = some b:=by rw[hs];exact sI pre b rest
  have hlen:s.length=pre.length+rest.length+1:=by rw[hs];simp;omega
  have IH:=cL s hl rest (pre++[b]) (by rw[hs];simp);rw[show ((pre++[b]).length:Int)=(pre.length:Int)+1 by simp]at IH;have hb:=wV (b.toNat:Int) 33 126;clear hs;refine zh func116 rfl rfl ?_;rw[List.all_cons,pC];simp only[nb]
  cases h1:B2 (b.toNat:Int) 33 126<;>rw[h1]at hb<;>cases h3:((b.toNat:Int)==34)<;>cases h4:((b.toNat:Int)==39)<;>cases h5:((b.toNat:Int)==44)<;>cases h6:((b.toNat:Int)==92) <;>
   simp (disch:=(try simp only[LL]);omega) only[↓GO,↓DRW,GA,GX,ren,zj,za,refs,z7,cst,zm,isC,bin,una,z6,zd,blt,asArg,zg,zc,zf,z1,zn,unN,ze,zk,zb,GS,simprocAttr,GZ,c,hget,zi,conv,wrap_u8,hb,h3,h4,h5,h6,bne,IH]
theorem Vl (s:Str)(hl:s.length≤1048576):zr (EV prog pol) 116 [.t (.str s)]=some (.t (.bool (sA s))):=by
 have IH:=cL s hl s [] rfl;simp only[List.length_nil,Int.natCast_zero]at IH;apply zu;refine zx rfl func116 rfl (by kernel_rfl) ?_;unfold Tryz.f116;unfold sA
 cases ha:s.all pC<;>rw[ha]at IH<;>simp only[cond_true,cond_false]at IH
 · simp (disch:=(try simp only[LL]);omega) only[↓GO,↓DRW,GA,GX,ren,zj,za,refs,z7,cst,zm,isC,bin,una,z6,zd,blt,asArg,zg,zc,zf,z1,zn,unN,ze,zk,zb,GS,simprocAttr,GZ,IH]
 · cases h1:decide ((s.length:Int)≤100) with
   | false=>simp (disch:=(try simp only[LL]);omega) only[↓GO,↓DRW,GA,GX,ren,zj,za,refs,z7,cst,zm,isC,bin,una,z6,zd,blt,asArg,zg,zc,zf,z1,zn,unN,ze,zk,zb,GS,simprocAttr,GZ,IH,h1]
   | true =>
    have h2:=of_decide_eq_true h1;have h3:decide ((s.length:Int)<20000)=true:=by simp only[decide_eq_true_eq];omega
    simp (disch:=(try simp only[LL]);omega) only[↓GO,↓DRW,GA,GX,ren,zj,za,refs,z7,cst,zm,isC,bin,una,z6,zd,blt,asArg,zg,zc,zf,z1,zn,unN,ze,zk,zb,GS,simprocAttr,GZ,IH,h1,h3]
theorem zA (h:Heap)(ids:List Nat):reach h 3 ids=tA h 3 ids:=(rO h 3 ids).symm
theorem Rn (n:Int):B2 n 0 999999999=n9 n:=rfl
def Ver.sm (v:Ver):Prop:=v.pre.length+yc v.pre≤2097152
theorem qh {α:Type} [BEq α](l:List α):((l.length:Int)==0)=(l==[]):=by
 cases l with
 | nil=>rfl
 | cons x l =>
  have h1:((x::l)==[])=false:=rfl;have h2:(((x::l).length:Int)==0)=false:=by rw[beq_eq_false_iff_ne];simp only[List.length_cons];omega
  rw[h1,h2]
theorem Z4 {α:Type} [BEq α](l:List α):decide ((l.length:Int) > 0) = !(l==[]):=by
 cases l with
 | nil=>rfl
 | cons x l =>
  have h1:((x::l)==[])=false:=rfl;have h2:decide (((x::l).length:Int) > 0)=true:=by simp only[decide_eq_true_eq,List.length_cons];omega
  rw[h1,h2];rfl
theorem Uz (b:UInt8):B2 (b.toNat:Int) 48 57=isD b:=Z0 b
theorem aK (a:Int):zr (EV prog pol) 229 [.t (.int .u8 a)]=some (.t (.bool (B2 a 97 122||B2 a 65 90))):=by
 have h1:=gD a;apply zu;refine zx rfl func229 rfl (by kernel_rfl) ?_;unfold Tryz.f229
 cases h2:B2 a 97 122<;>rw[h2]at h1
 · unfold B2
   cases h3:decide ((65:Int)≤a)<;>simp (disch:=(try simp only[LL]);omega) only[↓GO,↓DRW,GA,GX,ren,zj,za,refs,z7,cst,zm,isC,bin,una,z6,zd,blt,asArg,zg,zc,zf,z1,zn,unN,ze,zk,zb,GS,simprocAttr,GZ,h1,h3,ge_iff_le]
 · simp (disch:=(try simp only[LL]);omega) only[↓GO,↓DRW,GA,GX,ren,zj,za,refs,z7,cst,zm,isC,bin,una,z6,zd,blt,asArg,zg,zc,zf,z1,zn,unN,ze,zk,zb,GS,simprocAttr,GZ,h1]
theorem QA (b:UInt8):zr (EV prog pol) 228 [.t (.int .u8 (b.toNat:Int))]=some (.t (.bool (preB b))):=by
 have h1:=aK (b.toNat:Int);have h2:=nR (b.toNat:Int);apply zu;refine zx rfl func228 rfl (by kernel_rfl) ?_;unfold Tryz.f228;unfold preB;simp only[nb]
 cases h3:B2 (b.toNat:Int) 97 122<;>cases h4:B2 (b.toNat:Int) 65 90<;>cases h5:B2 (b.toNat:Int) 48 57<;>rw[h3,h4]at h1<;>rw[h5]at h2 <;>
  simp (disch:=(try simp only[LL]);omega) only[↓GO,↓DRW,GA,GX,ren,zj,za,refs,z7,cst,zm,isC,bin,una,z6,zd,blt,asArg,zg,zc,zf,z1,zn,unN,ze,zk,zb,GS,simprocAttr,GZ,h1,h2]
theorem SL (b:UInt8):zr (EV prog pol) 175 [.t (.int .u8 (b.toNat:Int))]=some (.t (.bool (isD b))):=by
 rw[nR,Uz]
theorem fX (s:Str)(hl:s.length≤9223372036854775807):zr (EV prog pol) 192 [.t (.str s)]=some (.t (.bool (isNum s))):=by
 have h:=Xo 175 isD SL s hl;apply zu;refine zx rfl func192 rfl (by kernel_rfl) ?_;unfold Tryz.f192;unfold isNum
 cases h1:(s==[])<;>simp (disch:=(try simp only[LL]);omega) only[↓GO,↓DRW,GA,GX,ren,zj,za,refs,z7,cst,zm,isC,bin,una,z6,zd,blt,asArg,zg,zc,zf,z1,zn,unN,ze,zk,zb,GS,simprocAttr,GZ,h,h1,bne]
theorem S4 (x1 x2 x3 x4:T)(a b c:Int) :
 EV prog pol (.loop 190 26 0 [.ptr 0 0 0,.sl 1 0 3 (some 3),.t (.int .i64 3),.t (.int .i64 0)] [.vs 4 [[.t x1,.t x2,.t x3,.t x4]],.ts 1 [[.int .i64 a],[.int .i64 b],[.int .i64 c]]])
 = some (cond (n9 a&&(n9 b&&n9 c)) (.loop (.exit 0) [.ptr 0 0 0,.bad] [.vs 4 [[.t x1,.t x2,.t x3,.t x4]]]) (.loop .ret [.ptr 0 0 0,.t (.bool false)] [.vs 4 [[.t x1,.t x2,.t x3,.t x4]]])):=by
 have ha:=rC a 0 999999999;have hb:=rC b 0 999999999;have hc:=rC c 0 999999999;rw[Rn]at ha hb hc
 cases h1:n9 a<;>rw[h1]at ha
 · refine zh func190 rfl rfl ?_;simp (disch:=(try simp only[LL]);omega) only[↓GO,↓DRW,GA,GX,ren,zj,za,refs,z7,cst,zm,isC,bin,una,z6,zd,blt,asArg,zg,zc,zf,z1,zn,unN,ze,zk,zb,GS,simprocAttr,GZ,ha,zi,zA,Int.cast_ofNat_Int]
 · refine zh func190 rfl rfl ?_;simp (disch:=(try simp only[LL]);omega) only[↓GO,↓DRW,GA,GX,ren,zj,za,refs,z7,cst,zm,isC,bin,una,z6,zd,blt,asArg,zg,zc,zf,z1,zn,unN,ze,zk,zb,GS,simprocAttr,GZ,ha,zi,zA,Int.cast_ofNat_Int]
   cases h2:n9 b<;>rw[h2]at hb
   · refine zh func190 rfl rfl ?_;simp (disch:=(try simp only[LL]);omega) only[↓GO,↓DRW,GA,GX,ren,zj,za,refs,z7,cst,zm,isC,bin,una,z6,zd,blt,asArg,zg,zc,zf,z1,zn,unN,ze,zk,zb,GS,simprocAttr,GZ,hb,zi,Int.zero_add,zA,Int.cast_ofNat_Int,Int.reduceAdd]
   · refine zh func190 rfl rfl ?_;simp (disch:=(try simp only[LL]);omega) only[↓GO,↓DRW,GA,GX,ren,zj,za,refs,z7,cst,zm,isC,bin,una,z6,zd,blt,asArg,zg,zc,zf,z1,zn,unN,ze,zk,zb,GS,simprocAttr,GZ,hb,zi,Int.zero_add,zA,Int.cast_ofNat_Int,Int.reduceAdd]
     cases h3:n9 c<;>rw[h3]at hc
     · refine zh func190 rfl rfl ?_;simp (disch:=(try simp only[LL]);omega) only[↓GO,↓DRW,GA,GX,ren,zj,za,refs,z7,cst,zm,isC,bin,una,z6,zd,blt,asArg,zg,zc,zf,z1,zn,unN,ze,zk,zb,GS,simprocAttr,GZ,hc,zi,Int.zero_add,zA,Int.cast_ofNat_Int,Int.reduceAdd]
     · refine zh func190 rfl rfl ?_;simp (disch:=(try simp only[LL]);omega) only[↓GO,↓DRW,GA,GX,ren,zj,za,refs,z7,cst,zm,isC,bin,una,z6,zd,blt,asArg,zg,zc,zf,z1,zn,unN,ze,zk,zb,GS,simprocAttr,GZ,hc,zi,Int.zero_add,zA,Int.cast_ofNat_Int,Int.reduceAdd];refine zh func190 rfl rfl ?_;simp (disch:=(try simp only[LL]);omega) only[↓GO,↓DRW,GA,GX,ren,zj,za,refs,z7,cst,zm,isC,bin,una,z6,zd,blt,asArg,zg,zc,zf,z1,zn,unN,ze,zk,zb,GS,simprocAttr,GZ,zi,Int.zero_add,zA,Int.cast_ofNat_Int,Int.reduceAdd]
theorem Y4 (v:Ver)(hs:v.sm):∀ (rest pre:List Str),v.pre=pre++rest →
 EV prog pol (.loop 190 58 0 [.ptr 0 0 0,.t (.list 1 (strs v.pre)),.t (.int .i64 (v.pre.length:Int)),.t (.int .i64 (pre.length:Int))] [.vs 4 [v.enc.map .t]])
 = some (cond (rest.all vA) (.loop (.exit 2) [.ptr 0 0 0,.bad] [.vs 4 [v.enc.map .t]]) (.loop .ret [.ptr 0 0 0,.t (.bool false)] [.vs 4 [v.enc.map .t]]))
 | [],pre,hp=>by
  have c:decide ((pre.length:Int)<(v.pre.length:Int))=false:=by simp[hp]
  refine zh func190 rfl rfl ?_;simp only[↓GO,↓DRW,GA,GX,ren,zj,za,refs,z7,cst,zm,isC,bin,una,z6,zd,blt,asArg,zg,zc,zf,z1,zn,unN,ze,zk,zb,GS,simprocAttr,c,Ver.enc]
 | x :: rest, pre, hp => by
  unfold Ver.sm at hs;have c:decide ((pre.length:Int)<(v.pre.length:Int))=true:=by simp[hp];omega
  have hget:(strs v.pre)[pre.length]? = some [.str x]:=by rw[hp];exact wA pre x rest
  have hlen:pre.length+rest.length+1≤v.pre.length:=by rw[hp];simp;omega
  have hx:x.length≤2097152:=by have:=vq (ks:=v.pre) (s:=x) (by rw[hp];simp);omega
  have IH:=Y4 v hs rest (pre++[x]) (by rw[hp];simp);rw[show ((pre++[x]).length:Int)=(pre.length:Int)+1 by simp]at IH;have h1:=rC (x.length:Int) 1 20;have h2:=Xo 228 preB QA x (by omega);have h3:=fX x (by omega);have h4:=Xm x (by omega);clear hp;simp only[Ver.enc,List.map_cons,List.map_nil]at IH ⊢;rw[List.all_cons,vA];have e4:decide (zN x<0) = !decide (0≤zN x):=by
   rcases Int.lt_or_le (zN x) 0 with h|h
   · have a:¬ (0≤zN x):=by omega
     simp[h,a]
   · have a:¬ (zN x<0):=by omega
     simp[h,a]
  generalize B2 (x.length:Int) 1 20=b1 at *;generalize x.all preB=b2 at *;generalize isNum x=b3 at *;generalize zN x=rd at *;generalize decide (0≤rd)=b4 at *
  cases b1<;>cases b2<;>cases b3<;>cases b4<;>refine zh func190 rfl rfl ?_ <;>
   simp (disch:=(try simp only[LL]);omega) only[↓GO,↓DRW,GA,GX,ren,zj,za,refs,z7,cst,zm,isC,bin,una,z6,zd,blt,asArg,zg,zc,zf,z1,zn,unN,ze,zk,zb,GS,simprocAttr,GZ,c,hget,zi,h1,h2,h3,h4,e4,zo,IH,zA]
theorem Qu (v:Ver)(hs:v.sm):zr (EV prog pol) 190 [.agg (v.enc.map .t)]=some (.t (.bool (yW v))):=by
 have h1:=S4 (.int .i64 v.maj) (.int .i64 v.min) (.int .i64 v.pat) (.list 1 (strs v.pre)) v.maj v.min v.pat;have h2:=Y4 v hs v.pre [] rfl;unfold Ver.sm at hs;simp only[List.length_nil,Int.natCast_zero]at h2;simp only[Ver.enc,List.map_cons,List.map_nil]at h1 h2 ⊢;unfold yW;generalize (n9 v.maj&&(n9 v.min&&n9 v.pat))=b1 at *;generalize v.pre.all vA=b2 at *;apply zu;refine zx rfl func190 rfl (by kernel_rfl) ?_;unfold Tryz.f190
 cases b1<;>cases b2<;>simp only[cond_true,cond_false]at h1 h2 <;>
  simp (disch:=(try simp only[LL]);omega) only[↓GO,↓DRW,GA,GX,ren,zj,za,refs,z7,cst,zm,isC,bin,una,z6,zd,blt,asArg,zg,zc,zf,z1,zn,unN,ze,zk,zb,GS,simprocAttr,GZ,h1,h2,zo,zA,Int.cast_ofNat_Int]
theorem SM (b:UInt8):zr (EV prog pol) 285 [.t (.int .u8 (b.toNat:Int))]=some (.t (.bool (B2 (b.toNat:Int) 65 90))):=by
 have h:=wV (b.toNat:Int) 65 90;apply zu;refine zx rfl func285 rfl (by kernel_rfl) ?_;unfold Tryz.f285;simp (disch:=(try simp only[LL]);omega) only[↓GO,↓DRW,GA,GX,ren,zj,za,refs,z7,cst,zm,isC,bin,una,z6,zd,blt,asArg,zg,zc,zf,z1,zn,unN,ze,zk,zb,GS,simprocAttr,GZ,h,conv,wrap_u8]
theorem Us (s:Str)(hl:s.length≤2097152):∀ (rest pre:Str),s=pre++rest →
 EV prog pol (.loop 286 26 0 [.t (.str s),.t (.int .i64 (pre.length:Int))] [])=some (cond (rest.all isD) (.loop (.exit 0) [.t (.str s),.bad] []) (.loop .ret [.t (.str s),.t (.bool false)] []))
 | [],pre,hs=>by
  have c:decide ((pre.length:Int)<(s.length:Int))=false:=by simp[hs]
  refine zh func286 rfl rfl ?_;simp only[↓GO,↓DRW,GA,GX,ren,zj,za,refs,z7,cst,zm,isC,bin,una,z6,zd,blt,asArg,zg,zc,zf,z1,zn,unN,ze,zk,zb,GS,simprocAttr,c]
 | b :: rest, pre, hs => by
  have c:decide ((pre.length:Int)<(s.length:Int))=true:=by simp[hs];omega
  have hget:s[pre.length]? = some b:=by rw[hs];exact sI pre b rest
  have hlen:s.length=pre.length+rest.length+1:=by rw[hs];simp;omega
  have IH:=Us s hl rest (pre++[b]) (by rw[hs];simp);rw[show ((pre++[b]).length:Int)=(pre.length:Int)+1 by simp]at IH;have hb:=wV (b.toNat:Int) 48 57;rw[Uz]at hb;clear hs;refine zh func286 rfl rfl ?_
  cases h1:isD b<;>rw[h1]at hb <;>
   simp (disch:=(try simp only[LL]);omega) only[↓GO,↓DRW,GA,GX,ren,zj,za,refs,z7,cst,zm,isC,bin,una,z6,zd,blt,asArg,zg,zc,zf,z1,zn,unN,ze,zk,zb,GS,simprocAttr,GZ,c,hget,zi,conv,wrap_u8,hb,h1,IH]
theorem QI (s:Str)(hl:s.length≤2097152):zr (EV prog pol) 286 [.t (.str s)]=some (.t (.bool (isNum s))):=by
 have IH:=Us s hl s [] rfl;simp only[List.length_nil,Int.natCast_zero]at IH;apply zu;refine zx rfl func286 rfl (by kernel_rfl) ?_;unfold Tryz.f286;unfold isNum
 cases h1:s.all isD<;>rw[h1]at IH<;>simp only[cond_true,cond_false]at IH <;>
  simp (disch:=(try simp only[LL]);omega) only[↓GO,↓DRW,GA,GX,ren,zj,za,refs,z7,cst,zm,isC,bin,una,z6,zd,blt,asArg,zg,zc,zf,z1,zn,unN,ze,zk,zb,GS,simprocAttr,GZ,IH,bne]
theorem Uo (s:Str)(hl:s.length≤2097152):∀ (rest pre:Str),s=pre++rest →
 EV prog pol (.loop 242 26 0 [.t (.str s),.t (.int .i64 (pre.length:Int))] [])=some (cond (rest.all preB) (.loop (.exit 0) [.t (.str s),.bad] []) (.loop .ret [.t (.str s),.t (.bool false)] []))
 | [],pre,hs=>by
  have c:decide ((pre.length:Int)<(s.length:Int))=false:=by simp[hs]
  refine zh func242 rfl rfl ?_;simp only[↓GO,↓DRW,GA,GX,ren,zj,za,refs,z7,cst,zm,isC,bin,una,z6,zd,blt,asArg,zg,zc,zf,z1,zn,unN,ze,zk,zb,GS,simprocAttr,c]
 | b :: rest, pre, hs => by
  have c:decide ((pre.length:Int)<(s.length:Int))=true:=by simp[hs];omega
  have hget:s[pre.length]? = some b:=by rw[hs];exact sI pre b rest
  have hlen:s.length=pre.length+rest.length+1:=by rw[hs];simp;omega
  have IH:=Uo s hl rest (pre++[b]) (by rw[hs];simp);rw[show ((pre++[b]).length:Int)=(pre.length:Int)+1 by simp]at IH;have hb:=mS b;have hg:=SM b;clear hs;refine zh func242 rfl rfl ?_;rw[List.all_cons,preB];simp only[nb]at *
  cases h1:(B2 (b.toNat:Int) 97 122||B2 (b.toNat:Int) 48 57)<;>rw[h1]at hb<;>cases h2:B2 (b.toNat:Int) 65 90<;>rw[h2]at hg<;>cases h3:((b.toNat:Int)==45) <;>
   simp (disch:=(try simp only[LL]);omega) only[↓GO,↓DRW,GA,GX,ren,zj,za,refs,z7,cst,zm,isC,bin,una,z6,zd,blt,asArg,zg,zc,zf,z1,zn,unN,ze,zk,zb,GS,simprocAttr,GZ,c,hget,zi,hb,hg,h3,bne,IH]
theorem Qz (s:Str)(hl:s.length≤2097152):zr (EV prog pol) 242 [.t (.str s)]=some (.t (.bool (vA s))):=by
 have IH:=Uo s hl s [] rfl;simp only[List.length_nil,Int.natCast_zero]at IH;have h1:=wV (s.length:Int) 1 20;have h3:=QI s hl;have h4:=fl s (by omega);apply zu;refine zx rfl func242 rfl (by kernel_rfl) ?_;unfold Tryz.f242;unfold vA;generalize B2 (s.length:Int) 1 20=b1 at *;generalize isNum s=b3 at *;generalize zN s=rd at *
 cases ha:s.all preB<;>rw[ha]at IH<;>simp only[cond_true,cond_false]at IH<;>cases b1<;>cases b3 <;>
  simp (disch:=(try simp only[LL]);omega) only[↓GO,↓DRW,GA,GX,ren,zj,za,refs,z7,cst,zm,isC,bin,una,z6,zd,blt,asArg,zg,zc,zf,z1,zn,unN,ze,zk,zb,GS,simprocAttr,GZ,IH,h1,h3,h4,ge_iff_le]
theorem Ul (v:Ver)(hs:v.sm):∀ (rest pre:List Str),v.pre=pre++rest →
 EV prog pol (.loop 204 26 0 [.ptr 0 0 0,.t (.int .i64 (pre.length:Int))] [.vs 4 [v.enc.map .t]])
 = some (cond (rest.all vA) (.loop (.exit 0) [.ptr 0 0 0,.bad] [.vs 4 [v.enc.map .t]]) (.loop .ret [.ptr 0 0 0,.t (.bool false)] [.vs 4 [v.enc.map .t]]))
 | [],pre,hp=>by
  have c:decide ((pre.length:Int)<(v.pre.length:Int))=false:=by simp[hp]
  refine zh func204 rfl rfl ?_;simp only[↓GO,↓DRW,GA,GX,ren,zj,za,refs,z7,cst,zm,isC,bin,una,z6,zd,blt,asArg,zg,zc,zf,z1,zn,unN,ze,zk,zb,GS,simprocAttr,zo,c,Ver.enc]
 | x :: rest, pre, hp => by
  unfold Ver.sm at hs;have c:decide ((pre.length:Int)<(v.pre.length:Int))=true:=by simp[hp];omega
  have hget:(strs v.pre)[pre.length]? = some [.str x]:=by rw[hp];exact wA pre x rest
  have hlen:pre.length+rest.length+1≤v.pre.length:=by rw[hp];simp;omega
  have hx:x.length≤2097152:=by have:=vq (ks:=v.pre) (s:=x) (by rw[hp];simp);omega
  have IH:=Ul v hs rest (pre++[x]) (by rw[hp];simp);rw[show ((pre++[x]).length:Int)=(pre.length:Int)+1 by simp]at IH;have h1:=Qz x hx;clear hp;simp only[Ver.enc,List.map_cons,List.map_nil]at IH ⊢
  cases h2:vA x<;>rw[h2]at h1<;>refine zh func204 rfl rfl ?_ <;>
   simp (disch:=(try simp only[LL]);omega) only[↓GO,↓DRW,GA,GX,ren,zj,za,refs,z7,cst,zm,isC,bin,una,z6,zd,blt,asArg,zg,zc,zf,z1,zn,unN,ze,zk,zb,GS,simprocAttr,GZ,c,hget,zi,h1,h2,zo,IH,zA]
theorem Ze (v:Ver)(hs:v.sm):zr (EV prog pol) 204 [.agg (v.enc.map .t)]=some (.t (.bool (yW v))):=by
 have h2:=Ul v hs v.pre [] rfl;have ha:=wV v.maj 0 999999999;have hb:=wV v.min 0 999999999;have hc:=wV v.pat 0 999999999;rw[Rn]at ha hb hc;unfold Ver.sm at hs;simp only[List.length_nil,Int.natCast_zero]at h2;simp only[Ver.enc,List.map_cons,List.map_nil]at h2 ⊢;unfold yW;generalize n9 v.maj=b1 at *;generalize n9 v.min=b3 at *;generalize n9 v.pat=b4 at *;generalize v.pre.all vA=b2 at *;apply zu;refine zx rfl func204 rfl (by kernel_rfl) ?_;unfold Tryz.f204
 cases b2<;>simp only[cond_true,cond_false]at h2<;>cases b1<;>cases b3<;>cases b4 <;>
  simp (disch:=(try simp only[LL]);omega) only[↓GO,↓DRW,GA,GX,ren,zj,za,refs,z7,cst,zm,isC,bin,una,z6,zd,blt,asArg,zg,zc,zf,z1,zn,unN,ze,zk,zb,GS,simprocAttr,GZ,h2,ha,hb,hc,zo,zA]
def xl (bs:List Int):List (List T):=bs.map fun b=>[.int .u8 b]
theorem wS (bs:List Int):(xl bs).length=bs.length:=by simp[xl]
def okB (bs:List Int):Prop:=bs.length≤1048576∧∀ b∈bs,0≤b∧b≤255
def cuR (bs:List Int)(c:Cs):Blk:=.vs 3 [[.t (.list 1 (xl bs)),.t (.int .i64 (c.1:Int)),.t (.int .i64 c.2)]]
def cok (bs:List Int)(c:Cs):Prop:=c.1≤bs.length
theorem sh33 (x:Int):jA .shr .i64 x 33=some (x.fdiv (2 ^ 33)):=rfl
theorem sh45 (x:Int):jA .shr .i64 x 45=some (x.fdiv (2 ^ 45)):=rfl
theorem ixor (x y:Int):vY .xor .i64 x y=some (.int .i64 (Rf x y)):=rfl
theorem QX (x y:Int):vY .and .i64 x y=some (.int .i64 (fo x y)):=rfl
theorem UM (bs:List Int)(hb:okB bs)(c:Cs)(hc:cok bs c):EV prog pol (.callO false 159 [.ptr 0 0 0] [cuR bs c])=some (.call (.t (.int .i64 (nxI bs c))) [cuR bs (nxC bs c)]):=by
 obtain⟨i,h⟩:=c;unfold cok at hc;obtain⟨hl,hb⟩:=hb;have hel:=wS bs;have c0:decide ((0:Int)≤(i:Int))=true:=by apply decide_eq_true;omega
 unfold cuR nxI nxC QW lcg w64 lcA lcC;simp only at hc ⊢
 cases hg:bs[i]? with
 | some b =>
  have hil:=(List.getElem?_eq_some_iff.1 hg).1;have c1:decide ((i:Int)<(bs.length:Int))=true:=by apply decide_eq_true;omega
  have hget:(xl bs)[i]? = some [.int .u8 b]:=by unfold xl;rw[List.getElem?_map,hg];rfl
  have hbb:=hb b (List.mem_of_getElem? hg);simp only;rw[show ((i+1:Nat):Int)=(i:Int)+1 by omega];generalize xl bs=E0 at *;generalize bs.length=n at *;clear hg hb;refine zM func159 rfl (by kernel_rfl) ?_;unfold Tryz.f159;simp (disch:=(try simp only[LL]);omega) only[↓GO,↓DRW,GA,GX,ren,zj,za,refs,z7,cst,zm,isC,bin,una,z6,zd,blt,asArg,zg,zc,zf,z1,zn,unN,ze,zk,zb,GS,simprocAttr,GZ,c0,c1,hel,hget,sh33,sh45,ixor,QX,conv,zi,zA]
 | none =>
  have hil:=List.getElem?_eq_none_iff.1 hg;have c1:decide ((i:Int)<(bs.length:Int))=false:=by apply decide_eq_false;omega
  simp only;generalize xl bs=E0 at *;generalize bs.length=n at *;clear hg hb;refine zM func159 rfl (by kernel_rfl) ?_;unfold Tryz.f159;simp (disch:=(try simp only[LL]);omega) only[↓GO,↓DRW,GA,GX,ren,zj,za,refs,z7,cst,zm,isC,bin,una,z6,zd,blt,asArg,zg,zc,zf,z1,zn,unN,ze,zk,zb,GS,simprocAttr,GZ,c0,c1,hel,sh33,sh45,ixor,QX,zi,zA]
theorem tmodN (a n:Nat):Int.tmod (a:Int) (n:Int)=((a % n:Nat):Int):=(Int.ofNat_tmod a n).symm
theorem jH (bs:List Int)(hb:okB bs)(c:Cs)(hc:cok bs c)(n:Nat)(h1:1≤n)(h2:n≤256):EV prog pol (.callO false 94 [.ptr 0 0 0,.t (.int .i64 (n:Int))] [cuR bs c])=some (.call (.t (.int .i64 ((nxN bs c % n:Nat):Int))) [cuR bs (nxC bs c)]):=by
 have d:=UM bs hb c hc;rw[Ug]at d;have c1:decide ((n:Int)≤0)=false:=by apply decide_eq_false;omega
 have c2:decide ((n:Int)≤256)=true:=by apply decide_eq_true;omega
 have c3:((n:Int)=0)=False:=eq_false (by omega);unfold cuR at d ⊢;generalize nxN bs c=x at *;generalize nxC bs c=c' at *;refine zM func94 rfl (by kernel_rfl) ?_;unfold Tryz.f94;simp (disch:=(try simp only[LL]);omega) only[↓GO,↓DRW,GA,GX,ren,zj,za,refs,z7,cst,zm,isC,bin,una,z6,zd,blt,asArg,zg,zc,zf,z1,zn,unN,ze,zk,zb,GS,simprocAttr,GZ,c1,c2,c3,if_false,d,tmodN,zi,zA]
theorem qu (bs:List Int)(hb:okB bs)(c:Cs)(hc:cok bs c)(n:Nat)(h1:1≤n)(h2:n≤256):∃ (k:Nat) (c':Cs),k<n∧cok bs c'∧EV prog pol (.callO false 94 [.ptr 0 0 0,.t (.int .i64 (n:Int))] [cuR bs c])=some (.call (.t (.int .i64 (k:Int))) [cuR bs c']) :=
 ⟨_,_,Nat.mod_lt _ h1,Uh bs c hc,jH bs hb c hc n h1 h2⟩
theorem vR (bs:List Int)(hb:okB bs)(c:Cs)(hc:cok bs c)(n:Nat)(h1:1≤n)(h2:n≤256):∃ (b:Bool) (c':Cs),cok bs c'∧EV prog pol (.callO false 131 [.ptr 0 0 0,.t (.int .i64 (n:Int))] [cuR bs c])=some (.call (.t (.bool b)) [cuR bs c']):=by
 obtain⟨k,c',_,hc',d⟩:=qu bs hb c hc n h1 h2;refine⟨((k:Int)==0),c',hc',?_⟩;unfold cuR at d ⊢;refine zM func131 rfl (by kernel_rfl) ?_;unfold Tryz.f131;simp (disch:=(try simp only[LL]);omega) only[↓GO,↓DRW,GA,GX,ren,zj,za,refs,z7,cst,zm,isC,bin,una,z6,zd,blt,asArg,zg,zc,zf,z1,zn,unN,ze,zk,zb,GS,simprocAttr,GZ,d,zA]
theorem uP (bs:List Int)(hb:okB bs)(c:Cs)(hc:cok bs c)(ks:List Str)(n:Nat)(hn:n=ks.length)(h1:1≤n)(h2:n≤256)(cap:Option Nat):∃ (s:Str) (c':Cs),s∈ks∧cok bs c' ∧
 EV prog pol (.callO false 68 [.ptr 0 0 0,.sl 1 0 n cap] [cuR bs c,.ts 1 (strs ks)])=some (.call (.t (.str s)) [cuR bs c',.ts 1 (strs ks)]):=by
 obtain⟨k,c',hk,hc',d⟩:=qu bs hb c hc n h1 h2;have hkl:k<ks.length:=by omega
 have hg:=List.getElem?_eq_getElem hkl;have hget:(strs ks)[k]? = some [.str ks[k]]:=by unfold strs;rw[List.getElem?_map,hg];rfl
 have c0:decide ((0:Int)≤(k:Int))=true:=by apply decide_eq_true;omega
 have c1:decide ((k:Int)<(n:Int))=true:=by apply decide_eq_true;omega
 have c00:(0:Int)≤(k:Int):=by omega
 refine⟨ks[k],c',List.getElem_mem hkl,hc',?_⟩;generalize ks[k]=s at *;generalize strs ks=E0 at *;clear hg hkl;unfold cuR at d ⊢;refine zM func68 rfl (by kernel_rfl) ?_;unfold Tryz.f68;simp (disch:=(try simp only[LL]);omega) only[↓GO,↓DRW,GA,GX,ren,zj,za,refs,z7,cst,zm,isC,bin,una,z6,zd,blt,asArg,zg,zc,zf,z1,zn,unN,ze,zk,zb,GS,simprocAttr,GZ,d,c0,c1,hget,zA]
def oY (l:List Int):List (List T):=l.map fun x=>[.int .i64 x]
theorem qf (bs:List Int)(hb:okB bs)(c:Cs)(hc:cok bs c)(ks:List Int)(n:Nat)(hn:n=ks.length)(h1:1≤n)(h2:n≤256)(cap:Option Nat):∃ (s:Int) (c':Cs),s∈ks∧cok bs c' ∧
 EV prog pol (.callO false 132 [.ptr 0 0 0,.sl 1 0 n cap] [cuR bs c,.ts 1 (oY ks)])=some (.call (.t (.int .i64 s)) [cuR bs c',.ts 1 (oY ks)]):=by
 obtain⟨k,c',hk,hc',d⟩:=qu bs hb c hc n h1 h2;have hkl:k<ks.length:=by omega
 have hg:=List.getElem?_eq_getElem hkl;have hget:(oY ks)[k]? = some [.int .i64 ks[k]]:=by unfold oY;rw[List.getElem?_map,hg];rfl
 have c0:decide ((0:Int)≤(k:Int))=true:=by apply decide_eq_true;omega
 have c1:decide ((k:Int)<(n:Int))=true:=by apply decide_eq_true;omega
 refine⟨ks[k],c',List.getElem_mem hkl,hc',?_⟩;generalize ks[k]=s at *;generalize oY ks=E0 at *;clear hg hkl;unfold cuR at d ⊢;refine zM func132 rfl (by kernel_rfl) ?_;unfold Tryz.f132;simp (disch:=(try simp only[LL]);omega) only[↓GO,↓DRW,GA,GX,ren,zj,za,refs,z7,cst,zm,isC,bin,una,z6,zd,blt,asArg,zg,zc,zf,z1,zn,unN,ze,zk,zb,GS,simprocAttr,GZ,d,c0,c1,hget,zA]
theorem UJ (bs:List Int)(hb:okB bs)(c:Cs)(hc:cok bs c):∃ (s:Str) (c':Cs),s.length≤32∧cok bs c'∧EV prog pol (.callO false 95 [.ptr 0 0 0] [cuR bs c])=some (.call (.t (.str s)) [cuR bs c']):=by
 obtain⟨s,c',hs,hc',d⟩:=uP bs hb c hc [[97],[98],[99,111,114,101],[108,101,102,116,45,112,97,100],[64,111,114,103,47,117,105],[103,111,108,97,110,103,46,111,114,103,47,120,47,116,101,120,116],[108,105,98,95,99],[122,101,100]] 8 rfl (by decide) (by decide) (some 8);refine⟨s,c',?_,hc',?_⟩
 · simp only[List.mem_cons,List.not_mem_nil,or_false]at hs;rcases hs with rfl|rfl|rfl|rfl|rfl|rfl|rfl|rfl<;>decide
 · clear hs;simp only[strs,List.map_cons,List.map_nil]at d;unfold cuR at d ⊢;refine zM func95 rfl (by kernel_rfl) ?_;unfold Tryz.f95;simp (disch:=(try simp only[LL]);omega) only[↓GO,↓DRW,GA,GX,ren,zj,za,refs,z7,cst,zm,isC,bin,una,z6,zd,blt,asArg,zg,zc,zf,z1,zn,unN,ze,zk,zb,GS,simprocAttr,GZ,d,zA]
theorem c_odd (bs:List Int)(hb:okB bs)(c:Cs)(hc:cok bs c):∃ (s:Str) (c':Cs),s.length≤32∧cok bs c'∧EV prog pol (.callO false 134 [.ptr 0 0 0] [cuR bs c])=some (.call (.t (.str s)) [cuR bs c']):=by
 obtain⟨s,c',hs,hc',d⟩:=uP bs hb c hc [[],[65],[97,47,47,98],[47,97],[97,64,98],[64],[64,97],[97,32,98],[97,47,64,98],[46],[120,47],[120,47,110,111,100,101,95,109,111,100,117,108,101,115,47,121]] 12 rfl (by decide) (by decide) (some 12);refine⟨s,c',?_,hc',?_⟩
 · simp only[List.mem_cons,List.not_mem_nil,or_false]at hs;rcases hs with rfl|rfl|rfl|rfl|rfl|rfl|rfl|rfl|rfl|rfl|rfl|rfl<;>decide
 · clear hs;simp only[strs,List.map_cons,List.map_nil]at d;unfold cuR at d ⊢;refine zM func134 rfl (by kernel_rfl) ?_;unfold Tryz.f134;simp (disch:=(try simp only[LL]);omega) only[↓GO,↓DRW,GA,GX,ren,zj,za,refs,z7,cst,zm,isC,bin,una,z6,zd,blt,asArg,zg,zc,zf,z1,zn,unN,ze,zk,zb,GS,simprocAttr,GZ,d,zA]
theorem Rx (code:List Int)(hb:okB code):∀ (rest pre:List Int) (h:Int),code=pre++rest→∃ h':Int,
 EV prog pol (.loop 48 58 0 [.t (.list 1 (xl code)),.t (.int .i64 h),.t (.int .i64 (pre.length:Int))] [])=some (.loop (.exit 0) [.t (.list 1 (xl code)),.t (.int .i64 h')] [])
 | [],pre,h,hs=>by
  have c:decide ((pre.length:Int)<(code.length:Int))=false:=by simp[hs]
  have hel:=wS code;refine⟨h,?_⟩;generalize xl code=E0 at *;refine zh func48 rfl rfl ?_;simp (disch:=(try simp only[LL]);omega) only[↓GO,↓DRW,GA,GX,ren,zj,za,refs,z7,cst,zm,isC,bin,una,z6,zd,blt,asArg,zg,zc,zf,z1,zn,unN,ze,zk,zb,GS,simprocAttr,GZ,c,hel,zA]
 | x :: rest, pre, h, hs => by
  have c:decide ((pre.length:Int)<(code.length:Int))=true:=by simp[hs];omega
  have c0:decide ((0:Int)≤(pre.length:Int))=true:=by simp
  have hlen:pre.length+rest.length+1≤code.length:=by rw[hs];simp;omega
  have hcl:=hb.1;have hxb:=hb.2 x (by rw[hs];simp);have hget:(xl code)[pre.length]? = some [.int .u8 x]:=by rw[hs];simp[xl]
  have hel:=wS code
  cases q:decide ((pre.length:Int)<4000) with
  | false =>
   refine⟨h,?_⟩;generalize xl code=E0 at *;refine zh func48 rfl rfl ?_;simp (disch:=(try simp only[LL]);omega) only[↓GO,↓DRW,GA,GX,ren,zj,za,refs,z7,cst,zm,isC,bin,una,z6,zd,blt,asArg,zg,zc,zf,z1,zn,unN,ze,zk,zb,GS,simprocAttr,GZ,c,hel,q,zA]
  | true =>
   obtain⟨h',IH⟩:=Rx code hb rest (pre++[x]) (fo (IntKind.i64.wrap (IntKind.i64.wrap (IntKind.i64.wrap (h*131)+x)+7)) 1073741823) (by rw[hs];simp);rw[show ((pre++[x]).length:Int)=(pre.length:Int)+1 by simp]at IH;refine⟨h',?_⟩;generalize xl code=E0 at *;clear hs;refine zh func48 rfl rfl ?_;simp (disch:=(try simp only[LL]);omega) only[↓GO,↓DRW,GA,GX,ren,zj,za,refs,z7,cst,zm,isC,bin,una,z6,zd,blt,asArg,zg,zc,zf,z1,zn,unN,ze,zk,zb,GS,simprocAttr,GZ,c,c0,hel,q,hget,QX,conv,zi,zA,IH]
theorem RQ (code:List Int)(hb:okB code):∃ h:Int,EV prog pol (.callO false 48 [.t (.list 1 (xl code))] [])=some (.call (.ptr 0 0 0) [cuR code (0,h)]):=by
 obtain⟨h',L⟩:=Rx code hb code [] (445445+(code.length:Int)) rfl;refine⟨h',?_⟩;have hel:=wS code;have hcl:=hb.1;unfold cuR;simp only[List.length_nil,Int.natCast_zero]at L ⊢;generalize xl code=E0 at *;refine zM func48 rfl (by kernel_rfl) ?_;unfold Tryz.f48;simp (disch:=(try simp only[LL]);omega) only[↓GO,↓DRW,GA,GX,ren,zj,za,refs,z7,cst,zm,isC,bin,una,z6,zd,blt,asArg,zg,zc,zf,z1,zn,unN,ze,zk,zb,GS,simprocAttr,GZ,hel,zi,L,zA]
def okO (o:List Int):Prop:=∀ b∈o,0≤b∧b≤255
noncomputable def txR (bs:List Int)(n:Nat)(o:List Int)(c:Cs)(cap:Option Nat):Option w7 :=
 EV prog pol (.loop 241 28 1 [.ptr 0 0 0,.t (.int .i64 (n:Int)),.sl 1 0 o.length cap] [cuR bs c,.ts 1 (xl o)])
theorem Rq (bs:List Int)(n:Nat)(c:Cs)(x:Int)(K:Nat)(hK:K≤256):∀ (k i:Nat) (o:List Int) (cap:Option Nat),i+k=K→o.length+k≤1048576→∃ cap',
 EV prog pol (.loop 241 232174 1 [.ptr 0 0 0,.t (.int .i64 (n:Int)),.sl 1 0 o.length cap,.t (.int .i64 (K:Int)),.t (.int .u8 x),.t (.int .i64 (i:Int))] [cuR bs c,.ts 1 (xl o)])
  = some (.loop (.exit 3) [.ptr 0 0 0,.t (.int .i64 (n:Int)),.sl 1 0 (o++List.replicate k x).length cap'] [cuR bs c,.ts 1 (xl (o++List.replicate k x))])
 | 0,i,o,cap,hi,ho=>by
  have c0:decide ((i:Int)<(K:Int))=false:=by apply decide_eq_false;omega
  refine⟨cap,?_⟩;rw[List.replicate_zero,List.append_nil];unfold cuR;refine zh func241 rfl rfl ?_;simp (disch:=(try simp only[LL]);omega) only[↓GO,↓DRW,GA,GX,ren,zj,za,refs,z7,cst,zm,isC,bin,una,z6,zd,blt,asArg,zg,zc,zf,z1,zn,unN,ze,zk,zb,GS,simprocAttr,GZ,c0,zA]
 | k + 1, i, o, cap, hi, ho => by
  have c0:decide ((i:Int)<(K:Int))=true:=by apply decide_eq_true;omega
  have hol:=wS o;obtain⟨cap',IH⟩:=Rq bs n c x K hK k (i+1) (o++[x]) none (by omega) (by
   simp only[List.length_append,List.length_cons,List.length_nil];omega)
  refine⟨cap',?_⟩;rw[show ((i+1:Nat):Int)=(i:Int)+1 by omega,show xl (o++[x])=xl o++[[.int .u8 x]] by simp[xl],List.length_append,List.length_singleton]at IH;rw[List.replicate_succ,show o++x::List.replicate k x=(o++[x])++List.replicate k x by simp];generalize (o++[x])++List.replicate k x=Z at *;unfold cuR at *;refine zh func241 rfl rfl ?_;simp (disch:=(try simp only[LL]);omega) only[↓GO,↓DRW,GA,GX,ren,zj,za,refs,z7,cst,zm,isC,bin,una,z6,zd,blt,asArg,zg,zc,zf,z1,zn,unN,ze,zk,zb,GS,simprocAttr,GZ,c0,hol,zi,y6,zA,IH]
def cpO (fr:Nat):Nat→Nat→List Int→List Int
 | 0,i,o=>o
 | k+1,i,o=>cpO fr k (i+1) (o++[o.getD (fr+i) 0])
theorem YM (fr:Nat):∀ (k i:Nat) (o:List Int),(cpO fr k i o).length=o.length+k
 | 0,i,o=>rfl
 | k+1,i,o=>by rw[cpO,YM fr k,List.length_append,List.length_singleton];omega
theorem fx {o:List Int}(h:okO o){x:Int}(hx:0≤x∧x≤255):okO (o++[x]):=fun b hb=>(List.mem_append.1 hb).elim (h b) fun e=>by simp at e;subst e;exact hx
theorem Sg {o:List Int}(h:okO o)(i:Nat):0≤o.getD i 0∧o.getD i 0≤255:=by
 rw[List.getD_eq_getElem?_getD]
 cases hg:o[i]? with
 | none=>simp
 | some x=>exact h x (List.mem_of_getElem? hg)
theorem UG (fr:Nat):∀ (k i:Nat) (o:List Int),okO o→okO (cpO fr k i o)
 | 0,i,o,h=>h
 | k+1,i,o,h=>UG fr k (i+1) _ (fx h (Sg h _))
theorem Rp (bs:List Int)(n:Nat)(c:Cs)(fr:Nat)(K:Nat)(hK:K≤256):∀ (k i:Nat) (o:List Int) (cap:Option Nat),i+k=K→o.length+k≤1048576→fr+i<o.length→∃ (cap':Option Nat),
 EV prog pol (.loop 241 3714990 1 [.ptr 0 0 0,.t (.int .i64 (n:Int)),.sl 1 0 o.length cap,.t (.int .i64 (fr:Int)),.t (.int .i64 (K:Int)),.t (.int .i64 (i:Int))] [cuR bs c,.ts 1 (xl o)])
  = some (.loop (.exit 5) [.ptr 0 0 0,.t (.int .i64 (n:Int)),.sl 1 0 (cpO fr k i o).length cap'] [cuR bs c,.ts 1 (xl (cpO fr k i o))])
 | 0,i,o,cap,hi,ho,hf=>by
  have c0:decide ((i:Int)<(K:Int))=false:=by apply decide_eq_false;omega
  refine⟨cap,?_⟩;rw[cpO];unfold cuR;refine zh func241 rfl rfl ?_;simp (disch:=(try simp only[LL]);omega) only[↓GO,↓DRW,GA,GX,ren,zj,za,refs,z7,cst,zm,isC,bin,una,z6,zd,blt,asArg,zg,zc,zf,z1,zn,unN,ze,zk,zb,GS,simprocAttr,GZ,c0,zA]
 | k + 1, i, o, cap, hi, ho, hf => by
  have c0:decide ((i:Int)<(K:Int))=true:=by apply decide_eq_true;omega
  have c1:decide (((fr+i:Nat):Int)<(o.length:Int))=true:=by apply decide_eq_true;omega
  have c2:decide ((0:Int)≤((fr+i:Nat):Int))=true:=by apply decide_eq_true;omega
  have hol:=wS o;have hg:o[fr+i]? = some (o.getD (fr+i) 0):=by rw[List.getD_eq_getElem?_getD,List.getElem?_eq_getElem hf];rfl
  have hget:(xl o)[fr+i]? = some [.int .u8 (o.getD (fr+i) 0)]:=by unfold xl;rw[List.getElem?_map,hg];rfl
  rw[cpO];generalize o.getD (fr+i) 0=x at *;obtain⟨cap',IH⟩:=Rp bs n c fr K hK k (i+1) (o++[x]) none (by omega) (by
   simp only[List.length_append,List.length_cons,List.length_nil];omega) (by simp;omega)
  refine⟨cap',?_⟩;rw[show ((i+1:Nat):Int)=(i:Int)+1 by omega,show xl (o++[x])=xl o++[[.int .u8 x]] by simp[xl],List.length_append,List.length_singleton]at IH;have hfi:(fr:Int)+(i:Int)=((fr+i:Nat):Int):=by omega
  generalize cpO fr k (i+1) (o++[x])=Z at *;unfold cuR at *;generalize Z.length=zl at *;generalize o.length=ol at *;refine zh func241 rfl rfl ?_;simp (disch:=(try simp only[LL]);omega) only[↓GO,↓DRW,GA,GX,ren,zj,za,refs,z7,cst,zm,isC,bin,una,z6,zd,blt,asArg,zg,zc,zf,z1,zn,unN,ze,zk,zb,GS,simprocAttr,GZ,c0,hol,zi,hfi,c1,c2,hget,y6,zA,IH]
def TxG (bs:List Int)(n:Nat)(o:List Int)(c:Cs):Prop:=∀ cap,∃ (o':List Int) (c':Cs) (cap':Option Nat),n≤o'.length∧o'.length≤n+32∧okO o'∧cok bs c' ∧
 txR bs n o c cap=some (.loop (.exit 0) [.t (.int .i64 (n:Int)),.sl 1 0 o'.length cap'] [cuR bs c',.ts 1 (xl o')])
theorem VU (bs:List Int)(n:Nat)(o:List Int)(c:Cs)(hok:okO o)(hc:cok bs c)(h:n≤o.length)(h2:o.length≤n+32):TxG bs n o c:=fun cap=>by
 have c0:decide ((o.length:Int)<(n:Int))=false:=by apply decide_eq_false;omega
 refine⟨o,c,cap,h,h2,hok,hc,?_⟩;have hol:=wS o;unfold txR cuR;refine zh func241 rfl rfl ?_;simp (disch:=(try simp only[LL]);omega) only[↓GO,↓DRW,GA,GX,ren,zj,za,refs,z7,cst,zm,isC,bin,una,z6,zd,blt,asArg,zg,zc,zf,z1,zn,unN,ze,zk,zb,GS,simprocAttr,GZ,c0,zA]
theorem jF (bs:List Int):∀ (j:Nat) (c:Cs),cok bs c→cok bs (xA bs j c)
 | 0,c,h=>h
 | j+1,c,h=>jF bs j _ (Uh bs c h)
theorem Tp (bs:List Int)(hb:okB bs)(n:Nat)(hn:n≤64)(o:List Int)(c:Cs)(hok:okO o)(hc:cok bs c)(hlt:o.length<n):∃ (o1:List Int) (j:Nat),1≤j∧j≤3∧okO o1∧o.length≤o1.length∧o1.length≤o.length+20 ∧
 (o1.length=o.length→o1=o∧(nxN bs c % 5=1∨nxN bs c % 5=2))∧(TxG bs n o1 (xA bs j c)→TxG bs n o c):=by
 have c0:decide ((o.length:Int)<(n:Int))=true:=by apply decide_eq_true;omega
 have hol:=wS o;have d1:=jH bs hb c hc 5 (by decide) (by decide);have hc1:=jF bs 1 c hc;have hc2:=jF bs 2 c hc;have hc3:=jF bs 3 c hc;have q1:nxC bs c=xA bs 1 c:=rfl;have q2:nxC bs (xA bs 1 c)=xA bs 2 c:=rfl;have q3:nxC bs (xA bs 2 c)=xA bs 3 c:=rfl;rw[q1]at d1;have h5:nxN bs c % 5<5:=Nat.mod_lt _ (by decide);have hv:nxN bs c % 5=0∨nxN bs c % 5=1∨nxN bs c % 5=2∨nxN bs c % 5=3∨nxN bs c % 5=4:=by omega
 rcases hv with hv|hv|hv|hv|hv<;>rw[hv]at d1<;>simp only[Int.cast_ofNat_Int,Int.natCast_zero,Int.natCast_one]at d1
 · have d2:=UM bs hb _ hc1;rw[q2,Ug]at d2;have hle:=Qf bs (xA bs 1 c);refine⟨o++[(nxN bs (xA bs 1 c):Int)],2,by decide,by decide,fx hok (by omega),by simp,by simp,fun h=>by simp at h,fun H cap=>?_⟩;obtain⟨o',c',cap',e1,e2,e3,e4,e⟩:=H none;refine⟨o',c',cap',e1,e2,e3,e4,?_⟩;unfold txR at e ⊢;rw[show xl (o++[(nxN bs (xA bs 1 c):Int)])=xl o++[[.int .u8 (nxN bs (xA bs 1 c):Int)]] by simp[xl],List.length_append,List.length_singleton]at e;generalize nxN bs (xA bs 1 c)=x at *;generalize xA bs 1 c=k1 at *;generalize xA bs 2 c=k2 at *;unfold cuR at *;generalize o'.length=ol' at *;generalize o.length=ol at *;have hu:IntKind.u8.wrap (x:Int)=(x:Int):=IntWalk.u8_in _ (by omega);refine zh func241 rfl rfl ?_;simp (disch:=(try simp only[LL]);omega) only[↓GO,↓DRW,GA,GX,ren,zj,za,refs,z7,cst,zm,isC,bin,una,z6,zd,blt,asArg,zg,zc,zf,z1,zn,unN,ze,zk,zb,GS,simprocAttr,GZ,c0,d1,d2,hol,conv,hu,zi,y6,zA,e]
 · have d2:=jH bs hb _ hc1 9 (by decide) (by decide);have d3:=jH bs hb _ hc2 4 (by decide) (by decide);rw[q2]at d2;rw[q3]at d3;simp only[Int.cast_ofNat_Int,Int.natCast_zero,Int.natCast_one]at d2 d3;have h9:nxN bs (xA bs 1 c) % 9<9:=Nat.mod_lt _ (by decide);have h4:nxN bs (xA bs 2 c) % 4<4:=Nat.mod_lt _ (by decide);generalize nxN bs (xA bs 1 c) % 9=K at *;generalize nxN bs (xA bs 2 c) % 4=y at *;refine⟨o++List.replicate K ((97:Int)+(y:Int)),3,by decide,by decide,fun b hb'=>(List.mem_append.1 hb').elim (hok b) fun h=>by rw[List.eq_of_mem_replicate h];omega,by simp,by simp;omega,fun h=>⟨by
    simp at h;subst h;simp,.inl hv⟩,fun H cap=>?_⟩
   obtain⟨cap1,L⟩:=Rq bs n (xA bs 3 c) ((97:Int)+(y:Int)) K (by omega) K 0 o cap (by omega) (by omega);obtain⟨o',c',cap',e1,e2,e3,e4,e⟩:=H cap1;refine⟨o',c',cap',e1,e2,e3,e4,?_⟩;unfold txR at e ⊢;simp only[Int.natCast_zero]at L;generalize o++List.replicate K ((97:Int)+(y:Int))=Z at *;generalize xA bs 1 c=k1 at *;generalize xA bs 2 c=k2 at *;generalize xA bs 3 c=k3 at *;unfold cuR at *;generalize o'.length=ol' at *;generalize o.length=ol at *;generalize Z.length=zl at *;have hu:IntKind.u8.wrap ((97:Int)+(y:Int))=(97:Int)+(y:Int):=IntWalk.u8_in _ (by omega);refine zh func241 rfl rfl ?_;simp (disch:=(try simp only[LL]);omega) only[↓GO,↓DRW,GA,GX,ren,zj,za,refs,z7,cst,zm,isC,bin,una,z6,zd,blt,asArg,zg,zc,zf,z1,zn,unN,ze,zk,zb,GS,simprocAttr,GZ,c0,d1,d2,d3,hol,conv,hu,zi,y6,zA,L,e]
 · by_cases hz:o.length=0
   · obtain rfl:o=[]:=List.eq_nil_of_length_eq_zero hz;refine⟨[],1,by decide,by decide,hok,Nat.le_refl _,by simp,fun _=>⟨rfl,.inr hv⟩,fun H cap=>?_⟩;obtain⟨o',c',cap',e1,e2,e3,e4,e⟩:=H cap;refine⟨o',c',cap',e1,e2,e3,e4,?_⟩;unfold txR at e ⊢;generalize xA bs 1 c=k1 at *;simp only[List.length_nil,Int.natCast_zero,show xl []=[] from rfl]at c0 e ⊢;unfold cuR at *;generalize o'.length=ol' at *;refine zh func241 rfl rfl ?_;simp (disch:=(try simp only[LL]);omega) only[↓GO,↓DRW,GA,GX,ren,zj,za,refs,z7,cst,zm,isC,bin,una,z6,zd,blt,asArg,zg,zc,zf,z1,zn,unN,ze,zk,zb,GS,simprocAttr,GZ,c0,d1,zi,zA,e]
   · have cz:decide ((o.length:Int) > 0)=true:=by apply decide_eq_true;omega
     have d2:=jH bs hb _ hc1 o.length (by omega) (by omega);have d3:=jH bs hb _ hc2 20 (by decide) (by decide);rw[q2]at d2;rw[q3]at d3;simp only[Int.cast_ofNat_Int,Int.natCast_zero,Int.natCast_one]at d3;have h9:nxN bs (xA bs 1 c) % o.length<o.length:=Nat.mod_lt _ (by omega);have h4:nxN bs (xA bs 2 c) % 20<20:=Nat.mod_lt _ (by decide);generalize nxN bs (xA bs 1 c) % o.length=fr at *;generalize nxN bs (xA bs 2 c) % 20=K at *;have g1:=YM fr K 0 o;refine⟨cpO fr K 0 o,3,by decide,by decide,UG fr K 0 o hok,by omega,by omega,fun h=>⟨?_,.inr hv⟩,fun H cap=>?_⟩
     · obtain rfl:K=0:=by omega
       rfl
     obtain⟨cap1,L⟩:=Rp bs n (xA bs 3 c) fr K (by omega) K 0 o cap (by omega) (by omega) (by omega);generalize cpO fr K 0 o=o1 at *;obtain⟨o',c',cap',e1,e2,e3,e4,e⟩:=H cap1;refine⟨o',c',cap',e1,e2,e3,e4,?_⟩;unfold txR at e ⊢;simp only[Int.natCast_zero]at L;generalize xA bs 1 c=k1 at *;generalize xA bs 2 c=k2 at *;generalize xA bs 3 c=k3 at *;unfold cuR at *;generalize o'.length=ol' at *;generalize o.length=ol at *;generalize o1.length=zl at *;refine zh func241 rfl rfl ?_;simp (disch:=(try simp only[LL]);omega) only[↓GO,↓DRW,GA,GX,ren,zj,za,refs,z7,cst,zm,isC,bin,una,z6,zd,blt,asArg,zg,zc,zf,z1,zn,unN,ze,zk,zb,GS,simprocAttr,GZ,c0,cz,d1,d2,d3,hol,conv,zi,y6,zA,L,e]
 all_goals
  have d2:=jH bs hb _ hc1 26 (by decide) (by decide);rw[q2]at d2;simp only[Int.cast_ofNat_Int,Int.natCast_zero,Int.natCast_one]at d2;have h9:nxN bs (xA bs 1 c) % 26<26:=Nat.mod_lt _ (by decide);generalize nxN bs (xA bs 1 c) % 26=y at *;refine⟨o++[(97:Int)+(y:Int)],2,by decide,by decide,fx hok (by omega),by simp,by simp,fun h=>by simp at h,fun H cap=>?_⟩;obtain⟨o',c',cap',e1,e2,e3,e4,e⟩:=H none;refine⟨o',c',cap',e1,e2,e3,e4,?_⟩;unfold txR at e ⊢;rw[show xl (o++[(97:Int)+(y:Int)])=xl o++[[.int .u8 ((97:Int)+(y:Int))]] by simp[xl],List.length_append,List.length_singleton]at e;generalize xA bs 1 c=k1 at *;generalize xA bs 2 c=k2 at *;unfold cuR at *;generalize o'.length=ol' at *;generalize o.length=ol at *;have hu:IntKind.u8.wrap ((97:Int)+(y:Int))=(97:Int)+(y:Int):=IntWalk.u8_in _ (by omega);refine zh func241 rfl rfl ?_;simp (disch:=(try simp only[LL]);omega) only[↓GO,↓DRW,GA,GX,ren,zj,za,refs,z7,cst,zm,isC,bin,una,z6,zd,blt,asArg,zg,zc,zf,z1,zn,unN,ze,zk,zb,GS,simprocAttr,GZ,c0,d1,d2,hol,conv,hu,zi,y6,zA,e]
def QV (bs:List Int)(c:Cs):Prop:=c=py bs∨c=nxC bs (py bs)∨c=nxC bs (nxC bs (py bs))
theorem Tj {bs:List Int}{c:Cs}(h:QV bs c):¬ (nxN bs c % 5=1∨nxN bs c % 5=2):=by
 obtain⟨h1,h2,h3⟩:=Wq bs;rcases h with rfl|rfl|rfl
 · rw[h1];decide
 · rw[h2];decide
 · rw[h3];decide
theorem Q1 (bs : List Int) (hb : okB bs) (n : Nat) (hn : n ≤ 64) : ∀ (d : Nat) (o : List Int) (c : Cs), n - o.length ≤ d → okO o → cok bs c → o.length ≤ n + 32 → TxG bs n o c := by
 intro d
 induction d with
 | zero=>exact fun o c hd hok hc h32=>VU bs n o c hok hc (by omega) h32
 | succ d ihd =>
  intro o c hd hok hc h32
  by_cases hlt:o.length<n
  · have main:∀ (m:Nat) (c:Cs),cok bs c→(xA bs m c=py bs∨QV bs c)→TxG bs n o c:=by
     intro m
     induction m using Nat.strongRecOn with
     | _ m ih =>
      intro c hc hm;obtain⟨o1,j,j1,j3,k1,k2,k3,k4,k5⟩:=Tp bs hb n hn o c hok hc hlt;refine k5 ?_
      by_cases hg:o1.length=o.length
      · obtain⟨rfl,hx⟩:=k4 hg;have hnz:¬ QV bs c:=fun hz=>Tj hz hx
        have hm':=hm.resolve_right hnz;have hm0:m≠0:=fun e=>hnz (.inl (by subst e;exact hm'))
        by_cases hjm:j≤m
        · refine ih (m - j) (by omega) _ (jF bs j c hc) (.inl ?_);rw[← rp,show j+(m - j)=m by omega];exact hm'
        · refine ih 0 (by omega) _ (jF bs j c hc) (.inr ?_);have e:xA bs j c=xA bs (j - m) (py bs):=by rw[← hm',← rp];congr 1;omega
          rw[e];have hj:j - m=1∨j - m=2:=by omega
          rcases hj with h|h<;>rw[h]
          · exact .inr (.inl rfl)
          · exact .inr (.inr rfl)
      · exact ihd o1 _ (by omega) k1 (jF bs j c hc) (by omega)
    obtain⟨m,hm⟩:=ae bs c hc;exact main m c hc (.inl hm)
  · exact VU bs n o c hok hc (by omega) h32
theorem UP:∀ o:List Int,bytesOf (xl o)=some o
 | []=>rfl
 | x::o=>by
  rw[show xl (x::o)=[.int .u8 x]::xl o from rfl];simp only[bytesOf,UP o]
theorem XV (o:List Int)(n:Nat):(xl o).take n=xl (o.take n):=by simp[xl]
theorem Qv (bs:List Int)(hb:okB bs)(c:Cs)(hc:cok bs c)(n:Nat)(hn:n≤64):∃ (s:Str) (c':Cs),s.length=n∧cok bs c'∧EV prog pol (.callO false 241 [.ptr 0 0 0,.t (.int .i64 (n:Int))] [cuR bs c])=some (.call (.t (.str s)) [cuR bs c']):=by
 obtain⟨o',c',cap',e1,e2,e3,e4,e⟩:=Q1 bs hb n hn n [] c (by simp) (fun b hb=>by simp at hb) hc (by simp) (some 0);refine⟨(o'.take n).map fun b=>UInt8.ofNat b.toNat,c',by simp;omega,e4,?_⟩;have c1:(0:Int)≤(n:Int)∧(n:Int)≤(o'.length:Int):=⟨by omega,by omega⟩;have hel:=wS o';have ht:=XV o' n;have hy:=UP (o'.take n);unfold txR at e;simp only[List.length_nil,show xl []=[] from rfl]at e;generalize o'.take n=Z at *;unfold cuR at *;generalize o'.length=ol at *;refine zM func241 rfl (by kernel_rfl) ?_;unfold Tryz.f241;simp (disch:=(try simp only[LL]);omega) only[↓GO,↓DRW,GA,GX,ren,zj,za,refs,z7,cst,zm,isC,bin,una,z6,zd,blt,asArg,zg,zc,zf,z1,zn,unN,ze,zk,zb,GS,simprocAttr,GZ,e,conv,vK,ht,hy,c1,Int.toNat_natCast,List.drop_zero,Nat.sub_zero,zA]
theorem zT {α:Type}{b:Bool}{x y r:Option α}(h:b=true)(hx:x=r):(if b=true then x else y)=r:=by rw[h];exact hx
theorem ab (c:Str)(x:Str):∀ pre:List Str,v8 c (pre++[x])=cond (pre==[]) ((c++[45])++x) ((v8 c pre++[46])++x)
 | []=>by simp[v8,Lib.join_one]
 | y::l=>by
  unfold v8;rw[kg];simp
theorem jZ (c:Str)(l:List Str):(v8 c l).length≤c.length+yc l+l.length+1:=by
 have h:=join_le [46] l;unfold v8
 cases l with
 | nil=>simp only[show (([]:List Str)==[])=true from rfl,cond_true];omega
 | cons x r =>
  simp only[beq_nil_cons,cond_false,List.length_append,List.length_cons,List.length_nil]at h ⊢;omega
theorem bD {v:Ver}(h:yW v=true):(uU v).length≤29:=by
 obtain⟨h1,h2,h3,_,_⟩:=vG h;have a:=vm v.maj h1.1 h1.2;have b:=vm v.min h2.1 h2.2;have c:=vm v.pat h3.1 h3.2;unfold uU;simp only[List.length_append,List.length_cons,List.length_nil];omega
theorem oE (v:Ver)(hs:v.sm):zr (EV prog pol) 128 [.agg (v.enc.map .t)]=some (.t (.str (y7 v))):=by
 have h1:=Qu v hs;unfold Ver.sm at hs;unfold y7
 cases ho:yW v with
 | false =>
  rw[ho]at h1;simp only[Ver.enc,List.map_cons,List.map_nil]at h1 ⊢;apply zu;refine zx rfl func128 rfl (by kernel_rfl) ?_;unfold Tryz.f128;simp (disch:=(try simp only[LL]);omega) only[↓GO,↓DRW,GA,GX,ren,zj,za,refs,z7,cst,zm,isC,bin,una,z6,zd,blt,asArg,zg,zc,zf,z1,zn,unN,ze,zk,zb,GS,simprocAttr,GZ,h1]
 | true =>
  obtain⟨q1,q2,q3,_,_⟩:=vG ho;have a:=vm v.maj q1.1 q1.2;have b:=vm v.min q2.1 q2.2;have c:=vm v.pat q3.1 q3.2;have d1:=eC v.maj q1.1 q1.2;have d2:=eC v.min q2.1 q2.2;have d3:=eC v.pat q3.1 q3.2;have hj:=join_le [46] v.pre;simp only[List.length_cons,List.length_nil]at hj;have h2:=QE v.pre [46] (by omega) (by omega);have hg:=Z4 v.pre;rw[ho]at h1;unfold v8 uU;simp only[Ver.enc,List.map_cons,List.map_nil]at h1 ⊢
  cases hp:(v.pre==[])<;>rw[hp]at hg<;>simp only[Bool.not_true,Bool.not_false]at hg
  · apply zu;refine zx rfl func128 rfl (by kernel_rfl) ?_;unfold Tryz.f128;simp (disch:=(try simp only[LL]);omega) only[↓GO,↓DRW,GA,GX,ren,zj,za,refs,z7,cst,zm,isC,bin,una,z6,zd,blt,asArg,zg,zc,zf,z1,zn,unN,ze,zk,zb,GS,simprocAttr,GZ,h1,d1,d2,d3,h2,hg,y6,zo,List.append_assoc]
  · apply zu;refine zx rfl func128 rfl (by kernel_rfl) ?_;unfold Tryz.f128;simp (disch:=(try simp only[LL]);omega) only[↓GO,↓DRW,GA,GX,ren,zj,za,refs,z7,cst,zm,isC,bin,una,z6,zd,blt,asArg,zg,zc,zf,z1,zn,unN,ze,zk,zb,GS,simprocAttr,GZ,h1,d1,d2,d3,h2,hg,y6,zo,List.append_assoc]
theorem Ro (v:Ver)(hs:v.sm)(c:Str)(hc:c.length≤40):∀ (rest pre:List Str),v.pre=pre++rest →
 EV prog pol (.loop 160 122 0 [.ptr 0 0 0,.t (.str (v8 c pre)),.t (.int .i64 (pre.length:Int))] [.vs 4 [v.enc.map .t]])
 = some (.loop (.exit 0) [.t (.str (v8 c v.pre))] [])
 | [],pre,hp=>by
  have c:decide ((pre.length:Int)<(v.pre.length:Int))=false:=by simp[hp]
  have e:v.pre=pre:=by simpa using hp
  refine zh func160 rfl rfl ?_;simp only[↓GO,↓DRW,GA,GX,ren,zj,za,refs,z7,cst,zm,isC,bin,una,z6,zd,blt,asArg,zg,zc,zf,z1,zn,unN,ze,zk,zb,GS,simprocAttr,zo,c,Ver.enc,zA];rw[e]
 | x::rest,pre,hp=>by
  unfold Ver.sm at hs;have c2:decide ((pre.length:Int)<(v.pre.length:Int))=true:=by simp[hp];omega
  have hget:(strs v.pre)[pre.length]? = some [.str x]:=by rw[hp];exact wA pre x rest
  have hlen:pre.length+rest.length+1≤v.pre.length:=by rw[hp];simp;omega
  have hbk:yc pre+x.length≤yc v.pre:=by rw[hp,jm];simp only[yc];omega
  have ht:=jZ c pre;have IH:=Ro v hs c hc rest (pre++[x]) (by rw[hp];simp);rw[show ((pre++[x]).length:Int)=(pre.length:Int)+1 by simp,ab]at IH;have he:=qh pre;have e0:(pre==[])=true→v8 c pre=c:=fun h=>by unfold v8;rw[h];rfl
  clear hp;simp only[Ver.enc,List.map_cons,List.map_nil]at IH ⊢
  cases h0:(pre==[])<;>rw[h0]at he IH<;>simp only[cond_true,cond_false]at IH
  · refine zh func160 rfl rfl ?_;simp (disch:=(try simp only[LL]);omega) only[↓GO,↓DRW,GA,GX,ren,zj,za,refs,z7,cst,zm,isC,bin,una,z6,zd,blt,asArg,zg,zc,zf,z1,zn,unN,ze,zk,zb,GS,simprocAttr,GZ,c2,hget,zi,he,zo,IH,zA,y6]
  · have e1:=e0 h0;rw[e1];refine zh func160 rfl rfl ?_;simp (disch:=(try simp only[LL]);omega) only[↓GO,↓DRW,GA,GX,ren,zj,za,refs,z7,cst,zm,isC,bin,una,z6,zd,blt,asArg,zg,zc,zf,z1,zn,unN,ze,zk,zb,GS,simprocAttr,GZ,c2,hget,zi,he,zo,IH,zA,y6]
theorem jk (v:Ver)(hs:v.sm):zr (EV prog pol) 160 [.agg (v.enc.map .t)]=some (.t (.str (y7 v))):=by
 have h1:=Ze v hs;unfold y7
 cases ho:yW v with
 | false =>
  rw[ho]at h1;simp only[Ver.enc,List.map_cons,List.map_nil]at h1 ⊢;apply zu;refine zx rfl func160 rfl (by kernel_rfl) ?_;unfold Tryz.f160;simp (disch:=(try simp only[LL]);omega) only[↓GO,↓DRW,GA,GX,ren,zj,za,refs,z7,cst,zm,isC,bin,una,z6,zd,blt,asArg,zg,zc,zf,z1,zn,unN,ze,zk,zb,GS,simprocAttr,GZ,h1]
 | true =>
  obtain⟨q1,q2,q3,_,_⟩:=vG ho;have a:=vm v.maj q1.1 q1.2;have b:=vm v.min q2.1 q2.2;have c:=vm v.pat q3.1 q3.2;have d1:=eB v.maj q1.1 q1.2;have d2:=eB v.min q2.1 q2.2;have d3:=eB v.pat q3.1 q3.2;have hc:=bD ho;have h2:=Ro v hs (uU v) (by omega) v.pre [] rfl;rw[ho]at h1;rw[show v8 (uU v) []=uU v from rfl]at h2;simp only[List.length_nil,Int.natCast_zero]at h2;simp only[cond_true];generalize v8 (uU v) v.pre=tt at *;unfold uU at h2;simp only[Ver.enc,List.map_cons,List.map_nil]at h1 h2 ⊢;apply zu;refine zx rfl func160 rfl (by kernel_rfl) ?_;unfold Tryz.f160;simp (disch:=(try simp only[LL]);omega) only[↓GO,↓DRW,GA,GX,ren,zj,za,refs,z7,cst,zm,isC,bin,una,z6,zd,blt,asArg,zg,zc,zf,z1,zn,unN,ze,zk,zb,GS,simprocAttr,GZ,h1,d1,d2,d3,h2,y6,zA]
theorem kf {s:Str}(h:(x8 46 (yi 45 s).1).length≠3):vQ s=none:=by
 unfold vQ
 split
 · rename_i a b c he;rw[he]at h;exact absurd rfl h
 · rfl
theorem j6 {s:Str}{v:Ver}(h:vQ s=some v)(hl:s.length≤1048700):v.sm∧v.maj≤999999999∧-1≤v.maj∧v.min≤999999999∧-1≤v.min∧v.pat≤999999999∧-1≤v.pat:=by
 unfold vQ at h
 split at h
 · rename_i a b c he
   cases h;have h1:=sX a;have h2:=sX b;have h3:=sX c;refine⟨?_,h1.2,h1.1,h2.2,h2.1,h3.2,h3.1⟩;have:=vL 46 (yi 45 s).2.1;have h5:=(oC 45 s).2;unfold Ver.sm
   cases (yi 45 s).2.2 with
   | true=>simp only[cond_true];omega
   | false=>simp[yc]
 · cases h
theorem wu (s:Str)(hl:s.length≤1048700):(zJ s).1.sm∧(zJ s).1.maj≤999999999∧-1≤(zJ s).1.maj∧(zJ s).1.min≤999999999∧-1≤(zJ s).1.min∧(zJ s).1.pat≤999999999∧-1≤(zJ s).1.pat:=by
 unfold zJ
 cases hm:vQ s with
 | none=>simp[Ver.zero,Ver.sm,yc]
 | some v =>
  have:=j6 hm hl;simp only
  cases (y7 v==s) with
  | true=>exact this
  | false=>simp[Ver.zero,Ver.sm,yc]
def rvT (s:Str):V:=.tup [.agg ((zJ s).1.enc.map .t),.t (.bool (zJ s).2)]
theorem Xl (s:Str)(hl:s.length≤1048700):zr (EV prog pol) 45 [.t (.str s)]=some (rvT s):=by
 have h1:=c_cut s [45] (by omega);rw[bx]at h1;have hl1:=oC 45 s;have h2:=fV (yi 45 s).1 [46] (by omega) (by simp);have h3:=fV (yi 45 s).2.1 [46] (by omega) (by simp);rw[lM]at h2 h3;unfold rvT zJ
 by_cases hn:(x8 46 (yi 45 s).1).length=3
 · obtain⟨a,b,c,hp⟩:∃ a b c,x8 46 (yi 45 s).1=[a,b,c]:=by
    match hq:x8 46 (yi 45 s).1,hn with
    | [a,b,c],_=>exact⟨a,b,c,rfl⟩
   have hm:vQ s=some ⟨zN a,zN b,zN c,cond (yi 45 s).2.2 (x8 46 (yi 45 s).2.1) []⟩:=by unfold vQ;rw[hp]
   have hne:=cC hm;have hsm:=(j6 hm hl).1;have hbk:=vL 46 (yi 45 s).1;rw[hp]at h2 hbk;simp only[yc]at hbk;have d1:=Xm a (by omega);have d2:=Xm b (by omega);have d3:=Xm c (by omega);have hv:=oE _ hsm;rw[hm];have hs0:(s==[])=false:=by rw[beq_eq_false_iff_ne];exact hne
   simp only[Ver.enc,List.map_cons,List.map_nil,uu,yk]at hv h2 ⊢;generalize zN a=ra at *;generalize zN b=rb at *;generalize zN c=rc at *
   cases hh:(yi 45 s).2.2<;>rw[hh]at h1 hv<;>simp only[cond_true,cond_false,yk]at hv ⊢
   · generalize y7 ⟨ra,rb,rc,[]⟩=tt at *;clear hm hsm
     cases he:(tt==s)
     · apply zu;refine zx rfl func45 rfl (by kernel_rfl) ?_;unfold Tryz.f45;simp (disch:=(try simp only[LL]);omega) only[↓GO,↓DRW,GA,GX,ren,zj,za,refs,z7,cst,zm,isC,bin,una,z6,zd,blt,asArg,zg,zc,zf,z1,zn,unN,ze,zk,zb,GS,simprocAttr,GZ,h1,h2,d1,d2,d3,hv,he,bne,hs0,Ver.zero,yk];refine zT (by kernel_rfl) ?_;simp (disch:=(try simp only[LL]);omega) only[↓GO,↓DRW,GA,GX,ren,zj,za,refs,z7,cst,zm,isC,bin,una,z6,zd,blt,asArg,zg,zc,zf,z1,zn,unN,ze,zk,zb,GS,simprocAttr,GZ,h1,h2,d1,d2,d3,hv,he,bne,hs0,Ver.zero,yk]
     · apply zu;refine zx rfl func45 rfl (by kernel_rfl) ?_;unfold Tryz.f45;simp (disch:=(try simp only[LL]);omega) only[↓GO,↓DRW,GA,GX,ren,zj,za,refs,z7,cst,zm,isC,bin,una,z6,zd,blt,asArg,zg,zc,zf,z1,zn,unN,ze,zk,zb,GS,simprocAttr,GZ,h1,h2,d1,d2,d3,hv,he,bne,hs0,yk];refine zT (by kernel_rfl) ?_;simp (disch:=(try simp only[LL]);omega) only[↓GO,↓DRW,GA,GX,ren,zj,za,refs,z7,cst,zm,isC,bin,una,z6,zd,blt,asArg,zg,zc,zf,z1,zn,unN,ze,zk,zb,GS,simprocAttr,GZ,h1,h2,d1,d2,d3,hv,he,bne,hs0,yk]
   · generalize y7 ⟨ra,rb,rc,x8 46 (yi 45 s).2.1⟩=tt at *;clear hm hsm;generalize x8 46 (yi 45 s).2.1=pp at *
     cases he:(tt==s)
     · apply zu;refine zx rfl func45 rfl (by kernel_rfl) ?_;unfold Tryz.f45;simp (disch:=(try simp only[LL]);omega) only[↓GO,↓DRW,GA,GX,ren,zj,za,refs,z7,cst,zm,isC,bin,una,z6,zd,blt,asArg,zg,zc,zf,z1,zn,unN,ze,zk,zb,GS,simprocAttr,GZ,h1,h2,h3,d1,d2,d3,hv,he,bne,hs0,Ver.zero,yk];refine zT (by kernel_rfl) ?_;simp (disch:=(try simp only[LL]);omega) only[↓GO,↓DRW,GA,GX,ren,zj,za,refs,z7,cst,zm,isC,bin,una,z6,zd,blt,asArg,zg,zc,zf,z1,zn,unN,ze,zk,zb,GS,simprocAttr,GZ,h1,h2,h3,d1,d2,d3,hv,he,bne,hs0,Ver.zero,yk]
     · apply zu;refine zx rfl func45 rfl (by kernel_rfl) ?_;unfold Tryz.f45;simp (disch:=(try simp only[LL]);omega) only[↓GO,↓DRW,GA,GX,ren,zj,za,refs,z7,cst,zm,isC,bin,una,z6,zd,blt,asArg,zg,zc,zf,z1,zn,unN,ze,zk,zb,GS,simprocAttr,GZ,h1,h2,h3,d1,d2,d3,hv,he,bne,hs0,yk];refine zT (by kernel_rfl) ?_;simp (disch:=(try simp only[LL]);omega) only[↓GO,↓DRW,GA,GX,ren,zj,za,refs,z7,cst,zm,isC,bin,una,z6,zd,blt,asArg,zg,zc,zf,z1,zn,unN,ze,zk,zb,GS,simprocAttr,GZ,h1,h2,h3,d1,d2,d3,hv,he,bne,hs0,yk]
 · have hm:=kf hn;rw[hm];have hc:(((x8 46 (yi 45 s).1).length:Int)==3)=false:=by rw[beq_eq_false_iff_ne];omega
   generalize x8 46 (yi 45 s).1=parts at *;apply zu;refine zx rfl func45 rfl (by kernel_rfl) ?_;unfold Tryz.f45;simp (disch:=(try simp only[LL]);omega) only[↓GO,↓DRW,GA,GX,ren,zj,za,refs,z7,cst,zm,isC,bin,una,z6,zd,blt,asArg,zg,zc,zf,z1,zn,unN,ze,zk,zb,GS,simprocAttr,GZ,h1,h2,hc,bne,zo,Ver.zero,Ver.enc,yk]
theorem l_at (s:Str)(b:UInt8)(hl:s.length≤4194304):∀ (rest pre:Str),s=pre++rest →
 EV prog pol (.loop 182 26 0 [.t (.str s),.t (.int .u8 (b.toNat:Int)),.t (.int .i64 (pre.length:Int))] [])=some (cond (yi b rest).2.2 (.loop .ret [.t (.int .i64 ((pre.length:Int)+((yi b rest).1.length:Int)))] []) (.loop (.exit 0) [.bad] []))
 | [],pre,hs=>by
  have c:decide ((pre.length:Int)<(s.length:Int))=false:=by simp[hs]
  refine zh func182 rfl rfl ?_;simp only[↓GO,↓DRW,GA,GX,ren,zj,za,refs,z7,cst,zm,isC,bin,una,z6,zd,blt,asArg,zg,zc,zf,z1,zn,unN,ze,zk,zb,GS,simprocAttr,c,yi]
 | x :: rest, pre, hs => by
  have c:decide ((pre.length:Int)<(s.length:Int))=true:=by simp[hs];omega
  have hget:s[pre.length]? = some x:=by rw[hs];exact sI pre x rest
  have hlen:s.length=pre.length+rest.length+1:=by rw[hs];simp;omega
  have IH:=l_at s b hl rest (pre++[x]) (by rw[hs];simp);rw[show ((pre++[x]).length:Int)=(pre.length:Int)+1 by simp]at IH;rw[yi];clear hs
  by_cases hx:x=b
  · subst hx;rw[if_pos rfl];refine zh func182 rfl rfl ?_;simp (disch:=(try simp only[LL]);omega) only[↓GO,↓DRW,GA,GX,ren,zj,za,refs,z7,cst,zm,isC,bin,una,z6,zd,blt,asArg,zg,zc,zf,z1,zn,unN,ze,zk,zb,GS,simprocAttr,GZ,c,hget,zi,Int.natCast_zero,Int.add_zero]
  · have c2:((x.toNat:Int)==(b.toNat:Int))=false:=by
     rw[beq_eq_false_iff_ne];intro e;exact hx (UInt8.toNat_inj.1 (by omega))
    rw[if_neg hx];rw[show (((x::(yi b rest).1).length:Nat):Int)=((yi b rest).1.length:Int)+1 by simp,show (pre.length:Int)+(((yi b rest).1.length:Int)+1)=(pre.length:Int)+1+((yi b rest).1.length:Int) by omega];refine zh func182 rfl rfl ?_;simp (disch:=(try simp only[LL]);omega) only[↓GO,↓DRW,GA,GX,ren,zj,za,refs,z7,cst,zm,isC,bin,una,z6,zd,blt,asArg,zg,zc,zf,z1,zn,unN,ze,zk,zb,GS,simprocAttr,GZ,c,hget,zi,c2,IH]
def atV (b:UInt8)(s:Str):Int:=cond (yi b s).2.2 ((yi b s).1.length:Int) (-1)
theorem c_at (s:Str)(b:UInt8)(hl:s.length≤4194304):zr (EV prog pol) 182 [.t (.str s),.t (.int .u8 (b.toNat:Int))]=some (.t (.int .i64 (atV b s))):=by
 have IH:=l_at s b hl s [] rfl;simp only[List.length_nil,Int.natCast_zero,Int.zero_add]at IH;unfold atV;apply zu;refine zx rfl func182 rfl (by kernel_rfl) ?_;unfold Tryz.f182
 cases h:(yi b s).2.2<;>rw[h]at IH<;>simp only[cond_true,cond_false]at IH<;>simp (disch:=(try simp only[LL]);omega) only[↓GO,↓DRW,GA,GX,ren,zj,za,refs,z7,cst,zm,isC,bin,una,z6,zd,blt,asArg,zg,zc,zf,z1,zn,unN,ze,zk,zb,GS,simprocAttr,GZ,IH]
theorem fk (s:Str)(hl:s.length≤1048700):zr (EV prog pol) 122 [.t (.str s)]=some (rvT s):=by
 have h1:=c_at s 45 (by omega);rw[show (((45:UInt8)).toNat:Int)=45 from rfl]at h1;have hl1:=oC 45 s;have h2:=Zf (yi 45 s).1 46 (by omega);have h3:=Zf (yi 45 s).2.1 46 (by omega);rw[show (((46:UInt8)).toNat:Int)=46 from rfl]at h2 h3;have hce:=lz 45 s;unfold rvT zJ;unfold atV at h1;have hA:(yi 45 s).2.2=false→(yi 45 s).1=s:=fun h=>by rw[h,cond_false,List.append_nil]at hce;exact hce.symm
 have hB:(yi 45 s).2.2=true→s.take (yi 45 s).1.length=(yi 45 s).1∧s.drop ((yi 45 s).1.length+1)=(yi 45 s).2.1∧(yi 45 s).1.length+1≤s.length:=fun h=>by
  rw[h,cond_true]at hce;have e1:s.take (yi 45 s).1.length=(yi 45 s).1:=by
   conv=>lhs;arg 2;rw[hce]
   exact List.take_left
  have e2:s.drop ((yi 45 s).1.length+1)=(yi 45 s).2.1:=by
   conv=>lhs;arg 2;rw[hce]
   rw[← List.drop_drop,List.drop_left];rfl
  refine⟨e1,e2,?_⟩;have:=congrArg List.length hce;rw[List.length_append,List.length_cons]at this;omega
 clear hce
 by_cases hn:(x8 46 (yi 45 s).1).length=3
 · obtain⟨a,b,c,hp⟩:∃ a b c,x8 46 (yi 45 s).1=[a,b,c]:=by
    match hq:x8 46 (yi 45 s).1,hn with
    | [a,b,c],_=>exact⟨a,b,c,rfl⟩
   have hm:vQ s=some ⟨zN a,zN b,zN c,cond (yi 45 s).2.2 (x8 46 (yi 45 s).2.1) []⟩:=by unfold vQ;rw[hp]
   have hsm:=(j6 hm hl).1;have hbk:=vL 46 (yi 45 s).1;rw[hp]at h2 hbk;simp only[yc]at hbk;have d1:=fl a (by omega);have d2:=fl b (by omega);have d3:=fl c (by omega);have hv:=jk _ hsm;rw[hm];simp only[Ver.enc,List.map_cons,List.map_nil,uu,yk]at hv h2 ⊢;generalize zN a=ra at *;generalize zN b=rb at *;generalize zN c=rc at *
   cases hh:(yi 45 s).2.2<;>rw[hh]at h1 hv<;>simp only[cond_true,cond_false,yk]at hv h1 ⊢
   · have hA':=hA hh;rw[hA']at h2;generalize y7 ⟨ra,rb,rc,[]⟩=tt at *;clear hm hsm hA hB hp
     cases he:(tt==s)
     · apply zu;refine zx rfl func122 rfl (by kernel_rfl) ?_;unfold Tryz.f122;simp (disch:=(try simp only[LL]);omega) only[↓GO,↓DRW,GA,GX,ren,zj,za,refs,z7,cst,zm,isC,bin,una,z6,zd,blt,asArg,zg,zc,zf,z1,zn,unN,ze,zk,zb,GS,simprocAttr,GZ,h1,h2,d1,d2,d3,hv,he,bne,ge_iff_le,Ver.zero,yk]
     · apply zu;refine zx rfl func122 rfl (by kernel_rfl) ?_;unfold Tryz.f122;simp (disch:=(try simp only[LL]);omega) only[↓GO,↓DRW,GA,GX,ren,zj,za,refs,z7,cst,zm,isC,bin,una,z6,zd,blt,asArg,zg,zc,zf,z1,zn,unN,ze,zk,zb,GS,simprocAttr,GZ,h1,h2,d1,d2,d3,hv,he,bne,ge_iff_le,yk]
   · obtain⟨b1,b2,b3⟩:=hB hh;generalize y7 ⟨ra,rb,rc,x8 46 (yi 45 s).2.1⟩=tt at *;clear hm hsm hA hB hp;generalize x8 46 (yi 45 s).2.1=pp at *;have g0:decide ((0:Int)≤((yi 45 s).1.length:Int))=true:=by simp
     generalize (yi 45 s).2.1=tl at *;generalize (yi 45 s).1=hd at *
     cases he:(tt==s)
     · apply zu;refine zx rfl func122 rfl (by kernel_rfl) ?_;unfold Tryz.f122;simp (disch:=(try simp only[LL]);omega) only[↓GO,↓DRW,GA,GX,ren,zj,za,refs,z7,cst,zm,isC,bin,una,z6,zd,blt,asArg,zg,zc,zf,z1,zn,unN,ze,zk,zb,GS,simprocAttr,GZ,h1,h2,h3,d1,d2,d3,hv,he,bne,ge_iff_le,g0,b1,b2,zi,Ver.zero,yk]
     · apply zu;refine zx rfl func122 rfl (by kernel_rfl) ?_;unfold Tryz.f122;simp (disch:=(try simp only[LL]);omega) only[↓GO,↓DRW,GA,GX,ren,zj,za,refs,z7,cst,zm,isC,bin,una,z6,zd,blt,asArg,zg,zc,zf,z1,zn,unN,ze,zk,zb,GS,simprocAttr,GZ,h1,h2,h3,d1,d2,d3,hv,he,bne,ge_iff_le,g0,b1,b2,zi]
 · have hm:=kf hn;rw[hm];have hc:(((x8 46 (yi 45 s).1).length:Int)==3)=false:=by rw[beq_eq_false_iff_ne];omega
   cases hh:(yi 45 s).2.2<;>rw[hh]at h1<;>simp only[cond_true,cond_false]at h1
   · have hA':=hA hh;rw[hA']at h2 hc;generalize x8 46 s=parts at *;apply zu;refine zx rfl func122 rfl (by kernel_rfl) ?_;unfold Tryz.f122;simp (disch:=(try simp only[LL]);omega) only[↓GO,↓DRW,GA,GX,ren,zj,za,refs,z7,cst,zm,isC,bin,una,z6,zd,blt,asArg,zg,zc,zf,z1,zn,unN,ze,zk,zb,GS,simprocAttr,GZ,h1,h2,hc,bne,ge_iff_le,zo,Ver.zero,Ver.enc,yk]
   · obtain⟨b1,b2,b3⟩:=hB hh;have g0:decide ((0:Int)≤((yi 45 s).1.length:Int))=true:=by simp
     generalize x8 46 (yi 45 s).1=parts at *;generalize x8 46 (yi 45 s).2.1=pp at *;generalize (yi 45 s).2.1=tl at *;generalize (yi 45 s).1=hd at *;apply zu;refine zx rfl func122 rfl (by kernel_rfl) ?_;unfold Tryz.f122;simp (disch:=(try simp only[LL]);omega) only[↓GO,↓DRW,GA,GX,ren,zj,za,refs,z7,cst,zm,isC,bin,una,z6,zd,blt,asArg,zg,zc,zf,z1,zn,unN,ze,zk,zb,GS,simprocAttr,GZ,h1,h2,h3,hc,bne,ge_iff_le,g0,b1,b2,zi,zo,Ver.zero,Ver.enc,yk]
end Go.Proofs.YtefkoljdebekdaaGreatDoor

/- Joined: V5 V6 V7 V8 V9 V10 V11 K25 I4 V12 G5 V13 K32 K36 B5. Conditions: those of each lemma. -/
import Derived.Test.YtefkoljdebekdaaGreatDoorlJ
import Derived.Test.YtefkoljdebekdaaGreatDoorlK
import Derived.Test.YtefkoljdebekdaaGreatDoorlI
set_option linter.unusedVariables false
set_option linter.unusedSimpArgs false
set_option maxRecDepth 100000
namespace Go.Proofs.YtefkoljdebekdaaGreatDoor
open Go.Proofs.Tryz
open E
def vb (b:UInt8):Bool:=isD b||(nb b==46||(nb b==45||preB b))
theorem uY {n:Int}(h:0≤n):(Lib.itoa n).all isD=true∧Lib.itoa n≠[]:=by
 obtain⟨u,rfl⟩:∃ u:Nat,n=u:=⟨n.toNat,by omega⟩;rw[Lib.itoa_nonneg];obtain⟨a,_,c⟩:=tG u;exact⟨a,c⟩
theorem nO {p q:UInt8→Bool}(h:∀ b,p b=true→q b=true){l:Str}(hl:l.all p=true):l.all q=true:=by
 rw[List.all_eq_true]at hl ⊢;exact fun x hx=>h x (hl x hx)
theorem Yi (b:UInt8)(h:isD b=true):vb b=true:=by unfold vb;rw[h];rfl
theorem YU (b:UInt8)(h:preB b=true):vb b=true:=by unfold vb;rw[h];simp
theorem Qa:∀ l:List Str,(l.all fun p=>p.all preB)=true→(Lib.join l [46]).all vb=true
 | [],_=>rfl
 | x :: r, h => by
  rw[Lib.join_cons];simp only[List.all_cons,Bool.and_eq_true]at h;rw[List.all_append,nO YU h.1,Bool.true_and];have hr:=h.2;clear h
  induction r with
  | nil=>rfl
  | cons y r ih =>
   simp only[List.all_cons,Bool.and_eq_true]at hr;have e:Lib.joinTail [46] (y::r)=46::(y++Lib.joinTail [46] r):=by simp[Lib.joinTail]
   rw[e,List.all_cons,List.all_append,nO YU hr.1,ih hr.2];decide
theorem Ro {v:Ver}(h:yv v=true):(zS v).all vb=true∧∃ b r,zS v=b::r∧isD b=true:=by
 obtain⟨h1,h2,h3,h4,_⟩:=wT h;obtain⟨a1,a2⟩:=uY h1.1;obtain⟨b1,b2⟩:=uY h2.1;obtain⟨c1,c2⟩:=uY h3.1;have hp:(v.pre.all fun p=>p.all preB)=true:=by
  rw[List.all_eq_true]at h4 ⊢;intro x hx;have:=h4 x hx;unfold vy at this;simp only[Bool.and_eq_true]at this;exact this.2.1
 have hj:=Qa v.pre hp;have hcore:(u9 v).all vb=true:=by
  unfold u9;simp only[List.all_append,nO Yi a1,nO Yi b1,nO Yi c1];decide
 refine⟨?_,?_⟩
 · unfold zS wV;rw[h];simp only[cond_true]
   cases (v.pre==[]) with
   | true=>simpa using hcore
   | false =>
    simp only[cond_false,List.all_append,hcore,hj];decide
 · unfold zS wV u9;rw[h];simp only[cond_true]
   cases hi:Lib.itoa v.maj with
   | nil=>exact absurd hi a2
   | cons b r =>
    rw[hi,List.all_cons,Bool.and_eq_true]at a1
    cases (v.pre==[])<;>exact⟨b,_,rfl,a1.1⟩
def isV (s:Str):Bool:=(zq s).2
theorem dO {s:Str}(h:isV s=true):(∀ b∈s,vb b=true)∧∃ b r,s=b::r∧isD b=true:=by
 obtain⟨_,ht,ho,_⟩:=zZ h;obtain⟨h1,h2⟩:=Ro ho;rw[ht]at h1 h2;exact⟨List.all_eq_true.1 h1,h2⟩
theorem mT {s:Str}{c:UInt8}(hc:vb c=false)(h:c∈s):isV s=false:=by
 cases hv:isV s with
 | false=>rfl
 | true =>
  have:=(dO hv).1 c h;rw[hc]at this;cases this
theorem ia {b:UInt8}{r:Str}(hb:isD b=false):isV (b::r)=false:=by
 cases hv:isV (b::r) with
 | false=>rfl
 | true =>
  obtain⟨_,b',r',e,h⟩:=dO hv
  cases e;rw[hb]at h;cases h
theorem kn:isV []=false:=by
 cases hv:isV [] with
 | false=>rfl
 | true=>obtain⟨_,_,_,e,_⟩:=dO hv;cases e
theorem jq (b:UInt8):∀ s:Str,(y5 b s).length=s.count b+1
 | []=>rfl
 | x :: s => by
  have ih:=jq b s
  by_cases h:x=b
  · subst h;rw[vj,List.length_cons,ih,List.count_cons_self]
  · cases hc:y5 b s with
    | nil=>exact absurd hc (xz b s)
    | cons p r =>
     rw[yX b x s p r h hc,List.count_cons_of_ne (by simpa using h)];rw[hc]at ih;simpa using ih
theorem Vn {s:Str}(h:isV s=true):3≤(y5 46 s).length:=by
 obtain⟨hm,_,_,_⟩:=zZ h;have he:=qP 45 s;have h3:(y5 46 (yh 45 s).1).length=3:=by
  unfold wL at hm
  split at hm
  · rename_i a b c hp;rw[hp];rfl
  · cases hm
 rw[jq]at h3 ⊢;rw[he,List.count_append];omega
theorem uZ {b:UInt8}:∀ {s a:Str},y5 b s=[a]→s=a∧b∉a
 | [],a,h=>by cases h;simp
 | x :: s, a, h => by
  by_cases hx:x=b
  · subst hx;rw[vj]at h;injection h with _ h2;exact absurd h2 (xz x s)
  · cases hc:y5 b s with
    | nil=>exact absurd hc (xz b s)
    | cons p r =>
     rw[yX b x s p r hx hc]at h;injection h with h1 h2;subst h2;obtain⟨e1,e2⟩:=uZ hc;subst h1;refine⟨by rw[e1],?_⟩;simp only[List.mem_cons,not_or];exact⟨Ne.symm hx,e2⟩
theorem uJ {b:UInt8}:∀ {s a a':Str} {r:List Str},y5 b s=a::a'::r→∃ t,s=a++b::t∧b∉a∧y5 b t=a'::r
 | [],a,a',r,h=>by simp[y5]at h
 | x :: s, a, a', r, h => by
  by_cases hx:x=b
  · subst hx;rw[vj]at h;injection h with h1 h2;subst h1;exact⟨s,rfl,by simp,h2⟩
  · cases hc:y5 b s with
    | nil=>exact absurd hc (xz b s)
    | cons p q =>
     rw[yX b x s p q hx hc]at h;injection h with h1 h2;subst h1 h2;obtain⟨t,e1,e2,e3⟩:=uJ hc;refine⟨t,by rw[e1];rfl,?_,e3⟩;simp only[List.mem_cons,not_or];exact⟨Ne.symm hx,e2⟩
theorem xy {s:Str}(h:0≤zz s):(∀ b∈s,isD b=true)∧Lib.itoa (zz s)=s∧zz s≤999999999∧s≠[]:=by
 unfold zz at h ⊢
 split at h
 · rename_i v hv
   cases hc:((decide (0≤v)&&decide (v≤999999999))&&(Lib.itoa v==s)) with
   | false=>rw[hc]at h;simp at h
   | true =>
    have hc':=hc;simp only[Bool.and_eq_true,decide_eq_true_eq,beq_iff_eq]at hc';obtain⟨⟨q1,q2⟩,q3⟩:=hc';obtain⟨a,b⟩:=uY q1;simp only[cond_true];rw[q3]at a b;exact⟨List.all_eq_true.1 a,q3,q2,b⟩
 · simp at h
theorem sR {s:Str}{c:UInt8}(hc:isD c=false)(h:c∈s):zz s = -1:=by
 have h1:=wb s
 by_cases h2:0≤zz s
 · have:=(xy h2).1 c h;rw[hc]at this;cases this
 · omega
theorem oA:zz [48]=0:=by
 have:=(uH (u:=0) (by omega)).1
 rwa [show Lib.decDigits 0=[48] by rw[Lib.decDigits_one (by omega)];rfl]at this
theorem gV:Lib.itoa 0=[48]:=by
 have:=Lib.itoa_nonneg 0;rw[show ((0:Nat):Int)=0 from rfl]at this;rw[this,Lib.decDigits_one (by omega)];rfl
def tQ (s:Str):Option (Str×Str):=match y5 46 s with
 | [a]=>cond (decide (0≤zz a)&&!(zY (zz a+1) 0 0==[])) (some (zS ⟨zz a,0,0,[]⟩,zY (zz a+1) 0 0)) none
 | [a,b]=>cond ((decide (0≤zz a)&&decide (0≤zz b))&&!(zY (zz a) (zz b+1) 0==[])) (some (zS ⟨zz a,zz b,0,[]⟩,zY (zz a) (zz b+1) 0)) none
 | _=>none
def vE (s:Str):Str:=cond (((y5 46 s).length:Int)==1) (s++[46,48,46,48]) (s++[46,48])
def u5 (s:Str):Option (Str×Str) :=
 cond (!(isV (vE s))||(!(B2 ((y5 46 s).length:Int) 1 2)||!((zq (vE s)).1.pre==[]))) none
  (cond (uz (zq (vE s)).1 (((y5 46 s).length:Int) - 1)).2 (some (vE s,(uz (zq (vE s)).1 (((y5 46 s).length:Int) - 1)).1)) none)
theorem a8 {s:Str}(h:(45:UInt8)∈s)(hv:isV s=true):(zq s).1.pre≠[]:=by
 obtain⟨hm,_,_,_⟩:=zZ hv;have he:=qP 45 s;have hn:=iq 45 s;unfold wL at hm
 split at hm
 · injection hm with hm;rw[← hm]
   cases hc:(yh 45 s).2.2 with
   | false =>
    rw[hc,cond_false,List.append_nil]at he;rw[he]at h;exact absurd h hn
   | true=>exact xz 46 _
 · cases hm
theorem SP {s:Str}(h:∀ b∈s,isD b=true):(45:UInt8)∉s:=fun hm=>by
 have:=h 45 hm
 revert this;decide
theorem SO {s:Str}(h:∀ b∈s,isD b=true):(46:UInt8)∉s:=fun hm=>by
 have:=h 46 hm
 revert this;decide
theorem kT {a b c s:Str}(hd:(45:UInt8)∉s)(hc:y5 46 s=[a,b,c]) :
 zq s=cond (zS ⟨zz a,zz b,zz c,[]⟩==s) (⟨zz a,zz b,zz c,[]⟩,true) (Ver.zero,false):=by
 unfold zq wL;rw[W3 45 s hd];simp only;rw[hc];simp only[cond_false]
theorem tA (a b c:Int):yv ⟨a,b,c,[]⟩=(n9 a&&(n9 b&&n9 c)):=by simp[yv]
theorem mS (s:Str):n9 (zz s)=decide (0≤zz s):=by
 have:=wb s;unfold n9 B2;have:decide (zz s≤999999999)=true:=decide_eq_true this.2;rw[this,Bool.and_true]
theorem sO {a b c:Int}(ha:n9 a=true)(hb:n9 b=true)(hc:n9 c=true):zS ⟨a,b,c,[]⟩=Lib.itoa a++[46]++Lib.itoa b++[46]++Lib.itoa c:=by
 unfold zS wV u9;rw[tA,ha,hb,hc];rfl
theorem cU {a b c:Int}(h:(n9 a&&(n9 b&&n9 c))=false):zS ⟨a,b,c,[]⟩=[]:=by
 unfold zS;rw[tA,h];rfl
theorem qN:n9 0=true:=by decide
theorem kO (s : Str) : u5 s = tQ s := by
 unfold tQ
 split
 · rename_i a hp;obtain⟨rfl,hn⟩:=uZ hp;have hfull:vE s=s++[46,48,46,48]:=by unfold vE;rw[hp];rfl
   unfold u5;rw[hp,hfull]
   by_cases h45:(45:UInt8)∈s
   · have hd:=sR (c:=45) (by decide) h45;rw[hd];have hr:(!(isV (s++[46,48,46,48]))||(!(B2 (([s]:List Str).length:Int) 1 2)||!((zq (s++[46,48,46,48])).1.pre==[])))=true:=by
      cases hv:isV (s++[46,48,46,48]) with
      | false=>rfl
      | true =>
       have:=a8 (s:=s++[46,48,46,48]) (by simp[h45]) hv;have h2:((zq (s++[46,48,46,48])).1.pre==[])=false:=by
        cases hx:(zq (s++[46,48,46,48])).1.pre with
        | nil=>exact absurd hx this
        | cons x y=>rfl
       rw[h2];simp
     rw[hr];rfl
   · have h45':(45:UInt8)∉s++[46,48,46,48]:=by simp[h45]
     have hc3:y5 46 (s++[46,48,46,48])=[s,[48],[48]]:=by
      rw[show s++[46,48,46,48]=s++46::[48,46,48] from rfl,sx,hp];rfl
     have hr:=kT h45' hc3;rw[oA]at hr;unfold isV;rw[hr];have hn9:=mS s
     by_cases h0:0≤zz s
     · obtain⟨_,hi,_,_⟩:=xy h0;have hn:n9 (zz s)=true:=by rw[hn9];exact decide_eq_true h0
       have ht:=sO hn qN qN;rw[hi,gV]at ht;have he:(zS ⟨zz s,0,0,[]⟩==s++[46,48,46,48])=true:=by rw[ht];simp
       have hok:yv ⟨zz s,0,0,[]⟩=true:=by rw[tA,hn];rfl
       rw[he];simp only[cond_true];have hb:=td hok 0 (by omega);simp only[show ((0:Int)==0)=true from rfl,cond_true,show ((0:Int)==2)=false from rfl,cond_false]at hb;rw[show (([s]:List Str).length:Int) - 1=0 from rfl,hb,decide_eq_true h0,ht];simp only[show B2 (([s]:List Str).length:Int) 1 2=true from rfl,show (([]:List Str)==[])=true from rfl,Bool.not_true,Bool.or_false,cond_false,Bool.true_and];simp
     · have hn:(n9 (zz s)&&(n9 0&&n9 0))=false:=by rw[hn9,decide_eq_false h0];rfl
       rw[cU hn];have he:(([]:Str)==s++[46,48,46,48])=false:=by rw[beq_eq_false_iff_ne];intro e;have:=congrArg List.length e;simp at this
       rw[he,decide_eq_false h0];rfl
 · rename_i a b hp;obtain⟨t,rfl,hna,hct⟩:=uJ hp;obtain⟨rfl,hnb⟩:=uZ hct;generalize hsd:a++46::t=s at *;have hfull:vE s=s++[46,48]:=by unfold vE;rw[hp];rfl
   unfold u5;rw[hp,hfull]
   by_cases h45:(45:UInt8)∈s
   · have hd:(decide (0≤zz a)&&decide (0≤zz t))=false:=by
      rw[← hsd]at h45;simp only[List.mem_append,List.mem_cons]at h45;rcases h45 with h|h|h
      · rw[sR (c:=45) (by decide) h];rfl
      · exact absurd h (by decide)
      · rw[sR (c:=45) (by decide) h];simp
     rw[hd];have hr:(!(isV (s++[46,48]))||(!(B2 (([a,t]:List Str).length:Int) 1 2)||!((zq (s++[46,48])).1.pre==[])))=true:=by
      cases hv:isV (s++[46,48]) with
      | false=>rfl
      | true =>
       have:=a8 (s:=s++[46,48]) (by simp[h45]) hv;have h2:((zq (s++[46,48])).1.pre==[])=false:=by
        cases hx:(zq (s++[46,48])).1.pre with
        | nil=>exact absurd hx this
        | cons x y=>rfl
       rw[h2];simp
     rw[hr];rfl
   · have h45':(45:UInt8)∉s++[46,48]:=by simp[h45]
     have hc3:y5 46 (s++[46,48])=[a,t,[48]]:=by
      rw[show s++[46,48]=s++46::[48] from rfl,sx,hp];rfl
     have hr:=kT h45' hc3;rw[oA]at hr;unfold isV;rw[hr];have hna:=mS a;have hnt:=mS t
     by_cases h0:0≤zz a∧0≤zz t
     · obtain⟨_,hi,_,_⟩:=xy h0.1;obtain⟨_,hj,_,_⟩:=xy h0.2;have hn:n9 (zz a)=true:=by rw[hna];exact decide_eq_true h0.1
       have hm:n9 (zz t)=true:=by rw[hnt];exact decide_eq_true h0.2
       have ht:=sO hn hm qN;rw[hi,hj,gV]at ht;have he:(zS ⟨zz a,zz t,0,[]⟩==s++[46,48])=true:=by rw[ht,← hsd];simp
       have hok:yv ⟨zz a,zz t,0,[]⟩=true:=by rw[tA,hn,hm];rfl
       rw[he];simp only[cond_true];have hb:=td hok 1 (by omega);simp only[show ((1:Int)==0)=false from rfl,show ((1:Int)==1)=true from rfl,cond_true,show ((1:Int)==2)=false from rfl,cond_false]at hb;rw[show (([a,t]:List Str).length:Int) - 1=1 from rfl,hb,decide_eq_true h0.1,decide_eq_true h0.2,eq_of_beq he];simp only[show B2 (([a,t]:List Str).length:Int) 1 2=true from rfl,show (([]:List Str)==[])=true from rfl,Bool.not_true,Bool.or_false,cond_false,Bool.true_and]
     · have hd:(decide (0≤zz a)&&decide (0≤zz t))=false:=by simpa using h0
       have hn:(n9 (zz a)&&(n9 (zz t)&&n9 0))=false:=by rw[hna,hnt,← Bool.and_assoc,hd];rfl
       rw[cU hn];have he:(([]:Str)==s++[46,48])=false:=by rw[beq_eq_false_iff_ne];intro e;have:=congrArg List.length e;simp at this
       rw[he,hd];rfl
 · rename_i h1 h2;have hlen:B2 ((y5 46 s).length:Int) 1 2=false:=by
    match hc:y5 46 s,h1,h2 with
    | [],_,_=>exact absurd hc (xz 46 s)
    | [a],h1,_=>exact absurd rfl (h1 a)
    | [a,b],_,h2=>exact absurd rfl (h2 a b)
    | a::b::c::r,_,_ =>
     have:decide (((a::b::c::r).length:Int)≤2)=false:=decide_eq_false (by simp only[List.length_cons];omega);unfold B2;rw[this,Bool.and_false]
   unfold u5;rw[hlen];simp
def xU:Str→Str×Str×Bool
 | []=>([],[],false)
 | x::r=>if ([32,60]:Str).isPrefixOf (x::r)=true then ([],r.drop 1,true) else (x::(xU r).1,(xU r).2.1,(xU r).2.2)
theorem aW:∀ s:Str,Lib.cut s [32,60]=xU s
 | []=>by simp[Lib.cut,xU,Lib.index]
 | x::s=>by
  have ih:=aW s;rw[xU]
  by_cases h:([32,60]:Str).isPrefixOf (x::s)=true
  · rw[if_pos h];unfold Lib.cut;rw[Lib.index,if_pos h];simp
  · rw[if_neg h,← ih];unfold Lib.cut;rw[Lib.index,if_neg h];have hge:=Lib.index_ge s [32,60]
    by_cases hm:Lib.index s [32,60] = -1
    · rw[hm];simp
    · obtain⟨j,hj⟩:∃ j:Nat,Lib.index s [32,60]=j:=⟨(Lib.index s [32,60]).toNat,by omega⟩;have hb:(((j:Nat):Int)==-1)=false:=by rw[beq_eq_false_iff_ne];omega
      rw[hj,hb];simp only[Bool.false_eq_true,if_false];rw[if_pos (by omega),if_pos (by omega),show ((j:Int)+1).toNat=j+1 by omega];simp only[List.take_succ_cons,Int.toNat_natCast];rw[show j+1+([32,60]:Str).length=(j+([32,60]:Str).length)+1 by simp only[List.length_cons,List.length_nil],List.drop_succ_cons]
theorem Zn {x:UInt8}{r:Str}(h:([32,60]:Str).isPrefixOf (x::r)=true):x=32∧r=60::r.drop 1:=by
 cases r with
 | nil=>simp[List.isPrefixOf]at h
 | cons y r =>
  simp only[List.isPrefixOf,Bool.and_true,Bool.and_eq_true,beq_iff_eq]at h;obtain⟨h1,h2⟩:=h;subst h1 h2;exact⟨rfl,rfl⟩
theorem dx:∀ s:Str,s=(xU s).1++cond (xU s).2.2 (32::60::(xU s).2.1) []
 | []=>rfl
 | x::s=>by
  rw[xU]
  by_cases h:([32,60]:Str).isPrefixOf (x::s)=true
  · obtain⟨h1,h2⟩:=Zn h;rw[if_pos h];subst h1;simp only[List.nil_append,cond_true];rw[← h2]
  · rw[if_neg h];have:=dx s
    show x::s=(x::(xU s).1)++_
    rw[List.cons_append,← this]
theorem dw:∀ s:Str,(32:UInt8)∉s→xU s=(s,[],false)
 | [],_=>rfl
 | x::s,h=>by
  simp only[List.mem_cons,not_or]at h;have hp:¬ ([32,60]:Str).isPrefixOf (x::s)=true:=fun hp=>h.1 (Zn hp).1.symm
  rw[xU,if_neg hp,dw s h.2]
theorem aY (t:Str):∀ s:Str,(32:UInt8)∉s→xU (s++32::60::t)=(s,t,true)
 | [],_=>by
  rw[List.nil_append,xU,if_pos (by simp[List.isPrefixOf])];rfl
 | x::s,h=>by
  simp only[List.mem_cons,not_or]at h;have hp:¬ ([32,60]:Str).isPrefixOf (x::(s++32::60::t))=true:=fun hp=>h.1 (Zn hp).1.symm
  rw[List.cons_append,xU,if_neg hp,aY t s h.2]
theorem fR (t:Str)(ht:(32:UInt8)∉t)(hn:∀ r,t≠60::r):∀ s:Str,(32:UInt8)∉s→xU (s++32::t)=(s++32::t,[],false)
 | [],_=>by
  have hp:¬ ([32,60]:Str).isPrefixOf (32::t)=true:=fun hp=>hn _ (Zn hp).2
  rw[List.nil_append,xU,if_neg hp,dw t ht]
 | x::s,h=>by
  simp only[List.mem_cons,not_or]at h;have hp:¬ ([32,60]:Str).isPrefixOf (x::(s++32::t))=true:=fun hp=>h.1 (Zn hp).1.symm
  rw[List.cons_append,xU,if_neg hp,fR t ht hn s h.2]
abbrev Bd:=Str×Str
def geP (s:Str):Bool:=([62,61]:Str).isPrefixOf s
def ltP (s:Str):Bool:=([60]:Str).isPrefixOf s
def hdB (c:UInt8):Str→Bool
 | []=>false
 | x::_=>x==c
def mW (v:Ver):Str:=cond (decide (v.maj > 0)) (zY (v.maj+1) 0 0) (cond (v.min==0) (zY 0 0 (v.pat+1)) (zY v.maj (v.min+1) 0))
def vf (s:Str):Bd×Bool:=match y5 46 s with
 | [a]=>cond (decide (0≤zz a)) ((zS ⟨zz a,0,0,[]⟩,zY (zz a+1) 0 0),true) (([],[]),false)
 | [a,b]=>cond (decide (0≤zz a)&&decide (0≤zz b)) ((zS ⟨zz a,zz b,0,[]⟩,zY (zz a) (zz b+1) 0),true) (([],[]),false)
 | _=>(([],[]),false)
def SJ (s:Str):Str:=cond (hdB 94 s) (mW (zq (s.drop 1)).1) (zY (zq (s.drop 1)).1.maj ((zq (s.drop 1)).1.min+1) 0)
def wu (s:Str):Bd×Bool :=
 cond (s==[42]) (([],[]),true)
 (cond (isV s) ((s,sI (zq s).1),true)
 (cond (geP s) (((xU (s.drop 2)).1,(xU (s.drop 2)).2.1),isV (xU (s.drop 2)).1&&(!(xU (s.drop 2)).2.2||isV (xU (s.drop 2)).2.1))
 (cond (ltP s) (([],s.drop 1),isV (s.drop 1))
 (cond (hdB 94 s||hdB 126 s) ((s.drop 1,SJ s),isV (s.drop 1))
 (vf s)))))
def qX (s:Str):Bool:=s==[42]||(ltP s||geP s)
def rD (s:Str):Option Bd:=cond (!((wu s).2)||(!(qX s)&&(((wu s).1.1==[])||((wu s).1.2==[])))) none (some (wu s).1)
def isE (s:Str):Bool:=isV s||s==[]
def tk (v:Ver):Int:=cond (decide (v.maj > 0)) 0 (cond (decide (v.min > 0)) 1 2)
def geW (x:Str):Bool:=decide ((x.length:Int) > 2)&&(x.take 2==[62,61])
def ltW (x:Str):Bool:=decide ((x.length:Int) > 1)&&hdB 60 x
def tP (s:Str):Option Bd:=match y5 32 s with
 | [x]=>cond (geW x) (cond (isE (x.drop 2)&&isE []) (some (x.drop 2,[])) none) (cond (ltW x) (cond (isE []&&isE (x.drop 1)) (some ([],x.drop 1)) none) none)
 | [x,y]=>cond (geW x) (cond (ltW y) (cond (isE (x.drop 2)&&isE (y.drop 1)) (some (x.drop 2,y.drop 1)) none) none) none
 | _=>none
def iS (v:Ver)(t:Str)(p:Int):Option Bd:=cond (uz v p).2 (some (t,(uz v p).1)) none
def wC (s:Str):Option Bd :=
 cond (s==[42]) (some ([],[]))
 (cond (decide ((s.length:Int) > 1)&&(hdB 94 s||hdB 126 s)) (cond (!(isV (s.drop 1))) none (iS (zq (s.drop 1)).1 (s.drop 1) (cond (hdB 126 s) 1 (tk (zq (s.drop 1)).1))))
 (cond (decide ((s.length:Int) > 0)&&(hdB 62 s||hdB 60 s)) (tP s)
 (match xB s with|some x=>some x|none=>u5 s)))
theorem ko:isE []=true:=by simp[isE]
theorem Om {s:Str}(h:s≠[]):isE s=isV s:=by
 unfold isE;have:(s==[])=false:=by
  cases s with
  | nil=>exact absurd rfl h
  | cons x r=>rfl
 rw[this,Bool.or_false]
theorem aK {s:Str}(h:isV s=false):xB s=none:=by
 unfold xB;unfold isV at h;rw[h];rfl
theorem kQ {s:Str}{c:UInt8}{a:Str}{r:List Str}(hp:y5 46 s=(c::a)::r)(hc:isD c=false):tQ s=none:=by
 have hd:=sR (s:=c::a) hc (by simp);have h0:decide ((0:Int)≤-1)=false:=by decide
 unfold tQ;rw[hp]
 cases r with
 | nil=>simp only[hd,h0,Bool.false_and,cond_false]
 | cons b r=>cases r with
  | nil=>simp only[hd,h0,Bool.false_and,cond_false]
  | cons _ _=>rfl
theorem kP:tQ []=none:=by
 unfold tQ;have h0:decide (0≤zz [])=false:=by
  apply decide_eq_false;intro h;exact (xy h).2.2.2 rfl
 rw[show y5 46 ([]:Str)=[[]] from rfl];simp only[h0,Bool.false_and,cond_false]
theorem aV {c:UInt8}{r:Str}(h:c≠46):∃ a q,y5 46 (c::r)=(c::a)::q:=by
 cases hc:y5 46 r with
 | nil=>exact absurd hc (xz 46 r)
 | cons p q=>exact⟨p,q,yX 46 c r p q h hc⟩
theorem lM {s:Str}(hb:wu s=vf s)(ho:qX s=false):rD s=tQ s:=by
 unfold rD;rw[hb,ho];unfold vf tQ
 match y5 46 s with
 | []=>rfl
 | [a] =>
  simp only
  cases h:decide (0≤zz a) with
  | false=>simp
  | true =>
   have hn:n9 (zz a)=true:=by rw[mS];exact h
   have:(zS ⟨zz a,0,0,[]⟩==[])=false:=by rw[sO hn qN qN];simp
   simp only[cond_true,Bool.not_true,Bool.false_or,Bool.not_false,Bool.true_and,this]
   cases (zY (zz a+1) 0 0==[])<;>rfl
 | [a, b] =>
  simp only
  cases h:decide (0≤zz a) with
  | false=>simp
  | true =>
   cases h2:decide (0≤zz b) with
   | false=>simp
   | true =>
    have hn:n9 (zz a)=true:=by rw[mS];exact h
    have hm:n9 (zz b)=true:=by rw[mS];exact h2
    have:(zS ⟨zz a,zz b,0,[]⟩==[])=false:=by rw[sO hn hm qN];simp
    simp only[cond_true,Bool.not_true,Bool.false_or,Bool.not_false,Bool.true_and,Bool.and_self,this]
    cases (zY (zz a) (zz b+1) 0==[])<;>rfl
 | a::b::c::r=>rfl
theorem QB {s:Str}(hv:isV s=true):rD s=wC s:=by
 obtain⟨_,x,r,rfl,hx⟩:=dO hv;have hne:∀ c:UInt8,isD c=false→(x==c)=false:=fun c hc=>by
  rw[beq_eq_false_iff_ne];intro e;subst e;rw[hx]at hc;cases hc
 have h42:=hne 42 (by decide);have h94:=hne 94 (by decide);have h126:=hne 126 (by decide);have h62:=hne 62 (by decide);have h60:=hne 60 (by decide);have hs:((x::r)==[42])=false:=by rw[beq_eq_false_iff_ne];intro e;cases e;simp at h42
 have hge:geP (x::r)=false:=by
  cases r with
  | nil=>simp[geP,List.isPrefixOf]
  | cons y r=>simp only[geP,List.isPrefixOf];rw[show ((62:UInt8)==x)=false by rw[Bool.beq_comm];exact h62];rfl
 have hlt:ltP (x::r)=false:=by simp only[ltP,List.isPrefixOf];rw[show ((60:UInt8)==x)=false by rw[Bool.beq_comm];exact h60];rfl
 have hlong:=Vn hv;have hB:B2 ((y5 46 (x::r)).length:Int) 1 2=false:=by
  have:decide (((y5 46 (x::r)).length:Int)≤2)=false:=decide_eq_false (by omega);unfold B2;rw[this,Bool.and_false]
 have hsh:u5 (x::r)=none:=by unfold u5;rw[hB];simp
 unfold rD wC wu qX xB;have hv':(zq (x::r)).2=true:=hv;rw[hs,hv,hge,hlt,hv',hsh];simp only[hdB,h94,h126,h62,h60,cond_false,cond_true,Bool.or_false,Bool.and_false,Bool.not_true,Bool.not_false,Bool.false_or,Bool.true_and];rw[show ((x::r)==[])=false from rfl];simp only[Bool.false_or]
 cases (sI (zq (x::r)).1==[])<;>rfl
theorem jv {v:Ver}{t:Str}(ho:yv v=true)(b:Bool):iS v t (cond (!b) 1 (tk v))=cond (cond b (mW v) (zY v.maj (v.min+1) 0)==[]) none (some (t,cond b (mW v) (zY v.maj (v.min+1) 0))):=by
 obtain⟨h1,h2,h3,_,_⟩:=wT ho;unfold iS
 cases b with
 | false =>
  have hb:=td ho 1 (by omega);simp only[show ((1:Int)==0)=false from rfl,show ((1:Int)==1)=true from rfl,cond_true,show ((1:Int)==2)=false from rfl,cond_false]at hb;simp only[Bool.not_false,cond_true,cond_false];rw[hb]
  cases (zY v.maj (v.min+1) 0==[])<;>rfl
 | true =>
  simp only[Bool.not_true,cond_true,cond_false];unfold tk mW
  cases h4:decide (v.maj > 0) with
  | true =>
   have hb:=td ho 0 (by omega);simp only[show ((0:Int)==0)=true from rfl,cond_true,show ((0:Int)==2)=false from rfl,cond_false]at hb;simp only[cond_true];rw[hb]
   cases (zY (v.maj+1) 0 0==[])<;>rfl
  | false =>
   have h5:v.maj=0:=by have:=of_decide_eq_false h4;omega
   cases h6:decide (v.min > 0) with
   | true =>
    have h7:(v.min==0)=false:=by have:=of_decide_eq_true h6;rw[beq_eq_false_iff_ne];omega
    have hb:=td ho 1 (by omega);simp only[show ((1:Int)==0)=false from rfl,show ((1:Int)==1)=true from rfl,cond_true,show ((1:Int)==2)=false from rfl,cond_false]at hb;simp only[cond_true,cond_false,h7];rw[hb]
    cases (zY v.maj (v.min+1) 0==[])<;>rfl
   | false =>
    have h7:v.min=0:=by have:=of_decide_eq_false h6;omega
    have hb:=td ho 2 (by omega);simp only[show ((2:Int)==0)=false from rfl,show ((2:Int)==1)=false from rfl,show ((2:Int)==2)=true from rfl,cond_true,cond_false]at hb;simp only[cond_false];rw[hb,h5,h7];simp only[show ((0:Int)==0)=true from rfl,cond_true]
    cases (zY 0 0 (v.pat+1)==[])<;>rfl
theorem head_eq (c x:UInt8)(r:Str):([c]:Str).isPrefixOf (x::r)=(x==c):=by
 simp only[List.isPrefixOf,Bool.and_true];exact Bool.beq_comm
theorem eZ (x:UInt8)(r:Str):decide (((x::r).length:Int) > 1) = !(r==[]):=by
 cases r with
 | nil=>rfl
 | cons y r =>
  have:((y::r)==[])=false:=rfl;rw[this];apply decide_eq_true;simp only[List.length_cons];omega
theorem nW {s:Str}(hv:isV s=false):(match xB s with|some x=>some x|none=>u5 s)=tQ s:=by
 rw[aK hv];exact kO s
theorem Z1 (x:UInt8)(r:Str)(hx:x=94∨x=126):rD (x::r)=wC (x::r):=by
 have hd:isD x=false:=by rcases hx with rfl|rfl<;>decide
 have h42:((x::r)==[42])=false:=by rw[beq_eq_false_iff_ne];intro e;cases e;rcases hx with h|h<;>cases h
 have hv:=ia (r:=r) hd;have hge:geP (x::r)=false:=by
  unfold geP;rcases hx with rfl|rfl<;>cases r<;>simp[List.isPrefixOf]
 have hlt:ltP (x::r)=false:=by
  unfold ltP;rcases hx with rfl|rfl<;>simp[List.isPrefixOf]
 have h1:(hdB 94 (x::r)||hdB 126 (x::r))=true:=by rcases hx with rfl|rfl<;>rfl
 have h2:hdB 126 (x::r) = !(hdB 94 (x::r)):=by rcases hx with rfl|rfl<;>rfl
 have h3:(hdB 62 (x::r)||hdB 60 (x::r))=false:=by rcases hx with rfl|rfl<;>rfl
 cases hr:(r==[]) with
 | true =>
  obtain rfl:r=[]:=by
   cases r with
   | nil=>rfl
   | cons y r=>cases hr
  have hp:∃ a q,y5 46 [x]=(x::a)::q:=aV (by rcases hx with rfl|rfl<;>decide);obtain⟨a,q,hp⟩:=hp;have hsh:=kQ hp hd;unfold rD wC wu qX;rw[h42,hv,hge,hlt,h1,h3,eZ,hr,nW hv,hsh];simp only[List.drop_succ_cons,List.drop_zero,kn];rfl
 | false =>
  unfold rD wC wu qX;rw[h42,hv,hge,hlt,h1,eZ,hr,h2];unfold SJ;simp only[List.drop_succ_cons,List.drop_zero,cond_false,cond_true,Bool.or_false,Bool.not_false,Bool.true_and,Bool.not_true,Bool.false_and,hr,Bool.false_or]
  cases hvr:isV r with
  | false=>rfl
  | true =>
   obtain⟨_,_,ho,_⟩:=zZ hvr;rw[jv ho];simp only[Bool.not_true,Bool.false_or,cond_false]
theorem aF (p:Str):geW (62::61::p) = !(p==[]):=by
 unfold geW
 cases p with
 | nil=>rfl
 | cons x p =>
  have:decide (((62::61::x::p:Str).length:Int) > 2)=true:=by apply decide_eq_true;simp only[List.length_cons];omega
  rw[this];rfl
theorem bS (p:Str):ltW (60::p) = !(p==[]):=by
 unfold ltW;rw[eZ];simp[hdB]
theorem sV (p:Str):(!(p==[])&&isE p)=isV p:=by
 cases p with
 | nil=>rw[kn];rfl
 | cons x r=>rw[Om (by simp)];rfl
theorem ZL {s:Str}{c1 c2:Str}{two:Bool}(h:xU s=(c1,c2,two))(h32:2≤s.count 32):(isV c1&&(!two||isV c2))=false:=by
 have he:=dx s;rw[h]at he;simp only at he
 cases two with
 | false =>
  rw[cond_false,List.append_nil]at he;have:(32:UInt8)∈c1:=by rw[← he];exact List.count_pos_iff.1 (by omega)
  rw[mT (c:=32) (by decide) this];rfl
 | true =>
  rw[cond_true]at he;rw[he,List.count_append,List.count_cons_self,List.count_cons_of_ne (by decide)]at h32
  by_cases h1:0<c1.count 32
  · rw[mT (c:=32) (by decide) (List.count_pos_iff.1 h1)];rfl
  · rw[mT (s:=c2) (c:=32) (by decide) (List.count_pos_iff.1 (by omega))];simp
theorem Oz (t : Str) : rD (62 :: 61 :: t) = wC (62 :: 61 :: t) := by
 have hv:=ia (b:=62) (r:=61::t) (by decide);have hge:geP (62::61::t)=true:=by simp[geP,List.isPrefixOf]
 have h42:((62::61::t:Str)==[42])=false:=rfl;have hR:wC (62::61::t)=tP (62::61::t):=by
  unfold wC;rw[h42];simp only[hdB,show ((62:UInt8)==94)=false from rfl,show ((62:UInt8)==126)=false from rfl,show ((62:UInt8)==62)=true from rfl,Bool.or_false,Bool.and_false,cond_false,Bool.true_or,Bool.and_true];have:decide (((62::61::t:Str).length:Int) > 0)=true:=by apply decide_eq_true;simp only[List.length_cons];omega
  rw[this];rfl
 have hI:rD (62::61::t)=cond (isV (xU t).1&&(!(xU t).2.2||isV (xU t).2.1)) (some ((xU t).1,(xU t).2.1)) none:=by
  unfold rD wu qX;rw[h42,hv,hge];simp only[cond_false,cond_true,Bool.or_true,Bool.not_true,Bool.false_and,Bool.or_false,List.drop_succ_cons,List.drop_zero]
  cases (isV (xU t).1&&(!(xU t).2.2||isV (xU t).2.1))<;>rfl
 rw[hI,hR];unfold tP
 cases hc:y5 32 t with
 | nil=>exact absurd hc (xz 32 t)
 | cons p q =>
  have hw:y5 32 (62::61::t)=(62::61::p)::q:=yX 32 62 (61::t) (61::p) q (by decide) (yX 32 61 t p q (by decide) hc);rw[hw]
  cases q with
  | nil =>
   obtain⟨rfl,hn⟩:=uZ hc;rw[dw t hn];simp only[aF,List.drop_succ_cons,List.drop_zero,ko,Bool.and_true,Bool.not_false,Bool.true_or];have hl2:ltW (62::61::t)=false:=by unfold ltW;simp[hdB]
   rw[← sV t,hl2]
   cases (t==[]) with
   | true=>rfl
   | false=>rfl
  | cons y q =>
   obtain⟨u,rfl,hn,hcu⟩:=uJ hc
   cases q with
   | nil =>
    obtain⟨rfl,hny⟩:=uZ hcu;simp only[aF,List.drop_succ_cons,List.drop_zero]
    by_cases hy:∃ z,u=60::z
    · obtain⟨z,rfl⟩:=hy;rw[aY z p hn];simp only[bS,List.drop_succ_cons,List.drop_zero,Bool.not_true,Bool.false_or];rw[← sV p,← sV z]
      cases (p==[])<;>cases (z==[])<;>simp
    · rw[fR u hny (fun r hr=>hy ⟨r,hr⟩) p hn];have h1:isV (p++32::u)=false:=mT (c:=32) (by decide) (by simp);have h2:ltW u=false:=by
       unfold ltW
       cases u with
       | nil=>rfl
       | cons c r =>
        have:(c==60)=false:=by rw[beq_eq_false_iff_ne];intro e;exact hy ⟨r,by rw[e]⟩
        simp only[hdB,this,Bool.and_false]
      rw[h1,h2];simp
   | cons z q =>
    obtain⟨w,rfl,hn2,_⟩:=uJ hcu;have h2:2≤(p++32::(y++32::w)).count 32:=by
     simp only[List.count_append,List.count_cons_self];omega
    have:=ZL (s:=p++32::(y++32::w)) rfl h2;rw[this];rfl
theorem Oy (t:Str):rD (60::t)=wC (60::t):=by
 have hv:=ia (b:=60) (r:=t) (by decide);have hge:geP (60::t)=false:=by cases t<;>simp[geP,List.isPrefixOf]
 have hlt:ltP (60::t)=true:=by simp[ltP,List.isPrefixOf]
 have h42:((60::t:Str)==[42])=false:=by rw[beq_eq_false_iff_ne];intro e;cases e
 have hR:wC (60::t)=tP (60::t):=by
  unfold wC;rw[h42];simp only[hdB,show ((60:UInt8)==94)=false from rfl,show ((60:UInt8)==126)=false from rfl,show ((60:UInt8)==62)=false from rfl,show ((60:UInt8)==60)=true from rfl,Bool.or_false,Bool.and_false,cond_false,Bool.or_true,Bool.and_true];have:decide (((60::t:Str).length:Int) > 0)=true:=by apply decide_eq_true;simp only[List.length_cons];omega
  rw[this];rfl
 have hI:rD (60::t)=cond (isV t) (some ([],t)) none:=by
  unfold rD wu qX;rw[h42,hv,hge,hlt];simp only[cond_false,cond_true,Bool.or_true,Bool.true_or,Bool.not_true,Bool.false_and,Bool.or_false,List.drop_succ_cons,List.drop_zero]
  cases isV t<;>rfl
 rw[hI,hR];unfold tP
 cases hc:y5 32 t with
 | nil=>exact absurd hc (xz 32 t)
 | cons p q =>
  have hw:y5 32 (60::t)=(60::p)::q:=yX 32 60 t p q (by decide) hc;have hg:geW (60::p)=false:=by
   unfold geW
   cases p with
   | nil=>rfl
   | cons a b=>simp
  rw[hw]
  cases q with
  | nil =>
   obtain⟨rfl,hn⟩:=uZ hc;simp only[hg,cond_false,bS,List.drop_succ_cons,List.drop_zero,ko,Bool.true_and];rw[← sV t]
   cases (t==[])<;>rfl
  | cons y q =>
   obtain⟨u,rfl,hn,hcu⟩:=uJ hc;have h1:isV (p++32::u)=false:=mT (c:=32) (by decide) (by simp);rw[h1]
   cases q with
   | nil=>simp only[hg,cond_false]
   | cons z q=>rfl
theorem VD (x:UInt8)(r:Str)(hv:isV (x::r)=false)(h42:((x::r)==[42])=false)(h94:x≠94)(h126:x≠126)(h60:x≠60)(h62:x=62→∀ t,r≠61::t):rD (x::r)=wC (x::r):=by
 have e94:(x==94)=false:=by rw[beq_eq_false_iff_ne];exact h94
 have e126:(x==126)=false:=by rw[beq_eq_false_iff_ne];exact h126
 have e60:(x==60)=false:=by rw[beq_eq_false_iff_ne];exact h60
 have hge:geP (x::r)=false:=by
  unfold geP
  cases hg:([62,61]:Str).isPrefixOf (x::r) with
  | false=>rfl
  | true =>
   cases r with
   | nil=>simp[List.isPrefixOf]at hg
   | cons y r =>
    simp only[List.isPrefixOf,Bool.and_true,Bool.and_eq_true,beq_iff_eq]at hg;exact absurd (by rw[← hg.2]) (h62 hg.1.symm r)
 have hlt:ltP (x::r)=false:=by unfold ltP;rw[head_eq];exact e60
 have hb:wu (x::r)=vf (x::r):=by
  unfold wu;rw[h42,hv,hge,hlt];simp only[hdB,e94,e126,cond_false,Bool.or_false]
 have ho:qX (x::r)=false:=by unfold qX;rw[h42,hge,hlt];rfl
 rw[lM hb ho];unfold wC;rw[h42,nW hv];simp only[hdB,e94,e126,e60,Bool.or_false,Bool.and_false,cond_false];have hl:decide (((x::r).length:Int) > 0)=true:=by apply decide_eq_true;simp only[List.length_cons];omega
 rw[hl,Bool.true_and]
 cases h:(x==62) with
 | false=>rfl
 | true =>
  have hx:=eq_of_beq h;subst hx;obtain⟨a,q,hp⟩:=aV (c:=62) (r:=r) (by decide);rw[kQ hp (by decide)];simp only[cond_true];unfold tP
  cases hc:y5 32 r with
  | nil=>exact absurd hc (xz 32 r)
  | cons p w =>
   rw[yX 32 62 r p w (by decide) hc];have hg:geW (62::p)=false:=by
    unfold geW
    cases p with
    | nil=>rfl
    | cons y p =>
     have hr:∃ t,r=y::t:=by
      cases w with
      | nil=>obtain⟨e,_⟩:=uZ hc;exact⟨p,e⟩
      | cons w1 w2=>obtain⟨t,e,_⟩:=uJ hc;exact⟨p++32::t,e⟩
     obtain⟨t,rfl⟩:=hr;have hy:y≠61:=fun e=>h62 rfl t (by rw[e])
     have:((List.take 2 (62::y::p))==[62,61])=false:=by
      rw[beq_eq_false_iff_ne];intro e;simp at e;exact hy e
     rw[this,Bool.and_false]
   cases w with
   | nil =>
    have hl2:ltW (62::p)=false:=by unfold ltW;simp[hdB]
    simp only[hg,hl2,cond_false]
   | cons y w=>cases w with
    | nil=>simp only[hg,cond_false]
    | cons _ _=>rfl
theorem QC:rD []=wC []:=by
 have hb:wu []=vf []:=by
  unfold wu;rw[kn];rfl
 rw[lM hb rfl,kP];unfold wC;rw[nW kn,kP];rfl
theorem UW:rD [42]=wC [42]:=by
 unfold rD wC wu qX;rfl
theorem UX (s : Str) : rD s = wC s := by
 cases s with
 | nil=>exact QC
 | cons x r =>
  by_cases h42:((x::r)==[42])=true
  · rw[eq_of_beq h42];exact UW
  · have h42':((x::r)==[42])=false:=by simpa using h42
    cases hv:isV (x::r) with
    | true=>exact QB hv
    | false =>
     by_cases h1:x=94
     · exact Z1 x r (.inl h1)
     · by_cases h2:x=126
       · exact Z1 x r (.inr h2)
       · by_cases h3:x=60
         · subst h3;exact Oy r
         · by_cases h4:x=62∧∃ t,r=61::t
           · obtain⟨rfl,t,rfl⟩:=h4;exact Oz t
           · exact VD x r hv h42' h1 h2 h3 fun hx t ht=>h4 ⟨hx,t,ht⟩
theorem uW {a b c:Int}(h:(zY a b c==[])=false):isV (zY a b c)=true:=by
 have hz:=sN a b c;rw[h]at hz;have hn:(n9 a&&(n9 b&&n9 c))=true:=by
  cases hh:(n9 a&&(n9 b&&n9 c)) with
  | true=>rfl
  | false=>rw[hh]at hz;cases hz
 have hok:yv ⟨a,b,c,[[48]]⟩=true:=by rw[uQ];exact hn
 simp only[Bool.and_eq_true,mR]at hn;obtain⟨ha,hb,hc⟩:=hn;obtain⟨da,_⟩:=uY ha.1;obtain⟨db,_⟩:=uY hb.1;obtain⟨dc,_⟩:=uY hc.1;have ht:zY a b c=(Lib.itoa a++46::(Lib.itoa b++46::Lib.itoa c))++45::[48]:=by
  unfold zY zS wV u9;rw[hok];simp[Lib.join_one]
 have ra:zz (Lib.itoa a)=a:=by
  obtain⟨u,rfl⟩:∃ u:Nat,a=u:=⟨a.toNat,by omega⟩;rw[Lib.itoa_nonneg];exact (uH (by omega)).1
 have rb:zz (Lib.itoa b)=b:=by
  obtain⟨u,rfl⟩:∃ u:Nat,b=u:=⟨b.toNat,by omega⟩;rw[Lib.itoa_nonneg];exact (uH (by omega)).1
 have rc:zz (Lib.itoa c)=c:=by
  obtain⟨u,rfl⟩:∃ u:Nat,c=u:=⟨c.toNat,by omega⟩;rw[Lib.itoa_nonneg];exact (uH (by omega)).1
 have na:=List.all_eq_true.1 da;have nb:=List.all_eq_true.1 db;have nc:=List.all_eq_true.1 dc;have h45:(45:UInt8)∉Lib.itoa a++46::(Lib.itoa b++46::Lib.itoa c):=by
  simp only[List.mem_append,List.mem_cons,not_or];exact⟨SP na,by decide,SP nb,by decide,SP nc⟩
 have hm:wL (zY a b c)=some ⟨a,b,c,[[48]]⟩:=by
  unfold wL;rw[ht,ir 45 [48] _ h45];simp only;rw[sx,kA 46 _ (SO na),sx,kA 46 _ (SO nb),kA 46 _ (SO nc)];simp only[List.cons_append,List.nil_append,cond_true];rw[ra,rb,rc];rfl
 unfold isV zq;rw[hm];simp only;have:(zS ⟨a,b,c,[[48]]⟩==zY a b c)=true:=by unfold zY;simp
 rw[this];rfl
theorem Vs {s:Str}{b:Bd}(h:xB s=some b):isV b.1=true∧isV b.2=true:=by
 unfold xB at h
 cases hv:(zq s).2 with
 | false=>rw[hv]at h;cases h
 | true =>
  rw[hv]at h
  cases hh:(sI (zq s).1==[]) with
  | true=>rw[hh]at h;cases h
  | false =>
   rw[hh]at h;simp only[Bool.not_false,Bool.and_self,cond_true]at h;injection h with h;subst h;refine⟨hv,?_⟩
   show isV (sI (zq s).1)=true
   unfold sI at hh ⊢
   cases hp:((zq s).1.pre==[]) with
   | true=>rw[hp]at hh;simp only[cond_true]at hh ⊢;exact uW hh
   | false =>
    rw[hp]at hh;simp only[cond_false]at hh ⊢;obtain⟨r1,r2⟩:=gA hv (fun e=>by rw[e]at hp;cases hp)
    cases hk:yv (qj (zq s).1) with
    | false=>rw[r2,hk]at hh;cases hh
    | true =>
     rw[r2,hk];simp only[cond_true];unfold isV;rw[r1,hk];rfl
theorem V8 {s:Str}{b:Bd}(h:u5 s=some b):isV b.1=true∧isV b.2=true:=by
 have hI:=h;rw[kO]at hI;refine⟨?_,?_⟩
 · unfold u5 at h
   cases h1:(!(isV (vE s))||(!(B2 ((y5 46 s).length:Int) 1 2)||!((zq (vE s)).1.pre==[]))) with
   | true=>rw[h1]at h;cases h
   | false =>
    rw[h1]at h;simp only[cond_false]at h
    cases h2:(uz (zq (vE s)).1 (((y5 46 s).length:Int) - 1)).2 with
    | false=>rw[h2]at h;cases h
    | true =>
     rw[h2]at h;injection h with h;subst h;simp only[Bool.or_eq_false_iff,Bool.not_eq_false']at h1;exact h1.1
 · unfold tQ at hI
   split at hI
   · rename_i a _
     cases h1:(decide (0≤zz a)&&!(zY (zz a+1) 0 0==[])) with
     | false=>rw[h1]at hI;cases hI
     | true =>
      rw[h1]at hI;injection hI with hI;subst hI;simp only[Bool.and_eq_true,Bool.not_eq_true']at h1;exact uW h1.2
   · rename_i a b _
     cases h1:((decide (0≤zz a)&&decide (0≤zz b))&&!(zY (zz a) (zz b+1) 0==[])) with
     | false=>rw[h1]at hI;cases hI
     | true =>
      rw[h1]at hI;injection hI with hI;subst hI;simp only[Bool.and_eq_true,Bool.not_eq_true']at h1;exact uW h1.2
   · cases hI
theorem sD {α:Type}{b:Bool}{x y:α}(h:cond b (some x) none=some y):b=true∧x=y:=by
 cases b with
 | false=>cases h
 | true=>injection h with h;exact⟨rfl,h⟩
theorem Uq {s:Str}{b:Bd}(h:wC s=some b):isE b.1=true∧isE b.2=true:=by
 have ofV:∀ {t:Str},isV t=true→isE t=true:=fun {t} h=>by unfold isE;rw[h];rfl
 unfold wC at h
 cases h1:(s==[42]) with
 | true=>rw[h1]at h;injection h with h;subst h;exact⟨ko,ko⟩
 | false =>
  rw[h1]at h;simp only[cond_false]at h
  cases h2:(decide ((s.length:Int) > 1)&&(hdB 94 s||hdB 126 s)) with
  | true =>
   rw[h2]at h;simp only[cond_true]at h
   cases hv:isV (s.drop 1) with
   | false=>rw[hv]at h;cases h
   | true =>
    rw[hv]at h;simp only[Bool.not_true,cond_false]at h;obtain⟨_,_,ho,_⟩:=zZ hv;have hh:hdB 126 s = !(hdB 94 s):=by
     cases s with
     | nil=>simp[hdB]at h2
     | cons x r =>
      simp only[hdB,Bool.and_eq_true,Bool.or_eq_true,beq_iff_eq]at h2;rcases h2.2 with e|e<;>rw[e]<;>rfl
    rw[hh,jv ho]at h;have key:∀ z:Str,cond (z==[]) none (some (s.drop 1,z))=some b→(∀ (hz:(z==[])=false),isV z=true)→isE b.1=true∧isE b.2=true:=fun z hz hzv=>by
     cases hn:(z==[]) with
     | true=>rw[hn]at hz;cases hz
     | false =>
      rw[hn]at hz;injection hz with hz;subst hz;exact⟨ofV hv,ofV (hzv hn)⟩
    refine key _ h fun hz=>?_
    cases hb:hdB 94 s with
    | false=>rw[hb]at hz;simp only[cond_false]at hz ⊢;exact uW hz
    | true =>
     rw[hb]at hz;simp only[cond_true]at hz ⊢;unfold mW at hz ⊢
     cases h5:decide ((zq (s.drop 1)).1.maj > 0) with
     | true=>rw[h5]at hz;simp only[cond_true]at hz ⊢;exact uW hz
     | false =>
      rw[h5]at hz;simp only[cond_false]at hz ⊢
      cases h6:((zq (s.drop 1)).1.min==0) with
      | true=>rw[h6]at hz;simp only[cond_true]at hz ⊢;exact uW hz
      | false=>rw[h6]at hz;simp only[cond_false]at hz ⊢;exact uW hz
  | false =>
   rw[h2]at h;simp only[cond_false]at h
   cases h3:(decide ((s.length:Int) > 0)&&(hdB 62 s||hdB 60 s)) with
   | true =>
    rw[h3]at h;simp only[cond_true]at h;unfold tP at h
    split at h
    · rename_i x _
      cases hg:geW x with
      | true =>
       rw[hg]at h;obtain⟨q1,q2⟩:=sD h;subst q2;simpa using q1
      | false =>
       rw[hg]at h;simp only[cond_false]at h
       cases hl:ltW x with
       | false=>rw[hl]at h;cases h
       | true =>
        rw[hl]at h;obtain⟨q1,q2⟩:=sD h;subst q2;simpa using q1
    · rename_i x y _
      cases hg:geW x with
      | false=>rw[hg]at h;cases h
      | true =>
       rw[hg]at h;simp only[cond_true]at h
       cases hl:ltW y with
       | false=>rw[hl]at h;cases h
       | true =>
        rw[hl]at h;obtain⟨q1,q2⟩:=sD h;subst q2;simpa using q1
    · cases h
   | false =>
    rw[h3]at h;simp only[cond_false]at h
    cases hx:xB s with
    | some x =>
     rw[hx]at h;injection h with h;subst h;obtain⟨q1,q2⟩:=Vs hx;exact⟨ofV q1,ofV q2⟩
    | none =>
     rw[hx]at h;obtain⟨q1,q2⟩:=V8 h;exact⟨ofV q1,ofV q2⟩
def vV:Str:=[32,124,124,32]
def xA:Nat→Str→List Str
 | _,[]=>[[]]
 | 0,x::r=>if vV.isPrefixOf (x::r)=true then []::xA 3 r else match xA 0 r with
  | p::q=>(x::p)::q
  | []=>[[x]]
 | k+1,_::r=>xA k r
theorem nG:∀ (k:Nat) (s:Str),xA k s≠[]
 | k,[]=>by cases k<;>simp[xA]
 | 0,x::r=>by
  unfold xA
  split
  · simp
  · split<;>simp
 | k+1,x::r=>by rw[xA];exact nG k r
theorem fQ:∀ (k:Nat) (s:Str),k≤s.length→xA k s=xA 0 (s.drop k)
 | 0,s,_=>rfl
 | k+1,[],h=>by simp at h
 | k+1,x::r,h=>by rw[xA,fQ k r (by simpa using h)];rfl
theorem Pg {s:Str}(h:vV.isPrefixOf s=true):4≤s.length:=by
 have:∀ p s:Str,p.isPrefixOf s=true→p.length≤s.length:=fun p=>by
  induction p with
  | nil=>intro s _;simp
  | cons a p ih =>
   intro s h
   cases s with
   | nil=>simp[List.isPrefixOf]at h
   | cons b s =>
    simp only[List.isPrefixOf,Bool.and_eq_true]at h;have:=ih s h.2;simp only[List.length_cons];omega
 exact this vV s h
theorem il (x:UInt8)(r:Str)(h:vV.isPrefixOf (x::r)=true):xA 0 (x::r)=[]::xA 3 r:=by rw[xA,if_pos h]
theorem sa (x:UInt8)(r p:Str)(q:List Str)(h:vV.isPrefixOf (x::r)=false)(e:xA 0 r=p::q):xA 0 (x::r)=(x::p)::q:=by
 rw[xA,if_neg (by rw[h];simp),e]
theorem pH:∀ (n:Nat) (s:Str),s.length≤n→Lib.split s vV=xA 0 s
 | n,[],_=>by
  unfold Lib.split;rw[Lib.count_miss (by simp[Lib.index,vV])];rfl
 | 0,x::r,h=>by simp at h
 | n + 1, x :: r, h => by
  simp only[List.length_cons]at h
  cases hp:vV.isPrefixOf (x::r) with
  | true =>
   have h4:=Pg hp;simp only[List.length_cons]at h4;have hi:Lib.index (x::r) vV=((0:Nat):Int):=by rw[Lib.index,if_pos hp];rfl
   have ih:=pH n (r.drop 3) (by rw[List.length_drop];omega);unfold Lib.split at ih ⊢;rw[Lib.count_hit (by simp[vV]) hi,Nat.add_comm,Lib.splitK,hi];rw[il x r hp,fQ 3 r (by omega),← ih];simp[vV]
  | false =>
   have ih:=pH n r (by omega);have hix:Lib.index (x::r) vV=if Lib.index r vV==-1 then -1 else Lib.index r vV+1:=by
    rw[Lib.index,hp];simp
   unfold Lib.split at ih ⊢
   by_cases hm:Lib.index r vV = -1
   · rw[Lib.count_miss hm]at ih;rw[Lib.count_miss (by rw[hix,hm];rfl),Lib.splitK];rw[Lib.splitK]at ih;exact (sa x r r [] hp ih.symm).symm
   · have hge:=Lib.index_ge r vV;obtain⟨j,hj⟩:∃ j:Nat,Lib.index r vV=j:=⟨(Lib.index r vV).toNat,by omega⟩;have hb:(((j:Nat):Int)==-1)=false:=by rw[beq_eq_false_iff_ne];omega
     have hb2:(((j+1:Nat):Int)==-1)=false:=by rw[beq_eq_false_iff_ne];omega
     have hj2:Lib.index (x::r) vV=((j+1:Nat):Int):=by rw[hix,hj,hb];simp
     rw[Lib.count_hit (by simp[vV]) hj,Nat.add_comm,Lib.splitK,hj,hb]at ih;rw[Lib.count_hit (by simp[vV]) hj2,Nat.add_comm,Lib.splitK,hj2,hb2];simp only[Bool.false_eq_true,if_false,Int.toNat_natCast,Nat.add_zero]at ih ⊢;rw[List.take_succ_cons,show j+1+vV.length=(j+vV.length)+1 by omega,List.drop_succ_cons];exact (sa x r _ _ hp ih.symm).symm
theorem sb:∀ (k:Nat) (s:Str),ya (xA k s)+(xA k s).length≤s.length+1
 | k,[]=>by cases k<;>simp[xA,ya]
 | 0, x :: r => by
  cases hp:vV.isPrefixOf (x::r) with
  | true =>
   have ih:=sb 3 r;rw[il x r hp];simp only[ya,List.length_cons,List.length_nil]at ih ⊢;omega
  | false =>
   have ih:=sb 0 r
   cases hc:xA 0 r with
   | nil=>exact absurd hc (nG 0 r)
   | cons p q =>
    rw[hc]at ih;rw[sa x r p q hp hc];simp only[ya,List.length_cons]at ih ⊢;omega
 | k+1,x::r=>by
  have ih:=sb k r;rw[xA];simp only[List.length_cons];omega
def tm:List Str→Option (List Bd)
 | []=>some []
 | p::r=>match wC p with
  | some b=>(match tm r with|some bs=>some (b::bs)|none=>none)
  | none=>none
def vC (s:Str):Option (List Bd):=cond (decide ((s.length:Int) > 200)||decide (((xA 0 s).length:Int) > 8)) none (tm (xA 0 s))
def w5 (l:List Bd):Bool:=(l.all fun b=>isE b.1&&isE b.2)&&B2 (l.length:Int) 1 8
theorem qS:∀ (l:List Str) (r:List Bd),tm l=some r→(r.all fun b=>isE b.1&&isE b.2)=true∧r.length=l.length
 | [],r,h=>by cases h;exact⟨rfl,rfl⟩
 | p :: l, r, h => by
  unfold tm at h
  cases hp:wC p with
  | none=>rw[hp]at h;cases h
  | some b =>
   rw[hp]at h;simp only at h
   cases hl:tm l with
   | none=>rw[hl]at h;cases h
   | some bs =>
    rw[hl]at h
    cases h;obtain⟨h1,h2⟩:=qS l bs hl;obtain⟨q1,q2⟩:=Uq hp;refine⟨?_,by simp[h2]⟩;simp only[List.all_cons,q1,q2,h1];rfl
def dJ (s:Str):Option (List Bd):=cond (decide ((s.length:Int) > 200)) none (match tm (xA 0 s) with|some l=>cond (w5 l) (some l) none|none=>none)
theorem kW (s:Str):dJ s=vC s:=by
 unfold dJ vC
 cases decide ((s.length:Int) > 200) with
 | true=>rfl
 | false =>
  simp only[cond_false,Bool.false_or]
  cases ha:tm (xA 0 s) with
  | none=>cases decide (((xA 0 s).length:Int) > 8)<;>rfl
  | some l =>
   obtain⟨h1,h2⟩:=qS _ _ ha;have hn:1≤(xA 0 s).length:=by
    cases hc:xA 0 s with
    | nil=>exact absurd hc (nG 0 s)
    | cons p q=>simp
   have hr:w5 l = !decide (((xA 0 s).length:Int) > 8):=by
    unfold w5 B2;rw[h1,h2,Bool.true_and,decide_eq_true (show (1:Int)≤((xA 0 s).length:Int) by omega),Bool.true_and]
    by_cases h:((xA 0 s).length:Int)≤8
    · rw[decide_eq_true h,decide_eq_false (by omega)];rfl
    · rw[decide_eq_false h,decide_eq_true (by omega)];rfl
   simp only;rw[hr]
   cases decide (((xA 0 s).length:Int) > 8)<;>rfl
def dg (u:Nat):Str:=cond (u==0) [] (Lib.decDigits u)
theorem kz:dg 0=[]:=rfl
theorem Yp {u:Nat}(h:0<u):dg u=Lib.decDigits u:=by
 unfold dg;rw[show (u==0)=false by simp;omega];rfl
theorem dq {u:Nat}(h:0<u):dg u=dg (u / 10)++[UInt8.ofNat (48+u % 10)]:=by
 rw[Yp h,Lib.decDigits]
 split
 · rename_i h10;rw[show u / 10=0 by omega,kz,show u % 10=u by omega];rfl
 · rename_i h10;rw[Yp (show 0<u / 10 by omega)]
theorem dt:∀ (n u:Nat),u≤n→0<u→∃ c r,dg u=c::r∧(c==48)=false
 | 0,u,h,h0=>by omega
 | n+1,u,h,h0=>by
  rw[dq h0]
  by_cases h1:0<u / 10
  · obtain⟨c,r,e1,e2⟩:=dt n (u / 10) (by omega) h1;exact⟨c,r++[UInt8.ofNat (48+u % 10)],by rw[e1];rfl,e2⟩
  · rw[show u / 10=0 by omega,kz];refine⟨_,[],rfl,?_⟩;have key:∀ k:Fin 10,k.val≠0→(UInt8.ofNat (48+k.val)==48)=false:=by decide +kernel
    exact key ⟨u % 10,by omega⟩ (by simp only;omega)
def ltL (x y:Str):Bool:=decide (x.length<y.length)||(decide (x.length=y.length)&&Op.bytesLess x y)
theorem Vj:∀ x:Str,Op.bytesLess x []=false
 | []=>rfl
 | _::_=>rfl
theorem wj:∀ x:Str,Op.bytesLess x x=false
 | []=>rfl
 | a::x=>by rw[vG,wj x];simp
theorem bU (a b:UInt8):∀ x y:Str,x.length=y.length→Op.bytesLess (x++[a]) (y++[b])=(Op.bytesLess x y||(x==y&&decide (a<b)))
 | [],[],_=>by
  simp only[List.nil_append];rw[vG];simp[Op.bytesLess]
 | [],_::_,h=>by simp at h
 | _::_,[],h=>by simp at h
 | c::x,d::y,h=>by
  have ih:=bU a b x y (by simpa using h);rw[List.cons_append,List.cons_append,vG,vG,ih];have e:((c::x)==(d::y))=(c==d&&x==y):=rfl;rw[e]
  cases decide (c<d)<;>cases (c==d)<;>cases Op.bytesLess x y<;>cases (x==y)<;>cases decide (a<b)<;>rfl
theorem Ux (a b:UInt8)(x y:Str):ltL (x++[a]) (y++[b])=(ltL x y||(x==y&&decide (a<b))):=by
 unfold ltL;simp only[List.length_append,List.length_cons,List.length_nil]
 by_cases h1:x.length=y.length
 · rw[bU a b x y h1];have e1:decide (x.length+1<y.length+1)=false:=by apply decide_eq_false;omega
   have e2:decide (x.length<y.length)=false:=by apply decide_eq_false;omega
   have e3:decide (x.length+1=y.length+1)=true:=by apply decide_eq_true;omega
   have e4:decide (x.length=y.length)=true:=by apply decide_eq_true;exact h1
   simp only[Nat.zero_add,e1,e2,e3,e4,Bool.false_or,Bool.true_and]
 · have e:(x==y)=false:=by rw[beq_eq_false_iff_ne];intro h;exact h1 (by rw[h])
   have e3:decide (x.length+1=y.length+1)=false:=by apply decide_eq_false;omega
   have e4:decide (x.length=y.length)=false:=by apply decide_eq_false;exact h1
   have e5:decide (x.length+1<y.length+1)=decide (x.length<y.length):=by
    rw[Bool.eq_iff_iff];simp only[decide_eq_true_eq];omega
   simp only[Nat.zero_add,e,e3,e4,e5,Bool.false_and,Bool.or_false]
theorem Xe (x:Str):ltL x x=false:=by unfold ltL;rw[wj];simp
theorem WI : ∀ (n u w : Nat), u + w ≤ n → ltL (dg u) (dg w) = decide (u < w)
 | 0,u,w,h=>by
  have h1:u=0:=by omega
  have h2:w=0:=by omega
  subst h1;subst h2;rfl
 | n + 1, u, w, h => by
  by_cases hw:w=0
  · subst hw;rw[kz];unfold ltL;rw[Vj];simp
  · by_cases hu:u=0
    · subst hu;obtain⟨c,r,e,_⟩:=dt w w (Nat.le_refl _) (by omega);rw[kz,e];unfold ltL;simp;omega
    · rw[dq (show 0<u by omega),dq (show 0<w by omega),Ux];have i1:=WI n (u / 10) (w / 10) (by omega);have i2:=WI n (w / 10) (u / 10) (by omega);have ed:decide (UInt8.ofNat (48+u % 10)<UInt8.ofNat (48+w % 10))=decide (u % 10<w % 10):=by
       have key:∀ a b:Fin 10,decide (UInt8.ofNat (48+a.val)<UInt8.ofNat (48+b.val))=decide (a.val<b.val):=by decide +kernel
       exact key ⟨u % 10,by omega⟩ ⟨w % 10,by omega⟩
      rw[i1,ed]
      by_cases he:u / 10=w / 10
      · rw[he];simp only[beq_self_eq_true,Bool.true_and,Nat.lt_irrefl,decide_false,Bool.false_or];rw[Bool.eq_iff_iff];simp only[decide_eq_true_eq];omega
      · have hx:(dg (u / 10)==dg (w / 10))=false:=by
         rw[beq_eq_false_iff_ne];intro hh;rw[hh,Xe]at i1;rw[hh,Xe]at i2;have a1:=of_decide_eq_false i1.symm;have a2:=of_decide_eq_false i2.symm;omega
        rw[hx,Bool.false_and,Bool.or_false,Bool.eq_iff_iff];simp only[decide_eq_true_eq];omega
def vc (s:Str):Str:=s.dropWhile (· == 48)
theorem kJ (u:Nat):vc (Lib.decDigits u)=dg u:=by
 by_cases h:0<u
 · rw[← Yp h];obtain⟨c,r,e,e2⟩:=dt u u (Nat.le_refl _) h;rw[e];unfold vc;simp[List.dropWhile,e2]
 · have:u=0:=by omega
   subst this;rw[Lib.decDigits_one (by omega)];rfl
def W6 (a b:Str):Int:=cond (isNum a&&isNum b)
 (cond (xg ((vc a).length:Int) ((vc b).length:Int)==0) (pD (vc a) (vc b)) (xg ((vc a).length:Int) ((vc b).length:Int)))
 (cond (isNum a) (-1) (cond (isNum b) 1 (pD a b)))
theorem gW {a:Str}(h:vy a=true):isNum a=decide (zz a≥0):=by
 unfold vy at h;simp only[Bool.and_eq_true,Bool.or_eq_true,Bool.not_eq_true',decide_eq_true_eq]at h;rcases h.2.2 with h1|h1
 · rw[h1]
   symm
   apply decide_eq_false;intro hg;obtain⟨a1,_,_,a4⟩:=xy (s:=a) hg;unfold isNum at h1;have e1:(a==[])=false:=by simpa using a4
   have e2:a.all isD=true:=by rw[List.all_eq_true];exact a1
   rw[e1,e2]at h1;cases h1
 · have e:decide (zz a≥0)=true:=decide_eq_true h1;rw[e];obtain⟨a1,_,_,a4⟩:=xy (s:=a) h1;unfold isNum;have e1:(a==[])=false:=by simpa using a4
   have e2:a.all isD=true:=by rw[List.all_eq_true];exact a1
   rw[e1,e2];rfl
theorem jo {a:Str}(h:zz a≥0):∃ u:Nat,zz a=u∧a=Lib.decDigits u:=by
 obtain⟨_,a2,_,_⟩:=xy (s:=a) h;obtain⟨u,hu⟩:∃ u:Nat,zz a=u:=⟨(zz a).toNat,by omega⟩;refine⟨u,hu,?_⟩;rw[hu,Lib.itoa_nonneg]at a2;exact a2.symm
theorem Qx (u w:Nat):cond (xg ((dg u).length:Int) ((dg w).length:Int)==0) (pD (dg u) (dg w)) (xg ((dg u).length:Int) ((dg w).length:Int))=xg (u:Int) (w:Int):=by
 have h1:=WI (u+w) u w (Nat.le_refl _);have h2:=WI (u+w) w u (by omega);rw[uK];unfold ltL at h1 h2;rcases Nat.lt_trichotomy u w with h|h|h
 · have e:decide (u<w)=true:=decide_eq_true h;rw[e]at h1;have r:xg (u:Int) (w:Int) = -1:=by unfold xg;rw[show decide ((u:Int)<(w:Int))=true by apply decide_eq_true;omega];rfl
   rw[r];rcases Nat.lt_trichotomy (dg u).length (dg w).length with g|g|g
   · have e1:(((dg u).length:Int)==((dg w).length:Int))=false:=by rw[beq_eq_false_iff_ne];omega
     rw[e1,cond_false];unfold xg;rw[show decide (((dg u).length:Int)<((dg w).length:Int))=true by apply decide_eq_true;omega];rfl
   · have e1:(((dg u).length:Int)==((dg w).length:Int))=true:=by rw[beq_iff_eq];omega
     rw[e1,cond_true];have e2:Op.bytesLess (dg u) (dg w)=true:=by
      simp only[g,Nat.lt_irrefl,decide_false,Bool.false_or,decide_true,Bool.true_and]at h1;exact h1
     unfold pD;rw[e2];rfl
   · exfalso;have e1:decide ((dg u).length<(dg w).length)=false:=by apply decide_eq_false;omega
     have e2:decide ((dg u).length=(dg w).length)=false:=by apply decide_eq_false;omega
     rw[e1,e2]at h1;cases h1
 · subst h;have e1:(((dg u).length:Int)==((dg u).length:Int))=true:=by simp
   rw[e1,cond_true];have r:xg (u:Int) (u:Int)=0:=by unfold xg;simp
   rw[r];unfold pD;rw[wj];simp
 · have e:decide (w<u)=true:=decide_eq_true h;rw[e]at h2;have r:xg (u:Int) (w:Int)=1:=by
    unfold xg;rw[show decide ((u:Int)<(w:Int))=false by apply decide_eq_false;omega,show decide ((u:Int) > (w:Int))=true by apply decide_eq_true;omega];rfl
   rw[r];rcases Nat.lt_trichotomy (dg w).length (dg u).length with g|g|g
   · have e1:(((dg u).length:Int)==((dg w).length:Int))=false:=by rw[beq_eq_false_iff_ne];omega
     rw[e1,cond_false];unfold xg;rw[show decide (((dg u).length:Int)<((dg w).length:Int))=false by apply decide_eq_false;omega,show decide (((dg u).length:Int) > ((dg w).length:Int))=true by apply decide_eq_true;omega];rfl
   · have e1:(((dg u).length:Int)==((dg w).length:Int))=true:=by rw[beq_iff_eq];omega
     rw[e1,cond_true];have e2:Op.bytesLess (dg w) (dg u)=true:=by
      simp only[g,Nat.lt_irrefl,decide_false,Bool.false_or,decide_true,Bool.true_and]at h2;exact h2
     have e3:=qO (dg u) (dg w);rw[e2]at e3;have e4:Op.bytesLess (dg u) (dg w)=false:=by
      cases hh:Op.bytesLess (dg u) (dg w) with
      | false=>rfl
      | true=>rw[hh]at e3;cases e3
     unfold pD;rw[e3,e4];rfl
   · exfalso;have e1:decide ((dg w).length<(dg u).length)=false:=by apply decide_eq_false;omega
     have e2:decide ((dg w).length=(dg u).length)=false:=by apply decide_eq_false;omega
     rw[e1,e2]at h2;cases h2
theorem Qz {a b:Str}(ha:vy a=true)(hb:vy b=true):W6 a b=tJ a b:=by
 unfold W6 tJ;rw[gW ha,gW hb]
 cases h1:decide (zz a≥0)<;>cases h2:decide (zz b≥0)<;>simp only[Bool.and_true,Bool.and_false,Bool.true_and,Bool.false_and,cond_true,cond_false]
 obtain⟨u,e1,e2⟩:=jo (of_decide_eq_true h1);obtain⟨w,e3,e4⟩:=jo (of_decide_eq_true h2);rw[e1,e3,e2,e4,kJ,kJ];exact Qx u w
def qW:List Str→List Str→Option Int
 | a::l,b::m=>cond (W6 a b==0) (qW l m) (some (W6 a b))
 | _,_=>none
theorem bc:∀ {a b:List Str},(∀ x∈a,vy x=true)→(∀ x∈b,vy x=true)→qW a b=tM a b
 | [],_,_,_=>by unfold qW tM;rfl
 | _::_,[],_,_=>rfl
 | x::a,y::b,ha,hb=>by
  rw[qW,tM,Qz (ha x (by simp)) (hb y (by simp)),bc (fun z hz=>ha z (by simp[hz])) (fun z hz=>hb z (by simp[hz]))]
def om (a b:Ver):Int :=
 cond (xg a.maj b.maj==0) (cond (xg a.min b.min==0) (cond (xg a.pat b.pat==0)
  (cond ((a.pre==[]) != (b.pre==[])) (xg (b.pre.length:Int) (a.pre.length:Int)) ((qW a.pre b.pre).getD (xg (a.pre.length:Int) (b.pre.length:Int))))
  (xg a.pat b.pat)) (xg a.min b.min)) (xg a.maj b.maj)
theorem nK {a b:Ver}(ha:yv a=true)(hb:yv b=true):om a b=tY a b:=by
 have h1:=(wT ha).2.2.2.1;have h2:=(wT hb).2.2.2.1;rw[List.all_eq_true]at h1 h2;have hs:=bc h1 h2;unfold om tY uo;rw[hs]
 congr 3
 cases hx:a.pre with
 | nil =>
  cases hy:b.pre with
  | nil=>rfl
  | cons y l=>rfl
 | cons x k =>
  cases hy:b.pre with
  | nil=>rfl
  | cons y l=>rfl
theorem Z0:∀ a b:Str,Lib.compareBytes a b=pD a b
 | [],[]=>rfl
 | [],_::_=>rfl
 | _::_,[]=>by simp[Lib.compareBytes,pD,Op.bytesLess]
 | a::x,b::y=>by
  have ih:=Z0 x y;unfold pD at ih ⊢;rw[Lib.compareBytes,vG,show ((a::x)==(b::y))=(a==b&&x==y) from rfl]
  by_cases h1:a<b
  · rw[if_pos h1];simp[h1]
  · rw[if_neg h1]
    by_cases h2:b<a
    · have h3:(a==b)=false:=by
       rw[beq_eq_false_iff_ne];intro h;subst h;exact h1 h2
      rw[if_pos h2];simp[h1,h3]
    · have h3:a=b:=by
       apply UInt8.toNat_inj.1;simp only[UInt8.lt_iff_toNat_lt]at h1 h2;omega
      subst h3;rw[if_neg h2,ih];simp only[decide_false,h1,Bool.false_or,beq_self_eq_true,Bool.true_and]
def Wy (v l:Ver):Bool:=!(l.pre==[])&&(l.maj==v.maj&&(l.min==v.min&&l.pat==v.pat))
def te (v:Ver)(b:Bd):Bool :=
 cond (((zq b.1).2&&decide (tY v (zq b.1).1<0))||((zq b.2).2&&decide (tY v (zq b.2).1≥0))) false
  (v.pre==[]||((zq b.1).2&&Wy v (zq b.1).1))
def mL (v:Ver)(b:Bd):Bool :=
 cond ((!(b.1==[])&&decide (om v (zq b.1).1<0))||(!(b.2==[])&&decide (om v (zq b.2).1≥0))) false
  (v.pre==[]||Wy v (zq b.1).1)
theorem ab {s:Str}(h:isE s=true):(!(s==[]))=(zq s).2:=by
 unfold isE at h
 cases hs:(s==[]) with
 | false =>
  rw[hs,Bool.or_false]at h;unfold isV at h;rw[h];rfl
 | true =>
  have:s=[]:=by simpa using hs
  subst this
  cases hr:(zq []).2 with
  | false=>rfl
  | true=>exact absurd rfl (zZ hr).2.2.2
theorem Zz {v:Ver}(hv:yv v=true){b:Bd}(h1:isE b.1=true)(h2:isE b.2=true):mL v b=te v b:=by
 unfold mL te;rw[ab h1,ab h2];have e1:((zq b.1).2&&decide (om v (zq b.1).1<0))=((zq b.1).2&&decide (tY v (zq b.1).1<0)):=by
  cases hr:(zq b.1).2 with
  | false=>rfl
  | true=>rw[nK hv (zZ hr).2.2.1]
 have e2:((zq b.2).2&&decide (om v (zq b.2).1≥0))=((zq b.2).2&&decide (tY v (zq b.2).1≥0)):=by
  cases hr:(zq b.2).2 with
  | false=>rfl
  | true=>rw[nK hv (zZ hr).2.2.1]
 have e3:Wy v (zq b.1).1=((zq b.1).2&&Wy v (zq b.1).1):=by
  cases hr:(zq b.1).2 with
  | false=>rw[hJ hr];rfl
  | true=>rfl
 rw[e1,e2,← e3]
def inB (s:Str)(l:List Bd):Bool:=(zq s).2&&(w5 l&&l.any (te (zq s).1))
theorem Zf {v:Ver}(hv:yv v=true):∀ (l:List Bd),(l.all fun b=>isE b.1&&isE b.2)=true→l.any (mL v)=l.any (te v)
 | [],_=>rfl
 | b::l,h=>by
  simp only[List.all_cons,Bool.and_eq_true]at h;rw[List.any_cons,List.any_cons,Zz hv h.1.1 h.1.2,Zf hv l h.2]
def mh (x:zu):Bool:=(vC x.range).isSome&&(uy x.name&&(vK x.text&&!(x.text==[])))
def afT (n:zu)(name ver:Str):Bool:=mh n&&(n.name==name&&inB ver ((vC n.range).getD []))
def xY (ns:List zu)(ps:List zh):List Str:=ps.flatMap fun p=>(ns.filter fun n=>afT n p.name p.version).map fun n=>(keyOf p++[32])++n.text
theorem S1:∀ x y:Str,Op.bytesLess x y=decide (x<y)
 | [],[]=>by simp[Op.bytesLess]
 | [],b::y=>by simp[Op.bytesLess]
 | a::x,[]=>by simp[Op.bytesLess]
 | a::x,b::y=>by
  rw[vG,S1 x y,Bool.eq_iff_iff];simp only[Bool.or_eq_true,decide_eq_true_eq,Bool.and_eq_true,beq_iff_eq,List.cons_lt_cons_iff]
theorem dM (x y:Str):decide (x≤y) = !(Op.bytesLess y x):=by
 rw[S1,Bool.eq_iff_iff];simp only[decide_eq_true_eq,Bool.not_eq_true',decide_eq_false_iff_not];exact Iff.rfl
theorem jT {x y:Str}(h1:Op.bytesLess x y=false)(h2:Op.bytesLess y x=false):x=y:=by
 have h:=qO x y;rw[h1,h2]at h;simpa using h
theorem vz:∀ {x y z:Str},Op.bytesLess x y=true→Op.bytesLess y z=true→Op.bytesLess x z=true
 | [],[],z,h1,_=>by simp[Op.bytesLess]at h1
 | _::_,[],z,h1,_=>by simp[Op.bytesLess]at h1
 | [],_::_,[],_,h2=>by simp[Op.bytesLess]at h2
 | [],_::_,_::_,_,_=>by simp[Op.bytesLess]
 | _::_,_::_,[],_,h2=>by simp[Op.bytesLess]at h2
 | a::x,b::y,c::z,h1,h2=>by
  rw[vG]at h1 h2 ⊢;simp only[Bool.or_eq_true,decide_eq_true_eq,Bool.and_eq_true,beq_iff_eq,UInt8.lt_iff_toNat_lt]at h1 h2 ⊢;rcases h1 with h1|⟨rfl,h1⟩
  · rcases h2 with h2|⟨rfl,h2⟩
    · left;omega
    · left;exact h1
  · rcases h2 with h2|⟨rfl,h2⟩
    · left;exact h2
    · right;exact⟨rfl,vz h1 h2⟩
theorem j8 {x y z:Str}(h1:Op.bytesLess y x=false)(h2:Op.bytesLess z y=false):Op.bytesLess z x=false:=by
 cases h:Op.bytesLess z x with
 | false=>rfl
 | true =>
  exfalso
  cases hyz:Op.bytesLess y z with
  | true=>have:=vz hyz h;rw[h1]at this;cases this
  | false =>
   have:=jT hyz h2;subst this;rw[h1]at h;cases h
def Asc (l:List Str):Prop:=l.Pairwise fun x y=>Op.bytesLess y x=false
theorem Zc:∀ {a b:List Str},Asc a→Asc b→a.Perm b→a=b
 | [],b,_,_,h=>by simpa using h.symm
 | x::a,[],_,_,h=>by have:=h.length_eq;simp at this
 | x :: a, y :: b, h1, h2, h => by
  have h1':=List.pairwise_cons.1 h1;have h2':=List.pairwise_cons.1 h2;have hxy:x=y:=by
   have m1:x∈y::b:=h.mem_iff.1 (by simp);have m2:y∈x::a:=h.mem_iff.2 (by simp);rcases List.mem_cons.1 m1 with e|m1
   · exact e
   · rcases List.mem_cons.1 m2 with e|m2
     · exact e.symm
     · exact jT (h2'.1 x m1) (h1'.1 y m2) |>.symm▸rfl
  subst hxy;rw[Zc h1'.2 h2'.2 (List.Perm.cons_inv h)]
theorem V1 (l:List Str):Asc (vv l):=by
 have:=List.pairwise_mergeSort (le:=fun x y:Str=>decide (x≤y)) (fun a b c h1 h2=>by
  rw[dM]at *;simp only[Bool.not_eq_true']at *;exact j8 h1 h2) (fun a b=>by
  rw[dM,dM]
  cases h1:Op.bytesLess b a<;>cases h2:Op.bytesLess a b<;>first|rfl|skip
  have:=vz h1 h2;rw[wj]at this;cases this) l
 refine List.Pairwise.imp (fun {a b} h=>?_) this;rw[dM]at h;simpa using h
theorem U8 {a b:List Str}(hb:Asc b)(h:a.Perm b):vv a=b:=Zc (V1 a) hb ((kM a).trans h)
def xp:List Str→Str→List Str
 | [],s=>[s]
 | x::r,s=>cond (Op.bytesLess x s) (x::xp r s) (cond (x==s) (x::r) (s::x::r))
def xL (l:List Str)(s:Str):Bool:=l.any (· == s)
theorem mH:∀ (l:List Str) (s:Str),xL l s=false→(xp l s).Perm (l++[s])
 | [],s,_=>by simp[xp]
 | x::r,s,h=>by
  simp only[xL,List.any_cons,Bool.or_eq_false_iff]at h;rw[xp,h.1]
  cases Op.bytesLess x s with
  | true=>simp only[cond_true,List.cons_append];exact (mH r s h.2).cons x
  | false=>simp only[cond_false];exact (List.perm_append_singleton s (x::r)).symm
theorem iG:∀ (l:List Str) (s y:Str),y∈xp l s→y∈l∨y=s
 | [],s,y,h=>by simpa [xp] using h
 | x :: r, s, y, h => by
  rw[xp]at h
  cases h1:Op.bytesLess x s with
  | true =>
   rw[h1,cond_true]at h;rcases List.mem_cons.1 h with h|h
   · left;simp[h]
   · rcases iG r s y h with h|h
     · left;simp[h]
     · right;exact h
  | false =>
   rw[h1,cond_false]at h
   cases h2:(x==s) with
   | true=>rw[h2,cond_true]at h;left;exact h
   | false =>
    rw[h2,cond_false]at h;rcases List.mem_cons.1 h with h|h
    · right;exact h
    · left;exact h
theorem Zl:∀ (l:List Str) (s:Str),Asc l→Asc (xp l s)
 | [],s,_=>by simp[xp,Asc]
 | x :: r, s, h => by
  have h':=List.pairwise_cons.1 h;rw[xp]
  cases h1:Op.bytesLess x s with
  | true =>
   simp only[cond_true];refine List.pairwise_cons.2 ⟨fun y hy=>?_,Zl r s h'.2⟩;rcases iG r s y hy with hy|rfl
   · exact h'.1 y hy
   · cases h2:Op.bytesLess y x with
     | false=>rfl
     | true=>have:=vz h1 h2;rw[wj]at this;cases this
  | false =>
   simp only[cond_false]
   cases h2:(x==s) with
   | true=>exact h
   | false =>
    simp only[cond_false];refine List.pairwise_cons.2 ⟨fun y hy=>?_,h⟩;rcases List.mem_cons.1 hy with rfl|hy
    · exact h1
    · exact j8 h1 (h'.1 y hy)
theorem Vw {a b:List Str}(h:a.Perm b)(s:Str):xL a s=xL b s:=by
 unfold xL;rw[Bool.eq_iff_iff,List.any_eq_true,List.any_eq_true];constructor
 · rintro⟨x,h1,h2⟩;exact⟨x,h.mem_iff.1 h1,h2⟩
 · rintro⟨x,h1,h2⟩;exact⟨x,h.mem_iff.2 h1,h2⟩
def uM (ps:List zh)(k:Str):Option zh:=match ob ps k with
 | some i=>ps[i]?
 | none=>none
def yB (add:List Str→Str→List Str)(ps:List zh):Nat→List Str→List Str→List Str
 | 0,out,_=>out
 | _+1,out,[]=>out
 | n+1,out,k::w=>match uM ps k with
  | none=>yB add ps n out w
  | some p=>cond (xL out k) (yB add ps n out w) (yB add ps n (add out k) (w++p.zE))
theorem sS (ps:List zh):∀ (n:Nat) (a b w:List Str),Asc b→a.Perm b→Asc (yB xp ps n b w)∧(yB (fun l s=>l++[s]) ps n a w).Perm (yB xp ps n b w)
 | 0,a,b,w,hb,h=>⟨hb,h⟩
 | n+1,a,b,[],hb,h=>⟨hb,h⟩
 | n + 1, a, b, k :: w, hb, h => by
  rw[yB,yB]
  cases uM ps k with
  | none=>exact sS ps n a b w hb h
  | some p =>
   rw[Vw h k]
   cases hc:xL b k with
   | true=>exact sS ps n a b w hb h
   | false=>exact sS ps n (a++[k]) (xp b k) (w++p.zE) (Zl b k hb) ((h.append_right [k]).trans (mH b k hc).symm)
theorem kU (ps:List zh)(n:Nat)(w:List Str):vv (yB (fun l s=>l++[s]) ps n [] w)=yB xp ps n [] w:=by
 obtain⟨h1,h2⟩:=sS ps n [] [] w (by simp[Asc]) (List.Perm.refl _);exact U8 h1 h2
def muP (out:List Str)(p:zh):Nat:=cond (xL out (keyOf p)) 0 p.zE.length
def muS (ps:List zh)(out:List Str):Nat:=(ps.map (muP out)).sum
theorem mA (l:List Str)(k s:Str):xL (l++[k]) s=(xL l s||(k==s)):=by simp[xL]
theorem TZ (k:Str)(out out':List Str)(h:∀ s,xL out' s=(xL out s||(k==s))):∀ ps:List zh,muS ps out'≤muS ps out
 | []=>by simp[muS]
 | p :: ps => by
  have ih:=TZ k out out' h ps;unfold muS at ih ⊢;simp only[List.map_cons,List.sum_cons];have:muP out' p≤muP out p:=by
   unfold muP;rw[h]
   cases xL out (keyOf p)<;>cases (k==keyOf p)<;>simp
  omega
theorem jQ (k:Str)(out out':List Str)(h:∀ s,xL out' s=(xL out s||(k==s)))(hk:xL out k=false):∀ (ps:List zh) (p:zh),p∈ps→keyOf p=k→muS ps out'+p.zE.length≤muS ps out
 | [],p,hp,_=>by simp at hp
 | q :: ps, p, hp, e => by
  unfold muS;simp only[List.map_cons,List.sum_cons];rcases List.mem_cons.1 hp with rfl|hp
  · have h1:=TZ k out out' h ps;unfold muS at h1;have:muP out' p=0:=by unfold muP;rw[h,e,beq_self_eq_true,Bool.or_true];rfl
    have h2:muP out p=p.zE.length:=by unfold muP;rw[e,hk];rfl
    omega
  · have h1:=jQ k out out' h hk ps p hp e;unfold muS at h1;have:muP out' q≤muP out q:=by
     unfold muP;rw[h]
     cases xL out (keyOf q)<;>cases (k==keyOf q)<;>simp
    omega
theorem jR:∀ ps:List zh,muS ps []≤zh.yr ps
 | []=>by simp[muS]
 | p :: ps => by
  have ih:=jR ps;unfold muS at ih ⊢;simp only[List.map_cons,List.sum_cons,zh.yr];have:muP [] p≤p.zX:=by
   unfold muP;simp only[xL,List.any_nil,cond_false,zh.zX];omega
  omega
theorem XS {α:Type}(p:α→Bool):∀ (l:List α) (n i:Nat),ur p l n=some i→n≤i∧∃ q,l[i - n]? = some q∧p q=true
 | [],n,i,h=>by cases h
 | x::r,n,i,h=>by
  rw[ur]at h
  split at h
  · rename_i hx
    cases h;exact⟨Nat.le_refl _,x,by simp,hx⟩
  · obtain⟨h1,q,h2,h3⟩:=XS p r (n+1) i h;refine⟨by omega,q,?_,h3⟩;rw[show i - n=(i - (n+1))+1 by omega];simpa using h2
theorem fF {α:Type}{p:α→Bool}{l:List α}{i:Nat}(h:ur p l 0=some i):∃ q,l[i]? = some q∧p q=true:=by
 obtain⟨_,q,h2,h3⟩:=XS p l 0 i h;exact⟨q,by simpa using h2,h3⟩
theorem sw {ps:List zh}{k:Str}{p:zh}(h:uM ps k=some p):p∈ps∧keyOf p=k∧∃ i,ob ps k=some i∧ps[i]? = some p:=by
 unfold uM at h
 split at h
 · rename_i i hi;exact⟨List.mem_of_getElem? h,by
    have:=fF hi;obtain⟨q,h1,h2⟩:=this;rw[h]at h1
    cases h1;simpa using h2,i,hi,h⟩
 · cases h
theorem aI {ps:List zh}{k:Str}(h:uM ps k=none):ob ps k=none:=by
 unfold uM at h
 split at h
 · rename_i i hi;obtain⟨q,h1,h2⟩:=fF hi;rw[h]at h1;cases h1
 · assumption
def we:List Str→Str→Nat
 | [],_=>0
 | x::r,s=>cond (Op.bytesLess x s) (we r s+1) 0
def atS (l:List Str)(s:Str):Bool:=l[we l s]? == some s
theorem kg:∀ (l:List Str) (s:Str),we l s≤l.length
 | [],s=>by simp[we]
 | x::r,s=>by
  have:=kg r s;rw[we]
  cases Op.bytesLess x s with
  | true=>simp only[cond_true,List.length_cons];omega
  | false=>simp
theorem iF:∀ (l:List Str) (s:Str),atS l s=true→xp l s=l
 | [],s,h=>by simp[atS,we]at h
 | x :: r, s, h => by
  unfold atS at h;rw[we]at h;rw[xp]
  cases h1:Op.bytesLess x s with
  | true =>
   rw[h1,cond_true,List.getElem?_cons_succ]at h;simp only[cond_true];rw[iF r s h]
  | false =>
   rw[h1,cond_false]at h;have:x=s:=by simpa using h
   subst this;simp
theorem kC:∀ (l:List Str) (s:Str),atS l s=false→xp l s=l.take (we l s)++s::l.drop (we l s)
 | [],s,h=>by simp[xp,we]
 | x :: r, s, h => by
  unfold atS at h;rw[we]at h ⊢;rw[xp]
  cases h1:Op.bytesLess x s with
  | true =>
   rw[h1,cond_true,List.getElem?_cons_succ]at h;simp only[cond_true,List.take_succ_cons,List.drop_succ_cons,List.cons_append];rw[kC r s h]
  | false =>
   rw[h1,cond_false]at h;have:(x==s)=false:=by simpa using h
   simp[this]
theorem Qu {l:List Str}{s:Str}(h:xL l s=false):atS l s=false:=by
 cases ha:atS l s with
 | false=>rfl
 | true =>
  unfold atS at ha;have:l[we l s]? = some s:=by simpa using ha
  have hm:=List.mem_of_getElem? this;unfold xL at h;rw[List.any_eq_false]at h;exact absurd (by simp) (h s hm)
theorem gT (a v:Str)(hv:(64:UInt8)∉v):∀ n,n≤v.length→o9 64 (a++64::v) (a.length+1+n)=some a.length
 | 0,_=>by simp[o9]
 | n + 1, hn => by
  have e:(a++64::v)[a.length+1+n]? = v[n]? := by
   rw[List.getElem?_append_right (by omega),show a.length+1+n - a.length=n+1 by omega,List.getElem?_cons_succ]
  have ne:¬ (v[n]? = some 64):=fun h=>hv (List.mem_of_getElem? h)
  rw[show a.length+1+(n+1)=(a.length+1+n)+1 by omega,o9,e,if_neg ne];exact gT a v hv n (by omega)
theorem ep (a v:Str)(hv:(64:UInt8)∉v):xx ((a++[64])++v)=(a,v):=by
 have h:=gT a v hv v.length (Nat.le_refl _);unfold xx;rw[show (a++[64])++v=a++64::v by simp,show (a++64::v).length=a.length+1+v.length by simp;omega,h];simp
theorem VW {v:Str}(h:(xB v).isSome=true):(64:UInt8)∉v:=by
 intro hm;have h1:=mT (c:=64) (by decide) hm;rw[aK h1]at h
 cases h
theorem rJ {p:zh}(h:th p=true):xx (keyOf p)=(p.name,p.version):=by
 unfold th at h;simp only[Bool.and_eq_true]at h;exact ep p.name p.version (VW h.2.1)
theorem lb (ps:List zh):∀ (o:Option Str) (l:List zh),vk ps o l=true→∀ p∈l,th p=true∧xX ps none p.zE=true
 | _,[],_,p,hp=>by simp at hp
 | o,q::r,h,p,hp=>by
  rw[vk]at h;simp only[Bool.and_eq_true]at h;rcases List.mem_cons.1 hp with rfl|hp
  · exact⟨h.1.1,h.1.2.2⟩
  · exact lb ps _ r h.2 p hp
theorem jc (ps:List zh):∀ (o:Option Str) (l:List Str),xX ps o l=true→(l.Pairwise fun x y=>Op.bytesLess x y=true)∧(∀ k∈l,Rb ps k=true)∧∀ k∈l,uO o k=true
 | o,[],_=>by simp
 | o, k :: r, h => by
  rw[xX]at h;simp only[Bool.and_eq_true]at h;obtain⟨h1,h2,h3⟩:=jc ps (some k) r h.2;refine⟨List.pairwise_cons.2 ⟨fun y hy=>h3 y hy,h1⟩,fun y hy=>?_,fun y hy=>?_⟩
  · rcases List.mem_cons.1 hy with rfl|hy
    · exact h.1.1
    · exact h2 y hy
  · rcases List.mem_cons.1 hy with rfl|hy
    · exact h.1.2
    · cases o with
      | none=>rfl
      | some q=>exact vz h.1.2 (h3 y hy)
def ql (ns:List zu)(r:Str):Bool:=ns.any fun n=>afT n (xx r).1 (xx r).2
def blS (ns:List zu)(k:Str):List Str→List Str→List Str
 | [],acc=>acc
 | r::rs,acc=>blS ns k rs (cond (ql ns r) (xp acc k) acc)
theorem jy:∀ (l:List Str) (s:Str),xp (xp l s) s=xp l s
 | [],s=>by simp[xp,wj]
 | x :: r, s => by
  rw[xp]
  cases h1:Op.bytesLess x s with
  | true=>simp only[cond_true];rw[xp,h1,cond_true,jy r s]
  | false =>
   simp only[cond_false]
   cases h2:(x==s) with
   | true=>simp only[cond_true];rw[xp,h1,cond_false,h2,cond_true]
   | false=>simp only[cond_false];rw[xp,wj,cond_false,beq_self_eq_true,cond_true]
theorem dV (ns:List zu)(k:Str):∀ (rs acc:List Str),blS ns k rs acc=cond (rs.any (ql ns)) (xp acc k) acc
 | [],acc=>rfl
 | r :: rs, acc => by
  rw[blS,List.any_cons]
  cases h:ql ns r with
  | true =>
   rw[cond_true,dV ns k rs,Bool.true_or,cond_true,jy]
   cases rs.any (ql ns)<;>rfl
  | false=>rw[cond_false,dV ns k rs,Bool.false_or]
theorem Zk:∀ (l:List Str) (s:Str),(∀ x∈l,Op.bytesLess x s=true)→xp l s=l++[s]
 | [],s,_=>rfl
 | x::r,s,h=>by
  rw[xp,h x (by simp),cond_true,Zk r s (fun y hy=>h y (by simp[hy]))];rfl
def xb (ps:List zh)(w:List Str):List Str:=yB xp ps (w.length+muS ps []) [] w
def Ra (ps:List zh)(ns:List zu)(k:Str):Bool:=(xb ps [k]).any (ql ns)
def blR (ps:List zh)(ns:List zu):List Str→List Str→List Str
 | [],acc=>acc
 | k::ks,acc=>blR ps ns ks (blS ns k (xb ps [k]) acc)
theorem Yv (ps:List zh)(ns:List zu):∀ (ks acc:List Str),(ks.Pairwise fun x y=>Op.bytesLess x y=true)→(∀ x∈acc,∀ y∈ks,Op.bytesLess x y=true)→blR ps ns ks acc=acc++ks.filter (Ra ps ns)
 | [],acc,_,_=>by simp[blR]
 | k :: ks, acc, h, ha => by
  obtain⟨h1,h2⟩:=List.pairwise_cons.1 h;rw[blR,dV,List.filter_cons,show (xb ps [k]).any (ql ns)=Ra ps ns k from rfl]
  cases hk:Ra ps ns k with
  | true =>
   rw[cond_true,Zk acc k (fun x hx=>ha x hx k (by simp)),Yv ps ns ks _ h2 (fun x hx y hy=>?_)]
   · simp
   · rcases List.mem_append.1 hx with hx|hx
     · exact ha x hx y (by simp[hy])
     · have:x=k:=by simpa using hx
       subst this;exact h1 y hy
  | false =>
   rw[cond_false,Yv ps ns ks _ h2 (fun x hx y hy=>ha x hx y (by simp[hy]))];simp
def Sz (g:zB)(ns:List zu):List Str:=g.top.filter (Ra g.packs ns)
theorem lA {g:zB}(h:yj g=true):(g.top.Pairwise fun x y=>Op.bytesLess x y=true)∧∀ k∈g.top,Rb g.packs k=true:=by
 unfold yj at h;simp only[Bool.and_eq_true]at h;obtain⟨h1,h2,_⟩:=jc g.packs none g.top h.2.2;exact⟨h1,h2⟩
theorem tF {g:zB}(h:yj g=true):∀ p∈g.packs,th p=true∧xX g.packs none p.zE=true:=by
 unfold yj at h;simp only[Bool.and_eq_true]at h;exact lb g.packs none g.packs h.1
theorem VM {g:zB}(ns:List zu)(h:yj g=true):blR g.packs ns g.top []=Sz g ns:=by
 rw[Yv g.packs ns g.top [] (lA h).1 (fun x hx=>by simp at hx)];rfl
theorem oR (add:List Str→Str→List Str)(hadd:∀ l s y,y∈add l s→y∈l∨y=s)(ps:List zh):∀ (n:Nat) (out w:List Str),(∀ k∈out,∃ p,uM ps k=some p)→∀ k∈yB add ps n out w,∃ p,uM ps k=some p
 | 0,out,w,h,k,hk=>h k hk
 | n+1,out,[],h,k,hk=>h k hk
 | n + 1, out, a :: w, h, k, hk => by
  rw[yB]at hk
  cases hf:uM ps a with
  | none=>rw[hf]at hk;exact oR add hadd ps n out w h k hk
  | some p =>
   rw[hf]at hk;simp only at hk
   cases hc:xL out a with
   | true=>rw[hc,cond_true]at hk;exact oR add hadd ps n out w h k hk
   | false =>
    rw[hc,cond_false]at hk;exact oR add hadd ps n (add out a) _ (fun y hy=>by
     rcases hadd out a y hy with hy|rfl
     · exact h y hy
     · exact⟨p,hf⟩) k hk
theorem mb (ps:List zh)(w:List Str):∀ k∈xb ps w,∃ p,uM ps k=some p :=
 oR xp iG ps _ [] w (by simp)
def tN (ps:List zh)(out:List Str):Nat:=ps.countP fun p=>!(xL out (keyOf p))
theorem bV (k:Str)(out out':List Str)(h:∀ s,xL out' s=(xL out s||(k==s))):∀ ps:List zh,tN ps out'≤tN ps out
 | []=>by simp[tN]
 | p::ps=>by
  have ih:=bV k out out' h ps;unfold tN at ih ⊢;simp only[List.countP_cons];rw[h (keyOf p)]
  cases xL out (keyOf p)<;>cases (k==keyOf p)<;>simp<;>omega
theorem sU (k:Str)(out out':List Str)(h:∀ s,xL out' s=(xL out s||(k==s)))(hk:xL out k=false):∀ (ps:List zh) (p:zh),p∈ps→keyOf p=k→tN ps out'+1≤tN ps out
 | [],p,hp,_=>by simp at hp
 | q::ps,p,hp,e=>by
  rcases List.mem_cons.1 hp with rfl|hp
  · have h1:=bV k out out' h ps;unfold tN at h1 ⊢;simp only[List.countP_cons];rw[h (keyOf p),e,hk,beq_self_eq_true];simp;omega
  · have h1:=sU k out out' h hk ps p hp e;unfold tN at h1 ⊢;simp only[List.countP_cons];rw[h (keyOf q)]
    cases xL out (keyOf q)<;>cases (k==keyOf q)<;>simp<;>omega
theorem iw:∀ (l:List Str) (k s:Str),xL (xp l k) s=(xL l s||(k==s))
 | [],k,s=>by simp[xp,xL]
 | x :: r, k, s => by
  have ih:=iw r k s;unfold xL at ih ⊢;rw[xp]
  cases h1:Op.bytesLess x k with
  | true=>simp only[cond_true,List.any_cons,ih,Bool.or_assoc]
  | false =>
   simp only[cond_false]
   cases h2:(x==k) with
   | true =>
    have:x=k:=by simpa using h2
    subst this;simp only[cond_true,List.any_cons]
    cases (x==s)<;>simp
   | false =>
    simp only[cond_false,List.any_cons]
    cases (k==s)<;>cases (x==s)<;>simp
theorem xj {l:List Str}{i:Nat}{s:Str}(h:l[i]? = some s):(strs l)[i]? = some [.str s]:=by simp[strs,h]
theorem PA (l:List Str)(hl:l.length≤1048576)(s:Str):∀ (rest pre:List Str),l=pre++rest →
 EV prog pol (.loop 148 26 0 [.t (.list 1 (strs l)),.t (.str s),.t (.int .i64 (pre.length:Int))] [])=some (cond (xL rest s) (.loop .ret [.t (.bool true)] []) (.loop (.exit 0) [.bad] []))
 | [],pre,h=>by
  have c:decide ((pre.length:Int)<(l.length:Int))=false:=by simp[h]
  rw[show xL [] s=false from rfl,cond_false];refine zj func148 rfl rfl ?_;simp (disch:=(try simp only[LL]);omega) only[↓GO,↓DRW,GA,GX,ren,zk,za,refs,z8,cst,zo,isC,bin,una,z7,zd,blt,asArg,zg,zc,zf,z6,zr,unN,ze,zm,zb,GS,simprocAttr,GZ,c,zn,zA]
 | x :: rest, pre, h => by
  have c:decide ((pre.length:Int)<(l.length:Int))=true:=by simp[h];omega
  have hget:(strs l)[pre.length]? = some [.str x]:=xj (by rw[h];simp);have hlen:pre.length+rest.length+1≤l.length:=by rw[h];simp;omega
  have IH:=PA l hl s rest (pre++[x]) (by rw[h];simp);rw[show ((pre++[x]).length:Int)=(pre.length:Int)+1 by simp]at IH;rw[show xL (x::rest) s=((x==s)||xL rest s) from rfl];clear h
  cases q:(x==s) with
  | true =>
   simp only[Bool.true_or,cond_true];refine zj func148 rfl rfl ?_;simp (disch:=(try simp only[LL]);omega) only[↓GO,↓DRW,GA,GX,ren,zk,za,refs,z8,cst,zo,isC,bin,una,z7,zd,blt,asArg,zg,zc,zf,z6,zr,unN,ze,zm,zb,GS,simprocAttr,GZ,c,hget,zn,q,zi,zA]
  | false =>
   simp only[Bool.false_or];refine zj func148 rfl rfl ?_;simp (disch:=(try simp only[LL]);omega) only[↓GO,↓DRW,GA,GX,ren,zk,za,refs,z8,cst,zo,isC,bin,una,z7,zd,blt,asArg,zg,zc,zf,z6,zr,unN,ze,zm,zb,GS,simprocAttr,GZ,c,hget,zn,q,zi,zA,IH]
theorem c_has (l:List Str)(hl:l.length≤1048576)(s:Str):zy (EV prog pol) 148 [.t (.list 1 (strs l)),.t (.str s)]=some (.t (.bool (xL l s))):=by
 have L:=PA l hl s l [] rfl;simp only[List.length_nil,Int.natCast_zero]at L
 cases q:xL l s<;>rw[q]at L<;>simp only[cond_true,cond_false]at L
 all_goals
  apply zw;refine zx rfl func148 rfl (by kernel_rfl) ?_;unfold Tryz.f148;simp (disch:=(try simp only[LL]);omega) only[↓GO,↓DRW,GA,GX,ren,zk,za,refs,z8,cst,zo,isC,bin,una,z7,zd,blt,asArg,zg,zc,zf,z6,zr,unN,ze,zm,zb,GS,simprocAttr,GZ,L,zn,zA]
theorem R0 (l:List Str)(hl:l.length≤1073741824)(s:Str)(n:Nat)(hn:n=l.length)(cap:Option Nat):∀ (rest pre:List Str),l=pre++rest →
 EV prog pol (.loop 120 28 1 [.sl 0 0 n cap,.t (.str s),.t (.int .i64 (pre.length:Int))] [.ts 1 (strs l)])=some (.loop (.exit 0) [.sl 0 0 n cap,.t (.str s),.t (.int .i64 ((pre.length+we rest s:Nat):Int))] [.ts 1 (strs l)])
 | [],pre,h=>by
  have c:decide ((pre.length:Int)<(n:Int))=false:=by simp[hn,h]
  rw[show we [] s=0 from rfl,Nat.add_zero];refine zj func120 rfl rfl ?_;simp (disch:=(try simp only[LL]);omega) only[↓GO,↓DRW,GA,GX,ren,zk,za,refs,z8,cst,zo,isC,bin,una,z7,zd,blt,asArg,zg,zc,zf,z6,zr,unN,ze,zm,zb,GS,simprocAttr,GZ,c,zA]
 | x :: rest, pre, h => by
  have c:decide ((pre.length:Int)<(n:Int))=true:=by simp[hn,h];omega
  have c0:decide ((0:Int)≤(pre.length:Int))=true:=by simp
  have hget:(strs l)[pre.length]? = some [.str x]:=xj (by rw[h];simp);have hlen:pre.length+rest.length+1≤l.length:=by rw[h];simp;omega
  have IH:=R0 l hl s n hn cap rest (pre++[x]) (by rw[h];simp);rw[show ((pre++[x]).length:Int)=(pre.length:Int)+1 by simp,show (pre++[x]).length+we rest s=pre.length+(we rest s+1) by simp;omega]at IH;rw[we];clear h
  cases q:Op.bytesLess x s with
  | true =>
   simp only[cond_true];refine zj func120 rfl rfl ?_;simp (disch:=(try simp only[LL]);omega) only[↓GO,↓DRW,GA,GX,ren,zk,za,refs,z8,cst,zo,isC,bin,una,z7,zd,blt,asArg,zg,zc,zf,z6,zr,unN,ze,zm,zb,GS,simprocAttr,GZ,c,c0,hget,q,zi,zA,IH]
  | false =>
   simp only[cond_false,Nat.add_zero];refine zj func120 rfl rfl ?_;simp (disch:=(try simp only[LL]);omega) only[↓GO,↓DRW,GA,GX,ren,zk,za,refs,z8,cst,zo,isC,bin,una,z7,zd,blt,asArg,zg,zc,zf,z6,zr,unN,ze,zm,zb,GS,simprocAttr,GZ,c,c0,hget,q,zi,zA]
theorem OS (l:List Str)(hl:l.length≤1073741824)(s:Str)(n:Nat)(hn:n=l.length)(cap:Option Nat)(h:atS l s=true):EV prog pol (.callO false 120 [.sl 0 0 n cap,.t (.str s)] [.ts 1 (strs l)])=some (.call (.sl 0 0 n cap) [.ts 1 (strs l)]):=by
 have L:=R0 l hl s n hn cap l [] rfl;simp only[List.length_nil,Int.natCast_zero,Nat.zero_add]at L;unfold atS at h;have hat:l[we l s]? = some s:=by simpa using h
 have hget:=xj hat;have hlt:we l s<l.length:=(List.getElem?_eq_some_iff.1 hat).1;have c:decide (((we l s:Nat):Int)<(n:Int))=true:=by rw[hn];simpa using hlt
 have c0:decide ((0:Int)≤((we l s:Nat):Int))=true:=by simp
 clear h hat;generalize we l s=p at *;refine zM func120 rfl (by kernel_rfl) ?_;unfold Tryz.f120;simp (disch:=(try simp only[LL]);omega) only[↓GO,↓DRW,GA,GX,ren,zk,za,refs,z8,cst,zo,isC,bin,una,z7,zd,blt,asArg,zg,zc,zf,z6,zr,unN,ze,zm,zb,GS,simprocAttr,GZ,L,c,c0,hget,beq_self_eq_true,zA]
theorem Sx (l:List Str)(hl:l.length≤1073741824)(s:Str)(n:Nat)(hn:n=l.length)(cap:Option Nat)(h:atS l s=false):EV prog pol (.callO false 120 [.sl 0 0 n cap,.t (.str s)] [.ts 1 (strs l)])=some (.call (.sl 1 0 (n+1) none) [.ts 1 (strs l),.ts 1 (strs (xp l s))]):=by
 have L:=R0 l hl s n hn cap l [] rfl;simp only[List.length_nil,Int.natCast_zero,Nat.zero_add]at L;rw[kC l s h];have hp:=kg l s;unfold atS at h;have c0:decide ((0:Int)≤((we l s:Nat):Int))=true:=by simp
 have hsl:(strs l).length=n:=by rw[zn,hn]
 have e:strs (l.take (we l s)++s::l.drop (we l s))=((strs l).take (we l s)++[[.str s]])++(strs l).drop (we l s):=by simp[strs]
 rw[e];have hA1:((strs l).take (we l s)).length=we l s:=by rw[List.length_take,hsl];omega
 have hB0:((strs l).drop (we l s)).take (n - we l s)=(strs l).drop (we l s):=List.take_of_length_le (by rw[List.length_drop,hsl];omega);have hB1:((strs l).drop (we l s)).length=n - we l s:=by rw[List.length_drop,hsl]
 have hE:we l s+1+(n - we l s)=n+1:=by omega
 rw[← hn]at hp;have hnl:n≤1073741824:=by omega
 cases hx:l[we l s]? with
 | none =>
  have hlt:l.length≤we l s:=List.getElem?_eq_none_iff.1 hx;have c:decide (((we l s:Nat):Int)<(n:Int))=false:=by rw[hn];simpa using hlt
  clear h hx e;generalize we l s=p at *;generalize hA:(strs l).take p=A at *;generalize hB:(strs l).drop p=B at *;have hC:(A++[[T.str s]]).length=p+1:=by simp[hA1]
  refine zM func120 rfl (by kernel_rfl) ?_;unfold Tryz.f120;simp (disch:=(try simp only[LL]);omega) only[↓GO,↓DRW,GA,GX,ren,zk,za,refs,z8,cst,zo,isC,bin,una,z7,zd,blt,asArg,zg,zc,zf,z6,zr,unN,ze,zm,zb,GS,simprocAttr,GZ,L,c,c0,hsl,Nat.sub_zero,hA,hA1,hC,hB,hB0,hB1,hE,List.nil_append,Nat.zero_add,zA,yf];refine zR (by kernel_rfl) ?_;rfl
 | some x =>
  rw[hx]at h;have q:(x==s)=false:=by simpa using h
  have hget:=xj hx;have hlt:we l s<l.length:=(List.getElem?_eq_some_iff.1 hx).1;have c:decide (((we l s:Nat):Int)<(n:Int))=true:=by rw[hn];simpa using hlt
  clear h hx e;generalize we l s=p at *;generalize hA:(strs l).take p=A at *;generalize hB:(strs l).drop p=B at *;have hC:(A++[[T.str s]]).length=p+1:=by simp[hA1]
  refine zM func120 rfl (by kernel_rfl) ?_;unfold Tryz.f120;simp (disch:=(try simp only[LL]);omega) only[↓GO,↓DRW,GA,GX,ren,zk,za,refs,z8,cst,zo,isC,bin,una,z7,zd,blt,asArg,zg,zc,zf,z6,zr,unN,ze,zm,zb,GS,simprocAttr,GZ,L,c,c0,hget,q,hsl,Nat.sub_zero,hA,hA1,hC,hB,hB0,hB1,hE,List.nil_append,Nat.zero_add,zA,yf];refine zR (by kernel_rfl) ?_;rfl
theorem Xy (k:Str):∀ (r:List Str) (i:Nat),decide (ixS k i r≥0)=xL r k
 | [],i=>rfl
 | x::r,i=>by
  rw[ixS,show xL (x::r) k=((x==k)||xL r k) from rfl]
  cases (x==k) with
  | true=>simp
  | false=>simp only[cond_false,Bool.false_or];exact Xy k r (i+1)
theorem c_con (l:List Str)(hl:l.length≤1048576)(s:Str):zy (EV prog pol) 138 [.t (.list 1 (strs l)),.t (.str s)]=some (.t (.bool (xL l s))):=by
 have h1:=c_ix s l hl;have h2:=Xy s l 0;apply zw;refine zx rfl func138 rfl (by kernel_rfl) ?_;unfold Tryz.f138;simp (disch:=(try simp only[LL]);omega) only[↓GO,↓DRW,GA,GX,ren,zk,za,refs,z8,cst,zo,isC,bin,una,z7,zd,blt,asArg,zg,zc,zf,z6,zr,unN,ze,zm,zb,GS,simprocAttr,GZ,h1,h2,zA]
structure Cmp {α:Type} (p:α→Prop) (c:α→α→Int):Prop where
 anti:∀ x y,p x→p y→c y x = - c x y
 trans:∀ x y z,p x→p y→p z→c x y<0→c y z<0→c x z<0
 sep:∀ x y,p x→p y→c x y=0→x=y
theorem Cmp.refl {α:Type}{p:α→Prop}{c:α→α→Int}(h:Cmp p c){x:α}(hx:p x):c x x=0:=by
 have:=h.anti x x hx hx;omega
theorem Cmp.PL {α β:Type}{p:β→Prop}{c:β→β→Int}(h:Cmp p c)(f:α→β)(q:α→Prop)(hp:∀ x,q x→p (f x))(hi:∀ x y,q x→q y→f x=f y→x=y):Cmp q fun x y=>c (f x) (f y) :=
 ⟨fun x y hx hy=>h.anti _ _ (hp x hx) (hp y hy),fun x y z hx hy hz=>h.trans _ _ _ (hp x hx) (hp y hy) (hp z hz),fun x y hx hy e=>hi x y hx hy (h.sep _ _ (hp x hx) (hp y hy) e)⟩
theorem Cmp.lex {α β:Type}{p:α→Prop}{q:β→Prop}{c:α→α→Int}{d:β→β→Int}(h:Cmp p c)(k:Cmp q d):Cmp (fun x:α×β=>p x.1∧q x.2) fun x y=>cond (c x.1 y.1==0) (d x.2 y.2) (c x.1 y.1):=by
 refine⟨fun x y hx hy=>?_,fun x y z hx hy hz h1 h2=>?_,fun x y hx hy e=>?_⟩
 · have ha:=h.anti x.1 y.1 hx.1 hy.1
   cases hc:(c x.1 y.1==0) with
   | true =>
    have h0:c x.1 y.1=0:=by simpa using hc
    rw[ha,h0,show ((-0:Int)==0)=true from rfl,cond_true,cond_true];exact k.anti _ _ hx.2 hy.2
   | false =>
    have h0:c x.1 y.1≠0:=by simpa using hc
    have h1:(c y.1 x.1==0)=false:=by rw[beq_eq_false_iff_ne,ha];omega
    rw[h1,cond_false,cond_false,ha]
 · cases hxy:(c x.1 y.1==0) with
   | true =>
    have e1:=h.sep _ _ hx.1 hy.1 (by simpa using hxy);rw[hxy,cond_true]at h1;rw[e1]
    cases hyz:(c y.1 z.1==0) with
    | true=>rw[hyz,cond_true]at h2;rw[cond_true];exact k.trans _ _ _ hx.2 hy.2 hz.2 h1 h2
    | false=>rw[hyz,cond_false]at h2;rw[cond_false];exact h2
   | false =>
    rw[hxy,cond_false]at h1
    cases hyz:(c y.1 z.1==0) with
    | true =>
     have e1:=h.sep _ _ hy.1 hz.1 (by simpa using hyz);rw[← e1,hxy,cond_false];exact h1
    | false =>
     rw[hyz,cond_false]at h2;have h3:=h.trans _ _ _ hx.1 hy.1 hz.1 h1 h2;have:(c x.1 z.1==0)=false:=by rw[beq_eq_false_iff_ne];omega
     rw[this,cond_false];exact h3
 · cases hc:(c x.1 y.1==0) with
   | true =>
    rw[hc,cond_true]at e;have e1:=h.sep _ _ hx.1 hy.1 (by simpa using hc);have e2:=k.sep _ _ hx.2 hy.2 e;exact Prod.ext e1 e2
   | false=>rw[hc,cond_false]at e;rw[e]at hc;cases hc
theorem tK {a b:Int}:xg a b<0↔a<b:=by
 unfold xg
 by_cases h1:a<b
 · simp[h1]
 · by_cases h2:b<a
   · simp[h1,h2]
   · simp[h1,h2]
theorem sf (a b:Int):xg b a = - xg a b:=by
 unfold xg
 by_cases h1:a<b
 · have h2:¬ b<a:=by omega
   simp[h1,h2]
 · by_cases h2:b<a
   · simp[h1,h2]
   · simp[h1,h2]
theorem wU:Cmp (fun _=>True) xg :=
 ⟨fun x y _ _=>sf x y,fun x y z _ _ _ h1 h2=>by rw[tK]at *;omega,fun x y _ _ e=>by have:=uK x y;rw[e]at this;simpa using this.symm⟩
theorem Qy {a b:Str}:pD a b<0↔Op.bytesLess a b=true:=by
 unfold pD
 cases Op.bytesLess a b with
 | true=>simp
 | false=>cases (a==b)<;>simp
theorem mC:Cmp (fun _=>True) pD:=by
 refine⟨fun x y _ _=>?_,fun x y z _ _ _ h1 h2=>?_,fun x y _ _ e=>?_⟩
 · unfold pD
   cases h1:Op.bytesLess x y with
   | true =>
    have h2:Op.bytesLess y x=false:=by
     cases h:Op.bytesLess y x with
     | false=>rfl
     | true=>have:=vz h1 h;rw[wj]at this;cases this
    have h3:(y==x)=false:=by
     rw[beq_eq_false_iff_ne];intro e;subst e;rw[wj]at h1;cases h1
    rw[h2,h3];rfl
   | false =>
    cases h2:Op.bytesLess y x with
    | true =>
     have h3:(x==y)=false:=by
      rw[beq_eq_false_iff_ne];intro e;subst e;rw[wj]at h2;cases h2
     rw[h3];rfl
    | false =>
     have:=jT h1 h2;subst this;simp
 · rw[Qy]at *;exact vz h1 h2
 · unfold pD at e
   cases h1:Op.bytesLess x y with
   | true=>rw[h1]at e;cases e
   | false =>
    rw[h1]at e
    cases h2:(x==y) with
    | true=>simpa using h2
    | false=>rw[h2]at e;cases e
theorem se:Cmp (fun _=>True) tJ:=by
 have inj:∀ {x y:Str},0≤zz x→zz x=zz y→x=y:=fun {x y} h e=>by
  have h1:=(xy h).2.1;have h2:=(xy (s:=y) (by rw[← e];exact h)).2.1;rw[← h1,← h2,e]
 refine⟨fun x y _ _=>?_,fun x y z _ _ _ h1 h2=>?_,fun x y _ _ e=>?_⟩
 · unfold tJ
   cases decide (zz x≥0)<;>cases decide (zz y≥0)<;>simp only[Bool.and_true,Bool.and_false,Bool.true_and,Bool.false_and,cond_true,cond_false]
   all_goals first|exact mC.anti x y trivial trivial|exact sf _ _|rfl
 · unfold tJ at *
   cases hx:decide (zz x≥0)<;>cases hy:decide (zz y≥0)<;>cases hz:decide (zz z≥0)<;>simp only[hx,hy,hz,Bool.and_true,Bool.and_false,Bool.true_and,Bool.false_and,cond_true,cond_false]at *
   all_goals first|exact mC.trans x y z trivial trivial trivial h1 h2|exact wU.trans _ _ _ trivial trivial trivial h1 h2|omega
 · unfold tJ at e
   cases hx:decide (zz x≥0)<;>cases hy:decide (zz y≥0)<;>simp only[hx,hy,Bool.and_true,Bool.and_false,Bool.true_and,Bool.false_and,cond_true,cond_false]at e
   all_goals try omega
   · exact mC.sep x y trivial trivial e
   · exact inj (of_decide_eq_true hx) (wU.sep _ _ trivial trivial e)
theorem sX (a b:Str)(l m:List Str):uo (a::l) (b::m)=cond (tJ a b==0) (uo l m) (tJ a b):=by
 unfold uo;rw[tM]
 cases (tJ a b==0) with
 | true =>
  simp only[cond_true,List.length_cons]
  cases tM l m with
  | some x=>rfl
  | none =>
   simp only[Option.getD_none];unfold xg;rw[show decide (((l.length+1:Nat):Int)<((m.length+1:Nat):Int))=decide ((l.length:Int)<(m.length:Int)) by rw[Bool.eq_iff_iff];simp,
    show decide (((l.length+1:Nat):Int) > ((m.length+1:Nat):Int))=decide ((l.length:Int) > (m.length:Int)) by rw[Bool.eq_iff_iff];simp]
 | false=>rfl
theorem qG (m:List Str):uo [] m=xg 0 (m.length:Int):=by unfold uo tM;rfl
theorem vY (l:List Str):uo l []=xg (l.length:Int) 0:=by unfold uo tM;cases l<;>rfl
theorem ju:∀ l m:List Str,uo m l = - uo l m
 | [],m=>by rw[qG,vY];exact sf _ _
 | a::l,[]=>by rw[qG,vY];exact sf _ _
 | a :: l, b :: m => by
  have h:=se.anti a b trivial trivial;rw[sX,sX]
  cases hc:(tJ a b==0) with
  | true =>
   have h0:tJ a b=0:=by simpa using hc
   rw[h,h0,show ((-0:Int)==0)=true from rfl,cond_true,cond_true];exact ju l m
  | false =>
   have h0:tJ a b≠0:=by simpa using hc
   have h1:(tJ b a==0)=false:=by rw[beq_eq_false_iff_ne,h];omega
   rw[h1,cond_false,cond_false,h]
theorem fU:∀ l m:List Str,uo l m=0→l=m
 | [],m,e=>by
  rw[qG]at e;have:=wU.sep _ _ trivial trivial e
  cases m with
  | nil=>rfl
  | cons b m=>simp at this;omega
 | a::l,[],e=>by
  rw[vY]at e;have:=wU.sep _ _ trivial trivial e;simp at this;omega
 | a :: l, b :: m, e => by
  rw[sX]at e
  cases hc:(tJ a b==0) with
  | true =>
   rw[hc,cond_true]at e;rw[se.sep a b trivial trivial (by simpa using hc),fU l m e]
  | false=>rw[hc,cond_false]at e;rw[e]at hc;cases hc
theorem lL:∀ l m k:List Str,uo l m<0→uo m k<0→uo l k<0
 | [],[],k,h1,h2=>h2
 | [],b::m,[],h1,h2=>by rw[vY,tK]at h2;simp at h2;omega
 | [],b::m,c::k,h1,h2=>by rw[qG,tK];simp
 | a::l,[],k,h1,h2=>by rw[vY,tK]at h1;simp at h1;omega
 | a::l,b::m,[],h1,h2=>by rw[vY,tK]at h2;simp at h2;omega
 | a :: l, b :: m, c :: k, h1, h2 => by
  rw[sX]at *
  cases hxy:(tJ a b==0) with
  | true =>
   have e1:=se.sep a b trivial trivial (by simpa using hxy);subst e1;rw[hxy,cond_true]at h1
   cases hyz:(tJ a c==0) with
   | true=>rw[hyz,cond_true]at h2;rw[cond_true];exact lL l m k h1 h2
   | false=>rw[hyz,cond_false]at h2;rw[cond_false];exact h2
  | false =>
   rw[hxy,cond_false]at h1
   cases hyz:(tJ b c==0) with
   | true =>
    have e1:=se.sep b c trivial trivial (by simpa using hyz);subst e1;rw[hxy,cond_false];exact h1
   | false =>
    rw[hyz,cond_false]at h2;have h3:=se.trans a b c trivial trivial trivial h1 h2;have:(tJ a c==0)=false:=by rw[beq_eq_false_iff_ne];omega
    rw[this,cond_false];exact h3
def WK (a b:List Str):Int:=cond (a==[]||b==[]) (xg (b.length:Int) (a.length:Int)) (uo a b)
theorem ZV:Cmp (fun _=>True) WK:=by
 refine⟨fun x y _ _=>?_,fun x y z _ _ _ h1 h2=>?_,fun x y _ _ e=>?_⟩
 · unfold WK;rw[Bool.or_comm]
   cases (x==[]||y==[]) with
   | true=>exact sf _ _
   | false=>exact ju x y
 · unfold WK at *
   cases x with
   | nil =>
    simp only[beq_self_eq_true,Bool.true_or,cond_true,tK,List.length_nil]at h1;omega
   | cons a x =>
    cases y with
    | nil =>
     simp only[beq_self_eq_true,Bool.true_or,cond_true,tK,List.length_nil]at h2;omega
    | cons b y =>
     cases z with
     | nil =>
      simp only[beq_self_eq_true,Bool.or_true,cond_true,tK,List.length_nil,List.length_cons];omega
     | cons c z =>
      rw[show ((a::x==[])||(b::y==[]))=false from rfl,cond_false]at h1;rw[show ((b::y==[])||(c::z==[]))=false from rfl,cond_false]at h2;rw[show ((a::x==[])||(c::z==[]))=false from rfl,cond_false];exact lL _ _ _ h1 h2
 · unfold WK at e
   cases x with
   | nil =>
    simp only[beq_self_eq_true,Bool.true_or,cond_true,List.length_nil]at e;have:=wU.sep _ _ trivial trivial e
    cases y with
    | nil=>rfl
    | cons b y=>simp at this;omega
   | cons a x =>
    cases y with
    | nil =>
     simp only[beq_self_eq_true,Bool.or_true,cond_true,List.length_nil]at e;have:=wU.sep _ _ trivial trivial e;simp at this;omega
    | cons b y =>
     rw[show ((a::x==[])||(b::y==[]))=false from rfl,cond_false]at e;exact fU _ _ e
theorem Vy:Cmp (fun _=>True) tY:=by
 have h:=(wU.lex (wU.lex (wU.lex ZV))).PL (fun v:Ver=>(v.maj,v.min,v.pat,v.pre)) (fun _=>True) (fun _ _=>⟨trivial,trivial,trivial,trivial⟩) (fun x y _ _ e=>by
  obtain⟨a,b,c,d⟩:=x;obtain⟨a',b',c',d'⟩:=y;simp only[Prod.mk.injEq]at e;obtain⟨rfl,rfl,rfl,rfl⟩:=e;rfl)
 exact h
def wg (s t:Str):Int:=tY (zq s).1 (zq t).1
theorem yA:Cmp (fun s=>isV s=true) wg :=
 Vy.PL (fun s=>(zq s).1) _ (fun _ _=>trivial) fun x y hx hy e=>by
  have h1:=(zZ hx).2.1;have h2:=(zZ hy).2.1;rw[← h1,← h2,e]
def pF (l:List Str):Prop:=l.Pairwise fun x y=>wg x y<0
def en (l:List Str):Prop:=∀ s∈l,isV s=true
theorem pF.uniq:∀ {a b:List Str},en a→en b→pF a→pF b→(∀ s,s∈a↔s∈b)→a=b
 | [],[],_,_,_,_,_=>rfl
 | [],y::b,_,_,_,_,h=>by have:=(h y).2 (by simp);simp at this
 | x::a,[],_,_,_,_,h=>by have:=(h x).1 (by simp);simp at this
 | x :: a, y :: b, va, vb, h1, h2, h => by
  obtain⟨p1,p2⟩:=List.pairwise_cons.1 h1;obtain⟨q1,q2⟩:=List.pairwise_cons.1 h2
  have hxy : x = y := by
   rcases List.mem_cons.1 ((h x).1 (by simp)) with e|m1
   · exact e
   · rcases List.mem_cons.1 ((h y).2 (by simp)) with e|m2
     · exact e.symm
     · have a1:=p1 y m2;have a2:=q1 x m1;have:=yA.anti x y (va x (by simp)) (vb y (by simp));omega
  subst hxy;have hx:=va x (by simp);have hr:=yA.refl hx;rw[pF.uniq (fun s hs=>va s (by simp[hs])) (fun s hs=>vb s (by simp[hs])) p2 q2 fun s=>?_];constructor
  · intro hs;rcases List.mem_cons.1 ((h s).1 (by simp[hs])) with rfl|m
    · have:=p1 s hs;omega
    · exact m
  · intro hs;rcases List.mem_cons.1 ((h s).2 (by simp[hs])) with rfl|m
    · have:=q1 s hs;omega
    · exact m
def w9:List Str→Str→Nat
 | [],_=>0
 | x::r,s=>cond (decide (wg x s≥0)) 0 (w9 r s+1)
def Wm (l:List Str)(s:Str):Bool:=l[w9 l s]? == some s
def rp (l:List Str)(s:Str):List Str:=cond (Wm l s) l (l.take (w9 l s)++s::l.drop (w9 l s))
theorem eT:∀ (l:List Str) (s:Str),w9 l s≤l.length
 | [],s=>by simp[w9]
 | x::r,s=>by
  have:=eT r s;rw[w9]
  cases decide (wg x s≥0) with
  | true=>simp
  | false=>simp only[cond_false,List.length_cons];omega
theorem gZ (x:Str)(r:List Str)(s:Str):rp (x::r) s=cond (decide (wg x s≥0)) (cond (x==s) (x::r) (s::x::r)) (x::rp r s):=by
 unfold rp Wm;rw[w9]
 cases decide (wg x s≥0) with
 | true =>
  simp only[cond_true,List.getElem?_cons_zero,List.take_zero,List.drop_zero,List.nil_append];rfl
 | false =>
  simp only[cond_false,List.getElem?_cons_succ,List.take_succ_cons,List.drop_succ_cons,List.cons_append]
  cases (r[w9 r s]? == some s)<;>rfl
theorem qd:∀ (l:List Str) (s y:Str),y∈rp l s↔y∈l∨y=s
 | [],s,y=>by simp[rp,Wm,w9]
 | x :: r, s, y => by
  rw[gZ]
  cases decide (wg x s≥0) with
  | true =>
   rw[cond_true]
   cases h2:(x==s) with
   | true =>
    have:x=s:=by simpa using h2
    subst this;simp only[cond_true,List.mem_cons];exact⟨fun h=>.inl h,fun h=>h.elim id fun e=>.inl e⟩
   | false =>
    rw[cond_false];simp only[List.mem_cons];constructor
    · rintro (h|h|h)
      · exact .inr h
      · exact .inl (.inl h)
      · exact .inl (.inr h)
    · rintro ((h|h)|h)
      · exact .inr (.inl h)
      · exact .inr (.inr h)
      · exact .inl h
  | false =>
   rw[cond_false];simp only[List.mem_cons,qd r s y,or_assoc]
theorem ae:∀ (l:List Str) (s:Str),en l→isV s=true→pF l→pF (rp l s)
 | [],s,_,_,_=>by simp[rp,Wm,w9,pF]
 | x :: r, s, hv, hs, h => by
  obtain⟨p1,p2⟩:=List.pairwise_cons.1 h;have hx:=hv x (by simp);rw[gZ]
  cases h1:decide (wg x s≥0) with
  | true =>
   rw[cond_true]
   cases h2:(x==s) with
   | true=>exact h
   | false =>
    rw[cond_false];have h3:=of_decide_eq_true h1;have h4:wg x s≠0:=fun e=>by rw[yA.sep x s hx hs e]at h2;simp at h2
    have h5:=yA.anti x s hx hs;refine List.pairwise_cons.2 ⟨fun y hy=>?_,h⟩;rcases List.mem_cons.1 hy with rfl|hy
    · omega
    · exact yA.trans s x y hs hx (hv y (by simp[hy])) (by omega) (p1 y hy)
  | false =>
   rw[cond_false];have h3:=of_decide_eq_false h1;refine List.pairwise_cons.2 ⟨fun y hy=>?_,ae r s (fun z hz=>hv z (by simp[hz])) hs p2⟩;rcases (qd r s y).1 hy with hy|rfl
   · exact p1 y hy
   · omega
def yS:List Str→List Str→List Str
 | out,[]=>out
 | out,s::r=>yS (cond (isV s) (rp out s) out) r
theorem qp:∀ (l out:List Str),en out→pF out→en (yS out l)∧pF (yS out l)∧∀ y,y∈yS out l↔y∈out∨(y∈l∧isV y=true)
 | [],out,h1,h2=>⟨h1,h2,fun y=>by simp[yS]⟩
 | s :: r, out, h1, h2 => by
  rw[yS]
  cases hs:isV s with
  | true =>
   rw[cond_true];obtain⟨k1,k2,k3⟩:=qp r (rp out s) (fun y hy=>by
    rcases (qd out s y).1 hy with hy|rfl
    · exact h1 y hy
    · exact hs) (ae out s h1 hs h2)
   refine⟨k1,k2,fun y=>?_⟩;rw[k3,qd];simp only[List.mem_cons];constructor
   · rintro ((h|rfl)|⟨h,hv⟩)
     · exact .inl h
     · exact .inr ⟨.inl rfl,hs⟩
     · exact .inr ⟨.inr h,hv⟩
   · rintro (h|⟨rfl|h,hv⟩)
     · exact .inl (.inl h)
     · exact .inl (.inr rfl)
     · exact .inr ⟨h,hv⟩
  | false =>
   rw[cond_false];obtain⟨k1,k2,k3⟩:=qp r out h1 h2;refine⟨k1,k2,fun y=>?_⟩;rw[k3];simp only[List.mem_cons];constructor
   · rintro (h|⟨h,hv⟩)
     · exact .inl h
     · exact .inr ⟨.inr h,hv⟩
   · rintro (h|⟨rfl|h,hv⟩)
     · exact .inl h
     · rw[hs]at hv;cases hv
     · exact .inr ⟨h,hv⟩
def rA:List Str→List Str
 | []=>[]
 | [x]=>[x]
 | x::y::r=>cond (x==y) (rA (y::r)) (x::rA (y::r))
theorem qF:∀ (l:List Str) (s:Str),s∈rA l↔s∈l
 | [],s=>Iff.rfl
 | [x],s=>Iff.rfl
 | x :: y :: r, s => by
  rw[rA];have ih:=qF (y::r) s
  cases h:(x==y) with
  | true =>
   have:x=y:=by simpa using h
   subst this;rw[cond_true,ih];simp
  | false=>rw[cond_false,List.mem_cons,ih,List.mem_cons (a:=s) (b:=x)]
theorem fT:∀ (l:List Str),en l→(l.Pairwise fun x y=>wg x y≤0)→pF (rA l)
 | [],_,_=>by simp[rA,pF]
 | [x],_,_=>by simp[rA,pF]
 | x :: y :: r, hv, h => by
  obtain⟨p1,p2⟩:=List.pairwise_cons.1 h;have ih:=fT (y::r) (fun s hs=>hv s (by simp at hs ⊢;right;exact hs)) p2;rw[rA]
  cases hxy:(x==y) with
  | true=>exact ih
  | false =>
   rw[cond_false];refine List.pairwise_cons.2 ⟨fun z hz=>?_,ih⟩;rw[qF]at hz;have hx:=hv x (by simp);have hy:=hv y (by simp);have h1:=p1 y (by simp);have h2:wg x y≠0:=fun e=>by rw[yA.sep x y hx hy e]at hxy;simp at hxy
   rcases List.mem_cons.1 hz with rfl|hz'
   · omega
   · have h3:=(List.pairwise_cons.1 p2).1 z hz';have hzv:=hv z (by simp[hz'])
     by_cases h4:wg y z=0
     · rw[← yA.sep y z hy hzv h4];omega
     · exact yA.trans x y z hx hy hzv (by omega) (by omega)
theorem WZ (l m:List Str)(hp:m.Perm (l.filter isV))(hm:m.Pairwise fun x y=>wg x y≤0):rA m=yS [] l:=by
 obtain⟨k1,k2,k3⟩:=qp l [] (fun s hs=>by simp at hs) (by simp[pF]);have hv:en m:=fun s hs=>by
  have:=hp.mem_iff.1 hs;exact (List.mem_filter.1 this).2
 refine pF.uniq (fun s hs=>hv s ((qF m s).1 hs)) k1 (fT m hv hm) k2 fun s=>?_
 rw[qF,hp.mem_iff,List.mem_filter,k3];simp
structure yt where
 kind:Int
 name:List UInt8
 old:List UInt8
 new:List UInt8
def yt.enc (x:yt):List T:=[.int .i64 x.kind,.str x.name,.str x.old,.str x.new]
def yt.zC (l:List yt):List (List T):=l.map yt.enc
def yt.zX (x:yt):Nat:=x.name.length+x.old.length+x.new.length
def yt.yr:List yt→Nat
 | []=>0
 | c::cs=>yt.zX c+yt.yr cs
def yt.ok (x:yt):Prop:=x.name.length≤9223372036854775807∧x.old.length≤9223372036854775807∧x.new.length≤9223372036854775807
theorem yt.vO (x:yt):x.enc.length=4:=rfl
theorem yt.wN (x:yt):x.enc.take 4=x.enc:=rfl
theorem yt.zF (cs:List yt):(yt.zC cs).length=cs.length:=by simp[yt.zC]
theorem yt.vg (cs:List yt)(i:Nat)(h:i<cs.length):(yt.zC cs)[i]? = some cs[i].enc:=by simp[yt.zC,h]
theorem yt.yE:∀ {cs:List yt} {c:yt},c∈cs→c.zX≤yt.yr cs
 | c'::cs,c,h=>by
  simp only[yt.yr];rcases List.mem_cons.1 h with rfl|h
  · omega
  · have:=yt.yE h;omega
def Ws (l:List Str):Prop:=l.Pairwise fun x y=>Op.bytesLess x y=true
theorem Oj {x y:Str}(h:Op.bytesLess x y=true):Op.bytesLess y x=false:=by
 cases h2:Op.bytesLess y x with
 | false=>rfl
 | true=>have:=vz h h2;rw[wj]at this;cases this
theorem Ws.uniq:∀ {a b:List Str},Ws a→Ws b→(∀ s,s∈a↔s∈b)→a=b
 | [],[],_,_,_=>rfl
 | [],y::b,_,_,h=>by have:=(h y).2 (by simp);simp at this
 | x::a,[],_,_,h=>by have:=(h x).1 (by simp);simp at this
 | x :: a, y :: b, h1, h2, h => by
  obtain⟨p1,p2⟩:=List.pairwise_cons.1 h1;obtain⟨q1,q2⟩:=List.pairwise_cons.1 h2
  have hxy : x = y := by
   rcases List.mem_cons.1 ((h x).1 (by simp)) with e|m1
   · exact e
   · rcases List.mem_cons.1 ((h y).2 (by simp)) with e|m2
     · exact e.symm
     · have a1:=Oj (p1 y m2);have a2:=q1 x m1;rw[a2]at a1;cases a1
  subst hxy;rw[Ws.uniq p2 q2 fun s=>?_];constructor
  · intro hs;rcases List.mem_cons.1 ((h s).1 (by simp[hs])) with rfl|m
    · have:=p1 s hs;rw[wj]at this;cases this
    · exact m
  · intro hs;rcases List.mem_cons.1 ((h s).2 (by simp[hs])) with rfl|m
    · have:=q1 s hs;rw[wj]at this;cases this
    · exact m
def noR (J:List (List V)):Prop:=J.flatMap refs.refss=[]∧(∀ f:Nat→Option Nat,J.map (ren.rens f)=J)∧∀ e∈J,e.length=6
theorem RU {A B:List (List V)}(ha:noR A)(hb:noR B):noR (A++B):=⟨by rw[List.flatMap_append,ha.1,hb.1];rfl,fun f=>by rw[List.map_append,ha.2.1,hb.2.1],fun e he=>(List.mem_append.1 he).elim (ha.2.2 e) (hb.2.2 e)⟩
theorem wE (l:List zh):noR (ocE (zh.zC l)):=⟨oW _,fun f=>kj f _,fun e he=>by
 unfold ocE zh.zC at he;simp only[List.map_map,List.mem_map]at he;obtain⟨x,_,rfl⟩:=he;rfl⟩
theorem Uu {e:List V}{J:List (List V)}(h1:refs.refss e=[])(h2:∀ f,ren.rens f e=e)(h3:e.length=6)(hj:noR J):noR (e::J):=⟨by rw[List.flatMap_cons,h1,hj.1];rfl,fun f=>by rw[List.map_cons,h2,hj.2.1],fun x hx=>by
 rcases List.mem_cons.1 hx with rfl|hx
 · exact h3
 · exact hj.2.2 x hx⟩
theorem Xc:noR []:=⟨rfl,fun _=>rfl,fun e he=>by simp at he⟩
theorem pcons (x:zh)(r:List zh):ocE (zh.zC (x::r))=[V.t (.str x.name),.t (.str x.version),.t (.str x.source),.o (.list 2 (zN.zC x.sums)),.t (.bool x.dev),.o (.list 1 (strs x.zE))]::ocE (zh.zC r):=rfl
theorem jK (a b:List zh):ocE (zh.zC (a++b))=ocE (zh.zC a)++ocE (zh.zC b):=by simp[zh.zC,ocE]
end Go.Proofs.YtefkoljdebekdaaGreatDoor

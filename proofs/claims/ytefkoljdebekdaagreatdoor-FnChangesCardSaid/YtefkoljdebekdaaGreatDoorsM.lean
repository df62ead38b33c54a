/- Joined: J6 J7 J8 J9 J10 J11 B6 V14 K26 K37 K38 J12 J13. Conditions: those of each lemma. -/
import Derived.Test.YtefkoljdebekdaaGreatDoorsK
import Derived.Test.YtefkoljdebekdaaGreatDoorsL
set_option linter.unusedVariables false
set_option linter.unusedSimpArgs false
set_option maxRecDepth 100000
set_option maxHeartbeats 40000000
namespace Go.Proofs.YtefkoljdebekdaaGreatDoor
open Go.Proofs.Tryz
open E
theorem T3 (l:List z8)(hf:∀ p∈l,True):((ocE (z8.zq l)).all fun c=>c.all mvC)=true:=by
 refine List.all_eq_true.2 fun c hc=>?_
 unfold ocE z8.zq at hc;simp only[List.map_map,List.mem_map]at hc;obtain⟨x,_,rfl⟩:=hc;rfl
theorem Ru (n k:Nat)(cap0 cap:Option Nat)(p:z8)(hp0:p.zB=[])(hpb:p.y0≤1048576)(hk:k=p.sums.length)(l:List z8)(hn:n=l.length)(hl:l.length≤1048576)(hb:∀ x∈l,x.y0≤1048576):∀ (rest pre:List z8),l=pre++rest →
 (EV prog pol (.loop 196 28 2 [.ptr 2 0 0,.ptr 3 0 0,.ptr 4 0 0,.t (.int .i64 (pre.length:Int))] [.vs 6 (ocE (z8.zq l)),.ts 2 (zH.zq p.sums),.vs 2 [[.nil 1,.sl 0 0 n cap0]],.vs 6 [[.t (.str p.name),.t (.str p.version),.t (.str p.source),.sl 1 0 k cap,.t (.bool p.dev),.nil 1]],.vs 2 [zG]])
  = some (.loop (.exit 0) [.ptr 2 0 0,.ptr 3 0 0,.ptr 4 0 0,.t (.int .i64 (n:Int))] [.vs 6 (ocE (z8.zq l)),.ts 2 (zH.zq p.sums),.vs 2 [[.nil 1,.sl 0 0 n cap0]],.vs 6 [[.t (.str p.name),.t (.str p.version),.t (.str p.source),.sl 1 0 k cap,.t (.bool p.dev),.nil 1]],.vs 2 [zG]])) ∨
 ∃ (a b : List z8) (x : z8), l = a ++ x :: b ∧
  EV prog pol (.loop 196 28 2 [.ptr 2 0 0,.ptr 3 0 0,.ptr 4 0 0,.t (.int .i64 (pre.length:Int))] [.vs 6 (ocE (z8.zq l)),.ts 2 (zH.zq p.sums),.vs 2 [[.nil 1,.sl 0 0 n cap0]],.vs 6 [[.t (.str p.name),.t (.str p.version),.t (.str p.source),.sl 1 0 k cap,.t (.bool p.dev),.nil 1]],.vs 2 [zG]])
   = some (.loop (.exit 0) [.ptr 2 0 0,.ptr 3 0 0,.ptr 4 0 0,.t (.int .i64 (a.length:Int))] [.vs 6 (ocE (z8.zq a)++[.t (.str x.name),.t (.str x.version),.t (.str x.source),.sl 5 0 x.sums.length none,.t (.bool x.dev),.sl 6 0 x.zB.length none]::ocE (z8.zq b)),.ts 2 (zH.zq p.sums),.vs 2 [[.nil 1,.sl 0 0 n cap0]],.vs 6 [[.t (.str p.name),.t (.str p.version),.t (.str p.source),.sl 1 0 k cap,.t (.bool p.dev),.nil 1]],.vs 2 [zG],.ts 2 (zH.zq x.sums),.ts 1 (strs x.zB)])
 | [],pre,hs=>by
  refine .inl ?_;have hpl:pre.length=n:=by rw[hn,hs];simp
  rw[hpl];have c:decide ((n:Int)<(n:Int))=false:=by simp
  have c00:(0:Int)≤(n:Int):=by omega
  have hnone:(ocE (z8.zq l))[n]? = none:=List.getElem?_eq_none (by rw[vu,z8.zz];omega);obtain⟨h1,h2,_⟩:=wh l;generalize ocE (z8.zq l)=E0 at *;generalize zH.zq p.sums=E1 at *;simp only[zG];clear hs;refine zh func196 rfl rfl ?_;simp (disch:=(try simp only[LL]);omega) only[↓GO,↓DRW,GA,GX,ren,zj,za,refs,z7,cst,zm,isC,bin,una,z6,zd,blt,asArg,zg,zc,zf,z1,zn,unN,ze,zk,zb,GS,simprocAttr,zD,zE,yG,yA,yD,yC,yH,gh1,yz,yr,yu,zR,mkO,yn,yf,yg,mvC,unO,zX,yF,yB,yw,zI,yx,yv,zY,oc,oTs,oT,zQ,zQ.rowTs,yt,isL,E.BX,GZ,c,c00,if_true,Int.toNat_natCast,Nat.zero_add,hnone,h1,h2,zA]
 | x :: rest, pre, hs => by
  have c:decide ((pre.length:Int)<(n:Int))=true:=by apply decide_eq_true;rw[hn,hs];simp;omega
  have c0:decide ((0:Int)≤(pre.length:Int))=true:=by apply decide_eq_true;omega
  have c00:(0:Int)≤(pre.length:Int):=by omega
  have hPl:(ocE (z8.zq pre)).length=pre.length:=by rw[vu,z8.zz]
  have hpl:pre.length≤1048576:=by have:=congrArg List.length hs;simp at this;omega
  have d1:=uQ x (by have:=hb x (by rw[hs];simp);omega);have d2:=uQ p (by omega);have hg:=fun y=>oI (ocE (z8.zq pre)) (ocE (z8.zq rest)) y pre.length hPl
  have hss:=fun y z=>oH (ocE (z8.zq pre)) (ocE (z8.zq rest)) y z pre.length hPl
  have hf1:=xT x.sums;have hf2:=xj x.zB;have hs1:=zH.zz x.sums;have hs2:=zo x.zB;have hk1:(zH.zq x.sums).take x.sums.length=zH.zq x.sums:=List.take_of_length_le (by omega);have hk2:(strs x.zB).take x.zB.length=strs x.zB:=List.take_of_length_le (by omega);have hk3:(zH.zq p.sums).take k=zH.zq p.sums:=List.take_of_length_le (by rw[zH.zz];omega);obtain⟨hA1,hA2,_⟩:=wh pre;obtain⟨hB1,hB2,_⟩:=wh rest;have hlE:ocE (z8.zq l)=ocE (z8.zq pre)++[V.t (.str x.name),.t (.str x.version),.t (.str x.source),.o (.list 2 (zH.zq x.sums)),.t (.bool x.dev),.o (.list 1 (strs x.zB))]::ocE (z8.zq rest):=by rw[hs,kV,pcons]
  cases q:Op.bytesLess (keyOf x) (keyOf p) with
  | true =>
   have IH:=Ru n k cap0 cap p hp0 hpb hk l hn hl hb rest (pre++[x]) (by rw[hs];simp);rw[show ((pre++[x]).length:Int)=(pre.length:Int)+1 by simp]at IH;have go:∀ R:w7,EV prog pol (.loop 196 28 2 [.ptr 2 0 0,.ptr 3 0 0,.ptr 4 0 0,.t (.int .i64 ((pre.length:Int)+1))] [.vs 6 (ocE (z8.zq l)),.ts 2 (zH.zq p.sums),.vs 2 [[.nil 1,.sl 0 0 n cap0]],.vs 6 [[.t (.str p.name),.t (.str p.version),.t (.str p.source),.sl 1 0 k cap,.t (.bool p.dev),.nil 1]],.vs 2 [zG]])=some R →
    EV prog pol (.loop 196 28 2 [.ptr 2 0 0,.ptr 3 0 0,.ptr 4 0 0,.t (.int .i64 (pre.length:Int))] [.vs 6 (ocE (z8.zq l)),.ts 2 (zH.zq p.sums),.vs 2 [[.nil 1,.sl 0 0 n cap0]],.vs 6 [[.t (.str p.name),.t (.str p.version),.t (.str p.source),.sl 1 0 k cap,.t (.bool p.dev),.nil 1]],.vs 2 [zG]])=some R:=fun R e=>by
    rw[hlE]at e ⊢;clear IH hs hlE;generalize keyOf x=kx at *;generalize keyOf p=kp at *;obtain⟨name,version,source,sums,dev,zB⟩:=x;obtain⟨name',version',source',sums',dev',needs'⟩:=p;simp only at hp0;subst hp0;simp only[z8.enc,List.map_cons,List.map_nil,show strs []=[] from rfl,zG]at d1 d2 hf1 hf2 hs1 hs2 hk1 hk2 hk3 hg hss e ⊢;generalize zH.zq sums=es1 at *;generalize strs zB=es2 at *;generalize zH.zq sums'=es3 at *;generalize ocE (z8.zq pre)=P at *;generalize ocE (z8.zq rest)=B at *;generalize pre.length=kl at *;refine zh func196 rfl rfl ?_;simp (maxSteps:=1000000) (disch:=(try simp only[LL]);omega) only[↓GO,↓DRW,GA,GX,ren,zj,za,refs,z7,cst,zm,isC,bin,una,z6,zd,blt,asArg,zg,zc,zf,z1,zn,unN,ze,zk,zb,GS,simprocAttr,zD,zE,yG,yA,yD,yC,yH,gh1,yz,yr,yu,zR,mkO,yn,yf,yg,mvC,unO,zX,yF,yB,yw,zI,yx,yv,zY,oc,oTs,oT,zQ,zQ.rowTs,yt,isL,E.BX,GZ,c,c0,c00,if_true,Int.toNat_natCast,Nat.zero_add,hg,hss,hf1,hf2,hs1,hs2,hk1,hk2,hk3,d1,d2,q,hA1,hA2,hB1,hB2,zi,zA,e]
   rcases IH with IH|⟨a,b,y,h1,IH⟩
   · exact .inl (go _ IH)
   · exact .inr ⟨a,b,y,h1,go _ IH⟩
  | false =>
   refine .inr ⟨pre,rest,x,hs,?_⟩;rw[hlE];clear hs hlE;generalize keyOf x=kx at *;generalize keyOf p=kp at *;obtain⟨name,version,source,sums,dev,zB⟩:=x;obtain⟨name',version',source',sums',dev',needs'⟩:=p;simp only at hp0;subst hp0;simp only[z8.enc,List.map_cons,List.map_nil,show strs []=[] from rfl,zG]at d1 d2 hf1 hf2 hs1 hs2 hk1 hk2 hk3 hg hss ⊢;generalize zH.zq sums=es1 at *;generalize strs zB=es2 at *;generalize zH.zq sums'=es3 at *;generalize ocE (z8.zq pre)=P at *;generalize ocE (z8.zq rest)=B at *;generalize pre.length=kl at *;refine zh func196 rfl rfl ?_;simp (maxSteps:=1000000) (disch:=(try simp only[LL]);omega) only[↓GO,↓DRW,GA,GX,ren,zj,za,refs,z7,cst,zm,isC,bin,una,z6,zd,blt,asArg,zg,zc,zf,z1,zn,unN,ze,zk,zb,GS,simprocAttr,zD,zE,yG,yA,yD,yC,yH,gh1,yz,yr,yu,zR,mkO,yn,yf,yg,mvC,unO,zX,yF,yB,yw,zI,yx,yv,zY,oc,oTs,oT,zQ,zQ.rowTs,yt,isL,E.BX,GZ,c,c0,c00,if_true,Int.toNat_natCast,Nat.zero_add,hg,hss,hf1,hf2,hs1,hs2,hk1,hk2,hk3,d1,d2,q,hA1,hA2,hB1,hB2,zi,zA]
theorem Ui (l:List z8):noR ((ocE (z8.zq l)).map fun c=>c.map unO):=by
 induction l with
 | nil=>exact ZV
 | cons x r ih=>exact WO rfl (fun _=>rfl) rfl ih
theorem VS (l:List z8):((ocE (z8.zq l)).map fun c=>c.map unO).length=l.length:=by rw[List.length_map,vu,z8.zz]
theorem WN (l:List z8)(r:List (List V))(h:l≠[]):((((ocE (z8.zq l)).map fun c=>c.map unO)++r).all fun c=>c.all y5)=false:=by
 cases l with
 | nil=>exact absurd rfl h
 | cons x t=>rfl
theorem XM (l:List z8)(r:List (List V))(h:l≠[]):((ocE (z8.zq l)++r).all fun c=>c.all y5)=false:=by
 cases l with
 | nil=>exact absurd rfl h
 | cons x t=>rfl
def P1 (l:List z8)(n k:Nat)(cap0 cap:Option Nat)(p:z8)(a b:List z8):Prop:=∃ (X:List (List V)) (c0:Blk),noR X∧EV prog pol (.callO false 196 [.agg [.nil 1,.sl 0 0 n cap0],.agg [.t (.str p.name),.t (.str p.version),.t (.str p.source),.sl 1 0 k cap,.t (.bool p.dev),.nil 1]] [.vs 6 (ocE (z8.zq l)),.ts 2 (zH.zq p.sums)])
 = some (.call (.agg [.nil 1,.sl 2 0 (n+1) none]) [.vs 6 X,.dead,.vs 6 (ocE (z8.zq (a++p::b)))])
theorem UI (a b:List z8) (n k:Nat) (cap0 cap:Option Nat) (p:z8) (hp0:p.zB=[]) (hk:k=p.sums.length) (hn:n=(a++b).length) (hl:(a++b).length≤1048576) (hne:a++b≠[])
 (L:(EV prog pol (.loop 196 28 2 [.ptr 2 0 0,.ptr 3 0 0,.ptr 4 0 0,.t (.int .i64 0)] [.vs 6 (ocE (z8.zq (a++b))),.ts 2 (zH.zq p.sums),.vs 2 [[.nil 1,.sl 0 0 n cap0]],.vs 6 [[.t (.str p.name),.t (.str p.version),.t (.str p.source),.sl 1 0 k cap,.t (.bool p.dev),.nil 1]],.vs 2 [zG]])
  = some (.loop (.exit 0) [.ptr 2 0 0,.ptr 3 0 0,.ptr 4 0 0,.t (.int .i64 (a.length:Int))] [.vs 6 (ocE (z8.zq (a++b))),.ts 2 (zH.zq p.sums),.vs 2 [[.nil 1,.sl 0 0 n cap0]],.vs 6 [[.t (.str p.name),.t (.str p.version),.t (.str p.source),.sl 1 0 k cap,.t (.bool p.dev),.nil 1]],.vs 2 [zG]])∧b=[]) ∨
  ∃ (x:z8) (b':List z8),b=x::b'∧EV prog pol (.loop 196 28 2 [.ptr 2 0 0,.ptr 3 0 0,.ptr 4 0 0,.t (.int .i64 0)] [.vs 6 (ocE (z8.zq (a++b))),.ts 2 (zH.zq p.sums),.vs 2 [[.nil 1,.sl 0 0 n cap0]],.vs 6 [[.t (.str p.name),.t (.str p.version),.t (.str p.source),.sl 1 0 k cap,.t (.bool p.dev),.nil 1]],.vs 2 [zG]])
   = some (.loop (.exit 0) [.ptr 2 0 0,.ptr 3 0 0,.ptr 4 0 0,.t (.int .i64 (a.length:Int))] [.vs 6 (ocE (z8.zq a)++[.t (.str x.name),.t (.str x.version),.t (.str x.source),.sl 5 0 x.sums.length none,.t (.bool x.dev),.sl 6 0 x.zB.length none]::ocE (z8.zq b')),.ts 2 (zH.zq p.sums),.vs 2 [[.nil 1,.sl 0 0 n cap0]],.vs 6 [[.t (.str p.name),.t (.str p.version),.t (.str p.source),.sl 1 0 k cap,.t (.bool p.dev),.nil 1]],.vs 2 [zG],.ts 2 (zH.zq x.sums),.ts 1 (strs x.zB)])) :
 P1 (a++b) n k cap0 cap p a b:=by
 have hal:(ocE (z8.zq a)).length=a.length:=by rw[vu,z8.zz]
 have hbl:(ocE (z8.zq b)).length=b.length:=by rw[vu,z8.zz]
 have hE:ocE (z8.zq (a++b))=ocE (z8.zq a)++ocE (z8.zq b):=kV a b;have hn':n=a.length+b.length:=by rw[hn,List.length_append]
 have hnM:n≤1048576:=by omega
 have hAu:=Ui a;have hBu:=Ui b;have hAul:=VS a;have hBul:=VS b;have m1:=T3 a fun _ _=>trivial
 have m2:=T3 b fun _ _=>trivial
 have hno1:((ocE (z8.zq a)++ocE (z8.zq b)).all fun c=>c.all y5)=false:=by
  cases a with
  | cons x r=>exact XM (x::r) _ (by simp)
  | nil =>
   cases b with
   | cons x r=>rfl
   | nil=>exact absurd rfl hne
 have hno2:((((ocE (z8.zq a)).map fun c=>c.map unO)++ocE (z8.zq b)).all fun c=>c.all y5)=false:=by
  cases a with
  | cons x r=>exact WN (x::r) _ (by simp)
  | nil =>
   cases b with
   | cons x r=>rfl
   | nil=>exact absurd rfl hne
 obtain⟨hA1,hA2,_⟩:=wh a;obtain⟨hB1,hB2,_⟩:=wh b;have hX:=TT hAu hBu;have hf1:=xT p.sums;have hks:(zH.zq p.sums).length=k:=by rw[zH.zz,hk]
 have hres:ocE (z8.zq (a++p::b))=(ocE (z8.zq a)++[[V.t (.str p.name),.t (.str p.version),.t (.str p.source),.o (.list 2 (zH.zq p.sums)),.t (.bool p.dev),.o (.list 1 [])]])++ocE (z8.zq b):=by
  rw[kV,show ocE (z8.zq (p::b))=[V.t (.str p.name),.t (.str p.version),.t (.str p.source),.o (.list 2 (zH.zq p.sums)),.t (.bool p.dev),.o (.list 1 (strs p.zB))]::ocE (z8.zq b) from rfl,hp0,show strs []=[] from rfl];simp
 refine⟨((ocE (z8.zq a)).map fun c=>c.map unO)++((ocE (z8.zq b)).map fun c=>c.map unO),.dead,hX,?_⟩;rw[hres];obtain⟨hX1,hX2,_⟩:=hX;have hkp:(zH.zq p.sums).take k=zH.zq p.sums:=List.take_of_length_le (by omega);rcases L with⟨L,hb0⟩|⟨x,b',hbx,L⟩
 · obtain⟨name,version,source,sums,dev,zB⟩:=p;simp only at hp0;subst hp0;simp only[zG]at L hf1 hks hkp ⊢;rw[hE]at L ⊢;clear hE hres;generalize zH.zq sums=es1 at *;subst hb0;simp only[show z8.zq []=[] from rfl,show ocE []=[] from rfl,List.append_nil,List.map_nil,List.length_nil,Nat.add_zero]at L hAul hno1 hno2 hX1 hX2 hn' ⊢;generalize hU:(ocE (z8.zq a)).map (fun c=>c.map unO)=U1 at *;generalize ocE (z8.zq a)=T1 at *;have hle1:∀ y:List V,(T1++[y]).length=a.length+1:=fun y=>by simp[hal]
   have hnone:T1[a.length]? = none:=List.getElem?_eq_none (by omega);have hna:n=a.length:=by omega
   subst hna;have q1:T1.take a.length=T1:=List.take_of_length_le (by omega);have q2:T1.drop a.length=[]:=List.drop_of_length_le (by omega);have q3:U1.take a.length=U1:=List.take_of_length_le (by omega);have q4:U1.drop a.length=[]:=List.drop_of_length_le (by omega);have c00:(0:Int)≤(a.length:Int):=by omega
   have g1:=fun y=>oI T1 [] y a.length hal
   have g2:=fun y z=>oH T1 [] y z a.length hal
   clear hn hl hne hbl hBul hk hn';generalize a.length=at0 at *;refine zM func196 rfl (by kernel_rfl) ?_;unfold Tryz.f196;simp (maxSteps:=1000000) (disch:=(try simp only[LL]);omega) only[↓GO,↓DRW,GA,GX,ren,zj,za,refs,z7,cst,zm,isC,bin,una,z6,zd,blt,asArg,zg,zc,zf,z1,zn,unN,ze,zk,zb,GS,simprocAttr,zD,zE,yG,yA,yD,yC,yH,gh1,yz,yr,yu,zR,mkO,yn,yf,yg,mvC,unO,zX,yF,yB,yw,zI,yx,yv,zY,oc,oTs,oT,zQ,zQ.rowTs,yt,isL,E.BX,GZ,L,c00,if_true,Int.toNat_natCast,Nat.zero_add,Nat.sub_zero,Nat.sub_self,Nat.add_zero,hnone,hno1,hno2,hU,hle1,m1,q1,q2,q3,q4,g1,g2,hal,hAul,hA1,hA2,hX1,hX2,hf1,hks,hkp,List.append_nil,List.map_nil,Bool.and_false,and_false,false_and,if_false,y6,zA]
   all_goals (refine zT (by kernel_rfl) ?_)
   all_goals rfl
 · subst hbx;have hbl':(ocE (z8.zq b')).length=b'.length:=by rw[vu,z8.zz]
   have m3:=T3 b' fun _ _=>trivial
   have hUb:((ocE (z8.zq (x::b'))).map fun c=>c.map unO)=[V.t (.str x.name),.t (.str x.version),.t (.str x.source),.bad,.t (.bool x.dev),.bad]::((ocE (z8.zq b')).map fun c=>c.map unO):=rfl;have hBx:ocE (z8.zq (x::b'))=[V.t (.str x.name),.t (.str x.version),.t (.str x.source),.o (.list 2 (zH.zq x.sums)),.t (.bool x.dev),.o (.list 1 (strs x.zB))]::ocE (z8.zq b'):=rfl;have hxs1:=zH.zz x.sums;have hxs2:=zo x.zB;have hxk1:(zH.zq x.sums).take x.sums.length=zH.zq x.sums:=List.take_of_length_le (by omega);have hxk2:(strs x.zB).take x.zB.length=strs x.zB:=List.take_of_length_le (by omega);have hxf1:=xT x.sums;have hxf2:=xj x.zB;obtain⟨hC1,hC2,_⟩:=wh b';obtain⟨name,version,source,sums,dev,zB⟩:=p;obtain⟨name',version',source',sums',dev',needs'⟩:=x;simp only at hp0;subst hp0;simp only[zG]at L hf1 hks hkp hxs1 hxs2 hxk1 hxk2 hxf1 hxf2 hBx hUb ⊢;rw[hE]at L ⊢;rw[hUb]at hX1 hX2 ⊢;rw[hBx]at L m2 hno1 hno2 hB1 hB2 ⊢;clear hE hres;generalize zH.zq sums=es1 at *;generalize zH.zq sums'=es2 at *;generalize strs needs'=es3 at *;generalize hU:(ocE (z8.zq a)).map (fun c=>c.map unO)=U1 at *;generalize hU2:(ocE (z8.zq b')).map (fun c=>c.map unO)=U2 at *;generalize ocE (z8.zq a)=T1 at *;generalize ocE (z8.zq b')=T2 at *;have hle1:∀ y:List V,(T1++[y]).length=a.length+1:=fun y=>by simp[hal]
   have hle2:∀ y:List V,(T1++y::T2).length=n:=fun y=>by simp[hal,hbl',hn']
   have hle3:∀ y:List V,(U1++y::T2).length=n:=fun y=>by simp[hAul,hbl',hn']
   have q1:∀ y:List V,(T1++y::T2).take a.length=T1:=fun y=>by rw[← hal,List.take_left]
   have q2:∀ y:List V,(T1++y::T2).drop a.length=y::T2:=fun y=>by rw[← hal,List.drop_left]
   have q3:∀ y:List V,(U1++y::T2).take a.length=U1:=fun y=>by rw[← hAul,List.take_left]
   have q4:∀ y:List V,(U1++y::T2).drop a.length=y::T2:=fun y=>by rw[← hAul,List.drop_left]
   have hsub:(((n:Int) - (a.length:Int)).toNat)=b'.length+1:=by simp at hn';omega
   have hsub2:n - a.length=b'.length+1:=by simp at hn';omega
   have hadd:a.length+(b'.length+1)=n:=by simp at hn';omega
   have q5:∀ y:List V,(y::T2).take (b'.length+1)=y::T2:=fun y=>List.take_of_length_le (by simp[hbl'])
   have q6:∀ y:List V,(U1++y::T2).drop n=[]:=fun y=>List.drop_of_length_le (by rw[hle3];omega)
   have hle:(a.length:Int)≤(n:Int):=by omega
   have hln:a.length≤n:=by omega
   have c00:(0:Int)≤(a.length:Int):=by omega
   have c01:(0:Int)≤(n:Int):=by omega
   have g1:=fun y=>oI T1 T2 y a.length hal
   have g2:=fun y z=>oH T1 T2 y z a.length hal
   have g3:∀ (y:List V) (z:List (List V)),(T1++[y]++z)[a.length]? = some y:=fun y z=>by rw[List.append_assoc];exact oI T1 z y a.length hal
   have g4:∀ (y y':List V) (z:List (List V)),(T1++[y]++z).set a.length y'=T1++[y']++z:=fun y y' z=>by rw[List.append_assoc,List.append_assoc];exact oH T1 z y y' a.length hal
   clear hn hl hne hbl hBul hk;generalize a.length=at0 at *;refine zM func196 rfl (by kernel_rfl) ?_;unfold Tryz.f196;simp (maxSteps:=1000000) (disch:=(try simp only[LL]);omega) only[↓GO,↓DRW,GA,GX,ren,zj,za,refs,z7,cst,zm,isC,bin,una,z6,zd,blt,asArg,zg,zc,zf,z1,zn,unN,ze,zk,zb,GS,simprocAttr,zD,zE,yG,yA,yD,yC,yH,gh1,yz,yr,yu,zR,mkO,yn,yf,yg,mvC,unO,zX,yF,yB,yw,zI,yx,yv,zY,oc,oTs,oT,zQ,zQ.rowTs,yt,isL,E.BX,GZ,L,c00,c01,if_true,Int.toNat_natCast,Nat.zero_add,Nat.sub_zero,Nat.sub_self,Nat.add_zero,hno1,hno2,hU,hU2,hle1,hle2,hle3,hle,hln,hsub,hsub2,hadd,m1,m2,m3,q1,q2,q3,q4,q5,q6,g1,g2,g3,g4,hal,hbl',hAul,hA1,hA2,hB1,hB2,hC1,hC2,hX1,hX2,hf1,hks,hkp,hxs1,hxs2,hxk1,hxk2,hxf1,hxf2,List.append_nil,List.map_nil,Bool.and_false,and_false,false_and,if_false,y6,zA]
   all_goals (refine zT (by kernel_rfl) ?_)
   all_goals rw[show at0+1+(b'.length+1)=n+1 by simp at hn';omega]
theorem Qy (k:Nat) (cap0 cap:Option Nat) (p:z8) (hp0:p.zB=[]) (hk:k=p.sums.length)
 (L:EV prog pol (.loop 196 28 2 [.ptr 2 0 0,.ptr 3 0 0,.ptr 4 0 0,.t (.int .i64 0)] [.vs 6 [],.ts 2 (zH.zq p.sums),.vs 2 [[.nil 1,.sl 0 0 0 cap0]],.vs 6 [[.t (.str p.name),.t (.str p.version),.t (.str p.source),.sl 1 0 k cap,.t (.bool p.dev),.nil 1]],.vs 2 [zG]])
  = some (.loop (.exit 0) [.ptr 2 0 0,.ptr 3 0 0,.ptr 4 0 0,.t (.int .i64 0)] [.vs 6 [],.ts 2 (zH.zq p.sums),.vs 2 [[.nil 1,.sl 0 0 0 cap0]],.vs 6 [[.t (.str p.name),.t (.str p.version),.t (.str p.source),.sl 1 0 k cap,.t (.bool p.dev),.nil 1]],.vs 2 [zG]])) :
 P1 [] 0 k cap0 cap p [] []:=by
 refine⟨[],.dead,ZV,?_⟩;have hf1:=xT p.sums;have hks:(zH.zq p.sums).length=k:=by rw[zH.zz,hk]
 have hkp:(zH.zq p.sums).take k=zH.zq p.sums:=List.take_of_length_le (by omega);have hres:ocE (z8.zq ([]++p::[]))=[[V.t (.str p.name),.t (.str p.version),.t (.str p.source),.o (.list 2 (zH.zq p.sums)),.t (.bool p.dev),.o (.list 1 [])]]:=by
  rw[show ocE (z8.zq ([]++p::[]))=[[V.t (.str p.name),.t (.str p.version),.t (.str p.source),.o (.list 2 (zH.zq p.sums)),.t (.bool p.dev),.o (.list 1 (strs p.zB))]] from rfl,hp0];rfl
 rw[hres,show ocE (z8.zq [])=[] from rfl];clear hres;obtain⟨name,version,source,sums,dev,zB⟩:=p;simp only at hp0;subst hp0;simp only[zG]at L hf1 hks hkp ⊢;generalize zH.zq sums=es1 at *;clear hk;obtain⟨z,hz⟩:∃ z:Nat,z=0:=⟨0,rfl⟩;obtain⟨T1,hT⟩:∃ T1:List (List V),T1=[]:=⟨[],rfl⟩;have hL:EV prog pol (.loop 196 28 2 [.ptr 2 0 0,.ptr 3 0 0,.ptr 4 0 0,.t (.int .i64 0)] [.vs 6 T1,.ts 2 es1,.vs 2 [[.nil 1,.sl 0 0 z cap0]],.vs 6 [[.t (.str name),.t (.str version),.t (.str source),.sl 1 0 k cap,.t (.bool dev),.nil 1]],.vs 2 [[.nil 1,.nil 6]]])
  = some (.loop (.exit 0) [.ptr 2 0 0,.ptr 3 0 0,.ptr 4 0 0,.t (.int .i64 (z:Int))] [.vs 6 T1,.ts 2 es1,.vs 2 [[.nil 1,.sl 0 0 z cap0]],.vs 6 [[.t (.str name),.t (.str version),.t (.str source),.sl 1 0 k cap,.t (.bool dev),.nil 1]],.vs 2 [[.nil 1,.nil 6]]]):=by
  subst hz hT;exact L
 have hal:T1.length=z:=by rw[hT,hz];rfl
 have q1:T1.take z=T1:=by rw[hT];exact List.take_nil
 have q2:T1.drop z=[]:=by rw[hT];exact List.drop_nil
 have c00:(0:Int)≤(z:Int):=by omega
 have hz1:(z=0)=True:=by simp[hz]
 have hz2:(0=z)=True:=by simp[hz]
 have hle1:∀ y:List V,(T1++[y]).length=z+1:=fun y=>by simp[hal]
 have hnone:T1[z]? = none:=by rw[hT];rfl
 have hok:(T1.all fun c=>c.all y5)=true:=by rw[hT];rfl
 have hA1:T1.flatMap refs.refss=[]:=by rw[hT];rfl
 have hA2:∀ f:Nat→Option Nat,T1.map (ren.rens f)=T1:=fun f=>by rw[hT];rfl
 have happ:∀ y:List V,T1++[y]++T1=T1++[y]:=fun y=>by rw[hT];rfl
 have g1:=fun y=>oI T1 [] y z hal
 have g2:=fun y y'=>oH T1 [] y y' z hal
 have hzM:z≤1048576:=by omega
 have goal:EV prog pol (.callO false 196 [.agg [.nil 1,.sl 0 0 z cap0],.agg [.t (.str name),.t (.str version),.t (.str source),.sl 1 0 k cap,.t (.bool dev),.nil 1]] [.vs 6 T1,.ts 2 es1])
  = some (.call (.agg [.nil 1,.sl 2 0 (z+1) none]) [.vs 6 T1,.dead,.vs 6 (T1++[[V.t (.str name),.t (.str version),.t (.str source),.o (.list 2 es1),.t (.bool dev),.o (.list 1 [])]])]):=by
  clear L hT hz;refine zM func196 rfl (by kernel_rfl) ?_;unfold Tryz.f196;simp (maxSteps:=1000000) (disch:=(try simp only[LL]);omega) only[↓GO,↓DRW,GA,GX,ren,zj,za,refs,z7,cst,zm,isC,bin,una,z6,zd,blt,asArg,zg,zc,zf,z1,zn,unN,ze,zk,zb,GS,simprocAttr,zD,zE,yG,yA,yD,yC,yH,gh1,yz,yr,yu,zR,mkO,yn,yf,yg,mvC,unO,zX,yF,yB,yw,zI,yx,yv,zY,oc,oTs,oT,zQ,zQ.rowTs,yt,isL,E.BX,GZ,hL,c00,if_true,Int.toNat_natCast,Nat.zero_add,Nat.sub_zero,Nat.sub_self,Nat.add_zero,hz1,hz2,hnone,hok,hle1,q1,q2,g1,g2,hal,hA1,hA2,happ,hf1,hks,hkp,List.append_nil,List.map_nil,Bool.and_false,and_false,false_and,if_false,y6,zA]
  all_goals (refine zT (by kernel_rfl) ?_)
  all_goals rfl
 subst hz hT;exact goal
theorem c_put (l:List z8)(k:Nat)(cap0 cap:Option Nat)(p:z8)(hp0:p.zB=[])(hpb:p.y0≤1048576)(hk:k=p.sums.length)(hl:l.length≤1048575)(hb:∀ x∈l,x.y0≤1048576) :
 ∃ a b:List z8,l=a++b∧P1 l l.length k cap0 cap p a b:=by
 have L:=Ru l.length k cap0 cap p hp0 hpb hk l rfl (by omega) hb l [] rfl;rcases L with L|⟨a,b,x,h1,L⟩
 · cases hl0:l with
   | nil=>subst hl0;exact⟨[],[],rfl,Qy k cap0 cap p hp0 hk L⟩
   | cons y r =>
    rw[← hl0];refine⟨l,[],by simp,?_⟩;have:=UI l [] l.length k cap0 cap p hp0 hk (by simp) (by simp;omega) (by rw[hl0];simp) (.inl ⟨by rw[List.append_nil];exact L,rfl⟩);rw[List.append_nil]at this;exact this
 · subst h1;exact⟨a,x::b,rfl,UI a (x::b) (a++x::b).length k cap0 cap p hp0 hk rfl (by omega) (by simp) (.inr ⟨x,b,rfl,L⟩)⟩
theorem dC (B:Nat):∀ l:List zH,(∀ s∈l,s.y0≤B)→zH.yp l≤l.length*B
 | [],_=>Nat.zero_le _
 | x::r,h=>by
  have h1:=h x (by simp);have h2:=dC B r fun s hs=>h s (by simp[hs])
  simp only[zH.yp,List.length_cons,Nat.add_mul];omega
theorem rP (B:Nat):∀ l:List z8,(∀ s∈l,s.y0≤B)→z8.yp l≤l.length*B
 | [],_=>Nat.zero_le _
 | x::r,h=>by
  have h1:=h x (by simp);have h2:=rP B r fun s hs=>h s (by simp[hs])
  simp only[z8.yp,List.length_cons,Nat.add_mul];omega
theorem pV (B:Nat):∀ l:List Str,(∀ s∈l,s.length≤B)→yc l≤l.length*B
 | [],_=>Nat.zero_le _
 | x::r,h=>by
  have h1:=h x (by simp);have h2:=pV B r fun s hs=>h s (by simp[hs])
  simp only[yc,List.length_cons,Nat.add_mul];omega
theorem dF {k:Nat}{p:z8}(h:smP k p)(hk:k≤8):p.y0≤4096:=by
 obtain⟨h1,h2,h3,⟨h4,h5⟩,h6,h7⟩:=h;have e1:=dC 72 p.sums fun s hs=>by
  obtain⟨q1,q2⟩:=h5 s hs;simp only[zH.y0];omega
 have e2:=pV 400 p.zB h7;simp only[z8.y0];omega
def Zq (k:Nat)(l:List z8):Prop:=∀ x∈l,smP k x
theorem tG {k:Nat}{l:List z8}(h:Zq k l)(hk:k≤8):∀ x∈l,x.y0≤4096:=fun x hx=>dF (h x hx) hk
theorem Tz {k:Nat}{l:List z8}(h:Zq k l)(hk:k≤8)(hl:l.length≤8)(top:List Str)(ht:top.length≤8)(ht2:∀ s∈top,s.length≤400):GB ⟨top,l⟩:=by
 have e1:=rP 4096 l (tG h hk);have e2:=pV 400 top ht2;unfold GB zy.y0;simp only;omega
theorem j9 (bs:List Int)(hb:okB bs)(n:Nat)(hn:n≤6):∀ (m i:Nat) (c:Cs) (l:List z8) (cap0:Option Nat),cok bs c→n=i+m→l.length≤i→Zq 0 l→∃ (c':Cs) (l':List z8) (cap':Option Nat),cok bs c'∧l'.length≤n∧Zq 0 l' ∧
 EV prog pol (.loop 133 122 1 [.ptr 0 0 0,.ptr 1 0 0,.ptr 2 0 0,.t (.int .i64 (n:Int)),.t (.int .i64 (i:Int))] [cuR bs c,.vs 2 [zG],.vs 2 [[.nil 1,.sl 3 0 l.length cap0]],.vs 6 (ocE (z8.zq l))])
  = some (.loop (.exit 0) [.ptr 0 0 0,.ptr 1 0 0,.ptr 2 0 0] [cuR bs c',.vs 2 [zG],.vs 2 [[.nil 1,.sl 3 0 l'.length cap']],.vs 6 (ocE (z8.zq l'))])
 | 0,i,c,l,cap0,hc,hi,hl,hs=>by
  have c0:decide ((i:Int)<(n:Int))=false:=by apply decide_eq_false;omega
  refine⟨c,l,cap0,hc,by omega,hs,?_⟩;obtain⟨h1,h2,_⟩:=wh l;simp only[zG];unfold cuR;generalize ocE (z8.zq l)=E0 at *;clear hb hc hs;refine zh func133 rfl rfl ?_;simp (disch:=(try simp only[LL]);omega) only[↓GO,↓DRW,GA,GX,ren,zj,za,refs,z7,cst,zm,isC,bin,una,z6,zd,blt,asArg,zg,zc,zf,z1,zn,unN,ze,zk,zb,GS,simprocAttr,zD,zE,yG,yA,yD,yC,yH,gh1,yz,yr,yu,zR,mkO,yn,yf,yg,mvC,unO,zX,yF,yB,yw,zI,yx,yv,zY,oc,oTs,oT,zQ,zQ.rowTs,yt,isL,E.BX,GZ,c0,h1,h2,zA]
 | m + 1, i, c, l, cap0, hc, hi, hl, hs => by
  have c0:decide ((i:Int)<(n:Int))=true:=by apply decide_eq_true;omega
  obtain⟨p,c1,cap,hp,hc1,d1⟩:=QC bs hb c hc;have hpb:=dF hp (by omega);have d2:=uQ p (by omega);have d3:=fY ⟨[],l⟩ (keyOf p) (Tz hs (by omega) (by omega) [] (by simp) (by simp));have hks:(zH.zq p.sums).length=p.sums.length:=zH.zz _;have hkp:(zH.zq p.sums).take p.sums.length=zH.zq p.sums:=List.take_of_length_le (by omega);have hp0:p.zB=[]:=List.eq_nil_of_length_eq_zero (by have:=hp.2.2.2.2.1;omega);have hlt:(ocE (z8.zq l)).take l.length=ocE (z8.zq l):=List.take_of_length_le (by rw[vu,z8.zz];exact Nat.le_refl _);obtain⟨h1,h2,_⟩:=wh l
  cases hf:vd l (keyOf p) with
  | some j =>
   have c1':decide ((j:Int)<0)=false:=by apply decide_eq_false;omega
   obtain⟨c',l',cap',q1,q2,q3,IH⟩:=j9 bs hb n hn m (i+1) c1 l cap0 hc1 (by omega) (by omega) hs;refine⟨c',l',cap',q1,q2,q3,?_⟩;rw[show ((i+1:Nat):Int)=(i:Int)+1 by omega]at IH;simp only[hf,ixI]at d3;simp only[zy.enc,z8.enc,List.map_cons,List.map_nil,show strs []=[] from rfl,hp0]at d2 d3;clear q3 hs hp hb hc hf;simp only[zG]at IH ⊢;unfold cuR at *;generalize ocE (z8.zq l')=E1 at *;generalize keyOf p=kp at *;obtain⟨name,version,source,sums,dev,zB⟩:=p;simp only at hp0 hks hkp d1 d2;generalize zH.zq sums=es at *;refine zh func133 rfl rfl ?_;simp (disch:=(try simp only[LL]);omega) only[↓GO,↓DRW,GA,GX,ren,zj,za,refs,z7,cst,zm,isC,bin,una,z6,zd,blt,asArg,zg,zc,zf,z1,zn,unN,ze,zk,zb,GS,simprocAttr,zD,zE,yG,yA,yD,yC,yH,gh1,yz,yr,yu,zR,mkO,yn,yf,yg,mvC,unO,zX,yF,yB,yw,zI,yx,yv,zY,oc,oTs,oT,zQ,zQ.rowTs,yt,isL,E.BX,GZ,c0,c1',d1,d2,d3,h1,h2,hlt,hks,hkp,kO,lk,od,List.drop_zero,zi,zA,IH]
  | none =>
   obtain⟨a,b,hab,X,x0,hX,d4⟩:=c_put l p.sums.length cap0 cap p hp0 (by omega) rfl (by omega) fun x hx=>by have:=tG hs (by omega) x hx;omega
   have hs':Zq 0 (a++p::b):=fun x hx=>by
    simp only[List.mem_append,List.mem_cons]at hx;rcases hx with hx|rfl|hx
    · exact hs x (by rw[hab];simp[hx])
    · exact hp
    · exact hs x (by rw[hab];simp[hx])
   have hlen:(a++p::b).length=l.length+1:=by rw[hab];simp;omega
   obtain⟨c',l',cap',q1,q2,q3,IH⟩:=j9 bs hb n hn m (i+1) c1 (a++p::b) none hc1 (by omega) (by omega) hs';refine⟨c',l',cap',q1,q2,q3,?_⟩;rw[show ((i+1:Nat):Int)=(i:Int)+1 by omega,hlen]at IH;obtain⟨hX1,hX2,_⟩:=hX;obtain⟨hY1,hY2,_⟩:=wh (a++p::b);simp only[hf,ixI]at d3;simp only[zy.enc,z8.enc,List.map_cons,List.map_nil,show strs []=[] from rfl,hp0]at d2 d3;clear q3 hs hp hb hc hf hs';simp only[zG]at IH ⊢;unfold cuR at *;generalize ocE (z8.zq l')=E1 at *;generalize ocE (z8.zq (a++p::b))=E2 at *;generalize keyOf p=kp at *;obtain⟨name,version,source,sums,dev,zB⟩:=p;simp only at hp0 hks hkp d1 d2 d4;generalize zH.zq sums=es at *;refine zh func133 rfl rfl ?_;simp (disch:=(try simp only[LL]);omega) only[↓GO,↓DRW,GA,GX,ren,zj,za,refs,z7,cst,zm,isC,bin,una,z6,zd,blt,asArg,zg,zc,zf,z1,zn,unN,ze,zk,zb,GS,simprocAttr,zD,zE,yG,yA,yD,yC,yH,gh1,yz,yr,yu,zR,mkO,yn,yf,yg,mvC,unO,zX,yF,yB,yw,zI,yx,yv,zY,oc,oTs,oT,zQ,zQ.rowTs,yt,isL,E.BX,GZ,c0,d1,d2,d3,d4,h1,h2,hX1,hX2,hY1,hY2,hlt,hks,hkp,kO,lk,od,List.drop_zero,zi,zA,IH]
theorem hole2 (E:List (List V))(i k:Nat)(hik:i≠k)(ei ek:List V)(hi:E[i]? = some ei)(hk:E[k]? = some ek):∃ F:List V→List V→List (List V),E=F ei ek∧(∀ y,F y ek=E.set i y) ∧
 (∀ y z,(F y z)[i]? = some y)∧(∀ y z,(F y z)[k]? = some z)∧(∀ y z y',(F y z).set i y'=F y' z)∧(∀ y z z',(F y z).set k z'=F y z')∧(∀ y z,(F y z).length=E.length):=by
 have hil:=(List.getElem?_eq_some_iff.1 hi).1;have hkl:=(List.getElem?_eq_some_iff.1 hk).1;have self:∀ (L:List (List V)) (j:Nat) (x:List V),L[j]? = some x→L.set j x=L:=fun L j x h=>by
  apply List.ext_getElem?;intro m;rw[List.getElem?_set]
  split
  · rename_i e;subst e;rw[if_pos (List.getElem?_eq_some_iff.1 h).1,h]
  · rfl
 refine⟨fun y z=>(E.set i y).set k z,?_,fun y=>?_,fun y z=>?_,fun y z=>?_,fun y z y'=>?_,fun y z z'=>?_,fun y z=>by simp⟩
 · simp only[self E i ei hi,self E k ek hk]
 · exact self _ k ek (by rw[List.getElem?_set_ne hik];exact hk)
 · rw[List.getElem?_set_ne (Ne.symm hik),List.getElem?_set_self hil]
 · rw[List.getElem?_set_self (by simpa using hkl)]
 · simp only;rw[List.set_comm _ _ (Ne.symm hik),List.set_set]
 · simp only;rw[List.set_set]
theorem bU (E:List (List V))(i:Nat)(ei:List V)(hi:E[i]? = some ei):∃ F:List V→List (List V),E=F ei∧(∀ y,F y=E.set i y)∧(∀ y,(F y)[i]? = some y)∧(∀ y y',(F y).set i y'=F y')∧(∀ y,(F y).length=E.length):=by
 have hil:=(List.getElem?_eq_some_iff.1 hi).1;refine⟨fun y=>E.set i y,?_,fun y=>rfl,fun y=>List.getElem?_set_self hil,fun y y'=>by simp only;rw[List.set_set],fun y=>by simp⟩;apply List.ext_getElem?;intro m;simp only;rw[List.getElem?_set]
 split
 · rename_i e;subst e
   first|rw[if_pos hil,hi]|rw[hi]|simp[hi,hil]
 · rfl
theorem fe {l:List z8}{i:Nat}{x:z8}(h:l[i]? = some x):(ocE (z8.zq l))[i]? = some [V.t (.str x.name),.t (.str x.version),.t (.str x.source),.o (.list 2 (zH.zq x.sums)),.t (.bool x.dev),.o (.list 1 (strs x.zB))]:=by
 unfold ocE z8.zq;rw[List.getElem?_map,List.getElem?_map,h];rfl
theorem U9 (l:List z8)(i:Nat)(x:z8):ocE (z8.zq (l.set i x))=(ocE (z8.zq l)).set i [V.t (.str x.name),.t (.str x.version),.t (.str x.source),.o (.list 2 (zH.zq x.sums)),.t (.bool x.dev),.o (.list 1 (strs x.zB))]:=by
 unfold ocE z8.zq;rw[List.map_set,List.map_set];rfl
def smB (f:Nat→Nat)(l:List z8):Prop:=∀ (j:Nat) (x:z8),l[j]? = some x→smP (f j) x
theorem pW {k k':Nat}{p:z8}(h:smP k p)(hk:k≤k'):smP k' p:=⟨h.1,h.2.1,h.2.2.1,h.2.2.2.1,by have:=h.2.2.2.2.1;omega,h.2.2.2.2.2⟩
theorem iM {k:Nat}{p:z8}(h:smP k p):(keyOf p).length≤400:=by
 have:=Yh p;have h1:=h.1;have h2:=h.2.1;unfold keyOf;simp;omega
def vP (x:z8)(k:Str):z8:=⟨x.name,x.version,x.source,x.sums,x.dev,x.zB++[k]⟩
theorem WQ {j:Nat}{x:z8}{k:Str}(h:smP j x)(hk:k.length≤400):smP (j+1) (vP x k):=by
 obtain⟨h1,h2,h3,h4,h5,h6⟩:=h;refine⟨h1,h2,h3,h4,by simp[vP];omega,fun s hs=>?_⟩;simp only[vP,List.mem_append,List.mem_singleton]at hs;rcases hs with hs|rfl
 · exact h6 s hs
 · exact hk
theorem U4 (bs:List Int) (c:Cs) (l:List z8) (n i k:Nat) (tp:List (List T)) (cap:Option Nat) (xi xk:z8) (hi:l[i]? = some xi) (hk:l[k]? = some xk) (hn:n=l.length) (hn6:n≤8) (hbi:xi.y0≤4096) (hbk:xk.y0≤4096) (R:w7)
 (IH:EV prog pol (.loop 133 32034 1 [.ptr 0 0 0,.ptr 1 0 0,.ptr 2 0 0,.t (.int .i64 (i:Int)),.t (.int .i64 ((k:Int)+1))] [cuR bs c,.vs 2 [zG],.vs 2 [[.o (.list 1 tp),.sl 3 0 n cap]],.vs 6 (ocE (z8.zq (l.set i (vP xi (keyOf xk)))))])=some R)
 (c0:Cs) (hb:okB bs) (hc0:cok bs c0)
 (hd:(∃ (c1:Cs),c1=c∧i<k∧EV prog pol (.callO false 131 [.ptr 0 0 0,.t (.int .i64 4)] [cuR bs c0])=some (.call (.t (.bool true)) [cuR bs c])) ∨
  (∃ (c1:Cs),¬ i<k∧EV prog pol (.callO false 131 [.ptr 0 0 0,.t (.int .i64 4)] [cuR bs c0])=some (.call (.t (.bool true)) [cuR bs c1])∧EV prog pol (.callO false 131 [.ptr 0 0 0,.t (.int .i64 4)] [cuR bs c1])=some (.call (.t (.bool true)) [cuR bs c]))) :
 EV prog pol (.loop 133 32034 1 [.ptr 0 0 0,.ptr 1 0 0,.ptr 2 0 0,.t (.int .i64 (i:Int)),.t (.int .i64 (k:Int))] [cuR bs c0,.vs 2 [zG],.vs 2 [[.o (.list 1 tp),.sl 3 0 n cap]],.vs 6 (ocE (z8.zq l))])=some R:=by
 have hil:=(List.getElem?_eq_some_iff.1 hi).1;have hkl:=(List.getElem?_eq_some_iff.1 hk).1;have cA:decide ((k:Int)<(n:Int))=true:=by apply decide_eq_true;omega
 have cI:decide ((i:Int)<(n:Int))=true:=by apply decide_eq_true;omega
 have hkM:k<8:=by omega
 have hiM:i<8:=by omega
 have cI0:(0:Int)≤(i:Int):=by omega
 have cK0:(0:Int)≤(k:Int):=by omega
 have cI1:decide ((0:Int)≤(i:Int))=true:=by apply decide_eq_true;omega
 have cK1:decide ((0:Int)≤(k:Int))=true:=by apply decide_eq_true;omega
 have d1:=uQ xk (by omega);have hkk:=Yh xk;have hg1:=fe hi;have hg2:=fe hk;rw[U9]at IH;have hnR:=wh (l.set i (vP xi (keyOf xk)));rw[U9]at hnR;obtain⟨h1,h2,_⟩:=hnR;have hsI:=zH.zz xi.sums;have hsI2:=zo xi.zB;have htI:(zH.zq xi.sums).take xi.sums.length=zH.zq xi.sums:=List.take_of_length_le (by omega);have htI2:(strs xi.zB).take xi.zB.length=strs xi.zB:=List.take_of_length_le (by omega);have hfI:=xT xi.sums;have hfI2:=xj xi.zB;have hfI3:=xj (xi.zB++[keyOf xk]);have hnl:xi.zB.length≤4096:=by simp only[z8.y0]at hbi;omega
 rw[show strs (vP xi (keyOf xk)).zB=strs xi.zB++[[.str (keyOf xk)]] by simp[strs,vP]]at IH h1 h2;rw[show strs (xi.zB++[keyOf xk])=strs xi.zB++[[.str (keyOf xk)]] by simp[strs]]at hfI3;have htI3:(strs xi.zB++[[T.str (keyOf xk)]]).take (xi.zB.length+1)=strs xi.zB++[[T.str (keyOf xk)]]:=List.take_of_length_le (by simp[hsI2])
 by_cases hik:i=k
 · subst hik;obtain rfl:xi=xk:=by rw[hi]at hk;cases hk;rfl
   obtain⟨F,f1,f2,f3,f5,f7⟩:=bU _ i _ hg1;rw[← f2]at IH h1 h2;rw[f1];clear hg1 hg2 f1 f2 hi hk;simp only[vP]at IH h1 h2;simp only[z8.enc,List.map_cons,List.map_nil]at d1;have f8:∀ y,(F y).length=n:=fun y=>by rw[f7,vu,z8.zz,hn]
   clear f7 hil hkl hn;rcases hd with⟨c1,rfl,hlt,d2⟩|⟨c1,hlt,d2,d3⟩
   · exact absurd hlt (Nat.lt_irrefl _)
   have cG:decide ((i:Int) > (i:Int))=false:=by apply decide_eq_false;omega
   clear hb hc0 hbi hbk hlt;simp only[zG]at IH ⊢;unfold cuR at *;generalize keyOf xi=kx at *;obtain⟨name,version,source,sums,dev,zB⟩:=xi;simp only at *;generalize zH.zq sums=es1 at *;generalize strs zB=es2 at *;refine zh func133 rfl rfl ?_;simp (maxSteps:=1000000) (disch:=(try simp only[LL]);omega) only[↓GO,↓DRW,GA,GX,ren,zj,za,refs,z7,cst,zm,isC,bin,una,z6,zd,blt,asArg,zg,zc,zf,z1,zn,unN,ze,zk,zb,GS,simprocAttr,zD,zE,yG,yA,yD,yC,yH,gh1,yz,yr,yu,zR,mkO,yn,yf,yg,mvC,unO,zX,yF,yB,yw,zI,yx,yv,zY,oc,oTs,oT,zQ,zQ.rowTs,yt,isL,E.BX,GZ,cA,cI,cI0,cI1,cG,d1,d2,d3,f3,f5,f8,h1,h2,hsI,hsI2,htI,htI2,htI3,hfI,hfI2,hfI3,if_true,Int.toNat_natCast,Nat.zero_add,List.length_append,List.length_singleton,zi,y6,zA,IH]
   all_goals (refine zT (by kernel_rfl) ?_)
   all_goals first|rfl|(simp only[List.length_append,List.length_singleton,hsI2];rfl)
 · have hsK:=zH.zz xk.sums;have hsK2:=zo xk.zB;have htK:(zH.zq xk.sums).take xk.sums.length=zH.zq xk.sums:=List.take_of_length_le (by omega);have htK2:(strs xk.zB).take xk.zB.length=strs xk.zB:=List.take_of_length_le (by omega);have hfK:=xT xk.sums;have hfK2:=xj xk.zB;obtain⟨F,f1,f2,f3,f4,f5,f6,f7⟩:=hole2 _ i k hik _ _ hg1 hg2;rw[← f2]at IH h1 h2;rw[f1];clear hg1 hg2 f1 f2 hi hk;simp only[vP]at IH h1 h2;simp only[z8.enc,List.map_cons,List.map_nil]at d1;have f8:∀ y z,(F y z).length=n:=fun y z=>by rw[f7,vu,z8.zz,hn]
   clear f7 hil hkl hn;rcases hd with⟨c1,rfl,hlt,d2⟩|⟨c1,hlt,d2,d3⟩
   · have cG:decide ((k:Int) > (i:Int))=true:=by apply decide_eq_true;omega
     clear hb hc0 hbi hbk hlt hik;simp only[zG]at IH ⊢;unfold cuR at *;generalize keyOf xk=kx at *;obtain⟨name,version,source,sums,dev,zB⟩:=xi;obtain⟨name',version',source',sums',dev',needs'⟩:=xk;simp only at *;generalize zH.zq sums=es1 at *;generalize strs zB=es2 at *;generalize zH.zq sums'=es3 at *;generalize strs needs'=es4 at *;refine zh func133 rfl rfl ?_;simp (maxSteps:=1000000) (disch:=(try simp only[LL]);omega) only[↓GO,↓DRW,GA,GX,ren,zj,za,refs,z7,cst,zm,isC,bin,una,z6,zd,blt,asArg,zg,zc,zf,z1,zn,unN,ze,zk,zb,GS,simprocAttr,zD,zE,yG,yA,yD,yC,yH,gh1,yz,yr,yu,zR,mkO,yn,yf,yg,mvC,unO,zX,yF,yB,yw,zI,yx,yv,zY,oc,oTs,oT,zQ,zQ.rowTs,yt,isL,E.BX,GZ,cA,cI,cI0,cK0,cI1,cK1,cG,d1,d2,f3,f4,f5,f6,f8,h1,h2,hsI,hsI2,htI,htI2,htI3,hfI,hfI2,hfI3,hsK,hsK2,htK,htK2,hfK,hfK2,if_true,Int.toNat_natCast,Nat.zero_add,List.length_append,List.length_singleton,zi,y6,zA,IH]
     all_goals (refine zT (by kernel_rfl) ?_)
     all_goals first|rfl|(simp only[List.length_append,List.length_singleton,hsI2];rfl)
   · have cG:decide ((k:Int) > (i:Int))=false:=by apply decide_eq_false;omega
     clear hb hc0 hbi hbk hlt hik;simp only[zG]at IH ⊢;unfold cuR at *;generalize keyOf xk=kx at *;obtain⟨name,version,source,sums,dev,zB⟩:=xi;obtain⟨name',version',source',sums',dev',needs'⟩:=xk;simp only at *;generalize zH.zq sums=es1 at *;generalize strs zB=es2 at *;generalize zH.zq sums'=es3 at *;generalize strs needs'=es4 at *;refine zh func133 rfl rfl ?_;simp (maxSteps:=1000000) (disch:=(try simp only[LL]);omega) only[↓GO,↓DRW,GA,GX,ren,zj,za,refs,z7,cst,zm,isC,bin,una,z6,zd,blt,asArg,zg,zc,zf,z1,zn,unN,ze,zk,zb,GS,simprocAttr,zD,zE,yG,yA,yD,yC,yH,gh1,yz,yr,yu,zR,mkO,yn,yf,yg,mvC,unO,zX,yF,yB,yw,zI,yx,yv,zY,oc,oTs,oT,zQ,zQ.rowTs,yt,isL,E.BX,GZ,cA,cI,cI0,cK0,cI1,cK1,cG,d1,d2,d3,f3,f4,f5,f6,f8,h1,h2,hsI,hsI2,htI,htI2,htI3,hfI,hfI2,hfI3,hsK,hsK2,htK,htK2,hfK,hfK2,if_true,Int.toNat_natCast,Nat.zero_add,List.length_append,List.length_singleton,zi,y6,zA,IH]
     all_goals (refine zT (by kernel_rfl) ?_)
     all_goals first|rfl|(simp only[List.length_append,List.length_singleton,hsI2];rfl)
theorem U3 (bs:List Int) (c:Cs) (l:List z8) (n i k:Nat) (tp:List (List T)) (cap:Option Nat) (xi xk:z8) (hi:l[i]? = some xi) (hk:l[k]? = some xk) (hn:n=l.length) (hn6:n≤8) (R:w7)
 (IH:EV prog pol (.loop 133 32034 1 [.ptr 0 0 0,.ptr 1 0 0,.ptr 2 0 0,.t (.int .i64 (i:Int)),.t (.int .i64 ((k:Int)+1))] [cuR bs c,.vs 2 [zG],.vs 2 [[.o (.list 1 tp),.sl 3 0 n cap]],.vs 6 (ocE (z8.zq l))])=some R)
 (c0:Cs)
 (hd:EV prog pol (.callO false 131 [.ptr 0 0 0,.t (.int .i64 4)] [cuR bs c0])=some (.call (.t (.bool false)) [cuR bs c]) ∨
  (∃ (c1:Cs),¬ i<k∧EV prog pol (.callO false 131 [.ptr 0 0 0,.t (.int .i64 4)] [cuR bs c0])=some (.call (.t (.bool true)) [cuR bs c1])∧EV prog pol (.callO false 131 [.ptr 0 0 0,.t (.int .i64 4)] [cuR bs c1])=some (.call (.t (.bool false)) [cuR bs c]))) :
 EV prog pol (.loop 133 32034 1 [.ptr 0 0 0,.ptr 1 0 0,.ptr 2 0 0,.t (.int .i64 (i:Int)),.t (.int .i64 (k:Int))] [cuR bs c0,.vs 2 [zG],.vs 2 [[.o (.list 1 tp),.sl 3 0 n cap]],.vs 6 (ocE (z8.zq l))])=some R:=by
 have hil:=(List.getElem?_eq_some_iff.1 hi).1;have hkl:=(List.getElem?_eq_some_iff.1 hk).1;have cA:decide ((k:Int)<(n:Int))=true:=by apply decide_eq_true;omega
 have hkM:k<8:=by omega
 have hiM:i<8:=by omega
 have cI0:(0:Int)≤(i:Int):=by omega
 have cK0:(0:Int)≤(k:Int):=by omega
 have hg1:=fe hi;have hg2:=fe hk;have hself1:(ocE (z8.zq l)).set i [V.t (.str xi.name),.t (.str xi.version),.t (.str xi.source),.o (.list 2 (zH.zq xi.sums)),.t (.bool xi.dev),.o (.list 1 (strs xi.zB))]=ocE (z8.zq l):=by
  obtain⟨F,f1,f2,_⟩:=bU _ i _ hg1;rw[← f2,← f1]
 have hself2:(ocE (z8.zq l)).set k [V.t (.str xk.name),.t (.str xk.version),.t (.str xk.source),.o (.list 2 (zH.zq xk.sums)),.t (.bool xk.dev),.o (.list 1 (strs xk.zB))]=ocE (z8.zq l):=by
  obtain⟨F,f1,f2,_⟩:=bU _ k _ hg2;rw[← f2,← f1]
 obtain⟨h1,h2,_⟩:=wh l;clear hil hkl hn hi hk;simp only[zG]at IH ⊢;unfold cuR at *;obtain⟨name,version,source,sums,dev,zB⟩:=xi;obtain⟨name',version',source',sums',dev',needs'⟩:=xk;simp only at *;generalize zH.zq sums=es1 at *;generalize strs zB=es2 at *;generalize zH.zq sums'=es3 at *;generalize strs needs'=es4 at *;generalize ocE (z8.zq l)=E0 at *;rcases hd with d2|⟨c1,hlt,d2,d3⟩
 · refine zh func133 rfl rfl ?_;simp (maxSteps:=1000000) (disch:=(try simp only[LL]);omega) only[↓GO,↓DRW,GA,GX,ren,zj,za,refs,z7,cst,zm,isC,bin,una,z6,zd,blt,asArg,zg,zc,zf,z1,zn,unN,ze,zk,zb,GS,simprocAttr,zD,zE,yG,yA,yD,yC,yH,gh1,yz,yr,yu,zR,mkO,yn,yf,yg,mvC,unO,zX,yF,yB,yw,zI,yx,yv,zY,oc,oTs,oT,zQ,zQ.rowTs,yt,isL,E.BX,GZ,cA,cI0,cK0,d2,hg1,hg2,hself1,hself2,h1,h2,if_true,Int.toNat_natCast,Nat.zero_add,zi,y6,zA,IH]
 · have cG:decide ((k:Int) > (i:Int))=false:=by apply decide_eq_false;omega
   refine zh func133 rfl rfl ?_;simp (maxSteps:=1000000) (disch:=(try simp only[LL]);omega) only[↓GO,↓DRW,GA,GX,ren,zj,za,refs,z7,cst,zm,isC,bin,una,z6,zd,blt,asArg,zg,zc,zf,z1,zn,unN,ze,zk,zb,GS,simprocAttr,zD,zE,yG,yA,yD,yC,yH,gh1,yz,yr,yu,zR,mkO,yn,yf,yg,mvC,unO,zX,yF,yB,yw,zI,yx,yv,zY,oc,oTs,oT,zQ,zQ.rowTs,yt,isL,E.BX,GZ,cA,cI0,cK0,cG,d2,d3,hg1,hg2,hself1,hself2,h1,h2,if_true,Int.toNat_natCast,Nat.zero_add,zi,y6,zA,IH]
def bnd (i k:Nat)(j:Nat):Nat:=if j<i then 6 else if j=i then k else 0
theorem Zr {i k:Nat}{l:List z8}(h:smB (bnd i k) l)(hk:k≤8):Zq 8 l:=fun x hx=>by
 obtain⟨j,hj⟩:=List.mem_iff_getElem?.1 hx;exact pW (h j x hj) (by unfold bnd;(repeat' split)<;>omega)
theorem dG {i k:Nat}{l:List z8}(h:smB (bnd i k) l):smB (bnd i (k+1)) l:=fun j x hj=>pW (h j x hj) (by unfold bnd;(repeat' split)<;>omega)
theorem WB {i k:Nat}{l:List z8}{xi xk:z8}(h:smB (bnd i k) l)(hi:l[i]? = some xi)(hk:l[k]? = some xk):smB (bnd i (k+1)) (l.set i (vP xi (keyOf xk))):=fun j x hj=>by
 rw[List.getElem?_set]at hj
 split at hj
 · rename_i e;subst e
   split at hj
   · cases hj;have h1:=h i xi hi;rw[show bnd i k i=k by simp[bnd]]at h1;rw[show bnd i (k+1) i=k+1 by simp[bnd]];exact WQ h1 (iM (h k xk hk))
   · cases hj
 · exact dG h j x hj
theorem j8 (bs:List Int)(hb:okB bs)(n i:Nat)(tp:List (List T))(cap:Option Nat)(hn6:n≤6)(hin:i<n):∀ (m k:Nat) (c:Cs) (l:List z8),cok bs c→n=l.length→n=k+m→smB (bnd i k) l→∃ (c':Cs) (l':List z8),cok bs c'∧n=l'.length∧smB (bnd i n) l' ∧
 EV prog pol (.loop 133 32034 1 [.ptr 0 0 0,.ptr 1 0 0,.ptr 2 0 0,.t (.int .i64 (i:Int)),.t (.int .i64 (k:Int))] [cuR bs c,.vs 2 [zG],.vs 2 [[.o (.list 1 tp),.sl 3 0 n cap]],.vs 6 (ocE (z8.zq l))])
  = some (.loop (.exit 4) [.ptr 0 0 0,.ptr 1 0 0,.ptr 2 0 0,.t (.int .i64 (i:Int))] [cuR bs c',.vs 2 [zG],.vs 2 [[.o (.list 1 tp),.sl 3 0 n cap]],.vs 6 (ocE (z8.zq l'))])
 | 0,k,c,l,hc,hn,hk,hs=>by
  have c0:decide ((k:Int)<(n:Int))=false:=by apply decide_eq_false;omega
  refine⟨c,l,hc,hn,by rw[hk];exact hs,?_⟩;obtain⟨h1,h2,_⟩:=wh l;simp only[zG];unfold cuR;generalize ocE (z8.zq l)=E0 at *;clear hb hc hs hn;refine zh func133 rfl rfl ?_;simp (disch:=(try simp only[LL]);omega) only[↓GO,↓DRW,GA,GX,ren,zj,za,refs,z7,cst,zm,isC,bin,una,z6,zd,blt,asArg,zg,zc,zf,z1,zn,unN,ze,zk,zb,GS,simprocAttr,zD,zE,yG,yA,yD,yC,yH,gh1,yz,yr,yu,zR,mkO,yn,yf,yg,mvC,unO,zX,yF,yB,yw,zI,yx,yv,zY,oc,oTs,oT,zQ,zQ.rowTs,yt,isL,E.BX,GZ,c0,h1,h2,zA]
 | m + 1, k, c, l, hc, hn, hk, hs => by
  obtain⟨xi,hi⟩:∃ xi,l[i]? = some xi:=⟨_,List.getElem?_eq_getElem (by omega)⟩;obtain⟨xk,hxk⟩:∃ xk,l[k]? = some xk:=⟨_,List.getElem?_eq_getElem (by omega)⟩;have hall:=tG (Zr hs (by omega)) (by omega);have hbi:=hall xi (List.mem_of_getElem? hi);have hbk:=hall xk (List.mem_of_getElem? hxk);have edge:∀ c2,cok bs c2→∃ (c':Cs) (l':List z8),cok bs c'∧n=l'.length∧smB (bnd i n) l' ∧
   EV prog pol (.loop 133 32034 1 [.ptr 0 0 0,.ptr 1 0 0,.ptr 2 0 0,.t (.int .i64 (i:Int)),.t (.int .i64 ((k:Int)+1))] [cuR bs c2,.vs 2 [zG],.vs 2 [[.o (.list 1 tp),.sl 3 0 n cap]],.vs 6 (ocE (z8.zq (l.set i (vP xi (keyOf xk)))))])
    = some (.loop (.exit 4) [.ptr 0 0 0,.ptr 1 0 0,.ptr 2 0 0,.t (.int .i64 (i:Int))] [cuR bs c',.vs 2 [zG],.vs 2 [[.o (.list 1 tp),.sl 3 0 n cap]],.vs 6 (ocE (z8.zq l'))]):=fun c2 hc2=>by
   have:=j8 bs hb n i tp cap hn6 hin m (k+1) c2 (l.set i (vP xi (keyOf xk))) hc2 (by simpa using hn) (by omega) (WB hs hi hxk);rw[show ((k+1:Nat):Int)=(k:Int)+1 by omega]at this;exact this
  have skip:∀ c2,cok bs c2→∃ (c':Cs) (l':List z8),cok bs c'∧n=l'.length∧smB (bnd i n) l' ∧
   EV prog pol (.loop 133 32034 1 [.ptr 0 0 0,.ptr 1 0 0,.ptr 2 0 0,.t (.int .i64 (i:Int)),.t (.int .i64 ((k:Int)+1))] [cuR bs c2,.vs 2 [zG],.vs 2 [[.o (.list 1 tp),.sl 3 0 n cap]],.vs 6 (ocE (z8.zq l))])
    = some (.loop (.exit 4) [.ptr 0 0 0,.ptr 1 0 0,.ptr 2 0 0,.t (.int .i64 (i:Int))] [cuR bs c',.vs 2 [zG],.vs 2 [[.o (.list 1 tp),.sl 3 0 n cap]],.vs 6 (ocE (z8.zq l'))]):=fun c2 hc2=>by
   have:=j8 bs hb n i tp cap hn6 hin m (k+1) c2 l hc2 hn (by omega) (dG hs);rw[show ((k+1:Nat):Int)=(k:Int)+1 by omega]at this;exact this
  obtain⟨b,c1,hc1,d1⟩:=vR bs hb c hc 4 (by decide) (by decide);simp only[Int.cast_ofNat_Int]at d1
  cases b with
  | false =>
   obtain⟨c',l',q1,q2,q3,IH⟩:=skip c1 hc1;exact⟨c',l',q1,q2,q3,U3 bs c1 l n i k tp cap xi xk hi hxk hn (by omega) _ IH c (.inl d1)⟩
  | true =>
   by_cases hlt:i<k
   · obtain⟨c',l',q1,q2,q3,IH⟩:=edge c1 hc1;exact⟨c',l',q1,q2,q3,U4 bs c1 l n i k tp cap xi xk hi hxk hn (by omega) hbi hbk _ IH c hb hc (.inl ⟨c1,rfl,hlt,d1⟩)⟩
   · obtain⟨b,c2,hc2,d2⟩:=vR bs hb c1 hc1 4 (by decide) (by decide);simp only[Int.cast_ofNat_Int]at d2
     cases b with
     | false =>
      obtain⟨c',l',q1,q2,q3,IH⟩:=skip c2 hc2;exact⟨c',l',q1,q2,q3,U3 bs c2 l n i k tp cap xi xk hi hxk hn (by omega) _ IH c (.inr ⟨c1,hlt,d1,d2⟩)⟩
     | true =>
      obtain⟨c',l',q1,q2,q3,IH⟩:=edge c2 hc2;exact⟨c',l',q1,q2,q3,U4 bs c2 l n i k tp cap xi xk hi hxk hn (by omega) hbi hbk _ IH c hb hc (.inr ⟨c1,hlt,d1,d2⟩)⟩
theorem TG (bs:List Int) (n i:Nat) (cap:Option Nat) (c0 c1 c2:Cs) (l l1:List z8) (top:List Str) (xi:z8) (b:Bool) (hn:n=l.length) (hn1:n=l1.length) (hn6:n≤6) (hi:l1[i]? = some xi) (hbi:xi.y0≤4096) (ht:top.length≤6) (hki:(keyOf xi).length≤400) (R:w7)
 (hIn:EV prog pol (.loop 133 32034 1 [.ptr 0 0 0,.ptr 1 0 0,.ptr 2 0 0,.t (.int .i64 (i:Int)),.t (.int .i64 0)] [cuR bs c0,.vs 2 [zG],.vs 2 [[.o (.list 1 (strs top)),.sl 3 0 n cap]],.vs 6 (ocE (z8.zq l))])
  = some (.loop (.exit 4) [.ptr 0 0 0,.ptr 1 0 0,.ptr 2 0 0,.t (.int .i64 (i:Int))] [cuR bs c1,.vs 2 [zG],.vs 2 [[.o (.list 1 (strs top)),.sl 3 0 n cap]],.vs 6 (ocE (z8.zq l1))]))
 (d2:EV prog pol (.callO false 131 [.ptr 0 0 0,.t (.int .i64 2)] [cuR bs c1])=some (.call (.t (.bool b)) [cuR bs c2]))
 (IH:EV prog pol (.loop 133 250 1 [.ptr 0 0 0,.ptr 1 0 0,.ptr 2 0 0,.t (.int .i64 ((i:Int)+1))] [cuR bs c2,.vs 2 [zG],.vs 2 [[.o (.list 1 (strs (if b then top++[keyOf xi] else top))),.sl 3 0 n cap]],.vs 6 (ocE (z8.zq l1))])=some R) :
 EV prog pol (.loop 133 250 1 [.ptr 0 0 0,.ptr 1 0 0,.ptr 2 0 0,.t (.int .i64 (i:Int))] [cuR bs c0,.vs 2 [zG],.vs 2 [[.o (.list 1 (strs top)),.sl 3 0 n cap]],.vs 6 (ocE (z8.zq l))])=some R:=by
 have hil:=(List.getElem?_eq_some_iff.1 hi).1;have cA:decide ((i:Int)<(n:Int))=true:=by apply decide_eq_true;omega
 have hiM:i<8:=by omega
 have cI0:(0:Int)≤(i:Int):=by omega
 have cI1:decide ((0:Int)≤(i:Int))=true:=by apply decide_eq_true;omega
 have hnl:n≤6:=hn6;have d1:=uQ xi (by omega);have hg:=fe hi;obtain⟨h1,h2,_⟩:=wh l;obtain⟨h3,h4,_⟩:=wh l1;have hsI:=zH.zz xi.sums;have hsI2:=zo xi.zB;have htI:(zH.zq xi.sums).take xi.sums.length=zH.zq xi.sums:=List.take_of_length_le (by omega);have htI2:(strs xi.zB).take xi.zB.length=strs xi.zB:=List.take_of_length_le (by omega);have hfI:=xT xi.sums;have hfI2:=xj xi.zB;have hT:=zo top;have hT2:(strs top).take top.length=strs top:=List.take_of_length_le (by omega);have hT3:=xj top;have hT4:=xj (top++[keyOf xi]);rw[show strs (top++[keyOf xi])=strs top++[[.str (keyOf xi)]] by simp[strs]]at hT4;have hT5:(strs top++[[T.str (keyOf xi)]]).take (top.length+1)=strs top++[[T.str (keyOf xi)]]:=List.take_of_length_le (by simp[hT]);obtain⟨F,f1,f2,f3,f5,f7⟩:=bU _ i _ hg;rw[f1]at hIn IH h3 h4;have f8:∀ y,(F y).length=n:=fun y=>by rw[f7,vu,z8.zz,hn1]
 simp only[z8.enc,List.map_cons,List.map_nil]at d1;clear hg f1 f2 f7 hil hi hn hn1 hbi
 cases b with
 | false =>
  simp only[Bool.false_eq_true,if_false]at IH;simp only[zG]at hIn IH ⊢;unfold cuR at *;generalize ocE (z8.zq l)=E0 at *;generalize strs top=tp at *;generalize keyOf xi=kx at *;obtain⟨name,version,source,sums,dev,zB⟩:=xi;simp only at *;generalize zH.zq sums=es1 at *;generalize strs zB=es2 at *;refine zh func133 rfl rfl ?_;simp (maxSteps:=1000000) (disch:=(try simp only[LL]);omega) only[↓GO,↓DRW,GA,GX,ren,zj,za,refs,z7,cst,zm,isC,bin,una,z6,zd,blt,asArg,zg,zc,zf,z1,zn,unN,ze,zk,zb,GS,simprocAttr,zD,zE,yG,yA,yD,yC,yH,gh1,yz,yr,yu,zR,mkO,yn,yf,yg,mvC,unO,zX,yF,yB,yw,zI,yx,yv,zY,oc,oTs,oT,zQ,zQ.rowTs,yt,isL,E.BX,GZ,cA,cI0,cI1,hIn,d1,d2,f3,f5,f8,h1,h2,h3,h4,hsI,hsI2,htI,htI2,hfI,hfI2,hT,hT2,hT3,if_true,Int.toNat_natCast,Nat.zero_add,zi,y6,zA,IH]
 | true =>
  simp only[if_true]at IH;rw[show strs (top++[keyOf xi])=strs top++[[.str (keyOf xi)]] by simp[strs]]at IH;simp only[zG]at hIn IH ⊢;unfold cuR at *;generalize ocE (z8.zq l)=E0 at *;generalize strs top=tp at *;generalize keyOf xi=kx at *;obtain⟨name,version,source,sums,dev,zB⟩:=xi;simp only at *;generalize zH.zq sums=es1 at *;generalize strs zB=es2 at *;refine zh func133 rfl rfl ?_;simp (maxSteps:=1000000) (disch:=(try simp only[LL]);omega) only[↓GO,↓DRW,GA,GX,ren,zj,za,refs,z7,cst,zm,isC,bin,una,z6,zd,blt,asArg,zg,zc,zf,z1,zn,unN,ze,zk,zb,GS,simprocAttr,zD,zE,yG,yA,yD,yC,yH,gh1,yz,yr,yu,zR,mkO,yn,yf,yg,mvC,unO,zX,yF,yB,yw,zI,yx,yv,zY,oc,oTs,oT,zQ,zQ.rowTs,yt,isL,E.BX,GZ,cA,cI0,cI1,hIn,d1,d2,f3,f5,f8,h1,h2,h3,h4,hsI,hsI2,htI,htI2,hfI,hfI2,hT,hT2,hT3,hT4,hT5,if_true,Int.toNat_natCast,Nat.zero_add,List.length_append,List.length_singleton,zi,y6,zA,IH]
  all_goals (refine zT (by kernel_rfl) ?_)
  all_goals first|rfl|exact IH
theorem WA {i n:Nat}{l:List z8}(h:smB (bnd i n) l)(hn:n≤6):smB (bnd (i+1) 0) l:=fun j x hj=>pW (h j x hj) (by unfold bnd;(repeat' split)<;>omega)
theorem cJ (bs:List Int)(hb:okB bs)(n:Nat)(cap:Option Nat)(hn6:n≤6):∀ (m i:Nat) (c:Cs) (l:List z8) (top:List Str),cok bs c→n=l.length→n=i+m→smB (bnd i 0) l→top.length≤i→(∀ s∈top,s.length≤400)→∃ (c':Cs) (l':List z8) (top':List Str),cok bs c'∧n=l'.length∧smB (bnd n 0) l'∧top'.length≤n∧(∀ s∈top',s.length≤400) ∧
 EV prog pol (.loop 133 250 1 [.ptr 0 0 0,.ptr 1 0 0,.ptr 2 0 0,.t (.int .i64 (i:Int))] [cuR bs c,.vs 2 [zG],.vs 2 [[.o (.list 1 (strs top)),.sl 3 0 n cap]],.vs 6 (ocE (z8.zq l))])
  = some (.loop (.exit 2) [.ptr 1 0 0,.ptr 2 0 0] [cuR bs c',.vs 2 [zG],.vs 2 [[.o (.list 1 (strs top')),.sl 3 0 n cap]],.vs 6 (ocE (z8.zq l'))])
 | 0,i,c,l,top,hc,hn,hi,hs,ht,ht2=>by
  have c0:decide ((i:Int)<(n:Int))=false:=by apply decide_eq_false;omega
  refine⟨c,l,top,hc,hn,by rw[hi];exact hs,by omega,ht2,?_⟩;obtain⟨h1,h2,_⟩:=wh l;simp only[zG];unfold cuR;generalize ocE (z8.zq l)=E0 at *;clear hb hc hs hn;refine zh func133 rfl rfl ?_;simp (disch:=(try simp only[LL]);omega) only[↓GO,↓DRW,GA,GX,ren,zj,za,refs,z7,cst,zm,isC,bin,una,z6,zd,blt,asArg,zg,zc,zf,z1,zn,unN,ze,zk,zb,GS,simprocAttr,zD,zE,yG,yA,yD,yC,yH,gh1,yz,yr,yu,zR,mkO,yn,yf,yg,mvC,unO,zX,yF,yB,yw,zI,yx,yv,zY,oc,oTs,oT,zQ,zQ.rowTs,yt,isL,E.BX,GZ,c0,h1,h2,zA]
 | m + 1, i, c, l, top, hc, hn, hi, hs, ht, ht2 => by
  obtain⟨c1,l1,hc1,hn1,hs1,hIn⟩:=j8 bs hb n i (strs top) cap hn6 (by omega) n 0 c l hc hn (by omega) (by exact hs);simp only[Int.natCast_zero]at hIn;obtain⟨xi,hxi⟩:∃ xi,l1[i]? = some xi:=⟨_,List.getElem?_eq_getElem (by omega)⟩;have hbi:=tG (Zr hs1 (by omega)) (by omega) xi (List.mem_of_getElem? hxi);have hki:=iM (hs1 i xi hxi);obtain⟨b,c2,hc2,d2⟩:=vR bs hb c1 hc1 2 (by decide) (by decide);simp only[Int.cast_ofNat_Int]at d2;obtain⟨c',l',top',q1,q2,q3,q4,q5,IH⟩:=cJ bs hb n cap hn6 m (i+1) c2 l1 (if b then top++[keyOf xi] else top) hc2 hn1 (by omega) (WA hs1 hn6) (by cases b<;>simp<;>omega) (fun s hs=>by
   cases b with
   | false=>exact ht2 s (by simpa using hs)
   | true =>
    simp only[if_true,List.mem_append,List.mem_singleton]at hs;rcases hs with hs|rfl
    · exact ht2 s hs
    · exact hki)
  rw[show ((i+1:Nat):Int)=(i:Int)+1 by omega]at IH;exact⟨c',l',top',q1,q2,q3,q4,q5,TG bs n i cap c c1 c2 l l1 top xi b hn hn1 hn6 hxi hbi (by omega) hki _ hIn d2 IH⟩
theorem Vk (bs:List Int)(hb:okB bs)(c:Cs)(hc:cok bs c):∃ (c':Cs) (l:List z8) (top:List Str) (cap:Option Nat),cok bs c'∧l.length≤6∧Zq 6 l∧top.length≤6∧(∀ s∈top,s.length≤400) ∧
 EV prog pol (.callO false 133 [.ptr 0 0 0] [cuR bs c])=some (.call (.agg [.sl 1 0 top.length none,.sl 2 0 l.length cap]) [cuR bs c',.ts 1 (strs top),.vs 6 (ocE (z8.zq l))]):=by
 obtain⟨n,c1,hn,hc1,d1⟩:=qu bs hb c hc 6 (by decide) (by decide);simp only[Int.cast_ofNat_Int]at d1;obtain⟨c2,l,cap,hc2,hl,hs,L1⟩:=j9 bs hb n (by omega) n 0 c1 [] none hc1 (by omega) (by simp) (fun x hx=>by simp at hx);obtain⟨c3,l2,top,hc3,hl2,hs2,ht,ht2,L2⟩:=cJ bs hb l.length cap (by omega) l.length 0 c2 l [] hc2 rfl (by omega) (fun j x hj=>by rw[show bnd 0 0 j=0 by unfold bnd;(repeat' split)<;>omega];exact hs x (List.mem_of_getElem? hj)) (by simp) (by simp);refine⟨c3,l2,top,cap,hc3,by omega,fun x hx=>?_,by omega,ht2,?_⟩
 · obtain⟨j,hj⟩:=List.mem_iff_getElem?.1 hx;exact pW (hs2 j x hj) (by unfold bnd;(repeat' split)<;>omega)
 obtain⟨h1,h2,_⟩:=wh l;obtain⟨h3,h4,_⟩:=wh l2;have hT:=zo top;have hT2:(strs top).take top.length=strs top:=List.take_of_length_le (by omega);have hT3:=xj top;rw[hl2]at L2;rw[show l2.length=l.length from hl2.symm];rw[show l2.length=l.length from hl2.symm]at L2;simp only[List.length_nil,Int.natCast_zero,show strs []=[] from rfl,show z8.zq []=[] from rfl,show ocE []=[] from rfl]at L1 L2;clear hb hs hs2 hn hl ht ht2;simp only[zG]at L1 L2;unfold cuR at *;generalize ocE (z8.zq l)=E0 at *;generalize ocE (z8.zq l2)=E1 at *;generalize strs top=tp at *;refine zM func133 rfl (by kernel_rfl) ?_;unfold Tryz.f133;simp (maxSteps:=1000000) (disch:=(try simp only[LL]);omega) only[↓GO,↓DRW,GA,GX,ren,zj,za,refs,z7,cst,zm,isC,bin,una,z6,zd,blt,asArg,zg,zc,zf,z1,zn,unN,ze,zk,zb,GS,simprocAttr,zD,zE,yG,yA,yD,yC,yH,gh1,yz,yr,yu,zR,mkO,yn,yf,yg,mvC,unO,zX,yF,yB,yw,zI,yx,yv,zY,oc,oTs,oT,zQ,zQ.rowTs,yt,isL,E.BX,GZ,d1,L1,L2,h1,h2,h3,h4,hT,hT2,hT3,if_true,Int.toNat_natCast,Nat.zero_add,zA]
theorem Yr:∀ (E:List (List V)) (X:List (List T)) (i:Nat) (y:List V) (z:List T),gvE E=some X→oN y=some z→gvE (E.set i y)=some (X.set i z)
 | [],X,i,y,z,h,hz=>by simp only[gvE]at h;cases h;rfl
 | c :: E, X, i, y, z, h, hz => by
  simp only[gvE]at h
  cases hc:oN c with
  | none=>rw[hc]at h;cases h
  | some x =>
   rw[hc]at h
   cases hE:gvE E with
   | none=>rw[hE]at h;cases h
   | some xs =>
    rw[hE]at h
    cases h
    cases i with
    | zero=>simp only[List.set_cons_zero,gvE,hz,hE]
    | succ i=>simp only[List.set_cons_succ,gvE,hc,Yr E xs i y z hE hz]
theorem fO:∀ (E:List (List V)) (X:List (List T)) (y:List V) (z:List T),gvE E=some X→oN y=some z→gvE (E++[y])=some (X++[z])
 | [],X,y,z,h,hz=>by simp only[gvE]at h;cases h;simp[gvE,hz]
 | c :: E, X, y, z, h, hz => by
  simp only[gvE]at h
  cases hc:oN c with
  | none=>rw[hc]at h;cases h
  | some x =>
   rw[hc]at h
   cases hE:gvE E with
   | none=>rw[hE]at h;cases h
   | some xs =>
    rw[hE]at h
    cases h;simp only[List.cons_append,gvE,hc,fO E xs y z hE hz]
def GSm (g:zy):Prop:=g.packs.length≤7∧g.y0≤65536
theorem sJ (top:List Str)(l:List z8)(h1:l.length≤7)(h2:∀ x∈l,x.y0≤8192)(h3:top.length≤7)(h4:∀ s∈top,s.length≤400):GSm ⟨top,l⟩:=by
 have e1:=rP 8192 l h2;have e2:=pV 400 top h4;refine⟨h1,?_⟩;unfold zy.y0;simp only;omega
theorem rf {l:List z8}{i:Nat}{x:z8}(h:∀ y∈l,y.y0≤4096)(hx:x.y0≤8192):∀ y∈l.set i x,y.y0≤8192:=fun y hy=>by
 rcases List.mem_or_eq_of_mem_set hy with hy|rfl
 · have:=h y hy;omega
 · exact hx
theorem oB (l:List z8)(i:Nat)(x:z8):z8.zq (l.set i x)=(z8.zq l).set i x.enc:=by unfold z8.zq;rw[List.map_set]
theorem gF:∀ (a b:List Str),yc (a++b)=yc a+yc b
 | [],b=>by simp[yc]
 | x::a,b=>by simp only[List.cons_append,yc,gF a b];omega
theorem ib:∀ (a b:List zH),zH.yp (a++b)=zH.yp a+zH.yp b
 | [],b=>by simp[zH.yp]
 | x::a,b=>by simp only[List.cons_append,zH.yp,ib a b];omega
theorem RX (bs:List Int)(hb:okB bs)(c:Cs)(hc:cok bs c):∃ (c':Cs) (g:zy),cok bs c'∧GSm g ∧
 EV prog pol (.callO true 50 [.ptr 0 0 0] [cuR bs c])=some (.call (.agg (g.enc.map .t)) [cuR bs c']):=by
 obtain⟨c1,l,top,cap,hc1,hl,hs,ht,ht2,d1⟩:=Vk bs hb c hc;have hbk:=tG hs (by omega);obtain⟨h1,h2,_⟩:=wh l;have hT:=zo top;have hT2:(strs top).take top.length=strs top:=List.take_of_length_le (by omega);have hT3:=xj top;have hgE:=Z3 (z8.zq l);have hEt:(z8.zq l).take l.length=z8.zq l:=List.take_of_length_le (by rw[z8.zz];exact Nat.le_refl _)
 by_cases hn0:l.length=0
 · refine⟨c1,⟨top,l⟩,hc1,sJ top l (by omega) (fun x hx=>by have:=hbk x hx;omega) (by omega) ht2,?_⟩;have cz:((l.length:Int)==0)=true:=by rw[hn0];rfl
   simp only[zy.enc,List.map_cons,List.map_nil];clear hb hs hbk;unfold cuR at *;generalize ocE (z8.zq l)=E0 at *;generalize z8.zq l=X0 at *;generalize strs top=tp at *;refine zM func50 rfl (by kernel_rfl) ?_;unfold Tryz.f50;simp (maxSteps:=1000000) (disch:=(try simp only[LL]);omega) only[↓GO,↓DRW,GA,GX,ren,zj,za,refs,z7,cst,zm,isC,bin,una,z6,zd,blt,asArg,zg,zc,zf,z1,zn,unN,ze,zk,zb,GS,simprocAttr,zD,zE,yG,yA,yD,yC,yH,gh1,yz,yr,yu,zR,mkO,yn,yf,yg,mvC,unO,zX,yF,yB,yw,zI,yx,yv,zY,oc,oTs,oT,zQ,zQ.rowTs,yt,isL,E.BX,GZ,d1,cz,h1,h2,hT,hT2,hT3,hgE,hEt,if_true,Int.toNat_natCast,Nat.zero_add,zA]
 have cz:((l.length:Int)==0)=false:=by rw[beq_eq_false_iff_ne];omega
 obtain⟨i,c2,hi,hc2,d2⟩:=qu bs hb c1 hc1 l.length (by omega) (by omega);obtain⟨v,c3,hv,hc3,d3⟩:=qu bs hb c2 hc2 20 (by decide) (by decide);simp only[Int.cast_ofNat_Int]at d3;obtain⟨xi,hxi⟩:∃ xi,l[i]? = some xi:=⟨_,List.getElem?_eq_getElem hi⟩;have hbi:=hbk xi (List.mem_of_getElem? hxi);have hg:=fe hxi;have hsI:=zH.zz xi.sums;have hsI2:=zo xi.zB;have htI:(zH.zq xi.sums).take xi.sums.length=zH.zq xi.sums:=List.take_of_length_le (by omega);have htI2:(strs xi.zB).take xi.zB.length=strs xi.zB:=List.take_of_length_le (by omega);have hfI:=xT xi.sums;have hfI2:=xj xi.zB;have cI0:(0:Int)≤(i:Int):=by omega
 have cI1:decide ((0:Int)≤(i:Int))=true:=by apply decide_eq_true;omega
 have cI:decide ((i:Int)<(l.length:Int))=true:=by apply decide_eq_true;omega
 obtain⟨F,f1,f2,f3,f5,f7⟩:=bU _ i _ hg;have f8:∀ y,(F y).length=l.length:=fun y=>by rw[f7,vu,z8.zz]
 have hset:∀ (y:List V) (x:z8),oN y=some x.enc→gvE (F y)=some (z8.zq (l.set i x)):=fun y x h=>by
  rw[f2,oB];exact Yr _ _ _ _ _ hgE h
 have hEs:∀ x,(z8.zq (l.set i x)).take l.length=z8.zq (l.set i x):=fun x=>List.take_of_length_le (by rw[z8.zz];simp)
 rw[f1]at d1 h1 h2;have hgF:=hset [.t (.str xi.name),.t (.str xi.version),.t (.str xi.source),.o (.list 2 (zH.zq xi.sums)),.t (.bool xi.dev),.o (.list 1 (strs xi.zB))] xi rfl;have hself:l.set i xi=l:=by
  apply List.ext_getElem?;intro m;rw[List.getElem?_set]
  split
  · rename_i e;subst e;first|rw[if_pos hi,hxi]|rw[hxi]|simp[hi,hxi]
  · rfl
 rw[hself]at hgF
 by_cases hv7:7≤v
 · refine⟨c3,⟨top,l⟩,hc3,sJ top l (by omega) (fun x hx=>by have:=hbk x hx;omega) (by omega) ht2,?_⟩;have e0:((v:Int)==0)=false:=by rw[beq_eq_false_iff_ne];omega
   have e1:((v:Int)==1)=false:=by rw[beq_eq_false_iff_ne];omega
   have e2:((v:Int)==2)=false:=by rw[beq_eq_false_iff_ne];omega
   have e3:((v:Int)==3)=false:=by rw[beq_eq_false_iff_ne];omega
   have e4:((v:Int)==4)=false:=by rw[beq_eq_false_iff_ne];omega
   have e5:((v:Int)==5)=false:=by rw[beq_eq_false_iff_ne];omega
   have e6:((v:Int)==6)=false:=by rw[beq_eq_false_iff_ne];omega
   simp only[zy.enc,List.map_cons,List.map_nil];clear hb hs hbk hbi hset hEs hself f1 f2 f7 hg hxi hgE;unfold cuR at *;generalize z8.zq l=X0 at *;generalize strs top=tp at *;obtain⟨name,version,source,sums,dev,zB⟩:=xi;simp only at *;generalize zH.zq sums=es1 at *;generalize strs zB=es2 at *;refine zM func50 rfl (by kernel_rfl) ?_;unfold Tryz.f50;simp (maxSteps:=1000000) (disch:=(try simp only[LL]);omega) only[↓GO,↓DRW,GA,GX,ren,zj,za,refs,z7,cst,zm,isC,bin,una,z6,zd,blt,asArg,zg,zc,zf,z1,zn,unN,ze,zk,zb,GS,simprocAttr,zD,zE,yG,yA,yD,yC,yH,gh1,yz,yr,yu,zR,mkO,yn,yf,yg,mvC,unO,zX,yF,yB,yw,zI,yx,yv,zY,oc,oTs,oT,zQ,zQ.rowTs,yt,isL,E.BX,GZ,d1,d2,d3,cz,cI0,cI1,cI,e0,e1,e2,e3,e4,e5,e6,f3,f5,f8,h1,h2,hT,hT2,hT3,hgF,hEt,if_true,Int.toNat_natCast,Nat.zero_add,zA]
 by_cases hv0:v=0
 · have e0:((v:Int)==0)=true:=by rw[beq_iff_eq];omega
   obtain⟨s,c4,hsl,hc4,d4⟩:=c_odd bs hb c3 hc3;refine⟨c4,⟨top,l.set i ⟨s,xi.version,xi.source,xi.sums,xi.dev,xi.zB⟩⟩,hc4,sJ _ _ (by simp;omega) (rf hbk (by simp only[z8.y0]at hbi ⊢;omega)) (by omega) ht2,?_⟩;have hgX:=hset [.t (.str s),.t (.str xi.version),.t (.str xi.source),.o (.list 2 (zH.zq xi.sums)),.t (.bool xi.dev),.o (.list 1 (strs xi.zB))] ⟨s,xi.version,xi.source,xi.sums,xi.dev,xi.zB⟩ rfl;have hEX:=hEs ⟨s,xi.version,xi.source,xi.sums,xi.dev,xi.zB⟩;simp only[zy.enc,List.map_cons,List.map_nil];clear hb hs hbk hbi hself f1 f2 f7 hg hxi hgE hset;unfold cuR at *;generalize z8.zq (l.set i ⟨s,xi.version,xi.source,xi.sums,xi.dev,xi.zB⟩)=X1 at *;generalize strs top=tp at *;obtain⟨name,version,source,sums,dev,zB⟩:=xi;simp only at *;generalize zH.zq sums=es1 at *;generalize strs zB=es2 at *;refine zM func50 rfl (by kernel_rfl) ?_;unfold Tryz.f50;simp (maxSteps:=1000000) (disch:=(try simp only[LL]);omega) only[↓GO,↓DRW,GA,GX,ren,zj,za,refs,z7,cst,zm,isC,bin,una,z6,zd,blt,asArg,zg,zc,zf,z1,zn,unN,ze,zk,zb,GS,simprocAttr,zD,zE,yG,yA,yD,yC,yH,gh1,yz,yr,yu,zR,mkO,yn,yf,yg,mvC,unO,zX,yF,yB,yw,zI,yx,yv,zY,oc,oTs,oT,zQ,zQ.rowTs,yt,isL,E.BX,GZ,d1,d2,d3,d4,cz,cI0,cI1,cI,e0,f3,f5,f8,h1,h2,hT,hT2,hT3,hsI,hsI2,htI,htI2,hfI,hfI2,hgX,hEX,hgF,hEt,if_true,Int.toNat_natCast,Nat.zero_add,List.length_append,List.length_singleton,y6,zA]
   all_goals (refine zT (by kernel_rfl) ?_)
   all_goals first|rfl
 by_cases hv1:v=1
 · have e0:((v:Int)==0)=false:=by rw[beq_eq_false_iff_ne];omega
   have e1:((v:Int)==1)=true:=by rw[beq_iff_eq];omega
   obtain⟨s,c4,hsm,hc4,d4⟩:=uP bs hb c3 hc3 [[49],[],[49,46,48,46,48,45],[50,46,48,46,48]] 4 rfl (by decide) (by decide) (some 4);have hsl:s.length≤32:=by
    simp only[List.mem_cons,List.not_mem_nil,or_false]at hsm;rcases hsm with rfl|rfl|rfl|rfl<;>decide
   clear hsm;simp only[strs,List.map_cons,List.map_nil]at d4;refine⟨c4,⟨top,l.set i ⟨xi.name,s,xi.source,xi.sums,xi.dev,xi.zB⟩⟩,hc4,sJ _ _ (by simp;omega) (rf hbk (by simp only[z8.y0]at hbi ⊢;omega)) (by omega) ht2,?_⟩;have hgX:=hset [.t (.str xi.name),.t (.str s),.t (.str xi.source),.o (.list 2 (zH.zq xi.sums)),.t (.bool xi.dev),.o (.list 1 (strs xi.zB))] ⟨xi.name,s,xi.source,xi.sums,xi.dev,xi.zB⟩ rfl;have hEX:=hEs ⟨xi.name,s,xi.source,xi.sums,xi.dev,xi.zB⟩;simp only[zy.enc,List.map_cons,List.map_nil];clear hb hs hbk hbi hself f1 f2 f7 hg hxi hgE hset;unfold cuR at *;generalize z8.zq (l.set i ⟨xi.name,s,xi.source,xi.sums,xi.dev,xi.zB⟩)=X1 at *;generalize strs top=tp at *;obtain⟨name,version,source,sums,dev,zB⟩:=xi;simp only at *;generalize zH.zq sums=es1 at *;generalize strs zB=es2 at *;refine zM func50 rfl (by kernel_rfl) ?_;unfold Tryz.f50;simp (maxSteps:=1000000) (disch:=(try simp only[LL]);omega) only[↓GO,↓DRW,GA,GX,ren,zj,za,refs,z7,cst,zm,isC,bin,una,z6,zd,blt,asArg,zg,zc,zf,z1,zn,unN,ze,zk,zb,GS,simprocAttr,zD,zE,yG,yA,yD,yC,yH,gh1,yz,yr,yu,zR,mkO,yn,yf,yg,mvC,unO,zX,yF,yB,yw,zI,yx,yv,zY,oc,oTs,oT,zQ,zQ.rowTs,yt,isL,E.BX,GZ,d1,d2,d3,d4,cz,cI0,cI1,cI,e0,e1,f3,f5,f8,h1,h2,hT,hT2,hT3,hsI,hsI2,htI,htI2,hfI,hfI2,hgX,hEX,hgF,hEt,if_true,Int.toNat_natCast,Nat.zero_add,List.length_append,List.length_singleton,y6,zA]
   all_goals (refine zT (by kernel_rfl) ?_)
   all_goals first|rfl
 by_cases hv2:v=2
 · have e0:((v:Int)==0)=false:=by rw[beq_eq_false_iff_ne];omega
   have e1:((v:Int)==1)=false:=by rw[beq_eq_false_iff_ne];omega
   have e2:((v:Int)==2)=true:=by rw[beq_iff_eq];omega
   refine⟨c3,⟨top,l.set i (vP xi [122,122,64,49,46,48,46,48])⟩,hc3,sJ _ _ (by simp;omega) (rf hbk (by simp only[z8.y0,vP]at hbi ⊢;rw[show yc (xi.zB++[[122,122,64,49,46,48,46,48]])=yc xi.zB+8 by rw[gF];rfl];simp;omega)) (by omega) ht2,?_⟩;have hgX:=hset [.t (.str xi.name),.t (.str xi.version),.t (.str xi.source),.o (.list 2 (zH.zq xi.sums)),.t (.bool xi.dev),.t (.list 1 (strs xi.zB++[[.str [122,122,64,49,46,48,46,48]]]))] (vP xi [122,122,64,49,46,48,46,48]) (by simp[oN,gvC,z8.enc,vP,strs]);have hEX:=hEs (vP xi [122,122,64,49,46,48,46,48]);have htN:(strs xi.zB++[[T.str [122,122,64,49,46,48,46,48]]]).take (xi.zB.length+1)=strs xi.zB++[[T.str [122,122,64,49,46,48,46,48]]]:=List.take_of_length_le (by simp[hsI2]);have hnl:xi.zB.length≤4096:=by simp only[z8.y0]at hbi;omega
   simp only[zy.enc,List.map_cons,List.map_nil];clear hb hs hbk hbi hself f1 f2 f7 hg hxi hgE hset;unfold cuR at *;generalize z8.zq (l.set i (vP xi [122,122,64,49,46,48,46,48]))=X1 at *;generalize strs top=tp at *;obtain⟨name,version,source,sums,dev,zB⟩:=xi;simp only at *;generalize zH.zq sums=es1 at *;generalize strs zB=es2 at *;refine zM func50 rfl (by kernel_rfl) ?_;unfold Tryz.f50;simp (maxSteps:=1000000) (disch:=(try simp only[LL]);omega) only[↓GO,↓DRW,GA,GX,ren,zj,za,refs,z7,cst,zm,isC,bin,una,z6,zd,blt,asArg,zg,zc,zf,z1,zn,unN,ze,zk,zb,GS,simprocAttr,zD,zE,yG,yA,yD,yC,yH,gh1,yz,yr,yu,zR,mkO,yn,yf,yg,mvC,unO,zX,yF,yB,yw,zI,yx,yv,zY,oc,oTs,oT,zQ,zQ.rowTs,yt,isL,E.BX,GZ,d1,d2,d3,htN,cz,cI0,cI1,cI,e0,e1,e2,f3,f5,f8,h1,h2,hT,hT2,hT3,hsI,hsI2,htI,htI2,hfI,hfI2,hgX,hEX,hgF,hEt,if_true,Int.toNat_natCast,Nat.zero_add,List.length_append,List.length_singleton,y6,zA]
   all_goals (refine zT (by kernel_rfl) ?_)
   all_goals first|rfl
 by_cases hv3:v=3
 · have e0:((v:Int)==0)=false:=by rw[beq_eq_false_iff_ne];omega
   have e1:((v:Int)==1)=false:=by rw[beq_eq_false_iff_ne];omega
   have e2:((v:Int)==2)=false:=by rw[beq_eq_false_iff_ne];omega
   have e3:((v:Int)==3)=true:=by rw[beq_iff_eq];omega
   refine⟨c3,⟨top++[[97,64,48,46,48,46,48]],l⟩,hc3,sJ _ _ (by omega) (fun x hx=>by have:=hbk x hx;omega) (by simp;omega) (fun s hs=>by
    simp only[List.mem_append,List.mem_singleton]at hs;rcases hs with hs|rfl
    · exact ht2 s hs
    · decide),?_⟩
   simp only[zy.enc,List.map_cons,List.map_nil];have hgX:=hgF;have hEX:=hEt;have hTA:(strs top++[[T.str [97,64,48,46,48,46,48]]]).take (top.length+1)=strs top++[[T.str [97,64,48,46,48,46,48]]]:=List.take_of_length_le (by simp[hT]);rw[show strs (top++[[97,64,48,46,48,46,48]])=strs top++[[.str [97,64,48,46,48,46,48]]] by simp[strs]];clear hb hs hbk hbi hself f1 f2 f7 hg hxi hgE hset;unfold cuR at *;generalize z8.zq (l)=X1 at *;generalize strs top=tp at *;obtain⟨name,version,source,sums,dev,zB⟩:=xi;simp only at *;generalize zH.zq sums=es1 at *;generalize strs zB=es2 at *;refine zM func50 rfl (by kernel_rfl) ?_;unfold Tryz.f50;simp (maxSteps:=1000000) (disch:=(try simp only[LL]);omega) only[↓GO,↓DRW,GA,GX,ren,zj,za,refs,z7,cst,zm,isC,bin,una,z6,zd,blt,asArg,zg,zc,zf,z1,zn,unN,ze,zk,zb,GS,simprocAttr,zD,zE,yG,yA,yD,yC,yH,gh1,yz,yr,yu,zR,mkO,yn,yf,yg,mvC,unO,zX,yF,yB,yw,zI,yx,yv,zY,oc,oTs,oT,zQ,zQ.rowTs,yt,isL,E.BX,GZ,d1,d2,d3,hTA,cz,cI0,cI1,cI,e0,e1,e2,e3,f3,f5,f8,h1,h2,hT,hT2,hT3,hsI,hsI2,htI,htI2,hfI,hfI2,hgX,hEX,hgF,hEt,if_true,Int.toNat_natCast,Nat.zero_add,List.length_append,List.length_singleton,y6,zA]
 by_cases hv4:v=4
 · have e0:((v:Int)==0)=false:=by rw[beq_eq_false_iff_ne];omega
   have e1:((v:Int)==1)=false:=by rw[beq_eq_false_iff_ne];omega
   have e2:((v:Int)==2)=false:=by rw[beq_eq_false_iff_ne];omega
   have e3:((v:Int)==3)=false:=by rw[beq_eq_false_iff_ne];omega
   have e4:((v:Int)==4)=true:=by rw[beq_iff_eq];omega
   refine⟨c3,⟨top,l.set i ⟨xi.name,xi.version,[97,32,98],xi.sums,xi.dev,xi.zB⟩⟩,hc3,sJ _ _ (by simp;omega) (rf hbk (by simp only[z8.y0]at hbi ⊢;simp only[List.length_cons,List.length_nil];omega)) (by omega) ht2,?_⟩;have hgX:=hset [.t (.str xi.name),.t (.str xi.version),.t (.str [97,32,98]),.o (.list 2 (zH.zq xi.sums)),.t (.bool xi.dev),.o (.list 1 (strs xi.zB))] ⟨xi.name,xi.version,[97,32,98],xi.sums,xi.dev,xi.zB⟩ rfl;have hEX:=hEs ⟨xi.name,xi.version,[97,32,98],xi.sums,xi.dev,xi.zB⟩;simp only[zy.enc,List.map_cons,List.map_nil];clear hb hs hbk hbi hself f1 f2 f7 hg hxi hgE hset;unfold cuR at *;generalize z8.zq (l.set i ⟨xi.name,xi.version,[97,32,98],xi.sums,xi.dev,xi.zB⟩)=X1 at *;generalize strs top=tp at *;obtain⟨name,version,source,sums,dev,zB⟩:=xi;simp only at *;generalize zH.zq sums=es1 at *;generalize strs zB=es2 at *;refine zM func50 rfl (by kernel_rfl) ?_;unfold Tryz.f50;simp (maxSteps:=1000000) (disch:=(try simp only[LL]);omega) only[↓GO,↓DRW,GA,GX,ren,zj,za,refs,z7,cst,zm,isC,bin,una,z6,zd,blt,asArg,zg,zc,zf,z1,zn,unN,ze,zk,zb,GS,simprocAttr,zD,zE,yG,yA,yD,yC,yH,gh1,yz,yr,yu,zR,mkO,yn,yf,yg,mvC,unO,zX,yF,yB,yw,zI,yx,yv,zY,oc,oTs,oT,zQ,zQ.rowTs,yt,isL,E.BX,GZ,d1,d2,d3,cz,cI0,cI1,cI,e0,e1,e2,e3,e4,f3,f5,f8,h1,h2,hT,hT2,hT3,hsI,hsI2,htI,htI2,hfI,hfI2,hgX,hEX,hgF,hEt,if_true,Int.toNat_natCast,Nat.zero_add,List.length_append,List.length_singleton,y6,zA]
 by_cases hv5:v=5
 · have e0:((v:Int)==0)=false:=by rw[beq_eq_false_iff_ne];omega
   have e1:((v:Int)==1)=false:=by rw[beq_eq_false_iff_ne];omega
   have e2:((v:Int)==2)=false:=by rw[beq_eq_false_iff_ne];omega
   have e3:((v:Int)==3)=false:=by rw[beq_eq_false_iff_ne];omega
   have e4:((v:Int)==4)=false:=by rw[beq_eq_false_iff_ne];omega
   have e5:((v:Int)==5)=true:=by rw[beq_iff_eq];omega
   obtain⟨s,c4,hsm,hc4,d4⟩:=uP bs hb c3 hc3 [[115,104,97,49],[109,100,53]] 2 rfl (by decide) (by decide) (some 2);have hsl:s.length≤32:=by
    simp only[List.mem_cons,List.not_mem_nil,or_false]at hsm;rcases hsm with rfl|rfl<;>decide
   clear hsm;simp only[strs,List.map_cons,List.map_nil]at d4;refine⟨c4,⟨top,l.set i ⟨xi.name,xi.version,xi.source,xi.sums++[⟨s,[120]⟩],xi.dev,xi.zB⟩⟩,hc4,sJ _ _ (by simp;omega) (rf hbk (by simp only[z8.y0]at hbi ⊢;rw[show zH.yp (xi.sums++[⟨s,[120]⟩])=zH.yp xi.sums+(s.length+1) by rw[ib];rfl];simp only[List.length_append,List.length_singleton];omega)) (by omega) ht2,?_⟩;have hgX:=hset [.t (.str xi.name),.t (.str xi.version),.t (.str xi.source),.t (.list 2 (zH.zq xi.sums++[[.str s,.str [120]]])),.t (.bool xi.dev),.o (.list 1 (strs xi.zB))] ⟨xi.name,xi.version,xi.source,xi.sums++[⟨s,[120]⟩],xi.dev,xi.zB⟩ (by simp[oN,gvC,z8.enc,zH.zq,zH.enc]);have hEX:=hEs ⟨xi.name,xi.version,xi.source,xi.sums++[⟨s,[120]⟩],xi.dev,xi.zB⟩;have hgS:gvE (((zH.zq xi.sums).map fun e=>e.map oc)++[[V.t (.str s),.t (.str [120])]])=some (zH.zq xi.sums++[[T.str s,.str [120]]]):=fO _ _ _ _ (Z3 (zH.zq xi.sums)) rfl;have htN:(zH.zq xi.sums++[[T.str s,T.str [120]]]).take (xi.sums.length+1)=zH.zq xi.sums++[[T.str s,T.str [120]]]:=List.take_of_length_le (by simp[hsI]);have hlS:((zH.zq xi.sums).map fun e=>e.map oc).length=xi.sums.length:=by rw[List.length_map,hsI]
   have hnl:xi.sums.length≤4096:=by simp only[z8.y0]at hbi;omega
   simp only[zy.enc,List.map_cons,List.map_nil];clear hb hs hbk hbi hself f1 f2 f7 hg hxi hgE hset;unfold cuR at *;generalize z8.zq (l.set i ⟨xi.name,xi.version,xi.source,xi.sums++[⟨s,[120]⟩],xi.dev,xi.zB⟩)=X1 at *;generalize strs top=tp at *;obtain⟨name,version,source,sums,dev,zB⟩:=xi;simp only at *;generalize zH.zq sums=es1 at *;generalize strs zB=es2 at *;refine zM func50 rfl (by kernel_rfl) ?_;unfold Tryz.f50;simp (maxSteps:=1000000) (disch:=(try simp only[LL]);omega) only[↓GO,↓DRW,GA,GX,ren,zj,za,refs,z7,cst,zm,isC,bin,una,z6,zd,blt,asArg,zg,zc,zf,z1,zn,unN,ze,zk,zb,GS,simprocAttr,zD,zE,yG,yA,yD,yC,yH,gh1,yz,yr,yu,zR,mkO,yn,yf,yg,mvC,unO,zX,yF,yB,yw,zI,yx,yv,zY,oc,oTs,oT,zQ,zQ.rowTs,yt,isL,E.BX,GZ,d1,d2,d3,d4,hgS,htN,hlS,cz,cI0,cI1,cI,e0,e1,e2,e3,e4,e5,f3,f5,f8,h1,h2,hT,hT2,hT3,hsI,hsI2,htI,htI2,hfI,hfI2,hgX,hEX,hgF,hEt,if_true,Int.toNat_natCast,Nat.zero_add,List.length_append,List.length_singleton,y6,zA]
   all_goals (refine zT (by kernel_rfl) ?_)
   all_goals first|rfl
 by_cases hv6:v=6
 · have e0:((v:Int)==0)=false:=by rw[beq_eq_false_iff_ne];omega
   have e1:((v:Int)==1)=false:=by rw[beq_eq_false_iff_ne];omega
   have e2:((v:Int)==2)=false:=by rw[beq_eq_false_iff_ne];omega
   have e3:((v:Int)==3)=false:=by rw[beq_eq_false_iff_ne];omega
   have e4:((v:Int)==4)=false:=by rw[beq_eq_false_iff_ne];omega
   have e5:((v:Int)==5)=false:=by rw[beq_eq_false_iff_ne];omega
   have e6:((v:Int)==6)=true:=by rw[beq_iff_eq];omega
   refine⟨c3,⟨top,l++[xi]⟩,hc3,sJ _ _ (by simp;omega) (fun x hx=>by
    simp only[List.mem_append,List.mem_singleton]at hx;rcases hx with hx|rfl
    · have:=hbk x hx;omega
    · omega) (by omega) ht2,?_⟩
   have f9:∀ y z:List V,(F y++[z])[i]? = some y:=fun y z=>by rw[List.getElem?_append_left (by rw[f8];exact hi)];exact f3 y
   have hg6:=hset [V.t (.str xi.name),.t (.str xi.version),.t (.str xi.source),.t (.list 2 (zH.zq xi.sums)),.t (.bool xi.dev),.t (.list 1 (strs xi.zB))] xi rfl;rw[hself]at hg6;have hgX:gvE (F [V.t (.str xi.name),.t (.str xi.version),.t (.str xi.source),.t (.list 2 (zH.zq xi.sums)),.t (.bool xi.dev),.t (.list 1 (strs xi.zB))]++[[V.t (.str xi.name),.t (.str xi.version),.t (.str xi.source),.t (.list 2 (zH.zq xi.sums)),.t (.bool xi.dev),.t (.list 1 (strs xi.zB))]])=some (z8.zq (l++[xi])):=by
    rw[show z8.zq (l++[xi])=z8.zq l++[xi.enc] by simp[z8.zq]];exact fO _ _ _ _ hg6 rfl
   have hEX:(z8.zq (l++[xi])).take (l.length+1)=z8.zq (l++[xi]):=List.take_of_length_le (by rw[z8.zz];simp);simp only[zy.enc,List.map_cons,List.map_nil];clear hb hs hbk hbi hself f1 f2 f7 hg hxi hgE hset hg6;unfold cuR at *;generalize z8.zq (l++[xi])=X1 at *;generalize strs top=tp at *;obtain⟨name,version,source,sums,dev,zB⟩:=xi;simp only at *;generalize zH.zq sums=es1 at *;generalize strs zB=es2 at *;refine zM func50 rfl (by kernel_rfl) ?_;unfold Tryz.f50;simp (maxSteps:=1000000) (disch:=(try simp only[LL]);omega) only[↓GO,↓DRW,GA,GX,ren,zj,za,refs,z7,cst,zm,isC,bin,una,z6,zd,blt,asArg,zg,zc,zf,z1,zn,unN,ze,zk,zb,GS,simprocAttr,zD,zE,yG,yA,yD,yC,yH,gh1,yz,yr,yu,zR,mkO,yn,yf,yg,mvC,unO,zX,yF,yB,yw,zI,yx,yv,zY,oc,oTs,oT,zQ,zQ.rowTs,yt,isL,E.BX,GZ,d1,d2,d3,cz,cI0,cI1,cI,e0,e1,e2,e3,e4,e5,e6,f3,f5,f8,f9,h1,h2,hT,hT2,hT3,hsI,hsI2,htI,htI2,hfI,hfI2,hgX,hEX,hgF,hEt,if_true,Int.toNat_natCast,Nat.zero_add,List.length_append,List.length_singleton,y6,zA]
   all_goals (refine zT (by kernel_rfl) ?_)
   all_goals first|rfl
 omega
theorem RW (code:List Int):zr (EV prog pol) 6 [.t (.list 1 (xl code))]=some (.t (.bool (decide ((code.length:Int) > 1048576)))):=by
 have hl:=wS code;apply zu;refine zx rfl func6 rfl (by kernel_rfl) ?_;unfold Tryz.f6;simp (disch:=(try simp only[LL]);omega) only[↓GO,↓DRW,GA,GX,ren,zj,za,refs,z7,cst,zm,isC,bin,una,z6,zd,blt,asArg,zg,zc,zf,z1,zn,unN,ze,zk,zb,GS,simprocAttr,GZ,hl,zA]
theorem Vf (l:List Str)(s:Str):yV l s=true↔s∈l:=by simp[yV]
theorem XT (ps:List z8)(k:Str):pB ps k=(sf ps k).isSome:=by
 unfold sf;have h:=oz (fun p=>keyOf p==k) ps 0;unfold pB;rw[← h]
 show (vd ps k).isSome=_
 cases hk:vd ps k with
 | none=>rfl
 | some i =>
  obtain⟨q,h1,_⟩:=nG hk;simp only[Option.isSome_some,h1]
theorem pw (a s:Str):ub (some a) s=Op.bytesLess a s:=rfl
theorem mm (ps:List z8):∀ (o:Option Str) (l:List z8),wk ps o l=true→(l.Pairwise fun x y=>Op.bytesLess (keyOf x) (keyOf y)=true)∧∀ p∈l,ub o (keyOf p)=true
 | o,[],_=>⟨List.Pairwise.nil,fun p hp=>by simp at hp⟩
 | o,p::r,h=>by
  rw[wk]at h;simp only[Bool.and_eq_true]at h;obtain⟨⟨_,h1,_⟩,h2⟩:=h;obtain⟨k1,k2⟩:=mm ps (some (keyOf p)) r h2;refine⟨List.pairwise_cons.2 ⟨fun q hq=>by have:=k2 q hq;rwa [pw]at this,k1⟩,fun q hq=>?_⟩;rcases List.mem_cons.1 hq with rfl|hq
  · exact h1
  · have h3:=k2 q hq;rw[pw]at h3
    cases o with
    | none=>rfl
    | some a=>rw[pw]at h1 ⊢;exact wG h1 h3
def kK (l:List z8):Prop:=l.Pairwise fun x y=>Op.bytesLess (keyOf x) (keyOf y)=true
theorem kK.key:∀ {l:List z8},kK l→∀ p∈l,∀ q∈l,keyOf p=keyOf q→p=q
 | [],_,p,hp,q,hq,e=>by simp at hp
 | x::r,h,p,hp,q,hq,e=>by
  obtain⟨h1,h2⟩:=List.pairwise_cons.1 h;rcases List.mem_cons.1 hp with rfl|hp<;>rcases List.mem_cons.1 hq with rfl|hq
  · rfl
  · have:=h1 q hq;rw[e,wI]at this;cases this
  · have:=h1 p (by assumption);rw[e,wI]at this;cases this
  · exact kK.key h2 p hp q hq e
theorem wY {g:zy}(h:zW g=true):kK g.packs:=by
 unfold zW at h;simp only[Bool.and_eq_true]at h;exact (mm g.packs none g.packs h.1).1
theorem ko {ps:List z8}(h:kK ps){p:z8}(hp:p∈ps):sf ps (keyOf p)=some p:=by
 have hs:(sf ps (keyOf p)).isSome=true:=by
  rw[← XT];unfold pB;rw[List.any_eq_true];exact⟨p,hp,by simp⟩
 obtain⟨q,hq⟩:=Option.isSome_iff_exists.1 hs;obtain⟨h1,h2,_⟩:=oy hq;rw[hq,h.key q h1 p hp h2]
def mV (keys:List Str)(p:z8):z8:=⟨p.name,p.version,p.source,p.sums,p.dev,p.zB.filter (yV keys)⟩
def xY (keys:List Str)(ps:List z8):List z8:=(ps.filter fun p=>yV keys (keyOf p)).map (mV keys)
def bS (g:zy)(keys:List Str):zy:=⟨g.top.filter (yV keys),xY keys g.packs⟩
theorem GB.zB {g:zy}(hB:GB g){p:z8}(hp:p∈g.packs):p.zB.length≤1048576:=by
 obtain⟨_,_,h3⟩:=hB.len;have:=h3 p hp;simp only[z8.y0]at this;omega
theorem T8 (keys:List Str)(hk:keys.length≤1048576)(top:List Str)(hl:top.length≤1048576)(cs:List z8):∀ (rest pre acc:List Str) (m:Nat),top=pre++rest→m=acc.length→m+rest.length≤1073741824 →
 EV prog pol (.loop 75 58 0 [.t (.list 1 (strs keys)),.ptr 0 0 0,.ptr 1 0 0,.ptr 2 0 0,.t (.int .i64 (pre.length:Int))] [.vs 2 [[.t (.list 1 (strs top)),.t (.list 6 (z8.zq cs))]],.vs 2 [zG],.vs 2 [[.sl 3 0 m none,.sl 4 0 0 none]],.ts 1 (strs acc),.ts 6 []])
  = some (.loop (.exit 0) [.t (.list 1 (strs keys)),.ptr 0 0 0,.ptr 1 0 0,.ptr 2 0 0] [.vs 2 [[.t (.list 1 (strs top)),.t (.list 6 (z8.zq cs))]],.vs 2 [zG],.vs 2 [[.sl 3 0 (acc++rest.filter (yV keys)).length none,.sl 4 0 0 none]],.ts 1 (strs (acc++rest.filter (yV keys))),.ts 6 []])
 | [],pre,acc,m,h,hm,hmM=>by
  have c:decide ((pre.length:Int)<(top.length:Int))=false:=by simp[h]
  rw[List.filter_nil,List.append_nil,← hm];simp only[zG];refine zh func75 rfl rfl ?_;simp (disch:=(try simp only[LL]);omega) only[↓GO,↓DRW,GA,GX,ren,zj,za,refs,z7,cst,zm,isC,bin,una,z6,zd,blt,asArg,zg,zc,zf,z1,zn,unN,ze,zk,zb,GS,simprocAttr,GZ,c,zo,zA]
 | x :: rest, pre, acc, m, h, hm, hmM => by
  have c:decide ((pre.length:Int)<(top.length:Int))=true:=by simp[h];omega
  have c0:decide ((0:Int)≤(pre.length:Int))=true:=by simp
  have hget:(strs top)[pre.length]? = some [.str x]:=x9 (by rw[h];simp);have hlen:pre.length+rest.length+1≤top.length:=by rw[h];simp;omega
  have hsl:(strs acc).length=m:=by rw[zo,hm]
  simp only[List.length_cons]at hmM;have d1:=Xn keys hk x;rw[List.filter_cons]
  cases q:yV keys x with
  | true =>
   rw[q]at d1;have IH:=T8 keys hk top hl cs rest (pre++[x]) (acc++[x]) (m+1) (by rw[h];simp) (by simp[hm]) (by omega);rw[show ((pre++[x]).length:Int)=(pre.length:Int)+1 by simp,show strs (acc++[x])=strs acc++[[.str x]] by simp[strs],List.append_assoc,show [x]++rest.filter (yV keys)=x::rest.filter (yV keys) from rfl]at IH;simp only[if_true,zG]at IH ⊢;clear h hk;generalize acc++x::rest.filter (yV keys)=Z at *;refine zh func75 rfl rfl ?_;simp (disch:=(try simp only[LL]);omega) only[↓GO,↓DRW,GA,GX,ren,zj,za,refs,z7,cst,zm,isC,bin,una,z6,zd,blt,asArg,zg,zc,zf,z1,zn,unN,ze,zk,zb,GS,simprocAttr,GZ,c,c0,zo,hget,d1,zi,hsl,zA,IH,y6];refine zT (by kernel_rfl) ?_
   first|exact IH|simp (disch:=(try simp only[LL]);omega) only[↓GO,↓DRW,GA,GX,ren,zj,za,refs,z7,cst,zm,isC,bin,una,z6,zd,blt,asArg,zg,zc,zf,z1,zn,unN,ze,zk,zb,GS,simprocAttr,GZ,IH,zi,zA]
  | false =>
   rw[q]at d1;have IH:=T8 keys hk top hl cs rest (pre++[x]) acc m (by rw[h];simp) hm (by omega);rw[show ((pre++[x]).length:Int)=(pre.length:Int)+1 by simp]at IH;simp only[Bool.false_eq_true,if_false,zG]at IH ⊢;clear h hk;generalize acc++rest.filter (yV keys)=Z at *;refine zh func75 rfl rfl ?_;simp (disch:=(try simp only[LL]);omega) only[↓GO,↓DRW,GA,GX,ren,zj,za,refs,z7,cst,zm,isC,bin,una,z6,zd,blt,asArg,zg,zc,zf,z1,zn,unN,ze,zk,zb,GS,simprocAttr,GZ,c,c0,zo,hget,d1,zi,hsl,zA,IH,y6]
theorem Ta (keys:List Str)(hk:keys.length≤1048576)(gt gp:T)(cs:List z8)(hgp:gp=.list 6 (z8.zq cs))(p:z8)(hnl:p.zB.length≤1048576)(i:Nat)(hi:cs[i]? = some p)(e1 e2 e3 e4 e5:T)(mt mp:Nat)(A B:List (List T)):∀ (rest pre acc:List Str) (m:Nat) (cap:Option Nat),p.zB=pre++rest→m=acc.length→m+rest.length≤1073741824→∃ cap',
 EV prog pol (.loop 75 125242 0 [.t (.list 1 (strs keys)),.ptr 0 0 0,.ptr 1 0 0,.ptr 2 0 0,.t (.int .i64 (i:Int)),.ptr 3 0 0,.t (.int .i64 (pre.length:Int))] [.vs 2 [[.t gt,.t gp]],.vs 2 [zG],.vs 2 [[.sl 4 0 mt none,.sl 5 0 mp none]],.vs 6 [[.t e1,.t e2,.t e3,.t e4,.t e5,.sl 6 0 m cap]],.ts 1 A,.ts 6 B,.ts 1 (strs acc)])
  = some (.loop (.exit 4) [.t (.list 1 (strs keys)),.ptr 0 0 0,.ptr 1 0 0,.ptr 2 0 0,.t (.int .i64 (i:Int)),.ptr 3 0 0] [.vs 2 [[.t gt,.t gp]],.vs 2 [zG],.vs 2 [[.sl 4 0 mt none,.sl 5 0 mp none]],.vs 6 [[.t e1,.t e2,.t e3,.t e4,.t e5,.sl 6 0 (acc++rest.filter (yV keys)).length cap']],.ts 1 A,.ts 6 B,.ts 1 (strs (acc++rest.filter (yV keys)))])
 | [],pre,acc,m,cap,h,hm,hmM=>by
  have c:decide ((pre.length:Int)<(p.zB.length:Int))=false:=by simp[h]
  have ci:decide ((0:Int)≤(i:Int))=true:=by simp
  have hpi:(z8.zq cs)[i]? = some p.enc:=by unfold z8.zq;rw[List.getElem?_map,hi];rfl
  have hil:i<cs.length:=by have:=List.getElem?_eq_some_iff.1 hi;exact this.1
  refine⟨cap,?_⟩;rw[List.filter_nil,List.append_nil,← hm];clear h hi hk;obtain⟨name,version,source,sums,dev,zB⟩:=p;simp only[z8.enc,zG]at hpi c ⊢;subst hgp;refine zh func75 rfl rfl ?_;simp (disch:=(try simp only[LL]);omega) only[↓GO,↓DRW,GA,GX,ren,zj,za,refs,z7,cst,zm,isC,bin,una,z6,zd,blt,asArg,zg,zc,zf,z1,zn,unN,ze,zk,zb,GS,simprocAttr,GZ,c,ci,zo,hpi,zA]
 | x :: rest, pre, acc, m, cap, h, hm, hmM => by
  have c:decide ((pre.length:Int)<(p.zB.length:Int))=true:=by simp[h];omega
  have c0:decide ((0:Int)≤(pre.length:Int))=true:=by simp
  have ci:decide ((0:Int)≤(i:Int))=true:=by simp
  have hpi:(z8.zq cs)[i]? = some p.enc:=by unfold z8.zq;rw[List.getElem?_map,hi];rfl
  have hget:(strs p.zB)[pre.length]? = some [.str x]:=x9 (by rw[h];simp);have hlen:pre.length+rest.length+1≤p.zB.length:=by rw[h];simp;omega
  have hsl:(strs acc).length=m:=by rw[zo,hm]
  simp only[List.length_cons]at hmM;have d1:=Xn keys hk x;rw[List.filter_cons]
  cases q:yV keys x with
  | true =>
   rw[q]at d1;obtain⟨cap',IH⟩:=Ta keys hk gt gp cs hgp p hnl i hi e1 e2 e3 e4 e5 mt mp A B rest (pre++[x]) (acc++[x]) (m+1) none (by rw[h];simp) (by simp[hm]) (by omega);rw[show ((pre++[x]).length:Int)=(pre.length:Int)+1 by simp,show strs (acc++[x])=strs acc++[[.str x]] by simp[strs],List.append_assoc,show [x]++rest.filter (yV keys)=x::rest.filter (yV keys) from rfl]at IH;simp only[if_true,zG]at IH ⊢;refine⟨cap',?_⟩;clear h hk hi;generalize acc++x::rest.filter (yV keys)=Z at *;obtain⟨name,version,source,sums,dev,zB⟩:=p;simp only[z8.enc]at hpi c hget hlen hnl ⊢;subst hgp;refine zh func75 rfl rfl ?_;simp (disch:=(try simp only[LL]);omega) only[↓GO,↓DRW,GA,GX,ren,zj,za,refs,z7,cst,zm,isC,bin,una,z6,zd,blt,asArg,zg,zc,zf,z1,zn,unN,ze,zk,zb,GS,simprocAttr,GZ,c,c0,ci,zo,hget,hpi,d1,zi,hsl,zA,IH,y6];refine zT (by kernel_rfl) ?_
   first|exact IH|simp (disch:=(try simp only[LL]);omega) only[↓GO,↓DRW,GA,GX,ren,zj,za,refs,z7,cst,zm,isC,bin,una,z6,zd,blt,asArg,zg,zc,zf,z1,zn,unN,ze,zk,zb,GS,simprocAttr,GZ,IH,zi,zA]
  | false =>
   rw[q]at d1;obtain⟨cap',IH⟩:=Ta keys hk gt gp cs hgp p hnl i hi e1 e2 e3 e4 e5 mt mp A B rest (pre++[x]) acc m cap (by rw[h];simp) hm (by omega);rw[show ((pre++[x]).length:Int)=(pre.length:Int)+1 by simp]at IH;simp only[Bool.false_eq_true,if_false,zG]at IH ⊢;refine⟨cap',?_⟩;clear h hk hi;generalize acc++rest.filter (yV keys)=Z at *;obtain⟨name,version,source,sums,dev,zB⟩:=p;simp only[z8.enc]at hpi c hget hlen hnl ⊢;subst hgp;refine zh func75 rfl rfl ?_;simp (disch:=(try simp only[LL]);omega) only[↓GO,↓DRW,GA,GX,ren,zj,za,refs,z7,cst,zm,isC,bin,una,z6,zd,blt,asArg,zg,zc,zf,z1,zn,unN,ze,zk,zb,GS,simprocAttr,GZ,c,c0,ci,zo,hget,hpi,d1,zi,hsl,zA,IH,y6]
theorem eR (keys:List Str)(p:z8)(r:List z8):xY keys (p::r)=cond (yV keys (keyOf p)) (mV keys p::xY keys r) (xY keys r):=by
 unfold xY;rw[List.filter_cons]
 cases yV keys (keyOf p)<;>rfl
theorem T9 (keys:List Str)(hk:keys.length≤1048576)(gt:T)(cs:List z8)(hl:cs.length≤1048576)(hb:∀ c∈cs,c.y0≤1048576)(mt:Nat)(A:List (List T)):∀ (rest pre acc:List z8) (m:Nat),cs=pre++rest→m=acc.length→m+rest.length≤1073741824 →
 EV prog pol (.loop 75 122 0 [.t (.list 1 (strs keys)),.ptr 0 0 0,.ptr 1 0 0,.ptr 2 0 0,.t (.int .i64 (pre.length:Int))] [.vs 2 [[.t gt,.t (.list 6 (z8.zq cs))]],.vs 2 [zG],.vs 2 [[.sl 3 0 mt none,.sl 4 0 m none]],.ts 1 A,.ts 6 (z8.zq acc)])
  = some (.loop (.exit 2) [.ptr 0 0 0,.ptr 1 0 0] [.vs 2 [zG],.vs 2 [[.sl 2 0 mt none,.sl 3 0 (acc++xY keys rest).length none]],.ts 1 A,.ts 6 (z8.zq (acc++xY keys rest))])
 | [],pre,acc,m,h,hm,hmM=>by
  have c:decide ((pre.length:Int)<(cs.length:Int))=false:=by simp[h]
  rw[show xY keys []=[] from rfl,List.append_nil,← hm];simp only[zG];refine zh func75 rfl rfl ?_;simp (disch:=(try simp only[LL]);omega) only[↓GO,↓DRW,GA,GX,ren,zj,za,refs,z7,cst,zm,isC,bin,una,z6,zd,blt,asArg,zg,zc,zf,z1,zn,unN,ze,zk,zb,GS,simprocAttr,GZ,c,z8.zz,zA]
 | x :: rest, pre, acc, m, h, hm, hmM => by
  have c:decide ((pre.length:Int)<(cs.length:Int))=true:=by simp[h];omega
  have c0:decide ((0:Int)≤(pre.length:Int))=true:=by simp
  have hix:cs[pre.length]? = some x:=by rw[h];simp
  have hget:(z8.zq cs)[pre.length]? = some x.enc:=by rw[h];simp[z8.zq]
  have hlen:pre.length+rest.length+1≤cs.length:=by rw[h];simp;omega
  have hsl:(z8.zq acc).length=m:=by rw[z8.zz,hm]
  simp only[List.length_cons]at hmM;have hxb:=hb x (by rw[h];simp);have d1:=uQ x (by omega);have d2:=Xn keys hk (keyOf x);have d3:=Zg x hxb;rw[eR]
  cases q:yV keys (keyOf x) with
  | true =>
   rw[q]at d2;have IH:=T9 keys hk gt cs hl hb mt A rest (pre++[x]) (acc++[mV keys x]) (m+1) (by rw[h];simp) (by simp[hm]) (by omega);have hnl:x.zB.length≤1048576:=by unfold z8.y0 at hxb;omega
   obtain⟨cap',L⟩:=Ta keys hk gt (.list 6 (z8.zq cs)) cs rfl x hnl pre.length hix (.str x.name) (.str x.version) (.str x.source) (.list 2 (zH.zq x.sums)) (.bool x.dev) mt m A (z8.zq acc) x.zB [] [] 0 (some 0) rfl rfl (by omega);rw[show ((pre++[x]).length:Int)=(pre.length:Int)+1 by simp,lU,List.append_assoc,show [mV keys x]++xY keys rest=mV keys x::xY keys rest from rfl]at IH;simp only[cond_true,zG,List.nil_append,List.length_nil,Int.natCast_zero,show strs []=[] from rfl]at IH L ⊢;have ht:(strs (x.zB.filter (yV keys))).take (x.zB.filter (yV keys)).length=strs (x.zB.filter (yV keys)):=by rw[← zo (x.zB.filter (yV keys))];simp
   generalize acc++mV keys x::xY keys rest=Z at *;clear h hk hix hb hxb;obtain⟨name,version,source,sums,dev,zB⟩:=x;simp only[z8.enc,mV,List.map_cons,List.map_nil]at d1 d2 d3 hget IH L ht ⊢;generalize zB.filter (yV keys)=nf at *;refine zh func75 rfl rfl ?_;simp (disch:=(try simp only[LL]);omega) only[↓GO,↓DRW,GA,GX,ren,zj,za,refs,z7,cst,zm,isC,bin,una,z6,zd,blt,asArg,zg,zc,zf,z1,zn,unN,ze,zk,zb,GS,simprocAttr,GZ,c,c0,z8.zz,hget,d1,d2,d3,L,ht,zi,hsl,zA,IH,y6]
  | false =>
   rw[q]at d2;have IH:=T9 keys hk gt cs hl hb mt A rest (pre++[x]) acc m (by rw[h];simp) hm (by omega);rw[show ((pre++[x]).length:Int)=(pre.length:Int)+1 by simp]at IH;simp only[cond_false,zG]at IH ⊢;generalize acc++xY keys rest=Z at *;clear h hk hix hb hxb;obtain⟨name,version,source,sums,dev,zB⟩:=x;simp only[z8.enc,List.map_cons,List.map_nil]at d1 d2 d3 hget ⊢;refine zh func75 rfl rfl ?_;simp (disch:=(try simp only[LL]);omega) only[↓GO,↓DRW,GA,GX,ren,zj,za,refs,z7,cst,zm,isC,bin,una,z6,zd,blt,asArg,zg,zc,zf,z1,zn,unN,ze,zk,zb,GS,simprocAttr,GZ,c,c0,z8.zz,hget,d1,d2,zi,hsl,zA,IH,y6]
theorem c_onR (g:zy)(hB:GB g)(keys:List Str)(hk:keys.length≤1048576):zr (EV prog pol) 75 [.agg (g.enc.map .t),.t (.list 1 (strs keys))]=some (.agg ((bS g keys).enc.map .t)):=by
 have hb:=hB.len;obtain⟨top,packs⟩:=g;simp only at hb;have L1:=T8 keys hk top (by omega) packs top [] [] 0 rfl rfl (by omega);have L2:=T9 keys hk (.list 1 (strs top)) packs (by omega) hb.2.2 (top.filter (yV keys)).length (strs (top.filter (yV keys))) packs [] [] 0 rfl rfl (by omega);have ht1:(strs (top.filter (yV keys))).take (top.filter (yV keys)).length=strs (top.filter (yV keys)):=by rw[← zo (top.filter (yV keys))];simp
 have ht2:(z8.zq (xY keys packs)).take (xY keys packs).length=z8.zq (xY keys packs):=by rw[← z8.zz (xY keys packs)];simp
 simp only[bS,zy.enc,List.map_cons,List.map_nil,zG,List.nil_append,List.length_nil,Int.natCast_zero,show strs []=[] from rfl,show z8.zq []=[] from rfl]at L1 L2 ⊢;generalize top.filter (yV keys)=Z1 at *;generalize xY keys packs=Z2 at *;clear hB hb hk;apply zu;refine zx rfl func75 rfl (by kernel_rfl) ?_;unfold Tryz.f75;simp (disch:=(try simp only[LL]);omega) only[↓GO,↓DRW,GA,GX,ren,zj,za,refs,z7,cst,zm,isC,bin,una,z6,zd,blt,asArg,zg,zc,zf,z1,zn,unN,ze,zk,zb,GS,simprocAttr,zD,zE,yG,yA,yD,yC,yH,gh1,yz,yr,yu,zR,mkO,yn,yf,yg,mvC,unO,zX,yF,yB,yw,zI,yx,yv,zY,oc,oTs,oT,zQ,zQ.rowTs,yt,isL,E.BX,GZ,L1,L2,ht1,ht2,show qp ([]:List (List T))=true from rfl,zA]
theorem RA (a b:List Str)(hl:a.length≤4194304):∀ (ra rb pa pb:List Str),a=pa++ra→b=pb++rb→pa.length=pb.length→ra.length=rb.length →
 EV prog pol (.loop 15 58 0 [.t (.list 1 (strs a)),.t (.list 1 (strs b)),.t (.int .i64 (pa.length:Int))] [])=some (cond (ra==rb) (.loop (.exit 0) [.bad] []) (.loop .ret [.t (.bool false)] []))
 | [],[],pa,pb,ha,hb,hp,hr=>by
  have c:decide ((pa.length:Int)<(a.length:Int))=false:=by simp[ha]
  rw[show (([]:List Str)==[])=true from rfl,cond_true];refine zh func15 rfl rfl ?_;simp (disch:=(try simp only[LL]);omega) only[↓GO,↓DRW,GA,GX,ren,zj,za,refs,z7,cst,zm,isC,bin,una,z6,zd,blt,asArg,zg,zc,zf,z1,zn,unN,ze,zk,zb,GS,simprocAttr,GZ,c,zo,zA]
 | [],_::_,pa,pb,ha,hb,hp,hr=>by simp at hr
 | _::_,[],pa,pb,ha,hb,hp,hr=>by simp at hr
 | x :: ra, y :: rb, pa, pb, ha, hb, hp, hr => by
  have c:decide ((pa.length:Int)<(a.length:Int))=true:=by simp[ha];omega
  have hg1:(strs a)[pa.length]? = some [.str x]:=x9 (by rw[ha];simp);have hg2:(strs b)[pa.length]? = some [.str y]:=x9 (by rw[hb,hp];simp);have hlen:pa.length+ra.length+1≤a.length:=by rw[ha];simp;omega
  have IH:=RA a b hl ra rb (pa++[x]) (pb++[y]) (by rw[ha];simp) (by rw[hb];simp) (by simp[hp]) (by simpa using hr);rw[show ((pa++[x]).length:Int)=(pa.length:Int)+1 by simp]at IH;rw[List.cons_beq_cons];clear ha hb
  cases q:(x==y) with
  | true =>
   rw[Bool.true_and];refine zh func15 rfl rfl ?_;simp (disch:=(try simp only[LL]);omega) only[↓GO,↓DRW,GA,GX,ren,zj,za,refs,z7,cst,zm,isC,bin,una,z6,zd,blt,asArg,zg,zc,zf,z1,zn,unN,ze,zk,zb,GS,simprocAttr,GZ,c,hg1,hg2,zo,q,bne,Bool.not_true,zi,zA,IH]
  | false =>
   rw[Bool.false_and,cond_false];refine zh func15 rfl rfl ?_;simp (disch:=(try simp only[LL]);omega) only[↓GO,↓DRW,GA,GX,ren,zj,za,refs,z7,cst,zm,isC,bin,una,z6,zd,blt,asArg,zg,zc,zf,z1,zn,unN,ze,zk,zb,GS,simprocAttr,GZ,c,hg1,hg2,zo,q,bne,Bool.not_false,zi,zA]
theorem c_eqJ (a b:List Str)(hl:a.length≤4194304):zr (EV prog pol) 15 [.t (.list 1 (strs a)),.t (.list 1 (strs b))]=some (.t (.bool (a==b))):=by
 by_cases hn:a.length=b.length
 · have L:=RA a b hl a b [] [] rfl rfl rfl hn;simp only[List.length_nil,Int.natCast_zero]at L;have c:((a.length:Int) != (b.length:Int))=false:=by rw[hn];simp
   cases q:(a==b)<;>rw[q]at L<;>simp only[cond_true,cond_false]at L
   all_goals
    apply zu;refine zx rfl func15 rfl (by kernel_rfl) ?_;unfold Tryz.f15;simp (disch:=(try simp only[LL]);omega) only[↓GO,↓DRW,GA,GX,ren,zj,za,refs,z7,cst,zm,isC,bin,una,z6,zd,blt,asArg,zg,zc,zf,z1,zn,unN,ze,zk,zb,GS,simprocAttr,GZ,L,zo,c,zA]
 · have c:((a.length:Int) != (b.length:Int))=true:=by simp;omega
   have hf:(a==b)=false:=by rw[beq_eq_false_iff_ne];intro e;exact hn (by rw[e])
   rw[hf];apply zu;refine zx rfl func15 rfl (by kernel_rfl) ?_;unfold Tryz.f15;simp (disch:=(try simp only[LL]);omega) only[↓GO,↓DRW,GA,GX,ren,zj,za,refs,z7,cst,zm,isC,bin,una,z6,zd,blt,asArg,zg,zc,zf,z1,zn,unN,ze,zk,zb,GS,simprocAttr,GZ,zo,c,zA]
theorem Rs (p q:z8)(hp:p.y0≤1048576):∀ (ra rb pa pb:List zH),p.sums=pa++ra→q.sums=pb++rb→pa.length=pb.length→ra.length=rb.length →
 EV prog pol (.loop 30 58 0 [.ptr 0 0 0,.ptr 1 0 0,.t (.int .i64 (pa.length:Int))] [.vs 6 [p.enc.map .t],.vs 6 [q.enc.map .t]])=some (cond (xh ra==xh rb) (.loop (.exit 0) [.bad] []) (.loop .ret [.t (.bool false)] []))
 | [],[],pa,pb,ha,hb,hpl,hr=>by
  have c:decide ((pa.length:Int)<(p.sums.length:Int))=false:=by simp[ha]
  rw[show (xh []==xh [])=true from rfl,cond_true];obtain⟨name,version,source,sums,dev,zB⟩:=p;obtain⟨name',version',source',sums',dev',needs'⟩:=q;simp only[z8.enc,List.map_cons,List.map_nil]at c ⊢;refine zh func30 rfl rfl ?_;simp (disch:=(try simp only[LL]);omega) only[↓GO,↓DRW,GA,GX,ren,zj,za,refs,z7,cst,zm,isC,bin,una,z6,zd,blt,asArg,zg,zc,zf,z1,zn,unN,ze,zk,zb,GS,simprocAttr,GZ,c,zH.zz,zA]
 | [],_::_,pa,pb,ha,hb,hpl,hr=>by simp at hr
 | _::_,[],pa,pb,ha,hb,hpl,hr=>by simp at hr
 | x :: ra, y :: rb, pa, pb, ha, hb, hpl, hr => by
  have c:decide ((pa.length:Int)<(p.sums.length:Int))=true:=by simp[ha];omega
  have hg1:(zH.zq p.sums)[pa.length]? = some [.str x.alg,.str x.bytes]:=nX (by rw[ha];simp);have hg2:(zH.zq q.sums)[pa.length]? = some [.str y.alg,.str y.bytes]:=nX (by rw[hb,hpl];simp);have hlen:pa.length+ra.length+1≤p.sums.length:=by rw[ha];simp;omega
  have hsl:=(tI hp).1;have IH:=Rs p q hp ra rb (pa++[x]) (pb++[y]) (by rw[ha];simp) (by rw[hb];simp) (by simp[hpl]) (by simpa using hr);rw[show ((pa++[x]).length:Int)=(pa.length:Int)+1 by simp]at IH;rw[wq,wq,List.cons_beq_cons];clear ha hb hp;obtain⟨name,version,source,sums,dev,zB⟩:=p;obtain⟨name',version',source',sums',dev',needs'⟩:=q;simp only[z8.enc,List.map_cons,List.map_nil]at c hg1 hg2 hlen hsl IH ⊢
  cases q1:([x.alg,x.bytes]==[y.alg,y.bytes]) with
  | true =>
   rw[Bool.true_and];refine zh func30 rfl rfl ?_;simp (disch:=(try simp only[LL]);omega) only[↓GO,↓DRW,GA,GX,ren,zj,za,refs,z7,cst,zm,isC,bin,una,z6,zd,blt,asArg,zg,zc,zf,z1,zn,unN,ze,zk,zb,GS,simprocAttr,GZ,c,hg1,hg2,q1,zH.zz,bne,Bool.not_true,zi,zA,IH,List.length_cons,List.length_nil,Nat.zero_add,Nat.reduceAdd,and_self,if_true]
  | false =>
   rw[Bool.false_and,cond_false];refine zh func30 rfl rfl ?_;simp (disch:=(try simp only[LL]);omega) only[↓GO,↓DRW,GA,GX,ren,zj,za,refs,z7,cst,zm,isC,bin,una,z6,zd,blt,asArg,zg,zc,zf,z1,zn,unN,ze,zk,zb,GS,simprocAttr,GZ,c,hg1,hg2,q1,zH.zz,bne,Bool.not_false,zi,zA,List.length_cons,List.length_nil,Nat.zero_add,Nat.reduceAdd,and_self,if_true]
theorem c_spJ (p q : z8) (hp : p.y0 ≤ 1048576) : zr (EV prog pol) 30 [.agg (p.enc.map .t), .agg (q.enc.map .t)] = some (.t (.bool (wg p q))) := by
 obtain⟨hp1,hp2⟩:=tI hp;have d2:=c_eqJ p.zB q.zB (by omega);have L:p.sums.length=q.sums.length→_:=Rs p q hp p.sums q.sums [] [] rfl rfl rfl;have hne:p.sums.length≠q.sums.length→(xh p.sums==xh q.sums)=false:=fun hn=>by rw[beq_eq_false_iff_ne];intro e;exact hn (by rw[← ur p.sums,e,ur])
 unfold wg;clear hp;obtain⟨name,version,source,sums,dev,zB⟩:=p;obtain⟨name',version',source',sums',dev',needs'⟩:=q;simp only[z8.enc,List.map_cons,List.map_nil,List.length_nil,Int.natCast_zero]at L d2 hne ⊢;apply zu;refine zx rfl func30 rfl (by kernel_rfl) ?_;unfold Tryz.f30
 cases q1:(name==name') with
 | false=>simp (disch:=(try simp only[LL]);omega) only[↓GO,↓DRW,GA,GX,ren,zj,za,refs,z7,cst,zm,isC,bin,una,z6,zd,blt,asArg,zg,zc,zf,z1,zn,unN,ze,zk,zb,GS,simprocAttr,GZ,q1,zA,bne,Bool.not_false,Bool.false_and]
 | true =>
  cases q2:(version==version') with
  | false=>simp (disch:=(try simp only[LL]);omega) only[↓GO,↓DRW,GA,GX,ren,zj,za,refs,z7,cst,zm,isC,bin,una,z6,zd,blt,asArg,zg,zc,zf,z1,zn,unN,ze,zk,zb,GS,simprocAttr,GZ,q1,q2,zA,bne,Bool.not_false,Bool.not_true,Bool.false_and,Bool.true_and]
  | true =>
   cases q3:(source==source') with
   | false=>simp (disch:=(try simp only[LL]);omega) only[↓GO,↓DRW,GA,GX,ren,zj,za,refs,z7,cst,zm,isC,bin,una,z6,zd,blt,asArg,zg,zc,zf,z1,zn,unN,ze,zk,zb,GS,simprocAttr,GZ,q1,q2,q3,zA,bne,Bool.not_false,Bool.not_true,Bool.false_and,Bool.true_and]
   | true =>
    cases q4:(dev==dev') with
    | false=>simp (disch:=(try simp only[LL]);omega) only[↓GO,↓DRW,GA,GX,ren,zj,za,refs,z7,cst,zm,isC,bin,una,z6,zd,blt,asArg,zg,zc,zf,z1,zn,unN,ze,zk,zb,GS,simprocAttr,GZ,q1,q2,q3,q4,zA,bne,Bool.not_false,Bool.not_true,Bool.false_and,Bool.true_and]
    | true =>
     by_cases hn:sums.length=sums'.length
     · have c:((sums.length:Int)==(sums'.length:Int))=true:=by rw[hn];simp
       have L':=L hn
       cases q6:(zB==needs') with
       | false=>rw[q6]at d2;simp (disch:=(try simp only[LL]);omega) only[↓GO,↓DRW,GA,GX,ren,zj,za,refs,z7,cst,zm,isC,bin,una,z6,zd,blt,asArg,zg,zc,zf,z1,zn,unN,ze,zk,zb,GS,simprocAttr,GZ,q1,q2,q3,q4,c,d2,zH.zz,zA,bne,Bool.not_false,Bool.not_true,Bool.true_and,Bool.and_false]
       | true =>
        rw[q6]at d2
        cases q5:(xh sums==xh sums')<;>rw[q5]at L'<;>simp only[cond_true,cond_false]at L'
        all_goals simp (disch:=(try simp only[LL]);omega) only[↓GO,↓DRW,GA,GX,ren,zj,za,refs,z7,cst,zm,isC,bin,una,z6,zd,blt,asArg,zg,zc,zf,z1,zn,unN,ze,zk,zb,GS,simprocAttr,GZ,q1,q2,q3,q4,c,d2,L',zH.zz,zA,bne,Bool.not_false,Bool.not_true,Bool.true_and,Bool.and_true]
     · have c:((sums.length:Int)==(sums'.length:Int))=false:=by simp;omega
       rw[hne hn];simp (disch:=(try simp only[LL]);omega) only[↓GO,↓DRW,GA,GX,ren,zj,za,refs,z7,cst,zm,isC,bin,una,z6,zd,blt,asArg,zg,zc,zf,z1,zn,unN,ze,zk,zb,GS,simprocAttr,GZ,q1,q2,q3,q4,c,zH.zz,zA,bne,Bool.not_false,Bool.not_true,Bool.true_and,Bool.false_and]
def wC:List z8→List z8→Bool
 | [],[]=>true
 | p::r,q::s=>wg p q&&wC r s
 | _,_=>false
theorem lP:∀ {a b:List z8},wC a b=true→a.length=b.length
 | [],[],_=>rfl
 | [],_::_,h=>by cases h
 | _::_,[],h=>by cases h
 | p::r,q::s,h=>by
  rw[wC,Bool.and_eq_true]at h;rw[List.length_cons,List.length_cons,lP h.2]
theorem ic:∀ {a b:List zH},xh a=xh b→a=b
 | [],[],_=>rfl
 | [],_::_,h=>by cases h
 | _::_,[],h=>by cases h
 | ⟨x1,x2⟩::r,⟨y1,y2⟩::s,h=>by
  rw[wq,wq]at h;injection h with h1 h2;injection h1 with h3 h4;injection h4 with h5 _
  cases h3;cases h5;rw[ic h2]
theorem nn {p q:z8}:wg p q=true↔p=q:=by
 constructor
 · intro h;unfold wg at h;simp only[Bool.and_eq_true,beq_iff_eq]at h;obtain⟨h1,h2,h3,h4,h5,h6⟩:=h;have h7:=ic h5;obtain⟨name,version,source,sums,dev,zB⟩:=p;obtain⟨name',version',source',sums',dev',needs'⟩:=q;simp only at h1 h2 h3 h4 h6 h7;subst h1 h2 h3 h4 h6 h7;rfl
 · rintro rfl
   unfold wg;simp
theorem nj:∀ {a b:List z8},wC a b=true↔a=b
 | [],[]=>by simp[wC]
 | [],_::_=>by simp[wC]
 | _::_,[]=>by simp[wC]
 | p::r,q::s=>by rw[wC,Bool.and_eq_true,nn,nj,List.cons.injEq]
end Go.Proofs.YtefkoljdebekdaaGreatDoor

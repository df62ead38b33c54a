/- Joined: J6 J7 J8 J9 J10 J11 B6 V14 K26 K37 K38 J12 J13. Conditions: those of each lemma. -/
import Derived.Test.YtefkoljdebekdaaGreatDoorlK
import Derived.Test.YtefkoljdebekdaaGreatDoorlL
set_option linter.unusedVariables false
set_option linter.unusedSimpArgs false
set_option maxRecDepth 100000
set_option maxHeartbeats 40000000
namespace Go.Proofs.YtefkoljdebekdaaGreatDoor
open Go.Proofs.Tryz
open E
def zG:List V:=[.nil 1,.nil 6]
theorem SQ (l:List zh)(hf:∀ p∈l,True):((ocE (zh.zC l)).all fun c=>c.all mvC)=true:=by
 refine List.all_eq_true.2 fun c hc=>?_
 unfold ocE zh.zC at hc;simp only[List.map_map,List.mem_map]at hc;obtain⟨x,_,rfl⟩:=hc;rfl
theorem Pt (n k:Nat)(cap0 cap:Option Nat)(p:zh)(hp0:p.zE=[])(hpb:p.zX≤1048576)(hk:k=p.sums.length)(l:List zh)(hn:n=l.length)(hl:l.length≤1048576)(hb:∀ x∈l,x.zX≤1048576):∀ (rest pre:List zh),l=pre++rest →
 (EV prog pol (.loop 196 28 2 [.ptr 2 0 0,.ptr 3 0 0,.ptr 4 0 0,.t (.int .i64 (pre.length:Int))] [.vs 6 (ocE (zh.zC l)),.ts 2 (zN.zC p.sums),.vs 2 [[.nil 1,.sl 0 0 n cap0]],.vs 6 [[.t (.str p.name),.t (.str p.version),.t (.str p.source),.sl 1 0 k cap,.t (.bool p.dev),.nil 1]],.vs 2 [zG]])
  = some (.loop (.exit 0) [.ptr 2 0 0,.ptr 3 0 0,.ptr 4 0 0,.t (.int .i64 (n:Int))] [.vs 6 (ocE (zh.zC l)),.ts 2 (zN.zC p.sums),.vs 2 [[.nil 1,.sl 0 0 n cap0]],.vs 6 [[.t (.str p.name),.t (.str p.version),.t (.str p.source),.sl 1 0 k cap,.t (.bool p.dev),.nil 1]],.vs 2 [zG]])) ∨
 ∃ (a b : List zh) (x : zh), l = a ++ x :: b ∧
  EV prog pol (.loop 196 28 2 [.ptr 2 0 0,.ptr 3 0 0,.ptr 4 0 0,.t (.int .i64 (pre.length:Int))] [.vs 6 (ocE (zh.zC l)),.ts 2 (zN.zC p.sums),.vs 2 [[.nil 1,.sl 0 0 n cap0]],.vs 6 [[.t (.str p.name),.t (.str p.version),.t (.str p.source),.sl 1 0 k cap,.t (.bool p.dev),.nil 1]],.vs 2 [zG]])
   = some (.loop (.exit 0) [.ptr 2 0 0,.ptr 3 0 0,.ptr 4 0 0,.t (.int .i64 (a.length:Int))] [.vs 6 (ocE (zh.zC a)++[.t (.str x.name),.t (.str x.version),.t (.str x.source),.sl 5 0 x.sums.length none,.t (.bool x.dev),.sl 6 0 x.zE.length none]::ocE (zh.zC b)),.ts 2 (zN.zC p.sums),.vs 2 [[.nil 1,.sl 0 0 n cap0]],.vs 6 [[.t (.str p.name),.t (.str p.version),.t (.str p.source),.sl 1 0 k cap,.t (.bool p.dev),.nil 1]],.vs 2 [zG],.ts 2 (zN.zC x.sums),.ts 1 (strs x.zE)])
 | [],pre,hs=>by
  refine .inl ?_;have hpl:pre.length=n:=by rw[hn,hs];simp
  rw[hpl];have c:decide ((n:Int)<(n:Int))=false:=by simp
  have c00:(0:Int)≤(n:Int):=by omega
  have hnone:(ocE (zh.zC l))[n]? = none:=List.getElem?_eq_none (by rw[vM,zh.zF];omega);obtain⟨h1,h2,_⟩:=wE l;generalize ocE (zh.zC l)=E0 at *;generalize zN.zC p.sums=E1 at *;simp only[zG];clear hs;refine zj func196 rfl rfl ?_;simp (disch:=(try simp only[LL]);omega) only[↓GO,↓DRW,GA,GX,ren,zk,za,refs,z8,cst,zo,isC,bin,una,z7,zd,blt,asArg,zg,zc,zf,z6,zr,unN,ze,zm,zb,GS,simprocAttr,zH,zI,yU,yN,yQ,yP,yV,gh1,yM,yC,yG,zU,mkO,yw,yp,yq,mvC,unO,y7,yT,yO,yK,zO,yL,yJ,y9,oc,oTs,oT,zT,zT.rowTs,yF,isL,E.BX,GZ,c,c00,if_true,Int.toNat_natCast,Nat.zero_add,hnone,h1,h2,zA]
 | x :: rest, pre, hs => by
  have c:decide ((pre.length:Int)<(n:Int))=true:=by apply decide_eq_true;rw[hn,hs];simp;omega
  have c0:decide ((0:Int)≤(pre.length:Int))=true:=by apply decide_eq_true;omega
  have c00:(0:Int)≤(pre.length:Int):=by omega
  have hPl:(ocE (zh.zC pre)).length=pre.length:=by rw[vM,zh.zF]
  have hpl:pre.length≤1048576:=by have:=congrArg List.length hs;simp at this;omega
  have d1:=tU x (by have:=hb x (by rw[hs];simp);omega);have d2:=tU p (by omega);have hg:=fun y=>nw (ocE (zh.zC pre)) (ocE (zh.zC rest)) y pre.length hPl
  have hss:=fun y z=>nv (ocE (zh.zC pre)) (ocE (zh.zC rest)) y z pre.length hPl
  have hf1:=wh x.sums;have hf2:=xn x.zE;have hs1:=zN.zF x.sums;have hs2:=zn x.zE;have hk1:(zN.zC x.sums).take x.sums.length=zN.zC x.sums:=List.take_of_length_le (by omega);have hk2:(strs x.zE).take x.zE.length=strs x.zE:=List.take_of_length_le (by omega);have hk3:(zN.zC p.sums).take k=zN.zC p.sums:=List.take_of_length_le (by rw[zN.zF];omega);obtain⟨hA1,hA2,_⟩:=wE pre;obtain⟨hB1,hB2,_⟩:=wE rest;have hlE:ocE (zh.zC l)=ocE (zh.zC pre)++[V.t (.str x.name),.t (.str x.version),.t (.str x.source),.o (.list 2 (zN.zC x.sums)),.t (.bool x.dev),.o (.list 1 (strs x.zE))]::ocE (zh.zC rest):=by rw[hs,jK,pcons]
  cases q:Op.bytesLess (keyOf x) (keyOf p) with
  | true =>
   have IH:=Pt n k cap0 cap p hp0 hpb hk l hn hl hb rest (pre++[x]) (by rw[hs];simp);rw[show ((pre++[x]).length:Int)=(pre.length:Int)+1 by simp]at IH;have go:∀ R:xV,EV prog pol (.loop 196 28 2 [.ptr 2 0 0,.ptr 3 0 0,.ptr 4 0 0,.t (.int .i64 ((pre.length:Int)+1))] [.vs 6 (ocE (zh.zC l)),.ts 2 (zN.zC p.sums),.vs 2 [[.nil 1,.sl 0 0 n cap0]],.vs 6 [[.t (.str p.name),.t (.str p.version),.t (.str p.source),.sl 1 0 k cap,.t (.bool p.dev),.nil 1]],.vs 2 [zG]])=some R →
    EV prog pol (.loop 196 28 2 [.ptr 2 0 0,.ptr 3 0 0,.ptr 4 0 0,.t (.int .i64 (pre.length:Int))] [.vs 6 (ocE (zh.zC l)),.ts 2 (zN.zC p.sums),.vs 2 [[.nil 1,.sl 0 0 n cap0]],.vs 6 [[.t (.str p.name),.t (.str p.version),.t (.str p.source),.sl 1 0 k cap,.t (.bool p.dev),.nil 1]],.vs 2 [zG]])=some R:=fun R e=>by
    rw[hlE]at e ⊢;clear IH hs hlE;generalize keyOf x=kx at *;generalize keyOf p=kp at *;obtain⟨name,version,source,sums,dev,zE⟩:=x;obtain⟨name',version',source',sums',dev',needs'⟩:=p;simp only at hp0;subst hp0;simp only[zh.enc,List.map_cons,List.map_nil,show strs []=[] from rfl,zG]at d1 d2 hf1 hf2 hs1 hs2 hk1 hk2 hk3 hg hss e ⊢;generalize zN.zC sums=es1 at *;generalize strs zE=es2 at *;generalize zN.zC sums'=es3 at *;generalize ocE (zh.zC pre)=P at *;generalize ocE (zh.zC rest)=B at *;generalize pre.length=kl at *;refine zj func196 rfl rfl ?_;simp (maxSteps:=1000000) (disch:=(try simp only[LL]);omega) only[↓GO,↓DRW,GA,GX,ren,zk,za,refs,z8,cst,zo,isC,bin,una,z7,zd,blt,asArg,zg,zc,zf,z6,zr,unN,ze,zm,zb,GS,simprocAttr,zH,zI,yU,yN,yQ,yP,yV,gh1,yM,yC,yG,zU,mkO,yw,yp,yq,mvC,unO,y7,yT,yO,yK,zO,yL,yJ,y9,oc,oTs,oT,zT,zT.rowTs,yF,isL,E.BX,GZ,c,c0,c00,if_true,Int.toNat_natCast,Nat.zero_add,hg,hss,hf1,hf2,hs1,hs2,hk1,hk2,hk3,d1,d2,q,hA1,hA2,hB1,hB2,zi,zA,e]
   rcases IH with IH|⟨a,b,y,h1,IH⟩
   · exact .inl (go _ IH)
   · exact .inr ⟨a,b,y,h1,go _ IH⟩
  | false =>
   refine .inr ⟨pre,rest,x,hs,?_⟩;rw[hlE];clear hs hlE;generalize keyOf x=kx at *;generalize keyOf p=kp at *;obtain⟨name,version,source,sums,dev,zE⟩:=x;obtain⟨name',version',source',sums',dev',needs'⟩:=p;simp only at hp0;subst hp0;simp only[zh.enc,List.map_cons,List.map_nil,show strs []=[] from rfl,zG]at d1 d2 hf1 hf2 hs1 hs2 hk1 hk2 hk3 hg hss ⊢;generalize zN.zC sums=es1 at *;generalize strs zE=es2 at *;generalize zN.zC sums'=es3 at *;generalize ocE (zh.zC pre)=P at *;generalize ocE (zh.zC rest)=B at *;generalize pre.length=kl at *;refine zj func196 rfl rfl ?_;simp (maxSteps:=1000000) (disch:=(try simp only[LL]);omega) only[↓GO,↓DRW,GA,GX,ren,zk,za,refs,z8,cst,zo,isC,bin,una,z7,zd,blt,asArg,zg,zc,zf,z6,zr,unN,ze,zm,zb,GS,simprocAttr,zH,zI,yU,yN,yQ,yP,yV,gh1,yM,yC,yG,zU,mkO,yw,yp,yq,mvC,unO,y7,yT,yO,yK,zO,yL,yJ,y9,oc,oTs,oT,zT,zT.rowTs,yF,isL,E.BX,GZ,c,c0,c00,if_true,Int.toNat_natCast,Nat.zero_add,hg,hss,hf1,hf2,hs1,hs2,hk1,hk2,hk3,d1,d2,q,hA1,hA2,hB1,hB2,zi,zA]
theorem TX (l:List zh):noR ((ocE (zh.zC l)).map fun c=>c.map unO):=by
 induction l with
 | nil=>exact Xc
 | cons x r ih=>exact Uu rfl (fun _=>rfl) rfl ih
theorem TA (l:List zh):((ocE (zh.zC l)).map fun c=>c.map unO).length=l.length:=by rw[List.length_map,vM,zh.zF]
theorem Ut (l:List zh)(r:List (List V))(h:l≠[]):((((ocE (zh.zC l)).map fun c=>c.map unO)++r).all fun c=>c.all y6)=false:=by
 cases l with
 | nil=>exact absurd rfl h
 | cons x t=>rfl
theorem Vh (l:List zh)(r:List (List V))(h:l≠[]):((ocE (zh.zC l)++r).all fun c=>c.all y6)=false:=by
 cases l with
 | nil=>exact absurd rfl h
 | cons x t=>rfl
def N9 (l:List zh)(n k:Nat)(cap0 cap:Option Nat)(p:zh)(a b:List zh):Prop:=∃ (X:List (List V)) (c0:Blk),noR X∧EV prog pol (.callO false 196 [.agg [.nil 1,.sl 0 0 n cap0],.agg [.t (.str p.name),.t (.str p.version),.t (.str p.source),.sl 1 0 k cap,.t (.bool p.dev),.nil 1]] [.vs 6 (ocE (zh.zC l)),.ts 2 (zN.zC p.sums)])
 = some (.call (.agg [.nil 1,.sl 2 0 (n+1) none]) [.vs 6 X,.dead,.vs 6 (ocE (zh.zC (a++p::b)))])
theorem Ss (a b:List zh) (n k:Nat) (cap0 cap:Option Nat) (p:zh) (hp0:p.zE=[]) (hk:k=p.sums.length) (hn:n=(a++b).length) (hl:(a++b).length≤1048576) (hne:a++b≠[])
 (L:(EV prog pol (.loop 196 28 2 [.ptr 2 0 0,.ptr 3 0 0,.ptr 4 0 0,.t (.int .i64 0)] [.vs 6 (ocE (zh.zC (a++b))),.ts 2 (zN.zC p.sums),.vs 2 [[.nil 1,.sl 0 0 n cap0]],.vs 6 [[.t (.str p.name),.t (.str p.version),.t (.str p.source),.sl 1 0 k cap,.t (.bool p.dev),.nil 1]],.vs 2 [zG]])
  = some (.loop (.exit 0) [.ptr 2 0 0,.ptr 3 0 0,.ptr 4 0 0,.t (.int .i64 (a.length:Int))] [.vs 6 (ocE (zh.zC (a++b))),.ts 2 (zN.zC p.sums),.vs 2 [[.nil 1,.sl 0 0 n cap0]],.vs 6 [[.t (.str p.name),.t (.str p.version),.t (.str p.source),.sl 1 0 k cap,.t (.bool p.dev),.nil 1]],.vs 2 [zG]])∧b=[]) ∨
  ∃ (x:zh) (b':List zh),b=x::b'∧EV prog pol (.loop 196 28 2 [.ptr 2 0 0,.ptr 3 0 0,.ptr 4 0 0,.t (.int .i64 0)] [.vs 6 (ocE (zh.zC (a++b))),.ts 2 (zN.zC p.sums),.vs 2 [[.nil 1,.sl 0 0 n cap0]],.vs 6 [[.t (.str p.name),.t (.str p.version),.t (.str p.source),.sl 1 0 k cap,.t (.bool p.dev),.nil 1]],.vs 2 [zG]])
   = some (.loop (.exit 0) [.ptr 2 0 0,.ptr 3 0 0,.ptr 4 0 0,.t (.int .i64 (a.length:Int))] [.vs 6 (ocE (zh.zC a)++[.t (.str x.name),.t (.str x.version),.t (.str x.source),.sl 5 0 x.sums.length none,.t (.bool x.dev),.sl 6 0 x.zE.length none]::ocE (zh.zC b')),.ts 2 (zN.zC p.sums),.vs 2 [[.nil 1,.sl 0 0 n cap0]],.vs 6 [[.t (.str p.name),.t (.str p.version),.t (.str p.source),.sl 1 0 k cap,.t (.bool p.dev),.nil 1]],.vs 2 [zG],.ts 2 (zN.zC x.sums),.ts 1 (strs x.zE)])) :
 N9 (a++b) n k cap0 cap p a b:=by
 have hal:(ocE (zh.zC a)).length=a.length:=by rw[vM,zh.zF]
 have hbl:(ocE (zh.zC b)).length=b.length:=by rw[vM,zh.zF]
 have hE:ocE (zh.zC (a++b))=ocE (zh.zC a)++ocE (zh.zC b):=jK a b;have hn':n=a.length+b.length:=by rw[hn,List.length_append]
 have hnM:n≤1048576:=by omega
 have hAu:=TX a;have hBu:=TX b;have hAul:=TA a;have hBul:=TA b;have m1:=SQ a fun _ _=>trivial
 have m2:=SQ b fun _ _=>trivial
 have hno1:((ocE (zh.zC a)++ocE (zh.zC b)).all fun c=>c.all y6)=false:=by
  cases a with
  | cons x r=>exact Vh (x::r) _ (by simp)
  | nil =>
   cases b with
   | cons x r=>rfl
   | nil=>exact absurd rfl hne
 have hno2:((((ocE (zh.zC a)).map fun c=>c.map unO)++ocE (zh.zC b)).all fun c=>c.all y6)=false:=by
  cases a with
  | cons x r=>exact Ut (x::r) _ (by simp)
  | nil =>
   cases b with
   | cons x r=>rfl
   | nil=>exact absurd rfl hne
 obtain⟨hA1,hA2,_⟩:=wE a;obtain⟨hB1,hB2,_⟩:=wE b;have hX:=RU hAu hBu;have hf1:=wh p.sums;have hks:(zN.zC p.sums).length=k:=by rw[zN.zF,hk]
 have hres:ocE (zh.zC (a++p::b))=(ocE (zh.zC a)++[[V.t (.str p.name),.t (.str p.version),.t (.str p.source),.o (.list 2 (zN.zC p.sums)),.t (.bool p.dev),.o (.list 1 [])]])++ocE (zh.zC b):=by
  rw[jK,show ocE (zh.zC (p::b))=[V.t (.str p.name),.t (.str p.version),.t (.str p.source),.o (.list 2 (zN.zC p.sums)),.t (.bool p.dev),.o (.list 1 (strs p.zE))]::ocE (zh.zC b) from rfl,hp0,show strs []=[] from rfl];simp
 refine⟨((ocE (zh.zC a)).map fun c=>c.map unO)++((ocE (zh.zC b)).map fun c=>c.map unO),.dead,hX,?_⟩;rw[hres];obtain⟨hX1,hX2,_⟩:=hX;have hkp:(zN.zC p.sums).take k=zN.zC p.sums:=List.take_of_length_le (by omega);rcases L with⟨L,hb0⟩|⟨x,b',hbx,L⟩
 · obtain⟨name,version,source,sums,dev,zE⟩:=p;simp only at hp0;subst hp0;simp only[zG]at L hf1 hks hkp ⊢;rw[hE]at L ⊢;clear hE hres;generalize zN.zC sums=es1 at *;subst hb0;simp only[show zh.zC []=[] from rfl,show ocE []=[] from rfl,List.append_nil,List.map_nil,List.length_nil,Nat.add_zero]at L hAul hno1 hno2 hX1 hX2 hn' ⊢;generalize hU:(ocE (zh.zC a)).map (fun c=>c.map unO)=U1 at *;generalize ocE (zh.zC a)=T1 at *;have hle1:∀ y:List V,(T1++[y]).length=a.length+1:=fun y=>by simp[hal]
   have hnone:T1[a.length]? = none:=List.getElem?_eq_none (by omega);have hna:n=a.length:=by omega
   subst hna;have q1:T1.take a.length=T1:=List.take_of_length_le (by omega);have q2:T1.drop a.length=[]:=List.drop_of_length_le (by omega);have q3:U1.take a.length=U1:=List.take_of_length_le (by omega);have q4:U1.drop a.length=[]:=List.drop_of_length_le (by omega);have c00:(0:Int)≤(a.length:Int):=by omega
   have g1:=fun y=>nw T1 [] y a.length hal
   have g2:=fun y z=>nv T1 [] y z a.length hal
   clear hn hl hne hbl hBul hk hn';generalize a.length=at0 at *;refine zM func196 rfl (by kernel_rfl) ?_;unfold Tryz.f196;simp (maxSteps:=1000000) (disch:=(try simp only[LL]);omega) only[↓GO,↓DRW,GA,GX,ren,zk,za,refs,z8,cst,zo,isC,bin,una,z7,zd,blt,asArg,zg,zc,zf,z6,zr,unN,ze,zm,zb,GS,simprocAttr,zH,zI,yU,yN,yQ,yP,yV,gh1,yM,yC,yG,zU,mkO,yw,yp,yq,mvC,unO,y7,yT,yO,yK,zO,yL,yJ,y9,oc,oTs,oT,zT,zT.rowTs,yF,isL,E.BX,GZ,L,c00,if_true,Int.toNat_natCast,Nat.zero_add,Nat.sub_zero,Nat.sub_self,Nat.add_zero,hnone,hno1,hno2,hU,hle1,m1,q1,q2,q3,q4,g1,g2,hal,hAul,hA1,hA2,hX1,hX2,hf1,hks,hkp,List.append_nil,List.map_nil,Bool.and_false,and_false,false_and,if_false,yf,zA]
   all_goals (refine zR (by kernel_rfl) ?_)
   all_goals rfl
 · subst hbx;have hbl':(ocE (zh.zC b')).length=b'.length:=by rw[vM,zh.zF]
   have m3:=SQ b' fun _ _=>trivial
   have hUb:((ocE (zh.zC (x::b'))).map fun c=>c.map unO)=[V.t (.str x.name),.t (.str x.version),.t (.str x.source),.bad,.t (.bool x.dev),.bad]::((ocE (zh.zC b')).map fun c=>c.map unO):=rfl;have hBx:ocE (zh.zC (x::b'))=[V.t (.str x.name),.t (.str x.version),.t (.str x.source),.o (.list 2 (zN.zC x.sums)),.t (.bool x.dev),.o (.list 1 (strs x.zE))]::ocE (zh.zC b'):=rfl;have hxs1:=zN.zF x.sums;have hxs2:=zn x.zE;have hxk1:(zN.zC x.sums).take x.sums.length=zN.zC x.sums:=List.take_of_length_le (by omega);have hxk2:(strs x.zE).take x.zE.length=strs x.zE:=List.take_of_length_le (by omega);have hxf1:=wh x.sums;have hxf2:=xn x.zE;obtain⟨hC1,hC2,_⟩:=wE b';obtain⟨name,version,source,sums,dev,zE⟩:=p;obtain⟨name',version',source',sums',dev',needs'⟩:=x;simp only at hp0;subst hp0;simp only[zG]at L hf1 hks hkp hxs1 hxs2 hxk1 hxk2 hxf1 hxf2 hBx hUb ⊢;rw[hE]at L ⊢;rw[hUb]at hX1 hX2 ⊢;rw[hBx]at L m2 hno1 hno2 hB1 hB2 ⊢;clear hE hres;generalize zN.zC sums=es1 at *;generalize zN.zC sums'=es2 at *;generalize strs needs'=es3 at *;generalize hU:(ocE (zh.zC a)).map (fun c=>c.map unO)=U1 at *;generalize hU2:(ocE (zh.zC b')).map (fun c=>c.map unO)=U2 at *;generalize ocE (zh.zC a)=T1 at *;generalize ocE (zh.zC b')=T2 at *;have hle1:∀ y:List V,(T1++[y]).length=a.length+1:=fun y=>by simp[hal]
   have hle2:∀ y:List V,(T1++y::T2).length=n:=fun y=>by simp[hal,hbl',hn']
   have hle3:∀ y:List V,(U1++y::T2).length=n:=fun y=>by simp[hAul,hbl',hn']
   have q1:∀ y:List V,(T1++y::T2).take a.length=T1:=fun y=>by rw[← hal,List.take_left]
   have q2:∀ y:List V,(T1++y::T2).drop a.length=y::T2:=fun y=>by rw[← hal,List.drop_left]
   have q3:∀ y:List V,(U1++y::T2).take a.length=U1:=fun y=>by rw[← hAul,List.take_left]
   have q4:∀ y:List V,(U1++y::T2).drop a.length=y::T2:=fun y=>by rw[← hAul,List.drop_left]
   have hsub:(((n:Int) - (a.length:Int)).toNat)=b'.length+1:=by simp at hn';omega
   have hsub2:n - a.length=b'.length+1:=by simp at hn';omega
   have hadd:a.length+(b'.length+1)=n:=by simp at hn';omega
   have q5:∀ y:List V,(y::T2).take (b'.length+1)=y::T2:=fun y=>List.take_of_length_le (by simp[hbl'])
   have q6:∀ y:List V,(U1++y::T2).drop n=[]:=fun y=>List.drop_of_length_le (by rw[hle3];omega)
   have hle:(a.length:Int)≤(n:Int):=by omega
   have hln:a.length≤n:=by omega
   have c00:(0:Int)≤(a.length:Int):=by omega
   have c01:(0:Int)≤(n:Int):=by omega
   have g1:=fun y=>nw T1 T2 y a.length hal
   have g2:=fun y z=>nv T1 T2 y z a.length hal
   have g3:∀ (y:List V) (z:List (List V)),(T1++[y]++z)[a.length]? = some y:=fun y z=>by rw[List.append_assoc];exact nw T1 z y a.length hal
   have g4:∀ (y y':List V) (z:List (List V)),(T1++[y]++z).set a.length y'=T1++[y']++z:=fun y y' z=>by rw[List.append_assoc,List.append_assoc];exact nv T1 z y y' a.length hal
   clear hn hl hne hbl hBul hk;generalize a.length=at0 at *;refine zM func196 rfl (by kernel_rfl) ?_;unfold Tryz.f196;simp (maxSteps:=1000000) (disch:=(try simp only[LL]);omega) only[↓GO,↓DRW,GA,GX,ren,zk,za,refs,z8,cst,zo,isC,bin,una,z7,zd,blt,asArg,zg,zc,zf,z6,zr,unN,ze,zm,zb,GS,simprocAttr,zH,zI,yU,yN,yQ,yP,yV,gh1,yM,yC,yG,zU,mkO,yw,yp,yq,mvC,unO,y7,yT,yO,yK,zO,yL,yJ,y9,oc,oTs,oT,zT,zT.rowTs,yF,isL,E.BX,GZ,L,c00,c01,if_true,Int.toNat_natCast,Nat.zero_add,Nat.sub_zero,Nat.sub_self,Nat.add_zero,hno1,hno2,hU,hU2,hle1,hle2,hle3,hle,hln,hsub,hsub2,hadd,m1,m2,m3,q1,q2,q3,q4,q5,q6,g1,g2,g3,g4,hal,hbl',hAul,hA1,hA2,hB1,hB2,hC1,hC2,hX1,hX2,hf1,hks,hkp,hxs1,hxs2,hxk1,hxk2,hxf1,hxf2,List.append_nil,List.map_nil,Bool.and_false,and_false,false_and,if_false,yf,zA]
   all_goals (refine zR (by kernel_rfl) ?_)
   all_goals rw[show at0+1+(b'.length+1)=n+1 by simp at hn';omega]
theorem OE (k:Nat) (cap0 cap:Option Nat) (p:zh) (hp0:p.zE=[]) (hk:k=p.sums.length)
 (L:EV prog pol (.loop 196 28 2 [.ptr 2 0 0,.ptr 3 0 0,.ptr 4 0 0,.t (.int .i64 0)] [.vs 6 [],.ts 2 (zN.zC p.sums),.vs 2 [[.nil 1,.sl 0 0 0 cap0]],.vs 6 [[.t (.str p.name),.t (.str p.version),.t (.str p.source),.sl 1 0 k cap,.t (.bool p.dev),.nil 1]],.vs 2 [zG]])
  = some (.loop (.exit 0) [.ptr 2 0 0,.ptr 3 0 0,.ptr 4 0 0,.t (.int .i64 0)] [.vs 6 [],.ts 2 (zN.zC p.sums),.vs 2 [[.nil 1,.sl 0 0 0 cap0]],.vs 6 [[.t (.str p.name),.t (.str p.version),.t (.str p.source),.sl 1 0 k cap,.t (.bool p.dev),.nil 1]],.vs 2 [zG]])) :
 N9 [] 0 k cap0 cap p [] []:=by
 refine⟨[],.dead,Xc,?_⟩;have hf1:=wh p.sums;have hks:(zN.zC p.sums).length=k:=by rw[zN.zF,hk]
 have hkp:(zN.zC p.sums).take k=zN.zC p.sums:=List.take_of_length_le (by omega);have hres:ocE (zh.zC ([]++p::[]))=[[V.t (.str p.name),.t (.str p.version),.t (.str p.source),.o (.list 2 (zN.zC p.sums)),.t (.bool p.dev),.o (.list 1 [])]]:=by
  rw[show ocE (zh.zC ([]++p::[]))=[[V.t (.str p.name),.t (.str p.version),.t (.str p.source),.o (.list 2 (zN.zC p.sums)),.t (.bool p.dev),.o (.list 1 (strs p.zE))]] from rfl,hp0];rfl
 rw[hres,show ocE (zh.zC [])=[] from rfl];clear hres;obtain⟨name,version,source,sums,dev,zE⟩:=p;simp only at hp0;subst hp0;simp only[zG]at L hf1 hks hkp ⊢;generalize zN.zC sums=es1 at *;clear hk;obtain⟨z,hz⟩:∃ z:Nat,z=0:=⟨0,rfl⟩;obtain⟨T1,hT⟩:∃ T1:List (List V),T1=[]:=⟨[],rfl⟩;have hL:EV prog pol (.loop 196 28 2 [.ptr 2 0 0,.ptr 3 0 0,.ptr 4 0 0,.t (.int .i64 0)] [.vs 6 T1,.ts 2 es1,.vs 2 [[.nil 1,.sl 0 0 z cap0]],.vs 6 [[.t (.str name),.t (.str version),.t (.str source),.sl 1 0 k cap,.t (.bool dev),.nil 1]],.vs 2 [[.nil 1,.nil 6]]])
  = some (.loop (.exit 0) [.ptr 2 0 0,.ptr 3 0 0,.ptr 4 0 0,.t (.int .i64 (z:Int))] [.vs 6 T1,.ts 2 es1,.vs 2 [[.nil 1,.sl 0 0 z cap0]],.vs 6 [[.t (.str name),.t (.str version),.t (.str source),.sl 1 0 k cap,.t (.bool dev),.nil 1]],.vs 2 [[.nil 1,.nil 6]]]):=by
  subst hz hT;exact L
 have hal:T1.length=z:=by rw[hT,hz];rfl
 have q1:T1.take z=T1:=by rw[hT];exact List.take_nil
 have q2:T1.drop z=[]:=by rw[hT];exact List.drop_nil
 have c00:(0:Int)≤(z:Int):=by omega
 have hz1:(z=0)=True:=by simp[hz]
 have hz2:(0=z)=True:=by simp[hz]
 have hle1:∀ y:List V,(T1++[y]).length=z+1:=fun y=>by simp[hal]
 have hnone:T1[z]? = none:=by rw[hT];rfl
 have hok:(T1.all fun c=>c.all y6)=true:=by rw[hT];rfl
 have hA1:T1.flatMap refs.refss=[]:=by rw[hT];rfl
 have hA2:∀ f:Nat→Option Nat,T1.map (ren.rens f)=T1:=fun f=>by rw[hT];rfl
 have happ:∀ y:List V,T1++[y]++T1=T1++[y]:=fun y=>by rw[hT];rfl
 have g1:=fun y=>nw T1 [] y z hal
 have g2:=fun y y'=>nv T1 [] y y' z hal
 have hzM:z≤1048576:=by omega
 have goal:EV prog pol (.callO false 196 [.agg [.nil 1,.sl 0 0 z cap0],.agg [.t (.str name),.t (.str version),.t (.str source),.sl 1 0 k cap,.t (.bool dev),.nil 1]] [.vs 6 T1,.ts 2 es1])
  = some (.call (.agg [.nil 1,.sl 2 0 (z+1) none]) [.vs 6 T1,.dead,.vs 6 (T1++[[V.t (.str name),.t (.str version),.t (.str source),.o (.list 2 es1),.t (.bool dev),.o (.list 1 [])]])]):=by
  clear L hT hz;refine zM func196 rfl (by kernel_rfl) ?_;unfold Tryz.f196;simp (maxSteps:=1000000) (disch:=(try simp only[LL]);omega) only[↓GO,↓DRW,GA,GX,ren,zk,za,refs,z8,cst,zo,isC,bin,una,z7,zd,blt,asArg,zg,zc,zf,z6,zr,unN,ze,zm,zb,GS,simprocAttr,zH,zI,yU,yN,yQ,yP,yV,gh1,yM,yC,yG,zU,mkO,yw,yp,yq,mvC,unO,y7,yT,yO,yK,zO,yL,yJ,y9,oc,oTs,oT,zT,zT.rowTs,yF,isL,E.BX,GZ,hL,c00,if_true,Int.toNat_natCast,Nat.zero_add,Nat.sub_zero,Nat.sub_self,Nat.add_zero,hz1,hz2,hnone,hok,hle1,q1,q2,g1,g2,hal,hA1,hA2,happ,hf1,hks,hkp,List.append_nil,List.map_nil,Bool.and_false,and_false,false_and,if_false,yf,zA]
  all_goals (refine zR (by kernel_rfl) ?_)
  all_goals rfl
 subst hz hT;exact goal
theorem c_put (l:List zh)(k:Nat)(cap0 cap:Option Nat)(p:zh)(hp0:p.zE=[])(hpb:p.zX≤1048576)(hk:k=p.sums.length)(hl:l.length≤1048575)(hb:∀ x∈l,x.zX≤1048576) :
 ∃ a b:List zh,l=a++b∧N9 l l.length k cap0 cap p a b:=by
 have L:=Pt l.length k cap0 cap p hp0 hpb hk l rfl (by omega) hb l [] rfl;rcases L with L|⟨a,b,x,h1,L⟩
 · cases hl0:l with
   | nil=>subst hl0;exact⟨[],[],rfl,OE k cap0 cap p hp0 hk L⟩
   | cons y r =>
    rw[← hl0];refine⟨l,[],by simp,?_⟩;have:=Ss l [] l.length k cap0 cap p hp0 hk (by simp) (by simp;omega) (by rw[hl0];simp) (.inl ⟨by rw[List.append_nil];exact L,rfl⟩);rw[List.append_nil]at this;exact this
 · subst h1;exact⟨a,x::b,rfl,Ss a (x::b) (a++x::b).length k cap0 cap p hp0 hk rfl (by omega) (by simp) (.inr ⟨x,b,rfl,L⟩)⟩
theorem cV (B:Nat):∀ l:List zN,(∀ s∈l,s.zX≤B)→zN.yr l≤l.length*B
 | [],_=>Nat.zero_le _
 | x::r,h=>by
  have h1:=h x (by simp);have h2:=cV B r fun s hs=>h s (by simp[hs])
  simp only[zN.yr,List.length_cons,Nat.add_mul];omega
theorem me (B:Nat):∀ l:List zh,(∀ s∈l,s.zX≤B)→zh.yr l≤l.length*B
 | [],_=>Nat.zero_le _
 | x::r,h=>by
  have h1:=h x (by simp);have h2:=me B r fun s hs=>h s (by simp[hs])
  simp only[zh.yr,List.length_cons,Nat.add_mul];omega
theorem oK (B:Nat):∀ l:List Str,(∀ s∈l,s.length≤B)→ya l≤l.length*B
 | [],_=>Nat.zero_le _
 | x::r,h=>by
  have h1:=h x (by simp);have h2:=oK B r fun s hs=>h s (by simp[hs])
  simp only[ya,List.length_cons,Nat.add_mul];omega
theorem cY {k:Nat}{p:zh}(h:smP k p)(hk:k≤8):p.zX≤4096:=by
 obtain⟨h1,h2,h3,⟨h4,h5⟩,h6,h7⟩:=h;have e1:=cV 72 p.sums fun s hs=>by
  obtain⟨q1,q2⟩:=h5 s hs;simp only[zN.zX];omega
 have e2:=oK 400 p.zE h7;simp only[zh.zX];omega
def YE (k:Nat)(l:List zh):Prop:=∀ x∈l,smP k x
theorem s5 {k:Nat}{l:List zh}(h:YE k l)(hk:k≤8):∀ x∈l,x.zX≤4096:=fun x hx=>cY (h x hx) hk
theorem Ru {k:Nat}{l:List zh}(h:YE k l)(hk:k≤8)(hl:l.length≤8)(top:List Str)(ht:top.length≤8)(ht2:∀ s∈top,s.length≤400):GB ⟨top,l⟩:=by
 have e1:=me 4096 l (s5 h hk);have e2:=oK 400 top ht2;unfold GB zB.zX;simp only;omega
theorem jW (bs:List Int)(hb:okB bs)(n:Nat)(hn:n≤6):∀ (m i:Nat) (c:Cs) (l:List zh) (cap0:Option Nat),cok bs c→n=i+m→l.length≤i→YE 0 l→∃ (c':Cs) (l':List zh) (cap':Option Nat),cok bs c'∧l'.length≤n∧YE 0 l' ∧
 EV prog pol (.loop 133 122 1 [.ptr 0 0 0,.ptr 1 0 0,.ptr 2 0 0,.t (.int .i64 (n:Int)),.t (.int .i64 (i:Int))] [cuR bs c,.vs 2 [zG],.vs 2 [[.nil 1,.sl 3 0 l.length cap0]],.vs 6 (ocE (zh.zC l))])
  = some (.loop (.exit 0) [.ptr 0 0 0,.ptr 1 0 0,.ptr 2 0 0] [cuR bs c',.vs 2 [zG],.vs 2 [[.nil 1,.sl 3 0 l'.length cap']],.vs 6 (ocE (zh.zC l'))])
 | 0,i,c,l,cap0,hc,hi,hl,hs=>by
  have c0:decide ((i:Int)<(n:Int))=false:=by apply decide_eq_false;omega
  refine⟨c,l,cap0,hc,by omega,hs,?_⟩;obtain⟨h1,h2,_⟩:=wE l;simp only[zG];unfold cuR;generalize ocE (zh.zC l)=E0 at *;clear hb hc hs;refine zj func133 rfl rfl ?_;simp (disch:=(try simp only[LL]);omega) only[↓GO,↓DRW,GA,GX,ren,zk,za,refs,z8,cst,zo,isC,bin,una,z7,zd,blt,asArg,zg,zc,zf,z6,zr,unN,ze,zm,zb,GS,simprocAttr,zH,zI,yU,yN,yQ,yP,yV,gh1,yM,yC,yG,zU,mkO,yw,yp,yq,mvC,unO,y7,yT,yO,yK,zO,yL,yJ,y9,oc,oTs,oT,zT,zT.rowTs,yF,isL,E.BX,GZ,c0,h1,h2,zA]
 | m + 1, i, c, l, cap0, hc, hi, hl, hs => by
  have c0:decide ((i:Int)<(n:Int))=true:=by apply decide_eq_true;omega
  obtain⟨p,c1,cap,hp,hc1,d1⟩:=OI bs hb c hc;have hpb:=cY hp (by omega);have d2:=tU p (by omega);have d3:=dA ⟨[],l⟩ (keyOf p) (Ru hs (by omega) (by omega) [] (by simp) (by simp));have hks:(zN.zC p.sums).length=p.sums.length:=zN.zF _;have hkp:(zN.zC p.sums).take p.sums.length=zN.zC p.sums:=List.take_of_length_le (by omega);have hp0:p.zE=[]:=List.eq_nil_of_length_eq_zero (by have:=hp.2.2.2.2.1;omega);have hlt:(ocE (zh.zC l)).take l.length=ocE (zh.zC l):=List.take_of_length_le (by rw[vM,zh.zF];exact Nat.le_refl _);obtain⟨h1,h2,_⟩:=wE l
  cases hf:ob l (keyOf p) with
  | some j =>
   have c1':decide ((j:Int)<0)=false:=by apply decide_eq_false;omega
   obtain⟨c',l',cap',q1,q2,q3,IH⟩:=jW bs hb n hn m (i+1) c1 l cap0 hc1 (by omega) (by omega) hs;refine⟨c',l',cap',q1,q2,q3,?_⟩;rw[show ((i+1:Nat):Int)=(i:Int)+1 by omega]at IH;simp only[hf,ixI]at d3;simp only[zB.enc,zh.enc,List.map_cons,List.map_nil,show strs []=[] from rfl,hp0]at d2 d3;clear q3 hs hp hb hc hf;simp only[zG]at IH ⊢;unfold cuR at *;generalize ocE (zh.zC l')=E1 at *;generalize keyOf p=kp at *;obtain⟨name,version,source,sums,dev,zE⟩:=p;simp only at hp0 hks hkp d1 d2;generalize zN.zC sums=es at *;refine zj func133 rfl rfl ?_;simp (disch:=(try simp only[LL]);omega) only[↓GO,↓DRW,GA,GX,ren,zk,za,refs,z8,cst,zo,isC,bin,una,z7,zd,blt,asArg,zg,zc,zf,z6,zr,unN,ze,zm,zb,GS,simprocAttr,zH,zI,yU,yN,yQ,yP,yV,gh1,yM,yC,yG,zU,mkO,yw,yp,yq,mvC,unO,y7,yT,yO,yK,zO,yL,yJ,y9,oc,oTs,oT,zT,zT.rowTs,yF,isL,E.BX,GZ,c0,c1',d1,d2,d3,h1,h2,hlt,hks,hkp,jB,kj,oW,List.drop_zero,zi,zA,IH]
  | none =>
   obtain⟨a,b,hab,X,x0,hX,d4⟩:=c_put l p.sums.length cap0 cap p hp0 (by omega) rfl (by omega) fun x hx=>by have:=s5 hs (by omega) x hx;omega
   have hs':YE 0 (a++p::b):=fun x hx=>by
    simp only[List.mem_append,List.mem_cons]at hx;rcases hx with hx|rfl|hx
    · exact hs x (by rw[hab];simp[hx])
    · exact hp
    · exact hs x (by rw[hab];simp[hx])
   have hlen:(a++p::b).length=l.length+1:=by rw[hab];simp;omega
   obtain⟨c',l',cap',q1,q2,q3,IH⟩:=jW bs hb n hn m (i+1) c1 (a++p::b) none hc1 (by omega) (by omega) hs';refine⟨c',l',cap',q1,q2,q3,?_⟩;rw[show ((i+1:Nat):Int)=(i:Int)+1 by omega,hlen]at IH;obtain⟨hX1,hX2,_⟩:=hX;obtain⟨hY1,hY2,_⟩:=wE (a++p::b);simp only[hf,ixI]at d3;simp only[zB.enc,zh.enc,List.map_cons,List.map_nil,show strs []=[] from rfl,hp0]at d2 d3;clear q3 hs hp hb hc hf hs';simp only[zG]at IH ⊢;unfold cuR at *;generalize ocE (zh.zC l')=E1 at *;generalize ocE (zh.zC (a++p::b))=E2 at *;generalize keyOf p=kp at *;obtain⟨name,version,source,sums,dev,zE⟩:=p;simp only at hp0 hks hkp d1 d2 d4;generalize zN.zC sums=es at *;refine zj func133 rfl rfl ?_;simp (disch:=(try simp only[LL]);omega) only[↓GO,↓DRW,GA,GX,ren,zk,za,refs,z8,cst,zo,isC,bin,una,z7,zd,blt,asArg,zg,zc,zf,z6,zr,unN,ze,zm,zb,GS,simprocAttr,zH,zI,yU,yN,yQ,yP,yV,gh1,yM,yC,yG,zU,mkO,yw,yp,yq,mvC,unO,y7,yT,yO,yK,zO,yL,yJ,y9,oc,oTs,oT,zT,zT.rowTs,yF,isL,E.BX,GZ,c0,d1,d2,d3,d4,h1,h2,hX1,hX2,hY1,hY2,hlt,hks,hkp,jB,kj,oW,List.drop_zero,zi,zA,IH]
theorem hole2 (E:List (List V))(i k:Nat)(hik:i≠k)(ei ek:List V)(hi:E[i]? = some ei)(hk:E[k]? = some ek):∃ F:List V→List V→List (List V),E=F ei ek∧(∀ y,F y ek=E.set i y) ∧
 (∀ y z,(F y z)[i]? = some y)∧(∀ y z,(F y z)[k]? = some z)∧(∀ y z y',(F y z).set i y'=F y' z)∧(∀ y z z',(F y z).set k z'=F y z')∧(∀ y z,(F y z).length=E.length):=by
 have hil:=(List.getElem?_eq_some_iff.1 hi).1;have hkl:=(List.getElem?_eq_some_iff.1 hk).1;have self:∀ (L:List (List V)) (j:Nat) (x:List V),L[j]? = some x→L.set j x=L:=fun L j x h=>by
  apply List.ext_getElem?;intro m;rw[List.getElem?_set]
  split
  · rename_i e;subst e;rw[if_pos (List.getElem?_eq_some_iff.1 h).1,h]
  · rfl
 refine⟨fun y z=>(E.set i y).set k z,?_,fun y=>?_,fun y z=>?_,fun y z=>?_,fun y z y'=>?_,fun y z z'=>?_,fun y z=>by simp⟩
 · simp only[self E i ei hi,self E k ek hk]
 · exact self _ k ek (by rw[List.getElem?_set_ne hik];exact hk)
 · rw[List.getElem?_set_ne (Ne.symm hik),List.getElem?_set_self hil]
 · rw[List.getElem?_set_self (by simpa using hkl)]
 · simp only;rw[List.set_comm _ _ (Ne.symm hik),List.set_set]
 · simp only;rw[List.set_set]
theorem Zq (E:List (List V))(i:Nat)(ei:List V)(hi:E[i]? = some ei):∃ F:List V→List (List V),E=F ei∧(∀ y,F y=E.set i y)∧(∀ y,(F y)[i]? = some y)∧(∀ y y',(F y).set i y'=F y')∧(∀ y,(F y).length=E.length):=by
 have hil:=(List.getElem?_eq_some_iff.1 hi).1;refine⟨fun y=>E.set i y,?_,fun y=>rfl,fun y=>List.getElem?_set_self hil,fun y y'=>by simp only;rw[List.set_set],fun y=>by simp⟩;apply List.ext_getElem?;intro m;simp only;rw[List.getElem?_set]
 split
 · rename_i e;subst e
   first|rw[if_pos hil,hi]|rw[hi]|simp[hi,hil]
 · rfl
theorem eA {l:List zh}{i:Nat}{x:zh}(h:l[i]? = some x):(ocE (zh.zC l))[i]? = some [V.t (.str x.name),.t (.str x.version),.t (.str x.source),.o (.list 2 (zN.zC x.sums)),.t (.bool x.dev),.o (.list 1 (strs x.zE))]:=by
 unfold ocE zh.zC;rw[List.getElem?_map,List.getElem?_map,h];rfl
theorem TQ (l:List zh)(i:Nat)(x:zh):ocE (zh.zC (l.set i x))=(ocE (zh.zC l)).set i [V.t (.str x.name),.t (.str x.version),.t (.str x.source),.o (.list 2 (zN.zC x.sums)),.t (.bool x.dev),.o (.list 1 (strs x.zE))]:=by
 unfold ocE zh.zC;rw[List.map_set,List.map_set];rfl
def smB (f:Nat→Nat)(l:List zh):Prop:=∀ (j:Nat) (x:zh),l[j]? = some x→smP (f j) x
theorem oL {k k':Nat}{p:zh}(h:smP k p)(hk:k≤k'):smP k' p:=⟨h.1,h.2.1,h.2.2.1,h.2.2.2.1,by have:=h.2.2.2.2.1;omega,h.2.2.2.2.2⟩
theorem gU {k:Nat}{p:zh}(h:smP k p):(keyOf p).length≤400:=by
 have:=km p;have h1:=h.1;have h2:=h.2.1;unfold keyOf;simp;omega
def u7 (x:zh)(k:Str):zh:=⟨x.name,x.version,x.source,x.sums,x.dev,x.zE++[k]⟩
theorem Uv {j:Nat}{x:zh}{k:Str}(h:smP j x)(hk:k.length≤400):smP (j+1) (u7 x k):=by
 obtain⟨h1,h2,h3,h4,h5,h6⟩:=h;refine⟨h1,h2,h3,h4,by simp[u7];omega,fun s hs=>?_⟩;simp only[u7,List.mem_append,List.mem_singleton]at hs;rcases hs with hs|rfl
 · exact h6 s hs
 · exact hk
theorem TL (bs:List Int) (c:Cs) (l:List zh) (n i k:Nat) (tp:List (List T)) (cap:Option Nat) (xi xk:zh) (hi:l[i]? = some xi) (hk:l[k]? = some xk) (hn:n=l.length) (hn6:n≤8) (hbi:xi.zX≤4096) (hbk:xk.zX≤4096) (R:xV)
 (IH:EV prog pol (.loop 133 32034 1 [.ptr 0 0 0,.ptr 1 0 0,.ptr 2 0 0,.t (.int .i64 (i:Int)),.t (.int .i64 ((k:Int)+1))] [cuR bs c,.vs 2 [zG],.vs 2 [[.o (.list 1 tp),.sl 3 0 n cap]],.vs 6 (ocE (zh.zC (l.set i (u7 xi (keyOf xk)))))])=some R)
 (c0:Cs) (hb:okB bs) (hc0:cok bs c0)
 (hd:(∃ (c1:Cs),c1=c∧i<k∧EV prog pol (.callO false 131 [.ptr 0 0 0,.t (.int .i64 4)] [cuR bs c0])=some (.call (.t (.bool true)) [cuR bs c])) ∨
  (∃ (c1:Cs),¬ i<k∧EV prog pol (.callO false 131 [.ptr 0 0 0,.t (.int .i64 4)] [cuR bs c0])=some (.call (.t (.bool true)) [cuR bs c1])∧EV prog pol (.callO false 131 [.ptr 0 0 0,.t (.int .i64 4)] [cuR bs c1])=some (.call (.t (.bool true)) [cuR bs c]))) :
 EV prog pol (.loop 133 32034 1 [.ptr 0 0 0,.ptr 1 0 0,.ptr 2 0 0,.t (.int .i64 (i:Int)),.t (.int .i64 (k:Int))] [cuR bs c0,.vs 2 [zG],.vs 2 [[.o (.list 1 tp),.sl 3 0 n cap]],.vs 6 (ocE (zh.zC l))])=some R:=by
 have hil:=(List.getElem?_eq_some_iff.1 hi).1;have hkl:=(List.getElem?_eq_some_iff.1 hk).1;have cA:decide ((k:Int)<(n:Int))=true:=by apply decide_eq_true;omega
 have cI:decide ((i:Int)<(n:Int))=true:=by apply decide_eq_true;omega
 have hkM:k<8:=by omega
 have hiM:i<8:=by omega
 have cI0:(0:Int)≤(i:Int):=by omega
 have cK0:(0:Int)≤(k:Int):=by omega
 have cI1:decide ((0:Int)≤(i:Int))=true:=by apply decide_eq_true;omega
 have cK1:decide ((0:Int)≤(k:Int))=true:=by apply decide_eq_true;omega
 have d1:=tU xk (by omega);have hkk:=km xk;have hg1:=eA hi;have hg2:=eA hk;rw[TQ]at IH;have hnR:=wE (l.set i (u7 xi (keyOf xk)));rw[TQ]at hnR;obtain⟨h1,h2,_⟩:=hnR;have hsI:=zN.zF xi.sums;have hsI2:=zn xi.zE;have htI:(zN.zC xi.sums).take xi.sums.length=zN.zC xi.sums:=List.take_of_length_le (by omega);have htI2:(strs xi.zE).take xi.zE.length=strs xi.zE:=List.take_of_length_le (by omega);have hfI:=wh xi.sums;have hfI2:=xn xi.zE;have hfI3:=xn (xi.zE++[keyOf xk]);have hnl:xi.zE.length≤4096:=by simp only[zh.zX]at hbi;omega
 rw[show strs (u7 xi (keyOf xk)).zE=strs xi.zE++[[.str (keyOf xk)]] by simp[strs,u7]]at IH h1 h2;rw[show strs (xi.zE++[keyOf xk])=strs xi.zE++[[.str (keyOf xk)]] by simp[strs]]at hfI3;have htI3:(strs xi.zE++[[T.str (keyOf xk)]]).take (xi.zE.length+1)=strs xi.zE++[[T.str (keyOf xk)]]:=List.take_of_length_le (by simp[hsI2])
 by_cases hik:i=k
 · subst hik;obtain rfl:xi=xk:=by rw[hi]at hk;cases hk;rfl
   obtain⟨F,f1,f2,f3,f5,f7⟩:=Zq _ i _ hg1;rw[← f2]at IH h1 h2;rw[f1];clear hg1 hg2 f1 f2 hi hk;simp only[u7]at IH h1 h2;simp only[zh.enc,List.map_cons,List.map_nil]at d1;have f8:∀ y,(F y).length=n:=fun y=>by rw[f7,vM,zh.zF,hn]
   clear f7 hil hkl hn;rcases hd with⟨c1,rfl,hlt,d2⟩|⟨c1,hlt,d2,d3⟩
   · exact absurd hlt (Nat.lt_irrefl _)
   have cG:decide ((i:Int) > (i:Int))=false:=by apply decide_eq_false;omega
   clear hb hc0 hbi hbk hlt;simp only[zG]at IH ⊢;unfold cuR at *;generalize keyOf xi=kx at *;obtain⟨name,version,source,sums,dev,zE⟩:=xi;simp only at *;generalize zN.zC sums=es1 at *;generalize strs zE=es2 at *;refine zj func133 rfl rfl ?_;simp (maxSteps:=1000000) (disch:=(try simp only[LL]);omega) only[↓GO,↓DRW,GA,GX,ren,zk,za,refs,z8,cst,zo,isC,bin,una,z7,zd,blt,asArg,zg,zc,zf,z6,zr,unN,ze,zm,zb,GS,simprocAttr,zH,zI,yU,yN,yQ,yP,yV,gh1,yM,yC,yG,zU,mkO,yw,yp,yq,mvC,unO,y7,yT,yO,yK,zO,yL,yJ,y9,oc,oTs,oT,zT,zT.rowTs,yF,isL,E.BX,GZ,cA,cI,cI0,cI1,cG,d1,d2,d3,f3,f5,f8,h1,h2,hsI,hsI2,htI,htI2,htI3,hfI,hfI2,hfI3,if_true,Int.toNat_natCast,Nat.zero_add,List.length_append,List.length_singleton,zi,yf,zA,IH]
   all_goals (refine zR (by kernel_rfl) ?_)
   all_goals first|rfl|(simp only[List.length_append,List.length_singleton,hsI2];rfl)
 · have hsK:=zN.zF xk.sums;have hsK2:=zn xk.zE;have htK:(zN.zC xk.sums).take xk.sums.length=zN.zC xk.sums:=List.take_of_length_le (by omega);have htK2:(strs xk.zE).take xk.zE.length=strs xk.zE:=List.take_of_length_le (by omega);have hfK:=wh xk.sums;have hfK2:=xn xk.zE;obtain⟨F,f1,f2,f3,f4,f5,f6,f7⟩:=hole2 _ i k hik _ _ hg1 hg2;rw[← f2]at IH h1 h2;rw[f1];clear hg1 hg2 f1 f2 hi hk;simp only[u7]at IH h1 h2;simp only[zh.enc,List.map_cons,List.map_nil]at d1;have f8:∀ y z,(F y z).length=n:=fun y z=>by rw[f7,vM,zh.zF,hn]
   clear f7 hil hkl hn;rcases hd with⟨c1,rfl,hlt,d2⟩|⟨c1,hlt,d2,d3⟩
   · have cG:decide ((k:Int) > (i:Int))=true:=by apply decide_eq_true;omega
     clear hb hc0 hbi hbk hlt hik;simp only[zG]at IH ⊢;unfold cuR at *;generalize keyOf xk=kx at *;obtain⟨name,version,source,sums,dev,zE⟩:=xi;obtain⟨name',version',source',sums',dev',needs'⟩:=xk;simp only at *;generalize zN.zC sums=es1 at *;generalize strs zE=es2 at *;generalize zN.zC sums'=es3 at *;generalize strs needs'=es4 at *;refine zj func133 rfl rfl ?_;simp (maxSteps:=1000000) (disch:=(try simp only[LL]);omega) only[↓GO,↓DRW,GA,GX,ren,zk,za,refs,z8,cst,zo,isC,bin,una,z7,zd,blt,asArg,zg,zc,zf,z6,zr,unN,ze,zm,zb,GS,simprocAttr,zH,zI,yU,yN,yQ,yP,yV,gh1,yM,yC,yG,zU,mkO,yw,yp,yq,mvC,unO,y7,yT,yO,yK,zO,yL,yJ,y9,oc,oTs,oT,zT,zT.rowTs,yF,isL,E.BX,GZ,cA,cI,cI0,cK0,cI1,cK1,cG,d1,d2,f3,f4,f5,f6,f8,h1,h2,hsI,hsI2,htI,htI2,htI3,hfI,hfI2,hfI3,hsK,hsK2,htK,htK2,hfK,hfK2,if_true,Int.toNat_natCast,Nat.zero_add,List.length_append,List.length_singleton,zi,yf,zA,IH]
     all_goals (refine zR (by kernel_rfl) ?_)
     all_goals first|rfl|(simp only[List.length_append,List.length_singleton,hsI2];rfl)
   · have cG:decide ((k:Int) > (i:Int))=false:=by apply decide_eq_false;omega
     clear hb hc0 hbi hbk hlt hik;simp only[zG]at IH ⊢;unfold cuR at *;generalize keyOf xk=kx at *;obtain⟨name,version,source,sums,dev,zE⟩:=xi;obtain⟨name',version',source',sums',dev',needs'⟩:=xk;simp only at *;generalize zN.zC sums=es1 at *;generalize strs zE=es2 at *;generalize zN.zC sums'=es3 at *;generalize strs needs'=es4 at *;refine zj func133 rfl rfl ?_;simp (maxSteps:=1000000) (disch:=(try simp only[LL]);omega) only[↓GO,↓DRW,GA,GX,ren,zk,za,refs,z8,cst,zo,isC,bin,una,z7,zd,blt,asArg,zg,zc,zf,z6,zr,unN,ze,zm,zb,GS,simprocAttr,zH,zI,yU,yN,yQ,yP,yV,gh1,yM,yC,yG,zU,mkO,yw,yp,yq,mvC,unO,y7,yT,yO,yK,zO,yL,yJ,y9,oc,oTs,oT,zT,zT.rowTs,yF,isL,E.BX,GZ,cA,cI,cI0,cK0,cI1,cK1,cG,d1,d2,d3,f3,f4,f5,f6,f8,h1,h2,hsI,hsI2,htI,htI2,htI3,hfI,hfI2,hfI3,hsK,hsK2,htK,htK2,hfK,hfK2,if_true,Int.toNat_natCast,Nat.zero_add,List.length_append,List.length_singleton,zi,yf,zA,IH]
     all_goals (refine zR (by kernel_rfl) ?_)
     all_goals first|rfl|(simp only[List.length_append,List.length_singleton,hsI2];rfl)
theorem TK (bs:List Int) (c:Cs) (l:List zh) (n i k:Nat) (tp:List (List T)) (cap:Option Nat) (xi xk:zh) (hi:l[i]? = some xi) (hk:l[k]? = some xk) (hn:n=l.length) (hn6:n≤8) (R:xV)
 (IH:EV prog pol (.loop 133 32034 1 [.ptr 0 0 0,.ptr 1 0 0,.ptr 2 0 0,.t (.int .i64 (i:Int)),.t (.int .i64 ((k:Int)+1))] [cuR bs c,.vs 2 [zG],.vs 2 [[.o (.list 1 tp),.sl 3 0 n cap]],.vs 6 (ocE (zh.zC l))])=some R)
 (c0:Cs)
 (hd:EV prog pol (.callO false 131 [.ptr 0 0 0,.t (.int .i64 4)] [cuR bs c0])=some (.call (.t (.bool false)) [cuR bs c]) ∨
  (∃ (c1:Cs),¬ i<k∧EV prog pol (.callO false 131 [.ptr 0 0 0,.t (.int .i64 4)] [cuR bs c0])=some (.call (.t (.bool true)) [cuR bs c1])∧EV prog pol (.callO false 131 [.ptr 0 0 0,.t (.int .i64 4)] [cuR bs c1])=some (.call (.t (.bool false)) [cuR bs c]))) :
 EV prog pol (.loop 133 32034 1 [.ptr 0 0 0,.ptr 1 0 0,.ptr 2 0 0,.t (.int .i64 (i:Int)),.t (.int .i64 (k:Int))] [cuR bs c0,.vs 2 [zG],.vs 2 [[.o (.list 1 tp),.sl 3 0 n cap]],.vs 6 (ocE (zh.zC l))])=some R:=by
 have hil:=(List.getElem?_eq_some_iff.1 hi).1;have hkl:=(List.getElem?_eq_some_iff.1 hk).1;have cA:decide ((k:Int)<(n:Int))=true:=by apply decide_eq_true;omega
 have hkM:k<8:=by omega
 have hiM:i<8:=by omega
 have cI0:(0:Int)≤(i:Int):=by omega
 have cK0:(0:Int)≤(k:Int):=by omega
 have hg1:=eA hi;have hg2:=eA hk;have hself1:(ocE (zh.zC l)).set i [V.t (.str xi.name),.t (.str xi.version),.t (.str xi.source),.o (.list 2 (zN.zC xi.sums)),.t (.bool xi.dev),.o (.list 1 (strs xi.zE))]=ocE (zh.zC l):=by
  obtain⟨F,f1,f2,_⟩:=Zq _ i _ hg1;rw[← f2,← f1]
 have hself2:(ocE (zh.zC l)).set k [V.t (.str xk.name),.t (.str xk.version),.t (.str xk.source),.o (.list 2 (zN.zC xk.sums)),.t (.bool xk.dev),.o (.list 1 (strs xk.zE))]=ocE (zh.zC l):=by
  obtain⟨F,f1,f2,_⟩:=Zq _ k _ hg2;rw[← f2,← f1]
 obtain⟨h1,h2,_⟩:=wE l;clear hil hkl hn hi hk;simp only[zG]at IH ⊢;unfold cuR at *;obtain⟨name,version,source,sums,dev,zE⟩:=xi;obtain⟨name',version',source',sums',dev',needs'⟩:=xk;simp only at *;generalize zN.zC sums=es1 at *;generalize strs zE=es2 at *;generalize zN.zC sums'=es3 at *;generalize strs needs'=es4 at *;generalize ocE (zh.zC l)=E0 at *;rcases hd with d2|⟨c1,hlt,d2,d3⟩
 · refine zj func133 rfl rfl ?_;simp (maxSteps:=1000000) (disch:=(try simp only[LL]);omega) only[↓GO,↓DRW,GA,GX,ren,zk,za,refs,z8,cst,zo,isC,bin,una,z7,zd,blt,asArg,zg,zc,zf,z6,zr,unN,ze,zm,zb,GS,simprocAttr,zH,zI,yU,yN,yQ,yP,yV,gh1,yM,yC,yG,zU,mkO,yw,yp,yq,mvC,unO,y7,yT,yO,yK,zO,yL,yJ,y9,oc,oTs,oT,zT,zT.rowTs,yF,isL,E.BX,GZ,cA,cI0,cK0,d2,hg1,hg2,hself1,hself2,h1,h2,if_true,Int.toNat_natCast,Nat.zero_add,zi,yf,zA,IH]
 · have cG:decide ((k:Int) > (i:Int))=false:=by apply decide_eq_false;omega
   refine zj func133 rfl rfl ?_;simp (maxSteps:=1000000) (disch:=(try simp only[LL]);omega) only[↓GO,↓DRW,GA,GX,ren,zk,za,refs,z8,cst,zo,isC,bin,una,z7,zd,blt,asArg,zg,zc,zf,z6,zr,unN,ze,zm,zb,GS,simprocAttr,zH,zI,yU,yN,yQ,yP,yV,gh1,yM,yC,yG,zU,mkO,yw,yp,yq,mvC,unO,y7,yT,yO,yK,zO,yL,yJ,y9,oc,oTs,oT,zT,zT.rowTs,yF,isL,E.BX,GZ,cA,cI0,cK0,cG,d2,d3,hg1,hg2,hself1,hself2,h1,h2,if_true,Int.toNat_natCast,Nat.zero_add,zi,yf,zA,IH]
def bnd (i k:Nat)(j:Nat):Nat:=if j<i then 6 else if j=i then k else 0
theorem YG {i k:Nat}{l:List zh}(h:smB (bnd i k) l)(hk:k≤8):YE 8 l:=fun x hx=>by
 obtain⟨j,hj⟩:=List.mem_iff_getElem?.1 hx;exact oL (h j x hj) (by unfold bnd;(repeat' split)<;>omega)
theorem cZ {i k:Nat}{l:List zh}(h:smB (bnd i k) l):smB (bnd i (k+1)) l:=fun j x hj=>oL (h j x hj) (by unfold bnd;(repeat' split)<;>omega)
theorem Uh {i k:Nat}{l:List zh}{xi xk:zh}(h:smB (bnd i k) l)(hi:l[i]? = some xi)(hk:l[k]? = some xk):smB (bnd i (k+1)) (l.set i (u7 xi (keyOf xk))):=fun j x hj=>by
 rw[List.getElem?_set]at hj
 split at hj
 · rename_i e;subst e
   split at hj
   · cases hj;have h1:=h i xi hi;rw[show bnd i k i=k by simp[bnd]]at h1;rw[show bnd i (k+1) i=k+1 by simp[bnd]];exact Uv h1 (gU (h k xk hk))
   · cases hj
 · exact cZ h j x hj
theorem jV (bs:List Int)(hb:okB bs)(n i:Nat)(tp:List (List T))(cap:Option Nat)(hn6:n≤6)(hin:i<n):∀ (m k:Nat) (c:Cs) (l:List zh),cok bs c→n=l.length→n=k+m→smB (bnd i k) l→∃ (c':Cs) (l':List zh),cok bs c'∧n=l'.length∧smB (bnd i n) l' ∧
 EV prog pol (.loop 133 32034 1 [.ptr 0 0 0,.ptr 1 0 0,.ptr 2 0 0,.t (.int .i64 (i:Int)),.t (.int .i64 (k:Int))] [cuR bs c,.vs 2 [zG],.vs 2 [[.o (.list 1 tp),.sl 3 0 n cap]],.vs 6 (ocE (zh.zC l))])
  = some (.loop (.exit 4) [.ptr 0 0 0,.ptr 1 0 0,.ptr 2 0 0,.t (.int .i64 (i:Int))] [cuR bs c',.vs 2 [zG],.vs 2 [[.o (.list 1 tp),.sl 3 0 n cap]],.vs 6 (ocE (zh.zC l'))])
 | 0,k,c,l,hc,hn,hk,hs=>by
  have c0:decide ((k:Int)<(n:Int))=false:=by apply decide_eq_false;omega
  refine⟨c,l,hc,hn,by rw[hk];exact hs,?_⟩;obtain⟨h1,h2,_⟩:=wE l;simp only[zG];unfold cuR;generalize ocE (zh.zC l)=E0 at *;clear hb hc hs hn;refine zj func133 rfl rfl ?_;simp (disch:=(try simp only[LL]);omega) only[↓GO,↓DRW,GA,GX,ren,zk,za,refs,z8,cst,zo,isC,bin,una,z7,zd,blt,asArg,zg,zc,zf,z6,zr,unN,ze,zm,zb,GS,simprocAttr,zH,zI,yU,yN,yQ,yP,yV,gh1,yM,yC,yG,zU,mkO,yw,yp,yq,mvC,unO,y7,yT,yO,yK,zO,yL,yJ,y9,oc,oTs,oT,zT,zT.rowTs,yF,isL,E.BX,GZ,c0,h1,h2,zA]
 | m + 1, k, c, l, hc, hn, hk, hs => by
  obtain⟨xi,hi⟩:∃ xi,l[i]? = some xi:=⟨_,List.getElem?_eq_getElem (by omega)⟩;obtain⟨xk,hxk⟩:∃ xk,l[k]? = some xk:=⟨_,List.getElem?_eq_getElem (by omega)⟩;have hall:=s5 (YG hs (by omega)) (by omega);have hbi:=hall xi (List.mem_of_getElem? hi);have hbk:=hall xk (List.mem_of_getElem? hxk);have edge:∀ c2,cok bs c2→∃ (c':Cs) (l':List zh),cok bs c'∧n=l'.length∧smB (bnd i n) l' ∧
   EV prog pol (.loop 133 32034 1 [.ptr 0 0 0,.ptr 1 0 0,.ptr 2 0 0,.t (.int .i64 (i:Int)),.t (.int .i64 ((k:Int)+1))] [cuR bs c2,.vs 2 [zG],.vs 2 [[.o (.list 1 tp),.sl 3 0 n cap]],.vs 6 (ocE (zh.zC (l.set i (u7 xi (keyOf xk)))))])
    = some (.loop (.exit 4) [.ptr 0 0 0,.ptr 1 0 0,.ptr 2 0 0,.t (.int .i64 (i:Int))] [cuR bs c',.vs 2 [zG],.vs 2 [[.o (.list 1 tp),.sl 3 0 n cap]],.vs 6 (ocE (zh.zC l'))]):=fun c2 hc2=>by
   have:=jV bs hb n i tp cap hn6 hin m (k+1) c2 (l.set i (u7 xi (keyOf xk))) hc2 (by simpa using hn) (by omega) (Uh hs hi hxk);rw[show ((k+1:Nat):Int)=(k:Int)+1 by omega]at this;exact this
  have skip:∀ c2,cok bs c2→∃ (c':Cs) (l':List zh),cok bs c'∧n=l'.length∧smB (bnd i n) l' ∧
   EV prog pol (.loop 133 32034 1 [.ptr 0 0 0,.ptr 1 0 0,.ptr 2 0 0,.t (.int .i64 (i:Int)),.t (.int .i64 ((k:Int)+1))] [cuR bs c2,.vs 2 [zG],.vs 2 [[.o (.list 1 tp),.sl 3 0 n cap]],.vs 6 (ocE (zh.zC l))])
    = some (.loop (.exit 4) [.ptr 0 0 0,.ptr 1 0 0,.ptr 2 0 0,.t (.int .i64 (i:Int))] [cuR bs c',.vs 2 [zG],.vs 2 [[.o (.list 1 tp),.sl 3 0 n cap]],.vs 6 (ocE (zh.zC l'))]):=fun c2 hc2=>by
   have:=jV bs hb n i tp cap hn6 hin m (k+1) c2 l hc2 hn (by omega) (cZ hs);rw[show ((k+1:Nat):Int)=(k:Int)+1 by omega]at this;exact this
  obtain⟨b,c1,hc1,d1⟩:=ua bs hb c hc 4 (by decide) (by decide);simp only[Int.cast_ofNat_Int]at d1
  cases b with
  | false =>
   obtain⟨c',l',q1,q2,q3,IH⟩:=skip c1 hc1;exact⟨c',l',q1,q2,q3,TK bs c1 l n i k tp cap xi xk hi hxk hn (by omega) _ IH c (.inl d1)⟩
  | true =>
   by_cases hlt:i<k
   · obtain⟨c',l',q1,q2,q3,IH⟩:=edge c1 hc1;exact⟨c',l',q1,q2,q3,TL bs c1 l n i k tp cap xi xk hi hxk hn (by omega) hbi hbk _ IH c hb hc (.inl ⟨c1,rfl,hlt,d1⟩)⟩
   · obtain⟨b,c2,hc2,d2⟩:=ua bs hb c1 hc1 4 (by decide) (by decide);simp only[Int.cast_ofNat_Int]at d2
     cases b with
     | false =>
      obtain⟨c',l',q1,q2,q3,IH⟩:=skip c2 hc2;exact⟨c',l',q1,q2,q3,TK bs c2 l n i k tp cap xi xk hi hxk hn (by omega) _ IH c (.inr ⟨c1,hlt,d1,d2⟩)⟩
     | true =>
      obtain⟨c',l',q1,q2,q3,IH⟩:=edge c2 hc2;exact⟨c',l',q1,q2,q3,TL bs c2 l n i k tp cap xi xk hi hxk hn (by omega) hbi hbk _ IH c hb hc (.inr ⟨c1,hlt,d1,d2⟩)⟩
theorem RD (bs:List Int) (n i:Nat) (cap:Option Nat) (c0 c1 c2:Cs) (l l1:List zh) (top:List Str) (xi:zh) (b:Bool) (hn:n=l.length) (hn1:n=l1.length) (hn6:n≤6) (hi:l1[i]? = some xi) (hbi:xi.zX≤4096) (ht:top.length≤6) (hki:(keyOf xi).length≤400) (R:xV)
 (hIn:EV prog pol (.loop 133 32034 1 [.ptr 0 0 0,.ptr 1 0 0,.ptr 2 0 0,.t (.int .i64 (i:Int)),.t (.int .i64 0)] [cuR bs c0,.vs 2 [zG],.vs 2 [[.o (.list 1 (strs top)),.sl 3 0 n cap]],.vs 6 (ocE (zh.zC l))])
  = some (.loop (.exit 4) [.ptr 0 0 0,.ptr 1 0 0,.ptr 2 0 0,.t (.int .i64 (i:Int))] [cuR bs c1,.vs 2 [zG],.vs 2 [[.o (.list 1 (strs top)),.sl 3 0 n cap]],.vs 6 (ocE (zh.zC l1))]))
 (d2:EV prog pol (.callO false 131 [.ptr 0 0 0,.t (.int .i64 2)] [cuR bs c1])=some (.call (.t (.bool b)) [cuR bs c2]))
 (IH:EV prog pol (.loop 133 250 1 [.ptr 0 0 0,.ptr 1 0 0,.ptr 2 0 0,.t (.int .i64 ((i:Int)+1))] [cuR bs c2,.vs 2 [zG],.vs 2 [[.o (.list 1 (strs (if b then top++[keyOf xi] else top))),.sl 3 0 n cap]],.vs 6 (ocE (zh.zC l1))])=some R) :
 EV prog pol (.loop 133 250 1 [.ptr 0 0 0,.ptr 1 0 0,.ptr 2 0 0,.t (.int .i64 (i:Int))] [cuR bs c0,.vs 2 [zG],.vs 2 [[.o (.list 1 (strs top)),.sl 3 0 n cap]],.vs 6 (ocE (zh.zC l))])=some R:=by
 have hil:=(List.getElem?_eq_some_iff.1 hi).1;have cA:decide ((i:Int)<(n:Int))=true:=by apply decide_eq_true;omega
 have hiM:i<8:=by omega
 have cI0:(0:Int)≤(i:Int):=by omega
 have cI1:decide ((0:Int)≤(i:Int))=true:=by apply decide_eq_true;omega
 have hnl:n≤6:=hn6;have d1:=tU xi (by omega);have hg:=eA hi;obtain⟨h1,h2,_⟩:=wE l;obtain⟨h3,h4,_⟩:=wE l1;have hsI:=zN.zF xi.sums;have hsI2:=zn xi.zE;have htI:(zN.zC xi.sums).take xi.sums.length=zN.zC xi.sums:=List.take_of_length_le (by omega);have htI2:(strs xi.zE).take xi.zE.length=strs xi.zE:=List.take_of_length_le (by omega);have hfI:=wh xi.sums;have hfI2:=xn xi.zE;have hT:=zn top;have hT2:(strs top).take top.length=strs top:=List.take_of_length_le (by omega);have hT3:=xn top;have hT4:=xn (top++[keyOf xi]);rw[show strs (top++[keyOf xi])=strs top++[[.str (keyOf xi)]] by simp[strs]]at hT4;have hT5:(strs top++[[T.str (keyOf xi)]]).take (top.length+1)=strs top++[[T.str (keyOf xi)]]:=List.take_of_length_le (by simp[hT]);obtain⟨F,f1,f2,f3,f5,f7⟩:=Zq _ i _ hg;rw[f1]at hIn IH h3 h4;have f8:∀ y,(F y).length=n:=fun y=>by rw[f7,vM,zh.zF,hn1]
 simp only[zh.enc,List.map_cons,List.map_nil]at d1;clear hg f1 f2 f7 hil hi hn hn1 hbi
 cases b with
 | false =>
  simp only[Bool.false_eq_true,if_false]at IH;simp only[zG]at hIn IH ⊢;unfold cuR at *;generalize ocE (zh.zC l)=E0 at *;generalize strs top=tp at *;generalize keyOf xi=kx at *;obtain⟨name,version,source,sums,dev,zE⟩:=xi;simp only at *;generalize zN.zC sums=es1 at *;generalize strs zE=es2 at *;refine zj func133 rfl rfl ?_;simp (maxSteps:=1000000) (disch:=(try simp only[LL]);omega) only[↓GO,↓DRW,GA,GX,ren,zk,za,refs,z8,cst,zo,isC,bin,una,z7,zd,blt,asArg,zg,zc,zf,z6,zr,unN,ze,zm,zb,GS,simprocAttr,zH,zI,yU,yN,yQ,yP,yV,gh1,yM,yC,yG,zU,mkO,yw,yp,yq,mvC,unO,y7,yT,yO,yK,zO,yL,yJ,y9,oc,oTs,oT,zT,zT.rowTs,yF,isL,E.BX,GZ,cA,cI0,cI1,hIn,d1,d2,f3,f5,f8,h1,h2,h3,h4,hsI,hsI2,htI,htI2,hfI,hfI2,hT,hT2,hT3,if_true,Int.toNat_natCast,Nat.zero_add,zi,yf,zA,IH]
 | true =>
  simp only[if_true]at IH;rw[show strs (top++[keyOf xi])=strs top++[[.str (keyOf xi)]] by simp[strs]]at IH;simp only[zG]at hIn IH ⊢;unfold cuR at *;generalize ocE (zh.zC l)=E0 at *;generalize strs top=tp at *;generalize keyOf xi=kx at *;obtain⟨name,version,source,sums,dev,zE⟩:=xi;simp only at *;generalize zN.zC sums=es1 at *;generalize strs zE=es2 at *;refine zj func133 rfl rfl ?_;simp (maxSteps:=1000000) (disch:=(try simp only[LL]);omega) only[↓GO,↓DRW,GA,GX,ren,zk,za,refs,z8,cst,zo,isC,bin,una,z7,zd,blt,asArg,zg,zc,zf,z6,zr,unN,ze,zm,zb,GS,simprocAttr,zH,zI,yU,yN,yQ,yP,yV,gh1,yM,yC,yG,zU,mkO,yw,yp,yq,mvC,unO,y7,yT,yO,yK,zO,yL,yJ,y9,oc,oTs,oT,zT,zT.rowTs,yF,isL,E.BX,GZ,cA,cI0,cI1,hIn,d1,d2,f3,f5,f8,h1,h2,h3,h4,hsI,hsI2,htI,htI2,hfI,hfI2,hT,hT2,hT3,hT4,hT5,if_true,Int.toNat_natCast,Nat.zero_add,List.length_append,List.length_singleton,zi,yf,zA,IH]
  all_goals (refine zR (by kernel_rfl) ?_)
  all_goals first|rfl|exact IH
theorem Ug {i n:Nat}{l:List zh}(h:smB (bnd i n) l)(hn:n≤6):smB (bnd (i+1) 0) l:=fun j x hj=>oL (h j x hj) (by unfold bnd;(repeat' split)<;>omega)
theorem a6 (bs:List Int)(hb:okB bs)(n:Nat)(cap:Option Nat)(hn6:n≤6):∀ (m i:Nat) (c:Cs) (l:List zh) (top:List Str),cok bs c→n=l.length→n=i+m→smB (bnd i 0) l→top.length≤i→(∀ s∈top,s.length≤400)→∃ (c':Cs) (l':List zh) (top':List Str),cok bs c'∧n=l'.length∧smB (bnd n 0) l'∧top'.length≤n∧(∀ s∈top',s.length≤400) ∧
 EV prog pol (.loop 133 250 1 [.ptr 0 0 0,.ptr 1 0 0,.ptr 2 0 0,.t (.int .i64 (i:Int))] [cuR bs c,.vs 2 [zG],.vs 2 [[.o (.list 1 (strs top)),.sl 3 0 n cap]],.vs 6 (ocE (zh.zC l))])
  = some (.loop (.exit 2) [.ptr 1 0 0,.ptr 2 0 0] [cuR bs c',.vs 2 [zG],.vs 2 [[.o (.list 1 (strs top')),.sl 3 0 n cap]],.vs 6 (ocE (zh.zC l'))])
 | 0,i,c,l,top,hc,hn,hi,hs,ht,ht2=>by
  have c0:decide ((i:Int)<(n:Int))=false:=by apply decide_eq_false;omega
  refine⟨c,l,top,hc,hn,by rw[hi];exact hs,by omega,ht2,?_⟩;obtain⟨h1,h2,_⟩:=wE l;simp only[zG];unfold cuR;generalize ocE (zh.zC l)=E0 at *;clear hb hc hs hn;refine zj func133 rfl rfl ?_;simp (disch:=(try simp only[LL]);omega) only[↓GO,↓DRW,GA,GX,ren,zk,za,refs,z8,cst,zo,isC,bin,una,z7,zd,blt,asArg,zg,zc,zf,z6,zr,unN,ze,zm,zb,GS,simprocAttr,zH,zI,yU,yN,yQ,yP,yV,gh1,yM,yC,yG,zU,mkO,yw,yp,yq,mvC,unO,y7,yT,yO,yK,zO,yL,yJ,y9,oc,oTs,oT,zT,zT.rowTs,yF,isL,E.BX,GZ,c0,h1,h2,zA]
 | m + 1, i, c, l, top, hc, hn, hi, hs, ht, ht2 => by
  obtain⟨c1,l1,hc1,hn1,hs1,hIn⟩:=jV bs hb n i (strs top) cap hn6 (by omega) n 0 c l hc hn (by omega) (by exact hs);simp only[Int.natCast_zero]at hIn;obtain⟨xi,hxi⟩:∃ xi,l1[i]? = some xi:=⟨_,List.getElem?_eq_getElem (by omega)⟩;have hbi:=s5 (YG hs1 (by omega)) (by omega) xi (List.mem_of_getElem? hxi);have hki:=gU (hs1 i xi hxi);obtain⟨b,c2,hc2,d2⟩:=ua bs hb c1 hc1 2 (by decide) (by decide);simp only[Int.cast_ofNat_Int]at d2;obtain⟨c',l',top',q1,q2,q3,q4,q5,IH⟩:=a6 bs hb n cap hn6 m (i+1) c2 l1 (if b then top++[keyOf xi] else top) hc2 hn1 (by omega) (Ug hs1 hn6) (by cases b<;>simp<;>omega) (fun s hs=>by
   cases b with
   | false=>exact ht2 s (by simpa using hs)
   | true =>
    simp only[if_true,List.mem_append,List.mem_singleton]at hs;rcases hs with hs|rfl
    · exact ht2 s hs
    · exact hki)
  rw[show ((i+1:Nat):Int)=(i:Int)+1 by omega]at IH;exact⟨c',l',top',q1,q2,q3,q4,q5,RD bs n i cap c c1 c2 l l1 top xi b hn hn1 hn6 hxi hbi (by omega) hki _ hIn d2 IH⟩
theorem T4 (bs:List Int)(hb:okB bs)(c:Cs)(hc:cok bs c):∃ (c':Cs) (l:List zh) (top:List Str) (cap:Option Nat),cok bs c'∧l.length≤6∧YE 6 l∧top.length≤6∧(∀ s∈top,s.length≤400) ∧
 EV prog pol (.callO false 133 [.ptr 0 0 0] [cuR bs c])=some (.call (.agg [.sl 1 0 top.length none,.sl 2 0 l.length cap]) [cuR bs c',.ts 1 (strs top),.vs 6 (ocE (zh.zC l))]):=by
 obtain⟨n,c1,hn,hc1,d1⟩:=uq bs hb c hc 6 (by decide) (by decide);simp only[Int.cast_ofNat_Int]at d1;obtain⟨c2,l,cap,hc2,hl,hs,L1⟩:=jW bs hb n (by omega) n 0 c1 [] none hc1 (by omega) (by simp) (fun x hx=>by simp at hx);obtain⟨c3,l2,top,hc3,hl2,hs2,ht,ht2,L2⟩:=a6 bs hb l.length cap (by omega) l.length 0 c2 l [] hc2 rfl (by omega) (fun j x hj=>by rw[show bnd 0 0 j=0 by unfold bnd;(repeat' split)<;>omega];exact hs x (List.mem_of_getElem? hj)) (by simp) (by simp);refine⟨c3,l2,top,cap,hc3,by omega,fun x hx=>?_,by omega,ht2,?_⟩
 · obtain⟨j,hj⟩:=List.mem_iff_getElem?.1 hx;exact oL (hs2 j x hj) (by unfold bnd;(repeat' split)<;>omega)
 obtain⟨h1,h2,_⟩:=wE l;obtain⟨h3,h4,_⟩:=wE l2;have hT:=zn top;have hT2:(strs top).take top.length=strs top:=List.take_of_length_le (by omega);have hT3:=xn top;rw[hl2]at L2;rw[show l2.length=l.length from hl2.symm];rw[show l2.length=l.length from hl2.symm]at L2;simp only[List.length_nil,Int.natCast_zero,show strs []=[] from rfl,show zh.zC []=[] from rfl,show ocE []=[] from rfl]at L1 L2;clear hb hs hs2 hn hl ht ht2;simp only[zG]at L1 L2;unfold cuR at *;generalize ocE (zh.zC l)=E0 at *;generalize ocE (zh.zC l2)=E1 at *;generalize strs top=tp at *;refine zM func133 rfl (by kernel_rfl) ?_;unfold Tryz.f133;simp (maxSteps:=1000000) (disch:=(try simp only[LL]);omega) only[↓GO,↓DRW,GA,GX,ren,zk,za,refs,z8,cst,zo,isC,bin,una,z7,zd,blt,asArg,zg,zc,zf,z6,zr,unN,ze,zm,zb,GS,simprocAttr,zH,zI,yU,yN,yQ,yP,yV,gh1,yM,yC,yG,zU,mkO,yw,yp,yq,mvC,unO,y7,yT,yO,yK,zO,yL,yJ,y9,oc,oTs,oT,zT,zT.rowTs,yF,isL,E.BX,GZ,d1,L1,L2,h1,h2,h3,h4,hT,hT2,hT3,if_true,Int.toNat_natCast,Nat.zero_add,zA]
theorem XF:∀ (E:List (List V)) (X:List (List T)) (i:Nat) (y:List V) (z:List T),gvE E=some X→qk y=some z→gvE (E.set i y)=some (X.set i z)
 | [],X,i,y,z,h,hz=>by simp only[gvE]at h;cases h;rfl
 | c :: E, X, i, y, z, h, hz => by
  simp only[gvE]at h
  cases hc:qk c with
  | none=>rw[hc]at h;cases h
  | some x =>
   rw[hc]at h
   cases hE:gvE E with
   | none=>rw[hE]at h;cases h
   | some xs =>
    rw[hE]at h
    cases h
    cases i with
    | zero=>simp only[List.set_cons_zero,gvE,hz,hE]
    | succ i=>simp only[List.set_cons_succ,gvE,hc,XF E xs i y z hE hz]
theorem de:∀ (E:List (List V)) (X:List (List T)) (y:List V) (z:List T),gvE E=some X→qk y=some z→gvE (E++[y])=some (X++[z])
 | [],X,y,z,h,hz=>by simp only[gvE]at h;cases h;simp[gvE,hz]
 | c :: E, X, y, z, h, hz => by
  simp only[gvE]at h
  cases hc:qk c with
  | none=>rw[hc]at h;cases h
  | some x =>
   rw[hc]at h
   cases hE:gvE E with
   | none=>rw[hE]at h;cases h
   | some xs =>
    rw[hE]at h
    cases h;simp only[List.cons_append,gvE,hc,de E xs y z hE hz]
def GSm (g:zB):Prop:=g.packs.length≤7∧g.zX≤65536
theorem rn (top:List Str)(l:List zh)(h1:l.length≤7)(h2:∀ x∈l,x.zX≤8192)(h3:top.length≤7)(h4:∀ s∈top,s.length≤400):GSm ⟨top,l⟩:=by
 have e1:=me 8192 l h2;have e2:=oK 400 top h4;refine⟨h1,?_⟩;unfold zB.zX;simp only;omega
theorem rU {l:List zh}{i:Nat}{x:zh}(h:∀ y∈l,y.zX≤4096)(hx:x.zX≤8192):∀ y∈l.set i x,y.zX≤8192:=fun y hy=>by
 rcases List.mem_or_eq_of_mem_set hy with hy|rfl
 · have:=h y hy;omega
 · exact hx
theorem UO (l:List zh)(i:Nat)(x:zh):zh.zC (l.set i x)=(zh.zC l).set i x.enc:=by unfold zh.zC;rw[List.map_set]
theorem fX:∀ (a b:List Str),ya (a++b)=ya a+ya b
 | [],b=>by simp[ya]
 | x::a,b=>by simp only[List.cons_append,ya,fX a b];omega
theorem gp:∀ (a b:List zN),zN.yr (a++b)=zN.yr a+zN.yr b
 | [],b=>by simp[zN.yr]
 | x::a,b=>by simp only[List.cons_append,zN.yr,gp a b];omega
theorem O0 (bs:List Int)(hb:okB bs)(c:Cs)(hc:cok bs c):∃ (c':Cs) (g:zB),cok bs c'∧GSm g ∧
 EV prog pol (.callO true 50 [.ptr 0 0 0] [cuR bs c])=some (.call (.agg (g.enc.map .t)) [cuR bs c']):=by
 obtain⟨c1,l,top,cap,hc1,hl,hs,ht,ht2,d1⟩:=T4 bs hb c hc;have hbk:=s5 hs (by omega);obtain⟨h1,h2,_⟩:=wE l;have hT:=zn top;have hT2:(strs top).take top.length=strs top:=List.take_of_length_le (by omega);have hT3:=xn top;have hgE:=Yk (zh.zC l);have hEt:(zh.zC l).take l.length=zh.zC l:=List.take_of_length_le (by rw[zh.zF];exact Nat.le_refl _)
 by_cases hn0:l.length=0
 · refine⟨c1,⟨top,l⟩,hc1,rn top l (by omega) (fun x hx=>by have:=hbk x hx;omega) (by omega) ht2,?_⟩;have cz:((l.length:Int)==0)=true:=by rw[hn0];rfl
   simp only[zB.enc,List.map_cons,List.map_nil];clear hb hs hbk;unfold cuR at *;generalize ocE (zh.zC l)=E0 at *;generalize zh.zC l=X0 at *;generalize strs top=tp at *;refine zM func50 rfl (by kernel_rfl) ?_;unfold Tryz.f50;simp (maxSteps:=1000000) (disch:=(try simp only[LL]);omega) only[↓GO,↓DRW,GA,GX,ren,zk,za,refs,z8,cst,zo,isC,bin,una,z7,zd,blt,asArg,zg,zc,zf,z6,zr,unN,ze,zm,zb,GS,simprocAttr,zH,zI,yU,yN,yQ,yP,yV,gh1,yM,yC,yG,zU,mkO,yw,yp,yq,mvC,unO,y7,yT,yO,yK,zO,yL,yJ,y9,oc,oTs,oT,zT,zT.rowTs,yF,isL,E.BX,GZ,d1,cz,h1,h2,hT,hT2,hT3,hgE,hEt,if_true,Int.toNat_natCast,Nat.zero_add,zA]
 have cz:((l.length:Int)==0)=false:=by rw[beq_eq_false_iff_ne];omega
 obtain⟨i,c2,hi,hc2,d2⟩:=uq bs hb c1 hc1 l.length (by omega) (by omega);obtain⟨v,c3,hv,hc3,d3⟩:=uq bs hb c2 hc2 20 (by decide) (by decide);simp only[Int.cast_ofNat_Int]at d3;obtain⟨xi,hxi⟩:∃ xi,l[i]? = some xi:=⟨_,List.getElem?_eq_getElem hi⟩;have hbi:=hbk xi (List.mem_of_getElem? hxi);have hg:=eA hxi;have hsI:=zN.zF xi.sums;have hsI2:=zn xi.zE;have htI:(zN.zC xi.sums).take xi.sums.length=zN.zC xi.sums:=List.take_of_length_le (by omega);have htI2:(strs xi.zE).take xi.zE.length=strs xi.zE:=List.take_of_length_le (by omega);have hfI:=wh xi.sums;have hfI2:=xn xi.zE;have cI0:(0:Int)≤(i:Int):=by omega
 have cI1:decide ((0:Int)≤(i:Int))=true:=by apply decide_eq_true;omega
 have cI:decide ((i:Int)<(l.length:Int))=true:=by apply decide_eq_true;omega
 obtain⟨F,f1,f2,f3,f5,f7⟩:=Zq _ i _ hg;have f8:∀ y,(F y).length=l.length:=fun y=>by rw[f7,vM,zh.zF]
 have hset:∀ (y:List V) (x:zh),qk y=some x.enc→gvE (F y)=some (zh.zC (l.set i x)):=fun y x h=>by
  rw[f2,UO];exact XF _ _ _ _ _ hgE h
 have hEs:∀ x,(zh.zC (l.set i x)).take l.length=zh.zC (l.set i x):=fun x=>List.take_of_length_le (by rw[zh.zF];simp)
 rw[f1]at d1 h1 h2;have hgF:=hset [.t (.str xi.name),.t (.str xi.version),.t (.str xi.source),.o (.list 2 (zN.zC xi.sums)),.t (.bool xi.dev),.o (.list 1 (strs xi.zE))] xi rfl;have hself:l.set i xi=l:=by
  apply List.ext_getElem?;intro m;rw[List.getElem?_set]
  split
  · rename_i e;subst e;first|rw[if_pos hi,hxi]|rw[hxi]|simp[hi,hxi]
  · rfl
 rw[hself]at hgF
 by_cases hv7:7≤v
 · refine⟨c3,⟨top,l⟩,hc3,rn top l (by omega) (fun x hx=>by have:=hbk x hx;omega) (by omega) ht2,?_⟩;have e0:((v:Int)==0)=false:=by rw[beq_eq_false_iff_ne];omega
   have e1:((v:Int)==1)=false:=by rw[beq_eq_false_iff_ne];omega
   have e2:((v:Int)==2)=false:=by rw[beq_eq_false_iff_ne];omega
   have e3:((v:Int)==3)=false:=by rw[beq_eq_false_iff_ne];omega
   have e4:((v:Int)==4)=false:=by rw[beq_eq_false_iff_ne];omega
   have e5:((v:Int)==5)=false:=by rw[beq_eq_false_iff_ne];omega
   have e6:((v:Int)==6)=false:=by rw[beq_eq_false_iff_ne];omega
   simp only[zB.enc,List.map_cons,List.map_nil];clear hb hs hbk hbi hset hEs hself f1 f2 f7 hg hxi hgE;unfold cuR at *;generalize zh.zC l=X0 at *;generalize strs top=tp at *;obtain⟨name,version,source,sums,dev,zE⟩:=xi;simp only at *;generalize zN.zC sums=es1 at *;generalize strs zE=es2 at *;refine zM func50 rfl (by kernel_rfl) ?_;unfold Tryz.f50;simp (maxSteps:=1000000) (disch:=(try simp only[LL]);omega) only[↓GO,↓DRW,GA,GX,ren,zk,za,refs,z8,cst,zo,isC,bin,una,z7,zd,blt,asArg,zg,zc,zf,z6,zr,unN,ze,zm,zb,GS,simprocAttr,zH,zI,yU,yN,yQ,yP,yV,gh1,yM,yC,yG,zU,mkO,yw,yp,yq,mvC,unO,y7,yT,yO,yK,zO,yL,yJ,y9,oc,oTs,oT,zT,zT.rowTs,yF,isL,E.BX,GZ,d1,d2,d3,cz,cI0,cI1,cI,e0,e1,e2,e3,e4,e5,e6,f3,f5,f8,h1,h2,hT,hT2,hT3,hgF,hEt,if_true,Int.toNat_natCast,Nat.zero_add,zA]
 by_cases hv0:v=0
 · have e0:((v:Int)==0)=true:=by rw[beq_iff_eq];omega
   obtain⟨s,c4,hsl,hc4,d4⟩:=c_odd bs hb c3 hc3;refine⟨c4,⟨top,l.set i ⟨s,xi.version,xi.source,xi.sums,xi.dev,xi.zE⟩⟩,hc4,rn _ _ (by simp;omega) (rU hbk (by simp only[zh.zX]at hbi ⊢;omega)) (by omega) ht2,?_⟩;have hgX:=hset [.t (.str s),.t (.str xi.version),.t (.str xi.source),.o (.list 2 (zN.zC xi.sums)),.t (.bool xi.dev),.o (.list 1 (strs xi.zE))] ⟨s,xi.version,xi.source,xi.sums,xi.dev,xi.zE⟩ rfl;have hEX:=hEs ⟨s,xi.version,xi.source,xi.sums,xi.dev,xi.zE⟩;simp only[zB.enc,List.map_cons,List.map_nil];clear hb hs hbk hbi hself f1 f2 f7 hg hxi hgE hset;unfold cuR at *;generalize zh.zC (l.set i ⟨s,xi.version,xi.source,xi.sums,xi.dev,xi.zE⟩)=X1 at *;generalize strs top=tp at *;obtain⟨name,version,source,sums,dev,zE⟩:=xi;simp only at *;generalize zN.zC sums=es1 at *;generalize strs zE=es2 at *;refine zM func50 rfl (by kernel_rfl) ?_;unfold Tryz.f50;simp (maxSteps:=1000000) (disch:=(try simp only[LL]);omega) only[↓GO,↓DRW,GA,GX,ren,zk,za,refs,z8,cst,zo,isC,bin,una,z7,zd,blt,asArg,zg,zc,zf,z6,zr,unN,ze,zm,zb,GS,simprocAttr,zH,zI,yU,yN,yQ,yP,yV,gh1,yM,yC,yG,zU,mkO,yw,yp,yq,mvC,unO,y7,yT,yO,yK,zO,yL,yJ,y9,oc,oTs,oT,zT,zT.rowTs,yF,isL,E.BX,GZ,d1,d2,d3,d4,cz,cI0,cI1,cI,e0,f3,f5,f8,h1,h2,hT,hT2,hT3,hsI,hsI2,htI,htI2,hfI,hfI2,hgX,hEX,hgF,hEt,if_true,Int.toNat_natCast,Nat.zero_add,List.length_append,List.length_singleton,yf,zA]
   all_goals (refine zR (by kernel_rfl) ?_)
   all_goals first|rfl
 by_cases hv1:v=1
 · have e0:((v:Int)==0)=false:=by rw[beq_eq_false_iff_ne];omega
   have e1:((v:Int)==1)=true:=by rw[beq_iff_eq];omega
   obtain⟨s,c4,hsm,hc4,d4⟩:=vD bs hb c3 hc3 [[49],[],[49,46,48,46,48,45],[50,46,48,46,48]] 4 rfl (by decide) (by decide) (some 4);have hsl:s.length≤32:=by
    simp only[List.mem_cons,List.not_mem_nil,or_false]at hsm;rcases hsm with rfl|rfl|rfl|rfl<;>decide
   clear hsm;simp only[strs,List.map_cons,List.map_nil]at d4;refine⟨c4,⟨top,l.set i ⟨xi.name,s,xi.source,xi.sums,xi.dev,xi.zE⟩⟩,hc4,rn _ _ (by simp;omega) (rU hbk (by simp only[zh.zX]at hbi ⊢;omega)) (by omega) ht2,?_⟩;have hgX:=hset [.t (.str xi.name),.t (.str s),.t (.str xi.source),.o (.list 2 (zN.zC xi.sums)),.t (.bool xi.dev),.o (.list 1 (strs xi.zE))] ⟨xi.name,s,xi.source,xi.sums,xi.dev,xi.zE⟩ rfl;have hEX:=hEs ⟨xi.name,s,xi.source,xi.sums,xi.dev,xi.zE⟩;simp only[zB.enc,List.map_cons,List.map_nil];clear hb hs hbk hbi hself f1 f2 f7 hg hxi hgE hset;unfold cuR at *;generalize zh.zC (l.set i ⟨xi.name,s,xi.source,xi.sums,xi.dev,xi.zE⟩)=X1 at *;generalize strs top=tp at *;obtain⟨name,version,source,sums,dev,zE⟩:=xi;simp only at *;generalize zN.zC sums=es1 at *;generalize strs zE=es2 at *;refine zM func50 rfl (by kernel_rfl) ?_;unfold Tryz.f50;simp (maxSteps:=1000000) (disch:=(try simp only[LL]);omega) only[↓GO,↓DRW,GA,GX,ren,zk,za,refs,z8,cst,zo,isC,bin,una,z7,zd,blt,asArg,zg,zc,zf,z6,zr,unN,ze,zm,zb,GS,simprocAttr,zH,zI,yU,yN,yQ,yP,yV,gh1,yM,yC,yG,zU,mkO,yw,yp,yq,mvC,unO,y7,yT,yO,yK,zO,yL,yJ,y9,oc,oTs,oT,zT,zT.rowTs,yF,isL,E.BX,GZ,d1,d2,d3,d4,cz,cI0,cI1,cI,e0,e1,f3,f5,f8,h1,h2,hT,hT2,hT3,hsI,hsI2,htI,htI2,hfI,hfI2,hgX,hEX,hgF,hEt,if_true,Int.toNat_natCast,Nat.zero_add,List.length_append,List.length_singleton,yf,zA]
   all_goals (refine zR (by kernel_rfl) ?_)
   all_goals first|rfl
 by_cases hv2:v=2
 · have e0:((v:Int)==0)=false:=by rw[beq_eq_false_iff_ne];omega
   have e1:((v:Int)==1)=false:=by rw[beq_eq_false_iff_ne];omega
   have e2:((v:Int)==2)=true:=by rw[beq_iff_eq];omega
   refine⟨c3,⟨top,l.set i (u7 xi [122,122,64,49,46,48,46,48])⟩,hc3,rn _ _ (by simp;omega) (rU hbk (by simp only[zh.zX,u7]at hbi ⊢;rw[show ya (xi.zE++[[122,122,64,49,46,48,46,48]])=ya xi.zE+8 by rw[fX];rfl];simp;omega)) (by omega) ht2,?_⟩;have hgX:=hset [.t (.str xi.name),.t (.str xi.version),.t (.str xi.source),.o (.list 2 (zN.zC xi.sums)),.t (.bool xi.dev),.t (.list 1 (strs xi.zE++[[.str [122,122,64,49,46,48,46,48]]]))] (u7 xi [122,122,64,49,46,48,46,48]) (by simp[qk,gvC,zh.enc,u7,strs]);have hEX:=hEs (u7 xi [122,122,64,49,46,48,46,48]);have htN:(strs xi.zE++[[T.str [122,122,64,49,46,48,46,48]]]).take (xi.zE.length+1)=strs xi.zE++[[T.str [122,122,64,49,46,48,46,48]]]:=List.take_of_length_le (by simp[hsI2]);have hnl:xi.zE.length≤4096:=by simp only[zh.zX]at hbi;omega
   simp only[zB.enc,List.map_cons,List.map_nil];clear hb hs hbk hbi hself f1 f2 f7 hg hxi hgE hset;unfold cuR at *;generalize zh.zC (l.set i (u7 xi [122,122,64,49,46,48,46,48]))=X1 at *;generalize strs top=tp at *;obtain⟨name,version,source,sums,dev,zE⟩:=xi;simp only at *;generalize zN.zC sums=es1 at *;generalize strs zE=es2 at *;refine zM func50 rfl (by kernel_rfl) ?_;unfold Tryz.f50;simp (maxSteps:=1000000) (disch:=(try simp only[LL]);omega) only[↓GO,↓DRW,GA,GX,ren,zk,za,refs,z8,cst,zo,isC,bin,una,z7,zd,blt,asArg,zg,zc,zf,z6,zr,unN,ze,zm,zb,GS,simprocAttr,zH,zI,yU,yN,yQ,yP,yV,gh1,yM,yC,yG,zU,mkO,yw,yp,yq,mvC,unO,y7,yT,yO,yK,zO,yL,yJ,y9,oc,oTs,oT,zT,zT.rowTs,yF,isL,E.BX,GZ,d1,d2,d3,htN,cz,cI0,cI1,cI,e0,e1,e2,f3,f5,f8,h1,h2,hT,hT2,hT3,hsI,hsI2,htI,htI2,hfI,hfI2,hgX,hEX,hgF,hEt,if_true,Int.toNat_natCast,Nat.zero_add,List.length_append,List.length_singleton,yf,zA]
   all_goals (refine zR (by kernel_rfl) ?_)
   all_goals first|rfl
 by_cases hv3:v=3
 · have e0:((v:Int)==0)=false:=by rw[beq_eq_false_iff_ne];omega
   have e1:((v:Int)==1)=false:=by rw[beq_eq_false_iff_ne];omega
   have e2:((v:Int)==2)=false:=by rw[beq_eq_false_iff_ne];omega
   have e3:((v:Int)==3)=true:=by rw[beq_iff_eq];omega
   refine⟨c3,⟨top++[[97,64,48,46,48,46,48]],l⟩,hc3,rn _ _ (by omega) (fun x hx=>by have:=hbk x hx;omega) (by simp;omega) (fun s hs=>by
    simp only[List.mem_append,List.mem_singleton]at hs;rcases hs with hs|rfl
    · exact ht2 s hs
    · decide),?_⟩
   simp only[zB.enc,List.map_cons,List.map_nil];have hgX:=hgF;have hEX:=hEt;have hTA:(strs top++[[T.str [97,64,48,46,48,46,48]]]).take (top.length+1)=strs top++[[T.str [97,64,48,46,48,46,48]]]:=List.take_of_length_le (by simp[hT]);rw[show strs (top++[[97,64,48,46,48,46,48]])=strs top++[[.str [97,64,48,46,48,46,48]]] by simp[strs]];clear hb hs hbk hbi hself f1 f2 f7 hg hxi hgE hset;unfold cuR at *;generalize zh.zC (l)=X1 at *;generalize strs top=tp at *;obtain⟨name,version,source,sums,dev,zE⟩:=xi;simp only at *;generalize zN.zC sums=es1 at *;generalize strs zE=es2 at *;refine zM func50 rfl (by kernel_rfl) ?_;unfold Tryz.f50;simp (maxSteps:=1000000) (disch:=(try simp only[LL]);omega) only[↓GO,↓DRW,GA,GX,ren,zk,za,refs,z8,cst,zo,isC,bin,una,z7,zd,blt,asArg,zg,zc,zf,z6,zr,unN,ze,zm,zb,GS,simprocAttr,zH,zI,yU,yN,yQ,yP,yV,gh1,yM,yC,yG,zU,mkO,yw,yp,yq,mvC,unO,y7,yT,yO,yK,zO,yL,yJ,y9,oc,oTs,oT,zT,zT.rowTs,yF,isL,E.BX,GZ,d1,d2,d3,hTA,cz,cI0,cI1,cI,e0,e1,e2,e3,f3,f5,f8,h1,h2,hT,hT2,hT3,hsI,hsI2,htI,htI2,hfI,hfI2,hgX,hEX,hgF,hEt,if_true,Int.toNat_natCast,Nat.zero_add,List.length_append,List.length_singleton,yf,zA]
 by_cases hv4:v=4
 · have e0:((v:Int)==0)=false:=by rw[beq_eq_false_iff_ne];omega
   have e1:((v:Int)==1)=false:=by rw[beq_eq_false_iff_ne];omega
   have e2:((v:Int)==2)=false:=by rw[beq_eq_false_iff_ne];omega
   have e3:((v:Int)==3)=false:=by rw[beq_eq_false_iff_ne];omega
   have e4:((v:Int)==4)=true:=by rw[beq_iff_eq];omega
   refine⟨c3,⟨top,l.set i ⟨xi.name,xi.version,[97,32,98],xi.sums,xi.dev,xi.zE⟩⟩,hc3,rn _ _ (by simp;omega) (rU hbk (by simp only[zh.zX]at hbi ⊢;simp only[List.length_cons,List.length_nil];omega)) (by omega) ht2,?_⟩;have hgX:=hset [.t (.str xi.name),.t (.str xi.version),.t (.str [97,32,98]),.o (.list 2 (zN.zC xi.sums)),.t (.bool xi.dev),.o (.list 1 (strs xi.zE))] ⟨xi.name,xi.version,[97,32,98],xi.sums,xi.dev,xi.zE⟩ rfl;have hEX:=hEs ⟨xi.name,xi.version,[97,32,98],xi.sums,xi.dev,xi.zE⟩;simp only[zB.enc,List.map_cons,List.map_nil];clear hb hs hbk hbi hself f1 f2 f7 hg hxi hgE hset;unfold cuR at *;generalize zh.zC (l.set i ⟨xi.name,xi.version,[97,32,98],xi.sums,xi.dev,xi.zE⟩)=X1 at *;generalize strs top=tp at *;obtain⟨name,version,source,sums,dev,zE⟩:=xi;simp only at *;generalize zN.zC sums=es1 at *;generalize strs zE=es2 at *;refine zM func50 rfl (by kernel_rfl) ?_;unfold Tryz.f50;simp (maxSteps:=1000000) (disch:=(try simp only[LL]);omega) only[↓GO,↓DRW,GA,GX,ren,zk,za,refs,z8,cst,zo,isC,bin,una,z7,zd,blt,asArg,zg,zc,zf,z6,zr,unN,ze,zm,zb,GS,simprocAttr,zH,zI,yU,yN,yQ,yP,yV,gh1,yM,yC,yG,zU,mkO,yw,yp,yq,mvC,unO,y7,yT,yO,yK,zO,yL,yJ,y9,oc,oTs,oT,zT,zT.rowTs,yF,isL,E.BX,GZ,d1,d2,d3,cz,cI0,cI1,cI,e0,e1,e2,e3,e4,f3,f5,f8,h1,h2,hT,hT2,hT3,hsI,hsI2,htI,htI2,hfI,hfI2,hgX,hEX,hgF,hEt,if_true,Int.toNat_natCast,Nat.zero_add,List.length_append,List.length_singleton,yf,zA]
 by_cases hv5:v=5
 · have e0:((v:Int)==0)=false:=by rw[beq_eq_false_iff_ne];omega
   have e1:((v:Int)==1)=false:=by rw[beq_eq_false_iff_ne];omega
   have e2:((v:Int)==2)=false:=by rw[beq_eq_false_iff_ne];omega
   have e3:((v:Int)==3)=false:=by rw[beq_eq_false_iff_ne];omega
   have e4:((v:Int)==4)=false:=by rw[beq_eq_false_iff_ne];omega
   have e5:((v:Int)==5)=true:=by rw[beq_iff_eq];omega
   obtain⟨s,c4,hsm,hc4,d4⟩:=vD bs hb c3 hc3 [[115,104,97,49],[109,100,53]] 2 rfl (by decide) (by decide) (some 2);have hsl:s.length≤32:=by
    simp only[List.mem_cons,List.not_mem_nil,or_false]at hsm;rcases hsm with rfl|rfl<;>decide
   clear hsm;simp only[strs,List.map_cons,List.map_nil]at d4;refine⟨c4,⟨top,l.set i ⟨xi.name,xi.version,xi.source,xi.sums++[⟨s,[120]⟩],xi.dev,xi.zE⟩⟩,hc4,rn _ _ (by simp;omega) (rU hbk (by simp only[zh.zX]at hbi ⊢;rw[show zN.yr (xi.sums++[⟨s,[120]⟩])=zN.yr xi.sums+(s.length+1) by rw[gp];rfl];simp only[List.length_append,List.length_singleton];omega)) (by omega) ht2,?_⟩;have hgX:=hset [.t (.str xi.name),.t (.str xi.version),.t (.str xi.source),.t (.list 2 (zN.zC xi.sums++[[.str s,.str [120]]])),.t (.bool xi.dev),.o (.list 1 (strs xi.zE))] ⟨xi.name,xi.version,xi.source,xi.sums++[⟨s,[120]⟩],xi.dev,xi.zE⟩ (by simp[qk,gvC,zh.enc,zN.zC,zN.enc]);have hEX:=hEs ⟨xi.name,xi.version,xi.source,xi.sums++[⟨s,[120]⟩],xi.dev,xi.zE⟩;have hgS:gvE (((zN.zC xi.sums).map fun e=>e.map oc)++[[V.t (.str s),.t (.str [120])]])=some (zN.zC xi.sums++[[T.str s,.str [120]]]):=de _ _ _ _ (Yk (zN.zC xi.sums)) rfl;have htN:(zN.zC xi.sums++[[T.str s,T.str [120]]]).take (xi.sums.length+1)=zN.zC xi.sums++[[T.str s,T.str [120]]]:=List.take_of_length_le (by simp[hsI]);have hlS:((zN.zC xi.sums).map fun e=>e.map oc).length=xi.sums.length:=by rw[List.length_map,hsI]
   have hnl:xi.sums.length≤4096:=by simp only[zh.zX]at hbi;omega
   simp only[zB.enc,List.map_cons,List.map_nil];clear hb hs hbk hbi hself f1 f2 f7 hg hxi hgE hset;unfold cuR at *;generalize zh.zC (l.set i ⟨xi.name,xi.version,xi.source,xi.sums++[⟨s,[120]⟩],xi.dev,xi.zE⟩)=X1 at *;generalize strs top=tp at *;obtain⟨name,version,source,sums,dev,zE⟩:=xi;simp only at *;generalize zN.zC sums=es1 at *;generalize strs zE=es2 at *;refine zM func50 rfl (by kernel_rfl) ?_;unfold Tryz.f50;simp (maxSteps:=1000000) (disch:=(try simp only[LL]);omega) only[↓GO,↓DRW,GA,GX,ren,zk,za,refs,z8,cst,zo,isC,bin,una,z7,zd,blt,asArg,zg,zc,zf,z6,zr,unN,ze,zm,zb,GS,simprocAttr,zH,zI,yU,yN,yQ,yP,yV,gh1,yM,yC,yG,zU,mkO,yw,yp,yq,mvC,unO,y7,yT,yO,yK,zO,yL,yJ,y9,oc,oTs,oT,zT,zT.rowTs,yF,isL,E.BX,GZ,d1,d2,d3,d4,hgS,htN,hlS,cz,cI0,cI1,cI,e0,e1,e2,e3,e4,e5,f3,f5,f8,h1,h2,hT,hT2,hT3,hsI,hsI2,htI,htI2,hfI,hfI2,hgX,hEX,hgF,hEt,if_true,Int.toNat_natCast,Nat.zero_add,List.length_append,List.length_singleton,yf,zA]
   all_goals (refine zR (by kernel_rfl) ?_)
   all_goals first|rfl
 by_cases hv6:v=6
 · have e0:((v:Int)==0)=false:=by rw[beq_eq_false_iff_ne];omega
   have e1:((v:Int)==1)=false:=by rw[beq_eq_false_iff_ne];omega
   have e2:((v:Int)==2)=false:=by rw[beq_eq_false_iff_ne];omega
   have e3:((v:Int)==3)=false:=by rw[beq_eq_false_iff_ne];omega
   have e4:((v:Int)==4)=false:=by rw[beq_eq_false_iff_ne];omega
   have e5:((v:Int)==5)=false:=by rw[beq_eq_false_iff_ne];omega
   have e6:((v:Int)==6)=true:=by rw[beq_iff_eq];omega
   refine⟨c3,⟨top,l++[xi]⟩,hc3,rn _ _ (by simp;omega) (fun x hx=>by
    simp only[List.mem_append,List.mem_singleton]at hx;rcases hx with hx|rfl
    · have:=hbk x hx;omega
    · omega) (by omega) ht2,?_⟩
   have f9:∀ y z:List V,(F y++[z])[i]? = some y:=fun y z=>by rw[List.getElem?_append_left (by rw[f8];exact hi)];exact f3 y
   have hg6:=hset [V.t (.str xi.name),.t (.str xi.version),.t (.str xi.source),.t (.list 2 (zN.zC xi.sums)),.t (.bool xi.dev),.t (.list 1 (strs xi.zE))] xi rfl;rw[hself]at hg6;have hgX:gvE (F [V.t (.str xi.name),.t (.str xi.version),.t (.str xi.source),.t (.list 2 (zN.zC xi.sums)),.t (.bool xi.dev),.t (.list 1 (strs xi.zE))]++[[V.t (.str xi.name),.t (.str xi.version),.t (.str xi.source),.t (.list 2 (zN.zC xi.sums)),.t (.bool xi.dev),.t (.list 1 (strs xi.zE))]])=some (zh.zC (l++[xi])):=by
    rw[show zh.zC (l++[xi])=zh.zC l++[xi.enc] by simp[zh.zC]];exact de _ _ _ _ hg6 rfl
   have hEX:(zh.zC (l++[xi])).take (l.length+1)=zh.zC (l++[xi]):=List.take_of_length_le (by rw[zh.zF];simp);simp only[zB.enc,List.map_cons,List.map_nil];clear hb hs hbk hbi hself f1 f2 f7 hg hxi hgE hset hg6;unfold cuR at *;generalize zh.zC (l++[xi])=X1 at *;generalize strs top=tp at *;obtain⟨name,version,source,sums,dev,zE⟩:=xi;simp only at *;generalize zN.zC sums=es1 at *;generalize strs zE=es2 at *;refine zM func50 rfl (by kernel_rfl) ?_;unfold Tryz.f50;simp (maxSteps:=1000000) (disch:=(try simp only[LL]);omega) only[↓GO,↓DRW,GA,GX,ren,zk,za,refs,z8,cst,zo,isC,bin,una,z7,zd,blt,asArg,zg,zc,zf,z6,zr,unN,ze,zm,zb,GS,simprocAttr,zH,zI,yU,yN,yQ,yP,yV,gh1,yM,yC,yG,zU,mkO,yw,yp,yq,mvC,unO,y7,yT,yO,yK,zO,yL,yJ,y9,oc,oTs,oT,zT,zT.rowTs,yF,isL,E.BX,GZ,d1,d2,d3,cz,cI0,cI1,cI,e0,e1,e2,e3,e4,e5,e6,f3,f5,f8,f9,h1,h2,hT,hT2,hT3,hsI,hsI2,htI,htI2,hfI,hfI2,hgX,hEX,hgF,hEt,if_true,Int.toNat_natCast,Nat.zero_add,List.length_append,List.length_singleton,yf,zA]
   all_goals (refine zR (by kernel_rfl) ?_)
   all_goals first|rfl
 omega
theorem W8 (bs:List Int)(hb:okB bs)(c:Cs)(hc:cok bs c)(g:zB)(hg:GSm g):∃ (s:Str) (c':Cs),s.length≤65600∧cok bs c' ∧
 EV prog pol (.callO false 107 [.ptr 0 0 0,.agg (g.enc.map .t)] [cuR bs c])=some (.call (.t (.str s)) [cuR bs c']):=by
 obtain⟨top,l⟩:=g;have hl:=hg.1;simp only at hl;have hel:=zh.zF l;have other:∀ c1,cok bs c1→∃ (nm vr:Str) (c2 c3:Cs),nm.length≤32∧vr.length≤300∧cok bs c3∧EV prog pol (.callO false 95 [.ptr 0 0 0] [cuR bs c1])=some (.call (.t (.str nm)) [cuR bs c2])∧EV prog pol (.callO false 96 [.ptr 0 0 0] [cuR bs c2])=some (.call (.t (.str vr)) [cuR bs c3]):=fun c1 hc1=>by
  obtain⟨nm,c2,hn,h2,d1⟩:=Yu bs hb c1 hc1;obtain⟨vr,c3,hv,h3,d2⟩:=nN bs hb c2 h2;exact⟨nm,vr,c2,c3,hn,hv,h3,d1,d2⟩
 by_cases h0:l.length=0
 · obtain⟨nm,vr,c2,c3,hn,hv,hc3,d1,d2⟩:=other c hc;have cz:decide ((l.length:Int) > 0)=false:=by apply decide_eq_false;omega
   have cz2:decide ((0:Int)<(l.length:Int))=false:=by apply decide_eq_false;omega
   have e1:nm.length≤9223372036854775806:=by omega
   have e2:(nm++[64]).length+vr.length≤9223372036854775807:=by simp;omega
   have e3:nm.length+1+vr.length≤9223372036854775807:=by omega
   refine⟨nm++[64]++vr,c3,by simp;omega,hc3,?_⟩;simp only[zB.enc,List.map_cons,List.map_nil];clear hb hg other;unfold cuR at *;generalize zh.zC l=X0 at *;refine zM func107 rfl (by kernel_rfl) ?_;unfold Tryz.f107;simp (maxSteps:=1000000) (disch:=(try simp only[LL]);omega) only[↓GO,↓DRW,GA,GX,ren,zk,za,refs,z8,cst,zo,isC,bin,una,z7,zd,blt,asArg,zg,zc,zf,z6,zr,unN,ze,zm,zb,GS,simprocAttr,zH,zI,yU,yN,yQ,yP,yV,gh1,yM,yC,yG,zU,mkO,yw,yp,yq,mvC,unO,y7,yT,yO,yK,zO,yL,yJ,y9,oc,oTs,oT,zT,zT.rowTs,yF,isL,E.BX,GZ,d1,d2,cz,cz2,hel,h0,e1,e2,e3,if_true,Option.map_some,List.length_append,List.length_singleton,zA]
   all_goals (repeat (refine zR (by kernel_rfl) ?_))
   all_goals first|rfl
 have cz:decide ((l.length:Int) > 0)=true:=by apply decide_eq_true;omega
 have cz2:decide ((0:Int)<(l.length:Int))=true:=by apply decide_eq_true;omega
 obtain⟨b,c1,hc1,d0⟩:=ua bs hb c hc 6 (by decide) (by decide);simp only[Int.cast_ofNat_Int]at d0
 cases b with
 | true =>
  obtain⟨nm,vr,c2,c3,hn,hv,hc3,d1,d2⟩:=other c1 hc1;have e1:nm.length≤9223372036854775806:=by omega
  have e2:(nm++[64]).length+vr.length≤9223372036854775807:=by simp;omega
  have e3:nm.length+1+vr.length≤9223372036854775807:=by omega
  refine⟨nm++[64]++vr,c3,by simp;omega,hc3,?_⟩;simp only[zB.enc,List.map_cons,List.map_nil];clear hb hg other;unfold cuR at *;generalize zh.zC l=X0 at *;refine zM func107 rfl (by kernel_rfl) ?_;unfold Tryz.f107;simp (maxSteps:=1000000) (disch:=(try simp only[LL]);omega) only[↓GO,↓DRW,GA,GX,ren,zk,za,refs,z8,cst,zo,isC,bin,una,z7,zd,blt,asArg,zg,zc,zf,z6,zr,unN,ze,zm,zb,GS,simprocAttr,zH,zI,yU,yN,yQ,yP,yV,gh1,yM,yC,yG,zU,mkO,yw,yp,yq,mvC,unO,y7,yT,yO,yK,zO,yL,yJ,y9,oc,oTs,oT,zT,zT.rowTs,yF,isL,E.BX,GZ,d0,d1,d2,cz,cz2,hel,e1,e2,e3,if_true,Option.map_some,List.length_append,List.length_singleton,zA]
  all_goals (repeat (refine zR (by kernel_rfl) ?_))
  all_goals first|rfl
 | false =>
  obtain⟨k,c2,hk,hc2,d1⟩:=uq bs hb c1 hc1 l.length (by omega) (by omega);obtain⟨x,hx⟩:∃ x,l[k]? = some x:=⟨_,List.getElem?_eq_getElem hk⟩;have hxb:x.zX≤65536:=by
   have:=zh.yE (List.mem_of_getElem? hx);have h2:=hg.2;unfold zB.zX at h2;simp only at h2;omega
  have d2:=tU x (by omega);have hkl:=km x;have hget:(zh.zC l)[k]? = some x.enc:=by unfold zh.zC;rw[List.getElem?_map,hx];rfl
  have cI0:decide ((0:Int)≤(k:Int))=true:=by apply decide_eq_true;omega
  have cI00:(0:Int)≤(k:Int):=by omega
  have cI:decide ((k:Int)<(l.length:Int))=true:=by apply decide_eq_true;omega
  refine⟨keyOf x,c2,by omega,hc2,?_⟩;simp only[zB.enc,zh.enc,List.map_cons,List.map_nil]at d2 hget ⊢;clear hb hg other hx;unfold cuR at *;generalize zh.zC l=X0 at *;generalize keyOf x=kx at *;refine zM func107 rfl (by kernel_rfl) ?_;unfold Tryz.f107;simp (maxSteps:=1000000) (disch:=(try simp only[LL]);omega) only[↓GO,↓DRW,GA,GX,ren,zk,za,refs,z8,cst,zo,isC,bin,una,z7,zd,blt,asArg,zg,zc,zf,z6,zr,unN,ze,zm,zb,GS,simprocAttr,zH,zI,yU,yN,yQ,yP,yV,gh1,yM,yC,yG,zU,mkO,yw,yp,yq,mvC,unO,y7,yT,yO,yK,zO,yL,yJ,y9,oc,oTs,oT,zT,zT.rowTs,yF,isL,E.BX,GZ,d0,d1,d2,cz,cz2,cI,cI0,cI00,hget,hel,if_true,Int.toNat_natCast,zA]
  all_goals (repeat (refine zR (by kernel_rfl) ?_))
  all_goals first|rfl
theorem PZ (code:List Int):zy (EV prog pol) 6 [.t (.list 1 (xl code))]=some (.t (.bool (decide ((code.length:Int) > 1048576)))):=by
 have hl:=vi code;apply zw;refine zx rfl func6 rfl (by kernel_rfl) ?_;unfold Tryz.f6;simp (disch:=(try simp only[LL]);omega) only[↓GO,↓DRW,GA,GX,ren,zk,za,refs,z8,cst,zo,isC,bin,una,z7,zd,blt,asArg,zg,zc,zf,z6,zr,unN,ze,zm,zb,GS,simprocAttr,GZ,hl,zA]
theorem Xo (a:List Str)(hl:a.length≤1048576):∀ (rest pre:List Str),a=pre++rest →
 EV prog pol (.loop 15 58 0 [.t (.list 1 (strs a)),.t (.list 1 (strs a)),.t (.int .i64 (pre.length:Int))] [])=some (.loop (.exit 0) [.bad] [])
 | [],pre,hs=>by
  have c:decide ((pre.length:Int)<(a.length:Int))=false:=by simp[hs]
  refine zj func15 rfl rfl ?_;simp (disch:=(try simp only[LL]);omega) only[↓GO,↓DRW,GA,GX,ren,zk,za,refs,z8,cst,zo,isC,bin,una,z7,zd,blt,asArg,zg,zc,zf,z6,zr,unN,ze,zm,zb,GS,simprocAttr,GZ,c,zn,zA]
 | x::rest,pre,hs=>by
  have c:decide ((pre.length:Int)<(a.length:Int))=true:=by simp[hs];omega
  have hget:(strs a)[pre.length]? = some [.str x]:=by rw[hs];exact xC pre x rest
  have hlen:pre.length+rest.length+1≤a.length:=by rw[hs];simp;omega
  have IH:=Xo a hl rest (pre++[x]) (by rw[hs];simp);rw[show ((pre++[x]).length:Int)=(pre.length:Int)+1 by simp]at IH;clear hs;refine zj func15 rfl rfl ?_;simp (disch:=(try simp only[LL]);omega) only[↓GO,↓DRW,GA,GX,ren,zk,za,refs,z8,cst,zo,isC,bin,una,z7,zd,blt,asArg,zg,zc,zf,z6,zr,unN,ze,zm,zb,GS,simprocAttr,GZ,c,zn,hget,bne_self_eq_false,beq_self_eq_true,bne,Bool.not_true,zi,zA,IH]
theorem Wa (a:List Str)(hl:a.length≤1048576):zy (EV prog pol) 15 [.t (.list 1 (strs a)),.t (.list 1 (strs a))]=some (.t (.bool true)):=by
 have L:=Xo a hl a [] rfl;simp only[List.length_nil,Int.natCast_zero]at L;have c1:((a.length:Int) != (a.length:Int))=false:=by simp
 apply zw;refine zx rfl func15 rfl (by kernel_rfl) ?_;unfold Tryz.f15;simp (disch:=(try simp only[LL]);omega) only[↓GO,↓DRW,GA,GX,ren,zk,za,refs,z8,cst,zo,isC,bin,una,z7,zd,blt,asArg,zg,zc,zf,z6,zr,unN,ze,zm,zb,GS,simprocAttr,GZ,L,c1,zn,bne_self_eq_false,beq_self_eq_true,bne,Bool.not_true,zA]
theorem S9 (r:List Str)(s:Str)(hl:r.length≤1048576):∀ (rest pre:List Str),r=pre++rest→s∈rest →
 EV prog pol (.loop 46 26 0 [.t (.list 1 (strs r)),.t (.str s),.t (.int .i64 (pre.length:Int))] [])=some (.loop .ret [.t (.bool true)] [])
 | [],pre,hs,hm=>by simp at hm
 | x :: rest, pre, hs, hm => by
  have c:decide ((pre.length:Int)<(r.length:Int))=true:=by simp[hs];omega
  have hget:(strs r)[pre.length]? = some [.str x]:=by rw[hs];exact xC pre x rest
  have hlen:pre.length+rest.length+1≤r.length:=by rw[hs];simp;omega
  cases q:(x==s) with
  | true =>
   clear hs;refine zj func46 rfl rfl ?_;simp (disch:=(try simp only[LL]);omega) only[↓GO,↓DRW,GA,GX,ren,zk,za,refs,z8,cst,zo,isC,bin,una,z7,zd,blt,asArg,zg,zc,zf,z6,zr,unN,ze,zm,zb,GS,simprocAttr,GZ,c,zn,hget,q,zA]
  | false =>
   have hm2:s∈rest:=by
    rcases List.mem_cons.1 hm with h|h
    · subst h;simp at q
    · exact h
   have IH:=S9 r s hl rest (pre++[x]) (by rw[hs];simp) hm2;rw[show ((pre++[x]).length:Int)=(pre.length:Int)+1 by simp]at IH;clear hs;refine zj func46 rfl rfl ?_;simp (disch:=(try simp only[LL]);omega) only[↓GO,↓DRW,GA,GX,ren,zk,za,refs,z8,cst,zo,isC,bin,una,z7,zd,blt,asArg,zg,zc,zf,z6,zr,unN,ze,zm,zb,GS,simprocAttr,GZ,c,zn,hget,q,zi,zA,IH]
theorem ON (r:List Str)(s:Str)(hl:r.length≤1048576)(hm:s∈r):zy (EV prog pol) 46 [.t (.list 1 (strs r)),.t (.str s)]=some (.t (.bool true)):=by
 have L:=S9 r s hl r [] rfl hm;simp only[List.length_nil,Int.natCast_zero]at L;apply zw;refine zx rfl func46 rfl (by kernel_rfl) ?_;unfold Tryz.f46;simp (disch:=(try simp only[LL]);omega) only[↓GO,↓DRW,GA,GX,ren,zk,za,refs,z8,cst,zo,isC,bin,una,z7,zd,blt,asArg,zg,zc,zf,z6,zr,unN,ze,zm,zb,GS,simprocAttr,GZ,L,zA]
theorem bZ (r:List Str)(hl:r.length≤1048576):∀ (rest pre:List Str) (x:Str),r=pre++x::rest→Ws (x::rest) →
 EV prog pol (.loop 43 26 0 [.t (.list 1 (strs r)),.t (.int .i64 ((pre.length:Int)+1))] [])=some (.loop (.exit 0) [.bad] [])
 | [],pre,x,hs,ha=>by
  have c:decide ((pre.length:Int)+1<(r.length:Int))=false:=by simp[hs]
  refine zj func43 rfl rfl ?_;simp (disch:=(try simp only[LL]);omega) only[↓GO,↓DRW,GA,GX,ren,zk,za,refs,z8,cst,zo,isC,bin,una,z7,zd,blt,asArg,zg,zc,zf,z6,zr,unN,ze,zm,zb,GS,simprocAttr,GZ,c,zn,zA]
 | y :: rest, pre, x, hs, ha => by
  have c:decide ((pre.length:Int)+1<(r.length:Int))=true:=by simp[hs];omega
  have hget:(strs r)[pre.length]? = some [.str x]:=by rw[hs];exact xC pre x (y::rest)
  have hget2:(strs r)[pre.length+1]? = some [.str y]:=by
   have:=xC (pre++[x]) y rest;rw[show pre++[x]++y::rest=r by rw[hs];simp,show (pre++[x]).length=pre.length+1 by simp]at this;exact this
  have hlen:pre.length+rest.length+2≤r.length:=by rw[hs];simp;omega
  have q:Op.bytesLess x y=true:=(List.pairwise_cons.1 ha).1 y (by simp);have IH:=bZ r hl rest (pre++[x]) y (by rw[hs];simp) (List.pairwise_cons.1 ha).2;rw[show ((pre++[x]).length:Int)=(pre.length:Int)+1 by simp]at IH;have e1:((pre.length:Int)+1 - 1)=(pre.length:Int):=by omega
  have e2:((pre.length:Int)+1).toNat=pre.length+1:=by omega
  have hgE:tI (strs r) ((pre.length:Int)+1)=some [T.str y]:=by
   rw[show ((pre.length:Int)+1)=((pre.length+1:Nat):Int) by omega];unfold tI;simp[hget2];omega
  have c0:decide ((0:Int)≤(pre.length:Int))=true:=by apply decide_eq_true;omega
  have c1:decide ((pre.length:Int)<(r.length:Int))=true:=by apply decide_eq_true;omega
  have c2:decide ((0:Int)≤(pre.length:Int)+1)=true:=by apply decide_eq_true;omega
  clear hs;refine zj func43 rfl rfl ?_;simp (disch:=(try simp only[LL]);omega) only[↓GO,↓DRW,GA,GX,ren,zk,za,refs,z8,cst,zo,isC,bin,una,z7,zd,blt,asArg,zg,zc,zf,z6,zr,unN,ze,zm,zb,GS,simprocAttr,GZ,c,c0,c1,c2,e1,e2,zn,hget,hget2,hgE,q,Bool.not_true,zi,zA,IH]
theorem T3 (r:List Str)(hl:r.length≤1048576)(ha:Ws r):zy (EV prog pol) 43 [.t (.list 1 (strs r))]=some (.t (.bool true)):=by
 have L:EV prog pol (.loop 43 26 0 [.t (.list 1 (strs r)),.t (.int .i64 1)] [])=some (.loop (.exit 0) [.bad] []):=by
  cases r with
  | nil =>
   refine zj func43 rfl rfl ?_;simp (disch:=(try simp only[LL]);omega) only[↓GO,↓DRW,GA,GX,ren,zk,za,refs,z8,cst,zo,isC,bin,una,z7,zd,blt,asArg,zg,zc,zf,z6,zr,unN,ze,zm,zb,GS,simprocAttr,GZ,zA,strs,List.map_nil]
  | cons x rest =>
   have:=bZ (x::rest) hl rest [] x rfl ha;simp only[List.length_nil,Int.natCast_zero,Int.zero_add]at this;exact this
 apply zw;refine zx rfl func43 rfl (by kernel_rfl) ?_;unfold Tryz.f43;simp (disch:=(try simp only[LL]);omega) only[↓GO,↓DRW,GA,GX,ren,zk,za,refs,z8,cst,zo,isC,bin,una,z7,zd,blt,asArg,zg,zc,zf,z6,zr,unN,ze,zm,zb,GS,simprocAttr,GZ,L,zA]
def Nc (l:List zh):Prop:=l.Pairwise fun x y=>Op.bytesLess (keyOf x) (keyOf y)=true
theorem Nc.key:∀ {l:List zh},Nc l→∀ p∈l,∀ q∈l,keyOf p=keyOf q→p=q
 | [],_,p,hp,q,hq,e=>by simp at hp
 | x::r,h,p,hp,q,hq,e=>by
  obtain⟨h1,h2⟩:=List.pairwise_cons.1 h;rcases List.mem_cons.1 hp with rfl|hp<;>rcases List.mem_cons.1 hq with rfl|hq
  · rfl
  · have:=h1 q hq;rw[e,wj]at this;cases this
  · have:=h1 p (by assumption);rw[e,wj]at this;cases this
  · exact Nc.key h2 p hp q hq e
def snS (l:List Str)(s:Str):List Str:=l++[s]
theorem pO (add:List Str→Str→List Str)(ps:List zh)(n:Nat)(out:List Str):yB add ps n out []=out:=by cases n<;>rfl
theorem Tv {l:List Str}{s:Str}(h:xL l s=false):(xp l s).length=l.length+1:=by
 rw[(mH l s h).length_eq];simp
theorem GB.zE {g:zB}(hB:GB g){p:zh}(hp:p∈g.packs):p.zE.length≤1048576:=by
 obtain⟨_,_,h3⟩:=hB.len;have:=h3 p hp;simp only[zh.zX]at this;omega
theorem s7 (ps:List zh):∀ (n:Nat) (out w:List Str),(yB snS ps n out w).length≤out.length+tN ps out
 | 0,out,w=>by rw[yB];omega
 | n+1,out,[]=>by rw[pO];omega
 | n + 1, out, k :: w => by
  rw[yB]
  cases hf:uM ps k with
  | none=>exact s7 ps n out w
  | some p =>
   obtain⟨hp,hkp,_⟩:=sw hf;simp only
   cases hc:xL out k with
   | true=>exact s7 ps n out w
   | false =>
    have h1:=sU k out (out++[k]) (mA out k) hc ps p hp hkp;have h2:=s7 ps n (snS out k) (w++p.zE);rw[cond_false];unfold snS at h2 ⊢;simp only[List.length_append,List.length_cons,List.length_nil]at h2;omega
theorem WC (g:zB)(hB:GB g):∀ (n:Nat) (out w:List Str) (es:List (List T)) (m off len:Nat) (cap cap2:Option Nat),w.length+muS g.packs out≤n→n≤4194304→m=out.length→m+tN g.packs out≤1048576→len=w.length→es.drop off=strs w→off+len=es.length→∃ cap',
 EV prog pol (.loop 103 60 0 [.ptr 0 0 0,.sl 1 0 m cap,.sl 2 off len cap2] [.vs 2 [g.enc.map .t],.ts 1 (strs out),.ts 1 es])
  = some (.loop (.exit 0) [.sl 0 0 (yB snS g.packs n out w).length cap'] [.ts 1 (strs (yB snS g.packs n out w))])
 | n,out,[],es,m,off,len,cap,cap2,hn,hN,hm,hk,hl,hd,ho=>by
  have c:decide ((len:Int) > 0)=false:=by rw[hl];rfl
  refine⟨cap,?_⟩;rw[pO];clear hB;obtain⟨top,packs⟩:=g;simp only[zB.enc,List.map_cons,List.map_nil];rw[← hm];refine zj func103 rfl rfl ?_;simp (disch:=(try simp only[LL]);omega) only[↓GO,↓DRW,GA,GX,ren,zk,za,refs,z8,cst,zo,isC,bin,una,z7,zd,blt,asArg,zg,zc,zf,z6,zr,unN,ze,zm,zb,GS,simprocAttr,GZ,c,zA]
 | 0,out,k::w,es,m,off,len,cap,cap2,hn,hN,hm,hk,hl,hd,ho=>by simp at hn
 | n + 1, out, k :: w, es, m, off, len, cap, cap2, hn, hN, hm, hk, hl, hd, ho => by
  have c:decide ((len:Int) > 0)=true:=by rw[hl];simp
  have hoff:es[off]? = some [.str k]:=by
   have:(es.drop off)[0]? = some [.str k]:=by rw[hd];rfl
   simpa using this
  have hd1:es.drop (off+1)=strs w:=by
   rw[← List.drop_drop,hd];rfl
  have hl1:len - 1=w.length:=by rw[hl];rfl
  have hl2:1≤len:=by rw[hl];simp
  have hl3:(1:Int)≤(len:Int):=by omega
  have hsl:(strs out).length=m:=by rw[zn,hm]
  have htk:(strs out).take m=strs out:=List.take_of_length_le (by omega);have hml:m≤1048576:=by omega
  have hll:len≤4194304:=by simp only[List.length_cons]at hl hn;omega
  have d1:=dB g k hB;have d2:=c_con out (by omega) k;simp only[List.length_cons]at hn;rw[yB]
  cases hf:uM g.packs k with
  | none =>
   rw[aI hf]at d1;have c2:decide ((-1:Int)≥0)=false:=rfl;simp only[ixI]at d1;obtain⟨cap',IH⟩:=WC g hB n out w es m (off+1) (len - 1) cap (cap2.map (· - 1)) (by omega) (by omega) hm hk hl1 hd1 (by omega);refine⟨cap',?_⟩;simp only;clear hB hf;obtain⟨top,packs⟩:=g;simp only[zB.enc,List.map_cons,List.map_nil]at d1 IH ⊢;generalize yB snS packs n out w=Z at *;refine zj func103 rfl rfl ?_;simp (disch:=(try simp only[LL]);omega) only[↓GO,↓DRW,GA,GX,ren,zk,za,refs,z8,cst,zo,isC,bin,una,z7,zd,blt,asArg,zg,zc,zf,z6,zr,unN,ze,zm,zb,GS,simprocAttr,GZ,c,c2,hoff,d1,zA,IH]
  | some p =>
   obtain⟨hp,hkp,i,hi,hpi⟩:=sw hf;rw[hi]at d1;have c2:decide ((i:Int)≥0)=true:=by simp
   have hnl:=hB.zE hp;have hget:(zh.zC g.packs)[i]? = some p.enc:=by unfold zh.zC;rw[List.getElem?_map,hpi];rfl
   simp only
   cases hc:xL out k with
   | true =>
    rw[hc]at d2;obtain⟨cap',IH⟩:=WC g hB n out w es m (off+1) (len - 1) cap (cap2.map (· - 1)) (by omega) (by omega) hm hk hl1 hd1 (by omega);refine⟨cap',?_⟩;rw[cond_true];clear hB hf;obtain⟨top,packs⟩:=g;simp only[zB.enc,List.map_cons,List.map_nil,ixI]at d1 IH ⊢;generalize yB snS packs n out w=Z at *;refine zj func103 rfl rfl ?_;simp (disch:=(try simp only[LL]);omega) only[↓GO,↓DRW,GA,GX,ren,zk,za,refs,z8,cst,zo,isC,bin,una,z7,zd,blt,asArg,zg,zc,zf,z6,zr,unN,ze,zm,zb,GS,simprocAttr,GZ,c,c2,hoff,d1,d2,htk,zA,IH]
   | false =>
    rw[hc]at d2;have h1:=jQ k out (out++[k]) (mA out k) hc g.packs p hp hkp;have h2:=sU k out (out++[k]) (mA out k) hc g.packs p hp hkp;obtain⟨cap',IH⟩:=WC g hB n (out++[k]) (w++p.zE) (strs w++strs p.zE) (m+1) 0 (w.length+p.zE.length) none none (by rw[List.length_append];omega) (by omega) (by simp[hm]) (by omega) (by simp) (by simp[strs]) (by rw[List.length_append,zn,zn];omega);have ho1:off+1+w.length=es.length:=by omega
    refine⟨cap',?_⟩;rw[cond_false,show snS out k=out++[k] from rfl];rw[show strs (out++[k])=strs out++[[.str k]] by simp[strs]]at IH;clear hB hf h1 h2 hp hi hpi;obtain⟨top,packs⟩:=g;obtain⟨name,version,source,sums,dev,zE⟩:=p;simp only[zB.enc,zh.enc,List.map_cons,List.map_nil,ixI]at d1 hget IH hnl ⊢;generalize yB snS packs n (out++[k]) (w++zE)=Z at *;refine zj func103 rfl rfl ?_;simp (disch:=(try simp only[LL]);omega) only[↓GO,↓DRW,GA,GX,ren,zk,za,refs,z8,cst,zo,isC,bin,una,z7,zd,blt,asArg,zg,zc,zf,z6,zr,unN,ze,zm,zb,GS,simprocAttr,GZ,c,c2,hoff,d1,d2,htk,hget,hsl,hd1,hl1,ho1,zn,zA,IH,yf]
theorem c_reI (g:zB)(hB:GB g)(w:List Str)(hw:w.length≤1048576)(hg:yj g=true):zy (EV prog pol) 103 [.agg (g.enc.map .t),.t (.list 1 (strs w))]=some (.t (.list 1 (strs (xb g.packs w)))):=by
 have d1:=iN g hB;rw[hg]at d1;have d2:=Z7 (strs w) (by rw[zn];omega);rw[zn]at d2;have h1:=jR g.packs;have h2:=hB;unfold GB zB.zX at h2;have h3:tN g.packs []≤g.packs.length:=List.countP_le_length;have h4:=hB.len;obtain⟨cap,L⟩:=WC g hB (w.length+muS g.packs []) [] w (strs w) 0 0 w.length (some 0) none (Nat.le_refl _) (by omega) rfl (by omega) rfl rfl (by rw[zn];omega);have e:vv (yB snS g.packs (w.length+muS g.packs []) [] w)=xb g.packs w:=kU g.packs _ w;have hlen:(yB snS g.packs (w.length+muS g.packs []) [] w).length≤1073741824:=by
  have:=s7 g.packs (w.length+muS g.packs []) [] w;simp only[List.length_nil]at this;omega
 have d3:=OD _ hlen _ rfl cap;rw[e]at d3;have e2:(yB snS g.packs (w.length+muS g.packs []) [] w).length=(xb g.packs w).length:=by rw[← e,nZ]
 rw[e2]at L d3;have ht:(strs (xb g.packs w)).take (xb g.packs w).length=strs (xb g.packs w):=by rw[← zn (xb g.packs w)];simp
 rw[show strs []=[] from rfl]at L;clear hB h1 h2 h3 h4 e e2 hlen;obtain⟨top,packs⟩:=g;simp only[zB.enc,List.map_cons,List.map_nil]at d1 d3 ht L ⊢;generalize xb packs w=Z at *;generalize yB snS packs (w.length+muS packs []) [] w=Y at *;apply zw;refine zx rfl func103 rfl (by kernel_rfl) ?_;unfold Tryz.f103;simp (disch:=(try simp only[LL]);omega) only[↓GO,↓DRW,GA,GX,ren,zk,za,refs,z8,cst,zo,isC,bin,una,z7,zd,blt,asArg,zg,zc,zf,z6,zr,unN,ze,zm,zb,GS,simprocAttr,GZ,d1,d2,d3,L,ht,zA]
theorem T5 (g:zB)(hB:GB g)(w:List Str)(hg:yj g=false):zy (EV prog pol) 103 [.agg (g.enc.map .t),.t (.list 1 (strs w))]=some (.t (.list 1 [])):=by
 have d1:=iN g hB;rw[hg]at d1;clear hB;obtain⟨top,packs⟩:=g;simp only[zB.enc,List.map_cons,List.map_nil]at d1 ⊢;apply zw;refine zx rfl func103 rfl (by kernel_rfl) ?_;unfold Tryz.f103;simp (disch:=(try simp only[LL]);omega) only[↓GO,↓DRW,GA,GX,ren,zk,za,refs,z8,cst,zo,isC,bin,una,z7,zd,blt,asArg,zg,zc,zf,z6,zr,unN,ze,zm,zb,GS,simprocAttr,GZ,d1,zA]
theorem WB (g:zB)(hB:GB g)(hg:yj g=true):∀ (n:Nat) (out w:List Str) (es:List (List T)) (m off len:Nat) (cap cap2:Option Nat),w.length+muS g.packs out≤n→n≤4194304→m=out.length→m+tN g.packs out≤1048576→len=w.length→es.drop off=strs w→off+len=es.length→∃ cap',
 EV prog pol (.loop 118 60 0 [.ptr 0 0 0,.sl 1 0 m cap,.sl 2 off len cap2] [.vs 2 [g.enc.map .t],.ts 1 (strs out),.ts 1 es])
  = some (.loop (.exit 0) [.sl 0 0 (yB xp g.packs n out w).length cap'] [.ts 1 (strs (yB xp g.packs n out w))])
 | n,out,[],es,m,off,len,cap,cap2,hn,hN,hm,hk,hl,hd,ho=>by
  have c:decide ((len:Int) > 0)=false:=by rw[hl];rfl
  refine⟨cap,?_⟩;rw[pO];clear hB hg;obtain⟨top,packs⟩:=g;simp only[zB.enc,List.map_cons,List.map_nil];rw[← hm];refine zj func118 rfl rfl ?_;simp (disch:=(try simp only[LL]);omega) only[↓GO,↓DRW,GA,GX,ren,zk,za,refs,z8,cst,zo,isC,bin,una,z7,zd,blt,asArg,zg,zc,zf,z6,zr,unN,ze,zm,zb,GS,simprocAttr,GZ,c,zA]
 | 0,out,k::w,es,m,off,len,cap,cap2,hn,hN,hm,hk,hl,hd,ho=>by simp at hn
 | n + 1, out, k :: w, es, m, off, len, cap, cap2, hn, hN, hm, hk, hl, hd, ho => by
  have c:decide ((len:Int) > 0)=true:=by rw[hl];simp
  have hoff:es[off]? = some [.str k]:=by
   have:(es.drop off)[0]? = some [.str k]:=by rw[hd];rfl
   simpa using this
  have hd1:es.drop (off+1)=strs w:=by
   rw[← List.drop_drop,hd];rfl
  have hl1:len - 1=w.length:=by rw[hl];rfl
  have hl2:1≤len:=by rw[hl];simp
  have hl3:(1:Int)≤(len:Int):=by omega
  have hsl:(strs out).length=m:=by rw[zn,hm]
  have htk:(strs out).take m=strs out:=List.take_of_length_le (by omega);have hml:m≤1048576:=by omega
  have hll:len≤4194304:=by simp only[List.length_cons]at hl hn;omega
  have d0:=iM g hB;rw[hg]at d0;have d1:=dA g k hB;have d2:=c_has out (by omega) k;simp only[List.length_cons]at hn;rw[yB]
  cases hf:uM g.packs k with
  | none =>
   rw[aI hf]at d1;have c2:decide ((-1:Int)<0)=true:=rfl;simp only[ixI]at d1;obtain⟨cap',IH⟩:=WB g hB hg n out w es m (off+1) (len - 1) cap (cap2.map (· - 1)) (by omega) (by omega) hm hk hl1 hd1 (by omega);refine⟨cap',?_⟩;simp only;clear hB hf hg;obtain⟨top,packs⟩:=g;simp only[zB.enc,List.map_cons,List.map_nil]at d0 d1 IH ⊢;generalize yB xp packs n out w=Z at *;refine zj func118 rfl rfl ?_;simp (disch:=(try simp only[LL]);omega) only[↓GO,↓DRW,GA,GX,ren,zk,za,refs,z8,cst,zo,isC,bin,una,z7,zd,blt,asArg,zg,zc,zf,z6,zr,unN,ze,zm,zb,GS,simprocAttr,GZ,c,c2,hoff,d0,d1,zA,IH]
  | some p =>
   obtain⟨hp,hkp,i,hi,hpi⟩:=sw hf;rw[hi]at d1;have c2:decide ((i:Int)<0)=false:=by simp
   have hnl:=hB.zE hp;have hget:(zh.zC g.packs)[i]? = some p.enc:=by unfold zh.zC;rw[List.getElem?_map,hpi];rfl
   simp only
   cases hc:xL out k with
   | true =>
    rw[hc]at d2;obtain⟨cap',IH⟩:=WB g hB hg n out w es m (off+1) (len - 1) cap (cap2.map (· - 1)) (by omega) (by omega) hm hk hl1 hd1 (by omega);refine⟨cap',?_⟩;rw[cond_true];clear hB hf hg;obtain⟨top,packs⟩:=g;simp only[zB.enc,List.map_cons,List.map_nil,ixI]at d0 d1 IH ⊢;generalize yB xp packs n out w=Z at *;refine zj func118 rfl rfl ?_;simp (disch:=(try simp only[LL]);omega) only[↓GO,↓DRW,GA,GX,ren,zk,za,refs,z8,cst,zo,isC,bin,una,z7,zd,blt,asArg,zg,zc,zf,z6,zr,unN,ze,zm,zb,GS,simprocAttr,GZ,c,c2,hoff,d0,d1,d2,htk,zA,IH]
   | false =>
    rw[hc]at d2;have h1:=jQ k out (xp out k) (iw out k) hc g.packs p hp hkp;have h2:=sU k out (xp out k) (iw out k) hc g.packs p hp hkp;have d3:=Sx out (by omega) k m hm cap (Qu hc);obtain⟨cap',IH⟩:=WB g hB hg n (xp out k) (w++p.zE) (strs w++strs p.zE) (m+1) 0 (w.length+p.zE.length) none none (by rw[List.length_append];omega) (by omega) (by rw[Tv hc,hm]) (by omega) (by simp) (by simp[strs]) (by rw[List.length_append,zn,zn];omega);have ho1:off+1+w.length=es.length:=by omega
    refine⟨cap',?_⟩;rw[cond_false];clear hB hf hg h1 h2 hp hi hpi;obtain⟨top,packs⟩:=g;obtain⟨name,version,source,sums,dev,zE⟩:=p;simp only[zB.enc,zh.enc,List.map_cons,List.map_nil,ixI]at d0 d1 hget IH hnl ⊢;generalize yB xp packs n (xp out k) (w++zE)=Z at *;generalize xp out k=out' at *;refine zj func118 rfl rfl ?_;simp (disch:=(try simp only[LL]);omega) only[↓GO,↓DRW,GA,GX,ren,zk,za,refs,z8,cst,zo,isC,bin,una,z7,zd,blt,asArg,zg,zc,zf,z6,zr,unN,ze,zm,zb,GS,simprocAttr,GZ,c,c2,hoff,d0,d1,d2,d3,hget,hsl,htk,hd1,hl1,ho1,zn,zA,IH,yf]
theorem c_reR (g:zB)(hB:GB g)(w:List Str)(hw:w.length≤1048576)(hg:yj g=true):zy (EV prog pol) 118 [.agg (g.enc.map .t),.t (.list 1 (strs w))]=some (.t (.list 1 (strs (xb g.packs w)))):=by
 have h1:=jR g.packs;have h2:=hB;unfold GB zB.zX at h2;have h3:tN g.packs []≤g.packs.length:=List.countP_le_length;have h4:=hB.len;obtain⟨cap,L⟩:=WB g hB hg (w.length+muS g.packs []) [] w (strs w) 0 0 w.length (some 0) none (Nat.le_refl _) (by omega) rfl (by omega) rfl rfl (by rw[zn];omega);have e:yB xp g.packs (w.length+muS g.packs []) [] w=xb g.packs w:=rfl;rw[e]at L;have ht:(strs (xb g.packs w)).take (xb g.packs w).length=strs (xb g.packs w):=by rw[← zn (xb g.packs w)];simp
 rw[show strs []=[] from rfl]at L;clear hB h1 h2 h3 h4 e hg;obtain⟨top,packs⟩:=g;simp only[zB.enc,List.map_cons,List.map_nil]at ht L ⊢;generalize xb packs w=Z at *;apply zw;refine zx rfl func118 rfl (by kernel_rfl) ?_;unfold Tryz.f118;simp (disch:=(try simp only[LL]);omega) only[↓GO,↓DRW,GA,GX,ren,zk,za,refs,z8,cst,zo,isC,bin,una,z7,zd,blt,asArg,zg,zc,zf,z6,zr,unN,ze,zm,zb,GS,simprocAttr,GZ,L,ht,zn,List.nil_append,Nat.zero_add,zA,yf]
theorem PB (a b:List Str)(hl:a.length≤4194304):∀ (ra rb pa pb:List Str),a=pa++ra→b=pb++rb→pa.length=pb.length→ra.length=rb.length →
 EV prog pol (.loop 15 58 0 [.t (.list 1 (strs a)),.t (.list 1 (strs b)),.t (.int .i64 (pa.length:Int))] [])=some (cond (ra==rb) (.loop (.exit 0) [.bad] []) (.loop .ret [.t (.bool false)] []))
 | [],[],pa,pb,ha,hb,hp,hr=>by
  have c:decide ((pa.length:Int)<(a.length:Int))=false:=by simp[ha]
  rw[show (([]:List Str)==[])=true from rfl,cond_true];refine zj func15 rfl rfl ?_;simp (disch:=(try simp only[LL]);omega) only[↓GO,↓DRW,GA,GX,ren,zk,za,refs,z8,cst,zo,isC,bin,una,z7,zd,blt,asArg,zg,zc,zf,z6,zr,unN,ze,zm,zb,GS,simprocAttr,GZ,c,zn,zA]
 | [],_::_,pa,pb,ha,hb,hp,hr=>by simp at hr
 | _::_,[],pa,pb,ha,hb,hp,hr=>by simp at hr
 | x :: ra, y :: rb, pa, pb, ha, hb, hp, hr => by
  have c:decide ((pa.length:Int)<(a.length:Int))=true:=by simp[ha];omega
  have hg1:(strs a)[pa.length]? = some [.str x]:=xj (by rw[ha];simp);have hg2:(strs b)[pa.length]? = some [.str y]:=xj (by rw[hb,hp];simp);have hlen:pa.length+ra.length+1≤a.length:=by rw[ha];simp;omega
  have IH:=PB a b hl ra rb (pa++[x]) (pb++[y]) (by rw[ha];simp) (by rw[hb];simp) (by simp[hp]) (by simpa using hr);rw[show ((pa++[x]).length:Int)=(pa.length:Int)+1 by simp]at IH;rw[List.cons_beq_cons];clear ha hb
  cases q:(x==y) with
  | true =>
   rw[Bool.true_and];refine zj func15 rfl rfl ?_;simp (disch:=(try simp only[LL]);omega) only[↓GO,↓DRW,GA,GX,ren,zk,za,refs,z8,cst,zo,isC,bin,una,z7,zd,blt,asArg,zg,zc,zf,z6,zr,unN,ze,zm,zb,GS,simprocAttr,GZ,c,hg1,hg2,zn,q,bne,Bool.not_true,zi,zA,IH]
  | false =>
   rw[Bool.false_and,cond_false];refine zj func15 rfl rfl ?_;simp (disch:=(try simp only[LL]);omega) only[↓GO,↓DRW,GA,GX,ren,zk,za,refs,z8,cst,zo,isC,bin,una,z7,zd,blt,asArg,zg,zc,zf,z6,zr,unN,ze,zm,zb,GS,simprocAttr,GZ,c,hg1,hg2,zn,q,bne,Bool.not_false,zi,zA]
theorem c_eqJ (a b:List Str)(hl:a.length≤4194304):zy (EV prog pol) 15 [.t (.list 1 (strs a)),.t (.list 1 (strs b))]=some (.t (.bool (a==b))):=by
 by_cases hn:a.length=b.length
 · have L:=PB a b hl a b [] [] rfl rfl rfl hn;simp only[List.length_nil,Int.natCast_zero]at L;have c:((a.length:Int) != (b.length:Int))=false:=by rw[hn];simp
   cases q:(a==b)<;>rw[q]at L<;>simp only[cond_true,cond_false]at L
   all_goals
    apply zw;refine zx rfl func15 rfl (by kernel_rfl) ?_;unfold Tryz.f15;simp (disch:=(try simp only[LL]);omega) only[↓GO,↓DRW,GA,GX,ren,zk,za,refs,z8,cst,zo,isC,bin,una,z7,zd,blt,asArg,zg,zc,zf,z6,zr,unN,ze,zm,zb,GS,simprocAttr,GZ,L,zn,c,zA]
 · have c:((a.length:Int) != (b.length:Int))=true:=by simp;omega
   have hf:(a==b)=false:=by rw[beq_eq_false_iff_ne];intro e;exact hn (by rw[e])
   rw[hf];apply zw;refine zx rfl func15 rfl (by kernel_rfl) ?_;unfold Tryz.f15;simp (disch:=(try simp only[LL]);omega) only[↓GO,↓DRW,GA,GX,ren,zk,za,refs,z8,cst,zo,isC,bin,una,z7,zd,blt,asArg,zg,zc,zf,z6,zr,unN,ze,zm,zb,GS,simprocAttr,GZ,zn,c,zA]
end Go.Proofs.YtefkoljdebekdaaGreatDoor

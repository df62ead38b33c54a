/- Joined: J15 J16 V20 K13 K14 K15 K16 K17 K18 K19. Conditions: those of each lemma. -/
import Derived.Test.YtefkoljdebekdaaGreatDoorlK
import Derived.Test.YtefkoljdebekdaaGreatDoorlM
import Derived.Test.YtefkoljdebekdaaGreatDoorlL
set_option linter.unusedVariables false
set_option linter.unusedSimpArgs false
set_option maxRecDepth 100000
set_option maxHeartbeats 40000000
namespace Go.Proofs.YtefkoljdebekdaaGreatDoor
open Go.Proofs.Tryz
open E
theorem OQ (bs:List Int)(hb:okB bs)(c:Cs)(hc:cok bs c)(n:Nat)(h1:1≤n)(h2:n≤1048576):∃ (k:Nat) (c':Cs),k<n∧cok bs c'∧EV prog pol (.callO false 94 [.ptr 0 0 0,.t (.int .i64 (n:Int))] [cuR bs c])=some (.call (.t (.int .i64 (k:Int))) [cuR bs c']):=by
 by_cases hn:n≤256
 · exact uq bs hb c hc n h1 hn
 · have k1:=mQ bs c hc;have k2:=mQ bs _ k1;have k3:=mQ bs _ k2;have k4:=mQ bs _ k3;have d1:=mY bs hb c hc;have d2:=mY bs hb _ k1;have d3:=mY bs hb _ k2;have d4:=mY bs hb _ k3;have x1:=iJ bs c;have x2:=iJ bs (nxC bs c);have x3:=iJ bs (nxC bs (nxC bs c));have x4:=iJ bs (nxC bs (nxC bs (nxC bs c)));rw[Ya]at d1 d2 d3 d4;have c1:decide ((n:Int)≤0)=false:=by apply decide_eq_false;omega
   have c2:decide ((n:Int)≤256)=false:=by apply decide_eq_false;omega
   have c3:((n:Int)=0)=False:=eq_false (by omega);refine⟨(nxN bs c*16777216+nxN bs (nxC bs c)*65536+nxN bs (nxC bs (nxC bs c))*256+nxN bs (nxC bs (nxC bs (nxC bs c)))) % n,_,Nat.mod_lt _ h1,k4,?_⟩;rw[← SH];have e:∀ a b c d:Nat,((a*16777216+b*65536+c*256+d:Nat):Int)=(a:Int)*16777216+(b:Int)*65536+(c:Int)*256+(d:Int):=fun a b c d=>by omega
   rw[e];unfold cuR at d1 d2 d3 d4 ⊢;generalize nxN bs (nxC bs (nxC bs (nxC bs c)))=y4 at *;generalize nxN bs (nxC bs (nxC bs c))=y3 at *;generalize nxN bs (nxC bs c)=y2 at *;generalize nxN bs c=y1 at *;generalize nxC bs (nxC bs (nxC bs (nxC bs c)))=z4 at *;generalize nxC bs (nxC bs (nxC bs c))=z3 at *;generalize nxC bs (nxC bs c)=z2 at *;generalize nxC bs c=z1 at *;clear k1 k2 k3 k4 hb;refine zM func94 rfl (by kernel_rfl) ?_;unfold Tryz.f94;simp (disch:=(try simp only[LL]);omega) only[↓GO,↓DRW,GA,GX,ren,zk,za,refs,z8,cst,zo,isC,bin,una,z7,zd,blt,asArg,zg,zc,zf,z6,zr,unN,ze,zm,zb,GS,simprocAttr,GZ,c1,c2,c3,if_false,d1,d2,d3,d4,SH,zi,zA]
def R7:List Str:=[[48],[32],[255],[34],[10],[97],[44],[61]]
def R6:List Str:=[[48],[65],[0],[57],[93],[92]]
theorem ny {l:List Str}{n:Nat}(h:(l.all fun s=>decide (s.length≤n))=true){s:Str}(hs:s∈l):s.length≤n:=by
 rw[List.all_eq_true]at h;simpa using h s hs
theorem Sv (bs:List Int)(hb:okB bs)(c:Cs)(hc:cok bs c)(s:Str)(hs:s.length≤1000000):∃ (t:Str) (c':Cs),t.length≤s.length+1∧cok bs c' ∧
 EV prog pol (.callO false 99 [.ptr 0 0 0,.t (.str s)] [cuR bs c])=some (.call (.t (.str t)) [cuR bs c']):=by
 obtain⟨i,c1,hi,hc1,d0⟩:=OQ bs hb c hc (s.length+1) (by omega) (by omega);obtain⟨k,c2,hk,hc2,d1⟩:=uq bs hb c1 hc1 8 (by decide) (by decide);rw[show ((s.length+1:Nat):Int)=(s.length:Int)+1 by omega]at d0;simp only[Int.cast_ofNat_Int]at d1;have e1:(i:Int)≤(s.length:Int):=by omega
 have ci:decide ((0:Int)≤(i:Int))=true:=by apply decide_eq_true;omega
 have plain:k≠0→k≠1→(k=2→decide ((i:Int)<(s.length:Int))=false)→∃ (t:Str) (c':Cs),t.length≤s.length+1∧cok bs c' ∧
  EV prog pol (.callO false 99 [.ptr 0 0 0,.t (.str s)] [cuR bs c])=some (.call (.t (.str t)) [cuR bs c']):=fun h0 h1 h2=>by
  refine⟨s,c2,by omega,hc2,?_⟩;have q0:((k:Int)==0)=false:=by rw[beq_eq_false_iff_ne];omega
  have q1:((k:Int)==1)=false:=by rw[beq_eq_false_iff_ne];omega
  unfold cuR at *
  by_cases h3:k=2
  · have q2:((k:Int)==2)=true:=by rw[h3];rfl
    have c3:=h2 h3;clear hb h2;refine zM func99 rfl (by kernel_rfl) ?_;unfold Tryz.f99;simp (maxSteps:=1000000) (disch:=(try simp only[LL]);omega) only[↓GO,↓DRW,GA,GX,ren,zk,za,refs,z8,cst,zo,isC,bin,una,z7,zd,blt,asArg,zg,zc,zf,z6,zr,unN,ze,zm,zb,GS,simprocAttr,zH,zI,yU,yN,yQ,yP,yV,gh1,yM,yC,yG,zU,mkO,yw,yp,yq,mvC,unO,y7,yT,yO,yK,zO,yL,yJ,y9,oc,oTs,oT,zT,zT.rowTs,yF,isL,E.BX,GZ,d0,d1,q0,q1,q2,c3,zi,zA]
  · have q2:((k:Int)==2)=false:=by rw[beq_eq_false_iff_ne];omega
    clear hb h2;refine zM func99 rfl (by kernel_rfl) ?_;unfold Tryz.f99;simp (maxSteps:=1000000) (disch:=(try simp only[LL]);omega) only[↓GO,↓DRW,GA,GX,ren,zk,za,refs,z8,cst,zo,isC,bin,una,z7,zd,blt,asArg,zg,zc,zf,z6,zr,unN,ze,zm,zb,GS,simprocAttr,zH,zI,yU,yN,yQ,yP,yV,gh1,yM,yC,yG,zU,mkO,yw,yp,yq,mvC,unO,y7,yT,yO,yK,zO,yL,yJ,y9,oc,oTs,oT,zT,zT.rowTs,yF,isL,E.BX,GZ,d0,d1,q0,q1,q2,zi,zA]
 by_cases h0:k=0
 · subst h0;refine⟨s.take i,c2,by rw[List.length_take];omega,hc2,?_⟩;unfold cuR at *;clear hb plain;refine zM func99 rfl (by kernel_rfl) ?_;unfold Tryz.f99;simp (maxSteps:=1000000) (disch:=(try simp only[LL]);omega) only[↓GO,↓DRW,GA,GX,ren,zk,za,refs,z8,cst,zo,isC,bin,una,z7,zd,blt,asArg,zg,zc,zf,z6,zr,unN,ze,zm,zb,GS,simprocAttr,zH,zI,yU,yN,yQ,yP,yV,gh1,yM,yC,yG,zU,mkO,yw,yp,yq,mvC,unO,y7,yT,yO,yK,zO,yL,yJ,y9,oc,oTs,oT,zT,zT.rowTs,yF,isL,E.BX,GZ,d0,d1,zi,zA]
 by_cases h1:k=1
 · subst h1;obtain⟨x,c3,hx,hc3,d2⟩:=vD bs hb c2 hc2 R7 8 rfl (by decide) (by decide) (some 8);have hxl:=ny (n:=1) (l:=R7) (by decide) hx;have l1:(s.take i).length≤s.length:=by rw[List.length_take];omega
   have l2:(s.drop i).length≤s.length:=by rw[List.length_drop];omega
   have l3:(s.take i).length+(s.drop i).length=s.length:=by rw[List.length_take,List.length_drop];omega
   refine⟨s.take i++x++s.drop i,c3,by simp only[List.length_append];omega,hc3,?_⟩;have f1:(s.take i).length+x.length≤9223372036854775807:=by omega
   have f2:(s.take i++x).length+(s.drop i).length≤9223372036854775807:=by simp only[List.length_append];omega
   have f3:(s.take i).length+x.length+(s.drop i).length≤9223372036854775807:=by omega
   have f0:i≤s.length:=by omega
   rw[show strs R7=[[.str [48]],[.str [32]],[.str [255]],[.str [34]],[.str [10]],[.str [97]],[.str [44]],[.str [61]]] from rfl]at d2;unfold cuR at *;clear hb plain hx;refine zM func99 rfl (by kernel_rfl) ?_;unfold Tryz.f99;simp (maxSteps:=1000000) (disch:=(try simp only[LL]);omega) only[↓GO,↓DRW,GA,GX,ren,zk,za,refs,z8,cst,zo,isC,bin,una,z7,zd,blt,asArg,zg,zc,zf,z6,zr,unN,ze,zm,zb,GS,simprocAttr,zH,zI,yU,yN,yQ,yP,yV,gh1,yM,yC,yG,zU,mkO,yw,yp,yq,mvC,unO,y7,yT,yO,yK,zO,yL,yJ,y9,oc,oTs,oT,zT,zT.rowTs,yF,isL,E.BX,GZ,d0,d1,d2,f1,f2,f3,zi,zA]
   all_goals (repeat (refine zR (by kernel_rfl) ?_))
   all_goals (first|rfl|(simp (maxSteps:=1000000) (disch:=(try simp only[LL]);omega) only[↓GO,↓DRW,GA,GX,ren,zk,za,refs,z8,cst,zo,isC,bin,una,z7,zd,blt,asArg,zg,zc,zf,z6,zr,unN,ze,zm,zb,GS,simprocAttr,zH,zI,yU,yN,yQ,yP,yV,gh1,yM,yC,yG,zU,mkO,yw,yp,yq,mvC,unO,y7,yT,yO,yK,zO,yL,yJ,y9,oc,oTs,oT,zT,zT.rowTs,yF,isL,E.BX,GZ,d0,d1,d2,f1,f2,f3,zi,zA]))
 by_cases h2:k=2
 · cases c4:decide ((i:Int)<(s.length:Int)) with
   | false=>exact plain h0 h1 fun _=>c4
   | true =>
    subst h2;have h4:=of_decide_eq_true c4;obtain⟨x,c3,hx,hc3,d2⟩:=vD bs hb c2 hc2 R6 6 rfl (by decide) (by decide) (some 6);have hxl:=ny (n:=1) (l:=R6) (by decide) hx;have l3:(s.take i).length+(s.drop (i+1)).length+1=s.length:=by rw[List.length_take,List.length_drop];omega
    refine⟨s.take i++x++s.drop (i+1),c3,by simp only[List.length_append];omega,hc3,?_⟩;have f1:(s.take i).length+x.length≤9223372036854775807:=by omega
    have f2:(s.take i++x).length+(s.drop (i+1)).length≤9223372036854775807:=by simp only[List.length_append];omega
    have f3:(s.take i).length+x.length+(s.drop (i+1)).length≤9223372036854775807:=by omega
    have f0:i+1≤s.length:=by omega
    rw[show strs R6=[[.str [48]],[.str [65]],[.str [0]],[.str [57]],[.str [93]],[.str [92]]] from rfl]at d2;unfold cuR at *;clear hb plain hx;refine zM func99 rfl (by kernel_rfl) ?_;unfold Tryz.f99;simp (maxSteps:=1000000) (disch:=(try simp only[LL]);omega) only[↓GO,↓DRW,GA,GX,ren,zk,za,refs,z8,cst,zo,isC,bin,una,z7,zd,blt,asArg,zg,zc,zf,z6,zr,unN,ze,zm,zb,GS,simprocAttr,zH,zI,yU,yN,yQ,yP,yV,gh1,yM,yC,yG,zU,mkO,yw,yp,yq,mvC,unO,y7,yT,yO,yK,zO,yL,yJ,y9,oc,oTs,oT,zT,zT.rowTs,yF,isL,E.BX,GZ,d0,d1,d2,c4,f1,f2,f3,zi,zA]
    all_goals (repeat (refine zR (by kernel_rfl) ?_))
    all_goals (first|rfl|(simp (maxSteps:=1000000) (disch:=(try simp only[LL]);omega) only[↓GO,↓DRW,GA,GX,ren,zk,za,refs,z8,cst,zo,isC,bin,una,z7,zd,blt,asArg,zg,zc,zf,z6,zr,unN,ze,zm,zb,GS,simprocAttr,zH,zI,yU,yN,yQ,yP,yV,gh1,yM,yC,yG,zU,mkO,yw,yp,yq,mvC,unO,y7,yT,yO,yK,zO,yL,yJ,y9,oc,oTs,oT,zT,zT.rowTs,yF,isL,E.BX,GZ,d0,d1,d2,c4,f1,f2,f3,zi,zA]))
 exact plain h0 h1 fun h=>absurd h h2
theorem Px (bs:List Int)(hb:okB bs)(n:Nat)(hn:n≤6):∀ (m i:Nat) (c:Cs) (ks:List Str) (cap:Option Nat),cok bs c→n=i+m→ks.length≤i→(∀ s∈ks,s.length≤301)→∃ (ks':List Str) (cap':Option Nat) (c':Cs),cok bs c'∧ks'.length≤n∧(∀ s∈ks',s.length≤301) ∧
 EV prog pol (.loop 108 122 1 [.ptr 0 0 0,.sl 1 0 ks.length cap,.t (.int .i64 (n:Int)),.t (.int .i64 (i:Int))] [cuR bs c,.ts 1 (strs ks)])
  = some (.loop (.exit 0) [.sl 1 0 ks'.length cap'] [cuR bs c',.ts 1 (strs ks')])
 | 0,i,c,ks,cap,hc,hi,hl,hs=>by
  have c0:decide ((i:Int)<(n:Int))=false:=by apply decide_eq_false;omega
  refine⟨ks,cap,c,hc,by omega,hs,?_⟩;unfold cuR;clear hb hc hs;generalize strs ks=E0 at *;refine zj func108 rfl rfl ?_;simp (maxSteps:=1000000) (disch:=(try simp only[LL]);omega) only[↓GO,↓DRW,GA,GX,ren,zk,za,refs,z8,cst,zo,isC,bin,una,z7,zd,blt,asArg,zg,zc,zf,z6,zr,unN,ze,zm,zb,GS,simprocAttr,zH,zI,yU,yN,yQ,yP,yV,gh1,yM,yC,yG,zU,mkO,yw,yp,yq,mvC,unO,y7,yT,yO,yK,zO,yL,yJ,y9,oc,oTs,oT,zT,zT.rowTs,yF,isL,E.BX,GZ,c0,zA]
 | m + 1, i, c, ks, cap, hc, hi, hl, hs => by
  have c0:decide ((i:Int)<(n:Int))=true:=by apply decide_eq_true;omega
  obtain⟨v,c1,hv,hc1,d1⟩:=nN bs hb c hc;obtain⟨s,c2,hsl,hc2,d2⟩:=Sv bs hb c1 hc1 v (by omega);obtain⟨ks',cap',c',q0,q1,q2,IH⟩:=Px bs hb n hn m (i+1) c2 (ks++[s]) none hc2 (by omega) (by simp;omega) (fun x hx=>by
   simp only[List.mem_append,List.mem_singleton]at hx;rcases hx with hx|rfl
   · exact hs x hx
   · omega)
  refine⟨ks',cap',c',q0,q1,q2,?_⟩;rw[show ((i+1:Nat):Int)=(i:Int)+1 by omega,show strs (ks++[s])=strs ks++[[.str s]] by simp[strs],List.length_append,List.length_singleton]at IH;have hT:=zn ks;have hi8:i<8:=by omega
  have hk8:ks.length<8:=by omega
  unfold cuR at *;clear hb hc hs q1 q2;generalize strs ks=E0 at *;refine zj func108 rfl rfl ?_;simp (maxSteps:=1000000) (disch:=(try simp only[LL]);omega) only[↓GO,↓DRW,GA,GX,ren,zk,za,refs,z8,cst,zo,isC,bin,una,z7,zd,blt,asArg,zg,zc,zf,z6,zr,unN,ze,zm,zb,GS,simprocAttr,zH,zI,yU,yN,yQ,yP,yV,gh1,yM,yC,yG,zU,mkO,yw,yp,yq,mvC,unO,y7,yT,yO,yK,zO,yL,yJ,y9,oc,oTs,oT,zT,zT.rowTs,yF,isL,E.BX,GZ,c0,d1,d2,hT,zi,yf,zA,IH]
theorem OK (bs:List Int)(hb:okB bs)(c:Cs)(hc:cok bs c):∃ (ks:List Str) (c':Cs),cok bs c'∧ks.length≤6∧(∀ s∈ks,s.length≤301) ∧
 EV prog pol (.callO true 108 [.ptr 0 0 0] [cuR bs c])=some (.call (.t (.list 1 (strs ks))) [cuR bs c']):=by
 obtain⟨n,c1,hn,hc1,d0⟩:=uq bs hb c hc 6 (by decide) (by decide);simp only[Int.cast_ofNat_Int]at d0;obtain⟨ks,cap,c',q0,q1,q2,L⟩:=Px bs hb n (by omega) n 0 c1 [] (some 0) hc1 (by omega) (by simp) (by simp);refine⟨ks,c',q0,by omega,q2,?_⟩;have hT:=zn ks;have hT2:(strs ks).take ks.length=strs ks:=List.take_of_length_le (by omega);simp only[List.length_nil,Int.natCast_zero,show strs []=[] from rfl]at L;unfold cuR at *;clear hb hc q2;generalize strs ks=E0 at *;refine zM func108 rfl (by kernel_rfl) ?_;unfold Tryz.f108;simp (maxSteps:=1000000) (disch:=(try simp only[LL]);omega) only[↓GO,↓DRW,GA,GX,ren,zk,za,refs,z8,cst,zo,isC,bin,una,z7,zd,blt,asArg,zg,zc,zf,z6,zr,unN,ze,zm,zb,GS,simprocAttr,zH,zI,yU,yN,yQ,yP,yV,gh1,yM,yC,yG,zU,mkO,yw,yp,yq,mvC,unO,y7,yT,yO,yK,zO,yL,yJ,y9,oc,oTs,oT,zT,zT.rowTs,yF,isL,E.BX,GZ,d0,L,hT2,List.drop_zero,zA]
def N4:List Str:=[[49],[49,46,50],[48],[48,46,48],[60,50,46,48,46,48],[48,49],[49,46],[57,57,57,57,57,57,57,57,57],[94,57,57,57,57,57,57,57,57,57,46,48,46,48]]
theorem vT {α:Type}{a b:Nat}{x y:α}(h:a≤b):(if a≤b then x else y)=x:=if_pos h
theorem SZ (bs:List Int)(hb:okB bs)(n:Nat)(hn:n≤9):∀ (m i:Nat) (c:Cs) (o:Str),cok bs c→n=i+m→o.length≤700*i→∃ (o':Str) (c':Cs),cok bs c'∧o'.length≤6300 ∧
 EV prog pol (.loop 100 250 1 [.ptr 0 0 0,.t (.str o),.t (.int .i64 (n:Int)),.t (.int .i64 (i:Int))] [cuR bs c])
  = some (.loop (.exit 0) [.t (.str o')] [cuR bs c'])
 | 0,i,c,o,hc,hi,hl=>by
  have c0:decide ((i:Int)<(n:Int))=false:=by apply decide_eq_false;omega
  refine⟨o,c,hc,by omega,?_⟩;unfold cuR;clear hb hc;refine zj func100 rfl rfl ?_;simp (maxSteps:=1000000) (disch:=(try simp only[LL]);omega) only[↓GO,↓DRW,GA,GX,ren,zk,za,refs,z8,cst,zo,isC,bin,una,z7,zd,blt,asArg,zg,zc,zf,z6,zr,unN,ze,zm,zb,GS,simprocAttr,zH,zI,yU,yN,yQ,yP,yV,gh1,yM,yC,yG,zU,mkO,yw,yp,yq,mvC,unO,y7,yT,yO,yK,zO,yL,yJ,y9,oc,oTs,oT,zT,zT.rowTs,yF,isL,E.BX,GZ,c0,zA]
 | m + 1, i, c, o, hc, hi, hl => by
  have c0:decide ((i:Int)<(n:Int))=true:=by apply decide_eq_true;omega
  have hi8:i<9:=by omega
  obtain⟨p,hp,hpl⟩:∃ p:Str,p=cond (decide ((i:Int) > 0)) (o++[32,124,124,32]) o∧p.length≤700*i+4:=⟨_,rfl,by cases decide ((i:Int) > 0)<;>simp<;>omega⟩;have main:∀ (x:Str) (cn:Cs),cok bs cn→x.length≤690→(∀ R,EV prog pol (.loop 100 250 1 [.ptr 0 0 0,.t (.str (p++x)),.t (.int .i64 (n:Int)),.t (.int .i64 ((i:Int)+1))] [cuR bs cn])=some R→EV prog pol (.loop 100 250 1 [.ptr 0 0 0,.t (.str o),.t (.int .i64 (n:Int)),.t (.int .i64 (i:Int))] [cuR bs c])=some R)→∃ (o':Str) (c':Cs),cok bs c'∧o'.length≤6300 ∧
   EV prog pol (.loop 100 250 1 [.ptr 0 0 0,.t (.str o),.t (.int .i64 (n:Int)),.t (.int .i64 (i:Int))] [cuR bs c])
    = some (.loop (.exit 0) [.t (.str o')] [cuR bs c']):=fun x cn hcn hx hR=>by
   obtain⟨o',c',q0,q1,IH⟩:=SZ bs hb n hn m (i+1) cn (p++x) hcn (by omega) (by rw[List.length_append];omega);rw[show ((i+1:Nat):Int)=(i:Int)+1 by omega]at IH;exact⟨o',c',q0,q1,hR _ IH⟩
  obtain⟨k,c1,hk,hc1,d1⟩:=uq bs hb c hc 8 (by decide) (by decide);simp only[Int.cast_ofNat_Int]at d1;obtain⟨v,c2,hv,hc2,d2⟩:=nN bs hb c1 hc1;obtain⟨w,c3,hw,hc3,d3⟩:=nN bs hb c2 hc2;obtain⟨x,c4,hx,hc4,d4⟩:=vD bs hb c1 hc1 N4 9 rfl (by decide) (by decide) (some 9);have hxl:=ny (n:=14) (l:=N4) (by decide) hx;rw[show strs N4=[[.str [49]],[.str [49,46,50]],[.str [48]],[.str [48,46,48]],[.str [60,50,46,48,46,48]],[.str [48,49]],[.str [49,46]],[.str [57,57,57,57,57,57,57,57,57]],[.str [94,57,57,57,57,57,57,57,57,57,46,48,46,48]]] from rfl]at d4;have fl:∀ y:Str,y.length≤1000→p.length+y.length≤9223372036854775807:=fun y hy=>by omega
  have g1:o.length≤7000:=by omega
  have g2:p.length≤7000:=by omega
  cases hz:decide ((i:Int) > 0) with
  | false =>
   rw[hz,cond_false]at hp;subst hp
   by_cases k0:k=0
   · subst k0;refine main [42] c1 hc1 (by decide) fun R e=>?_
     unfold cuR at *;clear hb main;refine zj func100 rfl rfl ?_;simp (maxSteps:=1000000) (disch:=(try simp only[LL]);omega) only[↓GO,↓DRW,GA,GX,ren,zk,za,refs,z8,cst,zo,isC,bin,una,z7,zd,blt,asArg,zg,zc,zf,z6,zr,unN,ze,zm,zb,GS,simprocAttr,zH,zI,yU,yN,yQ,yP,yV,gh1,yM,yC,yG,zU,mkO,yw,yp,yq,mvC,unO,y7,yT,yO,yK,zO,yL,yJ,y9,oc,oTs,oT,zT,zT.rowTs,yF,isL,E.BX,GZ,c0,d1,hz,zi,zA,vT,Option.map_some,if_true,e]
   by_cases k1:k=1
   · subst k1;refine main ([94]++v) c2 hc2 (by simp;omega) fun R e=>?_
     rw[← List.append_assoc]at e;unfold cuR at *;clear hb main;refine zj func100 rfl rfl ?_;simp (maxSteps:=1000000) (disch:=(try simp only[LL]);omega) only[↓GO,↓DRW,GA,GX,ren,zk,za,refs,z8,cst,zo,isC,bin,una,z7,zd,blt,asArg,zg,zc,zf,z6,zr,unN,ze,zm,zb,GS,simprocAttr,zH,zI,yU,yN,yQ,yP,yV,gh1,yM,yC,yG,zU,mkO,yw,yp,yq,mvC,unO,y7,yT,yO,yK,zO,yL,yJ,y9,oc,oTs,oT,zT,zT.rowTs,yF,isL,E.BX,GZ,c0,d1,d2,hz,zi,zA,vT,Option.map_some,if_true,e,List.length_append,List.length_cons,List.length_nil]
   by_cases k2:k=2
   · subst k2;refine main ([126]++v) c2 hc2 (by simp;omega) fun R e=>?_
     rw[← List.append_assoc]at e;unfold cuR at *;clear hb main;refine zj func100 rfl rfl ?_;simp (maxSteps:=1000000) (disch:=(try simp only[LL]);omega) only[↓GO,↓DRW,GA,GX,ren,zk,za,refs,z8,cst,zo,isC,bin,una,z7,zd,blt,asArg,zg,zc,zf,z6,zr,unN,ze,zm,zb,GS,simprocAttr,zH,zI,yU,yN,yQ,yP,yV,gh1,yM,yC,yG,zU,mkO,yw,yp,yq,mvC,unO,y7,yT,yO,yK,zO,yL,yJ,y9,oc,oTs,oT,zT,zT.rowTs,yF,isL,E.BX,GZ,c0,d1,d2,hz,zi,zA,vT,Option.map_some,if_true,e,List.length_append,List.length_cons,List.length_nil]
   by_cases k3:k=3
   · subst k3;refine main ([62,61]++v) c2 hc2 (by simp;omega) fun R e=>?_
     rw[← List.append_assoc]at e;unfold cuR at *;clear hb main;refine zj func100 rfl rfl ?_;simp (maxSteps:=1000000) (disch:=(try simp only[LL]);omega) only[↓GO,↓DRW,GA,GX,ren,zk,za,refs,z8,cst,zo,isC,bin,una,z7,zd,blt,asArg,zg,zc,zf,z6,zr,unN,ze,zm,zb,GS,simprocAttr,zH,zI,yU,yN,yQ,yP,yV,gh1,yM,yC,yG,zU,mkO,yw,yp,yq,mvC,unO,y7,yT,yO,yK,zO,yL,yJ,y9,oc,oTs,oT,zT,zT.rowTs,yF,isL,E.BX,GZ,c0,d1,d2,hz,zi,zA,vT,Option.map_some,if_true,e,List.length_append,List.length_cons,List.length_nil]
   by_cases k4:k=4
   · subst k4;refine main ([62,61]++v++[32,60]++w) c3 hc3 (by simp;omega) fun R e=>?_
     rw[← List.append_assoc,← List.append_assoc,← List.append_assoc]at e;unfold cuR at *;clear hb main;refine zj func100 rfl rfl ?_;simp (maxSteps:=1000000) (disch:=(try simp only[LL]);omega) only[↓GO,↓DRW,GA,GX,ren,zk,za,refs,z8,cst,zo,isC,bin,una,z7,zd,blt,asArg,zg,zc,zf,z6,zr,unN,ze,zm,zb,GS,simprocAttr,zH,zI,yU,yN,yQ,yP,yV,gh1,yM,yC,yG,zU,mkO,yw,yp,yq,mvC,unO,y7,yT,yO,yK,zO,yL,yJ,y9,oc,oTs,oT,zT,zT.rowTs,yF,isL,E.BX,GZ,c0,d1,d2,d3,hz,zi,zA,vT,Option.map_some,if_true,e,List.length_append,List.length_cons,List.length_nil]
   by_cases k5:k=5
   · subst k5;refine main x c4 hc4 (by omega) fun R e=>?_
     unfold cuR at *;clear hb main hx;refine zj func100 rfl rfl ?_;simp (maxSteps:=1000000) (disch:=(try simp only[LL]);omega) only[↓GO,↓DRW,GA,GX,ren,zk,za,refs,z8,cst,zo,isC,bin,una,z7,zd,blt,asArg,zg,zc,zf,z6,zr,unN,ze,zm,zb,GS,simprocAttr,zH,zI,yU,yN,yQ,yP,yV,gh1,yM,yC,yG,zU,mkO,yw,yp,yq,mvC,unO,y7,yT,yO,yK,zO,yL,yJ,y9,oc,oTs,oT,zT,zT.rowTs,yF,isL,E.BX,GZ,c0,d1,d4,hz,zi,zA,vT,Option.map_some,if_true,e,List.length_append,List.length_cons,List.length_nil]
   have q0:((k:Int)==0)=false:=by rw[beq_eq_false_iff_ne];omega
   have q1:((k:Int)==1)=false:=by rw[beq_eq_false_iff_ne];omega
   have q2:((k:Int)==2)=false:=by rw[beq_eq_false_iff_ne];omega
   have q3:((k:Int)==3)=false:=by rw[beq_eq_false_iff_ne];omega
   have q4:((k:Int)==4)=false:=by rw[beq_eq_false_iff_ne];omega
   have q5:((k:Int)==5)=false:=by rw[beq_eq_false_iff_ne];omega
   refine main v c2 hc2 (by omega) fun R e=>?_
   unfold cuR at *;clear hb main;refine zj func100 rfl rfl ?_;simp (maxSteps:=1000000) (disch:=(try simp only[LL]);omega) only[↓GO,↓DRW,GA,GX,ren,zk,za,refs,z8,cst,zo,isC,bin,una,z7,zd,blt,asArg,zg,zc,zf,z6,zr,unN,ze,zm,zb,GS,simprocAttr,zH,zI,yU,yN,yQ,yP,yV,gh1,yM,yC,yG,zU,mkO,yw,yp,yq,mvC,unO,y7,yT,yO,yK,zO,yL,yJ,y9,oc,oTs,oT,zT,zT.rowTs,yF,isL,E.BX,GZ,c0,d1,d2,q0,q1,q2,q3,q4,q5,hz,zi,zA,vT,Option.map_some,if_true,e,List.length_append,List.length_cons,List.length_nil]
  | true =>
   rw[hz,cond_true]at hp;have hpo:o.length+4=p.length:=by rw[hp];simp
   have hpe:o++[32,124,124,32]=p:=hp.symm
   by_cases k0:k=0
   · subst k0;refine main [42] c1 hc1 (by decide) fun R e=>?_
     unfold cuR at *;clear hb main hp;refine zj func100 rfl rfl ?_;simp (maxSteps:=1000000) (disch:=(try simp only[LL]);omega) only[↓GO,↓DRW,GA,GX,ren,zk,za,refs,z8,cst,zo,isC,bin,una,z7,zd,blt,asArg,zg,zc,zf,z6,zr,unN,ze,zm,zb,GS,simprocAttr,zH,zI,yU,yN,yQ,yP,yV,gh1,yM,yC,yG,zU,mkO,yw,yp,yq,mvC,unO,y7,yT,yO,yK,zO,yL,yJ,y9,oc,oTs,oT,zT,zT.rowTs,yF,isL,E.BX,GZ,c0,d1,hz,hpe,zi,zA,vT,Option.map_some,if_true,e]
   by_cases k1:k=1
   · subst k1;refine main ([94]++v) c2 hc2 (by simp;omega) fun R e=>?_
     rw[← List.append_assoc]at e;unfold cuR at *;clear hb main hp;refine zj func100 rfl rfl ?_;simp (maxSteps:=1000000) (disch:=(try simp only[LL]);omega) only[↓GO,↓DRW,GA,GX,ren,zk,za,refs,z8,cst,zo,isC,bin,una,z7,zd,blt,asArg,zg,zc,zf,z6,zr,unN,ze,zm,zb,GS,simprocAttr,zH,zI,yU,yN,yQ,yP,yV,gh1,yM,yC,yG,zU,mkO,yw,yp,yq,mvC,unO,y7,yT,yO,yK,zO,yL,yJ,y9,oc,oTs,oT,zT,zT.rowTs,yF,isL,E.BX,GZ,c0,d1,d2,hz,hpe,zi,zA,vT,Option.map_some,if_true,e,List.length_append,List.length_cons,List.length_nil]
   by_cases k2:k=2
   · subst k2;refine main ([126]++v) c2 hc2 (by simp;omega) fun R e=>?_
     rw[← List.append_assoc]at e;unfold cuR at *;clear hb main hp;refine zj func100 rfl rfl ?_;simp (maxSteps:=1000000) (disch:=(try simp only[LL]);omega) only[↓GO,↓DRW,GA,GX,ren,zk,za,refs,z8,cst,zo,isC,bin,una,z7,zd,blt,asArg,zg,zc,zf,z6,zr,unN,ze,zm,zb,GS,simprocAttr,zH,zI,yU,yN,yQ,yP,yV,gh1,yM,yC,yG,zU,mkO,yw,yp,yq,mvC,unO,y7,yT,yO,yK,zO,yL,yJ,y9,oc,oTs,oT,zT,zT.rowTs,yF,isL,E.BX,GZ,c0,d1,d2,hz,hpe,zi,zA,vT,Option.map_some,if_true,e,List.length_append,List.length_cons,List.length_nil]
   by_cases k3:k=3
   · subst k3;refine main ([62,61]++v) c2 hc2 (by simp;omega) fun R e=>?_
     rw[← List.append_assoc]at e;unfold cuR at *;clear hb main hp;refine zj func100 rfl rfl ?_;simp (maxSteps:=1000000) (disch:=(try simp only[LL]);omega) only[↓GO,↓DRW,GA,GX,ren,zk,za,refs,z8,cst,zo,isC,bin,una,z7,zd,blt,asArg,zg,zc,zf,z6,zr,unN,ze,zm,zb,GS,simprocAttr,zH,zI,yU,yN,yQ,yP,yV,gh1,yM,yC,yG,zU,mkO,yw,yp,yq,mvC,unO,y7,yT,yO,yK,zO,yL,yJ,y9,oc,oTs,oT,zT,zT.rowTs,yF,isL,E.BX,GZ,c0,d1,d2,hz,hpe,zi,zA,vT,Option.map_some,if_true,e,List.length_append,List.length_cons,List.length_nil]
   by_cases k4:k=4
   · subst k4;refine main ([62,61]++v++[32,60]++w) c3 hc3 (by simp;omega) fun R e=>?_
     rw[← List.append_assoc,← List.append_assoc,← List.append_assoc]at e;unfold cuR at *;clear hb main hp;refine zj func100 rfl rfl ?_;simp (maxSteps:=1000000) (disch:=(try simp only[LL]);omega) only[↓GO,↓DRW,GA,GX,ren,zk,za,refs,z8,cst,zo,isC,bin,una,z7,zd,blt,asArg,zg,zc,zf,z6,zr,unN,ze,zm,zb,GS,simprocAttr,zH,zI,yU,yN,yQ,yP,yV,gh1,yM,yC,yG,zU,mkO,yw,yp,yq,mvC,unO,y7,yT,yO,yK,zO,yL,yJ,y9,oc,oTs,oT,zT,zT.rowTs,yF,isL,E.BX,GZ,c0,d1,d2,d3,hz,hpe,zi,zA,vT,Option.map_some,if_true,e,List.length_append,List.length_cons,List.length_nil]
   by_cases k5:k=5
   · subst k5;refine main x c4 hc4 (by omega) fun R e=>?_
     unfold cuR at *;clear hb main hx hp;refine zj func100 rfl rfl ?_;simp (maxSteps:=1000000) (disch:=(try simp only[LL]);omega) only[↓GO,↓DRW,GA,GX,ren,zk,za,refs,z8,cst,zo,isC,bin,una,z7,zd,blt,asArg,zg,zc,zf,z6,zr,unN,ze,zm,zb,GS,simprocAttr,zH,zI,yU,yN,yQ,yP,yV,gh1,yM,yC,yG,zU,mkO,yw,yp,yq,mvC,unO,y7,yT,yO,yK,zO,yL,yJ,y9,oc,oTs,oT,zT,zT.rowTs,yF,isL,E.BX,GZ,c0,d1,d4,hz,hpe,zi,zA,vT,Option.map_some,if_true,e,List.length_append,List.length_cons,List.length_nil]
   have q0:((k:Int)==0)=false:=by rw[beq_eq_false_iff_ne];omega
   have q1:((k:Int)==1)=false:=by rw[beq_eq_false_iff_ne];omega
   have q2:((k:Int)==2)=false:=by rw[beq_eq_false_iff_ne];omega
   have q3:((k:Int)==3)=false:=by rw[beq_eq_false_iff_ne];omega
   have q4:((k:Int)==4)=false:=by rw[beq_eq_false_iff_ne];omega
   have q5:((k:Int)==5)=false:=by rw[beq_eq_false_iff_ne];omega
   refine main v c2 hc2 (by omega) fun R e=>?_
   unfold cuR at *;clear hb main hp;refine zj func100 rfl rfl ?_;simp (maxSteps:=1000000) (disch:=(try simp only[LL]);omega) only[↓GO,↓DRW,GA,GX,ren,zk,za,refs,z8,cst,zo,isC,bin,una,z7,zd,blt,asArg,zg,zc,zf,z6,zr,unN,ze,zm,zb,GS,simprocAttr,zH,zI,yU,yN,yQ,yP,yV,gh1,yM,yC,yG,zU,mkO,yw,yp,yq,mvC,unO,y7,yT,yO,yK,zO,yL,yJ,y9,oc,oTs,oT,zT,zT.rowTs,yF,isL,E.BX,GZ,c0,d1,d2,q0,q1,q2,q3,q4,q5,hz,hpe,zi,zA,vT,Option.map_some,if_true,e,List.length_append,List.length_cons,List.length_nil]
theorem PU (bs:List Int)(hb:okB bs)(c:Cs)(hc:cok bs c):∃ (t:Str) (c':Cs),t.length≤6300∧cok bs c' ∧
 EV prog pol (.callO false 100 [.ptr 0 0 0] [cuR bs c])=some (.call (.t (.str t)) [cuR bs c']):=by
 obtain⟨k,c1,hk,hc1,d0⟩:=uq bs hb c hc 3 (by decide) (by decide);obtain⟨b,c2,hc2,d1⟩:=ua bs hb c1 hc1 16 (by decide) (by decide);simp only[Int.cast_ofNat_Int]at d0 d1
 cases b with
 | false =>
  obtain⟨t,c',q0,q1,L⟩:=SZ bs hb (1+k) (by omega) (1+k) 0 c2 [] hc2 (by omega) (by simp);refine⟨t,c',q1,q0,?_⟩;rw[show ((1+k:Nat):Int)=1+(k:Int) by omega]at L;simp only[Int.natCast_zero]at L;unfold cuR at *;clear hb;refine zM func100 rfl (by kernel_rfl) ?_;unfold Tryz.f100;simp (maxSteps:=1000000) (disch:=(try simp only[LL]);omega) only[↓GO,↓DRW,GA,GX,ren,zk,za,refs,z8,cst,zo,isC,bin,una,z7,zd,blt,asArg,zg,zc,zf,z6,zr,unN,ze,zm,zb,GS,simprocAttr,zH,zI,yU,yN,yQ,yP,yV,gh1,yM,yC,yG,zU,mkO,yw,yp,yq,mvC,unO,y7,yT,yO,yK,zO,yL,yJ,y9,oc,oTs,oT,zT,zT.rowTs,yF,isL,E.BX,GZ,d0,d1,L,zi,zA]
 | true =>
  obtain⟨j,c3,hj,hc3,d2⟩:=uq bs hb c2 hc2 2 (by decide) (by decide);simp only[Int.cast_ofNat_Int]at d2;obtain⟨t,c',q0,q1,L⟩:=SZ bs hb (8+j) (by omega) (8+j) 0 c3 [] hc3 (by omega) (by simp);refine⟨t,c',q1,q0,?_⟩;rw[show ((8+j:Nat):Int)=8+(j:Int) by omega]at L;simp only[Int.natCast_zero]at L;unfold cuR at *;clear hb;refine zM func100 rfl (by kernel_rfl) ?_;unfold Tryz.f100;simp (maxSteps:=1000000) (disch:=(try simp only[LL]);omega) only[↓GO,↓DRW,GA,GX,ren,zk,za,refs,z8,cst,zo,isC,bin,una,z7,zd,blt,asArg,zg,zc,zf,z6,zr,unN,ze,zm,zb,GS,simprocAttr,zH,zI,yU,yN,yQ,yP,yV,gh1,yM,yC,yG,zU,mkO,yw,yp,yq,mvC,unO,y7,yT,yO,yK,zO,yL,yJ,y9,oc,oTs,oT,zT,zT.rowTs,yF,isL,E.BX,GZ,d0,d1,d2,L,zi,zA]
theorem TG (k:Str):(xx k).1.length≤k.length:=by
 unfold xx
 cases h:o9 64 k k.length with
 | none=>simp
 | some n=>simp only[List.length_take];omega
def smN (n:zu):Prop:=n.zX≤80000
theorem ZK (l:List zu)(x:zu):zu.zC (l++[x])=zu.zC l++[[.str x.name,.str x.range,.str x.text]]:=by simp[zu.zC,zu.enc]
theorem S8 (bs:List Int)(hb:okB bs)(g:zB)(hg:GSm g)(n:Nat)(hn:n≤3):∀ (m i:Nat) (c:Cs) (ns:List zu) (cap:Option Nat),cok bs c→n=i+m→ns.length≤i→(∀ x∈ns,smN x)→∃ (ns':List zu) (cap':Option Nat) (c':Cs),cok bs c'∧ns'.length≤n∧(∀ x∈ns',smN x) ∧
 EV prog pol (.loop 101 122 1 [.ptr 0 0 0,.ptr 1 0 0,.sl 2 0 ns.length cap,.t (.int .i64 (n:Int)),.t (.int .i64 (i:Int))] [cuR bs c,.vs 2 [g.enc.map .t],.ts 3 (zu.zC ns)])
  = some (.loop (.exit 0) [.sl 1 0 ns'.length cap'] [cuR bs c',.ts 3 (zu.zC ns')])
 | 0,i,c,ns,cap,hc,hi,hl,hs=>by
  have c0:decide ((i:Int)<(n:Int))=false:=by apply decide_eq_false;omega
  refine⟨ns,cap,c,hc,by omega,hs,?_⟩;simp only[zB.enc,List.map_cons,List.map_nil];unfold cuR;clear hb hc hs hg;generalize zu.zC ns=E0 at *;refine zj func101 rfl rfl ?_;simp (maxSteps:=1000000) (disch:=(try simp only[LL]);omega) only[↓GO,↓DRW,GA,GX,ren,zk,za,refs,z8,cst,zo,isC,bin,una,z7,zd,blt,asArg,zg,zc,zf,z6,zr,unN,ze,zm,zb,GS,simprocAttr,zH,zI,yU,yN,yQ,yP,yV,gh1,yM,yC,yG,zU,mkO,yw,yp,yq,mvC,unO,y7,yT,yO,yK,zO,yL,yJ,y9,oc,oTs,oT,zT,zT.rowTs,yF,isL,E.BX,GZ,c0,zA]
 | m + 1, i, c, ns, cap, hc, hi, hl, hs => by
  have c0:decide ((i:Int)<(n:Int))=true:=by apply decide_eq_true;omega
  obtain⟨s,c1,hsl,hc1,d1⟩:=W8 bs hb c hc g hg;have d2:=R2 s (by omega);have hkl:=TG s;obtain⟨r,c2,hr,hc2,d3⟩:=PU bs hb c1 hc1;obtain⟨x,c3,hx,hc3,d4⟩:=vD bs hb c2 hc2 [[67,86,69,45,49],[67,86,69,45,50],[],[97,32,98]] 4 rfl (by decide) (by decide) (some 4);have hxl:=ny (n:=5) (by decide) hx;simp only[strs,List.map_cons,List.map_nil]at d4;obtain⟨ns',cap',c',q0,q1,q2,IH⟩:=S8 bs hb g hg n hn m (i+1) c3 (ns++[⟨(xx s).1,r,x⟩]) none hc3 (by omega) (by simp;omega) (fun y hy=>by
   simp only[List.mem_append,List.mem_singleton]at hy;rcases hy with hy|rfl
   · exact hs y hy
   · unfold smN zu.zX;simp only;omega)
  refine⟨ns',cap',c',q0,q1,q2,?_⟩;rw[show ((i+1:Nat):Int)=(i:Int)+1 by omega,ZK,List.length_append,List.length_singleton]at IH;have hT:=zu.zF ns;have hi8:i<8:=by omega
  have hk8:ns.length<8:=by omega
  simp only[zB.enc,List.map_cons,List.map_nil]at d1 IH ⊢;unfold cuR at *;clear hb hc hs q1 q2 hg hx;generalize (xx s).1=nm at *;generalize (xx s).2=vr at *;generalize zu.zC ns=E0 at *;refine zj func101 rfl rfl ?_;simp (maxSteps:=1000000) (disch:=(try simp only[LL]);omega) only[↓GO,↓DRW,GA,GX,ren,zk,za,refs,z8,cst,zo,isC,bin,una,z7,zd,blt,asArg,zg,zc,zf,z6,zr,unN,ze,zm,zb,GS,simprocAttr,zH,zI,yU,yN,yQ,yP,yV,gh1,yM,yC,yG,zU,mkO,yw,yp,yq,mvC,unO,y7,yT,yO,yK,zO,yL,yJ,y9,oc,oTs,oT,zT,zT.rowTs,yF,isL,E.BX,GZ,c0,d1,d2,d3,d4,hT,zi,yf,zA,IH]
theorem Wb (bs:List Int)(hb:okB bs)(c:Cs)(hc:cok bs c)(g:zB)(hg:GSm g):∃ (ns:List zu) (c':Cs),cok bs c'∧ns.length≤3∧(∀ x∈ns,smN x) ∧
 EV prog pol (.callO true 101 [.ptr 0 0 0,.agg (g.enc.map .t)] [cuR bs c])=some (.call (.t (.list 3 (zu.zC ns))) [cuR bs c']):=by
 obtain⟨n,c1,hn,hc1,d0⟩:=uq bs hb c hc 4 (by decide) (by decide);simp only[Int.cast_ofNat_Int]at d0;obtain⟨ns,cap,c',q0,q1,q2,L⟩:=S8 bs hb g hg n (by omega) n 0 c1 [] (some 0) hc1 (by omega) (by simp) (by simp);refine⟨ns,c',q0,by omega,q2,?_⟩;have hT:=zu.zF ns;have hT2:(zu.zC ns).take ns.length=zu.zC ns:=List.take_of_length_le (by omega);simp only[List.length_nil,Int.natCast_zero,show zu.zC []=[] from rfl,zB.enc,List.map_cons,List.map_nil]at L ⊢;unfold cuR at *;clear hb hc q2 hg;generalize zu.zC ns=E0 at *;refine zM func101 rfl (by kernel_rfl) ?_;unfold Tryz.f101;simp (maxSteps:=1000000) (disch:=(try simp only[LL]);omega) only[↓GO,↓DRW,GA,GX,ren,zk,za,refs,z8,cst,zo,isC,bin,una,z7,zd,blt,asArg,zg,zc,zf,z6,zr,unN,ze,zm,zb,GS,simprocAttr,zH,zI,yU,yN,yQ,yP,yV,gh1,yM,yC,yG,zU,mkO,yw,yp,yq,mvC,unO,y7,yT,yO,yK,zO,yL,yJ,y9,oc,oTs,oT,zT,zT.rowTs,yF,isL,E.BX,GZ,d0,L,hT2,List.drop_zero,zA]
theorem T8 (code:List Int)(hb:okB code):∃ n:zu,smN n∧zy (EV prog pol) 31 [.t (.list 1 (xl code))]=some (.agg (n.enc.map .t)):=by
 obtain⟨h,d0⟩:=R3 code hb;obtain⟨nm,c1,hn,hc1,d1⟩:=Yu code hb (0,h) (Nat.zero_le _);obtain⟨t,c2,ht,hc2,d2⟩:=Sv code hb c1 hc1 nm (by omega);obtain⟨r,c3,hr,hc3,d3⟩:=PU code hb c2 hc2;obtain⟨x,c4,hx,hc4,d4⟩:=vD code hb c3 hc3 [[67,86,69,45,49],[],[97,32,98]] 3 rfl (by decide) (by decide) (some 3);have hxl:=ny (n:=5) (by decide) hx;simp only[strs,List.map_cons,List.map_nil]at d4;refine⟨⟨t,r,x⟩,by unfold smN zu.zX;simp only;omega,?_⟩;unfold cuR at *;simp only[Int.natCast_zero,zu.enc,List.map_cons,List.map_nil]at d0 d1 ⊢;clear hb hx;apply zw;refine zx rfl func31 rfl (by kernel_rfl) ?_;unfold Tryz.f31;simp (maxSteps:=1000000) (disch:=(try simp only[LL]);omega) only[↓GO,↓DRW,GA,GX,ren,zk,za,refs,z8,cst,zo,isC,bin,una,z7,zd,blt,asArg,zg,zc,zf,z6,zr,unN,ze,zm,zb,GS,simprocAttr,zH,zI,yU,yN,yQ,yP,yV,gh1,yM,yC,yG,zU,mkO,yw,yp,yq,mvC,unO,y7,yT,yO,yK,zO,yL,yJ,y9,oc,oTs,oT,zT,zT.rowTs,yF,isL,E.BX,GZ,d0,d1,d2,d3,d4,zA]
theorem Z4 (code:List Int)(hb:okB code):∃ (g:zB) (ns:List zu),GSm g∧ns.length≤3∧(∀ x∈ns,smN x)∧zy (EV prog pol) 32 [.t (.list 1 (xl code))]=some (.tup [.agg (g.enc.map .t),.t (.list 3 (zu.zC ns))]):=by
 obtain⟨h,d0⟩:=R3 code hb;obtain⟨c1,g,hc1,hg,d1⟩:=O0 code hb (0,h) (Nat.zero_le _);obtain⟨ns,c2,hc2,hl,hs,d2⟩:=Wb code hb c1 hc1 g hg;refine⟨g,ns,hg,hl,hs,?_⟩;have hT:=zu.zF ns;have hT2:(zu.zC ns).take ns.length=zu.zC ns:=List.take_of_length_le (by omega);simp only[zB.enc,List.map_cons,List.map_nil]at d1 d2 ⊢;unfold cuR at *;simp only[Int.natCast_zero]at d0 d1;clear hb hg hs;generalize zu.zC ns=E0 at *;apply zw;refine zx rfl func32 rfl (by kernel_rfl) ?_;unfold Tryz.f32;simp (maxSteps:=1000000) (disch:=(try simp only[LL]);omega) only[↓GO,↓DRW,GA,GX,ren,zk,za,refs,z8,cst,zo,isC,bin,una,z7,zd,blt,asArg,zg,zc,zf,z6,zr,unN,ze,zm,zb,GS,simprocAttr,zH,zI,yU,yN,yQ,yP,yV,gh1,yM,yC,yG,zU,mkO,yw,yp,yq,mvC,unO,y7,yT,yO,yK,zO,yL,yJ,y9,oc,oTs,oT,zT,zT.rowTs,yF,isL,E.BX,GZ,d0,d1,d2,hT,hT2,zA]
 all_goals (repeat (refine zR (by kernel_rfl) ?_))
 all_goals (try rfl)
theorem Ta (code:List Int)(hb:okB code):∃ (g:zB) (ns:List zu),GSm g∧ns.length≤3∧(∀ x∈ns,smN x)∧zy (EV prog pol) 34 [.t (.list 1 (xl code))]=some (.tup [.agg (g.enc.map .t),.t (.list 3 (zu.zC ns))]):=by
 obtain⟨g,ns,hg,hl,hs,d⟩:=Z4 code hb;refine⟨g,ns,hg,hl,hs,?_⟩;simp only[zB.enc,List.map_cons,List.map_nil]at d ⊢;apply zw;refine zx rfl func34 rfl (by kernel_rfl) ?_;unfold Tryz.f34;simp (disch:=(try simp only[LL]);omega) only[↓GO,↓DRW,GA,GX,ren,zk,za,refs,z8,cst,zo,isC,bin,una,z7,zd,blt,asArg,zg,zc,zf,z6,zr,unN,ze,zm,zb,GS,simprocAttr,GZ,d,zA]
theorem T9 (code:List Int)(hb:okB code):∃ (g:zB) (ns:List zu) (name:Str) (vs:List Str),GSm g∧ns.length≤3∧(∀ x∈ns,smN x)∧name.length≤65600∧vs.length≤6∧(∀ s∈vs,s.length≤301) ∧
 zy (EV prog pol) 36 [.t (.list 1 (xl code))]=some (.tup [.agg (g.enc.map .t),.t (.list 3 (zu.zC ns)),.t (.str name),.t (.list 1 (strs vs))]):=by
 obtain⟨h,d0⟩:=R3 code hb;obtain⟨c1,g,hc1,hg,d1⟩:=O0 code hb (0,h) (Nat.zero_le _);obtain⟨ns,c2,hc2,hl,hs,d2⟩:=Wb code hb c1 hc1 g hg;obtain⟨k,c3,hkl,hc3,d3⟩:=W8 code hb c2 hc2 g hg;have d4:=R2 k (by omega);have hnl:=TG k;obtain⟨vs,c4,hc4,hvl,hvs,d5⟩:=OK code hb c3 hc3;refine⟨g,ns,(xx k).1,vs,hg,hl,hs,by omega,hvl,hvs,?_⟩;have hT:=zu.zF ns;have hT2:(zu.zC ns).take ns.length=zu.zC ns:=List.take_of_length_le (by omega);have hU:=zn vs;have hU2:(strs vs).take vs.length=strs vs:=List.take_of_length_le (by omega);simp only[zB.enc,List.map_cons,List.map_nil]at d1 d2 d3 ⊢;unfold cuR at *;simp only[Int.natCast_zero]at d0 d1;clear hb hg hs hvs;generalize (xx k).1=nm at *;generalize (xx k).2=vr at *;generalize zu.zC ns=E0 at *;generalize strs vs=E1 at *;apply zw;refine zx rfl func36 rfl (by kernel_rfl) ?_;unfold Tryz.f36;simp (maxSteps:=1000000) (disch:=(try simp only[LL]);omega) only[↓GO,↓DRW,GA,GX,ren,zk,za,refs,z8,cst,zo,isC,bin,una,z7,zd,blt,asArg,zg,zc,zf,z6,zr,unN,ze,zm,zb,GS,simprocAttr,zH,zI,yU,yN,yQ,yP,yV,gh1,yM,yC,yG,zU,mkO,yw,yp,yq,mvC,unO,y7,yT,yO,yK,zO,yL,yJ,y9,oc,oTs,oT,zT,zT.rowTs,yF,isL,E.BX,GZ,d0,d1,d2,d3,d4,d5,hT,hT2,hU,hU2,zA]
 all_goals (repeat (refine zR (by kernel_rfl) ?_))
 all_goals (try rfl)
def bdT (l:List Bd):List (List T):=l.map fun b=>[.str b.1,.str b.2]
theorem wH (l:List Bd):(bdT l).length=l.length:=by simp[bdT]
theorem Wj (a b:List Bd):bdT (a++b)=bdT a++bdT b:=by simp[bdT]
def bdV (b:Bd):V:=.agg [.t (.str b.1),.t (.str b.2)]
theorem TY (s:Str):(!(s==[])&&!(isV s)) = !(isE s):=by
 unfold isE
 cases (s==[])<;>cases isV s<;>rfl
theorem qR (s:Str)(hl:s.length≤1048700):zy (EV prog pol) 165 [.t (.str s)]=some (.t (.bool (isV s))):=by
 have h:=od s hl;unfold rvT at h;unfold isV;generalize (zq s).1=v at *;generalize (zq s).2=ok at *;simp only[Ver.enc,List.map_cons,List.map_nil]at h;apply zw;refine zx rfl func165 rfl (by kernel_rfl) ?_;unfold Tryz.f165;simp (disch:=(try simp only[LL]);omega) only[↓GO,↓DRW,GA,GX,ren,zk,za,refs,z8,cst,zo,isC,bin,una,z7,zd,blt,asArg,zg,zc,zf,z6,zr,unN,ze,zm,zb,GS,simprocAttr,GZ,h]
theorem S6 (l:List Bd)(hl:l.length≤4194304)(hb:∀ b∈l,b.1.length≤1048700∧b.2.length≤1048700):∀ (rest pre:List Bd),l=pre++rest →
 EV prog pol (.loop 170 26 0 [.t (.list 2 (bdT l)),.t (.list 2 (bdT l)),.t (.int .i64 (l.length:Int)),.t (.int .i64 (pre.length:Int))] [])=some (cond (rest.all fun b=>isE b.1&&isE b.2) (.loop (.exit 0) [.t (.list 2 (bdT l)),.bad] []) (.loop .ret [.t (.list 2 (bdT l)),.t (.bool false)] []))
 | [],pre,hs=>by
  have c:decide ((pre.length:Int)<(l.length:Int))=false:=by simp[hs]
  simp only[List.all_nil,cond_true];refine zj func170 rfl rfl ?_;simp (disch:=(try simp only[LL]);omega) only[↓GO,↓DRW,GA,GX,ren,zk,za,refs,z8,cst,zo,isC,bin,una,z7,zd,blt,asArg,zg,zc,zf,z6,zr,unN,ze,zm,zb,GS,simprocAttr,GZ,c]
 | x :: rest, pre, hs => by
  have c:decide ((pre.length:Int)<(l.length:Int))=true:=by simp[hs];omega
  have hget:(bdT l)[pre.length]? = some [.str x.1,.str x.2]:=by rw[hs];exact vN (fun b:Bd=>[T.str b.1,T.str b.2]) pre x rest
  have hlen:pre.length+rest.length+1≤l.length:=by rw[hs];simp;omega
  have hx:=hb x (by rw[hs];simp);have h1:=qR x.1 hx.1;have h2:=qR x.2 hx.2;have e1:=TY x.1;have e2:=TY x.2;have IH:=S6 l hl hb rest (pre++[x]) (by rw[hs];simp);rw[show ((pre++[x]).length:Int)=(pre.length:Int)+1 by simp]at IH;clear hs hb;rw[List.all_cons];generalize isE x.1=a1 at *;generalize isE x.2=a2 at *;generalize isV x.1=b1 at *;generalize isV x.2=b2 at *
  cases h3:(x.1==[])<;>cases h4:(x.2==[])<;>cases b1<;>cases b2<;>rw[h3]at e1<;>rw[h4]at e2<;>cases a1<;>cases a2<;>first
   | (exfalso;revert e1;decide)
   | (exfalso;revert e2;decide)
   | (refine zj func170 rfl rfl ?_;simp (disch:=(try simp only[LL]);omega) only[↓GO,↓DRW,GA,GX,ren,zk,za,refs,z8,cst,zo,isC,bin,una,z7,zd,blt,asArg,zg,zc,zf,z6,zr,unN,ze,zm,zb,GS,simprocAttr,GZ,c,hget,h1,h2,h3,h4,bne,zi,wH,IH])
theorem Sr (l:List Bd)(hl:l.length≤4194304)(hb:∀ b∈l,b.1.length≤1048700∧b.2.length≤1048700):zy (EV prog pol) 170 [.t (.list 2 (bdT l))]=some (.t (.bool (w5 l))):=by
 have L:=S6 l hl hb l [] rfl;have h:=sA (l.length:Int) 1 8;simp only[List.length_nil,Int.natCast_zero]at L;unfold w5;generalize B2 (l.length:Int) 1 8=b2 at *
 cases ha:(l.all fun b=>isE b.1&&isE b.2)<;>rw[ha]at L<;>simp only[cond_true,cond_false]at L
 all_goals
  apply zw;refine zx rfl func170 rfl (by kernel_rfl) ?_;unfold Tryz.f170;simp (disch:=(try simp only[LL]);omega) only[↓GO,↓DRW,GA,GX,ren,zk,za,refs,z8,cst,zo,isC,bin,una,z7,zd,blt,asArg,zg,zc,zf,z6,zr,unN,ze,zm,zb,GS,simprocAttr,GZ,L,h,wH]
theorem VH (s:Str)(hl:s.length≤1048700):zy (EV prog pol) 211 [.t (.str s)]=some (.tup [bdV (vf s).1,.t (.bool (vf s).2)]):=by
 have h1:=nM s [46] (by omega) (by simp);rw[pI]at h1;have hbk:=wB 46 s;unfold vf
 match hp:y5 46 s with
 | []=>exact absurd hp (xz 46 s)
 | [a] =>
  rw[hp]at h1 hbk;simp only[ya,List.length_cons,List.length_nil]at hbk;have d1:=iV a (by omega);have hr:=wb a;have v1:=sB ⟨zz a,0,0,[]⟩ (by simp[Ver.sm,ya]);have v2:=iU (zz a) 1 0;have v3:=iU (zz a+1) 0 0;have e0:decide (zz a<0) = !decide (0≤zz a):=by
   by_cases h:zz a<0
   · rw[decide_eq_true h,decide_eq_false (by omega)];rfl
   · rw[decide_eq_false h,decide_eq_true (by omega)];rfl
  simp only;generalize zS ⟨zz a,0,0,[]⟩=t1 at *;generalize zY (zz a) 1 0=t2 at *;generalize zY (zz a+1) 0 0=t3 at *;generalize zz a=ra at *;simp only[w4,y0,Ver.enc,List.map_cons,List.map_nil,bdV]at h1 v1 ⊢
  cases hd:decide (0≤ra)<;>rw[hd]at e0<;>simp only[Bool.not_true,Bool.not_false]at e0
  · have L:EV prog pol (.loop 211 250 0 [.ptr 0 0 0,.t (.list 1 [[.str a]]),.sl 1 0 2 (some 2),.t (.list 1 [[.str a]]),.t (.int .i64 1),.t (.int .i64 0)] [.vs 2 [[.t (.str []),.t (.str [])]],.ts 1 [[.int .i64 0],[.int .i64 0]]])
     = some (.loop .ret [.ptr 0 0 0,.t (.bool false),.t (.list 1 [[.str a]]),.sl 1 0 2 (some 2)] [.vs 2 [[.t (.str []),.t (.str [])]],.ts 1 [[.int .i64 ra],[.int .i64 0]]]):=by
     refine zj func211 rfl rfl ?_;simp (disch:=(try simp only[LL]);omega) only[↓GO,↓DRW,GA,GX,ren,zk,za,refs,z8,cst,zo,isC,bin,una,z7,zd,blt,asArg,zg,zc,zf,z6,zr,unN,ze,zm,zb,GS,simprocAttr,GZ,d1,e0,zi,zA]
    apply zw;refine zx rfl func211 rfl (by kernel_rfl) ?_;unfold Tryz.f211;simp (disch:=(try simp only[LL]);omega) only[↓GO,↓DRW,GA,GX,ren,zk,za,refs,z8,cst,zo,isC,bin,una,z7,zd,blt,asArg,zg,zc,zf,z6,zr,unN,ze,zm,zb,GS,simprocAttr,GZ,h1,L,zA]
  · have L:EV prog pol (.loop 211 250 0 [.ptr 0 0 0,.t (.list 1 [[.str a]]),.sl 1 0 2 (some 2),.t (.list 1 [[.str a]]),.t (.int .i64 1),.t (.int .i64 0)] [.vs 2 [[.t (.str []),.t (.str [])]],.ts 1 [[.int .i64 0],[.int .i64 0]]])
     = some (.loop (.exit 0) [.ptr 0 0 0,.bad,.t (.list 1 [[.str a]]),.sl 1 0 2 (some 2)] [.vs 2 [[.t (.str []),.t (.str [])]],.ts 1 [[.int .i64 ra],[.int .i64 0]]]):=by
     refine zj func211 rfl rfl ?_;simp (disch:=(try simp only[LL]);omega) only[↓GO,↓DRW,GA,GX,ren,zk,za,refs,z8,cst,zo,isC,bin,una,z7,zd,blt,asArg,zg,zc,zf,z6,zr,unN,ze,zm,zb,GS,simprocAttr,GZ,d1,e0,zi,zA,Int.reduceAdd];refine zj func211 rfl rfl ?_;simp (disch:=(try simp only[LL]);omega) only[↓GO,↓DRW,GA,GX,ren,zk,za,refs,z8,cst,zo,isC,bin,una,z7,zd,blt,asArg,zg,zc,zf,z6,zr,unN,ze,zm,zb,GS,simprocAttr,GZ,zA]
    apply zw;refine zx rfl func211 rfl (by kernel_rfl) ?_;unfold Tryz.f211;simp (disch:=(try simp only[LL]);omega) only[↓GO,↓DRW,GA,GX,ren,zk,za,refs,z8,cst,zo,isC,bin,una,z7,zd,blt,asArg,zg,zc,zf,z6,zr,unN,ze,zm,zb,GS,simprocAttr,GZ,h1,L,v1,v2,v3,zi,Int.reduceAdd,y0,zA];refine zR (by kernel_rfl) ?_;simp (disch:=(try simp only[LL]);omega) only[↓GO,↓DRW,GA,GX,ren,zk,za,refs,z8,cst,zo,isC,bin,una,z7,zd,blt,asArg,zg,zc,zf,z6,zr,unN,ze,zm,zb,GS,simprocAttr,GZ,h1,L,v1,v2,v3,zi,Int.reduceAdd,y0,zA]
 | [a, b] =>
  rw[hp]at h1 hbk;simp only[ya,List.length_cons,List.length_nil]at hbk;have d1:=iV a (by omega);have d2:=iV b (by omega);have hr:=wb a;have hr2:=wb b;have v1:=sB ⟨zz a,zz b,0,[]⟩ (by simp[Ver.sm,ya]);have v2:=iU (zz a) (zz b+1) 0;have e0:decide (zz a<0) = !decide (0≤zz a):=by
   by_cases h:zz a<0
   · rw[decide_eq_true h,decide_eq_false (by omega)];rfl
   · rw[decide_eq_false h,decide_eq_true (by omega)];rfl
  have e1:decide (zz b<0) = !decide (0≤zz b):=by
   by_cases h:zz b<0
   · rw[decide_eq_true h,decide_eq_false (by omega)];rfl
   · rw[decide_eq_false h,decide_eq_true (by omega)];rfl
  simp only;generalize zS ⟨zz a,zz b,0,[]⟩=t1 at *;generalize zY (zz a) (zz b+1) 0=t2 at *;generalize zz a=ra at *;generalize zz b=rb at *;simp only[w4,y0,Ver.enc,List.map_cons,List.map_nil,bdV]at h1 v1 ⊢
  cases hd:decide (0≤ra)<;>rw[hd]at e0<;>simp only[Bool.not_true,Bool.not_false]at e0
  · have L:EV prog pol (.loop 211 250 0 [.ptr 0 0 0,.t (.list 1 [[.str a],[.str b]]),.sl 1 0 2 (some 2),.t (.list 1 [[.str a],[.str b]]),.t (.int .i64 2),.t (.int .i64 0)] [.vs 2 [[.t (.str []),.t (.str [])]],.ts 1 [[.int .i64 0],[.int .i64 0]]])
     = some (.loop .ret [.ptr 0 0 0,.t (.bool false),.t (.list 1 [[.str a],[.str b]]),.sl 1 0 2 (some 2)] [.vs 2 [[.t (.str []),.t (.str [])]],.ts 1 [[.int .i64 ra],[.int .i64 0]]]):=by
     refine zj func211 rfl rfl ?_;simp (disch:=(try simp only[LL]);omega) only[↓GO,↓DRW,GA,GX,ren,zk,za,refs,z8,cst,zo,isC,bin,una,z7,zd,blt,asArg,zg,zc,zf,z6,zr,unN,ze,zm,zb,GS,simprocAttr,GZ,d1,e0,zi,zA]
    apply zw;refine zx rfl func211 rfl (by kernel_rfl) ?_;unfold Tryz.f211;simp (disch:=(try simp only[LL]);omega) only[↓GO,↓DRW,GA,GX,ren,zk,za,refs,z8,cst,zo,isC,bin,una,z7,zd,blt,asArg,zg,zc,zf,z6,zr,unN,ze,zm,zb,GS,simprocAttr,GZ,h1,L,zA]
  · cases he:decide (0≤rb)<;>rw[he]at e1<;>simp only[Bool.not_true,Bool.not_false]at e1
    · have L:EV prog pol (.loop 211 250 0 [.ptr 0 0 0,.t (.list 1 [[.str a],[.str b]]),.sl 1 0 2 (some 2),.t (.list 1 [[.str a],[.str b]]),.t (.int .i64 2),.t (.int .i64 0)] [.vs 2 [[.t (.str []),.t (.str [])]],.ts 1 [[.int .i64 0],[.int .i64 0]]])
       = some (.loop .ret [.ptr 0 0 0,.t (.bool false),.t (.list 1 [[.str a],[.str b]]),.sl 1 0 2 (some 2)] [.vs 2 [[.t (.str []),.t (.str [])]],.ts 1 [[.int .i64 ra],[.int .i64 rb]]]):=by
       refine zj func211 rfl rfl ?_;simp (disch:=(try simp only[LL]);omega) only[↓GO,↓DRW,GA,GX,ren,zk,za,refs,z8,cst,zo,isC,bin,una,z7,zd,blt,asArg,zg,zc,zf,z6,zr,unN,ze,zm,zb,GS,simprocAttr,GZ,d1,e0,zi,zA,Int.reduceAdd];refine zj func211 rfl rfl ?_;simp (disch:=(try simp only[LL]);omega) only[↓GO,↓DRW,GA,GX,ren,zk,za,refs,z8,cst,zo,isC,bin,una,z7,zd,blt,asArg,zg,zc,zf,z6,zr,unN,ze,zm,zb,GS,simprocAttr,GZ,d2,e1,zi,zA]
      apply zw;refine zx rfl func211 rfl (by kernel_rfl) ?_;unfold Tryz.f211;simp (disch:=(try simp only[LL]);omega) only[↓GO,↓DRW,GA,GX,ren,zk,za,refs,z8,cst,zo,isC,bin,una,z7,zd,blt,asArg,zg,zc,zf,z6,zr,unN,ze,zm,zb,GS,simprocAttr,GZ,h1,L,zA]
    · have L:EV prog pol (.loop 211 250 0 [.ptr 0 0 0,.t (.list 1 [[.str a],[.str b]]),.sl 1 0 2 (some 2),.t (.list 1 [[.str a],[.str b]]),.t (.int .i64 2),.t (.int .i64 0)] [.vs 2 [[.t (.str []),.t (.str [])]],.ts 1 [[.int .i64 0],[.int .i64 0]]])
       = some (.loop (.exit 0) [.ptr 0 0 0,.bad,.t (.list 1 [[.str a],[.str b]]),.sl 1 0 2 (some 2)] [.vs 2 [[.t (.str []),.t (.str [])]],.ts 1 [[.int .i64 ra],[.int .i64 rb]]]):=by
       refine zj func211 rfl rfl ?_;simp (disch:=(try simp only[LL]);omega) only[↓GO,↓DRW,GA,GX,ren,zk,za,refs,z8,cst,zo,isC,bin,una,z7,zd,blt,asArg,zg,zc,zf,z6,zr,unN,ze,zm,zb,GS,simprocAttr,GZ,d1,e0,zi,zA,Int.reduceAdd];refine zj func211 rfl rfl ?_;simp (disch:=(try simp only[LL]);omega) only[↓GO,↓DRW,GA,GX,ren,zk,za,refs,z8,cst,zo,isC,bin,una,z7,zd,blt,asArg,zg,zc,zf,z6,zr,unN,ze,zm,zb,GS,simprocAttr,GZ,d2,e1,zi,zA,Int.reduceAdd];refine zj func211 rfl rfl ?_;simp (disch:=(try simp only[LL]);omega) only[↓GO,↓DRW,GA,GX,ren,zk,za,refs,z8,cst,zo,isC,bin,una,z7,zd,blt,asArg,zg,zc,zf,z6,zr,unN,ze,zm,zb,GS,simprocAttr,GZ,zA]
      apply zw;refine zx rfl func211 rfl (by kernel_rfl) ?_;unfold Tryz.f211;simp (disch:=(try simp only[LL]);omega) only[↓GO,↓DRW,GA,GX,ren,zk,za,refs,z8,cst,zo,isC,bin,una,z7,zd,blt,asArg,zg,zc,zf,z6,zr,unN,ze,zm,zb,GS,simprocAttr,GZ,h1,L,v1,v2,zi,y0,zA];refine zR (by kernel_rfl) ?_;simp (disch:=(try simp only[LL]);omega) only[↓GO,↓DRW,GA,GX,ren,zk,za,refs,z8,cst,zo,isC,bin,una,z7,zd,blt,asArg,zg,zc,zf,z6,zr,unN,ze,zm,zb,GS,simprocAttr,GZ,h1,L,v1,v2,zi,y0,zA]
 | a::b::c::r =>
  rw[hp]at h1;have hc:decide (((a::b::c::r).length:Int) > 2)=true:=by apply decide_eq_true;simp only[List.length_cons];omega
  simp only[bdV];generalize a::b::c::r=ps at *;apply zw;refine zx rfl func211 rfl (by kernel_rfl) ?_;unfold Tryz.f211;simp (disch:=(try simp only[LL]);omega) only[↓GO,↓DRW,GA,GX,ren,zk,za,refs,z8,cst,zo,isC,bin,una,z7,zd,blt,asArg,zg,zc,zf,z6,zr,unN,ze,zm,zb,GS,simprocAttr,GZ,h1,hc,zn,zA]
theorem VI (s p:Str)(hs:s.length≤9223372036854775807)(hp:p.length≤9223372036854775807):zy (EV prog pol) 262 [.t (.str s),.t (.str p)]=some (.tup [.t (.str (cond (p.isPrefixOf s) (s.drop p.length) s)),.t (.bool (p.isPrefixOf s))]):=by
 have h:=mF s p hs hp
 cases hb:p.isPrefixOf s with
 | false =>
  rw[hb]at h;apply zw;refine zx rfl func262 rfl (by kernel_rfl) ?_;unfold Tryz.f262;simp (disch:=(try simp only[LL]);omega) only[↓GO,↓DRW,GA,GX,ren,zk,za,refs,z8,cst,zo,isC,bin,una,z7,zd,blt,asArg,zg,zc,zf,z6,zr,unN,ze,zm,zb,GS,simprocAttr,GZ,h]
 | true =>
  have h2:=jI hb;rw[hb]at h;apply zw;refine zx rfl func262 rfl (by kernel_rfl) ?_;unfold Tryz.f262;simp (disch:=(try simp only[LL]);omega) only[↓GO,↓DRW,GA,GX,ren,zk,za,refs,z8,cst,zo,isC,bin,una,z7,zd,blt,asArg,zg,zc,zf,z6,zr,unN,ze,zm,zb,GS,simprocAttr,GZ,h]
theorem Z6 (s p:Str)(hs:s.length≤9223372036854775807)(hp:p.length≤9223372036854775807):zy (EV prog pol) 209 [.t (.str s),.t (.str p)]=some (.tup [.t (.str (cond (p.isPrefixOf s) (s.drop p.length) s)),.t (.bool (p.isPrefixOf s))]):=by
 have h:=VI s p hs hp;apply zw;refine zx rfl func209 rfl (by kernel_rfl) ?_;unfold Tryz.f209;simp (disch:=(try simp only[LL]);omega) only[↓GO,↓DRW,GA,GX,ren,zk,za,refs,z8,cst,zo,isC,bin,una,z7,zd,blt,asArg,zg,zc,zf,z6,zr,unN,ze,zm,zb,GS,simprocAttr,GZ,h]
theorem US (s:Str):(xU s).1.length≤s.length∧(xU s).2.1.length≤s.length:=by
 have h:=congrArg List.length (dx s);rw[List.length_append]at h
 cases hc:(xU s).2.2 with
 | true=>rw[hc]at h;simp only[cond_true,List.length_cons]at h;omega
 | false =>
  have:(xU s).2.1=[]:=by
   have key:∀ s:Str,(xU s).2.2=false→(xU s).2.1=[]:=fun s=>by
    induction s with
    | nil=>intro _;rfl
    | cons x r ih =>
     intro h;rw[xU]at h ⊢
     split at h
     · cases h
     · rename_i hx;rw[if_neg hx];exact ih h
   exact key s hc
  rw[this];rw[hc]at h;simp only[cond_false,List.length_nil]at h ⊢;omega
theorem Td (s:Str)(hl:s.length≤1048600):zy (EV prog pol) 168 [.t (.str s)]=some (.tup [bdV (wu s).1,.t (.bool (wu s).2)]):=by
 unfold wu
 cases h42:(s==[42]) with
 | true =>
  simp only[cond_true,bdV];apply zw;refine zx rfl func168 rfl (by kernel_rfl) ?_;unfold Tryz.f168;simp (disch:=(try simp only[LL]);omega) only[↓GO,↓DRW,GA,GX,ren,zk,za,refs,z8,cst,zo,isC,bin,una,z7,zd,blt,asArg,zg,zc,zf,z6,zr,unN,ze,zm,zb,GS,simprocAttr,GZ,h42]
 | false =>
  have hrv:=od s (by omega);obtain⟨m1,m2,m3,m4,m5,m6,m7⟩:=yz s (by omega);have hpr:=l9 s (by omega);unfold rvT at hrv;have hisv:(zq s).2=isV s:=rfl;rw[hisv]at hrv;simp only[cond_false]
  cases hv:isV s with
  | true =>
   have hal:=Wh (zq s).1 m1 (by omega) m7 m6;rw[(zZ (s:=s) hv).2.1]at hal;rw[hv]at hrv;simp only[cond_true,bdV];generalize sI (zq s).1=hi at *;generalize (zq s).1=v at *;simp only[Ver.enc,List.map_cons,List.map_nil]at hrv hal ⊢;apply zw;refine zx rfl func168 rfl (by kernel_rfl) ?_;unfold Tryz.f168;simp (disch:=(try simp only[LL]);omega) only[↓GO,↓DRW,GA,GX,ren,zk,za,refs,z8,cst,zo,isC,bin,una,z7,zd,blt,asArg,zg,zc,zf,z6,zr,unN,ze,zm,zb,GS,simprocAttr,GZ,h42,hrv,hal]
  | false =>
   have hc1:=Z6 s [62,61] (by omega) (by simp);have hc2:=Z6 s [60] (by omega) (by simp);have hc3:=PY (s.drop 2) [32,60] (by rw[List.length_drop];omega);have hcl:=US (s.drop 2);rw[List.length_drop]at hcl;have hi1:=qR (xU (s.drop 2)).1 (by omega);have hi2:=qR (xU (s.drop 2)).2.1 (by omega);rw[aW]at hc3;have hi3:=qR (s.drop 1) (by rw[List.length_drop];omega);have hpt:=VH s (by omega);rw[hv]at hrv;rw[show (([62,61]:Str).isPrefixOf s)=geP s from rfl,show (([62,61]:Str).length)=2 from rfl]at hc1;rw[show (([60]:Str).isPrefixOf s)=ltP s from rfl,show (([60]:Str).length)=1 from rfl]at hc2;generalize (zq s).1=v at *;simp only[Ver.enc,List.map_cons,List.map_nil]at hrv;simp only[cond_false]
   cases hg:geP s with
   | true =>
    rw[hg]at hc1;simp only[cond_true]at hc1 ⊢;generalize isV (xU (s.drop 2)).1=b1 at *;generalize isV (xU (s.drop 2)).2.1=b2 at *;generalize (xU (s.drop 2)).1=c1 at *;generalize (xU (s.drop 2)).2.1=c2 at *;generalize (xU (s.drop 2)).2.2=b3 at *;simp only[bdV]
    cases b1<;>cases b3<;>cases b2
    all_goals
     apply zw;refine zx rfl func168 rfl (by kernel_rfl) ?_;unfold Tryz.f168;simp (disch:=(try simp only[LL]);omega) only[↓GO,↓DRW,GA,GX,ren,zk,za,refs,z8,cst,zo,isC,bin,una,z7,zd,blt,asArg,zg,zc,zf,z6,zr,unN,ze,zm,zb,GS,simprocAttr,GZ,h42,hrv,hc1,hc3,hi1,hi2]
   | false =>
    rw[hg]at hc1;simp only[cond_false]at hc1 ⊢
    cases hlp:ltP s with
    | true =>
     rw[hlp]at hc2;simp only[cond_true]at hc2 ⊢;generalize isV (s.drop 1)=b1 at *;simp only[bdV];apply zw;refine zx rfl func168 rfl (by kernel_rfl) ?_;unfold Tryz.f168;simp (disch:=(try simp only[LL]);omega) only[↓GO,↓DRW,GA,GX,ren,zk,za,refs,z8,cst,zo,isC,bin,una,z7,zd,blt,asArg,zg,zc,zf,z6,zr,unN,ze,zm,zb,GS,simprocAttr,GZ,h42,hrv,hc1,hc2,hi3]
    | false =>
     rw[hlp]at hc2;simp only[cond_false]at hc2 ⊢
     cases s with
     | nil =>
      simp only[hdB,Bool.or_false,cond_false];generalize vf []=pp at *;simp only[bdV]at hpt ⊢;have hn:(([]:Str)==[])=true:=rfl;apply zw;refine zx rfl func168 rfl (by kernel_rfl) ?_;unfold Tryz.f168;simp (disch:=(try simp only[LL]);omega) only[↓GO,↓DRW,GA,GX,ren,zk,za,refs,z8,cst,zo,isC,bin,una,z7,zd,blt,asArg,zg,zc,zf,z6,zr,unN,ze,zm,zb,GS,simprocAttr,GZ,h42,hrv,hc1,hc2,hn,bne,hpt]
     | cons x r =>
      have hn:((x::r)==[])=false:=rfl;have hg0:(x::r)[0]? = some x:=rfl;have hdr:(x::r).drop 1=r:=rfl;have hxl:1≤(x::r).length:=by simp
      have h94:((x.toNat:Int)==94)=(x==94):=by
       rw[Bool.eq_iff_iff];simp only[beq_iff_eq];constructor
       · intro h;exact UInt8.toNat_inj.1 (by rw[show (94:UInt8).toNat=94 from rfl];omega)
       · intro h;rw[h];rfl
      have h126:((x.toNat:Int)==126)=(x==126):=by
       rw[Bool.eq_iff_iff];simp only[beq_iff_eq];constructor
       · intro h;exact UInt8.toNat_inj.1 (by rw[show (126:UInt8).toNat=126 from rfl];omega)
       · intro h;rw[h];rfl
      have hrr:=od r (by simp only[List.length_cons]at hl;omega);obtain⟨n1,n2,n3,n4,n5,n6,n7⟩:=yz r (by simp only[List.length_cons]at hl;omega);have z1:=iU (zq r).1.maj ((zq r).1.min+1) 0;have z2:=iU ((zq r).1.maj+1) 0 0;have z3:=iU 0 0 ((zq r).1.pat+1);unfold rvT at hrr;rw[show (zq r).2=isV r from rfl]at hrr;unfold SJ;rw[hdr];simp only[hdB];clear hi3 hc3 hi1 hi2 hcl;generalize x::r=xr at *;generalize isV r=b1 at *;unfold mW;generalize (zq r).1=w at *;generalize zY w.maj (w.min+1) 0=t1 at *;generalize zY (w.maj+1) 0 0=t2 at *;generalize zY 0 0 (w.pat+1)=t3 at *;generalize vf xr=pp at *;simp only[Ver.enc,List.map_cons,List.map_nil,bdV]at hrr hpt ⊢
      cases e1:(x==94)<;>rw[e1]at h94
      · cases e2:(x==126)<;>rw[e2]at h126
        · apply zw;refine zx rfl func168 rfl (by kernel_rfl) ?_;unfold Tryz.f168;simp (disch:=(try simp only[LL]);omega) only[↓GO,↓DRW,GA,GX,ren,zk,za,refs,z8,cst,zo,isC,bin,una,z7,zd,blt,asArg,zg,zc,zf,z6,zr,unN,ze,zm,zb,GS,simprocAttr,GZ,h42,hrv,hc1,hc2,hn,bne,hg0,h94,h126,hpt]
        · apply zw;refine zx rfl func168 rfl (by kernel_rfl) ?_;unfold Tryz.f168;simp (disch:=(try simp only[LL]);omega) only[↓GO,↓DRW,GA,GX,ren,zk,za,refs,z8,cst,zo,isC,bin,una,z7,zd,blt,asArg,zg,zc,zf,z6,zr,unN,ze,zm,zb,GS,simprocAttr,GZ,h42,hrv,hc1,hc2,hn,bne,hg0,h94,h126,hdr,hrr,z1,zi]
      · cases e3:decide (w.maj > 0)
        · cases e4:(w.min==0)
          all_goals
           apply zw;refine zx rfl func168 rfl (by kernel_rfl) ?_;unfold Tryz.f168;simp (disch:=(try simp only[LL]);omega) only[↓GO,↓DRW,GA,GX,ren,zk,za,refs,z8,cst,zo,isC,bin,una,z7,zd,blt,asArg,zg,zc,zf,z6,zr,unN,ze,zm,zb,GS,simprocAttr,GZ,h42,hrv,hc1,hc2,hn,bne,hg0,h94,hdr,hrr,z1,z2,z3,e3,e4,zi]
        · apply zw;refine zx rfl func168 rfl (by kernel_rfl) ?_;unfold Tryz.f168;simp (disch:=(try simp only[LL]);omega) only[↓GO,↓DRW,GA,GX,ren,zk,za,refs,z8,cst,zo,isC,bin,una,z7,zd,blt,asArg,zg,zc,zf,z6,zr,unN,ze,zm,zb,GS,simprocAttr,GZ,h42,hrv,hc1,hc2,hn,bne,hg0,h94,hdr,hrr,z1,z2,z3,e3,zi]
theorem br:∀ l:List Str,(l.all fun p=>vy p)=true→ya l≤20*l.length
 | [],_=>by simp[ya]
 | p::l,h=>by
  simp only[List.all_cons,Bool.and_eq_true]at h;have ih:=br l h.2;have h1:=h.1;unfold vy B2 at h1;simp only[Bool.and_eq_true,decide_eq_true_eq]at h1;have:=h1.1.2;simp only[ya,List.length_cons];omega
theorem iY {v:Ver}(h:yv v=true):(zS v).length≤140:=by
 obtain⟨_,_,_,h4,h5⟩:=wT h;have h6:=br v.pre h4;have h7:=iu h;have h8:=nX (u9 v) v.pre;unfold zS;rw[h,cond_true];omega
theorem Vm {s:Str}(h:isV s=true):s.length≤140:=by
 obtain⟨_,ht,ho,_⟩:=zZ h;have:=iY ho
 rwa [ht]at this
theorem gY {s:Str}(h:isE s=true):s.length≤140:=by
 unfold isE at h;rw[Bool.or_eq_true]at h;rcases h with h|h
 · exact Vm h
 · rw[eq_of_beq h];simp
theorem jw {ps:List Str}{l:List Bd}(h:tm ps=some l):∀ b∈l,b.1.length≤140∧b.2.length≤140:=fun b hb=>by
 have h1:=(qS ps l h).1;rw[List.all_eq_true]at h1;have h2:=h1 b hb;rw[Bool.and_eq_true]at h2;exact⟨gY h2.1,gY h2.2⟩
theorem WX (s sep:Str):qg s sep=Lib.split s sep:=by
 unfold qg Lib.split Lib.countB;rw[Lib.splitB_data]
def rrT:Option (List Bd)→V
 | some l=>.tup [.t (.list 2 (bdT l)),.t (.bool true)]
 | none=>.tup [.t (.list 2 []),.t (.bool false)]
def lT (ps:List Str)(acc:List Bd)(cap:Option Nat)(x:List Bd):Option (List Bd)→xV
 | some bs=>.loop (.exit 0) [.bad,.bad,.sl 0 0 (acc.length+bs.length) cap] [.ts 2 (bdT (acc++bs))]
 | none=>.loop .ret [.nil 2,.t (.bool false),.sl 0 0 x.length cap] [.ts 2 (bdT x)]
theorem Pr (ps:List Str)(hl:ps.length≤1048576)(hb:∀ p∈ps,p.length≤1048576):∀ (rest pre:List Str) (acc:List Bd) (cap:Option Nat) (m:Nat),ps=pre++rest→m=acc.length→acc.length=pre.length →
 ∃ cap' x,EV prog pol (.loop 111 122 0 [.sl 0 0 m cap,.t (.list 1 (strs ps)),.t (.int .i64 (ps.length:Int)),.t (.int .i64 (pre.length:Int))] [.ts 2 (bdT acc)])=some (lT ps acc cap' x (tm rest))
 | [],pre,acc,cap,m,hs,hm,ha=>by
  have c:decide ((pre.length:Int)<(ps.length:Int))=false:=by simp[hs]
  refine⟨cap,[],?_⟩;simp only[tm,lT,List.append_nil,List.length_nil,Nat.add_zero];subst hm;refine zj func111 rfl rfl ?_;simp (disch:=(try simp only[LL]);omega) only[↓GO,↓DRW,GA,GX,ren,zk,za,refs,z8,cst,zo,isC,bin,una,z7,zd,blt,asArg,zg,zc,zf,z6,zr,unN,ze,zm,zb,GS,simprocAttr,GZ,c,zA]
 | p :: rest, pre, acc, cap, m, hs, hm, ha => by
  have c:decide ((pre.length:Int)<(ps.length:Int))=true:=by simp[hs];omega
  have hget:(strs ps)[pre.length]? = some [.str p]:=by rw[hs];exact vN (fun s:Str=>[T.str s]) pre p rest
  have hlen:pre.length+rest.length+1≤ps.length:=by rw[hs];simp;omega
  have hpb:=hb p (by rw[hs];simp);have hB:=Td p (by omega);have h1:=iy p [60] (by omega) (by simp);have h2:=iy p [62,61] (by omega) (by simp);rw[show ([60]:Str).isPrefixOf p=ltP p from rfl]at h1;rw[show ([62,61]:Str).isPrefixOf p=geP p from rfl]at h2;have hchk:=UX p;unfold rD qX at hchk;have IHs:=fun b=>Pr ps hl hb rest (pre++[p]) (acc++[b]) none (m+1) (by rw[hs];simp) (by simp[hm]) (by simp[ha])
  rw[show ((pre++[p]).length:Int)=(pre.length:Int)+1 by simp]at IHs;have hol:(bdT acc).length=m:=by rw[wH,hm]
  have hml:m≤1048578:=by omega
  have hm0:=hm;clear hs hb;simp only[tm];rw[← hchk];clear hchk;generalize wu p=bb at *;obtain⟨⟨lo,hi⟩,ok⟩:=bb;simp only[bdV]at hB;simp only
  cases h3:(p==[42])<;>cases h4:ltP p<;>rw[h4]at h1<;>cases h5:geP p<;>rw[h5]at h2<;>cases ok<;>cases e1:(lo==[])<;>cases e2:(hi==[]) <;>
   simp only[Bool.or_true,Bool.true_or,Bool.or_false,Bool.false_or,Bool.not_true,Bool.not_false,Bool.and_true,Bool.true_and,Bool.and_false,Bool.false_and,cond_true,cond_false]
  all_goals first
   | (refine⟨cap,acc,?_⟩
      unfold lT;rw[hm];refine zj func111 rfl rfl ?_;simp (disch:=(try simp only[LL]);omega) only[↓GO,↓DRW,GA,GX,ren,zk,za,refs,z8,cst,zo,isC,bin,una,z7,zd,blt,asArg,zg,zc,zf,z6,zr,unN,ze,zm,zb,GS,simprocAttr,GZ,c,hget,hB,h1,h2,h3,e1,e2,zi,hol,zA,yf]
      done)
   | (obtain⟨cap',x,IH⟩:=IHs (lo,hi)
      refine⟨cap',x,?_⟩;rw[Wj,show bdT [(lo,hi)]=[[T.str lo,T.str hi]] from rfl]at IH;rw[show lT ps (acc++[(lo,hi)]) cap' x (tm rest)=lT ps acc cap' x (match tm rest with|some bs=>some ((lo,hi)::bs)|none=>none) by
       cases tm rest with
       | none=>rfl
       | some bs=>simp only[lT];rw[List.append_assoc];simp only[List.length_append,List.length_cons,List.length_nil,List.cons_append,List.nil_append];rw[show acc.length+(0+1)+bs.length=acc.length+(bs.length+1) by omega]]at IH
      refine zj func111 rfl rfl ?_;simp (disch:=(try simp only[LL]);omega) only[↓GO,↓DRW,GA,GX,ren,zk,za,refs,z8,cst,zo,isC,bin,una,z7,zd,blt,asArg,zg,zc,zf,z6,zr,unN,ze,zm,zb,GS,simprocAttr,GZ,c,hget,hB,h1,h2,h3,e1,e2,zi,hol,IH,zA,yf]
      try (cases tm rest<;>rfl))
theorem PT (s:Str)(hl:s.length≤1048576):zy (EV prog pol) 111 [.t (.str s)]=some (rrT (dJ s)):=by
 unfold dJ
 cases h200:decide ((s.length:Int) > 200) with
 | true =>
  simp only[cond_true,rrT];apply zw;refine zx rfl func111 rfl (by kernel_rfl) ?_;unfold Tryz.f111;simp (disch:=(try simp only[LL]);omega) only[↓GO,↓DRW,GA,GX,ren,zk,za,refs,z8,cst,zo,isC,bin,una,z7,zd,blt,asArg,zg,zc,zf,z6,zr,unN,ze,zm,zb,GS,simprocAttr,GZ,h200]
 | false =>
  have h2:=of_decide_eq_false h200;have h1:=nM s [32,124,124,32] (by omega) (by simp);have hsp:qg s [32,124,124,32]=xA 0 s:=by
   rw[WX];exact pH s.length s (Nat.le_refl _)
  rw[hsp]at h1;have hbk:=sb 0 s;have hmem:∀ p∈xA 0 s,p.length≤1048576:=fun p hp=>by have:=wO hp;omega
  simp only[cond_false];generalize xA 0 s=ps at *;obtain⟨cap,x,L⟩:=Pr ps (by omega) hmem ps [] [] (some 0) 0 rfl rfl rfl;rw[show bdT []=[] from rfl]at L;simp only[List.length_nil,Int.natCast_zero]at L
  cases ha:tm ps with
  | none =>
   rw[ha]at L;simp only[lT,rrT]at L ⊢;apply zw;refine zx rfl func111 rfl (by kernel_rfl) ?_;unfold Tryz.f111;simp (disch:=(try simp only[LL]);omega) only[↓GO,↓DRW,GA,GX,ren,zk,za,refs,z8,cst,zo,isC,bin,una,z7,zd,blt,asArg,zg,zc,zf,z6,zr,unN,ze,zm,zb,GS,simprocAttr,GZ,h200,h1,L,zn,zA]
  | some l =>
   have hsh:=jw ha;have hll:=(qS ps l ha).2;rw[ha]at L;simp only[lT,List.nil_append,List.length_nil,Nat.zero_add]at L ⊢;have hr:=Sr l (by omega) (fun b hb=>by have:=hsh b hb;omega);have ht:(bdT l).take l.length=bdT l:=List.take_of_length_le (by rw[wH];omega)
   cases hk:w5 l<;>rw[hk]at hr<;>simp only[cond_true,cond_false,rrT]
   all_goals
    apply zw;refine zx rfl func111 rfl (by kernel_rfl) ?_;unfold Tryz.f111;simp (disch:=(try simp only[LL]);omega) only[↓GO,↓DRW,GA,GX,ren,zk,za,refs,z8,cst,zo,isC,bin,una,z7,zd,blt,asArg,zg,zc,zf,z6,zr,unN,ze,zm,zb,GS,simprocAttr,GZ,h200,h1,L,zn,hr,ht,wH,zA]
def bT:Option Bd→V
 | some b=>.tup [.agg [.t (.str b.1),.t (.str b.2)],.t (.bool true)]
 | none=>.tup [.agg [.t (.str []),.t (.str [])],.t (.bool false)]
theorem N2 (s:Str):alT s=bT (xB s):=by
 unfold alT bT
 cases xB s with
 | none=>rfl
 | some b=>obtain⟨a,b⟩:=b;rfl
theorem iR (x:UInt8)(c:UInt8):((x.toNat:Int)==(c.toNat:Int))=(x==c):=by
 rw[Bool.eq_iff_iff];simp only[beq_iff_eq];constructor
 · intro h;exact UInt8.toNat_inj.1 (by omega)
 · intro h;rw[h]
theorem PX (s:Str)(hl:s.length≤1048700):zy (EV prog pol) 264 [.t (.str s)]=some (.t (.bool (isE s))):=by
 have h:=rC s hl;unfold rvT at h;unfold isE isV;generalize (zq s).1=v at *;simp only[Ver.enc,List.map_cons,List.map_nil]at h
 cases hk:(zq s).2<;>rw[hk]at h<;>cases hn:(s==[])
 all_goals
  apply zw;refine zx rfl func264 rfl (by kernel_rfl) ?_;unfold Tryz.f264;simp (disch:=(try simp only[LL]);omega) only[↓GO,↓DRW,GA,GX,ren,zk,za,refs,z8,cst,zo,isC,bin,una,z7,zd,blt,asArg,zg,zc,zf,z6,zr,unN,ze,zm,zb,GS,simprocAttr,GZ,h,hn]
theorem S5 (l:List Bd)(hl:l.length≤4194304)(hb:∀ b∈l,b.1.length≤1048700∧b.2.length≤1048700):∀ (rest pre:List Bd),l=pre++rest →
 EV prog pol (.loop 218 26 0 [.t (.list 2 (bdT l)),.t (.int .i64 (pre.length:Int))] [])=some (cond (rest.all fun b=>isE b.1&&isE b.2) (.loop (.exit 0) [.t (.list 2 (bdT l)),.bad] []) (.loop .ret [.t (.list 2 (bdT l)),.t (.bool false)] []))
 | [],pre,hs=>by
  have c:decide ((pre.length:Int)<(l.length:Int))=false:=by simp[hs]
  simp only[List.all_nil,cond_true];refine zj func218 rfl rfl ?_;simp (disch:=(try simp only[LL]);omega) only[↓GO,↓DRW,GA,GX,ren,zk,za,refs,z8,cst,zo,isC,bin,una,z7,zd,blt,asArg,zg,zc,zf,z6,zr,unN,ze,zm,zb,GS,simprocAttr,GZ,c,wH]
 | x :: rest, pre, hs => by
  have c:decide ((pre.length:Int)<(l.length:Int))=true:=by simp[hs];omega
  have hget:(bdT l)[pre.length]? = some [.str x.1,.str x.2]:=by rw[hs];exact vN (fun b:Bd=>[T.str b.1,T.str b.2]) pre x rest
  have hlen:pre.length+rest.length+1≤l.length:=by rw[hs];simp;omega
  have hx:=hb x (by rw[hs];simp);have h1:=PX x.1 hx.1;have h2:=PX x.2 hx.2;have IH:=S5 l hl hb rest (pre++[x]) (by rw[hs];simp);rw[show ((pre++[x]).length:Int)=(pre.length:Int)+1 by simp]at IH;clear hs hb;rw[List.all_cons];generalize isE x.1=a1 at *;generalize isE x.2=a2 at *
  cases a1<;>cases a2
  all_goals
   refine zj func218 rfl rfl ?_;simp (disch:=(try simp only[LL]);omega) only[↓GO,↓DRW,GA,GX,ren,zk,za,refs,z8,cst,zo,isC,bin,una,z7,zd,blt,asArg,zg,zc,zf,z6,zr,unN,ze,zm,zb,GS,simprocAttr,GZ,c,hget,h1,h2,zi,wH,IH]
theorem dQ (l:List Bd)(hl:l.length≤4194304)(hb:∀ b∈l,b.1.length≤1048700∧b.2.length≤1048700):zy (EV prog pol) 218 [.t (.list 2 (bdT l))]=some (.t (.bool (w5 l))):=by
 have L:=S5 l hl hb l [] rfl;have h:=wG (l.length:Int) 1 8;simp only[List.length_nil,Int.natCast_zero]at L;unfold w5;generalize B2 (l.length:Int) 1 8=b2 at *
 cases ha:(l.all fun b=>isE b.1&&isE b.2)<;>rw[ha]at L<;>simp only[cond_true,cond_false]at L
 all_goals
  apply zw;refine zx rfl func218 rfl (by kernel_rfl) ?_;unfold Tryz.f218;simp (disch:=(try simp only[LL]);omega) only[↓GO,↓DRW,GA,GX,ren,zk,za,refs,z8,cst,zo,isC,bin,una,z7,zd,blt,asArg,zg,zc,zf,z6,zr,unN,ze,zm,zb,GS,simprocAttr,GZ,L,h,wH]
theorem Su (s:Str)(v:Ver)(p:Int)(hs:v.sm)(hp:p=0∨p=1∨p=2)(h1 : -1≤v.maj∧v.maj≤999999999)(h2 : -1≤v.min∧v.min≤999999999)(h3 : -1≤v.pat∧v.pat≤999999999) :
 zy (EV prog pol) 214 [.t (.str s),.agg (v.enc.map .t),.t (.int .i64 p)]=some (bT (iS v s p)):=by
 have d:=dC v p hs hp h1 h2 h3;unfold iS bT;generalize uz v p=bl at *;obtain⟨t,ok⟩:=bl;simp only[Ver.enc,List.map_cons,List.map_nil]at d ⊢
 cases ok<;>simp only[cond_true,cond_false]at d ⊢
 all_goals
  apply zw;refine zx rfl func214 rfl (by kernel_rfl) ?_;unfold Tryz.f214;simp (disch:=(try simp only[LL]);omega) only[↓GO,↓DRW,GA,GX,ren,zk,za,refs,z8,cst,zo,isC,bin,una,z7,zd,blt,asArg,zg,zc,zf,z6,zr,unN,ze,zm,zb,GS,simprocAttr,GZ,d]
theorem Tc (v:Ver):zy (EV prog pol) 215 [.agg (v.enc.map .t)]=some (.t (.int .i64 (tk v))):=by
 unfold tk;simp only[Ver.enc,List.map_cons,List.map_nil]
 cases h1:decide (v.maj > 0)<;>cases h2:decide (v.min > 0)<;>simp only[cond_true,cond_false]
 all_goals
  apply zw;refine zx rfl func215 rfl (by kernel_rfl) ?_;unfold Tryz.f215;simp (disch:=(try simp only[LL]);omega) only[↓GO,↓DRW,GA,GX,ren,zk,za,refs,z8,cst,zo,isC,bin,una,z7,zd,blt,asArg,zg,zc,zf,z6,zr,unN,ze,zm,zb,GS,simprocAttr,GZ,h1,h2]
theorem VE (v:Ver):tk v=0∨tk v=1∨tk v=2:=by
 unfold tk
 cases decide (v.maj > 0)<;>cases decide (v.min > 0)<;>simp
theorem QD (s:Str)(hl:s.length≤4194304):zy (EV prog pol) 263 [.t (.str s)]=some (.t (.list 1 (strs (y5 32 s)))):=by
 have h:=iO s 32 hl;rw[show (((32:UInt8).toNat:Nat):Int)=32 from rfl]at h;apply zw;refine zx rfl func263 rfl (by kernel_rfl) ?_;unfold Tryz.f263;simp (disch:=(try simp only[LL]);omega) only[↓GO,↓DRW,GA,GX,ren,zk,za,refs,z8,cst,zo,isC,bin,una,z7,zd,blt,asArg,zg,zc,zf,z6,zr,unN,ze,zm,zb,GS,simprocAttr,GZ,h]
theorem T0 (s:Str)(hl:s.length≤1048600):zy (EV prog pol) 217 [.t (.str s)]=some (bT (u5 s)):=by
 have h1:=iO s 46 (by omega);rw[show (((46:UInt8).toNat:Nat):Int)=46 from rfl]at h1;have hfl:(vE s).length≤1048700:=by unfold vE;cases (((y5 46 s).length:Int)==1)<;>simp<;>omega
 have h2:=rC (vE s) hfl;obtain⟨m1,m2,m3,m4,m5,m6,m7⟩:=yz (vE s) hfl;have h3:=wG ((y5 46 s).length:Int) 1 2;have hg:=dP (zq (vE s)).1.pre;have h4:=fun hp=>dC (zq (vE s)).1 (((y5 46 s).length:Int) - 1) m1 hp ⟨m3,m2⟩ ⟨m5,m4⟩ ⟨m7,m6⟩
 have hcn:1≤(y5 46 s).length:=by
  cases hc:y5 46 s with
  | nil=>exact absurd hc (xz 46 s)
  | cons p q=>simp
 have hbk:=wB 46 s;have hB:B2 ((y5 46 s).length:Int) 1 2=true→((y5 46 s).length:Int) - 1=0∨((y5 46 s).length:Int) - 1=1∨((y5 46 s).length:Int) - 1=2:=fun h=>by
  unfold B2 at h;simp only[Bool.and_eq_true,decide_eq_true_eq]at h;omega
 have h5:=fun h=>h4 (hB h)
 clear h4 hB;unfold u5 isV;unfold rvT at h2;have hfull:vE s=cond (((y5 46 s).length:Int)==1) (s++[46,48,46,48]) (s++[46,48]):=rfl;generalize vE s=f at *;generalize (zq f).2=ok at *;generalize (zq f).1=v at *;generalize uz v (((y5 46 s).length:Int) - 1)=bl at *;obtain⟨bt,bo⟩:=bl;generalize B2 ((y5 46 s).length:Int) 1 2=b2 at *;generalize y5 46 s=ps at *;simp only[Ver.enc,List.map_cons,List.map_nil]at h2 h5 ⊢
 cases h46:((ps.length:Int)==1)<;>rw[h46]at hfull<;>simp only[cond_true,cond_false]at hfull<;>subst hfull <;>
  cases ok<;>cases b2<;>cases hpre:(v.pre==[])<;>rw[hpre]at hg<;>simp only[Bool.not_true,Bool.not_false,Bool.or_true,Bool.or_false,Bool.true_or,Bool.false_or,cond_true,cond_false,bT]at hg ⊢
 all_goals simp only[true_implies,false_implies,reduceCtorEq]at h5
 all_goals cases bo
 all_goals try simp only[cond_true,cond_false]
 all_goals
  apply zw;refine zx rfl func217 rfl (by kernel_rfl) ?_;unfold Tryz.f217;simp (disch:=(try simp only[LL]);omega) only[↓GO,↓DRW,GA,GX,ren,zk,za,refs,z8,cst,zo,isC,bin,una,z7,zd,blt,asArg,zg,zc,zf,z6,zr,unN,ze,zm,zb,GS,simprocAttr,GZ,h1,h2,h3,h46,hg,h5,zn,zi,yf]
theorem TJ (b:Bd):w5 [b]=(isE b.1&&isE b.2):=by
 unfold w5;simp[B2]
theorem mj (x:Str):(ltW x=false∧decide ((x.length:Int) > 1)=false)∨(∃ a r,x=a::r∧decide ((x.length:Int) > 1)=true∧ltW x=(a==60)):=by
 unfold ltW
 cases h:decide ((x.length:Int) > 1) with
 | false=>left;simp
 | true =>
  right
  cases x with
  | nil=>simp at h
  | cons a r=>exact⟨a,r,rfl,rfl,by simp[hdB]⟩
theorem ft (x:Str):(geW x=false∧decide ((x.length:Int) > 2)=false)∨(decide ((x.length:Int) > 2)=true∧geW x=(x.take 2==[62,61])):=by
 unfold geW
 cases h:decide ((x.length:Int) > 2) with
 | false=>left;simp
 | true=>right;simp
theorem l_sg1 (x:Str):EV prog pol (.loop 216 122 0 [.ptr 0 0 0,.t (.list 1 [[.str x]]),.ptr 1 0 0,.t (.int .i64 0)] [.vs 2 [[.t (.str []),.t (.str [])]],.vs 2 [[.t (.str []),.t (.str [])]]])
 = some (cond (geW x) (.loop (.exit 0) [.ptr 0 0 0, .bad, .t (.list 1 [[.str x]]), .ptr 1 0 0] [.vs 2 [[.t (.str []), .t (.str [])]], .vs 2 [[.t (.str (x.drop 2)), .t (.str [])]]])
  (cond (ltW x) (.loop (.exit 0) [.ptr 0 0 0,.bad,.t (.list 1 [[.str x]]),.ptr 1 0 0] [.vs 2 [[.t (.str []),.t (.str [])]],.vs 2 [[.t (.str []),.t (.str (x.drop 1))]]])
   (.loop .ret [.ptr 0 0 0,.t (.bool false),.t (.list 1 [[.str x]]),.ptr 1 0 0] [.vs 2 [[.t (.str []),.t (.str [])]],.vs 2 [[.t (.str []),.t (.str [])]]]))):=by
 have E1:∀ lo' hi':Str,EV prog pol (.loop 216 122 0 [.ptr 0 0 0,.t (.list 1 [[.str x]]),.ptr 1 0 0,.t (.int .i64 1)] [.vs 2 [[.t (.str []),.t (.str [])]],.vs 2 [[.t (.str lo'),.t (.str hi')]]])=some (.loop (.exit 0) [.ptr 0 0 0,.bad,.t (.list 1 [[.str x]]),.ptr 1 0 0] [.vs 2 [[.t (.str []),.t (.str [])]],.vs 2 [[.t (.str lo'),.t (.str hi')]]]):=fun lo' hi'=>by
  refine zj func216 rfl rfl ?_;simp (disch:=(try simp only[LL]);omega) only[↓GO,↓DRW,GA,GX,ren,zk,za,refs,z8,cst,zo,isC,bin,una,z7,zd,blt,asArg,zg,zc,zf,z6,zr,unN,ze,zm,zb,GS,simprocAttr,GZ,zA]
 rcases ft x with⟨hg,g1⟩|⟨g1,hg⟩
 · rw[hg];rcases mj x with⟨hl,g3⟩|⟨a,r,hx,g3,hl⟩
   · rw[hl];simp only[cond_false];refine zj func216 rfl rfl ?_;simp (disch:=(try simp only[LL]);omega) only[↓GO,↓DRW,GA,GX,ren,zk,za,refs,z8,cst,zo,isC,bin,una,z7,zd,blt,asArg,zg,zc,zf,z6,zr,unN,ze,zm,zb,GS,simprocAttr,GZ,g1,g3,zA,Int.reduceAdd,Int.reduceSub,zi]
   · rw[hl];have h0:x[0]? = some a:=by rw[hx];rfl
     have h60:=iR a 60;rw[show (((60:UInt8).toNat:Nat):Int)=60 from rfl]at h60;have hxl:1≤x.length:=by rw[hx];simp
     clear hx hl;simp only[cond_false]
     cases hh:(a==60)<;>rw[hh]at h60<;>simp only[cond_true,cond_false]
     all_goals
      refine zj func216 rfl rfl ?_;simp (disch:=(try simp only[LL]);omega) only[↓GO,↓DRW,GA,GX,ren,zk,za,refs,z8,cst,zo,isC,bin,una,z7,zd,blt,asArg,zg,zc,zf,z6,zr,unN,ze,zm,zb,GS,simprocAttr,GZ,g1,g3,h0,h60,E1,zA,Int.reduceAdd,Int.reduceSub,zi]
 · rw[hg];have h2:2≤x.length:=by have:=of_decide_eq_true g1;omega
   cases ht:(x.take 2==[62,61]) with
   | true =>
    simp only[cond_true];refine zj func216 rfl rfl ?_;simp (disch:=(try simp only[LL]);omega) only[↓GO,↓DRW,GA,GX,ren,zk,za,refs,z8,cst,zo,isC,bin,una,z7,zd,blt,asArg,zg,zc,zf,z6,zr,unN,ze,zm,zb,GS,simprocAttr,GZ,g1,ht,E1,zA,Int.reduceAdd,Int.reduceSub,zi]
   | false =>
    simp only[cond_false];rcases mj x with⟨hl,g3⟩|⟨a,r,hx,g3,hl⟩
    · have:=of_decide_eq_false g3;omega
    · rw[hl];have h0:x[0]? = some a:=by rw[hx];rfl
      have h60:=iR a 60;rw[show (((60:UInt8).toNat:Nat):Int)=60 from rfl]at h60;clear hx hl
      cases hh:(a==60)<;>rw[hh]at h60<;>simp only[cond_true,cond_false]
      all_goals
       refine zj func216 rfl rfl ?_;simp (disch:=(try simp only[LL]);omega) only[↓GO,↓DRW,GA,GX,ren,zk,za,refs,z8,cst,zo,isC,bin,una,z7,zd,blt,asArg,zg,zc,zf,z6,zr,unN,ze,zm,zb,GS,simprocAttr,GZ,g1,g3,ht,h0,h60,E1,zA,Int.reduceAdd,Int.reduceSub,zi]
theorem Pp (x:Str) (ws:List (List T)) (n:Nat) (hn:n=ws.length) (h2:2≤n) (hl:n≤4194304) (h0:ws[0]? = some [.str x]) (B:xV)
 (IH:geW x=true→EV prog pol (.loop 216 122 0 [.ptr 0 0 0,.t (.list 1 ws),.ptr 1 0 0,.t (.int .i64 1)] [.vs 2 [[.t (.str []),.t (.str [])]],.vs 2 [[.t (.str (x.drop 2)),.t (.str [])]]])=some B) :
 EV prog pol (.loop 216 122 0 [.ptr 0 0 0,.t (.list 1 ws),.ptr 1 0 0,.t (.int .i64 0)] [.vs 2 [[.t (.str []),.t (.str [])]],.vs 2 [[.t (.str []),.t (.str [])]]])
 = some (cond (geW x) B (.loop .ret [.ptr 0 0 0,.t (.bool false),.t (.list 1 ws),.ptr 1 0 0] [.vs 2 [[.t (.str []),.t (.str [])]],.vs 2 [[.t (.str []),.t (.str [])]]])):=by
 have c0:decide ((0:Int)<(ws.length:Int))=true:=decide_eq_true (by omega);have c1:((0:Int)==(ws.length:Int) - 1)=false:=by rw[beq_eq_false_iff_ne];omega
 have hg0:tI ws 0=some [.str x]:=by rw[s8];exact h0
 subst hn;rcases ft x with⟨hg,g1⟩|⟨g1,hg⟩
 · rw[hg];simp only[cond_false];refine zj func216 rfl rfl ?_;simp (disch:=(try simp only[LL]);omega) only[↓GO,↓DRW,GA,GX,ren,zk,za,refs,z8,cst,zo,isC,bin,una,z7,zd,blt,asArg,zg,zc,zf,z6,zr,unN,ze,zm,zb,GS,simprocAttr,GZ,c0,c1,h0,hg0,g1,zA,zi]
 · rw[hg]at IH ⊢;have hx2:2≤x.length:=by have:=of_decide_eq_true g1;omega
   cases ht:(x.take 2==[62,61])<;>rw[ht]at IH<;>simp only[cond_true,cond_false]
   · refine zj func216 rfl rfl ?_;simp (disch:=(try simp only[LL]);omega) only[↓GO,↓DRW,GA,GX,ren,zk,za,refs,z8,cst,zo,isC,bin,una,z7,zd,blt,asArg,zg,zc,zf,z6,zr,unN,ze,zm,zb,GS,simprocAttr,GZ,c0,c1,h0,hg0,g1,ht,zA,zi]
   · have IH:=IH rfl;refine zj func216 rfl rfl ?_;simp (disch:=(try simp only[LL]);omega) only[↓GO,↓DRW,GA,GX,ren,zk,za,refs,z8,cst,zo,isC,bin,una,z7,zd,blt,asArg,zg,zc,zf,z6,zr,unN,ze,zm,zb,GS,simprocAttr,GZ,c0,c1,h0,hg0,g1,ht,IH,zA,zi,Int.reduceAdd]
theorem l_sg2 (x y lo:Str):EV prog pol (.loop 216 122 0 [.ptr 0 0 0,.t (.list 1 [[.str x],[.str y]]),.ptr 1 0 0,.t (.int .i64 1)] [.vs 2 [[.t (.str []),.t (.str [])]],.vs 2 [[.t (.str lo),.t (.str [])]]])
 = some (cond (ltW y) (.loop (.exit 0) [.ptr 0 0 0,.bad,.t (.list 1 [[.str x],[.str y]]),.ptr 1 0 0] [.vs 2 [[.t (.str []),.t (.str [])]],.vs 2 [[.t (.str lo),.t (.str (y.drop 1))]]])
  (.loop .ret [.ptr 0 0 0,.t (.bool false),.t (.list 1 [[.str x],[.str y]]),.ptr 1 0 0] [.vs 2 [[.t (.str []),.t (.str [])]],.vs 2 [[.t (.str lo),.t (.str [])]]])):=by
 have E1:∀ lo' hi':Str,EV prog pol (.loop 216 122 0 [.ptr 0 0 0,.t (.list 1 [[.str x],[.str y]]),.ptr 1 0 0,.t (.int .i64 2)] [.vs 2 [[.t (.str []),.t (.str [])]],.vs 2 [[.t (.str lo'),.t (.str hi')]]])=some (.loop (.exit 0) [.ptr 0 0 0,.bad,.t (.list 1 [[.str x],[.str y]]),.ptr 1 0 0] [.vs 2 [[.t (.str []),.t (.str [])]],.vs 2 [[.t (.str lo'),.t (.str hi')]]]):=fun lo' hi'=>by
  refine zj func216 rfl rfl ?_;simp (disch:=(try simp only[LL]);omega) only[↓GO,↓DRW,GA,GX,ren,zk,za,refs,z8,cst,zo,isC,bin,una,z7,zd,blt,asArg,zg,zc,zf,z6,zr,unN,ze,zm,zb,GS,simprocAttr,GZ,zA]
 rcases mj y with⟨hl,g3⟩|⟨a,r,hx,g3,hl⟩
 · rw[hl];simp only[cond_false];refine zj func216 rfl rfl ?_;simp (disch:=(try simp only[LL]);omega) only[↓GO,↓DRW,GA,GX,ren,zk,za,refs,z8,cst,zo,isC,bin,una,z7,zd,blt,asArg,zg,zc,zf,z6,zr,unN,ze,zm,zb,GS,simprocAttr,GZ,g3,zA,Int.reduceAdd,Int.reduceSub,zi]
 · rw[hl];have h0:y[0]? = some a:=by rw[hx];rfl
   have h60:=iR a 60;rw[show (((60:UInt8).toNat:Nat):Int)=60 from rfl]at h60;have hxl:1≤y.length:=by rw[hx];simp
   clear hx hl
   cases hh:(a==60)<;>rw[hh]at h60<;>simp only[cond_true,cond_false]
   all_goals
    refine zj func216 rfl rfl ?_;simp (disch:=(try simp only[LL]);omega) only[↓GO,↓DRW,GA,GX,ren,zk,za,refs,z8,cst,zo,isC,bin,una,z7,zd,blt,asArg,zg,zc,zf,z6,zr,unN,ze,zm,zb,GS,simprocAttr,GZ,g3,h0,h60,E1,zA,Int.reduceAdd,Int.reduceSub,zi]
theorem l_sg3 (x y lo:Str)(ws:List (List T))(n:Nat)(hn:n=ws.length)(h2:3≤n)(hl:n≤4194304):EV prog pol (.loop 216 122 0 [.ptr 0 0 0,.t (.list 1 ws),.ptr 1 0 0,.t (.int .i64 1)] [.vs 2 [[.t (.str []),.t (.str [])]],.vs 2 [[.t (.str lo),.t (.str [])]]])
 = some (.loop .ret [.ptr 0 0 0,.t (.bool false),.t (.list 1 ws),.ptr 1 0 0] [.vs 2 [[.t (.str []),.t (.str [])]],.vs 2 [[.t (.str lo),.t (.str [])]]]):=by
 have c0:decide ((1:Int)<(ws.length:Int))=true:=decide_eq_true (by omega);have c1:((1:Int)==(ws.length:Int) - 1)=false:=by rw[beq_eq_false_iff_ne];omega
 subst hn;refine zj func216 rfl rfl ?_;simp (disch:=(try simp only[LL]);omega) only[↓GO,↓DRW,GA,GX,ren,zk,za,refs,z8,cst,zo,isC,bin,una,z7,zd,blt,asArg,zg,zc,zf,z6,zr,unN,ze,zm,zb,GS,simprocAttr,GZ,c0,c1,zA,zi]
theorem UZ (s:Str)(hl:s.length≤1048600):zy (EV prog pol) 216 [.t (.str s)]=some (bT (tP s)):=by
 have h1:=QD s (by omega);have hbk:=wB 32 s;unfold tP
 match hp:y5 32 s with
 | []=>exact absurd hp (xz 32 s)
 | [x] =>
  rw[hp]at h1 hbk;simp only[ya,List.length_cons,List.length_nil]at hbk;have L:=l_sg1 x;have hd2:(x.drop 2).length≤x.length:=by rw[List.length_drop];omega
  have hd1:(x.drop 1).length≤x.length:=by rw[List.length_drop];omega
  have r1:=dQ [(x.drop 2,[])] (by simp) (by simp;omega);have r2:=dQ [([],x.drop 1)] (by simp) (by simp;omega);rw[TJ]at r1 r2;simp only[bdT,List.map_cons,List.map_nil,w4,y0]at r1 r2 h1 ⊢;generalize (isE (x.drop 2)&&isE [])=k1 at *;generalize (isE []&&isE (x.drop 1))=k2 at *
  cases hg:geW x<;>rw[hg]at L<;>simp only[cond_true,cond_false]at L ⊢
  · cases hq:ltW x<;>rw[hq]at L<;>simp only[cond_true,cond_false]at L ⊢
    · simp only[bT];apply zw;refine zx rfl func216 rfl (by kernel_rfl) ?_;unfold Tryz.f216;simp (disch:=(try simp only[LL]);omega) only[↓GO,↓DRW,GA,GX,ren,zk,za,refs,z8,cst,zo,isC,bin,una,z7,zd,blt,asArg,zg,zc,zf,z6,zr,unN,ze,zm,zb,GS,simprocAttr,GZ,h1,L,zA]
    · cases k2<;>simp only[cond_true,cond_false,bT]
      all_goals
       apply zw;refine zx rfl func216 rfl (by kernel_rfl) ?_;unfold Tryz.f216;simp (disch:=(try simp only[LL]);omega) only[↓GO,↓DRW,GA,GX,ren,zk,za,refs,z8,cst,zo,isC,bin,una,z7,zd,blt,asArg,zg,zc,zf,z6,zr,unN,ze,zm,zb,GS,simprocAttr,GZ,h1,L,r2,zA]
  · cases k1<;>simp only[cond_true,cond_false,bT]
    all_goals
     apply zw;refine zx rfl func216 rfl (by kernel_rfl) ?_;unfold Tryz.f216;simp (disch:=(try simp only[LL]);omega) only[↓GO,↓DRW,GA,GX,ren,zk,za,refs,z8,cst,zo,isC,bin,una,z7,zd,blt,asArg,zg,zc,zf,z6,zr,unN,ze,zm,zb,GS,simprocAttr,GZ,h1,L,r1,zA]
 | [x, y] =>
  rw[hp]at h1 hbk;simp only[ya,List.length_cons,List.length_nil]at hbk;have L2:=l_sg2 x y (x.drop 2);have L:=Pp x [[.str x],[.str y]] 2 rfl (by omega) (by omega) rfl _ (fun _=>L2);have hd2:(x.drop 2).length≤x.length:=by rw[List.length_drop];omega
  have hd1:(y.drop 1).length≤y.length:=by rw[List.length_drop];omega
  have r1:=dQ [(x.drop 2,y.drop 1)] (by simp) (by simp;omega);rw[TJ]at r1;simp only[bdT,List.map_cons,List.map_nil,w4,y0]at r1 h1 ⊢;generalize (isE (x.drop 2)&&isE (y.drop 1))=k1 at *;clear L2
  cases hg:geW x<;>rw[hg]at L<;>simp only[cond_true,cond_false]at L ⊢
  · simp only[bT];apply zw;refine zx rfl func216 rfl (by kernel_rfl) ?_;unfold Tryz.f216;simp (disch:=(try simp only[LL]);omega) only[↓GO,↓DRW,GA,GX,ren,zk,za,refs,z8,cst,zo,isC,bin,una,z7,zd,blt,asArg,zg,zc,zf,z6,zr,unN,ze,zm,zb,GS,simprocAttr,GZ,h1,L,zA]
  · cases hq:ltW y<;>rw[hq]at L<;>simp only[cond_true,cond_false]at L ⊢
    · simp only[bT];apply zw;refine zx rfl func216 rfl (by kernel_rfl) ?_;unfold Tryz.f216;simp (disch:=(try simp only[LL]);omega) only[↓GO,↓DRW,GA,GX,ren,zk,za,refs,z8,cst,zo,isC,bin,una,z7,zd,blt,asArg,zg,zc,zf,z6,zr,unN,ze,zm,zb,GS,simprocAttr,GZ,h1,L,zA]
    · cases k1<;>simp only[cond_true,cond_false,bT]
      all_goals
       apply zw;refine zx rfl func216 rfl (by kernel_rfl) ?_;unfold Tryz.f216;simp (disch:=(try simp only[LL]);omega) only[↓GO,↓DRW,GA,GX,ren,zk,za,refs,z8,cst,zo,isC,bin,una,z7,zd,blt,asArg,zg,zc,zf,z6,zr,unN,ze,zm,zb,GS,simprocAttr,GZ,h1,L,r1,zA]
 | x :: y :: z :: r =>
  rw[hp]at h1 hbk;have hn:(strs (x::y::z::r)).length=r.length+3:=by rw[zn];simp
  have hb3:r.length+3≤4194304:=by simp only[List.length_cons]at hbk;omega
  have L:=Pp x (strs (x::y::z::r)) _ rfl (by omega) (by omega) rfl _ (fun _=>l_sg3 x y (x.drop 2) (strs (x::y::z::r)) _ rfl (by omega) (by omega));simp only[bT];generalize strs (x::y::z::r)=ws at *
  cases hg:geW x<;>rw[hg]at L<;>simp only[cond_true,cond_false]at L
  all_goals
   apply zw;refine zx rfl func216 rfl (by kernel_rfl) ?_;unfold Tryz.f216;simp (disch:=(try simp only[LL]);omega) only[↓GO,↓DRW,GA,GX,ren,zk,za,refs,z8,cst,zo,isC,bin,una,z7,zd,blt,asArg,zg,zc,zf,z6,zr,unN,ze,zm,zb,GS,simprocAttr,GZ,h1,L,zA]
theorem QH (s:Str)(hl:s.length≤1048576):zy (EV prog pol) 178 [.t (.str s)]=some (bT (wC s)):=by
 have hs:=UZ s (by omega);have ha:=Z8 s (by omega);rw[N2]at ha;have hsh:=T0 s (by omega);have hd1:(s.drop 1).length≤s.length:=by rw[List.length_drop];omega
 have hrv:=rC (s.drop 1) (by omega);obtain⟨m1,m2,m3,m4,m5,m6,m7⟩:=yz (s.drop 1) (by omega);have hf1:=Su (s.drop 1) (zq (s.drop 1)).1 1 m1 (by omega) ⟨m3,m2⟩ ⟨m5,m4⟩ ⟨m7,m6⟩;have hf2:=Su (s.drop 1) (zq (s.drop 1)).1 (tk (zq (s.drop 1)).1) m1 (VE _) ⟨m3,m2⟩ ⟨m5,m4⟩ ⟨m7,m6⟩;have hc:=Tc (zq (s.drop 1)).1;unfold rvT at hrv;rw[show (zq (s.drop 1)).2=isV (s.drop 1) from rfl]at hrv;unfold wC;generalize tP s=sg at *;generalize xB s=ex at *;generalize u5 s=sh at *;generalize isV (s.drop 1)=iv at *;generalize tk (zq (s.drop 1)).1=cr at *;generalize hfd:iS (zq (s.drop 1)).1 (s.drop 1) 1=f1 at *;generalize hfc:iS (zq (s.drop 1)).1 (s.drop 1) cr=f2 at *;generalize (zq (s.drop 1)).1=v at *;simp only[Ver.enc,List.map_cons,List.map_nil]at hrv hf1 hf2 hc
 cases h42:(s==[42]) with
 | true =>
  simp only[cond_true,bT];apply zw;refine zx rfl func178 rfl (by kernel_rfl) ?_;unfold Tryz.f178;simp (disch:=(try simp only[LL]);omega) only[↓GO,↓DRW,GA,GX,ren,zk,za,refs,z8,cst,zo,isC,bin,una,z7,zd,blt,asArg,zg,zc,zf,z6,zr,unN,ze,zm,zb,GS,simprocAttr,GZ,h42]
 | false =>
  simp only[cond_false]
  match s with
  | [] =>
   have z1:decide ((([]:Str).length:Int) > 1)=false:=rfl;have z0:decide ((([]:Str).length:Int) > 0)=false:=rfl;rw[z1,z0];simp only[Bool.false_and,cond_false]
   cases ex<;>cases sh<;>simp only[bT]at ha hsh ⊢
   all_goals
    apply zw;refine zx rfl func178 rfl (by kernel_rfl) ?_;unfold Tryz.f178;simp (disch:=(try simp only[LL]);omega) only[↓GO,↓DRW,GA,GX,ren,zk,za,refs,z8,cst,zo,isC,bin,una,z7,zd,blt,asArg,zg,zc,zf,z6,zr,unN,ze,zm,zb,GS,simprocAttr,GZ,h42,z1,z0,ha,hsh]
  | x :: r =>
   have z0:decide (((x::r).length:Int) > 0)=true:=by apply decide_eq_true;simp only[List.length_cons];omega
   have h0:(x::r)[0]? = some x:=rfl;have h94:=iR x 94;have h126:=iR x 126;have h62:=iR x 62;have h60:=iR x 60;rw[show (((94:UInt8).toNat:Nat):Int)=94 from rfl]at h94;rw[show (((126:UInt8).toNat:Nat):Int)=126 from rfl]at h126;rw[show (((62:UInt8).toNat:Nat):Int)=62 from rfl]at h62;rw[show (((60:UInt8).toNat:Nat):Int)=60 from rfl]at h60;have hx1:1≤(x::r).length:=by simp
   simp only[hdB];rw[z0];generalize x::r=xs at *
   cases z1:decide ((xs.length:Int) > 1)
   · simp only[Bool.true_and,Bool.false_and,Bool.or_true,Bool.or_false,Bool.true_or,Bool.false_or,cond_true,cond_false,hfc,hfd]
     cases e62:(x==62)<;>rw[e62]at h62
     · cases e60:(x==60)<;>rw[e60]at h60<;>simp only[Bool.true_and,Bool.false_and,Bool.or_true,Bool.or_false,Bool.true_or,Bool.false_or,cond_true,cond_false,hfc,hfd]
       · cases ex<;>cases sh<;>simp only[bT]at ha hsh ⊢
         all_goals
          apply zw;refine zx rfl func178 rfl (by kernel_rfl) ?_;unfold Tryz.f178;simp (disch:=(try simp only[LL]);omega) only[↓GO,↓DRW,GA,GX,ren,zk,za,refs,z8,cst,zo,isC,bin,una,z7,zd,blt,asArg,zg,zc,zf,z6,zr,unN,ze,zm,zb,GS,simprocAttr,GZ,h42,z1,z0,h0,h62,h60,ha,hsh,zA]
       · cases sg<;>simp only[bT]at hs ⊢
         all_goals
          apply zw;refine zx rfl func178 rfl (by kernel_rfl) ?_;unfold Tryz.f178;simp (disch:=(try simp only[LL]);omega) only[↓GO,↓DRW,GA,GX,ren,zk,za,refs,z8,cst,zo,isC,bin,una,z7,zd,blt,asArg,zg,zc,zf,z6,zr,unN,ze,zm,zb,GS,simprocAttr,GZ,h42,z1,z0,h0,h62,h60,hs,zA]
     · simp only[Bool.true_and,Bool.false_and,Bool.or_true,Bool.or_false,Bool.true_or,Bool.false_or,cond_true,cond_false,hfc,hfd]
       cases sg<;>simp only[bT]at hs ⊢
       all_goals
        apply zw;refine zx rfl func178 rfl (by kernel_rfl) ?_;unfold Tryz.f178;simp (disch:=(try simp only[LL]);omega) only[↓GO,↓DRW,GA,GX,ren,zk,za,refs,z8,cst,zo,isC,bin,una,z7,zd,blt,asArg,zg,zc,zf,z6,zr,unN,ze,zm,zb,GS,simprocAttr,GZ,h42,z1,z0,h0,h62,hs,zA]
   · cases e94:(x==94)<;>rw[e94]at h94
     · cases e126:(x==126)<;>rw[e126]at h126<;>simp only[Bool.true_and,Bool.false_and,Bool.or_true,Bool.or_false,Bool.true_or,Bool.false_or,cond_true,cond_false,hfc,hfd]
       · cases e62:(x==62)<;>rw[e62]at h62
         · cases e60:(x==60)<;>rw[e60]at h60<;>simp only[Bool.true_and,Bool.false_and,Bool.or_true,Bool.or_false,Bool.true_or,Bool.false_or,cond_true,cond_false,hfc,hfd]
           · cases ex<;>cases sh<;>simp only[bT]at ha hsh ⊢
             all_goals
              apply zw;refine zx rfl func178 rfl (by kernel_rfl) ?_;unfold Tryz.f178;simp (disch:=(try simp only[LL]);omega) only[↓GO,↓DRW,GA,GX,ren,zk,za,refs,z8,cst,zo,isC,bin,una,z7,zd,blt,asArg,zg,zc,zf,z6,zr,unN,ze,zm,zb,GS,simprocAttr,GZ,h42,z1,z0,h0,h94,h126,h62,h60,ha,hsh,zA]
           · cases sg<;>simp only[bT]at hs ⊢
             all_goals
              apply zw;refine zx rfl func178 rfl (by kernel_rfl) ?_;unfold Tryz.f178;simp (disch:=(try simp only[LL]);omega) only[↓GO,↓DRW,GA,GX,ren,zk,za,refs,z8,cst,zo,isC,bin,una,z7,zd,blt,asArg,zg,zc,zf,z6,zr,unN,ze,zm,zb,GS,simprocAttr,GZ,h42,z1,z0,h0,h94,h126,h62,h60,hs,zA]
         · simp only[Bool.true_and,Bool.false_and,Bool.or_true,Bool.or_false,Bool.true_or,Bool.false_or,cond_true,cond_false,hfc,hfd]
           cases sg<;>simp only[bT]at hs ⊢
           all_goals
            apply zw;refine zx rfl func178 rfl (by kernel_rfl) ?_;unfold Tryz.f178;simp (disch:=(try simp only[LL]);omega) only[↓GO,↓DRW,GA,GX,ren,zk,za,refs,z8,cst,zo,isC,bin,una,z7,zd,blt,asArg,zg,zc,zf,z6,zr,unN,ze,zm,zb,GS,simprocAttr,GZ,h42,z1,z0,h0,h94,h126,h62,hs,zA]
       · cases iv<;>simp only[Bool.not_true,Bool.not_false,cond_true,cond_false,bT]at hrv ⊢
         · apply zw;refine zx rfl func178 rfl (by kernel_rfl) ?_;unfold Tryz.f178;simp (disch:=(try simp only[LL]);omega) only[↓GO,↓DRW,GA,GX,ren,zk,za,refs,z8,cst,zo,isC,bin,una,z7,zd,blt,asArg,zg,zc,zf,z6,zr,unN,ze,zm,zb,GS,simprocAttr,GZ,h42,z1,z0,h0,h94,h126,hrv,hx1,zA]
         · cases f1<;>simp only[bT]at hf1 ⊢
           all_goals
            apply zw;refine zx rfl func178 rfl (by kernel_rfl) ?_;unfold Tryz.f178;simp (disch:=(try simp only[LL]);omega) only[↓GO,↓DRW,GA,GX,ren,zk,za,refs,z8,cst,zo,isC,bin,una,z7,zd,blt,asArg,zg,zc,zf,z6,zr,unN,ze,zm,zb,GS,simprocAttr,GZ,h42,z1,z0,h0,h94,h126,hrv,hf1,hx1,zA];refine zR (by kernel_rfl) ?_;rfl
     · cases e126:(x==126)<;>rw[e126]at h126<;>simp only[Bool.true_and,Bool.false_and,Bool.or_true,Bool.or_false,Bool.true_or,Bool.false_or,cond_true,cond_false,hfc,hfd]<;>cases iv<;>simp only[Bool.not_true,Bool.not_false,cond_true,cond_false,bT]at hrv ⊢
       · apply zw;refine zx rfl func178 rfl (by kernel_rfl) ?_;unfold Tryz.f178;simp (disch:=(try simp only[LL]);omega) only[↓GO,↓DRW,GA,GX,ren,zk,za,refs,z8,cst,zo,isC,bin,una,z7,zd,blt,asArg,zg,zc,zf,z6,zr,unN,ze,zm,zb,GS,simprocAttr,GZ,h42,z1,z0,h0,h94,h126,hrv,hx1,zA]
       · cases f2<;>simp only[bT]at hf2 ⊢
         all_goals
          apply zw;refine zx rfl func178 rfl (by kernel_rfl) ?_;unfold Tryz.f178;simp (disch:=(try simp only[LL]);omega) only[↓GO,↓DRW,GA,GX,ren,zk,za,refs,z8,cst,zo,isC,bin,una,z7,zd,blt,asArg,zg,zc,zf,z6,zr,unN,ze,zm,zb,GS,simprocAttr,GZ,h42,z1,z0,h0,h94,h126,hrv,hc,hf2,hx1,zA];refine zR (by kernel_rfl) ?_;rfl
       · apply zw;refine zx rfl func178 rfl (by kernel_rfl) ?_;unfold Tryz.f178;simp (disch:=(try simp only[LL]);omega) only[↓GO,↓DRW,GA,GX,ren,zk,za,refs,z8,cst,zo,isC,bin,una,z7,zd,blt,asArg,zg,zc,zf,z6,zr,unN,ze,zm,zb,GS,simprocAttr,GZ,h42,z1,z0,h0,h94,h126,hrv,hx1,zA]
       · cases f1<;>simp only[bT]at hf1 ⊢
         all_goals
          apply zw;refine zx rfl func178 rfl (by kernel_rfl) ?_;unfold Tryz.f178;simp (disch:=(try simp only[LL]);omega) only[↓GO,↓DRW,GA,GX,ren,zk,za,refs,z8,cst,zo,isC,bin,una,z7,zd,blt,asArg,zg,zc,zf,z6,zr,unN,ze,zm,zb,GS,simprocAttr,GZ,h42,z1,z0,h0,h94,h126,hrv,hc,hf1,hx1,zA];refine zR (by kernel_rfl) ?_;rfl
def glue (c:Str):List Str→List Str
 | p::r=>(c++p)::r
 | []=>[]
theorem aw:∀ l:List Str,glue [] l=l
 | []=>rfl
 | p::r=>rfl
theorem im:∀ (k:Nat) (s:Str),s.length<4→k≤s.length→xA k s=[s.drop k]
 | k,[],_,h=>by
  have:k=0:=by simpa using h
  subst this;rfl
 | 0, x :: r, h, _ => by
  have hp:vV.isPrefixOf (x::r)=false:=by
   cases h2:vV.isPrefixOf (x::r) with
   | false=>rfl
   | true=>have:=Pg h2;omega
  have ih:=im 0 r (by simp only[List.length_cons]at h;omega) (by omega);rw[sa x r r [] hp ih];rfl
 | k+1,x::r,h,hk=>by
  rw[xA,im k r (by simp only[List.length_cons]at h;omega) (by simpa using hk)];rfl
theorem ZJ (s:Str)(h:4≤s.length):vV.isPrefixOf s=(s.take 4==vV):=by
 match s,h with
 | a::b::c::d::r,_ =>
  unfold vV;rw[Bool.eq_iff_iff];simp[List.isPrefixOf];constructor
  · rintro⟨h1,h2,h3,h4⟩;exact⟨h1.symm,h2.symm,h3.symm,h4.symm⟩
  · rintro⟨h1,h2,h3,h4⟩;exact⟨h1.symm,h2.symm,h3.symm,h4.symm⟩
theorem oZ (s : Str) (hl : s.length ≤ 4194304) : ∀ (n f m : Nat) (out : List Str) (cap : Option Nat), s.length - m = n → f ≤ s.length → m ≤ s.length → out.length ≤ m →
 ∃ (out':List Str) (fr:Nat) (cap':Option Nat),out'.length≤s.length∧fr≤s.length∧out'++[s.drop fr]=out++glue ((s.drop f).take (m - f)) (xA (f - m) (s.drop m)) ∧
  EV prog pol (.loop 177 122 0 [.t (.str s),.sl 0 0 out.length cap,.t (.int .i64 (f:Int)),.t (.int .i64 (m:Int))] [.ts 1 (strs out)])=some (.loop (.exit 0) [.t (.str s),.sl 0 0 out'.length cap',.t (.int .i64 (fr:Int))] [.ts 1 (strs out')])
 | n, f, m, out, cap, hn, hf, hm, ho => by
  by_cases hc:m+4≤s.length
  · have c:decide ((m:Int)+4≤(s.length:Int))=true:=decide_eq_true (by omega);have e4:((m:Int)+4)=((m+4:Nat):Int):=by omega
    have e1:((m:Int)+1)=((m+1:Nat):Int):=by omega
    have hdl:(s.drop m).length=s.length - m:=List.length_drop;obtain⟨x,r,hx⟩:∃ x r,s.drop m=x::r:=by
     cases h:s.drop m with
     | nil=>rw[h]at hdl;simp at hdl;omega
     | cons x r=>exact⟨x,r,rfl⟩
    have hr:s.drop (m+1)=r:=by rw[← List.drop_drop,hx];rfl
    by_cases hfm:f≤m
    · have g:decide ((m:Int)≥(f:Int))=true:=decide_eq_true (by omega);have hk:f - m=0:=by omega
      have ht:=ZJ (s.drop m) (by omega);have hN:((m:Int)+4).toNat - m=4:=by omega
      have hN2:((m:Int)+4).toNat=m+4:=by omega
      have hol:out.length≤4194304:=by omega
      cases hp:vV.isPrefixOf (s.drop m) with
      | true =>
       obtain⟨out',fr,cap',q1,q2,q3,q4⟩:=oZ s hl (n - 1) (m+4) (m+1) (out++[(s.drop f).take (m - f)]) none (by omega) (by omega) (by omega) (by simp;omega);refine⟨out',fr,cap',q1,q2,?_,?_⟩
       · rw[q3,hr,show m+4 - (m+1)=3 by omega,show m+1 - (m+4)=0 by omega,hk,hx,il x r (by rw[← hx];exact hp)];rw[show glue ((s.drop f).take (m - f)) ([]::xA 3 r)=((s.drop f).take (m - f)++[])::xA 3 r from rfl,List.take_zero,aw,List.append_nil,List.append_assoc];rfl
       · rw[hp]at ht;rw[sj,w4,y0,List.length_append,List.length_cons,List.length_nil,Nat.zero_add,← e4,← e1]at q4;have ht':((s.drop m).take 4==[32,124,124,32])=true:=ht.symm;clear hx hr q3;refine zj func177 rfl rfl ?_;simp (disch:=(try simp only[LL]);omega) only[↓GO,↓DRW,GA,GX,ren,zk,za,refs,z8,cst,zo,isC,bin,una,z7,zd,blt,asArg,zg,zc,zf,z6,zr,unN,ze,zm,zb,GS,simprocAttr,GZ,c,g,hN,ht',zi,q4,zn,yf]
      | false =>
       obtain⟨out',fr,cap',q1,q2,q3,q4⟩:=oZ s hl (n - 1) f (m+1) out cap (by omega) (by omega) (by omega) (by omega);refine⟨out',fr,cap',q1,q2,?_,?_⟩
       · rw[q3,hr,hk,show f - (m+1)=0 by omega,hx];have htk:(s.drop f).take (m+1 - f)=(s.drop f).take (m - f)++[x]:=by
          have hdd:(s.drop f).drop (m - f)=x::r:=by rw[List.drop_drop,show f+(m - f)=m by omega];exact hx
          rw[show m+1 - f=(m - f)+1 by omega,List.take_add,hdd];rfl
         rw[htk]
         cases h0:xA 0 r with
         | nil=>exact absurd h0 (nG 0 r)
         | cons p q=>rw[sa x r p q (by rw[← hx];exact hp) h0];simp[glue]
       · rw[hp]at ht;rw[← e1]at q4;have ht':((s.drop m).take 4==[32,124,124,32])=false:=ht.symm;clear hx hr q3;refine zj func177 rfl rfl ?_;simp (disch:=(try simp only[LL]);omega) only[↓GO,↓DRW,GA,GX,ren,zk,za,refs,z8,cst,zo,isC,bin,una,z7,zd,blt,asArg,zg,zc,zf,z6,zr,unN,ze,zm,zb,GS,simprocAttr,GZ,c,g,hN,ht',zi,q4,zn,yf]
    · have g:decide ((m:Int)≥(f:Int))=false:=decide_eq_false (by omega);obtain⟨out',fr,cap',q1,q2,q3,q4⟩:=oZ s hl (n - 1) f (m+1) out cap (by omega) (by omega) (by omega) (by omega);refine⟨out',fr,cap',q1,q2,?_,?_⟩
      · rw[q3,hr,show m+1 - f=0 by omega,show m - f=0 by omega,hx,show f - m=(f - (m+1))+1 by omega,xA]
      · rw[← e1]at q4;clear hx hr q3;refine zj func177 rfl rfl ?_;simp (disch:=(try simp only[LL]);omega) only[↓GO,↓DRW,GA,GX,ren,zk,za,refs,z8,cst,zo,isC,bin,una,z7,zd,blt,asArg,zg,zc,zf,z6,zr,unN,ze,zm,zb,GS,simprocAttr,GZ,c,g,zi,q4,zn,yf]
  · have c:decide ((m:Int)+4≤(s.length:Int))=false:=decide_eq_false (by omega);refine⟨out,f,cap,by omega,hf,?_,?_⟩
    · have hdl:(s.drop m).length=s.length - m:=List.length_drop;rw[im (f - m) (s.drop m) (by omega) (by omega)];simp only[glue,List.drop_drop]
      by_cases hfm:f≤m
      · rw[show f - m=0 by omega,Nat.add_zero]
        congr 2
        have:=List.take_append_drop (m - f) (s.drop f);rw[List.drop_drop,show f+(m - f)=m by omega]at this;exact this.symm
      · rw[show m - f=0 by omega,show m+(f - m)=f by omega];rfl
    · refine zj func177 rfl rfl ?_;simp (disch:=(try simp only[LL]);omega) only[↓GO,↓DRW,GA,GX,ren,zk,za,refs,z8,cst,zo,isC,bin,una,z7,zd,blt,asArg,zg,zc,zf,z6,zr,unN,ze,zm,zb,GS,simprocAttr,GZ,c,zi]
termination_by n f m=>s.length - m
decreasing_by all_goals omega
theorem T7 (s:Str)(hl:s.length≤4194304):zy (EV prog pol) 177 [.t (.str s)]=some (.t (.list 1 (strs (xA 0 s)))):=by
 obtain⟨out,fr,cap,q1,q2,q3,q4⟩:=oZ s hl s.length 0 0 [] (some 0) (by omega) (by omega) (by omega) (by simp);simp only[List.nil_append,List.length_nil,Int.natCast_zero,y0,List.drop_zero,Nat.sub_zero,List.take_zero,aw,Nat.sub_self]at q4 q3;have ho:(strs out++[[.str (List.drop fr s)]])=strs (xA 0 s):=by rw[← q3,sj];rfl
 have ht:List.take (out.length+1) (strs (xA 0 s))=strs (xA 0 s):=List.take_of_length_le (by rw[zn,← q3];simp);apply zw;refine zx rfl func177 rfl (by kernel_rfl) ?_;unfold Tryz.f177;simp (disch:=(try simp only[LL]);omega) only[↓GO,↓DRW,GA,GX,ren,zk,za,refs,z8,cst,zo,isC,bin,una,z7,zd,blt,asArg,zg,zc,zf,z6,zr,unN,ze,zm,zb,GS,simprocAttr,GZ,q4,zn,yf,ho,ht]
def lS (ps:List Str)(acc:List Bd)(cap:Option Nat)(x:List Bd):Option (List Bd)→xV
 | some bs=>.loop (.exit 0) [.bad,.bad,.sl 0 0 (acc.length+bs.length) cap] [.ts 2 (bdT (acc++bs))]
 | none=>.loop .ret [.sl 0 0 0 (some 0),.t (.bool false),.sl 1 0 x.length cap] [.ts 2 [],.ts 2 (bdT x)]
theorem Pq (ps:List Str)(hl:ps.length≤1048577)(hb:∀ p∈ps,p.length≤1048576):∀ (rest pre:List Str) (acc:List Bd) (cap:Option Nat) (m:Nat),ps=pre++rest→m=acc.length→acc.length=pre.length →
 ∃ cap' x,EV prog pol (.loop 114 250 0 [.sl 0 0 m cap,.t (.list 1 (strs ps)),.t (.int .i64 (pre.length:Int))] [.ts 2 (bdT acc)])=some (lS ps acc cap' x (tm rest))
 | [],pre,acc,cap,m,hs,hm,ha=>by
  have c:decide ((pre.length:Int)<(ps.length:Int))=false:=by simp[hs]
  refine⟨cap,[],?_⟩;simp only[tm,lS,List.append_nil,List.length_nil,Nat.add_zero];subst hm;refine zj func114 rfl rfl ?_;simp (disch:=(try simp only[LL]);omega) only[↓GO,↓DRW,GA,GX,ren,zk,za,refs,z8,cst,zo,isC,bin,una,z7,zd,blt,asArg,zg,zc,zf,z6,zr,unN,ze,zm,zb,GS,simprocAttr,GZ,c,zn,zA]
 | p :: rest, pre, acc, cap, m, hs, hm, ha => by
  have c:decide ((pre.length:Int)<(ps.length:Int))=true:=by simp[hs];omega
  have hget:(strs ps)[pre.length]? = some [.str p]:=by rw[hs];exact vN (fun s:Str=>[T.str s]) pre p rest
  have hlen:pre.length+rest.length+1≤ps.length:=by rw[hs];simp;omega
  have hpb:=hb p (by rw[hs];simp);have hB:=QH p hpb;have IHs:=fun b=>Pq ps hl hb rest (pre++[p]) (acc++[b]) none (m+1) (by rw[hs];simp) (by simp[hm]) (by simp[ha])
  rw[show ((pre++[p]).length:Int)=(pre.length:Int)+1 by simp]at IHs;have hol:(bdT acc).length=m:=by rw[wH,hm]
  have hml:m≤1048578:=by omega
  have hpl:pre.length≤1048577:=by omega
  clear hs hb;simp only[tm]
  cases hp:wC p with
  | none =>
   rw[hp]at hB;refine⟨cap,acc,?_⟩;simp only[bT]at hB;unfold lS;simp only;subst hm;refine zj func114 rfl rfl ?_;simp (disch:=(try simp only[LL]);omega) only[↓GO,↓DRW,GA,GX,ren,zk,za,refs,z8,cst,zo,isC,bin,una,z7,zd,blt,asArg,zg,zc,zf,z6,zr,unN,ze,zm,zb,GS,simprocAttr,GZ,c,hget,hB,zi,hol,zn,zA,yf]
  | some b =>
   obtain⟨lo,hi⟩:=b;rw[hp]at hB;simp only[bT]at hB;obtain⟨cap',x,IH⟩:=IHs (lo,hi);refine⟨cap',x,?_⟩;rw[Wj,show bdT [(lo,hi)]=[[T.str lo,T.str hi]] from rfl]at IH;simp only;rw[show lS ps (acc++[(lo,hi)]) cap' x (tm rest)=lS ps acc cap' x (match tm rest with|some bs=>some ((lo,hi)::bs)|none=>none) by
    cases tm rest with
    | none=>rfl
    | some bs=>simp only[lS];rw[List.append_assoc];simp only[List.length_append,List.length_cons,List.length_nil,List.cons_append,List.nil_append];rw[show acc.length+(0+1)+bs.length=acc.length+(bs.length+1) by omega]]at IH
   refine zj func114 rfl rfl ?_;simp (disch:=(try simp only[LL]);omega) only[↓GO,↓DRW,GA,GX,ren,zk,za,refs,z8,cst,zo,isC,bin,una,z7,zd,blt,asArg,zg,zc,zf,z6,zr,unN,ze,zm,zb,GS,simprocAttr,GZ,c,hget,hB,zi,hol,zn,IH,zA,yf]
   try (cases tm rest<;>rfl)
theorem PS (s:Str)(hl:s.length≤1048576):zy (EV prog pol) 114 [.t (.str s)]=some (rrT (vC s)):=by
 unfold vC;have h1:=T7 s (by omega);have hbk:=sb 0 s;have hcn:1≤(xA 0 s).length:=by
  cases hc:xA 0 s with
  | nil=>exact absurd hc (nG 0 s)
  | cons p q=>simp
 have hmem:∀ p∈xA 0 s,p.length≤1048576:=fun p hp=>by have:=wO hp;omega
 generalize xA 0 s=ps at *;obtain⟨cap,x,L⟩:=Pq ps (by omega) hmem ps [] [] (some 0) 0 rfl rfl rfl;rw[show bdT []=[] from rfl]at L;simp only[List.length_nil,Int.natCast_zero]at L;have hpl:ps.length≤1048577:=by omega
 cases h200:decide ((s.length:Int) > 200) with
 | true =>
  simp only[Bool.true_or,cond_true,rrT];apply zw;refine zx rfl func114 rfl (by kernel_rfl) ?_;unfold Tryz.f114;simp (disch:=(try simp only[LL]);omega) only[↓GO,↓DRW,GA,GX,ren,zk,za,refs,z8,cst,zo,isC,bin,una,z7,zd,blt,asArg,zg,zc,zf,z6,zr,unN,ze,zm,zb,GS,simprocAttr,GZ,h1,h200,zn]
 | false =>
  cases h8:decide ((ps.length:Int) > 8) with
  | true =>
   simp only[Bool.or_true,cond_true,rrT];apply zw;refine zx rfl func114 rfl (by kernel_rfl) ?_;unfold Tryz.f114;simp (disch:=(try simp only[LL]);omega) only[↓GO,↓DRW,GA,GX,ren,zk,za,refs,z8,cst,zo,isC,bin,una,z7,zd,blt,asArg,zg,zc,zf,z6,zr,unN,ze,zm,zb,GS,simprocAttr,GZ,h1,h200,h8,zn]
  | false =>
   simp only[Bool.or_false,cond_false]
   cases ha:tm ps with
   | none =>
    rw[ha]at L;simp only[lS,rrT]at L ⊢;apply zw;refine zx rfl func114 rfl (by kernel_rfl) ?_;unfold Tryz.f114;simp (disch:=(try simp only[LL]);omega) only[↓GO,↓DRW,GA,GX,ren,zk,za,refs,z8,cst,zo,isC,bin,una,z7,zd,blt,asArg,zg,zc,zf,z6,zr,unN,ze,zm,zb,GS,simprocAttr,GZ,h1,h200,h8,L,zn,zA]
   | some l =>
    have hll:=(qS ps l ha).2;rw[ha]at L;simp only[lS,List.nil_append,List.length_nil,Nat.zero_add]at L ⊢;have ht:(bdT l).take l.length=bdT l:=List.take_of_length_le (by rw[wH];omega);simp only[rrT];apply zw;refine zx rfl func114 rfl (by kernel_rfl) ?_;unfold Tryz.f114;simp (disch:=(try simp only[LL]);omega) only[↓GO,↓DRW,GA,GX,ren,zk,za,refs,z8,cst,zo,isC,bin,una,z7,zd,blt,asArg,zg,zc,zf,z6,zr,unN,ze,zm,zb,GS,simprocAttr,GZ,h1,h200,h8,L,zn,ht,wH,zA]
def w8 (x:zu):Bool:=(vC x.range).isSome&&(uy x.name&&(vK x.text&&!(x.text==[])))
theorem bf (o:Option (List Bd)):∃ t,rrT o=.tup [.t t,.t (.bool o.isSome)]:=by
 cases o with
 | none=>exact⟨_,rfl⟩
 | some l=>exact⟨_,rfl⟩
theorem PV (x:zu)(hb:x.zX≤1048576):zy (EV prog pol) 39 [.agg (x.enc.map .t)]=some (.t (.bool (w8 x))):=by
 obtain⟨name,range,text⟩:=x;simp only[zu.zX]at hb;have h1:=PS range (by omega);have h2:=Wc name (by omega);have h3:=Z2 text (by omega);obtain⟨t,ht⟩:=bf (vC range);rw[ht]at h1;unfold w8;simp only[zu.enc,List.map_cons,List.map_nil];generalize (vC range).isSome=b1 at *;generalize uy name=b2 at *;generalize vK text=b3 at *
 cases b2<;>cases b1<;>cases b3<;>cases hn:(text==[])
 all_goals
  apply zw;refine zx rfl func39 rfl (by kernel_rfl) ?_;unfold Tryz.f39;simp (disch:=(try simp only[LL]);omega) only[↓GO,↓DRW,GA,GX,ren,zk,za,refs,z8,cst,zo,isC,bin,una,z7,zd,blt,asArg,zg,zc,zf,z6,zr,unN,ze,zm,zb,GS,simprocAttr,GZ,h1,h2,h3,hn,bne]
theorem PW (x:zu)(hb:x.zX≤1048576):zy (EV prog pol) 38 [.agg (x.enc.map .t)]=some (.t (.bool (w8 x))):=by
 obtain⟨name,range,text⟩:=x;simp only[zu.zX]at hb;have h1:=PT range (by omega);rw[kW]at h1;have h2:=Wd name (by omega);have h3:=Z3 text (by omega);obtain⟨t,ht⟩:=bf (vC range);rw[ht]at h1;unfold w8;simp only[zu.enc,List.map_cons,List.map_nil];generalize (vC range).isSome=b1 at *;generalize uy name=b2 at *;generalize vK text=b3 at *
 cases b2<;>cases b1<;>cases b3<;>cases hn:(text==[])
 all_goals
  apply zw;refine zx rfl func38 rfl (by kernel_rfl) ?_;unfold Tryz.f38;simp (disch:=(try simp only[LL]);omega) only[↓GO,↓DRW,GA,GX,ren,zk,za,refs,z8,cst,zo,isC,bin,una,z7,zd,blt,asArg,zg,zc,zf,z6,zr,unN,ze,zm,zb,GS,simprocAttr,GZ,h1,h2,h3,hn,bne]
end Go.Proofs.YtefkoljdebekdaaGreatDoor

/- Joined: K36 B5 J6 J7 J8 J9 J10 J11 B6 V14. Conditions: those of each lemma. -/
import Derived.Test.YtefkoljdebekdaaGreatDoorqL
import Derived.Test.YtefkoljdebekdaaGreatDoorqK
set_option linter.unusedVariables false
set_option linter.unusedSimpArgs false
set_option maxRecDepth 100000
namespace Go.Proofs.YtefkoljdebekdaaGreatDoor
open E
def noR (J:List (List V)):Prop:=J.flatMap refs.refss=[]∧(∀ f:Nat→Option Nat,J.map (ren.rens f)=J)∧∀ e∈J,e.length=6
theorem xQ {A B:List (List V)}(ha:noR A)(hb:noR B):noR (A++B):=⟨by rw[List.flatMap_append,ha.1,hb.1];rfl,fun f=>by rw[List.map_append,ha.2.1,hb.2.1],fun e he=>(List.mem_append.1 he).elim (ha.2.2 e) (hb.2.2 e)⟩
theorem yD (l:List z1):noR (ocE (z1.zh l)):=⟨yc _,fun f=>yJ f _,fun e he=>by
 unfold ocE z1.zh at he
 simp only[List.map_map,List.mem_map]at he
 obtain⟨x,_,rfl⟩:=he
 rfl⟩
theorem kO {e:List V}{J:List (List V)}(h1:refs.refss e=[])(h2:∀ f,ren.rens f e=e)(h3:e.length=6)(hj:noR J):noR (e::J):=⟨by rw[List.flatMap_cons,h1,hj.1];rfl,fun f=>by rw[List.map_cons,h2,hj.2.1],fun x hx=>by
 rcases List.mem_cons.1 hx with rfl | hx
 · exact h3
 · exact hj.2.2 x hx⟩
theorem sN:noR []:=⟨rfl,fun _=>rfl,fun e he=>by simp at he⟩
theorem Xd {e:List V}(h1:refs.refss e=[])(h2:∀ f,ren.rens f e=e)(h3:e.length=6):∀ n,noR (List.replicate n e)
 | 0=>sN
 | n+1=>by rw[List.replicate_succ];exact kO h1 h2 h3 (Xd h1 h2 h3 n)
theorem b8 {e:List V}{J:List (List V)}(h:noR (e::J)):noR J:=by
 obtain⟨h1,h2,h3⟩:=h
 rw[List.flatMap_cons,List.append_eq_nil_iff]at h1
 exact⟨h1.2,fun f=>by have:=h2 f;rw[List.map_cons]at this;exact (List.cons.inj this).2,fun x hx=>h3 x (List.mem_cons_of_mem _ hx)⟩
theorem Wh (n:Nat):noR (List.replicate n zPk):=Xd rfl (fun _=>rfl) rfl n
def fgP (x:z1):List V:=[.t (.str x.name),.t (.str x.version),.t (.str x.source),.bad,.t (.bool x.dev),.bad]
theorem nX (x:z1):noR [fgP x]:=kO rfl (fun _=>rfl) rfl sN
theorem fx (x:z1)(r:List z1):ocE (z1.zh (x::r))=[V.t (.str x.name),.t (.str x.version),.t (.str x.source),.o (.list 2 (zz.zh x.sums)),.t (.bool x.dev),.o (.list 1 (strs x.zn))]::ocE (z1.zh r):=rfl
theorem we (a b:List z1):ocE (z1.zh (a++b))=ocE (z1.zh a)++ocE (z1.zh b):=by simp[z1.zh,ocE]
theorem XN {α:Type}(p:α→Bool)(l:List α)(h:xU p l 0=none):l.filter (fun x=>!p x)=l:=by
 have h2:=sf p l 0
 rw[h]at h2
 refine List.filter_eq_self.2 fun x hx=>?_
 cases hc:p x with
 | false=>rfl
 | true =>
  have:l.any p=true:=List.any_eq_true.2 ⟨x,hx,hc⟩
  rw[this]at h2;cases h2
set_option maxHeartbeats 4000000 in
theorem Yj (g:Nat)(cell:T)(p:z1→Bool)(l:List z1)(hl:l.length≤1048576)(hp:∀ x∈l,zu (EV Tryz.prog pol) g (.agg (x.enc.map .t)::[.t (.fp [cell])])=some (.t (.bool (p x))))(n:Nat)(hn:n=l.length)(cap:Option Nat) :
 ∀ (R K:List z1) (J:List (List V)),(∀ x∈R,x∈l)→1≤J.length→noR J→K.length+J.length+R.length=l.length→∃ J',noR J'∧(K++R.filter fun x=>!p x).length+J'.length=l.length ∧
 EV Tryz.prog pol (.loop 57 122 2 [.sl 0 0 n cap,.fn g [.ptr 1 0 0],.t (.int .i64 (K.length:Int)),.t (.int .i64 ((K.length+J.length:Nat):Int))] [.vs 6 (ocE (z1.zh K)++J++ocE (z1.zh R)),.vs 1 [[.t cell]]])
  = some (.loop (.exit 0) [.sl 0 0 n cap,.t (.int .i64 ((K++R.filter fun x=>!p x).length:Int))] [.vs 6 (ocE (z1.zh (K++R.filter fun x=>!p x))++J'),.vs 1 [[.t cell]]])
 | [],K,J,hR,hJ,hJr,hlen=>by
  have c:decide (((K.length+J.length:Nat):Int)<(n:Int))=false:=by simp at hlen;apply decide_eq_false;omega
  refine⟨J,hJr,by simp at hlen;simpa using hlen,?_⟩
  have hE:=xQ (yD K) hJr
  simp only[List.filter_nil,List.append_nil,show ocE (z1.zh [])=[] from rfl]
  obtain⟨h1,h2,_⟩:=hE
  generalize ocE (z1.zh K)++J=E0 at *
  refine zo Tryz.func57 rfl rfl ?_
  simp (disch:=((try simp only[LL]);omega)) only[↓GO,↓DRW,GA,GX,ren,zk,za,refs,z8,cst,zr,isC,bin,una,z7,zd,blt,asArg,zg,zc,zf,z6,E.mkS,unN,ze,zm,zb,GS,simprocAttr,zB,zC,yB,yr,yv,yu,yC,gh1,yq,yh,yk,zL,mkO,yf,y8,y9,mvC,unO,zR,yz,yt,yo,zI,yp,yn,zY,oc,oTs,oT,zK,zK.rowTs,yj,isL,E.BX,GZ,c,h1,h2,zA]
 | x :: R, K, J, hR, hJ, hJr, hlen => by
  simp only[List.length_cons]at hlen
  have c:decide (((K.length+J.length:Nat):Int)<(n:Int))=true:=by apply decide_eq_true;omega
  have c0:decide ((0:Int)≤((K.length+J.length:Nat):Int))=true:=by apply decide_eq_true;omega
  have c00:(0:Int)≤((K.length+J.length:Nat):Int):=by omega
  have c1:decide ((0:Int)≤(K.length:Int))=true:=by apply decide_eq_true;omega
  have c11:(0:Int)≤(K.length:Int):=by omega
  have c2:decide ((K.length:Int)<(n:Int))=true:=by apply decide_eq_true;omega
  have d1:=hp x (hR x (by simp))
  have hkl:K.length+J.length≤1048576:=by omega
  have hPl:(ocE (z1.zh K)++J).length=K.length+J.length:=by rw[List.length_append,zS,z1.zj]
  have hPr:=xQ (yD K) hJr
  have hBr:=yD R
  have hf1:=x6 x.sums
  have hf2:=yb x.zn
  have hs1:=zz.zj x.sums
  have hs2:=zi x.zn
  rw[fx,List.filter_cons]
  cases q:p x with
  | true =>
   rw[q]at d1
   obtain⟨J',hJ1,hJ2,IH⟩:=Yj g cell p l hl hp n hn cap R K (J++[fgP x]) (fun y hy=>hR y (by simp[hy])) (by simp) (xQ hJr (nX x)) (by simp;omega)
   rw[show ocE (z1.zh K)++(J++[fgP x])++ocE (z1.zh R)=(ocE (z1.zh K)++J)++fgP x::ocE (z1.zh R) by simp,show ((K.length+(J++[fgP x]).length:Nat):Int)=((K.length+J.length:Nat):Int)+1 by simp;omega]at IH
   refine⟨J',hJ1,by simpa using hJ2,?_⟩
   simp only[Bool.not_true,Bool.false_eq_true,if_false]
   obtain⟨hP1,hP2,_⟩:=hPr
   obtain⟨hB1,hB2,_⟩:=hBr
   have hg:=fun y=>w5 (ocE (z1.zh K)++J) (ocE (z1.zh R)) y (K.length+J.length) hPl
   have hs:=fun y z=>xH (ocE (z1.zh K)++J) (ocE (z1.zh R)) y z (K.length+J.length) hPl
   obtain⟨name,version,source,sums,dev,zn⟩:=x
   simp only[fgP,z1.enc,List.map_cons,List.map_nil]at d1 IH hf1 hf2 hs1 hs2 ⊢
   clear hJ hlen hJr hJ1 hJ2 hp hR
   generalize ocE (z1.zh (K++R.filter fun x=>!p x))++J'=Z at *
   generalize (K++R.filter fun x=>!p x).length=zl at *
   generalize ocE (z1.zh K)++J=P at *
   generalize ocE (z1.zh R)=B at *
   generalize zz.zh sums=es1 at *
   generalize strs zn=es2 at *
   have hk1:=List.take_of_length_le (Nat.le_of_eq hs1)
   have hk2:=List.take_of_length_le (Nat.le_of_eq hs2)
   generalize sums.length=n1 at *
   generalize zn.length=n2 at *
   generalize K.length=kl at *
   generalize hkj:kl+J.length=kj at *
   refine zo Tryz.func57 rfl rfl ?_
   simp (disch:=((try simp only[LL]);omega)) only[↓GO,↓DRW,GA,GX,ren,zk,za,refs,z8,cst,zr,isC,bin,una,z7,zd,blt,asArg,zg,zc,zf,z6,E.mkS,unN,ze,zm,zb,GS,simprocAttr,zB,zC,yB,yr,yv,yu,yC,gh1,yq,yh,yk,zL,mkO,yf,y8,y9,mvC,unO,zR,yz,yt,yo,zI,yp,yn,zY,oc,oTs,oT,zK,zK.rowTs,yj,isL,E.BX,GZ,c,c0,c00,if_true,Int.toNat_natCast,hg,hs,hf1,hf2,hs1,hs2,hk1,hk2,d1,hP1,hP2,hB1,hB2,zq,Bool.not_true,zA,IH]
  | false =>
   rw[q]at d1
   obtain⟨j0,Jt,rfl⟩:∃ j0 Jt,J=j0::Jt:=by cases J with | nil=>simp at hJ | cons a t=>exact⟨a,t,rfl⟩
   have hJt:=b8 hJr
   obtain⟨J',hJ1,hJ2,IH⟩:=Yj g cell p l hl hp n hn cap R (K++[x]) (Jt++[fgP x]) (fun y hy=>hR y (by simp[hy])) (by simp) (xQ hJt (nX x)) (by simp at hlen ⊢;omega)
   rw[show ocE (z1.zh (K++[x]))++(Jt++[fgP x])++ocE (z1.zh R)=(ocE (z1.zh K)++[V.t (.str x.name),.t (.str x.version),.t (.str x.source),.o (.list 2 (zz.zh x.sums)),.t (.bool x.dev),.o (.list 1 (strs x.zn))]::Jt)++fgP x::ocE (z1.zh R) by rw[we,show ocE (z1.zh [x])=[[V.t (.str x.name),.t (.str x.version),.t (.str x.source),.o (.list 2 (zz.zh x.sums)),.t (.bool x.dev),.o (.list 1 (strs x.zn))]] from rfl];simp,
    show ((K++[x]).length:Int)=(K.length:Int)+1 by simp,show (((K++[x]).length+(Jt++[fgP x]).length:Nat):Int)=((K.length+(j0::Jt).length:Nat):Int)+1 by simp;omega]at IH
   refine⟨J',hJ1,by simpa using hJ2,?_⟩
   simp only[Bool.not_false,if_true]
   rw[show K++x::R.filter (fun x=>!p x)=(K++[x])++R.filter fun x=>!p x by simp]
   have hj1:refs.refss j0=[]:=by have:=hJr.1;rw[List.flatMap_cons,List.append_eq_nil_iff]at this;exact this.1
   have hj2:∀ f,ren.rens f j0=j0:=fun f=>by have:=hJr.2.1 f;rw[List.map_cons]at this;exact (List.cons.inj this).1
   obtain⟨hB1,hB2,_⟩:=hBr
   have hKl:(ocE (z1.zh K)).length=K.length:=by rw[zS,z1.zj]
   have hA:=yD K
   have hQl:∀ z,(ocE (z1.zh K)++z::Jt).length=K.length+(j0::Jt).length:=fun z=>by simp[zS,z1.zj]
   have hg3:=fun z y=>w5 (ocE (z1.zh K)++z::Jt) (ocE (z1.zh R)) y (K.length+(j0::Jt).length) (hQl z)
   have hs4:=fun z y y'=>xH (ocE (z1.zh K)++z::Jt) (ocE (z1.zh R)) y y' (K.length+(j0::Jt).length) (hQl z)
   have hs2':∀ y z,(ocE (z1.zh K)++j0::Jt++y::ocE (z1.zh R)).set K.length z=(ocE (z1.zh K)++z::Jt)++y::ocE (z1.zh R):=fun y z=>by
    rw[List.append_assoc,List.cons_append,xH _ _ _ _ _ hKl,List.append_assoc,List.cons_append]
   have hg2':∀ y z,((ocE (z1.zh K)++z::Jt)++y::ocE (z1.zh R))[K.length]? = some z:=fun y z=>by rw[List.append_assoc,List.cons_append];exact w5 _ _ _ _ hKl
   have hs3':∀ y z z',((ocE (z1.zh K)++z::Jt)++y::ocE (z1.zh R)).set K.length z'=(ocE (z1.zh K)++z'::Jt)++y::ocE (z1.zh R):=fun y z z'=>by
    rw[List.append_assoc,List.cons_append,xH _ _ _ _ _ hKl,List.append_assoc,List.cons_append]
   obtain⟨Q,hQ⟩:∃ Q:List V→List (List V),∀ z,Q z=ocE (z1.zh K)++z::Jt:=⟨_,fun _=>rfl⟩
   have hQ1:∀ z,(Q z).flatMap refs.refss=refs.refss z:=fun z=>by rw[hQ,List.flatMap_append,List.flatMap_cons,hA.1,hJt.1];simp
   have hQ2:∀ z f,(Q z).map (ren.rens f)=Q (ren.rens f z):=fun z f=>by rw[hQ,hQ,List.map_append,List.map_cons,hA.2.1,hJt.2.1]
   have hj0l:j0.length=6:=hJr.2.2 j0 (by simp)
   have hj6:6≤j0.length:=by omega
   have hd6:j0.drop 6=[]:=List.drop_of_length_le (by omega)
   clear hj0l
   simp only[← hQ]at hg3 hs4 hs2' hg2' hs3' IH ⊢
   clear hQ hQl hJt hA hKl hPr hPl
   obtain⟨name,version,source,sums,dev,zn⟩:=x
   simp only[fgP,z1.enc,List.map_cons,List.map_nil]at d1 IH hf1 hf2 hs1 hs2 ⊢
   clear hJ hlen hJr hJ1 hJ2 hp hR
   generalize ocE (z1.zh ((K++[z1.mk name version source sums dev zn])++R.filter fun x=>!p x))++J'=Z at *
   generalize ((K++[z1.mk name version source sums dev zn])++R.filter fun x=>!p x).length=zl at *
   generalize ocE (z1.zh R)=B at *
   generalize zz.zh sums=es1 at *
   generalize strs zn=es2 at *
   have hk1:=List.take_of_length_le (Nat.le_of_eq hs1)
   have hk2:=List.take_of_length_le (Nat.le_of_eq hs2)
   generalize sums.length=n1 at *
   generalize zn.length=n2 at *
   generalize K.length=kl at *
   generalize hkj:kl+(j0::Jt).length=kj at *
   have hkk:¬ (kl=kj):=by rw[← hkj];simp
   refine zo Tryz.func57 rfl rfl ?_
   simp (maxSteps:=1000000) (disch:=((try simp only[LL]);omega)) only[↓GO,↓DRW,GA,GX,ren,zk,za,refs,z8,cst,zr,isC,bin,una,z7,zd,blt,asArg,zg,zc,zf,z6,E.mkS,unN,ze,zm,zb,GS,simprocAttr,zB,zC,yB,yr,yv,yu,yC,gh1,yq,yh,yk,zL,mkO,yf,y8,y9,mvC,unO,zR,yz,yt,yo,zI,yp,yn,zY,oc,oTs,oT,zK,zK.rowTs,yj,isL,E.BX,GZ,c,c0,c00,c1,c11,c2,if_true,Int.toNat_natCast,hg2',hs3',hg3,hs4,hQ1,hQ2,hj1,hj2,hj6,hd6,hf1,hf2,hs1,hs2,hk1,hk2,d1,hB1,hB2,zq,Bool.not_false,zA,IH]
theorem Mi (g:Nat)(cell:T)(p:z1→Bool)(l:List z1)(hl:l.length≤1048576)(hp:∀ x∈l,zu (EV Tryz.prog pol) g (.agg (x.enc.map .t)::[.t (.fp [cell])])=some (.t (.bool (p x))))(n:Nat)(hn:n=l.length)(cap:Option Nat) :
 ∃ J',noR J'∧(l.filter fun x=>!p x).length+J'.length=l.length ∧
 EV Tryz.prog pol (.callO false 57 [.sl 0 0 n cap,.fn g [.ptr 1 0 0]] [.vs 6 (ocE (z1.zh l)),.vs 1 [[.t cell]]])
  = some (.call (.sl 0 0 (l.filter fun x=>!p x).length cap) [.vs 6 (ocE (z1.zh (l.filter fun x=>!p x))++J'),.vs 1 [[.t cell]]]):=by
 have d1:=ue g [.fp [cell]] p l (by omega) hp
 have ht:(ocE (z1.zh l)).take n=ocE (z1.zh l):=List.take_of_length_le (by rw[zS,z1.zj];omega)
 have f2:=uQ l
 cases hf:xU p l 0 with
 | none =>
  rw[hf]at d1
  have hw:=XN p l hf
  refine⟨[],sN,by rw[hw];simp,?_⟩
  rw[hw,List.append_nil,← hn]
  simp only[ixI]at d1
  refine zH Tryz.func57 rfl (by kernel_rfl) ?_
  unfold Tryz.f57
  simp (disch:=((try simp only[LL]);omega)) only[↓GO,↓DRW,GA,GX,ren,zk,za,refs,z8,cst,zr,isC,bin,una,z7,zd,blt,asArg,zg,zc,zf,z6,E.mkS,unN,ze,zm,zb,GS,simprocAttr,zB,zC,yB,yr,yv,yu,yC,gh1,yq,yh,yk,zL,mkO,yf,y8,y9,mvC,unO,zR,yz,yt,yo,zI,yp,yn,zY,oc,oTs,oT,zK,zK.rowTs,yj,isL,E.BX,GZ,d1,wH,ht,f2,vh,yJ,yc,List.drop_zero,beq_self_eq_true,zA]
 | some i =>
  rw[hf]at d1
  obtain⟨pre,x,post,e1,e2,e3,e4⟩:=pB _ l 0 i hf
  simp only[Nat.zero_add]at e2
  have hw:(l.filter fun x=>!p x)=pre++post.filter fun x=>!p x:=by
   rw[e1,List.filter_append,List.filter_cons,e3]
   simp only[Bool.not_true,Bool.false_eq_true,if_false]
   congr 1
   exact List.filter_eq_self.2 fun y hy=>by rw[e4 y hy];rfl
  have hlen:pre.length+1+post.length=l.length:=by have h9:=congrArg List.length e1;simp at h9;omega
  have hmap:Option.map (fun x:Nat=>x) cap=cap:=by cases cap<;>rfl
  obtain⟨J',hJr,hJ',L⟩:=Yj g cell p l hl hp n hn cap post pre (ocE (z1.zh [x])) (fun y hy=>by rw[e1];simp[hy]) (by rw[zS,z1.zj];exact Nat.le_refl _) (yD _) (by rw[zS,z1.zj];simpa using hlen)
  rw[← we,← we,show pre++[x]++post=l by rw[e1];simp,show ((pre.length+(ocE (z1.zh [x])).length:Nat):Int)=(pre.length:Int)+1 by rw[zS,z1.zj];rfl,e2]at L
  have c0:((i:Int)==-1)=false:=by rw[beq_eq_false_iff_ne];omega
  rw[← hw]at L hJ'
  have hwl:(l.filter fun x=>!p x).length≤n:=by omega
  generalize hZ:(l.filter fun x=>!p x)=Z at *
  have hZl:(ocE (z1.zh Z)).length=Z.length:=by rw[zS,z1.zj]
  have htk:(ocE (z1.zh Z)++J').take Z.length=ocE (z1.zh Z):=by rw[← hZl];simp
  have hdk:(ocE (z1.zh Z)++J').drop (Z.length+(n - Z.length))=[]:=List.drop_of_length_le (by rw[List.length_append,hZl];omega)
  have hEl:(ocE (z1.zh Z)++J').length=n:=by rw[List.length_append,hZl,hn];exact hJ'
  have hE:=xQ (yD Z) hJr
  obtain⟨h1,h2,_⟩:=hE
  refine⟨List.replicate (n - Z.length) zPk,Wh _,by rw[List.length_replicate];omega,?_⟩
  obtain⟨h3,h4,_⟩:=xQ (yD Z) (Wh (n - Z.length))
  have hil:i≤1048576:=by omega
  have hnl:n≤1048576:=by omega
  simp only[ixI]at d1
  clear hw hJ' e1 hf e4 e3 hlen hp hl
  have c1:Z.length+(n - Z.length)≤n:=by omega
  simp only[zPk]at h3 h4 ⊢
  generalize ocE (z1.zh Z)++J'=E1 at *
  generalize ocE (z1.zh Z)=E2 at *
  refine zH Tryz.func57 rfl (by kernel_rfl) ?_
  unfold Tryz.f57
  simp (disch:=((try simp only[LL]);omega)) only[↓GO,↓DRW,GA,GX,ren,zk,za,refs,z8,cst,zr,isC,bin,una,z7,zd,blt,asArg,zg,zc,zf,z6,E.mkS,unN,ze,zm,zb,GS,simprocAttr,zB,zC,yB,yr,yv,yu,yC,gh1,yq,yh,yk,zL,mkO,yf,y8,y9,mvC,unO,zR,yz,yt,yo,zI,yp,yn,zY,oc,oTs,oT,zK,zK.rowTs,yj,isL,E.BX,GZ,d1,wH,ht,f2,vh,yJ,yc,List.drop_zero,c0,L,hEl,htk,hdk,h1,h2,h3,h4,zq,List.append_nil,zA,Nat.zero_add,Nat.sub_zero,c1,and_self,if_true,List.append_assoc,hmap]
theorem eM (x:z1)(ho:x.y6≤1048576):zu (EV Tryz.prog pol) 146 [.agg (x.enc.map .t)]=some (.agg (x.enc.map .t)):=by
 obtain⟨name,version,source,sums,dev,zn⟩:=x
 simp only[z1.y6]at ho
 have ht:(zz.zh sums).take sums.length=zz.zh sums:=by rw[← zz.zj sums];simp
 have ht2:(strs zn).take zn.length=strs zn:=by rw[← zi zn];simp
 simp only[z1.enc,List.map_cons,List.map_nil]
 apply zx
 refine zy rfl Tryz.func146 rfl (by kernel_rfl) ?_
 unfold Tryz.f146
 simp (disch:=((try simp only[LL]);omega)) only[↓GO,↓DRW,GA,GX,ren,zk,za,refs,z8,cst,zr,isC,bin,una,z7,zd,blt,asArg,zg,zc,zf,z6,E.mkS,unN,ze,zm,zb,GS,simprocAttr,GZ,ht,ht2,zi,zz.zj,zA,ya]
def zG:List V:=[.nil 1,.nil 6]
theorem RL (top:List Str)(cs:List z1)(hl:cs.length≤1048576)(hkl:top.length≤1048576)(hb:∀ c∈cs,c.y6≤1048576):∀ (rest pre:List z1) (m:Nat),cs=pre++rest→m=pre.length →
 EV Tryz.prog pol (.loop 70 58 0 [.ptr 0 0 0,.ptr 1 0 0,.ptr 2 0 0,.t (.int .i64 (pre.length:Int))] [.vs 2 [[.t (.list 1 (strs top)),.t (.list 6 (z1.zh cs))]],.vs 2 [zG],.vs 2 [[.sl 3 0 top.length none,.sl 4 0 m none]],.ts 1 (strs top),.ts 6 (z1.zh pre)])
  = some (.loop (.exit 0) [.ptr 0 0 0,.ptr 1 0 0] [.vs 2 [zG],.vs 2 [[.sl 2 0 top.length none,.sl 3 0 cs.length none]],.ts 1 (strs top),.ts 6 (z1.zh cs)])
 | [],pre,m,hs,hm=>by
  have c:decide ((pre.length:Int)<(cs.length:Int))=false:=by simp[hs]
  have e:cs=pre:=by simpa using hs
  simp only[zG]
  refine zo Tryz.func70 rfl rfl ?_
  simp (disch:=((try simp only[LL]);omega)) only[↓GO,↓DRW,GA,GX,ren,zk,za,refs,z8,cst,zr,isC,bin,una,z7,zd,blt,asArg,zg,zc,zf,z6,E.mkS,unN,ze,zm,zb,GS,simprocAttr,GZ,c,z1.zj,zA]
  rw[hm,← e]
 | x::rest,pre,m,hs,hm=>by
  have c:decide ((pre.length:Int)<(cs.length:Int))=true:=by simp[hs];omega
  have c0:decide ((0:Int)≤(pre.length:Int))=true:=by simp
  have hget:(z1.zh cs)[pre.length]? = some x.enc:=by rw[hs];simp[z1.zh]
  have hlen:pre.length+rest.length+1≤cs.length:=by rw[hs];simp;omega
  have hcx:=eM x (hb x (by rw[hs];simp))
  have IH:=RL top cs hl hkl hb rest (pre++[x]) (m+1) (by rw[hs];simp) (by simp[hm])
  rw[sB,show ((pre++[x]).length:Int)=(pre.length:Int)+1 by simp]at IH
  have hol:(z1.zh pre).length=m:=by rw[z1.zj,hm]
  have hml:m≤1048576:=by omega
  clear hs
  obtain⟨name,version,source,sums,dev,zn⟩:=x
  simp only[z1.enc,List.map_cons,List.map_nil,zG]at hcx hget IH ⊢
  generalize z1.zh pre=A at *
  refine zo Tryz.func70 rfl rfl ?_
  simp (disch:=((try simp only[LL]);omega)) only[↓GO,↓DRW,GA,GX,ren,zk,za,refs,z8,cst,zr,isC,bin,una,z7,zd,blt,asArg,zg,zc,zf,z6,E.mkS,unN,ze,zm,zb,GS,simprocAttr,GZ,c,c0,z1.zj,hget,hcx,zq,hol,IH,zA,ya]
  refine zU (by kernel_rfl) ?_
  rfl
theorem Qh (l:List z1)(hf:∀ p∈l,True):((ocE (z1.zh l)).all fun c=>c.all mvC)=true:=by
 refine List.all_eq_true.2 fun c hc=>?_
 unfold ocE z1.zh at hc
 simp only[List.map_map,List.mem_map]at hc
 obtain⟨x,_,rfl⟩:=hc
 rfl
theorem OM (n k:Nat)(cap0 cap:Option Nat)(p:z1)(hp0:p.zn=[])(hpb:p.y6≤1048576)(hk:k=p.sums.length)(l:List z1)(hn:n=l.length)(hl:l.length≤1048576)(hb:∀ x∈l,x.y6≤1048576):∀ (rest pre:List z1),l=pre++rest →
 (EV Tryz.prog pol (.loop 196 28 2 [.ptr 2 0 0,.ptr 3 0 0,.ptr 4 0 0,.t (.int .i64 (pre.length:Int))] [.vs 6 (ocE (z1.zh l)),.ts 2 (zz.zh p.sums),.vs 2 [[.nil 1,.sl 0 0 n cap0]],.vs 6 [[.t (.str p.name),.t (.str p.version),.t (.str p.source),.sl 1 0 k cap,.t (.bool p.dev),.nil 1]],.vs 2 [zG]])
  = some (.loop (.exit 0) [.ptr 2 0 0,.ptr 3 0 0,.ptr 4 0 0,.t (.int .i64 (n:Int))] [.vs 6 (ocE (z1.zh l)),.ts 2 (zz.zh p.sums),.vs 2 [[.nil 1,.sl 0 0 n cap0]],.vs 6 [[.t (.str p.name),.t (.str p.version),.t (.str p.source),.sl 1 0 k cap,.t (.bool p.dev),.nil 1]],.vs 2 [zG]])) ∨
 ∃ (a b : List z1) (x : z1), l = a ++ x :: b ∧
  EV Tryz.prog pol (.loop 196 28 2 [.ptr 2 0 0,.ptr 3 0 0,.ptr 4 0 0,.t (.int .i64 (pre.length:Int))] [.vs 6 (ocE (z1.zh l)),.ts 2 (zz.zh p.sums),.vs 2 [[.nil 1,.sl 0 0 n cap0]],.vs 6 [[.t (.str p.name),.t (.str p.version),.t (.str p.source),.sl 1 0 k cap,.t (.bool p.dev),.nil 1]],.vs 2 [zG]])
   = some (.loop (.exit 0) [.ptr 2 0 0,.ptr 3 0 0,.ptr 4 0 0,.t (.int .i64 (a.length:Int))] [.vs 6 (ocE (z1.zh a)++[.t (.str x.name),.t (.str x.version),.t (.str x.source),.sl 5 0 x.sums.length none,.t (.bool x.dev),.sl 6 0 x.zn.length none]::ocE (z1.zh b)),.ts 2 (zz.zh p.sums),.vs 2 [[.nil 1,.sl 0 0 n cap0]],.vs 6 [[.t (.str p.name),.t (.str p.version),.t (.str p.source),.sl 1 0 k cap,.t (.bool p.dev),.nil 1]],.vs 2 [zG],.ts 2 (zz.zh x.sums),.ts 1 (strs x.zn)])
 | [],pre,hs=>by
  refine .inl ?_
  have hpl:pre.length=n:=by rw[hn,hs];simp
  rw[hpl]
  have c:decide ((n:Int)<(n:Int))=false:=by simp
  have c00:(0:Int)≤(n:Int):=by omega
  have hnone:(ocE (z1.zh l))[n]? = none:=List.getElem?_eq_none (by rw[zS,z1.zj];omega)
  obtain⟨h1,h2,_⟩:=yD l
  generalize ocE (z1.zh l)=E0 at *
  generalize zz.zh p.sums=E1 at *
  simp only[zG]
  clear hs
  refine zo Tryz.func196 rfl rfl ?_
  simp (disch:=((try simp only[LL]);omega)) only[↓GO,↓DRW,GA,GX,ren,zk,za,refs,z8,cst,zr,isC,bin,una,z7,zd,blt,asArg,zg,zc,zf,z6,E.mkS,unN,ze,zm,zb,GS,simprocAttr,zB,zC,yB,yr,yv,yu,yC,gh1,yq,yh,yk,zL,mkO,yf,y8,y9,mvC,unO,zR,yz,yt,yo,zI,yp,yn,zY,oc,oTs,oT,zK,zK.rowTs,yj,isL,E.BX,GZ,c,c00,if_true,Int.toNat_natCast,Nat.zero_add,hnone,h1,h2,zA]
 | x :: rest, pre, hs => by
  have c:decide ((pre.length:Int)<(n:Int))=true:=by apply decide_eq_true;rw[hn,hs];simp;omega
  have c0:decide ((0:Int)≤(pre.length:Int))=true:=by apply decide_eq_true;omega
  have c00:(0:Int)≤(pre.length:Int):=by omega
  have hPl:(ocE (z1.zh pre)).length=pre.length:=by rw[zS,z1.zj]
  have hpl:pre.length≤1048576:=by have:=congrArg List.length hs;simp at this;omega
  have d1:=uB x (by have:=hb x (by rw[hs];simp);omega)
  have d2:=uB p (by omega)
  have hg:=fun y=>w5 (ocE (z1.zh pre)) (ocE (z1.zh rest)) y pre.length hPl
  have hss:=fun y z=>xH (ocE (z1.zh pre)) (ocE (z1.zh rest)) y z pre.length hPl
  have hf1:=x6 x.sums
  have hf2:=yb x.zn
  have hs1:=zz.zj x.sums
  have hs2:=zi x.zn
  have hk1:(zz.zh x.sums).take x.sums.length=zz.zh x.sums:=List.take_of_length_le (by omega)
  have hk2:(strs x.zn).take x.zn.length=strs x.zn:=List.take_of_length_le (by omega)
  have hk3:(zz.zh p.sums).take k=zz.zh p.sums:=List.take_of_length_le (by rw[zz.zj];omega)
  obtain⟨hA1,hA2,_⟩:=yD pre
  obtain⟨hB1,hB2,_⟩:=yD rest
  have hlE:ocE (z1.zh l)=ocE (z1.zh pre)++[V.t (.str x.name),.t (.str x.version),.t (.str x.source),.o (.list 2 (zz.zh x.sums)),.t (.bool x.dev),.o (.list 1 (strs x.zn))]::ocE (z1.zh rest):=by rw[hs,we,fx]
  cases q:Op.bytesLess (keyOf x) (keyOf p) with
  | true =>
   have IH:=OM n k cap0 cap p hp0 hpb hk l hn hl hb rest (pre++[x]) (by rw[hs];simp)
   rw[show ((pre++[x]).length:Int)=(pre.length:Int)+1 by simp]at IH
   have go:∀ R:wk,EV Tryz.prog pol (.loop 196 28 2 [.ptr 2 0 0,.ptr 3 0 0,.ptr 4 0 0,.t (.int .i64 ((pre.length:Int)+1))] [.vs 6 (ocE (z1.zh l)),.ts 2 (zz.zh p.sums),.vs 2 [[.nil 1,.sl 0 0 n cap0]],.vs 6 [[.t (.str p.name),.t (.str p.version),.t (.str p.source),.sl 1 0 k cap,.t (.bool p.dev),.nil 1]],.vs 2 [zG]])=some R →
    EV Tryz.prog pol (.loop 196 28 2 [.ptr 2 0 0,.ptr 3 0 0,.ptr 4 0 0,.t (.int .i64 (pre.length:Int))] [.vs 6 (ocE (z1.zh l)),.ts 2 (zz.zh p.sums),.vs 2 [[.nil 1,.sl 0 0 n cap0]],.vs 6 [[.t (.str p.name),.t (.str p.version),.t (.str p.source),.sl 1 0 k cap,.t (.bool p.dev),.nil 1]],.vs 2 [zG]])=some R:=fun R e=>by
    rw[hlE]at e ⊢
    clear IH hs hlE
    generalize keyOf x=kx at *
    generalize keyOf p=kp at *
    obtain⟨name,version,source,sums,dev,zn⟩:=x
    obtain⟨name',version',source',sums',dev',needs'⟩:=p
    simp only at hp0
    subst hp0
    simp only[z1.enc,List.map_cons,List.map_nil,show strs []=[] from rfl,zG]at d1 d2 hf1 hf2 hs1 hs2 hk1 hk2 hk3 hg hss e ⊢
    generalize zz.zh sums=es1 at *
    generalize strs zn=es2 at *
    generalize zz.zh sums'=es3 at *
    generalize ocE (z1.zh pre)=P at *
    generalize ocE (z1.zh rest)=B at *
    generalize pre.length=kl at *
    refine zo Tryz.func196 rfl rfl ?_
    simp (maxSteps:=1000000) (disch:=((try simp only[LL]);omega)) only[↓GO,↓DRW,GA,GX,ren,zk,za,refs,z8,cst,zr,isC,bin,una,z7,zd,blt,asArg,zg,zc,zf,z6,E.mkS,unN,ze,zm,zb,GS,simprocAttr,zB,zC,yB,yr,yv,yu,yC,gh1,yq,yh,yk,zL,mkO,yf,y8,y9,mvC,unO,zR,yz,yt,yo,zI,yp,yn,zY,oc,oTs,oT,zK,zK.rowTs,yj,isL,E.BX,GZ,c,c0,c00,if_true,Int.toNat_natCast,Nat.zero_add,hg,hss,hf1,hf2,hs1,hs2,hk1,hk2,hk3,d1,d2,q,hA1,hA2,hB1,hB2,zq,zA,e]
   rcases IH with IH | ⟨a,b,y,h1,IH⟩
   · exact .inl (go _ IH)
   · exact .inr ⟨a,b,y,h1,go _ IH⟩
  | false =>
   refine .inr ⟨pre,rest,x,hs,?_⟩
   rw[hlE]
   clear hs hlE
   generalize keyOf x=kx at *
   generalize keyOf p=kp at *
   obtain⟨name,version,source,sums,dev,zn⟩:=x
   obtain⟨name',version',source',sums',dev',needs'⟩:=p
   simp only at hp0
   subst hp0
   simp only[z1.enc,List.map_cons,List.map_nil,show strs []=[] from rfl,zG]at d1 d2 hf1 hf2 hs1 hs2 hk1 hk2 hk3 hg hss ⊢
   generalize zz.zh sums=es1 at *
   generalize strs zn=es2 at *
   generalize zz.zh sums'=es3 at *
   generalize ocE (z1.zh pre)=P at *
   generalize ocE (z1.zh rest)=B at *
   generalize pre.length=kl at *
   refine zo Tryz.func196 rfl rfl ?_
   simp (maxSteps:=1000000) (disch:=((try simp only[LL]);omega)) only[↓GO,↓DRW,GA,GX,ren,zk,za,refs,z8,cst,zr,isC,bin,una,z7,zd,blt,asArg,zg,zc,zf,z6,E.mkS,unN,ze,zm,zb,GS,simprocAttr,zB,zC,yB,yr,yv,yu,yC,gh1,yq,yh,yk,zL,mkO,yf,y8,y9,mvC,unO,zR,yz,yt,yo,zI,yp,yn,zY,oc,oTs,oT,zK,zK.rowTs,yj,isL,E.BX,GZ,c,c0,c00,if_true,Int.toNat_natCast,Nat.zero_add,hg,hss,hf1,hf2,hs1,hs2,hk1,hk2,hk3,d1,d2,q,hA1,hA2,hB1,hB2,zq,zA]
theorem Rw (l:List z1):noR ((ocE (z1.zh l)).map fun c=>c.map unO):=by
 induction l with
 | nil=>exact sN
 | cons x r ih=>exact kO rfl (fun _=>rfl) rfl ih
theorem R9 (l:List z1):((ocE (z1.zh l)).map fun c=>c.map unO).length=l.length:=by rw[List.length_map,zS,z1.zj]
theorem Tl (l:List z1)(r:List (List V))(h:l≠[]):((((ocE (z1.zh l)).map fun c=>c.map unO)++r).all fun c=>c.all ye)=false:=by
 cases l with
 | nil=>exact absurd rfl h
 | cons x t=>rfl
theorem WV (l:List z1)(r:List (List V))(h:l≠[]):((ocE (z1.zh l)++r).all fun c=>c.all ye)=false:=by
 cases l with
 | nil=>exact absurd rfl h
 | cons x t=>rfl
def Gp (l:List z1)(n k:Nat)(cap0 cap:Option Nat)(p:z1)(a b:List z1):Prop:=∃ (X:List (List V)) (c0:Blk),noR X∧EV Tryz.prog pol (.callO false 196 [.agg [.nil 1,.sl 0 0 n cap0],.agg [.t (.str p.name),.t (.str p.version),.t (.str p.source),.sl 1 0 k cap,.t (.bool p.dev),.nil 1]] [.vs 6 (ocE (z1.zh l)),.ts 2 (zz.zh p.sums)])
 = some (.call (.agg [.nil 1,.sl 2 0 (n+1) none]) [.vs 6 X,.dead,.vs 6 (ocE (z1.zh (a++p::b)))])
set_option maxHeartbeats 8000000 in
theorem RX (a b:List z1) (n k:Nat) (cap0 cap:Option Nat) (p:z1) (hp0:p.zn=[]) (hk:k=p.sums.length) (hn:n=(a++b).length) (hl:(a++b).length≤1048576) (hne:a++b≠[])
 (L:(EV Tryz.prog pol (.loop 196 28 2 [.ptr 2 0 0,.ptr 3 0 0,.ptr 4 0 0,.t (.int .i64 0)] [.vs 6 (ocE (z1.zh (a++b))),.ts 2 (zz.zh p.sums),.vs 2 [[.nil 1,.sl 0 0 n cap0]],.vs 6 [[.t (.str p.name),.t (.str p.version),.t (.str p.source),.sl 1 0 k cap,.t (.bool p.dev),.nil 1]],.vs 2 [zG]])
  = some (.loop (.exit 0) [.ptr 2 0 0,.ptr 3 0 0,.ptr 4 0 0,.t (.int .i64 (a.length:Int))] [.vs 6 (ocE (z1.zh (a++b))),.ts 2 (zz.zh p.sums),.vs 2 [[.nil 1,.sl 0 0 n cap0]],.vs 6 [[.t (.str p.name),.t (.str p.version),.t (.str p.source),.sl 1 0 k cap,.t (.bool p.dev),.nil 1]],.vs 2 [zG]])∧b=[]) ∨
  ∃ (x:z1) (b':List z1),b=x::b'∧EV Tryz.prog pol (.loop 196 28 2 [.ptr 2 0 0,.ptr 3 0 0,.ptr 4 0 0,.t (.int .i64 0)] [.vs 6 (ocE (z1.zh (a++b))),.ts 2 (zz.zh p.sums),.vs 2 [[.nil 1,.sl 0 0 n cap0]],.vs 6 [[.t (.str p.name),.t (.str p.version),.t (.str p.source),.sl 1 0 k cap,.t (.bool p.dev),.nil 1]],.vs 2 [zG]])
   = some (.loop (.exit 0) [.ptr 2 0 0,.ptr 3 0 0,.ptr 4 0 0,.t (.int .i64 (a.length:Int))] [.vs 6 (ocE (z1.zh a)++[.t (.str x.name),.t (.str x.version),.t (.str x.source),.sl 5 0 x.sums.length none,.t (.bool x.dev),.sl 6 0 x.zn.length none]::ocE (z1.zh b')),.ts 2 (zz.zh p.sums),.vs 2 [[.nil 1,.sl 0 0 n cap0]],.vs 6 [[.t (.str p.name),.t (.str p.version),.t (.str p.source),.sl 1 0 k cap,.t (.bool p.dev),.nil 1]],.vs 2 [zG],.ts 2 (zz.zh x.sums),.ts 1 (strs x.zn)])) :
 Gp (a++b) n k cap0 cap p a b:=by
 have hal:(ocE (z1.zh a)).length=a.length:=by rw[zS,z1.zj]
 have hbl:(ocE (z1.zh b)).length=b.length:=by rw[zS,z1.zj]
 have hE:ocE (z1.zh (a++b))=ocE (z1.zh a)++ocE (z1.zh b):=we a b
 have hn':n=a.length+b.length:=by rw[hn,List.length_append]
 have hnM:n≤1048576:=by omega
 have hAu:=Rw a
 have hBu:=Rw b
 have hAul:=R9 a
 have hBul:=R9 b
 have m1:=Qh a fun _ _=>trivial
 have m2:=Qh b fun _ _=>trivial
 have hno1:((ocE (z1.zh a)++ocE (z1.zh b)).all fun c=>c.all ye)=false:=by
  cases a with
  | cons x r=>exact WV (x::r) _ (by simp)
  | nil =>
   cases b with
   | cons x r=>rfl
   | nil=>exact absurd rfl hne
 have hno2:((((ocE (z1.zh a)).map fun c=>c.map unO)++ocE (z1.zh b)).all fun c=>c.all ye)=false:=by
  cases a with
  | cons x r=>exact Tl (x::r) _ (by simp)
  | nil =>
   cases b with
   | cons x r=>rfl
   | nil=>exact absurd rfl hne
 obtain⟨hA1,hA2,_⟩:=yD a
 obtain⟨hB1,hB2,_⟩:=yD b
 have hX:=xQ hAu hBu
 have hf1:=x6 p.sums
 have hks:(zz.zh p.sums).length=k:=by rw[zz.zj,hk]
 have hres:ocE (z1.zh (a++p::b))=(ocE (z1.zh a)++[[V.t (.str p.name),.t (.str p.version),.t (.str p.source),.o (.list 2 (zz.zh p.sums)),.t (.bool p.dev),.o (.list 1 [])]])++ocE (z1.zh b):=by
  rw[we,show ocE (z1.zh (p::b))=[V.t (.str p.name),.t (.str p.version),.t (.str p.source),.o (.list 2 (zz.zh p.sums)),.t (.bool p.dev),.o (.list 1 (strs p.zn))]::ocE (z1.zh b) from rfl,hp0,show strs []=[] from rfl]
  simp
 refine⟨((ocE (z1.zh a)).map fun c=>c.map unO)++((ocE (z1.zh b)).map fun c=>c.map unO),.dead,hX,?_⟩
 rw[hres]
 obtain⟨hX1,hX2,_⟩:=hX
 have hkp:(zz.zh p.sums).take k=zz.zh p.sums:=List.take_of_length_le (by omega)
 rcases L with⟨L,hb0⟩ | ⟨x,b',hbx,L⟩
 · obtain ⟨name, version, source, sums, dev, zn⟩ := p
   simp only at hp0
   subst hp0
   simp only[zG]at L hf1 hks hkp ⊢
   rw[hE]at L ⊢
   clear hE hres
   generalize zz.zh sums=es1 at *
   subst hb0
   simp only[show z1.zh []=[] from rfl,show ocE []=[] from rfl,List.append_nil,List.map_nil,List.length_nil,Nat.add_zero]at L hAul hno1 hno2 hX1 hX2 hn' ⊢
   generalize hU:(ocE (z1.zh a)).map (fun c=>c.map unO)=U1 at *
   generalize ocE (z1.zh a)=T1 at *
   have hle1:∀ y:List V,(T1++[y]).length=a.length+1:=fun y=>by simp[hal]
   have hnone:T1[a.length]? = none:=List.getElem?_eq_none (by omega)
   have hna:n=a.length:=by omega
   subst hna
   have q1:T1.take a.length=T1:=List.take_of_length_le (by omega)
   have q2:T1.drop a.length=[]:=List.drop_of_length_le (by omega)
   have q3:U1.take a.length=U1:=List.take_of_length_le (by omega)
   have q4:U1.drop a.length=[]:=List.drop_of_length_le (by omega)
   have c00:(0:Int)≤(a.length:Int):=by omega
   have g1:=fun y=>w5 T1 [] y a.length hal
   have g2:=fun y z=>xH T1 [] y z a.length hal
   clear hn hl hne hbl hBul hk hn'
   generalize a.length=at0 at *
   refine zH Tryz.func196 rfl (by kernel_rfl) ?_
   unfold Tryz.f196
   simp (maxSteps:=1000000) (disch:=((try simp only[LL]);omega)) only[↓GO,↓DRW,GA,GX,ren,zk,za,refs,z8,cst,zr,isC,bin,una,z7,zd,blt,asArg,zg,zc,zf,z6,E.mkS,unN,ze,zm,zb,GS,simprocAttr,zB,zC,yB,yr,yv,yu,yC,gh1,yq,yh,yk,zL,mkO,yf,y8,y9,mvC,unO,zR,yz,yt,yo,zI,yp,yn,zY,oc,oTs,oT,zK,zK.rowTs,yj,isL,E.BX,GZ,L,c00,if_true,Int.toNat_natCast,Nat.zero_add,Nat.sub_zero,Nat.sub_self,Nat.add_zero,hnone,hno1,hno2,hU,hle1,m1,q1,q2,q3,q4,g1,g2,hal,hAul,hA1,hA2,hX1,hX2,hf1,hks,hkp,List.append_nil,List.map_nil,Bool.and_false,and_false,false_and,if_false,ya,zA]
   all_goals (refine zU (by kernel_rfl) ?_)
   all_goals rfl
 · subst hbx
   have hbl':(ocE (z1.zh b')).length=b'.length:=by rw[zS,z1.zj]
   have m3:=Qh b' fun _ _=>trivial
   have hUb:((ocE (z1.zh (x::b'))).map fun c=>c.map unO)=[V.t (.str x.name),.t (.str x.version),.t (.str x.source),.bad,.t (.bool x.dev),.bad]::((ocE (z1.zh b')).map fun c=>c.map unO):=rfl
   have hBx:ocE (z1.zh (x::b'))=[V.t (.str x.name),.t (.str x.version),.t (.str x.source),.o (.list 2 (zz.zh x.sums)),.t (.bool x.dev),.o (.list 1 (strs x.zn))]::ocE (z1.zh b'):=rfl
   have hxs1:=zz.zj x.sums
   have hxs2:=zi x.zn
   have hxk1:(zz.zh x.sums).take x.sums.length=zz.zh x.sums:=List.take_of_length_le (by omega)
   have hxk2:(strs x.zn).take x.zn.length=strs x.zn:=List.take_of_length_le (by omega)
   have hxf1:=x6 x.sums
   have hxf2:=yb x.zn
   obtain⟨hC1,hC2,_⟩:=yD b'
   obtain⟨name,version,source,sums,dev,zn⟩:=p
   obtain⟨name',version',source',sums',dev',needs'⟩:=x
   simp only at hp0
   subst hp0
   simp only[zG]at L hf1 hks hkp hxs1 hxs2 hxk1 hxk2 hxf1 hxf2 hBx hUb ⊢
   rw[hE]at L ⊢
   rw[hUb]at hX1 hX2 ⊢
   rw[hBx]at L m2 hno1 hno2 hB1 hB2 ⊢
   clear hE hres
   generalize zz.zh sums=es1 at *
   generalize zz.zh sums'=es2 at *
   generalize strs needs'=es3 at *
   generalize hU:(ocE (z1.zh a)).map (fun c=>c.map unO)=U1 at *
   generalize hU2:(ocE (z1.zh b')).map (fun c=>c.map unO)=U2 at *
   generalize ocE (z1.zh a)=T1 at *
   generalize ocE (z1.zh b')=T2 at *
   have hle1:∀ y:List V,(T1++[y]).length=a.length+1:=fun y=>by simp[hal]
   have hle2:∀ y:List V,(T1++y::T2).length=n:=fun y=>by simp[hal,hbl',hn']
   have hle3:∀ y:List V,(U1++y::T2).length=n:=fun y=>by simp[hAul,hbl',hn']
   have q1:∀ y:List V,(T1++y::T2).take a.length=T1:=fun y=>by rw[← hal,List.take_left]
   have q2:∀ y:List V,(T1++y::T2).drop a.length=y::T2:=fun y=>by rw[← hal,List.drop_left]
   have q3:∀ y:List V,(U1++y::T2).take a.length=U1:=fun y=>by rw[← hAul,List.take_left]
   have q4:∀ y:List V,(U1++y::T2).drop a.length=y::T2:=fun y=>by rw[← hAul,List.drop_left]
   have hsub:(((n:Int) - (a.length:Int)).toNat)=b'.length+1:=by simp at hn';omega
   have hsub2:n - a.length=b'.length+1:=by simp at hn';omega
   have hadd:a.length+(b'.length+1)=n:=by simp at hn';omega
   have q5:∀ y:List V,(y::T2).take (b'.length+1)=y::T2:=fun y=>List.take_of_length_le (by simp[hbl'])
   have q6:∀ y:List V,(U1++y::T2).drop n=[]:=fun y=>List.drop_of_length_le (by rw[hle3];omega)
   have hle:(a.length:Int)≤(n:Int):=by omega
   have hln:a.length≤n:=by omega
   have c00:(0:Int)≤(a.length:Int):=by omega
   have c01:(0:Int)≤(n:Int):=by omega
   have g1:=fun y=>w5 T1 T2 y a.length hal
   have g2:=fun y z=>xH T1 T2 y z a.length hal
   have g3:∀ (y:List V) (z:List (List V)),(T1++[y]++z)[a.length]? = some y:=fun y z=>by rw[List.append_assoc];exact w5 T1 z y a.length hal
   have g4:∀ (y y':List V) (z:List (List V)),(T1++[y]++z).set a.length y'=T1++[y']++z:=fun y y' z=>by rw[List.append_assoc,List.append_assoc];exact xH T1 z y y' a.length hal
   clear hn hl hne hbl hBul hk
   generalize a.length=at0 at *
   refine zH Tryz.func196 rfl (by kernel_rfl) ?_
   unfold Tryz.f196
   simp (maxSteps:=1000000) (disch:=((try simp only[LL]);omega)) only[↓GO,↓DRW,GA,GX,ren,zk,za,refs,z8,cst,zr,isC,bin,una,z7,zd,blt,asArg,zg,zc,zf,z6,E.mkS,unN,ze,zm,zb,GS,simprocAttr,zB,zC,yB,yr,yv,yu,yC,gh1,yq,yh,yk,zL,mkO,yf,y8,y9,mvC,unO,zR,yz,yt,yo,zI,yp,yn,zY,oc,oTs,oT,zK,zK.rowTs,yj,isL,E.BX,GZ,L,c00,c01,if_true,Int.toNat_natCast,Nat.zero_add,Nat.sub_zero,Nat.sub_self,Nat.add_zero,hno1,hno2,hU,hU2,hle1,hle2,hle3,hle,hln,hsub,hsub2,hadd,m1,m2,m3,q1,q2,q3,q4,q5,q6,g1,g2,g3,g4,hal,hbl',hAul,hA1,hA2,hB1,hB2,hC1,hC2,hX1,hX2,hf1,hks,hkp,hxs1,hxs2,hxk1,hxk2,hxf1,hxf2,List.append_nil,List.map_nil,Bool.and_false,and_false,false_and,if_false,ya,zA]
   all_goals (refine zU (by kernel_rfl) ?_)
   all_goals rw[show at0+1+(b'.length+1)=n+1 by simp at hn';omega]
set_option maxHeartbeats 8000000 in
theorem M0 (k:Nat) (cap0 cap:Option Nat) (p:z1) (hp0:p.zn=[]) (hk:k=p.sums.length)
 (L:EV Tryz.prog pol (.loop 196 28 2 [.ptr 2 0 0,.ptr 3 0 0,.ptr 4 0 0,.t (.int .i64 0)] [.vs 6 [],.ts 2 (zz.zh p.sums),.vs 2 [[.nil 1,.sl 0 0 0 cap0]],.vs 6 [[.t (.str p.name),.t (.str p.version),.t (.str p.source),.sl 1 0 k cap,.t (.bool p.dev),.nil 1]],.vs 2 [zG]])
  = some (.loop (.exit 0) [.ptr 2 0 0,.ptr 3 0 0,.ptr 4 0 0,.t (.int .i64 0)] [.vs 6 [],.ts 2 (zz.zh p.sums),.vs 2 [[.nil 1,.sl 0 0 0 cap0]],.vs 6 [[.t (.str p.name),.t (.str p.version),.t (.str p.source),.sl 1 0 k cap,.t (.bool p.dev),.nil 1]],.vs 2 [zG]])) :
 Gp [] 0 k cap0 cap p [] []:=by
 refine⟨[],.dead,sN,?_⟩
 have hf1:=x6 p.sums
 have hks:(zz.zh p.sums).length=k:=by rw[zz.zj,hk]
 have hkp:(zz.zh p.sums).take k=zz.zh p.sums:=List.take_of_length_le (by omega)
 have hres:ocE (z1.zh ([]++p::[]))=[[V.t (.str p.name),.t (.str p.version),.t (.str p.source),.o (.list 2 (zz.zh p.sums)),.t (.bool p.dev),.o (.list 1 [])]]:=by
  rw[show ocE (z1.zh ([]++p::[]))=[[V.t (.str p.name),.t (.str p.version),.t (.str p.source),.o (.list 2 (zz.zh p.sums)),.t (.bool p.dev),.o (.list 1 (strs p.zn))]] from rfl,hp0]
  rfl
 rw[hres,show ocE (z1.zh [])=[] from rfl]
 clear hres
 obtain⟨name,version,source,sums,dev,zn⟩:=p
 simp only at hp0
 subst hp0
 simp only[zG]at L hf1 hks hkp ⊢
 generalize zz.zh sums=es1 at *
 clear hk
 obtain⟨z,hz⟩:∃ z:Nat,z=0:=⟨0,rfl⟩
 obtain⟨T1,hT⟩:∃ T1:List (List V),T1=[]:=⟨[],rfl⟩
 have hL:EV Tryz.prog pol (.loop 196 28 2 [.ptr 2 0 0,.ptr 3 0 0,.ptr 4 0 0,.t (.int .i64 0)] [.vs 6 T1,.ts 2 es1,.vs 2 [[.nil 1,.sl 0 0 z cap0]],.vs 6 [[.t (.str name),.t (.str version),.t (.str source),.sl 1 0 k cap,.t (.bool dev),.nil 1]],.vs 2 [[.nil 1,.nil 6]]])
  = some (.loop (.exit 0) [.ptr 2 0 0,.ptr 3 0 0,.ptr 4 0 0,.t (.int .i64 (z:Int))] [.vs 6 T1,.ts 2 es1,.vs 2 [[.nil 1,.sl 0 0 z cap0]],.vs 6 [[.t (.str name),.t (.str version),.t (.str source),.sl 1 0 k cap,.t (.bool dev),.nil 1]],.vs 2 [[.nil 1,.nil 6]]]):=by
  subst hz hT;exact L
 have hal:T1.length=z:=by rw[hT,hz];rfl
 have q1:T1.take z=T1:=by rw[hT];exact List.take_nil
 have q2:T1.drop z=[]:=by rw[hT];exact List.drop_nil
 have c00:(0:Int)≤(z:Int):=by omega
 have hz1:(z=0)=True:=by simp[hz]
 have hz2:(0=z)=True:=by simp[hz]
 have hle1:∀ y:List V,(T1++[y]).length=z+1:=fun y=>by simp[hal]
 have hnone:T1[z]? = none:=by rw[hT];rfl
 have hok:(T1.all fun c=>c.all ye)=true:=by rw[hT];rfl
 have hA1:T1.flatMap refs.refss=[]:=by rw[hT];rfl
 have hA2:∀ f:Nat→Option Nat,T1.map (ren.rens f)=T1:=fun f=>by rw[hT];rfl
 have happ:∀ y:List V,T1++[y]++T1=T1++[y]:=fun y=>by rw[hT];rfl
 have g1:=fun y=>w5 T1 [] y z hal
 have g2:=fun y y'=>xH T1 [] y y' z hal
 have hzM:z≤1048576:=by omega
 have goal:EV Tryz.prog pol (.callO false 196 [.agg [.nil 1,.sl 0 0 z cap0],.agg [.t (.str name),.t (.str version),.t (.str source),.sl 1 0 k cap,.t (.bool dev),.nil 1]] [.vs 6 T1,.ts 2 es1])
  = some (.call (.agg [.nil 1,.sl 2 0 (z+1) none]) [.vs 6 T1,.dead,.vs 6 (T1++[[V.t (.str name),.t (.str version),.t (.str source),.o (.list 2 es1),.t (.bool dev),.o (.list 1 [])]])]):=by
  clear L hT hz
  refine zH Tryz.func196 rfl (by kernel_rfl) ?_
  unfold Tryz.f196
  simp (maxSteps:=1000000) (disch:=((try simp only[LL]);omega)) only[↓GO,↓DRW,GA,GX,ren,zk,za,refs,z8,cst,zr,isC,bin,una,z7,zd,blt,asArg,zg,zc,zf,z6,E.mkS,unN,ze,zm,zb,GS,simprocAttr,zB,zC,yB,yr,yv,yu,yC,gh1,yq,yh,yk,zL,mkO,yf,y8,y9,mvC,unO,zR,yz,yt,yo,zI,yp,yn,zY,oc,oTs,oT,zK,zK.rowTs,yj,isL,E.BX,GZ,hL,c00,if_true,Int.toNat_natCast,Nat.zero_add,Nat.sub_zero,Nat.sub_self,Nat.add_zero,hz1,hz2,hnone,hok,hle1,q1,q2,g1,g2,hal,hA1,hA2,happ,hf1,hks,hkp,List.append_nil,List.map_nil,Bool.and_false,and_false,false_and,if_false,ya,zA]
  all_goals (refine zU (by kernel_rfl) ?_)
  all_goals rfl
 subst hz hT
 exact goal
theorem c_put (l:List z1)(k:Nat)(cap0 cap:Option Nat)(p:z1)(hp0:p.zn=[])(hpb:p.y6≤1048576)(hk:k=p.sums.length)(hl:l.length≤1048575)(hb:∀ x∈l,x.y6≤1048576) :
 ∃ a b:List z1,l=a++b∧Gp l l.length k cap0 cap p a b:=by
 have L:=OM l.length k cap0 cap p hp0 hpb hk l rfl (by omega) hb l [] rfl
 rcases L with L | ⟨a,b,x,h1,L⟩
 · cases hl0 : l with
   | nil=>subst hl0;exact⟨[],[],rfl,M0 k cap0 cap p hp0 hk L⟩
   | cons y r =>
    rw[← hl0]
    refine⟨l,[],by simp,?_⟩
    have:=RX l [] l.length k cap0 cap p hp0 hk (by simp) (by simp;omega) (by rw[hl0];simp) (.inl ⟨by rw[List.append_nil];exact L,rfl⟩)
    rw[List.append_nil]at this
    exact this
 · subst h1
   exact⟨a,x::b,rfl,RX a (x::b) (a++x::b).length k cap0 cap p hp0 hk rfl (by omega) (by simp) (.inr ⟨x,b,rfl,L⟩)⟩
theorem ck (B:Nat):∀ l:List zz,(∀ s∈l,s.y6≤B)→zz.zX l≤l.length*B
 | [],_=>Nat.zero_le _
 | x::r,h=>by
  have h1:=h x (by simp)
  have h2:=ck B r fun s hs=>h s (by simp[hs])
  simp only[zz.zX,List.length_cons,Nat.add_mul];omega
theorem nq (B:Nat):∀ l:List z1,(∀ s∈l,s.y6≤B)→z1.zX l≤l.length*B
 | [],_=>Nat.zero_le _
 | x::r,h=>by
  have h1:=h x (by simp)
  have h2:=nq B r fun s hs=>h s (by simp[hs])
  simp only[z1.zX,List.length_cons,Nat.add_mul];omega
theorem o9 (B:Nat):∀ l:List Str,(∀ s∈l,s.length≤B)→yg l≤l.length*B
 | [],_=>Nat.zero_le _
 | x::r,h=>by
  have h1:=h x (by simp)
  have h2:=o9 B r fun s hs=>h s (by simp[hs])
  simp only[yg,List.length_cons,Nat.add_mul];omega
theorem cq {k:Nat}{p:z1}(h:smP k p)(hk:k≤8):p.y6≤4096:=by
 obtain⟨h1,h2,h3,⟨h4,h5⟩,h6,h7⟩:=h
 have e1:=ck 72 p.sums fun s hs=>by
  obtain⟨q1,q2⟩:=h5 s hs
  simp only[zz.y6];omega
 have e2:=o9 400 p.zn h7
 simp only[z1.y6]
 omega
def YG (k:Nat)(l:List z1):Prop:=∀ x∈l,smP k x
theorem tO {k:Nat}{l:List z1}(h:YG k l)(hk:k≤8):∀ x∈l,x.y6≤4096:=fun x hx=>cq (h x hx) hk
theorem QP {k:Nat}{l:List z1}(h:YG k l)(hk:k≤8)(hl:l.length≤8)(top:List Str)(ht:top.length≤8)(ht2:∀ s∈top,s.length≤400):GB ⟨top,l⟩:=by
 have e1:=nq 4096 l (tO h hk)
 have e2:=o9 400 top ht2
 unfold GB zw.y6
 simp only
 omega
set_option maxHeartbeats 4000000 in
theorem kV (bs:List Int)(hb:okB bs)(n:Nat)(hn:n≤6):∀ (m i:Nat) (c:Cs) (l:List z1) (cap0:Option Nat),cok bs c→n=i+m→l.length≤i→YG 0 l→∃ (c':Cs) (l':List z1) (cap':Option Nat),cok bs c'∧l'.length≤n∧YG 0 l' ∧
 EV Tryz.prog pol (.loop 133 122 1 [.ptr 0 0 0,.ptr 1 0 0,.ptr 2 0 0,.t (.int .i64 (n:Int)),.t (.int .i64 (i:Int))] [cuR bs c,.vs 2 [zG],.vs 2 [[.nil 1,.sl 3 0 l.length cap0]],.vs 6 (ocE (z1.zh l))])
  = some (.loop (.exit 0) [.ptr 0 0 0,.ptr 1 0 0,.ptr 2 0 0] [cuR bs c',.vs 2 [zG],.vs 2 [[.nil 1,.sl 3 0 l'.length cap']],.vs 6 (ocE (z1.zh l'))])
 | 0,i,c,l,cap0,hc,hi,hl,hs=>by
  have c0:decide ((i:Int)<(n:Int))=false:=by apply decide_eq_false;omega
  refine⟨c,l,cap0,hc,by omega,hs,?_⟩
  obtain⟨h1,h2,_⟩:=yD l
  simp only[zG]
  unfold cuR
  generalize ocE (z1.zh l)=E0 at *
  clear hb hc hs
  refine zo Tryz.func133 rfl rfl ?_
  simp (disch:=((try simp only[LL]);omega)) only[↓GO,↓DRW,GA,GX,ren,zk,za,refs,z8,cst,zr,isC,bin,una,z7,zd,blt,asArg,zg,zc,zf,z6,E.mkS,unN,ze,zm,zb,GS,simprocAttr,zB,zC,yB,yr,yv,yu,yC,gh1,yq,yh,yk,zL,mkO,yf,y8,y9,mvC,unO,zR,yz,yt,yo,zI,yp,yn,zY,oc,oTs,oT,zK,zK.rowTs,yj,isL,E.BX,GZ,c0,h1,h2,zA]
 | m + 1, i, c, l, cap0, hc, hi, hl, hs => by
  have c0:decide ((i:Int)<(n:Int))=true:=by apply decide_eq_true;omega
  obtain⟨p,c1,cap,hp,hc1,d1⟩:=M6 bs hb c hc
  have hpb:=cq hp (by omega)
  have d2:=uB p (by omega)
  have d3:=ln ⟨[],l⟩ (keyOf p) (QP hs (by omega) (by omega) [] (by simp) (by simp))
  have hks:(zz.zh p.sums).length=p.sums.length:=zz.zj _
  have hkp:(zz.zh p.sums).take p.sums.length=zz.zh p.sums:=List.take_of_length_le (by omega)
  have hp0:p.zn=[]:=List.eq_nil_of_length_eq_zero (by have:=hp.2.2.2.2.1;omega)
  have hlt:(ocE (z1.zh l)).take l.length=ocE (z1.zh l):=List.take_of_length_le (by rw[zS,z1.zj];exact Nat.le_refl _)
  obtain⟨h1,h2,_⟩:=yD l
  cases hf:tk l (keyOf p) with
  | some j =>
   have c1':decide ((j:Int)<0)=false:=by apply decide_eq_false;omega
   obtain⟨c',l',cap',q1,q2,q3,IH⟩:=kV bs hb n hn m (i+1) c1 l cap0 hc1 (by omega) (by omega) hs
   refine⟨c',l',cap',q1,q2,q3,?_⟩
   rw[show ((i+1:Nat):Int)=(i:Int)+1 by omega]at IH
   simp only[hf,ixI]at d3
   simp only[zw.enc,z1.enc,List.map_cons,List.map_nil,show strs []=[] from rfl,hp0]at d2 d3
   clear q3 hs hp hb hc hf
   simp only[zG]at IH ⊢
   unfold cuR at *
   generalize ocE (z1.zh l')=E1 at *
   generalize keyOf p=kp at *
   obtain⟨name,version,source,sums,dev,zn⟩:=p
   simp only at hp0 hks hkp d1 d2
   generalize zz.zh sums=es at *
   refine zo Tryz.func133 rfl rfl ?_
   simp (disch:=((try simp only[LL]);omega)) only[↓GO,↓DRW,GA,GX,ren,zk,za,refs,z8,cst,zr,isC,bin,una,z7,zd,blt,asArg,zg,zc,zf,z6,E.mkS,unN,ze,zm,zb,GS,simprocAttr,zB,zC,yB,yr,yv,yu,yC,gh1,yq,yh,yk,zL,mkO,yf,y8,y9,mvC,unO,zR,yz,yt,yo,zI,yp,yn,zY,oc,oTs,oT,zK,zK.rowTs,yj,isL,E.BX,GZ,c0,c1',d1,d2,d3,h1,h2,hlt,hks,hkp,vh,yJ,yc,List.drop_zero,zq,zA,IH]
  | none =>
   obtain⟨a,b,hab,X,x0,hX,d4⟩:=c_put l p.sums.length cap0 cap p hp0 (by omega) rfl (by omega) fun x hx=>by have:=tO hs (by omega) x hx;omega
   have hs':YG 0 (a++p::b):=fun x hx=>by
    simp only[List.mem_append,List.mem_cons]at hx
    rcases hx with hx | rfl | hx
    · exact hs x (by rw[hab];simp[hx])
    · exact hp
    · exact hs x (by rw[hab];simp[hx])
   have hlen:(a++p::b).length=l.length+1:=by rw[hab];simp;omega
   obtain⟨c',l',cap',q1,q2,q3,IH⟩:=kV bs hb n hn m (i+1) c1 (a++p::b) none hc1 (by omega) (by omega) hs'
   refine⟨c',l',cap',q1,q2,q3,?_⟩
   rw[show ((i+1:Nat):Int)=(i:Int)+1 by omega,hlen]at IH
   obtain⟨hX1,hX2,_⟩:=hX
   obtain⟨hY1,hY2,_⟩:=yD (a++p::b)
   simp only[hf,ixI]at d3
   simp only[zw.enc,z1.enc,List.map_cons,List.map_nil,show strs []=[] from rfl,hp0]at d2 d3
   clear q3 hs hp hb hc hf hs'
   simp only[zG]at IH ⊢
   unfold cuR at *
   generalize ocE (z1.zh l')=E1 at *
   generalize ocE (z1.zh (a++p::b))=E2 at *
   generalize keyOf p=kp at *
   obtain⟨name,version,source,sums,dev,zn⟩:=p
   simp only at hp0 hks hkp d1 d2 d4
   generalize zz.zh sums=es at *
   refine zo Tryz.func133 rfl rfl ?_
   simp (disch:=((try simp only[LL]);omega)) only[↓GO,↓DRW,GA,GX,ren,zk,za,refs,z8,cst,zr,isC,bin,una,z7,zd,blt,asArg,zg,zc,zf,z6,E.mkS,unN,ze,zm,zb,GS,simprocAttr,zB,zC,yB,yr,yv,yu,yC,gh1,yq,yh,yk,zL,mkO,yf,y8,y9,mvC,unO,zR,yz,yt,yo,zI,yp,yn,zY,oc,oTs,oT,zK,zK.rowTs,yj,isL,E.BX,GZ,c0,d1,d2,d3,d4,h1,h2,hX1,hX2,hY1,hY2,hlt,hks,hkp,vh,yJ,yc,List.drop_zero,zq,zA,IH]
theorem hole2 (E:List (List V))(i k:Nat)(hik:i≠k)(ei ek:List V)(hi:E[i]? = some ei)(hk:E[k]? = some ek):∃ F:List V→List V→List (List V),E=F ei ek∧(∀ y,F y ek=E.set i y) ∧
 (∀ y z,(F y z)[i]? = some y)∧(∀ y z,(F y z)[k]? = some z)∧(∀ y z y',(F y z).set i y'=F y' z)∧(∀ y z z',(F y z).set k z'=F y z')∧(∀ y z,(F y z).length=E.length):=by
 have hil:=(List.getElem?_eq_some_iff.1 hi).1
 have hkl:=(List.getElem?_eq_some_iff.1 hk).1
 have self:∀ (L:List (List V)) (j:Nat) (x:List V),L[j]? = some x→L.set j x=L:=fun L j x h=>by
  apply List.ext_getElem?
  intro m
  rw[List.getElem?_set]
  split
  · rename_i e;subst e;rw[if_pos (List.getElem?_eq_some_iff.1 h).1,h]
  · rfl
 refine⟨fun y z=>(E.set i y).set k z,?_,fun y=>?_,fun y z=>?_,fun y z=>?_,fun y z y'=>?_,fun y z z'=>?_,fun y z=>by simp⟩
 · simp only[self E i ei hi,self E k ek hk]
 · exact self _ k ek (by rw[List.getElem?_set_ne hik];exact hk)
 · rw[List.getElem?_set_ne (Ne.symm hik),List.getElem?_set_self hil]
 · rw[List.getElem?_set_self (by simpa using hkl)]
 · simp only
   rw[List.set_comm _ _ (Ne.symm hik),List.set_set]
 · simp only
   rw[List.set_set]
theorem aG (E:List (List V))(i:Nat)(ei:List V)(hi:E[i]? = some ei):∃ F:List V→List (List V),E=F ei∧(∀ y,F y=E.set i y)∧(∀ y,(F y)[i]? = some y)∧(∀ y y',(F y).set i y'=F y')∧(∀ y,(F y).length=E.length):=by
 have hil:=(List.getElem?_eq_some_iff.1 hi).1
 refine⟨fun y=>E.set i y,?_,fun y=>rfl,fun y=>List.getElem?_set_self hil,fun y y'=>by simp only;rw[List.set_set],fun y=>by simp⟩
 apply List.ext_getElem?
 intro m
 simp only
 rw[List.getElem?_set]
 split
 · rename_i e; subst e
   first | rw[if_pos hil,hi] | rw[hi] | simp[hi,hil]
 · rfl
theorem fy {l:List z1}{i:Nat}{x:z1}(h:l[i]? = some x):(ocE (z1.zh l))[i]? = some [V.t (.str x.name),.t (.str x.version),.t (.str x.source),.o (.list 2 (zz.zh x.sums)),.t (.bool x.dev),.o (.list 1 (strs x.zn))]:=by
 unfold ocE z1.zh
 rw[List.getElem?_map,List.getElem?_map,h]
 rfl
theorem Rn (l:List z1)(i:Nat)(x:z1):ocE (z1.zh (l.set i x))=(ocE (z1.zh l)).set i [V.t (.str x.name),.t (.str x.version),.t (.str x.source),.o (.list 2 (zz.zh x.sums)),.t (.bool x.dev),.o (.list 1 (strs x.zn))]:=by
 unfold ocE z1.zh
 rw[List.map_set,List.map_set]
 rfl
def smB (f:Nat→Nat)(l:List z1):Prop:=∀ (j:Nat) (x:z1),l[j]? = some x→smP (f j) x
theorem oa {k k':Nat}{p:z1}(h:smP k p)(hk:k≤k'):smP k' p:=⟨h.1,h.2.1,h.2.2.1,h.2.2.2.1,by have:=h.2.2.2.2.1;omega,h.2.2.2.2.2⟩
theorem iJ {k:Nat}{p:z1}(h:smP k p):(keyOf p).length≤400:=by
 have:=ea p
 have h1:=h.1
 have h2:=h.2.1
 unfold keyOf
 simp
 omega
def ua (x:z1)(k:Str):z1:=⟨x.name,x.version,x.source,x.sums,x.dev,x.zn++[k]⟩
theorem Tm {j:Nat}{x:z1}{k:Str}(h:smP j x)(hk:k.length≤400):smP (j+1) (ua x k):=by
 obtain⟨h1,h2,h3,h4,h5,h6⟩:=h
 refine⟨h1,h2,h3,h4,by simp[ua];omega,fun s hs=>?_⟩
 simp only[ua,List.mem_append,List.mem_singleton]at hs
 rcases hs with hs | rfl
 · exact h6 s hs
 · exact hk
set_option maxHeartbeats 8000000 in
theorem Ri (bs:List Int) (c:Cs) (l:List z1) (n i k:Nat) (tp:List (List T)) (cap:Option Nat) (xi xk:z1) (hi:l[i]? = some xi) (hk:l[k]? = some xk) (hn:n=l.length) (hn6:n≤8) (hbi:xi.y6≤4096) (hbk:xk.y6≤4096) (R:wk)
 (IH:EV Tryz.prog pol (.loop 133 32034 1 [.ptr 0 0 0,.ptr 1 0 0,.ptr 2 0 0,.t (.int .i64 (i:Int)),.t (.int .i64 ((k:Int)+1))] [cuR bs c,.vs 2 [zG],.vs 2 [[.o (.list 1 tp),.sl 3 0 n cap]],.vs 6 (ocE (z1.zh (l.set i (ua xi (keyOf xk)))))])=some R)
 (c0:Cs) (hb:okB bs) (hc0:cok bs c0)
 (hd:(∃ (c1:Cs),c1=c∧i<k∧EV Tryz.prog pol (.callO false 131 [.ptr 0 0 0,.t (.int .i64 4)] [cuR bs c0])=some (.call (.t (.bool true)) [cuR bs c])) ∨
  (∃ (c1:Cs),¬ i<k∧EV Tryz.prog pol (.callO false 131 [.ptr 0 0 0,.t (.int .i64 4)] [cuR bs c0])=some (.call (.t (.bool true)) [cuR bs c1])∧EV Tryz.prog pol (.callO false 131 [.ptr 0 0 0,.t (.int .i64 4)] [cuR bs c1])=some (.call (.t (.bool true)) [cuR bs c]))) :
 EV Tryz.prog pol (.loop 133 32034 1 [.ptr 0 0 0,.ptr 1 0 0,.ptr 2 0 0,.t (.int .i64 (i:Int)),.t (.int .i64 (k:Int))] [cuR bs c0,.vs 2 [zG],.vs 2 [[.o (.list 1 tp),.sl 3 0 n cap]],.vs 6 (ocE (z1.zh l))])=some R:=by
 have hil:=(List.getElem?_eq_some_iff.1 hi).1
 have hkl:=(List.getElem?_eq_some_iff.1 hk).1
 have cA:decide ((k:Int)<(n:Int))=true:=by apply decide_eq_true;omega
 have cI:decide ((i:Int)<(n:Int))=true:=by apply decide_eq_true;omega
 have hkM:k<8:=by omega
 have hiM:i<8:=by omega
 have cI0:(0:Int)≤(i:Int):=by omega
 have cK0:(0:Int)≤(k:Int):=by omega
 have cI1:decide ((0:Int)≤(i:Int))=true:=by apply decide_eq_true;omega
 have cK1:decide ((0:Int)≤(k:Int))=true:=by apply decide_eq_true;omega
 have d1:=uB xk (by omega)
 have hkk:=ea xk
 have hg1:=fy hi
 have hg2:=fy hk
 rw[Rn]at IH
 have hnR:=yD (l.set i (ua xi (keyOf xk)))
 rw[Rn]at hnR
 obtain⟨h1,h2,_⟩:=hnR
 have hsI:=zz.zj xi.sums
 have hsI2:=zi xi.zn
 have htI:(zz.zh xi.sums).take xi.sums.length=zz.zh xi.sums:=List.take_of_length_le (by omega)
 have htI2:(strs xi.zn).take xi.zn.length=strs xi.zn:=List.take_of_length_le (by omega)
 have hfI:=x6 xi.sums
 have hfI2:=yb xi.zn
 have hfI3:=yb (xi.zn++[keyOf xk])
 have hnl:xi.zn.length≤4096:=by simp only[z1.y6]at hbi;omega
 rw[show strs (ua xi (keyOf xk)).zn=strs xi.zn++[[.str (keyOf xk)]] by simp[strs,ua]]at IH h1 h2
 rw[show strs (xi.zn++[keyOf xk])=strs xi.zn++[[.str (keyOf xk)]] by simp[strs]]at hfI3
 have htI3:(strs xi.zn++[[T.str (keyOf xk)]]).take (xi.zn.length+1)=strs xi.zn++[[T.str (keyOf xk)]]:=List.take_of_length_le (by simp[hsI2])
 by_cases hik:i=k
 · subst hik
   obtain rfl:xi=xk:=by rw[hi]at hk;cases hk;rfl
   obtain⟨F,f1,f2,f3,f5,f7⟩:=aG _ i _ hg1
   rw[← f2]at IH h1 h2
   rw[f1]
   clear hg1 hg2 f1 f2 hi hk
   simp only[ua]at IH h1 h2
   simp only[z1.enc,List.map_cons,List.map_nil]at d1
   have f8:∀ y,(F y).length=n:=fun y=>by rw[f7,zS,z1.zj,hn]
   clear f7 hil hkl hn
   rcases hd with⟨c1,rfl,hlt,d2⟩ | ⟨c1,hlt,d2,d3⟩
   · exact absurd hlt (Nat.lt_irrefl _)
   have cG:decide ((i:Int) > (i:Int))=false:=by apply decide_eq_false;omega
   clear hb hc0 hbi hbk hlt
   simp only[zG]at IH ⊢
   unfold cuR at *
   generalize keyOf xi=kx at *
   obtain⟨name,version,source,sums,dev,zn⟩:=xi
   simp only at *
   generalize zz.zh sums=es1 at *
   generalize strs zn=es2 at *
   refine zo Tryz.func133 rfl rfl ?_
   simp (maxSteps:=1000000) (disch:=((try simp only[LL]);omega)) only[↓GO,↓DRW,GA,GX,ren,zk,za,refs,z8,cst,zr,isC,bin,una,z7,zd,blt,asArg,zg,zc,zf,z6,E.mkS,unN,ze,zm,zb,GS,simprocAttr,zB,zC,yB,yr,yv,yu,yC,gh1,yq,yh,yk,zL,mkO,yf,y8,y9,mvC,unO,zR,yz,yt,yo,zI,yp,yn,zY,oc,oTs,oT,zK,zK.rowTs,yj,isL,E.BX,GZ,cA,cI,cI0,cI1,cG,d1,d2,d3,f3,f5,f8,h1,h2,hsI,hsI2,htI,htI2,htI3,hfI,hfI2,hfI3,if_true,Int.toNat_natCast,Nat.zero_add,List.length_append,List.length_singleton,zq,ya,zA,IH]
   all_goals (refine zU (by kernel_rfl) ?_)
   all_goals first | rfl | (simp only[List.length_append,List.length_singleton,hsI2];rfl)
 · have hsK := zz.zj xk.sums
   have hsK2:=zi xk.zn
   have htK:(zz.zh xk.sums).take xk.sums.length=zz.zh xk.sums:=List.take_of_length_le (by omega)
   have htK2:(strs xk.zn).take xk.zn.length=strs xk.zn:=List.take_of_length_le (by omega)
   have hfK:=x6 xk.sums
   have hfK2:=yb xk.zn
   obtain⟨F,f1,f2,f3,f4,f5,f6,f7⟩:=hole2 _ i k hik _ _ hg1 hg2
   rw[← f2]at IH h1 h2
   rw[f1]
   clear hg1 hg2 f1 f2 hi hk
   simp only[ua]at IH h1 h2
   simp only[z1.enc,List.map_cons,List.map_nil]at d1
   have f8:∀ y z,(F y z).length=n:=fun y z=>by rw[f7,zS,z1.zj,hn]
   clear f7 hil hkl hn
   rcases hd with⟨c1,rfl,hlt,d2⟩ | ⟨c1,hlt,d2,d3⟩
   · have cG : decide ((k : Int) > (i : Int)) = true := by apply decide_eq_true; omega
     clear hb hc0 hbi hbk hlt hik
     simp only[zG]at IH ⊢
     unfold cuR at *
     generalize keyOf xk=kx at *
     obtain⟨name,version,source,sums,dev,zn⟩:=xi
     obtain⟨name',version',source',sums',dev',needs'⟩:=xk
     simp only at *
     generalize zz.zh sums=es1 at *
     generalize strs zn=es2 at *
     generalize zz.zh sums'=es3 at *
     generalize strs needs'=es4 at *
     refine zo Tryz.func133 rfl rfl ?_
     simp (maxSteps:=1000000) (disch:=((try simp only[LL]);omega)) only[↓GO,↓DRW,GA,GX,ren,zk,za,refs,z8,cst,zr,isC,bin,una,z7,zd,blt,asArg,zg,zc,zf,z6,E.mkS,unN,ze,zm,zb,GS,simprocAttr,zB,zC,yB,yr,yv,yu,yC,gh1,yq,yh,yk,zL,mkO,yf,y8,y9,mvC,unO,zR,yz,yt,yo,zI,yp,yn,zY,oc,oTs,oT,zK,zK.rowTs,yj,isL,E.BX,GZ,cA,cI,cI0,cK0,cI1,cK1,cG,d1,d2,f3,f4,f5,f6,f8,h1,h2,hsI,hsI2,htI,htI2,htI3,hfI,hfI2,hfI3,hsK,hsK2,htK,htK2,hfK,hfK2,if_true,Int.toNat_natCast,Nat.zero_add,List.length_append,List.length_singleton,zq,ya,zA,IH]
     all_goals (refine zU (by kernel_rfl) ?_)
     all_goals first | rfl | (simp only[List.length_append,List.length_singleton,hsI2];rfl)
   · have cG : decide ((k : Int) > (i : Int)) = false := by apply decide_eq_false; omega
     clear hb hc0 hbi hbk hlt hik
     simp only[zG]at IH ⊢
     unfold cuR at *
     generalize keyOf xk=kx at *
     obtain⟨name,version,source,sums,dev,zn⟩:=xi
     obtain⟨name',version',source',sums',dev',needs'⟩:=xk
     simp only at *
     generalize zz.zh sums=es1 at *
     generalize strs zn=es2 at *
     generalize zz.zh sums'=es3 at *
     generalize strs needs'=es4 at *
     refine zo Tryz.func133 rfl rfl ?_
     simp (maxSteps:=1000000) (disch:=((try simp only[LL]);omega)) only[↓GO,↓DRW,GA,GX,ren,zk,za,refs,z8,cst,zr,isC,bin,una,z7,zd,blt,asArg,zg,zc,zf,z6,E.mkS,unN,ze,zm,zb,GS,simprocAttr,zB,zC,yB,yr,yv,yu,yC,gh1,yq,yh,yk,zL,mkO,yf,y8,y9,mvC,unO,zR,yz,yt,yo,zI,yp,yn,zY,oc,oTs,oT,zK,zK.rowTs,yj,isL,E.BX,GZ,cA,cI,cI0,cK0,cI1,cK1,cG,d1,d2,d3,f3,f4,f5,f6,f8,h1,h2,hsI,hsI2,htI,htI2,htI3,hfI,hfI2,hfI3,hsK,hsK2,htK,htK2,hfK,hfK2,if_true,Int.toNat_natCast,Nat.zero_add,List.length_append,List.length_singleton,zq,ya,zA,IH]
     all_goals (refine zU (by kernel_rfl) ?_)
     all_goals first | rfl | (simp only[List.length_append,List.length_singleton,hsI2];rfl)
set_option maxHeartbeats 8000000 in
theorem Rh (bs:List Int) (c:Cs) (l:List z1) (n i k:Nat) (tp:List (List T)) (cap:Option Nat) (xi xk:z1) (hi:l[i]? = some xi) (hk:l[k]? = some xk) (hn:n=l.length) (hn6:n≤8) (R:wk)
 (IH:EV Tryz.prog pol (.loop 133 32034 1 [.ptr 0 0 0,.ptr 1 0 0,.ptr 2 0 0,.t (.int .i64 (i:Int)),.t (.int .i64 ((k:Int)+1))] [cuR bs c,.vs 2 [zG],.vs 2 [[.o (.list 1 tp),.sl 3 0 n cap]],.vs 6 (ocE (z1.zh l))])=some R)
 (c0:Cs)
 (hd:EV Tryz.prog pol (.callO false 131 [.ptr 0 0 0,.t (.int .i64 4)] [cuR bs c0])=some (.call (.t (.bool false)) [cuR bs c]) ∨
  (∃ (c1:Cs),¬ i<k∧EV Tryz.prog pol (.callO false 131 [.ptr 0 0 0,.t (.int .i64 4)] [cuR bs c0])=some (.call (.t (.bool true)) [cuR bs c1])∧EV Tryz.prog pol (.callO false 131 [.ptr 0 0 0,.t (.int .i64 4)] [cuR bs c1])=some (.call (.t (.bool false)) [cuR bs c]))) :
 EV Tryz.prog pol (.loop 133 32034 1 [.ptr 0 0 0,.ptr 1 0 0,.ptr 2 0 0,.t (.int .i64 (i:Int)),.t (.int .i64 (k:Int))] [cuR bs c0,.vs 2 [zG],.vs 2 [[.o (.list 1 tp),.sl 3 0 n cap]],.vs 6 (ocE (z1.zh l))])=some R:=by
 have hil:=(List.getElem?_eq_some_iff.1 hi).1
 have hkl:=(List.getElem?_eq_some_iff.1 hk).1
 have cA:decide ((k:Int)<(n:Int))=true:=by apply decide_eq_true;omega
 have hkM:k<8:=by omega
 have hiM:i<8:=by omega
 have cI0:(0:Int)≤(i:Int):=by omega
 have cK0:(0:Int)≤(k:Int):=by omega
 have hg1:=fy hi
 have hg2:=fy hk
 have hself1:(ocE (z1.zh l)).set i [V.t (.str xi.name),.t (.str xi.version),.t (.str xi.source),.o (.list 2 (zz.zh xi.sums)),.t (.bool xi.dev),.o (.list 1 (strs xi.zn))]=ocE (z1.zh l):=by
  obtain⟨F,f1,f2,_⟩:=aG _ i _ hg1
  rw[← f2,← f1]
 have hself2:(ocE (z1.zh l)).set k [V.t (.str xk.name),.t (.str xk.version),.t (.str xk.source),.o (.list 2 (zz.zh xk.sums)),.t (.bool xk.dev),.o (.list 1 (strs xk.zn))]=ocE (z1.zh l):=by
  obtain⟨F,f1,f2,_⟩:=aG _ k _ hg2
  rw[← f2,← f1]
 obtain⟨h1,h2,_⟩:=yD l
 clear hil hkl hn hi hk
 simp only[zG]at IH ⊢
 unfold cuR at *
 obtain⟨name,version,source,sums,dev,zn⟩:=xi
 obtain⟨name',version',source',sums',dev',needs'⟩:=xk
 simp only at *
 generalize zz.zh sums=es1 at *
 generalize strs zn=es2 at *
 generalize zz.zh sums'=es3 at *
 generalize strs needs'=es4 at *
 generalize ocE (z1.zh l)=E0 at *
 rcases hd with d2 | ⟨c1,hlt,d2,d3⟩
 · refine zo Tryz.func133 rfl rfl ?_
   simp (maxSteps:=1000000) (disch:=((try simp only[LL]);omega)) only[↓GO,↓DRW,GA,GX,ren,zk,za,refs,z8,cst,zr,isC,bin,una,z7,zd,blt,asArg,zg,zc,zf,z6,E.mkS,unN,ze,zm,zb,GS,simprocAttr,zB,zC,yB,yr,yv,yu,yC,gh1,yq,yh,yk,zL,mkO,yf,y8,y9,mvC,unO,zR,yz,yt,yo,zI,yp,yn,zY,oc,oTs,oT,zK,zK.rowTs,yj,isL,E.BX,GZ,cA,cI0,cK0,d2,hg1,hg2,hself1,hself2,h1,h2,if_true,Int.toNat_natCast,Nat.zero_add,zq,ya,zA,IH]
 · have cG : decide ((k : Int) > (i : Int)) = false := by apply decide_eq_false; omega
   refine zo Tryz.func133 rfl rfl ?_
   simp (maxSteps:=1000000) (disch:=((try simp only[LL]);omega)) only[↓GO,↓DRW,GA,GX,ren,zk,za,refs,z8,cst,zr,isC,bin,una,z7,zd,blt,asArg,zg,zc,zf,z6,E.mkS,unN,ze,zm,zb,GS,simprocAttr,zB,zC,yB,yr,yv,yu,yC,gh1,yq,yh,yk,zL,mkO,yf,y8,y9,mvC,unO,zR,yz,yt,yo,zI,yp,yn,zY,oc,oTs,oT,zK,zK.rowTs,yj,isL,E.BX,GZ,cA,cI0,cK0,cG,d2,d3,hg1,hg2,hself1,hself2,h1,h2,if_true,Int.toNat_natCast,Nat.zero_add,zq,ya,zA,IH]
def bnd (i k:Nat)(j:Nat):Nat:=if j<i then 6 else if j=i then k else 0
theorem YH {i k:Nat}{l:List z1}(h:smB (bnd i k) l)(hk:k≤8):YG 8 l:=fun x hx=>by
 obtain⟨j,hj⟩:=List.mem_iff_getElem?.1 hx
 exact oa (h j x hj) (by unfold bnd;(repeat' split)<;>omega)
theorem cr {i k:Nat}{l:List z1}(h:smB (bnd i k) l):smB (bnd i (k+1)) l:=fun j x hj=>oa (h j x hj) (by unfold bnd;(repeat' split)<;>omega)
theorem T9 {i k:Nat}{l:List z1}{xi xk:z1}(h:smB (bnd i k) l)(hi:l[i]? = some xi)(hk:l[k]? = some xk):smB (bnd i (k+1)) (l.set i (ua xi (keyOf xk))):=fun j x hj=>by
 rw[List.getElem?_set]at hj
 split at hj
 · rename_i e
   subst e
   split at hj
   · cases hj
     have h1:=h i xi hi
     rw[show bnd i k i=k by simp[bnd]]at h1
     rw[show bnd i (k+1) i=k+1 by simp[bnd]]
     exact Tm h1 (iJ (h k xk hk))
   · cases hj
 · exact cr h j x hj
theorem kU (bs:List Int)(hb:okB bs)(n i:Nat)(tp:List (List T))(cap:Option Nat)(hn6:n≤6)(hin:i<n):∀ (m k:Nat) (c:Cs) (l:List z1),cok bs c→n=l.length→n=k+m→smB (bnd i k) l→∃ (c':Cs) (l':List z1),cok bs c'∧n=l'.length∧smB (bnd i n) l' ∧
 EV Tryz.prog pol (.loop 133 32034 1 [.ptr 0 0 0,.ptr 1 0 0,.ptr 2 0 0,.t (.int .i64 (i:Int)),.t (.int .i64 (k:Int))] [cuR bs c,.vs 2 [zG],.vs 2 [[.o (.list 1 tp),.sl 3 0 n cap]],.vs 6 (ocE (z1.zh l))])
  = some (.loop (.exit 4) [.ptr 0 0 0,.ptr 1 0 0,.ptr 2 0 0,.t (.int .i64 (i:Int))] [cuR bs c',.vs 2 [zG],.vs 2 [[.o (.list 1 tp),.sl 3 0 n cap]],.vs 6 (ocE (z1.zh l'))])
 | 0,k,c,l,hc,hn,hk,hs=>by
  have c0:decide ((k:Int)<(n:Int))=false:=by apply decide_eq_false;omega
  refine⟨c,l,hc,hn,by rw[hk];exact hs,?_⟩
  obtain⟨h1,h2,_⟩:=yD l
  simp only[zG]
  unfold cuR
  generalize ocE (z1.zh l)=E0 at *
  clear hb hc hs hn
  refine zo Tryz.func133 rfl rfl ?_
  simp (disch:=((try simp only[LL]);omega)) only[↓GO,↓DRW,GA,GX,ren,zk,za,refs,z8,cst,zr,isC,bin,una,z7,zd,blt,asArg,zg,zc,zf,z6,E.mkS,unN,ze,zm,zb,GS,simprocAttr,zB,zC,yB,yr,yv,yu,yC,gh1,yq,yh,yk,zL,mkO,yf,y8,y9,mvC,unO,zR,yz,yt,yo,zI,yp,yn,zY,oc,oTs,oT,zK,zK.rowTs,yj,isL,E.BX,GZ,c0,h1,h2,zA]
 | m + 1, k, c, l, hc, hn, hk, hs => by
  obtain⟨xi,hi⟩:∃ xi,l[i]? = some xi:=⟨_,List.getElem?_eq_getElem (by omega)⟩
  obtain⟨xk,hxk⟩:∃ xk,l[k]? = some xk:=⟨_,List.getElem?_eq_getElem (by omega)⟩
  have hall:=tO (YH hs (by omega)) (by omega)
  have hbi:=hall xi (List.mem_of_getElem? hi)
  have hbk:=hall xk (List.mem_of_getElem? hxk)
  have edge:∀ c2,cok bs c2→∃ (c':Cs) (l':List z1),cok bs c'∧n=l'.length∧smB (bnd i n) l' ∧
   EV Tryz.prog pol (.loop 133 32034 1 [.ptr 0 0 0,.ptr 1 0 0,.ptr 2 0 0,.t (.int .i64 (i:Int)),.t (.int .i64 ((k:Int)+1))] [cuR bs c2,.vs 2 [zG],.vs 2 [[.o (.list 1 tp),.sl 3 0 n cap]],.vs 6 (ocE (z1.zh (l.set i (ua xi (keyOf xk)))))])
    = some (.loop (.exit 4) [.ptr 0 0 0,.ptr 1 0 0,.ptr 2 0 0,.t (.int .i64 (i:Int))] [cuR bs c',.vs 2 [zG],.vs 2 [[.o (.list 1 tp),.sl 3 0 n cap]],.vs 6 (ocE (z1.zh l'))]):=fun c2 hc2=>by
   have:=kU bs hb n i tp cap hn6 hin m (k+1) c2 (l.set i (ua xi (keyOf xk))) hc2 (by simpa using hn) (by omega) (T9 hs hi hxk)
   rw[show ((k+1:Nat):Int)=(k:Int)+1 by omega]at this
   exact this
  have skip:∀ c2,cok bs c2→∃ (c':Cs) (l':List z1),cok bs c'∧n=l'.length∧smB (bnd i n) l' ∧
   EV Tryz.prog pol (.loop 133 32034 1 [.ptr 0 0 0,.ptr 1 0 0,.ptr 2 0 0,.t (.int .i64 (i:Int)),.t (.int .i64 ((k:Int)+1))] [cuR bs c2,.vs 2 [zG],.vs 2 [[.o (.list 1 tp),.sl 3 0 n cap]],.vs 6 (ocE (z1.zh l))])
    = some (.loop (.exit 4) [.ptr 0 0 0,.ptr 1 0 0,.ptr 2 0 0,.t (.int .i64 (i:Int))] [cuR bs c',.vs 2 [zG],.vs 2 [[.o (.list 1 tp),.sl 3 0 n cap]],.vs 6 (ocE (z1.zh l'))]):=fun c2 hc2=>by
   have:=kU bs hb n i tp cap hn6 hin m (k+1) c2 l hc2 hn (by omega) (cr hs)
   rw[show ((k+1:Nat):Int)=(k:Int)+1 by omega]at this
   exact this
  obtain⟨b,c1,hc1,d1⟩:=uA bs hb c hc 4 (by decide) (by decide)
  simp only[Int.cast_ofNat_Int]at d1
  cases b with
  | false =>
   obtain⟨c',l',q1,q2,q3,IH⟩:=skip c1 hc1
   exact⟨c',l',q1,q2,q3,Rh bs c1 l n i k tp cap xi xk hi hxk hn (by omega) _ IH c (.inl d1)⟩
  | true =>
   by_cases hlt:i<k
   · obtain ⟨c', l', q1, q2, q3, IH⟩ := edge c1 hc1
     exact⟨c',l',q1,q2,q3,Ri bs c1 l n i k tp cap xi xk hi hxk hn (by omega) hbi hbk _ IH c hb hc (.inl ⟨c1,rfl,hlt,d1⟩)⟩
   · obtain ⟨b, c2, hc2, d2⟩ := uA bs hb c1 hc1 4 (by decide) (by decide)
     simp only[Int.cast_ofNat_Int]at d2
     cases b with
     | false =>
      obtain⟨c',l',q1,q2,q3,IH⟩:=skip c2 hc2
      exact⟨c',l',q1,q2,q3,Rh bs c2 l n i k tp cap xi xk hi hxk hn (by omega) _ IH c (.inr ⟨c1,hlt,d1,d2⟩)⟩
     | true =>
      obtain⟨c',l',q1,q2,q3,IH⟩:=edge c2 hc2
      exact⟨c',l',q1,q2,q3,Ri bs c2 l n i k tp cap xi xk hi hxk hn (by omega) hbi hbk _ IH c hb hc (.inr ⟨c1,hlt,d1,d2⟩)⟩
set_option maxHeartbeats 8000000 in
theorem QW (bs:List Int) (n i:Nat) (cap:Option Nat) (c0 c1 c2:Cs) (l l1:List z1) (top:List Str) (xi:z1) (b:Bool) (hn:n=l.length) (hn1:n=l1.length) (hn6:n≤6) (hi:l1[i]? = some xi) (hbi:xi.y6≤4096) (ht:top.length≤6) (hki:(keyOf xi).length≤400) (R:wk)
 (hIn:EV Tryz.prog pol (.loop 133 32034 1 [.ptr 0 0 0,.ptr 1 0 0,.ptr 2 0 0,.t (.int .i64 (i:Int)),.t (.int .i64 0)] [cuR bs c0,.vs 2 [zG],.vs 2 [[.o (.list 1 (strs top)),.sl 3 0 n cap]],.vs 6 (ocE (z1.zh l))])
  = some (.loop (.exit 4) [.ptr 0 0 0,.ptr 1 0 0,.ptr 2 0 0,.t (.int .i64 (i:Int))] [cuR bs c1,.vs 2 [zG],.vs 2 [[.o (.list 1 (strs top)),.sl 3 0 n cap]],.vs 6 (ocE (z1.zh l1))]))
 (d2:EV Tryz.prog pol (.callO false 131 [.ptr 0 0 0,.t (.int .i64 2)] [cuR bs c1])=some (.call (.t (.bool b)) [cuR bs c2]))
 (IH:EV Tryz.prog pol (.loop 133 250 1 [.ptr 0 0 0,.ptr 1 0 0,.ptr 2 0 0,.t (.int .i64 ((i:Int)+1))] [cuR bs c2,.vs 2 [zG],.vs 2 [[.o (.list 1 (strs (if b then top++[keyOf xi] else top))),.sl 3 0 n cap]],.vs 6 (ocE (z1.zh l1))])=some R) :
 EV Tryz.prog pol (.loop 133 250 1 [.ptr 0 0 0,.ptr 1 0 0,.ptr 2 0 0,.t (.int .i64 (i:Int))] [cuR bs c0,.vs 2 [zG],.vs 2 [[.o (.list 1 (strs top)),.sl 3 0 n cap]],.vs 6 (ocE (z1.zh l))])=some R:=by
 have hil:=(List.getElem?_eq_some_iff.1 hi).1
 have cA:decide ((i:Int)<(n:Int))=true:=by apply decide_eq_true;omega
 have hiM:i<8:=by omega
 have cI0:(0:Int)≤(i:Int):=by omega
 have cI1:decide ((0:Int)≤(i:Int))=true:=by apply decide_eq_true;omega
 have hnl:n≤6:=hn6
 have d1:=uB xi (by omega)
 have hg:=fy hi
 obtain⟨h1,h2,_⟩:=yD l
 obtain⟨h3,h4,_⟩:=yD l1
 have hsI:=zz.zj xi.sums
 have hsI2:=zi xi.zn
 have htI:(zz.zh xi.sums).take xi.sums.length=zz.zh xi.sums:=List.take_of_length_le (by omega)
 have htI2:(strs xi.zn).take xi.zn.length=strs xi.zn:=List.take_of_length_le (by omega)
 have hfI:=x6 xi.sums
 have hfI2:=yb xi.zn
 have hT:=zi top
 have hT2:(strs top).take top.length=strs top:=List.take_of_length_le (by omega)
 have hT3:=yb top
 have hT4:=yb (top++[keyOf xi])
 rw[show strs (top++[keyOf xi])=strs top++[[.str (keyOf xi)]] by simp[strs]]at hT4
 have hT5:(strs top++[[T.str (keyOf xi)]]).take (top.length+1)=strs top++[[T.str (keyOf xi)]]:=List.take_of_length_le (by simp[hT])
 obtain⟨F,f1,f2,f3,f5,f7⟩:=aG _ i _ hg
 rw[f1]at hIn IH h3 h4
 have f8:∀ y,(F y).length=n:=fun y=>by rw[f7,zS,z1.zj,hn1]
 simp only[z1.enc,List.map_cons,List.map_nil]at d1
 clear hg f1 f2 f7 hil hi hn hn1 hbi
 cases b with
 | false =>
  simp only[Bool.false_eq_true,if_false]at IH
  simp only[zG]at hIn IH ⊢
  unfold cuR at *
  generalize ocE (z1.zh l)=E0 at *
  generalize strs top=tp at *
  generalize keyOf xi=kx at *
  obtain⟨name,version,source,sums,dev,zn⟩:=xi
  simp only at *
  generalize zz.zh sums=es1 at *
  generalize strs zn=es2 at *
  refine zo Tryz.func133 rfl rfl ?_
  simp (maxSteps:=1000000) (disch:=((try simp only[LL]);omega)) only[↓GO,↓DRW,GA,GX,ren,zk,za,refs,z8,cst,zr,isC,bin,una,z7,zd,blt,asArg,zg,zc,zf,z6,E.mkS,unN,ze,zm,zb,GS,simprocAttr,zB,zC,yB,yr,yv,yu,yC,gh1,yq,yh,yk,zL,mkO,yf,y8,y9,mvC,unO,zR,yz,yt,yo,zI,yp,yn,zY,oc,oTs,oT,zK,zK.rowTs,yj,isL,E.BX,GZ,cA,cI0,cI1,hIn,d1,d2,f3,f5,f8,h1,h2,h3,h4,hsI,hsI2,htI,htI2,hfI,hfI2,hT,hT2,hT3,if_true,Int.toNat_natCast,Nat.zero_add,zq,ya,zA,IH]
 | true =>
  simp only[if_true]at IH
  rw[show strs (top++[keyOf xi])=strs top++[[.str (keyOf xi)]] by simp[strs]]at IH
  simp only[zG]at hIn IH ⊢
  unfold cuR at *
  generalize ocE (z1.zh l)=E0 at *
  generalize strs top=tp at *
  generalize keyOf xi=kx at *
  obtain⟨name,version,source,sums,dev,zn⟩:=xi
  simp only at *
  generalize zz.zh sums=es1 at *
  generalize strs zn=es2 at *
  refine zo Tryz.func133 rfl rfl ?_
  simp (maxSteps:=1000000) (disch:=((try simp only[LL]);omega)) only[↓GO,↓DRW,GA,GX,ren,zk,za,refs,z8,cst,zr,isC,bin,una,z7,zd,blt,asArg,zg,zc,zf,z6,E.mkS,unN,ze,zm,zb,GS,simprocAttr,zB,zC,yB,yr,yv,yu,yC,gh1,yq,yh,yk,zL,mkO,yf,y8,y9,mvC,unO,zR,yz,yt,yo,zI,yp,yn,zY,oc,oTs,oT,zK,zK.rowTs,yj,isL,E.BX,GZ,cA,cI0,cI1,hIn,d1,d2,f3,f5,f8,h1,h2,h3,h4,hsI,hsI2,htI,htI2,hfI,hfI2,hT,hT2,hT3,hT4,hT5,if_true,Int.toNat_natCast,Nat.zero_add,List.length_append,List.length_singleton,zq,ya,zA,IH]
  all_goals (refine zU (by kernel_rfl) ?_)
  all_goals first | rfl | exact IH
theorem T8 {i n:Nat}{l:List z1}(h:smB (bnd i n) l)(hn:n≤6):smB (bnd (i+1) 0) l:=fun j x hj=>oa (h j x hj) (by unfold bnd;(repeat' split)<;>omega)
theorem bn (bs:List Int)(hb:okB bs)(n:Nat)(cap:Option Nat)(hn6:n≤6):∀ (m i:Nat) (c:Cs) (l:List z1) (top:List Str),cok bs c→n=l.length→n=i+m→smB (bnd i 0) l→top.length≤i→(∀ s∈top,s.length≤400)→∃ (c':Cs) (l':List z1) (top':List Str),cok bs c'∧n=l'.length∧smB (bnd n 0) l'∧top'.length≤n∧(∀ s∈top',s.length≤400) ∧
 EV Tryz.prog pol (.loop 133 250 1 [.ptr 0 0 0,.ptr 1 0 0,.ptr 2 0 0,.t (.int .i64 (i:Int))] [cuR bs c,.vs 2 [zG],.vs 2 [[.o (.list 1 (strs top)),.sl 3 0 n cap]],.vs 6 (ocE (z1.zh l))])
  = some (.loop (.exit 2) [.ptr 1 0 0,.ptr 2 0 0] [cuR bs c',.vs 2 [zG],.vs 2 [[.o (.list 1 (strs top')),.sl 3 0 n cap]],.vs 6 (ocE (z1.zh l'))])
 | 0,i,c,l,top,hc,hn,hi,hs,ht,ht2=>by
  have c0:decide ((i:Int)<(n:Int))=false:=by apply decide_eq_false;omega
  refine⟨c,l,top,hc,hn,by rw[hi];exact hs,by omega,ht2,?_⟩
  obtain⟨h1,h2,_⟩:=yD l
  simp only[zG]
  unfold cuR
  generalize ocE (z1.zh l)=E0 at *
  clear hb hc hs hn
  refine zo Tryz.func133 rfl rfl ?_
  simp (disch:=((try simp only[LL]);omega)) only[↓GO,↓DRW,GA,GX,ren,zk,za,refs,z8,cst,zr,isC,bin,una,z7,zd,blt,asArg,zg,zc,zf,z6,E.mkS,unN,ze,zm,zb,GS,simprocAttr,zB,zC,yB,yr,yv,yu,yC,gh1,yq,yh,yk,zL,mkO,yf,y8,y9,mvC,unO,zR,yz,yt,yo,zI,yp,yn,zY,oc,oTs,oT,zK,zK.rowTs,yj,isL,E.BX,GZ,c0,h1,h2,zA]
 | m + 1, i, c, l, top, hc, hn, hi, hs, ht, ht2 => by
  obtain⟨c1,l1,hc1,hn1,hs1,hIn⟩:=kU bs hb n i (strs top) cap hn6 (by omega) n 0 c l hc hn (by omega) (by exact hs)
  simp only[Int.natCast_zero]at hIn
  obtain⟨xi,hxi⟩:∃ xi,l1[i]? = some xi:=⟨_,List.getElem?_eq_getElem (by omega)⟩
  have hbi:=tO (YH hs1 (by omega)) (by omega) xi (List.mem_of_getElem? hxi)
  have hki:=iJ (hs1 i xi hxi)
  obtain⟨b,c2,hc2,d2⟩:=uA bs hb c1 hc1 2 (by decide) (by decide)
  simp only[Int.cast_ofNat_Int]at d2
  obtain⟨c',l',top',q1,q2,q3,q4,q5,IH⟩:=bn bs hb n cap hn6 m (i+1) c2 l1 (if b then top++[keyOf xi] else top) hc2 hn1 (by omega) (T8 hs1 hn6) (by cases b<;>simp<;>omega) (fun s hs=>by
   cases b with
   | false=>exact ht2 s (by simpa using hs)
   | true =>
    simp only[if_true,List.mem_append,List.mem_singleton]at hs
    rcases hs with hs | rfl
    · exact ht2 s hs
    · exact hki)
  rw[show ((i+1:Nat):Int)=(i:Int)+1 by omega]at IH
  exact⟨c',l',top',q1,q2,q3,q4,q5,QW bs n i cap c c1 c2 l l1 top xi b hn hn1 hn6 hxi hbi (by omega) hki _ hIn d2 IH⟩
set_option maxHeartbeats 8000000 in
theorem TL (bs:List Int)(hb:okB bs)(c:Cs)(hc:cok bs c):∃ (c':Cs) (l:List z1) (top:List Str) (cap:Option Nat),cok bs c'∧l.length≤6∧YG 6 l∧top.length≤6∧(∀ s∈top,s.length≤400) ∧
 EV Tryz.prog pol (.callO false 133 [.ptr 0 0 0] [cuR bs c])=some (.call (.agg [.sl 1 0 top.length none,.sl 2 0 l.length cap]) [cuR bs c',.ts 1 (strs top),.vs 6 (ocE (z1.zh l))]):=by
 obtain⟨n,c1,hn,hc1,d1⟩:=pM bs hb c hc 6 (by decide) (by decide)
 simp only[Int.cast_ofNat_Int]at d1
 obtain⟨c2,l,cap,hc2,hl,hs,L1⟩:=kV bs hb n (by omega) n 0 c1 [] none hc1 (by omega) (by simp) (fun x hx=>by simp at hx)
 obtain⟨c3,l2,top,hc3,hl2,hs2,ht,ht2,L2⟩:=bn bs hb l.length cap (by omega) l.length 0 c2 l [] hc2 rfl (by omega) (fun j x hj=>by rw[show bnd 0 0 j=0 by unfold bnd;(repeat' split)<;>omega];exact hs x (List.mem_of_getElem? hj)) (by simp) (by simp)
 refine⟨c3,l2,top,cap,hc3,by omega,fun x hx=>?_,by omega,ht2,?_⟩
 · obtain ⟨j, hj⟩ := List.mem_iff_getElem?.1 hx
   exact oa (hs2 j x hj) (by unfold bnd;(repeat' split)<;>omega)
 obtain⟨h1,h2,_⟩:=yD l
 obtain⟨h3,h4,_⟩:=yD l2
 have hT:=zi top
 have hT2:(strs top).take top.length=strs top:=List.take_of_length_le (by omega)
 have hT3:=yb top
 rw[hl2]at L2
 rw[show l2.length=l.length from hl2.symm]
 rw[show l2.length=l.length from hl2.symm]at L2
 simp only[List.length_nil,Int.natCast_zero,show strs []=[] from rfl,show z1.zh []=[] from rfl,show ocE []=[] from rfl]at L1 L2
 clear hb hs hs2 hn hl ht ht2
 simp only[zG]at L1 L2
 unfold cuR at *
 generalize ocE (z1.zh l)=E0 at *
 generalize ocE (z1.zh l2)=E1 at *
 generalize strs top=tp at *
 refine zH Tryz.func133 rfl (by kernel_rfl) ?_
 unfold Tryz.f133
 simp (maxSteps:=1000000) (disch:=((try simp only[LL]);omega)) only[↓GO,↓DRW,GA,GX,ren,zk,za,refs,z8,cst,zr,isC,bin,una,z7,zd,blt,asArg,zg,zc,zf,z6,E.mkS,unN,ze,zm,zb,GS,simprocAttr,zB,zC,yB,yr,yv,yu,yC,gh1,yq,yh,yk,zL,mkO,yf,y8,y9,mvC,unO,zR,yz,yt,yo,zI,yp,yn,zY,oc,oTs,oT,zK,zK.rowTs,yj,isL,E.BX,GZ,d1,L1,L2,h1,h2,h3,h4,hT,hT2,hT3,if_true,Int.toNat_natCast,Nat.zero_add,zA]
theorem XC:∀ (E:List (List V)) (X:List (List T)) (i:Nat) (y:List V) (z:List T),gvE E=some X→rT y=some z→gvE (E.set i y)=some (X.set i z)
 | [],X,i,y,z,h,hz=>by simp only[gvE]at h;cases h;rfl
 | c :: E, X, i, y, z, h, hz => by
  simp only[gvE]at h
  cases hc:rT c with
  | none=>rw[hc]at h;cases h
  | some x =>
   rw[hc]at h
   cases hE:gvE E with
   | none=>rw[hE]at h;cases h
   | some xs =>
    rw[hE]at h
    cases h
    cases i with
    | zero=>simp only[List.set_cons_zero,gvE,hz,hE]
    | succ i=>simp only[List.set_cons_succ,gvE,hc,XC E xs i y z hE hz]
theorem ee:∀ (E:List (List V)) (X:List (List T)) (y:List V) (z:List T),gvE E=some X→rT y=some z→gvE (E++[y])=some (X++[z])
 | [],X,y,z,h,hz=>by simp only[gvE]at h;cases h;simp[gvE,hz]
 | c :: E, X, y, z, h, hz => by
  simp only[gvE]at h
  cases hc:rT c with
  | none=>rw[hc]at h;cases h
  | some x =>
   rw[hc]at h
   cases hE:gvE E with
   | none=>rw[hE]at h;cases h
   | some xs =>
    rw[hE]at h
    cases h
    simp only[List.cons_append,gvE,hc,ee E xs y z hE hz]
def GSm (g:zw):Prop:=g.packs.length≤7∧g.y6≤65536
theorem sU (top:List Str)(l:List z1)(h1:l.length≤7)(h2:∀ x∈l,x.y6≤8192)(h3:top.length≤7)(h4:∀ s∈top,s.length≤400):GSm ⟨top,l⟩:=by
 have e1:=nq 8192 l h2
 have e2:=o9 400 top h4
 refine⟨h1,?_⟩
 unfold zw.y6
 simp only
 omega
theorem rB {l:List z1}{i:Nat}{x:z1}(h:∀ y∈l,y.y6≤4096)(hx:x.y6≤8192):∀ y∈l.set i x,y.y6≤8192:=fun y hy=>by
 rcases List.mem_or_eq_of_mem_set hy with hy | rfl
 · have:=h y hy;omega
 · exact hx
theorem TH (l:List z1)(i:Nat)(x:z1):z1.zh (l.set i x)=(z1.zh l).set i x.enc:=by unfold z1.zh;rw[List.map_set]
theorem gF:∀ (a b:List Str),yg (a++b)=yg a+yg b
 | [],b=>by simp[yg]
 | x::a,b=>by simp only[List.cons_append,yg,gF a b];omega
theorem jW:∀ (a b:List zz),zz.zX (a++b)=zz.zX a+zz.zX b
 | [],b=>by simp[zz.zX]
 | x::a,b=>by simp only[List.cons_append,zz.zX,jW a b];omega
set_option maxHeartbeats 16000000 in
theorem c_any (bs:List Int)(hb:okB bs)(c:Cs)(hc:cok bs c):∃ (c':Cs) (g:zw),cok bs c'∧GSm g ∧
 EV Tryz.prog pol (.callO true 50 [.ptr 0 0 0] [cuR bs c])=some (.call (.agg (g.enc.map .t)) [cuR bs c']):=by
 obtain⟨c1,l,top,cap,hc1,hl,hs,ht,ht2,d1⟩:=TL bs hb c hc
 have hbk:=tO hs (by omega)
 obtain⟨h1,h2,_⟩:=yD l
 have hT:=zi top
 have hT2:(strs top).take top.length=strs top:=List.take_of_length_le (by omega)
 have hT3:=yb top
 have hgE:=eH (z1.zh l)
 have hEt:(z1.zh l).take l.length=z1.zh l:=List.take_of_length_le (by rw[z1.zj];exact Nat.le_refl _)
 by_cases hn0:l.length=0
 · refine ⟨c1, ⟨top, l⟩, hc1, sU top l (by omega) (fun x hx => by have := hbk x hx; omega) (by omega) ht2, ?_⟩
   have cz:((l.length:Int)==0)=true:=by rw[hn0];rfl
   simp only[zw.enc,List.map_cons,List.map_nil]
   clear hb hs hbk
   unfold cuR at *
   generalize ocE (z1.zh l)=E0 at *
   generalize z1.zh l=X0 at *
   generalize strs top=tp at *
   refine zH Tryz.func50 rfl (by kernel_rfl) ?_
   unfold Tryz.f50
   simp (maxSteps:=1000000) (disch:=((try simp only[LL]);omega)) only[↓GO,↓DRW,GA,GX,ren,zk,za,refs,z8,cst,zr,isC,bin,una,z7,zd,blt,asArg,zg,zc,zf,z6,E.mkS,unN,ze,zm,zb,GS,simprocAttr,zB,zC,yB,yr,yv,yu,yC,gh1,yq,yh,yk,zL,mkO,yf,y8,y9,mvC,unO,zR,yz,yt,yo,zI,yp,yn,zY,oc,oTs,oT,zK,zK.rowTs,yj,isL,E.BX,GZ,d1,cz,h1,h2,hT,hT2,hT3,hgE,hEt,if_true,Int.toNat_natCast,Nat.zero_add,zA]
 have cz:((l.length:Int)==0)=false:=by rw[beq_eq_false_iff_ne];omega
 obtain⟨i,c2,hi,hc2,d2⟩:=pM bs hb c1 hc1 l.length (by omega) (by omega)
 obtain⟨v,c3,hv,hc3,d3⟩:=pM bs hb c2 hc2 20 (by decide) (by decide)
 simp only[Int.cast_ofNat_Int]at d3
 obtain⟨xi,hxi⟩:∃ xi,l[i]? = some xi:=⟨_,List.getElem?_eq_getElem hi⟩
 have hbi:=hbk xi (List.mem_of_getElem? hxi)
 have hg:=fy hxi
 have hsI:=zz.zj xi.sums
 have hsI2:=zi xi.zn
 have htI:(zz.zh xi.sums).take xi.sums.length=zz.zh xi.sums:=List.take_of_length_le (by omega)
 have htI2:(strs xi.zn).take xi.zn.length=strs xi.zn:=List.take_of_length_le (by omega)
 have hfI:=x6 xi.sums
 have hfI2:=yb xi.zn
 have cI0:(0:Int)≤(i:Int):=by omega
 have cI1:decide ((0:Int)≤(i:Int))=true:=by apply decide_eq_true;omega
 have cI:decide ((i:Int)<(l.length:Int))=true:=by apply decide_eq_true;omega
 obtain⟨F,f1,f2,f3,f5,f7⟩:=aG _ i _ hg
 have f8:∀ y,(F y).length=l.length:=fun y=>by rw[f7,zS,z1.zj]
 have hset:∀ (y:List V) (x:z1),rT y=some x.enc→gvE (F y)=some (z1.zh (l.set i x)):=fun y x h=>by
  rw[f2,TH];exact XC _ _ _ _ _ hgE h
 have hEs:∀ x,(z1.zh (l.set i x)).take l.length=z1.zh (l.set i x):=fun x=>List.take_of_length_le (by rw[z1.zj];simp)
 rw[f1]at d1 h1 h2
 have hgF:=hset [.t (.str xi.name),.t (.str xi.version),.t (.str xi.source),.o (.list 2 (zz.zh xi.sums)),.t (.bool xi.dev),.o (.list 1 (strs xi.zn))] xi rfl
 have hself:l.set i xi=l:=by
  apply List.ext_getElem?
  intro m
  rw[List.getElem?_set]
  split
  · rename_i e;subst e;first | rw[if_pos hi,hxi] | rw[hxi] | simp[hi,hxi]
  · rfl
 rw[hself]at hgF
 by_cases hv7:7≤v
 · refine ⟨c3, ⟨top, l⟩, hc3, sU top l (by omega) (fun x hx => by have := hbk x hx; omega) (by omega) ht2, ?_⟩
   have e0:((v:Int)==0)=false:=by rw[beq_eq_false_iff_ne];omega
   have e1:((v:Int)==1)=false:=by rw[beq_eq_false_iff_ne];omega
   have e2:((v:Int)==2)=false:=by rw[beq_eq_false_iff_ne];omega
   have e3:((v:Int)==3)=false:=by rw[beq_eq_false_iff_ne];omega
   have e4:((v:Int)==4)=false:=by rw[beq_eq_false_iff_ne];omega
   have e5:((v:Int)==5)=false:=by rw[beq_eq_false_iff_ne];omega
   have e6:((v:Int)==6)=false:=by rw[beq_eq_false_iff_ne];omega
   simp only[zw.enc,List.map_cons,List.map_nil]
   clear hb hs hbk hbi hset hEs hself f1 f2 f7 hg hxi hgE
   unfold cuR at *
   generalize z1.zh l=X0 at *
   generalize strs top=tp at *
   obtain⟨name,version,source,sums,dev,zn⟩:=xi
   simp only at *
   generalize zz.zh sums=es1 at *
   generalize strs zn=es2 at *
   refine zH Tryz.func50 rfl (by kernel_rfl) ?_
   unfold Tryz.f50
   simp (maxSteps:=1000000) (disch:=((try simp only[LL]);omega)) only[↓GO,↓DRW,GA,GX,ren,zk,za,refs,z8,cst,zr,isC,bin,una,z7,zd,blt,asArg,zg,zc,zf,z6,E.mkS,unN,ze,zm,zb,GS,simprocAttr,zB,zC,yB,yr,yv,yu,yC,gh1,yq,yh,yk,zL,mkO,yf,y8,y9,mvC,unO,zR,yz,yt,yo,zI,yp,yn,zY,oc,oTs,oT,zK,zK.rowTs,yj,isL,E.BX,GZ,d1,d2,d3,cz,cI0,cI1,cI,e0,e1,e2,e3,e4,e5,e6,f3,f5,f8,h1,h2,hT,hT2,hT3,hgF,hEt,if_true,Int.toNat_natCast,Nat.zero_add,zA]
 by_cases hv0:v=0
 · have e0 : ((v : Int) == 0) = true := by rw [beq_iff_eq]; omega
   obtain⟨s,c4,hsl,hc4,d4⟩:=c_odd bs hb c3 hc3
   refine⟨c4,⟨top,l.set i ⟨s,xi.version,xi.source,xi.sums,xi.dev,xi.zn⟩⟩,hc4,sU _ _ (by simp;omega) (rB hbk (by simp only[z1.y6]at hbi ⊢;omega)) (by omega) ht2,?_⟩
   have hgX:=hset [.t (.str s),.t (.str xi.version),.t (.str xi.source),.o (.list 2 (zz.zh xi.sums)),.t (.bool xi.dev),.o (.list 1 (strs xi.zn))] ⟨s,xi.version,xi.source,xi.sums,xi.dev,xi.zn⟩ rfl
   have hEX:=hEs ⟨s,xi.version,xi.source,xi.sums,xi.dev,xi.zn⟩
   simp only[zw.enc,List.map_cons,List.map_nil]
   clear hb hs hbk hbi hself f1 f2 f7 hg hxi hgE hset
   unfold cuR at *
   generalize z1.zh (l.set i ⟨s,xi.version,xi.source,xi.sums,xi.dev,xi.zn⟩)=X1 at *
   generalize strs top=tp at *
   obtain⟨name,version,source,sums,dev,zn⟩:=xi
   simp only at *
   generalize zz.zh sums=es1 at *
   generalize strs zn=es2 at *
   refine zH Tryz.func50 rfl (by kernel_rfl) ?_
   unfold Tryz.f50
   simp (maxSteps:=1000000) (disch:=((try simp only[LL]);omega)) only[↓GO,↓DRW,GA,GX,ren,zk,za,refs,z8,cst,zr,isC,bin,una,z7,zd,blt,asArg,zg,zc,zf,z6,E.mkS,unN,ze,zm,zb,GS,simprocAttr,zB,zC,yB,yr,yv,yu,yC,gh1,yq,yh,yk,zL,mkO,yf,y8,y9,mvC,unO,zR,yz,yt,yo,zI,yp,yn,zY,oc,oTs,oT,zK,zK.rowTs,yj,isL,E.BX,GZ,d1,d2,d3,d4,cz,cI0,cI1,cI,e0,f3,f5,f8,h1,h2,hT,hT2,hT3,hsI,hsI2,htI,htI2,hfI,hfI2,hgX,hEX,hgF,hEt,if_true,Int.toNat_natCast,Nat.zero_add,List.length_append,List.length_singleton,ya,zA]
   all_goals (refine zU (by kernel_rfl) ?_)
   all_goals first | rfl
 by_cases hv1:v=1
 · have e0 : ((v : Int) == 0) = false := by rw [beq_eq_false_iff_ne]; omega
   have e1:((v:Int)==1)=true:=by rw[beq_iff_eq];omega
   obtain⟨s,c4,hsm,hc4,d4⟩:=te bs hb c3 hc3 [[49],[],[49,46,48,46,48,45],[50,46,48,46,48]] 4 rfl (by decide) (by decide) (some 4)
   have hsl:s.length≤32:=by
    simp only[List.mem_cons,List.not_mem_nil,or_false]at hsm
    rcases hsm with rfl | rfl | rfl | rfl<;>decide
   clear hsm
   simp only[strs,List.map_cons,List.map_nil]at d4
   refine⟨c4,⟨top,l.set i ⟨xi.name,s,xi.source,xi.sums,xi.dev,xi.zn⟩⟩,hc4,sU _ _ (by simp;omega) (rB hbk (by simp only[z1.y6]at hbi ⊢;omega)) (by omega) ht2,?_⟩
   have hgX:=hset [.t (.str xi.name),.t (.str s),.t (.str xi.source),.o (.list 2 (zz.zh xi.sums)),.t (.bool xi.dev),.o (.list 1 (strs xi.zn))] ⟨xi.name,s,xi.source,xi.sums,xi.dev,xi.zn⟩ rfl
   have hEX:=hEs ⟨xi.name,s,xi.source,xi.sums,xi.dev,xi.zn⟩
   simp only[zw.enc,List.map_cons,List.map_nil]
   clear hb hs hbk hbi hself f1 f2 f7 hg hxi hgE hset
   unfold cuR at *
   generalize z1.zh (l.set i ⟨xi.name,s,xi.source,xi.sums,xi.dev,xi.zn⟩)=X1 at *
   generalize strs top=tp at *
   obtain⟨name,version,source,sums,dev,zn⟩:=xi
   simp only at *
   generalize zz.zh sums=es1 at *
   generalize strs zn=es2 at *
   refine zH Tryz.func50 rfl (by kernel_rfl) ?_
   unfold Tryz.f50
   simp (maxSteps:=1000000) (disch:=((try simp only[LL]);omega)) only[↓GO,↓DRW,GA,GX,ren,zk,za,refs,z8,cst,zr,isC,bin,una,z7,zd,blt,asArg,zg,zc,zf,z6,E.mkS,unN,ze,zm,zb,GS,simprocAttr,zB,zC,yB,yr,yv,yu,yC,gh1,yq,yh,yk,zL,mkO,yf,y8,y9,mvC,unO,zR,yz,yt,yo,zI,yp,yn,zY,oc,oTs,oT,zK,zK.rowTs,yj,isL,E.BX,GZ,d1,d2,d3,d4,cz,cI0,cI1,cI,e0,e1,f3,f5,f8,h1,h2,hT,hT2,hT3,hsI,hsI2,htI,htI2,hfI,hfI2,hgX,hEX,hgF,hEt,if_true,Int.toNat_natCast,Nat.zero_add,List.length_append,List.length_singleton,ya,zA]
   all_goals (refine zU (by kernel_rfl) ?_)
   all_goals first | rfl
 by_cases hv2:v=2
 · have e0 : ((v : Int) == 0) = false := by rw [beq_eq_false_iff_ne]; omega
   have e1:((v:Int)==1)=false:=by rw[beq_eq_false_iff_ne];omega
   have e2:((v:Int)==2)=true:=by rw[beq_iff_eq];omega
   refine⟨c3,⟨top,l.set i (ua xi [122,122,64,49,46,48,46,48])⟩,hc3,sU _ _ (by simp;omega) (rB hbk (by simp only[z1.y6,ua]at hbi ⊢;rw[show yg (xi.zn++[[122,122,64,49,46,48,46,48]])=yg xi.zn+8 by rw[gF];rfl];simp;omega)) (by omega) ht2,?_⟩
   have hgX:=hset [.t (.str xi.name),.t (.str xi.version),.t (.str xi.source),.o (.list 2 (zz.zh xi.sums)),.t (.bool xi.dev),.t (.list 1 (strs xi.zn++[[.str [122,122,64,49,46,48,46,48]]]))] (ua xi [122,122,64,49,46,48,46,48]) (by simp[rT,gvC,z1.enc,ua,strs])
   have hEX:=hEs (ua xi [122,122,64,49,46,48,46,48])
   have htN:(strs xi.zn++[[T.str [122,122,64,49,46,48,46,48]]]).take (xi.zn.length+1)=strs xi.zn++[[T.str [122,122,64,49,46,48,46,48]]]:=List.take_of_length_le (by simp[hsI2])
   have hnl:xi.zn.length≤4096:=by simp only[z1.y6]at hbi;omega
   simp only[zw.enc,List.map_cons,List.map_nil]
   clear hb hs hbk hbi hself f1 f2 f7 hg hxi hgE hset
   unfold cuR at *
   generalize z1.zh (l.set i (ua xi [122,122,64,49,46,48,46,48]))=X1 at *
   generalize strs top=tp at *
   obtain⟨name,version,source,sums,dev,zn⟩:=xi
   simp only at *
   generalize zz.zh sums=es1 at *
   generalize strs zn=es2 at *
   refine zH Tryz.func50 rfl (by kernel_rfl) ?_
   unfold Tryz.f50
   simp (maxSteps:=1000000) (disch:=((try simp only[LL]);omega)) only[↓GO,↓DRW,GA,GX,ren,zk,za,refs,z8,cst,zr,isC,bin,una,z7,zd,blt,asArg,zg,zc,zf,z6,E.mkS,unN,ze,zm,zb,GS,simprocAttr,zB,zC,yB,yr,yv,yu,yC,gh1,yq,yh,yk,zL,mkO,yf,y8,y9,mvC,unO,zR,yz,yt,yo,zI,yp,yn,zY,oc,oTs,oT,zK,zK.rowTs,yj,isL,E.BX,GZ,d1,d2,d3,htN,cz,cI0,cI1,cI,e0,e1,e2,f3,f5,f8,h1,h2,hT,hT2,hT3,hsI,hsI2,htI,htI2,hfI,hfI2,hgX,hEX,hgF,hEt,if_true,Int.toNat_natCast,Nat.zero_add,List.length_append,List.length_singleton,ya,zA]
   all_goals (refine zU (by kernel_rfl) ?_)
   all_goals first | rfl
 by_cases hv3:v=3
 · have e0 : ((v : Int) == 0) = false := by rw [beq_eq_false_iff_ne]; omega
   have e1:((v:Int)==1)=false:=by rw[beq_eq_false_iff_ne];omega
   have e2:((v:Int)==2)=false:=by rw[beq_eq_false_iff_ne];omega
   have e3:((v:Int)==3)=true:=by rw[beq_iff_eq];omega
   refine⟨c3,⟨top++[[97,64,48,46,48,46,48]],l⟩,hc3,sU _ _ (by omega) (fun x hx=>by have:=hbk x hx;omega) (by simp;omega) (fun s hs=>by
    simp only[List.mem_append,List.mem_singleton]at hs
    rcases hs with hs | rfl
    · exact ht2 s hs
    · decide),?_⟩
   simp only[zw.enc,List.map_cons,List.map_nil]
   have hgX:=hgF
   have hEX:=hEt
   have hTA:(strs top++[[T.str [97,64,48,46,48,46,48]]]).take (top.length+1)=strs top++[[T.str [97,64,48,46,48,46,48]]]:=List.take_of_length_le (by simp[hT])
   rw[show strs (top++[[97,64,48,46,48,46,48]])=strs top++[[.str [97,64,48,46,48,46,48]]] by simp[strs]]
   clear hb hs hbk hbi hself f1 f2 f7 hg hxi hgE hset
   unfold cuR at *
   generalize z1.zh (l)=X1 at *
   generalize strs top=tp at *
   obtain⟨name,version,source,sums,dev,zn⟩:=xi
   simp only at *
   generalize zz.zh sums=es1 at *
   generalize strs zn=es2 at *
   refine zH Tryz.func50 rfl (by kernel_rfl) ?_
   unfold Tryz.f50
   simp (maxSteps:=1000000) (disch:=((try simp only[LL]);omega)) only[↓GO,↓DRW,GA,GX,ren,zk,za,refs,z8,cst,zr,isC,bin,una,z7,zd,blt,asArg,zg,zc,zf,z6,E.mkS,unN,ze,zm,zb,GS,simprocAttr,zB,zC,yB,yr,yv,yu,yC,gh1,yq,yh,yk,zL,mkO,yf,y8,y9,mvC,unO,zR,yz,yt,yo,zI,yp,yn,zY,oc,oTs,oT,zK,zK.rowTs,yj,isL,E.BX,GZ,d1,d2,d3,hTA,cz,cI0,cI1,cI,e0,e1,e2,e3,f3,f5,f8,h1,h2,hT,hT2,hT3,hsI,hsI2,htI,htI2,hfI,hfI2,hgX,hEX,hgF,hEt,if_true,Int.toNat_natCast,Nat.zero_add,List.length_append,List.length_singleton,ya,zA]
 by_cases hv4:v=4
 · have e0 : ((v : Int) == 0) = false := by rw [beq_eq_false_iff_ne]; omega
   have e1:((v:Int)==1)=false:=by rw[beq_eq_false_iff_ne];omega
   have e2:((v:Int)==2)=false:=by rw[beq_eq_false_iff_ne];omega
   have e3:((v:Int)==3)=false:=by rw[beq_eq_false_iff_ne];omega
   have e4:((v:Int)==4)=true:=by rw[beq_iff_eq];omega
   refine⟨c3,⟨top,l.set i ⟨xi.name,xi.version,[97,32,98],xi.sums,xi.dev,xi.zn⟩⟩,hc3,sU _ _ (by simp;omega) (rB hbk (by simp only[z1.y6]at hbi ⊢;simp only[List.length_cons,List.length_nil];omega)) (by omega) ht2,?_⟩
   have hgX:=hset [.t (.str xi.name),.t (.str xi.version),.t (.str [97,32,98]),.o (.list 2 (zz.zh xi.sums)),.t (.bool xi.dev),.o (.list 1 (strs xi.zn))] ⟨xi.name,xi.version,[97,32,98],xi.sums,xi.dev,xi.zn⟩ rfl
   have hEX:=hEs ⟨xi.name,xi.version,[97,32,98],xi.sums,xi.dev,xi.zn⟩
   simp only[zw.enc,List.map_cons,List.map_nil]
   clear hb hs hbk hbi hself f1 f2 f7 hg hxi hgE hset
   unfold cuR at *
   generalize z1.zh (l.set i ⟨xi.name,xi.version,[97,32,98],xi.sums,xi.dev,xi.zn⟩)=X1 at *
   generalize strs top=tp at *
   obtain⟨name,version,source,sums,dev,zn⟩:=xi
   simp only at *
   generalize zz.zh sums=es1 at *
   generalize strs zn=es2 at *
   refine zH Tryz.func50 rfl (by kernel_rfl) ?_
   unfold Tryz.f50
   simp (maxSteps:=1000000) (disch:=((try simp only[LL]);omega)) only[↓GO,↓DRW,GA,GX,ren,zk,za,refs,z8,cst,zr,isC,bin,una,z7,zd,blt,asArg,zg,zc,zf,z6,E.mkS,unN,ze,zm,zb,GS,simprocAttr,zB,zC,yB,yr,yv,yu,yC,gh1,yq,yh,yk,zL,mkO,yf,y8,y9,mvC,unO,zR,yz,yt,yo,zI,yp,yn,zY,oc,oTs,oT,zK,zK.rowTs,yj,isL,E.BX,GZ,d1,d2,d3,cz,cI0,cI1,cI,e0,e1,e2,e3,e4,f3,f5,f8,h1,h2,hT,hT2,hT3,hsI,hsI2,htI,htI2,hfI,hfI2,hgX,hEX,hgF,hEt,if_true,Int.toNat_natCast,Nat.zero_add,List.length_append,List.length_singleton,ya,zA]
 by_cases hv5:v=5
 · have e0 : ((v : Int) == 0) = false := by rw [beq_eq_false_iff_ne]; omega
   have e1:((v:Int)==1)=false:=by rw[beq_eq_false_iff_ne];omega
   have e2:((v:Int)==2)=false:=by rw[beq_eq_false_iff_ne];omega
   have e3:((v:Int)==3)=false:=by rw[beq_eq_false_iff_ne];omega
   have e4:((v:Int)==4)=false:=by rw[beq_eq_false_iff_ne];omega
   have e5:((v:Int)==5)=true:=by rw[beq_iff_eq];omega
   obtain⟨s,c4,hsm,hc4,d4⟩:=te bs hb c3 hc3 [[115,104,97,49],[109,100,53]] 2 rfl (by decide) (by decide) (some 2)
   have hsl:s.length≤32:=by
    simp only[List.mem_cons,List.not_mem_nil,or_false]at hsm
    rcases hsm with rfl | rfl<;>decide
   clear hsm
   simp only[strs,List.map_cons,List.map_nil]at d4
   refine⟨c4,⟨top,l.set i ⟨xi.name,xi.version,xi.source,xi.sums++[⟨s,[120]⟩],xi.dev,xi.zn⟩⟩,hc4,sU _ _ (by simp;omega) (rB hbk (by simp only[z1.y6]at hbi ⊢;rw[show zz.zX (xi.sums++[⟨s,[120]⟩])=zz.zX xi.sums+(s.length+1) by rw[jW];rfl];simp only[List.length_append,List.length_singleton];omega)) (by omega) ht2,?_⟩
   have hgX:=hset [.t (.str xi.name),.t (.str xi.version),.t (.str xi.source),.t (.list 2 (zz.zh xi.sums++[[.str s,.str [120]]])),.t (.bool xi.dev),.o (.list 1 (strs xi.zn))] ⟨xi.name,xi.version,xi.source,xi.sums++[⟨s,[120]⟩],xi.dev,xi.zn⟩ (by simp[rT,gvC,z1.enc,zz.zh,zz.enc])
   have hEX:=hEs ⟨xi.name,xi.version,xi.source,xi.sums++[⟨s,[120]⟩],xi.dev,xi.zn⟩
   have hgS:gvE (((zz.zh xi.sums).map fun e=>e.map oc)++[[V.t (.str s),.t (.str [120])]])=some (zz.zh xi.sums++[[T.str s,.str [120]]]):=ee _ _ _ _ (eH (zz.zh xi.sums)) rfl
   have htN:(zz.zh xi.sums++[[T.str s,T.str [120]]]).take (xi.sums.length+1)=zz.zh xi.sums++[[T.str s,T.str [120]]]:=List.take_of_length_le (by simp[hsI])
   have hlS:((zz.zh xi.sums).map fun e=>e.map oc).length=xi.sums.length:=by rw[List.length_map,hsI]
   have hnl:xi.sums.length≤4096:=by simp only[z1.y6]at hbi;omega
   simp only[zw.enc,List.map_cons,List.map_nil]
   clear hb hs hbk hbi hself f1 f2 f7 hg hxi hgE hset
   unfold cuR at *
   generalize z1.zh (l.set i ⟨xi.name,xi.version,xi.source,xi.sums++[⟨s,[120]⟩],xi.dev,xi.zn⟩)=X1 at *
   generalize strs top=tp at *
   obtain⟨name,version,source,sums,dev,zn⟩:=xi
   simp only at *
   generalize zz.zh sums=es1 at *
   generalize strs zn=es2 at *
   refine zH Tryz.func50 rfl (by kernel_rfl) ?_
   unfold Tryz.f50
   simp (maxSteps:=1000000) (disch:=((try simp only[LL]);omega)) only[↓GO,↓DRW,GA,GX,ren,zk,za,refs,z8,cst,zr,isC,bin,una,z7,zd,blt,asArg,zg,zc,zf,z6,E.mkS,unN,ze,zm,zb,GS,simprocAttr,zB,zC,yB,yr,yv,yu,yC,gh1,yq,yh,yk,zL,mkO,yf,y8,y9,mvC,unO,zR,yz,yt,yo,zI,yp,yn,zY,oc,oTs,oT,zK,zK.rowTs,yj,isL,E.BX,GZ,d1,d2,d3,d4,hgS,htN,hlS,cz,cI0,cI1,cI,e0,e1,e2,e3,e4,e5,f3,f5,f8,h1,h2,hT,hT2,hT3,hsI,hsI2,htI,htI2,hfI,hfI2,hgX,hEX,hgF,hEt,if_true,Int.toNat_natCast,Nat.zero_add,List.length_append,List.length_singleton,ya,zA]
   all_goals (refine zU (by kernel_rfl) ?_)
   all_goals first | rfl
 by_cases hv6:v=6
 · have e0 : ((v : Int) == 0) = false := by rw [beq_eq_false_iff_ne]; omega
   have e1:((v:Int)==1)=false:=by rw[beq_eq_false_iff_ne];omega
   have e2:((v:Int)==2)=false:=by rw[beq_eq_false_iff_ne];omega
   have e3:((v:Int)==3)=false:=by rw[beq_eq_false_iff_ne];omega
   have e4:((v:Int)==4)=false:=by rw[beq_eq_false_iff_ne];omega
   have e5:((v:Int)==5)=false:=by rw[beq_eq_false_iff_ne];omega
   have e6:((v:Int)==6)=true:=by rw[beq_iff_eq];omega
   refine⟨c3,⟨top,l++[xi]⟩,hc3,sU _ _ (by simp;omega) (fun x hx=>by
    simp only[List.mem_append,List.mem_singleton]at hx
    rcases hx with hx | rfl
    · have:=hbk x hx;omega
    · omega) (by omega) ht2,?_⟩
   have f9:∀ y z:List V,(F y++[z])[i]? = some y:=fun y z=>by rw[List.getElem?_append_left (by rw[f8];exact hi)];exact f3 y
   have hg6:=hset [V.t (.str xi.name),.t (.str xi.version),.t (.str xi.source),.t (.list 2 (zz.zh xi.sums)),.t (.bool xi.dev),.t (.list 1 (strs xi.zn))] xi rfl
   rw[hself]at hg6
   have hgX:gvE (F [V.t (.str xi.name),.t (.str xi.version),.t (.str xi.source),.t (.list 2 (zz.zh xi.sums)),.t (.bool xi.dev),.t (.list 1 (strs xi.zn))]++[[V.t (.str xi.name),.t (.str xi.version),.t (.str xi.source),.t (.list 2 (zz.zh xi.sums)),.t (.bool xi.dev),.t (.list 1 (strs xi.zn))]])=some (z1.zh (l++[xi])):=by
    rw[show z1.zh (l++[xi])=z1.zh l++[xi.enc] by simp[z1.zh]]
    exact ee _ _ _ _ hg6 rfl
   have hEX:(z1.zh (l++[xi])).take (l.length+1)=z1.zh (l++[xi]):=List.take_of_length_le (by rw[z1.zj];simp)
   simp only[zw.enc,List.map_cons,List.map_nil]
   clear hb hs hbk hbi hself f1 f2 f7 hg hxi hgE hset hg6
   unfold cuR at *
   generalize z1.zh (l++[xi])=X1 at *
   generalize strs top=tp at *
   obtain⟨name,version,source,sums,dev,zn⟩:=xi
   simp only at *
   generalize zz.zh sums=es1 at *
   generalize strs zn=es2 at *
   refine zH Tryz.func50 rfl (by kernel_rfl) ?_
   unfold Tryz.f50
   simp (maxSteps:=1000000) (disch:=((try simp only[LL]);omega)) only[↓GO,↓DRW,GA,GX,ren,zk,za,refs,z8,cst,zr,isC,bin,una,z7,zd,blt,asArg,zg,zc,zf,z6,E.mkS,unN,ze,zm,zb,GS,simprocAttr,zB,zC,yB,yr,yv,yu,yC,gh1,yq,yh,yk,zL,mkO,yf,y8,y9,mvC,unO,zR,yz,yt,yo,zI,yp,yn,zY,oc,oTs,oT,zK,zK.rowTs,yj,isL,E.BX,GZ,d1,d2,d3,cz,cI0,cI1,cI,e0,e1,e2,e3,e4,e5,e6,f3,f5,f8,f9,h1,h2,hT,hT2,hT3,hsI,hsI2,htI,htI2,hfI,hfI2,hgX,hEX,hgF,hEt,if_true,Int.toNat_natCast,Nat.zero_add,List.length_append,List.length_singleton,ya,zA]
   all_goals (refine zU (by kernel_rfl) ?_)
   all_goals first | rfl
 omega
theorem Nk (code:List Int):zu (EV Tryz.prog pol) 6 [.t (.list 1 (xE code))]=some (.t (.bool (decide ((code.length:Int) > 1048576)))):=by
 have hl:=vk code
 apply zx
 refine zy rfl Tryz.func6 rfl (by kernel_rfl) ?_
 unfold Tryz.f6
 simp (disch:=((try simp only[LL]);omega)) only[↓GO,↓DRW,GA,GX,ren,zk,za,refs,z8,cst,zr,isC,bin,una,z7,zd,blt,asArg,zg,zc,zf,z6,E.mkS,unN,ze,zm,zb,GS,simprocAttr,GZ,hl,zA]
theorem RM (top:List Str)(cs:List z1)(hl:cs.length≤1048576)(hkl:top.length≤1048576)(hb:∀ c∈cs,c.y6≤1048576):∀ (rest pre:List z1) (m:Nat),cs=pre++rest→m=pre.length →
 EV Tryz.prog pol (.loop 51 58 0 [.ptr 0 0 0,.ptr 1 0 0,.t (.list 6 (z1.zh cs)),.t (.int .i64 (cs.length:Int)),.t (.int .i64 (pre.length:Int))] [.vs 2 [zG],.vs 2 [[.sl 2 0 top.length none,.sl 3 0 m none]],.ts 1 (strs top),.vs 6 (ocE (z1.zh pre))])
  = some (.loop (.exit 0) [.ptr 0 0 0,.ptr 1 0 0] [.vs 2 [zG],.vs 2 [[.sl 2 0 top.length none,.sl 3 0 cs.length none]],.ts 1 (strs top),.vs 6 (ocE (z1.zh cs))])
 | [],pre,m,hs,hm=>by
  have c:decide ((pre.length:Int)<(cs.length:Int))=false:=by simp[hs]
  have e:cs=pre:=by simpa using hs
  simp only[zG]
  refine zo Tryz.func51 rfl rfl ?_
  simp (disch:=((try simp only[LL]);omega)) only[↓GO,↓DRW,GA,GX,ren,zk,za,refs,z8,cst,zr,isC,bin,una,z7,zd,blt,asArg,zg,zc,zf,z6,E.mkS,unN,ze,zm,zb,GS,simprocAttr,zB,zC,yB,yr,yv,yu,yC,gh1,yq,yh,yk,zL,mkO,yf,y8,y9,mvC,unO,zR,yz,yt,yo,zI,yp,yn,zY,oc,oTs,oT,zK,zK.rowTs,yj,isL,E.BX,GZ,c,z1.zj,yJ,yc,zA]
  rw[hm,← e]
 | x::rest,pre,m,hs,hm=>by
  have c:decide ((pre.length:Int)<(cs.length:Int))=true:=by simp[hs];omega
  have c0:decide ((0:Int)≤(pre.length:Int))=true:=by simp
  have hget:(z1.zh cs)[pre.length]? = some x.enc:=by rw[hs];simp[z1.zh]
  have hlen:pre.length+rest.length+1≤cs.length:=by rw[hs];simp;omega
  have hbx:=hb x (by rw[hs];simp)
  have IH:=RM top cs hl hkl hb rest (pre++[x]) (m+1) (by rw[hs];simp) (by simp[hm])
  rw[sB,P8,show ((pre++[x]).length:Int)=(pre.length:Int)+1 by simp]at IH
  have hol:(ocE (z1.zh pre)).length=m:=by rw[zS,z1.zj,hm]
  have hml:m≤1048576:=by omega
  have hA:=yc (z1.zh pre)
  have hR:=fun r=>yJ r (z1.zh pre)
  have hm1:m+1 - 1=m:=by omega
  have hm0:¬ (m+1=0):=by omega
  clear hs
  obtain⟨name,version,source,sums,dev,zn⟩:=x
  simp only[z1.y6]at hbx
  have d1:=ao (zz.zh sums) (by rw[zz.zj];omega)
  have d2:=si (strs zn) (by rw[zi];omega)
  rw[zz.zj]at d1
  rw[zi]at d2
  have hf1:=x6 sums
  have hf2:=yb zn
  have hg1:=fun y=>w5 (ocE (z1.zh pre)) [] y m hol
  have hs1:=fun y z=>xH (ocE (z1.zh pre)) [] y z m hol
  have hle:∀ y:List V,(ocE (z1.zh pre)++[y]).length=m+1:=fun y=>by simp[hol]
  simp only[z1.enc,List.map_cons,List.map_nil,zG,rG,P7,oc]at hget IH ⊢
  generalize ocE (z1.zh pre)=A at *
  refine zo Tryz.func51 rfl rfl ?_
  simp (disch:=((try simp only[LL]);omega)) only[↓GO,↓DRW,GA,GX,ren,zk,za,refs,z8,cst,zr,isC,bin,una,z7,zd,blt,asArg,zg,zc,zf,z6,E.mkS,unN,ze,zm,zb,GS,simprocAttr,zB,zC,yB,yr,yv,yu,yC,gh1,yq,yh,yk,zL,mkO,yf,y8,y9,mvC,unO,zR,yz,yt,yo,zI,yp,yn,zY,oc,oTs,oT,zK,zK.rowTs,yj,isL,E.BX,GZ,c,c0,z1.zj,zz.zj,hget,d1,d2,zq,hol,hA,hR,hm1,hm0,if_false,hg1,hs1,hle,hf1,hf2,zi,zS,yJ,yc,IH,zA,ya]
  refine zU (by kernel_rfl) ?_
  rfl
theorem kz (top:List Str)(hkl:top.length≤1048576) :
 EV Tryz.prog pol (.callO false 51 [.agg [.t (.list 1 (strs top)),.t (.list 6 [])]] [])=some (.call (.agg [.sl 0 0 top.length none,.nil 6]) [.ts 1 (strs top)]):=by
 have L:EV Tryz.prog pol (.loop 51 58 0 [.ptr 0 0 0,.ptr 1 0 0,.t (.list 6 []),.t (.int .i64 0),.t (.int .i64 0)] [.vs 2 [zG],.vs 2 [[.sl 2 0 top.length none,.nil 6]],.ts 1 (strs top)])
  = some (.loop (.exit 0) [.ptr 0 0 0,.ptr 1 0 0] [.vs 2 [zG],.vs 2 [[.sl 2 0 top.length none,.nil 6]],.ts 1 (strs top)]):=by
  simp only[zG]
  refine zo Tryz.func51 rfl rfl ?_
  simp (disch:=((try simp only[LL]);omega)) only[↓GO,↓DRW,GA,GX,ren,zk,za,refs,z8,cst,zr,isC,bin,una,z7,zd,blt,asArg,zg,zc,zf,z6,E.mkS,unN,ze,zm,zb,GS,simprocAttr,zB,zC,yB,yr,yv,yu,yC,gh1,yq,yh,yk,zL,mkO,yf,y8,y9,mvC,unO,zR,yz,yt,yo,zI,yp,yn,zY,oc,oTs,oT,zK,zK.rowTs,yj,isL,E.BX,GZ,zA]
 have d2:=si (strs top) (by rw[zi];omega)
 rw[zi]at d2
 simp only[zG]at L
 refine zH Tryz.func51 rfl (by kernel_rfl) ?_
 unfold Tryz.f51
 simp (disch:=((try simp only[LL]);omega)) only[↓GO,↓DRW,GA,GX,ren,zk,za,refs,z8,cst,zr,isC,bin,una,z7,zd,blt,asArg,zg,zc,zf,z6,E.mkS,unN,ze,zm,zb,GS,simprocAttr,zB,zC,yB,yr,yv,yu,yC,gh1,yq,yh,yk,zL,mkO,yf,y8,y9,mvC,unO,zR,yz,yt,yo,zI,yp,yn,zY,oc,oTs,oT,zK,zK.rowTs,yj,isL,E.BX,GZ,d2,L,List.length_nil,Int.natCast_zero,zi,zA,ya]
theorem mQ (top:List Str)(x:z1)(rest:List z1)(hkl:top.length≤1048576)(hl:(x::rest).length≤1048576)(hb:∀ c∈x::rest,c.y6≤1048576) :
 EV Tryz.prog pol (.callO false 51 [.agg [.t (.list 1 (strs top)),.t (.list 6 (z1.zh (x::rest)))]] [])=some (.call (.agg [.sl 0 0 top.length none,.sl 1 0 (x::rest).length none]) [.ts 1 (strs top),.vs 6 (ocE (z1.zh (x::rest)))]):=by
 have hbx:=hb x (by simp)
 have L:=RM top (x::rest) (by omega) (by omega) hb rest [x] 1 rfl rfl
 have L0:EV Tryz.prog pol (.loop 51 58 0 [.ptr 0 0 0,.ptr 1 0 0,.t (.list 6 (z1.zh (x::rest))),.t (.int .i64 ((x::rest).length:Int)),.t (.int .i64 0)] [.vs 2 [zG],.vs 2 [[.sl 2 0 top.length none,.nil 6]],.ts 1 (strs top)])
  = some (.loop (.exit 0) [.ptr 0 0 0,.ptr 1 0 0] [.vs 2 [zG],.vs 2 [[.sl 2 0 top.length none,.sl 3 0 (x::rest).length none]],.ts 1 (strs top),.vs 6 (ocE (z1.zh (x::rest)))]):=by
  have c:decide ((0:Int)<((x::rest).length:Int))=true:=by apply decide_eq_true;simp only[List.length_cons];omega
  have hget:(z1.zh (x::rest))[0]? = some x.enc:=rfl
  rw[show ocE (z1.zh [x])=[x.enc.map oc] from rfl]at L
  obtain⟨name,version,source,sums,dev,zn⟩:=x
  simp only[z1.y6]at hbx
  have d1:=ao (zz.zh sums) (by rw[zz.zj];omega)
  have d2:=si (strs zn) (by rw[zi];omega)
  rw[zz.zj]at d1
  rw[zi]at d2
  have hf1:=x6 sums
  have hf2:=yb zn
  simp only[z1.enc,List.map_cons,List.map_nil,zG,List.length_cons,List.length_nil,Nat.zero_add,oc,Int.natCast_one]at hget L ⊢
  generalize hcs:z1.mk name version source sums dev zn::rest=cs at *
  simp only[← List.length_cons (a:=z1.mk name version source sums dev zn),hcs]at *
  refine zo Tryz.func51 rfl rfl ?_
  simp (disch:=((try simp only[LL]);omega)) only[↓GO,↓DRW,GA,GX,ren,zk,za,refs,z8,cst,zr,isC,bin,una,z7,zd,blt,asArg,zg,zc,zf,z6,E.mkS,unN,ze,zm,zb,GS,simprocAttr,zB,zC,yB,yr,yv,yu,yC,gh1,yq,yh,yk,zL,mkO,yf,y8,y9,mvC,unO,zR,yz,yt,yo,zI,yp,yn,zY,oc,oTs,oT,zK,zK.rowTs,yj,isL,E.BX,GZ,c,z1.zj,zz.zj,uM,hget,d1,d2,zq,Int.reduceAdd,if_false,hf1,hf2,L,zi,zA,ya,List.length_nil,Int.natCast_zero]
  refine zU (by kernel_rfl) ?_
  rfl
 have d2:=si (strs top) (by rw[zi];omega)
 rw[zi]at d2
 clear L
 generalize x::rest=cs at *
 simp only[zG]at L0
 refine zH Tryz.func51 rfl (by kernel_rfl) ?_
 unfold Tryz.f51
 simp (disch:=((try simp only[LL]);omega)) only[↓GO,↓DRW,GA,GX,ren,zk,za,refs,z8,cst,zr,isC,bin,una,z7,zd,blt,asArg,zg,zc,zf,z6,E.mkS,unN,ze,zm,zb,GS,simprocAttr,zB,zC,yB,yr,yv,yu,yC,gh1,yq,yh,yk,zL,mkO,yf,y8,y9,mvC,unO,zR,yz,yt,yo,zI,yp,yn,zY,oc,oTs,oT,zK,zK.rowTs,yj,isL,E.BX,GZ,d2,L0,zi,z1.zj,yJ,yc,zA,ya]
theorem xK (l:List Str)(s:Str):yG l s=true↔s∈l:=by simp[yG]
theorem qn (ps:List z1)(k:Str):mV ps k=(yS ps k).isSome:=by
 unfold yS
 have h:=sf (fun p=>keyOf p==k) ps 0
 unfold mV
 rw[← h]
 show (tk ps k).isSome=_
 cases hk:tk ps k with
 | none=>rfl
 | some i =>
  obtain⟨q,h1,_⟩:=nG hk
  simp only[Option.isSome_some,h1]
theorem uS (ps : List z1) : ∀ (n : Nat) (out w : List Str), w.length + muS ps out ≤ n →
 (∀ k∈out,k∈yi xI ps n out w)∧(∀ k∈w,(yS ps k).isSome=true→k∈yi xI ps n out w) ∧
 ((∀ k p m,k∈out→yS ps k=some p→m∈p.zn→(yS ps m).isSome=true→m∈out∨m∈w) →
  ∀ k p m,k∈yi xI ps n out w→yS ps k=some p→m∈p.zn→(yS ps m).isSome=true→m∈yi xI ps n out w)
 | 0,out,w,hn=>by
  have hw:w=[]:=List.eq_nil_of_length_eq_zero (by omega)
  subst hw
  rw[yi]
  exact⟨fun k h=>h,fun k h=>by simp at h,fun hc k p m h1 h2 h3 h4=>(hc k p m h1 h2 h3 h4).elim id fun h=>by simp at h⟩
 | n+1,out,[],hn=>by
  rw[yi]
  exact⟨fun k h=>h,fun k h=>by simp at h,fun hc k p m h1 h2 h3 h4=>(hc k p m h1 h2 h3 h4).elim id fun h=>by simp at h⟩
 | n + 1, out, k0 :: w, hn => by
  simp only[List.length_cons]at hn
  rw[yi]
  cases hf:yS ps k0 with
  | none =>
   obtain⟨i1,i2,i3⟩:=uS ps n out w (by omega)
   refine⟨i1,fun k hk hs=>?_,fun hc=>i3 fun k p m h1 h2 h3 h4=>?_⟩
   · rcases List.mem_cons.1 hk with rfl | hk
     · rw[hf]at hs;cases hs
     · exact i2 k hk hs
   · rcases hc k p m h1 h2 h3 h4 with h | h
     · exact .inl h
     · rcases List.mem_cons.1 h with rfl | h
       · rw[hf]at h4;cases h4
       · exact .inr h
  | some p0 =>
   simp only
   cases hc0:yG out k0 with
   | true =>
    have hin:=(xK out k0).1 hc0
    obtain⟨i1,i2,i3⟩:=uS ps n out w (by omega)
    rw[cond_true]
    refine⟨i1,fun k hk hs=>?_,fun hc=>i3 fun k p m h1 h2 h3 h4=>?_⟩
    · rcases List.mem_cons.1 hk with rfl | hk
      · exact i1 _ hin
      · exact i2 k hk hs
    · rcases hc k p m h1 h2 h3 h4 with h | h
      · exact .inl h
      · rcases List.mem_cons.1 h with rfl | h
        · exact .inl hin
        · exact .inr h
   | false =>
    obtain⟨hp,hkp,_⟩:=wg hf
    have hmu:=ov k0 out (xI out k0) (oH out k0) hc0 ps p0 hp hkp
    obtain⟨i1,i2,i3⟩:=uS ps n (xI out k0) (w++p0.zn) (by rw[List.length_append];omega)
    rw[cond_false]
    refine⟨fun k hk=>i1 k ((ur out k0 k).2 (.inl hk)),fun k hk hs=>?_,fun hc=>i3 fun k p m h1 h2 h3 h4=>?_⟩
    · rcases List.mem_cons.1 hk with rfl | hk
      · exact i1 _ ((ur out _ _).2 (.inr rfl))
      · exact i2 k (List.mem_append.2 (.inl hk)) hs
    · rcases (ur out k0 k).1 h1 with h1 | rfl
      · rcases hc k p m h1 h2 h3 h4 with h | h
        · exact .inl ((ur out k0 m).2 (.inl h))
        · rcases List.mem_cons.1 h with rfl | h
          · exact .inl ((ur out _ _).2 (.inr rfl))
          · exact .inr (List.mem_append.2 (.inl h))
      · rw [hf] at h2
        cases h2
        exact .inr (List.mem_append.2 (.inr h3))
theorem uR (ps:List z1)(w:List Str):∀ k∈w,(yS ps k).isSome=true→k∈zV ps w:=(uS ps (w.length+muS ps []) [] w (Nat.le_refl _)).2.1
theorem vc (ps:List z1)(w:List Str):∀ k p m,k∈zV ps w→yS ps k=some p→m∈p.zn→(yS ps m).isSome=true→m∈zV ps w :=
 (uS ps (w.length+muS ps []) [] w (Nat.le_refl _)).2.2 fun k p m h=>by simp at h
theorem sJ (a s:Str):vA (some a) s=Op.bytesLess a s:=rfl
theorem ml (ps:List z1):∀ (o:Option Str) (l:List z1),w9 ps o l=true→(l.Pairwise fun x y=>Op.bytesLess (keyOf x) (keyOf y)=true)∧∀ p∈l,vA o (keyOf p)=true
 | o,[],_=>⟨List.Pairwise.nil,fun p hp=>by simp at hp⟩
 | o,p::r,h=>by
  rw[w9]at h
  simp only[Bool.and_eq_true]at h
  obtain⟨⟨_,h1,_⟩,h2⟩:=h
  obtain⟨k1,k2⟩:=ml ps (some (keyOf p)) r h2
  refine⟨List.pairwise_cons.2 ⟨fun q hq=>by have:=k2 q hq;rwa [sJ]at this,k1⟩,fun q hq=>?_⟩
  rcases List.mem_cons.1 hq with rfl | hq
  · exact h1
  · have h3 := k2 q hq
    rw[sJ]at h3
    cases o with
    | none=>rfl
    | some a=>rw[sJ]at h1 ⊢;exact wa h1 h3
def rW (l:List z1):Prop:=l.Pairwise fun x y=>Op.bytesLess (keyOf x) (keyOf y)=true
theorem rW.key:∀ {l:List z1},rW l→∀ p∈l,∀ q∈l,keyOf p=keyOf q→p=q
 | [],_,p,hp,q,hq,e=>by simp at hp
 | x::r,h,p,hp,q,hq,e=>by
  obtain⟨h1,h2⟩:=List.pairwise_cons.1 h
  rcases List.mem_cons.1 hp with rfl | hp<;>rcases List.mem_cons.1 hq with rfl | hq
  · rfl
  · have:=h1 q hq;rw[e,vn]at this;cases this
  · have:=h1 p (by assumption);rw[e,vn]at this;cases this
  · exact rW.key h2 p hp q hq e
theorem yR {g:zw}(h:zO g=true):rW g.packs:=by
 unfold zO at h
 simp only[Bool.and_eq_true]at h
 exact (ml g.packs none g.packs h.1).1
theorem w7 {ps:List z1}(h:rW ps){p:z1}(hp:p∈ps):yS ps (keyOf p)=some p:=by
 have hs:(yS ps (keyOf p)).isSome=true:=by
  rw[← qn]
  unfold mV
  rw[List.any_eq_true]
  exact⟨p,hp,by simp⟩
 obtain⟨q,hq⟩:=Option.isSome_iff_exists.1 hs
 obtain⟨h1,h2,_⟩:=wg hq
 rw[hq,h.key q h1 p hp h2]
def qC (keys:List Str)(p:z1):z1:=⟨p.name,p.version,p.source,p.sums,p.dev,p.zn.filter (yG keys)⟩
def xC (keys:List Str)(ps:List z1):List z1:=(ps.filter fun p=>yG keys (keyOf p)).map (qC keys)
def ti (g:zw)(keys:List Str):zw:=⟨g.top.filter (yG keys),xC keys g.packs⟩
def yL (keys:List Str)(ps:List z1):List z1:=ps.filter fun p=>yG keys (keyOf p)
def wS (g:zw):zw:=cond (zO g) ⟨g.top,yL (zV g.packs g.top) g.packs⟩ g
theorem filter_all {α:Type}(f:α→Bool):∀ l:List α,(∀ x∈l,f x=true)→l.filter f=l:=fun l h=>List.filter_eq_self.2 h
theorem aX {g:zw}(h:zO g=true):ti g (zV g.packs g.top)=wS g:=by
 have hasc:=yR h
 have hpk:=w4 h
 have htop:∀ k∈g.top,mV g.packs k=true:=by
  have h':=h
  unfold zO at h'
  simp only[Bool.and_eq_true]at h'
  exact (vo g.packs none g.top h'.2.2).2.1
 unfold wS ti
 rw[h,cond_true]
 congr 1
 · refine filter_all _ _ fun k hk => ?_
   rw[xK]
   exact uR _ _ k hk (by rw[← qn];exact htop k hk)
 · unfold xC yL
   conv=>rhs;rw[← List.map_id (g.packs.filter _)]
   refine List.map_congr_left fun p hp=>?_
   obtain⟨hp1,hp2⟩:=List.mem_filter.1 hp
   have e:p.zn.filter (yG (zV g.packs g.top))=p.zn:=filter_all _ _ fun k hk=>by
    rw[xK]at hp2 ⊢
    refine vc _ _ (keyOf p) p k hp2 (w7 hasc hp1) hk ?_
    rw[← qn]
    exact (vo g.packs none p.zn (hpk p hp1).2).2.1 k hk
   unfold qC
   rw[e]
   rfl
end Go.Proofs.YtefkoljdebekdaaGreatDoor

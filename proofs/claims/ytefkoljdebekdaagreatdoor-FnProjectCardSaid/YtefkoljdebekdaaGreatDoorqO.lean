/- Joined: V20 K41 K42 K43 K44 K45 V21 K46. Conditions: those of each lemma. -/
import Derived.Test.YtefkoljdebekdaaGreatDoorqM
import Derived.Test.YtefkoljdebekdaaGreatDoorqL
import Derived.Test.YtefkoljdebekdaaGreatDoorqK
import Derived.Test.YtefkoljdebekdaaGreatDoorqJ
import Derived.Test.YtefkoljdebekdaaGreatDoorqN
set_option linter.unusedVariables false
set_option linter.unusedSimpArgs false
set_option maxRecDepth 100000
namespace Go.Proofs.YtefkoljdebekdaaGreatDoor
open E
theorem tu (ps:List z1):∀ (n:Nat) (out w:List Str),oY out→oY (yi xI ps n out w)
 | 0,out,w,h=>h
 | n+1,out,[],h=>h
 | n + 1, out, k :: w, h => by
  rw[yi]
  cases hf:yS ps k with
  | none=>exact tu ps n out w h
  | some p =>
   simp only
   cases yG out k with
   | true=>exact tu ps n out w h
   | false=>exact tu ps n _ _ (gL out k h)
theorem db (ps:List z1)(w:List Str):oY (zV ps w):=tu ps _ [] w (by simp[oY])
theorem uD (ps:List z1)(S:Str→Prop)(hc:∀ k p m,S k→yS ps k=some p→m∈p.zn→(yS ps m).isSome=true→S m) :
 ∀ (n:Nat) (out w:List Str),(∀ k∈out,S k)→(∀ k∈w,(yS ps k).isSome=true→S k)→∀ k∈yi xI ps n out w,S k
 | 0,out,w,ho,hw,k,hk=>ho k hk
 | n+1,out,[],ho,hw,k,hk=>ho k hk
 | n + 1, out, a :: w, ho, hw, k, hk => by
  rw[yi]at hk
  cases hf:yS ps a with
  | none=>rw[hf]at hk;exact uD ps S hc n out w ho (fun x hx=>hw x (by simp[hx])) k hk
  | some p =>
   rw[hf]at hk
   simp only at hk
   have ha:S a:=hw a (by simp) (by rw[hf];rfl)
   cases hq:yG out a with
   | true=>rw[hq,cond_true]at hk;exact uD ps S hc n out w ho (fun x hx=>hw x (by simp[hx])) k hk
   | false =>
    rw[hq,cond_false]at hk
    refine uD ps S hc n (xI out a) (w++p.zn) (fun x hx=>?_) (fun x hx hs=>?_) k hk
    · rcases (ur out a x).1 hx with hx | rfl
      · exact ho x hx
      · exact ha
    · rcases List.mem_append.1 hx with hx | hx
      · exact hw x (by simp[hx]) hs
      · exact hc a p x ha hf hx hs
theorem gS (ps:List z1)(w:List Str)(S:Str→Prop)(hc:∀ k p m,S k→yS ps k=some p→m∈p.zn→(yS ps m).isSome=true→S m)(hw:∀ k∈w,(yS ps k).isSome=true→S k):∀ k∈zV ps w,S k :=
 uD ps S hc _ [] w (by simp) hw
theorem Z4 {g:zw}(h:zO g=true){p:z1}(hp:p∈g.packs){m:Str}(hm:m∈p.zn):(yS g.packs m).isSome=true:=by
 rw[← qn]
 exact (vo g.packs none p.zn (w4 h p hp).2).2.1 m hm
theorem da {g:zw}(h:zO g=true)(w:List Str){k m:Str}{p:z1}(hk:k∈zV g.packs w)(hp:yS g.packs k=some p)(hm:m∈p.zn):m∈zV g.packs w :=
 vc g.packs w k p m hk hp hm (Z4 h (wg hp).1 hm)
theorem pw {keys:List Str}{ps:List z1}{p:z1}:p∈yL keys ps↔p∈ps∧keyOf p∈keys:=by
 unfold yL
 rw[List.mem_filter,xK]
theorem ka {keys:List Str}{ps:List z1}(h:rW ps):rW (yL keys ps):=List.Pairwise.filter _ h
theorem kg {keys:List Str}{ps:List z1}(h:rW ps){k:Str}(hk:k∈keys){p:z1}(hp:yS ps k=some p):yS (yL keys ps) k=some p:=by
 obtain⟨h1,h2,_⟩:=wg hp
 have:=w7 (ka (keys:=keys) h) (pw.2 ⟨h1,by rw[h2];exact hk⟩)
 rw[h2]at this
 exact this
theorem Ze {keys:List Str}{ps:List z1}(h:rW ps){k:Str}{p:z1}(hp:yS (yL keys ps) k=some p):yS ps k=some p∧k∈keys:=by
 obtain⟨h1,h2,_⟩:=wg hp
 obtain⟨h3,h4⟩:=pw.1 h1
 have:=w7 h h3
 rw[h2]at this h4
 exact⟨this,h4⟩
theorem lM (ps:List z1):∀ (o:Option Str) (l:List z1),(∀ p∈l,wu p=true∧xD ps none p.zn=true)→rW l→(∀ p∈l,vA o (keyOf p)=true)→w9 ps o l=true
 | o,[],_,_,_=>rfl
 | o,p::r,h,ha,ho=>by
  obtain⟨h1,h2⟩:=List.pairwise_cons.1 ha
  obtain⟨h3,h4⟩:=h p (by simp)
  rw[w9,h3,ho p (by simp),h4,lM ps (some (keyOf p)) r (fun q hq=>h q (by simp[hq])) h2 (fun q hq=>h1 q hq)]
  rfl
theorem nw (ps:List z1):∀ (o:Option Str) (l:List Str),(l.Pairwise fun x y=>Op.bytesLess x y=true)→(∀ k∈l,mV ps k=true)→(∀ k∈l,vA o k=true)→xD ps o l=true
 | o,[],_,_,_=>rfl
 | o,k::r,ha,hh,ho=>by
  obtain⟨h1,h2⟩:=List.pairwise_cons.1 ha
  rw[xD,hh k (by simp),ho k (by simp),nw ps (some k) r h2 (fun q hq=>hh q (by simp[hq])) (fun q hq=>h1 q hq)]
  rfl
theorem aY {g:zw}(h:zO g=true):zV (wS g).packs (wS g).top=(wS g).packs.map keyOf:=by
 have hasc:=yR h
 have hpk:=w4 h
 have htop:=mH h
 obtain⟨top,ps⟩:=g
 have hh:=h
 unfold wS
 rw[h,cond_true]
 simp only at hasc hpk htop ⊢
 have hq:=ka (keys:=zV ps top) hasc
 have e : zV (yL (zV ps top) ps) top = (yL (zV ps top) ps).map keyOf := by
  refine oY.uniq (db _ _) (List.pairwise_map.2 hq) fun k=>⟨fun hk=>?_,fun hk=>?_⟩
  · obtain ⟨p, hp⟩ := qb _ _ k hk
    obtain⟨h1,h2,_⟩:=wg hp
    exact List.mem_map.2 ⟨p,h1,h2⟩
  · obtain ⟨p, hp, rfl⟩ := List.mem_map.1 hk
    obtain⟨h1,h2⟩:=pw.1 hp
    refine gS ps top (fun k=>k∈zV (yL (zV ps top) ps) top) (fun k p m h3 h4 h5 h6=>?_) (fun k hk hs=>?_) _ h2
    · obtain ⟨p', hp'⟩ := qb _ _ k h3
      obtain⟨q1,q2⟩:=Ze hasc hp'
      rw[h4]at q1
      cases q1
      have hm:=da hh top q2 h4 h5
      obtain⟨pm,hpm⟩:=qb ps top m hm
      exact vc _ _ k p m h3 hp' h5 (by rw[kg hasc hm hpm];rfl)
    · have hk' := uR ps top k hk hs
      obtain⟨pm,hpm⟩:=qb ps top k hk'
      exact uR _ _ k hk (by rw[kg hasc hk' hpm];rfl)
 exact e
set_option maxHeartbeats 4000000 in
theorem Yk (g:Nat)(p:z1→Bool)(l:List z1)(hl:l.length≤1048576)(hp:∀ x∈l,zu (EV Tryz.prog pol) g (.agg (x.enc.map .t)::[])=some (.t (.bool (p x))))(n:Nat)(hn:n=l.length)(cap:Option Nat) :
 ∀ (R K:List z1) (J:List (List V)),(∀ x∈R,x∈l)→1≤J.length→noR J→K.length+J.length+R.length=l.length→∃ J',noR J'∧(K++R.filter fun x=>!p x).length+J'.length=l.length ∧
 EV Tryz.prog pol (.loop 57 122 1 [.sl 0 0 n cap,.t (.fn g []),.t (.int .i64 (K.length:Int)),.t (.int .i64 ((K.length+J.length:Nat):Int))] [.vs 6 (ocE (z1.zh K)++J++ocE (z1.zh R))])
  = some (.loop (.exit 0) [.sl 0 0 n cap,.t (.int .i64 ((K++R.filter fun x=>!p x).length:Int))] [.vs 6 (ocE (z1.zh (K++R.filter fun x=>!p x))++J')])
 | [],K,J,hR,hJ,hJr,hlen=>by
  have c:decide (((K.length+J.length:Nat):Int)<(n:Int))=false:=by simp at hlen;apply decide_eq_false;omega
  refine⟨J,hJr,by simp at hlen;simpa using hlen,?_⟩
  have hE:=xQ (yD K) hJr
  simp only[List.filter_nil,List.append_nil,show ocE (z1.zh [])=[] from rfl]
  obtain⟨h1,h2,_⟩:=hE
  generalize ocE (z1.zh K)++J=E0 at *
  refine zo Tryz.func57 rfl rfl ?_
  simp (disch:=((try simp only[LL]);omega)) only[↓GO,↓DRW,GA,GX,ren,zk,za,refs,z8,cst,zr,isC,bin,una,z7,zd,blt,asArg,zg,zc,zf,z6,E.mkS,unN,ze,zm,zb,GS,simprocAttr,zB,zC,yB,yr,yv,yu,yC,gh1,yq,yh,yk,zL,mkO,yf,y8,y9,mvC,unO,zR,yz,yt,yo,zI,yp,yn,zY,oc,oTs,oT,zK,zK.rowTs,yj,isL,E.BX,GZ,c,h1,h2,zA]
 | x :: R, K, J, hR, hJ, hJr, hlen => by
  simp only[List.length_cons]at hlen
  have c:decide (((K.length+J.length:Nat):Int)<(n:Int))=true:=by apply decide_eq_true;omega
  have c0:decide ((0:Int)≤((K.length+J.length:Nat):Int))=true:=by apply decide_eq_true;omega
  have c00:(0:Int)≤((K.length+J.length:Nat):Int):=by omega
  have c1:decide ((0:Int)≤(K.length:Int))=true:=by apply decide_eq_true;omega
  have c11:(0:Int)≤(K.length:Int):=by omega
  have c2:decide ((K.length:Int)<(n:Int))=true:=by apply decide_eq_true;omega
  have d1:=hp x (hR x (by simp))
  have hkl:K.length+J.length≤1048576:=by omega
  have hPl:(ocE (z1.zh K)++J).length=K.length+J.length:=by rw[List.length_append,zS,z1.zj]
  have hPr:=xQ (yD K) hJr
  have hBr:=yD R
  have hf1:=x6 x.sums
  have hf2:=yb x.zn
  have hs1:=zz.zj x.sums
  have hs2:=zi x.zn
  rw[fx,List.filter_cons]
  cases q:p x with
  | true =>
   rw[q]at d1
   obtain⟨J',hJ1,hJ2,IH⟩:=Yk g p l hl hp n hn cap R K (J++[fgP x]) (fun y hy=>hR y (by simp[hy])) (by simp) (xQ hJr (nX x)) (by simp;omega)
   rw[show ocE (z1.zh K)++(J++[fgP x])++ocE (z1.zh R)=(ocE (z1.zh K)++J)++fgP x::ocE (z1.zh R) by simp,show ((K.length+(J++[fgP x]).length:Nat):Int)=((K.length+J.length:Nat):Int)+1 by simp;omega]at IH
   refine⟨J',hJ1,by simpa using hJ2,?_⟩
   simp only[Bool.not_true,Bool.false_eq_true,if_false]
   obtain⟨hP1,hP2,_⟩:=hPr
   obtain⟨hB1,hB2,_⟩:=hBr
   have hg:=fun y=>w5 (ocE (z1.zh K)++J) (ocE (z1.zh R)) y (K.length+J.length) hPl
   have hs:=fun y z=>xH (ocE (z1.zh K)++J) (ocE (z1.zh R)) y z (K.length+J.length) hPl
   obtain⟨name,version,source,sums,dev,zn⟩:=x
   simp only[fgP,z1.enc,List.map_cons,List.map_nil]at d1 IH hf1 hf2 hs1 hs2 ⊢
   clear hJ hlen hJr hJ1 hJ2 hp hR
   generalize ocE (z1.zh (K++R.filter fun x=>!p x))++J'=Z at *
   generalize (K++R.filter fun x=>!p x).length=zl at *
   generalize ocE (z1.zh K)++J=P at *
   generalize ocE (z1.zh R)=B at *
   generalize zz.zh sums=es1 at *
   generalize strs zn=es2 at *
   have hk1:=List.take_of_length_le (Nat.le_of_eq hs1)
   have hk2:=List.take_of_length_le (Nat.le_of_eq hs2)
   generalize sums.length=n1 at *
   generalize zn.length=n2 at *
   generalize K.length=kl at *
   generalize hkj:kl+J.length=kj at *
   refine zo Tryz.func57 rfl rfl ?_
   simp (disch:=((try simp only[LL]);omega)) only[↓GO,↓DRW,GA,GX,ren,zk,za,refs,z8,cst,zr,isC,bin,una,z7,zd,blt,asArg,zg,zc,zf,z6,E.mkS,unN,ze,zm,zb,GS,simprocAttr,zB,zC,yB,yr,yv,yu,yC,gh1,yq,yh,yk,zL,mkO,yf,y8,y9,mvC,unO,zR,yz,yt,yo,zI,yp,yn,zY,oc,oTs,oT,zK,zK.rowTs,yj,isL,E.BX,GZ,c,c0,c00,if_true,Int.toNat_natCast,hg,hs,hf1,hf2,hs1,hs2,hk1,hk2,d1,hP1,hP2,hB1,hB2,zq,Bool.not_true,zA,IH]
  | false =>
   rw[q]at d1
   obtain⟨j0,Jt,rfl⟩:∃ j0 Jt,J=j0::Jt:=by cases J with | nil=>simp at hJ | cons a t=>exact⟨a,t,rfl⟩
   have hJt:=b8 hJr
   obtain⟨J',hJ1,hJ2,IH⟩:=Yk g p l hl hp n hn cap R (K++[x]) (Jt++[fgP x]) (fun y hy=>hR y (by simp[hy])) (by simp) (xQ hJt (nX x)) (by simp at hlen ⊢;omega)
   rw[show ocE (z1.zh (K++[x]))++(Jt++[fgP x])++ocE (z1.zh R)=(ocE (z1.zh K)++[V.t (.str x.name),.t (.str x.version),.t (.str x.source),.o (.list 2 (zz.zh x.sums)),.t (.bool x.dev),.o (.list 1 (strs x.zn))]::Jt)++fgP x::ocE (z1.zh R) by rw[we,show ocE (z1.zh [x])=[[V.t (.str x.name),.t (.str x.version),.t (.str x.source),.o (.list 2 (zz.zh x.sums)),.t (.bool x.dev),.o (.list 1 (strs x.zn))]] from rfl];simp,
    show ((K++[x]).length:Int)=(K.length:Int)+1 by simp,show (((K++[x]).length+(Jt++[fgP x]).length:Nat):Int)=((K.length+(j0::Jt).length:Nat):Int)+1 by simp;omega]at IH
   refine⟨J',hJ1,by simpa using hJ2,?_⟩
   simp only[Bool.not_false,if_true]
   rw[show K++x::R.filter (fun x=>!p x)=(K++[x])++R.filter fun x=>!p x by simp]
   have hj1:refs.refss j0=[]:=by have:=hJr.1;rw[List.flatMap_cons,List.append_eq_nil_iff]at this;exact this.1
   have hj2:∀ f,ren.rens f j0=j0:=fun f=>by have:=hJr.2.1 f;rw[List.map_cons]at this;exact (List.cons.inj this).1
   obtain⟨hB1,hB2,_⟩:=hBr
   have hKl:(ocE (z1.zh K)).length=K.length:=by rw[zS,z1.zj]
   have hA:=yD K
   have hQl:∀ z,(ocE (z1.zh K)++z::Jt).length=K.length+(j0::Jt).length:=fun z=>by simp[zS,z1.zj]
   have hg3:=fun z y=>w5 (ocE (z1.zh K)++z::Jt) (ocE (z1.zh R)) y (K.length+(j0::Jt).length) (hQl z)
   have hs4:=fun z y y'=>xH (ocE (z1.zh K)++z::Jt) (ocE (z1.zh R)) y y' (K.length+(j0::Jt).length) (hQl z)
   have hs2':∀ y z,(ocE (z1.zh K)++j0::Jt++y::ocE (z1.zh R)).set K.length z=(ocE (z1.zh K)++z::Jt)++y::ocE (z1.zh R):=fun y z=>by
    rw[List.append_assoc,List.cons_append,xH _ _ _ _ _ hKl,List.append_assoc,List.cons_append]
   have hg2':∀ y z,((ocE (z1.zh K)++z::Jt)++y::ocE (z1.zh R))[K.length]? = some z:=fun y z=>by rw[List.append_assoc,List.cons_append];exact w5 _ _ _ _ hKl
   have hs3':∀ y z z',((ocE (z1.zh K)++z::Jt)++y::ocE (z1.zh R)).set K.length z'=(ocE (z1.zh K)++z'::Jt)++y::ocE (z1.zh R):=fun y z z'=>by
    rw[List.append_assoc,List.cons_append,xH _ _ _ _ _ hKl,List.append_assoc,List.cons_append]
   obtain⟨Q,hQ⟩:∃ Q:List V→List (List V),∀ z,Q z=ocE (z1.zh K)++z::Jt:=⟨_,fun _=>rfl⟩
   have hQ1:∀ z,(Q z).flatMap refs.refss=refs.refss z:=fun z=>by rw[hQ,List.flatMap_append,List.flatMap_cons,hA.1,hJt.1];simp
   have hQ2:∀ z f,(Q z).map (ren.rens f)=Q (ren.rens f z):=fun z f=>by rw[hQ,hQ,List.map_append,List.map_cons,hA.2.1,hJt.2.1]
   have hj0l:j0.length=6:=hJr.2.2 j0 (by simp)
   have hj6:6≤j0.length:=by omega
   have hd6:j0.drop 6=[]:=List.drop_of_length_le (by omega)
   clear hj0l
   simp only[← hQ]at hg3 hs4 hs2' hg2' hs3' IH ⊢
   clear hQ hQl hJt hA hKl hPr hPl
   obtain⟨name,version,source,sums,dev,zn⟩:=x
   simp only[fgP,z1.enc,List.map_cons,List.map_nil]at d1 IH hf1 hf2 hs1 hs2 ⊢
   clear hJ hlen hJr hJ1 hJ2 hp hR
   generalize ocE (z1.zh ((K++[z1.mk name version source sums dev zn])++R.filter fun x=>!p x))++J'=Z at *
   generalize ((K++[z1.mk name version source sums dev zn])++R.filter fun x=>!p x).length=zl at *
   generalize ocE (z1.zh R)=B at *
   generalize zz.zh sums=es1 at *
   generalize strs zn=es2 at *
   have hk1:=List.take_of_length_le (Nat.le_of_eq hs1)
   have hk2:=List.take_of_length_le (Nat.le_of_eq hs2)
   generalize sums.length=n1 at *
   generalize zn.length=n2 at *
   generalize K.length=kl at *
   generalize hkj:kl+(j0::Jt).length=kj at *
   have hkk:¬ (kl=kj):=by rw[← hkj];simp
   refine zo Tryz.func57 rfl rfl ?_
   simp (maxSteps:=1000000) (disch:=((try simp only[LL]);omega)) only[↓GO,↓DRW,GA,GX,ren,zk,za,refs,z8,cst,zr,isC,bin,una,z7,zd,blt,asArg,zg,zc,zf,z6,E.mkS,unN,ze,zm,zb,GS,simprocAttr,zB,zC,yB,yr,yv,yu,yC,gh1,yq,yh,yk,zL,mkO,yf,y8,y9,mvC,unO,zR,yz,yt,yo,zI,yp,yn,zY,oc,oTs,oT,zK,zK.rowTs,yj,isL,E.BX,GZ,c,c0,c00,c1,c11,c2,if_true,Int.toNat_natCast,hg2',hs3',hg3,hs4,hQ1,hQ2,hj1,hj2,hj6,hd6,hf1,hf2,hs1,hs2,hk1,hk2,d1,hB1,hB2,zq,Bool.not_false,zA,IH]
theorem Q3 (g:Nat)(p:z1→Bool)(l:List z1)(hl:l.length≤1048576)(hp:∀ x∈l,zu (EV Tryz.prog pol) g (.agg (x.enc.map .t)::[])=some (.t (.bool (p x))))(n:Nat)(hn:n=l.length)(cap:Option Nat) :
 ∃ J',noR J'∧(l.filter fun x=>!p x).length+J'.length=l.length ∧
 EV Tryz.prog pol (.callO false 57 [.sl 0 0 n cap,.t (.fn g [])] [.vs 6 (ocE (z1.zh l))])
  = some (.call (.sl 0 0 (l.filter fun x=>!p x).length cap) [.vs 6 (ocE (z1.zh (l.filter fun x=>!p x))++J')]):=by
 have d1:=ue g [] p l (by omega) hp
 have ht:(ocE (z1.zh l)).take n=ocE (z1.zh l):=List.take_of_length_le (by rw[zS,z1.zj];omega)
 have f2:=uQ l
 cases hf:xU p l 0 with
 | none =>
  rw[hf]at d1
  have hw:=XN p l hf
  refine⟨[],sN,by rw[hw];simp,?_⟩
  rw[hw,List.append_nil,← hn]
  simp only[ixI]at d1
  refine zH Tryz.func57 rfl (by kernel_rfl) ?_
  unfold Tryz.f57
  simp (disch:=((try simp only[LL]);omega)) only[↓GO,↓DRW,GA,GX,ren,zk,za,refs,z8,cst,zr,isC,bin,una,z7,zd,blt,asArg,zg,zc,zf,z6,E.mkS,unN,ze,zm,zb,GS,simprocAttr,zB,zC,yB,yr,yv,yu,yC,gh1,yq,yh,yk,zL,mkO,yf,y8,y9,mvC,unO,zR,yz,yt,yo,zI,yp,yn,zY,oc,oTs,oT,zK,zK.rowTs,yj,isL,E.BX,GZ,d1,wH,ht,f2,vh,yJ,yc,List.drop_zero,beq_self_eq_true,zA]
 | some i =>
  rw[hf]at d1
  obtain⟨pre,x,post,e1,e2,e3,e4⟩:=pB _ l 0 i hf
  simp only[Nat.zero_add]at e2
  have hw:(l.filter fun x=>!p x)=pre++post.filter fun x=>!p x:=by
   rw[e1,List.filter_append,List.filter_cons,e3]
   simp only[Bool.not_true,Bool.false_eq_true,if_false]
   congr 1
   exact List.filter_eq_self.2 fun y hy=>by rw[e4 y hy];rfl
  have hlen:pre.length+1+post.length=l.length:=by have h9:=congrArg List.length e1;simp at h9;omega
  have hmap:Option.map (fun x:Nat=>x) cap=cap:=by cases cap<;>rfl
  obtain⟨J',hJr,hJ',L⟩:=Yk g p l hl hp n hn cap post pre (ocE (z1.zh [x])) (fun y hy=>by rw[e1];simp[hy]) (by rw[zS,z1.zj];exact Nat.le_refl _) (yD _) (by rw[zS,z1.zj];simpa using hlen)
  rw[← we,← we,show pre++[x]++post=l by rw[e1];simp,show ((pre.length+(ocE (z1.zh [x])).length:Nat):Int)=(pre.length:Int)+1 by rw[zS,z1.zj];rfl,e2]at L
  have c0:((i:Int)==-1)=false:=by rw[beq_eq_false_iff_ne];omega
  rw[← hw]at L hJ'
  have hwl:(l.filter fun x=>!p x).length≤n:=by omega
  generalize hZ:(l.filter fun x=>!p x)=Z at *
  have hZl:(ocE (z1.zh Z)).length=Z.length:=by rw[zS,z1.zj]
  have htk:(ocE (z1.zh Z)++J').take Z.length=ocE (z1.zh Z):=by rw[← hZl];simp
  have hdk:(ocE (z1.zh Z)++J').drop (Z.length+(n - Z.length))=[]:=List.drop_of_length_le (by rw[List.length_append,hZl];omega)
  have hEl:(ocE (z1.zh Z)++J').length=n:=by rw[List.length_append,hZl,hn];exact hJ'
  have hE:=xQ (yD Z) hJr
  obtain⟨h1,h2,_⟩:=hE
  refine⟨List.replicate (n - Z.length) zPk,Wh _,by rw[List.length_replicate];omega,?_⟩
  obtain⟨h3,h4,_⟩:=xQ (yD Z) (Wh (n - Z.length))
  have hil:i≤1048576:=by omega
  have hnl:n≤1048576:=by omega
  simp only[ixI]at d1
  clear hw hJ' e1 hf e4 e3 hlen hp hl
  have c1:Z.length+(n - Z.length)≤n:=by omega
  simp only[zPk]at h3 h4 ⊢
  generalize ocE (z1.zh Z)++J'=E1 at *
  generalize ocE (z1.zh Z)=E2 at *
  refine zH Tryz.func57 rfl (by kernel_rfl) ?_
  unfold Tryz.f57
  simp (disch:=((try simp only[LL]);omega)) only[↓GO,↓DRW,GA,GX,ren,zk,za,refs,z8,cst,zr,isC,bin,una,z7,zd,blt,asArg,zg,zc,zf,z6,E.mkS,unN,ze,zm,zb,GS,simprocAttr,zB,zC,yB,yr,yv,yu,yC,gh1,yq,yh,yk,zL,mkO,yf,y8,y9,mvC,unO,zR,yz,yt,yo,zI,yp,yn,zY,oc,oTs,oT,zK,zK.rowTs,yj,isL,E.BX,GZ,d1,wH,ht,f2,vh,yJ,yc,List.drop_zero,c0,L,hEl,htk,hdk,h1,h2,h3,h4,zq,List.append_nil,zA,Nat.zero_add,Nat.sub_zero,c1,and_self,if_true,List.append_assoc,hmap]
theorem gi {α:Type}{p:α→Bool}{l:List α}{i:Nat}{pre post:List α}{x:α}(e1:l=pre++x::post)(e3:p x=true)(e4:∀ y∈pre,p y=false):(l.filter fun x=>!p x)=pre++post.filter fun x=>!p x:=by
 rw[e1,List.filter_append,List.filter_cons,e3]
 simp only[Bool.not_true,Bool.false_eq_true,if_false]
 congr 1
 exact List.filter_eq_self.2 fun y hy=>by rw[e4 y hy];rfl
theorem ru {α:Type}(p:α→Bool):∀ (l:List α) (n i:Nat),xU p l n=some i→∃ pre x post,l=pre++x::post∧n+pre.length=i∧p x=true∧∀ y∈pre,p y=false
 | [],n,i,h=>by cases h
 | x::r,n,i,h=>by
  rw[xU]at h
  split at h
  · rename_i hx
    cases h
    exact⟨[],x,r,rfl,rfl,hx,fun y hy=>by simp at hy⟩
  · rename_i hx
    obtain⟨pre,y,post,e1,e2,e3,e4⟩:=ru p r (n+1) i h
    refine⟨x::pre,y,post,by rw[e1];rfl,by simp;omega,e3,fun z hz=>?_⟩
    rcases List.mem_cons.1 hz with rfl | hz
    · simpa using hx
    · exact e4 z hz
theorem bU {α:Type}(p:α→Bool)(l:List α)(h:xU p l 0=none):l.filter (fun x=>!p x)=l:=by
 have h2:=sf p l 0
 rw[h]at h2
 refine List.filter_eq_self.2 fun x hx=>?_
 cases hc:p x with
 | false=>rfl
 | true =>
  have:l.any p=true:=List.any_eq_true.2 ⟨x,hx,hc⟩
  rw[this]at h2;cases h2
theorem pF:∀ {ks:List Str} {s:Str},s∈ks→s.length≤yg ks
 | k::r,s,h=>by
  rw[yg]
  rcases List.mem_cons.1 h with rfl | h
  · omega
  · have:=pF h;omega
theorem pz (q:Str→Bool):∀ l:List Str,(l.filter q).length+yg (l.filter q)≤l.length+yg l
 | []=>Nat.le_refl _
 | x::r=>by
  have ih:=pz q r
  have e:∀ t:List Str,yg (x::t)=x.length+yg t:=fun _=>rfl
  cases h:q x with
  | true=>rw[List.filter_cons_of_pos h,e,e,List.length_cons,List.length_cons];omega
  | false=>rw[List.filter_cons_of_neg (by rw[h];decide),e,List.length_cons];omega
theorem Yi (g:Nat)(p:Str→Bool)(l:List Str)(hl:l.length≤1048576)(hp:∀ x∈l,zu (EV Tryz.prog pol) g (.t (.str x)::[])=some (.t (.bool (p x))))(cap:Option Nat)(n:Nat)(hn:n=l.length):∀ (R K J:List Str),(∀ x∈R,x∈l)→1≤J.length→K.length+J.length+R.length=l.length→∃ J',(K++R.filter fun x=>!p x).length+J'.length=l.length ∧
 EV Tryz.prog pol (.loop 56 122 1 [.sl 0 0 n cap,.t (.fn g []),.t (.int .i64 (K.length:Int)),.t (.int .i64 ((K.length+J.length:Nat):Int))] [.ts 1 (strs (K++J++R))])
  = some (.loop (.exit 0) [.sl 0 0 n cap,.t (.int .i64 ((K++R.filter fun x=>!p x).length:Int))] [.ts 1 (strs ((K++R.filter fun x=>!p x)++J'))])
 | [],K,J,hR,hJ,hlen=>by
  have c:decide (((K.length+J.length:Nat):Int)<(n:Int))=false:=by simp at hlen;apply decide_eq_false;omega
  refine⟨J,by simp at hlen;simpa using hlen,?_⟩
  simp only[List.filter_nil,List.append_nil]
  refine zo Tryz.func56 rfl rfl ?_
  simp (disch:=((try simp only[LL]);omega)) only[↓GO,↓DRW,GA,GX,ren,zk,za,refs,z8,cst,zr,isC,bin,una,z7,zd,blt,asArg,zg,zc,zf,z6,E.mkS,unN,ze,zm,zb,GS,simprocAttr,zB,zC,yB,yr,yv,yu,yC,gh1,yq,yh,yk,zL,mkO,yf,y8,y9,mvC,unO,zR,yz,yt,yo,zI,yp,yn,zY,oc,oTs,oT,zK,zK.rowTs,yj,isL,E.BX,GZ,c,zA]
 | x :: R, K, J, hR, hJ, hlen => by
  simp only[List.length_cons]at hlen
  have c:decide (((K.length+J.length:Nat):Int)<(n:Int))=true:=by apply decide_eq_true;omega
  have c0:decide ((0:Int)≤((K.length+J.length:Nat):Int))=true:=by apply decide_eq_true;omega
  have c1:decide ((0:Int)≤(K.length:Int))=true:=by apply decide_eq_true;omega
  have c2:decide ((K.length:Int)<(n:Int))=true:=by apply decide_eq_true;omega
  have hget:(strs (K++J++x::R))[K.length+J.length]? = some [.str x]:=wX (by rw[← List.length_append];simp)
  have d1:=hp x (hR x (by simp))
  rw[List.filter_cons]
  cases q:p x with
  | true =>
   rw[q]at d1
   obtain⟨J',hJ',IH⟩:=Yi g p l hl hp cap n hn R K (J++[x]) (fun y hy=>hR y (by simp[hy])) (by simp) (by simp;omega)
   rw[show K++(J++[x])++R=K++J++x::R by simp,show ((K.length+(J++[x]).length:Nat):Int)=((K.length+J.length:Nat):Int)+1 by simp;omega]at IH
   simp only[Bool.not_true,Bool.false_eq_true,if_false]
   refine⟨J',hJ',?_⟩
   generalize strs (K++J++x::R)=E0 at *
   generalize K++R.filter (fun x=>!p x)=Z at *
   generalize hkj:K.length+J.length=kj at *
   refine zo Tryz.func56 rfl rfl ?_
   simp (disch:=((try simp only[LL]);omega)) only[↓GO,↓DRW,GA,GX,ren,zk,za,refs,z8,cst,zr,isC,bin,una,z7,zd,blt,asArg,zg,zc,zf,z6,E.mkS,unN,ze,zm,zb,GS,simprocAttr,zB,zC,yB,yr,yv,yu,yC,gh1,yq,yh,yk,zL,mkO,yf,y8,y9,mvC,unO,zR,yz,yt,yo,zI,yp,yn,zY,oc,oTs,oT,zK,zK.rowTs,yj,isL,E.BX,GZ,c,c0,hget,d1,zq,Bool.not_true,zA,IH]
  | false =>
   rw[q]at d1
   obtain⟨j0,Jt,rfl⟩:∃ j0 Jt,J=j0::Jt:=by cases J with | nil=>simp at hJ | cons a t=>exact⟨a,t,rfl⟩
   obtain⟨J',hJ',IH⟩:=Yi g p l hl hp cap n hn R (K++[x]) (Jt++[x]) (fun y hy=>hR y (by simp[hy])) (by simp) (by simp at hlen ⊢;omega)
   have hset:(strs (K++j0::Jt++x::R)).set K.length [.str x]=strs (K++[x]++(Jt++[x])++R):=by
    have e1:strs (K++j0::Jt++x::R)=strs K++[.str j0]::strs (Jt++x::R):=by simp[strs]
    have e2:strs (K++[x]++(Jt++[x])++R)=strs K++[.str x]::strs (Jt++x::R):=by simp[strs]
    rw[e1,e2,List.set_append_right _ _ (by rw[zi];exact Nat.le_refl _),zi,Nat.sub_self]
    rfl
   have hg0:(strs (K++j0::Jt++x::R))[K.length]? = some [.str j0]:=wX (by simp)
   rw[show ((K++[x]).length:Int)=(K.length:Int)+1 by simp,show (((K++[x]).length+(Jt++[x]).length:Nat):Int)=((K.length+(j0::Jt).length:Nat):Int)+1 by simp;omega]at IH
   simp only[Bool.not_false,if_true]
   refine⟨J',by simpa using hJ',?_⟩
   rw[show K++x::R.filter (fun x=>!p x)=K++[x]++R.filter (fun x=>!p x) by simp]
   rw[← hset]at IH
   clear hset hJ'
   generalize strs (K++j0::Jt++x::R)=E0 at *
   generalize K++[x]++R.filter (fun x=>!p x)=Z at *
   have hkj2:K.length+(j0::Jt).length≤1048576:=by omega
   generalize hkj:K.length+(j0::Jt).length=kj at *
   have hkl:K.length≤1048576:=by omega
   generalize K.length=kl at *
   refine zo Tryz.func56 rfl rfl ?_
   simp (disch:=((try simp only[LL]);omega)) only[↓GO,↓DRW,GA,GX,ren,zk,za,refs,z8,cst,zr,isC,bin,una,z7,zd,blt,asArg,zg,zc,zf,z6,E.mkS,unN,ze,zm,zb,GS,simprocAttr,zB,zC,yB,yr,yv,yu,yC,gh1,yq,yh,yk,zL,mkO,yf,y8,y9,mvC,unO,zR,yz,yt,yo,zI,yp,yn,zY,oc,oTs,oT,zK,zK.rowTs,yj,isL,E.BX,GZ,c,c0,c1,c2,hget,hg0,d1,zq,Bool.not_false,zA,IH]
theorem Q2 (g:Nat)(p:Str→Bool)(l:List Str)(hl:l.length≤1048576)(hp:∀ x∈l,zu (EV Tryz.prog pol) g (.t (.str x)::[])=some (.t (.bool (p x))))(cap:Option Nat)(n:Nat)(hn:n=l.length):∃ J',(l.filter fun x=>!p x).length+J'.length=l.length ∧
 EV Tryz.prog pol (.callO false 56 [.sl 0 0 n cap,.t (.fn g [])] [.ts 1 (strs l)])
  = some (.call (.sl 0 0 (l.filter fun x=>!p x).length cap) [.ts 1 (strs ((l.filter fun x=>!p x)++J'))]):=by
 have d1:=jG g [] p l (by omega) hp
 have ht:(strs l).take n=strs l:=List.take_of_length_le (by rw[zi];omega)
 cases hf:xU p l 0 with
 | none =>
  rw[hf]at d1
  have hw:=bU p l hf
  refine⟨[],by rw[hw];simp,?_⟩
  rw[hw,List.append_nil,← hn]
  simp only[ixI]at d1
  refine zH Tryz.func56 rfl (by kernel_rfl) ?_
  unfold Tryz.f56
  simp (disch:=((try simp only[LL]);omega)) only[↓GO,↓DRW,GA,GX,ren,zk,za,refs,z8,cst,zr,isC,bin,una,z7,zd,blt,asArg,zg,zc,zf,z6,E.mkS,unN,ze,zm,zb,GS,simprocAttr,zB,zC,yB,yr,yv,yu,yC,gh1,yq,yh,yk,zL,mkO,yf,y8,y9,mvC,unO,zR,yz,yt,yo,zI,yp,yn,zY,oc,oTs,oT,zK,zK.rowTs,yj,isL,E.BX,GZ,d1,wH,ht,beq_self_eq_true,zA]
 | some i =>
  rw[hf]at d1
  obtain⟨pre,x,post,e1,e2,e3,e4⟩:=ru _ l 0 i hf
  simp only[Nat.zero_add]at e2
  have hw:=gi (i:=i) e1 e3 e4
  have hlen:pre.length+1+post.length=l.length:=by have h9:=congrArg List.length e1;simp at h9;omega
  have hmap:Option.map (fun x:Nat=>x) cap=cap:=by cases cap<;>rfl
  obtain⟨J',hJ',L⟩:=Yi g p l hl hp cap n hn post pre [x] (fun y hy=>by rw[e1];simp[hy]) (by simp) (by simpa using hlen)
  rw[show pre++[x]++post=l by rw[e1];simp,show ((pre.length+[x].length:Nat):Int)=(pre.length:Int)+1 by simp,e2]at L
  have c0:((i:Int)==-1)=false:=by rw[beq_eq_false_iff_ne];omega
  have hwl:(l.filter fun x=>!p x).length≤n:=by rw[hn];exact List.length_filter_le _ _
  rw[← hw]at L hJ'
  generalize (l.filter fun x=>!p x)=Z at *
  have htk:(strs (Z++J')).take Z.length=strs Z:=by rw[show strs (Z++J')=strs Z++strs J' by simp[strs],← zi Z];simp
  have hdk:(strs (Z++J')).drop (Z.length+(n - Z.length))=[]:=List.drop_of_length_le (by rw[zi,List.length_append];omega)
  have hEl:(strs (Z++J')).length=n:=by rw[zi,List.length_append,hn];exact hJ'
  have hrp:strs Z++List.replicate (n - Z.length) [.str []]=strs (Z++List.replicate (n - Z.length) []):=by simp[strs]
  refine⟨List.replicate (n - Z.length) [],by rw[List.length_replicate];omega,?_⟩
  rw[← hrp]
  have hil:i≤1048576:=by omega
  have hnl:n≤1048576:=by omega
  simp only[ixI]at d1
  clear hw hJ' hrp e1 hf e4 e3 hlen hp
  generalize strs (Z++J')=E1 at *
  have c1:Z.length+(n - Z.length)≤n:=by omega
  refine zH Tryz.func56 rfl (by kernel_rfl) ?_
  unfold Tryz.f56
  simp (disch:=((try simp only[LL]);omega)) only[↓GO,↓DRW,GA,GX,ren,zk,za,refs,z8,cst,zr,isC,bin,una,z7,zd,blt,asArg,zg,zc,zf,z6,E.mkS,unN,ze,zm,zb,GS,simprocAttr,zB,zC,yB,yr,yv,yu,yC,gh1,yq,yh,yk,zL,mkO,yf,y8,y9,mvC,unO,zR,yz,yt,yo,zI,yp,yn,zY,oc,oTs,oT,zK,zK.rowTs,yj,isL,E.BX,GZ,d1,wH,ht,c0,L,hEl,htk,hdk,zq,List.append_nil,zA,Nat.zero_add,Nat.sub_zero,c1,and_self,if_true,List.append_assoc,hmap]
theorem ic (a b:List zz):zz.zh (a++b)=zz.zh a++zz.zh b:=by simp[zz.zh]
theorem YD {l:List zz}{i:Nat}{s:zz}(h:l[i]? = some s):(zz.zh l)[i]? = some [.str s.alg,.str s.bytes]:=by simp[zz.zh,zz.enc,h]
theorem Qq (g k:Nat)(cell:T)(p:zz→Bool)(l:List zz)(hl:l.length≤1048576)(hp:∀ x∈l,zu (EV Tryz.prog pol) g (.agg (x.enc.map .t)::[.t (.fp [.fn k [.fp [cell]]])])=some (.t (.bool (p x))))(cap:Option Nat)(n:Nat)(hn:n=l.length):∀ (R K J:List zz),(∀ x∈R,x∈l)→1≤J.length→K.length+J.length+R.length=l.length→∃ J',(K++R.filter fun x=>!p x).length+J'.length=l.length ∧
 EV Tryz.prog pol (.loop 143 122 3 [.sl 0 0 n cap,.fn g [.ptr 1 0 0],.t (.int .i64 (K.length:Int)),.t (.int .i64 ((K.length+J.length:Nat):Int))] [.ts 2 (zz.zh (K++J++R)),.vs 1 [[.fn k [.ptr 2 0 0]]],.vs 1 [[.t cell]]])
  = some (.loop (.exit 0) [.sl 0 0 n cap,.t (.int .i64 ((K++R.filter fun x=>!p x).length:Int))] [.ts 2 (zz.zh ((K++R.filter fun x=>!p x)++J')),.vs 1 [[.fn k [.ptr 2 0 0]]],.vs 1 [[.t cell]]])
 | [],K,J,hR,hJ,hlen=>by
  have c:decide (((K.length+J.length:Nat):Int)<(n:Int))=false:=by simp at hlen;apply decide_eq_false;omega
  refine⟨J,by simp at hlen;simpa using hlen,?_⟩
  simp only[List.filter_nil,List.append_nil]
  refine zo Tryz.func143 rfl rfl ?_
  simp (disch:=((try simp only[LL]);omega)) only[↓GO,↓DRW,GA,GX,ren,zk,za,refs,z8,cst,zr,isC,bin,una,z7,zd,blt,asArg,zg,zc,zf,z6,E.mkS,unN,ze,zm,zb,GS,simprocAttr,zB,zC,yB,yr,yv,yu,yC,gh1,yq,yh,yk,zL,mkO,yf,y8,y9,mvC,unO,zR,yz,yt,yo,zI,yp,yn,zY,oc,oTs,oT,zK,zK.rowTs,yj,isL,E.BX,GZ,c,zA]
 | x :: R, K, J, hR, hJ, hlen => by
  simp only[List.length_cons]at hlen
  have c:decide (((K.length+J.length:Nat):Int)<(n:Int))=true:=by apply decide_eq_true;omega
  have c0:decide ((0:Int)≤((K.length+J.length:Nat):Int))=true:=by apply decide_eq_true;omega
  have c1:decide ((0:Int)≤(K.length:Int))=true:=by apply decide_eq_true;omega
  have c2:decide ((K.length:Int)<(n:Int))=true:=by apply decide_eq_true;omega
  have hget:(zz.zh (K++J++x::R))[K.length+J.length]? = some [.str x.alg,.str x.bytes]:=YD (by rw[← List.length_append];simp)
  have d1:=hp x (hR x (by simp))
  rw[List.filter_cons]
  cases q:p x with
  | true =>
   rw[q]at d1
   obtain⟨J',hJ',IH⟩:=Qq g k cell p l hl hp cap n hn R K (J++[x]) (fun y hy=>hR y (by simp[hy])) (by simp) (by simp;omega)
   rw[show K++(J++[x])++R=K++J++x::R by simp,show ((K.length+(J++[x]).length:Nat):Int)=((K.length+J.length:Nat):Int)+1 by simp;omega]at IH
   simp only[Bool.not_true,Bool.false_eq_true,if_false]
   refine⟨J',hJ',?_⟩
   simp only[zz.enc,List.map_cons,List.map_nil]at d1
   generalize zz.zh (K++J++x::R)=E0 at *
   generalize K++R.filter (fun x=>!p x)=Z at *
   generalize hkj:K.length+J.length=kj at *
   refine zo Tryz.func143 rfl rfl ?_
   simp (disch:=((try simp only[LL]);omega)) only[↓GO,↓DRW,GA,GX,ren,zk,za,refs,z8,cst,zr,isC,bin,una,z7,zd,blt,asArg,zg,zc,zf,z6,E.mkS,unN,ze,zm,zb,GS,simprocAttr,zB,zC,yB,yr,yv,yu,yC,gh1,yq,yh,yk,zL,mkO,yf,y8,y9,mvC,unO,zR,yz,yt,yo,zI,yp,yn,zY,oc,oTs,oT,zK,zK.rowTs,yj,isL,E.BX,GZ,c,c0,hget,d1,zq,Bool.not_true,zA,IH]
  | false =>
   rw[q]at d1
   obtain⟨j0,Jt,rfl⟩:∃ j0 Jt,J=j0::Jt:=by cases J with | nil=>simp at hJ | cons a t=>exact⟨a,t,rfl⟩
   obtain⟨J',hJ',IH⟩:=Qq g k cell p l hl hp cap n hn R (K++[x]) (Jt++[x]) (fun y hy=>hR y (by simp[hy])) (by simp) (by simp at hlen ⊢;omega)
   have hset:(zz.zh (K++j0::Jt++x::R)).set K.length [.str x.alg,.str x.bytes]=zz.zh (K++[x]++(Jt++[x])++R):=by
    have e1:zz.zh (K++j0::Jt++x::R)=zz.zh K++j0.enc::zz.zh (Jt++x::R):=by simp[zz.zh]
    have e2:zz.zh (K++[x]++(Jt++[x])++R)=zz.zh K++x.enc::zz.zh (Jt++x::R):=by simp[zz.zh]
    rw[e1,e2,List.set_append_right _ _ (by rw[zz.zj];exact Nat.le_refl _),zz.zj,Nat.sub_self]
    rfl
   have hg0:(zz.zh (K++j0::Jt++x::R))[K.length]? = some [.str j0.alg,.str j0.bytes]:=YD (by simp)
   rw[show ((K++[x]).length:Int)=(K.length:Int)+1 by simp,show (((K++[x]).length+(Jt++[x]).length:Nat):Int)=((K.length+(j0::Jt).length:Nat):Int)+1 by simp;omega]at IH
   simp only[Bool.not_false,if_true]
   refine⟨J',by simpa using hJ',?_⟩
   rw[show K++x::R.filter (fun x=>!p x)=K++[x]++R.filter (fun x=>!p x) by simp]
   rw[← hset]at IH
   clear hset hJ'
   simp only[zz.enc,List.map_cons,List.map_nil]at d1
   generalize zz.zh (K++j0::Jt++x::R)=E0 at *
   generalize K++[x]++R.filter (fun x=>!p x)=Z at *
   have hkj2:K.length+(j0::Jt).length≤1048576:=by omega
   generalize hkj:K.length+(j0::Jt).length=kj at *
   have hkl:K.length≤1048576:=by omega
   generalize K.length=kl at *
   refine zo Tryz.func143 rfl rfl ?_
   simp (disch:=((try simp only[LL]);omega)) only[↓GO,↓DRW,GA,GX,ren,zk,za,refs,z8,cst,zr,isC,bin,una,z7,zd,blt,asArg,zg,zc,zf,z6,E.mkS,unN,ze,zm,zb,GS,simprocAttr,zB,zC,yB,yr,yv,yu,yC,gh1,yq,yh,yk,zL,mkO,yf,y8,y9,mvC,unO,zR,yz,yt,yo,zI,yp,yn,zY,oc,oTs,oT,zK,zK.rowTs,yj,isL,E.BX,GZ,c,c0,c1,c2,hget,hg0,d1,zq,Bool.not_false,zA,IH]
theorem c_dfM (g k:Nat)(cell:T)(p:zz→Bool)(l:List zz)(hl:l.length≤1048576)(hp:∀ x∈l,zu (EV Tryz.prog pol) g (.agg (x.enc.map .t)::[.t (.fp [.fn k [.fp [cell]]])])=some (.t (.bool (p x))))(cap:Option Nat)(n:Nat)(hn:n=l.length):∃ J',(l.filter fun x=>!p x).length+J'.length=l.length ∧
 EV Tryz.prog pol (.callO false 143 [.sl 0 0 n cap,.fn g [.ptr 1 0 0]] [.ts 2 (zz.zh l),.vs 1 [[.fn k [.ptr 2 0 0]]],.vs 1 [[.t cell]]])
  = some (.call (.sl 0 0 (l.filter fun x=>!p x).length cap) [.ts 2 (zz.zh ((l.filter fun x=>!p x)++J')),.vs 1 [[.fn k [.ptr 2 0 0]]],.vs 1 [[.t cell]]]):=by
 have d1:=ky g [.fp [.fn k [.fp [cell]]]] p l (by omega) hp
 have ht:(zz.zh l).take n=zz.zh l:=List.take_of_length_le (by rw[zz.zj];omega)
 cases hf:xU p l 0 with
 | none =>
  rw[hf]at d1
  have hw:=bU p l hf
  refine⟨[],by rw[hw];simp,?_⟩
  rw[hw,List.append_nil,← hn]
  simp only[ixI]at d1
  refine zH Tryz.func143 rfl (by kernel_rfl) ?_
  unfold Tryz.f143
  simp (disch:=((try simp only[LL]);omega)) only[↓GO,↓DRW,GA,GX,ren,zk,za,refs,z8,cst,zr,isC,bin,una,z7,zd,blt,asArg,zg,zc,zf,z6,E.mkS,unN,ze,zm,zb,GS,simprocAttr,zB,zC,yB,yr,yv,yu,yC,gh1,yq,yh,yk,zL,mkO,yf,y8,y9,mvC,unO,zR,yz,yt,yo,zI,yp,yn,zY,oc,oTs,oT,zK,zK.rowTs,yj,isL,E.BX,GZ,d1,wH,ht,beq_self_eq_true,zA]
 | some i =>
  rw[hf]at d1
  obtain⟨pre,x,post,e1,e2,e3,e4⟩:=ru _ l 0 i hf
  simp only[Nat.zero_add]at e2
  have hw:=gi (i:=i) e1 e3 e4
  have hlen:pre.length+1+post.length=l.length:=by have h9:=congrArg List.length e1;simp at h9;omega
  have hmap:Option.map (fun x:Nat=>x) cap=cap:=by cases cap<;>rfl
  obtain⟨J',hJ',L⟩:=Qq g k cell p l hl hp cap n hn post pre [x] (fun y hy=>by rw[e1];simp[hy]) (by simp) (by simpa using hlen)
  rw[show pre++[x]++post=l by rw[e1];simp,show ((pre.length+[x].length:Nat):Int)=(pre.length:Int)+1 by simp,e2]at L
  have c0:((i:Int)==-1)=false:=by rw[beq_eq_false_iff_ne];omega
  have hwl:(l.filter fun x=>!p x).length≤n:=by rw[hn];exact List.length_filter_le _ _
  rw[← hw]at L hJ'
  generalize (l.filter fun x=>!p x)=Z at *
  have htk:(zz.zh (Z++J')).take Z.length=zz.zh Z:=by rw[ic,← zz.zj Z];simp
  have hdk:(zz.zh (Z++J')).drop (Z.length+(n - Z.length))=[]:=List.drop_of_length_le (by rw[zz.zj,List.length_append];omega)
  have hEl:(zz.zh (Z++J')).length=n:=by rw[zz.zj,List.length_append,hn];exact hJ'
  have hrp:zz.zh Z++List.replicate (n - Z.length) [.str [],.str []]=zz.zh (Z++List.replicate (n - Z.length) ⟨[],[]⟩):=by simp[zz.zh,zz.enc]
  refine⟨List.replicate (n - Z.length) ⟨[],[]⟩,by rw[List.length_replicate];omega,?_⟩
  rw[← hrp]
  have hil:i≤1048576:=by omega
  have hnl:n≤1048576:=by omega
  simp only[ixI]at d1
  clear hw hJ' hrp e1 hf e4 e3 hlen hp
  generalize zz.zh (Z++J')=E1 at *
  have c1:Z.length+(n - Z.length)≤n:=by omega
  refine zH Tryz.func143 rfl (by kernel_rfl) ?_
  unfold Tryz.f143
  simp (disch:=((try simp only[LL]);omega)) only[↓GO,↓DRW,GA,GX,ren,zk,za,refs,z8,cst,zr,isC,bin,una,z7,zd,blt,asArg,zg,zc,zf,z6,E.mkS,unN,ze,zm,zb,GS,simprocAttr,zB,zC,yB,yr,yv,yu,yC,gh1,yq,yh,yk,zL,mkO,yf,y8,y9,mvC,unO,zR,yz,yt,yo,zI,yp,yn,zY,oc,oTs,oT,zK,zK.rowTs,yj,isL,E.BX,GZ,d1,wH,ht,c0,L,hEl,htk,hdk,zq,List.append_nil,zA,Nat.zero_add,Nat.sub_zero,c1,and_self,if_true,List.append_assoc,hmap]
theorem TR (k:Str)(hl:k.length≤4611686018427387904):zu (EV Tryz.prog pol) 55 [.t (.str k)]=some (.t (.str (uj k).1)):=by
 have d1:=c_skI k hl
 apply zx
 refine zy rfl Tryz.func55 rfl (by kernel_rfl) ?_
 unfold Tryz.f55
 simp (disch:=((try simp only[LL]);omega)) only[↓GO,↓DRW,GA,GX,ren,zk,za,refs,z8,cst,zr,isC,bin,una,z7,zd,blt,asArg,zg,zc,zf,z6,E.mkS,unN,ze,zm,zb,GS,simprocAttr,GZ,d1,zA]
theorem N9 (k:Str)(hl:k.length≤4611686018427387904):zu (EV Tryz.prog pol) 54 (.t (.str k)::[])=some (.t (.bool (rootKey k))):=by
 have d1:=TR k hl
 unfold rootKey x7
 apply zx
 refine zy rfl Tryz.func54 rfl (by kernel_rfl) ?_
 unfold Tryz.f54
 simp (disch:=((try simp only[LL]);omega)) only[↓GO,↓DRW,GA,GX,ren,zk,za,refs,z8,cst,zr,isC,bin,una,z7,zd,blt,asArg,zg,zc,zf,z6,E.mkS,unN,ze,zm,zb,GS,simprocAttr,GZ,d1,zA]
theorem c_pj2 (x:z1):zu (EV Tryz.prog pol) 58 (.agg (x.enc.map .t)::[])=some (.t (.bool (x.name==x7))):=by
 obtain⟨name,version,source,sums,dev,zn⟩:=x
 simp only[z1.enc,List.map_cons,List.map_nil,x7]
 apply zx
 refine zy rfl Tryz.func58 rfl (by kernel_rfl) ?_
 unfold Tryz.f58
 simp (disch:=((try simp only[LL]);omega)) only[↓GO,↓DRW,GA,GX,ren,zk,za,refs,z8,cst,zr,isC,bin,una,z7,zd,blt,asArg,zg,zc,zf,z6,E.mkS,unN,ze,zm,zb,GS,simprocAttr,GZ,zA]
theorem c_hs1 (a:Str)(s:zz):zu (EV Tryz.prog pol) 142 (.agg (s.enc.map .t)::[.t (.fp [.str a])])=some (.t (.bool (s.alg==a))):=by
 obtain⟨alg,bytes⟩:=s
 simp only[zz.enc,List.map_cons,List.map_nil]
 apply zx
 refine zy rfl Tryz.func142 rfl (by kernel_rfl) ?_
 unfold Tryz.f142
 simp (disch:=((try simp only[LL]);omega)) only[↓GO,↓DRW,GA,GX,ren,zk,za,refs,z8,cst,zr,isC,bin,una,z7,zd,blt,asArg,zg,zc,zf,z6,E.mkS,unN,ze,zm,zb,GS,simprocAttr,GZ,zA]
theorem Md (x:z1)(hb:x.y6≤1048576)(a:Str):zu (EV Tryz.prog pol) 60 [.agg (x.enc.map .t),.t (.str a)]=some (.t (.bool (x8 a x))):=by
 have d1:=Zv 142 [.fp [.str a]] (fun s=>s.alg==a) x.sums (by unfold z1.y6 at hb;omega) fun s _=>c_hs1 a s
 unfold x8
 generalize (x.sums.any fun s=>s.alg==a)=b at *
 obtain⟨name,version,source,sums,dev,zn⟩:=x
 simp only[z1.enc,List.map_cons,List.map_nil]at d1 ⊢
 apply zx
 refine zy rfl Tryz.func60 rfl (by kernel_rfl) ?_
 unfold Tryz.f60
 simp (disch:=((try simp only[LL]);omega)) only[↓GO,↓DRW,GA,GX,ren,zk,za,refs,z8,cst,zr,isC,bin,una,z7,zd,blt,asArg,zg,zc,zf,z6,E.mkS,unN,ze,zm,zb,GS,simprocAttr,GZ,d1,wH,zA]
theorem c_pj3 (x:z1)(hb:x.y6≤1048576):zu (EV Tryz.prog pol) 59 (.agg (x.enc.map .t)::[])=some (.t (.bool (!x8 sH1 x))):=by
 have d1:=Md x hb sH1
 obtain⟨name,version,source,sums,dev,zn⟩:=x
 simp only[z1.enc,List.map_cons,List.map_nil,sH1]at d1 ⊢
 apply zx
 refine zy rfl Tryz.func59 rfl (by kernel_rfl) ?_
 unfold Tryz.f59
 simp (disch:=((try simp only[LL]);omega)) only[↓GO,↓DRW,GA,GX,ren,zk,za,refs,z8,cst,zr,isC,bin,una,z7,zd,blt,asArg,zg,zc,zf,z6,E.mkS,unN,ze,zm,zb,GS,simprocAttr,GZ,d1,zA]
theorem c_pj4 (p x:z1):zu (EV Tryz.prog pol) 62 (.agg (x.enc.map .t)::[.t (.fp p.enc)])=some (.t (.bool (xB p x))):=by
 unfold xB
 obtain⟨name,version,source,sums,dev,zn⟩:=p
 obtain⟨name',version',source',sums',dev',needs'⟩:=x
 simp only[z1.enc,List.map_cons,List.map_nil]
 cases q:(name'==name) with
 | true =>
  apply zx
  refine zy rfl Tryz.func62 rfl (by kernel_rfl) ?_
  unfold Tryz.f62
  simp (disch:=((try simp only[LL]);omega)) only[↓GO,↓DRW,GA,GX,ren,zk,za,refs,z8,cst,zr,isC,bin,una,z7,zd,blt,asArg,zg,zc,zf,z6,E.mkS,unN,ze,zm,zb,GS,simprocAttr,GZ,q,zA]
 | false =>
  apply zx
  refine zy rfl Tryz.func62 rfl (by kernel_rfl) ?_
  unfold Tryz.f62
  simp (disch:=((try simp only[LL]);omega)) only[↓GO,↓DRW,GA,GX,ren,zk,za,refs,z8,cst,zr,isC,bin,una,z7,zd,blt,asArg,zg,zc,zf,z6,E.mkS,unN,ze,zm,zb,GS,simprocAttr,GZ,q,zA]
theorem c_pj5 (f:Int)(hf:vI f)(s:zz):zu (EV Tryz.prog pol) 64 [.t (.str s.alg),.t (.fp [.int .i64 f])]=some (.t (.bool (xF f s))):=by
 obtain⟨alg,bytes⟩:=s
 unfold xF Qy sH1
 rcases hf with rfl | rfl | rfl | rfl | rfl
 all_goals
  simp only[Int.reduceBEq,Bool.or_false,Bool.or_true,Bool.false_or,cond_true,cond_false]
  apply zx
  refine zy rfl Tryz.func64 rfl (by kernel_rfl) ?_
  unfold Tryz.f64
  simp (disch:=((try simp only[LL]);omega)) only[↓GO,↓DRW,GA,GX,ren,zk,za,refs,z8,cst,zr,isC,bin,una,z7,zd,blt,asArg,zg,zc,zf,z6,E.mkS,unN,ze,zm,zb,GS,simprocAttr,GZ,bne,zA]
theorem c_os1 (f:Int)(hf:vI f)(s:zz):zu (EV Tryz.prog pol) 144 (.agg (s.enc.map .t)::[.t (.fp [.fn 64 [.fp [.int .i64 f]]])])=some (.t (.bool (!xF f s))):=by
 have d1:=c_pj5 f hf s
 obtain⟨alg,bytes⟩:=s
 simp only[zz.enc,List.map_cons,List.map_nil]at d1 ⊢
 apply zx
 refine zy rfl Tryz.func144 rfl (by kernel_rfl) ?_
 unfold Tryz.f144
 simp (disch:=((try simp only[LL]);omega)) only[↓GO,↓DRW,GA,GX,ren,zk,za,refs,z8,cst,zr,isC,bin,una,z7,zd,blt,asArg,zg,zc,zf,z6,E.mkS,unN,ze,zm,zb,GS,simprocAttr,GZ,d1,zA]
theorem Pp (f:Int)(l:List zz):(l.filter fun x=>!(!xF f x))=l.filter (xF f):=by
 congr 1
 funext x
 rw[Bool.not_not]
theorem c_osI (f:Int)(hf:vI f)(A B:List (List V))(hA:noR A)(hB:noR B)(i:Nat)(hi:A.length=i)(x:z1)(hb:x.y6≤1048576)(n:Nat)(hn:n=x.sums.length):∃ J,(x.sums.filter (xF f)).length+J.length=x.sums.length ∧
 EV Tryz.prog pol (.callO false 63 [.ptr 0 i 0,.fn 64 [.ptr 1 0 0]] [.vs 6 (A++[.t (.str x.name),.t (.str x.version),.t (.str x.source),.sl 2 0 n none,.t (.bool x.dev),.o (.list 1 (strs x.zn))]::B),.vs 1 [[.t (.int .i64 f)]],.ts 2 (zz.zh x.sums)])
  = some (.call (.tup []) [.vs 6 (A++[.t (.str x.name),.t (.str x.version),.t (.str x.source),.sl 2 0 (x.sums.filter (xF f)).length none,.t (.bool x.dev),.o (.list 1 (strs x.zn))]::B),.vs 1 [[.t (.int .i64 f)]],.ts 2 (zz.zh (x.sums.filter (xF f)++J))]):=by
 obtain⟨J,hJ,d1⟩:=c_dfM 144 64 (.int .i64 f) (fun s=>!xF f s) x.sums (by unfold z1.y6 at hb;omega) (fun s _=>c_os1 f hf s) none n hn
 rw[Pp]at d1 hJ
 refine⟨J,hJ,?_⟩
 obtain⟨hA1,hA2,_⟩:=hA
 obtain⟨hB1,hB2,_⟩:=hB
 have hg:=fun y=>w5 A B y i hi
 have hs:=fun y z=>xH A B y z i hi
 generalize zz.zh (x.sums.filter (xF f)++J)=E1 at *
 generalize (x.sums.filter (xF f)).length=z at *
 obtain⟨name,version,source,sums,dev,zn⟩:=x
 simp only at d1 ⊢
 generalize zz.zh sums=E0 at *
 generalize strs zn=E2 at *
 clear hJ hb hi hn
 refine zH Tryz.func63 rfl (by kernel_rfl) ?_
 unfold Tryz.f63
 simp (disch:=((try simp only[LL]);omega)) only[↓GO,↓DRW,GA,GX,ren,zk,za,refs,z8,cst,zr,isC,bin,una,z7,zd,blt,asArg,zg,zc,zf,z6,E.mkS,unN,ze,zm,zb,GS,simprocAttr,zB,zC,yB,yr,yv,yu,yC,gh1,yq,yh,yk,zL,mkO,yf,y8,y9,mvC,unO,zR,yz,yt,yo,zI,yp,yn,zY,oc,oTs,oT,zK,zK.rowTs,yj,isL,E.BX,GZ,d1,hg,hs,hA1,hA2,hB1,hB2,zA]
set_option maxHeartbeats 4000000 in
theorem ON (f:Int)(tT:List (List T))(nt:Nat)(n:Nat):∀ (rest pre:List z1),n=pre.length+rest.length→n≤1048576→(∀ x∈rest,x.y6≤1048576) →
 EV Tryz.prog pol (.loop 8 62942 0 [.ptr 0 0 0,.ptr 1 0 0,.ptr 2 0 0,.t (.fn 54 []),.sl 3 0 n none,.t (.int .i64 (n:Int)),.t (.int .i64 (pre.length:Int))] [.vs 1 [[.t (.int .i64 f)]],.vs 2 [zG],.vs 2 [[.sl 4 0 nt none,.sl 3 0 n none]],.vs 6 (ocE (z1.zh pre)++ocE (z1.zh rest)),.ts 1 tT])
  = some (.loop (.exit 1) [.ptr 0 0 0,.ptr 1 0 0,.ptr 2 0 0] [.vs 1 [[.t (.int .i64 f)]],.vs 2 [zG],.vs 2 [[.sl 3 0 nt none,.sl 4 0 n none]],.ts 1 tT,.vs 6 (ocE (z1.zh (pre++rest.map yT)))])
 | [],pre,hn,hM,hb=>by
  have c:decide ((pre.length:Int)<(n:Int))=false:=by simp at hn;apply decide_eq_false;omega
  obtain⟨h1,h2,_⟩:=yD pre
  rw[List.map_nil,List.append_nil,show ocE (z1.zh [])=[] from rfl,List.append_nil]
  generalize ocE (z1.zh pre)=E0 at *
  simp only[zG]
  refine zo Tryz.func8 rfl rfl ?_
  simp (disch:=((try simp only[LL]);omega)) only[↓GO,↓DRW,GA,GX,ren,zk,za,refs,z8,cst,zr,isC,bin,una,z7,zd,blt,asArg,zg,zc,zf,z6,E.mkS,unN,ze,zm,zb,GS,simprocAttr,zB,zC,yB,yr,yv,yu,yC,gh1,yq,yh,yk,zL,mkO,yf,y8,y9,mvC,unO,zR,yz,yt,yo,zI,yp,yn,zY,oc,oTs,oT,zK,zK.rowTs,yj,isL,E.BX,GZ,c,h1,h2,zA]
 | x::rest,pre,hn,hM,hb=>by
  simp only[List.length_cons]at hn
  have c:decide ((pre.length:Int)<(n:Int))=true:=by apply decide_eq_true;omega
  have c0:decide ((0:Int)≤(pre.length:Int))=true:=by apply decide_eq_true;omega
  have c00:(0:Int)≤(pre.length:Int):=by omega
  have hpl:pre.length≤1048576:=by omega
  have hPl:(ocE (z1.zh pre)).length=pre.length:=by rw[zS,z1.zj]
  have IH:=ON f tT nt n rest (pre++[yT x]) (by simp;omega) hM (fun y hy=>hb y (by simp[hy]))
  rw[we,show ocE (z1.zh [yT x])=[[V.t (.str x.name),.t (.str x.version),.t (.str x.source),.o (.list 2 (zz.zh x.sums)),.t (.bool x.dev),.o (.list 1 (strs (x.zn.filter fun k=>!rootKey k)))]] from rfl,show ((pre++[yT x]).length:Int)=(pre.length:Int)+1 by simp,List.append_assoc,List.singleton_append,List.append_assoc,List.singleton_append]at IH
  rw[fx,List.map_cons]
  have hxb:=hb x (by simp)
  have hnl:x.zn.length≤1048576:=by unfold z1.y6 at hxb;omega
  obtain⟨J,hJ,d1⟩:=Q2 54 rootKey x.zn hnl (fun k hk=>N9 k (by have:=pF hk;unfold z1.y6 at hxb;omega)) none x.zn.length rfl
  obtain⟨hA1,hA2,_⟩:=yD pre
  obtain⟨hB1,hB2,_⟩:=yD rest
  have hg:=fun y=>w5 (ocE (z1.zh pre)) (ocE (z1.zh rest)) y pre.length hPl
  have hs:=fun y z=>xH (ocE (z1.zh pre)) (ocE (z1.zh rest)) y z pre.length hPl
  have hf2:=yb x.zn
  have hs2:=zi x.zn
  have hk2:(strs x.zn).take x.zn.length=strs x.zn:=List.take_of_length_le (by rw[hs2];exact Nat.le_refl _)
  generalize (x.zn.filter fun k=>!rootKey k)=Z at *
  have hE:(strs (Z++J)).take Z.length=strs Z:=by rw[show strs (Z++J)=strs Z++strs J by simp[strs],← zi Z];simp
  have hEf:=yb Z
  have hEf1:=yb (Z++J)
  have hEl:(strs (Z++J)).length=Z.length+J.length:=by rw[zi,List.length_append]
  have hZl:Z.length≤(strs (Z++J)).length:=by omega
  obtain⟨name,version,source,sums,dev,zn⟩:=x
  simp only at IH d1 hf2 hs2 hk2 hnl hJ ⊢
  generalize ocE (z1.zh (pre++yT (z1.mk name version source sums dev zn)::rest.map yT))=R at *
  generalize ocE (z1.zh pre)=P at *
  generalize ocE (z1.zh rest)=B at *
  generalize zz.zh sums=es1 at *
  clear hb hxb hPl hn
  simp only[zG]at IH ⊢
  by_cases hq:(strs (Z++J)).length=Z.length
  · have hJ0 : J = [] := List.eq_nil_of_length_eq_zero (by omega)
    subst hJ0
    rw[List.append_nil]at *
    generalize strs Z=E1 at *
    generalize strs zn=E2 at *
    generalize pre.length=kl at *
    refine zo Tryz.func8 rfl rfl ?_
    simp (maxSteps:=1000000) (disch:=((try simp only[LL]);omega)) only[↓GO,↓DRW,GA,GX,ren,zk,za,refs,z8,cst,zr,isC,bin,una,z7,zd,blt,asArg,zg,zc,zf,z6,E.mkS,unN,ze,zm,zb,GS,simprocAttr,zB,zC,yB,yr,yv,yu,yC,gh1,yq,yh,yk,zL,mkO,yf,y8,y9,mvC,unO,zR,yz,yt,yo,zI,yp,yn,zY,oc,oTs,oT,zK,zK.rowTs,yj,isL,E.BX,GZ,c,c0,c00,if_true,Int.toNat_natCast,hg,hs,hf2,hs2,hk2,d1,hA1,hA2,hB1,hB2,hEf,hq,zq,zA,IH]
    all_goals (refine zU (by kernel_rfl) ?_;rfl)
  · have hq' : ((strs (Z ++ J)).length = Z.length) = False := eq_false hq
    generalize strs (Z++J)=E0 at *
    generalize strs Z=E1 at *
    generalize strs zn=E2 at *
    generalize pre.length=kl at *
    refine zo Tryz.func8 rfl rfl ?_
    simp (maxSteps:=1000000) (disch:=((try simp only[LL]);omega)) only[↓GO,↓DRW,GA,GX,ren,zk,za,refs,z8,cst,zr,isC,bin,una,z7,zd,blt,asArg,zg,zc,zf,z6,E.mkS,unN,ze,zm,zb,GS,simprocAttr,zB,zC,yB,yr,yv,yu,yC,gh1,yq,yh,yk,zL,mkO,yf,y8,y9,mvC,unO,zR,yz,yt,yo,zI,yp,yn,zY,oc,oTs,oT,zK,zK.rowTs,yj,isL,E.BX,GZ,c,c0,c00,if_true,Int.toNat_natCast,hg,hs,hf2,hs2,hk2,d1,hA1,hA2,hB1,hB2,hEf,hE,hq',hZl,false_and,if_false,zq,zA,IH]
    all_goals (refine zU (by kernel_rfl) ?_;rfl)
set_option maxHeartbeats 4000000 in
theorem fA (f:Int)(hf:vI f)(tT:List (List T))(nt:Nat)(n:Nat):∀ (rest pre:List z1),n=pre.length+rest.length→n≤1048576→(∀ x∈rest,x.y6≤1048576) →
 EV Tryz.prog pol (.loop 8 506 0 [.ptr 0 0 0,.ptr 1 0 0,.ptr 2 0 0,.t (.int .i64 (n:Int)),.t (.int .i64 (pre.length:Int))] [.vs 1 [[.t (.int .i64 f)]],.vs 2 [zG],.vs 2 [[.sl 3 0 nt none,.sl 4 0 n none]],.ts 1 tT,.vs 6 (ocE (z1.zh pre)++ocE (z1.zh rest))])
  = some (.loop (.exit 5) [.ptr 0 0 0,.ptr 1 0 0] [.vs 2 [zG],.vs 2 [[.sl 2 0 nt none,.sl 3 0 n none]],.ts 1 tT,.vs 6 (ocE (z1.zh (pre++rest.map (zM f))))])
 | [],pre,hn,hM,hb=>by
  have c:decide ((pre.length:Int)<(n:Int))=false:=by simp at hn;apply decide_eq_false;omega
  obtain⟨h1,h2,_⟩:=yD pre
  rw[List.map_nil,List.append_nil,show ocE (z1.zh [])=[] from rfl,List.append_nil]
  generalize ocE (z1.zh pre)=E0 at *
  simp only[zG]
  refine zo Tryz.func8 rfl rfl ?_
  simp (disch:=((try simp only[LL]);omega)) only[↓GO,↓DRW,GA,GX,ren,zk,za,refs,z8,cst,zr,isC,bin,una,z7,zd,blt,asArg,zg,zc,zf,z6,E.mkS,unN,ze,zm,zb,GS,simprocAttr,zB,zC,yB,yr,yv,yu,yC,gh1,yq,yh,yk,zL,mkO,yf,y8,y9,mvC,unO,zR,yz,yt,yo,zI,yp,yn,zY,oc,oTs,oT,zK,zK.rowTs,yj,isL,E.BX,GZ,c,h1,h2,zA]
 | x :: rest, pre, hn, hM, hb => by
  simp only[List.length_cons]at hn
  have c:decide ((pre.length:Int)<(n:Int))=true:=by apply decide_eq_true;omega
  have c0:decide ((0:Int)≤(pre.length:Int))=true:=by apply decide_eq_true;omega
  have c00:(0:Int)≤(pre.length:Int):=by omega
  have hpl:pre.length≤1048576:=by omega
  have hPl:(ocE (z1.zh pre)).length=pre.length:=by rw[zS,z1.zj]
  have IH:=fA f hf tT nt n rest (pre++[zM f x]) (by simp;omega) hM (fun y hy=>hb y (by simp[hy]))
  rw[we,show ocE (z1.zh [zM f x])=[[V.t (.str x.name),.t (.str x.version),.t (.str (zM f x).source),.o (.list 2 (zz.zh (x.sums.filter (xF f)))),.t (.bool (zM f x).dev),.o (.list 1 (strs (zM f x).zn))]] from rfl,show ((pre++[zM f x]).length:Int)=(pre.length:Int)+1 by simp,List.append_assoc,List.singleton_append,List.append_assoc,List.singleton_append]at IH
  rw[fx,List.map_cons]
  have hxb:=hb x (by simp)
  obtain⟨J,hJ,d1⟩:=c_osI f hf _ _ (yD pre) (yD rest) pre.length hPl x hxb x.sums.length rfl
  obtain⟨hA1,hA2,_⟩:=yD pre
  obtain⟨hB1,hB2,_⟩:=yD rest
  have hg:=fun y=>w5 (ocE (z1.zh pre)) (ocE (z1.zh rest)) y pre.length hPl
  have hs:=fun y z=>xH (ocE (z1.zh pre)) (ocE (z1.zh rest)) y z pre.length hPl
  have hf2:=x6 x.sums
  have hs2:=zz.zj x.sums
  have hk2:(zz.zh x.sums).take x.sums.length=zz.zh x.sums:=List.take_of_length_le (by rw[hs2];exact Nat.le_refl _)
  have hp1:(zM f x).source=cond (f==3||f==4) [] x.source:=rfl
  have hp2:(zM f x).dev=cond (f==1||f==2||f==3) false x.dev:=rfl
  have hp3:(zM f x).zn=cond (f==3||f==4) [] x.zn:=rfl
  rw[hp1,hp2,hp3]at IH
  generalize (x.sums.filter (xF f))=Z at *
  have hE:(zz.zh (Z++J)).take Z.length=zz.zh Z:=by rw[ic,← zz.zj Z];simp
  have hEf:=x6 Z
  have hEl:(zz.zh (Z++J)).length=Z.length+J.length:=by rw[zz.zj,List.length_append]
  have hZl:Z.length≤(zz.zh (Z++J)).length:=by omega
  generalize ocE (z1.zh (pre++zM f x::rest.map (zM f)))=R at *
  obtain⟨name,version,source,sums,dev,zn⟩:=x
  simp only at IH d1 hf2 hs2 hk2 hJ ⊢
  generalize ocE (z1.zh pre)=P at *
  generalize ocE (z1.zh rest)=B at *
  clear hb hxb hPl hn hp1 hp2 hp3
  simp only[zG]at IH ⊢
  have hq:(zz.zh (Z++J)).length=Z.length∧zz.zh (Z++J)=zz.zh Z∨((zz.zh (Z++J)).length=Z.length)=False:=by
   by_cases hq:(zz.zh (Z++J)).length=Z.length
   · refine .inl ⟨hq, ?_⟩
     rw[List.eq_nil_of_length_eq_zero (show J.length=0 by omega),List.append_nil]
   · exact .inr (eq_false hq)
  generalize zz.zh (Z++J)=E0 at *
  generalize zz.zh Z=E1 at *
  generalize zz.zh sums=es1 at *
  generalize pre.length=kl at *
  rcases hf with rfl | rfl | rfl | rfl | rfl<;>rcases hq with⟨hq,rfl⟩ | hq<;>simp only[Int.reduceBEq,Bool.or_false,Bool.or_true,Bool.false_or,cond_true,cond_false,show strs []=[] from rfl]at IH
  all_goals
   refine zo Tryz.func8 rfl rfl ?_
   simp (maxSteps:=1000000) (disch:=((try simp only[LL]);omega)) only[↓GO,↓DRW,GA,GX,ren,zk,za,refs,z8,cst,zr,isC,bin,una,z7,zd,blt,asArg,zg,zc,zf,z6,E.mkS,unN,ze,zm,zb,GS,simprocAttr,zB,zC,yB,yr,yv,yu,yC,gh1,yq,yh,yk,zL,mkO,yf,y8,y9,mvC,unO,zR,yz,yt,yo,zI,yp,yn,zY,oc,oTs,oT,zK,zK.rowTs,yj,isL,E.BX,GZ,c,c0,c00,if_true,Int.toNat_natCast,hg,hs,hf2,hs2,hk2,d1,hA1,hA2,hB1,hB2,hEf,hE,hq,hZl,false_and,if_false,and_self,bne,Bool.not_true,Bool.not_false,zq,zA,IH]
set_option maxHeartbeats 4000000 in
theorem Qk (f:Int)(tT:List (List T))(nt:Nat)(cs:List z1):∀ (rest acc:List z1) (G:List (List V)) (cap:Option Nat),noR G→G.length+rest.length=cs.length→cs.length≤1048576→acc.length≤G.length→∃ G' cap',noR G' ∧
 EV Tryz.prog pol (.loop 8 503786 0 [.ptr 0 0 0,.ptr 1 0 0,.ptr 2 0 0,.sl 3 0 acc.length cap,.sl 4 0 cs.length none,.t (.int .i64 (cs.length:Int)),.t (.int .i64 (G.length:Int))] [.vs 1 [[.t (.int .i64 f)]],.vs 2 [zG],.vs 2 [[.sl 5 0 nt none,.sl 4 0 cs.length none]],.vs 6 (ocE (z1.zh acc)),.vs 6 (G++ocE (z1.zh rest)),.ts 1 tT])
  = some (.loop (.exit 3) [.ptr 0 0 0,.ptr 1 0 0,.ptr 2 0 0,.sl 3 0 (xS acc rest).length cap'] [.vs 1 [[.t (.int .i64 f)]],.vs 2 [zG],.vs 2 [[.sl 4 0 nt none,.sl 5 0 cs.length none]],.vs 6 (ocE (z1.zh (xS acc rest))),.ts 1 tT,.vs 6 G'])
 | [],acc,G,cap,hG,hn,hM,hag=>by
  have c:decide ((G.length:Int)<(cs.length:Int))=false:=by simp at hn;apply decide_eq_false;omega
  refine⟨G,cap,hG,?_⟩
  obtain⟨h1,h2,_⟩:=hG
  obtain⟨h3,h4,_⟩:=yD acc
  rw[show ocE (z1.zh [])=[] from rfl,List.append_nil,xS]
  generalize ocE (z1.zh acc)=E0 at *
  generalize G.length=gl at *
  simp only[zG]
  refine zo Tryz.func8 rfl rfl ?_
  simp (disch:=((try simp only[LL]);omega)) only[↓GO,↓DRW,GA,GX,ren,zk,za,refs,z8,cst,zr,isC,bin,una,z7,zd,blt,asArg,zg,zc,zf,z6,E.mkS,unN,ze,zm,zb,GS,simprocAttr,zB,zC,yB,yr,yv,yu,yC,gh1,yq,yh,yk,zL,mkO,yf,y8,y9,mvC,unO,zR,yz,yt,yo,zI,yp,yn,zY,oc,oTs,oT,zK,zK.rowTs,yj,isL,E.BX,GZ,c,h1,h2,h3,h4,zA]
 | x :: rest, acc, G, cap, hG, hn, hM, hag => by
  simp only[List.length_cons]at hn
  have c:decide ((G.length:Int)<(cs.length:Int))=true:=by apply decide_eq_true;omega
  have c0:decide ((0:Int)≤(G.length:Int))=true:=by apply decide_eq_true;omega
  have c00:(0:Int)≤(G.length:Int):=by omega
  have hgl:G.length≤1048576:=by omega
  have d1:=dC 62 [.fp x.enc] (xB x) acc (by omega) (fun y _=>c_pj4 x y)
  have hAl:(ocE (z1.zh acc)).length=acc.length:=by rw[zS,z1.zj]
  have hAt:(ocE (z1.zh acc)).take acc.length=ocE (z1.zh acc):=List.take_of_length_le (by omega)
  have hAf:=uQ acc
  have hsn:=fun h=>vh h (z1.zh acc)
  rw[fx,xS]
  obtain⟨hA1,hA2,_⟩:=yD acc
  obtain⟨hB1,hB2,_⟩:=yD rest
  have hg:=fun y=>w5 G (ocE (z1.zh rest)) y G.length rfl
  have hs:=fun y z=>xH G (ocE (z1.zh rest)) y z G.length rfl
  have hf1:=x6 x.sums
  have hf2:=yb x.zn
  have hs1:=zz.zj x.sums
  have hs2:=zi x.zn
  have hk1:(zz.zh x.sums).take x.sums.length=zz.zh x.sums:=List.take_of_length_le (by omega)
  have hk2:(strs x.zn).take x.zn.length=strs x.zn:=List.take_of_length_le (by omega)
  cases q:acc.any (xB x) with
  | true =>
   rw[q]at d1
   obtain⟨G',cap',hG',IH⟩:=Qk f tT nt cs rest acc (G++[fgP x]) cap (xQ hG (nX x)) (by simp;omega) hM (by simp;omega)
   rw[show ((G++[fgP x]).length:Int)=(G.length:Int)+1 by simp,List.append_assoc,List.singleton_append]at IH
   refine⟨G',cap',hG',?_⟩
   rw[cond_true]
   obtain⟨a0,y,rfl⟩:∃ a0 y,acc=a0++[y]:=by
    rcases wI acc with rfl | ⟨a0,y,rfl⟩
    · cases q
    · exact⟨a0,y,rfl⟩
   have hlast:(ocE (z1.zh (a0++[y])))[(a0++[y]).length - 1]? = some (y.enc.map oc):=by
    rw[we]
    simp[zS,z1.zj,ocE,z1.zh]
   have hl0:((a0++[y]).length=0)=False:=by simp
   obtain⟨hG1,hG2,_⟩:=hG
   generalize ocE (z1.zh (xS (a0++[y]) rest))=R at *
   generalize (xS (a0++[y]) rest).length=rl at *
   generalize ocE (z1.zh (a0++[y]))=P at *
   generalize (a0++[y]).length=al at *
   generalize ocE (z1.zh rest)=B at *
   obtain⟨name,version,source,sums,dev,zn⟩:=x
   obtain⟨name',version',source',sums',dev',needs'⟩:=y
   simp only[fgP,z1.enc,List.map_cons,List.map_nil,zG,oc]at d1 IH hf1 hf2 hs1 hs2 hk1 hk2 hlast ⊢
   generalize zz.zh sums=es1 at *
   generalize strs zn=es2 at *
   clear hn
   generalize G.length=gl at *
   refine zo Tryz.func8 rfl rfl ?_
   simp (maxSteps:=1000000) (disch:=((try simp only[LL]);omega)) only[↓GO,↓DRW,GA,GX,ren,zk,za,refs,z8,cst,zr,isC,bin,una,z7,zd,blt,asArg,zg,zc,zf,z6,E.mkS,unN,ze,zm,zb,GS,simprocAttr,zB,zC,yB,yr,yv,yu,yC,gh1,yq,yh,yk,zL,mkO,yf,y8,y9,mvC,unO,zR,yz,yt,yo,zI,yp,yn,zY,oc,oTs,oT,zK,zK.rowTs,yj,isL,E.BX,GZ,c,c0,c00,if_true,if_false,Int.toNat_natCast,Nat.zero_add,hg,hs,hf1,hf2,hs1,hs2,hk1,hk2,d1,hA1,hA2,hB1,hB2,hG1,hG2,hAt,hAf,hlast,hl0,hsn,wH,Bool.not_true,zq,zA,IH]
  | false =>
   rw[q]at d1
   obtain⟨G',cap',hG',IH⟩:=Qk f tT nt cs rest (acc++[x]) (G++[fgP x]) none (xQ hG (nX x)) (by simp;omega) hM (by simp;omega)
   rw[show ((G++[fgP x]).length:Int)=(G.length:Int)+1 by simp,List.append_assoc,List.singleton_append,we,show ocE (z1.zh [x])=[[V.t (.str x.name),.t (.str x.version),.t (.str x.source),.o (.list 2 (zz.zh x.sums)),.t (.bool x.dev),.o (.list 1 (strs x.zn))]] from rfl,List.length_append,List.length_singleton]at IH
   refine⟨G',cap',hG',?_⟩
   rw[cond_false]
   obtain⟨hG1,hG2,_⟩:=hG
   have hlg:=fun y=>w5 (ocE (z1.zh acc)) [] y acc.length hAl
   have hls:=fun y z=>xH (ocE (z1.zh acc)) [] y z acc.length hAl
   have hal1:acc.length+1 - 1=acc.length:=by omega
   have hal0:(acc.length+1=0)=False:=by simp
   have hle:∀ y:List V,(ocE (z1.zh acc)++[y]).length=acc.length+1:=fun y=>by simp[hAl]
   have haM:acc.length≤1048576:=by omega
   generalize ocE (z1.zh (xS (acc++[x]) rest))=R at *
   generalize (xS (acc++[x]) rest).length=rl at *
   generalize ocE (z1.zh acc)=P at *
   generalize acc.length=al at *
   generalize ocE (z1.zh rest)=B at *
   obtain⟨name,version,source,sums,dev,zn⟩:=x
   simp only[fgP,z1.enc,List.map_cons,List.map_nil,zG]at d1 IH hf1 hf2 hs1 hs2 hk1 hk2 ⊢
   generalize zz.zh sums=es1 at *
   generalize strs zn=es2 at *
   clear hn hag
   generalize G.length=gl at *
   refine zo Tryz.func8 rfl rfl ?_
   simp (maxSteps:=1000000) (disch:=((try simp only[LL]);omega)) only[↓GO,↓DRW,GA,GX,ren,zk,za,refs,z8,cst,zr,isC,bin,una,z7,zd,blt,asArg,zg,zc,zf,z6,E.mkS,unN,ze,zm,zb,GS,simprocAttr,zB,zC,yB,yr,yv,yu,yC,gh1,yq,yh,yk,zL,mkO,yf,y8,y9,mvC,unO,zR,yz,yt,yo,zI,yp,yn,zY,oc,oTs,oT,zK,zK.rowTs,yj,isL,E.BX,GZ,c,c0,c00,if_true,if_false,Int.toNat_natCast,Nat.zero_add,hg,hs,hf1,hf2,hs1,hs2,hk1,hk2,d1,hA1,hA2,hB1,hB2,hG1,hG2,hAt,hAf,hAl,hlg,hls,hal1,hal0,hle,hsn,wH,Bool.not_false,zq,zA,IH,ya]
def yF (f:Int)(g:zw):zw:=cond (xt f&&zO g) (xn f g) g
def jy (top:List Str)(cs:List z1)(v:V)(hs:Heap):Prop :=
 EV Tryz.prog pol (.callO false 51 [.agg [.t (.list 1 (strs top)),.t (.list 6 (z1.zh cs))]] [])=some (.call (.agg [.sl 0 0 top.length none,v]) (.ts 1 (strs top)::hs))
theorem rO (top:List Str)(cs:List z1)(hkl:top.length≤1048576)(hl:cs.length≤1048576)(hb:∀ c∈cs,c.y6≤1048576):(jy top cs (.nil 6) []∧cs=[])∨jy top cs (.sl 1 0 cs.length none) [.vs 6 (ocE (z1.zh cs))]:=by
 cases cs with
 | nil=>exact .inl ⟨kz top hkl,rfl⟩
 | cons x r=>exact .inr (mQ top x r hkl hl hb)
theorem P0 (top:List Str)(cs:List z1)(hB:GB ⟨top,cs⟩)(ho:zO ⟨top,cs⟩=true) :
 EV Tryz.prog pol (.callO false 53 [.agg [.t (.list 1 (strs top)),.t (.list 6 (z1.zh cs))]] [])=some (.call (.agg [.sl 0 0 top.length none,.sl 1 0 (yL (zV cs top) cs).length none]) [.ts 1 (strs top),.vs 6 (ocE (z1.zh (yL (zV cs top) cs)))]):=by
 cases cs with
 | nil=>exact Vn top hB ho
 | cons x r=>exact Zq top x r hB ho
def PjI (f:Int)(g:zw):Prop :=
 EV Tryz.prog pol (.callO false 8 [.t (.int .i64 f),.agg [.t (.list 1 (strs g.top)),.t (.list 6 (z1.zh g.packs))]] [])=some (.call (.agg [.sl 0 0 (yF f g).top.length none,.sl 1 0 (yF f g).packs.length none]) [.ts 1 (strs (yF f g).top),.vs 6 (ocE (z1.zh (yF f g).packs))])
set_option maxHeartbeats 4000000 in
theorem TQ (f:Int)(top:List Str)(cs:List z1)(hB:GB ⟨top,cs⟩)(h:(xt f&&zO ⟨top,cs⟩)=false):PjI f ⟨top,cs⟩:=by
 have hb:=hB.len
 simp only at hb
 have hcp:=rO top cs (by omega) (by omega) hb.2.2
 have d0:=wO f 0 4
 rw[show B2 f 0 4=xt f from rfl]at d0
 have d1:=tg _ hB
 have e:yF f ⟨top,cs⟩=⟨top,cs⟩:=by unfold yF;rw[h];rfl
 unfold PjI
 rw[e]
 have hot:vT (ocE (z1.zh cs))=some (z1.zh cs):=uW cs
 have hoc:(z1.zh cs).map (fun e=>e.map oc)=ocE (z1.zh cs):=rfl
 simp only[zw.enc,List.map_cons,List.map_nil]at d1 ⊢
 clear hB hb e
 unfold jy at hcp
 cases q:xt f with
 | false =>
  rw[q]at d0
  rcases hcp with⟨hcp,rfl⟩ | hcp
  all_goals
   try simp only[show z1.zh []=[] from rfl,show ocE []=[] from rfl,List.length_nil]at *
   refine zH Tryz.func8 rfl (by kernel_rfl) ?_
   unfold Tryz.f8
   simp (disch:=((try simp only[LL]);omega)) only[↓GO,↓DRW,GA,GX,ren,zk,za,refs,z8,cst,zr,isC,bin,una,z7,zd,blt,asArg,zg,zc,zf,z6,E.mkS,unN,ze,zm,zb,GS,simprocAttr,zB,zC,yB,yr,yv,yu,yC,gh1,yq,yh,yk,zL,mkO,yf,y8,y9,mvC,unO,zR,yz,yt,yo,zI,yp,yn,zY,oc,oTs,oT,zK,zK.rowTs,yj,isL,E.BX,GZ,hcp,d0,hot,hoc,yJ,yc,zS,z1.zj,List.drop_zero,Bool.not_false,vT,zA]
 | true =>
  rw[q,Bool.true_and]at h
  rw[q]at d0
  rw[h]at d1
  rcases hcp with⟨hcp,rfl⟩ | hcp
  all_goals
   try simp only[show z1.zh []=[] from rfl,show ocE []=[] from rfl,List.length_nil]at *
   refine zH Tryz.func8 rfl (by kernel_rfl) ?_
   unfold Tryz.f8
   simp (disch:=((try simp only[LL]);omega)) only[↓GO,↓DRW,GA,GX,ren,zk,za,refs,z8,cst,zr,isC,bin,una,z7,zd,blt,asArg,zg,zc,zf,z6,E.mkS,unN,ze,zm,zb,GS,simprocAttr,zB,zC,yB,yr,yv,yu,yC,gh1,yq,yh,yk,zL,mkO,yf,y8,y9,mvC,unO,zR,yz,yt,yo,zI,yp,yn,zY,oc,oTs,oT,zK,zK.rowTs,yj,isL,E.BX,GZ,hcp,d0,d1,hot,hoc,yJ,yc,zS,z1.zj,List.drop_zero,false_and,if_false,Bool.not_false,Bool.not_true,vT,zA]
theorem TB (p:z1→Bool)(l:List z1):(l.filter fun x=>!(!p x))=l.filter p:=by
 congr 1
 funext x
 rw[Bool.not_not]
theorem rowX {Z:List z1}{J:List (List V)}:((ocE (z1.zh Z)++J).length=Z.length∧ocE (z1.zh Z)++J=ocE (z1.zh Z))∨((ocE (z1.zh Z)++J).length=Z.length)=False:=by
 by_cases hq:(ocE (z1.zh Z)++J).length=Z.length
 · refine .inl ⟨hq, ?_⟩
   rw[List.length_append,zS,z1.zj]at hq
   rw[List.eq_nil_of_length_eq_zero (show J.length=0 by omega),List.append_nil]
 · exact .inr (eq_false hq)
theorem rowXs {Z J:List Str}:((strs (Z++J)).length=Z.length∧strs (Z++J)=strs Z)∨((strs (Z++J)).length=Z.length)=False:=by
 by_cases hq:(strs (Z++J)).length=Z.length
 · refine .inl ⟨hq, ?_⟩
   rw[zi,List.length_append]at hq
   rw[List.eq_nil_of_length_eq_zero (show J.length=0 by omega),List.append_nil]
 · exact .inr (eq_false hq)
theorem Zf (ks:List Str)(cs:List z1):(yL ks cs).length≤cs.length:=List.length_filter_le _ _
theorem V6 (ks:List Str)(cs:List z1):∀ x∈yL ks cs,x∈cs:=fun x hx=>(List.mem_filter.1 hx).1
set_option maxHeartbeats 8000000 in
theorem aj (f:Int)(hf:f=0∨f=1)(top:List Str)(cs:List z1)(hB:GB ⟨top,cs⟩)(ho:zO ⟨top,cs⟩=true):PjI f ⟨top,cs⟩:=by
 have hb:=hB.len
 simp only at hb
 have hcp:=rO top cs (by omega) (by omega) hb.2.2
 have hfo:vI f:=by unfold vI;omega
 have hfi:xt f=true:=by rcases hf with rfl | rfl<;>rfl
 have d0:=wO f 0 4
 rw[show B2 f 0 4=xt f from rfl,hfi]at d0
 have d1:=tg _ hB
 rw[ho]at d1
 have d2:=P0 top cs hB ho
 have e:yF f ⟨top,cs⟩=xn f ⟨top,cs⟩:=by unfold yF;rw[hfi,ho];rfl
 unfold PjI
 rw[e]
 have hot:=uW
 have hoc:∀ l:List z1,(z1.zh l).map (fun e=>e.map oc)=ocE (z1.zh l):=fun _=>rfl
 have L0:=fA 0 (.inl rfl) (strs top) top.length (yL (zV cs top) cs).length (yL (zV cs top) cs) [] (by simp) (by have:=Zf (zV cs top) cs;omega) fun x hx=>hb.2.2 x (V6 _ _ x hx)
 have L1:=fA 1 (.inr (.inl rfl)) [] 0 cs.length cs [] (by simp) (by omega) hb.2.2
 simp only[List.length_nil,Int.natCast_zero,List.nil_append,show z1.zh []=[] from rfl,show ocE []=[] from rfl,zG]at L0 L1
 have f1:=yb top
 simp only[zw.enc,List.map_cons,List.map_nil]at d1 ⊢
 clear hB hb e hfi hfo
 unfold jy at hcp
 rcases hf with rfl | rfl
 · rw [show (xn 0 ⟨top, cs⟩) = ⟨top, (yL (zV cs top) cs).map (zM 0)⟩ from rfl]
   have hZl:((yL (zV cs top) cs).map (zM 0)).length=(yL (zV cs top) cs).length:=by simp
   rcases hcp with⟨hcp,rfl⟩ | hcp
   all_goals
    generalize yL (zV _ top) _=Z at *
    rw[hZl]
    generalize Z.map (zM 0)=Z' at *
    try simp only[show z1.zh []=[] from rfl,show ocE []=[] from rfl,List.length_nil]at hcp d1 d2 ⊢
    refine zH Tryz.func8 rfl (by kernel_rfl) ?_
    unfold Tryz.f8
    simp (maxSteps:=1000000) (disch:=((try simp only[LL]);omega)) only[↓GO,↓DRW,GA,GX,ren,zk,za,refs,z8,cst,zr,isC,bin,una,z7,zd,blt,asArg,zg,zc,zf,z6,E.mkS,unN,ze,zm,zb,GS,simprocAttr,zB,zC,yB,yr,yv,yu,yC,gh1,yq,yh,yk,zL,mkO,yf,y8,y9,mvC,unO,zR,yz,yt,yo,zI,yp,yn,zY,oc,oTs,oT,zK,zK.rowTs,yj,isL,E.BX,GZ,hcp,d0,d1,d2,L0,hot,hoc,f1,zi,yJ,yc,zS,z1.zj,List.drop_zero,false_and,if_false,Bool.not_false,Bool.not_true,vT,zA]
 · rw [show (xn 1 ⟨top, cs⟩) = ⟨[], cs.map (zM 1)⟩ from rfl]
   have hZl:(cs.map (zM 1)).length=cs.length:=by simp
   rw[hZl]
   generalize cs.map (zM 1)=Z' at *
   clear hZl
   rcases hcp with⟨hcp,rfl⟩ | hcp
   all_goals
    try simp only[show z1.zh []=[] from rfl,show ocE []=[] from rfl,show strs []=[] from rfl,List.length_nil,Int.natCast_zero]at hcp d1 L1 ⊢
    refine zH Tryz.func8 rfl (by kernel_rfl) ?_
    unfold Tryz.f8
    simp (maxSteps:=1000000) (disch:=((try simp only[LL]);omega)) only[↓GO,↓DRW,GA,GX,ren,zk,za,refs,z8,cst,zr,isC,bin,una,z7,zd,blt,asArg,zg,zc,zf,z6,E.mkS,unN,ze,zm,zb,GS,simprocAttr,zB,zC,yB,yr,yv,yu,yC,gh1,yq,yh,yk,zL,mkO,yf,y8,y9,mvC,unO,zR,yz,yt,yo,zI,yp,yn,zY,oc,oTs,oT,zK,zK.rowTs,yj,isL,E.BX,GZ,hcp,d0,d1,L1,hot,hoc,f1,zi,yJ,yc,zS,z1.zj,List.drop_zero,false_and,if_false,Bool.not_false,Bool.not_true,vT,uw,List.all_nil,bne,zA]
theorem lB : ∀ (o : Option Str) (l : List zz), wQ o l = true ↔ (∀ s ∈ l, ((s.bytes.length : Int) == uZ s.alg) = true) ∧ (l.Pairwise fun x y => Op.bytesLess x.alg y.alg = true) ∧ ∀ s ∈ l, vA o s.alg = true
 | o,[]=>by simp[wQ]
 | o, s :: r => by
  rw[wQ,Bool.and_eq_true,Bool.and_eq_true,lB (some s.alg) r]
  constructor
  · rintro ⟨⟨h1, h2⟩, h3, h4, h5⟩
    refine⟨fun x hx=>?_,List.pairwise_cons.2 ⟨fun y hy=>h5 y hy,h4⟩,fun x hx=>?_⟩
    · rcases List.mem_cons.1 hx with rfl | hx
      · exact h1
      · exact h3 x hx
    · rcases List.mem_cons.1 hx with rfl | hx
      · exact h2
      · have h6 := h5 x hx
        cases o with
        | none=>rfl
        | some a=>rw[sJ]at h2 h6 ⊢;exact wa h2 h6
  · rintro ⟨h1, h2, h3⟩
    obtain⟨h4,h5⟩:=List.pairwise_cons.1 h2
    exact⟨⟨h1 s (by simp),h3 s (by simp)⟩,fun x hx=>h1 x (by simp[hx]),h5,fun x hx=>h4 x hx⟩
theorem jA (o:Option Str)(q:zz→Bool)(l:List zz)(h:wQ o l=true):wQ o (l.filter q)=true:=by
 rw[lB]at h ⊢
 exact⟨fun s hs=>h.1 s (List.mem_filter.1 hs).1,h.2.1.filter _,fun s hs=>h.2.2 s (List.mem_filter.1 hs).1⟩
theorem cO (f:Int)(p:z1)(h:wu p=true):wu (zM f p)=true:=by
 unfold wu at h ⊢
 simp only[Bool.and_eq_true]at h ⊢
 obtain⟨h1,h2,h3,h4⟩:=h
 refine⟨h1,h2,?_,jA none _ _ h4⟩
 show tD (cond (f==3||f==4) [] p.source)=true
 cases (f==3||f==4) with
 | true=>rfl
 | false=>exact h3
theorem WW (p:z1)(h:wu p=true):wu (yT p)=true:=h
theorem j8:∀ (r acc:List z1),∃ s,xS acc r=acc++s∧s.Sublist r
 | [],acc=>⟨[],by rw[xS];simp,List.Sublist.refl _⟩
 | p :: r, acc => by
  rw[xS]
  cases acc.any (xB p) with
  | true =>
   obtain⟨s,h1,h2⟩:=j8 r acc
   exact⟨s,h1,h2.cons p⟩
  | false =>
   obtain⟨s,h1,h2⟩:=j8 r (acc++[p])
   exact⟨p::s,by rw[cond_false,h1];simp,h2.cons_cons p⟩
theorem Th (f:Int)(g:zw):(y7 (oM f g)).Sublist (y7 g.packs):=by
 unfold oM
 cases (f==0) with
 | true=>exact List.filter_sublist.map keyOf
 | false =>
  rw[cond_false]
  cases (f==2) with
  | true =>
   rw[cond_true]
   have h:y7 ((g.packs.filter fun p=>!(p.name==x7)).map yT)=y7 (g.packs.filter fun p=>!(p.name==x7)):=by unfold y7;rw[List.map_map];rfl
   rw[h]
   exact List.filter_sublist.map keyOf
  | false =>
   rw[cond_false]
   cases (f==3) with
   | true=>exact List.filter_sublist.map keyOf
   | false =>
    rw[cond_false]
    cases (f==4) with
    | true =>
     obtain⟨s,h1,h2⟩:=j8 g.packs []
     rw[cond_true,h1,List.nil_append]
     exact h2.map keyOf
    | false=>exact List.Sublist.refl _
theorem nB (f:Int)(g:zw):(y7 (xn f g).packs).Sublist (y7 g.packs):=by
 show (y7 ((oM f g).map (zM f))).Sublist _
 rw[tU];exact Th f g
theorem iM (f:Int)(g:zw):(xn f g).packs.length≤g.packs.length:=by
 have:=(nB f g).length_le
 rwa [uL,uL]at this
theorem qj {l:List z1}:rW l↔oY (y7 l):=by
 unfold rW oY y7
 rw[List.pairwise_map]
theorem nC (f:Int){g:zw}(h:zO g=true):rW (xn f g).packs :=
 qj.2 ((qj.1 (yR h)).sublist (nB f g))
theorem iN (ps:List z1)(k:Str):mV ps k=true↔k∈y7 ps:=by
 unfold mV y7
 rw[List.any_eq_true]
 simp
theorem Zi (f:Int)(g:zw):y7 (xn f g).packs=y7 (oM f g):=tU f (oM f g)
theorem bu (f:Int)(g:zw)(q:z1)(hq:q∈(xn f g).packs):∃ p∈g.packs,q.name=p.name∧q.version=p.version∧(wu p=true→wu q=true)∧q.zn.Sublist p.zn:=by
 obtain⟨x,hx,rfl⟩:=List.mem_map.1 hq
 have hnd:∀ x:z1,(zM f x).zn.Sublist x.zn:=fun x=>by
  show (cond (f==3||f==4) [] x.zn).Sublist x.zn
  cases (f==3||f==4) with
  | true=>exact List.nil_sublist _
  | false=>exact List.Sublist.refl _
 rcases YT f g x hx with h | ⟨_,r,hr,rfl⟩
 · exact⟨x,h,rfl,rfl,cO f x,hnd x⟩
 · exact⟨r,hr,rfl,rfl,fun h=>cO f _ (WW r h),(hnd _).trans List.filter_sublist⟩
theorem f_in {ps:List z1}{q:z1→Bool}{k:Str}{p:z1}(h1:p∈ps)(h2:q p=true)(h3:keyOf p=k):k∈y7 (ps.filter q) :=
 (wV _ _).2 ⟨p,List.mem_filter.2 ⟨h1,h2⟩,h3⟩
theorem dj (l:List z1):y7 (l.map yT)=y7 l:=by unfold y7;rw[List.map_map];rfl
theorem Tw (f:Int)(hf:vI f){g:zw}(hg:zO g=true):(∀ k∈(xn f g).top,k∈y7 (oM f g))∧(∀ q∈(xn f g).packs,∀ k∈q.zn,k∈y7 (oM f g)):=by
 have hpk:=w4 hg
 have htop:=sF (OC hg)
 have hneed:∀ p∈g.packs,∀ k∈p.zn,∃ q∈g.packs,keyOf q=k:=fun p hp=>sF (hpk p hp).2
 rcases hf with rfl | rfl | rfl | rfl | rfl
 · have hin : ∀ k, k ∈ zV g.packs g.top → (∃ q ∈ g.packs, keyOf q = k) → k ∈ y7 (yL (zV g.packs g.top) g.packs) := fun k h1 ⟨q, h2, h3⟩ => f_in h2 (by rw [xK, h3]; exact h1) h3
   have hfs:∀ k,(∃ q∈g.packs,keyOf q=k)→(yS g.packs k).isSome=true:=fun k ⟨q,h2,h3⟩=>by
    rw[← h3,w7 (yR hg) h2];rfl
   refine⟨fun k hk=>hin k (uR _ _ k hk (hfs k (htop k hk))) (htop k hk),fun q hq k hk=>?_⟩
   obtain⟨x,hx,rfl⟩:=List.mem_map.1 hq
   obtain⟨hq1,hq2⟩:=List.mem_filter.1 hx
   rw[xK]at hq2
   have hk':k∈x.zn:=hk
   have hy:=hneed x hq1 k hk'
   exact hin k (vc _ _ (keyOf x) x k hq2 (w7 (yR hg) hq1) hk' (hfs k hy)) hy
 · refine ⟨fun k hk => (by cases hk), fun q hq k hk => ?_⟩
   obtain⟨x,hx,rfl⟩:=List.mem_map.1 hq
   exact (wV _ _).2 (hneed x hx k hk)
 · have hin : ∀ k, rootKey k = false → (∃ q ∈ g.packs, keyOf q = k) → k ∈ y7 (oM 2 g) := fun k h1 h2 => by
    show k∈y7 ((g.packs.filter fun p=>!(p.name==x7)).map yT)
    rw[dj,← xK,kH hg h2,h1];rfl
   refine⟨fun k hk=>?_,fun q hq k hk=>?_⟩
   · obtain ⟨h1, h2⟩ := List.mem_filter.1 (show k ∈ g.top.filter fun k => !rootKey k from hk)
     exact hin k (by simpa using h2) (htop k h1)
   · obtain ⟨x, hx, rfl⟩ := List.mem_map.1 hq
     obtain⟨y,hy,rfl⟩:=List.mem_map.1 (show x∈(g.packs.filter fun p=>!(p.name==x7)).map yT from hx)
     obtain⟨h1,h2⟩:=List.mem_filter.1 (show k∈y.zn.filter fun k=>!rootKey k from hk)
     exact hin k (by simpa using h2) (hneed y (List.mem_filter.1 hy).1 k h1)
 · refine ⟨fun k hk => (by cases hk), fun q hq k hk => ?_⟩
   obtain⟨x,hx,rfl⟩:=List.mem_map.1 hq
   cases hk
 · refine ⟨fun k hk => (by cases hk), fun q hq k hk => ?_⟩
   obtain⟨x,hx,rfl⟩:=List.mem_map.1 hq
   cases hk
theorem V7 (f:Int)(g:zw):(xn f g).top.Sublist g.top:=by
 show (UN f g).Sublist g.top
 unfold UN
 cases (f==0) with
 | true=>exact List.Sublist.refl _
 | false =>
  cases (f==2) with
  | true=>exact List.filter_sublist
  | false=>exact List.nil_sublist _
theorem br (f:Int)(hf:vI f){g:zw}(hg:zO g=true):zO (xn f g)=true:=by
 obtain⟨h1,h2⟩:=Tw f hf hg
 have hpk:=w4 hg
 have htop:=mH hg
 have hl:=iM f g
 rw[← Zi]at h1 h2
 have hg':=hg
 unfold zO at hg' ⊢
 simp only[Bool.and_eq_true,decide_eq_true_eq]at hg' ⊢
 refine⟨lM _ none _ (fun q hq=>?_) (nC f hg) (fun _ _=>rfl),by omega,nw _ none _ (htop.1.sublist (V7 f g)) (fun k hk=>(iN _ _).2 (h1 k hk)) (fun _ _=>rfl)⟩
 obtain⟨p,hp,_,_,k3,k4⟩:=bu f g q hq
 obtain⟨k5,k6⟩:=hpk p hp
 exact⟨k3 k5,nw _ none _ ((vo _ none _ k6).1.sublist k4) (fun k hk=>(iN _ _).2 (h2 q hq k hk)) (fun _ _=>rfl)⟩
theorem df (f:Int)(p:z1):zM f (zM f p)=zM f p:=by
 unfold zM
 simp only[z1.mk.injEq,true_and]
 refine⟨?_,?_,?_,?_⟩
 · cases (f==3||f==4)<;>rfl
 · rw[List.filter_filter];simp
 · cases (f==1||f==2||f==3)<;>rfl
 · cases (f==3||f==4)<;>rfl
theorem iZ (φ:z1→z1)(hk:∀ p,keyOf (φ p)=keyOf p)(k:Str):∀ (ps:List z1) (n:Nat),xU (fun p=>keyOf p==k) (ps.map φ) n=xU (fun p=>keyOf p==k) ps n
 | [],n=>rfl
 | p::r,n=>by rw[List.map_cons,xU,xU,hk,iZ φ hk k r]
theorem Va (φ:z1→z1)(hk:∀ p,keyOf (φ p)=keyOf p)(ps:List z1)(k:Str):yS (ps.map φ) k=(yS ps k).map φ:=by
 unfold yS tk
 rw[iZ φ hk]
 cases xU (fun p=>keyOf p==k) ps 0 with
 | none=>rfl
 | some i=>simp
theorem pj (φ:z1→z1)(hk:∀ p,keyOf (φ p)=keyOf p)(hn:∀ p,(φ p).zn=p.zn)(ps:List z1):∀ (n:Nat) (out w:List Str),yi xI (ps.map φ) n out w=yi xI ps n out w
 | 0,out,w=>rfl
 | n+1,out,[]=>rfl
 | n+1,out,k::w=>by
  rw[yi,yi,Va φ hk]
  cases yS ps k with
  | none=>exact pj φ hk hn ps n out w
  | some p=>simp only[Option.map_some,hn,pj φ hk hn ps n]
theorem aW (φ:z1→z1)(hk:∀ p,keyOf (φ p)=keyOf p)(hn:∀ p,(φ p).zn=p.zn)(ps:List z1)(w:List Str):zV (ps.map φ) w=zV ps w:=by
 unfold zV
 have hm:muS (ps.map φ) []=muS ps []:=by
  unfold muS
  rw[List.map_map]
  congr 1
  refine List.map_congr_left fun p _=>?_
  simp only[Function.comp,muP,hk,hn]
 rw[hm,pj φ hk hn]
def NDs (l:List z1):Prop:=l.Pairwise fun a b=>xB b a=false
theorem eo:∀ (r acc:List z1),NDs acc→NDs (xS acc r)
 | [],acc,h=>by rw[xS];exact h
 | p :: r, acc, h => by
  rw[xS]
  cases hc:acc.any (xB p) with
  | true=>exact eo r acc h
  | false =>
   refine eo r (acc++[p]) ?_
   unfold NDs
   rw[List.pairwise_append]
   refine⟨h,List.pairwise_singleton _ _,fun a ha b hb=>?_⟩
   obtain rfl:=List.mem_singleton.1 hb
   cases hs:xB b a with
   | false=>rfl
   | true=>rw[show acc.any (xB b)=true from List.any_eq_true.2 ⟨a,ha,hs⟩]at hc;cases hc
theorem XV:∀ (r acc:List z1),NDs (acc++r)→xS acc r=acc++r
 | [],acc,h=>by rw[xS];simp
 | p :: r, acc, h => by
  have hc:acc.any (xB p)=false:=by
   cases hc:acc.any (xB p) with
   | false=>rfl
   | true =>
    obtain⟨a,ha,hs⟩:=List.any_eq_true.1 hc
    unfold NDs at h
    rw[List.pairwise_append]at h
    rw[h.2.2 a ha p (by simp)]at hs;cases hs
  rw[xS,hc,cond_false,XV r (acc++[p]) (by simpa using h)]
  simp
theorem NH {l:List z1}(h:NDs l):NDs (l.map (zM 4)):=by
 unfold NDs at h ⊢
 rw[List.pairwise_map]
 exact h
theorem Xf {l:List z1}{φ:z1→z1}(h:∀ x∈l,φ x=x):l.map φ=l:=by
 conv=>rhs;rw[← List.map_id l]
 exact List.map_congr_left h
theorem dw (f:Int)(hf:vI f){g:zw}(hg:zO g=true):xn f (xn f g)=xn f g:=by
 have fix:∀ l:List z1,(l.map (zM f)).map (zM f)=l.map (zM f):=fun l=>Xf fun x hx=>by
  obtain⟨y,_,rfl⟩:=List.mem_map.1 hx
  exact df f y
 rcases hf with rfl | rfl | rfl | rfl | rfl
 · have hp : wS g = ⟨g.top, yL (zV g.packs g.top) g.packs⟩ := by unfold wS; rw [hg]; rfl
   have hk:=aY hg
   rw[hp]at hk
   simp only at hk
   show zw.mk g.top ((yL (zV (xn 0 g).packs g.top) (xn 0 g).packs).map (zM 0))=zw.mk g.top ((yL (zV g.packs g.top) g.packs).map (zM 0))
   congr 1
   have e:(xn 0 g).packs=(yL (zV g.packs g.top) g.packs).map (zM 0):=rfl
   rw[e,aW (zM 0) (fun _=>rfl) (fun _=>rfl),hk]
   generalize yL (zV g.packs g.top) g.packs=l
   have e2:yL (l.map keyOf) (l.map (zM 0))=l.map (zM 0):=filter_all _ _ fun x hx=>by
    obtain⟨y,hy,rfl⟩:=List.mem_map.1 hx
    exact (xK _ _).2 (List.mem_map.2 ⟨y,hy,rfl⟩)
   rw[e2,fix]
 · show zw.mk [] ((g.packs.map (zM 1)).map (zM 1)) = zw.mk [] (g.packs.map (zM 1))
   rw[fix]
 · show zw.mk ((g.top.filter fun k => !rootKey k).filter fun k => !rootKey k) ((((((g.packs.filter fun p => !(p.name == x7)).map yT).map (zM 2)).filter fun p => !(p.name == x7)).map yT).map (zM 2))
    = zw.mk (g.top.filter fun k=>!rootKey k) (((g.packs.filter fun p=>!(p.name==x7)).map yT).map (zM 2))
   congr 1
   · rw[List.filter_filter];simp
   · have e1 : (((g.packs.filter fun p => !(p.name == x7)).map yT).map (zM 2)).filter (fun p => !(p.name == x7)) = ((g.packs.filter fun p => !(p.name == x7)).map yT).map (zM 2) := filter_all _ _ fun x hx => by
      obtain⟨y,hy,rfl⟩:=List.mem_map.1 hx
      obtain⟨z,hz,rfl⟩:=List.mem_map.1 hy
      exact (List.mem_filter.1 hz).2
     have e2:(((g.packs.filter fun p=>!(p.name==x7)).map yT).map (zM 2)).map yT=((g.packs.filter fun p=>!(p.name==x7)).map yT).map (zM 2):=Xf fun x hx=>by
      obtain⟨y,hy,rfl⟩:=List.mem_map.1 hx
      obtain⟨z,hz,rfl⟩:=List.mem_map.1 hy
      have e:(z.zn.filter fun k=>!rootKey k).filter (fun k=>!rootKey k)=z.zn.filter fun k=>!rootKey k:=filter_all _ _ fun k hk=>(List.mem_filter.1 hk).2
      show z1.mk z.name z.version z.source (z.sums.filter (xF 2)) false ((z.zn.filter fun k=>!rootKey k).filter fun k=>!rootKey k)=z1.mk z.name z.version z.source (z.sums.filter (xF 2)) false (z.zn.filter fun k=>!rootKey k)
      rw[e]
     rw[e1,e2,fix]
 · show zw.mk [] ((((g.packs.filter (x8 sH1)).map (zM 3)).filter (x8 sH1)).map (zM 3)) = zw.mk [] ((g.packs.filter (x8 sH1)).map (zM 3))
   congr 1
   have e1:((g.packs.filter (x8 sH1)).map (zM 3)).filter (x8 sH1)=(g.packs.filter (x8 sH1)).map (zM 3):=filter_all _ _ fun x hx=>by
    obtain⟨y,hy,rfl⟩:=List.mem_map.1 hx
    have h:=(List.mem_filter.1 hy).2
    unfold x8 at h ⊢
    rw[List.any_eq_true]at h ⊢
    obtain⟨s,hs1,hs2⟩:=h
    exact⟨s,List.mem_filter.2 ⟨hs1,hs2⟩,hs2⟩
   rw[e1,fix]
 · show zw.mk [] ((xS [] ((xS [] g.packs).map (zM 4))).map (zM 4)) = zw.mk [] ((xS [] g.packs).map (zM 4))
   congr 1
   rw[XV _ [] (NH (eo g.packs [] List.Pairwise.nil)),List.nil_append,fix]
theorem Z8 {p q:z1}(h:yZ p q=[]):p.source=q.source∧p.sums=q.sums∧p.dev=q.dev∧p.zn=q.zn:=by
 unfold yZ at h
 cases h1:(p.source==q.source) with
 | false=>rw[h1]at h;cases h
 | true =>
  cases h2:(xA p.sums==xA q.sums) with
  | false=>rw[h1,h2]at h;cases h
  | true =>
   cases h3:(p.dev==q.dev) with
   | false=>rw[h1,h2,h3]at h;cases h
   | true =>
    cases h4:(p.zn==q.zn) with
    | false=>rw[h1,h2,h3,h4]at h;cases h
    | true=>exact⟨eq_of_beq h1,ni (eq_of_beq h2),eq_of_beq h3,eq_of_beq h4⟩
theorem mA (p:z1):yZ p p=[]:=by unfold yZ;simp
theorem rW.uniq {a b:List z1}(h1:rW a)(h2:rW b)(hk:y7 a=y7 b)(h:∀ p∈a,p∈b):a=b:=by
 induction a generalizing b with
 | nil=>cases b with
  | nil=>rfl
  | cons y s=>cases hk
 | cons x r ih => cases b with
  | nil=>cases hk
  | cons y s =>
   injection hk with e1 e2
   obtain⟨p1,p2⟩:=List.pairwise_cons.1 h1
   obtain⟨q1,q2⟩:=List.pairwise_cons.1 h2
   have hxy:x=y:=rW.key h2 x (h x (by simp)) y (by simp) e1
   subst hxy
   rw[ih p2 q2 e2 fun p hp=>?_]
   rcases List.mem_cons.1 (h p (by simp[hp])) with rfl | hm
   · have:=p1 p hp;rw[vn]at this;cases this
   · exact hm
theorem To (f:Int)(hf:vI f){g:zw}(hg:zO g=true):wY yZ (xn f g) g=[]↔xn f g=g:=by
 constructor
 · intro h
   unfold wY at h
   rw[List.append_eq_nil_iff]at h
   obtain⟨h1,h2⟩:=h
   have ht:g.top=(xn f g).top:=by
    cases hq:(g.top==(xn f g).top) with
    | true=>exact eq_of_beq hq
    | false=>rw[hq]at h1;cases h1
   rw[List.flatMap_eq_nil_iff]at h2
   have hin:∀ p∈g.packs,p∈(xn f g).packs:=fun p hp=>by
    have h3:=h2 p hp
    unfold vH at h3
    cases hl:(yV yZ (xn f g) p==[]) with
    | false=>rw[hl]at h3;cases h3
    | true =>
     have h4:=eq_of_beq hl
     unfold yV at h4
     cases hq:yS (xn f g).packs (keyOf p) with
     | none=>rw[hq]at h4;cases h4
     | some q =>
      rw[hq]at h4
      obtain⟨k1,k2,_⟩:=wg hq
      obtain⟨a1,a2,a3,a4⟩:=Z8 h4
      obtain⟨p',hp',b1,b2,_⟩:=bu f g q k1
      have:p'=p:=(yR hg).key p' hp' p hp (by
       rw[← k2]
       unfold keyOf
       rw[b1,b2])
      subst this
      obtain⟨name,version,source,sums,dev,zn⟩:=q
      obtain⟨name',version',source',sums',dev',needs'⟩:=p'
      simp only at a1 a2 a3 a4 b1 b2
      subst a1 a2 a3 a4 b1 b2
      exact k1
   have hks:y7 g.packs=y7 (xn f g).packs:=by
    refine oY.uniq (qj.1 (yR hg)) (qj.1 (nC f hg)) fun s=>⟨fun hs=>?_,fun hs=>(nB f g).subset hs⟩
    obtain⟨p,hp,rfl⟩:=(wV _ _).1 hs
    exact (wV _ _).2 ⟨p,hin p hp,rfl⟩
   have hps:=rW.uniq (yR hg) (nC f hg) hks hin
   have e:∀ a b:zw,a.top=b.top→a.packs=b.packs→b=a:=fun a b h1 h2=>by cases a;cases b;simp_all
   exact e _ _ ht hps
 · intro h
   rw[h]
   unfold wY
   rw[beq_self_eq_true,cond_true,List.nil_append,List.flatMap_eq_nil_iff]
   intro p hp
   unfold vH yV
   rw[w7 (yR hg) hp]
   simp only[mA]
   rfl
theorem Tg (f:Int){g:zw}(hg:zO g=true):zO (yF f g)=true:=by
 unfold yF
 cases q:xt f&&zO g with
 | false=>exact hg
 | true=>rw[Bool.and_eq_true]at q;exact br f (wy q.1) hg
theorem dc (f:Int){g:zw}(hg:zO g=true):yF f (yF f g)=yF f g:=by
 cases q:xt f with
 | false =>
  have e:∀ g,yF f g=g:=fun g=>by unfold yF;rw[q];rfl
  rw[e,e]
 | true =>
  have e:∀ g,zO g=true→yF f g=xn f g:=fun g hg=>by unfold yF;rw[q,hg];rfl
  rw[e g hg,e _ (br f (wy q) hg)]
  exact dw f (wy q) hg
theorem WN (f:Int)(g:zw):(yF f g).packs.length≤g.packs.length:=by
 unfold yF
 cases xt f&&zO g with
 | false=>exact Nat.le_refl _
 | true=>exact iM f g
theorem V2 (f:Int){g:zw}(hg:zO g=true):wY yZ (yF f g) g=[]↔yF f g=g:=by
 unfold yF
 rw[hg,Bool.and_true]
 cases q:xt f with
 | true=>exact To f (wy q) hg
 | false =>
  rw[cond_false]
  refine⟨fun _=>rfl,fun _=>?_⟩
  unfold wY
  rw[beq_self_eq_true,cond_true,List.nil_append,List.flatMap_eq_nil_iff]
  intro p hp
  unfold vH yV
  rw[w7 (yR hg) hp]
  simp only[mA]
  rfl
theorem mw (x:z1):(yT x).y6≤x.y6:=by
 have h9:(yT x).zn.length+yg (yT x).zn≤x.zn.length+yg x.zn:=pz _ x.zn
 have e1:(yT x).name=x.name:=rfl
 have e2:(yT x).version=x.version:=rfl
 have e3:(yT x).source=x.source:=rfl
 have e4:(yT x).sums=x.sums:=rfl
 unfold z1.y6
 rw[e1,e2,e3,e4]
 omega
set_option maxHeartbeats 8000000 in
theorem PT (top:List Str)(cs:List z1)(hB:GB ⟨top,cs⟩)(ho:zO ⟨top,cs⟩=true):PjI 3 ⟨top,cs⟩:=by
 have hb:=hB.len
 simp only at hb
 have hcp:=rO top cs (by omega) (by omega) hb.2.2
 have d0:=wO 3 0 4
 rw[show B2 3 0 4=true from rfl]at d0
 have d1:=tg _ hB
 rw[ho]at d1
 have e:yF 3 ⟨top,cs⟩=⟨[],(cs.filter (x8 sH1)).map (zM 3)⟩:=by unfold yF;rw[ho];rfl
 unfold PjI
 rw[e]
 obtain⟨J,hJ,hJl,d2⟩:=Q3 59 (fun x=>!x8 sH1 x) cs (by omega) (fun x hx=>c_pj3 x (hb.2.2 x hx)) cs.length rfl none
 rw[TB]at d2 hJl
 have L:=fA 3 (.inr (.inr (.inr (.inl rfl)))) [] 0 (cs.filter (x8 sH1)).length (cs.filter (x8 sH1)) [] (by simp) (by have:=List.length_filter_le (x8 sH1) cs;omega) fun x hx=>hb.2.2 x (List.mem_filter.1 hx).1
 have hZl:((cs.filter (x8 sH1)).map (zM 3)).length=(cs.filter (x8 sH1)).length:=by simp
 rw[hZl]
 rw[List.nil_append]at L
 generalize (cs.filter (x8 sH1)).map (zM 3)=Z' at *
 have hot:=uW
 have hoc:∀ l:List z1,(z1.zh l).map (fun e=>e.map oc)=ocE (z1.zh l):=fun _=>rfl
 have hpre:=rowX (Z:=cs.filter (x8 sH1)) (J:=J)
 have hzn:cs=[]→(cs.filter (x8 sH1))=[]:=fun h=>by rw[h];rfl
 generalize cs.filter (x8 sH1)=Z at *
 have htk:(ocE (z1.zh Z)++J).take Z.length=ocE (z1.zh Z):=by
  have:(ocE (z1.zh Z)).length=Z.length:=by rw[zS,z1.zj]
  rw[← this];simp
 have hle:Z.length≤(ocE (z1.zh Z)++J).length:=by rw[List.length_append,zS,z1.zj];omega
 obtain⟨h1,h2,_⟩:=xQ (yD Z) hJ
 have f1:=yb top
 simp only[List.length_nil,Int.natCast_zero,List.nil_append,show z1.zh []=[] from rfl,show ocE []=[] from rfl,zG]at L
 simp only[zw.enc,List.map_cons,List.map_nil,show strs []=[] from rfl,List.length_nil]at d1 ⊢
 clear hB hb e hJl hZl ho
 unfold jy at hcp
 rcases hpre with⟨hq,hE⟩ | hq
 · rw [hE] at d2
   clear h1 h2 htk hle hq hE hJ
   rcases hcp with⟨hcp,rfl⟩ | hcp
   · have := hzn rfl
     subst this
     try simp only[show z1.zh []=[] from rfl,show ocE []=[] from rfl,show strs []=[] from rfl,List.length_nil,Int.natCast_zero]at hcp d1 d2 L ⊢
     refine zH Tryz.func8 rfl (by kernel_rfl) ?_
     unfold Tryz.f8
     simp (maxSteps:=1000000) (disch:=((try simp only[LL]);omega)) only[↓GO,↓DRW,GA,GX,ren,zk,za,refs,z8,cst,zr,isC,bin,una,z7,zd,blt,asArg,zg,zc,zf,z6,E.mkS,unN,ze,zm,zb,GS,simprocAttr,zB,zC,yB,yr,yv,yu,yC,gh1,yq,yh,yk,zL,mkO,yf,y8,y9,mvC,unO,zR,yz,yt,yo,zI,yp,yn,zY,oc,oTs,oT,zK,zK.rowTs,yj,isL,E.BX,GZ,hcp,d0,d1,d2,L,hot,hoc,f1,zi,yJ,yc,zS,z1.zj,List.drop_zero,false_and,if_false,Bool.not_false,Bool.not_true,vT,uw,List.all_nil,bne,zA]
   · refine zH Tryz.func8 rfl (by kernel_rfl) ?_
     unfold Tryz.f8
     simp (maxSteps:=1000000) (disch:=((try simp only[LL]);omega)) only[↓GO,↓DRW,GA,GX,ren,zk,za,refs,z8,cst,zr,isC,bin,una,z7,zd,blt,asArg,zg,zc,zf,z6,E.mkS,unN,ze,zm,zb,GS,simprocAttr,zB,zC,yB,yr,yv,yu,yC,gh1,yq,yh,yk,zL,mkO,yf,y8,y9,mvC,unO,zR,yz,yt,yo,zI,yp,yn,zY,oc,oTs,oT,zK,zK.rowTs,yj,isL,E.BX,GZ,hcp,d0,d1,d2,L,hot,hoc,f1,zi,yJ,yc,zS,z1.zj,List.drop_zero,false_and,if_false,Bool.not_false,Bool.not_true,vT,uw,List.all_nil,bne,zA]
 · have hot' : vT (ocE (z1.zh Z)) = some (z1.zh Z) := hot Z
   generalize ocE (z1.zh Z)++J=E1 at *
   rcases hcp with⟨hcp,rfl⟩ | hcp
   · have := hzn rfl
     subst this
     try simp only[show z1.zh []=[] from rfl,show ocE []=[] from rfl,show strs []=[] from rfl,List.length_nil,Int.natCast_zero]at hcp d1 d2 L htk hq hle hot' ⊢
     refine zH Tryz.func8 rfl (by kernel_rfl) ?_
     unfold Tryz.f8
     simp (maxSteps:=1000000) (disch:=((try simp only[LL]);omega)) only[↓GO,↓DRW,GA,GX,ren,zk,za,refs,z8,cst,zr,isC,bin,una,z7,zd,blt,asArg,zg,zc,zf,z6,E.mkS,unN,ze,zm,zb,GS,simprocAttr,zB,zC,yB,yr,yv,yu,yC,gh1,yq,yh,yk,zL,mkO,yf,y8,y9,mvC,unO,zR,yz,yt,yo,zI,yp,yn,zY,oc,oTs,oT,zK,zK.rowTs,yj,isL,E.BX,GZ,hcp,d0,d1,d2,L,hq,htk,hle,h1,h2,hot',hot,hoc,f1,zi,yJ,yc,zS,z1.zj,List.drop_zero,false_and,if_false,Bool.not_false,Bool.not_true,vT,uw,List.all_nil,bne,zA]
   · refine zH Tryz.func8 rfl (by kernel_rfl) ?_
     unfold Tryz.f8
     simp (maxSteps:=1000000) (disch:=((try simp only[LL]);omega)) only[↓GO,↓DRW,GA,GX,ren,zk,za,refs,z8,cst,zr,isC,bin,una,z7,zd,blt,asArg,zg,zc,zf,z6,E.mkS,unN,ze,zm,zb,GS,simprocAttr,zB,zC,yB,yr,yv,yu,yC,gh1,yq,yh,yk,zL,mkO,yf,y8,y9,mvC,unO,zR,yz,yt,yo,zI,yp,yn,zY,oc,oTs,oT,zK,zK.rowTs,yj,isL,E.BX,GZ,hcp,d0,d1,d2,L,hq,htk,hle,h1,h2,hot',hot,hoc,f1,zi,yJ,yc,zS,z1.zj,List.drop_zero,false_and,if_false,Bool.not_false,Bool.not_true,vT,uw,List.all_nil,bne,zA]
set_option maxHeartbeats 8000000 in
theorem PS (top:List Str)(cs:List z1)(hB:GB ⟨top,cs⟩)(ho:zO ⟨top,cs⟩=true):PjI 4 ⟨top,cs⟩:=by
 have hb:=hB.len
 simp only at hb
 have hcp:=rO top cs (by omega) (by omega) hb.2.2
 have d0:=wO 4 0 4
 rw[show B2 4 0 4=true from rfl]at d0
 have d1:=tg _ hB
 rw[ho]at d1
 have e:yF 4 ⟨top,cs⟩=⟨[],(xS [] cs).map (zM 4)⟩:=by unfold yF;rw[ho];rfl
 unfold PjI
 rw[e]
 obtain⟨G',cap',hG',L4⟩:=Qk 4 (strs top) top.length cs cs [] [] (some 0) sN (by simp) (by omega) (Nat.le_refl _)
 have hdl:∀ r acc:List z1,(xS acc r).length≤acc.length+r.length:=fun r=>by
  induction r with
  | nil=>intro acc;rw[xS];simp
  | cons p r ih =>
   intro acc
   rw[xS]
   cases acc.any (xB p) with
   | true=>have:=ih acc;rw[cond_true];simp;omega
   | false=>have:=ih (acc++[p]);rw[cond_false];simp at this ⊢;omega
 have hdl':=hdl cs []
 have hdi:∀ x∈xS [] cs,x∈cs:=fun x hx=>by
  have key : ∀ (r acc : List z1) (x : z1), x ∈ xS acc r → x ∈ acc ∨ x ∈ r := fun r => by
   induction r with
   | nil=>intro acc x h;rw[xS]at h;exact .inl h
   | cons p r ih =>
    intro acc x h
    rw[xS]at h
    cases hc:acc.any (xB p) with
    | true=>rw[hc,cond_true]at h;rcases ih acc x h with h | h;exact .inl h;exact .inr (by simp[h])
    | false =>
     rw[hc,cond_false]at h
     rcases ih _ x h with h | h
     · rcases List.mem_append.1 h with h | h
       · exact .inl h
       · exact .inr (by simp at h;simp[h])
     · exact .inr (by simp[h])
  rcases key cs [] x hx with h | h
  · cases h
  · exact h
 have L:=fA 4 (.inr (.inr (.inr (.inr rfl)))) [] 0 (xS [] cs).length (xS [] cs) [] (by simp) (by simp at hdl';omega) fun x hx=>hb.2.2 x (hdi x hx)
 have hZl:((xS [] cs).map (zM 4)).length=(xS [] cs).length:=by simp
 rw[hZl]
 rw[List.nil_append]at L
 generalize (xS [] cs).map (zM 4)=Z' at *
 generalize xS [] cs=Z at *
 have hot:=uW
 have hoc:∀ l:List z1,(z1.zh l).map (fun e=>e.map oc)=ocE (z1.zh l):=fun _=>rfl
 obtain⟨h1,h2,_⟩:=hG'
 have f1:=yb top
 simp only[List.length_nil,Int.natCast_zero,List.nil_append,show z1.zh []=[] from rfl,show ocE []=[] from rfl,zG]at L L4
 simp only[zw.enc,List.map_cons,List.map_nil,show strs []=[] from rfl,List.length_nil]at d1 ⊢
 clear hB hb e hZl ho hdl hdl' hdi
 unfold jy at hcp
 rcases hcp with⟨hcp,rfl⟩ | hcp
 all_goals
  try simp only[show z1.zh []=[] from rfl,show ocE []=[] from rfl,show strs []=[] from rfl,List.length_nil,Int.natCast_zero]at hcp d1 L4 L ⊢
  refine zH Tryz.func8 rfl (by kernel_rfl) ?_
  unfold Tryz.f8
  simp (maxSteps:=1000000) (disch:=((try simp only[LL]);omega)) only[↓GO,↓DRW,GA,GX,ren,zk,za,refs,z8,cst,zr,isC,bin,una,z7,zd,blt,asArg,zg,zc,zf,z6,E.mkS,unN,ze,zm,zb,GS,simprocAttr,zB,zC,yB,yr,yv,yu,yC,gh1,yq,yh,yk,zL,mkO,yf,y8,y9,mvC,unO,zR,yz,yt,yo,zI,yp,yn,zY,oc,oTs,oT,zK,zK.rowTs,yj,isL,E.BX,GZ,hcp,d0,d1,L4,L,h1,h2,hot,hoc,f1,zi,yJ,yc,zS,z1.zj,List.drop_zero,false_and,if_false,Bool.not_false,Bool.not_true,vT,uw,List.all_nil,bne,zA]
set_option maxHeartbeats 16000000 in
theorem PU (top:List Str)(cs:List z1)(hB:GB ⟨top,cs⟩)(ho:zO ⟨top,cs⟩=true):PjI 2 ⟨top,cs⟩:=by
 have hb:=hB.len
 simp only at hb
 have hcp:=rO top cs (by omega) (by omega) hb.2.2
 have d0:=wO 2 0 4
 rw[show B2 2 0 4=true from rfl]at d0
 have d1:=tg _ hB
 rw[ho]at d1
 have e:yF 2 ⟨top,cs⟩=⟨top.filter fun k=>!rootKey k,((cs.filter fun p=>!(p.name==x7)).map yT).map (zM 2)⟩:=by unfold yF;rw[ho];rfl
 unfold PjI
 rw[e]
 obtain⟨Jt,hJt,d2⟩:=Q2 54 rootKey top (by omega) (fun k hk=>N9 k (by have h9:=pF hk;have h8:=hB;unfold GB zw.y6 at h8;simp only at h8;omega)) none top.length rfl
 obtain⟨J,hJ,hJl,d3⟩:=Q3 58 (fun x=>x.name==x7) cs (by omega) (fun x hx=>c_pj2 x) cs.length rfl none
 have hfl:=List.length_filter_le (fun p:z1=>!(p.name==x7)) cs
 have hnb:∀ x:z1,x.y6≤1048576→(yT x).y6≤1048576:=fun x hx=>by
  exact Nat.le_trans (mw x) hx
 have LN:=ON 2 (strs (top.filter fun k=>!rootKey k)) (top.filter fun k=>!rootKey k).length (cs.filter fun p=>!(p.name==x7)).length (cs.filter fun p=>!(p.name==x7)) [] (by simp) (by omega) fun x hx=>hb.2.2 x (List.mem_filter.1 hx).1
 have L:=fA 2 (.inr (.inr (.inl rfl))) (strs (top.filter fun k=>!rootKey k)) (top.filter fun k=>!rootKey k).length (cs.filter fun p=>!(p.name==x7)).length ((cs.filter fun p=>!(p.name==x7)).map yT) [] (by simp) (by omega) fun x hx=>by
  obtain⟨y,hy,rfl⟩:=List.mem_map.1 hx
  exact hnb y (hb.2.2 y (List.mem_filter.1 hy).1)
 have hZl:(((cs.filter fun p=>!(p.name==x7)).map yT).map (zM 2)).length=(cs.filter fun p=>!(p.name==x7)).length:=by simp
 rw[hZl]
 rw[List.nil_append]at L LN
 generalize ((cs.filter fun p=>!(p.name==x7)).map yT).map (zM 2)=Z' at *
 have hZn:((cs.filter fun p=>!(p.name==x7)).map yT).length=(cs.filter fun p=>!(p.name==x7)).length:=by simp
 generalize (cs.filter fun p=>!(p.name==x7)).map yT=Zn at *
 have hot:=uW
 have hoc:∀ l:List z1,(z1.zh l).map (fun e=>e.map oc)=ocE (z1.zh l):=fun _=>rfl
 have hpre:=rowX (Z:=cs.filter fun p=>!(p.name==x7)) (J:=J)
 have hprs:=rowXs (Z:=top.filter fun k=>!rootKey k) (J:=Jt)
 have hzn:cs=[]→(cs.filter fun p=>!(p.name==x7))=[]:=fun h=>by rw[h];rfl
 generalize (cs.filter fun p=>!(p.name==x7))=Z at *
 generalize (top.filter fun k=>!rootKey k)=Zt at *
 have htk:(ocE (z1.zh Z)++J).take Z.length=ocE (z1.zh Z):=by
  have:(ocE (z1.zh Z)).length=Z.length:=by rw[zS,z1.zj]
  rw[← this];simp
 have hle:Z.length≤(ocE (z1.zh Z)++J).length:=by rw[List.length_append,zS,z1.zj];omega
 have htk2:(strs (Zt++Jt)).take Zt.length=strs Zt:=by rw[show strs (Zt++Jt)=strs Zt++strs Jt by simp[strs],← zi Zt];simp
 have hle2:Zt.length≤(strs (Zt++Jt)).length:=by rw[zi,List.length_append];omega
 obtain⟨h1,h2,_⟩:=xQ (yD Z) hJ
 have f1:=yb top
 have f2:=yb Zt
 have f3:=yb (Zt++Jt)
 simp only[List.length_nil,Int.natCast_zero,List.nil_append,show z1.zh []=[] from rfl,show ocE []=[] from rfl,zG]at L LN
 simp only[zw.enc,List.map_cons,List.map_nil,show strs []=[] from rfl,List.length_nil]at d1 ⊢
 clear hB hb e hJl hZl ho hnb hfl hJt
 unfold jy at hcp
 have hzl2:=zi Zt
 have hE1:(ocE (z1.zh Z)++J).length=Z.length∧ocE (z1.zh Z)++J=ocE (z1.zh Z)→∃ Y,Y=ocE (z1.zh Z):=fun _=>⟨_,rfl⟩
 clear hE1
 have hot':vT (ocE (z1.zh Z))=some (z1.zh Z):=hot Z
 have hol:(ocE (z1.zh Z)).length=Z.length:=by rw[zS,z1.zj]
 rcases hpre with⟨hq,hE⟩ | hq<;>rcases hprs with⟨hq2,hE2⟩ | hq2
 · rw [hE] at d3
   rw[hE2]at d2
   rcases hcp with⟨hcp,rfl⟩ | hcp
   · have := hzn rfl
     subst this
     obtain rfl:Zn=[]:=List.eq_nil_of_length_eq_zero (by simpa using hZn)
     try simp only[show z1.zh []=[] from rfl,show ocE []=[] from rfl,List.length_nil,Int.natCast_zero]at hcp d1 d3 L LN ⊢
     refine zH Tryz.func8 rfl (by kernel_rfl) ?_
     unfold Tryz.f8
     simp (maxSteps:=1000000) (disch:=((try simp only[LL]);omega)) only[↓GO,↓DRW,GA,GX,ren,zk,za,refs,z8,cst,zr,isC,bin,una,z7,zd,blt,asArg,zg,zc,zf,z6,E.mkS,unN,ze,zm,zb,GS,simprocAttr,zB,zC,yB,yr,yv,yu,yC,gh1,yq,yh,yk,zL,mkO,yf,y8,y9,mvC,unO,zR,yz,yt,yo,zI,yp,yn,zY,oc,oTs,oT,zK,zK.rowTs,yj,isL,E.BX,GZ,hcp,d0,d1,d2,d3,LN,L,hot,hoc,f1,f2,hzl2,zi,yJ,yc,zS,z1.zj,List.drop_zero,false_and,if_false,Bool.not_false,Bool.not_true,vT,bne,zA]
   · refine zH Tryz.func8 rfl (by kernel_rfl) ?_
     unfold Tryz.f8
     simp (maxSteps:=1000000) (disch:=((try simp only[LL]);omega)) only[↓GO,↓DRW,GA,GX,ren,zk,za,refs,z8,cst,zr,isC,bin,una,z7,zd,blt,asArg,zg,zc,zf,z6,E.mkS,unN,ze,zm,zb,GS,simprocAttr,zB,zC,yB,yr,yv,yu,yC,gh1,yq,yh,yk,zL,mkO,yf,y8,y9,mvC,unO,zR,yz,yt,yo,zI,yp,yn,zY,oc,oTs,oT,zK,zK.rowTs,yj,isL,E.BX,GZ,hcp,d0,d1,d2,d3,LN,L,hZn,hot,hoc,f1,f2,hzl2,zi,yJ,yc,zS,z1.zj,List.drop_zero,false_and,if_false,Bool.not_false,Bool.not_true,vT,bne,zA]
 · rw [hE] at d3
   generalize strs (Zt++Jt)=E2 at *
   rcases hcp with⟨hcp,rfl⟩ | hcp
   · have := hzn rfl
     subst this
     obtain rfl:Zn=[]:=List.eq_nil_of_length_eq_zero (by simpa using hZn)
     try simp only[show z1.zh []=[] from rfl,show ocE []=[] from rfl,List.length_nil,Int.natCast_zero]at hcp d1 d3 L LN ⊢
     refine zH Tryz.func8 rfl (by kernel_rfl) ?_
     unfold Tryz.f8
     simp (maxSteps:=1000000) (disch:=((try simp only[LL]);omega)) only[↓GO,↓DRW,GA,GX,ren,zk,za,refs,z8,cst,zr,isC,bin,una,z7,zd,blt,asArg,zg,zc,zf,z6,E.mkS,unN,ze,zm,zb,GS,simprocAttr,zB,zC,yB,yr,yv,yu,yC,gh1,yq,yh,yk,zL,mkO,yf,y8,y9,mvC,unO,zR,yz,yt,yo,zI,yp,yn,zY,oc,oTs,oT,zK,zK.rowTs,yj,isL,E.BX,GZ,hcp,d0,d1,d2,d3,LN,L,hq2,htk2,hle2,hot,hoc,f1,f2,f3,hzl2,zi,yJ,yc,zS,z1.zj,List.drop_zero,false_and,if_false,Bool.not_false,Bool.not_true,vT,bne,zA]
   · refine zH Tryz.func8 rfl (by kernel_rfl) ?_
     unfold Tryz.f8
     simp (maxSteps:=1000000) (disch:=((try simp only[LL]);omega)) only[↓GO,↓DRW,GA,GX,ren,zk,za,refs,z8,cst,zr,isC,bin,una,z7,zd,blt,asArg,zg,zc,zf,z6,E.mkS,unN,ze,zm,zb,GS,simprocAttr,zB,zC,yB,yr,yv,yu,yC,gh1,yq,yh,yk,zL,mkO,yf,y8,y9,mvC,unO,zR,yz,yt,yo,zI,yp,yn,zY,oc,oTs,oT,zK,zK.rowTs,yj,isL,E.BX,GZ,hcp,d0,d1,d2,d3,LN,L,hZn,hq2,htk2,hle2,hot,hoc,f1,f2,f3,hzl2,zi,yJ,yc,zS,z1.zj,List.drop_zero,false_and,if_false,Bool.not_false,Bool.not_true,vT,bne,zA]
 · rw [hE2] at d2
   generalize ocE (z1.zh Z)++J=E1 at *
   rcases hcp with⟨hcp,rfl⟩ | hcp
   · have := hzn rfl
     subst this
     obtain rfl:Zn=[]:=List.eq_nil_of_length_eq_zero (by simpa using hZn)
     try simp only[show z1.zh []=[] from rfl,show ocE []=[] from rfl,List.length_nil,Int.natCast_zero]at hcp d1 d3 L LN htk hq hle hot' ⊢
     refine zH Tryz.func8 rfl (by kernel_rfl) ?_
     unfold Tryz.f8
     simp (maxSteps:=1000000) (disch:=((try simp only[LL]);omega)) only[↓GO,↓DRW,GA,GX,ren,zk,za,refs,z8,cst,zr,isC,bin,una,z7,zd,blt,asArg,zg,zc,zf,z6,E.mkS,unN,ze,zm,zb,GS,simprocAttr,zB,zC,yB,yr,yv,yu,yC,gh1,yq,yh,yk,zL,mkO,yf,y8,y9,mvC,unO,zR,yz,yt,yo,zI,yp,yn,zY,oc,oTs,oT,zK,zK.rowTs,yj,isL,E.BX,GZ,hcp,d0,d1,d2,d3,LN,L,hq,htk,hle,h1,h2,hot',hot,hoc,f1,f2,hzl2,zi,yJ,yc,zS,z1.zj,List.drop_zero,false_and,if_false,Bool.not_false,Bool.not_true,vT,bne,zA]
   · refine zH Tryz.func8 rfl (by kernel_rfl) ?_
     unfold Tryz.f8
     simp (maxSteps:=1000000) (disch:=((try simp only[LL]);omega)) only[↓GO,↓DRW,GA,GX,ren,zk,za,refs,z8,cst,zr,isC,bin,una,z7,zd,blt,asArg,zg,zc,zf,z6,E.mkS,unN,ze,zm,zb,GS,simprocAttr,zB,zC,yB,yr,yv,yu,yC,gh1,yq,yh,yk,zL,mkO,yf,y8,y9,mvC,unO,zR,yz,yt,yo,zI,yp,yn,zY,oc,oTs,oT,zK,zK.rowTs,yj,isL,E.BX,GZ,hcp,d0,d1,d2,d3,LN,L,hZn,hq,htk,hle,h1,h2,hot',hot,hoc,f1,f2,hzl2,zi,yJ,yc,zS,z1.zj,List.drop_zero,false_and,if_false,Bool.not_false,Bool.not_true,vT,bne,zA]
 · generalize ocE (z1.zh Z) ++ J = E1 at *
   generalize strs (Zt++Jt)=E2 at *
   rcases hcp with⟨hcp,rfl⟩ | hcp
   · have := hzn rfl
     subst this
     obtain rfl:Zn=[]:=List.eq_nil_of_length_eq_zero (by simpa using hZn)
     try simp only[show z1.zh []=[] from rfl,show ocE []=[] from rfl,List.length_nil,Int.natCast_zero]at hcp d1 d3 L LN htk hq hle hot' ⊢
     refine zH Tryz.func8 rfl (by kernel_rfl) ?_
     unfold Tryz.f8
     simp (maxSteps:=1000000) (disch:=((try simp only[LL]);omega)) only[↓GO,↓DRW,GA,GX,ren,zk,za,refs,z8,cst,zr,isC,bin,una,z7,zd,blt,asArg,zg,zc,zf,z6,E.mkS,unN,ze,zm,zb,GS,simprocAttr,zB,zC,yB,yr,yv,yu,yC,gh1,yq,yh,yk,zL,mkO,yf,y8,y9,mvC,unO,zR,yz,yt,yo,zI,yp,yn,zY,oc,oTs,oT,zK,zK.rowTs,yj,isL,E.BX,GZ,hcp,d0,d1,d2,d3,LN,L,hq,htk,hle,hq2,htk2,hle2,h1,h2,hot',hot,hoc,f1,f2,f3,hzl2,zi,yJ,yc,zS,z1.zj,List.drop_zero,false_and,if_false,Bool.not_false,Bool.not_true,vT,bne,zA]
   · refine zH Tryz.func8 rfl (by kernel_rfl) ?_
     unfold Tryz.f8
     simp (maxSteps:=1000000) (disch:=((try simp only[LL]);omega)) only[↓GO,↓DRW,GA,GX,ren,zk,za,refs,z8,cst,zr,isC,bin,una,z7,zd,blt,asArg,zg,zc,zf,z6,E.mkS,unN,ze,zm,zb,GS,simprocAttr,zB,zC,yB,yr,yv,yu,yC,gh1,yq,yh,yk,zL,mkO,yf,y8,y9,mvC,unO,zR,yz,yt,yo,zI,yp,yn,zY,oc,oTs,oT,zK,zK.rowTs,yj,isL,E.BX,GZ,hcp,d0,d1,d2,d3,LN,L,hZn,hq,htk,hle,hq2,htk2,hle2,h1,h2,hot',hot,hoc,f1,f2,f3,hzl2,zi,yJ,yc,zS,z1.zj,List.drop_zero,false_and,if_false,Bool.not_false,Bool.not_true,vT,bne,zA]
theorem N7 (f:Int)(g:zw)(hB:GB g):PjI f g:=by
 obtain⟨top,cs⟩:=g
 cases q:xt f&&zO ⟨top,cs⟩ with
 | false=>exact TQ f top cs hB q
 | true =>
  rw[Bool.and_eq_true]at q
  rcases wy q.1 with rfl | rfl | rfl | rfl | rfl
  · exact aj 0 (.inl rfl) top cs hB q.2
  · exact aj 1 (.inr rfl) top cs hB q.2
  · exact PU top cs hB q.2
  · exact PT top cs hB q.2
  · exact PS top cs hB q.2
end Go.Proofs.YtefkoljdebekdaaGreatDoor

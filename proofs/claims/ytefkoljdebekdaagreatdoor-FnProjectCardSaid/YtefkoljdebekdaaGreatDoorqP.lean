/- Joined: K47 K49 S1 W16. Conditions: those of each lemma. -/
import Derived.Test.YtefkoljdebekdaaGreatDoorqO
import Derived.Test.YtefkoljdebekdaaGreatDoorqN
import Derived.Test.YtefkoljdebekdaaGreatDoorqJ
import Derived.Test.YtefkoljdebekdaaGreatDoorqI
import Derived.Test.YtefkoljdebekdaaGreatDoorRows
import Derived.ProofKit
import Derived.ReadAgain
set_option linter.unusedVariables false
set_option linter.unusedSimpArgs false
set_option maxRecDepth 100000
namespace Go.Proofs.YtefkoljdebekdaaGreatDoor
open E
theorem lY (l:z1→z1→Str)(h:zw)(x:z1)(r:List z1):(x::r).flatMap (vH l h)=vH l h x++r.flatMap (vH l h):=rfl
set_option maxHeartbeats 2000000 in
theorem c_l1R (p q:z1):zu (EV Tryz.prog pol) 78 [.agg (p.enc.map .t),.agg (q.enc.map .t)]=some (.t (.str (xb p q))):=by
 have hs1:=zz.zj p.sums
 have hs2:=zz.zj q.sums
 have hs3:=zi p.zn
 have hs4:=zi q.zn
 unfold xb l6 Wd Ol eD
 obtain⟨name,version,source,sums,dev,zn⟩:=p
 obtain⟨name',version',source',sums',dev',needs'⟩:=q
 simp only[z1.enc,List.map_cons,List.map_nil]at hs1 hs2 hs3 hs4 ⊢
 generalize zz.zh sums=e1 at *
 generalize zz.zh sums'=e2 at *
 generalize strs zn=e3 at *
 generalize strs needs'=e4 at *
 generalize sums.length=n1 at *
 generalize sums'.length=n2 at *
 generalize zn.length=n3 at *
 generalize needs'.length=n4 at *
 apply zx
 refine zy rfl Tryz.func78 rfl (by kernel_rfl) ?_
 unfold Tryz.f78
 cases q1:(source==source') with
 | false=>simp (disch:=((try simp only[LL]);omega)) only[↓GO,↓DRW,GA,GX,ren,zk,za,refs,z8,cst,zr,isC,bin,una,z7,zd,blt,asArg,zg,zc,zf,z6,E.mkS,unN,ze,zm,zb,GS,simprocAttr,GZ,q1,zA,bne,Bool.not_false]
 | true =>
  cases q2:((n1:Int)==(n2:Int)) with
  | false=>simp (disch:=((try simp only[LL]);omega)) only[↓GO,↓DRW,GA,GX,ren,zk,za,refs,z8,cst,zr,isC,bin,una,z7,zd,blt,asArg,zg,zc,zf,z6,E.mkS,unN,ze,zm,zb,GS,simprocAttr,GZ,q1,q2,hs1,hs2,zA,bne,Bool.not_false,Bool.not_true]
  | true =>
   cases q3:(dev==dev') with
   | false=>simp (disch:=((try simp only[LL]);omega)) only[↓GO,↓DRW,GA,GX,ren,zk,za,refs,z8,cst,zr,isC,bin,una,z7,zd,blt,asArg,zg,zc,zf,z6,E.mkS,unN,ze,zm,zb,GS,simprocAttr,GZ,q1,q2,q3,hs1,hs2,zA,bne,Bool.not_false,Bool.not_true]
   | true =>
    cases q4:((n3:Int)==(n4:Int)) with
    | false=>simp (disch:=((try simp only[LL]);omega)) only[↓GO,↓DRW,GA,GX,ren,zk,za,refs,z8,cst,zr,isC,bin,una,z7,zd,blt,asArg,zg,zc,zf,z6,E.mkS,unN,ze,zm,zb,GS,simprocAttr,GZ,q1,q2,q3,q4,hs1,hs2,hs3,hs4,zA,bne,Bool.not_false,Bool.not_true]
    | true=>simp (disch:=((try simp only[LL]);omega)) only[↓GO,↓DRW,GA,GX,ren,zk,za,refs,z8,cst,zr,isC,bin,una,z7,zd,blt,asArg,zg,zc,zf,z6,E.mkS,unN,ze,zm,zb,GS,simprocAttr,GZ,q1,q2,q3,q4,hs1,hs2,hs3,hs4,zA,bne,Bool.not_false,Bool.not_true]
set_option maxHeartbeats 2000000 in
theorem Ma (p:z1)(hp:p.y6≤1048576)(h:zw)(hB:GB h):zu (EV Tryz.prog pol) 66 [.agg (p.enc.map .t),.agg (h.enc.map .t)]=some (.t (.str (yV yZ h p))):=by
 have d1:=mb p (by omega)
 have d2:=ev h (keyOf p) hB
 unfold yV
 cases hf:yS h.packs (keyOf p) with
 | none =>
  rw[oE hf]at d2
  simp only[ixI]at d2
  simp only
  clear hB hf
  unfold jo
  generalize keyOf p=k at *
  obtain⟨name,version,source,sums,dev,zn⟩:=p
  obtain⟨top,packs⟩:=h
  simp only[z1.enc,zw.enc,List.map_cons,List.map_nil]at d1 d2 ⊢
  apply zx
  refine zy rfl Tryz.func66 rfl (by kernel_rfl) ?_
  unfold Tryz.f66
  simp (disch:=((try simp only[LL]);omega)) only[↓GO,↓DRW,GA,GX,ren,zk,za,refs,z8,cst,zr,isC,bin,una,z7,zd,blt,asArg,zg,zc,zf,z6,E.mkS,unN,ze,zm,zb,GS,simprocAttr,GZ,d1,d2,zA]
  try (refine zU (by kernel_rfl) ?_;first | rfl | simp (disch:=((try simp only[LL]);omega)) only[↓GO,↓DRW,GA,GX,ren,zk,za,refs,z8,cst,zr,isC,bin,una,z7,zd,blt,asArg,zg,zc,zf,z6,E.mkS,unN,ze,zm,zb,GS,simprocAttr,GZ,d1,d2,zA])
 | some q =>
  obtain⟨hq,hkq,i,hi,hqi⟩:=wg hf
  rw[hi]at d2
  have c2:decide ((i:Int)<0)=false:=by apply decide_eq_false;omega
  have hget:(z1.zh h.packs)[i]? = some q.enc:=by unfold z1.zh;rw[List.getElem?_map,hqi];rfl
  have hlen:i<h.packs.length:=(List.getElem?_eq_some_iff.1 hqi).1
  have hpl:=hB.len.1
  have hsl:=(qf hp).1
  have hnl:=(qf hp).2
  have d3:=Mf p.sums q.sums (by omega)
  have d4:=Ni p.zn q.zn (by omega)
  simp only[ixI]at d2
  simp only
  unfold yZ l6 Wd Ol eD
  clear hB hf hq hkq hi hqi hp hsl hnl hlen hpl
  generalize keyOf p=k at *
  obtain⟨name,version,source,sums,dev,zn⟩:=p
  obtain⟨name',version',source',sums',dev',needs'⟩:=q
  obtain⟨top,packs⟩:=h
  simp only[z1.enc,zw.enc,List.map_cons,List.map_nil]at d1 d2 d3 d4 hget ⊢
  generalize (xA sums==xA sums')=b2 at *
  generalize (zn==needs')=b4 at *
  cases q1:(source==source')<;>cases b2<;>cases q3:(dev==dev')<;>cases b4
  all_goals
   apply zx
   refine zy rfl Tryz.func66 rfl (by kernel_rfl) ?_
   unfold Tryz.f66
   simp (disch:=((try simp only[LL]);omega)) only[↓GO,↓DRW,GA,GX,ren,zk,za,refs,z8,cst,zr,isC,bin,una,z7,zd,blt,asArg,zg,zc,zf,z6,E.mkS,unN,ze,zm,zb,GS,simprocAttr,GZ,d1,d2,d3,d4,c2,hget,q1,q3,bne,Bool.not_false,Bool.not_true,zA]
   try (refine zU (by kernel_rfl) ?_;first | rfl | simp (disch:=((try simp only[LL]);omega)) only[↓GO,↓DRW,GA,GX,ren,zk,za,refs,z8,cst,zr,isC,bin,una,z7,zd,blt,asArg,zg,zc,zf,z6,E.mkS,unN,ze,zm,zb,GS,simprocAttr,GZ,d1,d2,d3,d4,c2,hget,q1,q3,bne,Bool.not_false,Bool.not_true,zA])
theorem iK (p:z1)(hb:p.y6≤1048576)(l:z1→z1→Str)(hl:∀ p q,(l p q).length≤6)(h:zw):(keyOf p).length≤1048577∧(yV l h p).length≤6:=⟨by have:=ea p;omega,Z6 l hl h p⟩
set_option maxHeartbeats 4000000 in
theorem Wl (T:List Str)(P:List z1)(hB:GB ⟨T,P⟩)(cs:List z1)(hl:cs.length≤1048576)(hb:∀ c∈cs,c.y6≤1048576):∀ (rest pre:List z1) (acc:List Str) (m:Nat) (cap:Option Nat),cs=pre++rest→m=acc.length→m+rest.length≤1073741824→∃ cap',
 EV Tryz.prog pol (.loop 10 250 0 [.ptr 0 0 0,.sl 1 0 m cap,.t (.list 6 (z1.zh cs)),.t (.int .i64 (cs.length:Int)),.t (.int .i64 (pre.length:Int))] [.vs 2 [[.sl 2 0 T.length none,.sl 3 0 P.length none]],.ts 1 (strs acc),.ts 1 (strs T),.vs 6 (ocE (z1.zh P))])
  = some (.loop (.exit 0) [.sl 0 0 (acc++rest.flatMap (vH yZ ⟨T,P⟩)).length cap'] [.ts 1 (strs (acc++rest.flatMap (vH yZ ⟨T,P⟩)))])
 | [],pre,acc,m,cap,hs,hm,hmM=>by
  have c:decide ((pre.length:Int)<(cs.length:Int))=false:=by simp[hs]
  refine⟨cap,?_⟩
  rw[List.flatMap_nil,List.append_nil,← hm]
  clear hB
  refine zo Tryz.func10 rfl rfl ?_
  simp (disch:=((try simp only[LL]);omega)) only[↓GO,↓DRW,GA,GX,ren,zk,za,refs,z8,cst,zr,isC,bin,una,z7,zd,blt,asArg,zg,zc,zf,z6,E.mkS,unN,ze,zm,zb,GS,simprocAttr,zB,zC,yB,yr,yv,yu,yC,gh1,yq,yh,yk,zL,mkO,yf,y8,y9,mvC,unO,zR,yz,yt,yo,zI,yp,yn,zY,oc,oTs,oT,zK,zK.rowTs,yj,isL,E.BX,GZ,c,zA]
 | x :: rest, pre, acc, m, cap, hs, hm, hmM => by
  have c:decide ((pre.length:Int)<(cs.length:Int))=true:=by simp[hs];omega
  have c0:decide ((0:Int)≤(pre.length:Int))=true:=by simp
  have hget:(z1.zh cs)[pre.length]? = some x.enc:=by rw[hs];simp[z1.zh]
  have hlen:pre.length+rest.length+1≤cs.length:=by rw[hs];simp;omega
  have hbx:=hb x (by rw[hs];simp)
  have d1:=Ma x hbx ⟨T,P⟩ hB
  have d2:=mb x (by omega)
  obtain⟨hk1,hk2⟩:=iK x hbx yZ Z9 ⟨T,P⟩
  have hsl:(strs acc).length=m:=by rw[zi,hm]
  have ht1:(strs T).take T.length=strs T:=by rw[← zi T];simp
  have ht2:(ocE (z1.zh P)).take P.length=ocE (z1.zh P):=List.take_of_length_le (by rw[zS,z1.zj];exact Nat.le_refl _)
  simp only[List.length_cons]at hmM
  rw[lY]
  unfold vH
  cases q:(yV yZ ⟨T,P⟩ x==[]) with
  | true =>
   obtain⟨cap',IH⟩:=Wl T P hB cs hl hb rest (pre++[x]) acc m cap (by rw[hs];simp) hm (by omega)
   rw[show ((pre++[x]).length:Int)=(pre.length:Int)+1 by simp]at IH
   refine⟨cap',?_⟩
   rw[cond_true,List.nil_append]
   unfold vH at IH
   generalize acc++rest.flatMap _=Z at *
   generalize yV yZ ⟨T,P⟩ x=lo at *
   generalize keyOf x=kx at *
   clear hs hB hbx
   obtain⟨name,version,source,sums,dev,zn⟩:=x
   simp only[z1.enc,zw.enc,List.map_cons,List.map_nil]at hget d1 d2 IH ⊢
   refine zo Tryz.func10 rfl rfl ?_
   simp (disch:=((try simp only[LL]);omega)) only[↓GO,↓DRW,GA,GX,ren,zk,za,refs,z8,cst,zr,isC,bin,una,z7,zd,blt,asArg,zg,zc,zf,z6,E.mkS,unN,ze,zm,zb,GS,simprocAttr,zB,zC,yB,yr,yv,yu,yC,gh1,yq,yh,yk,zL,mkO,yf,y8,y9,mvC,unO,zR,yz,yt,yo,zI,yp,yn,zY,oc,oTs,oT,zK,zK.rowTs,yj,isL,E.BX,GZ,c,c0,hget,d1,ht1,ht2,List.drop_zero,vh,yJ,yc,q,bne,Bool.not_true,zq,zA,IH]
  | false =>
   obtain⟨cap',IH⟩:=Wl T P hB cs hl hb rest (pre++[x]) (acc++[(keyOf x++[32])++yV yZ ⟨T,P⟩ x]) (m+1) none (by rw[hs];simp) (by simp[hm]) (by omega)
   rw[show ((pre++[x]).length:Int)=(pre.length:Int)+1 by simp,show strs (acc++[(keyOf x++[32])++yV yZ ⟨T,P⟩ x])=strs acc++[[.str ((keyOf x++[32])++yV yZ ⟨T,P⟩ x)]] by simp[strs]]at IH
   refine⟨cap',?_⟩
   rw[cond_false,← List.append_assoc]
   unfold vH at IH
   generalize (acc++[(keyOf x++[32])++yV yZ ⟨T,P⟩ x])++rest.flatMap _=Z at *
   generalize yV yZ ⟨T,P⟩ x=lo at *
   generalize keyOf x=kx at *
   clear hs hB hbx
   obtain⟨name,version,source,sums,dev,zn⟩:=x
   simp only[z1.enc,zw.enc,List.map_cons,List.map_nil]at hget d1 d2 IH ⊢
   refine zo Tryz.func10 rfl rfl ?_
   simp (disch:=((try simp only[LL]);omega)) only[↓GO,↓DRW,GA,GX,ren,zk,za,refs,z8,cst,zr,isC,bin,una,z7,zd,blt,asArg,zg,zc,zf,z6,E.mkS,unN,ze,zm,zb,GS,simprocAttr,zB,zC,yB,yr,yv,yu,yC,gh1,yq,yh,yk,zL,mkO,yf,y8,y9,mvC,unO,zR,yz,yt,yo,zI,yp,yn,zY,oc,oTs,oT,zK,zK.rowTs,yj,isL,E.BX,GZ,c,c0,hget,d1,d2,ht1,ht2,hsl,List.drop_zero,vh,yJ,yc,q,bne,Bool.not_false,zq,List.length_append,List.length_singleton,ya,zA,IH]
theorem fS (f:Int)(g:zw)(hB:GB g):GB (yF f g):=by
 have hfl:∀ (q:zz→Bool) (l:List zz),(l.filter q).length≤l.length∧zz.zX (l.filter q)≤zz.zX l:=py
 have hnr:=mw
 have hmap:∀ (w:z1→z1) (hw:∀ x,(w x).y6≤x.y6) (l:List z1),(l.map w).length=l.length∧z1.zX (l.map w)≤z1.zX l:=fun w hw l=>by
  induction l with
  | nil=>simp
  | cons a r ih =>
   have:=hw a
   simp only[List.map_cons,List.length_cons,z1.zX]
   omega
 have hfil:∀ (q:z1→Bool) (l:List z1),(l.filter q).length≤l.length∧z1.zX (l.filter q)≤z1.zX l:=fun q l=>by
  induction l with
  | nil=>simp
  | cons a r ih =>
   rw[List.filter_cons]
   cases q a<;>simp only[Bool.false_eq_true,if_true,if_false,List.length_cons,z1.zX]<;>omega
 have happ:∀ (l:List z1) (p:z1),z1.zX (l++[p])=z1.zX l+p.y6:=fun l p=>by
  induction l with
  | nil=>simp[z1.zX]
  | cons a r ih=>simp only[List.cons_append,z1.zX,ih];omega
 have hded:∀ (l acc:List z1),(xS acc l).length≤acc.length+l.length∧z1.zX (xS acc l)≤z1.zX acc+z1.zX l:=fun l=>by
  induction l with
  | nil=>intro acc;rw[xS];simp
  | cons p r ih =>
   intro acc
   rw[xS]
   cases acc.any (xB p) with
   | true=>have:=ih acc;rw[cond_true];simp only[List.length_cons,z1.zX];omega
   | false=>have:=ih (acc++[p]);rw[happ]at this;rw[cond_false];simp only[List.length_append,List.length_cons,List.length_nil,z1.zX]at this ⊢;omega
 unfold yF
 cases xt f&&zO g with
 | false=>exact hB
 | true =>
  rw[cond_true]
  unfold GB zw.y6 at hB ⊢
  unfold xn
  have h1 : (oM f g).length ≤ g.packs.length ∧ z1.zX (oM f g) ≤ z1.zX g.packs := by
   unfold oM
   cases f==0<;>simp only[cond_true,cond_false]
   · cases f == 2 <;> simp only [cond_true, cond_false]
     · cases f == 3 <;> simp only [cond_true, cond_false]
       · cases f == 4 <;> simp only [cond_true, cond_false]
         · exact⟨Nat.le_refl _,Nat.le_refl _⟩
         · have:=hded g.packs [];simpa [z1.zX] using this
       · exact hfil _ _
     · have h2 := hfil (fun p => !(p.name == x7)) g.packs
       have h3:=hmap yT hnr (g.packs.filter fun p=>!(p.name==x7))
       omega
   · exact hfil _ _
  have h4:=hmap (zM f) (sC f) (oM f g)
  have h5:(UN f g).length+yg (UN f g)≤g.top.length+yg g.top:=by
   unfold UN
   cases f==0<;>simp only[cond_true,cond_false]
   · cases f == 2 <;> simp only [cond_true, cond_false]
     · simp[yg]
     · exact pz _ g.top
   · exact Nat.le_refl _
  simp only
  omega
theorem QJ (a b:List Str):(a==b)=(b==a):=by
 cases h:(b==a) with
 | true=>rw[eq_of_beq h];simp
 | false=>rw[beq_eq_false_iff_ne]at h ⊢;exact fun e=>h e.symm
set_option maxHeartbeats 4000000 in
theorem c_loI (f:Int)(g:zw)(hB:GB g)(hg:zO g=true):∃ cap,
 EV Tryz.prog pol (.callO false 10 [.t (.int .i64 f),.agg [.t (.list 1 (strs g.top)),.t (.list 6 (z1.zh g.packs))]] [])=some (.call (.sl 0 0 (wY yZ (yF f g) g).length cap) [.ts 1 (strs (wY yZ (yF f g) g))]):=by
 have d1:=tg g hB
 rw[hg]at d1
 have d2:=N7 f g hB
 have hB2:=fS f g hB
 unfold PjI at d2
 have hb:=hB.len
 have hb2:=hB2.len
 generalize yF f g=h at *
 obtain⟨T,P⟩:=h
 simp only at d2 hb2
 have d3:=Ni T g.top (by omega)
 rw[QJ]at d3
 unfold wY
 simp only
 have ht1:(strs T).take T.length=strs T:=by rw[← zi T];simp
 cases q:(g.top==T) with
 | true =>
  rw[q]at d3
  obtain⟨cap,L⟩:=Wl T P hB2 g.packs (by omega) hb.2.2 g.packs [] [] 0 (some 0) rfl rfl (by omega)
  refine⟨cap,?_⟩
  simp only[List.length_nil,Int.natCast_zero,List.nil_append,show strs []=[] from rfl]at L
  rw[cond_true,List.nil_append]
  generalize g.packs.flatMap _=Z at *
  clear hB hB2 hb hb2 hg
  obtain⟨top,packs⟩:=g
  simp only[zw.enc,List.map_cons,List.map_nil]at d1 d2 d3 L ⊢
  refine zH Tryz.func10 rfl (by kernel_rfl) ?_
  unfold Tryz.f10
  simp (disch:=((try simp only[LL]);omega)) only[↓GO,↓DRW,GA,GX,ren,zk,za,refs,z8,cst,zr,isC,bin,una,z7,zd,blt,asArg,zg,zc,zf,z6,E.mkS,unN,ze,zm,zb,GS,simprocAttr,zB,zC,yB,yr,yv,yu,yC,gh1,yq,yh,yk,zL,mkO,yf,y8,y9,mvC,unO,zR,yz,yt,yo,zI,yp,yn,zY,oc,oTs,oT,zK,zK.rowTs,yj,isL,E.BX,GZ,d1,d2,d3,L,ht1,z1.zj,List.drop_zero,yJ,yc,Bool.not_true,zA]
 | false =>
  rw[q]at d3
  obtain⟨cap,L⟩:=Wl T P hB2 g.packs (by omega) hb.2.2 g.packs [] [YK] 1 none rfl rfl (by omega)
  refine⟨cap,?_⟩
  simp only[List.length_nil,Int.natCast_zero,show strs [YK]=[[.str [116,111,112]]] from rfl]at L
  rw[cond_false]
  generalize [YK]++g.packs.flatMap _=Z at *
  clear hB hB2 hb hb2 hg
  obtain⟨top,packs⟩:=g
  simp only[zw.enc,List.map_cons,List.map_nil]at d1 d2 d3 L ⊢
  refine zH Tryz.func10 rfl (by kernel_rfl) ?_
  unfold Tryz.f10
  simp (disch:=((try simp only[LL]);omega)) only[↓GO,↓DRW,GA,GX,ren,zk,za,refs,z8,cst,zr,isC,bin,una,z7,zd,blt,asArg,zg,zc,zf,z6,E.mkS,unN,ze,zm,zb,GS,simprocAttr,zB,zC,yB,yr,yv,yu,yC,gh1,yq,yh,yk,zL,mkO,yf,y8,y9,mvC,unO,zR,yz,yt,yo,zI,yp,yn,zY,oc,oTs,oT,zK,zK.rowTs,yj,isL,E.BX,GZ,d1,d2,d3,L,ht1,z1.zj,List.drop_zero,yJ,yc,Bool.not_true,Bool.not_false,zA,ya]
theorem TT (f:Int)(g:zw)(hB:GB g)(hg:zO g=false) :
 EV Tryz.prog pol (.callO false 10 [.t (.int .i64 f),.agg [.t (.list 1 (strs g.top)),.t (.list 6 (z1.zh g.packs))]] [])=some (.call (.nil 1) []):=by
 have d1:=tg g hB
 rw[hg]at d1
 clear hB hg
 obtain⟨top,packs⟩:=g
 simp only[zw.enc,List.map_cons,List.map_nil]at d1 ⊢
 refine zH Tryz.func10 rfl (by kernel_rfl) ?_
 unfold Tryz.f10
 simp (disch:=((try simp only[LL]);omega)) only[↓GO,↓DRW,GA,GX,ren,zk,za,refs,z8,cst,zr,isC,bin,una,z7,zd,blt,asArg,zg,zc,zf,z6,E.mkS,unN,ze,zm,zb,GS,simprocAttr,zB,zC,yB,yr,yv,yu,yC,gh1,yq,yh,yk,zL,mkO,yf,y8,y9,mvC,unO,zR,yz,yt,yo,zI,yp,yn,zY,oc,oTs,oT,zK,zK.rowTs,yj,isL,E.BX,GZ,d1,Bool.not_false,zA]
set_option maxHeartbeats 4000000 in
theorem Qo (h:zw)(hB:GB h)(gt:T)(cs:List z1)(hl:cs.length≤1048576)(hb:∀ c∈cs,c.y6≤1048576):∀ (rest pre:List z1) (acc:List Str) (m:Nat) (cap:Option Nat),cs=pre++rest→m=acc.length→m+rest.length≤1073741824→∃ cap',
 EV Tryz.prog pol (.loop 16 506 0 [.ptr 0 0 0,.sl 1 0 m cap,.ptr 2 0 0,.t (.int .i64 (pre.length:Int))] [.vs 2 [[.t gt,.t (.list 6 (z1.zh cs))]],.ts 1 (strs acc),.vs 2 [h.enc.map .t]])
  = some (.loop (.exit 0) [.sl 0 0 (acc++rest.flatMap (vH xb h)).length cap'] [.ts 1 (strs (acc++rest.flatMap (vH xb h)))])
 | [],pre,acc,m,cap,hs,hm,hmM=>by
  have c:decide ((pre.length:Int)<(cs.length:Int))=false:=by simp[hs]
  refine⟨cap,?_⟩
  rw[List.flatMap_nil,List.append_nil,← hm]
  clear hB
  obtain⟨top,packs⟩:=h
  simp only[zw.enc,List.map_cons,List.map_nil]
  refine zo Tryz.func16 rfl rfl ?_
  simp (disch:=((try simp only[LL]);omega)) only[↓GO,↓DRW,GA,GX,ren,zk,za,refs,z8,cst,zr,isC,bin,una,z7,zd,blt,asArg,zg,zc,zf,z6,E.mkS,unN,ze,zm,zb,GS,simprocAttr,GZ,c,z1.zj,zA]
 | x :: rest, pre, acc, m, cap, hs, hm, hmM => by
  have c:decide ((pre.length:Int)<(cs.length:Int))=true:=by simp[hs];omega
  have c0:decide ((0:Int)≤(pre.length:Int))=true:=by simp
  have hget:(z1.zh cs)[pre.length]? = some x.enc:=by rw[hs];simp[z1.zh]
  have hlen:pre.length+rest.length+1≤cs.length:=by rw[hs];simp;omega
  have hbx:=hb x (by rw[hs];simp)
  have d1:=ln h (keyOf x) hB
  have d2:=uB x (by omega)
  obtain⟨hk1,hk2⟩:=iK x hbx xb Z7 h
  have hsl:(strs acc).length=m:=by rw[zi,hm]
  have ph:=hB.len.1
  simp only[List.length_cons]at hmM
  rw[lY]
  have hcase:(tk h.packs (keyOf x)=none∧yV xb h x=jo)∨∃ i q,tk h.packs (keyOf x)=some i∧(z1.zh h.packs)[i]? = some q.enc∧i<h.packs.length∧yV xb h x=xb x q:=by
   unfold yV
   cases hf:yS h.packs (keyOf x) with
   | none=>exact .inl ⟨oE hf,rfl⟩
   | some q =>
    obtain⟨hq,hkq,i,hi,hqi⟩:=wg hf
    exact .inr ⟨i,q,hi,by unfold z1.zh;rw[List.getElem?_map,hqi];rfl,(List.getElem?_eq_some_iff.1 hqi).1,rfl⟩
  have IHf:=fun hq:(yV xb h x==[])=false=>Qo h hB gt cs hl hb rest (pre++[x]) (acc++[(keyOf x++[32])++yV xb h x]) (m+1) none (by rw[hs];simp) (by simp[hm]) (by omega)
  have IHt:=fun hq:(yV xb h x==[])=true=>Qo h hB gt cs hl hb rest (pre++[x]) acc m cap (by rw[hs];simp) hm (by omega)
  rw[show ((pre++[x]).length:Int)=(pre.length:Int)+1 by simp]at IHt
  rw[show ((pre++[x]).length:Int)=(pre.length:Int)+1 by simp,show strs (acc++[(keyOf x++[32])++yV xb h x])=strs acc++[[.str ((keyOf x++[32])++yV xb h x)]] by simp[strs]]at IHf
  have eL:vH xb h x=cond (yV xb h x==[]) [] [(keyOf x++[32])++yV xb h x]:=rfl
  rw[eL]
  generalize rest.flatMap (vH xb h)=Zr at *
  generalize yV xb h x=lo at *
  clear hs hB hbx eL
  rcases hcase with⟨hf,rfl⟩ | ⟨i,q,hf,hgi,hil,rfl⟩
  · rw [hf] at d1
    obtain⟨cap',IH⟩:=IHf rfl
    refine⟨cap',?_⟩
    rw[show (jo==[])=false from rfl,cond_false,← List.append_assoc]
    generalize (acc++[(keyOf x++[32])++jo])++Zr=Z at *
    clear IHf IHt
    unfold jo at *
    simp only[ixI]at d1
    generalize keyOf x=kx at *
    obtain⟨name,version,source,sums,dev,zn⟩:=x
    obtain⟨top,packs⟩:=h
    simp only[z1.enc,zw.enc,List.map_cons,List.map_nil]at hget d1 d2 IH ⊢
    refine zo Tryz.func16 rfl rfl ?_
    have hgn:(([103,111,110,101]:List UInt8)==[])=false:=rfl
    simp (disch:=((try simp only[LL]);omega)) only[↓GO,↓DRW,GA,GX,ren,zk,za,refs,z8,cst,zr,isC,bin,una,z7,zd,blt,asArg,zg,zc,zf,z6,E.mkS,unN,ze,zm,zb,GS,simprocAttr,GZ,c,c0,hget,d1,d2,hsl,hgn,z1.zj,bne,Bool.not_false,Bool.not_true,zq,List.length_append,List.length_cons,List.length_nil,ya,zA,IH]
  · rw [hf] at d1
    have d3:=c_l1R x q
    have c2:decide ((i:Int)≥0)=true:=by simp
    simp only[ixI]at d1
    cases hq:(xb x q==[]) with
    | true =>
     obtain⟨cap',IH⟩:=IHt hq
     refine⟨cap',?_⟩
     rw[cond_true,List.nil_append]
     generalize acc++Zr=Z at *
     clear IHf IHt
     generalize xb x q=lo at *
     generalize keyOf x=kx at *
     obtain⟨name,version,source,sums,dev,zn⟩:=x
     obtain⟨name',version',source',sums',dev',needs'⟩:=q
     obtain⟨top,packs⟩:=h
     simp only[z1.enc,zw.enc,List.map_cons,List.map_nil]at hget hgi d1 d2 d3 IH ⊢
     refine zo Tryz.func16 rfl rfl ?_
     simp (disch:=((try simp only[LL]);omega)) only[↓GO,↓DRW,GA,GX,ren,zk,za,refs,z8,cst,zr,isC,bin,una,z7,zd,blt,asArg,zg,zc,zf,z6,E.mkS,unN,ze,zm,zb,GS,simprocAttr,GZ,c,c0,c2,hget,hgi,d1,d2,d3,hsl,z1.zj,hq,bne,Bool.not_false,Bool.not_true,zq,zA,IH]
     all_goals (try (refine zU (by kernel_rfl) ?_;first | rfl | simp (disch:=((try simp only[LL]);omega)) only[↓GO,↓DRW,GA,GX,ren,zk,za,refs,z8,cst,zr,isC,bin,una,z7,zd,blt,asArg,zg,zc,zf,z6,E.mkS,unN,ze,zm,zb,GS,simprocAttr,GZ,c,c0,c2,hget,hgi,d1,d2,d3,hsl,z1.zj,hq,bne,Bool.not_false,Bool.not_true,zq,zA,IH]))
    | false =>
     obtain⟨cap',IH⟩:=IHf hq
     refine⟨cap',?_⟩
     rw[cond_false,← List.append_assoc]
     generalize (acc++[(keyOf x++[32])++xb x q])++Zr=Z at *
     clear IHf IHt
     generalize xb x q=lo at *
     generalize keyOf x=kx at *
     obtain⟨name,version,source,sums,dev,zn⟩:=x
     obtain⟨name',version',source',sums',dev',needs'⟩:=q
     obtain⟨top,packs⟩:=h
     simp only[z1.enc,zw.enc,List.map_cons,List.map_nil]at hget hgi d1 d2 d3 IH ⊢
     refine zo Tryz.func16 rfl rfl ?_
     simp (disch:=((try simp only[LL]);omega)) only[↓GO,↓DRW,GA,GX,ren,zk,za,refs,z8,cst,zr,isC,bin,una,z7,zd,blt,asArg,zg,zc,zf,z6,E.mkS,unN,ze,zm,zb,GS,simprocAttr,GZ,c,c0,c2,hget,hgi,d1,d2,d3,hsl,z1.zj,hq,bne,Bool.not_false,Bool.not_true,zq,List.length_append,List.length_cons,List.length_nil,ya,zA,IH]
     all_goals (try (refine zU (by kernel_rfl) ?_;first | rfl | simp (disch:=((try simp only[LL]);omega)) only[↓GO,↓DRW,GA,GX,ren,zk,za,refs,z8,cst,zr,isC,bin,una,z7,zd,blt,asArg,zg,zc,zf,z6,E.mkS,unN,ze,zm,zb,GS,simprocAttr,GZ,c,c0,c2,hget,hgi,d1,d2,d3,hsl,z1.zj,hq,bne,Bool.not_false,Bool.not_true,zq,List.length_append,List.length_cons,List.length_nil,ya,zA,IH]))
theorem YW (f:Int)(g:zw)(hB:GB g):zu (EV Tryz.prog pol) 14 [.t (.int .i64 f),.agg (g.enc.map .t)]=some (.agg ((yF f g).enc.map .t)):=by
 unfold yF
 cases q:xt f&&zO g with
 | false=>exact TP f g hB q
 | true =>
  rw[Bool.and_eq_true]at q
  rw[cond_true,← WM f (wy q.1) g q.2]
  exact c_pjR f q.1 g hB q.2
set_option maxHeartbeats 4000000 in
theorem c_loR (f:Int)(g:zw)(hB:GB g)(hg:zO g=true):zu (EV Tryz.prog pol) 16 [.t (.int .i64 f),.agg (g.enc.map .t)]=some (.t (.list 1 (strs (wY xb (yF f g) g)))):=by
 have d1:=pT g hB
 rw[hg]at d1
 have d2:=YW f g hB
 have hB2:=fS f g hB
 have hb:=hB.len
 have hb2:=hB2.len
 generalize yF f g=h at *
 have d3:=c_eqR g.top h.top (by omega)
 unfold wY
 have main:∀ (acc:List Str) (hacc:acc.length≤1) (cap:Option Nat),∃ cap',_:=fun acc hacc cap=>Qo h hB2 (.list 1 (strs g.top)) g.packs (by omega) hb.2.2 g.packs [] acc acc.length cap rfl rfl (by omega)
 cases q:(g.top==h.top) with
 | true =>
  rw[q]at d3
  obtain⟨cap,L⟩:=main [] (by simp) (some 0)
  simp only[List.length_nil,Int.natCast_zero,List.nil_append,show strs []=[] from rfl]at L
  rw[cond_true,List.nil_append]
  generalize g.packs.flatMap _=Z at *
  have ht:(strs Z).take Z.length=strs Z:=by rw[← zi Z];simp
  clear hB hB2 hb hb2 hg main
  obtain⟨top,packs⟩:=g
  obtain⟨T,P⟩:=h
  simp only[zw.enc,List.map_cons,List.map_nil]at d1 d2 d3 L ⊢
  apply zx
  refine zy rfl Tryz.func16 rfl (by kernel_rfl) ?_
  unfold Tryz.f16
  simp (disch:=((try simp only[LL]);omega)) only[↓GO,↓DRW,GA,GX,ren,zk,za,refs,z8,cst,zr,isC,bin,una,z7,zd,blt,asArg,zg,zc,zf,z6,E.mkS,unN,ze,zm,zb,GS,simprocAttr,GZ,d1,d2,d3,L,ht,Bool.not_true,zA]
 | false =>
  rw[q]at d3
  obtain⟨cap,L⟩:=main [YK] (by simp) none
  simp only[List.length_nil,List.length_cons,Nat.zero_add,Int.natCast_zero,show strs [YK]=[[.str [116,111,112]]] from rfl]at L
  rw[cond_false]
  generalize [YK]++g.packs.flatMap _=Z at *
  have ht:(strs Z).take Z.length=strs Z:=by rw[← zi Z];simp
  clear hB hB2 hb hb2 hg main
  obtain⟨top,packs⟩:=g
  obtain⟨T,P⟩:=h
  simp only[zw.enc,List.map_cons,List.map_nil]at d1 d2 d3 L ⊢
  apply zx
  refine zy rfl Tryz.func16 rfl (by kernel_rfl) ?_
  unfold Tryz.f16
  simp (disch:=((try simp only[LL]);omega)) only[↓GO,↓DRW,GA,GX,ren,zk,za,refs,z8,cst,zr,isC,bin,una,z7,zd,blt,asArg,zg,zc,zf,z6,E.mkS,unN,ze,zm,zb,GS,simprocAttr,GZ,d1,d2,d3,L,ht,Bool.not_true,Bool.not_false,zA,ya]
theorem TS (f:Int)(g:zw)(hB:GB g)(hg:zO g=false):zu (EV Tryz.prog pol) 16 [.t (.int .i64 f),.agg (g.enc.map .t)]=some (.t (.list 1 [])):=by
 have d1:=pT g hB
 rw[hg]at d1
 clear hB hg
 obtain⟨top,packs⟩:=g
 simp only[zw.enc,List.map_cons,List.map_nil]at d1 ⊢
 apply zx
 refine zy rfl Tryz.func16 rfl (by kernel_rfl) ?_
 unfold Tryz.f16
 simp (disch:=((try simp only[LL]);omega)) only[↓GO,↓DRW,GA,GX,ren,zk,za,refs,z8,cst,zr,isC,bin,una,z7,zd,blt,asArg,zg,zc,zf,z6,E.mkS,unN,ze,zm,zb,GS,simprocAttr,GZ,d1,Bool.not_false,zA]
theorem lossT (f:Int)(g:zw)(hg:zO g=true):wY yZ (yF f g) g=wY xb (yF f g) g:=by
 unfold yF
 cases q:xt f&&zO g with
 | false=>exact V0 g hg
 | true=>exact V1 f g hg
theorem N8 (f:Int)(g:zw)(hB:GB g):zu (EV Tryz.prog pol) 8 [.t (.int .i64 f),.agg (g.enc.map .t)]=some (.agg ((yF f g).enc.map .t)):=by
 have h:=N7 f g hB
 unfold PjI at h
 generalize yF f g=p at *
 refine eg rfl rfl h (h2:=[.fz 1 (strs p.top),.fz 6 (z1.zh p.packs)]) ?_
 have t1:(strs p.top).take p.top.length=strs p.top:=List.take_of_length_le (by rw[zi];exact Nat.le_refl _)
 have t2:(z1.zh p.packs).take p.packs.length=z1.zh p.packs:=List.take_of_length_le (by rw[z1.zj];exact Nat.le_refl _)
 simp only[yE,yE.gives,List.getElem?_cons_zero,List.getElem?_cons_succ,List.set_cons_zero,List.set_cons_succ,eH,List.drop_zero,t1,t2,zw.enc,List.map_cons,List.map_nil]
theorem Nd (f:Int)(g:zw)(hB:GB g):∃ X:List Str,X.length≤1048577∧zu (EV Tryz.prog pol) 10 [.t (.int .i64 f),.agg (g.enc.map .t)]=some (.t (.list 1 (strs X)))∧zu (EV Tryz.prog pol) 16 [.t (.int .i64 f),.agg (g.enc.map .t)]=some (.t (.list 1 (strs X))) ∧
 (zO g=true→X=wY yZ (yF f g) g)∧(zO g=false→X=[]):=by
 cases hg:zO g with
 | false =>
  refine⟨[],by simp,?_,TS f g hB hg,fun h=>(by cases h),fun _=>rfl⟩
  exact eg rfl rfl (TT f g hB hg) (h2:=[]) rfl
 | true =>
  have hl:=V3 yZ (yF f g) g
  have hb:=hB.len
  refine⟨wY yZ (yF f g) g,by omega,?_,?_,fun _=>rfl,fun h=>(by cases h)⟩
  · obtain ⟨cap, h⟩ := c_loI f g hB hg
    generalize wY yZ (yF f g) g=X at *
    have t1:(strs X).take X.length=strs X:=List.take_of_length_le (by rw[zi];exact Nat.le_refl _)
    refine eg rfl rfl h (h2:=[.fz 1 (strs X)]) ?_
    simp only[yE,List.getElem?_cons_zero,List.set_cons_zero,List.drop_zero,t1]
  · rw[lossT f g hg];exact c_loR f g hB hg
set_option maxHeartbeats 8000000 in
theorem Zs (code:List Int)(hb:okB code):zu (EV Tryz.prog pol) 3 [.t (.list 1 (xE code))]=some (.t (.bool true)):=by
 obtain⟨f,g,hg,d2⟩:=ak code hb
 obtain⟨l,h,hh,d3⟩:=TW code hb
 obtain⟨n,d4⟩:=TY code hb
 obtain⟨w,d5⟩:=TX code hb
 have d1:=Nk code
 have hlen:=hb.1
 rw[show decide ((code.length:Int) > 1048576)=false by apply decide_eq_false;omega]at d1
 have hBg:GB g:=by have:=hg.2;unfold GB;omega
 have hBh:GB h:=by have:=hh.2;unfold GB;omega
 have hBp:=fS f g hBg
 obtain⟨X,hXl,x1,x2,_,_⟩:=Nd l h hBh
 obtain⟨Y,hYl,y1,_,y3,y4⟩:=Nd f g hBg
 have d6:=N8 f g hBg
 have d7:=YW f g hBg
 have d8:=N2 (yF f g) (yF f g) hBp
 rw[rC.2 rfl]at d8
 have d9:=Qv X X (by omega)
 rw[beq_self_eq_true]at d9
 have d10:=Me n
 have d11:=Q0 n
 have d12:=Ng w
 have d13:=c_foR w
 have d14:=Ng (vt n)
 have d15:=NO n
 have d16:=pT g hBg
 have hfm:xt n=true→fD (vt n)=n:=TA n
 have hpk:=WN f g
 have d17:=N2 (yF f g) g hBp
 have d18:=tg (yF f g) hBp
 have d19:=N8 f (yF f g) hBp
 have hY:zO g=true→((Y.length:Int)==0)=n5 (yF f g) g:=fun ho=>by
  have h1:=V2 f ho
  rw[← y3 ho]at h1
  cases hs:n5 (yF f g) g with
  | true=>rw[h1.2 (rC.1 hs)];rfl
  | false =>
   rw[beq_eq_false_iff_ne]
   intro e
   have:Y=[]:=List.eq_nil_of_length_eq_zero (by omega)
   rw[rC.2 (h1.1 this)]at hs
   cases hs
 have hno:zO g=false→yF f g=g:=fun ho=>by unfold yF;rw[ho,Bool.and_false];rfl
 have hok:zO g=true→zO (yF f g)=true∧yF f (yF f g)=yF f g:=fun ho=>⟨Tg f ho,dc f ho⟩
 have c1:decide (((yF f g).packs.length:Int)≤(g.packs.length:Int))=true:=by apply decide_eq_true;omega
 have fin:∀ b:Bool,zO g=b→(vt n==[]) = !xt n→zu (EV Tryz.prog pol) 3 [.t (.list 1 (xE code))]=some (.t (.bool true)):=fun b ho hq=>by
  cases b with
  | false =>
   have e:=hno ho
   rw[ho]at d16
   rw[e]at d6 d7 d8 d17
   rw[rC.2 rfl]at d17
   obtain rfl:=y4 ho
   clear hY hno hok d18 d19 c1 hpk hBp hBg hBh hg hh hb y3 y4 e ho d15
   simp only[show strs []=[] from rfl]at y1
   obtain⟨top,ps⟩:=g
   obtain⟨top',ps'⟩:=h
   simp only[zw.enc,List.map_cons,List.map_nil]at d2 d3 d6 d7 d8 d16 d17 x1 x2 y1 ⊢
   cases q:xt n with
   | false =>
    rw[q]at hq
    apply zx
    refine zy rfl Tryz.func3 rfl (by kernel_rfl) ?_
    unfold Tryz.f3
    simp (maxSteps:=1000000) (disch:=((try simp only[LL]);omega)) only[↓GO,↓DRW,GA,GX,ren,zk,za,refs,z8,cst,zr,isC,bin,una,z7,zd,blt,asArg,zg,zc,zf,z6,E.mkS,unN,ze,zm,zb,GS,simprocAttr,zB,zC,yB,yr,yv,yu,yC,gh1,yq,yh,yk,zL,mkO,yf,y8,y9,mvC,unO,zR,yz,yt,yo,zI,yp,yn,zY,oc,oTs,oT,zK,zK.rowTs,yj,isL,E.BX,GZ,d1,d2,d3,d4,d5,d6,d7,d8,d9,d10,d11,d12,d13,d14,d16,d17,x1,x2,y1,hq,bne,Bool.not_true,Bool.not_false,zA]
   | true =>
    rw[q]at hq
    rw[hfm q]at d14
    apply zx
    refine zy rfl Tryz.func3 rfl (by kernel_rfl) ?_
    unfold Tryz.f3
    simp (maxSteps:=1000000) (disch:=((try simp only[LL]);omega)) only[↓GO,↓DRW,GA,GX,ren,zk,za,refs,z8,cst,zr,isC,bin,una,z7,zd,blt,asArg,zg,zc,zf,z6,E.mkS,unN,ze,zm,zb,GS,simprocAttr,zB,zC,yB,yr,yv,yu,yC,gh1,yq,yh,yk,zL,mkO,yf,y8,y9,mvC,unO,zR,yz,yt,yo,zI,yp,yn,zY,oc,oTs,oT,zK,zK.rowTs,yj,isL,E.BX,GZ,d1,d2,d3,d4,d5,d6,d7,d8,d9,d10,d11,d12,d13,d14,d16,d17,x1,x2,y1,hq,bne,Bool.not_true,Bool.not_false,zA]
  | true =>
   have e:=hY ho
   obtain⟨k1,k2⟩:=hok ho
   rw[ho]at d16
   rw[k1]at d18
   rw[k2]at d19
   clear hY hno hok hpk hBp hBg hBh hg hh hb y3 y4 ho d15
   generalize n5 (yF f g) g=sg at *
   generalize yF f g=p at *
   obtain⟨top,ps⟩:=g
   obtain⟨top',ps'⟩:=h
   obtain⟨top2,ps2⟩:=p
   simp only[zw.enc,List.map_cons,List.map_nil]at d2 d3 d6 d7 d8 d16 d17 d18 d19 x1 x2 y1 c1 ⊢
   have hyl:=zi Y
   generalize strs Y=YY at *
   cases q:xt n with
   | false =>
    rw[q]at hq
    apply zx
    refine zy rfl Tryz.func3 rfl (by kernel_rfl) ?_
    unfold Tryz.f3
    simp (maxSteps:=1000000) (disch:=((try simp only[LL]);omega)) only[↓GO,↓DRW,GA,GX,ren,zk,za,refs,z8,cst,zr,isC,bin,una,z7,zd,blt,asArg,zg,zc,zf,z6,E.mkS,unN,ze,zm,zb,GS,simprocAttr,zB,zC,yB,yr,yv,yu,yC,gh1,yq,yh,yk,zL,mkO,yf,y8,y9,mvC,unO,zR,yz,yt,yo,zI,yp,yn,zY,oc,oTs,oT,zK,zK.rowTs,yj,isL,E.BX,GZ,d1,d2,d3,d4,d5,d6,d7,d8,d9,d10,d11,d12,d13,d14,d16,d17,d18,d19,x1,x2,y1,hq,hyl,e,c1,z1.zj,bne,Bool.not_true,Bool.not_false,beq_self_eq_true,zA]
   | true =>
    rw[q]at hq
    rw[hfm q]at d14
    apply zx
    refine zy rfl Tryz.func3 rfl (by kernel_rfl) ?_
    unfold Tryz.f3
    simp (maxSteps:=1000000) (disch:=((try simp only[LL]);omega)) only[↓GO,↓DRW,GA,GX,ren,zk,za,refs,z8,cst,zr,isC,bin,una,z7,zd,blt,asArg,zg,zc,zf,z6,E.mkS,unN,ze,zm,zb,GS,simprocAttr,zB,zC,yB,yr,yv,yu,yC,gh1,yq,yh,yk,zL,mkO,yf,y8,y9,mvC,unO,zR,yz,yt,yo,zI,yp,yn,zY,oc,oTs,oT,zK,zK.rowTs,yj,isL,E.BX,GZ,d1,d2,d3,d4,d5,d6,d7,d8,d9,d10,d11,d12,d13,d14,d16,d17,d18,d19,x1,x2,y1,hq,hyl,e,c1,z1.zj,bne,Bool.not_true,Bool.not_false,beq_self_eq_true,zA]
 exact fin _ rfl d15
theorem O0 (code:List Int)(hc:∀ b∈code,0≤b∧b≤255):zu (EV Tryz.prog pol) 3 [.t (.list 1 (xE code))]=some (.t (.bool true)):=by
 by_cases h:code.length≤1048576
 · exact Zs code ⟨h,hc⟩
 · have d1 := Nk code
   rw[show decide ((code.length:Int) > 1048576)=true by apply decide_eq_true;omega]at d1
   apply zx
   refine zy rfl Tryz.func3 rfl (by kernel_rfl) ?_
   unfold Tryz.f3
   simp (maxSteps:=1000000) (disch:=((try simp only[LL]);omega)) only[↓GO,↓DRW,GA,GX,ren,zk,za,refs,z8,cst,zr,isC,bin,una,z7,zd,blt,asArg,zg,zc,zf,z6,E.mkS,unN,ze,zm,zb,GS,simprocAttr,zB,zC,yB,yr,yv,yu,yC,gh1,yq,yh,yk,zL,mkO,yf,y8,y9,mvC,unO,zR,yz,yt,yo,zI,yp,yn,zY,oc,oTs,oT,zK,zK.rowTs,yj,isL,E.BX,GZ,d1,zA]
theorem Tryz.own:ownKnob Tryz.prog.godebug=none:=by kernel_rfl
theorem Tryz.kids:Kids Tryz.prog (· < Tryz.prog.types.size):=kids_rows (by kernel_rfl) (by kernel_rfl)
theorem Tryz.full:∀ t e,t<Tryz.prog.types.size→Tryz.prog.underlying t=some (.slice e)→0<Tryz.prog.cellsOf e:=slices_full_of Tryz.prog (by kernel_rfl)
theorem Sj {cs:List T}(h:WT Tryz.prog 22 cs):∃ bs:List Int,cs=[.list 1 (xE bs)]∧∀ b∈bs,0≤b∧b≤255:=by
 obtain⟨es,e1,e2,e3⟩:=h.Tu Tryz.underlying22
 have k0:Tryz.prog.cellsOf 5=1:=by kernel_rfl
 have key:∀ es:List (List T),(∀ c∈es,WT Tryz.prog 5 c)→∃ bs:List Int,es=xE bs∧∀ b∈bs,0≤b∧b≤255:=fun es=>by
  induction es with
  | nil=>exact fun _=>⟨[],rfl,fun b hb=>by simp at hb⟩
  | cons c es ih =>
   intro h
   obtain⟨bs,a1,a2⟩:=ih fun c' hc=>h c' (by simp[hc])
   obtain⟨n,a3,a4⟩:=(h c (by simp)).Pu Tryz.underlying5
   refine⟨n::bs,by simp[xE,a1,a3],fun b hb=>?_⟩
   rcases List.mem_cons.1 hb with rfl | hb
   · simp [Lit.wf, IntKind.min, IntKind.max, IntKind.bits, IntKind.signed] at a4
     omega
   · exact a2 b hb
 obtain⟨bs,a1,a2⟩:=key es e3
 subst a1
 exact⟨bs,by rw[e1,k0],a2⟩
theorem S1 (g:Nat)(hl:∀ code:List Int,(∀ b∈code,0≤b∧b≤255)→zu (EV Tryz.prog pol) g [.t (.list 1 (xE code))]=some (.t (.bool true)))(xs:List V)(h:WTA Tryz.prog [22] xs) :
 EV Tryz.prog pol (.call g xs [])=some (.call (.t (.bool true)) []):=by
 obtain⟨cs,v,vs,rfl,h1,h2,h3⟩:=h.Tv
 have:=h3.Pt
 subst this
 obtain⟨bs,rfl,hb⟩:=Sj h1
 have e0:zW Tryz.prog 22=false:=by kernel_rfl
 rw[e0]at h2
 simp[zd]at h2
 subst h2
 have hq:=hl bs hb
 unfold zu at hq
 split at hq
 · rename_i v he;cases hq;exact he
 · cases hq
end Go.Proofs.YtefkoljdebekdaaGreatDoor

/- Joined: K7 J5 M1 M2 M3 M4 M5 M6 M7 M8 M9 B1 K8 V4 K9 G3 V5 V6 V7 V8 V9 V10 V11 K25 I4 V12 G5 V13 K32. Conditions: those of each lemma. -/
import Derived.Test.YtefkoljdebekdaaGreatDoorqK
import Derived.Test.YtefkoljdebekdaaGreatDoorqJ
import Derived.Test.YtefkoljdebekdaaGreatDoorqI
set_option linter.unusedVariables false
set_option linter.unusedSimpArgs false
set_option maxRecDepth 100000
namespace Go.Proofs.YtefkoljdebekdaaGreatDoor
open E
theorem mb (p:z1)(hb:p.y6≤4194304):zu (EV Tryz.prog pol) 67 [.agg (p.enc.map .t)]=some (.t (.str (keyOf p))):=by
 obtain⟨name,version,source,sums,dev,zn⟩:=p
 simp only[z1.y6]at hb
 simp only[z1.enc,List.map_cons,List.map_nil,keyOf]
 apply zx
 refine zy rfl Tryz.func67 rfl (by kernel_rfl) ?_
 unfold Tryz.f67
 simp (disch:=((try simp only[LL]);omega)) only[↓GO,↓DRW,GA,GX,ren,zk,za,refs,z8,cst,zr,isC,bin,una,z7,zd,blt,asArg,zg,zc,zf,z6,E.mkS,unN,ze,zm,zb,GS,simprocAttr,GZ,ya]
theorem uB (p:z1)(hb:p.y6≤4194304):zu (EV Tryz.prog pol) 74 [.agg (p.enc.map .t)]=some (.t (.str (keyOf p))):=by
 obtain⟨name,version,source,sums,dev,zn⟩:=p
 simp only[z1.y6]at hb
 simp only[z1.enc,List.map_cons,List.map_nil,keyOf]
 apply zx
 refine zy rfl Tryz.func74 rfl (by kernel_rfl) ?_
 unfold Tryz.f74
 simp (disch:=((try simp only[LL]);omega)) only[↓GO,↓DRW,GA,GX,ren,zk,za,refs,z8,cst,zr,isC,bin,una,z7,zd,blt,asArg,zg,zc,zf,z6,E.mkS,unN,ze,zm,zb,GS,simprocAttr,GZ,ya]
theorem c_slI (a:Str):zu (EV Tryz.prog pol) 201 [.t (.str a)]=some (.t (.int .i64 (uZ a))):=by
 unfold uZ Qd fN h1S fM
 cases h1:(a==[115,104,97,49])<;>cases h2:(a==[115,104,97,50,53,54])<;>cases h3:(a==[104,49])<;>cases h4:(a==[115,104,97,53,49,50])
 all_goals
  apply zx
  refine zy rfl Tryz.func201 rfl (by kernel_rfl) ?_
  unfold Tryz.f201
  simp (disch:=((try simp only[LL]);omega)) only[↓GO,↓DRW,GA,GX,ren,zk,za,refs,z8,cst,zr,isC,bin,una,z7,zd,blt,asArg,zg,zc,zf,z6,E.mkS,unN,ze,zm,zb,GS,simprocAttr,GZ,h1,h2,h3,h4]
theorem N3 (a:Str):zu (EV Tryz.prog pol) 149 [.t (.str a)]=some (.t (.int .i64 (uZ a))):=by
 unfold uZ Qd fN h1S fM
 cases h1:(a==[115,104,97,49])<;>cases h2:(a==[115,104,97,50,53,54])<;>cases h3:(a==[104,49])<;>cases h4:(a==[115,104,97,53,49,50])
 all_goals
  apply zx
  refine zy rfl Tryz.func149 rfl (by kernel_rfl) ?_
  unfold Tryz.f149
  simp (disch:=((try simp only[LL]);omega)) only[↓GO,↓DRW,GA,GX,ren,zk,za,refs,z8,cst,zr,isC,bin,una,z7,zd,blt,asArg,zg,zc,zf,z6,E.mkS,unN,ze,zm,zb,GS,simprocAttr,GZ,h1,h2,h3,h4]
theorem Xn (es:List zz)(hl:es.length≤4194304):∀ (rest pre:List zz),es=pre++rest →
 EV Tryz.prog pol (.loop 152 26 0 [.t (.list 2 (zz.zh es)),.t (.list 2 (zz.zh es)),.t (.int .i64 (es.length:Int)),.t (.int .i64 (pre.length:Int))] [])=some (cond (wQ (pre.getLast?.map zz.alg) rest) (.loop (.exit 0) [.bad] []) (.loop .ret [.t (.bool false)] []))
 | [],pre,hs=>by
  have c:decide ((pre.length:Int)<(es.length:Int))=false:=by simp[hs]
  refine zo Tryz.func152 rfl rfl ?_
  simp (disch:=((try simp only[LL]);omega)) only[↓GO,↓DRW,GA,GX,ren,zk,za,refs,z8,cst,zr,isC,bin,una,z7,zd,blt,asArg,zg,zc,zf,z6,E.mkS,unN,ze,zm,zb,GS,simprocAttr,GZ,c,wQ]
 | x :: rest, pre, hs => by
  have c:decide ((pre.length:Int)<(es.length:Int))=true:=by simp[hs];omega
  have hget:(zz.zh es)[pre.length]? = some [.str x.alg,.str x.bytes]:=by rw[hs];exact sP zz.enc pre x rest
  have hlen:pre.length+rest.length+1≤es.length:=by rw[hs];simp;omega
  have IH:=Xn es hl rest (pre++[x]) (by rw[hs];simp)
  have hk:=c_slI x.alg
  rw[show ((pre++[x]).length:Int)=(pre.length:Int)+1 by simp,show (pre++[x]).getLast?.map zz.alg=some x.alg by simp]at IH
  rw[wQ]
  generalize uZ x.alg=n at *
  rcases wI pre with rfl | ⟨pre',q,rfl⟩
  · clear hs
    simp only[List.length_nil,List.getLast?_nil,Option.map_none,vA,Int.natCast_zero,Int.zero_add]at *
    cases h1:((x.bytes.length:Int)==n)
    all_goals
     refine zo Tryz.func152 rfl rfl ?_
     simp (disch:=((try simp only[LL]);omega)) only[↓GO,↓DRW,GA,GX,ren,zk,za,refs,z8,cst,zr,isC,bin,una,z7,zd,blt,asArg,zg,zc,zf,z6,E.mkS,unN,ze,zm,zb,GS,simprocAttr,GZ,zz.zj,c,hget,zq,hk,h1,bne,IH,Int.zero_add]
  · have hprev : tM (zz.zh es) (((pre' ++ [q]).length : Int) - 1) = some [.str q.alg, .str q.bytes] := by rw [hs]; exact s9 zz.enc pre' q (x :: rest)
    have hge:1≤(pre'++[q]).length:=by simp
    have hgt:decide (((pre'++[q]).length:Int) > 0)=true:=by simp only[decide_eq_true_eq];omega
    have hcmp:=oO x.alg q.alg
    rw[show (pre'++[q]).getLast?.map zz.alg=some q.alg by simp]
    simp only[vA]
    clear hs
    generalize (pre'++[q]).length=m at *
    cases h1:((x.bytes.length:Int)==n)<;>cases h2:Op.bytesLess q.alg x.alg<;>rw[h2]at hcmp
    all_goals
     refine zo Tryz.func152 rfl rfl ?_
     simp (disch:=((try simp only[LL]);omega)) only[↓GO,↓DRW,GA,GX,ren,zk,za,refs,z8,cst,zr,isC,bin,una,z7,zd,blt,asArg,zg,zc,zf,z6,E.mkS,unN,ze,zm,zb,GS,simprocAttr,GZ,zz.zj,c,hget,zq,hk,h1,bne,hgt,hprev,hcmp,IH]
theorem PQ (es:List zz)(hl:es.length≤4194304):zu (EV Tryz.prog pol) 152 [.t (.list 2 (zz.zh es))]=some (.t (.bool (wQ none es))):=by
 have IH:=Xn es hl es [] rfl
 simp only[List.length_nil,Int.natCast_zero,List.getLast?_nil,Option.map_none]at IH
 apply zx
 refine zy rfl Tryz.func152 rfl (by kernel_rfl) ?_
 unfold Tryz.f152
 cases h:wQ none es<;>rw[h]at IH<;>simp only[cond_true,cond_false]at IH<;>simp (disch:=((try simp only[LL]);omega)) only[↓GO,↓DRW,GA,GX,ren,zk,za,refs,z8,cst,zr,isC,bin,una,z7,zd,blt,asArg,zg,zc,zf,z6,E.mkS,unN,ze,zm,zb,GS,simprocAttr,GZ,zz.zj,IH]
theorem Xo (p:z1)(hb:p.y6≤4194304):∀ (rest pre:List zz),p.sums=pre++rest →
 EV Tryz.prog pol (.loop 82 26 0 [.ptr 0 0 0,.t (.int .i64 (pre.length:Int))] [.vs 6 [p.enc.map .t]])=some (cond (wQ (pre.getLast?.map zz.alg) rest) (.loop (.exit 0) [.ptr 0 0 0,.bad] [.vs 6 [p.enc.map .t]]) (.loop .ret [.ptr 0 0 0,.t (.bool false)] [.vs 6 [p.enc.map .t]]))
 | [],pre,hs=>by
  have c:decide ((pre.length:Int)<(p.sums.length:Int))=false:=by simp[hs]
  simp only[z1.enc,List.map_cons,List.map_nil]
  refine zo Tryz.func82 rfl rfl ?_
  simp (disch:=((try simp only[LL]);omega)) only[↓GO,↓DRW,GA,GX,ren,zk,za,refs,z8,cst,zr,isC,bin,una,z7,zd,blt,asArg,zg,zc,zf,z6,E.mkS,unN,ze,zm,zb,GS,simprocAttr,GZ,c,zz.zj,wQ,zA]
 | x :: rest, pre, hs => by
  have c:decide ((pre.length:Int)<(p.sums.length:Int))=true:=by simp[hs];omega
  have hget:(zz.zh p.sums)[pre.length]? = some [.str x.alg,.str x.bytes]:=by rw[hs];exact sP zz.enc pre x rest
  have hlen:pre.length+rest.length+1≤p.sums.length:=by rw[hs];simp;omega
  have hpb:p.sums.length≤4194304:=by unfold z1.y6 at hb;omega
  have IH:=Xo p hb rest (pre++[x]) (by rw[hs];simp)
  have hk:=N3 x.alg
  rw[show ((pre++[x]).length:Int)=(pre.length:Int)+1 by simp,show (pre++[x]).getLast?.map zz.alg=some x.alg by simp]at IH
  rw[wQ]
  have hco:((x.bytes.length:Int)==uZ x.alg)=(uZ x.alg==(x.bytes.length:Int)):=Bool.beq_comm
  rw[hco]
  generalize uZ x.alg=n at *
  simp only[z1.enc,List.map_cons,List.map_nil]at IH ⊢
  rcases wI pre with rfl | ⟨pre',q,rfl⟩
  · clear hs
    simp only[List.length_nil,List.getLast?_nil,Option.map_none,vA,Int.natCast_zero,Int.zero_add]at *
    cases h1:(n==(x.bytes.length:Int))
    all_goals
     refine zo Tryz.func82 rfl rfl ?_
     simp (disch:=((try simp only[LL]);omega)) only[↓GO,↓DRW,GA,GX,ren,zk,za,refs,z8,cst,zr,isC,bin,una,z7,zd,blt,asArg,zg,zc,zf,z6,E.mkS,unN,ze,zm,zb,GS,simprocAttr,GZ,zz.zj,c,hget,zq,hk,h1,bne,IH,Int.zero_add,zA]
  · have hprev : tM (zz.zh p.sums) (((pre' ++ [q]).length : Int) - 1) = some [.str q.alg, .str q.bytes] := by rw [hs]; exact s9 zz.enc pre' q (x :: rest)
    have hge:1≤(pre'++[q]).length:=by simp
    have hgt:decide (((pre'++[q]).length:Int) > 0)=true:=by simp only[decide_eq_true_eq];omega
    rw[show (pre'++[q]).getLast?.map zz.alg=some q.alg by simp]
    simp only[vA]
    clear hs
    generalize (pre'++[q]).length=m at *
    cases h1:(n==(x.bytes.length:Int))<;>cases h2:Op.bytesLess q.alg x.alg
    all_goals
     refine zo Tryz.func82 rfl rfl ?_
     simp (disch:=((try simp only[LL]);omega)) only[↓GO,↓DRW,GA,GX,ren,zk,za,refs,z8,cst,zr,isC,bin,una,z7,zd,blt,asArg,zg,zc,zf,z6,E.mkS,unN,ze,zm,zb,GS,simprocAttr,GZ,zz.zj,c,hget,zq,hk,h1,bne,hgt,hprev,h2,IH,zA]
theorem PE (s:Str):((exT s).length:Int)=cond (vE s).isSome 1 0:=by
 unfold exT
 cases vE s<;>rfl
theorem PV (p:z1)(hb:p.y6≤1048576):zu (EV Tryz.prog pol) 82 [.agg (p.enc.map .t)]=some (.t (.bool (wu p))):=by
 have L:=Xo p (by omega) p.sums [] rfl
 simp only[z1.y6]at hb
 have h1:=PX p.name (by omega)
 have h2:=c_exR p.version (by omega)
 have h3:=TM p.source (by omega)
 have h4:=PE p.version
 simp only[List.length_nil,Int.natCast_zero,List.getLast?_nil,Option.map_none]at L
 simp only[z1.enc,List.map_cons,List.map_nil]at L ⊢
 unfold wu
 generalize exT p.version=et at *
 generalize wQ none p.sums=b1 at *
 generalize rS p.name=b2 at *
 generalize tD p.source=b3 at *
 generalize (vE p.version).isSome=b4 at *
 cases b1<;>simp only[cond_true,cond_false]at L<;>cases b2<;>cases b4<;>simp only[cond_true,cond_false]at h4<;>cases b3
 all_goals
  apply zx
  refine zy rfl Tryz.func82 rfl (by kernel_rfl) ?_
  unfold Tryz.f82
  simp (disch:=((try simp only[LL]);omega)) only[↓GO,↓DRW,GA,GX,ren,zk,za,refs,z8,cst,zr,isC,bin,una,z7,zd,blt,asArg,zg,zc,zf,z6,E.mkS,unN,ze,zm,zb,GS,simprocAttr,GZ,L,h1,h2,h3,h4,zA,zz.zj]
theorem TD (s:Str):((exT s).length:Int)=cond (vE s).isSome 1 0:=by
 unfold exT
 cases vE s<;>rfl
theorem PW (p:z1)(hb:p.y6≤1048576):zu (EV Tryz.prog pol) 84 [.agg (p.enc.map .t)]=some (.t (.bool (wu p))):=by
 simp only[z1.y6]at hb
 have L:=PQ p.sums (by omega)
 have h1:=PY p.name (by omega)
 have h2:=c_exI p.version (by omega)
 have h3:=TN p.source (by omega)
 have h4:=TD p.version
 simp only[z1.enc,List.map_cons,List.map_nil]
 unfold wu
 generalize exT p.version=et at *
 generalize wQ none p.sums=b1 at *
 generalize rS p.name=b2 at *
 generalize tD p.source=b3 at *
 generalize (vE p.version).isSome=b4 at *
 cases b1<;>cases b2<;>cases b4<;>simp only[cond_true,cond_false]at h4<;>cases b3
 all_goals
  apply zx
  refine zy rfl Tryz.func84 rfl (by kernel_rfl) ?_
  unfold Tryz.f84
  simp (disch:=((try simp only[LL]);omega)) only[↓GO,↓DRW,GA,GX,ren,zk,za,refs,z8,cst,zr,isC,bin,una,z7,zd,blt,asArg,zg,zc,zf,z6,E.mkS,unN,ze,zm,zb,GS,simprocAttr,GZ,L,h1,h2,h3,h4,zA,zz.zj]
def GB (g:zw):Prop:=g.y6≤1048576
theorem GB.len {g:zw}(h:GB g):g.packs.length≤1048576∧g.top.length+yg g.top≤1048576∧∀ p∈g.packs,p.y6≤1048576:=by
 unfold GB zw.y6 at h
 refine⟨by omega,by omega,fun p hp=>?_⟩
 have:=z1.xa hp
 omega
theorem O5 (p:z1)(k:Str)(hb:p.y6≤1048576):zu (EV Tryz.prog pol) 98 [.agg (p.enc.map .t),.t (.fp [.str k])]=some (.t (.bool (keyOf p==k))):=by
 have h:=mb p (by omega)
 simp only[z1.enc,List.map_cons,List.map_nil]at h ⊢
 apply zx
 refine zy rfl Tryz.func98 rfl (by kernel_rfl) ?_
 unfold Tryz.f98
 simp (disch:=((try simp only[LL]);omega)) only[↓GO,↓DRW,GA,GX,ren,zk,za,refs,z8,cst,zr,isC,bin,una,z7,zd,blt,asArg,zg,zc,zf,z6,E.mkS,unN,ze,zm,zb,GS,simprocAttr,GZ,h]
theorem ev (g:zw)(k:Str)(hB:GB g):zu (EV Tryz.prog pol) 29 [.agg (g.enc.map .t),.t (.str k)]=some (.t (.int .i64 (ixI (tk g.packs k)))):=by
 obtain⟨b1,b2,b3⟩:=hB.len
 have h:=ue 98 [.fp [.str k]] (fun p=>keyOf p==k) g.packs (by omega) (fun x hx=>O5 x k (b3 x hx))
 simp only[zw.enc,List.map_cons,List.map_nil]at h ⊢
 unfold tk
 apply zx
 refine zy rfl Tryz.func29 rfl (by kernel_rfl) ?_
 unfold Tryz.f29
 simp (disch:=((try simp only[LL]);omega)) only[↓GO,↓DRW,GA,GX,ren,zk,za,refs,z8,cst,zr,isC,bin,una,z7,zd,blt,asArg,zg,zc,zf,z6,E.mkS,unN,ze,zm,zb,GS,simprocAttr,GZ,h,wH,zA]
theorem Xu (g:zw)(k:Str)(hB:GB g):∀ (rest pre:List z1),g.packs=pre++rest →
 EV Tryz.prog pol (.loop 77 26 0 [.t (.str k),.ptr 0 0 0,.t (.int .i64 (pre.length:Int))] [.vs 2 [g.enc.map .t]])=some (match xU (fun p=>keyOf p==k) rest pre.length with | some i=>.loop .ret [.t (.int .i64 (i:Int))] [] | none=>.loop (.exit 0) [.bad] [])
 | [],pre,hs=>by
  have c:decide ((pre.length:Int)<(g.packs.length:Int))=false:=by simp[hs]
  simp only[zw.enc,List.map_cons,List.map_nil]
  refine zo Tryz.func77 rfl rfl ?_
  simp (disch:=((try simp only[LL]);omega)) only[↓GO,↓DRW,GA,GX,ren,zk,za,refs,z8,cst,zr,isC,bin,una,z7,zd,blt,asArg,zg,zc,zf,z6,E.mkS,unN,ze,zm,zb,GS,simprocAttr,GZ,c,z1.zj,xU,zA]
 | x :: rest, pre, hs => by
  obtain⟨b1,b2,b3⟩:=hB.len
  have c:decide ((pre.length:Int)<(g.packs.length:Int))=true:=by simp[hs];omega
  have hget:(z1.zh g.packs)[pre.length]? = some x.enc:=by rw[hs];exact sP z1.enc pre x rest
  have hlen:pre.length+rest.length+1≤g.packs.length:=by rw[hs];simp;omega
  have hk:=uB x (by have:=b3 x (by rw[hs];simp);omega)
  have IH:=Xu g k hB rest (pre++[x]) (by rw[hs];simp)
  rw[show ((pre++[x]).length:Int)=(pre.length:Int)+1 by simp,show (pre++[x]).length=pre.length+1 by simp]at IH
  clear hs
  simp only[zw.enc,z1.enc,List.map_cons,List.map_nil]at hget hk IH ⊢
  rw[xU]
  cases h1:(keyOf x==k)
  all_goals
   refine zo Tryz.func77 rfl rfl ?_
   simp (disch:=((try simp only[LL]);omega)) only[↓GO,↓DRW,GA,GX,ren,zk,za,refs,z8,cst,zr,isC,bin,una,z7,zd,blt,asArg,zg,zc,zf,z6,E.mkS,unN,ze,zm,zb,GS,simprocAttr,GZ,c,z1.zj,hget,hk,h1,zq,IH,zA]
theorem ln (g:zw)(k:Str)(hB:GB g):zu (EV Tryz.prog pol) 77 [.agg (g.enc.map .t),.t (.str k)]=some (.t (.int .i64 (ixI (tk g.packs k)))):=by
 have L:=Xu g k hB g.packs [] rfl
 simp only[List.length_nil,Int.natCast_zero]at L
 simp only[zw.enc,List.map_cons,List.map_nil]at L ⊢
 unfold tk
 cases hf:xU (fun p=>keyOf p==k) g.packs 0<;>rw[hf]at L<;>simp only at L
 all_goals
  apply zx
  refine zy rfl Tryz.func77 rfl (by kernel_rfl) ?_
  unfold Tryz.f77
  simp (disch:=((try simp only[LL]);omega)) only[↓GO,↓DRW,GA,GX,ren,zk,za,refs,z8,cst,zr,isC,bin,una,z7,zd,blt,asArg,zg,zc,zf,z6,E.mkS,unN,ze,zm,zb,GS,simprocAttr,GZ,L,ixI,zA]
theorem Xt (g:zw)(hB:GB g)(ks:List Str)(hl:ks.length≤1048576):∀ (rest pre:List Str),ks=pre++rest →
 EV Tryz.prog pol (.loop 85 26 0 [.t (.list 1 (strs ks)),.ptr 0 0 0,.t (.list 1 (strs ks)),.t (.int .i64 (ks.length:Int)),.t (.int .i64 (pre.length:Int))] [.vs 2 [g.enc.map .t]])=some (cond (xD g.packs pre.getLast? rest) (.loop (.exit 0) [.bad] []) (.loop .ret [.t (.bool false)] []))
 | [],pre,hs=>by
  have c:decide ((pre.length:Int)<(ks.length:Int))=false:=by simp[hs]
  simp only[zw.enc,List.map_cons,List.map_nil]
  refine zo Tryz.func85 rfl rfl ?_
  simp (disch:=((try simp only[LL]);omega)) only[↓GO,↓DRW,GA,GX,ren,zk,za,refs,z8,cst,zr,isC,bin,una,z7,zd,blt,asArg,zg,zc,zf,z6,E.mkS,unN,ze,zm,zb,GS,simprocAttr,GZ,c,xD,zA]
 | x :: rest, pre, hs => by
  have c:decide ((pre.length:Int)<(ks.length:Int))=true:=by simp[hs];omega
  have hget:(strs ks)[pre.length]? = some [.str x]:=by rw[hs];exact vK pre x rest
  have hlen:pre.length+rest.length+1≤ks.length:=by rw[hs];simp;omega
  have IH:=Xt g hB ks hl rest (pre++[x]) (by rw[hs];simp)
  have hk:=ev g x hB
  have hlt:=RP (fun p=>keyOf p==x) g.packs
  rw[show ((pre++[x]).length:Int)=(pre.length:Int)+1 by simp,show (pre++[x]).getLast? = some x by simp]at IH
  rw[xD]
  unfold mV
  unfold tk at hk
  generalize ixI (xU (fun p=>keyOf p==x) g.packs 0)=n at *
  generalize (g.packs.any fun p=>keyOf p==x)=b1 at *
  simp only[zw.enc,List.map_cons,List.map_nil]at hk IH ⊢
  rcases wI pre with rfl | ⟨pre',q,rfl⟩
  · clear hs
    simp only[List.length_nil,List.getLast?_nil,vA,Int.natCast_zero,Int.zero_add]at *
    cases b1<;>simp only[Bool.not_true,Bool.not_false]at hlt
    all_goals
     refine zo Tryz.func85 rfl rfl ?_
     simp (disch:=((try simp only[LL]);omega)) only[↓GO,↓DRW,GA,GX,ren,zk,za,refs,z8,cst,zr,isC,bin,una,z7,zd,blt,asArg,zg,zc,zf,z6,E.mkS,unN,ze,zm,zb,GS,simprocAttr,GZ,zi,c,hget,zq,hk,hlt,IH,Int.zero_add,zA]
  · have hprev : tM (strs ks) (((pre' ++ [q]).length : Int) - 1) = some [.str q] := by rw [hs]; exact s9 (fun s => [T.str s]) pre' q (x :: rest)
    have hge:1≤(pre'++[q]).length:=by simp
    have hgt:decide (((pre'++[q]).length:Int) > 0)=true:=by simp only[decide_eq_true_eq];omega
    have hcmp:=oO x q
    rw[show (pre'++[q]).getLast? = some q by simp]
    simp only[vA]
    clear hs
    generalize (pre'++[q]).length=m at *
    cases b1<;>simp only[Bool.not_true,Bool.not_false]at hlt<;>cases h2:Op.bytesLess q x<;>rw[h2]at hcmp
    all_goals
     refine zo Tryz.func85 rfl rfl ?_
     simp (disch:=((try simp only[LL]);omega)) only[↓GO,↓DRW,GA,GX,ren,zk,za,refs,z8,cst,zr,isC,bin,una,z7,zd,blt,asArg,zg,zc,zf,z6,E.mkS,unN,ze,zm,zb,GS,simprocAttr,GZ,zi,c,hget,zq,hk,hlt,hgt,hprev,hcmp,IH,zA]
theorem W3 (g:zw)(hB:GB g)(ks:List Str)(hl:ks.length≤1048576):zu (EV Tryz.prog pol) 85 [.agg (g.enc.map .t),.t (.list 1 (strs ks))]=some (.t (.bool (xD g.packs none ks))):=by
 have L:=Xt g hB ks hl ks [] rfl
 simp only[List.length_nil,Int.natCast_zero,List.getLast?_nil]at L
 simp only[zw.enc,List.map_cons,List.map_nil]at L ⊢
 cases h:xD g.packs none ks<;>rw[h]at L<;>simp only[cond_true,cond_false]at L
 all_goals
  apply zx
  refine zy rfl Tryz.func85 rfl (by kernel_rfl) ?_
  unfold Tryz.f85
  simp (disch:=((try simp only[LL]);omega)) only[↓GO,↓DRW,GA,GX,ren,zk,za,refs,z8,cst,zr,isC,bin,una,z7,zd,blt,asArg,zg,zc,zf,z6,E.mkS,unN,ze,zm,zb,GS,simprocAttr,GZ,L,zi,zA]
theorem Xs (g:zw)(hB:GB g)(ks:List Str)(hl:ks.length≤1048576):∀ (rest pre:List Str),ks=pre++rest →
 EV Tryz.prog pol (.loop 83 26 0 [.t (.list 1 (strs ks)),.ptr 0 0 0,.t (.int .i64 (pre.length:Int))] [.vs 2 [g.enc.map .t]])=some (cond (xD g.packs pre.getLast? rest) (.loop (.exit 0) [.bad] []) (.loop .ret [.t (.bool false)] []))
 | [],pre,hs=>by
  have c:decide ((pre.length:Int)<(ks.length:Int))=false:=by simp[hs]
  simp only[zw.enc,List.map_cons,List.map_nil]
  refine zo Tryz.func83 rfl rfl ?_
  simp (disch:=((try simp only[LL]);omega)) only[↓GO,↓DRW,GA,GX,ren,zk,za,refs,z8,cst,zr,isC,bin,una,z7,zd,blt,asArg,zg,zc,zf,z6,E.mkS,unN,ze,zm,zb,GS,simprocAttr,GZ,c,zi,xD,zA]
 | x :: rest, pre, hs => by
  have c:decide ((pre.length:Int)<(ks.length:Int))=true:=by simp[hs];omega
  have hget:(strs ks)[pre.length]? = some [.str x]:=by rw[hs];exact vK pre x rest
  have hlen:pre.length+rest.length+1≤ks.length:=by rw[hs];simp;omega
  have IH:=Xs g hB ks hl rest (pre++[x]) (by rw[hs];simp)
  have hk:=ln g x hB
  have hlt:=RP (fun p=>keyOf p==x) g.packs
  rw[show ((pre++[x]).length:Int)=(pre.length:Int)+1 by simp,show (pre++[x]).getLast? = some x by simp]at IH
  rw[xD]
  unfold mV
  unfold tk at hk
  generalize ixI (xU (fun p=>keyOf p==x) g.packs 0)=n at *
  generalize (g.packs.any fun p=>keyOf p==x)=b1 at *
  simp only[zw.enc,List.map_cons,List.map_nil]at hk IH ⊢
  rcases wI pre with rfl | ⟨pre',q,rfl⟩
  · clear hs
    simp only[List.length_nil,List.getLast?_nil,vA,Int.natCast_zero,Int.zero_add]at *
    cases b1<;>simp only[Bool.not_true,Bool.not_false]at hlt
    all_goals
     refine zo Tryz.func83 rfl rfl ?_
     simp (disch:=((try simp only[LL]);omega)) only[↓GO,↓DRW,GA,GX,ren,zk,za,refs,z8,cst,zr,isC,bin,una,z7,zd,blt,asArg,zg,zc,zf,z6,E.mkS,unN,ze,zm,zb,GS,simprocAttr,GZ,zi,c,hget,zq,hk,hlt,IH,Int.zero_add,zA]
  · have hprev : tM (strs ks) (((pre' ++ [q]).length : Int) - 1) = some [.str q] := by rw [hs]; exact s9 (fun s => [T.str s]) pre' q (x :: rest)
    have hge:1≤(pre'++[q]).length:=by simp
    have hgt:decide (((pre'++[q]).length:Int) > 0)=true:=by simp only[decide_eq_true_eq];omega
    rw[show (pre'++[q]).getLast? = some q by simp]
    simp only[vA]
    clear hs
    generalize (pre'++[q]).length=m at *
    cases b1<;>simp only[Bool.not_true,Bool.not_false]at hlt<;>cases h2:Op.bytesLess q x
    all_goals
     refine zo Tryz.func83 rfl rfl ?_
     simp (disch:=((try simp only[LL]);omega)) only[↓GO,↓DRW,GA,GX,ren,zk,za,refs,z8,cst,zr,isC,bin,una,z7,zd,blt,asArg,zg,zc,zf,z6,E.mkS,unN,ze,zm,zb,GS,simprocAttr,GZ,zi,c,hget,zq,hk,hlt,hgt,hprev,h2,IH,zA]
theorem W2 (g:zw)(hB:GB g)(ks:List Str)(hl:ks.length≤1048576):zu (EV Tryz.prog pol) 83 [.agg (g.enc.map .t),.t (.list 1 (strs ks))]=some (.t (.bool (xD g.packs none ks))):=by
 have L:=Xs g hB ks hl ks [] rfl
 simp only[List.length_nil,Int.natCast_zero,List.getLast?_nil]at L
 simp only[zw.enc,List.map_cons,List.map_nil]at L ⊢
 cases h:xD g.packs none ks<;>rw[h]at L<;>simp only[cond_true,cond_false]at L
 all_goals
  apply zx
  refine zy rfl Tryz.func83 rfl (by kernel_rfl) ?_
  unfold Tryz.f83
  simp (disch:=((try simp only[LL]);omega)) only[↓GO,↓DRW,GA,GX,ren,zk,za,refs,z8,cst,zr,isC,bin,una,z7,zd,blt,asArg,zg,zc,zf,z6,E.mkS,unN,ze,zm,zb,GS,simprocAttr,GZ,L,zi,zA]
def Qc (s:zz):Prop:=s.alg.length≤8∧s.bytes.length≤64
def mX:List Str:=[[104,49],[115,104,97,49],[115,104,97,50,53,54],[115,104,97,53,49,50]]
theorem rY (bs:List Int)(hb:okB bs)(i:Nat)(a:Str)(n:Nat)(hn:n≤64)(hi:i<4)(ha:mX[i]? = some a)(hl:uZ a=(n:Int))(hal:a.length≤8)(c:Cs)(hc:cok bs c)(out:List zz)(cap:Option Nat)(ho:out.length≤4) :
 ∃ (c1:Cs) (out1:List zz) (cap1:Option Nat),cok bs c1∧(out1=out∨∃ s,Qc s∧out1=out++[s])∧∀ R,EV Tryz.prog pol (.loop 202 122 1 [.ptr 0 0 0,.sl 1 0 out1.length cap1,.sl 2 0 4 (some 4),.t (.int .i64 ((i+1:Nat):Int))] [cuR bs c1,.ts 2 (zz.zh out1),.ts 1 (strs mX)])=some R →
  EV Tryz.prog pol (.loop 202 122 1 [.ptr 0 0 0,.sl 1 0 out.length cap,.sl 2 0 4 (some 4),.t (.int .i64 (i:Int))] [cuR bs c,.ts 2 (zz.zh out),.ts 1 (strs mX)])=some R:=by
 have c0:decide ((i:Int)<4)=true:=by apply decide_eq_true;omega
 have c00:decide ((0:Int)≤(i:Int))=true:=by apply decide_eq_true;omega
 have hol:=zz.zj out
 obtain⟨b,c1,hc1,d1⟩:=uA bs hb c hc 3 (by decide) (by decide)
 simp only[Int.cast_ofNat_Int]at d1
 cases b with
 | false =>
  refine⟨c1,out,cap,hc1,.inl rfl,fun R e=>?_⟩
  rw[show ((i+1:Nat):Int)=(i:Int)+1 by omega]at e
  unfold cuR at *
  generalize zz.zh out=E0 at *
  generalize strs mX=E1 at *
  refine zo Tryz.func202 rfl rfl ?_
  simp (disch:=((try simp only[LL]);omega)) only[↓GO,↓DRW,GA,GX,ren,zk,za,refs,z8,cst,zr,isC,bin,una,z7,zd,blt,asArg,zg,zc,zf,z6,E.mkS,unN,ze,zm,zb,GS,simprocAttr,GZ,c0,d1,zq,zA,e]
 | true =>
  have d2:=N3 a
  rw[hl]at d2
  obtain⟨s,c2,hs,hc2,d3⟩:=NX bs hb c1 hc1 n hn
  have hget:(strs mX)[i]? = some [.str a]:=by unfold strs;rw[List.getElem?_map,ha];rfl
  refine⟨c2,out++[⟨a,s⟩],none,hc2,.inr ⟨⟨a,s⟩,⟨hal,by simp only;omega⟩,rfl⟩,fun R e=>?_⟩
  rw[show ((i+1:Nat):Int)=(i:Int)+1 by omega,show zz.zh (out++[⟨a,s⟩])=zz.zh out++[[.str a,.str s]] by simp[zz.zh,zz.enc],List.length_append,List.length_singleton]at e
  unfold cuR at *
  generalize zz.zh out=E0 at *
  generalize strs mX=E1 at *
  refine zo Tryz.func202 rfl rfl ?_
  simp (disch:=((try simp only[LL]);omega)) only[↓GO,↓DRW,GA,GX,ren,zk,za,refs,z8,cst,zr,isC,bin,una,z7,zd,blt,asArg,zg,zc,zf,z6,E.mkS,unN,ze,zm,zb,GS,simprocAttr,GZ,c0,c00,d1,d2,d3,hget,hol,zq,ya,zA,e]
  all_goals (repeat (refine zU (by kernel_rfl) ?_))
  all_goals (first | rfl | (simp (disch:=((try simp only[LL]);omega)) only[↓GO,↓DRW,GA,GX,ren,zk,za,refs,z8,cst,zr,isC,bin,una,z7,zd,blt,asArg,zg,zc,zf,z6,E.mkS,unN,ze,zm,zb,GS,simprocAttr,GZ,c0,c00,d1,d2,d3,hget,hol,zq,ya,zA,e]))
theorem Wx (bs:List Int)(c:Cs)(out:List zz)(cap:Option Nat):EV Tryz.prog pol (.loop 202 122 1 [.ptr 0 0 0,.sl 1 0 out.length cap,.sl 2 0 4 (some 4),.t (.int .i64 4)] [cuR bs c,.ts 2 (zz.zh out),.ts 1 (strs mX)])
 = some (.loop (.exit 0) [.sl 1 0 out.length cap] [cuR bs c,.ts 2 (zz.zh out)]):=by
 have hol:=zz.zj out
 unfold cuR
 generalize zz.zh out=E0 at *
 generalize strs mX=E1 at *
 refine zo Tryz.func202 rfl rfl ?_
 simp (disch:=((try simp only[LL]);omega)) only[↓GO,↓DRW,GA,GX,ren,zk,za,refs,z8,cst,zr,isC,bin,una,z7,zd,blt,asArg,zg,zc,zf,z6,E.mkS,unN,ze,zm,zb,GS,simprocAttr,GZ,zA]
def nV (k:Nat)(l:List zz):Prop:=l.length≤k∧∀ s∈l,Qc s
theorem tq {k:Nat}{l l1:List zz}(h:nV k l)(h1:l1=l∨∃ s,Qc s∧l1=l++[s]):nV (k+1) l1:=by
 obtain⟨h2,h3⟩:=h
 rcases h1 with rfl | ⟨s,hs,rfl⟩
 · exact⟨by omega,h3⟩
 · refine ⟨by simp; omega, fun x hx => ?_⟩
   rcases List.mem_append.1 hx with hx | hx
   · exact h3 x hx
   · rw[List.mem_singleton.1 hx];exact hs
theorem NY (bs:List Int)(hb:okB bs)(c:Cs)(hc:cok bs c):∃ (l:List zz) (c':Cs) (cap:Option Nat),nV 4 l∧cok bs c' ∧
 EV Tryz.prog pol (.callO false 202 [.ptr 0 0 0] [cuR bs c])=some (.call (.sl 1 0 l.length cap) [cuR bs c',.ts 2 (zz.zh l)]):=by
 have s0:nV 0 []:=⟨Nat.le_refl _,fun s hs=>by simp at hs⟩
 obtain⟨c1,o1,p1,h1,e1,g1⟩:=rY bs hb 0 _ 32 (by decide) (by decide) (show mX[0]? = some [104,49] from rfl) (by decide) (by decide) c hc [] (some 0) (by decide)
 have s1:=tq s0 e1
 obtain⟨c2,o2,p2,h2,e2,g2⟩:=rY bs hb 1 _ 20 (by decide) (by decide) (show mX[1]? = some [115,104,97,49] from rfl) (by decide) (by decide) c1 h1 o1 p1 (by have:=s1.1;omega)
 have s2:=tq s1 e2
 obtain⟨c3,o3,p3,h3,e3,g3⟩:=rY bs hb 2 _ 32 (by decide) (by decide) (show mX[2]? = some [115,104,97,50,53,54] from rfl) (by decide) (by decide) c2 h2 o2 p2 (by have:=s2.1;omega)
 have s3:=tq s2 e3
 obtain⟨c4,o4,p4,h4,e4,g4⟩:=rY bs hb 3 _ 64 (by decide) (by decide) (show mX[3]? = some [115,104,97,53,49,50] from rfl) (by decide) (by decide) c3 h3 o3 p3 (by have:=s3.1;omega)
 have s4:=tq s3 e4
 have L:=g1 _ (g2 _ (g3 _ (g4 _ (Wx bs c4 o4 p4))))
 refine⟨o4,c4,p4,s4,h4,?_⟩
 simp only[List.length_nil,Int.natCast_zero,show zz.zh []=[] from rfl,show strs mX=[[.str [104,49]],[.str [115,104,97,49]],[.str [115,104,97,50,53,54]],[.str [115,104,97,53,49,50]]] from rfl]at L
 clear g1 g2 g3 g4 e1 e2 e3 e4 s1 s2 s3 s4 s0 hb
 unfold cuR at *
 refine zH Tryz.func202 rfl (by kernel_rfl) ?_
 unfold Tryz.f202
 simp (disch:=((try simp only[LL]);omega)) only[↓GO,↓DRW,GA,GX,ren,zk,za,refs,z8,cst,zr,isC,bin,una,z7,zd,blt,asArg,zg,zc,zf,z6,E.mkS,unN,ze,zm,zb,GS,simprocAttr,GZ,L,zA]
def smP (k:Nat)(p:z1):Prop:=p.name.length≤32∧p.version.length≤300∧p.source.length≤32∧nV 5 p.sums∧p.zn.length≤k∧∀ s∈p.zn,s.length≤400
set_option maxHeartbeats 2000000 in
theorem M6 (bs:List Int)(hb:okB bs)(c:Cs)(hc:cok bs c):∃ (p:z1) (c':Cs) (cap:Option Nat),smP 0 p∧cok bs c' ∧
 EV Tryz.prog pol (.callO false 195 [.ptr 0 0 0] [cuR bs c])=some (.call (.agg [.t (.str p.name),.t (.str p.version),.t (.str p.source),.sl 1 0 p.sums.length cap,.t (.bool p.dev),.nil 1]) [cuR bs c',.ts 2 (zz.zh p.sums)]):=by
 obtain⟨nm,c1,hn,h1,d1⟩:=M9 bs hb c hc
 obtain⟨vr,c2,hv,h2,d2⟩:=PR bs hb c1 h1
 obtain⟨sm,c3,cap,hs,h3,d3⟩:=NY bs hb c2 h2
 obtain⟨dv,c4,h4,d4⟩:=uA bs hb c3 h3 4 (by decide) (by decide)
 obtain⟨b,c5,h5,d5⟩:=uA bs hb c4 h4 2 (by decide) (by decide)
 simp only[Int.cast_ofNat_Int]at d4 d5
 have hs5:nV 5 sm:=⟨by have:=hs.1;omega,hs.2⟩
 have hol:=zz.zj sm
 cases b with
 | false =>
  refine⟨⟨nm,vr,[],sm,dv,[]⟩,c5,cap,⟨hn,hv,by simp,hs5,Nat.le_refl _,fun s hs=>by simp at hs⟩,h5,?_⟩
  simp only
  clear hb hn hv hs hs5
  unfold cuR at *
  generalize zz.zh sm=E0 at *
  refine zH Tryz.func195 rfl (by kernel_rfl) ?_
  unfold Tryz.f195
  simp (disch:=((try simp only[LL]);omega)) only[↓GO,↓DRW,GA,GX,ren,zk,za,refs,z8,cst,zr,isC,bin,una,z7,zd,blt,asArg,zg,zc,zf,z6,E.mkS,unN,ze,zm,zb,GS,simprocAttr,GZ,d1,d2,d3,d4,d5,zA]
 | true =>
  obtain⟨s,c6,hs0,h6,d6⟩:=te bs hb c5 h5 [[104,116,116,112,115,58,47,47,114,101,103,46,111,114,103,47,120,46,116,103,122],[103,105,116,43,115,115,104,58,120],[46]] 3 rfl (by decide) (by decide) (some 3)
  have hsl:s.length≤32:=by
   simp only[List.mem_cons,List.not_mem_nil,or_false]at hs0
   rcases hs0 with rfl | rfl | rfl<;>decide
  refine⟨⟨nm,vr,s,sm,dv,[]⟩,c6,cap,⟨hn,hv,hsl,hs5,Nat.le_refl _,fun s hs=>by simp at hs⟩,h6,?_⟩
  simp only[strs,List.map_cons,List.map_nil]at d6 ⊢
  clear hb hn hv hs hs5 hs0
  unfold cuR at *
  generalize zz.zh sm=E0 at *
  refine zH Tryz.func195 rfl (by kernel_rfl) ?_
  unfold Tryz.f195
  simp (disch:=((try simp only[LL]);omega)) only[↓GO,↓DRW,GA,GX,ren,zk,za,refs,z8,cst,zr,isC,bin,una,z7,zd,blt,asArg,zg,zc,zf,z6,E.mkS,unN,ze,zm,zb,GS,simprocAttr,GZ,d1,d2,d3,d4,d5,d6,zA]
def ocE (es:List (List T)):List (List V):=es.map fun e=>e.map oc
theorem zS (es:List (List T)):(ocE es).length=es.length:=by simp[ocE]
theorem P8 (a b:List (List T)):ocE (a++b)=ocE a++ocE b:=by simp[ocE]
theorem rG (x:List T)(b:List (List T)):ocE (x::b)=x.map oc::ocE b:=rfl
theorem P7:ocE []=[]:=rfl
theorem P5 (x:T):refs (oc x)=[]:=by cases x<;>rfl
theorem cW:∀ e:List T,refs.refss (e.map oc)=[]
 | []=>rfl
 | x::e=>by simp only[List.map_cons,refs.refss,P5,cW e,List.nil_append]
theorem yc:∀ es:List (List T),(ocE es).flatMap refs.refss=[]
 | []=>rfl
 | e::es=>by rw[rG,List.flatMap_cons,cW,yc es];rfl
theorem ND (m:Nat→Option Nat)(x:T):ren m (oc x)=oc x:=by cases x<;>rfl
theorem X3 (m:Nat→Option Nat):∀ e:List T,ren.rens m (e.map oc)=e.map oc
 | []=>rfl
 | x::e=>by simp only[List.map_cons,ren.rens,ND,X3 m e]
theorem yJ (m:Nat→Option Nat):∀ es:List (List T),(ocE es).map (ren.rens m)=ocE es
 | []=>rfl
 | e::es=>by rw[rG,List.map_cons,X3,yJ m es]
theorem w5 {α:Type}(A B:List α)(x:α)(n:Nat)(h:A.length=n):(A++x::B)[n]? = some x:=by
 rw[List.getElem?_append_right (by omega),h,Nat.sub_self];rfl
theorem xH {α:Type}(A B:List α)(x y:α)(n:Nat)(h:A.length=n):(A++x::B).set n y=A++y::B:=by
 rw[List.set_append_right _ _ (by omega),h,Nat.sub_self];rfl
theorem gv_oc (x:T):gvC (oc x)=some x:=by cases x<;>rfl
theorem RS:∀ e:List T,rT (e.map oc)=some e
 | []=>rfl
 | x::e=>by simp only[List.map_cons,rT,gv_oc,RS e]
theorem eH:∀ es:List (List T),gvE (ocE es)=some es
 | []=>rfl
 | e::es=>by rw[rG];simp only[gvE,RS,eH es]
theorem T0 (h:Heap)(x:T):zg h (oc x)=some x:=by cases x<;>rfl
theorem cn (h:Heap):∀ e:List T,wq h (e.map oc)=some e
 | []=>rfl
 | x::e=>by simp only[List.map_cons,wq,T0,cn h e]
theorem vh (h:Heap):∀ es:List (List T),th h (ocE es)=some es
 | []=>rfl
 | e::es=>by rw[rG];simp only[th,cn,vh h es]
theorem yb:∀ l:List Str,uw (strs l)=true
 | []=>rfl
 | x::l=>by
  have:=yb l
  unfold uw strs at this ⊢
  rw[List.map_cons,List.all_cons,this];rfl
def ixS (key:Str):Nat→List Str→Int
 | _,[]=>-1
 | i,k::r=>cond (k==key) (i:Int) (ixS key (i+1) r)
theorem ec (key:Str):∀ (r:List Str) (i:Nat),ixS key i r = -1∨((i:Int)≤ixS key i r∧ixS key i r<((i+r.length:Nat):Int))
 | [],i=>.inl rfl
 | k :: r, i => by
  rw[ixS]
  cases hk:(k==key) with
  | true=>right;simp only[cond_true,List.length_cons];omega
  | false =>
   simp only[cond_false,List.length_cons]
   rcases ec key r (i+1) with h | h
   · exact .inl h
   · right;omega
theorem l_ix (key:Str)(ks:List Str)(hl:ks.length≤1048576):∀ (rest pre:List Str),ks=pre++rest→∃ x,
 EV Tryz.prog pol (.loop 81 26 0 [.t (.list 1 (strs ks)),.t (.str key),.t (.int .i64 (ks.length:Int)),.t (.int .i64 (pre.length:Int))] [])=some (cond (decide (ixS key pre.length rest≥0)) (.loop .ret [.t (.int .i64 (ixS key pre.length rest))] []) (.loop (.exit 0) [x] []))
 | [],pre,hs=>by
  have c:decide ((pre.length:Int)<(ks.length:Int))=false:=by simp[hs]
  refine⟨.bad,?_⟩
  show _=some (wk.loop (.exit 0) [.bad] [])
  refine zo Tryz.func81 rfl rfl ?_
  simp (disch:=((try simp only[LL]);omega)) only[↓GO,↓DRW,GA,GX,ren,zk,za,refs,z8,cst,zr,isC,bin,una,z7,zd,blt,asArg,zg,zc,zf,z6,E.mkS,unN,ze,zm,zb,GS,simprocAttr,GZ,c]
 | x::rest,pre,hs=>by
  have c:decide ((pre.length:Int)<(ks.length:Int))=true:=by simp[hs];omega
  have hget:(strs ks)[pre.length]? = some [.str x]:=by rw[hs];simp[strs]
  have hlen:pre.length+rest.length+1≤ks.length:=by rw[hs];simp;omega
  obtain⟨y,IH⟩:=l_ix key ks hl rest (pre++[x]) (by rw[hs];simp)
  refine⟨y,?_⟩
  rw[show ((pre++[x]).length:Int)=(pre.length:Int)+1 by simp,show (pre++[x]).length=pre.length+1 by simp]at IH
  have hsym:(key==x)=(x==key):=by rw[Bool.eq_iff_iff];simp only[beq_iff_eq];exact eq_comm
  clear hs
  rw[ixS]
  cases hk:(x==key)<;>rw[hk]at hsym
  · simp only [cond_false]
    refine zo Tryz.func81 rfl rfl ?_
    simp (disch:=((try simp only[LL]);omega)) only[↓GO,↓DRW,GA,GX,ren,zk,za,refs,z8,cst,zr,isC,bin,una,z7,zd,blt,asArg,zg,zc,zf,z6,E.mkS,unN,ze,zm,zb,GS,simprocAttr,GZ,c,hget,zq,hsym,IH]
  · simp only [cond_true, show decide (((pre.length : Nat) : Int) ≥ 0) = true by simp]
    refine zo Tryz.func81 rfl rfl ?_
    simp (disch:=((try simp only[LL]);omega)) only[↓GO,↓DRW,GA,GX,ren,zk,za,refs,z8,cst,zr,isC,bin,una,z7,zd,blt,asArg,zg,zc,zf,z6,E.mkS,unN,ze,zm,zb,GS,simprocAttr,GZ,c,hget,zq,hsym]
theorem c_ix (key:Str)(ks:List Str)(hl:ks.length≤1048576):zu (EV Tryz.prog pol) 81 [.t (.list 1 (strs ks)),.t (.str key)]=some (.t (.int .i64 (ixS key 0 ks))):=by
 obtain⟨x,L⟩:=l_ix key ks hl ks [] rfl
 have hr:=ec key ks 0
 simp only[List.length_nil,Int.natCast_zero]at L
 cases hd:decide (ixS key 0 ks≥0) with
 | true =>
  rw[hd]at L
  simp only[cond_true]at L
  apply zx
  refine zy rfl Tryz.func81 rfl (by kernel_rfl) ?_
  unfold Tryz.f81
  simp (disch:=((try simp only[LL]);omega)) only[↓GO,↓DRW,GA,GX,ren,zk,za,refs,z8,cst,zr,isC,bin,una,z7,zd,blt,asArg,zg,zc,zf,z6,E.mkS,unN,ze,zm,zb,GS,simprocAttr,GZ,L,zi]
 | false =>
  rw[hd]at L
  have h:=of_decide_eq_false hd
  rw[show ixS key 0 ks = -1 by omega]
  simp only[cond_false]at L
  apply zx
  refine zy rfl Tryz.func81 rfl (by kernel_rfl) ?_
  unfold Tryz.f81
  simp (disch:=((try simp only[LL]);omega)) only[↓GO,↓DRW,GA,GX,ren,zk,za,refs,z8,cst,zr,isC,bin,una,z7,zd,blt,asArg,zg,zc,zf,z6,E.mkS,unN,ze,zm,zb,GS,simprocAttr,GZ,L,zi]
def zt:Tr:=.mk 0 0 [] [] []
theorem x6:∀ l:List zz,uw (zz.zh l)=true
 | []=>rfl
 | x::l=>by
  have:=x6 l
  unfold uw zz.zh at this ⊢
  rw[List.map_cons,List.all_cons,this];rfl
theorem uQ:∀ l:List z1,((ocE (z1.zh l)).all fun c=>zK.rowTs c)=true
 | []=>rfl
 | x::l=>by
  rw[show ocE (z1.zh (x::l))=x.enc.map oc::ocE (z1.zh l) from rfl,List.all_cons,uQ l]
  rfl
theorem sB (a:List z1)(x:z1):z1.zh (a++[x])=z1.zh a++[x.enc]:=by simp[z1.zh]
def zPk:List V:=[.t (.str []),.t (.str []),.t (.str []),.nil 2,.t (.bool false),.nil 1]
theorem lN {p:z1}{n:Nat}(h:p.y6≤n):p.zn.length≤n∧yg p.zn≤n∧p.sums.length≤n∧zz.zX p.sums≤n∧p.name.length≤n∧p.version.length≤n∧p.source.length≤n:=by
 unfold z1.y6 at h;omega
theorem RH (g:zw)(hB:GB g):∀ (rest pre:List z1),g.packs=pre++rest →
 EV Tryz.prog pol (.loop 22 26 0 [.ptr 0 0 0,.t (.list 6 (z1.zh g.packs)),.t (.int .i64 (g.packs.length:Int)),.t (.int .i64 (pre.length:Int))] [.vs 2 [g.enc.map .t]])=some (cond (w9 g.packs (pre.getLast?.map keyOf) rest) (.loop (.exit 0) [.ptr 0 0 0,.bad] [.vs 2 [g.enc.map .t]]) (.loop .ret [.ptr 0 0 0,.t (.bool false)] [.vs 2 [g.enc.map .t]]))
 | [],pre,hs=>by
  have c:decide ((pre.length:Int)<(g.packs.length:Int))=false:=by simp[hs]
  simp only[zw.enc,List.map_cons,List.map_nil]
  refine zo Tryz.func22 rfl rfl ?_
  simp (disch:=((try simp only[LL]);omega)) only[↓GO,↓DRW,GA,GX,ren,zk,za,refs,z8,cst,zr,isC,bin,una,z7,zd,blt,asArg,zg,zc,zf,z6,E.mkS,unN,ze,zm,zb,GS,simprocAttr,GZ,c,w9,zA]
 | x :: rest, pre, hs => by
  obtain⟨b1,b2,b3⟩:=hB.len
  have c:decide ((pre.length:Int)<(g.packs.length:Int))=true:=by simp[hs];omega
  have hget:(z1.zh g.packs)[pre.length]? = some x.enc:=by rw[hs];exact sP z1.enc pre x rest
  have hlen:pre.length+rest.length+1≤g.packs.length:=by rw[hs];simp;omega
  have hxb:=b3 x (by rw[hs];simp)
  have IH:=RH g hB rest (pre++[x]) (by rw[hs];simp)
  have h1:=PW x hxb
  have h2:=mb x (by omega)
  have h3:=W3 g hB x.zn (lN hxb).1
  rw[show ((pre++[x]).length:Int)=(pre.length:Int)+1 by simp,show (pre++[x]).getLast?.map keyOf=some (keyOf x) by simp]at IH
  rw[w9]
  generalize wu x=a1 at *
  generalize xD g.packs none x.zn=a2 at *
  rcases wI pre with rfl | ⟨pre',q,rfl⟩
  · clear hs
    generalize keyOf x=kx at *
    simp only[List.length_nil,List.getLast?_nil,Option.map_none,vA,Int.natCast_zero,Int.zero_add]at *
    simp only[zw.enc,z1.enc,List.map_cons,List.map_nil]at hget h1 h2 h3 IH ⊢
    cases a1<;>cases a2
    all_goals
     refine zo Tryz.func22 rfl rfl ?_
     simp (disch:=((try simp only[LL]);omega)) only[↓GO,↓DRW,GA,GX,ren,zk,za,refs,z8,cst,zr,isC,bin,una,z7,zd,blt,asArg,zg,zc,zf,z6,E.mkS,unN,ze,zm,zb,GS,simprocAttr,GZ,z1.zj,c,hget,zq,h1,h2,h3,IH,Int.zero_add,zA]
  · have hprev : tM (z1.zh g.packs) (((pre' ++ [q]).length : Int) - 1) = some q.enc := by rw [hs]; exact s9 z1.enc pre' q (x :: rest)
    have h4:=mb q (by have:=b3 q (by rw[hs];simp);omega)
    have hge:1≤(pre'++[q]).length:=by simp
    have hgt:decide (((pre'++[q]).length:Int) > 0)=true:=by simp only[decide_eq_true_eq];omega
    have hcmp:=oO (keyOf x) (keyOf q)
    rw[show (pre'++[q]).getLast?.map keyOf=some (keyOf q) by simp]
    simp only[vA]
    clear hs
    generalize (pre'++[q]).length=m at *
    generalize keyOf x=kx at *
    generalize keyOf q=kq at *
    simp only[zw.enc,z1.enc,List.map_cons,List.map_nil]at hget hprev h1 h2 h3 h4 IH ⊢
    cases a1<;>cases a2<;>cases h5:Op.bytesLess kq kx<;>rw[h5]at hcmp
    all_goals
     refine zo Tryz.func22 rfl rfl ?_
     simp (disch:=((try simp only[LL]);omega)) only[↓GO,↓DRW,GA,GX,ren,zk,za,refs,z8,cst,zr,isC,bin,una,z7,zd,blt,asArg,zg,zc,zf,z6,E.mkS,unN,ze,zm,zb,GS,simprocAttr,GZ,z1.zj,c,hget,zq,h1,h2,h3,h4,hgt,hprev,hcmp,IH,zA]
theorem tg (g:zw)(hB:GB g):zu (EV Tryz.prog pol) 22 [.agg (g.enc.map .t)]=some (.t (.bool (zO g))):=by
 have L:=RH g hB g.packs [] rfl
 have h3:=W3 g hB g.top (by have:=hB.len;omega)
 simp only[List.length_nil,Int.natCast_zero,List.getLast?_nil,Option.map_none]at L
 simp only[zw.enc,List.map_cons,List.map_nil]at L h3 ⊢
 unfold zO
 generalize xD g.packs none g.top=a2 at *
 cases h:w9 g.packs none g.packs<;>rw[h]at L<;>simp only[cond_true,cond_false]at L<;>cases h4:decide ((g.packs.length:Int)≤40)<;>cases a2
 all_goals
  apply zx
  refine zy rfl Tryz.func22 rfl (by kernel_rfl) ?_
  unfold Tryz.f22
  simp (disch:=((try simp only[LL]);omega)) only[↓GO,↓DRW,GA,GX,ren,zk,za,refs,z8,cst,zr,isC,bin,una,z7,zd,blt,asArg,zg,zc,zf,z6,E.mkS,unN,ze,zm,zb,GS,simprocAttr,GZ,L,z1.zj,h3,h4,zA]
theorem RG (g:zw)(hB:GB g):∀ (rest pre:List z1),g.packs=pre++rest →
 EV Tryz.prog pol (.loop 21 26 0 [.ptr 0 0 0,.t (.int .i64 (pre.length:Int))] [.vs 2 [g.enc.map .t]])=some (cond (w9 g.packs (pre.getLast?.map keyOf) rest) (.loop (.exit 0) [.ptr 0 0 0,.bad] [.vs 2 [g.enc.map .t]]) (.loop .ret [.ptr 0 0 0,.t (.bool false)] [.vs 2 [g.enc.map .t]]))
 | [],pre,hs=>by
  have c:decide ((pre.length:Int)<(g.packs.length:Int))=false:=by simp[hs]
  simp only[zw.enc,List.map_cons,List.map_nil]
  refine zo Tryz.func21 rfl rfl ?_
  simp (disch:=((try simp only[LL]);omega)) only[↓GO,↓DRW,GA,GX,ren,zk,za,refs,z8,cst,zr,isC,bin,una,z7,zd,blt,asArg,zg,zc,zf,z6,E.mkS,unN,ze,zm,zb,GS,simprocAttr,GZ,c,z1.zj,w9,zA]
 | x :: rest, pre, hs => by
  obtain⟨b1,b2,b3⟩:=hB.len
  have c:decide ((pre.length:Int)<(g.packs.length:Int))=true:=by simp[hs];omega
  have hget:(z1.zh g.packs)[pre.length]? = some x.enc:=by rw[hs];exact sP z1.enc pre x rest
  have hlen:pre.length+rest.length+1≤g.packs.length:=by rw[hs];simp;omega
  have hxb:=b3 x (by rw[hs];simp)
  have IH:=RG g hB rest (pre++[x]) (by rw[hs];simp)
  have h1:=PV x hxb
  have h2:=uB x (by omega)
  have h3:=W2 g hB x.zn (lN hxb).1
  rw[show ((pre++[x]).length:Int)=(pre.length:Int)+1 by simp,show (pre++[x]).getLast?.map keyOf=some (keyOf x) by simp]at IH
  rw[w9]
  generalize wu x=a1 at *
  generalize xD g.packs none x.zn=a2 at *
  rcases wI pre with rfl | ⟨pre',q,rfl⟩
  · clear hs
    generalize keyOf x=kx at *
    simp only[List.length_nil,List.getLast?_nil,Option.map_none,vA,Int.natCast_zero,Int.zero_add]at *
    simp only[zw.enc,z1.enc,List.map_cons,List.map_nil]at hget h1 h2 h3 IH ⊢
    cases a1<;>cases a2
    all_goals
     refine zo Tryz.func21 rfl rfl ?_
     simp (disch:=((try simp only[LL]);omega)) only[↓GO,↓DRW,GA,GX,ren,zk,za,refs,z8,cst,zr,isC,bin,una,z7,zd,blt,asArg,zg,zc,zf,z6,E.mkS,unN,ze,zm,zb,GS,simprocAttr,GZ,z1.zj,c,hget,zq,h1,h2,h3,IH,Int.zero_add,zA]
  · have hprev : tM (z1.zh g.packs) (((pre' ++ [q]).length : Int) - 1) = some q.enc := by rw [hs]; exact s9 z1.enc pre' q (x :: rest)
    have h4:=uB q (by have:=b3 q (by rw[hs];simp);omega)
    have hge:1≤(pre'++[q]).length:=by simp
    have hgt:decide (((pre'++[q]).length:Int) > 0)=true:=by simp only[decide_eq_true_eq];omega
    rw[show (pre'++[q]).getLast?.map keyOf=some (keyOf q) by simp]
    simp only[vA]
    clear hs
    generalize (pre'++[q]).length=m at *
    generalize keyOf x=kx at *
    generalize keyOf q=kq at *
    simp only[zw.enc,z1.enc,List.map_cons,List.map_nil]at hget hprev h1 h2 h3 h4 IH ⊢
    cases a1<;>cases a2<;>cases h5:Op.bytesLess kq kx
    all_goals
     refine zo Tryz.func21 rfl rfl ?_
     simp (disch:=((try simp only[LL]);omega)) only[↓GO,↓DRW,GA,GX,ren,zk,za,refs,z8,cst,zr,isC,bin,una,z7,zd,blt,asArg,zg,zc,zf,z6,E.mkS,unN,ze,zm,zb,GS,simprocAttr,GZ,z1.zj,c,hget,zq,h1,h2,h3,h4,hgt,hprev,h5,IH,zA]
theorem pT (g:zw)(hB:GB g):zu (EV Tryz.prog pol) 21 [.agg (g.enc.map .t)]=some (.t (.bool (zO g))):=by
 have L:=RG g hB g.packs [] rfl
 have h3:=W2 g hB g.top (by have:=hB.len;omega)
 simp only[List.length_nil,Int.natCast_zero,List.getLast?_nil,Option.map_none]at L
 simp only[zw.enc,List.map_cons,List.map_nil]at L h3 ⊢
 unfold zO
 generalize xD g.packs none g.top=a2 at *
 cases h:w9 g.packs none g.packs<;>rw[h]at L<;>simp only[cond_true,cond_false]at L<;>cases h4:decide ((g.packs.length:Int)≤40)<;>cases a2
 all_goals
  apply zx
  refine zy rfl Tryz.func21 rfl (by kernel_rfl) ?_
  unfold Tryz.f21
  simp (disch:=((try simp only[LL]);omega)) only[↓GO,↓DRW,GA,GX,ren,zk,za,refs,z8,cst,zr,isC,bin,una,z7,zd,blt,asArg,zg,zc,zf,z6,E.mkS,unN,ze,zm,zb,GS,simprocAttr,GZ,L,z1.zj,h3,h4,zA]
def tG (b:UInt8)(s:Str):Nat→Option Nat
 | 0=>none
 | n+1=>if s[n]? = some b then some n else tG b s n
theorem bm (b:UInt8)(s:Str):∀ (n k:Nat),tG b s n=some k→k<n
 | 0,k,h=>by cases h
 | n+1,k,h=>by
  unfold tG at h
  split at h
  · cases h;omega
  · have:=bm b s n k h;omega
def uj (k:Str):Str×Str:=match tG 64 k k.length with
 | some n=>(k.take n,k.drop (n+1))
 | none=>([],[])
theorem Xr (s:Str)(b:UInt8)(hl:s.length≤4611686018427387904):∀ n:Nat,n≤s.length →
 EV Tryz.prog pol (.loop 238 26 0 [.t (.str s),.t (.int .u8 (b.toNat:Int)),.t (.int .i64 ((n:Int) - 1))] [])=some (match tG b s n with | some k=>.loop .ret [.t (.int .i64 (k:Int))] [] | none=>.loop (.exit 0) [.bad] [])
 | 0,hn=>by
  have c:decide ((0:Int) - 1≥0)=false:=by decide
  refine zo Tryz.func238 rfl rfl ?_
  simp (disch:=((try simp only[LL]);omega)) only[↓GO,↓DRW,GA,GX,ren,zk,za,refs,z8,cst,zr,isC,bin,una,z7,zd,blt,asArg,zg,zc,zf,z6,E.mkS,unN,ze,zm,zb,GS,simprocAttr,GZ,c,tG]
 | n + 1, hn => by
  have c:decide ((n:Int)≥0)=true:=by simp
  have e:((n+1:Nat):Int) - 1=(n:Int):=by omega
  have IH:=Xr s b hl n (by omega)
  rw[e,tG]
  obtain⟨x,hx⟩:∃ x,s[n]? = some x:=⟨s[n]'(by omega),by simp⟩
  rw[hx]
  by_cases h:x=b
  · subst h
    rw[if_pos rfl]
    refine zo Tryz.func238 rfl rfl ?_
    simp (disch:=((try simp only[LL]);omega)) only[↓GO,↓DRW,GA,GX,ren,zk,za,refs,z8,cst,zr,isC,bin,una,z7,zd,blt,asArg,zg,zc,zf,z6,E.mkS,unN,ze,zm,zb,GS,simprocAttr,GZ,c,hx,zq]
  · have c2 : ((x.toNat : Int) == (b.toNat : Int)) = false := by
     rw[beq_eq_false_iff_ne];intro e;exact h (UInt8.toNat_inj.1 (by omega))
    rw[if_neg (by simpa using h)]
    refine zo Tryz.func238 rfl rfl ?_
    simp (disch:=((try simp only[LL]);omega)) only[↓GO,↓DRW,GA,GX,ren,zk,za,refs,z8,cst,zr,isC,bin,una,z7,zd,blt,asArg,zg,zc,zf,z6,E.mkS,unN,ze,zm,zb,GS,simprocAttr,GZ,c,hx,zq,c2,IH]
def aF (o:Option Nat):Int:=match o with | some k=>(k:Int) | none=>-1
theorem O1 (s:Str)(b:UInt8)(hl:s.length≤4611686018427387904):zu (EV Tryz.prog pol) 238 [.t (.str s),.t (.int .u8 (b.toNat:Int))]=some (.t (.int .i64 (aF (tG b s s.length)))):=by
 have L:=Xr s b hl s.length (Nat.le_refl _)
 apply zx
 refine zy rfl Tryz.func238 rfl (by kernel_rfl) ?_
 unfold Tryz.f238
 cases h:tG b s s.length<;>rw[h]at L<;>simp only at L<;>simp (disch:=((try simp only[LL]);omega)) only[↓GO,↓DRW,GA,GX,ren,zk,za,refs,z8,cst,zr,isC,bin,una,z7,zd,blt,asArg,zg,zc,zf,z6,E.mkS,unN,ze,zm,zb,GS,simprocAttr,GZ,L,zq,aF]
theorem TU (s:Str)(hl:s.length≤4611686018427387904):zu (EV Tryz.prog pol) 197 [.t (.str s),.t (.str [64])]=some (.t (.int .i64 (aF (tG 64 s s.length)))):=by
 have h:=O1 s 64 hl
 rw[show (((64:UInt8)).toNat:Int)=64 from rfl]at h
 have e:(((64:UInt8)).toNat:Int)=64:=rfl
 apply zx
 refine zy rfl Tryz.func197 rfl (by kernel_rfl) ?_
 unfold Tryz.f197
 simp (disch:=((try simp only[LL]);omega)) only[↓GO,↓DRW,GA,GX,ren,zk,za,refs,z8,cst,zr,isC,bin,una,z7,zd,blt,asArg,zg,zc,zf,z6,E.mkS,unN,ze,zm,zb,GS,simprocAttr,GZ,h,e,Int.zero_add,Int.natCast_one]
theorem c_skI (k:Str)(hl:k.length≤4611686018427387904):zu (EV Tryz.prog pol) 139 [.t (.str k)]=some (.tup [.t (.str (uj k).1),.t (.str (uj k).2)]):=by
 have h:=TU k hl
 unfold uj
 cases hc:tG 64 k k.length with
 | none =>
  rw[hc]at h
  simp only[aF]at h
  apply zx
  refine zy rfl Tryz.func139 rfl (by kernel_rfl) ?_
  unfold Tryz.f139
  simp (disch:=((try simp only[LL]);omega)) only[↓GO,↓DRW,GA,GX,ren,zk,za,refs,z8,cst,zr,isC,bin,una,z7,zd,blt,asArg,zg,zc,zf,z6,E.mkS,unN,ze,zm,zb,GS,simprocAttr,GZ,h]
 | some n =>
  have hn:=bm 64 k k.length n hc
  rw[hc]at h
  simp only[aF]at h
  have c:decide ((n:Int)<0)=false:=decide_eq_false (by omega)
  apply zx
  refine zy rfl Tryz.func139 rfl (by kernel_rfl) ?_
  unfold Tryz.f139
  simp (disch:=((try simp only[LL]);omega)) only[↓GO,↓DRW,GA,GX,ren,zk,za,refs,z8,cst,zr,isC,bin,una,z7,zd,blt,asArg,zg,zc,zf,z6,E.mkS,unN,ze,zm,zb,GS,simprocAttr,GZ,h,c,zq]
structure xf where
 low:List UInt8
 high:List UInt8
def xf.enc (x:xf):List T:=[.str x.low,.str x.high]
def xf.zh (l:List xf):List (List T):=l.map xf.enc
def xf.y6 (x:xf):Nat:=x.low.length+x.high.length
def xf.zX:List xf→Nat
 | []=>0
 | c::cs=>xf.y6 c+xf.zX cs
def xf.ok (x:xf):Prop:=x.low.length≤9223372036854775807∧x.high.length≤9223372036854775807
theorem xf.vO (x:xf):x.enc.length=2:=rfl
theorem xf.wN (x:xf):x.enc.take 2=x.enc:=rfl
theorem xf.zj (cs:List xf):(xf.zh cs).length=cs.length:=by simp[xf.zh]
theorem xf.vj (cs:List xf)(i:Nat)(h:i<cs.length):(xf.zh cs)[i]? = some cs[i].enc:=by simp[xf.zh,h]
theorem xf.xa:∀ {cs:List xf} {c:xf},c∈cs→c.y6≤xf.zX cs
 | c'::cs,c,h=>by
  simp only[xf.zX]
  rcases List.mem_cons.1 h with rfl | h
  · omega
  · have:=xf.xa h;omega
structure yP where
 name:List UInt8
 range:List UInt8
 text:List UInt8
def yP.enc (x:yP):List T:=[.str x.name,.str x.range,.str x.text]
def yP.zh (l:List yP):List (List T):=l.map yP.enc
def yP.y6 (x:yP):Nat:=x.name.length+x.range.length+x.text.length
def yP.zX:List yP→Nat
 | []=>0
 | c::cs=>yP.y6 c+yP.zX cs
def yP.ok (x:yP):Prop:=x.name.length≤9223372036854775807∧x.range.length≤9223372036854775807∧x.text.length≤9223372036854775807
theorem yP.vO (x:yP):x.enc.length=3:=rfl
theorem yP.wN (x:yP):x.enc.take 3=x.enc:=rfl
theorem yP.zj (cs:List yP):(yP.zh cs).length=cs.length:=by simp[yP.zh]
theorem yP.vj (cs:List yP)(i:Nat)(h:i<cs.length):(yP.zh cs)[i]? = some cs[i].enc:=by simp[yP.zh,h]
theorem yP.xa:∀ {cs:List yP} {c:yP},c∈cs→c.y6≤yP.zX cs
 | c'::cs,c,h=>by
  simp only[yP.zX]
  rcases List.mem_cons.1 h with rfl | h
  · omega
  · have:=yP.xa h;omega
def vb (b:UInt8):Bool:=isD b||(nb b==46||(nb b==45||preB b))
theorem oz {n:Int}(h:0≤n):(Lib.itoa n).all isD=true∧Lib.itoa n≠[]:=by
 obtain⟨u,rfl⟩:∃ u:Nat,n=u:=⟨n.toNat,by omega⟩
 rw[Lib.itoa_nonneg]
 obtain⟨a,_,c⟩:=tB u
 exact⟨a,c⟩
theorem oX {p q:UInt8→Bool}(h:∀ b,p b=true→q b=true){l:Str}(hl:l.all p=true):l.all q=true:=by
 rw[List.all_eq_true]at hl ⊢
 exact fun x hx=>h x (hl x hx)
theorem Ym (b:UInt8)(h:isD b=true):vb b=true:=by unfold vb;rw[h];rfl
theorem YU (b:UInt8)(h:preB b=true):vb b=true:=by unfold vb;rw[h];simp
theorem Pq:∀ l:List Str,(l.all fun p=>p.all preB)=true→(Lib.join l [46]).all vb=true
 | [],_=>rfl
 | x :: r, h => by
  rw[Lib.join_cons]
  simp only[List.all_cons,Bool.and_eq_true]at h
  rw[List.all_append,oX YU h.1,Bool.true_and]
  have hr:=h.2
  clear h
  induction r with
  | nil=>rfl
  | cons y r ih =>
   simp only[List.all_cons,Bool.and_eq_true]at hr
   have e:Lib.joinTail [46] (y::r)=46::(y++Lib.joinTail [46] r):=by simp[Lib.joinTail]
   rw[e,List.all_cons,List.all_append,oX YU hr.1,ih hr.2]
   decide
theorem QK {v:Ver}(h:xr v=true):(yl v).all vb=true∧∃ b r,yl v=b::r∧isD b=true:=by
 obtain⟨h1,h2,h3,h4,_⟩:=tN h
 obtain⟨a1,a2⟩:=oz h1.1
 obtain⟨b1,b2⟩:=oz h2.1
 obtain⟨c1,c2⟩:=oz h3.1
 have hp:(v.pre.all fun p=>p.all preB)=true:=by
  rw[List.all_eq_true]at h4 ⊢
  intro x hx
  have:=h4 x hx
  unfold sr at this
  simp only[Bool.and_eq_true]at this
  exact this.2.1
 have hj:=Pq v.pre hp
 have hcore:(tm v).all vb=true:=by
  unfold tm
  simp only[List.all_append,oX Ym a1,oX Ym b1,oX Ym c1]
  decide
 refine⟨?_,?_⟩
 · unfold yl vx
   rw[h]
   simp only[cond_true]
   cases (v.pre==[]) with
   | true=>simpa using hcore
   | false =>
    simp only[cond_false,List.all_append,hcore,hj]
    decide
 · unfold yl vx tm
   rw[h]
   simp only[cond_true]
   cases hi:Lib.itoa v.maj with
   | nil=>exact absurd hi a2
   | cons b r =>
    rw[hi,List.all_cons,Bool.and_eq_true]at a1
    cases (v.pre==[])<;>exact⟨b,_,rfl,a1.1⟩
def isV (s:Str):Bool:=(y5 s).2
theorem NL {s:Str}(h:isV s=true):(∀ b∈s,vb b=true)∧∃ b r,s=b::r∧isD b=true:=by
 obtain⟨_,ht,ho,_⟩:=wP h
 obtain⟨h1,h2⟩:=QK ho
 rw[ht]at h1 h2
 exact⟨List.all_eq_true.1 h1,h2⟩
theorem NM {s:Str}{c:UInt8}(hc:vb c=false)(h:c∈s):isV s=false:=by
 cases hv:isV s with
 | false=>rfl
 | true =>
  have:=(NL hv).1 c h
  rw[hc]at this;cases this
theorem mh {s:Str}(h:0≤zT s):(∀ b∈s,isD b=true)∧Lib.itoa (zT s)=s∧zT s≤999999999∧s≠[]:=by
 unfold zT at h ⊢
 split at h
 · rename_i v hv
   cases hc:((decide (0≤v)&&decide (v≤999999999))&&(Lib.itoa v==s)) with
   | false=>rw[hc]at h;simp at h
   | true =>
    have hc':=hc
    simp only[Bool.and_eq_true,decide_eq_true_eq,beq_iff_eq]at hc'
    obtain⟨⟨q1,q2⟩,q3⟩:=hc'
    obtain⟨a,b⟩:=oz q1
    simp only[cond_true]
    rw[q3]at a b
    exact⟨List.all_eq_true.1 a,q3,q2,b⟩
 · simp at h
theorem TC {s:Str}(h:isV s=false):vE s=none:=by
 unfold vE
 unfold isV at h
 rw[h];rfl
theorem vn:∀ x:Str,Op.bytesLess x x=false
 | []=>rfl
 | a::x=>by rw[rK,vn x];simp
theorem Rz:∀ x y:Str,Op.bytesLess x y=decide (x<y)
 | [],[]=>by simp[Op.bytesLess]
 | [],b::y=>by simp[Op.bytesLess]
 | a::x,[]=>by simp[Op.bytesLess]
 | a::x,b::y=>by
  rw[rK,Rz x y,Bool.eq_iff_iff]
  simp only[Bool.or_eq_true,decide_eq_true_eq,Bool.and_eq_true,beq_iff_eq,List.cons_lt_cons_iff]
theorem eG (x y:Str):decide (x≤y) = !(Op.bytesLess y x):=by
 rw[Rz,Bool.eq_iff_iff]
 simp only[decide_eq_true_eq,Bool.not_eq_true',decide_eq_false_iff_not]
 exact Iff.rfl
theorem oy {x y:Str}(h1:Op.bytesLess x y=false)(h2:Op.bytesLess y x=false):x=y:=by
 have h:=oO x y
 rw[h1,h2]at h
 simpa using h
theorem wa:∀ {x y z:Str},Op.bytesLess x y=true→Op.bytesLess y z=true→Op.bytesLess x z=true
 | [],[],z,h1,_=>by simp[Op.bytesLess]at h1
 | _::_,[],z,h1,_=>by simp[Op.bytesLess]at h1
 | [],_::_,[],_,h2=>by simp[Op.bytesLess]at h2
 | [],_::_,_::_,_,_=>by simp[Op.bytesLess]
 | _::_,_::_,[],_,h2=>by simp[Op.bytesLess]at h2
 | a::x,b::y,c::z,h1,h2=>by
  rw[rK]at h1 h2 ⊢
  simp only[Bool.or_eq_true,decide_eq_true_eq,Bool.and_eq_true,beq_iff_eq,UInt8.lt_iff_toNat_lt]at h1 h2 ⊢
  rcases h1 with h1 | ⟨rfl,h1⟩
  · rcases h2 with h2 | ⟨rfl, h2⟩
    · left;omega
    · left;exact h1
  · rcases h2 with h2 | ⟨rfl, h2⟩
    · left;exact h2
    · right;exact⟨rfl,wa h1 h2⟩
theorem lU {x y z:Str}(h1:Op.bytesLess y x=false)(h2:Op.bytesLess z y=false):Op.bytesLess z x=false:=by
 cases h:Op.bytesLess z x with
 | false=>rfl
 | true =>
  exfalso
  cases hyz:Op.bytesLess y z with
  | true=>have:=wa hyz h;rw[h1]at this;cases this
  | false =>
   have:=oy hyz h2
   subst this
   rw[h1]at h;cases h
def Asc (l:List Str):Prop:=l.Pairwise fun x y=>Op.bytesLess y x=false
theorem au:∀ {a b:List Str},Asc a→Asc b→a.Perm b→a=b
 | [],b,_,_,h=>by simpa using h.symm
 | x::a,[],_,_,h=>by have:=h.length_eq;simp at this
 | x :: a, y :: b, h1, h2, h => by
  have h1':=List.pairwise_cons.1 h1
  have h2':=List.pairwise_cons.1 h2
  have hxy:x=y:=by
   have m1:x∈y::b:=h.mem_iff.1 (by simp)
   have m2:y∈x::a:=h.mem_iff.2 (by simp)
   rcases List.mem_cons.1 m1 with e | m1
   · exact e
   · rcases List.mem_cons.1 m2 with e | m2
     · exact e.symm
     · exact oy (h2'.1 x m1) (h1'.1 y m2) |>.symm▸rfl
  subst hxy
  rw[au h1'.2 h2'.2 (List.Perm.cons_inv h)]
theorem WA (l:List Str):Asc (vy l):=by
 have:=List.pairwise_mergeSort (le:=fun x y:Str=>decide (x≤y)) (fun a b c h1 h2=>by
  rw[eG]at *
  simp only[Bool.not_eq_true']at *
  exact lU h1 h2) (fun a b=>by
  rw[eG,eG]
  cases h1:Op.bytesLess b a<;>cases h2:Op.bytesLess a b<;>first | rfl | skip
  have:=wa h1 h2
  rw[vn]at this;cases this) l
 refine List.Pairwise.imp (fun {a b} h=>?_) this
 rw[eG]at h
 simpa using h
theorem UY {a b:List Str}(hb:Asc b)(h:a.Perm b):vy a=b:=au (WA a) hb ((lE a).trans h)
def xI:List Str→Str→List Str
 | [],s=>[s]
 | x::r,s=>cond (Op.bytesLess x s) (x::xI r s) (cond (x==s) (x::r) (s::x::r))
def yG (l:List Str)(s:Str):Bool:=l.any (· == s)
theorem nS:∀ (l:List Str) (s:Str),yG l s=false→(xI l s).Perm (l++[s])
 | [],s,_=>by simp[xI]
 | x::r,s,h=>by
  simp only[yG,List.any_cons,Bool.or_eq_false_iff]at h
  rw[xI,h.1]
  cases Op.bytesLess x s with
  | true=>simp only[cond_true,List.cons_append];exact (nS r s h.2).cons x
  | false=>simp only[cond_false];exact (List.perm_append_singleton s (x::r)).symm
theorem jf:∀ (l:List Str) (s y:Str),y∈xI l s→y∈l∨y=s
 | [],s,y,h=>by simpa [xI] using h
 | x :: r, s, y, h => by
  rw[xI]at h
  cases h1:Op.bytesLess x s with
  | true =>
   rw[h1,cond_true]at h
   rcases List.mem_cons.1 h with h | h
   · left;simp[h]
   · rcases jf r s y h with h | h
     · left;simp[h]
     · right;exact h
  | false =>
   rw[h1,cond_false]at h
   cases h2:(x==s) with
   | true=>rw[h2,cond_true]at h;left;exact h
   | false =>
    rw[h2,cond_false]at h
    rcases List.mem_cons.1 h with h | h
    · right;exact h
    · left;exact h
theorem aB:∀ (l:List Str) (s:Str),Asc l→Asc (xI l s)
 | [],s,_=>by simp[xI,Asc]
 | x :: r, s, h => by
  have h':=List.pairwise_cons.1 h
  rw[xI]
  cases h1:Op.bytesLess x s with
  | true =>
   simp only[cond_true]
   refine List.pairwise_cons.2 ⟨fun y hy=>?_,aB r s h'.2⟩
   rcases jf r s y hy with hy | rfl
   · exact h'.1 y hy
   · cases h2 : Op.bytesLess y x with
     | false=>rfl
     | true=>have:=wa h1 h2;rw[vn]at this;cases this
  | false =>
   simp only[cond_false]
   cases h2:(x==s) with
   | true=>exact h
   | false =>
    simp only[cond_false]
    refine List.pairwise_cons.2 ⟨fun y hy=>?_,h⟩
    rcases List.mem_cons.1 hy with rfl | hy
    · exact h1
    · exact lU h1 (h'.1 y hy)
theorem Vf {a b:List Str}(h:a.Perm b)(s:Str):yG a s=yG b s:=by
 unfold yG
 rw[Bool.eq_iff_iff,List.any_eq_true,List.any_eq_true]
 constructor
 · rintro⟨x,h1,h2⟩;exact⟨x,h.mem_iff.1 h1,h2⟩
 · rintro⟨x,h1,h2⟩;exact⟨x,h.mem_iff.2 h1,h2⟩
def yS (ps:List z1)(k:Str):Option z1:=match tk ps k with
 | some i=>ps[i]?
 | none=>none
def yi (add:List Str→Str→List Str)(ps:List z1):Nat→List Str→List Str→List Str
 | 0,out,_=>out
 | _+1,out,[]=>out
 | n+1,out,k::w=>match yS ps k with
  | none=>yi add ps n out w
  | some p=>cond (yG out k) (yi add ps n out w) (yi add ps n (add out k) (w++p.zn))
theorem sA (ps:List z1):∀ (n:Nat) (a b w:List Str),Asc b→a.Perm b→Asc (yi xI ps n b w)∧(yi (fun l s=>l++[s]) ps n a w).Perm (yi xI ps n b w)
 | 0,a,b,w,hb,h=>⟨hb,h⟩
 | n+1,a,b,[],hb,h=>⟨hb,h⟩
 | n + 1, a, b, k :: w, hb, h => by
  rw[yi,yi]
  cases yS ps k with
  | none=>exact sA ps n a b w hb h
  | some p =>
   rw[Vf h k]
   cases hc:yG b k with
   | true=>exact sA ps n a b w hb h
   | false=>exact sA ps n (a++[k]) (xI b k) (w++p.zn) (aB b k hb) ((h.append_right [k]).trans (nS b k hc).symm)
theorem lJ (ps:List z1)(n:Nat)(w:List Str):vy (yi (fun l s=>l++[s]) ps n [] w)=yi xI ps n [] w:=by
 obtain⟨h1,h2⟩:=sA ps n [] [] w (by simp[Asc]) (List.Perm.refl _)
 exact UY h1 h2
def muP (out:List Str)(p:z1):Nat:=cond (yG out (keyOf p)) 0 p.zn.length
def muS (ps:List z1)(out:List Str):Nat:=(ps.map (muP out)).sum
theorem nO (l:List Str)(k s:Str):yG (l++[k]) s=(yG l s||(k==s)):=by simp[yG]
theorem Ry (k:Str)(out out':List Str)(h:∀ s,yG out' s=(yG out s||(k==s))):∀ ps:List z1,muS ps out'≤muS ps out
 | []=>by simp[muS]
 | p :: ps => by
  have ih:=Ry k out out' h ps
  unfold muS at ih ⊢
  simp only[List.map_cons,List.sum_cons]
  have:muP out' p≤muP out p:=by
   unfold muP
   rw[h]
   cases yG out (keyOf p)<;>cases (k==keyOf p)<;>simp
  omega
theorem ov (k:Str)(out out':List Str)(h:∀ s,yG out' s=(yG out s||(k==s)))(hk:yG out k=false):∀ (ps:List z1) (p:z1),p∈ps→keyOf p=k→muS ps out'+p.zn.length≤muS ps out
 | [],p,hp,_=>by simp at hp
 | q :: ps, p, hp, e => by
  unfold muS
  simp only[List.map_cons,List.sum_cons]
  rcases List.mem_cons.1 hp with rfl | hp
  · have h1 := Ry k out out' h ps
    unfold muS at h1
    have:muP out' p=0:=by unfold muP;rw[h,e,beq_self_eq_true,Bool.or_true];rfl
    have h2:muP out p=p.zn.length:=by unfold muP;rw[e,hk];rfl
    omega
  · have h1 := ov k out out' h hk ps p hp e
    unfold muS at h1
    have:muP out' q≤muP out q:=by
     unfold muP
     rw[h]
     cases yG out (keyOf q)<;>cases (k==keyOf q)<;>simp
    omega
theorem kR:∀ ps:List z1,muS ps []≤z1.zX ps
 | []=>by simp[muS]
 | p :: ps => by
  have ih:=kR ps
  unfold muS at ih ⊢
  simp only[List.map_cons,List.sum_cons,z1.zX]
  have:muP [] p≤p.y6:=by
   unfold muP
   simp only[yG,List.any_nil,cond_false,z1.y6];omega
  omega
theorem XP {α:Type}(p:α→Bool):∀ (l:List α) (n i:Nat),xU p l n=some i→n≤i∧∃ q,l[i - n]? = some q∧p q=true
 | [],n,i,h=>by cases h
 | x::r,n,i,h=>by
  rw[xU]at h
  split at h
  · rename_i hx
    cases h
    exact⟨Nat.le_refl _,x,by simp,hx⟩
  · obtain ⟨h1, q, h2, h3⟩ := XP p r (n + 1) i h
    refine⟨by omega,q,?_,h3⟩
    rw[show i - n=(i - (n+1))+1 by omega]
    simpa using h2
theorem nG {α:Type}{p:α→Bool}{l:List α}{i:Nat}(h:xU p l 0=some i):∃ q,l[i]? = some q∧p q=true:=by
 obtain⟨_,q,h2,h3⟩:=XP p l 0 i h
 exact⟨q,by simpa using h2,h3⟩
theorem wg {ps:List z1}{k:Str}{p:z1}(h:yS ps k=some p):p∈ps∧keyOf p=k∧∃ i,tk ps k=some i∧ps[i]? = some p:=by
 unfold yS at h
 split at h
 · rename_i i hi
   exact⟨List.mem_of_getElem? h,by
    have:=nG hi
    obtain⟨q,h1,h2⟩:=this
    rw[h]at h1
    cases h1
    simpa using h2,i,hi,h⟩
 · cases h
theorem oE {ps:List z1}{k:Str}(h:yS ps k=none):tk ps k=none:=by
 unfold yS at h
 split at h
 · rename_i i hi
   obtain⟨q,h1,h2⟩:=nG hi
   rw[h]at h1;cases h1
 · assumption
def v8:List Str→Str→Nat
 | [],_=>0
 | x::r,s=>cond (Op.bytesLess x s) (v8 r s+1) 0
def atS (l:List Str)(s:Str):Bool:=l[v8 l s]? == some s
theorem YV:∀ (l:List Str) (s:Str),v8 l s≤l.length
 | [],s=>by simp[v8]
 | x::r,s=>by
  have:=YV r s
  rw[v8]
  cases Op.bytesLess x s with
  | true=>simp only[cond_true,List.length_cons];omega
  | false=>simp
theorem Wa:∀ (l:List Str) (s:Str),atS l s=false→xI l s=l.take (v8 l s)++s::l.drop (v8 l s)
 | [],s,h=>by simp[xI,v8]
 | x :: r, s, h => by
  unfold atS at h
  rw[v8]at h ⊢
  rw[xI]
  cases h1:Op.bytesLess x s with
  | true =>
   rw[h1,cond_true,List.getElem?_cons_succ]at h
   simp only[cond_true,List.take_succ_cons,List.drop_succ_cons,List.cons_append]
   rw[Wa r s h]
  | false =>
   rw[h1,cond_false]at h
   have:(x==s)=false:=by simpa using h
   simp[this]
theorem PI {l:List Str}{s:Str}(h:yG l s=false):atS l s=false:=by
 cases ha:atS l s with
 | false=>rfl
 | true =>
  unfold atS at ha
  have:l[v8 l s]? = some s:=by simpa using ha
  have hm:=List.mem_of_getElem? this
  unfold yG at h
  rw[List.any_eq_false]at h
  exact absurd (by simp) (h s hm)
theorem iI (a v:Str)(hv:(64:UInt8)∉v):∀ n,n≤v.length→tG 64 (a++64::v) (a.length+1+n)=some a.length
 | 0,_=>by simp[tG]
 | n + 1, hn => by
  have e:(a++64::v)[a.length+1+n]? = v[n]? := by
   rw[List.getElem?_append_right (by omega),show a.length+1+n - a.length=n+1 by omega,List.getElem?_cons_succ]
  have ne:¬ (v[n]? = some 64):=fun h=>hv (List.mem_of_getElem? h)
  rw[show a.length+1+(n+1)=(a.length+1+n)+1 by omega,tG,e,if_neg ne]
  exact iI a v hv n (by omega)
theorem gQ (a v:Str)(hv:(64:UInt8)∉v):uj ((a++[64])++v)=(a,v):=by
 have h:=iI a v hv v.length (Nat.le_refl _)
 unfold uj
 rw[show (a++[64])++v=a++64::v by simp,show (a++64::v).length=a.length+1+v.length by simp;omega,h]
 simp
theorem UP {v:Str}(h:(vE v).isSome=true):(64:UInt8)∉v:=by
 intro hm
 have h1:=NM (c:=64) (by decide) hm
 rw[TC h1]at h
 cases h
theorem eW {p:z1}(h:wu p=true):uj (keyOf p)=(p.name,p.version):=by
 unfold wu at h
 simp only[Bool.and_eq_true]at h
 exact gQ p.name p.version (UP h.2.1)
theorem mj (ps:List z1):∀ (o:Option Str) (l:List z1),w9 ps o l=true→∀ p∈l,wu p=true∧xD ps none p.zn=true
 | _,[],_,p,hp=>by simp at hp
 | o,q::r,h,p,hp=>by
  rw[w9]at h
  simp only[Bool.and_eq_true]at h
  rcases List.mem_cons.1 hp with rfl | hp
  · exact⟨h.1.1,h.1.2.2⟩
  · exact mj ps _ r h.2 p hp
theorem vo (ps:List z1):∀ (o:Option Str) (l:List Str),xD ps o l=true→(l.Pairwise fun x y=>Op.bytesLess x y=true)∧(∀ k∈l,mV ps k=true)∧∀ k∈l,vA o k=true
 | o,[],_=>by simp
 | o, k :: r, h => by
  rw[xD]at h
  simp only[Bool.and_eq_true]at h
  obtain⟨h1,h2,h3⟩:=vo ps (some k) r h.2
  refine⟨List.pairwise_cons.2 ⟨fun y hy=>h3 y hy,h1⟩,fun y hy=>?_,fun y hy=>?_⟩
  · rcases List.mem_cons.1 hy with rfl | hy
    · exact h.1.1
    · exact h2 y hy
  · rcases List.mem_cons.1 hy with rfl | hy
    · exact h.1.2
    · cases o with
      | none=>rfl
      | some q=>exact wa h.1.2 (h3 y hy)
def zV (ps:List z1)(w:List Str):List Str:=yi xI ps (w.length+muS ps []) [] w
theorem mH {g:zw}(h:zO g=true):(g.top.Pairwise fun x y=>Op.bytesLess x y=true)∧∀ k∈g.top,mV g.packs k=true:=by
 unfold zO at h
 simp only[Bool.and_eq_true]at h
 obtain⟨h1,h2,_⟩:=vo g.packs none g.top h.2.2
 exact⟨h1,h2⟩
theorem w4 {g:zw}(h:zO g=true):∀ p∈g.packs,wu p=true∧xD g.packs none p.zn=true:=by
 unfold zO at h
 simp only[Bool.and_eq_true]at h
 exact mj g.packs none g.packs h.1
theorem om (add:List Str→Str→List Str)(hadd:∀ l s y,y∈add l s→y∈l∨y=s)(ps:List z1):∀ (n:Nat) (out w:List Str),(∀ k∈out,∃ p,yS ps k=some p)→∀ k∈yi add ps n out w,∃ p,yS ps k=some p
 | 0,out,w,h,k,hk=>h k hk
 | n+1,out,[],h,k,hk=>h k hk
 | n + 1, out, a :: w, h, k, hk => by
  rw[yi]at hk
  cases hf:yS ps a with
  | none=>rw[hf]at hk;exact om add hadd ps n out w h k hk
  | some p =>
   rw[hf]at hk
   simp only at hk
   cases hc:yG out a with
   | true=>rw[hc,cond_true]at hk;exact om add hadd ps n out w h k hk
   | false =>
    rw[hc,cond_false]at hk
    exact om add hadd ps n (add out a) _ (fun y hy=>by
     rcases hadd out a y hy with hy | rfl
     · exact h y hy
     · exact⟨p,hf⟩) k hk
theorem qb (ps:List z1)(w:List Str):∀ k∈zV ps w,∃ p,yS ps k=some p :=
 om xI jf ps _ [] w (by simp)
def tF (ps:List z1)(out:List Str):Nat:=ps.countP fun p=>!(yG out (keyOf p))
theorem bc (k:Str)(out out':List Str)(h:∀ s,yG out' s=(yG out s||(k==s))):∀ ps:List z1,tF ps out'≤tF ps out
 | []=>by simp[tF]
 | p::ps=>by
  have ih:=bc k out out' h ps
  unfold tF at ih ⊢
  simp only[List.countP_cons]
  rw[h (keyOf p)]
  cases yG out (keyOf p)<;>cases (k==keyOf p)<;>simp<;>omega
theorem sE (k:Str)(out out':List Str)(h:∀ s,yG out' s=(yG out s||(k==s)))(hk:yG out k=false):∀ (ps:List z1) (p:z1),p∈ps→keyOf p=k→tF ps out'+1≤tF ps out
 | [],p,hp,_=>by simp at hp
 | q::ps,p,hp,e=>by
  rcases List.mem_cons.1 hp with rfl | hp
  · have h1 := bc k out out' h ps
    unfold tF at h1 ⊢
    simp only[List.countP_cons]
    rw[h (keyOf p),e,hk,beq_self_eq_true]
    simp
    omega
  · have h1 := sE k out out' h hk ps p hp e
    unfold tF at h1 ⊢
    simp only[List.countP_cons]
    rw[h (keyOf q)]
    cases yG out (keyOf q)<;>cases (k==keyOf q)<;>simp<;>omega
theorem oH:∀ (l:List Str) (k s:Str),yG (xI l k) s=(yG l s||(k==s))
 | [],k,s=>by simp[xI,yG]
 | x :: r, k, s => by
  have ih:=oH r k s
  unfold yG at ih ⊢
  rw[xI]
  cases h1:Op.bytesLess x k with
  | true=>simp only[cond_true,List.any_cons,ih,Bool.or_assoc]
  | false =>
   simp only[cond_false]
   cases h2:(x==k) with
   | true =>
    have:x=k:=by simpa using h2
    subst this
    simp only[cond_true,List.any_cons]
    cases (x==s)<;>simp
   | false =>
    simp only[cond_false,List.any_cons]
    cases (k==s)<;>cases (x==s)<;>simp
theorem wX {l:List Str}{i:Nat}{s:Str}(h:l[i]? = some s):(strs l)[i]? = some [.str s]:=by simp[strs,h]
theorem OP (l:List Str)(hl:l.length≤1048576)(s:Str):∀ (rest pre:List Str),l=pre++rest →
 EV Tryz.prog pol (.loop 148 26 0 [.t (.list 1 (strs l)),.t (.str s),.t (.int .i64 (pre.length:Int))] [])=some (cond (yG rest s) (.loop .ret [.t (.bool true)] []) (.loop (.exit 0) [.bad] []))
 | [],pre,h=>by
  have c:decide ((pre.length:Int)<(l.length:Int))=false:=by simp[h]
  rw[show yG [] s=false from rfl,cond_false]
  refine zo Tryz.func148 rfl rfl ?_
  simp (disch:=((try simp only[LL]);omega)) only[↓GO,↓DRW,GA,GX,ren,zk,za,refs,z8,cst,zr,isC,bin,una,z7,zd,blt,asArg,zg,zc,zf,z6,E.mkS,unN,ze,zm,zb,GS,simprocAttr,GZ,c,zi,zA]
 | x :: rest, pre, h => by
  have c:decide ((pre.length:Int)<(l.length:Int))=true:=by simp[h];omega
  have hget:(strs l)[pre.length]? = some [.str x]:=wX (by rw[h];simp)
  have hlen:pre.length+rest.length+1≤l.length:=by rw[h];simp;omega
  have IH:=OP l hl s rest (pre++[x]) (by rw[h];simp)
  rw[show ((pre++[x]).length:Int)=(pre.length:Int)+1 by simp]at IH
  rw[show yG (x::rest) s=((x==s)||yG rest s) from rfl]
  clear h
  cases q:(x==s) with
  | true =>
   simp only[Bool.true_or,cond_true]
   refine zo Tryz.func148 rfl rfl ?_
   simp (disch:=((try simp only[LL]);omega)) only[↓GO,↓DRW,GA,GX,ren,zk,za,refs,z8,cst,zr,isC,bin,una,z7,zd,blt,asArg,zg,zc,zf,z6,E.mkS,unN,ze,zm,zb,GS,simprocAttr,GZ,c,hget,zi,q,zq,zA]
  | false =>
   simp only[Bool.false_or]
   refine zo Tryz.func148 rfl rfl ?_
   simp (disch:=((try simp only[LL]);omega)) only[↓GO,↓DRW,GA,GX,ren,zk,za,refs,z8,cst,zr,isC,bin,una,z7,zd,blt,asArg,zg,zc,zf,z6,E.mkS,unN,ze,zm,zb,GS,simprocAttr,GZ,c,hget,zi,q,zq,zA,IH]
theorem Ws (l:List Str)(hl:l.length≤1048576)(s:Str):zu (EV Tryz.prog pol) 148 [.t (.list 1 (strs l)),.t (.str s)]=some (.t (.bool (yG l s))):=by
 have L:=OP l hl s l [] rfl
 simp only[List.length_nil,Int.natCast_zero]at L
 cases q:yG l s<;>rw[q]at L<;>simp only[cond_true,cond_false]at L
 all_goals
  apply zx
  refine zy rfl Tryz.func148 rfl (by kernel_rfl) ?_
  unfold Tryz.f148
  simp (disch:=((try simp only[LL]);omega)) only[↓GO,↓DRW,GA,GX,ren,zk,za,refs,z8,cst,zr,isC,bin,una,z7,zd,blt,asArg,zg,zc,zf,z6,E.mkS,unN,ze,zm,zb,GS,simprocAttr,GZ,L,zi,zA]
theorem OX (l:List Str)(hl:l.length≤1073741824)(s:Str)(n:Nat)(hn:n=l.length)(cap:Option Nat):∀ (rest pre:List Str),l=pre++rest →
 EV Tryz.prog pol (.loop 120 28 1 [.sl 0 0 n cap,.t (.str s),.t (.int .i64 (pre.length:Int))] [.ts 1 (strs l)])=some (.loop (.exit 0) [.sl 0 0 n cap,.t (.str s),.t (.int .i64 ((pre.length+v8 rest s:Nat):Int))] [.ts 1 (strs l)])
 | [],pre,h=>by
  have c:decide ((pre.length:Int)<(n:Int))=false:=by simp[hn,h]
  rw[show v8 [] s=0 from rfl,Nat.add_zero]
  refine zo Tryz.func120 rfl rfl ?_
  simp (disch:=((try simp only[LL]);omega)) only[↓GO,↓DRW,GA,GX,ren,zk,za,refs,z8,cst,zr,isC,bin,una,z7,zd,blt,asArg,zg,zc,zf,z6,E.mkS,unN,ze,zm,zb,GS,simprocAttr,GZ,c,zA]
 | x :: rest, pre, h => by
  have c:decide ((pre.length:Int)<(n:Int))=true:=by simp[hn,h];omega
  have c0:decide ((0:Int)≤(pre.length:Int))=true:=by simp
  have hget:(strs l)[pre.length]? = some [.str x]:=wX (by rw[h];simp)
  have hlen:pre.length+rest.length+1≤l.length:=by rw[h];simp;omega
  have IH:=OX l hl s n hn cap rest (pre++[x]) (by rw[h];simp)
  rw[show ((pre++[x]).length:Int)=(pre.length:Int)+1 by simp,show (pre++[x]).length+v8 rest s=pre.length+(v8 rest s+1) by simp;omega]at IH
  rw[v8]
  clear h
  cases q:Op.bytesLess x s with
  | true =>
   simp only[cond_true]
   refine zo Tryz.func120 rfl rfl ?_
   simp (disch:=((try simp only[LL]);omega)) only[↓GO,↓DRW,GA,GX,ren,zk,za,refs,z8,cst,zr,isC,bin,una,z7,zd,blt,asArg,zg,zc,zf,z6,E.mkS,unN,ze,zm,zb,GS,simprocAttr,GZ,c,c0,hget,q,zq,zA,IH]
  | false =>
   simp only[cond_false,Nat.add_zero]
   refine zo Tryz.func120 rfl rfl ?_
   simp (disch:=((try simp only[LL]);omega)) only[↓GO,↓DRW,GA,GX,ren,zk,za,refs,z8,cst,zr,isC,bin,una,z7,zd,blt,asArg,zg,zc,zf,z6,E.mkS,unN,ze,zm,zb,GS,simprocAttr,GZ,c,c0,hget,q,zq,zA]
theorem Ml (l:List Str)(hl:l.length≤1073741824)(s:Str)(n:Nat)(hn:n=l.length)(cap:Option Nat)(h:atS l s=false):EV Tryz.prog pol (.callO false 120 [.sl 0 0 n cap,.t (.str s)] [.ts 1 (strs l)])=some (.call (.sl 1 0 (n+1) none) [.ts 1 (strs l),.ts 1 (strs (xI l s))]):=by
 have L:=OX l hl s n hn cap l [] rfl
 simp only[List.length_nil,Int.natCast_zero,Nat.zero_add]at L
 rw[Wa l s h]
 have hp:=YV l s
 unfold atS at h
 have c0:decide ((0:Int)≤((v8 l s:Nat):Int))=true:=by simp
 have hsl:(strs l).length=n:=by rw[zi,hn]
 have e:strs (l.take (v8 l s)++s::l.drop (v8 l s))=((strs l).take (v8 l s)++[[.str s]])++(strs l).drop (v8 l s):=by simp[strs]
 rw[e]
 have hA1:((strs l).take (v8 l s)).length=v8 l s:=by rw[List.length_take,hsl];omega
 have hB0:((strs l).drop (v8 l s)).take (n - v8 l s)=(strs l).drop (v8 l s):=List.take_of_length_le (by rw[List.length_drop,hsl];omega)
 have hB1:((strs l).drop (v8 l s)).length=n - v8 l s:=by rw[List.length_drop,hsl]
 have hE:v8 l s+1+(n - v8 l s)=n+1:=by omega
 rw[← hn]at hp
 have hnl:n≤1073741824:=by omega
 cases hx:l[v8 l s]? with
 | none =>
  have hlt:l.length≤v8 l s:=List.getElem?_eq_none_iff.1 hx
  have c:decide (((v8 l s:Nat):Int)<(n:Int))=false:=by rw[hn];simpa using hlt
  clear h hx e
  generalize v8 l s=p at *
  generalize hA:(strs l).take p=A at *
  generalize hB:(strs l).drop p=B at *
  have hC:(A++[[T.str s]]).length=p+1:=by simp[hA1]
  refine zH Tryz.func120 rfl (by kernel_rfl) ?_
  unfold Tryz.f120
  simp (disch:=((try simp only[LL]);omega)) only[↓GO,↓DRW,GA,GX,ren,zk,za,refs,z8,cst,zr,isC,bin,una,z7,zd,blt,asArg,zg,zc,zf,z6,E.mkS,unN,ze,zm,zb,GS,simprocAttr,GZ,L,c,c0,hsl,Nat.sub_zero,hA,hA1,hC,hB,hB0,hB1,hE,List.nil_append,Nat.zero_add,zA,ya]
  refine zU (by kernel_rfl) ?_
  rfl
 | some x =>
  rw[hx]at h
  have q:(x==s)=false:=by simpa using h
  have hget:=wX hx
  have hlt:v8 l s<l.length:=(List.getElem?_eq_some_iff.1 hx).1
  have c:decide (((v8 l s:Nat):Int)<(n:Int))=true:=by rw[hn];simpa using hlt
  clear h hx e
  generalize v8 l s=p at *
  generalize hA:(strs l).take p=A at *
  generalize hB:(strs l).drop p=B at *
  have hC:(A++[[T.str s]]).length=p+1:=by simp[hA1]
  refine zH Tryz.func120 rfl (by kernel_rfl) ?_
  unfold Tryz.f120
  simp (disch:=((try simp only[LL]);omega)) only[↓GO,↓DRW,GA,GX,ren,zk,za,refs,z8,cst,zr,isC,bin,una,z7,zd,blt,asArg,zg,zc,zf,z6,E.mkS,unN,ze,zm,zb,GS,simprocAttr,GZ,L,c,c0,hget,q,hsl,Nat.sub_zero,hA,hA1,hC,hB,hB0,hB1,hE,List.nil_append,Nat.zero_add,zA,ya]
  refine zU (by kernel_rfl) ?_
  rfl
theorem Xw (k:Str):∀ (r:List Str) (i:Nat),decide (ixS k i r≥0)=yG r k
 | [],i=>rfl
 | x::r,i=>by
  rw[ixS,show yG (x::r) k=((x==k)||yG r k) from rfl]
  cases (x==k) with
  | true=>simp
  | false=>simp only[cond_false,Bool.false_or];exact Xw k r (i+1)
theorem Nj (l:List Str)(hl:l.length≤1048576)(s:Str):zu (EV Tryz.prog pol) 138 [.t (.list 1 (strs l)),.t (.str s)]=some (.t (.bool (yG l s))):=by
 have h1:=c_ix s l hl
 have h2:=Xw s l 0
 apply zx
 refine zy rfl Tryz.func138 rfl (by kernel_rfl) ?_
 unfold Tryz.f138
 simp (disch:=((try simp only[LL]);omega)) only[↓GO,↓DRW,GA,GX,ren,zk,za,refs,z8,cst,zr,isC,bin,una,z7,zd,blt,asArg,zg,zc,zf,z6,E.mkS,unN,ze,zm,zb,GS,simprocAttr,GZ,h1,h2,zA]
theorem qR (g:Nat)(caps:List T)(p:Str→Bool)(es:List Str)(hl:es.length≤4611686018427387904)(hp:∀ x∈es,zu (EV Tryz.prog pol) g (.t (.str x)::caps.map .t)=some (.t (.bool (p x)))):∀ (rest pre:List Str),es=pre++rest →
 EV Tryz.prog pol (.loop 140 26 0 [.t (.list 1 (strs es)),.t (.fn g caps),.t (.int .i64 (es.length:Int)),.t (.int .i64 (pre.length:Int))] [])=some (match xU p rest pre.length with | some i=>.loop .ret [.t (.int .i64 (i:Int))] [] | none=>.loop (.exit 0) [.bad] [])
 | [],pre,hs=>by
  have c:decide ((pre.length:Int)<(es.length:Int))=false:=by simp[hs]
  refine zo Tryz.func140 rfl rfl ?_
  simp only[↓GO,↓DRW,GA,GX,ren,zk,za,refs,z8,cst,zr,isC,bin,una,z7,zd,blt,asArg,zg,zc,zf,z6,E.mkS,unN,ze,zm,zb,GS,simprocAttr,c,xU]
 | b :: rest, pre, hs => by
  have c:decide ((pre.length:Int)<(es.length:Int))=true:=by simp[hs];omega
  have hi:pre.length<es.length:=by rw[hs];simp
  have hget:=s6 es pre.length hi
  have hgb:es[pre.length]=b:=by simp[hs]
  rw[hgb]at hget
  have hb:=hp b (by rw[hs];simp)
  have e1:(pre.length:Int)+1=((pre++[b]).length:Int):=by simp
  have IH:=qR g caps p es hl hp rest (pre++[b]) (by rw[hs];simp)
  refine zo Tryz.func140 rfl rfl ?_
  simp only[xU]
  cases hpb:p b with
  | true =>
   rw[hpb]at hb
   simp (disch:=omega) only[↓GO,↓DRW,GA,GX,ren,zk,za,refs,z8,cst,zr,isC,bin,una,z7,zd,blt,asArg,zg,zc,zf,z6,E.mkS,unN,ze,zm,zb,GS,simprocAttr,zi,c,hget,zq,hb]
  | false =>
   rw[hpb]at hb
   simp (disch:=omega) only[↓GO,↓DRW,GA,GX,ren,zk,za,refs,z8,cst,zr,isC,bin,una,z7,zd,blt,asArg,zg,zc,zf,z6,E.mkS,unN,ze,zm,zb,GS,simprocAttr,zi,c,hget,zq,hb]
   rw[e1,IH]
   simp
theorem jG (g:Nat)(caps:List T)(p:Str→Bool)(es:List Str)(hl:es.length≤4611686018427387904)(hp:∀ x∈es,zu (EV Tryz.prog pol) g (.t (.str x)::caps.map .t)=some (.t (.bool (p x)))) :
 zu (EV Tryz.prog pol) 140 [.t (.list 1 (strs es)),.t (.fn g caps)]=some (.t (.int .i64 (ixI (xU p es 0)))):=by
 have IH:=qR g caps p es hl hp es [] rfl
 simp only[List.length_nil,Int.natCast_zero]at IH
 apply zx
 refine zy rfl Tryz.func140 rfl (by kernel_rfl) ?_
 unfold Tryz.f140
 cases hf:xU p es 0 with
 | none=>rw[hf]at IH;simp only[↓GO,↓DRW,GA,GX,ren,zk,za,refs,z8,cst,zr,isC,bin,una,z7,zd,blt,asArg,zg,zc,zf,z6,E.mkS,unN,ze,zm,zb,GS,simprocAttr,zi,IH,ixI]
 | some i=>rw[hf]at IH;simp only[↓GO,↓DRW,GA,GX,ren,zk,za,refs,z8,cst,zr,isC,bin,una,z7,zd,blt,asArg,zg,zc,zf,z6,E.mkS,unN,ze,zm,zb,GS,simprocAttr,zi,IH,ixI]
structure Cmp {α:Type} (p:α→Prop) (c:α→α→Int):Prop where
 anti:∀ x y,p x→p y→c y x = - c x y
 trans:∀ x y z,p x→p y→p z→c x y<0→c y z<0→c x z<0
 sep:∀ x y,p x→p y→c x y=0→x=y
theorem Cmp.refl {α:Type}{p:α→Prop}{c:α→α→Int}(h:Cmp p c){x:α}(hx:p x):c x x=0:=by
 have:=h.anti x x hx hx;omega
theorem Cmp.N0 {α β:Type}{p:β→Prop}{c:β→β→Int}(h:Cmp p c)(f:α→β)(q:α→Prop)(hp:∀ x,q x→p (f x))(hi:∀ x y,q x→q y→f x=f y→x=y):Cmp q fun x y=>c (f x) (f y) :=
 ⟨fun x y hx hy=>h.anti _ _ (hp x hx) (hp y hy),fun x y z hx hy hz=>h.trans _ _ _ (hp x hx) (hp y hy) (hp z hz),fun x y hx hy e=>hi x y hx hy (h.sep _ _ (hp x hx) (hp y hy) e)⟩
theorem Cmp.lex {α β:Type}{p:α→Prop}{q:β→Prop}{c:α→α→Int}{d:β→β→Int}(h:Cmp p c)(k:Cmp q d):Cmp (fun x:α×β=>p x.1∧q x.2) fun x y=>cond (c x.1 y.1==0) (d x.2 y.2) (c x.1 y.1):=by
 refine⟨fun x y hx hy=>?_,fun x y z hx hy hz h1 h2=>?_,fun x y hx hy e=>?_⟩
 · have ha := h.anti x.1 y.1 hx.1 hy.1
   cases hc:(c x.1 y.1==0) with
   | true =>
    have h0:c x.1 y.1=0:=by simpa using hc
    rw[ha,h0,show ((-0:Int)==0)=true from rfl,cond_true,cond_true]
    exact k.anti _ _ hx.2 hy.2
   | false =>
    have h0:c x.1 y.1≠0:=by simpa using hc
    have h1:(c y.1 x.1==0)=false:=by rw[beq_eq_false_iff_ne,ha];omega
    rw[h1,cond_false,cond_false,ha]
 · cases hxy : (c x.1 y.1 == 0) with
   | true =>
    have e1:=h.sep _ _ hx.1 hy.1 (by simpa using hxy)
    rw[hxy,cond_true]at h1
    rw[e1]
    cases hyz:(c y.1 z.1==0) with
    | true=>rw[hyz,cond_true]at h2;rw[cond_true];exact k.trans _ _ _ hx.2 hy.2 hz.2 h1 h2
    | false=>rw[hyz,cond_false]at h2;rw[cond_false];exact h2
   | false =>
    rw[hxy,cond_false]at h1
    cases hyz:(c y.1 z.1==0) with
    | true =>
     have e1:=h.sep _ _ hy.1 hz.1 (by simpa using hyz)
     rw[← e1,hxy,cond_false];exact h1
    | false =>
     rw[hyz,cond_false]at h2
     have h3:=h.trans _ _ _ hx.1 hy.1 hz.1 h1 h2
     have:(c x.1 z.1==0)=false:=by rw[beq_eq_false_iff_ne];omega
     rw[this,cond_false];exact h3
 · cases hc : (c x.1 y.1 == 0) with
   | true =>
    rw[hc,cond_true]at e
    have e1:=h.sep _ _ hx.1 hy.1 (by simpa using hc)
    have e2:=k.sep _ _ hx.2 hy.2 e
    exact Prod.ext e1 e2
   | false=>rw[hc,cond_false]at e;rw[e]at hc;cases hc
theorem tE {a b:Int}:u6 a b<0↔a<b:=by
 unfold u6
 by_cases h1:a<b
 · simp[h1]
 · by_cases h2 : b < a
   · simp[h1,h2]
   · simp[h1,h2]
theorem tZ (a b:Int):u6 b a = - u6 a b:=by
 unfold u6
 by_cases h1:a<b
 · have h2 : ¬ b < a := by omega
   simp[h1,h2]
 · by_cases h2 : b < a
   · simp[h1,h2]
   · simp[h1,h2]
theorem wW:Cmp (fun _=>True) u6 :=
 ⟨fun x y _ _=>tZ x y,fun x y z _ _ _ h1 h2=>by rw[tE]at *;omega,fun x y _ _ e=>by have:=tY x y;rw[e]at this;simpa using this.symm⟩
theorem PL {a b:Str}:aM a b<0↔Op.bytesLess a b=true:=by
 unfold aM
 cases Op.bytesLess a b with
 | true=>simp
 | false=>cases (a==b)<;>simp
theorem nP:Cmp (fun _=>True) aM:=by
 refine⟨fun x y _ _=>?_,fun x y z _ _ _ h1 h2=>?_,fun x y _ _ e=>?_⟩
 · unfold aM
   cases h1:Op.bytesLess x y with
   | true =>
    have h2:Op.bytesLess y x=false:=by
     cases h:Op.bytesLess y x with
     | false=>rfl
     | true=>have:=wa h1 h;rw[vn]at this;cases this
    have h3:(y==x)=false:=by
     rw[beq_eq_false_iff_ne];intro e;subst e;rw[vn]at h1;cases h1
    rw[h2,h3];rfl
   | false =>
    cases h2:Op.bytesLess y x with
    | true =>
     have h3:(x==y)=false:=by
      rw[beq_eq_false_iff_ne];intro e;subst e;rw[vn]at h2;cases h2
     rw[h3];rfl
    | false =>
     have:=oy h1 h2
     subst this
     simp
 · rw[PL]at *;exact wa h1 h2
 · unfold aM at e
   cases h1:Op.bytesLess x y with
   | true=>rw[h1]at e;cases e
   | false =>
    rw[h1]at e
    cases h2:(x==y) with
    | true=>simpa using h2
    | false=>rw[h2]at e;cases e
theorem tX:Cmp (fun _=>True) sj:=by
 have inj:∀ {x y:Str},0≤zT x→zT x=zT y→x=y:=fun {x y} h e=>by
  have h1:=(mh h).2.1
  have h2:=(mh (s:=y) (by rw[← e];exact h)).2.1
  rw[← h1,← h2,e]
 refine⟨fun x y _ _=>?_,fun x y z _ _ _ h1 h2=>?_,fun x y _ _ e=>?_⟩
 · unfold sj
   cases decide (zT x≥0)<;>cases decide (zT y≥0)<;>simp only[Bool.and_true,Bool.and_false,Bool.true_and,Bool.false_and,cond_true,cond_false]
   all_goals first | exact nP.anti x y trivial trivial | exact tZ _ _ | rfl
 · unfold sj at *
   cases hx:decide (zT x≥0)<;>cases hy:decide (zT y≥0)<;>cases hz:decide (zT z≥0)<;>simp only[hx,hy,hz,Bool.and_true,Bool.and_false,Bool.true_and,Bool.false_and,cond_true,cond_false]at *
   all_goals first | exact nP.trans x y z trivial trivial trivial h1 h2 | exact wW.trans _ _ _ trivial trivial trivial h1 h2 | omega
 · unfold sj at e
   cases hx:decide (zT x≥0)<;>cases hy:decide (zT y≥0)<;>simp only[hx,hy,Bool.and_true,Bool.and_false,Bool.true_and,Bool.false_and,cond_true,cond_false]at e
   all_goals try omega
   · exact nP.sep x y trivial trivial e
   · exact inj (of_decide_eq_true hx) (wW.sep _ _ trivial trivial e)
theorem sH (a b:Str)(l m:List Str):uN (a::l) (b::m)=cond (sj a b==0) (uN l m) (sj a b):=by
 unfold uN
 rw[qA]
 cases (sj a b==0) with
 | true =>
  simp only[cond_true,List.length_cons]
  cases qA l m with
  | some x=>rfl
  | none =>
   simp only[Option.getD_none]
   unfold u6
   rw[show decide (((l.length+1:Nat):Int)<((m.length+1:Nat):Int))=decide ((l.length:Int)<(m.length:Int)) by rw[Bool.eq_iff_iff];simp,
    show decide (((l.length+1:Nat):Int) > ((m.length+1:Nat):Int))=decide ((l.length:Int) > (m.length:Int)) by rw[Bool.eq_iff_iff];simp]
 | false=>rfl
theorem qp (m:List Str):uN [] m=u6 0 (m.length:Int):=by unfold uN qA;rfl
theorem vX (l:List Str):uN l []=u6 (l.length:Int) 0:=by unfold uN qA;cases l<;>rfl
theorem kv:∀ l m:List Str,uN m l = - uN l m
 | [],m=>by rw[qp,vX];exact tZ _ _
 | a::l,[]=>by rw[qp,vX];exact tZ _ _
 | a :: l, b :: m => by
  have h:=tX.anti a b trivial trivial
  rw[sH,sH]
  cases hc:(sj a b==0) with
  | true =>
   have h0:sj a b=0:=by simpa using hc
   rw[h,h0,show ((-0:Int)==0)=true from rfl,cond_true,cond_true]
   exact kv l m
  | false =>
   have h0:sj a b≠0:=by simpa using hc
   have h1:(sj b a==0)=false:=by rw[beq_eq_false_iff_ne,h];omega
   rw[h1,cond_false,cond_false,h]
theorem gA:∀ l m:List Str,uN l m=0→l=m
 | [],m,e=>by
  rw[qp]at e
  have:=wW.sep _ _ trivial trivial e
  cases m with
  | nil=>rfl
  | cons b m=>simp at this;omega
 | a::l,[],e=>by
  rw[vX]at e
  have:=wW.sep _ _ trivial trivial e
  simp at this;omega
 | a :: l, b :: m, e => by
  rw[sH]at e
  cases hc:(sj a b==0) with
  | true =>
   rw[hc,cond_true]at e
   rw[tX.sep a b trivial trivial (by simpa using hc),gA l m e]
  | false=>rw[hc,cond_false]at e;rw[e]at hc;cases hc
theorem mN:∀ l m k:List Str,uN l m<0→uN m k<0→uN l k<0
 | [],[],k,h1,h2=>h2
 | [],b::m,[],h1,h2=>by rw[vX,tE]at h2;simp at h2;omega
 | [],b::m,c::k,h1,h2=>by rw[qp,tE];simp
 | a::l,[],k,h1,h2=>by rw[vX,tE]at h1;simp at h1;omega
 | a::l,b::m,[],h1,h2=>by rw[vX,tE]at h2;simp at h2;omega
 | a :: l, b :: m, c :: k, h1, h2 => by
  rw[sH]at *
  cases hxy:(sj a b==0) with
  | true =>
   have e1:=tX.sep a b trivial trivial (by simpa using hxy)
   subst e1
   rw[hxy,cond_true]at h1
   cases hyz:(sj a c==0) with
   | true=>rw[hyz,cond_true]at h2;rw[cond_true];exact mN l m k h1 h2
   | false=>rw[hyz,cond_false]at h2;rw[cond_false];exact h2
  | false =>
   rw[hxy,cond_false]at h1
   cases hyz:(sj b c==0) with
   | true =>
    have e1:=tX.sep b c trivial trivial (by simpa using hyz)
    subst e1
    rw[hxy,cond_false];exact h1
   | false =>
    rw[hyz,cond_false]at h2
    have h3:=tX.trans a b c trivial trivial trivial h1 h2
    have:(sj a c==0)=false:=by rw[beq_eq_false_iff_ne];omega
    rw[this,cond_false];exact h3
def Wq (a b:List Str):Int:=cond (a==[]||b==[]) (u6 (b.length:Int) (a.length:Int)) (uN a b)
theorem Zo:Cmp (fun _=>True) Wq:=by
 refine⟨fun x y _ _=>?_,fun x y z _ _ _ h1 h2=>?_,fun x y _ _ e=>?_⟩
 · unfold Wq
   rw[Bool.or_comm]
   cases (x==[]||y==[]) with
   | true=>exact tZ _ _
   | false=>exact kv x y
 · unfold Wq at *
   cases x with
   | nil =>
    simp only[beq_self_eq_true,Bool.true_or,cond_true,tE,List.length_nil]at h1
    omega
   | cons a x =>
    cases y with
    | nil =>
     simp only[beq_self_eq_true,Bool.true_or,cond_true,tE,List.length_nil]at h2
     omega
    | cons b y =>
     cases z with
     | nil =>
      simp only[beq_self_eq_true,Bool.or_true,cond_true,tE,List.length_nil,List.length_cons]
      omega
     | cons c z =>
      rw[show ((a::x==[])||(b::y==[]))=false from rfl,cond_false]at h1
      rw[show ((b::y==[])||(c::z==[]))=false from rfl,cond_false]at h2
      rw[show ((a::x==[])||(c::z==[]))=false from rfl,cond_false]
      exact mN _ _ _ h1 h2
 · unfold Wq at e
   cases x with
   | nil =>
    simp only[beq_self_eq_true,Bool.true_or,cond_true,List.length_nil]at e
    have:=wW.sep _ _ trivial trivial e
    cases y with
    | nil=>rfl
    | cons b y=>simp at this;omega
   | cons a x =>
    cases y with
    | nil =>
     simp only[beq_self_eq_true,Bool.or_true,cond_true,List.length_nil]at e
     have:=wW.sep _ _ trivial trivial e
     simp at this;omega
    | cons b y =>
     rw[show ((a::x==[])||(b::y==[]))=false from rfl,cond_false]at e
     exact gA _ _ e
theorem Vg:Cmp (fun _=>True) aL:=by
 have h:=(wW.lex (wW.lex (wW.lex Zo))).N0 (fun v:Ver=>(v.maj,v.min,v.pat,v.pre)) (fun _=>True) (fun _ _=>⟨trivial,trivial,trivial,trivial⟩) (fun x y _ _ e=>by
  obtain⟨a,b,c,d⟩:=x
  obtain⟨a',b',c',d'⟩:=y
  simp only[Prod.mk.injEq]at e
  obtain⟨rfl,rfl,rfl,rfl⟩:=e
  rfl)
 exact h
def N1 (s t:Str):Int:=aL (y5 s).1 (y5 t).1
theorem ku:Cmp (fun s=>isV s=true) N1 :=
 Vg.N0 (fun s=>(y5 s).1) _ (fun _ _=>trivial) fun x y hx hy e=>by
  have h1:=(wP hx).2.1
  have h2:=(wP hy).2.1
  rw[← h1,← h2,e]
def Ox (l:List Str):Prop:=l.Pairwise fun x y=>N1 x y<0
def AllV (l:List Str):Prop:=∀ s∈l,isV s=true
theorem Ox.uniq:∀ {a b:List Str},AllV a→AllV b→Ox a→Ox b→(∀ s,s∈a↔s∈b)→a=b
 | [],[],_,_,_,_,_=>rfl
 | [],y::b,_,_,_,_,h=>by have:=(h y).2 (by simp);simp at this
 | x::a,[],_,_,_,_,h=>by have:=(h x).1 (by simp);simp at this
 | x :: a, y :: b, va, vb, h1, h2, h => by
  obtain⟨p1,p2⟩:=List.pairwise_cons.1 h1
  obtain⟨q1,q2⟩:=List.pairwise_cons.1 h2
  have hxy : x = y := by
   rcases List.mem_cons.1 ((h x).1 (by simp)) with e | m1
   · exact e
   · rcases List.mem_cons.1 ((h y).2 (by simp)) with e | m2
     · exact e.symm
     · have a1 := p1 y m2
       have a2:=q1 x m1
       have:=ku.anti x y (va x (by simp)) (vb y (by simp))
       omega
  subst hxy
  have hx:=va x (by simp)
  have hr:=ku.refl hx
  rw[Ox.uniq (fun s hs=>va s (by simp[hs])) (fun s hs=>vb s (by simp[hs])) p2 q2 fun s=>?_]
  constructor
  · intro hs
    rcases List.mem_cons.1 ((h s).1 (by simp[hs])) with rfl | m
    · have:=p1 s hs;omega
    · exact m
  · intro hs
    rcases List.mem_cons.1 ((h s).2 (by simp[hs])) with rfl | m
    · have:=q1 s hs;omega
    · exact m
structure yQ where
 kind:Int
 name:List UInt8
 old:List UInt8
 new:List UInt8
def yQ.enc (x:yQ):List T:=[.int .i64 x.kind,.str x.name,.str x.old,.str x.new]
def yQ.zh (l:List yQ):List (List T):=l.map yQ.enc
def yQ.y6 (x:yQ):Nat:=x.name.length+x.old.length+x.new.length
def yQ.zX:List yQ→Nat
 | []=>0
 | c::cs=>yQ.y6 c+yQ.zX cs
def yQ.ok (x:yQ):Prop:=x.name.length≤9223372036854775807∧x.old.length≤9223372036854775807∧x.new.length≤9223372036854775807
theorem yQ.vO (x:yQ):x.enc.length=4:=rfl
theorem yQ.wN (x:yQ):x.enc.take 4=x.enc:=rfl
theorem yQ.zj (cs:List yQ):(yQ.zh cs).length=cs.length:=by simp[yQ.zh]
theorem yQ.vj (cs:List yQ)(i:Nat)(h:i<cs.length):(yQ.zh cs)[i]? = some cs[i].enc:=by simp[yQ.zh,h]
theorem yQ.xa:∀ {cs:List yQ} {c:yQ},c∈cs→c.y6≤yQ.zX cs
 | c'::cs,c,h=>by
  simp only[yQ.zX]
  rcases List.mem_cons.1 h with rfl | h
  · omega
  · have:=yQ.xa h;omega
def oY (l:List Str):Prop:=l.Pairwise fun x y=>Op.bytesLess x y=true
theorem NJ {x y:Str}(h:Op.bytesLess x y=true):Op.bytesLess y x=false:=by
 cases h2:Op.bytesLess y x with
 | false=>rfl
 | true=>have:=wa h h2;rw[vn]at this;cases this
theorem oY.uniq:∀ {a b:List Str},oY a→oY b→(∀ s,s∈a↔s∈b)→a=b
 | [],[],_,_,_=>rfl
 | [],y::b,_,_,h=>by have:=(h y).2 (by simp);simp at this
 | x::a,[],_,_,h=>by have:=(h x).1 (by simp);simp at this
 | x :: a, y :: b, h1, h2, h => by
  obtain⟨p1,p2⟩:=List.pairwise_cons.1 h1
  obtain⟨q1,q2⟩:=List.pairwise_cons.1 h2
  have hxy : x = y := by
   rcases List.mem_cons.1 ((h x).1 (by simp)) with e | m1
   · exact e
   · rcases List.mem_cons.1 ((h y).2 (by simp)) with e | m2
     · exact e.symm
     · have a1 := NJ (p1 y m2)
       have a2:=q1 x m1
       rw[a2]at a1;cases a1
  subst hxy
  rw[oY.uniq p2 q2 fun s=>?_]
  constructor
  · intro hs
    rcases List.mem_cons.1 ((h s).1 (by simp[hs])) with rfl | m
    · have:=p1 s hs;rw[vn]at this;cases this
    · exact m
  · intro hs
    rcases List.mem_cons.1 ((h s).2 (by simp[hs])) with rfl | m
    · have:=q1 s hs;rw[vn]at this;cases this
    · exact m
theorem ur:∀ (l:List Str) (s y:Str),y∈xI l s↔y∈l∨y=s
 | [],s,y=>by simp[xI]
 | x :: r, s, y => by
  rw[xI]
  cases h1:Op.bytesLess x s with
  | true=>rw[cond_true,List.mem_cons,ur r s y,List.mem_cons,or_assoc]
  | false =>
   rw[cond_false]
   cases h2:(x==s) with
   | true =>
    have:x=s:=by simpa using h2
    subst this
    rw[cond_true,List.mem_cons]
    constructor
    · exact .inl
    · rintro (h | h)
      · exact h
      · exact .inl h
   | false=>rw[cond_false,List.mem_cons];exact Or.comm
theorem gL:∀ (l:List Str) (s:Str),oY l→oY (xI l s)
 | [],s,_=>by simp[xI,oY]
 | x :: r, s, h => by
  have h':=List.pairwise_cons.1 h
  rw[xI]
  cases h1:Op.bytesLess x s with
  | true =>
   simp only[cond_true]
   refine List.pairwise_cons.2 ⟨fun y hy=>?_,gL r s h'.2⟩
   rcases (ur r s y).1 hy with hy | rfl
   · exact h'.1 y hy
   · exact h1
  | false =>
   simp only[cond_false]
   cases h2:(x==s) with
   | true=>exact h
   | false =>
    simp only[cond_false]
    have hsx:Op.bytesLess s x=true:=by
     cases h3:Op.bytesLess s x with
     | true=>rfl
     | false=>rw[oy h1 h3]at h2;simp at h2
    refine List.pairwise_cons.2 ⟨fun y hy=>?_,h⟩
    rcases List.mem_cons.1 hy with rfl | hy
    · exact hsx
    · exact wa hsx (h'.1 y hy)
def xA (l:List zz):List (List Str):=l.map fun s=>[s.alg,s.bytes]
def pO (p q:z1):Bool:=p.name==q.name&&(p.version==q.version&&(p.source==q.source&&(p.dev==q.dev&&((xA p.sums==xA q.sums)&&(p.zn==q.zn)))))
theorem OU (a b:List Str)(hl:a.length≤4194304):∀ (ra rb pa pb:List Str),a=pa++ra→b=pb++rb→pa.length=pb.length→ra.length=rb.length →
 EV Tryz.prog pol (.loop 65 58 0 [.t (.list 1 (strs a)),.t (.list 1 (strs b)),.t (.int .i64 (a.length:Int)),.t (.int .i64 (pa.length:Int))] [])=some (cond (ra==rb) (.loop (.exit 0) [.bad] []) (.loop .ret [.t (.bool false)] []))
 | [],[],pa,pb,ha,hb,hp,hr=>by
  have c:decide ((pa.length:Int)<(a.length:Int))=false:=by simp[ha]
  rw[show (([]:List Str)==[])=true from rfl,cond_true]
  refine zo Tryz.func65 rfl rfl ?_
  simp (disch:=((try simp only[LL]);omega)) only[↓GO,↓DRW,GA,GX,ren,zk,za,refs,z8,cst,zr,isC,bin,una,z7,zd,blt,asArg,zg,zc,zf,z6,E.mkS,unN,ze,zm,zb,GS,simprocAttr,GZ,c,zA]
 | [],_::_,pa,pb,ha,hb,hp,hr=>by simp at hr
 | _::_,[],pa,pb,ha,hb,hp,hr=>by simp at hr
 | x :: ra, y :: rb, pa, pb, ha, hb, hp, hr => by
  have c:decide ((pa.length:Int)<(a.length:Int))=true:=by simp[ha];omega
  have hg1:(strs a)[pa.length]? = some [.str x]:=wX (by rw[ha];simp)
  have hg2:(strs b)[pa.length]? = some [.str y]:=wX (by rw[hb,hp];simp)
  have hlen:pa.length+ra.length+1≤a.length:=by rw[ha];simp;omega
  have IH:=OU a b hl ra rb (pa++[x]) (pb++[y]) (by rw[ha];simp) (by rw[hb];simp) (by simp[hp]) (by simpa using hr)
  rw[show ((pa++[x]).length:Int)=(pa.length:Int)+1 by simp]at IH
  rw[List.cons_beq_cons]
  clear ha hb
  cases q:(x==y) with
  | true =>
   rw[Bool.true_and]
   refine zo Tryz.func65 rfl rfl ?_
   simp (disch:=((try simp only[LL]);omega)) only[↓GO,↓DRW,GA,GX,ren,zk,za,refs,z8,cst,zr,isC,bin,una,z7,zd,blt,asArg,zg,zc,zf,z6,E.mkS,unN,ze,zm,zb,GS,simprocAttr,GZ,c,hg1,hg2,q,bne,Bool.not_true,zq,zA,IH]
  | false =>
   rw[Bool.false_and,cond_false]
   refine zo Tryz.func65 rfl rfl ?_
   simp (disch:=((try simp only[LL]);omega)) only[↓GO,↓DRW,GA,GX,ren,zk,za,refs,z8,cst,zr,isC,bin,una,z7,zd,blt,asArg,zg,zc,zf,z6,E.mkS,unN,ze,zm,zb,GS,simprocAttr,GZ,c,hg1,hg2,q,bne,Bool.not_false,zq,zA]
theorem S6 {a b:List Str}(h:a.length≠b.length):(a==b)=false:=by
 rw[beq_eq_false_iff_ne];intro e;exact h (by rw[e])
theorem Ni (a b:List Str)(hl:a.length≤4194304):zu (EV Tryz.prog pol) 65 [.t (.list 1 (strs a)),.t (.list 1 (strs b))]=some (.t (.bool (a==b))):=by
 by_cases hn:a.length=b.length
 · have L := OU a b hl a b [] [] rfl rfl rfl hn
   simp only[List.length_nil,Int.natCast_zero]at L
   have c:((a.length:Int) != (b.length:Int))=false:=by rw[hn];simp
   cases q:(a==b)<;>rw[q]at L<;>simp only[cond_true,cond_false]at L
   all_goals
    apply zx
    refine zy rfl Tryz.func65 rfl (by kernel_rfl) ?_
    unfold Tryz.f65
    simp (disch:=((try simp only[LL]);omega)) only[↓GO,↓DRW,GA,GX,ren,zk,za,refs,z8,cst,zr,isC,bin,una,z7,zd,blt,asArg,zg,zc,zf,z6,E.mkS,unN,ze,zm,zb,GS,simprocAttr,GZ,L,zi,c,zA]
 · have c : ((a.length : Int) != (b.length : Int)) = true := by simp; omega
   rw[S6 hn]
   apply zx
   refine zy rfl Tryz.func65 rfl (by kernel_rfl) ?_
   unfold Tryz.f65
   simp (disch:=((try simp only[LL]);omega)) only[↓GO,↓DRW,GA,GX,ren,zk,za,refs,z8,cst,zr,isC,bin,una,z7,zd,blt,asArg,zg,zc,zf,z6,E.mkS,unN,ze,zm,zb,GS,simprocAttr,GZ,zi,c,zA]
theorem OS (a b:List Str)(hl:a.length≤4194304):∀ (ra rb pa pb:List Str),a=pa++ra→b=pb++rb→pa.length=pb.length→ra.length=rb.length →
 EV Tryz.prog pol (.loop 76 58 0 [.t (.list 1 (strs a)),.t (.list 1 (strs b)),.t (.int .i64 (pa.length:Int))] [])=some (cond (ra==rb) (.loop (.exit 0) [.bad] []) (.loop .ret [.t (.bool false)] []))
 | [],[],pa,pb,ha,hb,hp,hr=>by
  have c:decide ((pa.length:Int)<(a.length:Int))=false:=by simp[ha]
  rw[show (([]:List Str)==[])=true from rfl,cond_true]
  refine zo Tryz.func76 rfl rfl ?_
  simp (disch:=((try simp only[LL]);omega)) only[↓GO,↓DRW,GA,GX,ren,zk,za,refs,z8,cst,zr,isC,bin,una,z7,zd,blt,asArg,zg,zc,zf,z6,E.mkS,unN,ze,zm,zb,GS,simprocAttr,GZ,c,zi,zA]
 | [],_::_,pa,pb,ha,hb,hp,hr=>by simp at hr
 | _::_,[],pa,pb,ha,hb,hp,hr=>by simp at hr
 | x :: ra, y :: rb, pa, pb, ha, hb, hp, hr => by
  have c:decide ((pa.length:Int)<(a.length:Int))=true:=by simp[ha];omega
  have hg1:(strs a)[pa.length]? = some [.str x]:=wX (by rw[ha];simp)
  have hg2:(strs b)[pa.length]? = some [.str y]:=wX (by rw[hb,hp];simp)
  have hlen:pa.length+ra.length+1≤a.length:=by rw[ha];simp;omega
  have IH:=OS a b hl ra rb (pa++[x]) (pb++[y]) (by rw[ha];simp) (by rw[hb];simp) (by simp[hp]) (by simpa using hr)
  rw[show ((pa++[x]).length:Int)=(pa.length:Int)+1 by simp]at IH
  rw[List.cons_beq_cons]
  clear ha hb
  cases q:(x==y) with
  | true =>
   rw[Bool.true_and]
   refine zo Tryz.func76 rfl rfl ?_
   simp (disch:=((try simp only[LL]);omega)) only[↓GO,↓DRW,GA,GX,ren,zk,za,refs,z8,cst,zr,isC,bin,una,z7,zd,blt,asArg,zg,zc,zf,z6,E.mkS,unN,ze,zm,zb,GS,simprocAttr,GZ,c,hg1,hg2,zi,q,bne,Bool.not_true,zq,zA,IH]
  | false =>
   rw[Bool.false_and,cond_false]
   refine zo Tryz.func76 rfl rfl ?_
   simp (disch:=((try simp only[LL]);omega)) only[↓GO,↓DRW,GA,GX,ren,zk,za,refs,z8,cst,zr,isC,bin,una,z7,zd,blt,asArg,zg,zc,zf,z6,E.mkS,unN,ze,zm,zb,GS,simprocAttr,GZ,c,hg1,hg2,zi,q,bne,Bool.not_false,zq,zA]
theorem c_eqR (a b:List Str)(hl:a.length≤4194304):zu (EV Tryz.prog pol) 76 [.t (.list 1 (strs a)),.t (.list 1 (strs b))]=some (.t (.bool (a==b))):=by
 by_cases hn:a.length=b.length
 · have L := OS a b hl a b [] [] rfl rfl rfl hn
   simp only[List.length_nil,Int.natCast_zero]at L
   have c:((a.length:Int) != (b.length:Int))=false:=by rw[hn];simp
   cases q:(a==b)<;>rw[q]at L<;>simp only[cond_true,cond_false]at L
   all_goals
    apply zx
    refine zy rfl Tryz.func76 rfl (by kernel_rfl) ?_
    unfold Tryz.f76
    simp (disch:=((try simp only[LL]);omega)) only[↓GO,↓DRW,GA,GX,ren,zk,za,refs,z8,cst,zr,isC,bin,una,z7,zd,blt,asArg,zg,zc,zf,z6,E.mkS,unN,ze,zm,zb,GS,simprocAttr,GZ,L,zi,c,zA]
 · have c : ((a.length : Int) != (b.length : Int)) = true := by simp; omega
   have hf:(a==b)=false:=by rw[beq_eq_false_iff_ne];intro e;exact hn (by rw[e])
   rw[hf]
   apply zx
   refine zy rfl Tryz.func76 rfl (by kernel_rfl) ?_
   unfold Tryz.f76
   simp (disch:=((try simp only[LL]);omega)) only[↓GO,↓DRW,GA,GX,ren,zk,za,refs,z8,cst,zr,isC,bin,una,z7,zd,blt,asArg,zg,zc,zf,z6,E.mkS,unN,ze,zm,zb,GS,simprocAttr,GZ,zi,c,zA]
theorem vU (x:zz)(r:List zz):xA (x::r)=[x.alg,x.bytes]::xA r:=rfl
theorem uH (l:List zz):(xA l).length=l.length:=by simp[xA]
theorem eA {l:List zz}{i:Nat}{s:zz}(h:l[i]? = some s):(zz.zh l)[i]? = some [.str s.alg,.str s.bytes]:=by simp[zz.zh,zz.enc,h]
theorem RI (a b:List zz)(hl:a.length≤4194304):∀ (ra rb pa pb:List zz),a=pa++ra→b=pb++rb→pa.length=pb.length→ra.length=rb.length →
 EV Tryz.prog pol (.loop 145 58 0 [.t (.list 2 (zz.zh a)),.t (.list 2 (zz.zh b)),.t (.int .i64 (a.length:Int)),.t (.int .i64 (pa.length:Int))] [])=some (cond (xA ra==xA rb) (.loop (.exit 0) [.bad] []) (.loop .ret [.t (.bool false)] []))
 | [],[],pa,pb,ha,hb,hp,hr=>by
  have c:decide ((pa.length:Int)<(a.length:Int))=false:=by simp[ha]
  rw[show (xA []==xA [])=true from rfl,cond_true]
  refine zo Tryz.func145 rfl rfl ?_
  simp (disch:=((try simp only[LL]);omega)) only[↓GO,↓DRW,GA,GX,ren,zk,za,refs,z8,cst,zr,isC,bin,una,z7,zd,blt,asArg,zg,zc,zf,z6,E.mkS,unN,ze,zm,zb,GS,simprocAttr,GZ,c,zA]
 | [],_::_,pa,pb,ha,hb,hp,hr=>by simp at hr
 | _::_,[],pa,pb,ha,hb,hp,hr=>by simp at hr
 | x :: ra, y :: rb, pa, pb, ha, hb, hp, hr => by
  have c:decide ((pa.length:Int)<(a.length:Int))=true:=by simp[ha];omega
  have hg1:(zz.zh a)[pa.length]? = some [.str x.alg,.str x.bytes]:=eA (by rw[ha];simp)
  have hg2:(zz.zh b)[pa.length]? = some [.str y.alg,.str y.bytes]:=eA (by rw[hb,hp];simp)
  have hlen:pa.length+ra.length+1≤a.length:=by rw[ha];simp;omega
  have IH:=RI a b hl ra rb (pa++[x]) (pb++[y]) (by rw[ha];simp) (by rw[hb];simp) (by simp[hp]) (by simpa using hr)
  rw[show ((pa++[x]).length:Int)=(pa.length:Int)+1 by simp]at IH
  rw[vU,vU,List.cons_beq_cons]
  clear ha hb
  cases q:([x.alg,x.bytes]==[y.alg,y.bytes]) with
  | true =>
   rw[Bool.true_and]
   refine zo Tryz.func145 rfl rfl ?_
   simp (disch:=((try simp only[LL]);omega)) only[↓GO,↓DRW,GA,GX,ren,zk,za,refs,z8,cst,zr,isC,bin,una,z7,zd,blt,asArg,zg,zc,zf,z6,E.mkS,unN,ze,zm,zb,GS,simprocAttr,GZ,c,hg1,hg2,q,bne,Bool.not_true,zq,zA,IH,List.length_cons,List.length_nil,Nat.zero_add,Nat.reduceAdd,and_self,if_true]
  | false =>
   rw[Bool.false_and,cond_false]
   refine zo Tryz.func145 rfl rfl ?_
   simp (disch:=((try simp only[LL]);omega)) only[↓GO,↓DRW,GA,GX,ren,zk,za,refs,z8,cst,zr,isC,bin,una,z7,zd,blt,asArg,zg,zc,zf,z6,E.mkS,unN,ze,zm,zb,GS,simprocAttr,GZ,c,hg1,hg2,q,bne,Bool.not_false,zq,zA,List.length_cons,List.length_nil,Nat.zero_add,Nat.reduceAdd,and_self,if_true]
theorem Mf (a b:List zz)(hl:a.length≤4194304):zu (EV Tryz.prog pol) 145 [.t (.list 2 (zz.zh a)),.t (.list 2 (zz.zh b))]=some (.t (.bool (xA a==xA b))):=by
 by_cases hn:a.length=b.length
 · have L := RI a b hl a b [] [] rfl rfl rfl hn
   simp only[List.length_nil,Int.natCast_zero]at L
   have c:((a.length:Int) != (b.length:Int))=false:=by rw[hn];simp
   cases q:(xA a==xA b)<;>rw[q]at L<;>simp only[cond_true,cond_false]at L
   all_goals
    apply zx
    refine zy rfl Tryz.func145 rfl (by kernel_rfl) ?_
    unfold Tryz.f145
    simp (disch:=((try simp only[LL]);omega)) only[↓GO,↓DRW,GA,GX,ren,zk,za,refs,z8,cst,zr,isC,bin,una,z7,zd,blt,asArg,zg,zc,zf,z6,E.mkS,unN,ze,zm,zb,GS,simprocAttr,GZ,L,zz.zj,c,zA]
 · have c : ((a.length : Int) != (b.length : Int)) = true := by simp; omega
   have hf:(xA a==xA b)=false:=by rw[beq_eq_false_iff_ne];intro e;exact hn (by rw[← uH a,e,uH])
   rw[hf]
   apply zx
   refine zy rfl Tryz.func145 rfl (by kernel_rfl) ?_
   unfold Tryz.f145
   simp (disch:=((try simp only[LL]);omega)) only[↓GO,↓DRW,GA,GX,ren,zk,za,refs,z8,cst,zr,isC,bin,una,z7,zd,blt,asArg,zg,zc,zf,z6,E.mkS,unN,ze,zm,zb,GS,simprocAttr,GZ,zz.zj,c,zA]
theorem qf {p:z1}{n:Nat}(h:p.y6≤n):p.sums.length≤n∧p.zn.length≤n:=by
 simp only[z1.y6]at h;omega
theorem pB {α:Type}(p:α→Bool):∀ (l:List α) (n i:Nat),xU p l n=some i→∃ pre x post,l=pre++x::post∧n+pre.length=i∧p x=true∧∀ y∈pre,p y=false
 | [],n,i,h=>by cases h
 | x::r,n,i,h=>by
  rw[xU]at h
  split at h
  · rename_i hx
    cases h
    exact⟨[],x,r,rfl,rfl,hx,fun y hy=>by simp at hy⟩
  · rename_i hx
    obtain⟨pre,y,post,e1,e2,e3,e4⟩:=pB p r (n+1) i h
    refine⟨x::pre,y,post,by rw[e1];rfl,by simp;omega,e3,fun z hz=>?_⟩
    rcases List.mem_cons.1 hz with rfl | hz
    · simpa using hx
    · exact e4 z hz
end Go.Proofs.YtefkoljdebekdaaGreatDoor

/- Joined: K20 K21 K22 K23 K24 I3 K31 K27 D1 E20. Conditions: those of each lemma. -/
import Derived.Test.YtefkoljdebekdaaGreatDoorlN
import Derived.Test.YtefkoljdebekdaaGreatDoorlL
import Derived.Test.YtefkoljdebekdaaGreatDoorlK
import Derived.Test.YtefkoljdebekdaaGreatDoorlM
import GoSem.Step
import Derived.Calls
import Derived.Test.YtefkoljdebekdaaGreatDoorlG
import Derived.Test.YtefkoljdebekdaaGreatDoorlH
set_option linter.unusedVariables false
set_option linter.unusedSimpArgs false
set_option maxRecDepth 100000
set_option maxHeartbeats 40000000
namespace Go.Proofs.YtefkoljdebekdaaGreatDoor
open Go.Proofs.Tryz
open E
theorem uL (a b:Int):zy (EV prog pol) 129 [.t (.int .i64 a),.t (.int .i64 b)]=some (.t (.int .i64 (xg a b))):=by
 unfold xg
 cases h1:decide (a<b)<;>cases h2:decide (a > b)
 all_goals
  apply zw;refine zx rfl func129 rfl (by kernel_rfl) ?_;unfold Tryz.f129;simp (disch:=(try simp only[LL]);omega) only[↓GO,↓DRW,GA,GX,ren,zk,za,refs,z8,cst,zo,isC,bin,una,z7,zd,blt,asArg,zg,zc,zf,z6,zr,unN,ze,zm,zb,GS,simprocAttr,GZ,h1,h2]
theorem Xm:∀ s:Str,s.length≤4194304→EV prog pol (.loop 233 12 0 [.t (.str s),.t (.int .u8 48)] [])=some (.loop (.exit 0) [.t (.str (vc s))] [])
 | [],_=>by
  refine zj func233 rfl rfl ?_;simp (disch:=(try simp only[LL]);omega) only[↓GO,↓DRW,GA,GX,ren,zk,za,refs,z8,cst,zo,isC,bin,una,z7,zd,blt,asArg,zg,zc,zf,z6,zr,unN,ze,zm,zb,GS,simprocAttr,GZ,List.length_nil,Int.natCast_zero];rfl
 | b :: s, h => by
  have c:decide (((s.length+1:Nat):Int) > 0)=true:=by apply decide_eq_true;omega
  have hb:((b.toNat:Int)==48)=(b==48):=by
   rw[Bool.eq_iff_iff];simp only[beq_iff_eq];constructor
   · intro h;apply UInt8.toNat_inj.1;have:(48:UInt8).toNat=48:=rfl;omega
   · intro h;subst h;rfl
  have hcut:(1:Int)≤((s.length+1:Nat):Int):=by omega
  cases hz:(b==48) with
  | false =>
   rw[hz]at hb;have e:vc (b::s)=b::s:=by unfold vc;simp[List.dropWhile,hz]
   rw[e];refine zj func233 rfl rfl ?_;simp (disch:=(try simp only[LL]);omega) only[↓GO,↓DRW,GA,GX,ren,zk,za,refs,z8,cst,zo,isC,bin,una,z7,zd,blt,asArg,zg,zc,zf,z6,zr,unN,ze,zm,zb,GS,simprocAttr,GZ,c,hb,hcut]
  | true =>
   rw[hz]at hb;have IH:=Xm s (by simp only[List.length_cons]at h;omega);have e:vc (b::s)=vc s:=by unfold vc;simp[List.dropWhile,hz]
   rw[e];refine zj func233 rfl rfl ?_;simp (disch:=(try simp only[LL]);omega) only[↓GO,↓DRW,GA,GX,ren,zk,za,refs,z8,cst,zo,isC,bin,una,z7,zd,blt,asArg,zg,zc,zf,z6,zr,unN,ze,zm,zb,GS,simprocAttr,GZ,c,hb,hcut,IH]
theorem W9 (s:Str)(h:s.length≤4194304):zy (EV prog pol) 193 [.t (.str s),.t (.str [48])]=some (.t (.str (vc s))):=by
 have L:=Xm s h;have d:zy (EV prog pol) 233 [.t (.str s),.t (.int .u8 48)]=some (.t (.str (vc s))):=by
  apply zw;refine zx rfl func233 rfl (by kernel_rfl) ?_;unfold Tryz.f233;simp (disch:=(try simp only[LL]);omega) only[↓GO,↓DRW,GA,GX,ren,zk,za,refs,z8,cst,zo,isC,bin,una,z7,zd,blt,asArg,zg,zc,zf,z6,zr,unN,ze,zm,zb,GS,simprocAttr,GZ,L]
 cases hs:(s==[]) with
 | true =>
  have:s=[]:=by simpa using hs
  subst this;apply zw;refine zx rfl func193 rfl (by kernel_rfl) ?_;unfold Tryz.f193;simp (disch:=(try simp only[LL]);omega) only[↓GO,↓DRW,GA,GX,ren,zk,za,refs,z8,cst,zo,isC,bin,una,z7,zd,blt,asArg,zg,zc,zf,z6,zr,unN,ze,zm,zb,GS,simprocAttr,GZ,hs];rfl
 | false =>
  have h48:(([48]:Str)==[])=false:=rfl;have h49:((UInt8.toNat 48:Nat):Int)=48:=rfl;have h50:decide ((48:Int)<128)=true:=rfl;apply zw;refine zx rfl func193 rfl (by kernel_rfl) ?_;unfold Tryz.f193;simp (disch:=(try simp only[LL]);omega) only[↓GO,↓DRW,GA,GX,ren,zk,za,refs,z8,cst,zo,isC,bin,una,z7,zd,blt,asArg,zg,zc,zf,z6,zr,unN,ze,zm,zb,GS,simprocAttr,GZ,hs,h48,h49,h50,d,List.length_cons,List.length_nil]
theorem Tb (a b:Str)(ha:a.length≤4194304)(hb:b.length≤4194304):zy (EV prog pol) 130 [.t (.str a),.t (.str b)]=some (.t (.int .i64 (W6 a b))):=by
 have d1:=dz a (by omega);have d2:=dz b (by omega);have d3:=W9 a ha;have d4:=W9 b hb;have d5:=uL ((vc a).length:Int) ((vc b).length:Int);have d6:=Sq a b;have d7:=Sq (vc a) (vc b);rw[Z0]at d6 d7;unfold W6;generalize vc a=ta at *;generalize vc b=tb at *;generalize xg (ta.length:Int) (tb.length:Int)=n at *
 cases h1:isNum a<;>cases h2:isNum b<;>rw[h1]at d1<;>rw[h2]at d2<;>simp only[Bool.and_true,Bool.and_false,cond_true,cond_false]
 · apply zw;refine zx rfl func130 rfl (by kernel_rfl) ?_;unfold Tryz.f130;simp (disch:=(try simp only[LL]);omega) only[↓GO,↓DRW,GA,GX,ren,zk,za,refs,z8,cst,zo,isC,bin,una,z7,zd,blt,asArg,zg,zc,zf,z6,zr,unN,ze,zm,zb,GS,simprocAttr,GZ,d1,d2,d6]
 · apply zw;refine zx rfl func130 rfl (by kernel_rfl) ?_;unfold Tryz.f130;simp (disch:=(try simp only[LL]);omega) only[↓GO,↓DRW,GA,GX,ren,zk,za,refs,z8,cst,zo,isC,bin,una,z7,zd,blt,asArg,zg,zc,zf,z6,zr,unN,ze,zm,zb,GS,simprocAttr,GZ,d1,d2,d6]
 · apply zw;refine zx rfl func130 rfl (by kernel_rfl) ?_;unfold Tryz.f130;simp (disch:=(try simp only[LL]);omega) only[↓GO,↓DRW,GA,GX,ren,zk,za,refs,z8,cst,zo,isC,bin,una,z7,zd,blt,asArg,zg,zc,zf,z6,zr,unN,ze,zm,zb,GS,simprocAttr,GZ,d1,d2,d6]
 · cases hn:(n==0)
   all_goals
    simp only[cond_true,cond_false];apply zw;refine zx rfl func130 rfl (by kernel_rfl) ?_;unfold Tryz.f130;simp (disch:=(try simp only[LL]);omega) only[↓GO,↓DRW,GA,GX,ren,zk,za,refs,z8,cst,zo,isC,bin,una,z7,zd,blt,asArg,zg,zc,zf,z6,zr,unN,ze,zm,zb,GS,simprocAttr,GZ,d1,d2,d3,d4,d5,d7,hn,bne]
theorem Q9 (x1 x2 x3 x4 y1 y2 y3 y4:T)(a b c:Int) :
 EV prog pol (.loop 47 26 0 [.ptr 0 0 0,.ptr 1 0 0,.sl 2 0 3 (some 3),.t (.int .i64 3),.t (.int .i64 0)] [.vs 4 [[.t x1,.t x2,.t x3,.t x4]],.vs 4 [[.t y1,.t y2,.t y3,.t y4]],.ts 1 [[.int .i64 a],[.int .i64 b],[.int .i64 c]]])
 = some (cond (a==0) (cond (b==0) (cond (c==0) (.loop (.exit 0) [.ptr 0 0 0,.ptr 1 0 0,.bad] [.vs 4 [[.t x1,.t x2,.t x3,.t x4]],.vs 4 [[.t y1,.t y2,.t y3,.t y4]]])
  (.loop .ret [.ptr 0 0 0,.ptr 1 0 0,.t (.int .i64 c)] [.vs 4 [[.t x1,.t x2,.t x3,.t x4]],.vs 4 [[.t y1,.t y2,.t y3,.t y4]]]))
  (.loop .ret [.ptr 0 0 0,.ptr 1 0 0,.t (.int .i64 b)] [.vs 4 [[.t x1,.t x2,.t x3,.t x4]],.vs 4 [[.t y1,.t y2,.t y3,.t y4]]]))
  (.loop .ret [.ptr 0 0 0,.ptr 1 0 0,.t (.int .i64 a)] [.vs 4 [[.t x1,.t x2,.t x3,.t x4]],.vs 4 [[.t y1,.t y2,.t y3,.t y4]]])):=by
 cases h1:(a==0)
 · refine zj func47 rfl rfl ?_;simp (disch:=(try simp only[LL]);omega) only[↓GO,↓DRW,GA,GX,ren,zk,za,refs,z8,cst,zo,isC,bin,una,z7,zd,blt,asArg,zg,zc,zf,z6,zr,unN,ze,zm,zb,GS,simprocAttr,GZ,h1,bne,zi,zA]
 · refine zj func47 rfl rfl ?_;simp (disch:=(try simp only[LL]);omega) only[↓GO,↓DRW,GA,GX,ren,zk,za,refs,z8,cst,zo,isC,bin,una,z7,zd,blt,asArg,zg,zc,zf,z6,zr,unN,ze,zm,zb,GS,simprocAttr,GZ,h1,bne,zi,zA,Int.zero_add]
   cases h2:(b==0)
   · refine zj func47 rfl rfl ?_;simp (disch:=(try simp only[LL]);omega) only[↓GO,↓DRW,GA,GX,ren,zk,za,refs,z8,cst,zo,isC,bin,una,z7,zd,blt,asArg,zg,zc,zf,z6,zr,unN,ze,zm,zb,GS,simprocAttr,GZ,h2,bne,zi,zA]
   · refine zj func47 rfl rfl ?_;simp (disch:=(try simp only[LL]);omega) only[↓GO,↓DRW,GA,GX,ren,zk,za,refs,z8,cst,zo,isC,bin,una,z7,zd,blt,asArg,zg,zc,zf,z6,zr,unN,ze,zm,zb,GS,simprocAttr,GZ,h2,bne,zi,zA,Int.reduceAdd]
     cases h3:(c==0)
     · refine zj func47 rfl rfl ?_;simp (disch:=(try simp only[LL]);omega) only[↓GO,↓DRW,GA,GX,ren,zk,za,refs,z8,cst,zo,isC,bin,una,z7,zd,blt,asArg,zg,zc,zf,z6,zr,unN,ze,zm,zb,GS,simprocAttr,GZ,h3,bne,zi,zA]
     · refine zj func47 rfl rfl ?_;simp (disch:=(try simp only[LL]);omega) only[↓GO,↓DRW,GA,GX,ren,zk,za,refs,z8,cst,zo,isC,bin,una,z7,zd,blt,asArg,zg,zc,zf,z6,zr,unN,ze,zm,zb,GS,simprocAttr,GZ,h3,bne,zi,zA,Int.reduceAdd];refine zj func47 rfl rfl ?_;simp (disch:=(try simp only[LL]);omega) only[↓GO,↓DRW,GA,GX,ren,zk,za,refs,z8,cst,zo,isC,bin,una,z7,zd,blt,asArg,zg,zc,zf,z6,zr,unN,ze,zm,zb,GS,simprocAttr,GZ,zi,zA]
theorem Xv (a b:Ver)(ha:a.sm)(hb:b.sm)(M:Nat)(hM:M=min a.pre.length b.pre.length):∀ (ra rb pa pb:List Str),a.pre=pa++ra→b.pre=pb++rb→pa.length=pb.length →
 EV prog pol (.loop 47 122 0 [.ptr 0 0 0,.ptr 1 0 0,.t (.int .i64 (M:Int)),.t (.int .i64 (pa.length:Int))] [.vs 4 [a.enc.map .t],.vs 4 [b.enc.map .t]])
 = some (match qW ra rb with
  | some n=>.loop .ret [.ptr 0 0 0,.ptr 1 0 0,.t (.int .i64 n)] [.vs 4 [a.enc.map .t],.vs 4 [b.enc.map .t]]
  | none=>.loop (.exit 2) [.ptr 0 0 0,.ptr 1 0 0,.bad] [.vs 4 [a.enc.map .t],.vs 4 [b.enc.map .t]])
 | [],rb,pa,pb,h1,h2,h3=>by
  have l1:a.pre.length=pa.length:=by rw[h1];simp
  have c:decide ((pa.length:Int)<(M:Int))=false:=by apply decide_eq_false;omega
  have e:qW [] rb=none:=by unfold qW;rfl
  rw[e];simp only[Ver.enc,List.map_cons,List.map_nil];refine zj func47 rfl rfl ?_;simp (disch:=(try simp only[LL]);omega) only[↓GO,↓DRW,GA,GX,ren,zk,za,refs,z8,cst,zo,isC,bin,una,z7,zd,blt,asArg,zg,zc,zf,z6,zr,unN,ze,zm,zb,GS,simprocAttr,GZ,zn,c,zA]
 | x::ra,[],pa,pb,h1,h2,h3=>by
  have l2:b.pre.length=pb.length:=by rw[h2];simp
  have c:decide ((pa.length:Int)<(M:Int))=false:=by apply decide_eq_false;omega
  rw[show qW (x::ra) []=none from rfl];simp only[Ver.enc,List.map_cons,List.map_nil];refine zj func47 rfl rfl ?_;simp (disch:=(try simp only[LL]);omega) only[↓GO,↓DRW,GA,GX,ren,zk,za,refs,z8,cst,zo,isC,bin,una,z7,zd,blt,asArg,zg,zc,zf,z6,zr,unN,ze,zm,zb,GS,simprocAttr,GZ,zn,c,zA]
 | x::ra,y::rb,pa,pb,h1,h2,h3=>by
  unfold Ver.sm at ha hb;have l1:pa.length+ra.length+1=a.pre.length:=by rw[h1];simp;omega
  have l2:pb.length+rb.length+1=b.pre.length:=by rw[h2];simp;omega
  have c:decide ((pa.length:Int)<(M:Int))=true:=by apply decide_eq_true;omega
  have hg1:(strs a.pre)[pa.length]? = some [.str x]:=by rw[h1];exact xC pa x ra
  have hg2:(strs b.pre)[pa.length]? = some [.str y]:=by rw[h2,h3];exact xC pb y rb
  have hx:x.length≤2097152:=by have:=wO (ks:=a.pre) (s:=x) (by rw[h1];simp);omega
  have hy:y.length≤2097152:=by have:=wO (ks:=b.pre) (s:=y) (by rw[h2];simp);omega
  have hp:=Tb x y (by omega) (by omega);have IH:=Xv a b ha hb M hM ra rb (pa++[x]) (pb++[y]) (by rw[h1];simp) (by rw[h2];simp) (by simp[h3]);rw[show ((pa++[x]).length:Int)=(pa.length:Int)+1 by simp]at IH;clear h1 h2;simp only[Ver.enc,List.map_cons,List.map_nil]at IH ⊢;rw[qW];generalize W6 x y=n at *
  cases hn:(n==0)
  · simp only[cond_false];refine zj func47 rfl rfl ?_;simp (disch:=(try simp only[LL]);omega) only[↓GO,↓DRW,GA,GX,ren,zk,za,refs,z8,cst,zo,isC,bin,una,z7,zd,blt,asArg,zg,zc,zf,z6,zr,unN,ze,zm,zb,GS,simprocAttr,GZ,zn,c,hg1,hg2,hp,hn,bne,zi,zA]
  · simp only[cond_true];refine zj func47 rfl rfl ?_;simp (disch:=(try simp only[LL]);omega) only[↓GO,↓DRW,GA,GX,ren,zk,za,refs,z8,cst,zo,isC,bin,una,z7,zd,blt,asArg,zg,zc,zf,z6,zr,unN,ze,zm,zb,GS,simprocAttr,GZ,zn,c,hg1,hg2,hp,hn,bne,zi,zA,IH]
theorem Wg (a b : Ver) (ha : a.sm) (hb : b.sm) : zy (EV prog pol) 47 [.agg (a.enc.map .t), .agg (b.enc.map .t)] = some (.t (.int .i64 (om a b))) := by
 have d1:=uL a.maj b.maj;have d2:=uL a.min b.min;have d3:=uL a.pat b.pat;have d4:=uL (b.pre.length:Int) (a.pre.length:Int);have d5:=uL (a.pre.length:Int) (b.pre.length:Int);obtain⟨M,hM⟩:∃ M,M=min a.pre.length b.pre.length:=⟨_,rfl⟩;have L2:=Xv a b ha hb M hM a.pre b.pre [] [] rfl rfl rfl;have L1:=Q9 (.int .i64 a.maj) (.int .i64 a.min) (.int .i64 a.pat) (.list 1 (strs a.pre)) (.int .i64 b.maj) (.int .i64 b.min) (.int .i64 b.pat) (.list 1 (strs b.pre)) (xg a.maj b.maj) (xg a.min b.min) (xg a.pat b.pat);have e1:=tL a.pre;have e2:=tL b.pre;have hm:(if (b.pre.length:Int)<(a.pre.length:Int) then (b.pre.length:Int) else (a.pre.length:Int))=(M:Int):=by split<;>omega
 clear hM;unfold om;simp only[List.length_nil,Int.natCast_zero]at L2;simp only[Ver.enc,List.map_cons,List.map_nil]at L1 L2 ⊢;generalize xg a.maj b.maj=n1 at *;generalize xg a.min b.min=n2 at *;generalize xg a.pat b.pat=n3 at *
 cases h1:(n1==0)<;>rw[h1]at L1
 · simp only[cond_false]at L1;apply zw;refine zx rfl func47 rfl (by kernel_rfl) ?_;unfold Tryz.f47;simp (disch:=(try simp only[LL]);omega) only[↓GO,↓DRW,GA,GX,ren,zk,za,refs,z8,cst,zo,isC,bin,una,z7,zd,blt,asArg,zg,zc,zf,z6,zr,unN,ze,zm,zb,GS,simprocAttr,GZ,d1,d2,d3,L1,zA];refine zR (by kernel_rfl) ?_;simp (disch:=(try simp only[LL]);omega) only[↓GO,↓DRW,GA,GX,ren,zk,za,refs,z8,cst,zo,isC,bin,una,z7,zd,blt,asArg,zg,zc,zf,z6,zr,unN,ze,zm,zb,GS,simprocAttr,GZ,d1,d2,d3,L1,zA]
 · cases h2:(n2==0)<;>rw[h2]at L1
   · simp only[cond_false,cond_true]at L1;apply zw;refine zx rfl func47 rfl (by kernel_rfl) ?_;unfold Tryz.f47;simp (disch:=(try simp only[LL]);omega) only[↓GO,↓DRW,GA,GX,ren,zk,za,refs,z8,cst,zo,isC,bin,una,z7,zd,blt,asArg,zg,zc,zf,z6,zr,unN,ze,zm,zb,GS,simprocAttr,GZ,d1,d2,d3,L1,zA];refine zR (by kernel_rfl) ?_;simp (disch:=(try simp only[LL]);omega) only[↓GO,↓DRW,GA,GX,ren,zk,za,refs,z8,cst,zo,isC,bin,una,z7,zd,blt,asArg,zg,zc,zf,z6,zr,unN,ze,zm,zb,GS,simprocAttr,GZ,d1,d2,d3,L1,zA]
   · cases h3:(n3==0)<;>rw[h3]at L1
     · simp only[cond_false,cond_true]at L1;apply zw;refine zx rfl func47 rfl (by kernel_rfl) ?_;unfold Tryz.f47;simp (disch:=(try simp only[LL]);omega) only[↓GO,↓DRW,GA,GX,ren,zk,za,refs,z8,cst,zo,isC,bin,una,z7,zd,blt,asArg,zg,zc,zf,z6,zr,unN,ze,zm,zb,GS,simprocAttr,GZ,d1,d2,d3,L1,zA];refine zR (by kernel_rfl) ?_;simp (disch:=(try simp only[LL]);omega) only[↓GO,↓DRW,GA,GX,ren,zk,za,refs,z8,cst,zo,isC,bin,una,z7,zd,blt,asArg,zg,zc,zf,z6,zr,unN,ze,zm,zb,GS,simprocAttr,GZ,d1,d2,d3,L1,zA]
     · simp only[cond_true]at L1
       cases hs:qW a.pre b.pre<;>rw[hs]at L2<;>simp only at L2<;>cases h4:(a.pre==[])<;>cases h5:(b.pre==[])<;>rw[h4]at e1<;>rw[h5]at e2
       all_goals
        apply zw;refine zx rfl func47 rfl (by kernel_rfl) ?_;unfold Tryz.f47;simp (disch:=(try simp only[LL]);omega) only[↓GO,↓DRW,GA,GX,ren,zk,za,refs,z8,cst,zo,isC,bin,una,z7,zd,blt,asArg,zg,zc,zf,z6,zr,unN,ze,zm,zb,GS,simprocAttr,GZ,d1,d2,d3,d4,d5,L1,L2,hm,zn,e1,e2,bne,Bool.beq_eq_decide_eq,zA];refine zR (by kernel_rfl) ?_;simp (disch:=(try simp only[LL]);omega) only[↓GO,↓DRW,GA,GX,ren,zk,za,refs,z8,cst,zo,isC,bin,una,z7,zd,blt,asArg,zg,zc,zf,z6,zr,unN,ze,zm,zb,GS,simprocAttr,GZ,d1,d2,d3,d4,d5,L1,L2,hm,zn,e1,e2,bne,zA,Option.getD_some,Option.getD_none]
theorem WL (a b:Str)(ha:a.length≤1048700)(hb:b.length≤1048700):zy (EV prog pol) 89 [.t (.str a),.t (.str b)]=some (.t (.int .i64 (om (zq a).1 (zq b).1))):=by
 have d1:=od a ha;have d2:=od b hb;have d3:=Wg (zq a).1 (zq b).1 (yz a ha).1 (yz b hb).1;unfold rvT at d1 d2;generalize om (zq a).1 (zq b).1=n at *;generalize (zq a).1=va at *;generalize (zq b).1=vb at *;simp only[Ver.enc,List.map_cons,List.map_nil]at d1 d2 d3;apply zw;refine zx rfl func89 rfl (by kernel_rfl) ?_;unfold Tryz.f89;simp (disch:=(try simp only[LL]);omega) only[↓GO,↓DRW,GA,GX,ren,zk,za,refs,z8,cst,zo,isC,bin,una,z7,zd,blt,asArg,zg,zc,zf,z6,zr,unN,ze,zm,zb,GS,simprocAttr,GZ,d1,d2,d3,zA]
theorem XJ {α:Type} [BEq α](l:List α):decide ((l.length:Int) > 0) = !(l==[]):=by
 cases l with
 | nil=>rfl
 | cons x r=>rw[beq_nil_cons];simp only[Bool.not_false];apply decide_eq_true;simp only[List.length_cons];omega
theorem Pz (s : Str) (v : Ver) (hv : zq s = (v, true)) (hs : s.length ≤ 1048700) (l : List Bd) (hl : l.length ≤ 4194304) (hb : ∀ b ∈ l, b.1.length ≤ 1048700 ∧ b.2.length ≤ 1048700) : ∀ (rest pre : List Bd), l = pre ++ rest → ∃ x,
 EV prog pol (.loop 162 122 0 [.t (.str s),.ptr 0 0 0,.t (.list 2 (bdT l)),.t (.int .i64 (l.length:Int)),.t (.int .i64 (pre.length:Int))] [.vs 4 [v.enc.map .t]])
  = some (cond (rest.any (mL v)) (.loop .ret [.t (.bool true)] []) (.loop (.exit 0) [x] []))
 | [],pre,h=>by
  have c:decide ((pre.length:Int)<(l.length:Int))=false:=by simp[h]
  refine⟨.bad,?_⟩;simp only[List.any_nil,cond_false,Ver.enc,List.map_cons,List.map_nil];refine zj func162 rfl rfl ?_;simp (disch:=(try simp only[LL]);omega) only[↓GO,↓DRW,GA,GX,ren,zk,za,refs,z8,cst,zo,isC,bin,una,z7,zd,blt,asArg,zg,zc,zf,z6,zr,unN,ze,zm,zb,GS,simprocAttr,GZ,c,zA]
 | b :: rest, pre, h => by
  have c:decide ((pre.length:Int)<(l.length:Int))=true:=by simp[h];omega
  have hget:(bdT l)[pre.length]? = some [.str b.1,.str b.2]:=by rw[h];exact vN (fun b:Bd=>[T.str b.1,T.str b.2]) pre b rest
  have hlen:pre.length+rest.length+1≤l.length:=by rw[h];simp;omega
  obtain⟨hb1,hb2⟩:=hb b (by rw[h];simp);have d1:=WL s b.1 hs hb1;have d2:=WL s b.2 hs hb2;have d3:=od b.1 hb1;rw[hv]at d1 d2;obtain⟨x,IH⟩:=Pz s v hv hs l hl hb rest (pre++[b]) (by rw[h];simp);rw[show ((pre++[b]).length:Int)=(pre.length:Int)+1 by simp]at IH;refine⟨x,?_⟩;have e1:=tL v.pre;have e2:=XJ (zq b.1).1.pre;rw[List.any_cons];generalize hR:rest.any (mL v)=R at *;have ht:mL v b=cond ((!(b.1==[])&&decide (om v (zq b.1).1<0))||(!(b.2==[])&&decide (om v (zq b.2).1≥0))) false
   (v.pre==[]||(!((zq b.1).1.pre==[])&&((zq b.1).1.maj==v.maj&&((zq b.1).1.min==v.min&&(zq b.1).1.pat==v.pat)))):=rfl
  rw[ht];clear h hb hv ht hR;obtain⟨lo,hi⟩:=b;unfold rvT at d3;simp only at d1 d2 d3 e2 hget ⊢;generalize (zq lo).2=okl at *;generalize om v (zq lo).1=n1 at *;generalize om v (zq hi).1=n2 at *;generalize (zq lo).1=vl at *;obtain⟨maj,min,pat,pre'⟩:=v;obtain⟨maj2,min2,pat2,pre2⟩:=vl;simp only[Ver.enc,List.map_cons,List.map_nil]at d3 IH e1 e2 ⊢;have skip:∀ (q:Bool),q=true→True:=fun _ _=>trivial
  cases q1:(lo==[])<;>cases q2:decide (n1<0)<;>cases q3:(hi==[])<;>cases q4:decide (n2≥0)<;>simp only[Bool.not_true,Bool.not_false,Bool.and_true,Bool.true_and,Bool.false_and,Bool.and_false,Bool.or_false,Bool.or_true,cond_true,cond_false,Bool.false_or]
  all_goals first
   | (refine zj func162 rfl rfl ?_
      simp (disch:=(try simp only[LL]);omega) only[↓GO,↓DRW,GA,GX,ren,zk,za,refs,z8,cst,zo,isC,bin,una,z7,zd,blt,asArg,zg,zc,zf,z6,zr,unN,ze,zm,zb,GS,simprocAttr,GZ,c,hget,d1,d2,d3,q1,q2,q3,q4,e1,e2,bne,zn,zi,zA,IH]
      done)
   | (cases q5 : (pre' == []) <;> rw [q5] at e1
      · cases q6:(pre2==[])<;>rw[q6]at e2
        · cases q7:(maj2==maj)
          · refine zj func162 rfl rfl ?_;simp (disch:=(try simp only[LL]);omega) only[↓GO,↓DRW,GA,GX,ren,zk,za,refs,z8,cst,zo,isC,bin,una,z7,zd,blt,asArg,zg,zc,zf,z6,zr,unN,ze,zm,zb,GS,simprocAttr,GZ,c,hget,d1,d2,d3,q1,q2,q3,q4,e1,e2,q7,bne,zn,zi,zA,IH,Bool.not_false,Bool.not_true,Bool.and_false,Bool.false_or]
          · cases q8:(min2==min)
            · refine zj func162 rfl rfl ?_;simp (disch:=(try simp only[LL]);omega) only[↓GO,↓DRW,GA,GX,ren,zk,za,refs,z8,cst,zo,isC,bin,una,z7,zd,blt,asArg,zg,zc,zf,z6,zr,unN,ze,zm,zb,GS,simprocAttr,GZ,c,hget,d1,d2,d3,q1,q2,q3,q4,e1,e2,q7,q8,bne,zn,zi,zA,IH,Bool.not_false,Bool.not_true,Bool.and_false,Bool.false_or]
            · cases q9:(pat2==pat)
              all_goals
               refine zj func162 rfl rfl ?_;simp (disch:=(try simp only[LL]);omega) only[↓GO,↓DRW,GA,GX,ren,zk,za,refs,z8,cst,zo,isC,bin,una,z7,zd,blt,asArg,zg,zc,zf,z6,zr,unN,ze,zm,zb,GS,simprocAttr,GZ,c,hget,d1,d2,d3,q1,q2,q3,q4,e1,e2,q7,q8,q9,bne,zn,zi,zA,IH,Bool.not_false,Bool.not_true,Bool.and_false,Bool.false_or]
        · refine zj func162 rfl rfl ?_;simp (disch:=(try simp only[LL]);omega) only[↓GO,↓DRW,GA,GX,ren,zk,za,refs,z8,cst,zo,isC,bin,una,z7,zd,blt,asArg,zg,zc,zf,z6,zr,unN,ze,zm,zb,GS,simprocAttr,GZ,c,hget,d1,d2,d3,q1,q2,q3,q4,e1,e2,bne,zn,zi,zA,IH,Bool.not_false,Bool.not_true,Bool.and_false,Bool.false_or]
      · refine zj func162 rfl rfl ?_;simp (disch:=(try simp only[LL]);omega) only[↓GO,↓DRW,GA,GX,ren,zk,za,refs,z8,cst,zo,isC,bin,una,z7,zd,blt,asArg,zg,zc,zf,z6,zr,unN,ze,zm,zb,GS,simprocAttr,GZ,c,hget,d1,d2,d3,q1,q2,q3,q4,e1,e2,bne,zn,zi,zA,IH,Bool.true_or])
def BdB (l:List Bd):Prop:=l.length≤4194304∧∀ b∈l,b.1.length≤1048600∧b.2.length≤1048600
theorem c_inI (s:Str)(hs:s.length≤1048576)(l:List Bd)(hl:BdB l):zy (EV prog pol) 162 [.t (.str s),.t (.list 2 (bdT l))]=some (.t (.bool (inB s l))):=by
 have hb:∀ b∈l,b.1.length≤1048700∧b.2.length≤1048700:=fun b hb=>by have:=hl.2 b hb;omega
 have d1:=od s (by omega);have d2:=Sr l hl.1 hb;unfold rvT at d1;unfold inB
 cases ho:(zq s).2 with
 | false =>
  rw[ho]at d1;generalize (zq s).1=v at *;simp only[Bool.false_and];obtain⟨maj,min,pat,pre⟩:=v;simp only[Ver.enc,List.map_cons,List.map_nil]at d1;apply zw;refine zx rfl func162 rfl (by kernel_rfl) ?_;unfold Tryz.f162;simp (disch:=(try simp only[LL]);omega) only[↓GO,↓DRW,GA,GX,ren,zk,za,refs,z8,cst,zo,isC,bin,una,z7,zd,blt,asArg,zg,zc,zf,z6,zr,unN,ze,zm,zb,GS,simprocAttr,GZ,d1,zA]
 | true =>
  have hv:zq s=((zq s).1,true):=by rw[← ho]
  have hvo:=(zZ ho).2.2.1;obtain⟨x,L⟩:=Pz s _ hv (by omega) l hl.1 hb l [] rfl;rw[ho]at d1;simp only[List.length_nil,Int.natCast_zero]at L
  cases hr:w5 l with
  | false =>
   rw[hr]at d2;generalize (zq s).1=v at *;simp only[Bool.true_and,Bool.false_and];obtain⟨maj,min,pat,pre⟩:=v;simp only[Ver.enc,List.map_cons,List.map_nil]at d1;apply zw;refine zx rfl func162 rfl (by kernel_rfl) ?_;unfold Tryz.f162;simp (disch:=(try simp only[LL]);omega) only[↓GO,↓DRW,GA,GX,ren,zk,za,refs,z8,cst,zo,isC,bin,una,z7,zd,blt,asArg,zg,zc,zf,z6,zr,unN,ze,zm,zb,GS,simprocAttr,GZ,d1,d2,zA]
  | true =>
   rw[hr]at d2;have hall:(l.all fun b=>isE b.1&&isE b.2)=true:=by
    unfold w5 at hr;rw[Bool.and_eq_true]at hr;exact hr.1
   rw[Zf hvo l hall]at L;generalize l.any (te (zq s).1)=R at *;generalize (zq s).1=v at *;simp only[Bool.true_and];obtain⟨maj,min,pat,pre⟩:=v;simp only[Ver.enc,List.map_cons,List.map_nil]at d1 L;have hbl:(bdT l).length=l.length:=wH l
   cases R<;>simp only[cond_true,cond_false]at L
   all_goals
    apply zw;refine zx rfl func162 rfl (by kernel_rfl) ?_;unfold Tryz.f162;simp (disch:=(try simp only[LL]);omega) only[↓GO,↓DRW,GA,GX,ren,zk,za,refs,z8,cst,zo,isC,bin,una,z7,zd,blt,asArg,zg,zc,zf,z6,zr,unN,ze,zm,zb,GS,simprocAttr,GZ,d1,d2,L,hbl,zA]
theorem c_tkR (v : Ver) (hv : v.sm) (b : Bd) (hb : b.1.length ≤ 1048600 ∧ b.2.length ≤ 1048600) : zy (EV prog pol) 219 [.agg [.t (.str b.1), .t (.str b.2)], .agg (v.enc.map .t)] = some (.t (.bool (te v b))) := by
 obtain⟨lo,hi⟩:=b;simp only at hb ⊢;have d1:=rC lo (by omega);have d2:=rC hi (by omega);have d3:=iP v (zq lo).1 hv (yz lo (by omega)).1;have d4:=iP v (zq hi).1 hv (yz hi (by omega)).1;have e1:=tL v.pre;have e2:=XJ (zq lo).1.pre;have ht:te v (lo,hi)=cond (((zq lo).2&&decide (tY v (zq lo).1<0))||((zq hi).2&&decide (tY v (zq hi).1≥0))) false
  (v.pre==[]||((zq lo).2&&(!((zq lo).1.pre==[])&&((zq lo).1.maj==v.maj&&((zq lo).1.min==v.min&&(zq lo).1.pat==v.pat))))):=rfl
 rw[ht];clear ht;unfold rvT at d1 d2;generalize (zq lo).2=okl at *;generalize (zq hi).2=okh at *;generalize tY v (zq lo).1=n1 at *;generalize tY v (zq hi).1=n2 at *;generalize (zq lo).1=vl at *;generalize (zq hi).1=vh at *;obtain⟨maj,min,pat,pre'⟩:=v;obtain⟨maj2,min2,pat2,pre2⟩:=vl;obtain⟨maj3,min3,pat3,pre3⟩:=vh;simp only[Ver.enc,List.map_cons,List.map_nil]at d1 d2 d3 d4 e1 e2 ⊢
 cases okl<;>cases q2:decide (n1<0)<;>cases okh<;>cases q4:decide (n2≥0)<;>simp only[Bool.and_true,Bool.true_and,Bool.false_and,Bool.and_false,Bool.or_false,Bool.or_true,cond_true,cond_false,Bool.false_or]
 all_goals first
  | (skip
     apply zw;refine zx rfl func219 rfl (by kernel_rfl) ?_;unfold Tryz.f219;simp (disch:=(try simp only[LL]);omega) only[↓GO,↓DRW,GA,GX,ren,zk,za,refs,z8,cst,zo,isC,bin,una,z7,zd,blt,asArg,zg,zc,zf,z6,zr,unN,ze,zm,zb,GS,simprocAttr,GZ,d1,d2,d3,d4,q2,q4,e1,e2,bne,zn,zA]
     done)
  | (cases q5 : (pre' == []) <;> rw [q5] at e1
     · cases q6:(pre2==[])<;>rw[q6]at e2
       · cases q7:(maj2==maj)
         · apply zw;refine zx rfl func219 rfl (by kernel_rfl) ?_;unfold Tryz.f219;simp (disch:=(try simp only[LL]);omega) only[↓GO,↓DRW,GA,GX,ren,zk,za,refs,z8,cst,zo,isC,bin,una,z7,zd,blt,asArg,zg,zc,zf,z6,zr,unN,ze,zm,zb,GS,simprocAttr,GZ,d1,d2,d3,d4,q2,q4,e1,e2,q7,bne,zn,zA,Bool.not_false,Bool.not_true,Bool.and_false,Bool.false_or]
         · cases q8:(min2==min)
           · apply zw;refine zx rfl func219 rfl (by kernel_rfl) ?_;unfold Tryz.f219;simp (disch:=(try simp only[LL]);omega) only[↓GO,↓DRW,GA,GX,ren,zk,za,refs,z8,cst,zo,isC,bin,una,z7,zd,blt,asArg,zg,zc,zf,z6,zr,unN,ze,zm,zb,GS,simprocAttr,GZ,d1,d2,d3,d4,q2,q4,e1,e2,q7,q8,bne,zn,zA,Bool.not_false,Bool.not_true,Bool.and_false,Bool.false_or]
           · cases q9:(pat2==pat)
             all_goals
              apply zw;refine zx rfl func219 rfl (by kernel_rfl) ?_;unfold Tryz.f219;simp (disch:=(try simp only[LL]);omega) only[↓GO,↓DRW,GA,GX,ren,zk,za,refs,z8,cst,zo,isC,bin,una,z7,zd,blt,asArg,zg,zc,zf,z6,zr,unN,ze,zm,zb,GS,simprocAttr,GZ,d1,d2,d3,d4,q2,q4,e1,e2,q7,q8,q9,bne,zn,zA,Bool.not_false,Bool.not_true,Bool.and_false,Bool.false_or]
       · apply zw;refine zx rfl func219 rfl (by kernel_rfl) ?_;unfold Tryz.f219;simp (disch:=(try simp only[LL]);omega) only[↓GO,↓DRW,GA,GX,ren,zk,za,refs,z8,cst,zo,isC,bin,una,z7,zd,blt,asArg,zg,zc,zf,z6,zr,unN,ze,zm,zb,GS,simprocAttr,GZ,d1,d2,d3,d4,q2,q4,e1,e2,bne,zn,zA,Bool.not_false,Bool.not_true,Bool.and_false,Bool.false_or]
     · apply zw;refine zx rfl func219 rfl (by kernel_rfl) ?_;unfold Tryz.f219;simp (disch:=(try simp only[LL]);omega) only[↓GO,↓DRW,GA,GX,ren,zk,za,refs,z8,cst,zo,isC,bin,una,z7,zd,blt,asArg,zg,zc,zf,z6,zr,unN,ze,zm,zb,GS,simprocAttr,GZ,d1,d2,d3,d4,q2,q4,e1,e2,bne,zn,zA,Bool.true_or])
theorem Py (v:Ver)(hv:v.sm)(ok:Bool)(l:List Bd)(hl:BdB l):∀ (rest pre:List Bd),l=pre++rest→∃ x,
 EV prog pol (.loop 181 58 0 [.t (.list 2 (bdT l)),.ptr 0 0 0,.t (.bool ok),.t (.int .i64 (pre.length:Int))] [.vs 4 [v.enc.map .t]])
  = some (cond (ok&&(w5 l&&rest.any (te v))) (.loop .ret [.t (.bool true)] []) (.loop (.exit 0) [x] []))
 | [],pre,h=>by
  have c:decide ((pre.length:Int)<(l.length:Int))=false:=by simp[h]
  refine⟨.bad,?_⟩;simp only[List.any_nil,Bool.and_false,cond_false,Ver.enc,List.map_cons,List.map_nil];refine zj func181 rfl rfl ?_;simp (disch:=(try simp only[LL]);omega) only[↓GO,↓DRW,GA,GX,ren,zk,za,refs,z8,cst,zo,isC,bin,una,z7,zd,blt,asArg,zg,zc,zf,z6,zr,unN,ze,zm,zb,GS,simprocAttr,GZ,c,wH,zA]
 | b :: rest, pre, h => by
  have c:decide ((pre.length:Int)<(l.length:Int))=true:=by simp[h];omega
  have hget:(bdT l)[pre.length]? = some [.str b.1,.str b.2]:=by rw[h];exact vN (fun b:Bd=>[T.str b.1,T.str b.2]) pre b rest
  have hlen:pre.length+rest.length+1≤l.length:=by rw[h];simp;omega
  have hll:=hl.1;have d1:=c_tkR v hv b (hl.2 b (by rw[h];simp));have d2:=dQ l hl.1 (fun b hb=>by have:=hl.2 b hb;omega);obtain⟨x,IH⟩:=Py v hv ok l hl rest (pre++[b]) (by rw[h];simp);rw[show ((pre++[b]).length:Int)=(pre.length:Int)+1 by simp]at IH;refine⟨x,?_⟩;rw[List.any_cons];generalize rest.any (te v)=R at *;generalize te v b=t at *;generalize w5 l=rk at *;clear h hl;obtain⟨lo,hi⟩:=b;simp only at d1 hget;obtain⟨maj,min,pat,pre'⟩:=v;simp only[Ver.enc,List.map_cons,List.map_nil]at d1 IH ⊢
  cases ok<;>cases rk<;>cases t<;>simp only[Bool.true_and,Bool.false_and,Bool.true_or,Bool.false_or,cond_true,cond_false]at IH ⊢
  all_goals
   refine zj func181 rfl rfl ?_;simp (disch:=(try simp only[LL]);omega) only[↓GO,↓DRW,GA,GX,ren,zk,za,refs,z8,cst,zo,isC,bin,una,z7,zd,blt,asArg,zg,zc,zf,z6,zr,unN,ze,zm,zb,GS,simprocAttr,GZ,c,hget,d1,d2,wH,zi,zA,IH]
theorem c_inR (s:Str)(hs:s.length≤1048576)(l:List Bd)(hl:BdB l):zy (EV prog pol) 181 [.t (.str s),.t (.list 2 (bdT l))]=some (.t (.bool (inB s l))):=by
 have d1:=rC s (by omega);obtain⟨x,L⟩:=Py (zq s).1 (yz s (by omega)).1 (zq s).2 l hl l [] rfl;unfold rvT at d1;unfold inB;simp only[List.length_nil,Int.natCast_zero]at L;generalize ((zq s).2&&(w5 l&&l.any (te (zq s).1)))=R at *;generalize (zq s).2=ok at *;generalize (zq s).1=v at *;obtain⟨maj,min,pat,pre⟩:=v;simp only[Ver.enc,List.map_cons,List.map_nil]at d1 L
 cases R<;>simp only[cond_true,cond_false]at L
 all_goals
  apply zw;refine zx rfl func181 rfl (by kernel_rfl) ?_;unfold Tryz.f181;simp (disch:=(try simp only[LL]);omega) only[↓GO,↓DRW,GA,GX,ren,zk,za,refs,z8,cst,zo,isC,bin,una,z7,zd,blt,asArg,zg,zc,zf,z6,zr,unN,ze,zm,zb,GS,simprocAttr,GZ,d1,L,zA]
theorem gB {s:Str}{l:List Bd}(h:vC s=some l):BdB l:=by
 unfold vC at h
 cases hc:(decide ((s.length:Int) > 200)||decide (((xA 0 s).length:Int) > 8)) with
 | true=>rw[hc]at h;cases h
 | false =>
  rw[hc,cond_false]at h;have h1:=jw h;have h2:=(qS _ _ h).2;simp only[Bool.or_eq_false_iff,decide_eq_false_iff_not]at hc;exact⟨by omega,fun b hb=>by have:=h1 b hb;omega⟩
theorem R5 (n:zu)(hb:n.zX≤1048576)(name ver:Str)(hn:name.length≤1048576)(hv:ver.length≤1048576):zy (EV prog pol) 102 [.agg (n.enc.map .t),.t (.str name),.t (.str ver)]=some (.t (.bool (afT n name ver))):=by
 have d1:=PW n hb;have d2:=PT n.range (by simp only[zu.zX]at hb;omega);rw[kW]at d2;unfold afT;have e:mh n=w8 n:=rfl;rw[e]
 cases hr:vC n.range with
 | none =>
  have hno:w8 n=false:=by unfold w8;rw[hr];rfl
  rw[hno]at d1 ⊢;rw[hr]at d2;simp only[Bool.false_and,rrT]at d2 ⊢;obtain⟨nm,rg,tx⟩:=n;simp only[zu.enc,List.map_cons,List.map_nil]at d1 d2 ⊢;apply zw;refine zx rfl func102 rfl (by kernel_rfl) ?_;unfold Tryz.f102;simp (disch:=(try simp only[LL]);omega) only[↓GO,↓DRW,GA,GX,ren,zk,za,refs,z8,cst,zo,isC,bin,una,z7,zd,blt,asArg,zg,zc,zf,z6,zr,unN,ze,zm,zb,GS,simprocAttr,GZ,d1,d2,zA]
 | some l =>
  have d3:=c_inI ver hv l (gB hr);rw[hr]at d2;simp only[rrT,Option.getD_some]at d2 ⊢;generalize w8 n=ok at *;generalize inB ver l=t at *;obtain⟨nm,rg,tx⟩:=n;simp only[zu.enc,List.map_cons,List.map_nil]at d1 d2 ⊢
  cases ok<;>cases q:(nm==name)<;>simp only[Bool.true_and,Bool.false_and]
  all_goals
   apply zw;refine zx rfl func102 rfl (by kernel_rfl) ?_;unfold Tryz.f102;simp (disch:=(try simp only[LL]);omega) only[↓GO,↓DRW,GA,GX,ren,zk,za,refs,z8,cst,zo,isC,bin,una,z7,zd,blt,asArg,zg,zc,zf,z6,zr,unN,ze,zm,zb,GS,simprocAttr,GZ,d1,d2,d3,q,zA]
theorem O1 (n:zu)(hb:n.zX≤1048576)(name ver:Str)(hn:name.length≤1048576)(hv:ver.length≤1048576):zy (EV prog pol) 117 [.agg (n.enc.map .t),.t (.str name),.t (.str ver)]=some (.t (.bool (afT n name ver))):=by
 have d1:=PV n hb;have d2:=PS n.range (by simp only[zu.zX]at hb;omega);unfold afT;have e:mh n=w8 n:=rfl;rw[e]
 cases hr:vC n.range with
 | none =>
  have hno:w8 n=false:=by unfold w8;rw[hr];rfl
  rw[hno]at d1 ⊢;rw[hr]at d2;simp only[Bool.false_and,rrT]at d2 ⊢;obtain⟨nm,rg,tx⟩:=n;simp only[zu.enc,List.map_cons,List.map_nil]at d1 d2 ⊢;apply zw;refine zx rfl func117 rfl (by kernel_rfl) ?_;unfold Tryz.f117;simp (disch:=(try simp only[LL]);omega) only[↓GO,↓DRW,GA,GX,ren,zk,za,refs,z8,cst,zo,isC,bin,una,z7,zd,blt,asArg,zg,zc,zf,z6,zr,unN,ze,zm,zb,GS,simprocAttr,GZ,d1,d2,zA]
 | some l =>
  have d3:=c_inR ver hv l (gB hr);rw[hr]at d2;simp only[rrT,Option.getD_some]at d2 ⊢;generalize w8 n=ok at *;generalize inB ver l=t at *;obtain⟨nm,rg,tx⟩:=n;simp only[zu.enc,List.map_cons,List.map_nil]at d1 d2 ⊢
  cases ok<;>cases q:(nm==name)<;>simp only[Bool.true_and,Bool.false_and]
  all_goals
   apply zw;refine zx rfl func117 rfl (by kernel_rfl) ?_;unfold Tryz.f117;simp (disch:=(try simp only[LL]);omega) only[↓GO,↓DRW,GA,GX,ren,zk,za,refs,z8,cst,zo,isC,bin,una,z7,zd,blt,asArg,zg,zc,zf,z6,zr,unN,ze,zm,zb,GS,simprocAttr,GZ,d1,d2,d3,q,zA]
def auP (p:zh)(ns:List zu):List Str:=(ns.filter fun n=>afT n p.name p.version).map fun n=>(keyOf p++[32])++n.text
theorem Zb (p:zh)(n:zu)(ns:List zu):auP p (n::ns)=cond (afT n p.name p.version) (((keyOf p++[32])++n.text)::auP p ns) (auP p ns):=by
 unfold auP;rw[List.filter_cons]
 cases afT n p.name p.version<;>rfl
theorem Wl (p:zh)(ns:List zu):(auP p ns).length≤ns.length:=by
 unfold auP;rw[List.length_map];exact List.length_filter_le _ _
theorem lP (ns:List zu)(p:zh)(ps:List zh):xY ns (p::ps)=auP p ns++xY ns ps:=rfl
theorem Yh (ns:List zu)(hl:ns.length≤1048576)(hb:∀ n∈ns,n.zX≤1048576)(p:zh)(hp:p.zX≤1048576)(pl:T)(a b:T)(M:Nat)(hM:M≤1099511627776):∀ (rest pre:List zu) (acc:List Str) (m:Nat) (cap:Option Nat),ns=pre++rest→m=acc.length→m+rest.length≤M→∃ cap',
 EV prog pol (.loop 33 31334 0 [.t (.list 3 (zu.zC ns)),.sl 0 0 m cap,.ptr 1 0 0,.t pl,.t a,.t b,.t (.list 3 (zu.zC ns)),.t (.int .i64 (ns.length:Int)),.t (.int .i64 (pre.length:Int))] [.ts 1 (strs acc),.vs 6 [p.enc.map .t]])
  = some (.loop (.exit 2) [.t (.list 3 (zu.zC ns)),.sl 0 0 (m+(auP p rest).length) cap',.t pl,.t a,.t b] [.ts 1 (strs (acc++auP p rest))])
 | [],pre,acc,m,cap,h,hm,hmM=>by
  have c:decide ((pre.length:Int)<(ns.length:Int))=false:=by simp[h]
  refine⟨cap,?_⟩;rw[show auP p []=[] from rfl];simp only[List.append_nil,List.length_nil,Nat.add_zero,zh.enc,List.map_cons,List.map_nil];refine zj func33 rfl rfl ?_;simp (disch:=(try simp only[LL]);omega) only[↓GO,↓DRW,GA,GX,ren,zk,za,refs,z8,cst,zo,isC,bin,una,z7,zd,blt,asArg,zg,zc,zf,z6,zr,unN,ze,zm,zb,GS,simprocAttr,GZ,c,zA]
 | n :: rest, pre, acc, m, cap, h, hm, hmM => by
  have c:decide ((pre.length:Int)<(ns.length:Int))=true:=by simp[h];omega
  have hget:(zu.zC ns)[pre.length]? = some n.enc:=by rw[h];simp[zu.zC]
  have hlen:pre.length+rest.length+1≤ns.length:=by rw[h];simp;omega
  have hnb:=hb n (by rw[h];simp);have hpb:=hp;simp only[zh.zX]at hpb;have d1:=R5 n hnb p.name p.version (by omega) (by omega);have d2:=dR p (by omega);have hkl:(keyOf p).length≤2097153:=by unfold keyOf;simp only[List.length_append,List.length_cons,List.length_nil];omega
  have htl:n.text.length≤1048576:=by simp only[zu.zX]at hnb;omega
  have hsl:(strs acc).length=m:=by rw[zn,hm]
  simp only[List.length_cons]at hmM;have IH0:=Yh ns hl hb p hp pl a b M hM rest (pre++[n]) acc m cap (by rw[h];simp) hm (by omega);have IH1:=Yh ns hl hb p hp pl a b M hM rest (pre++[n]) (acc++[(keyOf p++[32])++n.text]) (m+1) none (by rw[h];simp) (by simp[hm]) (by omega);rw[show ((pre++[n]).length:Int)=(pre.length:Int)+1 by simp]at IH0 IH1;rw[show strs (acc++[(keyOf p++[32])++n.text])=strs acc++[[.str ((keyOf p++[32])++n.text)]] by simp[strs]]at IH1;rw[Zb];clear h hb;obtain⟨nm,rg,tx⟩:=n;obtain⟨name,version,source,sums,dev,zE⟩:=p;generalize keyOf ⟨name,version,source,sums,dev,zE⟩=key at *;generalize auP ⟨name,version,source,sums,dev,zE⟩ rest=R at *;simp only[zu.enc,zh.enc,List.map_cons,List.map_nil]at d1 d2 hget IH0 IH1 htl ⊢
  cases q:afT ⟨nm,rg,tx⟩ name version with
  | false =>
   obtain⟨cap',IH⟩:=IH0;refine⟨cap',?_⟩;rw[q]at d1;simp only[cond_false];refine zj func33 rfl rfl ?_;simp (disch:=(try simp only[LL]);omega) only[↓GO,↓DRW,GA,GX,ren,zk,za,refs,z8,cst,zo,isC,bin,una,z7,zd,blt,asArg,zg,zc,zf,z6,zr,unN,ze,zm,zb,GS,simprocAttr,GZ,c,hget,d1,zi,zA,IH]
  | true =>
   obtain⟨cap',IH⟩:=IH1;refine⟨cap',?_⟩;rw[q]at d1;simp only[cond_true,List.length_cons];rw[show m+(R.length+1)=m+1+R.length by omega,show acc++(key++[32]++tx)::R=(acc++[key++[32]++tx])++R by simp];generalize (acc++[key++[32]++tx])++R=Z at *;refine zj func33 rfl rfl ?_;simp (disch:=(try simp only[LL]);omega) only[↓GO,↓DRW,GA,GX,ren,zk,za,refs,z8,cst,zo,isC,bin,una,z7,zd,blt,asArg,zg,zc,zf,z6,zr,unN,ze,zm,zb,GS,simprocAttr,GZ,c,hget,d1,d2,zi,hsl,zA,IH,yf];refine zR (by kernel_rfl) ?_
   first|rfl|exact IH
def wS (g:zB)(ns:List zu):List Str:=cond (yj g) (xY ns g.packs) []
theorem PH (ns:List zu)(hl:ns.length≤1048576)(hb:∀ n∈ns,n.zX≤1048576)(ps:List zh)(hpl:ps.length≤1048576)(hp:∀ p∈ps,p.zX≤1048576):∀ (rest pre:List zh) (acc:List Str) (m:Nat) (cap:Option Nat),ps=pre++rest→m=acc.length→m+rest.length*ns.length≤1099511627776→∃ cap',
 EV prog pol (.loop 33 122 0 [.t (.list 3 (zu.zC ns)),.sl 0 0 m cap,.t (.list 6 (zh.zC ps)),.t (.int .i64 (ps.length:Int)),.t (.int .i64 (pre.length:Int))] [.ts 1 (strs acc)])
  = some (.loop (.exit 0) [.sl 0 0 (m+(xY ns rest).length) cap'] [.ts 1 (strs (acc++xY ns rest))])
 | [],pre,acc,m,cap,h,hm,hmM=>by
  have c:decide ((pre.length:Int)<(ps.length:Int))=false:=by simp[h]
  refine⟨cap,?_⟩;rw[show xY ns []=[] from rfl];simp only[List.append_nil,List.length_nil,Nat.add_zero];refine zj func33 rfl rfl ?_;simp (disch:=(try simp only[LL]);omega) only[↓GO,↓DRW,GA,GX,ren,zk,za,refs,z8,cst,zo,isC,bin,una,z7,zd,blt,asArg,zg,zc,zf,z6,zr,unN,ze,zm,zb,GS,simprocAttr,GZ,c,zA]
 | p::rest,pre,acc,m,cap,h,hm,hmM=>by
  have c:decide ((pre.length:Int)<(ps.length:Int))=true:=by simp[h];omega
  have hget:(zh.zC ps)[pre.length]? = some p.enc:=by rw[h];simp[zh.zC]
  have hlen:pre.length+rest.length+1≤ps.length:=by rw[h];simp;omega
  have hpb:=hp p (by rw[h];simp);have hal:=Wl p ns;rw[List.length_cons,Nat.add_mul,Nat.one_mul]at hmM;obtain⟨c1,L⟩:=Yh ns hl hb p hpb (.list 6 (zh.zC ps)) (.int .i64 (ps.length:Int)) (.int .i64 (pre.length:Int)) 1099511627776 (by omega) ns [] acc m cap rfl hm (by omega);obtain⟨c2,IH⟩:=PH ns hl hb ps hpl hp rest (pre++[p]) (acc++auP p ns) (m+(auP p ns).length) c1 (by rw[h];simp) (by simp[hm]) (by omega);rw[show ((pre++[p]).length:Int)=(pre.length:Int)+1 by simp]at IH;refine⟨c2,?_⟩;rw[lP,List.length_append,← Nat.add_assoc,← List.append_assoc];clear h hb hp;obtain⟨name,version,source,sums,dev,zE⟩:=p;simp only[List.length_nil,Int.natCast_zero,zh.enc,List.map_cons,List.map_nil]at hget L IH ⊢;generalize (acc++auP _ ns)++xY ns rest=Z at *;generalize acc++auP _ ns=Y at *;refine zj func33 rfl rfl ?_;simp (disch:=(try simp only[LL]);omega) only[↓GO,↓DRW,GA,GX,ren,zk,za,refs,z8,cst,zo,isC,bin,una,z7,zd,blt,asArg,zg,zc,zf,z6,zr,unN,ze,zm,zb,GS,simprocAttr,GZ,c,hget,L,zu.zF,zi,zA,IH]
theorem Te (g:zB)(hB:GB g)(ns:List zu)(hg:yj g=false):EV prog pol (.callO false 33 [.agg (g.enc.map .t),.t (.list 3 (zu.zC ns))] [])=some (.call (.nil 1) []):=by
 have d1:=iN g hB;rw[hg]at d1;obtain⟨top,packs⟩:=g;simp only[zB.enc,List.map_cons,List.map_nil]at d1 ⊢;refine zM func33 rfl (by kernel_rfl) ?_;unfold Tryz.f33;simp (disch:=(try simp only[LL]);omega) only[↓GO,↓DRW,GA,GX,ren,zk,za,refs,z8,cst,zo,isC,bin,una,z7,zd,blt,asArg,zg,zc,zf,z6,zr,unN,ze,zm,zb,GS,simprocAttr,GZ,d1,zA]
theorem VJ (g:zB)(hB:GB g)(ns:List zu)(hl:ns.length≤1048576)(hb:∀ n∈ns,n.zX≤1048576)(hg:yj g=true):∃ cap,EV prog pol (.callO false 33 [.agg (g.enc.map .t),.t (.list 3 (zu.zC ns))] [])=some (.call (.sl 0 0 (xY ns g.packs).length cap) [.ts 1 (strs (xY ns g.packs))]):=by
 have d1:=iN g hB;rw[hg]at d1;obtain⟨h1,h2,h3⟩:=hB.len;have hmul:g.packs.length*ns.length≤1048576*1048576:=Nat.mul_le_mul h1 hl;obtain⟨cap,L⟩:=PH ns hl hb g.packs h1 h3 g.packs [] [] 0 (some 0) rfl rfl (by omega);refine⟨cap,?_⟩;rw[show strs []=[] from rfl]at L;obtain⟨top,packs⟩:=g;simp only[List.length_nil,Int.natCast_zero,Nat.zero_add,List.nil_append,zB.enc,List.map_cons,List.map_nil]at d1 L ⊢;generalize xY ns packs=Z at *;refine zM func33 rfl (by kernel_rfl) ?_;unfold Tryz.f33;simp (disch:=(try simp only[LL]);omega) only[↓GO,↓DRW,GA,GX,ren,zk,za,refs,z8,cst,zo,isC,bin,una,z7,zd,blt,asArg,zg,zc,zf,z6,zr,unN,ze,zm,zb,GS,simprocAttr,GZ,d1,L,zh.zF,zA]
theorem Yg (g:zB)(hB:GB g)(ns:List zu)(hl:ns.length≤1048576)(hb:∀ n∈ns,n.zX≤1048576)(p:zh)(hp:p.zX≤1048576)(i:Nat)(hi:i≤1048576)(hgp:(zh.zC g.packs)[i]? = some p.enc):∀ (rest pre:List zu) (acc:List Str) (m:Nat) (cap:Option Nat),ns=pre++rest→m=acc.length→m+rest.length≤1099511627776→∃ cap',
 EV prog pol (.loop 40 3730 0 [.t (.list 3 (zu.zC ns)),.ptr 0 0 0,.sl 1 0 m cap,.t (.int .i64 (i:Int)),.t (.int .i64 (pre.length:Int))] [.vs 2 [g.enc.map .t],.ts 1 (strs acc)])
  = some (.loop (.exit 2) [.t (.list 3 (zu.zC ns)),.ptr 0 0 0,.sl 1 0 (m+(auP p rest).length) cap',.t (.int .i64 (i:Int))] [.vs 2 [g.enc.map .t],.ts 1 (strs (acc++auP p rest))])
 | [],pre,acc,m,cap,h,hm,hmM=>by
  have c:decide ((pre.length:Int)<(ns.length:Int))=false:=by simp[h]
  refine⟨cap,?_⟩;rw[show auP p []=[] from rfl];simp only[List.append_nil,List.length_nil,Nat.add_zero,zB.enc,List.map_cons,List.map_nil];refine zj func40 rfl rfl ?_;simp (disch:=(try simp only[LL]);omega) only[↓GO,↓DRW,GA,GX,ren,zk,za,refs,z8,cst,zo,isC,bin,una,z7,zd,blt,asArg,zg,zc,zf,z6,zr,unN,ze,zm,zb,GS,simprocAttr,GZ,c,zu.zF,zA]
 | n :: rest, pre, acc, m, cap, h, hm, hmM => by
  have c:decide ((pre.length:Int)<(ns.length:Int))=true:=by simp[h];omega
  have hget:(zu.zC ns)[pre.length]? = some n.enc:=by rw[h];simp[zu.zC]
  have hlen:pre.length+rest.length+1≤ns.length:=by rw[h];simp;omega
  have hnb:=hb n (by rw[h];simp);have hpb:=hp;simp only[zh.zX]at hpb;have d1:=O1 n hnb p.name p.version (by omega) (by omega);have d2:=tU p (by omega);have hkl:(keyOf p).length≤2097153:=by unfold keyOf;simp only[List.length_append,List.length_cons,List.length_nil];omega
  have htl:n.text.length≤1048576:=by simp only[zu.zX]at hnb;omega
  have hsl:(strs acc).length=m:=by rw[zn,hm]
  simp only[List.length_cons]at hmM;have IH0:=Yg g hB ns hl hb p hp i hi hgp rest (pre++[n]) acc m cap (by rw[h];simp) hm (by omega);have IH1:=Yg g hB ns hl hb p hp i hi hgp rest (pre++[n]) (acc++[(keyOf p++[32])++n.text]) (m+1) none (by rw[h];simp) (by simp[hm]) (by omega);rw[show ((pre++[n]).length:Int)=(pre.length:Int)+1 by simp]at IH0 IH1;rw[show strs (acc++[(keyOf p++[32])++n.text])=strs acc++[[.str ((keyOf p++[32])++n.text)]] by simp[strs]]at IH1;rw[Zb];clear h hb;obtain⟨top,packs⟩:=g;simp only at hgp;obtain⟨nm,rg,tx⟩:=n;obtain⟨name,version,source,sums,dev,zE⟩:=p;generalize keyOf ⟨name,version,source,sums,dev,zE⟩=key at *;generalize auP ⟨name,version,source,sums,dev,zE⟩ rest=R at *;simp only[zu.enc,zh.enc,zB.enc,List.map_cons,List.map_nil]at d1 d2 hget hgp IH0 IH1 htl ⊢;generalize zh.zC packs=PE at *
  cases q:afT ⟨nm,rg,tx⟩ name version with
  | false =>
   obtain⟨cap',IH⟩:=IH0;refine⟨cap',?_⟩;rw[q]at d1;simp only[cond_false];refine zj func40 rfl rfl ?_;simp (disch:=(try simp only[LL]);omega) only[↓GO,↓DRW,GA,GX,ren,zk,za,refs,z8,cst,zo,isC,bin,una,z7,zd,blt,asArg,zg,zc,zf,z6,zr,unN,ze,zm,zb,GS,simprocAttr,GZ,c,hget,hgp,d1,zu.zF,zi,zA,IH]
  | true =>
   obtain⟨cap',IH⟩:=IH1;refine⟨cap',?_⟩;rw[q]at d1;simp only[cond_true,List.length_cons];rw[show m+(R.length+1)=m+1+R.length by omega,show acc++(key++[32]++tx)::R=(acc++[key++[32]++tx])++R by simp];generalize (acc++[key++[32]++tx])++R=Z at *;refine zj func40 rfl rfl ?_;simp (disch:=(try simp only[LL]);omega) only[↓GO,↓DRW,GA,GX,ren,zk,za,refs,z8,cst,zo,isC,bin,una,z7,zd,blt,asArg,zg,zc,zf,z6,zr,unN,ze,zm,zb,GS,simprocAttr,GZ,c,hget,hgp,d1,d2,zu.zF,zi,hsl,zA,IH,yf];refine zR (by kernel_rfl) ?_
   first|rfl|exact IH
theorem PG (g:zB)(hB:GB g)(hg:yj g=true)(ns:List zu)(hl:ns.length≤1048576)(hb:∀ n∈ns,n.zX≤1048576):∀ (rest pre:List zh) (acc:List Str) (m:Nat) (cap:Option Nat),g.packs=pre++rest→m=acc.length→m+rest.length*ns.length≤1099511627776→∃ cap',
 EV prog pol (.loop 40 58 0 [.t (.list 3 (zu.zC ns)),.ptr 0 0 0,.sl 1 0 m cap,.t (.int .i64 (pre.length:Int))] [.vs 2 [g.enc.map .t],.ts 1 (strs acc)])
  = some (.loop (.exit 0) [.sl 0 0 (m+(xY ns rest).length) cap'] [.ts 1 (strs (acc++xY ns rest))])
 | [],pre,acc,m,cap,h,hm,hmM=>by
  have c:decide ((pre.length:Int)<(g.packs.length:Int))=false:=by simp[h]
  refine⟨cap,?_⟩;rw[show xY ns []=[] from rfl];obtain⟨top,packs⟩:=g;simp only[List.append_nil,List.length_nil,Nat.add_zero,zB.enc,List.map_cons,List.map_nil]at c ⊢;refine zj func40 rfl rfl ?_;simp (disch:=(try simp only[LL]);omega) only[↓GO,↓DRW,GA,GX,ren,zk,za,refs,z8,cst,zo,isC,bin,una,z7,zd,blt,asArg,zg,zc,zf,z6,zr,unN,ze,zm,zb,GS,simprocAttr,GZ,c,zh.zF,zA]
 | p::rest,pre,acc,m,cap,h,hm,hmM=>by
  have c:decide ((pre.length:Int)<(g.packs.length:Int))=true:=by simp[h];omega
  have hget:(zh.zC g.packs)[pre.length]? = some p.enc:=by rw[h];simp[zh.zC]
  have hlen:pre.length+rest.length+1≤g.packs.length:=by rw[h];simp;omega
  obtain⟨q1,q2,q3⟩:=hB.len;have hpb:=q3 p (by rw[h];simp);have hal:=Wl p ns;have d1:=iM g hB;rw[hg]at d1;rw[List.length_cons,Nat.add_mul,Nat.one_mul]at hmM;obtain⟨c1,L⟩:=Yg g hB ns hl hb p hpb pre.length (by omega) hget ns [] acc m cap rfl hm (by omega);obtain⟨c2,IH⟩:=PG g hB hg ns hl hb rest (pre++[p]) (acc++auP p ns) (m+(auP p ns).length) c1 (by rw[h];simp) (by simp[hm]) (by omega);rw[show ((pre++[p]).length:Int)=(pre.length:Int)+1 by simp]at IH;refine⟨c2,?_⟩;rw[lP,List.length_append,← Nat.add_assoc,← List.append_assoc];clear h hb hB hg hget;obtain⟨top,packs⟩:=g;simp only at hlen q1;simp only[List.length_nil,Int.natCast_zero,zB.enc,List.map_cons,List.map_nil]at c d1 L IH ⊢;generalize (acc++auP _ ns)++xY ns rest=Z at *;generalize acc++auP _ ns=Y at *;refine zj func40 rfl rfl ?_;simp (disch:=(try simp only[LL]);omega) only[↓GO,↓DRW,GA,GX,ren,zk,za,refs,z8,cst,zo,isC,bin,una,z7,zd,blt,asArg,zg,zc,zf,z6,zr,unN,ze,zm,zb,GS,simprocAttr,GZ,c,d1,L,zh.zF,zi,zA,IH]
theorem c_auR (g:zB)(hB:GB g)(ns:List zu)(hl:ns.length≤1048576)(hb:∀ n∈ns,n.zX≤1048576):zy (EV prog pol) 40 [.agg (g.enc.map .t),.t (.list 3 (zu.zC ns))]=some (.t (.list 1 (strs (wS g ns)))):=by
 unfold wS
 cases hg:yj g with
 | true =>
  obtain⟨h1,h2,h3⟩:=hB.len;have hmul:g.packs.length*ns.length≤1048576*1048576:=Nat.mul_le_mul h1 hl;obtain⟨cap,L⟩:=PG g hB hg ns hl hb g.packs [] [] 0 (some 0) rfl rfl (by omega);rw[show strs []=[] from rfl]at L;obtain⟨top,packs⟩:=g;simp only[List.length_nil,Int.natCast_zero,Nat.zero_add,List.nil_append,zB.enc,List.map_cons,List.map_nil,cond_true]at L ⊢;have ht:(strs (xY ns packs)).take (xY ns packs).length=strs (xY ns packs):=by rw[← zn (xY ns packs)];simp
  generalize xY ns packs=Z at *;apply zw;refine zx rfl func40 rfl (by kernel_rfl) ?_;unfold Tryz.f40;simp (disch:=(try simp only[LL]);omega) only[↓GO,↓DRW,GA,GX,ren,zk,za,refs,z8,cst,zo,isC,bin,una,z7,zd,blt,asArg,zg,zc,zf,z6,zr,unN,ze,zm,zb,GS,simprocAttr,GZ,L,ht,zA]
 | false =>
  have d1:=iM g hB;rw[hg]at d1;have L:EV prog pol (.loop 40 58 0 [.t (.list 3 (zu.zC ns)),.ptr 0 0 0,.sl 1 0 0 (some 0),.t (.int .i64 0)] [.vs 2 [g.enc.map .t],.ts 1 []])
   = some (.loop (.exit 0) [.sl 0 0 0 (some 0)] [.ts 1 []]):=by
   obtain⟨top,packs⟩:=g;simp only[zB.enc,List.map_cons,List.map_nil]at d1 ⊢
   cases c:decide ((0:Int)<(packs.length:Int))
   all_goals
    refine zj func40 rfl rfl ?_;simp (disch:=(try simp only[LL]);omega) only[↓GO,↓DRW,GA,GX,ren,zk,za,refs,z8,cst,zo,isC,bin,una,z7,zd,blt,asArg,zg,zc,zf,z6,zr,unN,ze,zm,zb,GS,simprocAttr,GZ,c,d1,zh.zF,zA]
  obtain⟨top,packs⟩:=g;simp only[zB.enc,List.map_cons,List.map_nil,cond_false]at L ⊢;apply zw;refine zx rfl func40 rfl (by kernel_rfl) ?_;unfold Tryz.f40;simp (disch:=(try simp only[LL]);omega) only[↓GO,↓DRW,GA,GX,ren,zk,za,refs,z8,cst,zo,isC,bin,una,z7,zd,blt,asArg,zg,zc,zf,z6,zr,unN,ze,zm,zb,GS,simprocAttr,GZ,L,zA]
  try rfl
theorem py (g:Nat)(caps:List T)(p:zu→Bool)(es:List zu)(hl:es.length≤4611686018427387904)(hp:∀ x∈es,zy (EV prog pol) g (.agg (x.enc.map .t)::caps.map .t)=some (.t (.bool (p x)))):∀ (rest pre:List zu),es=pre++rest →
 EV prog pol (.loop 164 26 0 [.t (.list 3 (zu.zC es)),.t (.fn g caps),.t (.int .i64 (es.length:Int)),.t (.int .i64 (pre.length:Int))] [])=some (match ur p rest pre.length with|some i=>.loop .ret [.t (.int .i64 (i:Int))] []|none=>.loop (.exit 0) [.bad] [])
 | [],pre,hs=>by
  have c:decide ((pre.length:Int)<(es.length:Int))=false:=by simp[hs]
  refine zj func164 rfl rfl ?_;simp only[↓GO,↓DRW,GA,GX,ren,zk,za,refs,z8,cst,zo,isC,bin,una,z7,zd,blt,asArg,zg,zc,zf,z6,zr,unN,ze,zm,zb,GS,simprocAttr,c,ur]
 | b :: rest, pre, hs => by
  have c:decide ((pre.length:Int)<(es.length:Int))=true:=by simp[hs];omega
  have hi:pre.length<es.length:=by rw[hs];simp
  have hget:=zu.vg es pre.length hi;have hgb:es[pre.length]=b:=by simp[hs]
  rw[hgb]at hget;have hb:=hp b (by rw[hs];simp);have e1:(pre.length:Int)+1=((pre++[b]).length:Int):=by simp
  have IH:=py g caps p es hl hp rest (pre++[b]) (by rw[hs];simp);refine zj func164 rfl rfl ?_;simp only[ur]
  cases hpb:p b with
  | true =>
   rw[hpb]at hb;simp (disch:=omega) only[↓GO,↓DRW,GA,GX,ren,zk,za,refs,z8,cst,zo,isC,bin,una,z7,zd,blt,asArg,zg,zc,zf,z6,zr,unN,ze,zm,zb,GS,simprocAttr,zu.zF,c,hget,zu.vO,zu.wN,zi,hb]
  | false =>
   rw[hpb]at hb;simp (disch:=omega) only[↓GO,↓DRW,GA,GX,ren,zk,za,refs,z8,cst,zo,isC,bin,una,z7,zd,blt,asArg,zg,zc,zf,z6,zr,unN,ze,zm,zb,GS,simprocAttr,zu.zF,c,hget,zu.vO,zu.wN,zi,hb];rw[e1,IH];simp
theorem gb (g:Nat)(caps:List T)(p:zu→Bool)(es:List zu)(hl:es.length≤4611686018427387904)(hp:∀ x∈es,zy (EV prog pol) g (.agg (x.enc.map .t)::caps.map .t)=some (.t (.bool (p x)))) :
 zy (EV prog pol) 164 [.t (.list 3 (zu.zC es)),.t (.fn g caps)]=some (.t (.int .i64 (ixI (ur p es 0)))):=by
 have IH:=py g caps p es hl hp es [] rfl;simp only[List.length_nil,Int.natCast_zero]at IH;apply zw;refine zx rfl func164 rfl (by kernel_rfl) ?_;unfold Tryz.f164
 cases hf:ur p es 0 with
 | none=>rw[hf]at IH;simp only[↓GO,↓DRW,GA,GX,ren,zk,za,refs,z8,cst,zo,isC,bin,una,z7,zd,blt,asArg,zg,zc,zf,z6,zr,unN,ze,zm,zb,GS,simprocAttr,zu.zF,IH,ixI]
 | some i=>rw[hf]at IH;simp only[↓GO,↓DRW,GA,GX,ren,zk,za,refs,z8,cst,zo,isC,bin,una,z7,zd,blt,asArg,zg,zc,zf,z6,zr,unN,ze,zm,zb,GS,simprocAttr,zu.zF,IH,ixI]
theorem pz (g:Nat)(caps:List T)(p:zu→Bool)(es:List zu)(hl:es.length≤4611686018427387904)(hp:∀ x∈es,zy (EV prog pol) g (.agg (x.enc.map .t)::caps.map .t)=some (.t (.bool (p x)))) :
 zy (EV prog pol) 104 [.t (.list 3 (zu.zC es)),.t (.fn g caps)]=some (.t (.bool (es.any p))):=by
 have h1:=gb g caps p es hl hp;apply zw;refine zx rfl func104 rfl (by kernel_rfl) ?_;unfold Tryz.f104;have h2:=Qc p es;simp only[↓GO,↓DRW,GA,GX,ren,zk,za,refs,z8,cst,zo,isC,bin,una,z7,zd,blt,asArg,zg,zc,zf,z6,zr,unN,ze,zm,zb,GS,simprocAttr,h1,h2]
theorem Sf (ns:List zu)(hl:ns.length≤1048576)(hb:∀ n∈ns,n.zX≤1048576)(a b:Str)(ha:a.length≤1048576)(hv:b.length≤1048576):∀ (rest pre:List zu),ns=pre++rest →
 EV prog pol (.loop 119 26 0 [.t (.list 3 (zu.zC ns)),.t (.str a),.t (.str b),.t (.int .i64 (pre.length:Int))] [])=some (cond (rest.any fun n=>afT n a b) (.loop .ret [.t (.bool true)] []) (.loop (.exit 0) [.bad] []))
 | [],pre,h=>by
  have c:decide ((pre.length:Int)<(ns.length:Int))=false:=by simp[h]
  rw[List.any_nil,cond_false];refine zj func119 rfl rfl ?_;simp (disch:=(try simp only[LL]);omega) only[↓GO,↓DRW,GA,GX,ren,zk,za,refs,z8,cst,zo,isC,bin,una,z7,zd,blt,asArg,zg,zc,zf,z6,zr,unN,ze,zm,zb,GS,simprocAttr,GZ,c,zu.zF,zA]
 | x :: rest, pre, h => by
  have c:decide ((pre.length:Int)<(ns.length:Int))=true:=by simp[h];omega
  have hget:(zu.zC ns)[pre.length]? = some x.enc:=by rw[h];simp[zu.zC]
  have hlen:pre.length+rest.length+1≤ns.length:=by rw[h];simp;omega
  have IH:=Sf ns hl hb a b ha hv rest (pre++[x]) (by rw[h];simp);rw[show ((pre++[x]).length:Int)=(pre.length:Int)+1 by simp]at IH;have d1:=O1 x (hb x (by rw[h];simp)) a b ha hv;rw[List.any_cons];clear h hb;obtain⟨nm,rg,tx⟩:=x;simp only[zu.enc,List.map_cons,List.map_nil]at hget d1
  cases q:afT ⟨nm,rg,tx⟩ a b with
  | true =>
   rw[q]at d1;simp only[Bool.true_or,cond_true];refine zj func119 rfl rfl ?_;simp (disch:=(try simp only[LL]);omega) only[↓GO,↓DRW,GA,GX,ren,zk,za,refs,z8,cst,zo,isC,bin,una,z7,zd,blt,asArg,zg,zc,zf,z6,zr,unN,ze,zm,zb,GS,simprocAttr,GZ,c,hget,zu.zF,d1,zi,zA]
  | false =>
   rw[q]at d1;simp only[Bool.false_or];refine zj func119 rfl rfl ?_;simp (disch:=(try simp only[LL]);omega) only[↓GO,↓DRW,GA,GX,ren,zk,za,refs,z8,cst,zo,isC,bin,una,z7,zd,blt,asArg,zg,zc,zf,z6,zr,unN,ze,zm,zb,GS,simprocAttr,GZ,c,hget,zu.zF,d1,zi,zA,IH]
theorem Sw (ns:List zu)(hl:ns.length≤1048576)(hb:∀ n∈ns,n.zX≤1048576)(a b:Str)(ha:a.length≤1048576)(hv:b.length≤1048576):zy (EV prog pol) 119 [.t (.list 3 (zu.zC ns)),.t (.str a),.t (.str b)]=some (.t (.bool (ns.any fun n=>afT n a b))):=by
 have L:=Sf ns hl hb a b ha hv ns [] rfl;simp only[List.length_nil,Int.natCast_zero]at L
 cases q:(ns.any fun n=>afT n a b)<;>rw[q]at L<;>simp only[cond_true,cond_false]at L
 all_goals
  apply zw;refine zx rfl func119 rfl (by kernel_rfl) ?_;unfold Tryz.f119;simp (disch:=(try simp only[LL]);omega) only[↓GO,↓DRW,GA,GX,ren,zk,za,refs,z8,cst,zo,isC,bin,una,z7,zd,blt,asArg,zg,zc,zf,z6,zr,unN,ze,zm,zb,GS,simprocAttr,GZ,L,zu.zF,zA]
theorem c_md1 (n:zu)(hb:n.zX≤1048576)(name:Str)(hn:name.length≤1048576)(l:List Str)(i:Nat)(s:Str)(hi:l[i]? = some s)(hs:s.length≤1048576):zy (EV prog pol) 110 [.agg (n.enc.map .t),.t (.fp [.str name]),.t (.fp [.list 1 (strs l)]),.t (.fp [.int .i64 (i:Int)])]=some (.t (.bool (afT n name s))):=by
 have d1:=R5 n hb name s hn hs;have hget:=xj hi;obtain⟨nm,rg,tx⟩:=n;simp only[zu.enc,List.map_cons,List.map_nil]at d1 ⊢;apply zw;refine zx rfl func110 rfl (by kernel_rfl) ?_;unfold Tryz.f110;simp (disch:=(try simp only[LL]);omega) only[↓GO,↓DRW,GA,GX,ren,zk,za,refs,z8,cst,zo,isC,bin,una,z7,zd,blt,asArg,zg,zc,zf,z6,zr,unN,ze,zm,zb,GS,simprocAttr,GZ,d1,hget,zA]
theorem c_mdC (ns:List zu)(hl:ns.length≤1048576)(hb:∀ n∈ns,n.zX≤1048576)(name:Str)(hn:name.length≤1048576)(l:List Str)(i:Nat)(s:Str)(hi:l[i]? = some s)(hs:s.length≤1048576) :
 zy (EV prog pol) 104 [.t (.list 3 (zu.zC ns)),.t (.fn 110 [.fp [.str name],.fp [.list 1 (strs l)],.fp [.int .i64 (i:Int)]])]=some (.t (.bool (ns.any fun n=>afT n name s))) :=
 pz 110 [.fp [.str name],.fp [.list 1 (strs l)],.fp [.int .i64 (i:Int)]] (fun x=>afT x name s) ns (by omega) (fun x hxn=>c_md1 x (hb x hxn) name hn l i s hi hs)
def vS (g:zB)(k:Str):List Str:=cond (yj g) (xb g.packs [k]) []
def oh (g:zB)(ns:List zu)(k:Str):Bool:=(vS g k).any (ql ns)
def xw (g:zB)(ns:List zu):List Str:=g.top.filter (oh g ns)
theorem Y1 {g:zB}(ns:List zu)(hg:yj g=true):blR g.packs ns g.top []=xw g ns:=by
 rw[VM ns hg];unfold Sz xw
 congr 1
 funext k
 unfold Ra oh vS;rw[hg,cond_true]
theorem mG {g:zB}(ns:List zu)(hg:yj g=false):xw g ns=[]:=by
 unfold xw;rw[List.filter_eq_nil_iff];intro k _;unfold oh vS;rw[hg,cond_false];simp
theorem kV (ps:List zh)(w:List Str):(xb ps w).length≤ps.length:=by
 have e:vv (yB snS ps (w.length+muS ps []) [] w)=xb ps w:=kU ps _ w;have h1:=s7 ps (w.length+muS ps []) [] w;have h3:tN ps []≤ps.length:=List.countP_le_length;rw[← e,nZ];simp only[List.length_nil]at h1;omega
theorem Wk {g:zB}(hg:yj g=true){r:Str}{p:zh}(hp:p∈g.packs)(hk:keyOf p=r)(ns:List zu):ql ns r=ns.any fun n=>afT n p.name p.version:=by
 have h:=rJ (tF hg p hp).1;unfold ql;rw[← hk,h]
theorem c_bl1 (n:zu)(hb:n.zX≤1048576)(p:zh)(hp:p.zX≤1048576):zy (EV prog pol) 105 [.agg (n.enc.map .t),.t (.fp p.enc)]=some (.t (.bool (afT n p.name p.version))):=by
 have hpb:=hp;simp only[zh.zX]at hpb;have d1:=R5 n hb p.name p.version (by omega) (by omega);obtain⟨nm,rg,tx⟩:=n;obtain⟨name,version,source,sums,dev,zE⟩:=p;simp only[zu.enc,zh.enc,List.map_cons,List.map_nil]at d1 ⊢;apply zw;refine zx rfl func105 rfl (by kernel_rfl) ?_;unfold Tryz.f105;simp (disch:=(try simp only[LL]);omega) only[↓GO,↓DRW,GA,GX,ren,zk,za,refs,z8,cst,zo,isC,bin,una,z7,zd,blt,asArg,zg,zc,zf,z6,zr,unN,ze,zm,zb,GS,simprocAttr,GZ,d1,xm,zA]
theorem Se (g:zB)(hB:GB g)(ns:List zu)(hl:ns.length≤1048576)(hb:∀ n∈ns,n.zX≤1048576)(k:Str)(ta tb tc:T)(rs:List Str)(hrl:rs.length≤1048576)(hrs:∀ r∈rs,yj g=true∧∃ p,uM g.packs r=some p)(acc:List Str)(m:Nat)(cap:Option Nat)(hm:m=acc.length)(hmM:m≤1048576):∀ (rest pre:List Str),rs=pre++rest→∃ cap',
 EV prog pol (.loop 35 14950 0 [.t (.list 3 (zu.zC ns)),.ptr 0 0 0,.sl 1 0 m cap,.t (.str k),.t ta,.t tb,.t tc,.t (.list 1 (strs rs)),.t (.int .i64 (rs.length:Int)),.t (.int .i64 (pre.length:Int))] [.vs 2 [g.enc.map .t],.ts 1 (strs acc)])
  = some (.loop (.exit 2) [.t (.list 3 (zu.zC ns)),.ptr 0 0 0,.sl 1 0 (m+cond (rest.any (ql ns)) 1 0) cap',.t ta,.t tb,.t tc] [.vs 2 [g.enc.map .t],.ts 1 (strs (acc++cond (rest.any (ql ns)) [k] []))])
 | [],pre,h=>by
  have c:decide ((pre.length:Int)<(rs.length:Int))=false:=by simp[h]
  refine⟨cap,?_⟩;clear hB hrs;obtain⟨top,packs⟩:=g;simp only[List.any_nil,cond_false,List.append_nil,Nat.add_zero,zB.enc,List.map_cons,List.map_nil];refine zj func35 rfl rfl ?_;simp (disch:=(try simp only[LL]);omega) only[↓GO,↓DRW,GA,GX,ren,zk,za,refs,z8,cst,zo,isC,bin,una,z7,zd,blt,asArg,zg,zc,zf,z6,zr,unN,ze,zm,zb,GS,simprocAttr,GZ,c,xm,zA]
 | r :: rest, pre, h => by
  have c:decide ((pre.length:Int)<(rs.length:Int))=true:=by simp[h];omega
  have hget:(strs rs)[pre.length]? = some [.str r]:=xj (by rw[h];simp);have hlen:pre.length+rest.length+1≤rs.length:=by rw[h];simp;omega
  obtain⟨hg,p,hf⟩:=hrs r (by rw[h];simp);obtain⟨hp,hkp,i,hi,hpi⟩:=sw hf;have hpb:=hB.len.2.2 p hp;have hgp:(zh.zC g.packs)[i]? = some p.enc:=by unfold zh.zC;rw[List.getElem?_map,hpi];rfl
  have d1:=dB g r hB;rw[hi]at d1;have d2:=pz 105 [.fp p.enc] (fun n=>afT n p.name p.version) ns (by omega) (fun n hn=>c_bl1 n (hb n hn) p hpb);rw[← Wk hg hp hkp ns]at d2;have hsl:(strs acc).length=m:=by rw[zn,hm]
  obtain⟨cap',IH⟩:=Se g hB ns hl hb k ta tb tc rs hrl hrs acc m cap hm hmM rest (pre++[r]) (by rw[h];simp);rw[show ((pre++[r]).length:Int)=(pre.length:Int)+1 by simp]at IH;rw[List.any_cons];clear h hb hB hrs hi hpi hf hp hg;obtain⟨top,packs⟩:=g;simp only at hgp;obtain⟨name,version,source,sums,dev,zE⟩:=p;simp only[zB.enc,zh.enc,List.map_cons,List.map_nil,ixI]at d1 d2 hgp IH ⊢
  cases q:ql ns r with
  | true =>
   rw[q]at d2;simp only[Bool.true_or,cond_true];refine⟨none,?_⟩;rw[show strs (acc++[k])=strs acc++[[.str k]] by simp[strs]];refine zj func35 rfl rfl ?_;simp (disch:=(try simp only[LL]);omega) only[↓GO,↓DRW,GA,GX,ren,zk,za,refs,z8,cst,zo,isC,bin,una,z7,zd,blt,asArg,zg,zc,zf,z6,zr,unN,ze,zm,zb,GS,simprocAttr,GZ,c,hget,hgp,d1,d2,hsl,zi,xm,zA,yf]
   all_goals (refine zR (by kernel_rfl) ?_)
   all_goals (try simp (disch:=(try simp only[LL]);omega) only[↓GO,↓DRW,GA,GX,ren,zk,za,refs,z8,cst,zo,isC,bin,una,z7,zd,blt,asArg,zg,zc,zf,z6,zr,unN,ze,zm,zb,GS,simprocAttr,GZ,c,hget,hgp,d1,d2,hsl,zi,xm,zA,yf])
  | false =>
   rw[q]at d2;simp only[Bool.false_or];refine⟨cap',?_⟩;generalize cond (rest.any (ql ns)) [k] []=Z at *;generalize m+cond (rest.any (ql ns)) 1 0=m' at *;refine zj func35 rfl rfl ?_;simp (disch:=(try simp only[LL]);omega) only[↓GO,↓DRW,GA,GX,ren,zk,za,refs,z8,cst,zo,isC,bin,una,z7,zd,blt,asArg,zg,zc,zf,z6,zr,unN,ze,zm,zb,GS,simprocAttr,GZ,c,hget,hgp,d1,d2,hsl,zi,xm,zA,IH,yf]
   all_goals (refine zR (by kernel_rfl) ?_)
   all_goals (try simp (disch:=(try simp only[LL]);omega) only[↓GO,↓DRW,GA,GX,ren,zk,za,refs,z8,cst,zo,isC,bin,una,z7,zd,blt,asArg,zg,zc,zf,z6,zr,unN,ze,zm,zb,GS,simprocAttr,GZ,c,hget,hgp,d1,d2,hsl,zi,xm,zA,IH,yf])
theorem Vc (g:zB)(k:Str):∀ r∈vS g k,yj g=true∧∃ p,uM g.packs r=some p:=by
 intro r hr;unfold vS at hr
 cases hg:yj g with
 | true=>rw[hg,cond_true]at hr;exact⟨rfl,mb g.packs [k] r hr⟩
 | false=>rw[hg]at hr;simp at hr
theorem ZI (g:zB)(k:Str):(vS g k).length≤g.packs.length:=by
 unfold vS
 cases yj g with
 | true=>exact kV g.packs [k]
 | false=>simp
theorem c_rtI (g:zB)(hB:GB g)(k:Str):zy (EV prog pol) 103 [.agg (g.enc.map .t),.t (.list 1 [[.str k]])]=some (.t (.list 1 (strs (vS g k)))):=by
 unfold vS
 cases hg:yj g with
 | true=>exact c_reI g hB [k] (by simp) hg
 | false=>exact T5 g hB [k] hg
theorem Vq (acc:List Str)(q:Str→Bool)(k:Str)(rest:List Str):(acc++cond (q k) [k] [])++rest.filter q=acc++(k::rest).filter q∧cond (q k) 1 0+(rest.filter q).length=((k::rest).filter q).length∧(acc++cond (q k) [k] []).length=acc.length+cond (q k) 1 0:=by
 rw[List.filter_cons]
 cases q k with
 | true=>simp;omega
 | false=>simp
theorem PF (g:zB)(hB:GB g)(ns:List zu)(hl:ns.length≤1048576)(hb:∀ n∈ns,n.zX≤1048576):∀ (rest pre:List Str) (acc:List Str) (m:Nat) (cap:Option Nat),g.top=pre++rest→m=acc.length→m+rest.length≤1048576→∃ cap',
 EV prog pol (.loop 35 58 0 [.t (.list 3 (zu.zC ns)),.ptr 0 0 0,.sl 1 0 m cap,.t (.list 1 (strs g.top)),.t (.int .i64 (g.top.length:Int)),.t (.int .i64 (pre.length:Int))] [.vs 2 [g.enc.map .t],.ts 1 (strs acc)])
  = some (.loop (.exit 0) [.sl 0 0 (m+(rest.filter (oh g ns)).length) cap'] [.ts 1 (strs (acc++rest.filter (oh g ns)))])
 | [],pre,acc,m,cap,h,hm,hmM=>by
  have c:decide ((pre.length:Int)<(g.top.length:Int))=false:=by simp[h]
  refine⟨cap,?_⟩;clear hB;obtain⟨top,packs⟩:=g;simp only at c h;simp only[List.filter_nil,List.append_nil,List.length_nil,Nat.add_zero,zB.enc,List.map_cons,List.map_nil];refine zj func35 rfl rfl ?_;simp (disch:=(try simp only[LL]);omega) only[↓GO,↓DRW,GA,GX,ren,zk,za,refs,z8,cst,zo,isC,bin,una,z7,zd,blt,asArg,zg,zc,zf,z6,zr,unN,ze,zm,zb,GS,simprocAttr,GZ,c,xm,zA]
 | k::rest,pre,acc,m,cap,h,hm,hmM=>by
  have c:decide ((pre.length:Int)<(g.top.length:Int))=true:=by simp[h];omega
  have hget:(strs g.top)[pre.length]? = some [.str k]:=xj (by rw[h];simp);have hlen:pre.length+rest.length+1≤g.top.length:=by rw[h];simp;omega
  have htl:=hB.len;have d1:=c_rtI g hB k;have hrl:=ZI g k;simp only[List.length_cons]at hmM;obtain⟨e1,e2,e3⟩:=Vq acc (oh g ns) k rest;obtain⟨c1,L⟩:=Se g hB ns hl hb k (.list 1 (strs g.top)) (.int .i64 (g.top.length:Int)) (.int .i64 (pre.length:Int)) (vS g k) (by omega) (Vc g k) acc m cap hm (by omega) (vS g k) [] rfl;rw[show (vS g k).any (ql ns)=oh g ns k from rfl]at L;obtain⟨c2,IH⟩:=PF g hB ns hl hb rest (pre++[k]) (acc++cond (oh g ns k) [k] []) (m+cond (oh g ns k) 1 0) c1 (by rw[h];simp) (by rw[e3,hm]) (by cases oh g ns k<;>simp only[cond_true,cond_false]<;>omega);rw[show ((pre++[k]).length:Int)=(pre.length:Int)+1 by simp,e1,Nat.add_assoc,e2]at IH;refine⟨c2,?_⟩;clear hB h hb e1 e2 e3;obtain⟨top,packs⟩:=g;simp only at c hget hlen htl;simp only[List.length_nil,Int.natCast_zero,zB.enc,List.map_cons,List.map_nil]at d1 L IH ⊢;generalize acc++cond (oh ⟨top,packs⟩ ns k) [k] []=Y at *;generalize acc++(k::rest).filter (oh ⟨top,packs⟩ ns)=Z at *;generalize m+((k::rest).filter (oh ⟨top,packs⟩ ns)).length=m2 at *;generalize m+cond (oh ⟨top,packs⟩ ns k) 1 0=m1 at *;generalize vS ⟨top,packs⟩ k=R at *;refine zj func35 rfl rfl ?_;simp (disch:=(try simp only[LL]);omega) only[↓GO,↓DRW,GA,GX,ren,zk,za,refs,z8,cst,zo,isC,bin,una,z7,zd,blt,asArg,zg,zc,zf,z6,zr,unN,ze,zm,zb,GS,simprocAttr,GZ,c,hget,d1,L,zn,zi,xm,zA,IH]
theorem c_blI (g:zB)(hB:GB g)(ns:List zu)(hl:ns.length≤1048576)(hb:∀ n∈ns,n.zX≤1048576):∃ cap,EV prog pol (.callO false 35 [.agg (g.enc.map .t),.t (.list 3 (zu.zC ns))] [])=some (.call (.sl 0 0 (xw g ns).length cap) [.ts 1 (strs (xw g ns))]):=by
 have htl:=hB.len;obtain⟨cap,L⟩:=PF g hB ns hl hb g.top [] [] 0 (some 0) rfl rfl (by omega);refine⟨cap,?_⟩;rw[show strs []=[] from rfl,show g.top.filter (oh g ns)=xw g ns from rfl]at L;clear hB hb;obtain⟨top,packs⟩:=g;simp only[List.length_nil,Int.natCast_zero,Nat.zero_add,List.nil_append,zB.enc,List.map_cons,List.map_nil]at L ⊢;generalize xw ⟨top,packs⟩ ns=Z at *;refine zM func35 rfl (by kernel_rfl) ?_;unfold Tryz.f35;simp (disch:=(try simp only[LL]);omega) only[↓GO,↓DRW,GA,GX,ren,zk,za,refs,z8,cst,zo,isC,bin,una,z7,zd,blt,asArg,zg,zc,zf,z6,zr,unN,ze,zm,zb,GS,simprocAttr,GZ,L,zn,xm,zA]
theorem Wq (l:List Str)(s:Str):(xp l s).length≤l.length+1:=by
 cases h:atS l s with
 | true=>rw[iF l s h];omega
 | false =>
  rw[kC l s h];have:=kg l s;simp only[List.length_append,List.length_take,List.length_cons,List.length_drop];omega
theorem QP (ns:List zu)(k:Str)(rs acc:List Str):(blS ns k rs acc).length≤acc.length+1:=by
 rw[dV]
 cases rs.any (ql ns) with
 | true=>exact Wq acc k
 | false=>simp
theorem dN (g:zB)(hB:GB g)(hg:yj g=true)(ns:List zu)(hl:ns.length≤1048576)(hb:∀ n∈ns,n.zX≤1048576)(k:Str)(i:Nat)(hi:(strs g.top)[i]? = some [.str k])(rs:List Str)(hrl:rs.length≤1048576)(hrs:∀ r∈rs,∃ p,uM g.packs r=some p):∀ (rest pre:List Str) (acc:List Str) (m:Nat) (cap:Option Nat),rs=pre++rest→m=acc.length→m+rest.length≤1073741824→∃ cap',
 EV prog pol (.loop 41 7462 0 [.t (.list 3 (zu.zC ns)),.ptr 0 0 0,.sl 1 0 m cap,.t (.int .i64 (i:Int)),.t (.list 1 (strs rs)),.t (.int .i64 (pre.length:Int))] [.vs 2 [g.enc.map .t],.ts 1 (strs acc)])
  = some (.loop (.exit 2) [.t (.list 3 (zu.zC ns)),.ptr 0 0 0,.sl 1 0 (blS ns k rest acc).length cap',.t (.int .i64 (i:Int))] [.vs 2 [g.enc.map .t],.ts 1 (strs (blS ns k rest acc))])
 | [],pre,acc,m,cap,h,hm,hmM=>by
  have c:decide ((pre.length:Int)<(rs.length:Int))=false:=by simp[h]
  refine⟨cap,?_⟩;clear hB hg hrs hi;obtain⟨top,packs⟩:=g;simp only[blS,← hm,zB.enc,List.map_cons,List.map_nil];refine zj func41 rfl rfl ?_;simp (disch:=(try simp only[LL]);omega) only[↓GO,↓DRW,GA,GX,ren,zk,za,refs,z8,cst,zo,isC,bin,una,z7,zd,blt,asArg,zg,zc,zf,z6,zr,unN,ze,zm,zb,GS,simprocAttr,GZ,c,zn,xm,zA]
 | r :: rest, pre, acc, m, cap, h, hm, hmM => by
  have c:decide ((pre.length:Int)<(rs.length:Int))=true:=by simp[h];omega
  have hget:(strs rs)[pre.length]? = some [.str r]:=xj (by rw[h];simp);have hlen:pre.length+rest.length+1≤rs.length:=by rw[h];simp;omega
  obtain⟨p,hf⟩:=hrs r (by rw[h];simp);obtain⟨hp,hkp,_⟩:=sw hf;have hpb:=hB.len.2.2 p hp;have hsk:=rJ (tF hg p hp).1;rw[hkp]at hsk;have hrb:r.length≤4611686018427387904:=by have:=km p;rw[hkp]at this;omega
  have d1:=R2 r hrb;rw[hsk]at d1;simp only[zh.zX]at hpb;have d2:=Sw ns hl hb p.name p.version (by omega) (by omega);rw[← Wk hg hp hkp ns]at d2;simp only[List.length_cons]at hmM;clear hpb hsk hrb hf hkp hp;generalize p.name=pn at *;generalize p.version=pv at *;rw[blS]
  cases q:ql ns r with
  | false =>
   rw[q]at d2;obtain⟨cap',IH⟩:=dN g hB hg ns hl hb k i hi rs hrl hrs rest (pre++[r]) acc m cap (by rw[h];simp) hm (by omega);rw[show ((pre++[r]).length:Int)=(pre.length:Int)+1 by simp]at IH;refine⟨cap',?_⟩;rw[cond_false];clear h hb hB hrs hg;obtain⟨top,packs⟩:=g;simp only[zB.enc,List.map_cons,List.map_nil]at hi IH ⊢;generalize blS ns k rest acc=Z at *;refine zj func41 rfl rfl ?_;simp (disch:=(try simp only[LL]);omega) only[↓GO,↓DRW,GA,GX,ren,zk,za,refs,z8,cst,zo,isC,bin,una,z7,zd,blt,asArg,zg,zc,zf,z6,zr,unN,ze,zm,zb,GS,simprocAttr,GZ,c,hget,d1,d2,zn,zi,xm,zA,IH]
  | true =>
   rw[q]at d2;have hsl:(strs acc).length=m:=by rw[zn,hm]
   rw[cond_true]
   cases ha:atS acc k with
   | true =>
    have d3:=OS acc (by omega) k m hm cap ha;rw[iF acc k ha];obtain⟨cap',IH⟩:=dN g hB hg ns hl hb k i hi rs hrl hrs rest (pre++[r]) acc m cap (by rw[h];simp) hm (by omega);rw[show ((pre++[r]).length:Int)=(pre.length:Int)+1 by simp]at IH;refine⟨cap',?_⟩;clear h hb hB hrs hg;obtain⟨top,packs⟩:=g;simp only[zB.enc,List.map_cons,List.map_nil]at hi IH ⊢;generalize blS ns k rest acc=Z at *;refine zj func41 rfl rfl ?_;simp (disch:=(try simp only[LL]);omega) only[↓GO,↓DRW,GA,GX,ren,zk,za,refs,z8,cst,zo,isC,bin,una,z7,zd,blt,asArg,zg,zc,zf,z6,zr,unN,ze,zm,zb,GS,simprocAttr,GZ,c,hget,hi,d1,d2,d3,hsl,zn,zi,xm,zA,IH]
   | false =>
    have d3:=Sx acc (by omega) k m hm cap ha;have hal:=Wq acc k;have hml:(xp acc k).length=m+1:=by
     rw[kC acc k ha];have:=kg acc k;simp only[List.length_append,List.length_take,List.length_cons,List.length_drop];omega
    obtain⟨cap',IH⟩:=dN g hB hg ns hl hb k i hi rs hrl hrs rest (pre++[r]) (xp acc k) (m+1) none (by rw[h];simp) hml.symm (by omega);rw[show ((pre++[r]).length:Int)=(pre.length:Int)+1 by simp]at IH;refine⟨cap',?_⟩;clear h hb hB hrs hg hal hml;obtain⟨top,packs⟩:=g;simp only[zB.enc,List.map_cons,List.map_nil]at hi IH ⊢;generalize blS ns k rest (xp acc k)=Z at *;generalize xp acc k=acc' at *;refine zj func41 rfl rfl ?_;simp (disch:=(try simp only[LL]);omega) only[↓GO,↓DRW,GA,GX,ren,zk,za,refs,z8,cst,zo,isC,bin,una,z7,zd,blt,asArg,zg,zc,zf,z6,zr,unN,ze,zm,zb,GS,simprocAttr,GZ,c,hget,hi,d1,d2,d3,hsl,zn,zi,xm,zA,IH]
theorem PD (g:zB)(hB:GB g)(hg:yj g=true)(ns:List zu)(hl:ns.length≤1048576)(hb:∀ n∈ns,n.zX≤1048576):∀ (rest pre:List Str) (acc:List Str) (m:Nat) (cap:Option Nat),g.top=pre++rest→m=acc.length→m+rest.length≤2097152→∃ cap',
 EV prog pol (.loop 41 58 0 [.t (.list 3 (zu.zC ns)),.ptr 0 0 0,.sl 1 0 m cap,.t (.int .i64 (pre.length:Int))] [.vs 2 [g.enc.map .t],.ts 1 (strs acc)])
  = some (.loop (.exit 0) [.sl 0 0 (blR g.packs ns rest acc).length cap'] [.ts 1 (strs (blR g.packs ns rest acc))])
 | [],pre,acc,m,cap,h,hm,hmM=>by
  have c:decide ((pre.length:Int)<(g.top.length:Int))=false:=by simp[h]
  refine⟨cap,?_⟩;clear hB hg;obtain⟨top,packs⟩:=g;simp only at c h;simp only[blR,← hm,zB.enc,List.map_cons,List.map_nil];refine zj func41 rfl rfl ?_;simp (disch:=(try simp only[LL]);omega) only[↓GO,↓DRW,GA,GX,ren,zk,za,refs,z8,cst,zo,isC,bin,una,z7,zd,blt,asArg,zg,zc,zf,z6,zr,unN,ze,zm,zb,GS,simprocAttr,GZ,c,zn,xm,zA]
 | k::rest,pre,acc,m,cap,h,hm,hmM=>by
  have c:decide ((pre.length:Int)<(g.top.length:Int))=true:=by simp[h];omega
  have hget:(strs g.top)[pre.length]? = some [.str k]:=xj (by rw[h];simp);have hlen:pre.length+rest.length+1≤g.top.length:=by rw[h];simp;omega
  have htl:=hB.len;have d0:=iM g hB;rw[hg]at d0;have d1:=c_reR g hB [k] (by simp) hg;rw[show strs [k]=[[.str k]] from rfl]at d1;have hrl:=kV g.packs [k];simp only[List.length_cons]at hmM;obtain⟨c1,L⟩:=dN g hB hg ns hl hb k pre.length hget (xb g.packs [k]) (by omega) (mb g.packs [k]) (xb g.packs [k]) [] acc m cap rfl hm (by omega);have hbl:=QP ns k (xb g.packs [k]) acc;obtain⟨c2,IH⟩:=PD g hB hg ns hl hb rest (pre++[k]) (blS ns k (xb g.packs [k]) acc) _ c1 (by rw[h];simp) rfl (by omega);rw[show ((pre++[k]).length:Int)=(pre.length:Int)+1 by simp]at IH;refine⟨c2,?_⟩;rw[blR];clear hB h hb hg hbl;obtain⟨top,packs⟩:=g;simp only at c hget hlen htl;simp only[List.length_nil,Int.natCast_zero,zB.enc,List.map_cons,List.map_nil]at d0 d1 L IH ⊢;generalize blR packs ns rest (blS ns k (xb packs [k]) acc)=Z at *;generalize blS ns k (xb packs [k]) acc=Y at *;generalize xb packs [k]=R at *;refine zj func41 rfl rfl ?_;simp (disch:=(try simp only[LL]);omega) only[↓GO,↓DRW,GA,GX,ren,zk,za,refs,z8,cst,zo,isC,bin,una,z7,zd,blt,asArg,zg,zc,zf,z6,zr,unN,ze,zm,zb,GS,simprocAttr,GZ,c,hget,d0,d1,L,zn,zi,xm,zA,IH]
  all_goals (refine zR (by kernel_rfl) ?_)
  all_goals (first|exact IH|simp (disch:=(try simp only[LL]);omega) only[↓GO,↓DRW,GA,GX,ren,zk,za,refs,z8,cst,zo,isC,bin,una,z7,zd,blt,asArg,zg,zc,zf,z6,zr,unN,ze,zm,zb,GS,simprocAttr,GZ,c,hget,d0,d1,L,zn,zi,xm,zA,IH])
theorem c_blR (g:zB)(hB:GB g)(ns:List zu)(hl:ns.length≤1048576)(hb:∀ n∈ns,n.zX≤1048576):zy (EV prog pol) 41 [.agg (g.enc.map .t),.t (.list 3 (zu.zC ns))]=some (.t (.list 1 (strs (xw g ns)))):=by
 cases hg:yj g with
 | true =>
  have htl:=hB.len;obtain⟨cap,L⟩:=PD g hB hg ns hl hb g.top [] [] 0 (some 0) rfl rfl (by omega);rw[Y1 ns hg,show strs []=[] from rfl]at L;have ht:(strs (xw g ns)).take (xw g ns).length=strs (xw g ns):=by rw[← zn (xw g ns)];simp
  clear hB hb hg;obtain⟨top,packs⟩:=g;simp only[List.length_nil,Int.natCast_zero,Nat.zero_add,List.nil_append,zB.enc,List.map_cons,List.map_nil]at L ht ⊢;generalize xw ⟨top,packs⟩ ns=Z at *;apply zw;refine zx rfl func41 rfl (by kernel_rfl) ?_;unfold Tryz.f41;simp (disch:=(try simp only[LL]);omega) only[↓GO,↓DRW,GA,GX,ren,zk,za,refs,z8,cst,zo,isC,bin,una,z7,zd,blt,asArg,zg,zc,zf,z6,zr,unN,ze,zm,zb,GS,simprocAttr,GZ,L,ht,xm,zA]
 | false =>
  have d1:=iM g hB;rw[hg]at d1;rw[mG ns hg,show strs []=[] from rfl];have L:EV prog pol (.loop 41 58 0 [.t (.list 3 (zu.zC ns)),.ptr 0 0 0,.sl 1 0 0 (some 0),.t (.int .i64 0)] [.vs 2 [g.enc.map .t],.ts 1 []])
   = some (.loop (.exit 0) [.sl 0 0 0 (some 0)] [.ts 1 []]):=by
   clear hB hb hg;obtain⟨top,packs⟩:=g;simp only[zB.enc,List.map_cons,List.map_nil]at d1 ⊢
   cases c:decide ((0:Int)<(top.length:Int))
   all_goals
    refine zj func41 rfl rfl ?_;simp (disch:=(try simp only[LL]);omega) only[↓GO,↓DRW,GA,GX,ren,zk,za,refs,z8,cst,zo,isC,bin,una,z7,zd,blt,asArg,zg,zc,zf,z6,zr,unN,ze,zm,zb,GS,simprocAttr,GZ,c,d1,zn,xm,zA]
  clear hB hb hg;obtain⟨top,packs⟩:=g;simp only[zB.enc,List.map_cons,List.map_nil]at L ⊢;apply zw;refine zx rfl func41 rfl (by kernel_rfl) ?_;unfold Tryz.f41;simp (disch:=(try simp only[LL]);omega) only[↓GO,↓DRW,GA,GX,ren,zk,za,refs,z8,cst,zo,isC,bin,una,z7,zd,blt,asArg,zg,zc,zf,z6,zr,unN,ze,zm,zb,GS,simprocAttr,GZ,L,xm,zA]
  try rfl
end Go.Proofs.YtefkoljdebekdaaGreatDoor
/- What is drawn never goes back. Conditions: those of each lemma. -/
namespace Go.Proofs.YtefkoljdebekdaaGreatDoor.Dr
open Go.Proofs.Tryz
open Go
def rwd {α:Type}:Result α→World
 | .ok _ w=>w
 | .halt _ w=>w
theorem OW {α:Type}:∀ (a:Ask α) (w:World),w.drawn≤(w.ask a).2.drawn:=by
 intro a
 induction a with
 | done a=>intro w;exact Nat.le_refl _
 | ask what range k ih =>
  intro w;unfold World.ask;simp only
  split
  · exact ih _ w
  · exact Nat.le_trans (Nat.le_succ _) (ih _ { w with drawn:=w.drawn+1 })
theorem TC (w:World)(c:Sys):w.drawn≤(w.sys c).2.drawn:=by
 have h:=OW (Kernel.perform c w.os) w;unfold World.sys;generalize w.ask (Kernel.perform c w.os)=x at h;obtain⟨⟨r,os⟩,w'⟩:=x
 cases r<;>first|exact h|exact Nat.le_refl _
theorem Rj {p:Program}{w:World}{at_:Addr}{u:TypeId}{k:Addr}{v:Value}{b:Bool}{x:World×List Addr}(h:w.viewStore p at_ u k v b=.ok x):x.1.drawn=w.drawn:=by
 unfold World.viewStore at h;simp only[bind,Except.bind,pure,Except.pure]at h
 repeat' first
  | (cases h;rfl)
  | (cases h;done)
  | split at h
theorem Sm {p:Program}{w:World}{a:Addr}{v:Value}{b:Bool}{x:World×List Addr}(h:w.farStore p a v b=.ok x):x.1.drawn=w.drawn:=by
 unfold World.farStore at h
 split at h
 · split at h
   · rename_i hv
     cases h;exact Rj hv
   · cases h
 · cases h
theorem fu (w:World)(a:Addr)(n:Nat):(w.freeze a n).drawn=w.drawn:=by
 unfold World.freeze;split<;>rfl
theorem uC {α:Type}(p:Program):∀ (m:Sem α) (w:World) (es:Array Event),w.drawn≤(rwd (m.runT p w es).1).drawn:=by
 intro m
 induction m with
 | pure a=>intro w es;exact Nat.le_refl _
 | load m a k ih =>
  intro w es;unfold Sem.runT
  split
  · exact ih _ _ _
  · split
    · exact ih _ _ _
    · exact Nat.le_refl _
 | store m a v k ih =>
  intro w es
  have key : ∀ v : Value, (∀ x, v ≠ .agg x) → (∀ x, v ≠ .tuple x) → w.drawn ≤ (rwd (Sem.runT p (.store m a v k) w es).1).drawn := fun v h1 h2 => by
   rw[Sem.runT]
   · split
     · split
       · exact Nat.le_refl _
       · exact ih (w.setCell a v) _
     · split
       · rename_i hf;have:=Sm hf;simp only at this;rw[← this];exact ih _ _
       · exact Nat.le_refl _
   · exact fun x=>h1 x
   · exact fun x=>h2 x
  cases v with
  | agg x=>exact Nat.le_refl _
  | tuple x=>exact Nat.le_refl _
  | _=>exact key _ (fun x hx=>by cases hx) (fun x hx=>by cases hx)
 | new o k ih=>intro w es;exact ih w.heap.size { w with heap:=w.heap.push o } es
 | shape r k ih=>intro w es;exact ih _ _ _
 | freeze a n k ih=>intro w es;have:=ih (w.freeze a n) es;rw[fu]at this;exact this
 | frozen a k ih=>intro w es;exact ih _ _ _
 | getObj r k ih =>
  intro w es;unfold Sem.runT
  split<;>first|exact Nat.le_refl _|exact ih _ _ _
 | setObj r o k ih =>
  intro w es;unfold Sem.runT
  split<;>first|exact Nat.le_refl _|exact ih { w with heap:=w.heap.setIfInBounds r o } _
 | choose q k ih =>
  intro w es;unfold Sem.runT
  split
  · exact ih _ _ _
  · exact Nat.le_trans (Nat.le_succ _) (ih _ { w with drawn:=w.drawn+1 } _)
 | sys c k ih=>intro w es;exact Nat.le_trans (TC w c) (ih _ _ _)
 | program k ih=>intro w es;exact ih _ _ _
 | mark mk k ih=>intro w es;exact ih _ _
 | halt h=>intro w es;exact Nat.le_refl _
theorem TI {α:Type}(p:Program):∀ (m:Sem α) (w:World),w.drawn≤(rwd (m.run p w)).drawn:=by
 intro m
 induction m with
 | pure a=>intro w;exact Nat.le_refl _
 | load m a k ih =>
  intro w;unfold Sem.run
  split
  · exact ih _ _
  · split
    · exact ih _ _
    · exact Nat.le_refl _
 | store m a v k ih =>
  intro w
  have key : ∀ v : Value, (∀ x, v ≠ .agg x) → (∀ x, v ≠ .tuple x) → w.drawn ≤ (rwd (Sem.run p (.store m a v k) w)).drawn := fun v h1 h2 => by
   rw[Sem.run]
   · split
     · split
       · exact Nat.le_refl _
       · exact ih (w.setCell a v)
     · split
       · rename_i hf;have:=Sm hf;simp only at this;rw[← this];exact ih _
       · exact Nat.le_refl _
   · exact fun x=>h1 x
   · exact fun x=>h2 x
  cases v with
  | agg x=>exact Nat.le_refl _
  | tuple x=>exact Nat.le_refl _
  | _=>exact key _ (fun x hx=>by cases hx) (fun x hx=>by cases hx)
 | new o k ih=>intro w;exact ih w.heap.size { w with heap:=w.heap.push o }
 | shape r k ih=>intro w;exact ih _ _
 | freeze a n k ih=>intro w;have:=ih (w.freeze a n);rw[fu]at this;exact this
 | frozen a k ih=>intro w;exact ih _ _
 | getObj r k ih =>
  intro w;unfold Sem.run
  split<;>first|exact Nat.le_refl _|exact ih _ _
 | setObj r o k ih =>
  intro w;unfold Sem.run
  split<;>first|exact Nat.le_refl _|exact ih { w with heap:=w.heap.setIfInBounds r o }
 | choose q k ih =>
  intro w;unfold Sem.run
  split
  · exact ih _ _
  · exact Nat.le_trans (Nat.le_succ _) (ih _ { w with drawn:=w.drawn+1 })
 | sys c k ih=>intro w;exact Nat.le_trans (TC w c) (ih _ _)
 | program k ih=>intro w;exact ih _ _
 | mark mk k ih=>intro w;exact ih _
 | halt h=>intro w;exact Nat.le_refl _
theorem xO {α:Type}{p:Program}{m:Sem α}{w w':World}{a:α}(h:m.run p w=.ok a w'):w.drawn≤w'.drawn:=by
 have:=TI p m w;rw[h]at this;exact this
theorem Ry {α:Type}{p:Program}{m:Sem α}{w w':World}{a:α}{es es':Array Event}(h:m.runT p w es=(.ok a w',es')):w.drawn≤w'.drawn:=by
 have:=uC p m w es;rw[h]at this;exact this
theorem V9 {α:Type}{p:Program}{m:Sem α}{w w':World}{a:Halt}{es es':Array Event}(h:m.runT p w es=(.halt a w',es')):w.drawn≤w'.drawn:=by
 have:=uC p m w es;rw[h]at this;exact this
theorem Yn {α:Type}{p:Program}{m:Sem α}{w w':World}{a:α}{es:Array Event}(h:(m.runT p w es).1=.ok a w'):w.drawn≤w'.drawn:=by
 have:=uC p m w es;rw[h]at this;exact this
theorem UI {α:Type}{p:Program}{m:Sem α}{w w':World}{a:Halt}{es:Array Event}(h:(m.runT p w es).1=.halt a w'):w.drawn≤w'.drawn:=by
 have:=uC p m w es;rw[h]at this;exact this
def GE (d:Nat):GStep→Prop
 | .go _ w _=>d≤w.drawn
 | .comm _ _ _ _ w _=>d≤w.drawn
 | .spawn _ _ w _=>d≤w.drawn
 | .count _ w _=>d≤w.drawn
 | .timer _ _ w _=>d≤w.drawn
 | .alone _ _ w _=>d≤w.drawn
 | .newcoro _ _ _ w _=>d≤w.drawn
 | .coroswitch _ _ _ w _=>d≤w.drawn
 | .collect _ w _=>d≤w.drawn
 | .watch _ w _=>d≤w.drawn
 | .ended _ _ _=>True
theorem sC {d:Nat}{es:Array Event}{s:GStep}(h:GE d s):GE d (s.after es):=by cases s<;>exact h
def SE (d:Nat):Stepped→Prop
 | .next m=>d≤m.world.drawn
 | .ended _ _=>True
theorem ZT (d:Nat)(w:World)(fd:Nat)(t:ByteArray)(o:Outcome):GE d (endWith w fd t o):=by
 unfold endWith;simp only
 repeat' first|exact trivial|split
theorem UR {d:Nat}{w:World}(h:d≤w.drawn)(fr:Frame)(l:List ByteArray)(m:String)(b:Bool):GE d (dieOf fr l m b w):=h
theorem rO {d:Nat}{w:World}(h:d≤w.drawn)(fr:Frame)(m:String):GE d (endThrow fr m w):=h
theorem rG {d:Nat}{w:World}(h:d≤w.drawn)(p:Program)(fr:Frame)(v:Value):GE d (endPrinting p fr v w):=by
 unfold endPrinting;simp only
 repeat' first|exact trivial|exact rO h _ _|split
theorem lI {d:Nat}{w:World}(h:d≤w.drawn)(p:Program)(fr:Frame)(cs:List Frame)(dy:Option Dying)(m:String):GE d (endFatal p fr cs dy m w):=by
 unfold endFatal;simp only
 split
 · rename_i hr;exact UR (Nat.le_trans h (xO hr)) _ _ _ _
 · exact trivial
 · exact trivial
theorem Zx {d:Nat}{w:World}(h:d≤w.drawn)(p:Program)(fr:Frame)(dy:Dying)(f:Fatal):GE d (writeOn p fr dy f w):=by
 unfold writeOn;simp only
 split
 · exact trivial
 · split
   · rename_i hr;exact Nat.le_trans h (Ry hr)
   · rename_i hr;exact Nat.le_trans h (V9 hr)
   · exact trivial
   · exact trivial
theorem Oo {d:Nat}{w:World}(h:d≤w.drawn)(p:Program)(fr:Frame)(dy:Dying):GE d (die p fr dy w):=by
 unfold die
 split
 · exact Zx h _ _ _ _
 · split
   · split
     · exact h
     · exact ZT _ _ _ _ _
   · simp only
     split
     · exact h
     · split
       · rename_i hr;exact Nat.le_trans h (xO hr)
       · exact trivial
     · rename_i t recv name _;have hx:=uC p (invoke (.fn (.method name) #[]) #[.iface t recv]) w #[];generalize (invoke (.fn (.method name) #[]) #[.iface t recv]).runT p w #[]=x at hx;obtain⟨r,es⟩:=x;refine sC ?_;simp only at hx ⊢
       split
       · exact Nat.le_trans h hx
       · exact Nat.le_trans h hx
       · exact trivial
       · exact rG (Nat.le_trans h hx) _ _ _
       · exact trivial
     · exact trivial
theorem rP {d:Nat}{w:World}(h:d≤w.drawn)(p:Program)(b:Bool)(fr:Frame)(cs:List Frame)(dy:Option Dying)(v:Value):GE d (doReturn p b fr cs dy v w):=by
 unfold doReturn
 repeat' first|exact trivial|exact h|split
theorem lR {d:Nat}{w:World}(h:d≤w.drawn)(p:Program)(fr:Frame)(cs:List Frame)(dy:Option Dying)(df:Deferred):GE d (callDeferred p fr cs dy df w):=by
 unfold callDeferred;have hx:=uC p (invoke df.target df.args) w #[];generalize (invoke df.target df.args).runT p w #[]=x at hx;obtain⟨r,es⟩:=x;simp only at hx ⊢;have hy:=Nat.le_trans h hx;clear hx h
 repeat' first|exact trivial|exact hy|exact lI hy _ _ _ _ _|exact rO hy _ _|refine sC ?_|split
theorem WR {d:Nat}{w:World}(h:d≤w.drawn)(p:Program)(b:Bool)(fr:Frame)(cs:List Frame)(dy:Option Dying):GE d (unwind p b fr cs dy w):=by
 unfold unwind
 split
 · rename_i block _ _ _;have hx:=uC p (Instr.takeDeferred block) w #[];generalize (Instr.takeDeferred block).runT p w #[]=x at hx;obtain⟨r,es⟩:=x;refine sC ?_;simp only at hx ⊢
   split
   · exact Nat.le_trans h hx
   · exact trivial
 · exact lR h _ _ _ _ _
 · split
   · exact trivial
   · repeat' first
      | exact trivial
      | exact h
      | (rename_i hr;exact Nat.le_trans h (xO hr))
      | exact rG h _ _ _
      | split
   · split
     · exact rP h _ _ _ _ _ _
     · rename_i fn _;have hx:=uC p (results fn fr.tmps) w #[];generalize (results fn fr.tmps).runT p w #[]=x at hx;obtain⟨r,es⟩:=x;refine sC ?_;simp only at hx ⊢
       split
       · exact rP (Nat.le_trans h hx) _ _ _ _ _ _
       · exact trivial
       · exact trivial
theorem UP {d:Nat}{w:World}(h:d≤w.drawn)(p:Program)(fr:Frame)(cs:List Frame)(dy:Option Dying)(g:Nat):GE d (early p fr cs dy g w):=by
 have hn:∀ w:World,d≤w.drawn→GE d (match w.heap[g]? with
  | some (.pending c elem)=>.go { frame:=fr,callers:=cs,status:=.running,dying:=dy } { w with heap:=w.heap.setIfInBounds g (.cells c elem) }
  | _ => .ended (.stuck "early: the variable does not wait" (fr.pos p)) w) := fun w hw => by
  split
  · exact hw
  · exact trivial
 unfold early;simp only
 repeat' first
  | exact trivial
  | exact hn _ h
  | exact h
  | (rename_i hr;exact hn _ (Nat.le_trans h (xO hr)))
  | (rename_i hr;exact Nat.le_trans h (xO hr))
  | split
theorem iC {d:Nat}{w:World}(h:d≤w.drawn)(p:Program)(b l:Bool)(fr:Frame)(cs:List Frame)(dy:Option Dying)(s:Sem Next):GE d (stepG.apply p l fr cs dy s w):=by
 unfold stepG.apply;have hx:w.drawn≤(rwd ((if l=true then s.runT p w #[] else (s.run p w,#[])).1)).drawn:=by
  split
  · exact uC p s w #[]
  · exact TI p s w
 generalize (if l=true then s.runT p w #[] else (s.run p w,#[]))=x at hx;obtain⟨r,es⟩:=x;simp only at hx ⊢;have hy:=Nat.le_trans h hx;clear hx h;refine sC ?_
 repeat' first|exact trivial|exact hy|exact lI hy _ _ _ _ _|exact rO hy _ _|exact UP hy _ _ _ _ _|split
theorem RI {d:Nat}{w:World}(h:d≤w.drawn)(p:Program)(l:Bool)(fr:Frame)(cs:List Frame)(dy:Option Dying):GE d (stepG.oper p l fr cs dy w):=by
 unfold stepG.oper
 split
 · exact trivial
 · split<;>exact iC h p true l _ _ _ _
theorem Qp {d:Nat}{w:World}(h:d≤w.drawn)(p:Program)(b l:Bool)(fr:Frame)(cs:List Frame)(dy:Option Dying):GE d (stepG.exec p b l fr cs dy w):=by
 unfold stepG.exec;simp only
 repeat' first
  | exact trivial
  | exact h
  | exact iC h _ true _ _ _ _ _
  | exact RI h _ _ _ _ _
  | exact rP (Nat.le_trans h (Yn (by assumption))) _ _ _ _ _ _
  | exact iC (Nat.le_trans h (Yn (by assumption))) _ true _ _ _ _ _
  | exact Nat.le_trans h (Yn (by assumption))
  | exact Nat.le_trans h (UI (by assumption))
  | exact Nat.le_trans h (xO (by assumption))
  | refine sC ?_
  | split
  | (unfold Option.elim;split)
theorem U4 (p:Program)(b:Bool)(g:Goroutine)(w:World)(l:Bool):GE w.drawn (stepG p b g w l):=by
 unfold stepG;simp only
 split
 · exact Oo (Nat.le_refl _) _ _ _
 · exact Qp (Nat.le_refl _) _ _ _ _ _ _
 · exact WR (Nat.le_refl _) _ _ _ _ _
theorem kF (p:Program)(rest:Rest)(gs:Array Goroutine)(i:Nat)(g:Goroutine)(cases:Array CommCase)(blocking:Bool)(shape:CommShape){d:Nat}{w:World}(h:d≤w.drawn):SE d (communicate p rest gs i g cases blocking shape w).1:=by
 have hw:∀ w',waitingAt rest cases w=some w'→w'.drawn=w.drawn:=fun w' hw=>by
  unfold waitingAt at hw
  repeat' first|(cases hw;rfl)|(cases hw;done)|split at hw
 unfold communicate;simp only
 repeat' first
  | exact trivial
  | exact h
  | (simp only[SE];first
   | exact h
   | exact Nat.le_trans h (Nat.le_of_eq (hw _ (by assumption)).symm)
   | exact Nat.le_trans h (xO (by assumption))
   | exact Nat.le_trans h (Nat.le_trans (xO (by assumption)) (xO (by assumption))))
  | split
theorem Xf (p:Program)(gs:Array Goroutine)(rest:Rest){d:Nat}{w:World}(h:d≤w.drawn):SE d (look p gs rest w):=by
 unfold look;simp only
 repeat' first
  | exact trivial
  | (simp only[SE];exact Nat.le_trans h (xO (by assumption)))
  | split
theorem VY {m m':Machine}{op:TimerOp}{v:Value}(h:timerOp m op=.ok (v,m')):m'.world.drawn=m.world.drawn:=by
 have hdr:∀ (w:World) (c:Nat),(drain w c).2.drawn=w.drawn:=fun w c=>by unfold drain;split<;>rfl
 have hre:∀ (m:Machine) (k:Nat) (t:Timer) (a b:Nat),(retime m k t a b).2.world.drawn=m.world.drawn:=fun m k t a b=>by
  unfold retime;simp only
  split
  · exact hdr _ _
  · rfl
 have hnm:∀ (m0:Machine) (var:Addr) (f:Nat→Timer→Value×Machine) (v:Value) (m':Machine),timerOp.named m0 var f=.ok (v,m')→(∀ k t,(f k t).2.world.drawn=m.world.drawn)→m'.world.drawn=m.world.drawn:=fun m0 var f v m' hx hf=>by
  unfold timerOp.named at hx
  split at hx
  · rename_i k _;have h1:=hf k (m0.rest.timers.getD k default);simp only[Except.ok.injEq]at hx;rw[hx]at h1;exact h1
  · cases hx
 unfold timerOp at h
 split at h
 · split at h
   · simp only[Except.ok.injEq,Prod.mk.injEq]at h;obtain⟨_,rfl⟩:=h;rfl
   · split at h
     · split at h
       · cases h
       · simp only[Except.ok.injEq,Prod.mk.injEq]at h;obtain⟨_,rfl⟩:=h;rfl
     · cases h
 · exact hnm _ _ _ _ _ h fun k t=>hre _ _ _ _ _
 · split at h
   · rename_i m1 ho;have:m1.world.drawn=m.world.drawn:=by
      unfold timerOp.opened at ho
      repeat' first|(cases ho;rfl)|(cases ho;done)|split at ho
     exact hnm _ _ _ _ _ h fun k t=>(hre _ _ _ _ _).trans this
   · cases h
 · simp only[Except.ok.injEq,Prod.mk.injEq]at h;obtain⟨_,rfl⟩:=h;rfl
theorem Uj (p:Program){d:Nat}{m:Machine}(k:Nat)(h:d≤m.world.drawn):SE d (serve p m k):=by
 unfold serve;simp only
 repeat' first|exact trivial|exact h|split
def ME (d:Nat):Move→Prop
 | .goroutine m _=>d≤m.world.drawn
 | .machine s _=>SE d s
theorem YK {α β:Type}{p:Program}{r:Sem α}{s:Sem β}{w0 w1 w2:World}{gs:Array Goroutine}{rest:Rest}{t:Nat}{k:α}{n:β}(h1:r.run p w0=.ok k w1)(h2:s.run p (Machine.advanceTo { world:=w1,gs,rest } t).world=.ok n w2):w0.drawn≤w2.drawn :=
 by have h3:=xO h2;exact Nat.le_trans (xO h1) h3
theorem iA (p:Program){d:Nat}{m:Machine}(h:d≤m.world.drawn):ME d (askOn p m):=by
 unfold askOn;simp only
 split
 · exact trivial
 · rename_i k w1 h1;have d1:=Nat.le_trans h (xO h1);clear h1 h
   split
   · exact Uj p _ d1
   · repeat' first
      | exact trivial
      | (simp only[ME,SE,Machine.advanceTo];first
       | exact d1
       | exact Nat.le_trans d1 (xO (by assumption))
       | exact Nat.le_trans d1 (YK (by assumption) (by assumption))
       | exact Nat.le_trans d1 (Nat.le_trans (YK (by assumption) (by assumption)) (xO (by assumption)))
       | exact Nat.le_trans d1 (Nat.le_trans (xO (by assumption)) (xO (by assumption)))
       | exact Nat.le_trans d1 (Nat.le_trans (xO (by assumption)) (Nat.le_trans (xO (by assumption)) (xO (by assumption)))))
      | split
theorem OX (p:Program){d:Nat}{m:Machine}(h:d≤m.world.drawn):ME d (ask p m):=by
 unfold ask
 split
 · split
   · exact trivial
   · rename_i w h1;have hl:=Xf p m.gs m.rest (Nat.le_trans h (xO h1))
     split
     · rename_i m' hm;rw[hm]at hl;exact iA p hl
     · exact hl
   · rename_i h1;exact iA p (Nat.le_trans h (xO h1))
 · exact iA p h
theorem RZ (p:Program){d:Nat}{m:Machine}(h:d≤m.world.drawn):ME d (move p m):=by
 unfold move
 repeat' first|exact trivial|exact h|exact OX p h|split
theorem Rz (p:Program)(m:Machine)(i:Nat)(b:Bool):SE m.world.drawn (runT p m i b).1:=by
 simp only[runT];generalize m.gs.swapAt! _ _=gg;have hg:=U4 p (i==0) gg.1 m.world b;generalize stepG p _ gg.1 m.world b=s at hg
 cases s with
 | ended o w es=>exact trivial
 | comm g cs bl sh w es=>exact kF _ _ _ _ _ _ _ _ hg
 | go g w es=>exact hg
 | spawn g c w es=>exact hg
 | count g w es=>simp only;split<;>first|exact trivial|exact hg
 | alone g on w es=>exact hg
 | collect g w es=>exact Xf _ _ _ hg
 | watch g w es=>exact hg
 | newcoro g c d w es=>exact hg
 | coroswitch g c e w es =>
  simp only
  repeat' first|exact trivial|exact hg|split
 | timer g op w es =>
  simp only
  split
  · rename_i ht;have:=VY ht;exact Nat.le_trans hg (Nat.le_of_eq this.symm)
  · repeat' first|exact trivial|exact hg|split
  · exact trivial
  · exact trivial
theorem Rq (p:Program)(m:Machine):SE m.world.drawn (step p m):=by
 unfold step stepT;have h:=RZ p (Nat.le_refl m.world.drawn)
 split
 · rename_i m' i hm;rw[hm]at h;have h2:=Rz p m' i true;generalize (runT p m' i true).1=s at h2
   cases s with
   | next m2=>exact Nat.le_trans h h2
   | ended o w=>exact trivial
 · rename_i hm;rw[hm]at h;exact h
theorem YL (p:Program):∀ (n:Nat) (m m':Machine),runN p n m=.next m'→m.world.drawn≤m'.world.drawn
 | 0,m,m',h=>by cases h;exact Nat.le_refl _
 | n+1,m,m',h=>by
  unfold runN at h;have hs:=Rq p m
  split at h
  · rename_i m1 h1;rw[h1]at hs;exact Nat.le_trans hs (YL p n m1 m' h)
  · rename_i hx;exact absurd h (hx m')
theorem cB {P:Program}{f:FuncId}{args:Array Value}{w:World}{Q:Ending→World→Prop}(h:Calls P f args w Q)(hQ:∀ e w',Q e w'→∃ v,e=.returned v):Calls P f args w fun e w'=>Q e w'∧w.drawn≤w'.drawn:=by
 intro cs;obtain⟨e,w',fr,h1,h2,h3,h4⟩:=h cs;refine⟨e,w',fr,⟨h1,?_⟩,h2,h3,h4⟩;obtain⟨v,rfl⟩:=hQ e w' h1;obtain⟨n,hn⟩:=h2;exact YL P n _ _ hn
end Go.Proofs.YtefkoljdebekdaaGreatDoor.Dr
/- What is shown by other means, more of it: answers stay. Conditions: those of each lemma. -/
namespace Go.Proofs.YtefkoljdebekdaaGreatDoor.E
open Go.Proofs.Tryz
variable {P:Program}
section
variable {pm:Nat→Nat→PM} {live outs:Nat→Nat→List Nat} {no no2 dr ow:Nat→Bool} {ext:Nat→List V→Option V} {extO extO2:Nat→List V→Heap→Option (V×Heap)} {gh:Nat→Nat→List Gh} {dm:Nat→Nat→Bool}
theorem jm (rec:Rec)(f:Nat)(N:Option Nat)(ops:Array Oper)(o:Oper)(e:Env)(h:Heap):uN P ⟨pm,live,outs,no,dr,ext,extO,ow,gh,dm⟩ rec f N ops o e h=uN P ⟨pm,live,outs,no2,dr,ext,extO2,ow,gh,dm⟩ rec f N ops o e h:=rfl
theorem lG (rec:Rec)(f:Nat)(N:Option Nat)(ops:Array Oper)(o:Oper)(e:Env)(h:Heap):wq P ⟨pm,live,outs,no,dr,ext,extO,ow,gh,dm⟩ rec f N ops o e h=wq P ⟨pm,live,outs,no2,dr,ext,extO2,ow,gh,dm⟩ rec f N ops o e h:=rfl
theorem jk (rec:Rec)(f:Nat)(ops:Array Oper):∀ (l:List Oper) (e:Env) (h:Heap),sK P ⟨pm,live,outs,no,dr,ext,extO,ow,gh,dm⟩ rec f ops l e h=sK P ⟨pm,live,outs,no2,dr,ext,extO2,ow,gh,dm⟩ rec f ops l e h
 | [],e,h=>rfl
 | o::l,e,h=>by
  simp only[sK,lG (no2:=no2) (extO2:=extO2) (no:=no) (extO:=extO)]
  cases wq P ⟨pm,live,outs,no2,dr,ext,extO2,ow,gh,dm⟩ rec f none ops o e h with
  | none=>rfl
  | some x=>exact jk rec f ops l x.1 x.2
theorem lE (rec:Rec)(f:Nat)(ops:Array Oper):∀ (l:List Oper) (e:Env) (h:Heap),wY P ⟨pm,live,outs,no,dr,ext,extO,ow,gh,dm⟩ rec f ops l e h=wY P ⟨pm,live,outs,no2,dr,ext,extO2,ow,gh,dm⟩ rec f ops l e h
 | [],e,h=>rfl
 | o::l,e,h=>by
  simp only[wY,jm (no2:=no2) (extO2:=extO2) (no:=no) (extO:=extO)]
  cases uN P ⟨pm,live,outs,no2,dr,ext,extO2,ow,gh,dm⟩ rec f none ops o e h with
  | none=>rfl
  | some x=>exact lE rec f ops l x.1 x.2
theorem aO (rec:Rec)(f:Nat)(ops:Array Oper):∀ (Ns:List (Option Nat)) (l:List Oper) (e:Env) (h:Heap),evD P ⟨pm,live,outs,no,dr,ext,extO,ow,gh,dm⟩ rec f ops Ns l e h=evD P ⟨pm,live,outs,no2,dr,ext,extO2,ow,gh,dm⟩ rec f ops Ns l e h
 | [],[],e,h=>rfl
 | [],_::_,e,h=>rfl
 | _::_,[],e,h=>rfl
 | N::Ns,o::l,e,h=>by
  simp only[evD,jm (no2:=no2) (extO2:=extO2) (no:=no) (extO:=extO)]
  cases uN P ⟨pm,live,outs,no2,dr,ext,extO2,ow,gh,dm⟩ rec f N ops o e h with
  | none=>rfl
  | some x=>simp only[aO rec f ops Ns l x.1 x.2]
theorem aL (rec:Rec)(f:Nat)(ops:Array Oper):∀ (Ns:List (Option Nat)) (l:List Oper) (e:Env) (h:Heap),evR P ⟨pm,live,outs,no,dr,ext,extO,ow,gh,dm⟩ rec f ops Ns l e h=evR P ⟨pm,live,outs,no2,dr,ext,extO2,ow,gh,dm⟩ rec f ops Ns l e h
 | _,[],e,h=>rfl
 | Ns,o::l,e,h=>by
  simp only[evR,lG (no2:=no2) (extO2:=extO2) (no:=no) (extO:=extO)]
  cases wq P ⟨pm,live,outs,no2,dr,ext,extO2,ow,gh,dm⟩ rec f (hdN Ns) ops o e h with
  | none=>rfl
  | some x=>simp only[aL rec f ops Ns.tail l x.1 x.2]
theorem mi (f:Nat):∀ (b:Nat) (l:List Oper),vW ⟨pm,live,outs,no,dr,ext,extO,ow,gh,dm⟩ f b l=vW ⟨pm,live,outs,no2,dr,ext,extO2,ow,gh,dm⟩ f b l
 | _,[]=>rfl
 | b,o::l=>by
  simp only[vW,show xE ⟨pm,live,outs,no,dr,ext,extO,ow,gh,dm⟩ f o=xE ⟨pm,live,outs,no2,dr,ext,extO2,ow,gh,dm⟩ f o from rfl,mi f (b+1) l,mi f b l]
theorem lJ (f:Nat):∀ (l:List Oper),wR ⟨pm,live,outs,no,dr,ext,extO,ow,gh,dm⟩ f l=wR ⟨pm,live,outs,no2,dr,ext,extO2,ow,gh,dm⟩ f l
 | []=>rfl
 | o::l=>by
  simp only[wR,show xE ⟨pm,live,outs,no,dr,ext,extO,ow,gh,dm⟩ f o=xE ⟨pm,live,outs,no2,dr,ext,extO2,ow,gh,dm⟩ f o from rfl,lJ f l]
theorem cx (rec:Rec)(f:Nat)(ops:Array Oper)(e:Env)(h:Heap):tj P ⟨pm,live,outs,no,dr,ext,extO,ow,gh,dm⟩ rec f ops e h=tj P ⟨pm,live,outs,no2,dr,ext,extO2,ow,gh,dm⟩ rec f ops e h:=by
 unfold tj;rw[aO (no2:=no2) (extO2:=extO2),mi (no2:=no2) (extO2:=extO2),lJ (no2:=no2) (extO2:=extO2)];rfl
theorem UK (rec:Rec)(f:Nat)(kp:Bool)(ops:Array Oper)(e:Env)(h:Heap):evZ P ⟨pm,live,outs,no,dr,ext,extO,ow,gh,dm⟩ rec f kp ops e h=evZ P ⟨pm,live,outs,no2,dr,ext,extO2,ow,gh,dm⟩ rec f kp ops e h:=by
 unfold evZ;rw[aL (no2:=no2) (extO2:=extO2)];rfl
theorem ug (rec:Rec)(f m:Nat):∀ (c:Code) (p:Nat) (e:Env) (h:Heap),evC P ⟨pm,live,outs,no,dr,ext,extO,ow,gh,dm⟩ rec f m c p e h=evC P ⟨pm,live,outs,no2,dr,ext,extO2,ow,gh,dm⟩ rec f m c p e h
 | .skip,p,e,h=>rfl
 | .exit _,p,e,h=>rfl
 | .ret,p,e,h=>rfl
 | .seq a b, p, e, h => by
  simp only[evC,ug rec f m a (2*p) e h]
  cases evC P ⟨pm,live,outs,no2,dr,ext,extO2,ow,gh,dm⟩ rec f m a (2*p) e h with
  | none=>rfl
  | some x =>
   obtain⟨x,e',h'⟩:=x
   cases x with
   | normal=>exact ug rec f m b (2*p+1) e' h'
   | _=>rfl
 | .cond c a b,p,e,h=>by simp only[evC,ug rec f m a (2*p) e h,ug rec f m b (2*p+1) e h]
 | .block id c,p,e,h=>by simp only[evC,ug rec f m c (2*p) e h]
 | .loop _,p,e,h=>rfl
 | .region id ops draw,p,e,h=>by
  simp only[evC,cx (no2:=no2) (extO2:=extO2) (no:=no) (extO:=extO),UK (no2:=no2) (extO2:=extO2) (no:=no) (extO:=extO),lE (no2:=no2) (extO2:=extO2) (no:=no) (extO:=extO),jk (no2:=no2) (extO2:=extO2) (no:=no) (extO:=extO)];rfl
 | .rangeFunc _ _ _ _,p,e,h=>rfl
 | .scope _,p,e,h=>rfl
 | .label _,p,e,h=>rfl
 | .goto _,p,e,h=>rfl
 | .refuse _,p,e,h=>rfl
theorem WW (hn : ∀ f, no2 f = true → no f = true) (hx : ∀ f, no f = true ∨ ∀ args h, extO2 f args h = extO f args h) (ho : ∀ f, no f = true → (∀ args h, extO2 f args h = extO f args h) ∨ ∀ args h, extO f args h = none) {rec rec2 : Rec} (hr : Le rec rec2) :
 Le (step P ⟨pm,live,outs,no,dr,ext,extO,ow,gh,dm⟩ rec) (step P ⟨pm,live,outs,no2,dr,ext,extO2,ow,gh,dm⟩ rec2):=by
 intro req r h;refine (qo req).mono rec rec2 hr r ?_
 cases req with
 | call f args hp =>
  simp only[step]at h ⊢
  cases hxx:ext f args with
  | some v=>rw[hxx]at h;exact h
  | none =>
   rw[hxx]at h;simp only at h ⊢
   cases hf:P.funcs[f]? with
   | none=>rw[hf]at h;cases h
   | some fn =>
    rw[hf]at h;simp only at h ⊢
    cases hb:fn.body with
    | none=>rw[hb]at h;cases h
    | some c =>
     rw[hb]at h;simp only at h ⊢
     split at h
     · cases h
     · rename_i hc;simp only[Bool.or_eq_true,not_or]at hc
       have hc2 : ¬ ((no2 f || fn.name == "runtime.NumGoroutine" || decide (fn.ntmps < args.length)) = true) := by
        simp only[Bool.or_eq_true,not_or];exact⟨⟨fun x=>hc.1.1 (hn f x),hc.1.2⟩,hc.2⟩
       rw[if_neg hc2,← ug (no:=no) (extO:=extO)];exact h
 | callO gv f args hp =>
  simp only[step]at h ⊢
  by_cases hsame:∀ args h,extO2 f args h=extO f args h
  · rw[hsame]
    cases hxx:extO f args hp with
    | some v=>rw[hxx]at h;exact h
    | none =>
     rw[hxx]at h;simp only at h ⊢
     cases hf:P.funcs[f]? with
     | none=>rw[hf]at h;cases h
     | some fn =>
      rw[hf]at h;simp only at h ⊢
      cases hb:fn.body with
      | none=>rw[hb]at h;cases h
      | some c =>
       rw[hb]at h;simp only at h ⊢
       split at h
       · cases h
       · rename_i hc;simp only[Bool.or_eq_true,not_or]at hc
         have hc2 : ¬ ((no2 f || fn.name == "runtime.NumGoroutine" || decide (fn.ntmps < args.length)) = true) := by
          simp only[Bool.or_eq_true,not_or];exact⟨⟨fun x=>hc.1.1 (hn f x),hc.1.2⟩,hc.2⟩
         rw[if_neg hc2,← ug (no:=no) (extO:=extO)];exact h
  · exfalso;have hno:no f=true:=(hx f).resolve_right hsame;have hnx:=(ho f hno).resolve_left hsame;rw[hnx]at h;simp only at h
    cases hf:P.funcs[f]? with
    | none=>rw[hf]at h;cases h
    | some fn =>
     rw[hf]at h;simp only at h
     cases hb:fn.body with
     | none=>rw[hb]at h;cases h
     | some c =>
      rw[hb]at h;simp only[hno,Bool.true_or,if_true]at h
      cases h
 | loop f p m vals hp =>
  simp only[step]at h ⊢
  cases hf:P.funcs[f]? with
  | none=>rw[hf]at h;cases h
  | some fn =>
   rw[hf]at h;simp only at h ⊢
   cases hb:fn.body with
   | none=>rw[hb]at h;cases h
   | some c =>
    rw[hb]at h;simp only at h ⊢
    split at h
    · rw[← ug (no:=no) (extO:=extO)];exact h
    · cases h
theorem Xz (hn:∀ f,no2 f=true→no f=true)(hx:∀ f,no f=true∨∀ args h,extO2 f args h=extO f args h)(ho:∀ f,no f=true→(∀ args h,extO2 f args h=extO f args h)∨∀ args h,extO f args h=none) :
 ∀ n,Le (it P ⟨pm,live,outs,no,dr,ext,extO,ow,gh,dm⟩ n) (it P ⟨pm,live,outs,no2,dr,ext,extO2,ow,gh,dm⟩ n)
 | 0=>fun req r h=>by cases h
 | n+1=>WW hn hx ho (Xz hn hx ho n)
end
theorem P0 {pol:Pol} {no2:Nat→Bool} {extO2:Nat→List V→Heap→Option (V×Heap)} (hn:∀ f,no2 f=true→pol.no f=true) (hx:∀ f,pol.no f=true∨∀ args h,extO2 f args h=pol.extO f args h) (ho:∀ f,pol.no f=true→(∀ args h,extO2 f args h=pol.extO f args h)∨∀ args h,pol.extO f args h=none)
 {req:Req} {r:xV} (h:EV P pol req=some r):EV P { pol with no:=no2,extO:=extO2 } req=some r:=by
 obtain⟨pm,live,outs,no,dr,ext,extO,ow,gh,dm⟩:=pol;obtain⟨n,hn'⟩:=WQ h;exact R9 (Xz hn hx ho n req r hn')
end Go.Proofs.YtefkoljdebekdaaGreatDoor.E

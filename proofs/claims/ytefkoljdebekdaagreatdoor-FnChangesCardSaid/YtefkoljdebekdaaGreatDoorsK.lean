/- Joined: J4 K4 K5 K6 A1 A3 I1 G1 I2 V3 K7 J5 M1 M2 M3 M4 M5 M6 M7 M8 M9 B1 K8 V4 K9 G3 V5 V6 V7. Conditions: those of each lemma. -/
import Derived.Test.YtefkoljdebekdaaGreatDoorsJ
import Derived.Test.YtefkoljdebekdaaGreatDoorsI
set_option linter.unusedVariables false
set_option linter.unusedSimpArgs false
set_option maxRecDepth 100000
set_option maxHeartbeats 40000000
namespace Go.Proofs.YtefkoljdebekdaaGreatDoor
open Go.Proofs.Tryz
open E
def smV (v:Ver):Prop:=v.pre.length≤6∧∀ s∈v.pre,s.length≤32
def VerR (bs:List Int)(c:Cs)(v:Ver)(c':Cs):Prop :=
 (v.pre=[]∧EV prog pol (.callO false 161 [.ptr 0 0 0] [cuR bs c])=some (.call (.agg [.t (.int .i64 v.maj),.t (.int .i64 v.min),.t (.int .i64 v.pat),.nil 1]) [cuR bs c'])) ∨
 ∃ cap,EV prog pol (.callO false 161 [.ptr 0 0 0] [cuR bs c])=some (.call (.agg [.t (.int .i64 v.maj),.t (.int .i64 v.min),.t (.int .i64 v.pat),.sl 1 0 v.pre.length cap]) [cuR bs c',.ts 1 (strs v.pre)])
theorem c_ver (bs:List Int)(hb:okB bs)(c:Cs)(hc:cok bs c):∃ (v:Ver) (c':Cs),smV v∧cok bs c'∧VerR bs c v c':=by
 obtain⟨a1,c1,_,h1,d1⟩:=qf bs hb c hc [0,1,1,2,10] 5 rfl (by decide) (by decide) (some 5);obtain⟨a2,c2,_,h2,d2⟩:=qf bs hb c1 h1 [0,0,1,2,12] 5 rfl (by decide) (by decide) (some 5);obtain⟨a3,c3,_,h3,d3⟩:=qf bs hb c2 h2 [0,0,1,3,9] 5 rfl (by decide) (by decide) (some 5);obtain⟨b1,c4,h4,d4⟩:=vR bs hb c3 h3 4 (by decide) (by decide);simp only[oY,List.map_cons,List.map_nil,Int.cast_ofNat_Int]at d1 d2 d3 d4
 cases b1 with
 | false =>
  obtain⟨k,y1,hk,hy1,e1⟩:=qu bs hb c4 h4 24 (by decide) (by decide);simp only[Int.cast_ofNat_Int]at e1;have hkc:k=0∨k=1∨k=2∨3≤k:=by omega
  rcases hkc with rfl|rfl|rfl|hk3
  · obtain⟨a,y2,_,hy2,e2⟩:=qf bs hb y1 hy1 [-1,999999999,1000000000] 3 rfl (by decide) (by decide) (some 3);simp only[oY,List.map_cons,List.map_nil,Int.natCast_zero,Int.natCast_one]at e1 e2;refine⟨⟨a1,a,a3,[]⟩,y2,⟨by simp,fun s hs=>?_⟩,hy2,?_⟩
    · simp only[List.mem_cons,List.not_mem_nil,or_false]at hs
    refine .inl ⟨rfl,?_⟩;clear hb h1 h2 h3;unfold cuR at *;refine zM func161 rfl (by kernel_rfl) ?_;unfold Tryz.f161;simp (disch:=(try simp only[LL]);omega) only[↓GO,↓DRW,GA,GX,ren,zj,za,refs,z7,cst,zm,isC,bin,una,z6,zd,blt,asArg,zg,zc,zf,z1,zn,unN,ze,zk,zb,GS,simprocAttr,GZ,d1,d2,d3,d4,e1,e2,zi,y6,zA]
    all_goals (repeat (refine zT (by kernel_rfl) ?_))
    all_goals (first|rfl|(simp (disch:=(try simp only[LL]);omega) only[↓GO,↓DRW,GA,GX,ren,zj,za,refs,z7,cst,zm,isC,bin,una,z6,zd,blt,asArg,zg,zc,zf,z1,zn,unN,ze,zk,zb,GS,simprocAttr,GZ,d1,d2,d3,d4,e1,e2,zi,y6,zA]))
  · obtain⟨s,y2,hs0,hy2,e2⟩:=uP bs hb y1 hy1 [[],[48,49],[97,95,98],[49,48,48,48,48,48,48,48,48,48],[97,98,99,100,101,102,103,104,105,106,107,108,109,110,111,112,113,114,115,116],[97,98,99,100,101,102,103,104,105,106,107,108,109,110,111,112,113,114,115,116,117]] 6 rfl (by decide) (by decide) (some 6);have hsl:s.length≤32:=by
     simp only[List.mem_cons,List.not_mem_nil,or_false]at hs0;rcases hs0 with rfl|rfl|rfl|rfl|rfl|rfl<;>decide
    clear hs0;simp only[strs,List.map_cons,List.map_nil,Int.natCast_zero,Int.natCast_one]at e1 e2;refine⟨⟨a1,a2,a3,[s]⟩,y2,⟨by simp,fun s hs=>?_⟩,hy2,?_⟩
    · simp only[List.mem_cons,List.not_mem_nil,or_false]at hs;rcases hs with rfl<;>first|assumption|decide
    refine .inr ⟨none,?_⟩;simp only[strs,List.map_cons,List.map_nil,List.length_cons,List.length_nil,Nat.zero_add,Nat.reduceAdd]at *;clear hb h1 h2 h3;unfold cuR at *;refine zM func161 rfl (by kernel_rfl) ?_;unfold Tryz.f161;simp (disch:=(try simp only[LL]);omega) only[↓GO,↓DRW,GA,GX,ren,zj,za,refs,z7,cst,zm,isC,bin,una,z6,zd,blt,asArg,zg,zc,zf,z1,zn,unN,ze,zk,zb,GS,simprocAttr,GZ,d1,d2,d3,d4,e1,e2,zi,y6,zA]
    all_goals (repeat (refine zT (by kernel_rfl) ?_))
    all_goals (first|rfl|(simp (disch:=(try simp only[LL]);omega) only[↓GO,↓DRW,GA,GX,ren,zj,za,refs,z7,cst,zm,isC,bin,una,z6,zd,blt,asArg,zg,zc,zf,z1,zn,unN,ze,zk,zb,GS,simprocAttr,GZ,d1,d2,d3,d4,e1,e2,zi,y6,zA]))
  · obtain⟨b,y2,hy2,e2⟩:=vR bs hb y1 hy1 2 (by decide) (by decide);simp only[Int.cast_ofNat_Int]at e1 e2
    cases b with
    | false =>
     refine⟨⟨a1,a2,a3,[[97],[98],[99],[100],[101]]⟩,y2,⟨by simp,fun s hs=>?_⟩,hy2,?_⟩
     · simp only[List.mem_cons,List.not_mem_nil,or_false]at hs;rcases hs with rfl|rfl|rfl|rfl|rfl<;>first|assumption|decide
     refine .inr ⟨some 5,?_⟩;simp only[strs,List.map_cons,List.map_nil,List.length_cons,List.length_nil,Nat.zero_add,Nat.reduceAdd]at *;clear hb h1 h2 h3;unfold cuR at *;refine zM func161 rfl (by kernel_rfl) ?_;unfold Tryz.f161;simp (disch:=(try simp only[LL]);omega) only[↓GO,↓DRW,GA,GX,ren,zj,za,refs,z7,cst,zm,isC,bin,una,z6,zd,blt,asArg,zg,zc,zf,z1,zn,unN,ze,zk,zb,GS,simprocAttr,GZ,d1,d2,d3,d4,e1,e2,zi,y6,zA]
     all_goals (repeat (refine zT (by kernel_rfl) ?_))
     all_goals (first|rfl|(simp (disch:=(try simp only[LL]);omega) only[↓GO,↓DRW,GA,GX,ren,zj,za,refs,z7,cst,zm,isC,bin,una,z6,zd,blt,asArg,zg,zc,zf,z1,zn,unN,ze,zk,zb,GS,simprocAttr,GZ,d1,d2,d3,d4,e1,e2,zi,y6,zA]))
    | true =>
     refine⟨⟨a1,a2,a3,[[97],[98],[99],[100],[101],[102]]⟩,y2,⟨by simp,fun s hs=>?_⟩,hy2,?_⟩
     · simp only[List.mem_cons,List.not_mem_nil,or_false]at hs;rcases hs with rfl|rfl|rfl|rfl|rfl|rfl<;>first|assumption|decide
     refine .inr ⟨none,?_⟩;simp only[strs,List.map_cons,List.map_nil,List.length_cons,List.length_nil,Nat.zero_add,Nat.reduceAdd]at *;clear hb h1 h2 h3;unfold cuR at *;refine zM func161 rfl (by kernel_rfl) ?_;unfold Tryz.f161;simp (disch:=(try simp only[LL]);omega) only[↓GO,↓DRW,GA,GX,ren,zj,za,refs,z7,cst,zm,isC,bin,una,z6,zd,blt,asArg,zg,zc,zf,z1,zn,unN,ze,zk,zb,GS,simprocAttr,GZ,d1,d2,d3,d4,e1,e2,zi,y6,zA]
     all_goals (repeat (refine zT (by kernel_rfl) ?_))
     all_goals (first|rfl|(simp (disch:=(try simp only[LL]);omega) only[↓GO,↓DRW,GA,GX,ren,zj,za,refs,z7,cst,zm,isC,bin,una,z6,zd,blt,asArg,zg,zc,zf,z1,zn,unN,ze,zk,zb,GS,simprocAttr,GZ,d1,d2,d3,d4,e1,e2,zi,y6,zA]))
  · have k0:((k:Int)==0)=false:=by rw[beq_eq_false_iff_ne];omega
    have k1:((k:Int)==1)=false:=by rw[beq_eq_false_iff_ne];omega
    have k2:((k:Int)==2)=false:=by rw[beq_eq_false_iff_ne];omega
    refine⟨⟨a1,a2,a3,[]⟩,y1,⟨by simp,fun s hs=>?_⟩,hy1,?_⟩
    · simp only[List.mem_cons,List.not_mem_nil,or_false]at hs
    refine .inl ⟨rfl,?_⟩;clear hb h1 h2 h3;unfold cuR at *;refine zM func161 rfl (by kernel_rfl) ?_;unfold Tryz.f161;simp (disch:=(try simp only[LL]);omega) only[↓GO,↓DRW,GA,GX,ren,zj,za,refs,z7,cst,zm,isC,bin,una,z6,zd,blt,asArg,zg,zc,zf,z1,zn,unN,ze,zk,zb,GS,simprocAttr,GZ,d1,d2,d3,d4,e1,k0,k1,k2,zi,y6,zA]
    all_goals (repeat (refine zT (by kernel_rfl) ?_))
    all_goals (first|rfl|(simp (disch:=(try simp only[LL]);omega) only[↓GO,↓DRW,GA,GX,ren,zj,za,refs,z7,cst,zm,isC,bin,una,z6,zd,blt,asArg,zg,zc,zf,z1,zn,unN,ze,zk,zb,GS,simprocAttr,GZ,d1,d2,d3,d4,e1,k0,k1,k2,zi,y6,zA]))
 | true =>
  obtain⟨s1,c5,hs1,h5,d5⟩:=uP bs hb c4 h4 [[114,99],[98,101,116,97],[49],[48],[120,45,121]] 5 rfl (by decide) (by decide) (some 5);have hl1:s1.length≤32:=by
   simp only[List.mem_cons,List.not_mem_nil,or_false]at hs1;rcases hs1 with rfl|rfl|rfl|rfl|rfl<;>decide
  clear hs1;obtain⟨b2,c6,h6,d6⟩:=vR bs hb c5 h5 2 (by decide) (by decide);simp only[strs,List.map_cons,List.map_nil,Int.cast_ofNat_Int]at d5 d6
  cases b2 with
  | false =>
   obtain⟨k,y1,hk,hy1,e1⟩:=qu bs hb c6 h6 24 (by decide) (by decide);simp only[Int.cast_ofNat_Int]at e1;have hkc:k=0∨k=1∨k=2∨3≤k:=by omega
   rcases hkc with rfl|rfl|rfl|hk3
   · obtain⟨a,y2,_,hy2,e2⟩:=qf bs hb y1 hy1 [-1,999999999,1000000000] 3 rfl (by decide) (by decide) (some 3);simp only[oY,List.map_cons,List.map_nil,Int.natCast_zero,Int.natCast_one]at e1 e2;refine⟨⟨a1,a,a3,[s1]⟩,y2,⟨by simp,fun s hs=>?_⟩,hy2,?_⟩
     · simp only[List.mem_cons,List.not_mem_nil,or_false]at hs;rcases hs with rfl<;>first|assumption|decide
     refine .inr ⟨some 1,?_⟩;simp only[strs,List.map_cons,List.map_nil,List.length_cons,List.length_nil,Nat.zero_add,Nat.reduceAdd]at *;clear hb h1 h2 h3 h4 h5;unfold cuR at *;refine zM func161 rfl (by kernel_rfl) ?_;unfold Tryz.f161;simp (disch:=(try simp only[LL]);omega) only[↓GO,↓DRW,GA,GX,ren,zj,za,refs,z7,cst,zm,isC,bin,una,z6,zd,blt,asArg,zg,zc,zf,z1,zn,unN,ze,zk,zb,GS,simprocAttr,GZ,d1,d2,d3,d4,d5,d6,e1,e2,zi,y6,zA]
     all_goals (repeat (refine zT (by kernel_rfl) ?_))
     all_goals (first|rfl|(simp (disch:=(try simp only[LL]);omega) only[↓GO,↓DRW,GA,GX,ren,zj,za,refs,z7,cst,zm,isC,bin,una,z6,zd,blt,asArg,zg,zc,zf,z1,zn,unN,ze,zk,zb,GS,simprocAttr,GZ,d1,d2,d3,d4,d5,d6,e1,e2,zi,y6,zA]))
   · obtain⟨s,y2,hs0,hy2,e2⟩:=uP bs hb y1 hy1 [[],[48,49],[97,95,98],[49,48,48,48,48,48,48,48,48,48],[97,98,99,100,101,102,103,104,105,106,107,108,109,110,111,112,113,114,115,116],[97,98,99,100,101,102,103,104,105,106,107,108,109,110,111,112,113,114,115,116,117]] 6 rfl (by decide) (by decide) (some 6);have hsl:s.length≤32:=by
      simp only[List.mem_cons,List.not_mem_nil,or_false]at hs0;rcases hs0 with rfl|rfl|rfl|rfl|rfl|rfl<;>decide
     clear hs0;simp only[strs,List.map_cons,List.map_nil,Int.natCast_zero,Int.natCast_one]at e1 e2;refine⟨⟨a1,a2,a3,[s1,s]⟩,y2,⟨by simp,fun s hs=>?_⟩,hy2,?_⟩
     · simp only[List.mem_cons,List.not_mem_nil,or_false]at hs;rcases hs with rfl|rfl<;>first|assumption|decide
     refine .inr ⟨none,?_⟩;simp only[strs,List.map_cons,List.map_nil,List.length_cons,List.length_nil,Nat.zero_add,Nat.reduceAdd]at *;clear hb h1 h2 h3 h4 h5;unfold cuR at *;refine zM func161 rfl (by kernel_rfl) ?_;unfold Tryz.f161;simp (disch:=(try simp only[LL]);omega) only[↓GO,↓DRW,GA,GX,ren,zj,za,refs,z7,cst,zm,isC,bin,una,z6,zd,blt,asArg,zg,zc,zf,z1,zn,unN,ze,zk,zb,GS,simprocAttr,GZ,d1,d2,d3,d4,d5,d6,e1,e2,zi,y6,zA]
     all_goals (repeat (refine zT (by kernel_rfl) ?_))
     all_goals (first|rfl|(simp (disch:=(try simp only[LL]);omega) only[↓GO,↓DRW,GA,GX,ren,zj,za,refs,z7,cst,zm,isC,bin,una,z6,zd,blt,asArg,zg,zc,zf,z1,zn,unN,ze,zk,zb,GS,simprocAttr,GZ,d1,d2,d3,d4,d5,d6,e1,e2,zi,y6,zA]))
   · obtain⟨b,y2,hy2,e2⟩:=vR bs hb y1 hy1 2 (by decide) (by decide);simp only[Int.cast_ofNat_Int]at e1 e2
     cases b with
     | false =>
      refine⟨⟨a1,a2,a3,[[97],[98],[99],[100],[101]]⟩,y2,⟨by simp,fun s hs=>?_⟩,hy2,?_⟩
      · simp only[List.mem_cons,List.not_mem_nil,or_false]at hs;rcases hs with rfl|rfl|rfl|rfl|rfl<;>first|assumption|decide
      refine .inr ⟨some 5,?_⟩;simp only[strs,List.map_cons,List.map_nil,List.length_cons,List.length_nil,Nat.zero_add,Nat.reduceAdd]at *;clear hb h1 h2 h3 h4 h5;unfold cuR at *;refine zM func161 rfl (by kernel_rfl) ?_;unfold Tryz.f161;simp (disch:=(try simp only[LL]);omega) only[↓GO,↓DRW,GA,GX,ren,zj,za,refs,z7,cst,zm,isC,bin,una,z6,zd,blt,asArg,zg,zc,zf,z1,zn,unN,ze,zk,zb,GS,simprocAttr,GZ,d1,d2,d3,d4,d5,d6,e1,e2,zi,y6,zA]
      all_goals (repeat (refine zT (by kernel_rfl) ?_))
      all_goals (first|rfl|(simp (disch:=(try simp only[LL]);omega) only[↓GO,↓DRW,GA,GX,ren,zj,za,refs,z7,cst,zm,isC,bin,una,z6,zd,blt,asArg,zg,zc,zf,z1,zn,unN,ze,zk,zb,GS,simprocAttr,GZ,d1,d2,d3,d4,d5,d6,e1,e2,zi,y6,zA]))
     | true =>
      refine⟨⟨a1,a2,a3,[[97],[98],[99],[100],[101],[102]]⟩,y2,⟨by simp,fun s hs=>?_⟩,hy2,?_⟩
      · simp only[List.mem_cons,List.not_mem_nil,or_false]at hs;rcases hs with rfl|rfl|rfl|rfl|rfl|rfl<;>first|assumption|decide
      refine .inr ⟨none,?_⟩;simp only[strs,List.map_cons,List.map_nil,List.length_cons,List.length_nil,Nat.zero_add,Nat.reduceAdd]at *;clear hb h1 h2 h3 h4 h5;unfold cuR at *;refine zM func161 rfl (by kernel_rfl) ?_;unfold Tryz.f161;simp (disch:=(try simp only[LL]);omega) only[↓GO,↓DRW,GA,GX,ren,zj,za,refs,z7,cst,zm,isC,bin,una,z6,zd,blt,asArg,zg,zc,zf,z1,zn,unN,ze,zk,zb,GS,simprocAttr,GZ,d1,d2,d3,d4,d5,d6,e1,e2,zi,y6,zA]
      all_goals (repeat (refine zT (by kernel_rfl) ?_))
      all_goals (first|rfl|(simp (disch:=(try simp only[LL]);omega) only[↓GO,↓DRW,GA,GX,ren,zj,za,refs,z7,cst,zm,isC,bin,una,z6,zd,blt,asArg,zg,zc,zf,z1,zn,unN,ze,zk,zb,GS,simprocAttr,GZ,d1,d2,d3,d4,d5,d6,e1,e2,zi,y6,zA]))
   · have k0:((k:Int)==0)=false:=by rw[beq_eq_false_iff_ne];omega
     have k1:((k:Int)==1)=false:=by rw[beq_eq_false_iff_ne];omega
     have k2:((k:Int)==2)=false:=by rw[beq_eq_false_iff_ne];omega
     refine⟨⟨a1,a2,a3,[s1]⟩,y1,⟨by simp,fun s hs=>?_⟩,hy1,?_⟩
     · simp only[List.mem_cons,List.not_mem_nil,or_false]at hs;rcases hs with rfl<;>first|assumption|decide
     refine .inr ⟨some 1,?_⟩;simp only[strs,List.map_cons,List.map_nil,List.length_cons,List.length_nil,Nat.zero_add,Nat.reduceAdd]at *;clear hb h1 h2 h3 h4 h5;unfold cuR at *;refine zM func161 rfl (by kernel_rfl) ?_;unfold Tryz.f161;simp (disch:=(try simp only[LL]);omega) only[↓GO,↓DRW,GA,GX,ren,zj,za,refs,z7,cst,zm,isC,bin,una,z6,zd,blt,asArg,zg,zc,zf,z1,zn,unN,ze,zk,zb,GS,simprocAttr,GZ,d1,d2,d3,d4,d5,d6,e1,k0,k1,k2,zi,y6,zA]
     all_goals (repeat (refine zT (by kernel_rfl) ?_))
     all_goals (first|rfl|(simp (disch:=(try simp only[LL]);omega) only[↓GO,↓DRW,GA,GX,ren,zj,za,refs,z7,cst,zm,isC,bin,una,z6,zd,blt,asArg,zg,zc,zf,z1,zn,unN,ze,zk,zb,GS,simprocAttr,GZ,d1,d2,d3,d4,d5,d6,e1,k0,k1,k2,zi,y6,zA]))
  | true =>
   obtain⟨s2,c7,hs2,h7,d7⟩:=uP bs hb c6 h6 [[49],[50],[49,48],[97]] 4 rfl (by decide) (by decide) (some 4);have hl2:s2.length≤32:=by
    simp only[List.mem_cons,List.not_mem_nil,or_false]at hs2;rcases hs2 with rfl|rfl|rfl|rfl<;>decide
   clear hs2;simp only[strs,List.map_cons,List.map_nil]at d7;obtain⟨k,y1,hk,hy1,e1⟩:=qu bs hb c7 h7 24 (by decide) (by decide);simp only[Int.cast_ofNat_Int]at e1;have hkc:k=0∨k=1∨k=2∨3≤k:=by omega
   rcases hkc with rfl|rfl|rfl|hk3
   · obtain⟨a,y2,_,hy2,e2⟩:=qf bs hb y1 hy1 [-1,999999999,1000000000] 3 rfl (by decide) (by decide) (some 3);simp only[oY,List.map_cons,List.map_nil,Int.natCast_zero,Int.natCast_one]at e1 e2;refine⟨⟨a1,a,a3,[s1,s2]⟩,y2,⟨by simp,fun s hs=>?_⟩,hy2,?_⟩
     · simp only[List.mem_cons,List.not_mem_nil,or_false]at hs;rcases hs with rfl|rfl<;>first|assumption|decide
     refine .inr ⟨none,?_⟩;simp only[strs,List.map_cons,List.map_nil,List.length_cons,List.length_nil,Nat.zero_add,Nat.reduceAdd]at *;clear hb h1 h2 h3 h4 h5 h6;unfold cuR at *;refine zM func161 rfl (by kernel_rfl) ?_;unfold Tryz.f161;simp (disch:=(try simp only[LL]);omega) only[↓GO,↓DRW,GA,GX,ren,zj,za,refs,z7,cst,zm,isC,bin,una,z6,zd,blt,asArg,zg,zc,zf,z1,zn,unN,ze,zk,zb,GS,simprocAttr,GZ,d1,d2,d3,d4,d5,d6,d7,e1,e2,zi,y6,zA]
     all_goals (repeat (refine zT (by kernel_rfl) ?_))
     all_goals (first|rfl|(simp (disch:=(try simp only[LL]);omega) only[↓GO,↓DRW,GA,GX,ren,zj,za,refs,z7,cst,zm,isC,bin,una,z6,zd,blt,asArg,zg,zc,zf,z1,zn,unN,ze,zk,zb,GS,simprocAttr,GZ,d1,d2,d3,d4,d5,d6,d7,e1,e2,zi,y6,zA]))
   · obtain⟨s,y2,hs0,hy2,e2⟩:=uP bs hb y1 hy1 [[],[48,49],[97,95,98],[49,48,48,48,48,48,48,48,48,48],[97,98,99,100,101,102,103,104,105,106,107,108,109,110,111,112,113,114,115,116],[97,98,99,100,101,102,103,104,105,106,107,108,109,110,111,112,113,114,115,116,117]] 6 rfl (by decide) (by decide) (some 6);have hsl:s.length≤32:=by
      simp only[List.mem_cons,List.not_mem_nil,or_false]at hs0;rcases hs0 with rfl|rfl|rfl|rfl|rfl|rfl<;>decide
     clear hs0;simp only[strs,List.map_cons,List.map_nil,Int.natCast_zero,Int.natCast_one]at e1 e2;refine⟨⟨a1,a2,a3,[s1,s2,s]⟩,y2,⟨by simp,fun s hs=>?_⟩,hy2,?_⟩
     · simp only[List.mem_cons,List.not_mem_nil,or_false]at hs;rcases hs with rfl|rfl|rfl<;>first|assumption|decide
     refine .inr ⟨none,?_⟩;simp only[strs,List.map_cons,List.map_nil,List.length_cons,List.length_nil,Nat.zero_add,Nat.reduceAdd]at *;clear hb h1 h2 h3 h4 h5 h6;unfold cuR at *;refine zM func161 rfl (by kernel_rfl) ?_;unfold Tryz.f161;simp (disch:=(try simp only[LL]);omega) only[↓GO,↓DRW,GA,GX,ren,zj,za,refs,z7,cst,zm,isC,bin,una,z6,zd,blt,asArg,zg,zc,zf,z1,zn,unN,ze,zk,zb,GS,simprocAttr,GZ,d1,d2,d3,d4,d5,d6,d7,e1,e2,zi,y6,zA]
     all_goals (repeat (refine zT (by kernel_rfl) ?_))
     all_goals (first|rfl|(simp (disch:=(try simp only[LL]);omega) only[↓GO,↓DRW,GA,GX,ren,zj,za,refs,z7,cst,zm,isC,bin,una,z6,zd,blt,asArg,zg,zc,zf,z1,zn,unN,ze,zk,zb,GS,simprocAttr,GZ,d1,d2,d3,d4,d5,d6,d7,e1,e2,zi,y6,zA]))
   · obtain⟨b,y2,hy2,e2⟩:=vR bs hb y1 hy1 2 (by decide) (by decide);simp only[Int.cast_ofNat_Int]at e1 e2
     cases b with
     | false =>
      refine⟨⟨a1,a2,a3,[[97],[98],[99],[100],[101]]⟩,y2,⟨by simp,fun s hs=>?_⟩,hy2,?_⟩
      · simp only[List.mem_cons,List.not_mem_nil,or_false]at hs;rcases hs with rfl|rfl|rfl|rfl|rfl<;>first|assumption|decide
      refine .inr ⟨some 5,?_⟩;simp only[strs,List.map_cons,List.map_nil,List.length_cons,List.length_nil,Nat.zero_add,Nat.reduceAdd]at *;clear hb h1 h2 h3 h4 h5 h6;unfold cuR at *;refine zM func161 rfl (by kernel_rfl) ?_;unfold Tryz.f161;simp (disch:=(try simp only[LL]);omega) only[↓GO,↓DRW,GA,GX,ren,zj,za,refs,z7,cst,zm,isC,bin,una,z6,zd,blt,asArg,zg,zc,zf,z1,zn,unN,ze,zk,zb,GS,simprocAttr,GZ,d1,d2,d3,d4,d5,d6,d7,e1,e2,zi,y6,zA]
      all_goals (repeat (refine zT (by kernel_rfl) ?_))
      all_goals (first|rfl|(simp (disch:=(try simp only[LL]);omega) only[↓GO,↓DRW,GA,GX,ren,zj,za,refs,z7,cst,zm,isC,bin,una,z6,zd,blt,asArg,zg,zc,zf,z1,zn,unN,ze,zk,zb,GS,simprocAttr,GZ,d1,d2,d3,d4,d5,d6,d7,e1,e2,zi,y6,zA]))
     | true =>
      refine⟨⟨a1,a2,a3,[[97],[98],[99],[100],[101],[102]]⟩,y2,⟨by simp,fun s hs=>?_⟩,hy2,?_⟩
      · simp only[List.mem_cons,List.not_mem_nil,or_false]at hs;rcases hs with rfl|rfl|rfl|rfl|rfl|rfl<;>first|assumption|decide
      refine .inr ⟨none,?_⟩;simp only[strs,List.map_cons,List.map_nil,List.length_cons,List.length_nil,Nat.zero_add,Nat.reduceAdd]at *;clear hb h1 h2 h3 h4 h5 h6;unfold cuR at *;refine zM func161 rfl (by kernel_rfl) ?_;unfold Tryz.f161;simp (disch:=(try simp only[LL]);omega) only[↓GO,↓DRW,GA,GX,ren,zj,za,refs,z7,cst,zm,isC,bin,una,z6,zd,blt,asArg,zg,zc,zf,z1,zn,unN,ze,zk,zb,GS,simprocAttr,GZ,d1,d2,d3,d4,d5,d6,d7,e1,e2,zi,y6,zA]
      all_goals (repeat (refine zT (by kernel_rfl) ?_))
      all_goals (first|rfl|(simp (disch:=(try simp only[LL]);omega) only[↓GO,↓DRW,GA,GX,ren,zj,za,refs,z7,cst,zm,isC,bin,una,z6,zd,blt,asArg,zg,zc,zf,z1,zn,unN,ze,zk,zb,GS,simprocAttr,GZ,d1,d2,d3,d4,d5,d6,d7,e1,e2,zi,y6,zA]))
   · have k0:((k:Int)==0)=false:=by rw[beq_eq_false_iff_ne];omega
     have k1:((k:Int)==1)=false:=by rw[beq_eq_false_iff_ne];omega
     have k2:((k:Int)==2)=false:=by rw[beq_eq_false_iff_ne];omega
     refine⟨⟨a1,a2,a3,[s1,s2]⟩,y1,⟨by simp,fun s hs=>?_⟩,hy1,?_⟩
     · simp only[List.mem_cons,List.not_mem_nil,or_false]at hs;rcases hs with rfl|rfl<;>first|assumption|decide
     refine .inr ⟨none,?_⟩;simp only[strs,List.map_cons,List.map_nil,List.length_cons,List.length_nil,Nat.zero_add,Nat.reduceAdd]at *;clear hb h1 h2 h3 h4 h5 h6;unfold cuR at *;refine zM func161 rfl (by kernel_rfl) ?_;unfold Tryz.f161;simp (disch:=(try simp only[LL]);omega) only[↓GO,↓DRW,GA,GX,ren,zj,za,refs,z7,cst,zm,isC,bin,una,z6,zd,blt,asArg,zg,zc,zf,z1,zn,unN,ze,zk,zb,GS,simprocAttr,GZ,d1,d2,d3,d4,d5,d6,d7,e1,k0,k1,k2,zi,y6,zA]
     all_goals (repeat (refine zT (by kernel_rfl) ?_))
     all_goals (first|rfl|(simp (disch:=(try simp only[LL]);omega) only[↓GO,↓DRW,GA,GX,ren,zj,za,refs,z7,cst,zm,isC,bin,una,z6,zd,blt,asArg,zg,zc,zf,z1,zn,unN,ze,zk,zb,GS,simprocAttr,GZ,d1,d2,d3,d4,d5,d6,d7,e1,k0,k1,k2,zi,y6,zA]))
theorem Q4 {v:Ver}(h:smV v):v.sm:=by
 obtain⟨h1,h2⟩:=h;have key:∀ l:List Str,(∀ s∈l,s.length≤32)→yc l≤32*l.length:=fun l=>by
  induction l with
  | nil=>intro _;exact Nat.le_refl _
  | cons x r ih =>
   intro hx;have a:=ih fun s hs=>hx s (by simp[hs])
   have b:=hx x (by simp);have e:yc (x::r)=x.length+yc r:=rfl;rw[e,List.length_cons];omega
 have:=key v.pre h2;unfold Ver.sm;omega
theorem eK {v:Ver}(h:smV v):(y7 v).length≤300:=by
 unfold y7
 cases hv:yW v with
 | false=>simp
 | true =>
  rw[cond_true];have a:=bD hv;have b:=jZ (uU v) v.pre;obtain⟨h1,h2⟩:=h;have key:∀ l:List Str,(∀ s∈l,s.length≤32)→yc l≤32*l.length:=fun l=>by
   induction l with
   | nil=>intro _;exact Nat.le_refl _
   | cons x r ih =>
    intro hx;have a:=ih fun s hs=>hx s (by simp[hs])
    have b:=hx x (by simp);have e:yc (x::r)=x.length+yc r:=rfl;rw[e,List.length_cons];omega
  have:=key v.pre h2;omega
theorem fW (bs:List Int)(hb:okB bs)(c:Cs)(hc:cok bs c):∃ (s:Str) (c':Cs),s.length≤300∧cok bs c'∧EV prog pol (.callO false 96 [.ptr 0 0 0] [cuR bs c])=some (.call (.t (.str s)) [cuR bs c']):=by
 obtain⟨v,c',hv,hc',d⟩:=c_ver bs hb c hc;have d2:=jk v (Q4 hv);have hl:=eK hv;refine⟨cond (y7 v==[]) [49,46,48,46,48] (y7 v),c',?_,hc',?_⟩
 · cases y7 v==[] with
   | true=>exact (by decide:([49,46,48,46,48]:List UInt8).length≤300)
   | false=>exact hl
 have ht:(strs v.pre).take v.pre.length=strs v.pre:=by rw[← zo v.pre];simp
 unfold VerR at d;obtain⟨maj,min,pat,pre⟩:=v;simp only[Ver.enc,List.map_cons,List.map_nil]at d d2 ht ⊢;generalize y7 ⟨maj,min,pat,pre⟩=s at *;unfold cuR at *;rcases d with⟨rfl,d⟩|⟨cap,d⟩
 · simp only[show strs []=[] from rfl]at d2
   cases q:(s==[]) with
   | true =>
    refine zM func96 rfl (by kernel_rfl) ?_;unfold Tryz.f96;simp (disch:=(try simp only[LL]);omega) only[↓GO,↓DRW,GA,GX,ren,zj,za,refs,z7,cst,zm,isC,bin,una,z6,zd,blt,asArg,zg,zc,zf,z1,zn,unN,ze,zk,zb,GS,simprocAttr,GZ,d,d2,q,zA]
   | false =>
    refine zM func96 rfl (by kernel_rfl) ?_;unfold Tryz.f96;simp (disch:=(try simp only[LL]);omega) only[↓GO,↓DRW,GA,GX,ren,zj,za,refs,z7,cst,zm,isC,bin,una,z6,zd,blt,asArg,zg,zc,zf,z1,zn,unN,ze,zk,zb,GS,simprocAttr,GZ,d,d2,q,zA]
 · generalize strs pre=E0 at *
   cases q:(s==[]) with
   | true =>
    refine zM func96 rfl (by kernel_rfl) ?_;unfold Tryz.f96;simp (disch:=(try simp only[LL]);omega) only[↓GO,↓DRW,GA,GX,ren,zj,za,refs,z7,cst,zm,isC,bin,una,z6,zd,blt,asArg,zg,zc,zf,z1,zn,unN,ze,zk,zb,GS,simprocAttr,GZ,d,d2,q,ht,zA]
   | false =>
    refine zM func96 rfl (by kernel_rfl) ?_;unfold Tryz.f96;simp (disch:=(try simp only[LL]);omega) only[↓GO,↓DRW,GA,GX,ren,zj,za,refs,z7,cst,zm,isC,bin,una,z6,zd,blt,asArg,zg,zc,zf,z1,zn,unN,ze,zk,zb,GS,simprocAttr,GZ,d,d2,q,ht,zA]
theorem Zp (a b c:Int):Ver.sm ⟨a,b,c,[[48]]⟩:=by simp[Ver.sm,yc]
theorem c_zpI (a b c:Int):zr (EV prog pol) 210 [.t (.int .i64 a),.t (.int .i64 b),.t (.int .i64 c)]=some (.t (.str (wj a b c))):=by
 have h:=oE ⟨a,b,c,[[48]]⟩ (Zp a b c);simp only[Ver.enc,List.map_cons,List.map_nil,uu,yk]at h;unfold wj;apply zu;refine zx rfl func210 rfl (by kernel_rfl) ?_;unfold Tryz.f210;simp (disch:=(try simp only[LL]);omega) only[↓GO,↓DRW,GA,GX,ren,zj,za,refs,z7,cst,zm,isC,bin,una,z6,zd,blt,asArg,zg,zc,zf,z1,zn,unN,ze,zk,zb,GS,simprocAttr,GZ,h]
theorem SQ (v:Ver)(hs:v.sm)(hp:v.pre.length+yc v.pre≤2097150)(h0 : -1≤v.pat)(h1:v.pat≤999999999):zr (EV prog pol) 200 [.agg (v.enc.map .t)]=some (.agg [.t (.str (y7 v)),.t (.str (jE v))]):=by
 have a1:=c_zpI v.maj v.min (v.pat+1);have a2:=oE v hs;have hpv:(qK v).sm:=by
  unfold Ver.sm qK;simp only[List.length_append,List.length_cons,List.length_nil,jm,yc];omega
 have a3:=oE (qK v) hpv;unfold Ver.sm at hs;have a4:=jl (strs v.pre) (by rw[zo];omega);have ht:List.take (v.pre.length+1) (strs v.pre++[[T.str [48]]])=strs v.pre++[[T.str [48]]]:=List.take_of_length_le (by simp[zo]);have hg:=Z4 v.pre;unfold jE;rw[show (qK v).enc=[.int .i64 v.maj,.int .i64 v.min,.int .i64 v.pat,.list 1 (strs v.pre++[[.str [48]]])] by unfold Ver.enc qK;rw[pU];rfl]at a3;simp only[Ver.enc,List.map_cons,List.map_nil]at a2 a3 ⊢;rw[zo]at a4;generalize y7 (qK v)=tp at *;generalize y7 v=tv at *;generalize wj v.maj v.min (v.pat+1)=tz at *
 cases hb:(v.pre==[])<;>rw[hb]at hg<;>simp only[Bool.not_true,Bool.not_false]at hg
 · apply zu;refine zx rfl func200 rfl (by kernel_rfl) ?_;unfold Tryz.f200;simp (disch:=(try simp only[LL]);omega) only[↓GO,↓DRW,GA,GX,ren,zj,za,refs,z7,cst,zm,isC,bin,una,z6,zd,blt,asArg,zg,zc,zf,z1,zn,unN,ze,zk,zb,GS,simprocAttr,GZ,a1,a2,a3,a4,ht,hg,zi,zo,y6,zA]
 · apply zu;refine zx rfl func200 rfl (by kernel_rfl) ?_;unfold Tryz.f200;simp (disch:=(try simp only[LL]);omega) only[↓GO,↓DRW,GA,GX,ren,zj,za,refs,z7,cst,zm,isC,bin,una,z6,zd,blt,asArg,zg,zc,zf,z1,zn,unN,ze,zk,zb,GS,simprocAttr,GZ,a1,a2,a3,a4,ht,hg,zi,zo,y6,zA]
def exT (s:Str):List (List T):=match wE s with
 | some (l,h)=>[[.str l,.str h]]
 | none=>[]
theorem eP (s:Str)(hl:s.length≤1048700):(zJ s).1.pre.length+yc (zJ s).1.pre≤1048701:=by
 unfold zJ
 cases hm:vQ s with
 | none=>simp[Ver.zero,yc]
 | some v =>
  have h:v.pre.length+yc v.pre≤1048701:=by
   unfold vQ at hm
   split at hm
   · cases hm;have:=vL 46 (yi 45 s).2.1;have h5:=(oC 45 s).2
     cases (yi 45 s).2.2 with
     | true=>simp only[cond_true];omega
     | false=>simp[yc]
   · cases hm
  simp only
  cases (y7 v==s) with
  | true=>exact h
  | false=>simp[Ver.zero,yc]
theorem c_exI (s:Str)(hl:s.length≤1048700):zr (EV prog pol) 151 [.t (.str s)]=some (.t (.list 2 (exT s))):=by
 have h1:=Xl s hl;obtain⟨m1,m2,m3,m4,m5,m6,m7⟩:=wu s hl;have hp:=eP s hl;have h2:=SQ (zJ s).1 m1 (by omega) m7 m6;unfold exT wE;unfold rvT at h1
 cases hk:(zJ s).2 with
 | false =>
  rw[hk]at h1;generalize (zJ s).1=v at *;generalize y7 v=tv at *;generalize jE v=hv at *;simp only[Ver.enc,List.map_cons,List.map_nil]at h1 h2 ⊢;apply zu;refine zx rfl func151 rfl (by kernel_rfl) ?_;unfold Tryz.f151;simp (disch:=(try simp only[LL]);omega) only[↓GO,↓DRW,GA,GX,ren,zj,za,refs,z7,cst,zm,isC,bin,una,z6,zd,blt,asArg,zg,zc,zf,z1,zn,unN,ze,zk,zb,GS,simprocAttr,GZ,h1,h2]
 | true =>
  have ht:=(xf hk).2.1;rw[ht]at h2;rw[hk]at h1;generalize (zJ s).1=v at *;generalize jE v=hv at *;simp only[Ver.enc,List.map_cons,List.map_nil]at h1 h2 ⊢
  cases he:(hv==[])
  · apply zu;refine zx rfl func151 rfl (by kernel_rfl) ?_;unfold Tryz.f151;simp (disch:=(try simp only[LL]);omega) only[↓GO,↓DRW,GA,GX,ren,zj,za,refs,z7,cst,zm,isC,bin,una,z6,zd,blt,asArg,zg,zc,zf,z1,zn,unN,ze,zk,zb,GS,simprocAttr,GZ,h1,h2,he]
  · apply zu;refine zx rfl func151 rfl (by kernel_rfl) ?_;unfold Tryz.f151;simp (disch:=(try simp only[LL]);omega) only[↓GO,↓DRW,GA,GX,ren,zj,za,refs,z7,cst,zm,isC,bin,una,z6,zd,blt,asArg,zg,zc,zf,z1,zn,unN,ze,zk,zb,GS,simprocAttr,GZ,h1,h2,he]
theorem mb (a b:Int):zr (EV prog pol) 184 [.t (.int .i64 a),.t (.int .i64 b)]=some (.t (.int .i64 (xe a b))):=by
 unfold xe
 cases h1:decide (a<b)<;>cases h2:decide (a > b)
 all_goals
  apply zu;refine zx rfl func184 rfl (by kernel_rfl) ?_;unfold Tryz.f184;simp (disch:=(try simp only[LL]);omega) only[↓GO,↓DRW,GA,GX,ren,zj,za,refs,z7,cst,zm,isC,bin,una,z6,zd,blt,asArg,zg,zc,zf,z1,zn,unN,ze,zk,zb,GS,simprocAttr,GZ,h1,h2]
theorem Sz (a b:Str):zr (EV prog pol) 220 [.t (.str a),.t (.str b)]=some (.t (.int .i64 (qN a b))):=by
 unfold qN
 cases h1:Op.bytesLess a b<;>cases h2:(a==b)
 all_goals
  apply zu;refine zx rfl func220 rfl (by kernel_rfl) ?_;unfold Tryz.f220;simp (disch:=(try simp only[LL]);omega) only[↓GO,↓DRW,GA,GX,ren,zj,za,refs,z7,cst,zm,isC,bin,una,z6,zd,blt,asArg,zg,zc,zf,z1,zn,unN,ze,zk,zb,GS,simprocAttr,GZ,h1,h2]
theorem QB (a b:Str)(ha:a.length≤4194304)(hb:b.length≤4194304):zr (EV prog pol) 185 [.t (.str a),.t (.str b)]=some (.t (.int .i64 (tg a b))):=by
 have d1:=fl a (by omega);have d2:=fl b (by omega);have d3:=mb (zN a) (zN b);have d4:=Sz a b;unfold tg;generalize zN a=ra at *;generalize zN b=rb at *
 cases h1:decide (ra≥0)<;>cases h2:decide (rb≥0)
 all_goals
  apply zu;refine zx rfl func185 rfl (by kernel_rfl) ?_;unfold Tryz.f185;simp (disch:=(try simp only[LL]);omega) only[↓GO,↓DRW,GA,GX,ren,zj,za,refs,z7,cst,zm,isC,bin,una,z6,zd,blt,asArg,zg,zc,zf,z1,zn,unN,ze,zk,zb,GS,simprocAttr,GZ,d1,d2,d3,d4,h1,h2]
theorem Qj (x1 x2 x3 x4 y1 y2 y3 y4:T)(a b c:Int) :
 EV prog pol (.loop 124 58 0 [.ptr 0 0 0,.ptr 1 0 0,.sl 2 0 3 (some 3),.t (.int .i64 0)] [.vs 4 [[.t x1,.t x2,.t x3,.t x4]],.vs 4 [[.t y1,.t y2,.t y3,.t y4]],.ts 1 [[.int .i64 a],[.int .i64 b],[.int .i64 c]]])
 = some (cond (a==0) (cond (b==0) (cond (c==0) (.loop (.exit 0) [.ptr 0 0 0,.ptr 1 0 0,.bad] [.vs 4 [[.t x1,.t x2,.t x3,.t x4]],.vs 4 [[.t y1,.t y2,.t y3,.t y4]]])
  (.loop .ret [.ptr 0 0 0,.ptr 1 0 0,.t (.int .i64 c)] [.vs 4 [[.t x1,.t x2,.t x3,.t x4]],.vs 4 [[.t y1,.t y2,.t y3,.t y4]]]))
  (.loop .ret [.ptr 0 0 0,.ptr 1 0 0,.t (.int .i64 b)] [.vs 4 [[.t x1,.t x2,.t x3,.t x4]],.vs 4 [[.t y1,.t y2,.t y3,.t y4]]]))
  (.loop .ret [.ptr 0 0 0,.ptr 1 0 0,.t (.int .i64 a)] [.vs 4 [[.t x1,.t x2,.t x3,.t x4]],.vs 4 [[.t y1,.t y2,.t y3,.t y4]]])):=by
 cases h1:(a==0)
 · refine zh func124 rfl rfl ?_;simp (disch:=(try simp only[LL]);omega) only[↓GO,↓DRW,GA,GX,ren,zj,za,refs,z7,cst,zm,isC,bin,una,z6,zd,blt,asArg,zg,zc,zf,z1,zn,unN,ze,zk,zb,GS,simprocAttr,GZ,h1,bne,zi,zA]
 · refine zh func124 rfl rfl ?_;simp (disch:=(try simp only[LL]);omega) only[↓GO,↓DRW,GA,GX,ren,zj,za,refs,z7,cst,zm,isC,bin,una,z6,zd,blt,asArg,zg,zc,zf,z1,zn,unN,ze,zk,zb,GS,simprocAttr,GZ,h1,bne,zi,zA,Int.zero_add]
   cases h2:(b==0)
   · refine zh func124 rfl rfl ?_;simp (disch:=(try simp only[LL]);omega) only[↓GO,↓DRW,GA,GX,ren,zj,za,refs,z7,cst,zm,isC,bin,una,z6,zd,blt,asArg,zg,zc,zf,z1,zn,unN,ze,zk,zb,GS,simprocAttr,GZ,h2,bne,zi,zA]
   · refine zh func124 rfl rfl ?_;simp (disch:=(try simp only[LL]);omega) only[↓GO,↓DRW,GA,GX,ren,zj,za,refs,z7,cst,zm,isC,bin,una,z6,zd,blt,asArg,zg,zc,zf,z1,zn,unN,ze,zk,zb,GS,simprocAttr,GZ,h2,bne,zi,zA,Int.reduceAdd]
     cases h3:(c==0)
     · refine zh func124 rfl rfl ?_;simp (disch:=(try simp only[LL]);omega) only[↓GO,↓DRW,GA,GX,ren,zj,za,refs,z7,cst,zm,isC,bin,una,z6,zd,blt,asArg,zg,zc,zf,z1,zn,unN,ze,zk,zb,GS,simprocAttr,GZ,h3,bne,zi,zA]
     · refine zh func124 rfl rfl ?_;simp (disch:=(try simp only[LL]);omega) only[↓GO,↓DRW,GA,GX,ren,zj,za,refs,z7,cst,zm,isC,bin,una,z6,zd,blt,asArg,zg,zc,zf,z1,zn,unN,ze,zk,zb,GS,simprocAttr,GZ,h3,bne,zi,zA,Int.reduceAdd];refine zh func124 rfl rfl ?_;simp (disch:=(try simp only[LL]);omega) only[↓GO,↓DRW,GA,GX,ren,zj,za,refs,z7,cst,zm,isC,bin,una,z6,zd,blt,asArg,zg,zc,zf,z1,zn,unN,ze,zk,zb,GS,simprocAttr,GZ,zi,zA]
theorem Uu (a b:Ver)(ha:a.sm)(hb:b.sm):∀ (ra rb pa pb:List Str),a.pre=pa++ra→b.pre=pb++rb→pa.length=pb.length →
 EV prog pol (.loop 124 250 0 [.ptr 0 0 0,.ptr 1 0 0,.t (.int .i64 (pa.length:Int))] [.vs 4 [a.enc.map .t],.vs 4 [b.enc.map .t]])
 = some (match tk ra rb with
  | some n=>.loop .ret [.ptr 0 0 0,.ptr 1 0 0,.t (.int .i64 n)] [.vs 4 [a.enc.map .t],.vs 4 [b.enc.map .t]]
  | none=>.loop (.exit 2) [.ptr 0 0 0,.ptr 1 0 0,.bad] [.vs 4 [a.enc.map .t],.vs 4 [b.enc.map .t]])
 | [],rb,pa,pb,h1,h2,h3=>by
  have c:decide ((pa.length:Int)<(a.pre.length:Int))=false:=by simp[h1]
  simp only[Ver.enc,List.map_cons,List.map_nil,tk];refine zh func124 rfl rfl ?_;simp (disch:=(try simp only[LL]);omega) only[↓GO,↓DRW,GA,GX,ren,zj,za,refs,z7,cst,zm,isC,bin,una,z6,zd,blt,asArg,zg,zc,zf,z1,zn,unN,ze,zk,zb,GS,simprocAttr,GZ,zo,c,zA]
 | x::ra,[],pa,pb,h1,h2,h3=>by
  have c:decide ((pa.length:Int)<(a.pre.length:Int))=true:=by simp[h1];omega
  have c2:decide ((pa.length:Int)<(b.pre.length:Int))=false:=by simp[h2];omega
  simp only[Ver.enc,List.map_cons,List.map_nil,tk];refine zh func124 rfl rfl ?_;simp (disch:=(try simp only[LL]);omega) only[↓GO,↓DRW,GA,GX,ren,zj,za,refs,z7,cst,zm,isC,bin,una,z6,zd,blt,asArg,zg,zc,zf,z1,zn,unN,ze,zk,zb,GS,simprocAttr,GZ,zo,c,c2,zA]
 | x::ra,y::rb,pa,pb,h1,h2,h3=>by
  unfold Ver.sm at ha hb;have c:decide ((pa.length:Int)<(a.pre.length:Int))=true:=by simp[h1];omega
  have c2:decide ((pa.length:Int)<(b.pre.length:Int))=true:=by simp[h2];omega
  have hg1:(strs a.pre)[pa.length]? = some [.str x]:=by rw[h1];exact wA pa x ra
  have hg2:(strs b.pre)[pa.length]? = some [.str y]:=by rw[h2,h3];exact wA pb y rb
  have hlen:pa.length+ra.length+1≤a.pre.length:=by rw[h1];simp;omega
  have hx:x.length≤2097152:=by have:=vq (ks:=a.pre) (s:=x) (by rw[h1];simp);omega
  have hy:y.length≤2097152:=by have:=vq (ks:=b.pre) (s:=y) (by rw[h2];simp);omega
  have hp:=QB x y (by omega) (by omega);have IH:=Uu a b ha hb ra rb (pa++[x]) (pb++[y]) (by rw[h1];simp) (by rw[h2];simp) (by simp[h3]);rw[show ((pa++[x]).length:Int)=(pa.length:Int)+1 by simp]at IH;clear h1 h2;simp only[Ver.enc,List.map_cons,List.map_nil]at IH ⊢;rw[tk];generalize tg x y=n at *
  cases hn:(n==0)
  · simp only[cond_false];refine zh func124 rfl rfl ?_;simp (disch:=(try simp only[LL]);omega) only[↓GO,↓DRW,GA,GX,ren,zj,za,refs,z7,cst,zm,isC,bin,una,z6,zd,blt,asArg,zg,zc,zf,z1,zn,unN,ze,zk,zb,GS,simprocAttr,GZ,zo,c,c2,hg1,hg2,hp,hn,bne,zi,zA]
  · simp only[cond_true];refine zh func124 rfl rfl ?_;simp (disch:=(try simp only[LL]);omega) only[↓GO,↓DRW,GA,GX,ren,zj,za,refs,z7,cst,zm,isC,bin,una,z6,zd,blt,asArg,zg,zc,zf,z1,zn,unN,ze,zk,zb,GS,simprocAttr,GZ,zo,c,c2,hg1,hg2,hp,hn,bne,zi,zA,IH]
theorem Zh (a b : Ver) (ha : a.sm) (hb : b.sm) : zr (EV prog pol) 124 [.agg (a.enc.map .t), .agg (b.enc.map .t)] = some (.t (.int .i64 (kG a b))) := by
 have d1:=mb a.maj b.maj;have d2:=mb a.min b.min;have d3:=mb a.pat b.pat;have d4:=mb (b.pre.length:Int) (a.pre.length:Int);have d5:=mb (a.pre.length:Int) (b.pre.length:Int);have L2:=Uu a b ha hb a.pre b.pre [] [] rfl rfl rfl;have L1:=Qj (.int .i64 a.maj) (.int .i64 a.min) (.int .i64 a.pat) (.list 1 (strs a.pre)) (.int .i64 b.maj) (.int .i64 b.min) (.int .i64 b.pat) (.list 1 (strs b.pre)) (xe a.maj b.maj) (xe a.min b.min) (xe a.pat b.pat);have e1:=qh a.pre;have e2:=qh b.pre;unfold kG ua;simp only[List.length_nil,Int.natCast_zero]at L2;simp only[Ver.enc,List.map_cons,List.map_nil]at L1 L2 ⊢;generalize xe a.maj b.maj=n1 at *;generalize xe a.min b.min=n2 at *;generalize xe a.pat b.pat=n3 at *
 cases h1:(n1==0)<;>rw[h1]at L1
 · simp only[cond_false]at L1;apply zu;refine zx rfl func124 rfl (by kernel_rfl) ?_;unfold Tryz.f124;simp (disch:=(try simp only[LL]);omega) only[↓GO,↓DRW,GA,GX,ren,zj,za,refs,z7,cst,zm,isC,bin,una,z6,zd,blt,asArg,zg,zc,zf,z1,zn,unN,ze,zk,zb,GS,simprocAttr,GZ,d1,d2,d3,L1,zA];refine zT (by kernel_rfl) ?_;simp (disch:=(try simp only[LL]);omega) only[↓GO,↓DRW,GA,GX,ren,zj,za,refs,z7,cst,zm,isC,bin,una,z6,zd,blt,asArg,zg,zc,zf,z1,zn,unN,ze,zk,zb,GS,simprocAttr,GZ,d1,d2,d3,L1,zA]
 · cases h2:(n2==0)<;>rw[h2]at L1
   · simp only[cond_false,cond_true]at L1;apply zu;refine zx rfl func124 rfl (by kernel_rfl) ?_;unfold Tryz.f124;simp (disch:=(try simp only[LL]);omega) only[↓GO,↓DRW,GA,GX,ren,zj,za,refs,z7,cst,zm,isC,bin,una,z6,zd,blt,asArg,zg,zc,zf,z1,zn,unN,ze,zk,zb,GS,simprocAttr,GZ,d1,d2,d3,L1,zA];refine zT (by kernel_rfl) ?_;simp (disch:=(try simp only[LL]);omega) only[↓GO,↓DRW,GA,GX,ren,zj,za,refs,z7,cst,zm,isC,bin,una,z6,zd,blt,asArg,zg,zc,zf,z1,zn,unN,ze,zk,zb,GS,simprocAttr,GZ,d1,d2,d3,L1,zA]
   · cases h3:(n3==0)<;>rw[h3]at L1
     · simp only[cond_false,cond_true]at L1;apply zu;refine zx rfl func124 rfl (by kernel_rfl) ?_;unfold Tryz.f124;simp (disch:=(try simp only[LL]);omega) only[↓GO,↓DRW,GA,GX,ren,zj,za,refs,z7,cst,zm,isC,bin,una,z6,zd,blt,asArg,zg,zc,zf,z1,zn,unN,ze,zk,zb,GS,simprocAttr,GZ,d1,d2,d3,L1,zA];refine zT (by kernel_rfl) ?_;simp (disch:=(try simp only[LL]);omega) only[↓GO,↓DRW,GA,GX,ren,zj,za,refs,z7,cst,zm,isC,bin,una,z6,zd,blt,asArg,zg,zc,zf,z1,zn,unN,ze,zk,zb,GS,simprocAttr,GZ,d1,d2,d3,L1,zA]
     · simp only[cond_true]at L1
       cases hs:tk a.pre b.pre<;>rw[hs]at L2<;>simp only at L2<;>cases h4:(a.pre==[])<;>cases h5:(b.pre==[])<;>rw[h4]at e1<;>rw[h5]at e2
       all_goals
        apply zu;refine zx rfl func124 rfl (by kernel_rfl) ?_;unfold Tryz.f124;simp (disch:=(try simp only[LL]);omega) only[↓GO,↓DRW,GA,GX,ren,zj,za,refs,z7,cst,zm,isC,bin,una,z6,zd,blt,asArg,zg,zc,zf,z1,zn,unN,ze,zk,zb,GS,simprocAttr,GZ,d1,d2,d3,d4,d5,L1,L2,zo,e1,e2,zA];refine zT (by kernel_rfl) ?_;simp (disch:=(try simp only[LL]);omega) only[↓GO,↓DRW,GA,GX,ren,zj,za,refs,z7,cst,zm,isC,bin,una,z6,zd,blt,asArg,zg,zc,zf,z1,zn,unN,ze,zk,zb,GS,simprocAttr,GZ,d1,d2,d3,d4,d5,L1,L2,zo,e1,e2,zA,Option.getD_some,Option.getD_none]
theorem Rj (v:Ver)(p:Int):(upV v p).sm:=by
 unfold upV
 cases (p==0)<;>cases (p==1)<;>simp[Ver.sm,yc]
theorem TU {v:Ver}(h:v.sm)(p:Int):(vO v p).sm:=by
 unfold vO
 cases (!(yW v)||!(B2 p 0 2))<;>cases yW (upV v p)<;>simp only[cond_true,cond_false]<;>first|exact h|exact Rj v p
theorem QD (v : Ver) (p : Int) (hs : v.sm) (hp : p = 0 ∨ p = 1 ∨ p = 2) (h1 : -1 ≤ v.maj ∧ v.maj ≤ 999999999) (h2 : -1 ≤ v.min ∧ v.min ≤ 999999999) (h3 : -1 ≤ v.pat ∧ v.pat ≤ 999999999) :
 zr (EV prog pol) 284 [.agg (v.enc.map .t),.t (.int .i64 p)]=some (.agg ((vO v p).enc.map .t)):=by
 have d1:=Ze v hs;have d2:=Ze (upV v p) (Rj v p);have d3:=wV p 0 2;have hb:B2 p 0 2=true:=by rcases hp with rfl|rfl|rfl<;>rfl
 have e1:=qh v.pre;have ht:List.take (0+(strs v.pre).length) (strs v.pre)=strs v.pre:=List.take_of_length_le (by omega);have ht2:List.take v.pre.length (strs v.pre)=strs v.pre:=List.take_of_length_le (by rw[zo];omega);unfold Ver.sm at hs;rw[hb]at d3;unfold vO;rw[hb];simp only[Bool.not_true,Bool.or_false]
 cases ho:yW v<;>rw[ho]at d1
 · simp only[Ver.enc,List.map_cons,List.map_nil,Bool.not_false,cond_true]at d1 ⊢;apply zu;refine zx rfl func284 rfl (by kernel_rfl) ?_;unfold Tryz.f284;simp (disch:=(try simp only[LL]);omega) only[↓GO,↓DRW,GA,GX,ren,zj,za,refs,z7,cst,zm,isC,bin,una,z6,zd,blt,asArg,zg,zc,zf,z1,zn,unN,ze,zk,zb,GS,simprocAttr,GZ,d1,zo,ht,ht2,y6]
 · simp only[Bool.not_true,cond_false];unfold upV at d2 ⊢;rcases hp with rfl|rfl|rfl
   · simp only[show ((0:Int)==0)=true from rfl,cond_true]at d2 ⊢
     cases hu:yW ⟨v.maj+1,0,0,[]⟩<;>rw[hu]at d2<;>simp only[Ver.enc,List.map_cons,List.map_nil,yk,cond_true,cond_false]at d1 d2 ⊢
     all_goals
      apply zu;refine zx rfl func284 rfl (by kernel_rfl) ?_;unfold Tryz.f284;simp (disch:=(try simp only[LL]);omega) only[↓GO,↓DRW,GA,GX,ren,zj,za,refs,z7,cst,zm,isC,bin,una,z6,zd,blt,asArg,zg,zc,zf,z1,zn,unN,ze,zk,zb,GS,simprocAttr,GZ,d1,d2,d3,zo,ht,ht2,y6,zi]
   · simp only[show ((1:Int)==0)=false from rfl,show ((1:Int)==1)=true from rfl,cond_true,cond_false]at d2 ⊢
     cases hu:yW ⟨v.maj,v.min+1,0,[]⟩<;>rw[hu]at d2<;>simp only[Ver.enc,List.map_cons,List.map_nil,yk,cond_true,cond_false]at d1 d2 ⊢
     all_goals
      apply zu;refine zx rfl func284 rfl (by kernel_rfl) ?_;unfold Tryz.f284;simp (disch:=(try simp only[LL]);omega) only[↓GO,↓DRW,GA,GX,ren,zj,za,refs,z7,cst,zm,isC,bin,una,z6,zd,blt,asArg,zg,zc,zf,z1,zn,unN,ze,zk,zb,GS,simprocAttr,GZ,d1,d2,d3,zo,ht,ht2,y6,zi]
   · simp only[show ((2:Int)==0)=false from rfl,show ((2:Int)==1)=false from rfl,cond_false]at d2 ⊢
     cases hq:(v.pre==[])<;>rw[hq]at e1 d2<;>simp only[cond_true,cond_false]at d2 ⊢
     · cases hu:yW ⟨v.maj,v.min,v.pat,[]⟩<;>rw[hu]at d2<;>simp only[Ver.enc,List.map_cons,List.map_nil,yk,cond_true,cond_false]at d1 d2 ⊢
       all_goals
        apply zu;refine zx rfl func284 rfl (by kernel_rfl) ?_;unfold Tryz.f284;simp (disch:=(try simp only[LL]);omega) only[↓GO,↓DRW,GA,GX,ren,zj,za,refs,z7,cst,zm,isC,bin,una,z6,zd,blt,asArg,zg,zc,zf,z1,zn,unN,ze,zk,zb,GS,simprocAttr,GZ,d1,d2,d3,e1,zo,ht,ht2,y6,zi]
     · cases hu:yW ⟨v.maj,v.min,v.pat+1,[]⟩<;>rw[hu]at d2<;>simp only[Ver.enc,List.map_cons,List.map_nil,yk,cond_true,cond_false]at d1 d2 ⊢
       all_goals
        apply zu;refine zx rfl func284 rfl (by kernel_rfl) ?_;unfold Tryz.f284;simp (disch:=(try simp only[LL]);omega) only[↓GO,↓DRW,GA,GX,ren,zj,za,refs,z7,cst,zm,isC,bin,una,z6,zd,blt,asArg,zg,zc,zf,z1,zn,unN,ze,zk,zb,GS,simprocAttr,GZ,d1,d2,d3,e1,zo,ht,ht2,y6,zi]
theorem ea (v:Ver):(xu v).sm:=by simp[xu,Ver.sm,yc]
theorem SP (v:Ver)(p:Int)(hs:v.sm)(hp:p=0∨p=1∨p=2)(h1 : -1≤v.maj∧v.maj≤999999999)(h2 : -1≤v.min∧v.min≤999999999)(h3 : -1≤v.pat∧v.pat≤999999999) :
 zr (EV prog pol) 240 [.agg (v.enc.map .t),.t (.int .i64 p)]=some (.tup [.t (.str (jC v p).1),.t (.bool (jC v p).2)]):=by
 have d1:=QD (xu v) p (ea v) hp h1 h2 h3;have d2:=Zh (vO (xu v) p) (xu v) (TU (ea v) p) (ea v);have d3:=jk ⟨(vO (xu v) p).maj,(vO (xu v) p).min,(vO (xu v) p).pat,[[48]]⟩ (Zp _ _ _);unfold jC;generalize kG (vO (xu v) p) (xu v)=cm at *;generalize y7 ⟨(vO (xu v) p).maj,(vO (xu v) p).min,(vO (xu v) p).pat,[[48]]⟩=tx at *;generalize vO (xu v) p=nx at *;simp only[Ver.enc,xu,List.map_cons,List.map_nil,uu,yk]at d1 d2 d3 ⊢
 cases hc:(cm==0)
 all_goals
  apply zu;refine zx rfl func240 rfl (by kernel_rfl) ?_;unfold Tryz.f240;simp (disch:=(try simp only[LL]);omega) only[↓GO,↓DRW,GA,GX,ren,zj,za,refs,z7,cst,zm,isC,bin,una,z6,zd,blt,asArg,zg,zc,zf,z1,zn,unN,ze,zk,zb,GS,simprocAttr,GZ,d1,d2,d3,hc,yk]
def alT (s:Str):V:=match wE s with
 | some (l,h)=>.tup [.agg [.t (.str l),.t (.str h)],.t (.bool true)]
 | none=>.tup [.agg [.t (.str []),.t (.str [])],.t (.bool false)]
theorem Vu (s:Str)(hl:s.length≤1048600):zr (EV prog pol) 199 [.t (.str s)]=some (alT s):=by
 have d1:=fk s (by omega);have d2:=fk (s++[46,48]) (by simp only[List.length_append,List.length_cons,List.length_nil];omega);obtain⟨m1,m2,m3,m4,m5,m6,m7⟩:=wu s (by omega);have d3:=SP (zJ s).1 2 m1 (by omega) ⟨m3,m2⟩ ⟨m5,m4⟩ ⟨m7,m6⟩;have hg:=Z4 (zJ s).1.pre;unfold rvT at d1 d2;unfold alT wE jE
 cases hk:(zJ s).2 with
 | false =>
  rw[hk]at d1;generalize (zJ s).1=v at *;simp only[Bool.false_and,cond_false];simp only[Ver.enc,List.map_cons,List.map_nil]at d1 ⊢;apply zu;refine zx rfl func199 rfl (by kernel_rfl) ?_;unfold Tryz.f199;simp (disch:=(try simp only[LL]);omega) only[↓GO,↓DRW,GA,GX,ren,zj,za,refs,z7,cst,zm,isC,bin,una,z6,zd,blt,asArg,zg,zc,zf,z1,zn,unN,ze,zk,zb,GS,simprocAttr,GZ,d1]
 | true =>
  have ho:=(xf hk).2.2.1;rw[hk]at d1
  cases hp:((zJ s).1.pre==[]) with
  | true =>
   have hb:=VD ho 2 (by omega);simp only[show ((2:Int)==0)=false from rfl,show ((2:Int)==1)=false from rfl,show ((2:Int)==2)=true from rfl,cond_true,cond_false]at hb;rw[hb]at d3;rw[hp]at hg;simp only[Bool.not_true,cond_true,Bool.true_and]at hg ⊢;generalize (zJ s).1=v at *;generalize wj v.maj v.min (v.pat+1)=zp at *;simp only[Ver.enc,List.map_cons,List.map_nil]at d1 d3 ⊢;clear d2 hb
   cases hz:(zp==[])<;>rw[hz]at d3<;>simp only[Bool.not_true,Bool.not_false,cond_true,cond_false]at d3 ⊢
   all_goals
    apply zu;refine zx rfl func199 rfl (by kernel_rfl) ?_;unfold Tryz.f199;simp (disch:=(try simp only[LL]);omega) only[↓GO,↓DRW,GA,GX,ren,zj,za,refs,z7,cst,zm,isC,bin,una,z6,zd,blt,asArg,zg,zc,zf,z1,zn,unN,ze,zk,zb,GS,simprocAttr,GZ,d1,d3,hg,zo]
  | false =>
   obtain⟨r1,r2⟩:=XI hk (fun h=>by rw[h]at hp;cases hp);rw[r1]at d2;rw[hp]at hg;simp only[Bool.not_false,cond_false,Bool.true_and]at hg ⊢;rw[r2];generalize yW (qK (zJ s).1)=pk at *;generalize qK (zJ s).1=pv at *;generalize (zJ s).1=v at *;have hne:((s++[46,48])==[])=false:=by cases s<;>rfl
   simp only[Ver.enc,List.map_cons,List.map_nil]at d1 ⊢
   cases pk<;>simp only[Ver.enc,List.map_cons,List.map_nil,cond_true,cond_false,hne,Bool.not_false,show (([]:Str)==[])=true from rfl,Bool.not_true]at d2 ⊢
   all_goals
    apply zu;refine zx rfl func199 rfl (by kernel_rfl) ?_;unfold Tryz.f199;simp (disch:=(try simp only[LL]);omega) only[↓GO,↓DRW,GA,GX,ren,zj,za,refs,z7,cst,zm,isC,bin,una,z6,zd,blt,asArg,zg,zc,zf,z1,zn,unN,ze,zk,zb,GS,simprocAttr,GZ,d1,d2,hg,zo,y6]
theorem c_exR (s:Str)(hl:s.length≤1048600):zr (EV prog pol) 150 [.t (.str s)]=some (.t (.list 2 (exT s))):=by
 have d1:=Vu s hl;unfold exT;unfold alT at d1
 cases he:wE s with
 | none =>
  rw[he]at d1;simp only at d1 ⊢;apply zu;refine zx rfl func150 rfl (by kernel_rfl) ?_;unfold Tryz.f150;simp (disch:=(try simp only[LL]);omega) only[↓GO,↓DRW,GA,GX,ren,zj,za,refs,z7,cst,zm,isC,bin,una,z6,zd,blt,asArg,zg,zc,zf,z1,zn,unN,ze,zk,zb,GS,simprocAttr,GZ,d1]
 | some x =>
  obtain⟨l,h⟩:=x;rw[he]at d1;simp only at d1 ⊢;apply zu;refine zx rfl func150 rfl (by kernel_rfl) ?_;unfold Tryz.f150;simp (disch:=(try simp only[LL]);omega) only[↓GO,↓DRW,GA,GX,ren,zj,za,refs,z7,cst,zm,isC,bin,una,z6,zd,blt,asArg,zg,zc,zf,z1,zn,unN,ze,zk,zb,GS,simprocAttr,GZ,d1]
structure yM where
 key:List UInt8
 text:List UInt8
 list:List (List UInt8)
 isList:Bool
def yM.enc (x:yM):List T:=[.str x.key,.str x.text,.list 1 (strs x.list),.bool x.isList]
def yM.zq (l:List yM):List (List T):=l.map yM.enc
def yM.y0 (x:yM):Nat:=x.key.length+x.text.length+(x.list.length+yc x.list)
def yM.yp:List yM→Nat
 | []=>0
 | c::cs=>yM.y0 c+yM.yp cs
def yM.ok (x:yM):Prop:=x.key.length≤9223372036854775807∧x.text.length≤9223372036854775807∧x.list.length≤9223372036854775807∧(∀ s∈x.list,s.length≤9223372036854775807)
theorem yM.uo (x:yM):x.enc.length=4:=rfl
theorem yM.vo (x:yM):x.enc.take 4=x.enc:=rfl
theorem yM.zz (cs:List yM):(yM.zq cs).length=cs.length:=by simp[yM.zq]
theorem yM.vn (cs:List yM)(i:Nat)(h:i<cs.length):(yM.zq cs)[i]? = some cs[i].enc:=by simp[yM.zq,h]
theorem yM.yK:∀ {cs:List yM} {c:yM},c∈cs→c.y0≤yM.yp cs
 | c'::cs,c,h=>by
  simp only[yM.yp];rcases List.mem_cons.1 h with rfl|h
  · omega
  · have:=yM.yK h;omega
structure yT where
 name:List UInt8
 fields:List yM
def yT.enc (x:yT):List T:=[.str x.name,.list 4 (yM.zq x.fields)]
def yT.zq (l:List yT):List (List T):=l.map yT.enc
def yT.y0 (x:yT):Nat:=x.name.length+(x.fields.length+yM.yp x.fields)
def yT.yp:List yT→Nat
 | []=>0
 | c::cs=>yT.y0 c+yT.yp cs
def yT.ok (x:yT):Prop:=x.name.length≤9223372036854775807∧x.fields.length≤9223372036854775807∧(∀ y∈x.fields,y.ok)
theorem yT.uo (x:yT):x.enc.length=2:=rfl
theorem yT.vo (x:yT):x.enc.take 2=x.enc:=rfl
theorem yT.zz (cs:List yT):(yT.zq cs).length=cs.length:=by simp[yT.zq]
theorem yT.vn (cs:List yT)(i:Nat)(h:i<cs.length):(yT.zq cs)[i]? = some cs[i].enc:=by simp[yT.zq,h]
theorem yT.yK:∀ {cs:List yT} {c:yT},c∈cs→c.y0≤yT.yp cs
 | c'::cs,c,h=>by
  simp only[yT.yp];rcases List.mem_cons.1 h with rfl|h
  · omega
  · have:=yT.yK h;omega
def vM {α:Type}(p:α→Bool):List α→Nat→Option Nat
 | [],_=>none
 | x::r,n=>if p x=true then some n else vM p r (n+1)
def ixI:Option Nat→Int
 | some n=>(n:Int)
 | none=>-1
theorem oz {α:Type}(p:α→Bool):∀ (l:List α) (n:Nat),(vM p l n).isSome=l.any p
 | [],_=>rfl
 | x::r,n=>by
  simp only[vM,List.any_cons]
  split
  · rename_i h;simp[h]
  · rename_i h;rw[oz p r (n+1)];simp[h]
structure zH where
 alg:List UInt8
 bytes:List UInt8
def zH.enc (x:zH):List T:=[.str x.alg,.str x.bytes]
def zH.zq (l:List zH):List (List T):=l.map zH.enc
def zH.y0 (x:zH):Nat:=x.alg.length+x.bytes.length
def zH.yp:List zH→Nat
 | []=>0
 | c::cs=>zH.y0 c+zH.yp cs
def zH.ok (x:zH):Prop:=x.alg.length≤9223372036854775807∧x.bytes.length≤9223372036854775807
theorem zH.uo (x:zH):x.enc.length=2:=rfl
theorem zH.vo (x:zH):x.enc.take 2=x.enc:=rfl
theorem zH.zz (cs:List zH):(zH.zq cs).length=cs.length:=by simp[zH.zq]
theorem zH.vn (cs:List zH)(i:Nat)(h:i<cs.length):(zH.zq cs)[i]? = some cs[i].enc:=by simp[zH.zq,h]
theorem zH.yK:∀ {cs:List zH} {c:zH},c∈cs→c.y0≤zH.yp cs
 | c'::cs,c,h=>by
  simp only[zH.yp];rcases List.mem_cons.1 h with rfl|h
  · omega
  · have:=zH.yK h;omega
structure z8 where
 name:List UInt8
 version:List UInt8
 source:List UInt8
 sums:List zH
 dev:Bool
 zB:List (List UInt8)
def z8.enc (x:z8):List T:=[.str x.name,.str x.version,.str x.source,.list 2 (zH.zq x.sums),.bool x.dev,.list 1 (strs x.zB)]
def z8.zq (l:List z8):List (List T):=l.map z8.enc
def z8.y0 (x:z8):Nat:=x.name.length+x.version.length+x.source.length+(x.sums.length+zH.yp x.sums)+(x.zB.length+yc x.zB)
def z8.yp:List z8→Nat
 | []=>0
 | c::cs=>z8.y0 c+z8.yp cs
def z8.ok (x:z8):Prop:=x.name.length≤9223372036854775807∧x.version.length≤9223372036854775807∧x.source.length≤9223372036854775807∧x.sums.length≤9223372036854775807∧(∀ y∈x.sums,y.ok)∧x.zB.length≤9223372036854775807∧(∀ s∈x.zB,s.length≤9223372036854775807)
theorem z8.uo (x:z8):x.enc.length=6:=rfl
theorem z8.vo (x:z8):x.enc.take 6=x.enc:=rfl
theorem z8.zz (cs:List z8):(z8.zq cs).length=cs.length:=by simp[z8.zq]
theorem z8.vn (cs:List z8)(i:Nat)(h:i<cs.length):(z8.zq cs)[i]? = some cs[i].enc:=by simp[z8.zq,h]
theorem z8.yK:∀ {cs:List z8} {c:z8},c∈cs→c.y0≤z8.yp cs
 | c'::cs,c,h=>by
  simp only[z8.yp];rcases List.mem_cons.1 h with rfl|h
  · omega
  · have:=z8.yK h;omega
structure zy where
 top:List (List UInt8)
 packs:List z8
def zy.enc (x:zy):List T:=[.list 1 (strs x.top),.list 6 (z8.zq x.packs)]
def zy.zq (l:List zy):List (List T):=l.map zy.enc
def zy.y0 (x:zy):Nat:=(x.top.length+yc x.top)+(x.packs.length+z8.yp x.packs)
def zy.yp:List zy→Nat
 | []=>0
 | c::cs=>zy.y0 c+zy.yp cs
def zy.ok (x:zy):Prop:=x.top.length≤9223372036854775807∧(∀ s∈x.top,s.length≤9223372036854775807)∧x.packs.length≤9223372036854775807∧(∀ y∈x.packs,y.ok)
theorem zy.uo (x:zy):x.enc.length=2:=rfl
theorem zy.vo (x:zy):x.enc.take 2=x.enc:=rfl
theorem zy.zz (cs:List zy):(zy.zq cs).length=cs.length:=by simp[zy.zq]
theorem zy.vn (cs:List zy)(i:Nat)(h:i<cs.length):(zy.zq cs)[i]? = some cs[i].enc:=by simp[zy.zq,h]
theorem zy.yK:∀ {cs:List zy} {c:zy},c∈cs→c.y0≤zy.yp cs
 | c'::cs,c,h=>by
  simp only[zy.yp];rcases List.mem_cons.1 h with rfl|h
  · omega
  · have:=zy.yK h;omega
theorem mC (g:Nat)(caps:List T)(p:z8→Bool)(es:List z8)(hl:es.length≤4611686018427387904)(hp:∀ x∈es,zr (EV prog pol) g (.agg (x.enc.map .t)::caps.map .t)=some (.t (.bool (p x)))):∀ (rest pre:List z8),es=pre++rest →
 EV prog pol (.loop 97 26 0 [.t (.list 6 (z8.zq es)),.t (.fn g caps),.t (.int .i64 (es.length:Int)),.t (.int .i64 (pre.length:Int))] [])=some (match vM p rest pre.length with|some i=>.loop .ret [.t (.int .i64 (i:Int))] []|none=>.loop (.exit 0) [.bad] [])
 | [],pre,hs=>by
  have c:decide ((pre.length:Int)<(es.length:Int))=false:=by simp[hs]
  refine zh func97 rfl rfl ?_;simp only[↓GO,↓DRW,GA,GX,ren,zj,za,refs,z7,cst,zm,isC,bin,una,z6,zd,blt,asArg,zg,zc,zf,z1,zn,unN,ze,zk,zb,GS,simprocAttr,c,vM]
 | b :: rest, pre, hs => by
  have c:decide ((pre.length:Int)<(es.length:Int))=true:=by simp[hs];omega
  have hi:pre.length<es.length:=by rw[hs];simp
  have hget:=z8.vn es pre.length hi;have hgb:es[pre.length]=b:=by simp[hs]
  rw[hgb]at hget;have hb:=hp b (by rw[hs];simp);have e1:(pre.length:Int)+1=((pre++[b]).length:Int):=by simp
  have IH:=mC g caps p es hl hp rest (pre++[b]) (by rw[hs];simp);refine zh func97 rfl rfl ?_;simp only[vM]
  cases hpb:p b with
  | true =>
   rw[hpb]at hb;simp (disch:=omega) only[↓GO,↓DRW,GA,GX,ren,zj,za,refs,z7,cst,zm,isC,bin,una,z6,zd,blt,asArg,zg,zc,zf,z1,zn,unN,ze,zk,zb,GS,simprocAttr,z8.zz,c,hget,z8.uo,z8.vo,zi,hb]
  | false =>
   rw[hpb]at hb;simp (disch:=omega) only[↓GO,↓DRW,GA,GX,ren,zj,za,refs,z7,cst,zm,isC,bin,una,z6,zd,blt,asArg,zg,zc,zf,z1,zn,unN,ze,zk,zb,GS,simprocAttr,z8.zz,c,hget,z8.uo,z8.vo,zi,hb];rw[e1,IH];simp
theorem dh (g:Nat)(caps:List T)(p:z8→Bool)(es:List z8)(hl:es.length≤4611686018427387904)(hp:∀ x∈es,zr (EV prog pol) g (.agg (x.enc.map .t)::caps.map .t)=some (.t (.bool (p x)))) :
 zr (EV prog pol) 97 [.t (.list 6 (z8.zq es)),.t (.fn g caps)]=some (.t (.int .i64 (ixI (vM p es 0)))):=by
 have IH:=mC g caps p es hl hp es [] rfl;simp only[List.length_nil,Int.natCast_zero]at IH;apply zu;refine zx rfl func97 rfl (by kernel_rfl) ?_;unfold Tryz.f97
 cases hf:vM p es 0 with
 | none=>rw[hf]at IH;simp only[↓GO,↓DRW,GA,GX,ren,zj,za,refs,z7,cst,zm,isC,bin,una,z6,zd,blt,asArg,zg,zc,zf,z1,zn,unN,ze,zk,zb,GS,simprocAttr,z8.zz,IH,ixI]
 | some i=>rw[hf]at IH;simp only[↓GO,↓DRW,GA,GX,ren,zj,za,refs,z7,cst,zm,isC,bin,una,z6,zd,blt,asArg,zg,zc,zf,z1,zn,unN,ze,zk,zb,GS,simprocAttr,z8.zz,IH,ixI]
def UX:Str:=[115,104,97,49]
def fA:Str:=[115,104,97,50,53,54]
def h1S:Str:=[104,49]
def fy:Str:=[115,104,97,53,49,50]
def tu (a:Str):Int:=cond (a==UX) 20 (cond (a==fA||a==h1S) 32 (cond (a==fy) 64 (-1)))
def ub (prev:Option Str)(s:Str):Bool:=match prev with
 | none=>true
 | some p=>Op.bytesLess p s
def uc:Option Str→List zH→Bool
 | _,[]=>true
 | prev,s::r=>(((s.bytes.length:Int)==tu s.alg)&&ub prev s.alg)&&uc (some s.alg) r
def keyOf (p:z8):Str:=(p.name++[64])++p.version
def pB (ps:List z8)(k:Str):Bool:=ps.any fun p=>keyOf p==k
def vd (ps:List z8)(k:Str):Option Nat:=vM (fun p=>keyOf p==k) ps 0
def xZ (ps:List z8):Option Str→List Str→Bool
 | _,[]=>true
 | prev,k::r=>(pB ps k&&ub prev k)&&xZ ps (some k) r
def vN (p:z8):Bool:=rG p.name&&((wE p.version).isSome&&(sA p.source&&uc none p.sums))
def wk (ps:List z8):Option Str→List z8→Bool
 | _,[]=>true
 | prev,p::r=>(vN p&&(ub prev (keyOf p)&&xZ ps none p.zB))&&wk ps (some (keyOf p)) r
def zW (g:zy):Bool:=wk g.packs none g.packs&&(decide ((g.packs.length:Int)≤40)&&xZ g.packs none g.top)
theorem aY {α:Type}(p:α→Bool)(l:List α):decide (ixI (vM p l 0)<0) = !(l.any p):=by
 rw[← oz p l 0]
 cases vM p l 0 with
 | none=>rfl
 | some n =>
  have h:¬ ((n:Int)<0):=by omega
  show decide ((n:Int)<0)=false
  exact decide_eq_false h
theorem tW {α:Type}(f:α→List T)(pre:List α)(q:α)(rest:List α):uJ ((pre++[q]++rest).map f) (((pre++[q]).length:Int) - 1)=some (f q):=by
 unfold uJ;rw[if_pos (by simp)];have e:(((pre++[q]).length:Int) - 1).toNat=pre.length:=by simp
 rw[e];simp
theorem sD {α:Type}(f:α→List T)(pre:List α)(x:α)(rest:List α):((pre++x::rest).map f)[pre.length]? = some (f x):=by simp
theorem Yh (p:z8):(keyOf p).length≤p.y0+1:=by
 unfold keyOf z8.y0;simp only[List.length_append,List.length_cons,List.length_nil];omega
theorem wW {α:Type}(l:List α):l=[]∨∃ p q,l=p++[q]:=by
 rcases List.eq_nil_or_concat l with h|⟨p,q,h⟩
 · exact .inl h
 · exact .inr ⟨p,q,by rw[h,List.concat_eq_append]⟩
theorem ey (p:z8)(hb:p.y0≤4194304):zr (EV prog pol) 67 [.agg (p.enc.map .t)]=some (.t (.str (keyOf p))):=by
 obtain⟨name,version,source,sums,dev,zB⟩:=p;simp only[z8.y0]at hb;simp only[z8.enc,List.map_cons,List.map_nil,keyOf];apply zu;refine zx rfl func67 rfl (by kernel_rfl) ?_;unfold Tryz.f67;simp (disch:=(try simp only[LL]);omega) only[↓GO,↓DRW,GA,GX,ren,zj,za,refs,z7,cst,zm,isC,bin,una,z6,zd,blt,asArg,zg,zc,zf,z1,zn,unN,ze,zk,zb,GS,simprocAttr,GZ,y6]
theorem uQ (p:z8)(hb:p.y0≤4194304):zr (EV prog pol) 74 [.agg (p.enc.map .t)]=some (.t (.str (keyOf p))):=by
 obtain⟨name,version,source,sums,dev,zB⟩:=p;simp only[z8.y0]at hb;simp only[z8.enc,List.map_cons,List.map_nil,keyOf];apply zu;refine zx rfl func74 rfl (by kernel_rfl) ?_;unfold Tryz.f74;simp (disch:=(try simp only[LL]);omega) only[↓GO,↓DRW,GA,GX,ren,zj,za,refs,z7,cst,zm,isC,bin,una,z6,zd,blt,asArg,zg,zc,zf,z1,zn,unN,ze,zk,zb,GS,simprocAttr,GZ,y6]
theorem c_slI (a:Str):zr (EV prog pol) 201 [.t (.str a)]=some (.t (.int .i64 (tu a))):=by
 unfold tu UX fA h1S fy
 cases h1:(a==[115,104,97,49])<;>cases h2:(a==[115,104,97,50,53,54])<;>cases h3:(a==[104,49])<;>cases h4:(a==[115,104,97,53,49,50])
 all_goals
  apply zu;refine zx rfl func201 rfl (by kernel_rfl) ?_;unfold Tryz.f201;simp (disch:=(try simp only[LL]);omega) only[↓GO,↓DRW,GA,GX,ren,zj,za,refs,z7,cst,zm,isC,bin,una,z6,zd,blt,asArg,zg,zc,zf,z1,zn,unN,ze,zk,zb,GS,simprocAttr,GZ,h1,h2,h3,h4]
theorem RP (a:Str):zr (EV prog pol) 149 [.t (.str a)]=some (.t (.int .i64 (tu a))):=by
 unfold tu UX fA h1S fy
 cases h1:(a==[115,104,97,49])<;>cases h2:(a==[115,104,97,50,53,54])<;>cases h3:(a==[104,49])<;>cases h4:(a==[115,104,97,53,49,50])
 all_goals
  apply zu;refine zx rfl func149 rfl (by kernel_rfl) ?_;unfold Tryz.f149;simp (disch:=(try simp only[LL]);omega) only[↓GO,↓DRW,GA,GX,ren,zj,za,refs,z7,cst,zm,isC,bin,una,z6,zd,blt,asArg,zg,zc,zf,z1,zn,unN,ze,zk,zb,GS,simprocAttr,GZ,h1,h2,h3,h4]
theorem Y7 (es:List zH)(hl:es.length≤4194304):∀ (rest pre:List zH),es=pre++rest →
 EV prog pol (.loop 152 26 0 [.t (.list 2 (zH.zq es)),.t (.list 2 (zH.zq es)),.t (.int .i64 (es.length:Int)),.t (.int .i64 (pre.length:Int))] [])=some (cond (uc (pre.getLast?.map zH.alg) rest) (.loop (.exit 0) [.bad] []) (.loop .ret [.t (.bool false)] []))
 | [],pre,hs=>by
  have c:decide ((pre.length:Int)<(es.length:Int))=false:=by simp[hs]
  refine zh func152 rfl rfl ?_;simp (disch:=(try simp only[LL]);omega) only[↓GO,↓DRW,GA,GX,ren,zj,za,refs,z7,cst,zm,isC,bin,una,z6,zd,blt,asArg,zg,zc,zf,z1,zn,unN,ze,zk,zb,GS,simprocAttr,GZ,c,uc]
 | x :: rest, pre, hs => by
  have c:decide ((pre.length:Int)<(es.length:Int))=true:=by simp[hs];omega
  have hget:(zH.zq es)[pre.length]? = some [.str x.alg,.str x.bytes]:=by rw[hs];exact sD zH.enc pre x rest
  have hlen:pre.length+rest.length+1≤es.length:=by rw[hs];simp;omega
  have IH:=Y7 es hl rest (pre++[x]) (by rw[hs];simp);have hk:=c_slI x.alg;rw[show ((pre++[x]).length:Int)=(pre.length:Int)+1 by simp,show (pre++[x]).getLast?.map zH.alg=some x.alg by simp]at IH;rw[uc];generalize tu x.alg=n at *;rcases wW pre with rfl|⟨pre',q,rfl⟩
  · clear hs;simp only[List.length_nil,List.getLast?_nil,Option.map_none,ub,Int.natCast_zero,Int.zero_add]at *
    cases h1:((x.bytes.length:Int)==n)
    all_goals
     refine zh func152 rfl rfl ?_;simp (disch:=(try simp only[LL]);omega) only[↓GO,↓DRW,GA,GX,ren,zj,za,refs,z7,cst,zm,isC,bin,una,z6,zd,blt,asArg,zg,zc,zf,z1,zn,unN,ze,zk,zb,GS,simprocAttr,GZ,zH.zz,c,hget,zi,hk,h1,bne,IH,Int.zero_add]
  · have hprev:uJ (zH.zq es) (((pre'++[q]).length:Int) - 1)=some [.str q.alg,.str q.bytes]:=by rw[hs];exact tW zH.enc pre' q (x::rest)
    have hge:1≤(pre'++[q]).length:=by simp
    have hgt:decide (((pre'++[q]).length:Int) > 0)=true:=by simp only[decide_eq_true_eq];omega
    have hcmp:=qd x.alg q.alg;rw[show (pre'++[q]).getLast?.map zH.alg=some q.alg by simp];simp only[ub];clear hs;generalize (pre'++[q]).length=m at *
    cases h1:((x.bytes.length:Int)==n)<;>cases h2:Op.bytesLess q.alg x.alg<;>rw[h2]at hcmp
    all_goals
     refine zh func152 rfl rfl ?_;simp (disch:=(try simp only[LL]);omega) only[↓GO,↓DRW,GA,GX,ren,zj,za,refs,z7,cst,zm,isC,bin,una,z6,zd,blt,asArg,zg,zc,zf,z1,zn,unN,ze,zk,zb,GS,simprocAttr,GZ,zH.zz,c,hget,zi,hk,h1,bne,hgt,hprev,hcmp,IH]
theorem SA (es:List zH)(hl:es.length≤4194304):zr (EV prog pol) 152 [.t (.list 2 (zH.zq es))]=some (.t (.bool (uc none es))):=by
 have IH:=Y7 es hl es [] rfl;simp only[List.length_nil,Int.natCast_zero,List.getLast?_nil,Option.map_none]at IH;apply zu;refine zx rfl func152 rfl (by kernel_rfl) ?_;unfold Tryz.f152
 cases h:uc none es<;>rw[h]at IH<;>simp only[cond_true,cond_false]at IH<;>simp (disch:=(try simp only[LL]);omega) only[↓GO,↓DRW,GA,GX,ren,zj,za,refs,z7,cst,zm,isC,bin,una,z6,zd,blt,asArg,zg,zc,zf,z1,zn,unN,ze,zk,zb,GS,simprocAttr,GZ,zH.zz,IH]
theorem Y8 (p:z8)(hb:p.y0≤4194304):∀ (rest pre:List zH),p.sums=pre++rest →
 EV prog pol (.loop 82 26 0 [.ptr 0 0 0,.t (.int .i64 (pre.length:Int))] [.vs 6 [p.enc.map .t]])=some (cond (uc (pre.getLast?.map zH.alg) rest) (.loop (.exit 0) [.ptr 0 0 0,.bad] [.vs 6 [p.enc.map .t]]) (.loop .ret [.ptr 0 0 0,.t (.bool false)] [.vs 6 [p.enc.map .t]]))
 | [],pre,hs=>by
  have c:decide ((pre.length:Int)<(p.sums.length:Int))=false:=by simp[hs]
  simp only[z8.enc,List.map_cons,List.map_nil];refine zh func82 rfl rfl ?_;simp (disch:=(try simp only[LL]);omega) only[↓GO,↓DRW,GA,GX,ren,zj,za,refs,z7,cst,zm,isC,bin,una,z6,zd,blt,asArg,zg,zc,zf,z1,zn,unN,ze,zk,zb,GS,simprocAttr,GZ,c,zH.zz,uc,zA]
 | x :: rest, pre, hs => by
  have c:decide ((pre.length:Int)<(p.sums.length:Int))=true:=by simp[hs];omega
  have hget:(zH.zq p.sums)[pre.length]? = some [.str x.alg,.str x.bytes]:=by rw[hs];exact sD zH.enc pre x rest
  have hlen:pre.length+rest.length+1≤p.sums.length:=by rw[hs];simp;omega
  have hpb:p.sums.length≤4194304:=by unfold z8.y0 at hb;omega
  have IH:=Y8 p hb rest (pre++[x]) (by rw[hs];simp);have hk:=RP x.alg;rw[show ((pre++[x]).length:Int)=(pre.length:Int)+1 by simp,show (pre++[x]).getLast?.map zH.alg=some x.alg by simp]at IH;rw[uc];have hco:((x.bytes.length:Int)==tu x.alg)=(tu x.alg==(x.bytes.length:Int)):=Bool.beq_comm;rw[hco];generalize tu x.alg=n at *;simp only[z8.enc,List.map_cons,List.map_nil]at IH ⊢;rcases wW pre with rfl|⟨pre',q,rfl⟩
  · clear hs;simp only[List.length_nil,List.getLast?_nil,Option.map_none,ub,Int.natCast_zero,Int.zero_add]at *
    cases h1:(n==(x.bytes.length:Int))
    all_goals
     refine zh func82 rfl rfl ?_;simp (disch:=(try simp only[LL]);omega) only[↓GO,↓DRW,GA,GX,ren,zj,za,refs,z7,cst,zm,isC,bin,una,z6,zd,blt,asArg,zg,zc,zf,z1,zn,unN,ze,zk,zb,GS,simprocAttr,GZ,zH.zz,c,hget,zi,hk,h1,bne,IH,Int.zero_add,zA]
  · have hprev:uJ (zH.zq p.sums) (((pre'++[q]).length:Int) - 1)=some [.str q.alg,.str q.bytes]:=by rw[hs];exact tW zH.enc pre' q (x::rest)
    have hge:1≤(pre'++[q]).length:=by simp
    have hgt:decide (((pre'++[q]).length:Int) > 0)=true:=by simp only[decide_eq_true_eq];omega
    rw[show (pre'++[q]).getLast?.map zH.alg=some q.alg by simp];simp only[ub];clear hs;generalize (pre'++[q]).length=m at *
    cases h1:(n==(x.bytes.length:Int))<;>cases h2:Op.bytesLess q.alg x.alg
    all_goals
     refine zh func82 rfl rfl ?_;simp (disch:=(try simp only[LL]);omega) only[↓GO,↓DRW,GA,GX,ren,zj,za,refs,z7,cst,zm,isC,bin,una,z6,zd,blt,asArg,zg,zc,zf,z1,zn,unN,ze,zk,zb,GS,simprocAttr,GZ,zH.zz,c,hget,zi,hk,h1,bne,hgt,hprev,h2,IH,zA]
theorem Sm (s:Str):((exT s).length:Int)=cond (wE s).isSome 1 0:=by
 unfold exT
 cases wE s<;>rfl
theorem SD (p:z8)(hb:p.y0≤1048576):zr (EV prog pol) 82 [.agg (p.enc.map .t)]=some (.t (.bool (vN p))):=by
 have L:=Y8 p (by omega) p.sums [] rfl;simp only[z8.y0]at hb;have h1:=SG p.name (by omega);have h2:=c_exR p.version (by omega);have h3:=Vl p.source (by omega);have h4:=Sm p.version;simp only[List.length_nil,Int.natCast_zero,List.getLast?_nil,Option.map_none]at L;simp only[z8.enc,List.map_cons,List.map_nil]at L ⊢;unfold vN;generalize exT p.version=et at *;generalize uc none p.sums=b1 at *;generalize rG p.name=b2 at *;generalize sA p.source=b3 at *;generalize (wE p.version).isSome=b4 at *
 cases b1<;>simp only[cond_true,cond_false]at L<;>cases b2<;>cases b4<;>simp only[cond_true,cond_false]at h4<;>cases b3
 all_goals
  apply zu;refine zx rfl func82 rfl (by kernel_rfl) ?_;unfold Tryz.f82;simp (disch:=(try simp only[LL]);omega) only[↓GO,↓DRW,GA,GX,ren,zj,za,refs,z7,cst,zm,isC,bin,una,z6,zd,blt,asArg,zg,zc,zf,z1,zn,unN,ze,zk,zb,GS,simprocAttr,GZ,L,h1,h2,h3,h4,zA,zH.zz]
theorem V6 (s:Str):((exT s).length:Int)=cond (wE s).isSome 1 0:=by
 unfold exT
 cases wE s<;>rfl
theorem SF (p:z8)(hb:p.y0≤1048576):zr (EV prog pol) 84 [.agg (p.enc.map .t)]=some (.t (.bool (vN p))):=by
 simp only[z8.y0]at hb;have L:=SA p.sums (by omega);have h1:=SH p.name (by omega);have h2:=c_exI p.version (by omega);have h3:=Vm p.source (by omega);have h4:=V6 p.version;simp only[z8.enc,List.map_cons,List.map_nil];unfold vN;generalize exT p.version=et at *;generalize uc none p.sums=b1 at *;generalize rG p.name=b2 at *;generalize sA p.source=b3 at *;generalize (wE p.version).isSome=b4 at *
 cases b1<;>cases b2<;>cases b4<;>simp only[cond_true,cond_false]at h4<;>cases b3
 all_goals
  apply zu;refine zx rfl func84 rfl (by kernel_rfl) ?_;unfold Tryz.f84;simp (disch:=(try simp only[LL]);omega) only[↓GO,↓DRW,GA,GX,ren,zj,za,refs,z7,cst,zm,isC,bin,una,z6,zd,blt,asArg,zg,zc,zf,z1,zn,unN,ze,zk,zb,GS,simprocAttr,GZ,L,h1,h2,h3,h4,zA,zH.zz]
def GB (g:zy):Prop:=g.y0≤1048576
theorem GB.len {g:zy}(h:GB g):g.packs.length≤1048576∧g.top.length+yc g.top≤1048576∧∀ p∈g.packs,p.y0≤1048576:=by
 unfold GB zy.y0 at h;refine⟨by omega,by omega,fun p hp=>?_⟩;have:=z8.yK hp;omega
theorem SN (p:z8)(k:Str)(hb:p.y0≤1048576):zr (EV prog pol) 98 [.agg (p.enc.map .t),.t (.fp [.str k])]=some (.t (.bool (keyOf p==k))):=by
 have h:=ey p (by omega);simp only[z8.enc,List.map_cons,List.map_nil]at h ⊢;apply zu;refine zx rfl func98 rfl (by kernel_rfl) ?_;unfold Tryz.f98;simp (disch:=(try simp only[LL]);omega) only[↓GO,↓DRW,GA,GX,ren,zj,za,refs,z7,cst,zm,isC,bin,una,z6,zd,blt,asArg,zg,zc,zf,z1,zn,unN,ze,zk,zb,GS,simprocAttr,GZ,h]
theorem qg (g:zy)(k:Str)(hB:GB g):zr (EV prog pol) 29 [.agg (g.enc.map .t),.t (.str k)]=some (.t (.int .i64 (ixI (vd g.packs k)))):=by
 obtain⟨b1,b2,b3⟩:=hB.len;have h:=dh 98 [.fp [.str k]] (fun p=>keyOf p==k) g.packs (by omega) (fun x hx=>SN x k (b3 x hx));simp only[zy.enc,List.map_cons,List.map_nil]at h ⊢;unfold vd;apply zu;refine zx rfl func29 rfl (by kernel_rfl) ?_;unfold Tryz.f29;simp (disch:=(try simp only[LL]);omega) only[↓GO,↓DRW,GA,GX,ren,zj,za,refs,z7,cst,zm,isC,bin,una,z6,zd,blt,asArg,zg,zc,zf,z1,zn,unN,ze,zk,zb,GS,simprocAttr,GZ,h,ti,zA]
theorem Ye (g:zy)(k:Str)(hB:GB g):∀ (rest pre:List z8),g.packs=pre++rest →
 EV prog pol (.loop 77 26 0 [.t (.str k),.ptr 0 0 0,.t (.int .i64 (pre.length:Int))] [.vs 2 [g.enc.map .t]])=some (match vM (fun p=>keyOf p==k) rest pre.length with|some i=>.loop .ret [.t (.int .i64 (i:Int))] []|none=>.loop (.exit 0) [.bad] [])
 | [],pre,hs=>by
  have c:decide ((pre.length:Int)<(g.packs.length:Int))=false:=by simp[hs]
  simp only[zy.enc,List.map_cons,List.map_nil];refine zh func77 rfl rfl ?_;simp (disch:=(try simp only[LL]);omega) only[↓GO,↓DRW,GA,GX,ren,zj,za,refs,z7,cst,zm,isC,bin,una,z6,zd,blt,asArg,zg,zc,zf,z1,zn,unN,ze,zk,zb,GS,simprocAttr,GZ,c,z8.zz,vM,zA]
 | x :: rest, pre, hs => by
  obtain⟨b1,b2,b3⟩:=hB.len;have c:decide ((pre.length:Int)<(g.packs.length:Int))=true:=by simp[hs];omega
  have hget:(z8.zq g.packs)[pre.length]? = some x.enc:=by rw[hs];exact sD z8.enc pre x rest
  have hlen:pre.length+rest.length+1≤g.packs.length:=by rw[hs];simp;omega
  have hk:=uQ x (by have:=b3 x (by rw[hs];simp);omega);have IH:=Ye g k hB rest (pre++[x]) (by rw[hs];simp);rw[show ((pre++[x]).length:Int)=(pre.length:Int)+1 by simp,show (pre++[x]).length=pre.length+1 by simp]at IH;clear hs;simp only[zy.enc,z8.enc,List.map_cons,List.map_nil]at hget hk IH ⊢;rw[vM]
  cases h1:(keyOf x==k)
  all_goals
   refine zh func77 rfl rfl ?_;simp (disch:=(try simp only[LL]);omega) only[↓GO,↓DRW,GA,GX,ren,zj,za,refs,z7,cst,zm,isC,bin,una,z6,zd,blt,asArg,zg,zc,zf,z1,zn,unN,ze,zk,zb,GS,simprocAttr,GZ,c,z8.zz,hget,hk,h1,zi,IH,zA]
theorem fY (g:zy)(k:Str)(hB:GB g):zr (EV prog pol) 77 [.agg (g.enc.map .t),.t (.str k)]=some (.t (.int .i64 (ixI (vd g.packs k)))):=by
 have L:=Ye g k hB g.packs [] rfl;simp only[List.length_nil,Int.natCast_zero]at L;simp only[zy.enc,List.map_cons,List.map_nil]at L ⊢;unfold vd
 cases hf:vM (fun p=>keyOf p==k) g.packs 0<;>rw[hf]at L<;>simp only at L
 all_goals
  apply zu;refine zx rfl func77 rfl (by kernel_rfl) ?_;unfold Tryz.f77;simp (disch:=(try simp only[LL]);omega) only[↓GO,↓DRW,GA,GX,ren,zj,za,refs,z7,cst,zm,isC,bin,una,z6,zd,blt,asArg,zg,zc,zf,z1,zn,unN,ze,zk,zb,GS,simprocAttr,GZ,L,ixI,zA]
theorem Yd (g:zy)(hB:GB g)(ks:List Str)(hl:ks.length≤1048576):∀ (rest pre:List Str),ks=pre++rest →
 EV prog pol (.loop 85 26 0 [.t (.list 1 (strs ks)),.ptr 0 0 0,.t (.list 1 (strs ks)),.t (.int .i64 (ks.length:Int)),.t (.int .i64 (pre.length:Int))] [.vs 2 [g.enc.map .t]])=some (cond (xZ g.packs pre.getLast? rest) (.loop (.exit 0) [.bad] []) (.loop .ret [.t (.bool false)] []))
 | [],pre,hs=>by
  have c:decide ((pre.length:Int)<(ks.length:Int))=false:=by simp[hs]
  simp only[zy.enc,List.map_cons,List.map_nil];refine zh func85 rfl rfl ?_;simp (disch:=(try simp only[LL]);omega) only[↓GO,↓DRW,GA,GX,ren,zj,za,refs,z7,cst,zm,isC,bin,una,z6,zd,blt,asArg,zg,zc,zf,z1,zn,unN,ze,zk,zb,GS,simprocAttr,GZ,c,xZ,zA]
 | x :: rest, pre, hs => by
  have c:decide ((pre.length:Int)<(ks.length:Int))=true:=by simp[hs];omega
  have hget:(strs ks)[pre.length]? = some [.str x]:=by rw[hs];exact wA pre x rest
  have hlen:pre.length+rest.length+1≤ks.length:=by rw[hs];simp;omega
  have IH:=Yd g hB ks hl rest (pre++[x]) (by rw[hs];simp);have hk:=qg g x hB;have hlt:=aY (fun p=>keyOf p==x) g.packs;rw[show ((pre++[x]).length:Int)=(pre.length:Int)+1 by simp,show (pre++[x]).getLast? = some x by simp]at IH;rw[xZ];unfold pB;unfold vd at hk;generalize ixI (vM (fun p=>keyOf p==x) g.packs 0)=n at *;generalize (g.packs.any fun p=>keyOf p==x)=b1 at *;simp only[zy.enc,List.map_cons,List.map_nil]at hk IH ⊢;rcases wW pre with rfl|⟨pre',q,rfl⟩
  · clear hs;simp only[List.length_nil,List.getLast?_nil,ub,Int.natCast_zero,Int.zero_add]at *
    cases b1<;>simp only[Bool.not_true,Bool.not_false]at hlt
    all_goals
     refine zh func85 rfl rfl ?_;simp (disch:=(try simp only[LL]);omega) only[↓GO,↓DRW,GA,GX,ren,zj,za,refs,z7,cst,zm,isC,bin,una,z6,zd,blt,asArg,zg,zc,zf,z1,zn,unN,ze,zk,zb,GS,simprocAttr,GZ,zo,c,hget,zi,hk,hlt,IH,Int.zero_add,zA]
  · have hprev:uJ (strs ks) (((pre'++[q]).length:Int) - 1)=some [.str q]:=by rw[hs];exact tW (fun s=>[T.str s]) pre' q (x::rest)
    have hge:1≤(pre'++[q]).length:=by simp
    have hgt:decide (((pre'++[q]).length:Int) > 0)=true:=by simp only[decide_eq_true_eq];omega
    have hcmp:=qd x q;rw[show (pre'++[q]).getLast? = some q by simp];simp only[ub];clear hs;generalize (pre'++[q]).length=m at *
    cases b1<;>simp only[Bool.not_true,Bool.not_false]at hlt<;>cases h2:Op.bytesLess q x<;>rw[h2]at hcmp
    all_goals
     refine zh func85 rfl rfl ?_;simp (disch:=(try simp only[LL]);omega) only[↓GO,↓DRW,GA,GX,ren,zj,za,refs,z7,cst,zm,isC,bin,una,z6,zd,blt,asArg,zg,zc,zf,z1,zn,unN,ze,zk,zb,GS,simprocAttr,GZ,zo,c,hget,zi,hk,hlt,hgt,hprev,hcmp,IH,zA]
theorem YT (g:zy)(hB:GB g)(ks:List Str)(hl:ks.length≤1048576):zr (EV prog pol) 85 [.agg (g.enc.map .t),.t (.list 1 (strs ks))]=some (.t (.bool (xZ g.packs none ks))):=by
 have L:=Yd g hB ks hl ks [] rfl;simp only[List.length_nil,Int.natCast_zero,List.getLast?_nil]at L;simp only[zy.enc,List.map_cons,List.map_nil]at L ⊢
 cases h:xZ g.packs none ks<;>rw[h]at L<;>simp only[cond_true,cond_false]at L
 all_goals
  apply zu;refine zx rfl func85 rfl (by kernel_rfl) ?_;unfold Tryz.f85;simp (disch:=(try simp only[LL]);omega) only[↓GO,↓DRW,GA,GX,ren,zj,za,refs,z7,cst,zm,isC,bin,una,z6,zd,blt,asArg,zg,zc,zf,z1,zn,unN,ze,zk,zb,GS,simprocAttr,GZ,L,zo,zA]
theorem Yc (g:zy)(hB:GB g)(ks:List Str)(hl:ks.length≤1048576):∀ (rest pre:List Str),ks=pre++rest →
 EV prog pol (.loop 83 26 0 [.t (.list 1 (strs ks)),.ptr 0 0 0,.t (.int .i64 (pre.length:Int))] [.vs 2 [g.enc.map .t]])=some (cond (xZ g.packs pre.getLast? rest) (.loop (.exit 0) [.bad] []) (.loop .ret [.t (.bool false)] []))
 | [],pre,hs=>by
  have c:decide ((pre.length:Int)<(ks.length:Int))=false:=by simp[hs]
  simp only[zy.enc,List.map_cons,List.map_nil];refine zh func83 rfl rfl ?_;simp (disch:=(try simp only[LL]);omega) only[↓GO,↓DRW,GA,GX,ren,zj,za,refs,z7,cst,zm,isC,bin,una,z6,zd,blt,asArg,zg,zc,zf,z1,zn,unN,ze,zk,zb,GS,simprocAttr,GZ,c,zo,xZ,zA]
 | x :: rest, pre, hs => by
  have c:decide ((pre.length:Int)<(ks.length:Int))=true:=by simp[hs];omega
  have hget:(strs ks)[pre.length]? = some [.str x]:=by rw[hs];exact wA pre x rest
  have hlen:pre.length+rest.length+1≤ks.length:=by rw[hs];simp;omega
  have IH:=Yc g hB ks hl rest (pre++[x]) (by rw[hs];simp);have hk:=fY g x hB;have hlt:=aY (fun p=>keyOf p==x) g.packs;rw[show ((pre++[x]).length:Int)=(pre.length:Int)+1 by simp,show (pre++[x]).getLast? = some x by simp]at IH;rw[xZ];unfold pB;unfold vd at hk;generalize ixI (vM (fun p=>keyOf p==x) g.packs 0)=n at *;generalize (g.packs.any fun p=>keyOf p==x)=b1 at *;simp only[zy.enc,List.map_cons,List.map_nil]at hk IH ⊢;rcases wW pre with rfl|⟨pre',q,rfl⟩
  · clear hs;simp only[List.length_nil,List.getLast?_nil,ub,Int.natCast_zero,Int.zero_add]at *
    cases b1<;>simp only[Bool.not_true,Bool.not_false]at hlt
    all_goals
     refine zh func83 rfl rfl ?_;simp (disch:=(try simp only[LL]);omega) only[↓GO,↓DRW,GA,GX,ren,zj,za,refs,z7,cst,zm,isC,bin,una,z6,zd,blt,asArg,zg,zc,zf,z1,zn,unN,ze,zk,zb,GS,simprocAttr,GZ,zo,c,hget,zi,hk,hlt,IH,Int.zero_add,zA]
  · have hprev:uJ (strs ks) (((pre'++[q]).length:Int) - 1)=some [.str q]:=by rw[hs];exact tW (fun s=>[T.str s]) pre' q (x::rest)
    have hge:1≤(pre'++[q]).length:=by simp
    have hgt:decide (((pre'++[q]).length:Int) > 0)=true:=by simp only[decide_eq_true_eq];omega
    rw[show (pre'++[q]).getLast? = some q by simp];simp only[ub];clear hs;generalize (pre'++[q]).length=m at *
    cases b1<;>simp only[Bool.not_true,Bool.not_false]at hlt<;>cases h2:Op.bytesLess q x
    all_goals
     refine zh func83 rfl rfl ?_;simp (disch:=(try simp only[LL]);omega) only[↓GO,↓DRW,GA,GX,ren,zj,za,refs,z7,cst,zm,isC,bin,una,z6,zd,blt,asArg,zg,zc,zf,z1,zn,unN,ze,zk,zb,GS,simprocAttr,GZ,zo,c,hget,zi,hk,hlt,hgt,hprev,h2,IH,zA]
theorem YS (g:zy)(hB:GB g)(ks:List Str)(hl:ks.length≤1048576):zr (EV prog pol) 83 [.agg (g.enc.map .t),.t (.list 1 (strs ks))]=some (.t (.bool (xZ g.packs none ks))):=by
 have L:=Yc g hB ks hl ks [] rfl;simp only[List.length_nil,Int.natCast_zero,List.getLast?_nil]at L;simp only[zy.enc,List.map_cons,List.map_nil]at L ⊢
 cases h:xZ g.packs none ks<;>rw[h]at L<;>simp only[cond_true,cond_false]at L
 all_goals
  apply zu;refine zx rfl func83 rfl (by kernel_rfl) ?_;unfold Tryz.f83;simp (disch:=(try simp only[LL]);omega) only[↓GO,↓DRW,GA,GX,ren,zj,za,refs,z7,cst,zm,isC,bin,una,z6,zd,blt,asArg,zg,zc,zf,z1,zn,unN,ze,zk,zb,GS,simprocAttr,GZ,L,zo,zA]
def X7 (s:zH):Prop:=s.alg.length≤8∧s.bytes.length≤64
def rH:List Str:=[[104,49],[115,104,97,49],[115,104,97,50,53,54],[115,104,97,53,49,50]]
theorem ve (bs:List Int)(hb:okB bs)(i:Nat)(a:Str)(n:Nat)(hn:n≤64)(hi:i<4)(ha:rH[i]? = some a)(hl:tu a=(n:Int))(hal:a.length≤8)(c:Cs)(hc:cok bs c)(out:List zH)(cap:Option Nat)(ho:out.length≤4) :
 ∃ (c1:Cs) (out1:List zH) (cap1:Option Nat),cok bs c1∧(out1=out∨∃ s,X7 s∧out1=out++[s])∧∀ R,EV prog pol (.loop 202 122 1 [.ptr 0 0 0,.sl 1 0 out1.length cap1,.sl 2 0 4 (some 4),.t (.int .i64 ((i+1:Nat):Int))] [cuR bs c1,.ts 2 (zH.zq out1),.ts 1 (strs rH)])=some R →
  EV prog pol (.loop 202 122 1 [.ptr 0 0 0,.sl 1 0 out.length cap,.sl 2 0 4 (some 4),.t (.int .i64 (i:Int))] [cuR bs c,.ts 2 (zH.zq out),.ts 1 (strs rH)])=some R:=by
 have c0:decide ((i:Int)<4)=true:=by apply decide_eq_true;omega
 have c00:decide ((0:Int)≤(i:Int))=true:=by apply decide_eq_true;omega
 have hol:=zH.zz out;obtain⟨b,c1,hc1,d1⟩:=vR bs hb c hc 3 (by decide) (by decide);simp only[Int.cast_ofNat_Int]at d1
 cases b with
 | false =>
  refine⟨c1,out,cap,hc1,.inl rfl,fun R e=>?_⟩;rw[show ((i+1:Nat):Int)=(i:Int)+1 by omega]at e;unfold cuR at *;generalize zH.zq out=E0 at *;generalize strs rH=E1 at *;refine zh func202 rfl rfl ?_;simp (disch:=(try simp only[LL]);omega) only[↓GO,↓DRW,GA,GX,ren,zj,za,refs,z7,cst,zm,isC,bin,una,z6,zd,blt,asArg,zg,zc,zf,z1,zn,unN,ze,zk,zb,GS,simprocAttr,GZ,c0,d1,zi,zA,e]
 | true =>
  have d2:=RP a;rw[hl]at d2;obtain⟨s,c2,hs,hc2,d3⟩:=Qv bs hb c1 hc1 n hn;have hget:(strs rH)[i]? = some [.str a]:=by unfold strs;rw[List.getElem?_map,ha];rfl
  refine⟨c2,out++[⟨a,s⟩],none,hc2,.inr ⟨⟨a,s⟩,⟨hal,by simp only;omega⟩,rfl⟩,fun R e=>?_⟩;rw[show ((i+1:Nat):Int)=(i:Int)+1 by omega,show zH.zq (out++[⟨a,s⟩])=zH.zq out++[[.str a,.str s]] by simp[zH.zq,zH.enc],List.length_append,List.length_singleton]at e;unfold cuR at *;generalize zH.zq out=E0 at *;generalize strs rH=E1 at *;refine zh func202 rfl rfl ?_;simp (disch:=(try simp only[LL]);omega) only[↓GO,↓DRW,GA,GX,ren,zj,za,refs,z7,cst,zm,isC,bin,una,z6,zd,blt,asArg,zg,zc,zf,z1,zn,unN,ze,zk,zb,GS,simprocAttr,GZ,c0,c00,d1,d2,d3,hget,hol,zi,y6,zA,e]
  all_goals (repeat (refine zT (by kernel_rfl) ?_))
  all_goals (first|rfl|(simp (disch:=(try simp only[LL]);omega) only[↓GO,↓DRW,GA,GX,ren,zj,za,refs,z7,cst,zm,isC,bin,una,z6,zd,blt,asArg,zg,zc,zf,z1,zn,unN,ze,zk,zb,GS,simprocAttr,GZ,c0,c00,d1,d2,d3,hget,hol,zi,y6,zA,e]))
theorem ia (bs:List Int)(c:Cs)(out:List zH)(cap:Option Nat):EV prog pol (.loop 202 122 1 [.ptr 0 0 0,.sl 1 0 out.length cap,.sl 2 0 4 (some 4),.t (.int .i64 4)] [cuR bs c,.ts 2 (zH.zq out),.ts 1 (strs rH)])
 = some (.loop (.exit 0) [.sl 1 0 out.length cap] [cuR bs c,.ts 2 (zH.zq out)]):=by
 have hol:=zH.zz out;unfold cuR;generalize zH.zq out=E0 at *;generalize strs rH=E1 at *;refine zh func202 rfl rfl ?_;simp (disch:=(try simp only[LL]);omega) only[↓GO,↓DRW,GA,GX,ren,zj,za,refs,z7,cst,zm,isC,bin,una,z6,zd,blt,asArg,zg,zc,zf,z1,zn,unN,ze,zk,zb,GS,simprocAttr,GZ,zA]
def sF (k:Nat)(l:List zH):Prop:=l.length≤k∧∀ s∈l,X7 s
theorem xR {k:Nat}{l l1:List zH}(h:sF k l)(h1:l1=l∨∃ s,X7 s∧l1=l++[s]):sF (k+1) l1:=by
 obtain⟨h2,h3⟩:=h;rcases h1 with rfl|⟨s,hs,rfl⟩
 · exact⟨by omega,h3⟩
 · refine⟨by simp;omega,fun x hx=>?_⟩;rcases List.mem_append.1 hx with hx|hx
   · exact h3 x hx
   · rw[List.mem_singleton.1 hx];exact hs
theorem Qw (bs:List Int)(hb:okB bs)(c:Cs)(hc:cok bs c):∃ (l:List zH) (c':Cs) (cap:Option Nat),sF 4 l∧cok bs c' ∧
 EV prog pol (.callO false 202 [.ptr 0 0 0] [cuR bs c])=some (.call (.sl 1 0 l.length cap) [cuR bs c',.ts 2 (zH.zq l)]):=by
 have s0:sF 0 []:=⟨Nat.le_refl _,fun s hs=>by simp at hs⟩;obtain⟨c1,o1,p1,h1,e1,g1⟩:=ve bs hb 0 _ 32 (by decide) (by decide) (show rH[0]? = some [104,49] from rfl) (by decide) (by decide) c hc [] (some 0) (by decide);have s1:=xR s0 e1;obtain⟨c2,o2,p2,h2,e2,g2⟩:=ve bs hb 1 _ 20 (by decide) (by decide) (show rH[1]? = some [115,104,97,49] from rfl) (by decide) (by decide) c1 h1 o1 p1 (by have:=s1.1;omega);have s2:=xR s1 e2;obtain⟨c3,o3,p3,h3,e3,g3⟩:=ve bs hb 2 _ 32 (by decide) (by decide) (show rH[2]? = some [115,104,97,50,53,54] from rfl) (by decide) (by decide) c2 h2 o2 p2 (by have:=s2.1;omega);have s3:=xR s2 e3;obtain⟨c4,o4,p4,h4,e4,g4⟩:=ve bs hb 3 _ 64 (by decide) (by decide) (show rH[3]? = some [115,104,97,53,49,50] from rfl) (by decide) (by decide) c3 h3 o3 p3 (by have:=s3.1;omega);have s4:=xR s3 e4;have L:=g1 _ (g2 _ (g3 _ (g4 _ (ia bs c4 o4 p4))));refine⟨o4,c4,p4,s4,h4,?_⟩;simp only[List.length_nil,Int.natCast_zero,show zH.zq []=[] from rfl,show strs rH=[[.str [104,49]],[.str [115,104,97,49]],[.str [115,104,97,50,53,54]],[.str [115,104,97,53,49,50]]] from rfl]at L;clear g1 g2 g3 g4 e1 e2 e3 e4 s1 s2 s3 s4 s0 hb;unfold cuR at *;refine zM func202 rfl (by kernel_rfl) ?_;unfold Tryz.f202;simp (disch:=(try simp only[LL]);omega) only[↓GO,↓DRW,GA,GX,ren,zj,za,refs,z7,cst,zm,isC,bin,una,z6,zd,blt,asArg,zg,zc,zf,z1,zn,unN,ze,zk,zb,GS,simprocAttr,GZ,L,zA]
def smP (k:Nat)(p:z8):Prop:=p.name.length≤32∧p.version.length≤300∧p.source.length≤32∧sF 5 p.sums∧p.zB.length≤k∧∀ s∈p.zB,s.length≤400
theorem QC (bs:List Int)(hb:okB bs)(c:Cs)(hc:cok bs c):∃ (p:z8) (c':Cs) (cap:Option Nat),smP 0 p∧cok bs c' ∧
 EV prog pol (.callO false 195 [.ptr 0 0 0] [cuR bs c])=some (.call (.agg [.t (.str p.name),.t (.str p.version),.t (.str p.source),.sl 1 0 p.sums.length cap,.t (.bool p.dev),.nil 1]) [cuR bs c',.ts 2 (zH.zq p.sums)]):=by
 obtain⟨nm,c1,hn,h1,d1⟩:=UJ bs hb c hc;obtain⟨vr,c2,hv,h2,d2⟩:=fW bs hb c1 h1;obtain⟨sm,c3,cap,hs,h3,d3⟩:=Qw bs hb c2 h2;obtain⟨dv,c4,h4,d4⟩:=vR bs hb c3 h3 4 (by decide) (by decide);obtain⟨b,c5,h5,d5⟩:=vR bs hb c4 h4 2 (by decide) (by decide);simp only[Int.cast_ofNat_Int]at d4 d5;have hs5:sF 5 sm:=⟨by have:=hs.1;omega,hs.2⟩;have hol:=zH.zz sm
 cases b with
 | false =>
  refine⟨⟨nm,vr,[],sm,dv,[]⟩,c5,cap,⟨hn,hv,by simp,hs5,Nat.le_refl _,fun s hs=>by simp at hs⟩,h5,?_⟩;simp only;clear hb hn hv hs hs5;unfold cuR at *;generalize zH.zq sm=E0 at *;refine zM func195 rfl (by kernel_rfl) ?_;unfold Tryz.f195;simp (disch:=(try simp only[LL]);omega) only[↓GO,↓DRW,GA,GX,ren,zj,za,refs,z7,cst,zm,isC,bin,una,z6,zd,blt,asArg,zg,zc,zf,z1,zn,unN,ze,zk,zb,GS,simprocAttr,GZ,d1,d2,d3,d4,d5,zA]
 | true =>
  obtain⟨s,c6,hs0,h6,d6⟩:=uP bs hb c5 h5 [[104,116,116,112,115,58,47,47,114,101,103,46,111,114,103,47,120,46,116,103,122],[103,105,116,43,115,115,104,58,120],[46]] 3 rfl (by decide) (by decide) (some 3);have hsl:s.length≤32:=by
   simp only[List.mem_cons,List.not_mem_nil,or_false]at hs0;rcases hs0 with rfl|rfl|rfl<;>decide
  refine⟨⟨nm,vr,s,sm,dv,[]⟩,c6,cap,⟨hn,hv,hsl,hs5,Nat.le_refl _,fun s hs=>by simp at hs⟩,h6,?_⟩;simp only[strs,List.map_cons,List.map_nil]at d6 ⊢;clear hb hn hv hs hs5 hs0;unfold cuR at *;generalize zH.zq sm=E0 at *;refine zM func195 rfl (by kernel_rfl) ?_;unfold Tryz.f195;simp (disch:=(try simp only[LL]);omega) only[↓GO,↓DRW,GA,GX,ren,zj,za,refs,z7,cst,zm,isC,bin,una,z6,zd,blt,asArg,zg,zc,zf,z1,zn,unN,ze,zk,zb,GS,simprocAttr,GZ,d1,d2,d3,d4,d5,d6,zA]
def ocE (es:List (List T)):List (List V):=es.map fun e=>e.map oc
theorem vu (es:List (List T)):(ocE es).length=es.length:=by simp[ocE]
theorem oe (x:List T)(b:List (List T)):ocE (x::b)=x.map oc::ocE b:=rfl
theorem TN (x:T):refs (oc x)=[]:=by cases x<;>rfl
theorem ck:∀ e:List T,refs.refss (e.map oc)=[]
 | []=>rfl
 | x::e=>by simp only[List.map_cons,refs.refss,TN,ck e,List.nil_append]
theorem od:∀ es:List (List T),(ocE es).flatMap refs.refss=[]
 | []=>rfl
 | e::es=>by rw[oe,List.flatMap_cons,ck,od es];rfl
theorem Qe (m:Nat→Option Nat)(x:T):ren m (oc x)=oc x:=by cases x<;>rfl
theorem ZK (m:Nat→Option Nat):∀ e:List T,ren.rens m (e.map oc)=e.map oc
 | []=>rfl
 | x::e=>by simp only[List.map_cons,ren.rens,Qe,ZK m e]
theorem lk (m:Nat→Option Nat):∀ es:List (List T),(ocE es).map (ren.rens m)=ocE es
 | []=>rfl
 | e::es=>by rw[oe,List.map_cons,ZK,lk m es]
theorem oI {α:Type}(A B:List α)(x:α)(n:Nat)(h:A.length=n):(A++x::B)[n]? = some x:=by
 rw[List.getElem?_append_right (by omega),h,Nat.sub_self];rfl
theorem oH {α:Type}(A B:List α)(x y:α)(n:Nat)(h:A.length=n):(A++x::B).set n y=A++y::B:=by
 rw[List.set_append_right _ _ (by omega),h,Nat.sub_self];rfl
theorem gv_oc (x:T):gvC (oc x)=some x:=by cases x<;>rfl
theorem UC:∀ e:List T,oN (e.map oc)=some e
 | []=>rfl
 | x::e=>by simp only[List.map_cons,oN,gv_oc,UC e]
theorem Z3:∀ es:List (List T),gvE (ocE es)=some es
 | []=>rfl
 | e::es=>by rw[oe];simp only[gvE,UC,Z3 es]
theorem Wu (h:Heap)(x:T):zg h (oc x)=some x:=by cases x<;>rfl
theorem dD (h:Heap):∀ e:List T,xX h (e.map oc)=some e
 | []=>rfl
 | x::e=>by simp only[List.map_cons,xX,Wu,dD h e]
theorem kO (h:Heap):∀ es:List (List T),uS h (ocE es)=some es
 | []=>rfl
 | e::es=>by rw[oe];simp only[uS,dD,kO h es]
theorem xj:∀ l:List Str,qp (strs l)=true
 | []=>rfl
 | x::l=>by
  have:=xj l;unfold qp strs at this ⊢;rw[List.map_cons,List.all_cons,this];rfl
theorem tM (a:List Tr)(x:Tr):Tr.zq (a++[x])=Tr.zq a++[x.enc]:=by simp[Tr.lu]
def ixS (key:Str):Nat→List Str→Int
 | _,[]=>-1
 | i,k::r=>cond (k==key) (i:Int) (ixS key (i+1) r)
theorem Yi (key:Str):∀ (r:List Str) (i:Nat),ixS key i r = -1∨((i:Int)≤ixS key i r∧ixS key i r<((i+r.length:Nat):Int))
 | [],i=>.inl rfl
 | k :: r, i => by
  rw[ixS]
  cases hk:(k==key) with
  | true=>right;simp only[cond_true,List.length_cons];omega
  | false =>
   simp only[cond_false,List.length_cons];rcases Yi key r (i+1) with h|h
   · exact .inl h
   · right;omega
theorem l_ix (key:Str)(ks:List Str)(hl:ks.length≤1048576):∀ (rest pre:List Str),ks=pre++rest→∃ x,
 EV prog pol (.loop 81 26 0 [.t (.list 1 (strs ks)),.t (.str key),.t (.int .i64 (ks.length:Int)),.t (.int .i64 (pre.length:Int))] [])=some (cond (decide (ixS key pre.length rest≥0)) (.loop .ret [.t (.int .i64 (ixS key pre.length rest))] []) (.loop (.exit 0) [x] []))
 | [],pre,hs=>by
  have c:decide ((pre.length:Int)<(ks.length:Int))=false:=by simp[hs]
  refine⟨.bad,?_⟩
  show _=some (w7.loop (.exit 0) [.bad] [])
  refine zh func81 rfl rfl ?_;simp (disch:=(try simp only[LL]);omega) only[↓GO,↓DRW,GA,GX,ren,zj,za,refs,z7,cst,zm,isC,bin,una,z6,zd,blt,asArg,zg,zc,zf,z1,zn,unN,ze,zk,zb,GS,simprocAttr,GZ,c]
 | x::rest,pre,hs=>by
  have c:decide ((pre.length:Int)<(ks.length:Int))=true:=by simp[hs];omega
  have hget:(strs ks)[pre.length]? = some [.str x]:=by rw[hs];simp[strs]
  have hlen:pre.length+rest.length+1≤ks.length:=by rw[hs];simp;omega
  obtain⟨y,IH⟩:=l_ix key ks hl rest (pre++[x]) (by rw[hs];simp);refine⟨y,?_⟩;rw[show ((pre++[x]).length:Int)=(pre.length:Int)+1 by simp,show (pre++[x]).length=pre.length+1 by simp]at IH;have hsym:(key==x)=(x==key):=by rw[Bool.eq_iff_iff];simp only[beq_iff_eq];exact eq_comm
  clear hs;rw[ixS]
  cases hk:(x==key)<;>rw[hk]at hsym
  · simp only[cond_false];refine zh func81 rfl rfl ?_;simp (disch:=(try simp only[LL]);omega) only[↓GO,↓DRW,GA,GX,ren,zj,za,refs,z7,cst,zm,isC,bin,una,z6,zd,blt,asArg,zg,zc,zf,z1,zn,unN,ze,zk,zb,GS,simprocAttr,GZ,c,hget,zi,hsym,IH]
  · simp only[cond_true,show decide (((pre.length:Nat):Int)≥0)=true by simp];refine zh func81 rfl rfl ?_;simp (disch:=(try simp only[LL]);omega) only[↓GO,↓DRW,GA,GX,ren,zj,za,refs,z7,cst,zm,isC,bin,una,z6,zd,blt,asArg,zg,zc,zf,z1,zn,unN,ze,zk,zb,GS,simprocAttr,GZ,c,hget,zi,hsym]
theorem c_ix (key:Str)(ks:List Str)(hl:ks.length≤1048576):zr (EV prog pol) 81 [.t (.list 1 (strs ks)),.t (.str key)]=some (.t (.int .i64 (ixS key 0 ks))):=by
 obtain⟨x,L⟩:=l_ix key ks hl ks [] rfl;have hr:=Yi key ks 0;simp only[List.length_nil,Int.natCast_zero]at L
 cases hd:decide (ixS key 0 ks≥0) with
 | true =>
  rw[hd]at L;simp only[cond_true]at L;apply zu;refine zx rfl func81 rfl (by kernel_rfl) ?_;unfold Tryz.f81;simp (disch:=(try simp only[LL]);omega) only[↓GO,↓DRW,GA,GX,ren,zj,za,refs,z7,cst,zm,isC,bin,una,z6,zd,blt,asArg,zg,zc,zf,z1,zn,unN,ze,zk,zb,GS,simprocAttr,GZ,L,zo]
 | false =>
  rw[hd]at L;have h:=of_decide_eq_false hd;rw[show ixS key 0 ks = -1 by omega];simp only[cond_false]at L;apply zu;refine zx rfl func81 rfl (by kernel_rfl) ?_;unfold Tryz.f81;simp (disch:=(try simp only[LL]);omega) only[↓GO,↓DRW,GA,GX,ren,zj,za,refs,z7,cst,zm,isC,bin,una,z6,zd,blt,asArg,zg,zc,zf,z1,zn,unN,ze,zk,zb,GS,simprocAttr,GZ,L,zo]
def zt:Tr:=.mk 0 0 [] [] []
theorem xT:∀ l:List zH,qp (zH.zq l)=true
 | []=>rfl
 | x::l=>by
  have:=xT l;unfold qp zH.zq at this ⊢;rw[List.map_cons,List.all_cons,this];rfl
theorem lU (a:List z8)(x:z8):z8.zq (a++[x])=z8.zq a++[x.enc]:=by simp[z8.zq]
theorem lV {p:z8}{n:Nat}(h:p.y0≤n):p.zB.length≤n∧yc p.zB≤n∧p.sums.length≤n∧zH.yp p.sums≤n∧p.name.length≤n∧p.version.length≤n∧p.source.length≤n:=by
 unfold z8.y0 at h;omega
theorem Uq (g:zy)(hB:GB g):∀ (rest pre:List z8),g.packs=pre++rest →
 EV prog pol (.loop 22 26 0 [.ptr 0 0 0,.t (.list 6 (z8.zq g.packs)),.t (.int .i64 (g.packs.length:Int)),.t (.int .i64 (pre.length:Int))] [.vs 2 [g.enc.map .t]])=some (cond (wk g.packs (pre.getLast?.map keyOf) rest) (.loop (.exit 0) [.ptr 0 0 0,.bad] [.vs 2 [g.enc.map .t]]) (.loop .ret [.ptr 0 0 0,.t (.bool false)] [.vs 2 [g.enc.map .t]]))
 | [],pre,hs=>by
  have c:decide ((pre.length:Int)<(g.packs.length:Int))=false:=by simp[hs]
  simp only[zy.enc,List.map_cons,List.map_nil];refine zh func22 rfl rfl ?_;simp (disch:=(try simp only[LL]);omega) only[↓GO,↓DRW,GA,GX,ren,zj,za,refs,z7,cst,zm,isC,bin,una,z6,zd,blt,asArg,zg,zc,zf,z1,zn,unN,ze,zk,zb,GS,simprocAttr,GZ,c,wk,zA]
 | x :: rest, pre, hs => by
  obtain⟨b1,b2,b3⟩:=hB.len;have c:decide ((pre.length:Int)<(g.packs.length:Int))=true:=by simp[hs];omega
  have hget:(z8.zq g.packs)[pre.length]? = some x.enc:=by rw[hs];exact sD z8.enc pre x rest
  have hlen:pre.length+rest.length+1≤g.packs.length:=by rw[hs];simp;omega
  have hxb:=b3 x (by rw[hs];simp);have IH:=Uq g hB rest (pre++[x]) (by rw[hs];simp);have h1:=SF x hxb;have h2:=ey x (by omega);have h3:=YT g hB x.zB (lV hxb).1;rw[show ((pre++[x]).length:Int)=(pre.length:Int)+1 by simp,show (pre++[x]).getLast?.map keyOf=some (keyOf x) by simp]at IH;rw[wk];generalize vN x=a1 at *;generalize xZ g.packs none x.zB=a2 at *;rcases wW pre with rfl|⟨pre',q,rfl⟩
  · clear hs;generalize keyOf x=kx at *;simp only[List.length_nil,List.getLast?_nil,Option.map_none,ub,Int.natCast_zero,Int.zero_add]at *;simp only[zy.enc,z8.enc,List.map_cons,List.map_nil]at hget h1 h2 h3 IH ⊢
    cases a1<;>cases a2
    all_goals
     refine zh func22 rfl rfl ?_;simp (disch:=(try simp only[LL]);omega) only[↓GO,↓DRW,GA,GX,ren,zj,za,refs,z7,cst,zm,isC,bin,una,z6,zd,blt,asArg,zg,zc,zf,z1,zn,unN,ze,zk,zb,GS,simprocAttr,GZ,z8.zz,c,hget,zi,h1,h2,h3,IH,Int.zero_add,zA]
  · have hprev:uJ (z8.zq g.packs) (((pre'++[q]).length:Int) - 1)=some q.enc:=by rw[hs];exact tW z8.enc pre' q (x::rest)
    have h4:=ey q (by have:=b3 q (by rw[hs];simp);omega);have hge:1≤(pre'++[q]).length:=by simp
    have hgt:decide (((pre'++[q]).length:Int) > 0)=true:=by simp only[decide_eq_true_eq];omega
    have hcmp:=qd (keyOf x) (keyOf q);rw[show (pre'++[q]).getLast?.map keyOf=some (keyOf q) by simp];simp only[ub];clear hs;generalize (pre'++[q]).length=m at *;generalize keyOf x=kx at *;generalize keyOf q=kq at *;simp only[zy.enc,z8.enc,List.map_cons,List.map_nil]at hget hprev h1 h2 h3 h4 IH ⊢
    cases a1<;>cases a2<;>cases h5:Op.bytesLess kq kx<;>rw[h5]at hcmp
    all_goals
     refine zh func22 rfl rfl ?_;simp (disch:=(try simp only[LL]);omega) only[↓GO,↓DRW,GA,GX,ren,zj,za,refs,z7,cst,zm,isC,bin,una,z6,zd,blt,asArg,zg,zc,zf,z1,zn,unN,ze,zk,zb,GS,simprocAttr,GZ,z8.zz,c,hget,zi,h1,h2,h3,h4,hgt,hprev,hcmp,IH,zA]
theorem eA (g:zy)(hB:GB g):zr (EV prog pol) 22 [.agg (g.enc.map .t)]=some (.t (.bool (zW g))):=by
 have L:=Uq g hB g.packs [] rfl;have h3:=YT g hB g.top (by have:=hB.len;omega);simp only[List.length_nil,Int.natCast_zero,List.getLast?_nil,Option.map_none]at L;simp only[zy.enc,List.map_cons,List.map_nil]at L h3 ⊢;unfold zW;generalize xZ g.packs none g.top=a2 at *
 cases h:wk g.packs none g.packs<;>rw[h]at L<;>simp only[cond_true,cond_false]at L<;>cases h4:decide ((g.packs.length:Int)≤40)<;>cases a2
 all_goals
  apply zu;refine zx rfl func22 rfl (by kernel_rfl) ?_;unfold Tryz.f22;simp (disch:=(try simp only[LL]);omega) only[↓GO,↓DRW,GA,GX,ren,zj,za,refs,z7,cst,zm,isC,bin,una,z6,zd,blt,asArg,zg,zc,zf,z1,zn,unN,ze,zk,zb,GS,simprocAttr,GZ,L,z8.zz,h3,h4,zA]
theorem Up (g:zy)(hB:GB g):∀ (rest pre:List z8),g.packs=pre++rest →
 EV prog pol (.loop 21 26 0 [.ptr 0 0 0,.t (.int .i64 (pre.length:Int))] [.vs 2 [g.enc.map .t]])=some (cond (wk g.packs (pre.getLast?.map keyOf) rest) (.loop (.exit 0) [.ptr 0 0 0,.bad] [.vs 2 [g.enc.map .t]]) (.loop .ret [.ptr 0 0 0,.t (.bool false)] [.vs 2 [g.enc.map .t]]))
 | [],pre,hs=>by
  have c:decide ((pre.length:Int)<(g.packs.length:Int))=false:=by simp[hs]
  simp only[zy.enc,List.map_cons,List.map_nil];refine zh func21 rfl rfl ?_;simp (disch:=(try simp only[LL]);omega) only[↓GO,↓DRW,GA,GX,ren,zj,za,refs,z7,cst,zm,isC,bin,una,z6,zd,blt,asArg,zg,zc,zf,z1,zn,unN,ze,zk,zb,GS,simprocAttr,GZ,c,z8.zz,wk,zA]
 | x :: rest, pre, hs => by
  obtain⟨b1,b2,b3⟩:=hB.len;have c:decide ((pre.length:Int)<(g.packs.length:Int))=true:=by simp[hs];omega
  have hget:(z8.zq g.packs)[pre.length]? = some x.enc:=by rw[hs];exact sD z8.enc pre x rest
  have hlen:pre.length+rest.length+1≤g.packs.length:=by rw[hs];simp;omega
  have hxb:=b3 x (by rw[hs];simp);have IH:=Up g hB rest (pre++[x]) (by rw[hs];simp);have h1:=SD x hxb;have h2:=uQ x (by omega);have h3:=YS g hB x.zB (lV hxb).1;rw[show ((pre++[x]).length:Int)=(pre.length:Int)+1 by simp,show (pre++[x]).getLast?.map keyOf=some (keyOf x) by simp]at IH;rw[wk];generalize vN x=a1 at *;generalize xZ g.packs none x.zB=a2 at *;rcases wW pre with rfl|⟨pre',q,rfl⟩
  · clear hs;generalize keyOf x=kx at *;simp only[List.length_nil,List.getLast?_nil,Option.map_none,ub,Int.natCast_zero,Int.zero_add]at *;simp only[zy.enc,z8.enc,List.map_cons,List.map_nil]at hget h1 h2 h3 IH ⊢
    cases a1<;>cases a2
    all_goals
     refine zh func21 rfl rfl ?_;simp (disch:=(try simp only[LL]);omega) only[↓GO,↓DRW,GA,GX,ren,zj,za,refs,z7,cst,zm,isC,bin,una,z6,zd,blt,asArg,zg,zc,zf,z1,zn,unN,ze,zk,zb,GS,simprocAttr,GZ,z8.zz,c,hget,zi,h1,h2,h3,IH,Int.zero_add,zA]
  · have hprev:uJ (z8.zq g.packs) (((pre'++[q]).length:Int) - 1)=some q.enc:=by rw[hs];exact tW z8.enc pre' q (x::rest)
    have h4:=uQ q (by have:=b3 q (by rw[hs];simp);omega);have hge:1≤(pre'++[q]).length:=by simp
    have hgt:decide (((pre'++[q]).length:Int) > 0)=true:=by simp only[decide_eq_true_eq];omega
    rw[show (pre'++[q]).getLast?.map keyOf=some (keyOf q) by simp];simp only[ub];clear hs;generalize (pre'++[q]).length=m at *;generalize keyOf x=kx at *;generalize keyOf q=kq at *;simp only[zy.enc,z8.enc,List.map_cons,List.map_nil]at hget hprev h1 h2 h3 h4 IH ⊢
    cases a1<;>cases a2<;>cases h5:Op.bytesLess kq kx
    all_goals
     refine zh func21 rfl rfl ?_;simp (disch:=(try simp only[LL]);omega) only[↓GO,↓DRW,GA,GX,ren,zj,za,refs,z7,cst,zm,isC,bin,una,z6,zd,blt,asArg,zg,zc,zf,z1,zn,unN,ze,zk,zb,GS,simprocAttr,GZ,z8.zz,c,hget,zi,h1,h2,h3,h4,hgt,hprev,h5,IH,zA]
theorem ez (g:zy)(hB:GB g):zr (EV prog pol) 21 [.agg (g.enc.map .t)]=some (.t (.bool (zW g))):=by
 have L:=Up g hB g.packs [] rfl;have h3:=YS g hB g.top (by have:=hB.len;omega);simp only[List.length_nil,Int.natCast_zero,List.getLast?_nil,Option.map_none]at L;simp only[zy.enc,List.map_cons,List.map_nil]at L h3 ⊢;unfold zW;generalize xZ g.packs none g.top=a2 at *
 cases h:wk g.packs none g.packs<;>rw[h]at L<;>simp only[cond_true,cond_false]at L<;>cases h4:decide ((g.packs.length:Int)≤40)<;>cases a2
 all_goals
  apply zu;refine zx rfl func21 rfl (by kernel_rfl) ?_;unfold Tryz.f21;simp (disch:=(try simp only[LL]);omega) only[↓GO,↓DRW,GA,GX,ren,zj,za,refs,z7,cst,zm,isC,bin,una,z6,zd,blt,asArg,zg,zc,zf,z1,zn,unN,ze,zk,zb,GS,simprocAttr,GZ,L,z8.zz,h3,h4,zA]
def bT (b:UInt8)(s:Str):Nat→Option Nat
 | 0=>none
 | n+1=>if s[n]? = some b then some n else bT b s n
def kN (k:Str):Str×Str:=match bT 64 k k.length with
 | some n=>(k.take n,k.drop (n+1))
 | none=>([],[])
structure yU where
 low:List UInt8
 high:List UInt8
def yU.enc (x:yU):List T:=[.str x.low,.str x.high]
def yU.zq (l:List yU):List (List T):=l.map yU.enc
def yU.y0 (x:yU):Nat:=x.low.length+x.high.length
def yU.yp:List yU→Nat
 | []=>0
 | c::cs=>yU.y0 c+yU.yp cs
def yU.ok (x:yU):Prop:=x.low.length≤9223372036854775807∧x.high.length≤9223372036854775807
theorem yU.uo (x:yU):x.enc.length=2:=rfl
theorem yU.vo (x:yU):x.enc.take 2=x.enc:=rfl
theorem yU.zz (cs:List yU):(yU.zq cs).length=cs.length:=by simp[yU.zq]
theorem yU.vn (cs:List yU)(i:Nat)(h:i<cs.length):(yU.zq cs)[i]? = some cs[i].enc:=by simp[yU.zq,h]
theorem yU.yK:∀ {cs:List yU} {c:yU},c∈cs→c.y0≤yU.yp cs
 | c'::cs,c,h=>by
  simp only[yU.yp];rcases List.mem_cons.1 h with rfl|h
  · omega
  · have:=yU.yK h;omega
structure yq where
 name:List UInt8
 range:List UInt8
 text:List UInt8
def yq.enc (x:yq):List T:=[.str x.name,.str x.range,.str x.text]
def yq.zq (l:List yq):List (List T):=l.map yq.enc
def yq.y0 (x:yq):Nat:=x.name.length+x.range.length+x.text.length
def yq.yp:List yq→Nat
 | []=>0
 | c::cs=>yq.y0 c+yq.yp cs
def yq.ok (x:yq):Prop:=x.name.length≤9223372036854775807∧x.range.length≤9223372036854775807∧x.text.length≤9223372036854775807
theorem yq.uo (x:yq):x.enc.length=3:=rfl
theorem yq.vo (x:yq):x.enc.take 3=x.enc:=rfl
theorem yq.zz (cs:List yq):(yq.zq cs).length=cs.length:=by simp[yq.zq]
theorem yq.vn (cs:List yq)(i:Nat)(h:i<cs.length):(yq.zq cs)[i]? = some cs[i].enc:=by simp[yq.zq,h]
theorem yq.yK:∀ {cs:List yq} {c:yq},c∈cs→c.y0≤yq.yp cs
 | c'::cs,c,h=>by
  simp only[yq.yp];rcases List.mem_cons.1 h with rfl|h
  · omega
  · have:=yq.yK h;omega
def vb (b:UInt8):Bool:=isD b||(nb b==46||(nb b==45||preB b))
theorem om {n:Int}(h:0≤n):(Lib.itoa n).all isD=true∧Lib.itoa n≠[]:=by
 obtain⟨u,rfl⟩:∃ u:Nat,n=u:=⟨n.toNat,by omega⟩;rw[Lib.itoa_nonneg];obtain⟨a,_,c⟩:=td u;exact⟨a,c⟩
theorem oS {p q:UInt8→Bool}(h:∀ b,p b=true→q b=true){l:Str}(hl:l.all p=true):l.all q=true:=by
 rw[List.all_eq_true]at hl ⊢;exact fun x hx=>h x (hl x hx)
theorem aZ (b:UInt8)(h:isD b=true):vb b=true:=by unfold vb;rw[h];rfl
theorem ZF (b:UInt8)(h:preB b=true):vb b=true:=by unfold vb;rw[h];simp
theorem S7:∀ l:List Str,(l.all fun p=>p.all preB)=true→(Lib.join l [46]).all vb=true
 | [],_=>rfl
 | x :: r, h => by
  rw[Lib.join_cons];simp only[List.all_cons,Bool.and_eq_true]at h;rw[List.all_append,oS ZF h.1,Bool.true_and];have hr:=h.2;clear h
  induction r with
  | nil=>rfl
  | cons y r ih =>
   simp only[List.all_cons,Bool.and_eq_true]at hr;have e:Lib.joinTail [46] (y::r)=46::(y++Lib.joinTail [46] r):=by simp[Lib.joinTail]
   rw[e,List.all_cons,List.all_append,oS ZF hr.1,ih hr.2];decide
theorem Tt {v:Ver}(h:yW v=true):(y7 v).all vb=true∧∃ b r,y7 v=b::r∧isD b=true:=by
 obtain⟨h1,h2,h3,h4,_⟩:=vG h;obtain⟨a1,a2⟩:=om h1.1;obtain⟨b1,b2⟩:=om h2.1;obtain⟨c1,c2⟩:=om h3.1;have hp:(v.pre.all fun p=>p.all preB)=true:=by
  rw[List.all_eq_true]at h4 ⊢;intro x hx;have:=h4 x hx;unfold vA at this;simp only[Bool.and_eq_true]at this;exact this.2.1
 have hj:=S7 v.pre hp;have hcore:(uU v).all vb=true:=by
  unfold uU;simp only[List.all_append,oS aZ a1,oS aZ b1,oS aZ c1];decide
 refine⟨?_,?_⟩
 · unfold y7 v8;rw[h];simp only[cond_true]
   cases (v.pre==[]) with
   | true=>simpa using hcore
   | false =>
    simp only[cond_false,List.all_append,hcore,hj];decide
 · unfold y7 v8 uU;rw[h];simp only[cond_true]
   cases hi:Lib.itoa v.maj with
   | nil=>exact absurd hi a2
   | cons b r =>
    rw[hi,List.all_cons,Bool.and_eq_true]at a1
    cases (v.pre==[])<;>exact⟨b,_,rfl,a1.1⟩
def isV (s:Str):Bool:=(zJ s).2
theorem Ql {s:Str}(h:isV s=true):(∀ b∈s,vb b=true)∧∃ b r,s=b::r∧isD b=true:=by
 obtain⟨_,ht,ho,_⟩:=xf h;obtain⟨h1,h2⟩:=Tt ho;rw[ht]at h1 h2;exact⟨List.all_eq_true.1 h1,h2⟩
theorem Uy {s:Str}{c:UInt8}(hc:vb c=false)(h:c∈s):isV s=false:=by
 cases hv:isV s with
 | false=>rfl
 | true =>
  have:=(Ql hv).1 c h;rw[hc]at this;cases this
theorem vT {s:Str}(h:0≤zN s):(∀ b∈s,isD b=true)∧Lib.itoa (zN s)=s∧zN s≤999999999∧s≠[]:=by
 unfold zN at h ⊢
 split at h
 · rename_i v hv
   cases hc:((decide (0≤v)&&decide (v≤999999999))&&(Lib.itoa v==s)) with
   | false=>rw[hc]at h;simp at h
   | true =>
    have hc':=hc;simp only[Bool.and_eq_true,decide_eq_true_eq,beq_iff_eq]at hc';obtain⟨⟨q1,q2⟩,q3⟩:=hc';obtain⟨a,b⟩:=om q1;simp only[cond_true];rw[q3]at a b;exact⟨List.all_eq_true.1 a,q3,q2,b⟩
 · simp at h
theorem V5 {s:Str}(h:isV s=false):wE s=none:=by
 unfold wE;unfold isV at h;rw[h];rfl
end Go.Proofs.YtefkoljdebekdaaGreatDoor

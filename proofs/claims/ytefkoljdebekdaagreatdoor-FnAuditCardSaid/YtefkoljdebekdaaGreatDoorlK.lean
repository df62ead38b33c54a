/- Joined: J4 K4 K5 K6 A1 A3 I1 G1 I2 V3 K7 J5 M1 M2 M3 M4 M5 M6 M7 M8 M9 B1 K8 V4 K9 G3. Conditions: those of each lemma. -/
import Derived.Test.YtefkoljdebekdaaGreatDoorlJ
import Derived.Test.YtefkoljdebekdaaGreatDoorlI
set_option linter.unusedVariables false
set_option linter.unusedSimpArgs false
set_option maxRecDepth 100000
set_option maxHeartbeats 40000000
namespace Go.Proofs.YtefkoljdebekdaaGreatDoor
open Go.Proofs.Tryz
open E
def smV (v:Ver):Prop:=v.pre.length≤6∧∀ s∈v.pre,s.length≤32
def VerR (bs:List Int)(c:Cs)(v:Ver)(c':Cs):Prop :=
 (v.pre=[]∧EV prog pol (.callO false 161 [.ptr 0 0 0] [cuR bs c])=some (.call (.agg [.t (.int .i64 v.maj),.t (.int .i64 v.min),.t (.int .i64 v.pat),.nil 1]) [cuR bs c'])) ∨
 ∃ cap,EV prog pol (.callO false 161 [.ptr 0 0 0] [cuR bs c])=some (.call (.agg [.t (.int .i64 v.maj),.t (.int .i64 v.min),.t (.int .i64 v.pat),.sl 1 0 v.pre.length cap]) [cuR bs c',.ts 1 (strs v.pre)])
theorem c_ver (bs:List Int)(hb:okB bs)(c:Cs)(hc:cok bs c):∃ (v:Ver) (c':Cs),smV v∧cok bs c'∧VerR bs c v c':=by
 obtain⟨a1,c1,_,h1,d1⟩:=qQ bs hb c hc [0,1,1,2,10] 5 rfl (by decide) (by decide) (some 5);obtain⟨a2,c2,_,h2,d2⟩:=qQ bs hb c1 h1 [0,0,1,2,12] 5 rfl (by decide) (by decide) (some 5);obtain⟨a3,c3,_,h3,d3⟩:=qQ bs hb c2 h2 [0,0,1,3,9] 5 rfl (by decide) (by decide) (some 5);obtain⟨b1,c4,h4,d4⟩:=ua bs hb c3 h3 4 (by decide) (by decide);simp only[nR,List.map_cons,List.map_nil,Int.cast_ofNat_Int]at d1 d2 d3 d4
 cases b1 with
 | false =>
  obtain⟨k,y1,hk,hy1,e1⟩:=uq bs hb c4 h4 24 (by decide) (by decide);simp only[Int.cast_ofNat_Int]at e1;have hkc:k=0∨k=1∨k=2∨3≤k:=by omega
  rcases hkc with rfl|rfl|rfl|hk3
  · obtain⟨a,y2,_,hy2,e2⟩:=qQ bs hb y1 hy1 [-1,999999999,1000000000] 3 rfl (by decide) (by decide) (some 3);simp only[nR,List.map_cons,List.map_nil,Int.natCast_zero,Int.natCast_one]at e1 e2;refine⟨⟨a1,a,a3,[]⟩,y2,⟨by simp,fun s hs=>?_⟩,hy2,?_⟩
    · simp only[List.mem_cons,List.not_mem_nil,or_false]at hs
    refine .inl ⟨rfl,?_⟩;clear hb h1 h2 h3;unfold cuR at *;refine zM func161 rfl (by kernel_rfl) ?_;unfold Tryz.f161;simp (disch:=(try simp only[LL]);omega) only[↓GO,↓DRW,GA,GX,ren,zk,za,refs,z8,cst,zo,isC,bin,una,z7,zd,blt,asArg,zg,zc,zf,z6,zr,unN,ze,zm,zb,GS,simprocAttr,GZ,d1,d2,d3,d4,e1,e2,zi,yf,zA]
    all_goals (repeat (refine zR (by kernel_rfl) ?_))
    all_goals (first|rfl|(simp (disch:=(try simp only[LL]);omega) only[↓GO,↓DRW,GA,GX,ren,zk,za,refs,z8,cst,zo,isC,bin,una,z7,zd,blt,asArg,zg,zc,zf,z6,zr,unN,ze,zm,zb,GS,simprocAttr,GZ,d1,d2,d3,d4,e1,e2,zi,yf,zA]))
  · obtain⟨s,y2,hs0,hy2,e2⟩:=vD bs hb y1 hy1 [[],[48,49],[97,95,98],[49,48,48,48,48,48,48,48,48,48],[97,98,99,100,101,102,103,104,105,106,107,108,109,110,111,112,113,114,115,116],[97,98,99,100,101,102,103,104,105,106,107,108,109,110,111,112,113,114,115,116,117]] 6 rfl (by decide) (by decide) (some 6);have hsl:s.length≤32:=by
     simp only[List.mem_cons,List.not_mem_nil,or_false]at hs0;rcases hs0 with rfl|rfl|rfl|rfl|rfl|rfl<;>decide
    clear hs0;simp only[strs,List.map_cons,List.map_nil,Int.natCast_zero,Int.natCast_one]at e1 e2;refine⟨⟨a1,a2,a3,[s]⟩,y2,⟨by simp,fun s hs=>?_⟩,hy2,?_⟩
    · simp only[List.mem_cons,List.not_mem_nil,or_false]at hs;rcases hs with rfl<;>first|assumption|decide
    refine .inr ⟨none,?_⟩;simp only[strs,List.map_cons,List.map_nil,List.length_cons,List.length_nil,Nat.zero_add,Nat.reduceAdd]at *;clear hb h1 h2 h3;unfold cuR at *;refine zM func161 rfl (by kernel_rfl) ?_;unfold Tryz.f161;simp (disch:=(try simp only[LL]);omega) only[↓GO,↓DRW,GA,GX,ren,zk,za,refs,z8,cst,zo,isC,bin,una,z7,zd,blt,asArg,zg,zc,zf,z6,zr,unN,ze,zm,zb,GS,simprocAttr,GZ,d1,d2,d3,d4,e1,e2,zi,yf,zA]
    all_goals (repeat (refine zR (by kernel_rfl) ?_))
    all_goals (first|rfl|(simp (disch:=(try simp only[LL]);omega) only[↓GO,↓DRW,GA,GX,ren,zk,za,refs,z8,cst,zo,isC,bin,una,z7,zd,blt,asArg,zg,zc,zf,z6,zr,unN,ze,zm,zb,GS,simprocAttr,GZ,d1,d2,d3,d4,e1,e2,zi,yf,zA]))
  · obtain⟨b,y2,hy2,e2⟩:=ua bs hb y1 hy1 2 (by decide) (by decide);simp only[Int.cast_ofNat_Int]at e1 e2
    cases b with
    | false =>
     refine⟨⟨a1,a2,a3,[[97],[98],[99],[100],[101]]⟩,y2,⟨by simp,fun s hs=>?_⟩,hy2,?_⟩
     · simp only[List.mem_cons,List.not_mem_nil,or_false]at hs;rcases hs with rfl|rfl|rfl|rfl|rfl<;>first|assumption|decide
     refine .inr ⟨some 5,?_⟩;simp only[strs,List.map_cons,List.map_nil,List.length_cons,List.length_nil,Nat.zero_add,Nat.reduceAdd]at *;clear hb h1 h2 h3;unfold cuR at *;refine zM func161 rfl (by kernel_rfl) ?_;unfold Tryz.f161;simp (disch:=(try simp only[LL]);omega) only[↓GO,↓DRW,GA,GX,ren,zk,za,refs,z8,cst,zo,isC,bin,una,z7,zd,blt,asArg,zg,zc,zf,z6,zr,unN,ze,zm,zb,GS,simprocAttr,GZ,d1,d2,d3,d4,e1,e2,zi,yf,zA]
     all_goals (repeat (refine zR (by kernel_rfl) ?_))
     all_goals (first|rfl|(simp (disch:=(try simp only[LL]);omega) only[↓GO,↓DRW,GA,GX,ren,zk,za,refs,z8,cst,zo,isC,bin,una,z7,zd,blt,asArg,zg,zc,zf,z6,zr,unN,ze,zm,zb,GS,simprocAttr,GZ,d1,d2,d3,d4,e1,e2,zi,yf,zA]))
    | true =>
     refine⟨⟨a1,a2,a3,[[97],[98],[99],[100],[101],[102]]⟩,y2,⟨by simp,fun s hs=>?_⟩,hy2,?_⟩
     · simp only[List.mem_cons,List.not_mem_nil,or_false]at hs;rcases hs with rfl|rfl|rfl|rfl|rfl|rfl<;>first|assumption|decide
     refine .inr ⟨none,?_⟩;simp only[strs,List.map_cons,List.map_nil,List.length_cons,List.length_nil,Nat.zero_add,Nat.reduceAdd]at *;clear hb h1 h2 h3;unfold cuR at *;refine zM func161 rfl (by kernel_rfl) ?_;unfold Tryz.f161;simp (disch:=(try simp only[LL]);omega) only[↓GO,↓DRW,GA,GX,ren,zk,za,refs,z8,cst,zo,isC,bin,una,z7,zd,blt,asArg,zg,zc,zf,z6,zr,unN,ze,zm,zb,GS,simprocAttr,GZ,d1,d2,d3,d4,e1,e2,zi,yf,zA]
     all_goals (repeat (refine zR (by kernel_rfl) ?_))
     all_goals (first|rfl|(simp (disch:=(try simp only[LL]);omega) only[↓GO,↓DRW,GA,GX,ren,zk,za,refs,z8,cst,zo,isC,bin,una,z7,zd,blt,asArg,zg,zc,zf,z6,zr,unN,ze,zm,zb,GS,simprocAttr,GZ,d1,d2,d3,d4,e1,e2,zi,yf,zA]))
  · have k0:((k:Int)==0)=false:=by rw[beq_eq_false_iff_ne];omega
    have k1:((k:Int)==1)=false:=by rw[beq_eq_false_iff_ne];omega
    have k2:((k:Int)==2)=false:=by rw[beq_eq_false_iff_ne];omega
    refine⟨⟨a1,a2,a3,[]⟩,y1,⟨by simp,fun s hs=>?_⟩,hy1,?_⟩
    · simp only[List.mem_cons,List.not_mem_nil,or_false]at hs
    refine .inl ⟨rfl,?_⟩;clear hb h1 h2 h3;unfold cuR at *;refine zM func161 rfl (by kernel_rfl) ?_;unfold Tryz.f161;simp (disch:=(try simp only[LL]);omega) only[↓GO,↓DRW,GA,GX,ren,zk,za,refs,z8,cst,zo,isC,bin,una,z7,zd,blt,asArg,zg,zc,zf,z6,zr,unN,ze,zm,zb,GS,simprocAttr,GZ,d1,d2,d3,d4,e1,k0,k1,k2,zi,yf,zA]
    all_goals (repeat (refine zR (by kernel_rfl) ?_))
    all_goals (first|rfl|(simp (disch:=(try simp only[LL]);omega) only[↓GO,↓DRW,GA,GX,ren,zk,za,refs,z8,cst,zo,isC,bin,una,z7,zd,blt,asArg,zg,zc,zf,z6,zr,unN,ze,zm,zb,GS,simprocAttr,GZ,d1,d2,d3,d4,e1,k0,k1,k2,zi,yf,zA]))
 | true =>
  obtain⟨s1,c5,hs1,h5,d5⟩:=vD bs hb c4 h4 [[114,99],[98,101,116,97],[49],[48],[120,45,121]] 5 rfl (by decide) (by decide) (some 5);have hl1:s1.length≤32:=by
   simp only[List.mem_cons,List.not_mem_nil,or_false]at hs1;rcases hs1 with rfl|rfl|rfl|rfl|rfl<;>decide
  clear hs1;obtain⟨b2,c6,h6,d6⟩:=ua bs hb c5 h5 2 (by decide) (by decide);simp only[strs,List.map_cons,List.map_nil,Int.cast_ofNat_Int]at d5 d6
  cases b2 with
  | false =>
   obtain⟨k,y1,hk,hy1,e1⟩:=uq bs hb c6 h6 24 (by decide) (by decide);simp only[Int.cast_ofNat_Int]at e1;have hkc:k=0∨k=1∨k=2∨3≤k:=by omega
   rcases hkc with rfl|rfl|rfl|hk3
   · obtain⟨a,y2,_,hy2,e2⟩:=qQ bs hb y1 hy1 [-1,999999999,1000000000] 3 rfl (by decide) (by decide) (some 3);simp only[nR,List.map_cons,List.map_nil,Int.natCast_zero,Int.natCast_one]at e1 e2;refine⟨⟨a1,a,a3,[s1]⟩,y2,⟨by simp,fun s hs=>?_⟩,hy2,?_⟩
     · simp only[List.mem_cons,List.not_mem_nil,or_false]at hs;rcases hs with rfl<;>first|assumption|decide
     refine .inr ⟨some 1,?_⟩;simp only[strs,List.map_cons,List.map_nil,List.length_cons,List.length_nil,Nat.zero_add,Nat.reduceAdd]at *;clear hb h1 h2 h3 h4 h5;unfold cuR at *;refine zM func161 rfl (by kernel_rfl) ?_;unfold Tryz.f161;simp (disch:=(try simp only[LL]);omega) only[↓GO,↓DRW,GA,GX,ren,zk,za,refs,z8,cst,zo,isC,bin,una,z7,zd,blt,asArg,zg,zc,zf,z6,zr,unN,ze,zm,zb,GS,simprocAttr,GZ,d1,d2,d3,d4,d5,d6,e1,e2,zi,yf,zA]
     all_goals (repeat (refine zR (by kernel_rfl) ?_))
     all_goals (first|rfl|(simp (disch:=(try simp only[LL]);omega) only[↓GO,↓DRW,GA,GX,ren,zk,za,refs,z8,cst,zo,isC,bin,una,z7,zd,blt,asArg,zg,zc,zf,z6,zr,unN,ze,zm,zb,GS,simprocAttr,GZ,d1,d2,d3,d4,d5,d6,e1,e2,zi,yf,zA]))
   · obtain⟨s,y2,hs0,hy2,e2⟩:=vD bs hb y1 hy1 [[],[48,49],[97,95,98],[49,48,48,48,48,48,48,48,48,48],[97,98,99,100,101,102,103,104,105,106,107,108,109,110,111,112,113,114,115,116],[97,98,99,100,101,102,103,104,105,106,107,108,109,110,111,112,113,114,115,116,117]] 6 rfl (by decide) (by decide) (some 6);have hsl:s.length≤32:=by
      simp only[List.mem_cons,List.not_mem_nil,or_false]at hs0;rcases hs0 with rfl|rfl|rfl|rfl|rfl|rfl<;>decide
     clear hs0;simp only[strs,List.map_cons,List.map_nil,Int.natCast_zero,Int.natCast_one]at e1 e2;refine⟨⟨a1,a2,a3,[s1,s]⟩,y2,⟨by simp,fun s hs=>?_⟩,hy2,?_⟩
     · simp only[List.mem_cons,List.not_mem_nil,or_false]at hs;rcases hs with rfl|rfl<;>first|assumption|decide
     refine .inr ⟨none,?_⟩;simp only[strs,List.map_cons,List.map_nil,List.length_cons,List.length_nil,Nat.zero_add,Nat.reduceAdd]at *;clear hb h1 h2 h3 h4 h5;unfold cuR at *;refine zM func161 rfl (by kernel_rfl) ?_;unfold Tryz.f161;simp (disch:=(try simp only[LL]);omega) only[↓GO,↓DRW,GA,GX,ren,zk,za,refs,z8,cst,zo,isC,bin,una,z7,zd,blt,asArg,zg,zc,zf,z6,zr,unN,ze,zm,zb,GS,simprocAttr,GZ,d1,d2,d3,d4,d5,d6,e1,e2,zi,yf,zA]
     all_goals (repeat (refine zR (by kernel_rfl) ?_))
     all_goals (first|rfl|(simp (disch:=(try simp only[LL]);omega) only[↓GO,↓DRW,GA,GX,ren,zk,za,refs,z8,cst,zo,isC,bin,una,z7,zd,blt,asArg,zg,zc,zf,z6,zr,unN,ze,zm,zb,GS,simprocAttr,GZ,d1,d2,d3,d4,d5,d6,e1,e2,zi,yf,zA]))
   · obtain⟨b,y2,hy2,e2⟩:=ua bs hb y1 hy1 2 (by decide) (by decide);simp only[Int.cast_ofNat_Int]at e1 e2
     cases b with
     | false =>
      refine⟨⟨a1,a2,a3,[[97],[98],[99],[100],[101]]⟩,y2,⟨by simp,fun s hs=>?_⟩,hy2,?_⟩
      · simp only[List.mem_cons,List.not_mem_nil,or_false]at hs;rcases hs with rfl|rfl|rfl|rfl|rfl<;>first|assumption|decide
      refine .inr ⟨some 5,?_⟩;simp only[strs,List.map_cons,List.map_nil,List.length_cons,List.length_nil,Nat.zero_add,Nat.reduceAdd]at *;clear hb h1 h2 h3 h4 h5;unfold cuR at *;refine zM func161 rfl (by kernel_rfl) ?_;unfold Tryz.f161;simp (disch:=(try simp only[LL]);omega) only[↓GO,↓DRW,GA,GX,ren,zk,za,refs,z8,cst,zo,isC,bin,una,z7,zd,blt,asArg,zg,zc,zf,z6,zr,unN,ze,zm,zb,GS,simprocAttr,GZ,d1,d2,d3,d4,d5,d6,e1,e2,zi,yf,zA]
      all_goals (repeat (refine zR (by kernel_rfl) ?_))
      all_goals (first|rfl|(simp (disch:=(try simp only[LL]);omega) only[↓GO,↓DRW,GA,GX,ren,zk,za,refs,z8,cst,zo,isC,bin,una,z7,zd,blt,asArg,zg,zc,zf,z6,zr,unN,ze,zm,zb,GS,simprocAttr,GZ,d1,d2,d3,d4,d5,d6,e1,e2,zi,yf,zA]))
     | true =>
      refine⟨⟨a1,a2,a3,[[97],[98],[99],[100],[101],[102]]⟩,y2,⟨by simp,fun s hs=>?_⟩,hy2,?_⟩
      · simp only[List.mem_cons,List.not_mem_nil,or_false]at hs;rcases hs with rfl|rfl|rfl|rfl|rfl|rfl<;>first|assumption|decide
      refine .inr ⟨none,?_⟩;simp only[strs,List.map_cons,List.map_nil,List.length_cons,List.length_nil,Nat.zero_add,Nat.reduceAdd]at *;clear hb h1 h2 h3 h4 h5;unfold cuR at *;refine zM func161 rfl (by kernel_rfl) ?_;unfold Tryz.f161;simp (disch:=(try simp only[LL]);omega) only[↓GO,↓DRW,GA,GX,ren,zk,za,refs,z8,cst,zo,isC,bin,una,z7,zd,blt,asArg,zg,zc,zf,z6,zr,unN,ze,zm,zb,GS,simprocAttr,GZ,d1,d2,d3,d4,d5,d6,e1,e2,zi,yf,zA]
      all_goals (repeat (refine zR (by kernel_rfl) ?_))
      all_goals (first|rfl|(simp (disch:=(try simp only[LL]);omega) only[↓GO,↓DRW,GA,GX,ren,zk,za,refs,z8,cst,zo,isC,bin,una,z7,zd,blt,asArg,zg,zc,zf,z6,zr,unN,ze,zm,zb,GS,simprocAttr,GZ,d1,d2,d3,d4,d5,d6,e1,e2,zi,yf,zA]))
   · have k0:((k:Int)==0)=false:=by rw[beq_eq_false_iff_ne];omega
     have k1:((k:Int)==1)=false:=by rw[beq_eq_false_iff_ne];omega
     have k2:((k:Int)==2)=false:=by rw[beq_eq_false_iff_ne];omega
     refine⟨⟨a1,a2,a3,[s1]⟩,y1,⟨by simp,fun s hs=>?_⟩,hy1,?_⟩
     · simp only[List.mem_cons,List.not_mem_nil,or_false]at hs;rcases hs with rfl<;>first|assumption|decide
     refine .inr ⟨some 1,?_⟩;simp only[strs,List.map_cons,List.map_nil,List.length_cons,List.length_nil,Nat.zero_add,Nat.reduceAdd]at *;clear hb h1 h2 h3 h4 h5;unfold cuR at *;refine zM func161 rfl (by kernel_rfl) ?_;unfold Tryz.f161;simp (disch:=(try simp only[LL]);omega) only[↓GO,↓DRW,GA,GX,ren,zk,za,refs,z8,cst,zo,isC,bin,una,z7,zd,blt,asArg,zg,zc,zf,z6,zr,unN,ze,zm,zb,GS,simprocAttr,GZ,d1,d2,d3,d4,d5,d6,e1,k0,k1,k2,zi,yf,zA]
     all_goals (repeat (refine zR (by kernel_rfl) ?_))
     all_goals (first|rfl|(simp (disch:=(try simp only[LL]);omega) only[↓GO,↓DRW,GA,GX,ren,zk,za,refs,z8,cst,zo,isC,bin,una,z7,zd,blt,asArg,zg,zc,zf,z6,zr,unN,ze,zm,zb,GS,simprocAttr,GZ,d1,d2,d3,d4,d5,d6,e1,k0,k1,k2,zi,yf,zA]))
  | true =>
   obtain⟨s2,c7,hs2,h7,d7⟩:=vD bs hb c6 h6 [[49],[50],[49,48],[97]] 4 rfl (by decide) (by decide) (some 4);have hl2:s2.length≤32:=by
    simp only[List.mem_cons,List.not_mem_nil,or_false]at hs2;rcases hs2 with rfl|rfl|rfl|rfl<;>decide
   clear hs2;simp only[strs,List.map_cons,List.map_nil]at d7;obtain⟨k,y1,hk,hy1,e1⟩:=uq bs hb c7 h7 24 (by decide) (by decide);simp only[Int.cast_ofNat_Int]at e1;have hkc:k=0∨k=1∨k=2∨3≤k:=by omega
   rcases hkc with rfl|rfl|rfl|hk3
   · obtain⟨a,y2,_,hy2,e2⟩:=qQ bs hb y1 hy1 [-1,999999999,1000000000] 3 rfl (by decide) (by decide) (some 3);simp only[nR,List.map_cons,List.map_nil,Int.natCast_zero,Int.natCast_one]at e1 e2;refine⟨⟨a1,a,a3,[s1,s2]⟩,y2,⟨by simp,fun s hs=>?_⟩,hy2,?_⟩
     · simp only[List.mem_cons,List.not_mem_nil,or_false]at hs;rcases hs with rfl|rfl<;>first|assumption|decide
     refine .inr ⟨none,?_⟩;simp only[strs,List.map_cons,List.map_nil,List.length_cons,List.length_nil,Nat.zero_add,Nat.reduceAdd]at *;clear hb h1 h2 h3 h4 h5 h6;unfold cuR at *;refine zM func161 rfl (by kernel_rfl) ?_;unfold Tryz.f161;simp (disch:=(try simp only[LL]);omega) only[↓GO,↓DRW,GA,GX,ren,zk,za,refs,z8,cst,zo,isC,bin,una,z7,zd,blt,asArg,zg,zc,zf,z6,zr,unN,ze,zm,zb,GS,simprocAttr,GZ,d1,d2,d3,d4,d5,d6,d7,e1,e2,zi,yf,zA]
     all_goals (repeat (refine zR (by kernel_rfl) ?_))
     all_goals (first|rfl|(simp (disch:=(try simp only[LL]);omega) only[↓GO,↓DRW,GA,GX,ren,zk,za,refs,z8,cst,zo,isC,bin,una,z7,zd,blt,asArg,zg,zc,zf,z6,zr,unN,ze,zm,zb,GS,simprocAttr,GZ,d1,d2,d3,d4,d5,d6,d7,e1,e2,zi,yf,zA]))
   · obtain⟨s,y2,hs0,hy2,e2⟩:=vD bs hb y1 hy1 [[],[48,49],[97,95,98],[49,48,48,48,48,48,48,48,48,48],[97,98,99,100,101,102,103,104,105,106,107,108,109,110,111,112,113,114,115,116],[97,98,99,100,101,102,103,104,105,106,107,108,109,110,111,112,113,114,115,116,117]] 6 rfl (by decide) (by decide) (some 6);have hsl:s.length≤32:=by
      simp only[List.mem_cons,List.not_mem_nil,or_false]at hs0;rcases hs0 with rfl|rfl|rfl|rfl|rfl|rfl<;>decide
     clear hs0;simp only[strs,List.map_cons,List.map_nil,Int.natCast_zero,Int.natCast_one]at e1 e2;refine⟨⟨a1,a2,a3,[s1,s2,s]⟩,y2,⟨by simp,fun s hs=>?_⟩,hy2,?_⟩
     · simp only[List.mem_cons,List.not_mem_nil,or_false]at hs;rcases hs with rfl|rfl|rfl<;>first|assumption|decide
     refine .inr ⟨none,?_⟩;simp only[strs,List.map_cons,List.map_nil,List.length_cons,List.length_nil,Nat.zero_add,Nat.reduceAdd]at *;clear hb h1 h2 h3 h4 h5 h6;unfold cuR at *;refine zM func161 rfl (by kernel_rfl) ?_;unfold Tryz.f161;simp (disch:=(try simp only[LL]);omega) only[↓GO,↓DRW,GA,GX,ren,zk,za,refs,z8,cst,zo,isC,bin,una,z7,zd,blt,asArg,zg,zc,zf,z6,zr,unN,ze,zm,zb,GS,simprocAttr,GZ,d1,d2,d3,d4,d5,d6,d7,e1,e2,zi,yf,zA]
     all_goals (repeat (refine zR (by kernel_rfl) ?_))
     all_goals (first|rfl|(simp (disch:=(try simp only[LL]);omega) only[↓GO,↓DRW,GA,GX,ren,zk,za,refs,z8,cst,zo,isC,bin,una,z7,zd,blt,asArg,zg,zc,zf,z6,zr,unN,ze,zm,zb,GS,simprocAttr,GZ,d1,d2,d3,d4,d5,d6,d7,e1,e2,zi,yf,zA]))
   · obtain⟨b,y2,hy2,e2⟩:=ua bs hb y1 hy1 2 (by decide) (by decide);simp only[Int.cast_ofNat_Int]at e1 e2
     cases b with
     | false =>
      refine⟨⟨a1,a2,a3,[[97],[98],[99],[100],[101]]⟩,y2,⟨by simp,fun s hs=>?_⟩,hy2,?_⟩
      · simp only[List.mem_cons,List.not_mem_nil,or_false]at hs;rcases hs with rfl|rfl|rfl|rfl|rfl<;>first|assumption|decide
      refine .inr ⟨some 5,?_⟩;simp only[strs,List.map_cons,List.map_nil,List.length_cons,List.length_nil,Nat.zero_add,Nat.reduceAdd]at *;clear hb h1 h2 h3 h4 h5 h6;unfold cuR at *;refine zM func161 rfl (by kernel_rfl) ?_;unfold Tryz.f161;simp (disch:=(try simp only[LL]);omega) only[↓GO,↓DRW,GA,GX,ren,zk,za,refs,z8,cst,zo,isC,bin,una,z7,zd,blt,asArg,zg,zc,zf,z6,zr,unN,ze,zm,zb,GS,simprocAttr,GZ,d1,d2,d3,d4,d5,d6,d7,e1,e2,zi,yf,zA]
      all_goals (repeat (refine zR (by kernel_rfl) ?_))
      all_goals (first|rfl|(simp (disch:=(try simp only[LL]);omega) only[↓GO,↓DRW,GA,GX,ren,zk,za,refs,z8,cst,zo,isC,bin,una,z7,zd,blt,asArg,zg,zc,zf,z6,zr,unN,ze,zm,zb,GS,simprocAttr,GZ,d1,d2,d3,d4,d5,d6,d7,e1,e2,zi,yf,zA]))
     | true =>
      refine⟨⟨a1,a2,a3,[[97],[98],[99],[100],[101],[102]]⟩,y2,⟨by simp,fun s hs=>?_⟩,hy2,?_⟩
      · simp only[List.mem_cons,List.not_mem_nil,or_false]at hs;rcases hs with rfl|rfl|rfl|rfl|rfl|rfl<;>first|assumption|decide
      refine .inr ⟨none,?_⟩;simp only[strs,List.map_cons,List.map_nil,List.length_cons,List.length_nil,Nat.zero_add,Nat.reduceAdd]at *;clear hb h1 h2 h3 h4 h5 h6;unfold cuR at *;refine zM func161 rfl (by kernel_rfl) ?_;unfold Tryz.f161;simp (disch:=(try simp only[LL]);omega) only[↓GO,↓DRW,GA,GX,ren,zk,za,refs,z8,cst,zo,isC,bin,una,z7,zd,blt,asArg,zg,zc,zf,z6,zr,unN,ze,zm,zb,GS,simprocAttr,GZ,d1,d2,d3,d4,d5,d6,d7,e1,e2,zi,yf,zA]
      all_goals (repeat (refine zR (by kernel_rfl) ?_))
      all_goals (first|rfl|(simp (disch:=(try simp only[LL]);omega) only[↓GO,↓DRW,GA,GX,ren,zk,za,refs,z8,cst,zo,isC,bin,una,z7,zd,blt,asArg,zg,zc,zf,z6,zr,unN,ze,zm,zb,GS,simprocAttr,GZ,d1,d2,d3,d4,d5,d6,d7,e1,e2,zi,yf,zA]))
   · have k0:((k:Int)==0)=false:=by rw[beq_eq_false_iff_ne];omega
     have k1:((k:Int)==1)=false:=by rw[beq_eq_false_iff_ne];omega
     have k2:((k:Int)==2)=false:=by rw[beq_eq_false_iff_ne];omega
     refine⟨⟨a1,a2,a3,[s1,s2]⟩,y1,⟨by simp,fun s hs=>?_⟩,hy1,?_⟩
     · simp only[List.mem_cons,List.not_mem_nil,or_false]at hs;rcases hs with rfl|rfl<;>first|assumption|decide
     refine .inr ⟨none,?_⟩;simp only[strs,List.map_cons,List.map_nil,List.length_cons,List.length_nil,Nat.zero_add,Nat.reduceAdd]at *;clear hb h1 h2 h3 h4 h5 h6;unfold cuR at *;refine zM func161 rfl (by kernel_rfl) ?_;unfold Tryz.f161;simp (disch:=(try simp only[LL]);omega) only[↓GO,↓DRW,GA,GX,ren,zk,za,refs,z8,cst,zo,isC,bin,una,z7,zd,blt,asArg,zg,zc,zf,z6,zr,unN,ze,zm,zb,GS,simprocAttr,GZ,d1,d2,d3,d4,d5,d6,d7,e1,k0,k1,k2,zi,yf,zA]
     all_goals (repeat (refine zR (by kernel_rfl) ?_))
     all_goals (first|rfl|(simp (disch:=(try simp only[LL]);omega) only[↓GO,↓DRW,GA,GX,ren,zk,za,refs,z8,cst,zo,isC,bin,una,z7,zd,blt,asArg,zg,zc,zf,z6,zr,unN,ze,zm,zb,GS,simprocAttr,GZ,d1,d2,d3,d4,d5,d6,d7,e1,k0,k1,k2,zi,yf,zA]))
theorem O7 {v:Ver}(h:smV v):v.sm:=by
 obtain⟨h1,h2⟩:=h;have key:∀ l:List Str,(∀ s∈l,s.length≤32)→ya l≤32*l.length:=fun l=>by
  induction l with
  | nil=>intro _;exact Nat.le_refl _
  | cons x r ih =>
   intro hx;have a:=ih fun s hs=>hx s (by simp[hs])
   have b:=hx x (by simp);have e:ya (x::r)=x.length+ya r:=rfl;rw[e,List.length_cons];omega
 have:=key v.pre h2;unfold Ver.sm;omega
theorem cb {v:Ver}(h:smV v):(zS v).length≤300:=by
 unfold zS
 cases hv:yv v with
 | false=>simp
 | true =>
  rw[cond_true];have a:=iu hv;have b:=nX (u9 v) v.pre;obtain⟨h1,h2⟩:=h;have key:∀ l:List Str,(∀ s∈l,s.length≤32)→ya l≤32*l.length:=fun l=>by
   induction l with
   | nil=>intro _;exact Nat.le_refl _
   | cons x r ih =>
    intro hx;have a:=ih fun s hs=>hx s (by simp[hs])
    have b:=hx x (by simp);have e:ya (x::r)=x.length+ya r:=rfl;rw[e,List.length_cons];omega
  have:=key v.pre h2;omega
theorem nN (bs:List Int)(hb:okB bs)(c:Cs)(hc:cok bs c):∃ (s:Str) (c':Cs),s.length≤300∧cok bs c'∧EV prog pol (.callO false 96 [.ptr 0 0 0] [cuR bs c])=some (.call (.t (.str s)) [cuR bs c']):=by
 obtain⟨v,c',hv,hc',d⟩:=c_ver bs hb c hc;have d2:=ix v (O7 hv);have hl:=cb hv;refine⟨cond (zS v==[]) [49,46,48,46,48] (zS v),c',?_,hc',?_⟩
 · cases zS v==[] with
   | true=>exact (by decide:([49,46,48,46,48]:List UInt8).length≤300)
   | false=>exact hl
 have ht:(strs v.pre).take v.pre.length=strs v.pre:=by rw[← zn v.pre];simp
 unfold VerR at d;obtain⟨maj,min,pat,pre⟩:=v;simp only[Ver.enc,List.map_cons,List.map_nil]at d d2 ht ⊢;generalize zS ⟨maj,min,pat,pre⟩=s at *;unfold cuR at *;rcases d with⟨rfl,d⟩|⟨cap,d⟩
 · simp only[show strs []=[] from rfl]at d2
   cases q:(s==[]) with
   | true =>
    refine zM func96 rfl (by kernel_rfl) ?_;unfold Tryz.f96;simp (disch:=(try simp only[LL]);omega) only[↓GO,↓DRW,GA,GX,ren,zk,za,refs,z8,cst,zo,isC,bin,una,z7,zd,blt,asArg,zg,zc,zf,z6,zr,unN,ze,zm,zb,GS,simprocAttr,GZ,d,d2,q,zA]
   | false =>
    refine zM func96 rfl (by kernel_rfl) ?_;unfold Tryz.f96;simp (disch:=(try simp only[LL]);omega) only[↓GO,↓DRW,GA,GX,ren,zk,za,refs,z8,cst,zo,isC,bin,una,z7,zd,blt,asArg,zg,zc,zf,z6,zr,unN,ze,zm,zb,GS,simprocAttr,GZ,d,d2,q,zA]
 · generalize strs pre=E0 at *
   cases q:(s==[]) with
   | true =>
    refine zM func96 rfl (by kernel_rfl) ?_;unfold Tryz.f96;simp (disch:=(try simp only[LL]);omega) only[↓GO,↓DRW,GA,GX,ren,zk,za,refs,z8,cst,zo,isC,bin,una,z7,zd,blt,asArg,zg,zc,zf,z6,zr,unN,ze,zm,zb,GS,simprocAttr,GZ,d,d2,q,ht,zA]
   | false =>
    refine zM func96 rfl (by kernel_rfl) ?_;unfold Tryz.f96;simp (disch:=(try simp only[LL]);omega) only[↓GO,↓DRW,GA,GX,ren,zk,za,refs,z8,cst,zo,isC,bin,una,z7,zd,blt,asArg,zg,zc,zf,z6,zr,unN,ze,zm,zb,GS,simprocAttr,GZ,d,d2,q,ht,zA]
theorem YD (a b c:Int):Ver.sm ⟨a,b,c,[[48]]⟩:=by simp[Ver.sm,ya]
theorem iU (a b c:Int):zy (EV prog pol) 210 [.t (.int .i64 a),.t (.int .i64 b),.t (.int .i64 c)]=some (.t (.str (zY a b c))):=by
 have h:=sB ⟨a,b,c,[[48]]⟩ (YD a b c);simp only[Ver.enc,List.map_cons,List.map_nil,w4,y0]at h;unfold zY;apply zw;refine zx rfl func210 rfl (by kernel_rfl) ?_;unfold Tryz.f210;simp (disch:=(try simp only[LL]);omega) only[↓GO,↓DRW,GA,GX,ren,zk,za,refs,z8,cst,zo,isC,bin,una,z7,zd,blt,asArg,zg,zc,zf,z6,zr,unN,ze,zm,zb,GS,simprocAttr,GZ,h]
theorem Wh (v:Ver)(hs:v.sm)(hp:v.pre.length+ya v.pre≤2097150)(h0 : -1≤v.pat)(h1:v.pat≤999999999):zy (EV prog pol) 200 [.agg (v.enc.map .t)]=some (.agg [.t (.str (zS v)),.t (.str (sI v))]):=by
 have a1:=iU v.maj v.min (v.pat+1);have a2:=sB v hs;have hpv:(qj v).sm:=by
  unfold Ver.sm qj;simp only[List.length_append,List.length_cons,List.length_nil,iz,ya];omega
 have a3:=sB (qj v) hpv;unfold Ver.sm at hs;have a4:=Z7 (strs v.pre) (by rw[zn];omega);have ht:List.take (v.pre.length+1) (strs v.pre++[[T.str [48]]])=strs v.pre++[[T.str [48]]]:=List.take_of_length_le (by simp[zn]);have hg:=dP v.pre;unfold sI;rw[show (qj v).enc=[.int .i64 v.maj,.int .i64 v.min,.int .i64 v.pat,.list 1 (strs v.pre++[[.str [48]]])] by unfold Ver.enc qj;rw[sj];rfl]at a3;simp only[Ver.enc,List.map_cons,List.map_nil]at a2 a3 ⊢;rw[zn]at a4;generalize zS (qj v)=tp at *;generalize zS v=tv at *;generalize zY v.maj v.min (v.pat+1)=tz at *
 cases hb:(v.pre==[])<;>rw[hb]at hg<;>simp only[Bool.not_true,Bool.not_false]at hg
 · apply zw;refine zx rfl func200 rfl (by kernel_rfl) ?_;unfold Tryz.f200;simp (disch:=(try simp only[LL]);omega) only[↓GO,↓DRW,GA,GX,ren,zk,za,refs,z8,cst,zo,isC,bin,una,z7,zd,blt,asArg,zg,zc,zf,z6,zr,unN,ze,zm,zb,GS,simprocAttr,GZ,a1,a2,a3,a4,ht,hg,zi,zn,yf,zA]
 · apply zw;refine zx rfl func200 rfl (by kernel_rfl) ?_;unfold Tryz.f200;simp (disch:=(try simp only[LL]);omega) only[↓GO,↓DRW,GA,GX,ren,zk,za,refs,z8,cst,zo,isC,bin,una,z7,zd,blt,asArg,zg,zc,zf,z6,zr,unN,ze,zm,zb,GS,simprocAttr,GZ,a1,a2,a3,a4,ht,hg,zi,zn,yf,zA]
def exT (s:Str):List (List T):=match xB s with
 | some (l,h)=>[[.str l,.str h]]
 | none=>[]
theorem l9 (s:Str)(hl:s.length≤1048700):(zq s).1.pre.length+ya (zq s).1.pre≤1048701:=by
 unfold zq
 cases hm:wL s with
 | none=>simp[Ver.zero,ya]
 | some v =>
  have h:v.pre.length+ya v.pre≤1048701:=by
   unfold wL at hm
   split at hm
   · cases hm;have:=wB 46 (yh 45 s).2.1;have h5:=(nj 45 s).2
     cases (yh 45 s).2.2 with
     | true=>simp only[cond_true];omega
     | false=>simp[ya]
   · cases hm
  simp only
  cases (zS v==s) with
  | true=>exact h
  | false=>simp[Ver.zero,ya]
theorem c_exI (s:Str)(hl:s.length≤1048700):zy (EV prog pol) 151 [.t (.str s)]=some (.t (.list 2 (exT s))):=by
 have h1:=od s hl;obtain⟨m1,m2,m3,m4,m5,m6,m7⟩:=yz s hl;have hp:=l9 s hl;have h2:=Wh (zq s).1 m1 (by omega) m7 m6;unfold exT xB;unfold rvT at h1
 cases hk:(zq s).2 with
 | false =>
  rw[hk]at h1;generalize (zq s).1=v at *;generalize zS v=tv at *;generalize sI v=hv at *;simp only[Ver.enc,List.map_cons,List.map_nil]at h1 h2 ⊢;apply zw;refine zx rfl func151 rfl (by kernel_rfl) ?_;unfold Tryz.f151;simp (disch:=(try simp only[LL]);omega) only[↓GO,↓DRW,GA,GX,ren,zk,za,refs,z8,cst,zo,isC,bin,una,z7,zd,blt,asArg,zg,zc,zf,z6,zr,unN,ze,zm,zb,GS,simprocAttr,GZ,h1,h2]
 | true =>
  have ht:=(zZ hk).2.1;rw[ht]at h2;rw[hk]at h1;generalize (zq s).1=v at *;generalize sI v=hv at *;simp only[Ver.enc,List.map_cons,List.map_nil]at h1 h2 ⊢
  cases he:(hv==[])
  · apply zw;refine zx rfl func151 rfl (by kernel_rfl) ?_;unfold Tryz.f151;simp (disch:=(try simp only[LL]);omega) only[↓GO,↓DRW,GA,GX,ren,zk,za,refs,z8,cst,zo,isC,bin,una,z7,zd,blt,asArg,zg,zc,zf,z6,zr,unN,ze,zm,zb,GS,simprocAttr,GZ,h1,h2,he]
  · apply zw;refine zx rfl func151 rfl (by kernel_rfl) ?_;unfold Tryz.f151;simp (disch:=(try simp only[LL]);omega) only[↓GO,↓DRW,GA,GX,ren,zk,za,refs,z8,cst,zo,isC,bin,una,z7,zd,blt,asArg,zg,zc,zf,z6,zr,unN,ze,zm,zb,GS,simprocAttr,GZ,h1,h2,he]
theorem mX (a b:Int):zy (EV prog pol) 184 [.t (.int .i64 a),.t (.int .i64 b)]=some (.t (.int .i64 (xg a b))):=by
 unfold xg
 cases h1:decide (a<b)<;>cases h2:decide (a > b)
 all_goals
  apply zw;refine zx rfl func184 rfl (by kernel_rfl) ?_;unfold Tryz.f184;simp (disch:=(try simp only[LL]);omega) only[↓GO,↓DRW,GA,GX,ren,zk,za,refs,z8,cst,zo,isC,bin,una,z7,zd,blt,asArg,zg,zc,zf,z6,zr,unN,ze,zm,zb,GS,simprocAttr,GZ,h1,h2]
theorem QE (a b:Str):zy (EV prog pol) 220 [.t (.str a),.t (.str b)]=some (.t (.int .i64 (pD a b))):=by
 unfold pD
 cases h1:Op.bytesLess a b<;>cases h2:(a==b)
 all_goals
  apply zw;refine zx rfl func220 rfl (by kernel_rfl) ?_;unfold Tryz.f220;simp (disch:=(try simp only[LL]);omega) only[↓GO,↓DRW,GA,GX,ren,zk,za,refs,z8,cst,zo,isC,bin,una,z7,zd,blt,asArg,zg,zc,zf,z6,zr,unN,ze,zm,zb,GS,simprocAttr,GZ,h1,h2]
theorem OH (a b:Str)(ha:a.length≤4194304)(hb:b.length≤4194304):zy (EV prog pol) 185 [.t (.str a),.t (.str b)]=some (.t (.int .i64 (tJ a b))):=by
 have d1:=eF a (by omega);have d2:=eF b (by omega);have d3:=mX (zz a) (zz b);have d4:=QE a b;unfold tJ;generalize zz a=ra at *;generalize zz b=rb at *
 cases h1:decide (ra≥0)<;>cases h2:decide (rb≥0)
 all_goals
  apply zw;refine zx rfl func185 rfl (by kernel_rfl) ?_;unfold Tryz.f185;simp (disch:=(try simp only[LL]);omega) only[↓GO,↓DRW,GA,GX,ren,zk,za,refs,z8,cst,zo,isC,bin,una,z7,zd,blt,asArg,zg,zc,zf,z6,zr,unN,ze,zm,zb,GS,simprocAttr,GZ,d1,d2,d3,d4,h1,h2]
theorem Ol (x1 x2 x3 x4 y1 y2 y3 y4:T)(a b c:Int) :
 EV prog pol (.loop 124 58 0 [.ptr 0 0 0,.ptr 1 0 0,.sl 2 0 3 (some 3),.t (.int .i64 0)] [.vs 4 [[.t x1,.t x2,.t x3,.t x4]],.vs 4 [[.t y1,.t y2,.t y3,.t y4]],.ts 1 [[.int .i64 a],[.int .i64 b],[.int .i64 c]]])
 = some (cond (a==0) (cond (b==0) (cond (c==0) (.loop (.exit 0) [.ptr 0 0 0,.ptr 1 0 0,.bad] [.vs 4 [[.t x1,.t x2,.t x3,.t x4]],.vs 4 [[.t y1,.t y2,.t y3,.t y4]]])
  (.loop .ret [.ptr 0 0 0,.ptr 1 0 0,.t (.int .i64 c)] [.vs 4 [[.t x1,.t x2,.t x3,.t x4]],.vs 4 [[.t y1,.t y2,.t y3,.t y4]]]))
  (.loop .ret [.ptr 0 0 0,.ptr 1 0 0,.t (.int .i64 b)] [.vs 4 [[.t x1,.t x2,.t x3,.t x4]],.vs 4 [[.t y1,.t y2,.t y3,.t y4]]]))
  (.loop .ret [.ptr 0 0 0,.ptr 1 0 0,.t (.int .i64 a)] [.vs 4 [[.t x1,.t x2,.t x3,.t x4]],.vs 4 [[.t y1,.t y2,.t y3,.t y4]]])):=by
 cases h1:(a==0)
 · refine zj func124 rfl rfl ?_;simp (disch:=(try simp only[LL]);omega) only[↓GO,↓DRW,GA,GX,ren,zk,za,refs,z8,cst,zo,isC,bin,una,z7,zd,blt,asArg,zg,zc,zf,z6,zr,unN,ze,zm,zb,GS,simprocAttr,GZ,h1,bne,zi,zA]
 · refine zj func124 rfl rfl ?_;simp (disch:=(try simp only[LL]);omega) only[↓GO,↓DRW,GA,GX,ren,zk,za,refs,z8,cst,zo,isC,bin,una,z7,zd,blt,asArg,zg,zc,zf,z6,zr,unN,ze,zm,zb,GS,simprocAttr,GZ,h1,bne,zi,zA,Int.zero_add]
   cases h2:(b==0)
   · refine zj func124 rfl rfl ?_;simp (disch:=(try simp only[LL]);omega) only[↓GO,↓DRW,GA,GX,ren,zk,za,refs,z8,cst,zo,isC,bin,una,z7,zd,blt,asArg,zg,zc,zf,z6,zr,unN,ze,zm,zb,GS,simprocAttr,GZ,h2,bne,zi,zA]
   · refine zj func124 rfl rfl ?_;simp (disch:=(try simp only[LL]);omega) only[↓GO,↓DRW,GA,GX,ren,zk,za,refs,z8,cst,zo,isC,bin,una,z7,zd,blt,asArg,zg,zc,zf,z6,zr,unN,ze,zm,zb,GS,simprocAttr,GZ,h2,bne,zi,zA,Int.reduceAdd]
     cases h3:(c==0)
     · refine zj func124 rfl rfl ?_;simp (disch:=(try simp only[LL]);omega) only[↓GO,↓DRW,GA,GX,ren,zk,za,refs,z8,cst,zo,isC,bin,una,z7,zd,blt,asArg,zg,zc,zf,z6,zr,unN,ze,zm,zb,GS,simprocAttr,GZ,h3,bne,zi,zA]
     · refine zj func124 rfl rfl ?_;simp (disch:=(try simp only[LL]);omega) only[↓GO,↓DRW,GA,GX,ren,zk,za,refs,z8,cst,zo,isC,bin,una,z7,zd,blt,asArg,zg,zc,zf,z6,zr,unN,ze,zm,zb,GS,simprocAttr,GZ,h3,bne,zi,zA,Int.reduceAdd];refine zj func124 rfl rfl ?_;simp (disch:=(try simp only[LL]);omega) only[↓GO,↓DRW,GA,GX,ren,zk,za,refs,z8,cst,zo,isC,bin,una,z7,zd,blt,asArg,zg,zc,zf,z6,zr,unN,ze,zm,zb,GS,simprocAttr,GZ,zi,zA]
theorem Sd (a b:Ver)(ha:a.sm)(hb:b.sm):∀ (ra rb pa pb:List Str),a.pre=pa++ra→b.pre=pb++rb→pa.length=pb.length →
 EV prog pol (.loop 124 250 0 [.ptr 0 0 0,.ptr 1 0 0,.t (.int .i64 (pa.length:Int))] [.vs 4 [a.enc.map .t],.vs 4 [b.enc.map .t]])
 = some (match tM ra rb with
  | some n=>.loop .ret [.ptr 0 0 0,.ptr 1 0 0,.t (.int .i64 n)] [.vs 4 [a.enc.map .t],.vs 4 [b.enc.map .t]]
  | none=>.loop (.exit 2) [.ptr 0 0 0,.ptr 1 0 0,.bad] [.vs 4 [a.enc.map .t],.vs 4 [b.enc.map .t]])
 | [],rb,pa,pb,h1,h2,h3=>by
  have c:decide ((pa.length:Int)<(a.pre.length:Int))=false:=by simp[h1]
  simp only[Ver.enc,List.map_cons,List.map_nil,tM];refine zj func124 rfl rfl ?_;simp (disch:=(try simp only[LL]);omega) only[↓GO,↓DRW,GA,GX,ren,zk,za,refs,z8,cst,zo,isC,bin,una,z7,zd,blt,asArg,zg,zc,zf,z6,zr,unN,ze,zm,zb,GS,simprocAttr,GZ,zn,c,zA]
 | x::ra,[],pa,pb,h1,h2,h3=>by
  have c:decide ((pa.length:Int)<(a.pre.length:Int))=true:=by simp[h1];omega
  have c2:decide ((pa.length:Int)<(b.pre.length:Int))=false:=by simp[h2];omega
  simp only[Ver.enc,List.map_cons,List.map_nil,tM];refine zj func124 rfl rfl ?_;simp (disch:=(try simp only[LL]);omega) only[↓GO,↓DRW,GA,GX,ren,zk,za,refs,z8,cst,zo,isC,bin,una,z7,zd,blt,asArg,zg,zc,zf,z6,zr,unN,ze,zm,zb,GS,simprocAttr,GZ,zn,c,c2,zA]
 | x::ra,y::rb,pa,pb,h1,h2,h3=>by
  unfold Ver.sm at ha hb;have c:decide ((pa.length:Int)<(a.pre.length:Int))=true:=by simp[h1];omega
  have c2:decide ((pa.length:Int)<(b.pre.length:Int))=true:=by simp[h2];omega
  have hg1:(strs a.pre)[pa.length]? = some [.str x]:=by rw[h1];exact xC pa x ra
  have hg2:(strs b.pre)[pa.length]? = some [.str y]:=by rw[h2,h3];exact xC pb y rb
  have hlen:pa.length+ra.length+1≤a.pre.length:=by rw[h1];simp;omega
  have hx:x.length≤2097152:=by have:=wO (ks:=a.pre) (s:=x) (by rw[h1];simp);omega
  have hy:y.length≤2097152:=by have:=wO (ks:=b.pre) (s:=y) (by rw[h2];simp);omega
  have hp:=OH x y (by omega) (by omega);have IH:=Sd a b ha hb ra rb (pa++[x]) (pb++[y]) (by rw[h1];simp) (by rw[h2];simp) (by simp[h3]);rw[show ((pa++[x]).length:Int)=(pa.length:Int)+1 by simp]at IH;clear h1 h2;simp only[Ver.enc,List.map_cons,List.map_nil]at IH ⊢;rw[tM];generalize tJ x y=n at *
  cases hn:(n==0)
  · simp only[cond_false];refine zj func124 rfl rfl ?_;simp (disch:=(try simp only[LL]);omega) only[↓GO,↓DRW,GA,GX,ren,zk,za,refs,z8,cst,zo,isC,bin,una,z7,zd,blt,asArg,zg,zc,zf,z6,zr,unN,ze,zm,zb,GS,simprocAttr,GZ,zn,c,c2,hg1,hg2,hp,hn,bne,zi,zA]
  · simp only[cond_true];refine zj func124 rfl rfl ?_;simp (disch:=(try simp only[LL]);omega) only[↓GO,↓DRW,GA,GX,ren,zk,za,refs,z8,cst,zo,isC,bin,una,z7,zd,blt,asArg,zg,zc,zf,z6,zr,unN,ze,zm,zb,GS,simprocAttr,GZ,zn,c,c2,hg1,hg2,hp,hn,bne,zi,zA,IH]
theorem iP (a b : Ver) (ha : a.sm) (hb : b.sm) : zy (EV prog pol) 124 [.agg (a.enc.map .t), .agg (b.enc.map .t)] = some (.t (.int .i64 (tY a b))) := by
 have d1:=mX a.maj b.maj;have d2:=mX a.min b.min;have d3:=mX a.pat b.pat;have d4:=mX (b.pre.length:Int) (a.pre.length:Int);have d5:=mX (a.pre.length:Int) (b.pre.length:Int);have L2:=Sd a b ha hb a.pre b.pre [] [] rfl rfl rfl;have L1:=Ol (.int .i64 a.maj) (.int .i64 a.min) (.int .i64 a.pat) (.list 1 (strs a.pre)) (.int .i64 b.maj) (.int .i64 b.min) (.int .i64 b.pat) (.list 1 (strs b.pre)) (xg a.maj b.maj) (xg a.min b.min) (xg a.pat b.pat);have e1:=tL a.pre;have e2:=tL b.pre;unfold tY uo;simp only[List.length_nil,Int.natCast_zero]at L2;simp only[Ver.enc,List.map_cons,List.map_nil]at L1 L2 ⊢;generalize xg a.maj b.maj=n1 at *;generalize xg a.min b.min=n2 at *;generalize xg a.pat b.pat=n3 at *
 cases h1:(n1==0)<;>rw[h1]at L1
 · simp only[cond_false]at L1;apply zw;refine zx rfl func124 rfl (by kernel_rfl) ?_;unfold Tryz.f124;simp (disch:=(try simp only[LL]);omega) only[↓GO,↓DRW,GA,GX,ren,zk,za,refs,z8,cst,zo,isC,bin,una,z7,zd,blt,asArg,zg,zc,zf,z6,zr,unN,ze,zm,zb,GS,simprocAttr,GZ,d1,d2,d3,L1,zA];refine zR (by kernel_rfl) ?_;simp (disch:=(try simp only[LL]);omega) only[↓GO,↓DRW,GA,GX,ren,zk,za,refs,z8,cst,zo,isC,bin,una,z7,zd,blt,asArg,zg,zc,zf,z6,zr,unN,ze,zm,zb,GS,simprocAttr,GZ,d1,d2,d3,L1,zA]
 · cases h2:(n2==0)<;>rw[h2]at L1
   · simp only[cond_false,cond_true]at L1;apply zw;refine zx rfl func124 rfl (by kernel_rfl) ?_;unfold Tryz.f124;simp (disch:=(try simp only[LL]);omega) only[↓GO,↓DRW,GA,GX,ren,zk,za,refs,z8,cst,zo,isC,bin,una,z7,zd,blt,asArg,zg,zc,zf,z6,zr,unN,ze,zm,zb,GS,simprocAttr,GZ,d1,d2,d3,L1,zA];refine zR (by kernel_rfl) ?_;simp (disch:=(try simp only[LL]);omega) only[↓GO,↓DRW,GA,GX,ren,zk,za,refs,z8,cst,zo,isC,bin,una,z7,zd,blt,asArg,zg,zc,zf,z6,zr,unN,ze,zm,zb,GS,simprocAttr,GZ,d1,d2,d3,L1,zA]
   · cases h3:(n3==0)<;>rw[h3]at L1
     · simp only[cond_false,cond_true]at L1;apply zw;refine zx rfl func124 rfl (by kernel_rfl) ?_;unfold Tryz.f124;simp (disch:=(try simp only[LL]);omega) only[↓GO,↓DRW,GA,GX,ren,zk,za,refs,z8,cst,zo,isC,bin,una,z7,zd,blt,asArg,zg,zc,zf,z6,zr,unN,ze,zm,zb,GS,simprocAttr,GZ,d1,d2,d3,L1,zA];refine zR (by kernel_rfl) ?_;simp (disch:=(try simp only[LL]);omega) only[↓GO,↓DRW,GA,GX,ren,zk,za,refs,z8,cst,zo,isC,bin,una,z7,zd,blt,asArg,zg,zc,zf,z6,zr,unN,ze,zm,zb,GS,simprocAttr,GZ,d1,d2,d3,L1,zA]
     · simp only[cond_true]at L1
       cases hs:tM a.pre b.pre<;>rw[hs]at L2<;>simp only at L2<;>cases h4:(a.pre==[])<;>cases h5:(b.pre==[])<;>rw[h4]at e1<;>rw[h5]at e2
       all_goals
        apply zw;refine zx rfl func124 rfl (by kernel_rfl) ?_;unfold Tryz.f124;simp (disch:=(try simp only[LL]);omega) only[↓GO,↓DRW,GA,GX,ren,zk,za,refs,z8,cst,zo,isC,bin,una,z7,zd,blt,asArg,zg,zc,zf,z6,zr,unN,ze,zm,zb,GS,simprocAttr,GZ,d1,d2,d3,d4,d5,L1,L2,zn,e1,e2,zA];refine zR (by kernel_rfl) ?_;simp (disch:=(try simp only[LL]);omega) only[↓GO,↓DRW,GA,GX,ren,zk,za,refs,z8,cst,zo,isC,bin,una,z7,zd,blt,asArg,zg,zc,zf,z6,zr,unN,ze,zm,zb,GS,simprocAttr,GZ,d1,d2,d3,d4,d5,L1,L2,zn,e1,e2,zA,Option.getD_some,Option.getD_none]
theorem Pf (v:Ver)(p:Int):(upV v p).sm:=by
 unfold upV
 cases (p==0)<;>cases (p==1)<;>simp[Ver.sm,ya]
theorem RW {v:Ver}(h:v.sm)(p:Int):(u6 v p).sm:=by
 unfold u6
 cases (!(yv v)||!(B2 p 0 2))<;>cases yv (upV v p)<;>simp only[cond_true,cond_false]<;>first|exact h|exact Pf v p
theorem OJ (v : Ver) (p : Int) (hs : v.sm) (hp : p = 0 ∨ p = 1 ∨ p = 2) (h1 : -1 ≤ v.maj ∧ v.maj ≤ 999999999) (h2 : -1 ≤ v.min ∧ v.min ≤ 999999999) (h3 : -1 ≤ v.pat ∧ v.pat ≤ 999999999) :
 zy (EV prog pol) 284 [.agg (v.enc.map .t),.t (.int .i64 p)]=some (.agg ((u6 v p).enc.map .t)):=by
 have d1:=Yt v hs;have d2:=Yt (upV v p) (Pf v p);have d3:=wG p 0 2;have hb:B2 p 0 2=true:=by rcases hp with rfl|rfl|rfl<;>rfl
 have e1:=tL v.pre;have ht:List.take (0+(strs v.pre).length) (strs v.pre)=strs v.pre:=List.take_of_length_le (by omega);have ht2:List.take v.pre.length (strs v.pre)=strs v.pre:=List.take_of_length_le (by rw[zn];omega);unfold Ver.sm at hs;rw[hb]at d3;unfold u6;rw[hb];simp only[Bool.not_true,Bool.or_false]
 cases ho:yv v<;>rw[ho]at d1
 · simp only[Ver.enc,List.map_cons,List.map_nil,Bool.not_false,cond_true]at d1 ⊢;apply zw;refine zx rfl func284 rfl (by kernel_rfl) ?_;unfold Tryz.f284;simp (disch:=(try simp only[LL]);omega) only[↓GO,↓DRW,GA,GX,ren,zk,za,refs,z8,cst,zo,isC,bin,una,z7,zd,blt,asArg,zg,zc,zf,z6,zr,unN,ze,zm,zb,GS,simprocAttr,GZ,d1,zn,ht,ht2,yf]
 · simp only[Bool.not_true,cond_false];unfold upV at d2 ⊢;rcases hp with rfl|rfl|rfl
   · simp only[show ((0:Int)==0)=true from rfl,cond_true]at d2 ⊢
     cases hu:yv ⟨v.maj+1,0,0,[]⟩<;>rw[hu]at d2<;>simp only[Ver.enc,List.map_cons,List.map_nil,y0,cond_true,cond_false]at d1 d2 ⊢
     all_goals
      apply zw;refine zx rfl func284 rfl (by kernel_rfl) ?_;unfold Tryz.f284;simp (disch:=(try simp only[LL]);omega) only[↓GO,↓DRW,GA,GX,ren,zk,za,refs,z8,cst,zo,isC,bin,una,z7,zd,blt,asArg,zg,zc,zf,z6,zr,unN,ze,zm,zb,GS,simprocAttr,GZ,d1,d2,d3,zn,ht,ht2,yf,zi]
   · simp only[show ((1:Int)==0)=false from rfl,show ((1:Int)==1)=true from rfl,cond_true,cond_false]at d2 ⊢
     cases hu:yv ⟨v.maj,v.min+1,0,[]⟩<;>rw[hu]at d2<;>simp only[Ver.enc,List.map_cons,List.map_nil,y0,cond_true,cond_false]at d1 d2 ⊢
     all_goals
      apply zw;refine zx rfl func284 rfl (by kernel_rfl) ?_;unfold Tryz.f284;simp (disch:=(try simp only[LL]);omega) only[↓GO,↓DRW,GA,GX,ren,zk,za,refs,z8,cst,zo,isC,bin,una,z7,zd,blt,asArg,zg,zc,zf,z6,zr,unN,ze,zm,zb,GS,simprocAttr,GZ,d1,d2,d3,zn,ht,ht2,yf,zi]
   · simp only[show ((2:Int)==0)=false from rfl,show ((2:Int)==1)=false from rfl,cond_false]at d2 ⊢
     cases hq:(v.pre==[])<;>rw[hq]at e1 d2<;>simp only[cond_true,cond_false]at d2 ⊢
     · cases hu:yv ⟨v.maj,v.min,v.pat,[]⟩<;>rw[hu]at d2<;>simp only[Ver.enc,List.map_cons,List.map_nil,y0,cond_true,cond_false]at d1 d2 ⊢
       all_goals
        apply zw;refine zx rfl func284 rfl (by kernel_rfl) ?_;unfold Tryz.f284;simp (disch:=(try simp only[LL]);omega) only[↓GO,↓DRW,GA,GX,ren,zk,za,refs,z8,cst,zo,isC,bin,una,z7,zd,blt,asArg,zg,zc,zf,z6,zr,unN,ze,zm,zb,GS,simprocAttr,GZ,d1,d2,d3,e1,zn,ht,ht2,yf,zi]
     · cases hu:yv ⟨v.maj,v.min,v.pat+1,[]⟩<;>rw[hu]at d2<;>simp only[Ver.enc,List.map_cons,List.map_nil,y0,cond_true,cond_false]at d1 d2 ⊢
       all_goals
        apply zw;refine zx rfl func284 rfl (by kernel_rfl) ?_;unfold Tryz.f284;simp (disch:=(try simp only[LL]);omega) only[↓GO,↓DRW,GA,GX,ren,zk,za,refs,z8,cst,zo,isC,bin,una,z7,zd,blt,asArg,zg,zc,zf,z6,zr,unN,ze,zm,zb,GS,simprocAttr,GZ,d1,d2,d3,e1,zn,ht,ht2,yf,zi]
theorem dE (v:Ver):(xG v).sm:=by simp[xG,Ver.sm,ya]
theorem dC (v:Ver)(p:Int)(hs:v.sm)(hp:p=0∨p=1∨p=2)(h1 : -1≤v.maj∧v.maj≤999999999)(h2 : -1≤v.min∧v.min≤999999999)(h3 : -1≤v.pat∧v.pat≤999999999) :
 zy (EV prog pol) 240 [.agg (v.enc.map .t),.t (.int .i64 p)]=some (.tup [.t (.str (uz v p).1),.t (.bool (uz v p).2)]):=by
 have d1:=OJ (xG v) p (dE v) hp h1 h2 h3;have d2:=iP (u6 (xG v) p) (xG v) (RW (dE v) p) (dE v);have d3:=ix ⟨(u6 (xG v) p).maj,(u6 (xG v) p).min,(u6 (xG v) p).pat,[[48]]⟩ (YD _ _ _);unfold uz;generalize tY (u6 (xG v) p) (xG v)=cm at *;generalize zS ⟨(u6 (xG v) p).maj,(u6 (xG v) p).min,(u6 (xG v) p).pat,[[48]]⟩=tx at *;generalize u6 (xG v) p=nx at *;simp only[Ver.enc,xG,List.map_cons,List.map_nil,w4,y0]at d1 d2 d3 ⊢
 cases hc:(cm==0)
 all_goals
  apply zw;refine zx rfl func240 rfl (by kernel_rfl) ?_;unfold Tryz.f240;simp (disch:=(try simp only[LL]);omega) only[↓GO,↓DRW,GA,GX,ren,zk,za,refs,z8,cst,zo,isC,bin,una,z7,zd,blt,asArg,zg,zc,zf,z6,zr,unN,ze,zm,zb,GS,simprocAttr,GZ,d1,d2,d3,hc,y0]
def alT (s:Str):V:=match xB s with
 | some (l,h)=>.tup [.agg [.t (.str l),.t (.str h)],.t (.bool true)]
 | none=>.tup [.agg [.t (.str []),.t (.str [])],.t (.bool false)]
theorem Z8 (s:Str)(hl:s.length≤1048600):zy (EV prog pol) 199 [.t (.str s)]=some (alT s):=by
 have d1:=rC s (by omega);have d2:=rC (s++[46,48]) (by simp only[List.length_append,List.length_cons,List.length_nil];omega);obtain⟨m1,m2,m3,m4,m5,m6,m7⟩:=yz s (by omega);have d3:=dC (zq s).1 2 m1 (by omega) ⟨m3,m2⟩ ⟨m5,m4⟩ ⟨m7,m6⟩;have hg:=dP (zq s).1.pre;unfold rvT at d1 d2;unfold alT xB sI
 cases hk:(zq s).2 with
 | false =>
  rw[hk]at d1;generalize (zq s).1=v at *;simp only[Bool.false_and,cond_false];simp only[Ver.enc,List.map_cons,List.map_nil]at d1 ⊢;apply zw;refine zx rfl func199 rfl (by kernel_rfl) ?_;unfold Tryz.f199;simp (disch:=(try simp only[LL]);omega) only[↓GO,↓DRW,GA,GX,ren,zk,za,refs,z8,cst,zo,isC,bin,una,z7,zd,blt,asArg,zg,zc,zf,z6,zr,unN,ze,zm,zb,GS,simprocAttr,GZ,d1]
 | true =>
  have ho:=(zZ hk).2.2.1;rw[hk]at d1
  cases hp:((zq s).1.pre==[]) with
  | true =>
   have hb:=td ho 2 (by omega);simp only[show ((2:Int)==0)=false from rfl,show ((2:Int)==1)=false from rfl,show ((2:Int)==2)=true from rfl,cond_true,cond_false]at hb;rw[hb]at d3;rw[hp]at hg;simp only[Bool.not_true,cond_true,Bool.true_and]at hg ⊢;generalize (zq s).1=v at *;generalize zY v.maj v.min (v.pat+1)=zp at *;simp only[Ver.enc,List.map_cons,List.map_nil]at d1 d3 ⊢;clear d2 hb
   cases hz:(zp==[])<;>rw[hz]at d3<;>simp only[Bool.not_true,Bool.not_false,cond_true,cond_false]at d3 ⊢
   all_goals
    apply zw;refine zx rfl func199 rfl (by kernel_rfl) ?_;unfold Tryz.f199;simp (disch:=(try simp only[LL]);omega) only[↓GO,↓DRW,GA,GX,ren,zk,za,refs,z8,cst,zo,isC,bin,una,z7,zd,blt,asArg,zg,zc,zf,z6,zr,unN,ze,zm,zb,GS,simprocAttr,GZ,d1,d3,hg,zn]
  | false =>
   obtain⟨r1,r2⟩:=gA hk (fun h=>by rw[h]at hp;cases hp);rw[r1]at d2;rw[hp]at hg;simp only[Bool.not_false,cond_false,Bool.true_and]at hg ⊢;rw[r2];generalize yv (qj (zq s).1)=pk at *;generalize qj (zq s).1=pv at *;generalize (zq s).1=v at *;have hne:((s++[46,48])==[])=false:=by cases s<;>rfl
   simp only[Ver.enc,List.map_cons,List.map_nil]at d1 ⊢
   cases pk<;>simp only[Ver.enc,List.map_cons,List.map_nil,cond_true,cond_false,hne,Bool.not_false,show (([]:Str)==[])=true from rfl,Bool.not_true]at d2 ⊢
   all_goals
    apply zw;refine zx rfl func199 rfl (by kernel_rfl) ?_;unfold Tryz.f199;simp (disch:=(try simp only[LL]);omega) only[↓GO,↓DRW,GA,GX,ren,zk,za,refs,z8,cst,zo,isC,bin,una,z7,zd,blt,asArg,zg,zc,zf,z6,zr,unN,ze,zm,zb,GS,simprocAttr,GZ,d1,d2,hg,zn,yf]
theorem c_exR (s:Str)(hl:s.length≤1048600):zy (EV prog pol) 150 [.t (.str s)]=some (.t (.list 2 (exT s))):=by
 have d1:=Z8 s hl;unfold exT;unfold alT at d1
 cases he:xB s with
 | none =>
  rw[he]at d1;simp only at d1 ⊢;apply zw;refine zx rfl func150 rfl (by kernel_rfl) ?_;unfold Tryz.f150;simp (disch:=(try simp only[LL]);omega) only[↓GO,↓DRW,GA,GX,ren,zk,za,refs,z8,cst,zo,isC,bin,una,z7,zd,blt,asArg,zg,zc,zf,z6,zr,unN,ze,zm,zb,GS,simprocAttr,GZ,d1]
 | some x =>
  obtain⟨l,h⟩:=x;rw[he]at d1;simp only at d1 ⊢;apply zw;refine zx rfl func150 rfl (by kernel_rfl) ?_;unfold Tryz.f150;simp (disch:=(try simp only[LL]);omega) only[↓GO,↓DRW,GA,GX,ren,zk,za,refs,z8,cst,zo,isC,bin,una,z7,zd,blt,asArg,zg,zc,zf,z6,zr,unN,ze,zm,zb,GS,simprocAttr,GZ,d1]
structure yI where
 key:List UInt8
 text:List UInt8
 list:List (List UInt8)
 isList:Bool
def yI.enc (x:yI):List T:=[.str x.key,.str x.text,.list 1 (strs x.list),.bool x.isList]
def yI.zC (l:List yI):List (List T):=l.map yI.enc
def yI.zX (x:yI):Nat:=x.key.length+x.text.length+(x.list.length+ya x.list)
def yI.yr:List yI→Nat
 | []=>0
 | c::cs=>yI.zX c+yI.yr cs
def yI.ok (x:yI):Prop:=x.key.length≤9223372036854775807∧x.text.length≤9223372036854775807∧x.list.length≤9223372036854775807∧(∀ s∈x.list,s.length≤9223372036854775807)
theorem yI.vO (x:yI):x.enc.length=4:=rfl
theorem yI.wN (x:yI):x.enc.take 4=x.enc:=rfl
theorem yI.zF (cs:List yI):(yI.zC cs).length=cs.length:=by simp[yI.zC]
theorem yI.vg (cs:List yI)(i:Nat)(h:i<cs.length):(yI.zC cs)[i]? = some cs[i].enc:=by simp[yI.zC,h]
theorem yI.yE:∀ {cs:List yI} {c:yI},c∈cs→c.zX≤yI.yr cs
 | c'::cs,c,h=>by
  simp only[yI.yr];rcases List.mem_cons.1 h with rfl|h
  · omega
  · have:=yI.yE h;omega
structure yY where
 name:List UInt8
 fields:List yI
def yY.enc (x:yY):List T:=[.str x.name,.list 4 (yI.zC x.fields)]
def yY.zC (l:List yY):List (List T):=l.map yY.enc
def yY.zX (x:yY):Nat:=x.name.length+(x.fields.length+yI.yr x.fields)
def yY.yr:List yY→Nat
 | []=>0
 | c::cs=>yY.zX c+yY.yr cs
def yY.ok (x:yY):Prop:=x.name.length≤9223372036854775807∧x.fields.length≤9223372036854775807∧(∀ y∈x.fields,y.ok)
theorem yY.vO (x:yY):x.enc.length=2:=rfl
theorem yY.wN (x:yY):x.enc.take 2=x.enc:=rfl
theorem yY.zF (cs:List yY):(yY.zC cs).length=cs.length:=by simp[yY.zC]
theorem yY.vg (cs:List yY)(i:Nat)(h:i<cs.length):(yY.zC cs)[i]? = some cs[i].enc:=by simp[yY.zC,h]
theorem yY.yE:∀ {cs:List yY} {c:yY},c∈cs→c.zX≤yY.yr cs
 | c'::cs,c,h=>by
  simp only[yY.yr];rcases List.mem_cons.1 h with rfl|h
  · omega
  · have:=yY.yE h;omega
def ur {α:Type}(p:α→Bool):List α→Nat→Option Nat
 | [],_=>none
 | x::r,n=>if p x=true then some n else ur p r (n+1)
def ixI:Option Nat→Int
 | some n=>(n:Int)
 | none=>-1
theorem ij {α:Type}(p:α→Bool):∀ (l:List α) (n:Nat),(ur p l n).isSome=l.any p
 | [],_=>rfl
 | x::r,n=>by
  simp only[ur,List.any_cons]
  split
  · rename_i h;simp[h]
  · rename_i h;rw[ij p r (n+1)];simp[h]
theorem Qc {α:Type}(p:α→Bool)(l:List α):decide (ixI (ur p l 0)≥0)=l.any p:=by
 rw[← ij p l 0]
 cases ur p l 0 with
 | none=>rfl
 | some n=>simp[ixI]
structure zN where
 alg:List UInt8
 bytes:List UInt8
def zN.enc (x:zN):List T:=[.str x.alg,.str x.bytes]
def zN.zC (l:List zN):List (List T):=l.map zN.enc
def zN.zX (x:zN):Nat:=x.alg.length+x.bytes.length
def zN.yr:List zN→Nat
 | []=>0
 | c::cs=>zN.zX c+zN.yr cs
def zN.ok (x:zN):Prop:=x.alg.length≤9223372036854775807∧x.bytes.length≤9223372036854775807
theorem zN.vO (x:zN):x.enc.length=2:=rfl
theorem zN.wN (x:zN):x.enc.take 2=x.enc:=rfl
theorem zN.zF (cs:List zN):(zN.zC cs).length=cs.length:=by simp[zN.zC]
theorem zN.vg (cs:List zN)(i:Nat)(h:i<cs.length):(zN.zC cs)[i]? = some cs[i].enc:=by simp[zN.zC,h]
theorem zN.yE:∀ {cs:List zN} {c:zN},c∈cs→c.zX≤zN.yr cs
 | c'::cs,c,h=>by
  simp only[zN.yr];rcases List.mem_cons.1 h with rfl|h
  · omega
  · have:=zN.yE h;omega
structure zh where
 name:List UInt8
 version:List UInt8
 source:List UInt8
 sums:List zN
 dev:Bool
 zE:List (List UInt8)
def zh.enc (x:zh):List T:=[.str x.name,.str x.version,.str x.source,.list 2 (zN.zC x.sums),.bool x.dev,.list 1 (strs x.zE)]
def zh.zC (l:List zh):List (List T):=l.map zh.enc
def zh.zX (x:zh):Nat:=x.name.length+x.version.length+x.source.length+(x.sums.length+zN.yr x.sums)+(x.zE.length+ya x.zE)
def zh.yr:List zh→Nat
 | []=>0
 | c::cs=>zh.zX c+zh.yr cs
def zh.ok (x:zh):Prop:=x.name.length≤9223372036854775807∧x.version.length≤9223372036854775807∧x.source.length≤9223372036854775807∧x.sums.length≤9223372036854775807∧(∀ y∈x.sums,y.ok)∧x.zE.length≤9223372036854775807∧(∀ s∈x.zE,s.length≤9223372036854775807)
theorem zh.vO (x:zh):x.enc.length=6:=rfl
theorem zh.wN (x:zh):x.enc.take 6=x.enc:=rfl
theorem zh.zF (cs:List zh):(zh.zC cs).length=cs.length:=by simp[zh.zC]
theorem zh.vg (cs:List zh)(i:Nat)(h:i<cs.length):(zh.zC cs)[i]? = some cs[i].enc:=by simp[zh.zC,h]
theorem zh.yE:∀ {cs:List zh} {c:zh},c∈cs→c.zX≤zh.yr cs
 | c'::cs,c,h=>by
  simp only[zh.yr];rcases List.mem_cons.1 h with rfl|h
  · omega
  · have:=zh.yE h;omega
structure zB where
 top:List (List UInt8)
 packs:List zh
def zB.enc (x:zB):List T:=[.list 1 (strs x.top),.list 6 (zh.zC x.packs)]
def zB.zC (l:List zB):List (List T):=l.map zB.enc
def zB.zX (x:zB):Nat:=(x.top.length+ya x.top)+(x.packs.length+zh.yr x.packs)
def zB.yr:List zB→Nat
 | []=>0
 | c::cs=>zB.zX c+zB.yr cs
def zB.ok (x:zB):Prop:=x.top.length≤9223372036854775807∧(∀ s∈x.top,s.length≤9223372036854775807)∧x.packs.length≤9223372036854775807∧(∀ y∈x.packs,y.ok)
theorem zB.vO (x:zB):x.enc.length=2:=rfl
theorem zB.wN (x:zB):x.enc.take 2=x.enc:=rfl
theorem zB.zF (cs:List zB):(zB.zC cs).length=cs.length:=by simp[zB.zC]
theorem zB.vg (cs:List zB)(i:Nat)(h:i<cs.length):(zB.zC cs)[i]? = some cs[i].enc:=by simp[zB.zC,h]
theorem zB.yE:∀ {cs:List zB} {c:zB},c∈cs→c.zX≤zB.yr cs
 | c'::cs,c,h=>by
  simp only[zB.yr];rcases List.mem_cons.1 h with rfl|h
  · omega
  · have:=zB.yE h;omega
theorem ly (g:Nat)(caps:List T)(p:zh→Bool)(es:List zh)(hl:es.length≤4611686018427387904)(hp:∀ x∈es,zy (EV prog pol) g (.agg (x.enc.map .t)::caps.map .t)=some (.t (.bool (p x)))):∀ (rest pre:List zh),es=pre++rest →
 EV prog pol (.loop 97 26 0 [.t (.list 6 (zh.zC es)),.t (.fn g caps),.t (.int .i64 (es.length:Int)),.t (.int .i64 (pre.length:Int))] [])=some (match ur p rest pre.length with|some i=>.loop .ret [.t (.int .i64 (i:Int))] []|none=>.loop (.exit 0) [.bad] [])
 | [],pre,hs=>by
  have c:decide ((pre.length:Int)<(es.length:Int))=false:=by simp[hs]
  refine zj func97 rfl rfl ?_;simp only[↓GO,↓DRW,GA,GX,ren,zk,za,refs,z8,cst,zo,isC,bin,una,z7,zd,blt,asArg,zg,zc,zf,z6,zr,unN,ze,zm,zb,GS,simprocAttr,c,ur]
 | b :: rest, pre, hs => by
  have c:decide ((pre.length:Int)<(es.length:Int))=true:=by simp[hs];omega
  have hi:pre.length<es.length:=by rw[hs];simp
  have hget:=zh.vg es pre.length hi;have hgb:es[pre.length]=b:=by simp[hs]
  rw[hgb]at hget;have hb:=hp b (by rw[hs];simp);have e1:(pre.length:Int)+1=((pre++[b]).length:Int):=by simp
  have IH:=ly g caps p es hl hp rest (pre++[b]) (by rw[hs];simp);refine zj func97 rfl rfl ?_;simp only[ur]
  cases hpb:p b with
  | true =>
   rw[hpb]at hb;simp (disch:=omega) only[↓GO,↓DRW,GA,GX,ren,zk,za,refs,z8,cst,zo,isC,bin,una,z7,zd,blt,asArg,zg,zc,zf,z6,zr,unN,ze,zm,zb,GS,simprocAttr,zh.zF,c,hget,zh.vO,zh.wN,zi,hb]
  | false =>
   rw[hpb]at hb;simp (disch:=omega) only[↓GO,↓DRW,GA,GX,ren,zk,za,refs,z8,cst,zo,isC,bin,una,z7,zd,blt,asArg,zg,zc,zf,z6,zr,unN,ze,zm,zb,GS,simprocAttr,zh.zF,c,hget,zh.vO,zh.wN,zi,hb];rw[e1,IH];simp
theorem cD (g:Nat)(caps:List T)(p:zh→Bool)(es:List zh)(hl:es.length≤4611686018427387904)(hp:∀ x∈es,zy (EV prog pol) g (.agg (x.enc.map .t)::caps.map .t)=some (.t (.bool (p x)))) :
 zy (EV prog pol) 97 [.t (.list 6 (zh.zC es)),.t (.fn g caps)]=some (.t (.int .i64 (ixI (ur p es 0)))):=by
 have IH:=ly g caps p es hl hp es [] rfl;simp only[List.length_nil,Int.natCast_zero]at IH;apply zw;refine zx rfl func97 rfl (by kernel_rfl) ?_;unfold Tryz.f97
 cases hf:ur p es 0 with
 | none=>rw[hf]at IH;simp only[↓GO,↓DRW,GA,GX,ren,zk,za,refs,z8,cst,zo,isC,bin,una,z7,zd,blt,asArg,zg,zc,zf,z6,zr,unN,ze,zm,zb,GS,simprocAttr,zh.zF,IH,ixI]
 | some i=>rw[hf]at IH;simp only[↓GO,↓DRW,GA,GX,ren,zk,za,refs,z8,cst,zo,isC,bin,una,z7,zd,blt,asArg,zg,zc,zf,z6,zr,unN,ze,zm,zb,GS,simprocAttr,zh.zF,IH,ixI]
def SK:Str:=[115,104,97,49]
def eO:Str:=[115,104,97,50,53,54]
def h1S:Str:=[104,49]
def eN:Str:=[115,104,97,53,49,50]
def tO (a:Str):Int:=cond (a==SK) 20 (cond (a==eO||a==h1S) 32 (cond (a==eN) 64 (-1)))
def uO (prev:Option Str)(s:Str):Bool:=match prev with
 | none=>true
 | some p=>Op.bytesLess p s
def uu:Option Str→List zN→Bool
 | _,[]=>true
 | prev,s::r=>(((s.bytes.length:Int)==tO s.alg)&&uO prev s.alg)&&uu (some s.alg) r
def keyOf (p:zh):Str:=(p.name++[64])++p.version
def Rb (ps:List zh)(k:Str):Bool:=ps.any fun p=>keyOf p==k
def ob (ps:List zh)(k:Str):Option Nat:=ur (fun p=>keyOf p==k) ps 0
def xX (ps:List zh):Option Str→List Str→Bool
 | _,[]=>true
 | prev,k::r=>(Rb ps k&&uO prev k)&&xX ps (some k) r
def th (p:zh):Bool:=uy p.name&&((xB p.version).isSome&&(vK p.source&&uu none p.sums))
def vk (ps:List zh):Option Str→List zh→Bool
 | _,[]=>true
 | prev,p::r=>(th p&&(uO prev (keyOf p)&&xX ps none p.zE))&&vk ps (some (keyOf p)) r
def yj (g:zB):Bool:=vk g.packs none g.packs&&(decide ((g.packs.length:Int)≤40)&&xX g.packs none g.top)
theorem Sg {α:Type}(p:α→Bool)(l:List α):decide (ixI (ur p l 0)<0) = !(l.any p):=by
 rw[← ij p l 0]
 cases ur p l 0 with
 | none=>rfl
 | some n =>
  have h:¬ ((n:Int)<0):=by omega
  show decide ((n:Int)<0)=false
  exact decide_eq_false h
theorem so {α:Type}(f:α→List T)(pre:List α)(q:α)(rest:List α):tI ((pre++[q]++rest).map f) (((pre++[q]).length:Int) - 1)=some (f q):=by
 unfold tI;rw[if_pos (by simp)];have e:(((pre++[q]).length:Int) - 1).toNat=pre.length:=by simp
 rw[e];simp
theorem vN {α:Type}(f:α→List T)(pre:List α)(x:α)(rest:List α):((pre++x::rest).map f)[pre.length]? = some (f x):=by simp
theorem km (p:zh):(keyOf p).length≤p.zX+1:=by
 unfold keyOf zh.zX;simp only[List.length_append,List.length_cons,List.length_nil];omega
theorem vn {α:Type}(l:List α):l=[]∨∃ p q,l=p++[q]:=by
 rcases List.eq_nil_or_concat l with h|⟨p,q,h⟩
 · exact .inl h
 · exact .inr ⟨p,q,by rw[h,List.concat_eq_append]⟩
theorem dR (p:zh)(hb:p.zX≤4194304):zy (EV prog pol) 67 [.agg (p.enc.map .t)]=some (.t (.str (keyOf p))):=by
 obtain⟨name,version,source,sums,dev,zE⟩:=p;simp only[zh.zX]at hb;simp only[zh.enc,List.map_cons,List.map_nil,keyOf];apply zw;refine zx rfl func67 rfl (by kernel_rfl) ?_;unfold Tryz.f67;simp (disch:=(try simp only[LL]);omega) only[↓GO,↓DRW,GA,GX,ren,zk,za,refs,z8,cst,zo,isC,bin,una,z7,zd,blt,asArg,zg,zc,zf,z6,zr,unN,ze,zm,zb,GS,simprocAttr,GZ,yf]
theorem tU (p:zh)(hb:p.zX≤4194304):zy (EV prog pol) 74 [.agg (p.enc.map .t)]=some (.t (.str (keyOf p))):=by
 obtain⟨name,version,source,sums,dev,zE⟩:=p;simp only[zh.zX]at hb;simp only[zh.enc,List.map_cons,List.map_nil,keyOf];apply zw;refine zx rfl func74 rfl (by kernel_rfl) ?_;unfold Tryz.f74;simp (disch:=(try simp only[LL]);omega) only[↓GO,↓DRW,GA,GX,ren,zk,za,refs,z8,cst,zo,isC,bin,una,z7,zd,blt,asArg,zg,zc,zf,z6,zr,unN,ze,zm,zb,GS,simprocAttr,GZ,yf]
theorem c_slI (a:Str):zy (EV prog pol) 201 [.t (.str a)]=some (.t (.int .i64 (tO a))):=by
 unfold tO SK eO h1S eN
 cases h1:(a==[115,104,97,49])<;>cases h2:(a==[115,104,97,50,53,54])<;>cases h3:(a==[104,49])<;>cases h4:(a==[115,104,97,53,49,50])
 all_goals
  apply zw;refine zx rfl func201 rfl (by kernel_rfl) ?_;unfold Tryz.f201;simp (disch:=(try simp only[LL]);omega) only[↓GO,↓DRW,GA,GX,ren,zk,za,refs,z8,cst,zo,isC,bin,una,z7,zd,blt,asArg,zg,zc,zf,z6,zr,unN,ze,zm,zb,GS,simprocAttr,GZ,h1,h2,h3,h4]
theorem PR (a:Str):zy (EV prog pol) 149 [.t (.str a)]=some (.t (.int .i64 (tO a))):=by
 unfold tO SK eO h1S eN
 cases h1:(a==[115,104,97,49])<;>cases h2:(a==[115,104,97,50,53,54])<;>cases h3:(a==[104,49])<;>cases h4:(a==[115,104,97,53,49,50])
 all_goals
  apply zw;refine zx rfl func149 rfl (by kernel_rfl) ?_;unfold Tryz.f149;simp (disch:=(try simp only[LL]);omega) only[↓GO,↓DRW,GA,GX,ren,zk,za,refs,z8,cst,zo,isC,bin,una,z7,zd,blt,asArg,zg,zc,zf,z6,zr,unN,ze,zm,zb,GS,simprocAttr,GZ,h1,h2,h3,h4]
theorem Xn (es:List zN)(hl:es.length≤4194304):∀ (rest pre:List zN),es=pre++rest →
 EV prog pol (.loop 152 26 0 [.t (.list 2 (zN.zC es)),.t (.list 2 (zN.zC es)),.t (.int .i64 (es.length:Int)),.t (.int .i64 (pre.length:Int))] [])=some (cond (uu (pre.getLast?.map zN.alg) rest) (.loop (.exit 0) [.bad] []) (.loop .ret [.t (.bool false)] []))
 | [],pre,hs=>by
  have c:decide ((pre.length:Int)<(es.length:Int))=false:=by simp[hs]
  refine zj func152 rfl rfl ?_;simp (disch:=(try simp only[LL]);omega) only[↓GO,↓DRW,GA,GX,ren,zk,za,refs,z8,cst,zo,isC,bin,una,z7,zd,blt,asArg,zg,zc,zf,z6,zr,unN,ze,zm,zb,GS,simprocAttr,GZ,c,uu]
 | x :: rest, pre, hs => by
  have c:decide ((pre.length:Int)<(es.length:Int))=true:=by simp[hs];omega
  have hget:(zN.zC es)[pre.length]? = some [.str x.alg,.str x.bytes]:=by rw[hs];exact vN zN.enc pre x rest
  have hlen:pre.length+rest.length+1≤es.length:=by rw[hs];simp;omega
  have IH:=Xn es hl rest (pre++[x]) (by rw[hs];simp);have hk:=c_slI x.alg;rw[show ((pre++[x]).length:Int)=(pre.length:Int)+1 by simp,show (pre++[x]).getLast?.map zN.alg=some x.alg by simp]at IH;rw[uu];generalize tO x.alg=n at *;rcases vn pre with rfl|⟨pre',q,rfl⟩
  · clear hs;simp only[List.length_nil,List.getLast?_nil,Option.map_none,uO,Int.natCast_zero,Int.zero_add]at *
    cases h1:((x.bytes.length:Int)==n)
    all_goals
     refine zj func152 rfl rfl ?_;simp (disch:=(try simp only[LL]);omega) only[↓GO,↓DRW,GA,GX,ren,zk,za,refs,z8,cst,zo,isC,bin,una,z7,zd,blt,asArg,zg,zc,zf,z6,zr,unN,ze,zm,zb,GS,simprocAttr,GZ,zN.zF,c,hget,zi,hk,h1,bne,IH,Int.zero_add]
  · have hprev:tI (zN.zC es) (((pre'++[q]).length:Int) - 1)=some [.str q.alg,.str q.bytes]:=by rw[hs];exact so zN.enc pre' q (x::rest)
    have hge:1≤(pre'++[q]).length:=by simp
    have hgt:decide (((pre'++[q]).length:Int) > 0)=true:=by simp only[decide_eq_true_eq];omega
    have hcmp:=qO x.alg q.alg;rw[show (pre'++[q]).getLast?.map zN.alg=some q.alg by simp];simp only[uO];clear hs;generalize (pre'++[q]).length=m at *
    cases h1:((x.bytes.length:Int)==n)<;>cases h2:Op.bytesLess q.alg x.alg<;>rw[h2]at hcmp
    all_goals
     refine zj func152 rfl rfl ?_;simp (disch:=(try simp only[LL]);omega) only[↓GO,↓DRW,GA,GX,ren,zk,za,refs,z8,cst,zo,isC,bin,una,z7,zd,blt,asArg,zg,zc,zf,z6,zr,unN,ze,zm,zb,GS,simprocAttr,GZ,zN.zF,c,hget,zi,hk,h1,bne,hgt,hprev,hcmp,IH]
theorem QF (es:List zN)(hl:es.length≤4194304):zy (EV prog pol) 152 [.t (.list 2 (zN.zC es))]=some (.t (.bool (uu none es))):=by
 have IH:=Xn es hl es [] rfl;simp only[List.length_nil,Int.natCast_zero,List.getLast?_nil,Option.map_none]at IH;apply zw;refine zx rfl func152 rfl (by kernel_rfl) ?_;unfold Tryz.f152
 cases h:uu none es<;>rw[h]at IH<;>simp only[cond_true,cond_false]at IH<;>simp (disch:=(try simp only[LL]);omega) only[↓GO,↓DRW,GA,GX,ren,zk,za,refs,z8,cst,zo,isC,bin,una,z7,zd,blt,asArg,zg,zc,zf,z6,zr,unN,ze,zm,zb,GS,simprocAttr,GZ,zN.zF,IH]
theorem Xp (p:zh)(hb:p.zX≤4194304):∀ (rest pre:List zN),p.sums=pre++rest →
 EV prog pol (.loop 82 26 0 [.ptr 0 0 0,.t (.int .i64 (pre.length:Int))] [.vs 6 [p.enc.map .t]])=some (cond (uu (pre.getLast?.map zN.alg) rest) (.loop (.exit 0) [.ptr 0 0 0,.bad] [.vs 6 [p.enc.map .t]]) (.loop .ret [.ptr 0 0 0,.t (.bool false)] [.vs 6 [p.enc.map .t]]))
 | [],pre,hs=>by
  have c:decide ((pre.length:Int)<(p.sums.length:Int))=false:=by simp[hs]
  simp only[zh.enc,List.map_cons,List.map_nil];refine zj func82 rfl rfl ?_;simp (disch:=(try simp only[LL]);omega) only[↓GO,↓DRW,GA,GX,ren,zk,za,refs,z8,cst,zo,isC,bin,una,z7,zd,blt,asArg,zg,zc,zf,z6,zr,unN,ze,zm,zb,GS,simprocAttr,GZ,c,zN.zF,uu,zA]
 | x :: rest, pre, hs => by
  have c:decide ((pre.length:Int)<(p.sums.length:Int))=true:=by simp[hs];omega
  have hget:(zN.zC p.sums)[pre.length]? = some [.str x.alg,.str x.bytes]:=by rw[hs];exact vN zN.enc pre x rest
  have hlen:pre.length+rest.length+1≤p.sums.length:=by rw[hs];simp;omega
  have hpb:p.sums.length≤4194304:=by unfold zh.zX at hb;omega
  have IH:=Xp p hb rest (pre++[x]) (by rw[hs];simp);have hk:=PR x.alg;rw[show ((pre++[x]).length:Int)=(pre.length:Int)+1 by simp,show (pre++[x]).getLast?.map zN.alg=some x.alg by simp]at IH;rw[uu];have hco:((x.bytes.length:Int)==tO x.alg)=(tO x.alg==(x.bytes.length:Int)):=Bool.beq_comm;rw[hco];generalize tO x.alg=n at *;simp only[zh.enc,List.map_cons,List.map_nil]at IH ⊢;rcases vn pre with rfl|⟨pre',q,rfl⟩
  · clear hs;simp only[List.length_nil,List.getLast?_nil,Option.map_none,uO,Int.natCast_zero,Int.zero_add]at *
    cases h1:(n==(x.bytes.length:Int))
    all_goals
     refine zj func82 rfl rfl ?_;simp (disch:=(try simp only[LL]);omega) only[↓GO,↓DRW,GA,GX,ren,zk,za,refs,z8,cst,zo,isC,bin,una,z7,zd,blt,asArg,zg,zc,zf,z6,zr,unN,ze,zm,zb,GS,simprocAttr,GZ,zN.zF,c,hget,zi,hk,h1,bne,IH,Int.zero_add,zA]
  · have hprev:tI (zN.zC p.sums) (((pre'++[q]).length:Int) - 1)=some [.str q.alg,.str q.bytes]:=by rw[hs];exact so zN.enc pre' q (x::rest)
    have hge:1≤(pre'++[q]).length:=by simp
    have hgt:decide (((pre'++[q]).length:Int) > 0)=true:=by simp only[decide_eq_true_eq];omega
    rw[show (pre'++[q]).getLast?.map zN.alg=some q.alg by simp];simp only[uO];clear hs;generalize (pre'++[q]).length=m at *
    cases h1:(n==(x.bytes.length:Int))<;>cases h2:Op.bytesLess q.alg x.alg
    all_goals
     refine zj func82 rfl rfl ?_;simp (disch:=(try simp only[LL]);omega) only[↓GO,↓DRW,GA,GX,ren,zk,za,refs,z8,cst,zo,isC,bin,una,z7,zd,blt,asArg,zg,zc,zf,z6,zr,unN,ze,zm,zb,GS,simprocAttr,GZ,zN.zF,c,hget,zi,hk,h1,bne,hgt,hprev,h2,IH,zA]
theorem Qq (s:Str):((exT s).length:Int)=cond (xB s).isSome 1 0:=by
 unfold exT
 cases xB s<;>rfl
theorem QI (p:zh)(hb:p.zX≤1048576):zy (EV prog pol) 82 [.agg (p.enc.map .t)]=some (.t (.bool (th p))):=by
 have L:=Xp p (by omega) p.sums [] rfl;simp only[zh.zX]at hb;have h1:=Wc p.name (by omega);have h2:=c_exR p.version (by omega);have h3:=Z2 p.source (by omega);have h4:=Qq p.version;simp only[List.length_nil,Int.natCast_zero,List.getLast?_nil,Option.map_none]at L;simp only[zh.enc,List.map_cons,List.map_nil]at L ⊢;unfold th;generalize exT p.version=et at *;generalize uu none p.sums=b1 at *;generalize uy p.name=b2 at *;generalize vK p.source=b3 at *;generalize (xB p.version).isSome=b4 at *
 cases b1<;>simp only[cond_true,cond_false]at L<;>cases b2<;>cases b4<;>simp only[cond_true,cond_false]at h4<;>cases b3
 all_goals
  apply zw;refine zx rfl func82 rfl (by kernel_rfl) ?_;unfold Tryz.f82;simp (disch:=(try simp only[LL]);omega) only[↓GO,↓DRW,GA,GX,ren,zk,za,refs,z8,cst,zo,isC,bin,una,z7,zd,blt,asArg,zg,zc,zf,z6,zr,unN,ze,zm,zb,GS,simprocAttr,GZ,L,h1,h2,h3,h4,zA,zN.zF]
theorem UJ (s:Str):((exT s).length:Int)=cond (xB s).isSome 1 0:=by
 unfold exT
 cases xB s<;>rfl
theorem QJ (p:zh)(hb:p.zX≤1048576):zy (EV prog pol) 84 [.agg (p.enc.map .t)]=some (.t (.bool (th p))):=by
 simp only[zh.zX]at hb;have L:=QF p.sums (by omega);have h1:=Wd p.name (by omega);have h2:=c_exI p.version (by omega);have h3:=Z3 p.source (by omega);have h4:=UJ p.version;simp only[zh.enc,List.map_cons,List.map_nil];unfold th;generalize exT p.version=et at *;generalize uu none p.sums=b1 at *;generalize uy p.name=b2 at *;generalize vK p.source=b3 at *;generalize (xB p.version).isSome=b4 at *
 cases b1<;>cases b2<;>cases b4<;>simp only[cond_true,cond_false]at h4<;>cases b3
 all_goals
  apply zw;refine zx rfl func84 rfl (by kernel_rfl) ?_;unfold Tryz.f84;simp (disch:=(try simp only[LL]);omega) only[↓GO,↓DRW,GA,GX,ren,zk,za,refs,z8,cst,zo,isC,bin,una,z7,zd,blt,asArg,zg,zc,zf,z6,zr,unN,ze,zm,zb,GS,simprocAttr,GZ,L,h1,h2,h3,h4,zA,zN.zF]
def GB (g:zB):Prop:=g.zX≤1048576
theorem GB.len {g:zB}(h:GB g):g.packs.length≤1048576∧g.top.length+ya g.top≤1048576∧∀ p∈g.packs,p.zX≤1048576:=by
 unfold GB zB.zX at h;refine⟨by omega,by omega,fun p hp=>?_⟩;have:=zh.yE hp;omega
theorem QO (p:zh)(k:Str)(hb:p.zX≤1048576):zy (EV prog pol) 98 [.agg (p.enc.map .t),.t (.fp [.str k])]=some (.t (.bool (keyOf p==k))):=by
 have h:=dR p (by omega);simp only[zh.enc,List.map_cons,List.map_nil]at h ⊢;apply zw;refine zx rfl func98 rfl (by kernel_rfl) ?_;unfold Tryz.f98;simp (disch:=(try simp only[LL]);omega) only[↓GO,↓DRW,GA,GX,ren,zk,za,refs,z8,cst,zo,isC,bin,una,z7,zd,blt,asArg,zg,zc,zf,z6,zr,unN,ze,zm,zb,GS,simprocAttr,GZ,h]
theorem dB (g:zB)(k:Str)(hB:GB g):zy (EV prog pol) 29 [.agg (g.enc.map .t),.t (.str k)]=some (.t (.int .i64 (ixI (ob g.packs k)))):=by
 obtain⟨b1,b2,b3⟩:=hB.len;have h:=cD 98 [.fp [.str k]] (fun p=>keyOf p==k) g.packs (by omega) (fun x hx=>QO x k (b3 x hx));simp only[zB.enc,List.map_cons,List.map_nil]at h ⊢;unfold ob;apply zw;refine zx rfl func29 rfl (by kernel_rfl) ?_;unfold Tryz.f29;simp (disch:=(try simp only[LL]);omega) only[↓GO,↓DRW,GA,GX,ren,zk,za,refs,z8,cst,zo,isC,bin,una,z7,zd,blt,asArg,zg,zc,zf,z6,zr,unN,ze,zm,zb,GS,simprocAttr,GZ,h,xm,zA]
theorem Xu (g:zB)(k:Str)(hB:GB g):∀ (rest pre:List zh),g.packs=pre++rest →
 EV prog pol (.loop 77 26 0 [.t (.str k),.ptr 0 0 0,.t (.int .i64 (pre.length:Int))] [.vs 2 [g.enc.map .t]])=some (match ur (fun p=>keyOf p==k) rest pre.length with|some i=>.loop .ret [.t (.int .i64 (i:Int))] []|none=>.loop (.exit 0) [.bad] [])
 | [],pre,hs=>by
  have c:decide ((pre.length:Int)<(g.packs.length:Int))=false:=by simp[hs]
  simp only[zB.enc,List.map_cons,List.map_nil];refine zj func77 rfl rfl ?_;simp (disch:=(try simp only[LL]);omega) only[↓GO,↓DRW,GA,GX,ren,zk,za,refs,z8,cst,zo,isC,bin,una,z7,zd,blt,asArg,zg,zc,zf,z6,zr,unN,ze,zm,zb,GS,simprocAttr,GZ,c,zh.zF,ur,zA]
 | x :: rest, pre, hs => by
  obtain⟨b1,b2,b3⟩:=hB.len;have c:decide ((pre.length:Int)<(g.packs.length:Int))=true:=by simp[hs];omega
  have hget:(zh.zC g.packs)[pre.length]? = some x.enc:=by rw[hs];exact vN zh.enc pre x rest
  have hlen:pre.length+rest.length+1≤g.packs.length:=by rw[hs];simp;omega
  have hk:=tU x (by have:=b3 x (by rw[hs];simp);omega);have IH:=Xu g k hB rest (pre++[x]) (by rw[hs];simp);rw[show ((pre++[x]).length:Int)=(pre.length:Int)+1 by simp,show (pre++[x]).length=pre.length+1 by simp]at IH;clear hs;simp only[zB.enc,zh.enc,List.map_cons,List.map_nil]at hget hk IH ⊢;rw[ur]
  cases h1:(keyOf x==k)
  all_goals
   refine zj func77 rfl rfl ?_;simp (disch:=(try simp only[LL]);omega) only[↓GO,↓DRW,GA,GX,ren,zk,za,refs,z8,cst,zo,isC,bin,una,z7,zd,blt,asArg,zg,zc,zf,z6,zr,unN,ze,zm,zb,GS,simprocAttr,GZ,c,zh.zF,hget,hk,h1,zi,IH,zA]
theorem dA (g:zB)(k:Str)(hB:GB g):zy (EV prog pol) 77 [.agg (g.enc.map .t),.t (.str k)]=some (.t (.int .i64 (ixI (ob g.packs k)))):=by
 have L:=Xu g k hB g.packs [] rfl;simp only[List.length_nil,Int.natCast_zero]at L;simp only[zB.enc,List.map_cons,List.map_nil]at L ⊢;unfold ob
 cases hf:ur (fun p=>keyOf p==k) g.packs 0<;>rw[hf]at L<;>simp only at L
 all_goals
  apply zw;refine zx rfl func77 rfl (by kernel_rfl) ?_;unfold Tryz.f77;simp (disch:=(try simp only[LL]);omega) only[↓GO,↓DRW,GA,GX,ren,zk,za,refs,z8,cst,zo,isC,bin,una,z7,zd,blt,asArg,zg,zc,zf,z6,zr,unN,ze,zm,zb,GS,simprocAttr,GZ,L,ixI,zA]
theorem Xt (g:zB)(hB:GB g)(ks:List Str)(hl:ks.length≤1048576):∀ (rest pre:List Str),ks=pre++rest →
 EV prog pol (.loop 85 26 0 [.t (.list 1 (strs ks)),.ptr 0 0 0,.t (.list 1 (strs ks)),.t (.int .i64 (ks.length:Int)),.t (.int .i64 (pre.length:Int))] [.vs 2 [g.enc.map .t]])=some (cond (xX g.packs pre.getLast? rest) (.loop (.exit 0) [.bad] []) (.loop .ret [.t (.bool false)] []))
 | [],pre,hs=>by
  have c:decide ((pre.length:Int)<(ks.length:Int))=false:=by simp[hs]
  simp only[zB.enc,List.map_cons,List.map_nil];refine zj func85 rfl rfl ?_;simp (disch:=(try simp only[LL]);omega) only[↓GO,↓DRW,GA,GX,ren,zk,za,refs,z8,cst,zo,isC,bin,una,z7,zd,blt,asArg,zg,zc,zf,z6,zr,unN,ze,zm,zb,GS,simprocAttr,GZ,c,xX,zA]
 | x :: rest, pre, hs => by
  have c:decide ((pre.length:Int)<(ks.length:Int))=true:=by simp[hs];omega
  have hget:(strs ks)[pre.length]? = some [.str x]:=by rw[hs];exact xC pre x rest
  have hlen:pre.length+rest.length+1≤ks.length:=by rw[hs];simp;omega
  have IH:=Xt g hB ks hl rest (pre++[x]) (by rw[hs];simp);have hk:=dB g x hB;have hlt:=Sg (fun p=>keyOf p==x) g.packs;rw[show ((pre++[x]).length:Int)=(pre.length:Int)+1 by simp,show (pre++[x]).getLast? = some x by simp]at IH;rw[xX];unfold Rb;unfold ob at hk;generalize ixI (ur (fun p=>keyOf p==x) g.packs 0)=n at *;generalize (g.packs.any fun p=>keyOf p==x)=b1 at *;simp only[zB.enc,List.map_cons,List.map_nil]at hk IH ⊢;rcases vn pre with rfl|⟨pre',q,rfl⟩
  · clear hs;simp only[List.length_nil,List.getLast?_nil,uO,Int.natCast_zero,Int.zero_add]at *
    cases b1<;>simp only[Bool.not_true,Bool.not_false]at hlt
    all_goals
     refine zj func85 rfl rfl ?_;simp (disch:=(try simp only[LL]);omega) only[↓GO,↓DRW,GA,GX,ren,zk,za,refs,z8,cst,zo,isC,bin,una,z7,zd,blt,asArg,zg,zc,zf,z6,zr,unN,ze,zm,zb,GS,simprocAttr,GZ,zn,c,hget,zi,hk,hlt,IH,Int.zero_add,zA]
  · have hprev:tI (strs ks) (((pre'++[q]).length:Int) - 1)=some [.str q]:=by rw[hs];exact so (fun s=>[T.str s]) pre' q (x::rest)
    have hge:1≤(pre'++[q]).length:=by simp
    have hgt:decide (((pre'++[q]).length:Int) > 0)=true:=by simp only[decide_eq_true_eq];omega
    have hcmp:=qO x q;rw[show (pre'++[q]).getLast? = some q by simp];simp only[uO];clear hs;generalize (pre'++[q]).length=m at *
    cases b1<;>simp only[Bool.not_true,Bool.not_false]at hlt<;>cases h2:Op.bytesLess q x<;>rw[h2]at hcmp
    all_goals
     refine zj func85 rfl rfl ?_;simp (disch:=(try simp only[LL]);omega) only[↓GO,↓DRW,GA,GX,ren,zk,za,refs,z8,cst,zo,isC,bin,una,z7,zd,blt,asArg,zg,zc,zf,z6,zr,unN,ze,zm,zb,GS,simprocAttr,GZ,zn,c,hget,zi,hk,hlt,hgt,hprev,hcmp,IH,zA]
theorem Wf (g:zB)(hB:GB g)(ks:List Str)(hl:ks.length≤1048576):zy (EV prog pol) 85 [.agg (g.enc.map .t),.t (.list 1 (strs ks))]=some (.t (.bool (xX g.packs none ks))):=by
 have L:=Xt g hB ks hl ks [] rfl;simp only[List.length_nil,Int.natCast_zero,List.getLast?_nil]at L;simp only[zB.enc,List.map_cons,List.map_nil]at L ⊢
 cases h:xX g.packs none ks<;>rw[h]at L<;>simp only[cond_true,cond_false]at L
 all_goals
  apply zw;refine zx rfl func85 rfl (by kernel_rfl) ?_;unfold Tryz.f85;simp (disch:=(try simp only[LL]);omega) only[↓GO,↓DRW,GA,GX,ren,zk,za,refs,z8,cst,zo,isC,bin,una,z7,zd,blt,asArg,zg,zc,zf,z6,zr,unN,ze,zm,zb,GS,simprocAttr,GZ,L,zn,zA]
theorem Xs (g:zB)(hB:GB g)(ks:List Str)(hl:ks.length≤1048576):∀ (rest pre:List Str),ks=pre++rest →
 EV prog pol (.loop 83 26 0 [.t (.list 1 (strs ks)),.ptr 0 0 0,.t (.int .i64 (pre.length:Int))] [.vs 2 [g.enc.map .t]])=some (cond (xX g.packs pre.getLast? rest) (.loop (.exit 0) [.bad] []) (.loop .ret [.t (.bool false)] []))
 | [],pre,hs=>by
  have c:decide ((pre.length:Int)<(ks.length:Int))=false:=by simp[hs]
  simp only[zB.enc,List.map_cons,List.map_nil];refine zj func83 rfl rfl ?_;simp (disch:=(try simp only[LL]);omega) only[↓GO,↓DRW,GA,GX,ren,zk,za,refs,z8,cst,zo,isC,bin,una,z7,zd,blt,asArg,zg,zc,zf,z6,zr,unN,ze,zm,zb,GS,simprocAttr,GZ,c,zn,xX,zA]
 | x :: rest, pre, hs => by
  have c:decide ((pre.length:Int)<(ks.length:Int))=true:=by simp[hs];omega
  have hget:(strs ks)[pre.length]? = some [.str x]:=by rw[hs];exact xC pre x rest
  have hlen:pre.length+rest.length+1≤ks.length:=by rw[hs];simp;omega
  have IH:=Xs g hB ks hl rest (pre++[x]) (by rw[hs];simp);have hk:=dA g x hB;have hlt:=Sg (fun p=>keyOf p==x) g.packs;rw[show ((pre++[x]).length:Int)=(pre.length:Int)+1 by simp,show (pre++[x]).getLast? = some x by simp]at IH;rw[xX];unfold Rb;unfold ob at hk;generalize ixI (ur (fun p=>keyOf p==x) g.packs 0)=n at *;generalize (g.packs.any fun p=>keyOf p==x)=b1 at *;simp only[zB.enc,List.map_cons,List.map_nil]at hk IH ⊢;rcases vn pre with rfl|⟨pre',q,rfl⟩
  · clear hs;simp only[List.length_nil,List.getLast?_nil,uO,Int.natCast_zero,Int.zero_add]at *
    cases b1<;>simp only[Bool.not_true,Bool.not_false]at hlt
    all_goals
     refine zj func83 rfl rfl ?_;simp (disch:=(try simp only[LL]);omega) only[↓GO,↓DRW,GA,GX,ren,zk,za,refs,z8,cst,zo,isC,bin,una,z7,zd,blt,asArg,zg,zc,zf,z6,zr,unN,ze,zm,zb,GS,simprocAttr,GZ,zn,c,hget,zi,hk,hlt,IH,Int.zero_add,zA]
  · have hprev:tI (strs ks) (((pre'++[q]).length:Int) - 1)=some [.str q]:=by rw[hs];exact so (fun s=>[T.str s]) pre' q (x::rest)
    have hge:1≤(pre'++[q]).length:=by simp
    have hgt:decide (((pre'++[q]).length:Int) > 0)=true:=by simp only[decide_eq_true_eq];omega
    rw[show (pre'++[q]).getLast? = some q by simp];simp only[uO];clear hs;generalize (pre'++[q]).length=m at *
    cases b1<;>simp only[Bool.not_true,Bool.not_false]at hlt<;>cases h2:Op.bytesLess q x
    all_goals
     refine zj func83 rfl rfl ?_;simp (disch:=(try simp only[LL]);omega) only[↓GO,↓DRW,GA,GX,ren,zk,za,refs,z8,cst,zo,isC,bin,una,z7,zd,blt,asArg,zg,zc,zf,z6,zr,unN,ze,zm,zb,GS,simprocAttr,GZ,zn,c,hget,zi,hk,hlt,hgt,hprev,h2,IH,zA]
theorem We (g:zB)(hB:GB g)(ks:List Str)(hl:ks.length≤1048576):zy (EV prog pol) 83 [.agg (g.enc.map .t),.t (.list 1 (strs ks))]=some (.t (.bool (xX g.packs none ks))):=by
 have L:=Xs g hB ks hl ks [] rfl;simp only[List.length_nil,Int.natCast_zero,List.getLast?_nil]at L;simp only[zB.enc,List.map_cons,List.map_nil]at L ⊢
 cases h:xX g.packs none ks<;>rw[h]at L<;>simp only[cond_true,cond_false]at L
 all_goals
  apply zw;refine zx rfl func83 rfl (by kernel_rfl) ?_;unfold Tryz.f83;simp (disch:=(try simp only[LL]);omega) only[↓GO,↓DRW,GA,GX,ren,zk,za,refs,z8,cst,zo,isC,bin,una,z7,zd,blt,asArg,zg,zc,zf,z6,zr,unN,ze,zm,zb,GS,simprocAttr,GZ,L,zn,zA]
def SI (s:zN):Prop:=s.alg.length≤8∧s.bytes.length≤64
def lZ:List Str:=[[104,49],[115,104,97,49],[115,104,97,50,53,54],[115,104,97,53,49,50]]
theorem qn (bs:List Int)(hb:okB bs)(i:Nat)(a:Str)(n:Nat)(hn:n≤64)(hi:i<4)(ha:lZ[i]? = some a)(hl:tO a=(n:Int))(hal:a.length≤8)(c:Cs)(hc:cok bs c)(out:List zN)(cap:Option Nat)(ho:out.length≤4) :
 ∃ (c1:Cs) (out1:List zN) (cap1:Option Nat),cok bs c1∧(out1=out∨∃ s,SI s∧out1=out++[s])∧∀ R,EV prog pol (.loop 202 122 1 [.ptr 0 0 0,.sl 1 0 out1.length cap1,.sl 2 0 4 (some 4),.t (.int .i64 ((i+1:Nat):Int))] [cuR bs c1,.ts 2 (zN.zC out1),.ts 1 (strs lZ)])=some R →
  EV prog pol (.loop 202 122 1 [.ptr 0 0 0,.sl 1 0 out.length cap,.sl 2 0 4 (some 4),.t (.int .i64 (i:Int))] [cuR bs c,.ts 2 (zN.zC out),.ts 1 (strs lZ)])=some R:=by
 have c0:decide ((i:Int)<4)=true:=by apply decide_eq_true;omega
 have c00:decide ((0:Int)≤(i:Int))=true:=by apply decide_eq_true;omega
 have hol:=zN.zF out;obtain⟨b,c1,hc1,d1⟩:=ua bs hb c hc 3 (by decide) (by decide);simp only[Int.cast_ofNat_Int]at d1
 cases b with
 | false =>
  refine⟨c1,out,cap,hc1,.inl rfl,fun R e=>?_⟩;rw[show ((i+1:Nat):Int)=(i:Int)+1 by omega]at e;unfold cuR at *;generalize zN.zC out=E0 at *;generalize strs lZ=E1 at *;refine zj func202 rfl rfl ?_;simp (disch:=(try simp only[LL]);omega) only[↓GO,↓DRW,GA,GX,ren,zk,za,refs,z8,cst,zo,isC,bin,una,z7,zd,blt,asArg,zg,zc,zf,z6,zr,unN,ze,zm,zb,GS,simprocAttr,GZ,c0,d1,zi,zA,e]
 | true =>
  have d2:=PR a;rw[hl]at d2;obtain⟨s,c2,hs,hc2,d3⟩:=OB bs hb c1 hc1 n hn;have hget:(strs lZ)[i]? = some [.str a]:=by unfold strs;rw[List.getElem?_map,ha];rfl
  refine⟨c2,out++[⟨a,s⟩],none,hc2,.inr ⟨⟨a,s⟩,⟨hal,by simp only;omega⟩,rfl⟩,fun R e=>?_⟩;rw[show ((i+1:Nat):Int)=(i:Int)+1 by omega,show zN.zC (out++[⟨a,s⟩])=zN.zC out++[[.str a,.str s]] by simp[zN.zC,zN.enc],List.length_append,List.length_singleton]at e;unfold cuR at *;generalize zN.zC out=E0 at *;generalize strs lZ=E1 at *;refine zj func202 rfl rfl ?_;simp (disch:=(try simp only[LL]);omega) only[↓GO,↓DRW,GA,GX,ren,zk,za,refs,z8,cst,zo,isC,bin,una,z7,zd,blt,asArg,zg,zc,zf,z6,zr,unN,ze,zm,zb,GS,simprocAttr,GZ,c0,c00,d1,d2,d3,hget,hol,zi,yf,zA,e]
  all_goals (repeat (refine zR (by kernel_rfl) ?_))
  all_goals (first|rfl|(simp (disch:=(try simp only[LL]);omega) only[↓GO,↓DRW,GA,GX,ren,zk,za,refs,z8,cst,zo,isC,bin,una,z7,zd,blt,asArg,zg,zc,zf,z6,zr,unN,ze,zm,zb,GS,simprocAttr,GZ,c0,c00,d1,d2,d3,hget,hol,zi,yf,zA,e]))
theorem WU (bs:List Int)(c:Cs)(out:List zN)(cap:Option Nat):EV prog pol (.loop 202 122 1 [.ptr 0 0 0,.sl 1 0 out.length cap,.sl 2 0 4 (some 4),.t (.int .i64 4)] [cuR bs c,.ts 2 (zN.zC out),.ts 1 (strs lZ)])
 = some (.loop (.exit 0) [.sl 1 0 out.length cap] [cuR bs c,.ts 2 (zN.zC out)]):=by
 have hol:=zN.zF out;unfold cuR;generalize zN.zC out=E0 at *;generalize strs lZ=E1 at *;refine zj func202 rfl rfl ?_;simp (disch:=(try simp only[LL]);omega) only[↓GO,↓DRW,GA,GX,ren,zk,za,refs,z8,cst,zo,isC,bin,una,z7,zd,blt,asArg,zg,zc,zf,z6,zr,unN,ze,zm,zb,GS,simprocAttr,GZ,zA]
def mM (k:Nat)(l:List zN):Prop:=l.length≤k∧∀ s∈l,SI s
theorem tB {k:Nat}{l l1:List zN}(h:mM k l)(h1:l1=l∨∃ s,SI s∧l1=l++[s]):mM (k+1) l1:=by
 obtain⟨h2,h3⟩:=h;rcases h1 with rfl|⟨s,hs,rfl⟩
 · exact⟨by omega,h3⟩
 · refine⟨by simp;omega,fun x hx=>?_⟩;rcases List.mem_append.1 hx with hx|hx
   · exact h3 x hx
   · rw[List.mem_singleton.1 hx];exact hs
theorem OC (bs:List Int)(hb:okB bs)(c:Cs)(hc:cok bs c):∃ (l:List zN) (c':Cs) (cap:Option Nat),mM 4 l∧cok bs c' ∧
 EV prog pol (.callO false 202 [.ptr 0 0 0] [cuR bs c])=some (.call (.sl 1 0 l.length cap) [cuR bs c',.ts 2 (zN.zC l)]):=by
 have s0:mM 0 []:=⟨Nat.le_refl _,fun s hs=>by simp at hs⟩;obtain⟨c1,o1,p1,h1,e1,g1⟩:=qn bs hb 0 _ 32 (by decide) (by decide) (show lZ[0]? = some [104,49] from rfl) (by decide) (by decide) c hc [] (some 0) (by decide);have s1:=tB s0 e1;obtain⟨c2,o2,p2,h2,e2,g2⟩:=qn bs hb 1 _ 20 (by decide) (by decide) (show lZ[1]? = some [115,104,97,49] from rfl) (by decide) (by decide) c1 h1 o1 p1 (by have:=s1.1;omega);have s2:=tB s1 e2;obtain⟨c3,o3,p3,h3,e3,g3⟩:=qn bs hb 2 _ 32 (by decide) (by decide) (show lZ[2]? = some [115,104,97,50,53,54] from rfl) (by decide) (by decide) c2 h2 o2 p2 (by have:=s2.1;omega);have s3:=tB s2 e3;obtain⟨c4,o4,p4,h4,e4,g4⟩:=qn bs hb 3 _ 64 (by decide) (by decide) (show lZ[3]? = some [115,104,97,53,49,50] from rfl) (by decide) (by decide) c3 h3 o3 p3 (by have:=s3.1;omega);have s4:=tB s3 e4;have L:=g1 _ (g2 _ (g3 _ (g4 _ (WU bs c4 o4 p4))));refine⟨o4,c4,p4,s4,h4,?_⟩;simp only[List.length_nil,Int.natCast_zero,show zN.zC []=[] from rfl,show strs lZ=[[.str [104,49]],[.str [115,104,97,49]],[.str [115,104,97,50,53,54]],[.str [115,104,97,53,49,50]]] from rfl]at L;clear g1 g2 g3 g4 e1 e2 e3 e4 s1 s2 s3 s4 s0 hb;unfold cuR at *;refine zM func202 rfl (by kernel_rfl) ?_;unfold Tryz.f202;simp (disch:=(try simp only[LL]);omega) only[↓GO,↓DRW,GA,GX,ren,zk,za,refs,z8,cst,zo,isC,bin,una,z7,zd,blt,asArg,zg,zc,zf,z6,zr,unN,ze,zm,zb,GS,simprocAttr,GZ,L,zA]
def smP (k:Nat)(p:zh):Prop:=p.name.length≤32∧p.version.length≤300∧p.source.length≤32∧mM 5 p.sums∧p.zE.length≤k∧∀ s∈p.zE,s.length≤400
theorem OI (bs:List Int)(hb:okB bs)(c:Cs)(hc:cok bs c):∃ (p:zh) (c':Cs) (cap:Option Nat),smP 0 p∧cok bs c' ∧
 EV prog pol (.callO false 195 [.ptr 0 0 0] [cuR bs c])=some (.call (.agg [.t (.str p.name),.t (.str p.version),.t (.str p.source),.sl 1 0 p.sums.length cap,.t (.bool p.dev),.nil 1]) [cuR bs c',.ts 2 (zN.zC p.sums)]):=by
 obtain⟨nm,c1,hn,h1,d1⟩:=Yu bs hb c hc;obtain⟨vr,c2,hv,h2,d2⟩:=nN bs hb c1 h1;obtain⟨sm,c3,cap,hs,h3,d3⟩:=OC bs hb c2 h2;obtain⟨dv,c4,h4,d4⟩:=ua bs hb c3 h3 4 (by decide) (by decide);obtain⟨b,c5,h5,d5⟩:=ua bs hb c4 h4 2 (by decide) (by decide);simp only[Int.cast_ofNat_Int]at d4 d5;have hs5:mM 5 sm:=⟨by have:=hs.1;omega,hs.2⟩;have hol:=zN.zF sm
 cases b with
 | false =>
  refine⟨⟨nm,vr,[],sm,dv,[]⟩,c5,cap,⟨hn,hv,by simp,hs5,Nat.le_refl _,fun s hs=>by simp at hs⟩,h5,?_⟩;simp only;clear hb hn hv hs hs5;unfold cuR at *;generalize zN.zC sm=E0 at *;refine zM func195 rfl (by kernel_rfl) ?_;unfold Tryz.f195;simp (disch:=(try simp only[LL]);omega) only[↓GO,↓DRW,GA,GX,ren,zk,za,refs,z8,cst,zo,isC,bin,una,z7,zd,blt,asArg,zg,zc,zf,z6,zr,unN,ze,zm,zb,GS,simprocAttr,GZ,d1,d2,d3,d4,d5,zA]
 | true =>
  obtain⟨s,c6,hs0,h6,d6⟩:=vD bs hb c5 h5 [[104,116,116,112,115,58,47,47,114,101,103,46,111,114,103,47,120,46,116,103,122],[103,105,116,43,115,115,104,58,120],[46]] 3 rfl (by decide) (by decide) (some 3);have hsl:s.length≤32:=by
   simp only[List.mem_cons,List.not_mem_nil,or_false]at hs0;rcases hs0 with rfl|rfl|rfl<;>decide
  refine⟨⟨nm,vr,s,sm,dv,[]⟩,c6,cap,⟨hn,hv,hsl,hs5,Nat.le_refl _,fun s hs=>by simp at hs⟩,h6,?_⟩;simp only[strs,List.map_cons,List.map_nil]at d6 ⊢;clear hb hn hv hs hs5 hs0;unfold cuR at *;generalize zN.zC sm=E0 at *;refine zM func195 rfl (by kernel_rfl) ?_;unfold Tryz.f195;simp (disch:=(try simp only[LL]);omega) only[↓GO,↓DRW,GA,GX,ren,zk,za,refs,z8,cst,zo,isC,bin,una,z7,zd,blt,asArg,zg,zc,zf,z6,zr,unN,ze,zm,zb,GS,simprocAttr,GZ,d1,d2,d3,d4,d5,d6,zA]
def ocE (es:List (List T)):List (List V):=es.map fun e=>e.map oc
theorem vM (es:List (List T)):(ocE es).length=es.length:=by simp[ocE]
theorem oX (x:List T)(b:List (List T)):ocE (x::b)=x.map oc::ocE b:=rfl
theorem RM (x:T):refs (oc x)=[]:=by cases x<;>rfl
theorem bG:∀ e:List T,refs.refss (e.map oc)=[]
 | []=>rfl
 | x::e=>by simp only[List.map_cons,refs.refss,RM,bG e,List.nil_append]
theorem oW:∀ es:List (List T),(ocE es).flatMap refs.refss=[]
 | []=>rfl
 | e::es=>by rw[oX,List.flatMap_cons,bG,oW es];rfl
theorem Og (m:Nat→Option Nat)(x:T):ren m (oc x)=oc x:=by cases x<;>rfl
theorem YZ (m:Nat→Option Nat):∀ e:List T,ren.rens m (e.map oc)=e.map oc
 | []=>rfl
 | x::e=>by simp only[List.map_cons,ren.rens,Og,YZ m e]
theorem kj (m:Nat→Option Nat):∀ es:List (List T),(ocE es).map (ren.rens m)=ocE es
 | []=>rfl
 | e::es=>by rw[oX,List.map_cons,YZ,kj m es]
theorem nw {α:Type}(A B:List α)(x:α)(n:Nat)(h:A.length=n):(A++x::B)[n]? = some x:=by
 rw[List.getElem?_append_right (by omega),h,Nat.sub_self];rfl
theorem nv {α:Type}(A B:List α)(x y:α)(n:Nat)(h:A.length=n):(A++x::B).set n y=A++y::B:=by
 rw[List.set_append_right _ _ (by omega),h,Nat.sub_self];rfl
theorem gv_oc (x:T):gvC (oc x)=some x:=by cases x<;>rfl
theorem Sk:∀ e:List T,qk (e.map oc)=some e
 | []=>rfl
 | x::e=>by simp only[List.map_cons,qk,gv_oc,Sk e]
theorem Yk:∀ es:List (List T),gvE (ocE es)=some es
 | []=>rfl
 | e::es=>by rw[oX];simp only[gvE,Sk,Yk es]
theorem Ua (h:Heap)(x:T):zg h (oc x)=some x:=by cases x<;>rfl
theorem cW (h:Heap):∀ e:List T,wm h (e.map oc)=some e
 | []=>rfl
 | x::e=>by simp only[List.map_cons,wm,Ua,cW h e]
theorem jB (h:Heap):∀ es:List (List T),tq h (ocE es)=some es
 | []=>rfl
 | e::es=>by rw[oX];simp only[tq,cW,jB h es]
theorem xn:∀ l:List Str,oa (strs l)=true
 | []=>rfl
 | x::l=>by
  have:=xn l;unfold oa strs at this ⊢;rw[List.map_cons,List.all_cons,this];rfl
def ixS (key:Str):Nat→List Str→Int
 | _,[]=>-1
 | i,k::r=>cond (k==key) (i:Int) (ixS key (i+1) r)
theorem Xx (key:Str):∀ (r:List Str) (i:Nat),ixS key i r = -1∨((i:Int)≤ixS key i r∧ixS key i r<((i+r.length:Nat):Int))
 | [],i=>.inl rfl
 | k :: r, i => by
  rw[ixS]
  cases hk:(k==key) with
  | true=>right;simp only[cond_true,List.length_cons];omega
  | false =>
   simp only[cond_false,List.length_cons];rcases Xx key r (i+1) with h|h
   · exact .inl h
   · right;omega
theorem l_ix (key:Str)(ks:List Str)(hl:ks.length≤1048576):∀ (rest pre:List Str),ks=pre++rest→∃ x,
 EV prog pol (.loop 81 26 0 [.t (.list 1 (strs ks)),.t (.str key),.t (.int .i64 (ks.length:Int)),.t (.int .i64 (pre.length:Int))] [])=some (cond (decide (ixS key pre.length rest≥0)) (.loop .ret [.t (.int .i64 (ixS key pre.length rest))] []) (.loop (.exit 0) [x] []))
 | [],pre,hs=>by
  have c:decide ((pre.length:Int)<(ks.length:Int))=false:=by simp[hs]
  refine⟨.bad,?_⟩
  show _=some (xV.loop (.exit 0) [.bad] [])
  refine zj func81 rfl rfl ?_;simp (disch:=(try simp only[LL]);omega) only[↓GO,↓DRW,GA,GX,ren,zk,za,refs,z8,cst,zo,isC,bin,una,z7,zd,blt,asArg,zg,zc,zf,z6,zr,unN,ze,zm,zb,GS,simprocAttr,GZ,c]
 | x::rest,pre,hs=>by
  have c:decide ((pre.length:Int)<(ks.length:Int))=true:=by simp[hs];omega
  have hget:(strs ks)[pre.length]? = some [.str x]:=by rw[hs];simp[strs]
  have hlen:pre.length+rest.length+1≤ks.length:=by rw[hs];simp;omega
  obtain⟨y,IH⟩:=l_ix key ks hl rest (pre++[x]) (by rw[hs];simp);refine⟨y,?_⟩;rw[show ((pre++[x]).length:Int)=(pre.length:Int)+1 by simp,show (pre++[x]).length=pre.length+1 by simp]at IH;have hsym:(key==x)=(x==key):=by rw[Bool.eq_iff_iff];simp only[beq_iff_eq];exact eq_comm
  clear hs;rw[ixS]
  cases hk:(x==key)<;>rw[hk]at hsym
  · simp only[cond_false];refine zj func81 rfl rfl ?_;simp (disch:=(try simp only[LL]);omega) only[↓GO,↓DRW,GA,GX,ren,zk,za,refs,z8,cst,zo,isC,bin,una,z7,zd,blt,asArg,zg,zc,zf,z6,zr,unN,ze,zm,zb,GS,simprocAttr,GZ,c,hget,zi,hsym,IH]
  · simp only[cond_true,show decide (((pre.length:Nat):Int)≥0)=true by simp];refine zj func81 rfl rfl ?_;simp (disch:=(try simp only[LL]);omega) only[↓GO,↓DRW,GA,GX,ren,zk,za,refs,z8,cst,zo,isC,bin,una,z7,zd,blt,asArg,zg,zc,zf,z6,zr,unN,ze,zm,zb,GS,simprocAttr,GZ,c,hget,zi,hsym]
theorem c_ix (key:Str)(ks:List Str)(hl:ks.length≤1048576):zy (EV prog pol) 81 [.t (.list 1 (strs ks)),.t (.str key)]=some (.t (.int .i64 (ixS key 0 ks))):=by
 obtain⟨x,L⟩:=l_ix key ks hl ks [] rfl;have hr:=Xx key ks 0;simp only[List.length_nil,Int.natCast_zero]at L
 cases hd:decide (ixS key 0 ks≥0) with
 | true =>
  rw[hd]at L;simp only[cond_true]at L;apply zw;refine zx rfl func81 rfl (by kernel_rfl) ?_;unfold Tryz.f81;simp (disch:=(try simp only[LL]);omega) only[↓GO,↓DRW,GA,GX,ren,zk,za,refs,z8,cst,zo,isC,bin,una,z7,zd,blt,asArg,zg,zc,zf,z6,zr,unN,ze,zm,zb,GS,simprocAttr,GZ,L,zn]
 | false =>
  rw[hd]at L;have h:=of_decide_eq_false hd;rw[show ixS key 0 ks = -1 by omega];simp only[cond_false]at L;apply zw;refine zx rfl func81 rfl (by kernel_rfl) ?_;unfold Tryz.f81;simp (disch:=(try simp only[LL]);omega) only[↓GO,↓DRW,GA,GX,ren,zk,za,refs,z8,cst,zo,isC,bin,una,z7,zd,blt,asArg,zg,zc,zf,z6,zr,unN,ze,zm,zb,GS,simprocAttr,GZ,L,zn]
def zt:Tr:=.mk 0 0 [] [] []
theorem wh:∀ l:List zN,oa (zN.zC l)=true
 | []=>rfl
 | x::l=>by
  have:=wh l;unfold oa zN.zC at this ⊢;rw[List.map_cons,List.all_cons,this];rfl
theorem kY {p:zh}{n:Nat}(h:p.zX≤n):p.zE.length≤n∧ya p.zE≤n∧p.sums.length≤n∧zN.yr p.sums≤n∧p.name.length≤n∧p.version.length≤n∧p.source.length≤n:=by
 unfold zh.zX at h;omega
theorem Sb (g:zB)(hB:GB g):∀ (rest pre:List zh),g.packs=pre++rest →
 EV prog pol (.loop 22 26 0 [.ptr 0 0 0,.t (.list 6 (zh.zC g.packs)),.t (.int .i64 (g.packs.length:Int)),.t (.int .i64 (pre.length:Int))] [.vs 2 [g.enc.map .t]])=some (cond (vk g.packs (pre.getLast?.map keyOf) rest) (.loop (.exit 0) [.ptr 0 0 0,.bad] [.vs 2 [g.enc.map .t]]) (.loop .ret [.ptr 0 0 0,.t (.bool false)] [.vs 2 [g.enc.map .t]]))
 | [],pre,hs=>by
  have c:decide ((pre.length:Int)<(g.packs.length:Int))=false:=by simp[hs]
  simp only[zB.enc,List.map_cons,List.map_nil];refine zj func22 rfl rfl ?_;simp (disch:=(try simp only[LL]);omega) only[↓GO,↓DRW,GA,GX,ren,zk,za,refs,z8,cst,zo,isC,bin,una,z7,zd,blt,asArg,zg,zc,zf,z6,zr,unN,ze,zm,zb,GS,simprocAttr,GZ,c,vk,zA]
 | x :: rest, pre, hs => by
  obtain⟨b1,b2,b3⟩:=hB.len;have c:decide ((pre.length:Int)<(g.packs.length:Int))=true:=by simp[hs];omega
  have hget:(zh.zC g.packs)[pre.length]? = some x.enc:=by rw[hs];exact vN zh.enc pre x rest
  have hlen:pre.length+rest.length+1≤g.packs.length:=by rw[hs];simp;omega
  have hxb:=b3 x (by rw[hs];simp);have IH:=Sb g hB rest (pre++[x]) (by rw[hs];simp);have h1:=QJ x hxb;have h2:=dR x (by omega);have h3:=Wf g hB x.zE (kY hxb).1;rw[show ((pre++[x]).length:Int)=(pre.length:Int)+1 by simp,show (pre++[x]).getLast?.map keyOf=some (keyOf x) by simp]at IH;rw[vk];generalize th x=a1 at *;generalize xX g.packs none x.zE=a2 at *;rcases vn pre with rfl|⟨pre',q,rfl⟩
  · clear hs;generalize keyOf x=kx at *;simp only[List.length_nil,List.getLast?_nil,Option.map_none,uO,Int.natCast_zero,Int.zero_add]at *;simp only[zB.enc,zh.enc,List.map_cons,List.map_nil]at hget h1 h2 h3 IH ⊢
    cases a1<;>cases a2
    all_goals
     refine zj func22 rfl rfl ?_;simp (disch:=(try simp only[LL]);omega) only[↓GO,↓DRW,GA,GX,ren,zk,za,refs,z8,cst,zo,isC,bin,una,z7,zd,blt,asArg,zg,zc,zf,z6,zr,unN,ze,zm,zb,GS,simprocAttr,GZ,zh.zF,c,hget,zi,h1,h2,h3,IH,Int.zero_add,zA]
  · have hprev:tI (zh.zC g.packs) (((pre'++[q]).length:Int) - 1)=some q.enc:=by rw[hs];exact so zh.enc pre' q (x::rest)
    have h4:=dR q (by have:=b3 q (by rw[hs];simp);omega);have hge:1≤(pre'++[q]).length:=by simp
    have hgt:decide (((pre'++[q]).length:Int) > 0)=true:=by simp only[decide_eq_true_eq];omega
    have hcmp:=qO (keyOf x) (keyOf q);rw[show (pre'++[q]).getLast?.map keyOf=some (keyOf q) by simp];simp only[uO];clear hs;generalize (pre'++[q]).length=m at *;generalize keyOf x=kx at *;generalize keyOf q=kq at *;simp only[zB.enc,zh.enc,List.map_cons,List.map_nil]at hget hprev h1 h2 h3 h4 IH ⊢
    cases a1<;>cases a2<;>cases h5:Op.bytesLess kq kx<;>rw[h5]at hcmp
    all_goals
     refine zj func22 rfl rfl ?_;simp (disch:=(try simp only[LL]);omega) only[↓GO,↓DRW,GA,GX,ren,zk,za,refs,z8,cst,zo,isC,bin,una,z7,zd,blt,asArg,zg,zc,zf,z6,zr,unN,ze,zm,zb,GS,simprocAttr,GZ,zh.zF,c,hget,zi,h1,h2,h3,h4,hgt,hprev,hcmp,IH,zA]
theorem iN (g:zB)(hB:GB g):zy (EV prog pol) 22 [.agg (g.enc.map .t)]=some (.t (.bool (yj g))):=by
 have L:=Sb g hB g.packs [] rfl;have h3:=Wf g hB g.top (by have:=hB.len;omega);simp only[List.length_nil,Int.natCast_zero,List.getLast?_nil,Option.map_none]at L;simp only[zB.enc,List.map_cons,List.map_nil]at L h3 ⊢;unfold yj;generalize xX g.packs none g.top=a2 at *
 cases h:vk g.packs none g.packs<;>rw[h]at L<;>simp only[cond_true,cond_false]at L<;>cases h4:decide ((g.packs.length:Int)≤40)<;>cases a2
 all_goals
  apply zw;refine zx rfl func22 rfl (by kernel_rfl) ?_;unfold Tryz.f22;simp (disch:=(try simp only[LL]);omega) only[↓GO,↓DRW,GA,GX,ren,zk,za,refs,z8,cst,zo,isC,bin,una,z7,zd,blt,asArg,zg,zc,zf,z6,zr,unN,ze,zm,zb,GS,simprocAttr,GZ,L,zh.zF,h3,h4,zA]
theorem Sa (g:zB)(hB:GB g):∀ (rest pre:List zh),g.packs=pre++rest →
 EV prog pol (.loop 21 26 0 [.ptr 0 0 0,.t (.int .i64 (pre.length:Int))] [.vs 2 [g.enc.map .t]])=some (cond (vk g.packs (pre.getLast?.map keyOf) rest) (.loop (.exit 0) [.ptr 0 0 0,.bad] [.vs 2 [g.enc.map .t]]) (.loop .ret [.ptr 0 0 0,.t (.bool false)] [.vs 2 [g.enc.map .t]]))
 | [],pre,hs=>by
  have c:decide ((pre.length:Int)<(g.packs.length:Int))=false:=by simp[hs]
  simp only[zB.enc,List.map_cons,List.map_nil];refine zj func21 rfl rfl ?_;simp (disch:=(try simp only[LL]);omega) only[↓GO,↓DRW,GA,GX,ren,zk,za,refs,z8,cst,zo,isC,bin,una,z7,zd,blt,asArg,zg,zc,zf,z6,zr,unN,ze,zm,zb,GS,simprocAttr,GZ,c,zh.zF,vk,zA]
 | x :: rest, pre, hs => by
  obtain⟨b1,b2,b3⟩:=hB.len;have c:decide ((pre.length:Int)<(g.packs.length:Int))=true:=by simp[hs];omega
  have hget:(zh.zC g.packs)[pre.length]? = some x.enc:=by rw[hs];exact vN zh.enc pre x rest
  have hlen:pre.length+rest.length+1≤g.packs.length:=by rw[hs];simp;omega
  have hxb:=b3 x (by rw[hs];simp);have IH:=Sa g hB rest (pre++[x]) (by rw[hs];simp);have h1:=QI x hxb;have h2:=tU x (by omega);have h3:=We g hB x.zE (kY hxb).1;rw[show ((pre++[x]).length:Int)=(pre.length:Int)+1 by simp,show (pre++[x]).getLast?.map keyOf=some (keyOf x) by simp]at IH;rw[vk];generalize th x=a1 at *;generalize xX g.packs none x.zE=a2 at *;rcases vn pre with rfl|⟨pre',q,rfl⟩
  · clear hs;generalize keyOf x=kx at *;simp only[List.length_nil,List.getLast?_nil,Option.map_none,uO,Int.natCast_zero,Int.zero_add]at *;simp only[zB.enc,zh.enc,List.map_cons,List.map_nil]at hget h1 h2 h3 IH ⊢
    cases a1<;>cases a2
    all_goals
     refine zj func21 rfl rfl ?_;simp (disch:=(try simp only[LL]);omega) only[↓GO,↓DRW,GA,GX,ren,zk,za,refs,z8,cst,zo,isC,bin,una,z7,zd,blt,asArg,zg,zc,zf,z6,zr,unN,ze,zm,zb,GS,simprocAttr,GZ,zh.zF,c,hget,zi,h1,h2,h3,IH,Int.zero_add,zA]
  · have hprev:tI (zh.zC g.packs) (((pre'++[q]).length:Int) - 1)=some q.enc:=by rw[hs];exact so zh.enc pre' q (x::rest)
    have h4:=tU q (by have:=b3 q (by rw[hs];simp);omega);have hge:1≤(pre'++[q]).length:=by simp
    have hgt:decide (((pre'++[q]).length:Int) > 0)=true:=by simp only[decide_eq_true_eq];omega
    rw[show (pre'++[q]).getLast?.map keyOf=some (keyOf q) by simp];simp only[uO];clear hs;generalize (pre'++[q]).length=m at *;generalize keyOf x=kx at *;generalize keyOf q=kq at *;simp only[zB.enc,zh.enc,List.map_cons,List.map_nil]at hget hprev h1 h2 h3 h4 IH ⊢
    cases a1<;>cases a2<;>cases h5:Op.bytesLess kq kx
    all_goals
     refine zj func21 rfl rfl ?_;simp (disch:=(try simp only[LL]);omega) only[↓GO,↓DRW,GA,GX,ren,zk,za,refs,z8,cst,zo,isC,bin,una,z7,zd,blt,asArg,zg,zc,zf,z6,zr,unN,ze,zm,zb,GS,simprocAttr,GZ,zh.zF,c,hget,zi,h1,h2,h3,h4,hgt,hprev,h5,IH,zA]
theorem iM (g:zB)(hB:GB g):zy (EV prog pol) 21 [.agg (g.enc.map .t)]=some (.t (.bool (yj g))):=by
 have L:=Sa g hB g.packs [] rfl;have h3:=We g hB g.top (by have:=hB.len;omega);simp only[List.length_nil,Int.natCast_zero,List.getLast?_nil,Option.map_none]at L;simp only[zB.enc,List.map_cons,List.map_nil]at L h3 ⊢;unfold yj;generalize xX g.packs none g.top=a2 at *
 cases h:vk g.packs none g.packs<;>rw[h]at L<;>simp only[cond_true,cond_false]at L<;>cases h4:decide ((g.packs.length:Int)≤40)<;>cases a2
 all_goals
  apply zw;refine zx rfl func21 rfl (by kernel_rfl) ?_;unfold Tryz.f21;simp (disch:=(try simp only[LL]);omega) only[↓GO,↓DRW,GA,GX,ren,zk,za,refs,z8,cst,zo,isC,bin,una,z7,zd,blt,asArg,zg,zc,zf,z6,zr,unN,ze,zm,zb,GS,simprocAttr,GZ,L,zh.zF,h3,h4,zA]
def o9 (b:UInt8)(s:Str):Nat→Option Nat
 | 0=>none
 | n+1=>if s[n]? = some b then some n else o9 b s n
def xx (k:Str):Str×Str:=match o9 64 k k.length with
 | some n=>(k.take n,k.drop (n+1))
 | none=>([],[])
theorem Po (s:Str)(hl:s.length≤4611686018427387904):∀ n:Nat,n≤s.length →
 EV prog pol (.loop 106 26 0 [.t (.str s),.t (.int .i64 ((n:Int) - 1))] [])=some (match o9 64 s n with|some k=>.loop .ret [.t (.str (s.take k)),.t (.str (s.drop (k+1)))] []|none=>.loop (.exit 0) [.bad,.bad] [])
 | 0,hn=>by
  have c:decide ((0:Int) - 1≥0)=false:=by decide
  refine zj func106 rfl rfl ?_;simp (disch:=(try simp only[LL]);omega) only[↓GO,↓DRW,GA,GX,ren,zk,za,refs,z8,cst,zo,isC,bin,una,z7,zd,blt,asArg,zg,zc,zf,z6,zr,unN,ze,zm,zb,GS,simprocAttr,GZ,c,o9]
 | n + 1, hn => by
  have c:decide ((n:Int)≥0)=true:=by simp
  have e:((n+1:Nat):Int) - 1=(n:Int):=by omega
  have IH:=Po s hl n (by omega);rw[e,o9];obtain⟨x,hx⟩:∃ x,s[n]? = some x:=⟨s[n]'(by omega),by simp⟩;rw[hx]
  by_cases h:x=64
  · subst h;have c3:(((64:UInt8)).toNat:Int)=64:=rfl;rw[if_pos rfl];refine zj func106 rfl rfl ?_;simp (disch:=(try simp only[LL]);omega) only[↓GO,↓DRW,GA,GX,ren,zk,za,refs,z8,cst,zo,isC,bin,una,z7,zd,blt,asArg,zg,zc,zf,z6,zr,unN,ze,zm,zb,GS,simprocAttr,GZ,c,hx,zi,c3]
  · have c2:((x.toNat:Int)==64)=false:=by
     rw[beq_eq_false_iff_ne];intro e;exact h (UInt8.toNat_inj.1 (by rw[show (64:UInt8).toNat=64 from rfl];omega))
    rw[if_neg (by simpa using h)];refine zj func106 rfl rfl ?_;simp (disch:=(try simp only[LL]);omega) only[↓GO,↓DRW,GA,GX,ren,zk,za,refs,z8,cst,zo,isC,bin,una,z7,zd,blt,asArg,zg,zc,zf,z6,zr,unN,ze,zm,zb,GS,simprocAttr,GZ,c,hx,zi,c2,IH]
theorem R2 (k:Str)(hl:k.length≤4611686018427387904):zy (EV prog pol) 106 [.t (.str k)]=some (.tup [.t (.str (xx k).1),.t (.str (xx k).2)]):=by
 have L:=Po k hl k.length (Nat.le_refl _);unfold xx
 cases hc:o9 64 k k.length<;>rw[hc]at L<;>simp only at L
 all_goals
  apply zw;refine zx rfl func106 rfl (by kernel_rfl) ?_;unfold Tryz.f106;simp (disch:=(try simp only[LL]);omega) only[↓GO,↓DRW,GA,GX,ren,zk,za,refs,z8,cst,zo,isC,bin,una,z7,zd,blt,asArg,zg,zc,zf,z6,zr,unN,ze,zm,zb,GS,simprocAttr,GZ,L,zi]
structure yZ where
 low:List UInt8
 high:List UInt8
def yZ.enc (x:yZ):List T:=[.str x.low,.str x.high]
def yZ.zC (l:List yZ):List (List T):=l.map yZ.enc
def yZ.zX (x:yZ):Nat:=x.low.length+x.high.length
def yZ.yr:List yZ→Nat
 | []=>0
 | c::cs=>yZ.zX c+yZ.yr cs
def yZ.ok (x:yZ):Prop:=x.low.length≤9223372036854775807∧x.high.length≤9223372036854775807
theorem yZ.vO (x:yZ):x.enc.length=2:=rfl
theorem yZ.wN (x:yZ):x.enc.take 2=x.enc:=rfl
theorem yZ.zF (cs:List yZ):(yZ.zC cs).length=cs.length:=by simp[yZ.zC]
theorem yZ.vg (cs:List yZ)(i:Nat)(h:i<cs.length):(yZ.zC cs)[i]? = some cs[i].enc:=by simp[yZ.zC,h]
theorem yZ.yE:∀ {cs:List yZ} {c:yZ},c∈cs→c.zX≤yZ.yr cs
 | c'::cs,c,h=>by
  simp only[yZ.yr];rcases List.mem_cons.1 h with rfl|h
  · omega
  · have:=yZ.yE h;omega
structure zu where
 name:List UInt8
 range:List UInt8
 text:List UInt8
def zu.enc (x:zu):List T:=[.str x.name,.str x.range,.str x.text]
def zu.zC (l:List zu):List (List T):=l.map zu.enc
def zu.zX (x:zu):Nat:=x.name.length+x.range.length+x.text.length
def zu.yr:List zu→Nat
 | []=>0
 | c::cs=>zu.zX c+zu.yr cs
def zu.ok (x:zu):Prop:=x.name.length≤9223372036854775807∧x.range.length≤9223372036854775807∧x.text.length≤9223372036854775807
theorem zu.vO (x:zu):x.enc.length=3:=rfl
theorem zu.wN (x:zu):x.enc.take 3=x.enc:=rfl
theorem zu.zF (cs:List zu):(zu.zC cs).length=cs.length:=by simp[zu.zC]
theorem zu.vg (cs:List zu)(i:Nat)(h:i<cs.length):(zu.zC cs)[i]? = some cs[i].enc:=by simp[zu.zC,h]
theorem zu.yE:∀ {cs:List zu} {c:zu},c∈cs→c.zX≤zu.yr cs
 | c'::cs,c,h=>by
  simp only[zu.yr];rcases List.mem_cons.1 h with rfl|h
  · omega
  · have:=zu.yE h;omega
end Go.Proofs.YtefkoljdebekdaaGreatDoor
